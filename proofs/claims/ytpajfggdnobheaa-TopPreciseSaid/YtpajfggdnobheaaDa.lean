/- A part of TopPrecise's proof. -/
import Derived.Test.YtpajfggdnobheaaCa
set_option linter.unusedVariables false
set_option linter.unusedSimpArgs false
open List renaming length_map->z00,getD->z01,map_cons->z03,mem_cons->z04,getElem_mem->z05,idxOf_cons_self->z06,replicate->z07,contains_cons->z08,ext_getElem?->z09,map_nil->z0a,not_mem_nil->z0f,cons_append->z0g,map_id->z0h,take_take->z0k,drop_take->z0l,mem_singleton->z0o,getElem?_set->z0q
open Nat renaming mul_le_mul_right->z02,lt_or_ge->z0b,zero_le->z0c,zero_add->z0e,not_lt_zero->z0j,succ_mul->z0m,le_refl->z0n
open Bool renaming true_or->z0d,false_eq_true->z0p
open Go.Value renaming ownBlock->z0i
namespace Go.Sx
open Go
variable {P:Program} {main:Bool} {Fz:Nat->Prop}
mutual
def aI:(T:TT)->List ay->SV->Den T
 | .int _,_,x=>match x with
  | .int _ n=>n
  |_=>(0:Int)
 | .bool,_,x=>match x with
  | .bool b=>b
  |_=>false
 | .str,_,x=>match x with
  | .str s=>s
  |_=>([]:List UInt8)
 | .st l,m,x=>match x with
  | .agg xs=>Lp l m xs
  |_=>akl l
 | .arr _ _ T,m,x=>match x with
  | .arr _ _ f=>λi:Nat=>aI T m (f i)
  |_=>λ_:Nat=>bg T
 | .sl _ T,m,x=>match x with
  | .lst _ _ f l=>l.map λy=>aI T m (f y)
  | .vec i _=>match ak m i with
   | .vec _ _ l=>l.map λy=>aI T m y
   |_=>([]:List (Den T))
  |_=>([]:List (Den T))
 | .ref T,m,x=>match x with
  | .ref c _ _=>aI T m c
  | .ptr i _ _=>match ak m i with
   | .blk _ c=>aI T m c
   |_=>bg T
  |_=>bg T
def Lp:(l:List TT)->List ay->List SV->Bc l
 |[],_,_=>()
 |T::l,m,xs=>match xs with
  |x::xs=>(aI T m x,Lp l m xs)
  |[]=>akl (T::l)
end
mutual
def decP:(T:TT)->List ay->SV->Prop
 | .int k,_,x=>match x with
  | .int k' _=>k'=k
  |_=>False
 | .bool,_,x=>match x with
  | .bool _=>True
  |_=>False
 | .str,_,x=>match x with
  | .str _=>True
  |_=>False
 | .st l,m,x=>match x with
  | .agg xs=>YW l m xs
  |_=>False
 | .arr n w T,m,x=>match x with
  | .arr n' w' f=>n'=n/\w'=w/\∀ i,i<n->decP T m (f i)
  |_=>False
 | .sl w T,m,x=>match x with
  | .lst w' _ f l=>w'=w/\∀ y∈l,decP T m (f y)
  | .vec i _=>match ak m i with
   | .vec _ w' l=>w'=w/\∀ y∈l,decP T m y
   |_=>False
  | .dO=>True
  |_=>False
 | .ref T,m,x=>match x with
  | .ref c p o=>p=[]/\o=0/\decP T m c
  | .ptr i p o=>match ak m i with
   | .blk _ c=>p=[]/\o=0/\decP T m c
   |_=>False
  |_=>False
def YW:(l:List TT)->List ay->List SV->Prop
 |[],_,xs=>match xs with
  |[]=>True
  |_=>False
 |T::l,m,xs=>match xs with
  |x::xs=>decP T m x/\YW l m xs
  |[]=>False
end
mutual
theorem yg:∀ (T:TT) (m:List ay) (y:Den T),aI T m (aA T y)=y
 | .int _,_,_=>rfl
 | .bool,_,_=>rfl
 | .str,_,_=>rfl
 | .st l,m,y=>Lr l m y
 | .arr _ _ T,m,f=>by
  simp only[aA,aI]
  funext i
  exact yg T m (f i)
 | .sl _ T,m,l=>by
  simp only[aA,aI];have:(λy=>aI T m (aA T y))=id:=by funext y;exact yg T m y
  rw[this,z0h]
 | .ref T,m,y=>by simp only[aA,aI];exact yg T m y
theorem Lr:∀ (l:List TT) (m:List ay) (y:Bc l),Lp l m (rJ l y)=y
 |[],_,_=>rfl
 |T::l,m,y=>by simp only[rJ,Lp];rw[yg T m y.1,Lr l m y.2]
end
mutual
theorem yj:∀ (T:TT) (m:List ay) (y:Den T),decP T m (aA T y)
 | .int _,_,_=>rfl
 | .bool,_,_=>trivial
 | .str,_,_=>trivial
 | .st l,m,y=>Lu l m y
 | .arr _ _ T,m,f=>by
  simp only[aA,decP];exact⟨trivial,trivial,λi _=>yj T m (f i)⟩
 | .sl _ T,m,l=>by
  simp only[aA,decP];exact⟨trivial,λy _=>yj T m y⟩
 | .ref T,m,y=>by simp only[aA,decP];exact⟨trivial,trivial,yj T m y⟩
theorem Lu:∀ (l:List TT) (m:List ay) (y:Bc l),YW l m (rJ l y)
 |[],_,_=>trivial
 |T::l,m,y=>⟨yj T m y.1,Lu l m y.2⟩
end
theorem akm:∀ (T:TT) {m:List ay} {x:SV},decP T m x->(aA T (aI T m x)).isAgg=x.isAgg:=by
 intro T m x h;cases T<;>cases x<;>simp only[decP] at h<;>first
  |exact h.elim
  |rfl
mutual
theorem Af{J:Env}{m:List ay}{w:World}(g:Good J m w):∀ (T:TT) {x:SV},decP T m x->∀ {cs:List Value},ah x J cs->ah (aA T (aI T m x)) (jZ J m w).cl cs
 | .int k,x,h,cs,hs=>by
  cases x<;>simp only[decP] at h;subst h;exact hs
 | .bool,x,h,cs,hs=>by
  cases x<;>simp only[decP] at h;exact hs
 | .str,x,h,cs,hs=>by
  cases x<;>simp only[decP] at h;exact hs
 | .st l,x,h,cs,hs=>by
  cases x<;>simp only[decP] at h;simp only[ah] at hs;simp only[aI,aA,ah];exact YX g l h hs
 | .arr n wd' T,x,h,cs,hs=>by
  cases x<;>simp only[decP] at h;obtain⟨rfl,rfl,h⟩:=h;simp only[ah] at hs;simp only[aI,aA,ah];exact⟨hs.1,λi hi=>Af g T (h i hi) (hs.2 i hi)⟩
 | .sl wd' T,x,h,cs,hs=>by
  have hcl:∀ {y:SV} {cs:List Value},ah y J.cl cs->ah y J cs:=λh=>ah.mono _ J.Eb h;cases x with
  |lst w' d f l=>
   simp only[decP] at h;obtain⟨rfl,h⟩:=h;simp only[ah] at hs;simp only[aI,aA,ah];obtain⟨ao,cap,h1,h2,h3,h4,h5⟩:=hs;refine⟨ao,cap,by rw[h1,z00],by rw[z00];exact h2,h3,h4,λi hi=> ?_⟩
   rw[z00] at hi;obtain⟨b,off,T',fz,cur,e1,e2,e3,e4⟩:=h5 i hi;refine⟨b,off,T',fz,cur,e1,wP g _ _ e2,e3,?_⟩;have hx:l.getD i d=l[i]:=by simp[z01,hi]
   rw[hx] at e4;have hy:(l.map λy=>aI T m (f y)).getD i (bg T)=aI T m (f l[i]):=by simp[z01,hi]
   rw[hy];exact Af g T (h _ (z05 hi)) (hcl e4)
  |dO=>
   simp only[ah] at hs;subst hs;simp only[aI,aA,ah];exact⟨none,0,rfl,z0n _,z0c _,λ_=>rfl,λi hi=>absurd hi (z0j _)⟩
  |vec i n=>
   simp only[decP] at h;cases hm:ak m i with
   |vec E w' l=>
    rw[hm] at h;obtain⟨rfl,h⟩:=h;simp only[aI,hm,aA,ah];simp only[ah] at hs;obtain⟨h1,hn,h3⟩:=hs;have hr:=g.res i;rw[hm] at hr;obtain⟨xs,⟨T0,hT0,e0,e1⟩,e2⟩:=hr;rcases e1 with⟨k1,k2⟩|⟨b,cap,cur,k1,k2,k3,k4,k5,k6,k7⟩
    ·refine⟨none,0,by rw[h3,k1];simp[k2],by simp[k2],z0c _,λ_=>rfl,λj hj=> ?_⟩
     rw[z00] at hj;omega
    ·refine⟨some ⟨b,0,none⟩,cap,by rw[h3,k1,z00],by rw[z00];exact k4,k5,(λh=>by cases h),λj hj=> ?_⟩
     rw[z00] at hj;have hjl:j*w'+w'<=l.length*w':=by
      have:=z02 w' (show j+1<=l.length from hj)
      rw[z0m] at this;exact this
     have hcap:l.length*w'<=cap*w':=z02 _ k4;refine⟨b,0,T0,(0,0),cur,rfl,?_,by omega,?_⟩
     ·show(jZ J m w).H b=_;rw[uS (i:=i) (by rw[hm];simp[aS,k1,z0i])];exact k3
     ·have hx:l.getD j .junk=l[j]:=by simp[z01,hj]
      have hy:(l.map λy=>aI T m y).getD j (bg T)=aI T m l[j]:=by simp[z01,hj]
      rw[hy];have e3:=e2 j hj;rw[hx] at e3;have:=Af g T (h _ (z05 hj)) e3;have hsu:sub cur.toList (0+j*w') w'=sub xs (j*w') w':=by
       rw[<- k7];simp only[sub,z0e];rw[z0l,z0k]
       congr 1
       omega
      rw[hsu];exact this
   |dead=>rw[hm] at h;exact h.elim
   |blk T c=>rw[hm] at h;exact h.elim
   |mp ek ev l=>rw[hm] at h;exact h.elim
  |_=>exact h.elim
 | .ref T,x,h,cs,hs=>by
  have hcl:∀ {y:SV} {cs:List Value},ah y J.cl cs->ah y J cs:=λh=>ah.mono _ J.Eb h;cases x with
  |ref c p o=>
   simp only[decP] at h;obtain⟨rfl,rfl,h⟩:=h;simp only[ah] at hs;simp only[aI,aA,ah];obtain⟨b,T',fz,cur,h1,h2,h3,h4⟩:=hs;exact⟨b,T',fz,cur,h1,wP g _ _ h2,h3,Af g T h (hcl h4)⟩
  |ptr i p o=>
   simp only[decP] at h;cases hm:ak m i with
   |blk T' c=>
    rw[hm] at h;obtain⟨rfl,rfl,h⟩:=h;simp only[aI,hm,aA,ah];simp only[ah] at hs;obtain⟨h1,h2,h3⟩:=hs;have hr:=g.res i;rw[hm] at hr;obtain⟨cs',e1,e2⟩:=hr;refine⟨J.blk i,T',(0,0),cs'.toArray,h3,?_,h2,Af g T h e2⟩;show(jZ J m w).H _=_;rw[uS (i:=i) (by rw[hm];rfl)];exact e1
   |dead=>rw[hm] at h;exact h.elim
   |vec E w' l=>rw[hm] at h;exact h.elim
   |mp ek ev l=>rw[hm] at h;exact h.elim
  |_=>exact h.elim
theorem YX{J:Env}{m:List ay}{w:World}(g:Good J m w):∀ (l:List TT) {xs:List SV},YW l m xs->∀ {cs:List Value},bV xs J cs->bV (rJ l (Lp l m xs)) (jZ J m w).cl cs
 |[],xs,h,cs,hs=>by
  cases xs with
  |nil=>exact hs
  |cons=>exact h.elim
 |T::l,xs,h,cs,hs=>by
  cases xs with
  |nil=>exact h.elim
  |cons x xs=>
   obtain⟨h1,h2⟩:=h;simp only[bV] at hs;obtain⟨a,b,e1,e2,e3⟩:=hs;simp only[Lp,rJ,bV];exact⟨a,b,e1,Af g T h1 e2,YX g l h2 e3⟩
end
def shf(n:Nat):Nat->Option Nat:=λj=>some (n+j)
theorem aby(n:Nat):jd [] n=shf n:=by funext j;simp[jd,shf]
theorem YZ{f:FuncId}{args nH:List SV}{m m1:List ay}{res:SV}(h:bC P main Fz f nH [] res m1)(ha:∀ J w vs,Good J m w->bT args J vs->bT nH (jZ J m w).cl vs)
  (hres:Gu (ren (shf m.length) res)) (hm1:∀ x∈m1,sN (dR (shf m.length) x)):
  qh P main Fz f args m (ren (shf m.length) res) (m++m1.map (dR (shf m.length))):=by
 rw[<- aby] at hres hm1 ⊢;exact adW h ha hres hm1
mutual
def Y0:TT->Bool
 | .st l=>OJ l
 | .arr _ _ T=>Y0 T
 | .sl _ _=>false
 | .ref _=>false
 |_=>true
def OJ:List TT->Bool
 |[]=>true
 |T::l=>Y0 T&&OJ l
end
mutual
theorem OL:∀ (T:TT) (r:Nat->Option Nat) (y:Den T),ren r (aA T y)=aA T y
 | .int _,_,_=>rfl
 | .bool,_,_=>rfl
 | .str,_,_=>rfl
 | .st l,r,y=>by simp only[aA,ren];rw[SY]
 | .arr _ _ T,r,f=>by simp only[aA,ren];congr;funext i;exact OL T r (f i)
 | .sl _ T,_,_=>rfl
 | .ref T,_,_=>rfl
theorem SY:∀ (l:List TT) (r:Nat->Option Nat) (y:Bc l),dH r (rJ l y)=rJ l y
 |[],_,_=>rfl
 |T::l,r,y=>by simp only[rJ,dH];rw[OL T r y.1,SY l r y.2]
end
mutual
theorem Jy:∀ (T:TT) (i:Nat) (y:Den T),kill i (aA T y)=aA T y
 | .int _,_,_=>rfl
 | .bool,_,_=>rfl
 | .str,_,_=>rfl
 | .st l,i,y=>by simp only[aA,kill];rw[LC]
 | .arr _ _ T,i,f=>by simp only[aA,kill];congr;funext j;exact Jy T i (f j)
 | .sl _ T,_,_=>rfl
 | .ref T,_,_=>rfl
theorem LC:∀ (l:List TT) (i:Nat) (y:Bc l),dn i (rJ l y)=rJ l y
 |[],_,_=>rfl
 |T::l,i,y=>by simp only[rJ,dn];rw[Jy T i y.1,LC l i y.2]
end
theorem MF(i:Nat)(a b:List SV):dn i (a++b)=dn i a++dn i b:=by
 induction a with
 |nil=>rfl
 |cons x l ih=>simp only[z0g,dn];rw[ih]
theorem Qm(r:Nat->Option Nat)(a b:List SV):dH r (a++b)=dH r a++dH r b:=by
 induction a with
 |nil=>rfl
 |cons x l ih=>simp only[z0g,dH];rw[ih]
theorem OM:∀ (T:TT) (y:Den T),Y0 T=true->Gs (aA T y)
 | .int k,y,_=>iZ k y
 | .bool,y,_=>QG y
 | .str,y,_=>Yg y
 | .st l,y,h=>uT (noL l y h)
 | .arr _ _ T,f,h=>Nh λi _=>OM T (f i) h
where noL:∀ (l:List TT) (y:Bc l),OJ l=true->∀ x∈rJ l y,Gs x
 |[],_,_,_,hx=>by cases hx
 |T::l,y,h,x,hx=>by
  simp only[OJ,Bool.and_eq_true] at h;simp only[rJ,z04] at hx;rcases hx with rfl|hx
  ·exact OM T y.1 h.1
  ·exact noL l y.2 h.2 x hx
theorem abz(T:TT)(y:Den T):(aA T y).isVal=true:=by cases T<;>rfl
end Go.Sx
namespace Go.Sx
open Go
variable {P:Program} {main:Bool} {Fz:Nat->Prop}
def allL.{u}{β:Type u}(l:List β)(p:β->Prop):Prop:= ∀ y∈l,p y
theorem aaG.{u}{β:Type u}(p:β->Prop)(x:β)(l:List β):allL (x::l) p=(p x/\allL l p):=by simp[allL]
theorem adg.{u}{β:Type u}(p:β->Prop):allL ([]:List β) p=True:=by simp[allL]
theorem adh.{u}{β:Type u}(p:β->Prop)(a b:List β):allL (a++b) p=(allL a p/\allL b p):=by simp[allL,or_imp,forall_and]
theorem Qn.{u,v}{β:Type u}{γ:Type v}(p:β->Prop)(f:γ->β)(l:List γ):allL (l.map f) p=allL l (λy=>p (f y)):=by simp[allL]
theorem aaH.{u}{β:Type u}(l:List β):allL l (λ_=>True)=True:=by simp[allL]
structure DT(α:Type) where
 bg:α
 aA:α->SV
 aI:List ay->SV->α
 decP:List ay->SV->Prop
 ok:∀ {J:Env} {m:List ay} {w:World},Good J m w->∀ {x:SV},decP m x->∀ {cs:List Value},ah x J cs->ah (aA (aI m x)) (jZ J m w).cl cs
 agg:∀ {m:List ay} {x:SV},decP m x->(aA (aI m x)).isAgg=x.isAgg
 vE:∀ (m:List ay) (y:α),aI m (aA y)=y
 pE:∀ (m:List ay) (y:α),decP m (aA y)
 ren:∀ (r:Nat->Option Nat) (y:α),Sx.ren r (aA y)=aA y
 kill:∀ (i:Nat) (y:α),Sx.kill i (aA y)=aA y
 val:∀ y:α,(aA y).isVal=true
def DT.nO(T:TT):DT (Den T):=⟨Sx.bg T,Sx.aA T,Sx.aI T,Sx.decP T,λg _ h _ hs=>Af g T h hs,λh=>akm T h,yg T,yj T,OL T,Jy T,abz T⟩
def DT.NS{α β:Type}(d:DT α)(f:α->β)(g:β->α)(h1:∀ x,f (g x)=x)(h2:∀ x,g (f x)=x):DT β:=
 ⟨f d.bg,λy=>d.aA (g y),λm x=>f (d.aI m x),d.decP,λgd _ h _ hs=>by rw[h2];exact d.ok gd h hs,λh=>by rw[h2];exact d.agg h,λm y=>by rw[d.vE,h1],λm y=>d.pE m _,λr y=>d.ren r _,λi y=>d.kill i _,λy=>d.val _⟩
def DT.int:DT Int:=DT.nO (.int .i64)
def DT.byte:DT Int:=DT.nO (.int .u8)
def DT.bool:DT Bool:=DT.nO .bool
def DT.str:DT (List UInt8):=DT.nO .str
def DT.arr{α:Type}(n w:Nat)(d:DT α):DT (Nat->α) where
 bg:=λ_=>d.bg
 aA:=λf=> .arr n w λi=>d.aA (f i)
 aI:=λm x=>match x with
  | .arr _ _ f=>λi=>d.aI m (f i)
  |_=>λ_=>d.bg
 decP:=λm x=>match x with
  | .arr n' w' f=>n'=n/\w'=w/\∀ i,i<n->d.decP m (f i)
  |_=>False
 ok:=fun{J m w} g {x} h {cs} hs=>by cases x<;>simp only at h;obtain⟨rfl,rfl,h⟩:=h;simp only[ah] at hs ⊢;exact⟨hs.1,λi hi=>d.ok g (h i hi) (hs.2 i hi)⟩
 agg:=fun{m x} h=>by cases x<;>first|exact h.elim|rfl
 vE:=λm y=>by funext i;exact d.vE m (y i)
 pE:=λm y=>⟨rfl,rfl,λi _=>d.pE m (y i)⟩
 ren:=λr y=>by simp only[Sx.ren];congr;funext i;exact d.ren r (y i)
 kill:=λi y=>by simp only[Sx.kill];congr;funext j;exact d.kill i (y j)
 val:=λy=>rfl
def DT.list{α:Type}(wd':Nat)(d:DT α):DT (List α) where
 bg:=[]
 aA:=λl=> .lst wd' d.bg d.aA l
 aI:=λm x=>match x with
  | .lst _ _ f l=>l.map λy=>d.aI m (f y)
  | .lit _ _ f l=>l.map λy=>d.aI m (f y)
  | .vec i _=>match ak m i with
   | .vec _ _ l=>l.map λy=>d.aI m y
   |_=>[]
  | .kZ i n=>match ak m i with
   | .vec _ _ l=>(l.take n).map λy=>d.aI m y
   |_=>[]
  |_=>[]
 decP:=λm x=>match x with
  | .lst w' _ f l=>w'=wd'/\allL l λy=>d.decP m (f y)
  | .lit w' _ f l=>w'=wd'/\allL l λy=>d.decP m (f y)
  | .vec i _=>match ak m i with
   | .vec _ w' l=>w'=wd'/\allL l λy=>d.decP m y
   |_=>False
  | .kZ i n=>match ak m i with
   | .vec _ w' l=>w'=wd'/\n<=l.length/\allL (l.take n) λy=>d.decP m y
   |_=>False
  | .dO=>True
  |_=>False
 ok:=fun{J m w} g {x} h {cs} hs=>by
  have hcl:∀ {y:SV} {cs:List Value},ah y J.cl cs->ah y J cs:=λh=>ah.mono _ J.Eb h;cases x with
  |lst w' dd f l=>
   obtain⟨rfl,h⟩:=h;simp only[ah] at hs ⊢;obtain⟨ao,cap,h1,h2,h3,h4,h5⟩:=hs;refine⟨ao,cap,by rw[h1,z00],by rw[z00];exact h2,h3,h4,λi hi=> ?_⟩
   rw[z00] at hi;obtain⟨b,off,T',fz,cur,e1,e2,e3,e4⟩:=h5 i hi;refine⟨b,off,T',fz,cur,e1,wP g _ _ e2,e3,?_⟩;have hx:l.getD i dd=l[i]:=by simp[z01,hi]
   rw[hx] at e4;have hy:(l.map λy=>d.aI m (f y)).getD i d.bg=d.aI m (f l[i]):=by simp[z01,hi]
   rw[hy];exact d.ok g (h _ (z05 hi)) (hcl e4)
  |lit w' dd f l=>
   obtain⟨rfl,h⟩:=h;simp only[ah] at hs ⊢;obtain⟨ao,h1,h3,h4,h5⟩:=hs;refine⟨ao,l.length,by rw[h1,z00],by rw[z00];exact z0n _,h3,h4,λi hi=> ?_⟩
   rw[z00] at hi;obtain⟨b,off,T',fz,cur,e1,e2,e3,e4⟩:=h5 i hi;refine⟨b,off,T',fz,cur,e1,wP g _ _ e2,e3,?_⟩;have hx:l.getD i dd=l[i]:=by simp[z01,hi]
   rw[hx] at e4;have hy:(l.map λy=>d.aI m (f y)).getD i d.bg=d.aI m (f l[i]):=by simp[z01,hi]
   rw[hy];exact d.ok g (h _ (z05 hi)) (hcl e4)
  |dO=>
   simp only[ah] at hs ⊢;subst hs;exact⟨none,0,rfl,z0n _,z0c _,λ_=>rfl,λi hi=>absurd hi (z0j _)⟩
  |vec i n=>
   simp only at h ⊢;cases hm:ak m i with
   |vec E w' l=>
    rw[hm] at h;obtain⟨rfl,h⟩:=h;simp only[ah] at hs ⊢;obtain⟨h1,hn,h3⟩:=hs;have hr:=g.res i;rw[hm] at hr;obtain⟨xs,⟨T0,hT0,e0,e1⟩,e2⟩:=hr;rcases e1 with⟨k1,k2⟩|⟨b,cap,cur,k1,k2,k3,k4,k5,k6,k7⟩
    ·refine⟨none,0,by rw[h3,k1];simp[k2],by simp[k2],z0c _,λ_=>rfl,λj hj=> ?_⟩
     rw[z00] at hj;omega
    ·refine⟨some ⟨b,0,none⟩,cap,by rw[h3,k1,z00],by rw[z00];exact k4,k5,(λh=>by cases h),λj hj=> ?_⟩
     rw[z00] at hj;have hjl:j*w'+w'<=l.length*w':=by
      have:=z02 w' (show j+1<=l.length from hj)
      rw[z0m] at this;exact this
     have hcap:l.length*w'<=cap*w':=z02 _ k4;refine⟨b,0,T0,(0,0),cur,rfl,?_,by omega,?_⟩
     ·show(jZ J m w).H b=_;rw[uS (i:=i) (by rw[hm];simp[aS,k1,z0i])];exact k3
     ·have hx:l.getD j .junk=l[j]:=by simp[z01,hj]
      have hy:(l.map λy=>d.aI m y).getD j d.bg=d.aI m l[j]:=by simp[z01,hj]
      rw[hy];have e3:=e2 j hj;rw[hx] at e3;have:=d.ok g (h _ (z05 hj)) e3;have hsu:sub cur.toList (0+j*w') w'=sub xs (j*w') w':=by
       rw[<- k7];simp only[sub,z0e];rw[z0l,z0k]
       congr 1
       omega
      rw[hsu];exact this
   |dead=>rw[hm] at h;exact h.elim
   |blk T c=>rw[hm] at h;exact h.elim
   |mp ek ev l=>rw[hm] at h;exact h.elim
  |kZ i n=>
   simp only at h ⊢;cases hm:ak m i with
   |vec E w' l=>
    rw[hm] at h;obtain⟨rfl,hnl,h⟩:=h;simp only[ah] at hs ⊢;obtain⟨h1,ao,n0,cap0,hvv,hn0,h3⟩:=hs;have hr:=g.res i;rw[hm] at hr;obtain⟨xs,⟨T0,hT0,e0,e1⟩,e2⟩:=hr;have hlt:(l.take n).length=n:=by rw[List.length_take];omega
    rcases e1 with⟨k1,k2⟩|⟨b,cap,cur,k1,k2,k3,k4,k5,k6,k7⟩
    ·rw[hvv] at k1;injection k1 with a1 a2 a3;subst a1;subst a2;subst a3;have:n=0:=by omega
     subst this;refine⟨none,0,by rw[h3];simp,by simp,z0c _,λ_=>rfl,λj hj=> ?_⟩
     rw[z00,hlt] at hj;omega
    ·rw[hvv] at k1;injection k1 with a1 a2 a3;subst a1;subst a3;refine⟨some ⟨b,0,none⟩,cap0,by rw[h3,z00,hlt],by rw[z00,hlt];omega,k5,(λh=>by cases h),λj hj=> ?_⟩
     rw[z00,hlt] at hj;have hjl:j*w'+w'<=l.length*w':=by
      have:=z02 w' (show j+1<=l.length by omega)
      rw[z0m] at this;exact this
     have hcap:l.length*w'<=cap0*w':=z02 _ k4;refine⟨b,0,T0,(0,0),cur,rfl,?_,by omega,?_⟩
     ·show(jZ J m w).H b=_;rw[uS (i:=i) (by rw[hm];simp[aS,hvv,z0i])];exact k3
     ·have hx:l.getD j .junk=l[j]:=by simp[z01,show j<l.length by omega]
      have hy:((l.take n).map λy=>d.aI m y).getD j d.bg=d.aI m l[j]:=by simp[z01,hj,show j<l.length by omega]
      rw[hy];have e3:=e2 j (by omega)
      rw[hx] at e3;have:=d.ok g (h _ (by rw[List.mem_take_iff_getElem];exact⟨j,by omega,rfl⟩)) e3
      have hsu:sub cur.toList (0+j*w') w'=sub xs (j*w') w':=by
       rw[<- k7];simp only[sub,z0e];rw[z0l,z0k]
       congr 1
       omega
      rw[hsu];exact this
   |dead=>rw[hm] at h;exact h.elim
   |blk T c=>rw[hm] at h;exact h.elim
   |mp ek ev l=>rw[hm] at h;exact h.elim
  |_=>exact h.elim
 agg:=fun{m x} h=>by cases x<;>first|exact h.elim|rfl
 vE:=λm y=>by
  have:(λy=>d.aI m (d.aA y))=id:=by funext y;exact d.vE m y
  simp only[this,z0h]
 pE:=λm y=>⟨rfl,λz _=>d.pE m z⟩
 ren:=λr y=>rfl
 kill:=λi y=>rfl
 val:=λy=>rfl
def DT.ref{α:Type}(d:DT α):DT α where
 bg:=d.bg
 aA:=λy=> .ref (d.aA y) [] 0
 aI:=λm x=>match x with
  | .ref c _ _=>d.aI m c
  | .ptr i _ _=>match ak m i with
   | .blk _ c=>d.aI m c
   |_=>d.bg
  |_=>d.bg
 decP:=λm x=>match x with
  | .ref c p o=>p=[]/\o=0/\d.decP m c
  | .ptr i p o=>match ak m i with
   | .blk _ c=>p=[]/\o=0/\d.decP m c
   |_=>False
  |_=>False
 ok:=fun{J m w} g {x} h {cs} hs=>by
  have hcl:∀ {y:SV} {cs:List Value},ah y J.cl cs->ah y J cs:=λh=>ah.mono _ J.Eb h;cases x with
  |ref c p o=>
   obtain⟨rfl,rfl,h⟩:=h;simp only[ah] at hs ⊢;obtain⟨b,T',fz,cur,h1,h2,h3,h4⟩:=hs;exact⟨b,T',fz,cur,h1,wP g _ _ h2,h3,d.ok g h (hcl h4)⟩
  |ptr i p o=>
   simp only at h ⊢;cases hm:ak m i with
   |blk T' c=>
    rw[hm] at h;obtain⟨rfl,rfl,h⟩:=h;simp only[ah] at hs ⊢;obtain⟨h1,h2,h3⟩:=hs;have hr:=g.res i;rw[hm] at hr;obtain⟨cs',e1,e2⟩:=hr;refine⟨J.blk i,T',(0,0),cs'.toArray,h3,?_,h2,d.ok g h e2⟩;show(jZ J m w).H _=_;rw[uS (i:=i) (by rw[hm];rfl)];exact e1
   |dead=>rw[hm] at h;exact h.elim
   |vec E w' l=>rw[hm] at h;exact h.elim
   |mp ek ev l=>rw[hm] at h;exact h.elim
  |_=>exact h.elim
 agg:=fun{m x} h=>by cases x<;>first|exact h.elim|rfl
 vE:=λm y=>d.vE m y
 pE:=λm y=>⟨rfl,rfl,d.pE m y⟩
 ren:=λr y=>rfl
 kill:=λi y=>rfl
 val:=λy=>rfl
def DT.NK:DT Nat where
 bg:=0
 aA:=λf=> .fn f []
 aI:=λm x=>match x with
  | .fn f []=>f
  |_=>0
 decP:=λm x=>match x with
  | .fn _ []=>True
  |_=>False
 ok:=fun{J m w} g {x} h {cs} hs=>by
  split at h
  ·simp only[ah] at hs ⊢;obtain⟨vs,h1,h2⟩:=hs;exact⟨vs,h1,h2⟩
  ·exact h.elim
 agg:=fun{m x} h=>by
  split at h
  ·rfl
  ·exact h.elim
 vE:=λm y=>rfl
 pE:=λm y=>trivial
 ren:=λr y=>rfl
 kill:=λi y=>rfl
 val:=λy=>rfl
structure DA(α:Type) where
 bg:α
 aA:α->List SV
 aI:List ay->List SV->α
 decP:List ay->List SV->Prop
 ok:∀ {J:Env} {m:List ay} {w:World},Good J m w->∀ {xs:List SV},decP m xs->∀ {vs:List Value},bT xs J vs->bT (aA (aI m xs)) (jZ J m w).cl vs
 ren:∀ (r:Nat->Option Nat) (y:α),dH r (aA y)=aA y
 kill:∀ (i:Nat) (y:α),dn i (aA y)=aA y
 vE:∀ (m:List ay) (y:α),aI m (aA y)=y
 pE:∀ (m:List ay) (y:α),decP m (aA y)
def DA.nil:DA Unit:=⟨(),λ_=>[],λ_ _=>(),λ_ xs=>match xs with|[]=>True|_=>False,fun{J m w} g {xs} h {vs} hs=>by
 cases xs with
 |nil=>exact hs
 |cons=>exact h.elim,λ_ _=>rfl,λ_ _=>rfl,λ_ _=>rfl,λ_ _=>trivial⟩
def DA.cons{α β:Type}(d:DT α)(r:DA β):DA (α×β) where
 bg:=(d.bg,r.bg)
 aA:=λy=>d.aA y.1::r.aA y.2
 aI:=λm xs=>match xs with
  |x::xs=>(d.aI m x,r.aI m xs)
  |[]=>(d.bg,r.bg)
 decP:=λm xs=>match xs with
  |x::xs=>d.decP m x/\r.decP m xs
  |[]=>False
 ok:=fun{J m w} g {xs} h {vs} hs=>by
  cases xs with
  |nil=>exact h.elim
  |cons x xs=>
   obtain⟨h1,h2⟩:=h;simp only[bT] at hs ⊢;obtain⟨a,b,e1,e2,e3⟩:=hs;exact⟨a,b,by rw[d.agg h1];exact e1,d.ok g h1 e2,r.ok g h2 e3⟩
 ren:=λs y=>by simp only[dH,d.ren,r.ren]
 kill:=λs y=>by simp only[dn,d.kill,r.kill]
 vE:=λm y=>by simp only[d.vE,r.vE]
 pE:=λm y=>⟨d.pE m y.1,r.pE m y.2⟩
abbrev DA.one{α:Type}(a:DT α):DA (α×Unit):= .cons a .nil
abbrev DA.two{α β:Type}(a:DT α)(b:DT β):DA (α×β×Unit):= .cons a (.cons b .nil)
abbrev DA.three{α β γ:Type}(a:DT α)(b:DT β)(c:DT γ):DA (α×β×γ×Unit):= .cons a (.cons b (.cons c .nil))
abbrev DA.four{α β γ δ:Type}(a:DT α)(b:DT β)(c:DT γ)(d:DT δ):DA (α×β×γ×δ×Unit):= .cons a (.cons b (.cons c (.cons d .nil)))
def DT.clo{κ:Type}(f:FuncId)(A:DA κ):DT κ where
 bg:=A.bg
 aA:=λk=> .fn f (A.aA k)
 aI:=λm x=>match x with
  | .fn _ caps=>A.aI m caps
  |_=>A.bg
 decP:=λm x=>match x with
  | .fn g caps=>g=f/\A.decP m caps
  |_=>False
 ok:=fun{J m w} g {x} h {cs} hs=>by
  cases x with
  |fn g' caps=>
   obtain⟨rfl,h⟩:=h;simp only[ah] at hs ⊢;obtain⟨vs,h1,h2⟩:=hs;exact⟨vs,A.ok g h h1,h2⟩
  |_=>exact h.elim
 agg:=fun{m x} h=>by cases x<;>first|exact h.elim|rfl
 vE:=λm y=>A.vE m y
 pE:=λm y=>⟨rfl,A.pE m y⟩
 ren:=λr y=>by simp only[Sx.ren,A.ren]
 kill:=λi y=>by simp only[Sx.kill,A.kill]
 val:=λy=>rfl
structure DR(α:Type) where
 aA:α->SV
 ren:∀ (r:Nat->Option Nat) (y:α),Sx.ren r (aA y)=aA y
 noH:∀ y:α,Gu (aA y)
class Flat{α:Type}(d:DT α):Prop where
 noH:∀ y:α,Gs (d.aA y)
instance:Flat DT.int:=⟨λy=>iZ _ y⟩
instance:Flat DT.byte:=⟨λy=>iZ _ y⟩
instance:Flat DT.bool:=⟨λy=>QG y⟩
instance:Flat DT.str:=⟨λy=>Yg y⟩
instance {α:Type}{n w:Nat}{d:DT α}[h:Flat d]:Flat (DT.arr n w d):=⟨λy=>Nh λi _=>h.noH (y i)⟩
theorem Flat.nO{T:TT}(h:Y0 T=true):Flat (DT.nO T):=⟨λy=>OM T y h⟩
theorem Flat.NS{α β:Type}{d:DT α}(h:Flat d){f:α->β}{g:β->α}{h1:∀ x,f (g x)=x}{h2:∀ x,g (f x)=x}:Flat (d.NS f g h1 h2):=⟨λy=>h.noH (g y)⟩
def DR.unit:DR Unit:=⟨λ_=> .cu [],λ_ _=>rfl,λ_=>wM λ_ h=>by cases h⟩
def DR.one{α:Type}(d:DT α)[h:Flat d]:DR α:=⟨d.aA,d.ren,λy=>(h.noH y).val (d.val y)⟩
def DR.two{α β:Type}(a:DT α)(b:DT β)[ha:Flat a][hb:Flat b]:DR (α×β):=⟨λy=> .cu [a.aA y.1,b.aA y.2],λr y=>by simp only[Sx.ren,dH,a.ren,b.ren],λy=>wM λx hx=>by
 simp only[z04,z0f,or_false] at hx;rcases hx with rfl|rfl
 ·exact ha.noH _
 ·exact hb.noH _⟩
def DR.three{α β γ:Type}(a:DT α)(b:DT β)(c:DT γ)[ha:Flat a][hb:Flat b][hc:Flat c]:DR (α×β×γ):=⟨λy=> .cu [a.aA y.1,b.aA y.2.1,c.aA y.2.2],λr y=>by simp only[Sx.ren,dH,a.ren,b.ren,c.ren],λy=>wM λx hx=>by
 simp only[z04,z0f,or_false] at hx;rcases hx with rfl|rfl|rfl
 ·exact ha.noH _
 ·exact hb.noH _
 ·exact hc.noH _⟩
def FH.rd(f:FuncId){α ρ:Type}(A:DA α)(R:DR ρ)(pre:α->Prop)(F:α->ρ)(Γ:FH):FH:=
 FH.on f (λargs m=> .ro (A.decP m args/\pre (A.aI m args)) (R.aA (F (A.aI m args)))) Γ
theorem FH.dM{f:FuncId}{α ρ:Type}{A:DA α}{R:DR ρ}{pre:α->Prop}{F:α->ρ}{Γ:FH}(h:∀ y,pre y->bC P main Fz f (A.aA y) [] (R.aA (F y)) [])(hΓ:bQ P main Fz Γ)(hf:qp P f=true:=by kernel_rfl):bQ P main Fz (FH.rd f A R pre F Γ):=
 FH.Eo (λargs m hp=>⟨hf,by
  have:=YZ (h _ hp.2) (λJ w vs g hs=>A.ok g hp.1 hs) (by rw[R.ren];exact R.noH _) (λ_ h=>by cases h)
  rw[R.ren] at this;simpa using this⟩) hΓ
def FH.mk(f:FuncId){α:Type}(A:DA α)(pre:α->Prop)(F:α->SV)(M:α->List ay)(Γ:FH):FH:=
 FH.on f (λargs m=> .is (A.decP m args/\pre (A.aI m args)) (ren (shf m.length) (F (A.aI m args))) (m++(M (A.aI m args)).map (dR (shf m.length)))) Γ
def Na(x:SV)(M:List ay):Prop:= ∀ r,Gu (ren r x)/\∀ y∈M,sN (dR r y)
theorem FH.ku{f:FuncId}{α:Type}{A:DA α}{pre:α->Prop}{F:α->SV}{M:α->List ay}{Γ:FH}(hR:∀ y,pre y->Na (F y) (M y))(h:∀ y,pre y->bC P main Fz f (A.aA y) [] (F y) (M y))(hΓ:bQ P main Fz Γ)(hf:qp P f=true:=by kernel_rfl):bQ P main Fz (FH.mk f A pre F M Γ):=
 FH.Eo (λargs m hp=>⟨hf,YZ (h _ hp.2) (λJ w vs g hs=>A.ok g hp.1 hs) (hR _ hp.2 _).1 (hR _ hp.2 _).2⟩) hΓ
def FH.mt(f:FuncId){σ α ρ:Type}(T:TypeId)(d:DT σ)(A:DA α)(R:DR ρ)(pre:σ->α->Prop)(F:σ->α->ρ)(S:σ->α->σ)(Γ:FH):FH:=
 FH.on f (λargs m=>match args with
  |x::rest=>match x with
   | .ptr i p o=>match ak m i with
    | .blk T' c=> .is (T'=T/\p=[]/\o=0/\d.aA (d.aI [] c)=c/\A.aA (A.aI [] rest)=rest/\pre (d.aI [] c) (A.aI [] rest)) (R.aA (F (d.aI [] c) (A.aI [] rest))) (m.set i (.blk T (d.aA (S (d.aI [] c) (A.aI [] rest)))))
    |_=> .no
   |_=> .no
  |[]=> .no) Γ
theorem FH.zo{f:FuncId}{σ α ρ:Type}{T:TypeId}{d:DT σ}{A:DA α}{R:DR ρ}{pre:σ->α->Prop}{F:σ->α->ρ}{S:σ->α->σ}{Γ:FH}
  (h:∀ s y,pre s y->bC P main Fz f (.ptr 0 [] 0::A.aA y) [.blk T (d.aA s)] (R.aA (F s y)) [.blk T (d.aA (S s y))]) (hΓ:bQ P main Fz Γ) (hf:qp P f=true:=by kernel_rfl):bQ P main Fz (FH.mt f T d A R pre F S Γ):=
 FH.Eo (λargs m=>by
  cases args with
  |nil=>trivial
  |cons x rest=>
   cases x with
   |ptr i p o=>
    simp only;cases hm:ak m i with
    |dead=>trivial
    |vec T' w l=>trivial
    |mp ek ev l=>trivial
    |blk T' c=>
     rintro⟨rfl,rfl,rfl,h1,h2,h3⟩;refine⟨hf,?_⟩;generalize hs:d.aI [] c=s at h1 h3 ⊢;generalize hy:A.aI [] rest=y at h2 h3 ⊢;subst h1;subst h2;have hi:i<m.length:=by
      rcases z0b i m.length with hi|hi
      ·exact hi
      ·rw[bI hi] at hm;cases hm
     have key:=lG (args:= .ptr i [] 0::A.aA y) (m:=m) (h s y h3) [i] (by simp) (by simp[hm,ay.qw]) (by simp only[dH,A.ren,Sx.ren,iD,fQ,z08,BEq.rfl,z0d,if_true,z06])
      (by simp only[fJ,z03,z0a,hm,dR,d.ren]) (by simp) (by intro j hj;simp at hj;subst hj;rfl)
     rw[R.ren] at key;have hmm:eH [i] m [.blk T' (d.aA (S s y))]=m.set i (.blk T' (d.aA (S s y))):=by simp[eH,ak,dR,d.ren]
     rwa [hmm] at key
   |_=>trivial) hΓ
def DT.jZ{α:Type}(d:DT α):Frz:=⟨λm x=>d.aA (d.aI m x),λm x=>d.decP m x/\x.isVal=true,λg _ h _ hs=>d.ok g h.1 hs,λh=>d.agg h.1,λh=>h.2⟩
structure DP(α:Type) where
 aA:α->SV
 ren:∀ (r:Nat->Option Nat) (y:α),Sx.ren r (aA y)=aA y
def DP.one{α:Type}(d:DT α):DP α:=⟨d.aA,d.ren⟩
def DP.two{α β:Type}(a:DT α)(b:DT β):DP (α×β):=⟨λy=> .cu [a.aA y.1,b.aA y.2],λr y=>by simp only[Sx.ren,dH,a.ren,b.ren]⟩
def DP.three{α β γ:Type}(a:DT α)(b:DT β)(c:DT γ):DP (α×β×γ):=⟨λy=> .cu [a.aA y.1,b.aA y.2.1,c.aA y.2.2],λr y=>by simp only[Sx.ren,dH,a.ren,b.ren,c.ren]⟩
def FH.pz(f:FuncId){α ρ:Type}(A:DA α)(R:DP ρ)(pre:α->Prop)(F:α->ρ)(Γ:FH):FH:=
 FH.on f (λargs m=> .ro (A.aA (A.aI [] args)=args/\pre (A.aI [] args)) (R.aA (F (A.aI [] args)))) Γ
theorem FH.apm{f:FuncId}{α ρ:Type}{A:DA α}{R:DP ρ}{pre:α->Prop}{F:α->ρ}{Γ:FH}(h:∀ y,pre y->bC P main Fz f (A.aA y) [] (R.aA (F y)) [])(hΓ:bQ P main Fz Γ)(hf:qp P f=true:=by kernel_rfl):bQ P main Fz (FH.pz f A R pre F Γ):=
 FH.Eo (λargs m hp=>⟨hf,by
  have:=SS (m:=m) (args:=args) (h _ hp.2) (by rw[<- hp.1];rw[A.vE];exact A.ren _ _)
  rw[R.ren] at this;simpa using this⟩) hΓ
section words
variable {α:Type} {m:List ay}
theorem X5(n:Int):DT.int.aA n= .int .i64 n:=nr rfl
theorem adr(n:Int):DT.byte.aA n= .int .u8 n:=nr rfl
theorem ads(b:Bool):DT.bool.aA b= .bool b:=nr rfl
theorem adt(n:Int):DT.int.aI m (.int .i64 n)=n:=nr rfl
theorem aaI(n:Int):DT.byte.aI m (.int .u8 n)=n:=nr rfl
theorem aaJ(b:Bool):DT.bool.aI m (.bool b)=b:=nr rfl
theorem adu(n:Int):DT.int.decP m (.int .i64 n)=True:=eq_true rfl
theorem aaK(n:Int):DT.byte.decP m (.int .u8 n)=True:=eq_true rfl
theorem aaL(b:Bool):DT.bool.decP m (.bool b)=True:=eq_true trivial
theorem apA(d:DT α)(y:α):d.aI m (d.aA y)=y:=d.vE m y
theorem apB(d:DT α)(y:α):d.decP m (d.aA y)=True:=eq_true (d.pE m y)
theorem amE(d:DT α)(y:α):(d.aA y).isVal=true:=d.val y
theorem amF(d:DT α)(r)(y:α):ren r (d.aA y)=d.aA y:=d.ren r y
theorem aiE(d:DT α)(i)(y:α):kill i (d.aA y)=d.aA y:=d.kill i y
theorem Aw(d:DT α)(r)(l:List α):dH r (l.map d.aA)=l.map d.aA:=by
 induction l with
 |nil=>rfl
 |cons x l ih=>simp only[z03,dH];rw[d.ren,ih]
theorem adi(d:DT α)(r)(l:List α):dn r (l.map d.aA)=l.map d.aA:=by
 induction l with
 |nil=>rfl
 |cons x l ih=>simp only[z03,dn];rw[d.kill,ih]
theorem aiK(n w:Nat)(d:DT α)(f:Nat->α):(DT.arr n w d).aA f= .arr n w λi=>d.aA (f i):=nr rfl
theorem adv(n w:Nat)(d:DT α)(n' w':Nat)(f:Nat->SV):(DT.arr n w d).aI m (.arr n' w' f)=λi=>d.aI m (f i):=nr rfl
theorem adw(n w:Nat)(d:DT α)(n' w':Nat)(f:Nat->SV):(DT.arr n w d).decP m (.arr n' w' f)=(n'=n/\w'=w/\∀ i,i<n->d.decP m (f i)):=nr rfl
theorem adx(w:Nat)(d:DT α)(l:List α):(DT.list w d).aA l= .lst w d.bg d.aA l:=nr rfl
theorem JV{τ:Type}(w:Nat)(d:DT α)(w':Nat)(x:τ)(f:τ->SV)(l:List τ):(DT.list w d).aI m (.lst w' x f l)=l.map λy=>d.aI m (f y):=nr rfl
theorem JW{τ:Type}(w:Nat)(d:DT α)(w':Nat)(x:τ)(f:τ->SV)(l:List τ):(DT.list w d).decP m (.lst w' x f l)=(w'=w/\allL l λy=>d.decP m (f y)):=nr rfl
theorem Gf(w:Nat)(d:DT α):(DT.list w d).aI m .dO=[]:=nr rfl
theorem Gg(w:Nat)(d:DT α):(DT.list w d).decP m .dO=True:=nr rfl
theorem sH(w:Nat)(d:DT α)(i n:Nat):(DT.list w d).aI m (.vec i n)=(match ak m i with
   | .vec _ _ l=>l.map λy=>d.aI m y
   |_=>[]):=nr rfl
theorem sJ(w:Nat)(d:DT α)(i n:Nat):(DT.list w d).decP m (.vec i n)=(match ak m i with
   | .vec _ w' l=>w'=w/\allL l λy=>d.decP m y
   |_=>False):=nr rfl
theorem aiL(d:DT α)(y:α):d.ref.aA y= .ref (d.aA y) [] 0:=nr rfl
theorem MG(d:DT α)(c p o):d.ref.aI m (.ref c p o)=d.aI m c:=nr rfl
theorem MH(d:DT α)(c p o):d.ref.decP m (.ref c p o)=(p=[]/\o=0/\d.decP m c):=nr rfl
theorem MI(d:DT α)(i p o):d.ref.aI m (.ptr i p o)=(match ak m i with
   | .blk _ c=>d.aI m c
   |_=>d.bg):=nr rfl
theorem MJ(d:DT α)(i p o):d.ref.decP m (.ptr i p o)=(match ak m i with
   | .blk _ c=>p=[]/\o=0/\d.decP m c
   |_=>False):=nr rfl
theorem Qw:Gs .junk:=λ_ _ _ _ _ _ h=>h
theorem aiJ(f:Nat):DT.NK.aA f= .fn f []:=nr rfl
theorem adp(f:FuncId):DT.NK.aI m (.fn f [])=f:=nr rfl
theorem adq(f:FuncId):DT.NK.decP m (.fn f [])=True:=nr rfl
theorem apC(A:DA α)(y:α):A.aI m (A.aA y)=y:=A.vE m y
theorem apD(A:DA α)(y:α):A.decP m (A.aA y)=True:=eq_true (A.pE m y)
theorem amG(A:DA α)(r)(y:α):dH r (A.aA y)=A.aA y:=A.ren r y
theorem aiF(A:DA α)(i)(y:α):dn i (A.aA y)=A.aA y:=A.kill i y
theorem aiG(f:FuncId)(A:DA α)(k:α):(DT.clo f A).aA k= .fn f (A.aA k):=nr rfl
theorem adk(f g:FuncId)(A:DA α)(caps:List SV):(DT.clo f A).aI m (.fn g caps)=A.aI m caps:=nr rfl
theorem adl(f g:FuncId)(A:DA α)(caps:List SV):(DT.clo f A).decP m (.fn g caps)=(g=f/\A.decP m caps):=rfl
theorem adn{α:Type}(w:Nat)(d:DT α):(DT.list w d).bg=[]:=nr rfl
theorem aiI:DT.int.bg=0:=nr rfl
theorem ado:DT.bool.bg=false:=nr rfl
theorem aiH{α:Type}{m:List ay}(d:DT α)(l:List α):List.map (λy=>d.aI m y) (l.map d.aA)=l:=by
 rw[List.map_map];have:(λy=>d.aI m y)∘d.aA=id:=by funext y;exact d.vE m y
 rw[this,z0h]
theorem aiM:DA.nil.aI m []=():=nr rfl
theorem aiN:DA.nil.decP m []=True:=nr rfl
theorem ady{β:Type}(d:DT α)(r:DA β)(x xs):(DA.cons d r).aI m (x::xs)=(d.aI m x,r.aI m xs):=nr rfl
theorem adz{β:Type}(d:DT α)(r:DA β)(x xs):(DA.cons d r).decP m (x::xs)=(d.decP m x/\r.decP m xs):=nr rfl
theorem adA{β:Type}(d:DT α)(r:DA β)(y):(DA.cons d r).aA y=d.aA y.1::r.aA y.2:=nr rfl
theorem aiO(y):DA.nil.aA y=[]:=nr rfl
theorem amr(d:DT α)(y):(DP.one d).aA y=d.aA y:=nr rfl
theorem ams{β:Type}(a:DT α)(b:DT β)(y):(DP.two a b).aA y= .cu [a.aA y.1,b.aA y.2]:=nr rfl
theorem ac9{β γ:Type}(a:DT α)(b:DT β)(c:DT γ)(y):(DP.three a b c).aA y= .cu [a.aA y.1,b.aA y.2.1,c.aA y.2.2]:=nr rfl
theorem apz(d:DT α)(x):(DT.jZ d).P m x=(d.decP m x/\x.isVal=true):=rfl
theorem aix(d:DT α)(x):(DT.jZ d).dec m x=d.aA (d.aI m x):=nr rfl
theorem aiP(y):DR.unit.aA y= .cu []:=nr rfl
theorem amH(d:DT α)[Flat d](y):(DR.one d).aA y=d.aA y:=nr rfl
theorem amI{β:Type}(a:DT α)(b:DT β)[Flat a][Flat b](y):(DR.two a b).aA y= .cu [a.aA y.1,b.aA y.2]:=nr rfl
theorem adB{β γ:Type}(a:DT α)(b:DT β)(c:DT γ)[Flat a][Flat b][Flat c](y):(DR.three a b c).aA y= .cu [a.aA y.1,b.aA y.2.1,c.aA y.2.2]:=nr rfl
end words
end Go.Sx
namespace Go.Sx
open Go
variable {P:Program} {main:Bool} {Fz:Nat->Prop}
theorem adK(W:World):(jZ (J0 W) [] W).cl=J0 W:=by
 have h:(jZ (J0 W) [] W).H=(J0 W).H:=by
  funext b
  show(open Classical in if ∃ i,aS (J0 W) i (ak [] i)=some b then W.heap[b]? else(J0 W).H b)=W.heap[b]?
  split<;>rfl
 show{jZ (J0 W) [] W with n:=0}=J0 W;simp only[J0,jZ] at h ⊢;rw[h]
theorem aaR{α:Type}{A:DA α}{xs:List SV}{W:World}{vs:List Value}(hd:A.decP [] xs)(hs:bT xs (J0 W) vs)(hg:Glob (J0 W).H:=by simp[Glob,adL,adM]):bT (A.aA (A.aI [] xs)) (J0 W) vs:=by
 have:=A.ok (Qv W hg) hd hs
 rwa [adK] at this
def PlV(x:SV):Prop:= ∀ r,Gs (ren r x)
def adN:List SV->Prop
 |[]=>True
 |x::r=>PlV x/\adN r
def PlR(x:ay):Prop:= ∀ r,sN (dR r x)
def adO:List ay->Prop
 |[]=>True
 |x::r=>PlR x/\adO r
theorem kD(i n:Nat):PlV (.vec i n):=λr=>by
 simp only[ren,iD];split
 ·exact Yb _ _
 ·exact Qw
theorem kE(k:IntKind)(n:Int):PlV (.int k n):=λr=>iZ k n
theorem aiZ{α:Type}(d:DT α)[h:Flat d](y:α):PlV (d.aA y):=λr=>by rw[d.ren];exact h.noH y
theorem adN.mem:∀ {l:List SV},adN l->∀ x∈l,PlV x
 |[],_,_,h=>by cases h
 |y::l,h,x,hx=>by
  rcases z04.1 hx with e|e
  ·exact e▸h.1
  ·exact adN.mem h.2 x e
theorem adO.mem:∀ {l:List ay},adO l->∀ x∈l,PlR x
 |[],_,_,h=>by cases h
 |y::l,h,x,hx=>by
  rcases z04.1 hx with e|e
  ·exact e▸h.1
  ·exact adO.mem h.2 x e
theorem Qx{r:Nat->Option Nat}:∀ {l:List SV} {x:SV},x∈dH r l->∃ y∈l,x=ren r y
 |[],_,h=>by simp[dH] at h
 |y::l,x,h=>by
  simp only[dH,z04] at h;rcases h with rfl|h
  ·exact⟨y,by simp,rfl⟩
  ·obtain⟨z,h1,h2⟩:=Qx h;exact⟨z,by simp[h1],h2⟩
theorem qc{l:List SV}(h:adN l)(r):Gu (ren r (.cu l)):=by simp only[ren];refine wM λx hx=> ?_;obtain⟨y,h1,rfl⟩:=Qx hx;exact h.mem y h1 r
theorem al7(i n:Nat)(r):Gu (ren r (.vec i n)):=by
 simp only[ren,iD];split
 ·exact(Yb _ _).val rfl
 ·exact CU
theorem Gv(i:Nat)(p:List Step)(o:Nat)(r):Gu (ren r (.ptr i p o)):=by
 simp only[ren,iD];split
 ·exact(MX _ _ _).val rfl
 ·exact CU
theorem jO{α:Type}(T:TypeId)(w:Nat)(d:DT α)[h:Flat d](l:List α):PlR (.vec T w (l.map d.aA)):=λr=>by
 simp only[dR,Aw,sN];intro j hj;rw[z00] at hj;have:(l.map d.aA).getD j .junk=d.aA l[j]:=by simp[z01,hj]
 rw[this];exact h.noH _
theorem MZ{α:Type}(T:TypeId)(d:DT α)[h:Flat d](y:α):PlR (.blk T (d.aA y)):=λr=>by simp only[dR,d.ren];exact h.noH y
theorem jh{x:SV}{M:List ay}(h1:∀ r,Gu (ren r x))(h2:adO M):Na x M:=λr=>⟨h1 r,λy hy=>h2.mem y hy r⟩
end Go.Sx
namespace Go.Sx
open Go
namespace W
theorem al9(k:IntKind)(n:Int):wd (.int k n)=1:=nr rfl
theorem Zq(k:IntKind)(n:Int):SV.isAgg (.int k n)=false:=nr rfl
theorem ahR(b:Bool):wd (.bool b)=1:=nr rfl
theorem Ue(b:Bool):SV.isAgg (.bool b)=false:=nr rfl
theorem ama{υ:Type}(w:Nat)(d:υ)(f:υ->SV)(l:List υ):wd (.lst w d f l)=1:=nr rfl
theorem Zr{υ:Type}(w:Nat)(d:υ)(f:υ->SV)(l:List υ):SV.isAgg (.lst w d f l)=false:=nr rfl
theorem amb(i:Nat)(p:List Step)(o:Nat):wd (.ptr i p o)=1:=nr rfl
theorem Zt(i:Nat)(p:List Step)(o:Nat):SV.isAgg (.ptr i p o)=false:=nr rfl
theorem amc(i n:Nat):wd (.vec i n)=1:=nr rfl
theorem Zu(i n:Nat):SV.isAgg (.vec i n)=false:=nr rfl
theorem ab4(t:TypeId)(x:SV):wd (.iface t x)=1:=nr rfl
theorem PU(t:TypeId)(x:SV):SV.isAgg (.iface t x)=false:=nr rfl
theorem ahS:wd (.dO)=1:=nr rfl
theorem ahT:wd (.mX)=1:=nr rfl
theorem amd(n w:Nat)(f:Nat->SV):wd (.arr n w f)=n*w:=nr rfl
theorem ame(l:List SV):wd (.agg l)=Aq l:=nr rfl
theorem ahU:Aq []=0:=nr rfl
theorem ab5(x:SV)(r:List SV):Aq (x::r)=wd x+Aq r:=nr rfl
theorem Zv(n w:Nat)(f:Nat->SV):SV.isAgg (.arr n w f)=true:=nr rfl
theorem Zw(l:List SV):SV.isAgg (.agg l)=true:=nr rfl
theorem Zx(k:IntKind)(n:Int):SV.isVal (.int k n)=true:=nr rfl
theorem Uf(b:Bool):SV.isVal (.bool b)=true:=nr rfl
theorem Zy{υ:Type}(w:Nat)(d:υ)(f:υ->SV)(l:List υ):SV.isVal (.lst w d f l)=true:=nr rfl
theorem Zz(i:Nat)(p:List Step)(o:Nat):SV.isVal (.ptr i p o)=true:=nr rfl
theorem ZA(i n:Nat):SV.isVal (.vec i n)=true:=nr rfl
theorem Ug(i n:Nat):SV.isVal (.kZ i n)=true:=nr rfl
theorem Uh(i k n:Nat):SV.isVal (.kC i k n)=true:=nr rfl
theorem ZB(i:Nat):SV.isVal (.map i)=true:=nr rfl
theorem ab6(f:FuncId)(c:List SV):SV.isVal (.fn f c)=true:=nr rfl
theorem PV(t:TypeId)(x:SV):SV.isVal (.iface t x)=true:=nr rfl
theorem Ui:SV.isVal (.dO)=true:=nr rfl
theorem ZC(n w:Nat)(f:Nat->SV):SV.isVal (.arr n w f)=true:=nr rfl
theorem ZE(l:List SV):SV.isVal (.agg l)=true:=nr rfl
theorem ab7(c:SV):dG c []=c:=nr rfl
theorem ab8(l:List SV)(k:Nat)(p:List Step):dG (.agg l) (.lQ k::p)=dG (l.getD k .junk) p:=nr rfl
theorem ab9(n w:Nat)(f:Nat->SV)(i n':Nat)(p:List Step):dG (.arr n w f) (.idx i n'::p)=dG (f i) p:=nr rfl
theorem acd(c x:SV):rG c [] x=x:=nr rfl
theorem ace(l:List SV)(k:Nat)(p:List Step)(x:SV):rG (.agg l) (.lQ k::p) x= .agg (l.set k (rG (l.getD k .junk) p x)):=nr rfl
theorem acf(n w:Nat)(f:Nat->SV)(i n':Nat)(p:List Step)(x:SV):rG (.arr n w f) (.idx i n'::p) x= .arr n w (zG f i (rG (f i) p x)):=nr rfl
theorem ahV(c:SV)(a o:Nat):gI c [] a o=(o=a):=propext Iff.rfl
theorem ahW(l:List SV)(k:Nat)(p:List Step)(a o:Nat):gI (.agg l) (.lQ k::p) a o=(k<l.length/\gI (l.getD k .junk) p (a+Aq (l.take k)) o):=propext Iff.rfl
theorem ahX(n w:Nat)(f:Nat->SV)(i n':Nat)(p:List Step)(a o:Nat):gI (.arr n w f) (.idx i n'::p) a o=(n'=n/\gI (f i) p (a+i*w) o):=propext Iff.rfl
theorem Uj:fM []=True:=propext Iff.rfl
theorem Uk(k:Nat)(p:List Step):fM (.lQ k::p)=fM p:=propext Iff.rfl
theorem ahY(r:Nat->Option Nat)(k:IntKind)(n:Int):ren r (.int k n)= .int k n:=nr rfl
theorem acg(i0:Nat)(k:IntKind)(n:Int):kill i0 (.int k n)= .int k n:=nr rfl
theorem ach(r:Nat->Option Nat)(b:Bool):ren r (.bool b)= .bool b:=nr rfl
theorem ahZ(r:Nat->Option Nat){υ:Type}(w:Nat)(d:υ)(f:υ->SV)(l:List υ):ren r (.lst w d f l)= .lst w d f l:=nr rfl
theorem aci(i0:Nat){υ:Type}(w:Nat)(d:υ)(f:υ->SV)(l:List υ):kill i0 (.lst w d f l)= .lst w d f l:=nr rfl
theorem ah0(r:Nat->Option Nat)(c:SV)(p:List Step)(o:Nat):ren r (.ref c p o)= .ref c p o:=nr rfl
theorem acj(i0:Nat)(i:Nat)(p:List Step)(o:Nat):kill i0 (.ptr i p o)= .ptr i p o:=nr rfl
theorem acn(i0:Nat)(i:Nat):kill i0 (.map i)= .map i:=nr rfl
theorem ah1(r:Nat->Option Nat)(j n:Nat):ren r (.vec j n)=iD r j λk=> .vec k n:=nr rfl
theorem aco(r:Nat->Option Nat)(j n:Nat):ren r (.kZ j n)=iD r j λk=> .kZ k n:=nr rfl
theorem acp(r:Nat->Option Nat)(j a n:Nat):ren r (.kC j a n)=iD r j λk=> .kC k a n:=nr rfl
theorem ah2(r:Nat->Option Nat)(j:Nat)(p:List Step)(o:Nat):ren r (.ptr j p o)=iD r j λk=> .ptr k p o:=nr rfl
theorem ah3(r:Nat->Option Nat)(j:Nat):ren r (.map j)=iD r j .map:=nr rfl
theorem ah4(r:Nat->Option Nat)(n w:Nat)(f:Nat->SV):ren r (.arr n w f)= .arr n w λk=>ren r (f k):=nr rfl
theorem ah5(r:Nat->Option Nat)(l:List SV):ren r (.agg l)= .agg (dH r l):=nr rfl
theorem ah6(r:Nat->Option Nat)(l:List SV):ren r (.cu l)= .cu (dH r l):=nr rfl
theorem amf(r:Nat->Option Nat)(f:FuncId)(l:List SV):ren r (.fn f l)= .fn f (dH r l):=nr rfl
theorem ZF(r:Nat->Option Nat)(t:TypeId)(x:SV):ren r (.iface t x)= .iface t (ren r x):=nr rfl
theorem acr(r:Nat->Option Nat):dH r []=[]:=nr rfl
theorem ZG(r:Nat->Option Nat)(x:SV)(l:List SV):dH r (x::l)=ren r x::dH r l:=nr rfl
theorem ah7(r:Nat->Option Nat)(i:Nat)(f:Nat->SV):iD r i f=(match r i with
  |some j=>f j
  |none=> .junk):=nr rfl
theorem acs(r:Nat->Option Nat)(T:TypeId)(c:SV):dR r (.blk T c)= .blk T (ren r c):=nr rfl
theorem ah8(r:Nat->Option Nat)(ek ev:ES)(l:List (SV×SV)):dR r (.mp ek ev l)= .mp ek ev l:=nr rfl
theorem acu(i:Nat)(ek ev:ES)(l:List (SV×SV)):wH i (.mp ek ev l)= .mp ek ev l:=nr rfl
theorem acv(r:Nat->Option Nat)(T:TypeId)(w:Nat)(l:List SV):dR r (.vec T w l)= .vec T w (dH r l):=nr rfl
theorem acw(i j n:Nat):kill i (.vec j n)=if j=i then .junk else .vec j n:=nr rfl
theorem acy(i n w:Nat)(f:Nat->SV):kill i (.arr n w f)= .arr n w λk=>kill i (f k):=nr rfl
theorem acz(i:Nat)(l:List SV):kill i (.agg l)= .agg (dn i l):=nr rfl
theorem ah9(i:Nat)(f:FuncId)(l:List SV):kill i (.fn f l)= .fn f (dn i l):=nr rfl
theorem ZH(i:Nat):dn i []=[]:=nr rfl
theorem Ul(i:Nat)(x:SV)(l:List SV):dn i (x::l)=kill i x::dn i l:=nr rfl
theorem ZI(i:Nat)(T:TypeId)(c:SV):wH i (.blk T c)= .blk T (kill i c):=nr rfl
theorem ZJ(i:Nat)(T:TypeId)(w:Nat)(l:List SV):wH i (.vec T w l)= .vec T w (dn i l):=nr rfl
theorem ZK{υ:Type}(w:Nat)(d:υ)(f:υ->SV)(l:List υ):wI (.lst w d f l)=some l.length:=nr rfl
theorem ZL(i n:Nat):wI (.vec i n)=some n:=nr rfl
theorem Um(i k n:Nat):wI (.kC i k n)=some n:=nr rfl
theorem acA(m:List ay)(w j n:Nat):FY m w (.vec j n)=(match ak m j with
  | .vec _ w' l=>if w'=w then some l else none
  |_=>none):=nr rfl
theorem Un(x:ay)(m:List ay):ak (x::m) 0=x:=nr rfl
theorem Uo(x:ay)(m:List ay)(i:Nat):ak (x::m) (i+1)=ak m i:=nr rfl
theorem acB(k j:Nat)(x:SV)(r:Fr):look k (.put j x r)=if k=j then x else look k r:=nr rfl
theorem ZM(k s d:Nat)(x:SV)(r:Fr):look k (.pick s d x r)=if k=d then x else if s<k/\k<d then .junk else look k r:=nr rfl
theorem aq1(τ:Fr)(n:Nat):aV.fv τ (.t n)=look n τ:=nr rfl
theorem aq2(τ:Fr)(x:SV):aV.fv τ (.c x)=x:=nr rfl
theorem ZN(x:SV)(τ:Fr):wJ none x τ=τ:=nr rfl
theorem ZO(d:Nat)(x:SV)(τ:Fr):wJ (some d) x τ= .put d x τ:=nr rfl
theorem ZP(τ:Fr):jI [] τ= .nil:=nr rfl
theorem Ur(k:Nat)(ks:List Nat)(τ:Fr):jI (k::ks) τ= .put k (look k τ) (jI ks τ):=nr rfl
theorem ah'(τ:Fr):Sx.ig [] [] τ=τ:=nr rfl
theorem acC(k:Nat)(ks:List Nat)(x:SV)(xs:List SV)(τ:Fr):Sx.ig (k::ks) (x::xs) τ= .put k x (Sx.ig ks xs τ):=nr rfl
theorem aia(τ:Fr):X0 [] [] τ=True:=propext Iff.rfl
theorem acD(k:Nat)(ks:List Nat)(x:SV)(xs:List SV)(τ:Fr):X0 (k::ks) (x::xs) τ=(look k τ=x/\X0 ks xs τ):=propext Iff.rfl
theorem aib(r:Nat->Option Nat)(τ:Fr):atR r [] [] τ=True:=propext Iff.rfl
theorem acE(r:Nat->Option Nat)(k:Nat)(ks:List Nat)(x:SV)(xs:List SV)(τ:Fr):atR r (k::ks) (x::xs) τ=(ren r (look k τ)=x/\atR r ks xs τ):=propext Iff.rfl
theorem ZQ(r:Nat->Option Nat)(τ τ':Fr):FZ r τ τ' []=True:=propext Iff.rfl
theorem Us(r:Nat->Option Nat)(τ τ':Fr)(k:Nat)(ks:List Nat):FZ r τ τ' (k::ks)=(ren r (look k τ')=look k τ/\FZ r τ τ' ks):=propext Iff.rfl
theorem amg(n i:Nat):J8 n i=if i<n then some i else none:=nr rfl
theorem ZR(i:Nat):y9 i .nil= .nil:=nr rfl
theorem ZT(i k:Nat)(x:SV)(r:Fr):y9 i (.put k x r)= .put k (kill i x) (y9 i r):=nr rfl
theorem ZU(τ:Fr):vS [] τ=τ:=nr rfl
theorem Ut(k:Nat)(ks:List Nat)(τ:Fr):vS (k::ks) τ= .put k .junk (vS ks τ):=nr rfl
theorem acF:SL.kP .nil=[]:=nr rfl
theorem ZV(d:Nat)(x:zf)(r:SL):SL.kP (.op (some d) x r)=d::r.kP:=nr rfl
theorem acG(k:Nat):yY k []= .nil:=nr rfl
theorem ZW(k:Nat)(x:SV)(r:List SV):yY k (x::r)= .put k x (yY (k+1) r):=nr rfl
theorem ZX{α:Type}{A:Ans α}{m:List ay}{n:Nat}{ag:Bool}{K:SV->α}(i:Nat)(p:List Step)(o:Nat):kU A m n ag K (.ptr i p o)=(match ak m i with
  | .blk _ c=>A.need (gI c p 0 o/\wd (dG c p)=n/\(dG c p).isAgg=ag) (K (dG c p))
  |_=>A.bad):=nr rfl
theorem Uu{α:Type}{A:Ans α}{m:List ay}{n:Nat}{ag:Bool}{K:SV->α}{υ:Type}(w:Nat)(d:υ)(f:υ->SV)(l:List υ)(i:Nat)(p:List Step)(o:Nat):kU A m n ag K (.jX w d f l i p o)=A.need (gI (f (l.getD i d)) p 0 o/\wd (dG (f (l.getD i d)) p)=n/\(dG (f (l.getD i d)) p).isAgg=ag) (K (dG (f (l.getD i d)) p)):=nr rfl
theorem Uw{α:Type}{A:Ans α}{m:List ay}{n:Nat}{ag:Bool}{K:SV->α}(i j:Nat)(p:List Step)(o:Nat):kU A m n ag K (.iR i j p o)=(match ak m i with
  | .vec _ w l=>A.need (j<l.length/\gI (l.getD j .junk) p (j*w) o/\wd (dG (l.getD j .junk) p)=n/\(dG (l.getD j .junk) p).isAgg=ag) (K (dG (l.getD j .junk) p))
  |_=>A.bad):=nr rfl
theorem ZY{α:Type}{A:Ans α}{m:List ay}{n:Nat}{ag:Bool}{K:SV->α}(c:SV)(p:List Step)(o:Nat):kU A m n ag K (.ref c p o)=A.need (gI c p 0 o/\wd (dG c p)=n/\(dG c p).isAgg=ag) (K (dG c p)):=nr rfl
theorem acH{m:List ay}{n:Nat}{ag:Bool}{K:SV->Prop}(i:Nat)(p:List Step)(o:Nat):peek m n ag K (.ptr i p o)=(match ak m i with
  | .blk _ c=>(gI c p 0 o/\wd (dG c p)=n/\(dG c p).isAgg=ag)/\K (dG c p)
  |_=>False):=propext Iff.rfl
theorem acI{m:List ay}{n:Nat}{v:SV}{K:List ay->Prop}(i:Nat)(p:List Step)(o:Nat):F5 m n v K (.ptr i p o)=(match ak m i with
  | .blk T c=>(gI c p 0 o/\wd (dG c p)=n/\wd v=n/\v.isVal=true)/\K (m.set i (.blk T (rG c p v)))
  |_=>False):=propext Iff.rfl
theorem Z4{m:List ay}{n:Nat}{v:SV}{K:List ay->Prop}(i j:Nat)(p:List Step)(o:Nat):F5 m n v K (.iR i j p o)=(match ak m i with
  | .vec T w l=>(j<l.length/\gI (l.getD j .junk) p (j*w) o/\wd (dG (l.getD j .junk) p)=n/\wd v=n/\v.isVal=true)/\K (m.set i (.vec T w (l.set j (rG (l.getD j .junk) p v))))
  |_=>False):=propext Iff.rfl
theorem Z5{α:Type}{A:Ans α}{s:Step}{off:Nat}{K:SV->α}(i:Nat)(p:List Step)(o:Nat):stpG A s off K (.ptr i p o)=K (.ptr i (p++[s]) (o+off)):=nr rfl
theorem Ux{α:Type}{A:Ans α}{s:Step}{off:Nat}{K:SV->α}{υ:Type}(w:Nat)(d:υ)(f:υ->SV)(l:List υ)(i:Nat)(p:List Step)(o:Nat):stpG A s off K (.jX w d f l i p o)=K (.jX w d f l i (p++[s]) (o+off)):=nr rfl
theorem Uy{α:Type}{A:Ans α}{s:Step}{off:Nat}{K:SV->α}(i j:Nat)(p:List Step)(o:Nat):stpG A s off K (.iR i j p o)=K (.iR i j (p++[s]) (o+off)):=nr rfl
theorem Z7(k k':IntKind):uK.kinds k k' .add=(k'=k):=propext Iff.rfl
theorem Z8(k k':IntKind):uK.kinds k k' .sub=(k'=k):=propext Iff.rfl
theorem Z9(k k':IntKind):uK.kinds k k' .mul=(k'=k):=propext Iff.rfl
theorem aac(k k':IntKind):uK.kinds k k' .quo=(k'=k):=propext Iff.rfl
theorem aad(k k':IntKind):uK.kinds k k' .rem=(k'=k):=propext Iff.rfl
theorem aae(k k':IntKind):uK.kinds k k' .and=(k'=k):=propext Iff.rfl
theorem aaf(k k':IntKind):uK.kinds k k' .xor=(k'=k):=propext Iff.rfl
theorem aag(k k':IntKind):uK.kinds k k' .shl=True:=propext Iff.rfl
theorem aah(k k':IntKind):uK.kinds k k' .shr=True:=propext Iff.rfl
theorem amh{Γ:FH}{m:List ay}{τ:Fr}{K:SV->Prop->Prop}{acc:Prop}(p:vT):JO Γ m τ K (.p p) acc=eY AC (aV.fv τ) K p acc:=nr rfl
theorem aai{Γ:FH}{m:List ay}{τ:Fr}{K:SV->Prop->Prop}{acc:Prop}(n:Nat)(ag:Bool)(x:aV):JO Γ m τ K (.e (.load n ag x)) acc=kU AC m n ag K (x.fv τ) acc:=nr rfl
theorem aaj{Γ:FH}{m:List ay}{τ:Fr}{K:SV->Prop->Prop}{acc:Prop}(f:FuncId)(ys:List aV):JO Γ m τ K (.e (.call f ys)) acc=zh (Γ f (ys.map (aV.fv τ)) m) K (acc/\(ys.map (aV.fv τ)).all SV.isVal=true):=nr rfl
theorem Uz{Γ:FH}{m:List ay}{τ:Fr}{K:SV->Prop->Prop}{acc:Prop}(f:FuncId)(ys:List aV):JO Γ m τ K (.e (.nD f ys)) acc=zh (Γ f (ys.map (aV.fv τ)) m) K (acc/\(ys.map (aV.fv τ)).all SV.isVal=true):=nr rfl
theorem acJ{Γ:FH}{m:List ay}{τ:Fr}{K:SV->Prop->Prop}{acc:Prop}(k:MK)(ys:List aV):JO Γ m τ K (.e (.L9 k ys)) acc=F6 AC m k (ys.map (aV.fv τ)) K (acc/\(ys.map (aV.fv τ)).all SV.isVal=true):=nr rfl
theorem acK{α:Type}{A:Ans α}{m:List ay}{K:SV->α}(ek ev:ES)(z:SV)(ok:Bool)(i:Nat)(key:SV):F6 A m (.get ek ev z ok) [.map i,key] K=(match ak m i with
  | .mp ek' ev' l=>A.need (ek'=ek/\ev'=ev/\fA ek key) (K (if ok then .cu [vU ev z (gQ ek key l), .bool (gQ ek key l).isSome] else vU ev z (gQ ek key l)))
  |_=>A.bad):=nr rfl
theorem acL{m:List ay}{K:SV->List ay->Prop}(z:SV)(i a n:Nat):pR m (.clr z) [.kC i a n] K=(match ak m i with
  | .vec E w l=>(w=1/\l.length=a+n/\0<n)/\K .junk (m.set i (.vec E 1 (l.take a++z07 n z)))
  |_=>False):=nr rfl
theorem acM{m:List ay}{K:SV->List ay->Prop}(ek ev:ES)(i:Nat)(key v:SV):pR m (.put ek ev) [.map i,key,v] K=(match ak m i with
  | .mp ek' ev' l=>(ek'=ek/\ev'=ev/\fA ek key/\evP ev v)/\K .junk (m.set i (.mp ek ev (zi ek key v l)))
  |_=>False):=nr rfl
theorem aal{m:List ay}{K:SV->List ay->Prop}(ek ev:ES):pR m (.make ek ev) [] K=K (.map m.length) (m++[.mp ek ev []]):=nr rfl
theorem acN(x:SV):evP .bool x=fA .bool x:=nr rfl
theorem UA(z:SV)(o:Option SV):vU .bool z o= .bool (obB o):=nr rfl
theorem UC{Γ:FH}{m:List ay}{τ:Fr}{K:SV->Prop->Prop}{acc:Prop}(x:aV)(ys:List aV):JO Γ m τ K (.e (.fO x ys)) acc=(match x.fv τ with
  | .fn f cap=>AC.need ((ys.map (aV.fv τ)).all SV.isVal=true) (zh (Γ f (ys.map (aV.fv τ)++cap) m) K)
  |_=>AC.bad) acc:=nr rfl
theorem acO(p:Prop)(r:SV)(K:SV->Prop->Prop)(acc:Prop):zh (.ro p r) K acc=K r (acc/\p):=nr rfl
theorem aic(m:List ay)(p:Prop)(r:SV)(K:SV->List ay->Prop):Call.hook (.ro p r) m K=(p/\K r m):=propext Iff.rfl
theorem aie(m:List ay)(p:Prop)(r:SV)(m':List ay)(K:SV->List ay->Prop):Call.hook (.is p r m') m K=(p/\K r m'):=propext Iff.rfl
theorem aif(p:Prop)(x:Prop->Prop)(acc:Prop):AC.need p x acc=x (acc/\p):=nr rfl
theorem ami(acc:Prop):AC.bad acc=False:=nr rfl
theorem amj(b:Bool)(x y:Prop->Prop)(acc:Prop):AC.spl b x y acc=((b=true->x acc)/\(b=false->y acc)):=nr rfl
theorem amk{Γ:FH}{m:List ay}{y:aV}{τ:Fr}{K:Bool->Prop->Prop}{acc:Prop}:SL.vc Γ m .nil y τ K acc=(match y.fv τ with
  | .bool b=>K b acc
  |_=>False):=nr rfl
theorem apq{Γ:FH}{m:List ay}{y:aV}{τ:Fr}{K:Bool->Prop->Prop}{acc:Prop}(d:Option Nat)(x:zf)(r:SL):SL.vc Γ m (.op d x r) y τ K acc=JO Γ m τ (λsv acc'=>r.vc Γ m y (wJ d sv τ) K acc') x acc:=nr rfl
theorem apr{Γ:FH}{m:List ay}{y:aV}{τ:Fr}{K:Bool->Prop->Prop}{acc:Prop}(or:Bool)(d s:Nat)(l:SL)(y':aV)(r:SL):SL.vc Γ m (.sc or d s l y' r) y τ K acc=(match look s τ with
  | .bool b=>l.vc Γ m y' τ (λq g=>r.vc Γ m y (.pick s d (.bool (if or then b||q else b&&q)) τ) K (acc/\(b=(!or)->g))) True
  |_=>False):=nr rfl
theorem aml{Γ:FH}{dr:Bool}{K:Fr->List ay->Prop}{τ:Fr}{m:List ay}:SL.wp Γ dr .nil K τ m=K τ m:=propext Iff.rfl
theorem aps{Γ:FH}{dr:Bool}{K:Fr->List ay->Prop}{τ:Fr}{m:List ay}(d:Option Nat)(x:zf)(r:SL):SL.wp Γ dr (.op d x r) K τ m=opF Γ dr τ m (λτ' sv m'=>r.wp Γ dr K (wJ d sv τ') m') x:=propext Iff.rfl
theorem apt{Γ:FH}{dr:Bool}{K:Fr->List ay->Prop}{τ:Fr}{m:List ay}(or:Bool)(d s:Nat)(l:SL)(y:aV)(r:SL):SL.wp Γ dr (.sc or d s l y r) K τ m=(match look s τ with
  | .bool b=>l.vc Γ m y τ (λq g=>(b=(!or)->g)/\r.wp Γ dr K (.pick s d (.bool (if or then b||q else b&&q)) τ) m) True
  |_=>False):=propext Iff.rfl
theorem acP{Γ:FH}{dr:Bool}{K:Fr->List ay->Prop}{τ:Fr}{m:List ay}(ks:List Nat)(r:SL):SL.wp Γ dr (.prune ks r) K τ m=r.wp Γ dr K (jI ks τ) m:=propext Iff.rfl
theorem UD{k:Nat}{T:TypeId}{w:Nat}{K:Fr->List ay->Prop}{τ:Fr}{m:List ay}:D8 k T w K τ m .dO=K (.put k (.vec m.length 0) τ) (m++[.vec T w []]):=propext Iff.rfl
theorem aam{k:Nat}{T:TypeId}{w:Nat}{K:Fr->List ay->Prop}{τ:Fr}{m:List ay}(i n:Nat):D8 k T w K τ m (.vec i n)=K τ m:=propext Iff.rfl
theorem aan{rs:List ResultVar}{P:Program}{n0:Nat}{res:SV}{m1:List ay}{τ:Fr}{m:List ay}:CO rs P n0 res m1 .norm τ m=pV P τ m (λx=>F7 (upto n0 0++pW n0 (iU x)) res m1 m x) rs:=propext Iff.rfl
theorem acQ{rs:List ResultVar}{P:Program}{n0:Nat}{res:SV}{m1:List ay}{τ:Fr}{m:List ay}:CO rs P n0 res m1 .ret τ m=pV P τ m (λx=>F7 (upto n0 0++pW n0 (iU x)) res m1 m x) rs:=propext Iff.rfl
theorem aao{rs:List ResultVar}{P:Program}{n0:Nat}{res:SV}{m1:List ay}{τ:Fr}{m:List ay}(i:Nat):CO rs P n0 res m1 (.exit i) τ m=False:=propext Iff.rfl
theorem acR{P:Program}{τ:Fr}{m:List ay}{K:SV->Prop}:pV P τ m K []=K (.cu []):=propext Iff.rfl
theorem acS{P:Program}{τ:Fr}{m:List ay}{K:SV->Prop}(t:Nat):pV P τ m K [.tmp t]=((look t τ).isVal=true/\K (look t τ)):=propext Iff.rfl
theorem aap{P:Program}{τ:Fr}{m:List ay}{K:SV->Prop}(t:Nat)(T:TypeId):pV P τ m K [.cell t T]=(match rP P T with
  |some (n,ag)=>peek m n ag K (look t τ)
  |none=>False):=propext Iff.rfl
theorem aij{P:Program}{τ:Fr}{m:List ay}{K:SV->Prop}(t:Nat)(r:ResultVar)(l:List ResultVar):pV P τ m K (.tmp t::r::l)=pV.go P τ m (.tmp t::r::l) λxs=>K (.cu xs):=propext Iff.rfl
theorem aik{P:Program}{τ:Fr}{m:List ay}{K:SV->Prop}(t:Nat)(T:TypeId)(r:ResultVar)(l:List ResultVar):pV P τ m K (.cell t T::r::l)=pV.go P τ m (.cell t T::r::l) λxs=>K (.cu xs):=propext Iff.rfl
theorem UE{P:Program}{τ:Fr}{m:List ay}{K:List SV->Prop}:pV.go P τ m [] K=K []:=propext Iff.rfl
theorem UF{P:Program}{τ:Fr}{m:List ay}{K:List SV->Prop}(t:Nat)(r:List ResultVar):pV.go P τ m (.tmp t::r) K=((look t τ).isVal=true/\pV.go P τ m r λxs=>K (look t τ::xs)):=propext Iff.rfl
theorem PW{P:Program}{τ:Fr}{m:List ay}{K:List SV->Prop}(t:Nat)(T:TypeId)(r:List ResultVar):pV.go P τ m (.cell t T::r) K=(match rP P T with
  |some (n,ag)=>peek m n ag (λx=>x.isVal=true/\pV.go P τ m r λxs=>K (x::xs)) (look t τ)
  |none=>False):=propext Iff.rfl
theorem acT(k:IntKind)(n:Int):iU (.int k n)=[]:=nr rfl
theorem aaq(b:Bool):iU (.bool b)=[]:=nr rfl
theorem acU{υ:Type}(w:Nat)(d:υ)(f:υ->SV)(l:List υ):iU (.lst w d f l)=[]:=nr rfl
theorem acV(i:Nat)(p:List Step)(o:Nat):iU (.ptr i p o)=[i]:=nr rfl
theorem acW(i n:Nat):iU (.vec i n)=[i]:=nr rfl
theorem aar(i n:Nat):iU (.kZ i n)=[i]:=nr rfl
theorem UG(t:TypeId)(x:SV):iU (.iface t x)=iU x:=nr rfl
theorem acX(n w:Nat)(f:Nat->SV):iU (.arr n w f)=[]:=nr rfl
theorem acY(l:List SV):iU (.agg l)=Mc l:=nr rfl
theorem acZ(l:List SV):iU (.cu l)=Mc l:=nr rfl
theorem ac0:Mc []=[]:=nr rfl
theorem aas(x:SV)(r:List SV):Mc (x::r)=iU x++Mc r:=nr rfl
theorem UH(n:Nat):pW n []=[]:=nr rfl
theorem PX(n i:Nat)(r:List Nat):pW n (i::r)=if i<n then pW n r else i::pW n r:=nr rfl
theorem aat(k:Nat):upto 0 k=[]:=nr rfl
theorem upto_succ(n k:Nat):upto (n+1) k=k::upto n (k+1):=nr rfl
theorem amm:nd []=True:=propext Iff.rfl
theorem ail(k:Nat)(r:List Nat):nd (k::r)=(F8 k r/\nd r):=propext Iff.rfl
theorem aau(k:Nat):F8 k []=True:=propext Iff.rfl
theorem UJ(k j:Nat)(r:List Nat):F8 k (j::r)=(k≠j/\F8 k r):=propext Iff.rfl
theorem aav(k:Nat)(r:List Nat)(j i:Nat):uM (k::r) j i=if i=k then some j else uM r (j+1) i:=nr rfl
theorem ac1(k:IntKind)(n:Int):iq (.int k n)=True:=by simp only[iq]
theorem ain(f:FuncId)(c:List SV):iq (.fn f c)=True:=by simp only[iq]
theorem ac2{υ:Type}(w:Nat)(d:υ)(f:υ->SV)(l:List υ):iq (.lst w d f l)=(l.length<=9223372036854775807/\∀ x∈l,iq (f x)):=by simp only[iq]
theorem ac3(l:List SV):iq (.agg l)=pX l:=by simp only[iq]
theorem aaw:pX []=True:=by simp only[pX]
theorem UK(x:SV)(r:List SV):pX (x::r)=(iq x/\pX r):=by simp only[pX]
theorem PY{α:Type _}(l:List α):l.take 0=[]:=nr rfl
theorem PZ{α:Type _}(n:Nat)(x:α)(l:List α):(x::l).take (n+1)=x::l.take n:=nr rfl
theorem UL{α:Type _}(n:Nat):([]:List α).take n=[]:=by cases n<;>rfl
theorem P5{α:Type _}(l:List α):l.drop 0=l:=nr rfl
theorem P6{α:Type _}(n:Nat)(x:α)(l:List α):(x::l).drop (n+1)=l.drop n:=nr rfl
theorem UM(n:Nat):0+n=n:=nr (z0e n)
theorem UN(n:Nat):n+0=n:=nr rfl
theorem aio(n:Nat):(n:Int).toNat=n:=nr rfl
theorem CP{α:Type _}(x:α):z07 0 x=[]:=nr rfl
theorem CQ{α:Type _}(n:Nat)(x:α):z07 (n+1) x=x::z07 n x:=nr rfl
theorem Md{α:Type _}:([]:List α).length=0:=nr rfl
theorem JQ{α:Type _}(x:α)(l:List α):(x::l).length=l.length+1:=nr rfl
theorem Me{α:Type _}(l:List α):[]++l=l:=nr rfl
theorem JR{α:Type _}(x:α)(a b:List α):(x::a)++b=x::(a++b):=nr rfl
theorem UO{α:Type _}(x y:α)(l:List α):(x::l).set 0 y=y::l:=nr rfl
theorem UQ{α:Type _}(x y:α)(l:List α)(n:Nat):(x::l).set (n+1) y=x::l.set n y:=nr rfl
theorem P7{α:Type _}(x d:α)(l:List α):(x::l).getD 0 d=x:=nr rfl
theorem P8{α:Type _}(x d:α)(l:List α)(n:Nat):(x::l).getD (n+1) d=l.getD n d:=nr rfl
theorem aax{α β:Type _}(f:α->β):[].map f=[]:=nr rfl
theorem UR{α β:Type _}(f:α->β)(x:α)(l:List α):(x::l).map f=f x::l.map f:=nr rfl
theorem aay{α:Type _}(p:α->Bool):[].all p=true:=nr rfl
theorem UU{α:Type _}(p:α->Bool)(x:α)(l:List α):(x::l).all p=(p x&&l.all p):=nr rfl
theorem UW(b:Bool):(true&&b)=b:=nr rfl
theorem UY(b:Bool):(b&&true)=b:=by cases b<;>rfl
theorem P9(b:Bool):(false&&b)=false:=nr rfl
theorem Qa(b:Bool):(b&&false)=false:=by cases b<;>rfl
theorem UZ(b:Bool):(false||b)=b:=nr rfl
theorem U0(b:Bool):(b||false)=b:=by cases b<;>rfl
theorem U1:(!true)=false:=nr rfl
theorem Qb:(!false)=true:=nr rfl
theorem U2{α β:Type _}(f:α->β)(x:α):(some x).map f=some (f x):=nr rfl
theorem U3{α β:Type _}(f:α->β):(none:Option α).map f=none:=nr rfl
theorem MB{α β:Type _}(f:α->β)(l:List α):(l.map f).length=l.length:=nr (z00 f)
theorem aaz(n:Nat):(0<n+1)=True:=eq_true (Nat.succ_pos n)
theorem aaA(n:Nat):(n=n+1)=False:=eq_false (by omega)
theorem apu(n j:Nat):shf n j=some (n+j):=nr rfl
theorem aip(a b:Int):PE.ev a b .eql=decide (a=b):=nr rfl
theorem aiq(a b:Int):PE.ev a b .neq= !decide (a=b):=nr rfl
theorem air(a b:Int):PE.ev a b .lss=decide (a<b):=nr rfl
theorem ais(a b:Int):PE.ev a b .leq=decide (a<=b):=nr rfl
theorem ait(a b:Int):PE.ev a b .gtr=decide (b<a):=nr rfl
theorem aiu(a b:Int):PE.ev a b .geq=decide (b<=a):=nr rfl
theorem aiv(k k1 k2:IntKind)(a b:Int):nG (.int k) (.int k1 a) (.int k2 b)=decide (a=b):=nr rfl
theorem amn(l:List ES)(xs ys:List SV):nG (.st l) (.agg xs) (.agg ys)=EN l xs ys:=nr rfl
theorem aiw(n w:Nat)(e:ES)(n1 w1 n2 w2:Nat)(f g:Nat->SV):nG (.arr n w e) (.arr n1 w1 f) (.arr n2 w2 g)=(List.range n).all λi=>nG e (f i) (g i):=nr rfl
theorem ac5(xs ys:List SV):EN [] xs ys=true:=nr rfl
theorem aaB(e:ES)(l:List ES)(x y:SV)(xs ys:List SV):EN (e::l) (x::xs) (y::ys)=(nG e x y&&EN l xs ys):=nr rfl
theorem apv(f:FuncId){α ρ:Type}(A:DA α)(R:DR ρ)(pre:α->Prop)(F:α->ρ)(Γ:FH)(g:FuncId)(args:List SV)(m:List ay):FH.rd f A R pre F Γ g args m=if g=f then .ro (A.decP m args/\pre (A.aI m args)) (R.aA (F (A.aI m args))) else Γ g args m:=nr rfl
theorem apw(f:FuncId){α ρ:Type}(A:DA α)(R:DP ρ)(pre:α->Prop)(F:α->ρ)(Γ:FH)(g:FuncId)(args:List SV)(m:List ay):FH.pz f A R pre F Γ g args m=if g=f then .ro (A.aA (A.aI [] args)=args/\pre (A.aI [] args)) (R.aA (F (A.aI [] args))) else Γ g args m:=nr rfl
theorem Qc:jk []=[]:=nr rfl
theorem MC(x:ay)(m:List ay):jk (x::m)= .dead::jk m:=nr rfl
theorem apx(f:FuncId){α:Type}(A:DA α)(pre:α->Prop)(F:α->SV)(M:α->List ay)(Γ:FH)(g:FuncId)(args:List SV)(m:List ay):FH.mk f A pre F M Γ g args m=if g=f then .is (A.decP m args/\pre (A.aI m args)) (ren (shf m.length) (F (A.aI m args))) (m++(M (A.aI m args)).map (dR (shf m.length))) else Γ g args m:=nr rfl
theorem apy(f:FuncId){σ α ρ:Type}(T:TypeId)(d:DT σ)(A:DA α)(R:DR ρ)(pre:σ->α->Prop)(F:σ->α->ρ)(S:σ->α->σ)(Γ:FH)(g:FuncId)(i:Nat)(p:List Step)(o:Nat)(rest:List SV)(m:List ay):
  FH.mt f T d A R pre F S Γ g (.ptr i p o::rest) m=if g=f then(match ak m i with
    | .blk T' c=> .is (T'=T/\p=[]/\o=0/\d.aA (d.aI [] c)=c/\A.aA (A.aI [] rest)=rest/\pre (d.aI [] c) (A.aI [] rest)) (R.aA (F (d.aI [] c) (A.aI [] rest))) (m.set i (.blk T (d.aA (S (d.aI [] c) (A.aI [] rest)))))
    |_=> .no) else Γ g (.ptr i p o::rest) m:=nr rfl
theorem aaC(f:FuncId){σ α ρ:Type}(T:TypeId)(d:DT σ)(A:DA α)(R:DR ρ)(pre:σ->α->Prop)(F:σ->α->ρ)(S:σ->α->σ)(Γ:FH)(g:FuncId)(args:List SV)(m:List ay)(h:g≠f):
  FH.mt f T d A R pre F S Γ g args m=Γ g args m:=if_neg h
attribute [go_sem ↓] acB ZM aq1 aq2 ZN ZO ZP Ur ah' acC aia
attribute [go_sem ↓] acD aib acE ZQ Us amg ZX Uu Uw ZY acH
attribute [go_sem ↓] acI Z4 Z5 Ux Uy Z7 Z8 Z9 aac aad aae
attribute [go_sem ↓] aaf aag aah amh aai aaj Uz UC acO
attribute [go_sem ↓] aic aie aif ami amj UD aam aan acQ aao acR
attribute [go_sem ↓] acS aap aij aik UE UF PW
attribute [go_sem] List.isEmpty_cons List.isEmpty_nil
attribute [go_sem] al9 Zq ahR Ue ama Zr
attribute [go_sem] amb Zt amc Zu ab4 PU
attribute [go_sem] ahS ahT
attribute [go_sem] amd ame ahU ab5 Zv Zw Zx Uf Zy
attribute [go_sem] Zz ZA Ug Uh ZB ab6 PV Ui
attribute [go_sem] ZC ZE ab7 ab8 ab9 acd ace acf
attribute [go_sem] ahV ahW ahX Uj Uk ahY acg ach
attribute [go_sem] ahZ aci ah0 acj acn
attribute [go_sem] ah1 aco acp
attribute [go_sem] ah2 ah3 ah4 ah5 ah6 amf ZF acr ZG ah7 acs
attribute [go_sem] ah8 acu UA
attribute [go_sem ↓] acN
attribute [go_sem ↓] acJ acL acK acM aal
attribute [go_sem] acv acw acy acz ah9 ZH Ul ZI
attribute [go_sem] ZJ ZK ZL Um acA Un Uo
attribute [go_sem] ZR ZT ZU Ut acF
attribute [go_sem] ZV acG ZW amk apq apr aml aps apt
attribute [go_sem] acP acT aaq acU acV acW aar
attribute [go_sem] UG acX acY acZ ac0
attribute [go_sem] aas UH PX aat upto_succ amm ail aau UJ aav ac1
attribute [go_sem] ain
attribute [go_sem] ac2 ac3 aaw UK
section waits
variable {α:Type} {Γ:FH} {n0:Nat}
def JU.{u}{β:Sort u}(x:β):β:=x
theorem amo.{u}{β:Sort u}(x:β):JU x=x:=Eq.trans (Eq.refl x) (Eq.refl x)
theorem U4{c:JC}{Q:Ex->Fr->List ay->Prop}{τ τ':Fr}{m m':List ay}(h1:JU τ=τ')(h2:JU m=m'):JC.wp Γ n0 c Q τ m=JC.wp Γ n0 c Q τ' m':=by subst h1;subst h2;rfl
theorem Qd{keep mod:List Nat}{c:JC}{Q:Ex->Fr->List ay->Prop}{hd:Hide Γ c Q}{τ τ':Fr}{m m':List ay}(h1:JU τ=τ')(h2:JU m=m'):JC.wpL Γ n0 keep mod c Q hd τ m=JC.wpL Γ n0 keep mod c Q hd τ' m':=by subst h1;subst h2;rfl
theorem U5{dr:Bool}{l:SL}{K:Fr->List ay->Prop}{τ τ':Fr}{m m':List ay}(h1:JU τ=τ')(h2:JU m=m'):SL.wp Γ dr l K τ m=SL.wp Γ dr l K τ' m':=by subst h1;subst h2;rfl
theorem U6{m m':List ay}{l:SL}{y:aV}{τ τ':Fr}{K:Bool->Prop->Prop}{acc acc':Prop}(h1:JU τ=τ')(h2:JU m=m')(h3:JU acc=acc'):SL.vc Γ m l y τ K acc=SL.vc Γ m' l y τ' K acc':=by subst h1;subst h2;subst h3;rfl
theorem Qe{A:Ans α}{m:List ay}{n:Nat}{ag:Bool}{K:SV->α}{x x':SV}(h:JU x=x'):kU A m n ag K x=kU A m n ag K x':=by subst h;rfl
theorem U7{m:List ay}{n:Nat}{ag:Bool}{K:SV->Prop}{x x':SV}(h:JU x=x'):peek m n ag K x=peek m n ag K x':=by subst h;rfl
theorem U8{m:List ay}{n:Nat}{v:SV}{K:List ay->Prop}{x x':SV}(h:JU x=x'):F5 m n v K x=F5 m n v K x':=by subst h;rfl
theorem Qg{A:Ans α}{s:Step}{off:Nat}{K:SV->α}{x x':SV}(h:JU x=x'):stpG A s off K x=stpG A s off K x':=by subst h;rfl
theorem Qh{c c':Call}{K:SV->Prop->Prop}{acc:Prop}(h:JU c=c'):zh c K acc=zh c' K acc:=by subst h;rfl
theorem F9{c c':Call}{m:List ay}{K:SV->List ay->Prop}(h:JU c=c'):Call.hook c m K=Call.hook c' m K:=by subst h;rfl
theorem U9{A:Ans α}{m:List ay}{k:MK}{K:SV->α}{x x':List SV}(h:JU x=x'):F6 A m k x K=F6 A m k x' K:=by subst h;rfl
theorem Va{m:List ay}{k:MK}{K:SV->List ay->Prop}{x x':List SV}(h:JU x=x'):pR m k x K=pR m k x' K:=by subst h;rfl
theorem Qi{k:Nat}{T:TypeId}{w:Nat}{K:Fr->List ay->Prop}{τ:Fr}{m:List ay}{x x':SV}(h:JU x=x'):D8 k T w K τ m x=D8 k T w K τ m x':=by subst h;rfl
theorem aaD{x x':SV}{A B:Prop}(h:JU x=x'):Cnd x A B=Cnd x' A B:=by subst h;rfl
theorem Vb{rs:List ResultVar}{P:Program}{n0:Nat}{res:SV}{m1:List ay}{e e':Ex}{τ:Fr}{m:List ay}(h:JU e=e'):CO rs P n0 res m1 e τ m=CO rs P n0 res m1 e' τ m:=by subst h;rfl
attribute [congr] aaD U9 Va U4 Qd U5 U6 Qe U7 U8 Qg Qh F9 Qi Vb
attribute [go_sem] amo
end waits
end W
attribute [go_sem ↓] W.apw W.apv W.apx W.apy W.aaC
attribute [go_sem] W.UZ W.U0 W.aaz W.aaA W.PY W.PZ W.UL W.P5 W.P6 W.UM W.UN W.aio W.CP W.CQ W.Md W.JQ W.Me W.JR W.UO W.UQ W.P7 W.P8 W.aax W.UR W.aay W.UU W.UW W.UY W.P9 W.Qa W.U1 W.Qb W.U2 W.U3 W.MB W.apu W.aip W.aiq W.air W.ais W.ait W.aiu W.aiv W.amn W.aiw W.ac5 W.aaB
attribute [go_sem high] ac6 aaE
attribute [go_sem low] ac7
attribute [go_sem] amq ac8 W.Qc W.MC amr ams ac9 apz aix amu Qj X4 ac' tV amv aiy amw aiz amx aiA ada aiB amy adb aiC ade
attribute [go_sem ↓] D9 Qk Vd qo eo qn en opF eY Ve jR uK.evG aiD amB amC aaF Ar amD F7 Ql fA jw adf Au
attribute [go_sem] Int.cast_ofNat_Int z0p true_implies false_implies not_true_eq_false not_false_eq_true forall_const implies_true SV.int.injEq SV.bool.injEq List.append_assoc List.append_nil Bool.not_eq_true' Bool.not_eq_false' decide_eq_true_eq decide_eq_false_iff_not Option.some.injEq and_true true_and and_self if_true if_false true_or or_true
attribute [go_sem] decide_true decide_false yE ne_eq Prod.mk.injEq z0j
attribute [go_sem] MF Qm List.map_id'
attribute [go_sem] aaG adg adh Qn aaH apA apB amE amF aiE Aw adi
attribute [go_sem] apC apD amG aiF aiG adk adl
attribute [go_sem] aiH adn aiI ado aiJ adp adq X5 adr ads adt aaI aaJ adu aaK aaL aiK adv adw adx JV JW Gf Gg sH sJ aiL MG MH MI MJ aiM aiN ady adz adA aiO aiP amH amI adB List.map_append
end Go.Sx
namespace Go.Sx
open Go
def tb.{u}{α:Type u}(n:Nat)(f:Nat->α):List α:=(List.range n).map f
section
universe u v
variable {α:Type u} {β:Type v} {n:Nat} {f g:Nat->α}
theorem zT:(tb n f).length=n:=by simp[tb]
theorem uY(i:Nat):(tb n f)[i]? =if i<n then some (f i) else none:=by
 unfold tb;rw[List.getElem?_map];by_cases h:i<n
 ·rw[if_pos h,List.getElem?_range h];rfl
 ·rw[if_neg h,List.getElem?_eq_none (by simpa using h)];rfl
theorem nP{i:Nat}{d:α}(h:i<n):(tb n f).getD i d=f i:=by rw[z01,uY,if_pos h];rfl
theorem aeE(i:Nat)(x:α):(tb n f).set i x=tb n λk=>if k=i then x else f k:=by
 apply z09;intro j;rw[z0q,uY,uY,zT];by_cases hj:j<n
 ·by_cases e:i=j
  ·subst e;simp[hj]
  ·simp[e,hj,show ¬ j=i from λh=>e h.symm]
 ·by_cases e:i=j
  ·subst e;simp[hj]
  ·simp[e,hj]
theorem jr(h:∀ i,i<n->f i=g i):tb n f=tb n g:=by
 apply z09;intro j;rw[uY,uY];split
 ·rename_i hj;rw[h j hj]
 ·rfl
theorem Io(h:α->β):(tb n f).map h=tb n λk=>h (f k):=by simp[tb,Function.comp_def]
theorem Yy:tb (n+1) f=tb n f++[f n]:=by simp[tb,List.range_succ]
theorem ajG:tb 0 f=[]:=rfl
theorem Bd(x:α):z07 n x=tb n λ_=>x:=by apply z09;intro j;rw[List.getElem?_replicate,uY]
end
theorem Yx(r:Nat->Option Nat){n:Nat}{f:Nat->SV}:dH r (tb n f)=tb n λk=>ren r (f k):=by
 have:∀ l:List SV,dH r l=l.map (ren r):=by
  intro l
  induction l with
  |nil=>rfl
  |cons x l ih=>simp only[dH,z03,ih]
 rw[this,Io]
theorem Rq{n i:Nat}{f:Nat->ay}(h:i<n):ak (tb n f) i=f i:=nP h
theorem aeH{n:Nat}{f:Nat->Bool}:(tb n λb=>SV.bool (f b))=(tb n f).map DT.bool.aA:=by rw[Io];rfl
attribute [go_sem] zT
end Go.Sx
namespace Go.Sx
open Go
variable {P:Program} {main:Bool} {Fz:Nat->Prop}
def placeOf:List Step->Nat
 |[.idx k _]=>k
 |_=>0
theorem abK(k n:Nat):placeOf [.idx k n]=k:=nr rfl
attribute [go_sem] abK
def FH.mp(f:FuncId){σ α ρ:Type}(T:TypeId)(n w:Nat)(d:DT σ)(A:DA α)(R:DR ρ)(pre:σ->Nat->α->Prop)(F:σ->Nat->α->ρ)(S:σ->Nat->α->σ)(Γ:FH):FH:=
 FH.on f (λargs m=>match args with
  |x::rest=>match x with
   | .ptr i p o=>match ak m i with
    | .blk T' c=> .is (T'=T/\p=[.idx (placeOf p) n]/\o=placeOf p*w/\d.aA (d.aI [] c)=c/\A.aA (A.aI [] rest)=rest/\pre (d.aI [] c) (placeOf p) (A.aI [] rest)) (R.aA (F (d.aI [] c) (placeOf p) (A.aI [] rest))) (m.set i (.blk T (d.aA (S (d.aI [] c) (placeOf p) (A.aI [] rest)))))
    |_=> .no
   |_=> .no
  |[]=> .no) Γ
theorem FH.aqk{f:FuncId}{σ α ρ:Type}{T:TypeId}{n w:Nat}{d:DT σ}{A:DA α}{R:DR ρ}{pre:σ->Nat->α->Prop}{F:σ->Nat->α->ρ}{S:σ->Nat->α->σ}{Γ:FH}
  (h:∀ s k y,pre s k y->bC P main Fz f (.ptr 0 [.idx k n] (k*w)::A.aA y) [.blk T (d.aA s)] (R.aA (F s k y)) [.blk T (d.aA (S s k y))]) (hΓ:bQ P main Fz Γ) (hf:qp P f=true:=by kernel_rfl):bQ P main Fz (FH.mp f T n w d A R pre F S Γ):=
 FH.Eo (λargs m=>by
  cases args with
  |nil=>trivial
  |cons x rest=>
   cases x with
   |ptr i p o=>
    simp only;cases hm:ak m i with
    |dead=>trivial
    |vec T' w l=>trivial
    |mp ek ev l=>trivial
    |blk T' c=>
     generalize hk:placeOf p=k;rintro⟨rfl,rfl,rfl,h1,h2,h3⟩;refine⟨hf,?_⟩;generalize hs:d.aI [] c=s at h1 h3 ⊢;generalize hy:A.aI [] rest=y at h2 h3 ⊢;subst h1;subst h2;have hi:i<m.length:=by
      rcases z0b i m.length with hi|hi
      ·exact hi
      ·rw[bI hi] at hm;cases hm
     have key:=lG (args:= .ptr i [.idx k n] (k*w)::A.aA y) (m:=m) (h s k y h3) [i] (by simp) (by simp[hm,ay.qw]) (by simp only[dH,A.ren,Sx.ren,iD,fQ,z08,BEq.rfl,z0d,if_true,z06])
      (by simp only[fJ,z03,z0a,hm,dR,d.ren]) (by simp) (by intro j hj;simp at hj;subst hj;rfl)
     rw[R.ren] at key;have hmm:eH [i] m [.blk T' (d.aA (S s k y))]=m.set i (.blk T' (d.aA (S s k y))):=by simp[eH,ak,dR,d.ren]
     rwa [hmm] at key
   |_=>trivial) hΓ
namespace W
theorem aqC(f:FuncId){σ α ρ:Type}(T:TypeId)(n w:Nat)(d:DT σ)(A:DA α)(R:DR ρ)(pre:σ->Nat->α->Prop)(F:σ->Nat->α->ρ)(S:σ->Nat->α->σ)(Γ:FH)(g:FuncId)(i:Nat)(p:List Step)(o:Nat)(rest:List SV)(m:List ay):
  FH.mp f T n w d A R pre F S Γ g (.ptr i p o::rest) m=if g=f then(match ak m i with
    | .blk T' c=> .is (T'=T/\p=[.idx (placeOf p) n]/\o=placeOf p*w/\d.aA (d.aI [] c)=c/\A.aA (A.aI [] rest)=rest/\pre (d.aI [] c) (placeOf p) (A.aI [] rest)) (R.aA (F (d.aI [] c) (placeOf p) (A.aI [] rest))) (m.set i (.blk T (d.aA (S (d.aI [] c) (placeOf p) (A.aI [] rest)))))
    |_=> .no) else Γ g (.ptr i p o::rest) m:=nr rfl
end W
attribute [go_sem ↓] W.aqC
end Go.Sx
namespace Go.Sx
open Go
variable {α:Type} [DecidableEq α]
def EU(d:DT α)(l:List α):List (SV×SV):=l.map λp=>(d.aA p, .bool true)
def WQ(x:α)(l:List α):List α:=if x∈l then l else l++[x]
theorem ae1{x y:α}{l:List α}:y∈WQ x l↔y=x\/y∈l:=by
 unfold WQ;split
 ·rename_i h;constructor
  ·exact .inr
  ·rintro(rfl|h')
   ·exact h
   ·exact h'
 ·simp[or_comm]
omit [DecidableEq α] in
theorem uG{d:DT α}{y:α}{l:List α}:EU d (y::l)=(d.aA y, .bool true)::EU d l:=rfl
theorem SC{d:DT α}{e:ES}(he:∀ x y,nG e (d.aA x) (d.aA y)=decide (x=y))(x:α):∀ l:List α,zi e (d.aA x) (.bool true) (EU d l)=EU d (WQ x l)
 |[]=>rfl
 |y::l=>by
  rw[uG,zi,he];by_cases h:x=y
  ·subst h;simp[WQ,uG]
  ·have ih:=SC he x l;simp only[h,decide_false,z0p,if_false];rw[ih];unfold WQ;by_cases h':x∈l
   ·simp[h,h',uG]
   ·simp[h,h',uG]
theorem LM{d:DT α}{e:ES}(he:∀ x y,nG e (d.aA x) (d.aA y)=decide (x=y))(x:α):∀ l:List α,gQ e (d.aA x) (EU d l)=if x∈l then some (.bool true) else none
 |[]=>rfl
 |y::l=>by
  rw[uG,gQ,he];by_cases h:x=y
  ·subst h;simp
  ·have ih:=LM he x l;simp[h,ih]
theorem afJ{d:DT α}{e:ES}(he:∀ x y,nG e (d.aA x) (d.aA y)=decide (x=y))(x:α)(l:List α):obB (gQ e (d.aA x) (EU d l))=decide (x∈l):=by rw[LM he];by_cases h:x∈l<;>simp[h,obB]
end Go.Sx
namespace Go.Sx
open Go
variable {P:Program} {main:Bool} {Fz:Nat->Prop}
namespace W
end W
structure DL(α:Type) where
 bg:α
 aA:α->List SV
 aI:List ay->List SV->α
 decP:List ay->List SV->Prop
 ok:∀ {J:Env} {m:List ay} {w:World},Good J m w->∀ {xs:List SV},decP m xs->∀ {cs:List Value},bV xs J cs->bV (aA (aI m xs)) (jZ J m w).cl cs
 ren:∀ (r:Nat->Option Nat) (y:α),dH r (aA y)=aA y
 kill:∀ (i:Nat) (y:α),dn i (aA y)=aA y
 vE:∀ (m:List ay) (y:α),aI m (aA y)=y
 pE:∀ (m:List ay) (y:α),decP m (aA y)
def DL.nil:DL Unit:=⟨(),λ_=>[],λ_ _=>(),λ_ xs=>match xs with|[]=>True|_=>False,fun{J m w} g {xs} h {cs} hs=>by
 cases xs with
 |nil=>exact hs
 |cons=>exact h.elim,λ_ _=>rfl,λ_ _=>rfl,λ_ _=>rfl,λ_ _=>trivial⟩
def DL.cons{α β:Type}(d:DT α)(r:DL β):DL (α×β) where
 bg:=(d.bg,r.bg)
 aA:=λy=>d.aA y.1::r.aA y.2
 aI:=λm xs=>match xs with
  |x::xs=>(d.aI m x,r.aI m xs)
  |[]=>(d.bg,r.bg)
 decP:=λm xs=>match xs with
  |x::xs=>d.decP m x/\r.decP m xs
  |[]=>False
 ok:=fun{J m w} g {xs} h {cs} hs=>by
  cases xs with
  |nil=>exact h.elim
  |cons x xs=>
   obtain⟨h1,h2⟩:=h;simp only[bV] at hs ⊢;obtain⟨a,b,e1,e2,e3⟩:=hs;exact⟨a,b,e1,d.ok g h1 e2,r.ok g h2 e3⟩
 ren:=λs y=>by simp only[dH,d.ren,r.ren]
 kill:=λs y=>by simp only[dn,d.kill,r.kill]
 vE:=λm y=>by simp only[d.vE,r.vE]
 pE:=λm y=>⟨d.pE m y.1,r.pE m y.2⟩
def DT.st{α:Type}(L:DL α):DT α where
 bg:=L.bg
 aA:=λy=> .agg (L.aA y)
 aI:=λm x=>match x with
  | .agg xs=>L.aI m xs
  |_=>L.bg
 decP:=λm x=>match x with
  | .agg xs=>L.decP m xs
  |_=>False
 ok:=fun{J m w} g {x} h {cs} hs=>by
  cases x with
  |agg xs=>
   simp only[ah] at hs ⊢;exact L.ok g h hs
  |_=>exact h.elim
 agg:=fun{m x} h=>by cases x<;>first|exact h.elim|rfl
 vE:=λm y=>L.vE m y
 pE:=λm y=>L.pE m y
 ren:=λr y=>by simp only[Sx.ren,L.ren]
 kill:=λi y=>by simp only[Sx.kill,L.kill]
 val:=λy=>rfl
end Go.Sx
namespace Go.Sx
open Go
variable {P:Program} {main:Bool} {Fz:Nat->Prop}
def DT.sum{α β:Type}(t1 t2:TypeId)(a:DT α)(b:DT β)(hne:t2≠t1):DT (α ⊕ β) where
 bg:= .inl a.bg
 aA:=λy=>match y with
  | .inl x=> .iface t1 (a.aA x)
  | .inr x=> .iface t2 (b.aA x)
 aI:=λm x=>match x with
  | .iface t y=>if t=t1 then .inl (a.aI m y) else .inr (b.aI m y)
  |_=> .inl a.bg
 decP:=λm x=>match x with
  | .iface t y=>if t=t1 then a.decP m y else(t=t2/\b.decP m y)
  |_=>False
 ok:=fun{J m w} g {x} h {cs} hs=>by
  cases x with
  |iface t y=>
   simp only at h ⊢;simp only[ah] at hs;obtain⟨xs,h1,h2⟩:=hs;by_cases e:t=t1
   ·rw[if_pos e] at h ⊢;simp only[ah];exact⟨xs,a.ok g h h1,by rw[h2,a.agg h,e]⟩
   ·rw[if_neg e] at h ⊢;simp only[ah];exact⟨xs,b.ok g h.2 h1,by rw[h2,b.agg h.2,h.1]⟩
  |_=>exact h.elim
 agg:=fun{m x} h=>by
  cases x with
  |iface t y=>
   simp only;by_cases e:t=t1
   ·rw[if_pos e];rfl
   ·rw[if_neg e];rfl
  |_=>exact h.elim
 vE:=λm y=>by
  cases y with
  |inl x=>simp[a.vE]
  |inr x=>simp[b.vE,hne]
 pE:=λm y=>by
  cases y with
  |inl x=>simp[a.pE]
  |inr x=>simp[b.pE,hne]
 ren:=λr y=>by cases y<;>simp only[Sx.ren,a.ren,b.ren]
 kill:=λi y=>by cases y<;>simp only[Sx.kill,a.kill,b.kill]
 val:=λy=>by cases y<;>rfl
theorem yF{t:TypeId}{x:SV}(h:Gs x):Gs (.iface t x):=by intro J J' cs h1 h2 h3 hc;simp only[ah] at hc ⊢;obtain⟨xs,k1,k2⟩:=hc;exact⟨xs,h J J' xs h1 h2 h3 k1,k2⟩
instance {α β:Type}{t1 t2:TypeId}{a:DT α}{b:DT β}{hne:t2≠t1}[ha:Flat a][hb:Flat b]:Flat (DT.sum t1 t2 a b hne):=⟨λy=>by
 cases y with
 |inl x=>exact yF (ha.noH x)
 |inr x=>exact yF (hb.noH x)⟩
theorem aiX{α β:Type}(t1 t2:TypeId)(a:DT α)(b:DT β)(hne:t2≠t1)(x:α):(DT.sum t1 t2 a b hne).aA (.inl x)= .iface t1 (a.aA x):=nr rfl
theorem aiY{α β:Type}(t1 t2:TypeId)(a:DT α)(b:DT β)(hne:t2≠t1)(x:β):(DT.sum t1 t2 a b hne).aA (.inr x)= .iface t2 (b.aA x):=nr rfl
attribute [go_sem] aiX aiY
end Go.Sx
namespace Go.Sx
open Go
variable {P:Program} {main:Bool} {Fz:Nat->Prop}
theorem yJ{σ:Type}(d:DT σ)(T:TypeId)(w:Nat)(r:Nat->Option Nat)(s:List σ):dR r (.vec T w (s.map d.aA))= .vec T w (s.map d.aA):=by rw[dR,Aw]
theorem Ws{σ:Type}(d:DT σ)(m:List ay)(s:List σ):(s.map d.aA).map (d.aI m)=s:=by rw[List.map_map,show d.aI m∘d.aA=id from funext λy=>d.vE m y,z0h]
theorem ay.pinned{T:TypeId}{w:Nat}{l:List SV}(h:tX<=T):(ay.vec T w l).qw=true:=decide_eq_true h
def FH.sv(f:FuncId){σ α ρ:Type}(T:TypeId)(w:Nat)(d:DT σ)(A:DA α)(R:DR ρ)(pre:List σ->α->Prop)(F:List σ->α->ρ)(S:List σ->α->List σ)(Γ:FH):FH:=
 FH.on f (λargs m=>match args with
  |x::rest=>match x with
   | .vec i n=>match ak m i with
    | .vec T' w' l=> .is (T'=T/\w'=w/\n=l.length/\(l.map (d.aI [])).map d.aA=l/\A.aA (A.aI [] rest)=rest/\pre (l.map (d.aI [])) (A.aI [] rest)) (R.aA (F (l.map (d.aI [])) (A.aI [] rest))) (m.set i (.vec T w ((S (l.map (d.aI [])) (A.aI [] rest)).map d.aA)))
    |_=> .no
   |_=> .no
  |[]=> .no) Γ
theorem FH.jf{f:FuncId}{σ α ρ:Type}{T:TypeId}{w:Nat}{d:DT σ}{A:DA α}{R:DR ρ}{pre:List σ->α->Prop}{F:List σ->α->ρ}{S:List σ->α->List σ}{Γ:FH}(hT:tX<=T)(hf:qp P f=true)
  (h:∀ s y,pre s y->bC P main Fz f (.vec 0 s.length::A.aA y) [.vec T w (s.map d.aA)] (R.aA (F s y)) [.vec T w ((S s y).map d.aA)]) (hΓ:bQ P main Fz Γ):bQ P main Fz (FH.sv f T w d A R pre F S Γ):=
 FH.Eo (λargs m=>by
  cases args with
  |nil=>trivial
  |cons x rest=>
   cases x with
   |vec i n=>
    simp only;cases hm:ak m i with
    |dead=>trivial
    |blk T' c=>trivial
    |mp ek ev l=>trivial
    |vec T' w' l=>
     rintro⟨rfl,rfl,rfl,h1,h2,h3⟩;refine⟨hf,?_⟩;generalize hs:l.map (d.aI [])=s at h1 h3 ⊢;generalize hy:A.aI [] rest=y at h2 h3 ⊢;subst h1;subst h2;have hi:i<m.length:=by
      rcases z0b i m.length with hi|hi
      ·exact hi
      ·rw[bI hi] at hm;cases hm
     have key:=lG (args:= .vec i (s.map d.aA).length::A.aA y) (m:=m) (h s y h3) [i] (by simp) (by intro j hj;simp only[z0o] at hj;subst hj;rw[hm];exact ay.pinned hT) (by simp only[dH,A.ren,Sx.ren,iD,fQ,z08,BEq.rfl,z0d,if_true,z06,z00])
      (by simp only[fJ,z03,z0a,hm,yJ]) (by simp) (by intro j hj;simp at hj;subst hj;exact ay.pinned hT)
     rw[R.ren] at key;have hmm:eH [i] m [.vec T' w' ((S s y).map d.aA)]=m.set i (.vec T' w' ((S s y).map d.aA)):=by simp[eH,ak,yJ]
     rwa [hmm] at key
   |_=>trivial) hΓ
def FH.sw(f:FuncId)(k:Nat){σ α ρ:Type}(T:TypeId)(w:Nat)(d:DT σ)(Ti:TypeId)(A:DA α)(c0:List SV)(R:DR ρ)(pre:List σ->α->Int->Prop)(F:List σ->α->Int->ρ)(S:List σ->α->Int->Int)(Γ:FH):FH:=
 FH.on f (λargs m=>match args with
  |x::rest=>match x with
   | .vec i n=>match ak m i with
    | .vec T' w' l=>match rest.drop k with
     |p::cs=>match p with
      | .ptr j pp o=>match ak m j with
       | .blk Ti' cv=>match cv with
        | .int ki q=> .is (T'=T/\w'=w/\n=l.length/\(l.map (d.aI [])).map d.aA=l/\A.aA (A.aI [] (rest.take k))=rest.take k/\cs=c0/\pp=[]/\o=0/\Ti'=Ti/\ki= .i64/\pre (l.map (d.aI [])) (A.aI [] (rest.take k)) q)
          (R.aA (F (l.map (d.aI [])) (A.aI [] (rest.take k)) q)) (m.set j (.blk Ti (.int .i64 (S (l.map (d.aI [])) (A.aI [] (rest.take k)) q))))
        |_=> .no
       |_=> .no
      |_=> .no
     |[]=> .no
    |_=> .no
   |_=> .no
  |[]=> .no) Γ
theorem Ro(r:Nat->Option Nat):∀ a b:List SV,dH r (a++b)=dH r a++dH r b
 |[],_=>rfl
 |x::a,b=>by simp only[z0g,dH,Ro r a b]
theorem FH.Kt{f:FuncId}{k:Nat}{σ α ρ:Type}{T:TypeId}{w:Nat}{d:DT σ}{Ti:TypeId}{A:DA α}{c0:List SV}{R:DR ρ}{pre:List σ->α->Int->Prop}{F:List σ->α->Int->ρ}{S:List σ->α->Int->Int}{Γ:FH}(hT:tX<=T)(hf:qp P f=true)(hc:∀ r,dH r c0=c0)
  (h:∀ s y q,pre s y q->bC P main Fz f (.vec 0 s.length::(A.aA y++ .ptr 1 [] 0::c0)) [.vec T w (s.map d.aA), .blk Ti (.int .i64 q)] (R.aA (F s y q)) [.vec T w (s.map d.aA), .blk Ti (.int .i64 (S s y q))]) (hΓ:bQ P main Fz Γ):bQ P main Fz (FH.sw f k T w d Ti A c0 R pre F S Γ):=
 FH.Eo (λargs m=>by
  cases args with
  |nil=>trivial
  |cons x rest=>
   cases x with
   |vec i n=>
    simp only;cases hm:ak m i with
    |dead=>trivial
    |blk T' c=>trivial
    |mp ek ev l=>trivial
    |vec T' w' l=>
     simp only;cases hd:rest.drop k with
     |nil=>trivial
     |cons p cs=>
      cases p with
      |ptr j pp o=>
       simp only;cases hmj:ak m j with
       |dead=>trivial
       |vec T'' w'' l''=>trivial
       |mp ek ev l=>trivial
       |blk Ti' cv=>
        cases cv with
        |int ki q=>
         rintro⟨rfl,rfl,rfl,h1,h2,rfl,rfl,rfl,rfl,rfl,h3⟩;refine⟨hf,?_⟩;generalize hs:l.map (d.aI [])=s at h1 h3 ⊢;generalize hy:A.aI [] (rest.take k)=y at h2 h3 ⊢;have hrest:rest=A.aA y++ .ptr j [] 0::cs:=by rw[h2,<- hd,List.take_append_drop]
         subst h1;have hi:i<m.length:=by
          rcases z0b i m.length with hi|hi
          ·exact hi
          ·rw[bI hi] at hm;cases hm
         have hj:j<m.length:=by
          rcases z0b j m.length with hi|hi
          ·exact hi
          ·rw[bI hi] at hmj;cases hmj
         have hij:i≠j:=λe=>by subst e;rw[hm] at hmj;cases hmj
         have hsel:fQ [i,j] i=some 0/\fQ [i,j] j=some 1:=by
          constructor
          ·simp[fQ]
          ·simp[fQ,List.idxOf_cons,beq_false_of_ne hij]
         have key:=lG (args:= .vec i (s.map d.aA).length::rest) (m:=m) (h s y q h3) [i,j] (by simp[hij]) (by
           intro x hx;simp only[z04,z0f,or_false] at hx;rcases hx with rfl|rfl
           ·rw[hm];exact ay.pinned hT
           ·rw[hmj];rfl) (by
           rw[hrest];simp only[dH,Ro,A.ren,Sx.ren,iD,hsel.1,hsel.2,z00,hc])
          (by simp only[fJ,z03,z0a,hm,hmj,yJ];rfl) (by simp) (by
           intro x hx;have:x=0\/x=1:=by simp at hx;omega
           rcases this with rfl|rfl
           ·exact ay.pinned hT
           ·rfl)
         rw[R.ren] at key;have hmm:eH [i,j] m [.vec T' w' (s.map d.aA), .blk Ti' (.int .i64 (S s y q))]=m.set j (.blk Ti' (.int .i64 (S s y q))):=by
          have e:m.set i (.vec T' w' (s.map d.aA))=m:=by
           apply z09;intro a;rw[z0q];by_cases ha:i=a
           ·subst ha;rw[if_pos rfl,if_pos hi,List.getElem?_eq_getElem hi];have:ak m i=m[i]:=by simp[ak,z01,hi]
            rw[<- this,hm]
           ·rw[if_neg ha]
          show((m.set i (dR _ (ak _ 0))).set j (dR _ (ak _ 1)))++_=_;have e0:∀ r,dR r (ak [ay.vec T' w' (s.map d.aA), .blk Ti' (.int .i64 (S s y q))] 0)= .vec T' w' (s.map d.aA):=λr=>yJ d T' w' r s;rw[e0,e];simp[ak,dR,Sx.ren]
         rwa [hmm] at key
        |_=>trivial
      |_=>trivial
   |_=>trivial) hΓ
namespace W
theorem ap0(f:FuncId){σ α ρ:Type}(T:TypeId)(w:Nat)(d:DT σ)(A:DA α)(R:DR ρ)(pre:List σ->α->Prop)(F:List σ->α->ρ)(S:List σ->α->List σ)(Γ:FH)(g:FuncId)(i n:Nat)(rest:List SV)(m:List ay):
  FH.sv f T w d A R pre F S Γ g (.vec i n::rest) m=if g=f then(match ak m i with
    | .vec T' w' l=> .is (T'=T/\w'=w/\n=l.length/\(l.map (d.aI [])).map d.aA=l/\A.aA (A.aI [] rest)=rest/\pre (l.map (d.aI [])) (A.aI [] rest)) (R.aA (F (l.map (d.aI [])) (A.aI [] rest))) (m.set i (.vec T w ((S (l.map (d.aI [])) (A.aI [] rest)).map d.aA)))
    |_=> .no) else Γ g (.vec i n::rest) m:=nr rfl
theorem aa7(f:FuncId){σ α ρ:Type}(T:TypeId)(w:Nat)(d:DT σ)(A:DA α)(R:DR ρ)(pre:List σ->α->Prop)(F:List σ->α->ρ)(S:List σ->α->List σ)(Γ:FH)(g:FuncId)(args:List SV)(m:List ay)(h:g≠f):
  FH.sv f T w d A R pre F S Γ g args m=Γ g args m:=nr (if_neg h)
theorem ap1(f:FuncId)(k:Nat){σ α ρ:Type}(T:TypeId)(w:Nat)(d:DT σ)(Ti:TypeId)(A:DA α)(c0:List SV)(R:DR ρ)(pre:List σ->α->Int->Prop)(F:List σ->α->Int->ρ)(S:List σ->α->Int->Int)(Γ:FH)(g:FuncId)(i n:Nat)(rest:List SV)(m:List ay):
  FH.sw f k T w d Ti A c0 R pre F S Γ g (.vec i n::rest) m=if g=f then(match ak m i with
    | .vec T' w' l=>match rest.drop k with
     |p::cs=>match p with
      | .ptr j pp o=>match ak m j with
       | .blk Ti' cv=>match cv with
        | .int ki q=> .is (T'=T/\w'=w/\n=l.length/\(l.map (d.aI [])).map d.aA=l/\A.aA (A.aI [] (rest.take k))=rest.take k/\cs=c0/\pp=[]/\o=0/\Ti'=Ti/\ki= .i64/\pre (l.map (d.aI [])) (A.aI [] (rest.take k)) q)
          (R.aA (F (l.map (d.aI [])) (A.aI [] (rest.take k)) q)) (m.set j (.blk Ti (.int .i64 (S (l.map (d.aI [])) (A.aI [] (rest.take k)) q))))
        |_=> .no
       |_=> .no
      |_=> .no
     |[]=> .no
    |_=> .no) else Γ g (.vec i n::rest) m:=nr rfl
theorem aa8(f:FuncId)(k:Nat){σ α ρ:Type}(T:TypeId)(w:Nat)(d:DT σ)(Ti:TypeId)(A:DA α)(c0:List SV)(R:DR ρ)(pre:List σ->α->Int->Prop)(F:List σ->α->Int->ρ)(S:List σ->α->Int->Int)(Γ:FH)(g:FuncId)(args:List SV)(m:List ay)(h:g≠f):
  FH.sw f k T w d Ti A c0 R pre F S Γ g args m=Γ g args m:=nr (if_neg h)
end W
attribute [go_sem ↓] W.ap0 W.aa7 W.ap1 W.aa8
attribute [go_sem] Ws
end Go.Sx
namespace Go.Sx
open Go
variable {P:Program} {main:Bool} {Fz:Nat->Prop}
def Rj(l:List SV):List Int:=l.map (DT.int.aI [])
theorem aeB(l:List Int):Rj (l.map DT.int.aA)=l:=Ws DT.int [] l
def cutV(i n k:Nat):SV:=if k=n then .vec i n else .kZ i k
theorem ajz{J:Env}{i n k:Nat}{ao:Option Addr}{cap:Nat}{v:Value}(h:bK J (cutV i n k) v)(hv:J.vv i= .slice ao n cap):v= .slice ao k cap:=by
 unfold cutV at h;split at h
 ·rename_i e;subst e;obtain⟨_,_,h⟩:=kF h;rw[h,hv]
 ·obtain⟨cs,h1,h2⟩:=h;simp only[ah] at h1;obtain⟨_,ao',n0,cap',h3,_,rfl⟩:=h1;rw[hv] at h3;cases h3;exact h2
def FH.ct(f:FuncId)(T:TypeId)(F:List Int->List Int)(Γ:FH):FH:=
 FH.on f (λargs m=>match args with
  |[x]=>match x with
   | .vec i n=>match ak m i with
    | .vec T' w' l=> .is (T'=T/\w'=1/\n=l.length/\(Rj l).map DT.int.aA=l/\n<=1000000) (.vec m.length (F (Rj l)).length) (m.set i .dead++[.vec T 1 ((F (Rj l)).map DT.int.aA)])
    |_=> .no
   |_=> .no
  |_=> .no) Γ
theorem FH.apY{f:FuncId}{T:TypeId}{F:List Int->List Int}{Γ:FH}(hT:tX<=T)(hf:qp P f=true)
  (h:∀ s:List Int,s.length<=1000000->∃ l':List Int,l'.length=s.length/\l'.take (F s).length=F s/\(F s).length<=s.length/\bC P main Fz f [.vec 0 s.length] [.vec T 1 (s.map DT.int.aA)] (cutV 0 s.length (F s).length) [.vec T 1 (l'.map DT.int.aA)]) (hΓ:bQ P main Fz Γ):bQ P main Fz (FH.ct f T F Γ):=
 FH.Eo (λargs m=>by
  split
  ·split
   ·split
    ·rename_i i n _ T' w' l hm;rintro⟨rfl,rfl,rfl,h1,h2⟩;refine⟨hf,?_⟩;generalize hs:Rj l=s at h1;subst h1;rw[z00] at h2 ⊢;obtain⟨l',q1,q2,q3,q4⟩:=h s h2;have hi:i<m.length:=jJ (by rw[hm];nofun)
     have key:=lG (args:=[.vec i s.length]) (m:=m) q4 [i] (by simp) (by intro j hj;simp only[z0o] at hj;subst hj;rw[hm];exact ay.pinned hT) (by simp only[dH,Sx.ren,iD,fQ,z08,BEq.rfl,z0d,if_true,z06])
      (by simp only[fJ,z03,z0a,hm,yJ]) (by simp) (by intro j hj;simp at hj;subst hj;exact ay.pinned hT)
     have hmm:eH [i] m [.vec T' 1 (l'.map DT.int.aA)]=m.set i (.vec T' 1 (l'.map DT.int.aA)):=by simp[eH,ak,yJ]
     have aeC:ren (jd [i] m.length) (cutV 0 s.length (F s).length)=cutV i s.length (F s).length:=by unfold cutV;split<;>simp[Sx.ren,iD,jd]
     rw[hmm,aeC] at key;intro ρ J vs x hI Wu;refine(key ρ J vs x hI Wu).mono ?_;rintro v x' ⟨J',k1,k2,k3⟩;have hm':ak (m.set i (.vec T' 1 (l'.map DT.int.aA))) i= .vec T' 1 (l'.map DT.int.aA):=by rw[oq _ hi,if_pos rfl]
     obtain⟨ao,cap,e1,e2,e3⟩:=k3.inv.cut (n':=(F s).length) (T':=T') hm' (by rw[z00];omega) (λ_ h=>h)
     rw[z00,q1] at e1;have hv:=ajz k2 e1;subst hv;rw[List.set_set,<- List.map_take,q2] at e2;rw[List.length_set] at e3;exact⟨_,k1.trans (J'.dS _ _),e3,k3.same e2⟩
    ·trivial
   ·trivial
  ·trivial) hΓ
namespace W
theorem apZ(f:FuncId)(T:TypeId)(F:List Int->List Int)(Γ:FH)(g:FuncId)(i n:Nat)(m:List ay):
  FH.ct f T F Γ g [.vec i n] m=if g=f then(match ak m i with
    | .vec T' w' l=> .is (T'=T/\w'=1/\n=l.length/\(Rj l).map DT.int.aA=l/\n<=1000000) (.vec m.length (F (Rj l)).length) (m.set i .dead++[.vec T 1 ((F (Rj l)).map DT.int.aA)])
    |_=> .no) else Γ g [.vec i n] m:=nr rfl
theorem aa5(f:FuncId)(T:TypeId)(F:List Int->List Int)(Γ:FH)(g:FuncId)(args:List SV)(m:List ay)(h:g≠f):
  FH.ct f T F Γ g args m=Γ g args m:=nr (if_neg h)
end W
attribute [go_sem ↓] W.apZ W.aa5
attribute [go_sem] aeB
end Go.Sx
