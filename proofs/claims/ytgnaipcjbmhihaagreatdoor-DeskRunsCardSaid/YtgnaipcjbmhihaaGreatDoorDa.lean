/- A part of DeskRuns' proof. -/
import Derived.Test.YtgnaipcjbmhihaaGreatDoorCa
import Derived.RangeFuncSeq
import Derived.TacticsIn
import Derived.OrdersIn
import Derived.OwnWalkIn
import Derived.Sort.LoopGhostIn
set_option linter.unusedVariables false
set_option linter.unusedSimpArgs false
open List renaming length_map->z00,getD->z05,mem_cons->z0a,map_cons->z0b,mapM_cons->z0d,getElem_mem->z0e,ext_getElem?->z0f,cons_append->z0g,getElem?_eq_getElem->z0j,replicate->z0o,range->z0p,all_eq_true->z0r,map_id->z0s,take_take->z0v,drop_take->z0w,getElem?_eq_none->z16,mem_of_getElem?->z19,idxOf_cons_self->z1a,contains_cons->z1b,getElem?_set->z1e,not_mem_nil->z1g,cons.injEq->z1h,nodup_nil->z1i
open Bool renaming and_eq_true->z01,false_eq_true->z1c,not_eq_true'->z1f
open Option renaming some.injEq->z02,map_eq_some_iff->z0c,pure_def->z0k,map_some->z1d
open Nat renaming lt_of_lt_of_le->z03,not_lt_zero->z04,le_refl->z07,mul_le_mul_right->z08,le_trans->z09,zero_le->z0h,le_of_eq->z0m,zero_add->z0q,succ_mul->z14,lt_or_ge->z15,le_of_ble_eq_true->z18
open Go.World renaming putObj_heap_other->z06,putObj_heap_same->z0y,alloc_heap_new->z0z
open Go.Value renaming ownBlock->z0i
open Array renaming replicate->z0l,getElem?_toList->z0n,getD_eq_getD_getElem?->z0u,getElem?_replicate->z0x
open Go.Code renaming region->z0t
open Prod renaming mk.injEq->z1j
open Go.Oper renaming semAt_eq->z1k
namespace Go.Sx
open Go
variable {P:Program}
mutual
def aG:(T:TT)->List ay->SV->Den T
 | .int _,_,x=>match x with
  | .int _ n=>n
  |_=>(0:Int)
 | .bool,_,x=>match x with
  | .bool b=>b
  |_=>false
 | .str,_,x=>match x with
  | .str s=>s
  |_=>([]:List UInt8)
 | .st l,m,x=>match x with
  | .agg xs=>F7 l m xs
  |_=>aoZ l
 | .arr _ _ T,m,x=>match x with
  | .arr _ _ f=>λi:Nat=>aG T m (f i)
  |_=>λ_:Nat=>aI T
 | .sl _ T,m,x=>match x with
  | .lst _ _ f l=>l.map λy=>aG T m (f y)
  | .vec i _=>match ah m i with
   | .vec _ _ l=>l.map λy=>aG T m y
   |_=>([]:List (Den T))
  |_=>([]:List (Den T))
 | .ref T,m,x=>match x with
  | .ref c _ _=>aG T m c
  | .ptr i _ _=>match ah m i with
   | .blk _ c=>aG T m c
   |_=>aI T
  |_=>aI T
def F7:(l:List TT)->List ay->List SV->y7 l
 |[],_,_=>()
 |T::l,m,xs=>match xs with
  |x::xs=>(aG T m x,F7 l m xs)
  |[]=>aoZ (T::l)
end
mutual
def decP:(T:TT)->List ay->SV->Prop
 | .int k,_,x=>match x with
  | .int k' _=>k'=k
  |_=>False
 | .bool,_,x=>match x with
  | .bool _=>True
  |_=>False
 | .str,_,x=>match x with
  | .str _=>True
  |_=>False
 | .st l,m,x=>match x with
  | .agg xs=>TM l m xs
  |_=>False
 | .arr n w T,m,x=>match x with
  | .arr n' w' f=>n'=n/\w'=w/\∀ i,i<n->decP T m (f i)
  |_=>False
 | .sl w T,m,x=>match x with
  | .lst w' _ f l=>w'=w/\∀ y∈l,decP T m (f y)
  | .vec i _=>match ah m i with
   | .vec _ w' l=>w'=w/\∀ y∈l,decP T m y
   |_=>False
  | .bF=>True
  |_=>False
 | .ref T,m,x=>match x with
  | .ref c p o=>p=[]/\o=0/\decP T m c
  | .ptr i p o=>match ah m i with
   | .blk _ c=>p=[]/\o=0/\decP T m c
   |_=>False
  |_=>False
def TM:(l:List TT)->List ay->List SV->Prop
 |[],_,xs=>match xs with
  |[]=>True
  |_=>False
 |T::l,m,xs=>match xs with
  |x::xs=>decP T m x/\TM l m xs
  |[]=>False
end
mutual
theorem zK:∀ (T:TT) (m:List ay) (y:Den T),aG T m (aA T y)=y
 | .int _,_,_=>rfl
 | .bool,_,_=>rfl
 | .str,_,_=>rfl
 | .st l,m,y=>Nq l m y
 | .arr _ _ T,m,f=>by
  simp only[aA,aG]
  funext i
  exact zK T m (f i)
 | .sl _ T,m,l=>by
  simp only[aA,aG];have:(λy=>aG T m (aA T y))=id:=by funext y;exact zK T m y
  rw[this,z0s]
 | .ref T,m,y=>by simp only[aA,aG];exact zK T m y
theorem Nq:∀ (l:List TT) (m:List ay) (y:y7 l),F7 l m (sG l y)=y
 |[],_,_=>rfl
 |T::l,m,y=>by simp only[sG,F7];rw[zK T m y.1,Nq l m y.2]
end
mutual
theorem zL:∀ (T:TT) (m:List ay) (y:Den T),decP T m (aA T y)
 | .int _,_,_=>rfl
 | .bool,_,_=>trivial
 | .str,_,_=>trivial
 | .st l,m,y=>Nr l m y
 | .arr _ _ T,m,f=>by
  simp only[aA,decP];exact⟨trivial,trivial,λi _=>zL T m (f i)⟩
 | .sl _ T,m,l=>by
  simp only[aA,decP];exact⟨trivial,λy _=>zL T m y⟩
 | .ref T,m,y=>by simp only[aA,decP];exact⟨trivial,trivial,zL T m y⟩
theorem Nr:∀ (l:List TT) (m:List ay) (y:y7 l),TM l m (sG l y)
 |[],_,_=>trivial
 |T::l,m,y=>⟨zL T m y.1,Nr l m y.2⟩
end
theorem ao0:∀ (T:TT) {m:List ay} {x:SV},decP T m x->(aA T (aG T m x)).isAgg=x.isAgg:=by
 intro T m x h;cases T<;>cases x<;>simp only[decP] at h<;>first
  |exact h.elim
  |rfl
mutual
theorem BX{J:Env}{m:List ay}{w:World}(g:Good J m w):∀ (T:TT) {x:SV},decP T m x->∀ {cs:List Value},au x J cs->au (aA T (aG T m x)) (gq J m w).cl cs
 | .int k,x,h,cs,hs=>by
  cases x<;>simp only[decP] at h;subst h;exact hs
 | .bool,x,h,cs,hs=>by
  cases x<;>simp only[decP] at h;exact hs
 | .str,x,h,cs,hs=>by
  cases x<;>simp only[decP] at h;exact hs
 | .st l,x,h,cs,hs=>by
  cases x<;>simp only[decP] at h;simp only[au] at hs;simp only[aG,aA,au];exact aai g l h hs
 | .arr n wd' T,x,h,cs,hs=>by
  cases x<;>simp only[decP] at h;obtain⟨rfl,rfl,h⟩:=h;simp only[au] at hs;simp only[aG,aA,au];exact⟨hs.1,λi hi=>BX g T (h i hi) (hs.2 i hi)⟩
 | .sl wd' T,x,h,cs,hs=>by
  have hcl:∀ {y:SV} {cs:List Value},au y J.cl cs->au y J cs:=λh=>au.mono _ J.AZ h;cases x with
  |lst w' d f l=>
   simp only[decP] at h;obtain⟨rfl,h⟩:=h;simp only[au] at hs;simp only[aG,aA,au];obtain⟨ao,cap,h1,h2,h3,h4,h5⟩:=hs;refine⟨ao,cap,by rw[h1,z00],by rw[z00];exact h2,h3,h4,λi hi=> ?_⟩
   rw[z00] at hi;obtain⟨b,off,T',fz,cur,e1,e2,e3,e4⟩:=h5 i hi;refine⟨b,off,T',fz,cur,e1,vH g _ _ e2,e3,?_⟩;have hx:l.getD i d=l[i]:=by simp[z05,hi]
   rw[hx] at e4;have hy:(l.map λy=>aG T m (f y)).getD i (aI T)=aG T m (f l[i]):=by simp[z05,hi]
   rw[hy];exact BX g T (h _ (z0e hi)) (hcl e4)
  |bF=>
   simp only[au] at hs;subst hs;simp only[aG,aA,au];exact⟨none,0,rfl,z07 _,z0h _,λ_=>rfl,λi hi=>absurd hi (z04 _)⟩
  |vec i n=>
   simp only[decP] at h;cases hm:ah m i with
   |vec E w' l=>
    rw[hm] at h;obtain⟨rfl,h⟩:=h;simp only[aG,hm,aA,au];simp only[au] at hs;obtain⟨h1,hn,h3⟩:=hs;have hr:=g.res i;rw[hm] at hr;obtain⟨xs,⟨e0,e1⟩,e2⟩:=hr;rcases e1 with⟨k1,k2⟩|⟨b,cap,cur,k1,k2,k3,k4,k5,k6,k7⟩
    ·refine⟨none,0,by rw[h3,k1];simp[k2],by simp[k2],z0h _,λ_=>rfl,λj hj=> ?_⟩
     rw[z00] at hj;omega
    ·refine⟨some ⟨b,0,none⟩,cap,by rw[h3,k1,z00],by rw[z00];exact k4,k5,(λh=>by cases h),λj hj=> ?_⟩
     rw[z00] at hj;have hjl:j*w'+w'<=l.length*w':=by
      have:=z08 w' (show j+1<=l.length from hj)
      rw[z14] at this;exact this
     have hcap:l.length*w'<=cap*w':=z08 _ k4;refine⟨b,0,E,(0,0),cur,rfl,?_,by omega,?_⟩
     ·show(gq J m w).H b=_;rw[ru (i:=i) (by rw[hm];simp[aN,k1,z0i])];exact k3
     ·have hx:l.getD j .junk=l[j]:=by simp[z05,hj]
      have hy:(l.map λy=>aG T m y).getD j (aI T)=aG T m l[j]:=by simp[z05,hj]
      rw[hy];have e3:=e2 j hj;rw[hx] at e3;have:=BX g T (h _ (z0e hj)) e3;have hsu:sub cur.toList (0+j*w') w'=sub xs (j*w') w':=by
       rw[<- k7];simp only[sub,z0q];rw[z0w,z0v]
       congr 1
       omega
      rw[hsu];exact this
   |dead=>rw[hm] at h;exact h.elim
   |blk T c=>rw[hm] at h;exact h.elim
   |mp ek ev l=>rw[hm] at h;exact h.elim
  |_=>exact h.elim
 | .ref T,x,h,cs,hs=>by
  have hcl:∀ {y:SV} {cs:List Value},au y J.cl cs->au y J cs:=λh=>au.mono _ J.AZ h;cases x with
  |ref c p o=>
   simp only[decP] at h;obtain⟨rfl,rfl,h⟩:=h;simp only[au] at hs;simp only[aG,aA,au];obtain⟨b,T',fz,cur,h1,h2,h3,h4⟩:=hs;exact⟨b,T',fz,cur,h1,vH g _ _ h2,h3,BX g T h (hcl h4)⟩
  |ptr i p o=>
   simp only[decP] at h;cases hm:ah m i with
   |blk T' c=>
    rw[hm] at h;obtain⟨rfl,rfl,h⟩:=h;simp only[aG,hm,aA,au];simp only[au] at hs;obtain⟨h1,h2,h3⟩:=hs;have hr:=g.res i;rw[hm] at hr;obtain⟨cs',e1,e2⟩:=hr;refine⟨J.blk i,T',(0,0),cs'.toArray,h3,?_,h2,BX g T h e2⟩;show(gq J m w).H _=_;rw[ru (i:=i) (by rw[hm];rfl)];exact e1
   |dead=>rw[hm] at h;exact h.elim
   |vec E w' l=>rw[hm] at h;exact h.elim
   |mp ek ev l=>rw[hm] at h;exact h.elim
  |_=>exact h.elim
theorem aai{J:Env}{m:List ay}{w:World}(g:Good J m w):∀ (l:List TT) {xs:List SV},TM l m xs->∀ {cs:List Value},bQ xs J cs->bQ (sG l (F7 l m xs)) (gq J m w).cl cs
 |[],xs,h,cs,hs=>by
  cases xs with
  |nil=>exact hs
  |cons=>exact h.elim
 |T::l,xs,h,cs,hs=>by
  cases xs with
  |nil=>exact h.elim
  |cons x xs=>
   obtain⟨h1,h2⟩:=h;simp only[bQ] at hs;obtain⟨a,b,e1,e2,e3⟩:=hs;simp only[F7,sG,bQ];exact⟨a,b,e1,BX g T h1 e2,aai g l h2 e3⟩
end
def IY(n:Nat):Nat->Option Nat:=λj=>some (n+j)
theorem Md(n:Nat):mG [] n=IY n:=by funext j;simp[mG,IY]
theorem aaj{f:FuncId}{args jJ:List SV}{m m1:List ay}{res:SV}(h:FnOK P f jJ [] res m1)(ha:∀ J w vs,Good J m w->bg args J vs->bg jJ (gq J m w).cl vs)
  (hres:KX (ren (IY m.length) res)) (hm1:∀ x∈m1,wP (dM (IY m.length) x)):
  iU P f args m (ren (IY m.length) res) (m++m1.map (dM (IY m.length))):=by
 rw[<- Md] at hres hm1 ⊢;intro β J vs w hi hs;have hs':bg jJ (lU [] (gq J m w)) vs:=bg.mono jJ (J:=(gq J m w).cl) ⟨z07 _,λ_ h=>absurd h (z04 _),λ_ h=>absurd h (z04 _),λ_ _ h=>h⟩ (ha _ _ _ hi.good hs);have hdl:(iw m).length=m.length:=by simp[iw]
 refine(Ez (m:=iw m) h [] z1i (λi h=>by cases h) rfl (z0h _) (λj hj=>absurd hj (z04 _)) hi.freeze hs').mono λe w' ⟨v,J',he,hle,hv,hi'⟩=> ?_
 have hmm:fA [] (iw m) m1=iw m++m1.map (dM (mG [] m.length)):=by simp[fA,hdl]
 rw[hmm] at hi';rw[hdl] at hv;obtain⟨k1,k2⟩:=Inv.thaw hi hle hi' (by intro x hx;obtain⟨y,hy,rfl⟩:=List.mem_map.1 hx;exact hm1 y hy)
 exact⟨v,_,he,k2,hres J' _ v rfl rfl rfl hv,k1⟩
mutual
def aak:TT->Bool
 | .st l=>P6 l
 | .arr _ _ T=>aak T
 | .sl _ _=>false
 | .ref _=>false
 |_=>true
def P6:List TT->Bool
 |[]=>true
 |T::l=>aak T&&P6 l
end
mutual
theorem Ig:∀ (T:TT) (r:Nat->Option Nat) (y:Den T),ren r (aA T y)=aA T y
 | .int _,_,_=>rfl
 | .bool,_,_=>rfl
 | .str,_,_=>rfl
 | .st l,r,y=>by simp only[aA,ren];rw[TN]
 | .arr _ _ T,r,f=>by simp only[aA,ren];congr;funext i;exact Ig T r (f i)
 | .sl _ T,_,_=>rfl
 | .ref T,_,_=>rfl
theorem TN:∀ (l:List TT) (r:Nat->Option Nat) (y:y7 l),dW r (sG l y)=sG l y
 |[],_,_=>rfl
 |T::l,r,y=>by simp only[sG,dW];rw[Ig T r y.1,TN l r y.2]
end
mutual
theorem Eb:∀ (T:TT) (i:Nat) (y:Den T),kill i (aA T y)=aA T y
 | .int _,_,_=>rfl
 | .bool,_,_=>rfl
 | .str,_,_=>rfl
 | .st l,i,y=>by simp only[aA,kill];rw[Ns]
 | .arr _ _ T,i,f=>by simp only[aA,kill];congr;funext j;exact Eb T i (f j)
 | .sl _ T,_,_=>rfl
 | .ref T,_,_=>rfl
theorem Ns:∀ (l:List TT) (i:Nat) (y:y7 l),dI i (sG l y)=sG l y
 |[],_,_=>rfl
 |T::l,i,y=>by simp only[sG,dI];rw[Eb T i y.1,Ns l i y.2]
end
theorem P7(T:TT)(r:Nat->Option Nat)(l:List (Den T)):dW r (l.map (aA T))=l.map (aA T):=by
 induction l with
 |nil=>rfl
 |cons x l ih=>simp only[z0b,dW];rw[Ig,ih]
theorem Lj(T:TT)(i:Nat)(l:List (Den T)):dI i (l.map (aA T))=l.map (aA T):=by
 induction l with
 |nil=>rfl
 |cons x l ih=>simp only[z0b,dI];rw[Eb,ih]
theorem P8(i:Nat)(a b:List SV):dI i (a++b)=dI i a++dI i b:=by
 induction a with
 |nil=>rfl
 |cons x l ih=>simp only[z0g,dI];rw[ih]
theorem TP(r:Nat->Option Nat)(a b:List SV):dW r (a++b)=dW r a++dW r b:=by
 induction a with
 |nil=>rfl
 |cons x l ih=>simp only[z0g,dW];rw[ih]
theorem P9:∀ (T:TT) (y:Den T),aak T=true->Ir (aA T y)
 | .int k,y,_=>kY k y
 | .bool,y,_=>IB y
 | .str,y,_=>Zp y
 | .st l,y,h=>wQ (noL l y h)
 | .arr _ _ T,f,h=>Oq λi _=>P9 T (f i) h
where noL:∀ (l:List TT) (y:y7 l),P6 l=true->∀ x∈sG l y,Ir x
 |[],_,_,_,hx=>by cases hx
 |T::l,y,h,x,hx=>by
  simp only[P6,z01] at h;simp only[sG,z0a] at hx;rcases hx with rfl|hx
  ·exact P9 T y.1 h.1
  ·exact noL l y.2 h.2 x hx
theorem ab4(T:TT)(y:Den T):(aA T y).isVal=true:=by cases T<;>rfl
inductive RT where
 |one (T:TT)
 |two (T U:TT)
 |three (T U V:TT)
@[reducible] def ayV:RT->Type
 | .one T=>Den T
 | .two T U=>Den T×Den U
 | .three T U V=>Den T×Den U×Den V
def aB6:(R:RT)->ayV R->SV
 | .one T,y=>aA T y
 | .two T U,y=> .bK [aA T y.1,aA U y.2]
 | .three T U V,y=> .bK [aA T y.1,aA U y.2.1,aA V y.2.2]
def FH.fn(f:FuncId)(Ts:List TT)(R:RT)(pre:y7 Ts->Prop)(F:y7 Ts->ayV R)(Γ:FH):FH:=
 FH.on f (λargs m=> .ro (TM Ts m args/\pre (F7 Ts m args)) (aB6 R (F (F7 Ts m args)))) Γ
end Go.Sx
namespace Go.Sx
open Go
variable {P:Program}
def allL.{u}{β:Type u}(l:List β)(p:β->Prop):Prop:= ∀ y∈l,p y
theorem ab5.{u}{β:Type u}(p:β->Prop)(x:β)(l:List β):allL (x::l) p=(p x/\allL l p):=by simp[allL]
theorem ajj.{u}{β:Type u}(p:β->Prop):allL ([]:List β) p=True:=by simp[allL]
theorem ajk.{u}{β:Type u}(p:β->Prop)(a b:List β):allL (a++b) p=(allL a p/\allL b p):=by simp[allL,or_imp,forall_and]
theorem CP.{u,v}{β:Type u}{γ:Type v}(p:β->Prop)(f:γ->β)(l:List γ):allL (l.map f) p=allL l (λy=>p (f y)):=by simp[allL]
theorem ab6.{u}{β:Type u}(l:List β):allL l (λ_=>True)=True:=by simp[allL]
structure DT(α:Type) where
 aI:α
 aA:α->SV
 aG:List ay->SV->α
 decP:List ay->SV->Prop
 ok:∀ {J:Env} {m:List ay} {w:World},Good J m w->∀ {x:SV},decP m x->∀ {cs:List Value},au x J cs->au (aA (aG m x)) (gq J m w).cl cs
 agg:∀ {m:List ay} {x:SV},decP m x->(aA (aG m x)).isAgg=x.isAgg
 vE:∀ (m:List ay) (y:α),aG m (aA y)=y
 pE:∀ (m:List ay) (y:α),decP m (aA y)
 ren:∀ (r:Nat->Option Nat) (y:α),Sx.ren r (aA y)=aA y
 kill:∀ (i:Nat) (y:α),Sx.kill i (aA y)=aA y
 val:∀ y:α,(aA y).isVal=true
def DT.nC(T:TT):DT (Den T):=⟨Sx.aI T,Sx.aA T,Sx.aG T,Sx.decP T,λg _ h _ hs=>BX g T h hs,λh=>ao0 T h,zK T,zL T,Ig T,Eb T,ab4 T⟩
def DT.Fv{α β:Type}(d:DT α)(f:α->β)(g:β->α)(h1:∀ x,f (g x)=x)(h2:∀ x,g (f x)=x):DT β:=
 ⟨f d.aI,λy=>d.aA (g y),λm x=>f (d.aG m x),d.decP,λgd _ h _ hs=>by rw[h2];exact d.ok gd h hs,λh=>by rw[h2];exact d.agg h,λm y=>by rw[d.vE,h1],λm y=>d.pE m _,λr y=>d.ren r _,λi y=>d.kill i _,λy=>d.val _⟩
def DT.int:DT Int:=DT.nC (.int .i64)
def DT.byte:DT Int:=DT.nC (.int .u8)
def DT.bool:DT Bool:=DT.nC .bool
def DT.str:DT (List UInt8):=DT.nC .str
def DT.arr{α:Type}(n w:Nat)(d:DT α):DT (Nat->α) where
 aI:=λ_=>d.aI
 aA:=λf=> .arr n w λi=>d.aA (f i)
 aG:=λm x=>match x with
  | .arr _ _ f=>λi=>d.aG m (f i)
  |_=>λ_=>d.aI
 decP:=λm x=>match x with
  | .arr n' w' f=>n'=n/\w'=w/\∀ i,i<n->d.decP m (f i)
  |_=>False
 ok:=fun{J m w} g {x} h {cs} hs=>by cases x<;>simp only at h;obtain⟨rfl,rfl,h⟩:=h;simp only[au] at hs ⊢;exact⟨hs.1,λi hi=>d.ok g (h i hi) (hs.2 i hi)⟩
 agg:=fun{m x} h=>by cases x<;>first|exact h.elim|rfl
 vE:=λm y=>by funext i;exact d.vE m (y i)
 pE:=λm y=>⟨rfl,rfl,λi _=>d.pE m (y i)⟩
 ren:=λr y=>by simp only[Sx.ren];congr;funext i;exact d.ren r (y i)
 kill:=λi y=>by simp only[Sx.kill];congr;funext j;exact d.kill i (y j)
 val:=λy=>rfl
def DT.list{α:Type}(wd':Nat)(d:DT α):DT (List α) where
 aI:=[]
 aA:=λl=> .lst wd' d.aI d.aA l
 aG:=λm x=>match x with
  | .lst _ _ f l=>l.map λy=>d.aG m (f y)
  | .lit _ _ f l=>l.map λy=>d.aG m (f y)
  | .vec i _=>match ah m i with
   | .vec _ _ l=>l.map λy=>d.aG m y
   |_=>[]
  | .jO i n=>match ah m i with
   | .vec _ _ l=>(l.take n).map λy=>d.aG m y
   |_=>[]
  |_=>[]
 decP:=λm x=>match x with
  | .lst w' _ f l=>w'=wd'/\allL l λy=>d.decP m (f y)
  | .lit w' _ f l=>w'=wd'/\allL l λy=>d.decP m (f y)
  | .vec i _=>match ah m i with
   | .vec _ w' l=>w'=wd'/\allL l λy=>d.decP m y
   |_=>False
  | .jO i n=>match ah m i with
   | .vec _ w' l=>w'=wd'/\n<=l.length/\allL (l.take n) λy=>d.decP m y
   |_=>False
  | .bF=>True
  |_=>False
 ok:=fun{J m w} g {x} h {cs} hs=>by
  have hcl:∀ {y:SV} {cs:List Value},au y J.cl cs->au y J cs:=λh=>au.mono _ J.AZ h;cases x with
  |lst w' dd f l=>
   obtain⟨rfl,h⟩:=h;simp only[au] at hs ⊢;obtain⟨ao,cap,h1,h2,h3,h4,h5⟩:=hs;refine⟨ao,cap,by rw[h1,z00],by rw[z00];exact h2,h3,h4,λi hi=> ?_⟩
   rw[z00] at hi;obtain⟨b,off,T',fz,cur,e1,e2,e3,e4⟩:=h5 i hi;refine⟨b,off,T',fz,cur,e1,vH g _ _ e2,e3,?_⟩;have hx:l.getD i dd=l[i]:=by simp[z05,hi]
   rw[hx] at e4;have hy:(l.map λy=>d.aG m (f y)).getD i d.aI=d.aG m (f l[i]):=by simp[z05,hi]
   rw[hy];exact d.ok g (h _ (z0e hi)) (hcl e4)
  |lit w' dd f l=>
   obtain⟨rfl,h⟩:=h;simp only[au] at hs ⊢;obtain⟨ao,h1,h3,h4,h5⟩:=hs;refine⟨ao,l.length,by rw[h1,z00],by rw[z00];exact z07 _,h3,h4,λi hi=> ?_⟩
   rw[z00] at hi;obtain⟨b,off,T',fz,cur,e1,e2,e3,e4⟩:=h5 i hi;refine⟨b,off,T',fz,cur,e1,vH g _ _ e2,e3,?_⟩;have hx:l.getD i dd=l[i]:=by simp[z05,hi]
   rw[hx] at e4;have hy:(l.map λy=>d.aG m (f y)).getD i d.aI=d.aG m (f l[i]):=by simp[z05,hi]
   rw[hy];exact d.ok g (h _ (z0e hi)) (hcl e4)
  |bF=>
   simp only[au] at hs ⊢;subst hs;exact⟨none,0,rfl,z07 _,z0h _,λ_=>rfl,λi hi=>absurd hi (z04 _)⟩
  |vec i n=>
   simp only at h ⊢;cases hm:ah m i with
   |vec E w' l=>
    rw[hm] at h;obtain⟨rfl,h⟩:=h;simp only[au] at hs ⊢;obtain⟨h1,hn,h3⟩:=hs;have hr:=g.res i;rw[hm] at hr;obtain⟨xs,⟨e0,e1⟩,e2⟩:=hr;rcases e1 with⟨k1,k2⟩|⟨b,cap,cur,k1,k2,k3,k4,k5,k6,k7⟩
    ·refine⟨none,0,by rw[h3,k1];simp[k2],by simp[k2],z0h _,λ_=>rfl,λj hj=> ?_⟩
     rw[z00] at hj;omega
    ·refine⟨some ⟨b,0,none⟩,cap,by rw[h3,k1,z00],by rw[z00];exact k4,k5,(λh=>by cases h),λj hj=> ?_⟩
     rw[z00] at hj;have hjl:j*w'+w'<=l.length*w':=by
      have:=z08 w' (show j+1<=l.length from hj)
      rw[z14] at this;exact this
     have hcap:l.length*w'<=cap*w':=z08 _ k4;refine⟨b,0,E,(0,0),cur,rfl,?_,by omega,?_⟩
     ·show(gq J m w).H b=_;rw[ru (i:=i) (by rw[hm];simp[aN,k1,z0i])];exact k3
     ·have hx:l.getD j .junk=l[j]:=by simp[z05,hj]
      have hy:(l.map λy=>d.aG m y).getD j d.aI=d.aG m l[j]:=by simp[z05,hj]
      rw[hy];have e3:=e2 j hj;rw[hx] at e3;have:=d.ok g (h _ (z0e hj)) e3;have hsu:sub cur.toList (0+j*w') w'=sub xs (j*w') w':=by
       rw[<- k7];simp only[sub,z0q];rw[z0w,z0v]
       congr 1
       omega
      rw[hsu];exact this
   |dead=>rw[hm] at h;exact h.elim
   |blk T c=>rw[hm] at h;exact h.elim
   |mp ek ev l=>rw[hm] at h;exact h.elim
  |jO i n=>
   simp only at h ⊢;cases hm:ah m i with
   |vec E w' l=>
    rw[hm] at h;obtain⟨rfl,hnl,h⟩:=h;simp only[au] at hs ⊢;obtain⟨h1,ao,n0,cap0,hvv,hn0,h3⟩:=hs;have hr:=g.res i;rw[hm] at hr;obtain⟨xs,⟨e0,e1⟩,e2⟩:=hr;have hlt:(l.take n).length=n:=by rw[List.length_take];omega
    rcases e1 with⟨k1,k2⟩|⟨b,cap,cur,k1,k2,k3,k4,k5,k6,k7⟩
    ·rw[hvv] at k1;injection k1 with a1 a2 a3;subst a1;subst a2;subst a3;have:n=0:=by omega
     subst this;refine⟨none,0,by rw[h3];simp,by simp,z0h _,λ_=>rfl,λj hj=> ?_⟩
     rw[z00,hlt] at hj;omega
    ·rw[hvv] at k1;injection k1 with a1 a2 a3;subst a1;subst a3;refine⟨some ⟨b,0,none⟩,cap0,by rw[h3,z00,hlt],by rw[z00,hlt];omega,k5,(λh=>by cases h),λj hj=> ?_⟩
     rw[z00,hlt] at hj;have hjl:j*w'+w'<=l.length*w':=by
      have:=z08 w' (show j+1<=l.length by omega)
      rw[z14] at this;exact this
     have hcap:l.length*w'<=cap0*w':=z08 _ k4;refine⟨b,0,E,(0,0),cur,rfl,?_,by omega,?_⟩
     ·show(gq J m w).H b=_;rw[ru (i:=i) (by rw[hm];simp[aN,hvv,z0i])];exact k3
     ·have hx:l.getD j .junk=l[j]:=by simp[z05,show j<l.length by omega]
      have hy:((l.take n).map λy=>d.aG m y).getD j d.aI=d.aG m l[j]:=by simp[z05,hj,show j<l.length by omega]
      rw[hy];have e3:=e2 j (by omega)
      rw[hx] at e3;have:=d.ok g (h _ (by rw[List.mem_take_iff_getElem];exact⟨j,by omega,rfl⟩)) e3
      have hsu:sub cur.toList (0+j*w') w'=sub xs (j*w') w':=by
       rw[<- k7];simp only[sub,z0q];rw[z0w,z0v]
       congr 1
       omega
      rw[hsu];exact this
   |dead=>rw[hm] at h;exact h.elim
   |blk T c=>rw[hm] at h;exact h.elim
   |mp ek ev l=>rw[hm] at h;exact h.elim
  |_=>exact h.elim
 agg:=fun{m x} h=>by cases x<;>first|exact h.elim|rfl
 vE:=λm y=>by
  have:(λy=>d.aG m (d.aA y))=id:=by funext y;exact d.vE m y
  simp only[this,z0s]
 pE:=λm y=>⟨rfl,λz _=>d.pE m z⟩
 ren:=λr y=>rfl
 kill:=λi y=>rfl
 val:=λy=>rfl
def DT.ref{α:Type}(d:DT α):DT α where
 aI:=d.aI
 aA:=λy=> .ref (d.aA y) [] 0
 aG:=λm x=>match x with
  | .ref c _ _=>d.aG m c
  | .ptr i _ _=>match ah m i with
   | .blk _ c=>d.aG m c
   |_=>d.aI
  |_=>d.aI
 decP:=λm x=>match x with
  | .ref c p o=>p=[]/\o=0/\d.decP m c
  | .ptr i p o=>match ah m i with
   | .blk _ c=>p=[]/\o=0/\d.decP m c
   |_=>False
  |_=>False
 ok:=fun{J m w} g {x} h {cs} hs=>by
  have hcl:∀ {y:SV} {cs:List Value},au y J.cl cs->au y J cs:=λh=>au.mono _ J.AZ h;cases x with
  |ref c p o=>
   obtain⟨rfl,rfl,h⟩:=h;simp only[au] at hs ⊢;obtain⟨b,T',fz,cur,h1,h2,h3,h4⟩:=hs;exact⟨b,T',fz,cur,h1,vH g _ _ h2,h3,d.ok g h (hcl h4)⟩
  |ptr i p o=>
   simp only at h ⊢;cases hm:ah m i with
   |blk T' c=>
    rw[hm] at h;obtain⟨rfl,rfl,h⟩:=h;simp only[au] at hs ⊢;obtain⟨h1,h2,h3⟩:=hs;have hr:=g.res i;rw[hm] at hr;obtain⟨cs',e1,e2⟩:=hr;refine⟨J.blk i,T',(0,0),cs'.toArray,h3,?_,h2,d.ok g h e2⟩;show(gq J m w).H _=_;rw[ru (i:=i) (by rw[hm];rfl)];exact e1
   |dead=>rw[hm] at h;exact h.elim
   |vec E w' l=>rw[hm] at h;exact h.elim
   |mp ek ev l=>rw[hm] at h;exact h.elim
  |_=>exact h.elim
 agg:=fun{m x} h=>by cases x<;>first|exact h.elim|rfl
 vE:=λm y=>d.vE m y
 pE:=λm y=>⟨rfl,rfl,d.pE m y⟩
 ren:=λr y=>rfl
 kill:=λi y=>rfl
 val:=λy=>rfl
def DT.fnc:DT Nat where
 aI:=0
 aA:=λf=> .fn f []
 aG:=λm x=>match x with
  | .fn f []=>f
  |_=>0
 decP:=λm x=>match x with
  | .fn _ []=>True
  |_=>False
 ok:=fun{J m w} g {x} h {cs} hs=>by
  split at h
  ·simp only[au] at hs ⊢;obtain⟨vs,h1,h2⟩:=hs;exact⟨vs,h1,h2⟩
  ·exact h.elim
 agg:=fun{m x} h=>by
  split at h
  ·rfl
  ·exact h.elim
 vE:=λm y=>rfl
 pE:=λm y=>trivial
 ren:=λr y=>rfl
 kill:=λi y=>rfl
 val:=λy=>rfl
structure DA(α:Type) where
 aI:α
 aA:α->List SV
 aG:List ay->List SV->α
 decP:List ay->List SV->Prop
 ok:∀ {J:Env} {m:List ay} {w:World},Good J m w->∀ {xs:List SV},decP m xs->∀ {vs:List Value},bg xs J vs->bg (aA (aG m xs)) (gq J m w).cl vs
 ren:∀ (r:Nat->Option Nat) (y:α),dW r (aA y)=aA y
 kill:∀ (i:Nat) (y:α),dI i (aA y)=aA y
 vE:∀ (m:List ay) (y:α),aG m (aA y)=y
 pE:∀ (m:List ay) (y:α),decP m (aA y)
def DA.nil:DA Unit:=⟨(),λ_=>[],λ_ _=>(),λ_ xs=>match xs with|[]=>True|_=>False,fun{J m w} g {xs} h {vs} hs=>by
 cases xs with
 |nil=>exact hs
 |cons=>exact h.elim,λ_ _=>rfl,λ_ _=>rfl,λ_ _=>rfl,λ_ _=>trivial⟩
def DA.cons{α β:Type}(d:DT α)(r:DA β):DA (α×β) where
 aI:=(d.aI,r.aI)
 aA:=λy=>d.aA y.1::r.aA y.2
 aG:=λm xs=>match xs with
  |x::xs=>(d.aG m x,r.aG m xs)
  |[]=>(d.aI,r.aI)
 decP:=λm xs=>match xs with
  |x::xs=>d.decP m x/\r.decP m xs
  |[]=>False
 ok:=fun{J m w} g {xs} h {vs} hs=>by
  cases xs with
  |nil=>exact h.elim
  |cons x xs=>
   obtain⟨h1,h2⟩:=h;simp only[bg] at hs ⊢;obtain⟨a,b,e1,e2,e3⟩:=hs;exact⟨a,b,by rw[d.agg h1];exact e1,d.ok g h1 e2,r.ok g h2 e3⟩
 ren:=λs y=>by simp only[dW,d.ren,r.ren]
 kill:=λs y=>by simp only[dI,d.kill,r.kill]
 vE:=λm y=>by simp only[d.vE,r.vE]
 pE:=λm y=>⟨d.pE m y.1,r.pE m y.2⟩
abbrev DA.one{α:Type}(a:DT α):DA (α×Unit):= .cons a .nil
abbrev DA.two{α β:Type}(a:DT α)(b:DT β):DA (α×β×Unit):= .cons a (.cons b .nil)
abbrev DA.three{α β γ:Type}(a:DT α)(b:DT β)(c:DT γ):DA (α×β×γ×Unit):= .cons a (.cons b (.cons c .nil))
def DT.clo{κ:Type}(f:FuncId)(A:DA κ):DT κ where
 aI:=A.aI
 aA:=λk=> .fn f (A.aA k)
 aG:=λm x=>match x with
  | .fn _ caps=>A.aG m caps
  |_=>A.aI
 decP:=λm x=>match x with
  | .fn g caps=>g=f/\A.decP m caps
  |_=>False
 ok:=fun{J m w} g {x} h {cs} hs=>by
  cases x with
  |fn g' caps=>
   obtain⟨rfl,h⟩:=h;simp only[au] at hs ⊢;obtain⟨vs,h1,h2⟩:=hs;exact⟨vs,A.ok g h h1,h2⟩
  |_=>exact h.elim
 agg:=fun{m x} h=>by cases x<;>first|exact h.elim|rfl
 vE:=λm y=>A.vE m y
 pE:=λm y=>⟨rfl,A.pE m y⟩
 ren:=λr y=>by simp only[Sx.ren,A.ren]
 kill:=λi y=>by simp only[Sx.kill,A.kill]
 val:=λy=>rfl
structure DR(α:Type) where
 aA:α->SV
 ren:∀ (r:Nat->Option Nat) (y:α),Sx.ren r (aA y)=aA y
 noH:∀ y:α,KX (aA y)
class Flat{α:Type}(d:DT α):Prop where
 noH:∀ y:α,Ir (d.aA y)
instance:Flat DT.int:=⟨λy=>kY _ y⟩
instance:Flat DT.byte:=⟨λy=>kY _ y⟩
instance:Flat DT.bool:=⟨λy=>IB y⟩
instance:Flat DT.str:=⟨λy=>Zp y⟩
instance {α:Type}{n w:Nat}{d:DT α}[h:Flat d]:Flat (DT.arr n w d):=⟨λy=>Oq λi _=>h.noH (y i)⟩
theorem Flat.nC{T:TT}(h:aak T=true):Flat (DT.nC T):=⟨λy=>P9 T y h⟩
theorem Flat.Fv{α β:Type}{d:DT α}(h:Flat d){f:α->β}{g:β->α}{h1:∀ x,f (g x)=x}{h2:∀ x,g (f x)=x}:Flat (d.Fv f g h1 h2):=⟨λy=>h.noH (g y)⟩
def DR.unit:DR Unit:=⟨λ_=> .bK [],λ_ _=>rfl,λ_=>yP λ_ h=>by cases h⟩
def DR.one{α:Type}(d:DT α)[h:Flat d]:DR α:=⟨d.aA,d.ren,λy=>(h.noH y).val (d.val y)⟩
def DR.two{α β:Type}(a:DT α)(b:DT β)[ha:Flat a][hb:Flat b]:DR (α×β):=⟨λy=> .bK [a.aA y.1,b.aA y.2],λr y=>by simp only[Sx.ren,dW,a.ren,b.ren],λy=>yP λx hx=>by
 simp only[z0a,z1g,or_false] at hx;rcases hx with rfl|rfl
 ·exact ha.noH _
 ·exact hb.noH _⟩
def DR.three{α β γ:Type}(a:DT α)(b:DT β)(c:DT γ)[ha:Flat a][hb:Flat b][hc:Flat c]:DR (α×β×γ):=⟨λy=> .bK [a.aA y.1,b.aA y.2.1,c.aA y.2.2],λr y=>by simp only[Sx.ren,dW,a.ren,b.ren,c.ren],λy=>yP λx hx=>by
 simp only[z0a,z1g,or_false] at hx;rcases hx with rfl|rfl|rfl
 ·exact ha.noH _
 ·exact hb.noH _
 ·exact hc.noH _⟩
def FH.rd(f:FuncId){α ρ:Type}(A:DA α)(R:DR ρ)(pre:α->Prop)(F:α->ρ)(Γ:FH):FH:=
 FH.on f (λargs m=> .ro (A.decP m args/\pre (A.aG m args)) (R.aA (F (A.aG m args)))) Γ
theorem FH.aT{f:FuncId}{α ρ:Type}{A:DA α}{R:DR ρ}{pre:α->Prop}{F:α->ρ}{Γ:FH}(h:∀ y,pre y->FnOK P f (A.aA y) [] (R.aA (F y)) [])(hΓ:aW P Γ)(hf:iF P f=true:=by kernel_rfl):aW P (FH.rd f A R pre F Γ):=
 FH.xU (λargs m hp=>⟨hf,by
  have:=aaj (h _ hp.2) (λJ w vs g hs=>A.ok g hp.1 hs) (by rw[R.ren];exact R.noH _) (λ_ h=>by cases h)
  rw[R.ren] at this;simpa using this⟩) hΓ
def FH.mk(f:FuncId){α:Type}(A:DA α)(pre:α->Prop)(F:α->SV)(M:α->List ay)(Γ:FH):FH:=
 FH.on f (λargs m=> .is (A.decP m args/\pre (A.aG m args)) (ren (IY m.length) (F (A.aG m args))) (m++(M (A.aG m args)).map (dM (IY m.length)))) Γ
def EH(x:SV)(M:List ay):Prop:= ∀ r,KX (ren r x)/\∀ y∈M,wP (dM r y)
theorem FH.eu{f:FuncId}{α:Type}{A:DA α}{pre:α->Prop}{F:α->SV}{M:α->List ay}{Γ:FH}(hR:∀ y,pre y->EH (F y) (M y))(h:∀ y,pre y->FnOK P f (A.aA y) [] (F y) (M y))(hΓ:aW P Γ)(hf:iF P f=true:=by kernel_rfl):aW P (FH.mk f A pre F M Γ):=
 FH.xU (λargs m hp=>⟨hf,aaj (h _ hp.2) (λJ w vs g hs=>A.ok g hp.1 hs) (hR _ hp.2 _).1 (hR _ hp.2 _).2⟩) hΓ
def FH.mt(f:FuncId){σ α ρ:Type}(T:TypeId)(d:DT σ)(A:DA α)(R:DR ρ)(pre:σ->α->Prop)(F:σ->α->ρ)(S:σ->α->σ)(Γ:FH):FH:=
 FH.on f (λargs m=>match args with
  |x::rest=>match x with
   | .ptr i p o=>match ah m i with
    | .blk T' c=> .is (T'=T/\p=[]/\o=0/\d.aA (d.aG [] c)=c/\A.aA (A.aG [] rest)=rest/\pre (d.aG [] c) (A.aG [] rest)) (R.aA (F (d.aG [] c) (A.aG [] rest))) (m.set i (.blk T (d.aA (S (d.aG [] c) (A.aG [] rest)))))
    |_=> .no
   |_=> .no
  |[]=> .no) Γ
theorem FH.FB{f:FuncId}{σ α ρ:Type}{T:TypeId}{d:DT σ}{A:DA α}{R:DR ρ}{pre:σ->α->Prop}{F:σ->α->ρ}{S:σ->α->σ}{Γ:FH}(hf:iF P f=true)
  (h:∀ s y,pre s y->FnOK P f (.ptr 0 [] 0::A.aA y) [.blk T (d.aA s)] (R.aA (F s y)) [.blk T (d.aA (S s y))]) (hΓ:aW P Γ):aW P (FH.mt f T d A R pre F S Γ):=
 FH.xU (λargs m=>by
  cases args with
  |nil=>trivial
  |cons x rest=>
   cases x with
   |ptr i p o=>
    simp only;cases hm:ah m i with
    |dead=>trivial
    |vec T' w l=>trivial
    |mp ek ev l=>trivial
    |blk T' c=>
     rintro⟨rfl,rfl,rfl,h1,h2,h3⟩;refine⟨hf,?_⟩;generalize hs:d.aG [] c=s at h1 h3 ⊢;generalize hy:A.aG [] rest=y at h2 h3 ⊢;subst h1;subst h2;have hi:i<m.length:=by
      rcases z15 i m.length with hi|hi
      ·exact hi
      ·rw[dh hi] at hm;cases hm
     have key:=Bv (args:= .ptr i [] 0::A.aA y) (m:=m) (h s y h3) [i] (by simp) (by simp[hm,ay.iH]) (by simp only[dW,A.ren,Sx.ren,kS,kK,z1b,BEq.rfl,Bool.true_or,if_true,z1a])
      (by simp only[lG,z0b,List.map_nil,hm,dM,d.ren]) (by simp) (by intro j hj;simp at hj;subst hj;rfl)
     rw[R.ren] at key;have hmm:fA [i] m [.blk T' (d.aA (S s y))]=m.set i (.blk T' (d.aA (S s y))):=by simp[fA,ah,dM,d.ren]
     rwa [hmm] at key
   |_=>trivial) hΓ
def DT.gq{α:Type}(d:DT α):Ht:=⟨λm x=>d.aA (d.aG m x),λm x=>d.decP m x/\x.isVal=true,λg _ h _ hs=>d.ok g h.1 hs,λh=>d.agg h.1,λh=>h.2⟩
structure DP(α:Type) where
 aA:α->SV
 ren:∀ (r:Nat->Option Nat) (y:α),Sx.ren r (aA y)=aA y
def DP.one{α:Type}(d:DT α):DP α:=⟨d.aA,d.ren⟩
def DP.two{α β:Type}(a:DT α)(b:DT β):DP (α×β):=⟨λy=> .bK [a.aA y.1,b.aA y.2],λr y=>by simp only[Sx.ren,dW,a.ren,b.ren]⟩
def DP.three{α β γ:Type}(a:DT α)(b:DT β)(c:DT γ):DP (α×β×γ):=⟨λy=> .bK [a.aA y.1,b.aA y.2.1,c.aA y.2.2],λr y=>by simp only[Sx.ren,dW,a.ren,b.ren,c.ren]⟩
def FH.pz(f:FuncId){α ρ:Type}(A:DA α)(R:DP ρ)(pre:α->Prop)(F:α->ρ)(Γ:FH):FH:=
 FH.on f (λargs m=> .ro (A.aA (A.aG [] args)=args/\pre (A.aG [] args)) (R.aA (F (A.aG [] args)))) Γ
theorem FH.oq{f:FuncId}{α ρ:Type}{A:DA α}{R:DP ρ}{pre:α->Prop}{F:α->ρ}{Γ:FH}(h:∀ y,pre y->FnOK P f (A.aA y) [] (R.aA (F y)) [])(hΓ:aW P Γ)(hf:iF P f=true:=by kernel_rfl):aW P (FH.pz f A R pre F Γ):=
 FH.xU (λargs m hp=>⟨hf,by
  have:=yN (m:=m) (args:=args) (h _ hp.2) (by rw[<- hp.1];rw[A.vE];exact A.ren _ _)
  rw[R.ren] at this;simpa using this⟩) hΓ
def FH.fz(f:FuncId){α ρ:Type}(A:DA α)(R:DP ρ)(pre:α->Prop)(F:α->ρ)(Γ:FH):FH:=
 FH.on f (λargs m=> .is (A.decP m args/\pre (A.aG m args)) (R.aA (F (A.aG m args))) (iw m)) Γ
theorem ao1{f:FuncId}{args jJ:List SV}{m:List ay}{res:SV}(h:FnOK P f jJ [] res [])(ha:∀ J w vs,Good J m w->bg args J vs->bg jJ (gq J m w).cl vs)(hr:∀ r,ren r res=res):iU P f args m res (iw m):=by
 intro β J vs w hi hs;have hs':bg jJ (lU [] (gq J m w)) vs:=bg.mono jJ (J:=(gq J m w).cl) ⟨z07 _,λ_ h=>absurd h (z04 _),λ_ h=>absurd h (z04 _),λ_ _ h=>h⟩ (ha _ _ _ hi.good hs);refine(Ez (m:=iw m) h [] z1i (λi h=>by cases h) rfl (z0h _) (λj hj=>absurd hj (z04 _)) hi.freeze hs').mono λe w' ⟨v,J',he,hle,hv,hi'⟩=> ?_
 have hmm:fA [] (iw m) []=iw m:=by simp[fA]
 rw[hmm] at hi';rw[hr] at hv;have h0:J.Le (gq J m w):=⟨z07 _,λ_ _=>rfl,λ_ _=>rfl,vH hi.good⟩;exact⟨v,J',he,h0.trans hle,hv,hi'⟩
theorem FH.SY{f:FuncId}{α ρ:Type}{A:DA α}{R:DP ρ}{pre:α->Prop}{F:α->ρ}{Γ:FH}(h:∀ y,pre y->FnOK P f (A.aA y) [] (R.aA (F y)) [])(hΓ:aW P Γ)(hf:iF P f=true:=by kernel_rfl):aW P (FH.fz f A R pre F Γ):=
 FH.xU (λargs m hp=>⟨hf,ao1 (h _ hp.2) (λJ w vs g hs=>A.ok g hp.1 hs) (R.ren · _)⟩) hΓ
section words
variable {α:Type} {m:List ay}
theorem Zj(n:Int):DT.int.aA n= .int .i64 n:=nr rfl
theorem ajl(n:Int):DT.byte.aA n= .int .u8 n:=nr rfl
theorem ajm(b:Bool):DT.bool.aA b= .bool b:=nr rfl
theorem ZT(s:List UInt8):DT.str.aA s= .str s:=nr rfl
theorem ajn(n:Int):DT.int.aG m (.int .i64 n)=n:=nr rfl
theorem ab7(n:Int):DT.byte.aG m (.int .u8 n)=n:=nr rfl
theorem ab8(b:Bool):DT.bool.aG m (.bool b)=b:=nr rfl
theorem ajo(s:List UInt8):DT.str.aG m (.str s)=s:=nr rfl
theorem ajp(n:Int):DT.int.decP m (.int .i64 n)=True:=eq_true rfl
theorem ab9(n:Int):DT.byte.decP m (.int .u8 n)=True:=eq_true rfl
theorem acd(b:Bool):DT.bool.decP m (.bool b)=True:=eq_true trivial
theorem ajq(s:List UInt8):DT.str.decP m (.str s)=True:=eq_true trivial
theorem ayW(d:DT α)(y:α):d.aG m (d.aA y)=y:=d.vE m y
theorem ayX(d:DT α)(y:α):d.decP m (d.aA y)=True:=eq_true (d.pE m y)
theorem avU(d:DT α)(y:α):(d.aA y).isVal=true:=d.val y
theorem avV(d:DT α)(r)(y:α):ren r (d.aA y)=d.aA y:=d.ren r y
theorem ao4(d:DT α)(i)(y:α):kill i (d.aA y)=d.aA y:=d.kill i y
theorem Oc(d:DT α)(r)(l:List α):dW r (l.map d.aA)=l.map d.aA:=by
 induction l with
 |nil=>rfl
 |cons x l ih=>simp only[z0b,dW];rw[d.ren,ih]
theorem ajr(d:DT α)(r)(l:List α):dI r (l.map d.aA)=l.map d.aA:=by
 induction l with
 |nil=>rfl
 |cons x l ih=>simp only[z0b,dI];rw[d.kill,ih]
theorem ao5(n w:Nat)(d:DT α)(f:Nat->α):(DT.arr n w d).aA f= .arr n w λi=>d.aA (f i):=nr rfl
theorem ajs(n w:Nat)(d:DT α)(n' w':Nat)(f:Nat->SV):(DT.arr n w d).aG m (.arr n' w' f)=λi=>d.aG m (f i):=nr rfl
theorem ajt(n w:Nat)(d:DT α)(n' w':Nat)(f:Nat->SV):(DT.arr n w d).decP m (.arr n' w' f)=(n'=n/\w'=w/\∀ i,i<n->d.decP m (f i)):=nr rfl
theorem aju(w:Nat)(d:DT α)(l:List α):(DT.list w d).aA l= .lst w d.aI d.aA l:=nr rfl
theorem Ll{O:Type}(w:Nat)(d:DT α)(w':Nat)(x:O)(f:O->SV)(l:List O):(DT.list w d).aG m (.lst w' x f l)=l.map λy=>d.aG m (f y):=nr rfl
theorem Lm{O:Type}(w:Nat)(d:DT α)(w':Nat)(x:O)(f:O->SV)(l:List O):(DT.list w d).decP m (.lst w' x f l)=(w'=w/\allL l λy=>d.decP m (f y)):=nr rfl
theorem JL(w:Nat)(d:DT α):(DT.list w d).aG m .bF=[]:=nr rfl
theorem JM(w:Nat)(d:DT α):(DT.list w d).decP m .bF=True:=nr rfl
theorem kU(w:Nat)(d:DT α)(i n:Nat):(DT.list w d).aG m (.vec i n)=(match ah m i with
   | .vec _ _ l=>l.map λy=>d.aG m y
   |_=>[]):=nr rfl
theorem kT(w:Nat)(d:DT α)(i n:Nat):(DT.list w d).decP m (.vec i n)=(match ah m i with
   | .vec _ w' l=>w'=w/\allL l λy=>d.decP m y
   |_=>False):=nr rfl
theorem Lp(w w':Nat)(d:DT α){O:Type}(x:O)(f:O->SV)(l:List O):(DT.list w d).aG m (.lit w' x f l)=l.map λy=>d.aG m (f y):=nr rfl
theorem Lr(w w':Nat)(d:DT α){O:Type}(x:O)(f:O->SV)(l:List O):(DT.list w d).decP m (.lit w' x f l)=(w'=w/\allL l λy=>d.decP m (f y)):=nr rfl
theorem JO(w:Nat)(d:DT α)(i n:Nat):(DT.list w d).aG m (.jO i n)=(match ah m i with
   | .vec _ _ l=>(l.take n).map λy=>d.aG m y
   |_=>[]):=nr rfl
theorem JQ(w:Nat)(d:DT α)(i n:Nat):(DT.list w d).decP m (.jO i n)=(match ah m i with
   | .vec _ w' l=>w'=w/\n<=l.length/\allL (l.take n) λy=>d.decP m y
   |_=>False):=nr rfl
theorem ao6(d:DT α)(y:α):d.ref.aA y= .ref (d.aA y) [] 0:=nr rfl
theorem Qa(d:DT α)(c p o):d.ref.aG m (.ref c p o)=d.aG m c:=nr rfl
theorem Qb(d:DT α)(c p o):d.ref.decP m (.ref c p o)=(p=[]/\o=0/\d.decP m c):=nr rfl
theorem Qc(d:DT α)(i p o):d.ref.aG m (.ptr i p o)=(match ah m i with
   | .blk _ c=>d.aG m c
   |_=>d.aI):=nr rfl
theorem Qd(d:DT α)(i p o):d.ref.decP m (.ptr i p o)=(match ah m i with
   | .blk _ c=>p=[]/\o=0/\d.decP m c
   |_=>False):=nr rfl
theorem JR:Ir .junk:=λ_ _ _ _ _ _ h=>h
theorem ao7(f:Nat):DT.fnc.aA f= .fn f []:=nr rfl
theorem ajv(f:FuncId):DT.fnc.aG m (.fn f [])=f:=nr rfl
theorem ajw(f:FuncId):DT.fnc.decP m (.fn f [])=True:=nr rfl
theorem ayY(A:DA α)(y:α):A.aG m (A.aA y)=y:=A.vE m y
theorem ayZ(A:DA α)(y:α):A.decP m (A.aA y)=True:=eq_true (A.pE m y)
theorem avW(A:DA α)(r)(y:α):dW r (A.aA y)=A.aA y:=A.ren r y
theorem ao8(A:DA α)(i)(y:α):dI i (A.aA y)=A.aA y:=A.kill i y
theorem ao9(f:FuncId)(A:DA α)(k:α):(DT.clo f A).aA k= .fn f (A.aA k):=nr rfl
theorem ajx(f g:FuncId)(A:DA α)(caps:List SV):(DT.clo f A).aG m (.fn g caps)=A.aG m caps:=nr rfl
theorem ajy(f g:FuncId)(A:DA α)(caps:List SV):(DT.clo f A).decP m (.fn g caps)=(g=f/\A.decP m caps):=rfl
theorem ajz{α:Type}(w:Nat)(d:DT α):(DT.list w d).aI=[]:=nr rfl
theorem apa:DT.int.aI=0:=nr rfl
theorem ajA:DT.bool.aI=false:=nr rfl
theorem dK{α:Type}{m:List ay}(d:DT α)(l:List α):List.map (λy=>d.aG m y) (l.map d.aA)=l:=by
 rw[List.map_map];have:(λy=>d.aG m y)∘d.aA=id:=by funext y;exact d.vE m y
 rw[this,z0s]
theorem apb:DA.nil.aG m []=():=nr rfl
theorem apc:DA.nil.decP m []=True:=nr rfl
theorem ajB{β:Type}(d:DT α)(r:DA β)(x xs):(DA.cons d r).aG m (x::xs)=(d.aG m x,r.aG m xs):=nr rfl
theorem ajC{β:Type}(d:DT α)(r:DA β)(x xs):(DA.cons d r).decP m (x::xs)=(d.decP m x/\r.decP m xs):=nr rfl
theorem ajD{β:Type}(d:DT α)(r:DA β)(y):(DA.cons d r).aA y=d.aA y.1::r.aA y.2:=nr rfl
theorem apd(y):DA.nil.aA y=[]:=nr rfl
theorem avX(d:DT α)(y):(DP.one d).aA y=d.aA y:=nr rfl
theorem avY{β:Type}(a:DT α)(b:DT β)(y):(DP.two a b).aA y= .bK [a.aA y.1,b.aA y.2]:=nr rfl
theorem ajE{β γ:Type}(a:DT α)(b:DT β)(c:DT γ)(y):(DP.three a b c).aA y= .bK [a.aA y.1,b.aA y.2.1,c.aA y.2.2]:=nr rfl
theorem ay0(d:DT α)(x):(DT.gq d).P m x=(d.decP m x/\x.isVal=true):=rfl
theorem ape(d:DT α)(x):(DT.gq d).dec m x=d.aA (d.aG m x):=nr rfl
theorem apf(y):DR.unit.aA y= .bK []:=nr rfl
theorem avZ(d:DT α)[Flat d](y):(DR.one d).aA y=d.aA y:=nr rfl
theorem av1{β:Type}(a:DT α)(b:DT β)[Flat a][Flat b](y):(DR.two a b).aA y= .bK [a.aA y.1,b.aA y.2]:=nr rfl
theorem ajF{β γ:Type}(a:DT α)(b:DT β)(c:DT γ)[Flat a][Flat b][Flat c](y):(DR.three a b c).aA y= .bK [a.aA y.1,b.aA y.2.1,c.aA y.2.2]:=nr rfl
end words
end Go.Sx
namespace Go.Sx
open Go
variable {P:Program}
theorem ajG(W:World):(gq (J0 W) [] W).cl=J0 W:=by
 have h:(gq (J0 W) [] W).H=(J0 W).H:=by
  funext b
  show(open Classical in if ∃ i,aN (J0 W) i (ah [] i)=some b then W.heap[b]? else(J0 W).H b)=W.heap[b]?
  split<;>rfl
 show{gq (J0 W) [] W with n:=0}=J0 W;simp only[J0,gq] at h ⊢;rw[h]
theorem abe{α:Type}{A:DA α}{xs:List SV}{W:World}{vs:List Value}(hd:A.decP [] xs)(hs:bg xs (J0 W) vs)(hg:Glob (J0 W).H:=by simp[Glob,aiD,RI]):bg (A.aA (A.aG [] xs)) (J0 W) vs:=by
 have:=A.ok (TQ W hg) hd hs
 rwa [ajG] at this
def PlV(x:SV):Prop:= ∀ r,Ir (ren r x)
def ajH:List SV->Prop
 |[]=>True
 |x::r=>PlV x/\ajH r
def PlR(x:ay):Prop:= ∀ r,wP (dM r x)
def ajI:List ay->Prop
 |[]=>True
 |x::r=>PlR x/\ajI r
theorem fE(i n:Nat):PlV (.vec i n):=λr=>by
 simp only[ren,kS];split
 ·exact Zq _ _
 ·exact JR
theorem aph(i:Nat)(p:List Step)(o:Nat):PlV (.ptr i p o):=λr=>by
 simp only[ren,kS];split
 ·exact Hq _ _ _
 ·exact JR
theorem fF(k:IntKind)(n:Int):PlV (.int k n):=λr=>kY k n
theorem Rh(b:Bool):PlV (.bool b):=λr=>IB b
theorem RH:PlV .bF:=λr _ _ _ _ _ _ h=>h
theorem ajJ:PlV .jr:=λr _ _ _ _ _ _ h=>h
theorem xw{α:Type}(d:DT α)[h:Flat d](y:α):PlV (d.aA y):=λr=>by rw[d.ren];exact h.noH y
theorem ajH.mem:∀ {l:List SV},ajH l->∀ x∈l,PlV x
 |[],_,_,h=>by cases h
 |y::l,h,x,hx=>by
  rcases z0a.1 hx with e|e
  ·exact e▸h.1
  ·exact ajH.mem h.2 x e
theorem ajI.mem:∀ {l:List ay},ajI l->∀ x∈l,PlR x
 |[],_,_,h=>by cases h
 |y::l,h,x,hx=>by
  rcases z0a.1 hx with e|e
  ·exact e▸h.1
  ·exact ajI.mem h.2 x e
theorem TR{r:Nat->Option Nat}:∀ {l:List SV} {x:SV},x∈dW r l->∃ y∈l,x=ren r y
 |[],_,h=>by simp[dW] at h
 |y::l,x,h=>by
  simp only[dW,z0a] at h;rcases h with rfl|h
  ·exact⟨y,by simp,rfl⟩
  ·obtain⟨z,h1,h2⟩:=TR h;exact⟨z,by simp[h1],h2⟩
theorem fU{l:List SV}(h:ajH l)(r):KX (ren r (.bK l)):=by simp only[ren];refine yP λx hx=> ?_;obtain⟨y,h1,rfl⟩:=TR hx;exact h.mem y h1 r
theorem nM(i n:Nat)(r):KX (ren r (.vec i n)):=by
 simp only[ren,kS];split
 ·exact(Zq _ _).val rfl
 ·exact EC
theorem V3(i:Nat)(p:List Step)(o:Nat)(r):KX (ren r (.ptr i p o)):=by
 simp only[ren,kS];split
 ·exact(Hq _ _ _).val rfl
 ·exact EC
theorem bY{α:Type}(T:TypeId)(w:Nat)(d:DT α)[h:Flat d](l:List α):PlR (.vec T w (l.map d.aA)):=λr=>by
 simp only[dM,Oc,wP];intro j hj;rw[z00] at hj;have:(l.map d.aA).getD j .junk=d.aA l[j]:=by simp[z05,hj]
 rw[this];exact h.noH _
theorem OC{α:Type}(T:TypeId)(d:DT α)[h:Flat d](y:α):PlR (.blk T (d.aA y)):=λr=>by simp only[dM,d.ren];exact h.noH y
theorem cZ{x:SV}{M:List ay}(h1:∀ r,KX (ren r x))(h2:ajI M):EH x M:=λr=>⟨h1 r,λy hy=>h2.mem y hy r⟩
end Go.Sx
namespace Go.Sx
open Go
namespace W
theorem av2(k:IntKind)(n:Int):wd (.int k n)=1:=nr rfl
theorem ace(k:IntKind)(n:Int):SV.isAgg (.int k n)=false:=nr rfl
theorem apj(b:Bool):wd (.bool b)=1:=nr rfl
theorem Xf(b:Bool):SV.isAgg (.bool b)=false:=nr rfl
theorem av3(s:List UInt8):wd (.str s)=1:=nr rfl
theorem acf(s:List UInt8):SV.isAgg (.str s)=false:=nr rfl
theorem av4{υ:Type}(w:Nat)(d:υ)(f:υ->SV)(l:List υ):wd (.lst w d f l)=1:=nr rfl
theorem acg{υ:Type}(w:Nat)(d:υ)(f:υ->SV)(l:List υ):SV.isAgg (.lst w d f l)=false:=nr rfl
theorem apk{υ:Type}(w:Nat)(d:υ)(f:υ->SV)(l:List υ)(i:Nat)(p:List Step)(o:Nat):wd (.fM w d f l i p o)=1:=nr rfl
theorem Xg{υ:Type}(w:Nat)(d:υ)(f:υ->SV)(l:List υ)(i:Nat)(p:List Step)(o:Nat):SV.isAgg (.fM w d f l i p o)=false:=nr rfl
theorem av5(c:SV)(p:List Step)(o:Nat):wd (.ref c p o)=1:=nr rfl
theorem ach(c:SV)(p:List Step)(o:Nat):SV.isAgg (.ref c p o)=false:=nr rfl
theorem av6(i:Nat)(p:List Step)(o:Nat):wd (.ptr i p o)=1:=nr rfl
theorem aci(i:Nat)(p:List Step)(o:Nat):SV.isAgg (.ptr i p o)=false:=nr rfl
theorem av7(i n:Nat):wd (.vec i n)=1:=nr rfl
theorem acj(i n:Nat):SV.isAgg (.vec i n)=false:=nr rfl
theorem apl(i j:Nat)(p:List Step)(o:Nat):wd (.gX i j p o)=1:=nr rfl
theorem Xh(i j:Nat)(p:List Step)(o:Nat):SV.isAgg (.gX i j p o)=false:=nr rfl
theorem apm(i n:Nat):wd (.jO i n)=1:=nr rfl
theorem Xi(i n:Nat):SV.isAgg (.jO i n)=false:=nr rfl
theorem av8(i:Nat):wd (.map i)=1:=nr rfl
theorem acn(i:Nat):SV.isAgg (.map i)=false:=nr rfl
theorem ay1(f:FuncId)(c:List SV):wd (.fn f c)=1:=nr rfl
theorem ajK(f:FuncId)(c:List SV):SV.isAgg (.fn f c)=false:=nr rfl
theorem ajL(t:TypeId)(x:SV):wd (.iface t x)=1:=nr rfl
theorem TU(t:TypeId)(x:SV):SV.isAgg (.iface t x)=false:=nr rfl
theorem apn:wd (.bF)=1:=nr rfl
theorem Xj:SV.isAgg (.bF)=false:=nr rfl
theorem apo:wd (.iP)=1:=nr rfl
theorem Xk:SV.isAgg (.iP)=false:=nr rfl
theorem apq:wd (.jh)=1:=nr rfl
theorem Xl:SV.isAgg (.jh)=false:=nr rfl
theorem apr:wd (.jr)=1:=nr rfl
theorem Xm:SV.isAgg (.jr)=false:=nr rfl
theorem aps:wd (.qx)=1:=nr rfl
theorem Xn:SV.isAgg (.qx)=false:=nr rfl
theorem apt:wd (.lV)=1:=nr rfl
theorem Xo:SV.isAgg (.lV)=false:=nr rfl
theorem apu:wd .junk=1:=nr rfl
theorem av9(n w:Nat)(f:Nat->SV):wd (.arr n w f)=n*w:=nr rfl
theorem av'(l:List SV):wd (.agg l)=DZ l:=nr rfl
theorem apv:DZ []=0:=nr rfl
theorem ajM(x:SV)(r:List SV):DZ (x::r)=wd x+DZ r:=nr rfl
theorem aco(n w:Nat)(f:Nat->SV):SV.isAgg (.arr n w f)=true:=nr rfl
theorem acp(l:List SV):SV.isAgg (.agg l)=true:=nr rfl
theorem Xp:SV.isAgg .junk=false:=nr rfl
theorem acr(k:IntKind)(n:Int):SV.isVal (.int k n)=true:=nr rfl
theorem Xq(b:Bool):SV.isVal (.bool b)=true:=nr rfl
theorem acs(s:List UInt8):SV.isVal (.str s)=true:=nr rfl
theorem acu{υ:Type}(w:Nat)(d:υ)(f:υ->SV)(l:List υ):SV.isVal (.lst w d f l)=true:=nr rfl
theorem Xr{υ:Type}(w:Nat)(d:υ)(f:υ->SV)(l:List υ)(i:Nat)(p:List Step)(o:Nat):SV.isVal (.fM w d f l i p o)=true:=nr rfl
theorem acv(c:SV)(p:List Step)(o:Nat):SV.isVal (.ref c p o)=true:=nr rfl
theorem acw(i:Nat)(p:List Step)(o:Nat):SV.isVal (.ptr i p o)=true:=nr rfl
theorem acy(i n:Nat):SV.isVal (.vec i n)=true:=nr rfl
theorem Xt(i j:Nat)(p:List Step)(o:Nat):SV.isVal (.gX i j p o)=true:=nr rfl
theorem Xu(i n:Nat):SV.isVal (.jO i n)=true:=nr rfl
theorem acz(i:Nat):SV.isVal (.map i)=true:=nr rfl
theorem ajN(f:FuncId)(c:List SV):SV.isVal (.fn f c)=true:=nr rfl
theorem TV(t:TypeId)(x:SV):SV.isVal (.iface t x)=true:=nr rfl
theorem Xv:SV.isVal (.bF)=true:=nr rfl
theorem Xw:SV.isVal (.iP)=true:=nr rfl
theorem Xx:SV.isVal (.jh)=true:=nr rfl
theorem Xy:SV.isVal (.jr)=true:=nr rfl
theorem Xz:SV.isVal (.qx)=true:=nr rfl
theorem XA:SV.isVal (.lV)=true:=nr rfl
theorem acA(n w:Nat)(f:Nat->SV):SV.isVal (.arr n w f)=true:=nr rfl
theorem acB(l:List SV):SV.isVal (.agg l)=true:=nr rfl
theorem acC(l:List SV):SV.isVal (.bK l)=false:=nr rfl
theorem acD(l:List SV):SV.isSet (.bK l)=true:=nr rfl
theorem acE(k:IntKind)(n:Int):SV.isSet (.int k n)=true:=nr rfl
theorem XB(b:Bool):SV.isSet (.bool b)=true:=nr rfl
theorem acF(l:List SV):SV.isSet (.agg l)=true:=nr rfl
theorem acG(s:List UInt8):SV.isSet (.str s)=true:=nr rfl
theorem XD:SV.isVal .junk=false:=nr rfl
theorem ajO(c:SV):dP c []=c:=nr rfl
theorem ajP(l:List SV)(k:Nat)(p:List Step):dP (.agg l) (.eG k::p)=dP (l.getD k .junk) p:=nr rfl
theorem ajQ(n w:Nat)(f:Nat->SV)(i n':Nat)(p:List Step):dP (.arr n w f) (.idx i n'::p)=dP (f i) p:=nr rfl
theorem ajR(c x:SV):tX c [] x=x:=nr rfl
theorem ajS(l:List SV)(k:Nat)(p:List Step)(x:SV):tX (.agg l) (.eG k::p) x= .agg (l.set k (tX (l.getD k .junk) p x)):=nr rfl
theorem ajT(n w:Nat)(f:Nat->SV)(i n':Nat)(p:List Step)(x:SV):tX (.arr n w f) (.idx i n'::p) x= .arr n w (wS f i (tX (f i) p x)):=nr rfl
theorem apw(c:SV)(a o:Nat):iM c [] a o=(o=a):=propext Iff.rfl
theorem apx(l:List SV)(k:Nat)(p:List Step)(a o:Nat):iM (.agg l) (.eG k::p) a o=(k<l.length/\iM (l.getD k .junk) p (a+DZ (l.take k)) o):=propext Iff.rfl
theorem apy(n w:Nat)(f:Nat->SV)(i n':Nat)(p:List Step)(a o:Nat):iM (.arr n w f) (.idx i n'::p) a o=(n'=n/\iM (f i) p (a+i*w) o):=propext Iff.rfl
theorem XE:fV []=True:=propext Iff.rfl
theorem XF(k:Nat)(p:List Step):fV (.eG k::p)=fV p:=propext Iff.rfl
theorem XG(i n:Nat)(p:List Step):fV (.idx i n::p)=(i<n/\fV p):=propext Iff.rfl
theorem apz(r:Nat->Option Nat)(k:IntKind)(n:Int):ren r (.int k n)= .int k n:=nr rfl
theorem ajU(i0:Nat)(k:IntKind)(n:Int):kill i0 (.int k n)= .int k n:=nr rfl
theorem ajV(r:Nat->Option Nat)(b:Bool):ren r (.bool b)= .bool b:=nr rfl
theorem acH(i0:Nat)(b:Bool):kill i0 (.bool b)= .bool b:=nr rfl
theorem apA(r:Nat->Option Nat)(s:List UInt8):ren r (.str s)= .str s:=nr rfl
theorem ajW(i0:Nat)(s:List UInt8):kill i0 (.str s)= .str s:=nr rfl
theorem apB(r:Nat->Option Nat){υ:Type}(w:Nat)(d:υ)(f:υ->SV)(l:List υ):ren r (.lst w d f l)= .lst w d f l:=nr rfl
theorem ajX(i0:Nat){υ:Type}(w:Nat)(d:υ)(f:υ->SV)(l:List υ):kill i0 (.lst w d f l)= .lst w d f l:=nr rfl
theorem ajY(r:Nat->Option Nat){υ:Type}(w:Nat)(d:υ)(f:υ->SV)(l:List υ)(i:Nat)(p:List Step)(o:Nat):ren r (.fM w d f l i p o)= .fM w d f l i p o:=nr rfl
theorem acI(i0:Nat){υ:Type}(w:Nat)(d:υ)(f:υ->SV)(l:List υ)(i:Nat)(p:List Step)(o:Nat):kill i0 (.fM w d f l i p o)= .fM w d f l i p o:=nr rfl
theorem apC(r:Nat->Option Nat)(c:SV)(p:List Step)(o:Nat):ren r (.ref c p o)= .ref c p o:=nr rfl
theorem ajZ(i0:Nat)(c:SV)(p:List Step)(o:Nat):kill i0 (.ref c p o)= .ref c p o:=nr rfl
theorem aj0(i0:Nat)(i:Nat)(p:List Step)(o:Nat):kill i0 (.ptr i p o)= .ptr i p o:=nr rfl
theorem aj1(i0:Nat)(i:Nat):kill i0 (.map i)= .map i:=nr rfl
theorem aj2(r:Nat->Option Nat):ren r (.bF)= .bF:=nr rfl
theorem acJ(i0:Nat):kill i0 (.bF)= .bF:=nr rfl
theorem aj3(r:Nat->Option Nat):ren r (.iP)= .iP:=nr rfl
theorem acK(i0:Nat):kill i0 (.iP)= .iP:=nr rfl
theorem aj6(r:Nat->Option Nat):ren r (.jh)= .jh:=nr rfl
theorem acL(i0:Nat):kill i0 (.jh)= .jh:=nr rfl
theorem aj7(r:Nat->Option Nat):ren r (.jr)= .jr:=nr rfl
theorem acM(i0:Nat):kill i0 (.jr)= .jr:=nr rfl
theorem aj8(r:Nat->Option Nat):ren r (.qx)= .qx:=nr rfl
theorem acN(i0:Nat):kill i0 (.qx)= .qx:=nr rfl
theorem aj9(r:Nat->Option Nat):ren r (.lV)= .lV:=nr rfl
theorem acO(i0:Nat):kill i0 (.lV)= .lV:=nr rfl
theorem aj'(r:Nat->Option Nat):ren r .junk= .junk:=nr rfl
theorem acP(i:Nat):kill i .junk= .junk:=nr rfl
theorem apD(r:Nat->Option Nat)(j n:Nat):ren r (.vec j n)=kS r j λk=> .vec k n:=nr rfl
theorem akb(r:Nat->Option Nat)(j a:Nat)(p:List Step)(o:Nat):ren r (.gX j a p o)=kS r j λk=> .gX k a p o:=nr rfl
theorem akc(r:Nat->Option Nat)(j n:Nat):ren r (.jO j n)=kS r j λk=> .jO k n:=nr rfl
theorem apE(r:Nat->Option Nat)(j:Nat)(p:List Step)(o:Nat):ren r (.ptr j p o)=kS r j λk=> .ptr k p o:=nr rfl
theorem apF(r:Nat->Option Nat)(j:Nat):ren r (.map j)=kS r j .map:=nr rfl
theorem apG(r:Nat->Option Nat)(n w:Nat)(f:Nat->SV):ren r (.arr n w f)= .arr n w λk=>ren r (f k):=nr rfl
theorem apH(r:Nat->Option Nat)(l:List SV):ren r (.agg l)= .agg (dW r l):=nr rfl
theorem apI(r:Nat->Option Nat)(l:List SV):ren r (.bK l)= .bK (dW r l):=nr rfl
theorem awc(r:Nat->Option Nat)(f:FuncId)(l:List SV):ren r (.fn f l)= .fn f (dW r l):=nr rfl
theorem acQ(r:Nat->Option Nat)(t:TypeId)(x:SV):ren r (.iface t x)= .iface t (ren r x):=nr rfl
theorem akd(r:Nat->Option Nat):dW r []=[]:=nr rfl
theorem acR(r:Nat->Option Nat)(x:SV)(l:List SV):dW r (x::l)=ren r x::dW r l:=nr rfl
theorem apJ(r:Nat->Option Nat)(i:Nat)(f:Nat->SV):kS r i f=(match r i with
  |some j=>f j
  |none=> .junk):=nr rfl
theorem acS(r:Nat->Option Nat):dM r .dead= .dead:=nr rfl
theorem ake(r:Nat->Option Nat)(T:TypeId)(c:SV):dM r (.blk T c)= .blk T (ren r c):=nr rfl
theorem apK(r:Nat->Option Nat)(ek ev:ES)(l:List (SV×SV)):dM r (.mp ek ev l)= .mp ek ev l:=nr rfl
theorem akf(i:Nat)(ek ev:ES)(l:List (SV×SV)):oz i (.mp ek ev l)= .mp ek ev l:=nr rfl
theorem akg(r:Nat->Option Nat)(T:TypeId)(w:Nat)(l:List SV):dM r (.vec T w l)= .vec T w (dW r l):=nr rfl
theorem akh(i j n:Nat):kill i (.vec j n)=if j=i then .junk else .vec j n:=nr rfl
theorem acT(i j a:Nat)(p:List Step)(o:Nat):kill i (.gX j a p o)=if j=i then .junk else .gX j a p o:=nr rfl
theorem acU(i j n:Nat):kill i (.jO j n)=if j=i then .junk else .jO j n:=nr rfl
theorem aki(i n w:Nat)(f:Nat->SV):kill i (.arr n w f)= .arr n w λk=>kill i (f k):=nr rfl
theorem akj(i:Nat)(l:List SV):kill i (.agg l)= .agg (dI i l):=nr rfl
theorem akk(i:Nat)(l:List SV):kill i (.bK l)= .bK (dI i l):=nr rfl
theorem apL(i:Nat)(f:FuncId)(l:List SV):kill i (.fn f l)= .fn f (dI i l):=nr rfl
theorem XH(i:Nat)(t:TypeId)(x:SV):kill i (.iface t x)= .iface t (kill i x):=nr rfl
theorem acV(i:Nat):dI i []=[]:=nr rfl
theorem XI(i:Nat)(x:SV)(l:List SV):dI i (x::l)=kill i x::dI i l:=nr rfl
theorem XJ(i:Nat):oz i .dead= .dead:=nr rfl
theorem acW(i:Nat)(T:TypeId)(c:SV):oz i (.blk T c)= .blk T (kill i c):=nr rfl
theorem acX(i:Nat)(T:TypeId)(w:Nat)(l:List SV):oz i (.vec T w l)= .vec T w (dI i l):=nr rfl
theorem acY{υ:Type}(w:Nat)(d:υ)(f:υ->SV)(l:List υ):yj (.lst w d f l)=some l.length:=nr rfl
theorem XK:yj .bF=some 0:=nr rfl
theorem acZ(i n:Nat):yj (.vec i n)=some n:=nr rfl
theorem akl(m:List ay)(w j n:Nat):zM m w (.vec j n)=(match ah m j with
  | .vec _ w' l=>if w'=w then some l else none
  |_=>none):=nr rfl
theorem akm{υ:Type}(m:List ay)(w w':Nat)(d:υ)(f:υ->SV)(l:List υ):zM m w (.lst w' d f l)=if w'=w then some (l.map f) else none:=nr rfl
theorem akn{υ:Type}(m:List ay)(w w':Nat)(d:υ)(f:υ->SV)(l:List υ):zM m w (.lit w' d f l)=if w'=w then some (l.map f) else none:=nr rfl
theorem ac0(m:List ay)(w:Nat):zM m w .bF=some []:=nr rfl
theorem XL(x:ay)(m:List ay):ah (x::m) 0=x:=nr rfl
theorem XM(x:ay)(m:List ay)(i:Nat):ah (x::m) (i+1)=ah m i:=nr rfl
theorem XO(m:List ay)(k:Nat):iZ [] m k=none:=nr rfl
theorem TW(m:List ay)(y:ay)(m':List ay)(k:Nat):iZ (.dead::m) (y::m') k=iZ m m' (k+1):=nr rfl
theorem ac1(T T':TypeId)(c c':SV)(m m':List ay)(k:Nat):iZ (.blk T c::m) (.blk T' c'::m') k=iZ m m' (k+1):=nr rfl
theorem ac2(T T':TypeId)(w w':Nat)(l l':List SV)(m m':List ay)(k:Nat):iZ (.vec T w l::m) (.vec T' w' l'::m') k=iZ m m' (k+1):=nr rfl
theorem ac3(e1 e2 e3 e4:ES)(l l':List (SV×SV))(m m':List ay)(k:Nat):iZ (.mp e1 e2 l::m) (.mp e3 e4 l'::m') k=iZ m m' (k+1):=nr rfl
theorem ac4(e1 e2:ES)(l:List (SV×SV))(m m':List ay)(k:Nat):iZ (.mp e1 e2 l::m) (.dead::m') k=some k:=nr rfl
theorem ac5(T:TypeId)(w:Nat)(l:List SV)(m m':List ay)(k:Nat):iZ (.vec T w l::m) (.dead::m') k=some k:=nr rfl
theorem ac6(T:TypeId)(c:SV)(m m':List ay)(k:Nat):iZ (.blk T c::m) (.dead::m') k=some k:=nr rfl
theorem look_nil(k:Nat):look k .nil= .junk:=nr rfl
theorem ako(k j:Nat)(x:SV)(r:Fr):look k (.put j x r)=if k=j then x else look k r:=nr rfl
theorem ac7(k s d:Nat)(x:SV)(r:Fr):look k (.pick s d x r)=if k=d then x else if s<k/\k<d then .junk else look k r:=nr rfl
theorem aB7(O:Fr)(n:Nat):aS.fv O (.t n)=look n O:=nr rfl
theorem aB8(O:Fr)(x:SV):aS.fv O (.c x)=x:=nr rfl
theorem ac8(x:SV)(O:Fr):rC none x O=O:=nr rfl
theorem ac9(d:Nat)(x:SV)(O:Fr):rC (some d) x O= .put d x O:=nr rfl
theorem ac'(O:Fr):aX [] O= .nil:=nr rfl
theorem XP(k:Nat)(ks:List Nat)(O:Fr):aX (k::ks) O= .put k (look k O) (aX ks O):=nr rfl
theorem apM(O:Fr):Sx.qp [] [] O=O:=nr rfl
theorem akp(k:Nat)(ks:List Nat)(x:SV)(xs:List SV)(O:Fr):Sx.qp (k::ks) (x::xs) O= .put k x (Sx.qp ks xs O):=nr rfl
theorem apN(O:Fr):V4 [] [] O=True:=propext Iff.rfl
theorem akq(k:Nat)(ks:List Nat)(x:SV)(xs:List SV)(O:Fr):V4 (k::ks) (x::xs) O=(look k O=x/\V4 ks xs O):=propext Iff.rfl
theorem apO(r:Nat->Option Nat)(O:Fr):atR r [] [] O=True:=propext Iff.rfl
theorem akr(r:Nat->Option Nat)(k:Nat)(ks:List Nat)(x:SV)(xs:List SV)(O:Fr):atR r (k::ks) (x::xs) O=(ren r (look k O)=x/\atR r ks xs O):=propext Iff.rfl
theorem ada(r:Nat->Option Nat)(O O':Fr):xX r O O' []=True:=propext Iff.rfl
theorem XQ(r:Nat->Option Nat)(O O':Fr)(k:Nat)(ks:List Nat):xX r O O' (k::ks)=(ren r (look k O')=look k O/\xX r O O' ks):=propext Iff.rfl
theorem awd(n i:Nat):ug n i=if i<n then some i else none:=nr rfl
theorem adb(i:Nat):yw i .nil= .nil:=nr rfl
theorem ade(i k:Nat)(x:SV)(r:Fr):yw i (.put k x r)= .put k (kill i x) (yw i r):=nr rfl
theorem XR(i s d:Nat)(x:SV)(r:Fr):yw i (.pick s d x r)= .pick s d (kill i x) (yw i r):=nr rfl
theorem aks(r:Nat->Option Nat):AO r .nil= .nil:=nr rfl
theorem akt(r:Nat->Option Nat)(k:Nat)(x:SV)(t:Fr):AO r (.put k x t)= .put k (ren r x) (AO r t):=nr rfl
theorem adf(r:Nat->Option Nat)(s d:Nat)(x:SV)(t:Fr):AO r (.pick s d x t)= .pick s d (ren r x) (AO r t):=nr rfl
theorem adg(O:Fr):um [] O=O:=nr rfl
theorem XT(k:Nat)(ks:List Nat)(O:Fr):um (k::ks) O= .put k .junk (um ks O):=nr rfl
theorem aku:SL.jP .nil=[]:=nr rfl
theorem adh(d:Nat)(x:yE)(r:SL):SL.jP (.op (some d) x r)=d::r.jP:=nr rfl
theorem adi(x:yE)(r:SL):SL.jP (.op none x r)=r.jP:=nr rfl
theorem XU(ks:List Nat)(r:SL):SL.jP (.prune ks r)=r.jP:=nr rfl
theorem akv(k:Nat):vM k []= .nil:=nr rfl
theorem adk(k:Nat)(x:SV)(r:List SV):vM k (x::r)= .put k x (vM (k+1) r):=nr rfl
theorem adl{α:Type}{A:Ans α}{m:List ay}{n:Nat}{ag:Bool}{K:SV->α}(i:Nat)(p:List Step)(o:Nat):nK A m n ag K (.ptr i p o)=(match ah m i with
  | .blk _ c=>A.need (iM c p 0 o/\wd (dP c p)=n/\(dP c p).isAgg=ag) (K (dP c p))
  |_=>A.bad):=nr rfl
theorem XV{α:Type}{A:Ans α}{m:List ay}{n:Nat}{ag:Bool}{K:SV->α}{υ:Type}(w:Nat)(d:υ)(f:υ->SV)(l:List υ)(i:Nat)(p:List Step)(o:Nat):nK A m n ag K (.fM w d f l i p o)=A.need (iM (f (l.getD i d)) p 0 o/\wd (dP (f (l.getD i d)) p)=n/\(dP (f (l.getD i d)) p).isAgg=ag) (K (dP (f (l.getD i d)) p)):=nr rfl
theorem XW{α:Type}{A:Ans α}{m:List ay}{n:Nat}{ag:Bool}{K:SV->α}(i j:Nat)(p:List Step)(o:Nat):nK A m n ag K (.gX i j p o)=(match ah m i with
  | .vec _ w l=>A.need (j<l.length/\iM (l.getD j .junk) p (j*w) o/\wd (dP (l.getD j .junk) p)=n/\(dP (l.getD j .junk) p).isAgg=ag) (K (dP (l.getD j .junk) p))
  |_=>A.bad):=nr rfl
theorem adn{α:Type}{A:Ans α}{m:List ay}{n:Nat}{ag:Bool}{K:SV->α}(c:SV)(p:List Step)(o:Nat):nK A m n ag K (.ref c p o)=A.need (iM c p 0 o/\wd (dP c p)=n/\(dP c p).isAgg=ag) (K (dP c p)):=nr rfl
theorem akw{m:List ay}{n:Nat}{ag:Bool}{K:SV->Prop}(i:Nat)(p:List Step)(o:Nat):peek m n ag K (.ptr i p o)=(match ah m i with
  | .blk _ c=>(iM c p 0 o/\wd (dP c p)=n/\(dP c p).isAgg=ag)/\K (dP c p)
  |_=>False):=propext Iff.rfl
theorem akx{m:List ay}{n:Nat}{ag:Bool}{K:SV->Prop}(c:SV)(p:List Step)(o:Nat):peek m n ag K (.ref c p o)=((iM c p 0 o/\wd (dP c p)=n/\(dP c p).isAgg=ag)/\K (dP c p)):=propext Iff.rfl
theorem aky{m:List ay}{n:Nat}{v:SV}{K:List ay->Prop}(i:Nat)(p:List Step)(o:Nat):JU m n v K (.ptr i p o)=(match ah m i with
  | .blk T c=>(iM c p 0 o/\wd (dP c p)=n/\wd v=n/\v.isVal=true)/\K (m.set i (.blk T (tX c p v)))
  |_=>False):=propext Iff.rfl
theorem ado{m:List ay}{n:Nat}{v:SV}{K:List ay->Prop}(i j:Nat)(p:List Step)(o:Nat):JU m n v K (.gX i j p o)=(match ah m i with
  | .vec T w l=>(j<l.length/\iM (l.getD j .junk) p (j*w) o/\wd (dP (l.getD j .junk) p)=n/\wd v=n/\v.isVal=true)/\K (m.set i (.vec T w (l.set j (tX (l.getD j .junk) p v))))
  |_=>False):=propext Iff.rfl
theorem adp{α:Type}{A:Ans α}{s:Step}{off:Nat}{K:SV->α}(i:Nat)(p:List Step)(o:Nat):stepG A s off K (.ptr i p o)=K (.ptr i (p++[s]) (o+off)):=nr rfl
theorem XY{α:Type}{A:Ans α}{s:Step}{off:Nat}{K:SV->α}{υ:Type}(w:Nat)(d:υ)(f:υ->SV)(l:List υ)(i:Nat)(p:List Step)(o:Nat):stepG A s off K (.fM w d f l i p o)=K (.fM w d f l i (p++[s]) (o+off)):=nr rfl
theorem XZ{α:Type}{A:Ans α}{s:Step}{off:Nat}{K:SV->α}(i j:Nat)(p:List Step)(o:Nat):stepG A s off K (.gX i j p o)=K (.gX i j (p++[s]) (o+off)):=nr rfl
theorem adq{α:Type}{A:Ans α}{s:Step}{off:Nat}{K:SV->α}(c:SV)(p:List Step)(o:Nat):stepG A s off K (.ref c p o)=K (.ref c (p++[s]) (o+off)):=nr rfl
theorem adr(k k':IntKind):vY.kinds k k' .add=(k'=k):=propext Iff.rfl
theorem ads(k k':IntKind):vY.kinds k k' .sub=(k'=k):=propext Iff.rfl
theorem adt(k k':IntKind):vY.kinds k k' .mul=(k'=k):=propext Iff.rfl
theorem adu(k k':IntKind):vY.kinds k k' .quo=(k'=k):=propext Iff.rfl
theorem adv(k k':IntKind):vY.kinds k k' .rem=(k'=k):=propext Iff.rfl
theorem adw(k k':IntKind):vY.kinds k k' .and=(k'=k):=propext Iff.rfl
theorem akz(k k':IntKind):vY.kinds k k' .or=(k'=k):=propext Iff.rfl
theorem adx(k k':IntKind):vY.kinds k k' .xor=(k'=k):=propext Iff.rfl
theorem Qe(k k':IntKind):vY.kinds k k' .andNot=(k'=k):=propext Iff.rfl
theorem ady(k k':IntKind):vY.kinds k k' .shl=True:=propext Iff.rfl
theorem adz(k k':IntKind):vY.kinds k k' .shr=True:=propext Iff.rfl
theorem awe{Γ:FH}{m:List ay}{O:Fr}{K:SV->Prop->Prop}{acc:Prop}(p:wK):JV Γ m O K (.p p) acc=fZ AC (aS.fv O) K p acc:=nr rfl
theorem adA{Γ:FH}{m:List ay}{O:Fr}{K:SV->Prop->Prop}{acc:Prop}(n:Nat)(ag:Bool)(x:aS):JV Γ m O K (.e (.load n ag x)) acc=nK AC m n ag K (x.fv O) acc:=nr rfl
theorem adB{Γ:FH}{m:List ay}{O:Fr}{K:SV->Prop->Prop}{acc:Prop}(f:FuncId)(ys:List aS):JV Γ m O K (.e (.call f ys)) acc=Bc (Γ f (ys.map (aS.fv O)) m) K (acc/\(ys.map (aS.fv O)).all SV.isVal=true):=nr rfl
theorem X0{Γ:FH}{m:List ay}{O:Fr}{K:SV->Prop->Prop}{acc:Prop}(f:FuncId)(ys:List aS):JV Γ m O K (.e (.gW f ys)) acc=Bc (Γ f (ys.map (aS.fv O)) m) K (acc/\(ys.map (aS.fv O)).all SV.isVal=true):=nr rfl
theorem adC{Γ:FH}{m:List ay}{O:Fr}{K:SV->Prop->Prop}{acc:Prop}(l:List Int):JV Γ m O K (.e (.DK l)) acc=K (.lst 1 (0:Int) (SV.int .i64) l) acc:=nr rfl
theorem akA{Γ:FH}{m:List ay}{O:Fr}{K:SV->Prop->Prop}{acc:Prop}(k:MK)(ys:List aS):JV Γ m O K (.e (.mJ k ys)) acc=G9 AC m k (ys.map (aS.fv O)) K (acc/\(ys.map (aS.fv O)).all SV.isVal=true):=nr rfl
theorem akB{α:Type}{A:Ans α}{m:List ay}{K:SV->α}(ek ev:ES)(z:SV)(ok:Bool)(i:Nat)(key:SV):G9 A m (.get ek ev z ok) [.map i,key] K=(match ah m i with
  | .mp ek' ev' l=>A.need (ek'=ek/\ev'=ev/\gU ek key) (K (if ok then .bK [pX ev z (dQ ek key l), .bool (dQ ek key l).isSome] else pX ev z (dQ ek key l)))
  |_=>A.bad):=nr rfl
theorem akC{m:List ay}{K:SV->List ay->Prop}(ek ev:ES)(z:SV)(ok:Bool)(i:Nat)(key:SV):mX m (.get ek ev z ok) [.map i,key] K=(match ah m i with
  | .mp ek' ev' l=>(ek'=ek/\ev'=ev/\gU ek key)/\K (if ok then .bK [pX ev z (dQ ek key l), .bool (dQ ek key l).isSome] else pX ev z (dQ ek key l)) m
  |_=>False):=nr rfl
theorem adD{α:Type}{A:Ans α}{m:List ay}{K:SV->α}(i:Nat):G9 A m .abA [.map i] K=(match ah m i with
  | .mp _ _ l=>K (.int .i64 l.length)
  |_=>A.bad):=nr rfl
theorem adE{m:List ay}{K:SV->List ay->Prop}(i:Nat):mX m .abA [.map i] K=(match ah m i with
  | .mp _ _ l=>K (.int .i64 l.length) m
  |_=>False):=nr rfl
theorem akD{m:List ay}{K:SV->List ay->Prop}(ek ev:ES)(i:Nat)(key v:SV):mX m (.put ek ev) [.map i,key,v] K=(match ah m i with
  | .mp ek' ev' l=>(ek'=ek/\ev'=ev/\gU ek key/\Tv ev v)/\K .junk (m.set i (.mp ek ev (gG ek key v l)))
  |_=>False):=nr rfl
theorem adF{m:List ay}{K:SV->List ay->Prop}(x:SV):mX m .agH [x] K=(match zM m 1 x with
   |some l=>match bytesOf l with
    |some bs=>K (.str bs) m
    |none=>False
   |none=>False):=nr rfl
theorem adG{m:List ay}{K:SV->List ay->Prop}(s:List UInt8):mX m .aiw [.str s] K=(s.length<=140737488355328/\K (.lst 1 (0:UInt8) (λb=>SV.int .u8 (b.toNat:Int)) s) m):=nr rfl
theorem adH{υ:Type}(w:Nat)(d:υ)(f:υ->SV)(l:List υ):yj (.lit w d f l)=some l.length:=nr rfl
theorem awf{υ:Type}(w:Nat)(d:υ)(f:υ->SV)(l:List υ):wd (.lit w d f l)=1:=nr rfl
theorem adI{υ:Type}(w:Nat)(d:υ)(f:υ->SV)(l:List υ):(SV.lit w d f l).isAgg=false:=nr rfl
theorem adJ{υ:Type}(w:Nat)(d:υ)(f:υ->SV)(l:List υ):(SV.lit w d f l).isVal=true:=nr rfl
theorem apP{υ:Type}(r:Nat->Option Nat)(w:Nat)(d:υ)(f:υ->SV)(l:List υ):ren r (.lit w d f l)= .lit w d f l:=nr (by simp only[ren])
theorem akE{υ:Type}(i:Nat)(w:Nat)(d:υ)(f:υ->SV)(l:List υ):kill i (.lit w d f l)= .lit w d f l:=nr (by simp only[kill])
theorem akF{υ:Type}(w:Nat)(d:υ)(f:υ->SV)(l:List υ):fG (.lit w d f l)=[]:=nr (by simp only[fG])
theorem X3(s:List UInt8):bytesOf (s.map λb=>SV.int .u8 (b.toNat:Int))=some s:=nr (by
 induction s with
 |nil=>rfl
 |cons n ns ih=>simp only[z0b,bytesOf,ih,z1d,Int.toNat_natCast,UInt8.ofNat_toNat])
theorem TY:bytesOf []=some []:=nr rfl
theorem bytesOf_map(ns:List Int):bytesOf (ns.map (SV.int .u8))=some (ns.map λn=>UInt8.ofNat n.toNat):=nr (by
 induction ns with
 |nil=>rfl
 |cons n ns ih=>simp only[z0b,bytesOf,ih,z1d])
theorem Ua(ns:List Int):bytesOf (ns.map DT.byte.aA)=some (ns.map λn=>UInt8.ofNat n.toNat):=bytesOf_map ns
theorem Qg(n:Int)(r:List SV):bytesOf (.int .u8 n::r)=(bytesOf r).map (UInt8.ofNat n.toNat:: ·):=nr rfl
theorem adK{m:List ay}{K:SV->List ay->Prop}(ek ev:ES):mX m (.make ek ev) [] K=K (.map m.length) (m++[.mp ek ev []]):=nr rfl
theorem X4{m:List ay}{K:SV->List ay->Prop}(ek ev:ES)(k:IntKind)(n:Int):mX m (.make ek ev) [.int k n] K=K (.map m.length) (m++[.mp ek ev []]):=nr rfl
theorem akG(x:SV):Tv .bool x=gU .bool x:=nr rfl
theorem apQ(x:SV):Tv .str x=gU .str x:=nr rfl
theorem apR(k:IntKind)(x:SV):Tv (.int k) x=gU (.int k) x:=nr rfl
theorem awg(l:List ES)(x:SV):Tv (.st l) x=gU (.st l) x:=nr rfl
theorem awh(n:Int)(f:FuncId):Tv (.arr 0 0 (.st [])) (.agg [.int .i64 n, .fn f []])=True:=eq_true trivial
theorem akH(z:SV)(o:Option SV):pX (.arr 0 0 (.st [])) z o=o.getD z:=nr rfl
theorem X5(z:SV)(o:Option SV):pX .bool z o= .bool (obB o):=nr rfl
theorem akI(l:List ES)(z:SV)(o:Option SV):pX (.st l) z o=o.getD z:=nr rfl
theorem adL(k:IntKind)(z:SV)(o:Option SV):pX (.int k) z o= .int k (obI o):=nr rfl
theorem X6{Γ:FH}{m:List ay}{O:Fr}{K:SV->Prop->Prop}{acc:Prop}(x:aS)(ys:List aS):JV Γ m O K (.e (.jm x ys)) acc=(match x.fv O with
  | .fn f cap=>AC.need ((ys.map (aS.fv O)).all SV.isVal=true) (Bc (Γ f (ys.map (aS.fv O)++cap) m) K)
  |_=>AC.bad) acc:=nr rfl
theorem akJ(p:Prop)(r:SV)(K:SV->Prop->Prop)(acc:Prop):Bc (.ro p r) K acc=K r (acc/\p):=nr rfl
theorem apS(m:List ay)(p:Prop)(r:SV)(K:SV->List ay->Prop):Call.hook (.ro p r) m K=(p/\K r m):=propext Iff.rfl
theorem apT(m:List ay)(p:Prop)(r:SV)(m':List ay)(K:SV->List ay->Prop):Call.hook (.is p r m') m K=(p/\K r m'):=propext Iff.rfl
theorem apU(p:Prop)(x:Prop->Prop)(acc:Prop):AC.need p x acc=x (acc/\p):=nr rfl
theorem awi(acc:Prop):AC.bad acc=False:=nr rfl
theorem awj(b:Bool)(x y:Prop->Prop)(acc:Prop):AC.spl b x y acc=((b=true->x acc)/\(b=false->y acc)):=nr rfl
theorem awk{Γ:FH}{m:List ay}{y:aS}{O:Fr}{K:Bool->Prop->Prop}{acc:Prop}:SL.vc Γ m .nil y O K acc=(match y.fv O with
  | .bool b=>K b acc
  |_=>False):=nr rfl
theorem ay2{Γ:FH}{m:List ay}{y:aS}{O:Fr}{K:Bool->Prop->Prop}{acc:Prop}(d:Option Nat)(x:yE)(r:SL):SL.vc Γ m (.op d x r) y O K acc=JV Γ m O (λsv acc'=>r.vc Γ m y (rC d sv O) K acc') x acc:=nr rfl
theorem ay3{Γ:FH}{m:List ay}{y:aS}{O:Fr}{K:Bool->Prop->Prop}{acc:Prop}(or:Bool)(d s:Nat)(l:SL)(y':aS)(r:SL):SL.vc Γ m (.sc or d s l y' r) y O K acc=(match look s O with
  | .bool b=>l.vc Γ m y' O (λq g=>r.vc Γ m y (.pick s d (.bool (if or then b||q else b&&q)) O) K (acc/\(b=(!or)->g))) True
  |_=>False):=nr rfl
theorem akK{Γ:FH}{m:List ay}{y:aS}{O:Fr}{K:Bool->Prop->Prop}{acc:Prop}(ks:List Nat)(r:SL):SL.vc Γ m (.prune ks r) y O K acc=r.vc Γ m y (aX ks O) K acc:=nr rfl
theorem awl{Γ:FH}{dr:Bool}{K:Fr->List ay->Prop}{O:Fr}{m:List ay}:SL.wp Γ dr .nil K O m=K O m:=propext Iff.rfl
theorem ay4{Γ:FH}{dr:Bool}{K:Fr->List ay->Prop}{O:Fr}{m:List ay}(d:Option Nat)(x:yE)(r:SL):SL.wp Γ dr (.op d x r) K O m=opF Γ dr O m (λO' sv m'=>r.wp Γ dr K (rC d sv O') m') x:=propext Iff.rfl
theorem ay5{Γ:FH}{dr:Bool}{K:Fr->List ay->Prop}{O:Fr}{m:List ay}(or:Bool)(d s:Nat)(l:SL)(y:aS)(r:SL):SL.wp Γ dr (.sc or d s l y r) K O m=(match look s O with
  | .bool b=>l.vc Γ m y O (λq g=>(b=(!or)->g)/\r.wp Γ dr K (.pick s d (.bool (if or then b||q else b&&q)) O) m) True
  |_=>False):=propext Iff.rfl
theorem apV{Γ:FH}{dr want:Bool}{s:Nat}{K:Fr->List ay->Prop}{O:Fr}{m:List ay}:SL.Vu Γ dr s want .nil K O m=(look s O= .bool want/\K O m):=propext Iff.rfl
theorem awm{Γ:FH}{dr want:Bool}{s:Nat}{K:Fr->List ay->Prop}{O:Fr}{m:List ay}(d:Option Nat)(x:yE)(r:SL):SL.Vu Γ dr s want (.op d x r) K O m=(look s O= .bool want/\opF Γ dr O m (λO' sv m'=>r.Vu Γ dr s want K (rC d sv O') m') x):=propext Iff.rfl
theorem adM{Γ:FH}{dr want:Bool}{s:Nat}{K:Fr->List ay->Prop}{O:Fr}{m:List ay}(ks:List Nat)(r:SL):SL.Vu Γ dr s want (.prune ks r) K O m=r.Vu Γ dr s want K (aX ks O) m:=propext Iff.rfl
theorem awn{Γ:FH}{dr:Bool}{K:Fr->List ay->Prop}{O:Fr}{m:List ay}(or:Bool)(d s:Nat)(l:SL)(y:aS)(r:SL):SL.wp Γ dr (.Vw or d s l y r) K O m=(match look s O with
  | .bool b=>if b=or then l.Ub s d []=true/\r.wp Γ dr K (.pick s d (.bool or) O) m else l.Vu Γ dr s (!or) (λO' m'=>match y.fv O' with
   | .bool q=>r.wp Γ dr K (.pick s d (.bool q) O') m'
   |_=>False) O m
  |_=>False):=propext Iff.rfl
theorem akL{Γ:FH}{dr:Bool}{K:Fr->List ay->Prop}{O:Fr}{m:List ay}(ks:List Nat)(r:SL):SL.wp Γ dr (.prune ks r) K O m=r.wp Γ dr K (aX ks O) m:=propext Iff.rfl
theorem X7{k:Nat}{T:TypeId}{w:Nat}{K:Fr->List ay->Prop}{O:Fr}{m:List ay}:yY k T w K O m .bF=K (.put k (.vec m.length 0) O) (m++[.vec T w []]):=propext Iff.rfl
theorem adN{k:Nat}{T:TypeId}{w:Nat}{K:Fr->List ay->Prop}{O:Fr}{m:List ay}(i n:Nat):yY k T w K O m (.vec i n)=K O m:=propext Iff.rfl
theorem adO{υ:Type}{k:Nat}{T:TypeId}{w:Nat}{K:Fr->List ay->Prop}{O:Fr}{m:List ay}(w':Nat)(d:υ)(f:υ->SV)(l:List υ):yY k T w K O m (.lst w' d f l)=K O m:=propext Iff.rfl
theorem adP{rs:List ResultVar}{P:Program}{n0:Nat}{res:SV}{m1:List ay}{O:Fr}{m:List ay}:IW rs P n0 res m1 .norm O m=sO P O m (λx=>Dh (upto n0 0++qw n0 (fG x)) res m1 m x) rs:=propext Iff.rfl
theorem akM{rs:List ResultVar}{P:Program}{n0:Nat}{res:SV}{m1:List ay}{O:Fr}{m:List ay}:IW rs P n0 res m1 .ret O m=sO P O m (λx=>Dh (upto n0 0++qw n0 (fG x)) res m1 m x) rs:=propext Iff.rfl
theorem adQ{rs:List ResultVar}{P:Program}{n0:Nat}{res:SV}{m1:List ay}{O:Fr}{m:List ay}(i:Nat):IW rs P n0 res m1 (.exit i) O m=False:=propext Iff.rfl
theorem akN{P:Program}{O:Fr}{m:List ay}{K:SV->Prop}:sO P O m K []=K (.bK []):=propext Iff.rfl
theorem akO{P:Program}{O:Fr}{m:List ay}{K:SV->Prop}(t:Nat):sO P O m K [.tmp t]=((look t O).isVal=true/\K (look t O)):=propext Iff.rfl
theorem adR{P:Program}{O:Fr}{m:List ay}{K:SV->Prop}(t:Nat)(T:TypeId):sO P O m K [.cell t T]=(match qm P T with
  |some (n,ag)=>peek m n ag K (look t O)
  |none=>False):=propext Iff.rfl
theorem apW{P:Program}{O:Fr}{m:List ay}{K:SV->Prop}(t:Nat)(r:ResultVar)(l:List ResultVar):sO P O m K (.tmp t::r::l)=sO.go P O m (.tmp t::r::l) λxs=>K (.bK xs):=propext Iff.rfl
theorem apX{P:Program}{O:Fr}{m:List ay}{K:SV->Prop}(t:Nat)(T:TypeId)(r:ResultVar)(l:List ResultVar):sO P O m K (.cell t T::r::l)=sO.go P O m (.cell t T::r::l) λxs=>K (.bK xs):=propext Iff.rfl
theorem X8{P:Program}{O:Fr}{m:List ay}{K:List SV->Prop}:sO.go P O m [] K=K []:=propext Iff.rfl
theorem X9{P:Program}{O:Fr}{m:List ay}{K:List SV->Prop}(t:Nat)(r:List ResultVar):sO.go P O m (.tmp t::r) K=((look t O).isVal=true/\sO.go P O m r λxs=>K (look t O::xs)):=propext Iff.rfl
theorem Uc{P:Program}{O:Fr}{m:List ay}{K:List SV->Prop}(t:Nat)(T:TypeId)(r:List ResultVar):sO.go P O m (.cell t T::r) K=(match qm P T with
  |some (n,ag)=>peek m n ag (λx=>x.isVal=true/\sO.go P O m r λxs=>K (x::xs)) (look t O)
  |none=>False):=propext Iff.rfl
theorem akP(k:IntKind)(n:Int):fG (.int k n)=[]:=nr rfl
theorem adS(b:Bool):fG (.bool b)=[]:=nr rfl
theorem akQ(s:List UInt8):fG (.str s)=[]:=nr rfl
theorem akR{υ:Type}(w:Nat)(d:υ)(f:υ->SV)(l:List υ):fG (.lst w d f l)=[]:=nr rfl
theorem adT{υ:Type}(w:Nat)(d:υ)(f:υ->SV)(l:List υ)(i:Nat)(p:List Step)(o:Nat):fG (.fM w d f l i p o)=[]:=nr rfl
theorem akS(c:SV)(p:List Step)(o:Nat):fG (.ref c p o)=[]:=nr rfl
theorem akT(i:Nat)(p:List Step)(o:Nat):fG (.ptr i p o)=[i]:=nr rfl
theorem akU(i n:Nat):fG (.vec i n)=[i]:=nr rfl
theorem adU(i j:Nat)(p:List Step)(o:Nat):fG (.gX i j p o)=[i]:=nr rfl
theorem adV(i n:Nat):fG (.jO i n)=[i]:=nr rfl
theorem akV(i:Nat):fG (.map i)=[i]:=nr rfl
theorem apY(f:FuncId)(c:List SV):fG (.fn f c)=La c:=nr rfl
theorem Ya(t:TypeId)(x:SV):fG (.iface t x)=fG x:=nr rfl
theorem adW:fG (.bF)=[]:=nr rfl
theorem adX:fG (.iP)=[]:=nr rfl
theorem adY:fG (.jh)=[]:=nr rfl
theorem adZ:fG (.jr)=[]:=nr rfl
theorem ad1:fG (.qx)=[]:=nr rfl
theorem ad2:fG (.lV)=[]:=nr rfl
theorem akW(n w:Nat)(f:Nat->SV):fG (.arr n w f)=[]:=nr rfl
theorem akX(l:List SV):fG (.agg l)=La l:=nr rfl
theorem akY(l:List SV):fG (.bK l)=La l:=nr rfl
theorem ad3:fG .junk=[]:=nr rfl
theorem akZ:La []=[]:=nr rfl
theorem ad4(x:SV)(r:List SV):La (x::r)=fG x++La r:=nr rfl
theorem Yb(n:Nat):qw n []=[]:=nr rfl
theorem Ud(n i:Nat)(r:List Nat):qw n (i::r)=if i<n then qw n r else i::qw n r:=nr rfl
theorem ad5(k:Nat):upto 0 k=[]:=nr rfl
theorem upto_succ(n k:Nat):upto (n+1) k=k::upto n (k+1):=nr rfl
theorem awo:nd []=True:=propext Iff.rfl
theorem apZ(k:Nat)(r:List Nat):nd (k::r)=(Jh k r/\nd r):=propext Iff.rfl
theorem ad6(k:Nat):Jh k []=True:=propext Iff.rfl
theorem Yc(k j:Nat)(r:List Nat):Jh k (j::r)=(k≠j/\Jh k r):=propext Iff.rfl
theorem ak0(j i:Nat):dF [] j i=none:=nr rfl
theorem ad7(k:Nat)(r:List Nat)(j i:Nat):dF (k::r) j i=if i=k then some j else dF r (j+1) i:=nr rfl
theorem ak1(k:IntKind)(n:Int):dH (.int k n)=True:=by simp only[dH]
theorem ad8(b:Bool):dH (.bool b)=True:=by simp only[dH]
theorem ak2(s:List UInt8):dH (.str s)=True:=by simp only[dH]
theorem ad9{υ:Type}(w:Nat)(d:υ)(f:υ->SV)(l:List υ)(i:Nat)(p:List Step)(o:Nat):dH (.fM w d f l i p o)=True:=by simp only[dH]
theorem ak3(i:Nat)(p:List Step)(o:Nat):dH (.ptr i p o)=True:=by simp only[dH]
theorem ak4(i n:Nat):dH (.vec i n)=True:=by simp only[dH]
theorem aea(i j:Nat)(p:List Step)(o:Nat):dH (.gX i j p o)=True:=by simp only[dH]
theorem aeb(i n:Nat):dH (.jO i n)=True:=by simp only[dH]
theorem ak5(i:Nat):dH (.map i)=True:=by simp only[dH]
theorem ap0(f:FuncId)(c:List SV):dH (.fn f c)=True:=by simp only[dH]
theorem Yd(t:TypeId)(x:SV):dH (.iface t x)=True:=by simp only[dH]
theorem aec:dH (.bF)=True:=by simp only[dH]
theorem aed:dH (.iP)=True:=by simp only[dH]
theorem aee:dH (.jh)=True:=by simp only[dH]
theorem aef:dH (.jr)=True:=by simp only[dH]
theorem aeg:dH (.qx)=True:=by simp only[dH]
theorem aeh:dH (.lV)=True:=by simp only[dH]
theorem ak6{υ:Type}(w:Nat)(d:υ)(f:υ->SV)(l:List υ):dH (.lst w d f l)=(l.length<=9223372036854775807/\∀ x∈l,dH (f x)):=by simp only[dH]
theorem ak7(c:SV)(p:List Step)(o:Nat):dH (.ref c p o)=dH c:=by simp only[dH]
theorem ak8(l:List SV):dH (.agg l)=sW l:=by simp only[dH]
theorem ak9(n w:Nat)(f:Nat->SV):dH (.arr n w f)= ∀ i,i<n->dH (f i):=by simp only[dH]
theorem aei:sW []=True:=by simp only[sW]
theorem Ye(x:SV)(r:List SV):sW (x::r)=(dH x/\sW r):=by simp only[sW]
theorem Ue{α:Type _}(l:List α):l.take 0=[]:=nr rfl
theorem Uf{α:Type _}(n:Nat)(x:α)(l:List α):(x::l).take (n+1)=x::l.take n:=nr rfl
theorem Yf{α:Type _}(n:Nat):([]:List α).take n=[]:=by cases n<;>rfl
theorem Ug{α:Type _}(l:List α):l.drop 0=l:=nr rfl
theorem Uh{α:Type _}(n:Nat)(x:α)(l:List α):(x::l).drop (n+1)=l.drop n:=nr rfl
theorem Yg(n:Nat):0+n=n:=nr (z0q n)
theorem Yh(n:Nat):n+0=n:=nr rfl
theorem ap1(n:Nat):(n:Int).toNat=n:=nr rfl
theorem EW{α:Type _}(x:α):z0o 0 x=[]:=nr rfl
theorem EX{α:Type _}(n:Nat)(x:α):z0o (n+1) x=x::z0o n x:=nr rfl
theorem Qh{α:Type _}:([]:List α).length=0:=nr rfl
theorem Ls{α:Type _}(x:α)(l:List α):(x::l).length=l.length+1:=nr rfl
theorem Qi{α:Type _}(l:List α):[]++l=l:=nr rfl
theorem Lu{α:Type _}(x:α)(a b:List α):(x::a)++b=x::(a++b):=nr rfl
theorem Yi{α:Type _}(x y:α)(l:List α):(x::l).set 0 y=y::l:=nr rfl
theorem Yj{α:Type _}(x y:α)(l:List α)(n:Nat):(x::l).set (n+1) y=x::l.set n y:=nr rfl
theorem Ui{α:Type _}(x d:α)(l:List α):(x::l).getD 0 d=x:=nr rfl
theorem Uj{α:Type _}(x d:α)(l:List α)(n:Nat):(x::l).getD (n+1) d=l.getD n d:=nr rfl
theorem aej{α β:Type _}(f:α->β):[].map f=[]:=nr rfl
theorem Yk{α β:Type _}(f:α->β)(x:α)(l:List α):(x::l).map f=f x::l.map f:=nr rfl
theorem aek{α:Type _}(p:α->Bool):[].all p=true:=nr rfl
theorem Yl{α:Type _}(p:α->Bool)(x:α)(l:List α):(x::l).all p=(p x&&l.all p):=nr rfl
theorem Ym(b:Bool):(true&&b)=b:=nr rfl
theorem Yn(b:Bool):(b&&true)=b:=by cases b<;>rfl
theorem Uk(b:Bool):(false&&b)=false:=nr rfl
theorem Ul(b:Bool):(b&&false)=false:=by cases b<;>rfl
theorem Yo(b:Bool):(false||b)=b:=nr rfl
theorem Yp(b:Bool):(b||false)=b:=by cases b<;>rfl
theorem ael(b:Bool):(true||b)=true:=nr rfl
theorem aem(b:Bool):(b||true)=true:=by cases b<;>rfl
theorem Yq:(!true)=false:=nr rfl
theorem Um:(!false)=true:=nr rfl
theorem Yr{α β:Type _}(f:α->β)(x:α):(some x).map f=some (f x):=nr rfl
theorem Yt{α β:Type _}(f:α->β):(none:Option α).map f=none:=nr rfl
theorem Qj{α β:Type _}(f:α->β)(l:List α):(l.map f).length=l.length:=nr (z00 f)
theorem aen(n:Nat):(0<n+1)=True:=eq_true (Nat.succ_pos n)
theorem aeo(n:Nat):(n=n+1)=False:=eq_false (by omega)
theorem ay6(n j:Nat):IY n j=some (n+j):=nr rfl
theorem ap2(a b:Int):QM.ev a b .eql=decide (a=b):=nr rfl
theorem ap3(a b:Int):QM.ev a b .neq= !decide (a=b):=nr rfl
theorem ap4(a b:Int):QM.ev a b .lss=decide (a<b):=nr rfl
theorem ap5(a b:Int):QM.ev a b .leq=decide (a<=b):=nr rfl
theorem ap6(a b:Int):QM.ev a b .gtr=decide (b<a):=nr rfl
theorem ap7(a b:Int):QM.ev a b .geq=decide (b<=a):=nr rfl
theorem ap8(k k1 k2:IntKind)(a b:Int):nJ (.int k) (.int k1 a) (.int k2 b)=decide (a=b):=nr rfl
theorem ak'(a b:Bool):nJ .bool (.bool a) (.bool b)=(a==b):=nr rfl
theorem ap9(a b:List UInt8):nJ .str (.str a) (.str b)=decide (a=b):=nr rfl
theorem awp(l:List ES)(xs ys:List SV):nJ (.st l) (.agg xs) (.agg ys)=GY l xs ys:=nr rfl
theorem ap'(n w:Nat)(e:ES)(n1 w1 n2 w2:Nat)(f g:Nat->SV):nJ (.arr n w e) (.arr n1 w1 f) (.arr n2 w2 g)=(z0p n).all λi=>nJ e (f i) (g i):=nr rfl
theorem ala(xs ys:List SV):GY [] xs ys=true:=nr rfl
theorem aep(e:ES)(l:List ES)(x y:SV)(xs ys:List SV):GY (e::l) (x::xs) (y::ys)=(nJ e x y&&GY l xs ys):=nr rfl
theorem ay7(f:FuncId)(H:List SV->List ay->Call)(Γ:FH)(g:FuncId)(args:List SV)(m:List ay):FH.on f H Γ g args m=if g=f then H args m else Γ g args m:=nr rfl
theorem aqa(g:FuncId)(args:List SV)(m:List ay):FH.none g args m= .no:=nr rfl
theorem ay8(f:FuncId){α ρ:Type}(A:DA α)(R:DR ρ)(pre:α->Prop)(F:α->ρ)(Γ:FH)(g:FuncId)(args:List SV)(m:List ay):FH.rd f A R pre F Γ g args m=if g=f then .ro (A.decP m args/\pre (A.aG m args)) (R.aA (F (A.aG m args))) else Γ g args m:=nr rfl
theorem ay9(f:FuncId){α ρ:Type}(A:DA α)(R:DP ρ)(pre:α->Prop)(F:α->ρ)(Γ:FH)(g:FuncId)(args:List SV)(m:List ay):FH.pz f A R pre F Γ g args m=if g=f then .ro (A.aA (A.aG [] args)=args/\pre (A.aG [] args)) (R.aA (F (A.aG [] args))) else Γ g args m:=nr rfl
theorem ay'(f:FuncId){α ρ:Type}(A:DA α)(R:DP ρ)(pre:α->Prop)(F:α->ρ)(Γ:FH)(g:FuncId)(args:List SV)(m:List ay):FH.fz f A R pre F Γ g args m=if g=f then .is (A.decP m args/\pre (A.aG m args)) (R.aA (F (A.aG m args))) (iw m) else Γ g args m:=nr rfl
theorem Un:iw []=[]:=nr rfl
theorem Qk(x:ay)(m:List ay):iw (x::m)= .dead::iw m:=nr rfl
theorem aza(f:FuncId){α:Type}(A:DA α)(pre:α->Prop)(F:α->SV)(M:α->List ay)(Γ:FH)(g:FuncId)(args:List SV)(m:List ay):FH.mk f A pre F M Γ g args m=if g=f then .is (A.decP m args/\pre (A.aG m args)) (ren (IY m.length) (F (A.aG m args))) (m++(M (A.aG m args)).map (dM (IY m.length))) else Γ g args m:=nr rfl
theorem azb(f:FuncId){σ α ρ:Type}(T:TypeId)(d:DT σ)(A:DA α)(R:DR ρ)(pre:σ->α->Prop)(F:σ->α->ρ)(S:σ->α->σ)(Γ:FH)(g:FuncId)(i:Nat)(p:List Step)(o:Nat)(rest:List SV)(m:List ay):
  FH.mt f T d A R pre F S Γ g (.ptr i p o::rest) m=if g=f then(match ah m i with
    | .blk T' c=> .is (T'=T/\p=[]/\o=0/\d.aA (d.aG [] c)=c/\A.aA (A.aG [] rest)=rest/\pre (d.aG [] c) (A.aG [] rest)) (R.aA (F (d.aG [] c) (A.aG [] rest))) (m.set i (.blk T (d.aA (S (d.aG [] c) (A.aG [] rest)))))
    |_=> .no) else Γ g (.ptr i p o::rest) m:=nr rfl
theorem aer(f:FuncId){σ α ρ:Type}(T:TypeId)(d:DT σ)(A:DA α)(R:DR ρ)(pre:σ->α->Prop)(F:σ->α->ρ)(S:σ->α->σ)(Γ:FH)(g:FuncId)(args:List SV)(m:List ay)(h:g≠f):
  FH.mt f T d A R pre F S Γ g args m=Γ g args m:=if_neg h
attribute [go_sem ↓] look_nil ako ac7 aB7 aB8 ac8 ac9 ac' XP apM akp apN
attribute [go_sem ↓] akq apO akr ada XQ awd adl XV XW adn akw akx
attribute [go_sem ↓] aky ado adp XY XZ adq adr ads adt adu adv adw
attribute [go_sem ↓] akz adx Qe ady adz awe adA adB X0 adC X6 akJ
attribute [go_sem ↓] apS apT apU awi awj X7 adN adO adP akM adQ akN
attribute [go_sem ↓] akO adR apW apX X8 X9 Uc
attribute [go_sem] adH awf adI adJ apP akE akF List.isEmpty_cons List.isEmpty_nil
attribute [go_sem] av2 ace apj Xf av3 acf av4 acg apk Xg av5 ach
attribute [go_sem] av6 aci av7 acj apl Xh apm Xi av8 acn ay1 ajK ajL TU
attribute [go_sem] apn Xj apo Xk apq Xl apr Xm aps Xn apt Xo
attribute [go_sem] apu av9 av' apv ajM aco acp Xp acr Xq acs acu
attribute [go_sem] Xr acv acw acy Xt Xu acz ajN TV Xv Xw Xx Xy
attribute [go_sem] acD acE XB acF acG akI Xz XA acA acB acC XD ajO ajP ajQ ajR ajS ajT
attribute [go_sem] apw apx apy XE XF XG apz ajU ajV acH apA ajW
attribute [go_sem] apB ajX ajY acI apC ajZ aj0 aj1 aj2 acJ aj3 acK
attribute [go_sem] aj6 acL aj7 acM aj8 acN aj9 acO aj' acP apD akb akc
attribute [go_sem] apE apF apG apH apI awc acQ akd acR apJ acS ake
attribute [go_sem] apK akf ac3 ac4 X5 adL akH
attribute [go_sem ↓] akG apQ apR awg awh
attribute [go_sem ↓] akA adD adE akB akC akD adK X4 adF adG X3 TY bytesOf_map Ua Qg
attribute [go_sem] akg akh acT acU aki akj akk apL XH acV XI XJ acW
attribute [go_sem] acX acY XK acZ akl akm akn ac0 XL XM XO TW ac1
attribute [go_sem] ac2 ac5 ac6 adb ade XR aks akt adf adg XT aku
attribute [go_sem] adh adi XU akv adk awk ay2 ay3 akK awl ay4 ay5 awn apV awm adM
attribute [go_sem] akL akP adS akQ akR adT akS akT akU adU adV akV apY
attribute [go_sem] Ya adW adX adY adZ ad1 ad2 akW akX akY ad3 akZ
attribute [go_sem] ad4 Yb Ud ad5 upto_succ awo apZ ad6 Yc ak0 ad7 ak1
attribute [go_sem] ad8 ak2 ad9 ak3 ak4 aea aeb ak5 ap0 Yd aec aed aee
attribute [go_sem] aef aeg aeh ak6 ak7 ak8 ak9 aei Ye
section waits
variable {α:Type} {Γ:FH} {n0:Nat}
def wX.{u}{β:Sort u}(x:β):β:=x
theorem awq.{u}{β:Sort u}(x:β):wX x=x:=Eq.trans (Eq.refl x) (Eq.refl x)
theorem Yu{c:JC}{Q:Ex->Fr->List ay->Prop}{O O':Fr}{m m':List ay}(h1:wX O=O')(h2:wX m=m'):JC.wp Γ n0 c Q O m=JC.wp Γ n0 c Q O' m':=by subst h1;subst h2;rfl
theorem Uo{keep mod:List Nat}{c:JC}{Q:Ex->Fr->List ay->Prop}{hd:Hide Γ c Q}{O O':Fr}{m m':List ay}(h1:wX O=O')(h2:wX m=m'):JC.wpL Γ n0 keep mod c Q hd O m=JC.wpL Γ n0 keep mod c Q hd O' m':=by subst h1;subst h2;rfl
theorem Ur{dr want:Bool}{s:Nat}{l:SL}{K:Fr->List ay->Prop}{O O':Fr}{m m':List ay}(h1:wX O=O')(h2:wX m=m'):SL.Vu Γ dr s want l K O m=SL.Vu Γ dr s want l K O' m':=by subst h1;subst h2;rfl
theorem Yv{dr:Bool}{l:SL}{K:Fr->List ay->Prop}{O O':Fr}{m m':List ay}(h1:wX O=O')(h2:wX m=m'):SL.wp Γ dr l K O m=SL.wp Γ dr l K O' m':=by subst h1;subst h2;rfl
theorem Yw{m m':List ay}{l:SL}{y:aS}{O O':Fr}{K:Bool->Prop->Prop}{acc acc':Prop}(h1:wX O=O')(h2:wX m=m')(h3:wX acc=acc'):SL.vc Γ m l y O K acc=SL.vc Γ m' l y O' K acc':=by subst h1;subst h2;subst h3;rfl
theorem Us{A:Ans α}{m:List ay}{n:Nat}{ag:Bool}{K:SV->α}{x x':SV}(h:wX x=x'):nK A m n ag K x=nK A m n ag K x':=by subst h;rfl
theorem Yx{m:List ay}{n:Nat}{ag:Bool}{K:SV->Prop}{x x':SV}(h:wX x=x'):peek m n ag K x=peek m n ag K x':=by subst h;rfl
theorem Yy{m:List ay}{n:Nat}{v:SV}{K:List ay->Prop}{x x':SV}(h:wX x=x'):JU m n v K x=JU m n v K x':=by subst h;rfl
theorem Ut{A:Ans α}{s:Step}{off:Nat}{K:SV->α}{x x':SV}(h:wX x=x'):stepG A s off K x=stepG A s off K x':=by subst h;rfl
theorem Uu{c c':Call}{K:SV->Prop->Prop}{acc:Prop}(h:wX c=c'):Bc c K acc=Bc c' K acc:=by subst h;rfl
theorem JW{c c':Call}{m:List ay}{K:SV->List ay->Prop}(h:wX c=c'):Call.hook c m K=Call.hook c' m K:=by subst h;rfl
theorem Yz{A:Ans α}{m:List ay}{k:MK}{K:SV->α}{x x':List SV}(h:wX x=x'):G9 A m k x K=G9 A m k x' K:=by subst h;rfl
theorem YA{m:List ay}{k:MK}{K:SV->List ay->Prop}{x x':List SV}(h:wX x=x'):mX m k x K=mX m k x' K:=by subst h;rfl
theorem Uw{k:Nat}{T:TypeId}{w:Nat}{K:Fr->List ay->Prop}{O:Fr}{m:List ay}{x x':SV}(h:wX x=x'):yY k T w K O m x=yY k T w K O m x':=by subst h;rfl
theorem YB{rs:List ResultVar}{P:Program}{n0:Nat}{res:SV}{m1:List ay}{e e':Ex}{O:Fr}{m:List ay}(h:wX e=e'):IW rs P n0 res m1 e O m=IW rs P n0 res m1 e' O m:=by subst h;rfl
attribute [congr] Yz YA Yu Uo Yv Ur Yw Us Yx Yy Ut Uu JW Uw YB
attribute [go_sem] awq
end waits
end W
attribute [go_sem ↓] W.ay9 W.ay' W.ay7 W.aqa W.ay8 W.aza W.azb W.aer
attribute [go_sem] W.Yo W.Yp W.ael W.aem W.aen W.aeo W.Ue W.Uf W.Yf W.Ug W.Uh W.Yg W.Yh W.ap1 W.EW W.EX W.Qh W.Ls W.Qi W.Lu W.Yi W.Yj W.Ui W.Uj W.aej W.Yk W.aek W.Yl W.Ym W.Yn W.Uk W.Ul W.Yq W.Um W.Yr W.Yt W.Qj W.ay6 W.ap2 W.ap3 W.ap4 W.ap5 W.ap6 W.ap7 W.ap8 W.ak' W.ap9 W.awp W.ap' W.ala W.aep
attribute [go_sem] W.Un W.Qk avX avY ajE ay0 ape auL anR auM anS Dc IU ahg vU auK auN anL auH anM anN auI anO ahi anP auJ ahj anQ ahk
attribute [go_sem ↓] FT Ux YD qo eo en opF fZ YE lI vY.evG anT auO auP aes x9 aa6 Dh Uy gU lX aiC D5
attribute [go_sem] Int.cast_ofNat_Int z1c true_implies false_implies not_true_eq_false not_false_eq_true forall_const implies_true SV.int.injEq SV.bool.injEq List.append_assoc List.append_nil z1f Bool.not_eq_false' decide_eq_true_eq decide_eq_false_iff_not z02 and_true true_and and_self if_true if_false true_or or_true
attribute [go_sem] decide_true decide_false ahl ahm Ai ne_eq z1j z04
attribute [go_sem] P7 Lj P8 TP List.map_id'
attribute [go_sem] ab5 ajj ajk CP ab6 ayW ayX avU avV ao4 Oc ajr
attribute [go_sem] ayY ayZ avW ao8 ao9 ajx ajy
attribute [go_sem] dK ajz apa ajA ao7 ajv ajw Zj ajl ajm ZT ajn ab7 ab8 ajo ajp ab9 acd ajq ao5 ajs ajt aju Ll Lm JL JM kU kT JO JQ Lp Lr ao6 Qa Qb Qc Qd apb apc ajB ajC ajD apd apf avZ av1 ajF List.map_append
end Go.Sx
namespace Go.Sx
open Go
def tb.{u}{α:Type u}(n:Nat)(f:Nat->α):List α:=(z0p n).map f
section
universe u v
variable {α:Type u} {β:Type v} {n:Nat} {f g:Nat->α}
theorem jI:(tb n f).length=n:=by simp[tb]
theorem nZ(i:Nat):(tb n f)[i]? =if i<n then some (f i) else none:=by
 unfold tb;rw[List.getElem?_map];by_cases h:i<n
 ·rw[if_pos h,List.getElem?_range h];rfl
 ·rw[if_neg h,z16 (by simpa using h)];rfl
theorem fO{i:Nat}{d:α}(h:i<n):(tb n f).getD i d=f i:=by rw[z05,nZ,if_pos h];rfl
theorem I7(i:Nat)(x:α):(tb n f).set i x=tb n λk=>if k=i then x else f k:=by
 apply z0f;intro j;rw[z1e,nZ,nZ,jI];by_cases hj:j<n
 ·by_cases e:i=j
  ·subst e;simp[hj]
  ·simp[e,hj,show ¬ j=i from λh=>e h.symm]
 ·by_cases e:i=j
  ·subst e;simp[hj]
  ·simp[e,hj]
theorem bZ(h:∀ i,i<n->f i=g i):tb n f=tb n g:=by
 apply z0f;intro j;rw[nZ,nZ];split
 ·rename_i hj;rw[h j hj]
 ·rfl
theorem uH(h:α->β):(tb n f).map h=tb n λk=>h (f k):=by simp[tb,Function.comp_def]
theorem CO:tb (n+1) f=tb n f++[f n]:=by simp[tb,List.range_succ]
theorem ZB:tb 0 f=[]:=rfl
theorem mP(x:α):z0o n x=tb n λ_=>x:=by apply z0f;intro j;rw[List.getElem?_replicate,nZ]
theorem axG(l:List α)(d:α):l=tb l.length λi=>l.getD i d:=by
 apply z0f;intro j;rw[nZ];by_cases h:j<l.length
 ·rw[if_pos h,z0j h];simp[z05,h]
 ·rw[if_neg h,z16 (by omega)]
end
theorem Hl(r:Nat->Option Nat){n:Nat}{f:Nat->SV}:dW r (tb n f)=tb n λk=>ren r (f k):=by
 have:∀ l:List SV,dW r l=l.map (ren r):=by
  intro l
  induction l with
  |nil=>rfl
  |cons x l ih=>simp only[dW,z0b,ih]
 rw[this,uH]
theorem I5{n i:Nat}{f:Nat->ay}(h:i<n):ah (tb n f) i=f i:=fO h
theorem RP{n:Nat}{f:Nat->Bool}:(tb n λb=>SV.bool (f b))=(tb n f).map DT.bool.aA:=by rw[uH];rfl
attribute [go_sem] jI
end Go.Sx
namespace Go.Sx
open Go
variable {P:Program}
def placeOf:List Step->Nat
 |[.idx k _]=>k
 |_=>0
theorem aeu(k n:Nat):placeOf [.idx k n]=k:=nr rfl
attribute [go_sem] aeu
def FH.mp(f:FuncId){σ α ρ:Type}(T:TypeId)(n w:Nat)(d:DT σ)(A:DA α)(R:DR ρ)(pre:σ->Nat->α->Prop)(F:σ->Nat->α->ρ)(S:σ->Nat->α->σ)(Γ:FH):FH:=
 FH.on f (λargs m=>match args with
  |x::rest=>match x with
   | .ptr i p o=>match ah m i with
    | .blk T' c=> .is (T'=T/\p=[.idx (placeOf p) n]/\o=placeOf p*w/\d.aA (d.aG [] c)=c/\A.aA (A.aG [] rest)=rest/\pre (d.aG [] c) (placeOf p) (A.aG [] rest)) (R.aA (F (d.aG [] c) (placeOf p) (A.aG [] rest))) (m.set i (.blk T (d.aA (S (d.aG [] c) (placeOf p) (A.aG [] rest)))))
    |_=> .no
   |_=> .no
  |[]=> .no) Γ
theorem FH.ayr{f:FuncId}{σ α ρ:Type}{T:TypeId}{n w:Nat}{d:DT σ}{A:DA α}{R:DR ρ}{pre:σ->Nat->α->Prop}{F:σ->Nat->α->ρ}{S:σ->Nat->α->σ}{Γ:FH}(hf:iF P f=true)
  (h:∀ s k y,pre s k y->FnOK P f (.ptr 0 [.idx k n] (k*w)::A.aA y) [.blk T (d.aA s)] (R.aA (F s k y)) [.blk T (d.aA (S s k y))]) (hΓ:aW P Γ):aW P (FH.mp f T n w d A R pre F S Γ):=
 FH.xU (λargs m=>by
  cases args with
  |nil=>trivial
  |cons x rest=>
   cases x with
   |ptr i p o=>
    simp only;cases hm:ah m i with
    |dead=>trivial
    |vec T' w l=>trivial
    |mp ek ev l=>trivial
    |blk T' c=>
     generalize hk:placeOf p=k;rintro⟨rfl,rfl,rfl,h1,h2,h3⟩;refine⟨hf,?_⟩;generalize hs:d.aG [] c=s at h1 h3 ⊢;generalize hy:A.aG [] rest=y at h2 h3 ⊢;subst h1;subst h2;have hi:i<m.length:=by
      rcases z15 i m.length with hi|hi
      ·exact hi
      ·rw[dh hi] at hm;cases hm
     have key:=Bv (args:= .ptr i [.idx k n] (k*w)::A.aA y) (m:=m) (h s k y h3) [i] (by simp) (by simp[hm,ay.iH]) (by simp only[dW,A.ren,Sx.ren,kS,kK,z1b,BEq.rfl,Bool.true_or,if_true,z1a])
      (by simp only[lG,z0b,List.map_nil,hm,dM,d.ren]) (by simp) (by intro j hj;simp at hj;subst hj;rfl)
     rw[R.ren] at key;have hmm:fA [i] m [.blk T' (d.aA (S s k y))]=m.set i (.blk T' (d.aA (S s k y))):=by simp[fA,ah,dM,d.ren]
     rwa [hmm] at key
   |_=>trivial) hΓ
namespace W
theorem azc(f:FuncId){σ α ρ:Type}(T:TypeId)(n w:Nat)(d:DT σ)(A:DA α)(R:DR ρ)(pre:σ->Nat->α->Prop)(F:σ->Nat->α->ρ)(S:σ->Nat->α->σ)(Γ:FH)(g:FuncId)(i:Nat)(p:List Step)(o:Nat)(rest:List SV)(m:List ay):
  FH.mp f T n w d A R pre F S Γ g (.ptr i p o::rest) m=if g=f then(match ah m i with
    | .blk T' c=> .is (T'=T/\p=[.idx (placeOf p) n]/\o=placeOf p*w/\d.aA (d.aG [] c)=c/\A.aA (A.aG [] rest)=rest/\pre (d.aG [] c) (placeOf p) (A.aG [] rest)) (R.aA (F (d.aG [] c) (placeOf p) (A.aG [] rest))) (m.set i (.blk T (d.aA (S (d.aG [] c) (placeOf p) (A.aG [] rest)))))
    |_=> .no) else Γ g (.ptr i p o::rest) m:=nr rfl
theorem aev(f:FuncId){σ α ρ:Type}(T:TypeId)(n w:Nat)(d:DT σ)(A:DA α)(R:DR ρ)(pre:σ->Nat->α->Prop)(F:σ->Nat->α->ρ)(S:σ->Nat->α->σ)(Γ:FH)(g:FuncId)(args:List SV)(m:List ay)(h:g≠f):
  FH.mp f T n w d A R pre F S Γ g args m=Γ g args m:=nr (if_neg h)
end W
attribute [go_sem ↓] W.azc W.aev
end Go.Sx
namespace Go.Sx
open Go
variable {α:Type} [DecidableEq α]
def yB(d:DT α)(l:List α):List (SV×SV):=l.map λp=>(d.aA p, .bool true)
def Ov(x:α)(l:List α):List α:=if x∈l then l else l++[x]
theorem Rf{x y:α}{l:List α}:y∈Ov x l↔y=x\/y∈l:=by
 unfold Ov;split
 ·rename_i h;constructor
  ·exact .inr
  ·rintro(rfl|h')
   ·exact h
   ·exact h'
 ·simp[or_comm]
omit [DecidableEq α] in
theorem vW{d:DT α}{y:α}{l:List α}:yB d (y::l)=(d.aA y, .bool true)::yB d l:=rfl
theorem SN{d:DT α}{e:ES}(he:∀ x y,nJ e (d.aA x) (d.aA y)=decide (x=y))(x:α):∀ l:List α,gG e (d.aA x) (.bool true) (yB d l)=yB d (Ov x l)
 |[]=>rfl
 |y::l=>by
  rw[vW,gG,he];by_cases h:x=y
  ·subst h;simp[Ov,vW]
  ·have ih:=SN he x l;simp only[h,decide_false,z1c,if_false];rw[ih];unfold Ov;by_cases h':x∈l
   ·simp[h,h',vW]
   ·simp[h,h',vW]
theorem MP{d:DT α}{e:ES}(he:∀ x y,nJ e (d.aA x) (d.aA y)=decide (x=y))(x:α):∀ l:List α,dQ e (d.aA x) (yB d l)=if x∈l then some (.bool true) else none
 |[]=>rfl
 |y::l=>by
  rw[vW,dQ,he];by_cases h:x=y
  ·subst h;simp
  ·have ih:=MP he x l;simp[h,ih]
theorem aht{d:DT α}{e:ES}(he:∀ x y,nJ e (d.aA x) (d.aA y)=decide (x=y))(x:α)(l:List α):obB (dQ e (d.aA x) (yB d l))=decide (x∈l):=by rw[MP he];by_cases h:x∈l<;>simp[h,obB]
end Go.Sx
namespace Go.Sx
open Go
variable {P:Program}
def DT.fM{α:Type}(wd':Nat)(d:DT α):DT (List α×Nat) where
 aI:=([],0)
 aA:=λy=> .fM wd' d.aI d.aA y.1 y.2 [] 0
 aG:=λm x=>match x with
  | .fM _ _ f l i _ _=>(l.map λy=>d.aG m (f y),i)
  |_=>([],0)
 decP:=λm x=>match x with
  | .fM w' _ f l i p o=>w'=wd'/\p=[]/\o=0/\allL l λy=>d.decP m (f y)
  |_=>False
 ok:=fun{J m w} g {x} h {cs} hs=>by
  have hcl:∀ {y:SV} {cs:List Value},au y J.cl cs->au y J cs:=λh=>au.mono _ J.AZ h;cases x with
  |fM w' dd f l i p o=>
   obtain⟨rfl,rfl,rfl,h⟩:=h;simp only[au] at hs ⊢;obtain⟨b,off,T',fz,cur,h1,h2,h3,h4,h5,h6⟩:=hs;refine⟨b,off,T',fz,cur,h1,by rw[z00];exact h2,vH g _ _ h3,h4,h5,?_⟩
   have hx:l.getD i dd=l[i]:=by simp[z05,h2]
   rw[hx] at h6;have hy:(l.map λy=>d.aG m (f y)).getD i d.aI=d.aG m (f l[i]):=by simp[z05,h2]
   rw[hy];exact d.ok g (h _ (z0e h2)) (hcl h6)
  |_=>exact h.elim
 agg:=fun{m x} h=>by cases x<;>first|exact h.elim|rfl
 vE:=λm y=>by
  have:(λz=>d.aG m (d.aA z))=id:=by funext z;exact d.vE m z
  simp only[this,z0s]
 pE:=λm y=>⟨rfl,rfl,rfl,λz _=>d.pE m z⟩
 ren:=λr y=>rfl
 kill:=λi y=>rfl
 val:=λy=>rfl
theorem ahu{α:Type}(w:Nat)(d:DT α)(l:List α)(i:Nat):(DT.fM w d).aA (l,i)= .fM w d.aI d.aA l i [] 0:=nr rfl
theorem abl{α:Type}(m:List ay)(w w':Nat)(d:DT α){O:Type}(x:O)(f:O->SV)(l:List O)(i:Nat)(p o):(DT.fM w d).aG m (.fM w' x f l i p o)=(l.map λy=>d.aG m (f y),i):=nr rfl
theorem abm{α:Type}(m:List ay)(w w':Nat)(d:DT α){O:Type}(x:O)(f:O->SV)(l:List O)(i:Nat)(p o):(DT.fM w d).decP m (.fM w' x f l i p o)=(w'=w/\p=[]/\o=0/\allL l λy=>d.decP m (f y)):=nr rfl
namespace W
end W
attribute [go_sem] ahu abl abm
structure DL(α:Type) where
 aI:α
 aA:α->List SV
 aG:List ay->List SV->α
 decP:List ay->List SV->Prop
 ok:∀ {J:Env} {m:List ay} {w:World},Good J m w->∀ {xs:List SV},decP m xs->∀ {cs:List Value},bQ xs J cs->bQ (aA (aG m xs)) (gq J m w).cl cs
 ren:∀ (r:Nat->Option Nat) (y:α),dW r (aA y)=aA y
 kill:∀ (i:Nat) (y:α),dI i (aA y)=aA y
 vE:∀ (m:List ay) (y:α),aG m (aA y)=y
 pE:∀ (m:List ay) (y:α),decP m (aA y)
def DL.nil:DL Unit:=⟨(),λ_=>[],λ_ _=>(),λ_ xs=>match xs with|[]=>True|_=>False,fun{J m w} g {xs} h {cs} hs=>by
 cases xs with
 |nil=>exact hs
 |cons=>exact h.elim,λ_ _=>rfl,λ_ _=>rfl,λ_ _=>rfl,λ_ _=>trivial⟩
def DL.cons{α β:Type}(d:DT α)(r:DL β):DL (α×β) where
 aI:=(d.aI,r.aI)
 aA:=λy=>d.aA y.1::r.aA y.2
 aG:=λm xs=>match xs with
  |x::xs=>(d.aG m x,r.aG m xs)
  |[]=>(d.aI,r.aI)
 decP:=λm xs=>match xs with
  |x::xs=>d.decP m x/\r.decP m xs
  |[]=>False
 ok:=fun{J m w} g {xs} h {cs} hs=>by
  cases xs with
  |nil=>exact h.elim
  |cons x xs=>
   obtain⟨h1,h2⟩:=h;simp only[bQ] at hs ⊢;obtain⟨a,b,e1,e2,e3⟩:=hs;exact⟨a,b,e1,d.ok g h1 e2,r.ok g h2 e3⟩
 ren:=λs y=>by simp only[dW,d.ren,r.ren]
 kill:=λs y=>by simp only[dI,d.kill,r.kill]
 vE:=λm y=>by simp only[d.vE,r.vE]
 pE:=λm y=>⟨d.pE m y.1,r.pE m y.2⟩
def DT.st{α:Type}(L:DL α):DT α where
 aI:=L.aI
 aA:=λy=> .agg (L.aA y)
 aG:=λm x=>match x with
  | .agg xs=>L.aG m xs
  |_=>L.aI
 decP:=λm x=>match x with
  | .agg xs=>L.decP m xs
  |_=>False
 ok:=fun{J m w} g {x} h {cs} hs=>by
  cases x with
  |agg xs=>
   simp only[au] at hs ⊢;exact L.ok g h hs
  |_=>exact h.elim
 agg:=fun{m x} h=>by cases x<;>first|exact h.elim|rfl
 vE:=λm y=>L.vE m y
 pE:=λm y=>L.pE m y
 ren:=λr y=>by simp only[Sx.ren,L.ren]
 kill:=λi y=>by simp only[Sx.kill,L.kill]
 val:=λy=>rfl
end Go.Sx
namespace Go.Sx
open Go
variable {P:Program}
def DT.Es{α:Type}(wd':Nat)(d:DT α):DT (Option (List α)) where
 aI:=none
 aA:=λo=>match o with
  |none=> .bF
  |some l=>(DT.list wd' d).aA l
 aG:=λm x=>match x with
  | .bF=>none
  |_=>some ((DT.list wd' d).aG m x)
 decP:=λm x=>(DT.list wd' d).decP m x
 ok:=fun{J m w} g {x} h {cs} hs=>by
  cases x with
  |bF=>exact hs
  |lst=>exact(DT.list wd' d).ok g h hs
  |vec=>exact(DT.list wd' d).ok g h hs
  |jO=>exact(DT.list wd' d).ok g h hs
  |lit=>exact(DT.list wd' d).ok g h hs
  |_=>exact h.elim
 agg:=fun{m x} h=>by
  cases x with
  |bF=>rfl
  |lst=>exact(DT.list wd' d).agg h
  |vec=>exact(DT.list wd' d).agg h
  |jO=>exact(DT.list wd' d).agg h
  |lit=>exact(DT.list wd' d).agg h
  |_=>exact h.elim
 vE:=λm o=>by
  cases o with
  |none=>rfl
  |some l=>exact congrArg some ((DT.list wd' d).vE m l)
 pE:=λm o=>by
  cases o with
  |none=>exact trivial
  |some l=>exact(DT.list wd' d).pE m l
 ren:=λr o=>by
  cases o with
  |none=>rfl
  |some l=>exact(DT.list wd' d).ren r l
 kill:=λi o=>by
  cases o with
  |none=>rfl
  |some l=>exact(DT.list wd' d).kill i l
 val:=λo=>by cases o<;>rfl
variable {α:Type}
theorem ahv(w:Nat)(d:DT α):(DT.Es w d).aA none= .bF:=nr rfl
theorem ahw(w:Nat)(d:DT α)(l:List α):(DT.Es w d).aA (some l)= .lst w d.aI d.aA l:=nr rfl
theorem auT(w:Nat)(d:DT α)(m:List ay)(o:Option (List α)):(DT.Es w d).aG m ((DT.Es w d).aA o)=o:=nr ((DT.Es w d).vE m o)
theorem auU(w:Nat)(d:DT α)(m:List ay)(o:Option (List α)):(DT.Es w d).decP m ((DT.Es w d).aA o)=True:=eq_true ((DT.Es w d).pE m o)
theorem abn(w:Nat)(d:DT α)(m:List ay):(DT.Es w d).aG m .bF=none:=nr rfl
theorem abo(w:Nat)(d:DT α)(m:List ay):(DT.Es w d).decP m .bF=True:=nr rfl
theorem ahx(w:Nat)(d:DT α)(m:List ay)(i n:Nat):(DT.Es w d).aG m (.vec i n)=some ((DT.list w d).aG m (.vec i n)):=nr rfl
theorem ahy(w:Nat)(d:DT α)(m:List ay)(i n:Nat):(DT.Es w d).decP m (.vec i n)=(DT.list w d).decP m (.vec i n):=nr rfl
theorem ahz(w w':Nat)(d:DT α)(m:List ay){O:Type}(x:O)(f:O->SV)(l:List O):(DT.Es w d).aG m (.lst w' x f l)=some ((DT.list w d).aG m (.lst w' x f l)):=nr rfl
theorem ahA(w w':Nat)(d:DT α)(m:List ay){O:Type}(x:O)(f:O->SV)(l:List O):(DT.Es w d).decP m (.lst w' x f l)=(DT.list w d).decP m (.lst w' x f l):=nr rfl
theorem abp(w:Nat)(d:DT α)(m:List ay)(o:Option (List α)):(DT.list w d).aG m ((DT.Es w d).aA o)=o.getD []:=nr (by
 cases o with
 |none=>rfl
 |some l=>exact(DT.list w d).vE m l)
theorem abq(w:Nat)(d:DT α)(m:List ay)(o:Option (List α)):(DT.list w d).decP m ((DT.Es w d).aA o)=True:=eq_true (by
 cases o with
 |none=>exact trivial
 |some l=>exact(DT.list w d).pE m l)
theorem anV(w:Nat)(d:DT α)(r:Nat->Option Nat)(o:Option (List α)):ren r ((DT.Es w d).aA o)=(DT.Es w d).aA o:=nr ((DT.Es w d).ren r o)
theorem ahB(w:Nat)(d:DT α)(i:Nat)(o:Option (List α)):kill i ((DT.Es w d).aA o)=(DT.Es w d).aA o:=nr ((DT.Es w d).kill i o)
theorem anW(w:Nat)(d:DT α)(o:Option (List α)):((DT.Es w d).aA o).isVal=true:=nr ((DT.Es w d).val o)
theorem anX(w:Nat)(d:DT α)(o:Option (List α)):((DT.Es w d).aA o).isAgg=false:=nr (by cases o<;>rfl)
theorem auV(w:Nat)(d:DT α)(o:Option (List α)):wd ((DT.Es w d).aA o)=1:=nr (by cases o<;>rfl)
theorem anY(w:Nat)(d:DT α)(o:Option (List α)):fG ((DT.Es w d).aA o)=[]:=nr (by cases o<;>rfl)
attribute [go_sem] anY auV ahv ahw auT auU abn abo ahx ahy ahz ahA abp abq anV ahB anW anX
end Go.Sx
namespace Go.Sx
open Go
variable {P:Program}
abbrev Fw(ro:Option Nat):Fence:= {Fence.wide with round:=ro}
theorem aiK{ro:Option Nat}{n:Nat}{f:FuncId}{args:Array Value}{w:World}{R:Ending->World->Prop}(h:Calls P f args w R):CallsIn (Fw ro) n P f args w R:=
 (callsIn_wide (n:=n)).2 h
theorem aoJ{ro:Option Nat}{n:Nat}{row:String}{args:Array Value}{w:World}{R:Value->World->Prop}(h:Rows P row args w R):RowsIn (Fw ro) n P row args w R:=
 λc cs _=>let ⟨v,w',r,s⟩:=h c cs;⟨v,w',r,stepsIn_wide.2 s⟩
theorem Ib{ro:Option Nat}{n:Nat}{o:Oper}{a:Act}{w:World}{K:Act->World->Prop}{Q:Exit->Act->World->Prop}(hd:∀ c,o.op≠ .defer c)(h:o.wp P a w K Q):o.wpIn (Fw ro) n P a w K Q:=by
 refine⟨λ_ _=>trivial,?_⟩;rw[z1k _ _ _ hd];unfold Oper.wp at h;generalize (execOp a.eval o).run P w=r at h ⊢;cases r with
 |ok nx w'=>
  cases nx<;>simp only[Oper.upon] at h<;>simp only[Oper.uponIn]<;>first
   |exact h
   |exact⟨(λe=>by cases e),aiK h⟩
   |exact⟨(λe=>by cases e),aoJ h⟩
 |halt x w'=>cases x<;>simp only[Oper.upon] at h<;>simp only[Oper.uponIn]<;>exact h
theorem Ic{ro:Option Nat}{n:Nat}{ops:Array Oper}{Q:Exit->Act->World->Prop}(hL:¬ LetsOut Q):∀ (l:List Oper) (a:Act) (w:World),(∀ o∈l,∀ c,o.op≠ .defer c)->wpList P ops Q l a w->wpListIn (Fw ro) n P ops Q l a w
 |[],a,w,_,h=>h
 |o::l,a,w,hd,h=>by
  simp only[wpList,wpListIn] at h ⊢;split
  ·rename_i hw;rw[if_pos hw] at h;exact Ib (hd o (by simp)) (Oper.wp_mono (λa' w' h'=>Ic hL l a' w' (λo' ho'=>hd o' (by simp[ho'])) h') (h.resolve_right λe=>hL e.2))
  ·rename_i hw;rw[if_neg hw] at h;exact⟨λ_ _=>trivial,Ic hL l _ _ (λo' ho'=>hd o' (by simp[ho'])) h⟩
theorem EP{ro:Option Nat}{n:Nat}{ops:Array Oper}{md:Region.Mode}{Q:Exit->Act->World->Prop}(hL:¬ LetsOut Q)(hd:∀ o∈ops.toList,∀ c,o.op≠ .defer c):∀ (fuel:Nat) (listed:Array Bool) (a:Act) (w:World),wpAny P md ops Q fuel listed a w->wpAnyIn (Fw ro) n P md ops Q fuel listed a w
 |0,listed,a,w,h=>h
 |fuel+1,listed,a,w,h=>by
  simp only[wpAny,wpAnyIn] at h ⊢;refine⟨h.1,λi hi=> ?_⟩;have h':=h.2 i hi;unfold wpOp at h';unfold wpOpIn;cases ho:ops[i]? with
  |none=>rw[ho] at h';exact EP hL hd fuel _ _ _ h'
  |some o=>
   rw[ho] at h';simp only at h' ⊢;have hm:o∈ops.toList:=by rw[<- z0n] at ho;exact z19 ho
   split
   ·rename_i hw;rw[if_pos hw] at h';exact Ib (hd o hm) (Oper.wp_mono (λa' w' h''=>EP hL hd fuel _ a' w' h'') (h'.resolve_right λe=>hL e.2))
   ·rename_i hw;rw[if_neg hw] at h';exact⟨λ_ _=>trivial,EP hL hd fuel _ _ _ h'⟩
theorem jX{ops:Array Oper}{o:Oper}{io:dA}(h:bW P ops o=some io):∀ c,o.op≠ .defer c:=by intro c hc;unfold bW at h;rw[hc] at h;simp only[zF,eX,zG,wo,Option.map_none] at h;split at h<;>first|(cases h;done)|(rename_i e;simp at e)
theorem mapM_each{α β:Type _}{f:α->Option β}:∀ {l:List α} {r:List β},l.mapM f=some r->∀ o∈l,∃ y,f o=some y
 |[],_,_,o,ho=>by cases ho
 |x::l,r,h,o,ho=>by
  rw[z0d] at h;obtain⟨y,hy,h⟩:=bind_some h;obtain⟨ys,hys,h⟩:=bind_some h;rcases z0a.1 ho with e|e
  ·subst e;exact⟨y,hy⟩
  ·exact mapM_each hys o e
theorem F5{ops:Array Oper}{r:List dA}(h:ops.toList.mapM (bW P ops)=some r):∀ o∈ops.toList,∀ c,o.op≠ .defer c:=λo ho=>by obtain⟨y,hy⟩:=mapM_each h o ho;exact jX hy
theorem D6{quiet:FuncId->Bool}{ops ops':Array Oper}{r:List dA}(h:ops.toList.mapM (jM P quiet ops')=some r):∀ o∈ops.toList,∀ c,o.op≠ .defer c:=λo ho=>by obtain⟨y,hy⟩:=mapM_each h o ho;unfold jM at hy;simp only[z0c] at hy;obtain⟨z,hz,_⟩:=hy;exact jX hz
theorem D7{quiet:FuncId->Bool}{ops:Array Oper}{ord:List Nat}{r:List dA}(hp:Perm ops ord)(h:(bT ops ord).toList.mapM (jM P quiet (bT ops ord))=some r):∀ o∈ops.toList,∀ c,o.op≠ .defer c:=by intro o ho;obtain⟨i,hi⟩:=List.getElem?_of_mem ho;rw[z0n] at hi;have h1:=hp.at hi;rw[<- z0n] at h1;exact D6 h (renOp ord o) (z19 h1)
theorem aoK{ro:Option Nat}{rm:Nat}{Γ:Hook}{quiet:FuncId->Bool}{id:Nat}{ops:Array Oper}{Q:Exit->Act->World->Prop}(hL:¬ LetsOut Q)(hΓ:fB P Γ)(hmx:P.follows .mixedOrders=true){β:Base}{d:List Deferred}
  {aP:List dA} {σ:List SV} {m:List ay} {K:List SV->List ay->Prop} (hc:ops.toList.mapM (jM P quiet ops)=some aP) (hk:chk ops.toList aP=true) (h:iJ Γ (aug ops.toList aP) K σ m)
  (hQ:∀ σ' m' J' a' w',K σ' m'->Inv β J' m' w'->aH J' σ' a'->a'.defers=d->Q .normal a' w')
  {J:Env} {a:Act} {w:World} (hI:Inv β J m w) (hs:aH J σ a) (hd:a.defers=d):(z0t id ops true).wpIn (Fw ro) rm P Q a w:=
 wpIn_region_any hmx (EP hL (D6 hc) _ _ _ _ (D8 hΓ hc hk h hQ hI hs hd))
theorem aiL{ro:Option Nat}{rm:Nat}{Γ:Hook}{quiet:FuncId->Bool}{id:Nat}{ops:Array Oper}{ord:List Nat}{Q:Exit->Act->World->Prop}(hL:¬ LetsOut Q)(hΓ:fB P Γ)(hmx:P.follows .mixedOrders=true){β:Base}{d:List Deferred}
  {aP:List dA} {σ:List SV} {m:List ay} {K:List SV->List ay->Prop} (hpo:uN ops ord=true) (hc:(bT ops ord).toList.mapM (jM P (xk quiet) (bT ops ord))=some aP) (hk:chk (bT ops ord).toList aP=true)
  (h:iJ Γ (aug (bT ops ord).toList aP) K σ m)
  (hQ:∀ σ' m' J' a' w',K σ' m'->Inv β J' m' w'->aH J' σ' a'->a'.defers=d->Q .normal a' w')
  {J:Env} {a:Act} {w:World} (hI:Inv β J m w) (hs:aH J σ a) (hd:a.defers=d):(z0t id ops true).wpIn (Fw ro) rm P Q a w:=by
 have hp:=Aq hpo;refine wpIn_region_any hmx (EP hL (D7 hp hc) _ _ _ _ (hp.any _ _ (z0l ops.size false) a _ (by simp) (by simp) (λj hj=> ?_) ?_))
 ·have hno:∀ j,lst (z0l ops.size false) j=false:=by intro j;simp only[lst,z0u,z0x];split<;>rfl
  rw[hno,hno]
 ·have:=D8 hΓ hc hk h hQ hI hs hd
  rwa [hp.size] at this
theorem aiM{ro:Option Nat}{rm:Nat}{Γ:Hook}{quiet:FuncId->Bool}{id:Nat}{ops:Array Oper}{ord:List Nat}{Q:Exit->Act->World->Prop}(hL:¬ LetsOut Q)(hΓ:fB P Γ)(hmx:P.follows .mixedOrders=true){β:Base}{d0:List Deferred}
  {aP l lo:List dA} {d:Nat} {T:TypeId} {z:SV} {σ:List SV} {m:List ay} {K:List SV->List ay->Prop} (hpo:uN ops ord=true) (hc:(bT ops ord).toList.mapM (jM P (xk quiet) (bT ops ord))=some aP) (hg:BG P (xk quiet) (bT ops ord)=some (l,d,T,z,lo))
  (hdl:d<σ.length) (h:iJ Γ l (λσ' m'=>rE Γ lo K (σ'.set d (.ptr m'.length [] 0)) (m'++[.blk T z])) (σ.set d .junk) m)
  (hQ:∀ σ' m' J' a' w',K σ' m'->Inv β J' m' w'->aH J' σ' a'->a'.defers=d0->Q .normal a' w')
  {J:Env} {a:Act} {w:World} (hI:Inv β J m w) (hs:aH J σ a) (hd:a.defers=d0):(z0t id ops true).wpIn (Fw ro) rm P Q a w:=by
 have hp:=Aq hpo;refine wpIn_region_any hmx (EP hL (D7 hp hc) _ _ _ _ (hp.any _ _ (z0l ops.size false) a _ (by simp) (by simp) (λj hj=> ?_) ?_))
 ·have hno:∀ j,lst (z0l ops.size false) j=false:=by intro j;simp only[lst,z0u,z0x];split<;>rfl
  rw[hno,hno]
 ·have:=TB hΓ hg hdl h hQ hI hs hd
  rwa [hp.size] at this
theorem zH{n:Nat}{β:Base}{d:List Deferred}{Q:Ex->Fr->List ay->Prop}:¬ LetsOut (pK n β d Q):=by rintro⟨a,w,ex,O,m,J,h,_⟩;cases ex<;>exact h
theorem iO{ro:Option Nat}{rm:Nat}{c:Code}{Q Q':Exit->Act->World->Prop}{a:Act}{w:World}(hq:∀ e a w,Q e a w->Q' e a w)(h:c.wpIn (Fw ro) rm P Q a w):c.wpIn (Fw ro) rm P Q' a w:=wpIn_mono h hq
theorem JC.fH{ro:Option Nat}{rm:Nat}{Γ:FH}(hΓ:aW P Γ){quiet:FuncId->Bool}{n0 n:Nat}{β:Base}(hb:β.J.n<=n0){d:List Deferred}:∀ (jc:JC) (c:Code),comp P quiet c=some jc.flat->jc.wf n=true->∀ (Q:Ex->Fr->List ay->Prop) (O:Fr) (m:List ay),jc.wp Γ n0 Q O m->
  ∀ J a w,Inv β J m w->aJ n J O a->a.defers=d->c.wpIn (Fw ro) rm P (pK n β d Q) a w
 | .skip,c,hc,hw,Q,O,m,h,J,a,w,hi,hs,hd=>by
  obtain rfl:=Aj hc;exact wpIn_skip ⟨.norm,O,m,J,trivial,h,hi,hs,hd⟩
 | .ops l,c,hc,hw,Q,O,m,h,J,a,w,hi,hs,hd=>by
  obtain⟨id,ops,rfl,hl⟩:=zh hc;obtain⟨σ,h1,h2⟩:=hs;have k:=nG l O σ m (Q .norm) (λσ' m'=> ∃ O',Rep n σ' O'/\Q .norm O' m') hw h1 h (λσ' O' m' hr hq=>⟨O',hr,hq⟩);exact wpIn_region_list (Ic zH _ _ _ (F5 hl)<|jw hΓ.hook _ _ σ m _ hl k (λσ' m' J' a' w' ⟨O',hr,hq⟩ hi' hs' hd'=>⟨.norm,O',m',J',trivial,hq,hi',⟨σ',hr,hs'⟩,hd'⟩) J a w hi h2 hd)
 | .bJ l,c,hc,hw,Q,O,m,h,J,a,w,hi,hs,hd=>by
  obtain⟨id,ops,rfl,hf,hcase⟩:=ML hc;obtain⟨σ,h1,h2⟩:=hs;have k:=nG l O σ m _ (λσ' m'=> ∃ O',Rep n σ' O'/\x9 n0 m (Q .norm) O' m') hw h1 h (λσ' O' m' hr hq=>⟨O',hr,hq⟩);have k:iJ _ (l.flat none) _ σ m:=k;have fin:∀ σ' m' J' a' w',(∃ O',Rep n σ' O'/\x9 n0 m (Q .norm) O' m')->Inv β J' m' w'->aH J' σ' a'->a'.defers=d->pK n β d Q .normal a' w':=by rintro σ' m' J' a' w' ⟨O',hr,hq⟩ hi' hs' hd';obtain⟨O2,m2,J2,k1,k2,k3⟩:=Dx hq hi' ⟨σ',hr,hs'⟩ hb;exact⟨.norm,O2,m2,J2,trivial,k1,k2,k3,hd'⟩
  rcases hcase with⟨l0,hl0,hl,hk⟩|⟨ord,l0,hl0,hpo,hl,hk⟩
  ·rw[hl0] at k;exact aoK zH hΓ.hook hf hl hk k (β:=β) (d:=d) fin hi h2 hd
  ·rw[hl0] at k;exact aiL zH hΓ.hook hf hpo hl hk k (β:=β) (d:=d) fin hi h2 hd
 | .Dq l x T z lo,c,hc,hw,Q,O,m,h,J,a,w,hi,hs,hd=>by
  obtain⟨id,ops,ord,aP,rfl,hf,hpo,hi2,hg⟩:=MN hc;obtain⟨σ,h1,h2⟩:=hs;simp only[JC.wf,z01,decide_eq_true_eq] at hw;refine aiM zH hΓ.hook hf hpo hi2 hg (β:=β) (d0:=d) (by rw[h1.1];exact hw.2.2) (ZP hw.1 hw.2.1 hw.2.2 h1 h) ?_ hi h2 hd
  rintro σ' m' J' a' w' ⟨O',hr,hq⟩ hi' hs' hd';obtain⟨O2,m2,J2,k1,k2,k3⟩:=Dx hq hi' ⟨σ',hr,hs'⟩ hb;exact⟨.norm,O2,m2,J2,trivial,k1,k2,k3,hd'⟩
 | .seq x y,c,hc,hw,Q,O,m,h,J,a,w,hi,hs,hd=>by
  obtain⟨x',y',rfl,hx,hy⟩:=su hc;simp only[JC.wf,z01] at hw;simp only[JC.wp] at h;refine wpIn_seq (iO (λe a' w' he=> ?_) (JC.fH hΓ hb x x' hx hw.1 _ O m h J a w hi hs hd));obtain⟨ex,σ',m',J',h1,h2,h3,h4,h5⟩:=he;cases e<;>cases ex<;>simp only[dY] at h1
  ·exact JC.fH hΓ hb y y' hy hw.2 Q σ' m' h2 J' a' w' h3 h4 h5
  ·exact⟨_,σ',m',J',by simp only[dY];exact h1,h2,h3,h4,h5⟩
  ·exact⟨.ret,σ',m',J',trivial,h2,h3,h4,h5⟩
 | .cond x y z,c,hc,hw,Q,O,m,h,J,a,w,hi,hs,hd=>by
  obtain⟨x',y',z',rfl,hx,hy,hz⟩:=lN hc;simp only[JC.wf,z01] at hw;simp only[JC.wp] at h;split at h
  ·rename_i t ht;obtain⟨σ,h1,h2⟩:=hs;have hv0:=aB hx h2;rw[le_eq (h1.fv x) ht (by intro h;cases h)] at hv0
   have hv:=iW hv0;cases t with
   |true=>exact wpIn_cond_true hv (JC.fH hΓ hb y y' hy hw.1 Q O m (h.1 rfl) J a w hi ⟨σ,h1,h2⟩ hd)
   |false=>exact wpIn_cond_false hv (JC.fH hΓ hb z z' hz hw.2 Q O m (h.2 rfl) J a w hi ⟨σ,h1,h2⟩ hd)
  ·rename_i ht;obtain⟨σ,h1,h2⟩:=hs;have hv0:=aB hx h2;rw[le_eq (h1.fv x) ht (by intro h;cases h)] at hv0
   obtain⟨cs,k1,hv⟩:=hv0;simp only[au] at k1;obtain⟨t,rfl⟩:=k1;cases t with
   |true=>exact wpIn_cond_true hv (JC.fH hΓ hb y y' hy hw.1 Q O m h.1 J a w hi ⟨σ,h1,h2⟩ hd)
   |false=>exact wpIn_cond_false hv (JC.fH hΓ hb z z' hz hw.2 Q O m h.2 J a w hi ⟨σ,h1,h2⟩ hd)
  ·exact h.elim
 | .block id x,c,hc,hw,Q,O,m,h,J,a,w,hi,hs,hd=>by
  obtain⟨x',rfl,hx⟩:=lH hc;simp only[JC.wp] at h;refine wpIn_block (iO (λe a' w' he=> ?_) (JC.fH hΓ hb x x' hx hw _ O m h J a w hi hs hd));obtain⟨ex,σ',m',J',h1,h2,h3,h4,h5⟩:=he;cases e<;>cases ex<;>simp only[dY] at h1
  ·exact⟨.norm,σ',m',J',trivial,h2,h3,h4,h5⟩
  ·subst h1;simp only[Exit.inBlock];simp only at h2;split
   ·rename_i e1;rw[if_pos e1] at h2;exact⟨.norm,σ',m',J',trivial,h2,h3,h4,h5⟩
   ·rename_i e1;rw[if_neg e1] at h2;exact⟨.exit _,σ',m',J',rfl,h2,h3,h4,h5⟩
  ·exact⟨.ret,σ',m',J',trivial,h2,h3,h4,h5⟩
 | .loop keep mod x,c,hc,hw,Q,O,m,h,J,a,w,hi,hs,hd=>by
  obtain⟨x',rfl,hx⟩:=vJ hc;simp only[JC.wf,z01] at hw;simp only[JC.wp] at h;obtain⟨ι,U,M,ok,μ,i0,hok,hw0,hm0,sD⟩:=h;have hs0:aJ n J (qp mod (U i0) (aX keep O)) a:=hs.weak λk=>Ac k hw0 (dZ keep);refine wpIn_loop_ghost (λn' a w=> ∃ i J,μ i=n'/\ok i/\Inv β J (M i) w/\aJ n J (qp mod (U i) (aX keep O)) a/\a.defers=d) (μ i0) ⟨i0,J,rfl,hok,hm0▸hi,hs0,hd⟩ ?_;rintro n' a w ⟨i,J,rfl,hok',hi',hs',hd'⟩;refine iO (λe a' w' he=> ?_) (JC.fH hΓ hb x x' hx hw.2 _ _ _ (sD i hok') J a w hi' hs' hd');obtain⟨ex,σ',m',J',h1,h2,h3,h4,h5⟩:=he;cases e<;>cases ex<;>simp only[dY] at h1
  ·obtain⟨j,hj1,hj2,hj0,hj3,hj4,hj5⟩:=h2;obtain⟨J2,k1,k2⟩:=uj h3 h4 hb hj0 rfl hj5;exact⟨μ j,hj2,j,J2,rfl,hj1,k1,k2.weak λk=>vK k hj3 (nU k hj4),h5⟩
  ·exact⟨_,σ',m',J',by simp only[dY];exact h1,h2,h3,h4,h5⟩
  ·exact⟨.ret,σ',m',J',trivial,h2,h3,h4,h5⟩
 | .exit id,c,hc,hw,Q,O,m,h,J,a,w,hi,hs,hd=>by
  obtain rfl:=MJ hc;exact wpIn_exit ⟨.exit id,O,m,J,rfl,h,hi,hs,hd⟩
 | .ret,c,hc,hw,Q,O,m,h,J,a,w,hi,hs,hd=>by
  obtain rfl:=SB hc;exact wpIn_ret ⟨.ret,O,m,J,trivial,h,hi,hs,hd⟩
 | .prune ks x,c,hc,hw,Q,O,m,h,J,a,w,hi,hs,hd=>
  JC.fH hΓ hb x c hc hw Q _ m h J a w hi (hs.weak λk=>dZ ks) hd
 | .bn k T wd' x,c,hc,hw,Q,O,m,h,J,a,w,hi,hs,hd=>by
  simp only[JC.wf,z01,decide_eq_true_eq] at hw;simp only[JC.wp] at h;obtain⟨J',O',m',h1,h2,h3⟩:=OI hi hs hw.1 h;exact JC.fH hΓ hb x c hc hw.2 Q O' m' h1 J' a w h2 h3 hd
 | .sel ks x,c,hc,hw,Q,O,m,h,J,a,w,hi,hs,hd=>by
  simp only[JC.wp] at h;refine iO (λe a' w' he=> ?_) (JC.fH hΓ hb x c hc hw _ O m h J a w hi hs hd);obtain⟨ex,O',m',J',h1,h2,h3,h4,h5⟩:=he;cases ex with
  |norm=>
   obtain⟨O2,m2,J2,k1,k2,k3⟩:=OJ h2 h3 h4 hb;exact⟨.norm,O2,m2,J2,h1,k1,k2,k3,h5⟩
  |exit i=>exact⟨.exit i,O',m',J',h1,h2,h3,h4,h5⟩
  |ret=>exact⟨.ret,O',m',J',h1,h2,h3,h4,h5⟩
 | .pfz k F x,c,hc,hw,Q,O,m,h,J,a,w,hi,hs,hd=>by
  simp only[JC.wf,z01,decide_eq_true_eq] at hw;simp only[JC.wp] at h;refine iO (λe a' w' he=> ?_) (JC.fH hΓ hb x c hc hw.2 _ O m h J a w hi hs hd);obtain⟨ex,O',m',J',h1,h2,h3,h4,h5⟩:=he;cases ex with
  |norm=>
   obtain⟨J2,O2,m2,k1,k2,k3⟩:=Df h3 h4 hw.1 h2;exact⟨.norm,O2,m2,J2,h1,k1,k2,k3,h5⟩
  |exit i=>exact⟨.exit i,O',m',J',h1,h2,h3,h4,h5⟩
  |ret=>exact⟨.ret,O',m',J',h1,h2,h3,h4,h5⟩
 | .jg k F x,c,hc,hw,Q,O,m,h,J,a,w,hi,hs,hd=>by
  simp only[JC.wf,z01,decide_eq_true_eq] at hw;simp only[JC.wp] at h;obtain⟨J',O',m',h1,h2,h3⟩:=Df hi hs hw.1 h;exact JC.fH hΓ hb x c hc hw.2 Q O' m' h1 J' a w h2 h3 hd
 | .Bz k F x,c,hc,hw,Q,O,m,h,J,a,w,hi,hs,hd=>by
  simp only[JC.wp] at h;obtain⟨J',m',h1,h2,h3⟩:=OL hi hs h;exact JC.fH hΓ hb x c hc hw Q O m' h1 J' a w h2 h3 hd
 | .gq k F x,c,hc,hw,Q,O,m,h,J,a,w,hi,hs,hd=>by
  simp only[JC.wf,z01,decide_eq_true_eq] at hw;obtain⟨hP,h⟩:=h;obtain⟨J',h2,h3⟩:=ahh hi hs hw.1 hP;exact JC.fH hΓ hb x c hc hw.2 Q _ _ h J' a w h2 h3 hd
 | .orc s l,c,hc,hw,Q,O,m,h,J,a,w,hi,hs,hd=>by
  obtain⟨x',y',z',rfl,hx,hy,hz⟩:=lN hc;obtain rfl:=Aj hy;obtain⟨id,ops,rfl,hl⟩:=zh hz;simp only[JC.wf,z01,decide_eq_true_eq] at hw;simp only[JC.wp] at h;split at h
  ·rename_i b e;obtain⟨σ,h1,h2⟩:=hs;have hb:σ.getD s .junk= .bool b:=le_eq (h1.le s) e (by intro h;cases h)
   have hv0:=aB hx h2;simp only[aS.ev] at hv0;rw[hb] at hv0;have hv:=iW hv0;replace h:=WC h;generalize he:l.vg Γ m (.t s) O=pq at h;obtain⟨p,q⟩:=pq;obtain⟨g1,g2⟩:(b=(!true)->p)/\Q .norm (.put s (.bool (if true=true then b||q else b&&q)) (um l.jP O)) m:=h
   have back:∀ {σ':List SV},AQ l.jP σ σ'->σ'.getD s .junk= .bool (b||q)->Rep n σ' (.put s (.bool (if true=true then b||q else b&&q)) (um l.jP O)):=by
    intro σ' ho e;have:=(h1.junk ho).put hw.1.1 (Le.refl (.bool (b||q)));rw[show σ'.set s (.bool (b||q))=σ' from ?_] at this
    ·exact this
    ·apply z0f;intro j;rw[z1e];split
     ·rename_i e';subst e';have hlt:s<σ'.length:=by rw[ho.1,h1.1];exact hw.1.1
      rw[if_pos hlt];rw[z05,z0j hlt] at e;rw[z0j hlt];exact congrArg some e.symm
     ·rfl
   cases b with
   |true=>
    refine wpIn_cond_true hv (wpIn_skip ⟨.norm,_,m,J,trivial,g2,hi,⟨σ,back (AQ.refl ..) (by rw[hb];simp),h2⟩,hd⟩)
   |false=>
    have k:=WE l (.t s) O σ (λσ' m'=>m'=m/\AQ l.jP σ σ'/\σ'.getD s .junk= .bool q) hw.1.2 hw.2 h1 (by rw[he];exact g1 rfl) (λσ' ho e=>⟨rfl,ho,by rw[he] at e;exact e⟩)
    refine wpIn_cond_false hv (wpIn_region_list (Ic zH _ _ _ (F5 hl)<|jw hΓ.hook _ _ σ m _ hl k (λσ' m' J' a' w' ⟨hm,ho,e⟩ hi' hs' hd'=> ?_) J a w hi h2 hd))
    subst hm;exact⟨.norm,_,m',J',trivial,g2,hi',⟨σ',back ho (by rw[e];simp),hs'⟩,hd'⟩
  ·exact h.elim
end Go.Sx
namespace Go.Sx
open Go
variable {P:Program}
structure uS(J J':Env):Prop where
 n:J.n<=J'.n
 blk:∀ i,i<J.n->J'.blk i=J.blk i
 H:∀ b o,J.H b=some o->J'.H b=some o
theorem uS.trans{a b c:Env}(h:uS a b)(k:uS b c):uS a c:=
 ⟨z09 h.n k.n,λi hi=>(k.blk i (z03 hi h.n)).trans (h.blk i hi),λb o h'=>k.H b o (h.H b o h')⟩
theorem uS.refl(J:Env):uS J J:=⟨z07 _,λ_ _=>rfl,λ_ _ h=>h⟩
theorem uS.cl{J J':Env}(h:uS J J'):J.cl.Le J'.cl:=⟨z07 _,λ_ hi=>absurd hi (z04 _),λ_ hi=>absurd hi (z04 _),h.H⟩
mutual
def jY:SV->Prop
 | .agg l=>wu l
 | .fn _ l=>wu l
 | .bK l=>wu l
 | .arr .. =>False
 | .iface .. =>False
 | .vec .. =>False
 | .gX .. =>False
 | .jO .. =>False
 |_=>True
def wu:List SV->Prop
 |[]=>True
 |x::r=>jY x/\wu r
end
mutual
theorem JG:∀ (x:SV) {J J':Env} {cs:List Value},jY x->uS J J'->au x J cs->au x J' cs
 | .int ..,_,_,_,_,_,h=>h
 | .bool ..,_,_,_,_,_,h=>h
 | .str ..,_,_,_,_,_,h=>h
 | .arr ..,_,_,_,hp,_,_=>hp.elim
 | .agg l,_,_,_,hp,hl,h=>by simp only[au] at h ⊢;exact Nk l hp hl h
 | .bK _,_,_,_,_,_,h=>h
 | .lst w d f l,_,_,_,_,hl,h=>by
  simp only[au] at h ⊢;obtain⟨ao,cap,h1,h2,h3,h4,h5⟩:=h;refine⟨ao,cap,h1,h2,h3,h4,λi hi=> ?_⟩;obtain⟨b,off,T,fz,cur,e1,e2,e3,e4⟩:=h5 i hi;exact⟨b,off,T,fz,cur,e1,hl.H _ _ e2,e3,au.mono (f (l.getD i d)) hl.cl e4⟩
 | .lit w d f l,_,_,_,_,hl,h=>by
  simp only[au] at h ⊢;obtain⟨ao,h1,h3,h4,h5⟩:=h;refine⟨ao,h1,h3,h4,λi hi=> ?_⟩;obtain⟨b,off,T,fz,cur,e1,e2,e3,e4⟩:=h5 i hi;exact⟨b,off,T,fz,cur,e1,hl.H _ _ e2,e3,au.mono (f (l.getD i d)) hl.cl e4⟩
 | .fM w d f l i p o,_,_,_,_,hl,h=>by
  simp only[au] at h ⊢;obtain⟨b,off,T,fz,cur,h1,h2,h3,h4,h5,h6⟩:=h;exact⟨b,off,T,fz,cur,h1,h2,hl.H _ _ h3,h4,h5,au.mono (f (l.getD i d)) hl.cl h6⟩
 | .ref c p o,_,_,_,_,hl,h=>by
  simp only[au] at h ⊢;obtain⟨b,T,fz,cur,h1,h2,h3,h4⟩:=h;exact⟨b,T,fz,cur,h1,hl.H _ _ h2,h3,au.mono c hl.cl h4⟩
 | .ptr i p o,_,_,_,_,hl,h=>by
  simp only[au] at h ⊢;exact⟨z03 h.1 hl.n,h.2.1,by rw[hl.blk i h.1];exact h.2.2⟩
 | .vec ..,_,_,_,hp,_,_=>hp.elim
 | .gX ..,_,_,_,hp,_,_=>hp.elim
 | .jO ..,_,_,_,hp,_,_=>hp.elim
 | .map i,_,_,_,_,hl,h=>by
  simp only[au] at h ⊢;exact⟨z03 h.1 hl.n,by rw[hl.blk i h.1];exact h.2⟩
 | .fn f cap,_,_,_,hp,hl,h=>by
  simp only[au] at h ⊢;obtain⟨vs,h1,h2⟩:=h;exact⟨vs,ER cap hp hl h1,h2⟩
 | .iface ..,_,_,_,hp,_,_=>hp.elim
 | .bF,_,_,_,_,_,h=>h
 | .iP,_,_,_,_,_,h=>h
 | .jh,_,_,_,_,_,h=>h
 | .jr,_,_,_,_,_,h=>h
 | .qx,_,_,_,_,_,h=>h
 | .lV,_,_,_,_,_,h=>h
 | .raw _,_,_,_,_,_,h=>h
 | .junk,_,_,_,_,_,h=>h
theorem Nk:∀ (l:List SV) {J J':Env} {cs:List Value},wu l->uS J J'->bQ l J cs->bQ l J' cs
 |[],_,_,_,_,_,h=>h
 |x::r,_,_,_,hp,hl,h=>by simp only[bQ] at h ⊢;obtain⟨a,b,h1,h2,h3⟩:=h;exact⟨a,b,h1,JG x hp.1 hl h2,Nk r hp.2 hl h3⟩
theorem ER:∀ (l:List SV) {J J':Env} {vs:List Value},wu l->uS J J'->bg l J vs->bg l J' vs
 |[],_,_,_,_,_,h=>h
 |x::r,_,_,_,hp,hl,h=>by simp only[bg] at h ⊢;obtain⟨cs,t,h1,h2,h3⟩:=h;exact⟨cs,t,h1,JG x hp.1 hl h2,ER r hp.2 hl h3⟩
end
theorem abG{x:SV}{J J':Env}{v:Value}(hp:jY x)(hl:uS J J')(h:bM J x v):bM J' x v:=by
 cases x
 case bK l=>obtain⟨vs,h1,h2⟩:=h;exact⟨vs,ER l hp hl h1,h2⟩
 case junk=>trivial
 all_goals (obtain⟨cs,h1,h2⟩:=h;exact⟨cs,JG _ hp hl h1,h2⟩)
def qX:Fr->Prop
 | .nil=>True
 | .put _ x r=>jY x/\qX r
 | .pick _ _ x r=>jY x/\qX r
theorem ET{k:Nat}:∀ {O:Fr},qX O->jY (look k O)
 | .nil,_=>trivial
 | .put j x r,h=>by
  simp only[look];split
  ·exact h.1
  ·exact ET h.2
 | .pick s d x r,h=>by
  simp only[look];split
  ·exact h.1
  ·split
   ·trivial
   ·exact ET h.2
theorem aJ.jY{n:Nat}{J J':Env}{O:Fr}{a:Act}(h:aJ n J O a)(hp:qX O)(hl:uS J J'):aJ n J' O a:=by
 have hv:=h.sat;obtain⟨σ,h1,h2⟩:=h;refine⟨(z0p n).map (λk=>look k O),⟨by simp,λk=> ?_⟩,⟨by simp;rw[<- h2.1,h1.1],λk=> ?_⟩⟩
 ·rcases h1.2 k with e|⟨e1,e2⟩
  ·exact .inl e
  ·right;refine⟨e1,?_⟩;simp[z05,e1]
 ·by_cases hk:k<n
  ·have:((z0p n).map (λk=>look k O)).getD k .junk=look k O:=by simp[z05,hk]
   rw[this];exact abG (ET hp) hl (hv k)
  ·have:((z0p n).map (λk=>look k O)).getD k .junk= .junk:=by simp[z05,hk]
   rw[this];trivial
structure Clear(β:Base)(l:Nat):Prop where
 lt:l<β.w.heap.size
 B:¬ β.B l
 H:β.J.H l=none
theorem Inv.clear{β:Base}{J:Env}{m:List ay}{w:World}(h:Inv β J m w){l:Nat}(c:Clear β l):w.heap[l]? =β.w.heap[l]? /\(∀ i,aN J i (ah m i)≠some l)/\J.H l=none/\l<w.heap.size:=by
 refine⟨h.kept.heap l c.lt c.B,λi e=> ?_,?_,z03 c.lt h.kept.size⟩
 ·rcases h.own i l e with h'|h'
  ·exact c.B h'
  ·have:=c.lt;omega
 ·cases e:J.H l with
  |none=>rfl
  |some o=>
   rcases h.kept.fresh l o e with h'|h'|h'
   ·rw[c.H] at h';cases h'
   ·have:=c.lt;omega
   ·exact absurd h' c.B
theorem Good.world{J:Env}{m:List ay}{w W:World}(g:Good J m w)(ho:∀ i b,aN J i (ah m i)=some b->W.heap[b]? =w.heap[b]?)(hH:∀ b o,J.H b=some o->W.heap[b]? =w.heap[b]?):Good J m W:=by
 refine⟨g.n,λi=> ?_,g.pF,g.sep,λb o hb=>(hH b o hb).trans (g.hv b o hb),g.gl⟩;have hr:=g.res i;have ho:=ho i;cases hm:ah m i with
 |dead=>trivial
 |blk T c=>
  rw[hm] at hr ho;obtain⟨cs,h1,h2⟩:=hr;exact⟨cs,by rw[ho _ rfl];exact h1,h2⟩
 |vec T wd l=>
  rw[hm] at hr ho;obtain⟨xs,h1,h2⟩:=hr;refine⟨xs,⟨h1.1,?_⟩,h2⟩;rcases h1.2 with hx|⟨gg,cap,cur,e1,e2,e3,e4⟩
  ·exact .inl hx
  ·exact .inr ⟨gg,cap,cur,e1,e2,by rw[ho gg (by simp[aN,e1,z0i])];exact e3,e4⟩
 |mp ek ev l=>
  rw[hm] at hr ho;obtain⟨es,cl,h1,h2⟩:=hr;exact⟨es,cl,by rw[ho _ rfl];exact h1,h2⟩
theorem Inv.world{β:Base}{J:Env}{m:List ay}{w W:World}(h:Inv β J m w)(h1:W.os=w.os)(h2:W.tape=w.tape)(h3:W.output=w.output)(h4:w.heap.size<=W.heap.size)(h5:strict=true->w.drawn<=W.drawn)
  (hb:∀ b,b<w.heap.size->W.heap[b]? =w.heap[b]? \/(β.w.heap.size<=b/\(∀ i,aN J i (ah m i)≠some b)/\J.H b=none)):Inv β J m W:=by
 refine⟨h.good.world (λi b e=> ?_) (λb o e=> ?_),⟨h1.trans h.kept.os,h2.trans h.kept.tape,h3.trans h.kept.output,z09 h.kept.size h4,λb hlt hB=> ?_,h.kept.H,h.kept.fresh,λe=>z09 (h.kept.drawn e) (h5 e)⟩,h.own,h.n,h.blk,h.vv⟩
 ·rcases hb b (dU h.good e) with k|⟨_,k,_⟩
  ·exact k
  ·exact absurd e (k i)
 ·rcases hb b (yC h.good e) with k|⟨_,_,k⟩
  ·exact k
  ·rw[e] at k;cases k
 ·rcases hb b (z03 hlt h.kept.size) with k|⟨k,_⟩
  ·rw[k];exact h.kept.heap b hlt hB
  ·omega
def ownB(J:Env)(m:List ay):Nat->Prop:=λb=> ∃ i,aN J i (ah m i)=some b
theorem Inv.trans{β:Base}{J J':Env}{m m':List ay}{w w':World}(h:Inv β J m w)(k:Inv ⟨w,J,ownB J m⟩ J' m' w')(hv:∀ i,i<β.J.n->(ah m' i).iH=true->(ah m i).iH=true):Inv β J' m' w'/\uS J J':=by
 have hB:∀ b,b<β.w.heap.size->¬ β.B b->¬ ownB J m b:=by
  rintro b hlt hb ⟨i,hi⟩;rcases h.own i b hi with h'|h'
  ·exact hb h'
  ·omega
 refine⟨⟨k.good,⟨k.kept.os.trans h.kept.os,k.kept.tape.trans h.kept.tape,k.kept.output.trans h.kept.output,z09 h.kept.size k.kept.size,λb hlt hb=> ?_,λb o e=>k.kept.H b o (h.kept.H b o e),λb o e=> ?_,λe=>z09 (h.kept.drawn e) (k.kept.drawn e)⟩,λi b e=> ?_,z09 h.n k.n,λi hi=> ?_,λi hi hb=> ?_⟩,⟨k.n,k.blk,k.kept.H⟩⟩
 ·exact(k.kept.heap b (z03 hlt h.kept.size) (hB b hlt hb)).trans (h.kept.heap b hlt hb)
 ·have hs:=h.kept.size;rcases k.kept.fresh b o e with e1|e1|⟨i,e1⟩
  ·exact h.kept.fresh b o e1
  ·exact .inr (.inl (z09 hs e1))
  ·rcases h.own i b e1 with e2|e2
   ·exact .inr (.inr e2)
   ·exact .inr (.inl e2)
 ·have hs:=h.kept.size;rcases k.own i b e with⟨j,e1⟩|e1
  ·exact h.own j b e1
  ·exact .inr (z09 hs e1)
 ·exact(k.blk i (z03 hi h.n)).trans (h.blk i hi)
 ·exact(k.vv i (z03 hi h.n) hb).trans (h.vv i hi (hv i hi hb))
def G6:List ay->List ay->Prop
 |x::m,y::m1=>(y.iH=true->x.iH=true)/\G6 m m1
 |_,_=>True
theorem PL:∀ {m m1:List ay} {i:Nat},G6 m m1->i<m.length->(ah m1 i).iH=true->(ah m i).iH=true
 |[],_,_,_,hi,_=>absurd hi (z04 _)
 |x::m,[],i,_,_,h=>by simp[ah,ay.iH] at h
 |x::m,y::m1,0,hb,_,h=>hb.1 h
 |x::m,y::m1,i+1,hb,hi,h=>by have e1:ah (y::m1) (i+1)=ah m1 i:=rfl;have e2:ah (x::m) (i+1)=ah m i:=rfl;rw[e1] at h;rw[e2];exact PL hb.2 (by simpa using hi) h
def F6:List Nat->List SV->Fr->Fr
 |k::ks,x::xs,O=>F6 ks xs (.put k x O)
 |_,_,O=>O
def zI:List SV->List Value->Prop
 |[],[]=>True
 | .int k n::xs,v::vs=>v= .int k n/\zI xs vs
 |_,_=>False
theorem aJ.avF{n:Nat}{J:Env}{O:Fr}{a:Act}(h:aJ n J O a){k:Nat}(hk:k<n){x:SV}{v:Value}(hx:bM J x v):aJ n J (.put k x O) (a.put (some k) v):=by obtain⟨σ,h1,h2⟩:=h;exact⟨σ.set k x,h1.put hk (Le.refl _),h2.put hx (some k)⟩
theorem aJ.puts{n:Nat}{J:Env}:∀ {ks:List Nat} {xs:List SV} {vs:List Value} {O:Fr} {a:Act},aJ n J O a->(∀ k∈ks,k<n)->xs.length=ks.length->zI xs vs->
  aJ n J (F6 ks xs O) {a with tmps:=(ks.zip vs).foldl (λt (p,v)=>t.setIfInBounds p v) a.tmps}
 |[],xs,vs,O,a,h,_,hl,hi=>by
  cases xs with
  |nil=>exact h
  |cons _ _=>simp at hl
 |k::ks,[],vs,O,a,h,_,hl,hi=>by simp at hl
 |k::ks,x::xs,vs,O,a,h,hk,hl,hi=>by
  cases vs with
  |nil=>cases x<;>exact hi.elim
  |cons v vs=>
   cases x with
   |int kk nn=>
    obtain⟨rfl,hi⟩:=hi;exact aJ.puts (a:=a.put (some k) (.int kk nn)) (h.avF (hk k (by simp)) (show bM J (.int kk nn) _ from⟨[.int kk nn],by simp only[au],rfl⟩)) (λj hj=>hk j (by simp[hj])) (by simpa using hl) hi
   |_=>exact hi.elim
theorem G7{ps:Array Nat}{vs:List Value}{t:Array Value}:(ps.zip vs.toArray).foldl (λt (p,v)=>t.setIfInBounds p v) t=(ps.toList.zip vs).foldl (λt (p,v)=>t.setIfInBounds p v) t:=by rw[<- Array.foldl_toList];simp
theorem aiN{Γ:FH}(hΓ:aW P Γ){quiet:FuncId->Bool}{n:Nat}{jA jB:JC}{cA cB:Code}(hA:comp P quiet cA=some jA.flat)(wA:jA.wf n=true)(hB:comp P quiet cB=some jB.flat)(wB:jB.wf n=true)
  {β:Base} {l:Nat} {r:Loop} (hcl:Clear β l) (hrec:β.w.heap[l]? =some (.loop r)) (hst:r.state= .ready) (hpe:r.pending=none) (hass:r.assign=cA) (hbody:r.body=cB)
  {U:Fr} (hU:aJ n β.J U {tmps:=r.tmps,defers:=[]}) (hp:qX U) {ps:List Nat} (hps:r.params.toList=ps) (hpn:∀ k∈ps,k<n)
  {args:List SV} {m m1:List ay} (hal:args.length=ps.length)
  (hw:jA.wp Γ m.length (λe O m'=>e= .norm/\m'=m/\jB.wp Γ m.length (λe O' m''=>e= .norm/\m.length<=m1.length/\(m''.take m1.length).map (dM (ug m1.length))=m1/\G6 m m1) O m') (F6 ps args U) m)
  {J:Env} {w:World} {vs:List Value} (hI:Inv β J m w) (hs:zI args vs) {rm:Nat}:
  YieldAt (Fw none) rm P l vs.toArray w (λe w'=>e= .returned (.bool true)/\∃ J',Inv β J' m1 w'/\uS J J'):=by
 obtain⟨k1,k2,k3,k4⟩:=hI.clear hcl;have hl0:w.heap[l]? =some (.loop r):=k1.trans hrec;have hlv:∀ {xs:List SV} {vs:List Value},zI xs vs->xs.length=vs.length:=by
  intro xs
  induction xs with
  |nil=>intro vs h;cases vs<;>first|rfl|exact h.elim
  |cons x xs ih=>
   intro vs h;cases vs with
   |nil=>cases x<;>exact h.elim
   |cons v vs=>cases x<;>first|exact h.elim|simp[ih h.2]
 have hsz:vs.toArray.size=r.params.size:=by
  have:=hlv hs;have h2:r.params.size=ps.length:=by rw[<- hps];simp
  simp only[List.size_toArray];omega
 refine⟨r.fn,_,r.assign,r.body,run_yield hl0 hsz,roundIn_of_wpIn trivial ?_⟩;have hEP:uS β.J J:=⟨hI.n,hI.blk,hI.kept.H⟩;have hsl:=(hU.jY hp hEP).puts (vs:=vs) hpn hal hs;rw[hass,hbody,G7,hps];have hA0:Inv ⟨w,J,ownB J m⟩ J m w:=Inv.start hI.good;refine wpIn_mono (JC.fH (ro:=some l) (rm:=rm) hΓ (β:=⟨w,J,ownB J m⟩) (z0m hI.good.n) (d:=[]) jA cA hA wA _ _ _ hw J _ w hA0 hsl rfl) ?_;rintro e a1 w1 ⟨ex,τ1,m',J1,x1,⟨rfl,rfl,hw2⟩,x3,x4,x5⟩;cases e<;>simp only[dY] at x1;have cA':Clear ⟨w,J,ownB J m'⟩ l:=⟨k4,λ⟨i,h⟩=>k2 i h,k3⟩;obtain⟨y1,y2,y3,y4⟩:=x3.clear cA';have hl1:w1.heap[l]? =some (.loop r):=y1.trans hl0;obtain⟨hI1,hP1⟩:=hI.trans x3 (λi hi h=>h);refine⟨_,run_beginRound hl1 hst,?_⟩;have g1:Good J1 m' (w1.putObj l (.loop {r with state:= .busy})):=x3.good.world
  (λi b h=>z06 (λe=>y2 i (e▸h))) (λb o h=>z06 (λe=>by rw[e] at h;rw[y3] at h;cases h))
 have hB0:=Inv.start g1;refine wpIn_mono (JC.fH (ro:=some l) (rm:=rm) hΓ (β:=⟨w1.putObj l (.loop {r with state:= .busy}),J1,ownB J1 m'⟩) (z0m g1.n) (d:=[]) jB cB hB wB _ _ _ hw2 J1 _ _ hB0 x4 x5) ?_;rintro e a2 w2 ⟨ex,O2,m'',J2,z1,⟨rfl,hle,htr,hbk⟩,z3,z4,z5⟩;cases e<;>simp only[dY] at z1;obtain⟨ε3,PN,_⟩:=uj z3 z4 (z0m g1.n) hle rfl htr;have cB':Clear ⟨w1.putObj l (.loop {r with state:= .busy}),J1,ownB J1 m'⟩ l:=⟨by simpa using y4,λ⟨i,h⟩=>y2 i h,y3⟩
 obtain⟨q1,q2,q3,q4⟩:=PN.clear cB';have hl2:w2.heap[l]? =some (.loop {r with state:= .busy}):=q1.trans (z0y y4);refine⟨_,_,run_endRound none hl2,rfl,ε3,?_,hP1.trans ⟨PN.n,PN.blk,PN.kept.H⟩⟩;have hr:({({r with state:= .busy}:Loop) with state:=if (none:Option Code).isNone then LoopState.ready else .done,pending:=none}:Loop)=r:=by cases r;simp only at hst hpe;subst hst;subst hpe;rfl
 rw[hr];have hoth:∀ b,b≠l->(w2.putObj l (.loop r)).heap[b]? =w2.heap[b]? :=λb hb=>z06 hb;have hsame:(w2.putObj l (.loop r)).heap[l]? =some (.loop r):=z0y q4;have g3:Good ε3 m1 (w2.putObj l (.loop r)):=PN.good.world
  (λi b h=>hoth b (λe=>q2 i (e▸h))) (λb o h=>hoth b (λe=>by rw[e] at h;rw[q3] at h;cases h))
 have hsz1:(w1.putObj l (.loop {r with state:= .busy})).heap.size=w1.heap.size:=by simp
 have hsw:=PN.kept.size;rw[show(Base.w ⟨w1.putObj l (.loop {r with state:= .busy}),J1,ownB J1 m'⟩)=w1.putObj l (.loop {r with state:= .busy}) from rfl,hsz1] at hsw
 refine⟨g3,⟨(show _=_ from PN.kept.os).trans hI1.kept.os,(show _=_ from PN.kept.tape).trans hI1.kept.tape,(show _=_ from PN.kept.output).trans hI1.kept.output,?_,λb hlt hb=> ?_,λb o e=>PN.kept.H b o (hI1.kept.H b o e),λb o e=> ?_,λe=>z09 (hI1.kept.drawn e) (PN.kept.drawn e)⟩,λi b e=> ?_,z09 hI1.n PN.n,λi hi=> ?_,λi hi hb=> ?_⟩
 ·have:=hI1.kept.size;simp only[World.putObj_size];omega
 ·by_cases e:b=l
  ·subst e;rw[hsame,hrec]
  ·rw[hoth b e];have hlt1:b<w1.heap.size:=z03 hlt hI1.kept.size;have hk:=PN.kept.heap b (by show b< (w1.putObj l _).heap.size;simpa using hlt1) (λ⟨i,hi⟩=>by
    rcases hI1.own i b hi with h'|h'
    ·exact hb h'
    ·omega)
   exact(hk.trans (z06 e)).trans (hI1.kept.heap b hlt hb)
 ·have hs1:=hI1.kept.size;rcases PN.kept.fresh b o e with e1|e1|⟨i,e1⟩
  ·exact hI1.kept.fresh b o e1
  ·right;left;have e1:(w1.putObj l (.loop {r with state:= .busy})).heap.size<=b:=e1;rw[hsz1] at e1;omega
  ·rcases hI1.own i b e1 with e2|e2
   ·exact .inr (.inr e2)
   ·exact .inr (.inl e2)
 ·have hs1:=hI1.kept.size;rcases PN.own i b e with⟨j,e1⟩|e1
  ·exact hI1.own j b e1
  ·right;have e1:(w1.putObj l (.loop {r with state:= .busy})).heap.size<=b:=e1;rw[hsz1] at e1;omega
 ·exact(PN.blk i (z03 hi hI1.n)).trans (hI1.blk i hi)
 ·have hi1:i<J1.n:=z03 hi hI1.n;have hbm:(ah m' i).iH=true:=PL hbk (by have:=g1.n;omega) hb
  exact(PN.vv i hi1 hb).trans (hI1.vv i hi hbm)
end Go.Sx
namespace Go.Sx
open Go
variable {P:Program}
theorem zJ{ro:Option Nat}{rm:Nat}{Γ:Hook}(hΓ:fB P Γ){ops:Array Oper}{Q:Exit->Act->World->Prop}{β:Base}{d:List Deferred}{rest:List Oper}:∀ (l:List Oper) (aP:List dA) (σ:List SV) (m:List ay) (K:List SV->List ay->Prop),
  l.mapM (bW P ops)=some aP->rE Γ aP K σ m->(∀ σ' m' J' a' w',K σ' m'->Inv β J' m' w'->aH J' σ' a'->a'.defers=d->wpListIn (Fw ro) rm P ops Q rest a' w')->
  ∀ J a w,Inv β J m w->aH J σ a->a.defers=d->wpListIn (Fw ro) rm P ops Q (l++rest) a w
 |[],aP,σ,m,K,hc,h,hK,J,a,w,hi,hs,hd=>by
  simp at hc;subst hc;exact hK σ m J a w h hi hs hd
 |o::l,aP,σ,m,K,hc,h,hK,J,a,w,hi,hs,hd=>by
  simp only[z0d,bind,z0k] at hc;obtain⟨io,ho,hc⟩:=bind_some hc;obtain⟨uT,hc',hc⟩:=bind_some hc;simp only[z02] at hc;subst hc;have hnd:=jX ho;simp only[bW] at ho;split at ho<;>try (cases ho;done)
  rename_i g x hg hx;simp only[z02] at ho;subst ho;simp only[rE] at h;have go:∀ σ1,aH J σ1 a->opK Γ σ1 m (λσ' sv m'=>rE Γ uT K (iC o.dst sv σ') m') x->o.wpIn (Fw ro) rm P a w (wpListIn (Fw ro) rm P ops Q (l++rest)) Q:=by intro σ1 hs1 h1;obtain⟨σ',sv,m',h2,hE⟩:=Ar hΓ hx h1;refine Oper.wpIn_mono ?_ (Ib hnd (hE β J a w hi hs1 Q));rintro a' w' ⟨v,J',rfl,hv,hs',hi'⟩;exact zJ hΓ l uT _ _ K hc' h2 hK J' _ w' hi' (hs'.put hv o.dst) (by rw[put_defers];exact hd)
  simp only[z0g,wpListIn];cases g with
  |none=>
   have hgn:o.guard=none:=by
    cases hog:o.guard with
    |none=>rfl
    |some g=>rw[hog] at hg;simp only[qY] at hg;split at hg<;>cases hg
   rw[if_pos (by simp[Region.wanted,hgn])]
   exact go σ hs h
  |some g=>
   obtain⟨s,want⟩:=g;simp only[qQ] at h;split at h
   ·rename_i b hb;have hw:=wz hs hg hb;rw[hw];by_cases hbw:b=want
    ·subst hbw;rw[if_pos (by simp)]
     exact go _ (hs.known hb) (h.1 rfl)
    ·have hbn:b= !want:=by cases b<;>cases want<;>first|rfl|exact absurd rfl hbw
     rw[if_neg (by simpa using hbw)]
     subst hbn;have hs2:=hs.known hb;exact⟨λ_ _=>trivial,zJ hΓ l uT _ _ K hc' (h.2 rfl) hK J _ w hi (aH.put (sv:= .bK []) (v:=undef) hs2 lQ o.dst) (by rw[put_defers];exact hd)⟩
   ·rename_i hb;have hw:=rG hs hg hb;rw[hw];rw[if_neg (by simp)]
    exact⟨λ_ _=>trivial,zJ hΓ l uT _ _ K hc' h hK J _ w hi (aH.put (sv:= .bK []) (v:=undef) hs lQ o.dst) (by rw[put_defers];exact hd)⟩
   ·exact h.elim
theorem JH{α β:Type _}{f:α->Option β}:∀ {x y:List β} {l:List α},l.mapM f=some (x++y)->∃ l1 l2,l=l1++l2/\l1.mapM f=some x/\l2.mapM f=some y
 |[],y,l,h=>⟨[],l,rfl,by simp,h⟩
 |b::x,y,[],h=>by simp at h
 |b::x,y,o::l,h=>by rw[z0d] at h;obtain⟨b',hb,h⟩:=bind_some h;obtain⟨bs,hbs,h⟩:=bind_some h;simp only[z0k,z02,z0g,z1h] at h;obtain⟨rfl,rfl⟩:=h;obtain⟨l1,l2,rfl,h1,h2⟩:=JH hbs;exact⟨o::l1,l2,rfl,by rw[z0d,hb,h1];rfl,h2⟩
section
variable {ro:Option Nat} {rm n:Nat} {Γ:FH} {ops:Array Oper} {Q:Exit->Act->World->Prop} {β:Base} {d:List Deferred} {rest l:List Oper}
theorem avG(hΓ:aW P Γ){A:SL}(hc:l.mapM (bW P ops)=some (A.flat none))(hw:A.wf n=true){K:Fr->List ay->Prop}{O:Fr}{m:List ay}(h:A.wp Γ false K O m)
  (hK:∀ O' m' J' a' w',K O' m'->Inv β J' m' w'->aJ n J' O' a'->a'.defers=d->wpListIn (Fw ro) rm P ops Q rest a' w') {J:Env} {a:Act} {w:World} (hi:Inv β J m w) (hs:aJ n J O a) (hd:a.defers=d):
  wpListIn (Fw ro) rm P ops Q (l++rest) a w:=by
 obtain⟨σ,h1,h2⟩:=hs;exact zJ hΓ.hook l _ σ m _ hc (nG A O σ m _ (λσ' m'=> ∃ O',Rep n σ' O'/\K O' m') hw h1 h (λσ' O' m' hr hq=>⟨O',hr,hq⟩))
  (λσ' m' J' a' w' ⟨O',hr,hq⟩ hi' hs' hd'=>hK O' m' J' a' w' hq hi' ⟨σ',hr,hs'⟩ hd') J a w hi h2 hd
theorem aoL(hΓ:aW P Γ){s:Nat}{A:SL}(hc:l.mapM (bW P ops)=some (A.flat (some (s,true))))(hw:A.wf n=true){K:Fr->List ay->Prop}{O:Fr}{m:List ay}(h:A.Vu Γ false s true K O m)
  (hK:∀ O' m' J' a' w',look s O'= .bool true->K O' m'->Inv β J' m' w'->aJ n J' O' a'->a'.defers=d->wpListIn (Fw ro) rm P ops Q rest a' w') {J:Env} {a:Act} {w:World} (hi:Inv β J m w) (hs:aJ n J O a) (hd:a.defers=d):
  wpListIn (Fw ro) rm P ops Q (l++rest) a w:=by
 obtain⟨σ,h1,h2⟩:=hs;exact zJ hΓ.hook l _ σ m _ hc (PS (dr:=false) A O σ m _ (λσ' m'=> ∃ O',Rep n σ' O'/\look s O'= .bool true/\K O' m') hw h1 h (λσ' O' m' hr hl hq=>⟨O',hr,hl,hq⟩))
  (λσ' m' J' a' w' ⟨O',hr,hl,hq⟩ hi' hs' hd'=>hK O' m' J' a' w' hl hq hi' ⟨σ',hr,hs'⟩ hd') J a w hi h2 hd
theorem aJ.bool{J:Env}{O:Fr}{a:Act}(hs:aJ n J O a){s:Nat}{b:Bool}(h:look s O= .bool b){o:Oper}{want:Bool}(hg:qY ops o.guard=some (some (s,want))):Region.wanted o (yielded ops a.tmps)=(b==want):=by obtain⟨σ,h1,h2⟩:=hs;exact wz h2 hg (le_eq (h1.le s) h (by intro h;cases h))
theorem aJ.undef{J:Env}{O:Fr}{a:Act}(hs:aJ n J O a){d:Option Nat}(h:∀ k,d=some k->look k O= .junk):aJ n J O (a.put d Go.undef):=by
 obtain⟨σ,h1,h2⟩:=hs;refine⟨iC d (.bK []) σ,?_,h2.put lQ d⟩;cases d with
 |none=>exact h1
 |some k=>
  refine⟨by simp[iC,h1.1],λj=> ?_⟩
  by_cases e:j=k
  ·subst e;exact .inl (h j rfl)
  ·rw[iC,getD_set_ne e];exact h1.2 j
def aoM(s:Nat)(ks:List Nat)(io:dA):Bool:=(match io.guard with
 |some (s',true)=>s'==s
 |_=>false)&&(match io.dst with
 |some k=> !ks.contains k
 |none=>true)
theorem aoN{s:Nat}{ks:List Nat}{io:dA}(h:aoM s ks io=true):io.guard=some (s,true)/\∀ k,io.dst=some k->k∉ks:=by
 unfold aoM at h;simp only[z01] at h;obtain⟨h1,h2⟩:=h;constructor
 ·split at h1
  ·rename_i e;simp only[beq_iff_eq] at h1;rw[e,h1]
  ·cases h1
 ·intro k hk;rw[hk] at h2;simpa using h2
theorem kX{k:Nat}:∀ {ks:List Nat} {O:Fr},k∉ks->look k (aX ks O)= .junk
 |[],_,_=>rfl
 |j::ks,O,h=>by simp only[z0a,not_or] at h;simp only[aX,look,if_neg h.1];exact kX h.2
theorem rH{k:Nat}:∀ {ks:List Nat} {O:Fr},k∈ks->look k (aX ks O)=look k O
 |[],_,h=>by cases h
 |j::ks,O,h=>by
  simp only[aX,look];by_cases e:k=j
  ·subst e;rw[if_pos rfl]
  ·rw[if_neg e];rcases z0a.1 h with h|h
   ·exact absurd h e
   ·exact rH h
theorem TD{s:Nat}{ks:List Nat}(hks:s∈ks){O:Fr}(hb:look s O= .bool false){J:Env}{w:World}:∀ {l:List Oper} {aP:List dA} {a:Act},l.mapM (bW P ops)=some aP->(∀ io∈aP,aoM s ks io=true)->aJ n J (aX ks O) a->a.defers=d->
  (∀ a',aJ n J (aX ks O) a'->a'.defers=d->wpListIn (Fw ro) rm P ops Q rest a' w)->wpListIn (Fw ro) rm P ops Q (l++rest) a w
 |[],aP,a,hc,hg,hs,hd,hK=>hK a hs hd
 |o::l,aP,a,hc,hg,hs,hd,hK=>by
  rw[z0d] at hc;obtain⟨io,ho,hc⟩:=bind_some hc;obtain⟨uT,hc',hc⟩:=bind_some hc;simp only[z0k,z02] at hc;subst hc;obtain⟨g1,g2⟩:=aoN (hg io (by simp))
  simp only[bW] at ho;split at ho<;>try (cases ho;done)
  rename_i g x hg' hx;simp only[z02] at ho;subst ho;simp only at g1 g2;subst g1;simp only[z0g,wpListIn];rw[hs.bool (by rw[rH hks];exact hb) hg',if_neg (by simp)]
  exact⟨λ_ _=>trivial,TD hks hb hc' (λio uo=>hg io (by simp[uo])) (hs.undef λk hk=>kX (g2 k hk)) (by rw[put_defers];exact hd) hK⟩
end
def uU:List SV->Bool
 |[]=>true
 | .int .. ::r=>uU r
 |_=>false
theorem Nl:∀ {xs:List SV} {J:Env} {vs:List Value},uU xs=true->bg xs J vs->zI xs vs
 |[],_,vs,_,h=>by simp only[bg] at h;subst h;trivial
 |x::xs,J,vs,hx,h=>by
  simp only[bg] at h;obtain⟨cs,t,rfl,h2,h3⟩:=h;cases x<;>first|(simp[uU] at hx;done)|skip
  rename_i k n;simp only[au] at h2;subst h2;exact⟨rfl,Nl hx h3⟩
theorem BP:∀ {xs:List SV},uU xs=true->xs.all SV.isVal=true
 |[],_=>rfl
 |x::xs,hx=>by
  cases x<;>first|(simp[uU] at hx;done)|skip
  have:=BP (xs:=xs) hx;simp only[List.all_cons,z01];exact⟨rfl,this⟩
inductive YC:Type 1 where
 |jc (c:JC)
 |seq (a b:YC)
 |block (id:Nat) (c:YC)
 |loop (keep mod:List Nat) (c:YC)
 |prune (ks:List Nat) (c:YC)
 |yl (A:SL) (s:Nat) (ks:List Nat) (B:SL) (d:Nat) (x:aS) (ys:List aS) (c e:Nat)
def YC.flat:YC->IC
 | .jc c=>c.flat
 | .seq a b=> .seq a.flat b.flat
 | .block id c=> .block id c.flat
 | .loop _ _ c=> .loop c.flat
 | .prune _ c=>c.flat
 | .yl A s _ B d x ys c e=> .ops (A.flat none++(B.flat (some (s,true))++[⟨some d,some (s,true), .e (.jm x ys)⟩,⟨some c,some (s,true), .p (.nt (.t d))⟩,⟨some e,none, .p (.pick (.t s) (.t c) (.c (.bool false)))⟩]))
def YC.wf(n:Nat):YC->Bool
 | .jc c=>c.wf n
 | .seq a b=>a.wf n&&b.wf n
 | .block _ c=>c.wf n
 | .loop keep mod c=>mod.all (λk=>decide (k<n))&&keep.all (λk=>decide (k<n))&&c.wf n
 | .prune _ c=>c.wf n
 | .yl A s ks B d x ys c e=>A.wf n&&B.wf n&&(B.flat (some (s,true))).all (aoM s ks)&&decide (d<n)&&decide (c<n)&&decide (e<n)&&ks.contains s&& !ks.contains d&& !ks.contains c&& !(d==c)
def YC.wp(Γ:FH)(Y:List SV->List ay->List ay->Prop)(yv:Value)(n0:Nat):YC->(Ex->Fr->List ay->Prop)->Fr->List ay->Prop
 | .jc c,Q,O,m=>c.wp Γ n0 Q O m
 | .seq a b,Q,O,m=>a.wp Γ Y yv n0 (λe O' m'=>match e with
  | .norm=>b.wp Γ Y yv n0 Q O' m'
  |e=>Q e O' m') O m
 | .block id c,Q,O,m=>c.wp Γ Y yv n0 (λe O' m'=>match e with
  | .exit i=>if i=id then Q .norm O' m' else Q (.exit i) O' m'
  |e=>Q e O' m') O m
 | .loop keep mod c,Q,O,m=> ∃ (ι:Type) (U:ι->List SV) (M:ι->List ay) (ok:ι->Prop) (μ:ι->Nat) (i:ι),ok i/\V4 mod (U i) O/\M i=m/\
   ∀ i,ok i->c.wp Γ Y yv n0 (λe O' m'=>match e with
    | .norm=> ∃ j,ok j/\μ j<μ i/\n0<=(M j).length/\atR (ug (M j).length) mod (U j) O'/\xX (ug (M j).length) O O' keep/\(m'.take (M j).length).map (dM (ug (M j).length))=M j
    |e=>Q e O' m') (qp mod (U i) (aX keep O)) (M i)
 | .prune ks c,Q,O,m=>c.wp Γ Y yv n0 Q (aX ks O) m
 | .yl A s ks B d x ys c e,Q,O,m=>A.wp Γ false (λO m=>match look s O with
  | .bool b=>(b=false->Q .norm (.put e (.bool false) (aX ks O)) m)/\(b=true->B.Vu Γ false s true (λO' m'=>(qX (aX ks O')/\x.fv O'= .raw yv/\uU (ys.map (aS.fv O'))=true)/\
    ∃ m'',Y (ys.map (aS.fv O')) m' m''/\Q .norm (.put e (.bool false) (aX ks O')) m'') O m)
  |_=>False) O m
theorem JI{α β:Type _}{f:α->Option β}{b:β}{bs:List β}:∀ {l:List α},l.mapM f=some (b::bs)->∃ o l',l=o::l'/\f o=some b/\l'.mapM f=some bs
 |[],h=>by simp at h
 |o::l,h=>by rw[z0d] at h;obtain⟨b',hb,h⟩:=bind_some h;obtain⟨bs',hbs,h⟩:=bind_some h;simp only[z0k,z02,z1h] at h;obtain⟨rfl,rfl⟩:=h;exact⟨o,l,rfl,hb,hbs⟩
theorem mapM_none{α β:Type _}{f:α->Option β}:∀ {l:List α},l.mapM f=some []->l=[]
 |[],_=>rfl
 |o::l,h=>by rw[z0d] at h;obtain⟨b',hb,h⟩:=bind_some h;obtain⟨bs',hbs,h⟩:=bind_some h;simp at h
theorem JJ{ro:Option Nat}{rm n:Nat}{ops:Array Oper}{Q:Exit->Act->World->Prop}{d:List Deferred}{rest:List Oper}{o:Oper}{k:Nat}{g:Option (Nat×Bool)}{p:wK}(ho:bW P ops o=some ⟨some k,g, .p p⟩)(hk:k<n)
  {J:Env} {O:Fr} {a:Act} {w:World} (hs:aJ n J O a) (hg:g=none\/∃ s,g=some (s,true)/\look s O= .bool true) {v:SV} (hp:∀ σ,Rep n σ O->aV σ (λsv=>sv=v) p) (hd:a.defers=d)
  (hK:∀ a',aJ n J (.put k v O) a'->a'.defers=d->wpListIn (Fw ro) rm P ops Q rest a' w):wpListIn (Fw ro) rm P ops Q (o::rest) a w:=by
 have hnd:=jX ho;have hs0:=hs;obtain⟨σ,h1,h2⟩:=hs;simp only[bW] at ho;split at ho<;>try (cases ho;done)
 rename_i g' x hg' hx;simp only[z02,dA.mk.injEq] at ho;obtain⟨e1,e2,e3⟩:=ho;subst e2;subst e3;have hpp:zF P o.op=some (.p p):=hx;unfold zF at hpp;split at hpp
 ·rename_i p' hp';simp only[z02,yE.p.injEq] at hpp;subst hpp;obtain⟨sv,rfl,hpure⟩:=BQ hp' (hp σ h1);obtain⟨v',hr,hv⟩:=hpure J a h2;simp only[wpListIn];rw[if_pos]
  ·refine Ib hnd ?_;unfold Oper.wp;rw[hr,Oper.upon_value,e1];exact hK _ (hs0.avF hk hv) (by rw[put_defers];exact hd)
  ·rcases hg with rfl|⟨s,rfl,hl⟩
   ·have hgn:o.guard=none:=by
     cases hog:o.guard with
     |none=>rfl
     |some g=>rw[hog] at hg';simp only[qY] at hg';split at hg'<;>cases hg'
    simp[Region.wanted,hgn]
   ·rw[hs0.bool hl hg'];rfl
 ·simp only[z0c] at hpp;obtain⟨_,_,hpp⟩:=hpp;cases hpp
theorem abH{o:Oper}{x:aS}{ys:List aS}(h:zF P o.op=some (.e (.jm x ys))):∃ x' args tys,o.op= .call {callee:= .value x',args:=args,argTypes:=tys}/\aQ x'=some x/\args.toList.mapM aQ=some ys:=by
 unfold zF at h;split at h
 ·cases h
 ·simp only[z0c] at h;obtain⟨e,he,h⟩:=h;simp only[yE.e.injEq] at h;subst h;cases ho:o.op<;>rw[ho] at he<;>simp only[zG] at he
  case call c=>
   cases c with
   |mk callee args tys=>
   split at he
   ·cases he
   simp only[zG.aaf] at he;split at he
   ·split at he<;>try (cases he;done)
    split at he<;>try (cases he;done)
    split at he<;>cases he
   ·simp only[z0c] at he;obtain⟨_,_,he⟩:=he;cases he
   ·rename_i x' hne;split at he<;>try (cases he;done)
    rename_i x2 ys2 hx hy;simp only[z02,EIO.jm.injEq] at he;obtain⟨rfl,rfl⟩:=he;exact⟨_,_,_,rfl,hx,hy⟩
   ·split at he<;>cases he
   ·cases he
  all_goals first
   |(cases he;done)
   |(simp only[z0c] at he;obtain⟨_,_,he⟩:=he;cases he)
   |(split at he<;>first|(cases he;done)|(split at he<;>first|(cases he;done)|(split at he<;>first|(cases he;done)|(split at he<;>cases he))))
theorem aiO{Γ:FH}(hΓ:aW P Γ){rm n:Nat}{Y:List SV->List ay->List ay->Prop}{l:Nat}{β:Base}{d0:List Deferred}
  (hY:∀ args m m1,Y args m m1->∀ J w vs,Inv β J m w->zI args vs->YieldAt (Fw none) (rm - 1) P l vs.toArray w (λe w'=>e= .returned (.bool true)/\∃ J',Inv β J' m1 w'/\uS J J'))
  {A:SL} {s:Nat} {ks:List Nat} {B:SL} {d:Nat} {x:aS} {ys:List aS} {c e:Nat} {ops:Array Oper} {id:Nat}
  (hc:ops.toList.mapM (bW P ops)=some (A.flat none++(B.flat (some (s,true))++[⟨some d,some (s,true), .e (.jm x ys)⟩,⟨some c,some (s,true), .p (.nt (.t d))⟩,⟨some e,none, .p (.pick (.t s) (.t c) (.c (.bool false)))⟩])))
  (hw:(YC.yl A s ks B d x ys c e).wf n=true) {n0:Nat} {Q:Ex->Fr->List ay->Prop} {O:Fr} {m:List ay} (h:(YC.yl A s ks B d x ys c e).wp Γ Y (.func (.yield l) #[] #[]) n0 Q O m)
  {J:Env} {a:Act} {w:World} (hi:Inv β J m w) (hs:aJ n J O a) (hd:a.defers=d0):(z0t id ops false).wpIn (Fw none) rm P (pK n β d0 Q) a w:=by
 simp only[YC.wf,z01,decide_eq_true_eq,List.contains_eq_mem,z1f,decide_eq_false_iff_not,beq_eq_false_iff_ne,ne_eq] at hw;obtain⟨⟨⟨⟨⟨⟨⟨⟨⟨wA,wB⟩,wG⟩,hdn⟩,hcn⟩,hen⟩,hsk⟩,hdk⟩,hck⟩,hdc⟩:=hw;obtain⟨l1,l2,e0,h1,hc⟩:=JH hc;obtain⟨l3,l4,rfl,h3,hc⟩:=JH hc;refine wpIn_region_list ?_;rw[e0];simp only[YC.wp] at h;refine avG hΓ h1 wA h (λτ1 m1 J1 a1 w1 hk hi1 hs1 hd1=> ?_) hi hs hd;obtain⟨o1,l5,rfl,ho1,hc⟩:=JI hc;obtain⟨o2,l6,rfl,ho2,hc⟩:=JI hc;obtain⟨o3,l7,rfl,ho3,hc⟩:=JI hc;obtain rfl:=mapM_none hc;have hcs:¬ s=c:=λe=>hck (e▸hsk);have hds:¬ s=d:=λe=>hdk (e▸hsk);split at hk
 ·rename_i b hb;cases b with
  |false=>
   have hq:=hk.1 rfl;have hsf:look s (aX ks τ1)= .bool false:=(rH hsk).trans hb;refine TD hsk hb h3 (λio uo=>z0r.1 wG io uo) (hs1.weak λk=>dZ ks) hd1 (λa2 hs2 hd2=> ?_);have key:∀ (o:Oper) (io:dA) (k:Nat) (x:yE) (a:Act) (rest:List Oper),bW P ops o=some ⟨some k,some (s,true),x⟩->k∉ks->aJ n J1 (aX ks τ1) a->a.defers=d0->
     (∀ a',aJ n J1 (aX ks τ1) a'->a'.defers=d0->wpListIn (Fw none) rm P ops (pK n β d0 Q) rest a' w1)->wpListIn (Fw none) rm P ops (pK n β d0 Q) (o::rest) a w1:=by
    intro o io k x a rest ho hkk hs hd hK;simp only[bW] at ho;split at ho<;>try (cases ho;done)
    rename_i g' x' hg' hx;simp only[z02,dA.mk.injEq] at ho;obtain⟨e1,e2,e3⟩:=ho;subst e2;simp only[wpListIn];rw[hs.bool hsf hg',if_neg (by simp)]
    exact⟨λ_ _=>trivial,hK _ (hs.undef λj hj=>by rw[e1] at hj;cases hj;exact kX hkk) (by rw[put_defers];exact hd)⟩
   refine key o1 ⟨none,none, .p (.mv (.t 0))⟩ d _ a2 _ ho1 hdk hs2 hd2 (λa3 hs3 hd3=> ?_);refine key o2 ⟨none,none, .p (.mv (.t 0))⟩ c _ a3 _ ho2 hck hs3 hd3 (λa4 hs4 hd4=> ?_);refine JJ ho3 hen hs4 (.inl rfl) (v:= .bool false) (λσ hr=> ?_) hd4 (λa5 hs5 hd5=>⟨.norm,_,_,J1,trivial,hq,hi1,hs5,hd5⟩);have:(aS.t s).ev σ= .bool false:=le_eq (hr.le s) hsf (by intro h;cases h)
   simp only[aV,this];simp[aS.ev]
  |true=>
   refine aoL hΓ h3 wB (hk.2 rfl) (λO2 m2 J2 a2 w2 hl2 hk2 hi2 hs2 hd2=> ?_) hi1 hs1 hd1;obtain⟨⟨hp,hx,hints⟩,m3,hym,hq⟩:=hk2;have hY':=hY _ _ _ hym;obtain⟨σ,r1,r2⟩:=hs2;have hs2:aJ n J2 O2 a2:=⟨σ,r1,r2⟩;have hnd:=jX ho1;simp only[bW] at ho1;split at ho1<;>try (cases ho1;done)
   rename_i g' x' hg' hx';simp only[z02,dA.mk.injEq] at ho1;obtain⟨e1,e2,e3⟩:=ho1;subst e2;subst e3;obtain⟨xo,args,tys,hop,hxo,hys⟩:=abH hx';have hxe:x.ev σ= .raw (.func (.yield l) #[] #[]):=le_eq (r1.fv x) hx (by intro h;cases h)
   have hval:a2.eval xo= .func (.yield l) #[] #[]:=by have:=hxe▸aB hxo r2;obtain⟨cs,q1,q2⟩:=this;simp only[au] at q1;rw[q1.2] at q2;exact q2
   have ayL:ys.map (aS.ev σ)=ys.map (aS.fv O2):=by
    refine List.map_congr_left λy hy=> ?_;have hv:(aS.fv O2 y).isVal=true:=by have:=BP hints;rw[List.all_map,z0r] at this;exact this y hy
    exact fC (r1.fv y) hv
   have hsa:bg (ys.map (aS.fv O2)) J2 (args.toList.map a2.eval):=by
    have:=wC r2 args.toList ys hys (by show(ys.map (aS.ev σ)).all SV.isVal=true;rw[ayL];exact BP hints)
    rw[<- ayL];exact this
   obtain⟨fn,tmps,assign,body,hyr,sD⟩:=hY' J2 w2 _ hi2 (Nl hints hsa);have hargs:(args.toList.map a2.eval).toArray=args.map a2.eval:=by apply Array.ext';simp
   have hrun:(execOp a2.eval o1).run P w2= .ok (.round l fn tmps assign body) w2:=by rw[hargs] at hyr;simp[execOp,hop,resolve,hval,Deferred.ofValue,invoke,hyr]
   rw[wpListIn,hs2.bool hl2 hg',if_pos (by rfl)]
   refine⟨λ_ _=>trivial,?_⟩;rw[z1k _ _ _ hnd,hrun,Oper.uponIn_round];refine⟨λe=>(by cases e),sD.mono ?_⟩
   rintro er w3 ⟨rfl,ε3,hi3,hep⟩;have hs3:aJ n ε3 (aX ks O2) a2:=(hs2.weak λk=>dZ ks).jY hp hep;rw[e1];have hs4:aJ n ε3 (.put d (.bool true) (aX ks O2)) (a2.put (some d) (.bool true)):=hs3.avF hdn (x:= .bool true) ⟨[.bool true],by simp only[au],rfl⟩
   have hls:look s (aX ks O2)= .bool true:=(rH hsk).trans hl2;show wpListIn (Fw none) rm P ops (pK n β d0 Q) [o2,o3] (a2.put (some d) (.bool true)) w3;refine JJ ho2 hcn hs4 (.inr ⟨s,rfl,by simp only[look,if_neg hds];exact hls⟩) (v:= .bool false) (d:=d0) (λσ hr=> ?_) hd2 (λa5 hs5 hd5=> ?_)
   ·have:(aS.t d).ev σ= .bool true:=le_eq (hr.le d) (by simp[look]) (by intro h;cases h)
    simp only[aV,this];rfl
   refine JJ ho3 hen hs5 (.inl rfl) (v:= .bool false) (λσ hr=> ?_) hd5 (λa6 hs6 hd6=>⟨.norm,_,_,ε3,trivial,hq,hi3,hs6.weak λk=> ?_,hd6⟩)
   ·have h1:(aS.t s).ev σ= .bool true:=le_eq (hr.le s) (by simp only[look,if_neg hcs,if_neg hds];exact hls) (by intro h;cases h)
    have h2:(aS.t c).ev σ= .bool false:=le_eq (hr.le c) (by simp[look]) (by intro h;cases h)
    simp only[aV,h1,h2];simp
   ·simp only[look];split
    ·exact .inr rfl
    ·by_cases ec:k=c
     ·subst ec;exact .inl (kX hck)
     ·by_cases ed:k=d
      ·subst ed;exact .inl (kX hdk)
      ·rw[if_neg ec,if_neg ed];exact .inr rfl
 ·exact hk.elim
theorem G8{fn:Func}{tmps:Array Value}{w:World}(h:fn.results.toList=[]):∃ v,(results fn tmps).run P w= .ok v w/\True:=
 ⟨_,jR h (vs:=[]) rfl,trivial⟩
theorem YC.sound{rm:Nat}{Γ:FH}(hΓ:aW P Γ){quiet:FuncId->Bool}{n0 n:Nat}{β:Base}(hb:β.J.n<=n0){d:List Deferred}{Y:List SV->List ay->List ay->Prop}{l:Nat}
  (hY:∀ args m m1,Y args m m1->∀ J w vs,Inv β J m w->zI args vs->YieldAt (Fw none) (rm - 1) P l vs.toArray w (λe w'=>e= .returned (.bool true)/\∃ J',Inv β J' m1 w'/\uS J J')):∀ (jc:YC) (c:Code),comp P quiet c=some jc.flat->jc.wf n=true->∀ (Q:Ex->Fr->List ay->Prop) (O:Fr) (m:List ay),jc.wp Γ Y (.func (.yield l) #[] #[]) n0 Q O m->
  ∀ J a w,Inv β J m w->aJ n J O a->a.defers=d->c.wpIn (Fw none) rm P (pK n β d Q) a w
 | .jc x,c,hc,hw,Q,O,m,h,J,a,w,hi,hs,hd=>JC.fH hΓ hb x c hc hw Q O m h J a w hi hs hd
 | .seq x y,c,hc,hw,Q,O,m,h,J,a,w,hi,hs,hd=>by
  obtain⟨x',y',rfl,hx,hy⟩:=su hc;simp only[YC.wf,z01] at hw;simp only[YC.wp] at h;refine wpIn_seq (iO (λe a' w' he=> ?_) (YC.sound hΓ hb hY x x' hx hw.1 _ O m h J a w hi hs hd));obtain⟨ex,σ',m',J',h1,h2,h3,h4,h5⟩:=he;cases e<;>cases ex<;>simp only[dY] at h1
  ·exact YC.sound hΓ hb hY y y' hy hw.2 Q σ' m' h2 J' a' w' h3 h4 h5
  ·exact⟨_,σ',m',J',by simp only[dY];exact h1,h2,h3,h4,h5⟩
  ·exact⟨.ret,σ',m',J',trivial,h2,h3,h4,h5⟩
 | .block id x,c,hc,hw,Q,O,m,h,J,a,w,hi,hs,hd=>by
  obtain⟨x',rfl,hx⟩:=lH hc;simp only[YC.wp] at h;refine wpIn_block (iO (λe a' w' he=> ?_) (YC.sound hΓ hb hY x x' hx hw _ O m h J a w hi hs hd));obtain⟨ex,σ',m',J',h1,h2,h3,h4,h5⟩:=he;cases e<;>cases ex<;>simp only[dY] at h1
  ·exact⟨.norm,σ',m',J',trivial,h2,h3,h4,h5⟩
  ·subst h1;simp only[Exit.inBlock];simp only at h2;split
   ·rename_i e1;rw[if_pos e1] at h2;exact⟨.norm,σ',m',J',trivial,h2,h3,h4,h5⟩
   ·rename_i e1;rw[if_neg e1] at h2;exact⟨.exit _,σ',m',J',rfl,h2,h3,h4,h5⟩
  ·exact⟨.ret,σ',m',J',trivial,h2,h3,h4,h5⟩
 | .loop keep mod x,c,hc,hw,Q,O,m,h,J,a,w,hi,hs,hd=>by
  obtain⟨x',rfl,hx⟩:=vJ hc;simp only[YC.wf,z01] at hw;simp only[YC.wp] at h;obtain⟨ι,U,M,ok,μ,i0,hok,hw0,hm0,sD⟩:=h;have hs0:aJ n J (qp mod (U i0) (aX keep O)) a:=hs.weak λk=>Ac k hw0 (dZ keep);refine wpIn_loop_ghost (λn' a w=> ∃ i J,μ i=n'/\ok i/\Inv β J (M i) w/\aJ n J (qp mod (U i) (aX keep O)) a/\a.defers=d) (μ i0) ⟨i0,J,rfl,hok,hm0▸hi,hs0,hd⟩ ?_;rintro n' a w ⟨i,J,rfl,hok',hi',hs',hd'⟩;refine iO (λe a' w' he=> ?_) (YC.sound hΓ hb hY x x' hx hw.2 _ _ _ (sD i hok') J a w hi' hs' hd');obtain⟨ex,σ',m',J',h1,h2,h3,h4,h5⟩:=he;cases e<;>cases ex<;>simp only[dY] at h1
  ·obtain⟨j,hj1,hj2,hj0,hj3,hj4,hj5⟩:=h2;obtain⟨J2,k1,k2⟩:=uj h3 h4 hb hj0 rfl hj5;exact⟨μ j,hj2,j,J2,rfl,hj1,k1,k2.weak λk=>vK k hj3 (nU k hj4),h5⟩
  ·exact⟨_,σ',m',J',by simp only[dY];exact h1,h2,h3,h4,h5⟩
  ·exact⟨.ret,σ',m',J',trivial,h2,h3,h4,h5⟩
 | .prune ks x,c,hc,hw,Q,O,m,h,J,a,w,hi,hs,hd=>
  YC.sound hΓ hb hY x c hc hw Q _ m h J a w hi (hs.weak λk=>dZ ks) hd
 | .yl A s ks B dd x ys cc e,c,hc,hw,Q,O,m,h,J,a,w,hi,hs,hd=>by obtain⟨id,ops,rfl,hl⟩:=zh hc;exact aiO hΓ hY hl hw (n0:=n0) h hi hs hd
def ayM(n0:Nat)(m1:List ay)(e:Ex)(m:List ay):Prop:=(match e with
 | .exit _=>False
 |_=>True)/\∃ l,Dh (upto n0 0++l) (.bK []) m1 m (.bK [])
theorem aoO{quiet:FuncId->Bool}{f:FuncId}{jc:YC}{nt rm:Nat}(hfn:fnIs P quiet f=some (jc.flat,[],nt))(hwf:jc.wf nt=true){Γ:FH}(hΓ:aW P Γ){args:List SV}{m0 m1:List ay}(hn':Nat.ble args.length nt=true)
  {Y:List SV->List ay->List ay->Prop} {l:Nat} {J:Env} {w:World} (hg:Good J m0 w) {vs:List Value} (hs:bg args J vs)
  (hY:∀ args m m1,Y args m m1->∀ J' w' vs,Inv ⟨w,J,ownB J m0⟩ J' m w'->zI args vs->YieldAt (Fw none) (rm - 1) P l vs.toArray w' (λe w''=>e= .returned (.bool true)/\∃ yZ,Inv ⟨w,J,ownB J m0⟩ yZ m1 w''/\uS J' yZ))
  (h:jc.wp Γ Y (.func (.yield l) #[] #[]) m0.length (λe _ m=>ayM m0.length m1 e m) (vM 0 args) m0):
  CallsIn (Fw none) rm P f vs.toArray w (λe w'=>(∃ v,e= .returned v)/\∃ J',Inv ⟨w,J,ownB J m0⟩ J' m1 w'):=by
 have hn:args.length<=nt:=z18 hn';obtain⟨_,fn,c,hf,hb,hc,hrs,hnt⟩:=Zo hfn;have hlen:args.length=vs.length:=(dO hs 0).1|>λh=>by simpa using h
 refine callsIn_of_wp (F:=Fw none) hf hb trivial ?_ rfl;have hi:=Inv.start hg;have hsl:=dO hs (nt - args.length);have e:fn.ntmps - vs.toArray.size=nt - args.length:=by simp;omega
 rw[e];refine iO (λe a w' he=> ?_) (YC.sound (rm:=rm) hΓ (β:=⟨w,J,ownB J m0⟩) (z0m hg.n) (d:=[]) hY jc c hc hwf _ _ _ h J _ w hi ⟨_,pR args nt hn,hsl⟩ rfl);obtain⟨ex,O',m',J',h1,⟨h2,l',hp⟩,h3,h4,h5⟩:=he;obtain⟨ks,⟨k1,k2⟩,k3,k4⟩:=Di hp;have hres:fn.results.toList=[]:=hrs;have fin:a.defers=[]/\∃ v,(results fn a.tmps).run P w'= .ok v w'/\((∃ v',Ending.returned v= .returned v')/\∃ J',Inv ⟨w,J,ownB J m0⟩ J' m1 w'):=by obtain⟨v,e1,e2⟩:=G8 (P:=P) (tmps:=a.tmps) (w:=w') hres;exact⟨h5,v,e1,⟨v,rfl⟩,lU ks J',by rw[<- k4];exact h3.sel ks k1 (λi hi=>k2 i (by rw[<- hg.n];exact hi))⟩
 cases e<;>cases ex<;>simp only[dY] at h1
 ·exact fin
 ·exact h2.elim
 ·exact fin
end Go.Sx
namespace Go.Sx
open Go
variable {P:Program}
def avH(Γ:FH)(jA jB:JC)(ps:List Nat)(U:Fr)(args:List SV)(m m1:List ay):Prop:=
 args.length=ps.length/\jA.wp Γ m.length (λe O m'=>e= .norm/\m'=m/\jB.wp Γ m.length (λe O' m''=>e= .norm/\m.length<=m1.length/\(m''.take m1.length).map (dM (ug m1.length))=m1/\G6 m m1) O m') (F6 ps args U) m
def abI(P:Program)(quiet:FuncId->Bool)(n:Nat)(ps:List Nat)(A B:IC)(O:Fr)(f:FuncId)(cap:List SV)(m m1:List ay):Prop:=
 ∀ (cA cB:Code),comp P quiet cA=some A->comp P quiet cB=some B->∀ (l:Nat) (W:World) (J:Env) (r:Loop),Good J m W->Clear ⟨W,J,ownB J m⟩ l->W.heap[l]? =some (.loop r)->r.state= .ready->r.pending=none->r.assign=cA->r.body=cB->
  r.params.toList=ps->aJ n J O {tmps:=r.tmps,defers:=[]}->∀ vs,bg cap J vs->
   CallsIn (Fw none) 0 P f (#[.func (.yield l) #[] #[]]++vs.toArray) W (λe w'=>(∃ v,e= .returned v)/\∃ J',Inv ⟨W,J,ownB J m⟩ J' m1 w')
theorem ayN{quiet quiet':FuncId->Bool}{n:Nat}{ps:List Nat}{jA jB:JC}{O:Fr}{f:FuncId}{cap:List SV}{m m1:List ay}{yc:YC}{nt:Nat}(hfn:fnIs P quiet' f=some (yc.flat,[],nt))(hwf:yc.wf nt=true)
  {Γi Γ:FH} (aBW:aW P Γi) (hΓ:aW P Γ) (wA:jA.wf n=true) (wB:jB.wf n=true) (hps:ps.all (λk=>decide (k<n))=true) (hn:Nat.ble (cap.length+1) nt=true) {ks:List Nat} (hp:qX (aX ks O))
  (h:∀ yv:Value,yc.wp Γi (avH Γ jA jB ps (aX ks O)) yv m.length (λe _ m'=>ayM m.length m1 e m') (vM 0 (.raw yv::cap)) m):abI P quiet n ps jA.flat jB.flat O f cap m m1:=by
 intro cA cB hA hB l W J r hg hcl hl hst hpe has hbo hpa hs vs hvs;have hsa:bg (.raw (.func (.yield l) #[] #[])::cap) J ((.func (.yield l) #[] #[])::vs):=by simp only[bg];exact⟨[.func (.yield l) #[] #[]],vs,rfl,by simp only[au];exact⟨rfl,trivial⟩,hvs⟩
 have:=aoO (rm:=0) hfn hwf aBW (args:= .raw (.func (.yield l) #[] #[])::cap) (by simpa using hn) (Y:=avH Γ jA jB ps (aX ks O)) (l:=l) hg hsa (m1:=m1)
  (λargs m' m1' hy J' w' vs' hi hint=>aiN hΓ hA wA hB wB hcl hl hst hpe has hbo (hs.weak λk=>dZ ks) hp hpa (λk hk=>by simpa using z0r.1 hps k hk) hy.1 hy.2 hi hint) (h _)
 have e:((Value.func (.yield l) #[] #[])::vs).toArray= #[.func (.yield l) #[] #[]]++vs.toArray:=by simp
 rw[e] at this;exact this
theorem Inv.asD{β:Base}{J:Env}{m:List ay}{w:World}(h:Inv β J m w){i:Nat}{T:TypeId}{c c':SV}(hm:ah m i= .blk T c)(hc:∀ cs,au c J cs->au c' J cs):Inv β J (m.set i (.blk T c')) w:=by obtain⟨cs,h1,h2⟩:gu J i w (.blk T c):=hm▸h.good.res i;exact h.QJ (vZ (by rw[hm];nofun)) ⟨cs,h1,hc cs h2⟩ (by rw[hm];exact λ_ e=>e) (by rw[hm];exact id) (λ_ _=>rfl) rfl ⟨rfl,rfl,rfl,rfl⟩
def abK(vb:Option (Nat×Nat×Nat))(O:Fr)(m:List ay)(K:List ay->Prop):Prop:=match vb with
 |none=>K m
 |some (k,E,wd)=>match look k O with
  | .ptr i _ _=>match ah m i with
   | .blk T .bF=>K (m.set i (.blk T (.vec m.length 0))++[.vec E wd []])
   |_=>K m
  |_=>K m
theorem aoP{vb:Option (Nat×Nat×Nat)}{O:Fr}{m:List ay}{K:List ay->Prop}(hh:abK vb O m K){β:Base}{J:Env}{w:World}(h:Inv β J m w){n:Nat}{a:Act}(hs:aJ n J O a):∃ J' m',K m'/\Inv β J' m' w/\aJ n J' O a:=by
 unfold abK at hh;split at hh
 ·exact⟨J,m,hh,h,hs⟩
 ·rename_i k E wd';split at hh
  ·rename_i i p o hk;split at hh
   ·rename_i T hm;have hi:i<m.length:=by
     rcases z15 i m.length with hi|hi
     ·exact hi
     ·rw[dh hi] at hm;cases hm
    have hg:w.grownBy w none:=World.grownBy.refl w none;have hi2:=h.more (b:=0) (v:= .slice none 0 0) (r:= .vec E wd' []) hg (z07 _) ⟨[],⟨by simp, .inl ⟨by simp[Env.more,h.good.n],rfl⟩⟩,λj hj=>absurd hj (z04 _)⟩ (by intro x hx;simp[aN,Env.more,h.good.n,z0i] at hx)
    have hle:=J.dJ 0 (.slice none 0 0);have hm2:ah (m++[.vec E wd' []]) i= .blk T .bF:=by rw[bD hi];exact hm
    have h3:=hi2.asD (c':= .vec m.length 0) hm2 (λcs hc=>by simp only[au] at hc ⊢;subst hc;exact⟨by simp[Env.more,h.good.n], .inl ⟨by simp[Env.more,h.good.n],trivial⟩,by simp[Env.more,h.good.n]⟩)
    rw[List.set_append_left _ _ hi] at h3;exact⟨_,_,hh,h3,hs.env hle⟩
   ·exact⟨J,m,hh,h,hs⟩
  ·exact⟨J,m,hh,h,hs⟩
inductive IX:Type 1 where
 |c (x:IC)
 |seq (a:IC) (b:IX)
 |rf (x:IC) (id g:Nat) (ps:List Nat) (A B z:IC)
def D9(P:Program)(quiet:FuncId->Bool):Code->Option IX
 | .seq (.seq x (.block id (.rangeFunc g ps A B))) y=>match comp P quiet x,aQ g,comp P quiet A,comp P quiet B,comp P quiet y with
  |some x,some (.t g),some A,some B,some y=>some (.rf x id g ps.toList A B y)
  |_,_,_,_,_=>none
 | .seq x y=>match comp P quiet x,D9 P quiet y with
  |some x,some y=>some (.seq x y)
  |_,_=>none
 |c=>(comp P quiet c).map .c
inductive XC:Type 1 where
 |seq (a:JC) (b:XC)
 |prune (ks:List Nat) (b:XC)
 |rf (x:JC) (id g:Nat) (ps:List Nat) (A B:JC) (vb:Option (Nat×Nat×Nat)) (ks:List Nat) (z:JC)
def XC.flat:XC->IX
 | .seq a b=> .seq a.flat b.flat
 | .prune _ b=>b.flat
 | .rf x id g ps A B _ _ z=> .rf x.flat id g ps A.flat B.flat z.flat
def XC.wf(n:Nat):XC->Bool
 | .seq a b=>a.wf n&&b.wf n
 | .prune _ b=>b.wf n
 | .rf x _ _ _ _ _ _ _ z=>x.wf n&&z.wf n
def XC.wp(P:Program)(quiet:FuncId->Bool)(n:Nat)(Γ:FH)(n0:Nat):XC->(Ex->Fr->List ay->Prop)->Fr->List ay->Prop
 | .seq a b,Q,O,m=>a.wp Γ n0 (λe O' m'=>match e with
  | .norm=>b.wp P quiet n Γ n0 Q O' m'
  |e=>Q e O' m') O m
 | .prune ks b,Q,O,m=>b.wp P quiet n Γ n0 Q (aX ks O) m
 | .rf x id g ps A B vb ks z,Q,O,m=>x.wp Γ n0 (λe O m=>match e with
  | .norm=>abK vb O m λm=> ∃ m1 f cap,(look g O= .fn f cap/\iF P f=true/\qX (aX ks O)/\G6 m m1)/\abI P quiet n ps A.flat B.flat O f cap m m1/\z.wp Γ m1.length Q (aX ks O) m1
  |e=>Q e O m) O m
theorem abL{quiet:FuncId->Bool}{c:Code}{a:IC}{b:IX}(h:D9 P quiet c=some (.seq a b)):∃ x y,c= .seq x y/\comp P quiet x=some a/\D9 P quiet y=some b:=by
 unfold D9 at h;split at h
 ·split at h<;>simp at h
 ·split at h
  ·rename_i h1 h2;simp only[z02,IX.seq.injEq] at h;obtain⟨rfl,rfl⟩:=h;exact⟨_,_,rfl,h1,h2⟩
  ·cases h
 ·simp at h
theorem aiP{quiet:FuncId->Bool}{c:Code}{x:IC}{id g:Nat}{ps:List Nat}{A B z:IC}(h:D9 P quiet c=some (.rf x id g ps A B z)):
  ∃ cx g' ps' cA cB y,c= .seq (.seq cx (.block id (.rangeFunc g' ps' cA cB))) y/\comp P quiet cx=some x/\aQ g'=some (.t g)/\ps'.toList=ps/\comp P quiet cA=some A/\comp P quiet cB=some B/\comp P quiet y=some z:=by
 unfold D9 at h;split at h
 ·split at h
  ·rename_i h0 h1 h2 h3 h4;simp only[z02,IX.rf.injEq] at h;obtain⟨rfl,rfl,rfl,rfl,rfl,rfl,rfl⟩:=h;exact⟨_,_,_,_,_,_,rfl,h0,h1,rfl,h2,h3,h4⟩
  ·cases h
 ·split at h<;>simp at h
 ·simp at h
theorem Inv.avI{β:Base}{J:Env}{m:List ay}{w:World}(h:Inv β J m w)(g:Good J m w):Inv ⟨w,J,ownB J m⟩ J m w:=Inv.start g
theorem aiQ{quiet:FuncId->Bool}{n:Nat}{id gk:Nat}{g:Operand}{ps:Array Nat}{cA cB:Code}{A B:IC}(hgk:aQ g=some (.t gk))(hA:comp P quiet cA=some A)(hB:comp P quiet cB=some B)
  {O:Fr} {f:FuncId} {cap:List SV} {m m1:List ay} (hf:look gk O= .fn f cap) (hok:iF P f=true) (hbk:G6 m m1) (hIT:abI P quiet n ps.toList A B O f cap m m1)
  {β:Base} {J:Env} {a:Act} {w:World} (hi:Inv β J m w) (hs:aJ n J O a) (hd:a.defers=[]):
  (Code.block id (.rangeFunc g ps cA cB)).wpIn (Fw none) 0 P (λe a' w'=>e= .normal/\∃ D J',a'= {a with defers:=[{target:= .collected D,args:= #[]}]}/\w'.heap[D]? =some (.deferred (some []))/\β.w.heap.size<=D/\
   Clear ⟨w',J',ownB J' m1⟩ D/\Inv β J' m1 w'/\uS J J') a w:=by
 have hs0:=hs;obtain⟨σ,r1,r2⟩:=hs;have hev:aS.ev σ (.t gk)= .fn f cap:=le_eq (r1.le gk) hf (by intro h;cases h)
 obtain⟨cv,c1,c2⟩:=IV (hev▸aB hgk r2);refine wpIn_block (wpIn_mono (Q:=λe a' w'=>e= .normal/\∃ D J',a'= {a with defers:=[{target:= .collected D,args:= #[]}]}/\w'.heap[D]? =some (.deferred (some []))/\β.w.heap.size<=D/\
   Clear ⟨w',J',ownB J' m1⟩ D/\Inv β J' m1 w'/\uS J J') (wpIn_rangeFunc ?_) (λe a' w' ⟨h1,h2⟩=>by subst h1;exact⟨rfl,h2⟩))
 intro fn hfn;obtain⟨rec,hrec⟩:∃ rec:Loop,rec= {state:= .ready,pending:=none,fn,tmps:=a.tmps,params:=ps,assign:=cA,body:=cB,defers:=w.heap.size}:=⟨_,rfl⟩;obtain⟨W1,hW1⟩:∃ W1,(w.alloc (.deferred (some []))).alloc (.loop rec)=W1:=⟨_,rfl⟩;have hsz:W1.heap.size=w.heap.size+2:=by rw[<- hW1];simp
 have hL1:W1.heap[w.heap.size+1]? =some (.loop rec):=by rw[<- hW1];have:=z0z (w.alloc (.deferred (some []))) (.loop rec);rwa [World.size_alloc] at this
 have hK1:W1.heap[w.heap.size]? =some (.deferred (some [])):=by rw[<- hW1];exact(Go.RowKit.Below.heap_alloc _ _ _ (by simp)).trans (z0z w _)
 have hold:∀ b,b<w.heap.size->W1.heap[b]? =w.heap[b]? :=by intro b hb;rw[<- hW1,Go.RowKit.Below.heap_alloc _ _ _ (by simp;omega),Go.RowKit.Below.heap_alloc _ _ _ hb]
 have hi1:Inv β J m W1:=hi.world (by rw[<- hW1];rfl) (by rw[<- hW1];rfl) (by rw[<- hW1];rfl) (by omega) (λ_=>by rw[<- hW1];exact z07 _) (λb hb=> .inl (hold b hb))
 have avJ:∀ b,w.heap.size<=b->b<W1.heap.size->Clear ⟨W1,J,ownB J m⟩ b:=by
  intro b h1 h2;refine⟨h2,?_,?_⟩
  ·rintro⟨i,e⟩;have:=dU hi.good e;omega
  ·cases e:J.H b with
   |none=>rfl
   |some o=>have:=yC hi.good e;omega
 refine⟨w.heap.size+1,[{target:= .collected w.heap.size,args:= #[]}],W1,{target:= .fn (.func f) cv.toArray,args:= #[.func (.yield (w.heap.size+1)) #[] #[]]},W1,f,
  #[.func (.yield (w.heap.size+1)) #[] #[]]++cv.toArray,W1,?_,?_,λ_ _=>trivial,?_,λe=>(by cases e),?_⟩
 ·rw[<- hW1,hrec];exact run_enterLoop_outer _ _ _ _ _
 ·simp[resolve,c2,Deferred.ofValue];rfl
 ·simp[invoke,jv hok]
 ·refine(hIT cA cB hA hB (w.heap.size+1) W1 J rec hi1.good (avJ _ (by omega) (by omega)) hL1 (by rw[hrec]) (by rw[hrec]) (by rw[hrec]) (by rw[hrec]) (by rw[hrec]) (by rw[hrec];exact⟨σ,r1,r2⟩) cv c1).mono ?_
  rintro e w2 ⟨⟨v,rfl⟩,J2,hi2⟩;obtain⟨q1,q2,q3,q4⟩:=hi2.clear (avJ (w.heap.size+1) (by omega) (by omega))
  obtain⟨d1,d2,d3,d4⟩:=hi2.clear (avJ w.heap.size (by omega) (by omega))
  have hl2:w2.heap[w.heap.size+1]? =some (.loop rec):=q1.trans hL1;refine⟨none,_,by have:=run_endLoop (P:=P) hl2 (by rw[hrec];simp);rw[show rec.pending=none by rw[hrec]] at this;exact this,rfl,w.heap.size,J2,?_,?_,hi.kept.size,?_,?_,?_⟩
  ·rw[hd];rfl
  ·rw[z06 (by omega)];exact d1.trans hK1
  ·exact⟨by simpa using d4,λ⟨i,h⟩=>d2 i h,d3⟩
  ·have hbs:=hi.kept.size;obtain⟨t1,_⟩:=hi1.trans hi2 (λi hi' h=>PL hbk (by have:=hi1.n;have:=hi1.good.n;omega) h)
   refine t1.world rfl rfl rfl (by simp) (λ_=>z07 _) (λb hb=> ?_)
   by_cases e:b=w.heap.size+1
   ·right;subst e;exact⟨by omega,q2,q3⟩
   ·exact .inl (z06 e)
  ·exact⟨hi2.n,hi2.blk,hi2.kept.H⟩
def ayO(n:Nat)(β:Base)(Q:Ex->Fr->List ay->Prop)(e:Exit)(a:Act)(w:World):Prop:=
 ∃ ex O m J,dY e ex/\Q ex O m/\Inv β J m w/\aJ n J O a/\(a.defers=[]\/∃ D,a.defers=[{target:= .collected D,args:= #[]}]/\w.heap[D]? =some (.deferred (some []))/\β.w.heap.size<=D/\(∀ i,aN J i (ah m i)≠some D)/\J.H D=none)
theorem XC.sound{quiet:FuncId->Bool}{Γ:FH}(hΓ:aW P Γ){n0 n:Nat}{β:Base}(hb:β.J.n=0):∀ (xc:XC) (c:Code),D9 P quiet c=some xc.flat->xc.wf n=true->∀ (Q:Ex->Fr->List ay->Prop) (O:Fr) (m:List ay),xc.wp P quiet n Γ n0 Q O m->
  ∀ J a w,Inv β J m w->aJ n J O a->a.defers=[]->c.wpIn (Fw none) 0 P (ayO n β Q) a w
 | .seq x y,c,hc,hw,Q,O,m,h,J,a,w,hi,hs,hd=>by
  obtain⟨x',y',rfl,hx,hy⟩:=abL hc;simp only[XC.wf,z01] at hw;simp only[XC.wp] at h;refine wpIn_seq (iO (λe a' w' he=> ?_) (JC.fH (rm:=0) hΓ (by omega) x x' hx hw.1 _ O m h J a w hi hs hd))
  obtain⟨ex,σ',m',J',h1,h2,h3,h4,h5⟩:=he;cases e<;>cases ex<;>simp only[dY] at h1
  ·exact XC.sound hΓ hb y y' hy hw.2 Q σ' m' h2 J' a' w' h3 h4 h5
  ·exact⟨_,σ',m',J',by simp only[dY];exact h1,h2,h3,h4, .inl h5⟩
  ·exact⟨.ret,σ',m',J',trivial,h2,h3,h4, .inl h5⟩
 | .prune ks b,c,hc,hw,Q,O,m,h,J,a,w,hi,hs,hd=>XC.sound hΓ hb b c hc hw Q _ m h J a w hi (hs.weak λk=>dZ ks) hd
 | .rf x id g ps A B vb ks z,c,hc,hw,Q,O,m,h,J,a,w,hi,hs,hd=>by
  obtain⟨cx,g',ps',cA,cB,y,rfl,h0,h1,h2,h3,h4,h5⟩:=aiP hc;simp only[XC.wf,z01] at hw;simp only[XC.wp] at h;subst h2;refine wpIn_seq (wpIn_seq (iO (λe a' w' he=> ?_) (JC.fH (rm:=0) hΓ (by omega) x cx h0 hw.1 _ O m h J a w hi hs hd)))
  obtain⟨ex,O,m,J,g1,g2,hi,hs,hd⟩:=he;cases e<;>cases ex<;>simp only[dY] at g1
  ·obtain⟨J,m,⟨m1,f,cap,⟨k1,k2,k3,k4⟩,k5,k6⟩,hi,hs⟩:=aoP g2 hi hs;refine iO (λe a'' w' he=> ?_) (aiQ (id:=id) h1 h3 h4 k1 k2 k4 k5 hi hs hd);obtain⟨rfl,D,J1,rfl,q1,q2,q3,q4,q5⟩:=he;have hs1:aJ n J1 (aX ks O) {a' with defers:=[{target:= .collected D,args:= #[]}]}:=by obtain⟨σ,r1,r2⟩:=(hs.weak λk=>dZ ks).jY k3 q5;exact⟨σ,r1,r2⟩
   refine iO (λe a' w'' he=> ?_) (JC.fH (rm:=0) hΓ (β:=⟨w',J1,ownB J1 m1⟩) (z0m q4.good.n) (d:=[{target:= .collected D,args:= #[]}]) z y h5 hw.2 _ _ _ k6 J1 _ w' (q4.avI q4.good) hs1 rfl);obtain⟨ex,O2,m2,J2,e1,e2,e3,e4,e5⟩:=he;obtain⟨d1,d2,d3,d4⟩:=e3.clear q3;exact⟨ex,O2,m2,J2,e1,e2,(q4.trans e3 (λi hi'=>by omega)).1,e4, .inr ⟨D,e5,d1.trans q1,q2,d2,d3⟩⟩
  ·exact⟨_,O,m,J,by simp only[dY];exact g1,g2,hi,hs, .inl hd⟩
  ·exact⟨.ret,O,m,J,trivial,g2,hi,hs, .inl hd⟩
def fnX(P:Program)(quiet:FuncId->Bool)(f:FuncId):Option (IX×List ResultVar×Nat):=match P.funcs[f]? with
 |some fn=>match fn.body with
  |some c=>match D9 P quiet c with
   |some ic=>if fn.name != "runtime.NumGoroutine" then some (ic,fn.results.toList,fn.ntmps) else none
   |none=>none
  |none=>none
 |none=>none
theorem avK{quiet:FuncId->Bool}{f:FuncId}{ic:IX}{rs:List ResultVar}{nt:Nat}(h:fnX P quiet f=some (ic,rs,nt)):iF P f=true/\∃ fn c,P.funcs[f]? =some fn/\fn.body=some c/\D9 P quiet c=some ic/\fn.results.toList=rs/\fn.ntmps=nt:=by
 unfold fnX at h;split at h<;>try (cases h;done)
 rename_i fn hf;split at h<;>try (cases h;done)
 rename_i c hc;split at h<;>try (cases h;done)
 rename_i ic' hic;split at h<;>try (cases h;done)
 rename_i hn;simp only[z02,z1j] at h;obtain⟨rfl,rfl,rfl⟩:=h;refine⟨?_,fn,c,hf,hc,hic,rfl,rfl⟩;unfold iF;rw[hf];simp only[z01];exact⟨hn,by rw[hc];rfl⟩
theorem TF{quiet:FuncId->Bool}{f:FuncId}{xc:XC}{rs:List ResultVar}{nt:Nat}(hfn:fnX P quiet f=some (xc.flat,rs,nt))(hwf:xc.wf nt=true){Γ:FH}(hΓ:aW P Γ){args:List SV}{m1:List ay}{res:SV}(hn':Nat.ble args.length nt=true)
  (h:xc.wp P quiet nt Γ 0 (IW rs P 0 res m1) (vM 0 args) []):FnOK P f args [] res m1:=by
 have hn:args.length<=nt:=z18 hn';obtain⟨_,fn,c,hf,hb,hc,hrs,hnt⟩:=avK hfn;intro J w vs hg hs;have hlen:args.length=vs.length:=(dO hs 0).1|>λh=>by simpa using h
 refine(callsIn_wide (n:=0)).1 (callsIn_of_wp_marks (F:=Fw none) hf hb trivial ?_ rfl);have hi:=Inv.start hg;have hsl:=dO hs (nt - args.length);have e:fn.ntmps - vs.toArray.size=nt - args.length:=by simp;omega
 rw[e];refine iO (λe a w' he=> ?_) (XC.sound hΓ (by simpa using hg.n) xc c hc hwf _ _ _ h J _ w hi ⟨_,pR args nt hn,hsl⟩ rfl)
 obtain⟨ex,O',m',J',h1,h2,h3,⟨σ',hr,h4⟩,h5⟩:=he;replace h2:=Hu hr h2;have hfin:∀ (W:World),Inv ⟨w,J,ownB J []⟩ J' m' W->nR P σ' m' (λx=> ∃ ks,Iz ks 0 res m1 m' x) rs->∃ v,(results fn a.tmps).run P W= .ok v W/\
   ∃ v' yZ,Ending.returned v= .returned v'/\bM yZ res v'/\Inv ⟨w,J,ownB J []⟩ yZ m1 W:=by
  intro W hW hres;obtain⟨x,⟨ks,⟨k1,k2⟩,k3,k4⟩,hrun⟩:=wO hrs hres;obtain⟨v,e1,e2⟩:=hrun J' a W hW.good h4;refine⟨v,e1,v,lU ks J',rfl,?_,?_⟩
  ·rw[<- k3];exact e2.ren (ku ks J')
  ·rw[<- k4];exact hW.sel ks k1 (λi hi=>k2 i (by have:=hg.n;simp only[List.length_nil] at this;have hi:i<J.n:=hi;omega))
 have fin:∀ (hres:nR P σ' m' (λx=> ∃ ks,Iz ks 0 res m1 m' x) rs),LeavesInM (Fw none) 0 P fn a.tmps (λe w'=> ∃ v J',e= .returned v/\bM J' res v/\Inv ⟨w,J,λb=> ∃ i,aN J i (ah [] i)=some b⟩ J' m1 w') a.defers .returning w':=by
  intro hres;rcases h5 with h5|⟨D,h5,d1,d2,d3,d4⟩
  ·rw[h5];obtain⟨v,e1,e2⟩:=hfin w' h3 hres;exact⟨v,e1,e2⟩
  ·rw[h5];refine⟨by simp, .inl ⟨D,w'.putObj D (.deferred none),rfl,run_takeDeferred d1,?_⟩⟩
   have h3':Inv ⟨w,J,ownB J []⟩ J' m' (w'.putObj D (.deferred none)):=Inv.world h3 rfl rfl rfl (by simp) (λ_=>z07 _) (λb hb=>by
    by_cases e:b=D
    ·right;subst e;exact⟨d2,d3,d4⟩
    ·exact .inl (z06 e))
   obtain⟨v,e1,e2⟩:=hfin _ h3' hres;exact⟨v,e1,e2⟩
 cases e<;>cases ex<;>simp only[dY] at h1
 ·exact fin h2
 ·exact h2.elim
 ·exact fin h2
end Go.Sx
namespace Go.Sx
open Go
variable {P:Program}
def rfK(P:Program)(quiet:FuncId->Bool)(n:Nat)(Γ:FH)(g:Nat)(ps:List Nat)(A B:JC)(vb:Option (Nat×Nat×Nat))(ks:List Nat)(z:JC)(Q:Ex->Fr->List ay->Prop)(_:Hide Γ z Q)(O:Fr)(m:List ay):Prop:=
 abK vb O m λm=> ∃ m1 f cap,(look g O= .fn f cap/\iF P f=true/\qX (aX ks O)/\G6 m m1)/\abI P quiet n ps A.flat B.flat O f cap m m1/\z.wp Γ m1.length Q (aX ks O) m1
theorem aoQ{quiet:FuncId->Bool}{n:Nat}{Γ:FH}{g:Nat}{ps:List Nat}{A B:JC}{vb:Option (Nat×Nat×Nat)}{ks:List Nat}{z:JC}{Q:Ex->Fr->List ay->Prop}{hd:Hide Γ z Q}{O:Fr}{m m2 m1:List ay}{f:FuncId}{cap:List SV}
  (hv:∀ K:List ay->Prop,K m2->abK vb O m K) (hf:look g O= .fn f cap) (hok:iF P f=true) (hp:qX (aX ks O)) (hbk:G6 m2 m1) (hIT:abI P quiet n ps A.flat B.flat O f cap m2 m1) (hz:z.wp Γ m1.length Q (aX ks O) m1):rfK P quiet n Γ g ps A B vb ks z Q hd O m:=
 hv _ ⟨m1,f,cap,⟨hf,hok,hp,hbk⟩,hIT,hz⟩
namespace W
theorem abM:qX .nil=True:=nr rfl
theorem abN(k:Nat)(x:SV)(r:Fr):qX (.put k x r)=(jY x/\qX r):=nr rfl
theorem WY(s d:Nat)(x:SV)(r:Fr):qX (.pick s d x r)=(jY x/\qX r):=nr rfl
theorem aiR(k:IntKind)(n:Int):jY (.int k n)=True:=nr (by simp[jY])
theorem abO(b:Bool):jY (.bool b)=True:=nr (by simp[jY])
theorem aiS{O:Type}(w:Nat)(d:O)(f:O->SV)(l:List O):jY (.lst w d f l)=True:=nr (by simp[jY])
theorem abP{O:Type}(w:Nat)(d:O)(f:O->SV)(l:List O)(i:Nat)(p:List Step)(o:Nat):jY (.fM w d f l i p o)=True:=nr (by simp[jY])
theorem aiT(c:SV)(p:List Step)(o:Nat):jY (.ref c p o)=True:=nr (by simp[jY])
theorem aiU(i:Nat)(p:List Step)(o:Nat):jY (.ptr i p o)=True:=nr (by simp[jY])
theorem aiV(v:Value):jY (.raw v)=True:=nr (by simp[jY])
theorem abQ:jY .bF=True:=nr (by simp[jY])
theorem abR:jY .junk=True:=nr (by simp[jY])
theorem aiW(l:List SV):jY (.agg l)=wu l:=nr (by simp[jY])
theorem aoR(f:FuncId)(l:List SV):jY (.fn f l)=wu l:=nr (by simp[jY])
theorem abS:wu []=True:=nr (by simp[wu])
theorem WZ(x:SV)(l:List SV):wu (x::l)=(jY x/\wu l):=nr (by simp[wu])
theorem aiX(m:List ay):G6 [] m=True:=nr (by simp[G6])
theorem abT(x y:ay)(m m1:List ay):G6 (x::m) (y::m1)=((y.iH=true->x.iH=true)/\G6 m m1):=nr rfl
theorem abU(T:TypeId)(c:SV):(ay.blk T c).iH=true:=nr rfl
theorem aiY(ek ev:ES)(l:List (SV×SV)):(ay.mp ek ev l).iH=true:=nr rfl
theorem abV(T:TypeId)(w:Nat)(l:List SV):(ay.vec T w l).iH=false:=nr rfl
theorem W9:ay.dead.iH=false:=nr rfl
theorem Xa:uU []=true:=nr rfl
theorem Xb(k:IntKind)(n:Int)(l:List SV):uU (.int k n::l)=uU l:=nr rfl
theorem abW(xs:List SV)(O:Fr):F6 [] xs O=O:=nr (by simp[F6])
theorem Xc(k:Nat)(ks:List Nat)(x:SV)(xs:List SV)(O:Fr):F6 (k::ks) (x::xs) O=F6 ks xs (.put k x O):=nr rfl
theorem abX(O:Fr)(m:List ay)(K:List ay->Prop):abK none O m K=K m:=nr rfl
theorem PU(r:Nat->Option Nat)(v:Value):ren r (.raw v)= .raw v:=nr (by simp[ren])
theorem aiZ(i:Nat)(v:Value):kill i (.raw v)= .raw v:=nr (by simp[kill])
theorem abY(v:Value):(SV.raw v).isVal=true:=nr rfl
section
variable {quiet:FuncId->Bool} {n n0:Nat} {Γ:FH} {Q:Ex->Fr->List ay->Prop} {O:Fr} {m:List ay} {Y:List SV->List ay->List ay->Prop} {yv:Value}
theorem avL{a:JC}{b:XC}:XC.wp P quiet n Γ n0 (.seq a b) Q O m=a.wp Γ n0 (λe O' m'=>match e with
  | .norm=>b.wp P quiet n Γ n0 Q O' m'
  |e=>Q e O' m') O m:=propext Iff.rfl
theorem ai0{ks:List Nat}{b:XC}:XC.wp P quiet n Γ n0 (.prune ks b) Q O m=b.wp P quiet n Γ n0 Q (aX ks O) m:=propext Iff.rfl
theorem ayP{x:JC}{id g:Nat}{ps:List Nat}{A B:JC}{vb:Option (Nat×Nat×Nat)}{ks:List Nat}{z:JC}:XC.wp P quiet n Γ n0 (.rf x id g ps A B vb ks z) Q O m=x.wp Γ n0 (λe O m=>match e with
  | .norm=>rfK P quiet n Γ g ps A B vb ks z Q ⟨⟩ O m
  |e=>Q e O m) O m:=propext Iff.rfl
theorem abZ{g:Nat}{ps:List Nat}{A B:JC}{vb:Option (Nat×Nat×Nat)}{ks:List Nat}{z:JC}{hd:Hide Γ z Q}{O':Fr}{m':List ay}(h1:wX O=O')(h2:wX m=m'):rfK P quiet n Γ g ps A B vb ks z Q hd O m=rfK P quiet n Γ g ps A B vb ks z Q hd O' m':=by subst h1;subst h2;rfl
theorem ayQ{c:JC}:YC.wp Γ Y yv n0 (.jc c) Q O m=c.wp Γ n0 Q O m:=propext Iff.rfl
theorem avM{a b:YC}:YC.wp Γ Y yv n0 (.seq a b) Q O m=a.wp Γ Y yv n0 (λe O' m'=>match e with
  | .norm=>b.wp Γ Y yv n0 Q O' m'
  |e=>Q e O' m') O m:=propext Iff.rfl
theorem ai1{id:Nat}{c:YC}:YC.wp Γ Y yv n0 (.block id c) Q O m=c.wp Γ Y yv n0 (λe O' m'=>match e with
  | .exit i=>if i=id then Q .norm O' m' else Q (.exit i) O' m'
  |e=>Q e O' m') O m:=propext Iff.rfl
theorem ai2{ks:List Nat}{c:YC}:YC.wp Γ Y yv n0 (.prune ks c) Q O m=c.wp Γ Y yv n0 Q (aX ks O) m:=propext Iff.rfl
theorem ayR{A B:SL}{s d c e:Nat}{ks:List Nat}{x:aS}{ys:List aS}:YC.wp Γ Y yv n0 (.yl A s ks B d x ys c e) Q O m=A.wp Γ false (λO m=>match look s O with
  | .bool b=>(b=false->Q .norm (.put e (.bool false) (aX ks O)) m)/\(b=true->B.Vu Γ false s true (λO' m'=>(qX (aX ks O')/\x.fv O'= .raw yv/\uU (ys.map (aS.fv O'))=true)/\
    ∃ m'',Y (ys.map (aS.fv O')) m' m''/\Q .norm (.put e (.bool false) (aX ks O')) m'') O m)
  |_=>False) O m:=propext Iff.rfl
theorem Xd{c:YC}{O':Fr}{m':List ay}(h1:wX O=O')(h2:wX m=m'):YC.wp Γ Y yv n0 c Q O m=YC.wp Γ Y yv n0 c Q O' m':=by subst h1;subst h2;rfl
theorem Xe{c:XC}{O':Fr}{m':List ay}(h1:wX O=O')(h2:wX m=m'):XC.wp P quiet n Γ n0 c Q O m=XC.wp P quiet n Γ n0 c Q O' m':=by subst h1;subst h2;rfl
end
end W
attribute [congr] W.Xd W.Xe W.abZ
attribute [go_sem] W.abM W.abN W.WY W.aiR W.abO W.aiS W.abP W.aiT W.aiU W.aiV W.abQ W.abR W.aiW W.aoR W.abS W.WZ W.aiX W.abT W.abU W.abV W.aiY W.W9 W.Xa W.Xb W.abW W.Xc W.abX W.abY W.PU W.aiZ W.avL W.ai0 W.ayP W.ayQ W.avM W.ai1 W.ai2 W.ayR
theorem avN{Γ:FH}{Y:List SV->List ay->List ay->Prop}{yv:Value}{n0:Nat}{keep mod:List Nat}{c:YC}{Q:Ex->Fr->List ay->Prop}{O:Fr}{m:List ay}(ι:Type)(U:ι->List SV)(M:ι->List ay)(ok:ι->Prop)(μ:ι->Nat)(i0:ι)
  (h0:ok i0) (hσ:V4 mod (U i0) O) (hm:M i0=m)
  (h:∀ i,ok i->c.wp Γ Y yv n0 (λe O' m'=>match e with
    | .norm=> ∃ j,ok j/\μ j<μ i/\n0<=(M j).length/\atR (ug (M j).length) mod (U j) O'/\xX (ug (M j).length) O O' keep/\(m'.take (M j).length).map (dM (ug (M j).length))=M j
    |e=>Q e O' m') (qp mod (U i) (aX keep O)) (M i)):YC.wp Γ Y yv n0 (.loop keep mod c) Q O m:=
 ⟨ι,U,M,ok,μ,i0,h0,hσ,hm,h⟩
def FH.nw(f:FuncId){α:Type}(A:DA α)(pre:α->Prop)(F:α->SV)(M:α->List ay)(Γ:FH):FH:=
 FH.on f (λargs m=> .is (A.aA (A.aG [] args)=args/\pre (A.aG [] args)) (ren (IY m.length) (F (A.aG [] args))) (m++(M (A.aG [] args)).map (dM (IY m.length)))) Γ
theorem FH.ayS{f:FuncId}{α:Type}{A:DA α}{pre:α->Prop}{F:α->SV}{M:α->List ay}{Γ:FH}(h:∀ y,pre y->FnOK P f (A.aA y) [] (F y) (M y))(hΓ:aW P Γ)(hf:iF P f=true:=by kernel_rfl):aW P (FH.nw f A pre F M Γ):=
 FH.xU (λargs m hp=>⟨hf,yN (h _ hp.2) (by have hh:=A.ren (λ_=>Option.none) (A.aG [] args);rw[hp.1] at hh;exact hh.trans hp.1.symm)⟩) hΓ
theorem W.ayT(f:FuncId){α:Type}(A:DA α)(pre:α->Prop)(F:α->SV)(M:α->List ay)(Γ:FH)(g:FuncId)(args:List SV)(m:List ay):FH.nw f A pre F M Γ g args m=if g=f then .is (A.aA (A.aG [] args)=args/\pre (A.aG [] args)) (ren (IY m.length) (F (A.aG [] args))) (m++(M (A.aG [] args)).map (dM (IY m.length))) else Γ g args m:=nr rfl
attribute [go_sem ↓] W.ayT
end Go.Sx
