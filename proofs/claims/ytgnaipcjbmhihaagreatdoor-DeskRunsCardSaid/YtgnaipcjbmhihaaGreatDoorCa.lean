/- A part of DeskRuns' proof. -/
import Derived.Test.YtgnaipcjbmhihaaGreatDoorBa
import Derived.Attr
import Derived.RowKit3
import Derived.ChangeArms
import Derived.OpenShut
import Derived.OwnWalk
set_option linter.unusedVariables false
set_option linter.unusedSimpArgs false
open Option renaming map_eq_some_iff->z00,some.injEq->z0m
open Bool renaming and_eq_true->z01,false_eq_true->z0x
open List renaming getD->z02,getElem?_eq_getElem->z03,replicate->z05,range->z06,getElem?_append_right->z07,getElem?_set->z09,getElem?_append_left->z0b,getElem?_range->z0d,getElem?_map->z0g,ext_getElem?->z0n,nodup_cons->z0p,mapM_cons->z0r,getElem?_eq_none->z0s,getD_cons_succ->z0u,getElem?_take->z0v,getElem?_drop->z0w,nodup_range->z0y,cons_append->z0z,mem_append->z15,length_set->z16,idxOf_cons->z18,foldl_cons->z19,nodup_nil->z1a,mem_cons->z1b,all_cons->z1c
open Nat renaming lt_or_ge->z04,zero_le->z08,not_lt_zero->z0c,le_refl->z0h,le_trans->z0j,zero_add->z0o,mul_le_mul_right->z0t
open Go.Value renaming okWide->z0a,cells->z0f,ownBlock->z0k
open Go.Code renaming wp_mono->z0e
open Classical renaming choose_spec->z0i,choose->z0l
open Array renaming getElem?_eq_some_iff->z0q,replicate->z14
namespace Go.Sx
open Go
variable {P:Program}
def FnOK(P:Program)(f:FuncId)(args:List SV)(m0:List ay)(res:SV)(m1:List ay):Prop:=
 ∀ J w vs,Good J m0 w->bg args J vs->Calls P f vs.toArray w λe w'=> ∃ v J',e= .returned v/\bM J' res v/\Inv ⟨w,J,λb=> ∃ i,aN J i (ah m0 i)=some b⟩ J' m1 w'
theorem Inv.start{J:Env}{m:List ay}{w:World}(g:Good J m w):Inv ⟨w,J,λb=> ∃ i,aN J i (ah m i)=some b⟩ J m w:=
 ⟨g,Kept.refl _ _ _,λi _ h=> .inl ⟨i,h⟩,z0h _,λ_ _=>rfl,λ_ _ _=>rfl⟩
theorem dO{J:Env}:∀ {args:List SV} {vs:List Value} (_:bg args J vs) (n:Nat),aH J (args++z05 n .junk) {tmps:=vs.toArray++z14 n undef,defers:=[]}:=by
 intro args vs h n;have hl:∀ {args:List SV} {vs:List Value},bg args J vs->args.length=vs.length/\∀ k,k<args.length->bM J (args.getD k .junk) (vs.getD k undef):=by
  intro args
  induction args with
  |nil=>intro vs h;simp only[bg] at h;subst h;exact⟨rfl,λk hk=>absurd hk (z0c _)⟩
  |cons x r ih=>
   intro vs h;simp only[bg] at h;obtain⟨cs,t,rfl,h2,h3⟩:=h;obtain⟨i1,i2⟩:=ih h3;refine⟨by simp[i1],λk hk=> ?_⟩
   cases k with
   |zero=>exact iG h2
   |succ k=>simp only[z0u];exact i2 k (by simpa using hk)
 obtain⟨h1,h2⟩:=hl h;refine⟨by simp[h1],λk=> ?_⟩
 by_cases hk:k<args.length
 ·have e1:(args++z05 n SV.junk).getD k .junk=args.getD k .junk:=by simp[z02,z0b hk]
  have e2:(vs.toArray++z14 n undef).getD k undef=vs.getD k undef:=by
   rw[Array.getD_eq_getD_getElem?,Array.getElem?_append_left (by simp;omega)]
   simp[z02]
  rw[e1,e2];exact h2 k hk
 ·have e1:(args++z05 n SV.junk).getD k .junk= .junk:=by simp only[z02,z07 (Nat.le_of_not_lt hk)];rw[List.getElem?_replicate];split<;>rfl
  rw[e1];trivial
def nR(P:Program)(σ:List SV)(m:List ay)(K:SV->Prop):List ResultVar->Prop
 |[]=>K (.bK [])
 |[.tmp t]=>K (σ.getD t .junk)
 |[.cell t T]=>match qm P T with
  |some (n,ag)=>peek m n ag K (σ.getD t .junk)
  |none=>False
 |l=>go l λxs=>K (.bK xs)
where go:List ResultVar->(List SV->Prop)->Prop
 |[],K=>K []
 | .tmp t::r,K=>(σ.getD t .junk).isVal=true/\go r λxs=>K (σ.getD t .junk::xs)
 | .cell t T::r,K=>match qm P T with
  |some (n,ag)=>peek m n ag (λx=>x.isVal=true/\go r λxs=>K (x::xs)) (σ.getD t .junk)
  |none=>False
end Go.Sx
namespace Go.Sx
open Go
variable {P:Program}
def mG(is:List Nat)(n:Nat)(j:Nat):Option Nat:=if j<is.length then is[j]? else some (n+(j - is.length))
def fA(is:List Nat)(m:List ay)(m1:List ay):List ay:=
 (is.zipIdx.foldl (λ(acc:List ay) x=>acc.set x.1 (dM (mG is m.length) (ah m1 x.2))) m)++(m1.drop is.length).map (dM (mG is m.length))
theorem uK(r:Nat->ay):∀ (l:List (Nat×Nat)) (m:List ay),(l.foldl (λ(acc:List ay) x=>acc.set x.1 (r x.2)) m).length=m.length
 |[],_=>rfl
 |x::l,m=>by simp only[z19];rw[uK r l];simp
theorem CY(r:Nat->ay):∀ (is:List Nat) (k:Nat) (m:List ay) (_:is.Nodup) (_:∀ i∈is,i<m.length) (i:Nat),
  ah ((is.zipIdx k).foldl (λ(acc:List ay) x=>acc.set x.1 (r x.2)) m) i=if i∈is then r (k+is.idxOf i) else ah m i
 |[],k,m,_,_,i=>by simp
 |a::is,k,m,hn,hlt,i=>by
  simp only[List.zipIdx_cons,z19];have hn':=z0p.1 hn;rw[CY r is (k+1) _ hn'.2 (λj hj=>by rw[z16];exact hlt j (by simp[hj])) i]
  by_cases hi:i∈is
  ·rw[if_pos hi,if_pos (by simp[hi])]
   have:i≠a:=λe=>hn'.1 (e▸hi);have he:(a::is).idxOf i=is.idxOf i+1:=by
    rw[z18];have:(a==i)=false:=by simpa using λe=>this e.symm
    rw[this];rfl
   rw[he]
   congr 1;omega
  ·rw[if_neg hi];by_cases hia:i=a
   ·subst hia;rw[if_pos (by simp),List.idxOf_cons_self,Nat.add_zero]
    have:=hlt i (by simp)
    simp[ah,this]
   ·rw[if_neg (by simp[hi,hia])]
    unfold ah;simp only[List.getD_eq_getElem?_getD,z09];rw[if_neg (λe=>hia e.symm)]
theorem afD{is:List Nat}{m m1:List ay}(hn:is.Nodup)(hlt:∀ i∈is,i<m.length)(i:Nat):
  ah (fA is m m1) i=if i∈is then dM (mG is m.length) (ah m1 (is.idxOf i)) else if i<m.length then ah m i else
   dM (mG is m.length) (ah m1 (is.length+(i - m.length))):=by
 have hlen:=uK (λk=>dM (mG is m.length) (ah m1 k)) is.zipIdx m;unfold fA;rcases z04 i m.length with hi|hi
 ·rw[bD (by rw[hlen];exact hi),CY (λk=>dM (mG is m.length) (ah m1 k)) is 0 m hn hlt i]
  simp[hi]
 ·have hni:i∉is:=λh=>by have:=hlt i h;omega
  rw[if_neg hni,if_neg (by omega)]
  have e1:∀ (l1 l2:List ay),l1.length=m.length->ah (l1++l2) i=ah l2 (i - m.length):=by intro l1 l2 hl1;unfold ah;rw[z02,z07 (by omega),hl1];rfl
  rw[e1 _ _ hlen];unfold ah;rw[z02,z0g,z0w,z02];cases m1[is.length+(i - m.length)]? <;>rfl
theorem Oo{is:List Nat}{m m1:List ay}:(fA is m m1).length=m.length+(m1.length - is.length):=by have hlen:=uK (λk=>dM (mG is m.length) (ah m1 k)) is.zipIdx m;simp[fA,hlen]
theorem Iy{mk:Value->Ending}{f:FuncId}{m m0 m1:List ay}{res:SV}(is:List Nat)(hn:is.Nodup)(hb:∀ i∈is,(ah m i).iH=true)
  (hm:lG is m=m0) (hl:is.length<=m1.length) (VO:∀ j,j<is.length->(ah m1 j).iH=true) {β:Base} {J:Env} {vs:List Value} {w:World} (hi:Inv β J m w)
  (h:Good (lU is J) m0 w->Calls P f vs.toArray w λe w'=> ∃ v J',e=mk v/\bM J' res v/\Inv ⟨w,lU is J,λb=> ∃ i,aN (lU is J) i (ah m0 i)=some b⟩ J' m1 w'):
  Calls P f vs.toArray w λe w'=> ∃ v J',e=mk v/\J.Le J'/\bM J' (ren (mG is m.length) res) v/\Inv β J' (fA is m m1) w':=by
 have hlt:∀ i∈is,i<m.length:=by
  intro i h;rcases z04 i m.length with h'|h'
  ·exact h'
  ·have:=hb i h;rw[dh h'] at this;cases this
 have hg:=hi.good.sel is hn;rw[hm] at hg;refine(h hg).mono λe w' ⟨v,J',he,hv,hi'⟩=> ?_;subst he;have amV:∀ j,j<is.length->aN (lU is J) j (ah m0 j)=aN J (is.getD j 0) (ah m (is.getD j 0)):=by intro j hj;rw[<- hm,zY hj];exact vG rfl rfl
 have aDC:m0.length=is.length:=by rw[<- hm];simp[lG]
 have axV:=hi'.good.n;have Zm:∀ b,(∃ i,aN (lU is J) i (ah m0 i)=some b)->∃ i,i∈is/\aN J i (ah m i)=some b:=by
  rintro b ⟨j,hj⟩;rcases z04 j is.length with h1|h1
  ·rw[amV j h1] at hj;refine⟨is.getD j 0,?_,hj⟩;simp[z02,h1]
  ·rw[dh (by omega)] at hj;cases hj
 let J2:Env:= {n:=J.n+(m1.length - is.length),blk:=λi=>if i<J.n then J.blk i else J'.blk (is.length+(i - J.n)),vv:=λi=>if i<J.n then J.vv i else J'.vv (is.length+(i - J.n)),H:=J'.H}
 have hn2:=hi.good.n;have hle:J.Le J2:=⟨Nat.le_add_right _ _,λi hi=>by simp[J2,hi],λi hi=>by simp[J2,hi],hi'.kept.H⟩
 have hblk':∀ j,j<is.length->J'.blk j=J.blk (is.getD j 0):=λj hj=>hi'.blk j (by show j<is.length;exact hj)
 have as9:∀ j,j<is.length->is.getD j 0<m.length:=λj hj=>hlt _ (by simp[z02,hj])
 have ata:∀ j,j<is.length->J'.vv j=J.vv (is.getD j 0):=λj hj=>hi'.vv j (by show j<is.length;exact hj) (VO j hj)
 have hidx:∀ i,i∈is->is.idxOf i<is.length/\is.getD (is.idxOf i) 0=i:=by intro i hi;have hlt:=List.idxOf_lt_length_of_mem hi;exact⟨hlt,by simp[z02,hlt]⟩
 have e2b:∀ i,i<m.length->J2.blk i=J.blk i:=λi hi=>by simp[J2,hn2,hi]
 have e2v:∀ i,i<m.length->J2.vv i=J.vv i:=λi hi=>by simp[J2,hn2,hi]
 have atb:∀ i,m.length<=i->J2.blk i=J'.blk (is.length+(i - m.length)):=λi hi=>by simp[J2,hn2,Nat.not_lt.2 hi]
 have atc:∀ i,m.length<=i->J2.vv i=J'.vv (is.length+(i - m.length)):=λi hi=>by simp[J2,hn2,Nat.not_lt.2 hi]
 have atd:yM (mG is m.length) J' J2:=by
  refine⟨λj hj i hji=> ?_,λ_ _ h=>h⟩;unfold mG at hji;rw[axV] at hj;split at hji
  ·rename_i hjl;have hg2:is.getD j 0=i:=by simp[z02,hji]
   have hil:i<m.length:=by rw[<- hg2];exact as9 j hjl
   exact⟨by simp only[J2];omega,by rw[e2b i hil,hblk' j hjl,hg2],by rw[e2v i hil,ata j hjl,hg2]⟩
  ·rename_i hjl;simp only[z0m] at hji;subst hji;have:is.length+(m.length+(j - is.length) - m.length)=j:=by omega
   exact⟨by simp only[J2];omega,by rw[atb _ (by omega),this],by rw[atc _ (by omega),this]⟩
 have hat:=afD (m1:=m1) hn hlt;have hA:∀ i,i∈is->aN J2 i (ah (fA is m m1) i)=aN J' (is.idxOf i) (ah m1 (is.idxOf i)):=by intro i hi;obtain⟨h1,h2⟩:=hidx i hi;rw[hat,if_pos hi];exact vG (by rw[e2b i (hlt i hi),hblk' _ h1,h2]) (by rw[e2v i (hlt i hi),ata _ h1,h2])
 have hB:∀ i,i∉is->i<m.length->aN J2 i (ah (fA is m m1) i)=aN J i (ah m i):=by intro i hi hil;rw[hat,if_neg hi,if_pos hil];cases ah m i<;>simp[aN,e2b i hil,e2v i hil]
 have hC:∀ i,m.length<=i->aN J2 i (ah (fA is m m1) i)=aN J' (is.length+(i - m.length)) (ah m1 (is.length+(i - m.length))):=by
  intro i hi;have hni:i∉is:=λh=>by have:=hlt i h;omega
  rw[hat,if_neg hni,if_neg (by omega)]
  exact vG (atb i hi) (atc i hi)
 have afE:∀ j b,aN J' j (ah m1 j)=some b->(∃ i,i∈is/\aN J i (ah m i)=some b)\/w.heap.size<=b:=by
  intro j b hb;rcases hi'.own j b hb with h1|h1
  ·exact .inl (Zm b h1)
  ·exact .inr h1
 have hcase:∀ i b,aN J2 i (ah (fA is m m1) i)=some b->(∃ j,aN J' j (ah m1 j)=some b/\((i∈is/\j=is.idxOf i)\/(m.length<=i/\j=is.length+(i - m.length))))\/(i∉is/\i<m.length/\aN J i (ah m i)=some b):=by
  intro i b hb;by_cases hi:i∈is
  ·rw[hA i hi] at hb;exact .inl ⟨_,hb, .inl ⟨hi,rfl⟩⟩
  ·rcases z04 i m.length with hil|hil
   ·rw[hB i hi hil] at hb;exact .inr ⟨hi,hil,hb⟩
   ·rw[hC i hil] at hb;exact .inl ⟨_,hb, .inr ⟨hil,rfl⟩⟩
 have hsame:∀ b,b<w.heap.size->(∀ i,i∈is->aN J i (ah m i)≠some b)->w'.heap[b]? =w.heap[b]? :=by intro b hb hno;refine hi'.kept.heap b hb (λhBb=> ?_);obtain⟨i,h1,h2⟩:=Zm b hBb;exact hno i h1 h2
 have hinv:Inv β J2 (fA is m m1) w':=by
  refine⟨⟨by rw[Oo];simp[J2,hn2],λi=> ?_,λi j b hij h1 h2=> ?_,λi b hb=> ?_,λb o hb=>hi'.good.hv b o hb,hi'.good.gl⟩,
   ⟨hi'.kept.os.trans hi.kept.os,hi'.kept.tape.trans hi.kept.tape,hi'.kept.output.trans hi.kept.output,z0j hi.kept.size hi'.kept.size,λb hb hB2=> ?_,λb o hb=>hi'.kept.H b o (hi.kept.H b o hb),λb o hb=> ?_,λe=>z0j (hi.kept.drawn e) (hi'.kept.drawn e)⟩,
   λi b hb=> ?_,z0j hi.n (by simp only[J2];omega),λi hi2=> ?_,λi hi2 hv2=> ?_⟩
  ·by_cases him:i∈is
   ·obtain⟨h1,h2⟩:=hidx i him;rw[hat,if_pos him];exact gu.ren atd (by rw[e2b i (hlt i him),hblk' _ h1,h2]) (by rw[e2v i (hlt i him),ata _ h1,h2]) (hi'.good.res _)
   ·rcases z04 i m.length with hil|hil
    ·rw[hat,if_neg him,if_pos hil];have hr:=hi.good.res i;have hne:∀ b,aN J i (ah m i)=some b->w'.heap[b]? =w.heap[b]? :=λb hb=>
      hsame b (dU hi.good hb) (λi2 h1 h2=>hi.good.pF i i2 b (λe=>him (e▸h1)) hb h2)
     cases hmi:ah m i with
     |dead=>trivial
     |blk T c=>
      rw[hmi] at hr;obtain⟨cs,h1,h2⟩:=hr;exact⟨cs,by rw[e2b i hil,hne _ (by rw[hmi];rfl)];exact h1,h2.mono c hle⟩
     |vec T w2 l=>
      rw[hmi] at hr;obtain⟨xs,h1,h2⟩:=hr;refine⟨xs,?_,λk hk=>(h2 k hk).mono _ hle⟩;rw[e2v i hil];refine⟨h1.1,?_⟩;rcases h1.2 with hx|⟨gg,cap,cur,q1,q2,q3,q4⟩
      ·exact .inl hx
      ·exact .inr ⟨gg,cap,cur,q1,q2,by rw[hne gg (by rw[hmi];simp[aN,q1,z0k])];exact q3,q4⟩
     |mp ek ev l=>
      rw[hmi] at hr;obtain⟨es,cl,h1,h2⟩:=hr;exact⟨es,cl,by rw[e2b i hil,hne _ (by rw[hmi];rfl)];exact h1,h2⟩
    ·rw[hat,if_neg him,if_neg (by omega)]
     exact gu.ren atd (atb i hil) (atc i hil) (hi'.good.res _)
  ·rcases hcase i b h1 with⟨a,ha,hai⟩|⟨hi1,hi2,hi3⟩<;>rcases hcase j b h2 with⟨c,hc,hcj⟩|⟨hj1,hj2,hj3⟩
   ·refine hi'.good.pF a c b (λe=>hij ?_) ha hc;subst e;rcases hai with⟨q1,q2⟩|⟨q1,q2⟩<;>rcases hcj with⟨q3,q4⟩|⟨q3,q4⟩
    ·rw[<- (hidx i q1).2,<- (hidx j q3).2,<- q2,<- q4]
    ·have:=(hidx i q1).1;omega
    ·have:=(hidx j q3).1;omega
    ·omega
   ·rcases afE a b ha with⟨i2,q1,q2⟩|q
    ·exact hi.good.pF i2 j b (λe=>hj1 (e▸q1)) q2 hj3
    ·have:=dU hi.good hj3;omega
   ·rcases afE c b hc with⟨i2,q1,q2⟩|q
    ·exact hi.good.pF i2 i b (λe=>hi1 (e▸q1)) q2 hi3
    ·have:=dU hi.good hi3;omega
   ·exact hi.good.pF i j b hij hi3 hj3
  ·rcases hcase i b hb with⟨a,ha,_⟩|⟨hi1,hi2,hi3⟩
   ·exact hi'.good.sep a b ha
   ·cases hh:J'.H b with
    |none=>rfl
    |some o=>
     rcases hi'.kept.fresh b o hh with q|q|q
     ·have q':J.H b=some o:=q;have:=hi.good.sep i b hi3;rw[this] at q';cases q'
     ·have:=dU hi.good hi3;have q':w.heap.size<=b:=q;omega
     ·obtain⟨i2,q1,q2⟩:=Zm b q;exact absurd hi3 (hi.good.pF i2 i b (λe=>hi1 (e▸q1)) q2)
  ·rw[hsame b (Nat.lt_of_lt_of_le hb hi.kept.size) (λi h1 h2=>by
    rcases hi.own i b h2 with q|q
    ·exact hB2 q
    ·omega)]
   exact hi.kept.heap b hb hB2
  ·rcases hi'.kept.fresh b o hb with q|q|q
   ·exact hi.kept.fresh b o q
   ·exact .inr (.inl (z0j hi.kept.size q))
   ·obtain⟨i,_,q2⟩:=Zm b q;rcases hi.own i b q2 with q|q
    ·exact .inr (.inr q)
    ·exact .inr (.inl q)
  ·rcases hcase i b hb with⟨a,ha,_⟩|⟨_,_,hi3⟩
   ·rcases afE a b ha with⟨i2,_,q2⟩|q
    ·exact hi.own i2 b q2
    ·exact .inr (z0j hi.kept.size q)
   ·exact hi.own i b hi3
  ·have:=hi.n;rw[e2b i (by omega)];exact hi.blk i hi2
  ·have:=hi.n;rw[e2v i (by omega)]
   refine hi.vv i hi2 ?_;by_cases him:i∈is
   ·exact hb i him
   ·rw[hat,if_neg him,if_pos (by omega)] at hv2;exact hv2
 exact⟨v,J2,rfl,hle,hv.ren atd,hinv⟩
theorem Ez{f:FuncId}{jJ:List SV}{m m0 m1:List ay}{res:SV}(h:FnOK P f jJ m0 res m1)(is:List Nat)(hn:is.Nodup)(hb:∀ i∈is,(ah m i).iH=true)
  (hm:lG is m=m0) (hl:is.length<=m1.length) (VO:∀ j,j<is.length->(ah m1 j).iH=true) {β:Base} {J:Env} {vs:List Value} {w:World} (hi:Inv β J m w) (hs':bg jJ (lU is J) vs):
  Calls P f vs.toArray w λe w'=> ∃ v J',e= .returned v/\J.Le J'/\bM J' (ren (mG is m.length) res) v/\Inv β J' (fA is m m1) w':=
 Iy (mk:= .returned) is hn hb hm hl VO hi λhg=>h _ _ _ hg hs'
theorem Bv{f:FuncId}{args jJ:List SV}{m m0 m1:List ay}{res:SV}(h:FnOK P f jJ m0 res m1)(is:List Nat)(hn:is.Nodup)(hb:∀ i∈is,(ah m i).iH=true)
  (ha:dW (kK is) args=jJ) (hm:lG is m=m0) (hl:is.length<=m1.length) (VO:∀ j,j<is.length->(ah m1 j).iH=true):iU P f args m (ren (mG is m.length) res) (fA is m m1):=by
 intro β J vs w hi hs;have hs':=bg.ren (kK is) args (ku is J) hs;rw[ha] at hs';exact Ez h is hn hb hm hl VO hi hs'
theorem yN{f:FuncId}{args jJ:List SV}{m m1:List ay}{res:SV}(h:FnOK P f jJ [] res m1)(ha:dW (λ_=>none) args=jJ):
  iU P f args m (ren (λj=>some (m.length+j)) res) (m++m1.map (dM λj=>some (m.length+j))):=by
 have:=Bv (m:=m) h [] z1a (λ_ h=>by cases h) (by rw[show kK []=λ_=>none from funext λi=>by simp[kK]];exact ha) rfl (z08 _) (λ_ h=>by cases h)
 have e:(mG [] m.length)=λj=>some (m.length+j):=by funext j;simp[mG]
 rw[e] at this;have e2:fA [] m m1=m++m1.map (dM λj=>some (m.length+j)):=by simp[fA,e]
 rw[e2] at this;exact this
def Iz(ks:List Nat)(n0:Nat)(res:SV)(m1:List ay)(m:List ay)(x:SV):Prop:=
 (ks.Nodup/\∀ i,i<n0->ks[i]? =some i)/\ren (kK ks) x=res/\lG ks m=m1
def resV(tmps:Array Value):ResultVar->Sem Value
 | .tmp t=>pure (tmps.getD t undef)
 | .cell b t=>do loadVar t (<- asAddr (tmps.getD b undef))
def ate:List Value->Value
 |[v]=>v
 |vs=> .tuple vs.toArray
theorem jR{fn:Func}{tmps:Array Value}{w:World}{rs:List ResultVar}(hrs:fn.results.toList=rs){vs:List Value}
  (h:(rs.mapM (resV tmps)).run P w= .ok vs w):(results fn tmps).run P w= .ok (ate vs) w:=by
 have e:results fn tmps=(do let vs <- fn.results.mapM (resV tmps);pure (if h:vs.size=1 then vs[0] else .tuple vs)):=by
  unfold results
  congr 1
 rw[e,Array.mapM_eq_mapM_toList,hrs];simp only[Sem.run_bind,Sem.run_map,h,Result.andThen_ok,Sem.run_pure]
 congr 1
 match vs with
 |[]=>rfl
 |[v]=>rfl
 |v::u::r=>simp[ate]
theorem res_one{σ:List SV}{m:List ay}{r:ResultVar}{K:SV->Prop}
  (h:match r with
   | .tmp t=>K (σ.getD t .junk)
   | .cell t T=>match qm P T with
    |some (n,ag)=>peek m n ag K (σ.getD t .junk)
    |none=>False):∃ x,K x/\∀ J a w,Good J m w->aH J σ a->∃ v,(resV a.tmps r).run P w= .ok v w/\bM J x v:=by
 cases r with
 |tmp t=>exact⟨_,h,λJ a w hg hs=>⟨_,rfl,hs.2 t⟩⟩
 |cell t T=>
  simp only at h;split at h
  ·rename_i n ag ht;obtain⟨c,hK,hag,hone,hh⟩:=Zn h;refine⟨c,hK,λJ a w hg hs=> ?_⟩;obtain⟨b,off,cur,T',fz,e1,e2,e3,e4⟩:=hh J w _ hg (hs.2 t);refine⟨_,?_,hag▸iG e4⟩;simp only[resV,Sem.run_bind,e1,asAddr,Sem.run_pure,Result.andThen_ok,yO ht hone w e2 e3]
  ·exact h.elim
theorem afF{σ:List SV}{m:List ay}:∀ {rs:List ResultVar} {K:List SV->Prop},nR.go P σ m rs K->∃ xs,K xs/\∀ J a w,Good J m w->aH J σ a->∃ vs,(rs.mapM (resV a.tmps)).run P w= .ok vs w/\bg xs J vs/\vs.length=rs.length
 |[],K,h=>⟨[],h,λ_ _ _ _ _=>⟨[],rfl,rfl,rfl⟩⟩
 |r::rs,K,h=>by
  have h':∃ x,(x.isVal=true/\nR.go P σ m rs λxs=>K (x::xs))/\∀ J a w,Good J m w->aH J σ a->∃ v,(resV a.tmps r).run P w= .ok v w/\bM J x v:=by apply res_one;cases r<;>simp only[nR.go] at h<;>exact h
  obtain⟨x,⟨hx,hgo⟩,hrun⟩:=h';obtain⟨xs,hK,hrun2⟩:=afF hgo;refine⟨x::xs,hK,λJ a w hg hs=> ?_⟩;obtain⟨v,e1,e2⟩:=hrun J a w hg hs;obtain⟨vs,e3,e4,e5⟩:=hrun2 J a w hg hs;obtain⟨cs,e6,e7⟩:=ig e2 hx;refine⟨v::vs,by simp[z0r,e1,e3],?_,by simp[e5]⟩
  simp only[bg];exact⟨cs,vs,by rw[e7],e6,e4⟩
theorem wO{σ:List SV}{m:List ay}{K:SV->Prop}{fn:Func}{rs:List ResultVar}(hrs:fn.results.toList=rs)(h:nR P σ m K rs):
  ∃ x,K x/\∀ J a w,Good J m w->aH J σ a->∃ v,(results fn a.tmps).run P w= .ok v w/\bM J x v:=by
 match rs,hrs,h with
 |[],hrs,h=>exact⟨_,h,λJ a w hg hs=>⟨_,jR hrs (vs:=[]) rfl,⟨[],rfl,rfl⟩⟩⟩
 |[.tmp t],hrs,h=>
  obtain⟨x,hK,hrun⟩:=res_one (P:=P) (σ:=σ) (m:=m) (r:= .tmp t) h;refine⟨x,hK,λJ a w hg hs=> ?_⟩;obtain⟨v,e1,e2⟩:=hrun J a w hg hs;exact⟨v,jR hrs (vs:=[v]) (by simp[z0r,e1]),e2⟩
 |[.cell t T],hrs,h=>
  obtain⟨x,hK,hrun⟩:=res_one (P:=P) (σ:=σ) (m:=m) (r:= .cell t T) h;refine⟨x,hK,λJ a w hg hs=> ?_⟩;obtain⟨v,e1,e2⟩:=hrun J a w hg hs;exact⟨v,jR hrs (vs:=[v]) (by simp[z0r,e1]),e2⟩
 |r1::r2::rs,hrs,h=>
  have h':nR.go P σ m (r1::r2::rs) λxs=>K (.bK xs):=by cases r1<;>exact h
  obtain⟨xs,hK,hrun⟩:=afF h';refine⟨_,hK,λJ a w hg hs=> ?_⟩;obtain⟨vs,e1,e2,e3⟩:=hrun J a w hg hs;refine⟨_,jR hrs e1,⟨vs,e2,?_⟩⟩
  match vs,e3 with
  |v::u::vs,_=>rfl
def aAi(rs:List ResultVar)(P:Program)(n0:Nat)(res:SV)(m1:List ay)(e:Ex)(σ:List SV)(m:List ay):Prop:=match e with
 | .exit _=>False
 |_=>nR P σ m (λx=> ∃ ks,Iz ks n0 res m1 m x) rs
end Go.Sx
namespace Go.Sx
open Go
variable {P:Program}
def fnIs(P:Program)(quiet:FuncId->Bool)(f:FuncId):Option (IC×List ResultVar×Nat):=match P.funcs[f]? with
 |some fn=>match fn.body with
  |some c=>match comp P quiet c with
   |some ic=>if fn.name != "runtime.NumGoroutine" then some (ic,fn.results.toList,fn.ntmps) else none
   |none=>none
  |none=>none
 |none=>none
theorem Zo{quiet:FuncId->Bool}{f:FuncId}{ic:IC}{rs:List ResultVar}{nt:Nat}(h:fnIs P quiet f=some (ic,rs,nt)):iF P f=true/\∃ fn c,P.funcs[f]? =some fn/\fn.body=some c/\comp P quiet c=some ic/\fn.results.toList=rs/\fn.ntmps=nt:=by
 unfold fnIs at h;split at h<;>try (cases h;done)
 rename_i fn hf;split at h<;>try (cases h;done)
 rename_i c hc;split at h<;>try (cases h;done)
 rename_i ic' hic;split at h<;>try (cases h;done)
 rename_i hn;simp only[z0m,Prod.mk.injEq] at h;obtain⟨rfl,rfl,rfl⟩:=h;refine⟨?_,fn,c,hf,hc,hic,rfl,rfl⟩;unfold iF;rw[hf];simp only[z01];exact⟨hn,by rw[hc];rfl⟩
def qall:FuncId->Bool:=λ_=>true
def aaW(l:List FuncId):FuncId->Bool:=λf=> !l.contains f
@[reducible] def q(d:Nat)(x:wK):dA:=⟨some d,none, .p x⟩
@[reducible] def r(d:Nat)(x:EIO):dA:=⟨some d,none, .e x⟩
@[reducible] def u(x:EIO):dA:=⟨none,none, .e x⟩
@[reducible] def g(d:Nat)(s:Nat)(b:Bool)(x:wK):dA:=⟨some d,some (s,b), .p x⟩
@[reducible] def ge(d:Nat)(s:Nat)(b:Bool)(x:EIO):dA:=⟨some d,some (s,b), .e x⟩
@[reducible] def I(n:Int):aS:= .c (.int .i64 n)
@[reducible] def B(b:Bool):aS:= .c (.bool b)
def Hook.on(f:FuncId)(S:List SV->List ay->(SV->List ay->Prop)->Prop)(Γ:Hook):Hook:=λg args m K=>if g=f then S args m K else Γ g args m K
theorem Hook.xU{f:FuncId}{S:List SV->List ay->(SV->List ay->Prop)->Prop}{Γ:Hook}(hf:iF P f=true)(hS:∀ args m K,S args m K->∃ sv m',K sv m'/\iU P f args m sv m')(hΓ:fB P Γ):fB P (Γ.on f S):=by
 intro g args m K h;unfold Hook.on at h;split at h
 ·rename_i e;subst e;exact⟨hf,hS args m K h⟩
 ·exact hΓ g args m K h
end Go.Sx
namespace Go.Sx
open Go
variable {P:Program}
noncomputable def gq(J:Env)(m:List ay)(w:World):Env:=
 {J with H:=λb=>open Classical in if ∃ i,aN J i (ah m i)=some b then w.heap[b]? else J.H b}
def iw(m:List ay):List ay:=m.map λ_=> .dead
theorem pI(m:List ay)(i:Nat):ah (iw m) i= .dead:=by unfold ah iw;rw[z02,z0g];cases m[i]? <;>rfl
theorem ru{J:Env}{m:List ay}{w:World}{i b:Nat}(h:aN J i (ah m i)=some b):(gq J m w).H b=w.heap[b]? :=by unfold gq;simp only;rw[if_pos ⟨i,h⟩]
theorem vH{J:Env}{m:List ay}{w:World}(g:Good J m w):∀ b o,J.H b=some o->(gq J m w).H b=some o:=by
 intro b o h;unfold gq;simp only;split
 ·rename_i hh;obtain⟨i,hi⟩:=hh;rw[g.sep i b hi] at h;cases h
 ·exact h
theorem Inv.freeze{β:Base}{J:Env}{m:List ay}{w:World}(h:Inv β J m w):Inv β (gq J m w) (iw m) w:=by
 have g:=h.good;refine⟨⟨by simp[gq,iw];exact g.n,(λi=>by rw[pI];trivial),(λi j b _ h1=>by rw[pI] at h1;cases h1),(λi b h1=>by rw[pI] at h1;cases h1),λb o hb=> ?_,g.gl.mono (vH g)⟩,
  ⟨h.kept.os,h.kept.tape,h.kept.output,h.kept.size,h.kept.heap,λb o hb=>vH g b o (h.kept.H b o hb),λb o hb=> ?_,h.kept.drawn⟩,(λi b h1=>by rw[pI] at h1;cases h1),h.n,h.blk,(λi _ hv=>by rw[pI] at hv;cases hv)⟩
 ·unfold gq at hb;simp only at hb;split at hb
  ·exact hb
  ·exact g.hv b o hb
 ·unfold gq at hb;simp only at hb;split at hb
  ·rename_i hh;obtain⟨i,hi⟩:=hh;rcases h.own i b hi with h1|h1
   ·exact .inr (.inr h1)
   ·exact .inr (.inl h1)
  ·exact h.kept.fresh b o hb
def Ir(x:SV):Prop:= ∀ J J' cs,J'.n=J.n->J'.blk=J.blk->J'.vv=J.vv->au x J cs->au x J' cs
def KX(x:SV):Prop:= ∀ J J' v,J'.n=J.n->J'.blk=J.blk->J'.vv=J.vv->bM J x v->bM J' x v
def wP:ay->Prop
 | .dead=>True
 | .blk _ c=>Ir c
 | .vec _ _ l=> ∀ j,j<l.length->Ir (l.getD j .junk)
 | .mp .. =>True
theorem kY(k n):Ir (.int k n):=λ_ _ _ _ _ _ h=>h
theorem IB(b):Ir (.bool b):=λ_ _ _ _ _ _ h=>h
theorem Zp(b):Ir (.str b):=λ_ _ _ _ _ _ h=>h
theorem Zq(i n):Ir (.vec i n):=λJ J' cs h1 h2 h3 h=>by simp only[au] at h ⊢;rw[h1,h3];exact h
theorem Hq(i p o):Ir (.ptr i p o):=λJ J' cs h1 h2 h3 h=>by simp only[au] at h ⊢;rw[h1,h2];exact h
theorem wQ{l:List SV}(h:∀ x∈l,Ir x):Ir (.agg l):=by
 intro J J' cs h1 h2 h3 hc;simp only[au] at hc ⊢
 induction l generalizing cs with
 |nil=>exact hc
 |cons x r ih=>
  simp only[bQ] at hc ⊢;obtain⟨a,b,e1,e2,e3⟩:=hc;exact⟨a,b,e1,h x (by simp) J J' a h1 h2 h3 e2,ih (λy hy=>h y (by simp[hy])) _ e3⟩
theorem Oq{n w:Nat}{f:Nat->SV}(h:∀ i,i<n->Ir (f i)):Ir (.arr n w f):=by intro J J' cs h1 h2 h3 hc;simp only[au] at hc ⊢;exact⟨hc.1,λi hi=>h i hi J J' _ h1 h2 h3 (hc.2 i hi)⟩
theorem Ir.val{x:SV}(h:Ir x)(hv:x.isVal=true):KX x:=by intro J J' v h1 h2 h3 hs;obtain⟨cs,e1,e2⟩:=ig hs hv;rw[e2];exact iG (h J J' cs h1 h2 h3 e1)
theorem aAj{l:List SV}(h:∀ x∈l,Ir x){J J':Env}(h1:J'.n=J.n)(h2:J'.blk=J.blk)(h3:J'.vv=J.vv):∀ {vs},bg l J vs->bg l J' vs:=by
 induction l with
 |nil=>intro vs hs;exact hs
 |cons x r ih=>
  intro vs hs;simp only[bg] at hs ⊢;obtain⟨cs,t,e1,e2,e3⟩:=hs;exact⟨cs,t,e1,h x (by simp) J J' cs h1 h2 h3 e2,ih (λy hy=>h y (by simp[hy])) e3⟩
theorem yP{l:List SV}(h:∀ x∈l,Ir x):KX (.bK l):=by intro J J' v h1 h2 h3 ⟨vs,e1,e2⟩;exact⟨vs,aAj h h1 h2 h3 e1,e2⟩
theorem EC:KX .junk:=λ_ _ _ _ _ _ _=>trivial
theorem wP.ok{J J':Env}{w:World}{i:Nat}{x:ay}(hx:wP x)(h1:J'.n=J.n)(h2:J'.blk=J.blk)(h3:J'.vv=J.vv)(h:gu J i w x):gu J' i w x:=by
 cases x with
 |dead=>trivial
 |blk T c=>
  obtain⟨cs,e1,e2⟩:=h;exact⟨cs,by rw[h2];exact e1,hx J J' cs h1 h2 h3 e2⟩
 |vec T w' l=>
  obtain⟨xs,e1,e2⟩:=h;exact⟨xs,by rw[h3];exact e1,λj hj=>hx j hj J J' _ h1 h2 h3 (e2 j hj)⟩
 |mp ek ev l=>
  obtain⟨es,cl,e1,e2⟩:=h;exact⟨es,cl,by rw[h2];exact e1,e2⟩
noncomputable def thaw(J:Env)(m:List ay)(J':Env):Env:=
 {J' with H:=λb=>open Classical in if ∃ i,aN J i (ah m i)=some b then none else J'.H b}
theorem Inv.thaw{β:Base}{J J':Env}{m new:List ay}{w w':World}(h:Inv β J m w)(hle:(gq J m w).Le J')(h':Inv β J' (iw m++new) w')(hnew:∀ x∈new,wP x):
  Inv β (Sx.thaw J m J') (m++new) w'/\J.Le (Sx.thaw J m J'):=by
 have g:=h.good;have g':=h'.good;have hn:J.n=m.length:=g.n;have hdl:(iw m).length=m.length:=by simp[iw]
 have aq3:∀ i,m.length<=i->ah (m++new) i=ah (iw m++new) i:=by intro i hi;simp only[ah,z02];rw[z07 hi,z07 (by rw[hdl];exact hi),hdl]
 have hold:∀ i,i<m.length->ah (m++new) i=ah m i:=λi hi=>bD hi;have eb:∀ i,i<m.length->(Sx.thaw J m J').blk i=J.blk i:=λi hi=>hle.blk i (by show i<J.n;omega)
 have ev:∀ i,i<m.length->(Sx.thaw J m J').vv i=J.vv i:=λi hi=>hle.vv i (by show i<J.n;omega)
 have eo:∀ i,i<m.length->aN (Sx.thaw J m J') i (ah (m++new) i)=aN J i (ah m i):=by intro i hi;rw[hold i hi];cases ah m i<;>simp[aN,eb i hi,ev i hi]
 have en:∀ i,m.length<=i->aN (Sx.thaw J m J') i (ah (m++new) i)=aN J' i (ah (iw m++new) i):=by intro i hi;rw[aq3 i hi];rfl
 have Ot:∀ i b,aN J i (ah m i)=some b->w'.heap[b]? =w.heap[b]? :=by
  intro i b hb;cases hw:w.heap[b]? with
  |none=>
   have:=dU g hb;simp at hw;omega
  |some o=>exact g'.hv b o (hle.H b o (by rw[ru hb];exact hw))
 have hle2:J.Le (Sx.thaw J m J'):=by
  refine⟨hle.n,λi hi=>hle.blk i hi,λi hi=>hle.vv i hi,λb o hb=> ?_⟩;unfold Sx.thaw;simp only;split
  ·rename_i hh;obtain⟨i,hi⟩:=hh;rw[g.sep i b hi] at hb;cases hb
  ·exact hle.H b o (vH g b o hb)
 refine⟨⟨⟨?_,λi=> ?_,λi j b hij h1 h2=> ?_,λi b hb=> ?_,λb o hb=> ?_,h.good.gl.mono hle2.H⟩,⟨h'.kept.os,h'.kept.tape,h'.kept.output,h'.kept.size,h'.kept.heap,λb o hb=>hle2.H b o (h.kept.H b o hb),λb o hb=> ?_,h'.kept.drawn⟩,λi b hb=> ?_,?_,λi hi=> ?_,λi hi hv=> ?_⟩,hle2⟩
 ·have:=g'.n;simp only[List.length_append,hdl] at this ⊢;exact this
 ·rcases z04 i m.length with hi|hi
  ·rw[hold i hi];have hr:=g.res i;cases hm:ah m i with
   |dead=>trivial
   |blk T c=>
    rw[hm] at hr;obtain⟨cs,e1,e2⟩:=hr;exact⟨cs,by rw[eb i hi,Ot i _ (by rw[hm];rfl)];exact e1,au.mono c hle2 e2⟩
   |vec T wd l=>
    rw[hm] at hr;obtain⟨xs,⟨e0,e1⟩,e2⟩:=hr;refine⟨xs,⟨e0,?_⟩,λj hj=>au.mono _ hle2 (e2 j hj)⟩;rw[ev i hi];rcases e1 with e1|⟨b,cap,cur,k1,k2,k3,k4,k5,k6,k7⟩
    ·exact .inl e1
    ·exact .inr ⟨b,cap,cur,k1,k2,by rw[Ot i b (by rw[hm];simp[aN,k1,z0k])];exact k3,k4,k5,k6,k7⟩
   |mp ek ev l=>
    rw[hm] at hr;obtain⟨es,cl,e1,e2⟩:=hr;exact⟨es,cl,by rw[eb i hi,Ot i _ (by rw[hm];rfl)];exact e1,e2⟩
  ·rw[aq3 i hi];have hx:wP (ah (iw m++new) i):=by
    simp only[ah,z02];rw[z07 (by rw[hdl];exact hi),hdl]
    cases hh:new[i - m.length]? with
    |none=>trivial
    |some x=>exact hnew x (List.mem_of_getElem? hh)
   exact wP.ok (J:=J') hx rfl rfl rfl (g'.res i)
 ·have key:∀ i j,i<m.length->m.length<=j->aN J i (ah m i)=some b->aN J' j (ah (iw m++new) j)=some b->False:=by
   intro i j _ _ h1 h2;have e1:=g'.sep j b h2;have hb:=dU g h1;have e2:(gq J m w).H b=some w.heap[b]:=by rw[ru h1];simp[hb]
   rw[hle.H b _ e2] at e1;cases e1
  rcases z04 i m.length with hi|hi<;>rcases z04 j m.length with hj|hj
  ·rw[eo i hi] at h1;rw[eo j hj] at h2;exact g.pF i j b hij h1 h2
  ·rw[eo i hi] at h1;rw[en j hj] at h2;exact key i j hi hj h1 h2
  ·rw[en i hi] at h1;rw[eo j hj] at h2;exact key j i hj hi h2 h1
  ·rw[en i hi] at h1;rw[en j hj] at h2;exact g'.pF i j b hij h1 h2
 ·unfold Sx.thaw;simp only;split
  ·rfl
  ·rcases z04 i m.length with hi|hi
   ·rename_i hh;rw[eo i hi] at hb;exact absurd ⟨i,hb⟩ hh
   ·rw[en i hi] at hb;exact g'.sep i b hb
 ·unfold Sx.thaw at hb;simp only at hb;split at hb
  ·cases hb
  ·exact g'.hv b o hb
 ·unfold Sx.thaw at hb;simp only at hb;split at hb
  ·cases hb
  ·exact h'.kept.fresh b o hb
 ·rcases z04 i m.length with hi|hi
  ·rw[eo i hi] at hb;exact h.own i b hb
  ·rw[en i hi] at hb;exact h'.own i b hb
 ·exact h'.n
 ·exact h'.blk i hi
 ·have him:i<m.length:=by have:=h.n;omega
  rw[hold i him] at hv;rw[ev i him];exact h.vv i hi hv
inductive Ro(m:List ay):SV->SV->Prop
 |base (x:SV):Ro m x (ren (λ_=>Option.none) x)
 |agg {l l':List SV}:l.length=l'.length->(∀ j,j<l.length->Ro m (l.getD j .junk) (l'.getD j .junk))->Ro m (.agg l) (.agg l')
 |arr {n w:Nat} {f g:Nat->SV}:(∀ i,i<n->Ro m (f i) (g i))->Ro m (.arr n w f) (.arr n w g)
 |vec {i n w:Nat} {T:TypeId} {l:List SV} {O:Type} {d:O} {f:O->SV} {l0:List O}:ah m i= .vec T w l->l0.length=l.length->(∀ j,j<l.length->Ro m (l.getD j .junk) (f (l0.getD j d)))->Ro m (.vec i n) (.lst w d f l0)
 |ptr {i:Nat} {p:List Step} {o:Nat} {T:TypeId} {c c':SV}:ah m i= .blk T c->Ro m c c'->Ro m (.ptr i p o) (.ref c' p o)
theorem Ro.isAgg{m:List ay}{x y:SV}(h:Ro m x y):y.isAgg=x.isAgg:=by
 cases h with
 |base=>exact zZ _ _
 |agg=>rfl
 |arr=>rfl
 |vec=>rfl
 |ptr=>rfl
theorem afG{J:Env}{m:List ay}{w:World}(g:Good J m w):yM (λ_=>none) J (gq J m w).cl:=⟨(λ_ _ _ h=>by cases h),vH g⟩
theorem CZ:∀ {l:List SV} {J:Env} {cs:List Value},bQ l J cs↔∃ css:List (List Value),cs=css.flatten/\css.length=l.length/\∀ j,j<l.length->au (l.getD j .junk) J (css.getD j [])
 |[],J,cs=>by
  simp only[bQ];constructor
  ·rintro rfl;exact⟨[],rfl,rfl,λj hj=>absurd hj (z0c _)⟩
  ·rintro⟨css,h1,h2,_⟩;cases css with
   |nil=>exact h1
   |cons=>cases h2
 |x::l,J,cs=>by
  simp only[bQ];constructor
  ·rintro⟨a,b,rfl,h1,h2⟩;obtain⟨css,rfl,h3,h4⟩:=CZ.1 h2;refine⟨a::css,rfl,by simp[h3],λj hj=> ?_⟩
   cases j with
   |zero=>exact h1
   |succ j=>simpa using h4 j (by simpa using hj)
  ·rintro⟨css,rfl,h2,h3⟩;cases css with
   |nil=>cases h2
   |cons a css=>
    refine⟨a,css.flatten,rfl,h3 0 (by simp),CZ.2 ⟨css,rfl,by simpa using h2,λj hj=> ?_⟩⟩
    have:=h3 (j+1) (by simpa using hj)
    simpa using this
theorem Ro.sat{J:Env}{m:List ay}{w:World}(g:Good J m w){x y:SV}(h:Ro m x y):∀ {cs:List Value},au x J cs->au y (gq J m w).cl cs:=by
 induction h with
 |base x=>intro cs hc;exact au.ren _ x (afG g) hc
 |agg hl _ ih=>
  intro cs hc;simp only[au] at hc ⊢;obtain⟨css,e1,e2,e3⟩:=CZ.1 hc;exact CZ.2 ⟨css,e1,by omega,λj hj=>ih j (by omega) (e3 j (by omega))⟩
 |arr _ ih=>
  intro cs hc;simp only[au] at hc ⊢;exact⟨hc.1,λi hi=>ih i hi (hc.2 i hi)⟩
 | @vec i n wd T l O d f l0 hm hl _ ih=>
  intro cs hc;simp only[au] at hc ⊢;obtain⟨h1,_,h3⟩:=hc;have hr:=g.res i;rw[hm] at hr;obtain⟨xs,⟨e0,e1⟩,e2⟩:=hr;rcases e1 with⟨k1,k2⟩|⟨b,cap,cur,k1,k2,k3,k4,k5,k6,k7⟩
  ·refine⟨none,0,by rw[h3,k1];simp[hl,k2],by omega,z08 _,λ_=>rfl,λj hj=>by omega⟩
  ·refine⟨some ⟨b,0,none⟩,cap,by rw[h3,k1,hl],by omega,k5,(λh=>by cases h),λj hj=> ?_⟩
   have hj':j<l.length:=by omega
   have hjl:j*wd+wd<=l.length*wd:=by
    have:=z0t wd (show j+1<=l.length from hj')
    rw[Nat.succ_mul] at this;exact this
   have hcap:l.length*wd<=cap*wd:=z0t _ k4;refine⟨b,0,T,(0,0),cur,rfl,?_,by omega,?_⟩
   ·show(gq J m w).H b=_;rw[ru (i:=i) (by rw[hm];simp[aN,k1,z0k])];exact k3
   ·have:=ih j hj' (e2 j hj');have hs:sub cur.toList (0+j*wd) wd=sub xs (j*wd) wd:=by
     rw[<- k7];simp only[sub,z0o];rw[List.drop_take,List.take_take]
     congr 1
     omega
    rw[hs];exact this
 | @ptr i p o T c c' hm _ ih=>
  intro cs hc;simp only[au] at hc ⊢;obtain⟨h1,h2,h3⟩:=hc;have hr:=g.res i;rw[hm] at hr;obtain⟨cs',e1,e2⟩:=hr;refine⟨J.blk i,T,(0,0),cs'.toArray,h3,?_,h2,ih e2⟩;show(gq J m w).H _=_;rw[ru (i:=i) (by rw[hm];rfl)];exact e1
def RoA(m:List ay):List SV->List SV->Prop
 |[],[]=>True
 |x::l,y::l'=>Ro m x y/\RoA m l l'
 |_,_=>False
theorem RoA.sat{J:Env}{m:List ay}{w:World}(g:Good J m w):∀ {l l':List SV},RoA m l l'->∀ {vs:List Value},bg l J vs->bg l' (gq J m w).cl vs
 |[],[],_,vs,hs=>hs
 |x::l,y::l',h,vs,hs=>by
  simp only[bg] at hs ⊢;obtain⟨cs,t,e1,e2,e3⟩:=hs;exact⟨cs,t,by rw[h.1.isAgg];exact e1,h.1.sat g e2,RoA.sat g h.2 e3⟩
 |[],_::_,h,_,_=>h.elim
 |_::_,[],h,_,_=>h.elim
end Go.Sx
namespace Go.Sx
open Go
variable {P:Program}
section words
variable {Γ:Hook} {n0:Nat} {Q:Ex->List SV->List ay->Prop} {σ:List SV} {m:List ay}
end words
def wrO(l:List dA):List Nat:=l.filterMap (·.dst)
def wr:IC->List Nat
 | .ops l=>wrO l
 | .bJ l=>wrO l
 | .Dq l d _ _ lo=>wrO l++d::wrO lo
 | .seq a b=>wr a++wr b
 | .cond _ a b=>wr a++wr b
 | .block _ c=>wr c
 | .loop c=>wr c
 |_=>[]
def leS:List SV->List SV->Prop
 |[],[]=>True
 |x::a,y::b=>(x= .junk\/x=y)/\leS a b
 |_,_=>False
theorem amh:∀ {σ' σ:List SV},leS σ' σ->σ'.length=σ.length/\∀ k,σ'.getD k .junk= .junk\/σ'.getD k .junk=σ.getD k .junk
 |[],[],_=>⟨rfl,λk=> .inl (by simp)⟩
 |x::a,y::b,h=>by
  obtain⟨h1,h2⟩:=amh h.2;refine⟨by simp[h1],λk=> ?_⟩
  cases k with
  |zero=>simpa using h.1
  |succ k=>simpa using h2 k
 |[],_::_,h=>h.elim
 |_::_,[],h=>h.elim
theorem aH.le{J:Env}{σ σ':List SV}{a:Act}(h:aH J σ a)(hl:leS σ' σ):aH J σ' a:=by
 obtain⟨h1,h2⟩:=amh hl;refine⟨by rw[h1];exact h.1,λk=> ?_⟩
 rcases h2 k with e|e<;>rw[e]
 ·trivial
 ·exact h.2 k
theorem Weak.of_le{σ σ':List SV}{m:List ay}(h:leS σ' σ):Weak σ m σ' m:=λ_ J _ _ hi hs=>⟨J,hi,hs.le h⟩
theorem Weak.refl(σ:List SV)(m:List ay):Weak σ m σ m:=λ_ J _ _ hi hs=>⟨J,hi,hs⟩
theorem Weak.trans{σ σ' Vb:List SV}{m m' m'':List ay}(h:Weak σ m σ' m')(k:Weak σ' m' Vb m''):Weak σ m Vb m'':=λβ J a w hi hs=>by obtain⟨J',h1,h2⟩:=h β J a w hi hs;exact k β J' a w h1 h2
structure Hide{α β γ:Sort _}(x:α)(y:β)(z:γ):Type where
theorem Weak.le{σ σ':List SV}{m m':List ay}(h:leS σ' σ)(hm:m'=m):Weak σ m σ' m':=by subst hm;exact Weak.of_le h
theorem MO{σ:List SV}{m:List ay}{K K':SV->Prop}(h:∀ x,K x->K' x):∀ {rs:List ResultVar},nR P σ m K rs->nR P σ m K' rs:=by
 have hpk:∀ {n:Nat} {ag:Bool} {K K':SV->Prop} (_:∀ x,K x->K' x) {x:SV},peek m n ag K x->peek m n ag K' x:=by
  intro n ag K K' h x hh;cases x<;>simp only[peek] at hh ⊢ <;>first
   |exact hh
   |exact⟨hh.1,h _ hh.2⟩
   |(split at hh<;>first|exact hh.elim|exact⟨hh.1,h _ hh.2⟩)
 have hgo:∀ (l:List ResultVar) {K K':List SV->Prop} (_:∀ x,K x->K' x),nR.go P σ m l K->nR.go P σ m l K':=by
  intro l
  induction l with
  |nil=>intro K K' h hh;exact h _ hh
  |cons r l ih=>
   intro K K' h hh;cases r with
   |tmp t=>exact⟨hh.1,ih (λx hx=>h _ hx) hh.2⟩
   |cell t T=>
    simp only[nR.go] at hh ⊢;split at hh
    ·exact hpk (λx hx=>⟨hx.1,ih (λy hy=>h _ hy) hx.2⟩) hh
    ·exact hh.elim
 intro rs hh
 match rs,hh with
 |[],hh=>exact h _ hh
 |[.tmp t],hh=>exact h _ hh
 |[.cell t T],hh=>
  simp only[nR] at hh ⊢;split at hh
  ·exact hpk h hh
  ·exact hh.elim
 | .tmp t::b::l,hh=>exact hgo (.tmp t::b::l) (K:=λxs=>K (.bK xs)) (K':=λxs=>K' (.bK xs)) (λx hx=>h _ hx) (by simpa only[nR] using hh)
 | .cell t T::b::l,hh=>exact hgo (.cell t T::b::l) (K:=λxs=>K (.bK xs)) (K':=λxs=>K' (.bK xs)) (λx hx=>h _ hx) (by simpa only[nR] using hh)
def Hook.ro(f:FuncId){ι:Type}(A:ι->List SV)(R:ι->SV)(ok:ι->Prop)(Γ:Hook):Hook:=Γ.on f λargs m K=> ∃ i,ok i/\RoA m args (A i)/\K (R i) m
def Hook.fn(f:FuncId)(F:List SV->Option SV)(Γ:Hook):Hook:=Γ.on f λargs m K=>match F args with
 |some r=>K r m
 |none=>False
mutual
def dH:SV->Prop
 | .lst _ _ f l=>l.length<=9223372036854775807/\∀ x∈l,dH (f x)
 | .agg l=>sW l
 | .arr n _ f=> ∀ i,i<n->dH (f i)
 | .ref c _ _=>dH c
 |_=>True
def sW:List SV->Prop
 |[]=>True
 |x::r=>dH x/\sW r
end
mutual
theorem Eo:∀ (x:SV) {J:Env} {cs:List Value},au x J cs->dH x
 | .lst w d f l,J,cs,h=>by
  simp only[au] at h;obtain⟨ao,cap,h1,h2,h3,h4,h5⟩:=h;simp only[dH];refine⟨by unfold maxLen at h3;omega,λx hx=> ?_⟩
  obtain⟨i,hi,hxi⟩:=List.getElem_of_mem hx;obtain⟨b,off,T,fz,cur,e1,e2,e3,e4⟩:=h5 i hi;have e:l.getD i d=x:=by simp[z02,hi,hxi]
  rw[e] at e4;exact Eo (f x) e4
 | .agg l,J,cs,h=>by simp only[au] at h;simp only[dH];exact Vh l h
 | .arr n w f,J,cs,h=>by simp only[au] at h;simp only[dH];exact λi hi=>Eo (f i) (h.2 i hi)
 | .ref c p o,J,cs,h=>by
  simp only[au] at h;obtain⟨b,T,fz,cur,h1,h2,h3,h4⟩:=h;simp only[dH];exact Eo c h4
 | .int ..,_,_,_=>by simp only[dH]
 | .bool ..,_,_,_=>by simp only[dH]
 | .str ..,_,_,_=>by simp only[dH]
 | .bK ..,_,_,_=>by simp only[dH]
 | .lit ..,_,_,_=>by simp only[dH]
 | .fM ..,_,_,_=>by simp only[dH]
 | .ptr ..,_,_,_=>by simp only[dH]
 | .vec ..,_,_,_=>by simp only[dH]
 | .gX ..,_,_,_=>by simp only[dH]
 | .jO ..,_,_,_=>by simp only[dH]
 | .map ..,_,_,_=>by simp only[dH]
 | .fn ..,_,_,_=>by simp only[dH]
 | .iface ..,_,_,_=>by simp only[dH]
 | .bF,_,_,_=>by simp only[dH]
 | .iP,_,_,_=>by simp only[dH]
 | .jh,_,_,_=>by simp only[dH]
 | .jr,_,_,_=>by simp only[dH]
 | .qx,_,_,_=>by simp only[dH]
 | .lV,_,_,_=>by simp only[dH]
 | .raw ..,_,_,_=>by simp only[dH]
 | .junk,_,_,_=>by simp only[dH]
theorem Vh:∀ (l:List SV) {J:Env} {cs:List Value},bQ l J cs->sW l
 |[],_,_,_=>by simp only[sW]
 |x::l,J,cs,h=>by simp only[bQ] at h;obtain⟨a,b,h1,h2,h3⟩:=h;simp only[sW];exact⟨Eo x h2,Vh l h3⟩
end
theorem aaA:∀ {l:List SV} {J:Env} {vs:List Value},bg l J vs->sW l
 |[],_,_,_=>by simp only[sW]
 |x::l,J,vs,h=>by simp only[bg] at h;obtain⟨cs,t,h1,h2,h3⟩:=h;simp only[sW];exact⟨Eo x h2,aaA h3⟩
theorem nO{f:FuncId}{args:List SV}{m0 m1:List ay}{res:SV}(h:sW args->FnOK P f args m0 res m1):FnOK P f args m0 res m1:=λJ w vs hg hs=>h (aaA hs) J w vs hg hs
open Go.RowKit Go.ChangeShapes
def J0(W:World):Env:=⟨0,λ_=>0,λ_=> .nilFunc,λb=>W.heap[b]?⟩
theorem TQ(W:World)(hg:Glob (J0 W).H):Good (J0 W) [] W:=
 ⟨rfl,λi=>by rw[dh (z08 _)];trivial,(λi j b _ h=>by rw[dh (z08 _)] at h;cases h),(λi b h=>by rw[dh (z08 _)] at h;cases h),λ_ _ h=>h,hg⟩
theorem anj{f:FuncId}{args:List SV}(h:FnOK P f args [] (.bool true) [])(W:World){vs:List Value}(hs:bg args (J0 W) vs)(hg:Glob (J0 W).H:=by simp[Glob,aiD,RI]):Calls P f vs.toArray W λe W'=>e= .returned (.bool true)/\Below W.heap.size W W':=by refine(h (J0 W) W vs (TQ W hg) hs).mono λe W' ⟨v,J',he,hv,hi⟩=> ?_;subst he;rw[iW hv];refine⟨rfl,⟨hi.kept.os,hi.kept.tape,hi.kept.output,hi.kept.size,λk hk=>hi.kept.heap k hk ?_⟩⟩;rintro⟨i,hb⟩;rw[dh (z08 _)] at hb;cases hb
def readB(P:Program)(ts:List TypeId):Bool:=ts.all λt=>P.readableRec t&&decide (t<P.types.size)
theorem Bg{H:Type}{enc:TypeId×Value->H}(hl:laidOutB P=true){W W':World}{sp':Nat->Bool}(hb:Below W.heap.size W W'):∀ {ts:List TypeId} {vs:List Value} {ds:List (DataW H)} {ps:List MemPlace},
  readB P ts=true->DataW.TrodAll enc P W 0 (λ_=>true) true ts vs ds ps->(∀ p∈ps,p.block<W.heap.size)->(∀ p∈ps,sp' p.block=true)->DataW.TrodAll enc P W' 0 sp' true ts vs ds ps
 |[],[],[],_,_,h,_,_=>h
 |t::ts,v::vs,d::ds,ps,hr,h,hlt,hsp=>by
  simp only[readB,z1c,z01,decide_eq_true_eq] at hr;obtain⟨p,q,h1,h2,rfl⟩:=h;exact⟨p,q,WideElems.Trod_stays hl hr.1.1 hr.1.2 h1 (λx hx=>hb.same (hlt x (by simp[hx]))) (λx hx=>hsp x (by simp[hx])),
   Bg hl hb hr.2 h2 (λx hx=>hlt x (by simp[hx])) (λx hx=>hsp x (by simp[hx])),rfl⟩
 |[],[],_::_,_,_,h,_,_=>h.elim
 |[],_::_,_,_,_,h,_,_=>h.elim
 |_::_,[],_,_,_,h,_,_=>h.elim
 |_::_,_::_,[],_,_,h,_,_=>h.elim
theorem abf{H:Type}{enc:TypeId×Value->H}{f:Func}{s:ChangeSpec}{apart fresh handsOn again:Bool}{W W':World}{args:Array Value}{ds gs:List (DataW H)}{before:List MemPlace}{tb:TypeId}
  (hl:laidOutB P=true) (hr:readB P f.params.toList=true) (hrt:f.resultTypes= #[tb]) (htb:P.underlying tb=some .bool) (hv:s.vars=[])
  (hW:DataW.Whole enc P f.params.toList s.vars apart W args.toList ds gs before) (hb:Below W.heap.size W W')
  (hfn:s.fn H (ds++gs)= {results:=[.lit (.bool true)],args:=ds}):s.post enc P f apart fresh handsOn again W args (.bool true) W':=by
 have hlt:=hW.lt;obtain⟨pa,pv,hA,hV,rfl,hz,hn⟩:=hW;rw[hv] at hV;have hpv:pv=[]/\gs=[]:=by
  cases gs with
  |nil=>exact⟨hV,rfl⟩
  |cons=>exact hV.elim
 obtain⟨rfl,rfl⟩:=hpv;have hres:∀ (b:Nat) (sp:Nat->Bool) (hd:Bool),DataW.TrodAll enc P W' b sp hd f.resultTypes.toList ((Value.bool true).resultList f.resultTypes.size) (s.fn H (ds++[])).results []:=by intro b sp hd;rw[hrt,hfn];exact⟨[],[],shut_bool htb true,rfl,rfl⟩
 have hargs:∀ sp:Nat->Bool,(∀ p∈pa++[],sp p.block=true)->DataW.TrodAll enc P W' 0 sp true f.params.toList args.toList (s.fn H (ds++[])).args pa:=by intro sp hsp;rw[hfn];exact Bg hl hb hr hA (λp hp=>hlt p (by simp[hp])) (λp hp=>hsp p (by simp[hp]))
 have hvars:∀ sp:Nat->Bool,DataW.TrodVars enc P W' sp s.vars (s.fn H (ds++[])).vars []:=by intro sp;rw[hv,hfn];rfl
 have hold:∀ p∈pa++[],(λb=>decide (b<W.heap.size)) p.block=true:=λp hp=>by simpa using hlt p hp
 refine⟨ds,[],pa++[],[],pa,[],⟨pa,[],hA,by rw[hv];exact hV,rfl,hz,hn⟩,hres _ _ _,hargs _ hold,hvars _,World.keptBut_mono (λp hp=>⟨hp,by simpa using hp⟩) (hb.frame _),λ_=> ?_⟩
 refine⟨ok_one hrt rfl (okWide_bool_mk htb true),_,_,([]++pa)++[],⟨[]++pa,[],trodAll_append (hargs _ (λ_ _=>rfl)) (hres _ _ _),hvars _,rfl,?_,?_⟩,?_⟩
 ·intro b off hp;have hp':MemPlace.cell b off∈pa++[]:=by simpa using hp
  rw[hb.frozen (hlt _ hp')];exact hz b off hp'
 ·intro ha;simpa using hn ha
 ·intro p hp _;simpa using hp
end Go.Sx
namespace Go.Sx
open Go Go.ChangeShapes
variable {P:Program}
inductive TT where
 |int (k:IntKind)
 |bool
 |str
 |st (l:List TT)
 |arr (n w:Nat) (T:TT)
 |sl (w:Nat) (T:TT)
 |ref (T:TT)
mutual
@[reducible] def Den:TT->Type
 | .int _=>Int
 | .bool=>Bool
 | .str=>List UInt8
 | .st l=>y7 l
 | .arr _ _ T=>Nat->Den T
 | .sl _ T=>List (Den T)
 | .ref T=>Den T
@[reducible] def y7:List TT->Type
 |[]=>Unit
 |T::l=>Den T×y7 l
end
mutual
def aI:(T:TT)->Den T
 | .int _=>(0:Int)
 | .bool=>false
 | .str=>([]:List UInt8)
 | .st l=>aoZ l
 | .arr _ _ T=>λ_:Nat=>aI T
 | .sl _ T=>([]:List (Den T))
 | .ref T=>aI T
def aoZ:(l:List TT)->y7 l
 |[]=>()
 |T::l=>(aI T,aoZ l)
end
mutual
def aA:(T:TT)->Den T->SV
 | .int k,n=> .int k n
 | .bool,b=> .bool b
 | .str,s=> .str s
 | .st l,x=> .agg (sG l x)
 | .arr n w T,f=> .arr n w λi=>aA T (f i)
 | .sl w T,l=> .lst w (aI T) (aA T) l
 | .ref T,y=> .ref (aA T y) [] 0
def sG:(l:List TT)->y7 l->List SV
 |[],_=>[]
 |T::l,x=>aA T x.1::sG l x.2
end
mutual
def okD:(T:TT)->Den T->Prop
 | .int k,n=>(Lit.int k n).wf=true
 | .bool,_=>True
 | .str,s=>s.length<=9223372036854775807
 | .st l,x=>OO l x
 | .arr n _ T,f=> ∀ i,i<n->okD T (f i)
 | .sl _ T,l=>l.length<=9223372036854775807/\∀ x∈l,okD T x
 | .ref T,y=>okD T y
def OO:(l:List TT)->y7 l->Prop
 |[],_=>True
 |T::l,x=>okD T x.1/\OO l x.2
end
mutual
def wT:TT->Nat
 | .st l=>wTL l
 | .arr n w _=>n*w
 |_=>1
def wTL:List TT->Nat
 |[]=>0
 |T::l=>wT T+wTL l
end
mutual
def NV(P:Program):TypeId->TT->Bool
 |t, .int k=>match P.underlying t with
  |some (.int k')=>decide (k'=k)
  |_=>false
 |t, .bool=>match P.underlying t with
  |some .bool=>true
  |_=>false
 |t, .str=>match P.underlying t with
  |some .string=>true
  |_=>false
 |t, .st l=>match P.underlying t with
  |some (.struct fs)=>ami P fs.toList 0 l&&decide (P.cellsOf t=wTL l)
  |_=>false
 |t, .arr n w T=>match P.underlying t with
  |some (.array n' e)=>decide (n'=n)&&decide (P.cellsOf e=w)&&decide (P.cellsOf t=n*w)&&NV P e T
  |_=>false
 |t, .sl w T=>match P.underlying t with
  |some (.slice e)=>decide (P.cellsOf e=w)&&decide (1<=w)&&NV P e T
  |_=>false
 |_, .ref _=>false
def ami(P:Program):List Field->Nat->List TT->Bool
 |[],_,[]=>true
 |f::fs,off,T::l=>decide (f.offset=off)&&decide (P.cellsOf f.type=wT T)&&NV P f.type T&&ami P fs (off+wT T) l
 |_,_,_=>false
end
theorem YX{α:Type}{f:Nat->Option α}:∀ (n:Nat) (l:List α),(z06 n).mapM f=some l->l.length=n/\∀ i,i<n->f i=l[i]? :=by
 intro n l h;have h1:=mapM_len h;refine⟨by simpa using h1,λi hi=> ?_⟩
 have:=(mapM_at h i).1;rw[z0d hi] at this;simpa using this
theorem NW{W:World}{b off n:Nat}{sp:Option Nat}{cs:List Value}(hn:1<=n)(h:W.cells? 0 ⟨b,off,sp⟩ n=some cs):
  sp=none/\∃ cur T fz,W.heap[b]? =some (.cells cur T fz)/\off+n<=cur.size/\sub cur.toList off n=cs:=by
 unfold World.cells? at h;rw[if_pos (z08 _)] at h;obtain⟨h1,h2⟩:=YX n cs h;have h0:=h2 0 (by omega)
 have hlt:0<cs.length:=by omega
 rw[z03 hlt] at h0;unfold World.cell? at h0;simp only[Addr.add,if_true] at h0;split at h0<;>try (cases h0;done)
 rename_i cur T fz hb;split at h0<;>try (cases h0;done)
 rename_i hsp;have hsp':sp=none:=by cases sp<;>simp_all
 subst hsp';have hcell:∀ i,i<n->cur[off+i]? =cs[i]? :=by
  intro i hi;rw[<- h2 i hi];unfold World.cell? Addr.add;by_cases hi0:i=0
  ·subst hi0;simp[hb]
  ·simp[hi0,hb]
 refine⟨rfl,cur,T,fz,hb,?_,?_⟩
 ·have:=hcell (n - 1) (by omega)
  have hl:n - 1<cs.length:=by omega
  rw[z03 hl] at this;have:=(z0q.1 this).1;omega
 ·apply z0n;intro i;unfold sub;rw[z0v];by_cases hi:i<n
  ·rw[if_pos hi,z0w,<- hcell i hi];simp
  ·rw[if_neg hi,z0s (by omega)]
section
variable {H:Type} {enc:TypeId×Value->H} {W:World} {spare:Nat->Bool}
mutual
theorem QC:∀ (T:TT) {t:TypeId} {fuel:Nat} {cs:List Value} {x:DataW H×List MemPlace},NV P t T=true->DataW.trod enc P W 0 spare true fuel t cs=some x->∃ y:Den T,au (aA T y) (J0 W) cs/\okD T y
 | .int k,t,fuel,cs,x,ht,h=>by
  simp only[NV] at ht;split at ht<;>try (cases ht;done)
  rename_i k' hu;have:k'=k:=by simpa using ht
  subst this;cases fuel with
  |zero=>simp[DataW.trod] at h
  |succ m=>
   unfold DataW.trod at h;rw[hu] at h;split at h<;>simp_all [aA,au,okD]
 | .bool,t,fuel,cs,x,ht,h=>by
  simp only[NV] at ht;split at ht<;>try (cases ht;done)
  rename_i hu;obtain⟨b,hc,_⟩:=DataW.trod_bool hu h;exact⟨b,by simp only[aA,au];exact hc,trivial⟩
 | .str,t,fuel,cs,x,ht,h=>by
  simp only[NV] at ht;split at ht<;>try (cases ht;done)
  rename_i hu;cases fuel with
  |zero=>simp[DataW.trod] at h
  |succ m=>
   unfold DataW.trod at h;rw[hu] at h;split at h<;>try (simp_all;done)
   split at h<;>try (cases h;done)
   rename_i s _ hs;refine⟨s.data.toList,?_,?_⟩
   ·simp only[aA,au]
   ·simp only[okD];unfold maxLen at hs;have e:s.data.toList.length=s.size:=Array.length_toList;rw[e];omega
 | .st l,t,fuel,cs,x,ht,h=>by
  simp only[NV] at ht;split at ht<;>try (cases ht;done)
  rename_i fs hu;simp only[z01,decide_eq_true_eq] at ht;obtain⟨xs,n,_,_,hlen,hxl,hf⟩:=DataW.trod_struct hu h;obtain⟨y,h1,h2⟩:=amj l (fs:=fs.toList) (off:=0) (cs:=cs) (fuel:=n) ht.1 (by rw[hlen,ht.2];omega) (λi f hi=>by
   have hi':fs[i]? =some f:=by simpa using hi
   have:=hf i f hi';have hlt:i<xs.length:=by rw[hxl];exact(z0q.1 hi').1
   rw[z03 hlt] at this;exact⟨_,this⟩)
  exact⟨y,by simp only[aA,au];simpa using h1,by simp only[okD];exact h2⟩
 | .arr n w T,t,fuel,cs,x,ht,h=>by
  simp only[NV] at ht;split at ht<;>try (cases ht;done)
  rename_i n' e hu;simp only[z01,decide_eq_true_eq] at ht;obtain⟨⟨⟨rfl,rfl⟩,h3⟩,h4⟩:=ht;obtain⟨xs,m,_,_,hlen,hxl,hf⟩:=DataW.trod_array hu h;have key:∀ i,i<n'->∃ y:Den T,au (aA T y) (J0 W) (sub cs (i*P.cellsOf e) (P.cellsOf e))/\okD T y:=by
   intro i hi;have:=hf i hi;rw[z03 (by omega)] at this
   exact QC T h4 this
  classical
  refine⟨λi=>if hi:i<n' then z0l (key i hi) else aI T,?_,?_⟩
  ·simp only[aA,au];refine⟨by rw[hlen,h3],λi hi=> ?_⟩
   simp only[hi,dite_true];exact(z0i (key i hi)).1
  ·simp only[okD];intro i hi;simp only[hi,dite_true];exact(z0i (key i hi)).2
 | .sl w T,t,fuel,cs,x,ht,h=>by
  simp only[NV] at ht;split at ht<;>try (cases ht;done)
  rename_i e hu;simp only[z01,decide_eq_true_eq] at ht;obtain⟨⟨rfl,hw⟩,h4⟩:=ht;rcases DataW.trod_slice hu h with⟨hc,_⟩|⟨a,len,cap,elems,rest,m,_,hc,_,_,hle,hcap,hel,hf,_,_⟩
  ·refine⟨[],?_,?_⟩
   ·simp only[aA,au];exact⟨none,0,by simpa using hc,z0h _,z08 _,λ_=>rfl,λi hi=>absurd hi (z0c _)⟩
   ·simp only[okD];exact⟨z08 _,λx hx=>by cases hx⟩
  ·obtain⟨b,off,sp⟩:=a;have key:∀ i,i<len->∃ (y:Den T) (cur:Array Value) (T':TypeId) (fz:Nat×Nat),(i=0->sp=none)/\W.heap[b]? =some (.cells cur T' fz)/\off+i*P.cellsOf e+P.cellsOf e<=cur.size/\au (aA T y) (J0 W) (sub cur.toList (off+i*P.cellsOf e) (P.cellsOf e))/\okD T y:=by
    intro i hi;have hfi:=hf i hi;rw[z03 (by omega)] at hfi
    obtain⟨cs',hcs,htr⟩:=Option.bind_eq_some_iff.1 hfi;obtain⟨y,k1,k2⟩:=QC T h4 htr;by_cases hi0:i=0
    ·subst hi0;rw[Nat.zero_mul] at hcs ⊢;simp only[Addr.add,if_true] at hcs;obtain⟨hsp,cur,T',fz,q1,q2,q3⟩:=NW hw hcs;exact⟨y,cur,T',fz,λ_=>hsp,q1,q2,by rw[Nat.add_zero,q3];exact k1,k2⟩
    ·have hne:i*P.cellsOf e≠0:=Nat.mul_ne_zero hi0 (by omega)
     simp only[Addr.add,if_neg hne] at hcs;obtain⟨_,cur,T',fz,q1,q2,q3⟩:=NW hw hcs;exact⟨y,cur,T',fz,λh=>absurd h hi0,q1,q2,by rw[q3];exact k1,k2⟩
   classical
   let g:Nat->Den T:=λi=>if hi:i<len then z0l (key i hi) else aI T
   have hg:∀ i (hi:i<len),∃ (cur:Array Value) (T':TypeId) (fz:Nat×Nat),(i=0->sp=none)/\W.heap[b]? =some (.cells cur T' fz)/\off+i*P.cellsOf e+P.cellsOf e<=cur.size/\au (aA T (g i)) (J0 W) (sub cur.toList (off+i*P.cellsOf e) (P.cellsOf e))/\okD T (g i):=by
    intro i hi;have e:g i=z0l (key i hi):=by simp[g,hi]
    rw[e];exact z0i (key i hi)
   refine⟨(z06 len).map g,?_,?_⟩
   ·simp only[aA,au];refine⟨some ⟨b,off,sp⟩,cap,by simpa using hc,by simpa using hle,hcap,(λh=>by cases h),λi hi=> ?_⟩
    have hi':i<len:=by simpa using hi
    obtain⟨cur,T',fz,q0,q1,q2,q3,_⟩:=hg i hi';obtain⟨_,_,_,p0,_⟩:=hg 0 (by omega)
    refine⟨b,off,T',fz,cur,by rw[p0 rfl],q1,q2,?_⟩
    have e:((z06 len).map g).getD i (aI T)=g i:=by simp[z02,hi']
    rw[e];exact q3
   ·simp only[okD];refine⟨by simp;unfold maxLen at hcap;omega,λx hx=> ?_⟩
    obtain⟨i,hi,rfl⟩:=List.mem_map.1 hx;have hi':i<len:=by simpa using hi
    obtain⟨_,_,_,_,_,_,_,q⟩:=hg i hi';exact q
 | .ref T,t,fuel,cs,x,ht,h=>by simp[NV] at ht
theorem amj:∀ (l:List TT) {fs:List Field} {off:Nat} {cs:List Value} {fuel:Nat},ami P fs off l=true->cs.length=off+wTL l->
  (∀ (i:Nat) (f:Field),fs[i]? =some f->∃ x,DataW.trod enc P W 0 spare true fuel f.type ((cs.drop f.offset).take (P.cellsOf f.type))=some x)->∃ y:y7 l,bQ (sG l y) (J0 W) (cs.drop off)/\OO l y
 |[],fs,off,cs,fuel,ht,hl,hf=>by
  refine⟨(),?_,by simp only[OO]⟩
  simp only[sG,bQ];simp only[wTL] at hl;exact List.drop_eq_nil_of_le (by omega)
 |T::l,fs,off,cs,fuel,ht,hl,hf=>by
  cases fs with
  |nil=>simp[ami] at ht
  |cons f fs=>
   simp only[ami,z01,decide_eq_true_eq] at ht;obtain⟨⟨⟨h1,h2⟩,h3⟩,h4⟩:=ht;simp only[wTL] at hl;obtain⟨x,hx⟩:=hf 0 f rfl;obtain⟨y,k1,k2⟩:=QC T h3 hx;obtain⟨z,k3,k4⟩:=amj l (fuel:=fuel) (cs:=cs) h4 (by omega) (λi f' hi=>hf (i+1) f' (by simpa using hi))
   refine⟨(y,z),?_,by simp only[OO];exact⟨k2,k4⟩⟩
   simp only[sG,bQ];rw[h1,h2] at k1;refine⟨_,_,?_,k1,k3⟩;rw[<- List.drop_drop,List.take_append_drop]
end
def ttA(P:Program):List TypeId->List TT->Bool
 |[],[]=>true
 |t::ts,T::l=>NV P t T&&ttA P ts l
 |_,_=>false
theorem amk{T:TT}{t:TypeId}{v:Value}{w:World}{base:Nat}(ht:NV P t T=true)(h:z0a P w .any base t v){y:Den T}:v=boxed (aA T y).isAgg v.cells.toList:=by
 cases T with
 |st l=>
  simp only[NV] at ht;split at ht<;>try (cases ht;done)
  rename_i hu;unfold z0a at h;rw[hu] at h;obtain⟨cs,rfl,_⟩:=h;simp[aA,SV.isAgg,boxed,z0f]
 |arr n w' T=>
  simp only[NV] at ht;split at ht<;>try (cases ht;done)
  rename_i hu;unfold z0a at h;rw[hu] at h;obtain⟨cs,rfl,_⟩:=h;simp[aA,SV.isAgg,boxed,z0f]
 |ref T=>simp[NV] at ht
 |int k=>
  simp only[NV] at ht;split at ht<;>try (cases ht;done)
  rename_i hu;unfold z0a Cell.okWide Cell.ok at h;rw[hu] at h;cases v<;>simp_all [aA,SV.isAgg,boxed,z0f]
 |bool=>
  simp only[NV] at ht;split at ht<;>try (cases ht;done)
  rename_i hu;unfold z0a Cell.okWide Cell.ok at h;rw[hu] at h;cases v<;>simp_all [aA,SV.isAgg,boxed,z0f]
 |str=>
  simp only[NV] at ht;split at ht<;>try (cases ht;done)
  rename_i hu;unfold z0a Cell.okWide Cell.ok at h;rw[hu] at h;cases v<;>simp_all [aA,SV.isAgg,boxed,z0f]
 |sl w' T=>
  simp only[NV] at ht;split at ht<;>try (cases ht;done)
  rename_i hu;unfold z0a Cell.okWide Cell.ok at h;rw[hu] at h;cases v<;>simp_all [aA,SV.isAgg,boxed,z0f]
theorem RJ{base:Nat}{held:Bool}:∀ {ts:List TypeId} {vs:List Value} {ds:List (DataW H)} {ps:List MemPlace},DataW.TrodAll enc P W base spare held ts vs ds ps->ds.length=ts.length
 |[],[],[],_,_=>rfl
 |_::ts,_::vs,_::ds,_,⟨_,_,_,h,_⟩=>by simp[RJ h]
 |[],[],_::_,_,h=>by cases h
 |[],_::_,_,_,h=>by cases h
 |_::_,[],_,_,h=>by cases h
 |_::_,_::_,[],_,h=>by cases h
theorem ani{α:Type _}{l:List α}(h:l.length=1):∃ a,l=[a]:=by
 match l,h with
 |[a],_=>exact⟨a,rfl⟩
theorem MC{base:Nat}{w':World}:∀ (l:List TT) {ts:List TypeId} {vs:List Value} {ds:List (DataW H)} {ps:List MemPlace},ttA P ts l=true->DataW.TrodAll enc P W 0 spare true ts vs ds ps->
  (∀ (j:Nat) t v,ts[j]? =some t->vs[j]? =some v->z0a P w' .any base t v)->∃ y:y7 l,bg (sG l y) (J0 W) vs/\OO l y
 |[],[],[],[],_,_,_,_=>⟨(),by simp only[sG,bg],by simp only[OO]⟩
 |T::l,t::ts,v::vs,d::ds,ps,ht,h,hv=>by
  simp only[ttA,z01] at ht;obtain⟨p,q,⟨fuel,h1⟩,h2,_⟩:=h;obtain⟨y,k1,k2⟩:=QC T ht.1 h1;obtain⟨z,k3,k4⟩:=MC l ht.2 h2 (λj t v a b=>hv (j+1) t v (by simpa using a) (by simpa using b))
  refine⟨(y,z),?_,by simp only[OO];exact⟨k2,k4⟩⟩
  simp only[sG,bg];exact⟨_,_,by rw[<- amk ht.1 (hv 0 t v rfl rfl)],k1,k3⟩
 |[],_::_,_,_,_,ht,_,_=>by simp[ttA] at ht
 |_::_,[],_,_,_,ht,_,_=>by simp[ttA] at ht
 |[],[],_::_,_,_,_,h,_=>by cases h
 |[],[],[],_::_,_,_,h,_=>by cases h
 |_::_,_::_,[],_,_,_,h,_=>by cases h
 |_::_,_::_,_::_,[],_,_,h,_=>by cases h
end
end Go.Sx
namespace Go.Sx
open Go
variable {P:Program}
theorem nr.{u}{α:Sort u}{a b:α}(h:a=b):a=b:=h
theorem nq{A:Sort _}{B:Sort _}{C:Sort _}{E:Sort _}{F G:A->B->C->E}(h:∀ a b c,F a b c=G a b c)(a:A)(b:B)(c:C):F a b c=G a b c:=nr (h a b c)
inductive Fr:Type 1 where
 |nil
 |put (k:Nat) (x:SV) (r:Fr)
 |pick (s d:Nat) (x:SV) (r:Fr)
def look(k:Nat):Fr->SV
 | .nil=> .junk
 | .put j x r=>if k=j then x else look k r
 | .pick s d x r=>if k=d then x else if s<k/\k<d then .junk else look k r
def aS.fv(O:Fr):aS->SV
 | .t n=>look n O
 | .c x=>x
def aX:List Nat->Fr->Fr
 |[],_=> .nil
 |k::ks,O=> .put k (look k O) (aX ks O)
def yw(i:Nat):Fr->Fr
 | .nil=> .nil
 | .put k x r=> .put k (kill i x) (yw i r)
 | .pick s d x r=> .pick s d (kill i x) (yw i r)
def rC(d:Option Nat)(x:SV)(O:Fr):Fr:=match d with
 |none=>O
 |some d=> .put d x O
def qp:List Nat->List SV->Fr->Fr
 |k::ks,x::xs,O=> .put k x (qp ks xs O)
 |_,_,O=>O
def V4:List Nat->List SV->Fr->Prop
 |k::ks,x::xs,O=>look k O=x/\V4 ks xs O
 |[],[],_=>True
 |_,_,_=>False
def Rep(n:Nat)(σ:List SV)(O:Fr):Prop:=σ.length=n/\∀ k,look k O= .junk\/(k<n/\look k O=σ.getD k .junk)
def Le(x y:SV):Prop:=x= .junk\/x=y
theorem Le.refl(x:SV):Le x x:= .inr rfl
theorem Rep.le{n:Nat}{σ:List SV}{O:Fr}(h:Rep n σ O)(k:Nat):Le (look k O) (σ.getD k .junk):=by
 rcases h.2 k with h|⟨_,h⟩
 ·exact .inl h
 ·exact .inr h
theorem Rep.fv{n:Nat}{σ:List SV}{O:Fr}(h:Rep n σ O)(x:aS):Le (x.fv O) (x.ev σ):=by
 cases x with
 |t k=>exact h.le k
 |c x=>exact .inr rfl
theorem Rep.put{n:Nat}{σ:List SV}{O:Fr}(h:Rep n σ O){d:Nat}(hd:d<n){x y:SV}(hx:Le x y):Rep n (σ.set d y) (.put d x O):=by
 refine⟨by simp[h.1],λk=> ?_⟩
 simp only[look];by_cases hk:k=d
 ·subst hk;rw[if_pos rfl];rcases hx with hx|hx
  ·exact .inl hx
  ·right;refine⟨hd,?_⟩;rw[hx];simp[z02,h.1,hd]
 ·rw[if_neg hk];rcases h.2 k with h1|⟨h1,h2⟩
  ·exact .inl h1
  ·right;refine⟨h1,?_⟩;rw[h2,z02,z02,z09,if_neg (λe=>hk e.symm)]
theorem Rep.rC{n:Nat}{σ:List SV}{O:Fr}(h:Rep n σ O){d:Option Nat}(hd:∀ k,d=some k->k<n){x y:SV}(hx:Le x y):Rep n (iC d y σ) (rC d x O):=by
 cases d with
 |none=>exact h
 |some d=>exact h.put (hd d rfl) hx
theorem dZ{k:Nat}{O:Fr}:∀ ks:List Nat,Le (look k (aX ks O)) (look k O)
 |[]=> .inl rfl
 |j::ks=>by
  simp only[aX,look];by_cases h:k=j
  ·subst h;rw[if_pos rfl];exact .inr rfl
  ·rw[if_neg h];exact dZ ks
theorem Cj{i k:Nat}:∀ O:Fr,look k (yw i O)=kill i (look k O)
 | .nil=>rfl
 | .put j x r=>by
  simp only[yw,look];split
  ·rfl
  ·exact Cj r
 | .pick s d x r=>by
  simp only[yw,look];split
  ·rfl
  ·split
   ·rfl
   ·exact Cj r
theorem Rep.kill{n i:Nat}{σ:List SV}{O:Fr}(h:Rep n σ O):Rep n (dI i σ) (yw i O):=by
 refine⟨by rw[jy];exact h.1,λk=> ?_⟩
 rw[Cj,tC];rcases h.2 k with h1|⟨h1,h2⟩
 ·left;rw[h1];rfl
 ·exact .inr ⟨h1,by rw[h2]⟩
structure Ans(α:Type) where
 bad:α
 need:Prop->α->α
 spl:Bool->α->α->α
def AP:Ans Prop:=⟨False,And,λb x y=>(b=true->x)/\(b=false->y)⟩
def AV:Ans (Prop×Bool):=⟨(False,false),λp x=>(p/\x.1,x.2),λb x y=>((b=true->x.1)/\(b=false->y.1),if b then x.2 else y.2)⟩
def AC:Ans (Prop->Prop):=⟨λ_=>False,λp x acc=>x (acc/\p),λb x y acc=>(b=true->x acc)/\(b=false->y acc)⟩
section
variable {α:Type} (A:Ans α)
def vY.evG(k:IntKind)(a b:Int)(K:Int->α):vY->α
 | .add=>K (k.wrap (a+b))
 | .sub=>K (k.wrap (a - b))
 | .mul=>K (k.wrap (a*b))
 | .quo=>A.need (b≠0) (K (k.wrap (a.tdiv b)))
 | .rem=>A.need (b≠0) (K (a.tmod b))
 | .and=>K (mM k a b)
 | .or=>K (MQ k a b)
 | .xor=>K (WV k a b)
 | .andNot=>K (rP k a b)
 | .shl=>A.need (0<=b) (K (k.wrap (a*2^(min b.toNat k.bits))))
 | .shr=>A.need (0<=b) (K (a.fdiv (2^(min b.toNat k.bits))))
def YE(ev:aS->SV):SV->List (List Step×Nat×Nat×aS)->(SV->α)->α
 |z,[],K=>K z
 |z,(p,o,n,x)::r,K=>A.need (fV p/\iM z p 0 o/\(ev x).isVal=true/\wd (ev x)=n/\wd (dP z p)=n) (YE ev (tX z p (ev x)) r K)
def stepG(s:Step)(off:Nat)(K:SV->α):SV->α
 | .ptr i p o=>K (.ptr i (p++[s]) (o+off))
 | .fM w d f l i p o=>K (.fM w d f l i (p++[s]) (o+off))
 | .gX i j p o=>K (.gX i j (p++[s]) (o+off))
 | .ref c p o=>K (.ref c (p++[s]) (o+off))
 |_=>A.bad
def lI(ev:aS->SV)(d:Nat)(x:Option aS)(K:Nat->α):α:=match x with
 |none=>K d
 |some x=>match ev x with
  | .int _ j=>A.need (0<=j) (K j.toNat)
  |_=>A.bad
def fZ(ev:aS->SV)(K:SV->α):wK->α
 | .mv x=>K (ev x)
 | .pick c x y=>match ev c with
  | .bool b=>A.spl b (K (ev x)) (K (ev y))
  |_=>A.bad
 | .ar op x y=>match ev x,ev y with
  | .int k a, .int k' b=>A.need (op.kinds k k') (op.evG A k a b λn=>K (.int k n))
  |_,_=>A.bad
 | .cmp op x y=>match ev x,ev y with
  | .int k a, .int k' b=>A.need (k'=k) (K (.bool (op.ev a b)))
  |_,_=>A.bad
 | .beq neg x y=>match ev x,ev y with
  | .bool a, .bool b=>K (.bool (if neg then a !=b else a==b))
  |_,_=>A.bad
 | .seq neg x y=>match ev x,ev y with
  | .str a, .str b=>K (.bool (if neg then !decide (a=b) else decide (a=b)))
  |_,_=>A.bad
 | .cat x y=>match ev x,ev y with
  | .str a, .str b=>A.need (a.length+b.length<=9223372036854775807) (K (.str (a++b)))
  |_,_=>A.bad
 | .nt x=>match ev x with
  | .bool a=>K (.bool (!a))
  |_=>A.bad
 | .neg x=>match ev x with
  | .int k a=>K (.int k (k.wrap (0 - a)))
  |_=>A.bad
 | .conv k x=>match ev x with
  | .int _ a=>K (.int k (k.wrap a))
  |_=>A.bad
 | .fa k off x=>stepG A (.eG k) off K (ev x)
 | .eG k off sz ag x=>match ev x with
  | .agg l=>A.need (k<l.length/\DZ (l.take k)=off/\wd (l.getD k .junk)=sz/\(l.getD k .junk).isAgg=ag) (K (l.getD k .junk))
  |_=>A.bad
 | .ia n w x i=>match ev i with
  | .int _ j=>A.need (0<=j/\j<n) (stepG A (.idx j.toNat n) (j.toNat*w) K (ev x))
  |_=>A.bad
 | .is w x i=>match ev i with
  | .int _ j=>match ev x with
   | .lst w' d f l=>A.need (0<=j/\j<l.length) (A.need (w'=w) (K (.fM w d f l j.toNat [] 0)))
   | .vec v n=>A.need (0<=j/\j<n) (K (.gX v j.toNat [] (j.toNat*w)))
   |_=>A.bad
  |_=>A.bad
 | .ix n w ag x i=>match ev i with
  | .int _ j=>match ev x with
   | .arr n' w' f=>A.need (0<=j/\j<n) (A.need (n'=n/\w'=w/\(f j.toNat).isAgg=ag) (K (f j.toNat)))
   |_=>A.bad
  |_=>A.bad
 | .sx x i=>match ev i with
  | .int _ j=>match ev x with
   | .str s=>A.need (0<=j/\j<s.length) (K (.int .u8 (s.getD j.toNat 0).toNat))
   |_=>A.bad
  |_=>A.bad
 | .ext k x=>match ev x with
  | .bK l=>A.need (k<l.length) (K (l.getD k .junk))
  |_=>A.bad
 | .lF z parts=>YE A ev z parts λz'=>A.need (z'.isAgg=true) (K z')
 | .lens x=>match ev x with
  | .str s=>K (.int .i64 s.length)
  |_=>A.bad
 | .len x=>match yj (ev x) with
  |some n=>K (.int .i64 n)
  |none=>A.bad
 | .GL f caps=>A.need ((caps.map ev).all SV.isVal=true) (K (.fn f (caps.map ev)))
 | .nck x=>match ev x with
  | .ptr i p o=>K (.ptr i p o)
  | .fM w d f l i p o=>K (.fM w d f l i p o)
  | .gX i j p o=>K (.gX i j p o)
  | .ref c p o=>K (.ref c p o)
  | .fn f c=>K (.fn f c)
  |_=>A.bad
 | .EF t x=>A.need ((ev x).isVal=true) (K (.iface t (ev x)))
 | .aeq neg e x y=>A.need (gU e (ev x)/\gU e (ev y)) (K (.bool (if neg then !nJ e (ev x) (ev y) else nJ e (ev x) (ev y))))
 | .tas t z x=>match ev x with
  | .iface t' y=>if t'=t then K (.bK [y, .bool true]) else K (.bK [z, .bool false])
  |_=>A.bad
 | .ieq neg tab x y=>match ev x with
  | .iface t a=>match ev y with
   | .iface t' b=>if t'=t then(match FT tab t with
    |some e=>A.need (gU e a/\gU e b) (K (.bool (if neg then !nJ e a b else nJ e a b)))
    |none=>A.bad) else K (.bool neg)
   | .iP=>K (.bool neg)
   |_=>A.bad
  | .iP=>match ev y with
   | .iface _ _=>K (.bool neg)
   | .iP=>match y with
    | .c _=>K (.bool (!neg))
    |_=>A.bad
   |_=>A.bad
  |_=>A.bad
 | .BJ neg x=>match yj (ev x) with
  |some n=>match ev x with
   | .bF=>K (.bool (!neg))
   |_=>A.spl (decide (n=0)) (K .lV) (K (.bool neg))
  |none=>A.bad
 | .Tj neg x=>match ev x with
  | .jr=>K (.bool (!neg))
  | .ptr .. =>K (.bool neg)
  | .fM .. =>K (.bool neg)
  | .gX .. =>K (.bool neg)
  | .ref .. =>K (.bool neg)
  |_=>A.bad
 | .mx x y=>match ev x,ev y with
  | .int k a, .int k' b=>A.need (k'=k) (K (.int k (if a<b then b else a)))
  |_,_=>A.bad
 | .mn x y=>match ev x,ev y with
  | .int k a, .int k' b=>A.need (k'=k) (K (.int k (if b<a then b else a)))
  |_,_=>A.bad
 | .ssl x lo hi=>match ev x with
  | .str s=>lI A ev 0 lo λl=>lI A ev s.length hi λh=>A.need (l<=h/\h<=s.length) (K (.str ((s.take h).drop l)))
  |_=>A.bad
 | .slc w x lo hi mx=>match mx,ev x with
  |none, .lst w' d f l=>A.need (w'=w) (lI A ev 0 lo λa=>lI A ev l.length hi λb=>A.need (a<=b/\b<=l.length) (K (.lst w d f ((l.take b).drop a))))
  |some c, .lst w' d f l=>A.need (w'=w/\hi.isSome=true) (lI A ev 0 lo λa=>lI A ev l.length hi λb=>lI A ev 0 (some c) λm=>A.need (a<=b/\b=m/\m<=l.length) (K (.lit w d f ((l.take b).drop a))))
  |none, .vec i n=>lI A ev 0 lo λa=>lI A ev n hi λb=>A.need (a=0/\b<=n) (K (.jO i b))
  |_,_=>A.bad
 | .asl n w x=>match ev x with
  | .ref c p o=>match dP c p with
   | .arr n' w' f=>A.need (n'=n/\w'=w/\n<=1000000/\iM c p 0 o) (K (.lst w (0:Nat) f (rng n)))
   |_=>A.bad
  | .fM _ d f l i p o=>match f (l.getD i d) with
   | .arr n' w' g=>A.need (n'=n/\w'=w/\n<=1000000/\p=[]/\o=0) (K (.lst w (0:Nat) g (rng n)))
   |_=>A.bad
  |_=>A.bad
def nK(m:List ay)(n:Nat)(ag:Bool)(K:SV->α):SV->α
 | .ptr i p o=>match ah m i with
  | .blk _ c=>A.need (iM c p 0 o/\wd (dP c p)=n/\(dP c p).isAgg=ag) (K (dP c p))
  |_=>A.bad
 | .fM _ d f l i p o=>A.need (iM (f (l.getD i d)) p 0 o/\wd (dP (f (l.getD i d)) p)=n/\(dP (f (l.getD i d)) p).isAgg=ag) (K (dP (f (l.getD i d)) p))
 | .gX i j p o=>match ah m i with
  | .vec _ w l=>A.need (j<l.length/\iM (l.getD j .junk) p (j*w) o/\wd (dP (l.getD j .junk) p)=n/\(dP (l.getD j .junk) p).isAgg=ag) (K (dP (l.getD j .junk) p))
  |_=>A.bad
 | .ref c p o=>A.need (iM c p 0 o/\wd (dP c p)=n/\(dP c p).isAgg=ag) (K (dP c p))
 |_=>A.bad
end
section
variable {α:Type} (A:Ans α)
def G9(m:List ay)(k:MK)(xs:List SV)(K:SV->α):α:=match k with
 | .get ek ev z ok=>match xs with
  |[.map i,key]=>match ah m i with
   | .mp ek' ev' l=>A.need (ek'=ek/\ev'=ev/\gU ek key) (K (if ok then .bK [pX ev z (dQ ek key l), .bool (dQ ek key l).isSome] else pX ev z (dQ ek key l)))
   |_=>A.bad
  |_=>A.bad
 | .abA=>match xs with
  |[.map i]=>match ah m i with
   | .mp _ _ l=>K (.int .i64 l.length)
   |_=>A.bad
  |_=>A.bad
 |_=>A.bad
end
structure wF{α:Type}(A:Ans α)(good:α->Prop)(val:α->Bool):Prop where
 bad:¬ good A.bad
 need:∀ p x,good (A.need p x)->p/\good x/\val (A.need p x)=val x
 spl:∀ b x y,good (A.spl b x y)->good (if b then x else y)/\val (A.spl b x y)=val (if b then x else y)
theorem okP:wF AP (λa=>a) (λ_=>false):=⟨λh=>h,λ_ _ h=>⟨h.1,h.2,rfl⟩,λb x y h=>by cases b<;>exact⟨by first|exact h.1 rfl|exact h.2 rfl,rfl⟩⟩
theorem okV:wF AV (λa=>a.1) (λa=>a.2):=⟨λh=>h,λ_ _ h=>⟨h.1,h.2,rfl⟩,λb x y h=>by cases b<;>exact⟨by first|exact h.1 rfl|exact h.2 rfl,rfl⟩⟩
section
variable {α:Type} {A:Ans α} {good:α->Prop} {val:α->Bool}
def From(good:α->Prop)(val:α->Bool)(r:α)(K:SV->α)(σK:(SV->Prop)->Prop):Prop:=good r->∃ sv,good (K sv)/\val r=val (K sv)/\σK λsv'=>Le sv sv'
theorem le_eq{x y c:SV}(h:Le x y)(e:x=c)(hc:c≠ .junk):y=c:=by
 rcases h with h|h
 ·exact absurd (e.symm.trans h) hc
 ·exact h▸e
theorem fC{x y:SV}(h:Le x y)(hv:x.isVal=true):y=x:=by
 rcases h with h|h
 ·rw[h] at hv;cases hv
 ·exact h.symm
theorem lu{ev:aS->SV}{σ:List SV}(hev:∀ x:aS,Le (ev x) (x.ev σ)):∀ ys:List aS,(ys.map ev).all SV.isVal=true->ys.map (·.ev σ)=ys.map ev
 |[],_=>rfl
 |y::ys,h=>by simp only[List.map_cons,z1c,z01] at h ⊢;rw[fC (hev y) h.1,lu hev ys h.2]
theorem vY.aw6(hA:wF A good val){k:IntKind}{a b:Int}{K:Int->α}(op:vY){r:α}(hr:op.evG A k a b K=r)(h:good r):∃ n,good (K n)/\val r=val (K n)/\op.ev k a b (· =n):=by
 subst hr;cases op<;>simp only[vY.evG,vY.ev] at h ⊢ <;>first
  |exact⟨_,h,rfl,rfl⟩
  |exact⟨_,(hA.need _ _ h).2.1,(hA.need _ _ h).2.2,(hA.need _ _ h).1,rfl⟩
theorem vY.aav{k:IntKind}{a b:Int}{K K':Int->Prop}(op:vY)(hK:∀ n,K n->K' n)(h:op.ev k a b K):op.ev k a b K':=by
 cases op<;>simp only[vY.ev] at h ⊢ <;>first
  |exact hK _ h
  |exact⟨h.1,hK _ h.2⟩
theorem U8(hA:wF A good val){s:Step}{off:Nat}{K:SV->α}{x:SV}{r:α}(hr:stepG A s off K x=r)(h:good r):x.isVal=true/\∃ sv,good (K sv)/\val r=val (K sv)/\zA s off (Le sv) x:=by
 subst hr;cases x<;>simp only[stepG] at h ⊢ <;>first
  |exact absurd h hA.bad
  |exact⟨rfl,_,h,rfl, .inr rfl⟩
theorem aaw(hA:wF A good val){ev:aS->SV}{σ:List SV}(hev:∀ x:aS,Le (ev x) (x.ev σ)){K:SV->α}:∀ (ps:List (List Step×Nat×Nat×aS)) (z:SV) {r:α},YE A ev z ps K=r->good r->∃ sv,good (K sv)/\val r=val (K sv)/\iL σ z ps (· =sv)
 |[],z,r,hr,h=>by subst hr;exact⟨_,h,rfl,rfl⟩
 |(p,o,n,x)::ps,z,r,hr,h=>by subst hr;simp only[YE] at h ⊢;obtain⟨h1,h2,h3⟩:=hA.need _ _ h;obtain⟨sv,k1,k2,k3⟩:=aaw hA hev ps _ rfl h2;have e:=fC (hev x) h1.2.2.1;refine⟨sv,k1,h3.trans k2,?_⟩;simp only[iL,e];exact⟨h1,k3⟩
theorem uY{σ:List SV}{K K':SV->Prop}(hK:∀ x,K x->K' x):∀ (ps:List (List Step×Nat×Nat×aS)) (z:SV),iL σ z ps K->iL σ z ps K'
 |[],_,h=>hK _ h
 |_::ps,_,h=>⟨h.1,uY hK ps _ h.2⟩
theorem kF(hA:wF A good val){ev:aS->SV}{σ:List SV}(hev:∀ x:aS,Le (ev x) (x.ev σ)){d:Nat}{x:Option aS}{K:Nat->α}{r:α}(hr:lI A ev d x K=r)(h:good r):∃ n,good (K n)/\val r=val (K n)/\∀ K':Nat->Prop,K' n->aV.bound σ d x K':=by
 subst hr;cases x with
 |none=>exact⟨_,h,rfl,λ_ h=>h⟩
 |some x=>
  simp only[lI] at h ⊢;split at h
  ·rename_i k j e;have e':=le_eq (hev x) e (by intro h;cases h)
   obtain⟨h1,h2,h3⟩:=hA.need _ _ h;refine⟨_,h2,h3,λK' hK=> ?_⟩;simp only[aV.bound,e'];exact⟨h1,hK⟩
  ·exact absurd h hA.bad
theorem aax(hA:wF A good val){ev:aS->SV}{σ:List SV}(hev:∀ x:aS,Le (ev x) (x.ev σ)){K:SV->α}(p:wK){r:α}(hr:fZ A ev K p=r):From good val r K (λK'=>aV σ K' p):=by
 intro h;have bad:∀ {q:Prop},good A.bad->q:=λh=>absurd h hA.bad;have two:∀ {x y:aS} {a b:SV},ev x=a->ev y=b->a≠ .junk->b≠ .junk->x.ev σ=a/\y.ev σ=b:=λh1 h2 h3 h4=>⟨le_eq (hev _) h1 h3,le_eq (hev _) h2 h4⟩;have nj:∀ {x c:SV},x=c->c≠ .junk->c≠ .junk:=λ_ h=>h;subst hr;cases p with
 |mv x=>exact⟨_,h,rfl,hev x⟩
 |pick c x y=>
  simp only[fZ] at h ⊢;split at h
  ·rename_i b e;have e':=le_eq (hev c) e (by intro h;cases h)
   obtain⟨h1,h2⟩:=hA.spl _ _ _ h;cases b
   ·exact⟨_,h1,h2,by simpa[aV,e'] using hev y⟩
   ·exact⟨_,h1,h2,by simpa[aV,e'] using hev x⟩
  ·exact bad h
 |ar op x y=>
  simp only[fZ] at h ⊢;split at h
  ·rename_i k a k' b e1 e2;obtain⟨f1,f2⟩:=two e1 e2 (by intro h;cases h) (by intro h;cases h)
   obtain⟨h1,h2,h3⟩:=hA.need _ _ h;obtain⟨n,k1,k2,k3⟩:=vY.aw6 hA op rfl h2;refine⟨_,k1,h3.trans k2,?_⟩;simp only[aV,f1,f2];exact⟨h1,vY.aav op (λm hm=>by subst hm;exact .inr rfl) k3⟩
  ·exact bad h
 |cmp op x y=>
  simp only[fZ] at h ⊢;split at h
  ·rename_i k a k' b e1 e2;obtain⟨f1,f2⟩:=two e1 e2 (by intro h;cases h) (by intro h;cases h)
   obtain⟨h1,h2,h3⟩:=hA.need _ _ h;exact⟨_,h2,h3,by simp only[aV,f1,f2];exact⟨h1, .inr rfl⟩⟩
  ·exact bad h
 |beq neg x y=>
  simp only[fZ] at h ⊢;split at h
  ·rename_i a b e1 e2;obtain⟨f1,f2⟩:=two e1 e2 (by intro h;cases h) (by intro h;cases h)
   exact⟨_,h,rfl,by simp only[aV,f1,f2];exact .inr rfl⟩
  ·exact bad h
 |seq neg x y=>
  simp only[fZ] at h ⊢;split at h
  ·rename_i a b e1 e2;obtain⟨f1,f2⟩:=two e1 e2 (by intro h;cases h) (by intro h;cases h)
   exact⟨_,h,rfl,by simp only[aV,f1,f2];exact .inr rfl⟩
  ·exact bad h
 |cat x y=>
  simp only[fZ] at h ⊢;split at h
  ·rename_i a b e1 e2;obtain⟨f1,f2⟩:=two e1 e2 (by intro h;cases h) (by intro h;cases h)
   obtain⟨h1,h2,h3⟩:=hA.need _ _ h;exact⟨_,h2,h3,by simp only[aV,f1,f2];exact⟨h1, .inr rfl⟩⟩
  ·exact bad h
 |nt x=>
  simp only[fZ] at h ⊢;split at h
  ·rename_i a e1;have f1:=le_eq (hev x) e1 (by intro h;cases h)
   exact⟨_,h,rfl,by simp only[aV,f1];exact .inr rfl⟩
  ·exact bad h
 |neg x=>
  simp only[fZ] at h ⊢;split at h
  ·rename_i k a e1;have f1:=le_eq (hev x) e1 (by intro h;cases h)
   exact⟨_,h,rfl,by simp only[aV,f1];exact .inr rfl⟩
  ·exact bad h
 |conv k x=>
  simp only[fZ] at h ⊢;split at h
  ·rename_i k a e1;have f1:=le_eq (hev x) e1 (by intro h;cases h)
   exact⟨_,h,rfl,by simp only[aV,f1];exact .inr rfl⟩
  ·exact bad h
 |fa k off x=>
  simp only[fZ] at h ⊢;obtain⟨hv,sv,k1,k2,k3⟩:=U8 hA rfl h;exact⟨sv,k1,k2,by simp only[aV,fC (hev x) hv];exact k3⟩
 |eG k off sz ag x=>
  simp only[fZ] at h ⊢;split at h
  ·rename_i l e1;have f1:=le_eq (hev x) e1 (by intro h;cases h)
   obtain⟨h1,h2,h3⟩:=hA.need _ _ h;exact⟨_,h2,h3,by simp only[aV,f1];exact⟨h1, .inr rfl⟩⟩
  ·exact bad h
 |ia n w x i=>
  simp only[fZ] at h ⊢;split at h
  ·rename_i k j e1;have f1:=le_eq (hev i) e1 (by intro h;cases h)
   obtain⟨h1,h2,h3⟩:=hA.need _ _ h;obtain⟨hv,sv,k1,k2,k3⟩:=U8 hA rfl h2;exact⟨sv,k1,h3.trans k2,by simp only[aV,f1,fC (hev x) hv];exact⟨h1,k3⟩⟩
  ·exact bad h
 |«is» w x i=>
  simp only[fZ] at h ⊢;split at h
  ·rename_i k j e1;have f1:=le_eq (hev i) e1 (by intro h;cases h)
   split at h
   ·rename_i e2;have f2:=le_eq (hev x) e2 (by intro h;cases h)
    obtain⟨h1,h2,h3⟩:=hA.need _ _ h;obtain⟨g1,g2,g3⟩:=hA.need _ _ h2;exact⟨_,g2,h3.trans g3,by simp only[aV,f1,f2];exact⟨h1,g1, .inr rfl⟩⟩
   ·rename_i e2;have f2:=le_eq (hev x) e2 (by intro h;cases h)
    obtain⟨h1,h2,h3⟩:=hA.need _ _ h;exact⟨_,h2,h3,by simp only[aV,f1,f2];exact⟨h1, .inr rfl⟩⟩
   ·exact bad h
  ·exact bad h
 |ix n w ag x i=>
  simp only[fZ] at h ⊢;split at h
  ·rename_i k j e1;have f1:=le_eq (hev i) e1 (by intro h;cases h)
   split at h
   ·rename_i e2;have f2:=le_eq (hev x) e2 (by intro h;cases h)
    obtain⟨h1,h2,h3⟩:=hA.need _ _ h;obtain⟨g1,g2,g3⟩:=hA.need _ _ h2;exact⟨_,g2,h3.trans g3,by simp only[aV,f1,f2];exact⟨h1,g1, .inr rfl⟩⟩
   ·exact bad h
  ·exact bad h
 |sx x i=>
  simp only[fZ] at h ⊢;split at h
  ·rename_i k j e1;have f1:=le_eq (hev i) e1 (by intro h;cases h)
   split at h
   ·rename_i e2;have f2:=le_eq (hev x) e2 (by intro h;cases h)
    obtain⟨h1,h2,h3⟩:=hA.need _ _ h;exact⟨_,h2,h3,by simp only[aV,f1,f2];exact⟨h1, .inr rfl⟩⟩
   ·exact bad h
  ·exact bad h
 |ext k x=>
  simp only[fZ] at h ⊢;split at h
  ·rename_i l e1;have f1:=le_eq (hev x) e1 (by intro h;cases h)
   obtain⟨h1,h2,h3⟩:=hA.need _ _ h;exact⟨_,h2,h3,by simp only[aV,f1];exact⟨h1, .inr rfl⟩⟩
  ·exact bad h
 |lF z ps=>
  simp only[fZ] at h ⊢;obtain⟨sv,k1,k2,k3⟩:=aaw hA hev ps z rfl h;obtain⟨h1,h2,h3⟩:=hA.need _ _ k1;exact⟨_,h2,k2.trans h3,by simp only[aV];exact uY (λx hx=>by subst hx;exact⟨h1, .inr rfl⟩) ps z k3⟩
 |lens x=>
  simp only[fZ] at h ⊢;split at h
  ·rename_i s e1;have f1:=le_eq (hev x) e1 (by intro h;cases h)
   exact⟨_,h,rfl,by simp only[aV,f1];exact .inr rfl⟩
  ·exact bad h
 |len x=>
  simp only[fZ] at h ⊢;split at h
  ·rename_i n e1;have f1:x.ev σ=ev x:=by
    rcases hev x with e|e
    ·rw[e] at e1;cases e1
    ·exact e.symm
   exact⟨_,h,rfl,by simp only[aV,f1,e1];exact .inr rfl⟩
  ·exact bad h
 |GL f caps=>
  simp only[fZ] at h ⊢;obtain⟨h1,h2,h3⟩:=hA.need _ _ h;exact⟨_,h2,h3,by simp only[aV];rw[lu hev caps h1];exact⟨h1, .inr rfl⟩⟩
 |nck x=>
  simp only[fZ] at h ⊢;split at h<;>first
   |exact bad h
   |(rename_i e1
     have f1:=le_eq (hev x) e1 (by intro h;cases h)
     exact⟨_,h,rfl,by simp only[aV,f1];exact .inr rfl⟩)
 |Tj neg x=>
  simp only[fZ] at h ⊢;split at h<;>first
   |exact bad h
   |(rename_i e1
     have f1:=le_eq (hev x) e1 (by intro h;cases h)
     exact⟨_,h,rfl,by simp only[aV,f1];exact .inr rfl⟩)
 |EF t x=>
  simp only[fZ] at h ⊢;obtain⟨h1,h2,h3⟩:=hA.need _ _ h;exact⟨_,h2,h3,by simp only[aV];rw[fC (hev x) h1];exact⟨h1, .inr rfl⟩⟩
 |aeq neg e x y=>
  simp only[fZ] at h ⊢;obtain⟨h1,h2,h3⟩:=hA.need _ _ h;have vv:∀ {z:SV},gU e z->z.isVal=true:=by intro z hz;cases e<;>cases z<;>simp only[gU] at hz<;>rfl
  have f1:=fC (hev x) (vv h1.1);have f2:=fC (hev y) (vv h1.2);exact⟨_,h2,h3,by simp only[aV,f1,f2];exact⟨h1, .inr rfl⟩⟩
 |tas t z x=>
  simp only[fZ] at h ⊢;split at h
  ·rename_i t' y e1;have f1:=le_eq (hev x) e1 (by intro h;cases h)
   by_cases he:t'=t
   ·rw[if_pos he] at h ⊢;exact⟨_,h,rfl,by simp only[aV,f1,if_pos he];exact .inr rfl⟩
   ·rw[if_neg he] at h ⊢;exact⟨_,h,rfl,by simp only[aV,f1,if_neg he];exact .inr rfl⟩
  ·exact bad h
 |ieq neg tab x y=>
  simp only[fZ] at h ⊢;split at h
  ·rename_i t a e1;have f1:=le_eq (hev x) e1 (by intro h;cases h)
   split at h
   ·rename_i t' b e2;have f2:=le_eq (hev y) e2 (by intro h;cases h)
    by_cases he:t'=t
    ·rw[if_pos he] at h ⊢;cases hta:FT tab t with
     |some e=>
      rw[hta] at h;simp only at h ⊢;obtain⟨q1,q2,q3⟩:=hA.need _ _ h;exact⟨_,q2,q3,by simp only[aV,f1,f2,if_pos he,hta];exact⟨q1, .inr rfl⟩⟩
     |none=>rw[hta] at h;exact bad h
    ·rw[if_neg he] at h ⊢;exact⟨_,h,rfl,by simp only[aV,f1,f2,if_neg he];exact .inr rfl⟩
   ·rename_i e2;have f2:=le_eq (hev y) e2 (by intro h;cases h)
    exact⟨_,h,rfl,by simp only[aV,f1,f2];exact .inr rfl⟩
   ·exact bad h
  ·rename_i e1;have f1:=le_eq (hev x) e1 (by intro h;cases h)
   split at h
   ·rename_i e2;have f2:=le_eq (hev y) e2 (by intro h;cases h)
    exact⟨_,h,rfl,by simp only[aV,f1,f2];exact .inr rfl⟩
   ·rename_i e2;have f2:=le_eq (hev y) e2 (by intro h;cases h)
    split at h
    ·exact⟨_,h,rfl,by simp only[aV,f1,f2];exact .inr rfl⟩
    ·exact bad h
   ·exact bad h
  ·exact bad h
 |BJ neg x=>
  simp only[fZ] at h ⊢;split at h
  ·rename_i n e1;have f1:x.ev σ=ev x:=by
    rcases hev x with e|e
    ·rw[e] at e1;cases e1
    ·exact e.symm
   split at h
   ·rename_i e2;refine⟨_,h,rfl,?_⟩;simp only[aV,f1,e2];exact .inr rfl
   ·obtain⟨h1,h2⟩:=hA.spl _ _ _ h;rename_i hne;have pk:∀ K':SV->Prop,((decide (n=0)=true->K' .lV)/\(decide (n=0)=false->K' (.bool neg)))->aV σ K' (.BJ neg x):=by
     intro K' hK;simp only[aV,f1,e1]
     first
      |exact hK
      |(split
        ·rename_i e3;exact absurd e3 hne
        ·exact hK)
    by_cases hn:n=0
    ·simp only[hn,decide_true,if_true] at h1 h2;exact⟨_,h1,by simpa[hn] using h2,pk _ ⟨λ_=> .inr rfl,λe=>by simp[hn] at e⟩⟩
    ·simp only[hn,decide_false,z0x,if_false] at h1 h2;exact⟨_,h1,by simpa[hn] using h2,pk _ ⟨λe=>by simp[hn] at e,λ_=> .inr rfl⟩⟩
  ·exact bad h
 |mx x y=>
  simp only[fZ] at h ⊢;split at h
  ·rename_i k a k' b e1 e2;obtain⟨f1,f2⟩:=two e1 e2 (by intro h;cases h) (by intro h;cases h)
   obtain⟨h1,h2,h3⟩:=hA.need _ _ h;exact⟨_,h2,h3,by simp only[aV,f1,f2];exact⟨h1, .inr rfl⟩⟩
  ·exact bad h
 |mn x y=>
  simp only[fZ] at h ⊢;split at h
  ·rename_i k a k' b e1 e2;obtain⟨f1,f2⟩:=two e1 e2 (by intro h;cases h) (by intro h;cases h)
   obtain⟨h1,h2,h3⟩:=hA.need _ _ h;exact⟨_,h2,h3,by simp only[aV,f1,f2];exact⟨h1, .inr rfl⟩⟩
  ·exact bad h
 |ssl x lo hi=>
  simp only[fZ] at h ⊢;split at h
  ·rename_i s e1;have f1:=le_eq (hev x) e1 (by intro h;cases h)
   obtain⟨a,h1,h2,h3⟩:=kF hA hev rfl h;obtain⟨b,g1,g2,g3⟩:=kF hA hev rfl h1;obtain⟨q1,q2,q3⟩:=hA.need _ _ g1;exact⟨_,q2,(h2.trans g2).trans q3,by simp only[aV,f1];exact h3 _ (g3 _ ⟨q1, .inr rfl⟩)⟩
  ·exact bad h
 |slc w x lo hi mx=>
  simp only[fZ] at h ⊢;split at h
  ·rename_i w' d f l e1;have f1:=le_eq (hev x) e1 (by intro h;cases h)
   obtain⟨r1,r2,r3⟩:=hA.need _ _ h;obtain⟨a,h1,h2,h3⟩:=kF hA hev rfl r2;obtain⟨b,g1,g2,g3⟩:=kF hA hev rfl h1;obtain⟨q1,q2,q3⟩:=hA.need _ _ g1;exact⟨_,q2,((r3.trans h2).trans g2).trans q3,by simp only[aV,f1];exact⟨r1,h3 _ (g3 _ ⟨q1, .inr rfl⟩)⟩⟩
  ·rename_i c w' d f l e1;have f1:=le_eq (hev x) e1 (by intro h;cases h)
   obtain⟨r1,r2,r3⟩:=hA.need _ _ h;obtain⟨a,h1,h2,h3⟩:=kF hA hev rfl r2;obtain⟨b,g1,g2,g3⟩:=kF hA hev rfl h1;obtain⟨e,j1,j2,j3⟩:=kF hA hev rfl g1;obtain⟨q1,q2,q3⟩:=hA.need _ _ j1;exact⟨_,q2,(((r3.trans h2).trans g2).trans j2).trans q3,by simp only[aV,f1];exact⟨r1,h3 _ (g3 _ (j3 _ ⟨q1, .inr rfl⟩))⟩⟩
  ·rename_i i n e1;have f1:=le_eq (hev x) e1 (by intro h;cases h)
   obtain⟨a,h1,h2,h3⟩:=kF hA hev rfl h;obtain⟨b,g1,g2,g3⟩:=kF hA hev rfl h1;obtain⟨q1,q2,q3⟩:=hA.need _ _ g1;exact⟨_,q2,(h2.trans g2).trans q3,by simp only[aV,f1];exact h3 _ (g3 _ ⟨q1, .inr rfl⟩)⟩
  ·exact bad h
 |asl n w x=>
  simp only[fZ] at h ⊢;split at h
  ·rename_i c p o e1;have f1:=le_eq (hev x) e1 (by intro h;cases h)
   split at h
   ·rename_i n' w' f e2;obtain⟨q1,q2,q3⟩:=hA.need _ _ h;exact⟨_,q2,q3,by simp only[aV,f1,e2];exact⟨q1, .inr rfl⟩⟩
   ·exact bad h
  ·rename_i w0 d f l i p o e1;have f1:=le_eq (hev x) e1 (by intro h;cases h)
   split at h
   ·rename_i n' w' g e2;obtain⟨q1,q2,q3⟩:=hA.need _ _ h;exact⟨_,q2,q3,by simp only[aV,f1,e2];exact⟨q1, .inr rfl⟩⟩
   ·exact bad h
  ·exact bad h
theorem Kv(hA:wF A good val){m:List ay}{n:Nat}{ag:Bool}{K:SV->α}{x:SV}{r:α}(hr:nK A m n ag K x=r)(h:good r):x.isVal=true/\∃ sv,good (K sv)/\val r=val (K sv)/\peek m n ag (Le sv) x:=by
 subst hr;cases x<;>simp only[nK,peek] at h ⊢ <;>first
  |exact absurd h hA.bad
  |exact⟨rfl,_,(hA.need _ _ h).2.1,(hA.need _ _ h).2.2,(hA.need _ _ h).1, .inr rfl⟩
  |(split at h
    ·rename_i e;simp only[e];exact⟨rfl,_,(hA.need _ _ h).2.1,(hA.need _ _ h).2.2,(hA.need _ _ h).1, .inr rfl⟩
    ·exact absurd h hA.bad)
theorem aqL(hA:wF A good val){m:List ay}{k:MK}{xs:List SV}{K:SV->α}{r:α}(hr:G9 A m k xs K=r)(h:good r):∃ sv,good (K sv)/\val r=val (K sv)/\∀ K':SV->List ay->Prop,K' sv m->mX m k xs K':=by
 subst hr;cases k<;>simp only[G9,mX] at h ⊢ <;>try (exact absurd h hA.bad)
 ·split at h
  ·rename_i i key;simp only;split at h
   ·rename_i e0;obtain⟨h1,h2,h3⟩:=hA.need _ _ h;exact⟨_,h2,h3,λK' hK=>by simp only[e0];exact⟨h1,hK⟩⟩
   ·exact absurd h hA.bad
  ·exact absurd h hA.bad
 ·split at h
  ·rename_i i;simp only;split at h
   ·rename_i e0;exact⟨_,h,rfl,λK' hK=>by simp only[e0];exact hK⟩
   ·exact absurd h hA.bad
  ·exact absurd h hA.bad
end
theorem NP{m:List ay}{k:MK}{xs:List SV}{K K':SV->List ay->Prop}(hK:∀ x m,K x m->K' x m)(h:mX m k xs K):mX m k xs K':=by
 cases k<;>simp only[mX] at h ⊢
 ·split at h<;>first|exact hK _ _ h|exact h.elim
 ·split at h
  ·try simp only
   split at h
   ·rename_i e0
    try rw[e0]
    exact⟨h.1,hK _ _ h.2⟩
   ·exact h.elim
  ·exact h.elim
 ·split at h
  ·try simp only
   split at h
   ·rename_i e0
    try rw[e0]
    exact⟨h.1,hK _ _ h.2⟩
   ·exact h.elim
  ·exact h.elim
 ·split at h
  ·split at h
   ·rename_i l hl
    try simp only[hl]
    split at h
    ·rename_i bs hb
     try simp only[hb]
     exact hK _ _ h
    ·exact h.elim
   ·exact h.elim
  ·exact h.elim
 ·split at h
  ·exact⟨h.1,hK _ _ h.2⟩
  ·exact h.elim
 ·split at h
  ·try simp only
   split at h
   ·rename_i e0
    try rw[e0]
    exact hK _ _ h
   ·exact h.elim
  ·exact h.elim
def qR(F:Bool->Prop->Prop)(x:Prop->Prop)(y:Prop×Bool):Prop:= ∀ acc,x acc->∃ g,F y.2 g/\(g->acc/\y.1)
section rel
variable {F:Bool->Prop->Prop}
theorem dB{y:Prop×Bool}:qR F AC.bad y:=λ_ h=>h.elim
theorem dn{p:Prop}{x:Prop->Prop}{y:Prop×Bool}(h:qR F x y):qR F (AC.need p x) (AV.need p y):=λacc hx=>by obtain⟨g,h1,h2⟩:=h _ hx;exact⟨g,h1,λhg=>⟨(h2 hg).1.1,(h2 hg).1.2,(h2 hg).2⟩⟩
theorem aay{b:Bool}{x x':Prop->Prop}{y y':Prop×Bool}(h:qR F x y)(h':qR F x' y'):qR F (AC.spl b x x') (AV.spl b y y'):=λacc hx=>by
 cases b with
 |true=>
  obtain⟨g,h1,h2⟩:=h _ (hx.1 rfl);exact⟨g,h1,λhg=>⟨(h2 hg).1,(⟨λ_=>(h2 hg).2,λe=>by cases e⟩:(true=true->y.1)/\(true=false->y'.1))⟩⟩
 |false=>
  obtain⟨g,h1,h2⟩:=h' _ (hx.2 rfl);exact⟨g,h1,λhg=>⟨(h2 hg).1,(⟨λe=>(by cases e),λ_=>(h2 hg).2⟩:(false=true->y.1)/\(false=false->y'.1))⟩⟩
theorem aaz{ev:aS->SV}{K:SV->Prop->Prop}{K':SV->Prop×Bool}(hK:∀ sv,qR F (K sv) (K' sv)):∀ (ps:List (List Step×Nat×Nat×aS)) (z:SV),qR F (YE AC ev z ps K) (YE AV ev z ps K')
 |[],z=>hK z
 |(p,o,n,x)::r,z=>dn (aaz hK r _)
theorem kG{ev:aS->SV}{d:Nat}{x:Option aS}{K:Nat->Prop->Prop}{K':Nat->Prop×Bool}(hK:∀ n,qR F (K n) (K' n)):qR F (lI AC ev d x K) (lI AV ev d x K'):=by
 cases x with
 |none=>exact hK d
 |some x=>
  simp only[lI];split
  ·exact dn (hK _)
  ·exact dB
theorem rel_step{s:Step}{off:Nat}{K:SV->Prop->Prop}{K':SV->Prop×Bool}(hK:∀ sv,qR F (K sv) (K' sv))(x:SV):qR F (stepG AC s off K x) (stepG AV s off K' x):=by cases x<;>simp only[stepG]<;>first|exact hK _|exact dB
theorem amd{m:List ay}{n:Nat}{ag:Bool}{K:SV->Prop->Prop}{K':SV->Prop×Bool}(hK:∀ sv,qR F (K sv) (K' sv))(x:SV):qR F (nK AC m n ag K x) (nK AV m n ag K' x):=by
 cases x<;>simp only[nK]<;>first
  |exact dB
  |exact dn (hK _)
  |(split<;>first|exact dB|exact dn (hK _))
theorem aqM{m:List ay}{k:MK}{xs:List SV}{K:SV->Prop->Prop}{K':SV->Prop×Bool}(hK:∀ sv,qR F (K sv) (K' sv)):qR F (G9 AC m k xs K) (G9 AV m k xs K'):=by
 cases k<;>simp only[G9]<;>try (exact dB)
 ·split
  ·split
   ·exact dn (hK _)
   ·exact dB
  ·exact dB
 ·split
  ·split
   ·exact hK _
   ·exact dB
  ·exact dB
theorem aw7{k:IntKind}{a b:Int}{K:Int->Prop->Prop}{K':Int->Prop×Bool}(hK:∀ n,qR F (K n) (K' n))(op:vY):qR F (op.evG AC k a b K) (op.evG AV k a b K'):=by cases op<;>simp only[vY.evG]<;>first|exact hK _|exact dn (hK _)
theorem aqN{ev:aS->SV}{K:SV->Prop->Prop}{K':SV->Prop×Bool}(hK:∀ sv,qR F (K sv) (K' sv))(p:wK):qR F (fZ AC ev K p) (fZ AV ev K' p):=by
 cases p with
 |ar op x y=>
  simp only[fZ];split
  ·exact dn (aw7 (λn=>hK _) op)
  ·exact dB
 |pick c x y=>
  simp only[fZ];split
  ·exact aay (hK _) (hK _)
  ·exact dB
 |fa k off x=>exact rel_step hK _
 |ia n w x i=>
  simp only[fZ];split
  ·exact dn (rel_step hK _)
  ·exact dB
 |lF z ps=>exact aaz (λsv=>dn (hK _)) ps z
 |ssl x lo hi=>
  simp only[fZ];split
  ·exact kG (λl=>kG (λh=>dn (hK _)))
  ·exact dB
 |slc w x lo hi mx=>
  simp only[fZ];split
  ·exact dn (kG (λl=>kG (λh=>dn (hK _))))
  ·exact dn (kG (λl=>kG (λh=>kG (λc=>dn (hK _)))))
  ·exact kG (λl=>kG (λh=>dn (hK _)))
  ·exact dB
 |asl n w x=>
  simp only[fZ];split
  ·split
   ·exact dn (hK _)
   ·exact dB
  ·split
   ·exact dn (hK _)
   ·exact dB
  ·exact dB
 |tas t z x=>
  simp only[fZ];split
  ·split<;>exact hK _
  ·exact dB
 |ieq neg tab x y=>
  simp only[fZ];split
  ·split
   ·split
    ·split
     ·exact dn (hK _)
     ·exact dB
    ·exact hK _
   ·exact hK _
   ·exact dB
  ·split
   ·exact hK _
   ·split
    ·exact hK _
    ·exact dB
   ·exact dB
  ·exact dB
 |BJ neg x=>
  simp only[fZ];split
  ·split
   ·exact hK _
   ·exact aay (hK _) (hK _)
  ·exact dB
 |_=>
  simp only[fZ]
  first
   |exact hK _
   |exact dn (hK _)
   |(split<;>first|exact hK _|exact dn (hK _)|exact dB|(split<;>first|exact dB|exact dn (dn (hK _))|exact dn (hK _)))
end rel
theorem Gz{s:Step}{off:Nat}{K K':SV->Prop}(hK:∀ x,K x->K' x){x:SV}(h:zA s off K x):zA s off K' x:=by cases x<;>simp only[zA] at h ⊢ <;>exact hK _ h
theorem jC{σ:List SV}{d:Nat}{x:Option aS}{K K':Nat->Prop}(hK:∀ x,K x->K' x)(h:aV.bound σ d x K):aV.bound σ d x K':=by
 cases x with
 |none=>exact hK _ h
 |some x=>
  simp only[aV.bound] at h ⊢;split at h
  ·exact⟨h.1,hK _ h.2⟩
  ·exact h.elim
theorem Ak{m:List ay}{n:Nat}{ag:Bool}{K K':SV->Prop}(hK:∀ x,K x->K' x){x:SV}(hh:peek m n ag K x):peek m n ag K' x:=by
 cases x<;>simp only[peek] at hh ⊢ <;>first
  |exact hh
  |exact⟨hh.1,hK _ hh.2⟩
  |(split at hh<;>first|exact hh.elim|exact⟨hh.1,hK _ hh.2⟩)
theorem NQ{σ:List SV}{K K':SV->Prop}(hK:∀ x,K x->K' x){p:wK}(h:aV σ K p):aV σ K' p:=by
 cases p<;>simp only[aV] at h ⊢
 case ar=>split at h<;>first|exact h.elim|exact⟨h.1,vY.aav _ (λn hn=>hK _ hn) h.2⟩
 case fa=>exact Gz hK h
 case ia=>split at h<;>first|exact h.elim|exact⟨h.1,Gz hK h.2⟩
 case lF=>exact uY (λx hx=>⟨hx.1,hK _ hx.2⟩) _ _ h
 case ssl=>split at h<;>first|exact h.elim|exact jC (λa ha=>jC (λb hb=>⟨hb.1,hK _ hb.2⟩) ha) h
 case asl=>
  split at h<;>try (exact h.elim)
  all_goals (split at h<;>first|exact h.elim|exact⟨h.1,hK _ h.2⟩)
 case slc=>split at h<;>first|exact h.elim|exact jC (λa ha=>jC (λb hb=>⟨hb.1,hK _ hb.2⟩) ha) h|exact⟨h.1,jC (λa ha=>jC (λb hb=>⟨hb.1,hK _ hb.2⟩) ha) h.2⟩|exact⟨h.1,jC (λa ha=>jC (λb hb=>jC (λc hc=>⟨hc.1,hK _ hc.2⟩) hb) ha) h.2⟩
 case tas=>
  split at h<;>try (exact h.elim)
  split at h
  ·rename_i he;rw[if_pos he];exact hK _ h
  ·rename_i he;rw[if_neg he];exact hK _ h
 case ieq=>
  split at h<;>try (exact h.elim)
  ·split at h<;>try (exact h.elim)
   ·split at h
    ·rename_i he;rw[if_pos he];split at h<;>try (exact h.elim)
     exact⟨h.1,hK _ h.2⟩
    ·rename_i he;rw[if_neg he];exact hK _ h
   ·exact hK _ h
  ·split at h<;>first|exact h.elim|exact hK _ h|(split at h<;>first|exact h.elim|exact hK _ h)
 case BJ=>split at h<;>first|exact h.elim|(split at h<;>first|exact hK _ h|exact⟨λe=>hK _ (h.1 e),λe=>hK _ (h.2 e)⟩)
 case pick=>split at h<;>first|exact h.elim|exact⟨λe=>hK _ (h.1 e),λe=>hK _ (h.2 e)⟩
 all_goals first
  |exact hK _ h
  |exact⟨h.1,hK _ h.2⟩
  |(split at h<;>first|exact h.elim|exact hK _ h|exact⟨h.1,hK _ h.2⟩|(split at h<;>first|exact h.elim|exact⟨h.1,hK _ h.2⟩|exact⟨h.1,h.2.1,hK _ h.2.2⟩))
end Go.Sx
namespace Go.Sx
open Go
variable {P:Program}
inductive Call:Type 1 where
 |no
 |ro (p:Prop) (r:SV)
 |is (p:Prop) (r:SV) (m':List ay)
abbrev FH:=FuncId->List SV->List ay->Call
def Call.hook(c:Call)(m:List ay)(K:SV->List ay->Prop):Prop:=match c with
 | .no=>False
 | .ro p r=>p/\K r m
 | .is p r m'=>p/\K r m'
def FH.hook(Γ:FH):Hook:=λf args m K=>(Γ f args m).hook m K
def Call.OK(P:Program)(f:FuncId)(args:List SV)(m:List ay):Call->Prop
 | .no=>True
 | .ro p r=>p->iF P f=true/\iU P f args m r m
 | .is p r m'=>p->iF P f=true/\iU P f args m r m'
def aW(P:Program)(Γ:FH):Prop:= ∀ f args m,(Γ f args m).OK P f args m
theorem aW.hook{Γ:FH}(h:aW P Γ):fB P Γ.hook:=by
 intro f args m K hh;have:=h f args m;unfold FH.hook at hh;cases hc:Γ f args m with
 |no=>rw[hc] at hh;exact hh.elim
 |ro p r=>rw[hc] at hh this;obtain⟨h1,h2⟩:=this hh.1;exact⟨h1,r,m,hh.2,h2⟩
 |«is» p r m'=>rw[hc] at hh this;obtain⟨h1,h2⟩:=this hh.1;exact⟨h1,r,m',hh.2,h2⟩
def FH.none:FH:=λ_ _ _=> .no
theorem FH.none_ok:aW P FH.none:=λ_ _ _=>trivial
def FH.on(f:FuncId)(H:List SV->List ay->Call)(Γ:FH):FH:=λg args m=>if g=f then H args m else Γ g args m
theorem FH.xU{f:FuncId}{H:List SV->List ay->Call}{Γ:FH}(hH:∀ args m,(H args m).OK P f args m)(hΓ:aW P Γ):aW P (FH.on f H Γ):=by
 intro g args m;unfold FH.on;split
 ·rename_i h;subst h;exact hH args m
 ·exact hΓ g args m
inductive SL:Type 1 where
 |nil
 |op (d:Option Nat) (x:yE) (r:SL)
 |sc (or:Bool) (d s:Nat) (l:SL) (y:aS) (r:SL)
 |Vw (or:Bool) (d s:Nat) (l:SL) (y:aS) (r:SL)
 |prune (ks:List Nat) (r:SL)
def SL.flat(g:Option (Nat×Bool)):SL->List dA
 | .nil=>[]
 | .op d x r=>⟨d,g,x⟩::r.flat g
 | .sc or d s l y r=>l.flat (some (s,!or))++⟨some d,g, .p (.pick (.t s) (if or then .c (.bool true) else y) (if or then y else .c (.bool false)))⟩::r.flat g
 | .Vw or d s l y r=>l.flat (some (s,!or))++⟨some d,g, .p (.pick (.t s) (if or then .c (.bool true) else y) (if or then y else .c (.bool false)))⟩::r.flat g
 | .prune _ r=>r.flat g
def SL.Ub(s d:Nat):SL->List Nat->Bool
 | .nil,_=>true
 | .op d' _ r,acc=>(match d' with
  |some k=>decide (s<k)&&decide (k<d)&&r.Ub s d (k::acc)
  |none=>false)
 | .sc _ d' s' l _ r,acc=>decide (s<d')&&decide (d'<d)&&decide (s<s')&&acc.contains s'&&acc.all (λk=> !(decide (s'<k)&&decide (k<d')))&&l.Ub s' d' []&&r.Ub s d (d'::acc)
 | .Vw ..,_=>false
 | .prune _ r,acc=>r.Ub s d acc
def SL.wf(n:Nat):SL->Bool
 | .nil=>true
 | .op d _ r=>(match d with
  |some k=>decide (k<n)
  |none=>true)&&r.wf n
 | .sc _ d s l _ r=>decide (d<n)&&l.Ub s d []&&r.wf n
 | .Vw _ d _ l _ r=>decide (d<n)&&l.wf n&&r.wf n
 | .prune _ r=>r.wf n
def U9(c:Call)(K:SV->Prop×Bool):Prop×Bool:=match c with
 | .ro p r=>AV.need p (K r)
 |_=>AV.bad
def vop(Γ:FH)(m:List ay)(O:Fr)(K:SV->Prop×Bool):yE->Prop×Bool
 | .p p=>fZ AV (aS.fv O) K p
 | .e (.load n ag x)=>nK AV m n ag K (x.fv O)
 | .e (.call f ys)=>AV.need ((ys.map (aS.fv O)).all SV.isVal=true) (U9 (Γ f (ys.map (aS.fv O)) m) K)
 | .e (.gW f ys)=>AV.need ((ys.map (aS.fv O)).all SV.isVal=true) (U9 (Γ f (ys.map (aS.fv O)) m) K)
 | .e (.DK l)=>K (.lst 1 (0:Int) (SV.int .i64) l)
 | .e (.mJ k ys)=>AV.need ((ys.map (aS.fv O)).all SV.isVal=true) (G9 AV m k (ys.map (aS.fv O)) K)
 | .e (.jm x ys)=>match x.fv O with
  | .fn f cap=>AV.need ((ys.map (aS.fv O)).all SV.isVal=true) (U9 (Γ f (ys.map (aS.fv O)++cap) m) K)
  |_=>AV.bad
 |_=>AV.bad
def scG{α:Type}(A:Ans α)(or b:Bool)(K:Bool->α):Prop×Bool->α
 |(p,q)=>A.need (b=(!or)->p) (K (if or then b||q else b&&q))
def SL.vg(Γ:FH)(m:List ay):SL->aS->Fr->Prop×Bool
 | .nil,y,O=>match y.fv O with
  | .bool b=>(True,b)
  |_=>AV.bad
 | .op d x r,y,O=>vop Γ m O (λsv=>r.vg Γ m y (rC d sv O)) x
 | .sc or d s l y' r,y,O=>match look s O with
  | .bool b=>scG AV or b (λv=>r.vg Γ m y (.pick s d (.bool v) O)) (l.vg Γ m y' O)
  |_=>AV.bad
 | .Vw ..,_,_=>AV.bad
 | .prune ks r,y,O=>r.vg Γ m y (aX ks O)
def Bc(c:Call)(K:SV->Prop->Prop):Prop->Prop:=match c with
 | .ro p r=>AC.need p (K r)
 |_=>AC.bad
def JV(Γ:FH)(m:List ay)(O:Fr)(K:SV->Prop->Prop):yE->Prop->Prop
 | .p p=>fZ AC (aS.fv O) K p
 | .e e=>match e with
  | .load n ag x=>nK AC m n ag K (x.fv O)
  | .call f ys=>AC.need ((ys.map (aS.fv O)).all SV.isVal=true) (Bc (Γ f (ys.map (aS.fv O)) m) K)
  | .gW f ys=>AC.need ((ys.map (aS.fv O)).all SV.isVal=true) (Bc (Γ f (ys.map (aS.fv O)) m) K)
  | .DK l=>K (.lst 1 (0:Int) (SV.int .i64) l)
  | .mJ k ys=>AC.need ((ys.map (aS.fv O)).all SV.isVal=true) (G9 AC m k (ys.map (aS.fv O)) K)
  | .jm x ys=>match x.fv O with
   | .fn f cap=>AC.need ((ys.map (aS.fv O)).all SV.isVal=true) (Bc (Γ f (ys.map (aS.fv O)++cap) m) K)
   |_=>AC.bad
  |_=>AC.bad
def SL.vc(Γ:FH)(m:List ay):SL->aS->Fr->(Bool->Prop->Prop)->Prop->Prop
 | .nil,y,O,K,acc=>match y.fv O with
  | .bool b=>K b acc
  |_=>False
 | .op d x r,y,O,K,acc=>JV Γ m O (λsv acc'=>r.vc Γ m y (rC d sv O) K acc') x acc
 | .sc or d s l y' r,y,O,K,acc=>match look s O with
  | .bool b=>l.vc Γ m y' O (λq g=>r.vc Γ m y (.pick s d (.bool (if or then b||q else b&&q)) O) K (acc/\(b=(!or)->g))) True
  |_=>False
 | .Vw ..,_,_,_,_=>False
 | .prune ks r,y,O,K,acc=>r.vc Γ m y (aX ks O) K acc
theorem Va{F:Bool->Prop->Prop}{K:SV->Prop->Prop}{K':SV->Prop×Bool}(hK:∀ sv,qR F (K sv) (K' sv))(c:Call):qR F (Bc c K) (U9 c K'):=by
 cases c with
 |ro p r=>exact dn (hK _)
 |no=>exact dB
 |«is» p r m=>exact dB
theorem aqO{F:Bool->Prop->Prop}{Γ:FH}{m:List ay}{O:Fr}{K:SV->Prop->Prop}{K':SV->Prop×Bool}(hK:∀ sv,qR F (K sv) (K' sv))(x:yE):qR F (JV Γ m O K x) (vop Γ m O K' x):=by
 cases x with
 |p p=>exact aqN hK p
 |e e=>
  cases e<;>simp only[JV,vop]<;>first
   |exact dB
   |exact hK _
   |exact amd hK _
   |exact dn (Va hK _)
   |exact dn (aqM hK)
   |(split<;>first|exact dB|exact dn (Va hK _))
theorem Kw{Γ:FH}{m:List ay}:∀ (l:SL) (y:aS) (O:Fr) (F:Bool->Prop->Prop),qR F (l.vc Γ m y O F) (l.vg Γ m y O)
 | .nil,y,O,F=>by
  intro acc h;simp only[SL.vc,SL.vg] at h ⊢;split at h
  ·exact⟨acc,h,λg=>⟨g,trivial⟩⟩
  ·exact h.elim
 | .op d x r,y,O,F=>aqO (λsv=>Kw r y (rC d sv O) F) x
 | .sc or d s l y' r,y,O,F=>by
  intro acc h;simp only[SL.vc,SL.vg] at h ⊢;split at h
  ·rename_i b e;obtain⟨g,h1,h2⟩:=Kw l y' O _ True h;generalize l.vg Γ m y' O=pq at h1 h2;obtain⟨p,q⟩:=pq;obtain⟨g2,h3,h4⟩:=Kw r y _ F _ h1;exact⟨g2,h3,λhg=>⟨(h4 hg).1.1,λhb=>(h2 ((h4 hg).1.2 hb)).2,(h4 hg).2⟩⟩
  ·exact h.elim
 | .Vw ..,y,O,F=>by intro acc h;exact h.elim
 | .prune ks r,y,O,F=>Kw r y (aX ks O) F
theorem WC{Γ:FH}{m:List ay}{l:SL}{y:aS}{O:Fr}{B:Prop}{X:Bool->Prop}(h:l.vc Γ m y O (λq g=>(B->g)/\X q) True):(B->(l.vg Γ m y O).1)/\X (l.vg Γ m y O).2:=by obtain⟨g,h1,h2⟩:=Kw l y O _ True h;exact⟨λhb=>(h2 (h1.1 hb)).2,h1.2⟩
def aes(ev:aS->SV)(w:Nat):List SV->List (Nat×aS)->(List SV->Prop)->Prop
 |l,[],K=>K l
 |l,(k,x)::r,K=>(k<l.length/\(ev x).isVal=true/\wd (ev x)=w)/\aes ev w (l.set k (ev x)) r K
def opF(Γ:FH)(dr:Bool)(O:Fr)(m:List ay)(K:Fr->SV->List ay->Prop):yE->Prop
 | .p p=>fZ AP (aS.fv O) (λsv=>K O sv m) p
 | .e (.alloc T z)=>K O (.ptr m.length [] 0) (m++[.blk T z])
 | .e (.box T x)=>(x.fv O).isVal=true/\K O (.ptr m.length [] 0) (m++[.blk T (x.fv O)])
 | .e (.load n ag x)=>nK AP m n ag (λsv=>K O sv m) (x.fv O)
 | .e (.store n x v)=>JU m n (v.fv O) (λm'=>K O .junk m') (x.fv O)
 | .e (.qj E w len z ys)=>aes (aS.fv O) w (z05 len z) ys λl=>K O (.vec m.length len) (m++[.vec E w l])
 | .e (.mks E w by' z l c)=>match l.fv O,c.fv O with
  | .int _ a, .int _ b=>(0<=a/\a<=b/\b*by'<=140737488355328)/\K O (.vec m.length a.toNat) (m++[.vec E w (z05 a.toNat z)])
  |_,_=>False
 | .e (.app E w by' s x)=>if dr then Uy m E w by' (s.fv O) (x.fv O) (λsv m'=>K O sv m') else
  match zM m w (x.fv O) with
  |none=>False
  |some l2=>match s.fv O with
   | .bF=>l2.length*by'<=140737488355328/\K O (.vec m.length l2.length) (m++[.vec E w l2])
   | .vec i _=>match ah m i with
    | .vec E' w' l=>(E'=E/\w'=w/\(l.length+l2.length)*by'<=140737488355328)/\
      K (yw i O) (.vec i (l.length+l2.length)) ((m.map (oz i)).set i (.vec E w (dI i (l++l2))))
    |_=>False
   |_=>False
 | .e (.call f ys)=>(ys.map (aS.fv O)).all SV.isVal=true/\(Γ f (ys.map (aS.fv O)) m).hook m (λsv m'=>K O sv m')
 | .e (.gW f ys)=>(ys.map (aS.fv O)).all SV.isVal=true/\(match Γ f (ys.map (aS.fv O)) m with
  | .ro p r=>p/\K O r m
  |_=>False)
 | .e (.DK l)=>K O (.lst 1 (0:Int) (SV.int .i64) l) m
 | .e (.DF E w len z ys)=>aes (aS.fv O) w (z05 len z) ys λl=>D5 l/\K O (YD w len l) m
 | .e (.mJ k ys)=>(ys.map (aS.fv O)).all SV.isVal=true/\mX m k (ys.map (aS.fv O)) (λsv m'=>K O sv m')
 | .e (.again n ag x d)=>(look d O).isVal=true/\nK AP m n ag (λsv=>sv=look d O/\K O .junk m) (x.fv O)
 | .e (.uX k ys d)=>(look d O).isSet=true/\(ys.map (aS.fv O)).all SV.isVal=true/\mX m k (ys.map (aS.fv O)) (λsv m'=>(sv=look d O/\m'=m)/\K O .junk m)
 | .e (.Fz tab x ys)=>match x.fv O with
  | .iface t v=>match Ux tab t with
   |some f=>(ys.map (aS.fv O)).all SV.isVal=true/\(Γ f (v::ys.map (aS.fv O)) m).hook m (λsv m'=>K O sv m')
   |none=>False
  |_=>False
 | .e (.jm x ys)=>match x.fv O with
  | .fn f cap=>(ys.map (aS.fv O)).all SV.isVal=true/\(Γ f (ys.map (aS.fv O)++cap) m).hook m (λsv m'=>K O sv m')
  |_=>False
def SL.Vu(Γ:FH)(dr:Bool)(s:Nat)(want:Bool):SL->(Fr->List ay->Prop)->Fr->List ay->Prop
 | .nil,K,O,m=>look s O= .bool want/\K O m
 | .op d x r,K,O,m=>look s O= .bool want/\opF Γ dr O m (λO' sv m'=>r.Vu Γ dr s want K (rC d sv O') m') x
 | .sc ..,_,_,_=>False
 | .Vw ..,_,_,_=>False
 | .prune ks r,K,O,m=>r.Vu Γ dr s want K (aX ks O) m
def SL.wp(Γ:FH)(dr:Bool):SL->(Fr->List ay->Prop)->Fr->List ay->Prop
 | .nil,K,O,m=>K O m
 | .op d x r,K,O,m=>opF Γ dr O m (λO' sv m'=>r.wp Γ dr K (rC d sv O') m') x
 | .sc or d s l y r,K,O,m=>match look s O with
  | .bool b=>l.vc Γ m y O (λq g=>(b=(!or)->g)/\r.wp Γ dr K (.pick s d (.bool (if or then b||q else b&&q)) O) m) True
  |_=>False
 | .Vw or d s l y r,K,O,m=>match look s O with
  | .bool b=>if b=or then l.Ub s d []=true/\r.wp Γ dr K (.pick s d (.bool or) O) m else l.Vu Γ dr s (!or) (λO' m'=>match y.fv O' with
   | .bool q=>r.wp Γ dr K (.pick s d (.bool q) O') m'
   |_=>False) O m
  |_=>False
 | .prune ks r,K,O,m=>r.wp Γ dr K (aX ks O) m
theorem GH{Γ:Hook}:∀ (l1 l2:List dA) (K:List SV->List ay->Prop) (σ:List SV) (m:List ay),rE Γ (l1++l2) K σ m=rE Γ l1 (λσ' m'=>rE Γ l2 K σ' m') σ m
 |[],_,_,_,_=>rfl
 |o::l1,l2,K,σ,m=>by simp only[z0z,rE,GH l1 l2]
theorem Em{Γ:Hook}:∀ (l1 l2:List dA) (K:List SV->List ay->Prop) (σ:List SV) (m:List ay),iJ Γ (l1++l2) K σ m=iJ Γ l1 (λσ' m'=>iJ Γ l2 K σ' m') σ m
 |[],_,_,_,_=>rfl
 |o::l1,l2,K,σ,m=>by simp only[z0z,iJ,Em l1 l2]
def uZ(dr:Bool)(Γ:Hook)(l:List dA)(K:List SV->List ay->Prop)(σ:List SV)(m:List ay):Prop:=if dr then iJ Γ l K σ m else rE Γ l K σ m
theorem uz{dr:Bool}{Γ:Hook}(l1 l2:List dA)(K:List SV->List ay->Prop)(σ:List SV)(m:List ay):uZ dr Γ (l1++l2) K σ m=uZ dr Γ l1 (λσ' m'=>uZ dr Γ l2 K σ' m') σ m:=by
 cases dr
 ·exact GH l1 l2 K σ m
 ·exact Em l1 l2 K σ m
theorem En{dr:Bool}{Γ:Hook}{K:List SV->List ay->Prop}{σ:List SV}{m:List ay}:uZ dr Γ [] K σ m=K σ m:=by cases dr<;>rfl
def xop(dr:Bool)(Γ:Hook)(σ:List SV)(m:List ay)(K:List SV->SV->List ay->Prop)(x:yE):Prop:=if dr then jZ Γ σ m (λsv m'=>K σ sv m') x else opK Γ σ m K x
theorem NR{dr:Bool}{Γ:Hook}{o:dA}{r:List dA}{K:List SV->List ay->Prop}{σ:List SV}{m:List ay}:
  uZ dr Γ (o::r) K σ m=qQ o.guard σ (λσ1=>xop dr Γ σ1 m (λσ' sv m'=>uZ dr Γ r K (iC o.dst sv σ') m') o.op) (λσ1=>uZ dr Γ r K (iC o.dst (.bK []) σ1) m):=by
 cases dr<;>rfl
def Met(g:Option (Nat×Bool))(σ:List SV):Prop:=match g with
 |none=>True
 |some (s,want)=>σ.getD s .junk= .bool want
def NS(g:Option (Nat×Bool))(σ:List SV):Prop:=match g with
 |none=>False
 |some (s,want)=>σ.getD s .junk= .bool (!want)\/σ.getD s .junk= .bK []
theorem qg{dr:Bool}{Γ:Hook}{o:dA}{r:List dA}{K:List SV->List ay->Prop}{σ:List SV}{m:List ay}(hm:Met o.guard σ)
  (h:xop dr Γ σ m (λσ' sv m'=>uZ dr Γ r K (iC o.dst sv σ') m') o.op):uZ dr Γ (o::r) K σ m:=by
 rw[NR];cases hg:o.guard with
 |none=>exact h
 |some g=>
  obtain⟨s,want⟩:=g;rw[hg] at hm;have hm:σ.getD s .junk= .bool want:=hm;simp only[qQ,hm];exact⟨λ_=>by rw[set_self hm];exact h,λe=>absurd e (by cases want<;>simp)⟩
theorem Ky{dr:Bool}{Γ:Hook}{o:dA}{r:List dA}{K:List SV->List ay->Prop}{σ:List SV}{m:List ay}(hm:NS o.guard σ)
  (h:uZ dr Γ r K (iC o.dst (.bK []) σ) m):uZ dr Γ (o::r) K σ m:=by
 rw[NR];cases hg:o.guard with
 |none=>rw[hg] at hm;exact hm.elim
 |some g=>
  obtain⟨s,want⟩:=g;rw[hg] at hm;rcases hm with hm|hm
  ·simp only[qQ,hm];exact⟨λe=>absurd e (by cases want<;>simp),λ_=>by rw[set_self hm];exact h⟩
  ·simp only[qQ,hm];exact h
def Out(s d:Nat)(σ σ':List SV):Prop:=σ'.length=σ.length/\∀ k,¬ (s<k/\k<d)->σ'.getD k .junk=σ.getD k .junk
theorem Out.refl(s d:Nat)(σ:List SV):Out s d σ σ:=⟨rfl,λ_ _=>rfl⟩
theorem Out.trans{s d:Nat}{σ σ' Vb:List SV}(h:Out s d σ σ')(k:Out s d σ' Vb):Out s d σ Vb:=⟨k.1.trans h.1,λi hi=>(k.2 i hi).trans (h.2 i hi)⟩
theorem getD_set_ne{σ:List SV}{a b:Nat}{x:SV}(h:b≠a):(σ.set a x).getD b .junk=σ.getD b .junk:=by rw[z02,z02,z09,if_neg (λe=>h e.symm)]
theorem jS{σ:List SV}{a:Nat}{x:SV}(h:a<σ.length):(σ.set a x).getD a .junk=x:=by simp[z02,h]
theorem Out.set{s d:Nat}{σ:List SV}{k:Nat}{x:SV}(h:s<k/\k<d):Out s d σ (σ.set k x):=
 ⟨by simp,λi hi=>getD_set_ne (λe=>hi (e▸h))⟩
theorem Out.wider{s d s' d':Nat}{σ σ':List SV}(h:Out s' d' σ σ')(hs:s<=s')(hd:d'<=d):Out s d σ σ':=⟨h.1,λk hk=>h.2 k (λe=>hk ⟨by omega,by omega⟩)⟩
theorem xO{dr:Bool}{Γ:Hook}{m:List ay}:∀ (l:SL) (s d:Nat) (want:Bool) (acc:List Nat) (σ:List SV) (K:List SV->List ay->Prop),l.Ub s d acc=true->d<=σ.length->NS (some (s,want)) σ->(∀ k∈acc,σ.getD k .junk= .bK [])->
  (∀ σ',Out s d σ σ'->K σ' m)->uZ dr Γ (l.flat (some (s,want))) K σ m
 | .nil,s,d,want,acc,σ,K,_,_,_,_,hK=>by rw[SL.flat,En];exact hK σ (Out.refl ..)
 | .op d' x r,s,d,want,acc,σ,K,hw,hn,hu,ha,hK=>by
  cases d' with
  |none=>simp[SL.Ub] at hw
  |some k=>
   simp only[SL.Ub,z01,decide_eq_true_eq] at hw;obtain⟨⟨h1,h2⟩,h3⟩:=hw;rw[SL.flat];refine Ky hu ?_;have hs:(σ.set k (.bK [])).getD s .junk=σ.getD s .junk:=getD_set_ne (by omega)
   refine xO r s d want (k::acc) (σ.set k (.bK [])) K h3 (by simpa using hn) (by simp only[NS,hs];exact hu) (λj hj=> ?_) λσ' h=>hK σ' ((Out.set ⟨h1,h2⟩).trans h)
   by_cases e:j=k
   ·subst e;exact jS (by omega)
   ·rw[getD_set_ne e];exact ha j (by simpa[e] using hj)
 | .sc or d' s' l y r,s,d,want,acc,σ,K,hw,hn,hu,ha,hK=>by
  simp only[SL.Ub,z01,decide_eq_true_eq] at hw;obtain⟨⟨⟨⟨⟨⟨h1,h2⟩,h0⟩,h3⟩,h6⟩,h4⟩,h5⟩:=hw;rw[SL.flat,uz];have hs':σ.getD s' .junk= .bK []:=ha s' (by simpa using h3)
  refine xO l s' d' (!or) [] σ _ h4 (by omega) (.inr hs') (λk hk=>by cases hk) λσ1 ho=> ?_
  have ho':Out s d σ σ1:=ho.wider (by omega) (by omega)
  have hu':NS (some (s,want)) σ1:=by simp only[NS];rw[ho'.2 s (by omega)];exact hu
  refine Ky hu' ?_;have hs:(σ1.set d' (.bK [])).getD s .junk=σ1.getD s .junk:=getD_set_ne (by omega)
  refine xO r s d want (d'::acc) (σ1.set d' (.bK [])) K h5 (by simp[ho.1];omega) (by simp only[NS,hs];exact hu') (λj hj=> ?_) λσ' h=>hK σ' ((ho'.trans (Out.set ⟨h1,h2⟩)).trans h)
  by_cases e:j=d'
  ·subst e;exact jS (by rw[ho.1];omega)
  ·rw[getD_set_ne e];have hj':j∈acc:=by simpa[e] using hj
   have:=List.all_eq_true.1 h6 j hj';simp only[Bool.not_eq_true',Bool.and_eq_false_iff,decide_eq_false_iff_not] at this;rw[ho.2 j (by omega)]
   exact ha j hj'
 | .Vw ..,s,d,want,acc,σ,K,hw,hn,hu,ha,hK=>by simp[SL.Ub] at hw
 | .prune _ r,s,d,want,acc,σ,K,hw,hn,hu,ha,hK=>xO r s d want acc σ K hw hn hu ha hK
theorem Rep.prune{n:Nat}{σ:List SV}{O:Fr}(h:Rep n σ O)(ks:List Nat):Rep n σ (aX ks O):=by
 refine⟨h.1,λk=> ?_⟩;rcases dZ (k:=k) (O:=O) ks with e|e
 ·exact .inl e
 ·rw[e];exact h.2 k
theorem wJ{dr:Bool}{Γ:Hook}{σ:List SV}{m:List ay}{K:List SV->SV->List ay->Prop}{p:wK}(h:aV σ (λsv=>K σ sv m) p):xop dr Γ σ m K (.p p):=by cases dr<;>exact h
theorem Vd{dr:Bool}{Γ:Hook}{σ:List SV}{m:List ay}{K:List SV->SV->List ay->Prop}{n:Nat}{ag:Bool}{x:aS}(h:peek m n ag (λsv=>K σ sv m) (x.ev σ)):xop dr Γ σ m K (.e (.load n ag x)):=by cases dr<;>exact h
theorem Ve{dr:Bool}{Γ:Hook}{σ:List SV}{m:List ay}{K:List SV->SV->List ay->Prop}{f:FuncId}{ys:List aS}(h1:(ys.map (·.ev σ)).all SV.isVal=true)(h:Γ f (ys.map (·.ev σ)) m λsv m'=>K σ sv m'):xop dr Γ σ m K (.e (.call f ys)):=by cases dr<;>exact⟨h1,h⟩
theorem NT{dr:Bool}{Γ:Hook}{σ:List SV}{m:List ay}{K:List SV->SV->List ay->Prop}{f:FuncId}{ys:List aS}(h1:(ys.map (·.ev σ)).all SV.isVal=true)(h:Γ f (ys.map (·.ev σ)) m λsv m'=>m'=m/\K σ sv m):xop dr Γ σ m K (.e (.gW f ys)):=by cases dr<;>exact⟨h1,h⟩
theorem Kz{Γ:FH}{f:FuncId}{args:List SV}{m:List ay}{K:SV->Prop×Bool}{r:Prop×Bool}(hr:U9 (Γ f args m) K=r)(h:r.1):∃ sv,(K sv).1/\r.2=(K sv).2/\(∀ K':SV->List ay->Prop,K' sv m->Γ.hook f args m K'):=by
 subst hr;cases hc:Γ f args m with
 |no=>rw[hc] at h;exact h.elim
 |ro p x=>
  rw[hc] at h;refine⟨x,h.2,rfl,λK' hK=> ?_⟩;unfold FH.hook;rw[hc];exact⟨h.1,hK⟩
 |«is» p x m'=>rw[hc] at h;exact h.elim
theorem ame{dr:Bool}{Γ:FH}{n:Nat}{m:List ay}{O:Fr}{σ:List SV}(hr:Rep n σ O){K:SV->Prop×Bool}(x:yE)(h:(vop Γ m O K x).1):
  ∃ sv,(K sv).1/\(vop Γ m O K x).2=(K sv).2/\∀ K':List SV->SV->List ay->Prop,(∀ sv',Le sv sv'->K' σ sv' m)->xop dr Γ.hook σ m K' x:=by
 have hev:∀ x:aS,Le (x.fv O) (x.ev σ):=hr.fv;cases x with
 |p p=>
  obtain⟨sv,h1,h2,h3⟩:=aax okV hev p rfl h;exact⟨sv,h1,h2,λK' hK=>wJ (NQ (λx hx=>hK x hx) h3)⟩
 |e e=>
  cases e with
  |load n ag x=>
   obtain⟨hv,sv,h1,h2,h3⟩:=Kv okV rfl h;refine⟨sv,h1,h2,λK' hK=>Vd ?_⟩;rw[fC (hev x) hv];exact Ak (λx hx=>hK x hx) h3
  |call f ys=>
   obtain⟨h0,h1,h2⟩:=okV.need _ _ h;obtain⟨sv,k1,k2,k3⟩:=Kz rfl h1;have he:=lu hev ys h0;refine⟨sv,k1,h2.trans k2,λK' hK=>Ve (by rw[he];exact h0) ?_⟩
   rw[he];exact k3 _ (hK sv (Le.refl _))
  |gW f ys=>
   obtain⟨h0,h1,h2⟩:=okV.need _ _ h;obtain⟨sv,k1,k2,k3⟩:=Kz rfl h1;have he:=lu hev ys h0;refine⟨sv,k1,h2.trans k2,λK' hK=>NT (by rw[he];exact h0) ?_⟩
   rw[he];exact k3 _ ⟨rfl,hK sv (Le.refl _)⟩
  |DK l=>exact⟨_,h,rfl,λK' hK=>by cases dr<;>exact hK _ (Le.refl _)⟩
  |mJ k ys=>
   obtain⟨h0,h1,h2⟩:=okV.need _ _ h;obtain⟨sv,k1,k2,k3⟩:=aqL okV rfl h1;have he:=lu hev ys h0;refine⟨sv,k1,h2.trans k2,λK' hK=> ?_⟩;have k:=k3 (λsv m'=>K' σ sv m') (hK sv (Le.refl _));rw[<- he] at k h0;cases dr<;>exact⟨h0,k⟩
  |jm x ys=>
   simp only[vop] at h ⊢;split at h
   ·rename_i f cap e1;have f1:=le_eq (hev x) e1 (by intro h;cases h)
    obtain⟨h0,h1,h2⟩:=okV.need _ _ h;obtain⟨sv,k1,k2,k3⟩:=Kz rfl h1;have he:=lu hev ys h0;refine⟨sv,k1,h2.trans k2,λK' hK=> ?_⟩;have k:FH.hook Γ f (ys.map (·.ev σ)++cap) m λsv m'=>K' σ sv m':=by rw[he];exact k3 _ (hK sv (Le.refl _))
    have h1:(ys.map (·.ev σ)).all SV.isVal=true:=by rw[he];exact h0
    cases dr<;>simp only[xop,opK,jZ,nD,f1]<;>exact⟨h1,k⟩
   ·exact h.elim
  |_=>exact h.elim
theorem Rep.pick{n:Nat}{σ σ':List SV}{O:Fr}(h:Rep n σ O){s d:Nat}(hd:d<n)(ho:Out s d σ σ'){x:SV}:Rep n (σ'.set d x) (.pick s d x O):=by
 refine⟨by simp[ho.1,h.1],λk=> ?_⟩
 simp only[look];by_cases hk:k=d
 ·subst hk;rw[if_pos rfl];exact .inr ⟨hd,(jS (by rw[ho.1,h.1];exact hd)).symm⟩
 ·rw[if_neg hk];by_cases hb:s<k/\k<d
  ·rw[if_pos hb];exact .inl rfl
  ·rw[if_neg hb,getD_set_ne hk,ho.2 k hb];exact h.2 k
theorem Vf{dr:Bool}{Γ:FH}{n:Nat}{m:List ay}:∀ (l:SL) (s d:Nat) (want:Bool) (acc:List Nat) (y:aS) (O:Fr) (σ:List SV) (K:List SV->List ay->Prop),l.Ub s d acc=true->d<=n->Rep n σ O->σ.getD s .junk= .bool want->
  (l.vg Γ m y O).1->(∀ σ',Out s d σ σ'->y.ev σ'= .bool (l.vg Γ m y O).2->K σ' m)->uZ dr Γ.hook (l.flat (some (s,want))) K σ m
 | .nil,s,d,want,acc,y,O,σ,K,_,_,hr,_,h,hK=>by
  rw[SL.flat,En];simp only[SL.vg] at h hK;split at h
  ·rename_i b e;exact hK σ (Out.refl ..) (by rw[e];exact le_eq (hr.fv y) e (by intro h;cases h))
  ·exact h.elim
 | .op d' x r,s,d,want,acc,y,O,σ,K,hw,hn,hr,hs,h,hK=>by
  cases d' with
  |none=>simp[SL.Ub] at hw
  |some k=>
   simp only[SL.Ub,z01,decide_eq_true_eq] at hw;obtain⟨⟨h1,h2⟩,h3⟩:=hw;rw[SL.flat];simp only[SL.vg] at h hK;obtain⟨sv,g1,g2,g3⟩:=ame (dr:=dr) hr x h;refine qg hs (g3 _ λsv' hle=> ?_);refine Vf r s d want (k::acc) y (rC (some k) sv O) (σ.set k sv') K h3 hn (hr.put (by omega) hle) (by rw[getD_set_ne (by omega)];exact hs) g1 λσ' ho e=> ?_
   exact hK σ' ((Out.set ⟨h1,h2⟩).trans ho) (by rw[e,g2])
 | .sc or d' s' l y' r,s,d,want,acc,y,O,σ,K,hw,hn,hr,hs,h,hK=>by
  simp only[SL.Ub,z01,decide_eq_true_eq] at hw;obtain⟨⟨⟨⟨⟨⟨h1,h2⟩,h0⟩,h3⟩,h6⟩,h4⟩,h5⟩:=hw;rw[SL.flat,uz];simp only[SL.vg] at h hK;split at h
  ·rename_i b e;simp only[e] at hK;have hb:σ.getD s' .junk= .bool b:=le_eq (hr.le s') e (by intro h;cases h)
   generalize he:l.vg Γ m y' O=pq at h hK;obtain⟨p,q⟩:=pq;simp only[scG] at h hK;obtain⟨g1,g2⟩:(b=(!or)->p)/\(r.vg Γ m y (.pick s' d' (.bool (if or=true then b||q else b&&q)) O)).1:=h
   have fin:∀ σ1,Out s' d' σ σ1->σ1.getD s' .junk= .bool b/\(b=(!or)->y'.ev σ1= .bool q)->
     uZ dr Γ.hook (⟨some d',some (s,want), .p (.pick (.t s') (if or then .c (.bool true) else y') (if or then y' else .c (.bool false)))⟩::r.flat (some (s,want))) K σ1 m:=by
    rintro σ1 ho ⟨hs1,hy⟩;have ho':Out s d σ σ1:=ho.wider (by omega) (by omega)
    refine qg (show σ1.getD s .junk= .bool want by rw[ho'.2 s (by omega)];exact hs) (wJ ?_)
    have key:K=K:=rfl;have next:uZ dr Γ.hook (r.flat (some (s,want))) K (σ1.set d' (.bool (if or=true then b||q else b&&q))) m:=by
     refine Vf r s d want (d'::acc) y (.pick s' d' (.bool (if or=true then b||q else b&&q)) O) _ K h5 hn (hr.pick (by omega) ho) ?_ g2 λσ' ho2 e2=> ?_
     ·rw[getD_set_ne (by omega),ho'.2 s (by omega)];exact hs
     ·exact hK σ' ((ho'.trans (Out.set ⟨h1,h2⟩)).trans ho2) e2
    have hs1':aS.ev σ1 (.t s')= .bool b:=hs1;simp only[aV,hs1'];cases or<;>cases b
    ·simpa[iC,aS.ev] using next
    ·simpa[iC,hy rfl] using next
    ·simpa[iC,hy rfl] using next
    ·simpa[iC,aS.ev] using next
   by_cases hbo:b=(!or)
   ·refine Vf l s' d' (!or) [] y' O σ _ h4 (by omega) hr (by rw[hb,hbo]) (by rw[he];exact g1 hbo) λσ1 ho e1=> ?_
    rw[he] at e1;exact fin σ1 ho ⟨by rw[ho.2 s' (by omega)];exact hb,λ_=>e1⟩
   ·have aw8:b=or:=by cases b<;>cases or<;>first|rfl|exact absurd rfl hbo
    refine xO l s' d' (!or) [] σ _ h4 (by rw[hr.1];omega) (.inl (by rw[hb,aw8];simp)) (λk hk=>by cases hk) λσ1 ho=> ?_
    exact fin σ1 ho ⟨by rw[ho.2 s' (by omega)];exact hb,λe=>absurd e hbo⟩
  ·exact h.elim
 | .Vw ..,s,d,want,acc,y,O,σ,K,hw,hn,hr,hs,h,hK=>by simp[SL.Ub] at hw
 | .prune ks r,s,d,want,acc,y,O,σ,K,hw,hn,hr,hs,h,hK=>Vf r s d want acc y _ σ K hw hn (hr.prune ks) hs h hK
theorem QA{ev:aS->SV}{σ:List SV}(hev:∀ x:aS,Le (ev x) (x.ev σ)){w:Nat}{K:List SV->Prop}:∀ (ys:List (Nat×aS)) (l:List SV),aes ev w l ys K->dS σ w l ys K
 |[],_,h=>h
 |(k,x)::ys,l,h=>by simp only[aes] at h;have e:=fC (hev x) h.1.2.1;simp only[dS,e];exact⟨h.1,QA hev ys _ h.2⟩
theorem aeT{m:List ay}{n:Nat}{v:SV}{K K':List ay->Prop}(hK:∀ x,K x->K' x){x:SV}(hh:JU m n v K x):x.isVal=true/\v.isVal=true/\JU m n v K' x:=by
 cases x<;>simp only[JU] at hh ⊢ <;>first
  |exact hh.elim
  |(split at hh<;>first|exact hh.elim|exact⟨rfl,hh.1.2.2.2,hh.1,hK _ hh.2⟩|exact⟨rfl,hh.1.2.2.2.2,hh.1,hK _ hh.2⟩)
theorem E8{c:Call}{m:List ay}{K K':SV->List ay->Prop}(hK:∀ x m,K x m->K' x m)(h:c.hook m K):c.hook m K':=by
 cases c<;>simp only[Call.hook] at h ⊢
 ·exact⟨h.1,hK _ _ h.2⟩
 ·exact⟨h.1,hK _ _ h.2⟩
theorem Vg{m:List ay}{w:Nat}{x:SV}{l:List SV}(h:zM m w x=some l):x.isVal=true:=by cases x<;>simp[zM] at h<;>rfl
theorem amf{dr:Bool}{Γ:FH}{n:Nat}{m:List ay}{O:Fr}{σ:List SV}(hr:Rep n σ O){K:Fr->SV->List ay->Prop}(x:yE)(h:opF Γ dr O m K x):
  ∀ K':List SV->SV->List ay->Prop,(∀ σ' O' sv sv' m',Rep n σ' O'->Le sv sv'->K O' sv m'->K' σ' sv' m')->xop dr Γ.hook σ m K' x:=by
 intro K' hK;have hev:∀ x:aS,Le (x.fv O) (x.ev σ):=hr.fv;have two:∀ {x y:aS} {a b:SV},x.fv O=a->y.fv O=b->a≠ .junk->b≠ .junk->x.ev σ=a/\y.ev σ=b:=λh1 h2 h3 h4=>⟨le_eq (hev _) h1 h3,le_eq (hev _) h2 h4⟩;cases x with
 |p p=>
  have h:fZ AP (aS.fv O) (λsv=>K O sv m) p:=h;obtain⟨sv,h1,_,h3⟩:=aax okP hev p rfl h;exact wJ (NQ (λx hx=>hK σ O sv x m hr hx h1) h3)
 |e e=>
  cases e with
  |alloc T z=>
   have:=hK _ _ _ _ _ hr (Le.refl _) h;cases dr<;>exact this
  |box T x=>
   have e:=fC (hev x) h.1;have k:K' σ (.ptr m.length [] 0) (m++[.blk T (x.fv O)]):=hK _ _ _ _ _ hr (Le.refl _) h.2;rw[<- e] at k;cases dr<;>exact⟨by rw[e];exact h.1,k⟩
  |load n ag x=>
   have h:nK AP m n ag (λsv=>K O sv m) (x.fv O):=h;obtain⟨hv,sv,h1,_,h3⟩:=Kv okP rfl h;refine Vd ?_;rw[fC (hev x) hv];exact Ak (λx hx=>hK _ _ _ _ _ hr hx h1) h3
  |store n x v=>
   obtain⟨h1,h2,h3⟩:=aeT (λm' hm=>hK σ O .junk .junk m' hr (Le.refl _) hm) h;rw[<- fC (hev x) h1,<- fC (hev v) h2] at h3;cases dr<;>exact h3
  |qj E w len z ys=>
   have k:=QA hev ys _ h;have:dS σ w (z05 len z) ys λl=>K' σ (.vec m.length len) (m++[.vec E w l]):=by obtain⟨k1,k2⟩:=ni ys _ k;exact YW ys _ (hK _ _ _ _ _ hr (Le.refl _) k1) k2
   cases dr<;>exact this
  |mks E w by' z l c=>
   simp only[opF] at h;split at h
   ·rename_i e1 e2;obtain⟨f1,f2⟩:=two e1 e2 (by intro h;cases h) (by intro h;cases h)
    have k:=hK _ _ _ _ _ hr (Le.refl _) h.2;cases dr<;>simp only[xop,opK,jZ,nD,f1,f2]<;>exact⟨h.1,k⟩
   ·exact h.elim
  |app E w by' s x=>
   simp only[opF] at h;cases dr with
   |true=>
    simp only[if_true,Uy] at h;show Uy m E w by' (s.ev σ) (x.ev σ) (λsv m'=>K' σ sv m')
    unfold Uy;split at h
    ·exact h.elim
    ·rename_i l2 e1;have e1':=e1;rw[<- fC (hev x) (Vg e1)] at e1';rw[e1'];simp only;split at h
     ·rename_i e2;rw[le_eq (hev s) e2 (by intro h;cases h)]
      exact⟨h.1,hK _ _ _ _ _ hr (Le.refl _) h.2⟩
     ·rename_i i k e2;rw[le_eq (hev s) e2 (by intro h;cases h)]
      simp only;split at h
      ·rename_i e3
       try rw[e3]
       exact⟨h.1,hK _ _ _ _ _ hr (Le.refl _) h.2⟩
      ·exact h.elim
     ·rename_i e2;rw[le_eq (hev s) e2 (by intro h;cases h)]
      simp only;split at h
      ·rename_i hem;rw[if_pos hem];exact⟨h.1,hK _ _ _ _ _ hr (Le.refl _) h.2⟩
      ·rename_i hem;rw[if_neg hem];exact⟨h.1,hK _ _ _ _ _ hr (Le.refl _) h.2⟩
     ·exact h.elim
   |false=>
    simp only[z0x,if_false] at h;show amg σ m E w by' (s.ev σ) (x.ev σ) K'
    unfold amg;split at h
    ·exact h.elim
    ·rename_i l2 e1;have e1':=e1;rw[<- fC (hev x) (Vg e1)] at e1';rw[e1'];simp only;split at h
     ·rename_i e2;rw[le_eq (hev s) e2 (by intro h;cases h)]
      exact⟨h.1,hK _ _ _ _ _ hr (Le.refl _) h.2⟩
     ·rename_i i k e2;rw[le_eq (hev s) e2 (by intro h;cases h)]
      simp only;split at h
      ·rename_i e3
       try rw[e3]
       exact⟨h.1,hK _ _ _ _ _ hr.kill (Le.refl _) h.2⟩
      ·exact h.elim
     ·exact h.elim
  |call f ys=>
   have he:=lu hev ys h.1;refine Ve (by rw[he];exact h.1) ?_
   rw[he];exact E8 (λx m' hx=>hK _ _ _ _ _ hr (Le.refl _) hx) h.2
  |gW f ys=>
   have he:=lu hev ys h.1;refine NT (by rw[he];exact h.1) ?_
   rw[he];have h2:=h.2;split at h2
   ·rename_i p r e;unfold FH.hook;rw[e];exact⟨h2.1,rfl,hK _ _ _ _ _ hr (Le.refl _) h2.2⟩
   ·exact h2.elim
  |DK l=>
   have:=hK _ _ _ _ _ hr (Le.refl _) h;cases dr<;>exact this
  |DF E w len z ys=>
   have k:=QA hev ys _ h;have:dS σ w (z05 len z) ys λl=>D5 l/\K' σ (YD w len l) m:=by obtain⟨k1,k2⟩:=ni ys _ k;exact YW ys _ ⟨k1.1,hK _ _ _ _ _ hr (Le.refl _) k1.2⟩ k2
   cases dr<;>exact this
  |mJ k ys=>
   obtain⟨h0,h⟩:=h;have k:=NP (λx m' hx=>hK _ _ _ _ _ hr (Le.refl _) hx) h;rw[<- lu hev ys h0] at k h0;cases dr<;>exact⟨h0,k⟩
  |jm x ys=>
   simp only[opF] at h;split at h
   ·rename_i f cap e1;have f1:=le_eq (hev x) e1 (by intro h;cases h)
    have he:=lu hev ys h.1;have k:FH.hook Γ f (ys.map (·.ev σ)++cap) m λsv m'=>K' σ sv m':=by rw[he];exact E8 (λx m' hx=>hK _ _ _ _ _ hr (Le.refl _) hx) h.2
    have h1:(ys.map (·.ev σ)).all SV.isVal=true:=by rw[he];exact h.1
    cases dr<;>simp only[xop,opK,jZ,nD,f1]<;>exact⟨h1,k⟩
   ·exact h.elim
  |Fz tab x ys=>
   simp only[opF] at h;split at h
   ·rename_i t v e1;split at h
    ·rename_i f hta;have f1:=le_eq (hev x) e1 (by intro h;cases h)
     have he:=lu hev ys h.1;have k:FH.hook Γ f (v::ys.map (·.ev σ)) m λsv m'=>K' σ sv m':=by rw[he];exact E8 (λx m' hx=>hK _ _ _ _ _ hr (Le.refl _) hx) h.2
     have h1:(ys.map (·.ev σ)).all SV.isVal=true:=by rw[he];exact h.1
     cases dr<;>simp only[xop,opK,jZ,nD,f1,hta]<;>exact⟨h1,k⟩
    ·exact h.elim
   ·exact h.elim
  |again n ag x d=>
   obtain⟨hd,h⟩:=h;have h:nK AP m n ag (λsv=>sv=look d O/\K O .junk m) (x.fv O):=h;have ed:σ.getD d .junk=look d O:=fC (hr.le d) hd;obtain⟨hv,sv,⟨e1,h1⟩,_,h3⟩:=Kv okP rfl h;have key:peek m n ag (λy=>y=σ.getD d .junk/\K' σ .junk m) (x.ev σ):=by rw[fC (hev x) hv];exact Ak (λy hy=>⟨by rw[ed,<- e1];exact fC hy (by rw[e1];exact hd),hK _ _ _ _ _ hr (Le.refl _) h1⟩) h3
   cases dr<;>exact⟨by rw[ed];exact hd,key⟩
  |uX k ys d=>
   obtain⟨hd,h0,h⟩:=h;have ed:σ.getD d .junk=look d O:=le_eq (hr.le d) rfl (λe=>by rw[e] at hd;cases hd)
   have k1:=NP (K':=λsv m'=>(sv=σ.getD d .junk/\m'=m)/\K' σ .junk m) (λx m' hx=>⟨⟨by rw[ed];exact hx.1.1,hx.1.2⟩,hK _ _ _ _ _ hr (Le.refl _) hx.2⟩) h
   rw[<- lu hev ys h0] at k1 h0;cases dr<;>exact⟨by rw[ed];exact hd,h0,k1⟩
where YW {σ:List SV} {w:Nat} {K:List SV->Prop}:∀ (ys:List (Nat×aS)) (l:List SV),K (lJ σ l ys)->dS σ w l ys (λ_=>True)->dS σ w l ys K
 |[],_,hk,_=>hk
 |(_,_)::ys,_,hk,h=>⟨h.1,YW ys _ hk h.2⟩
theorem PS{dr:Bool}{Γ:FH}{n s:Nat}{want:Bool}:∀ (l:SL) (O:Fr) (σ:List SV) (m:List ay) (K:Fr->List ay->Prop) (K':List SV->List ay->Prop),l.wf n=true->Rep n σ O->l.Vu Γ dr s want K O m->
  (∀ σ' O' m',Rep n σ' O'->look s O'= .bool want->K O' m'->K' σ' m')->uZ dr Γ.hook (l.flat (some (s,want))) K' σ m
 | .nil,O,σ,m,K,K',_,hr,h,hK=>by rw[SL.flat,En];exact hK σ O m hr h.1 h.2
 | .op d x r,O,σ,m,K,K',hw,hr,h,hK=>by
  simp only[SL.wf,z01] at hw;rw[SL.flat];simp only[SL.Vu] at h;have hs:σ.getD s .junk= .bool want:=le_eq (hr.le s) h.1 (by intro h;cases h)
  refine qg (o:=⟨d,some (s,want),x⟩) hs (amf hr x h.2 _ λσ' O' sv sv' m' hr' hle hk=> ?_);refine PS r (rC d sv O') (iC d sv' σ') m' K K' hw.2 (hr'.rC ?_ hle) hk hK;intro k hk;have:=hw.1;rw[hk] at this;simpa using this
 | .sc ..,O,σ,m,K,K',hw,hr,h,hK=>h.elim
 | .Vw ..,O,σ,m,K,K',hw,hr,h,hK=>h.elim
 | .prune ks r,O,σ,m,K,K',hw,hr,h,hK=>PS r _ σ m K K' hw (hr.prune ks) h hK
theorem nG{dr:Bool}{Γ:FH}{n:Nat}:∀ (l:SL) (O:Fr) (σ:List SV) (m:List ay) (K:Fr->List ay->Prop) (K':List SV->List ay->Prop),l.wf n=true->Rep n σ O->l.wp Γ dr K O m->(∀ σ' O' m',Rep n σ' O'->K O' m'->K' σ' m')->
  uZ dr Γ.hook (l.flat none) K' σ m
 | .nil,O,σ,m,K,K',_,hr,h,hK=>by rw[SL.flat,En];exact hK σ O m hr h
 | .op d x r,O,σ,m,K,K',hw,hr,h,hK=>by
  simp only[SL.wf,z01] at hw;rw[SL.flat];simp only[SL.wp] at h;refine qg (o:=⟨d,none,x⟩) trivial (amf hr x h _ λσ' O' sv sv' m' hr' hle hk=> ?_);refine nG r (rC d sv O') (iC d sv' σ') m' K K' hw.2 (hr'.rC ?_ hle) hk hK;intro k hk;have:=hw.1;rw[hk] at this;simpa using this
 | .sc or d s l y r,O,σ,m,K,K',hw,hr,h,hK=>by
  simp only[SL.wf,z01,decide_eq_true_eq] at hw;obtain⟨⟨hd,h4⟩,h5⟩:=hw;rw[SL.flat,uz];simp only[SL.wp] at h;split at h
  ·rename_i b e;have hb:σ.getD s .junk= .bool b:=le_eq (hr.le s) e (by intro h;cases h)
   replace h:=WC h;generalize he:l.vg Γ m y O=pq at h;obtain⟨p,q⟩:=pq;obtain⟨g1,g2⟩:(b=(!or)->p)/\r.wp Γ dr K (.pick s d (.bool (if or=true then b||q else b&&q)) O) m:=h
   have fin:∀ σ1,Out s d σ σ1->σ1.getD s .junk= .bool b/\(b=(!or)->y.ev σ1= .bool q)->
     uZ dr Γ.hook (⟨some d,none, .p (.pick (.t s) (if or then .c (.bool true) else y) (if or then y else .c (.bool false)))⟩::r.flat none) K' σ1 m:=by
    rintro σ1 ho ⟨hs1,hy⟩;refine qg (o:=⟨some d,none,_⟩) trivial (wJ ?_);have next:uZ dr Γ.hook (r.flat none) K' (σ1.set d (.bool (if or=true then b||q else b&&q))) m:=
     nG r (.pick s d (.bool (if or=true then b||q else b&&q)) O) _ m K K' h5 (hr.pick hd ho) g2 hK
    have hs1':aS.ev σ1 (.t s)= .bool b:=hs1;simp only[aV,hs1'];cases or<;>cases b
    ·simpa[iC,aS.ev] using next
    ·simpa[iC,hy rfl] using next
    ·simpa[iC,hy rfl] using next
    ·simpa[iC,aS.ev] using next
   by_cases hbo:b=(!or)
   ·refine Vf l s d (!or) [] y O σ _ h4 (by omega) hr (by rw[hb,hbo]) (by rw[he];exact g1 hbo) λσ1 ho e1=> ?_
    rw[he] at e1;exact fin σ1 ho ⟨by rw[ho.2 s (by omega)];exact hb,λ_=>e1⟩
   ·have aw8:b=or:=by cases b<;>cases or<;>first|rfl|exact absurd rfl hbo
    refine xO l s d (!or) [] σ _ h4 (by rw[hr.1];omega) (.inl (by rw[hb,aw8];simp)) (λk hk=>by cases hk) λσ1 ho=> ?_
    exact fin σ1 ho ⟨by rw[ho.2 s (by omega)];exact hb,λe=>absurd e hbo⟩
  ·exact h.elim
 | .Vw or d s l y r,O,σ,m,K,K',hw,hr,h,hK=>by
  simp only[SL.wf,z01,decide_eq_true_eq] at hw;obtain⟨⟨hd,h4⟩,h5⟩:=hw;rw[SL.flat,uz];simp only[SL.wp] at h;split at h<;>try exact h.elim
  rename_i b e;have hb:σ.getD s .junk= .bool b:=le_eq (hr.le s) e (by intro h;cases h)
  split at h
  ·rename_i hbo;subst hbo;obtain⟨hwg,h⟩:=h;refine xO l s d (!b) [] σ _ hwg (by rw[hr.1];omega) (.inl (by rw[hb];simp)) (λk hk=>by cases hk) λσ1 ho=> ?_
   have hs1:σ1.getD s .junk= .bool b:=by rw[ho.2 s (by omega)];exact hb
   refine qg (o:=⟨some d,none,_⟩) trivial (wJ ?_);have next:uZ dr Γ.hook (r.flat none) K' (σ1.set d (.bool b)) m:=
    nG r (.pick s d (.bool b) O) _ m K K' h5 (hr.pick hd ho) h hK
   have hs1':aS.ev σ1 (.t s)= .bool b:=hs1;simp only[aV,hs1'];cases b
   ·simpa[iC,aS.ev] using next
   ·simpa[iC,aS.ev] using next
  refine PS l O σ m _ _ h4 hr h λσ1 τ1 m1 hr1 hl1 hk=> ?_;have hs1:σ1.getD s .junk= .bool (!or):=le_eq (hr1.le s) hl1 (by intro h;cases h)
  split at hk
  ·rename_i q e;have hy:y.ev σ1= .bool q:=le_eq (hr1.fv y) e (by intro h;cases h)
   refine qg (o:=⟨some d,none,_⟩) trivial (wJ ?_);have next:uZ dr Γ.hook (r.flat none) K' (σ1.set d (.bool q)) m1:=
    nG r (.pick s d (.bool q) τ1) _ m1 K K' h5 (hr1.pick hd (Out.refl ..)) hk hK
   have hs1':aS.ev σ1 (.t s)= .bool (!or):=hs1;simp only[aV,hs1'];cases or
   ·simpa[iC,hy] using next
   ·simpa[iC,hy] using next
  ·exact hk.elim
 | .prune ks r,O,σ,m,K,K',hw,hr,h,hK=>nG r _ σ m K K' hw (hr.prune ks) h hK
def SL.jP:SL->List Nat
 | .nil=>[]
 | .op d _ r=>(match d with
  |some k=>[k]
  |none=>[])++r.jP
 | .sc _ d _ l _ r=>l.jP++d::r.jP
 | .Vw _ d _ l _ r=>l.jP++d::r.jP
 | .prune _ r=>r.jP
def um:List Nat->Fr->Fr
 |[],O=>O
 |k::ks,O=> .put k .junk (um ks O)
def AQ(ks:List Nat)(σ σ':List SV):Prop:=σ'.length=σ.length/\∀ k,k∉ks->σ'.getD k .junk=σ.getD k .junk
theorem AQ.refl(ks:List Nat)(σ:List SV):AQ ks σ σ:=⟨rfl,λ_ _=>rfl⟩
theorem AQ.trans{ks ks':List Nat}{σ σ' Vb:List SV}(h:AQ ks σ σ')(k:AQ ks' σ' Vb):AQ (ks++ks') σ Vb:=
 ⟨k.1.trans h.1,λi hi=>(k.2 i (λe=>hi (z15.2 (.inr e)))).trans (h.2 i (λe=>hi (z15.2 (.inl e))))⟩
theorem Rep.junk{n:Nat}{σ σ':List SV}{O:Fr}(h:Rep n σ O):∀ {ks:List Nat},AQ ks σ σ'->Rep n σ' (um ks O):=by
 intro ks ho;refine⟨ho.1.trans h.1,λk=> ?_⟩;have key:∀ l:List Nat,look k (um l O)=if k∈l then .junk else look k O:=by
  intro l
  induction l with
  |nil=>simp[um]
  |cons j l ih=>
   simp only[um,look,ih,z1b];by_cases e:k=j
   ·subst e;simp
   ·simp[e]
 rw[key];split
 ·exact .inl rfl
 ·rename_i hk;rw[ho.2 k hk];exact h.2 k
def SL.plain:SL->Bool
 | .nil=>true
 | .op d _ r=>d.isSome&&r.plain
 | .sc .. =>false
 | .Vw .. =>false
 | .prune .. =>false
theorem WE{Γ:FH}{n:Nat}{m:List ay}:∀ (l:SL) (y:aS) (O:Fr) (σ:List SV) (K:List SV->List ay->Prop),l.plain=true->l.wf n=true->Rep n σ O->
  (l.vg Γ m y O).1->(∀ σ',AQ l.jP σ σ'->y.ev σ'= .bool (l.vg Γ m y O).2->K σ' m)->rE Γ.hook (l.flat none) K σ m
 | .nil,y,O,σ,K,_,_,hr,h,hK=>by
  rw[SL.flat];simp only[SL.vg] at h hK;split at h
  ·rename_i b e;exact hK σ (AQ.refl ..) (by rw[e];exact le_eq (hr.fv y) e (by intro h;cases h))
  ·exact h.elim
 | .op d' x r,y,O,σ,K,hp,hw,hr,h,hK=>by
  cases d' with
  |none=>simp[SL.plain] at hp
  |some k=>
   simp only[SL.wf,z01,decide_eq_true_eq] at hw;simp only[SL.plain,z01] at hp;rw[SL.flat];simp only[SL.vg] at h hK;obtain⟨sv,g1,g2,g3⟩:=ame (dr:=false) hr x h;refine qg (dr:=false) (o:=⟨some k,none,x⟩) trivial (g3 _ λsv' hle=> ?_);refine WE r y (rC (some k) sv O) (σ.set k sv') K hp.2 hw.2 (hr.put hw.1 hle) g1 λσ' ho e=> ?_;refine hK σ' ?_ (by rw[e,g2])
   have h1:AQ [k] σ (σ.set k sv'):=⟨by simp,λi hi=>getD_set_ne (by simpa using hi)⟩
   exact h1.trans ho
 | .sc ..,_,_,_,_,hp,_,_,_,_=>by simp[SL.plain] at hp
 | .Vw ..,_,_,_,_,hp,_,_,_,_=>by simp[SL.plain] at hp
 | .prune ..,_,_,_,_,hp,_,_,_,_=>by simp[SL.plain] at hp
end Go.Sx
namespace Go.Sx
open Go
variable {P:Program}
noncomputable def GU(J:Env)(m:List ay)(w:World)(ks:List Nat):Env:=
 {J with H:=λb=>open Classical in if ∃ i∈ks,aN J i (ah m i)=some b then w.heap[b]? else J.H b}
def vU:List Nat->List ay->List ay
 |[],m=>m
 |k::ks,m=>(vU ks m).set k .dead
theorem NU:∀ (ks:List Nat) (m:List ay),(vU ks m).length=m.length
 |[],_=>rfl
 |k::ks,m=>by rw[vU,z16,NU ks m]
theorem zf:∀ (ks:List Nat) (m:List ay) (j:Nat),ah (vU ks m) j=if j∈ks then .dead else ah m j
 |[],m,j=>by simp[vU]
 |k::ks,m,j=>by
  have ih:=zf ks m j;unfold ah at ih ⊢;rw[vU,z02,z09];by_cases h:k=j
  ·subst h;rw[if_pos rfl,if_pos (List.mem_cons_self ..)];by_cases hl:k< (vU ks m).length<;>simp[hl]
  ·rw[if_neg h];have:j∈k::ks↔j∈ks:=by simp[Ne.symm h]
   simp only[this];exact ih
theorem QB{J:Env}{m:List ay}{w:World}(g:Good J m w)(ks:List Nat):∀ b o,J.H b=some o->(GU J m w ks).H b=some o:=by
 intro b o h;unfold GU;simp only;split
 ·rename_i hh;obtain⟨i,_,hi⟩:=hh;rw[g.sep i b hi] at h;cases h
 ·exact h
theorem H6{J:Env}{m:List ay}{w:World}(g:Good J m w)(ks:List Nat):J.Le (GU J m w ks):=⟨z0h _,λ_ _=>rfl,λ_ _=>rfl,QB g ks⟩
theorem SA{J:Env}{m:List ay}{w:World}(g:Good J m w){ks:List Nat}(hn:ks.Nodup):(gq (lU ks J) (lG ks m) w).cl.Le (GU J m w ks):=by
 refine⟨z08 _,λ_ h=>absurd h (z0c _),λ_ h=>absurd h (z0c _),λb o hb=> ?_⟩;have hb:(gq (lU ks J) (lG ks m) w).H b=some o:=hb;unfold gq at hb;simp only at hb;split at hb
 ·rename_i hh;obtain⟨j,hj⟩:=hh;have hlen:(lG ks m).length=ks.length:=by simp[lG]
  have hjl:j<ks.length:=by
   rcases z04 j ks.length with h|h
   ·exact h
   ·rw[dh (by omega)] at hj;cases hj
  rw[zY hjl,vG (J:=J) (J':=lU ks J) (i:=ks.getD j 0) (j:=j) rfl rfl] at hj;unfold GU;simp only;rw[if_pos ⟨ks.getD j 0,by simp[z02,hjl],hj⟩]
  exact hb
 ·exact QB g ks b o hb
theorem Inv.ZO{β:Base}{J:Env}{m:List ay}{w:World}(h:Inv β J m w)(ks:List Nat):Inv β (GU J m w ks) (vU ks m) w:=by
 have g:=h.good;have hown:∀ i b,aN (GU J m w ks) i (ah (vU ks m) i)=some b->i∉ks/\aN J i (ah m i)=some b:=by
  intro i b hb;rw[zf] at hb;split at hb
  ·cases hb
  ·rename_i hi;refine⟨hi,?_⟩;cases hm:ah m i<;>rw[hm] at hb<;>exact hb
 refine⟨⟨by rw[NU];exact g.n,λi=> ?_,λi j b hij h1 h2=>g.pF i j b hij (hown i b h1).2 (hown j b h2).2,λi b h1=> ?_,λb o hb=> ?_,g.gl.mono (QB g ks)⟩,
  ⟨h.kept.os,h.kept.tape,h.kept.output,h.kept.size,h.kept.heap,λb o hb=>QB g ks b o (h.kept.H b o hb),λb o hb=> ?_,h.kept.drawn⟩,λi b h1=>h.own i b (hown i b h1).2,h.n,h.blk,λi hi hv=>h.vv i hi ?_⟩
 ·rw[zf];split
  ·trivial
  ·have hr:=g.res i;cases hm:ah m i with
   |dead=>trivial
   |blk T c=>
    rw[hm] at hr;obtain⟨cs,h1,h2⟩:=hr;exact⟨cs,h1,h2.mono c (H6 g ks)⟩
   |vec T wd l=>
    rw[hm] at hr;obtain⟨xs,h1,h2⟩:=hr;exact⟨xs,h1,λj hj=>(h2 j hj).mono _ (H6 g ks)⟩
   |mp ek ev l=>
    rw[hm] at hr;exact hr
 ·obtain⟨hi,ho⟩:=hown i b h1;unfold GU;simp only;rw[if_neg]
  ·exact g.sep i b ho
  ·rintro⟨j,hj,hjo⟩;exact g.pF i j b (λe=>hi (e▸hj)) ho hjo
 ·unfold GU at hb;simp only at hb;split at hb
  ·exact hb
  ·exact g.hv b o hb
 ·unfold GU at hb;simp only at hb;split at hb
  ·rename_i hh;obtain⟨i,_,hi⟩:=hh;rcases h.own i b hi with h1|h1
   ·exact .inr (.inr h1)
   ·exact .inr (.inl h1)
  ·exact h.kept.fresh b o hb
 ·rw[zf] at hv;split at hv
  ·cases hv
  ·exact hv
theorem Inv.auF{β:Base}{J:Env}{m:List ay}{w:World}(h:Inv β J m w){i:Nat}{T:TypeId}{c c':SV}(hm:ah m i= .blk T c)(hc:∀ cs,w.heap[J.blk i]? =some (.cells cs.toArray T (0,0))->au c' J cs):Inv β J (m.set i (.blk T c')) w:=by obtain⟨cs,h1,_⟩:gu J i w (.blk T c):=hm▸h.good.res i;exact h.QJ (vZ (by rw[hm];nofun)) ⟨cs,h1,hc cs h1⟩ (by rw[hm];exact λ_ e=>e) (by rw[hm];exact id) (λ_ _=>rfl) rfl ⟨rfl,rfl,rfl,rfl⟩
end Go.Sx
namespace Go.Sx
open Go
variable {P:Program}
def AO(r:Nat->Option Nat):Fr->Fr
 | .nil=> .nil
 | .put k x t=> .put k (ren r x) (AO r t)
 | .pick s d x t=> .pick s d (ren r x) (AO r t)
theorem kD{r:Nat->Option Nat}{k:Nat}:∀ O:Fr,look k (AO r O)=ren r (look k O)
 | .nil=>rfl
 | .put j x t=>by
  simp only[AO,look];split
  ·rfl
  ·exact kD t
 | .pick s d x t=>by
  simp only[AO,look];split
  ·rfl
  ·split
   ·rfl
   ·exact kD t
structure Ht where
 dec:List ay->SV->SV
 P:List ay->SV->Prop
 ok:∀ {J:Env} {m:List ay} {w:World},Good J m w->∀ {x:SV},P m x->∀ {cs:List Value},au x J cs->au (dec m x) (Sx.gq J m w).cl cs
 agg:∀ {m:List ay} {x:SV},P m x->(dec m x).isAgg=x.isAgg
 val:∀ {m:List ay} {x:SV},P m x->x.isVal=true
inductive JC:Type 1 where
 |skip
 |ops (l:SL)
 |bJ (l:SL)
 |Dq (l:SL) (d:Nat) (T:TypeId) (z:SV) (lo:SL)
 |seq (a b:JC)
 |cond (x:aS) (a b:JC)
 |block (id:Nat) (c:JC)
 |loop (keep mod:List Nat) (c:JC)
 |exit (id:Nat)
 |ret
 |prune (ks:List Nat) (c:JC)
 |bn (k:Nat) (T:TypeId) (w:Nat) (c:JC)
 |orc (s:Nat) (l:SL)
 |gq (k:Nat) (F:Ht) (c:JC)
 |sel (ks:List Nat) (c:JC)
 |jg (k:Nat) (F:Ht) (c:JC)
 |Bz (k:Nat) (F:Ht) (c:JC)
 |pfz (k:Nat) (F:Ht) (c:JC)
def JC.flat:JC->IC
 | .skip=> .skip
 | .ops l=> .ops (l.flat none)
 | .bJ l=> .bJ (l.flat none)
 | .Dq l d T z lo=> .Dq (l.flat none) d T z (lo.flat none)
 | .seq a b=> .seq a.flat b.flat
 | .cond x a b=> .cond x a.flat b.flat
 | .block id c=> .block id c.flat
 | .loop _ _ c=> .loop c.flat
 | .exit id=> .exit id
 | .ret=> .ret
 | .prune _ c=>c.flat
 | .bn _ _ _ c=>c.flat
 | .orc s l=> .cond (.t s) .skip (.ops (l.flat none))
 | .gq _ _ c=>c.flat
 | .sel _ c=>c.flat
 | .jg _ _ c=>c.flat
 | .Bz _ _ c=>c.flat
 | .pfz _ _ c=>c.flat
def JC.wf(n:Nat):JC->Bool
 | .ops l| .bJ l=>l.wf n
 | .Dq l d _ _ lo=>l.wf n&&(lo.wf n&&decide (d<n))
 | .seq a b| .cond _ a b=>a.wf n&&b.wf n
 | .block _ c=>c.wf n
 | .loop keep mod c=>mod.all (λk=>decide (k<n))&&keep.all (λk=>decide (k<n))&&c.wf n
 | .prune _ c=>c.wf n
 | .bn k _ _ c=>decide (k<n)&&c.wf n
 | .orc s l=>decide (s<n)&&l.plain&&l.wf n
 | .gq k _ c=>decide (k<n)&&c.wf n
 | .sel _ c=>c.wf n
 | .jg k _ c=>decide (k<n)&&c.wf n
 | .pfz k _ c=>decide (k<n)&&c.wf n
 | .Bz _ _ c=>c.wf n
 |_=>true
def Jh(k:Nat):List Nat->Prop
 |[]=>True
 |j::r=>k≠j/\Jh k r
def nd:List Nat->Prop
 |[]=>True
 |k::r=>Jh k r/\nd r
theorem Sv{k:Nat}:∀ {l:List Nat},Jh k l->k∉l
 |[],_,h=>by cases h
 |j::r,h,hm=>by
  rcases z1b.1 hm with e|e
  ·exact h.1 e
  ·exact Sv h.2 e
theorem Sz:∀ {l:List Nat},nd l->l.Nodup
 |[],_=>z1a
 |_::_,h=>z0p.2 ⟨Sv h.1,Sz h.2⟩
def dF:List Nat->Nat->Nat->Option Nat
 |[],_,_=>none
 |k::r,j,i=>if i=k then some j else dF r (j+1) i
theorem ZN(i:Nat):∀ (ks:List Nat) (j:Nat),dF ks j i=(kK ks i).map (· +j)
 |[],j=>by simp[dF,kK]
 |k::r,j=>by
  simp only[dF];by_cases h:i=k
  ·subst h;simp[kK]
  ·rw[if_neg h,ZN i r (j+1)];simp only[kK,List.contains_cons];have h':(i==k)=false:=by simpa using h
   simp only[h',Bool.false_or];split
   ·rw[z18];have:(k==i)=false:=by simpa using(λe=>h e.symm)
    simp[this];omega
   ·rfl
theorem Ai(ks:List Nat):kK ks=dF ks 0:=by
 funext i
 rw[ZN];cases kK ks i<;>rfl
mutual
def fG:SV->List Nat
 | .vec i _=>[i]
 | .ptr i _ _=>[i]
 | .gX i _ _ _=>[i]
 | .jO i _=>[i]
 | .map i=>[i]
 | .agg l=>La l
 | .bK l=>La l
 | .fn _ l=>La l
 | .iface _ x=>fG x
 |_=>[]
def La:List SV->List Nat
 |[]=>[]
 |x::r=>fG x++La r
end
def upto:Nat->Nat->List Nat
 |0,_=>[]
 |n+1,k=>k::upto n (k+1)
theorem upto_at:∀ (n k i:Nat),i<n->(upto n k)[i]? =some (k+i)
 |n+1,k,0,_=>rfl
 |n+1,k,i+1,h=>by
  simp only[upto,List.getElem?_cons_succ];rw[upto_at n (k+1) i (by omega)]
  congr 1;omega
theorem Ji:∀ (n k:Nat),(upto n k).length=n
 |0,_=>rfl
 |n+1,k=>by simp[upto,Ji n]
def aa6(n0:Nat)(ks:List Nat)(K:Fr->List ay->Prop)(O:Fr)(m:List ay):Prop:=
 nd (upto n0 0++ks)/\K (AO (dF (upto n0 0++ks) 0) O) ((upto n0 0++ks).map λk=>dM (dF (upto n0 0++ks) 0) (ah m k))
def x9(n0:Nat)(m0:List ay)(K:Fr->List ay->Prop)(O:Fr)(m:List ay):Prop:=
 if m.length=m0.length+1 then match iZ m0 m 0 with
  |some i=>if n0<=i then K (AO (kK ((z06 m0.length).set i m0.length)) O) (lG ((z06 m0.length).set i m0.length) m) else K O m
  |none=>K O m
 else K O m
def yY(k:Nat)(T:TypeId)(w:Nat)(K:Fr->List ay->Prop)(O:Fr)(m:List ay):SV->Prop
 | .bF=>K (.put k (.vec m.length 0) O) (m++[.vec T w []])
 |_=>K O m
def ug(n:Nat):Nat->Option Nat:=λi=>if i<n then some i else none
def atR(r:Nat->Option Nat):List Nat->List SV->Fr->Prop
 |k::ks,x::xs,O=>ren r (look k O)=x/\atR r ks xs O
 |[],[],_=>True
 |_,_,_=>False
def xX(r:Nat->Option Nat)(O O':Fr):List Nat->Prop
 |[]=>True
 |k::ks=>ren r (look k O')=look k O/\xX r O O' ks
def Dc(k:Nat)(F:Ht)(K:Fr->List ay->Prop)(O:Fr)(m:List ay):Prop:=
 nd (fG (look k O))/\F.P ((fG (look k O)).map λi=>dM (dF (fG (look k O)) 0) (ah m i)) (ren (dF (fG (look k O)) 0) (look k O))/\
  K (.put k (F.dec ((fG (look k O)).map λi=>dM (dF (fG (look k O)) 0) (ah m i)) (ren (dF (fG (look k O)) 0) (look k O))) O) (vU (fG (look k O)) m)
def ahg(b:Nat)(F:Ht)(K:List ay->Prop)(m:List ay):ay->Prop
 | .blk T c=>nd (b::fG c)/\F.P ((fG c).map λi=>dM (dF (fG c) 0) (ah m i)) (ren (dF (fG c) 0) c)/\
   K ((vU (fG c) m).set b (.blk T (F.dec ((fG c).map λi=>dM (dF (fG c) 0) (ah m i)) (ren (dF (fG c) 0) c))))
 |_=>False
def IU(k:Nat)(F:Ht)(K:List ay->Prop)(O:Fr)(m:List ay):Prop:=match look k O with
 | .ptr b [] 0=>ahg b F K m (ah m b)
 |_=>False
def JC.wp(Γ:FH)(n0:Nat):JC->(Ex->Fr->List ay->Prop)->Fr->List ay->Prop
 | .skip,Q,O,m=>Q .norm O m
 | .ops l,Q,O,m=>l.wp Γ false (Q .norm) O m
 | .bJ l,Q,O,m=>l.wp Γ true (λO' m'=>x9 n0 m (Q .norm) O' m') O m
 | .Dq l d T z lo,Q,O,m=>l.wp Γ true (λO' m'=>lo.wp Γ false (λO2 m2=>x9 n0 m (Q .norm) O2 m2) (.put d (.ptr m'.length [] 0) O') (m'++[.blk T z])) (.put d .junk O) m
 | .seq a b,Q,O,m=>a.wp Γ n0 (λe O' m'=>match e with
  | .norm=>b.wp Γ n0 Q O' m'
  |e=>Q e O' m') O m
 | .cond x a b,Q,O,m=>match x.fv O with
  | .bool t=>(t=true->a.wp Γ n0 Q O m)/\(t=false->b.wp Γ n0 Q O m)
  | .lV=>a.wp Γ n0 Q O m/\b.wp Γ n0 Q O m
  |_=>False
 | .block id c,Q,O,m=>c.wp Γ n0 (λe O' m'=>match e with
  | .exit i=>if i=id then Q .norm O' m' else Q (.exit i) O' m'
  |e=>Q e O' m') O m
 | .loop keep mod c,Q,O,m=> ∃ (ι:Type) (U:ι->List SV) (M:ι->List ay) (ok:ι->Prop) (μ:ι->Nat) (i:ι),ok i/\V4 mod (U i) O/\M i=m/\
   ∀ i,ok i->c.wp Γ n0 (λe O' m'=>match e with
    | .norm=> ∃ j,ok j/\μ j<μ i/\n0<=(M j).length/\atR (ug (M j).length) mod (U j) O'/\xX (ug (M j).length) O O' keep/\(m'.take (M j).length).map (dM (ug (M j).length))=M j
    |e=>Q e O' m') (qp mod (U i) (aX keep O)) (M i)
 | .exit id,Q,O,m=>Q (.exit id) O m
 | .ret,Q,O,m=>Q .ret O m
 | .prune ks c,Q,O,m=>c.wp Γ n0 Q (aX ks O) m
 | .bn k T w c,Q,O,m=>yY k T w (λO' m'=>c.wp Γ n0 Q O' m') O m (look k O)
 | .orc s l,Q,O,m=>match look s O with
  | .bool b=>l.vc Γ m (.t s) O (λq g=>(b=false->g)/\Q .norm (.put s (.bool (b||q)) (um l.jP O)) m) True
  |_=>False
 | .gq k F c,Q,O,m=>F.P m (look k O)/\c.wp Γ n0 Q (.put k (F.dec m (look k O)) O) (iw m)
 | .jg k F c,Q,O,m=>Dc k F (λO' m'=>c.wp Γ n0 Q O' m') O m
 | .Bz k F c,Q,O,m=>IU k F (λm'=>c.wp Γ n0 Q O m') O m
 | .sel ks c,Q,O,m=>c.wp Γ n0 (λe O' m'=>match e with
  | .norm=>aa6 n0 ks (Q .norm) O' m'
  |e=>Q e O' m') O m
 | .pfz k F c,Q,O,m=>c.wp Γ n0 (λe O' m'=>match e with
  | .norm=>Dc k F (Q .norm) O' m'
  |e=>Q e O' m') O m
def aJ(n:Nat)(J:Env)(O:Fr)(a:Act):Prop:= ∃ σ,Rep n σ O/\aH J σ a
theorem aJ.size{n:Nat}{J:Env}{O:Fr}{a:Act}(h:aJ n J O a):a.tmps.size=n:=by obtain⟨σ,h1,h2⟩:=h;rw[<- h2.1,h1.1]
theorem aJ.sat{n:Nat}{J:Env}{O:Fr}{a:Act}(h:aJ n J O a)(k:Nat):bM J (look k O) (a.tmps.getD k undef):=by
 obtain⟨σ,h1,h2⟩:=h;rcases h1.2 k with h|⟨_,h⟩
 ·rw[h];trivial
 ·rw[h];exact h2.2 k
theorem aJ.weak{n:Nat}{J:Env}{O O':Fr}{a:Act}(h:aJ n J O a)(hl:∀ k,Le (look k O') (look k O)):aJ n J O' a:=by
 obtain⟨σ,h1,h2⟩:=h;refine⟨σ,⟨h1.1,λk=> ?_⟩,h2⟩;rcases hl k with e|e
 ·exact .inl e
 ·rw[e];exact h1.2 k
theorem Ac:∀ {ks:List Nat} {xs:List SV} {O O':Fr} (k:Nat),V4 ks xs O'->Le (look k O) (look k O')->Le (look k (qp ks xs O)) (look k O')
 |[],[],_,_,_,_,h=>h
 |j::ks,x::xs,O,O',k,ha,h=>by
  simp only[qp,look];by_cases e:k=j
  ·subst e;rw[if_pos rfl];exact .inr ha.1.symm
  ·rw[if_neg e];exact Ac k ha.2 h
 |[],_::_,_,_,_,ha,_=>ha.elim
 |_::_,[],_,_,_,ha,_=>ha.elim
theorem aJ.env{n:Nat}{J J':Env}{O:Fr}{a:Act}(h:aJ n J O a)(hl:J.Le J'):aJ n J' O a:=by obtain⟨σ,h1,h2⟩:=h;exact⟨σ,h1,h2.mono hl⟩
theorem OI{β:Base}{J:Env}{m:List ay}{w:World}(h:Inv β J m w){n:Nat}{O:Fr}{a:Act}(hs:aJ n J O a){k:Nat}(hk:k<n){T:TypeId}{wd':Nat}{K:Fr->List ay->Prop}(hh:yY k T wd' K O m (look k O)):
  ∃ J' O' m',K O' m'/\Inv β J' m' w/\aJ n J' O' a:=by
 unfold yY at hh;split at hh
 ·rename_i e;have hg:w.grownBy w none:=World.grownBy.refl w none;have hi:=h.more (b:=0) (v:= .slice none 0 0) (r:= .vec T wd' []) hg (z0h _) ⟨[],⟨by simp, .inl ⟨by simp[Env.more,h.good.n],rfl⟩⟩,λj hj=>absurd hj (z0c _)⟩ (by intro x hx;simp[aN,Env.more,h.good.n,z0k] at hx)
  have hle:=J.dJ 0 (.slice none 0 0);refine⟨_,_,_,hh,hi,?_⟩;obtain⟨σ,h1,h2⟩:=hs;have hv:=h2.2 k;have ek:σ.getD k .junk= .bF:=le_eq (h1.le k) e (by intro h;cases h)
  rw[ek] at hv;have hv':=vV hv;refine⟨σ.set k (.vec m.length 0),h1.put hk (Le.refl _),⟨by simp[h2.1],λj=> ?_⟩⟩
  by_cases ej:j=k
  ·subst ej;rw[jS (by rw[h1.1];exact hk),hv']
   refine⟨[.slice none 0 0],?_,rfl⟩;simp only[au];refine⟨by simp[Env.more,h.good.n], .inl ⟨by simp[Env.more,h.good.n],trivial⟩,by simp[Env.more,h.good.n]⟩
  ·rw[getD_set_ne ej];exact(h2.2 j).mono hle
 ·exact⟨J,O,m,hh,h,hs⟩
theorem ahh{β:Base}{J:Env}{m:List ay}{w:World}(h:Inv β J m w){n:Nat}{O:Fr}{a:Act}(hs:aJ n J O a){k:Nat}(hk:k<n){F:Ht}(hP:F.P m (look k O)):
  ∃ J',Inv β J' (iw m) w/\aJ n J' (.put k (F.dec m (look k O)) O) a:=by
 refine⟨_,h.freeze,?_⟩;have hle:J.Le (Sx.gq J m w):=⟨z0h _,λ_ _=>rfl,λ_ _=>rfl,vH h.good⟩;obtain⟨σ,h1,h2⟩:=hs;have e:=fC (h1.le k) (F.val hP);obtain⟨cs,k1,k2⟩:=ig (h2.2 k) (by rw[e];exact F.val hP)
 rw[e] at k1 k2;have k3:=F.ok h.good hP k1;refine⟨σ.set k (F.dec m (look k O)),h1.put hk (Le.refl _),by simp[h2.1],λj=> ?_⟩
 by_cases ej:j=k
 ·subst ej;rw[jS (by rw[h1.1];exact hk),k2,<- F.agg hP]
  exact iG (au.mono _ (Env.AZ _) k3)
 ·rw[getD_set_ne ej];exact(h2.2 j).mono hle
theorem Df{β:Base}{J:Env}{m:List ay}{w:World}(h:Inv β J m w){n:Nat}{O:Fr}{a:Act}(hs:aJ n J O a){k:Nat}(hk:k<n){F:Ht}{K:Fr->List ay->Prop}(hh:Dc k F K O m):
  ∃ J' O' m',K O' m'/\Inv β J' m' w/\aJ n J' O' a:=by
 unfold Dc at hh;generalize hks:fG (look k O)=ks at hh;obtain⟨h1,h2,h3⟩:=hh;have hn:=Sz h1;rw[<- Ai] at h2 h3;have hg:=h.good.sel ks hn;have hle:=H6 h.good ks;refine⟨GU J m w ks,_,_,h3,h.ZO ks,?_⟩;obtain⟨σ,r1,r2⟩:=hs;have hval:=F.val h2;have hx:(look k O).isVal=true:=by cases hl:look k O<;>rw[hl] at hval<;>first|rfl|(simp[ren,SV.isVal] at hval)
 have e:=fC (r1.le k) hx;obtain⟨cs,k1,k2⟩:=ig (r2.2 k) (by rw[e];exact hx)
 rw[e] at k1 k2;have k3:=F.ok hg h2 (au.ren (kK ks) _ (ku ks J) k1);have k4:=au.mono _ (SA h.good hn) k3;refine⟨σ.set k (F.dec (lG ks m) (ren (kK ks) (look k O))),r1.put hk (Le.refl _),by simp[r2.1],λj=> ?_⟩
 by_cases ej:j=k
 ·subst ej;rw[jS (by rw[r1.1];exact hk),k2]
  have ha:(look j O).isAgg=(F.dec (lG ks m) (ren (kK ks) (look j O))).isAgg:=by refine Eq.trans ?_ (F.agg h2).symm;cases hl:look j O<;>rw[hl] at hval<;>first|rfl|(simp only[ren,kS] at hval ⊢;split at hval<;>first|rfl|(simp[SV.isVal] at hval))
  rw[ha];exact iG k4
 ·rw[getD_set_ne ej];exact(r2.2 j).mono hle
theorem OL{β:Base}{J:Env}{m:List ay}{w:World}(h:Inv β J m w){n:Nat}{O:Fr}{a:Act}(hs:aJ n J O a){k:Nat}{F:Ht}{K:List ay->Prop}(hh:IU k F K O m):
  ∃ J' m',K m'/\Inv β J' m' w/\aJ n J' O a:=by
 unfold IU at hh;split at hh<;>try exact hh.elim
 rename_i b hb;unfold ahg at hh;split at hh<;>try exact hh.elim
 rename_i T c hm;generalize hks:fG c=ks at hh;obtain⟨h1,h2,h3⟩:=hh;obtain⟨hbn,hn⟩:=z0p.1 (Sz h1);rw[<- Ai] at h2 h3;have hg:=h.good.sel ks hn;have hle:=H6 h.good ks;have hm2:ah (vU ks m) b= .blk T c:=by rw[zf,if_neg hbn];exact hm
 refine⟨GU J m w ks,_,h3,(h.ZO ks).auF hm2 λcs hcs=> ?_,hs.env hle⟩;have hr:=h.good.res b;rw[hm] at hr;obtain⟨cs0,g1,g2⟩:=hr;have hcs:w.heap[J.blk b]? =some (.cells cs.toArray T (0,0)):=hcs;rw[g1] at hcs;simp only[z0m,Obj.cells.injEq] at hcs;have:cs0=cs:=by simpa using congrArg Array.toList hcs.1
 subst this;exact au.mono _ (SA h.good hn) (F.ok hg h2 (au.ren (kK ks) _ (ku ks J) g2))
def pK(n:Nat)(β:Base)(d:List Deferred)(Q:Ex->Fr->List ay->Prop)(e:Exit)(a:Act)(w:World):Prop:=
 ∃ ex O m J,dY e ex/\Q ex O m/\Inv β J m w/\aJ n J O a/\a.defers=d
theorem OJ{n0 n:Nat}{ks:List Nat}{m:List ay}{K:Fr->List ay->Prop}{O:Fr}(h:aa6 n0 ks K O m){β:Base}{J:Env}{a:Act}{w:World}(hI:Inv β J m w)(hs:aJ n J O a)(hb:β.J.n<=n0):
  ∃ O' m' J',K O' m'/\Inv β J' m' w/\aJ n J' O' a:=by
 obtain⟨σ,h1,h2⟩:=hs;obtain⟨g1,g2⟩:=h;rw[<- Ai] at g2;refine⟨_,_,_,g2,hI.sel _ (Sz g1) (λk hk=> ?_),dW (kK (upto n0 0++ks)) σ,?_,h2.ren (ku _ J)⟩
 ·rw[z0b (by rw[Ji];omega),upto_at n0 0 k (by omega),z0o]
 ·refine⟨by rw[jT];exact h1.1,λk=> ?_⟩
  rw[kD,rO];rcases h1.2 k with e|⟨e1,e2⟩
  ·left;rw[e];rfl
  ·exact .inr ⟨e1,by rw[e2]⟩
theorem Dx{n0 n:Nat}{m0 m:List ay}{K:Fr->List ay->Prop}{O:Fr}(h:x9 n0 m0 K O m){β:Base}{J:Env}{a:Act}{w:World}(hI:Inv β J m w)(hs:aJ n J O a)(hb:β.J.n<=n0):
  ∃ O' m' J',K O' m'/\Inv β J' m' w/\aJ n J' O' a:=by
 obtain⟨σ,h1,h2⟩:=hs;unfold x9 at h;split at h
 ·rename_i hl;split at h
  ·rename_i i hg;have hi:=(MI _ _ _ _ hg).2;rw[z0o] at hi;split at h
   ·rename_i hni;refine⟨_,_,_,h,hI.sel _ (GV hi) (λk hk=> ?_),dW (kK ((z06 m0.length).set i m0.length)) σ,?_,h2.ren (ku _ J)⟩
    ·rw[z09,if_neg (by omega),z0d]
     omega
    ·refine⟨by rw[jT];exact h1.1,λk=> ?_⟩
     rw[kD,rO];rcases h1.2 k with e|⟨e1,e2⟩
     ·left;rw[e];rfl
     ·exact .inr ⟨e1,by rw[e2]⟩
   ·exact⟨_,_,_,h,hI,σ,h1,h2⟩
  ·exact⟨_,_,_,h,hI,σ,h1,h2⟩
 ·exact⟨_,_,_,h,hI,σ,h1,h2⟩
section inv
variable {quiet:FuncId->Bool} {c:Code}
theorem Aj(h:comp P quiet c=some .skip):c= .skip:=by
 cases c<;>simp only[comp] at h<;>first
  |rfl
  |(cases h;done)
  |(split at h<;>first|(cases h;done)|(split at h<;>first|(cases h;done)|(split at h<;>first|(cases h;done)|(rcases gY h with⟨_,h⟩|⟨_,_,_,_,_,h⟩<;>cases h;done)))|(simp only[z00] at h;obtain⟨_,_,h⟩:=h;cases h))
  |(simp only[z00] at h;obtain⟨_,_,h⟩:=h;cases h)
theorem MJ{i:Nat}(h:comp P quiet c=some (.exit i)):c= .exit i:=by
 cases c<;>simp only[comp] at h<;>first
  |(cases h;rfl;done)
  |(cases h;done)
  |(split at h<;>first|(cases h;done)|(split at h<;>first|(cases h;done)|(split at h<;>first|(cases h;done)|(rcases gY h with⟨_,h⟩|⟨_,_,_,_,_,h⟩<;>cases h;done)))|(simp only[z00] at h;obtain⟨_,_,h⟩:=h;cases h))
  |(simp only[z00] at h;obtain⟨_,_,h⟩:=h;cases h)
theorem SB(h:comp P quiet c=some .ret):c= .ret:=by
 cases c<;>simp only[comp] at h<;>first
  |rfl
  |(cases h;done)
  |(split at h<;>first|(cases h;done)|(split at h<;>first|(cases h;done)|(split at h<;>first|(cases h;done)|(rcases gY h with⟨_,h⟩|⟨_,_,_,_,_,h⟩<;>cases h;done)))|(simp only[z00] at h;obtain⟨_,_,h⟩:=h;cases h))
  |(simp only[z00] at h;obtain⟨_,_,h⟩:=h;cases h)
theorem su{a b:IC}(h:comp P quiet c=some (.seq a b)):∃ x y,c= .seq x y/\comp P quiet x=some a/\comp P quiet y=some b:=by
 cases c<;>simp only[comp] at h<;>first
  |(split at h<;>first
    |(cases h;exact⟨_,_,rfl,by assumption,by assumption⟩)
    |(cases h;done)
    |(split at h<;>first|(cases h;done)|(split at h<;>first|(cases h;done)|(rcases gY h with⟨_,h⟩|⟨_,_,_,_,_,h⟩<;>cases h;done)))
    |(simp only[z00] at h;obtain⟨_,_,h⟩:=h;cases h))
  |(cases h;done)
  |(simp only[z00] at h;obtain⟨_,_,h⟩:=h;cases h)
theorem lN{x':aS}{a b:IC}(h:comp P quiet c=some (.cond x' a b)):∃ x y z,c= .cond x y z/\aQ x=some x'/\comp P quiet y=some a/\comp P quiet z=some b:=by
 cases c<;>simp only[comp] at h<;>first
  |(split at h<;>first
    |(cases h;exact⟨_,_,_,rfl,by assumption,by assumption,by assumption⟩)
    |(cases h;done)
    |(split at h<;>first|(cases h;done)|(split at h<;>first|(cases h;done)|(rcases gY h with⟨_,h⟩|⟨_,_,_,_,_,h⟩<;>cases h;done)))
    |(simp only[z00] at h;obtain⟨_,_,h⟩:=h;cases h))
  |(cases h;done)
  |(simp only[z00] at h;obtain⟨_,_,h⟩:=h;cases h)
theorem lH{id:Nat}{a:IC}(h:comp P quiet c=some (.block id a)):∃ x,c= .block id x/\comp P quiet x=some a:=by
 cases c<;>simp only[comp] at h<;>first
  |(simp only[z00] at h;obtain⟨_,h1,h⟩:=h;cases h;exact⟨_,rfl,h1⟩)
  |(split at h<;>first
    |(cases h;done)
    |(split at h<;>first|(cases h;done)|(split at h<;>first|(cases h;done)|(rcases gY h with⟨_,h⟩|⟨_,_,_,_,_,h⟩<;>cases h;done)))
    |(simp only[z00] at h;obtain⟨_,_,h⟩:=h;cases h))
  |(cases h;done)
  |(simp only[z00] at h;obtain⟨_,_,h⟩:=h;cases h)
theorem vJ{a:IC}(h:comp P quiet c=some (.loop a)):∃ x,c= .loop x/\comp P quiet x=some a:=by
 cases c<;>simp only[comp] at h<;>first
  |(simp only[z00] at h;obtain⟨_,h1,h⟩:=h;cases h;exact⟨_,rfl,h1⟩)
  |(split at h<;>first
    |(cases h;done)
    |(split at h<;>first|(cases h;done)|(split at h<;>first|(cases h;done)|(rcases gY h with⟨_,h⟩|⟨_,_,_,_,_,h⟩<;>cases h;done)))
    |(simp only[z00] at h;obtain⟨_,_,h⟩:=h;cases h))
  |(cases h;done)
  |(simp only[z00] at h;obtain⟨_,_,h⟩:=h;cases h)
theorem zh{l:List dA}(h:comp P quiet c=some (.ops l)):∃ id ops,c= .region id ops false/\ops.toList.mapM (bW P ops)=some l:=by
 cases c<;>simp only[comp] at h<;>first
  |(split at h
    ·split at h<;>first|(cases h;done)|(split at h<;>first|(cases h;done)|(rcases gY h with⟨_,h⟩|⟨_,_,_,_,_,h⟩<;>cases h;done))
    ·rename_i hd;simp only[z00] at h;obtain⟨_,h1,h⟩:=h;cases h;exact⟨_,_,by simp only[Bool.not_eq_true] at hd;rw[hd],h1⟩)
  |(cases h;done)
  |(split at h<;>first
    |(cases h;done)
    |(split at h<;>first|(cases h;done)|(split at h<;>first|(cases h;done)|(rcases gY h with⟨_,h⟩|⟨_,_,_,_,_,h⟩<;>cases h;done))))
  |(simp only[z00] at h;obtain⟨_,_,h⟩:=h;cases h)
theorem ML{l:List dA}(h:comp P quiet c=some (.bJ l)):∃ id ops,c= .region id ops true/\P.follows .mixedOrders=true/\
  ((∃ l0,l=aug ops.toList l0/\ops.toList.mapM (jM P quiet ops)=some l0/\chk ops.toList l0=true)\/
   ∃ ord l0,l=aug (bT ops ord).toList l0/\uN ops ord=true/\(bT ops ord).toList.mapM (jM P (xk quiet) (bT ops ord))=some l0/\chk (bT ops ord).toList l0=true):=by
 cases c<;>simp only[comp] at h<;>first
  |(split at h
    ·rename_i hd;split at h<;>try (cases h;done)
     rename_i hi;split at h
     ·rename_i hk;cases h;simp only[z01] at hk;exact⟨_,_,by rw[hd],hk.2, .inl ⟨_,rfl,hi,hk.1⟩⟩
     ·unfold SC at h;split at h<;>try (cases h;done)
      split at h<;>try (cases h;done)
      rename_i hi2;split at h
      ·rename_i hk;cases h;simp only[z01] at hk;exact⟨_,_,by rw[hd],hk.2, .inr ⟨_,_,rfl,hk.1.1,hi2,hk.1.2⟩⟩
      ·split at h<;>try (cases h;done)
       split at h<;>cases h
    ·simp only[z00] at h;obtain⟨_,_,h⟩:=h;cases h)
  |(cases h;done)
  |(split at h<;>first
    |(cases h;done)
    |(split at h<;>first|(cases h;done)|(split at h<;>first|(cases h;done)|(rcases gY h with⟨_,h⟩|⟨_,_,_,_,_,h⟩<;>cases h;done))))
  |(simp only[z00] at h;obtain⟨_,_,h⟩:=h;cases h)
theorem MN{l:List dA}{d:Nat}{T:TypeId}{z:SV}{lo:List dA}(h:comp P quiet c=some (.Dq l d T z lo)):∃ id ops ord aP,c= .region id ops true/\P.follows .mixedOrders=true/\uN ops ord=true/\
  (bT ops ord).toList.mapM (jM P (xk quiet) (bT ops ord))=some aP/\BG P (xk quiet) (bT ops ord)=some (l,d,T,z,lo):=by
 cases c<;>simp only[comp] at h<;>first
  |(split at h
    ·rename_i hd;split at h<;>try (cases h;done)
     split at h
     ·cases h
     ·unfold SC at h;split at h<;>try (cases h;done)
      split at h<;>try (cases h;done)
      rename_i hi2;split at h
      ·cases h
      ·split at h<;>try (cases h;done)
       rename_i hg;split at h<;>try (cases h;done)
       rename_i hk;cases h;simp only[z01] at hk;exact⟨_,_,_,_,by rw[hd],hk.2,hk.1,hi2,hg⟩
    ·simp only[z00] at h;obtain⟨_,_,h⟩:=h;cases h)
  |(cases h;done)
  |(split at h<;>first
    |(cases h;done)
    |(split at h<;>first|(cases h;done)|(split at h<;>first|(cases h;done)|(rcases gY h with⟨_,h⟩|⟨_,_,_,_,_,h⟩<;>cases h;done))))
  |(simp only[z00] at h;obtain⟨_,_,h⟩:=h;cases h)
theorem ZP{Γ:FH}{n0 n d:Nat}{T:TypeId}{z:SV}{l lo:SL}{Q:Ex->Fr->List ay->Prop}{O:Fr}{m:List ay}{σ:List SV}(hw:l.wf n=true)(hw2:lo.wf n=true)(hd:d<n)(hr:Rep n σ O)
  (h:JC.wp Γ n0 (.Dq l d T z lo) Q O m):iJ Γ.hook (l.flat none) (λσ' m'=>rE Γ.hook (lo.flat none) (λσ2 m2=> ∃ O2,Rep n σ2 O2/\x9 n0 m (Q .norm) O2 m2) (σ'.set d (.ptr m'.length [] 0)) (m'++[.blk T z])) (σ.set d .junk) m:=
 nG (dr:=true) l (.put d .junk O) (σ.set d .junk) m _ _ hw (hr.put hd (Le.refl _)) h λσ' O' m' hr' hq=>
  nG (dr:=false) lo (.put d (.ptr m'.length [] 0) O') _ _ _ _ hw2 (hr'.put hd (Le.refl _)) hq λσ2 O2 m2 hr2 hq2=>⟨O2,hr2,hq2⟩
end inv
theorem pK.mono{n:Nat}{β:Base}{d:List Deferred}{Q Q':Ex->Fr->List ay->Prop}{e:Exit}{a:Act}{w:World}(h:∀ ex σ m,Q ex σ m->Q' ex σ m)(hh:pK n β d Q e a w):pK n β d Q' e a w:=by obtain⟨ex,σ,m,J,h1,h2,h3⟩:=hh;exact⟨ex,σ,m,J,h1,h _ _ _ h2,h3⟩
theorem Jj(n:Nat):kK (z06 n)=ug n:=by
 funext i
 unfold kK ug;by_cases h:i<n
 ·have hc:(z06 n).contains i=true:=by simpa using h
  rw[if_pos hc,if_pos h];have hn:(z06 n).Nodup:=z0y;have:=hn.idxOf_getElem i (by simpa using h)
  rw[List.getElem_range] at this;rw[this]
 ·have hc:¬ (z06 n).contains i=true:=by simpa using h
  rw[if_neg hc,if_neg h]
theorem uj{n0 n k:Nat}{m M:List ay}{O:Fr}{β:Base}{J:Env}{a:Act}{w:World}(hI:Inv β J m w)(hs:aJ n J O a)(hb:β.J.n<=n0)(hk:n0<=k)(hM:M.length=k)(hm:(m.take k).map (dM (ug k))=M):
  ∃ J',Inv β J' M w/\aJ n J' (AO (ug k) O) a:=by
 obtain⟨σ,h1,h2⟩:=hs;have hlen:k<=m.length:=by have:=congrArg List.length hm;rw[List.length_map,List.length_take,hM] at this;omega
 have hsel:lG (z06 k) m=M:=by
  rw[<- hm];unfold lG;rw[Jj];apply z0n;intro i;rw[z0g,z0g,z0v];by_cases hi:i<k
  ·rw[if_pos hi,z0d hi];have:m[i]? =some (m[i]'(by omega)):=z03 _
   rw[this];simp[ah,z02,this]
  ·rw[if_neg hi,z0s (by simpa using hi)]
   rfl
 refine⟨lU (z06 k) J,hsel▸hI.sel _ z0y (λi hi=>z0d (by omega)),dW (kK (z06 k)) σ,⟨by rw[jT];exact h1.1,λj=> ?_⟩,h2.ren (ku _ J)⟩
 rw[kD,rO,<- Jj];rcases h1.2 j with e|⟨e1,e2⟩
 ·left;rw[e];rfl
 ·exact .inr ⟨e1,by rw[e2]⟩
theorem vK{r:Nat->Option Nat}:∀ {ks:List Nat} {xs:List SV} {O O':Fr} (k:Nat),atR r ks xs O'->Le (look k O) (look k (AO r O'))->Le (look k (qp ks xs O)) (look k (AO r O'))
 |[],[],_,_,_,_,h=>h
 |j::ks,x::xs,O,O',k,ha,h=>by
  simp only[qp,look];by_cases e:k=j
  ·subst e;rw[if_pos rfl,kD];exact .inr ha.1.symm
  ·rw[if_neg e];exact vK k ha.2 h
 |[],_::_,_,_,_,ha,_=>ha.elim
 |_::_,[],_,_,_,ha,_=>ha.elim
theorem nU{r:Nat->Option Nat}:∀ {ks:List Nat} {O O':Fr} (k:Nat),xX r O O' ks->Le (look k (aX ks O)) (look k (AO r O'))
 |[],_,_,_,_=> .inl rfl
 |j::ks,O,O',k,h=>by
  simp only[aX,look];by_cases e:k=j
  ·subst e;rw[if_pos rfl,kD];exact .inr h.1.symm
  ·rw[if_neg e];exact nU k h.2
theorem JC.sound{Γ:FH}(hΓ:aW P Γ){quiet:FuncId->Bool}{n0 n:Nat}{β:Base}(hb:β.J.n<=n0){d:List Deferred}:∀ (jc:JC) (c:Code),comp P quiet c=some jc.flat->jc.wf n=true->∀ (Q:Ex->Fr->List ay->Prop) (O:Fr) (m:List ay),jc.wp Γ n0 Q O m->
  ∀ J a w,Inv β J m w->aJ n J O a->a.defers=d->c.wp P (pK n β d Q) a w
 | .skip,c,hc,hw,Q,O,m,h,J,a,w,hi,hs,hd=>by
  obtain rfl:=Aj hc;exact wp_skip ⟨.norm,O,m,J,trivial,h,hi,hs,hd⟩
 | .ops l,c,hc,hw,Q,O,m,h,J,a,w,hi,hs,hd=>by
  obtain⟨id,ops,rfl,hl⟩:=zh hc;obtain⟨σ,h1,h2⟩:=hs;have k:=nG l O σ m (Q .norm) (λσ' m'=> ∃ O',Rep n σ' O'/\Q .norm O' m') hw h1 h (λσ' O' m' hr hq=>⟨O',hr,hq⟩);exact wp_region_list (jw hΓ.hook _ _ σ m _ hl k (λσ' m' J' a' w' ⟨O',hr,hq⟩ hi' hs' hd'=>⟨.norm,O',m',J',trivial,hq,hi',⟨σ',hr,hs'⟩,hd'⟩) J a w hi h2 hd)
 | .bJ l,c,hc,hw,Q,O,m,h,J,a,w,hi,hs,hd=>by
  obtain⟨id,ops,rfl,hf,hcase⟩:=ML hc;obtain⟨σ,h1,h2⟩:=hs;have k:=nG l O σ m _ (λσ' m'=> ∃ O',Rep n σ' O'/\x9 n0 m (Q .norm) O' m') hw h1 h (λσ' O' m' hr hq=>⟨O',hr,hq⟩);have k:iJ _ (l.flat none) _ σ m:=k;have fin:∀ σ' m' J' a' w',(∃ O',Rep n σ' O'/\x9 n0 m (Q .norm) O' m')->Inv β J' m' w'->aH J' σ' a'->a'.defers=d->pK n β d Q .normal a' w':=by rintro σ' m' J' a' w' ⟨O',hr,hq⟩ hi' hs' hd';obtain⟨O2,m2,J2,k1,k2,k3⟩:=Dx hq hi' ⟨σ',hr,hs'⟩ hb;exact⟨.norm,O2,m2,J2,trivial,k1,k2,k3,hd'⟩
  rcases hcase with⟨l0,hl0,hl,hk⟩|⟨ord,l0,hl0,hpo,hl,hk⟩
  ·rw[hl0] at k;exact WB hΓ.hook hf hl hk k (β:=β) (d:=d) fin hi h2 hd
  ·rw[hl0] at k;exact SE hΓ.hook hf hpo hl hk k (β:=β) (d:=d) fin hi h2 hd
 | .Dq l x T z lo,c,hc,hw,Q,O,m,h,J,a,w,hi,hs,hd=>by
  obtain⟨id,ops,ord,aP,rfl,hf,hpo,hi2,hg⟩:=MN hc;obtain⟨σ,h1,h2⟩:=hs;simp only[JC.wf,z01,decide_eq_true_eq] at hw;refine SG hΓ.hook hf hpo hg (β:=β) (d0:=d) (by rw[h1.1];exact hw.2.2) (ZP hw.1 hw.2.1 hw.2.2 h1 h) ?_ hi h2 hd
  rintro σ' m' J' a' w' ⟨O',hr,hq⟩ hi' hs' hd';obtain⟨O2,m2,J2,k1,k2,k3⟩:=Dx hq hi' ⟨σ',hr,hs'⟩ hb;exact⟨.norm,O2,m2,J2,trivial,k1,k2,k3,hd'⟩
 | .seq x y,c,hc,hw,Q,O,m,h,J,a,w,hi,hs,hd=>by
  obtain⟨x',y',rfl,hx,hy⟩:=su hc;simp only[JC.wf,z01] at hw;simp only[JC.wp] at h;refine wp_seq (z0e (λe a' w' he=> ?_) (JC.sound hΓ hb x x' hx hw.1 _ O m h J a w hi hs hd));obtain⟨ex,σ',m',J',h1,h2,h3,h4,h5⟩:=he;cases e<;>cases ex<;>simp only[dY] at h1
  ·exact JC.sound hΓ hb y y' hy hw.2 Q σ' m' h2 J' a' w' h3 h4 h5
  ·exact⟨_,σ',m',J',by simp only[dY];exact h1,h2,h3,h4,h5⟩
  ·exact⟨.ret,σ',m',J',trivial,h2,h3,h4,h5⟩
 | .cond x y z,c,hc,hw,Q,O,m,h,J,a,w,hi,hs,hd=>by
  obtain⟨x',y',z',rfl,hx,hy,hz⟩:=lN hc;simp only[JC.wf,z01] at hw;simp only[JC.wp] at h;split at h
  ·rename_i t ht;obtain⟨σ,h1,h2⟩:=hs;have hv0:=aB hx h2;rw[le_eq (h1.fv x) ht (by intro h;cases h)] at hv0
   have hv:=iW hv0;cases t with
   |true=>exact wp_cond_true hv (JC.sound hΓ hb y y' hy hw.1 Q O m (h.1 rfl) J a w hi ⟨σ,h1,h2⟩ hd)
   |false=>exact wp_cond_false hv (JC.sound hΓ hb z z' hz hw.2 Q O m (h.2 rfl) J a w hi ⟨σ,h1,h2⟩ hd)
  ·rename_i ht;obtain⟨σ,h1,h2⟩:=hs;have hv0:=aB hx h2;rw[le_eq (h1.fv x) ht (by intro h;cases h)] at hv0
   obtain⟨cs,k1,hv⟩:=hv0;simp only[au] at k1;obtain⟨t,rfl⟩:=k1;cases t with
   |true=>exact wp_cond_true hv (JC.sound hΓ hb y y' hy hw.1 Q O m h.1 J a w hi ⟨σ,h1,h2⟩ hd)
   |false=>exact wp_cond_false hv (JC.sound hΓ hb z z' hz hw.2 Q O m h.2 J a w hi ⟨σ,h1,h2⟩ hd)
  ·exact h.elim
 | .block id x,c,hc,hw,Q,O,m,h,J,a,w,hi,hs,hd=>by
  obtain⟨x',rfl,hx⟩:=lH hc;simp only[JC.wp] at h;refine wp_block (z0e (λe a' w' he=> ?_) (JC.sound hΓ hb x x' hx hw _ O m h J a w hi hs hd));obtain⟨ex,σ',m',J',h1,h2,h3,h4,h5⟩:=he;cases e<;>cases ex<;>simp only[dY] at h1
  ·exact⟨.norm,σ',m',J',trivial,h2,h3,h4,h5⟩
  ·subst h1;simp only[Exit.inBlock];simp only at h2;split
   ·rename_i e1;rw[if_pos e1] at h2;exact⟨.norm,σ',m',J',trivial,h2,h3,h4,h5⟩
   ·rename_i e1;rw[if_neg e1] at h2;exact⟨.exit _,σ',m',J',rfl,h2,h3,h4,h5⟩
  ·exact⟨.ret,σ',m',J',trivial,h2,h3,h4,h5⟩
 | .loop keep mod x,c,hc,hw,Q,O,m,h,J,a,w,hi,hs,hd=>by
  obtain⟨x',rfl,hx⟩:=vJ hc;simp only[JC.wf,z01] at hw;simp only[JC.wp] at h;obtain⟨ι,U,M,ok,μ,i0,hok,hw0,hm0,sD⟩:=h;have hs0:aJ n J (qp mod (U i0) (aX keep O)) a:=hs.weak λk=>Ac k hw0 (dZ keep);refine wp_loop_ghost (λn' a w=> ∃ i J,μ i=n'/\ok i/\Inv β J (M i) w/\aJ n J (qp mod (U i) (aX keep O)) a/\a.defers=d) (μ i0) ⟨i0,J,rfl,hok,hm0▸hi,hs0,hd⟩ ?_;rintro n' a w ⟨i,J,rfl,hok',hi',hs',hd'⟩;refine z0e (λe a' w' he=> ?_) (JC.sound hΓ hb x x' hx hw.2 _ _ _ (sD i hok') J a w hi' hs' hd');obtain⟨ex,σ',m',J',h1,h2,h3,h4,h5⟩:=he;cases e<;>cases ex<;>simp only[dY] at h1
  ·obtain⟨j,hj1,hj2,hj0,hj3,hj4,hj5⟩:=h2;obtain⟨J2,k1,k2⟩:=uj h3 h4 hb hj0 rfl hj5;exact⟨μ j,hj2,j,J2,rfl,hj1,k1,k2.weak λk=>vK k hj3 (nU k hj4),h5⟩
  ·exact⟨_,σ',m',J',by simp only[dY];exact h1,h2,h3,h4,h5⟩
  ·exact⟨.ret,σ',m',J',trivial,h2,h3,h4,h5⟩
 | .exit id,c,hc,hw,Q,O,m,h,J,a,w,hi,hs,hd=>by
  obtain rfl:=MJ hc;exact wp_exit ⟨.exit id,O,m,J,rfl,h,hi,hs,hd⟩
 | .ret,c,hc,hw,Q,O,m,h,J,a,w,hi,hs,hd=>by
  obtain rfl:=SB hc;exact wp_ret ⟨.ret,O,m,J,trivial,h,hi,hs,hd⟩
 | .prune ks x,c,hc,hw,Q,O,m,h,J,a,w,hi,hs,hd=>
  JC.sound hΓ hb x c hc hw Q _ m h J a w hi (hs.weak λk=>dZ ks) hd
 | .bn k T wd' x,c,hc,hw,Q,O,m,h,J,a,w,hi,hs,hd=>by
  simp only[JC.wf,z01,decide_eq_true_eq] at hw;simp only[JC.wp] at h;obtain⟨J',O',m',h1,h2,h3⟩:=OI hi hs hw.1 h;exact JC.sound hΓ hb x c hc hw.2 Q O' m' h1 J' a w h2 h3 hd
 | .sel ks x,c,hc,hw,Q,O,m,h,J,a,w,hi,hs,hd=>by
  simp only[JC.wp] at h;refine z0e (λe a' w' he=> ?_) (JC.sound hΓ hb x c hc hw _ O m h J a w hi hs hd);obtain⟨ex,O',m',J',h1,h2,h3,h4,h5⟩:=he;cases ex with
  |norm=>
   obtain⟨O2,m2,J2,k1,k2,k3⟩:=OJ h2 h3 h4 hb;exact⟨.norm,O2,m2,J2,h1,k1,k2,k3,h5⟩
  |exit i=>exact⟨.exit i,O',m',J',h1,h2,h3,h4,h5⟩
  |ret=>exact⟨.ret,O',m',J',h1,h2,h3,h4,h5⟩
 | .pfz k F x,c,hc,hw,Q,O,m,h,J,a,w,hi,hs,hd=>by
  simp only[JC.wf,z01,decide_eq_true_eq] at hw;simp only[JC.wp] at h;refine z0e (λe a' w' he=> ?_) (JC.sound hΓ hb x c hc hw.2 _ O m h J a w hi hs hd);obtain⟨ex,O',m',J',h1,h2,h3,h4,h5⟩:=he;cases ex with
  |norm=>
   obtain⟨J2,O2,m2,k1,k2,k3⟩:=Df h3 h4 hw.1 h2;exact⟨.norm,O2,m2,J2,h1,k1,k2,k3,h5⟩
  |exit i=>exact⟨.exit i,O',m',J',h1,h2,h3,h4,h5⟩
  |ret=>exact⟨.ret,O',m',J',h1,h2,h3,h4,h5⟩
 | .gq k F x,c,hc,hw,Q,O,m,h,J,a,w,hi,hs,hd=>by
  simp only[JC.wf,z01,decide_eq_true_eq] at hw;obtain⟨hP,h⟩:=h;obtain⟨J',h2,h3⟩:=ahh hi hs hw.1 hP;exact JC.sound hΓ hb x c hc hw.2 Q _ _ h J' a w h2 h3 hd
 | .jg k F x,c,hc,hw,Q,O,m,h,J,a,w,hi,hs,hd=>by
  simp only[JC.wf,z01,decide_eq_true_eq] at hw;simp only[JC.wp] at h;obtain⟨J',O',m',h1,h2,h3⟩:=Df hi hs hw.1 h;exact JC.sound hΓ hb x c hc hw.2 Q O' m' h1 J' a w h2 h3 hd
 | .Bz k F x,c,hc,hw,Q,O,m,h,J,a,w,hi,hs,hd=>by
  simp only[JC.wp] at h;obtain⟨J',m',h1,h2,h3⟩:=OL hi hs h;exact JC.sound hΓ hb x c hc hw Q O m' h1 J' a w h2 h3 hd
 | .orc s l,c,hc,hw,Q,O,m,h,J,a,w,hi,hs,hd=>by
  obtain⟨x',y',z',rfl,hx,hy,hz⟩:=lN hc;obtain rfl:=Aj hy;obtain⟨id,ops,rfl,hl⟩:=zh hz;simp only[JC.wf,z01,decide_eq_true_eq] at hw;simp only[JC.wp] at h;split at h
  ·rename_i b e;obtain⟨σ,h1,h2⟩:=hs;have hb:σ.getD s .junk= .bool b:=le_eq (h1.le s) e (by intro h;cases h)
   have hv0:=aB hx h2;simp only[aS.ev] at hv0;rw[hb] at hv0;have hv:=iW hv0;replace h:=WC h;generalize he:l.vg Γ m (.t s) O=pq at h;obtain⟨p,q⟩:=pq;obtain⟨g1,g2⟩:(b=(!true)->p)/\Q .norm (.put s (.bool (if true=true then b||q else b&&q)) (um l.jP O)) m:=h
   have back:∀ {σ':List SV},AQ l.jP σ σ'->σ'.getD s .junk= .bool (b||q)->Rep n σ' (.put s (.bool (if true=true then b||q else b&&q)) (um l.jP O)):=by
    intro σ' ho e;have:=(h1.junk ho).put hw.1.1 (Le.refl (.bool (b||q)));rw[show σ'.set s (.bool (b||q))=σ' from ?_] at this
    ·exact this
    ·apply z0n;intro j;rw[z09];split
     ·rename_i e';subst e';have hlt:s<σ'.length:=by rw[ho.1,h1.1];exact hw.1.1
      rw[if_pos hlt];rw[z02,z03 hlt] at e;rw[z03 hlt];exact congrArg some e.symm
     ·rfl
   cases b with
   |true=>
    refine wp_cond_true hv (wp_skip ⟨.norm,_,m,J,trivial,g2,hi,⟨σ,back (AQ.refl ..) (by rw[hb];simp),h2⟩,hd⟩)
   |false=>
    have k:=WE l (.t s) O σ (λσ' m'=>m'=m/\AQ l.jP σ σ'/\σ'.getD s .junk= .bool q) hw.1.2 hw.2 h1 (by rw[he];exact g1 rfl) (λσ' ho e=>⟨rfl,ho,by rw[he] at e;exact e⟩)
    refine wp_cond_false hv (wp_region_list (jw hΓ.hook _ _ σ m _ hl k (λσ' m' J' a' w' ⟨hm,ho,e⟩ hi' hs' hd'=> ?_) J a w hi h2 hd));subst hm;exact⟨.norm,_,m',J',trivial,g2,hi',⟨σ',back ho (by rw[e];simp),hs'⟩,hd'⟩
  ·exact h.elim
end Go.Sx
namespace Go.Sx
open Go
variable {P:Program}
def sO(P:Program)(O:Fr)(m:List ay)(K:SV->Prop):List ResultVar->Prop
 |[]=>K (.bK [])
 |[.tmp t]=>(look t O).isVal=true/\K (look t O)
 |[.cell t T]=>match qm P T with
  |some (n,ag)=>peek m n ag K (look t O)
  |none=>False
 |l=>go l λxs=>K (.bK xs)
where go:List ResultVar->(List SV->Prop)->Prop
 |[],K=>K []
 | .tmp t::r,K=>(look t O).isVal=true/\go r λxs=>K (look t O::xs)
 | .cell t T::r,K=>match qm P T with
  |some (n,ag)=>peek m n ag (λx=>x.isVal=true/\go r λxs=>K (x::xs)) (look t O)
  |none=>False
theorem SH{m:List ay}{n:Nat}{ag:Bool}{K:SV->Prop}{x:SV}(h:peek m n ag K x):x.isVal=true:=by cases x<;>simp only[peek] at h<;>first|exact h.elim|rfl
theorem H7{n:Nat}{σ:List SV}{O:Fr}{m:List ay}(hr:Rep n σ O):∀ {rs:List ResultVar} {K:List SV->Prop},sO.go P O m rs K->nR.go P σ m rs K
 |[],_,h=>h
 | .tmp t::r,K,h=>by
  have e:=fC (hr.le t) h.1;simp only[nR.go];rw[e];exact⟨h.1,H7 hr h.2⟩
 | .cell t T::r,K,h=>by
  simp only[sO.go,nR.go] at h ⊢;cases ht:qm P T with
  |none=>rw[ht] at h;exact h.elim
  |some p=>
   rw[ht] at h;simp only at h ⊢;rw[fC (hr.le t) (SH h)];exact Ak (λx hx=>⟨hx.1,H7 hr hx.2⟩) h
theorem ZQ{n:Nat}{σ:List SV}{O:Fr}{m:List ay}(hr:Rep n σ O){K:SV->Prop}:∀ {rs:List ResultVar},sO P O m K rs->nR P σ m K rs
 |[],h=>h
 |[.tmp t],h=>by
  simp only[nR];rw[fC (hr.le t) h.1];exact h.2
 |[.cell t T],h=>by
  simp only[sO,nR] at h ⊢;cases ht:qm P T with
  |none=>rw[ht] at h;exact h.elim
  |some p=>
   rw[ht] at h;simp only at h ⊢;rw[fC (hr.le t) (SH h)];exact h
 | .tmp t::b::l,h=>by
  simp only[sO,nR] at h ⊢;exact H7 hr (rs:= .tmp t::b::l) (K:=λxs=>K (.bK xs)) h
 | .cell t T::b::l,h=>by simp only[sO,nR] at h ⊢;exact H7 hr (rs:= .cell t T::b::l) (K:=λxs=>K (.bK xs)) h
def Dh(ks:List Nat)(res:SV)(m1:List ay)(m:List ay)(x:SV):Prop:=
 nd ks/\ren (dF ks 0) x=res/\ks.map (λk=>dM (dF ks 0) (ah m k))=m1
def qw(n0:Nat):List Nat->List Nat
 |[]=>[]
 |i::r=>if i<n0 then qw n0 r else i::qw n0 r
def IW(rs:List ResultVar)(P:Program)(n0:Nat)(res:SV)(m1:List ay)(e:Ex)(O:Fr)(m:List ay):Prop:=match e with
 | .exit _=>False
 |_=>sO P O m (λx=>Dh (upto n0 0++qw n0 (fG x)) res m1 m x) rs
theorem Di{n0:Nat}{l:List Nat}{res:SV}{m1 m:List ay}{x:SV}(h:Dh (upto n0 0++l) res m1 m x):∃ ks,Iz ks n0 res m1 m x:=by
 obtain⟨h1,h2,h3⟩:=h;refine⟨_,⟨Sz h1,λi hi=> ?_⟩,by rw[Ai];exact h2,by unfold lG;rw[Ai];exact h3⟩
 rw[z0b (by rw[Ji];exact hi),upto_at n0 0 i hi,z0o]
theorem Hu{n:Nat}{σ:List SV}{O:Fr}{m:List ay}(hr:Rep n σ O){rs:List ResultVar}{n0:Nat}{res:SV}{m1:List ay}{e:Ex}(h:IW rs P n0 res m1 e O m):aAi rs P n0 res m1 e σ m:=by
 cases e with
 |exit i=>exact h
 |norm=>
  have h:sO P O m (λx=>Dh (upto n0 0++qw n0 (fG x)) res m1 m x) rs:=h;exact MO (λx hx=>Di hx) (ZQ hr h)
 |ret=>
  have h:sO P O m (λx=>Dh (upto n0 0++qw n0 (fG x)) res m1 m x) rs:=h;exact MO (λx hx=>Di hx) (ZQ hr h)
def vM:Nat->List SV->Fr
 |_,[]=> .nil
 |k,x::r=> .put k x (vM (k+1) r)
theorem ZR:∀ (args:List SV) (j k:Nat),look k (vM j args)= .junk\/(j<=k/\k<j+args.length/\look k (vM j args)=args.getD (k - j) .junk)
 |[],j,k=> .inl rfl
 |x::r,j,k=>by
  simp only[vM,look];by_cases h:k=j
  ·subst h;rw[if_pos rfl];right;exact⟨z0h _,by simp,by simp⟩
  ·rw[if_neg h];rcases ZR r (j+1) k with h1|⟨h1,h2,h3⟩
   ·exact .inl h1
   ·right;refine⟨by omega,by simp;omega,?_⟩
    rw[h3];have:k - j=(k - (j+1))+1:=by omega
    rw[this,z0u]
theorem pR(args:List SV)(nt:Nat)(h:args.length<=nt):Rep nt (args++z05 (nt - args.length) .junk) (vM 0 args):=by
 refine⟨by simp;omega,λk=> ?_⟩
 rcases ZR args 0 k with h1|⟨_,h2,h3⟩
 ·exact .inl h1
 ·right;refine⟨by omega,?_⟩
  rw[h3,Nat.sub_zero,z02,z02,z0b (by omega)]
theorem fn_walkF{quiet:FuncId->Bool}{f:FuncId}{jc:JC}{rs:List ResultVar}{nt:Nat}(hfn:fnIs P quiet f=some (jc.flat,rs,nt))(hwf:jc.wf nt=true){Γ:FH}(hΓ:aW P Γ){args:List SV}{m0 m1:List ay}{res:SV}(hn':Nat.ble args.length nt=true)
  (h:jc.wp Γ m0.length (IW rs P m0.length res m1) (vM 0 args) m0):FnOK P f args m0 res m1:=by
 have hn:args.length<=nt:=Nat.le_of_ble_eq_true hn';obtain⟨_,fn,c,hf,hb,hc,hrs,hnt⟩:=Zo hfn;intro J w vs hg hs;have hlen:args.length=vs.length:=(dO hs 0).1|>λh=>by simpa using h
 refine calls_of_wp hf hb ?_;have hi:=Inv.start hg;have hsl:=dO hs (nt - args.length);have e:fn.ntmps - vs.toArray.size=nt - args.length:=by simp;omega
 rw[e];refine z0e (λe a w' he=> ?_) (JC.sound hΓ (Nat.le_of_eq hg.n) (d:=[]) jc c hc hwf _ _ _ h J _ w hi ⟨_,pR args nt hn,hsl⟩ rfl);obtain⟨ex,O',m',J',h1,h2,h3,⟨σ',hr,h4⟩,h5⟩:=he;replace h2:=Hu hr h2;have fin:∀ (hres:nR P σ' m' (λx=> ∃ ks,Iz ks m0.length res m1 m' x) rs),a.defers=[]/\∃ v,(results fn a.tmps).run P w'= .ok v w'/\
   ∃ v' yZ,Ending.returned v= .returned v'/\bM yZ res v'/\Inv ⟨w,J,λb=> ∃ i,aN J i (ah m0 i)=some b⟩ yZ m1 w':=by
  intro hres;obtain⟨x,⟨ks,⟨k1,k2⟩,k3,k4⟩,hrun⟩:=wO hrs hres;obtain⟨v,e1,e2⟩:=hrun J' a w' h3.good h4;refine⟨h5,v,e1,v,lU ks J',rfl,?_,?_⟩
  ·rw[<- k3];exact e2.ren (ku ks J')
  ·rw[<- k4];exact h3.sel ks k1 (λi hi=>k2 i (by rw[<- hg.n];exact hi))
 cases e<;>cases ex<;>simp only[dY] at h1
 ·exact fin h2
 ·exact h2.elim
 ·exact fin h2
theorem fn_walkA{f:FuncId}(jc:JC)(rs:List ResultVar)(nt:Nat){Γ:FH}(hΓ:aW P Γ){args:List SV}{m0 m1:List ay}{res:SV}(hn':Nat.ble args.length nt=true)(h:jc.wp Γ m0.length (IW rs P m0.length res m1) (vM 0 args) m0)(hfn:fnIs P qall f=some (jc.flat,rs,nt):=by kernel_rfl)(hwf:jc.wf nt=true:=by kernel_rfl):FnOK P f args m0 res m1:=fn_walkF hfn hwf hΓ hn' h
@[reducible] def qo(d:Nat)(x:wK)(r:SL):SL:= .op (some d) (.p x) r
@[reducible] def eo(d:Nat)(x:EIO)(r:SL):SL:= .op (some d) (.e x) r
@[reducible] def en(x:EIO)(r:SL):SL:= .op none (.e x) r
@[reducible] def o7(d:Nat)(x:Nat)(r:SL):SL:= .op (some d) (.p (.mv (.t x))) r
@[reducible] def o8(d:Nat)(n:Int)(r:SL):SL:= .op (some d) (.p (.mv (I n))) r
@[reducible] def o9(d:Nat)(w:Nat)(x:Nat)(r:SL):SL:= .op (some d) (.e (.load w false (.t x))) r
@[reducible] def oC(d:Nat)(w:Nat)(x:Nat)(r:SL):SL:= .op (some d) (.e (.load w true (.t x))) r
@[reducible] def oD(d:Nat)(a:Nat)(b:Nat)(x:Nat)(r:SL):SL:= .op (some d) (.p (.fa a b (.t x))) r
@[reducible] def oG(w:Nat)(p:Nat)(x:Nat)(r:SL):SL:= .op none (.e (.store w (.t p) (.t x))) r
@[reducible] def oH(d:Nat)(x:Nat)(n:Int)(r:SL):SL:= .op (some d) (.p (.cmp .eql (.t x) (I n))) r
@[reducible] def oJ(d:Nat)(x:Nat)(n:Int)(r:SL):SL:= .op (some d) (.p (.ar .add (.t x) (I n))) r
@[reducible] def oK(d:Nat)(w:Nat)(x:Nat)(y:Nat)(r:SL):SL:= .op (some d) (.p (.is w (.t x) (.t y))) r
@[reducible] def oL(d:Nat)(n:Nat)(w:Nat)(x:Nat)(y:Nat)(r:SL):SL:= .op (some d) (.p (.ia n w (.t x) (.t y))) r
@[reducible] def oM(d:Nat)(f:Nat)(x:Nat)(r:SL):SL:= .op (some d) (.e (.call f [.t x])) r
@[reducible] def oN(d:Nat)(k:Nat)(x:Nat)(r:SL):SL:= .op (some d) (.p (.ext k (.t x))) r
@[reducible] def oO(d:Nat)(x:Nat)(y:Nat)(r:SL):SL:= .op (some d) (.p (.cmp .lss (.t x) (.t y))) r
@[reducible] def oP(d:Nat)(x:Nat)(r:SL):SL:= .op (some d) (.p (.len (.t x))) r
@[reducible] def oQ(d:Nat)(x:Nat)(r:SL):SL:= .op (some d) (.p (.nck (.t x))) r
@[reducible] def oU(d:Nat)(r:SL):SL:= .op (some d) (.p (.mv (.c .bF))) r
@[reducible] def oV(d:Nat)(t:Nat)(x:Nat)(r:SL):SL:= .op (some d) (.e (.box t (.t x))) r
@[reducible] def oW(d:Nat)(t:Nat)(w:Nat)(b:Nat)(x:Nat)(y:Nat)(r:SL):SL:= .op (some d) (.e (.app t w b (.t x) (.t y))) r
@[reducible] def oZ(d:Nat)(x:Nat)(y:Nat)(r:SL):SL:= .op (some d) (.p (.cmp .eql (.t x) (.t y))) r
@[reducible] def qA(d:Nat)(x:Nat)(n:Int)(r:SL):SL:= .op (some d) (.p (.cmp .lss (.t x) (I n))) r
@[reducible] def qB(d:Nat)(w:Nat)(x:Nat)(n:Int)(r:SL):SL:= .op (some d) (.p (.is w (.t x) (I n))) r
@[reducible] def qC(d:Nat)(x:Nat)(n:Int)(r:SL):SL:= .op (some d) (.p (.cmp .neq (.t x) (I n))) r
@[reducible] def qE(d:Nat)(f:Nat)(x:Nat)(y:Nat)(r:SL):SL:= .op (some d) (.e (.call f [.t x, .t y])) r
@[reducible] def qF(d:Nat)(x:Nat)(r:SL):SL:= .op (some d) (.p (.nt (.t x))) r
@[reducible] def qG(d:Nat)(f:Nat)(x:Nat)(y:Nat)(r:SL):SL:= .op (some d) (.e (.gW f [.t x, .t y])) r
@[reducible] def qH(d:Nat)(b:Bool)(r:SL):SL:= .op (some d) (.p (.mv (B b))) r
@[reducible] def qI(d:Nat)(s:List UInt8)(r:SL):SL:= .op (some d) (.p (.mv (.c (.str s)))) r
@[reducible] def qJ(d:Nat)(x:Nat)(n:Int)(r:SL):SL:= .op (some d) (.p (.cmp .gtr (.t x) (I n))) r
@[reducible] def qK(d:Nat)(t:Nat)(r:SL):SL:= .op (some d) (.e (.alloc t (.agg [.int .i64 0, .int .i64 0, .int .i64 0]))) r
@[reducible] def qL(k:List Nat)(r:SL):SL:= .prune k r
@[reducible] def qM(k:List Nat)(c:JC):JC:= .prune k c
@[reducible] def qN(l:SL)(c:JC):JC:= .seq (.ops l) c
@[reducible] def qO(x:Nat)(a b:JC):JC:= .cond (.t x) a b
section words
variable {Γ:FH} {n0:Nat} {Q:Ex->Fr->List ay->Prop} {O:Fr} {m:List ay}
theorem anL:JC.wp Γ n0 .skip Q O m=Q .norm O m:=propext Iff.rfl
theorem auH{l:SL}:JC.wp Γ n0 (.ops l) Q O m=l.wp Γ false (Q .norm) O m:=propext Iff.rfl
theorem anM{l:SL}:JC.wp Γ n0 (.bJ l) Q O m=l.wp Γ true (λO' m'=>x9 n0 m (Q .norm) O' m') O m:=propext Iff.rfl
theorem anN{l:SL}{d:Nat}{T:TypeId}{z:SV}{lo:SL}:JC.wp Γ n0 (.Dq l d T z lo) Q O m=l.wp Γ true (λO' m'=>lo.wp Γ false (λO2 m2=>x9 n0 m (Q .norm) O2 m2) (.put d (.ptr m'.length [] 0) O') (m'++[.blk T z])) (.put d .junk O) m:=propext Iff.rfl
theorem auI{a b:JC}:JC.wp Γ n0 (.seq a b) Q O m=a.wp Γ n0 (λe O' m'=>match e with
  | .norm=>b.wp Γ n0 Q O' m'
  |e=>Q e O' m') O m:=propext Iff.rfl
theorem anO{x:aS}{a b:JC}:JC.wp Γ n0 (.cond x a b) Q O m=(match x.fv O with
  | .bool t=>(t=true->a.wp Γ n0 Q O m)/\(t=false->b.wp Γ n0 Q O m)
  | .lV=>a.wp Γ n0 Q O m/\b.wp Γ n0 Q O m
  |_=>False):=propext Iff.rfl
theorem ahi{id:Nat}{c:JC}:JC.wp Γ n0 (.block id c) Q O m=c.wp Γ n0 (λe O' m'=>match e with
  | .exit i=>if i=id then Q .norm O' m' else Q (.exit i) O' m'
  |e=>Q e O' m') O m:=propext Iff.rfl
theorem anP{id:Nat}:JC.wp Γ n0 (.exit id) Q O m=Q (.exit id) O m:=propext Iff.rfl
theorem auJ:JC.wp Γ n0 .ret Q O m=Q .ret O m:=propext Iff.rfl
theorem ahj{ks:List Nat}{c:JC}:JC.wp Γ n0 (.prune ks c) Q O m=c.wp Γ n0 Q (aX ks O) m:=propext Iff.rfl
theorem anQ{k:Nat}{T:TypeId}{w:Nat}{c:JC}:JC.wp Γ n0 (.bn k T w c) Q O m=yY k T w (λO' m'=>c.wp Γ n0 Q O' m') O m (look k O):=propext Iff.rfl
theorem auK{ks:List Nat}{c:JC}:JC.wp Γ n0 (.sel ks c) Q O m=c.wp Γ n0 (λe O' m'=>match e with
  | .norm=>aa6 n0 ks (Q .norm) O' m'
  |e=>Q e O' m') O m:=propext Iff.rfl
theorem auL{k:Nat}{F:Ht}{c:JC}:JC.wp Γ n0 (.gq k F c) Q O m=(F.P m (look k O)/\c.wp Γ n0 Q (.put k (F.dec m (look k O)) O) (iw m)):=propext Iff.rfl
theorem auM{k:Nat}{F:Ht}{c:JC}:JC.wp Γ n0 (.pfz k F c) Q O m=c.wp Γ n0 (λe O' m'=>match e with
  | .norm=>Dc k F (Q .norm) O' m'
  |e=>Q e O' m') O m:=propext Iff.rfl
theorem anR{k:Nat}{F:Ht}{c:JC}:JC.wp Γ n0 (.jg k F c) Q O m=Dc k F (λO' m'=>c.wp Γ n0 Q O' m') O m:=propext Iff.rfl
theorem anS{k:Nat}{F:Ht}{c:JC}:JC.wp Γ n0 (.Bz k F c) Q O m=IU k F (λm'=>c.wp Γ n0 Q O m') O m:=propext Iff.rfl
theorem auN{s:Nat}{l:SL}:JC.wp Γ n0 (.orc s l) Q O m=(match look s O with
  | .bool b=>l.vc Γ m (.t s) O (λq g=>(b=false->g)/\Q .norm (.put s (.bool (b||q)) (um l.jP O)) m) True
  |_=>False):=propext Iff.rfl
def JC.wpL(Γ:FH)(n0:Nat)(keep mod:List Nat)(c:JC)(Q:Ex->Fr->List ay->Prop)(_:Hide Γ c Q)(O:Fr)(m:List ay):Prop:=JC.wp Γ n0 (.loop keep mod c) Q O m
theorem ahk{keep mod:List Nat}{c:JC}:JC.wp Γ n0 (.loop keep mod c) Q O m=JC.wpL Γ n0 keep mod c Q ⟨⟩ O m:=propext Iff.rfl
theorem anT{p x:Prop}:AP.need p x=(p/\x):=propext Iff.rfl
theorem auO:AP.bad=False:=propext Iff.rfl
theorem auP{b:Bool}{x y:Prop}:AP.spl b x y=((b=true->x)/\(b=false->y)):=propext Iff.rfl
end words
theorem aZ{Γ:FH}{n0:Nat}{keep mod:List Nat}{c:JC}{Q:Ex->Fr->List ay->Prop}{O:Fr}{m:List ay}(ι:Type)(U:ι->List SV)(M:ι->List ay)(ok:ι->Prop)(μ:ι->Nat)(i0:ι)
  (h0:ok i0) (hσ:V4 mod (U i0) O) (hm:M i0=m)
  (h:∀ i,ok i->c.wp Γ n0 (λe O' m'=>match e with
    | .norm=> ∃ j,ok j/\μ j<μ i/\n0<=(M j).length/\atR (ug (M j).length) mod (U j) O'/\xX (ug (M j).length) O O' keep/\(m'.take (M j).length).map (dM (ug (M j).length))=M j
    |e=>Q e O' m') (qp mod (U i) (aX keep O)) (M i)) {hd:Hide Γ c Q}:JC.wpL Γ n0 keep mod c Q hd O m:=
 ⟨ι,U,M,ok,μ,i0,h0,hσ,hm,h⟩
theorem ahl{α:Type}(x:α×Unit):(x.1,())=x:=nr rfl
theorem ahm{α β:Type}(x:α×β):(x.1,x.2)=x:=nr rfl
theorem aY{n:Int}(h:-9223372036854775808<=n/\n<=9223372036854775807:=by omega):IntKind.i64.wrap n=n:=IntWalk.i64_in n h
end Go.Sx
