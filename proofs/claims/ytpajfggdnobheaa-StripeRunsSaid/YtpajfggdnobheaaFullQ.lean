/- A part of the proof of StripeRuns. Conditions: none. -/
import Derived.Test.YtpajfggdnobheaaFullC
import Derived.Test.YtpajfggdnobheaaFullR
set_option linter.unusedVariables false
set_option linter.unusedSimpArgs false
section
open Go Go.Sx Go.Proofs
namespace Go.Proofs.Ytpajfggdnobheaa.Fu
variable {main:Bool} {Fz:Nat→Prop}
open Go.Proofs.Ytpajfggdnobheaa.D Go.Proofs.Ytpajfggdnobheaa.Tr Go.Proofs.Ytpajfggdnobheaa.C Go.Proofs.Ytpajfggdnobheaa.Ah Go.Proofs.Ytpajfggdnobheaa.Ps Go.Proofs.Ytpajfggdnobheaa.Od Go.Proofs.Ytpajfggdnobheaa.St
def cs (l:List Ev) (t:Nat):Nat→Nat
 |0=>0
 |i+1=>cs l t i+if isSt (at' l i)=true∧(at' l i).thr.toNat=t then 1 else 0
section
variable {l:List Ev}
theorem cs_le (t:Nat):∀ i,cs l t i≤i
 |0=>Nat.le_refl _
 |i+1=>by
  have:=cs_le t i
  rw [cs];split<;>omega
theorem cs_mono (t:Nat) {i:Nat}:∀ {j:Nat},i≤j→cs l t i≤cs l t j
 |0,h=>by rw [Nat.le_zero.1 h];exact Nat.le_refl _
 |j+1,h=>by
  by_cases e:i=j+1
  ·subst e;exact Nat.le_refl _
  ·have:=cs_mono t (j:=j) (show i≤j by omega)
   rw [cs];omega
theorem isSt_iff {e:Ev}:isSt e=true↔e.kind=4∨e.kind=5∨e.kind=8:=by simp [isSt,or_assoc]
theorem own_spec {m:Int}:∀ {j:Nat},j≤l.length→0≤Tr.ownR (l.take j) m→∃ a,a<j∧(at' l a).kind=3∧(at' l a).obj=m∧(at' l a).thr=Tr.ownR (l.take j) m∧∀ c,a<c→c<j→¬ ((at' l c).kind=4∧(at' l c).obj=m)
 |0,_,h=>by
  simp [Tr.ownR] at h
 |j+1,hj,h=>by
  have hs:Tr.ownR (l.take (j+1)) m=ownS m (Tr.ownR (l.take j) m) (at' l j):=by
   rw [take_getD dEv.dft (show j<l.length by omega),Tr.ownR,Tr.ownR,List.foldl_append];rfl
  rw [hs] at h ⊢
  unfold ownS at h ⊢
  by_cases k4:(at' l j).obj=m∧(at' l j).kind=4
  ·rw [if_pos k4] at h;omega
  rw [if_neg k4] at h ⊢
  by_cases k3:(at' l j).obj=m∧(at' l j).kind=3
  ·rw [if_pos k3] at h ⊢
   exact ⟨j,Nat.lt_succ_self _,k3.2,k3.1,rfl,fun c h1 h2=>by omega⟩
  ·rw [if_neg k3] at h ⊢
   obtain ⟨a,ha,h1,h2,h3,h4⟩:=own_spec (by omega) h
   refine ⟨a,by omega,h1,h2,h3,fun c hc hcj=> ?_⟩
   by_cases e:c=j
   ·subst e;exact fun hh=>k4 ⟨hh.2,hh.1⟩
   ·exact h4 c hc (by omega)
end
section
variable {l:List Ev} (hok:(checkR l).2=0)
include hok
theorem one_dir {c j:Nat} (hc:c<j) (hj:j<l.length) (h:((at' l c).thr.toNat=(at' l j).thr.toNat∨(at' l c).kind=5∧(at' l c).obj.toNat=(at' l j).thr.toNat)∨((at' l j).kind=3∧(at' l c).kind=4∧(at' l c).obj.toNat=(at' l j).obj.toNat)∨
  ((at' l j).kind=7∧(at' l c).kind=8∧(at' l c).obj.toNat=(at' l j).obj.toNat)∨((at' l j).kind=6∧((at' l c).thr.toNat=(at' l j).obj.toNat∨(at' l c).kind=5∧(at' l c).obj.toNat=(at' l j).obj.toNat))):Ahd l c j:=by
 refine Pth.one ?_
 simp only [upP,Bool.and_eq_true,decide_eq_true_eq]
 exact ⟨hc,(dir_iff hok hc hj).2 h⟩
theorem rel_dom {j:Nat} (hj:j<l.length) (k4:(at' l j).kind=4) {c:Nat} (hc:c<j) (kc:(at' l c).kind=4) (ho:(at' l c).obj.toNat=(at' l j).obj.toNat):Ahd l c j:=by
 obtain ⟨_,_,_,_,h4,_,_⟩:=ok_parts hok hj
 have b:=bnd hok hj
 have bc:=bnd hok (show c<l.length by omega)
 have hw:=h4 k4
 obtain ⟨a,ha,k3,ao,at1,no⟩:=own_spec (m:=(at' l j).obj) (Nat.le_of_lt hj) (by rw [hw];exact b.1)
 have ho':(at' l c).obj=(at' l j).obj:=by omega
 have hca:c<a:=by
  refine Nat.lt_of_not_le fun h=> ?_
  rcases Nat.eq_or_lt_of_le h with h|h
  ·subst h;omega
  ·exact no c h hc ⟨kc,ho'⟩
 have d1:Ahd l c a:=one_dir hok hca (by omega) (.inr (.inl ⟨k3,kc,by rw [ao];exact ho⟩))
 have d2:Ahd l a j:=one_dir hok ha hj (.inl (.inl (by rw [at1,hw])))
 exact Pth.trans d1 d2
theorem not_over {j:Nat} (hj:j<l.length):didB (l.take j) 6 (at' l j).thr=false:=(ok_parts hok hj).2.2.1
end
structure FI (l:List Ev) (j:Nat) (k:Kp):Prop where
 c1:∀ t u i,t<6→u<6→i<j→(at' l i).thr.toNat=u→((1+cs l u i:Int)≤k.thr t u↔TS l j t i)
 c2:∀ m u i,m<5→u<6→i<j→(at' l i).thr.toNat=u→((1+cs l u i:Int)≤k.lk m u↔LS l j m i)
 c3:∀ m u i,m<4→u<6→i<j→(at' l i).thr.toNat=u→((1+cs l u i:Int)≤k.vl m u↔VS l j m i)
 own:∀ t,t<6→k.thr t t=1+cs l t j
 s1:∀ t u:Nat,t<6→u<6→u≠t→didB (l.take j) 6 u=false→k.thr t u<1+cs l u j
 s2:∀ m u:Nat,m<5→u<6→didB (l.take j) 6 u=false→k.lk m u<1+cs l u j
 s3:∀ m u:Nat,m<4→u<6→didB (l.take j) 6 u=false→k.vl m u<1+cs l u j
 l1:∀ t u,t<6→u<6→0≤k.thr t u∧k.thr t u≤1+cs l u j
 l2:∀ m u,m<5→u<6→0≤k.lk m u∧k.lk m u≤1+cs l u j
 l3:∀ m u,m<4→u<6→0≤k.vl m u∧k.vl m u≤1+cs l u j
theorem join_at {a b:Clk} {u:Nat} (hu:u<6):joinC a b u=if a u<b u then b u else a u:=by
 simp only [joinC,mrg,if_pos hu,mxI]
theorem join_le {a b:Clk} {u:Nat} (hu:u<6) {x:Int}:x≤joinC a b u↔x≤a u∨x≤b u:=by
 rw [join_at hu];split<;>omega
theorem join_lt {a b:Clk} {u:Nat} (hu:u<6) {x:Int}:joinC a b u<x↔a u<x∧b u<x:=by
 rw [join_at hu];split<;>omega
def preV (k:Kp) (e:Ev):Clk:=
 if e.kind=3 then joinC (k.thr e.thr.toNat) (k.lk e.obj.toNat) else if e.kind=7 then joinC (k.thr e.thr.toNat) (k.vl e.obj.toNat) else
 if e.kind=6 then joinC (k.thr e.thr.toNat) (k.thr e.obj.toNat) else k.thr e.thr.toNat
section
variable {l:List Ev} (hok:(checkR l).2=0) {j:Nat} (hj:j<l.length) {k:Kp} (h:FI l j k)
include hok hj h
theorem pre_iff {u i:Nat} (hu:u<6) (hi:i<j) (hiu:(at' l i).thr.toNat=u):(1+cs l u i:Int)≤preV k (at' l j) u↔Ahd l i j:=by
 have b:=bnd hok hj
 have ht:(at' l j).thr.toNat<6:=by omega
 rw [past_iff hok hj]
 unfold preV
 by_cases k3:(at' l j).kind=3
 ·have b5:(at' l j).obj<5:=by have:=b.2.2.2;simp only [many,k3,Int.reduceEq,or_self,or_true,true_or,if_true,if_false] at this;exact this
  rw [if_pos k3,join_le hu,h.c1 _ _ _ ht hu hi hiu,h.c2 _ _ _ (by omega) hu hi hiu]
  simp [k3]
 by_cases k7:(at' l j).kind=7
 ·have b5:(at' l j).obj<4:=by have:=b.2.2.2;simp only [many,k7,Int.reduceEq,or_self,or_true,true_or,if_true,if_false] at this;exact this
  rw [if_neg k3,if_pos k7,join_le hu,h.c1 _ _ _ ht hu hi hiu,h.c3 _ _ _ (by omega) hu hi hiu]
  simp [k7]
 by_cases k6:(at' l j).kind=6
 ·have b5:(at' l j).obj<6:=by have:=b.2.2.2;simp only [many,k6,Int.reduceEq,or_self,or_true,true_or,if_true,if_false] at this;exact this
  rw [if_neg k3,if_neg k7,if_pos k6,join_le hu,h.c1 _ _ _ ht hu hi hiu,h.c1 _ _ _ (by omega) hu hi hiu]
  simp [k6]
 ·rw [if_neg k3,if_neg k7,if_neg k6,h.c1 _ _ _ ht hu hi hiu]
  simp [k3,k7,k6]
theorem pre_own:preV k (at' l j) (at' l j).thr.toNat=1+cs l (at' l j).thr.toNat j:=by
 have b:=bnd hok hj
 have ht:(at' l j).thr.toNat<6:=by omega
 have ho:=h.own _ ht
 unfold preV
 by_cases k3:(at' l j).kind=3
 ·have b5:(at' l j).obj<5:=by have:=b.2.2.2;simp only [many,k3,Int.reduceEq,or_self,or_true,true_or,if_true,if_false] at this;exact this
  have:=h.l2 (at' l j).obj.toNat _ (by omega) ht
  rw [if_pos k3,join_at ht];split<;>omega
 by_cases k7:(at' l j).kind=7
 ·have b5:(at' l j).obj<4:=by have:=b.2.2.2;simp only [many,k7,Int.reduceEq,or_self,or_true,true_or,if_true,if_false] at this;exact this
  have:=h.l3 (at' l j).obj.toNat _ (by omega) ht
  rw [if_neg k3,if_pos k7,join_at ht];split<;>omega
 by_cases k6:(at' l j).kind=6
 ·have b5:(at' l j).obj<6:=by have:=b.2.2.2;simp only [many,k6,Int.reduceEq,or_self,or_true,true_or,if_true,if_false] at this;exact this
  have:=h.l1 (at' l j).obj.toNat _ (by omega) ht
  rw [if_neg k3,if_neg k7,if_pos k6,join_at ht];split<;>omega
 ·rw [if_neg k3,if_neg k7,if_neg k6];exact ho
theorem pre_le {u i:Nat} (hu:u<6) (hi:i<j+1) (hiu:(at' l i).thr.toNat=u):(1+cs l u i:Int)≤preV k (at' l j) u↔Le' l i j:=by
 by_cases e:i=j
 ·subst e;subst hiu
  rw [pre_own hok hj h]
  exact ⟨fun _=> .inl rfl,fun _=>Int.le_refl _⟩
 ·rw [pre_iff hok hj h hu (by omega) hiu]
  exact ⟨.inr,fun hh=>hh.elim (fun hh=>absurd hh e) id⟩
theorem pre_bnd {u:Nat} (hu:u<6):0≤preV k (at' l j) u∧preV k (at' l j) u≤1+cs l u j:=by
 have b:=bnd hok hj
 have ht:(at' l j).thr.toNat<6:=by omega
 have ho:=h.l1 _ _ ht hu
 unfold preV
 by_cases k3:(at' l j).kind=3
 ·have b5:(at' l j).obj<5:=by have:=b.2.2.2;simp only [many,k3,Int.reduceEq,or_self,or_true,true_or,if_true,if_false] at this;exact this
  have:=h.l2 (at' l j).obj.toNat _ (by omega) hu
  rw [if_pos k3,join_at hu];split<;>omega
 by_cases k7:(at' l j).kind=7
 ·have b5:(at' l j).obj<4:=by have:=b.2.2.2;simp only [many,k7,Int.reduceEq,or_self,or_true,true_or,if_true,if_false] at this;exact this
  have:=h.l3 (at' l j).obj.toNat _ (by omega) hu
  rw [if_neg k3,if_pos k7,join_at hu];split<;>omega
 by_cases k6:(at' l j).kind=6
 ·have b5:(at' l j).obj<6:=by have:=b.2.2.2;simp only [many,k6,Int.reduceEq,or_self,or_true,true_or,if_true,if_false] at this;exact this
  have:=h.l1 (at' l j).obj.toNat _ (by omega) hu
  rw [if_neg k3,if_neg k7,if_pos k6,join_at hu];split<;>omega
 ·rw [if_neg k3,if_neg k7,if_neg k6];exact ho
end
theorem sync_me {k:Kp} {e:Ev} (h5:e.kind=5→e.obj.toNat≠e.thr.toNat) (u:Nat):(syncK k e).thr e.thr.toNat u=if isSt e=true∧u=e.thr.toNat then IntKind.i64.wrap (preV k e e.thr.toNat+1) else preV k e u:=by
 unfold syncK preV isSt
 by_cases k3:e.kind=3
 ·simp [k3,upC]
 by_cases k4:e.kind=4
 ·simp [k4,inC]
 by_cases k5:e.kind=5
 ·have:=h5 k5
  simp [k5,inC,upC,Ne.symm this]
 by_cases k6:e.kind=6
 ·simp [k6,upC]
 by_cases k7:e.kind=7
 ·simp [k7,upC]
 by_cases k8:e.kind=8
 ·simp [k8,inC]
 ·simp [k3,k4,k5,k6,k7,k8]
theorem sync_other {k:Kp} {e:Ev} {t:Nat} (ht:t≠e.thr.toNat) (u:Nat):(syncK k e).thr t u=if e.kind=5∧t=e.obj.toNat then joinC (k.thr e.obj.toNat) (k.thr e.thr.toNat) u else k.thr t u:=by
 unfold syncK
 by_cases k3:e.kind=3
 ·simp [k3,upC,ht]
 by_cases k4:e.kind=4
 ·simp [k4,inC,ht]
 by_cases k5:e.kind=5
 ·simp [k5,inC,upC,ht]
 by_cases k6:e.kind=6
 ·simp [k6,upC,ht]
 by_cases k7:e.kind=7
 ·simp [k7,upC,ht]
 by_cases k8:e.kind=8
 ·simp [k8,inC,ht]
 ·simp [k3,k4,k5,k6,k7,k8]
theorem sync_lk {k:Kp} {e:Ev} (m u:Nat):(syncK k e).lk m u=if e.kind=4∧m=e.obj.toNat then k.thr e.thr.toNat u else k.lk m u:=by
 unfold syncK
 by_cases k3:e.kind=3
 ·simp [k3]
 by_cases k4:e.kind=4
 ·simp [k4,upC]
 by_cases k5:e.kind=5
 ·simp [k5]
 by_cases k6:e.kind=6
 ·simp [k6]
 by_cases k7:e.kind=7
 ·simp [k7]
 by_cases k8:e.kind=8
 ·simp [k8]
 ·simp [k3,k4,k5,k6,k7,k8]
theorem sync_vl {k:Kp} {e:Ev} (m u:Nat):(syncK k e).vl m u=if e.kind=8∧m=e.obj.toNat then joinC (k.vl e.obj.toNat) (k.thr e.thr.toNat) u else k.vl m u:=by
 unfold syncK
 by_cases k3:e.kind=3
 ·simp [k3]
 by_cases k4:e.kind=4
 ·simp [k4]
 by_cases k5:e.kind=5
 ·simp [k5]
 by_cases k6:e.kind=6
 ·simp [k6]
 by_cases k7:e.kind=7
 ·simp [k7]
 by_cases k8:e.kind=8
 ·simp [k8,upC]
 ·simp [k3,k4,k5,k6,k7,k8]
theorem ts_step {l:List Ev} {j t i:Nat}:TS l (j+1) t i↔TS l j t i∨(Le' l i j∧((at' l j).thr.toNat=t∨(at' l j).kind=5∧(at' l j).obj.toNat=t)):=by
 constructor
 ·rintro ⟨c,hc,h1,h2⟩
  by_cases e:c=j
  ·subst e;exact .inr ⟨h1,h2⟩
  ·exact .inl ⟨c,by omega,h1,h2⟩
 ·rintro (⟨c,hc,h1,h2⟩|⟨h1,h2⟩)
  ·exact ⟨c,by omega,h1,h2⟩
  ·exact ⟨j,by omega,h1,h2⟩
theorem ls_step {l:List Ev} {j m i:Nat}:LS l (j+1) m i↔LS l j m i∨(Le' l i j∧(at' l j).kind=4∧(at' l j).obj.toNat=m):=by
 constructor
 ·rintro ⟨c,hc,h1,h2⟩
  by_cases e:c=j
  ·subst e;exact .inr ⟨h1,h2⟩
  ·exact .inl ⟨c,by omega,h1,h2⟩
 ·rintro (⟨c,hc,h1,h2⟩|⟨h1,h2⟩)
  ·exact ⟨c,by omega,h1,h2⟩
  ·exact ⟨j,by omega,h1,h2⟩
theorem vs_step {l:List Ev} {j m i:Nat}:VS l (j+1) m i↔VS l j m i∨(Le' l i j∧(at' l j).kind=8∧(at' l j).obj.toNat=m):=by
 constructor
 ·rintro ⟨c,hc,h1,h2⟩
  by_cases e:c=j
  ·subst e;exact .inr ⟨h1,h2⟩
  ·exact .inl ⟨c,by omega,h1,h2⟩
 ·rintro (⟨c,hc,h1,h2⟩|⟨h1,h2⟩)
  ·exact ⟨c,by omega,h1,h2⟩
  ·exact ⟨j,by omega,h1,h2⟩
theorem le_lt {l:List Ev} {i c j:Nat} (hc:c<j) (h:Le' l i c):i<j:=by
 rcases h with h|h
 ·omega
 ·have:=h.lt;omega
theorem over_mono {l:List Ev} {j:Nat} (hj:j<l.length) {u:Int} (h:didB (l.take (j+1)) 6 u=false):didB (l.take j) 6 u=false:=by
 rw [take_getD dEv.dft hj] at h
 simp only [didB,List.any_append,Bool.or_eq_false_iff] at h
 exact h.1
section
variable {l:List Ev} (hok:(checkR l).2=0) {j:Nat} (hj:j<l.length) {k:Kp} (h:FI l j k)
include hok hj h
theorem new_thr {t:Nat} (ht:t<6) (hne:t≠(at' l j).thr.toNat):k.thr t (at' l j).thr.toNat<1+cs l (at' l j).thr.toNat j:=by
 have b:=bnd hok hj
 refine h.s1 t _ ht (by omega) (fun e=>hne e.symm) ?_
 have:=not_over hok hj
 rwa [show (((at' l j).thr.toNat:Nat):Int)=(at' l j).thr by omega]
omit h in
theorem me_notover:didB (l.take j) 6 (((at' l j).thr.toNat:Nat):Int)=false:=by
 have b:=bnd hok hj
 rw [show (((at' l j).thr.toNat:Nat):Int)=(at' l j).thr by omega]
 exact not_over hok hj
theorem FI_step:FI l (j+1) (syncK k (at' l j)):=by
 have b:=bnd hok hj
 have ht:(at' l j).thr.toNat<6:=by omega
 have hlen:=ok_len hok
 have h5:(at' l j).kind=5→(at' l j).obj.toNat≠(at' l j).thr.toNat:=by
  intro k5 e
  have hb:=(ok_parts hok hj).2.2.2.2.2.1 k5
  have hm:=(ok_parts hok hj).2.1
  rw [show (at' l j).obj=(at' l j).thr by omega,hm] at hb
  cases hb
 have hc1:∀ u,cs l u (j+1)=cs l u j+if isSt (at' l j)=true∧(at' l j).thr.toNat=u then 1 else 0:=fun u=>rfl
 have hcsb:∀ u,cs l u j≤80:=fun u=>Nat.le_trans (cs_le u j) (by omega)
 have pown:=pre_own hok hj h
 have meW:IntKind.i64.wrap (preV k (at' l j) (at' l j).thr.toNat+1)=preV k (at' l j) (at' l j).thr.toNat+1:=IntWalk.i64_in _ (by have:=hcsb (at' l j).thr.toNat;omega)
 have hmono:∀ u,cs l u j≤cs l u (j+1):=fun u=>cs_mono u (Nat.le_succ j)
 have hk4:(at' l j).kind=4→preV k (at' l j)=k.thr (at' l j).thr.toNat:=fun e=>by simp [preV,e]
 have hk5:(at' l j).kind=5→preV k (at' l j)=k.thr (at' l j).thr.toNat:=fun e=>by simp [preV,e]
 have hk8:(at' l j).kind=8→preV k (at' l j)=k.thr (at' l j).thr.toNat:=fun e=>by simp [preV,e]
 have hst:∀ {n},(n=4∨n=5∨n=8)→(at' l j).kind=n→isSt (at' l j)=true:=fun hn e=>isSt_iff.2 (by rw [e];exact hn)
 have meS:∀ u:Nat,u<6→isSt (at' l j)=true→didB (l.take j) 6 (u:Int)=false→k.thr (at' l j).thr.toNat u<1+cs l u (j+1):=by
  intro u hu hs hov
  by_cases e:u=(at' l j).thr.toNat
  ·subst e
   rw [h.own _ ht,hc1,if_pos ⟨hs,rfl⟩];omega
  ·have:=h.s1 _ u ht hu e hov
   have:=hmono u
   omega
 have preS:∀ u:Nat,u<6→u≠(at' l j).thr.toNat→didB (l.take (j+1)) 6 (u:Int)=false→preV k (at' l j) u<1+cs l u j:=by
  intro u hu hne hov
  have hov':=over_mono hj hov
  have h1:=h.s1 _ u ht hu hne hov'
  unfold preV
  by_cases k3:(at' l j).kind=3
  ·have b5:(at' l j).obj<5:=by have:=b.2.2.2;simp only [many,k3,Int.reduceEq,or_self,or_true,true_or,if_true,if_false] at this;exact this
   rw [if_pos k3,join_lt hu]
   exact ⟨h1,h.s2 _ u (by omega) hu hov'⟩
  by_cases k7:(at' l j).kind=7
  ·have b5:(at' l j).obj<4:=by have:=b.2.2.2;simp only [many,k7,Int.reduceEq,or_self,or_true,true_or,if_true,if_false] at this;exact this
   rw [if_neg k3,if_pos k7,join_lt hu]
   exact ⟨h1,h.s3 _ u (by omega) hu hov'⟩
  by_cases k6:(at' l j).kind=6
  ·have b5:(at' l j).obj<6:=by have:=b.2.2.2;simp only [many,k6,Int.reduceEq,or_self,or_true,true_or,if_true,if_false] at this;exact this
   rw [if_neg k3,if_neg k7,if_pos k6,join_lt hu]
   refine ⟨h1,h.s1 _ u (by omega) hu (fun e=> ?_) hov'⟩
   have:didB (l.take (j+1)) 6 (u:Int)=true:=(didB_iff (show j+1≤l.length by omega)).2 ⟨j,Nat.lt_succ_self _,k6,by omega⟩
   rw [this] at hov;cases hov
  ·rw [if_neg k3,if_neg k7,if_neg k6];exact h1
 refine ⟨?_,?_,?_,?_,?_,?_,?_,?_,?_,?_⟩
 ·intro t u i ht' hu hi hiu
  rw [ts_step]
  by_cases e:t=(at' l j).thr.toNat
  ·subst e
   rw [sync_me h5]
   have key:(TS l j (at' l j).thr.toNat i∨(Le' l i j∧((at' l j).thr.toNat=(at' l j).thr.toNat∨(at' l j).kind=5∧(at' l j).obj.toNat=(at' l j).thr.toNat)))↔Le' l i j:=
    ⟨fun hh=>hh.elim (fun hh=> .inr ((past_iff hok hj i).2 (.inl hh))) (fun hh=>hh.1),fun hh=> .inr ⟨hh, .inl rfl⟩⟩
   rw [key,← pre_le hok hj h hu hi hiu]
   split
   ·rename_i hs
    obtain ⟨_,rfl⟩:=hs
    have:cs l (at' l j).thr.toNat i≤cs l (at' l j).thr.toNat j:=cs_mono _ (by omega)
    rw [meW];omega
   ·exact Iff.rfl
  ·rw [sync_other e]
   by_cases e5:(at' l j).kind=5∧t=(at' l j).obj.toNat
   ·rw [if_pos e5,join_le hu,← hk5 e5.1,pre_le hok hj h hu hi hiu]
    obtain ⟨e5,rfl⟩:=e5
    by_cases ei:i=j
    ·subst ei
     exact ⟨fun _=> .inr ⟨.inl rfl, .inr ⟨e5,rfl⟩⟩,fun _=> .inr (.inl rfl)⟩
    ·rw [h.c1 _ _ _ ht' hu (by omega) hiu]
     exact ⟨fun hh=>hh.elim .inl (fun hh=> .inr ⟨hh, .inr ⟨e5,rfl⟩⟩),fun hh=>hh.elim .inl (fun hh=> .inr hh.1)⟩
   ·rw [if_neg e5]
    have key:(TS l j t i∨(Le' l i j∧((at' l j).thr.toNat=t∨(at' l j).kind=5∧(at' l j).obj.toNat=t)))↔TS l j t i:=
     ⟨fun hh=>hh.elim id (fun hh=>hh.2.elim (fun hh=>absurd hh.symm e) (fun hh=>absurd ⟨hh.1,hh.2.symm⟩ e5)), .inl⟩
    rw [key]
    by_cases ei:i=j
    ·subst ei
     have:=new_thr hok hj h ht' e
     rw [hiu] at this
     exact ⟨fun hh=>by omega,fun ⟨c,hc,h1,_⟩=>absurd (le_lt hc h1) (Nat.lt_irrefl _)⟩
    ·exact h.c1 _ _ _ ht' hu (by omega) hiu
 ·intro m u i hm hu hi hiu
  rw [ls_step,sync_lk]
  by_cases e4:(at' l j).kind=4∧m=(at' l j).obj.toNat
  ·rw [if_pos e4,← hk4 e4.1,pre_le hok hj h hu hi hiu]
   obtain ⟨e4,rfl⟩:=e4
   refine ⟨fun hh=> .inr ⟨hh,e4,rfl⟩,fun hh=>hh.elim (fun ⟨c,hc,h1,h2,h3⟩=> ?_) (fun hh=>hh.1)⟩
   have hd:=rel_dom hok hj e4 hc h2 h3
   rcases h1 with h1|h1
   ·exact .inr (h1▸hd)
   ·exact .inr (Pth.trans h1 hd)
  ·rw [if_neg e4]
   have key:(LS l j m i∨(Le' l i j∧(at' l j).kind=4∧(at' l j).obj.toNat=m))↔LS l j m i:=
    ⟨fun hh=>hh.elim id (fun hh=>absurd ⟨hh.2.1,hh.2.2.symm⟩ e4), .inl⟩
   rw [key]
   by_cases ei:i=j
   ·subst ei
    have:=h.s2 m (at' l i).thr.toNat hm (by omega) (me_notover hok hj)
    rw [hiu] at this
    exact ⟨fun hh=>by omega,fun ⟨c,hc,h1,_⟩=>absurd (le_lt hc h1) (Nat.lt_irrefl _)⟩
   ·exact h.c2 _ _ _ hm hu (by omega) hiu
 ·intro m u i hm hu hi hiu
  rw [vs_step,sync_vl]
  by_cases e8:(at' l j).kind=8∧m=(at' l j).obj.toNat
  ·rw [if_pos e8,join_le hu,← hk8 e8.1,pre_le hok hj h hu hi hiu]
   obtain ⟨e8,rfl⟩:=e8
   by_cases ei:i=j
   ·subst ei
    exact ⟨fun _=> .inr ⟨.inl rfl,e8,rfl⟩,fun _=> .inr (.inl rfl)⟩
   ·rw [h.c3 _ _ _ hm hu (by omega) hiu]
    exact ⟨fun hh=>hh.elim .inl (fun hh=> .inr ⟨hh,e8,rfl⟩),fun hh=>hh.elim .inl (fun hh=> .inr hh.1)⟩
  ·rw [if_neg e8]
   have key:(VS l j m i∨(Le' l i j∧(at' l j).kind=8∧(at' l j).obj.toNat=m))↔VS l j m i:=
    ⟨fun hh=>hh.elim id (fun hh=>absurd ⟨hh.2.1,hh.2.2.symm⟩ e8), .inl⟩
   rw [key]
   by_cases ei:i=j
   ·subst ei
    have:=h.s3 m (at' l i).thr.toNat hm (by omega) (me_notover hok hj)
    rw [hiu] at this
    exact ⟨fun hh=>by omega,fun ⟨c,hc,h1,_⟩=>absurd (le_lt hc h1) (Nat.lt_irrefl _)⟩
   ·exact h.c3 _ _ _ hm hu (by omega) hiu
 ·intro t ht'
  by_cases e:t=(at' l j).thr.toNat
  ·subst e
   rw [sync_me h5,hc1]
   by_cases hs:isSt (at' l j)=true
   ·rw [if_pos ⟨hs,rfl⟩,if_pos ⟨hs,rfl⟩,meW,pown];omega
   ·rw [if_neg (fun hh=>hs hh.1),if_neg (fun hh=>hs hh.1),pown];omega
  ·rw [sync_other e,hc1,if_neg (fun hh:isSt (at' l j)=true∧(at' l j).thr.toNat=t=>e hh.2.symm)]
   split
   ·rename_i e5
    obtain ⟨e5,rfl⟩:=e5
    have h1:=h.own _ ht'
    have h2:=h.l1 _ (at' l j).obj.toNat ht ht'
    rw [join_at ht'];split<;>omega
   ·exact h.own _ ht'
 ·intro t u ht' hu hne hov
  have hov':=over_mono hj hov
  have hm:=hmono u
  by_cases e:t=(at' l j).thr.toNat
  ·subst e
   rw [sync_me h5,if_neg (fun hh=>hne hh.2)]
   have:=preS u hu hne hov
   omega
  ·rw [sync_other e]
   split
   ·rename_i e5
    obtain ⟨e5,rfl⟩:=e5
    rw [join_lt hu]
    have h1:=h.s1 _ u ht' hu hne hov'
    have h2:=meS u hu (hst (.inr (.inl rfl)) e5) hov'
    exact ⟨by omega,h2⟩
   ·have:=h.s1 _ u ht' hu hne hov'
    omega
 ·intro m u hm' hu hov
  have hov':=over_mono hj hov
  have hm:=hmono u
  rw [sync_lk]
  split
  ·rename_i e4
   exact meS u hu (hst (.inl rfl) e4.1) hov'
  ·have:=h.s2 _ u hm' hu hov'
   omega
 ·intro m u hm' hu hov
  have hov':=over_mono hj hov
  have hm:=hmono u
  rw [sync_vl]
  split
  ·rename_i e8
   obtain ⟨e8,rfl⟩:=e8
   rw [join_lt hu]
   have h1:=h.s3 _ u hm' hu hov'
   exact ⟨by omega,meS u hu (hst (.inr (.inr rfl)) e8) hov'⟩
  ·have:=h.s3 _ u hm' hu hov'
   omega
 ·intro t u ht' hu
  have hm:=hmono u
  by_cases e:t=(at' l j).thr.toNat
  ·subst e
   rw [sync_me h5]
   have hp:=pre_bnd hok hj h hu
   split
   ·rename_i hs
    obtain ⟨hs,rfl⟩:=hs
    rw [hc1,if_pos ⟨hs,rfl⟩,meW];omega
   ·omega
  ·rw [sync_other e]
   have h1:=h.l1 _ u ht' hu
   have h2:=h.l1 _ u ht hu
   split
   ·rename_i e5
    obtain ⟨e5,rfl⟩:=e5
    rw [join_at hu];split<;>omega
   ·omega
 ·intro m u hm' hu
  have hm:=hmono u
  have h1:=h.l2 _ u hm' hu
  have h2:=h.l1 _ u ht hu
  rw [sync_lk]
  split<;>omega
 ·intro m u hm' hu
  have hm:=hmono u
  have h1:=h.l3 _ u hm' hu
  have h2:=h.l1 _ u ht hu
  rw [sync_vl]
  split
  ·rename_i e8
   obtain ⟨e8,rfl⟩:=e8
   rw [join_at hu];split<;>omega
  ·omega
end
end Go.Proofs.Ytpajfggdnobheaa.Fu
end
section
open Go Go.Sx Go.Proofs
namespace Go.Proofs.Ytpajfggdnobheaa.Fu
variable {main:Bool} {Fz:Nat→Prop}
open Go.Proofs.Ytpajfggdnobheaa.D Go.Proofs.Ytpajfggdnobheaa.Tr Go.Proofs.Ytpajfggdnobheaa.C Go.Proofs.Ytpajfggdnobheaa.Ah Go.Proofs.Ytpajfggdnobheaa.Ps Go.Proofs.Ytpajfggdnobheaa.Od Go.Proofs.Ytpajfggdnobheaa.St
theorem sync_acc {k:Kp} {e:Ev} (h:isAcc e=true):syncK k e=k:=by
 simp only [isAcc,Bool.or_eq_true,decide_eq_true_eq] at h
 unfold syncK
 rcases h with h|h<;>simp [h]
theorem runK_succ (l:List Ev) (j:Nat):runK l (j+1)=syncK (runK l j) (at' l j):=by
 show (if isAcc (at' l j)=true then runK l j else syncK (runK l j) (at' l j))=_
 by_cases h:isAcc (at' l j)=true
 ·rw [if_pos h,sync_acc h]
 ·rw [if_neg h]
section
variable {l:List Ev} (hok:(checkR l).2=0)
include hok
theorem FI_at:∀ {j:Nat},j≤l.length→FI l j (runK l j)
 |0,_=>by
  refine ⟨fun t u i _ _ hi=>absurd hi (Nat.not_lt_zero _),fun t u i _ _ hi=>absurd hi (Nat.not_lt_zero _),fun t u i _ _ hi=>absurd hi (Nat.not_lt_zero _),?_,?_,?_,?_,?_,?_,?_⟩
  ·intro t ht;simp [runK,newK,ht,cs]
  ·intro t u ht hu hne _;simp [runK,newK,ht,cs,hne]
  ·intro m u _ _ _;simp [runK,newK,cs]
  ·intro m u _ _ _;simp [runK,newK,cs]
  ·intro t u ht hu
   simp only [runK,newK,cs]
   split<;>simp
  ·intro m u _ _;simp [runK,newK,cs]
  ·intro m u _ _;simp [runK,newK,cs]
 |j+1,hj=>by
  rw [runK_succ]
  exact FI_step hok (by omega) (FI_at (by omega))
end
section
variable {l:List Ev} (hok:(checkR l).2=0)
include hok
theorem kind_ok {i:Nat} (hi:i<l.length):1≤(at' l i).kind∧(at' l i).kind≤8:=by
 have b:=bnd hok hi
 have:=b.2.2
 unfold many at this
 by_cases h:1≤(at' l i).kind∧(at' l i).kind≤8
 ·exact h
 ·rw [if_neg (by omega),if_neg (by omega),if_neg (by omega),if_neg (by omega)] at this;omega
end
end Go.Proofs.Ytpajfggdnobheaa.Fu
end
