/- A part of the proof of StripeRuns. Conditions: none. -/
import Derived.Test.YtpajfggdnobheaaFastX
set_option linter.unusedVariables false
set_option linter.unusedSimpArgs false
open Go Go.Sx Go.Proofs
namespace Go.Proofs.Ytpajfggdnobheaa.Fa
variable {main:Bool} {Fz:Nat→Prop}
open Go.Proofs.Ytpajfggdnobheaa.D Go.Proofs.Ytpajfggdnobheaa.Tr Go.Proofs.Ytpajfggdnobheaa.C Go.Proofs.Ytpajfggdnobheaa.Fu Go.Proofs.Ytpajfggdnobheaa.Ah Go.Proofs.Ytpajfggdnobheaa.Ps Go.Proofs.Ytpajfggdnobheaa.Od Go.Proofs.Ytpajfggdnobheaa.St
theorem cs_same {l:List Ev} {t i:Nat}:∀ {j:Nat},i≤j→(cs l t i=cs l t j↔∀ k,k<j→i≤k→¬ (isSt (at' l k)=true∧(at' l k).thr.toNat=t))
 |0,h=>by
  rw [Nat.le_zero.1 h]
  exact ⟨fun _ k hk=>absurd hk (Nat.not_lt_zero _),fun _=>rfl⟩
 |j+1,h=>by
  by_cases e:i=j+1
  ·subst e
   exact ⟨fun _ k h1 h2=>by omega,fun _=>rfl⟩
  ·have ih:=cs_same (l:=l) (t:=t) (j:=j) (show i≤j by omega)
   have hm:=cs_mono (l:=l) t (show i≤j by omega)
   rw [cs]
   by_cases hq:isSt (at' l j)=true∧(at' l j).thr.toNat=t
   ·rw [if_pos hq]
    exact ⟨fun hh=>by omega,fun hh=>absurd hq (hh j (Nat.lt_succ_self _) (by omega))⟩
   ·rw [if_neg hq,Nat.add_zero,ih]
    refine ⟨fun hh k h1 h2=> ?_,fun hh k h1 h2=>hh k (by omega) h2⟩
    by_cases ek:k=j
    ·subst ek;exact hq
    ·exact hh k (by omega) h2
def ep (l:List Ev) (i:Nat):Pr:=⟨(at' l i).thr,1+(cs l (at' l i).thr.toNat i:Int)⟩
section
variable {l:List Ev} (hok:(checkR l).2=0)
include hok
theorem same_iff {i j:Nat} (hi:i<j) (hj:j<l.length):((ep l i).a=(ep l j).a∧(ep l i).b=(ep l j).b)↔epB l i j=true:=by
 have bi:=bnd hok (show i<l.length by omega)
 rw [epB,decide_eq_true_eq]
 refine and_congr_right fun ha=> ?_
 have ha:(at' l i).thr=(at' l j).thr:=ha
 have h:=cs_same (l:=l) (t:=(at' l i).thr.toNat) (Nat.le_of_lt hi)
 show (1+(cs l (at' l i).thr.toNat i:Int)=1+(cs l (at' l j).thr.toNat j:Int))↔_
 rw [← ha]
 constructor
 ·intro hh k h1 h2 h3
  exact h.1 (by omega) k h1 h2 ⟨h3.2,by rw [h3.1]⟩
 ·intro hh
  have:=h.2 fun k h1 h2 h3=>hh k h1 h2 ⟨by have:=(bnd hok (show k<l.length by omega)).1;omega,h3.1⟩
  omega
variable {j:Nat} (hj:j<l.length) (ha:(at' l j).kind=1∨(at' l j).kind=2)
include hj
theorem ep_now:epN ((runK l j).thr (at' l j).thr.toNat) (at' l j).thr=ep l j:=by
 have b:=bnd hok hj
 rw [epN,(FI_at hok (Nat.le_of_lt hj)).own _ (by omega)]
 rfl
theorem zero_seen:seenB ⟨0,0⟩ ((runK l j).thr (at' l j).thr.toNat)=true:=by
 have b:=bnd hok hj
 have:=((FI_at hok (Nat.le_of_lt hj)).l1 (at' l j).thr.toNat 0 (by omega) (by omega)).1
 simp [seenB,isThr,this]
include ha
theorem seen_ahd {i:Nat} (hi:i<j):seenB (ep l i) ((runK l j).thr (at' l j).thr.toNat)=true↔Ahd l i j:=by
 have bi:=bnd hok (show i<l.length by omega)
 have h:=pre_iff hok hj (FI_at hok (Nat.le_of_lt hj)) (u:=(at' l i).thr.toNat) (by omega) hi rfl
 have e:preV (runK l j) (at' l j)=(runK l j).thr (at' l j).thr.toNat:=by
  rw [preV,if_neg (by omega),if_neg (by omega),if_neg (by omega)]
 rw [e] at h
 rw [← h,seenB,(isThr_iff (ep l i).a).2 ⟨bi.1,bi.2.1⟩,Bool.true_and,decide_eq_true_eq]
 exact Iff.rfl
theorem seen_at {i:Nat} (hi:i<j):seenB (ep l i) ((runK l j).thr (at' l j).thr.toNat)=aheadR l i j:=by
 rw [Bool.eq_iff_iff,seen_ahd hok hj ha hi,aheadR_iff (Nat.le_of_lt hj)]
end
structure CR (l:List Ev) (j:Nat) (s:Cl) (r:FS):Prop where
 w:(r.wr<0∧s.wr=⟨0,0⟩)∨∃ i:Nat,i<j∧r.wr=i∧s.wr=ep l i
 r:(r.mn=false∧r.rds=[]∧s.rd= .inl ⟨0,0⟩)∨(∃ i:Nat,i<j∧r.mn=false∧r.rds=[i]∧s.rd= .inl (ep l i))∨
  (r.mn=true∧∃ d,s.rd= .inr d∧(∀ i∈r.rds,i<j)∧∀ u,u<6→(d u=0∧∀ i∈r.rds,(at' l i).thr.toNat≠u)∨∃ i∈r.rds,(at' l i).thr.toNat=u∧d u=1+cs l u i∧∀ i'∈r.rds,(at' l i').thr.toNat=u→i'=i)
theorem CR.next {l:List Ev} {j:Nat} {s:Cl} {r:FS} (h:CR l j s r):CR l (j+1) s r:=by
 refine ⟨?_,?_⟩
 ·rcases h.w with h|⟨i,h1,h2⟩
  ·exact .inl h
  ·exact .inr ⟨i,by omega,h2⟩
 ·rcases h.r with h|⟨i,h1,h2⟩|⟨h1,d,h2,h3,h4⟩
  ·exact .inl h
  ·exact .inr (.inl ⟨i,by omega,h2⟩)
  ·exact .inr (.inr ⟨h1,d,h2,fun i hi=>Nat.lt_succ_of_lt (h3 i hi),h4⟩)
section
variable {l:List Ev} (hok:(checkR l).2=0) {j:Nat} (hj:j<l.length) (ha:(at' l j).kind=1∨(at' l j).kind=2) {s:Cl} {r:FS} (h:CR l j s r)
include hok hj h
theorem wr_same:(s.wr.a=(ep l j).a∧s.wr.b=(ep l j).b)↔epW l r.wr j=true:=by
 rcases h.w with ⟨h1,h2⟩|⟨i,h1,h2,h3⟩
 ·rw [h2]
  constructor
  ·rintro ⟨_,hh⟩
   have hh:(0:Int)=1+(cs l (at' l j).thr.toNat j:Int):=hh
   omega
  ·intro hh
   rw [epW,Bool.and_eq_true,decide_eq_true_eq] at hh
   omega
 ·rw [h3,h2,epW,Int.toNat_natCast,decide_eq_true (by omega),Bool.true_and]
  exact same_iff hok h1 hj
include ha
theorem wr_known:seenB s.wr ((runK l j).thr (at' l j).thr.toNat)=knW l r.wr j:=by
 rcases h.w with ⟨h1,h2⟩|⟨i,h1,h2,h3⟩
 ·rw [h2,zero_seen hok hj,knW,decide_eq_true h1];rfl
 ·rw [h3,seen_at hok hj ha h1,h2,knW,Int.toNat_natCast,decide_eq_false (by omega),Bool.false_or]
theorem rd_known:knownB s.rd ((runK l j).thr (at' l j).thr.toNat)= !lateB l r.rds j:=by
 rcases h.r with ⟨_,h1,h2⟩|⟨i,h1,_,h2,h3⟩|⟨_,d,h2,h3,h4⟩
 ·rw [h2,h1]
  show seenB ⟨0,0⟩ _=_
  rw [zero_seen hok hj];rfl
 ·rw [h3,h2]
  show seenB (ep l i) _=_
  rw [seen_at hok hj ha h1]
  simp [lateB]
 ·rw [h2]
  have b:=bnd hok hj
  have hF:=FI_at hok (Nat.le_of_lt hj)
  show withB d _=_
  rw [Bool.eq_iff_iff]
  have hW:withB d ((runK l j).thr (at' l j).thr.toNat)=true↔∀ u,u<6→d u≤(runK l j).thr (at' l j).thr.toNat u:=by
   simp only [withB,List.all_eq_true,List.mem_range,decide_eq_true_eq]
   refine forall_congr' fun u=>imp_congr_right fun hu=> ?_
   rw [join_at hu]
   split<;>omega
  have hL:(!lateB l r.rds j)=true↔∀ i∈r.rds,Ahd l i j:=by
   simp only [lateB,Bool.not_eq_true',List.any_eq_false,Bool.not_eq_true,Bool.not_eq_false']
   refine forall_congr' fun i=>imp_congr_right fun hi=> ?_
   rw [← aheadR_iff (Nat.le_of_lt hj)]
   simp
  rw [hW,hL]
  have key:∀ i,i<j→((1+cs l (at' l i).thr.toNat i:Int)≤(runK l j).thr (at' l j).thr.toNat (at' l i).thr.toNat↔Ahd l i j):=fun i hi=>by
   have bi:=bnd hok (show i<l.length by omega)
   rw [← seen_ahd hok hj ha hi,seenB,(isThr_iff (ep l i).a).2 ⟨bi.1,bi.2.1⟩,Bool.true_and,decide_eq_true_eq]
   exact Iff.rfl
  constructor
  ·intro hh i hi
   have bi:=bnd hok (show i<l.length by have:=h3 i hi;omega)
   rcases h4 (at' l i).thr.toNat (by omega) with ⟨_,h5⟩|⟨i',hi',h5,h6,h7⟩
   ·exact absurd rfl (h5 i hi)
   ·have e:=h7 i hi rfl
    subst e
    have:=hh (at' l i).thr.toNat (by omega)
    rw [h6] at this
    exact (key i (h3 i hi)).1 this
  ·intro hh u hu
   rcases h4 u hu with ⟨h5,_⟩|⟨i,hi,h5,h6,_⟩
   ·rw [h5];exact (hF.l1 _ u (by omega) hu).1
   ·rw [h6];subst h5
    exact (key i (h3 i hi)).2 (hh i hi)
theorem step {x:Nat} (hsk:¬ skipB l x j):CR l (j+1) (accS s (at' l j) ((runK l j).thr (at' l j).thr.toNat)) (stF l x r j)∧accK s (at' l j) ((runK l j).thr (at' l j).thr.toNat)=fkF l x r j∧
  (accS s (at' l j) ((runK l j).thr (at' l j).thr.toNat)).slow=s.slow+slF l x r j:=by
 have hkn:=wr_known hok hj ha h
 have hrk:=rd_known hok hj ha h
 have hws:=wr_same hok hj h
 have hz:=zero_seen hok hj
 have hsj:= @seen_at l hok j hj ha
 have hen:=ep_now hok hj
 have b:=bnd hok hj
 generalize hc:(runK l j).thr (at' l j).thr.toNat=c at*
 unfold accS accK
 rw [hen,stF,fkF,slF,if_neg hsk,if_neg hsk,if_neg hsk]
 by_cases k1:(at' l j).kind=1
 ·rw [if_pos k1,if_pos k1,if_pos k1,if_pos k1,if_pos k1]
  have hK:(if seenB s.wr c=true then (0:Int) else 2)=if knW l r.wr j=true then 0 else 2:=by rw [hkn]
  rcases h.r with ⟨h1,h2,h3⟩|⟨i,h1,h2,h3,h4⟩|⟨h1,d,h2,h3,h4⟩
  ·have hs:¬ sameB l r j:=fun hh=>by have:=hh.2.1;rw [h2] at this;cases this
   have hl:lateB l r.rds j=false:=by rw [h2];rfl
   have hne:¬ ((0:Int)=(ep l j).a∧(0:Int)=(ep l j).b):=by
    rintro ⟨_,hh⟩
    have hh:(0:Int)=1+(cs l (at' l j).thr.toNat j:Int):=hh
    omega
   rw [if_neg hs,if_neg hs,if_neg hs,if_pos (show r.mn=false∧lateB l r.rds j=false from ⟨h1,hl⟩),if_neg (show ¬ (r.mn=false∧lateB l r.rds j=true) from fun hh=>by rw [hl] at hh;exact absurd hh.2 (by decide))]
   unfold rdS rdK
   rw [h3]
   simp only
   rw [if_neg hne,if_neg hne,if_pos hz]
   refine ⟨⟨?_, .inr (.inl ⟨j,Nat.lt_succ_self _,rfl,rfl,rfl⟩)⟩,hK,by simp⟩
   exact h.next.w
  ·have hl:lateB l r.rds j= !aheadR l i j:=by rw [h3];simp [lateB]
   have hq:=same_iff hok h1 hj
   by_cases he:epB l i j=true
   ·have hs:sameB l r j:=⟨h2,by rw [h3];rfl,by rw [h3];exact he⟩
    rw [if_pos hs,if_pos hs,if_pos hs]
    unfold rdS rdK
    rw [h4]
    simp only
    rw [if_pos (hq.2 he),if_pos (hq.2 he)]
    exact ⟨h.next,rfl,by simp⟩
   ·have hs:¬ sameB l r j:=fun hh=>by have:=hh.2.2;rw [h3] at this;exact he this
    have hne:¬ ((ep l i).a=(ep l j).a∧(ep l i).b=(ep l j).b):=fun hh=>he (hq.1 hh)
    have hsi:=hsj h1
    rw [if_neg hs,if_neg hs,if_neg hs]
    unfold rdS rdK
    rw [h4]
    simp only
    rw [if_neg hne,if_neg hne,hsi]
    cases hah:aheadR l i j with
    |true=>
     rw [hah] at hl
     rw [if_pos (rfl:true=true),if_pos (show r.mn=false∧lateB l r.rds j=false from ⟨h2,hl⟩),if_neg (show ¬ (r.mn=false∧lateB l r.rds j=true) from fun hh=>by rw [hl] at hh;exact absurd hh.2 (by decide))]
     exact ⟨⟨h.next.w, .inr (.inl ⟨j,Nat.lt_succ_self _,rfl,rfl,rfl⟩)⟩,hK,by simp⟩
    |false=>
     rw [hah] at hl
     have hl:lateB l r.rds j=true:=hl
     rw [if_neg (show ¬ (false=true) by decide),if_neg (show ¬ (r.mn=false∧lateB l r.rds j=false) from fun hh=>by rw [hl] at hh;exact absurd hh.2 (by decide)),if_pos (show r.mn=false∧lateB l r.rds j=true from ⟨h2,hl⟩)]
     have bi:=bnd hok (show i<l.length by omega)
     have hth:(at' l i).thr≠(at' l j).thr:=by
      intro hh
      have:Ahd l i j:=one_dir hok h1 hj (.inl (.inl (by rw [hh])))
      rw [← aheadR_iff (Nat.le_of_lt hj),hah] at this
      cases this
     have hf:r.rds.filter (fun i=> !decide ((at' l i).thr=(at' l j).thr))++[j]=[i,j]:=by
      rw [h3,List.filter_cons_of_pos (by simp [hth])];rfl
     rw [hf]
     refine ⟨⟨h.next.w, .inr (.inr ⟨rfl,_,rfl,?_,?_⟩)⟩,hK,by simp⟩
     ·intro i' hi'
      simp only [List.mem_cons,List.not_mem_nil,or_false] at hi'
      rcases hi' with rfl|rfl<;>omega
     ·intro u hu
      show ((if u=(at' l j).thr.toNat then 1+(cs l (at' l j).thr.toNat j:Int) else if u=(at' l i).thr.toNat then 1+(cs l (at' l i).thr.toNat i:Int) else 0)=0∧_)∨_
      by_cases e1:u=(at' l j).thr.toNat
      ·refine .inr ⟨j,by simp,e1.symm,?_,fun i' hi' hu'=> ?_⟩
       ·show (if u=(at' l j).thr.toNat then 1+(cs l (at' l j).thr.toNat j:Int) else _)=_
        rw [if_pos e1,e1]
       ·simp only [List.mem_cons,List.not_mem_nil,or_false] at hi'
        rcases hi' with rfl|rfl
        ·exact absurd (show (at' l i').thr=(at' l j).thr by omega) hth
        ·rfl
      ·by_cases e2:u=(at' l i).thr.toNat
       ·refine .inr ⟨i,by simp,e2.symm,?_,fun i' hi' hu'=> ?_⟩
        ·show (if u=(at' l j).thr.toNat then 1+(cs l (at' l j).thr.toNat j:Int) else if u=(at' l i).thr.toNat then 1+(cs l (at' l i).thr.toNat i:Int) else 0)=_
         rw [if_neg e1,if_pos e2,e2]
        ·simp only [List.mem_cons,List.not_mem_nil,or_false] at hi'
         rcases hi' with rfl|rfl
         ·rfl
         ·exact absurd hu'.symm e1
       ·refine .inl ⟨by rw [if_neg e1,if_neg e2],fun i' hi'=> ?_⟩
        simp only [List.mem_cons,List.not_mem_nil,or_false] at hi'
        rcases hi' with rfl|rfl
        ·exact fun hh=>e2 hh.symm
        ·exact fun hh=>e1 hh.symm
  ·have hs:¬ sameB l r j:=fun hh=>by have:=hh.1;rw [h1] at this;cases this
   rw [if_neg hs,if_neg hs,if_neg hs,if_neg (show ¬ (r.mn=false∧lateB l r.rds j=false) from fun hh=>by rw [h1] at hh;exact absurd hh.1 (by decide)),if_neg (show ¬ (r.mn=false∧lateB l r.rds j=true) from fun hh=>by rw [h1] at hh;exact absurd hh.1 (by decide))]
   unfold rdS rdK
   rw [h2]
   simp only
   refine ⟨⟨h.next.w, .inr (.inr ⟨rfl,_,rfl,?_,?_⟩)⟩,hK,by simp⟩
   ·intro i hi
    simp only [List.mem_append,List.mem_filter,List.mem_cons,List.not_mem_nil,or_false] at hi
    rcases hi with hi|hi
    ·have:=h3 i hi.1;omega
    ·omega
   ·intro u hu
    show ((if u=(at' l j).thr.toNat then 1+(cs l (at' l j).thr.toNat j:Int) else d u)=0∧_)∨_
    by_cases e1:u=(at' l j).thr.toNat
    ·refine .inr ⟨j,by simp,e1.symm,?_,fun i' hi' hu'=> ?_⟩
     ·show (if u=(at' l j).thr.toNat then 1+(cs l (at' l j).thr.toNat j:Int) else _)=_
      rw [if_pos e1,e1]
     ·simp only [List.mem_append,List.mem_filter,List.mem_cons,List.not_mem_nil,or_false] at hi'
      rcases hi' with hi'|hi'
      ·have:=h3 i' hi'.1
       have bi:=bnd hok (show i'<l.length by omega)
       have h5:=hi'.2
       simp only [Bool.not_eq_true',decide_eq_false_iff_not] at h5
       exact absurd (show (at' l i').thr=(at' l j).thr by omega) h5
      ·exact hi'
    ·rcases h4 u hu with ⟨h5,h6⟩|⟨i,hi,h5,h6,h7⟩
     ·refine .inl ⟨by rw [if_neg e1];exact h5,fun i' hi'=> ?_⟩
      simp only [List.mem_append,List.mem_filter,List.mem_cons,List.not_mem_nil,or_false] at hi'
      rcases hi' with hi'|hi'
      ·exact h6 i' hi'.1
      ·subst hi';exact fun hh=>e1 hh.symm
     ·refine .inr ⟨i,?_,h5,?_,fun i' hi' hu'=> ?_⟩
      ·simp only [List.mem_append,List.mem_filter,List.mem_cons,List.not_mem_nil,or_false]
       refine .inl ⟨hi,?_⟩
       simp only [Bool.not_eq_true',decide_eq_false_iff_not]
       intro hh
       exact e1 (by rw [← h5,hh])
      ·show (if u=(at' l j).thr.toNat then 1+(cs l (at' l j).thr.toNat j:Int) else d u)=_
       rw [if_neg e1];exact h6
      ·simp only [List.mem_append,List.mem_filter,List.mem_cons,List.not_mem_nil,or_false] at hi'
       rcases hi' with hi'|hi'
       ·exact h7 i' hi'.1 hu'
       ·subst hi';exact absurd hu'.symm e1
 ·rw [if_neg k1,if_neg k1,if_neg k1,if_neg k1,if_neg k1]
  unfold wrS wrK
  by_cases he:epW l r.wr j=true
  ·rw [if_pos he,if_pos he,if_pos (hws.2 he),if_pos (hws.2 he)]
   exact ⟨h.next,rfl,by simp⟩
  ·have hne:¬ (s.wr.a=(ep l j).a∧s.wr.b=(ep l j).b):=fun hh=>he (hws.1 hh)
   rw [if_neg he,if_neg he,if_neg hne,if_neg hne,hkn,hrk]
   refine ⟨⟨.inr ⟨j,Nat.lt_succ_self _,rfl,rfl⟩,?_⟩,?_,by simp⟩
   ·rcases h.r with ⟨h1,h2,h3⟩|⟨i,h1,h2,h3,h4⟩|⟨h1,d,h2,h3,h4⟩
    ·exact .inl ⟨rfl,by rw [h1,h2];rfl,by rw [h3]⟩
    ·exact .inr (.inl ⟨i,by omega,rfl,by rw [h2,h3];rfl,by rw [h4]⟩)
    ·exact .inl ⟨rfl,by rw [h1];rfl,by rw [h2]⟩
   ·cases knW l r.wr j<;>cases lateB l r.rds j<;>rfl
end
section
variable {l:List Ev} (hok:(checkR l).2=0)
include hok
theorem skip_iff {x j:Nat} (hj:j<l.length):¬ skipB l x j↔isAcc (at' l j)=true∧x=(at' l j).obj.toNat:=by
 have hk:=kind_ok hok hj
 have b:=bnd hok hj
 simp only [skipB,isAcc,Bool.or_eq_true,decide_eq_true_eq]
 omega
theorem CR_at:∀ {j:Nat},j≤l.length→∀ x,CR l j (runX l j x) (FSr l x j)∧(runX l j x).slow=slW l x j
 |0,_,x=>⟨⟨.inl ⟨by show (-1:Int)<0;decide,rfl⟩, .inl ⟨rfl,rfl,rfl⟩⟩,rfl⟩
 |j+1,hj,x=>by
  obtain ⟨h1,h2⟩:=CR_at (j:=j) (by omega) x
  have hr:runX l (j+1) x=if isAcc (at' l j)=true then (if x=(at' l j).obj.toNat then accS (runX l j x) (at' l j) ((runK l j).thr (at' l j).thr.toNat) else runX l j x) else runX l j x:=rfl
  have hf:FSr l x (j+1)=stF l x (FSr l x j) j:=rfl
  have hs:slW l x (j+1)=slW l x j+slF l x (FSr l x j) j:=rfl
  have hi:=skip_iff hok (x:=x) (show j<l.length by omega)
  by_cases hsk:skipB l x j
  ·have hrx:runX l (j+1) x=runX l j x:=by
    rw [hr]
    by_cases ha:isAcc (at' l j)=true
    ·rw [if_pos ha,if_neg (fun hx=>hi.2 ⟨ha,hx⟩ hsk)]
    ·rw [if_neg ha]
   rw [hrx,hf,hs,stF,slF,if_pos hsk,if_pos hsk]
   exact ⟨h1.next,by rw [h2];simp⟩
  ·obtain ⟨ha,hx⟩:=hi.1 hsk
   have ha':=ha
   simp only [isAcc,Bool.or_eq_true,decide_eq_true_eq] at ha'
   rw [hr,if_pos ha,if_pos hx,hf,hs]
   obtain ⟨g1,g2,g3⟩:=step hok (by omega) ha' h1 hsk
   exact ⟨g1,by rw [g3,h2];simp⟩
theorem flag_at {j:Nat} (hj:j<l.length) (ha:isAcc (at' l j)=true):flagX l j=fkF l (at' l j).obj.toNat (FSr l (at' l j).obj.toNat j) j:=by
 have hsk:=(skip_iff hok hj).2 ⟨ha,rfl⟩
 have ha':=ha
 simp only [isAcc,Bool.or_eq_true,decide_eq_true_eq] at ha'
 rw [← (step hok hj ha' (CR_at hok (Nat.le_of_lt hj) _).1 hsk).2.1]
 show (if isAcc (at' l j)=true then accK (runX l j (at' l j).obj.toNat) (at' l j) ((runK l j).thr (at' l j).thr.toNat) else 0)=_
 rw [if_pos ha]
omit hok in
theorem flW_filter {x j:Nat}:∀ n,(flW l x n).filter (fun f:Fl=>decide (f.at'=(j:Int)))=if j<n∧fkF l x (FSr l x j) j≠0 then [⟨j,x,fkF l x (FSr l x j) j⟩] else []
 |0=>rfl
 |n+1=>by
  rw [flW,List.filter_append,flW_filter n]
  by_cases e:j=n
  ·subst e
   by_cases h:fkF l x (FSr l x j) j=0
   ·rw [if_pos h,if_neg (fun hh=>hh.2 h),if_neg (fun hh=>hh.2 h)];rfl
   ·rw [if_neg h,if_neg (fun hh=>Nat.lt_irrefl _ hh.1),if_pos ⟨Nat.lt_succ_self _,h⟩,List.filter_cons_of_pos (by simp)];rfl
  ·have h2:(if fkF l x (FSr l x n) n=0 then [] else [(⟨n,x,fkF l x (FSr l x n) n⟩:Fl)]).filter (fun f:Fl=>decide (f.at'=(j:Int)))=[]:=by
    split
    ·rfl
    ·rw [List.filter_cons_of_neg (by simp;omega)];rfl
   rw [h2,List.append_nil]
   by_cases h:j<n∧fkF l x (FSr l x j) j≠0
   ·rw [if_pos h,if_pos ⟨by omega,h.2⟩]
   ·rw [if_neg h,if_neg (fun hh=>h ⟨by omega,hh.2⟩)]
theorem flA_filter {j:Nat} (hj:j<l.length):∀ X,(flA l X).filter (fun f:Fl=>decide (f.at'=(j:Int)))=if (at' l j).obj.toNat<X∧flagX l j≠0 then [⟨j,(at' l j).obj,flagX l j⟩] else []
 |0=>by simp [flA]
 |X+1=>by
  have b:=bnd hok hj
  rw [flA,List.filter_append,flA_filter hj X,flW_filter]
  have h0:isAcc (at' l j)=false→flagX l j=0:=fun h=>by
   show (if isAcc (at' l j)=true then _ else 0)=_
   rw [if_neg (by rw [h];decide)]
  by_cases hsk:skipB l X j
  ·have hz:fkF l X (FSr l X j) j=0:=by rw [fkF,if_pos hsk]
   rw [if_neg (fun hh:j<l.length∧fkF l X (FSr l X j) j≠0=>hh.2 hz),List.append_nil]
   have hn:¬ (isAcc (at' l j)=true∧X=(at' l j).obj.toNat):=fun hh=>(skip_iff hok hj).2 hh hsk
   by_cases ha:isAcc (at' l j)=true
   ·have hne:X≠(at' l j).obj.toNat:=fun hh=>hn ⟨ha,hh⟩
    by_cases h:(at' l j).obj.toNat<X∧flagX l j≠0
    ·rw [if_pos h,if_pos ⟨by omega,h.2⟩]
    ·rw [if_neg h,if_neg (fun hh=>h ⟨by omega,hh.2⟩)]
   ·have:=h0 (by simpa using ha)
    rw [if_neg (fun hh:(at' l j).obj.toNat<X∧flagX l j≠0=>hh.2 this),if_neg (fun hh:(at' l j).obj.toNat<X+1∧flagX l j≠0=>hh.2 this)]
  ·obtain ⟨ha,hx⟩:=(skip_iff hok hj).1 hsk
   have hf:=flag_at hok hj ha
   rw [← hx] at hf
   rw [if_neg (fun hh:(at' l j).obj.toNat<X∧flagX l j≠0=>by have:=hh.1;omega),List.nil_append,← hf]
   have hxo:(X:Int)=(at' l j).obj:=by omega
   by_cases h:flagX l j=0
   ·rw [if_neg (fun hh:j<l.length∧flagX l j≠0=>hh.2 h),if_neg (fun hh:(at' l j).obj.toNat<X+1∧flagX l j≠0=>hh.2 h)]
   ·rw [if_pos ⟨hj,h⟩,if_pos ⟨by omega,h⟩,hxo]
theorem runX_out:∀ {j:Nat},j≤l.length→runXL l j=outA l (flA l 8) j
 |0,_=>rfl
 |j+1,hj=>by
  rw [outA,← runX_out (by omega),flA_filter hok (by omega)]
  show runXL l j++(if flagX l j=0 then [] else [⟨j,(at' l j).obj,flagX l j⟩])=_
  congr 1
  by_cases h:flagX l j=0
  ·rw [if_pos h,if_neg (fun hh:(at' l j).obj.toNat<8∧flagX l j≠0=>hh.2 h)]
  ·have b:=bnd hok (show j<l.length by omega)
   have ho8:(at' l j).obj.toNat<8:=by
    by_cases ha:isAcc (at' l j)=true
    ·simp only [isAcc,Bool.or_eq_true,decide_eq_true_eq] at ha
     have b4:=b.2.2.2
     have:many (at' l j).kind=8:=by rcases ha with ha|ha<;>rw [ha]<;>rfl
     omega
    ·exact absurd (show flagX l j=0 by show (if isAcc (at' l j)=true then _ else 0)=_;rw [if_neg ha]) h
   rw [if_neg h,if_pos ⟨ho8,h⟩]
end
end Go.Proofs.Ytpajfggdnobheaa.Fa
