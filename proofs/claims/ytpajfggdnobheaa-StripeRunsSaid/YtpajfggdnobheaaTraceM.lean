/- A part of the proof of StripeRuns. Conditions: none. -/
import Derived.Test.YtpajfggdnobheaaTraceR
set_option linter.unusedVariables false
set_option linter.unusedSimpArgs false
open Go Go.Sx Go.Proofs
namespace Go.Proofs.Ytpajfggdnobheaa.Tr
variable {main:Bool} {Fz:Nat→Prop}
open Go.Proofs.Ytpajfggdnobheaa.D
def at' (l:List Ev) (i:Nat):Ev:=l.getD i dEv.dft
theorem didB_iff {l:List Ev} {j:Nat} (hj:j≤l.length) {k o:Int}:didB (l.take j) k o=true↔∃ c,c<j∧(at' l c).kind=k∧(at' l c).obj=o:=by
 unfold didB
 rw [List.any_eq_true]
 constructor
 ·rintro ⟨e,he,h⟩
  obtain ⟨c,hc,rfl⟩:=List.getElem_of_mem he
  rw [List.length_take] at hc
  refine ⟨c,by omega,?_⟩
  have:at' l c=(l.take j)[c]'(by rw [List.length_take];exact hc):=by
   rw [List.getElem_take]
   simp [at',List.getD,show c<l.length by omega]
  rw [this]
  simpa using h
 ·rintro ⟨c,hc,h1,h2⟩
  refine ⟨at' l c,?_,by simp only [Bool.and_eq_true,decide_eq_true_eq];exact ⟨h1,h2⟩⟩
  have hcl:c<l.length:=by omega
  have:at' l c=(l.take j)[c]'(by rw [List.length_take];omega):=by
   rw [List.getElem_take]
   simp [at',List.getD,hcl]
  rw [this]
  exact List.getElem_mem _
theorem ok_parts {l:List Ev} (h:(checkR l).2=0) {j:Nat} (hj:j<l.length):
  isEv (at' l j)=true∧begB (l.take j) (at' l j).thr=true∧didB (l.take j) 6 (at' l j).thr=false∧((at' l j).kind=3→Tr.ownR (l.take j) (at' l j).obj<0)∧((at' l j).kind=4→Tr.ownR (l.take j) (at' l j).obj=(at' l j).thr)∧
  ((at' l j).kind=5→begB (l.take j) (at' l j).obj=false)∧((at' l j).kind=6→begB (l.take j) (at' l j).obj=true∧(at' l j).obj≠(at' l j).thr):=by
 have hw:wrongR (l.take j) (at' l j)=0:=ok_all h j hj
 unfold wrongR at hw
 by_cases h1:isEv (at' l j)=false
 ·rw [if_pos h1] at hw;cases hw
 rw [if_neg h1] at hw
 by_cases h2:(!begB (l.take j) (at' l j).thr||didB (l.take j) 6 (at' l j).thr)=true
 ·rw [if_pos h2] at hw;cases hw
 rw [if_neg h2] at hw
 simp only [Bool.or_eq_true,Bool.not_eq_true',not_or,Bool.not_eq_true,Bool.not_eq_false] at h2
 refine ⟨by simpa using h1,h2.1,h2.2,fun k=> ?_,fun k=> ?_,fun k=> ?_,fun k=> ?_⟩
 ·simp only [k,if_true,Int.reduceEq,if_false] at hw
  split at hw
  ·cases hw
  ·omega
 ·simp only [k,if_true,Int.reduceEq,if_false] at hw
  split at hw
  ·cases hw
  ·rename_i hh;simpa using hh
 ·simp only [k,if_true,Int.reduceEq,if_false] at hw
  split at hw
  ·cases hw
  ·rename_i hh;simpa using hh
 ·simp only [k,if_true,Int.reduceEq,if_false] at hw
  split at hw
  ·cases hw
  ·rename_i hh
   simp only [Bool.or_eq_true,Bool.not_eq_true',decide_eq_true_eq,not_or,Bool.not_eq_false] at hh
   exact hh
end Go.Proofs.Ytpajfggdnobheaa.Tr
