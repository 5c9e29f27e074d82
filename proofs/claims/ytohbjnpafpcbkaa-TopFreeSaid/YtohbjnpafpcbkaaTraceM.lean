/- What holds in a trace that may be. Conditions: none. -/
import Derived.Test.YtohbjnpafpcbkaaTraceR
set_option linter.unusedSimpArgs false
set_option linter.unusedVariables false
open Go Go.Sx Go.Proofs
namespace Go.Proofs.Ytohbjnpafpcbkaa.Tr
open Go.Proofs.Ytohbjnpafpcbkaa.D
/-- The event at a place. -/
def at' (l : List Ev) (i : Nat) : Ev := l.getD i dEv.dft
theorem didB_iff {l : List Ev} {j : Nat} (hj : j ≤ l.length) {k o : Int} : didB (l.take j) k o = true ↔ ∃ c, c < j ∧ (at' l c).kind = k ∧ (at' l c).obj = o := by
  unfold didB
  rw [List.any_eq_true]
  constructor
  · rintro ⟨e, he, h⟩
    obtain ⟨c, hc, rfl⟩ := List.getElem_of_mem he
    rw [List.length_take] at hc
    refine ⟨c, by omega, ?_⟩
    have : at' l c = (l.take j)[c]'(by rw [List.length_take]; exact hc) := by
      rw [List.getElem_take]
      simp [at', List.getD, show c < l.length by omega]
    rw [this]
    simpa using h
  · rintro ⟨c, hc, h1, h2⟩
    refine ⟨at' l c, ?_, by simp only [Bool.and_eq_true, decide_eq_true_eq]; exact ⟨h1, h2⟩⟩
    have hcl : c < l.length := by omega
    have : at' l c = (l.take j)[c]'(by rw [List.length_take]; omega) := by
      rw [List.getElem_take]
      simp [at', List.getD, hcl]
    rw [this]
    exact List.getElem_mem _
theorem ok_parts {l : List Ev} (h : (checkR l).2 = 0) {j : Nat} (hj : j < l.length) :
    isEv (at' l j) = true ∧ begB (l.take j) (at' l j).thr = true ∧ didB (l.take j) 6 (at' l j).thr = false ∧ ((at' l j).kind = 3 → Tr.ownR (l.take j) (at' l j).obj < 0) ∧ ((at' l j).kind = 4 → Tr.ownR (l.take j) (at' l j).obj = (at' l j).thr) ∧
    ((at' l j).kind = 5 → begB (l.take j) (at' l j).obj = false) ∧ ((at' l j).kind = 6 → begB (l.take j) (at' l j).obj = true ∧ (at' l j).obj ≠ (at' l j).thr) := by
  have hw : wrongR (l.take j) (at' l j) = 0 := ok_all h j hj
  unfold wrongR at hw
  by_cases h1 : isEv (at' l j) = false
  · rw [if_pos h1] at hw; cases hw
  rw [if_neg h1] at hw
  by_cases h2 : (!begB (l.take j) (at' l j).thr || didB (l.take j) 6 (at' l j).thr) = true
  · rw [if_pos h2] at hw; cases hw
  rw [if_neg h2] at hw
  simp only [Bool.or_eq_true, Bool.not_eq_true', not_or, Bool.not_eq_true, Bool.not_eq_false] at h2
  refine ⟨by simpa using h1, h2.1, h2.2, fun k => ?_, fun k => ?_, fun k => ?_, fun k => ?_⟩
  · simp only [k, if_true, Int.reduceEq, if_false] at hw
    split at hw
    · cases hw
    · omega
  · simp only [k, if_true, Int.reduceEq, if_false] at hw
    split at hw
    · cases hw
    · rename_i hh; simpa using hh
  · simp only [k, if_true, Int.reduceEq, if_false] at hw
    split at hw
    · cases hw
    · rename_i hh; simpa using hh
  · simp only [k, if_true, Int.reduceEq, if_false] at hw
    split at hw
    · cases hw
    · rename_i hh
      simp only [Bool.or_eq_true, Bool.not_eq_true', decide_eq_true_eq, not_or, Bool.not_eq_false] at hh
      exact hh
/-- Behind a fork of it a thread is: no event of it is ahead. -/
theorem fork_fresh {l : List Ev} (h : (checkR l).2 = 0) {j : Nat} (hj : j < l.length) (k5 : (at' l j).kind = 5) {c : Nat} (hc : c < j) : (at' l c).thr ≠ (at' l j).obj ∧ ¬ ((at' l c).kind = 5 ∧ (at' l c).obj = (at' l j).obj) := by
  obtain ⟨_, _, _, _, _, hf, _⟩ := ok_parts h hj
  have hb := hf k5
  simp only [begB, Bool.or_eq_false_iff, decide_eq_false_iff_not] at hb
  have hno : ∀ c', c' < j → ¬ ((at' l c').kind = 5 ∧ (at' l c').obj = (at' l j).obj) := fun c' hc' hh => by
    have : didB (l.take j) 5 (at' l j).obj = true := (didB_iff (Nat.le_of_lt hj)).2 ⟨c', hc', hh⟩
    rw [hb.2] at this; cases this
  refine ⟨fun e => ?_, hno c hc⟩
  obtain ⟨_, hbc, _⟩ := ok_parts h (show c < l.length by omega)
  simp only [begB, Bool.or_eq_true, decide_eq_true_eq] at hbc
  rcases hbc with hbc | hbc
  · exact hb.1 (by rw [← e]; exact hbc)
  · obtain ⟨c', hc', k1, k2⟩ := (didB_iff (show c ≤ l.length by omega)).1 hbc
    exact hno c' (by omega) ⟨k1, by rw [k2, e]⟩
end Go.Proofs.Ytohbjnpafpcbkaa.Tr
