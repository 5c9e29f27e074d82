/- The flags of full are those of the races. Conditions: none. -/
import Derived.Test.YtgcbhanfhnianaaFullM
set_option linter.unusedSimpArgs false
set_option linter.unusedVariables false
open Go Go.Sx Go.Proofs
namespace Go.Proofs.Ytgcbhanfhnianaa.Fu
open Go.Proofs.Ytgcbhanfhnianaa.D Go.Proofs.Ytgcbhanfhnianaa.Tr Go.Proofs.Ytgcbhanfhnianaa.C Go.Proofs.Ytgcbhanfhnianaa.Ah Go.Proofs.Ytgcbhanfhnianaa.Ps Go.Proofs.Ytgcbhanfhnianaa.Od Go.Proofs.Ytgcbhanfhnianaa.St
theorem sync_acc {k : Kp} {e : Ev} (h : isAcc e = true) : syncK k e = k := by
  simp only [isAcc, Bool.or_eq_true, decide_eq_true_eq] at h
  unfold syncK
  rcases h with h | h <;> simp [h]
theorem runK_succ (l : List Ev) (j : Nat) : runK l (j + 1) = syncK (runK l j) (at' l j) := by
  show (if isAcc (at' l j) = true then runK l j else syncK (runK l j) (at' l j)) = _
  by_cases h : isAcc (at' l j) = true
  · rw [if_pos h, sync_acc h]
  · rw [if_neg h]
section
variable {l : List Ev} (hok : (checkR l).2 = 0)
include hok
theorem FI_at : ∀ {j : Nat}, j ≤ l.length → FI l j (runK l j)
  | 0, _ => by
    refine ⟨fun t u i _ _ hi => absurd hi (Nat.not_lt_zero _), fun t u i _ _ hi => absurd hi (Nat.not_lt_zero _), fun t u i _ _ hi => absurd hi (Nat.not_lt_zero _), ?_, ?_, ?_, ?_, ?_, ?_, ?_⟩
    · intro t ht; simp [runK, newK, ht, cs]
    · intro t u ht hu hne _; simp [runK, newK, ht, cs, hne]
    · intro m u _ _ _; simp [runK, newK, cs]
    · intro m u _ _ _; simp [runK, newK, cs]
    · intro t u ht hu
      simp only [runK, newK, cs]
      split <;> simp
    · intro m u _ _; simp [runK, newK, cs]
    · intro m u _ _; simp [runK, newK, cs]
  | j + 1, hj => by
    rw [runK_succ]
    exact FI_step hok (by omega) (FI_at (by omega))
end
section
variable {l : List Ev} (hok : (checkR l).2 = 0)
include hok
theorem kind_ok {i : Nat} (hi : i < l.length) : 1 ≤ (at' l i).kind ∧ (at' l i).kind ≤ 8 := by
  have b := bnd hok hi
  have := b.2.2
  unfold many at this
  by_cases h : 1 ≤ (at' l i).kind ∧ (at' l i).kind ≤ 8
  · exact h
  · rw [if_neg (by omega), if_neg (by omega), if_neg (by omega), if_neg (by omega)] at this; omega
end
end Go.Proofs.Ytgcbhanfhnianaa.Fu
