/- What is the same but for order may as well be, and races between the same events. Conditions: none. -/
import Derived.Test.YtgcbhanfhnianaaTopR
set_option linter.unusedSimpArgs false
set_option linter.unusedVariables false
open Go Go.Sx Go.Proofs
namespace Go.Proofs.Ytgcbhanfhnianaa.Tp
open Go.Proofs.Ytgcbhanfhnianaa.D Go.Proofs.Ytgcbhanfhnianaa.Tr Go.Proofs.Ytgcbhanfhnianaa.Fu Go.Proofs.Ytgcbhanfhnianaa.Pg Go.Proofs.Ytgcbhanfhnianaa.Rn Go.Proofs.Ytgcbhanfhnianaa.Sw Go.Proofs.Ytgcbhanfhnianaa.Ah Go.Proofs.Ytgcbhanfhnianaa.Ps Go.Proofs.Ytgcbhanfhnianaa.Od Go.Proofs.Ytgcbhanfhnianaa.St Go.Proofs.Ytgcbhanfhnianaa.Rc
def Vd : List Ev → List Ev → Prop
  | _, [] => True
  | pre, e :: r => wrongR pre e = 0 ∧ Vd (pre ++ [e]) r
theorem Vd.at {l : List Ev} : ∀ {pre : List Ev}, Vd pre l ↔ ∀ j, j < l.length → wrongR (pre ++ l.take j) (l.getD j dEv.dft) = 0 := by
  induction l with
  | nil => exact fun {pre} => ⟨fun _ j h => absurd h (Nat.not_lt_zero _), fun _ => trivial⟩
  | cons e r ih =>
    intro pre
    rw [Vd, ih]
    constructor
    · rintro ⟨h1, h2⟩ j hj
      cases j with
      | zero => simpa using h1
      | succ j =>
        have := h2 j (by simpa using hj)
        rw [List.take_succ_cons, List.getD_cons_succ]
        simpa using this
    · intro h
      refine ⟨by simpa using h 0 (by simp), fun j hj => ?_⟩
      have := h (j + 1) (by simpa using hj)
      rw [List.take_succ_cons, List.getD_cons_succ] at this
      simpa using this
theorem check_iff {l : List Ev} : (checkR l).2 = 0 ↔ l.length ≤ 80 ∧ Vd [] l := by
  rw [Vd.at]
  constructor
  · exact fun h => ⟨ok_len h, fun j hj => by simpa using ok_all h j hj⟩
  · rintro ⟨h1, h2⟩
    rw [checkR, if_neg (by omega)]
    exact checkL_ok _ 0 rfl fun j _ hj => by simpa using h2 j hj
end Go.Proofs.Ytgcbhanfhnianaa.Tp
