/- What is ahead: the closing of what is directly ahead. Conditions: none. -/
import Derived.Test.YtgcbhanfhnianaaAheadP
set_option linter.unusedSimpArgs false
set_option linter.unusedVariables false
open Go Go.Sx Go.Proofs
namespace Go.Proofs.Ytgcbhanfhnianaa.Ah
open Go.Proofs.Ytgcbhanfhnianaa.D Go.Proofs.Ytgcbhanfhnianaa.Tr Go.Proofs.Ytgcbhanfhnianaa.Ps Go.Proofs.Ytgcbhanfhnianaa.Od
inductive Pth (E : Nat → Nat → Bool) : Nat → Nat → Prop
  | one {a b : Nat} : E a b = true → Pth E a b
  | snoc {a c b : Nat} : Pth E a c → E c b = true → Pth E a b
inductive PthB (E : Nat → Nat → Bool) (k : Nat) : Nat → Nat → Prop
  | one {a b : Nat} : E a b = true → PthB E k a b
  | snoc {a c b : Nat} : PthB E k a c → c < k → E c b = true → PthB E k a b
section
variable {E : Nat → Nat → Bool}
theorem Pth.trans {a b c : Nat} (h : Pth E a b) (k : Pth E b c) : Pth E a c := by
  induction k with
  | one e => exact .snoc h e
  | snoc _ e ih => exact .snoc ih e
theorem PthB.mono {k k' a b : Nat} (hk : k ≤ k') (h : PthB E k a b) : PthB E k' a b := by
  induction h with
  | one e => exact .one e
  | snoc _ hc e ih => exact .snoc ih (by omega) e
theorem PthB.path {k a b : Nat} (h : PthB E k a b) : Pth E a b := by
  induction h with
  | one e => exact .one e
  | snoc _ hc e ih => exact .snoc ih e
theorem PthB.trans {k a b : Nat} (h : PthB E (k + 1) a k) (g : PthB E (k + 1) k b) : PthB E (k + 1) a b := by
  induction g with
  | one e => exact .snoc h (by omega) e
  | snoc _ hc e ih => exact .snoc ih hc e
theorem PthB.split {k a b : Nat} (h : PthB E (k + 1) a b) : PthB E k a b ∨ PthB E k a k ∧ PthB E k k b := by
  induction h with
  | one e => exact .inl (.one e)
  | @snoc c b _ hc e ih =>
    by_cases hk : c < k
    · rcases ih with h | ⟨h1, h2⟩
      · exact .inl (.snoc h hk e)
      · exact .inr ⟨h1, .snoc h2 hk e⟩
    · have : c = k := by omega
      subst this
      rcases ih with h | ⟨h1, h2⟩
      · exact .inr ⟨h, .one e⟩
      · exact .inr ⟨h1, .one e⟩
theorem rounds_iff : ∀ (k a b : Nat), rounds E k a b = true ↔ PthB E k a b
  | 0, a, b => ⟨fun h => .one h, fun h => by
    cases h with
    | one e => exact e
    | snoc _ hc _ => exact absurd hc (Nat.not_lt_zero _)⟩
  | k + 1, a, b => by
    simp only [rounds, clo, Bool.or_eq_true, Bool.and_eq_true, rounds_iff k]
    constructor
    · rintro (h | ⟨h1, h2⟩)
      · exact h.mono (by omega)
      · exact (h1.mono (by omega)).trans (h2.mono (by omega))
    · exact fun h => h.split
theorem Pth.lt (hE : ∀ a b, E a b = true → a < b) {a b : Nat} (h : Pth E a b) : a < b := by
  induction h with
  | one e => exact hE _ _ e
  | snoc _ e ih => exact Nat.lt_trans ih (hE _ _ e)
theorem Pth.bounded (hE : ∀ a b, E a b = true → a < b) {a b : Nat} (h : Pth E a b) : ∀ {n}, b ≤ n → PthB E n a b := by
  induction h with
  | one e => exact fun _ => .one e
  | snoc _ e ih => exact fun hb => .snoc (ih (Nat.le_trans (Nat.le_of_lt (hE _ _ e)) hb)) (Nat.lt_of_lt_of_le (hE _ _ e) hb) e
theorem rounds_path (hE : ∀ a b, E a b = true → a < b) {n a b : Nat} (hb : b ≤ n) : rounds E n a b = true ↔ Pth E a b :=
  (rounds_iff n a b).trans ⟨fun h => h.path, fun h => h.bounded hE hb⟩
theorem Pth.last {a b : Nat} : Pth E a b ↔ ∃ i, E i b = true ∧ (a = i ∨ Pth E a i) := by
  constructor
  · intro h
    cases h with
    | one e => exact ⟨a, e, .inl rfl⟩
    | snoc h e => exact ⟨_, e, .inr h⟩
  · rintro ⟨i, e, rfl | h⟩
    · exact .one e
    · exact .snoc h e
end
theorem upP_lt {p : Nat → Nat → Bool} : ∀ a b, upP p a b = true → a < b := fun a b h => by
  simp only [upP, Bool.and_eq_true, decide_eq_true_eq] at h; exact h.1
def Ahd (l : List Ev) (a b : Nat) : Prop := Pth (upP (dirL l)) a b
theorem aheadR_iff {l : List Ev} {a b : Nat} (hb : b ≤ l.length) : aheadR l a b = true ↔ Ahd l a b := rounds_path upP_lt hb
theorem Ahd.lt {l : List Ev} {a b : Nat} (h : Ahd l a b) : a < b := Pth.lt upP_lt h
theorem rows_len {n : Nat} {M : Nat → Nat → Bool} : (rowsOf n M).length = n := tb_len
theorem rows_row {n : Nat} {M : Nat → Nat → Bool} {i : Nat} (h : i < n) : ((rowsOf n M).getD i []).length = n := by rw [rowsOf, tb_getD h, tb_len]
theorem rows_at {n : Nat} {M : Nat → Nat → Bool} {i j : Nat} (hi : i < n) (hj : j < n) : ((rowsOf n M).getD i []).getD j false = M i j := by rw [rowsOf, tb_getD hi, tb_getD hj]
end Go.Proofs.Ytgcbhanfhnianaa.Ah
