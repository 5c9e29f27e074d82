/- Pairs of places of which something holds. Conditions: none. -/
import Derived.Test.YtgcbhanfhnianaaBase
import Derived.Test.YtgcbhanfhnianaaRows
import Derived.WalkKit
set_option linter.unusedSimpArgs false
set_option linter.unusedVariables false
set_option maxRecDepth 100000
open Go Go.Sx Go.Proofs
namespace Go.Proofs.Ytgcbhanfhnianaa.Ps
open Go.Proofs.Ytgcbhanfhnianaa.D
def rowP (p : Nat → Nat → Bool) (i : Nat) : Nat → List Pr
  | 0 => []
  | j + 1 => rowP p i j ++ if p i j then [⟨i, j⟩] else []
def allP (p : Nat → Nat → Bool) (n : Nat) : Nat → List Pr
  | 0 => []
  | i + 1 => allP p n i ++ rowP p i n
theorem rowP_len (p : Nat → Nat → Bool) (i : Nat) : ∀ j, (rowP p i j).length ≤ j
  | 0 => Nat.le_refl _
  | j + 1 => by
    have := rowP_len p i j
    simp only [rowP, List.length_append]
    split <;> simp <;> omega
theorem allP_len (p : Nat → Nat → Bool) (n : Nat) : ∀ i, (allP p n i).length ≤ i * n
  | 0 => by simp [allP]
  | i + 1 => by
    have h1 := allP_len p n i
    have h2 := rowP_len p i n
    simp only [allP, List.length_append, Nat.add_mul]
    omega
theorem rowP_congr {p q : Nat → Nat → Bool} {i : Nat} : ∀ j, (∀ k, k < j → p i k = q i k) → rowP p i j = rowP q i j
  | 0, _ => rfl
  | j + 1, h => by rw [rowP, rowP, rowP_congr j (fun k hk => h k (by omega)), h j (by omega)]
theorem allP_congr {p q : Nat → Nat → Bool} {n : Nat} : ∀ i, (∀ a b, a < i → b < n → p a b = q a b) → allP p n i = allP q n i
  | 0, _ => rfl
  | i + 1, h => by rw [allP, allP, allP_congr i (fun a b ha hb => h a b (by omega) hb), rowP_congr n (fun k hk => h i k (by omega) hk)]
def upP (p : Nat → Nat → Bool) (i j : Nat) : Bool := decide (i < j) && p i j
theorem rowP_up (p : Nat → Nat → Bool) (i : Nat) : ∀ j, j ≤ i + 1 → rowP (upP p) i j = []
  | 0, _ => rfl
  | j + 1, h => by
    rw [rowP, rowP_up p i j (by omega)]
    simp [upP, show ¬ i < j by omega]
def Gq (f : FuncId) {κ : Type} (A : DA κ) (y : κ) (n : Nat) (p : Nat → Nat → Bool) : FH := FH.rd f (.cons DT.int (.cons DT.int A)) (.one .bool) (fun z => z.2.2 = y ∧ 0 ≤ z.1 ∧ z.1 < n ∧ 0 ≤ z.2.1 ∧ z.2.1 < n) (fun z => p z.1.toNat z.2.1.toNat) FH.none
theorem Gq_ok (f : FuncId) {κ : Type} (A : DA κ) (y : κ) (n : Nat) (p : Nat → Nat → Bool) (hf : okFn Try.prog f = true)
    (h : ∀ i j : Nat, i < n → j < n → FnOK Try.prog f (.int .i64 i :: .int .i64 j :: A.emb y) [] (.bool (p i j)) []) : FHOK Try.prog (Gq f A y n p) := FH.rd_ok hf (fun z hz => by
  obtain ⟨a, b, k⟩ := z
  obtain ⟨h1, h2, h3, h4, h5⟩ := hz
  simp only at h1 h2 h3 h4 h5
  subst h1
  have := h a.toNat b.toNat (by omega) (by omega)
  have ea : ((a.toNat : Nat) : Int) = a := by omega
  have eb : ((b.toNat : Nat) : Int) = b := by omega
  rw [ea, eb] at this
  exact this) FH.none_ok
theorem Gq_eq (f : FuncId) {κ : Type} (A : DA κ) (y : κ) (n : Nat) (p : Nat → Nat → Bool) (g : FuncId) (a : List SV) (m : List Res) : Gq f A y n p g a m = (FH.rd f (.cons DT.int (.cons DT.int A)) (.one .bool) (fun z => z.2.2 = y ∧ 0 ≤ z.1 ∧ z.1 < n ∧ 0 ≤ z.2.1 ∧ z.2.1 < n) (fun z => p z.1.toNat z.2.1.toNat) FH.none) g a m := nr rfl
end Go.Proofs.Ytgcbhanfhnianaa.Ps
