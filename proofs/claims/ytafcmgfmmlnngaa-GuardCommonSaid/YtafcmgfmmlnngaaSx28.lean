import Derived.Test.YtafcmgfmmlnngaaSx27
/-! Sx, part 28: tables. -/
set_option linter.unusedVariables false
set_option linter.unusedSimpArgs false
namespace Go.Sx
open Go
/-- A table of n places. -/
def tb.{u} {α : Type u} (n : Nat) (f : Nat → α) : List α := (List.range n).map f
section
universe u v
variable {α : Type u} {β : Type v} {n : Nat} {f g : Nat → α}
theorem tb_len : (tb n f).length = n := by simp [tb]
theorem tb_get? (i : Nat) : (tb n f)[i]? = if i < n then some (f i) else none := by
  unfold tb
  rw [List.getElem?_map]
  by_cases h : i < n
  · rw [if_pos h, List.getElem?_range h]; rfl
  · rw [if_neg h, List.getElem?_eq_none (by simpa using h)]; rfl
theorem tb_getD {i : Nat} {d : α} (h : i < n) : (tb n f).getD i d = f i := by
  rw [List.getD, tb_get?, if_pos h]; rfl
theorem tb_set (i : Nat) (x : α) : (tb n f).set i x = tb n fun k => if k = i then x else f k := by
  apply List.ext_getElem?
  intro j
  rw [List.getElem?_set, tb_get?, tb_get?, tb_len]
  by_cases hj : j < n
  · by_cases e : i = j
    · subst e; simp [hj]
    · simp [e, hj, show ¬ j = i from fun h => e h.symm]
  · by_cases e : i = j
    · subst e; simp [hj]
    · simp [e, hj]
theorem tb_congr (h : ∀ i, i < n → f i = g i) : tb n f = tb n g := by
  apply List.ext_getElem?
  intro j
  rw [tb_get?, tb_get?]
  split
  · rename_i hj; rw [h j hj]
  · rfl
theorem tb_map (h : α → β) : (tb n f).map h = tb n fun k => h (f k) := by simp [tb, Function.comp_def]
theorem tb_take (k : Nat) : (tb n f).take k = tb (min k n) f := by
  apply List.ext_getElem?
  intro j
  rw [List.getElem?_take, tb_get?, tb_get?]
  by_cases h1 : j < k <;> by_cases h2 : j < n <;> simp [h1, h2] <;> omega
theorem tb_snoc : tb (n + 1) f = tb n f ++ [f n] := by simp [tb, List.range_succ]
theorem tb_zero : tb 0 f = [] := rfl
theorem tb_replicate (x : α) : List.replicate n x = tb n fun _ => x := by
  apply List.ext_getElem?
  intro j
  rw [List.getElem?_replicate, tb_get?]
theorem tb_of (l : List α) (d : α) : l = tb l.length fun i => l.getD i d := by
  apply List.ext_getElem?
  intro j
  rw [tb_get?]
  by_cases h : j < l.length
  · rw [if_pos h, List.getElem?_eq_getElem h]; simp [List.getD, h]
  · rw [if_neg h, List.getElem?_eq_none (by omega)]
end
theorem tb_renL (r : Nat → Option Nat) {n : Nat} {f : Nat → SV} : renL r (tb n f) = tb n fun k => ren r (f k) := by
  have : ∀ l : List SV, renL r l = l.map (ren r) := by
    intro l
    induction l with
    | nil => rfl
    | cons x l ih => simp only [renL, List.map_cons, ih]
  rw [this, tb_map]
theorem memAt_tb {n i : Nat} {f : Nat → Res} (h : i < n) : memAt (tb n f) i = f i := tb_getD h
/-- Bools in a table. -/
theorem tb_bools {n : Nat} {f : Nat → Bool} : (tb n fun b => SV.bool (f b)) = (tb n f).map DT.bool.emb := by rw [tb_map]; rfl
attribute [go_sem] tb_len
end Go.Sx
