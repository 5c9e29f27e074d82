import Derived.Test.YtafcmgfmmlnngaaSx29
/-! Sx, part 30: a map as a set. -/
set_option linter.unusedSimpArgs false
set_option linter.unusedVariables false
namespace Go.Sx
open Go
variable {α : Type} [DecidableEq α]
/-- A map that holds 'true' of some. -/
def setM (d : DT α) (l : List α) : List (SV × SV) := l.map fun p => (d.emb p, .bool true)
def insM (x : α) (l : List α) : List α := if x ∈ l then l else l ++ [x]
theorem mem_insM {x y : α} {l : List α} : y ∈ insM x l ↔ y = x ∨ y ∈ l := by
  unfold insM
  split
  · rename_i h
    constructor
    · exact .inr
    · rintro (rfl | h')
      · exact h
      · exact h'
  · simp [or_comm]
omit [DecidableEq α] in
theorem setM_cons {d : DT α} {y : α} {l : List α} : setM d (y :: l) = (d.emb y, .bool true) :: setM d l := rfl
theorem setM_put {d : DT α} {e : ES} (he : ∀ x y, eqV e (d.emb x) (d.emb y) = decide (x = y)) (x : α) : ∀ l : List α, mpPut e (d.emb x) (.bool true) (setM d l) = setM d (insM x l)
  | [] => rfl
  | y :: l => by
    rw [setM_cons, mpPut, he]
    by_cases h : x = y
    · subst h; simp [insM, setM_cons]
    · have ih := setM_put he x l
      simp only [h, decide_false, Bool.false_eq_true, if_false]
      rw [ih]
      unfold insM
      by_cases h' : x ∈ l
      · simp [h, h', setM_cons]
      · simp [h, h', setM_cons]
theorem setM_find {d : DT α} {e : ES} (he : ∀ x y, eqV e (d.emb x) (d.emb y) = decide (x = y)) (x : α) : ∀ l : List α, mpFind e (d.emb x) (setM d l) = if x ∈ l then some (.bool true) else none
  | [] => rfl
  | y :: l => by
    rw [setM_cons, mpFind, he]
    by_cases h : x = y
    · subst h; simp
    · have ih := setM_find he x l
      simp [h, ih]
theorem setM_has {d : DT α} {e : ES} (he : ∀ x y, eqV e (d.emb x) (d.emb y) = decide (x = y)) (x : α) (l : List α) : obB (mpFind e (d.emb x) (setM d l)) = decide (x ∈ l) := by
  rw [setM_find he]
  by_cases h : x ∈ l <;> simp [h, obB]
end Go.Sx
