import Derived.Test.YtgcbhanfhnianaaDoorSx29
/-! Sx, part 30: a map as a set. -/
set_option linter.unusedSimpArgs false
set_option linter.unusedVariables false
namespace Go.Sx
open Go
variable {α : Type} [DecidableEq α]
end Go.Sx
/-! Sx, part 31: pointers into lists; a callee that is handed an owned block and hands back what is held fast. -/
set_option linter.unusedSimpArgs false
set_option linter.unusedVariables false
namespace Go.Sx
open Go
variable {P : Program}
/-- A pointer to a place of a list. -/
def DT.eptr {α : Type} (wd' : Nat) (d : DT α) : DT (List α × Nat) where
  dft := ([], 0)
  emb := fun y => .eptr wd' d.dft d.emb y.1 y.2 [] 0
  decV := fun m x => match x with
    | .eptr _ _ f l i _ _ => (l.map fun y => d.decV m (f y), i)
    | _ => ([], 0)
  decP := fun m x => match x with
    | .eptr w' _ f l i p o => w' = wd' ∧ p = [] ∧ o = 0 ∧ allL l fun y => d.decP m (f y)
    | _ => False
  ok := fun {ε m w} g {x} h {cs} hs => by
    have hcl : ∀ {y : SV} {cs : List Value}, SatC y ε.cl cs → SatC y ε cs := fun h => SatC.mono _ ε.cl_le h
    cases x with
    | eptr w' dd f l i p o =>
      obtain ⟨rfl, rfl, rfl, h⟩ := h
      simp only [SatC] at hs ⊢
      obtain ⟨b, off, T', fz, cur, h1, h2, h3, h4, h5, h6⟩ := hs
      refine ⟨b, off, T', fz, cur, h1, by rw [List.length_map]; exact h2, frz_H g _ _ h3, h4, h5, ?_⟩
      have hx : l.getD i dd = l[i] := by simp [List.getD, h2]
      rw [hx] at h6
      have hy : (l.map fun y => d.decV m (f y)).getD i d.dft = d.decV m (f l[i]) := by simp [List.getD, h2]
      rw [hy]
      exact d.ok g (h _ (List.getElem_mem h2)) (hcl h6)
    | _ => exact h.elim
  agg := fun {m x} h => by cases x <;> first | exact h.elim | rfl
  vE := fun m y => by
    have : (fun z => d.decV m (d.emb z)) = id := by funext z; exact d.vE m z
    simp only [this, List.map_id]
  pE := fun m y => ⟨rfl, rfl, rfl, fun z _ => d.pE m z⟩
  ren := fun r y => rfl
  kill := fun i y => rfl
  val := fun y => rfl
theorem eptr_emb {α : Type} (w : Nat) (d : DT α) (l : List α) (i : Nat) : (DT.eptr w d).emb (l, i) = .eptr w d.dft d.emb l i [] 0 := nr rfl
theorem eptr_decV {α : Type} (m : List Res) (w w' : Nat) (d : DT α) {τ : Type} (x : τ) (f : τ → SV) (l : List τ) (i : Nat) (p o) : (DT.eptr w d).decV m (.eptr w' x f l i p o) = (l.map fun y => d.decV m (f y), i) := nr rfl
theorem eptr_decP {α : Type} (m : List Res) (w w' : Nat) (d : DT α) {τ : Type} (x : τ) (f : τ → SV) (l : List τ) (i : Nat) (p o) : (DT.eptr w d).decP m (.eptr w' x f l i p o) = (w' = w ∧ p = [] ∧ o = 0 ∧ allL l fun y => d.decP m (f y)) := nr rfl
namespace W
end W
attribute [go_sem] eptr_emb eptr_decV eptr_decP
/-- Fields, one behind the other. -/
structure DL (α : Type) where
  dft : α
  emb : α → List SV
  decV : List Res → List SV → α
  decP : List Res → List SV → Prop
  ok : ∀ {ε : Env} {m : List Res} {w : World}, Good ε m w → ∀ {xs : List SV}, decP m xs → ∀ {cs : List Value}, SatL xs ε cs → SatL (emb (decV m xs)) (frz ε m w).cl cs
  ren : ∀ (r : Nat → Option Nat) (y : α), renL r (emb y) = emb y
  kill : ∀ (i : Nat) (y : α), killL i (emb y) = emb y
  vE : ∀ (m : List Res) (y : α), decV m (emb y) = y
  pE : ∀ (m : List Res) (y : α), decP m (emb y)
def DL.nil : DL Unit := ⟨(), fun _ => [], fun _ _ => (), fun _ xs => match xs with | [] => True | _ => False, fun {ε m w} g {xs} h {cs} hs => by
  cases xs with
  | nil => exact hs
  | cons => exact h.elim, fun _ _ => rfl, fun _ _ => rfl, fun _ _ => rfl, fun _ _ => trivial⟩
def DL.cons {α β : Type} (d : DT α) (r : DL β) : DL (α × β) where
  dft := (d.dft, r.dft)
  emb := fun y => d.emb y.1 :: r.emb y.2
  decV := fun m xs => match xs with
    | x :: xs => (d.decV m x, r.decV m xs)
    | [] => (d.dft, r.dft)
  decP := fun m xs => match xs with
    | x :: xs => d.decP m x ∧ r.decP m xs
    | [] => False
  ok := fun {ε m w} g {xs} h {cs} hs => by
    cases xs with
    | nil => exact h.elim
    | cons x xs =>
      obtain ⟨h1, h2⟩ := h
      simp only [SatL] at hs ⊢
      obtain ⟨a, b, e1, e2, e3⟩ := hs
      exact ⟨a, b, e1, d.ok g h1 e2, r.ok g h2 e3⟩
  ren := fun s y => by simp only [renL, d.ren, r.ren]
  kill := fun s y => by simp only [killL, d.kill, r.kill]
  vE := fun m y => by simp only [d.vE, r.vE]
  pE := fun m y => ⟨d.pE m y.1, r.pE m y.2⟩
/-- A struct. -/
def DT.st {α : Type} (L : DL α) : DT α where
  dft := L.dft
  emb := fun y => .agg (L.emb y)
  decV := fun m x => match x with
    | .agg xs => L.decV m xs
    | _ => L.dft
  decP := fun m x => match x with
    | .agg xs => L.decP m xs
    | _ => False
  ok := fun {ε m w} g {x} h {cs} hs => by
    cases x with
    | agg xs =>
      simp only [SatC] at hs ⊢
      exact L.ok g h hs
    | _ => exact h.elim
  agg := fun {m x} h => by cases x <;> first | exact h.elim | rfl
  vE := fun m y => L.vE m y
  pE := fun m y => L.pE m y
  ren := fun r y => by simp only [Sx.ren, L.ren]
  kill := fun i y => by simp only [Sx.kill, L.kill]
  val := fun y => rfl
end Go.Sx
/-! Sx, part 32: a slice that may be nil, told apart from an empty one. -/
set_option linter.unusedSimpArgs false
set_option linter.unusedVariables false
namespace Go.Sx
open Go
variable {P : Program}
variable {α : Type}
end Go.Sx
