import Derived.Test.YtafcmgfmmlnngaaSx31
/-! Sx, part 32: a slice that may be nil, told apart from an empty one. -/
set_option linter.unusedSimpArgs false
set_option linter.unusedVariables false
namespace Go.Sx
open Go
variable {P : Program}
/-- A slice that is nil (none), or a list. -/
def DT.slo {α : Type} (wd' : Nat) (d : DT α) : DT (Option (List α)) where
  dft := none
  emb := fun o => match o with
    | none => .nils
    | some l => (DT.list wd' d).emb l
  decV := fun m x => match x with
    | .nils => none
    | _ => some ((DT.list wd' d).decV m x)
  decP := fun m x => (DT.list wd' d).decP m x
  ok := fun {ε m w} g {x} h {cs} hs => by
    cases x with
    | nils => exact hs
    | lst => exact (DT.list wd' d).ok g h hs
    | vec => exact (DT.list wd' d).ok g h hs
    | _ => exact h.elim
  agg := fun {m x} h => by
    cases x with
    | nils => rfl
    | lst => exact (DT.list wd' d).agg h
    | vec => exact (DT.list wd' d).agg h
    | _ => exact h.elim
  vE := fun m o => by
    cases o with
    | none => rfl
    | some l => exact congrArg some ((DT.list wd' d).vE m l)
  pE := fun m o => by
    cases o with
    | none => exact trivial
    | some l => exact (DT.list wd' d).pE m l
  ren := fun r o => by
    cases o with
    | none => rfl
    | some l => exact (DT.list wd' d).ren r l
  kill := fun i o => by
    cases o with
    | none => rfl
    | some l => exact (DT.list wd' d).kill i l
  val := fun o => by cases o <;> rfl
variable {α : Type}
theorem slo_none (w : Nat) (d : DT α) : (DT.slo w d).emb none = .nils := nr rfl
theorem slo_some (w : Nat) (d : DT α) (l : List α) : (DT.slo w d).emb (some l) = .lst w d.dft d.emb l := nr rfl
theorem slo_vE (w : Nat) (d : DT α) (m : List Res) (o : Option (List α)) : (DT.slo w d).decV m ((DT.slo w d).emb o) = o := nr ((DT.slo w d).vE m o)
theorem slo_pE (w : Nat) (d : DT α) (m : List Res) (o : Option (List α)) : (DT.slo w d).decP m ((DT.slo w d).emb o) = True := eq_true ((DT.slo w d).pE m o)
theorem slo_nilsV (w : Nat) (d : DT α) (m : List Res) : (DT.slo w d).decV m .nils = none := nr rfl
theorem slo_nilsP (w : Nat) (d : DT α) (m : List Res) : (DT.slo w d).decP m .nils = True := nr rfl
theorem slo_vecV (w : Nat) (d : DT α) (m : List Res) (i n : Nat) : (DT.slo w d).decV m (.vec i n) = some ((DT.list w d).decV m (.vec i n)) := nr rfl
theorem slo_vecP (w : Nat) (d : DT α) (m : List Res) (i n : Nat) : (DT.slo w d).decP m (.vec i n) = (DT.list w d).decP m (.vec i n) := nr rfl
theorem slo_lstV (w w' : Nat) (d : DT α) (m : List Res) {τ : Type} (x : τ) (f : τ → SV) (l : List τ) : (DT.slo w d).decV m (.lst w' x f l) = some ((DT.list w d).decV m (.lst w' x f l)) := nr rfl
theorem slo_lstP (w w' : Nat) (d : DT α) (m : List Res) {τ : Type} (x : τ) (f : τ → SV) (l : List τ) : (DT.slo w d).decP m (.lst w' x f l) = (DT.list w d).decP m (.lst w' x f l) := nr rfl
theorem list_sloV (w : Nat) (d : DT α) (m : List Res) (o : Option (List α)) : (DT.list w d).decV m ((DT.slo w d).emb o) = o.getD [] := nr (by
  cases o with
  | none => rfl
  | some l => exact (DT.list w d).vE m l)
theorem list_sloP (w : Nat) (d : DT α) (m : List Res) (o : Option (List α)) : (DT.list w d).decP m ((DT.slo w d).emb o) = True := eq_true (by
  cases o with
  | none => exact trivial
  | some l => exact (DT.list w d).pE m l)
theorem slo_ren (w : Nat) (d : DT α) (r : Nat → Option Nat) (o : Option (List α)) : ren r ((DT.slo w d).emb o) = (DT.slo w d).emb o := nr ((DT.slo w d).ren r o)
theorem slo_kill (w : Nat) (d : DT α) (i : Nat) (o : Option (List α)) : kill i ((DT.slo w d).emb o) = (DT.slo w d).emb o := nr ((DT.slo w d).kill i o)
theorem slo_val (w : Nat) (d : DT α) (o : Option (List α)) : ((DT.slo w d).emb o).isVal = true := nr ((DT.slo w d).val o)
theorem slo_agg (w : Nat) (d : DT α) (o : Option (List α)) : ((DT.slo w d).emb o).isAgg = false := nr (by cases o <;> rfl)
theorem slo_wd (w : Nat) (d : DT α) (o : Option (List α)) : wd ((DT.slo w d).emb o) = 1 := nr (by cases o <;> rfl)
theorem slo_ids (w : Nat) (d : DT α) (o : Option (List α)) : idsV ((DT.slo w d).emb o) = [] := nr (by cases o <;> rfl)
attribute [go_sem] slo_ids slo_wd slo_none slo_some slo_vE slo_pE slo_nilsV slo_nilsP slo_vecV slo_vecP slo_lstV slo_lstP list_sloV list_sloP slo_ren slo_kill slo_val slo_agg
end Go.Sx
