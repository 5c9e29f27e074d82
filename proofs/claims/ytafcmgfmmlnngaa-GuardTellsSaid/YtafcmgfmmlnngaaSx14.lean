import Derived.Test.YtafcmgfmmlnngaaSx13
/-! Sx, part 14: contracts of functions. -/
set_option linter.unusedSimpArgs false
set_option linter.unusedVariables false
namespace Go.Sx
open Go

variable {P : Program}

/-- A contract: called so, the function hands back this, and leaves that. -/
def FnOK (P : Program) (f : FuncId) (args : List SV) (m0 : List Res) (res : SV) (m1 : List Res) : Prop :=
  ∀ ε w vs, Good ε m0 w → SatA args ε vs → Calls P f vs.toArray w fun e w' => ∃ v ε', e = .returned v ∧ SatV ε' res v ∧ Inv ⟨w, ε, fun b => ∃ i, ownR ε i (memAt m0 i) = some b⟩ ε' m1 w'

theorem Inv.start {ε : Env} {m : List Res} {w : World} (g : Good ε m w) : Inv ⟨w, ε, fun b => ∃ i, ownR ε i (memAt m i) = some b⟩ ε m w :=
  ⟨g, Kept.refl _ _ _, fun i _ h => .inl ⟨i, h⟩, Nat.le_refl _, fun _ _ => rfl, fun _ _ _ => rfl⟩


/-- Slots of a frame as it begins. -/
def argsV : List SV → List Value → Prop := fun _ _ => True

theorem slots_start {ε : Env} : ∀ {args : List SV} {vs : List Value} (_ : SatA args ε vs) (n : Nat), SlotsOK ε (args ++ List.replicate n .junk) { tmps := vs.toArray ++ Array.replicate n undef, defers := [] } := by
  intro args vs h n
  have hl : ∀ {args : List SV} {vs : List Value}, SatA args ε vs → args.length = vs.length ∧ ∀ k, k < args.length → SatV ε (args.getD k .junk) (vs.getD k undef) := by
    intro args
    induction args with
    | nil => intro vs h; simp only [SatA] at h; subst h; exact ⟨rfl, fun k hk => absurd hk (Nat.not_lt_zero _)⟩
    | cons x r ih =>
      intro vs h
      simp only [SatA] at h
      obtain ⟨cs, t, rfl, h2, h3⟩ := h
      obtain ⟨i1, i2⟩ := ih h3
      refine ⟨by simp [i1], fun k hk => ?_⟩
      cases k with
      | zero => exact satC_sat h2
      | succ k => simp only [List.getD_cons_succ]; exact i2 k (by simpa using hk)
  obtain ⟨h1, h2⟩ := hl h
  refine ⟨by simp [h1], fun k => ?_⟩
  by_cases hk : k < args.length
  · have e1 : (args ++ List.replicate n SV.junk).getD k .junk = args.getD k .junk := by simp [List.getD, List.getElem?_append_left hk]
    have e2 : (vs.toArray ++ Array.replicate n undef).getD k undef = vs.getD k undef := by
      rw [Array.getD_eq_getD_getElem?, Array.getElem?_append_left (by simp; omega)]
      simp [List.getD]
    rw [e1, e2]
    exact h2 k hk
  · have e1 : (args ++ List.replicate n SV.junk).getD k .junk = .junk := by
      simp only [List.getD, List.getElem?_append_right (Nat.le_of_not_lt hk)]
      rw [List.getElem?_replicate]
      split <;> rfl
    rw [e1]; trivial

/-- What a function hands back, read off its frame. -/
def resK (P : Program) (σ : List SV) (m : List Res) (K : SV → Prop) : List ResultVar → Prop
  | [] => K (.tup [])
  | [.tmp t] => K (σ.getD t .junk)
  | [.cell t T] => match tsz P T with
    | some (n, ag) => peek m n ag K (σ.getD t .junk)
    | none => False
  | l => go l fun xs => K (.tup xs)
where go : List ResultVar → (List SV → Prop) → Prop
  | [], K => K []
  | .tmp t :: r, K => (σ.getD t .junk).isVal = true ∧ go r fun xs => K (σ.getD t .junk :: xs)
  | .cell t T :: r, K => match tsz P T with
    | some (n, ag) => peek m n ag (fun x => x.isVal = true ∧ go r fun xs => K (x :: xs)) (σ.getD t .junk)
    | none => False

end Go.Sx
