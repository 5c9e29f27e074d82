import Derived.Test.YtafcmgfmmlnngaaSx15
/-! Sx, part 16: how it is used. -/
set_option linter.unusedSimpArgs false
set_option linter.unusedVariables false
namespace Go.Sx
open Go

variable {P : Program}

/-- A function, as it is walked: its code, where its results lie, how many slots it has. -/
def fnIs (P : Program) (quiet : FuncId → Bool) (f : FuncId) : Option (IC × List ResultVar × Nat) := match P.funcs[f]? with
  | some fn => match fn.body with
    | some c => match comp P quiet c with
      | some ic => if fn.name != "runtime.NumGoroutine" then some (ic, fn.results.toList, fn.ntmps) else none
      | none => none
    | none => none
  | none => none

theorem fnIs_ok {quiet : FuncId → Bool} {f : FuncId} {ic : IC} {rs : List ResultVar} {nt : Nat} (h : fnIs P quiet f = some (ic, rs, nt)) : okFn P f = true ∧ ∃ fn c, P.funcs[f]? = some fn ∧ fn.body = some c ∧ comp P quiet c = some ic ∧ fn.results.toList = rs ∧ fn.ntmps = nt := by
  unfold fnIs at h
  split at h <;> try (cases h; done)
  rename_i fn hf
  split at h <;> try (cases h; done)
  rename_i c hc
  split at h <;> try (cases h; done)
  rename_i ic' hic
  split at h <;> try (cases h; done)
  rename_i hn
  simp only [Option.some.injEq, Prod.mk.injEq] at h
  obtain ⟨rfl, rfl, rfl⟩ := h
  refine ⟨?_, fn, c, hf, hc, hic, rfl, rfl⟩
  unfold okFn
  rw [hf]
  simp only [Bool.and_eq_true]
  exact ⟨hn, by rw [hc]; rfl⟩

theorem fn_walk {quiet : FuncId → Bool} {f : FuncId} {ic : IC} {rs : List ResultVar} {nt : Nat} (hfn : fnIs P quiet f = some (ic, rs, nt)) {Γ : Hook} (hΓ : HookOK P Γ) {args : List SV} {m0 m1 : List Res} {res : SV}
    (h : swp Γ m0.length ic (endK rs P m0.length res m1) (args ++ List.replicate (nt - args.length) .junk) m0) : FnOK P f args m0 res m1 := by
  obtain ⟨_, fn, c, h1, h2, h3, h4, h5⟩ := fnIs_ok hfn
  exact fn_ok hΓ h1 h2 h3 h4 (by rw [h5]) (fun _ _ _ h => h) h

theorem fn_walkQ {quiet : FuncId → Bool} {f : FuncId} {ic : IC} {rs : List ResultVar} {nt : Nat} (hfn : fnIs P quiet f = some (ic, rs, nt)) {Γ : Hook} (hΓ : HookOK P Γ) {args : List SV} {m0 m1 : List Res} {res : SV}
    {Q : Ex → List SV → List Res → Prop} (hQ : ∀ e σ m, Q e σ m → endK rs P m0.length res m1 e σ m) (h : swp Γ m0.length ic Q (args ++ List.replicate (nt - args.length) .junk) m0) : FnOK P f args m0 res m1 := by
  obtain ⟨_, fn, c, h1, h2, h3, h4, h5⟩ := fnIs_ok hfn
  exact fn_ok hΓ h1 h2 h3 h4 (by rw [h5]) hQ h

def qall : FuncId → Bool := fun _ => true
/-- All but these leave memory as it is. -/
def qbut (l : List FuncId) : FuncId → Bool := fun f => !l.contains f

/-- Short forms for the printed code. -/
@[reducible] def q (d : Nat) (x : PIO) : IOp := ⟨some d, none, .p x⟩
@[reducible] def r (d : Nat) (x : EIO) : IOp := ⟨some d, none, .e x⟩
@[reducible] def u (x : EIO) : IOp := ⟨none, none, .e x⟩
@[reducible] def g (d : Nat) (s : Nat) (b : Bool) (x : PIO) : IOp := ⟨some d, some (s, b), .p x⟩
@[reducible] def ge (d : Nat) (s : Nat) (b : Bool) (x : EIO) : IOp := ⟨some d, some (s, b), .e x⟩
@[reducible] def I (n : Int) : Opd := .c (.int .i64 n)
@[reducible] def B (b : Bool) : Opd := .c (.bool b)

/-- No callee. -/
def noHook : Hook := fun _ _ _ _ => False
theorem noHook_ok : HookOK P noHook := fun _ _ _ _ h => h.elim

/-- One callee more. -/
def Hook.on (f : FuncId) (S : List SV → List Res → (SV → List Res → Prop) → Prop) (Γ : Hook) : Hook := fun g args m K => if g = f then S args m K else Γ g args m K

theorem Hook.on_ok {f : FuncId} {S : List SV → List Res → (SV → List Res → Prop) → Prop} {Γ : Hook} (hf : okFn P f = true) (hS : ∀ args m K, S args m K → ∃ sv m', K sv m' ∧ CallStep P f args m sv m') (hΓ : HookOK P Γ) : HookOK P (Γ.on f S) := by
  intro g args m K h
  unfold Hook.on at h
  split at h
  · rename_i e; subst e; exact ⟨hf, hS args m K h⟩
  · exact hΓ g args m K h

end Go.Sx
