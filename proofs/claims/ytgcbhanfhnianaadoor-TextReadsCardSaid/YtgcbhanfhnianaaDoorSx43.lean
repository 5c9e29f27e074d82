import Derived.Test.YtgcbhanfhnianaaDoorSx42
import Derived.Conc.RwLoneW
/-! Sx, part 43: a sync.RWMutex in one goroutine; a function that defers its unlocking. -/
set_option linter.unusedSimpArgs false
set_option linter.unusedVariables false
namespace Go.Sx
open Go Go.Conc.Locks Go.RwLone
variable {P : Program}
section lock
variable {w : World} {b : Nat} {T : TypeId} {xs : List Value}
end lock
variable {L : RwLink}
/-- A callee that is handed nothing: what it makes may name what is held fast. -/
def FH.mn (f : FuncId) (F : SV) (M : List Res) (Γ : FH) : FH := FH.on f (fun args m => .is (args = []) (ren (shf m.length) F) (m ++ M.map (renR (shf m.length)))) Γ
theorem FH.mn_ok {f : FuncId} {F : SV} {M : List Res} {Γ : FH} (hf : okFn P f = true) (h : FnOK P f [] [] F M) (hΓ : FHOK P Γ) : FHOK P (FH.mn f F M Γ) :=
  FH.on_ok (fun args m hp => ⟨hf, by subst hp; exact call_of_fn0 (m := m) (args := []) h rfl⟩) hΓ
theorem fh_mn (f : FuncId) (F : SV) (M : List Res) (Γ : FH) (g : FuncId) (args : List SV) (m : List Res) : FH.mn f F M Γ g args m = if g = f then .is (args = []) (ren (shf m.length) F) (m ++ M.map (renR (shf m.length))) else Γ g args m := nr rfl
/-! ### A function that defers one call -/
structure DC where
  x : JC
  y : JC
  l : SL
  df : FuncId
  dv : Opd
  z : JC
def DC.flat (d : DC) : IC × IC × List IOp × FuncId × Opd × IC := (d.x.flat, d.y.flat, d.l.flat none, d.df, d.dv, d.z.flat)
def DC.wf (n : Nat) (d : DC) : Bool := d.x.wf n && (d.y.wf n && (d.l.wf n && d.z.wf n))
section words
end words
attribute [go_sem ↓] fh_mn
end Go.Sx
