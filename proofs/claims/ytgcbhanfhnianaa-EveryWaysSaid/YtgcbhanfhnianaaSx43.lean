import Derived.Test.YtgcbhanfhnianaaSx42
import Derived.Conc.RwLoneW
/-! Sx, part 43: a sync.RWMutex in one goroutine; a function that defers its unlocking. -/
set_option linter.unusedSimpArgs false
set_option linter.unusedVariables false
namespace Go.Sx
open Go Go.Conc.Locks Go.RwLone
variable {P : Program}
section lock
variable {w : World} {b : Nat} {T : TypeId} {xs : List Value}
end lock
variable {L : RwLink}
/-! ### A function that defers one call -/
structure DC where
  x : JC
  y : JC
  l : SL
  df : FuncId
  dv : Opd
  z : JC
def DC.flat (d : DC) : IC × IC × List IOp × FuncId × Opd × IC := (d.x.flat, d.y.flat, d.l.flat none, d.df, d.dv, d.z.flat)
def DC.wf (n : Nat) (d : DC) : Bool := d.x.wf n && (d.y.wf n && (d.l.wf n && d.z.wf n))
section words
end words
end Go.Sx
