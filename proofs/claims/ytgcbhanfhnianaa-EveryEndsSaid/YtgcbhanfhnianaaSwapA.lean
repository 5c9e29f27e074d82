/- Which events stand apart: the package swap and its reference. Conditions: none. -/
import Derived.Test.YtgcbhanfhnianaaBase
import Derived.Test.YtgcbhanfhnianaaRows
import Derived.WalkKit
set_option linter.unusedSimpArgs false
set_option linter.unusedVariables false
set_option maxRecDepth 100000
open Go Go.Sx Go.Proofs
namespace Go.Proofs.Ytgcbhanfhnianaa.Sw
open Go.Proofs.Ytgcbhanfhnianaa.D
def touchB (a b : Ev) : Bool := (decide (a.kind = 5) || decide (a.kind = 6)) && decide (a.obj = b.thr)
def grp (k : Int) : Int × Bool := if k = 1 ∨ k = 2 then (1, decide (k = 1)) else if k = 3 ∨ k = 4 then (2, false) else if k = 5 ∨ k = 6 then (3, decide (k = 6)) else if k = 7 ∨ k = 8 then (4, decide (k = 7)) else (0, false)
def apartB (a b : Ev) : Bool :=
  if decide (a.thr = b.thr) || touchB a b || touchB b a then false else
    decide ((grp a.kind).1 = 0) || !decide ((grp a.kind).1 = (grp b.kind).1) || !decide (a.obj = b.obj) || ((grp a.kind).2 && (grp b.kind).2)
end Go.Proofs.Ytgcbhanfhnianaa.Sw
