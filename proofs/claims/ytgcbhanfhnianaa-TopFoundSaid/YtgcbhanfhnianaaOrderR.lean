/- What is directly ahead: the reference. Conditions: none. -/
import Derived.Test.YtgcbhanfhnianaaPairsD
import Derived.Test.YtgcbhanfhnianaaTraceR
import Derived.Test.YtgcbhanfhnianaaEqs
set_option linter.unusedSimpArgs false
set_option linter.unusedVariables false
set_option maxRecDepth 100000
open Go Go.Sx Go.Proofs
namespace Go.Proofs.Ytgcbhanfhnianaa.Od
open Go.Proofs.Ytgcbhanfhnianaa.D Go.Proofs.Ytgcbhanfhnianaa.Tr Go.Proofs.Ytgcbhanfhnianaa.Ps Go.Proofs.Ytgcbhanfhnianaa.Eqs

def dirP (a b : Ev) : Bool := decide (a.thr = b.thr) || decide (a.kind = 4) && decide (b.kind = 3) && decide (a.obj = b.obj) || decide (a.kind = 5) && decide (a.obj = b.thr) ||
  decide (b.kind = 6) && decide (b.obj = a.thr) || decide (a.kind = 8) && decide (b.kind = 7) && decide (a.obj = b.obj) || decide (a.kind = 5) && decide (b.kind = 6) && decide (a.obj = b.obj)
def dirL (l : List Ev) (i j : Nat) : Bool := dirP (l.getD i dEv.dft) (l.getD j dEv.dft)
end Go.Proofs.Ytgcbhanfhnianaa.Od
