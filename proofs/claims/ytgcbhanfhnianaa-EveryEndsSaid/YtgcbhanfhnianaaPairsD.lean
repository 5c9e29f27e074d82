/- Pairs of places of which something holds. Conditions: none. -/
import Derived.Test.YtgcbhanfhnianaaBase
import Derived.Test.YtgcbhanfhnianaaRows
import Derived.WalkKit
set_option linter.unusedSimpArgs false
set_option linter.unusedVariables false
set_option maxRecDepth 100000
open Go Go.Sx Go.Proofs
namespace Go.Proofs.Ytgcbhanfhnianaa.Ps
open Go.Proofs.Ytgcbhanfhnianaa.D
def upP (p : Nat → Nat → Bool) (i j : Nat) : Bool := decide (i < j) && p i j
end Go.Proofs.Ytgcbhanfhnianaa.Ps
