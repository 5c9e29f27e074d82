/- The reference of full. Conditions: none. -/
import Derived.Test.YtgcbhanfhnianaaPastM
import Derived.Test.YtgcbhanfhnianaaClockJ
set_option linter.unusedSimpArgs false
set_option linter.unusedVariables false
set_option maxRecDepth 100000
open Go Go.Sx Go.Proofs
namespace Go.Proofs.Ytgcbhanfhnianaa.Fu
open Go.Proofs.Ytgcbhanfhnianaa.D Go.Proofs.Ytgcbhanfhnianaa.Tr
def isSt (e : Ev) : Bool := decide (e.kind = 4) || decide (e.kind = 5) || decide (e.kind = 8)
theorem tszC : tsz Try.prog 166 = some (6, true) := by kernel_rfl
end Go.Proofs.Ytgcbhanfhnianaa.Fu
