/- A part of the proof of StripeRuns. Conditions: none. -/
import Derived.Test.YtpajfggdnobheaaPastM
import Derived.Test.YtpajfggdnobheaaClockJ
set_option linter.unusedVariables false
set_option linter.unusedSimpArgs false
set_option maxRecDepth 100000
open Go Go.Sx Go.Proofs
namespace Go.Proofs.Ytpajfggdnobheaa.Fu
variable {main:Bool} {Fz:Nat→Prop}
open Go.Proofs.Ytpajfggdnobheaa.D Go.Proofs.Ytpajfggdnobheaa.Tr
def isSt (e:Ev):Bool:=decide (e.kind=4)||decide (e.kind=5)||decide (e.kind=8)
end Go.Proofs.Ytpajfggdnobheaa.Fu
