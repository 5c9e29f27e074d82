/- A part of the proof of StripeRuns. Conditions: none. -/
import Derived.Test.YtpajfggdnobheaaClockJ
import Derived.Test.YtpajfggdnobheaaRows
import Derived.WalkKit
set_option linter.unusedVariables false
set_option linter.unusedSimpArgs false
set_option maxRecDepth 100000
open Go Go.Sx Go.Proofs
namespace Go.Proofs.Ytpajfggdnobheaa.Ps
variable {main:Bool} {Fz:Nat→Prop}
open Go.Proofs.Ytpajfggdnobheaa.D
def upP (p:Nat→Nat→Bool) (i j:Nat):Bool:=decide (i<j)&&p i j
end Go.Proofs.Ytpajfggdnobheaa.Ps
