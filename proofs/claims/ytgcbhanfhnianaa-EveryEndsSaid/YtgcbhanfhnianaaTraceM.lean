/- What holds in a trace that may be. Conditions: none. -/
import Derived.Test.YtgcbhanfhnianaaTraceR
set_option linter.unusedSimpArgs false
set_option linter.unusedVariables false
open Go Go.Sx Go.Proofs
namespace Go.Proofs.Ytgcbhanfhnianaa.Tr
open Go.Proofs.Ytgcbhanfhnianaa.D
def at' (l : List Ev) (i : Nat) : Ev := l.getD i dEv.dft
end Go.Proofs.Ytgcbhanfhnianaa.Tr
