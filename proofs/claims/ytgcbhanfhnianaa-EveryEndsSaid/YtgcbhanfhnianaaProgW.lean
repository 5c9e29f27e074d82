/- Nodes of all runs, breadth first: a state that lies in a node. Conditions: none. -/
import Derived.Test.YtgcbhanfhnianaaProgQ
import Derived.Test.YtgcbhanfhnianaaSx44
set_option linter.unusedSimpArgs false
set_option linter.unusedVariables false
set_option maxRecDepth 100000
open Go Go.Sx Go.Proofs
namespace Go.Proofs.Ytgcbhanfhnianaa.D
structure Nd where
  s : Sta
  pk : List Int
  ev : List Ev
theorem nd_eta (g : Nd) : (⟨g.s, g.pk, g.ev⟩ : Nd) = g := nr rfl
attribute [go_sem] nd_eta
end Go.Proofs.Ytgcbhanfhnianaa.D
namespace Go.Proofs.Ytgcbhanfhnianaa.Rn
open Go.Proofs.Ytgcbhanfhnianaa.D Go.Proofs.Ytgcbhanfhnianaa.Pg Go.Proofs.Ytgcbhanfhnianaa.Tr
end Go.Proofs.Ytgcbhanfhnianaa.Rn
