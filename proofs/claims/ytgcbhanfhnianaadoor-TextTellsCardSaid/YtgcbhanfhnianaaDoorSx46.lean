import Derived.Test.YtgcbhanfhnianaaDoorSx44
/-! Sx, part 46: contracts of the library, as the kit proves them, in the layer's words. -/
set_option linter.unusedVariables false
set_option linter.unusedSimpArgs false
namespace Go.Sx
open Go
variable {P : Program}
/-- A callee that hands back a value and writes nothing that was there. -/
theorem fn_below {f : FuncId} {args : List SV} {res : SV} (h : ∀ ε w vs, Good ε [] w → SatA args ε vs → Calls P f vs.toArray w fun e w' => (∃ v, e = .returned v ∧ SatV ε res v) ∧ Go.RowKit.Below w.heap.size w w') : FnOK P f args [] res [] := by
  intro ε w vs g hs
  refine (h ε w vs g hs).mono fun e w' ⟨⟨v, he, hv⟩, hb⟩ => ⟨v, ε, he, hv, ?_⟩
  exact (Inv.start g).world hb.os hb.tape hb.output hb.size (fun k hk => .inl (hb.block k hk))
end Go.Sx
