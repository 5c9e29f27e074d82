/-
  No cell of these rows narrows 'for every input' (looked for: loops, veiled, ifaces, maps, wideKeys, modest, calm, conditions, laid).
  DERIVED. THE GIVEN ROWS OF THIS SEAT. 12 by the template 'for every input the law returns true; each argument reads behind the call as it read before'; 0 by the template 'total and deterministic' (their statements: YtohbjnpafpcbkaaTotals.lean).
  GIVEN WITH THE SEED: the statements are not yours to turn. If you find one false, say at which input.
  Laid BY PROGRAM, IN A SANDBOX (cutbox-rows.mjs): the forced cells as the released guide's own fill.sh prints them over the translation f56b349c535905df… (all of the seat's roots in one cut). By AI agents, Wed Nov 11 2026. No macro, syntax, notation, axiom, sorry.
-/
import Derived.Test.YtohbjnpafpcbkaaChecked
import GoSem.Claim
import GoSem.ClaimJoined
import GoSem.ClaimMapViews
import Derived.JoinedTies
import Derived.KernelRfl
namespace Go.Proofs.Ytohbjnpafpcbkaa
/- THE CELL 'sum', in the pinned program and in every row, IS THE sha256 OF THE DUMP (.gsa) THAT YtohbjnpafpcbkaaProg.lean LOADS. Nothing in Lean hashes anything: it is a label: what it is worth is what the hold of that sum in a sandbox is worth. -/
noncomputable def Try.pinned : Pinned := { name := "ytohbjnpafpcbkaa", sum := "f56b349c535905df8ba0dd5528cf9189b4adacc0bb9c24395edf427b51aed06c", checked := Try.checked }
namespace Rows
def none {H : Type} : Left H := { results := [], args := [] }

/-- 'deadheatlaw.TraceHeld': WHATEVER THE INPUT: true; the input reads as it did. -/
def traceHeldSpec : ChangeSpec := { name := "traceHeld", fn := fun _ => fun
  | [d1, d2] => { results := [.lit (.bool true)], args := [d1, d2] }
  | _ => none }
def traceHeldRow : OpenClaim := { program := "ytohbjnpafpcbkaa", sum := "f56b349c535905df8ba0dd5528cf9189b4adacc0bb9c24395edf427b51aed06c", func := "deadheat/deadheatlaw.TraceHeld", spec := "traceHeld", plainKeys := false, apart := false }
def TraceHeldSaid : Prop := traceHeldRow.holds Try.pinned (OpenSpec.ofChange traceHeldSpec)

/-- ITS FALSE NEIGHBOUR: 'it returns false'. Refute it at one input. -/
def traceHeldWrong : ChangeSpec := { name := "traceHeld", fn := fun _ => fun
  | [d1, d2] => { results := [.lit (.bool false)], args := [d1, d2] }
  | _ => none }
def TraceHeldWrongFalsely : Prop := traceHeldRow.holds Try.pinned (OpenSpec.ofChange traceHeldWrong)

/-- 'deadheattop.TopSwaps': WHATEVER THE INPUT: true; the input reads as it did. -/
def topSwapsSpec : ChangeSpec := { name := "topSwaps", fn := fun _ => fun
  | [d1, d2] => { results := [.lit (.bool true)], args := [d1, d2] }
  | _ => none }
def topSwapsRow : OpenClaim := { program := "ytohbjnpafpcbkaa", sum := "f56b349c535905df8ba0dd5528cf9189b4adacc0bb9c24395edf427b51aed06c", func := "deadheat/deadheattop.TopSwaps", spec := "topSwaps", unfollowed := true, recurses := true, plainKeys := false, apart := false }
def TopSwapsSaid : Prop := topSwapsRow.holds Try.pinned (OpenSpec.ofChange topSwapsSpec)

/-- ITS FALSE NEIGHBOUR: 'it returns false'. Refute it at one input. -/
def topSwapsWrong : ChangeSpec := { name := "topSwaps", fn := fun _ => fun
  | [d1, d2] => { results := [.lit (.bool false)], args := [d1, d2] }
  | _ => none }
def TopSwapsWrongFalsely : Prop := topSwapsRow.holds Try.pinned (OpenSpec.ofChange topSwapsWrong)

/-- 'deadheatlaw.OrderDirect': WHATEVER THE INPUT: true; the input reads as it did. -/
def orderDirectSpec : ChangeSpec := { name := "orderDirect", fn := fun _ => fun
  | [d] => { results := [.lit (.bool true)], args := [d] }
  | _ => none }
def orderDirectRow : OpenClaim := { program := "ytohbjnpafpcbkaa", sum := "f56b349c535905df8ba0dd5528cf9189b4adacc0bb9c24395edf427b51aed06c", func := "deadheat/deadheatlaw.OrderDirect", spec := "orderDirect", unfollowed := true, recurses := true, plainKeys := false, apart := false }
def OrderDirectSaid : Prop := orderDirectRow.holds Try.pinned (OpenSpec.ofChange orderDirectSpec)

/-- ITS FALSE NEIGHBOUR: 'it returns false'. Refute it at one input. -/
def orderDirectWrong : ChangeSpec := { name := "orderDirect", fn := fun _ => fun
  | [d] => { results := [.lit (.bool false)], args := [d] }
  | _ => none }
def OrderDirectWrongFalsely : Prop := orderDirectRow.holds Try.pinned (OpenSpec.ofChange orderDirectWrong)

/-- 'deadheatlaw.RingGraphs': WHATEVER THE INPUT: true; the input reads as it did. -/
def ringGraphsSpec : ChangeSpec := { name := "ringGraphs", fn := fun _ => fun
  | [d] => { results := [.lit (.bool true)], args := [d] }
  | _ => none }
def ringGraphsRow : OpenClaim := { program := "ytohbjnpafpcbkaa", sum := "f56b349c535905df8ba0dd5528cf9189b4adacc0bb9c24395edf427b51aed06c", func := "deadheat/deadheatlaw.RingGraphs", spec := "ringGraphs", unfollowed := true, recurses := true, plainKeys := false, apart := false }
def RingGraphsSaid : Prop := ringGraphsRow.holds Try.pinned (OpenSpec.ofChange ringGraphsSpec)

/-- ITS FALSE NEIGHBOUR: 'it returns false'. Refute it at one input. -/
def ringGraphsWrong : ChangeSpec := { name := "ringGraphs", fn := fun _ => fun
  | [d] => { results := [.lit (.bool false)], args := [d] }
  | _ => none }
def RingGraphsWrongFalsely : Prop := ringGraphsRow.holds Try.pinned (OpenSpec.ofChange ringGraphsWrong)

/-- 'deadheatlaw.PackTells': WHATEVER THE INPUT: true; the input reads as it did. -/
def packTellsSpec : ChangeSpec := { name := "packTells", fn := fun _ => fun
  | [d] => { results := [.lit (.bool true)], args := [d] }
  | _ => none }
def packTellsRow : OpenClaim := { program := "ytohbjnpafpcbkaa", sum := "f56b349c535905df8ba0dd5528cf9189b4adacc0bb9c24395edf427b51aed06c", func := "deadheat/deadheatlaw.PackTells", spec := "packTells", plainKeys := false, apart := false }
def PackTellsSaid : Prop := packTellsRow.holds Try.pinned (OpenSpec.ofChange packTellsSpec)

/-- ITS FALSE NEIGHBOUR: 'it returns false'. Refute it at one input. -/
def packTellsWrong : ChangeSpec := { name := "packTells", fn := fun _ => fun
  | [d] => { results := [.lit (.bool false)], args := [d] }
  | _ => none }
def PackTellsWrongFalsely : Prop := packTellsRow.holds Try.pinned (OpenSpec.ofChange packTellsWrong)

/-- 'deadheatlaw.PackReads': WHATEVER THE INPUT: true; the input reads as it did. -/
def packReadsSpec : ChangeSpec := { name := "packReads", fn := fun _ => fun
  | [d] => { results := [.lit (.bool true)], args := [d] }
  | _ => none }
def packReadsRow : OpenClaim := { program := "ytohbjnpafpcbkaa", sum := "f56b349c535905df8ba0dd5528cf9189b4adacc0bb9c24395edf427b51aed06c", func := "deadheat/deadheatlaw.PackReads", spec := "packReads", plainKeys := false, apart := false }
def PackReadsSaid : Prop := packReadsRow.holds Try.pinned (OpenSpec.ofChange packReadsSpec)

/-- ITS FALSE NEIGHBOUR: 'it returns false'. Refute it at one input. -/
def packReadsWrong : ChangeSpec := { name := "packReads", fn := fun _ => fun
  | [d] => { results := [.lit (.bool false)], args := [d] }
  | _ => none }
def PackReadsWrongFalsely : Prop := packReadsRow.holds Try.pinned (OpenSpec.ofChange packReadsWrong)

/-- 'deadheatlaw.StampTells': WHATEVER THE INPUT: true; the input reads as it did. -/
def stampTellsSpec : ChangeSpec := { name := "stampTells", fn := fun _ => fun
  | [d] => { results := [.lit (.bool true)], args := [d] }
  | _ => none }
def stampTellsRow : OpenClaim := { program := "ytohbjnpafpcbkaa", sum := "f56b349c535905df8ba0dd5528cf9189b4adacc0bb9c24395edf427b51aed06c", func := "deadheat/deadheatlaw.StampTells", spec := "stampTells", unfollowed := true, recurses := true, plainKeys := false, apart := false }
def StampTellsSaid : Prop := stampTellsRow.holds Try.pinned (OpenSpec.ofChange stampTellsSpec)

/-- ITS FALSE NEIGHBOUR: 'it returns false'. Refute it at one input. -/
def stampTellsWrong : ChangeSpec := { name := "stampTells", fn := fun _ => fun
  | [d] => { results := [.lit (.bool false)], args := [d] }
  | _ => none }
def StampTellsWrongFalsely : Prop := stampTellsRow.holds Try.pinned (OpenSpec.ofChange stampTellsWrong)

/-- 'deadheattop.TopFree': WHATEVER THE INPUT: true; the input reads as it did. -/
def topFreeSpec : ChangeSpec := { name := "topFree", fn := fun _ => fun
  | [d1, d2, d3] => { results := [.lit (.bool true)], args := [d1, d2, d3] }
  | _ => none }
def topFreeRow : OpenClaim := { program := "ytohbjnpafpcbkaa", sum := "f56b349c535905df8ba0dd5528cf9189b4adacc0bb9c24395edf427b51aed06c", func := "deadheat/deadheattop.TopFree", spec := "topFree", unfollowed := true, recurses := true, plainKeys := false, apart := false }
def TopFreeSaid : Prop := topFreeRow.holds Try.pinned (OpenSpec.ofChange topFreeSpec)

/-- ITS FALSE NEIGHBOUR: 'it returns false'. Refute it at one input. -/
def topFreeWrong : ChangeSpec := { name := "topFree", fn := fun _ => fun
  | [d1, d2, d3] => { results := [.lit (.bool false)], args := [d1, d2, d3] }
  | _ => none }
def TopFreeWrongFalsely : Prop := topFreeRow.holds Try.pinned (OpenSpec.ofChange topFreeWrong)

/-- 'deadheatlaw.OrderBefore': WHATEVER THE INPUT: true; the input reads as it did. -/
def orderBeforeSpec : ChangeSpec := { name := "orderBefore", fn := fun _ => fun
  | [d] => { results := [.lit (.bool true)], args := [d] }
  | _ => none }
def orderBeforeRow : OpenClaim := { program := "ytohbjnpafpcbkaa", sum := "f56b349c535905df8ba0dd5528cf9189b4adacc0bb9c24395edf427b51aed06c", func := "deadheat/deadheatlaw.OrderBefore", spec := "orderBefore", unfollowed := true, recurses := true, plainKeys := false, apart := false }
def OrderBeforeSaid : Prop := orderBeforeRow.holds Try.pinned (OpenSpec.ofChange orderBeforeSpec)

/-- ITS FALSE NEIGHBOUR: 'it returns false'. Refute it at one input. -/
def orderBeforeWrong : ChangeSpec := { name := "orderBefore", fn := fun _ => fun
  | [d] => { results := [.lit (.bool false)], args := [d] }
  | _ => none }
def OrderBeforeWrongFalsely : Prop := orderBeforeRow.holds Try.pinned (OpenSpec.ofChange orderBeforeWrong)

/-- 'deadheatlaw.SwapSwaps': WHATEVER THE INPUT: true; the input reads as it did. -/
def swapSwapsSpec : ChangeSpec := { name := "swapSwaps", fn := fun _ => fun
  | [d1, d2] => { results := [.lit (.bool true)], args := [d1, d2] }
  | _ => none }
def swapSwapsRow : OpenClaim := { program := "ytohbjnpafpcbkaa", sum := "f56b349c535905df8ba0dd5528cf9189b4adacc0bb9c24395edf427b51aed06c", func := "deadheat/deadheatlaw.SwapSwaps", spec := "swapSwaps", unfollowed := true, recurses := true, plainKeys := false, apart := false }
def SwapSwapsSaid : Prop := swapSwapsRow.holds Try.pinned (OpenSpec.ofChange swapSwapsSpec)

/-- ITS FALSE NEIGHBOUR: 'it returns false'. Refute it at one input. -/
def swapSwapsWrong : ChangeSpec := { name := "swapSwaps", fn := fun _ => fun
  | [d1, d2] => { results := [.lit (.bool false)], args := [d1, d2] }
  | _ => none }
def SwapSwapsWrongFalsely : Prop := swapSwapsRow.holds Try.pinned (OpenSpec.ofChange swapSwapsWrong)

/-- 'deadheatlaw.OrderLeads': WHATEVER THE INPUT: true; the input reads as it did. -/
def orderLeadsSpec : ChangeSpec := { name := "orderLeads", fn := fun _ => fun
  | [d1, d2, d3] => { results := [.lit (.bool true)], args := [d1, d2, d3] }
  | _ => none }
def orderLeadsRow : OpenClaim := { program := "ytohbjnpafpcbkaa", sum := "f56b349c535905df8ba0dd5528cf9189b4adacc0bb9c24395edf427b51aed06c", func := "deadheat/deadheatlaw.OrderLeads", spec := "orderLeads", unfollowed := true, recurses := true, plainKeys := false, apart := false }
def OrderLeadsSaid : Prop := orderLeadsRow.holds Try.pinned (OpenSpec.ofChange orderLeadsSpec)

/-- ITS FALSE NEIGHBOUR: 'it returns false'. Refute it at one input. -/
def orderLeadsWrong : ChangeSpec := { name := "orderLeads", fn := fun _ => fun
  | [d1, d2, d3] => { results := [.lit (.bool false)], args := [d1, d2, d3] }
  | _ => none }
def OrderLeadsWrongFalsely : Prop := orderLeadsRow.holds Try.pinned (OpenSpec.ofChange orderLeadsWrong)

/-- 'deadheatlaw.StampKnows': WHATEVER THE INPUT: true; the input reads as it did. -/
def stampKnowsSpec : ChangeSpec := { name := "stampKnows", fn := fun _ => fun
  | [d1, d2] => { results := [.lit (.bool true)], args := [d1, d2] }
  | _ => none }
def stampKnowsRow : OpenClaim := { program := "ytohbjnpafpcbkaa", sum := "f56b349c535905df8ba0dd5528cf9189b4adacc0bb9c24395edf427b51aed06c", func := "deadheat/deadheatlaw.StampKnows", spec := "stampKnows", unfollowed := true, recurses := true, plainKeys := false, apart := false }
def StampKnowsSaid : Prop := stampKnowsRow.holds Try.pinned (OpenSpec.ofChange stampKnowsSpec)

/-- ITS FALSE NEIGHBOUR: 'it returns false'. Refute it at one input. -/
def stampKnowsWrong : ChangeSpec := { name := "stampKnows", fn := fun _ => fun
  | [d1, d2] => { results := [.lit (.bool false)], args := [d1, d2] }
  | _ => none }
def StampKnowsWrongFalsely : Prop := stampKnowsRow.holds Try.pinned (OpenSpec.ofChange stampKnowsWrong)

/- THE SECOND FORM. 'bulk': how many values and letters a reading holds, each counted each time it is reached (what is shared counts as often as it is met; a slice's spare places count too). A statement '..UptoSaid' is the law's where the arguments, and the package variables that the reading takes, are together of bulk at most 1048576: NARROWER than '..Said'. Prove '..Said' where nothing that the law and all that it calls make is longer than what came in: it says more and counts as full. Else prove '..UptoSaid'. A law counts once. -/
mutual
def uptoBulk {H : Type} : DataW H → Nat
  | .lit (.string bytes) => bytes.length + 1
  | .lit _ => 1
  | .nil => 1
  | .ptr d => uptoBulk d + 1
  | .slice elems spare => uptoBulkAll elems + uptoBulkAll spare + 1
  | .agg parts => uptoBulkAll parts + 1
  | .iface _ d => uptoBulk d + 1
  | .map entries => uptoBulkEntries entries + 1
  | .held _ => 1
def uptoBulkAll {H : Type} : List (DataW H) → Nat
  | [] => 0
  | d :: r => uptoBulk d + uptoBulkAll r
def uptoBulkEntries {H : Type} : List (Lit × DataW H) → Nat
  | [] => 0
  | x :: r => uptoBulkEntry x + uptoBulkEntries r
def uptoBulkEntry {H : Type} : Lit × DataW H → Nat
  | (.string bytes, d) => bytes.length + uptoBulk d + 1
  | (_, d) => uptoBulk d + 1
 end
def uptoSmall : (H : Type) → List (DataW H) → Bool := fun _ ds => decide (uptoBulkAll ds ≤ 1048576)
def OpenSpec.upto (s : _root_.Go.ChangeSpec) : _root_.Go.OpenSpec := { _root_.Go.OpenSpec.ofChange s with cond := some uptoSmall }

/-- 'deadheatlaw.TraceHeld', WHERE WHAT IT READS IS OF BULK AT MOST 1048576: true; the input reads as it did. -/
def traceHeldUptoRow : OpenClaim := { program := "ytohbjnpafpcbkaa", sum := "f56b349c535905df8ba0dd5528cf9189b4adacc0bb9c24395edf427b51aed06c", func := "deadheat/deadheatlaw.TraceHeld", spec := "traceHeld", plainKeys := false, apart := false, narrowed := true }
def TraceHeldUptoSaid : Prop := traceHeldUptoRow.holds Try.pinned (OpenSpec.upto traceHeldSpec)

/-- 'deadheattop.TopSwaps', WHERE WHAT IT READS IS OF BULK AT MOST 1048576: true; the input reads as it did. -/
def topSwapsUptoRow : OpenClaim := { program := "ytohbjnpafpcbkaa", sum := "f56b349c535905df8ba0dd5528cf9189b4adacc0bb9c24395edf427b51aed06c", func := "deadheat/deadheattop.TopSwaps", spec := "topSwaps", unfollowed := true, recurses := true, plainKeys := false, apart := false, narrowed := true }
def TopSwapsUptoSaid : Prop := topSwapsUptoRow.holds Try.pinned (OpenSpec.upto topSwapsSpec)

/-- 'deadheatlaw.OrderDirect', WHERE WHAT IT READS IS OF BULK AT MOST 1048576: true; the input reads as it did. -/
def orderDirectUptoRow : OpenClaim := { program := "ytohbjnpafpcbkaa", sum := "f56b349c535905df8ba0dd5528cf9189b4adacc0bb9c24395edf427b51aed06c", func := "deadheat/deadheatlaw.OrderDirect", spec := "orderDirect", unfollowed := true, recurses := true, plainKeys := false, apart := false, narrowed := true }
def OrderDirectUptoSaid : Prop := orderDirectUptoRow.holds Try.pinned (OpenSpec.upto orderDirectSpec)

/-- 'deadheatlaw.RingGraphs', WHERE WHAT IT READS IS OF BULK AT MOST 1048576: true; the input reads as it did. -/
def ringGraphsUptoRow : OpenClaim := { program := "ytohbjnpafpcbkaa", sum := "f56b349c535905df8ba0dd5528cf9189b4adacc0bb9c24395edf427b51aed06c", func := "deadheat/deadheatlaw.RingGraphs", spec := "ringGraphs", unfollowed := true, recurses := true, plainKeys := false, apart := false, narrowed := true }
def RingGraphsUptoSaid : Prop := ringGraphsUptoRow.holds Try.pinned (OpenSpec.upto ringGraphsSpec)

/-- 'deadheatlaw.PackTells', WHERE WHAT IT READS IS OF BULK AT MOST 1048576: true; the input reads as it did. -/
def packTellsUptoRow : OpenClaim := { program := "ytohbjnpafpcbkaa", sum := "f56b349c535905df8ba0dd5528cf9189b4adacc0bb9c24395edf427b51aed06c", func := "deadheat/deadheatlaw.PackTells", spec := "packTells", plainKeys := false, apart := false, narrowed := true }
def PackTellsUptoSaid : Prop := packTellsUptoRow.holds Try.pinned (OpenSpec.upto packTellsSpec)

/-- 'deadheatlaw.PackReads', WHERE WHAT IT READS IS OF BULK AT MOST 1048576: true; the input reads as it did. -/
def packReadsUptoRow : OpenClaim := { program := "ytohbjnpafpcbkaa", sum := "f56b349c535905df8ba0dd5528cf9189b4adacc0bb9c24395edf427b51aed06c", func := "deadheat/deadheatlaw.PackReads", spec := "packReads", plainKeys := false, apart := false, narrowed := true }
def PackReadsUptoSaid : Prop := packReadsUptoRow.holds Try.pinned (OpenSpec.upto packReadsSpec)

/-- 'deadheatlaw.StampTells', WHERE WHAT IT READS IS OF BULK AT MOST 1048576: true; the input reads as it did. -/
def stampTellsUptoRow : OpenClaim := { program := "ytohbjnpafpcbkaa", sum := "f56b349c535905df8ba0dd5528cf9189b4adacc0bb9c24395edf427b51aed06c", func := "deadheat/deadheatlaw.StampTells", spec := "stampTells", unfollowed := true, recurses := true, plainKeys := false, apart := false, narrowed := true }
def StampTellsUptoSaid : Prop := stampTellsUptoRow.holds Try.pinned (OpenSpec.upto stampTellsSpec)

/-- 'deadheattop.TopFree', WHERE WHAT IT READS IS OF BULK AT MOST 1048576: true; the input reads as it did. -/
def topFreeUptoRow : OpenClaim := { program := "ytohbjnpafpcbkaa", sum := "f56b349c535905df8ba0dd5528cf9189b4adacc0bb9c24395edf427b51aed06c", func := "deadheat/deadheattop.TopFree", spec := "topFree", unfollowed := true, recurses := true, plainKeys := false, apart := false, narrowed := true }
def TopFreeUptoSaid : Prop := topFreeUptoRow.holds Try.pinned (OpenSpec.upto topFreeSpec)

/-- 'deadheatlaw.OrderBefore', WHERE WHAT IT READS IS OF BULK AT MOST 1048576: true; the input reads as it did. -/
def orderBeforeUptoRow : OpenClaim := { program := "ytohbjnpafpcbkaa", sum := "f56b349c535905df8ba0dd5528cf9189b4adacc0bb9c24395edf427b51aed06c", func := "deadheat/deadheatlaw.OrderBefore", spec := "orderBefore", unfollowed := true, recurses := true, plainKeys := false, apart := false, narrowed := true }
def OrderBeforeUptoSaid : Prop := orderBeforeUptoRow.holds Try.pinned (OpenSpec.upto orderBeforeSpec)

/-- 'deadheatlaw.SwapSwaps', WHERE WHAT IT READS IS OF BULK AT MOST 1048576: true; the input reads as it did. -/
def swapSwapsUptoRow : OpenClaim := { program := "ytohbjnpafpcbkaa", sum := "f56b349c535905df8ba0dd5528cf9189b4adacc0bb9c24395edf427b51aed06c", func := "deadheat/deadheatlaw.SwapSwaps", spec := "swapSwaps", unfollowed := true, recurses := true, plainKeys := false, apart := false, narrowed := true }
def SwapSwapsUptoSaid : Prop := swapSwapsUptoRow.holds Try.pinned (OpenSpec.upto swapSwapsSpec)

/-- 'deadheatlaw.OrderLeads', WHERE WHAT IT READS IS OF BULK AT MOST 1048576: true; the input reads as it did. -/
def orderLeadsUptoRow : OpenClaim := { program := "ytohbjnpafpcbkaa", sum := "f56b349c535905df8ba0dd5528cf9189b4adacc0bb9c24395edf427b51aed06c", func := "deadheat/deadheatlaw.OrderLeads", spec := "orderLeads", unfollowed := true, recurses := true, plainKeys := false, apart := false, narrowed := true }
def OrderLeadsUptoSaid : Prop := orderLeadsUptoRow.holds Try.pinned (OpenSpec.upto orderLeadsSpec)

/-- 'deadheatlaw.StampKnows', WHERE WHAT IT READS IS OF BULK AT MOST 1048576: true; the input reads as it did. -/
def stampKnowsUptoRow : OpenClaim := { program := "ytohbjnpafpcbkaa", sum := "f56b349c535905df8ba0dd5528cf9189b4adacc0bb9c24395edf427b51aed06c", func := "deadheat/deadheatlaw.StampKnows", spec := "stampKnows", unfollowed := true, recurses := true, plainKeys := false, apart := false, narrowed := true }
def StampKnowsUptoSaid : Prop := stampKnowsUptoRow.holds Try.pinned (OpenSpec.upto stampKnowsSpec)

end Rows
end Go.Proofs.Ytohbjnpafpcbkaa
