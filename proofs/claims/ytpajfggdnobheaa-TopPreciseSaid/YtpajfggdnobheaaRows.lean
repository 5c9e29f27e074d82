/-
  No cell of these rows narrows 'for every input' (looked for: loops, veiled, ifaces, maps, wideKeys, modest, calm, conditions, laid).
  DERIVED. THE GIVEN ROWS OF THIS SEAT. 3 by the template 'for every input the law returns true; each argument reads behind the call as it read before'; 0 by the template 'total and deterministic' (their statements: YtpajfggdnobheaaTotals.lean).
  GIVEN WITH THE SEED: the statements are not yours to turn. If you find one false, say at which input.
  Laid BY PROGRAM, IN A SANDBOX (cutbox-rows.mjs): the forced cells as the released guide's own fill.sh prints them over the translation 65d5bbc5ccba53d2… (all of the seat's roots in one cut). By AI agents, Wed Nov 11 2026. No macro, syntax, notation, axiom, sorry.
-/
import Derived.Test.YtpajfggdnobheaaChecked
import GoSem.Claim
import GoSem.ClaimJoined
import GoSem.ClaimMapViews
import Derived.JoinedTies
import Derived.KernelRfl
namespace Go.Proofs.Ytpajfggdnobheaa
/- THE CELL 'sum', in the pinned program and in every row, IS THE sha256 OF THE DUMP (.gsa) THAT YtpajfggdnobheaaProg.lean LOADS. Nothing in Lean hashes anything: it is a label: what it is worth is what the hold of that sum in a sandbox is worth. -/
noncomputable def Try.pinned : Pinned := { name := "ytpajfggdnobheaa", sum := "65d5bbc5ccba53d2e3b11dc38e010e9c40a2223fbdc98ff0e9d343609fe5a97c", checked := Try.checked }
namespace Rows
def none {H : Type} : Left H := { results := [], args := [] }

/-- 'deadheatlaw.StripeRuns': WHATEVER THE INPUT: true; the input reads as it did. -/
def stripeRunsSpec : ChangeSpec := { name := "stripeRuns", fn := fun _ => fun
  | [d1, d2] => { results := [.lit (.bool true)], args := [d1, d2] }
  | _ => none }
def stripeRunsRow : OpenClaim := { program := "ytpajfggdnobheaa", sum := "65d5bbc5ccba53d2e3b11dc38e010e9c40a2223fbdc98ff0e9d343609fe5a97c", func := "deadheat/deadheatlaw.StripeRuns", spec := "stripeRuns", unfollowed := true, recurses := true, plainKeys := false, leaving := true, apart := false }
def StripeRunsSaid : Prop := stripeRunsRow.holds Try.pinned (OpenSpec.ofChange stripeRunsSpec)

/-- ITS FALSE NEIGHBOUR: 'it returns false'. Refute it at one input. -/
def stripeRunsWrong : ChangeSpec := { name := "stripeRuns", fn := fun _ => fun
  | [d1, d2] => { results := [.lit (.bool false)], args := [d1, d2] }
  | _ => none }
def StripeRunsWrongFalsely : Prop := stripeRunsRow.holds Try.pinned (OpenSpec.ofChange stripeRunsWrong)

/-- 'deadheatlaw.StripeAll': WHATEVER THE INPUT: true; the input reads as it did. -/
def stripeAllSpec : ChangeSpec := { name := "stripeAll", fn := fun _ => fun
  | [d1, d2] => { results := [.lit (.bool true)], args := [d1, d2] }
  | _ => none }
def stripeAllRow : OpenClaim := { program := "ytpajfggdnobheaa", sum := "65d5bbc5ccba53d2e3b11dc38e010e9c40a2223fbdc98ff0e9d343609fe5a97c", func := "deadheat/deadheatlaw.StripeAll", spec := "stripeAll", inPlace := ["sync/atomic.AddInt64", "(*sync.WaitGroup).Go", "(*sync.WaitGroup).Add", "internal/race.ReleaseMerge", "internal/race.Disable", "internal/race.Enable", "internal/synctest.IsInBubble", "internal/synctest.Associate[sync.WaitGroup]", "sync.fatal", "sync/atomic.OrUint64", "sync/atomic.AddUint64", "internal/race.Read", "sync/atomic.LoadUint64", "sync/atomic.StoreUint64", "internal/synctest.Disassociate[sync.WaitGroup]", "sync.runtime_Semrelease", "(*sync.WaitGroup).Go$1", "(*sync.WaitGroup).Go$1$1", "(*sync.WaitGroup).Done", "(*sync.WaitGroup).Wait", "internal/race.Acquire", "internal/synctest.IsAssociated[sync.WaitGroup]", "sync/atomic.CompareAndSwapUint64", "internal/race.Write", "sync.runtime_SemacquireWaitGroup"], unfollowed := true, recurses := true, plainKeys := false, leaving := true, apart := false }
def StripeAllSaid : Prop := stripeAllRow.holds Try.pinned (OpenSpec.ofChange stripeAllSpec)

/-- ITS FALSE NEIGHBOUR: 'it returns false'. Refute it at one input. -/
def stripeAllWrong : ChangeSpec := { name := "stripeAll", fn := fun _ => fun
  | [d1, d2] => { results := [.lit (.bool false)], args := [d1, d2] }
  | _ => none }
def StripeAllWrongFalsely : Prop := stripeAllRow.holds Try.pinned (OpenSpec.ofChange stripeAllWrong)

/-- 'deadheattop.TopPrecise': WHATEVER THE INPUT: true; the input reads as it did. -/
def topPreciseSpec : ChangeSpec := { name := "topPrecise", fn := fun _ => fun
  | [d1, d2] => { results := [.lit (.bool true)], args := [d1, d2] }
  | _ => none }
def topPreciseRow : OpenClaim := { program := "ytpajfggdnobheaa", sum := "65d5bbc5ccba53d2e3b11dc38e010e9c40a2223fbdc98ff0e9d343609fe5a97c", func := "deadheat/deadheattop.TopPrecise", spec := "topPrecise", unfollowed := true, recurses := true, plainKeys := false, leaving := true, apart := false }
def TopPreciseSaid : Prop := topPreciseRow.holds Try.pinned (OpenSpec.ofChange topPreciseSpec)

/-- ITS FALSE NEIGHBOUR: 'it returns false'. Refute it at one input. -/
def topPreciseWrong : ChangeSpec := { name := "topPrecise", fn := fun _ => fun
  | [d1, d2] => { results := [.lit (.bool false)], args := [d1, d2] }
  | _ => none }
def TopPreciseWrongFalsely : Prop := topPreciseRow.holds Try.pinned (OpenSpec.ofChange topPreciseWrong)

/- THE SECOND FORM. 'bulk': how many values and letters a reading holds, each counted each time it is reached (what is shared counts as often as it is met; a slice's spare places count too). A statement '..UptoSaid' is the law's where the arguments, and the package variables that the reading takes, are together of bulk at most 1048576: NARROWER than '..Said'. Prove '..Said' where nothing that the law and all that it calls make is longer than what came in: it says more and counts as full. Else prove '..UptoSaid'. A law counts once. -/
mutual
def uptoBulk {H : Type} : DataW H → Nat
  | .lit (.string bytes) => bytes.length + 1
  | .lit _ => 1
  | .nil => 1
  | .ptr d => uptoBulk d + 1
  | .slice elems spare => uptoBulkAll elems + uptoBulkAll spare + 1
  | .agg parts => uptoBulkAll parts + 1
  | .iface _ d => uptoBulk d + 1
  | .map entries => uptoBulkEntries entries + 1
  | .held _ => 1
def uptoBulkAll {H : Type} : List (DataW H) → Nat
  | [] => 0
  | d :: r => uptoBulk d + uptoBulkAll r
def uptoBulkEntries {H : Type} : List (Lit × DataW H) → Nat
  | [] => 0
  | x :: r => uptoBulkEntry x + uptoBulkEntries r
def uptoBulkEntry {H : Type} : Lit × DataW H → Nat
  | (.string bytes, d) => bytes.length + uptoBulk d + 1
  | (_, d) => uptoBulk d + 1
 end
def uptoSmall : (H : Type) → List (DataW H) → Bool := fun _ ds => decide (uptoBulkAll ds ≤ 1048576)
def OpenSpec.upto (s : _root_.Go.ChangeSpec) : _root_.Go.OpenSpec := { _root_.Go.OpenSpec.ofChange s with cond := some uptoSmall }

/-- 'deadheatlaw.StripeRuns', WHERE WHAT IT READS IS OF BULK AT MOST 1048576: true; the input reads as it did. -/
def stripeRunsUptoRow : OpenClaim := { program := "ytpajfggdnobheaa", sum := "65d5bbc5ccba53d2e3b11dc38e010e9c40a2223fbdc98ff0e9d343609fe5a97c", func := "deadheat/deadheatlaw.StripeRuns", spec := "stripeRuns", unfollowed := true, recurses := true, plainKeys := false, leaving := true, apart := false, narrowed := true }
def StripeRunsUptoSaid : Prop := stripeRunsUptoRow.holds Try.pinned (OpenSpec.upto stripeRunsSpec)

/-- 'deadheatlaw.StripeAll', WHERE WHAT IT READS IS OF BULK AT MOST 1048576: true; the input reads as it did. -/
def stripeAllUptoRow : OpenClaim := { program := "ytpajfggdnobheaa", sum := "65d5bbc5ccba53d2e3b11dc38e010e9c40a2223fbdc98ff0e9d343609fe5a97c", func := "deadheat/deadheatlaw.StripeAll", spec := "stripeAll", inPlace := ["sync/atomic.AddInt64", "(*sync.WaitGroup).Go", "(*sync.WaitGroup).Add", "internal/race.ReleaseMerge", "internal/race.Disable", "internal/race.Enable", "internal/synctest.IsInBubble", "internal/synctest.Associate[sync.WaitGroup]", "sync.fatal", "sync/atomic.OrUint64", "sync/atomic.AddUint64", "internal/race.Read", "sync/atomic.LoadUint64", "sync/atomic.StoreUint64", "internal/synctest.Disassociate[sync.WaitGroup]", "sync.runtime_Semrelease", "(*sync.WaitGroup).Go$1", "(*sync.WaitGroup).Go$1$1", "(*sync.WaitGroup).Done", "(*sync.WaitGroup).Wait", "internal/race.Acquire", "internal/synctest.IsAssociated[sync.WaitGroup]", "sync/atomic.CompareAndSwapUint64", "internal/race.Write", "sync.runtime_SemacquireWaitGroup"], unfollowed := true, recurses := true, plainKeys := false, leaving := true, apart := false, narrowed := true }
def StripeAllUptoSaid : Prop := stripeAllUptoRow.holds Try.pinned (OpenSpec.upto stripeAllSpec)

/-- 'deadheattop.TopPrecise', WHERE WHAT IT READS IS OF BULK AT MOST 1048576: true; the input reads as it did. -/
def topPreciseUptoRow : OpenClaim := { program := "ytpajfggdnobheaa", sum := "65d5bbc5ccba53d2e3b11dc38e010e9c40a2223fbdc98ff0e9d343609fe5a97c", func := "deadheat/deadheattop.TopPrecise", spec := "topPrecise", unfollowed := true, recurses := true, plainKeys := false, leaving := true, apart := false, narrowed := true }
def TopPreciseUptoSaid : Prop := topPreciseUptoRow.holds Try.pinned (OpenSpec.upto topPreciseSpec)

end Rows
end Go.Proofs.Ytpajfggdnobheaa
