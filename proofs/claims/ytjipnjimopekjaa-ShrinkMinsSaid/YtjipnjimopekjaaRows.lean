/-
  NARROWER THAN 'FOR EVERY INPUT', by the rows' own cells (each row's printed sentence says how): BoardTells: calm.
  DERIVED. THE GIVEN ROWS OF THIS SEAT. 9 by the template 'for every input the law returns true; each argument reads behind the call as it read before'; 0 by the template 'total and deterministic' (their statements: YtjipnjimopekjaaTotals.lean).
  GIVEN WITH THE SEED: the statements are not yours to turn. If you find one false, say at which input.
  Laid BY PROGRAM, IN A SANDBOX (cutbox-rows.mjs): the forced cells as the released guide's own fill.sh prints them over the translation b9ad56361eabb1aa… (all of the seat's roots in one cut). By AI agents, Wed Nov 11 2026. No macro, syntax, notation, axiom, sorry.
-/
import Derived.Test.YtjipnjimopekjaaChecked
import GoSem.Claim
import GoSem.ClaimJoined
import GoSem.ClaimMapViews
import Derived.JoinedTies
import Derived.KernelRfl
namespace Go.Proofs.Ytjipnjimopekjaa
/- THE CELL 'sum', in the pinned program and in every row, IS THE sha256 OF THE DUMP (.gsa) THAT YtjipnjimopekjaaProg.lean LOADS. Nothing in Lean hashes anything: it is a label: what it is worth is what the hold of that sum in a sandbox is worth. -/
noncomputable def Try.pinned : Pinned := { name := "ytjipnjimopekjaa", sum := "b9ad56361eabb1aa22a34a566b78035dd40d3898173c4b85460d4e60077483e1", checked := Try.checked }
namespace Rows
def none {H : Type} : Left H := { results := [], args := [] }

/-- 'deadheatlaw.BoardTells': WHATEVER THE INPUT: true; the input reads as it did. -/
def boardTellsSpec : ChangeSpec := { name := "boardTells", fn := fun _ => fun
  | [d] => { results := [.lit (.bool true)], args := [d] }
  | _ => none }
def boardTellsRow : OpenClaim := { program := "ytjipnjimopekjaa", sum := "b9ad56361eabb1aa22a34a566b78035dd40d3898173c4b85460d4e60077483e1", func := "deadheat/deadheatlaw.BoardTells", spec := "boardTells", inPlace := ["(*sync.RWMutex).Lock", "internal/race.Read", "internal/race.Disable", "(*internal/sync.Mutex).Lock", "sync/atomic.CompareAndSwapInt32", "internal/race.Enable", "internal/race.Acquire", "(*internal/sync.Mutex).lockSlow", "internal/sync.runtime_canSpin", "internal/sync.runtime_doSpin", "internal/sync.throw", "internal/sync.runtime_nanotime", "internal/sync.runtime_SemacquireMutex", "sync/atomic.AddInt32", "sync.runtime_SemacquireRWMutex", "(*sync.RWMutex).Unlock", "internal/race.Release", "internal/race.ReleaseMerge", "sync.fatal", "sync.runtime_Semrelease", "(*internal/sync.Mutex).Unlock", "(*internal/sync.Mutex).unlockSlow", "internal/sync.fatal", "internal/sync.runtime_Semrelease", "(*sync.RWMutex).RLock", "sync.runtime_SemacquireRWMutexR", "(*sync.RWMutex).RUnlock", "(*sync.RWMutex).rUnlockSlow"], unfollowed := true, recurses := true, plainKeys := false, leaving := true, apart := false, calm := true, outside := [.timePasses] }
def BoardTellsSaid : Prop := boardTellsRow.holds Try.pinned (OpenSpec.ofChange boardTellsSpec)

/-- ITS FALSE NEIGHBOUR: 'it returns false'. Refute it at one input. -/
def boardTellsWrong : ChangeSpec := { name := "boardTells", fn := fun _ => fun
  | [d] => { results := [.lit (.bool false)], args := [d] }
  | _ => none }
def BoardTellsWrongFalsely : Prop := boardTellsRow.holds Try.pinned (OpenSpec.ofChange boardTellsWrong)

/-- 'deadheatlaw.StripeAll': WHATEVER THE INPUT: true; the input reads as it did. -/
def stripeAllSpec : ChangeSpec := { name := "stripeAll", fn := fun _ => fun
  | [d1, d2] => { results := [.lit (.bool true)], args := [d1, d2] }
  | _ => none }
def stripeAllRow : OpenClaim := { program := "ytjipnjimopekjaa", sum := "b9ad56361eabb1aa22a34a566b78035dd40d3898173c4b85460d4e60077483e1", func := "deadheat/deadheatlaw.StripeAll", spec := "stripeAll", inPlace := ["sync/atomic.AddInt64", "(*sync.WaitGroup).Go", "(*sync.WaitGroup).Add", "internal/race.ReleaseMerge", "internal/race.Disable", "internal/race.Enable", "internal/synctest.IsInBubble", "internal/synctest.Associate[sync.WaitGroup]", "sync.fatal", "sync/atomic.OrUint64", "sync/atomic.AddUint64", "internal/race.Read", "sync/atomic.LoadUint64", "sync/atomic.StoreUint64", "internal/synctest.Disassociate[sync.WaitGroup]", "sync.runtime_Semrelease", "(*sync.WaitGroup).Go$1", "(*sync.WaitGroup).Go$1$1", "(*sync.WaitGroup).Done", "(*sync.WaitGroup).Wait", "internal/race.Acquire", "internal/synctest.IsAssociated[sync.WaitGroup]", "sync/atomic.CompareAndSwapUint64", "internal/race.Write", "sync.runtime_SemacquireWaitGroup"], unfollowed := true, recurses := true, plainKeys := false, leaving := true, apart := false }
def StripeAllSaid : Prop := stripeAllRow.holds Try.pinned (OpenSpec.ofChange stripeAllSpec)

/-- ITS FALSE NEIGHBOUR: 'it returns false'. Refute it at one input. -/
def stripeAllWrong : ChangeSpec := { name := "stripeAll", fn := fun _ => fun
  | [d1, d2] => { results := [.lit (.bool false)], args := [d1, d2] }
  | _ => none }
def StripeAllWrongFalsely : Prop := stripeAllRow.holds Try.pinned (OpenSpec.ofChange stripeAllWrong)

/-- 'deadheatlaw.RaceSeconds': WHATEVER THE INPUT: true; the input reads as it did. -/
def raceSecondsSpec : ChangeSpec := { name := "raceSeconds", fn := fun _ => fun
  | [d] => { results := [.lit (.bool true)], args := [d] }
  | _ => none }
def raceSecondsRow : OpenClaim := { program := "ytjipnjimopekjaa", sum := "b9ad56361eabb1aa22a34a566b78035dd40d3898173c4b85460d4e60077483e1", func := "deadheat/deadheatlaw.RaceSeconds", spec := "raceSeconds", unfollowed := true, recurses := true, plainKeys := false, leaving := true, apart := false }
def RaceSecondsSaid : Prop := raceSecondsRow.holds Try.pinned (OpenSpec.ofChange raceSecondsSpec)

/-- ITS FALSE NEIGHBOUR: 'it returns false'. Refute it at one input. -/
def raceSecondsWrong : ChangeSpec := { name := "raceSeconds", fn := fun _ => fun
  | [d] => { results := [.lit (.bool false)], args := [d] }
  | _ => none }
def RaceSecondsWrongFalsely : Prop := raceSecondsRow.holds Try.pinned (OpenSpec.ofChange raceSecondsWrong)

/-- 'deadheatlaw.RaceVars': WHATEVER THE INPUT: true; the input reads as it did. -/
def raceVarsSpec : ChangeSpec := { name := "raceVars", fn := fun _ => fun
  | [d1, d2] => { results := [.lit (.bool true)], args := [d1, d2] }
  | _ => none }
def raceVarsRow : OpenClaim := { program := "ytjipnjimopekjaa", sum := "b9ad56361eabb1aa22a34a566b78035dd40d3898173c4b85460d4e60077483e1", func := "deadheat/deadheatlaw.RaceVars", spec := "raceVars", unfollowed := true, recurses := true, plainKeys := false, leaving := true, apart := false }
def RaceVarsSaid : Prop := raceVarsRow.holds Try.pinned (OpenSpec.ofChange raceVarsSpec)

/-- ITS FALSE NEIGHBOUR: 'it returns false'. Refute it at one input. -/
def raceVarsWrong : ChangeSpec := { name := "raceVars", fn := fun _ => fun
  | [d1, d2] => { results := [.lit (.bool false)], args := [d1, d2] }
  | _ => none }
def RaceVarsWrongFalsely : Prop := raceVarsRow.holds Try.pinned (OpenSpec.ofChange raceVarsWrong)

/-- 'deadheatlaw.StripeRuns': WHATEVER THE INPUT: true; the input reads as it did. -/
def stripeRunsSpec : ChangeSpec := { name := "stripeRuns", fn := fun _ => fun
  | [d1, d2] => { results := [.lit (.bool true)], args := [d1, d2] }
  | _ => none }
def stripeRunsRow : OpenClaim := { program := "ytjipnjimopekjaa", sum := "b9ad56361eabb1aa22a34a566b78035dd40d3898173c4b85460d4e60077483e1", func := "deadheat/deadheatlaw.StripeRuns", spec := "stripeRuns", unfollowed := true, recurses := true, plainKeys := false, leaving := true, apart := false }
def StripeRunsSaid : Prop := stripeRunsRow.holds Try.pinned (OpenSpec.ofChange stripeRunsSpec)

/-- ITS FALSE NEIGHBOUR: 'it returns false'. Refute it at one input. -/
def stripeRunsWrong : ChangeSpec := { name := "stripeRuns", fn := fun _ => fun
  | [d1, d2] => { results := [.lit (.bool false)], args := [d1, d2] }
  | _ => none }
def StripeRunsWrongFalsely : Prop := stripeRunsRow.holds Try.pinned (OpenSpec.ofChange stripeRunsWrong)

/-- 'deadheatlaw.EveryEnds': WHATEVER THE INPUT: true; the input reads as it did. -/
def everyEndsSpec : ChangeSpec := { name := "everyEnds", fn := fun _ => fun
  | [d] => { results := [.lit (.bool true)], args := [d] }
  | _ => none }
def everyEndsRow : OpenClaim := { program := "ytjipnjimopekjaa", sum := "b9ad56361eabb1aa22a34a566b78035dd40d3898173c4b85460d4e60077483e1", func := "deadheat/deadheatlaw.EveryEnds", spec := "everyEnds", unfollowed := true, recurses := true, plainKeys := false, leaving := true, apart := false }
def EveryEndsSaid : Prop := everyEndsRow.holds Try.pinned (OpenSpec.ofChange everyEndsSpec)

/-- ITS FALSE NEIGHBOUR: 'it returns false'. Refute it at one input. -/
def everyEndsWrong : ChangeSpec := { name := "everyEnds", fn := fun _ => fun
  | [d] => { results := [.lit (.bool false)], args := [d] }
  | _ => none }
def EveryEndsWrongFalsely : Prop := everyEndsRow.holds Try.pinned (OpenSpec.ofChange everyEndsWrong)

/-- 'deadheatlaw.ShrinkMins': WHATEVER THE INPUT: true; the input reads as it did. -/
def shrinkMinsSpec : ChangeSpec := { name := "shrinkMins", fn := fun _ => fun
  | [d] => { results := [.lit (.bool true)], args := [d] }
  | _ => none }
def shrinkMinsRow : OpenClaim := { program := "ytjipnjimopekjaa", sum := "b9ad56361eabb1aa22a34a566b78035dd40d3898173c4b85460d4e60077483e1", func := "deadheat/deadheatlaw.ShrinkMins", spec := "shrinkMins", unfollowed := true, recurses := true, plainKeys := false, leaving := true, apart := false }
def ShrinkMinsSaid : Prop := shrinkMinsRow.holds Try.pinned (OpenSpec.ofChange shrinkMinsSpec)

/-- ITS FALSE NEIGHBOUR: 'it returns false'. Refute it at one input. -/
def shrinkMinsWrong : ChangeSpec := { name := "shrinkMins", fn := fun _ => fun
  | [d] => { results := [.lit (.bool false)], args := [d] }
  | _ => none }
def ShrinkMinsWrongFalsely : Prop := shrinkMinsRow.holds Try.pinned (OpenSpec.ofChange shrinkMinsWrong)

/-- 'deadheatlaw.EveryWays': WHATEVER THE INPUT: true; the input reads as it did. -/
def everyWaysSpec : ChangeSpec := { name := "everyWays", fn := fun _ => fun
  | [d1, d2] => { results := [.lit (.bool true)], args := [d1, d2] }
  | _ => none }
def everyWaysRow : OpenClaim := { program := "ytjipnjimopekjaa", sum := "b9ad56361eabb1aa22a34a566b78035dd40d3898173c4b85460d4e60077483e1", func := "deadheat/deadheatlaw.EveryWays", spec := "everyWays", unfollowed := true, recurses := true, plainKeys := false, leaving := true, apart := false }
def EveryWaysSaid : Prop := everyWaysRow.holds Try.pinned (OpenSpec.ofChange everyWaysSpec)

/-- ITS FALSE NEIGHBOUR: 'it returns false'. Refute it at one input. -/
def everyWaysWrong : ChangeSpec := { name := "everyWays", fn := fun _ => fun
  | [d1, d2] => { results := [.lit (.bool false)], args := [d1, d2] }
  | _ => none }
def EveryWaysWrongFalsely : Prop := everyWaysRow.holds Try.pinned (OpenSpec.ofChange everyWaysWrong)

/-- 'deadheatlaw.ShrinkWithout': WHATEVER THE INPUT: true; the input reads as it did. -/
def shrinkWithoutSpec : ChangeSpec := { name := "shrinkWithout", fn := fun _ => fun
  | [d1, d2] => { results := [.lit (.bool true)], args := [d1, d2] }
  | _ => none }
def shrinkWithoutRow : OpenClaim := { program := "ytjipnjimopekjaa", sum := "b9ad56361eabb1aa22a34a566b78035dd40d3898173c4b85460d4e60077483e1", func := "deadheat/deadheatlaw.ShrinkWithout", spec := "shrinkWithout", unfollowed := true, recurses := true, plainKeys := false, leaving := true, apart := false }
def ShrinkWithoutSaid : Prop := shrinkWithoutRow.holds Try.pinned (OpenSpec.ofChange shrinkWithoutSpec)

/-- ITS FALSE NEIGHBOUR: 'it returns false'. Refute it at one input. -/
def shrinkWithoutWrong : ChangeSpec := { name := "shrinkWithout", fn := fun _ => fun
  | [d1, d2] => { results := [.lit (.bool false)], args := [d1, d2] }
  | _ => none }
def ShrinkWithoutWrongFalsely : Prop := shrinkWithoutRow.holds Try.pinned (OpenSpec.ofChange shrinkWithoutWrong)

/- THE SECOND FORM. 'bulk': how many values and letters a reading holds, each counted each time it is reached (what is shared counts as often as it is met; a slice's spare places count too). A statement '..UptoSaid' is the law's where the arguments, and the package variables that the reading takes, are together of bulk at most 1048576: NARROWER than '..Said'. Prove '..Said' where nothing that the law and all that it calls make is longer than what came in: it says more and counts as full. Else prove '..UptoSaid'. A law counts once. -/
mutual
def uptoBulk {H : Type} : DataW H → Nat
  | .lit (.string bytes) => bytes.length + 1
  | .lit _ => 1
  | .nil => 1
  | .ptr d => uptoBulk d + 1
  | .slice elems spare => uptoBulkAll elems + uptoBulkAll spare + 1
  | .agg parts => uptoBulkAll parts + 1
  | .iface _ d => uptoBulk d + 1
  | .map entries => uptoBulkEntries entries + 1
  | .held _ => 1
def uptoBulkAll {H : Type} : List (DataW H) → Nat
  | [] => 0
  | d :: r => uptoBulk d + uptoBulkAll r
def uptoBulkEntries {H : Type} : List (Lit × DataW H) → Nat
  | [] => 0
  | x :: r => uptoBulkEntry x + uptoBulkEntries r
def uptoBulkEntry {H : Type} : Lit × DataW H → Nat
  | (.string bytes, d) => bytes.length + uptoBulk d + 1
  | (_, d) => uptoBulk d + 1
 end
def uptoSmall : (H : Type) → List (DataW H) → Bool := fun _ ds => decide (uptoBulkAll ds ≤ 1048576)
def OpenSpec.upto (s : _root_.Go.ChangeSpec) : _root_.Go.OpenSpec := { _root_.Go.OpenSpec.ofChange s with cond := some uptoSmall }

/-- 'deadheatlaw.BoardTells', WHERE WHAT IT READS IS OF BULK AT MOST 1048576: true; the input reads as it did. -/
def boardTellsUptoRow : OpenClaim := { program := "ytjipnjimopekjaa", sum := "b9ad56361eabb1aa22a34a566b78035dd40d3898173c4b85460d4e60077483e1", func := "deadheat/deadheatlaw.BoardTells", spec := "boardTells", inPlace := ["(*sync.RWMutex).Lock", "internal/race.Read", "internal/race.Disable", "(*internal/sync.Mutex).Lock", "sync/atomic.CompareAndSwapInt32", "internal/race.Enable", "internal/race.Acquire", "(*internal/sync.Mutex).lockSlow", "internal/sync.runtime_canSpin", "internal/sync.runtime_doSpin", "internal/sync.throw", "internal/sync.runtime_nanotime", "internal/sync.runtime_SemacquireMutex", "sync/atomic.AddInt32", "sync.runtime_SemacquireRWMutex", "(*sync.RWMutex).Unlock", "internal/race.Release", "internal/race.ReleaseMerge", "sync.fatal", "sync.runtime_Semrelease", "(*internal/sync.Mutex).Unlock", "(*internal/sync.Mutex).unlockSlow", "internal/sync.fatal", "internal/sync.runtime_Semrelease", "(*sync.RWMutex).RLock", "sync.runtime_SemacquireRWMutexR", "(*sync.RWMutex).RUnlock", "(*sync.RWMutex).rUnlockSlow"], unfollowed := true, recurses := true, plainKeys := false, leaving := true, apart := false, calm := true, outside := [.timePasses], narrowed := true }
def BoardTellsUptoSaid : Prop := boardTellsUptoRow.holds Try.pinned (OpenSpec.upto boardTellsSpec)

/-- 'deadheatlaw.StripeAll', WHERE WHAT IT READS IS OF BULK AT MOST 1048576: true; the input reads as it did. -/
def stripeAllUptoRow : OpenClaim := { program := "ytjipnjimopekjaa", sum := "b9ad56361eabb1aa22a34a566b78035dd40d3898173c4b85460d4e60077483e1", func := "deadheat/deadheatlaw.StripeAll", spec := "stripeAll", inPlace := ["sync/atomic.AddInt64", "(*sync.WaitGroup).Go", "(*sync.WaitGroup).Add", "internal/race.ReleaseMerge", "internal/race.Disable", "internal/race.Enable", "internal/synctest.IsInBubble", "internal/synctest.Associate[sync.WaitGroup]", "sync.fatal", "sync/atomic.OrUint64", "sync/atomic.AddUint64", "internal/race.Read", "sync/atomic.LoadUint64", "sync/atomic.StoreUint64", "internal/synctest.Disassociate[sync.WaitGroup]", "sync.runtime_Semrelease", "(*sync.WaitGroup).Go$1", "(*sync.WaitGroup).Go$1$1", "(*sync.WaitGroup).Done", "(*sync.WaitGroup).Wait", "internal/race.Acquire", "internal/synctest.IsAssociated[sync.WaitGroup]", "sync/atomic.CompareAndSwapUint64", "internal/race.Write", "sync.runtime_SemacquireWaitGroup"], unfollowed := true, recurses := true, plainKeys := false, leaving := true, apart := false, narrowed := true }
def StripeAllUptoSaid : Prop := stripeAllUptoRow.holds Try.pinned (OpenSpec.upto stripeAllSpec)

/-- 'deadheatlaw.RaceSeconds', WHERE WHAT IT READS IS OF BULK AT MOST 1048576: true; the input reads as it did. -/
def raceSecondsUptoRow : OpenClaim := { program := "ytjipnjimopekjaa", sum := "b9ad56361eabb1aa22a34a566b78035dd40d3898173c4b85460d4e60077483e1", func := "deadheat/deadheatlaw.RaceSeconds", spec := "raceSeconds", unfollowed := true, recurses := true, plainKeys := false, leaving := true, apart := false, narrowed := true }
def RaceSecondsUptoSaid : Prop := raceSecondsUptoRow.holds Try.pinned (OpenSpec.upto raceSecondsSpec)

/-- 'deadheatlaw.RaceVars', WHERE WHAT IT READS IS OF BULK AT MOST 1048576: true; the input reads as it did. -/
def raceVarsUptoRow : OpenClaim := { program := "ytjipnjimopekjaa", sum := "b9ad56361eabb1aa22a34a566b78035dd40d3898173c4b85460d4e60077483e1", func := "deadheat/deadheatlaw.RaceVars", spec := "raceVars", unfollowed := true, recurses := true, plainKeys := false, leaving := true, apart := false, narrowed := true }
def RaceVarsUptoSaid : Prop := raceVarsUptoRow.holds Try.pinned (OpenSpec.upto raceVarsSpec)

/-- 'deadheatlaw.StripeRuns', WHERE WHAT IT READS IS OF BULK AT MOST 1048576: true; the input reads as it did. -/
def stripeRunsUptoRow : OpenClaim := { program := "ytjipnjimopekjaa", sum := "b9ad56361eabb1aa22a34a566b78035dd40d3898173c4b85460d4e60077483e1", func := "deadheat/deadheatlaw.StripeRuns", spec := "stripeRuns", unfollowed := true, recurses := true, plainKeys := false, leaving := true, apart := false, narrowed := true }
def StripeRunsUptoSaid : Prop := stripeRunsUptoRow.holds Try.pinned (OpenSpec.upto stripeRunsSpec)

/-- 'deadheatlaw.EveryEnds', WHERE WHAT IT READS IS OF BULK AT MOST 1048576: true; the input reads as it did. -/
def everyEndsUptoRow : OpenClaim := { program := "ytjipnjimopekjaa", sum := "b9ad56361eabb1aa22a34a566b78035dd40d3898173c4b85460d4e60077483e1", func := "deadheat/deadheatlaw.EveryEnds", spec := "everyEnds", unfollowed := true, recurses := true, plainKeys := false, leaving := true, apart := false, narrowed := true }
def EveryEndsUptoSaid : Prop := everyEndsUptoRow.holds Try.pinned (OpenSpec.upto everyEndsSpec)

/-- 'deadheatlaw.ShrinkMins', WHERE WHAT IT READS IS OF BULK AT MOST 1048576: true; the input reads as it did. -/
def shrinkMinsUptoRow : OpenClaim := { program := "ytjipnjimopekjaa", sum := "b9ad56361eabb1aa22a34a566b78035dd40d3898173c4b85460d4e60077483e1", func := "deadheat/deadheatlaw.ShrinkMins", spec := "shrinkMins", unfollowed := true, recurses := true, plainKeys := false, leaving := true, apart := false, narrowed := true }
def ShrinkMinsUptoSaid : Prop := shrinkMinsUptoRow.holds Try.pinned (OpenSpec.upto shrinkMinsSpec)

/-- 'deadheatlaw.EveryWays', WHERE WHAT IT READS IS OF BULK AT MOST 1048576: true; the input reads as it did. -/
def everyWaysUptoRow : OpenClaim := { program := "ytjipnjimopekjaa", sum := "b9ad56361eabb1aa22a34a566b78035dd40d3898173c4b85460d4e60077483e1", func := "deadheat/deadheatlaw.EveryWays", spec := "everyWays", unfollowed := true, recurses := true, plainKeys := false, leaving := true, apart := false, narrowed := true }
def EveryWaysUptoSaid : Prop := everyWaysUptoRow.holds Try.pinned (OpenSpec.upto everyWaysSpec)

/-- 'deadheatlaw.ShrinkWithout', WHERE WHAT IT READS IS OF BULK AT MOST 1048576: true; the input reads as it did. -/
def shrinkWithoutUptoRow : OpenClaim := { program := "ytjipnjimopekjaa", sum := "b9ad56361eabb1aa22a34a566b78035dd40d3898173c4b85460d4e60077483e1", func := "deadheat/deadheatlaw.ShrinkWithout", spec := "shrinkWithout", unfollowed := true, recurses := true, plainKeys := false, leaving := true, apart := false, narrowed := true }
def ShrinkWithoutUptoSaid : Prop := shrinkWithoutUptoRow.holds Try.pinned (OpenSpec.upto shrinkWithoutSpec)

end Rows
end Go.Proofs.Ytjipnjimopekjaa
