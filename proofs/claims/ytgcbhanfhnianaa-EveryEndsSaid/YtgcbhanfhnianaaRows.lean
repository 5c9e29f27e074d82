/-
  No cell of these rows narrows 'for every input' (looked for: loops, veiled, ifaces, maps, wideKeys, modest, calm, conditions, laid).
  DERIVED. THE GIVEN ROWS OF THIS SEAT. 9 by the template 'for every input the law returns true; each argument reads behind the call as it read before'; 0 by the template 'total and deterministic' (their statements: YtgcbhanfhnianaaTotals.lean).
  GIVEN WITH THE SEED: the statements are not yours to turn. If you find one false, say at which input.
  Laid BY PROGRAM, IN A SANDBOX (cutbox-rows.mjs): the forced cells as the released guide's own fill.sh prints them over the translation beb9a5d123e4653a… (all of the seat's roots in one cut). By AI agents, Wed Nov 11 2026. No macro, syntax, notation, axiom, sorry.
-/
import Derived.Test.YtgcbhanfhnianaaChecked
import GoSem.Claim
import GoSem.ClaimJoined
import GoSem.ClaimMapViews
import Derived.JoinedTies
import Derived.KernelRfl
namespace Go.Proofs.Ytgcbhanfhnianaa
/- THE CELL 'sum', in the pinned program and in every row, IS THE sha256 OF THE DUMP (.gsa) THAT YtgcbhanfhnianaaProg.lean LOADS. Nothing in Lean hashes anything: it is a label: what it is worth is what the hold of that sum in a sandbox is worth. -/
noncomputable def Try.pinned : Pinned := { name := "ytgcbhanfhnianaa", sum := "beb9a5d123e4653a7a17044ec427ee7daba81e58dcf67535d1b07c036de7d9eb", checked := Try.checked }
namespace Rows
def none {H : Type} : Left H := { results := [], args := [] }

/-- 'deadheatlaw.ProgRuns': WHATEVER THE INPUT: true; the input reads as it did. -/
def progRunsSpec : ChangeSpec := { name := "progRuns", fn := fun _ => fun
  | [d1, d2] => { results := [.lit (.bool true)], args := [d1, d2] }
  | _ => none }
def progRunsRow : OpenClaim := { program := "ytgcbhanfhnianaa", sum := "beb9a5d123e4653a7a17044ec427ee7daba81e58dcf67535d1b07c036de7d9eb", func := "deadheat/deadheatlaw.ProgRuns", spec := "progRuns", unfollowed := true, recurses := true, plainKeys := false, apart := false }
def ProgRunsSaid : Prop := progRunsRow.holds Try.pinned (OpenSpec.ofChange progRunsSpec)

/-- ITS FALSE NEIGHBOUR: 'it returns false'. Refute it at one input. -/
def progRunsWrong : ChangeSpec := { name := "progRuns", fn := fun _ => fun
  | [d1, d2] => { results := [.lit (.bool false)], args := [d1, d2] }
  | _ => none }
def ProgRunsWrongFalsely : Prop := progRunsRow.holds Try.pinned (OpenSpec.ofChange progRunsWrong)

/-- 'deadheatlaw.FastRuns': WHATEVER THE INPUT: true; the input reads as it did. -/
def fastRunsSpec : ChangeSpec := { name := "fastRuns", fn := fun _ => fun
  | [d] => { results := [.lit (.bool true)], args := [d] }
  | _ => none }
def fastRunsRow : OpenClaim := { program := "ytgcbhanfhnianaa", sum := "beb9a5d123e4653a7a17044ec427ee7daba81e58dcf67535d1b07c036de7d9eb", func := "deadheat/deadheatlaw.FastRuns", spec := "fastRuns", unfollowed := true, recurses := true, plainKeys := false, apart := false }
def FastRunsSaid : Prop := fastRunsRow.holds Try.pinned (OpenSpec.ofChange fastRunsSpec)

/-- ITS FALSE NEIGHBOUR: 'it returns false'. Refute it at one input. -/
def fastRunsWrong : ChangeSpec := { name := "fastRuns", fn := fun _ => fun
  | [d] => { results := [.lit (.bool false)], args := [d] }
  | _ => none }
def FastRunsWrongFalsely : Prop := fastRunsRow.holds Try.pinned (OpenSpec.ofChange fastRunsWrong)

/-- 'deadheatlaw.BoardTells': WHATEVER THE INPUT: true; the input reads as it did. -/
def boardTellsSpec : ChangeSpec := { name := "boardTells", fn := fun _ => fun
  | [d] => { results := [.lit (.bool true)], args := [d] }
  | _ => none }
def boardTellsRow : OpenClaim := { program := "ytgcbhanfhnianaa", sum := "beb9a5d123e4653a7a17044ec427ee7daba81e58dcf67535d1b07c036de7d9eb", func := "deadheat/deadheatlaw.BoardTells", spec := "boardTells", inPlace := ["(*sync.RWMutex).Lock", "internal/race.Read", "internal/race.Disable", "(*internal/sync.Mutex).Lock", "sync/atomic.CompareAndSwapInt32", "internal/race.Enable", "internal/race.Acquire", "(*internal/sync.Mutex).lockSlow", "internal/sync.runtime_canSpin", "internal/sync.runtime_doSpin", "internal/sync.throw", "internal/sync.runtime_nanotime", "internal/sync.runtime_SemacquireMutex", "sync/atomic.AddInt32", "sync.runtime_SemacquireRWMutex", "(*sync.RWMutex).Unlock", "internal/race.Release", "internal/race.ReleaseMerge", "sync.fatal", "sync.runtime_Semrelease", "(*internal/sync.Mutex).Unlock", "(*internal/sync.Mutex).unlockSlow", "internal/sync.fatal", "internal/sync.runtime_Semrelease", "(*sync.RWMutex).RLock", "sync.runtime_SemacquireRWMutexR", "(*sync.RWMutex).RUnlock", "(*sync.RWMutex).rUnlockSlow"], unfollowed := true, recurses := true, plainKeys := false, apart := false }
def BoardTellsSaid : Prop := boardTellsRow.holds Try.pinned (OpenSpec.ofChange boardTellsSpec)

/-- ITS FALSE NEIGHBOUR: 'it returns false'. Refute it at one input. -/
def boardTellsWrong : ChangeSpec := { name := "boardTells", fn := fun _ => fun
  | [d] => { results := [.lit (.bool false)], args := [d] }
  | _ => none }
def BoardTellsWrongFalsely : Prop := boardTellsRow.holds Try.pinned (OpenSpec.ofChange boardTellsWrong)

/-- 'deadheatlaw.RaceSeconds': WHATEVER THE INPUT: true; the input reads as it did. -/
def raceSecondsSpec : ChangeSpec := { name := "raceSeconds", fn := fun _ => fun
  | [d] => { results := [.lit (.bool true)], args := [d] }
  | _ => none }
def raceSecondsRow : OpenClaim := { program := "ytgcbhanfhnianaa", sum := "beb9a5d123e4653a7a17044ec427ee7daba81e58dcf67535d1b07c036de7d9eb", func := "deadheat/deadheatlaw.RaceSeconds", spec := "raceSeconds", unfollowed := true, recurses := true, plainKeys := false, apart := false }
def RaceSecondsSaid : Prop := raceSecondsRow.holds Try.pinned (OpenSpec.ofChange raceSecondsSpec)

/-- ITS FALSE NEIGHBOUR: 'it returns false'. Refute it at one input. -/
def raceSecondsWrong : ChangeSpec := { name := "raceSeconds", fn := fun _ => fun
  | [d] => { results := [.lit (.bool false)], args := [d] }
  | _ => none }
def RaceSecondsWrongFalsely : Prop := raceSecondsRow.holds Try.pinned (OpenSpec.ofChange raceSecondsWrong)

/-- 'deadheatlaw.EveryEnds': WHATEVER THE INPUT: true; the input reads as it did. -/
def everyEndsSpec : ChangeSpec := { name := "everyEnds", fn := fun _ => fun
  | [d] => { results := [.lit (.bool true)], args := [d] }
  | _ => none }
def everyEndsRow : OpenClaim := { program := "ytgcbhanfhnianaa", sum := "beb9a5d123e4653a7a17044ec427ee7daba81e58dcf67535d1b07c036de7d9eb", func := "deadheat/deadheatlaw.EveryEnds", spec := "everyEnds", unfollowed := true, recurses := true, plainKeys := false, apart := false }
def EveryEndsSaid : Prop := everyEndsRow.holds Try.pinned (OpenSpec.ofChange everyEndsSpec)

/-- ITS FALSE NEIGHBOUR: 'it returns false'. Refute it at one input. -/
def everyEndsWrong : ChangeSpec := { name := "everyEnds", fn := fun _ => fun
  | [d] => { results := [.lit (.bool false)], args := [d] }
  | _ => none }
def EveryEndsWrongFalsely : Prop := everyEndsRow.holds Try.pinned (OpenSpec.ofChange everyEndsWrong)

/-- 'deadheatlaw.ShrinkMins': WHATEVER THE INPUT: true; the input reads as it did. -/
def shrinkMinsSpec : ChangeSpec := { name := "shrinkMins", fn := fun _ => fun
  | [d] => { results := [.lit (.bool true)], args := [d] }
  | _ => none }
def shrinkMinsRow : OpenClaim := { program := "ytgcbhanfhnianaa", sum := "beb9a5d123e4653a7a17044ec427ee7daba81e58dcf67535d1b07c036de7d9eb", func := "deadheat/deadheatlaw.ShrinkMins", spec := "shrinkMins", unfollowed := true, recurses := true, plainKeys := false, apart := false }
def ShrinkMinsSaid : Prop := shrinkMinsRow.holds Try.pinned (OpenSpec.ofChange shrinkMinsSpec)

/-- ITS FALSE NEIGHBOUR: 'it returns false'. Refute it at one input. -/
def shrinkMinsWrong : ChangeSpec := { name := "shrinkMins", fn := fun _ => fun
  | [d] => { results := [.lit (.bool false)], args := [d] }
  | _ => none }
def ShrinkMinsWrongFalsely : Prop := shrinkMinsRow.holds Try.pinned (OpenSpec.ofChange shrinkMinsWrong)

/-- 'deadheatlaw.EveryWays': WHATEVER THE INPUT: true; the input reads as it did. -/
def everyWaysSpec : ChangeSpec := { name := "everyWays", fn := fun _ => fun
  | [d1, d2] => { results := [.lit (.bool true)], args := [d1, d2] }
  | _ => none }
def everyWaysRow : OpenClaim := { program := "ytgcbhanfhnianaa", sum := "beb9a5d123e4653a7a17044ec427ee7daba81e58dcf67535d1b07c036de7d9eb", func := "deadheat/deadheatlaw.EveryWays", spec := "everyWays", unfollowed := true, recurses := true, plainKeys := false, apart := false }
def EveryWaysSaid : Prop := everyWaysRow.holds Try.pinned (OpenSpec.ofChange everyWaysSpec)

/-- ITS FALSE NEIGHBOUR: 'it returns false'. Refute it at one input. -/
def everyWaysWrong : ChangeSpec := { name := "everyWays", fn := fun _ => fun
  | [d1, d2] => { results := [.lit (.bool false)], args := [d1, d2] }
  | _ => none }
def EveryWaysWrongFalsely : Prop := everyWaysRow.holds Try.pinned (OpenSpec.ofChange everyWaysWrong)

/-- 'deadheatlaw.EveryRaces': WHATEVER THE INPUT: true; the input reads as it did. -/
def everyRacesSpec : ChangeSpec := { name := "everyRaces", fn := fun _ => fun
  | [d] => { results := [.lit (.bool true)], args := [d] }
  | _ => none }
def everyRacesRow : OpenClaim := { program := "ytgcbhanfhnianaa", sum := "beb9a5d123e4653a7a17044ec427ee7daba81e58dcf67535d1b07c036de7d9eb", func := "deadheat/deadheatlaw.EveryRaces", spec := "everyRaces", unfollowed := true, recurses := true, plainKeys := false, apart := false }
def EveryRacesSaid : Prop := everyRacesRow.holds Try.pinned (OpenSpec.ofChange everyRacesSpec)

/-- ITS FALSE NEIGHBOUR: 'it returns false'. Refute it at one input. -/
def everyRacesWrong : ChangeSpec := { name := "everyRaces", fn := fun _ => fun
  | [d] => { results := [.lit (.bool false)], args := [d] }
  | _ => none }
def EveryRacesWrongFalsely : Prop := everyRacesRow.holds Try.pinned (OpenSpec.ofChange everyRacesWrong)

/-- 'deadheattop.TopFound': WHATEVER THE INPUT: true; the input reads as it did. -/
def topFoundSpec : ChangeSpec := { name := "topFound", fn := fun _ => fun
  | [d1, d2] => { results := [.lit (.bool true)], args := [d1, d2] }
  | _ => none }
def topFoundRow : OpenClaim := { program := "ytgcbhanfhnianaa", sum := "beb9a5d123e4653a7a17044ec427ee7daba81e58dcf67535d1b07c036de7d9eb", func := "deadheat/deadheattop.TopFound", spec := "topFound", unfollowed := true, recurses := true, plainKeys := false, apart := false }
def TopFoundSaid : Prop := topFoundRow.holds Try.pinned (OpenSpec.ofChange topFoundSpec)

/-- ITS FALSE NEIGHBOUR: 'it returns false'. Refute it at one input. -/
def topFoundWrong : ChangeSpec := { name := "topFound", fn := fun _ => fun
  | [d1, d2] => { results := [.lit (.bool false)], args := [d1, d2] }
  | _ => none }
def TopFoundWrongFalsely : Prop := topFoundRow.holds Try.pinned (OpenSpec.ofChange topFoundWrong)

/- THE SECOND FORM. 'bulk': how many values and letters a reading holds, each counted each time it is reached (what is shared counts as often as it is met; a slice's spare places count too). A statement '..UptoSaid' is the law's where the arguments, and the package variables that the reading takes, are together of bulk at most 1048576: NARROWER than '..Said'. Prove '..Said' where nothing that the law and all that it calls make is longer than what came in: it says more and counts as full. Else prove '..UptoSaid'. A law counts once. -/
mutual
def uptoBulk {H : Type} : DataW H → Nat
  | .lit (.string bytes) => bytes.length + 1
  | .lit _ => 1
  | .nil => 1
  | .ptr d => uptoBulk d + 1
  | .slice elems spare => uptoBulkAll elems + uptoBulkAll spare + 1
  | .agg parts => uptoBulkAll parts + 1
  | .iface _ d => uptoBulk d + 1
  | .map entries => uptoBulkEntries entries + 1
  | .held _ => 1
def uptoBulkAll {H : Type} : List (DataW H) → Nat
  | [] => 0
  | d :: r => uptoBulk d + uptoBulkAll r
def uptoBulkEntries {H : Type} : List (Lit × DataW H) → Nat
  | [] => 0
  | x :: r => uptoBulkEntry x + uptoBulkEntries r
def uptoBulkEntry {H : Type} : Lit × DataW H → Nat
  | (.string bytes, d) => bytes.length + uptoBulk d + 1
  | (_, d) => uptoBulk d + 1
 end
def uptoSmall : (H : Type) → List (DataW H) → Bool := fun _ ds => decide (uptoBulkAll ds ≤ 1048576)
def OpenSpec.upto (s : _root_.Go.ChangeSpec) : _root_.Go.OpenSpec := { _root_.Go.OpenSpec.ofChange s with cond := some uptoSmall }

/-- 'deadheatlaw.ProgRuns', WHERE WHAT IT READS IS OF BULK AT MOST 1048576: true; the input reads as it did. -/
def progRunsUptoRow : OpenClaim := { program := "ytgcbhanfhnianaa", sum := "beb9a5d123e4653a7a17044ec427ee7daba81e58dcf67535d1b07c036de7d9eb", func := "deadheat/deadheatlaw.ProgRuns", spec := "progRuns", unfollowed := true, recurses := true, plainKeys := false, apart := false, narrowed := true }
def ProgRunsUptoSaid : Prop := progRunsUptoRow.holds Try.pinned (OpenSpec.upto progRunsSpec)

/-- 'deadheatlaw.FastRuns', WHERE WHAT IT READS IS OF BULK AT MOST 1048576: true; the input reads as it did. -/
def fastRunsUptoRow : OpenClaim := { program := "ytgcbhanfhnianaa", sum := "beb9a5d123e4653a7a17044ec427ee7daba81e58dcf67535d1b07c036de7d9eb", func := "deadheat/deadheatlaw.FastRuns", spec := "fastRuns", unfollowed := true, recurses := true, plainKeys := false, apart := false, narrowed := true }
def FastRunsUptoSaid : Prop := fastRunsUptoRow.holds Try.pinned (OpenSpec.upto fastRunsSpec)

/-- 'deadheatlaw.BoardTells', WHERE WHAT IT READS IS OF BULK AT MOST 1048576: true; the input reads as it did. -/
def boardTellsUptoRow : OpenClaim := { program := "ytgcbhanfhnianaa", sum := "beb9a5d123e4653a7a17044ec427ee7daba81e58dcf67535d1b07c036de7d9eb", func := "deadheat/deadheatlaw.BoardTells", spec := "boardTells", inPlace := ["(*sync.RWMutex).Lock", "internal/race.Read", "internal/race.Disable", "(*internal/sync.Mutex).Lock", "sync/atomic.CompareAndSwapInt32", "internal/race.Enable", "internal/race.Acquire", "(*internal/sync.Mutex).lockSlow", "internal/sync.runtime_canSpin", "internal/sync.runtime_doSpin", "internal/sync.throw", "internal/sync.runtime_nanotime", "internal/sync.runtime_SemacquireMutex", "sync/atomic.AddInt32", "sync.runtime_SemacquireRWMutex", "(*sync.RWMutex).Unlock", "internal/race.Release", "internal/race.ReleaseMerge", "sync.fatal", "sync.runtime_Semrelease", "(*internal/sync.Mutex).Unlock", "(*internal/sync.Mutex).unlockSlow", "internal/sync.fatal", "internal/sync.runtime_Semrelease", "(*sync.RWMutex).RLock", "sync.runtime_SemacquireRWMutexR", "(*sync.RWMutex).RUnlock", "(*sync.RWMutex).rUnlockSlow"], unfollowed := true, recurses := true, plainKeys := false, apart := false, narrowed := true }
def BoardTellsUptoSaid : Prop := boardTellsUptoRow.holds Try.pinned (OpenSpec.upto boardTellsSpec)

/-- 'deadheatlaw.RaceSeconds', WHERE WHAT IT READS IS OF BULK AT MOST 1048576: true; the input reads as it did. -/
def raceSecondsUptoRow : OpenClaim := { program := "ytgcbhanfhnianaa", sum := "beb9a5d123e4653a7a17044ec427ee7daba81e58dcf67535d1b07c036de7d9eb", func := "deadheat/deadheatlaw.RaceSeconds", spec := "raceSeconds", unfollowed := true, recurses := true, plainKeys := false, apart := false, narrowed := true }
def RaceSecondsUptoSaid : Prop := raceSecondsUptoRow.holds Try.pinned (OpenSpec.upto raceSecondsSpec)

/-- 'deadheatlaw.EveryEnds', WHERE WHAT IT READS IS OF BULK AT MOST 1048576: true; the input reads as it did. -/
def everyEndsUptoRow : OpenClaim := { program := "ytgcbhanfhnianaa", sum := "beb9a5d123e4653a7a17044ec427ee7daba81e58dcf67535d1b07c036de7d9eb", func := "deadheat/deadheatlaw.EveryEnds", spec := "everyEnds", unfollowed := true, recurses := true, plainKeys := false, apart := false, narrowed := true }
def EveryEndsUptoSaid : Prop := everyEndsUptoRow.holds Try.pinned (OpenSpec.upto everyEndsSpec)

/-- 'deadheatlaw.ShrinkMins', WHERE WHAT IT READS IS OF BULK AT MOST 1048576: true; the input reads as it did. -/
def shrinkMinsUptoRow : OpenClaim := { program := "ytgcbhanfhnianaa", sum := "beb9a5d123e4653a7a17044ec427ee7daba81e58dcf67535d1b07c036de7d9eb", func := "deadheat/deadheatlaw.ShrinkMins", spec := "shrinkMins", unfollowed := true, recurses := true, plainKeys := false, apart := false, narrowed := true }
def ShrinkMinsUptoSaid : Prop := shrinkMinsUptoRow.holds Try.pinned (OpenSpec.upto shrinkMinsSpec)

/-- 'deadheatlaw.EveryWays', WHERE WHAT IT READS IS OF BULK AT MOST 1048576: true; the input reads as it did. -/
def everyWaysUptoRow : OpenClaim := { program := "ytgcbhanfhnianaa", sum := "beb9a5d123e4653a7a17044ec427ee7daba81e58dcf67535d1b07c036de7d9eb", func := "deadheat/deadheatlaw.EveryWays", spec := "everyWays", unfollowed := true, recurses := true, plainKeys := false, apart := false, narrowed := true }
def EveryWaysUptoSaid : Prop := everyWaysUptoRow.holds Try.pinned (OpenSpec.upto everyWaysSpec)

/-- 'deadheatlaw.EveryRaces', WHERE WHAT IT READS IS OF BULK AT MOST 1048576: true; the input reads as it did. -/
def everyRacesUptoRow : OpenClaim := { program := "ytgcbhanfhnianaa", sum := "beb9a5d123e4653a7a17044ec427ee7daba81e58dcf67535d1b07c036de7d9eb", func := "deadheat/deadheatlaw.EveryRaces", spec := "everyRaces", unfollowed := true, recurses := true, plainKeys := false, apart := false, narrowed := true }
def EveryRacesUptoSaid : Prop := everyRacesUptoRow.holds Try.pinned (OpenSpec.upto everyRacesSpec)

/-- 'deadheattop.TopFound', WHERE WHAT IT READS IS OF BULK AT MOST 1048576: true; the input reads as it did. -/
def topFoundUptoRow : OpenClaim := { program := "ytgcbhanfhnianaa", sum := "beb9a5d123e4653a7a17044ec427ee7daba81e58dcf67535d1b07c036de7d9eb", func := "deadheat/deadheattop.TopFound", spec := "topFound", unfollowed := true, recurses := true, plainKeys := false, apart := false, narrowed := true }
def TopFoundUptoSaid : Prop := topFoundUptoRow.holds Try.pinned (OpenSpec.upto topFoundSpec)

end Rows
end Go.Proofs.Ytgcbhanfhnianaa
