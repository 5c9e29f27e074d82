/-
  No cell of these rows narrows 'for every input' (looked for: loops, veiled, ifaces, maps, wideKeys, modest, calm, conditions, laid).
  DERIVED. THE GIVEN ROWS OF THIS SEAT. 12 by the template 'for every input the law returns true; each argument reads behind the call as it read before'; 0 by the template 'total and deterministic' (their statements: YtmddnblbfmlgoaaTotals.lean).
  GIVEN WITH THE SEED: the statements are not yours to turn. If you find one false, say at which input.
  Laid BY PROGRAM, IN A SANDBOX (cutbox-rows.mjs): the forced cells as the released guide's own fill.sh prints them over the translation e9e525856a720dbe… (all of the seat's roots in one cut). By AI agents, Wed Nov 11 2026. No macro, syntax, notation, axiom, sorry.
-/
import Derived.Test.YtmddnblbfmlgoaaChecked
import GoSem.Claim
import GoSem.ClaimJoined
import GoSem.ClaimMapViews
import Derived.JoinedTies
import Derived.KernelRfl
namespace Go.Proofs.Ytmddnblbfmlgoaa
/- THE CELL 'sum', in the pinned program and in every row, IS THE sha256 OF THE DUMP (.gsa) THAT YtmddnblbfmlgoaaProg.lean LOADS. Nothing in Lean hashes anything: it is a label: what it is worth is what the hold of that sum in a sandbox is worth. -/
noncomputable def Try.pinned : Pinned := { name := "ytmddnblbfmlgoaa", sum := "e9e525856a720dbe7f775fcd33572280f69c8e881fcfb7b5b8805577bd6cf45d", checked := Try.checked }
namespace Rows
def none {H : Type} : Left H := { results := [], args := [] }

/-- 'deadheatlaw.Names': WHATEVER THE INPUT: true; the input reads as it did. -/
def namesSpec : ChangeSpec := { name := "names", fn := fun _ => fun
  | [] => { results := [.lit (.bool true)], args := [] }
  | _ => none }
def namesRow : OpenClaim := { program := "ytmddnblbfmlgoaa", sum := "e9e525856a720dbe7f775fcd33572280f69c8e881fcfb7b5b8805577bd6cf45d", func := "deadheat/deadheatlaw.Names", spec := "names", apart := false }
def NamesSaid : Prop := namesRow.holds Try.pinned (OpenSpec.ofChange namesSpec)

/-- ITS FALSE NEIGHBOUR: 'it returns false'. Refute it at one input. -/
def namesWrong : ChangeSpec := { name := "names", fn := fun _ => fun
  | [] => { results := [.lit (.bool false)], args := [] }
  | _ => none }
def NamesWrongFalsely : Prop := namesRow.holds Try.pinned (OpenSpec.ofChange namesWrong)

/-- 'deadheatlaw.ClockEpochs': WHATEVER THE INPUT: true; the input reads as it did. -/
def clockEpochsSpec : ChangeSpec := { name := "clockEpochs", fn := fun _ => fun
  | [d1, d2, d3] => { results := [.lit (.bool true)], args := [d1, d2, d3] }
  | _ => none }
def clockEpochsRow : OpenClaim := { program := "ytmddnblbfmlgoaa", sum := "e9e525856a720dbe7f775fcd33572280f69c8e881fcfb7b5b8805577bd6cf45d", func := "deadheat/deadheatlaw.ClockEpochs", spec := "clockEpochs", apart := false }
def ClockEpochsSaid : Prop := clockEpochsRow.holds Try.pinned (OpenSpec.ofChange clockEpochsSpec)

/-- ITS FALSE NEIGHBOUR: 'it returns false'. Refute it at one input. -/
def clockEpochsWrong : ChangeSpec := { name := "clockEpochs", fn := fun _ => fun
  | [d1, d2, d3] => { results := [.lit (.bool false)], args := [d1, d2, d3] }
  | _ => none }
def ClockEpochsWrongFalsely : Prop := clockEpochsRow.holds Try.pinned (OpenSpec.ofChange clockEpochsWrong)

/-- 'deadheatlaw.ClockTicks': WHATEVER THE INPUT: true; the input reads as it did. -/
def clockTicksSpec : ChangeSpec := { name := "clockTicks", fn := fun _ => fun
  | [d1, d2] => { results := [.lit (.bool true)], args := [d1, d2] }
  | _ => none }
def clockTicksRow : OpenClaim := { program := "ytmddnblbfmlgoaa", sum := "e9e525856a720dbe7f775fcd33572280f69c8e881fcfb7b5b8805577bd6cf45d", func := "deadheat/deadheatlaw.ClockTicks", spec := "clockTicks", apart := false }
def ClockTicksSaid : Prop := clockTicksRow.holds Try.pinned (OpenSpec.ofChange clockTicksSpec)

/-- ITS FALSE NEIGHBOUR: 'it returns false'. Refute it at one input. -/
def clockTicksWrong : ChangeSpec := { name := "clockTicks", fn := fun _ => fun
  | [d1, d2] => { results := [.lit (.bool false)], args := [d1, d2] }
  | _ => none }
def ClockTicksWrongFalsely : Prop := clockTicksRow.holds Try.pinned (OpenSpec.ofChange clockTicksWrong)

/-- 'deadheatlaw.ClockCompares': WHATEVER THE INPUT: true; the input reads as it did. -/
def clockComparesSpec : ChangeSpec := { name := "clockCompares", fn := fun _ => fun
  | [d1, d2] => { results := [.lit (.bool true)], args := [d1, d2] }
  | _ => none }
def clockComparesRow : OpenClaim := { program := "ytmddnblbfmlgoaa", sum := "e9e525856a720dbe7f775fcd33572280f69c8e881fcfb7b5b8805577bd6cf45d", func := "deadheat/deadheatlaw.ClockCompares", spec := "clockCompares", unfollowed := true, recurses := true, apart := false }
def ClockComparesSaid : Prop := clockComparesRow.holds Try.pinned (OpenSpec.ofChange clockComparesSpec)

/-- ITS FALSE NEIGHBOUR: 'it returns false'. Refute it at one input. -/
def clockComparesWrong : ChangeSpec := { name := "clockCompares", fn := fun _ => fun
  | [d1, d2] => { results := [.lit (.bool false)], args := [d1, d2] }
  | _ => none }
def ClockComparesWrongFalsely : Prop := clockComparesRow.holds Try.pinned (OpenSpec.ofChange clockComparesWrong)

/-- 'deadheatlaw.ClockJoins': WHATEVER THE INPUT: true; the input reads as it did. -/
def clockJoinsSpec : ChangeSpec := { name := "clockJoins", fn := fun _ => fun
  | [d1, d2] => { results := [.lit (.bool true)], args := [d1, d2] }
  | _ => none }
def clockJoinsRow : OpenClaim := { program := "ytmddnblbfmlgoaa", sum := "e9e525856a720dbe7f775fcd33572280f69c8e881fcfb7b5b8805577bd6cf45d", func := "deadheat/deadheatlaw.ClockJoins", spec := "clockJoins", unfollowed := true, recurses := true, apart := false }
def ClockJoinsSaid : Prop := clockJoinsRow.holds Try.pinned (OpenSpec.ofChange clockJoinsSpec)

/-- ITS FALSE NEIGHBOUR: 'it returns false'. Refute it at one input. -/
def clockJoinsWrong : ChangeSpec := { name := "clockJoins", fn := fun _ => fun
  | [d1, d2] => { results := [.lit (.bool false)], args := [d1, d2] }
  | _ => none }
def ClockJoinsWrongFalsely : Prop := clockJoinsRow.holds Try.pinned (OpenSpec.ofChange clockJoinsWrong)

/-- 'deadheatlaw.SwapAparts': WHATEVER THE INPUT: true; the input reads as it did. -/
def swapApartsSpec : ChangeSpec := { name := "swapAparts", fn := fun _ => fun
  | [d1, d2] => { results := [.lit (.bool true)], args := [d1, d2] }
  | _ => none }
def swapApartsRow : OpenClaim := { program := "ytmddnblbfmlgoaa", sum := "e9e525856a720dbe7f775fcd33572280f69c8e881fcfb7b5b8805577bd6cf45d", func := "deadheat/deadheatlaw.SwapAparts", spec := "swapAparts", unfollowed := true, recurses := true, apart := false }
def SwapApartsSaid : Prop := swapApartsRow.holds Try.pinned (OpenSpec.ofChange swapApartsSpec)

/-- ITS FALSE NEIGHBOUR: 'it returns false'. Refute it at one input. -/
def swapApartsWrong : ChangeSpec := { name := "swapAparts", fn := fun _ => fun
  | [d1, d2] => { results := [.lit (.bool false)], args := [d1, d2] }
  | _ => none }
def SwapApartsWrongFalsely : Prop := swapApartsRow.holds Try.pinned (OpenSpec.ofChange swapApartsWrong)

/-- 'deadheatlaw.ProgChecks': WHATEVER THE INPUT: true; the input reads as it did. -/
def progChecksSpec : ChangeSpec := { name := "progChecks", fn := fun _ => fun
  | [d] => { results := [.lit (.bool true)], args := [d] }
  | _ => none }
def progChecksRow : OpenClaim := { program := "ytmddnblbfmlgoaa", sum := "e9e525856a720dbe7f775fcd33572280f69c8e881fcfb7b5b8805577bd6cf45d", func := "deadheat/deadheatlaw.ProgChecks", spec := "progChecks", apart := false }
def ProgChecksSaid : Prop := progChecksRow.holds Try.pinned (OpenSpec.ofChange progChecksSpec)

/-- ITS FALSE NEIGHBOUR: 'it returns false'. Refute it at one input. -/
def progChecksWrong : ChangeSpec := { name := "progChecks", fn := fun _ => fun
  | [d] => { results := [.lit (.bool false)], args := [d] }
  | _ => none }
def ProgChecksWrongFalsely : Prop := progChecksRow.holds Try.pinned (OpenSpec.ofChange progChecksWrong)

/-- 'deadheatlaw.ProgAlone': WHATEVER THE INPUT: true; the input reads as it did. -/
def progAloneSpec : ChangeSpec := { name := "progAlone", fn := fun _ => fun
  | [d1, d2] => { results := [.lit (.bool true)], args := [d1, d2] }
  | _ => none }
def progAloneRow : OpenClaim := { program := "ytmddnblbfmlgoaa", sum := "e9e525856a720dbe7f775fcd33572280f69c8e881fcfb7b5b8805577bd6cf45d", func := "deadheat/deadheatlaw.ProgAlone", spec := "progAlone", unfollowed := true, recurses := true, apart := false }
def ProgAloneSaid : Prop := progAloneRow.holds Try.pinned (OpenSpec.ofChange progAloneSpec)

/-- ITS FALSE NEIGHBOUR: 'it returns false'. Refute it at one input. -/
def progAloneWrong : ChangeSpec := { name := "progAlone", fn := fun _ => fun
  | [d1, d2] => { results := [.lit (.bool false)], args := [d1, d2] }
  | _ => none }
def ProgAloneWrongFalsely : Prop := progAloneRow.holds Try.pinned (OpenSpec.ofChange progAloneWrong)

/-- 'deadheatlaw.RingFinds': WHATEVER THE INPUT: true; the input reads as it did. -/
def ringFindsSpec : ChangeSpec := { name := "ringFinds", fn := fun _ => fun
  | [d] => { results := [.lit (.bool true)], args := [d] }
  | _ => none }
def ringFindsRow : OpenClaim := { program := "ytmddnblbfmlgoaa", sum := "e9e525856a720dbe7f775fcd33572280f69c8e881fcfb7b5b8805577bd6cf45d", func := "deadheat/deadheatlaw.RingFinds", spec := "ringFinds", recurses := true, apart := false }
def RingFindsSaid : Prop := ringFindsRow.holds Try.pinned (OpenSpec.ofChange ringFindsSpec)

/-- ITS FALSE NEIGHBOUR: 'it returns false'. Refute it at one input. -/
def ringFindsWrong : ChangeSpec := { name := "ringFinds", fn := fun _ => fun
  | [d] => { results := [.lit (.bool false)], args := [d] }
  | _ => none }
def RingFindsWrongFalsely : Prop := ringFindsRow.holds Try.pinned (OpenSpec.ofChange ringFindsWrong)

/-- 'deadheatlaw.TraceChecks': WHATEVER THE INPUT: true; the input reads as it did. -/
def traceChecksSpec : ChangeSpec := { name := "traceChecks", fn := fun _ => fun
  | [d] => { results := [.lit (.bool true)], args := [d] }
  | _ => none }
def traceChecksRow : OpenClaim := { program := "ytmddnblbfmlgoaa", sum := "e9e525856a720dbe7f775fcd33572280f69c8e881fcfb7b5b8805577bd6cf45d", func := "deadheat/deadheatlaw.TraceChecks", spec := "traceChecks", apart := false }
def TraceChecksSaid : Prop := traceChecksRow.holds Try.pinned (OpenSpec.ofChange traceChecksSpec)

/-- ITS FALSE NEIGHBOUR: 'it returns false'. Refute it at one input. -/
def traceChecksWrong : ChangeSpec := { name := "traceChecks", fn := fun _ => fun
  | [d] => { results := [.lit (.bool false)], args := [d] }
  | _ => none }
def TraceChecksWrongFalsely : Prop := traceChecksRow.holds Try.pinned (OpenSpec.ofChange traceChecksWrong)

/-- 'deadheatlaw.TraceThreads': WHATEVER THE INPUT: true; the input reads as it did. -/
def traceThreadsSpec : ChangeSpec := { name := "traceThreads", fn := fun _ => fun
  | [d] => { results := [.lit (.bool true)], args := [d] }
  | _ => none }
def traceThreadsRow : OpenClaim := { program := "ytmddnblbfmlgoaa", sum := "e9e525856a720dbe7f775fcd33572280f69c8e881fcfb7b5b8805577bd6cf45d", func := "deadheat/deadheatlaw.TraceThreads", spec := "traceThreads", apart := false }
def TraceThreadsSaid : Prop := traceThreadsRow.holds Try.pinned (OpenSpec.ofChange traceThreadsSpec)

/-- ITS FALSE NEIGHBOUR: 'it returns false'. Refute it at one input. -/
def traceThreadsWrong : ChangeSpec := { name := "traceThreads", fn := fun _ => fun
  | [d] => { results := [.lit (.bool false)], args := [d] }
  | _ => none }
def TraceThreadsWrongFalsely : Prop := traceThreadsRow.holds Try.pinned (OpenSpec.ofChange traceThreadsWrong)

/-- 'deadheatlaw.RingRanks': WHATEVER THE INPUT: true; the input reads as it did. -/
def ringRanksSpec : ChangeSpec := { name := "ringRanks", fn := fun _ => fun
  | [d] => { results := [.lit (.bool true)], args := [d] }
  | _ => none }
def ringRanksRow : OpenClaim := { program := "ytmddnblbfmlgoaa", sum := "e9e525856a720dbe7f775fcd33572280f69c8e881fcfb7b5b8805577bd6cf45d", func := "deadheat/deadheatlaw.RingRanks", spec := "ringRanks", recurses := true, apart := false }
def RingRanksSaid : Prop := ringRanksRow.holds Try.pinned (OpenSpec.ofChange ringRanksSpec)

/-- ITS FALSE NEIGHBOUR: 'it returns false'. Refute it at one input. -/
def ringRanksWrong : ChangeSpec := { name := "ringRanks", fn := fun _ => fun
  | [d] => { results := [.lit (.bool false)], args := [d] }
  | _ => none }
def RingRanksWrongFalsely : Prop := ringRanksRow.holds Try.pinned (OpenSpec.ofChange ringRanksWrong)

/- THE SECOND FORM. 'bulk': how many values and letters a reading holds, each counted each time it is reached (what is shared counts as often as it is met; a slice's spare places count too). A statement '..UptoSaid' is the law's where the arguments, and the package variables that the reading takes, are together of bulk at most 1048576: NARROWER than '..Said'. Prove '..Said' where nothing that the law and all that it calls make is longer than what came in: it says more and counts as full. Else prove '..UptoSaid'. A law counts once. -/
mutual
def uptoBulk {H : Type} : DataW H → Nat
  | .lit (.string bytes) => bytes.length + 1
  | .lit _ => 1
  | .nil => 1
  | .ptr d => uptoBulk d + 1
  | .slice elems spare => uptoBulkAll elems + uptoBulkAll spare + 1
  | .agg parts => uptoBulkAll parts + 1
  | .iface _ d => uptoBulk d + 1
  | .map entries => uptoBulkEntries entries + 1
  | .held _ => 1
def uptoBulkAll {H : Type} : List (DataW H) → Nat
  | [] => 0
  | d :: r => uptoBulk d + uptoBulkAll r
def uptoBulkEntries {H : Type} : List (Lit × DataW H) → Nat
  | [] => 0
  | x :: r => uptoBulkEntry x + uptoBulkEntries r
def uptoBulkEntry {H : Type} : Lit × DataW H → Nat
  | (.string bytes, d) => bytes.length + uptoBulk d + 1
  | (_, d) => uptoBulk d + 1
 end
def uptoSmall : (H : Type) → List (DataW H) → Bool := fun _ ds => decide (uptoBulkAll ds ≤ 1048576)
def OpenSpec.upto (s : _root_.Go.ChangeSpec) : _root_.Go.OpenSpec := { _root_.Go.OpenSpec.ofChange s with cond := some uptoSmall }

/-- 'deadheatlaw.Names', WHERE WHAT IT READS IS OF BULK AT MOST 1048576: true; the input reads as it did. -/
def namesUptoRow : OpenClaim := { program := "ytmddnblbfmlgoaa", sum := "e9e525856a720dbe7f775fcd33572280f69c8e881fcfb7b5b8805577bd6cf45d", func := "deadheat/deadheatlaw.Names", spec := "names", apart := false, narrowed := true }
def NamesUptoSaid : Prop := namesUptoRow.holds Try.pinned (OpenSpec.upto namesSpec)

/-- 'deadheatlaw.ClockEpochs', WHERE WHAT IT READS IS OF BULK AT MOST 1048576: true; the input reads as it did. -/
def clockEpochsUptoRow : OpenClaim := { program := "ytmddnblbfmlgoaa", sum := "e9e525856a720dbe7f775fcd33572280f69c8e881fcfb7b5b8805577bd6cf45d", func := "deadheat/deadheatlaw.ClockEpochs", spec := "clockEpochs", apart := false, narrowed := true }
def ClockEpochsUptoSaid : Prop := clockEpochsUptoRow.holds Try.pinned (OpenSpec.upto clockEpochsSpec)

/-- 'deadheatlaw.ClockTicks', WHERE WHAT IT READS IS OF BULK AT MOST 1048576: true; the input reads as it did. -/
def clockTicksUptoRow : OpenClaim := { program := "ytmddnblbfmlgoaa", sum := "e9e525856a720dbe7f775fcd33572280f69c8e881fcfb7b5b8805577bd6cf45d", func := "deadheat/deadheatlaw.ClockTicks", spec := "clockTicks", apart := false, narrowed := true }
def ClockTicksUptoSaid : Prop := clockTicksUptoRow.holds Try.pinned (OpenSpec.upto clockTicksSpec)

/-- 'deadheatlaw.ClockCompares', WHERE WHAT IT READS IS OF BULK AT MOST 1048576: true; the input reads as it did. -/
def clockComparesUptoRow : OpenClaim := { program := "ytmddnblbfmlgoaa", sum := "e9e525856a720dbe7f775fcd33572280f69c8e881fcfb7b5b8805577bd6cf45d", func := "deadheat/deadheatlaw.ClockCompares", spec := "clockCompares", unfollowed := true, recurses := true, apart := false, narrowed := true }
def ClockComparesUptoSaid : Prop := clockComparesUptoRow.holds Try.pinned (OpenSpec.upto clockComparesSpec)

/-- 'deadheatlaw.ClockJoins', WHERE WHAT IT READS IS OF BULK AT MOST 1048576: true; the input reads as it did. -/
def clockJoinsUptoRow : OpenClaim := { program := "ytmddnblbfmlgoaa", sum := "e9e525856a720dbe7f775fcd33572280f69c8e881fcfb7b5b8805577bd6cf45d", func := "deadheat/deadheatlaw.ClockJoins", spec := "clockJoins", unfollowed := true, recurses := true, apart := false, narrowed := true }
def ClockJoinsUptoSaid : Prop := clockJoinsUptoRow.holds Try.pinned (OpenSpec.upto clockJoinsSpec)

/-- 'deadheatlaw.SwapAparts', WHERE WHAT IT READS IS OF BULK AT MOST 1048576: true; the input reads as it did. -/
def swapApartsUptoRow : OpenClaim := { program := "ytmddnblbfmlgoaa", sum := "e9e525856a720dbe7f775fcd33572280f69c8e881fcfb7b5b8805577bd6cf45d", func := "deadheat/deadheatlaw.SwapAparts", spec := "swapAparts", unfollowed := true, recurses := true, apart := false, narrowed := true }
def SwapApartsUptoSaid : Prop := swapApartsUptoRow.holds Try.pinned (OpenSpec.upto swapApartsSpec)

/-- 'deadheatlaw.ProgChecks', WHERE WHAT IT READS IS OF BULK AT MOST 1048576: true; the input reads as it did. -/
def progChecksUptoRow : OpenClaim := { program := "ytmddnblbfmlgoaa", sum := "e9e525856a720dbe7f775fcd33572280f69c8e881fcfb7b5b8805577bd6cf45d", func := "deadheat/deadheatlaw.ProgChecks", spec := "progChecks", apart := false, narrowed := true }
def ProgChecksUptoSaid : Prop := progChecksUptoRow.holds Try.pinned (OpenSpec.upto progChecksSpec)

/-- 'deadheatlaw.ProgAlone', WHERE WHAT IT READS IS OF BULK AT MOST 1048576: true; the input reads as it did. -/
def progAloneUptoRow : OpenClaim := { program := "ytmddnblbfmlgoaa", sum := "e9e525856a720dbe7f775fcd33572280f69c8e881fcfb7b5b8805577bd6cf45d", func := "deadheat/deadheatlaw.ProgAlone", spec := "progAlone", unfollowed := true, recurses := true, apart := false, narrowed := true }
def ProgAloneUptoSaid : Prop := progAloneUptoRow.holds Try.pinned (OpenSpec.upto progAloneSpec)

/-- 'deadheatlaw.RingFinds', WHERE WHAT IT READS IS OF BULK AT MOST 1048576: true; the input reads as it did. -/
def ringFindsUptoRow : OpenClaim := { program := "ytmddnblbfmlgoaa", sum := "e9e525856a720dbe7f775fcd33572280f69c8e881fcfb7b5b8805577bd6cf45d", func := "deadheat/deadheatlaw.RingFinds", spec := "ringFinds", recurses := true, apart := false, narrowed := true }
def RingFindsUptoSaid : Prop := ringFindsUptoRow.holds Try.pinned (OpenSpec.upto ringFindsSpec)

/-- 'deadheatlaw.TraceChecks', WHERE WHAT IT READS IS OF BULK AT MOST 1048576: true; the input reads as it did. -/
def traceChecksUptoRow : OpenClaim := { program := "ytmddnblbfmlgoaa", sum := "e9e525856a720dbe7f775fcd33572280f69c8e881fcfb7b5b8805577bd6cf45d", func := "deadheat/deadheatlaw.TraceChecks", spec := "traceChecks", apart := false, narrowed := true }
def TraceChecksUptoSaid : Prop := traceChecksUptoRow.holds Try.pinned (OpenSpec.upto traceChecksSpec)

/-- 'deadheatlaw.TraceThreads', WHERE WHAT IT READS IS OF BULK AT MOST 1048576: true; the input reads as it did. -/
def traceThreadsUptoRow : OpenClaim := { program := "ytmddnblbfmlgoaa", sum := "e9e525856a720dbe7f775fcd33572280f69c8e881fcfb7b5b8805577bd6cf45d", func := "deadheat/deadheatlaw.TraceThreads", spec := "traceThreads", apart := false, narrowed := true }
def TraceThreadsUptoSaid : Prop := traceThreadsUptoRow.holds Try.pinned (OpenSpec.upto traceThreadsSpec)

/-- 'deadheatlaw.RingRanks', WHERE WHAT IT READS IS OF BULK AT MOST 1048576: true; the input reads as it did. -/
def ringRanksUptoRow : OpenClaim := { program := "ytmddnblbfmlgoaa", sum := "e9e525856a720dbe7f775fcd33572280f69c8e881fcfb7b5b8805577bd6cf45d", func := "deadheat/deadheatlaw.RingRanks", spec := "ringRanks", recurses := true, apart := false, narrowed := true }
def RingRanksUptoSaid : Prop := ringRanksUptoRow.holds Try.pinned (OpenSpec.upto ringRanksSpec)

end Rows
end Go.Proofs.Ytmddnblbfmlgoaa
