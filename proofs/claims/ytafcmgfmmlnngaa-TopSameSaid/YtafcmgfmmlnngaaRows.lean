/-
  No cell of these rows narrows 'for every input' (looked for: loops, veiled, ifaces, maps, wideKeys, modest, calm, conditions, laid).
  DERIVED. THE GIVEN ROWS OF THIS SEAT. 12 by the template 'for every input the law returns true; each argument reads behind the call as it read before'; 0 by the template 'total and deterministic' (their statements: YtafcmgfmmlnngaaTotals.lean).
  GIVEN WITH THE SEED: the statements are not yours to turn. If you find one false, say at which input.
  Laid BY PROGRAM, IN A SANDBOX (cutbox-rows.mjs): the forced cells as the released guide's own fill.sh prints them over the translation 12b705d9d65443a2… (all of the seat's roots in one cut). By AI agents, Wed Nov 11 2026. No macro, syntax, notation, axiom, sorry.
-/
import Derived.Test.YtafcmgfmmlnngaaChecked
import GoSem.Claim
import GoSem.ClaimJoined
import GoSem.ClaimMapViews
import Derived.JoinedTies
import Derived.KernelRfl
namespace Go.Proofs.Ytafcmgfmmlnngaa
/- THE CELL 'sum', in the pinned program and in every row, IS THE sha256 OF THE DUMP (.gsa) THAT YtafcmgfmmlnngaaProg.lean LOADS. Nothing in Lean hashes anything: it is a label: what it is worth is what the hold of that sum in a sandbox is worth. -/
noncomputable def Try.pinned : Pinned := { name := "ytafcmgfmmlnngaa", sum := "12b705d9d65443a2483ef8d99987c0543b49c0a7fc91b935f846b09c1c8ede1b", checked := Try.checked }
namespace Rows
def none {H : Type} : Left H := { results := [], args := [] }

/-- 'deadheatlaw.ProgRuns': WHATEVER THE INPUT: true; the input reads as it did. -/
def progRunsSpec : ChangeSpec := { name := "progRuns", fn := fun _ => fun
  | [d1, d2] => { results := [.lit (.bool true)], args := [d1, d2] }
  | _ => none }
def progRunsRow : OpenClaim := { program := "ytafcmgfmmlnngaa", sum := "12b705d9d65443a2483ef8d99987c0543b49c0a7fc91b935f846b09c1c8ede1b", func := "deadheat/deadheatlaw.ProgRuns", spec := "progRuns", unfollowed := true, recurses := true, plainKeys := false, apart := false }
def ProgRunsSaid : Prop := progRunsRow.holds Try.pinned (OpenSpec.ofChange progRunsSpec)

/-- ITS FALSE NEIGHBOUR: 'it returns false'. Refute it at one input. -/
def progRunsWrong : ChangeSpec := { name := "progRuns", fn := fun _ => fun
  | [d1, d2] => { results := [.lit (.bool false)], args := [d1, d2] }
  | _ => none }
def ProgRunsWrongFalsely : Prop := progRunsRow.holds Try.pinned (OpenSpec.ofChange progRunsWrong)

/-- 'deadheatlaw.GuardTells': WHATEVER THE INPUT: true; the input reads as it did. -/
def guardTellsSpec : ChangeSpec := { name := "guardTells", fn := fun _ => fun
  | [d] => { results := [.lit (.bool true)], args := [d] }
  | _ => none }
def guardTellsRow : OpenClaim := { program := "ytafcmgfmmlnngaa", sum := "12b705d9d65443a2483ef8d99987c0543b49c0a7fc91b935f846b09c1c8ede1b", func := "deadheat/deadheatlaw.GuardTells", spec := "guardTells", unfollowed := true, recurses := true, plainKeys := false, apart := false }
def GuardTellsSaid : Prop := guardTellsRow.holds Try.pinned (OpenSpec.ofChange guardTellsSpec)

/-- ITS FALSE NEIGHBOUR: 'it returns false'. Refute it at one input. -/
def guardTellsWrong : ChangeSpec := { name := "guardTells", fn := fun _ => fun
  | [d] => { results := [.lit (.bool false)], args := [d] }
  | _ => none }
def GuardTellsWrongFalsely : Prop := guardTellsRow.holds Try.pinned (OpenSpec.ofChange guardTellsWrong)

/-- 'deadheattop.TopSame': WHATEVER THE INPUT: true; the input reads as it did. -/
def topSameSpec : ChangeSpec := { name := "topSame", fn := fun _ => fun
  | [d1, d2, d3] => { results := [.lit (.bool true)], args := [d1, d2, d3] }
  | _ => none }
def topSameRow : OpenClaim := { program := "ytafcmgfmmlnngaa", sum := "12b705d9d65443a2483ef8d99987c0543b49c0a7fc91b935f846b09c1c8ede1b", func := "deadheat/deadheattop.TopSame", spec := "topSame", unfollowed := true, recurses := true, plainKeys := false, apart := false }
def TopSameSaid : Prop := topSameRow.holds Try.pinned (OpenSpec.ofChange topSameSpec)

/-- ITS FALSE NEIGHBOUR: 'it returns false'. Refute it at one input. -/
def topSameWrong : ChangeSpec := { name := "topSame", fn := fun _ => fun
  | [d1, d2, d3] => { results := [.lit (.bool false)], args := [d1, d2, d3] }
  | _ => none }
def TopSameWrongFalsely : Prop := topSameRow.holds Try.pinned (OpenSpec.ofChange topSameWrong)

/-- 'deadheatlaw.GuardWarns': WHATEVER THE INPUT: true; the input reads as it did. -/
def guardWarnsSpec : ChangeSpec := { name := "guardWarns", fn := fun _ => fun
  | [d] => { results := [.lit (.bool true)], args := [d] }
  | _ => none }
def guardWarnsRow : OpenClaim := { program := "ytafcmgfmmlnngaa", sum := "12b705d9d65443a2483ef8d99987c0543b49c0a7fc91b935f846b09c1c8ede1b", func := "deadheat/deadheatlaw.GuardWarns", spec := "guardWarns", unfollowed := true, recurses := true, plainKeys := false, apart := false }
def GuardWarnsSaid : Prop := guardWarnsRow.holds Try.pinned (OpenSpec.ofChange guardWarnsSpec)

/-- ITS FALSE NEIGHBOUR: 'it returns false'. Refute it at one input. -/
def guardWarnsWrong : ChangeSpec := { name := "guardWarns", fn := fun _ => fun
  | [d] => { results := [.lit (.bool false)], args := [d] }
  | _ => none }
def GuardWarnsWrongFalsely : Prop := guardWarnsRow.holds Try.pinned (OpenSpec.ofChange guardWarnsWrong)

/-- 'deadheatlaw.GuardCommon': WHATEVER THE INPUT: true; the input reads as it did. -/
def guardCommonSpec : ChangeSpec := { name := "guardCommon", fn := fun _ => fun
  | [d1, d2] => { results := [.lit (.bool true)], args := [d1, d2] }
  | _ => none }
def guardCommonRow : OpenClaim := { program := "ytafcmgfmmlnngaa", sum := "12b705d9d65443a2483ef8d99987c0543b49c0a7fc91b935f846b09c1c8ede1b", func := "deadheat/deadheatlaw.GuardCommon", spec := "guardCommon", unfollowed := true, recurses := true, plainKeys := false, apart := false }
def GuardCommonSaid : Prop := guardCommonRow.holds Try.pinned (OpenSpec.ofChange guardCommonSpec)

/-- ITS FALSE NEIGHBOUR: 'it returns false'. Refute it at one input. -/
def guardCommonWrong : ChangeSpec := { name := "guardCommon", fn := fun _ => fun
  | [d1, d2] => { results := [.lit (.bool false)], args := [d1, d2] }
  | _ => none }
def GuardCommonWrongFalsely : Prop := guardCommonRow.holds Try.pinned (OpenSpec.ofChange guardCommonWrong)

/-- 'deadheatlaw.FullRuns': WHATEVER THE INPUT: true; the input reads as it did. -/
def fullRunsSpec : ChangeSpec := { name := "fullRuns", fn := fun _ => fun
  | [d] => { results := [.lit (.bool true)], args := [d] }
  | _ => none }
def fullRunsRow : OpenClaim := { program := "ytafcmgfmmlnngaa", sum := "12b705d9d65443a2483ef8d99987c0543b49c0a7fc91b935f846b09c1c8ede1b", func := "deadheat/deadheatlaw.FullRuns", spec := "fullRuns", unfollowed := true, recurses := true, plainKeys := false, apart := false }
def FullRunsSaid : Prop := fullRunsRow.holds Try.pinned (OpenSpec.ofChange fullRunsSpec)

/-- ITS FALSE NEIGHBOUR: 'it returns false'. Refute it at one input. -/
def fullRunsWrong : ChangeSpec := { name := "fullRuns", fn := fun _ => fun
  | [d] => { results := [.lit (.bool false)], args := [d] }
  | _ => none }
def FullRunsWrongFalsely : Prop := fullRunsRow.holds Try.pinned (OpenSpec.ofChange fullRunsWrong)

/-- 'deadheatlaw.RaceAll': WHATEVER THE INPUT: true; the input reads as it did. -/
def raceAllSpec : ChangeSpec := { name := "raceAll", fn := fun _ => fun
  | [d] => { results := [.lit (.bool true)], args := [d] }
  | _ => none }
def raceAllRow : OpenClaim := { program := "ytafcmgfmmlnngaa", sum := "12b705d9d65443a2483ef8d99987c0543b49c0a7fc91b935f846b09c1c8ede1b", func := "deadheat/deadheatlaw.RaceAll", spec := "raceAll", unfollowed := true, recurses := true, plainKeys := false, apart := false }
def RaceAllSaid : Prop := raceAllRow.holds Try.pinned (OpenSpec.ofChange raceAllSpec)

/-- ITS FALSE NEIGHBOUR: 'it returns false'. Refute it at one input. -/
def raceAllWrong : ChangeSpec := { name := "raceAll", fn := fun _ => fun
  | [d] => { results := [.lit (.bool false)], args := [d] }
  | _ => none }
def RaceAllWrongFalsely : Prop := raceAllRow.holds Try.pinned (OpenSpec.ofChange raceAllWrong)

/-- 'deadheatlaw.SwapLeast': WHATEVER THE INPUT: true; the input reads as it did. -/
def swapLeastSpec : ChangeSpec := { name := "swapLeast", fn := fun _ => fun
  | [d] => { results := [.lit (.bool true)], args := [d] }
  | _ => none }
def swapLeastRow : OpenClaim := { program := "ytafcmgfmmlnngaa", sum := "12b705d9d65443a2483ef8d99987c0543b49c0a7fc91b935f846b09c1c8ede1b", func := "deadheat/deadheatlaw.SwapLeast", spec := "swapLeast", unfollowed := true, recurses := true, plainKeys := false, apart := false }
def SwapLeastSaid : Prop := swapLeastRow.holds Try.pinned (OpenSpec.ofChange swapLeastSpec)

/-- ITS FALSE NEIGHBOUR: 'it returns false'. Refute it at one input. -/
def swapLeastWrong : ChangeSpec := { name := "swapLeast", fn := fun _ => fun
  | [d] => { results := [.lit (.bool false)], args := [d] }
  | _ => none }
def SwapLeastWrongFalsely : Prop := swapLeastRow.holds Try.pinned (OpenSpec.ofChange swapLeastWrong)

/-- 'deadheatlaw.FullLast': WHATEVER THE INPUT: true; the input reads as it did. -/
def fullLastSpec : ChangeSpec := { name := "fullLast", fn := fun _ => fun
  | [d1, d2] => { results := [.lit (.bool true)], args := [d1, d2] }
  | _ => none }
def fullLastRow : OpenClaim := { program := "ytafcmgfmmlnngaa", sum := "12b705d9d65443a2483ef8d99987c0543b49c0a7fc91b935f846b09c1c8ede1b", func := "deadheat/deadheatlaw.FullLast", spec := "fullLast", unfollowed := true, recurses := true, plainKeys := false, apart := false }
def FullLastSaid : Prop := fullLastRow.holds Try.pinned (OpenSpec.ofChange fullLastSpec)

/-- ITS FALSE NEIGHBOUR: 'it returns false'. Refute it at one input. -/
def fullLastWrong : ChangeSpec := { name := "fullLast", fn := fun _ => fun
  | [d1, d2] => { results := [.lit (.bool false)], args := [d1, d2] }
  | _ => none }
def FullLastWrongFalsely : Prop := fullLastRow.holds Try.pinned (OpenSpec.ofChange fullLastWrong)

/-- 'deadheatlaw.SwapSames': WHATEVER THE INPUT: true; the input reads as it did. -/
def swapSamesSpec : ChangeSpec := { name := "swapSames", fn := fun _ => fun
  | [d1, d2] => { results := [.lit (.bool true)], args := [d1, d2] }
  | _ => none }
def swapSamesRow : OpenClaim := { program := "ytafcmgfmmlnngaa", sum := "12b705d9d65443a2483ef8d99987c0543b49c0a7fc91b935f846b09c1c8ede1b", func := "deadheat/deadheatlaw.SwapSames", spec := "swapSames", unfollowed := true, recurses := true, plainKeys := false, apart := false }
def SwapSamesSaid : Prop := swapSamesRow.holds Try.pinned (OpenSpec.ofChange swapSamesSpec)

/-- ITS FALSE NEIGHBOUR: 'it returns false'. Refute it at one input. -/
def swapSamesWrong : ChangeSpec := { name := "swapSames", fn := fun _ => fun
  | [d1, d2] => { results := [.lit (.bool false)], args := [d1, d2] }
  | _ => none }
def SwapSamesWrongFalsely : Prop := swapSamesRow.holds Try.pinned (OpenSpec.ofChange swapSamesWrong)

/-- 'deadheatlaw.FastRuns': WHATEVER THE INPUT: true; the input reads as it did. -/
def fastRunsSpec : ChangeSpec := { name := "fastRuns", fn := fun _ => fun
  | [d] => { results := [.lit (.bool true)], args := [d] }
  | _ => none }
def fastRunsRow : OpenClaim := { program := "ytafcmgfmmlnngaa", sum := "12b705d9d65443a2483ef8d99987c0543b49c0a7fc91b935f846b09c1c8ede1b", func := "deadheat/deadheatlaw.FastRuns", spec := "fastRuns", unfollowed := true, recurses := true, plainKeys := false, apart := false }
def FastRunsSaid : Prop := fastRunsRow.holds Try.pinned (OpenSpec.ofChange fastRunsSpec)

/-- ITS FALSE NEIGHBOUR: 'it returns false'. Refute it at one input. -/
def fastRunsWrong : ChangeSpec := { name := "fastRuns", fn := fun _ => fun
  | [d] => { results := [.lit (.bool false)], args := [d] }
  | _ => none }
def FastRunsWrongFalsely : Prop := fastRunsRow.holds Try.pinned (OpenSpec.ofChange fastRunsWrong)

/-- 'deadheatlaw.FastSlow': WHATEVER THE INPUT: true; the input reads as it did. -/
def fastSlowSpec : ChangeSpec := { name := "fastSlow", fn := fun _ => fun
  | [d] => { results := [.lit (.bool true)], args := [d] }
  | _ => none }
def fastSlowRow : OpenClaim := { program := "ytafcmgfmmlnngaa", sum := "12b705d9d65443a2483ef8d99987c0543b49c0a7fc91b935f846b09c1c8ede1b", func := "deadheat/deadheatlaw.FastSlow", spec := "fastSlow", unfollowed := true, recurses := true, plainKeys := false, apart := false }
def FastSlowSaid : Prop := fastSlowRow.holds Try.pinned (OpenSpec.ofChange fastSlowSpec)

/-- ITS FALSE NEIGHBOUR: 'it returns false'. Refute it at one input. -/
def fastSlowWrong : ChangeSpec := { name := "fastSlow", fn := fun _ => fun
  | [d] => { results := [.lit (.bool false)], args := [d] }
  | _ => none }
def FastSlowWrongFalsely : Prop := fastSlowRow.holds Try.pinned (OpenSpec.ofChange fastSlowWrong)

/- THE SECOND FORM. 'bulk': how many values and letters a reading holds, each counted each time it is reached (what is shared counts as often as it is met; a slice's spare places count too). A statement '..UptoSaid' is the law's where the arguments, and the package variables that the reading takes, are together of bulk at most 1048576: NARROWER than '..Said'. Prove '..Said' where nothing that the law and all that it calls make is longer than what came in: it says more and counts as full. Else prove '..UptoSaid'. A law counts once. -/
mutual
def uptoBulk {H : Type} : DataW H → Nat
  | .lit (.string bytes) => bytes.length + 1
  | .lit _ => 1
  | .nil => 1
  | .ptr d => uptoBulk d + 1
  | .slice elems spare => uptoBulkAll elems + uptoBulkAll spare + 1
  | .agg parts => uptoBulkAll parts + 1
  | .iface _ d => uptoBulk d + 1
  | .map entries => uptoBulkEntries entries + 1
  | .held _ => 1
def uptoBulkAll {H : Type} : List (DataW H) → Nat
  | [] => 0
  | d :: r => uptoBulk d + uptoBulkAll r
def uptoBulkEntries {H : Type} : List (Lit × DataW H) → Nat
  | [] => 0
  | x :: r => uptoBulkEntry x + uptoBulkEntries r
def uptoBulkEntry {H : Type} : Lit × DataW H → Nat
  | (.string bytes, d) => bytes.length + uptoBulk d + 1
  | (_, d) => uptoBulk d + 1
 end
def uptoSmall : (H : Type) → List (DataW H) → Bool := fun _ ds => decide (uptoBulkAll ds ≤ 1048576)
def OpenSpec.upto (s : _root_.Go.ChangeSpec) : _root_.Go.OpenSpec := { _root_.Go.OpenSpec.ofChange s with cond := some uptoSmall }

/-- 'deadheatlaw.ProgRuns', WHERE WHAT IT READS IS OF BULK AT MOST 1048576: true; the input reads as it did. -/
def progRunsUptoRow : OpenClaim := { program := "ytafcmgfmmlnngaa", sum := "12b705d9d65443a2483ef8d99987c0543b49c0a7fc91b935f846b09c1c8ede1b", func := "deadheat/deadheatlaw.ProgRuns", spec := "progRuns", unfollowed := true, recurses := true, plainKeys := false, apart := false, narrowed := true }
def ProgRunsUptoSaid : Prop := progRunsUptoRow.holds Try.pinned (OpenSpec.upto progRunsSpec)

/-- 'deadheatlaw.GuardTells', WHERE WHAT IT READS IS OF BULK AT MOST 1048576: true; the input reads as it did. -/
def guardTellsUptoRow : OpenClaim := { program := "ytafcmgfmmlnngaa", sum := "12b705d9d65443a2483ef8d99987c0543b49c0a7fc91b935f846b09c1c8ede1b", func := "deadheat/deadheatlaw.GuardTells", spec := "guardTells", unfollowed := true, recurses := true, plainKeys := false, apart := false, narrowed := true }
def GuardTellsUptoSaid : Prop := guardTellsUptoRow.holds Try.pinned (OpenSpec.upto guardTellsSpec)

/-- 'deadheattop.TopSame', WHERE WHAT IT READS IS OF BULK AT MOST 1048576: true; the input reads as it did. -/
def topSameUptoRow : OpenClaim := { program := "ytafcmgfmmlnngaa", sum := "12b705d9d65443a2483ef8d99987c0543b49c0a7fc91b935f846b09c1c8ede1b", func := "deadheat/deadheattop.TopSame", spec := "topSame", unfollowed := true, recurses := true, plainKeys := false, apart := false, narrowed := true }
def TopSameUptoSaid : Prop := topSameUptoRow.holds Try.pinned (OpenSpec.upto topSameSpec)

/-- 'deadheatlaw.GuardWarns', WHERE WHAT IT READS IS OF BULK AT MOST 1048576: true; the input reads as it did. -/
def guardWarnsUptoRow : OpenClaim := { program := "ytafcmgfmmlnngaa", sum := "12b705d9d65443a2483ef8d99987c0543b49c0a7fc91b935f846b09c1c8ede1b", func := "deadheat/deadheatlaw.GuardWarns", spec := "guardWarns", unfollowed := true, recurses := true, plainKeys := false, apart := false, narrowed := true }
def GuardWarnsUptoSaid : Prop := guardWarnsUptoRow.holds Try.pinned (OpenSpec.upto guardWarnsSpec)

/-- 'deadheatlaw.GuardCommon', WHERE WHAT IT READS IS OF BULK AT MOST 1048576: true; the input reads as it did. -/
def guardCommonUptoRow : OpenClaim := { program := "ytafcmgfmmlnngaa", sum := "12b705d9d65443a2483ef8d99987c0543b49c0a7fc91b935f846b09c1c8ede1b", func := "deadheat/deadheatlaw.GuardCommon", spec := "guardCommon", unfollowed := true, recurses := true, plainKeys := false, apart := false, narrowed := true }
def GuardCommonUptoSaid : Prop := guardCommonUptoRow.holds Try.pinned (OpenSpec.upto guardCommonSpec)

/-- 'deadheatlaw.FullRuns', WHERE WHAT IT READS IS OF BULK AT MOST 1048576: true; the input reads as it did. -/
def fullRunsUptoRow : OpenClaim := { program := "ytafcmgfmmlnngaa", sum := "12b705d9d65443a2483ef8d99987c0543b49c0a7fc91b935f846b09c1c8ede1b", func := "deadheat/deadheatlaw.FullRuns", spec := "fullRuns", unfollowed := true, recurses := true, plainKeys := false, apart := false, narrowed := true }
def FullRunsUptoSaid : Prop := fullRunsUptoRow.holds Try.pinned (OpenSpec.upto fullRunsSpec)

/-- 'deadheatlaw.RaceAll', WHERE WHAT IT READS IS OF BULK AT MOST 1048576: true; the input reads as it did. -/
def raceAllUptoRow : OpenClaim := { program := "ytafcmgfmmlnngaa", sum := "12b705d9d65443a2483ef8d99987c0543b49c0a7fc91b935f846b09c1c8ede1b", func := "deadheat/deadheatlaw.RaceAll", spec := "raceAll", unfollowed := true, recurses := true, plainKeys := false, apart := false, narrowed := true }
def RaceAllUptoSaid : Prop := raceAllUptoRow.holds Try.pinned (OpenSpec.upto raceAllSpec)

/-- 'deadheatlaw.SwapLeast', WHERE WHAT IT READS IS OF BULK AT MOST 1048576: true; the input reads as it did. -/
def swapLeastUptoRow : OpenClaim := { program := "ytafcmgfmmlnngaa", sum := "12b705d9d65443a2483ef8d99987c0543b49c0a7fc91b935f846b09c1c8ede1b", func := "deadheat/deadheatlaw.SwapLeast", spec := "swapLeast", unfollowed := true, recurses := true, plainKeys := false, apart := false, narrowed := true }
def SwapLeastUptoSaid : Prop := swapLeastUptoRow.holds Try.pinned (OpenSpec.upto swapLeastSpec)

/-- 'deadheatlaw.FullLast', WHERE WHAT IT READS IS OF BULK AT MOST 1048576: true; the input reads as it did. -/
def fullLastUptoRow : OpenClaim := { program := "ytafcmgfmmlnngaa", sum := "12b705d9d65443a2483ef8d99987c0543b49c0a7fc91b935f846b09c1c8ede1b", func := "deadheat/deadheatlaw.FullLast", spec := "fullLast", unfollowed := true, recurses := true, plainKeys := false, apart := false, narrowed := true }
def FullLastUptoSaid : Prop := fullLastUptoRow.holds Try.pinned (OpenSpec.upto fullLastSpec)

/-- 'deadheatlaw.SwapSames', WHERE WHAT IT READS IS OF BULK AT MOST 1048576: true; the input reads as it did. -/
def swapSamesUptoRow : OpenClaim := { program := "ytafcmgfmmlnngaa", sum := "12b705d9d65443a2483ef8d99987c0543b49c0a7fc91b935f846b09c1c8ede1b", func := "deadheat/deadheatlaw.SwapSames", spec := "swapSames", unfollowed := true, recurses := true, plainKeys := false, apart := false, narrowed := true }
def SwapSamesUptoSaid : Prop := swapSamesUptoRow.holds Try.pinned (OpenSpec.upto swapSamesSpec)

/-- 'deadheatlaw.FastRuns', WHERE WHAT IT READS IS OF BULK AT MOST 1048576: true; the input reads as it did. -/
def fastRunsUptoRow : OpenClaim := { program := "ytafcmgfmmlnngaa", sum := "12b705d9d65443a2483ef8d99987c0543b49c0a7fc91b935f846b09c1c8ede1b", func := "deadheat/deadheatlaw.FastRuns", spec := "fastRuns", unfollowed := true, recurses := true, plainKeys := false, apart := false, narrowed := true }
def FastRunsUptoSaid : Prop := fastRunsUptoRow.holds Try.pinned (OpenSpec.upto fastRunsSpec)

/-- 'deadheatlaw.FastSlow', WHERE WHAT IT READS IS OF BULK AT MOST 1048576: true; the input reads as it did. -/
def fastSlowUptoRow : OpenClaim := { program := "ytafcmgfmmlnngaa", sum := "12b705d9d65443a2483ef8d99987c0543b49c0a7fc91b935f846b09c1c8ede1b", func := "deadheat/deadheatlaw.FastSlow", spec := "fastSlow", unfollowed := true, recurses := true, plainKeys := false, apart := false, narrowed := true }
def FastSlowUptoSaid : Prop := fastSlowUptoRow.holds Try.pinned (OpenSpec.upto fastSlowSpec)

end Rows
end Go.Proofs.Ytafcmgfmmlnngaa
