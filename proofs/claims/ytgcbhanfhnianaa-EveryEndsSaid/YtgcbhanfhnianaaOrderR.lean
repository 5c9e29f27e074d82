/- What is directly ahead: the reference. Conditions: none. -/
import Derived.Test.YtgcbhanfhnianaaPairsD
import Derived.Test.YtgcbhanfhnianaaTraceR
import Derived.Test.YtgcbhanfhnianaaBase
import Derived.Test.YtgcbhanfhnianaaRows
import Derived.WalkKit
set_option linter.unusedSimpArgs false
set_option linter.unusedVariables false
set_option maxRecDepth 100000
open Go Go.Sx Go.Proofs
namespace Go.Proofs.Ytgcbhanfhnianaa.Od
open Go.Proofs.Ytgcbhanfhnianaa.D Go.Proofs.Ytgcbhanfhnianaa.Tr Go.Proofs.Ytgcbhanfhnianaa.Ps

def j98 : JC :=
  (.seq (.ops <|
  eo 2 (.box 35 (.t 0)) <|
  eo 3 (.box 35 (.t 1)) <|
  qo 4 (.mv (B false)) <|
  .nil)
  (.seq (.ops <|
  qo 5 (.fa 1 1 (.t 2)) <|
  eo 6 (.load 1 false (.t 5)) <|
  qo 7 (.fa 1 1 (.t 3)) <|
  eo 8 (.load 1 false (.t 7)) <|
  .prune [6, 8, 2, 3] <|
  qo 9 (.cmp .eql (.t 6) (.t 8)) <|
  qo 10 (.mv (.t 9)) <|
  .sc true 26 10 (qo 11 (.fa 0 0 (.t 2)) <|
  eo 12 (.load 1 false (.t 11)) <|
  qo 13 (.cmp .eql (.t 12) (I 4)) <|
  qo 14 (.mv (.t 13)) <|
  .sc false 18 14 (qo 15 (.fa 0 0 (.t 3)) <|
  eo 16 (.load 1 false (.t 15)) <|
  qo 17 (.cmp .eql (.t 16) (I 3)) <|
  .nil) (.t 17) <|
  qo 19 (.mv (.t 18)) <|
  .sc false 25 19 (qo 20 (.fa 2 2 (.t 2)) <|
  eo 21 (.load 1 false (.t 20)) <|
  qo 22 (.fa 2 2 (.t 3)) <|
  eo 23 (.load 1 false (.t 22)) <|
  qo 24 (.cmp .eql (.t 21) (.t 23)) <|
  .nil) (.t 24) <|
  .nil) (.t 25) <|
  .prune [26, 2, 3] <|
  qo 27 (.mv (.t 26)) <|
  .sc true 38 27 (qo 28 (.fa 0 0 (.t 2)) <|
  eo 29 (.load 1 false (.t 28)) <|
  qo 30 (.cmp .eql (.t 29) (I 5)) <|
  qo 31 (.mv (.t 30)) <|
  .sc false 37 31 (qo 32 (.fa 1 1 (.t 3)) <|
  eo 33 (.load 1 false (.t 32)) <|
  qo 34 (.fa 2 2 (.t 2)) <|
  eo 35 (.load 1 false (.t 34)) <|
  qo 36 (.cmp .eql (.t 33) (.t 35)) <|
  .nil) (.t 36) <|
  .nil) (.t 37) <|
  qo 39 (.mv (.t 38)) <|
  .sc true 50 39 (qo 40 (.fa 0 0 (.t 3)) <|
  eo 41 (.load 1 false (.t 40)) <|
  qo 42 (.cmp .eql (.t 41) (I 6)) <|
  qo 43 (.mv (.t 42)) <|
  .sc false 49 43 (qo 44 (.fa 1 1 (.t 2)) <|
  eo 45 (.load 1 false (.t 44)) <|
  qo 46 (.fa 2 2 (.t 3)) <|
  eo 47 (.load 1 false (.t 46)) <|
  qo 48 (.cmp .eql (.t 45) (.t 47)) <|
  .nil) (.t 48) <|
  .nil) (.t 49) <|
  .prune [50, 2, 3] <|
  qo 51 (.mv (.t 50)) <|
  .sc true 67 51 (qo 52 (.fa 0 0 (.t 2)) <|
  eo 53 (.load 1 false (.t 52)) <|
  qo 54 (.cmp .eql (.t 53) (I 8)) <|
  qo 55 (.mv (.t 54)) <|
  .sc false 59 55 (qo 56 (.fa 0 0 (.t 3)) <|
  eo 57 (.load 1 false (.t 56)) <|
  qo 58 (.cmp .eql (.t 57) (I 7)) <|
  .nil) (.t 58) <|
  qo 60 (.mv (.t 59)) <|
  .sc false 66 60 (qo 61 (.fa 2 2 (.t 2)) <|
  eo 62 (.load 1 false (.t 61)) <|
  qo 63 (.fa 2 2 (.t 3)) <|
  eo 64 (.load 1 false (.t 63)) <|
  qo 65 (.cmp .eql (.t 62) (.t 64)) <|
  .nil) (.t 65) <|
  .nil) (.t 66) <|
  qo 68 (.mv (.t 67)) <|
  .sc true 84 68 (qo 69 (.fa 0 0 (.t 2)) <|
  eo 70 (.load 1 false (.t 69)) <|
  qo 71 (.cmp .eql (.t 70) (I 5)) <|
  qo 72 (.mv (.t 71)) <|
  .sc false 76 72 (qo 73 (.fa 0 0 (.t 3)) <|
  eo 74 (.load 1 false (.t 73)) <|
  qo 75 (.cmp .eql (.t 74) (I 6)) <|
  .nil) (.t 75) <|
  qo 77 (.mv (.t 76)) <|
  .sc false 83 77 (qo 78 (.fa 2 2 (.t 2)) <|
  eo 79 (.load 1 false (.t 78)) <|
  qo 80 (.fa 2 2 (.t 3)) <|
  eo 81 (.load 1 false (.t 80)) <|
  qo 82 (.cmp .eql (.t 79) (.t 81)) <|
  .nil) (.t 82) <|
  .nil) (.t 83) <|
  qo 4 (.mv (.t 84)) <|
  .nil)
  .ret))
theorem c98 : fnIs Try.prog qall 98 = some (j98.flat, [.tmp 4], 85) := by kernel_rfl
theorem w98 : j98.wf 85 = true := by kernel_rfl
def dirP (a b : Ev) : Bool := decide (a.thr = b.thr) || decide (a.kind = 4) && decide (b.kind = 3) && decide (a.obj = b.obj) || decide (a.kind = 5) && decide (a.obj = b.thr) ||
  decide (b.kind = 6) && decide (b.obj = a.thr) || decide (a.kind = 8) && decide (b.kind = 7) && decide (a.obj = b.obj) || decide (a.kind = 5) && decide (b.kind = 6) && decide (a.obj = b.obj)
theorem f_RDirectly (a b : Ev) : FnOK Try.prog 98 [dEv.emb a, dEv.emb b] [] (.bool (dirP a b)) [] := by
  refine fn_walkF c98 w98 FH.none_ok rfl ?_
  unfold j98
  simp only [go_sem, ↓reduceIte, Nat.reduceAdd, Nat.reduceMul, Nat.reduceSub, Nat.reduceLT, Nat.reduceLeDiff, Nat.reduceEqDiff, Int.reduceToNat, Int.reduceEq, Int.reduceLT, Int.reduceLE, reduceCtorEq]
  unfold dirP
  rw [show decide (b.thr = a.obj) = decide (a.obj = b.thr) from decide_eq_decide.2 eq_comm, show decide (a.thr = b.obj) = decide (b.obj = a.thr) from decide_eq_decide.2 eq_comm]
def dirL (l : List Ev) (i j : Nat) : Bool := dirP (l.getD i dEv.dft) (l.getD j dEv.dft)
end Go.Proofs.Ytgcbhanfhnianaa.Od
