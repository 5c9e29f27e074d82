/- Whether two lists are the same, type by type. Conditions: none. -/
import Derived.Test.YtgcbhanfhnianaaDoorBase
import Derived.Test.YtgcbhanfhnianaaDoorRows
import Derived.WalkKit
set_option linter.unusedSimpArgs false
set_option linter.unusedVariables false
set_option maxRecDepth 100000
open Go Go.Sx Go.Proofs
namespace Go.Proofs.YtgcbhanfhnianaaDoor.Eqs
open Go.Proofs.YtgcbhanfhnianaaDoor.D


def j15_1 : JC :=
  (.seq (.ops <|
  qo 15 (.cmp .lss (.t 14) (.t 13)) <|
  .nil)
  (.seq (.cond (.t 15)
  .skip
  (.exit 0))
  (.seq (.block 1 (.seq (.ops <|
  qo 16 (.mv (.t 14)) <|
  qo 17 (.is 3 (.t 12) (.t 14)) <|
  eo 18 (.load 3 true (.t 17)) <|
  eo 6 (.alloc 29 (.agg [(.int .i64 0), (.int .i64 0), (.int .i64 0)])) <|
  qo 5 (.mv (.t 16)) <|
  en (.store 3 (.t 6) (.t 18)) <|
  .nil)
  (.prune [6, 1, 5, 14, 13, 12] (.seq (.dops <|
  eo 19 (.load 3 true (.t 6)) <|
  qo 20 (.mv (.t 1)) <|
  qo 21 (.mv (.t 5)) <|
  qo 22 (.is 3 (.t 20) (.t 21)) <|
  eo 23 (.load 3 true (.t 22)) <|
  qo 24 (.aeq true (.st [(.int .i64), (.int .i64), (.int .i64)]) (.t 19) (.t 23)) <|
  .nil)
  (.prune [24, 14, 13, 12, 1] (.cond (.t 24)
  (.seq (.ops <|
  qo 4 (.mv (B false)) <|
  .nil)
  .ret)
  .skip))))))
  (.prune [14, 13, 12, 1] (.ops <|
  qo 25 (.ar .add (.t 14) (I 1)) <|
  qo 14 (.mv (.t 25)) <|
  .nil)))))
def j15_2 : JC :=
  (.prune [] (.seq (.ops <|
  qo 4 (.mv (B true)) <|
  .nil)
  .ret))
def j15 : JC :=
  (.seq (.ops <|
  qo 4 (.mv (B false)) <|
  .nil)
  (.seq (.seq (.ops <|
  qo 7 (.mv (.t 0)) <|
  qo 8 (.len (.t 7)) <|
  qo 9 (.mv (.t 1)) <|
  qo 10 (.len (.t 9)) <|
  qo 11 (.cmp .neq (.t 8) (.t 10)) <|
  .nil)
  (.cond (.t 11)
  (.seq (.ops <|
  qo 4 (.mv (B false)) <|
  .nil)
  .ret)
  .skip))
  (.seq (.seq (.ops <|
  .prune [0, 1] <|
  qo 12 (.mv (.t 0)) <|
  qo 13 (.len (.t 12)) <|
  qo 14 (.mv (I 0)) <|
  .nil)
  (.prune [14, 13, 12, 1] (.block 0 (.loop [13, 12, 1] [14] j15_1))))
  j15_2)))
theorem c15 : fnIs Tryd.prog qall 15 = some (j15.flat, [.tmp 4], 26) := by kernel_rfl
theorem w15 : j15.wf 26 = true := by kernel_rfl
def ef_EqEvent (x y : Ev) : Bool := decide (x.kind = y.kind) && (decide (x.thr = y.thr) && decide (x.obj = y.obj))
theorem f_EqEvent (xs ys : List Ev) : FnOK Tryd.prog 15 [dEs.emb xs, dEs.emb ys] [] (.bool (eqBy ef_EqEvent xs ys)) [] := by
  refine fn_len fun hB => fn_walkF c15 w15 FH.none_ok rfl ?_
  simp only [go_sem, ↓reduceIte, Nat.reduceAdd, Nat.reduceMul, Nat.reduceSub, Nat.reduceLT, Nat.reduceLeDiff, Nat.reduceEqDiff, Int.reduceToNat, Int.reduceEq, Int.reduceLT, Int.reduceLE, reduceCtorEq] at hB
  unfold j15
  simp only [go_sem, ↓reduceIte, Nat.reduceAdd, Nat.reduceMul, Nat.reduceSub, Nat.reduceLT, Nat.reduceLeDiff, Nat.reduceEqDiff, Int.reduceToNat, Int.reduceEq, Int.reduceLT, Int.reduceLE, reduceCtorEq]
  refine ⟨fun h => ?_, fun h => ?_⟩
  · rw [eqBy_len h]
  · refine loopF Nat (fun i => [.int .i64 i]) (fun i => []) (fun i => i ≤ xs.length ∧ eqBy ef_EqEvent xs ys = eqBy ef_EqEvent (xs.drop i) (ys.drop i)) (fun i => xs.length - i) 0 ⟨by omega, rfl⟩ ?_ rfl ?_
    · simp only [go_sem, ↓reduceIte, Nat.reduceAdd, Nat.reduceMul, Nat.reduceSub, Nat.reduceLT, Nat.reduceLeDiff, Nat.reduceEqDiff, Int.reduceToNat, Int.reduceEq, Int.reduceLT, Int.reduceLE, reduceCtorEq]
    · intro i hi
      unfold j15_1
      simp only [go_sem, ↓reduceIte, Nat.reduceAdd, Nat.reduceMul, Nat.reduceSub, Nat.reduceLT, Nat.reduceLeDiff, Nat.reduceEqDiff, Int.reduceToNat, Int.reduceEq, Int.reduceLT, Int.reduceLE, reduceCtorEq]
      refine ⟨fun h1 => ?_, fun h1 => ?_⟩
      · obtain ⟨hi1, hi2⟩ := hi
        rw [eqBy_drop (d := dEv.dft) (d' := dEv.dft) (by omega) (by omega)] at hi2
        refine ⟨⟨by omega, by omega⟩, ⟨by omega, by omega⟩, fun h2 => ?_, fun h2 => ⟨i + 1, ⟨by omega, ?_⟩, by omega, IntWalk.i64_in _ (by omega)⟩⟩
        · rw [hi2, show ef_EqEvent (xs.getD i dEv.dft) (ys.getD i dEv.dft) = false by first | exact h2 | exact decide_eq_false h2]; rfl
        · rw [hi2, show ef_EqEvent (xs.getD i dEv.dft) (ys.getD i dEv.dft) = true by first | exact h2 | exact decide_eq_true h2]; rfl
      · rw [eqBy_done hi.2 (by omega) (by omega)]
        unfold j15_2
        simp only [go_sem, ↓reduceIte, Nat.reduceAdd, Nat.reduceMul, Nat.reduceSub, Nat.reduceLT, Nat.reduceLeDiff, Nat.reduceEqDiff, Int.reduceToNat, Int.reduceEq, Int.reduceLT, Int.reduceLE, reduceCtorEq]



end Go.Proofs.YtgcbhanfhnianaaDoor.Eqs
