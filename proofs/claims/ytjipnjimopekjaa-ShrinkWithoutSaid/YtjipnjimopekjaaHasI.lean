/- Whether a list of numbers has something. Conditions: none. -/
import Derived.Test.YtjipnjimopekjaaBase
import Derived.Test.YtjipnjimopekjaaRows
import Derived.WalkKit
set_option linter.unusedSimpArgs false
set_option linter.unusedVariables false
set_option maxRecDepth 100000
open Go Go.Sx Go.Proofs
namespace Go.Proofs.Ytjipnjimopekjaa.Hs
open Go.Proofs.Ytjipnjimopekjaa.D
def hasI (l : List Int) (x : Int) : Bool := l.any fun y => decide (y = x)
theorem hasI_iff {l : List Int} {x : Int} : hasI l x = true ↔ x ∈ l := by simp [hasI]
def j30_1 : JC :=
  (.seq (.ops <|
  qo 10 (.cmp .lss (.t 9) (.t 8)) <|
  .nil)
  (.seq (.cond (.t 10)
  .skip
  (.exit 0))
  (.seq (.block 1 (.seq (.ops <|
  qo 11 (.is 1 (.t 7) (.t 9)) <|
  eo 12 (.load 1 false (.t 11)) <|
  qo 6 (.mv (.t 12)) <|
  .nil)
  (.seq (.ops <|
  .prune [1, 6, 9, 8, 7] <|
  qo 13 (.mv (.t 1)) <|
  qo 14 (.mv (.t 6)) <|
  qo 15 (.cmp .eql (.t 13) (.t 14)) <|
  .nil)
  (.prune [15, 9, 8, 7, 1] (.cond (.t 15)
  (.seq (.ops <|
  qo 4 (.mv (B true)) <|
  .nil)
  .ret)
  .skip)))))
  (.prune [9, 8, 7, 1] (.ops <|
  qo 16 (.ar .add (.t 9) (I 1)) <|
  qo 9 (.mv (.t 16)) <|
  .nil)))))
def j30_2 : JC :=
  (.prune [] (.seq (.ops <|
  qo 4 (.mv (B false)) <|
  .nil)
  .ret))
def j30 : JC :=
  (.seq (.ops <|
  qo 4 (.mv (B false)) <|
  .nil)
  (.seq (.seq (.ops <|
  qo 7 (.mv (.t 0)) <|
  qo 8 (.len (.t 7)) <|
  qo 9 (.mv (I 0)) <|
  .nil)
  (.block 0 (.loop [8, 7, 1] [9] j30_1)))
  j30_2))
theorem c30 : fnIs Try.prog qall 30 = some (j30.flat, [.tmp 4], 17) := by kernel_rfl
theorem w30 : j30.wf 17 = true := by kernel_rfl
theorem f_HasInt (l : List Int) (x : Int) : FnOK Try.prog 30 [dIs.emb l, .int .i64 x] [] (.bool (hasI l x)) [] := by
  refine fn_len fun hB => fn_walkF c30 w30 FH.none_ok rfl ?_
  simp only [go_sem, ↓reduceIte, Nat.reduceAdd, Nat.reduceMul, Nat.reduceSub, Nat.reduceLT, Nat.reduceLeDiff, Nat.reduceEqDiff, Int.reduceToNat, Int.reduceEq, Int.reduceLT, Int.reduceLE, reduceCtorEq] at hB
  unfold j30
  simp only [go_sem, ↓reduceIte, Nat.reduceAdd, Nat.reduceMul, Nat.reduceSub, Nat.reduceLT, Nat.reduceLeDiff, Nat.reduceEqDiff, Int.reduceToNat, Int.reduceEq, Int.reduceLT, Int.reduceLE, reduceCtorEq]
  refine loopF Nat (fun i => [.int .i64 i]) (fun _ => []) (fun i => i ≤ l.length ∧ (l.take i).any (fun y => decide (y = x)) = false) (fun i => l.length - i) 0 ⟨by omega, rfl⟩ ?_ rfl ?_
  · simp only [go_sem, ↓reduceIte, Nat.reduceAdd, Nat.reduceMul, Nat.reduceSub, Nat.reduceLT, Nat.reduceLeDiff, Nat.reduceEqDiff, Int.reduceToNat, Int.reduceEq, Int.reduceLT, Int.reduceLE, reduceCtorEq]
  intro i hi
  unfold j30_1
  simp only [go_sem, ↓reduceIte, Nat.reduceAdd, Nat.reduceMul, Nat.reduceSub, Nat.reduceLT, Nat.reduceLeDiff, Nat.reduceEqDiff, Int.reduceToNat, Int.reduceEq, Int.reduceLT, Int.reduceLE, reduceCtorEq]
  refine ⟨fun h1 => ⟨by omega, fun h2 => ?_, fun h2 => ⟨i + 1, ⟨by omega, ?_⟩, by omega, IntWalk.i64_in _ (by omega)⟩⟩, fun h1 => ?_⟩
  · rw [hasI, any_of (i := i) (d := (0 : Int)) (by omega) (decide_eq_true h2.symm)]
  · rw [any_take (0 : Int) _ (by omega) hi.2]; exact decide_eq_false (fun h => h2 h.symm)
  · rw [hasI, any_none h1 hi]
    unfold j30_2
    simp only [go_sem, ↓reduceIte, Nat.reduceAdd, Nat.reduceMul, Nat.reduceSub, Nat.reduceLT, Nat.reduceLeDiff, Nat.reduceEqDiff, Int.reduceToNat, Int.reduceEq, Int.reduceLT, Int.reduceLE, reduceCtorEq]
end Go.Proofs.Ytjipnjimopekjaa.Hs
