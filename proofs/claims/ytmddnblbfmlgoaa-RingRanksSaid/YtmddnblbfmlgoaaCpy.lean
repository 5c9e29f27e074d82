/- Copies of lists. Conditions: none. -/
import Derived.Test.YtmddnblbfmlgoaaBase
import Derived.Test.YtmddnblbfmlgoaaRows
import Derived.WalkKit
set_option linter.unusedSimpArgs false
set_option linter.unusedVariables false
set_option maxRecDepth 100000
open Go Go.Sx Go.Proofs
namespace Go.Proofs.Ytmddnblbfmlgoaa.Cp
open Go.Proofs.Ytmddnblbfmlgoaa.D


def j72 : JC :=
  (.seq (.ops <|
  qo 2 (.mv (.c .nils)) <|
  .nil)
  (.seq (.seq (.ops <|
  qo 3 (.mv (.t 0)) <|
  qo 4 (.snil false (.t 3)) <|
  .nil)
  (.cond (.t 4)
  (.seq (.ops <|
  qo 2 (.mv (.c .nils)) <|
  .nil)
  (.vecs 2 3 1 .ret))
  .skip))
  (.seq (.ops <|
  eo 5 (.bsl 3 1 0 (.int .i64 0) []) <|
  qo 6 (.mv (.t 0)) <|
  eo 7 (.app 3 1 8 (.t 5) (.t 6)) <|
  qo 2 (.mv (.t 7)) <|
  .nil)
  (.vecs 2 3 1 .ret))))
theorem c72 : fnIs Try.prog qall 72 = some (j72.flat, [.tmp 2], 8) := by kernel_rfl
theorem w72 : j72.wf 8 = true := by kernel_rfl
theorem f_CloneInt (xs : List Int) (h : xs.length ≤ 1000000) : FnOK Try.prog 72 [dIs.emb xs] [] (.vec 0 xs.length) [.vec 3 1 (xs.map DT.int.emb)] := by
  refine fn_walkF c72 w72 FH.none_ok rfl ?_
  unfold j72
  simp only [go_sem, ↓reduceIte, Nat.reduceAdd, Nat.reduceMul, Nat.reduceSub, Nat.reduceLT, Nat.reduceLeDiff, Nat.reduceEqDiff, Int.reduceToNat, Int.reduceEq, Int.reduceLT, Int.reduceLE, reduceCtorEq]
  refine ⟨fun h0 => ?_, fun _ => by omega⟩
  have : xs = [] := List.length_eq_zero_iff.1 h0
  subst this
  exact ⟨⟨rfl, rfl⟩, by simp⟩


def j64 : JC :=
  (.seq (.ops <|
  qo 2 (.mv (.c .nils)) <|
  .nil)
  (.seq (.ops <|
  qo 3 (.mv (.t 0)) <|
  eo 4 (.app 3 1 8 (.c .nils) (.t 3)) <|
  qo 2 (.mv (.t 4)) <|
  .nil)
  (.vecs 2 3 1 .ret)))
theorem c64 : fnIs Try.prog qall 64 = some (j64.flat, [.tmp 2], 5) := by kernel_rfl
theorem w64 : j64.wf 5 = true := by kernel_rfl
theorem f_CopyInt (xs : List Int) (h : xs.length ≤ 1000000) : FnOK Try.prog 64 [dIs.emb xs] [] (.vec 0 xs.length) [.vec 3 1 (xs.map DT.int.emb)] := by
  refine fn_walkF c64 w64 FH.none_ok rfl ?_
  unfold j64
  simp only [go_sem, ↓reduceIte, Nat.reduceAdd, Nat.reduceMul, Nat.reduceSub, Nat.reduceLT, Nat.reduceLeDiff, Nat.reduceEqDiff, Int.reduceToNat, Int.reduceEq, Int.reduceLT, Int.reduceLE, reduceCtorEq]
  omega
end Go.Proofs.Ytmddnblbfmlgoaa.Cp
