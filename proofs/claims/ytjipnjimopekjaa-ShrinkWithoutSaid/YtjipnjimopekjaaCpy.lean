/- Copies of lists. Conditions: none. -/
import Derived.Test.YtjipnjimopekjaaBase
import Derived.Test.YtjipnjimopekjaaRows
import Derived.WalkKit
set_option linter.unusedSimpArgs false
set_option linter.unusedVariables false
set_option maxRecDepth 100000
open Go Go.Sx Go.Proofs
namespace Go.Proofs.Ytjipnjimopekjaa.Cp
open Go.Proofs.Ytjipnjimopekjaa.D

def j54 : JC :=
  (.seq (.ops <|
  qo 2 (.mv (.c .nils)) <|
  .nil)
  (.seq (.seq (.ops <|
  qo 3 (.mv (.t 0)) <|
  qo 4 (.snil false (.t 3)) <|
  .nil)
  (.cond (.t 4)
  (.seq (.ops <|
  qo 2 (.mv (.c .nils)) <|
  .nil)
  (.vecs 2 26 3 .ret))
  .skip))
  (.seq (.ops <|
  eo 5 (.bsl 26 3 0 (.agg [(.int .i64 0), (.int .i64 0), (.int .i64 0)]) []) <|
  qo 6 (.mv (.t 0)) <|
  eo 7 (.app 26 3 24 (.t 5) (.t 6)) <|
  qo 2 (.mv (.t 7)) <|
  .nil)
  (.vecs 2 26 3 .ret))))
theorem c54 : fnIs Try.prog qall 54 = some (j54.flat, [.tmp 2], 8) := by kernel_rfl
theorem w54 : j54.wf 8 = true := by kernel_rfl
theorem f_CloneEv (xs : List Ev) (h : xs.length ≤ 1000000) : FnOK Try.prog 54 [dEs.emb xs] [] (.vec 0 xs.length) [.vec 26 3 (xs.map dEv.emb)] := by
  refine fn_walkF c54 w54 FH.none_ok rfl ?_
  unfold j54
  simp only [go_sem, ↓reduceIte, Nat.reduceAdd, Nat.reduceMul, Nat.reduceSub, Nat.reduceLT, Nat.reduceLeDiff, Nat.reduceEqDiff, Int.reduceToNat, Int.reduceEq, Int.reduceLT, Int.reduceLE, reduceCtorEq]
  refine ⟨fun h0 => ?_, fun _ => by omega⟩
  have : xs = [] := List.length_eq_zero_iff.1 h0
  subst this
  exact ⟨⟨rfl, rfl⟩, by simp⟩

def j178 : JC :=
  (.seq (.ops <|
  qo 2 (.mv (.c .nils)) <|
  .nil)
  (.seq (.seq (.ops <|
  qo 3 (.mv (.t 0)) <|
  qo 4 (.snil false (.t 3)) <|
  .nil)
  (.cond (.t 4)
  (.seq (.ops <|
  qo 2 (.mv (.c .nils)) <|
  .nil)
  (.vecs 2 3 1 .ret))
  .skip))
  (.seq (.ops <|
  eo 5 (.bsl 3 1 0 (.int .i64 0) []) <|
  qo 6 (.mv (.t 0)) <|
  eo 7 (.app 3 1 8 (.t 5) (.t 6)) <|
  qo 2 (.mv (.t 7)) <|
  .nil)
  (.vecs 2 3 1 .ret))))
theorem c178 : fnIs Try.prog qall 178 = some (j178.flat, [.tmp 2], 8) := by kernel_rfl
theorem w178 : j178.wf 8 = true := by kernel_rfl
theorem f_CloneInt (xs : List Int) (h : xs.length ≤ 1000000) : FnOK Try.prog 178 [dIs.emb xs] [] (.vec 0 xs.length) [.vec 3 1 (xs.map DT.int.emb)] := by
  refine fn_walkF c178 w178 FH.none_ok rfl ?_
  unfold j178
  simp only [go_sem, ↓reduceIte, Nat.reduceAdd, Nat.reduceMul, Nat.reduceSub, Nat.reduceLT, Nat.reduceLeDiff, Nat.reduceEqDiff, Int.reduceToNat, Int.reduceEq, Int.reduceLT, Int.reduceLE, reduceCtorEq]
  refine ⟨fun h0 => ?_, fun _ => by omega⟩
  have : xs = [] := List.length_eq_zero_iff.1 h0
  subst this
  exact ⟨⟨rfl, rfl⟩, by simp⟩

def j38 : JC :=
  (.seq (.ops <|
  qo 2 (.mv (.c .nils)) <|
  .nil)
  (.seq (.ops <|
  qo 3 (.mv (.t 0)) <|
  eo 4 (.app 26 3 24 (.c .nils) (.t 3)) <|
  qo 2 (.mv (.t 4)) <|
  .nil)
  (.vecs 2 26 3 .ret)))
theorem c38 : fnIs Try.prog qall 38 = some (j38.flat, [.tmp 2], 5) := by kernel_rfl
theorem w38 : j38.wf 5 = true := by kernel_rfl
theorem f_CopyEv (xs : List Ev) (h : xs.length ≤ 1000000) : FnOK Try.prog 38 [dEs.emb xs] [] (.vec 0 xs.length) [.vec 26 3 (xs.map dEv.emb)] := by
  refine fn_walkF c38 w38 FH.none_ok rfl ?_
  unfold j38
  simp only [go_sem, ↓reduceIte, Nat.reduceAdd, Nat.reduceMul, Nat.reduceSub, Nat.reduceLT, Nat.reduceLeDiff, Nat.reduceEqDiff, Int.reduceToNat, Int.reduceEq, Int.reduceLT, Int.reduceLE, reduceCtorEq]
  omega

def j188 : JC :=
  (.seq (.ops <|
  qo 2 (.mv (.c .nils)) <|
  .nil)
  (.seq (.ops <|
  qo 3 (.mv (.t 0)) <|
  eo 4 (.app 3 1 8 (.c .nils) (.t 3)) <|
  qo 2 (.mv (.t 4)) <|
  .nil)
  (.vecs 2 3 1 .ret)))
theorem c188 : fnIs Try.prog qall 188 = some (j188.flat, [.tmp 2], 5) := by kernel_rfl
theorem w188 : j188.wf 5 = true := by kernel_rfl
theorem f_CopyInt (xs : List Int) (h : xs.length ≤ 1000000) : FnOK Try.prog 188 [dIs.emb xs] [] (.vec 0 xs.length) [.vec 3 1 (xs.map DT.int.emb)] := by
  refine fn_walkF c188 w188 FH.none_ok rfl ?_
  unfold j188
  simp only [go_sem, ↓reduceIte, Nat.reduceAdd, Nat.reduceMul, Nat.reduceSub, Nat.reduceLT, Nat.reduceLeDiff, Nat.reduceEqDiff, Int.reduceToNat, Int.reduceEq, Int.reduceLT, Int.reduceLE, reduceCtorEq]
  omega
end Go.Proofs.Ytjipnjimopekjaa.Cp
