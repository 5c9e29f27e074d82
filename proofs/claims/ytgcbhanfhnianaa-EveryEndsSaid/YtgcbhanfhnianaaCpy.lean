/- Copies of lists. Conditions: none. -/
import Derived.Test.YtgcbhanfhnianaaBase
import Derived.Test.YtgcbhanfhnianaaRows
import Derived.WalkKit
set_option linter.unusedSimpArgs false
set_option linter.unusedVariables false
set_option maxRecDepth 100000
open Go Go.Sx Go.Proofs
namespace Go.Proofs.Ytgcbhanfhnianaa.Cp
open Go.Proofs.Ytgcbhanfhnianaa.D

def j86 : JC :=
  (.seq (.ops <|
  qo 2 (.mv (.c .nils)) <|
  .nil)
  (.seq (.seq (.ops <|
  qo 3 (.mv (.t 0)) <|
  qo 4 (.snil false (.t 3)) <|
  .nil)
  (.cond (.t 4)
  (.seq (.ops <|
  qo 2 (.mv (.c .nils)) <|
  .nil)
  (.vecs 2 3 1 .ret))
  .skip))
  (.seq (.ops <|
  eo 5 (.bsl 3 1 0 (.int .i64 0) []) <|
  qo 6 (.mv (.t 0)) <|
  eo 7 (.app 3 1 8 (.t 5) (.t 6)) <|
  qo 2 (.mv (.t 7)) <|
  .nil)
  (.vecs 2 3 1 .ret))))
theorem c86 : fnIs Try.prog qall 86 = some (j86.flat, [.tmp 2], 8) := by kernel_rfl
theorem w86 : j86.wf 8 = true := by kernel_rfl
theorem f_CloneInt (xs : List Int) (h : xs.length ≤ 1000000) : FnOK Try.prog 86 [dIs.emb xs] [] (.vec 0 xs.length) [.vec 3 1 (xs.map DT.int.emb)] := by
  refine fn_walkF c86 w86 FH.none_ok rfl ?_
  unfold j86
  simp only [go_sem, ↓reduceIte, Nat.reduceAdd, Nat.reduceMul, Nat.reduceSub, Nat.reduceLT, Nat.reduceLeDiff, Nat.reduceEqDiff, Int.reduceToNat, Int.reduceEq, Int.reduceLT, Int.reduceLE, reduceCtorEq]
  refine ⟨fun h0 => ?_, fun _ => by omega⟩
  have : xs = [] := List.length_eq_zero_iff.1 h0
  subst this
  exact ⟨⟨rfl, rfl⟩, by simp⟩

def j37 : JC :=
  (.seq (.ops <|
  qo 2 (.mv (.c .nils)) <|
  .nil)
  (.seq (.ops <|
  qo 3 (.mv (.t 0)) <|
  eo 4 (.app 35 3 24 (.c .nils) (.t 3)) <|
  qo 2 (.mv (.t 4)) <|
  .nil)
  (.vecs 2 35 3 .ret)))
theorem c37 : fnIs Try.prog qall 37 = some (j37.flat, [.tmp 2], 5) := by kernel_rfl
theorem w37 : j37.wf 5 = true := by kernel_rfl
theorem f_CopyEv (xs : List Ev) (h : xs.length ≤ 1000000) : FnOK Try.prog 37 [dEs.emb xs] [] (.vec 0 xs.length) [.vec 35 3 (xs.map dEv.emb)] := by
  refine fn_walkF c37 w37 FH.none_ok rfl ?_
  unfold j37
  simp only [go_sem, ↓reduceIte, Nat.reduceAdd, Nat.reduceMul, Nat.reduceSub, Nat.reduceLT, Nat.reduceLeDiff, Nat.reduceEqDiff, Int.reduceToNat, Int.reduceEq, Int.reduceLT, Int.reduceLE, reduceCtorEq]
  omega

def j93 : JC :=
  (.seq (.ops <|
  qo 2 (.mv (.c .nils)) <|
  .nil)
  (.seq (.ops <|
  qo 3 (.mv (.t 0)) <|
  eo 4 (.app 3 1 8 (.c .nils) (.t 3)) <|
  qo 2 (.mv (.t 4)) <|
  .nil)
  (.vecs 2 3 1 .ret)))
theorem c93 : fnIs Try.prog qall 93 = some (j93.flat, [.tmp 2], 5) := by kernel_rfl
theorem w93 : j93.wf 5 = true := by kernel_rfl
theorem f_CopyInt (xs : List Int) (h : xs.length ≤ 1000000) : FnOK Try.prog 93 [dIs.emb xs] [] (.vec 0 xs.length) [.vec 3 1 (xs.map DT.int.emb)] := by
  refine fn_walkF c93 w93 FH.none_ok rfl ?_
  unfold j93
  simp only [go_sem, ↓reduceIte, Nat.reduceAdd, Nat.reduceMul, Nat.reduceSub, Nat.reduceLT, Nat.reduceLeDiff, Nat.reduceEqDiff, Int.reduceToNat, Int.reduceEq, Int.reduceLT, Int.reduceLE, reduceCtorEq]
  omega
end Go.Proofs.Ytgcbhanfhnianaa.Cp
