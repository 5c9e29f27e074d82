/- Pairs of places of which something holds, as the program tells them. Conditions: none. -/
import Derived.Test.YtgcbhanfhnianaaPairsD
set_option linter.unusedSimpArgs false
set_option linter.unusedVariables false
set_option maxRecDepth 100000
open Go Go.Sx Go.Proofs
namespace Go.Proofs.Ytgcbhanfhnianaa.Ps
open Go.Proofs.Ytgcbhanfhnianaa.D
def j117_1 : JC :=
  (.seq (.seq (.ops <|
  qo 15 (.mv (.t 7)) <|
  qo 16 (.mv (.t 0)) <|
  qo 17 (.len (.t 16)) <|
  qo 18 (.cmp .lss (.t 15) (.t 17)) <|
  .nil)
  (.cond (.t 18)
  .skip
  (.exit 2)))
  (.prune [1, 6, 7, 5, 0, 10, 9] (.seq (.block 3 (.seq (.ops <|
  qo 21 (.mv (.t 1)) <|
  qo 22 (.mv (.t 6)) <|
  qo 23 (.mv (.t 7)) <|
  eo 24 (.callv (.t 21) [(.t 22), (.t 23)]) <|
  .nil)
  (.prune [24, 5, 6, 7, 0, 1, 10, 9] (.cond (.t 24)
  (.ops <|
  qo 25 (.mv (.t 5)) <|
  qo 26 (.mv (.t 6)) <|
  qo 27 (.mv (.t 7)) <|
  qo 28 (.bld (.agg [(.int .i64 0), (.int .i64 0)]) [([.fld 0], 0, 1, (.t 26)), ([.fld 1], 1, 1, (.t 27))]) <|
  .prune [28, 25, 7, 0, 1, 6, 10, 9] <|
  eo 29 (.bsl 133 2 1 (.agg [(.int .i64 0), (.int .i64 0)]) [(0, (.t 28))]) <|
  eo 30 (.app 133 2 16 (.t 25) (.t 29)) <|
  qo 5 (.mv (.t 30)) <|
  .nil)
  .skip))))
  (.prune [7, 0, 1, 6, 5, 10, 9] (.ops <|
  qo 19 (.mv (.t 7)) <|
  qo 20 (.ar .add (.t 19) (I 1)) <|
  qo 7 (.mv (.t 20)) <|
  .nil)))))
def j117_2 : JC :=
  (.prune [10, 9, 0, 1, 5] (.ops <|
  qo 31 (.ar .add (.t 10) (I 1)) <|
  qo 10 (.mv (.t 31)) <|
  .nil))
def j117_3 : JC :=
  (.seq (.ops <|
  qo 11 (.cmp .lss (.t 10) (.t 9)) <|
  .nil)
  (.seq (.cond (.t 11)
  .skip
  (.exit 0))
  (.seq (.block 1 (.seq (.ops <|
  qo 12 (.mv (.t 10)) <|
  qo 6 (.mv (.t 12)) <|
  .nil)
  (.seq (.ops <|
  qo 13 (.mv (.t 6)) <|
  qo 14 (.ar .add (.t 13) (I 1)) <|
  qo 7 (.mv (.t 14)) <|
  .nil)
  (.prune [7, 0, 1, 6, 5, 10, 9] (.block 2 (.vecs 5 133 2 (.loop [0, 1, 6, 10, 9] [7, 5] j117_1)))))))
  j117_2)))
def j117_4 : JC :=
  (.prune [5] (.seq (.ops <|
  qo 32 (.mv (.t 5)) <|
  qo 4 (.mv (.t 32)) <|
  .nil)
  (.vecs 4 133 2 .ret)))
def j117 : JC :=
  (.seq (.ops <|
  qo 4 (.mv (.c .nils)) <|
  .nil)
  (.seq (.ops <|
  qo 5 (.mv (.c .nils)) <|
  .nil)
  (.seq (.seq (.ops <|
  qo 8 (.mv (.t 0)) <|
  qo 9 (.len (.t 8)) <|
  qo 10 (.mv (I 0)) <|
  .nil)
  (.block 0 (.vecs 5 133 2 (.loop [9, 0, 1] [10, 5] j117_3))))
  j117_4)))
theorem c117 : fnIs Try.prog qall 117 = some (j117.flat, [.tmp 4], 33) := by kernel_rfl
theorem w117 : j117.wf 33 = true := by kernel_rfl
theorem f_pairs (f : FuncId) {κ : Type} (A : DA κ) (y : κ) (l : List Ev) (p : Nat → Nat → Bool) (hn : l.length ≤ 100) (hf : okFn Try.prog f = true)
    (h : ∀ i j : Nat, i < l.length → j < l.length → FnOK Try.prog f (.int .i64 i :: .int .i64 j :: A.emb y) [] (.bool (p i j)) []) :
    FnOK Try.prog 117 [dEs.emb l, .fn f (A.emb y)] [] (.vec 0 (allP (upP p) l.length l.length).length) [.vec 133 2 ((allP (upP p) l.length l.length).map dPr.emb)] := by
  refine fn_walkF c117 w117 (Gq_ok f A y l.length p hf h) rfl ?_
  unfold j117
  simp only [go_sem, ↓reduceIte, Nat.reduceAdd, Nat.reduceMul, Nat.reduceSub, Nat.reduceLT, Nat.reduceLeDiff, Nat.reduceEqDiff, Int.reduceToNat, Int.reduceEq, Int.reduceLT, Int.reduceLE, reduceCtorEq]
  refine loopF Nat (fun i => [.int .i64 i, .vec 0 (allP (upP p) l.length i).length]) (fun i => [.vec 133 2 ((allP (upP p) l.length i).map dPr.emb)]) (fun i => i ≤ l.length) (fun i => l.length - i) 0 (by omega) ?_ rfl ?_
  · simp only [go_sem, ↓reduceIte, Nat.reduceAdd, Nat.reduceMul, Nat.reduceSub, Nat.reduceLT, Nat.reduceLeDiff, Nat.reduceEqDiff, Int.reduceToNat, Int.reduceEq, Int.reduceLT, Int.reduceLE, reduceCtorEq]
    rfl
  intro i hi
  unfold j117_3
  simp only [go_sem, ↓reduceIte, Nat.reduceAdd, Nat.reduceMul, Nat.reduceSub, Nat.reduceLT, Nat.reduceLeDiff, Nat.reduceEqDiff, Int.reduceToNat, Int.reduceEq, Int.reduceLT, Int.reduceLE, reduceCtorEq]
  have hb1 := allP_len (upP p) l.length i
  have hin : i * l.length ≤ 100 * 100 := Nat.mul_le_mul (by omega) hn
  have hw : IntKind.i64.wrap ((i : Int) + 1) = ((i + 1 : Nat) : Int) := IntWalk.i64_in _ (by omega)
  rw [hw]
  refine ⟨fun h1 => ?_, fun h1 => ?_⟩
  · refine loopF Nat (fun j => [.int .i64 j, .vec 0 (allP (upP p) l.length i ++ rowP (upP p) i j).length]) (fun j => [.vec 133 2 ((allP (upP p) l.length i ++ rowP (upP p) i j).map dPr.emb)]) (fun j => i + 1 ≤ j ∧ j ≤ l.length) (fun j => l.length - j) (i + 1) (by omega) ?_ ?_ ?_
    · simp only [go_sem, ↓reduceIte, Nat.reduceAdd, Nat.reduceMul, Nat.reduceSub, Nat.reduceLT, Nat.reduceLeDiff, Nat.reduceEqDiff, Int.reduceToNat, Int.reduceEq, Int.reduceLT, Int.reduceLE, reduceCtorEq]
      simp [rowP_up p i (i + 1) (Nat.le_refl _)]
    · simp [rowP_up p i (i + 1) (Nat.le_refl _)]
    intro j hj
    unfold j117_1
    simp only [go_sem, ↓reduceIte, Nat.reduceAdd, Nat.reduceMul, Nat.reduceSub, Nat.reduceLT, Nat.reduceLeDiff, Nat.reduceEqDiff, Int.reduceToNat, Int.reduceEq, Int.reduceLT, Int.reduceLE, reduceCtorEq, Gq_eq]
    have hb2 := rowP_len (upP p) i j
    have hu : upP p i j = p i j := by simp [upP, show i < j by omega]
    refine ⟨fun h2 => ⟨by omega, fun h3 => ⟨by simp only [List.length_append, List.length_map]; omega, j + 1, by omega, by omega, ⟨IntWalk.i64_in _ (by omega), ?_⟩, ?_⟩, fun h3 => ⟨j + 1, by omega, by omega, ⟨IntWalk.i64_in _ (by omega), ?_⟩, ?_⟩⟩, fun h2 => ?_⟩
    · simp [rowP, hu, h3, Nat.add_assoc]
    · simp [rowP, hu, h3, pr_emb]
    · simp [rowP, hu, h3, Nat.add_assoc]
    · simp [rowP, hu, h3, Nat.add_assoc]
    · have e : j = l.length := by omega
      subst e
      unfold j117_2
      simp only [go_sem, ↓reduceIte, Nat.reduceAdd, Nat.reduceMul, Nat.reduceSub, Nat.reduceLT, Nat.reduceLeDiff, Nat.reduceEqDiff, Int.reduceToNat, Int.reduceEq, Int.reduceLT, Int.reduceLE, reduceCtorEq]
      exact ⟨i + 1, by omega, by omega, ⟨hw, rfl⟩, by rw [allP, List.map_append]⟩
  · have e : i = l.length := by omega
    subst e
    unfold j117_4
    simp only [go_sem, ↓reduceIte, Nat.reduceAdd, Nat.reduceMul, Nat.reduceSub, Nat.reduceLT, Nat.reduceLeDiff, Nat.reduceEqDiff, Int.reduceToNat, Int.reduceEq, Int.reduceLT, Int.reduceLE, reduceCtorEq]
end Go.Proofs.Ytgcbhanfhnianaa.Ps
