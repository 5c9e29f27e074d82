/- Pairs of places of which something holds, as the reference tells them. Conditions: none. -/
import Derived.Test.YtohbjnpafpcbkaaPairsD
set_option linter.unusedSimpArgs false
set_option linter.unusedVariables false
set_option maxRecDepth 100000
open Go Go.Sx Go.Proofs
namespace Go.Proofs.Ytohbjnpafpcbkaa.Ps
open Go.Proofs.Ytohbjnpafpcbkaa.D
def j64_1 : JC :=
  (.seq (.ops <|
  qo 14 (.cmp .lss (.t 13) (.t 12)) <|
  .nil)
  (.seq (.cond (.t 14)
  .skip
  (.exit 2))
  (.seq (.block 3 (.seq (.ops <|
  qo 15 (.mv (.t 13)) <|
  qo 7 (.mv (.t 15)) <|
  .nil)
  (.prune [1, 6, 7, 5, 13, 12, 9, 8, 0] (.seq (.ops <|
  qo 16 (.mv (.t 1)) <|
  qo 17 (.mv (.t 6)) <|
  qo 18 (.mv (.t 7)) <|
  eo 19 (.callv (.t 16) [(.t 17), (.t 18)]) <|
  .nil)
  (.prune [19, 5, 6, 7, 13, 12, 1, 9, 8, 0] (.cond (.t 19)
  (.ops <|
  qo 20 (.mv (.t 5)) <|
  qo 21 (.mv (.t 6)) <|
  qo 22 (.mv (.t 7)) <|
  .prune [21, 22, 20, 13, 12, 1, 6, 9, 8, 0] <|
  qo 23 (.bld (.agg [(.int .i64 0), (.int .i64 0)]) [([.fld 0], 0, 1, (.t 21)), ([.fld 1], 1, 1, (.t 22))]) <|
  eo 24 (.bsl 45 2 1 (.agg [(.int .i64 0), (.int .i64 0)]) [(0, (.t 23))]) <|
  eo 25 (.app 45 2 16 (.t 20) (.t 24)) <|
  qo 5 (.mv (.t 25)) <|
  .nil)
  .skip))))))
  (.prune [13, 12, 1, 6, 5, 9, 8, 0] (.ops <|
  qo 26 (.ar .add (.t 13) (I 1)) <|
  qo 13 (.mv (.t 26)) <|
  .nil)))))
def j64_2 : JC :=
  (.prune [9, 8, 0, 1, 5] (.ops <|
  qo 27 (.ar .add (.t 9) (I 1)) <|
  qo 9 (.mv (.t 27)) <|
  .nil))
def j64_3 : JC :=
  (.seq (.ops <|
  qo 10 (.cmp .lss (.t 9) (.t 8)) <|
  .nil)
  (.seq (.cond (.t 10)
  .skip
  (.exit 0))
  (.seq (.block 1 (.seq (.ops <|
  qo 11 (.mv (.t 9)) <|
  qo 6 (.mv (.t 11)) <|
  .nil)
  (.seq (.ops <|
  qo 12 (.mv (.t 0)) <|
  qo 13 (.mv (I 0)) <|
  .nil)
  (.prune [13, 12, 1, 6, 5, 9, 8, 0] (.block 2 (.vecs 5 45 2 (.loop [12, 1, 6, 9, 8, 0] [13, 5] j64_1)))))))
  j64_2)))
def j64_4 : JC :=
  (.prune [5] (.seq (.ops <|
  qo 28 (.mv (.t 5)) <|
  qo 4 (.mv (.t 28)) <|
  .nil)
  (.vecs 4 45 2 .ret)))
def j64 : JC :=
  (.seq (.ops <|
  qo 4 (.mv (.c .nils)) <|
  .nil)
  (.seq (.ops <|
  qo 5 (.mv (.c .nils)) <|
  .nil)
  (.seq (.seq (.ops <|
  qo 8 (.mv (.t 0)) <|
  qo 9 (.mv (I 0)) <|
  .nil)
  (.block 0 (.vecs 5 45 2 (.loop [8, 0, 1] [9, 5] j64_3))))
  j64_4)))
theorem c64 : fnIs Try.prog qall 64 = some (j64.flat, [.tmp 4], 29) := by kernel_rfl
theorem w64 : j64.wf 29 = true := by kernel_rfl
/-- What is asked of the function that is handed in. -/
def Gq (f : FuncId) {κ : Type} (A : DA κ) (y : κ) (n : Nat) (p : Nat → Nat → Bool) : FH := FH.rd f (.cons DT.int (.cons DT.int A)) (.one .bool) (fun z => z.2.2 = y ∧ 0 ≤ z.1 ∧ z.1 < n ∧ 0 ≤ z.2.1 ∧ z.2.1 < n) (fun z => p z.1.toNat z.2.1.toNat) FH.none
theorem Gq_ok (f : FuncId) {κ : Type} (A : DA κ) (y : κ) (n : Nat) (p : Nat → Nat → Bool) (hf : okFn Try.prog f = true)
    (h : ∀ i j : Nat, i < n → j < n → FnOK Try.prog f (.int .i64 i :: .int .i64 j :: A.emb y) [] (.bool (p i j)) []) : FHOK Try.prog (Gq f A y n p) := FH.rd_ok hf (fun z hz => by
  obtain ⟨a, b, k⟩ := z
  obtain ⟨h1, h2, h3, h4, h5⟩ := hz
  simp only at h1 h2 h3 h4 h5
  subst h1
  have := h a.toNat b.toNat (by omega) (by omega)
  have ea : ((a.toNat : Nat) : Int) = a := by omega
  have eb : ((b.toNat : Nat) : Int) = b := by omega
  rw [ea, eb] at this
  exact this) FH.none_ok
theorem Gq_eq (f : FuncId) {κ : Type} (A : DA κ) (y : κ) (n : Nat) (p : Nat → Nat → Bool) (g : FuncId) (a : List SV) (m : List Res) : Gq f A y n p g a m = (FH.rd f (.cons DT.int (.cons DT.int A)) (.one .bool) (fun z => z.2.2 = y ∧ 0 ≤ z.1 ∧ z.1 < n ∧ 0 ≤ z.2.1 ∧ z.2.1 < n) (fun z => p z.1.toNat z.2.1.toNat) FH.none) g a m := nr rfl
theorem f_PairsOf (f : FuncId) {κ : Type} (A : DA κ) (y : κ) (n : Nat) (p : Nat → Nat → Bool) (hn : n ≤ 100) (hf : okFn Try.prog f = true)
    (h : ∀ i j : Nat, i < n → j < n → FnOK Try.prog f (.int .i64 i :: .int .i64 j :: A.emb y) [] (.bool (p i j)) []) :
    FnOK Try.prog 64 [.int .i64 n, .fn f (A.emb y)] [] (.vec 0 (allP p n n).length) [.vec 45 2 ((allP p n n).map dPr.emb)] := by
  refine fn_walkF c64 w64 (Gq_ok f A y n p hf h) rfl ?_
  unfold j64
  simp only [go_sem, ↓reduceIte, Nat.reduceAdd, Nat.reduceMul, Nat.reduceSub, Nat.reduceLT, Nat.reduceLeDiff, Nat.reduceEqDiff, Int.reduceToNat, Int.reduceEq, Int.reduceLT, Int.reduceLE, reduceCtorEq]
  refine loopF Nat (fun i => [.int .i64 i, .vec 0 (allP p n i).length]) (fun i => [.vec 45 2 ((allP p n i).map dPr.emb)]) (fun i => i ≤ n) (fun i => n - i) 0 (by omega) ?_ rfl ?_
  · simp only [go_sem, ↓reduceIte, Nat.reduceAdd, Nat.reduceMul, Nat.reduceSub, Nat.reduceLT, Nat.reduceLeDiff, Nat.reduceEqDiff, Int.reduceToNat, Int.reduceEq, Int.reduceLT, Int.reduceLE, reduceCtorEq]
    rfl
  intro i hi
  unfold j64_3
  simp only [go_sem, ↓reduceIte, Nat.reduceAdd, Nat.reduceMul, Nat.reduceSub, Nat.reduceLT, Nat.reduceLeDiff, Nat.reduceEqDiff, Int.reduceToNat, Int.reduceEq, Int.reduceLT, Int.reduceLE, reduceCtorEq]
  have hb1 := allP_len p n i
  have hin : i * n ≤ 100 * 100 := Nat.mul_le_mul (by omega) hn
  refine ⟨fun h1 => ?_, fun h1 => ?_⟩
  · refine loopF Nat (fun j => [.int .i64 j, .vec 0 (allP p n i ++ rowP p i j).length]) (fun j => [.vec 45 2 ((allP p n i ++ rowP p i j).map dPr.emb)]) (fun j => j ≤ n) (fun j => n - j) 0 (by omega) ?_ ?_ ?_
    · simp only [go_sem, ↓reduceIte, Nat.reduceAdd, Nat.reduceMul, Nat.reduceSub, Nat.reduceLT, Nat.reduceLeDiff, Nat.reduceEqDiff, Int.reduceToNat, Int.reduceEq, Int.reduceLT, Int.reduceLE, reduceCtorEq]
      simp [rowP]
    · simp [rowP]
    intro j hj
    unfold j64_1
    simp only [go_sem, ↓reduceIte, Nat.reduceAdd, Nat.reduceMul, Nat.reduceSub, Nat.reduceLT, Nat.reduceLeDiff, Nat.reduceEqDiff, Int.reduceToNat, Int.reduceEq, Int.reduceLT, Int.reduceLE, reduceCtorEq, Gq_eq]
    have hb2 := rowP_len p i j
    refine ⟨fun h2 => ⟨by omega, fun h3 => ⟨by simp only [List.length_append, List.length_map]; omega, j + 1, by omega, by omega, ⟨IntWalk.i64_in _ (by omega), ?_⟩, ?_⟩, fun h3 => ⟨j + 1, by omega, by omega, ⟨IntWalk.i64_in _ (by omega), ?_⟩, ?_⟩⟩, fun h2 => ?_⟩
    · simp [rowP, h3, Nat.add_assoc]
    · simp [rowP, h3, pr_emb]
    · simp [rowP, h3, Nat.add_assoc]
    · simp [rowP, h3, Nat.add_assoc]
    · have e : j = n := by omega
      subst e
      unfold j64_2
      simp only [go_sem, ↓reduceIte, Nat.reduceAdd, Nat.reduceMul, Nat.reduceSub, Nat.reduceLT, Nat.reduceLeDiff, Nat.reduceEqDiff, Int.reduceToNat, Int.reduceEq, Int.reduceLT, Int.reduceLE, reduceCtorEq]
      exact ⟨i + 1, by omega, by omega, ⟨IntWalk.i64_in _ (by omega), rfl⟩, by rw [allP, List.map_append]⟩
  · have e : i = n := by omega
    subst e
    unfold j64_4
    simp only [go_sem, ↓reduceIte, Nat.reduceAdd, Nat.reduceMul, Nat.reduceSub, Nat.reduceLT, Nat.reduceLeDiff, Nat.reduceEqDiff, Int.reduceToNat, Int.reduceEq, Int.reduceLT, Int.reduceLE, reduceCtorEq]
end Go.Proofs.Ytohbjnpafpcbkaa.Ps
