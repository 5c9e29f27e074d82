/- The package trace: Held, and its reference. Conditions: none. -/
import Derived.Test.YtohbjnpafpcbkaaTraceR
set_option linter.unusedSimpArgs false
set_option linter.unusedVariables false
set_option maxRecDepth 100000
open Go Go.Sx Go.Proofs
namespace Go.Proofs.Ytohbjnpafpcbkaa.Tr
open Go.Proofs.Ytohbjnpafpcbkaa.D
def j15_1 : JC :=
  (.seq (.ops <|
  qo 34 (.cmp .lss (.t 33) (I 5)) <|
  .nil)
  (.seq (.cond (.t 34)
  .skip
  (.exit 1))
  (.seq (.block 2 (.seq (.ops <|
  qo 35 (.mv (.t 33)) <|
  qo 36 (.ix 5 1 false (.t 32) (.t 33)) <|
  qo 10 (.mv (.t 35)) <|
  qo 11 (.mv (.t 36)) <|
  .nil)
  (.seq (.ops <|
  .prune [11, 1, 9, 10, 33, 32] <|
  qo 37 (.mv (.t 11)) <|
  qo 38 (.mv (.t 1)) <|
  qo 39 (.ar .add (.t 38) (I 1)) <|
  qo 40 (.cmp .eql (.t 37) (.t 39)) <|
  .nil)
  (.prune [40, 9, 10, 33, 32, 1] (.cond (.t 40)
  (.ops <|
  qo 41 (.mv (.t 9)) <|
  qo 42 (.mv (.t 10)) <|
  .prune [42, 41, 33, 32, 1] <|
  qo 43 (.ar .shl (I 1) (.t 42)) <|
  qo 44 (.ar .or (.t 41) (.t 43)) <|
  qo 9 (.mv (.t 44)) <|
  .nil)
  .skip)))))
  (.prune [33, 32, 1, 9] (.ops <|
  qo 45 (.ar .add (.t 33) (I 1)) <|
  qo 33 (.mv (.t 45)) <|
  .nil)))))
def j15_2 : JC :=
  (.prune [9] (.seq (.ops <|
  qo 46 (.mv (.t 9)) <|
  qo 4 (.mv (.t 46)) <|
  qo 5 (.mv (I 0)) <|
  .nil)
  .ret))
def j15 : JC :=
  (.seq (.ops <|
  qo 4 (.mv (I 0)) <|
  qo 5 (.mv (I 0)) <|
  .nil)
  (.seq (.ops <|
  qo 13 (.mv (.t 0)) <|
  eo 14 (.call 52 [(.t 13)]) <|
  qo 12 (.mv (.t 14)) <|
  qo 15 (.ext 0 (.t 12)) <|
  qo 16 (.ext 1 (.t 12)) <|
  .prune [12, 15, 16, 1] <|
  qo 17 (.ext 2 (.t 12)) <|
  qo 6 (.mv (.t 15)) <|
  qo 7 (.mv (.t 16)) <|
  qo 8 (.mv (.t 17)) <|
  .nil)
  (.prune [8, 1, 6] (.seq (.block 0 (.seq (.ops <|
  qo 19 (.mv (.t 8)) <|
  qo 20 (.cmp .neq (.t 19) (I 0)) <|
  qo 18 (.mv (.t 20)) <|
  .nil)
  (.cond (.t 18)
  (.seq (.ops <|
  qo 21 (.mv (.t 8)) <|
  qo 4 (.mv (I 0)) <|
  qo 5 (.mv (.t 21)) <|
  .nil)
  .ret)
  (.seq (.ops <|
  qo 23 (.mv (.t 1)) <|
  .prune [23, 1, 6] <|
  qo 24 (.cmp .lss (.t 23) (I 0)) <|
  qo 25 (.mv (.t 24)) <|
  .sc true 28 25 (qo 26 (.mv (.t 1)) <|
  qo 27 (.cmp .geq (.t 26) (I 6)) <|
  .nil) (.t 27) <|
  qo 22 (.mv (.t 28)) <|
  .nil)
  (.prune [22, 6, 1] (.cond (.t 22)
  (.seq (.ops <|
  qo 4 (.mv (I 0)) <|
  qo 5 (.mv (I 1)) <|
  .nil)
  .ret)
  .skip))))))
  (.prune [6, 1] (.seq (.ops <|
  qo 9 (.mv (I 0)) <|
  .nil)
  (.seq (.seq (.ops <|
  qo 29 (.mv (.t 6)) <|
  qo 30 (.nck (.t 29)) <|
  qo 31 (.fa 2 12 (.t 30)) <|
  eo 32 (.load 5 true (.t 31)) <|
  qo 33 (.mv (I 0)) <|
  .nil)
  (.block 1 (.loop [32, 1] [33, 9] j15_1)))
  j15_2)))))))
theorem c15 : fnIs Try.prog qall 15 = some (j15.flat, [.tmp 4, .tmp 5], 47) := by kernel_rfl
theorem w15 : j15.wf 47 = true := by kernel_rfl
def j19_1 : JC :=
  (.seq (.ops <|
  qo 8 (.cmp .lss (.t 7) (I 5)) <|
  .nil)
  (.seq (.cond (.t 8)
  .skip
  (.exit 0))
  (.seq (.block 1 (.seq (.ops <|
  qo 9 (.mv (.t 7)) <|
  qo 6 (.mv (.t 9)) <|
  .nil)
  (.seq (.ops <|
  qo 10 (.mv (.t 0)) <|
  qo 11 (.mv (.t 6)) <|
  eo 12 (.call 54 [(.t 10), (.t 11)]) <|
  qo 13 (.mv (.t 1)) <|
  qo 14 (.cmp .eql (.t 12) (.t 13)) <|
  .nil)
  (.prune [14, 5, 6, 7, 0, 1] (.cond (.t 14)
  (.ops <|
  qo 15 (.mv (.t 5)) <|
  qo 16 (.mv (.t 6)) <|
  .prune [16, 15, 7, 0, 1] <|
  qo 17 (.ar .shl (I 1) (.t 16)) <|
  qo 18 (.ar .add (.t 15) (.t 17)) <|
  qo 5 (.mv (.t 18)) <|
  .nil)
  .skip)))))
  (.prune [7, 0, 1, 5] (.ops <|
  qo 19 (.ar .add (.t 7) (I 1)) <|
  qo 7 (.mv (.t 19)) <|
  .nil)))))
def j19_2 : JC :=
  (.prune [5] (.seq (.ops <|
  qo 20 (.mv (.t 5)) <|
  qo 4 (.mv (.t 20)) <|
  .nil)
  .ret))
def j19 : JC :=
  (.seq (.ops <|
  qo 4 (.mv (I 0)) <|
  .nil)
  (.seq (.ops <|
  qo 5 (.mv (I 0)) <|
  .nil)
  (.seq (.seq (.ops <|
  qo 7 (.mv (I 0)) <|
  .nil)
  (.block 0 (.loop [0, 1] [7, 5] j19_1)))
  j19_2)))
theorem c19 : fnIs Try.prog qall 19 = some (j19.flat, [.tmp 4], 21) := by kernel_rfl
theorem w19 : j19.wf 21 = true := by kernel_rfl
/-- A set of the first n, as a number. -/
def sumB (p : Nat → Bool) : Nat → Nat
  | 0 => 0
  | n + 1 => sumB p n + if p n then 2 ^ n else 0
theorem sumB_lt (p : Nat → Bool) : ∀ n, sumB p n < 2 ^ n
  | 0 => by simp [sumB]
  | n + 1 => by
    have := sumB_lt p n
    simp only [sumB, Nat.pow_succ]
    split <;> omega
theorem sumB_congr {p q : Nat → Bool} : ∀ n, (∀ k, k < n → p k = q k) → sumB p n = sumB q n
  | 0, _ => rfl
  | n + 1, h => by rw [sumB, sumB, sumB_congr n (fun k hk => h k (by omega)), h n (by omega)]
theorem or_add : ∀ k, k < 5 → ∀ s, s < 2 ^ k → bitOr .i64 (s : Nat) (IntKind.i64.wrap (1 * 2 ^ (min k 64))) = ((s + 2 ^ k : Nat) : Int) := by decide
theorem shl_add : ∀ k, k < 5 → ∀ s, s < 2 ^ k → IntKind.i64.wrap ((s : Nat) + IntKind.i64.wrap (1 * 2 ^ (min k 64))) = ((s + 2 ^ k : Nat) : Int) := by decide
def heldF (l : List Ev) (t : Int) : Int × Int :=
  if (playedF l).2.2 ≠ 0 then (0, (playedF l).2.2) else if t < 0 ∨ 6 ≤ t then (0, 1) else ((sumB (fun k => decide ((playedF l).1.owner k = t + 1)) 5 : Nat), 0)
theorem f_Held (l : List Ev) (t : Int) : FnOK Try.prog 15 [dEs.emb l, .int .i64 t] [] (.tup [.int .i64 (heldF l t).1, .int .i64 (heldF l t).2]) [] := by
  refine fn_walkF c15 w15 Gc_ok rfl ?_
  unfold j15
  simp only [go_sem, ↓reduceIte, Nat.reduceAdd, Nat.reduceMul, Nat.reduceSub, Nat.reduceLT, Nat.reduceLeDiff, Nat.reduceEqDiff, Int.reduceToNat, Int.reduceEq, Int.reduceLT, Int.reduceLE, reduceCtorEq, Gc_eq]
  refine ⟨fun h => ?_, fun h => ⟨fun h2 => ?_, fun h2 => ?_⟩⟩
  · rw [heldF, if_pos h]
  · simp only [Bool.or_eq_true, decide_eq_true_eq] at h2
    rw [heldF, if_neg (by simpa using h), if_pos h2]
  · simp only [Bool.or_eq_false_iff, decide_eq_false_iff_not] at h2
    rw [heldF, if_neg (by simpa using h), if_neg (by omega)]
    refine loopF Nat (fun i => [.int .i64 i, .int .i64 (sumB (fun k => decide ((playedF l).1.owner k = t + 1)) i : Nat)]) (fun i => [.blk 96 (dWd.emb (playedF l).1)]) (fun i => i ≤ 5) (fun i => 5 - i) 0 (by omega) ?_ rfl ?_
    · simp only [go_sem, ↓reduceIte, Nat.reduceAdd, Nat.reduceMul, Nat.reduceSub, Nat.reduceLT, Nat.reduceLeDiff, Nat.reduceEqDiff, Int.reduceToNat, Int.reduceEq, Int.reduceLT, Int.reduceLE, reduceCtorEq]
      rfl
    · intro i hi
      unfold j15_1
      simp only [go_sem, ↓reduceIte, Nat.reduceAdd, Nat.reduceMul, Nat.reduceSub, Nat.reduceLT, Nat.reduceLeDiff, Nat.reduceEqDiff, Int.reduceToNat, Int.reduceEq, Int.reduceLT, Int.reduceLE, reduceCtorEq]
      have hw : IntKind.i64.wrap (t + 1) = t + 1 := IntWalk.i64_in _ (by omega)
      rw [hw]
      refine ⟨fun h1 => ⟨by omega, fun h3 => ⟨by omega, i + 1, by omega, by omega, IntWalk.i64_in _ (by omega), ?_⟩, fun h3 => ⟨i + 1, by omega, by omega, IntWalk.i64_in _ (by omega), ?_⟩⟩, fun h1 => ?_⟩
      · have := or_add i (by omega) _ (sumB_lt (fun k => decide ((playedF l).1.owner k = t + 1)) i)
        rw [this, sumB, if_pos (decide_eq_true h3)]
      · rw [sumB, if_neg (by simpa using h3)]; rfl
      · rw [show i = 5 by omega]
        unfold j15_2
        simp only [go_sem, ↓reduceIte, Nat.reduceAdd, Nat.reduceMul, Nat.reduceSub, Nat.reduceLT, Nat.reduceLeDiff, Nat.reduceEqDiff, Int.reduceToNat, Int.reduceEq, Int.reduceLT, Int.reduceLE, reduceCtorEq]
def Go' : FH := FH.rd 54 (.two dEs .int) (.one .int) (fun _ => True) (fun y => Tr.ownR y.1 y.2.1) FH.none
theorem Go'_ok : FHOK Try.prog Go' := FH.rd_ok (by kernel_rfl) (fun y _ => f_owner y.1 y.2.1) FH.none_ok
def rheld (l : List Ev) (t : Int) (n : Nat) : Nat := sumB (fun k => decide (Tr.ownR l k = t)) n
theorem f_RHeld (l : List Ev) (t : Int) : FnOK Try.prog 19 [dEs.emb l, .int .i64 t] [] (.int .i64 (rheld l t 5 : Nat)) [] := by
  refine fn_walkF c19 w19 Go'_ok rfl ?_
  unfold j19
  simp only [go_sem, ↓reduceIte, Nat.reduceAdd, Nat.reduceMul, Nat.reduceSub, Nat.reduceLT, Nat.reduceLeDiff, Nat.reduceEqDiff, Int.reduceToNat, Int.reduceEq, Int.reduceLT, Int.reduceLE, reduceCtorEq]
  refine loopF Nat (fun i => [.int .i64 i, .int .i64 (rheld l t i : Nat)]) (fun i => []) (fun i => i ≤ 5) (fun i => 5 - i) 0 (by omega) ?_ rfl ?_
  · simp only [go_sem, ↓reduceIte, Nat.reduceAdd, Nat.reduceMul, Nat.reduceSub, Nat.reduceLT, Nat.reduceLeDiff, Nat.reduceEqDiff, Int.reduceToNat, Int.reduceEq, Int.reduceLT, Int.reduceLE, reduceCtorEq]
    rfl
  · intro i hi
    unfold j19_1
    simp only [go_sem, ↓reduceIte, Nat.reduceAdd, Nat.reduceMul, Nat.reduceSub, Nat.reduceLT, Nat.reduceLeDiff, Nat.reduceEqDiff, Int.reduceToNat, Int.reduceEq, Int.reduceLT, Int.reduceLE, reduceCtorEq, Go']
    refine ⟨fun h1 => ⟨fun h3 => ⟨by omega, i + 1, by omega, by omega, IntWalk.i64_in _ (by omega), ?_⟩, fun h3 => ⟨i + 1, by omega, by omega, IntWalk.i64_in _ (by omega), ?_⟩⟩, fun h1 => ?_⟩
    · have := shl_add i (by omega) _ (sumB_lt (fun k => decide (Tr.ownR l k = t)) i)
      simp only [rheld, Int.toNat_natCast, IntKind.bits] at this ⊢
      rw [this, sumB, if_pos (decide_eq_true h3)]
    · simp only [rheld]
      rw [sumB, if_neg (by simpa using h3)]; rfl
    · rw [show i = 5 by omega]
      unfold j19_2
      simp only [go_sem, ↓reduceIte, Nat.reduceAdd, Nat.reduceMul, Nat.reduceSub, Nat.reduceLT, Nat.reduceLeDiff, Nat.reduceEqDiff, Int.reduceToNat, Int.reduceEq, Int.reduceLT, Int.reduceLE, reduceCtorEq]
theorem held_agr {l : List Ev} (h : (checkR l).2 = 0) (t : Int) : sumB (fun k => decide ((playedF l).1.owner k = t + 1)) 5 = rheld l t 5 := by
  have h2 : (playedF l).2.2 = 0 := by rw [played_check]; exact h
  refine sumB_congr 5 fun k hk => ?_
  have := ((played_agr l h2).own k hk).1
  rw [this]
  exact decide_eq_decide.2 (by omega)
end Go.Proofs.Ytohbjnpafpcbkaa.Tr
