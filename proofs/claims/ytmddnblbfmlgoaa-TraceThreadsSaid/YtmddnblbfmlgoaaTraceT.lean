/- The package trace: Threads, Held. Conditions: none. -/
import Derived.Test.YtmddnblbfmlgoaaTraceR
set_option linter.unusedSimpArgs false
set_option linter.unusedVariables false
set_option maxRecDepth 100000
open Go Go.Sx Go.Proofs
namespace Go.Proofs.Ytmddnblbfmlgoaa.Tr
open Go.Proofs.Ytmddnblbfmlgoaa.D
def j40_1 : JC :=
  (.seq (.ops <|
  qo 24 (.cmp .lss (.t 23) (I 6)) <|
  .nil)
  (.seq (.cond (.t 24)
  .skip
  (.exit 0))
  (.seq (.block 1 (.seq (.ops <|
  qo 25 (.mv (.t 23)) <|
  qo 26 (.ix 6 1 false (.t 22) (.t 23)) <|
  qo 8 (.mv (.t 25)) <|
  qo 9 (.mv (.t 26)) <|
  .nil)
  (.seq (.ops <|
  qo 27 (.mv (.t 9)) <|
  .nil)
  (.cond (.t 27)
  (.ops <|
  .prune [7, 8, 23, 22] <|
  qo 28 (.mv (.t 7)) <|
  qo 29 (.mv (.t 8)) <|
  eo 30 (.bsl 3 1 1 (.int .i64 0) [(0, (.t 29))]) <|
  eo 31 (.app 3 1 8 (.t 28) (.t 30)) <|
  qo 7 (.mv (.t 31)) <|
  .nil)
  .skip))))
  (.prune [23, 22, 7] (.ops <|
  qo 32 (.ar .add (.t 23) (I 1)) <|
  qo 23 (.mv (.t 32)) <|
  .nil)))))
def j40_2 : JC :=
  (.prune [7] (.seq (.ops <|
  qo 33 (.mv (.t 7)) <|
  qo 2 (.mv (.t 33)) <|
  qo 3 (.mv (I 0)) <|
  .nil)
  (.vecs 2 3 1 .ret)))
def j40 : JC :=
  (.seq (.ops <|
  qo 2 (.mv (.c .nils)) <|
  qo 3 (.mv (I 0)) <|
  .nil)
  (.seq (.ops <|
  qo 11 (.mv (.t 0)) <|
  eo 12 (.call 60 [(.t 11)]) <|
  qo 10 (.mv (.t 12)) <|
  qo 13 (.ext 0 (.t 10)) <|
  qo 14 (.ext 1 (.t 10)) <|
  .prune [10, 13, 14] <|
  qo 15 (.ext 2 (.t 10)) <|
  qo 4 (.mv (.t 13)) <|
  qo 5 (.mv (.t 14)) <|
  qo 6 (.mv (.t 15)) <|
  .nil)
  (.prune [6, 4] (.seq (.seq (.ops <|
  qo 16 (.mv (.t 6)) <|
  qo 17 (.cmp .neq (.t 16) (I 0)) <|
  .nil)
  (.cond (.t 17)
  (.seq (.ops <|
  qo 18 (.mv (.t 6)) <|
  qo 2 (.mv (.c .nils)) <|
  qo 3 (.mv (.t 18)) <|
  .nil)
  (.vecs 2 3 1 .ret))
  .skip))
  (.seq (.ops <|
  qo 7 (.mv (.c .nils)) <|
  .nil)
  (.seq (.seq (.ops <|
  .prune [4, 7] <|
  qo 19 (.mv (.t 4)) <|
  qo 20 (.nck (.t 19)) <|
  qo 21 (.fa 0 0 (.t 20)) <|
  eo 22 (.load 6 true (.t 21)) <|
  qo 23 (.mv (I 0)) <|
  .nil)
  (.prune [23, 22, 7] (.block 0 (.vecs 7 3 1 (.loop [22] [23, 7] j40_1)))))
  j40_2))))))
theorem c40 : fnIs Try.prog qall 40 = some (j40.flat, [.tmp 2, .tmp 3], 34) := by kernel_rfl
theorem w40 : j40.wf 34 = true := by kernel_rfl
theorem tszB6 : tsz Try.prog 91 = some (6, true) := by kernel_rfl
/-- The numbers below n that are in a set. -/
def below (b : Nat → Bool) (n : Nat) : List Int := ((List.range n).filter b).map (fun k : Nat => (k : Int))
theorem below_step (b : Nat → Bool) (n : Nat) : below b (n + 1) = if b n then below b n ++ [(n : Int)] else below b n := by
  unfold below
  rw [List.range_succ, List.filter_append, List.map_append]
  cases h : b n <;> simp [h]
theorem below_len (b : Nat → Bool) (n : Nat) : (below b n).length ≤ n := by
  unfold below
  rw [List.length_map]
  have := List.length_filter_le b (List.range n)
  simpa using this
def threadsF (l : List Ev) : List Int := if (playedF l).2.2 = 0 then below (playedF l).1.begun 6 else []
abbrev dIs : DT (List Int) := DT.list 1 DT.int
theorem f_Threads (l : List Ev) : FnOK Try.prog 40 [dEs.emb l] [] (.tup [.vec 0 (threadsF l).length, .int .i64 (playedF l).2.2]) [.vec 3 1 ((threadsF l).map DT.int.emb)] := by
  refine fn_walkF c40 w40 Gc_ok rfl ?_
  unfold j40
  simp only [go_sem, reduceIte, Nat.reduceAdd, Nat.reduceMul, Nat.reduceSub, Nat.reduceLT, Nat.reduceLeDiff, Nat.reduceEqDiff, Int.reduceToNat, reduceCtorEq, Gc]
  refine ⟨fun h => ?_, fun h => ?_⟩
  · rw [show threadsF l = [] from if_neg h]
    exact ⟨rfl, rfl⟩
  · rw [show threadsF l = below (playedF l).1.begun 6 from if_pos h, h]
    refine loopF Nat (fun i => [.int .i64 i, .vec 1 (below (playedF l).1.begun i).length]) (fun i => [.blk 94 (dWd.emb (playedF l).1), .vec 3 1 ((below (playedF l).1.begun i).map DT.int.emb)]) (fun i => i ≤ 6) (fun i => 6 - i) 0 (by omega) ?_ rfl ?_
    · simp only [go_sem, reduceIte, Nat.reduceAdd, Nat.reduceMul, Nat.reduceSub, Nat.reduceLT, Nat.reduceLeDiff, Nat.reduceEqDiff, Int.reduceToNat, reduceCtorEq]
      rfl
    · intro i hi
      unfold j40_1
      simp only [go_sem, reduceIte, Nat.reduceAdd, Nat.reduceMul, Nat.reduceSub, Nat.reduceLT, Nat.reduceLeDiff, Nat.reduceEqDiff, Int.reduceToNat, reduceCtorEq]
      have hl := below_len (playedF l).1.begun i
      have hb := below_step (playedF l).1.begun i
      refine ⟨fun h1 => ⟨by omega, fun h2 => ⟨by omega, i + 1, by omega, by omega, ⟨IntWalk.i64_in _ (by omega), ?_⟩, ?_⟩, fun h2 => ⟨i + 1, by omega, by omega, ⟨IntWalk.i64_in _ (by omega), ?_⟩, ?_⟩⟩, fun h1 => ?_⟩
      · rw [hb, if_pos h2]; simp
      · rw [hb, if_pos h2]; simp [DT.int, DT.ofTT, emb]
      · rw [hb, if_neg (by simp [h2])]
      · rw [hb, if_neg (by simp [h2])]
      · rw [show i = 6 by omega]
        unfold j40_2
        simp only [go_sem, reduceIte, Nat.reduceAdd, Nat.reduceMul, Nat.reduceSub, Nat.reduceLT, Nat.reduceLeDiff, Nat.reduceEqDiff, Int.reduceToNat, reduceCtorEq]
def j15_1 : JC :=
  (.seq (.ops <|
  qo 15 (.cmp .lss (.t 14) (.t 13)) <|
  .nil)
  (.seq (.cond (.t 15)
  .skip
  (.exit 0))
  (.seq (.block 1 (.seq (.ops <|
  qo 16 (.mv (.t 14)) <|
  qo 17 (.is 1 (.t 12) (.t 14)) <|
  eo 18 (.load 1 false (.t 17)) <|
  qo 5 (.mv (.t 16)) <|
  qo 6 (.mv (.t 18)) <|
  .nil)
  (.prune [6, 1, 5, 14, 13, 12] (.seq (.ops <|
  qo 19 (.mv (.t 6)) <|
  qo 20 (.mv (.t 1)) <|
  qo 21 (.mv (.t 5)) <|
  qo 22 (.is 1 (.t 20) (.t 21)) <|
  eo 23 (.load 1 false (.t 22)) <|
  qo 24 (.cmp .neq (.t 19) (.t 23)) <|
  .nil)
  (.prune [24, 14, 13, 12, 1] (.cond (.t 24)
  (.seq (.ops <|
  qo 4 (.mv (B false)) <|
  .nil)
  .ret)
  .skip))))))
  (.prune [14, 13, 12, 1] (.ops <|
  qo 25 (.ar .add (.t 14) (I 1)) <|
  qo 14 (.mv (.t 25)) <|
  .nil)))))
def j15_2 : JC :=
  (.prune [] (.seq (.ops <|
  qo 4 (.mv (B true)) <|
  .nil)
  .ret))
def j15 : JC :=
  (.seq (.ops <|
  qo 4 (.mv (B false)) <|
  .nil)
  (.seq (.seq (.ops <|
  qo 7 (.mv (.t 0)) <|
  qo 8 (.len (.t 7)) <|
  qo 9 (.mv (.t 1)) <|
  qo 10 (.len (.t 9)) <|
  qo 11 (.cmp .neq (.t 8) (.t 10)) <|
  .nil)
  (.cond (.t 11)
  (.seq (.ops <|
  qo 4 (.mv (B false)) <|
  .nil)
  .ret)
  .skip))
  (.seq (.seq (.ops <|
  .prune [0, 1] <|
  qo 12 (.mv (.t 0)) <|
  qo 13 (.len (.t 12)) <|
  qo 14 (.mv (I 0)) <|
  .nil)
  (.prune [14, 13, 12, 1] (.block 0 (.loop [13, 12, 1] [14] j15_1))))
  j15_2)))
theorem c15 : fnIs Try.prog qall 15 = some (j15.flat, [.tmp 4], 26) := by kernel_rfl
theorem w15 : j15.wf 26 = true := by kernel_rfl
theorem take_all_eq {α : Type} {xs ys : List α} (h : xs.length = ys.length) {i : Nat} (hi : i = xs.length) (ht : xs.take i = ys.take i) : xs = ys := by
  subst hi
  rw [List.take_length] at ht
  rw [ht]
  exact List.take_of_length_le (by omega)
theorem f_EqInt (xs ys : List Int) : FnOK Try.prog 15 [dIs.emb xs, dIs.emb ys] [] (.bool (decide (xs = ys))) [] := by
  refine fn_len fun hB => fn_walkF c15 w15 FH.none_ok rfl ?_
  simp only [go_sem, reduceIte, Nat.reduceAdd, Nat.reduceMul, Nat.reduceSub, Nat.reduceLT, Nat.reduceLeDiff, Nat.reduceEqDiff, Int.reduceToNat, reduceCtorEq] at hB
  unfold j15
  simp only [go_sem, reduceIte, Nat.reduceAdd, Nat.reduceMul, Nat.reduceSub, Nat.reduceLT, Nat.reduceLeDiff, Nat.reduceEqDiff, Int.reduceToNat, reduceCtorEq]
  refine ⟨fun h => ?_, fun h => ?_⟩
  · symm
    rw [decide_eq_false_iff_not]
    intro e; subst e; exact h rfl
  · refine loopF Nat (fun i => [.int .i64 i]) (fun i => []) (fun i => i ≤ xs.length ∧ xs.take i = ys.take i) (fun i => xs.length - i) 0 ⟨by omega, rfl⟩ ?_ rfl ?_
    · simp only [go_sem, reduceIte, Nat.reduceAdd, Nat.reduceMul, Nat.reduceSub, Nat.reduceLT, Nat.reduceLeDiff, Nat.reduceEqDiff, Int.reduceToNat, reduceCtorEq]
    · intro i hi
      unfold j15_1
      simp only [go_sem, reduceIte, Nat.reduceAdd, Nat.reduceMul, Nat.reduceSub, Nat.reduceLT, Nat.reduceLeDiff, Nat.reduceEqDiff, Int.reduceToNat, reduceCtorEq]
      refine ⟨fun h1 => ⟨⟨by omega, by omega⟩, ⟨by omega, by omega⟩, fun h2 => ?_, fun h2 => ⟨i + 1, ⟨by omega, ?_⟩, by omega, IntWalk.i64_in _ (by omega)⟩⟩, fun h1 => ?_⟩
      · symm
        rw [decide_eq_false_iff_not]
        intro e; subst e; exact h2 rfl
      · rw [take_getD (0 : Int) (by omega), take_getD (0 : Int) (by omega), hi.2, h2]
      · have he : xs = ys := take_all_eq (by omega) (i := i) (by omega) hi.2
        have hd : true = decide (xs = ys) := by simp [he]
        rw [← hd]
        unfold j15_2
        simp only [go_sem, reduceIte, Nat.reduceAdd, Nat.reduceMul, Nat.reduceSub, Nat.reduceLT, Nat.reduceLeDiff, Nat.reduceEqDiff, Int.reduceToNat, reduceCtorEq]
end Go.Proofs.Ytmddnblbfmlgoaa.Tr
