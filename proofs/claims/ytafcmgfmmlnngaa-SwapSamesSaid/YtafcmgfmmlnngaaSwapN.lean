/- swap.Same. Conditions: none. -/
import Derived.Test.YtafcmgfmmlnngaaSwapM
import Derived.Test.YtafcmgfmmlnngaaEqs
import Derived.Test.YtafcmgfmmlnngaaSx32
set_option linter.unusedSimpArgs false
set_option linter.unusedVariables false
set_option maxRecDepth 100000
open Go Go.Sx Go.Proofs
namespace Go.Proofs.Ytafcmgfmmlnngaa.Sw
open Go.Proofs.Ytafcmgfmmlnngaa.D Go.Proofs.Ytafcmgfmmlnngaa.Tr Go.Proofs.Ytafcmgfmmlnngaa.Cp Go.Proofs.Ytafcmgfmmlnngaa.Eqs
def j61_1 : JC :=
  (.seq (.ops <|
  qo 14 (.cmp .lss (.t 13) (.t 12)) <|
  .nil)
  (.seq (.cond (.t 14)
  .skip
  (.exit 0))
  (.seq (.block 1 (.seq (.ops <|
  qo 15 (.mv (.t 13)) <|
  qo 5 (.mv (.t 15)) <|
  .nil)
  (.seq (.dops <|
  qo 16 (.mv (.t 0)) <|
  qo 17 (.mv (.t 5)) <|
  qo 18 (.is 3 (.t 16) (.t 17)) <|
  .prune [18, 1, 5, 13, 12, 0] <|
  eo 19 (.load 3 true (.t 18)) <|
  qo 20 (.mv (.t 1)) <|
  qo 21 (.mv (.t 5)) <|
  qo 22 (.is 3 (.t 20) (.t 21)) <|
  eo 23 (.load 3 true (.t 22)) <|
  qo 24 (.aeq true (.st [(.int .i64), (.int .i64), (.int .i64)]) (.t 19) (.t 23)) <|
  .nil)
  (.prune [24, 13, 12, 0, 1] (.cond (.t 24)
  (.seq (.ops <|
  qo 4 (.mv (B false)) <|
  .nil)
  .ret)
  .skip)))))
  (.prune [13, 12, 0, 1] (.ops <|
  qo 25 (.ar .add (.t 13) (I 1)) <|
  qo 13 (.mv (.t 25)) <|
  .nil)))))
def j61_2 : JC :=
  (.prune [] (.seq (.ops <|
  qo 4 (.mv (B true)) <|
  .nil)
  .ret))
def j61 : JC :=
  (.seq (.ops <|
  qo 4 (.mv (B false)) <|
  .nil)
  (.seq (.seq (.ops <|
  qo 6 (.mv (.t 0)) <|
  qo 7 (.len (.t 6)) <|
  qo 8 (.mv (.t 1)) <|
  qo 9 (.len (.t 8)) <|
  qo 10 (.cmp .neq (.t 7) (.t 9)) <|
  .nil)
  (.cond (.t 10)
  (.seq (.ops <|
  qo 4 (.mv (B false)) <|
  .nil)
  .ret)
  .skip))
  (.seq (.seq (.ops <|
  .prune [0, 1] <|
  qo 11 (.mv (.t 0)) <|
  qo 12 (.len (.t 11)) <|
  qo 13 (.mv (I 0)) <|
  .nil)
  (.prune [13, 12, 0, 1] (.block 0 (.loop [12, 0, 1] [13] j61_1))))
  j61_2)))
theorem c61 : fnIs Try.prog qall 61 = some (j61.flat, [.tmp 4], 26) := by kernel_rfl
theorem w61 : j61.wf 26 = true := by kernel_rfl
def ef_EqualEv (x y : Ev) : Bool := decide (x.kind = y.kind) && (decide (x.thr = y.thr) && decide (x.obj = y.obj))
theorem f_EqualEv (xs ys : List Ev) : FnOK Try.prog 61 [dEs.emb xs, dEs.emb ys] [] (.bool (eqBy ef_EqualEv xs ys)) [] := by
  refine fn_len fun hB => fn_walkF c61 w61 FH.none_ok rfl ?_
  simp only [go_sem, ↓reduceIte, Nat.reduceAdd, Nat.reduceMul, Nat.reduceSub, Nat.reduceLT, Nat.reduceLeDiff, Nat.reduceEqDiff, Int.reduceToNat, Int.reduceEq, Int.reduceLT, Int.reduceLE, reduceCtorEq] at hB
  unfold j61
  simp only [go_sem, ↓reduceIte, Nat.reduceAdd, Nat.reduceMul, Nat.reduceSub, Nat.reduceLT, Nat.reduceLeDiff, Nat.reduceEqDiff, Int.reduceToNat, Int.reduceEq, Int.reduceLT, Int.reduceLE, reduceCtorEq]
  refine ⟨fun h => ?_, fun h => ?_⟩
  · rw [eqBy_len h]
  · refine loopF Nat (fun i => [.int .i64 i]) (fun i => []) (fun i => i ≤ xs.length ∧ eqBy ef_EqualEv xs ys = eqBy ef_EqualEv (xs.drop i) (ys.drop i)) (fun i => xs.length - i) 0 ⟨by omega, rfl⟩ ?_ rfl ?_
    · simp only [go_sem, ↓reduceIte, Nat.reduceAdd, Nat.reduceMul, Nat.reduceSub, Nat.reduceLT, Nat.reduceLeDiff, Nat.reduceEqDiff, Int.reduceToNat, Int.reduceEq, Int.reduceLT, Int.reduceLE, reduceCtorEq]
    · intro i hi
      unfold j61_1
      simp only [go_sem, ↓reduceIte, Nat.reduceAdd, Nat.reduceMul, Nat.reduceSub, Nat.reduceLT, Nat.reduceLeDiff, Nat.reduceEqDiff, Int.reduceToNat, Int.reduceEq, Int.reduceLT, Int.reduceLE, reduceCtorEq]
      refine ⟨fun h1 => ?_, fun h1 => ?_⟩
      · obtain ⟨hi1, hi2⟩ := hi
        rw [eqBy_drop (d := dEv.dft) (d' := dEv.dft) (by omega) (by omega)] at hi2
        refine ⟨⟨by omega, by omega⟩, ⟨by omega, by omega⟩, fun h2 => ?_, fun h2 => ⟨i + 1, ⟨by omega, ?_⟩, by omega, IntWalk.i64_in _ (by omega)⟩⟩
        · rw [hi2, show ef_EqualEv (xs.getD i dEv.dft) (ys.getD i dEv.dft) = false by first | exact h2 | exact decide_eq_false h2]; rfl
        · rw [hi2, show ef_EqualEv (xs.getD i dEv.dft) (ys.getD i dEv.dft) = true by first | exact h2 | exact decide_eq_true h2]; rfl
      · rw [eqBy_done hi.2 (by omega) (by omega)]
        unfold j61_2
        simp only [go_sem, ↓reduceIte, Nat.reduceAdd, Nat.reduceMul, Nat.reduceSub, Nat.reduceLT, Nat.reduceLeDiff, Nat.reduceEqDiff, Int.reduceToNat, Int.reduceEq, Int.reduceLT, Int.reduceLE, reduceCtorEq]
abbrev dOE : DT (Option (List Ev)) := DT.slo 3 dEv
def j35_1 : JC :=
  (.seq (.ops <|
  qo 15 (.cmp .lss (.t 14) (.t 13)) <|
  .nil)
  (.seq (.cond (.t 15)
  .skip
  (.exit 0))
  (.seq (.block 1 (.seq (.ops <|
  qo 16 (.is 1 (.t 12) (.t 14)) <|
  eo 17 (.load 1 false (.t 16)) <|
  qo 7 (.mv (.t 17)) <|
  .nil)
  (.seq (.ops <|
  .prune [7, 14, 13, 12, 0, 1] <|
  qo 19 (.mv (.t 7)) <|
  eo 20 (.call 51 [(.t 19)]) <|
  qo 18 (.mv (.t 20)) <|
  .prune [18, 14, 13, 12, 0, 1] <|
  qo 21 (.ext 0 (.t 18)) <|
  qo 22 (.ext 1 (.t 18)) <|
  qo 8 (.mv (.t 21)) <|
  qo 9 (.mv (.t 22)) <|
  .nil)
  (.prune [9, 14, 13, 12, 0, 1] (.seq (.ops <|
  qo 23 (.mv (.t 9)) <|
  qo 24 (.cmp .neq (.t 23) (I 0)) <|
  .nil)
  (.cond (.t 24)
  (.seq (.ops <|
  .prune [9] <|
  qo 25 (.mv (.t 9)) <|
  qo 4 (.mv (B false)) <|
  qo 5 (.mv (.t 25)) <|
  .nil)
  .ret)
  .skip))))))
  (.prune [14, 13, 12, 0, 1] (.ops <|
  qo 26 (.ar .add (.t 14) (I 1)) <|
  qo 14 (.mv (.t 26)) <|
  .nil)))))
def j35_2 : JC :=
  (.prune [0, 1] (.seq (.ops <|
  qo 27 (.mv (.t 0)) <|
  eo 28 (.call 52 [(.t 27)]) <|
  qo 29 (.mv (.t 1)) <|
  eo 30 (.call 52 [(.t 29)]) <|
  eo 31 (.call 61 [(.t 28), (.t 30)]) <|
  qo 4 (.mv (.t 31)) <|
  qo 5 (.mv (I 0)) <|
  .nil)
  .ret))
def j35 : JC :=
  (.seq (.ops <|
  qo 4 (.mv (B false)) <|
  qo 5 (.mv (I 0)) <|
  .nil)
  (.seq (.seq (.ops <|
  qo 10 (.mv (.t 0)) <|
  qo 11 (.mv (.t 1)) <|
  eo 12 (.bsl 29 1 2 .nils [(0, (.t 10)), (1, (.t 11))]) <|
  qo 13 (.len (.t 12)) <|
  qo 14 (.mv (I 0)) <|
  .nil)
  (.block 0 (.loop [13, 12, 0, 1] [14] j35_1)))
  j35_2))
theorem c35 : fnIs Try.prog qall 35 = some (j35.flat, [.tmp 4, .tmp 5], 32) := by kernel_rfl
theorem w35 : j35.wf 32 = true := by kernel_rfl
def alikeF (a b : Option (List Ev)) : Bool × Int :=
  if (checkR (a.getD [])).2 = 0 then (if (checkR (b.getD [])).2 = 0 then (eqBy ef_EqualEv (leastF (a.getD [])) (leastF (b.getD [])), 0) else (false, (checkR (b.getD [])).2)) else (false, (checkR (a.getD [])).2)
def Gsm (f : FuncId) (a : List SV) (m : List Res) : Sx.Call := (FH.rd 51 (.one dEs) (.two .int .int) (fun _ => True) (fun y => (playedF y.1).2) <|
  FH.mk 52 (.one dEs) (fun y => y.1.length ≤ 1000) (fun y => .vec 0 (leastF y.1).length) (fun y => [.vec 35 3 ((leastF y.1).map dEv.emb)]) <|
  FH.rd 61 (.two dEs dEs) (.one .bool) (fun _ => True) (fun y => eqBy ef_EqualEv y.1 y.2.1) FH.none) f a m
theorem Gsm_eq (f : FuncId) (a : List SV) (m : List Res) : Gsm f a m = (FH.rd 51 (.one dEs) (.two .int .int) (fun _ => True) (fun y => (playedF y.1).2) <|
  FH.mk 52 (.one dEs) (fun y => y.1.length ≤ 1000) (fun y => .vec 0 (leastF y.1).length) (fun y => [.vec 35 3 ((leastF y.1).map dEv.emb)]) <|
  FH.rd 61 (.two dEs dEs) (.one .bool) (fun _ => True) (fun y => eqBy ef_EqualEv y.1 y.2.1) FH.none) f a m := nr rfl
theorem Gsm_ok : FHOK Try.prog Gsm := FH.rd_ok (by kernel_rfl) (fun y _ => f_Check y.1) <|
  FH.mk_ok (by kernel_rfl) (fun y _ => plainM (pv_vec _ _) ⟨plR_vec _ _ dEv _, trivial⟩) (fun y h => f_least y.1 h) <| FH.rd_ok (by kernel_rfl) (fun y _ => f_EqualEv y.1 y.2.1) FH.none_ok
theorem f_Same (a b : Option (List Ev)) : FnOK Try.prog 35 [dOE.emb a, dOE.emb b] [] (.tup [.bool (alikeF a b).1, .int .i64 (alikeF a b).2]) [] := by
  refine fn_walkF c35 w35 Gsm_ok rfl ?_
  unfold j35
  have ha : (playedF (a.getD [])).2.2 = (checkR (a.getD [])).2 := by rw [played_check]
  have hb : (playedF (b.getD [])).2.2 = (checkR (b.getD [])).2 := by rw [played_check]
  simp only [go_sem, ↓reduceIte, Nat.reduceAdd, Nat.reduceMul, Nat.reduceSub, Nat.reduceLT, Nat.reduceLeDiff, Nat.reduceEqDiff, Int.reduceToNat, Int.reduceEq, Int.reduceLT, Int.reduceLE, reduceCtorEq, Gsm_eq]
  refine loopF Nat (fun k => [.int .i64 k]) (fun _ => [.vec 29 1 [dOE.emb a, dOE.emb b]]) (fun k => k ≤ 2 ∧ (0 < k → (checkR (a.getD [])).2 = 0) ∧ (1 < k → (checkR (b.getD [])).2 = 0)) (fun k => 2 - k) 0 ⟨by omega, fun h => absurd h (Nat.lt_irrefl _), fun h => absurd h (by omega)⟩ ?_ rfl ?_
  · simp only [go_sem, ↓reduceIte, Nat.reduceAdd, Nat.reduceMul, Nat.reduceSub, Nat.reduceLT, Nat.reduceLeDiff, Nat.reduceEqDiff, Int.reduceToNat, Int.reduceEq, Int.reduceLT, Int.reduceLE, reduceCtorEq]
  rintro k ⟨hk, h1, h2⟩
  match k, hk, h1, h2 with
  | 0, _, _, _ =>
    unfold j35_1
    by_cases h : (checkR (a.getD [])).2 = 0
    · simp only [go_sem, ↓reduceIte, Nat.reduceAdd, Nat.reduceMul, Nat.reduceSub, Nat.reduceLT, Nat.reduceLeDiff, Nat.reduceEqDiff, Int.reduceToNat, Int.reduceEq, Int.reduceLT, Int.reduceLE, reduceCtorEq, Gsm_eq, ha, h]
      exact ⟨1, ⟨by omega, fun q => absurd q (by omega)⟩, by omega, IntWalk.i64_in _ (by omega)⟩
    · simp only [go_sem, ↓reduceIte, Nat.reduceAdd, Nat.reduceMul, Nat.reduceSub, Nat.reduceLT, Nat.reduceLeDiff, Nat.reduceEqDiff, Int.reduceToNat, Int.reduceEq, Int.reduceLT, Int.reduceLE, reduceCtorEq, Gsm_eq, ha, h]
      rw [alikeF, if_neg h]
  | 1, _, h1, _ =>
    have h1 := h1 (by omega)
    unfold j35_1
    by_cases h : (checkR (b.getD [])).2 = 0
    · simp only [go_sem, ↓reduceIte, Nat.reduceAdd, Nat.reduceMul, Nat.reduceSub, Nat.reduceLT, Nat.reduceLeDiff, Nat.reduceEqDiff, Int.reduceToNat, Int.reduceEq, Int.reduceLT, Int.reduceLE, reduceCtorEq, Gsm_eq, hb, h]
      exact ⟨2, ⟨by omega, fun _ => h1⟩, by omega, IntWalk.i64_in _ (by omega)⟩
    · simp only [go_sem, ↓reduceIte, Nat.reduceAdd, Nat.reduceMul, Nat.reduceSub, Nat.reduceLT, Nat.reduceLeDiff, Nat.reduceEqDiff, Int.reduceToNat, Int.reduceEq, Int.reduceLT, Int.reduceLE, reduceCtorEq, Gsm_eq, hb, h]
      rw [alikeF, if_pos h1, if_neg h]
  | 2, _, h1, h2 =>
    have h1 := h1 (by omega)
    have h2 := h2 (by omega)
    have l1 := ok_len h1
    have l2 := ok_len h2
    have k1 : (a.getD []).length ≤ 1000 := by omega
    have k2 : (b.getD []).length ≤ 1000 := by omega
    unfold j35_1
    simp only [go_sem, ↓reduceIte, Nat.reduceAdd, Nat.reduceMul, Nat.reduceSub, Nat.reduceLT, Nat.reduceLeDiff, Nat.reduceEqDiff, Int.reduceToNat, Int.reduceEq, Int.reduceLT, Int.reduceLE, reduceCtorEq, Gsm_eq]
    unfold j35_2
    simp only [go_sem, ↓reduceIte, Nat.reduceAdd, Nat.reduceMul, Nat.reduceSub, Nat.reduceLT, Nat.reduceLeDiff, Nat.reduceEqDiff, Int.reduceToNat, Int.reduceEq, Int.reduceLT, Int.reduceLE, reduceCtorEq, Gsm_eq, k1, k2]
    rw [alikeF, if_pos h1, if_pos h2]
theorem equal_same (xs ys : List Ev) : eqBy ef_EqualEv xs ys = eqBy ef_EqEvent xs ys := rfl
end Go.Proofs.Ytafcmgfmmlnngaa.Sw
