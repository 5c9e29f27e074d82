/- swap.Swap. Conditions: none. -/
import Derived.Test.YtohbjnpafpcbkaaSwapA
import Derived.Test.YtohbjnpafpcbkaaCpy
import Derived.Test.YtohbjnpafpcbkaaTraceR
set_option linter.unusedSimpArgs false
set_option linter.unusedVariables false
set_option maxRecDepth 100000
open Go Go.Sx Go.Proofs
namespace Go.Proofs.Ytohbjnpafpcbkaa.Sw
open Go.Proofs.Ytohbjnpafpcbkaa.D Go.Proofs.Ytohbjnpafpcbkaa.Tr Go.Proofs.Ytohbjnpafpcbkaa.Cp
theorem ev_set (l : List Ev) (i : Nat) (a b c : Int) : (l.map dEv.emb).set i (.agg [.int .i64 a, .int .i64 b, .int .i64 c]) = (l.set i ⟨a, b, c⟩).map dEv.emb := by rw [List.map_set]; rfl
theorem ev_getD {l : List Ev} {i : Nat} (h : i < l.length) : (l.map dEv.emb).getD i .junk = .agg [.int .i64 (l.getD i dEv.dft).kind, .int .i64 (l.getD i dEv.dft).thr, .int .i64 (l.getD i dEv.dft).obj] := by
  simp [List.getD, h, ev_emb]
def swapL (l : List Ev) (i : Nat) : List Ev := (l.set i (l.getD (i + 1) dEv.dft)).set (i + 1) (l.getD i dEv.dft)
def swapF (l : List Ev) (i : Int) : List Ev × Int :=
  if (playedF l).2.2 ≠ 0 then ([], (playedF l).2.2) else if i < 0 ∨ (l.length : Int) - 1 ≤ i then ([], 1) else
    if apartB (l.getD i.toNat dEv.dft) (l.getD (i.toNat + 1) dEv.dft) = false then ([], 5) else (swapL l i.toNat, 0)

def j21 : JC :=
  (.seq (.ops <|
  qo 4 (.mv (.c .nils)) <|
  qo 5 (.mv (I 0)) <|
  .nil)
  (.seq (.seq (.ops <|
  qo 9 (.mv (.t 0)) <|
  eo 10 (.call 17 [(.t 9)]) <|
  qo 8 (.mv (.t 10)) <|
  qo 11 (.ext 0 (.t 8)) <|
  qo 12 (.ext 1 (.t 8)) <|
  qo 6 (.mv (.t 11)) <|
  qo 7 (.mv (.t 12)) <|
  .nil)
  (.seq (.ops <|
  qo 13 (.mv (.t 7)) <|
  qo 14 (.cmp .neq (.t 13) (I 0)) <|
  .nil)
  (.prune [14, 7, 1, 0] (.cond (.t 14)
  (.seq (.ops <|
  qo 15 (.mv (.t 7)) <|
  qo 4 (.mv (.c .nils)) <|
  qo 5 (.mv (.t 15)) <|
  .nil)
  (.vecs 4 54 3 .ret))
  .skip))))
  (.prune [1, 0] (.seq (.block 0 (.seq (.ops <|
  qo 17 (.mv (.t 1)) <|
  qo 18 (.cmp .lss (.t 17) (I 0)) <|
  qo 19 (.mv (.t 18)) <|
  .sc true 25 19 (qo 20 (.mv (.t 1)) <|
  qo 21 (.mv (.t 0)) <|
  qo 22 (.len (.t 21)) <|
  qo 23 (.ar .sub (.t 22) (I 1)) <|
  qo 24 (.cmp .geq (.t 20) (.t 23)) <|
  .nil) (.t 24) <|
  qo 16 (.mv (.t 25)) <|
  .nil)
  (.prune [16, 0, 1] (.cond (.t 16)
  (.seq (.ops <|
  qo 4 (.mv (.c .nils)) <|
  qo 5 (.mv (I 1)) <|
  .nil)
  (.vecs 4 54 3 .ret))
  (.seq (.dops <|
  qo 27 (.mv (.t 0)) <|
  qo 28 (.mv (.t 1)) <|
  qo 29 (.is 3 (.t 27) (.t 28)) <|
  eo 30 (.load 3 true (.t 29)) <|
  .prune [0, 1, 30] <|
  qo 31 (.mv (.t 0)) <|
  qo 32 (.mv (.t 1)) <|
  qo 33 (.ar .add (.t 32) (I 1)) <|
  qo 34 (.is 3 (.t 31) (.t 33)) <|
  .prune [34, 30, 0, 1] <|
  eo 35 (.load 3 true (.t 34)) <|
  eo 36 (.qcall 48 [(.t 30), (.t 35)]) <|
  qo 37 (.nt (.t 36)) <|
  qo 26 (.mv (.t 37)) <|
  .nil)
  (.prune [26, 0, 1] (.cond (.t 26)
  (.seq (.ops <|
  qo 4 (.mv (.c .nils)) <|
  qo 5 (.mv (I 5)) <|
  .nil)
  (.vecs 4 54 3 .ret))
  .skip)))))))
  (.prune [0, 1] (.seq (.ops <|
  qo 38 (.mv (.t 0)) <|
  eo 39 (.call 58 [(.t 38)]) <|
  qo 0 (.mv (.t 39)) <|
  .nil)
  (.seq (.dops <|
  qo 40 (.mv (.t 0)) <|
  qo 41 (.mv (.t 1)) <|
  .prune [0, 1, 40, 41] <|
  qo 42 (.mv (.t 0)) <|
  qo 43 (.mv (.t 1)) <|
  qo 44 (.ar .add (.t 43) (I 1)) <|
  qo 45 (.mv (.t 0)) <|
  qo 46 (.mv (.t 1)) <|
  qo 47 (.ar .add (.t 46) (I 1)) <|
  qo 48 (.is 3 (.t 45) (.t 47)) <|
  .prune [48, 0, 1, 40, 41, 42, 44] <|
  eo 49 (.load 3 true (.t 48)) <|
  qo 50 (.mv (.t 0)) <|
  qo 51 (.mv (.t 1)) <|
  qo 52 (.is 3 (.t 50) (.t 51)) <|
  .prune [52, 40, 41, 49, 42, 44, 0] <|
  eo 53 (.load 3 true (.t 52)) <|
  qo 54 (.is 3 (.t 40) (.t 41)) <|
  .prune [54, 49, 42, 44, 53, 0] <|
  en (.store 3 (.t 54) (.t 49)) <|
  qo 55 (.is 3 (.t 42) (.t 44)) <|
  en (.store 3 (.t 55) (.t 53)) <|
  .nil)
  (.prune [0] (.seq (.ops <|
  qo 56 (.mv (.t 0)) <|
  qo 4 (.mv (.t 56)) <|
  qo 5 (.mv (I 0)) <|
  .nil)
  (.vecs 4 54 3 .ret))))))))))
theorem c21 : fnIs Try.prog qall 21 = some (j21.flat, [.tmp 4, .tmp 5], 57) := by kernel_rfl
theorem w21 : j21.wf 57 = true := by kernel_rfl
def Gsw (f : FuncId) (a : List SV) (m : List Res) : Sx.Call := (FH.rd 17 (.one dEs) (.two .int .int) (fun _ => True) (fun y => (playedF y.1).2) <|
  FH.rd 48 (.two dEv dEv) (.one .bool) (fun _ => True) (fun y => apartB y.1 y.2.1) <|
  FH.mk 58 (.one dEs) (fun y => y.1.length ≤ 1000000) (fun y => .vec 0 y.1.length) (fun y => [.vec 54 3 (y.1.map dEv.emb)]) FH.none) f a m
theorem Gsw_eq (f : FuncId) (a : List SV) (m : List Res) : Gsw f a m = (FH.rd 17 (.one dEs) (.two .int .int) (fun _ => True) (fun y => (playedF y.1).2) <|
  FH.rd 48 (.two dEv dEv) (.one .bool) (fun _ => True) (fun y => apartB y.1 y.2.1) <|
  FH.mk 58 (.one dEs) (fun y => y.1.length ≤ 1000000) (fun y => .vec 0 y.1.length) (fun y => [.vec 54 3 (y.1.map dEv.emb)]) FH.none) f a m := nr rfl
theorem Gsw_ok : FHOK Try.prog Gsw := FH.rd_ok (by kernel_rfl) (fun y _ => f_Check y.1) <| FH.rd_ok (by kernel_rfl) (fun y _ => f_Apart y.1 y.2.1) <|
  FH.mk_ok (by kernel_rfl) (fun y _ => plainM (pv_vec _ _) ⟨plR_vec _ _ dEv _, trivial⟩) (fun y h => f_CloneEv y.1 h) FH.none_ok
theorem f_Swap (l : List Ev) (i : Int) : FnOK Try.prog 21 [dEs.emb l, .int .i64 i] [] (.tup [.vec 0 (swapF l i).1.length, .int .i64 (swapF l i).2]) [.vec 54 3 ((swapF l i).1.map dEv.emb)] := by
  refine fn_walkF c21 w21 Gsw_ok rfl ?_
  unfold j21
  by_cases h0 : (playedF l).2.2 = 0
  · have hl := ok_len (l := l) (by rw [← played_check]; exact h0)
    have hw : IntKind.i64.wrap ((l.length : Int) - 1) = (l.length : Int) - 1 := IntWalk.i64_in _ (by omega)
    by_cases h1 : 0 ≤ i ∧ i < (l.length : Int) - 1
    · obtain ⟨n, rfl⟩ : ∃ n : Nat, i = n := ⟨i.toNat, by omega⟩
      have h2 : ¬ (n : Int) < 0 := by omega
      have h3 : ¬ (l.length : Int) - 1 ≤ (n : Int) := by omega
      have h4 : IntKind.i64.wrap ((n : Int) + 1) = ((n + 1 : Nat) : Int) := IntWalk.i64_in _ (by omega)
      have g1 : n < l.length := by omega
      have g2 : n + 1 < l.length := by omega
      have i1 : (n : Int) < l.length := by omega
      have i2 : ((n + 1 : Nat) : Int) < l.length := by omega
      simp only [go_sem, ↓reduceIte, Nat.reduceAdd, Nat.reduceMul, Nat.reduceSub, Nat.reduceLT, Nat.reduceLeDiff, Nat.reduceEqDiff, Int.reduceToNat, Int.reduceEq, Int.reduceLT, Int.reduceLE, reduceCtorEq, Gsw_eq, h0, hw, h1, h2, h3, h4, g1, g2, i1, i2, ev_set, ev_getD, ev_eta, List.length_set]
      have e1 : swapF l n = if apartB (l.getD n dEv.dft) (l.getD (n + 1) dEv.dft) = false then ([], 5) else (swapL l n, 0) := by
        rw [swapF, if_neg (by simp [h0]), if_neg (by omega), Int.toNat_natCast]
      rw [e1]
      refine ⟨by omega, fun h => by rw [if_pos h]; exact ⟨rfl, rfl⟩, fun h => ⟨by omega, by omega, by omega, ?_, ?_⟩⟩
      · rw [if_neg (by rw [h]; simp)]
        simp [swapL]
      · rw [if_neg (by rw [h]; simp)]; rfl
    · have hc : i < 0 ∨ (l.length : Int) - 1 ≤ i := by omega
      have e1 : swapF l i = ([], 1) := by rw [swapF, if_neg (by simp [h0]), if_pos hc]
      have hb : (decide (i < 0) || decide ((l.length : Int) - 1 ≤ i)) = true := by simpa using hc
      simp only [go_sem, ↓reduceIte, Nat.reduceAdd, Nat.reduceMul, Nat.reduceSub, Nat.reduceLT, Nat.reduceLeDiff, Nat.reduceEqDiff, Int.reduceToNat, Int.reduceEq, Int.reduceLT, Int.reduceLE, reduceCtorEq, Gsw_eq, h0, hw, hb]
      rw [e1]
      exact ⟨rfl, rfl⟩
  · simp only [go_sem, ↓reduceIte, Nat.reduceAdd, Nat.reduceMul, Nat.reduceSub, Nat.reduceLT, Nat.reduceLeDiff, Nat.reduceEqDiff, Int.reduceToNat, Int.reduceEq, Int.reduceLT, Int.reduceLE, reduceCtorEq, Gsw_eq, h0]
    rw [swapF, if_pos h0]
    exact ⟨rfl, rfl⟩
end Go.Proofs.Ytohbjnpafpcbkaa.Sw
