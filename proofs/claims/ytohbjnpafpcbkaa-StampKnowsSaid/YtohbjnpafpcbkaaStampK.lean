/- stamp.Knows. Conditions: none. -/
import Derived.Test.YtohbjnpafpcbkaaStampM
set_option linter.unusedSimpArgs false
set_option linter.unusedVariables false
set_option maxRecDepth 100000
open Go Go.Sx Go.Proofs
namespace Go.Proofs.Ytohbjnpafpcbkaa.St
open Go.Proofs.Ytohbjnpafpcbkaa.D Go.Proofs.Ytohbjnpafpcbkaa.Tr Go.Proofs.Ytohbjnpafpcbkaa.C Go.Proofs.Ytohbjnpafpcbkaa.Ah
/-- The last clock of a thread, of the first i. -/
def lastF (l : List Ev) (f : Nat → Clk) (t : Int) : Nat → Clk
  | 0 => fun _ => 0
  | i + 1 => if (l.getD i dEv.dft).thr = t then f i else lastF l f t i
def stN (l : List Ev) (i : Nat) : Clk := nowC (kAt l i) (l.getD i dEv.dft)
def knowsF (l : List Ev) (t : Int) : Clk × Int := if (playedF l).2.2 ≠ 0 then (fun _ => 0, (playedF l).2.2) else if t < 0 ∨ 6 ≤ t then (fun _ => 0, 1) else (lastF l (stN l) t l.length, 0)
def j51_1 : JC :=
  (.seq (.seq (.ops <|
  qo 30 (.mv (.t 8)) <|
  qo 31 (.cmp .geq (.t 30) (I 0)) <|
  .nil)
  (.cond (.t 31)
  .skip
  (.exit 1)))
  (.seq (.block 2 (.seq (.ops <|
  qo 34 (.mv (.t 0)) <|
  qo 35 (.mv (.t 8)) <|
  qo 36 (.is 3 (.t 34) (.t 35)) <|
  .prune [36, 1, 6, 8, 4, 0] <|
  qo 37 (.fa 1 1 (.t 36)) <|
  eo 38 (.load 1 false (.t 37)) <|
  qo 39 (.mv (.t 1)) <|
  qo 40 (.cmp .eql (.t 38) (.t 39)) <|
  .nil)
  (.prune [40, 6, 8, 4, 0, 1] (.cond (.t 40)
  (.seq (.ops <|
  qo 41 (.mv (.t 6)) <|
  .prune [8, 41, 4] <|
  qo 42 (.mv (.t 8)) <|
  qo 43 (.is 6 (.t 41) (.t 42)) <|
  eo 44 (.load 6 true (.t 43)) <|
  en (.store 6 (.t 4) (.t 44)) <|
  qo 5 (.mv (I 0)) <|
  .nil)
  .ret)
  .skip))))
  (.prune [8, 0, 1, 6, 4] (.ops <|
  qo 32 (.mv (.t 8)) <|
  qo 33 (.ar .sub (.t 32) (I 1)) <|
  qo 8 (.mv (.t 33)) <|
  .nil))))
def j51_2 : JC :=
  (.prune [4] (.seq (.ops <|
  qo 45 (.bld (.arr 6 1 fun _ => (.int .i64 0)) []) <|
  en (.store 6 (.t 4) (.t 45)) <|
  qo 5 (.mv (I 0)) <|
  .nil)
  .ret))
def j51 : JC :=
  (.seq (.ops <|
  eo 4 (.alloc 68 (.arr 6 1 fun _ => (.int .i64 0))) <|
  qo 5 (.mv (I 0)) <|
  .nil)
  (.seq (.ops <|
  qo 10 (.mv (.t 0)) <|
  eo 11 (.call 38 [(.t 10)]) <|
  qo 9 (.mv (.t 11)) <|
  qo 12 (.ext 0 (.t 9)) <|
  qo 13 (.ext 1 (.t 9)) <|
  qo 6 (.mv (.t 12)) <|
  qo 7 (.mv (.t 13)) <|
  .nil)
  (.seq (.block 0 (.seq (.ops <|
  .prune [7, 4, 1, 0, 6] <|
  qo 15 (.mv (.t 7)) <|
  qo 16 (.cmp .neq (.t 15) (I 0)) <|
  qo 14 (.mv (.t 16)) <|
  .nil)
  (.prune [14, 7, 4, 1, 0, 6] (.cond (.t 14)
  (.seq (.ops <|
  qo 17 (.bld (.arr 6 1 fun _ => (.int .i64 0)) []) <|
  .prune [7, 4, 17] <|
  qo 18 (.mv (.t 7)) <|
  en (.store 6 (.t 4) (.t 17)) <|
  qo 5 (.mv (.t 18)) <|
  .nil)
  .ret)
  (.seq (.ops <|
  qo 20 (.mv (.t 1)) <|
  qo 21 (.cmp .lss (.t 20) (I 0)) <|
  .prune [21, 1, 4, 0, 6] <|
  qo 22 (.mv (.t 21)) <|
  .sc true 25 22 (qo 23 (.mv (.t 1)) <|
  qo 24 (.cmp .geq (.t 23) (I 6)) <|
  .nil) (.t 24) <|
  qo 19 (.mv (.t 25)) <|
  .nil)
  (.prune [19, 4, 0, 1, 6] (.cond (.t 19)
  (.seq (.ops <|
  qo 26 (.bld (.arr 6 1 fun _ => (.int .i64 0)) []) <|
  en (.store 6 (.t 4) (.t 26)) <|
  qo 5 (.mv (I 1)) <|
  .nil)
  .ret)
  .skip)))))))
  (.prune [0, 1, 6, 4] (.seq (.seq (.ops <|
  qo 27 (.mv (.t 0)) <|
  qo 28 (.len (.t 27)) <|
  qo 29 (.ar .sub (.t 28) (I 1)) <|
  qo 8 (.mv (.t 29)) <|
  .nil)
  (.block 1 (.loop [0, 1, 6, 4] [8] j51_1)))
  j51_2)))))
theorem c51 : fnIs Try.prog qall 51 = some (j51.flat, [.cell 4 68, .tmp 5], 46) := by kernel_rfl
theorem w51 : j51.wf 46 = true := by kernel_rfl
def Gkn (f : FuncId) (a : List SV) (m : List Res) : Sx.Call := (FH.mk 38 (.one dEs) (fun _ => True) (fun y => .tup [.vec 0 (stampsF y.1).length, .int .i64 (playedF y.1).2.2]) (fun y => [.vec 68 6 ((stampsF y.1).map dClk.emb)]) FH.none) f a m
theorem Gkn_eq (f : FuncId) (a : List SV) (m : List Res) : Gkn f a m = (FH.mk 38 (.one dEs) (fun _ => True) (fun y => .tup [.vec 0 (stampsF y.1).length, .int .i64 (playedF y.1).2.2]) (fun y => [.vec 68 6 ((stampsF y.1).map dClk.emb)]) FH.none) f a m := nr rfl
theorem Gkn_ok : FHOK Try.prog Gkn := FH.mk_ok (by kernel_rfl) (fun y _ => plainM (pv_tup ⟨plV_vec _ _, plV_int _ _, trivial⟩) ⟨plR_vec _ _ dClk _, trivial⟩) (fun y _ => f_Stamps y.1) FH.none_ok
theorem f_Knows (l : List Ev) (t : Int) : FnOK Try.prog 51 [dEs.emb l, .int .i64 t] [] ((DR.two dClk .int).emb (knowsF l t)) [] := by
  refine fn_walkF c51 w51 Gkn_ok rfl ?_
  unfold j51
  unfold knowsF
  by_cases h0 : (playedF l).2.2 = 0
  · have hl := ok_len (l := l) (by rw [← played_check]; exact h0)
    have hw : IntKind.i64.wrap ((l.length : Int) - 1) = (l.length : Int) - 1 := IntWalk.i64_in _ (by omega)
    by_cases h1 : t < 0 ∨ 6 ≤ t
    · have h1' : (decide (t < 0) || decide (6 ≤ t)) = true := by simpa using h1
      simp only [go_sem, ↓reduceIte, Nat.reduceAdd, Nat.reduceMul, Nat.reduceSub, Nat.reduceLT, Nat.reduceLeDiff, Nat.reduceEqDiff, Int.reduceToNat, Int.reduceEq, Int.reduceLT, Int.reduceLE, reduceCtorEq, Gkn_eq, h0, h1, h1', hw, tszC]
    · have h1' : (decide (t < 0) || decide (6 ≤ t)) = false := by simpa using h1
      simp only [go_sem, ↓reduceIte, Nat.reduceAdd, Nat.reduceMul, Nat.reduceSub, Nat.reduceLT, Nat.reduceLeDiff, Nat.reduceEqDiff, Int.reduceToNat, Int.reduceEq, Int.reduceLT, Int.reduceLE, reduceCtorEq, Gkn_eq, h0, h1, h1', hw, tszC]
      have hst : stampsF l = stL l l.length := by rw [stampsF, if_pos h0]
      rw [hst]
      have hres : (if (playedF l).2.2 ≠ 0 then ((fun _ => 0 : Clk), (playedF l).2.2) else if t < 0 ∨ 6 ≤ t then ((fun _ => 0 : Clk), (1 : Int)) else (lastF l (stN l) t l.length, 0)) = (lastF l (stN l) t l.length, 0) := by
        rw [if_neg (by simp [h0]), if_neg h1]
      rw [hres]
      have hlen : (stL l l.length).length = l.length := tb_len
      refine loopF Nat (fun k => [.int .i64 ((k : Int) - 1)]) (fun k => [.blk 68 (dClk.emb fun _ => 0), .vec 68 6 ((stL l l.length).map dClk.emb)]) (fun k => k ≤ l.length ∧ lastF l (stN l) t l.length = lastF l (stN l) t k) (fun k => k) l.length ⟨by omega, rfl⟩ ?_ ?_ ?_
      · simp only [go_sem, ↓reduceIte, Nat.reduceAdd, Nat.reduceMul, Nat.reduceSub, Nat.reduceLT, Nat.reduceLeDiff, Nat.reduceEqDiff, Int.reduceToNat, Int.reduceEq, Int.reduceLT, Int.reduceLE, reduceCtorEq]
      · simp only [go_sem, ↓reduceIte, Nat.reduceAdd, Nat.reduceMul, Nat.reduceSub, Nat.reduceLT, Nat.reduceLeDiff, Nat.reduceEqDiff, Int.reduceToNat, Int.reduceEq, Int.reduceLT, Int.reduceLE, reduceCtorEq]
      rintro k ⟨hk, hinv⟩
      cases k with
      | zero =>
        have hz : ¬ (0 : Int) ≤ 0 - 1 := by omega
        unfold j51_1
        simp only [go_sem, ↓reduceIte, Nat.reduceAdd, Nat.reduceMul, Nat.reduceSub, Nat.reduceLT, Nat.reduceLeDiff, Nat.reduceEqDiff, Int.reduceToNat, Int.reduceEq, Int.reduceLT, Int.reduceLE, reduceCtorEq, hz]
        unfold j51_2
        simp only [go_sem, ↓reduceIte, Nat.reduceAdd, Nat.reduceMul, Nat.reduceSub, Nat.reduceLT, Nat.reduceLeDiff, Nat.reduceEqDiff, Int.reduceToNat, Int.reduceEq, Int.reduceLT, Int.reduceLE, reduceCtorEq, tszC]
        rw [hinv]
        rfl
      | succ m =>
        have e1 : ((m + 1 : Nat) : Int) - 1 = (m : Int) := by omega
        have h2 : (0 : Int) ≤ (m : Int) := by omega
        have h3 : m < l.length := by omega
        have h3' : (m : Int) < l.length := by omega
        have hw2 : IntKind.i64.wrap ((m : Int) - 1) = (m : Int) - 1 := IntWalk.i64_in _ (by omega)
        rw [e1]
        unfold j51_1
        have hg := clk_getD (l := stL l l.length) (i := m) (by rw [hlen]; exact h3)
        have hgm : (stL l l.length).getD m dClk.dft = stN l m := tb_getD h3
        simp only [go_sem, ↓reduceIte, Nat.reduceAdd, Nat.reduceMul, Nat.reduceSub, Nat.reduceLT, Nat.reduceLeDiff, Nat.reduceEqDiff, Int.reduceToNat, Int.reduceEq, Int.reduceLT, Int.reduceLE, reduceCtorEq, h2, h3, h3', hw2, hlen, hg, hgm, tszC]
        refine ⟨fun h => ?_, fun h => ⟨m, ⟨by omega, ?_⟩, by omega, rfl⟩⟩
        · rw [hinv, lastF, if_pos h]
        · rw [hinv, lastF, if_neg h]
  · simp only [go_sem, ↓reduceIte, Nat.reduceAdd, Nat.reduceMul, Nat.reduceSub, Nat.reduceLT, Nat.reduceLeDiff, Nat.reduceEqDiff, Int.reduceToNat, Int.reduceEq, Int.reduceLT, Int.reduceLE, reduceCtorEq, Gkn_eq, h0, tszC]
end Go.Proofs.Ytohbjnpafpcbkaa.St
