/- THE LAW 'BoardTells' HANDS BACK TRUE, AND WHAT IT READS STANDS AS IT DID: FOR EVERY START. Conditions: none. -/
import Derived.Test.YtgcbhanfhnianaaBoard
import Derived.Test.YtgcbhanfhnianaaEqs
import Derived.WalkKit
import Derived.ProofKit
import Derived.OpenShut
set_option linter.unusedSimpArgs false
set_option linter.unusedVariables false
set_option maxRecDepth 100000
open Go Go.Sx Go.Proofs Go.ChangeShapes Go.WideShapes Go.ChangeAt Go.RowKit
namespace Go.Proofs.Ytgcbhanfhnianaa.BoardTells
open Go.Proofs.Ytgcbhanfhnianaa.D Go.Proofs.Ytgcbhanfhnianaa.Tr Go.Proofs.Ytgcbhanfhnianaa.Fu Go.Proofs.Ytgcbhanfhnianaa.Fa Go.Proofs.Ytgcbhanfhnianaa.Bd Go.Proofs.Ytgcbhanfhnianaa.Eqs
def j5_1 : JC :=
  (.seq (.ops <|
  qo 20 (.cmp .lss (.t 19) (.t 18)) <|
  .nil)
  (.seq (.cond (.t 20)
  .skip
  (.exit 0))
  (.seq (.block 1 (.seq (.ops <|
  qo 21 (.is 3 (.t 17) (.t 19)) <|
  eo 22 (.load 3 true (.t 21)) <|
  eo 6 (.alloc 35 (.agg [(.int .i64 0), (.int .i64 0), (.int .i64 0)])) <|
  en (.store 3 (.t 6) (.t 22)) <|
  .nil)
  (.prune [3, 6, 4, 19, 18, 17] (.seq (.ops <|
  qo 24 (.mv (.t 3)) <|
  eo 25 (.load 3 true (.t 6)) <|
  eo 26 (.call 22 [(.t 24), (.t 25)]) <|
  qo 23 (.mv (.t 26)) <|
  .prune [23, 4, 6, 19, 18, 17, 3] <|
  qo 27 (.ext 0 (.t 23)) <|
  qo 28 (.ext 1 (.t 23)) <|
  qo 7 (.mv (.t 27)) <|
  qo 8 (.mv (.t 28)) <|
  .nil)
  (.prune [4, 6, 8, 7, 19, 18, 17, 3] (.seq (.ops <|
  qo 9 (.mv (I 2)) <|
  .nil)
  (.seq (.seq (.ops <|
  qo 29 (.mv (.t 4)) <|
  qo 30 (.len (.t 29)) <|
  qo 31 (.cmp .lss (.t 30) (I 80)) <|
  .nil)
  (.prune [31, 4, 6, 8, 7, 19, 18, 17, 3, 9] (.cond (.t 31)
  (.ops <|
  qo 32 (.mv (.t 4)) <|
  eo 33 (.load 3 true (.t 6)) <|
  eo 34 (.call 23 [(.t 32), (.t 33)]) <|
  qo 9 (.mv (.t 34)) <|
  .nil)
  .skip)))
  (.prune [8, 9, 7, 4, 6, 19, 18, 17, 3] (.seq (.seq (.ops <|
  qo 35 (.mv (.t 8)) <|
  qo 36 (.mv (.t 9)) <|
  qo 37 (.cmp .neq (.t 35) (.t 36)) <|
  .prune [37, 8, 7, 4, 6, 19, 18, 17, 3] <|
  qo 38 (.mv (.t 37)) <|
  .sc true 45 38 (qo 39 (.mv (.t 8)) <|
  qo 40 (.cmp .neq (.t 39) (I 0)) <|
  qo 41 (.mv (.t 40)) <|
  .sc false 44 41 (qo 42 (.mv (.t 7)) <|
  qo 43 (.cmp .neq (.t 42) (I 0)) <|
  .nil) (.t 43) <|
  .nil) (.t 44) <|
  qo 46 (.mv (.t 45)) <|
  .prune [46, 8, 7, 4, 6, 19, 18, 17, 3] <|
  .sc true 55 46 (qo 47 (.mv (.t 8)) <|
  qo 48 (.cmp .eql (.t 47) (I 0)) <|
  qo 49 (.mv (.t 48)) <|
  .sc false 54 49 (qo 50 (.mv (.t 7)) <|
  qo 51 (.mv (.t 4)) <|
  qo 52 (.len (.t 51)) <|
  qo 53 (.cmp .neq (.t 50) (.t 52)) <|
  .nil) (.t 53) <|
  .nil) (.t 54) <|
  .nil)
  (.prune [55, 8, 4, 6, 19, 18, 17, 3] (.cond (.t 55)
  (.seq (.ops <|
  qo 2 (.mv (B false)) <|
  .nil)
  .ret)
  .skip)))
  (.prune [8, 4, 6, 19, 18, 17, 3] (.seq (.ops <|
  qo 56 (.mv (.t 8)) <|
  qo 57 (.cmp .eql (.t 56) (I 0)) <|
  .nil)
  (.cond (.t 57)
  (.ops <|
  .prune [4, 6, 19, 18, 17, 3] <|
  qo 58 (.mv (.t 4)) <|
  eo 59 (.load 3 true (.t 6)) <|
  eo 60 (.bsl 35 3 1 (.agg [(.int .i64 0), (.int .i64 0), (.int .i64 0)]) [(0, (.t 59))]) <|
  eo 61 (.app 35 3 24 (.t 58) (.t 60)) <|
  qo 4 (.mv (.t 61)) <|
  .nil)
  .skip))))))))))))
  (.prune [19, 18, 17, 3, 4] (.ops <|
  qo 62 (.ar .add (.t 19) (I 1)) <|
  qo 19 (.mv (.t 62)) <|
  .nil)))))
def j5_2 : JC :=
  (.prune [4, 3] (.seq (.ops <|
  qo 64 (.mv (.t 4)) <|
  eo 65 (.call 19 [(.t 64)]) <|
  qo 63 (.mv (.t 65)) <|
  qo 66 (.ext 0 (.t 63)) <|
  qo 67 (.ext 1 (.t 63)) <|
  qo 10 (.mv (.t 66)) <|
  qo 11 (.mv (.t 67)) <|
  .nil)
  (.seq (.ops <|
  .prune [3, 4, 10] <|
  qo 69 (.mv (.t 3)) <|
  qo 70 (.bld (.agg [(.int .i64 0), (.int .i64 0), (.int .i64 0)]) []) <|
  eo 71 (.call 22 [(.t 69), (.t 70)]) <|
  qo 68 (.mv (.t 71)) <|
  .prune [68, 3, 4, 10] <|
  qo 72 (.ext 0 (.t 68)) <|
  qo 73 (.ext 1 (.t 68)) <|
  qo 12 (.mv (.t 72)) <|
  qo 13 (.mv (.t 73)) <|
  .nil)
  (.prune [3, 4, 10, 13] (.seq (.ops <|
  qo 74 (.mv (.t 3)) <|
  eo 75 (.call 24 [(.t 74)]) <|
  qo 76 (.mv (.t 4)) <|
  eo 77 (.call 14 [(.t 75), (.t 76)]) <|
  .prune [77, 3, 10, 13, 4] <|
  qo 78 (.mv (.t 77)) <|
  .scd false 83 78 (qo 79 (.mv (.t 3)) <|
  eo 80 (.call 25 [(.t 79)]) <|
  qo 81 (.mv (.t 10)) <|
  eo 82 (.call 20 [(.t 80), (.t 81)]) <|
  .nil) (.t 82) <|
  .prune [83, 13, 4] <|
  qo 84 (.mv (.t 83)) <|
  .sc false 96 84 (qo 85 (.mv (.t 13)) <|
  qo 86 (.cmp .eql (.t 85) (I 1)) <|
  qo 87 (.mv (.t 86)) <|
  .sc true 95 87 (qo 88 (.mv (.t 13)) <|
  qo 89 (.cmp .eql (.t 88) (I 2)) <|
  qo 90 (.mv (.t 89)) <|
  .sc false 94 90 (qo 91 (.mv (.t 4)) <|
  qo 92 (.len (.t 91)) <|
  qo 93 (.cmp .eql (.t 92) (I 80)) <|
  .nil) (.t 93) <|
  .nil) (.t 94) <|
  .nil) (.t 95) <|
  qo 2 (.mv (.t 96)) <|
  .nil)
  .ret)))))
def j5 : JC :=
  (.seq (.ops <|
  qo 2 (.mv (B false)) <|
  .nil)
  (.seq (.ops <|
  eo 14 (.call 21 []) <|
  qo 3 (.mv (.t 14)) <|
  .nil)
  (.seq (.seq (.ops <|
  qo 15 (.mv (.t 3)) <|
  qo 16 (.pnil false (.t 15)) <|
  .nil)
  (.cond (.t 16)
  (.seq (.ops <|
  qo 2 (.mv (B false)) <|
  .nil)
  .ret)
  .skip))
  (.seq (.ops <|
  qo 4 (.mv (.c .nils)) <|
  .nil)
  (.seq (.seq (.ops <|
  .prune [0, 3, 4] <|
  qo 17 (.mv (.t 0)) <|
  qo 18 (.len (.t 17)) <|
  qo 19 (.mv (I 0)) <|
  .nil)
  (.prune [19, 18, 17, 3, 4] (.block 0 (.vecs 4 35 3 (.loop [18, 17, 3] [19, 4] j5_1)))))
  j5_2)))))
theorem c5 : fnIs Try.prog qall 5 = some (j5.flat, [.tmp 2], 97) := by kernel_rfl
theorem w5 : j5.wf 97 = true := by kernel_rfl
def G (f : FuncId) (a : List SV) (m : List Res) : Sx.Call := (FH.mn 21 (.ptr 0 [] 0) [.blk 119 (dB.emb [])] <|
  FH.mt 22 119 dB (.one dEv) (.two .int .int) (fun s _ => s.length ≤ 1000) (fun s y => tellR s y.1) (fun s y => tellS s y.1) <|
  FH.rd 23 (.two dEs dEv) (.one .int) (fun _ => True) (fun y => wrongR y.1 y.2.1) <|
  FH.mk 19 (.one dEs) (fun y => (checkR y.1).2 = 0) (fun y => .tup [.vec 0 (outA y.1 (flA y.1 8) y.1.length).length, .int .i64 (slA y.1 8)]) (fun y => [.vec 47 3 ((outA y.1 (flA y.1 8) y.1.length).map dFl.emb)]) <|
  FH.mz 24 119 dB .nil (DP.one dEs) (fun s _ => s.length ≤ 1000) (fun s _ => s) (fun s _ => s) <|
  FH.mz 25 119 dB .nil (DP.one dFls) (fun s _ => s.length ≤ 1000) (fun s _ => fastL s) (fun s _ => s) <|
  FH.rd 14 (.two dEs dEs) (.one .bool) (fun _ => True) (fun y => eqBy ef_EqEvent y.1 y.2.1) <|
  FH.rd 20 (.two dFls dFls) (.one .bool) (fun _ => True) (fun y => eqBy ef_EqFlag y.1 y.2.1) FH.none) f a m
theorem G_eq (f : FuncId) (a : List SV) (m : List Res) : G f a m = (FH.mn 21 (.ptr 0 [] 0) [.blk 119 (dB.emb [])] <|
  FH.mt 22 119 dB (.one dEv) (.two .int .int) (fun s _ => s.length ≤ 1000) (fun s y => tellR s y.1) (fun s y => tellS s y.1) <|
  FH.rd 23 (.two dEs dEv) (.one .int) (fun _ => True) (fun y => wrongR y.1 y.2.1) <|
  FH.mk 19 (.one dEs) (fun y => (checkR y.1).2 = 0) (fun y => .tup [.vec 0 (outA y.1 (flA y.1 8) y.1.length).length, .int .i64 (slA y.1 8)]) (fun y => [.vec 47 3 ((outA y.1 (flA y.1 8) y.1.length).map dFl.emb)]) <|
  FH.mz 24 119 dB .nil (DP.one dEs) (fun s _ => s.length ≤ 1000) (fun s _ => s) (fun s _ => s) <|
  FH.mz 25 119 dB .nil (DP.one dFls) (fun s _ => s.length ≤ 1000) (fun s _ => fastL s) (fun s _ => s) <|
  FH.rd 14 (.two dEs dEs) (.one .bool) (fun _ => True) (fun y => eqBy ef_EqEvent y.1 y.2.1) <|
  FH.rd 20 (.two dFls dFls) (.one .bool) (fun _ => True) (fun y => eqBy ef_EqFlag y.1 y.2.1) FH.none) f a m := nr rfl
theorem G_ok : FHOK Try.prog G := FH.mn_ok (by kernel_rfl) f_New <| FH.mt_ok (by kernel_rfl) (fun s y h => f_Tell s y.1 h) <| FH.rd_ok (by kernel_rfl) (fun y _ => f_Wrong y.1 y.2.1) <|
  FH.mk_ok (by kernel_rfl) (fun y _ => plainM (pv_tup ⟨plV_vec _ _, plV_int _ _, trivial⟩) ⟨plR_vec _ _ dFl _, trivial⟩) (fun y h => f_RFast y.1 h) <|
  FH.mz_ok (by kernel_rfl) (fun s _ h => f_Trace s h) <| FH.mz_ok (by kernel_rfl) (fun s _ h => f_Flags s h) <|
  FH.rd_ok (by kernel_rfl) (fun y _ => f_EqEvent y.1 y.2.1) <| FH.rd_ok (by kernel_rfl) (fun y _ => f_EqFlag y.1 y.2.1) FH.none_ok
theorem check_snoc {p : List Ev} {e : Ev} : ∀ (r : List Ev) (i : Nat), p.drop i = r → i ≤ p.length → (checkL (p ++ [e]) (r ++ [e]) i).2 = if (checkL p r i).2 = 0 then wrongR p e else (checkL p r i).2
  | [], i, hr, hi => by
    have hip : i = p.length := by
      have := congrArg List.length hr
      simp only [List.length_drop, List.length_nil] at this
      omega
    subst hip
    simp only [List.nil_append, checkL, List.take_left', if_true]
    split <;> rename_i h
    · simp [h]
    · simp
  | x :: r, i, hr, hi => by
    have hil : i < p.length := by
      have := congrArg List.length hr
      simp only [List.length_drop, List.length_cons] at this
      omega
    have hr' : p.drop (i + 1) = r := by
      rw [← List.drop_drop, hr]; rfl
    simp only [List.cons_append, checkL, List.take_append_of_le_length hi]
    by_cases h : wrongR (p.take i) x = 0
    · simp only [h, if_true]; exact check_snoc r (i + 1) hr' (by omega)
    · simp only [h, if_false]
theorem len_ok {p : List Ev} (h : (checkR p).2 = 0) : p.length ≤ 80 := by
  unfold checkR at h
  split at h
  · cases h
  · omega
def nextE (p : List Ev) (e : Ev) : Int := if p.length < 80 then wrongR p e else 2
theorem snoc_is {p : List Ev} {e : Ev} (h : (checkR p).2 = 0) : (playedF (p ++ [e])).2.2 = nextE p e := by
  have hl := len_ok h
  rw [err_same, nextE]
  by_cases h8 : p.length < 80
  · rw [if_pos h8, checkR, if_neg (by simp; omega)]
    have := check_snoc (p := p) (e := e) p 0 rfl (Nat.zero_le _)
    rw [checkR, if_neg (by omega)] at h
    rw [this, if_pos h]
  · rw [if_neg h8, checkR, if_pos (by simp; omega)]
def wantL (l : List Ev) : List Ev := l.foldl tellS []
theorem want_ok : ∀ (l p : List Ev), (checkR p).2 = 0 → (checkR (l.foldl tellS p)).2 = 0
  | [], p, h => h
  | e :: l, p, h => by
    rw [List.foldl_cons]
    refine want_ok l _ ?_
    unfold tellS
    split <;> rename_i hh
    · rw [← err_same]; exact hh
    · exact h
theorem zero_is (p : List Ev) : nextE p ⟨0, 0, 0⟩ = if p.length < 80 then 1 else 2 := by
  unfold nextE
  split
  · rw [wrongR, if_pos (by decide)]
  · rfl
theorem tellR_is {W : List Ev} {e : Ev} (h : (checkR W).2 = 0) : tellR W e = if nextE W e = 0 then ((W.length : Int), 0) else (0, nextE W e) := by rw [tellR, snoc_is h]
theorem tellS_is {W : List Ev} {e : Ev} (h : (checkR W).2 = 0) : tellS W e = if nextE W e = 0 then W ++ [e] else W := by rw [tellS, snoc_is h]
theorem tell_chk {W : List Ev} {e : Ev} (h : (checkR W).2 = 0) {f : Int} (hf : nextE W e = f) :
    (!decide ((tellR W e).2 = f) || !decide ((tellR W e).2 = 0) && !decide ((tellR W e).1 = 0) || decide ((tellR W e).2 = 0) && !decide ((tellR W e).1 = (W.length : Int))) = false := by
  subst hf
  rw [tellR_is h]
  by_cases h0 : nextE W e = 0
  · simp [h0]
  · simp [h0]
theorem tell_zero {W : List Ev} {e : Ev} (h : (checkR W).2 = 0) (h0 : (tellR W e).2 = 0) : tellS W e = W ++ [e] := by
  rw [tellR_is h] at h0
  rw [tellS_is h]
  split at h0 <;> rename_i hh
  · rw [if_pos hh]
  · exact absurd h0 hh
theorem tell_not {W : List Ev} {e : Ev} (h : (checkR W).2 = 0) (h0 : ¬ (tellR W e).2 = 0) : tellS W e = W := by
  rw [tellR_is h] at h0
  rw [tellS_is h]
  split at h0 <;> rename_i hh
  · exact absurd rfl h0
  · rw [if_neg hh]
theorem tell_last {W : List Ev} (h : (checkR W).2 = 0) : tellS W ⟨0, 0, 0⟩ = W ∧ (tellR W ⟨0, 0, 0⟩).2 = if W.length < 80 then 1 else 2 := by
  rw [tellS_is h, tellR_is h, zero_is]
  split <;> exact ⟨rfl, rfl⟩
theorem f_law (l : List Ev) : FnOK Try.prog 5 [dEs.emb l] [] (.bool true) [] := by
  refine fn_len fun hB => fn_walkF c5 w5 G_ok rfl ?_
  simp only [go_sem, ↓reduceIte, Nat.reduceAdd, Nat.reduceMul, Nat.reduceSub, Nat.reduceLT, Nat.reduceLeDiff, Nat.reduceEqDiff, Int.reduceToNat, Int.reduceEq, Int.reduceLT, Int.reduceLE, reduceCtorEq] at hB
  unfold j5
  simp only [go_sem, ↓reduceIte, Nat.reduceAdd, Nat.reduceMul, Nat.reduceSub, Nat.reduceLT, Nat.reduceLeDiff, Nat.reduceEqDiff, Int.reduceToNat, Int.reduceEq, Int.reduceLT, Int.reduceLE, reduceCtorEq, G_eq]
  refine loopF Nat (fun i => [.int .i64 i, .vec 1 (wantL (l.take i)).length]) (fun i => [.blk 119 (dB.emb (wantL (l.take i))), .vec 35 3 ((wantL (l.take i)).map dEv.emb)]) (fun i => i ≤ l.length) (fun i => l.length - i) 0 (by omega) ?_ rfl ?_
  · simp only [go_sem, ↓reduceIte, Nat.reduceAdd, Nat.reduceMul, Nat.reduceSub, Nat.reduceLT, Nat.reduceLeDiff, Nat.reduceEqDiff, Int.reduceToNat, Int.reduceEq, Int.reduceLT, Int.reduceLE, reduceCtorEq]
    rfl
  · intro i hi
    have hok : (checkR (wantL (l.take i))).2 = 0 := want_ok _ [] rfl
    have h80 := len_ok hok
    unfold j5_1
    simp only [go_sem, ↓reduceIte, Nat.reduceAdd, Nat.reduceMul, Nat.reduceSub, Nat.reduceLT, Nat.reduceLeDiff, Nat.reduceEqDiff, Int.reduceToNat, Int.reduceEq, Int.reduceLT, Int.reduceLE, reduceCtorEq, G_eq, b_vE]
    refine ⟨fun h1 => ?_, fun h1 => ?_⟩
    · have hil : i < l.length := by omega
      have hw : wantL (l.take (i + 1)) = tellS (wantL (l.take i)) (l.getD i dEv.dft) := by
        simp only [wantL, take_getD dEv.dft hil, List.foldl_append, List.foldl_cons, List.foldl_nil]
      refine ⟨⟨by omega, by omega⟩, by omega, fun h8 => ⟨fun h => ?_, fun _ => ⟨fun h0 => ⟨by omega, i + 1, by omega, by omega, ⟨IntWalk.i64_in _ (by omega), ?_⟩, ?_⟩, fun h0 => ⟨i + 1, by omega, by omega, ⟨IntWalk.i64_in _ (by omega), ?_⟩, ?_⟩⟩⟩, fun h8 => ⟨fun h => ?_, fun _ => ⟨fun h0 => ⟨by omega, i + 1, by omega, by omega, ⟨IntWalk.i64_in _ (by omega), ?_⟩, ?_⟩, fun h0 => ⟨i + 1, by omega, by omega, ⟨IntWalk.i64_in _ (by omega), ?_⟩, ?_⟩⟩⟩⟩
      · rw [tell_chk hok (by rw [nextE, if_pos (by omega)])] at h; cases h
      · rw [hw, tell_zero hok h0, List.length_append]; rfl
      · rw [hw, tell_zero hok h0, List.map_append]; rfl
      · rw [hw, tell_not hok h0]
      · rw [hw, tell_not hok h0]
      · rw [tell_chk hok (by rw [nextE, if_neg (by omega)])] at h; cases h
      · rw [hw, tell_zero hok h0, List.length_append]; rfl
      · rw [hw, tell_zero hok h0, List.map_append]; rfl
      · rw [hw, tell_not hok h0]
      · rw [hw, tell_not hok h0]
    · generalize wantL (l.take i) = W at hok h80 ⊢
      have hr : fastL W = outA W (flA W 8) W.length := by rw [fastL, if_pos (by rw [err_same]; exact hok)]; exact runX_out hok (Nat.le_refl _)
      obtain ⟨t1, t2⟩ := tell_last hok
      have e1 : eqBy ef_EqEvent W W = true := eqBy_refl (by simp [ef_EqEvent]) _
      have e2 : eqBy ef_EqFlag (outA W (flA W 8) W.length) (outA W (flA W 8) W.length) = true := eqBy_refl (by simp [ef_EqFlag]) _
      unfold j5_2
      simp only [go_sem, ↓reduceIte, Nat.reduceAdd, Nat.reduceMul, Nat.reduceSub, Nat.reduceLT, Nat.reduceLeDiff, Nat.reduceEqDiff, Int.reduceToNat, Int.reduceEq, Int.reduceLT, Int.reduceLE, reduceCtorEq, G_eq, b_vE, hok, hr, t1, t2, e1, e2]
      refine ⟨by omega, by omega, by omega, ?_⟩
      by_cases h8 : W.length < 80
      · simp [h8]
      · have : (W.length : Int) = 80 := by omega
        simp [h8, this]
abbrev A : DA (List Ev × Unit) := .one dEs
abbrev Ts : List TT := [.sl 3 (.st [.int .i64, .int .i64, .int .i64])]
theorem lawP (y : DenL Ts) : A.decP [] (embL Ts y) := ⟨⟨rfl, fun _ _ => ⟨rfl, rfl, rfl, trivial⟩⟩, trivial⟩
theorem law (y : DenL Ts) (_ : okDL Ts y) : FnOK Try.prog 5 (A.emb (A.decV [] (embL Ts y))) [] (.bool true) [] := f_law _
theorem own : ownKnob Try.prog.godebug = none := by kernel_rfl
theorem laid : laidOutB Try.prog = true := by kernel_rfl
theorem lifted (os : Os) (started : os.Started) (H : Type) (enc : TypeId × Value → H) :
    ReturnsInHanded {} Try.checked os 5 .any (Rows.boardTellsSpec.pre6 enc Try.prog Try.f5 Rows.boardTellsRow.domain false) (Rows.boardTellsSpec.post enc Try.prog Try.f5 false true false false) := by
  refine returnsInHanded_of_change (C := Try.checked) own started (by kernel_rfl) Try.func5
    (ChangeSpec.witness6 (enc := enc) (C := Try.checked) false ⟨#[], #[.slice none 0 0], []⟩ 8 (by kernel_rfl) (by kernel_rfl) (by kernel_rfl) (by kernel_rfl)) ?_
  intro W base args ds gs before hval0 hW hcnd _
  have hW' := hW
  obtain ⟨p, q, hA, hV, rfl, hfz, hnd⟩ := hW
  obtain ⟨rfl, rfl⟩ := trodVars_none hV
  obtain ⟨y, hs, hok⟩ := open_args Ts (by kernel_rfl) hA (fun j t v h1 h2 => hval0 j t v (by simpa using h1) (by simpa using h2))
  obtain ⟨d1, rfl⟩ := len_one (trod_len hA)
  refine (law_run (law y hok) W (vs := args.toList) (satA_conv (A := A) (lawP y) hs)).mono fun e W' ⟨he, hb⟩ => ?_
  subst he
  exact ⟨_, rfl, row_close laid (by kernel_rfl) (by kernel_rfl) Try.underlying4 rfl hW' hb rfl⟩
theorem holds : Rows.BoardTellsSaid :=
  OpenClaim.holds_of_wide 5 Try.f5 rfl rfl rfl rfl rfl rfl rfl ⟨rfl, rfl, rfl, rfl, rfl⟩ rfl rfl rfl rfl rfl (by kernel_rfl) Try.func5 (by kernel_rfl)
    (of_decide_eq_true (by kernel_rfl)) (by unfold Func.isWrapper; first | (rw [if_pos (by decide +kernel)]; kernel_rfl) | (rw [if_neg (by decide +kernel)]; exact ⟨rfl, rfl⟩))
    (fun os started H enc _ => lifted os started H enc)
#print axioms holds
end Go.Proofs.Ytgcbhanfhnianaa.BoardTells
