/- THE LAW 'StampKnows' HANDS BACK TRUE, AND WHAT IT READS STANDS AS IT DID: FOR EVERY START. Conditions: none. -/
import Derived.Test.YtohbjnpafpcbkaaStampK
import Derived.WalkKit
import Derived.ProofKit
import Derived.OpenShut
set_option linter.unusedSimpArgs false
set_option linter.unusedVariables false
set_option maxRecDepth 100000
open Go Go.Sx Go.Proofs Go.ChangeShapes Go.WideShapes Go.ChangeAt Go.RowKit
namespace Go.Proofs.Ytohbjnpafpcbkaa.StampKnows
open Go.Proofs.Ytohbjnpafpcbkaa.D Go.Proofs.Ytohbjnpafpcbkaa.Tr Go.Proofs.Ytohbjnpafpcbkaa.St Go.Proofs.Ytohbjnpafpcbkaa.C
def j14_1 : JC :=
  (.seq (.ops <|
  qo 58 (.cmp .lss (.t 57) (.t 56)) <|
  .nil)
  (.seq (.cond (.t 58)
  .skip
  (.exit 0))
  (.seq (.block 1 (.seq (.ops <|
  qo 59 (.mv (.t 57)) <|
  qo 60 (.is 6 (.t 55) (.t 57)) <|
  eo 61 (.load 6 true (.t 60)) <|
  eo 12 (.alloc 68 (.arr 6 1 fun _ => (.int .i64 0))) <|
  qo 11 (.mv (.t 59)) <|
  en (.store 6 (.t 12) (.t 61)) <|
  .nil)
  (.prune [0, 11, 1, 12, 10, 57, 56, 55, 5, 9] (.seq (.ops <|
  qo 62 (.mv (.t 0)) <|
  qo 63 (.mv (.t 11)) <|
  qo 64 (.is 3 (.t 62) (.t 63)) <|
  .prune [64, 1, 12, 10, 57, 56, 55, 0, 5, 9] <|
  qo 65 (.fa 1 1 (.t 64)) <|
  eo 66 (.load 1 false (.t 65)) <|
  qo 67 (.mv (.t 1)) <|
  qo 68 (.cmp .eql (.t 66) (.t 67)) <|
  .nil)
  (.prune [68, 12, 10, 57, 56, 55, 0, 1, 5, 9] (.cond (.t 68)
  (.ops <|
  eo 69 (.load 6 true (.t 12)) <|
  en (.store 6 (.t 10) (.t 69)) <|
  .nil)
  .skip))))))
  (.prune [57, 56, 55, 0, 1, 10, 5, 9] (.ops <|
  qo 70 (.ar .add (.t 57) (I 1)) <|
  qo 57 (.mv (.t 70)) <|
  .nil)))))
def j14_2 : JC :=
  (.prune [5, 10, 9] (.seq (.ops <|
  eo 71 (.load 6 true (.t 5)) <|
  eo 72 (.load 6 true (.t 10)) <|
  qo 73 (.aeq false (.arr 6 1 (.int .i64)) (.t 71) (.t 72)) <|
  qo 74 (.mv (.t 73)) <|
  .prune [74, 9] <|
  .sc false 77 74 (qo 75 (.mv (.t 9)) <|
  qo 76 (.cmp .eql (.t 75) (I 1)) <|
  .nil) (.t 76) <|
  qo 4 (.mv (.t 77)) <|
  .nil)
  .ret))
def j14 : JC :=
  (.seq (.ops <|
  qo 4 (.mv (B false)) <|
  .nil)
  (.seq (.ops <|
  qo 14 (.mv (.t 0)) <|
  qo 15 (.mv (.t 1)) <|
  eo 16 (.call 51 [(.t 14), (.t 15)]) <|
  qo 13 (.mv (.t 16)) <|
  qo 17 (.ext 0 (.t 13)) <|
  qo 18 (.ext 1 (.t 13)) <|
  .prune [17, 18, 0, 1] <|
  eo 5 (.alloc 68 (.arr 6 1 fun _ => (.int .i64 0))) <|
  en (.store 6 (.t 5) (.t 17)) <|
  qo 6 (.mv (.t 18)) <|
  .nil)
  (.prune [0, 1, 6, 5] (.seq (.ops <|
  qo 19 (.mv (.t 0)) <|
  eo 20 (.call 16 [(.t 19)]) <|
  qo 7 (.mv (.t 20)) <|
  .nil)
  (.seq (.seq (.ops <|
  qo 21 (.mv (.t 7)) <|
  qo 22 (.cmp .eql (.t 21) (I 0)) <|
  .prune [22, 1, 6, 5, 0, 7] <|
  qo 23 (.mv (.t 22)) <|
  .sc false 30 23 (qo 24 (.mv (.t 1)) <|
  qo 25 (.cmp .lss (.t 24) (I 0)) <|
  qo 26 (.mv (.t 25)) <|
  .sc true 29 26 (qo 27 (.mv (.t 1)) <|
  qo 28 (.cmp .gtr (.t 27) (I 5)) <|
  .nil) (.t 28) <|
  .nil) (.t 29) <|
  .nil)
  (.prune [30, 6, 5, 0, 1, 7] (.cond (.t 30)
  (.ops <|
  qo 7 (.mv (I 1)) <|
  .nil)
  .skip)))
  (.prune [7, 6, 5, 0, 1] (.seq (.ops <|
  eo 32 (.call 18 []) <|
  eo 33 (.call 38 [(.t 32)]) <|
  qo 31 (.mv (.t 33)) <|
  qo 34 (.ext 0 (.t 31)) <|
  qo 35 (.ext 1 (.t 31)) <|
  qo 8 (.mv (.t 34)) <|
  qo 9 (.mv (.t 35)) <|
  .nil)
  (.prune [7, 6, 5, 9, 0, 1] (.seq (.seq (.ops <|
  qo 36 (.mv (.t 7)) <|
  qo 37 (.cmp .neq (.t 36) (I 0)) <|
  qo 38 (.mv (.t 37)) <|
  .sc true 41 38 (qo 39 (.mv (.t 6)) <|
  qo 40 (.cmp .neq (.t 39) (I 0)) <|
  .nil) (.t 40) <|
  .nil)
  (.prune [41, 5, 6, 7, 9, 0, 1] (.cond (.t 41)
  (.seq (.ops <|
  .prune [5, 6, 7, 9] <|
  eo 42 (.load 6 true (.t 5)) <|
  qo 43 (.bld (.arr 6 1 fun _ => (.int .i64 0)) []) <|
  qo 44 (.aeq false (.arr 6 1 (.int .i64)) (.t 42) (.t 43)) <|
  .prune [44, 6, 7, 9] <|
  qo 45 (.mv (.t 44)) <|
  .sc false 49 45 (qo 46 (.mv (.t 6)) <|
  qo 47 (.mv (.t 7)) <|
  qo 48 (.cmp .eql (.t 46) (.t 47)) <|
  .nil) (.t 48) <|
  qo 50 (.mv (.t 49)) <|
  .prune [50, 9] <|
  .sc false 53 50 (qo 51 (.mv (.t 9)) <|
  qo 52 (.cmp .eql (.t 51) (I 1)) <|
  .nil) (.t 52) <|
  qo 4 (.mv (.t 53)) <|
  .nil)
  .ret)
  .skip)))
  (.prune [0, 1, 5, 9] (.seq (.ops <|
  eo 10 (.alloc 68 (.arr 6 1 fun _ => (.int .i64 0))) <|
  .nil)
  (.seq (.seq (.ops <|
  qo 54 (.mv (.t 0)) <|
  eo 55 (.call 40 [(.t 54)]) <|
  qo 56 (.len (.t 55)) <|
  qo 57 (.mv (I 0)) <|
  .nil)
  (.block 0 (.loop [56, 55, 0, 1, 10, 5, 9] [57] j14_1)))
  j14_2))))))))))))
theorem c14 : fnIs Try.prog qall 14 = some (j14.flat, [.tmp 4], 78) := by kernel_rfl
theorem w14 : j14.wf 78 = true := by kernel_rfl
def G (f : FuncId) (a : List SV) (m : List Res) : Sx.Call := (FH.rd 51 (.two dEs .int) (.two dClk .int) (fun _ => True) (fun y => knowsF y.1 y.2.1) <|
  FH.mk 38 (.one dEs) (fun _ => True) (fun y => .tup [.vec 0 (stampsF y.1).length, .int .i64 (playedF y.1).2.2]) (fun y => [.vec 68 6 ((stampsF y.1).map dClk.emb)]) <|
  FH.rd 16 (.one dEs) (.one .int) (fun _ => True) (fun y => (checkR y.1).2) <|
  FH.mk 18 .nil (fun _ => True) (fun _ => .vec 0 1) (fun _ => [.vec 54 3 ([badE].map dEv.emb)]) <|
  FH.pz 40 (.one dEs) (.one dClks) (fun y => (checkR y.1).2 = 0) (fun y => rstampsF y.1) FH.none) f a m
theorem G_eq (f : FuncId) (a : List SV) (m : List Res) : G f a m = (FH.rd 51 (.two dEs .int) (.two dClk .int) (fun _ => True) (fun y => knowsF y.1 y.2.1) <|
  FH.mk 38 (.one dEs) (fun _ => True) (fun y => .tup [.vec 0 (stampsF y.1).length, .int .i64 (playedF y.1).2.2]) (fun y => [.vec 68 6 ((stampsF y.1).map dClk.emb)]) <|
  FH.rd 16 (.one dEs) (.one .int) (fun _ => True) (fun y => (checkR y.1).2) <|
  FH.mk 18 .nil (fun _ => True) (fun _ => .vec 0 1) (fun _ => [.vec 54 3 ([badE].map dEv.emb)]) <|
  FH.pz 40 (.one dEs) (.one dClks) (fun y => (checkR y.1).2 = 0) (fun y => rstampsF y.1) FH.none) f a m := nr rfl
theorem G_ok : FHOK Try.prog G := FH.rd_ok (by kernel_rfl) (fun y _ => f_Knows y.1 y.2.1) <| FH.mk_ok (by kernel_rfl) (fun y _ => plainM (pv_tup ⟨plV_vec _ _, plV_int _ _, trivial⟩) ⟨plR_vec _ _ dClk _, trivial⟩) (fun y _ => f_Stamps y.1) <|
  FH.rd_ok (by kernel_rfl) (fun y _ => f_May y.1) <| FH.mk_ok (by kernel_rfl) (fun _ _ => plainM (pv_vec _ _) ⟨plR_vec _ _ dEv [badE], trivial⟩) (fun _ _ => f_wrong) <|
  FH.pz_ok (by kernel_rfl) (fun y h => f_RStamps y.1 h) FH.none_ok
theorem bad_is : (playedF [badE]).2.2 = 1 := by decide
def cwN (l : List Ev) (i : Nat) : Clk := fun u => cw l (setR l i) u l.length
theorem last_eq {l : List Ev} (h : (checkR l).2 = 0) (t : Int) : ∀ {k : Nat}, k ≤ l.length → ∀ u, u < 6 → lastF l (stN l) t k u = lastF l (cwN l) t k u
  | 0, _, _, _ => rfl
  | k + 1, hk, u, hu => by
    simp only [lastF]
    split
    · exact stamps_at h (show k < l.length by omega) hu
    · exact last_eq h t (by omega) u hu
theorem f_law (l : List Ev) (t : Int) : FnOK Try.prog 14 [dEs.emb l, .int .i64 t] [] (.bool true) [] := by
  refine fn_walkF c14 w14 G_ok rfl ?_
  unfold j14
  by_cases h0 : (checkR l).2 = 0
  · have hl := ok_len h0
    have hp : (playedF l).2.2 = 0 := by rw [err_same]; exact h0
    by_cases h1 : t < 0 ∨ 6 ≤ t
    · have h1' : (decide (t < 0) || decide (5 < t)) = true := by simp only [Bool.or_eq_true, decide_eq_true_eq]; omega
      have hk : knowsF l t = (fun _ => 0, 1) := by rw [knowsF, if_neg (by simp [hp]), if_pos h1]
      simp only [go_sem, ↓reduceIte, Nat.reduceAdd, Nat.reduceMul, Nat.reduceSub, Nat.reduceLT, Nat.reduceLeDiff, Nat.reduceEqDiff, Int.reduceToNat, Int.reduceEq, Int.reduceLT, Int.reduceLE, reduceCtorEq, G_eq, bad_is, h0, h1', hk, C.tszC]
      rfl
    · have h1' : (decide (t < 0) || decide (5 < t)) = false := by simp only [Bool.or_eq_false_iff, decide_eq_false_iff_not]; omega
      have hk : knowsF l t = (lastF l (stN l) t l.length, 0) := by rw [knowsF, if_neg (by simp [hp]), if_neg h1]
      simp only [go_sem, ↓reduceIte, Nat.reduceAdd, Nat.reduceMul, Nat.reduceSub, Nat.reduceLT, Nat.reduceLeDiff, Nat.reduceEqDiff, Int.reduceToNat, Int.reduceEq, Int.reduceLT, Int.reduceLE, reduceCtorEq, G_eq, bad_is, h0, h1', hk, C.tszC]
      have hrl : (rstampsF l).length = l.length := tb_len
      refine loopF Nat (fun i => [.int .i64 i]) (fun i => [.blk 68 (dClk.emb (lastF l (stN l) t l.length)), .vec 54 3 ([badE].map dEv.emb), .vec 68 6 ((stampsF [badE]).map dClk.emb), .blk 68 (dClk.emb (lastF l (cwN l) t i))]) (fun i => i ≤ l.length) (fun i => l.length - i) 0 (by omega) ?_ ?_ ?_
      · simp only [go_sem, ↓reduceIte, Nat.reduceAdd, Nat.reduceMul, Nat.reduceSub, Nat.reduceLT, Nat.reduceLeDiff, Nat.reduceEqDiff, Int.reduceToNat, Int.reduceEq, Int.reduceLT, Int.reduceLE, reduceCtorEq]
      · rfl
      intro i hi
      by_cases h2 : i < l.length
      · have h2' : (i : Int) < l.length := by omega
        have hg : (rstampsF l).getD i dClk.dft = cwN l i := tb_getD h2
        unfold j14_1
        simp only [go_sem, ↓reduceIte, Nat.reduceAdd, Nat.reduceMul, Nat.reduceSub, Nat.reduceLT, Nat.reduceLeDiff, Nat.reduceEqDiff, Int.reduceToNat, Int.reduceEq, Int.reduceLT, Int.reduceLE, reduceCtorEq, h2, h2', hrl, hg, C.tszC]
        refine ⟨by omega, by omega, fun h => ⟨i + 1, by omega, by omega, IntWalk.i64_in _ (by omega), ?_⟩, fun h => ⟨i + 1, by omega, by omega, IntWalk.i64_in _ (by omega), ?_⟩⟩
        · rw [lastF, if_pos h]
        · rw [lastF, if_neg h]
      · have h2' : ¬ (i : Int) < l.length := by omega
        have hil : i = l.length := by omega
        subst hil
        unfold j14_1
        simp only [go_sem, ↓reduceIte, Nat.reduceAdd, Nat.reduceMul, Nat.reduceSub, Nat.reduceLT, Nat.reduceLeDiff, Nat.reduceEqDiff, Int.reduceToNat, Int.reduceEq, Int.reduceLT, Int.reduceLE, reduceCtorEq, h2', hrl, C.tszC]
        unfold j14_2
        simp only [go_sem, ↓reduceIte, Nat.reduceAdd, Nat.reduceMul, Nat.reduceSub, Nat.reduceLT, Nat.reduceLeDiff, Nat.reduceEqDiff, Int.reduceToNat, Int.reduceEq, Int.reduceLT, Int.reduceLE, reduceCtorEq, C.tszC]
        rw [List.all_eq_true]
        intro u hu
        simp only [List.range_zero, List.nil_append, List.mem_cons, List.not_mem_nil, or_false] at hu
        exact decide_eq_true (last_eq h0 t (Nat.le_refl _) u (by omega))
  · have hp : ¬ (playedF l).2.2 = 0 := by rw [err_same]; exact h0
    have hk : knowsF l t = (fun _ => 0, (checkR l).2) := by rw [knowsF, if_pos hp, err_same]
    simp only [go_sem, ↓reduceIte, Nat.reduceAdd, Nat.reduceMul, Nat.reduceSub, Nat.reduceLT, Nat.reduceLeDiff, Nat.reduceEqDiff, Int.reduceToNat, Int.reduceEq, Int.reduceLT, Int.reduceLE, reduceCtorEq, G_eq, bad_is, h0, hp, hk, C.tszC]
    rfl
abbrev A : DA (List Ev × Int × Unit) := .two dEs .int
abbrev Ts : List TT := [.sl 3 (.st [.int .i64, .int .i64, .int .i64]), .int .i64]
theorem lawP (y : DenL Ts) : A.decP [] (embL Ts y) := ⟨⟨rfl, fun _ _ => ⟨rfl, rfl, rfl, trivial⟩⟩, rfl, trivial⟩
theorem law (y : DenL Ts) (_ : okDL Ts y) : FnOK Try.prog 14 (A.emb (A.decV [] (embL Ts y))) [] (.bool true) [] := f_law _ _
theorem own : ownKnob Try.prog.godebug = none := by kernel_rfl
theorem laid : laidOutB Try.prog = true := by kernel_rfl
theorem lifted (os : Os) (started : os.Started) (H : Type) (enc : TypeId × Value → H) :
    ReturnsInHanded {} Try.checked os 14 .any (Rows.stampKnowsSpec.pre6 enc Try.prog Try.f14 Rows.stampKnowsRow.domain false) (Rows.stampKnowsSpec.post enc Try.prog Try.f14 false true false false) := by
  refine returnsInHanded_of_change (C := Try.checked) own started (by kernel_rfl) Try.func14
    (ChangeSpec.witness6 (enc := enc) (C := Try.checked) false ⟨#[], #[.slice none 0 0, .int .i64 0], []⟩ 8 (by kernel_rfl) (by kernel_rfl) (by kernel_rfl) (by kernel_rfl)) ?_
  intro W base args ds gs before hval0 hW hcnd _
  have hW' := hW
  obtain ⟨p, q, hA, hV, rfl, hfz, hnd⟩ := hW
  obtain ⟨rfl, rfl⟩ := trodVars_none hV
  obtain ⟨y, hs, hok⟩ := open_args Ts (by kernel_rfl) hA (fun j t v h1 h2 => hval0 j t v (by simpa using h1) (by simpa using h2))
  obtain ⟨d1, d2, rfl⟩ := len_two (trod_len hA)
  refine (law_run (law y hok) W (vs := args.toList) (satA_conv (A := A) (lawP y) hs)).mono fun e W' ⟨he, hb⟩ => ?_
  subst he
  exact ⟨_, rfl, row_close laid (by kernel_rfl) (by kernel_rfl) Try.underlying4 rfl hW' hb rfl⟩
theorem holds : Rows.StampKnowsSaid :=
  OpenClaim.holds_of_wide 14 Try.f14 rfl rfl rfl rfl rfl rfl rfl ⟨rfl, rfl, rfl, rfl, rfl⟩ rfl rfl rfl rfl rfl (by kernel_rfl) Try.func14 (by kernel_rfl)
    (of_decide_eq_true (by kernel_rfl)) (by unfold Func.isWrapper; first | (rw [if_pos (by decide +kernel)]; kernel_rfl) | (rw [if_neg (by decide +kernel)]; exact ⟨rfl, rfl⟩))
    (fun os started H enc _ => lifted os started H enc)
#print axioms holds
end Go.Proofs.Ytohbjnpafpcbkaa.StampKnows
