/- THE LAW 'GuardCommon' HANDS BACK TRUE, AND WHAT IT READS STANDS AS IT DID: FOR EVERY START. Conditions: none. -/
import Derived.Test.YtafcmgfmmlnngaaGuardQ
import Derived.WalkKit
import Derived.ProofKit
import Derived.OpenShut
set_option linter.unusedSimpArgs false
set_option linter.unusedVariables false
set_option maxRecDepth 100000
open Go Go.Sx Go.Proofs Go.ChangeShapes Go.WideShapes Go.ChangeAt Go.RowKit
namespace Go.Proofs.Ytafcmgfmmlnngaa.GuardCommon
open Go.Proofs.Ytafcmgfmmlnngaa.D Go.Proofs.Ytafcmgfmmlnngaa.Tr Go.Proofs.Ytafcmgfmmlnngaa.Gu

def j7 : JC :=
  (.seq (.ops <|
  qo 4 (.mv (B false)) <|
  .nil)
  (.seq (.ops <|
  qo 14 (.mv (.t 0)) <|
  qo 15 (.mv (.t 1)) <|
  eo 16 (.call 28 [(.t 14), (.t 15)]) <|
  qo 13 (.mv (.t 16)) <|
  qo 17 (.ext 0 (.t 13)) <|
  qo 18 (.ext 1 (.t 13)) <|
  qo 5 (.mv (.t 17)) <|
  qo 6 (.mv (.t 18)) <|
  .nil)
  (.seq (.ops <|
  .prune [0, 1, 6, 5] <|
  qo 19 (.mv (.t 0)) <|
  eo 20 (.call 21 [(.t 19)]) <|
  qo 7 (.mv (.t 20)) <|
  .nil)
  (.prune [7, 1, 6, 5, 0] (.seq (.seq (.ops <|
  qo 21 (.mv (.t 7)) <|
  qo 22 (.cmp .eql (.t 21) (I 0)) <|
  qo 23 (.mv (.t 22)) <|
  .sc false 30 23 (qo 24 (.mv (.t 1)) <|
  qo 25 (.cmp .lss (.t 24) (I 0)) <|
  qo 26 (.mv (.t 25)) <|
  .sc true 29 26 (qo 27 (.mv (.t 1)) <|
  qo 28 (.cmp .gtr (.t 27) (I 7)) <|
  .nil) (.t 28) <|
  .nil) (.t 29) <|
  .nil)
  (.prune [30, 6, 5, 0, 1, 7] (.cond (.t 30)
  (.ops <|
  qo 7 (.mv (I 1)) <|
  .nil)
  .skip)))
  (.prune [7, 6, 5, 0, 1] (.seq (.ops <|
  eo 32 (.call 20 []) <|
  eo 33 (.call 19 [(.t 32)]) <|
  qo 31 (.mv (.t 33)) <|
  qo 34 (.ext 0 (.t 31)) <|
  qo 35 (.ext 1 (.t 31)) <|
  .prune [34, 35, 7, 6, 5, 0, 1] <|
  eo 8 (.alloc 40 (.arr 8 3 fun _ => (.agg [(.int .i64 0), (.int .i64 0), (.int .i64 0)]))) <|
  en (.store 24 (.t 8) (.t 34)) <|
  qo 9 (.mv (.t 35)) <|
  .nil)
  (.prune [7, 6, 5, 9, 0, 1] (.seq (.seq (.ops <|
  qo 36 (.mv (.t 7)) <|
  qo 37 (.cmp .neq (.t 36) (I 0)) <|
  qo 38 (.mv (.t 37)) <|
  .sc true 41 38 (qo 39 (.mv (.t 6)) <|
  qo 40 (.cmp .neq (.t 39) (I 0)) <|
  .nil) (.t 40) <|
  .nil)
  (.prune [41, 5, 6, 7, 9, 0, 1] (.cond (.t 41)
  (.seq (.ops <|
  .prune [5, 6, 7, 9] <|
  qo 42 (.mv (.t 5)) <|
  qo 43 (.cmp .eql (.t 42) (I 0)) <|
  qo 44 (.mv (.t 43)) <|
  .prune [44, 6, 7, 9] <|
  .sc false 48 44 (qo 45 (.mv (.t 6)) <|
  qo 46 (.mv (.t 7)) <|
  qo 47 (.cmp .eql (.t 45) (.t 46)) <|
  .nil) (.t 47) <|
  qo 49 (.mv (.t 48)) <|
  .sc false 52 49 (qo 50 (.mv (.t 9)) <|
  qo 51 (.cmp .eql (.t 50) (I 1)) <|
  .nil) (.t 51) <|
  qo 4 (.mv (.t 52)) <|
  .nil)
  .ret)
  .skip)))
  (.prune [0, 5, 1, 9] (.seq (.ops <|
  qo 54 (.mv (.t 0)) <|
  eo 55 (.call 22 [(.t 54)]) <|
  qo 53 (.mv (.t 55)) <|
  .prune [53, 5, 1, 9] <|
  qo 56 (.ext 0 (.t 53)) <|
  qo 57 (.ext 1 (.t 53)) <|
  qo 58 (.ext 2 (.t 53)) <|
  eo 10 (.alloc 40 (.arr 8 3 fun _ => (.agg [(.int .i64 0), (.int .i64 0), (.int .i64 0)]))) <|
  eo 12 (.alloc 24 (.arr 8 1 fun _ => (.int .i64 0))) <|
  en (.store 24 (.t 10) (.t 56)) <|
  qo 11 (.mv (.t 57)) <|
  en (.store 8 (.t 12) (.t 58)) <|
  .nil)
  (.prune [5, 1, 12, 9] (.seq (.ops <|
  qo 59 (.mv (.t 5)) <|
  qo 60 (.mv (.t 1)) <|
  qo 61 (.ia 8 1 (.t 12) (.t 60)) <|
  .prune [61, 59, 9] <|
  eo 62 (.load 1 false (.t 61)) <|
  qo 63 (.cmp .eql (.t 59) (.t 62)) <|
  qo 64 (.mv (.t 63)) <|
  .sc false 67 64 (qo 65 (.mv (.t 9)) <|
  qo 66 (.cmp .eql (.t 65) (I 1)) <|
  .nil) (.t 66) <|
  qo 4 (.mv (.t 67)) <|
  .nil)
  .ret)))))))))))))
theorem c7 : fnIs Try.prog qall 7 = some (j7.flat, [.tmp 4], 68) := by kernel_rfl
theorem w7 : j7.wf 68 = true := by kernel_rfl
def G (f : FuncId) (a : List SV) (m : List Res) : Sx.Call := (FH.rd 28 (.two dEs .int) (.two .int .int) (fun _ => True) (fun y => commonF y.1 y.2.1) <|
  FH.rd 19 (.one dEs) (.two dGs .int) (fun _ => True) (fun y => guardsF y.1) <|
  FH.mk 20 .nil (fun _ => True) (fun _ => .vec 0 1) (fun _ => [.vec 35 3 ([badE].map dEv.emb)]) <|
  FH.rd 21 (.one dEs) (.one .int) (fun _ => True) (fun y => (checkR y.1).2) <|
  FH.mk 22 (.one dEs) (fun y => (checkR y.1).2 = 0) (fun y => .tup [dGs.emb (RR y.1 y.1.length).g, .vec 0 (RR y.1 y.1.length).w.length, dI8.emb (RR y.1 y.1.length).c]) (fun y => [.vec 60 3 ((RR y.1 y.1.length).w.map dFl.emb)]) FH.none) f a m
theorem G_eq (f : FuncId) (a : List SV) (m : List Res) : G f a m = (FH.rd 28 (.two dEs .int) (.two .int .int) (fun _ => True) (fun y => commonF y.1 y.2.1) <|
  FH.rd 19 (.one dEs) (.two dGs .int) (fun _ => True) (fun y => guardsF y.1) <|
  FH.mk 20 .nil (fun _ => True) (fun _ => .vec 0 1) (fun _ => [.vec 35 3 ([badE].map dEv.emb)]) <|
  FH.rd 21 (.one dEs) (.one .int) (fun _ => True) (fun y => (checkR y.1).2) <|
  FH.mk 22 (.one dEs) (fun y => (checkR y.1).2 = 0) (fun y => .tup [dGs.emb (RR y.1 y.1.length).g, .vec 0 (RR y.1 y.1.length).w.length, dI8.emb (RR y.1 y.1.length).c]) (fun y => [.vec 60 3 ((RR y.1 y.1.length).w.map dFl.emb)]) FH.none) f a m := nr rfl
theorem G_ok : FHOK Try.prog G := FH.rd_ok (by kernel_rfl) (fun y _ => f_Common y.1 y.2.1) <| FH.rd_ok (by kernel_rfl) (fun y _ => f_Guards y.1) <|
  FH.mk_ok (by kernel_rfl) (fun _ _ => plainM (pv_vec _ _) ⟨plR_vec _ _ dEv [badE], trivial⟩) (fun _ _ => f_wrong) <| FH.rd_ok (by kernel_rfl) (fun y _ => f_May y.1) <|
  FH.mk_ok (by kernel_rfl) (fun y _ => plainM (pv_tup ⟨plV_emb dGs _, plV_vec _ _, plV_emb dI8 _, trivial⟩) ⟨plR_vec _ _ dFl _, trivial⟩) (fun y h => f_RGuards y.1 h) FH.none_ok
theorem bad_is : (playedF [badE]).2.2 = 1 := by decide
theorem guards_bad : guardsF [badE] = (gInit 0, 1) := by rw [guardsF, if_neg (by decide), bad_is]
theorem f_law (l : List Ev) (x : Int) : FnOK Try.prog 7 [dEs.emb l, .int .i64 x] [] (.bool true) [] := by
  refine fn_walkF c7 w7 G_ok rfl ?_
  unfold j7
  by_cases h0 : (checkR l).2 = 0
  · have hp : (playedF l).2.2 = 0 := by rw [err_same]; exact h0
    by_cases h2 : x < 0 ∨ 8 ≤ x
    · have hb : (decide (x < 0) || decide (7 < x)) = true := by simp only [Bool.or_eq_true, decide_eq_true_eq]; omega
      have hr : commonF l x = (0, 1) := by rw [commonF, if_pos hp, if_pos h2]
      simp only [go_sem, ↓reduceIte, Nat.reduceAdd, Nat.reduceMul, Nat.reduceSub, Nat.reduceLT, Nat.reduceLeDiff, Nat.reduceEqDiff, Int.reduceToNat, Int.reduceEq, Int.reduceLT, Int.reduceLE, reduceCtorEq, G_eq, guards_bad, h0, hr, hb, tszGs, tszI8]
    · have hb : (decide (x < 0) || decide (7 < x)) = false := by simp only [Bool.or_eq_false_iff, decide_eq_false_iff_not]; omega
      obtain ⟨k, rfl⟩ : ∃ k : Nat, x = k := ⟨x.toNat, by omega⟩
      have hk : k < 8 := by omega
      have hr : commonF l k = ((RR l l.length).c k, 0) := by rw [commonF, if_pos hp, if_neg h2, CS_agr h0 k hk l.length (Nat.le_refl _)]
      simp only [go_sem, ↓reduceIte, Nat.reduceAdd, Nat.reduceMul, Nat.reduceSub, Nat.reduceLT, Nat.reduceLeDiff, Nat.reduceEqDiff, Int.reduceToNat, Int.reduceEq, Int.reduceLT, Int.reduceLE, reduceCtorEq, G_eq, guards_bad, h0, hr, hb, hk, tszGs, tszI8]
      omega
  · have hp : ¬ (playedF l).2.2 = 0 := by rw [err_same]; exact h0
    have he : (playedF l).2.2 = (checkR l).2 := err_same
    have hr : commonF l x = (0, (checkR l).2) := by rw [commonF, if_neg hp, he]
    simp only [go_sem, ↓reduceIte, Nat.reduceAdd, Nat.reduceMul, Nat.reduceSub, Nat.reduceLT, Nat.reduceLeDiff, Nat.reduceEqDiff, Int.reduceToNat, Int.reduceEq, Int.reduceLT, Int.reduceLE, reduceCtorEq, G_eq, guards_bad, h0, hr, tszGs, tszI8]
abbrev A : DA (List Ev × Int × Unit) := .two dEs .int
abbrev Ts : List TT := [.sl 3 (.st [.int .i64, .int .i64, .int .i64]), .int .i64]
theorem lawP (y : DenL Ts) : A.decP [] (embL Ts y) := ⟨⟨rfl, fun _ _ => ⟨rfl, rfl, rfl, trivial⟩⟩, rfl, trivial⟩
theorem law (y : DenL Ts) (_ : okDL Ts y) : FnOK Try.prog 7 (A.emb (A.decV [] (embL Ts y))) [] (.bool true) [] := f_law _ _
theorem own : ownKnob Try.prog.godebug = none := by kernel_rfl
theorem laid : laidOutB Try.prog = true := by kernel_rfl
theorem lifted (os : Os) (started : os.Started) (H : Type) (enc : TypeId × Value → H) :
    ReturnsInHanded {} Try.checked os 7 .any (Rows.guardCommonSpec.pre6 enc Try.prog Try.f7 Rows.guardCommonRow.domain false) (Rows.guardCommonSpec.post enc Try.prog Try.f7 false true false false) := by
  refine returnsInHanded_of_change (C := Try.checked) own started (by kernel_rfl) Try.func7
    (ChangeSpec.witness6 (enc := enc) (C := Try.checked) false ⟨#[], #[.slice none 0 0, .int .i64 0], []⟩ 8 (by kernel_rfl) (by kernel_rfl) (by kernel_rfl) (by kernel_rfl)) ?_
  intro W base args ds gs before hval0 hW hcnd _
  have hW' := hW
  obtain ⟨p, q, hA, hV, rfl, hfz, hnd⟩ := hW
  obtain ⟨rfl, rfl⟩ := trodVars_none hV
  obtain ⟨y, hs, hok⟩ := open_args Ts (by kernel_rfl) hA (fun j t v h1 h2 => hval0 j t v (by simpa using h1) (by simpa using h2))
  obtain ⟨d1, d2, rfl⟩ := len_two (trod_len hA)
  refine (law_run (law y hok) W (vs := args.toList) (satA_conv (A := A) (lawP y) hs)).mono fun e W' ⟨he, hb⟩ => ?_
  subst he
  exact ⟨_, rfl, row_close laid (by kernel_rfl) (by kernel_rfl) Try.underlying4 rfl hW' hb rfl⟩
theorem holds : Rows.GuardCommonSaid :=
  OpenClaim.holds_of_wide 7 Try.f7 rfl rfl rfl rfl rfl rfl rfl ⟨rfl, rfl, rfl, rfl, rfl⟩ rfl rfl rfl rfl rfl (by kernel_rfl) Try.func7 (by kernel_rfl)
    (of_decide_eq_true (by kernel_rfl)) (by unfold Func.isWrapper; first | (rw [if_pos (by decide +kernel)]; kernel_rfl) | (rw [if_neg (by decide +kernel)]; exact ⟨rfl, rfl⟩))
    (fun os started H enc _ => lifted os started H enc)
#print axioms holds
end Go.Proofs.Ytafcmgfmmlnngaa.GuardCommon
