/- THE LAW 'FastSlow' HANDS BACK TRUE, AND WHAT IT READS STANDS AS IT DID: FOR EVERY START. Conditions: none. -/
import Derived.Test.YtafcmgfmmlnngaaFastT
import Derived.WalkKit
import Derived.ProofKit
import Derived.OpenShut
set_option linter.unusedSimpArgs false
set_option linter.unusedVariables false
set_option maxRecDepth 100000
open Go Go.Sx Go.Proofs Go.ChangeShapes Go.WideShapes Go.ChangeAt Go.RowKit
namespace Go.Proofs.Ytafcmgfmmlnngaa.FastSlow
open Go.Proofs.Ytafcmgfmmlnngaa.D Go.Proofs.Ytafcmgfmmlnngaa.Tr Go.Proofs.Ytafcmgfmmlnngaa.Fu Go.Proofs.Ytafcmgfmmlnngaa.Fa

def j14 : JC :=
  (.seq (.ops <|
  qo 2 (.mv (B false)) <|
  .nil)
  (.seq (.ops <|
  qo 11 (.mv (.t 0)) <|
  eo 12 (.call 38 [(.t 11)]) <|
  qo 10 (.mv (.t 12)) <|
  qo 13 (.ext 0 (.t 10)) <|
  qo 14 (.ext 1 (.t 10)) <|
  qo 3 (.mv (.t 13)) <|
  qo 4 (.mv (.t 14)) <|
  .nil)
  (.seq (.ops <|
  .prune [0, 4, 3] <|
  eo 16 (.call 20 []) <|
  eo 17 (.call 36 [(.t 16)]) <|
  qo 15 (.mv (.t 17)) <|
  qo 18 (.ext 0 (.t 15)) <|
  qo 19 (.ext 1 (.t 15)) <|
  qo 5 (.mv (.t 18)) <|
  qo 6 (.mv (.t 19)) <|
  .nil)
  (.prune [0, 4, 3, 6] (.seq (.seq (.ops <|
  qo 20 (.mv (.t 0)) <|
  eo 21 (.call 21 [(.t 20)]) <|
  qo 7 (.mv (.t 21)) <|
  .nil)
  (.seq (.ops <|
  qo 22 (.mv (.t 7)) <|
  qo 23 (.cmp .neq (.t 22) (I 0)) <|
  .prune [23, 4, 3, 7, 6, 0] <|
  qo 24 (.mv (.t 23)) <|
  .sc true 27 24 (qo 25 (.mv (.t 4)) <|
  qo 26 (.cmp .neq (.t 25) (I 0)) <|
  .nil) (.t 26) <|
  .nil)
  (.prune [27, 3, 4, 7, 6, 0] (.cond (.t 27)
  (.seq (.ops <|
  qo 28 (.mv (.t 3)) <|
  .prune [28, 4, 7, 6] <|
  qo 29 (.cmp .eql (.t 28) (I 0)) <|
  qo 30 (.mv (.t 29)) <|
  .sc false 34 30 (qo 31 (.mv (.t 4)) <|
  qo 32 (.mv (.t 7)) <|
  qo 33 (.cmp .eql (.t 31) (.t 32)) <|
  .nil) (.t 33) <|
  .prune [34, 6] <|
  qo 35 (.mv (.t 34)) <|
  .sc false 38 35 (qo 36 (.mv (.t 6)) <|
  qo 37 (.cmp .eql (.t 36) (I 1)) <|
  .nil) (.t 37) <|
  qo 2 (.mv (.t 38)) <|
  .nil)
  .ret)
  .skip))))
  (.prune [0, 3, 6] (.seq (.ops <|
  qo 40 (.mv (.t 0)) <|
  eo 41 (.call 37 [(.t 40)]) <|
  qo 39 (.mv (.t 41)) <|
  qo 42 (.ext 0 (.t 39)) <|
  .prune [39, 42, 3, 6] <|
  qo 43 (.ext 1 (.t 39)) <|
  qo 8 (.mv (.t 42)) <|
  qo 9 (.mv (.t 43)) <|
  .nil)
  (.prune [3, 9, 6] (.seq (.ops <|
  qo 44 (.mv (.t 3)) <|
  qo 45 (.mv (.t 9)) <|
  qo 46 (.cmp .eql (.t 44) (.t 45)) <|
  qo 47 (.mv (.t 46)) <|
  .prune [47, 6] <|
  .sc false 50 47 (qo 48 (.mv (.t 6)) <|
  qo 49 (.cmp .eql (.t 48) (I 1)) <|
  .nil) (.t 49) <|
  qo 2 (.mv (.t 50)) <|
  .nil)
  .ret)))))))))
theorem c14 : fnIs Try.prog qall 14 = some (j14.flat, [.tmp 2], 51) := by kernel_rfl
theorem w14 : j14.wf 51 = true := by kernel_rfl
def G (f : FuncId) (a : List SV) (m : List Res) : Sx.Call := (FH.mk 36 (.one dEs) (fun _ => True) (fun y => .tup [.vec 0 (fastL y.1).length, .int .i64 (playedF y.1).2.2]) (fun y => [.vec 60 3 ((fastL y.1).map dFl.emb)]) <|
  FH.rd 21 (.one dEs) (.one .int) (fun _ => True) (fun y => (checkR y.1).2) <| FH.mk 20 .nil (fun _ => True) (fun _ => .vec 0 1) (fun _ => [.vec 35 3 ([badE].map dEv.emb)]) <|
  FH.mk 37 (.one dEs) (fun y => (checkR y.1).2 = 0) (fun y => .tup [.vec 0 (outA y.1 (flA y.1 8) y.1.length).length, .int .i64 (slA y.1 8)]) (fun y => [.vec 60 3 ((outA y.1 (flA y.1 8) y.1.length).map dFl.emb)]) <|
  FH.rd 38 (.one dEs) (.two .int .int) (fun _ => True) (fun y => (fastS y.1, (playedF y.1).2.2)) FH.none) f a m
theorem G_eq (f : FuncId) (a : List SV) (m : List Res) : G f a m = (FH.mk 36 (.one dEs) (fun _ => True) (fun y => .tup [.vec 0 (fastL y.1).length, .int .i64 (playedF y.1).2.2]) (fun y => [.vec 60 3 ((fastL y.1).map dFl.emb)]) <|
  FH.rd 21 (.one dEs) (.one .int) (fun _ => True) (fun y => (checkR y.1).2) <| FH.mk 20 .nil (fun _ => True) (fun _ => .vec 0 1) (fun _ => [.vec 35 3 ([badE].map dEv.emb)]) <|
  FH.mk 37 (.one dEs) (fun y => (checkR y.1).2 = 0) (fun y => .tup [.vec 0 (outA y.1 (flA y.1 8) y.1.length).length, .int .i64 (slA y.1 8)]) (fun y => [.vec 60 3 ((outA y.1 (flA y.1 8) y.1.length).map dFl.emb)]) <|
  FH.rd 38 (.one dEs) (.two .int .int) (fun _ => True) (fun y => (fastS y.1, (playedF y.1).2.2)) FH.none) f a m := nr rfl
theorem G_ok : FHOK Try.prog G := FH.mk_ok (by kernel_rfl) (fun y _ => plainM (pv_tup ⟨plV_vec _ _, plV_int _ _, trivial⟩) ⟨plR_vec _ _ dFl _, trivial⟩) (fun y _ => f_FRun y.1) <|
  FH.rd_ok (by kernel_rfl) (fun y _ => f_May y.1) <| FH.mk_ok (by kernel_rfl) (fun _ _ => plainM (pv_vec _ _) ⟨plR_vec _ _ dEv [badE], trivial⟩) (fun _ _ => f_wrong) <|
  FH.mk_ok (by kernel_rfl) (fun y _ => plainM (pv_tup ⟨plV_vec _ _, plV_int _ _, trivial⟩) ⟨plR_vec _ _ dFl _, trivial⟩) (fun y h => f_RFast y.1 h) <|
  FH.rd_ok (by kernel_rfl) (fun y _ => f_FSlow y.1) FH.none_ok
theorem bad_is : (playedF [badE]).2.2 = 1 := by decide
theorem f_law (l : List Ev) : FnOK Try.prog 14 [dEs.emb l] [] (.bool true) [] := by
  refine fn_walkF c14 w14 G_ok rfl ?_
  unfold j14
  by_cases h0 : (checkR l).2 = 0
  · have hp : (playedF l).2.2 = 0 := by rw [err_same]; exact h0
    have hr : fastS l = slA l 8 := by rw [fastS, if_pos hp]; exact slow_eq h0 8
    simp only [go_sem, ↓reduceIte, Nat.reduceAdd, Nat.reduceMul, Nat.reduceSub, Nat.reduceLT, Nat.reduceLeDiff, Nat.reduceEqDiff, Int.reduceToNat, Int.reduceEq, Int.reduceLT, Int.reduceLE, reduceCtorEq, G_eq, bad_is, h0, hp, hr, Fu.tszC]
  · have hp : ¬ (playedF l).2.2 = 0 := by rw [err_same]; exact h0
    have hr : fastS l = 0 := by rw [fastS, if_neg hp]
    have he : (playedF l).2.2 = (checkR l).2 := err_same
    simp only [go_sem, ↓reduceIte, Nat.reduceAdd, Nat.reduceMul, Nat.reduceSub, Nat.reduceLT, Nat.reduceLeDiff, Nat.reduceEqDiff, Int.reduceToNat, Int.reduceEq, Int.reduceLT, Int.reduceLE, reduceCtorEq, G_eq, bad_is, h0, hr, he, Fu.tszC]
abbrev A : DA (List Ev × Unit) := .one dEs
abbrev Ts : List TT := [.sl 3 (.st [.int .i64, .int .i64, .int .i64])]
theorem lawP (y : DenL Ts) : A.decP [] (embL Ts y) := ⟨⟨rfl, fun _ _ => ⟨rfl, rfl, rfl, trivial⟩⟩, trivial⟩
theorem law (y : DenL Ts) (_ : okDL Ts y) : FnOK Try.prog 14 (A.emb (A.decV [] (embL Ts y))) [] (.bool true) [] := f_law _
theorem own : ownKnob Try.prog.godebug = none := by kernel_rfl
theorem laid : laidOutB Try.prog = true := by kernel_rfl
theorem lifted (os : Os) (started : os.Started) (H : Type) (enc : TypeId × Value → H) :
    ReturnsInHanded {} Try.checked os 14 .any (Rows.fastSlowSpec.pre6 enc Try.prog Try.f14 Rows.fastSlowRow.domain false) (Rows.fastSlowSpec.post enc Try.prog Try.f14 false true false false) := by
  refine returnsInHanded_of_change (C := Try.checked) own started (by kernel_rfl) Try.func14
    (ChangeSpec.witness6 (enc := enc) (C := Try.checked) false ⟨#[], #[.slice none 0 0], []⟩ 8 (by kernel_rfl) (by kernel_rfl) (by kernel_rfl) (by kernel_rfl)) ?_
  intro W base args ds gs before hval0 hW hcnd _
  have hW' := hW
  obtain ⟨p, q, hA, hV, rfl, hfz, hnd⟩ := hW
  obtain ⟨rfl, rfl⟩ := trodVars_none hV
  obtain ⟨y, hs, hok⟩ := open_args Ts (by kernel_rfl) hA (fun j t v h1 h2 => hval0 j t v (by simpa using h1) (by simpa using h2))
  obtain ⟨d1, rfl⟩ := len_one (trod_len hA)
  refine (law_run (law y hok) W (vs := args.toList) (satA_conv (A := A) (lawP y) hs)).mono fun e W' ⟨he, hb⟩ => ?_
  subst he
  exact ⟨_, rfl, row_close laid (by kernel_rfl) (by kernel_rfl) Try.underlying4 rfl hW' hb rfl⟩
theorem holds : Rows.FastSlowSaid :=
  OpenClaim.holds_of_wide 14 Try.f14 rfl rfl rfl rfl rfl rfl rfl ⟨rfl, rfl, rfl, rfl, rfl⟩ rfl rfl rfl rfl rfl (by kernel_rfl) Try.func14 (by kernel_rfl)
    (of_decide_eq_true (by kernel_rfl)) (by unfold Func.isWrapper; first | (rw [if_pos (by decide +kernel)]; kernel_rfl) | (rw [if_neg (by decide +kernel)]; exact ⟨rfl, rfl⟩))
    (fun os started H enc _ => lifted os started H enc)
#print axioms holds
end Go.Proofs.Ytafcmgfmmlnngaa.FastSlow
