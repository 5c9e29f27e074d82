/- THE LAW 'FastRuns' HANDS BACK TRUE, AND WHAT IT READS STANDS AS IT DID: FOR EVERY START. Conditions: none. -/
import Derived.Test.YtafcmgfmmlnngaaFastT
import Derived.Test.YtafcmgfmmlnngaaEqs
import Derived.WalkKit
import Derived.ProofKit
import Derived.OpenShut
set_option linter.unusedSimpArgs false
set_option linter.unusedVariables false
set_option maxRecDepth 100000
open Go Go.Sx Go.Proofs Go.ChangeShapes Go.WideShapes Go.ChangeAt Go.RowKit
namespace Go.Proofs.Ytafcmgfmmlnngaa.FastRuns
open Go.Proofs.Ytafcmgfmmlnngaa.D Go.Proofs.Ytafcmgfmmlnngaa.Tr Go.Proofs.Ytafcmgfmmlnngaa.Fu Go.Proofs.Ytafcmgfmmlnngaa.Fa Go.Proofs.Ytafcmgfmmlnngaa.Eqs

def j13 : JC :=
  (.seq (.ops <|
  qo 2 (.mv (B false)) <|
  .nil)
  (.seq (.ops <|
  qo 11 (.mv (.t 0)) <|
  eo 12 (.call 36 [(.t 11)]) <|
  qo 10 (.mv (.t 12)) <|
  qo 13 (.ext 0 (.t 10)) <|
  qo 14 (.ext 1 (.t 10)) <|
  qo 3 (.mv (.t 13)) <|
  qo 4 (.mv (.t 14)) <|
  .nil)
  (.seq (.ops <|
  .prune [0, 4, 3] <|
  eo 16 (.call 20 []) <|
  eo 17 (.call 36 [(.t 16)]) <|
  qo 15 (.mv (.t 17)) <|
  qo 18 (.ext 0 (.t 15)) <|
  qo 19 (.ext 1 (.t 15)) <|
  qo 5 (.mv (.t 18)) <|
  qo 6 (.mv (.t 19)) <|
  .nil)
  (.prune [0, 4, 3, 6] (.seq (.seq (.ops <|
  qo 20 (.mv (.t 0)) <|
  eo 21 (.call 21 [(.t 20)]) <|
  qo 7 (.mv (.t 21)) <|
  .nil)
  (.seq (.ops <|
  qo 22 (.mv (.t 7)) <|
  qo 23 (.cmp .neq (.t 22) (I 0)) <|
  .prune [23, 4, 3, 7, 6, 0] <|
  qo 24 (.mv (.t 23)) <|
  .sc true 27 24 (qo 25 (.mv (.t 4)) <|
  qo 26 (.cmp .neq (.t 25) (I 0)) <|
  .nil) (.t 26) <|
  .nil)
  (.prune [27, 3, 4, 7, 6, 0] (.cond (.t 27)
  (.seq (.ops <|
  qo 28 (.mv (.t 3)) <|
  .prune [28, 4, 7, 6] <|
  qo 29 (.len (.t 28)) <|
  qo 30 (.cmp .eql (.t 29) (I 0)) <|
  qo 31 (.mv (.t 30)) <|
  .prune [31, 4, 7, 6] <|
  .sc false 35 31 (qo 32 (.mv (.t 4)) <|
  qo 33 (.mv (.t 7)) <|
  qo 34 (.cmp .eql (.t 32) (.t 33)) <|
  .nil) (.t 34) <|
  qo 36 (.mv (.t 35)) <|
  .sc false 39 36 (qo 37 (.mv (.t 6)) <|
  qo 38 (.cmp .eql (.t 37) (I 1)) <|
  .nil) (.t 38) <|
  qo 2 (.mv (.t 39)) <|
  .nil)
  .ret)
  .skip))))
  (.prune [0, 3, 6] (.seq (.ops <|
  qo 41 (.mv (.t 0)) <|
  eo 42 (.call 37 [(.t 41)]) <|
  qo 40 (.mv (.t 42)) <|
  qo 43 (.ext 0 (.t 40)) <|
  .prune [40, 43, 3, 6] <|
  qo 44 (.ext 1 (.t 40)) <|
  qo 8 (.mv (.t 43)) <|
  qo 9 (.mv (.t 44)) <|
  .nil)
  (.prune [3, 8, 6] (.seq (.ops <|
  qo 45 (.mv (.t 3)) <|
  qo 46 (.mv (.t 8)) <|
  eo 47 (.call 27 [(.t 45), (.t 46)]) <|
  qo 48 (.mv (.t 47)) <|
  .prune [48, 6] <|
  .sc false 51 48 (qo 49 (.mv (.t 6)) <|
  qo 50 (.cmp .eql (.t 49) (I 1)) <|
  .nil) (.t 50) <|
  qo 2 (.mv (.t 51)) <|
  .nil)
  .ret)))))))))
theorem c13 : fnIs Try.prog qall 13 = some (j13.flat, [.tmp 2], 52) := by kernel_rfl
theorem w13 : j13.wf 52 = true := by kernel_rfl
def G (f : FuncId) (a : List SV) (m : List Res) : Sx.Call := (FH.mk 36 (.one dEs) (fun _ => True) (fun y => .tup [.vec 0 (fastL y.1).length, .int .i64 (playedF y.1).2.2]) (fun y => [.vec 60 3 ((fastL y.1).map dFl.emb)]) <|
  FH.rd 21 (.one dEs) (.one .int) (fun _ => True) (fun y => (checkR y.1).2) <| FH.mk 20 .nil (fun _ => True) (fun _ => .vec 0 1) (fun _ => [.vec 35 3 ([badE].map dEv.emb)]) <|
  FH.mk 37 (.one dEs) (fun y => (checkR y.1).2 = 0) (fun y => .tup [.vec 0 (outA y.1 (flA y.1 8) y.1.length).length, .int .i64 (slA y.1 8)]) (fun y => [.vec 60 3 ((outA y.1 (flA y.1 8) y.1.length).map dFl.emb)]) <|
  FH.rd 27 (.two dFls dFls) (.one .bool) (fun _ => True) (fun y => eqBy ef_EqFlag y.1 y.2.1) FH.none) f a m
theorem G_eq (f : FuncId) (a : List SV) (m : List Res) : G f a m = (FH.mk 36 (.one dEs) (fun _ => True) (fun y => .tup [.vec 0 (fastL y.1).length, .int .i64 (playedF y.1).2.2]) (fun y => [.vec 60 3 ((fastL y.1).map dFl.emb)]) <|
  FH.rd 21 (.one dEs) (.one .int) (fun _ => True) (fun y => (checkR y.1).2) <| FH.mk 20 .nil (fun _ => True) (fun _ => .vec 0 1) (fun _ => [.vec 35 3 ([badE].map dEv.emb)]) <|
  FH.mk 37 (.one dEs) (fun y => (checkR y.1).2 = 0) (fun y => .tup [.vec 0 (outA y.1 (flA y.1 8) y.1.length).length, .int .i64 (slA y.1 8)]) (fun y => [.vec 60 3 ((outA y.1 (flA y.1 8) y.1.length).map dFl.emb)]) <|
  FH.rd 27 (.two dFls dFls) (.one .bool) (fun _ => True) (fun y => eqBy ef_EqFlag y.1 y.2.1) FH.none) f a m := nr rfl
theorem G_ok : FHOK Try.prog G := FH.mk_ok (by kernel_rfl) (fun y _ => plainM (pv_tup ⟨plV_vec _ _, plV_int _ _, trivial⟩) ⟨plR_vec _ _ dFl _, trivial⟩) (fun y _ => f_FRun y.1) <|
  FH.rd_ok (by kernel_rfl) (fun y _ => f_May y.1) <| FH.mk_ok (by kernel_rfl) (fun _ _ => plainM (pv_vec _ _) ⟨plR_vec _ _ dEv [badE], trivial⟩) (fun _ _ => f_wrong) <|
  FH.mk_ok (by kernel_rfl) (fun y _ => plainM (pv_tup ⟨plV_vec _ _, plV_int _ _, trivial⟩) ⟨plR_vec _ _ dFl _, trivial⟩) (fun y h => f_RFast y.1 h) <|
  FH.rd_ok (by kernel_rfl) (fun y _ => f_EqFlag y.1 y.2.1) FH.none_ok
theorem bad_is : (playedF [badE]).2.2 = 1 := by decide
theorem f_law (l : List Ev) : FnOK Try.prog 13 [dEs.emb l] [] (.bool true) [] := by
  refine fn_walkF c13 w13 G_ok rfl ?_
  unfold j13
  by_cases h0 : (checkR l).2 = 0
  · have hp : (playedF l).2.2 = 0 := by rw [err_same]; exact h0
    have hr : fastL l = outA l (flA l 8) l.length := by rw [fastL, if_pos hp]; exact runX_out h0 (Nat.le_refl _)
    simp only [go_sem, ↓reduceIte, Nat.reduceAdd, Nat.reduceMul, Nat.reduceSub, Nat.reduceLT, Nat.reduceLeDiff, Nat.reduceEqDiff, Int.reduceToNat, Int.reduceEq, Int.reduceLT, Int.reduceLE, reduceCtorEq, G_eq, bad_is, h0, hp, hr, Fu.tszC]
    exact eqBy_refl (by simp [ef_EqFlag]) _
  · have hp : ¬ (playedF l).2.2 = 0 := by rw [err_same]; exact h0
    have hr : fastL l = [] := by rw [fastL, if_neg hp]
    have he : (playedF l).2.2 = (checkR l).2 := err_same
    simp only [go_sem, ↓reduceIte, Nat.reduceAdd, Nat.reduceMul, Nat.reduceSub, Nat.reduceLT, Nat.reduceLeDiff, Nat.reduceEqDiff, Int.reduceToNat, Int.reduceEq, Int.reduceLT, Int.reduceLE, reduceCtorEq, G_eq, bad_is, h0, hr, he, Fu.tszC]
abbrev A : DA (List Ev × Unit) := .one dEs
abbrev Ts : List TT := [.sl 3 (.st [.int .i64, .int .i64, .int .i64])]
theorem lawP (y : DenL Ts) : A.decP [] (embL Ts y) := ⟨⟨rfl, fun _ _ => ⟨rfl, rfl, rfl, trivial⟩⟩, trivial⟩
theorem law (y : DenL Ts) (_ : okDL Ts y) : FnOK Try.prog 13 (A.emb (A.decV [] (embL Ts y))) [] (.bool true) [] := f_law _
theorem own : ownKnob Try.prog.godebug = none := by kernel_rfl
theorem laid : laidOutB Try.prog = true := by kernel_rfl
theorem lifted (os : Os) (started : os.Started) (H : Type) (enc : TypeId × Value → H) :
    ReturnsInHanded {} Try.checked os 13 .any (Rows.fastRunsSpec.pre6 enc Try.prog Try.f13 Rows.fastRunsRow.domain false) (Rows.fastRunsSpec.post enc Try.prog Try.f13 false true false false) := by
  refine returnsInHanded_of_change (C := Try.checked) own started (by kernel_rfl) Try.func13
    (ChangeSpec.witness6 (enc := enc) (C := Try.checked) false ⟨#[], #[.slice none 0 0], []⟩ 8 (by kernel_rfl) (by kernel_rfl) (by kernel_rfl) (by kernel_rfl)) ?_
  intro W base args ds gs before hval0 hW hcnd _
  have hW' := hW
  obtain ⟨p, q, hA, hV, rfl, hfz, hnd⟩ := hW
  obtain ⟨rfl, rfl⟩ := trodVars_none hV
  obtain ⟨y, hs, hok⟩ := open_args Ts (by kernel_rfl) hA (fun j t v h1 h2 => hval0 j t v (by simpa using h1) (by simpa using h2))
  obtain ⟨d1, rfl⟩ := len_one (trod_len hA)
  refine (law_run (law y hok) W (vs := args.toList) (satA_conv (A := A) (lawP y) hs)).mono fun e W' ⟨he, hb⟩ => ?_
  subst he
  exact ⟨_, rfl, row_close laid (by kernel_rfl) (by kernel_rfl) Try.underlying4 rfl hW' hb rfl⟩
theorem holds : Rows.FastRunsSaid :=
  OpenClaim.holds_of_wide 13 Try.f13 rfl rfl rfl rfl rfl rfl rfl ⟨rfl, rfl, rfl, rfl, rfl⟩ rfl rfl rfl rfl rfl (by kernel_rfl) Try.func13 (by kernel_rfl)
    (of_decide_eq_true (by kernel_rfl)) (by unfold Func.isWrapper; first | (rw [if_pos (by decide +kernel)]; kernel_rfl) | (rw [if_neg (by decide +kernel)]; exact ⟨rfl, rfl⟩))
    (fun os started H enc _ => lifted os started H enc)
#print axioms holds
end Go.Proofs.Ytafcmgfmmlnngaa.FastRuns
