/- THE LAW 'RaceSeconds' HANDS BACK TRUE, AND WHAT IT READS STANDS AS IT DID: FOR EVERY START. Conditions: none. -/
import Derived.Test.YtjipnjimopekjaaRaceS
import Derived.Test.YtjipnjimopekjaaSecR
import Derived.Test.YtjipnjimopekjaaEqs
import Derived.WalkKit
import Derived.ProofKit
import Derived.OpenShut
import Derived.Leaving
import Derived.Conc.Holds
set_option linter.unusedSimpArgs false
set_option linter.unusedVariables false
set_option maxRecDepth 100000
open Go Go.Sx Go.Proofs Go.ChangeShapes Go.WideShapes Go.ChangeAt Go.RowKit
namespace Go.Proofs.Ytjipnjimopekjaa.RaceSeconds
open Go.Proofs.Ytjipnjimopekjaa.D Go.Proofs.Ytjipnjimopekjaa.Tr Go.Proofs.Ytjipnjimopekjaa.Ah Go.Proofs.Ytjipnjimopekjaa.Rc Go.Proofs.Ytjipnjimopekjaa.Eqs

def j5 : JC :=
  (.seq (.ops <|
  qo 2 (.mv (B false)) <|
  .nil)
  (.seq (.ops <|
  qo 9 (.mv (.t 0)) <|
  eo 10 (.call 23 [(.t 9)]) <|
  qo 8 (.mv (.t 10)) <|
  qo 11 (.ext 0 (.t 8)) <|
  qo 12 (.ext 1 (.t 8)) <|
  qo 3 (.mv (.t 11)) <|
  qo 4 (.mv (.t 12)) <|
  .nil)
  (.seq (.ops <|
  .prune [0, 4, 3] <|
  eo 14 (.call 25 []) <|
  eo 15 (.call 24 [(.t 14)]) <|
  qo 13 (.mv (.t 15)) <|
  qo 16 (.ext 0 (.t 13)) <|
  qo 17 (.ext 1 (.t 13)) <|
  qo 5 (.mv (.t 16)) <|
  qo 6 (.mv (.t 17)) <|
  .nil)
  (.prune [0, 4, 3, 6] (.seq (.seq (.ops <|
  qo 18 (.mv (.t 0)) <|
  eo 19 (.call 21 [(.t 18)]) <|
  qo 7 (.mv (.t 19)) <|
  .nil)
  (.seq (.ops <|
  qo 20 (.mv (.t 7)) <|
  qo 21 (.cmp .neq (.t 20) (I 0)) <|
  .prune [21, 4, 3, 7, 6, 0] <|
  qo 22 (.mv (.t 21)) <|
  .sc true 25 22 (qo 23 (.mv (.t 4)) <|
  qo 24 (.cmp .neq (.t 23) (I 0)) <|
  .nil) (.t 24) <|
  .nil)
  (.prune [25, 3, 4, 7, 6, 0] (.cond (.t 25)
  (.seq (.ops <|
  qo 26 (.mv (.t 3)) <|
  .prune [26, 4, 7, 6] <|
  qo 27 (.len (.t 26)) <|
  qo 28 (.cmp .eql (.t 27) (I 0)) <|
  qo 29 (.mv (.t 28)) <|
  .prune [29, 4, 7, 6] <|
  .sc false 33 29 (qo 30 (.mv (.t 4)) <|
  qo 31 (.mv (.t 7)) <|
  qo 32 (.cmp .eql (.t 30) (.t 31)) <|
  .nil) (.t 32) <|
  qo 34 (.mv (.t 33)) <|
  .sc false 37 34 (qo 35 (.mv (.t 6)) <|
  qo 36 (.cmp .eql (.t 35) (I 1)) <|
  .nil) (.t 36) <|
  qo 2 (.mv (.t 37)) <|
  .nil)
  .ret)
  .skip))))
  (.prune [3, 0, 6] (.seq (.ops <|
  qo 38 (.mv (.t 3)) <|
  qo 39 (.mv (.t 0)) <|
  eo 40 (.call 26 [(.t 39)]) <|
  eo 41 (.call 22 [(.t 38), (.t 40)]) <|
  .prune [41, 6] <|
  qo 42 (.mv (.t 41)) <|
  .sc false 45 42 (qo 43 (.mv (.t 6)) <|
  qo 44 (.cmp .eql (.t 43) (I 1)) <|
  .nil) (.t 44) <|
  qo 2 (.mv (.t 45)) <|
  .nil)
  .ret)))))))
theorem c5 : fnIs Try.prog qall 5 = some (j5.flat, [.tmp 2], 46) := by kernel_rfl
theorem w5 : j5.wf 46 = true := by kernel_rfl
def G (f : FuncId) (a : List SV) (m : List Res) : Sx.Call := (FH.mk 23 (.one dEs) (fun _ => True) (fun y => .tup [.vec 0 (tellF (fun r => r.b) y.1).length, .int .i64 (playedF y.1).2.2]) (fun y => [.vec 3 1 ((tellF (fun r => r.b) y.1).map DT.int.emb)]) <|
  FH.mk 24 (.one dEs) (fun _ => True) (fun y => .tup [.vec 0 (allF y.1).length, .int .i64 (playedF y.1).2.2]) (fun y => [.vec 58 4 ((allF y.1).map dRc.emb)]) <|
  FH.mk 25 .nil (fun _ => True) (fun _ => .vec 0 1) (fun _ => [.vec 26 3 ([badE].map dEv.emb)]) <|
  FH.rd 21 (.one dEs) (.one .int) (fun _ => True) (fun y => (checkR y.1).2) <|
  FH.mk 26 (.one dEs) (fun y => (checkR y.1).2 = 0) (fun y => .vec 0 (secsR y.1).length) (fun y => [.vec 3 1 ((secsR y.1).map DT.int.emb)]) <|
  FH.rd 22 (.two dIs dIs) (.one .bool) (fun _ => True) (fun y => eqBy ef_EqInt y.1 y.2.1) FH.none) f a m
theorem G_eq (f : FuncId) (a : List SV) (m : List Res) : G f a m = (FH.mk 23 (.one dEs) (fun _ => True) (fun y => .tup [.vec 0 (tellF (fun r => r.b) y.1).length, .int .i64 (playedF y.1).2.2]) (fun y => [.vec 3 1 ((tellF (fun r => r.b) y.1).map DT.int.emb)]) <|
  FH.mk 24 (.one dEs) (fun _ => True) (fun y => .tup [.vec 0 (allF y.1).length, .int .i64 (playedF y.1).2.2]) (fun y => [.vec 58 4 ((allF y.1).map dRc.emb)]) <|
  FH.mk 25 .nil (fun _ => True) (fun _ => .vec 0 1) (fun _ => [.vec 26 3 ([badE].map dEv.emb)]) <|
  FH.rd 21 (.one dEs) (.one .int) (fun _ => True) (fun y => (checkR y.1).2) <|
  FH.mk 26 (.one dEs) (fun y => (checkR y.1).2 = 0) (fun y => .vec 0 (secsR y.1).length) (fun y => [.vec 3 1 ((secsR y.1).map DT.int.emb)]) <|
  FH.rd 22 (.two dIs dIs) (.one .bool) (fun _ => True) (fun y => eqBy ef_EqInt y.1 y.2.1) FH.none) f a m := nr rfl
theorem G_ok : FHOK Try.prog G := FH.mk_ok (by kernel_rfl) (fun y _ => plainM (pv_tup ⟨plV_vec _ _, plV_int _ _, trivial⟩) ⟨plR_vec _ _ DT.int _, trivial⟩) (fun y _ => f_Seconds y.1) <|
  FH.mk_ok (by kernel_rfl) (fun y _ => plainM (pv_tup ⟨plV_vec _ _, plV_int _ _, trivial⟩) ⟨plR_vec _ _ dRc _, trivial⟩) (fun y _ => f_All y.1) <|
  FH.mk_ok (by kernel_rfl) (fun _ _ => plainM (pv_vec _ _) ⟨plR_vec _ _ dEv [badE], trivial⟩) (fun _ _ => f_wrong) <| FH.rd_ok (by kernel_rfl) (fun y _ => f_May y.1) <|
  FH.mk_ok (by kernel_rfl) (fun y _ => plainM (pv_vec _ _) ⟨plR_vec _ _ DT.int _, trivial⟩) (fun y h => f_RSeconds y.1 h) <| FH.rd_ok (by kernel_rfl) (fun y _ => f_EqInt y.1 y.2.1) FH.none_ok
theorem bad_is : (playedF [badE]).2.2 = 1 := by decide
theorem tell_secs {l : List Ev} (hok : (checkR l).2 = 0) : tellF (fun r => r.b) l = secsR l := by
  have hp : (playedF l).2.2 = 0 := by rw [err_same]; exact hok
  rw [tellF, if_pos hp, SortP.compact_sorted secs_in]
  rfl
theorem f_law (l : List Ev) : FnOK Try.prog 5 [dEs.emb l] [] (.bool true) [] := by
  refine fn_walkF c5 w5 G_ok rfl ?_
  unfold j5
  by_cases h0 : (checkR l).2 = 0
  · have hp : (playedF l).2.2 = 0 := by rw [err_same]; exact h0
    have hr := tell_secs h0
    simp only [go_sem, ↓reduceIte, Nat.reduceAdd, Nat.reduceMul, Nat.reduceSub, Nat.reduceLT, Nat.reduceLeDiff, Nat.reduceEqDiff, Int.reduceToNat, Int.reduceEq, Int.reduceLT, Int.reduceLE, reduceCtorEq, G_eq, bad_is, h0, hp, hr]
    exact eqBy_refl (by simp [ef_EqInt]) _
  · have hp : ¬ (playedF l).2.2 = 0 := by rw [err_same]; exact h0
    have hr : tellF (fun r => r.b) l = [] := by rw [tellF, if_neg hp]
    have he : (playedF l).2.2 = (checkR l).2 := err_same
    simp only [go_sem, ↓reduceIte, Nat.reduceAdd, Nat.reduceMul, Nat.reduceSub, Nat.reduceLT, Nat.reduceLeDiff, Nat.reduceEqDiff, Int.reduceToNat, Int.reduceEq, Int.reduceLT, Int.reduceLE, reduceCtorEq, G_eq, bad_is, h0, hr, he]
abbrev A : DA (List Ev × Unit) := .one dEs
abbrev Ts : List TT := [.sl 3 (.st [.int .i64, .int .i64, .int .i64])]
theorem lawP (y : DenL Ts) : A.decP [] (embL Ts y) := ⟨⟨rfl, fun _ _ => ⟨rfl, rfl, rfl, trivial⟩⟩, trivial⟩
theorem law (y : DenL Ts) (_ : okDL Ts y) : FnOK Try.prog 5 (A.emb (A.decV [] (embL Ts y))) [] (.bool true) [] := f_law _
theorem own : ownKnob Try.prog.godebug = none := by kernel_rfl
theorem laid : laidOutB Try.prog = true := by kernel_rfl
theorem lifted (os : Os) (started : os.Started) (H : Type) (enc : TypeId × Value → H) :
    ReturnsInHanded {} Try.checked os 5 .any (Rows.raceSecondsSpec.pre6 enc Try.prog Try.f5 Rows.raceSecondsRow.domain false) (Rows.raceSecondsSpec.post enc Try.prog Try.f5 false true false false) := by
  refine returnsInHanded_of_change (C := Try.checked) own started (by kernel_rfl) Try.func5
    (ChangeSpec.witness6 (enc := enc) (C := Try.checked) false ⟨#[], #[.slice none 0 0], []⟩ 8 (by kernel_rfl) (by kernel_rfl) (by kernel_rfl) (by kernel_rfl)) ?_
  intro W base args ds gs before hval0 hW hcnd _
  have hW' := hW
  obtain ⟨p, q, hA, hV, rfl, hfz, hnd⟩ := hW
  obtain ⟨rfl, rfl⟩ := trodVars_none hV
  obtain ⟨y, hs, hok⟩ := open_args Ts (by kernel_rfl) hA (fun j t v h1 h2 => hval0 j t v (by simpa using h1) (by simpa using h2))
  obtain ⟨d1, rfl⟩ := len_one (trod_len hA)
  refine (law_run (law y hok) W (vs := args.toList) (satA_conv (A := A) (lawP y) hs)).mono fun e W' ⟨he, hb⟩ => ?_
  subst he
  exact ⟨_, rfl, row_close laid (by kernel_rfl) (by kernel_rfl) Try.underlying4 rfl hW' hb rfl⟩
theorem holds : Rows.RaceSecondsSaid :=
  OpenClaim.holds_of_wide_leaving 5 Try.f5 rfl rfl rfl rfl rfl rfl rfl ⟨rfl, rfl, rfl, rfl, rfl⟩ rfl rfl rfl rfl rfl (by kernel_rfl) Try.func5 (by kernel_rfl)
    (of_decide_eq_true (by kernel_rfl)) (by unfold Func.isWrapper; first | (rw [if_pos (by decide +kernel)]; kernel_rfl) | (rw [if_neg (by decide +kernel)]; exact ⟨rfl, rfl⟩))
    (fun os started H enc _ enter => ReturnsInOpen.mono (fun _ _ _ x => ⟨x.2.1, onlyLeaving_of_quiet x.1, x.2.2⟩) (fun _ x => x) (lifted os started H enc enter))
#print axioms holds
end Go.Proofs.Ytjipnjimopekjaa.RaceSeconds
