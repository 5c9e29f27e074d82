/- THE LAW 'GuardWarns' HANDS BACK TRUE, AND WHAT IT READS STANDS AS IT DID: FOR EVERY START. Conditions: none. -/
import Derived.Test.YtafcmgfmmlnngaaGuardQ
import Derived.Test.YtafcmgfmmlnngaaEqs
import Derived.WalkKit
import Derived.ProofKit
import Derived.OpenShut
set_option linter.unusedSimpArgs false
set_option linter.unusedVariables false
set_option maxRecDepth 100000
open Go Go.Sx Go.Proofs Go.ChangeShapes Go.WideShapes Go.ChangeAt Go.RowKit
namespace Go.Proofs.Ytafcmgfmmlnngaa.GuardWarns
open Go.Proofs.Ytafcmgfmmlnngaa.D Go.Proofs.Ytafcmgfmmlnngaa.Tr Go.Proofs.Ytafcmgfmmlnngaa.Gu Go.Proofs.Ytafcmgfmmlnngaa.Eqs

def j6 : JC :=
  (.seq (.ops <|
  qo 2 (.mv (B false)) <|
  .nil)
  (.seq (.ops <|
  qo 12 (.mv (.t 0)) <|
  eo 13 (.call 26 [(.t 12)]) <|
  qo 11 (.mv (.t 13)) <|
  qo 14 (.ext 0 (.t 11)) <|
  qo 15 (.ext 1 (.t 11)) <|
  qo 3 (.mv (.t 14)) <|
  qo 4 (.mv (.t 15)) <|
  .nil)
  (.seq (.ops <|
  .prune [0, 4, 3] <|
  eo 17 (.call 20 []) <|
  eo 18 (.call 19 [(.t 17)]) <|
  qo 16 (.mv (.t 18)) <|
  qo 19 (.ext 0 (.t 16)) <|
  qo 20 (.ext 1 (.t 16)) <|
  .prune [19, 20, 0, 4, 3] <|
  eo 5 (.alloc 40 (.arr 8 3 fun _ => (.agg [(.int .i64 0), (.int .i64 0), (.int .i64 0)]))) <|
  en (.store 24 (.t 5) (.t 19)) <|
  qo 6 (.mv (.t 20)) <|
  .nil)
  (.prune [0, 4, 3, 6] (.seq (.seq (.ops <|
  qo 21 (.mv (.t 0)) <|
  eo 22 (.call 21 [(.t 21)]) <|
  qo 7 (.mv (.t 22)) <|
  .nil)
  (.seq (.ops <|
  qo 23 (.mv (.t 7)) <|
  qo 24 (.cmp .neq (.t 23) (I 0)) <|
  .prune [24, 4, 3, 7, 6, 0] <|
  qo 25 (.mv (.t 24)) <|
  .sc true 28 25 (qo 26 (.mv (.t 4)) <|
  qo 27 (.cmp .neq (.t 26) (I 0)) <|
  .nil) (.t 27) <|
  .nil)
  (.prune [28, 3, 4, 7, 6, 0] (.cond (.t 28)
  (.seq (.ops <|
  qo 29 (.mv (.t 3)) <|
  .prune [29, 4, 7, 6] <|
  qo 30 (.len (.t 29)) <|
  qo 31 (.cmp .eql (.t 30) (I 0)) <|
  qo 32 (.mv (.t 31)) <|
  .prune [32, 4, 7, 6] <|
  .sc false 36 32 (qo 33 (.mv (.t 4)) <|
  qo 34 (.mv (.t 7)) <|
  qo 35 (.cmp .eql (.t 33) (.t 34)) <|
  .nil) (.t 35) <|
  qo 37 (.mv (.t 36)) <|
  .sc false 40 37 (qo 38 (.mv (.t 6)) <|
  qo 39 (.cmp .eql (.t 38) (I 1)) <|
  .nil) (.t 39) <|
  qo 2 (.mv (.t 40)) <|
  .nil)
  .ret)
  .skip))))
  (.prune [0, 3, 6] (.seq (.ops <|
  qo 42 (.mv (.t 0)) <|
  eo 43 (.call 22 [(.t 42)]) <|
  qo 41 (.mv (.t 43)) <|
  qo 44 (.ext 0 (.t 41)) <|
  .prune [41, 44, 3, 6] <|
  qo 45 (.ext 1 (.t 41)) <|
  qo 46 (.ext 2 (.t 41)) <|
  eo 8 (.alloc 40 (.arr 8 3 fun _ => (.agg [(.int .i64 0), (.int .i64 0), (.int .i64 0)]))) <|
  eo 10 (.alloc 24 (.arr 8 1 fun _ => (.int .i64 0))) <|
  en (.store 24 (.t 8) (.t 44)) <|
  qo 9 (.mv (.t 45)) <|
  en (.store 8 (.t 10) (.t 46)) <|
  .nil)
  (.prune [3, 9, 6] (.seq (.ops <|
  qo 47 (.mv (.t 3)) <|
  qo 48 (.mv (.t 9)) <|
  eo 49 (.call 27 [(.t 47), (.t 48)]) <|
  qo 50 (.mv (.t 49)) <|
  .prune [50, 6] <|
  .sc false 53 50 (qo 51 (.mv (.t 6)) <|
  qo 52 (.cmp .eql (.t 51) (I 1)) <|
  .nil) (.t 52) <|
  qo 2 (.mv (.t 53)) <|
  .nil)
  .ret)))))))))
theorem c6 : fnIs Try.prog qall 6 = some (j6.flat, [.tmp 2], 54) := by kernel_rfl
theorem w6 : j6.wf 54 = true := by kernel_rfl
def G (f : FuncId) (a : List SV) (m : List Res) : Sx.Call := (FH.mk 26 (.one dEs) (fun _ => True) (fun y => if (playedF y.1).2.2 = 0 then .tup [.vec 0 (RS y.1 y.1.length).2.length, .int .i64 0] else .tup [.nils, .int .i64 (playedF y.1).2.2])
    (fun y => if (playedF y.1).2.2 = 0 then [.vec 60 3 ((RS y.1 y.1.length).2.map dFl.emb)] else []) <|
  FH.rd 19 (.one dEs) (.two dGs .int) (fun _ => True) (fun y => guardsF y.1) <|
  FH.mk 20 .nil (fun _ => True) (fun _ => .vec 0 1) (fun _ => [.vec 35 3 ([badE].map dEv.emb)]) <|
  FH.rd 21 (.one dEs) (.one .int) (fun _ => True) (fun y => (checkR y.1).2) <|
  FH.mk 22 (.one dEs) (fun y => (checkR y.1).2 = 0) (fun y => .tup [dGs.emb (RR y.1 y.1.length).g, .vec 0 (RR y.1 y.1.length).w.length, dI8.emb (RR y.1 y.1.length).c]) (fun y => [.vec 60 3 ((RR y.1 y.1.length).w.map dFl.emb)]) <|
  FH.rd 27 (.two dFls dFls) (.one .bool) (fun _ => True) (fun y => eqBy ef_EqFlag y.1 y.2.1) FH.none) f a m
theorem G_eq (f : FuncId) (a : List SV) (m : List Res) : G f a m = (FH.mk 26 (.one dEs) (fun _ => True) (fun y => if (playedF y.1).2.2 = 0 then .tup [.vec 0 (RS y.1 y.1.length).2.length, .int .i64 0] else .tup [.nils, .int .i64 (playedF y.1).2.2])
    (fun y => if (playedF y.1).2.2 = 0 then [.vec 60 3 ((RS y.1 y.1.length).2.map dFl.emb)] else []) <|
  FH.rd 19 (.one dEs) (.two dGs .int) (fun _ => True) (fun y => guardsF y.1) <|
  FH.mk 20 .nil (fun _ => True) (fun _ => .vec 0 1) (fun _ => [.vec 35 3 ([badE].map dEv.emb)]) <|
  FH.rd 21 (.one dEs) (.one .int) (fun _ => True) (fun y => (checkR y.1).2) <|
  FH.mk 22 (.one dEs) (fun y => (checkR y.1).2 = 0) (fun y => .tup [dGs.emb (RR y.1 y.1.length).g, .vec 0 (RR y.1 y.1.length).w.length, dI8.emb (RR y.1 y.1.length).c]) (fun y => [.vec 60 3 ((RR y.1 y.1.length).w.map dFl.emb)]) <|
  FH.rd 27 (.two dFls dFls) (.one .bool) (fun _ => True) (fun y => eqBy ef_EqFlag y.1 y.2.1) FH.none) f a m := nr rfl
theorem G_ok : FHOK Try.prog G := FH.mk_ok (by kernel_rfl) (fun y _ => by
    by_cases h : (playedF y.1).2.2 = 0
    · rw [if_pos h, if_pos h]; exact plainM (pv_tup ⟨plV_vec _ _, plV_int _ _, trivial⟩) ⟨plR_vec _ _ dFl _, trivial⟩
    · rw [if_neg h, if_neg h]; exact plainM (pv_tup ⟨plV_nils, plV_int _ _, trivial⟩) trivial) (fun y _ => by
    by_cases h : (playedF y.1).2.2 = 0
    · rw [if_pos h, if_pos h]; exact f_Warns y.1 h
    · rw [if_neg h, if_neg h]; exact f_Warns_bad y.1 h) <| FH.rd_ok (by kernel_rfl) (fun y _ => f_Guards y.1) <|
  FH.mk_ok (by kernel_rfl) (fun _ _ => plainM (pv_vec _ _) ⟨plR_vec _ _ dEv [badE], trivial⟩) (fun _ _ => f_wrong) <| FH.rd_ok (by kernel_rfl) (fun y _ => f_May y.1) <|
  FH.mk_ok (by kernel_rfl) (fun y _ => plainM (pv_tup ⟨plV_emb dGs _, plV_vec _ _, plV_emb dI8 _, trivial⟩) ⟨plR_vec _ _ dFl _, trivial⟩) (fun y h => f_RGuards y.1 h) <|
  FH.rd_ok (by kernel_rfl) (fun y _ => f_EqFlag y.1 y.2.1) FH.none_ok
theorem bad_is : (playedF [badE]).2.2 = 1 := by decide
theorem guards_bad : guardsF [badE] = (gInit 0, 1) := by rw [guardsF, if_neg (by decide), bad_is]
theorem f_law (l : List Ev) : FnOK Try.prog 6 [dEs.emb l] [] (.bool true) [] := by
  refine fn_walkF c6 w6 G_ok rfl ?_
  unfold j6
  by_cases h0 : (checkR l).2 = 0
  · have hp : (playedF l).2.2 = 0 := by rw [err_same]; exact h0
    have hr : (RS l l.length).2 = (RR l l.length).w := ws_agr h0
    simp only [go_sem, ↓reduceIte, Nat.reduceAdd, Nat.reduceMul, Nat.reduceSub, Nat.reduceLT, Nat.reduceLeDiff, Nat.reduceEqDiff, Int.reduceToNat, Int.reduceEq, Int.reduceLT, Int.reduceLE, reduceCtorEq, G_eq, guards_bad, h0, hp, hr, tszGs, tszI8]
    exact eqBy_refl (by simp [ef_EqFlag]) _
  · have hp : ¬ (playedF l).2.2 = 0 := by rw [err_same]; exact h0
    have he : (playedF l).2.2 = (checkR l).2 := err_same
    simp only [go_sem, ↓reduceIte, Nat.reduceAdd, Nat.reduceMul, Nat.reduceSub, Nat.reduceLT, Nat.reduceLeDiff, Nat.reduceEqDiff, Int.reduceToNat, Int.reduceEq, Int.reduceLT, Int.reduceLE, reduceCtorEq, G_eq, guards_bad, h0, hp, tszGs, tszI8]
    simp [he]
abbrev A : DA (List Ev × Unit) := .one dEs
abbrev Ts : List TT := [.sl 3 (.st [.int .i64, .int .i64, .int .i64])]
theorem lawP (y : DenL Ts) : A.decP [] (embL Ts y) := ⟨⟨rfl, fun _ _ => ⟨rfl, rfl, rfl, trivial⟩⟩, trivial⟩
theorem law (y : DenL Ts) (_ : okDL Ts y) : FnOK Try.prog 6 (A.emb (A.decV [] (embL Ts y))) [] (.bool true) [] := f_law _
theorem own : ownKnob Try.prog.godebug = none := by kernel_rfl
theorem laid : laidOutB Try.prog = true := by kernel_rfl
theorem lifted (os : Os) (started : os.Started) (H : Type) (enc : TypeId × Value → H) :
    ReturnsInHanded {} Try.checked os 6 .any (Rows.guardWarnsSpec.pre6 enc Try.prog Try.f6 Rows.guardWarnsRow.domain false) (Rows.guardWarnsSpec.post enc Try.prog Try.f6 false true false false) := by
  refine returnsInHanded_of_change (C := Try.checked) own started (by kernel_rfl) Try.func6
    (ChangeSpec.witness6 (enc := enc) (C := Try.checked) false ⟨#[], #[.slice none 0 0], []⟩ 8 (by kernel_rfl) (by kernel_rfl) (by kernel_rfl) (by kernel_rfl)) ?_
  intro W base args ds gs before hval0 hW hcnd _
  have hW' := hW
  obtain ⟨p, q, hA, hV, rfl, hfz, hnd⟩ := hW
  obtain ⟨rfl, rfl⟩ := trodVars_none hV
  obtain ⟨y, hs, hok⟩ := open_args Ts (by kernel_rfl) hA (fun j t v h1 h2 => hval0 j t v (by simpa using h1) (by simpa using h2))
  obtain ⟨d1, rfl⟩ := len_one (trod_len hA)
  refine (law_run (law y hok) W (vs := args.toList) (satA_conv (A := A) (lawP y) hs)).mono fun e W' ⟨he, hb⟩ => ?_
  subst he
  exact ⟨_, rfl, row_close laid (by kernel_rfl) (by kernel_rfl) Try.underlying4 rfl hW' hb rfl⟩
theorem holds : Rows.GuardWarnsSaid :=
  OpenClaim.holds_of_wide 6 Try.f6 rfl rfl rfl rfl rfl rfl rfl ⟨rfl, rfl, rfl, rfl, rfl⟩ rfl rfl rfl rfl rfl (by kernel_rfl) Try.func6 (by kernel_rfl)
    (of_decide_eq_true (by kernel_rfl)) (by unfold Func.isWrapper; first | (rw [if_pos (by decide +kernel)]; kernel_rfl) | (rw [if_neg (by decide +kernel)]; exact ⟨rfl, rfl⟩))
    (fun os started H enc _ => lifted os started H enc)
#print axioms holds
end Go.Proofs.Ytafcmgfmmlnngaa.GuardWarns
