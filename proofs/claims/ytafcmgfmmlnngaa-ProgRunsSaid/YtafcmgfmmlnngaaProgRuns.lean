/- THE LAW 'ProgRuns' HANDS BACK TRUE, AND WHAT IT READS STANDS AS IT DID: FOR EVERY START. Conditions: none. -/
import Derived.Test.YtafcmgfmmlnngaaProgQ
import Derived.Test.YtafcmgfmmlnngaaEqs
import Derived.WalkKit
import Derived.ProofKit
import Derived.OpenShut
set_option linter.unusedSimpArgs false
set_option linter.unusedVariables false
set_option maxRecDepth 100000
open Go Go.Sx Go.Proofs Go.ChangeShapes Go.WideShapes Go.ChangeAt Go.RowKit
namespace Go.Proofs.Ytafcmgfmmlnngaa.ProgRuns
open Go.Proofs.Ytafcmgfmmlnngaa.D Go.Proofs.Ytafcmgfmmlnngaa.Tr Go.Proofs.Ytafcmgfmmlnngaa.Pg Go.Proofs.Ytafcmgfmmlnngaa.Rn Go.Proofs.Ytafcmgfmmlnngaa.Eqs

def j3 : JC :=
  (.seq (.ops <|
  qo 4 (.mv (B false)) <|
  .nil)
  (.seq (.ops <|
  qo 12 (.mv (.t 0)) <|
  qo 13 (.mv (.t 1)) <|
  eo 14 (.call 15 [(.t 12), (.t 13)]) <|
  qo 11 (.mv (.t 14)) <|
  qo 15 (.ext 0 (.t 11)) <|
  qo 16 (.ext 1 (.t 11)) <|
  qo 17 (.ext 2 (.t 11)) <|
  .prune [15, 16, 17, 0, 1] <|
  eo 5 (.alloc 28 (.agg [(.arr 8 1 fun _ => (.int .i64 0)), (.arr 4 1 fun _ => (.int .i64 0)), (.arr 6 1 fun _ => (.int .i64 0)), (.bool false), (.bool false)])) <|
  en (.store 20 (.t 5) (.t 15)) <|
  qo 6 (.mv (.t 16)) <|
  qo 7 (.mv (.t 17)) <|
  .nil)
  (.prune [0, 1, 5, 6, 7] (.seq (.ops <|
  qo 19 (.mv (.t 0)) <|
  qo 20 (.mv (.t 1)) <|
  eo 21 (.call 16 [(.t 19), (.t 20)]) <|
  .prune [21, 5, 6, 7] <|
  qo 18 (.mv (.t 21)) <|
  qo 22 (.ext 0 (.t 18)) <|
  qo 23 (.ext 1 (.t 18)) <|
  qo 24 (.ext 2 (.t 18)) <|
  eo 8 (.alloc 28 (.agg [(.arr 8 1 fun _ => (.int .i64 0)), (.arr 4 1 fun _ => (.int .i64 0)), (.arr 6 1 fun _ => (.int .i64 0)), (.bool false), (.bool false)])) <|
  en (.store 20 (.t 8) (.t 22)) <|
  qo 9 (.mv (.t 23)) <|
  qo 10 (.mv (.t 24)) <|
  .nil)
  (.prune [5, 8, 6, 9, 7, 10] (.seq (.ops <|
  eo 25 (.load 20 true (.t 5)) <|
  eo 26 (.load 20 true (.t 8)) <|
  qo 27 (.aeq false (.st [(.arr 8 1 (.int .i64)), (.arr 4 1 (.int .i64)), (.arr 6 1 (.int .i64)), .bool, .bool]) (.t 25) (.t 26)) <|
  .prune [27, 6, 9, 7, 10] <|
  qo 28 (.mv (.t 27)) <|
  .sc false 32 28 (qo 29 (.mv (.t 6)) <|
  qo 30 (.mv (.t 9)) <|
  eo 31 (.call 17 [(.t 29), (.t 30)]) <|
  .nil) (.t 31) <|
  .prune [32, 7, 10] <|
  qo 33 (.mv (.t 32)) <|
  .sc false 37 33 (qo 34 (.mv (.t 7)) <|
  qo 35 (.mv (.t 10)) <|
  qo 36 (.cmp .eql (.t 34) (.t 35)) <|
  .nil) (.t 36) <|
  qo 38 (.mv (.t 37)) <|
  .sc false 41 38 (eo 39 (.call 18 [(.c .nils)]) <|
  qo 40 (.cmp .eql (.t 39) (I 2)) <|
  .nil) (.t 40) <|
  qo 4 (.mv (.t 41)) <|
  .nil)
  .ret))))))
theorem c3 : fnIs Try.prog qall 3 = some (j3.flat, [.tmp 4], 42) := by kernel_rfl
theorem w3 : j3.wf 42 = true := by kernel_rfl
def resP (y : En × Option (List Ev) × Int) : SV := .tup [dEn.emb y.1, (DT.slo 3 dEv).emb y.2.1, .int .i64 y.2.2]
def dRes : DP (En × Option (List Ev) × Int) := ⟨resP, fun r y => by simp only [resP, ren, renL, DT.ren]⟩
theorem res_emb (y : En × Option (List Ev) × Int) : dRes.emb y = .tup [dEn.emb y.1, (DT.slo 3 dEv).emb y.2.1, .int .i64 y.2.2] := nr rfl
def G (f : FuncId) (a : List SV) (m : List Res) : Sx.Call := (FH.mk 15 (.two dProg dIs) (fun _ => True) (fun y => .tup [dEn.emb (runF y.1 y.2.1).1, .vec 0 (runF y.1 y.2.1).2.1.length, .int .i64 (runF y.1 y.2.1).2.2]) (fun y => [.vec 35 3 ((runF y.1 y.2.1).2.1.map dEv.emb)]) <|
  FH.pz 16 (.two dProg dIs) dRes (fun _ => True) (fun y => progR y.1 y.2.1) <|
  FH.rd 17 (.two dEs dEs) (.one .bool) (fun _ => True) (fun y => eqBy ef_EqEvent y.1 y.2.1) <|
  FH.rd 18 (.one dProg) (.one .int) (fun _ => True) (fun y => progC badP y.1) FH.none) f a m
theorem G_eq (f : FuncId) (a : List SV) (m : List Res) : G f a m = (FH.mk 15 (.two dProg dIs) (fun _ => True) (fun y => .tup [dEn.emb (runF y.1 y.2.1).1, .vec 0 (runF y.1 y.2.1).2.1.length, .int .i64 (runF y.1 y.2.1).2.2]) (fun y => [.vec 35 3 ((runF y.1 y.2.1).2.1.map dEv.emb)]) <|
  FH.pz 16 (.two dProg dIs) dRes (fun _ => True) (fun y => progR y.1 y.2.1) <|
  FH.rd 17 (.two dEs dEs) (.one .bool) (fun _ => True) (fun y => eqBy ef_EqEvent y.1 y.2.1) <|
  FH.rd 18 (.one dProg) (.one .int) (fun _ => True) (fun y => progC badP y.1) FH.none) f a m := nr rfl
theorem G_ok : FHOK Try.prog G := FH.mk_ok (by kernel_rfl) (fun y _ => plainM (pv_tup ⟨plV_emb dEn _, plV_vec _ _, plV_int _ _, trivial⟩) ⟨plR_vec _ _ dEv _, trivial⟩) (fun y _ => f_Run y.1 y.2.1) <|
  FH.pz_ok (by kernel_rfl) (fun y _ => f_ProgRun y.1 y.2.1) <|
  FH.rd_ok (by kernel_rfl) (fun y _ => f_EqEvent y.1 y.2.1) <| FH.rd_ok (by kernel_rfl) (fun y _ => Pg.f_Check y.1) FH.none_ok
theorem f_law (p : List (List PO)) (picks : List Int) : FnOK Try.prog 3 [dProg.emb p, dIs.emb picks] [] (.bool true) [] := by
  refine fn_walkF c3 w3 G_ok rfl ?_
  unfold j3
  obtain ⟨e1, e2, e3⟩ := runs_same p picks
  simp only [go_sem, ↓reduceIte, Nat.reduceAdd, Nat.reduceMul, Nat.reduceSub, Nat.reduceLT, Nat.reduceLeDiff, Nat.reduceEqDiff, Int.reduceToNat, Int.reduceEq, Int.reduceLT, Int.reduceLE, reduceCtorEq, G_eq, e1, e2, e3, res_emb, tszEn]
  have h1 : eqBy ef_EqEvent ((progR p picks).2.1.getD []) ((progR p picks).2.1.getD []) = true := eqBy_refl (by simp [ef_EqEvent]) _
  rw [h1]
  simp [progC, List.range_zero]
abbrev A : DA (List (List PO) × List Int × Unit) := .two dProg dIs
abbrev Ts : List TT := [.sl 1 (.sl 3 (.st [.int .i64, .int .i64, .int .i64])), .sl 1 (.int .i64)]
theorem lawP (y : DenL Ts) : A.decP [] (embL Ts y) := ⟨⟨rfl, fun _ _ => ⟨rfl, fun _ _ => ⟨rfl, rfl, rfl, trivial⟩⟩⟩, ⟨rfl, fun _ _ => rfl⟩, trivial⟩
theorem law (y : DenL Ts) (_ : okDL Ts y) : FnOK Try.prog 3 (A.emb (A.decV [] (embL Ts y))) [] (.bool true) [] := f_law _ _
theorem own : ownKnob Try.prog.godebug = none := by kernel_rfl
theorem laid : laidOutB Try.prog = true := by kernel_rfl
theorem lifted (os : Os) (started : os.Started) (H : Type) (enc : TypeId × Value → H) :
    ReturnsInHanded {} Try.checked os 3 .any (Rows.progRunsSpec.pre6 enc Try.prog Try.f3 Rows.progRunsRow.domain false) (Rows.progRunsSpec.post enc Try.prog Try.f3 false true false false) := by
  refine returnsInHanded_of_change (C := Try.checked) own started (by kernel_rfl) Try.func3
    (ChangeSpec.witness6 (enc := enc) (C := Try.checked) false ⟨#[], #[.slice none 0 0, .slice none 0 0], []⟩ 8 (by kernel_rfl) (by kernel_rfl) (by kernel_rfl) (by kernel_rfl)) ?_
  intro W base args ds gs before hval0 hW hcnd _
  have hW' := hW
  obtain ⟨p, q, hA, hV, rfl, hfz, hnd⟩ := hW
  obtain ⟨rfl, rfl⟩ := trodVars_none hV
  obtain ⟨y, hs, hok⟩ := open_args Ts (by kernel_rfl) hA (fun j t v h1 h2 => hval0 j t v (by simpa using h1) (by simpa using h2))
  obtain ⟨d1, d2, rfl⟩ := len_two (trod_len hA)
  refine (law_run (law y hok) W (vs := args.toList) (satA_conv (A := A) (lawP y) hs)).mono fun e W' ⟨he, hb⟩ => ?_
  subst he
  exact ⟨_, rfl, row_close laid (by kernel_rfl) (by kernel_rfl) Try.underlying4 rfl hW' hb rfl⟩
theorem holds : Rows.ProgRunsSaid :=
  OpenClaim.holds_of_wide 3 Try.f3 rfl rfl rfl rfl rfl rfl rfl ⟨rfl, rfl, rfl, rfl, rfl⟩ rfl rfl rfl rfl rfl (by kernel_rfl) Try.func3 (by kernel_rfl)
    (of_decide_eq_true (by kernel_rfl)) (by unfold Func.isWrapper; first | (rw [if_pos (by decide +kernel)]; kernel_rfl) | (rw [if_neg (by decide +kernel)]; exact ⟨rfl, rfl⟩))
    (fun os started H enc _ => lifted os started H enc)
#print axioms holds
end Go.Proofs.Ytafcmgfmmlnngaa.ProgRuns
