/- THE LAW 'OrderLeads' HANDS BACK TRUE, AND WHAT IT READS STANDS AS IT DID: FOR EVERY START. Conditions: none. -/
import Derived.Test.YtohbjnpafpcbkaaOrderB
import Derived.WalkKit
import Derived.ProofKit
import Derived.OpenShut
set_option linter.unusedSimpArgs false
set_option linter.unusedVariables false
set_option maxRecDepth 100000
open Go Go.Sx Go.Proofs Go.ChangeShapes Go.WideShapes Go.ChangeAt Go.RowKit
namespace Go.Proofs.Ytohbjnpafpcbkaa.OrderLeads
open Go.Proofs.Ytohbjnpafpcbkaa.D Go.Proofs.Ytohbjnpafpcbkaa.Tr Go.Proofs.Ytohbjnpafpcbkaa.Ps Go.Proofs.Ytohbjnpafpcbkaa.Od Go.Proofs.Ytohbjnpafpcbkaa.Eqs Go.Proofs.Ytohbjnpafpcbkaa.Ah

def j13 : JC :=
  (.seq (.ops <|
  qo 6 (.mv (B false)) <|
  .nil)
  (.seq (.ops <|
  qo 13 (.mv (.t 0)) <|
  qo 14 (.mv (.t 1)) <|
  qo 15 (.mv (.t 2)) <|
  eo 16 (.call 50 [(.t 13), (.t 14), (.t 15)]) <|
  qo 12 (.mv (.t 16)) <|
  qo 17 (.ext 0 (.t 12)) <|
  qo 18 (.ext 1 (.t 12)) <|
  qo 7 (.mv (.t 17)) <|
  qo 8 (.mv (.t 18)) <|
  .nil)
  (.prune [0, 1, 2, 8, 7] (.seq (.ops <|
  qo 19 (.mv (.t 0)) <|
  eo 20 (.call 16 [(.t 19)]) <|
  qo 9 (.mv (.t 20)) <|
  .nil)
  (.seq (.seq (.ops <|
  qo 21 (.mv (.t 9)) <|
  qo 22 (.cmp .eql (.t 21) (I 0)) <|
  .prune [22, 1, 0, 2, 8, 7, 9] <|
  qo 23 (.mv (.t 22)) <|
  .sc false 42 23 (qo 24 (.mv (.t 1)) <|
  qo 25 (.cmp .lss (.t 24) (I 0)) <|
  qo 26 (.mv (.t 25)) <|
  .sc true 31 26 (qo 27 (.mv (.t 1)) <|
  qo 28 (.mv (.t 0)) <|
  qo 29 (.len (.t 28)) <|
  qo 30 (.cmp .geq (.t 27) (.t 29)) <|
  .nil) (.t 30) <|
  qo 32 (.mv (.t 31)) <|
  .sc true 35 32 (qo 33 (.mv (.t 2)) <|
  qo 34 (.cmp .lss (.t 33) (I 0)) <|
  .nil) (.t 34) <|
  qo 36 (.mv (.t 35)) <|
  .sc true 41 36 (qo 37 (.mv (.t 2)) <|
  qo 38 (.mv (.t 0)) <|
  qo 39 (.len (.t 38)) <|
  qo 40 (.cmp .geq (.t 37) (.t 39)) <|
  .nil) (.t 40) <|
  .nil) (.t 41) <|
  .nil)
  (.prune [42, 8, 7, 0, 1, 2, 9] (.cond (.t 42)
  (.ops <|
  qo 9 (.mv (I 1)) <|
  .nil)
  .skip)))
  (.prune [9, 8, 7, 0, 1, 2] (.seq (.ops <|
  eo 44 (.call 18 []) <|
  eo 45 (.call 26 [(.t 44)]) <|
  qo 43 (.mv (.t 45)) <|
  qo 46 (.ext 0 (.t 43)) <|
  qo 47 (.ext 1 (.t 43)) <|
  qo 10 (.mv (.t 46)) <|
  qo 11 (.mv (.t 47)) <|
  .nil)
  (.prune [9, 8, 7, 11, 0, 1, 2] (.seq (.seq (.ops <|
  qo 48 (.mv (.t 9)) <|
  qo 49 (.cmp .neq (.t 48) (I 0)) <|
  qo 50 (.mv (.t 49)) <|
  .sc true 53 50 (qo 51 (.mv (.t 8)) <|
  qo 52 (.cmp .neq (.t 51) (I 0)) <|
  .nil) (.t 52) <|
  .nil)
  (.prune [53, 7, 8, 9, 11, 0, 1, 2] (.cond (.t 53)
  (.seq (.ops <|
  .prune [7, 8, 9, 11] <|
  qo 54 (.mv (.t 7)) <|
  qo 55 (.nt (.t 54)) <|
  qo 56 (.mv (.t 55)) <|
  .prune [56, 8, 9, 11] <|
  .sc false 60 56 (qo 57 (.mv (.t 8)) <|
  qo 58 (.mv (.t 9)) <|
  qo 59 (.cmp .eql (.t 57) (.t 58)) <|
  .nil) (.t 59) <|
  qo 61 (.mv (.t 60)) <|
  .sc false 64 61 (qo 62 (.mv (.t 11)) <|
  qo 63 (.cmp .eql (.t 62) (I 1)) <|
  .nil) (.t 63) <|
  qo 6 (.mv (.t 64)) <|
  .nil)
  .ret)
  .skip)))
  (.prune [7, 0, 1, 2, 11] (.seq (.ops <|
  qo 65 (.mv (.t 7)) <|
  qo 66 (.mv (.t 0)) <|
  eo 67 (.call 45 [(.t 66)]) <|
  .prune [1, 67, 2, 65, 11] <|
  qo 68 (.mv (.t 1)) <|
  qo 69 (.is 1 (.t 67) (.t 68)) <|
  .prune [69, 2, 65, 11] <|
  eo 70 (.load 1 false (.t 69)) <|
  qo 71 (.mv (.t 2)) <|
  qo 72 (.is 1 (.t 70) (.t 71)) <|
  .prune [72, 65, 11] <|
  eo 73 (.load 1 false (.t 72)) <|
  qo 74 (.beq false (.t 65) (.t 73)) <|
  qo 75 (.mv (.t 74)) <|
  .sc false 78 75 (qo 76 (.mv (.t 11)) <|
  qo 77 (.cmp .eql (.t 76) (I 1)) <|
  .nil) (.t 77) <|
  qo 6 (.mv (.t 78)) <|
  .nil)
  .ret)))))))))))
theorem c13 : fnIs Try.prog qall 13 = some (j13.flat, [.tmp 6], 79) := by kernel_rfl
theorem w13 : j13.wf 79 = true := by kernel_rfl
def G (f : FuncId) (a : List SV) (m : List Res) : Sx.Call := (FH.rd 50 (.three dEs .int .int) (.two .bool .int) (fun _ => True) (fun y => leadsF y.1 y.2.1 y.2.2.1) <|
  FH.rd 16 (.one dEs) (.one .int) (fun _ => True) (fun y => (checkR y.1).2) <| FH.pz 45 (.one dEs) (.one dRows) (fun y => y.1.length ≤ 1000) (fun y => rowsOf y.1.length (aheadR y.1)) <|
  FH.mk 18 .nil (fun _ => True) (fun _ => .vec 0 1) (fun _ => [.vec 54 3 ([badE].map dEv.emb)]) <|
  FH.mk 26 (.one dEs) (fun _ => True) (fun y => .tup [.vec 0 (directF y.1 (dirL y.1)).length, .int .i64 (playedF y.1).2.2]) (fun y => [.vec 45 2 ((directF y.1 (dirL y.1)).map dPr.emb)]) FH.none) f a m
theorem G_eq (f : FuncId) (a : List SV) (m : List Res) : G f a m = (FH.rd 50 (.three dEs .int .int) (.two .bool .int) (fun _ => True) (fun y => leadsF y.1 y.2.1 y.2.2.1) <|
  FH.rd 16 (.one dEs) (.one .int) (fun _ => True) (fun y => (checkR y.1).2) <| FH.pz 45 (.one dEs) (.one dRows) (fun y => y.1.length ≤ 1000) (fun y => rowsOf y.1.length (aheadR y.1)) <|
  FH.mk 18 .nil (fun _ => True) (fun _ => .vec 0 1) (fun _ => [.vec 54 3 ([badE].map dEv.emb)]) <|
  FH.mk 26 (.one dEs) (fun _ => True) (fun y => .tup [.vec 0 (directF y.1 (dirL y.1)).length, .int .i64 (playedF y.1).2.2]) (fun y => [.vec 45 2 ((directF y.1 (dirL y.1)).map dPr.emb)]) FH.none) f a m := nr rfl
theorem G_ok : FHOK Try.prog G := FH.rd_ok (by kernel_rfl) (fun y _ => f_Leads y.1 y.2.1 y.2.2.1) <|
  FH.rd_ok (by kernel_rfl) (fun y _ => f_May y.1) <| FH.pz_ok (by kernel_rfl) (fun y h => f_RAhead y.1 h) <|
  FH.mk_ok (by kernel_rfl) (fun _ _ => plainM (pv_vec _ _) ⟨plR_vec _ _ dEv [badE], trivial⟩) (fun _ _ => f_wrong) <|
  FH.mk_ok (by kernel_rfl) (fun y _ => plainM (pv_tup ⟨plV_vec _ _, plV_int _ _, trivial⟩) ⟨plR_vec _ _ dPr _, trivial⟩) (fun y _ => f_Direct y.1) FH.none_ok
theorem f_law (l : List Ev) (i j : Int) : FnOK Try.prog 13 [dEs.emb l, .int .i64 i, .int .i64 j] [] (.bool true) [] := by
  refine fn_walkF c13 w13 G_ok rfl ?_
  unfold j13
  simp only [go_sem, ↓reduceIte, Nat.reduceAdd, Nat.reduceMul, Nat.reduceSub, Nat.reduceLT, Nat.reduceLeDiff, Nat.reduceEqDiff, Int.reduceToNat, reduceCtorEq, G_eq]
  rw [bad_is]
  unfold leadsF
  rw [err_same]
  by_cases h0 : (checkR l).2 = 0
  · have hl := ok_len h0
    rw [if_neg (Decidable.not_not.2 h0), h0]
    by_cases h1 : i < 0 ∨ (l.length : Int) ≤ i ∨ j < 0 ∨ (l.length : Int) ≤ j
    · rw [if_pos h1]
      refine ⟨fun _ => ⟨fun _ => rfl, fun h => by simp at h⟩, fun h => ?_⟩
      simp only [decide_true, Bool.true_and, Bool.or_eq_false_iff, decide_eq_false_iff_not] at h
      omega
    · rw [if_neg h1]
      refine ⟨fun h => ?_, fun _ => ⟨fun h => by simp at h, fun _ => ?_⟩⟩
      · simp only [decide_true, Bool.true_and, Bool.or_eq_true, decide_eq_true_eq] at h
        omega
      · rw [rows_len, rows_row (by omega), rows_at (by omega) (by omega), befP_eq (by omega)]
        exact ⟨by omega, by omega, by omega, by simp⟩
  · rw [if_pos h0]
    simp [h0]
abbrev A : DA (List Ev × Int × Int × Unit) := .three dEs .int .int
abbrev Ts : List TT := [.sl 3 (.st [.int .i64, .int .i64, .int .i64]), .int .i64, .int .i64]
theorem lawP (y : DenL Ts) : A.decP [] (embL Ts y) := ⟨⟨rfl, fun _ _ => ⟨rfl, rfl, rfl, trivial⟩⟩, rfl, rfl, trivial⟩
theorem law (y : DenL Ts) (_ : okDL Ts y) : FnOK Try.prog 13 (A.emb (A.decV [] (embL Ts y))) [] (.bool true) [] := f_law _ _ _
theorem own : ownKnob Try.prog.godebug = none := by kernel_rfl
theorem laid : laidOutB Try.prog = true := by kernel_rfl
theorem lifted (os : Os) (started : os.Started) (H : Type) (enc : TypeId × Value → H) :
    ReturnsInHanded {} Try.checked os 13 .any (Rows.orderLeadsSpec.pre6 enc Try.prog Try.f13 Rows.orderLeadsRow.domain false) (Rows.orderLeadsSpec.post enc Try.prog Try.f13 false true false false) := by
  refine returnsInHanded_of_change (C := Try.checked) own started (by kernel_rfl) Try.func13
    (ChangeSpec.witness6 (enc := enc) (C := Try.checked) false ⟨#[], #[.slice none 0 0, .int .i64 0, .int .i64 0], []⟩ 8 (by kernel_rfl) (by kernel_rfl) (by kernel_rfl) (by kernel_rfl)) ?_
  intro W base args ds gs before hval0 hW hcnd _
  have hW' := hW
  obtain ⟨p, q, hA, hV, rfl, hfz, hnd⟩ := hW
  obtain ⟨rfl, rfl⟩ := trodVars_none hV
  obtain ⟨y, hs, hok⟩ := open_args Ts (by kernel_rfl) hA (fun j t v h1 h2 => hval0 j t v (by simpa using h1) (by simpa using h2))
  obtain ⟨d1, d2, d3, rfl⟩ := len_three (trod_len hA)
  refine (law_run (law y hok) W (vs := args.toList) (satA_conv (A := A) (lawP y) hs)).mono fun e W' ⟨he, hb⟩ => ?_
  subst he
  exact ⟨_, rfl, row_close laid (by kernel_rfl) (by kernel_rfl) Try.underlying4 rfl hW' hb rfl⟩
theorem holds : Rows.OrderLeadsSaid :=
  OpenClaim.holds_of_wide 13 Try.f13 rfl rfl rfl rfl rfl rfl rfl ⟨rfl, rfl, rfl, rfl, rfl⟩ rfl rfl rfl rfl rfl (by kernel_rfl) Try.func13 (by kernel_rfl)
    (of_decide_eq_true (by kernel_rfl)) (by unfold Func.isWrapper; first | (rw [if_pos (by decide +kernel)]; kernel_rfl) | (rw [if_neg (by decide +kernel)]; exact ⟨rfl, rfl⟩))
    (fun os started H enc _ => lifted os started H enc)
#print axioms holds
end Go.Proofs.Ytohbjnpafpcbkaa.OrderLeads
