/- THE LAW 'ProgAlone' HANDS BACK TRUE, AND WHAT IT READS STANDS AS IT DID: FOR EVERY START. Conditions: none. -/
import Derived.Test.YtmddnblbfmlgoaaProgA
import Derived.WalkKit
import Derived.ProofKit
import Derived.OpenShut
set_option linter.unusedSimpArgs false
set_option linter.unusedVariables false
set_option maxRecDepth 100000
open Go Go.Sx Go.Proofs Go.ChangeShapes Go.WideShapes Go.ChangeAt Go.RowKit
namespace Go.Proofs.Ytmddnblbfmlgoaa.ProgAlone
open Go.Proofs.Ytmddnblbfmlgoaa.D Go.Proofs.Ytmddnblbfmlgoaa.Pg Go.Proofs.Ytmddnblbfmlgoaa.Eqs Go.Proofs.Ytmddnblbfmlgoaa.Ps

def j10 : JC :=
  (.seq (.ops <|
  qo 4 (.mv (B false)) <|
  .nil)
  (.seq (.ops <|
  qo 9 (.mv (.t 0)) <|
  qo 10 (.mv (.t 1)) <|
  eo 11 (.call 32 [(.t 9), (.t 10)]) <|
  qo 8 (.mv (.t 11)) <|
  qo 12 (.ext 0 (.t 8)) <|
  qo 13 (.ext 1 (.t 8)) <|
  qo 5 (.mv (.t 12)) <|
  qo 6 (.mv (.t 13)) <|
  .nil)
  (.seq (.ops <|
  .prune [0, 1, 6, 5] <|
  qo 14 (.mv (.t 0)) <|
  eo 15 (.call 31 [(.t 14)]) <|
  qo 7 (.mv (.t 15)) <|
  .nil)
  (.prune [7, 1, 0, 6, 5] (.seq (.seq (.ops <|
  qo 16 (.mv (.t 7)) <|
  qo 17 (.cmp .eql (.t 16) (I 0)) <|
  qo 18 (.mv (.t 17)) <|
  .sc false 27 18 (qo 19 (.mv (.t 1)) <|
  qo 20 (.cmp .lss (.t 19) (I 0)) <|
  qo 21 (.mv (.t 20)) <|
  .sc true 26 21 (qo 22 (.mv (.t 1)) <|
  qo 23 (.mv (.t 0)) <|
  qo 24 (.len (.t 23)) <|
  qo 25 (.cmp .geq (.t 22) (.t 24)) <|
  .nil) (.t 25) <|
  .nil) (.t 26) <|
  .nil)
  (.prune [27, 6, 5, 0, 1, 7] (.cond (.t 27)
  (.ops <|
  qo 7 (.mv (I 1)) <|
  .nil)
  .skip)))
  (.prune [7, 6, 5, 0, 1] (.seq (.seq (.ops <|
  qo 28 (.mv (.t 7)) <|
  qo 29 (.cmp .neq (.t 28) (I 0)) <|
  qo 30 (.mv (.t 29)) <|
  .sc true 33 30 (qo 31 (.mv (.t 6)) <|
  qo 32 (.cmp .neq (.t 31) (I 0)) <|
  .nil) (.t 32) <|
  .nil)
  (.prune [33, 5, 6, 7, 0, 1] (.cond (.t 33)
  (.seq (.ops <|
  qo 34 (.mv (.t 5)) <|
  .prune [34, 6, 7] <|
  qo 35 (.len (.t 34)) <|
  qo 36 (.cmp .eql (.t 35) (I 0)) <|
  qo 37 (.mv (.t 36)) <|
  .sc false 41 37 (qo 38 (.mv (.t 6)) <|
  qo 39 (.mv (.t 7)) <|
  qo 40 (.cmp .eql (.t 38) (.t 39)) <|
  .nil) (.t 40) <|
  .prune [41] <|
  qo 42 (.mv (.t 41)) <|
  .sc false 45 42 (eo 43 (.call 30 [(.c .nils)]) <|
  qo 44 (.cmp .eql (.t 43) (I 2)) <|
  .nil) (.t 44) <|
  qo 4 (.mv (.t 45)) <|
  .nil)
  .ret)
  .skip)))
  (.prune [5, 0, 1] (.seq (.ops <|
  qo 46 (.mv (.t 5)) <|
  qo 47 (.mv (.t 0)) <|
  qo 48 (.mv (.t 1)) <|
  qo 49 (.is 1 (.t 47) (.t 48)) <|
  .prune [49, 46] <|
  eo 50 (.load 1 false (.t 49)) <|
  eo 51 (.call 34 [(.t 50)]) <|
  eo 52 (.call 33 [(.t 46), (.t 51)]) <|
  qo 53 (.mv (.t 52)) <|
  .sc false 56 53 (eo 54 (.call 30 [(.c .nils)]) <|
  qo 55 (.cmp .eql (.t 54) (I 2)) <|
  .nil) (.t 55) <|
  qo 4 (.mv (.t 56)) <|
  .nil)
  .ret)))))))))
theorem c10 : fnIs Try.prog qall 10 = some (j10.flat, [.tmp 4], 57) := by kernel_rfl
theorem w10 : j10.wf 57 = true := by kernel_rfl
def G (f : FuncId) (a : List SV) (m : List Res) : Sx.Call := (FH.rd 30 (.one dProg) (.one .int) (fun _ => True) (fun y => progC badP y.1) <| FH.rd 31 (.one dProg) (.one .int) (fun _ => True) (fun y => progC badR y.1) <|
  FH.mk 32 (.two dProg .int) (fun _ => True) (fun y => .tup [.vec 0 (aloneF y.1 y.2.1).1.length, .int .i64 (aloneF y.1 y.2.1).2]) (fun y => [.vec 53 2 ((aloneF y.1 y.2.1).1.map dPr.emb)]) <|
  FH.mk 34 (.one (DT.list 3 dOp)) (fun _ => True) (fun y => .vec 0 (allP (wP y.1) 5 5).length) (fun y => [.vec 53 2 ((allP (wP y.1) 5 5).map dPr.emb)]) <|
  FH.rd 33 (.two dPrs dPrs) (.one .bool) (fun _ => True) (fun y => eqBy ef_EqPair y.1 y.2.1) FH.none) f a m
theorem G_eq (f : FuncId) (a : List SV) (m : List Res) : G f a m = (FH.rd 30 (.one dProg) (.one .int) (fun _ => True) (fun y => progC badP y.1) <| FH.rd 31 (.one dProg) (.one .int) (fun _ => True) (fun y => progC badR y.1) <|
  FH.mk 32 (.two dProg .int) (fun _ => True) (fun y => .tup [.vec 0 (aloneF y.1 y.2.1).1.length, .int .i64 (aloneF y.1 y.2.1).2]) (fun y => [.vec 53 2 ((aloneF y.1 y.2.1).1.map dPr.emb)]) <|
  FH.mk 34 (.one (DT.list 3 dOp)) (fun _ => True) (fun y => .vec 0 (allP (wP y.1) 5 5).length) (fun y => [.vec 53 2 ((allP (wP y.1) 5 5).map dPr.emb)]) <|
  FH.rd 33 (.two dPrs dPrs) (.one .bool) (fun _ => True) (fun y => eqBy ef_EqPair y.1 y.2.1) FH.none) f a m := nr rfl
theorem G_ok : FHOK Try.prog G := FH.rd_ok (by kernel_rfl) (fun y _ => f_Check y.1) <| FH.rd_ok (by kernel_rfl) (fun y _ => f_RCheck y.1) <|
  FH.mk_ok (by kernel_rfl) (fun y _ => plainM (pv_tup ⟨plV_vec _ _, plV_int _ _, trivial⟩) ⟨plR_vec _ _ dPr _, trivial⟩) (fun y _ => f_Alone y.1 y.2.1) <|
  FH.mk_ok (by kernel_rfl) (fun y _ => plainM (pv_vec _ _) ⟨plR_vec _ _ dPr _, trivial⟩) (fun y _ => f_RAlone y.1) <| FH.rd_ok (by kernel_rfl) (fun y _ => f_EqPair y.1 y.2.1) FH.none_ok
theorem f_law (p : List (List PO)) (t : Int) : FnOK Try.prog 10 [dProg.emb p, .int .i64 t] [] (.bool true) [] := by
  refine fn_walkF c10 w10 G_ok rfl ?_
  unfold j10
  have hn : progC badP [] = 2 := by decide
  by_cases h0 : progC badP p = 0
  · have h0' : progC badR p = 0 := by rw [← progC_eq]; exact h0
    by_cases h1 : t < 0 ∨ (p.length : Int) ≤ t
    · have h1' : (decide (t < 0) || decide ((p.length : Int) ≤ t)) = true := by simpa using h1
      have hk : aloneF p t = ([], 1) := by rw [aloneF, if_neg (by simp [h0]), if_pos h1]
      simp only [go_sem, ↓reduceIte, Nat.reduceAdd, Nat.reduceMul, Nat.reduceSub, Nat.reduceLT, Nat.reduceLeDiff, Nat.reduceEqDiff, Int.reduceToNat, Int.reduceEq, Int.reduceLT, Int.reduceLE, reduceCtorEq, G_eq, h0, h0', h1', hk, hn]
    · have h1' : (decide (t < 0) || decide ((p.length : Int) ≤ t)) = false := by simpa using h1
      obtain ⟨n, rfl⟩ : ∃ n : Nat, t = n := ⟨t.toNat, by omega⟩
      have hk : aloneF p n = (allP (wP (p.getD n [])) 5 5, 0) := by rw [aloneF, if_neg (by simp [h0]), if_neg h1, Int.toNat_natCast]
      simp only [go_sem, ↓reduceIte, Nat.reduceAdd, Nat.reduceMul, Nat.reduceSub, Nat.reduceLT, Nat.reduceLeDiff, Nat.reduceEqDiff, Int.reduceToNat, Int.reduceEq, Int.reduceLT, Int.reduceLE, reduceCtorEq, G_eq, h0, h0', h1', hk, hn]
      exact ⟨by omega, eqBy_refl (by simp [ef_EqPair]) _⟩
  · have h0' : ¬ progC badR p = 0 := by rw [← progC_eq]; exact h0
    have hk : aloneF p t = ([], progC badR p) := by rw [aloneF, if_pos h0, progC_eq]
    simp only [go_sem, ↓reduceIte, Nat.reduceAdd, Nat.reduceMul, Nat.reduceSub, Nat.reduceLT, Nat.reduceLeDiff, Nat.reduceEqDiff, Int.reduceToNat, Int.reduceEq, Int.reduceLT, Int.reduceLE, reduceCtorEq, G_eq, h0, h0', hk, hn]
abbrev A : DA (List (List PO) × Int × Unit) := .two dProg .int
abbrev Ts : List TT := [.sl 1 (.sl 3 (.st [.int .i64, .int .i64, .int .i64])), .int .i64]
theorem lawP (y : DenL Ts) : A.decP [] (embL Ts y) := ⟨⟨rfl, fun _ _ => ⟨rfl, fun _ _ => ⟨rfl, rfl, rfl, trivial⟩⟩⟩, rfl, trivial⟩
theorem law (y : DenL Ts) (_ : okDL Ts y) : FnOK Try.prog 10 (A.emb (A.decV [] (embL Ts y))) [] (.bool true) [] := f_law _ _
theorem own : ownKnob Try.prog.godebug = none := by kernel_rfl
theorem laid : laidOutB Try.prog = true := by kernel_rfl
theorem lifted (os : Os) (started : os.Started) (H : Type) (enc : TypeId × Value → H) :
    ReturnsInHanded {} Try.checked os 10 .any (Rows.progAloneSpec.pre6 enc Try.prog Try.f10 Rows.progAloneRow.domain false) (Rows.progAloneSpec.post enc Try.prog Try.f10 false true false false) := by
  refine returnsInHanded_of_change (C := Try.checked) own started (by kernel_rfl) Try.func10
    (ChangeSpec.witness6 (enc := enc) (C := Try.checked) false ⟨#[], #[.slice none 0 0, .int .i64 0], []⟩ 8 (by kernel_rfl) (by kernel_rfl) (by kernel_rfl) (by kernel_rfl)) ?_
  intro W base args ds gs before hval0 hW hcnd _
  have hW' := hW
  obtain ⟨p, q, hA, hV, rfl, hfz, hnd⟩ := hW
  obtain ⟨rfl, rfl⟩ := trodVars_none hV
  obtain ⟨y, hs, hok⟩ := open_args Ts (by kernel_rfl) hA (fun j t v h1 h2 => hval0 j t v (by simpa using h1) (by simpa using h2))
  obtain ⟨d1, d2, rfl⟩ := len_two (trod_len hA)
  refine (law_run (law y hok) W (vs := args.toList) (satA_conv (A := A) (lawP y) hs)).mono fun e W' ⟨he, hb⟩ => ?_
  subst he
  exact ⟨_, rfl, row_close laid (by kernel_rfl) (by kernel_rfl) Try.underlying4 rfl hW' hb rfl⟩
theorem holds : Rows.ProgAloneSaid :=
  OpenClaim.holds_of_wide 10 Try.f10 rfl rfl rfl rfl rfl rfl rfl ⟨rfl, rfl, rfl, rfl, rfl⟩ rfl rfl rfl rfl rfl (by kernel_rfl) Try.func10 (by kernel_rfl)
    (of_decide_eq_true (by kernel_rfl)) (by unfold Func.isWrapper; first | (rw [if_pos (by decide +kernel)]; kernel_rfl) | (rw [if_neg (by decide +kernel)]; exact ⟨rfl, rfl⟩))
    (fun os started H enc _ => lifted os started H enc)
#print axioms holds
end Go.Proofs.Ytmddnblbfmlgoaa.ProgAlone
