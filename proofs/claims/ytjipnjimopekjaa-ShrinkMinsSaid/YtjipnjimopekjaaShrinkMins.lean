/- THE LAW 'ShrinkMins' HANDS BACK TRUE, AND WHAT IT READS STANDS AS IT DID: FOR EVERY START. Conditions: none. -/
import Derived.Test.YtjipnjimopekjaaShrinkM
import Derived.Test.YtjipnjimopekjaaEqs
import Derived.WalkKit
import Derived.ProofKit
import Derived.OpenShut
import Derived.Leaving
import Derived.Conc.Holds
set_option linter.unusedSimpArgs false
set_option linter.unusedVariables false
set_option maxRecDepth 100000
open Go Go.Sx Go.Proofs Go.ChangeShapes Go.WideShapes Go.ChangeAt Go.RowKit
namespace Go.Proofs.Ytjipnjimopekjaa.ShrinkMins
open Go.Proofs.Ytjipnjimopekjaa.D Go.Proofs.Ytjipnjimopekjaa.Tr Go.Proofs.Ytjipnjimopekjaa.Rc Go.Proofs.Ytjipnjimopekjaa.Eqs Go.Proofs.Ytjipnjimopekjaa.Sk Go.Proofs.Ytjipnjimopekjaa.Cp

def j9 : JC :=
  (.seq (.ops <|
  qo 2 (.mv (B false)) <|
  .nil)
  (.seq (.ops <|
  qo 9 (.mv (.t 0)) <|
  eo 10 (.call 36 [(.t 9)]) <|
  qo 8 (.mv (.t 10)) <|
  qo 11 (.ext 0 (.t 8)) <|
  qo 12 (.ext 1 (.t 8)) <|
  qo 3 (.mv (.t 11)) <|
  qo 4 (.mv (.t 12)) <|
  .nil)
  (.seq (.ops <|
  .prune [0, 4, 3] <|
  qo 13 (.mv (.t 0)) <|
  eo 14 (.call 21 [(.t 13)]) <|
  qo 5 (.mv (.t 14)) <|
  .nil)
  (.prune [5, 0, 4, 3] (.seq (.seq (.ops <|
  qo 15 (.mv (.t 5)) <|
  qo 16 (.cmp .eql (.t 15) (I 0)) <|
  qo 17 (.mv (.t 16)) <|
  .sc false 22 17 (qo 18 (.mv (.t 0)) <|
  eo 19 (.call 29 [(.t 18)]) <|
  qo 20 (.len (.t 19)) <|
  qo 21 (.cmp .eql (.t 20) (I 0)) <|
  .nil) (.t 21) <|
  .nil)
  (.prune [22, 4, 3, 0, 5] (.cond (.t 22)
  (.ops <|
  qo 5 (.mv (I 7)) <|
  .nil)
  .skip)))
  (.prune [5, 4, 3, 0] (.seq (.ops <|
  eo 24 (.call 36 [(.c .nils)]) <|
  qo 23 (.mv (.t 24)) <|
  qo 25 (.ext 0 (.t 23)) <|
  qo 26 (.ext 1 (.t 23)) <|
  qo 6 (.mv (.t 25)) <|
  qo 7 (.mv (.t 26)) <|
  .nil)
  (.prune [5, 4, 3, 7, 0] (.seq (.seq (.ops <|
  qo 27 (.mv (.t 5)) <|
  qo 28 (.cmp .neq (.t 27) (I 0)) <|
  qo 29 (.mv (.t 28)) <|
  .sc true 32 29 (qo 30 (.mv (.t 4)) <|
  qo 31 (.cmp .neq (.t 30) (I 0)) <|
  .nil) (.t 31) <|
  .nil)
  (.prune [32, 3, 4, 5, 7, 0] (.cond (.t 32)
  (.seq (.ops <|
  qo 33 (.mv (.t 3)) <|
  .prune [33, 4, 5, 7] <|
  qo 34 (.len (.t 33)) <|
  qo 35 (.cmp .eql (.t 34) (I 0)) <|
  qo 36 (.mv (.t 35)) <|
  .prune [36, 4, 5, 7] <|
  .sc false 40 36 (qo 37 (.mv (.t 4)) <|
  qo 38 (.mv (.t 5)) <|
  qo 39 (.cmp .eql (.t 37) (.t 38)) <|
  .nil) (.t 39) <|
  qo 41 (.mv (.t 40)) <|
  .sc false 44 41 (qo 42 (.mv (.t 7)) <|
  qo 43 (.cmp .eql (.t 42) (I 7)) <|
  .nil) (.t 43) <|
  qo 2 (.mv (.t 44)) <|
  .nil)
  .ret)
  .skip)))
  (.prune [3, 0, 7] (.seq (.ops <|
  qo 45 (.mv (.t 3)) <|
  qo 46 (.mv (.t 0)) <|
  eo 47 (.call 38 [(.t 46)]) <|
  eo 48 (.call 37 [(.t 47)]) <|
  .prune [45, 48, 7] <|
  eo 49 (.call 16 [(.t 45), (.t 48)]) <|
  qo 50 (.mv (.t 49)) <|
  .sc false 53 50 (qo 51 (.mv (.t 7)) <|
  qo 52 (.cmp .eql (.t 51) (I 7)) <|
  .nil) (.t 52) <|
  qo 2 (.mv (.t 53)) <|
  .nil)
  .ret)))))))))))
theorem c9 : fnIs Try.prog qall 9 = some (j9.flat, [.tmp 2], 54) := by kernel_rfl
theorem w9 : j9.wf 54 = true := by kernel_rfl
def G (f : FuncId) (a : List SV) (m : List Res) : Sx.Call := (FH.pz 36 (.one dOEs) (DP.two dOEs .int) (fun _ => True) (fun y => minO y.1) <|
  FH.rd 21 (.one dEs) (.one .int) (fun _ => True) (fun y => (checkR y.1).2) <|
  FH.pz 29 (.one dEs) (DP.one dRcs) (fun y => (checkR y.1).2 = 0) (fun y => racesF y.1) <|
  FH.mk 38 (.one dEs) (fun y => y.1.length ≤ 1000000) (fun y => .vec 0 y.1.length) (fun y => [.vec 26 3 (y.1.map dEv.emb)]) <|
  FH.fz 37 (.one dEs) (DP.one dEs) (fun y => y.1.length ≤ 100) (fun y => minF y.1) <|
  FH.rd 16 (.two dEs dEs) (.one .bool) (fun _ => True) (fun y => eqBy ef_EqEvent y.1 y.2.1) FH.none) f a m
theorem G_eq (f : FuncId) (a : List SV) (m : List Res) : G f a m = (FH.pz 36 (.one dOEs) (DP.two dOEs .int) (fun _ => True) (fun y => minO y.1) <|
  FH.rd 21 (.one dEs) (.one .int) (fun _ => True) (fun y => (checkR y.1).2) <|
  FH.pz 29 (.one dEs) (DP.one dRcs) (fun y => (checkR y.1).2 = 0) (fun y => racesF y.1) <|
  FH.mk 38 (.one dEs) (fun y => y.1.length ≤ 1000000) (fun y => .vec 0 y.1.length) (fun y => [.vec 26 3 (y.1.map dEv.emb)]) <|
  FH.fz 37 (.one dEs) (DP.one dEs) (fun y => y.1.length ≤ 100) (fun y => minF y.1) <|
  FH.rd 16 (.two dEs dEs) (.one .bool) (fun _ => True) (fun y => eqBy ef_EqEvent y.1 y.2.1) FH.none) f a m := nr rfl
theorem G_ok : FHOK Try.prog G := FH.pz_ok (by kernel_rfl) (fun y _ => f_Min y.1) <| FH.rd_ok (by kernel_rfl) (fun y _ => f_May y.1) <|
  FH.pz_ok (by kernel_rfl) (fun y h => (f_RRaces y.1 h).holdL) <|
  FH.mk_ok (by kernel_rfl) (fun y _ => plainM (pv_vec _ _) ⟨plR_vec _ _ dEv _, trivial⟩) (fun y h => f_CopyEv y.1 h) <|
  FH.fz_ok (by kernel_rfl) (fun y h => f_RMin y.1 h) <| FH.rd_ok (by kernel_rfl) (fun y _ => f_EqEvent y.1 y.2.1) FH.none_ok
theorem min_nil : minO none = (none, 7) := by
  unfold minO
  rw [if_pos (by decide), if_neg (by decide)]
theorem f_law (l : List Ev) : FnOK Try.prog 9 [dEs.emb l] [] (.bool true) [] := by
  refine fn_walkF c9 w9 G_ok rfl ?_
  unfold j9
  by_cases h0 : (checkR l).2 = 0
  · have hl := ok_len h0
    have h100 : l.length ≤ 100 := by omega
    have h6 : l.length ≤ 1000000 := by omega
    by_cases hr : racy l = true
    · have hmo : minO (some l) = (some (minF l), 0) := by unfold minO; rw [if_pos (show (checkR ((some l).getD [])).2 = 0 from h0), if_pos (show racy ((some l).getD []) = true from hr)]; rfl
      have hd : decide (((racesF l).length : Int) = 0) = false := by
        unfold racy at hr
        have := of_decide_eq_true hr
        exact decide_eq_false (by omega)
      simp only [go_sem, ↓reduceIte, Nat.reduceAdd, Nat.reduceMul, Nat.reduceSub, Nat.reduceLT, Nat.reduceLeDiff, Nat.reduceEqDiff, Int.reduceToNat, Int.reduceEq, Int.reduceLT, Int.reduceLE, reduceCtorEq, G_eq, h0, hmo, hd, min_nil, h100, h6]
      exact eqBy_refl (by simp [ef_EqEvent]) _
    · have hmo : minO (some l) = (none, 7) := by unfold minO; rw [if_pos (show (checkR ((some l).getD [])).2 = 0 from h0), if_neg (show ¬ racy ((some l).getD []) = true from hr)]
      have hd : decide (((racesF l).length : Int) = 0) = true := by
        unfold racy at hr
        simp only [decide_eq_true_eq] at hr
        exact decide_eq_true (by omega)
      simp only [go_sem, ↓reduceIte, Nat.reduceAdd, Nat.reduceMul, Nat.reduceSub, Nat.reduceLT, Nat.reduceLeDiff, Nat.reduceEqDiff, Int.reduceToNat, Int.reduceEq, Int.reduceLT, Int.reduceLE, reduceCtorEq, G_eq, h0, hmo, hd, min_nil, h100, h6]
  · have hmo : minO (some l) = (none, (checkR l).2) := by unfold minO; rw [if_neg (show ¬ (checkR ((some l).getD [])).2 = 0 from h0)]; rfl
    simp only [go_sem, ↓reduceIte, Nat.reduceAdd, Nat.reduceMul, Nat.reduceSub, Nat.reduceLT, Nat.reduceLeDiff, Nat.reduceEqDiff, Int.reduceToNat, Int.reduceEq, Int.reduceLT, Int.reduceLE, reduceCtorEq, G_eq, h0, hmo, min_nil]
abbrev A : DA (List Ev × Unit) := .one dEs
abbrev Ts : List TT := [.sl 3 (.st [.int .i64, .int .i64, .int .i64])]
theorem lawP (y : DenL Ts) : A.decP [] (embL Ts y) := ⟨⟨rfl, fun _ _ => ⟨rfl, rfl, rfl, trivial⟩⟩, trivial⟩
theorem law (y : DenL Ts) (_ : okDL Ts y) : FnOK Try.prog 9 (A.emb (A.decV [] (embL Ts y))) [] (.bool true) [] := f_law _
theorem own : ownKnob Try.prog.godebug = none := by kernel_rfl
theorem laid : laidOutB Try.prog = true := by kernel_rfl
theorem lifted (os : Os) (started : os.Started) (H : Type) (enc : TypeId × Value → H) :
    ReturnsInHanded {} Try.checked os 9 .any (Rows.shrinkMinsSpec.pre6 enc Try.prog Try.f9 Rows.shrinkMinsRow.domain false) (Rows.shrinkMinsSpec.post enc Try.prog Try.f9 false true false false) := by
  refine returnsInHanded_of_change (C := Try.checked) own started (by kernel_rfl) Try.func9
    (ChangeSpec.witness6 (enc := enc) (C := Try.checked) false ⟨#[], #[.slice none 0 0], []⟩ 8 (by kernel_rfl) (by kernel_rfl) (by kernel_rfl) (by kernel_rfl)) ?_
  intro W base args ds gs before hval0 hW hcnd _
  have hW' := hW
  obtain ⟨p, q, hA, hV, rfl, hfz, hnd⟩ := hW
  obtain ⟨rfl, rfl⟩ := trodVars_none hV
  obtain ⟨y, hs, hok⟩ := open_args Ts (by kernel_rfl) hA (fun j t v h1 h2 => hval0 j t v (by simpa using h1) (by simpa using h2))
  obtain ⟨d1, rfl⟩ := len_one (trod_len hA)
  refine (law_run (law y hok) W (vs := args.toList) (satA_conv (A := A) (lawP y) hs)).mono fun e W' ⟨he, hb⟩ => ?_
  subst he
  exact ⟨_, rfl, row_close laid (by kernel_rfl) (by kernel_rfl) Try.underlying4 rfl hW' hb rfl⟩
theorem holds : Rows.ShrinkMinsSaid :=
  OpenClaim.holds_of_wide_leaving 9 Try.f9 rfl rfl rfl rfl rfl rfl rfl ⟨rfl, rfl, rfl, rfl, rfl⟩ rfl rfl rfl rfl rfl (by kernel_rfl) Try.func9 (by kernel_rfl)
    (of_decide_eq_true (by kernel_rfl)) (by unfold Func.isWrapper; first | (rw [if_pos (by decide +kernel)]; kernel_rfl) | (rw [if_neg (by decide +kernel)]; exact ⟨rfl, rfl⟩))
    (fun os started H enc _ enter => ReturnsInOpen.mono (fun _ _ _ x => ⟨x.2.1, onlyLeaving_of_quiet x.1, x.2.2⟩) (fun _ x => x) (lifted os started H enc enter))
#print axioms holds
end Go.Proofs.Ytjipnjimopekjaa.ShrinkMins
