/- THE LAW 'FullLast' HANDS BACK TRUE, AND WHAT IT READS STANDS AS IT DID: FOR EVERY START. Conditions: none. -/
import Derived.Test.YtafcmgfmmlnngaaFullQ
import Derived.WalkKit
import Derived.ProofKit
import Derived.OpenShut
set_option linter.unusedSimpArgs false
set_option linter.unusedVariables false
set_option maxRecDepth 100000
open Go Go.Sx Go.Proofs Go.ChangeShapes Go.WideShapes Go.ChangeAt Go.RowKit
namespace Go.Proofs.Ytafcmgfmmlnngaa.FullLast
open Go.Proofs.Ytafcmgfmmlnngaa.D Go.Proofs.Ytafcmgfmmlnngaa.Tr Go.Proofs.Ytafcmgfmmlnngaa.Fu

def j11 : JC :=
  (.seq (.ops <|
  qo 4 (.mv (B false)) <|
  .nil)
  (.seq (.ops <|
  qo 15 (.mv (.t 0)) <|
  qo 16 (.mv (.t 1)) <|
  eo 17 (.call 34 [(.t 15), (.t 16)]) <|
  qo 14 (.mv (.t 17)) <|
  qo 18 (.ext 0 (.t 14)) <|
  qo 19 (.ext 1 (.t 14)) <|
  qo 20 (.ext 2 (.t 14)) <|
  .prune [18, 19, 20, 0, 1] <|
  eo 5 (.alloc 64 (.arr 6 1 fun _ => (.int .i64 0))) <|
  eo 6 (.alloc 64 (.arr 6 1 fun _ => (.int .i64 0))) <|
  en (.store 6 (.t 5) (.t 18)) <|
  en (.store 6 (.t 6) (.t 19)) <|
  qo 7 (.mv (.t 20)) <|
  .nil)
  (.prune [0, 1, 7, 5, 6] (.seq (.ops <|
  qo 21 (.mv (.t 0)) <|
  eo 22 (.call 21 [(.t 21)]) <|
  qo 8 (.mv (.t 22)) <|
  .nil)
  (.seq (.seq (.ops <|
  qo 23 (.mv (.t 8)) <|
  qo 24 (.cmp .eql (.t 23) (I 0)) <|
  .prune [24, 1, 7, 5, 6, 0, 8] <|
  qo 25 (.mv (.t 24)) <|
  .sc false 32 25 (qo 26 (.mv (.t 1)) <|
  qo 27 (.cmp .lss (.t 26) (I 0)) <|
  qo 28 (.mv (.t 27)) <|
  .sc true 31 28 (qo 29 (.mv (.t 1)) <|
  qo 30 (.cmp .gtr (.t 29) (I 7)) <|
  .nil) (.t 30) <|
  .nil) (.t 31) <|
  .nil)
  (.prune [32, 7, 5, 6, 0, 1, 8] (.cond (.t 32)
  (.ops <|
  qo 8 (.mv (I 1)) <|
  .nil)
  .skip)))
  (.prune [8, 7, 5, 6, 0, 1] (.seq (.ops <|
  eo 34 (.call 20 []) <|
  eo 35 (.call 29 [(.t 34)]) <|
  qo 33 (.mv (.t 35)) <|
  qo 36 (.ext 0 (.t 33)) <|
  qo 37 (.ext 1 (.t 33)) <|
  qo 9 (.mv (.t 36)) <|
  qo 10 (.mv (.t 37)) <|
  .nil)
  (.prune [8, 7, 5, 6, 10, 0, 1] (.seq (.seq (.ops <|
  qo 38 (.mv (.t 8)) <|
  qo 39 (.cmp .neq (.t 38) (I 0)) <|
  qo 40 (.mv (.t 39)) <|
  .sc true 43 40 (qo 41 (.mv (.t 7)) <|
  qo 42 (.cmp .neq (.t 41) (I 0)) <|
  .nil) (.t 42) <|
  .nil)
  (.prune [43, 5, 6, 7, 8, 10, 0, 1] (.cond (.t 43)
  (.seq (.ops <|
  .prune [5, 6, 7, 8, 10] <|
  eo 44 (.load 6 true (.t 5)) <|
  qo 45 (.bld (.arr 6 1 fun _ => (.int .i64 0)) []) <|
  qo 46 (.aeq false (.arr 6 1 (.int .i64)) (.t 44) (.t 45)) <|
  .prune [46, 6, 7, 8, 10] <|
  qo 47 (.mv (.t 46)) <|
  .sc false 51 47 (eo 48 (.load 6 true (.t 6)) <|
  qo 49 (.bld (.arr 6 1 fun _ => (.int .i64 0)) []) <|
  qo 50 (.aeq false (.arr 6 1 (.int .i64)) (.t 48) (.t 49)) <|
  .nil) (.t 50) <|
  .prune [51, 7, 8, 10] <|
  qo 52 (.mv (.t 51)) <|
  .sc false 56 52 (qo 53 (.mv (.t 7)) <|
  qo 54 (.mv (.t 8)) <|
  qo 55 (.cmp .eql (.t 53) (.t 54)) <|
  .nil) (.t 55) <|
  qo 57 (.mv (.t 56)) <|
  .prune [57, 10] <|
  .sc false 60 57 (qo 58 (.mv (.t 10)) <|
  qo 59 (.cmp .eql (.t 58) (I 1)) <|
  .nil) (.t 59) <|
  qo 4 (.mv (.t 60)) <|
  .nil)
  .ret)
  .skip)))
  (.prune [0, 1, 5, 6, 10] (.seq (.ops <|
  qo 62 (.mv (.t 0)) <|
  qo 63 (.mv (.t 1)) <|
  eo 64 (.call 30 [(.t 62), (.t 63)]) <|
  .prune [64, 5, 6, 10] <|
  qo 61 (.mv (.t 64)) <|
  qo 65 (.ext 0 (.t 61)) <|
  qo 66 (.ext 1 (.t 61)) <|
  qo 67 (.ext 2 (.t 61)) <|
  eo 12 (.alloc 64 (.arr 6 1 fun _ => (.int .i64 0))) <|
  eo 13 (.alloc 64 (.arr 6 1 fun _ => (.int .i64 0))) <|
  qo 11 (.mv (.t 65)) <|
  en (.store 6 (.t 12) (.t 66)) <|
  en (.store 6 (.t 13) (.t 67)) <|
  .nil)
  (.prune [5, 12, 6, 13, 10] (.seq (.ops <|
  eo 68 (.load 6 true (.t 5)) <|
  eo 69 (.load 6 true (.t 12)) <|
  qo 70 (.aeq false (.arr 6 1 (.int .i64)) (.t 68) (.t 69)) <|
  .prune [70, 6, 13, 10] <|
  qo 71 (.mv (.t 70)) <|
  .sc false 75 71 (eo 72 (.load 6 true (.t 6)) <|
  eo 73 (.load 6 true (.t 13)) <|
  qo 74 (.aeq false (.arr 6 1 (.int .i64)) (.t 72) (.t 73)) <|
  .nil) (.t 74) <|
  qo 76 (.mv (.t 75)) <|
  .prune [76, 10] <|
  .sc false 79 76 (qo 77 (.mv (.t 10)) <|
  qo 78 (.cmp .eql (.t 77) (I 1)) <|
  .nil) (.t 78) <|
  qo 4 (.mv (.t 79)) <|
  .nil)
  .ret)))))))))))))
theorem c11 : fnIs Try.prog qall 11 = some (j11.flat, [.tmp 4], 80) := by kernel_rfl
theorem w11 : j11.wf 80 = true := by kernel_rfl
def G (f : FuncId) (a : List SV) (m : List Res) : Sx.Call := (FH.mk 29 (.one dEs) (fun _ => True) (fun y => .tup [.vec 0 (runF y.1).length, .int .i64 (playedF y.1).2.2]) (fun y => [.vec 60 3 ((runF y.1).map dFl.emb)]) <|
  FH.rd 34 (.two dEs .int) (.three dClk dClk .int) (fun _ => True) (fun y => ((lastB y.1 y.2.1).1.1, (lastB y.1 y.2.1).1.2, (lastB y.1 y.2.1).2)) <|
  FH.rd 21 (.one dEs) (.one .int) (fun _ => True) (fun y => (checkR y.1).2) <| FH.mk 20 .nil (fun _ => True) (fun _ => .vec 0 1) (fun _ => [.vec 35 3 ([badE].map dEv.emb)]) <|
  FH.mk 30 (.two dEs .int) (fun y => (checkR y.1).2 = 0) (fun y => .tup [.vec 0 (fullL y.1 y.1.length).length, dClk.emb (lastC y.1 1 y.2.1 y.1.length), dClk.emb (lastC y.1 2 y.2.1 y.1.length)]) (fun y => [.vec 60 3 ((fullL y.1 y.1.length).map dFl.emb)]) FH.none) f a m
theorem G_eq (f : FuncId) (a : List SV) (m : List Res) : G f a m = (FH.mk 29 (.one dEs) (fun _ => True) (fun y => .tup [.vec 0 (runF y.1).length, .int .i64 (playedF y.1).2.2]) (fun y => [.vec 60 3 ((runF y.1).map dFl.emb)]) <|
  FH.rd 34 (.two dEs .int) (.three dClk dClk .int) (fun _ => True) (fun y => ((lastB y.1 y.2.1).1.1, (lastB y.1 y.2.1).1.2, (lastB y.1 y.2.1).2)) <|
  FH.rd 21 (.one dEs) (.one .int) (fun _ => True) (fun y => (checkR y.1).2) <| FH.mk 20 .nil (fun _ => True) (fun _ => .vec 0 1) (fun _ => [.vec 35 3 ([badE].map dEv.emb)]) <|
  FH.mk 30 (.two dEs .int) (fun y => (checkR y.1).2 = 0) (fun y => .tup [.vec 0 (fullL y.1 y.1.length).length, dClk.emb (lastC y.1 1 y.2.1 y.1.length), dClk.emb (lastC y.1 2 y.2.1 y.1.length)]) (fun y => [.vec 60 3 ((fullL y.1 y.1.length).map dFl.emb)]) FH.none) f a m := nr rfl
theorem G_ok : FHOK Try.prog G := FH.mk_ok (by kernel_rfl) (fun y _ => plainM (pv_tup ⟨plV_vec _ _, plV_int _ _, trivial⟩) ⟨plR_vec _ _ dFl _, trivial⟩) (fun y _ => f_Run y.1) <|
  FH.rd_ok (by kernel_rfl) (fun y _ => f_Last y.1 y.2.1) <|
  FH.rd_ok (by kernel_rfl) (fun y _ => f_May y.1) <| FH.mk_ok (by kernel_rfl) (fun _ _ => plainM (pv_vec _ _) ⟨plR_vec _ _ dEv [badE], trivial⟩) (fun _ _ => f_wrong) <|
  FH.mk_ok (by kernel_rfl) (fun y _ => plainM (pv_tup ⟨plV_vec _ _, plV_emb dClk _, plV_emb dClk _, trivial⟩) ⟨plR_vec _ _ dFl _, trivial⟩) (fun y h => f_RFull y.1 y.2.1 h) FH.none_ok
theorem bad_is : (playedF [badE]).2.2 = 1 := by decide
theorem f_law (l : List Ev) (x : Int) : FnOK Try.prog 11 [dEs.emb l, .int .i64 x] [] (.bool true) [] := by
  refine fn_walkF c11 w11 G_ok rfl ?_
  unfold j11
  by_cases h0 : (checkR l).2 = 0
  · have hp : (playedF l).2.2 = 0 := by rw [err_same]; exact h0
    by_cases h1 : x < 0 ∨ 8 ≤ x
    · have h1' : (decide (x < 0) || decide (7 < x)) = true := by simp only [Bool.or_eq_true, decide_eq_true_eq]; omega
      have hk : lastB l x = ((fun _ => 0, fun _ => 0), 1) := by rw [lastB, if_neg (by simp [hp]), if_pos h1]
      simp only [go_sem, ↓reduceIte, Nat.reduceAdd, Nat.reduceMul, Nat.reduceSub, Nat.reduceLT, Nat.reduceLeDiff, Nat.reduceEqDiff, Int.reduceToNat, Int.reduceEq, Int.reduceLT, Int.reduceLE, reduceCtorEq, G_eq, bad_is, h0, h1', hk, Fu.tszC]
      rfl
    · have h1' : (decide (x < 0) || decide (7 < x)) = false := by simp only [Bool.or_eq_false_iff, decide_eq_false_iff_not]; omega
      obtain ⟨n, rfl⟩ : ∃ n : Nat, x = n := ⟨x.toNat, by omega⟩
      have hk : lastB l n = (((runV l l.length).rd n, (runV l l.length).wr n), 0) := by rw [lastB, if_neg (by simp [hp]), if_neg h1, Int.toNat_natCast]
      have hv := fun u => runV_eq h0 (Nat.le_refl _) n u
      simp only [go_sem, ↓reduceIte, Nat.reduceAdd, Nat.reduceMul, Nat.reduceSub, Nat.reduceLT, Nat.reduceLeDiff, Nat.reduceEqDiff, Int.reduceToNat, Int.reduceEq, Int.reduceLT, Int.reduceLE, reduceCtorEq, G_eq, bad_is, h0, h1', hk, Fu.tszC, fun u => (hv u).1, fun u => (hv u).2]
      rfl
  · have hp : ¬ (playedF l).2.2 = 0 := by rw [err_same]; exact h0
    have hk : lastB l x = ((fun _ => 0, fun _ => 0), (checkR l).2) := by rw [lastB, if_pos hp, err_same]
    simp only [go_sem, ↓reduceIte, Nat.reduceAdd, Nat.reduceMul, Nat.reduceSub, Nat.reduceLT, Nat.reduceLeDiff, Nat.reduceEqDiff, Int.reduceToNat, Int.reduceEq, Int.reduceLT, Int.reduceLE, reduceCtorEq, G_eq, bad_is, h0, hk, Fu.tszC]
    rfl
abbrev A : DA (List Ev × Int × Unit) := .two dEs .int
abbrev Ts : List TT := [.sl 3 (.st [.int .i64, .int .i64, .int .i64]), .int .i64]
theorem lawP (y : DenL Ts) : A.decP [] (embL Ts y) := ⟨⟨rfl, fun _ _ => ⟨rfl, rfl, rfl, trivial⟩⟩, rfl, trivial⟩
theorem law (y : DenL Ts) (_ : okDL Ts y) : FnOK Try.prog 11 (A.emb (A.decV [] (embL Ts y))) [] (.bool true) [] := f_law _ _
theorem own : ownKnob Try.prog.godebug = none := by kernel_rfl
theorem laid : laidOutB Try.prog = true := by kernel_rfl
theorem lifted (os : Os) (started : os.Started) (H : Type) (enc : TypeId × Value → H) :
    ReturnsInHanded {} Try.checked os 11 .any (Rows.fullLastSpec.pre6 enc Try.prog Try.f11 Rows.fullLastRow.domain false) (Rows.fullLastSpec.post enc Try.prog Try.f11 false true false false) := by
  refine returnsInHanded_of_change (C := Try.checked) own started (by kernel_rfl) Try.func11
    (ChangeSpec.witness6 (enc := enc) (C := Try.checked) false ⟨#[], #[.slice none 0 0, .int .i64 0], []⟩ 8 (by kernel_rfl) (by kernel_rfl) (by kernel_rfl) (by kernel_rfl)) ?_
  intro W base args ds gs before hval0 hW hcnd _
  have hW' := hW
  obtain ⟨p, q, hA, hV, rfl, hfz, hnd⟩ := hW
  obtain ⟨rfl, rfl⟩ := trodVars_none hV
  obtain ⟨y, hs, hok⟩ := open_args Ts (by kernel_rfl) hA (fun j t v h1 h2 => hval0 j t v (by simpa using h1) (by simpa using h2))
  obtain ⟨d1, d2, rfl⟩ := len_two (trod_len hA)
  refine (law_run (law y hok) W (vs := args.toList) (satA_conv (A := A) (lawP y) hs)).mono fun e W' ⟨he, hb⟩ => ?_
  subst he
  exact ⟨_, rfl, row_close laid (by kernel_rfl) (by kernel_rfl) Try.underlying4 rfl hW' hb rfl⟩
theorem holds : Rows.FullLastSaid :=
  OpenClaim.holds_of_wide 11 Try.f11 rfl rfl rfl rfl rfl rfl rfl ⟨rfl, rfl, rfl, rfl, rfl⟩ rfl rfl rfl rfl rfl (by kernel_rfl) Try.func11 (by kernel_rfl)
    (of_decide_eq_true (by kernel_rfl)) (by unfold Func.isWrapper; first | (rw [if_pos (by decide +kernel)]; kernel_rfl) | (rw [if_neg (by decide +kernel)]; exact ⟨rfl, rfl⟩))
    (fun os started H enc _ => lifted os started H enc)
#print axioms holds
end Go.Proofs.Ytafcmgfmmlnngaa.FullLast
