/- THE LAW 'SwapSwaps' HANDS BACK TRUE, AND WHAT IT READS STANDS AS IT DID: FOR EVERY START. Conditions: none. -/
import Derived.Test.YtohbjnpafpcbkaaSwapS
import Derived.Test.YtohbjnpafpcbkaaEqs
import Derived.WalkKit
import Derived.ProofKit
import Derived.OpenShut
set_option linter.unusedSimpArgs false
set_option linter.unusedVariables false
set_option maxRecDepth 100000
open Go Go.Sx Go.Proofs Go.ChangeShapes Go.WideShapes Go.ChangeAt Go.RowKit
namespace Go.Proofs.Ytohbjnpafpcbkaa.SwapSwaps
open Go.Proofs.Ytohbjnpafpcbkaa.D Go.Proofs.Ytohbjnpafpcbkaa.Tr Go.Proofs.Ytohbjnpafpcbkaa.Sw Go.Proofs.Ytohbjnpafpcbkaa.Cp Go.Proofs.Ytohbjnpafpcbkaa.Eqs

def j12 : JC :=
  (.seq (.ops <|
  qo 4 (.mv (B false)) <|
  .nil)
  (.seq (.ops <|
  qo 12 (.mv (.t 0)) <|
  qo 13 (.mv (.t 1)) <|
  eo 14 (.call 21 [(.t 12), (.t 13)]) <|
  qo 11 (.mv (.t 14)) <|
  qo 15 (.ext 0 (.t 11)) <|
  qo 16 (.ext 1 (.t 11)) <|
  qo 5 (.mv (.t 15)) <|
  qo 6 (.mv (.t 16)) <|
  .nil)
  (.seq (.ops <|
  .prune [0, 6, 5, 1] <|
  qo 17 (.mv (.t 0)) <|
  eo 18 (.call 16 [(.t 17)]) <|
  qo 7 (.mv (.t 18)) <|
  .nil)
  (.prune [7, 6, 5, 0, 1] (.seq (.block 0 (.seq (.ops <|
  qo 20 (.mv (.t 7)) <|
  qo 21 (.cmp .neq (.t 20) (I 0)) <|
  qo 19 (.mv (.t 21)) <|
  .nil)
  (.cond (.t 19)
  .skip
  (.seq (.ops <|
  .prune [1, 0, 6, 5, 7] <|
  qo 23 (.mv (.t 1)) <|
  qo 24 (.cmp .lss (.t 23) (I 0)) <|
  qo 25 (.mv (.t 24)) <|
  .sc true 31 25 (qo 26 (.mv (.t 1)) <|
  qo 27 (.mv (.t 0)) <|
  qo 28 (.len (.t 27)) <|
  qo 29 (.ar .sub (.t 28) (I 2)) <|
  qo 30 (.cmp .gtr (.t 26) (.t 29)) <|
  .nil) (.t 30) <|
  qo 22 (.mv (.t 31)) <|
  .nil)
  (.prune [22, 6, 5, 0, 1, 7] (.cond (.t 22)
  (.ops <|
  qo 7 (.mv (I 1)) <|
  .nil)
  (.seq (.dops <|
  qo 33 (.mv (.t 0)) <|
  qo 34 (.mv (.t 1)) <|
  qo 35 (.is 3 (.t 33) (.t 34)) <|
  .prune [35, 0, 1, 6, 5, 7] <|
  eo 36 (.load 3 true (.t 35)) <|
  qo 37 (.mv (.t 0)) <|
  qo 38 (.mv (.t 1)) <|
  qo 39 (.ar .add (.t 38) (I 1)) <|
  qo 40 (.is 3 (.t 37) (.t 39)) <|
  .prune [40, 36, 6, 5, 0, 1, 7] <|
  eo 41 (.load 3 true (.t 40)) <|
  eo 42 (.qcall 47 [(.t 36), (.t 41)]) <|
  qo 43 (.nt (.t 42)) <|
  qo 32 (.mv (.t 43)) <|
  .nil)
  (.prune [32, 6, 5, 0, 1, 7] (.cond (.t 32)
  (.ops <|
  qo 7 (.mv (I 5)) <|
  .nil)
  .skip)))))))))
  (.prune [7, 6, 5, 0, 1] (.seq (.ops <|
  eo 45 (.call 18 []) <|
  eo 46 (.call 21 [(.t 45), (I 0)]) <|
  qo 44 (.mv (.t 46)) <|
  qo 47 (.ext 0 (.t 44)) <|
  qo 48 (.ext 1 (.t 44)) <|
  qo 8 (.mv (.t 47)) <|
  qo 9 (.mv (.t 48)) <|
  .nil)
  (.prune [7, 6, 5, 9, 0, 1] (.seq (.seq (.ops <|
  qo 49 (.mv (.t 7)) <|
  qo 50 (.cmp .neq (.t 49) (I 0)) <|
  qo 51 (.mv (.t 50)) <|
  .sc true 54 51 (qo 52 (.mv (.t 6)) <|
  qo 53 (.cmp .neq (.t 52) (I 0)) <|
  .nil) (.t 53) <|
  .nil)
  (.prune [54, 5, 6, 7, 9, 0, 1] (.cond (.t 54)
  (.seq (.ops <|
  .prune [5, 6, 7, 9] <|
  qo 55 (.mv (.t 5)) <|
  qo 56 (.len (.t 55)) <|
  qo 57 (.cmp .eql (.t 56) (I 0)) <|
  .prune [57, 6, 7, 9] <|
  qo 58 (.mv (.t 57)) <|
  .sc false 62 58 (qo 59 (.mv (.t 6)) <|
  qo 60 (.mv (.t 7)) <|
  qo 61 (.cmp .eql (.t 59) (.t 60)) <|
  .nil) (.t 61) <|
  qo 63 (.mv (.t 62)) <|
  .prune [63, 9] <|
  .sc false 66 63 (qo 64 (.mv (.t 9)) <|
  qo 65 (.cmp .eql (.t 64) (I 1)) <|
  .nil) (.t 65) <|
  qo 67 (.mv (.t 66)) <|
  .sc false 71 67 (qo 68 (.bld (.agg [(.int .i64 0), (.int .i64 0), (.int .i64 0)]) [([.fld 0], 0, 1, (I 1))]) <|
  qo 69 (.bld (.agg [(.int .i64 0), (.int .i64 0), (.int .i64 0)]) [([.fld 0], 0, 1, (I 1)), ([.fld 1], 1, 1, (I 1))]) <|
  eo 70 (.call 48 [(.t 68), (.t 69)]) <|
  .nil) (.t 70) <|
  qo 4 (.mv (.t 71)) <|
  .nil)
  .ret)
  .skip)))
  (.prune [0, 1, 5] (.seq (.ops <|
  qo 72 (.mv (.t 0)) <|
  eo 73 (.call 49 [(.t 72)]) <|
  qo 10 (.mv (.t 73)) <|
  .nil)
  (.seq (.dops <|
  qo 74 (.mv (.t 10)) <|
  qo 75 (.mv (.t 1)) <|
  qo 76 (.mv (.t 10)) <|
  qo 77 (.mv (.t 1)) <|
  qo 78 (.ar .add (.t 77) (I 1)) <|
  .prune [0, 1, 74, 75, 76, 78, 5, 10] <|
  qo 79 (.mv (.t 0)) <|
  qo 80 (.mv (.t 1)) <|
  qo 81 (.ar .add (.t 80) (I 1)) <|
  qo 82 (.is 3 (.t 79) (.t 81)) <|
  .prune [82, 0, 1, 74, 75, 76, 78, 5, 10] <|
  eo 83 (.load 3 true (.t 82)) <|
  qo 84 (.mv (.t 0)) <|
  qo 85 (.mv (.t 1)) <|
  .prune [84, 85, 74, 75, 83, 76, 78, 5, 10] <|
  qo 86 (.is 3 (.t 84) (.t 85)) <|
  eo 87 (.load 3 true (.t 86)) <|
  .prune [74, 75, 83, 76, 78, 87, 5, 10] <|
  qo 88 (.is 3 (.t 74) (.t 75)) <|
  en (.store 3 (.t 88) (.t 83)) <|
  qo 89 (.is 3 (.t 76) (.t 78)) <|
  en (.store 3 (.t 89) (.t 87)) <|
  .nil)
  (.prune [5, 10] (.seq (.ops <|
  qo 90 (.mv (.t 5)) <|
  qo 91 (.mv (.t 10)) <|
  eo 92 (.call 37 [(.t 90), (.t 91)]) <|
  qo 4 (.mv (.t 92)) <|
  .nil)
  .ret))))))))))))))
theorem c12 : fnIs Try.prog qall 12 = some (j12.flat, [.tmp 4], 93) := by kernel_rfl
theorem w12 : j12.wf 93 = true := by kernel_rfl
def G (f : FuncId) (a : List SV) (m : List Res) : Sx.Call := (FH.mk 21 (.two dEs .int) (fun _ => True) (fun y => .tup [.vec 0 (swapF y.1 y.2.1).1.length, .int .i64 (swapF y.1 y.2.1).2]) (fun y => [.vec 54 3 ((swapF y.1 y.2.1).1.map dEv.emb)]) <|
  FH.rd 16 (.one dEs) (.one .int) (fun _ => True) (fun y => (checkR y.1).2) <|
  FH.rd 47 (.two dEv dEv) (.one .bool) (fun _ => True) (fun y => apartR y.1 y.2.1) <| FH.rd 48 (.two dEv dEv) (.one .bool) (fun _ => True) (fun y => apartB y.1 y.2.1) <|
  FH.mk 18 .nil (fun _ => True) (fun _ => .vec 0 1) (fun _ => [.vec 54 3 ([badE].map dEv.emb)]) <|
  FH.mk 49 (.one dEs) (fun y => y.1.length ≤ 1000000) (fun y => .vec 0 y.1.length) (fun y => [.vec 54 3 (y.1.map dEv.emb)]) <|
  FH.rd 37 (.two dEs dEs) (.one .bool) (fun _ => True) (fun y => eqBy ef_EqEvent y.1 y.2.1) FH.none) f a m
theorem G_eq (f : FuncId) (a : List SV) (m : List Res) : G f a m = (FH.mk 21 (.two dEs .int) (fun _ => True) (fun y => .tup [.vec 0 (swapF y.1 y.2.1).1.length, .int .i64 (swapF y.1 y.2.1).2]) (fun y => [.vec 54 3 ((swapF y.1 y.2.1).1.map dEv.emb)]) <|
  FH.rd 16 (.one dEs) (.one .int) (fun _ => True) (fun y => (checkR y.1).2) <|
  FH.rd 47 (.two dEv dEv) (.one .bool) (fun _ => True) (fun y => apartR y.1 y.2.1) <| FH.rd 48 (.two dEv dEv) (.one .bool) (fun _ => True) (fun y => apartB y.1 y.2.1) <|
  FH.mk 18 .nil (fun _ => True) (fun _ => .vec 0 1) (fun _ => [.vec 54 3 ([badE].map dEv.emb)]) <|
  FH.mk 49 (.one dEs) (fun y => y.1.length ≤ 1000000) (fun y => .vec 0 y.1.length) (fun y => [.vec 54 3 (y.1.map dEv.emb)]) <|
  FH.rd 37 (.two dEs dEs) (.one .bool) (fun _ => True) (fun y => eqBy ef_EqEvent y.1 y.2.1) FH.none) f a m := nr rfl
theorem G_ok : FHOK Try.prog G := FH.mk_ok (by kernel_rfl) (fun y _ => plainM (pv_tup ⟨plV_vec _ _, plV_int _ _, trivial⟩) ⟨plR_vec _ _ dEv _, trivial⟩) (fun y _ => f_Swap y.1 y.2.1) <|
  FH.rd_ok (by kernel_rfl) (fun y _ => f_May y.1) <| FH.rd_ok (by kernel_rfl) (fun y _ => f_RApart y.1 y.2.1) <| FH.rd_ok (by kernel_rfl) (fun y _ => f_Apart y.1 y.2.1) <|
  FH.mk_ok (by kernel_rfl) (fun _ _ => plainM (pv_vec _ _) ⟨plR_vec _ _ dEv [badE], trivial⟩) (fun _ _ => f_wrong) <|
  FH.mk_ok (by kernel_rfl) (fun y _ => plainM (pv_vec _ _) ⟨plR_vec _ _ dEv _, trivial⟩) (fun y h => f_CopyEv y.1 h) <| FH.rd_ok (by kernel_rfl) (fun y _ => f_EqEvent y.1 y.2.1) FH.none_ok
theorem swap_bad : swapF [badE] 0 = ([], 1) := by decide
theorem apart_is : apartB ⟨1, 0, 0⟩ ⟨1, 1, 0⟩ = true := by decide
theorem f_law (l : List Ev) (i : Int) : FnOK Try.prog 12 [dEs.emb l, .int .i64 i] [] (.bool true) [] := by
  refine fn_walkF c12 w12 G_ok rfl ?_
  unfold j12
  by_cases h0 : (checkR l).2 = 0
  · have hl := ok_len h0
    have hp0 : (playedF l).2.2 = 0 := by rw [err_same]; exact h0
    have hw : IntKind.i64.wrap ((l.length : Int) - 2) = (l.length : Int) - 2 := IntWalk.i64_in _ (by omega)
    by_cases h1 : 0 ≤ i ∧ i < (l.length : Int) - 1
    · obtain ⟨n, rfl⟩ : ∃ n : Nat, i = n := ⟨i.toNat, by omega⟩
      have h2 : ¬ (n : Int) < 0 := by omega
      have h3 : ¬ (l.length : Int) - 2 < (n : Int) := by omega
      have h4 : IntKind.i64.wrap ((n : Int) + 1) = ((n + 1 : Nat) : Int) := IntWalk.i64_in _ (by omega)
      have g1 : n < l.length := by omega
      have g2 : n + 1 < l.length := by omega
      have i1 : (n : Int) < l.length := by omega
      have i2 : ((n + 1 : Nat) : Int) < l.length := by omega
      have e1 : swapF l n = if apartB (l.getD n dEv.dft) (l.getD (n + 1) dEv.dft) = false then ([], 5) else (swapL l n, 0) := by
        rw [swapF, if_neg (by simp [hp0]), if_neg (by omega), Int.toNat_natCast]
      have ea := apart_eq (l.getD n dEv.dft) (l.getD (n + 1) dEv.dft)
      cases hb : apartB (l.getD n dEv.dft) (l.getD (n + 1) dEv.dft) with
      | false =>
        rw [hb] at ea
        rw [if_pos hb] at e1
        simp only [go_sem, ↓reduceIte, Nat.reduceAdd, Nat.reduceMul, Nat.reduceSub, Nat.reduceLT, Nat.reduceLeDiff, Nat.reduceEqDiff, Int.reduceToNat, Int.reduceEq, Int.reduceLT, Int.reduceLE, reduceCtorEq, G_eq, h0, hw, h1, h2, h3, h4, g1, g2, i1, i2, ea.symm, e1, swap_bad, apart_is]
        omega
      | true =>
        rw [hb] at ea
        rw [if_neg (by rw [hb]; simp)] at e1
        simp only [go_sem, ↓reduceIte, Nat.reduceAdd, Nat.reduceMul, Nat.reduceSub, Nat.reduceLT, Nat.reduceLeDiff, Nat.reduceEqDiff, Int.reduceToNat, Int.reduceEq, Int.reduceLT, Int.reduceLE, reduceCtorEq, G_eq, h0, hw, h1, h2, h3, h4, g1, g2, i1, i2, ea.symm, e1, swap_bad, apart_is, ev_set, ev_getD, ev_eta, List.length_set]
        exact ⟨by omega, by omega, by omega, by omega, eqBy_refl (by simp [ef_EqEvent]) _⟩
    · have hc : i < 0 ∨ (l.length : Int) - 1 ≤ i := by omega
      have e1 : swapF l i = ([], 1) := by rw [swapF, if_neg (by simp [hp0]), if_pos hc]
      have hb : (decide (i < 0) || decide ((l.length : Int) - 2 < i)) = true := by simp only [Bool.or_eq_true, decide_eq_true_eq]; omega
      simp only [go_sem, ↓reduceIte, Nat.reduceAdd, Nat.reduceMul, Nat.reduceSub, Nat.reduceLT, Nat.reduceLeDiff, Nat.reduceEqDiff, Int.reduceToNat, Int.reduceEq, Int.reduceLT, Int.reduceLE, reduceCtorEq, G_eq, h0, hw, hb, e1, swap_bad, apart_is]
  · have e1 : swapF l i = ([], (checkR l).2) := by rw [swapF, if_pos (by rw [err_same]; exact h0), err_same]
    simp only [go_sem, ↓reduceIte, Nat.reduceAdd, Nat.reduceMul, Nat.reduceSub, Nat.reduceLT, Nat.reduceLeDiff, Nat.reduceEqDiff, Int.reduceToNat, Int.reduceEq, Int.reduceLT, Int.reduceLE, reduceCtorEq, G_eq, h0, e1, swap_bad, apart_is]
abbrev A : DA (List Ev × Int × Unit) := .two dEs .int
abbrev Ts : List TT := [.sl 3 (.st [.int .i64, .int .i64, .int .i64]), .int .i64]
theorem lawP (y : DenL Ts) : A.decP [] (embL Ts y) := ⟨⟨rfl, fun _ _ => ⟨rfl, rfl, rfl, trivial⟩⟩, rfl, trivial⟩
theorem law (y : DenL Ts) (_ : okDL Ts y) : FnOK Try.prog 12 (A.emb (A.decV [] (embL Ts y))) [] (.bool true) [] := f_law _ _
theorem own : ownKnob Try.prog.godebug = none := by kernel_rfl
theorem laid : laidOutB Try.prog = true := by kernel_rfl
theorem lifted (os : Os) (started : os.Started) (H : Type) (enc : TypeId × Value → H) :
    ReturnsInHanded {} Try.checked os 12 .any (Rows.swapSwapsSpec.pre6 enc Try.prog Try.f12 Rows.swapSwapsRow.domain false) (Rows.swapSwapsSpec.post enc Try.prog Try.f12 false true false false) := by
  refine returnsInHanded_of_change (C := Try.checked) own started (by kernel_rfl) Try.func12
    (ChangeSpec.witness6 (enc := enc) (C := Try.checked) false ⟨#[], #[.slice none 0 0, .int .i64 0], []⟩ 8 (by kernel_rfl) (by kernel_rfl) (by kernel_rfl) (by kernel_rfl)) ?_
  intro W base args ds gs before hval0 hW hcnd _
  have hW' := hW
  obtain ⟨p, q, hA, hV, rfl, hfz, hnd⟩ := hW
  obtain ⟨rfl, rfl⟩ := trodVars_none hV
  obtain ⟨y, hs, hok⟩ := open_args Ts (by kernel_rfl) hA (fun j t v h1 h2 => hval0 j t v (by simpa using h1) (by simpa using h2))
  obtain ⟨d1, d2, rfl⟩ := len_two (trod_len hA)
  refine (law_run (law y hok) W (vs := args.toList) (satA_conv (A := A) (lawP y) hs)).mono fun e W' ⟨he, hb⟩ => ?_
  subst he
  exact ⟨_, rfl, row_close laid (by kernel_rfl) (by kernel_rfl) Try.underlying4 rfl hW' hb rfl⟩
theorem holds : Rows.SwapSwapsSaid :=
  OpenClaim.holds_of_wide 12 Try.f12 rfl rfl rfl rfl rfl rfl rfl ⟨rfl, rfl, rfl, rfl, rfl⟩ rfl rfl rfl rfl rfl (by kernel_rfl) Try.func12 (by kernel_rfl)
    (of_decide_eq_true (by kernel_rfl)) (by unfold Func.isWrapper; first | (rw [if_pos (by decide +kernel)]; kernel_rfl) | (rw [if_neg (by decide +kernel)]; exact ⟨rfl, rfl⟩))
    (fun os started H enc _ => lifted os started H enc)
#print axioms holds
end Go.Proofs.Ytohbjnpafpcbkaa.SwapSwaps
