/- THE LAW 'SwapSames' HANDS BACK TRUE, AND WHAT IT READS STANDS AS IT DID: FOR EVERY START. Conditions: none. -/
import Derived.Test.YtafcmgfmmlnngaaSwapN
import Derived.WalkKit
import Derived.ProofKit
import Derived.OpenShut
set_option linter.unusedSimpArgs false
set_option linter.unusedVariables false
set_option maxRecDepth 100000
open Go Go.Sx Go.Proofs Go.ChangeShapes Go.WideShapes Go.ChangeAt Go.RowKit
namespace Go.Proofs.Ytafcmgfmmlnngaa.SwapSames
open Go.Proofs.Ytafcmgfmmlnngaa.D Go.Proofs.Ytafcmgfmmlnngaa.Tr Go.Proofs.Ytafcmgfmmlnngaa.Eqs Go.Proofs.Ytafcmgfmmlnngaa.Sw

def j12 : JC :=
  (.seq (.ops <|
  qo 4 (.mv (B false)) <|
  .nil)
  (.seq (.ops <|
  qo 11 (.mv (.t 0)) <|
  qo 12 (.mv (.t 1)) <|
  eo 13 (.call 35 [(.t 11), (.t 12)]) <|
  qo 10 (.mv (.t 13)) <|
  qo 14 (.ext 0 (.t 10)) <|
  qo 15 (.ext 1 (.t 10)) <|
  qo 5 (.mv (.t 14)) <|
  qo 6 (.mv (.t 15)) <|
  .nil)
  (.seq (.ops <|
  .prune [0, 1, 6, 5] <|
  qo 16 (.mv (.t 0)) <|
  eo 17 (.call 21 [(.t 16)]) <|
  qo 7 (.mv (.t 17)) <|
  .nil)
  (.prune [7, 1, 6, 5, 0] (.seq (.seq (.ops <|
  qo 18 (.mv (.t 7)) <|
  qo 19 (.cmp .eql (.t 18) (I 0)) <|
  .nil)
  (.cond (.t 19)
  (.ops <|
  .prune [1, 6, 5, 0] <|
  qo 20 (.mv (.t 1)) <|
  eo 21 (.call 21 [(.t 20)]) <|
  qo 7 (.mv (.t 21)) <|
  .nil)
  .skip))
  (.prune [7, 6, 5, 0, 1] (.seq (.ops <|
  eo 23 (.call 35 [(.c .nils), (.c .nils)]) <|
  qo 22 (.mv (.t 23)) <|
  qo 24 (.ext 0 (.t 22)) <|
  qo 25 (.ext 1 (.t 22)) <|
  qo 8 (.mv (.t 24)) <|
  qo 9 (.mv (.t 25)) <|
  .nil)
  (.prune [7, 6, 5, 8, 9, 0, 1] (.seq (.seq (.ops <|
  qo 26 (.mv (.t 7)) <|
  qo 27 (.cmp .neq (.t 26) (I 0)) <|
  qo 28 (.mv (.t 27)) <|
  .sc true 31 28 (qo 29 (.mv (.t 6)) <|
  qo 30 (.cmp .neq (.t 29) (I 0)) <|
  .nil) (.t 30) <|
  .nil)
  (.prune [31, 5, 6, 7, 8, 9, 0, 1] (.cond (.t 31)
  (.seq (.ops <|
  .prune [5, 6, 7, 8, 9] <|
  qo 32 (.mv (.t 5)) <|
  qo 33 (.nt (.t 32)) <|
  qo 34 (.mv (.t 33)) <|
  .prune [34, 6, 7, 8, 9] <|
  .sc false 38 34 (qo 35 (.mv (.t 6)) <|
  qo 36 (.mv (.t 7)) <|
  qo 37 (.cmp .eql (.t 35) (.t 36)) <|
  .nil) (.t 37) <|
  qo 39 (.mv (.t 38)) <|
  .prune [39, 8, 9] <|
  .sc false 41 39 (qo 40 (.mv (.t 8)) <|
  .nil) (.t 40) <|
  qo 42 (.mv (.t 41)) <|
  .sc false 45 42 (qo 43 (.mv (.t 9)) <|
  qo 44 (.cmp .eql (.t 43) (I 0)) <|
  .nil) (.t 44) <|
  qo 4 (.mv (.t 45)) <|
  .nil)
  .ret)
  .skip)))
  (.prune [5, 0, 1, 8, 9] (.seq (.ops <|
  qo 46 (.mv (.t 5)) <|
  qo 47 (.mv (.t 0)) <|
  eo 48 (.call 33 [(.t 47)]) <|
  .prune [1, 48, 46, 8, 9] <|
  qo 49 (.mv (.t 1)) <|
  eo 50 (.call 33 [(.t 49)]) <|
  eo 51 (.call 17 [(.t 48), (.t 50)]) <|
  .prune [46, 51, 8, 9] <|
  qo 52 (.beq false (.t 46) (.t 51)) <|
  qo 53 (.mv (.t 52)) <|
  .sc false 55 53 (qo 54 (.mv (.t 8)) <|
  .nil) (.t 54) <|
  .prune [55, 9] <|
  qo 56 (.mv (.t 55)) <|
  .sc false 59 56 (qo 57 (.mv (.t 9)) <|
  qo 58 (.cmp .eql (.t 57) (I 0)) <|
  .nil) (.t 58) <|
  qo 4 (.mv (.t 59)) <|
  .nil)
  .ret)))))))))))
theorem c12 : fnIs Try.prog qall 12 = some (j12.flat, [.tmp 4], 60) := by kernel_rfl
theorem w12 : j12.wf 60 = true := by kernel_rfl
def G (f : FuncId) (a : List SV) (m : List Res) : Sx.Call := (FH.rd 35 (.two dOE dOE) (.two .bool .int) (fun _ => True) (fun y => alikeF y.1 y.2.1) <|
  FH.rd 21 (.one dEs) (.one .int) (fun _ => True) (fun y => (checkR y.1).2) <|
  FH.pz 33 (.one dEs) (DP.one dEs) (fun y => y.1.length ≤ 100 ∧ okT y.1) (fun y => leastF y.1) <|
  FH.rd 17 (.two dEs dEs) (.one .bool) (fun _ => True) (fun y => eqBy ef_EqEvent y.1 y.2.1) FH.none) f a m
theorem G_eq (f : FuncId) (a : List SV) (m : List Res) : G f a m = (FH.rd 35 (.two dOE dOE) (.two .bool .int) (fun _ => True) (fun y => alikeF y.1 y.2.1) <|
  FH.rd 21 (.one dEs) (.one .int) (fun _ => True) (fun y => (checkR y.1).2) <|
  FH.pz 33 (.one dEs) (DP.one dEs) (fun y => y.1.length ≤ 100 ∧ okT y.1) (fun y => leastF y.1) <|
  FH.rd 17 (.two dEs dEs) (.one .bool) (fun _ => True) (fun y => eqBy ef_EqEvent y.1 y.2.1) FH.none) f a m := nr rfl
theorem G_ok : FHOK Try.prog G := FH.rd_ok (by kernel_rfl) (fun y _ => f_Same y.1 y.2.1) <| FH.rd_ok (by kernel_rfl) (fun y _ => f_May y.1) <|
  FH.pz_ok (by kernel_rfl) (fun y h => f_RLeast 100 y.1 h.1 (Nat.le_refl _) h.2) <| FH.rd_ok (by kernel_rfl) (fun y _ => f_EqEvent y.1 y.2.1) FH.none_ok
theorem ok_thr {l : List Ev} (hok : (checkR l).2 = 0) : okT l := by
  intro e he
  obtain ⟨i, hi, rfl⟩ := List.mem_iff_getElem.1 he
  obtain ⟨b1, b2, b3, b4⟩ := (isEv_iff _).1 (ok_isEv hok i hi)
  have : l.getD i dEv.dft = l[i] := by simp [List.getD, hi]
  rw [this] at b1 b2
  exact ⟨b1, b2⟩
theorem same_nil : alikeF none none = (true, 0) := by
  have hl : leastF [] = [] := least_nil (by simp)
  unfold alikeF
  rw [if_pos (by decide), if_pos (by decide)]
  simp only [Option.getD_none, hl]
  rfl
theorem f_law (a b : List Ev) : FnOK Try.prog 12 [dEs.emb a, dEs.emb b] [] (.bool true) [] := by
  refine fn_walkF c12 w12 G_ok rfl ?_
  unfold j12
  by_cases h0 : (checkR a).2 = 0
  · have l0 := ok_len h0
    have k0 : a.length ≤ 100 := by omega
    have t0 := ok_thr h0
    by_cases h1 : (checkR b).2 = 0
    · have l1 := ok_len h1
      have k1 : b.length ≤ 100 := by omega
      have t1 := ok_thr h1
      have hs : alikeF (some a) (some b) = (eqBy ef_EqEvent (leastF a) (leastF b), 0) := by
        unfold alikeF
        rw [if_pos (show (checkR ((some a).getD [])).2 = 0 from h0), if_pos (show (checkR ((some b).getD [])).2 = 0 from h1)]
        rfl
      simp only [go_sem, ↓reduceIte, Nat.reduceAdd, Nat.reduceMul, Nat.reduceSub, Nat.reduceLT, Nat.reduceLeDiff, Nat.reduceEqDiff, Int.reduceToNat, Int.reduceEq, Int.reduceLT, Int.reduceLE, reduceCtorEq, G_eq, h0, h1, hs, same_nil, k0, k1, t0, t1]
      simp
    · have hs : alikeF (some a) (some b) = (false, (checkR b).2) := by
        unfold alikeF
        rw [if_pos (show (checkR ((some a).getD [])).2 = 0 from h0), if_neg (show ¬ (checkR ((some b).getD [])).2 = 0 from h1)]
        rfl
      simp only [go_sem, ↓reduceIte, Nat.reduceAdd, Nat.reduceMul, Nat.reduceSub, Nat.reduceLT, Nat.reduceLeDiff, Nat.reduceEqDiff, Int.reduceToNat, Int.reduceEq, Int.reduceLT, Int.reduceLE, reduceCtorEq, G_eq, h0, h1, hs, same_nil]
  · have hs : alikeF (some a) (some b) = (false, (checkR a).2) := by
      unfold alikeF
      rw [if_neg (show ¬ (checkR ((some a).getD [])).2 = 0 from h0)]
      rfl
    simp only [go_sem, ↓reduceIte, Nat.reduceAdd, Nat.reduceMul, Nat.reduceSub, Nat.reduceLT, Nat.reduceLeDiff, Nat.reduceEqDiff, Int.reduceToNat, Int.reduceEq, Int.reduceLT, Int.reduceLE, reduceCtorEq, G_eq, h0, hs, same_nil]
abbrev A : DA (List Ev × List Ev × Unit) := .two dEs dEs
abbrev Ts : List TT := [.sl 3 (.st [.int .i64, .int .i64, .int .i64]), .sl 3 (.st [.int .i64, .int .i64, .int .i64])]
theorem lawP (y : DenL Ts) : A.decP [] (embL Ts y) := ⟨⟨rfl, fun _ _ => ⟨rfl, rfl, rfl, trivial⟩⟩, ⟨rfl, fun _ _ => ⟨rfl, rfl, rfl, trivial⟩⟩, trivial⟩
theorem law (y : DenL Ts) (_ : okDL Ts y) : FnOK Try.prog 12 (A.emb (A.decV [] (embL Ts y))) [] (.bool true) [] := f_law _ _
theorem own : ownKnob Try.prog.godebug = none := by kernel_rfl
theorem laid : laidOutB Try.prog = true := by kernel_rfl
theorem lifted (os : Os) (started : os.Started) (H : Type) (enc : TypeId × Value → H) :
    ReturnsInHanded {} Try.checked os 12 .any (Rows.swapSamesSpec.pre6 enc Try.prog Try.f12 Rows.swapSamesRow.domain false) (Rows.swapSamesSpec.post enc Try.prog Try.f12 false true false false) := by
  refine returnsInHanded_of_change (C := Try.checked) own started (by kernel_rfl) Try.func12
    (ChangeSpec.witness6 (enc := enc) (C := Try.checked) false ⟨#[], #[.slice none 0 0, .slice none 0 0], []⟩ 8 (by kernel_rfl) (by kernel_rfl) (by kernel_rfl) (by kernel_rfl)) ?_
  intro W base args ds gs before hval0 hW hcnd _
  have hW' := hW
  obtain ⟨p, q, hA, hV, rfl, hfz, hnd⟩ := hW
  obtain ⟨rfl, rfl⟩ := trodVars_none hV
  obtain ⟨y, hs, hok⟩ := open_args Ts (by kernel_rfl) hA (fun j t v h1 h2 => hval0 j t v (by simpa using h1) (by simpa using h2))
  obtain ⟨d1, d2, rfl⟩ := len_two (trod_len hA)
  refine (law_run (law y hok) W (vs := args.toList) (satA_conv (A := A) (lawP y) hs)).mono fun e W' ⟨he, hb⟩ => ?_
  subst he
  exact ⟨_, rfl, row_close laid (by kernel_rfl) (by kernel_rfl) Try.underlying4 rfl hW' hb rfl⟩
theorem holds : Rows.SwapSamesSaid :=
  OpenClaim.holds_of_wide 12 Try.f12 rfl rfl rfl rfl rfl rfl rfl ⟨rfl, rfl, rfl, rfl, rfl⟩ rfl rfl rfl rfl rfl (by kernel_rfl) Try.func12 (by kernel_rfl)
    (of_decide_eq_true (by kernel_rfl)) (by unfold Func.isWrapper; first | (rw [if_pos (by decide +kernel)]; kernel_rfl) | (rw [if_neg (by decide +kernel)]; exact ⟨rfl, rfl⟩))
    (fun os started H enc _ => lifted os started H enc)
#print axioms holds
end Go.Proofs.Ytafcmgfmmlnngaa.SwapSames
