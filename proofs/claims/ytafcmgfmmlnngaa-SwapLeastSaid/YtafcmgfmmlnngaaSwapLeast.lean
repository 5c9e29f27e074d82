/- THE LAW 'SwapLeast' HANDS BACK TRUE, AND WHAT IT READS STANDS AS IT DID: FOR EVERY START. Conditions: none. -/
import Derived.Test.YtafcmgfmmlnngaaSwapM
import Derived.Test.YtafcmgfmmlnngaaEqs
import Derived.WalkKit
import Derived.ProofKit
import Derived.OpenShut
set_option linter.unusedSimpArgs false
set_option linter.unusedVariables false
set_option maxRecDepth 100000
open Go Go.Sx Go.Proofs Go.ChangeShapes Go.WideShapes Go.ChangeAt Go.RowKit
namespace Go.Proofs.Ytafcmgfmmlnngaa.SwapLeast
open Go.Proofs.Ytafcmgfmmlnngaa.D Go.Proofs.Ytafcmgfmmlnngaa.Tr Go.Proofs.Ytafcmgfmmlnngaa.Eqs Go.Proofs.Ytafcmgfmmlnngaa.Sw

def j10 : JC :=
  (.seq (.ops <|
  qo 2 (.mv (B false)) <|
  .nil)
  (.seq (.ops <|
  qo 9 (.mv (.t 0)) <|
  eo 10 (.call 24 [(.t 9)]) <|
  qo 8 (.mv (.t 10)) <|
  qo 11 (.ext 0 (.t 8)) <|
  qo 12 (.ext 1 (.t 8)) <|
  qo 3 (.mv (.t 11)) <|
  qo 4 (.mv (.t 12)) <|
  .nil)
  (.seq (.ops <|
  .prune [0, 4, 3] <|
  eo 14 (.call 20 []) <|
  eo 15 (.call 24 [(.t 14)]) <|
  qo 13 (.mv (.t 15)) <|
  qo 16 (.ext 0 (.t 13)) <|
  qo 17 (.ext 1 (.t 13)) <|
  qo 5 (.mv (.t 16)) <|
  qo 6 (.mv (.t 17)) <|
  .nil)
  (.prune [0, 4, 3, 6] (.seq (.seq (.ops <|
  qo 18 (.mv (.t 0)) <|
  eo 19 (.call 21 [(.t 18)]) <|
  qo 7 (.mv (.t 19)) <|
  .nil)
  (.seq (.ops <|
  qo 20 (.mv (.t 7)) <|
  qo 21 (.cmp .neq (.t 20) (I 0)) <|
  .prune [21, 4, 3, 7, 6, 0] <|
  qo 22 (.mv (.t 21)) <|
  .sc true 25 22 (qo 23 (.mv (.t 4)) <|
  qo 24 (.cmp .neq (.t 23) (I 0)) <|
  .nil) (.t 24) <|
  .nil)
  (.prune [25, 3, 4, 7, 6, 0] (.cond (.t 25)
  (.seq (.ops <|
  qo 26 (.mv (.t 3)) <|
  .prune [26, 4, 7, 6] <|
  qo 27 (.len (.t 26)) <|
  qo 28 (.cmp .eql (.t 27) (I 0)) <|
  qo 29 (.mv (.t 28)) <|
  .prune [29, 4, 7, 6] <|
  .sc false 33 29 (qo 30 (.mv (.t 4)) <|
  qo 31 (.mv (.t 7)) <|
  qo 32 (.cmp .eql (.t 30) (.t 31)) <|
  .nil) (.t 32) <|
  qo 34 (.mv (.t 33)) <|
  .sc false 37 34 (qo 35 (.mv (.t 6)) <|
  qo 36 (.cmp .eql (.t 35) (I 1)) <|
  .nil) (.t 36) <|
  qo 2 (.mv (.t 37)) <|
  .nil)
  .ret)
  .skip))))
  (.prune [3, 0, 6] (.seq (.ops <|
  qo 38 (.mv (.t 3)) <|
  qo 39 (.mv (.t 0)) <|
  eo 40 (.call 33 [(.t 39)]) <|
  eo 41 (.call 17 [(.t 38), (.t 40)]) <|
  .prune [41, 6] <|
  qo 42 (.mv (.t 41)) <|
  .sc false 45 42 (qo 43 (.mv (.t 6)) <|
  qo 44 (.cmp .eql (.t 43) (I 1)) <|
  .nil) (.t 44) <|
  qo 2 (.mv (.t 45)) <|
  .nil)
  .ret)))))))
theorem c10 : fnIs Try.prog qall 10 = some (j10.flat, [.tmp 2], 46) := by kernel_rfl
theorem w10 : j10.wf 46 = true := by kernel_rfl
def G (f : FuncId) (a : List SV) (m : List Res) : Sx.Call := (FH.mk 24 (.one dEs) (fun _ => True) (fun y => .tup [.vec 0 (leastO y.1).length, .int .i64 (checkR y.1).2]) (fun y => [.vec 35 3 ((leastO y.1).map dEv.emb)]) <|
  FH.mk 20 .nil (fun _ => True) (fun _ => .vec 0 1) (fun _ => [.vec 35 3 ([badE].map dEv.emb)]) <|
  FH.rd 21 (.one dEs) (.one .int) (fun _ => True) (fun y => (checkR y.1).2) <|
  FH.pz 33 (.one dEs) (DP.one dEs) (fun y => y.1.length ≤ 100 ∧ okT y.1) (fun y => leastF y.1) <|
  FH.rd 17 (.two dEs dEs) (.one .bool) (fun _ => True) (fun y => eqBy ef_EqEvent y.1 y.2.1) FH.none) f a m
theorem G_eq (f : FuncId) (a : List SV) (m : List Res) : G f a m = (FH.mk 24 (.one dEs) (fun _ => True) (fun y => .tup [.vec 0 (leastO y.1).length, .int .i64 (checkR y.1).2]) (fun y => [.vec 35 3 ((leastO y.1).map dEv.emb)]) <|
  FH.mk 20 .nil (fun _ => True) (fun _ => .vec 0 1) (fun _ => [.vec 35 3 ([badE].map dEv.emb)]) <|
  FH.rd 21 (.one dEs) (.one .int) (fun _ => True) (fun y => (checkR y.1).2) <|
  FH.pz 33 (.one dEs) (DP.one dEs) (fun y => y.1.length ≤ 100 ∧ okT y.1) (fun y => leastF y.1) <|
  FH.rd 17 (.two dEs dEs) (.one .bool) (fun _ => True) (fun y => eqBy ef_EqEvent y.1 y.2.1) FH.none) f a m := nr rfl
theorem G_ok : FHOK Try.prog G := FH.mk_ok (by kernel_rfl) (fun y _ => plainM (pv_tup ⟨plV_vec _ _, plV_int _ _, trivial⟩) ⟨plR_vec _ _ dEv _, trivial⟩) (fun y _ => f_Least y.1) <|
  FH.mk_ok (by kernel_rfl) (fun _ _ => plainM (pv_vec _ _) ⟨plR_vec _ _ dEv [badE], trivial⟩) (fun _ _ => f_wrong) <| FH.rd_ok (by kernel_rfl) (fun y _ => f_May y.1) <|
  FH.pz_ok (by kernel_rfl) (fun y h => f_RLeast 100 y.1 h.1 (Nat.le_refl _) h.2) <| FH.rd_ok (by kernel_rfl) (fun y _ => f_EqEvent y.1 y.2.1) FH.none_ok
theorem bad_is : (checkR [badE]).2 = 1 := by decide
theorem ok_thr {l : List Ev} (hok : (checkR l).2 = 0) : okT l := by
  intro e he
  obtain ⟨i, hi, rfl⟩ := List.mem_iff_getElem.1 he
  obtain ⟨b1, b2, b3, b4⟩ := (isEv_iff _).1 (ok_isEv hok i hi)
  have : l.getD i dEv.dft = l[i] := by simp [List.getD, hi]
  rw [this] at b1 b2
  exact ⟨b1, b2⟩
theorem f_law (l : List Ev) : FnOK Try.prog 10 [dEs.emb l] [] (.bool true) [] := by
  refine fn_walkF c10 w10 G_ok rfl ?_
  unfold j10
  by_cases h0 : (checkR l).2 = 0
  · have hl := ok_len h0
    have h100 : l.length ≤ 100 := by omega
    have ht := ok_thr h0
    have hlo : leastO l = leastF l := if_pos h0
    simp only [go_sem, ↓reduceIte, Nat.reduceAdd, Nat.reduceMul, Nat.reduceSub, Nat.reduceLT, Nat.reduceLeDiff, Nat.reduceEqDiff, Int.reduceToNat, Int.reduceEq, Int.reduceLT, Int.reduceLE, reduceCtorEq, G_eq, bad_is, h0, hlo, h100, ht]
    exact eqBy_refl (by simp [ef_EqEvent]) _
  · have hlo : leastO l = [] := if_neg h0
    simp only [go_sem, ↓reduceIte, Nat.reduceAdd, Nat.reduceMul, Nat.reduceSub, Nat.reduceLT, Nat.reduceLeDiff, Nat.reduceEqDiff, Int.reduceToNat, Int.reduceEq, Int.reduceLT, Int.reduceLE, reduceCtorEq, G_eq, bad_is, h0, hlo]
abbrev A : DA (List Ev × Unit) := .one dEs
abbrev Ts : List TT := [.sl 3 (.st [.int .i64, .int .i64, .int .i64])]
theorem lawP (y : DenL Ts) : A.decP [] (embL Ts y) := ⟨⟨rfl, fun _ _ => ⟨rfl, rfl, rfl, trivial⟩⟩, trivial⟩
theorem law (y : DenL Ts) (_ : okDL Ts y) : FnOK Try.prog 10 (A.emb (A.decV [] (embL Ts y))) [] (.bool true) [] := f_law _
theorem own : ownKnob Try.prog.godebug = none := by kernel_rfl
theorem laid : laidOutB Try.prog = true := by kernel_rfl
theorem lifted (os : Os) (started : os.Started) (H : Type) (enc : TypeId × Value → H) :
    ReturnsInHanded {} Try.checked os 10 .any (Rows.swapLeastSpec.pre6 enc Try.prog Try.f10 Rows.swapLeastRow.domain false) (Rows.swapLeastSpec.post enc Try.prog Try.f10 false true false false) := by
  refine returnsInHanded_of_change (C := Try.checked) own started (by kernel_rfl) Try.func10
    (ChangeSpec.witness6 (enc := enc) (C := Try.checked) false ⟨#[], #[.slice none 0 0], []⟩ 8 (by kernel_rfl) (by kernel_rfl) (by kernel_rfl) (by kernel_rfl)) ?_
  intro W base args ds gs before hval0 hW hcnd _
  have hW' := hW
  obtain ⟨p, q, hA, hV, rfl, hfz, hnd⟩ := hW
  obtain ⟨rfl, rfl⟩ := trodVars_none hV
  obtain ⟨y, hs, hok⟩ := open_args Ts (by kernel_rfl) hA (fun j t v h1 h2 => hval0 j t v (by simpa using h1) (by simpa using h2))
  obtain ⟨d1, rfl⟩ := len_one (trod_len hA)
  refine (law_run (law y hok) W (vs := args.toList) (satA_conv (A := A) (lawP y) hs)).mono fun e W' ⟨he, hb⟩ => ?_
  subst he
  exact ⟨_, rfl, row_close laid (by kernel_rfl) (by kernel_rfl) Try.underlying4 rfl hW' hb rfl⟩
theorem holds : Rows.SwapLeastSaid :=
  OpenClaim.holds_of_wide 10 Try.f10 rfl rfl rfl rfl rfl rfl rfl ⟨rfl, rfl, rfl, rfl, rfl⟩ rfl rfl rfl rfl rfl (by kernel_rfl) Try.func10 (by kernel_rfl)
    (of_decide_eq_true (by kernel_rfl)) (by unfold Func.isWrapper; first | (rw [if_pos (by decide +kernel)]; kernel_rfl) | (rw [if_neg (by decide +kernel)]; exact ⟨rfl, rfl⟩))
    (fun os started H enc _ => lifted os started H enc)
#print axioms holds
end Go.Proofs.Ytafcmgfmmlnngaa.SwapLeast
