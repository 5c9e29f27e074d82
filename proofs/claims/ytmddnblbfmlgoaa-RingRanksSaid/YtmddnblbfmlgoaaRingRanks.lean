/- THE LAW 'RingRanks' HANDS BACK TRUE, AND WHAT IT READS STANDS AS IT DID: FOR EVERY START. Conditions: none. -/
import Derived.Test.YtmddnblbfmlgoaaRankA
import Derived.Test.YtmddnblbfmlgoaaEqs
import Derived.WalkKit
import Derived.ProofKit
import Derived.OpenShut
set_option linter.unusedSimpArgs false
set_option linter.unusedVariables false
set_option maxRecDepth 100000
open Go Go.Sx Go.Proofs Go.ChangeShapes Go.WideShapes Go.ChangeAt Go.RowKit
namespace Go.Proofs.Ytmddnblbfmlgoaa.RingRanks
open Go.Proofs.Ytmddnblbfmlgoaa.D Go.Proofs.Ytmddnblbfmlgoaa.Rg Go.Proofs.Ytmddnblbfmlgoaa.Eqs

def j14 : JC :=
  (.seq (.ops <|
  qo 2 (.mv (B false)) <|
  .nil)
  (.seq (.ops <|
  qo 8 (.mv (.t 0)) <|
  eo 9 (.call 42 [(.t 8)]) <|
  qo 7 (.mv (.t 9)) <|
  qo 10 (.ext 0 (.t 7)) <|
  qo 11 (.ext 1 (.t 7)) <|
  qo 3 (.mv (.t 10)) <|
  qo 4 (.mv (.t 11)) <|
  .nil)
  (.seq (.ops <|
  .prune [0, 3, 4] <|
  qo 13 (.mv (.t 0)) <|
  eo 14 (.call 43 [(.t 13)]) <|
  qo 12 (.mv (.t 14)) <|
  qo 15 (.ext 0 (.t 12)) <|
  .prune [12, 15, 3, 4] <|
  qo 16 (.ext 1 (.t 12)) <|
  qo 5 (.mv (.t 15)) <|
  qo 6 (.mv (.t 16)) <|
  .nil)
  (.prune [3, 5, 4, 6] (.seq (.ops <|
  qo 17 (.mv (.t 3)) <|
  qo 18 (.mv (.t 5)) <|
  eo 19 (.call 15 [(.t 17), (.t 18)]) <|
  .prune [19, 4, 6] <|
  qo 20 (.mv (.t 19)) <|
  .sc false 24 20 (qo 21 (.mv (.t 4)) <|
  qo 22 (.mv (.t 6)) <|
  qo 23 (.cmp .eql (.t 21) (.t 22)) <|
  .nil) (.t 23) <|
  qo 2 (.mv (.t 24)) <|
  .nil)
  .ret)))))
theorem c14 : fnIs Try.prog qall 14 = some (j14.flat, [.tmp 2], 25) := by kernel_rfl
theorem w14 : j14.wf 25 = true := by kernel_rfl
def G (f : FuncId) (a : List SV) (m : List Res) : Sx.Call := (FH.mk 42 (.one dPrs) (fun _ => True) (fun y => .tup [.vec 0 (rankF y.1).1.length, .int .i64 (rankF y.1).2]) (fun y => [.vec 3 1 ((rankF y.1).1.map DT.int.emb)]) <|
  FH.mk 43 (.one dPrs) (fun _ => True) (fun y => .tup [.vec 0 (rrankF y.1).1.length, .int .i64 (rrankF y.1).2]) (fun y => [.vec 3 1 ((rrankF y.1).1.map DT.int.emb)]) <|
  FH.rd 15 (.two dIs dIs) (.one .bool) (fun _ => True) (fun y => eqBy ef_EqInt y.1 y.2.1) FH.none) f a m
theorem G_eq (f : FuncId) (a : List SV) (m : List Res) : G f a m = (FH.mk 42 (.one dPrs) (fun _ => True) (fun y => .tup [.vec 0 (rankF y.1).1.length, .int .i64 (rankF y.1).2]) (fun y => [.vec 3 1 ((rankF y.1).1.map DT.int.emb)]) <|
  FH.mk 43 (.one dPrs) (fun _ => True) (fun y => .tup [.vec 0 (rrankF y.1).1.length, .int .i64 (rrankF y.1).2]) (fun y => [.vec 3 1 ((rrankF y.1).1.map DT.int.emb)]) <|
  FH.rd 15 (.two dIs dIs) (.one .bool) (fun _ => True) (fun y => eqBy ef_EqInt y.1 y.2.1) FH.none) f a m := nr rfl
theorem G_ok : FHOK Try.prog G := FH.mk_ok (by kernel_rfl) (fun y _ => plainM (pv_tup ⟨plV_vec _ _, plV_int _ _, trivial⟩) ⟨plR_vec _ _ DT.int _, trivial⟩) (fun y _ => f_Rank y.1) <|
  FH.mk_ok (by kernel_rfl) (fun y _ => plainM (pv_tup ⟨plV_vec _ _, plV_int _ _, trivial⟩) ⟨plR_vec _ _ DT.int _, trivial⟩) (fun y _ => f_RRank y.1) <| FH.rd_ok (by kernel_rfl) (fun y _ => f_EqInt y.1 y.2.1) FH.none_ok
theorem eqI_refl (l : List Int) : eqBy ef_EqInt l l = true := eqBy_refl (by simp [ef_EqInt]) l
theorem same (p : List Pr) : rrankF p = rankF p := by
  obtain ⟨h1, h2⟩ := ring_same p
  unfold rrankF rankF
  rw [h1, h2, rRing, rErr]
  by_cases h : p.any badPr = true
  · rw [if_pos h, if_pos h, if_pos h, if_neg (by decide)]
  · rw [if_neg h, if_neg h, if_neg h, if_pos rfl]
    by_cases hr : ringG (gOf p) = none
    · rw [if_pos hr, if_pos hr, rank_same hr]
    · rw [if_neg hr, if_neg hr]
theorem f_law (p : List Pr) : FnOK Try.prog 14 [dPrs.emb p] [] (.bool true) [] := by
  refine fn_walkF c14 w14 G_ok rfl ?_
  unfold j14
  simp only [go_sem, ↓reduceIte, Nat.reduceAdd, Nat.reduceMul, Nat.reduceSub, Nat.reduceLT, Nat.reduceLeDiff, Nat.reduceEqDiff, Int.reduceToNat, Int.reduceEq, Int.reduceLT, Int.reduceLE, reduceCtorEq, G_eq, same, eqI_refl]
abbrev A : DA (List Pr × Unit) := .one dPrs
abbrev Ts : List TT := [.sl 2 (.st [.int .i64, .int .i64])]
theorem lawP (y : DenL Ts) : A.decP [] (embL Ts y) := ⟨⟨rfl, fun _ _ => ⟨rfl, rfl, trivial⟩⟩, trivial⟩
theorem law (y : DenL Ts) (_ : okDL Ts y) : FnOK Try.prog 14 (A.emb (A.decV [] (embL Ts y))) [] (.bool true) [] := f_law _
theorem own : ownKnob Try.prog.godebug = none := by kernel_rfl
theorem laid : laidOutB Try.prog = true := by kernel_rfl
theorem lifted (os : Os) (started : os.Started) (H : Type) (enc : TypeId × Value → H) :
    ReturnsInHanded {} Try.checked os 14 .any (Rows.ringRanksSpec.pre6 enc Try.prog Try.f14 Rows.ringRanksRow.domain false) (Rows.ringRanksSpec.post enc Try.prog Try.f14 false true false false) := by
  refine returnsInHanded_of_change (C := Try.checked) own started (by kernel_rfl) Try.func14
    (ChangeSpec.witness6 (enc := enc) (C := Try.checked) false ⟨#[], #[.slice none 0 0], []⟩ 8 (by kernel_rfl) (by kernel_rfl) (by kernel_rfl) (by kernel_rfl)) ?_
  intro W base args ds gs before hval0 hW hcnd _
  have hW' := hW
  obtain ⟨p, q, hA, hV, rfl, hfz, hnd⟩ := hW
  obtain ⟨rfl, rfl⟩ := trodVars_none hV
  obtain ⟨y, hs, hok⟩ := open_args Ts (by kernel_rfl) hA (fun j t v h1 h2 => hval0 j t v (by simpa using h1) (by simpa using h2))
  obtain ⟨d1, rfl⟩ := len_one (trod_len hA)
  refine (law_run (law y hok) W (vs := args.toList) (satA_conv (A := A) (lawP y) hs)).mono fun e W' ⟨he, hb⟩ => ?_
  subst he
  exact ⟨_, rfl, row_close laid (by kernel_rfl) (by kernel_rfl) Try.underlying4 rfl hW' hb rfl⟩
theorem holds : Rows.RingRanksSaid :=
  OpenClaim.holds_of_wide 14 Try.f14 rfl rfl rfl rfl rfl rfl rfl ⟨rfl, rfl, rfl, rfl, rfl⟩ rfl rfl rfl rfl rfl (by kernel_rfl) Try.func14 (by kernel_rfl)
    (of_decide_eq_true (by kernel_rfl)) (by unfold Func.isWrapper; first | (rw [if_pos (by decide +kernel)]; kernel_rfl) | (rw [if_neg (by decide +kernel)]; exact ⟨rfl, rfl⟩))
    (fun os started H enc _ => lifted os started H enc)
#print axioms holds
end Go.Proofs.Ytmddnblbfmlgoaa.RingRanks
