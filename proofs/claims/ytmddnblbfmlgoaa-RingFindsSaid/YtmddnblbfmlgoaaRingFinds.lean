/- THE LAW 'RingFinds' HANDS BACK TRUE, AND WHAT IT READS STANDS AS IT DID: FOR EVERY START. Conditions: none. -/
import Derived.Test.YtmddnblbfmlgoaaRingM
import Derived.Test.YtmddnblbfmlgoaaEqs
import Derived.WalkKit
import Derived.ProofKit
import Derived.OpenShut
set_option linter.unusedSimpArgs false
set_option linter.unusedVariables false
set_option maxRecDepth 100000
open Go Go.Sx Go.Proofs Go.ChangeShapes Go.WideShapes Go.ChangeAt Go.RowKit
namespace Go.Proofs.Ytmddnblbfmlgoaa.RingFinds
open Go.Proofs.Ytmddnblbfmlgoaa.D Go.Proofs.Ytmddnblbfmlgoaa.Rg Go.Proofs.Ytmddnblbfmlgoaa.Eqs

def j11 : JC :=
  (.seq (.ops <|
  qo 2 (.mv (B false)) <|
  .nil)
  (.seq (.ops <|
  qo 10 (.mv (.t 0)) <|
  eo 11 (.call 35 [(.t 10)]) <|
  qo 9 (.mv (.t 11)) <|
  qo 12 (.ext 0 (.t 9)) <|
  qo 13 (.ext 1 (.t 9)) <|
  qo 3 (.mv (.t 12)) <|
  qo 4 (.mv (.t 13)) <|
  .nil)
  (.seq (.ops <|
  .prune [0, 3, 4] <|
  qo 15 (.mv (.t 0)) <|
  eo 16 (.call 36 [(.t 15)]) <|
  qo 14 (.mv (.t 16)) <|
  qo 17 (.ext 0 (.t 14)) <|
  .prune [14, 17, 3, 4] <|
  qo 18 (.ext 1 (.t 14)) <|
  qo 5 (.mv (.t 17)) <|
  qo 6 (.mv (.t 18)) <|
  .nil)
  (.prune [3, 5, 4, 6] (.seq (.ops <|
  qo 20 (.bld (.agg [(.int .i64 0), (.int .i64 0)]) [([.fld 0], 0, 1, (I 2)), ([.fld 1], 1, 1, (I 2))]) <|
  eo 21 (.bsl 53 2 1 (.agg [(.int .i64 0), (.int .i64 0)]) [(0, (.t 20))]) <|
  eo 22 (.call 35 [(.t 21)]) <|
  qo 19 (.mv (.t 22)) <|
  .prune [19, 3, 5, 4, 6] <|
  qo 23 (.ext 0 (.t 19)) <|
  qo 24 (.ext 1 (.t 19)) <|
  qo 7 (.mv (.t 23)) <|
  qo 8 (.mv (.t 24)) <|
  .nil)
  (.prune [3, 5, 4, 6, 7, 8] (.seq (.ops <|
  qo 25 (.mv (.t 3)) <|
  qo 26 (.mv (.t 5)) <|
  eo 27 (.call 15 [(.t 25), (.t 26)]) <|
  .prune [27, 4, 6, 7, 8] <|
  qo 28 (.mv (.t 27)) <|
  .sc false 32 28 (qo 29 (.mv (.t 4)) <|
  qo 30 (.mv (.t 6)) <|
  qo 31 (.cmp .eql (.t 29) (.t 30)) <|
  .nil) (.t 31) <|
  .prune [32, 7, 8] <|
  qo 33 (.mv (.t 32)) <|
  .scd false 37 33 (qo 34 (.mv (.t 7)) <|
  eo 35 (.bsl 3 1 1 (.int .i64 0) [(0, (I 2))]) <|
  eo 36 (.call 15 [(.t 34), (.t 35)]) <|
  .nil) (.t 36) <|
  qo 38 (.mv (.t 37)) <|
  .sc false 41 38 (qo 39 (.mv (.t 8)) <|
  qo 40 (.cmp .eql (.t 39) (I 0)) <|
  .nil) (.t 40) <|
  qo 2 (.mv (.t 41)) <|
  .nil)
  .ret)))))))
theorem c11 : fnIs Try.prog qall 11 = some (j11.flat, [.tmp 2], 42) := by kernel_rfl
theorem w11 : j11.wf 42 = true := by kernel_rfl
def dNI : DP (Option (List Int) × Int) := ⟨fun y => .tup [dNil.emb y.1, .int .i64 y.2], fun r y => by simp only [Sx.ren, renL, dNil.ren]⟩
theorem dni_emb (o : Option (List Int)) (e : Int) : dNI.emb (o, e) = .tup [dNil.emb o, .int .i64 e] := nr rfl
def G (f : FuncId) (a : List SV) (m : List Res) : Sx.Call := (FH.fz 35 (.one dPrs) dNI (fun _ => True) (fun y => (rRing y.1, rErr y.1)) <| FH.fz 36 (.one dPrs) dNI (fun _ => True) (fun y => (rrRing y.1, rrErr y.1)) <|
  FH.rd 15 (.two dIs dIs) (.one .bool) (fun _ => True) (fun y => eqBy ef_EqInt y.1 y.2.1) FH.none) f a m
theorem G_eq (f : FuncId) (a : List SV) (m : List Res) : G f a m = (FH.fz 35 (.one dPrs) dNI (fun _ => True) (fun y => (rRing y.1, rErr y.1)) <| FH.fz 36 (.one dPrs) dNI (fun _ => True) (fun y => (rrRing y.1, rrErr y.1)) <|
  FH.rd 15 (.two dIs dIs) (.one .bool) (fun _ => True) (fun y => eqBy ef_EqInt y.1 y.2.1) FH.none) f a m := nr rfl
theorem G_ok : FHOK Try.prog G := FH.fz_ok (by kernel_rfl) (fun y _ => f_Ring y.1) <| FH.fz_ok (by kernel_rfl) (fun y _ => f_RRing y.1) <| FH.rd_ok (by kernel_rfl) (fun y _ => f_EqInt y.1 y.2.1) FH.none_ok
theorem eqI_refl (l : List Int) : eqBy ef_EqInt l l = true := eqBy_refl (by simp [ef_EqInt]) l
theorem two_ring : rRing [⟨2, 2⟩] = some [2] := by decide
theorem two_err : rErr [⟨2, 2⟩] = 0 := by decide
theorem f_law (p : List Pr) : FnOK Try.prog 11 [dPrs.emb p] [] (.bool true) [] := by
  refine fn_walkF c11 w11 G_ok rfl ?_
  unfold j11
  obtain ⟨h1, h2⟩ := ring_same p
  cases hr : rRing p with
  | none =>
    simp only [go_sem, ↓reduceIte, Nat.reduceAdd, Nat.reduceMul, Nat.reduceSub, Nat.reduceLT, Nat.reduceLeDiff, Nat.reduceEqDiff, Int.reduceToNat, Int.reduceEq, Int.reduceLT, Int.reduceLE, reduceCtorEq, G_eq, h1, h2, hr, dni_emb, two_ring, two_err, eqI_refl]
  | some r =>
    simp only [go_sem, ↓reduceIte, Nat.reduceAdd, Nat.reduceMul, Nat.reduceSub, Nat.reduceLT, Nat.reduceLeDiff, Nat.reduceEqDiff, Int.reduceToNat, Int.reduceEq, Int.reduceLT, Int.reduceLE, reduceCtorEq, G_eq, h1, h2, hr, dni_emb, two_ring, two_err, eqI_refl]
abbrev A : DA (List Pr × Unit) := .one dPrs
abbrev Ts : List TT := [.sl 2 (.st [.int .i64, .int .i64])]
theorem lawP (y : DenL Ts) : A.decP [] (embL Ts y) := ⟨⟨rfl, fun _ _ => ⟨rfl, rfl, trivial⟩⟩, trivial⟩
theorem law (y : DenL Ts) (_ : okDL Ts y) : FnOK Try.prog 11 (A.emb (A.decV [] (embL Ts y))) [] (.bool true) [] := f_law _
theorem own : ownKnob Try.prog.godebug = none := by kernel_rfl
theorem laid : laidOutB Try.prog = true := by kernel_rfl
theorem lifted (os : Os) (started : os.Started) (H : Type) (enc : TypeId × Value → H) :
    ReturnsInHanded {} Try.checked os 11 .any (Rows.ringFindsSpec.pre6 enc Try.prog Try.f11 Rows.ringFindsRow.domain false) (Rows.ringFindsSpec.post enc Try.prog Try.f11 false true false false) := by
  refine returnsInHanded_of_change (C := Try.checked) own started (by kernel_rfl) Try.func11
    (ChangeSpec.witness6 (enc := enc) (C := Try.checked) false ⟨#[], #[.slice none 0 0], []⟩ 8 (by kernel_rfl) (by kernel_rfl) (by kernel_rfl) (by kernel_rfl)) ?_
  intro W base args ds gs before hval0 hW hcnd _
  have hW' := hW
  obtain ⟨p, q, hA, hV, rfl, hfz, hnd⟩ := hW
  obtain ⟨rfl, rfl⟩ := trodVars_none hV
  obtain ⟨y, hs, hok⟩ := open_args Ts (by kernel_rfl) hA (fun j t v h1 h2 => hval0 j t v (by simpa using h1) (by simpa using h2))
  obtain ⟨d1, rfl⟩ := len_one (trod_len hA)
  refine (law_run (law y hok) W (vs := args.toList) (satA_conv (A := A) (lawP y) hs)).mono fun e W' ⟨he, hb⟩ => ?_
  subst he
  exact ⟨_, rfl, row_close laid (by kernel_rfl) (by kernel_rfl) Try.underlying4 rfl hW' hb rfl⟩
theorem holds : Rows.RingFindsSaid :=
  OpenClaim.holds_of_wide 11 Try.f11 rfl rfl rfl rfl rfl rfl rfl ⟨rfl, rfl, rfl, rfl, rfl⟩ rfl rfl rfl rfl rfl (by kernel_rfl) Try.func11 (by kernel_rfl)
    (of_decide_eq_true (by kernel_rfl)) (by unfold Func.isWrapper; first | (rw [if_pos (by decide +kernel)]; kernel_rfl) | (rw [if_neg (by decide +kernel)]; exact ⟨rfl, rfl⟩))
    (fun os started H enc _ => lifted os started H enc)
#print axioms holds
end Go.Proofs.Ytmddnblbfmlgoaa.RingFinds
