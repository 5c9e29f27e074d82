/- THE LAW 'EveryWays' HANDS BACK TRUE, AND WHAT IT READS STANDS AS IT DID: FOR EVERY START. Conditions: none. -/
import Derived.Test.YtgcbhanfhnianaaEvU
import Derived.Test.YtgcbhanfhnianaaEqs
import Derived.WalkKit
import Derived.ProofKit
import Derived.OpenShut
set_option linter.unusedSimpArgs false
set_option linter.unusedVariables false
set_option maxRecDepth 100000
open Go Go.Sx Go.Proofs Go.ChangeShapes Go.WideShapes Go.ChangeAt Go.RowKit
namespace Go.Proofs.Ytgcbhanfhnianaa.EveryWays
open Go.Proofs.Ytgcbhanfhnianaa.D Go.Proofs.Ytgcbhanfhnianaa.Pg Go.Proofs.Ytgcbhanfhnianaa.Tr Go.Proofs.Ytgcbhanfhnianaa.Rn Go.Proofs.Ytgcbhanfhnianaa.Ev Go.Proofs.Ytgcbhanfhnianaa.Eqs

def j30 : JC :=
  (.seq (.ops <|
  eo 1 (.box 22 (.t 0)) <|
  qo 2 (.mv (.c .nils)) <|
  qo 3 (.mv (I 0)) <|
  .nil)
  (.seq (.seq (.ops <|
  eo 6 (.load 1 false (.t 1)) <|
  eo 7 (.call 73 [(.t 6)]) <|
  qo 4 (.mv (.t 7)) <|
  .nil)
  (.seq (.ops <|
  qo 8 (.mv (.t 4)) <|
  qo 9 (.cmp .neq (.t 8) (I 0)) <|
  .nil)
  (.cond (.t 9)
  (.seq (.ops <|
  .prune [4] <|
  qo 10 (.mv (.t 4)) <|
  qo 2 (.mv (.c .nils)) <|
  qo 3 (.mv (.t 10)) <|
  .nil)
  .ret)
  .skip)))
  (.prune [1] (.seq (.ops <|
  eo 5 (.alloc 62 .nils) <|
  .nil)
  (.seq (.ops <|
  eo 11 (.load 1 false (.t 1)) <|
  qo 12 (.mkfn 75 [(.t 1), (.t 5)]) <|
  eo 13 (.call 74 [(.t 11), (.t 12)]) <|
  .nil)
  (.seq (.ops <|
  eo 14 (.load 1 false (.t 5)) <|
  eo 15 (.call 77 [(.t 14), (.c (.fn 78 []))]) <|
  .nil)
  (.seq (.ops <|
  .prune [5] <|
  eo 16 (.load 1 false (.t 5)) <|
  qo 2 (.mv (.t 16)) <|
  qo 3 (.mv (I 0)) <|
  .nil)
  .ret)))))))
theorem c30 : fnIs Try.prog qall 30 = some (j30.flat, [.tmp 2, .tmp 3], 17) := by kernel_rfl
theorem w30 : j30.wf 17 = true := by kernel_rfl

def j9 : JC :=
  (.seq (.ops <|
  eo 3 (.box 28 (.t 1)) <|
  qo 4 (.mv (B false)) <|
  .nil)
  (.seq (.ops <|
  qo 13 (.mv (.t 0)) <|
  eo 14 (.load 20 true (.t 3)) <|
  eo 15 (.call 38 [(.t 13), (.t 14)]) <|
  qo 12 (.mv (.t 15)) <|
  qo 16 (.ext 0 (.t 12)) <|
  .prune [12, 16, 0, 3] <|
  qo 17 (.ext 1 (.t 12)) <|
  qo 5 (.mv (.t 16)) <|
  qo 6 (.mv (.t 17)) <|
  .nil)
  (.prune [0, 3, 5, 6] (.seq (.ops <|
  qo 18 (.mv (.t 0)) <|
  eo 19 (.call 31 [(.t 18)]) <|
  qo 7 (.mv (.t 19)) <|
  .nil)
  (.seq (.ops <|
  qo 8 (.mv (.c .nils)) <|
  .nil)
  (.seq (.seq (.ops <|
  qo 20 (.mv (.t 7)) <|
  qo 21 (.cmp .eql (.t 20) (I 0)) <|
  .nil)
  (.prune [21, 0, 3, 5, 6, 7, 8] (.cond (.t 21)
  (.seq (.ops <|
  qo 9 (.mv (B false)) <|
  .nil)
  (.seq (.ops <|
  .prune [0, 3, 5, 6, 7] <|
  qo 23 (.mv (.t 0)) <|
  eo 24 (.load 20 true (.t 3)) <|
  eo 25 (.call 39 [(.t 23), (.t 24)]) <|
  .prune [25, 5, 6, 7] <|
  qo 22 (.mv (.t 25)) <|
  qo 26 (.ext 0 (.t 22)) <|
  qo 27 (.ext 1 (.t 22)) <|
  qo 8 (.mv (.t 26)) <|
  qo 9 (.mv (.t 27)) <|
  .nil)
  (.prune [9, 5, 8, 6, 7] (.seq (.ops <|
  qo 28 (.mv (.t 9)) <|
  qo 29 (.nt (.t 28)) <|
  .nil)
  (.cond (.t 29)
  (.ops <|
  qo 7 (.mv (I 7)) <|
  .nil)
  .skip)))))
  .skip)))
  (.prune [5, 8, 6, 7] (.seq (.ops <|
  eo 31 (.call 30 [(.c .nils)]) <|
  qo 30 (.mv (.t 31)) <|
  qo 32 (.ext 0 (.t 30)) <|
  qo 33 (.ext 1 (.t 30)) <|
  qo 10 (.mv (.t 32)) <|
  qo 11 (.mv (.t 33)) <|
  .nil)
  (.prune [5, 8, 6, 7, 11] (.seq (.ops <|
  qo 34 (.mv (.t 5)) <|
  qo 35 (.mv (.t 8)) <|
  eo 36 (.call 28 [(.t 34), (.t 35)]) <|
  .prune [36, 6, 7, 11] <|
  qo 37 (.mv (.t 36)) <|
  .sc false 41 37 (qo 38 (.mv (.t 6)) <|
  qo 39 (.mv (.t 7)) <|
  qo 40 (.cmp .eql (.t 38) (.t 39)) <|
  .nil) (.t 40) <|
  qo 42 (.mv (.t 41)) <|
  .prune [42, 11] <|
  .sc false 45 42 (qo 43 (.mv (.t 11)) <|
  qo 44 (.cmp .eql (.t 43) (I 2)) <|
  .nil) (.t 44) <|
  qo 4 (.mv (.t 45)) <|
  .nil)
  .ret))))))))))
theorem c9 : fnIs Try.prog qall 9 = some (j9.flat, [.tmp 4], 46) := by kernel_rfl
theorem w9 : j9.wf 46 = true := by kernel_rfl
def Gen (f : FuncId) (a : List SV) (m : List Res) : Sx.Call := (FH.rd 73 (.one dProg) (.one .int) (fun _ => True) (fun y => echF y.1) FH.none) f a m
theorem Gen_eq (f : FuncId) (a : List SV) (m : List Res) : Gen f a m = (FH.rd 73 (.one dProg) (.one .int) (fun _ => True) (fun y => echF y.1) FH.none) f a m := nr rfl
theorem Gen_ok : FHOK Try.prog Gen := FH.rd_ok (by kernel_rfl) (fun y _ => f_check y.1) FH.none_ok
theorem ech_nil : echF [] = 2 := by decide
theorem f_EndsNil : FnOK Try.prog 30 [dProg.emb []] [] (.tup [.nils, .int .i64 2]) [] := by
  refine fn_walkF c30 w30 Gen_ok rfl ?_
  unfold j30
  simp only [go_sem, ↓reduceIte, Nat.reduceAdd, Nat.reduceMul, Nat.reduceSub, Nat.reduceLT, Nat.reduceLeDiff, Nat.reduceEqDiff, Int.reduceToNat, Int.reduceEq, Int.reduceLT, Int.reduceLE, reduceCtorEq, Gen_eq, ech_nil]
def G (f : FuncId) (a : List SV) (m : List Res) : Sx.Call := (FH.pz 38 (.two dProg dEn) (DP.two dBe DT.int) (fun _ => True) (fun y => wayT y.1 y.2.1) <|
  FH.mk 30 (.one dProg) (fun y => y.1 = []) (fun _ => .tup [.nils, .int .i64 2]) (fun _ => []) <|
  FH.rd 31 (.one dProg) (.one .int) (fun _ => True) (fun y => echF y.1) <|
  FH.pz 39 (.two dProg dEn) (DP.two dBe DT.bool) (fun y => echF y.1 = 0) (fun y => wayH y.1 y.2.1) <|
  FH.rd 28 (.two dIs dIs) (.one .bool) (fun _ => True) (fun y => eqBy ef_EqInt y.1 y.2.1) FH.none) f a m
theorem G_eq (f : FuncId) (a : List SV) (m : List Res) : G f a m = (FH.pz 38 (.two dProg dEn) (DP.two dBe DT.int) (fun _ => True) (fun y => wayT y.1 y.2.1) <|
  FH.mk 30 (.one dProg) (fun y => y.1 = []) (fun _ => .tup [.nils, .int .i64 2]) (fun _ => []) <|
  FH.rd 31 (.one dProg) (.one .int) (fun _ => True) (fun y => echF y.1) <|
  FH.pz 39 (.two dProg dEn) (DP.two dBe DT.bool) (fun y => echF y.1 = 0) (fun y => wayH y.1 y.2.1) <|
  FH.rd 28 (.two dIs dIs) (.one .bool) (fun _ => True) (fun y => eqBy ef_EqInt y.1 y.2.1) FH.none) f a m := nr rfl
theorem G_ok : FHOK Try.prog G := FH.pz_ok (by kernel_rfl) (fun y _ => f_Way y.1 y.2.1) <| FH.mk_ok (by kernel_rfl) (fun _ _ => plainM (pv_tup ⟨plV_nils, plV_int _ _, trivial⟩) trivial) (fun y h => by rw [show y = ([], ()) by cases y; cases h; rfl]; exact f_EndsNil) <|
  FH.rd_ok (by kernel_rfl) (fun y _ => f_REvCheck y.1) <| FH.pz_ok (by kernel_rfl) (fun y h => f_RWay (ech_ok h).1 (ech_ok h).2 y.2.1) <|
  FH.rd_ok (by kernel_rfl) (fun y _ => f_EqInt y.1 y.2.1) FH.none_ok
theorem f_law (p : List (List PO)) (e : En) : FnOK Try.prog 9 [dProg.emb p, dEn.emb e] [] (.bool true) [] := by
  refine fn_walkF c9 w9 G_ok rfl ?_
  unfold j9
  by_cases hc : echF p = 0
  · obtain ⟨e1, e2, e3⟩ := ways_same hc e
    cases hw : (wayF p e).2 with
    | true =>
      have hT : wayT p e = ((wayF p e).1, 0) := by rw [wayT, if_pos hc, if_pos hw]
      have hh : (wayH p e).2 = true := by rw [← e1]; exact hw
      simp only [go_sem, ↓reduceIte, Nat.reduceAdd, Nat.reduceMul, Nat.reduceSub, Nat.reduceLT, Nat.reduceLeDiff, Nat.reduceEqDiff, Int.reduceToNat, Int.reduceEq, Int.reduceLT, Int.reduceLE, reduceCtorEq, G_eq, hc, hT, hh]
      rw [e2 hw]
      exact eqBy_refl (by simp [ef_EqInt]) _
    | false =>
      have hT : wayT p e = (none, 7) := by rw [wayT, if_pos hc, if_neg (by rw [hw]; decide)]
      have hh : (wayH p e).2 = false := by rw [← e1]; exact hw
      have h3 := e3 hw
      simp only [go_sem, ↓reduceIte, Nat.reduceAdd, Nat.reduceMul, Nat.reduceSub, Nat.reduceLT, Nat.reduceLeDiff, Nat.reduceEqDiff, Int.reduceToNat, Int.reduceEq, Int.reduceLT, Int.reduceLE, reduceCtorEq, G_eq, hc, hT, hh, h3]
      rfl
  · have hT : wayT p e = (none, echF p) := by rw [wayT, if_neg hc]
    simp only [go_sem, ↓reduceIte, Nat.reduceAdd, Nat.reduceMul, Nat.reduceSub, Nat.reduceLT, Nat.reduceLeDiff, Nat.reduceEqDiff, Int.reduceToNat, Int.reduceEq, Int.reduceLT, Int.reduceLE, reduceCtorEq, G_eq, hc, hT]
    rfl
abbrev A : DA (List (List PO) × En × Unit) := .two dProg dEn
abbrev Ts : List TT := [.sl 1 (.sl 3 (.st [.int .i64, .int .i64, .int .i64])), tEn]
theorem lawP (y : DenL Ts) : A.decP [] (embL Ts y) := ⟨⟨rfl, fun _ _ => ⟨rfl, fun _ _ => ⟨rfl, rfl, rfl, trivial⟩⟩⟩, ⟨⟨rfl, rfl, fun _ _ => rfl⟩, ⟨rfl, rfl, fun _ _ => rfl⟩, ⟨rfl, rfl, fun _ _ => rfl⟩, trivial, trivial, trivial⟩, trivial⟩
theorem law (y : DenL Ts) (_ : okDL Ts y) : FnOK Try.prog 9 (A.emb (A.decV [] (embL Ts y))) [] (.bool true) [] := f_law _ _
theorem own : ownKnob Try.prog.godebug = none := by kernel_rfl
theorem laid : laidOutB Try.prog = true := by kernel_rfl
theorem lifted (os : Os) (started : os.Started) (H : Type) (enc : TypeId × Value → H) :
    ReturnsInHanded {} Try.checked os 9 .any (Rows.everyWaysSpec.pre6 enc Try.prog Try.f9 Rows.everyWaysRow.domain false) (Rows.everyWaysSpec.post enc Try.prog Try.f9 false true false false) := by
  refine returnsInHanded_of_change (C := Try.checked) own started (by kernel_rfl) Try.func9
    (ChangeSpec.witness6 (enc := enc) (C := Try.checked) false ⟨#[], #[.slice none 0 0, .agg #[.int .i64 0, .int .i64 0, .int .i64 0, .int .i64 0, .int .i64 0, .int .i64 0, .int .i64 0, .int .i64 0, .int .i64 0, .int .i64 0, .int .i64 0, .int .i64 0, .int .i64 0, .int .i64 0, .int .i64 0, .int .i64 0, .int .i64 0, .int .i64 0, .bool false, .bool false]], []⟩ 8 (by kernel_rfl) (by kernel_rfl) (by kernel_rfl) (by kernel_rfl)) ?_
  intro W base args ds gs before hval0 hW hcnd _
  have hW' := hW
  obtain ⟨p, q, hA, hV, rfl, hfz, hnd⟩ := hW
  obtain ⟨rfl, rfl⟩ := trodVars_none hV
  obtain ⟨y, hs, hok⟩ := open_args Ts (by kernel_rfl) hA (fun j t v h1 h2 => hval0 j t v (by simpa using h1) (by simpa using h2))
  obtain ⟨d1, d2, rfl⟩ := len_two (trod_len hA)
  refine (law_run (law y hok) W (vs := args.toList) (satA_conv (A := A) (lawP y) hs)).mono fun e W' ⟨he, hb⟩ => ?_
  subst he
  exact ⟨_, rfl, row_close laid (by kernel_rfl) (by kernel_rfl) Try.underlying4 rfl hW' hb rfl⟩
theorem holds : Rows.EveryWaysSaid :=
  OpenClaim.holds_of_wide 9 Try.f9 rfl rfl rfl rfl rfl rfl rfl ⟨rfl, rfl, rfl, rfl, rfl⟩ rfl rfl rfl rfl rfl (by kernel_rfl) Try.func9 (by kernel_rfl)
    (of_decide_eq_true (by kernel_rfl)) (by unfold Func.isWrapper; first | (rw [if_pos (by decide +kernel)]; kernel_rfl) | (rw [if_neg (by decide +kernel)]; exact ⟨rfl, rfl⟩))
    (fun os started H enc _ => lifted os started H enc)
#print axioms holds
end Go.Proofs.Ytgcbhanfhnianaa.EveryWays
