/- THE LAW 'ClockJoins' HANDS BACK TRUE, AND WHAT IT READS STANDS AS IT DID: FOR EVERY START. Conditions: none. -/
import Derived.Test.YtmddnblbfmlgoaaClock
import Derived.WalkKit
import Derived.ProofKit
import Derived.OpenShut
set_option linter.unusedSimpArgs false
set_option linter.unusedVariables false
set_option maxRecDepth 100000
open Go Go.Sx Go.Proofs Go.ChangeShapes Go.WideShapes Go.ChangeAt Go.RowKit
namespace Go.Proofs.Ytmddnblbfmlgoaa.ClockJoins
open Go.Proofs.Ytmddnblbfmlgoaa.D Go.Proofs.Ytmddnblbfmlgoaa.C
def j7 : JC :=
  (.seq (.ops <|
  eo 2 (.box 28 (.t 0)) <|
  eo 3 (.box 28 (.t 1)) <|
  qo 4 (.mv (B false)) <|
  .nil)
  (.seq (.dops <|
  eo 5 (.load 6 true (.t 2)) <|
  eo 6 (.load 6 true (.t 3)) <|
  eo 7 (.qcall 25 [(.t 5), (.t 6)]) <|
  eo 8 (.load 6 true (.t 2)) <|
  .prune [3, 8, 7, 2] <|
  eo 9 (.load 6 true (.t 3)) <|
  eo 10 (.qcall 26 [(.t 8), (.t 9), (B true)]) <|
  qo 11 (.aeq false (.arr 6 1 (.int .i64)) (.t 7) (.t 10)) <|
  .prune [11, 2, 3] <|
  qo 12 (.mv (.t 11)) <|
  .sc false 20 12 (eo 13 (.load 6 true (.t 2)) <|
  eo 14 (.load 6 true (.t 3)) <|
  eo 15 (.qcall 27 [(.t 13), (.t 14)]) <|
  eo 16 (.load 6 true (.t 2)) <|
  eo 17 (.load 6 true (.t 3)) <|
  eo 18 (.qcall 26 [(.t 16), (.t 17), (B false)]) <|
  qo 19 (.aeq false (.arr 6 1 (.int .i64)) (.t 15) (.t 18)) <|
  .nil) (.t 19) <|
  qo 21 (.mv (.t 20)) <|
  .sc false 26 21 (qo 22 (.bld (.arr 6 1 fun _ => (.int .i64 0)) []) <|
  qo 23 (.bld (.arr 6 1 fun _ => (.int .i64 0)) [([.idx 0 6], 0, 1, (I 1))]) <|
  eo 24 (.qcall 23 [(.t 22), (.t 23)]) <|
  qo 25 (.cmp .eql (.t 24) (I 1)) <|
  .nil) (.t 25) <|
  qo 4 (.mv (.t 26)) <|
  .nil)
  .ret))
theorem c7 : fnIs Try.prog qall 7 = some (j7.flat, [.tmp 4], 27) := by kernel_rfl
theorem w7 : j7.wf 27 = true := by kernel_rfl
def G (f : FuncId) (a : List SV) (m : List Res) : Sx.Call := (FH.rd 25 (.two dClk dClk) (.one dClk) (fun _ => True) (fun y => joinC y.1 y.2.1) <| FH.rd 27 (.two dClk dClk) (.one dClk) (fun _ => True) (fun y => meetC y.1 y.2.1) <|
  FH.rd 26 (.three dClk dClk .bool) (.one dClk) (fun _ => True) (fun y => joinR y.1 y.2.1 y.2.2.1 6) <| FH.rd 23 (.two dClk dClk) (.one .int) (fun _ => True) (fun y => cmpC y.1 y.2.1) FH.none) f a m
theorem G_ok : FHOK Try.prog G := FH.rd_ok (by kernel_rfl) (fun y _ => f_Join y.1 y.2.1) <| FH.rd_ok (by kernel_rfl) (fun y _ => f_Meet y.1 y.2.1) <|
  FH.rd_ok (by kernel_rfl) (fun y _ => f_Joined y.1 y.2.1 y.2.2.1) <| FH.rd_ok (by kernel_rfl) (fun y _ => f_Compare y.1 y.2.1) FH.none_ok
theorem f_law (a b : Clk) : FnOK Try.prog 7 [dClk.emb a, dClk.emb b] [] (.bool true) [] := by
  refine fn_walkF c7 w7 G_ok rfl ?_
  unfold j7
  simp only [go_sem, reduceIte, Nat.reduceAdd, Nat.reduceMul, Nat.reduceSub, Nat.reduceLT, Nat.reduceLeDiff, Nat.reduceEqDiff, Int.reduceToNat, reduceCtorEq, G]
  have e1 : ((List.range 0 ++ [0, 1, 2, 3, 4, 5]).all fun i => decide (joinC a b i = joinR a b true 6 i)) = true := (all6 _).2 fun k hk => by
    simp only [joinC, mrg, joinR, if_pos hk, mxI, decide_eq_true_eq]
  have e2 : ((List.range 0 ++ [0, 1, 2, 3, 4, 5]).all fun i => decide (meetC a b i = joinR a b false 6 i)) = true := (all6 _).2 fun k hk => by
    simp only [meetC, mrg, joinR, if_pos hk, mnI, decide_eq_true_eq, decide_eq_false_iff_not]
    split <;> split <;> omega
  rw [e1, e2]
  rfl
abbrev A : DA (Clk × Clk × Unit) := .two dClk dClk
abbrev Ts : List TT := [.arr 6 1 (.int .i64), .arr 6 1 (.int .i64)]
theorem lawP (y : DenL Ts) : A.decP [] (embL Ts y) := ⟨⟨rfl, rfl, fun _ _ => rfl⟩, ⟨rfl, rfl, fun _ _ => rfl⟩, trivial⟩
theorem law (y : DenL Ts) (_ : okDL Ts y) : FnOK Try.prog 7 (A.emb (A.decV [] (embL Ts y))) [] (.bool true) [] := f_law y.1 y.2.1
theorem own : ownKnob Try.prog.godebug = none := by kernel_rfl
theorem laid : laidOutB Try.prog = true := by kernel_rfl
theorem lifted (os : Os) (started : os.Started) (H : Type) (enc : TypeId × Value → H) :
    ReturnsInHanded {} Try.checked os 7 .any (Rows.clockJoinsSpec.pre6 enc Try.prog Try.f7 Rows.clockJoinsRow.domain false) (Rows.clockJoinsSpec.post enc Try.prog Try.f7 false true false false) := by
  refine returnsInHanded_of_change (C := Try.checked) own started (by kernel_rfl) Try.func7
    (ChangeSpec.witness6 (enc := enc) (C := Try.checked) false ⟨#[], #[.agg #[.int .i64 0, .int .i64 0, .int .i64 0, .int .i64 0, .int .i64 0, .int .i64 0], .agg #[.int .i64 0, .int .i64 0, .int .i64 0, .int .i64 0, .int .i64 0, .int .i64 0]], []⟩ 8 (by kernel_rfl) (by kernel_rfl) (by kernel_rfl) (by kernel_rfl)) ?_
  intro W base args ds gs before hval0 hW hcnd _
  have hW' := hW
  obtain ⟨p, q, hA, hV, rfl, hfz, hnd⟩ := hW
  obtain ⟨rfl, rfl⟩ := trodVars_none hV
  obtain ⟨y, hs, hok⟩ := open_args Ts (by kernel_rfl) hA (fun j t v h1 h2 => hval0 j t v (by simpa using h1) (by simpa using h2))
  obtain ⟨d1, d2, rfl⟩ := len_two (trod_len hA)
  refine (law_run (law y hok) W (vs := args.toList) (satA_conv (A := A) (lawP y) hs)).mono fun e W' ⟨he, hb⟩ => ?_
  subst he
  exact ⟨_, rfl, row_close laid (by kernel_rfl) (by kernel_rfl) Try.underlying4 rfl hW' hb rfl⟩
theorem holds : Rows.ClockJoinsSaid :=
  OpenClaim.holds_of_wide 7 Try.f7 rfl rfl rfl rfl rfl rfl rfl ⟨rfl, rfl, rfl, rfl, rfl⟩ rfl rfl rfl rfl rfl (by kernel_rfl) Try.func7 (by kernel_rfl)
    (of_decide_eq_true (by kernel_rfl)) (by unfold Func.isWrapper; first | (rw [if_pos (by decide +kernel)]; kernel_rfl) | (rw [if_neg (by decide +kernel)]; exact ⟨rfl, rfl⟩))
    (fun os started H enc _ => lifted os started H enc)
#print axioms holds
end Go.Proofs.Ytmddnblbfmlgoaa.ClockJoins
