/- THE LAW 'ClockTicks' HANDS BACK TRUE, AND WHAT IT READS STANDS AS IT DID: FOR EVERY START. Conditions: none. -/
import Derived.Test.YtmddnblbfmlgoaaClock
import Derived.WalkKit
import Derived.ProofKit
import Derived.OpenShut
set_option linter.unusedSimpArgs false
set_option linter.unusedVariables false
set_option maxRecDepth 100000
open Go Go.Sx Go.Proofs Go.ChangeShapes Go.WideShapes Go.ChangeAt Go.RowKit
namespace Go.Proofs.Ytmddnblbfmlgoaa.ClockTicks
open Go.Proofs.Ytmddnblbfmlgoaa.D Go.Proofs.Ytmddnblbfmlgoaa.C
def j5 : JC :=
  (.seq (.ops <|
  eo 2 (.box 28 (.t 0)) <|
  qo 4 (.mv (B false)) <|
  .nil)
  (.seq (.ops <|
  eo 10 (.load 6 true (.t 2)) <|
  qo 11 (.mv (.t 1)) <|
  eo 12 (.call 19 [(.t 10), (.t 11)]) <|
  qo 9 (.mv (.t 12)) <|
  qo 13 (.ext 0 (.t 9)) <|
  .prune [9, 13, 2, 1] <|
  qo 14 (.ext 1 (.t 9)) <|
  eo 5 (.alloc 28 (.arr 6 1 fun _ => (.int .i64 0))) <|
  en (.store 6 (.t 5) (.t 13)) <|
  qo 6 (.mv (.t 14)) <|
  .nil)
  (.prune [2, 1, 5, 6] (.seq (.ops <|
  eo 16 (.load 6 true (.t 2)) <|
  qo 17 (.mv (.t 1)) <|
  eo 18 (.call 20 [(.t 16), (.t 17)]) <|
  .prune [18, 5, 6] <|
  qo 15 (.mv (.t 18)) <|
  qo 19 (.ext 0 (.t 15)) <|
  qo 20 (.ext 1 (.t 15)) <|
  eo 7 (.alloc 28 (.arr 6 1 fun _ => (.int .i64 0))) <|
  en (.store 6 (.t 7) (.t 19)) <|
  qo 8 (.mv (.t 20)) <|
  .nil)
  (.prune [5, 7, 6, 8] (.seq (.ops <|
  eo 21 (.load 6 true (.t 5)) <|
  eo 22 (.load 6 true (.t 7)) <|
  qo 23 (.aeq false (.arr 6 1 (.int .i64)) (.t 21) (.t 22)) <|
  .prune [23, 6, 8] <|
  qo 24 (.mv (.t 23)) <|
  .sc false 28 24 (qo 25 (.mv (.t 6)) <|
  qo 26 (.mv (.t 8)) <|
  qo 27 (.cmp .eql (.t 25) (.t 26)) <|
  .nil) (.t 27) <|
  qo 4 (.mv (.t 28)) <|
  .nil)
  .ret))))))
theorem c5 : fnIs Try.prog qall 5 = some (j5.flat, [.tmp 4], 29) := by kernel_rfl
theorem w5 : j5.wf 29 = true := by kernel_rfl
def G : FH := FH.rd 19 (.two dClk .int) (.two dClk .int) (fun _ => True) (fun y => tickF y.1 y.2.1) <| FH.rd 20 (.two dClk .int) (.two dClk .int) (fun _ => True) (fun y => tickF y.1 y.2.1) FH.none
theorem G_ok : FHOK Try.prog G := FH.rd_ok (by kernel_rfl) (fun y _ => f_Tick y.1 y.2.1) <| FH.rd_ok (by kernel_rfl) (fun y _ => f_RTick y.1 y.2.1) FH.none_ok
theorem f_law (c : Clk) (t : Int) : FnOK Try.prog 5 [dClk.emb c, .int .i64 t] [] (.bool true) [] := by
  refine fn_walkF c5 w5 G_ok rfl ?_
  unfold j5
  simp only [go_sem, reduceIte, Nat.reduceAdd, Nat.reduceMul, Nat.reduceSub, Nat.reduceLT, Nat.reduceLeDiff, Nat.reduceEqDiff, Int.reduceToNat, reduceCtorEq, G]
  simp
abbrev A : DA (Clk × Int × Unit) := .two dClk .int
abbrev Ts : List TT := [.arr 6 1 (.int .i64), .int .i64]
theorem lawP (y : DenL Ts) : A.decP [] (embL Ts y) := ⟨⟨rfl, rfl, fun _ _ => rfl⟩, rfl, trivial⟩
theorem law (y : DenL Ts) (_ : okDL Ts y) : FnOK Try.prog 5 (A.emb (A.decV [] (embL Ts y))) [] (.bool true) [] := f_law y.1 y.2.1
theorem own : ownKnob Try.prog.godebug = none := by kernel_rfl
theorem laid : laidOutB Try.prog = true := by kernel_rfl
theorem lifted (os : Os) (started : os.Started) (H : Type) (enc : TypeId × Value → H) :
    ReturnsInHanded {} Try.checked os 5 .any (Rows.clockTicksSpec.pre6 enc Try.prog Try.f5 Rows.clockTicksRow.domain false) (Rows.clockTicksSpec.post enc Try.prog Try.f5 false true false false) := by
  refine returnsInHanded_of_change (C := Try.checked) own started (by kernel_rfl) Try.func5
    (ChangeSpec.witness6 (enc := enc) (C := Try.checked) false ⟨#[], #[.agg #[.int .i64 0, .int .i64 0, .int .i64 0, .int .i64 0, .int .i64 0, .int .i64 0], .int .i64 0], []⟩ 8 (by kernel_rfl) (by kernel_rfl) (by kernel_rfl) (by kernel_rfl)) ?_
  intro W base args ds gs before hval0 hW hcnd _
  have hW' := hW
  obtain ⟨p, q, hA, hV, rfl, hfz, hnd⟩ := hW
  obtain ⟨rfl, rfl⟩ := trodVars_none hV
  obtain ⟨y, hs, hok⟩ := open_args Ts (by kernel_rfl) hA (fun j t v h1 h2 => hval0 j t v (by simpa using h1) (by simpa using h2))
  obtain ⟨d1, d2, rfl⟩ := len_two (trod_len hA)
  refine (law_run (law y hok) W (vs := args.toList) (satA_conv (A := A) (lawP y) hs)).mono fun e W' ⟨he, hb⟩ => ?_
  subst he
  exact ⟨_, rfl, row_close laid (by kernel_rfl) (by kernel_rfl) Try.underlying4 rfl hW' hb rfl⟩
theorem holds : Rows.ClockTicksSaid :=
  OpenClaim.holds_of_wide 5 Try.f5 rfl rfl rfl rfl rfl rfl rfl ⟨rfl, rfl, rfl, rfl, rfl⟩ rfl rfl rfl rfl rfl (by kernel_rfl) Try.func5 (by kernel_rfl)
    (of_decide_eq_true (by kernel_rfl)) (by unfold Func.isWrapper; first | (rw [if_pos (by decide +kernel)]; kernel_rfl) | (rw [if_neg (by decide +kernel)]; exact ⟨rfl, rfl⟩))
    (fun os started H enc _ => lifted os started H enc)
#print axioms holds
end Go.Proofs.Ytmddnblbfmlgoaa.ClockTicks
