/- THE LAW 'ClockEpochs' HANDS BACK TRUE, AND WHAT IT READS STANDS AS IT DID: FOR EVERY START. Conditions: none. -/
import Derived.Test.YtmddnblbfmlgoaaClock
import Derived.WalkKit
import Derived.ProofKit
import Derived.OpenShut
set_option linter.unusedSimpArgs false
set_option linter.unusedVariables false
set_option maxRecDepth 100000
open Go Go.Sx Go.Proofs Go.ChangeShapes Go.WideShapes Go.ChangeAt Go.RowKit
namespace Go.Proofs.Ytmddnblbfmlgoaa.ClockEpochs
open Go.Proofs.Ytmddnblbfmlgoaa.D Go.Proofs.Ytmddnblbfmlgoaa.C

def j4 : JC :=
  (.seq (.ops <|
  eo 3 (.box 28 (.t 0)) <|
  eo 5 (.box 30 (.t 2)) <|
  qo 6 (.mv (B false)) <|
  .nil)
  (.seq (.ops <|
  eo 12 (.load 6 true (.t 3)) <|
  qo 13 (.mv (.t 1)) <|
  eo 14 (.call 16 [(.t 12), (.t 13)]) <|
  qo 11 (.mv (.t 14)) <|
  .prune [11, 1, 3, 5] <|
  qo 15 (.ext 0 (.t 11)) <|
  qo 16 (.ext 1 (.t 11)) <|
  eo 7 (.alloc 30 (.agg [(.int .i64 0), (.int .i64 0)])) <|
  en (.store 2 (.t 7) (.t 15)) <|
  qo 8 (.mv (.t 16)) <|
  .nil)
  (.prune [1, 3, 7, 8, 5] (.seq (.ops <|
  qo 17 (.bld (.agg [(.int .i64 0), (.int .i64 0)]) []) <|
  eo 9 (.alloc 30 (.agg [(.int .i64 0), (.int .i64 0)])) <|
  en (.store 2 (.t 9) (.t 17)) <|
  qo 10 (.mv (I 1)) <|
  .nil)
  (.seq (.seq (.ops <|
  qo 18 (.mv (.t 1)) <|
  qo 19 (.cmp .geq (.t 18) (I 0)) <|
  .prune [19, 1, 3, 9, 7, 8, 5, 10] <|
  qo 20 (.mv (.t 19)) <|
  .sc false 23 20 (qo 21 (.mv (.t 1)) <|
  qo 22 (.cmp .lss (.t 21) (I 6)) <|
  .nil) (.t 22) <|
  .nil)
  (.prune [23, 1, 3, 9, 7, 8, 5, 10] (.cond (.t 23)
  (.ops <|
  qo 24 (.mv (.t 1)) <|
  qo 25 (.mv (.t 1)) <|
  .prune [3, 25, 24, 9, 7, 8, 5] <|
  qo 26 (.ia 6 1 (.t 3) (.t 25)) <|
  eo 27 (.load 1 false (.t 26)) <|
  qo 28 (.bld (.agg [(.int .i64 0), (.int .i64 0)]) [([.fld 0], 0, 1, (.t 24)), ([.fld 1], 1, 1, (.t 27))]) <|
  en (.store 2 (.t 9) (.t 28)) <|
  qo 10 (.mv (I 0)) <|
  .nil)
  .skip)))
  (.prune [7, 9, 8, 10, 5, 3] (.seq (.dops <|
  eo 29 (.load 2 true (.t 7)) <|
  eo 30 (.load 2 true (.t 9)) <|
  qo 31 (.aeq false (.st [(.int .i64), (.int .i64)]) (.t 29) (.t 30)) <|
  .prune [31, 8, 10, 5, 3] <|
  qo 32 (.mv (.t 31)) <|
  .sc false 36 32 (qo 33 (.mv (.t 8)) <|
  qo 34 (.mv (.t 10)) <|
  qo 35 (.cmp .eql (.t 33) (.t 34)) <|
  .nil) (.t 35) <|
  .prune [36, 5, 3] <|
  qo 37 (.mv (.t 36)) <|
  .sc false 45 37 (eo 38 (.load 2 true (.t 5)) <|
  eo 39 (.load 6 true (.t 3)) <|
  eo 40 (.qcall 17 [(.t 38), (.t 39)]) <|
  eo 41 (.load 2 true (.t 5)) <|
  eo 42 (.load 6 true (.t 3)) <|
  eo 43 (.qcall 18 [(.t 41), (.t 42)]) <|
  qo 44 (.beq false (.t 40) (.t 43)) <|
  .nil) (.t 44) <|
  qo 46 (.mv (.t 45)) <|
  .sc false 50 46 (qo 47 (.bld (.agg [(.int .i64 0), (.int .i64 0)]) [([.fld 1], 1, 1, (I 1))]) <|
  qo 48 (.bld (.arr 6 1 fun _ => (.int .i64 0)) [([.idx 0 6], 0, 1, (I 1))]) <|
  eo 49 (.qcall 17 [(.t 47), (.t 48)]) <|
  .nil) (.t 49) <|
  qo 6 (.mv (.t 50)) <|
  .nil)
  .ret)))))))
theorem c4 : fnIs Try.prog qall 4 = some (j4.flat, [.tmp 6], 51) := by kernel_rfl
theorem w4 : j4.wf 51 = true := by kernel_rfl
def G (f : FuncId) (a : List SV) (m : List Res) : Sx.Call := (FH.rd 16 (.two dClk .int) (.two dPr .int) (fun _ => True) (fun y => C.ofF y.1 y.2.1) <| FH.rd 17 (.two dPr dClk) (.one .bool) (fun _ => True) (fun y => seenB y.1 y.2.1) <|
  FH.rd 18 (.two dPr dClk) (.one .bool) (fun _ => True) (fun y => seenB y.1 y.2.1) FH.none) f a m
theorem G_eq (f : FuncId) (a : List SV) (m : List Res) : G f a m = (FH.rd 16 (.two dClk .int) (.two dPr .int) (fun _ => True) (fun y => C.ofF y.1 y.2.1) <| FH.rd 17 (.two dPr dClk) (.one .bool) (fun _ => True) (fun y => seenB y.1 y.2.1) <|
  FH.rd 18 (.two dPr dClk) (.one .bool) (fun _ => True) (fun y => seenB y.1 y.2.1) FH.none) f a m := nr rfl
theorem G_ok : FHOK Try.prog G := FH.rd_ok (by kernel_rfl) (fun y _ => f_Of y.1 y.2.1) <| FH.rd_ok (by kernel_rfl) (fun y _ => f_Seen y.1 y.2.1) <|
  FH.rd_ok (by kernel_rfl) (fun y _ => f_RSeen y.1 y.2.1) FH.none_ok
theorem f_law (c : Clk) (t : Int) (e : Pr) : FnOK Try.prog 4 [dClk.emb c, .int .i64 t, dPr.emb e] [] (.bool true) [] := by
  refine fn_walkF c4 w4 G_ok rfl ?_
  unfold j4
  simp only [go_sem, ↓reduceIte, Nat.reduceAdd, Nat.reduceMul, Nat.reduceSub, Nat.reduceLT, Nat.reduceLeDiff, Nat.reduceEqDiff, Int.reduceToNat, reduceCtorEq, G_eq, tszC, tszE]
  have h3 : (seenB ⟨0, 1⟩ fun i => if i = 0 then 1 else 0) = true := by decide
  rw [h3]
  refine ⟨fun h => ?_, fun h => ?_⟩
  · have ht : isThr t = true := h
    exact ⟨(isThr_iff t).1 ht, by simp [C.ofF, ht]⟩
  · have ht : isThr t = false := h
    simp [C.ofF, ht]
abbrev A : DA (Clk × Int × Pr × Unit) := .three dClk .int dPr
abbrev Ts : List TT := [.arr 6 1 (.int .i64), .int .i64, .st [.int .i64, .int .i64]]
theorem lawP (y : DenL Ts) : A.decP [] (embL Ts y) := ⟨⟨rfl, rfl, fun _ _ => rfl⟩, rfl, ⟨rfl, rfl, trivial⟩, trivial⟩
theorem law (y : DenL Ts) (_ : okDL Ts y) : FnOK Try.prog 4 (A.emb (A.decV [] (embL Ts y))) [] (.bool true) [] := f_law y.1 y.2.1 ⟨y.2.2.1.1, y.2.2.1.2.1⟩
theorem own : ownKnob Try.prog.godebug = none := by kernel_rfl
theorem laid : laidOutB Try.prog = true := by kernel_rfl
theorem lifted (os : Os) (started : os.Started) (H : Type) (enc : TypeId × Value → H) :
    ReturnsInHanded {} Try.checked os 4 .any (Rows.clockEpochsSpec.pre6 enc Try.prog Try.f4 Rows.clockEpochsRow.domain false) (Rows.clockEpochsSpec.post enc Try.prog Try.f4 false true false false) := by
  refine returnsInHanded_of_change (C := Try.checked) own started (by kernel_rfl) Try.func4
    (ChangeSpec.witness6 (enc := enc) (C := Try.checked) false ⟨#[], #[.agg #[.int .i64 0, .int .i64 0, .int .i64 0, .int .i64 0, .int .i64 0, .int .i64 0], .int .i64 0, .agg #[.int .i64 0, .int .i64 0]], []⟩ 8 (by kernel_rfl) (by kernel_rfl) (by kernel_rfl) (by kernel_rfl)) ?_
  intro W base args ds gs before hval0 hW hcnd _
  have hW' := hW
  obtain ⟨p, q, hA, hV, rfl, hfz, hnd⟩ := hW
  obtain ⟨rfl, rfl⟩ := trodVars_none hV
  obtain ⟨y, hs, hok⟩ := open_args Ts (by kernel_rfl) hA (fun j t v h1 h2 => hval0 j t v (by simpa using h1) (by simpa using h2))
  obtain ⟨d1, d2, d3, rfl⟩ := len_three (trod_len hA)
  refine (law_run (law y hok) W (vs := args.toList) (satA_conv (A := A) (lawP y) hs)).mono fun e W' ⟨he, hb⟩ => ?_
  subst he
  exact ⟨_, rfl, row_close laid (by kernel_rfl) (by kernel_rfl) Try.underlying4 rfl hW' hb rfl⟩
theorem holds : Rows.ClockEpochsSaid :=
  OpenClaim.holds_of_wide 4 Try.f4 rfl rfl rfl rfl rfl rfl rfl ⟨rfl, rfl, rfl, rfl, rfl⟩ rfl rfl rfl rfl rfl (by kernel_rfl) Try.func4 (by kernel_rfl)
    (of_decide_eq_true (by kernel_rfl)) (by unfold Func.isWrapper; first | (rw [if_pos (by decide +kernel)]; kernel_rfl) | (rw [if_neg (by decide +kernel)]; exact ⟨rfl, rfl⟩))
    (fun os started H enc _ => lifted os started H enc)
#print axioms holds
end Go.Proofs.Ytmddnblbfmlgoaa.ClockEpochs
