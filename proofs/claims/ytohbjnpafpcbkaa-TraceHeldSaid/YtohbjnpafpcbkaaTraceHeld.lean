/- THE LAW 'TraceHeld' HANDS BACK TRUE, AND WHAT IT READS STANDS AS IT DID: FOR EVERY START. Conditions: none. -/
import Derived.Test.YtohbjnpafpcbkaaTraceH
import Derived.WalkKit
import Derived.ProofKit
import Derived.OpenShut
set_option linter.unusedSimpArgs false
set_option linter.unusedVariables false
set_option maxRecDepth 100000
open Go Go.Sx Go.Proofs Go.ChangeShapes Go.WideShapes Go.ChangeAt Go.RowKit
namespace Go.Proofs.Ytohbjnpafpcbkaa.TraceHeld
open Go.Proofs.Ytohbjnpafpcbkaa.D Go.Proofs.Ytohbjnpafpcbkaa.Tr

def j3 : JC :=
  (.seq (.ops <|
  qo 4 (.mv (B false)) <|
  .nil)
  (.seq (.ops <|
  qo 11 (.mv (.t 0)) <|
  qo 12 (.mv (.t 1)) <|
  eo 13 (.call 15 [(.t 11), (.t 12)]) <|
  qo 10 (.mv (.t 13)) <|
  qo 14 (.ext 0 (.t 10)) <|
  qo 15 (.ext 1 (.t 10)) <|
  qo 5 (.mv (.t 14)) <|
  qo 6 (.mv (.t 15)) <|
  .nil)
  (.seq (.ops <|
  .prune [0, 1, 6, 5] <|
  qo 16 (.mv (.t 0)) <|
  eo 17 (.call 16 [(.t 16)]) <|
  qo 7 (.mv (.t 17)) <|
  .nil)
  (.prune [7, 1, 6, 5, 0] (.seq (.seq (.ops <|
  qo 18 (.mv (.t 7)) <|
  qo 19 (.cmp .eql (.t 18) (I 0)) <|
  qo 20 (.mv (.t 19)) <|
  .sc false 27 20 (qo 21 (.mv (.t 1)) <|
  qo 22 (.cmp .lss (.t 21) (I 0)) <|
  qo 23 (.mv (.t 22)) <|
  .sc true 26 23 (qo 24 (.mv (.t 1)) <|
  qo 25 (.cmp .gtr (.t 24) (I 5)) <|
  .nil) (.t 25) <|
  .nil) (.t 26) <|
  .nil)
  (.prune [27, 6, 5, 0, 1, 7] (.cond (.t 27)
  (.ops <|
  qo 7 (.mv (I 1)) <|
  .nil)
  .skip)))
  (.prune [6, 7, 5, 0, 1] (.seq (.ops <|
  eo 29 (.call 18 []) <|
  eo 30 (.call 17 [(.t 29)]) <|
  qo 28 (.mv (.t 30)) <|
  qo 31 (.ext 0 (.t 28)) <|
  qo 32 (.ext 1 (.t 28)) <|
  qo 8 (.mv (.t 31)) <|
  qo 9 (.mv (.t 32)) <|
  .nil)
  (.prune [6, 7, 5, 0, 1, 9] (.seq (.ops <|
  qo 33 (.mv (.t 6)) <|
  qo 34 (.mv (.t 7)) <|
  qo 35 (.cmp .eql (.t 33) (.t 34)) <|
  .prune [35, 6, 5, 0, 1, 9] <|
  qo 36 (.mv (.t 35)) <|
  .sc false 54 36 (qo 37 (.mv (.t 6)) <|
  qo 38 (.cmp .neq (.t 37) (I 0)) <|
  qo 39 (.mv (.t 38)) <|
  .sc false 42 39 (qo 40 (.mv (.t 5)) <|
  qo 41 (.cmp .eql (.t 40) (I 0)) <|
  .nil) (.t 41) <|
  qo 43 (.mv (.t 42)) <|
  .sc true 53 43 (qo 44 (.mv (.t 6)) <|
  qo 45 (.cmp .eql (.t 44) (I 0)) <|
  qo 46 (.mv (.t 45)) <|
  .sc false 52 46 (qo 47 (.mv (.t 5)) <|
  qo 48 (.mv (.t 0)) <|
  qo 49 (.mv (.t 1)) <|
  eo 50 (.call 19 [(.t 48), (.t 49)]) <|
  qo 51 (.cmp .eql (.t 47) (.t 50)) <|
  .nil) (.t 51) <|
  .nil) (.t 52) <|
  .nil) (.t 53) <|
  .prune [54, 9] <|
  qo 55 (.mv (.t 54)) <|
  .sc false 58 55 (qo 56 (.mv (.t 9)) <|
  qo 57 (.cmp .eql (.t 56) (I 1)) <|
  .nil) (.t 57) <|
  qo 4 (.mv (.t 58)) <|
  .nil)
  .ret)))))))))
theorem c3 : fnIs Try.prog qall 3 = some (j3.flat, [.tmp 4], 59) := by kernel_rfl
theorem w3 : j3.wf 59 = true := by kernel_rfl
def G (f : FuncId) (a : List SV) (m : List Res) : Sx.Call := (FH.rd 15 (.two dEs .int) (.two .int .int) (fun _ => True) (fun y => heldF y.1 y.2.1) <| FH.rd 16 (.one dEs) (.one .int) (fun _ => True) (fun y => (checkR y.1).2) <|
  FH.rd 19 (.two dEs .int) (.one .int) (fun _ => True) (fun y => ((rheld y.1 y.2.1 5 : Nat) : Int)) <| FH.rd 17 (.one dEs) (.two .int .int) (fun _ => True) (fun y => (playedF y.1).2) <|
  FH.mk 18 .nil (fun _ => True) (fun _ => .vec 0 1) (fun _ => [.vec 54 3 ([badE].map dEv.emb)]) FH.none) f a m
theorem G_eq (f : FuncId) (a : List SV) (m : List Res) : G f a m = (FH.rd 15 (.two dEs .int) (.two .int .int) (fun _ => True) (fun y => heldF y.1 y.2.1) <| FH.rd 16 (.one dEs) (.one .int) (fun _ => True) (fun y => (checkR y.1).2) <|
  FH.rd 19 (.two dEs .int) (.one .int) (fun _ => True) (fun y => ((rheld y.1 y.2.1 5 : Nat) : Int)) <| FH.rd 17 (.one dEs) (.two .int .int) (fun _ => True) (fun y => (playedF y.1).2) <|
  FH.mk 18 .nil (fun _ => True) (fun _ => .vec 0 1) (fun _ => [.vec 54 3 ([badE].map dEv.emb)]) FH.none) f a m := nr rfl
theorem G_ok : FHOK Try.prog G := FH.rd_ok (by kernel_rfl) (fun y _ => f_Held y.1 y.2.1) <| FH.rd_ok (by kernel_rfl) (fun y _ => f_May y.1) <| FH.rd_ok (by kernel_rfl) (fun y _ => f_RHeld y.1 y.2.1) <|
  FH.rd_ok (by kernel_rfl) (fun y _ => f_Check y.1) <| FH.mk_ok (by kernel_rfl) (fun _ _ => plain_vec _ _ dEv 1 [badE]) (fun _ _ => f_wrong) FH.none_ok
theorem f_law (l : List Ev) (t : Int) : FnOK Try.prog 3 [dEs.emb l, .int .i64 t] [] (.bool true) [] := by
  refine fn_walkF c3 w3 G_ok rfl ?_
  unfold j3
  simp only [go_sem, ↓reduceIte, Nat.reduceAdd, Nat.reduceMul, Nat.reduceSub, Nat.reduceLT, Nat.reduceLeDiff, Nat.reduceEqDiff, Int.reduceToNat, reduceCtorEq, G_eq]
  have hb : (playedF [badE]).2.2 = 1 := by decide
  have hs : (playedF l).2.2 = (checkR l).2 := by rw [played_check]
  rw [hb]
  unfold heldF
  rw [hs]
  by_cases h0 : (checkR l).2 = 0
  · rw [held_agr h0]
    by_cases ht : t < 0 ∨ 6 ≤ t
    · have ht' : t < 0 ∨ 5 < t := by omega
      rw [if_neg ((Decidable.not_not.2 h0)), if_pos ht]
      refine ⟨fun _ => by simp, fun h => ?_⟩
      simp only [h0, decide_true, Bool.true_and, Bool.or_eq_false_iff, decide_eq_false_iff_not] at h
      omega
    · have ht' : ¬ (t < 0 ∨ 5 < t) := by omega
      rw [if_neg ((Decidable.not_not.2 h0)), if_neg ht]
      refine ⟨fun h => ?_, fun h => by simp [h0]⟩
      simp only [h0, decide_true, Bool.true_and, Bool.or_eq_true, decide_eq_true_eq] at h
      omega
  · simp [h0]
abbrev A : DA (List Ev × Int × Unit) := .two dEs .int
abbrev Ts : List TT := [.sl 3 (.st [.int .i64, .int .i64, .int .i64]), .int .i64]
theorem lawP (y : DenL Ts) : A.decP [] (embL Ts y) := ⟨⟨rfl, fun _ _ => ⟨rfl, rfl, rfl, trivial⟩⟩, rfl, trivial⟩
theorem law (y : DenL Ts) (_ : okDL Ts y) : FnOK Try.prog 3 (A.emb (A.decV [] (embL Ts y))) [] (.bool true) [] := f_law _ _
theorem own : ownKnob Try.prog.godebug = none := by kernel_rfl
theorem laid : laidOutB Try.prog = true := by kernel_rfl
theorem lifted (os : Os) (started : os.Started) (H : Type) (enc : TypeId × Value → H) :
    ReturnsInHanded {} Try.checked os 3 .any (Rows.traceHeldSpec.pre6 enc Try.prog Try.f3 Rows.traceHeldRow.domain false) (Rows.traceHeldSpec.post enc Try.prog Try.f3 false true false false) := by
  refine returnsInHanded_of_change (C := Try.checked) own started (by kernel_rfl) Try.func3
    (ChangeSpec.witness6 (enc := enc) (C := Try.checked) false ⟨#[], #[.slice none 0 0, .int .i64 0], []⟩ 8 (by kernel_rfl) (by kernel_rfl) (by kernel_rfl) (by kernel_rfl)) ?_
  intro W base args ds gs before hval0 hW hcnd _
  have hW' := hW
  obtain ⟨p, q, hA, hV, rfl, hfz, hnd⟩ := hW
  obtain ⟨rfl, rfl⟩ := trodVars_none hV
  obtain ⟨y, hs, hok⟩ := open_args Ts (by kernel_rfl) hA (fun j t v h1 h2 => hval0 j t v (by simpa using h1) (by simpa using h2))
  obtain ⟨d1, d2, rfl⟩ := len_two (trod_len hA)
  refine (law_run (law y hok) W (vs := args.toList) (satA_conv (A := A) (lawP y) hs)).mono fun e W' ⟨he, hb⟩ => ?_
  subst he
  exact ⟨_, rfl, row_close laid (by kernel_rfl) (by kernel_rfl) Try.underlying4 rfl hW' hb rfl⟩
theorem holds : Rows.TraceHeldSaid :=
  OpenClaim.holds_of_wide 3 Try.f3 rfl rfl rfl rfl rfl rfl rfl ⟨rfl, rfl, rfl, rfl, rfl⟩ rfl rfl rfl rfl rfl (by kernel_rfl) Try.func3 (by kernel_rfl)
    (of_decide_eq_true (by kernel_rfl)) (by unfold Func.isWrapper; first | (rw [if_pos (by decide +kernel)]; kernel_rfl) | (rw [if_neg (by decide +kernel)]; exact ⟨rfl, rfl⟩))
    (fun os started H enc _ => lifted os started H enc)
#print axioms holds
end Go.Proofs.Ytohbjnpafpcbkaa.TraceHeld
