/- THE LAW 'TraceChecks' HANDS BACK TRUE, AND WHAT IT READS STANDS AS IT DID: FOR EVERY START. Conditions: none. -/
import Derived.Test.YtmddnblbfmlgoaaTraceR
import Derived.WalkKit
import Derived.ProofKit
import Derived.OpenShut
set_option linter.unusedSimpArgs false
set_option linter.unusedVariables false
set_option maxRecDepth 100000
open Go Go.Sx Go.Proofs Go.ChangeShapes Go.WideShapes Go.ChangeAt Go.RowKit
namespace Go.Proofs.Ytmddnblbfmlgoaa.TraceChecks
open Go.Proofs.Ytmddnblbfmlgoaa.D Go.Proofs.Ytmddnblbfmlgoaa.Tr

def j12 : JC :=
  (.seq (.ops <|
  qo 2 (.mv (B false)) <|
  .nil)
  (.seq (.ops <|
  qo 10 (.mv (.t 0)) <|
  eo 11 (.call 37 [(.t 10)]) <|
  qo 9 (.mv (.t 11)) <|
  qo 12 (.ext 0 (.t 9)) <|
  qo 13 (.ext 1 (.t 9)) <|
  qo 3 (.mv (.t 12)) <|
  qo 4 (.mv (.t 13)) <|
  .nil)
  (.seq (.ops <|
  .prune [0, 3, 4] <|
  qo 15 (.mv (.t 0)) <|
  eo 16 (.call 38 [(.t 15)]) <|
  qo 14 (.mv (.t 16)) <|
  qo 17 (.ext 0 (.t 14)) <|
  .prune [14, 17, 3, 4] <|
  qo 18 (.ext 1 (.t 14)) <|
  qo 5 (.mv (.t 17)) <|
  qo 6 (.mv (.t 18)) <|
  .nil)
  (.prune [3, 5, 4, 6] (.seq (.ops <|
  eo 20 (.call 39 []) <|
  eo 21 (.call 37 [(.t 20)]) <|
  qo 19 (.mv (.t 21)) <|
  qo 22 (.ext 0 (.t 19)) <|
  qo 23 (.ext 1 (.t 19)) <|
  qo 7 (.mv (.t 22)) <|
  qo 8 (.mv (.t 23)) <|
  .nil)
  (.prune [3, 5, 4, 6, 8] (.seq (.ops <|
  qo 24 (.mv (.t 3)) <|
  qo 25 (.mv (.t 5)) <|
  qo 26 (.cmp .eql (.t 24) (.t 25)) <|
  .prune [26, 4, 6, 8] <|
  qo 27 (.mv (.t 26)) <|
  .sc false 31 27 (qo 28 (.mv (.t 4)) <|
  qo 29 (.mv (.t 6)) <|
  qo 30 (.cmp .eql (.t 28) (.t 29)) <|
  .nil) (.t 30) <|
  qo 32 (.mv (.t 31)) <|
  .prune [32, 8] <|
  .sc false 35 32 (qo 33 (.mv (.t 8)) <|
  qo 34 (.cmp .eql (.t 33) (I 1)) <|
  .nil) (.t 34) <|
  qo 2 (.mv (.t 35)) <|
  .nil)
  .ret)))))))
theorem c12 : fnIs Try.prog qall 12 = some (j12.flat, [.tmp 2], 36) := by kernel_rfl
theorem w12 : j12.wf 36 = true := by kernel_rfl
def G (f : FuncId) (a : List SV) (m : List Res) : Sx.Call := (FH.rd 37 (.one dEs) (.two .int .int) (fun _ => True) (fun y => (playedF y.1).2) <| FH.rd 38 (.one dEs) (.two .int .int) (fun _ => True) (fun y => checkR y.1) <|
  FH.mk 39 .nil (fun _ => True) (fun _ => .vec 0 1) (fun _ => [.vec 43 3 ([badE].map dEv.emb)]) FH.none) f a m
theorem G_ok : FHOK Try.prog G := FH.rd_ok (by kernel_rfl) (fun y _ => f_Check y.1) <| FH.rd_ok (by kernel_rfl) (fun y _ => f_RCheck y.1) <|
  FH.mk_ok (by kernel_rfl) (fun _ _ => plain_vec _ _ dEv 1 [badE]) (fun _ _ => f_wrong) FH.none_ok
theorem f_law (l : List Ev) : FnOK Try.prog 12 [dEs.emb l] [] (.bool true) [] := by
  refine fn_walkF c12 w12 G_ok rfl ?_
  unfold j12
  simp only [go_sem, reduceIte, Nat.reduceAdd, Nat.reduceMul, Nat.reduceSub, Nat.reduceLT, Nat.reduceLeDiff, Nat.reduceEqDiff, Int.reduceToNat, reduceCtorEq, G]
  rw [played_check, played_check]
  simp only [decide_true, Bool.true_and]
  decide
abbrev A : DA (List Ev × Unit) := .one dEs
abbrev Ts : List TT := [.sl 3 (.st [.int .i64, .int .i64, .int .i64])]
theorem lawP (y : DenL Ts) : A.decP [] (embL Ts y) := ⟨⟨rfl, fun _ _ => ⟨rfl, rfl, rfl, trivial⟩⟩, trivial⟩
theorem law (y : DenL Ts) (_ : okDL Ts y) : FnOK Try.prog 12 (A.emb (A.decV [] (embL Ts y))) [] (.bool true) [] := f_law _
theorem own : ownKnob Try.prog.godebug = none := by kernel_rfl
theorem laid : laidOutB Try.prog = true := by kernel_rfl
theorem lifted (os : Os) (started : os.Started) (H : Type) (enc : TypeId × Value → H) :
    ReturnsInHanded {} Try.checked os 12 .any (Rows.traceChecksSpec.pre6 enc Try.prog Try.f12 Rows.traceChecksRow.domain false) (Rows.traceChecksSpec.post enc Try.prog Try.f12 false true false false) := by
  refine returnsInHanded_of_change (C := Try.checked) own started (by kernel_rfl) Try.func12
    (ChangeSpec.witness6 (enc := enc) (C := Try.checked) false ⟨#[], #[.slice none 0 0], []⟩ 8 (by kernel_rfl) (by kernel_rfl) (by kernel_rfl) (by kernel_rfl)) ?_
  intro W base args ds gs before hval0 hW hcnd _
  have hW' := hW
  obtain ⟨p, q, hA, hV, rfl, hfz, hnd⟩ := hW
  obtain ⟨rfl, rfl⟩ := trodVars_none hV
  obtain ⟨y, hs, hok⟩ := open_args Ts (by kernel_rfl) hA (fun j t v h1 h2 => hval0 j t v (by simpa using h1) (by simpa using h2))
  obtain ⟨d1, rfl⟩ := len_one (trod_len hA)
  refine (law_run (law y hok) W (vs := args.toList) (satA_conv (A := A) (lawP y) hs)).mono fun e W' ⟨he, hb⟩ => ?_
  subst he
  exact ⟨_, rfl, row_close laid (by kernel_rfl) (by kernel_rfl) Try.underlying4 rfl hW' hb rfl⟩
theorem holds : Rows.TraceChecksSaid :=
  OpenClaim.holds_of_wide 12 Try.f12 rfl rfl rfl rfl rfl rfl rfl ⟨rfl, rfl, rfl, rfl, rfl⟩ rfl rfl rfl rfl rfl (by kernel_rfl) Try.func12 (by kernel_rfl)
    (of_decide_eq_true (by kernel_rfl)) (by unfold Func.isWrapper; first | (rw [if_pos (by decide +kernel)]; kernel_rfl) | (rw [if_neg (by decide +kernel)]; exact ⟨rfl, rfl⟩))
    (fun os started H enc _ => lifted os started H enc)
#print axioms holds
end Go.Proofs.Ytmddnblbfmlgoaa.TraceChecks
