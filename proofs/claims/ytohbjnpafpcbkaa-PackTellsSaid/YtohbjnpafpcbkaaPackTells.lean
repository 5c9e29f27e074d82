/- THE LAW 'PackTells' HANDS BACK TRUE, AND WHAT IT READS STANDS AS IT DID: FOR EVERY START. Conditions: none. -/
import Derived.Test.YtohbjnpafpcbkaaPackP
import Derived.WalkKit
import Derived.ProofKit
import Derived.OpenShut
set_option linter.unusedSimpArgs false
set_option linter.unusedVariables false
set_option maxRecDepth 100000
open Go Go.Sx Go.Proofs Go.ChangeShapes Go.WideShapes Go.ChangeAt Go.RowKit
namespace Go.Proofs.Ytohbjnpafpcbkaa.PackTells
open Go.Proofs.Ytohbjnpafpcbkaa.D Go.Proofs.Ytohbjnpafpcbkaa.Tr Go.Proofs.Ytohbjnpafpcbkaa.Pk

def j7 : JC :=
  (.seq (.ops <|
  qo 2 (.mv (B false)) <|
  .nil)
  (.seq (.ops <|
  qo 10 (.mv (.t 0)) <|
  eo 11 (.call 33 [(.t 10)]) <|
  qo 9 (.mv (.t 11)) <|
  qo 12 (.ext 0 (.t 9)) <|
  qo 13 (.ext 1 (.t 9)) <|
  qo 3 (.mv (.t 12)) <|
  qo 4 (.mv (.t 13)) <|
  .nil)
  (.seq (.ops <|
  .prune [0, 3, 4] <|
  qo 15 (.mv (.t 0)) <|
  eo 16 (.call 34 [(.t 15)]) <|
  qo 14 (.mv (.t 16)) <|
  qo 17 (.ext 0 (.t 14)) <|
  .prune [14, 17, 3, 4] <|
  qo 18 (.ext 1 (.t 14)) <|
  qo 5 (.mv (.t 17)) <|
  qo 6 (.mv (.t 18)) <|
  .nil)
  (.prune [3, 5, 4, 6] (.seq (.ops <|
  eo 20 (.call 35 [(.c (.str []))]) <|
  qo 19 (.mv (.t 20)) <|
  qo 21 (.ext 0 (.t 19)) <|
  qo 22 (.ext 1 (.t 19)) <|
  qo 7 (.mv (.t 21)) <|
  qo 8 (.mv (.t 22)) <|
  .nil)
  (.prune [3, 5, 4, 6, 8] (.seq (.ops <|
  qo 23 (.mv (.t 3)) <|
  qo 24 (.mv (.t 5)) <|
  qo 25 (.seq false (.t 23) (.t 24)) <|
  .prune [25, 4, 6, 8] <|
  qo 26 (.mv (.t 25)) <|
  .sc false 30 26 (qo 27 (.mv (.t 4)) <|
  qo 28 (.mv (.t 6)) <|
  qo 29 (.cmp .eql (.t 27) (.t 28)) <|
  .nil) (.t 29) <|
  qo 31 (.mv (.t 30)) <|
  .prune [31, 8] <|
  .sc false 34 31 (qo 32 (.mv (.t 8)) <|
  qo 33 (.cmp .eql (.t 32) (I 4)) <|
  .nil) (.t 33) <|
  qo 2 (.mv (.t 34)) <|
  .nil)
  .ret)))))))
theorem c7 : fnIs Try.prog qall 7 = some (j7.flat, [.tmp 2], 35) := by kernel_rfl
theorem w7 : j7.wf 35 = true := by kernel_rfl
def G (f : FuncId) (a : List SV) (m : List Res) : Sx.Call := (FH.rd 33 (.one dEs) (.two .str .int) (fun _ => True) (fun y => packF y.1) <|
  FH.rd 34 (.one dEs) (.two .str .int) (fun _ => True) (fun y => rpackF y.1) <|
  FH.mk 35 (.one .str) (fun y => y.1 = []) (fun _ => .tup [.vec 0 0, .int .i64 4]) (fun _ => [.vec 54 3 []]) FH.none) f a m
theorem G_eq (f : FuncId) (a : List SV) (m : List Res) : G f a m = (FH.rd 33 (.one dEs) (.two .str .int) (fun _ => True) (fun y => packF y.1) <|
  FH.rd 34 (.one dEs) (.two .str .int) (fun _ => True) (fun y => rpackF y.1) <|
  FH.mk 35 (.one .str) (fun y => y.1 = []) (fun _ => .tup [.vec 0 0, .int .i64 4]) (fun _ => [.vec 54 3 []]) FH.none) f a m := nr rfl
theorem G_ok : FHOK Try.prog G := FH.rd_ok (by kernel_rfl) (fun y _ => f_Pack y.1) <| FH.rd_ok (by kernel_rfl) (fun y _ => f_RPack y.1) <|
  FH.mk_ok (by kernel_rfl) (fun _ _ => plainM (pv_tup ⟨plV_vec _ _, plV_int _ _, trivial⟩) ⟨plR_vec _ _ dEv [], trivial⟩) (fun y h => by
    obtain ⟨s, u⟩ := y
    simp only at h
    subst h
    exact f_Read0) FH.none_ok
theorem f_law (l : List Ev) : FnOK Try.prog 7 [dEs.emb l] [] (.bool true) [] := by
  refine fn_walkF c7 w7 G_ok rfl ?_
  unfold j7
  have hp := packs l
  simp only [go_sem, ↓reduceIte, Nat.reduceAdd, Nat.reduceMul, Nat.reduceSub, Nat.reduceLT, Nat.reduceLeDiff, Nat.reduceEqDiff, Int.reduceToNat, Int.reduceEq, Int.reduceLT, Int.reduceLE, reduceCtorEq, G_eq, hp]
abbrev A : DA (List Ev × Unit) := .one dEs
abbrev Ts : List TT := [.sl 3 (.st [.int .i64, .int .i64, .int .i64])]
theorem lawP (y : DenL Ts) : A.decP [] (embL Ts y) := ⟨⟨rfl, fun _ _ => ⟨rfl, rfl, rfl, trivial⟩⟩, trivial⟩
theorem law (y : DenL Ts) (_ : okDL Ts y) : FnOK Try.prog 7 (A.emb (A.decV [] (embL Ts y))) [] (.bool true) [] := f_law _
theorem own : ownKnob Try.prog.godebug = none := by kernel_rfl
theorem laid : laidOutB Try.prog = true := by kernel_rfl
theorem lifted (os : Os) (started : os.Started) (H : Type) (enc : TypeId × Value → H) :
    ReturnsInHanded {} Try.checked os 7 .any (Rows.packTellsSpec.pre6 enc Try.prog Try.f7 Rows.packTellsRow.domain false) (Rows.packTellsSpec.post enc Try.prog Try.f7 false true false false) := by
  refine returnsInHanded_of_change (C := Try.checked) own started (by kernel_rfl) Try.func7
    (ChangeSpec.witness6 (enc := enc) (C := Try.checked) false ⟨#[], #[.slice none 0 0], []⟩ 8 (by kernel_rfl) (by kernel_rfl) (by kernel_rfl) (by kernel_rfl)) ?_
  intro W base args ds gs before hval0 hW hcnd _
  have hW' := hW
  obtain ⟨p, q, hA, hV, rfl, hfz, hnd⟩ := hW
  obtain ⟨rfl, rfl⟩ := trodVars_none hV
  obtain ⟨y, hs, hok⟩ := open_args Ts (by kernel_rfl) hA (fun j t v h1 h2 => hval0 j t v (by simpa using h1) (by simpa using h2))
  obtain ⟨d1, rfl⟩ := len_one (trod_len hA)
  refine (law_run (law y hok) W (vs := args.toList) (satA_conv (A := A) (lawP y) hs)).mono fun e W' ⟨he, hb⟩ => ?_
  subst he
  exact ⟨_, rfl, row_close laid (by kernel_rfl) (by kernel_rfl) Try.underlying4 rfl hW' hb rfl⟩
theorem holds : Rows.PackTellsSaid :=
  OpenClaim.holds_of_wide 7 Try.f7 rfl rfl rfl rfl rfl rfl rfl ⟨rfl, rfl, rfl, rfl, rfl⟩ rfl rfl rfl rfl rfl (by kernel_rfl) Try.func7 (by kernel_rfl)
    (of_decide_eq_true (by kernel_rfl)) (by unfold Func.isWrapper; first | (rw [if_pos (by decide +kernel)]; kernel_rfl) | (rw [if_neg (by decide +kernel)]; exact ⟨rfl, rfl⟩))
    (fun os started H enc _ => lifted os started H enc)
#print axioms holds
end Go.Proofs.Ytohbjnpafpcbkaa.PackTells
