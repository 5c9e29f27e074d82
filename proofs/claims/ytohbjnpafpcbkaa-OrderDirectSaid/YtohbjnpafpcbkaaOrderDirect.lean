/- THE LAW 'OrderDirect' HANDS BACK TRUE, AND WHAT IT READS STANDS AS IT DID: FOR EVERY START. Conditions: none. -/
import Derived.Test.YtohbjnpafpcbkaaOrderD
import Derived.WalkKit
import Derived.ProofKit
import Derived.OpenShut
set_option linter.unusedSimpArgs false
set_option linter.unusedVariables false
set_option maxRecDepth 100000
open Go Go.Sx Go.Proofs Go.ChangeShapes Go.WideShapes Go.ChangeAt Go.RowKit
namespace Go.Proofs.Ytohbjnpafpcbkaa.OrderDirect
open Go.Proofs.Ytohbjnpafpcbkaa.D Go.Proofs.Ytohbjnpafpcbkaa.Tr Go.Proofs.Ytohbjnpafpcbkaa.Ps Go.Proofs.Ytohbjnpafpcbkaa.Od Go.Proofs.Ytohbjnpafpcbkaa.Eqs

def j28 : JC :=
  (.seq (.ops <|
  qo 5 (.mv (B false)) <|
  .nil)
  (.seq (.dops <|
  qo 6 (.mv (.t 0)) <|
  qo 7 (.mv (.t 1)) <|
  qo 8 (.cmp .lss (.t 6) (.t 7)) <|
  qo 9 (.mv (.t 8)) <|
  .sc false 19 9 (eo 10 (.load 1 false (.t 2)) <|
  qo 11 (.mv (.t 0)) <|
  qo 12 (.is 3 (.t 10) (.t 11)) <|
  eo 13 (.load 3 true (.t 12)) <|
  eo 14 (.load 1 false (.t 2)) <|
  qo 15 (.mv (.t 1)) <|
  qo 16 (.is 3 (.t 14) (.t 15)) <|
  eo 17 (.load 3 true (.t 16)) <|
  eo 18 (.qcall 29 [(.t 13), (.t 17)]) <|
  .nil) (.t 18) <|
  qo 5 (.mv (.t 19)) <|
  .nil)
  .ret))
theorem c28 : fnIs Try.prog qall 28 = some (j28.flat, [.tmp 5], 20) := by kernel_rfl
theorem w28 : j28.wf 20 = true := by kernel_rfl
def G1 (f : FuncId) (a : List SV) (m : List Res) : Sx.Call := (FH.rd 29 (.two dEv dEv) (.one .bool) (fun _ => True) (fun y => dirP y.1 y.2.1) FH.none) f a m
theorem G1_eq (f : FuncId) (a : List SV) (m : List Res) : G1 f a m = (FH.rd 29 (.two dEv dEv) (.one .bool) (fun _ => True) (fun y => dirP y.1 y.2.1) FH.none) f a m := nr rfl
theorem G1_ok : FHOK Try.prog G1 := FH.rd_ok (by kernel_rfl) (fun y _ => f_RDirectly y.1 y.2.1) FH.none_ok
theorem f_1 (l : List Ev) (i j : Nat) (hi : i < l.length) (hj : j < l.length) : FnOK Try.prog 28 [.int .i64 i, .int .i64 j, .ref (dEs.emb l) [] 0] [] (.bool (upP (dirL l) i j)) [] := by
  refine fn_walkF c28 w28 G1_ok rfl ?_
  unfold j28
  simp only [go_sem, ↓reduceIte, Nat.reduceAdd, Nat.reduceMul, Nat.reduceSub, Nat.reduceLT, Nat.reduceLeDiff, Nat.reduceEqDiff, Int.reduceToNat, reduceCtorEq, G1_eq]
  refine ⟨fun h => ⟨⟨by omega, by omega⟩, by omega, by omega⟩, ?_⟩
  rw [upP, dirL, show decide ((i : Int) < (j : Int)) = decide (i < j) from decide_eq_decide.2 (by omega)]

def j5 : JC :=
  (.seq (.ops <|
  eo 1 (.box 22 (.t 0)) <|
  qo 2 (.mv (B false)) <|
  .nil)
  (.seq (.ops <|
  eo 6 (.load 1 false (.t 1)) <|
  eo 7 (.call 26 [(.t 6)]) <|
  qo 5 (.mv (.t 7)) <|
  qo 8 (.ext 0 (.t 5)) <|
  qo 9 (.ext 1 (.t 5)) <|
  qo 3 (.mv (.t 8)) <|
  qo 4 (.mv (.t 9)) <|
  .nil)
  (.seq (.ops <|
  .prune [1, 3, 4] <|
  eo 10 (.load 1 false (.t 1)) <|
  qo 11 (.mv (.t 3)) <|
  qo 12 (.mv (.t 4)) <|
  qo 13 (.mkfn 28 [(.t 1)]) <|
  eo 14 (.call 27 [(.t 10), (.t 11), (.t 12), (.t 13)]) <|
  qo 2 (.mv (.t 14)) <|
  .nil)
  .ret)))
theorem c5 : fnIs Try.prog qall 5 = some (j5.flat, [.tmp 2], 15) := by kernel_rfl
theorem w5 : j5.wf 15 = true := by kernel_rfl
def G (f : FuncId) (a : List SV) (m : List Res) : Sx.Call := (FH.mk 26 (.one dEs) (fun _ => True) (fun y => .tup [.vec 0 (directF y.1 (dirL y.1)).length, .int .i64 (playedF y.1).2.2]) (fun y => [.vec 45 2 ((directF y.1 (dirL y.1)).map dPr.emb)]) <|
  FH.rd 27 (.four dEs dPrs .int (DT.clo 28 aL)) (.one .bool) (fun z => z.2.2.2.1.1 = z.1) (fun z => lpairsF z.1 z.2.1 z.2.2.1 (upP (dirL z.1))) FH.none) f a m
theorem G_eq (f : FuncId) (a : List SV) (m : List Res) : G f a m = (FH.mk 26 (.one dEs) (fun _ => True) (fun y => .tup [.vec 0 (directF y.1 (dirL y.1)).length, .int .i64 (playedF y.1).2.2]) (fun y => [.vec 45 2 ((directF y.1 (dirL y.1)).map dPr.emb)]) <|
  FH.rd 27 (.four dEs dPrs .int (DT.clo 28 aL)) (.one .bool) (fun z => z.2.2.2.1.1 = z.1) (fun z => lpairsF z.1 z.2.1 z.2.2.1 (upP (dirL z.1))) FH.none) f a m := nr rfl
theorem G_ok : FHOK Try.prog G := FH.mk_ok (by kernel_rfl) (fun y _ => plainM (pv_tup ⟨plV_vec _ _, plV_int _ _, trivial⟩) ⟨plR_vec _ _ dPr _, trivial⟩) (fun y _ => f_Direct y.1) <|
  FH.rd_ok (by kernel_rfl) (fun z hz => by
    obtain ⟨l, a, e, ⟨l', u⟩, v⟩ := z
    simp only at hz
    subst hz
    exact f_lpairs 28 aL (l', ()) l' a e _ (by kernel_rfl) fun _ i j hi hj => f_1 l' i j hi hj) FH.none_ok
theorem f_law (l : List Ev) : FnOK Try.prog 5 [dEs.emb l] [] (.bool true) [] := by
  refine fn_walkF c5 w5 G_ok rfl ?_
  unfold j5
  simp only [go_sem, ↓reduceIte, Nat.reduceAdd, Nat.reduceMul, Nat.reduceSub, Nat.reduceLT, Nat.reduceLeDiff, Nat.reduceEqDiff, Int.reduceToNat, reduceCtorEq, G_eq]
  rw [lpairsF, err_same, directF, err_same]
  by_cases h : (checkR l).2 = 0
  · rw [if_neg (by simp [h]), if_pos h, pairsF]
    exact eqBy_refl (by simp [ef_EqPair]) _
  · rw [if_pos (.inl h), if_neg h]; simp
abbrev A : DA (List Ev × Unit) := .one dEs
abbrev Ts : List TT := [.sl 3 (.st [.int .i64, .int .i64, .int .i64])]
theorem lawP (y : DenL Ts) : A.decP [] (embL Ts y) := ⟨⟨rfl, fun _ _ => ⟨rfl, rfl, rfl, trivial⟩⟩, trivial⟩
theorem law (y : DenL Ts) (_ : okDL Ts y) : FnOK Try.prog 5 (A.emb (A.decV [] (embL Ts y))) [] (.bool true) [] := f_law _
theorem own : ownKnob Try.prog.godebug = none := by kernel_rfl
theorem laid : laidOutB Try.prog = true := by kernel_rfl
theorem lifted (os : Os) (started : os.Started) (H : Type) (enc : TypeId × Value → H) :
    ReturnsInHanded {} Try.checked os 5 .any (Rows.orderDirectSpec.pre6 enc Try.prog Try.f5 Rows.orderDirectRow.domain false) (Rows.orderDirectSpec.post enc Try.prog Try.f5 false true false false) := by
  refine returnsInHanded_of_change (C := Try.checked) own started (by kernel_rfl) Try.func5
    (ChangeSpec.witness6 (enc := enc) (C := Try.checked) false ⟨#[], #[.slice none 0 0], []⟩ 8 (by kernel_rfl) (by kernel_rfl) (by kernel_rfl) (by kernel_rfl)) ?_
  intro W base args ds gs before hval0 hW hcnd _
  have hW' := hW
  obtain ⟨p, q, hA, hV, rfl, hfz, hnd⟩ := hW
  obtain ⟨rfl, rfl⟩ := trodVars_none hV
  obtain ⟨y, hs, hok⟩ := open_args Ts (by kernel_rfl) hA (fun j t v h1 h2 => hval0 j t v (by simpa using h1) (by simpa using h2))
  obtain ⟨d1, rfl⟩ := len_one (trod_len hA)
  refine (law_run (law y hok) W (vs := args.toList) (satA_conv (A := A) (lawP y) hs)).mono fun e W' ⟨he, hb⟩ => ?_
  subst he
  exact ⟨_, rfl, row_close laid (by kernel_rfl) (by kernel_rfl) Try.underlying4 rfl hW' hb rfl⟩
theorem holds : Rows.OrderDirectSaid :=
  OpenClaim.holds_of_wide 5 Try.f5 rfl rfl rfl rfl rfl rfl rfl ⟨rfl, rfl, rfl, rfl, rfl⟩ rfl rfl rfl rfl rfl (by kernel_rfl) Try.func5 (by kernel_rfl)
    (of_decide_eq_true (by kernel_rfl)) (by unfold Func.isWrapper; first | (rw [if_pos (by decide +kernel)]; kernel_rfl) | (rw [if_neg (by decide +kernel)]; exact ⟨rfl, rfl⟩))
    (fun os started H enc _ => lifted os started H enc)
#print axioms holds
end Go.Proofs.Ytohbjnpafpcbkaa.OrderDirect
