/- THE LAW 'OrderBefore' HANDS BACK TRUE, AND WHAT IT READS STANDS AS IT DID: FOR EVERY START. Conditions: none. -/
import Derived.Test.YtohbjnpafpcbkaaOrderB
import Derived.WalkKit
import Derived.ProofKit
import Derived.OpenShut
set_option linter.unusedSimpArgs false
set_option linter.unusedVariables false
set_option maxRecDepth 100000
open Go Go.Sx Go.Proofs Go.ChangeShapes Go.WideShapes Go.ChangeAt Go.RowKit
namespace Go.Proofs.Ytohbjnpafpcbkaa.OrderBefore
open Go.Proofs.Ytohbjnpafpcbkaa.D Go.Proofs.Ytohbjnpafpcbkaa.Tr Go.Proofs.Ytohbjnpafpcbkaa.Ps Go.Proofs.Ytohbjnpafpcbkaa.Od Go.Proofs.Ytohbjnpafpcbkaa.Eqs Go.Proofs.Ytohbjnpafpcbkaa.Ah

def j46 : JC :=
  (.seq (.ops <|
  qo 5 (.mv (B false)) <|
  .nil)
  (.seq (.ops <|
  eo 6 (.load 1 false (.t 2)) <|
  qo 7 (.mv (.t 0)) <|
  qo 8 (.is 1 (.t 6) (.t 7)) <|
  eo 9 (.load 1 false (.t 8)) <|
  qo 10 (.mv (.t 1)) <|
  qo 11 (.is 1 (.t 9) (.t 10)) <|
  eo 12 (.load 1 false (.t 11)) <|
  qo 5 (.mv (.t 12)) <|
  .nil)
  .ret))
theorem c46 : fnIs Try.prog qall 46 = some (j46.flat, [.tmp 5], 13) := by kernel_rfl
theorem w46 : j46.wf 13 = true := by kernel_rfl
theorem f_1 (n : Nat) (M : Nat → Nat → Bool) (i j : Nat) (hi : i < n) (hj : j < n) : FnOK Try.prog 46 [.int .i64 i, .int .i64 j, .ref (dRows.emb (rowsOf n M)) [] 0] [] (.bool (M i j)) [] := by
  refine fn_walkF c46 w46 FH.none_ok rfl ?_
  unfold j46
  simp only [go_sem, ↓reduceIte, Nat.reduceAdd, Nat.reduceMul, Nat.reduceSub, Nat.reduceLT, Nat.reduceLeDiff, Nat.reduceEqDiff, Int.reduceToNat, reduceCtorEq, rows_len, rows_row hi, rows_at hi hj]
  exact ⟨⟨by omega, by omega⟩, ⟨by omega, by omega⟩⟩

def j11 : JC :=
  (.seq (.ops <|
  qo 2 (.mv (B false)) <|
  .nil)
  (.seq (.ops <|
  qo 7 (.mv (.t 0)) <|
  eo 8 (.call 44 [(.t 7)]) <|
  qo 6 (.mv (.t 8)) <|
  qo 9 (.ext 0 (.t 6)) <|
  qo 10 (.ext 1 (.t 6)) <|
  qo 3 (.mv (.t 9)) <|
  qo 4 (.mv (.t 10)) <|
  .nil)
  (.seq (.seq (.ops <|
  .prune [0, 3, 4] <|
  qo 11 (.mv (.t 0)) <|
  eo 12 (.call 16 [(.t 11)]) <|
  qo 13 (.cmp .neq (.t 12) (I 0)) <|
  .nil)
  (.prune [13, 0, 3, 4] (.cond (.t 13)
  (.seq (.ops <|
  qo 14 (.mv (.t 0)) <|
  qo 15 (.mv (.t 3)) <|
  qo 16 (.mv (.t 4)) <|
  eo 17 (.call 27 [(.t 14), (.t 15), (.t 16), (.c .nilf)]) <|
  qo 2 (.mv (.t 17)) <|
  .nil)
  .ret)
  .skip)))
  (.prune [0, 3, 4] (.seq (.ops <|
  qo 18 (.mv (.t 0)) <|
  eo 19 (.call 45 [(.t 18)]) <|
  eo 5 (.alloc 81 .nils) <|
  en (.store 1 (.t 5) (.t 19)) <|
  .nil)
  (.seq (.ops <|
  .prune [0, 3, 4, 5] <|
  qo 20 (.mv (.t 0)) <|
  qo 21 (.mv (.t 3)) <|
  qo 22 (.mv (.t 4)) <|
  .prune [5, 20, 21, 22] <|
  qo 23 (.mkfn 46 [(.t 5)]) <|
  eo 24 (.call 27 [(.t 20), (.t 21), (.t 22), (.t 23)]) <|
  qo 2 (.mv (.t 24)) <|
  .nil)
  .ret))))))
theorem c11 : fnIs Try.prog qall 11 = some (j11.flat, [.tmp 2], 25) := by kernel_rfl
theorem w11 : j11.wf 25 = true := by kernel_rfl
def G (f : FuncId) (a : List SV) (m : List Res) : Sx.Call := (FH.mk 44 (.one dEs) (fun _ => True) (fun y => .tup [.vec 0 (directF y.1 (befP y.1)).length, .int .i64 (playedF y.1).2.2]) (fun y => [.vec 45 2 ((directF y.1 (befP y.1)).map dPr.emb)]) <|
  FH.rd 16 (.one dEs) (.one .int) (fun _ => True) (fun y => (checkR y.1).2) <| FH.pz 45 (.one dEs) (.one dRows) (fun y => y.1.length ≤ 1000) (fun y => rowsOf y.1.length (aheadR y.1)) <|
  FH.rd 27 (.four dEs dPrs .int (DT.fop 46 aR)) (.one .bool) (fun z => (z.2.2.2.1 = none ∧ ¬ (checkR z.1).2 = 0) ∨ z.2.2.2.1 = some (rowsOf z.1.length (aheadR z.1), ())) (fun z => lpairsF z.1 z.2.1 z.2.2.1 (aheadR z.1)) FH.none) f a m
theorem G_eq (f : FuncId) (a : List SV) (m : List Res) : G f a m = (FH.mk 44 (.one dEs) (fun _ => True) (fun y => .tup [.vec 0 (directF y.1 (befP y.1)).length, .int .i64 (playedF y.1).2.2]) (fun y => [.vec 45 2 ((directF y.1 (befP y.1)).map dPr.emb)]) <|
  FH.rd 16 (.one dEs) (.one .int) (fun _ => True) (fun y => (checkR y.1).2) <| FH.pz 45 (.one dEs) (.one dRows) (fun y => y.1.length ≤ 1000) (fun y => rowsOf y.1.length (aheadR y.1)) <|
  FH.rd 27 (.four dEs dPrs .int (DT.fop 46 aR)) (.one .bool) (fun z => (z.2.2.2.1 = none ∧ ¬ (checkR z.1).2 = 0) ∨ z.2.2.2.1 = some (rowsOf z.1.length (aheadR z.1), ())) (fun z => lpairsF z.1 z.2.1 z.2.2.1 (aheadR z.1)) FH.none) f a m := nr rfl
theorem G_ok : FHOK Try.prog G := FH.mk_ok (by kernel_rfl) (fun y _ => plainM (pv_tup ⟨plV_vec _ _, plV_int _ _, trivial⟩) ⟨plR_vec _ _ dPr _, trivial⟩) (fun y _ => f_Before y.1) <|
  FH.rd_ok (by kernel_rfl) (fun y _ => f_May y.1) <| FH.pz_ok (by kernel_rfl) (fun y h => f_RAhead y.1 h) <| FH.rd_ok (by kernel_rfl) (fun z hz => by
    obtain ⟨l, a, e, o, v⟩ := z
    simp only at hz
    rcases hz with ⟨h1, h2⟩ | h1
    · exact f_lpairs_bad (DT.fop 46 aR) o l a e _ h2
    · subst h1
      exact f_lpairs 46 aR (rowsOf l.length (aheadR l), ()) l a e _ (by kernel_rfl) fun _ i j hi hj => f_1 l.length (aheadR l) i j hi hj) FH.none_ok
theorem f_law (l : List Ev) : FnOK Try.prog 11 [dEs.emb l] [] (.bool true) [] := by
  refine fn_walkF c11 w11 G_ok rfl ?_
  unfold j11
  simp only [go_sem, ↓reduceIte, Nat.reduceAdd, Nat.reduceMul, Nat.reduceSub, Nat.reduceLT, Nat.reduceLeDiff, Nat.reduceEqDiff, Int.reduceToNat, reduceCtorEq, G_eq]
  have key : lpairsF l (directF l (befP l)) (playedF l).2.2 (aheadR l) = true := by
    rw [lpairsF, err_same, directF, err_same]
    by_cases h : (checkR l).2 = 0
    · rw [if_neg (by simp [h]), if_pos h, bef_pairs]
      exact eqBy_refl (by simp [ef_EqPair]) _
    · rw [if_pos (.inl h), if_neg h]; simp
  refine ⟨fun h => ⟨.inl h, key⟩, fun h => ⟨?_, key⟩⟩
  have := ok_len h
  omega
abbrev A : DA (List Ev × Unit) := .one dEs
abbrev Ts : List TT := [.sl 3 (.st [.int .i64, .int .i64, .int .i64])]
theorem lawP (y : DenL Ts) : A.decP [] (embL Ts y) := ⟨⟨rfl, fun _ _ => ⟨rfl, rfl, rfl, trivial⟩⟩, trivial⟩
theorem law (y : DenL Ts) (_ : okDL Ts y) : FnOK Try.prog 11 (A.emb (A.decV [] (embL Ts y))) [] (.bool true) [] := f_law _
theorem own : ownKnob Try.prog.godebug = none := by kernel_rfl
theorem laid : laidOutB Try.prog = true := by kernel_rfl
theorem lifted (os : Os) (started : os.Started) (H : Type) (enc : TypeId × Value → H) :
    ReturnsInHanded {} Try.checked os 11 .any (Rows.orderBeforeSpec.pre6 enc Try.prog Try.f11 Rows.orderBeforeRow.domain false) (Rows.orderBeforeSpec.post enc Try.prog Try.f11 false true false false) := by
  refine returnsInHanded_of_change (C := Try.checked) own started (by kernel_rfl) Try.func11
    (ChangeSpec.witness6 (enc := enc) (C := Try.checked) false ⟨#[], #[.slice none 0 0], []⟩ 8 (by kernel_rfl) (by kernel_rfl) (by kernel_rfl) (by kernel_rfl)) ?_
  intro W base args ds gs before hval0 hW hcnd _
  have hW' := hW
  obtain ⟨p, q, hA, hV, rfl, hfz, hnd⟩ := hW
  obtain ⟨rfl, rfl⟩ := trodVars_none hV
  obtain ⟨y, hs, hok⟩ := open_args Ts (by kernel_rfl) hA (fun j t v h1 h2 => hval0 j t v (by simpa using h1) (by simpa using h2))
  obtain ⟨d1, rfl⟩ := len_one (trod_len hA)
  refine (law_run (law y hok) W (vs := args.toList) (satA_conv (A := A) (lawP y) hs)).mono fun e W' ⟨he, hb⟩ => ?_
  subst he
  exact ⟨_, rfl, row_close laid (by kernel_rfl) (by kernel_rfl) Try.underlying4 rfl hW' hb rfl⟩
theorem holds : Rows.OrderBeforeSaid :=
  OpenClaim.holds_of_wide 11 Try.f11 rfl rfl rfl rfl rfl rfl rfl ⟨rfl, rfl, rfl, rfl, rfl⟩ rfl rfl rfl rfl rfl (by kernel_rfl) Try.func11 (by kernel_rfl)
    (of_decide_eq_true (by kernel_rfl)) (by unfold Func.isWrapper; first | (rw [if_pos (by decide +kernel)]; kernel_rfl) | (rw [if_neg (by decide +kernel)]; exact ⟨rfl, rfl⟩))
    (fun os started H enc _ => lifted os started H enc)
#print axioms holds
end Go.Proofs.Ytohbjnpafpcbkaa.OrderBefore
