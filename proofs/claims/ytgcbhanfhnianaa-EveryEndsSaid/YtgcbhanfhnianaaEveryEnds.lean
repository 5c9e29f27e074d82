/- THE LAW 'EveryEnds' HANDS BACK TRUE, AND WHAT IT READS STANDS AS IT DID: FOR EVERY START. Conditions: none. -/
import Derived.Test.YtgcbhanfhnianaaEvI
import Derived.WalkKit
import Derived.ProofKit
import Derived.OpenShut
set_option linter.unusedSimpArgs false
set_option linter.unusedVariables false
set_option maxRecDepth 100000
open Go Go.Sx Go.Proofs Go.ChangeShapes Go.WideShapes Go.ChangeAt Go.RowKit
namespace Go.Proofs.Ytgcbhanfhnianaa.EveryEnds
open Go.Proofs.Ytgcbhanfhnianaa.D Go.Proofs.Ytgcbhanfhnianaa.Pg Go.Proofs.Ytgcbhanfhnianaa.Tr Go.Proofs.Ytgcbhanfhnianaa.Rn Go.Proofs.Ytgcbhanfhnianaa.Ev Go.Proofs.Ytgcbhanfhnianaa.EvM
def j32_1 : JC :=
  (.seq (.ops <|
  qo 15 (.cmp .lss (.t 14) (.t 13)) <|
  .nil)
  (.seq (.cond (.t 15)
  .skip
  (.exit 0))
  (.seq (.block 1 (.seq (.ops <|
  qo 16 (.mv (.t 14)) <|
  qo 17 (.is 20 (.t 12) (.t 14)) <|
  eo 18 (.load 20 true (.t 17)) <|
  eo 6 (.alloc 28 (.agg [(.arr 8 1 fun _ => (.int .i64 0)), (.arr 4 1 fun _ => (.int .i64 0)), (.arr 6 1 fun _ => (.int .i64 0)), (.bool false), (.bool false)])) <|
  qo 5 (.mv (.t 16)) <|
  en (.store 20 (.t 6) (.t 18)) <|
  .nil)
  (.prune [6, 1, 5, 14, 13, 12] (.seq (.dops <|
  eo 19 (.load 20 true (.t 6)) <|
  qo 20 (.mv (.t 1)) <|
  qo 21 (.mv (.t 5)) <|
  qo 22 (.is 20 (.t 20) (.t 21)) <|
  eo 23 (.load 20 true (.t 22)) <|
  qo 24 (.aeq true (.st [(.arr 8 1 (.int .i64)), (.arr 4 1 (.int .i64)), (.arr 6 1 (.int .i64)), .bool, .bool]) (.t 19) (.t 23)) <|
  .nil)
  (.prune [24, 14, 13, 12, 1] (.cond (.t 24)
  (.seq (.ops <|
  qo 4 (.mv (B false)) <|
  .nil)
  .ret)
  .skip))))))
  (.prune [14, 13, 12, 1] (.ops <|
  qo 25 (.ar .add (.t 14) (I 1)) <|
  qo 14 (.mv (.t 25)) <|
  .nil)))))
def j32_2 : JC :=
  (.prune [] (.seq (.ops <|
  qo 4 (.mv (B true)) <|
  .nil)
  .ret))
def j32 : JC :=
  (.seq (.ops <|
  qo 4 (.mv (B false)) <|
  .nil)
  (.seq (.seq (.ops <|
  qo 7 (.mv (.t 0)) <|
  qo 8 (.len (.t 7)) <|
  qo 9 (.mv (.t 1)) <|
  qo 10 (.len (.t 9)) <|
  qo 11 (.cmp .neq (.t 8) (.t 10)) <|
  .nil)
  (.cond (.t 11)
  (.seq (.ops <|
  qo 4 (.mv (B false)) <|
  .nil)
  .ret)
  .skip))
  (.seq (.seq (.ops <|
  .prune [0, 1] <|
  qo 12 (.mv (.t 0)) <|
  qo 13 (.len (.t 12)) <|
  qo 14 (.mv (I 0)) <|
  .nil)
  (.prune [14, 13, 12, 1] (.block 0 (.loop [13, 12, 1] [14] j32_1))))
  j32_2)))
theorem c32 : fnIs Try.prog qall 32 = some (j32.flat, [.tmp 4], 26) := by kernel_rfl
theorem w32 : j32.wf 26 = true := by kernel_rfl
theorem f_EqEn (xs ys : List En) : FnOK Try.prog 32 [dEnds.emb xs, dEnds.emb ys] [] (.bool (eqBy sameE xs ys)) [] := by
  refine fn_len fun hB => fn_walkF c32 w32 FH.none_ok rfl ?_
  simp only [go_sem, ↓reduceIte, Nat.reduceAdd, Nat.reduceMul, Nat.reduceSub, Nat.reduceLT, Nat.reduceLeDiff, Nat.reduceEqDiff, Int.reduceToNat, Int.reduceEq, Int.reduceLT, Int.reduceLE, reduceCtorEq] at hB
  unfold j32
  simp only [go_sem, ↓reduceIte, Nat.reduceAdd, Nat.reduceMul, Nat.reduceSub, Nat.reduceLT, Nat.reduceLeDiff, Nat.reduceEqDiff, Int.reduceToNat, Int.reduceEq, Int.reduceLT, Int.reduceLE, reduceCtorEq]
  refine ⟨fun h => ?_, fun h => ?_⟩
  · rw [eqBy_len h]
  · refine loopF Nat (fun i => [.int .i64 i]) (fun i => []) (fun i => i ≤ xs.length ∧ eqBy sameE xs ys = eqBy sameE (xs.drop i) (ys.drop i)) (fun i => xs.length - i) 0 ⟨by omega, rfl⟩ ?_ rfl ?_
    · simp only [go_sem, ↓reduceIte, Nat.reduceAdd, Nat.reduceMul, Nat.reduceSub, Nat.reduceLT, Nat.reduceLeDiff, Nat.reduceEqDiff, Int.reduceToNat, Int.reduceEq, Int.reduceLT, Int.reduceLE, reduceCtorEq]
    · intro i hi
      unfold j32_1
      simp only [go_sem, ↓reduceIte, Nat.reduceAdd, Nat.reduceMul, Nat.reduceSub, Nat.reduceLT, Nat.reduceLeDiff, Nat.reduceEqDiff, Int.reduceToNat, Int.reduceEq, Int.reduceLT, Int.reduceLE, reduceCtorEq]
      refine ⟨fun h1 => ?_, fun h1 => ?_⟩
      · obtain ⟨hi1, hi2⟩ := hi
        rw [eqBy_drop (d := dEn.dft) (d' := dEn.dft) (by omega) (by omega)] at hi2
        refine ⟨⟨by omega, by omega⟩, ⟨by omega, by omega⟩, fun h2 => ?_, fun h2 => ⟨i + 1, ⟨by omega, ?_⟩, by omega, IntWalk.i64_in _ (by omega)⟩⟩
        · have hs : sameE (xs.getD i dEn.dft) (ys.getD i dEn.dft) = false := by
            unfold sameE
            simp only [go_sem, ↓reduceIte, Nat.reduceAdd, Nat.reduceMul, Nat.reduceSub, Nat.reduceLT, Nat.reduceLeDiff, Nat.reduceEqDiff, Int.reduceToNat, Int.reduceEq, Int.reduceLT, Int.reduceLE, reduceCtorEq]
            exact h2
          rw [hi2, hs]; rfl
        · have hs : sameE (xs.getD i dEn.dft) (ys.getD i dEn.dft) = true := by
            unfold sameE
            simp only [go_sem, ↓reduceIte, Nat.reduceAdd, Nat.reduceMul, Nat.reduceSub, Nat.reduceLT, Nat.reduceLeDiff, Nat.reduceEqDiff, Int.reduceToNat, Int.reduceEq, Int.reduceLT, Int.reduceLE, reduceCtorEq]
            exact h2
          rw [hi2, hs]; rfl
      · rw [eqBy_done hi.2 (by omega) (by omega)]
        unfold j32_2
        simp only [go_sem, ↓reduceIte, Nat.reduceAdd, Nat.reduceMul, Nat.reduceSub, Nat.reduceLT, Nat.reduceLeDiff, Nat.reduceEqDiff, Int.reduceToNat, Int.reduceEq, Int.reduceLT, Int.reduceLE, reduceCtorEq]
theorem same_self (x : En) : sameE x x = true := by
  unfold sameE
  rw [en_emb]
  simp [eqV, eqVL]

def j7 : JC :=
  (.seq (.ops <|
  qo 2 (.mv (B false)) <|
  .nil)
  (.seq (.ops <|
  qo 9 (.mv (.t 0)) <|
  eo 10 (.call 30 [(.t 9)]) <|
  qo 8 (.mv (.t 10)) <|
  qo 11 (.ext 0 (.t 8)) <|
  qo 12 (.ext 1 (.t 8)) <|
  qo 3 (.mv (.t 11)) <|
  qo 4 (.mv (.t 12)) <|
  .nil)
  (.seq (.ops <|
  .prune [0, 4, 3] <|
  eo 14 (.call 30 [(.c .nils)]) <|
  qo 13 (.mv (.t 14)) <|
  qo 15 (.ext 0 (.t 13)) <|
  qo 16 (.ext 1 (.t 13)) <|
  qo 5 (.mv (.t 15)) <|
  qo 6 (.mv (.t 16)) <|
  .nil)
  (.prune [0, 4, 3, 6] (.seq (.seq (.ops <|
  qo 17 (.mv (.t 0)) <|
  eo 18 (.call 31 [(.t 17)]) <|
  qo 7 (.mv (.t 18)) <|
  .nil)
  (.seq (.ops <|
  qo 19 (.mv (.t 7)) <|
  qo 20 (.cmp .neq (.t 19) (I 0)) <|
  .prune [20, 4, 3, 7, 6, 0] <|
  qo 21 (.mv (.t 20)) <|
  .sc true 24 21 (qo 22 (.mv (.t 4)) <|
  qo 23 (.cmp .neq (.t 22) (I 0)) <|
  .nil) (.t 23) <|
  .nil)
  (.prune [24, 3, 4, 7, 6, 0] (.cond (.t 24)
  (.seq (.ops <|
  qo 25 (.mv (.t 3)) <|
  .prune [25, 4, 7, 6] <|
  qo 26 (.len (.t 25)) <|
  qo 27 (.cmp .eql (.t 26) (I 0)) <|
  qo 28 (.mv (.t 27)) <|
  .prune [28, 4, 7, 6] <|
  .sc false 32 28 (qo 29 (.mv (.t 4)) <|
  qo 30 (.mv (.t 7)) <|
  qo 31 (.cmp .eql (.t 29) (.t 30)) <|
  .nil) (.t 31) <|
  qo 33 (.mv (.t 32)) <|
  .sc false 36 33 (qo 34 (.mv (.t 6)) <|
  qo 35 (.cmp .eql (.t 34) (I 2)) <|
  .nil) (.t 35) <|
  qo 2 (.mv (.t 36)) <|
  .nil)
  .ret)
  .skip))))
  (.prune [3, 0, 6] (.seq (.ops <|
  qo 37 (.mv (.t 3)) <|
  qo 38 (.mv (.t 0)) <|
  eo 39 (.call 33 [(.t 38)]) <|
  eo 40 (.call 32 [(.t 37), (.t 39)]) <|
  .prune [40, 6] <|
  qo 41 (.mv (.t 40)) <|
  .sc false 44 41 (qo 42 (.mv (.t 6)) <|
  qo 43 (.cmp .eql (.t 42) (I 2)) <|
  .nil) (.t 43) <|
  qo 2 (.mv (.t 44)) <|
  .nil)
  .ret)))))))
theorem c7 : fnIs Try.prog qall 7 = some (j7.flat, [.tmp 2], 45) := by kernel_rfl
theorem w7 : j7.wf 45 = true := by kernel_rfl
theorem ech_nil : echF [] = 2 := by decide
def G (f : FuncId) (a : List SV) (m : List Res) : Sx.Call := (FH.mk 30 (.one dProg) (fun _ => True) (fun y => if echF y.1 = 0 then .tup [.vec 0 (sortS (endsN y.1)).length, .int .i64 0] else .tup [.nils, .int .i64 (echF y.1)]) (fun y => if echF y.1 = 0 then [.vec 28 20 ((sortS (endsN y.1)).map dEn.emb)] else []) <|
  FH.rd 31 (.one dProg) (.one .int) (fun _ => True) (fun y => echF y.1) <|
  FH.pz 33 (.one dProg) (DP.one dEnds) (fun y => echF y.1 = 0) (fun y => sortS (endsN y.1)) <|
  FH.rd 32 (.two dEnds dEnds) (.one .bool) (fun _ => True) (fun y => eqBy sameE y.1 y.2.1) FH.none) f a m
theorem G_eq (f : FuncId) (a : List SV) (m : List Res) : G f a m = (FH.mk 30 (.one dProg) (fun _ => True) (fun y => if echF y.1 = 0 then .tup [.vec 0 (sortS (endsN y.1)).length, .int .i64 0] else .tup [.nils, .int .i64 (echF y.1)]) (fun y => if echF y.1 = 0 then [.vec 28 20 ((sortS (endsN y.1)).map dEn.emb)] else []) <|
  FH.rd 31 (.one dProg) (.one .int) (fun _ => True) (fun y => echF y.1) <|
  FH.pz 33 (.one dProg) (DP.one dEnds) (fun y => echF y.1 = 0) (fun y => sortS (endsN y.1)) <|
  FH.rd 32 (.two dEnds dEnds) (.one .bool) (fun _ => True) (fun y => eqBy sameE y.1 y.2.1) FH.none) f a m := nr rfl
theorem endsN_len {p : List (List PO)} (hc : echF p = 0) : (endsN p).length ≤ 13841287201 := by
  have := fromN_len (pre_first hc).fit.n 12 firstS ([], [])
  simpa [endsN] using this
theorem ends_ok (p : List (List PO)) : FnOK Try.prog 30 [dProg.emb p] [] (if echF p = 0 then .tup [.vec 0 (sortS (endsN p)).length, .int .i64 0] else .tup [.nils, .int .i64 (echF p)]) (if echF p = 0 then [.vec 28 20 ((sortS (endsN p)).map dEn.emb)] else []) := by
  by_cases hc : echF p = 0
  · rw [if_pos hc, if_pos hc]
    obtain ⟨o1, o2, o3⟩ := ends_same hc
    have hl := endsN_len hc
    have hT := tot_of o1.nd o1.ok
    exact f_EndsN hc hT (sortS_srt hT) (fun x => sortS_mem x _) (sortS_len _) (by omega)
  · rw [if_neg hc, if_neg hc]
    refine fn_walkF c30 w30 (show FHOK Try.prog (FH.rd 73 (.one dProg) (.one .int) (fun _ => True) (fun y => echF y.1) FH.none) from FH.rd_ok (by kernel_rfl) (fun y _ => f_check y.1) FH.none_ok) rfl ?_
    unfold j30
    simp only [go_sem, ↓reduceIte, Nat.reduceAdd, Nat.reduceMul, Nat.reduceSub, Nat.reduceLT, Nat.reduceLeDiff, Nat.reduceEqDiff, Int.reduceToNat, Int.reduceEq, Int.reduceLT, Int.reduceLE, reduceCtorEq, hc]
theorem G_ok : FHOK Try.prog G := FH.mk_ok (by kernel_rfl) (fun y _ => by
    by_cases hc : echF y.1 = 0
    · rw [if_pos hc, if_pos hc]; exact plainM (pv_tup ⟨plV_vec _ _, plV_int _ _, trivial⟩) ⟨plR_vec _ _ dEn _, trivial⟩
    · rw [if_neg hc, if_neg hc]; exact plainM (pv_tup ⟨plV_nils, plV_int _ _, trivial⟩) trivial) (fun y _ => ends_ok y.1) <|
  FH.rd_ok (by kernel_rfl) (fun y _ => f_REvCheck y.1) <| FH.pz_ok (by kernel_rfl) (fun y h => by
    obtain ⟨o1, o2, o3⟩ := ends_same (p := y.1) h
    exact f_REnds (ech_ok h).1 (ech_ok h).2 (tot_of o2.nd o2.ok) (sortS_srt (tot_of o1.nd o1.ok)) fun x => by rw [sortS_mem, o3]) <|
  FH.rd_ok (by kernel_rfl) (fun y _ => f_EqEn y.1 y.2.1) FH.none_ok
theorem f_law (p : List (List PO)) : FnOK Try.prog 7 [dProg.emb p] [] (.bool true) [] := by
  refine fn_walkF c7 w7 G_ok rfl ?_
  unfold j7
  by_cases hc : echF p = 0
  · simp only [go_sem, ↓reduceIte, Nat.reduceAdd, Nat.reduceMul, Nat.reduceSub, Nat.reduceLT, Nat.reduceLeDiff, Nat.reduceEqDiff, Int.reduceToNat, Int.reduceEq, Int.reduceLT, Int.reduceLE, reduceCtorEq, G_eq, hc, ech_nil]
    exact eqBy_refl same_self _
  · simp only [go_sem, ↓reduceIte, Nat.reduceAdd, Nat.reduceMul, Nat.reduceSub, Nat.reduceLT, Nat.reduceLeDiff, Nat.reduceEqDiff, Int.reduceToNat, Int.reduceEq, Int.reduceLT, Int.reduceLE, reduceCtorEq, G_eq, hc, ech_nil]
abbrev A : DA (List (List PO) × Unit) := .one dProg
abbrev Ts : List TT := [.sl 1 (.sl 3 (.st [.int .i64, .int .i64, .int .i64]))]
theorem lawP (y : DenL Ts) : A.decP [] (embL Ts y) := ⟨⟨rfl, fun _ _ => ⟨rfl, fun _ _ => ⟨rfl, rfl, rfl, trivial⟩⟩⟩, trivial⟩
theorem law (y : DenL Ts) (_ : okDL Ts y) : FnOK Try.prog 7 (A.emb (A.decV [] (embL Ts y))) [] (.bool true) [] := f_law _
theorem own : ownKnob Try.prog.godebug = none := by kernel_rfl
theorem laid : laidOutB Try.prog = true := by kernel_rfl
theorem lifted (os : Os) (started : os.Started) (H : Type) (enc : TypeId × Value → H) :
    ReturnsInHanded {} Try.checked os 7 .any (Rows.everyEndsSpec.pre6 enc Try.prog Try.f7 Rows.everyEndsRow.domain false) (Rows.everyEndsSpec.post enc Try.prog Try.f7 false true false false) := by
  refine returnsInHanded_of_change (C := Try.checked) own started (by kernel_rfl) Try.func7
    (ChangeSpec.witness6 (enc := enc) (C := Try.checked) false ⟨#[], #[.slice none 0 0], []⟩ 8 (by kernel_rfl) (by kernel_rfl) (by kernel_rfl) (by kernel_rfl)) ?_
  intro W base args ds gs before hval0 hW hcnd _
  have hW' := hW
  obtain ⟨p, q, hA, hV, rfl, hfz, hnd⟩ := hW
  obtain ⟨rfl, rfl⟩ := trodVars_none hV
  obtain ⟨y, hs, hok⟩ := open_args Ts (by kernel_rfl) hA (fun j t v h1 h2 => hval0 j t v (by simpa using h1) (by simpa using h2))
  obtain ⟨d1, rfl⟩ := len_one (trod_len hA)
  refine (law_run (law y hok) W (vs := args.toList) (satA_conv (A := A) (lawP y) hs)).mono fun e W' ⟨he, hb⟩ => ?_
  subst he
  exact ⟨_, rfl, row_close laid (by kernel_rfl) (by kernel_rfl) Try.underlying4 rfl hW' hb rfl⟩
theorem holds : Rows.EveryEndsSaid :=
  OpenClaim.holds_of_wide 7 Try.f7 rfl rfl rfl rfl rfl rfl rfl ⟨rfl, rfl, rfl, rfl, rfl⟩ rfl rfl rfl rfl rfl (by kernel_rfl) Try.func7 (by kernel_rfl)
    (of_decide_eq_true (by kernel_rfl)) (by unfold Func.isWrapper; first | (rw [if_pos (by decide +kernel)]; kernel_rfl) | (rw [if_neg (by decide +kernel)]; exact ⟨rfl, rfl⟩))
    (fun os started H enc _ => lifted os started H enc)
#print axioms holds
end Go.Proofs.Ytgcbhanfhnianaa.EveryEnds
