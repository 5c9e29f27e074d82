/- THE LAW 'ShrinkWithout' HANDS BACK TRUE, AND WHAT IT READS STANDS AS IT DID: FOR EVERY START. Conditions: none. -/
import Derived.Test.YtjipnjimopekjaaShrinkM
import Derived.Test.YtjipnjimopekjaaEqs
import Derived.WalkKit
import Derived.ProofKit
import Derived.OpenShut
import Derived.Leaving
import Derived.Conc.Holds
set_option linter.unusedSimpArgs false
set_option linter.unusedVariables false
set_option maxRecDepth 100000
open Go Go.Sx Go.Proofs Go.ChangeShapes Go.WideShapes Go.ChangeAt Go.RowKit
namespace Go.Proofs.Ytjipnjimopekjaa.ShrinkWithout
open Go.Proofs.Ytjipnjimopekjaa.D Go.Proofs.Ytjipnjimopekjaa.Tr Go.Proofs.Ytjipnjimopekjaa.Rc Go.Proofs.Ytjipnjimopekjaa.Eqs Go.Proofs.Ytjipnjimopekjaa.Sk Go.Proofs.Ytjipnjimopekjaa.Cp

def j11 : JC :=
  (.seq (.ops <|
  qo 4 (.mv (B false)) <|
  .nil)
  (.seq (.ops <|
  qo 12 (.mv (.t 0)) <|
  qo 13 (.mv (.t 1)) <|
  eo 14 (.call 41 [(.t 12), (.t 13)]) <|
  qo 11 (.mv (.t 14)) <|
  qo 15 (.ext 0 (.t 11)) <|
  qo 16 (.ext 1 (.t 11)) <|
  qo 5 (.mv (.t 15)) <|
  qo 6 (.mv (.t 16)) <|
  .nil)
  (.seq (.ops <|
  .prune [0, 1, 5, 6] <|
  qo 17 (.mv (.t 0)) <|
  eo 18 (.call 21 [(.t 17)]) <|
  qo 7 (.mv (.t 18)) <|
  .nil)
  (.prune [7, 1, 0, 5, 6] (.seq (.ops <|
  qo 8 (.mv (.c .nils)) <|
  .nil)
  (.seq (.seq (.ops <|
  qo 19 (.mv (.t 7)) <|
  qo 20 (.cmp .eql (.t 19) (I 0)) <|
  qo 21 (.mv (.t 20)) <|
  .sc false 30 21 (qo 22 (.mv (.t 1)) <|
  qo 23 (.cmp .lss (.t 22) (I 0)) <|
  qo 24 (.mv (.t 23)) <|
  .sc true 29 24 (qo 25 (.mv (.t 1)) <|
  qo 26 (.mv (.t 0)) <|
  qo 27 (.len (.t 26)) <|
  qo 28 (.cmp .geq (.t 25) (.t 27)) <|
  .nil) (.t 28) <|
  .nil) (.t 29) <|
  .nil)
  (.prune [30, 5, 8, 6, 7, 0, 1] (.cond (.t 30)
  (.ops <|
  qo 7 (.mv (I 1)) <|
  .nil)
  (.seq (.ops <|
  qo 31 (.mv (.t 7)) <|
  qo 32 (.cmp .eql (.t 31) (I 0)) <|
  .nil)
  (.cond (.t 32)
  (.seq (.dops <|
  .prune [0, 1, 5, 6, 7] <|
  qo 33 (.mv (.t 0)) <|
  qo 34 (.mv (.t 1)) <|
  qo 35 (.slc 3 (.t 33) none (some (.t 34)) none) <|
  eo 36 (.call 38 [(.t 35)]) <|
  .prune [0, 1, 36, 5, 6, 7] <|
  qo 37 (.mv (.t 0)) <|
  qo 38 (.mv (.t 1)) <|
  qo 39 (.ar .add (.t 38) (I 1)) <|
  .prune [37, 39, 36, 5, 6, 7] <|
  qo 40 (.slc 3 (.t 37) (some (.t 39)) none none) <|
  eo 41 (.app 26 3 24 (.t 36) (.t 40)) <|
  qo 8 (.mv (.t 41)) <|
  .nil)
  (.prune [8, 5, 6, 7] (.seq (.ops <|
  qo 42 (.mv (.t 8)) <|
  eo 43 (.call 21 [(.t 42)]) <|
  qo 44 (.cmp .neq (.t 43) (I 0)) <|
  .nil)
  (.cond (.t 44)
  (.ops <|
  qo 8 (.mv (.c .nils)) <|
  qo 7 (.mv (I 5)) <|
  .nil)
  .skip))))
  .skip)))))
  (.prune [5, 8, 6, 7] (.seq (.ops <|
  eo 46 (.call 36 [(.c .nils)]) <|
  qo 45 (.mv (.t 46)) <|
  qo 47 (.ext 0 (.t 45)) <|
  qo 48 (.ext 1 (.t 45)) <|
  qo 9 (.mv (.t 47)) <|
  qo 10 (.mv (.t 48)) <|
  .nil)
  (.prune [5, 8, 6, 7, 10] (.seq (.ops <|
  qo 49 (.mv (.t 5)) <|
  qo 50 (.mv (.t 8)) <|
  eo 51 (.call 16 [(.t 49), (.t 50)]) <|
  .prune [51, 6, 7, 10] <|
  qo 52 (.mv (.t 51)) <|
  .sc false 56 52 (qo 53 (.mv (.t 6)) <|
  qo 54 (.mv (.t 7)) <|
  qo 55 (.cmp .eql (.t 53) (.t 54)) <|
  .nil) (.t 55) <|
  qo 57 (.mv (.t 56)) <|
  .prune [57, 10] <|
  .sc false 60 57 (qo 58 (.mv (.t 10)) <|
  qo 59 (.cmp .eql (.t 58) (I 7)) <|
  .nil) (.t 59) <|
  qo 4 (.mv (.t 60)) <|
  .nil)
  .ret))))))))))
theorem c11 : fnIs Try.prog (qbut [38]) 11 = some (j11.flat, [.tmp 4], 61) := by kernel_rfl
theorem w11 : j11.wf 61 = true := by kernel_rfl
def G (f : FuncId) (a : List SV) (m : List Res) : Sx.Call := (FH.mk 41 (.two dEs .int) (fun _ => True) (fun y => .tup [.vec 0 (withoutF y.1 y.2.1).1.length, .int .i64 (withoutF y.1 y.2.1).2]) (fun y => [.vec 26 3 ((withoutF y.1 y.2.1).1.map dEv.emb)]) <|
  FH.rd 21 (.one dEs) (.one .int) (fun _ => True) (fun y => (checkR y.1).2) <|
  FH.mk 38 (.one dEs) (fun y => y.1.length ≤ 1000000) (fun y => .vec 0 y.1.length) (fun y => [.vec 26 3 (y.1.map dEv.emb)]) <|
  FH.pz 36 (.one dOEs) (DP.two dOEs .int) (fun _ => True) (fun y => minO y.1) <|
  FH.rd 16 (.two dEs dEs) (.one .bool) (fun _ => True) (fun y => eqBy ef_EqEvent y.1 y.2.1) FH.none) f a m
theorem G_eq (f : FuncId) (a : List SV) (m : List Res) : G f a m = (FH.mk 41 (.two dEs .int) (fun _ => True) (fun y => .tup [.vec 0 (withoutF y.1 y.2.1).1.length, .int .i64 (withoutF y.1 y.2.1).2]) (fun y => [.vec 26 3 ((withoutF y.1 y.2.1).1.map dEv.emb)]) <|
  FH.rd 21 (.one dEs) (.one .int) (fun _ => True) (fun y => (checkR y.1).2) <|
  FH.mk 38 (.one dEs) (fun y => y.1.length ≤ 1000000) (fun y => .vec 0 y.1.length) (fun y => [.vec 26 3 (y.1.map dEv.emb)]) <|
  FH.pz 36 (.one dOEs) (DP.two dOEs .int) (fun _ => True) (fun y => minO y.1) <|
  FH.rd 16 (.two dEs dEs) (.one .bool) (fun _ => True) (fun y => eqBy ef_EqEvent y.1 y.2.1) FH.none) f a m := nr rfl
theorem G_ok : FHOK Try.prog G := FH.mk_ok (by kernel_rfl) (fun y _ => plainM (pv_tup ⟨plV_vec _ _, plV_int _ _, trivial⟩) ⟨plR_vec _ _ dEv _, trivial⟩) (fun y _ => f_Without y.1 y.2.1) <|
  FH.rd_ok (by kernel_rfl) (fun y _ => f_May y.1) <|
  FH.mk_ok (by kernel_rfl) (fun y _ => plainM (pv_vec _ _) ⟨plR_vec _ _ dEv _, trivial⟩) (fun y h => f_CopyEv y.1 h) <|
  FH.pz_ok (by kernel_rfl) (fun y _ => f_Min y.1) <| FH.rd_ok (by kernel_rfl) (fun y _ => f_EqEvent y.1 y.2.1) FH.none_ok
theorem min_nil : minO none = (none, 7) := by
  unfold minO
  rw [if_pos (by decide), if_neg (by decide)]
theorem f_law (l : List Ev) (i : Int) : FnOK Try.prog 11 [dEs.emb l, .int .i64 i] [] (.bool true) [] := by
  refine fn_walkF c11 w11 G_ok rfl ?_
  unfold j11
  by_cases h0 : (checkR l).2 = 0
  · have hl := ok_len h0
    by_cases hi : i < 0 ∨ (l.length : Int) ≤ i
    · have hd : (decide (i < 0) || decide ((l.length : Int) ≤ i)) = true := by simpa using hi
      have hwf : withoutF l i = ([], 1) := by rw [withoutF, if_pos h0, if_pos hi]
      simp only [go_sem, ↓reduceIte, Nat.reduceAdd, Nat.reduceMul, Nat.reduceSub, Nat.reduceLT, Nat.reduceLeDiff, Nat.reduceEqDiff, Int.reduceToNat, Int.reduceEq, Int.reduceLT, Int.reduceLE, reduceCtorEq, G_eq, h0, hd, hwf, min_nil]
      exact eqBy_refl (by simp [ef_EqEvent]) _
    · have hd : (decide (i < 0) || decide ((l.length : Int) ≤ i)) = false := by simpa using hi
      obtain ⟨k, rfl⟩ : ∃ k : Nat, i = k := ⟨i.toNat, by omega⟩
      have hk : k < l.length := by omega
      have hk' : (k : Int) < l.length := by omega
      have hw : IntKind.i64.wrap ((k : Int) + 1) = ((k + 1 : Nat) : Int) := IntWalk.i64_in _ (by omega)
      have hcut : l.take k ++ (l.take l.length).drop (k + 1) = cut l k := by rw [List.take_length]; rfl
      have hwf : withoutF l k = if (checkR (cut l k)).2 = 0 then (cut l k, 0) else ([], 5) := by rw [withoutF, if_pos h0, if_neg hi]; rfl
      by_cases hq : (checkR (cut l k)).2 = 0
      · rw [if_pos hq] at hwf
        simp only [go_sem, ↓reduceIte, Nat.reduceAdd, Nat.reduceMul, Nat.reduceSub, Nat.reduceLT, Nat.reduceLeDiff, Nat.reduceEqDiff, Int.reduceToNat, Int.reduceEq, Int.reduceLT, Int.reduceLE, reduceCtorEq, G_eq, h0, hd, hk, hk', hw, hwf, min_nil, hcut, hq]
        exact ⟨by omega, ⟨by omega, by omega⟩, by rw [List.length_take]; omega, by omega, ⟨by omega, by omega⟩, by rw [List.length_take, List.length_drop, List.length_take]; omega, eqBy_refl (by simp [ef_EqEvent]) _⟩
      · rw [if_neg hq] at hwf
        simp only [go_sem, ↓reduceIte, Nat.reduceAdd, Nat.reduceMul, Nat.reduceSub, Nat.reduceLT, Nat.reduceLeDiff, Nat.reduceEqDiff, Int.reduceToNat, Int.reduceEq, Int.reduceLT, Int.reduceLE, reduceCtorEq, G_eq, h0, hd, hk, hk', hw, hwf, min_nil, hcut, hq]
        exact ⟨by omega, ⟨by omega, by omega⟩, by rw [List.length_take]; omega, by omega, ⟨by omega, by omega⟩, by rw [List.length_take, List.length_drop, List.length_take]; omega, eqBy_refl (by simp [ef_EqEvent]) _⟩
  · have hwf : withoutF l i = ([], (checkR l).2) := by rw [withoutF, if_neg h0]
    simp only [go_sem, ↓reduceIte, Nat.reduceAdd, Nat.reduceMul, Nat.reduceSub, Nat.reduceLT, Nat.reduceLeDiff, Nat.reduceEqDiff, Int.reduceToNat, Int.reduceEq, Int.reduceLT, Int.reduceLE, reduceCtorEq, G_eq, h0, hwf, min_nil]
    exact eqBy_refl (by simp [ef_EqEvent]) _
abbrev A : DA (List Ev × Int × Unit) := .two dEs .int
abbrev Ts : List TT := [.sl 3 (.st [.int .i64, .int .i64, .int .i64]), .int .i64]
theorem lawP (y : DenL Ts) : A.decP [] (embL Ts y) := ⟨⟨rfl, fun _ _ => ⟨rfl, rfl, rfl, trivial⟩⟩, rfl, trivial⟩
theorem law (y : DenL Ts) (_ : okDL Ts y) : FnOK Try.prog 11 (A.emb (A.decV [] (embL Ts y))) [] (.bool true) [] := f_law _ _
theorem own : ownKnob Try.prog.godebug = none := by kernel_rfl
theorem laid : laidOutB Try.prog = true := by kernel_rfl
theorem lifted (os : Os) (started : os.Started) (H : Type) (enc : TypeId × Value → H) :
    ReturnsInHanded {} Try.checked os 11 .any (Rows.shrinkWithoutSpec.pre6 enc Try.prog Try.f11 Rows.shrinkWithoutRow.domain false) (Rows.shrinkWithoutSpec.post enc Try.prog Try.f11 false true false false) := by
  refine returnsInHanded_of_change (C := Try.checked) own started (by kernel_rfl) Try.func11
    (ChangeSpec.witness6 (enc := enc) (C := Try.checked) false ⟨#[], #[.slice none 0 0, .int .i64 0], []⟩ 8 (by kernel_rfl) (by kernel_rfl) (by kernel_rfl) (by kernel_rfl)) ?_
  intro W base args ds gs before hval0 hW hcnd _
  have hW' := hW
  obtain ⟨p, q, hA, hV, rfl, hfz, hnd⟩ := hW
  obtain ⟨rfl, rfl⟩ := trodVars_none hV
  obtain ⟨y, hs, hok⟩ := open_args Ts (by kernel_rfl) hA (fun j t v h1 h2 => hval0 j t v (by simpa using h1) (by simpa using h2))
  obtain ⟨d1, d2, rfl⟩ := len_two (trod_len hA)
  refine (law_run (law y hok) W (vs := args.toList) (satA_conv (A := A) (lawP y) hs)).mono fun e W' ⟨he, hb⟩ => ?_
  subst he
  exact ⟨_, rfl, row_close laid (by kernel_rfl) (by kernel_rfl) Try.underlying4 rfl hW' hb rfl⟩
theorem holds : Rows.ShrinkWithoutSaid :=
  OpenClaim.holds_of_wide_leaving 11 Try.f11 rfl rfl rfl rfl rfl rfl rfl ⟨rfl, rfl, rfl, rfl, rfl⟩ rfl rfl rfl rfl rfl (by kernel_rfl) Try.func11 (by kernel_rfl)
    (of_decide_eq_true (by kernel_rfl)) (by unfold Func.isWrapper; first | (rw [if_pos (by decide +kernel)]; kernel_rfl) | (rw [if_neg (by decide +kernel)]; exact ⟨rfl, rfl⟩))
    (fun os started H enc _ enter => ReturnsInOpen.mono (fun _ _ _ x => ⟨x.2.1, onlyLeaving_of_quiet x.1, x.2.2⟩) (fun _ x => x) (lifted os started H enc enter))
#print axioms holds
end Go.Proofs.Ytjipnjimopekjaa.ShrinkWithout
