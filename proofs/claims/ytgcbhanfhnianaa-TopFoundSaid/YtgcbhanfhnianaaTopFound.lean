/- THE LAW 'TopFound' HANDS BACK TRUE, AND WHAT IT READS STANDS AS IT DID: FOR EVERY START. Conditions: none. -/
import Derived.Test.YtgcbhanfhnianaaEvF
import Derived.Test.YtgcbhanfhnianaaTopW
import Derived.WalkKit
import Derived.ProofKit
import Derived.OpenShut
set_option linter.unusedSimpArgs false
set_option linter.unusedVariables false
set_option maxRecDepth 100000
open Go Go.Sx Go.Proofs Go.ChangeShapes Go.WideShapes Go.ChangeAt Go.RowKit
namespace Go.Proofs.Ytgcbhanfhnianaa.TopFound
open Go.Proofs.Ytgcbhanfhnianaa.D Go.Proofs.Ytgcbhanfhnianaa.Pg Go.Proofs.Ytgcbhanfhnianaa.Tr Go.Proofs.Ytgcbhanfhnianaa.Rn Go.Proofs.Ytgcbhanfhnianaa.Ev Go.Proofs.Ytgcbhanfhnianaa.Fa Go.Proofs.Ytgcbhanfhnianaa.Tp Go.Proofs.Ytgcbhanfhnianaa.Rc Go.Proofs.Ytgcbhanfhnianaa.Sk Go.Proofs.Ytgcbhanfhnianaa.Fu

def j11 : JC :=
  (.seq (.ops <|
  qo 4 (.mv (B false)) <|
  .nil)
  (.seq (.seq (.ops <|
  eo 17 (.call 42 []) <|
  qo 18 (.nt (.t 17)) <|
  .nil)
  (.cond (.t 18)
  (.seq (.ops <|
  qo 4 (.mv (B false)) <|
  .nil)
  .ret)
  .skip))
  (.seq (.ops <|
  qo 20 (.mv (.t 0)) <|
  eo 21 (.call 40 [(.t 20)]) <|
  qo 19 (.mv (.t 21)) <|
  .prune [19, 0, 1] <|
  qo 22 (.ext 0 (.t 19)) <|
  qo 23 (.ext 1 (.t 19)) <|
  qo 24 (.ext 2 (.t 19)) <|
  qo 5 (.mv (.t 22)) <|
  qo 6 (.mv (.t 23)) <|
  qo 7 (.mv (.t 24)) <|
  .nil)
  (.prune [7, 5, 6, 0, 1] (.seq (.seq (.ops <|
  qo 25 (.mv (.t 7)) <|
  qo 26 (.cmp .neq (.t 25) (I 0)) <|
  .nil)
  (.cond (.t 26)
  (.seq (.ops <|
  .prune [5, 6] <|
  qo 27 (.mv (.t 5)) <|
  qo 28 (.nt (.t 27)) <|
  qo 29 (.mv (.t 28)) <|
  .sc false 33 29 (qo 30 (.mv (.t 6)) <|
  qo 31 (.len (.t 30)) <|
  qo 32 (.cmp .eql (.t 31) (I 0)) <|
  .nil) (.t 32) <|
  qo 4 (.mv (.t 33)) <|
  .nil)
  .ret)
  .skip))
  (.prune [5, 6, 0, 1] (.seq (.seq (.ops <|
  qo 34 (.mv (.t 5)) <|
  .nil)
  (.cond (.t 34)
  (.ops <|
  qo 35 (.mv (.t 6)) <|
  qo 1 (.mv (.t 35)) <|
  .nil)
  .skip))
  (.seq (.ops <|
  .prune [0, 1, 5] <|
  qo 37 (.mv (.t 0)) <|
  qo 38 (.mv (.t 1)) <|
  eo 39 (.call 12 [(.t 37), (.t 38)]) <|
  qo 36 (.mv (.t 39)) <|
  .prune [36, 5] <|
  qo 40 (.ext 0 (.t 36)) <|
  qo 41 (.ext 1 (.t 36)) <|
  qo 42 (.ext 2 (.t 36)) <|
  eo 8 (.alloc 28 (.agg [(.arr 8 1 fun _ => (.int .i64 0)), (.arr 4 1 fun _ => (.int .i64 0)), (.arr 6 1 fun _ => (.int .i64 0)), (.bool false), (.bool false)])) <|
  en (.store 20 (.t 8) (.t 40)) <|
  qo 9 (.mv (.t 41)) <|
  qo 10 (.mv (.t 42)) <|
  .nil)
  (.frz 9 dEs.frz <| .prune [9, 10, 5] (.seq (.ops <|
  qo 44 (.mv (.t 9)) <|
  eo 45 (.call 16 [(.t 44)]) <|
  qo 43 (.mv (.t 45)) <|
  qo 46 (.ext 0 (.t 43)) <|
  qo 47 (.ext 1 (.t 43)) <|
  qo 11 (.mv (.t 46)) <|
  qo 12 (.mv (.t 47)) <|
  .nil)
  (.prune [10, 12, 9, 5, 11] (.seq (.seq (.ops <|
  qo 48 (.mv (.t 10)) <|
  qo 49 (.cmp .neq (.t 48) (I 0)) <|
  qo 50 (.mv (.t 49)) <|
  .sc true 53 50 (qo 51 (.mv (.t 12)) <|
  qo 52 (.cmp .neq (.t 51) (I 0)) <|
  .nil) (.t 52) <|
  .nil)
  (.prune [53, 10, 9, 5, 11] (.cond (.t 53)
  (.seq (.ops <|
  qo 54 (.mv (.t 10)) <|
  qo 55 (.cmp .neq (.t 54) (I 0)) <|
  qo 4 (.mv (.t 55)) <|
  .nil)
  .ret)
  .skip)))
  (.prune [9, 5, 11] (.seq (.ops <|
  qo 57 (.mv (.t 9)) <|
  eo 58 (.call 34 [(.t 57)]) <|
  qo 56 (.mv (.t 58)) <|
  qo 59 (.ext 0 (.t 56)) <|
  .prune [56, 59, 5, 11] <|
  qo 60 (.ext 1 (.t 56)) <|
  qo 13 (.mv (.t 59)) <|
  qo 14 (.mv (.t 60)) <|
  .nil)
  (.prune [5, 11, 14, 13] (.seq (.seq (.ops <|
  qo 61 (.mv (.t 5)) <|
  qo 62 (.nt (.t 61)) <|
  .nil)
  (.cond (.t 62)
  (.seq (.ops <|
  qo 63 (.mv (.t 11)) <|
  .prune [63, 14] <|
  qo 64 (.len (.t 63)) <|
  qo 65 (.cmp .eql (.t 64) (I 0)) <|
  qo 66 (.mv (.t 65)) <|
  .sc false 69 66 (qo 67 (.mv (.t 14)) <|
  qo 68 (.cmp .eql (.t 67) (I 7)) <|
  .nil) (.t 68) <|
  qo 4 (.mv (.t 69)) <|
  .nil)
  .ret)
  .skip))
  (.prune [13, 14, 11] (.seq (.ops <|
  qo 71 (.mv (.t 13)) <|
  eo 72 (.call 16 [(.t 71)]) <|
  qo 70 (.mv (.t 72)) <|
  qo 73 (.ext 0 (.t 70)) <|
  qo 74 (.ext 1 (.t 70)) <|
  qo 15 (.mv (.t 73)) <|
  qo 16 (.mv (.t 74)) <|
  .nil)
  (.prune [14, 16, 11, 15, 13] (.seq (.ops <|
  qo 75 (.mv (.t 14)) <|
  qo 76 (.cmp .eql (.t 75) (I 0)) <|
  qo 77 (.mv (.t 76)) <|
  .prune [77, 16, 11, 15, 13] <|
  .sc false 80 77 (qo 78 (.mv (.t 16)) <|
  qo 79 (.cmp .eql (.t 78) (I 0)) <|
  .nil) (.t 79) <|
  qo 81 (.mv (.t 80)) <|
  .prune [81, 11, 15, 13] <|
  .sc false 85 81 (qo 82 (.mv (.t 11)) <|
  qo 83 (.len (.t 82)) <|
  qo 84 (.cmp .gtr (.t 83) (I 0)) <|
  .nil) (.t 84) <|
  qo 86 (.mv (.t 85)) <|
  .sc false 90 86 (qo 87 (.mv (.t 15)) <|
  qo 88 (.len (.t 87)) <|
  qo 89 (.cmp .eql (.t 88) (I 1)) <|
  .nil) (.t 89) <|
  .prune [90, 15, 13] <|
  qo 91 (.mv (.t 90)) <|
  .sc false 100 91 (qo 92 (.mv (.t 15)) <|
  qo 93 (.is 3 (.t 92) (I 0)) <|
  qo 94 (.fa 0 0 (.t 93)) <|
  eo 95 (.load 1 false (.t 94)) <|
  qo 96 (.mv (.t 13)) <|
  qo 97 (.len (.t 96)) <|
  qo 98 (.ar .sub (.t 97) (I 1)) <|
  qo 99 (.cmp .eql (.t 95) (.t 98)) <|
  .nil) (.t 99) <|
  qo 4 (.mv (.t 100)) <|
  .nil)
  .ret))))))))))))))))))))
theorem c11 : fnIs Try.prog qall 11 = some (j11.flat, [.tmp 4], 101) := by kernel_rfl
theorem w11 : j11.wf 101 = true := by kernel_rfl
def G (f : FuncId) (a : List SV) (m : List Res) : Sx.Call := (FH.rd 42 .nil (.one .bool) (fun _ => True) (fun _ => true) <|
  FH.pz 40 (.one dProg) (DP.three DT.bool dBe DT.int) (fun _ => True) (fun y => ((racesB y.1).isSome, racesB y.1, echF y.1)) <|
  FH.mk 12 (.two dProg dIs) (fun _ => True) (fun y => .tup [dEn.emb (Rn.runF y.1 y.2.1).1, .vec 0 (Rn.runF y.1 y.2.1).2.1.length, .int .i64 (Rn.runF y.1 y.2.1).2.2]) (fun y => [.vec 35 3 ((Rn.runF y.1 y.2.1).2.1.map dEv.emb)]) <|
  FH.mk 16 (.one dEs) (fun _ => True) (fun y => .tup [.vec 0 (fastL y.1).length, .int .i64 (playedF y.1).2.2]) (fun y => [.vec 47 3 ((fastL y.1).map dFl.emb)]) <|
  FH.pz 34 (.one dEs) (DP.two dOEs .int) (fun _ => True) (fun y => minO (some y.1)) FH.none) f a m
theorem G_eq (f : FuncId) (a : List SV) (m : List Res) : G f a m = (FH.rd 42 .nil (.one .bool) (fun _ => True) (fun _ => true) <|
  FH.pz 40 (.one dProg) (DP.three DT.bool dBe DT.int) (fun _ => True) (fun y => ((racesB y.1).isSome, racesB y.1, echF y.1)) <|
  FH.mk 12 (.two dProg dIs) (fun _ => True) (fun y => .tup [dEn.emb (Rn.runF y.1 y.2.1).1, .vec 0 (Rn.runF y.1 y.2.1).2.1.length, .int .i64 (Rn.runF y.1 y.2.1).2.2]) (fun y => [.vec 35 3 ((Rn.runF y.1 y.2.1).2.1.map dEv.emb)]) <|
  FH.mk 16 (.one dEs) (fun _ => True) (fun y => .tup [.vec 0 (fastL y.1).length, .int .i64 (playedF y.1).2.2]) (fun y => [.vec 47 3 ((fastL y.1).map dFl.emb)]) <|
  FH.pz 34 (.one dEs) (DP.two dOEs .int) (fun _ => True) (fun y => minO (some y.1)) FH.none) f a m := nr rfl
theorem G_ok : FHOK Try.prog G := FH.rd_ok (by kernel_rfl) (fun _ _ => f_works) <| FH.pz_ok (by kernel_rfl) (fun y _ => f_Races y.1) <|
  FH.mk_ok (by kernel_rfl) (fun y _ => plainM (pv_tup ⟨plV_emb dEn _, plV_vec _ _, plV_int _ _, trivial⟩) ⟨plR_vec _ _ dEv _, trivial⟩) (fun y _ => Rn.f_Run y.1 y.2.1) <|
  FH.mk_ok (by kernel_rfl) (fun y _ => plainM (pv_tup ⟨plV_vec _ _, plV_int _ _, trivial⟩) ⟨plR_vec _ _ dFl _, trivial⟩) (fun y _ => f_FRun y.1) <|
  FH.pz_ok (by kernel_rfl) (fun y _ => f_Min (some y.1)) FH.none_ok
theorem min_yes {l : List Ev} (h : (checkR l).2 = 0) (hr : racy l = true) : minO (some l) = (some (minF l), 0) := by
  unfold minO; rw [if_pos (show (checkR ((some l).getD [])).2 = 0 from h), if_pos (show racy ((some l).getD []) = true from hr)]; rfl
theorem min_no {l : List Ev} (h : (checkR l).2 = 0) (hr : ¬ racy l = true) : minO (some l) = (none, 7) := by
  unfold minO; rw [if_pos (show (checkR ((some l).getD [])).2 = 0 from h), if_neg (show ¬ racy ((some l).getD []) = true from hr)]
theorem run_of {p : List (List PO)} (hc : echF p = 0) {a : List Int} (h : a.length ≤ 100) : Rn.runF p a = (endF' (runS p a a.length) p, runE p a a.length, 0) := by
  rw [Rn.runF, if_neg (by rw [(ech_ok hc).1]; decide), if_neg (by omega)]
theorem run_not {p : List (List PO)} (hc : echF p = 0) {a : List Int} (h : ¬ a.length ≤ 100) : Rn.runF p a = (zeroEn, [], 2) := by
  rw [Rn.runF, if_neg (by rw [(ech_ok hc).1]; decide), if_pos (by omega)]
theorem tszEn : tsz Try.prog 28 = some (20, true) := by kernel_rfl
theorem f_law (p : List (List PO)) (a : List Int) : FnOK Try.prog 11 [dProg.emb p, dIs.emb a] [] (.bool true) [] := by
  refine fn_walkF c11 w11 G_ok rfl ?_
  unfold j11
  by_cases hc : echF p = 0
  · obtain ⟨f1, f2⟩ := found hc
    cases hb : racesB p with
    | none =>
      by_cases h100 : a.length ≤ 100
      · have hr := run_of hc h100
        have hv := run_ok (ech_ok hc).1 a a.length
        have hn := f1 a a.length hb
        generalize runE p a a.length = l at hr hv hn
        have hp : (playedF l).2.2 = 0 := by rw [err_same]; exact hv
        have hz : racesF l = [] := by
          apply Classical.byContradiction
          intro h
          rw [race_iff'.2 h] at hn; cases hn
        have hf : fastL l = [] := (fast_nil hv).2 hz
        have hm := min_no hv (show ¬ racy l = true by unfold racy; rw [hz]; decide)
        simp only [go_sem, ↓reduceIte, Nat.reduceAdd, Nat.reduceMul, Nat.reduceSub, Nat.reduceLT, Nat.reduceLeDiff, Nat.reduceEqDiff, Int.reduceToNat, Int.reduceEq, Int.reduceLT, Int.reduceLE, reduceCtorEq, G_eq, Option.isSome_none, Option.isSome_some, hc, hb, hr, hp, hf, hm, tszEn]
      · have hr := run_not hc h100
        have hp : (playedF []).2.2 = 0 := by decide
        simp only [go_sem, ↓reduceIte, Nat.reduceAdd, Nat.reduceMul, Nat.reduceSub, Nat.reduceLT, Nat.reduceLeDiff, Nat.reduceEqDiff, Int.reduceToNat, Int.reduceEq, Int.reduceLT, Int.reduceLE, reduceCtorEq, G_eq, Option.isSome_none, Option.isSome_some, hc, hb, hr, hp, tszEn]
    | some ks =>
      obtain ⟨k1, k2⟩ := f2 ks hb
      have hr := run_of hc (show ks.length ≤ 100 by omega)
      have hv := run_ok (ech_ok hc).1 ks ks.length
      generalize runE p ks ks.length = l at hr hv k2
      have hp : (playedF l).2.2 = 0 := by rw [err_same]; exact hv
      have hz := race_iff'.1 k2
      have hrc : racy l = true := k2
      have hm := min_yes hv hrc
      have hg : good l = true := by unfold good; rw [hrc, decide_eq_true hv]; rfl
      obtain ⟨m1, m2⟩ := min_is _ l (Nat.le_refl _) hg
      generalize minF l = m at hm m1 m2
      unfold good at m1
      rw [Bool.and_eq_true, decide_eq_true_eq] at m1
      have hpm : (playedF m).2.2 = 0 := by rw [err_same]; exact m1.1
      obtain ⟨f, hf, h0, hat⟩ := last_flag m1.1 (race_iff'.1 m1.2) m2
      have hl : 0 < (fastL l).length := List.length_pos_iff.2 fun e => hz ((fast_nil hv).1 e)
      have hl' : decide (0 < ((fastL l).length : Int)) = true := decide_eq_true (by omega)
      simp only [go_sem, ↓reduceIte, Nat.reduceAdd, Nat.reduceMul, Nat.reduceSub, Nat.reduceLT, Nat.reduceLeDiff, Nat.reduceEqDiff, Int.reduceToNat, Int.reduceEq, Int.reduceLT, Int.reduceLE, reduceCtorEq, G_eq, Option.isSome_none, Option.isSome_some, hc, hb, hr, hp, hm, hpm, hf, hl, hl', tszEn]
      have := ok_len m1.1
      rw [hat, IntWalk.i64_in _ (by omega)]
      omega
  · have hb : racesB p = none := if_neg hc
    simp only [go_sem, ↓reduceIte, Nat.reduceAdd, Nat.reduceMul, Nat.reduceSub, Nat.reduceLT, Nat.reduceLeDiff, Nat.reduceEqDiff, Int.reduceToNat, Int.reduceEq, Int.reduceLT, Int.reduceLE, reduceCtorEq, G_eq, Option.isSome_none, Option.isSome_some, hc, hb]
abbrev A : DA (List (List PO) × List Int × Unit) := .two dProg dIs
abbrev Ts : List TT := [.sl 1 (.sl 3 (.st [.int .i64, .int .i64, .int .i64])), .sl 1 (.int .i64)]
theorem lawP (y : DenL Ts) : A.decP [] (embL Ts y) := ⟨⟨rfl, fun _ _ => ⟨rfl, fun _ _ => ⟨rfl, rfl, rfl, trivial⟩⟩⟩, ⟨rfl, fun _ _ => rfl⟩, trivial⟩
theorem law (y : DenL Ts) (_ : okDL Ts y) : FnOK Try.prog 11 (A.emb (A.decV [] (embL Ts y))) [] (.bool true) [] := f_law _ _
theorem own : ownKnob Try.prog.godebug = none := by kernel_rfl
theorem laid : laidOutB Try.prog = true := by kernel_rfl
theorem lifted (os : Os) (started : os.Started) (H : Type) (enc : TypeId × Value → H) :
    ReturnsInHanded {} Try.checked os 11 .any (Rows.topFoundSpec.pre6 enc Try.prog Try.f11 Rows.topFoundRow.domain false) (Rows.topFoundSpec.post enc Try.prog Try.f11 false true false false) := by
  refine returnsInHanded_of_change (C := Try.checked) own started (by kernel_rfl) Try.func11
    (ChangeSpec.witness6 (enc := enc) (C := Try.checked) false ⟨#[], #[.slice none 0 0, .slice none 0 0], []⟩ 8 (by kernel_rfl) (by kernel_rfl) (by kernel_rfl) (by kernel_rfl)) ?_
  intro W base args ds gs before hval0 hW hcnd _
  have hW' := hW
  obtain ⟨p, q, hA, hV, rfl, hfz, hnd⟩ := hW
  obtain ⟨rfl, rfl⟩ := trodVars_none hV
  obtain ⟨y, hs, hok⟩ := open_args Ts (by kernel_rfl) hA (fun j t v h1 h2 => hval0 j t v (by simpa using h1) (by simpa using h2))
  obtain ⟨d1, d2, rfl⟩ := len_two (trod_len hA)
  refine (law_run (law y hok) W (vs := args.toList) (satA_conv (A := A) (lawP y) hs)).mono fun e W' ⟨he, hb⟩ => ?_
  subst he
  exact ⟨_, rfl, row_close laid (by kernel_rfl) (by kernel_rfl) Try.underlying4 rfl hW' hb rfl⟩
theorem holds : Rows.TopFoundSaid :=
  OpenClaim.holds_of_wide 11 Try.f11 rfl rfl rfl rfl rfl rfl rfl ⟨rfl, rfl, rfl, rfl, rfl⟩ rfl rfl rfl rfl rfl (by kernel_rfl) Try.func11 (by kernel_rfl)
    (of_decide_eq_true (by kernel_rfl)) (by unfold Func.isWrapper; first | (rw [if_pos (by decide +kernel)]; kernel_rfl) | (rw [if_neg (by decide +kernel)]; exact ⟨rfl, rfl⟩))
    (fun os started H enc _ => lifted os started H enc)
#print axioms holds
end Go.Proofs.Ytgcbhanfhnianaa.TopFound
