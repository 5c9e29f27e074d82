/- THE LAW 'TopSame' HANDS BACK TRUE, AND WHAT IT READS STANDS AS IT DID: FOR EVERY START. Conditions: none. -/
import Derived.Test.YtafcmgfmmlnngaaTopW
import Derived.Test.YtafcmgfmmlnngaaTopR
import Derived.Test.YtafcmgfmmlnngaaRaceA
import Derived.WalkKit
import Derived.ProofKit
import Derived.OpenShut
set_option linter.unusedSimpArgs false
set_option linter.unusedVariables false
set_option maxRecDepth 100000
open Go Go.Sx Go.Proofs Go.ChangeShapes Go.WideShapes Go.ChangeAt Go.RowKit
namespace Go.Proofs.Ytafcmgfmmlnngaa.TopSame
open Go.Proofs.Ytafcmgfmmlnngaa.D Go.Proofs.Ytafcmgfmmlnngaa.Tr Go.Proofs.Ytafcmgfmmlnngaa.Pg Go.Proofs.Ytafcmgfmmlnngaa.Rn Go.Proofs.Ytafcmgfmmlnngaa.Eqs Go.Proofs.Ytafcmgfmmlnngaa.Sw Go.Proofs.Ytafcmgfmmlnngaa.Rc Go.Proofs.Ytafcmgfmmlnngaa.Tp

def j5 : JC :=
  (.seq (.ops <|
  qo 6 (.mv (B false)) <|
  .nil)
  (.seq (.seq (.ops <|
  eo 21 (.call 23 []) <|
  qo 22 (.nt (.t 21)) <|
  .nil)
  (.cond (.t 22)
  (.seq (.ops <|
  qo 6 (.mv (B false)) <|
  .nil)
  .ret)
  .skip))
  (.seq (.ops <|
  qo 24 (.mv (.t 0)) <|
  qo 25 (.mv (.t 1)) <|
  eo 26 (.call 15 [(.t 24), (.t 25)]) <|
  .prune [26, 0, 2] <|
  qo 23 (.mv (.t 26)) <|
  qo 27 (.ext 0 (.t 23)) <|
  qo 28 (.ext 1 (.t 23)) <|
  qo 29 (.ext 2 (.t 23)) <|
  eo 7 (.alloc 28 (.agg [(.arr 8 1 fun _ => (.int .i64 0)), (.arr 4 1 fun _ => (.int .i64 0)), (.arr 6 1 fun _ => (.int .i64 0)), (.bool false), (.bool false)])) <|
  en (.store 20 (.t 7) (.t 27)) <|
  qo 8 (.mv (.t 28)) <|
  qo 9 (.mv (.t 29)) <|
  .nil)
  (.prune [0, 2, 9, 7, 8] (.seq (.ops <|
  qo 31 (.mv (.t 0)) <|
  qo 32 (.mv (.t 2)) <|
  eo 33 (.call 15 [(.t 31), (.t 32)]) <|
  .prune [33, 9, 7, 8] <|
  qo 30 (.mv (.t 33)) <|
  qo 34 (.ext 0 (.t 30)) <|
  qo 35 (.ext 1 (.t 30)) <|
  qo 36 (.ext 2 (.t 30)) <|
  eo 10 (.alloc 28 (.agg [(.arr 8 1 fun _ => (.int .i64 0)), (.arr 4 1 fun _ => (.int .i64 0)), (.arr 6 1 fun _ => (.int .i64 0)), (.bool false), (.bool false)])) <|
  en (.store 20 (.t 10) (.t 34)) <|
  qo 11 (.mv (.t 35)) <|
  qo 12 (.mv (.t 36)) <|
  .nil)
  (.prune [9, 12, 7, 10, 8, 11] (.seq (.seq (.ops <|
  qo 37 (.mv (.t 9)) <|
  qo 38 (.cmp .neq (.t 37) (I 0)) <|
  qo 39 (.mv (.t 38)) <|
  .prune [39, 12, 7, 10, 8, 11] <|
  .sc true 42 39 (qo 40 (.mv (.t 12)) <|
  qo 41 (.cmp .neq (.t 40) (I 0)) <|
  .nil) (.t 41) <|
  qo 43 (.mv (.t 42)) <|
  .prune [43, 7, 10, 8, 11] <|
  .sc true 47 43 (qo 44 (.fa 3 18 (.t 7)) <|
  eo 45 (.load 1 false (.t 44)) <|
  qo 46 (.nt (.t 45)) <|
  .nil) (.t 46) <|
  qo 48 (.mv (.t 47)) <|
  .sc true 52 48 (qo 49 (.fa 3 18 (.t 10)) <|
  eo 50 (.load 1 false (.t 49)) <|
  qo 51 (.nt (.t 50)) <|
  .nil) (.t 51) <|
  .nil)
  (.prune [52, 8, 11, 7, 10] (.cond (.t 52)
  (.seq (.ops <|
  qo 6 (.mv (B true)) <|
  .nil)
  .ret)
  .skip)))
  (.prune [8, 11, 7, 10] (.seq (.ops <|
  qo 54 (.mv (.t 8)) <|
  eo 55 (.call 24 [(.t 54)]) <|
  qo 53 (.mv (.t 55)) <|
  qo 56 (.ext 0 (.t 53)) <|
  qo 57 (.ext 1 (.t 53)) <|
  qo 13 (.mv (.t 56)) <|
  qo 14 (.mv (.t 57)) <|
  .nil)
  (.prune [11, 14, 13, 8, 7, 10] (.seq (.ops <|
  qo 59 (.mv (.t 11)) <|
  eo 60 (.call 24 [(.t 59)]) <|
  qo 58 (.mv (.t 60)) <|
  qo 61 (.ext 0 (.t 58)) <|
  qo 62 (.ext 1 (.t 58)) <|
  qo 15 (.mv (.t 61)) <|
  qo 16 (.mv (.t 62)) <|
  .nil)
  (.prune [14, 16, 13, 15, 8, 11, 7, 10] (.seq (.seq (.ops <|
  qo 63 (.mv (.t 14)) <|
  qo 64 (.cmp .neq (.t 63) (I 0)) <|
  qo 65 (.mv (.t 64)) <|
  .prune [65, 16, 13, 15, 8, 11, 7, 10] <|
  .sc true 68 65 (qo 66 (.mv (.t 16)) <|
  qo 67 (.cmp .neq (.t 66) (I 0)) <|
  .nil) (.t 67) <|
  .nil)
  (.prune [68, 13, 15, 8, 11, 7, 10] (.cond (.t 68)
  (.seq (.ops <|
  qo 6 (.mv (B false)) <|
  .nil)
  .ret)
  .skip)))
  (.prune [13, 15, 8, 11, 7, 10] (.seq (.seq (.ops <|
  qo 69 (.mv (.t 13)) <|
  qo 70 (.mv (.t 15)) <|
  eo 71 (.call 17 [(.t 69), (.t 70)]) <|
  qo 72 (.nt (.t 71)) <|
  .nil)
  (.prune [72, 8, 11, 7, 10] (.cond (.t 72)
  (.seq (.ops <|
  qo 6 (.mv (B true)) <|
  .nil)
  .ret)
  .skip)))
  (.prune [8, 11, 7, 10] (.seq (.ops <|
  qo 74 (.mv (.t 8)) <|
  eo 75 (.call 25 [(.t 74)]) <|
  qo 73 (.mv (.t 75)) <|
  .prune [73, 11, 7, 10] <|
  qo 76 (.ext 0 (.t 73)) <|
  qo 77 (.ext 1 (.t 73)) <|
  qo 17 (.mv (.t 76)) <|
  qo 18 (.mv (.t 77)) <|
  .nil)
  (.prune [11, 18, 7, 10, 17] (.seq (.ops <|
  qo 79 (.mv (.t 11)) <|
  eo 80 (.call 25 [(.t 79)]) <|
  qo 78 (.mv (.t 80)) <|
  .prune [78, 18, 7, 10, 17] <|
  qo 81 (.ext 0 (.t 78)) <|
  qo 82 (.ext 1 (.t 78)) <|
  qo 19 (.mv (.t 81)) <|
  qo 20 (.mv (.t 82)) <|
  .nil)
  (.prune [18, 20, 7, 10, 17, 19] (.seq (.ops <|
  qo 83 (.mv (.t 18)) <|
  qo 84 (.cmp .eql (.t 83) (I 0)) <|
  qo 85 (.mv (.t 84)) <|
  .prune [85, 20, 7, 10, 17, 19] <|
  .sc false 88 85 (qo 86 (.mv (.t 20)) <|
  qo 87 (.cmp .eql (.t 86) (I 0)) <|
  .nil) (.t 87) <|
  qo 89 (.mv (.t 88)) <|
  .prune [89, 7, 10, 17, 19] <|
  .sc false 93 89 (eo 90 (.load 20 true (.t 7)) <|
  eo 91 (.load 20 true (.t 10)) <|
  qo 92 (.aeq false (.st [(.arr 8 1 (.int .i64)), (.arr 4 1 (.int .i64)), (.arr 6 1 (.int .i64)), .bool, .bool]) (.t 90) (.t 91)) <|
  .nil) (.t 92) <|
  qo 94 (.mv (.t 93)) <|
  .prune [94, 17, 19] <|
  .sc false 100 94 (qo 95 (.mv (.t 17)) <|
  qo 96 (.len (.t 95)) <|
  qo 97 (.mv (.t 19)) <|
  qo 98 (.len (.t 97)) <|
  qo 99 (.cmp .eql (.t 96) (.t 98)) <|
  .nil) (.t 99) <|
  qo 6 (.mv (.t 100)) <|
  .nil)
  .ret)))))))))))))))))))))
theorem c5 : fnIs Try.prog qall 5 = some (j5.flat, [.tmp 6], 101) := by kernel_rfl
theorem w5 : j5.wf 101 = true := by kernel_rfl
def G (f : FuncId) (a : List SV) (m : List Res) : Sx.Call := (FH.rd 23 .nil (.one .bool) (fun _ => True) (fun _ => true) <|
  FH.mk 15 (.two dProg dIs) (fun _ => True) (fun y => .tup [dEn.emb (runF y.1 y.2.1).1, .vec 0 (runF y.1 y.2.1).2.1.length, .int .i64 (runF y.1 y.2.1).2.2]) (fun y => [.vec 35 3 ((runF y.1 y.2.1).2.1.map dEv.emb)]) <|
  FH.mk 24 (.one dEs) (fun _ => True) (fun y => .tup [.vec 0 (leastO y.1).length, .int .i64 (checkR y.1).2]) (fun y => [.vec 35 3 ((leastO y.1).map dEv.emb)]) <|
  FH.rd 17 (.two dEs dEs) (.one .bool) (fun _ => True) (fun y => eqBy ef_EqEvent y.1 y.2.1) <|
  FH.mk 25 (.one dEs) (fun _ => True) (fun y => .tup [.vec 0 (allF y.1).length, .int .i64 (playedF y.1).2.2]) (fun y => [.vec 69 4 ((allF y.1).map dRc.emb)]) FH.none) f a m
theorem G_eq (f : FuncId) (a : List SV) (m : List Res) : G f a m = (FH.rd 23 .nil (.one .bool) (fun _ => True) (fun _ => true) <|
  FH.mk 15 (.two dProg dIs) (fun _ => True) (fun y => .tup [dEn.emb (runF y.1 y.2.1).1, .vec 0 (runF y.1 y.2.1).2.1.length, .int .i64 (runF y.1 y.2.1).2.2]) (fun y => [.vec 35 3 ((runF y.1 y.2.1).2.1.map dEv.emb)]) <|
  FH.mk 24 (.one dEs) (fun _ => True) (fun y => .tup [.vec 0 (leastO y.1).length, .int .i64 (checkR y.1).2]) (fun y => [.vec 35 3 ((leastO y.1).map dEv.emb)]) <|
  FH.rd 17 (.two dEs dEs) (.one .bool) (fun _ => True) (fun y => eqBy ef_EqEvent y.1 y.2.1) <|
  FH.mk 25 (.one dEs) (fun _ => True) (fun y => .tup [.vec 0 (allF y.1).length, .int .i64 (playedF y.1).2.2]) (fun y => [.vec 69 4 ((allF y.1).map dRc.emb)]) FH.none) f a m := nr rfl
theorem G_ok : FHOK Try.prog G := FH.rd_ok (by kernel_rfl) (fun _ _ => f_works) <| FH.mk_ok (by kernel_rfl) (fun y _ => plainM (pv_tup ⟨plV_emb dEn _, plV_vec _ _, plV_int _ _, trivial⟩) ⟨plR_vec _ _ dEv _, trivial⟩) (fun y _ => Rn.f_Run y.1 y.2.1) <|
  FH.mk_ok (by kernel_rfl) (fun y _ => plainM (pv_tup ⟨plV_vec _ _, plV_int _ _, trivial⟩) ⟨plR_vec _ _ dEv _, trivial⟩) (fun y _ => f_Least y.1) <|
  FH.rd_ok (by kernel_rfl) (fun y _ => f_EqEvent y.1 y.2.1) <|
  FH.mk_ok (by kernel_rfl) (fun y _ => plainM (pv_tup ⟨plV_vec _ _, plV_int _ _, trivial⟩) ⟨plR_vec _ _ dRc _, trivial⟩) (fun y _ => f_All y.1) FH.none_ok
theorem ev_ok {l : List Ev} (hok : (checkR l).2 = 0) : ∀ e ∈ l, isEv e = true := by
  intro e he
  obtain ⟨i, hi, rfl⟩ := List.mem_iff_getElem.1 he
  have := ok_isEv hok i hi
  rwa [show l.getD i dEv.dft = l[i] by simp [List.getD, hi]] at this
theorem run_check {p : List (List PO)} {a : List Int} (h : (runF p a).2.2 = 0) : (checkR (runF p a).2.1).2 = 0 := by
  unfold runF at h ⊢
  by_cases h1 : progC badP p ≠ 0
  · rw [if_pos h1] at h; exact absurd h h1
  · rw [if_neg h1] at h ⊢
    by_cases h2 : 100 < a.length
    · rw [if_pos h2] at h; cases h
    · rw [if_neg h2]
      exact run_ok (Classical.not_not.1 h1) a a.length
theorem f_law (p : List (List PO)) (a b : List Int) : FnOK Try.prog 5 [dProg.emb p, dIs.emb a, dIs.emb b] [] (.bool true) [] := by
  refine fn_walkF c5 w5 G_ok rfl ?_
  unfold j5
  by_cases h1 : (runF p a).2.2 = 0 ∧ (runF p b).2.2 = 0 ∧ (runF p a).1.done = true ∧ (runF p b).1.done = true
  · obtain ⟨e1, e2, d1, d2⟩ := h1
    have c1 := run_check e1
    have c2 := run_check e2
    have p1 : (playedF (runF p a).2.1).2.2 = 0 := by rw [err_same]; exact c1
    have p2 : (playedF (runF p b).2.1).2.2 = 0 := by rw [err_same]; exact c2
    have l1 : leastO (runF p a).2.1 = leastF (runF p a).2.1 := if_pos c1
    have l2 : leastO (runF p b).2.1 = leastF (runF p b).2.1 := if_pos c2
    simp only [go_sem, ↓reduceIte, Nat.reduceAdd, Nat.reduceMul, Nat.reduceSub, Nat.reduceLT, Nat.reduceLeDiff, Nat.reduceEqDiff, Int.reduceToNat, Int.reduceEq, Int.reduceLT, Int.reduceLE, reduceCtorEq, G_eq, e1, e2, d1, d2, c1, c2, p1, p2, l1, l2, tszEn]
    intro h
    have hq := (eqBy_iff (e := ef_EqEvent) (fun x y => by
      obtain ⟨a, b, c⟩ := x
      obtain ⟨a', b', c'⟩ := y
      simp [ef_EqEvent])).1 h
    have v1 := least_eqv _ (runF p a).2.1 (Nat.le_refl _)
    have v2 := least_eqv _ (runF p b).2.1 (Nat.le_refl _)
    have r1 := replay_eqv p v1 (ev_ok c1)
    have r2 := replay_eqv p v2 (ev_ok c2)
    have q1 := races_eqv v1 (ev_ok c1)
    have q2 := races_eqv v2 (ev_ok c2)
    have hE : (runF p a).1 = (runF p b).1 := end_same e1 e2 d1 d2 (by rw [r1.1, r2.1, hq]) (fun t => by rw [r1.2, r2.2, hq])
    have hR : (allF (runF p a).2.1).length = (allF (runF p b).2.1).length := by
      rw [allF, allF, if_pos p1, if_pos p2, q1, q2, hq]
    rw [hE, hR]
    simp
  · simp only [go_sem, ↓reduceIte, Nat.reduceAdd, Nat.reduceMul, Nat.reduceSub, Nat.reduceLT, Nat.reduceLeDiff, Nat.reduceEqDiff, Int.reduceToNat, Int.reduceEq, Int.reduceLT, Int.reduceLE, reduceCtorEq, G_eq, tszEn]
    intro hh
    simp only [Bool.or_eq_false_iff, Bool.not_eq_false', decide_eq_true_eq] at hh
    exact absurd ⟨hh.1.1.1, hh.1.1.2, hh.1.2, hh.2⟩ h1
abbrev A : DA (List (List PO) × List Int × List Int × Unit) := .three dProg dIs dIs
abbrev Ts : List TT := [.sl 1 (.sl 3 (.st [.int .i64, .int .i64, .int .i64])), .sl 1 (.int .i64), .sl 1 (.int .i64)]
theorem lawP (y : DenL Ts) : A.decP [] (embL Ts y) := ⟨⟨rfl, fun _ _ => ⟨rfl, fun _ _ => ⟨rfl, rfl, rfl, trivial⟩⟩⟩, ⟨rfl, fun _ _ => rfl⟩, ⟨rfl, fun _ _ => rfl⟩, trivial⟩
theorem law (y : DenL Ts) (_ : okDL Ts y) : FnOK Try.prog 5 (A.emb (A.decV [] (embL Ts y))) [] (.bool true) [] := f_law _ _ _
theorem own : ownKnob Try.prog.godebug = none := by kernel_rfl
theorem laid : laidOutB Try.prog = true := by kernel_rfl
theorem lifted (os : Os) (started : os.Started) (H : Type) (enc : TypeId × Value → H) :
    ReturnsInHanded {} Try.checked os 5 .any (Rows.topSameSpec.pre6 enc Try.prog Try.f5 Rows.topSameRow.domain false) (Rows.topSameSpec.post enc Try.prog Try.f5 false true false false) := by
  refine returnsInHanded_of_change (C := Try.checked) own started (by kernel_rfl) Try.func5
    (ChangeSpec.witness6 (enc := enc) (C := Try.checked) false ⟨#[], #[.slice none 0 0, .slice none 0 0, .slice none 0 0], []⟩ 8 (by kernel_rfl) (by kernel_rfl) (by kernel_rfl) (by kernel_rfl)) ?_
  intro W base args ds gs before hval0 hW hcnd _
  have hW' := hW
  obtain ⟨p, q, hA, hV, rfl, hfz, hnd⟩ := hW
  obtain ⟨rfl, rfl⟩ := trodVars_none hV
  obtain ⟨y, hs, hok⟩ := open_args Ts (by kernel_rfl) hA (fun j t v h1 h2 => hval0 j t v (by simpa using h1) (by simpa using h2))
  obtain ⟨d1, d2, d3, rfl⟩ := len_three (trod_len hA)
  refine (law_run (law y hok) W (vs := args.toList) (satA_conv (A := A) (lawP y) hs)).mono fun e W' ⟨he, hb⟩ => ?_
  subst he
  exact ⟨_, rfl, row_close laid (by kernel_rfl) (by kernel_rfl) Try.underlying4 rfl hW' hb rfl⟩
theorem holds : Rows.TopSameSaid :=
  OpenClaim.holds_of_wide 5 Try.f5 rfl rfl rfl rfl rfl rfl rfl ⟨rfl, rfl, rfl, rfl, rfl⟩ rfl rfl rfl rfl rfl (by kernel_rfl) Try.func5 (by kernel_rfl)
    (of_decide_eq_true (by kernel_rfl)) (by unfold Func.isWrapper; first | (rw [if_pos (by decide +kernel)]; kernel_rfl) | (rw [if_neg (by decide +kernel)]; exact ⟨rfl, rfl⟩))
    (fun os started H enc _ => lifted os started H enc)
#print axioms holds
end Go.Proofs.Ytafcmgfmmlnngaa.TopSame
