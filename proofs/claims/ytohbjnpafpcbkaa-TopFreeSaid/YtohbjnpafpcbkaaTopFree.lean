/- THE LAW 'TopFree' HANDS BACK TRUE, AND WHAT IT READS STANDS AS IT DID: FOR EVERY START. Conditions: none. -/
import Derived.Test.YtohbjnpafpcbkaaTopW
import Derived.Test.YtohbjnpafpcbkaaTopG
import Derived.Test.YtohbjnpafpcbkaaTopY
import Derived.Test.YtohbjnpafpcbkaaRaceA
import Derived.WalkKit
import Derived.ProofKit
import Derived.OpenShut
set_option linter.unusedSimpArgs false
set_option linter.unusedVariables false
set_option maxRecDepth 100000
open Go Go.Sx Go.Proofs Go.ChangeShapes Go.WideShapes Go.ChangeAt Go.RowKit
namespace Go.Proofs.Ytohbjnpafpcbkaa.TopFree
open Go.Proofs.Ytohbjnpafpcbkaa.D Go.Proofs.Ytohbjnpafpcbkaa.Tr Go.Proofs.Ytohbjnpafpcbkaa.Pg Go.Proofs.Ytohbjnpafpcbkaa.Rn Go.Proofs.Ytohbjnpafpcbkaa.Eqs Go.Proofs.Ytohbjnpafpcbkaa.Sw Go.Proofs.Ytohbjnpafpcbkaa.Rc Go.Proofs.Ytohbjnpafpcbkaa.Tp
abbrev dEnR : DT En := DT.ref dEn
def j10_1 : JC :=
  (.seq (.ops <|
  qo 71 (.cmp .lss (.t 70) (I 9)) <|
  .nil)
  (.seq (.cond (.t 71)
  .skip
  (.exit 0))
  (.seq (.block 1 (.seq (.ops <|
  qo 72 (.mv (.t 70)) <|
  qo 17 (.mv (.t 72)) <|
  .nil)
  (.prune [17, 15, 16, 70, 8, 11, 7, 10] (.seq (.dops <|
  qo 73 (.mv (.t 17)) <|
  qo 74 (.ia 9 1 (.t 15) (.t 73)) <|
  eo 75 (.load 1 false (.t 74)) <|
  qo 76 (.mv (.t 17)) <|
  .prune [16, 76, 75, 70, 15, 8, 11, 7, 10] <|
  qo 77 (.ia 9 1 (.t 16) (.t 76)) <|
  eo 78 (.load 1 false (.t 77)) <|
  eo 79 (.qcall 37 [(.t 75), (.t 78)]) <|
  qo 80 (.nt (.t 79)) <|
  .nil)
  (.prune [80, 70, 15, 16, 8, 11, 7, 10] (.cond (.t 80)
  (.seq (.ops <|
  qo 6 (.mv (B true)) <|
  .nil)
  .ret)
  .skip))))))
  (.prune [70, 15, 16, 8, 11, 7, 10] (.ops <|
  qo 81 (.ar .add (.t 70) (I 1)) <|
  qo 70 (.mv (.t 81)) <|
  .nil)))))
def j10_2 : JC :=
  (.seq (.ops <|
  qo 85 (.cmp .lss (.t 84) (.t 83)) <|
  .nil)
  (.seq (.cond (.t 85)
  .skip
  (.exit 2))
  (.seq (.block 3 (.seq (.ops <|
  qo 86 (.is 3 (.t 82) (.t 84)) <|
  eo 87 (.load 3 true (.t 86)) <|
  eo 19 (.alloc 54 (.agg [(.int .i64 0), (.int .i64 0), (.int .i64 0)])) <|
  en (.store 3 (.t 19) (.t 87)) <|
  .nil)
  (.prune [19, 11, 84, 83, 82, 7, 10] (.seq (.ops <|
  qo 88 (.fa 0 0 (.t 19)) <|
  eo 89 (.load 1 false (.t 88)) <|
  qo 90 (.cmp .eql (.t 89) (I 5)) <|
  qo 91 (.mv (.t 90)) <|
  .prune [91, 11, 19, 84, 83, 82, 7, 10] <|
  .sc false 96 91 (qo 92 (.mv (.t 11)) <|
  eo 93 (.load 3 true (.t 19)) <|
  eo 94 (.call 43 [(.t 92), (.t 93)]) <|
  qo 95 (.nt (.t 94)) <|
  .nil) (.t 95) <|
  .nil)
  (.prune [96, 84, 83, 82, 11, 7, 10] (.cond (.t 96)
  (.seq (.ops <|
  qo 6 (.mv (B true)) <|
  .nil)
  .ret)
  .skip))))))
  (.prune [84, 83, 82, 11, 7, 10] (.ops <|
  qo 97 (.ar .add (.t 84) (I 1)) <|
  qo 84 (.mv (.t 97)) <|
  .nil)))))
def j10_3 : JC :=
  (.prune [7, 10] (.seq (.ops <|
  eo 98 (.load 20 true (.t 7)) <|
  eo 99 (.load 20 true (.t 10)) <|
  qo 100 (.aeq false (.st [(.arr 8 1 (.int .i64)), (.arr 4 1 (.int .i64)), (.arr 6 1 (.int .i64)), .bool, .bool]) (.t 98) (.t 99)) <|
  qo 6 (.mv (.t 100)) <|
  .nil)
  .ret))
def j10_4 : JC :=
  (.prune [8, 11, 7, 10] (.seq (.seq (.ops <|
  qo 82 (.mv (.t 8)) <|
  qo 83 (.len (.t 82)) <|
  qo 84 (.mv (I 0)) <|
  .nil)
  (.block 2 (.loop [83, 82, 11, 7, 10] [84] j10_2)))
  j10_3))
def j10 : ZC :=
  (.seq (.leaf (.ops <|
  qo 6 (.mv (B false)) <|
  .nil))
  (.seq (.leaf (.seq (.ops <|
  eo 20 (.call 20 []) <|
  qo 21 (.nt (.t 20)) <|
  .nil)
  (.cond (.t 21)
  (.seq (.ops <|
  qo 6 (.mv (B false)) <|
  .nil)
  .ret)
  .skip)))
  (.seq (.leaf (.ops <|
  qo 23 (.mv (.t 0)) <|
  qo 24 (.mv (.t 1)) <|
  eo 25 (.call 41 [(.t 23), (.t 24)]) <|
  .prune [25, 0, 2] <|
  qo 22 (.mv (.t 25)) <|
  qo 26 (.ext 0 (.t 22)) <|
  qo 27 (.ext 1 (.t 22)) <|
  qo 28 (.ext 2 (.t 22)) <|
  eo 7 (.alloc 74 (.agg [(.arr 8 1 fun _ => (.int .i64 0)), (.arr 4 1 fun _ => (.int .i64 0)), (.arr 6 1 fun _ => (.int .i64 0)), (.bool false), (.bool false)])) <|
  en (.store 20 (.t 7) (.t 26)) <|
  qo 8 (.mv (.t 27)) <|
  qo 9 (.mv (.t 28)) <|
  .nil))
  (.prune [0, 2, 8, 9, 7] (.seq (.leaf (.ops <|
  qo 30 (.mv (.t 0)) <|
  qo 31 (.mv (.t 2)) <|
  eo 32 (.call 41 [(.t 30), (.t 31)]) <|
  .prune [32, 8, 9, 7] <|
  qo 29 (.mv (.t 32)) <|
  qo 33 (.ext 0 (.t 29)) <|
  qo 34 (.ext 1 (.t 29)) <|
  qo 35 (.ext 2 (.t 29)) <|
  eo 10 (.alloc 74 (.agg [(.arr 8 1 fun _ => (.int .i64 0)), (.arr 4 1 fun _ => (.int .i64 0)), (.arr 6 1 fun _ => (.int .i64 0)), (.bool false), (.bool false)])) <|
  en (.store 20 (.t 10) (.t 33)) <|
  qo 11 (.mv (.t 34)) <|
  qo 12 (.mv (.t 35)) <|
  .nil))
  (.prune [8, 9, 12, 7, 10, 11] (.seq (.leaf (.ops <|
  qo 37 (.mv (.t 8)) <|
  eo 38 (.call 24 [(.t 37)]) <|
  qo 36 (.mv (.t 38)) <|
  qo 39 (.ext 0 (.t 36)) <|
  qo 40 (.ext 1 (.t 36)) <|
  qo 13 (.mv (.t 39)) <|
  qo 14 (.mv (.t 40)) <|
  .nil))
  (.prune [9, 12, 14, 7, 10, 13, 8, 11] (.seq (.leaf (.seq (.ops <|
  qo 41 (.mv (.t 9)) <|
  qo 42 (.cmp .neq (.t 41) (I 0)) <|
  qo 43 (.mv (.t 42)) <|
  .prune [43, 12, 14, 7, 10, 13, 8, 11] <|
  .sc true 46 43 (qo 44 (.mv (.t 12)) <|
  qo 45 (.cmp .neq (.t 44) (I 0)) <|
  .nil) (.t 45) <|
  qo 47 (.mv (.t 46)) <|
  .prune [47, 14, 7, 10, 13, 8, 11] <|
  .sc true 50 47 (qo 48 (.mv (.t 14)) <|
  qo 49 (.cmp .neq (.t 48) (I 0)) <|
  .nil) (.t 49) <|
  qo 51 (.mv (.t 50)) <|
  .prune [51, 7, 10, 13, 8, 11] <|
  .sc true 55 51 (qo 52 (.fa 3 18 (.t 7)) <|
  eo 53 (.load 1 false (.t 52)) <|
  qo 54 (.nt (.t 53)) <|
  .nil) (.t 54) <|
  qo 56 (.mv (.t 55)) <|
  .sc true 60 56 (qo 57 (.fa 3 18 (.t 10)) <|
  eo 58 (.load 1 false (.t 57)) <|
  qo 59 (.nt (.t 58)) <|
  .nil) (.t 59) <|
  .prune [60, 13, 8, 11, 7, 10] <|
  qo 61 (.mv (.t 60)) <|
  .sc true 65 61 (qo 62 (.mv (.t 13)) <|
  qo 63 (.len (.t 62)) <|
  qo 64 (.cmp .gtr (.t 63) (I 0)) <|
  .nil) (.t 64) <|
  .nil)
  (.prune [65, 8, 11, 7, 10] (.cond (.t 65)
  (.seq (.ops <|
  qo 6 (.mv (B true)) <|
  .nil)
  .ret)
  .skip))))
  (.frzs [(8, dEs.frz), (11, dEs.frz), (7, dEnR.frz), (10, dEnR.frz)] (.prune [8, 11, 7, 10] (.seq (.leaf (.ops <|
  qo 66 (.mv (.t 8)) <|
  eo 67 (.call 42 [(.t 66)]) <|
  qo 68 (.mv (.t 11)) <|
  eo 69 (.call 42 [(.t 68)]) <|
  eo 15 (.alloc 77 (.arr 9 1 fun _ => .nils)) <|
  eo 16 (.alloc 77 (.arr 9 1 fun _ => .nils)) <|
  en (.store 9 (.t 15) (.t 67)) <|
  en (.store 9 (.t 16) (.t 69)) <|
  .nil))
  (.prune [15, 16, 8, 11, 7, 10] (.seq (.leaf (.seq (.ops <|
  qo 70 (.mv (I 0)) <|
  .nil)
  (.block 0 (.loop [15, 16, 8, 11, 7, 10] [70] j10_1))))
  (.leaf j10_4)))))))))))))))
theorem c10 : fnZ Try.prog qall 10 j10 = some (j10.flat, [.tmp 6], 101) := by kernel_rfl
theorem w10 : j10.wf 101 = true := by kernel_rfl
def G (f : FuncId) (a : List SV) (m : List Res) : Sx.Call := (FH.rd 20 .nil (.one .bool) (fun _ => True) (fun _ => true) <|
  FH.mk 41 (.two dProg dIs) (fun _ => True) (fun y => .tup [dEn.emb (runF y.1 y.2.1).1, .vec 0 (runF y.1 y.2.1).2.1.length, .int .i64 (runF y.1 y.2.1).2.2]) (fun y => [.vec 54 3 ((runF y.1 y.2.1).2.1.map dEv.emb)]) <|
  FH.rd 37 (.two dEs dEs) (.one .bool) (fun _ => True) (fun y => eqBy ef_EqEvent y.1 y.2.1) <|
  FH.rd 43 (.two dEs dEv) (.one .bool) (fun _ => True) (fun y => hasE y.1 y.2.1) <|
  FH.pz 42 (.one dEs) (.one (DT.arr 9 1 dEs)) (fun y => y.1.length ≤ 1000 ∧ ∀ e ∈ y.1, isEv e = true) (fun y => syncF y.1) <|
  FH.mk 24 (.one dEs) (fun _ => True) (fun y => .tup [.vec 0 (allF y.1).length, .int .i64 (playedF y.1).2.2]) (fun y => [.vec 43 4 ((allF y.1).map dRc.emb)]) FH.none) f a m
theorem G_eq (f : FuncId) (a : List SV) (m : List Res) : G f a m = (FH.rd 20 .nil (.one .bool) (fun _ => True) (fun _ => true) <|
  FH.mk 41 (.two dProg dIs) (fun _ => True) (fun y => .tup [dEn.emb (runF y.1 y.2.1).1, .vec 0 (runF y.1 y.2.1).2.1.length, .int .i64 (runF y.1 y.2.1).2.2]) (fun y => [.vec 54 3 ((runF y.1 y.2.1).2.1.map dEv.emb)]) <|
  FH.rd 37 (.two dEs dEs) (.one .bool) (fun _ => True) (fun y => eqBy ef_EqEvent y.1 y.2.1) <|
  FH.rd 43 (.two dEs dEv) (.one .bool) (fun _ => True) (fun y => hasE y.1 y.2.1) <|
  FH.pz 42 (.one dEs) (.one (DT.arr 9 1 dEs)) (fun y => y.1.length ≤ 1000 ∧ ∀ e ∈ y.1, isEv e = true) (fun y => syncF y.1) <|
  FH.mk 24 (.one dEs) (fun _ => True) (fun y => .tup [.vec 0 (allF y.1).length, .int .i64 (playedF y.1).2.2]) (fun y => [.vec 43 4 ((allF y.1).map dRc.emb)]) FH.none) f a m := nr rfl
theorem G_ok : FHOK Try.prog G := FH.rd_ok (by kernel_rfl) (fun _ _ => f_works) <| FH.mk_ok (by kernel_rfl) (fun y _ => plainM (pv_tup ⟨plV_emb dEn _, plV_vec _ _, plV_int _ _, trivial⟩) ⟨plR_vec _ _ dEv _, trivial⟩) (fun y _ => Rn.f_Run y.1 y.2.1) <|
  FH.rd_ok (by kernel_rfl) (fun y _ => f_EqEvent y.1 y.2.1) <| FH.rd_ok (by kernel_rfl) (fun y _ => f_HasEv y.1 y.2.1) <| FH.pz_ok (by kernel_rfl) (fun y h => f_syncs y.1 h.1 h.2) <|
  FH.mk_ok (by kernel_rfl) (fun y _ => plainM (pv_tup ⟨plV_vec _ _, plV_int _ _, trivial⟩) ⟨plR_vec _ _ dRc _, trivial⟩) (fun y _ => f_All y.1) FH.none_ok
theorem ev_ok {l : List Ev} (hok : (checkR l).2 = 0) : ∀ e ∈ l, isEv e = true := by
  intro e he
  obtain ⟨i, hi, rfl⟩ := List.mem_iff_getElem.1 he
  have := ok_isEv hok i hi
  rwa [show l.getD i dEv.dft = l[i] by simp [List.getD, hi]] at this
theorem run_check {p : List (List PO)} {a : List Int} (h : (runF p a).2.2 = 0) : (checkR (runF p a).2.1).2 = 0 := by
  obtain ⟨hp, e⟩ := run_key h
  rw [e]
  exact run_ok hp a a.length
theorem tsz9 : tsz Try.prog 77 = some (9, true) := by kernel_rfl
theorem f_law (p : List (List PO)) (a b : List Int) : FnOK Try.prog 10 [dProg.emb p, dIs.emb a, dIs.emb b] [] (.bool true) [] := by
  refine fn_walkZ c10 w10 G_ok rfl ?_
  unfold j10
  by_cases h1 : (runF p a).2.2 = 0 ∧ (runF p b).2.2 = 0 ∧ (playedF (runF p a).2.1).2.2 = 0 ∧ (runF p a).1.done = true ∧ (runF p b).1.done = true ∧ (allF (runF p a).2.1).length = 0
  · obtain ⟨e1, e2, e3, d1, d2, e4⟩ := h1
    have c1 := run_check e1
    have c2 := run_check e2
    have v1 := ev_ok c1
    have v2 := ev_ok c2
    have n1 := ok_len c1
    have n2 := ok_len c2
    have l1 : (runF p a).2.1.length ≤ 1000 := by omega
    have l2 : (runF p b).2.1.length ≤ 1000 := by omega
    simp only [go_sem, ↓reduceIte, Nat.reduceAdd, Nat.reduceMul, Nat.reduceSub, Nat.reduceLT, Nat.reduceLeDiff, Nat.reduceEqDiff, Int.reduceToNat, Int.reduceEq, Int.reduceLT, Int.reduceLE, reduceCtorEq, G_eq, e1, e2, e3, d1, d2, e4, l1, l2, v1, v2, tszEn, tsz9]
    refine ⟨v1, v2, ?_⟩
    refine loopF Nat (fun i => [.int .i64 i]) (fun _ => [.dead, .dead, .dead, .dead, .dead, .blk 77 (.arr 9 1 fun i => .lst 3 dEv.dft dEv.emb (syncF (runF p a).2.1 i)), .blk 77 (.arr 9 1 fun i => .lst 3 dEv.dft dEv.emb (syncF (runF p b).2.1 i))])
      (fun i => i ≤ 9 ∧ ∀ j, j < i → eqBy ef_EqEvent (syncF (runF p a).2.1 j) (syncF (runF p b).2.1 j) = true) (fun i => 9 - i) 0 ⟨by omega, fun j hj => absurd hj (Nat.not_lt_zero _)⟩ ?_ rfl ?_
    · simp only [go_sem, ↓reduceIte, Nat.reduceAdd, Nat.reduceMul, Nat.reduceSub, Nat.reduceLT, Nat.reduceLeDiff, Nat.reduceEqDiff, Int.reduceToNat, Int.reduceEq, Int.reduceLT, Int.reduceLE, reduceCtorEq]
    rintro i ⟨hi, hinv⟩
    by_cases k1 : i < 9
    · have k1' : (i : Int) < 9 := by omega
      unfold j10_1
      simp only [go_sem, ↓reduceIte, Nat.reduceAdd, Nat.reduceMul, Nat.reduceSub, Nat.reduceLT, Nat.reduceLeDiff, Nat.reduceEqDiff, Int.reduceToNat, Int.reduceEq, Int.reduceLT, Int.reduceLE, reduceCtorEq, G_eq, k1, k1']
      refine ⟨by omega, by omega, fun hq => ⟨i + 1, ⟨by omega, fun j hj => ?_⟩, by omega, IntWalk.i64_in _ (by omega)⟩⟩
      by_cases e : j = i
      · rw [e]; exact hq
      · exact hinv j (by omega)
    · have k1' : ¬ (i : Int) < 9 := by omega
      unfold j10_1
      simp only [go_sem, ↓reduceIte, Nat.reduceAdd, Nat.reduceMul, Nat.reduceSub, Nat.reduceLT, Nat.reduceLeDiff, Nat.reduceEqDiff, Int.reduceToNat, Int.reduceEq, Int.reduceLT, Int.reduceLE, reduceCtorEq, G_eq, k1']
      unfold j10_4
      simp only [go_sem, ↓reduceIte, Nat.reduceAdd, Nat.reduceMul, Nat.reduceSub, Nat.reduceLT, Nat.reduceLeDiff, Nat.reduceEqDiff, Int.reduceToNat, Int.reduceEq, Int.reduceLT, Int.reduceLE, reduceCtorEq, G_eq]
      have ee : i = 9 := by omega
      subst ee
      refine loopF Nat (fun i => [.int .i64 i]) (fun _ => [.dead, .dead, .dead, .dead, .dead, .blk 77 (.arr 9 1 fun i => .lst 3 dEv.dft dEv.emb (syncF (runF p a).2.1 i)), .blk 77 (.arr 9 1 fun i => .lst 3 dEv.dft dEv.emb (syncF (runF p b).2.1 i))])
        (fun i => i ≤ (runF p a).2.1.length ∧ ∀ j, j < i → ((runF p a).2.1.getD j dEv.dft).kind = 5 → hasE (runF p b).2.1 ((runF p a).2.1.getD j dEv.dft) = true) (fun i => (runF p a).2.1.length - i) 0 ⟨by omega, fun j hj => absurd hj (Nat.not_lt_zero _)⟩ ?_ rfl ?_
      · simp only [go_sem, ↓reduceIte, Nat.reduceAdd, Nat.reduceMul, Nat.reduceSub, Nat.reduceLT, Nat.reduceLeDiff, Nat.reduceEqDiff, Int.reduceToNat, Int.reduceEq, Int.reduceLT, Int.reduceLE, reduceCtorEq]
      rintro i ⟨hi, hfk⟩
      by_cases k2 : i < (runF p a).2.1.length
      · have k2' : (i : Int) < (runF p a).2.1.length := by omega
        unfold j10_2
        simp only [go_sem, ↓reduceIte, Nat.reduceAdd, Nat.reduceMul, Nat.reduceSub, Nat.reduceLT, Nat.reduceLeDiff, Nat.reduceEqDiff, Int.reduceToNat, Int.reduceEq, Int.reduceLT, Int.reduceLE, reduceCtorEq, G_eq, k2, k2']
        refine ⟨by omega, fun hq => ⟨i + 1, ⟨by omega, fun j hj hk => ?_⟩, by omega, IntWalk.i64_in _ (by omega)⟩⟩
        by_cases e : j = i
        · rw [e] at hk ⊢
          rw [hk] at hq
          simpa using hq
        · exact hfk j (by omega) hk
      · have k2' : ¬ (i : Int) < (runF p a).2.1.length := by omega
        unfold j10_2
        simp only [go_sem, ↓reduceIte, Nat.reduceAdd, Nat.reduceMul, Nat.reduceSub, Nat.reduceLT, Nat.reduceLeDiff, Nat.reduceEqDiff, Int.reduceToNat, Int.reduceEq, Int.reduceLT, Int.reduceLE, reduceCtorEq, G_eq, k2']
        unfold j10_3
        simp only [go_sem, ↓reduceIte, Nat.reduceAdd, Nat.reduceMul, Nat.reduceSub, Nat.reduceLT, Nat.reduceLeDiff, Nat.reduceEqDiff, Int.reduceToNat, Int.reduceEq, Int.reduceLT, Int.reduceLE, reduceCtorEq, G_eq, tszEn]
        have eqq : ∀ j, j < 9 → syncF (runF p a).2.1 j = syncF (runF p b).2.1 j := fun j hj => (eqBy_iff (e := ef_EqEvent) (fun x y => by
          obtain ⟨a, b, c⟩ := x
          obtain ⟨a', b', c'⟩ := y
          simp [ef_EqEvent])).1 (hinv j hj)
        have hE : (runF p a).1 = (runF p b).1 := by
          refine drf e1 e2 d1 d2 ?_ (fun k => ?_) (fun k => ?_) (fun e he hk => ?_)
          · have := List.length_eq_zero_iff.1 e4
            rwa [allF, if_pos e3] at this
          · by_cases hk : 0 ≤ k ∧ k < 5
            · have := eqq k.toNat (by omega)
              rw [syncF, syncF, if_pos (by omega), if_pos (by omega), show ((k.toNat : Nat) : Int) = k by omega] at this
              exact this
            · have no : ∀ l : List Ev, (∀ e ∈ l, isEv e = true) → l.filter (fun e => decide (e.kind = 3) && decide (e.obj = k)) = [] := fun l hl => by
                rw [List.filter_eq_nil_iff]
                intro e he hh
                simp only [Bool.and_eq_true, decide_eq_true_eq] at hh
                have := (isEv_iff e).1 (hl e he)
                rw [many, hh.1] at this
                simp at this
                omega
              rw [no _ v1, no _ v2]
          · by_cases hk : 0 ≤ k ∧ k < 4
            · have := eqq (5 + k.toNat) (by omega)
              rw [syncF, syncF, if_neg (by omega), if_pos (by omega), if_neg (by omega), if_pos (by omega), show (((5 + k.toNat : Nat) : Int) - 5) = k by omega] at this
              exact this
            · have no : ∀ l : List Ev, (∀ e ∈ l, isEv e = true) → l.filter (fun e => (decide (e.kind = 7) || decide (e.kind = 8)) && decide (e.obj = k)) = [] := fun l hl => by
                rw [List.filter_eq_nil_iff]
                intro e he hh
                simp only [Bool.and_eq_true, Bool.or_eq_true, decide_eq_true_eq] at hh
                have := (isEv_iff e).1 (hl e he)
                rcases hh.1 with h7 | h7 <;> (rw [many, h7] at this; simp at this; omega)
              rw [no _ v1, no _ v2]
          · obtain ⟨j, hj, rfl⟩ := mem_at he
            exact hasE_iff.1 (hfk j (by omega) hk)
        rw [hE]
        simp
  · simp only [go_sem, ↓reduceIte, Nat.reduceAdd, Nat.reduceMul, Nat.reduceSub, Nat.reduceLT, Nat.reduceLeDiff, Nat.reduceEqDiff, Int.reduceToNat, Int.reduceEq, Int.reduceLT, Int.reduceLE, reduceCtorEq, G_eq, tszEn, tsz9]
    intro hh
    simp only [Bool.or_eq_false_iff, Bool.not_eq_false', decide_eq_true_eq, decide_eq_false_iff_not] at hh
    exact absurd ⟨hh.1.1.1.1.1, hh.1.1.1.1.2, hh.1.1.1.2, hh.1.1.2, hh.1.2, by omega⟩ h1
abbrev A : DA (List (List PO) × List Int × List Int × Unit) := .three dProg dIs dIs
abbrev Ts : List TT := [.sl 1 (.sl 3 (.st [.int .i64, .int .i64, .int .i64])), .sl 1 (.int .i64), .sl 1 (.int .i64)]
theorem lawP (y : DenL Ts) : A.decP [] (embL Ts y) := ⟨⟨rfl, fun _ _ => ⟨rfl, fun _ _ => ⟨rfl, rfl, rfl, trivial⟩⟩⟩, ⟨rfl, fun _ _ => rfl⟩, ⟨rfl, fun _ _ => rfl⟩, trivial⟩
theorem law (y : DenL Ts) (_ : okDL Ts y) : FnOK Try.prog 10 (A.emb (A.decV [] (embL Ts y))) [] (.bool true) [] := f_law _ _ _
theorem own : ownKnob Try.prog.godebug = none := by kernel_rfl
theorem laid : laidOutB Try.prog = true := by kernel_rfl
theorem lifted (os : Os) (started : os.Started) (H : Type) (enc : TypeId × Value → H) :
    ReturnsInHanded {} Try.checked os 10 .any (Rows.topFreeSpec.pre6 enc Try.prog Try.f10 Rows.topFreeRow.domain false) (Rows.topFreeSpec.post enc Try.prog Try.f10 false true false false) := by
  refine returnsInHanded_of_change (C := Try.checked) own started (by kernel_rfl) Try.func10
    (ChangeSpec.witness6 (enc := enc) (C := Try.checked) false ⟨#[], #[.slice none 0 0, .slice none 0 0, .slice none 0 0], []⟩ 8 (by kernel_rfl) (by kernel_rfl) (by kernel_rfl) (by kernel_rfl)) ?_
  intro W base args ds gs before hval0 hW hcnd _
  have hW' := hW
  obtain ⟨p, q, hA, hV, rfl, hfz, hnd⟩ := hW
  obtain ⟨rfl, rfl⟩ := trodVars_none hV
  obtain ⟨y, hs, hok⟩ := open_args Ts (by kernel_rfl) hA (fun j t v h1 h2 => hval0 j t v (by simpa using h1) (by simpa using h2))
  obtain ⟨d1, d2, d3, rfl⟩ := len_three (trod_len hA)
  refine (law_run (law y hok) W (vs := args.toList) (satA_conv (A := A) (lawP y) hs)).mono fun e W' ⟨he, hb⟩ => ?_
  subst he
  exact ⟨_, rfl, row_close laid (by kernel_rfl) (by kernel_rfl) Try.underlying4 rfl hW' hb rfl⟩
theorem holds : Rows.TopFreeSaid :=
  OpenClaim.holds_of_wide 10 Try.f10 rfl rfl rfl rfl rfl rfl rfl ⟨rfl, rfl, rfl, rfl, rfl⟩ rfl rfl rfl rfl rfl (by kernel_rfl) Try.func10 (by kernel_rfl)
    (of_decide_eq_true (by kernel_rfl)) (by unfold Func.isWrapper; first | (rw [if_pos (by decide +kernel)]; kernel_rfl) | (rw [if_neg (by decide +kernel)]; exact ⟨rfl, rfl⟩))
    (fun os started H enc _ => lifted os started H enc)
#print axioms holds
end Go.Proofs.Ytohbjnpafpcbkaa.TopFree
