/- A program that runs: the reference, to its end. Conditions: none. -/
import Derived.Test.YtafcmgfmmlnngaaProgG
set_option linter.unusedSimpArgs false
set_option linter.unusedVariables false
set_option maxRecDepth 100000
open Go Go.Sx Go.Proofs
namespace Go.Proofs.Ytafcmgfmmlnngaa.Rn
open Go.Proofs.Ytafcmgfmmlnngaa.D Go.Proofs.Ytafcmgfmmlnngaa.Pg Go.Proofs.Ytafcmgfmmlnngaa.Tr Go.Proofs.Ytafcmgfmmlnngaa.Cp
def leftB (g : Pg) : Nat → Bool
  | 0 => false
  | n + 1 => leftB g n || (begB (gl g) n && !overB g n)
def canA (g : Pg) : Nat → Bool
  | 0 => false
  | n + 1 => canA g n || canG g n
def endG (g : Pg) : En := { g.en with done := !leftB g g.p.length, stuck := leftB g g.p.length && !canA g g.p.length }
def j46_1 : JC :=
  (.seq (.ops <|
  qo 13 (.cmp .lss (.t 12) (.t 11)) <|
  .nil)
  (.seq (.cond (.t 13)
  .skip
  (.exit 0))
  (.seq (.block 1 (.seq (.ops <|
  qo 14 (.mv (.t 12)) <|
  qo 6 (.mv (.t 14)) <|
  .nil)
  (.prune [4, 1, 6, 5, 12, 11, 3, 2] (.seq (.ops <|
  qo 15 (.mv (.t 4)) <|
  qo 16 (.mv (.t 15)) <|
  .sc true 27 16 (qo 17 (.fa 2 7 (.t 1)) <|
  eo 18 (.load 1 false (.t 17)) <|
  qo 19 (.mv (.t 6)) <|
  eo 20 (.call 68 [(.t 18), (.t 19)]) <|
  qo 21 (.mv (.t 20)) <|
  .sc false 26 21 (eo 22 (.load 29 true (.t 1)) <|
  qo 23 (.mv (.t 6)) <|
  eo 24 (.call 69 [(.t 22), (.t 23)]) <|
  qo 25 (.nt (.t 24)) <|
  .nil) (.t 25) <|
  .nil) (.t 26) <|
  qo 4 (.mv (.t 27)) <|
  .nil)
  (.prune [5, 1, 6, 12, 11, 4, 3, 2] (.ops <|
  qo 28 (.mv (.t 5)) <|
  qo 29 (.mv (.t 28)) <|
  .sc true 33 29 (eo 30 (.load 29 true (.t 1)) <|
  qo 31 (.mv (.t 6)) <|
  eo 32 (.call 44 [(.t 30), (.t 31)]) <|
  .nil) (.t 32) <|
  qo 5 (.mv (.t 33)) <|
  .nil))))))
  (.prune [12, 11, 4, 1, 5, 3, 2] (.ops <|
  qo 34 (.ar .add (.t 12) (I 1)) <|
  qo 12 (.mv (.t 34)) <|
  .nil)))))
def j46_2 : JC :=
  (.prune [4, 5, 3, 2] (.seq (.ops <|
  qo 35 (.mv (.t 4)) <|
  qo 36 (.nt (.t 35)) <|
  qo 37 (.mv (.t 4)) <|
  qo 38 (.mv (.t 37)) <|
  .prune [38, 5, 3, 36, 2] <|
  .sc false 41 38 (qo 39 (.mv (.t 5)) <|
  qo 40 (.nt (.t 39)) <|
  .nil) (.t 40) <|
  qo 42 (.fa 3 18 (.t 3)) <|
  en (.store 1 (.t 42) (.t 36)) <|
  qo 43 (.fa 4 19 (.t 3)) <|
  en (.store 1 (.t 43) (.t 41)) <|
  .nil)
  (.prune [3, 2] (.seq (.ops <|
  eo 44 (.load 20 true (.t 3)) <|
  en (.store 20 (.t 2) (.t 44)) <|
  .nil)
  .ret))))
def j46 : JC :=
  (.seq (.ops <|
  eo 1 (.box 89 (.t 0)) <|
  eo 2 (.alloc 28 (.agg [(.arr 8 1 fun _ => (.int .i64 0)), (.arr 4 1 fun _ => (.int .i64 0)), (.arr 6 1 fun _ => (.int .i64 0)), (.bool false), (.bool false)])) <|
  .nil)
  (.seq (.ops <|
  qo 7 (.fa 3 8 (.t 1)) <|
  eo 8 (.load 20 true (.t 7)) <|
  eo 3 (.alloc 28 (.agg [(.arr 8 1 fun _ => (.int .i64 0)), (.arr 4 1 fun _ => (.int .i64 0)), (.arr 6 1 fun _ => (.int .i64 0)), (.bool false), (.bool false)])) <|
  en (.store 20 (.t 3) (.t 8)) <|
  .nil)
  (.seq (.ops <|
  qo 4 (.mv (B false)) <|
  qo 5 (.mv (B false)) <|
  .nil)
  (.seq (.seq (.ops <|
  .prune [1, 4, 5, 3, 2] <|
  qo 9 (.fa 0 0 (.t 1)) <|
  eo 10 (.load 1 false (.t 9)) <|
  qo 11 (.len (.t 10)) <|
  qo 12 (.mv (I 0)) <|
  .nil)
  (.prune [12, 11, 4, 1, 5, 3, 2] (.block 0 (.loop [11, 1, 3, 2] [12, 4, 5] j46_1))))
  j46_2))))
theorem c46 : fnIs Try.prog qall 46 = some (j46.flat, [.cell 2 28], 45) := by kernel_rfl
theorem w46 : j46.wf 45 = true := by kernel_rfl
def Geg (f : FuncId) (a : List SV) (m : List Res) : Sx.Call := (FH.rd 68 (.two dEs .int) (.one .bool) (fun _ => True) (fun y => begB y.1 y.2.1) <|
  FH.rd 69 (.two dPg .int) (.one .bool) (fun y => 0 ≤ y.2.1 ∧ y.2.1 < 6 ∧ y.2.1 < y.1.p.length) (fun y => overB y.1 y.2.1) <|
  FH.rd 44 (.two dPg .int) (.one .bool) (fun y => Fit y.1.p y.1.at' ∧ progC badP y.1.p = 0) (fun y => canG y.1 y.2.1) FH.none) f a m
theorem Geg_eq (f : FuncId) (a : List SV) (m : List Res) : Geg f a m = (FH.rd 68 (.two dEs .int) (.one .bool) (fun _ => True) (fun y => begB y.1 y.2.1) <|
  FH.rd 69 (.two dPg .int) (.one .bool) (fun y => 0 ≤ y.2.1 ∧ y.2.1 < 6 ∧ y.2.1 < y.1.p.length) (fun y => overB y.1 y.2.1) <|
  FH.rd 44 (.two dPg .int) (.one .bool) (fun y => Fit y.1.p y.1.at' ∧ progC badP y.1.p = 0) (fun y => canG y.1 y.2.1) FH.none) f a m := nr rfl
theorem Geg_ok : FHOK Try.prog Geg := FH.rd_ok (by kernel_rfl) (fun y _ => f_begun y.1 y.2.1) <| FH.rd_ok (by kernel_rfl) (fun y h => f_over y.1 y.2.1 h) <| FH.rd_ok (by kernel_rfl) (fun y h => f_CanG y.1 y.2.1 h.1 h.2) FH.none_ok
theorem f_EndedG (g : Pg) (h : Fit g.p g.at') (hp : progC badP g.p = 0) : FnOK Try.prog 46 [dPg.emb g] [] (dEn.emb (endG g)) [] := by
  refine fn_walkF c46 w46 Geg_ok rfl ?_
  unfold j46
  simp only [go_sem, ↓reduceIte, Nat.reduceAdd, Nat.reduceMul, Nat.reduceSub, Nat.reduceLT, Nat.reduceLeDiff, Nat.reduceEqDiff, Int.reduceToNat, Int.reduceEq, Int.reduceLT, Int.reduceLE, reduceCtorEq]
  have hn := h.n
  refine loopF Nat (fun i => [.int .i64 i, .bool (leftB g i), .bool (canA g i)]) (fun i => [.blk 89 (dPg.emb g), .blk 28 (dEn.emb zeroEn), .blk 28 (dEn.emb g.en)]) (fun i => i ≤ g.p.length) (fun i => g.p.length - i) 0 (by omega) ?_ rfl ?_
  · simp only [go_sem, ↓reduceIte, Nat.reduceAdd, Nat.reduceMul, Nat.reduceSub, Nat.reduceLT, Nat.reduceLeDiff, Nat.reduceEqDiff, Int.reduceToNat, Int.reduceEq, Int.reduceLT, Int.reduceLE, reduceCtorEq]
    exact ⟨rfl, rfl⟩
  intro i hi
  by_cases h1 : i < g.p.length
  · have h1' : (i : Int) < g.p.length := by omega
    have h6 : (i : Int) < 6 := by omega
    have hw : IntKind.i64.wrap ((i : Int) + 1) = ((i + 1 : Nat) : Int) := IntWalk.i64_in _ (by omega)
    have hd : leftB g (i + 1) = (leftB g i || (begB (gl g) i && !overB g i)) := rfl
    have hs : canA g (i + 1) = (canA g i || canG g i) := rfl
    rw [gl] at hd
    unfold j46_1
    simp only [go_sem, ↓reduceIte, Nat.reduceAdd, Nat.reduceMul, Nat.reduceSub, Nat.reduceLT, Nat.reduceLeDiff, Nat.reduceEqDiff, Int.reduceToNat, Int.reduceEq, Int.reduceLT, Int.reduceLE, reduceCtorEq, Geg_eq, h1, h1', h6, hw]
    exact ⟨fun _ _ => by omega, fun _ => ⟨h, hp⟩, i + 1, by omega, by omega, rfl, hd.symm, hs.symm⟩
  · have h1' : ¬ (i : Int) < g.p.length := by omega
    have e : i = g.p.length := by omega
    subst e
    unfold j46_1
    simp only [go_sem, ↓reduceIte, Nat.reduceAdd, Nat.reduceMul, Nat.reduceSub, Nat.reduceLT, Nat.reduceLeDiff, Nat.reduceEqDiff, Int.reduceToNat, Int.reduceEq, Int.reduceLT, Int.reduceLE, reduceCtorEq, h1']
    unfold j46_2
    simp only [go_sem, ↓reduceIte, Nat.reduceAdd, Nat.reduceMul, Nat.reduceSub, Nat.reduceLT, Nat.reduceLeDiff, Nat.reduceEqDiff, Int.reduceToNat, Int.reduceEq, Int.reduceLT, Int.reduceLE, reduceCtorEq, tszEn, endG, zeroEn]
def firstG (p : List (List PO)) : Pg := ⟨p, fun _ => 0, none, zeroEn, none⟩
def pickG (g : Pg) (t : Int) : Pg := if canG g t = true then stepG g t.toNat (opG g t) else g
def runG (p : List (List PO)) (picks : List Int) : Nat → Pg
  | 0 => firstG p
  | i + 1 => pickG (runG p picks i) (picks.getD i 0)
theorem canG_some {g : Pg} {t : Int} (hf : Fit g.p g.at') (h : canG g t = true) : ∃ n : Nat, t = n ∧ n < g.p.length ∧ begB (gl g) n = true ∧ g.at' n < ((g.p.getD n []).length : Int) := by
  unfold canG at h
  split at h
  · cases h
  rename_i h1
  split at h
  · cases h
  rename_i h2
  split at h
  · cases h
  rename_i h3
  have ha := hf.at0 t.toNat (by omega)
  simp only [overB, decide_eq_true_eq] at h3
  refine ⟨t.toNat, by omega, by omega, ?_, by omega⟩
  rw [show ((t.toNat : Nat) : Int) = t by omega]
  simpa using h2
theorem runG_ok {p : List (List PO)} (hp : progC badP p = 0) {picks : List Int} : ∀ i, (runG p picks i).p = p ∧ Fit p (runG p picks i).at' ∧ (gl (runG p picks i)).length ≤ i ∧ (gt (runG p picks i)).length ≤ i
  | 0 => ⟨rfl, fit_first hp, Nat.le_refl _, Nat.le_refl _⟩
  | i + 1 => by
    obtain ⟨h1, h2, h3, h4⟩ := runG_ok hp (picks := picks) i
    rw [runG, pickG]
    split
    · rename_i hc
      generalize runG p picks i = g at *
      subst h1
      obtain ⟨n, hn, k1, k2, k3⟩ := canG_some h2 hc
      rw [hn]
      refine ⟨rfl, ?_, ?_, ?_⟩
      · refine ⟨h2.n, fun k hk => ?_⟩
        have := h2.at0 k hk
        show 0 ≤ Tr.upd _ _ _ k ∧ Tr.upd _ _ _ k ≤ _
        unfold Tr.upd
        split
        · rename_i e; subst e; rw [Int.toNat_natCast]; omega
        · exact this
      · show (gl (stepG _ _ _)).length ≤ i + 1
        unfold gl at h3
        unfold stepG gl
        simp only
        split
        · exact Nat.le_succ_of_le h3
        · simp only [Option.getD_some, List.length_append, List.length_cons, List.length_nil]; omega
      · show (Option.getD (some _) []).length ≤ i + 1
        simp only [Option.getD_some, List.length_append, List.length_cons, List.length_nil]; omega
    · exact ⟨h1, h2, by omega, by omega⟩
def progR (p : List (List PO)) (picks : List Int) : En × Option (List Ev) × Int :=
  if progC badP p ≠ 0 then (zeroEn, none, progC badP p) else if 100 < picks.length then (zeroEn, none, 2) else (endG (runG p picks picks.length), (runG p picks picks.length).l, 0)
def j16_1 : JC :=
  (.seq (.ops <|
  qo 26 (.cmp .lss (.t 25) (.t 24)) <|
  .nil)
  (.seq (.cond (.t 26)
  .skip
  (.exit 0))
  (.seq (.block 1 (.seq (.ops <|
  qo 27 (.is 1 (.t 23) (.t 25)) <|
  eo 28 (.load 1 false (.t 27)) <|
  qo 10 (.mv (.t 28)) <|
  .nil)
  (.seq (.ops <|
  .prune [8, 10, 25, 24, 23, 4] <|
  eo 29 (.load 29 true (.t 8)) <|
  qo 30 (.mv (.t 10)) <|
  eo 31 (.call 44 [(.t 29), (.t 30)]) <|
  .nil)
  (.prune [31, 8, 10, 25, 24, 23, 4] (.cond (.t 31)
  (.ops <|
  eo 32 (.load 29 true (.t 8)) <|
  qo 33 (.mv (.t 10)) <|
  eo 34 (.call 45 [(.t 32), (.t 33)]) <|
  en (.store 29 (.t 8) (.t 34)) <|
  .nil)
  .skip)))))
  (.prune [25, 24, 23, 8, 4] (.ops <|
  qo 35 (.ar .add (.t 25) (I 1)) <|
  qo 25 (.mv (.t 35)) <|
  .nil)))))
def j16_2 : JC :=
  (.prune [8, 4] (.seq (.dops <|
  eo 36 (.load 29 true (.t 8)) <|
  eo 37 (.qcall 46 [(.t 36)]) <|
  qo 38 (.fa 2 7 (.t 8)) <|
  eo 39 (.load 1 false (.t 38)) <|
  en (.store 20 (.t 4) (.t 37)) <|
  .prune [39, 38, 4] <|
  en (.again 1 false (.t 38) 39) <|
  qo 5 (.mv (.t 39)) <|
  qo 6 (.mv (I 0)) <|
  .nil)
  .ret))
def j16 : JC :=
  (.seq (.ops <|
  eo 4 (.alloc 28 (.agg [(.arr 8 1 fun _ => (.int .i64 0)), (.arr 4 1 fun _ => (.int .i64 0)), (.arr 6 1 fun _ => (.int .i64 0)), (.bool false), (.bool false)])) <|
  qo 5 (.mv (.c .nils)) <|
  qo 6 (.mv (I 0)) <|
  .nil)
  (.seq (.seq (.ops <|
  qo 11 (.mv (.t 0)) <|
  eo 12 (.call 43 [(.t 11)]) <|
  qo 7 (.mv (.t 12)) <|
  .nil)
  (.seq (.ops <|
  qo 13 (.mv (.t 7)) <|
  qo 14 (.cmp .neq (.t 13) (I 0)) <|
  .nil)
  (.cond (.t 14)
  (.seq (.ops <|
  .prune [7, 4] <|
  qo 15 (.bld (.agg [(.arr 8 1 fun _ => (.int .i64 0)), (.arr 4 1 fun _ => (.int .i64 0)), (.arr 6 1 fun _ => (.int .i64 0)), (.bool false), (.bool false)]) []) <|
  qo 16 (.mv (.t 7)) <|
  en (.store 20 (.t 4) (.t 15)) <|
  qo 5 (.mv (.c .nils)) <|
  qo 6 (.mv (.t 16)) <|
  .nil)
  .ret)
  .skip)))
  (.prune [1, 4, 0] (.seq (.seq (.ops <|
  qo 17 (.mv (.t 1)) <|
  qo 18 (.len (.t 17)) <|
  qo 19 (.cmp .gtr (.t 18) (I 100)) <|
  .nil)
  (.cond (.t 19)
  (.seq (.ops <|
  qo 20 (.bld (.agg [(.arr 8 1 fun _ => (.int .i64 0)), (.arr 4 1 fun _ => (.int .i64 0)), (.arr 6 1 fun _ => (.int .i64 0)), (.bool false), (.bool false)]) []) <|
  .prune [4, 20] <|
  en (.store 20 (.t 4) (.t 20)) <|
  qo 5 (.mv (.c .nils)) <|
  qo 6 (.mv (I 2)) <|
  .nil)
  .ret)
  .skip))
  (.prune [0, 1, 4] (.seq (.ops <|
  qo 21 (.mv (.t 0)) <|
  qo 22 (.bld (.agg [.nils, (.arr 6 1 fun _ => (.int .i64 0)), .nils, (.agg [(.arr 8 1 fun _ => (.int .i64 0)), (.arr 4 1 fun _ => (.int .i64 0)), (.arr 6 1 fun _ => (.int .i64 0)), (.bool false), (.bool false)]), .nils]) [([.fld 0], 0, 1, (.t 21))]) <|
  eo 8 (.alloc 89 (.agg [.nils, (.arr 6 1 fun _ => (.int .i64 0)), .nils, (.agg [(.arr 8 1 fun _ => (.int .i64 0)), (.arr 4 1 fun _ => (.int .i64 0)), (.arr 6 1 fun _ => (.int .i64 0)), (.bool false), (.bool false)]), .nils])) <|
  en (.store 29 (.t 8) (.t 22)) <|
  .nil)
  (.seq (.seq (.ops <|
  .prune [1, 8, 4] <|
  qo 23 (.mv (.t 1)) <|
  qo 24 (.len (.t 23)) <|
  qo 25 (.mv (I 0)) <|
  .nil)
  (.prune [25, 24, 23, 8, 4] (.block 0 (.loop [24, 23, 8, 4] [25] j16_1))))
  j16_2)))))))
theorem c16 : fnIs Try.prog qall 16 = some (j16.flat, [.cell 4 28, .tmp 5, .tmp 6], 40) := by kernel_rfl
theorem w16 : j16.wf 40 = true := by kernel_rfl
def Grg (f : FuncId) (a : List SV) (m : List Res) : Sx.Call := (FH.rd 43 (.one dProg) (.one .int) (fun _ => True) (fun y => progC badP y.1) <|
  FH.rd 44 (.two dPg .int) (.one .bool) (fun y => Fit y.1.p y.1.at' ∧ progC badP y.1.p = 0) (fun y => canG y.1 y.2.1) <|
  FH.pz 45 (.two dPg .int) (.one dPg) (fun y => Fit y.1.p y.1.at' ∧ progC badP y.1.p = 0 ∧ canG y.1 y.2.1 = true ∧ (gl y.1).length ≤ 1000 ∧ (gt y.1).length ≤ 1000) (fun y => stepG y.1 y.2.1.toNat (opG y.1 y.2.1)) <|
  FH.rd 46 (.one dPg) (.one dEn) (fun y => Fit y.1.p y.1.at' ∧ progC badP y.1.p = 0) (fun y => endG y.1) FH.none) f a m
theorem Grg_eq (f : FuncId) (a : List SV) (m : List Res) : Grg f a m = (FH.rd 43 (.one dProg) (.one .int) (fun _ => True) (fun y => progC badP y.1) <|
  FH.rd 44 (.two dPg .int) (.one .bool) (fun y => Fit y.1.p y.1.at' ∧ progC badP y.1.p = 0) (fun y => canG y.1 y.2.1) <|
  FH.pz 45 (.two dPg .int) (.one dPg) (fun y => Fit y.1.p y.1.at' ∧ progC badP y.1.p = 0 ∧ canG y.1 y.2.1 = true ∧ (gl y.1).length ≤ 1000 ∧ (gt y.1).length ≤ 1000) (fun y => stepG y.1 y.2.1.toNat (opG y.1 y.2.1)) <|
  FH.rd 46 (.one dPg) (.one dEn) (fun y => Fit y.1.p y.1.at' ∧ progC badP y.1.p = 0) (fun y => endG y.1) FH.none) f a m := nr rfl
theorem Grg_ok : FHOK Try.prog Grg := FH.rd_ok (by kernel_rfl) (fun y _ => by rw [progC_eq]; exact Pg.f_RCheck y.1) <| FH.rd_ok (by kernel_rfl) (fun y h => f_CanG y.1 y.2.1 h.1 h.2) <|
  FH.pz_ok (by kernel_rfl) (fun y h => by
    obtain ⟨g, t, u⟩ := y
    obtain ⟨h1, h2, h3, h4, h5⟩ := h
    simp only at h1 h2 h3 h4 h5
    obtain ⟨n, rfl, k1, k2, k3⟩ := canG_some h1 h3
    exact f_StepG g n h1 h2 k1 k3 h4 h5) <| FH.rd_ok (by kernel_rfl) (fun y h => f_EndedG y.1 h.1 h.2) FH.none_ok
theorem f_ProgRun (p : List (List PO)) (picks : List Int) : FnOK Try.prog 16 [dProg.emb p, dIs.emb picks] [] (.tup [dEn.emb (progR p picks).1, (DT.slo 3 dEv).emb (progR p picks).2.1, .int .i64 (progR p picks).2.2]) [] := by
  refine fn_walkF c16 w16 Grg_ok rfl ?_
  unfold j16
  by_cases hp : progC badP p = 0
  · by_cases h1 : 100 < picks.length
    · have h1' : (100 : Int) < picks.length := by omega
      have e : progR p picks = (zeroEn, none, 2) := by rw [progR, if_neg (by simp [hp]), if_pos h1]
      rw [e]
      simp only [go_sem, ↓reduceIte, Nat.reduceAdd, Nat.reduceMul, Nat.reduceSub, Nat.reduceLT, Nat.reduceLeDiff, Nat.reduceEqDiff, Int.reduceToNat, Int.reduceEq, Int.reduceLT, Int.reduceLE, reduceCtorEq, Grg_eq, hp, h1', tszEn, zeroEn]
    · have h1' : ¬ (100 : Int) < picks.length := by omega
      have e : progR p picks = (endG (runG p picks picks.length), (runG p picks picks.length).l, 0) := by rw [progR, if_neg (by simp [hp]), if_neg h1]
      rw [e]
      simp only [go_sem, ↓reduceIte, Nat.reduceAdd, Nat.reduceMul, Nat.reduceSub, Nat.reduceLT, Nat.reduceLeDiff, Nat.reduceEqDiff, Int.reduceToNat, Int.reduceEq, Int.reduceLT, Int.reduceLE, reduceCtorEq, Grg_eq, hp, h1', tszPg]
      refine loopF Nat (fun i => [.int .i64 i]) (fun i => [.blk 28 (dEn.emb zeroEn), .blk 89 (dPg.emb (runG p picks i))]) (fun i => i ≤ picks.length) (fun i => picks.length - i) 0 (by omega) ?_ rfl ?_
      · simp only [go_sem, ↓reduceIte, Nat.reduceAdd, Nat.reduceMul, Nat.reduceSub, Nat.reduceLT, Nat.reduceLeDiff, Nat.reduceEqDiff, Int.reduceToNat, Int.reduceEq, Int.reduceLT, Int.reduceLE, reduceCtorEq]
      intro i hi
      obtain ⟨g1, g2, g3, g4⟩ := runG_ok hp (picks := picks) i
      by_cases h2 : i < picks.length
      · have h2' : (i : Int) < picks.length := by omega
        have hw : IntKind.i64.wrap ((i : Int) + 1) = ((i + 1 : Nat) : Int) := IntWalk.i64_in _ (by omega)
        have es : runG p picks (i + 1) = pickG (runG p picks i) (picks.getD i 0) := rfl
        obtain ⟨t, ht⟩ : ∃ t, picks.getD i 0 = t := ⟨_, rfl⟩
        rw [ht, pickG] at es
        generalize runG p picks i = g at *
        subst g1
        cases hc : canG g t with
        | false =>
          rw [hc, if_neg (by simp)] at es
          unfold j16_1
          simp only [go_sem, ↓reduceIte, Nat.reduceAdd, Nat.reduceMul, Nat.reduceSub, Nat.reduceLT, Nat.reduceLeDiff, Nat.reduceEqDiff, Int.reduceToNat, Int.reduceEq, Int.reduceLT, Int.reduceLE, reduceCtorEq, Grg_eq, h2, h2', ht, hc, hw]
          exact ⟨by omega, ⟨g2, hp⟩, i + 1, by omega, by omega, rfl, by rw [es]⟩
        | true =>
          rw [hc, if_pos rfl] at es
          unfold j16_1
          simp only [go_sem, ↓reduceIte, Nat.reduceAdd, Nat.reduceMul, Nat.reduceSub, Nat.reduceLT, Nat.reduceLeDiff, Nat.reduceEqDiff, Int.reduceToNat, Int.reduceEq, Int.reduceLT, Int.reduceLE, reduceCtorEq, Grg_eq, h2, h2', ht, hc, hw]
          exact ⟨by omega, ⟨g2, hp⟩, ⟨g2, hp, by omega, by omega⟩, i + 1, by omega, by omega, rfl, by rw [es]⟩
      · have h2' : ¬ (i : Int) < picks.length := by omega
        have e : i = picks.length := by omega
        subst e
        generalize runG p picks picks.length = g at *
        subst g1
        unfold j16_1
        simp only [go_sem, ↓reduceIte, Nat.reduceAdd, Nat.reduceMul, Nat.reduceSub, Nat.reduceLT, Nat.reduceLeDiff, Nat.reduceEqDiff, Int.reduceToNat, Int.reduceEq, Int.reduceLT, Int.reduceLE, reduceCtorEq, h2']
        unfold j16_2
        simp only [go_sem, ↓reduceIte, Nat.reduceAdd, Nat.reduceMul, Nat.reduceSub, Nat.reduceLT, Nat.reduceLeDiff, Nat.reduceEqDiff, Int.reduceToNat, Int.reduceEq, Int.reduceLT, Int.reduceLE, reduceCtorEq, Grg_eq, tszEn]
        exact ⟨g2, hp⟩
  · have e : progR p picks = (zeroEn, none, progC badP p) := by rw [progR, if_pos (by simp [hp])]
    rw [e]
    simp only [go_sem, ↓reduceIte, Nat.reduceAdd, Nat.reduceMul, Nat.reduceSub, Nat.reduceLT, Nat.reduceLeDiff, Nat.reduceEqDiff, Int.reduceToNat, Int.reduceEq, Int.reduceLT, Int.reduceLE, reduceCtorEq, Grg_eq, hp, tszEn, zeroEn]
end Go.Proofs.Ytafcmgfmmlnngaa.Rn
