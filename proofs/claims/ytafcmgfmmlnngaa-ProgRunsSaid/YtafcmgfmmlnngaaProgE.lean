/- A program that runs: the package prog. Conditions: none. -/
import Derived.Test.YtafcmgfmmlnngaaProgS
set_option linter.unusedSimpArgs false
set_option linter.unusedVariables false
set_option maxRecDepth 100000
open Go Go.Sx Go.Proofs
namespace Go.Proofs.Ytafcmgfmmlnngaa.Rn
open Go.Proofs.Ytafcmgfmmlnngaa.D Go.Proofs.Ytafcmgfmmlnngaa.Pg Go.Proofs.Ytafcmgfmmlnngaa.Tr
def doneB (s : Sta) (p : List (List PO)) : Nat → Bool
  | 0 => true
  | n + 1 => doneB s p n && (nextF s p n).isNone
def stuckB (s : Sta) (p : List (List PO)) : Nat → Bool
  | 0 => true
  | n + 1 => stuckB s p n && !canF s p n
def endF' (s : Sta) (p : List (List PO)) : En := { s.en with done := doneB s p p.length, stuck := stuckB s p p.length && !doneB s p p.length }
theorem tszEn : tsz Try.prog 28 = some (20, true) := by kernel_rfl
def j42_1 : JC :=
  (.seq (.ops <|
  qo 16 (.cmp .lss (.t 15) (.t 14)) <|
  .nil)
  (.seq (.cond (.t 16)
  .skip
  (.exit 0))
  (.seq (.block 1 (.seq (.ops <|
  qo 17 (.mv (.t 15)) <|
  qo 6 (.mv (.t 17)) <|
  .nil)
  (.seq (.seq (.ops <|
  qo 18 (.mv (.t 0)) <|
  qo 19 (.mv (.t 1)) <|
  qo 20 (.mv (.t 6)) <|
  eo 21 (.call 65 [(.t 18), (.t 19), (.t 20)]) <|
  qo 22 (.pnil true (.t 21)) <|
  .nil)
  (.prune [22, 5, 0, 1, 6, 15, 14, 4] (.cond (.t 22)
  (.ops <|
  qo 23 (.fa 3 18 (.t 5)) <|
  en (.store 1 (.t 23) (B false)) <|
  .nil)
  .skip)))
  (.prune [0, 1, 6, 5, 15, 14, 4] (.seq (.ops <|
  qo 24 (.mv (.t 0)) <|
  qo 25 (.mv (.t 1)) <|
  qo 26 (.mv (.t 6)) <|
  eo 27 (.call 40 [(.t 24), (.t 25), (.t 26)]) <|
  .nil)
  (.prune [27, 5, 15, 14, 0, 1, 4] (.cond (.t 27)
  (.ops <|
  qo 28 (.fa 4 19 (.t 5)) <|
  en (.store 1 (.t 28) (B false)) <|
  .nil)
  .skip)))))))
  (.prune [15, 14, 0, 1, 5, 4] (.ops <|
  qo 29 (.ar .add (.t 15) (I 1)) <|
  qo 15 (.mv (.t 29)) <|
  .nil)))))
def j42_2 : JC :=
  (.prune [5, 4] (.seq (.ops <|
  qo 30 (.fa 4 19 (.t 5)) <|
  eo 31 (.load 1 false (.t 30)) <|
  qo 32 (.mv (.t 31)) <|
  .sc false 36 32 (qo 33 (.fa 3 18 (.t 5)) <|
  eo 34 (.load 1 false (.t 33)) <|
  qo 35 (.nt (.t 34)) <|
  .nil) (.t 35) <|
  qo 37 (.fa 4 19 (.t 5)) <|
  en (.store 1 (.t 37) (.t 36)) <|
  .nil)
  (.prune [5, 4] (.seq (.ops <|
  eo 38 (.load 20 true (.t 5)) <|
  en (.store 20 (.t 4) (.t 38)) <|
  .nil)
  .ret))))
def j42 : JC :=
  (.seq (.ops <|
  eo 4 (.alloc 28 (.agg [(.arr 8 1 fun _ => (.int .i64 0)), (.arr 4 1 fun _ => (.int .i64 0)), (.arr 6 1 fun _ => (.int .i64 0)), (.bool false), (.bool false)])) <|
  .nil)
  (.seq (.ops <|
  qo 7 (.mv (.t 0)) <|
  qo 8 (.nck (.t 7)) <|
  qo 9 (.fa 0 0 (.t 8)) <|
  eo 10 (.load 20 true (.t 9)) <|
  eo 5 (.alloc 28 (.agg [(.arr 8 1 fun _ => (.int .i64 0)), (.arr 4 1 fun _ => (.int .i64 0)), (.arr 6 1 fun _ => (.int .i64 0)), (.bool false), (.bool false)])) <|
  en (.store 20 (.t 5) (.t 10)) <|
  .nil)
  (.seq (.ops <|
  .prune [5, 1, 0, 4] <|
  qo 11 (.fa 3 18 (.t 5)) <|
  en (.store 1 (.t 11) (B true)) <|
  qo 12 (.fa 4 19 (.t 5)) <|
  en (.store 1 (.t 12) (B true)) <|
  .nil)
  (.prune [1, 0, 5, 4] (.seq (.seq (.ops <|
  qo 13 (.mv (.t 1)) <|
  qo 14 (.len (.t 13)) <|
  qo 15 (.mv (I 0)) <|
  .nil)
  (.block 0 (.loop [14, 0, 1, 5, 4] [15] j42_1)))
  j42_2)))))
theorem c42 : fnIs Try.prog qall 42 = some (j42.flat, [.cell 4 28], 39) := by kernel_rfl
theorem w42 : j42.wf 39 = true := by kernel_rfl
def Ge (f : FuncId) (a : List SV) (m : List Res) : Sx.Call := (FH.mz 65 82 dSta (.two dProg .int) dNx (fun s y => Fit y.1 s.at') (fun s y => nextF s y.1 y.2.1) (fun s _ => s) <|
  FH.mt 40 82 dSta (.two dProg .int) (.one .bool) (fun s y => Fit y.1 s.at' ∧ progC badP y.1 = 0) (fun s y => canF s y.1 y.2.1) (fun s _ => s) FH.none) f a m
theorem Ge_eq (f : FuncId) (a : List SV) (m : List Res) : Ge f a m = (FH.mz 65 82 dSta (.two dProg .int) dNx (fun s y => Fit y.1 s.at') (fun s y => nextF s y.1 y.2.1) (fun s _ => s) <|
  FH.mt 40 82 dSta (.two dProg .int) (.one .bool) (fun s y => Fit y.1 s.at' ∧ progC badP y.1 = 0) (fun s y => canF s y.1 y.2.1) (fun s _ => s) FH.none) f a m := nr rfl
theorem Ge_ok : FHOK Try.prog Ge := FH.mz_ok (by kernel_rfl) (fun s y h => f_next s y.1 y.2.1 h) <| FH.mt_ok (by kernel_rfl) (fun s y h => f_Can s y.1 y.2.1 h.1 h.2) FH.none_ok
theorem f_Ended (s : Sta) (p : List (List PO)) (h : Fit p s.at') (hp : progC badP p = 0) : FnOK Try.prog 42 [.ptr 0 [] 0, dProg.emb p] [.blk 82 (dSta.emb s)] (dEn.emb (endF' s p)) [.blk 82 (dSta.emb s)] := by
  refine fn_walkF c42 w42 Ge_ok rfl ?_
  unfold j42
  simp only [go_sem, ↓reduceIte, Nat.reduceAdd, Nat.reduceMul, Nat.reduceSub, Nat.reduceLT, Nat.reduceLeDiff, Nat.reduceEqDiff, Int.reduceToNat, Int.reduceEq, Int.reduceLT, Int.reduceLE, reduceCtorEq]
  have hn := h.n
  refine loopF Nat (fun i => [.int .i64 i]) (fun i => [.blk 82 (dSta.emb s), .blk 28 (dEn.emb ⟨fun _ => 0, fun _ => 0, fun _ => 0, false, false⟩), .blk 28 (dEn.emb { s.en with done := doneB s p i, stuck := stuckB s p i })]) (fun i => i ≤ p.length) (fun i => p.length - i) 0 (by omega) ?_ rfl ?_
  · simp only [go_sem, ↓reduceIte, Nat.reduceAdd, Nat.reduceMul, Nat.reduceSub, Nat.reduceLT, Nat.reduceLeDiff, Nat.reduceEqDiff, Int.reduceToNat, Int.reduceEq, Int.reduceLT, Int.reduceLE, reduceCtorEq]
  intro i hi
  by_cases h1 : i < p.length
  · have h1' : (i : Int) < p.length := by omega
    have hw : IntKind.i64.wrap ((i : Int) + 1) = ((i + 1 : Nat) : Int) := IntWalk.i64_in _ (by omega)
    have hd : doneB s p (i + 1) = (doneB s p i && (nextF s p i).isNone) := rfl
    have hs : stuckB s p (i + 1) = (stuckB s p i && !canF s p i) := rfl
    cases hx : nextF s p i with
    | none =>
      rw [hx] at hd
      cases hc : canF s p i with
      | true =>
        rw [hc] at hs
        unfold j42_1
        simp only [go_sem, ↓reduceIte, Nat.reduceAdd, Nat.reduceMul, Nat.reduceSub, Nat.reduceLT, Nat.reduceLeDiff, Nat.reduceEqDiff, Int.reduceToNat, Int.reduceEq, Int.reduceLT, Int.reduceLE, reduceCtorEq, Ge_eq, h1, h1', hx, hc, hw]
        exact ⟨h, ⟨h, hp⟩, i + 1, by omega, by omega, rfl, by rw [hd, hs]; simp⟩
      | false =>
        rw [hc] at hs
        unfold j42_1
        simp only [go_sem, ↓reduceIte, Nat.reduceAdd, Nat.reduceMul, Nat.reduceSub, Nat.reduceLT, Nat.reduceLeDiff, Nat.reduceEqDiff, Int.reduceToNat, Int.reduceEq, Int.reduceLT, Int.reduceLE, reduceCtorEq, Ge_eq, h1, h1', hx, hc, hw]
        exact ⟨h, ⟨h, hp⟩, i + 1, by omega, by omega, rfl, by rw [hd, hs]; simp⟩
    | some y =>
      obtain ⟨l, k⟩ := y
      rw [hx] at hd
      cases hc : canF s p i with
      | true =>
        rw [hc] at hs
        unfold j42_1
        simp only [go_sem, ↓reduceIte, Nat.reduceAdd, Nat.reduceMul, Nat.reduceSub, Nat.reduceLT, Nat.reduceLeDiff, Nat.reduceEqDiff, Int.reduceToNat, Int.reduceEq, Int.reduceLT, Int.reduceLE, reduceCtorEq, Ge_eq, h1, h1', hx, hc, hw]
        exact ⟨h, ⟨h, hp⟩, i + 1, by omega, by omega, rfl, by rw [hd, hs]; simp⟩
      | false =>
        rw [hc] at hs
        unfold j42_1
        simp only [go_sem, ↓reduceIte, Nat.reduceAdd, Nat.reduceMul, Nat.reduceSub, Nat.reduceLT, Nat.reduceLeDiff, Nat.reduceEqDiff, Int.reduceToNat, Int.reduceEq, Int.reduceLT, Int.reduceLE, reduceCtorEq, Ge_eq, h1, h1', hx, hc, hw]
        exact ⟨h, ⟨h, hp⟩, i + 1, by omega, by omega, rfl, by rw [hd, hs]; simp⟩
  · have h1' : ¬ (i : Int) < p.length := by omega
    have e : i = p.length := by omega
    subst e
    unfold j42_1
    simp only [go_sem, ↓reduceIte, Nat.reduceAdd, Nat.reduceMul, Nat.reduceSub, Nat.reduceLT, Nat.reduceLeDiff, Nat.reduceEqDiff, Int.reduceToNat, Int.reduceEq, Int.reduceLT, Int.reduceLE, reduceCtorEq, h1']
    unfold j42_2
    simp only [go_sem, ↓reduceIte, Nat.reduceAdd, Nat.reduceMul, Nat.reduceSub, Nat.reduceLT, Nat.reduceLeDiff, Nat.reduceEqDiff, Int.reduceToNat, Int.reduceEq, Int.reduceLT, Int.reduceLE, reduceCtorEq, tszEn, endF']
def firstS : Sta := ⟨⟨fun _ => 0, fun _ => 0, fun _ => 0, false, false⟩, fun _ => 0, upd (fun _ => false) 0 true, fun _ => 0⟩
theorem tszSt : tsz Try.prog 82 = some (37, true) := by kernel_rfl

def j39 : JC :=
  (.seq (.ops <|
  eo 0 (.alloc 82 (.agg [(.agg [(.arr 8 1 fun _ => (.int .i64 0)), (.arr 4 1 fun _ => (.int .i64 0)), (.arr 6 1 fun _ => (.int .i64 0)), (.bool false), (.bool false)]), (.arr 6 1 fun _ => (.int .i64 0)), (.arr 6 1 fun _ => (.bool false)), (.arr 5 1 fun _ => (.int .i64 0))])) <|
  .nil)
  (.seq (.ops <|
  eo 1 (.alloc 82 (.agg [(.agg [(.arr 8 1 fun _ => (.int .i64 0)), (.arr 4 1 fun _ => (.int .i64 0)), (.arr 6 1 fun _ => (.int .i64 0)), (.bool false), (.bool false)]), (.arr 6 1 fun _ => (.int .i64 0)), (.arr 6 1 fun _ => (.bool false)), (.arr 5 1 fun _ => (.int .i64 0))])) <|
  .nil)
  (.seq (.ops <|
  qo 2 (.fa 2 26 (.t 1)) <|
  qo 3 (.ia 6 1 (.t 2) (I 0)) <|
  en (.store 1 (.t 3) (B true)) <|
  .nil)
  (.seq (.ops <|
  eo 4 (.load 37 true (.t 1)) <|
  en (.store 37 (.t 0) (.t 4)) <|
  .nil)
  .ret))))
theorem c39 : fnIs Try.prog qall 39 = some (j39.flat, [.cell 0 82], 5) := by kernel_rfl
theorem w39 : j39.wf 5 = true := by kernel_rfl
theorem f_First : FnOK Try.prog 39 [] [] (dSta.emb firstS) [] := by
  refine fn_walkF c39 w39 FH.none_ok rfl ?_
  unfold j39
  simp only [go_sem, ↓reduceIte, Nat.reduceAdd, Nat.reduceMul, Nat.reduceSub, Nat.reduceLT, Nat.reduceLeDiff, Nat.reduceEqDiff, Int.reduceToNat, Int.reduceEq, Int.reduceLT, Int.reduceLE, reduceCtorEq, tszSt, firstS, upd_eq]
/-- One pick. -/
def pickS (p : List (List PO)) (s : Sta) (t : Int) : Sta := match nextF s p t with
  | none => s
  | some (l, i) => if canF s p t = true then stF s p t.toNat (l.getD i dOp.dft) else s
def pickE (p : List (List PO)) (s : Sta) (t : Int) : List Ev := match nextF s p t with
  | none => []
  | some (l, i) => if canF s p t = true ∧ evK s p t.toNat (l.getD i dOp.dft) ≠ 0 then [evE (evK s p t.toNat (l.getD i dOp.dft)) t.toNat (l.getD i dOp.dft)] else []
def runS (p : List (List PO)) (picks : List Int) : Nat → Sta
  | 0 => firstS
  | i + 1 => pickS p (runS p picks i) (picks.getD i 0)
def runE (p : List (List PO)) (picks : List Int) : Nat → List Ev
  | 0 => []
  | i + 1 => runE p picks i ++ pickE p (runS p picks i) (picks.getD i 0)
theorem fit_first {p : List (List PO)} (hp : progC badP p = 0) : Fit p firstS.at' := by
  unfold progC at hp
  split at hp
  · cases hp
  rename_i h
  refine ⟨by omega, fun t ht => ⟨by show (0 : Int) ≤ 0; omega, by show (0 : Int) ≤ _; omega⟩⟩
theorem fit_pick {p : List (List PO)} {s : Sta} (h : Fit p s.at') (t : Int) : Fit p (pickS p s t).at' := by
  unfold pickS
  split
  · exact h
  · rename_i l i hx
    split
    · obtain ⟨n, rfl, h1, h2, h3, h4, h5⟩ := next_some h hx
      refine ⟨h.n, fun k hk => ?_⟩
      have := h.at0 k hk
      show 0 ≤ Tr.upd s.at' n (s.at' n + 1) k ∧ Tr.upd s.at' n (s.at' n + 1) k ≤ _
      unfold Tr.upd
      split
      · rename_i e; subst e; rw [h3] at h5; omega
      · exact this
    · exact h
theorem fit_run {p : List (List PO)} (hp : progC badP p = 0) {picks : List Int} : ∀ i, Fit p (runS p picks i).at'
  | 0 => fit_first hp
  | i + 1 => fit_pick (fit_run hp i) _
theorem runE_len {p : List (List PO)} {picks : List Int} : ∀ i, (runE p picks i).length ≤ i
  | 0 => Nat.le_refl _
  | i + 1 => by
    have := runE_len (p := p) (picks := picks) i
    rw [runE, List.length_append]
    unfold pickE
    split
    · simp; omega
    · split <;> simp <;> omega
def zeroEn : En := ⟨fun _ => 0, fun _ => 0, fun _ => 0, false, false⟩
def runF (p : List (List PO)) (picks : List Int) : En × List Ev × Int :=
  if progC badP p ≠ 0 then (zeroEn, [], progC badP p) else if 100 < picks.length then (zeroEn, [], 2) else (endF' (runS p picks picks.length) p, runE p picks picks.length, 0)
def j15_1 : JC :=
  (.seq (.ops <|
  qo 31 (.cmp .lss (.t 30) (.t 29)) <|
  .nil)
  (.seq (.cond (.t 31)
  .skip
  (.exit 0))
  (.seq (.block 1 (.seq (.ops <|
  qo 32 (.is 1 (.t 28) (.t 30)) <|
  eo 33 (.load 1 false (.t 32)) <|
  qo 11 (.mv (.t 33)) <|
  .nil)
  (.prune [0, 11, 8, 30, 29, 28, 9, 4] (.seq (.seq (.ops <|
  qo 34 (.mv (.t 0)) <|
  qo 35 (.mv (.t 11)) <|
  eo 36 (.call 40 [(.t 8), (.t 34), (.t 35)]) <|
  qo 37 (.nt (.t 36)) <|
  .nil)
  (.cond (.t 37)
  (.exit 1)
  .skip))
  (.prune [0, 11, 8, 9, 30, 29, 28, 4] (.seq (.ops <|
  qo 39 (.mv (.t 0)) <|
  qo 40 (.mv (.t 11)) <|
  eo 41 (.call 41 [(.t 8), (.t 39), (.t 40)]) <|
  .prune [41, 9, 30, 29, 28, 0, 8, 4] <|
  qo 38 (.mv (.t 41)) <|
  qo 42 (.ext 0 (.t 38)) <|
  qo 43 (.ext 1 (.t 38)) <|
  eo 12 (.alloc 35 (.agg [(.int .i64 0), (.int .i64 0), (.int .i64 0)])) <|
  en (.store 3 (.t 12) (.t 42)) <|
  qo 13 (.mv (.t 43)) <|
  .nil)
  (.prune [13, 9, 12, 30, 29, 28, 0, 8, 4] (.seq (.ops <|
  qo 44 (.mv (.t 13)) <|
  .nil)
  (.prune [44, 9, 12, 30, 29, 28, 0, 8, 4] (.cond (.t 44)
  (.ops <|
  qo 45 (.mv (.t 9)) <|
  eo 46 (.load 3 true (.t 12)) <|
  .prune [46, 45, 30, 29, 28, 0, 8, 4] <|
  eo 47 (.bsl 35 3 1 (.agg [(.int .i64 0), (.int .i64 0), (.int .i64 0)]) [(0, (.t 46))]) <|
  eo 48 (.app 35 3 24 (.t 45) (.t 47)) <|
  qo 9 (.mv (.t 48)) <|
  .nil)
  .skip))))))))))
  (.prune [30, 29, 28, 0, 8, 9, 4] (.ops <|
  qo 49 (.ar .add (.t 30) (I 1)) <|
  qo 30 (.mv (.t 49)) <|
  .nil)))))
def j15_2 : JC :=
  (.prune [0, 8, 9, 4] (.seq (.ops <|
  qo 50 (.mv (.t 0)) <|
  eo 51 (.call 42 [(.t 8), (.t 50)]) <|
  qo 52 (.mv (.t 9)) <|
  .prune [4, 51, 52] <|
  en (.store 20 (.t 4) (.t 51)) <|
  qo 5 (.mv (.t 52)) <|
  qo 6 (.mv (I 0)) <|
  .nil)
  (.vecs 5 35 3 .ret)))
def j15 : JC :=
  (.seq (.ops <|
  eo 4 (.alloc 28 (.agg [(.arr 8 1 fun _ => (.int .i64 0)), (.arr 4 1 fun _ => (.int .i64 0)), (.arr 6 1 fun _ => (.int .i64 0)), (.bool false), (.bool false)])) <|
  qo 5 (.mv (.c .nils)) <|
  qo 6 (.mv (I 0)) <|
  .nil)
  (.seq (.ops <|
  qo 14 (.mv (.t 0)) <|
  eo 15 (.call 18 [(.t 14)]) <|
  qo 7 (.mv (.t 15)) <|
  .nil)
  (.seq (.seq (.ops <|
  qo 16 (.mv (.t 7)) <|
  qo 17 (.cmp .eql (.t 16) (I 0)) <|
  .prune [17, 1, 4, 0, 7] <|
  qo 18 (.mv (.t 17)) <|
  .sc false 22 18 (qo 19 (.mv (.t 1)) <|
  qo 20 (.len (.t 19)) <|
  qo 21 (.cmp .gtr (.t 20) (I 100)) <|
  .nil) (.t 21) <|
  .nil)
  (.prune [22, 4, 1, 0, 7] (.cond (.t 22)
  (.ops <|
  qo 7 (.mv (I 2)) <|
  .nil)
  .skip)))
  (.prune [7, 4, 1, 0] (.seq (.seq (.ops <|
  qo 23 (.mv (.t 7)) <|
  qo 24 (.cmp .neq (.t 23) (I 0)) <|
  .nil)
  (.cond (.t 24)
  (.seq (.ops <|
  qo 25 (.bld (.agg [(.arr 8 1 fun _ => (.int .i64 0)), (.arr 4 1 fun _ => (.int .i64 0)), (.arr 6 1 fun _ => (.int .i64 0)), (.bool false), (.bool false)]) []) <|
  .prune [7, 4, 25] <|
  qo 26 (.mv (.t 7)) <|
  en (.store 20 (.t 4) (.t 25)) <|
  qo 5 (.mv (.c .nils)) <|
  qo 6 (.mv (.t 26)) <|
  .nil)
  (.vecs 5 35 3 .ret))
  .skip))
  (.prune [1, 0, 4] (.seq (.ops <|
  eo 27 (.call 39 []) <|
  eo 8 (.alloc 82 (.agg [(.agg [(.arr 8 1 fun _ => (.int .i64 0)), (.arr 4 1 fun _ => (.int .i64 0)), (.arr 6 1 fun _ => (.int .i64 0)), (.bool false), (.bool false)]), (.arr 6 1 fun _ => (.int .i64 0)), (.arr 6 1 fun _ => (.bool false)), (.arr 5 1 fun _ => (.int .i64 0))])) <|
  en (.store 37 (.t 8) (.t 27)) <|
  .nil)
  (.seq (.ops <|
  qo 9 (.mv (.c .nils)) <|
  .nil)
  (.seq (.seq (.ops <|
  qo 28 (.mv (.t 1)) <|
  qo 29 (.len (.t 28)) <|
  qo 30 (.mv (I 0)) <|
  .nil)
  (.prune [30, 29, 28, 0, 8, 9, 4] (.block 0 (.vecs 9 35 3 (.loop [29, 28, 0, 8, 4] [30, 9] j15_1)))))
  j15_2)))))))))
theorem c15 : fnIs Try.prog qall 15 = some (j15.flat, [.cell 4 28, .tmp 5, .tmp 6], 53) := by kernel_rfl
theorem w15 : j15.wf 53 = true := by kernel_rfl
def Gr (f : FuncId) (a : List SV) (m : List Res) : Sx.Call := (FH.rd 18 (.one dProg) (.one .int) (fun _ => True) (fun y => progC badP y.1) <| FH.rd 39 .nil (.one dSta) (fun _ => True) (fun _ => firstS) <|
  FH.mt 40 82 dSta (.two dProg .int) (.one .bool) (fun s y => Fit y.1 s.at' ∧ progC badP y.1 = 0) (fun s y => canF s y.1 y.2.1) (fun s _ => s) <|
  FH.mt 41 82 dSta (.two dProg .int) (.two dEv .bool) (fun s y => Fit y.1 s.at' ∧ progC badP y.1 = 0 ∧ (nextF s y.1 y.2.1).isSome = true) (fun s y => match nextF s y.1 y.2.1 with
    | none => (⟨0, 0, 0⟩, false)
    | some (l, i) => (evE (evK s y.1 y.2.1.toNat (l.getD i dOp.dft)) y.2.1.toNat (l.getD i dOp.dft), !decide (evK s y.1 y.2.1.toNat (l.getD i dOp.dft) = 0))) (fun s y => match nextF s y.1 y.2.1 with
    | none => s
    | some (l, i) => stF s y.1 y.2.1.toNat (l.getD i dOp.dft)) <|
  FH.mt 42 82 dSta (.one dProg) (.one dEn) (fun s y => Fit y.1 s.at' ∧ progC badP y.1 = 0) (fun s y => endF' s y.1) (fun s _ => s) FH.none) f a m
theorem Gr_eq (f : FuncId) (a : List SV) (m : List Res) : Gr f a m = (FH.rd 18 (.one dProg) (.one .int) (fun _ => True) (fun y => progC badP y.1) <| FH.rd 39 .nil (.one dSta) (fun _ => True) (fun _ => firstS) <|
  FH.mt 40 82 dSta (.two dProg .int) (.one .bool) (fun s y => Fit y.1 s.at' ∧ progC badP y.1 = 0) (fun s y => canF s y.1 y.2.1) (fun s _ => s) <|
  FH.mt 41 82 dSta (.two dProg .int) (.two dEv .bool) (fun s y => Fit y.1 s.at' ∧ progC badP y.1 = 0 ∧ (nextF s y.1 y.2.1).isSome = true) (fun s y => match nextF s y.1 y.2.1 with
    | none => (⟨0, 0, 0⟩, false)
    | some (l, i) => (evE (evK s y.1 y.2.1.toNat (l.getD i dOp.dft)) y.2.1.toNat (l.getD i dOp.dft), !decide (evK s y.1 y.2.1.toNat (l.getD i dOp.dft) = 0))) (fun s y => match nextF s y.1 y.2.1 with
    | none => s
    | some (l, i) => stF s y.1 y.2.1.toNat (l.getD i dOp.dft)) <|
  FH.mt 42 82 dSta (.one dProg) (.one dEn) (fun s y => Fit y.1 s.at' ∧ progC badP y.1 = 0) (fun s y => endF' s y.1) (fun s _ => s) FH.none) f a m := nr rfl
theorem Gr_ok : FHOK Try.prog Gr := FH.rd_ok (by kernel_rfl) (fun y _ => f_Check y.1) <| FH.rd_ok (by kernel_rfl) (fun _ _ => f_First) <| FH.mt_ok (by kernel_rfl) (fun s y h => f_Can s y.1 y.2.1 h.1 h.2) <|
  FH.mt_ok (by kernel_rfl) (fun s y h => by
    obtain ⟨p, t, u⟩ := y
    obtain ⟨h1, h2, h3⟩ := h
    simp only at h1 h2 h3
    cases hx : nextF s p t with
    | none => rw [hx] at h3; cases h3
    | some y =>
      obtain ⟨l, i⟩ := y
      obtain ⟨n, rfl, _⟩ := next_some h1 hx
      have := f_Step s p n l i h1 h2 hx
      simp only [hx, Int.toNat_natCast]
      exact this) <| FH.mt_ok (by kernel_rfl) (fun s y h => f_Ended s y.1 h.1 h.2) FH.none_ok
theorem f_Run (p : List (List PO)) (picks : List Int) : FnOK Try.prog 15 [dProg.emb p, dIs.emb picks] [] (.tup [dEn.emb (runF p picks).1, .vec 0 (runF p picks).2.1.length, .int .i64 (runF p picks).2.2]) [.vec 35 3 ((runF p picks).2.1.map dEv.emb)] := by
  refine fn_walkF c15 w15 Gr_ok rfl ?_
  unfold j15
  by_cases hp : progC badP p = 0
  · by_cases h1 : 100 < picks.length
    · have h1' : (100 : Int) < picks.length := by omega
      have e : runF p picks = (zeroEn, [], 2) := by rw [runF, if_neg (by simp [hp]), if_pos h1]
      rw [e]
      simp only [go_sem, ↓reduceIte, Nat.reduceAdd, Nat.reduceMul, Nat.reduceSub, Nat.reduceLT, Nat.reduceLeDiff, Nat.reduceEqDiff, Int.reduceToNat, Int.reduceEq, Int.reduceLT, Int.reduceLE, reduceCtorEq, Gr_eq, hp, h1', tszEn, zeroEn]
    · have h1' : ¬ (100 : Int) < picks.length := by omega
      have e : runF p picks = (endF' (runS p picks picks.length) p, runE p picks picks.length, 0) := by rw [runF, if_neg (by simp [hp]), if_neg h1]
      rw [e]
      simp only [go_sem, ↓reduceIte, Nat.reduceAdd, Nat.reduceMul, Nat.reduceSub, Nat.reduceLT, Nat.reduceLeDiff, Nat.reduceEqDiff, Int.reduceToNat, Int.reduceEq, Int.reduceLT, Int.reduceLE, reduceCtorEq, Gr_eq, hp, h1']
      refine loopF Nat (fun i => [.int .i64 i, .vec 2 (runE p picks i).length]) (fun i => [.blk 28 (dEn.emb zeroEn), .blk 82 (dSta.emb (runS p picks i)), .vec 35 3 ((runE p picks i).map dEv.emb)]) (fun i => i ≤ picks.length) (fun i => picks.length - i) 0 (by omega) ?_ rfl ?_
      · simp only [go_sem, ↓reduceIte, Nat.reduceAdd, Nat.reduceMul, Nat.reduceSub, Nat.reduceLT, Nat.reduceLeDiff, Nat.reduceEqDiff, Int.reduceToNat, Int.reduceEq, Int.reduceLT, Int.reduceLE, reduceCtorEq]
        rfl
      intro i hi
      have hf := fit_run hp (picks := picks) i
      by_cases h2 : i < picks.length
      · have h2' : (i : Int) < picks.length := by omega
        have hw : IntKind.i64.wrap ((i : Int) + 1) = ((i + 1 : Nat) : Int) := IntWalk.i64_in _ (by omega)
        have hl := runE_len (p := p) (picks := picks) i
        have es : runS p picks (i + 1) = pickS p (runS p picks i) (picks.getD i 0) := rfl
        have ee : runE p picks (i + 1) = runE p picks i ++ pickE p (runS p picks i) (picks.getD i 0) := rfl
        obtain ⟨t, ht⟩ : ∃ t, picks.getD i 0 = t := ⟨_, rfl⟩
        rw [ht] at es ee
        cases hc : canF (runS p picks i) p t with
        | false =>
          have q1 : pickS p (runS p picks i) t = runS p picks i := by
            unfold pickS
            split
            · rfl
            · rw [hc, if_neg (by simp)]
          have q2 : pickE p (runS p picks i) t = [] := by
            unfold pickE
            split
            · rfl
            · rw [hc, if_neg (by simp)]
          rw [q1] at es
          rw [q2, List.append_nil] at ee
          clear q1 q2
          generalize runS p picks i = s at *
          generalize runE p picks i = out at *
          unfold j15_1
          simp only [go_sem, ↓reduceIte, Nat.reduceAdd, Nat.reduceMul, Nat.reduceSub, Nat.reduceLT, Nat.reduceLeDiff, Nat.reduceEqDiff, Int.reduceToNat, Int.reduceEq, Int.reduceLT, Int.reduceLE, reduceCtorEq, Gr_eq, h2, h2', ht, hc, hw]
          exact ⟨by omega, ⟨hf, hp⟩, i + 1, by omega, by omega, ⟨rfl, by rw [ee]⟩, by rw [es, ee]⟩
        | true =>
          cases hx : nextF (runS p picks i) p t with
          | none => rw [canF, hx] at hc; cases hc
          | some y =>
            obtain ⟨l, k⟩ := y
            have q1 : pickS p (runS p picks i) t = stF (runS p picks i) p t.toNat (l.getD k dOp.dft) := by
              simp only [pickS, hx, hc, if_true]
            rw [q1] at es
            clear q1
            by_cases hk : evK (runS p picks i) p t.toNat (l.getD k dOp.dft) = 0
            · have q2 : pickE p (runS p picks i) t = [] := by simp only [pickE, hx, hc, hk]; simp
              rw [q2, List.append_nil] at ee
              clear q2
              generalize runS p picks i = s at *
              generalize runE p picks i = out at *
              unfold j15_1
              simp only [go_sem, ↓reduceIte, Nat.reduceAdd, Nat.reduceMul, Nat.reduceSub, Nat.reduceLT, Nat.reduceLeDiff, Nat.reduceEqDiff, Int.reduceToNat, Int.reduceEq, Int.reduceLT, Int.reduceLE, reduceCtorEq, Gr_eq, h2, h2', ht, hc, hx, hw, hk]
              exact ⟨by omega, ⟨hf, hp⟩, ⟨hf, hp, rfl⟩, i + 1, by omega, by omega, ⟨rfl, by rw [ee]⟩, by rw [es, ee]⟩
            · have q2 : pickE p (runS p picks i) t = [evE (evK (runS p picks i) p t.toNat (l.getD k dOp.dft)) t.toNat (l.getD k dOp.dft)] := by
                simp only [pickE, hx, hc, ne_eq, hk, not_false_eq_true, and_self, if_true]
              rw [q2] at ee
              clear q2
              generalize runS p picks i = s at *
              generalize runE p picks i = out at *
              unfold j15_1
              simp only [go_sem, ↓reduceIte, Nat.reduceAdd, Nat.reduceMul, Nat.reduceSub, Nat.reduceLT, Nat.reduceLeDiff, Nat.reduceEqDiff, Int.reduceToNat, Int.reduceEq, Int.reduceLT, Int.reduceLE, reduceCtorEq, Gr_eq, h2, h2', ht, hc, hx, hw, hk]
              exact ⟨by omega, ⟨hf, hp⟩, ⟨hf, hp, rfl⟩, by omega, i + 1, by omega, by omega, ⟨rfl, by rw [ee]; simp⟩, by rw [es, ee]; simp [ev_emb]⟩
      · have h2' : ¬ (i : Int) < picks.length := by omega
        have e : i = picks.length := by omega
        subst e
        unfold j15_1
        simp only [go_sem, ↓reduceIte, Nat.reduceAdd, Nat.reduceMul, Nat.reduceSub, Nat.reduceLT, Nat.reduceLeDiff, Nat.reduceEqDiff, Int.reduceToNat, Int.reduceEq, Int.reduceLT, Int.reduceLE, reduceCtorEq, h2']
        unfold j15_2
        simp only [go_sem, ↓reduceIte, Nat.reduceAdd, Nat.reduceMul, Nat.reduceSub, Nat.reduceLT, Nat.reduceLeDiff, Nat.reduceEqDiff, Int.reduceToNat, Int.reduceEq, Int.reduceLT, Int.reduceLE, reduceCtorEq, Gr_eq, tszEn]
        exact ⟨hf, hp⟩
  · have e : runF p picks = (zeroEn, [], progC badP p) := by rw [runF, if_pos (by simp [hp])]
    rw [e]
    simp only [go_sem, ↓reduceIte, Nat.reduceAdd, Nat.reduceMul, Nat.reduceSub, Nat.reduceLT, Nat.reduceLeDiff, Nat.reduceEqDiff, Int.reduceToNat, Int.reduceEq, Int.reduceLT, Int.reduceLE, reduceCtorEq, Gr_eq, hp, tszEn, zeroEn]
end Go.Proofs.Ytafcmgfmmlnngaa.Rn
