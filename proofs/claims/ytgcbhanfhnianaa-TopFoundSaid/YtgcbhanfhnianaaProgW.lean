/- Nodes of all runs, breadth first: a state that lies in a node. Conditions: none. -/
import Derived.Test.YtgcbhanfhnianaaProgQ
import Derived.Test.YtgcbhanfhnianaaSx44
set_option linter.unusedSimpArgs false
set_option linter.unusedVariables false
set_option maxRecDepth 100000
open Go Go.Sx Go.Proofs
namespace Go.Proofs.Ytgcbhanfhnianaa.D
structure Nd where
  s : Sta
  pk : List Int
  ev : List Ev
def dNd : DT Nd := (DT.st (DL.cons dSta (DL.cons dIs (DL.cons dEs DL.nil)))).iso (fun x => ⟨x.1, x.2.1, x.2.2.1⟩) (fun g => (g.s, g.pk, g.ev, ())) (fun _ => rfl) (fun _ => rfl)
theorem nd_emb (g : Nd) : dNd.emb g = .agg [dSta.emb g.s, dIs.emb g.pk, dEs.emb g.ev] := nr rfl
theorem nd_decV (m : List Res) (a b c : SV) : dNd.decV m (.agg [a, b, c]) = ⟨dSta.decV m a, dIs.decV m b, dEs.decV m c⟩ := nr rfl
theorem nd_decP (m : List Res) (a b c : SV) : dNd.decP m (.agg [a, b, c]) = (dSta.decP m a ∧ dIs.decP m b ∧ dEs.decP m c) := nr (by
  show (_ ∧ _ ∧ _ ∧ True) = _
  simp only [and_true])
theorem nd_eta (g : Nd) : (⟨g.s, g.pk, g.ev⟩ : Nd) = g := nr rfl
attribute [go_sem] nd_emb nd_decV nd_decP nd_eta
end Go.Proofs.Ytgcbhanfhnianaa.D
namespace Go.Proofs.Ytgcbhanfhnianaa.Rn
open Go.Proofs.Ytgcbhanfhnianaa.D Go.Proofs.Ytgcbhanfhnianaa.Pg Go.Proofs.Ytgcbhanfhnianaa.Tr
theorem w_next (s : Sta) (pk : List Int) (ev : List Ev) (p : List (List PO)) (t : Int) (h : Fit p s.at') : FnOK Try.prog 89 [.ptr 0 [.fld 0] 0, dProg.emb p, .int .i64 t] [.blk 148 (dNd.emb ⟨s, pk, ev⟩)] (dNx.emb (nextF s p t)) [.blk 148 (dNd.emb ⟨s, pk, ev⟩)] := by
  refine fn_walkF c89 w89 FH.none_ok rfl ?_
  unfold j89
  simp only [go_sem, ↓reduceIte, Nat.reduceAdd, Nat.reduceMul, Nat.reduceSub, Nat.reduceLT, Nat.reduceLeDiff, Nat.reduceEqDiff, Int.reduceToNat, Int.reduceEq, Int.reduceLT, Int.reduceLE, reduceCtorEq]
  have hn := h.n
  have hb : ∀ a b c d : Bool, (a || b || c || d) = true → a = true ∨ b = true ∨ c = true ∨ d = true := by decide
  have hf : ∀ a b c d : Bool, (a || b || c || d) = false → a = false ∧ b = false ∧ c = false ∧ d = false := by decide
  refine ⟨fun h1 => ?_, fun h1 => ?_, fun h1 => ?_, fun h1 => ?_⟩
  · simp only [Bool.or_eq_false_iff, decide_eq_false_iff_not] at h1
    omega
  · simp only [Bool.or_eq_false_iff, decide_eq_false_iff_not] at h1
    omega
  · unfold nextF
    by_cases ht : t < 0 ∨ (p.length : Int) ≤ t
    · rw [if_pos ht]; rfl
    · rw [if_neg ht]
      simp only [show decide (t < 0) = false by simp; omega, show decide ((p.length : Int) ≤ t) = false by simp; omega, Bool.false_or, Bool.or_eq_true, Bool.not_eq_true', decide_eq_true_eq] at h1
      rcases h1 with h1 | h1
      · rw [if_pos h1]; rfl
      · rw [if_pos h1]; split <;> rfl
  · obtain ⟨g1, g2, g3, g4⟩ := hf _ _ _ _ h1
    simp only [decide_eq_false_iff_not, Bool.not_eq_false'] at g1 g2 g3 g4
    have ha := h.at0 t.toNat (by omega)
    rw [nextF, if_neg (by omega), if_neg (by rw [g3]; simp), if_neg g4]
    exact ⟨⟨by omega, by omega⟩, ⟨by omega, by omega⟩, ⟨by omega, by omega⟩, rfl⟩
def Gnw (f : FuncId) (a : List SV) (m : List Res) : Sx.Call := (FH.mv 89 148 [.fld 0] 0 dNd (.two dProg .int) dNx (fun s y => Fit y.1 s.s.at') (fun s y => nextF s.s y.1 y.2.1) (fun s _ => s) FH.none) f a m
theorem Gnw_eq (f : FuncId) (a : List SV) (m : List Res) : Gnw f a m = (FH.mv 89 148 [.fld 0] 0 dNd (.two dProg .int) dNx (fun s y => Fit y.1 s.s.at') (fun s y => nextF s.s y.1 y.2.1) (fun s _ => s) FH.none) f a m := nr rfl
theorem Gnw_ok : FHOK Try.prog Gnw := FH.mv_ok (by kernel_rfl) (fun s y h => w_next s.s s.pk s.ev y.1 y.2.1 h) FH.none_ok
theorem w_Can (s : Sta) (pk : List Int) (ev : List Ev) (p : List (List PO)) (t : Int) (h : Fit p s.at') (hp : progC badP p = 0) : FnOK Try.prog 44 [.ptr 0 [.fld 0] 0, dProg.emb p, .int .i64 t] [.blk 148 (dNd.emb ⟨s, pk, ev⟩)] (.bool (canF s p t)) [.blk 148 (dNd.emb ⟨s, pk, ev⟩)] := by
  refine fn_walkF c44 w44 Gnw_ok rfl ?_
  unfold j44
  unfold canF
  cases hx : nextF s p t with
  | none =>
    simp only [go_sem, ↓reduceIte, Nat.reduceAdd, Nat.reduceMul, Nat.reduceSub, Nat.reduceLT, Nat.reduceLeDiff, Nat.reduceEqDiff, Int.reduceToNat, Int.reduceEq, Int.reduceLT, Int.reduceLE, reduceCtorEq, Gnw_eq, hx]
    exact h
  | some y =>
    obtain ⟨l, i⟩ := y
    obtain ⟨n, rfl, h1, h2, h3, h4, h5⟩ := next_some h hx
    have ho := op_ok hp h1 (i := i) (by rw [← h3]; exact h5)
    rw [← h3] at ho
    simp only [go_sem, ↓reduceIte, Nat.reduceAdd, Nat.reduceMul, Nat.reduceSub, Nat.reduceLT, Nat.reduceLeDiff, Nat.reduceEqDiff, Int.reduceToNat, Int.reduceEq, Int.reduceLT, Int.reduceLE, reduceCtorEq, Gnw_eq, hx]
    have hn := h.n
    have b4 : bnd 4 = 5 := by decide
    have b7 : bnd 7 = 6 := by decide
    generalize l.getD i dOp.dft = o at ho ⊢
    refine ⟨h, fun k4 => ?_, fun k4 => ⟨fun k7 => ⟨fun q => ?_, fun q => ?_, ?_⟩, fun k7 => ?_⟩⟩
    · rw [k4, b4] at ho
      exact ⟨ho, by rw [if_pos k4]⟩
    · rw [k7, b7] at ho; exact ho
    · rw [k7, b7] at ho
      simp only [Bool.and_eq_true, decide_eq_true_eq] at q
      exact ⟨ho, ho.1, q.1.1⟩
    · rw [if_neg k4, if_pos k7]
    · rw [if_neg k4, if_neg k7]
def Gsw (f : FuncId) (a : List SV) (m : List Res) : Sx.Call := (FH.mv 89 148 [.fld 0] 0 dNd (.two dProg .int) dNx (fun s y => Fit y.1 s.s.at') (fun s y => nextF s.s y.1 y.2.1) (fun s _ => s) <|
  FH.rd 90 (.three .int (DT.ref .int) (DT.ref (DT.eptr 3 dOp))) (.two dEv .bool) (fun y => 0 ≤ y.2.1) (fun y => (⟨y.1, y.2.1, (y.2.2.1.1.getD y.2.2.1.2 dOp.dft).obj⟩, true)) FH.none) f a m
theorem Gsw_eq (f : FuncId) (a : List SV) (m : List Res) : Gsw f a m = (FH.mv 89 148 [.fld 0] 0 dNd (.two dProg .int) dNx (fun s y => Fit y.1 s.s.at') (fun s y => nextF s.s y.1 y.2.1) (fun s _ => s) <|
  FH.rd 90 (.three .int (DT.ref .int) (DT.ref (DT.eptr 3 dOp))) (.two dEv .bool) (fun y => 0 ≤ y.2.1) (fun y => (⟨y.1, y.2.1, (y.2.2.1.1.getD y.2.2.1.2 dOp.dft).obj⟩, true)) FH.none) f a m := nr rfl
theorem Gsw_ok : FHOK Try.prog Gsw := FH.mv_ok (by kernel_rfl) (fun s y h => w_next s.s s.pk s.ev y.1 y.2.1 h) <| FH.rd_ok (by kernel_rfl) (fun y h => by
  have := f_Step1 y.1 y.2.1.toNat y.2.2.1.1 y.2.2.1.2
  rw [show ((y.2.1.toNat : Nat) : Int) = y.2.1 by omega] at this
  exact this) FH.none_ok
theorem w_Step (s : Sta) (pk : List Int) (ev : List Ev) (p : List (List PO)) (n : Nat) (l : List PO) (i : Nat) (h : Fit p s.at') (hp : progC badP p = 0) (hx : nextF s p n = some (l, i)) :
    FnOK Try.prog 45 [.ptr 0 [.fld 0] 0, dProg.emb p, .int .i64 n] [.blk 148 (dNd.emb ⟨s, pk, ev⟩)] (.tup [dEv.emb (evE (evK s p n (l.getD i dOp.dft)) n (l.getD i dOp.dft)), .bool (!decide (evK s p n (l.getD i dOp.dft) = 0))]) [.blk 148 (dNd.emb ⟨(stF s p n (l.getD i dOp.dft)), pk, ev⟩)] := by
  obtain ⟨n', hn', h1, h2, h3, h4, h5⟩ := next_some h hx
  obtain rfl : n = n' := by omega
  have ho := op_ok hp h1 (i := i) (by rw [← h3]; exact h5)
  rw [← h3] at ho
  have hn := h.n
  have ha := h.at0 n h1
  have hg := (good_of hp h1).1
  have hw1 : IntKind.i64.wrap (s.at' n + 1) = s.at' n + 1 := IntWalk.i64_in _ (by omega)
  have hwn : IntKind.i64.wrap ((n : Int) + 1) = (n : Int) + 1 := IntWalk.i64_in _ (by omega)
  have h16 : n < 6 := by omega
  have h16' : (n : Int) < 6 := by omega
  refine fn_walkF c45 w45 Gsw_ok rfl ?_
  unfold j45
  have b1 : bnd 1 = 8 := by decide
  have b2 : bnd 2 = 8 := by decide
  have b4 : bnd 4 = 5 := by decide
  have b5 : bnd 5 = 5 := by decide
  have b6 : bnd 6 = 6 := by decide
  have b8 : bnd 8 = 4 := by decide
  have b9 : bnd 9 = 4 := by decide
  rcases bnd_kind ho with k | k | k | k | k | k | k | k | k
  · simp only [go_sem, ↓reduceIte, Nat.reduceAdd, Nat.reduceMul, Nat.reduceSub, Nat.reduceLT, Nat.reduceLeDiff, Nat.reduceEqDiff, Int.reduceToNat, Int.reduceEq, Int.reduceLT, Int.reduceLE, reduceCtorEq, Gsw_eq, hx, hw1, hwn, k, h16', stF, enF, evK, evE, upd_eq, tszEv, false_and, true_and]
    rw [k, b1] at ho
    exact ⟨h, by omega⟩
  · simp only [go_sem, ↓reduceIte, Nat.reduceAdd, Nat.reduceMul, Nat.reduceSub, Nat.reduceLT, Nat.reduceLeDiff, Nat.reduceEqDiff, Int.reduceToNat, Int.reduceEq, Int.reduceLT, Int.reduceLE, reduceCtorEq, Gsw_eq, hx, hw1, hwn, k, h16', stF, enF, evK, evE, upd_eq, tszEv, false_and, true_and]
    rw [k, b2] at ho
    exact ⟨h, by omega⟩
  · simp only [go_sem, ↓reduceIte, Nat.reduceAdd, Nat.reduceMul, Nat.reduceSub, Nat.reduceLT, Nat.reduceLeDiff, Nat.reduceEqDiff, Int.reduceToNat, Int.reduceEq, Int.reduceLT, Int.reduceLE, reduceCtorEq, Gsw_eq, hx, hw1, hwn, k, h16', stF, enF, evK, evE, upd_eq, tszEv, false_and, true_and]
    exact ⟨h, by omega⟩
  · simp only [go_sem, ↓reduceIte, Nat.reduceAdd, Nat.reduceMul, Nat.reduceSub, Nat.reduceLT, Nat.reduceLeDiff, Nat.reduceEqDiff, Int.reduceToNat, Int.reduceEq, Int.reduceLT, Int.reduceLE, reduceCtorEq, Gsw_eq, hx, hw1, hwn, k, h16', stF, enF, evK, evE, upd_eq, tszEv, false_and, true_and]
    rw [k, b4] at ho
    exact ⟨h, by omega⟩
  · by_cases c : s.owner (l.getD i dOp.dft).obj.toNat = (n : Int) + 1
    · simp only [go_sem, ↓reduceIte, Nat.reduceAdd, Nat.reduceMul, Nat.reduceSub, Nat.reduceLT, Nat.reduceLeDiff, Nat.reduceEqDiff, Int.reduceToNat, Int.reduceEq, Int.reduceLT, Int.reduceLE, reduceCtorEq, Gsw_eq, hx, hw1, hwn, k, h16', stF, enF, evK, evE, upd_eq, tszEv, false_and, true_and, c]
      rw [k, b5] at ho
      exact ⟨h, by omega⟩
    · simp only [go_sem, ↓reduceIte, Nat.reduceAdd, Nat.reduceMul, Nat.reduceSub, Nat.reduceLT, Nat.reduceLeDiff, Nat.reduceEqDiff, Int.reduceToNat, Int.reduceEq, Int.reduceLT, Int.reduceLE, reduceCtorEq, Gsw_eq, hx, hw1, hwn, k, h16', stF, enF, evK, evE, upd_eq, tszEv, false_and, true_and, c]
      rw [k, b5] at ho
      exact ⟨h, by omega⟩
  · by_cases c : (l.getD i dOp.dft).obj < p.length
    · cases c2 : s.begun (l.getD i dOp.dft).obj.toNat with
      | true =>
        simp only [go_sem, ↓reduceIte, Nat.reduceAdd, Nat.reduceMul, Nat.reduceSub, Nat.reduceLT, Nat.reduceLeDiff, Nat.reduceEqDiff, Int.reduceToNat, Int.reduceEq, Int.reduceLT, Int.reduceLE, reduceCtorEq, Gsw_eq, hx, hw1, hwn, k, h16', stF, enF, evK, evE, upd_eq, tszEv, false_and, true_and, c, c2]
        rw [k, b6] at ho
        exact ⟨h, by omega⟩
      | false =>
        simp only [go_sem, ↓reduceIte, Nat.reduceAdd, Nat.reduceMul, Nat.reduceSub, Nat.reduceLT, Nat.reduceLeDiff, Nat.reduceEqDiff, Int.reduceToNat, Int.reduceEq, Int.reduceLT, Int.reduceLE, reduceCtorEq, Gsw_eq, hx, hw1, hwn, k, h16', stF, enF, evK, evE, upd_eq, tszEv, false_and, true_and, c, c2]
        rw [k, b6] at ho
        exact ⟨h, by omega⟩
    · simp only [go_sem, ↓reduceIte, Nat.reduceAdd, Nat.reduceMul, Nat.reduceSub, Nat.reduceLT, Nat.reduceLeDiff, Nat.reduceEqDiff, Int.reduceToNat, Int.reduceEq, Int.reduceLT, Int.reduceLE, reduceCtorEq, Gsw_eq, hx, hw1, hwn, k, h16', stF, enF, evK, evE, upd_eq, tszEv, false_and, true_and, c, and_false]
      rw [k, b6] at ho
      exact ⟨h, by omega⟩
  · simp only [go_sem, ↓reduceIte, Nat.reduceAdd, Nat.reduceMul, Nat.reduceSub, Nat.reduceLT, Nat.reduceLeDiff, Nat.reduceEqDiff, Int.reduceToNat, Int.reduceEq, Int.reduceLT, Int.reduceLE, reduceCtorEq, Gsw_eq, hx, hw1, hwn, k, h16', stF, enF, evK, evE, upd_eq, tszEv, false_and, true_and]
    exact ⟨h, by omega⟩
  · simp only [go_sem, ↓reduceIte, Nat.reduceAdd, Nat.reduceMul, Nat.reduceSub, Nat.reduceLT, Nat.reduceLeDiff, Nat.reduceEqDiff, Int.reduceToNat, Int.reduceEq, Int.reduceLT, Int.reduceLE, reduceCtorEq, Gsw_eq, hx, hw1, hwn, k, h16', stF, enF, evK, evE, upd_eq, tszEv, false_and, true_and]
    rw [k, b8] at ho
    exact ⟨h, by omega⟩
  · simp only [go_sem, ↓reduceIte, Nat.reduceAdd, Nat.reduceMul, Nat.reduceSub, Nat.reduceLT, Nat.reduceLeDiff, Nat.reduceEqDiff, Int.reduceToNat, Int.reduceEq, Int.reduceLT, Int.reduceLE, reduceCtorEq, Gsw_eq, hx, hw1, hwn, k, h16', stF, enF, evK, evE, upd_eq, tszEv, false_and, true_and]
    rw [k, b9] at ho
    exact ⟨h, by omega⟩
end Go.Proofs.Ytgcbhanfhnianaa.Rn
