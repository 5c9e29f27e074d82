/- All runs of a program, breadth first: is there one that races? Conditions: none. -/
import Derived.Test.YtgcbhanfhnianaaProgW
import Derived.Test.YtgcbhanfhnianaaAheadP
import Derived.Test.YtgcbhanfhnianaaAheadQ
import Derived.Test.YtgcbhanfhnianaaRacesR
import Derived.Test.YtgcbhanfhnianaaBase
import Derived.Test.YtgcbhanfhnianaaSx41
import Derived.Test.YtgcbhanfhnianaaRows
import Derived.Shelf.Sort.Plain
import Derived.Shelf.Slices.CompactI
import Derived.Lib.SlicesCompact
import Derived.Shelf.Slices.In.SortNone
import Derived.Test.YtgcbhanfhnianaaCpy
import Derived.Test.YtgcbhanfhnianaaProgQ
import Derived.WalkKit
import Derived.Test.YtgcbhanfhnianaaTopV
section
set_option linter.unusedSimpArgs false
set_option linter.unusedVariables false
set_option maxRecDepth 100000
open Go Go.Sx Go.Proofs
namespace Go.Proofs.Ytgcbhanfhnianaa.Ev
open Go.Proofs.Ytgcbhanfhnianaa.D Go.Proofs.Ytgcbhanfhnianaa.Pg Go.Proofs.Ytgcbhanfhnianaa.Tr Go.Proofs.Ytgcbhanfhnianaa.Rn Go.Proofs.Ytgcbhanfhnianaa.Cp Go.Proofs.Ytgcbhanfhnianaa.Rc
def j73_1 : JC :=
  (.seq (.ops <|
  qo 15 (.cmp .lss (.t 14) (.t 13)) <|
  .nil)
  (.seq (.cond (.t 15)
  .skip
  (.exit 0))
  (.seq (.block 1 (.seq (.ops <|
  qo 16 (.is 1 (.t 12) (.t 14)) <|
  eo 17 (.load 1 false (.t 16)) <|
  qo 6 (.mv (.t 17)) <|
  .nil)
  (.ops <|
  .prune [4, 6, 14, 13, 12] <|
  qo 18 (.mv (.t 4)) <|
  qo 19 (.mv (.t 6)) <|
  qo 20 (.len (.t 19)) <|
  qo 21 (.ar .add (.t 18) (.t 20)) <|
  qo 4 (.mv (.t 21)) <|
  .nil)))
  (.prune [14, 13, 12, 4] (.ops <|
  qo 22 (.ar .add (.t 14) (I 1)) <|
  qo 14 (.mv (.t 22)) <|
  .nil)))))
def j73_2 : JC :=
  (.prune [4] (.seq (.seq (.ops <|
  qo 23 (.mv (.t 4)) <|
  qo 24 (.cmp .gtr (.t 23) (I 10)) <|
  .nil)
  (.cond (.t 24)
  (.seq (.ops <|
  qo 2 (.mv (I 2)) <|
  .nil)
  .ret)
  .skip))
  (.seq (.ops <|
  qo 2 (.mv (I 0)) <|
  .nil)
  .ret)))
def j73 : JC :=
  (.seq (.ops <|
  qo 2 (.mv (I 0)) <|
  .nil)
  (.seq (.seq (.ops <|
  qo 7 (.mv (.t 0)) <|
  eo 8 (.call 15 [(.t 7)]) <|
  qo 3 (.mv (.t 8)) <|
  .nil)
  (.seq (.ops <|
  qo 9 (.mv (.t 3)) <|
  qo 10 (.cmp .neq (.t 9) (I 0)) <|
  .nil)
  (.cond (.t 10)
  (.seq (.ops <|
  qo 11 (.mv (.t 3)) <|
  qo 2 (.mv (.t 11)) <|
  .nil)
  .ret)
  .skip)))
  (.seq (.ops <|
  qo 4 (.mv (I 0)) <|
  .nil)
  (.seq (.seq (.ops <|
  .prune [0, 4] <|
  qo 12 (.mv (.t 0)) <|
  qo 13 (.len (.t 12)) <|
  qo 14 (.mv (I 0)) <|
  .nil)
  (.prune [14, 13, 12, 4] (.block 0 (.loop [13, 12] [14, 4] j73_1))))
  j73_2))))
theorem c73 : fnIs Try.prog qall 73 = some (j73.flat, [.tmp 2], 25) := by kernel_rfl
theorem w73 : j73.wf 25 = true := by kernel_rfl
def manyL (p : List (List PO)) : Nat := (p.map List.length).sum
def echF (p : List (List PO)) : Int := if progC badP p ≠ 0 then progC badP p else if 10 < manyL p then 2 else 0
def Gec (f : FuncId) (a : List SV) (m : List Res) : Sx.Call := (FH.rd 15 (.one dProg) (.one .int) (fun _ => True) (fun y => progC badP y.1) FH.none) f a m
theorem Gec_eq (f : FuncId) (a : List SV) (m : List Res) : Gec f a m = (FH.rd 15 (.one dProg) (.one .int) (fun _ => True) (fun y => progC badP y.1) FH.none) f a m := nr rfl
theorem Gec_ok : FHOK Try.prog Gec := FH.rd_ok (by kernel_rfl) (fun y _ => Pg.f_Check y.1) FH.none_ok
theorem many_take (p : List (List PO)) {i : Nat} (h : i < p.length) : manyL (p.take (i + 1)) = manyL (p.take i) + (p.getD i []).length := by
  rw [take_getD [] h]; simp [manyL]
theorem many_le {p : List (List PO)} (hp : progC badP p = 0) : ∀ i, i ≤ p.length → manyL (p.take i) ≤ 12 * i
  | 0, _ => by simp [manyL]
  | i + 1, h => by
    rw [many_take p h]
    have := many_le hp i (by omega)
    have := (good_of hp h).1
    omega
theorem f_check (p : List (List PO)) : FnOK Try.prog 73 [dProg.emb p] [] (.int .i64 (echF p)) [] := by
  refine fn_walkF c73 w73 Gec_ok rfl ?_
  unfold j73
  by_cases hp : progC badP p = 0
  · have e : echF p = if 10 < manyL p then 2 else 0 := by rw [echF, if_neg (by simp [hp])]
    rw [e]
    have h6 : p.length ≤ 6 := by
      unfold progC at hp
      split at hp
      · cases hp
      · omega
    simp only [go_sem, ↓reduceIte, Nat.reduceAdd, Nat.reduceMul, Nat.reduceSub, Nat.reduceLT, Nat.reduceLeDiff, Nat.reduceEqDiff, Int.reduceToNat, Int.reduceEq, Int.reduceLT, Int.reduceLE, reduceCtorEq, Gec_eq, hp]
    refine loopF Nat (fun i => [.int .i64 i, .int .i64 (manyL (p.take i))]) (fun i => []) (fun i => i ≤ p.length) (fun i => p.length - i) 0 (by omega) ?_ rfl ?_
    · simp only [go_sem, ↓reduceIte, Nat.reduceAdd, Nat.reduceMul, Nat.reduceSub, Nat.reduceLT, Nat.reduceLeDiff, Nat.reduceEqDiff, Int.reduceToNat, Int.reduceEq, Int.reduceLT, Int.reduceLE, reduceCtorEq]
      rfl
    intro i hi
    have hm := many_le hp i hi
    unfold j73_1
    simp only [go_sem, ↓reduceIte, Nat.reduceAdd, Nat.reduceMul, Nat.reduceSub, Nat.reduceLT, Nat.reduceLeDiff, Nat.reduceEqDiff, Int.reduceToNat, Int.reduceEq, Int.reduceLT, Int.reduceLE, reduceCtorEq]
    refine ⟨fun q => ?_, fun q => ?_⟩
    · have q' : i < p.length := by omega
      have hl := (good_of hp q').1
      refine ⟨⟨by omega, by omega⟩, i + 1, by omega, by omega, IntWalk.i64_in _ (by omega), ?_⟩
      rw [many_take p q']
      have : ((manyL (p.take i) : Nat) : Int) + ((p.getD i []).length : Int) = ((manyL (p.take i) + (p.getD i []).length : Nat) : Int) := by omega
      rw [this, IntWalk.i64_in _ (by omega)]
    · have : i = p.length := by omega
      subst this
      rw [List.take_length]
      unfold j73_2
      simp only [go_sem, ↓reduceIte, Nat.reduceAdd, Nat.reduceMul, Nat.reduceSub, Nat.reduceLT, Nat.reduceLeDiff, Nat.reduceEqDiff, Int.reduceToNat, Int.reduceEq, Int.reduceLT, Int.reduceLE, reduceCtorEq]
      exact ⟨fun h => by rw [if_pos (by omega)], fun h => by rw [if_neg (by omega)]⟩
  · have e : echF p = progC badP p := by rw [echF, if_pos hp]
    rw [e]
    simp only [go_sem, ↓reduceIte, Nat.reduceAdd, Nat.reduceMul, Nat.reduceSub, Nat.reduceLT, Nat.reduceLeDiff, Nat.reduceEqDiff, Int.reduceToNat, Int.reduceEq, Int.reduceLT, Int.reduceLE, reduceCtorEq, Gec_eq, hp]
def rootN : Nd := ⟨firstS, [], []⟩
def sumAt (p : List (List PO)) (at' : Nat → Int) : Nat := ((List.range p.length).map fun t => (at' t).toNat).sum
structure NdOK (p : List (List PO)) (lev : Nat) (nd : Nd) : Prop where
  fit : Fit p nd.s.at'
  sum : sumAt p nd.s.at' = lev
  pk : nd.pk.length ≤ lev
  ev : nd.ev.length ≤ lev
theorem can_some {s : Sta} {p : List (List PO)} {t : Int} (h : canF s p t = true) : ∃ l i, nextF s p t = some (l, i) := by
  cases hx : nextF s p t with
  | none => rw [canF, hx] at h; cases h
  | some y => exact ⟨y.1, y.2, rfl⟩
theorem sum_le {p : List (List PO)} {at' : Nat → Int} (h : Fit p at') : ∀ n, n ≤ p.length → ((List.range n).map fun t => (at' t).toNat).sum ≤ manyL (p.take n)
  | 0, _ => by simp
  | n + 1, hn => by
    have := sum_le h n (by omega)
    have := h.at0 n (by omega)
    rw [List.range_succ, List.map_append, List.sum_append, many_take p (by omega)]
    simp only [List.map_cons, List.map_nil, List.sum_cons, List.sum_nil]
    omega
theorem sum_upd (f : Nat → Int) (t : Nat) (h : 0 ≤ f t) : ∀ n, ((List.range n).map fun k => (Tr.upd f t (f t + 1) k).toNat).sum = ((List.range n).map fun k => (f k).toNat).sum + if t < n then 1 else 0
  | 0 => by simp
  | n + 1 => by
    have ih := sum_upd f t h n
    rw [List.range_succ, List.map_append, List.sum_append, List.map_append, List.sum_append, ih]
    simp only [List.map_cons, List.map_nil, List.sum_cons, List.sum_nil, Tr.upd]
    by_cases e : n = t
    · subst e
      simp
      omega
    · rw [if_neg e]
      by_cases q : t < n
      · rw [if_pos q, if_pos (by omega)]; omega
      · rw [if_neg q, if_neg (by omega)]; omega
theorem root_ok {p : List (List PO)} (hp : progC badP p = 0) : NdOK p 0 rootN := by
  refine ⟨fit_first hp, ?_, Nat.le_refl _, Nat.le_refl _⟩
  have : ∀ n, ((List.range n).map fun t => (rootN.s.at' t).toNat).sum = 0 := by
    intro n
    induction n with
    | zero => rfl
    | succ n ih =>
      rw [List.range_succ, List.map_append, List.sum_append, ih]; rfl
  exact this _
end Go.Proofs.Ytgcbhanfhnianaa.Ev
end
section
set_option linter.unusedSimpArgs false
set_option linter.unusedVariables false
set_option maxRecDepth 100000
open Go Go.Sx Go.Proofs
namespace Go.Proofs.Ytgcbhanfhnianaa.Ev
open Go.Proofs.Ytgcbhanfhnianaa.D Go.Proofs.Ytgcbhanfhnianaa.Pg Go.Proofs.Ytgcbhanfhnianaa.Tr Go.Proofs.Ytgcbhanfhnianaa.Rn Go.Proofs.Ytgcbhanfhnianaa.Cp Go.Proofs.Ytgcbhanfhnianaa.Rc
abbrev dBe := DT.slo 1 DT.int
def j79_1 : JC :=
  (.seq (.ops <|
  qo 14 (.cmp .lss (.t 13) (.t 12)) <|
  .nil)
  (.seq (.cond (.t 14)
  .skip
  (.exit 0))
  (.seq (.block 1 (.seq (.ops <|
  qo 15 (.mv (.t 13)) <|
  qo 5 (.mv (.t 15)) <|
  .nil)
  (.seq (.ops <|
  eo 16 (.load 29 true (.t 2)) <|
  qo 17 (.mv (.t 5)) <|
  eo 18 (.call 48 [(.t 16), (.t 17)]) <|
  .prune [18, 2, 5, 1, 13, 12] <|
  qo 19 (.mv (.t 18)) <|
  .scd false 26 19 (eo 20 (.load 29 true (.t 2)) <|
  qo 21 (.mv (.t 5)) <|
  eo 22 (.call 49 [(.t 20), (.t 21)]) <|
  qo 23 (.mv (.t 1)) <|
  eo 24 (.call 79 [(.t 22), (.t 23)]) <|
  qo 25 (.nt (.t 24)) <|
  .nil) (.t 25) <|
  .nil)
  (.prune [26, 13, 12, 2, 1] (.cond (.t 26)
  (.seq (.ops <|
  qo 4 (.mv (B false)) <|
  .nil)
  .ret)
  .skip)))))
  (.prune [13, 12, 2, 1] (.ops <|
  qo 27 (.ar .add (.t 13) (I 1)) <|
  qo 13 (.mv (.t 27)) <|
  .nil)))))
def j79_2 : JC :=
  (.prune [] (.seq (.ops <|
  qo 4 (.mv (B true)) <|
  .nil)
  .ret))
def j79 : JC :=
  (.seq (.ops <|
  eo 2 (.box 91 (.t 0)) <|
  qo 4 (.mv (B false)) <|
  .nil)
  (.seq (.seq (.ops <|
  qo 6 (.mv (.t 1)) <|
  eo 7 (.load 29 true (.t 2)) <|
  eo 8 (.callv (.t 6) [(.t 7)]) <|
  qo 9 (.nt (.t 8)) <|
  .nil)
  (.cond (.t 9)
  (.seq (.ops <|
  qo 4 (.mv (B false)) <|
  .nil)
  .ret)
  .skip))
  (.seq (.seq (.ops <|
  .prune [2, 1] <|
  qo 10 (.fa 0 0 (.t 2)) <|
  eo 11 (.load 1 false (.t 10)) <|
  qo 12 (.len (.t 11)) <|
  qo 13 (.mv (I 0)) <|
  .nil)
  (.prune [13, 12, 2, 1] (.block 0 (.loop [12, 2, 1] [13] j79_1))))
  j79_2)))
theorem c79 : fnIs Try.prog qall 79 = some (j79.flat, [.tmp 4], 28) := by kernel_rfl
theorem w79 : j79.wf 28 = true := by kernel_rfl

def j31_1 : JC :=
  (.seq (.ops <|
  qo 15 (.cmp .lss (.t 14) (.t 13)) <|
  .nil)
  (.seq (.cond (.t 15)
  .skip
  (.exit 0))
  (.seq (.block 1 (.seq (.ops <|
  qo 16 (.is 1 (.t 12) (.t 14)) <|
  eo 17 (.load 1 false (.t 16)) <|
  qo 6 (.mv (.t 17)) <|
  .nil)
  (.ops <|
  .prune [4, 6, 14, 13, 12] <|
  qo 18 (.mv (.t 4)) <|
  qo 19 (.mv (.t 6)) <|
  qo 20 (.len (.t 19)) <|
  qo 21 (.ar .add (.t 18) (.t 20)) <|
  qo 4 (.mv (.t 21)) <|
  .nil)))
  (.prune [14, 13, 12, 4] (.ops <|
  qo 22 (.ar .add (.t 14) (I 1)) <|
  qo 14 (.mv (.t 22)) <|
  .nil)))))
def j31_2 : JC :=
  (.prune [4] (.seq (.seq (.ops <|
  qo 23 (.mv (.t 4)) <|
  qo 24 (.cmp .gtr (.t 23) (I 10)) <|
  .nil)
  (.cond (.t 24)
  (.seq (.ops <|
  qo 2 (.mv (I 2)) <|
  .nil)
  .ret)
  .skip))
  (.seq (.ops <|
  qo 2 (.mv (I 0)) <|
  .nil)
  .ret)))
def j31 : JC :=
  (.seq (.ops <|
  qo 2 (.mv (I 0)) <|
  .nil)
  (.seq (.seq (.ops <|
  qo 7 (.mv (.t 0)) <|
  eo 8 (.call 47 [(.t 7)]) <|
  qo 3 (.mv (.t 8)) <|
  .nil)
  (.seq (.ops <|
  qo 9 (.mv (.t 3)) <|
  qo 10 (.cmp .neq (.t 9) (I 0)) <|
  .nil)
  (.cond (.t 10)
  (.seq (.ops <|
  qo 11 (.mv (.t 3)) <|
  qo 2 (.mv (.t 11)) <|
  .nil)
  .ret)
  .skip)))
  (.seq (.ops <|
  qo 4 (.mv (I 0)) <|
  .nil)
  (.seq (.seq (.ops <|
  .prune [0, 4] <|
  qo 12 (.mv (.t 0)) <|
  qo 13 (.len (.t 12)) <|
  qo 14 (.mv (I 0)) <|
  .nil)
  (.prune [14, 13, 12, 4] (.block 0 (.loop [13, 12] [14, 4] j31_1))))
  j31_2))))
theorem c31 : fnIs Try.prog qall 31 = some (j31.flat, [.tmp 2], 25) := by kernel_rfl
theorem w31 : j31.wf 25 = true := by kernel_rfl
structure GOK (p : List (List PO)) (ks : List Int) (g : Pg) : Prop where
  eq : g = runG p ks ks.length
  sum : sumAt p g.at' = ks.length
  z : gt g = ks
theorem runG_pre (p : List (List PO)) (ks r : List Int) : ∀ i, i ≤ ks.length → runG p (ks ++ r) i = runG p ks i
  | 0, _ => rfl
  | i + 1, h => by
    rw [runG, runG, runG_pre p ks r i (by omega)]
    congr 1
    simp [List.getD, List.getElem?_append_left (show i < ks.length by omega)]
theorem GOK.first {p : List (List PO)} (hp : progC badP p = 0) : GOK p [] (firstG p) := ⟨rfl, (root_ok hp).sum, rfl⟩
theorem GOK.all {p : List (List PO)} (hp : progC badP p = 0) {ks : List Int} {g : Pg} (h : GOK p ks g) : g.p = p ∧ Fit p g.at' ∧ (checkR (gl g)).2 = 0 ∧ (gl g).length ≤ ks.length := by
  obtain ⟨h1, h2, h3, _⟩ := runG_ok hp (picks := ks) ks.length
  have h4 := (run_same hp (picks := ks) ks.length).2
  rw [h.eq]
  exact ⟨h1, h2, by rw [h4]; exact Tp.run_ok hp ks ks.length, h3⟩
theorem GOK.step {p : List (List PO)} (hp : progC badP p = 0) {ks : List Int} {g : Pg} (h : GOK p ks g) {t : Nat} (hc : canG g t = true) : GOK p (ks ++ [(t : Int)]) (Rn.stepG g t (opG g t)) := by
  obtain ⟨a1, a2, _, _⟩ := h.all hp
  obtain ⟨n, e, h1, h2, h3⟩ := canG_some (by rw [a1]; exact a2) hc
  obtain rfl : t = n := by omega
  rw [a1] at h1 h3
  have h0 := a2.at0 t h1
  refine ⟨?_, ?_, ?_⟩
  · rw [List.length_append, List.length_singleton, runG, runG_pre p ks _ _ (Nat.le_refl _), ← h.eq]
    have : (ks ++ [(t : Int)]).getD ks.length 0 = (t : Int) := by simp [List.getD]
    rw [this, pickG, if_pos hc]; rfl
  · have := sum_upd g.at' t h0.1 p.length
    rw [if_pos h1] at this
    show sumAt p (Tr.upd g.at' t (g.at' t + 1)) = _
    rw [sumAt, this, List.length_append, ← h.sum]; rfl
  · show (some (gt g ++ [(t : Int)])).getD [] = _
    rw [h.z]; rfl
def Grc (f : FuncId) (a : List SV) (m : List Res) : Sx.Call := (FH.rd 47 (.one dProg) (.one .int) (fun _ => True) (fun y => progC badP y.1) FH.none) f a m
theorem Grc_eq (f : FuncId) (a : List SV) (m : List Res) : Grc f a m = (FH.rd 47 (.one dProg) (.one .int) (fun _ => True) (fun y => progC badP y.1) FH.none) f a m := nr rfl
theorem Grc_ok : FHOK Try.prog Grc := FH.rd_ok (by kernel_rfl) (fun y _ => by rw [progC_eq]; exact Pg.f_RCheck y.1) FH.none_ok
theorem f_REvCheck (p : List (List PO)) : FnOK Try.prog 31 [dProg.emb p] [] (.int .i64 (echF p)) [] := by
  refine fn_walkF c31 w31 Grc_ok rfl ?_
  unfold j31
  by_cases hp : progC badP p = 0
  · have e : echF p = if 10 < manyL p then 2 else 0 := by rw [echF, if_neg (by simp [hp])]
    rw [e]
    have h6 : p.length ≤ 6 := by
      unfold progC at hp
      split at hp
      · cases hp
      · omega
    simp only [go_sem, ↓reduceIte, Nat.reduceAdd, Nat.reduceMul, Nat.reduceSub, Nat.reduceLT, Nat.reduceLeDiff, Nat.reduceEqDiff, Int.reduceToNat, Int.reduceEq, Int.reduceLT, Int.reduceLE, reduceCtorEq, Grc_eq, hp]
    refine loopF Nat (fun i => [.int .i64 i, .int .i64 (manyL (p.take i))]) (fun i => []) (fun i => i ≤ p.length) (fun i => p.length - i) 0 (by omega) ?_ rfl ?_
    · simp only [go_sem, ↓reduceIte, Nat.reduceAdd, Nat.reduceMul, Nat.reduceSub, Nat.reduceLT, Nat.reduceLeDiff, Nat.reduceEqDiff, Int.reduceToNat, Int.reduceEq, Int.reduceLT, Int.reduceLE, reduceCtorEq]
      rfl
    intro i hi
    have hm := many_le hp i hi
    unfold j31_1
    simp only [go_sem, ↓reduceIte, Nat.reduceAdd, Nat.reduceMul, Nat.reduceSub, Nat.reduceLT, Nat.reduceLeDiff, Nat.reduceEqDiff, Int.reduceToNat, Int.reduceEq, Int.reduceLT, Int.reduceLE, reduceCtorEq]
    refine ⟨fun q => ?_, fun q => ?_⟩
    · have q' : i < p.length := by omega
      have hl := (good_of hp q').1
      refine ⟨⟨by omega, by omega⟩, i + 1, by omega, by omega, IntWalk.i64_in _ (by omega), ?_⟩
      rw [many_take p q']
      have : ((manyL (p.take i) : Nat) : Int) + ((p.getD i []).length : Int) = ((manyL (p.take i) + (p.getD i []).length : Nat) : Int) := by omega
      rw [this, IntWalk.i64_in _ (by omega)]
    · have : i = p.length := by omega
      subst this
      rw [List.take_length]
      unfold j31_2
      simp only [go_sem, ↓reduceIte, Nat.reduceAdd, Nat.reduceMul, Nat.reduceSub, Nat.reduceLT, Nat.reduceLeDiff, Nat.reduceEqDiff, Int.reduceToNat, Int.reduceEq, Int.reduceLT, Int.reduceLE, reduceCtorEq]
      exact ⟨fun h => by rw [if_pos (by omega)], fun h => by rw [if_neg (by omega)]⟩
  · have e : echF p = progC badP p := by rw [echF, if_pos hp]
    rw [e]
    simp only [go_sem, ↓reduceIte, Nat.reduceAdd, Nat.reduceMul, Nat.reduceSub, Nat.reduceLT, Nat.reduceLeDiff, Nat.reduceEqDiff, Int.reduceToNat, Int.reduceEq, Int.reduceLT, Int.reduceLE, reduceCtorEq, Grc_eq, hp]
end Go.Proofs.Ytgcbhanfhnianaa.Ev
end
section
set_option linter.unusedSimpArgs false
set_option linter.unusedVariables false
open Go Go.Sx Go.Proofs
namespace Go.Proofs.Ytgcbhanfhnianaa.Ev
open Go.Proofs.Ytgcbhanfhnianaa.D Go.Proofs.Ytgcbhanfhnianaa.Pg Go.Proofs.Ytgcbhanfhnianaa.Tr Go.Proofs.Ytgcbhanfhnianaa.Rn Go.Proofs.Ytgcbhanfhnianaa.Cp Go.Proofs.Ytgcbhanfhnianaa.Rc
theorem ech_ok {p : List (List PO)} (hc : echF p = 0) : progC badP p = 0 ∧ manyL p ≤ 10 := by
  have hp : progC badP p = 0 := by
    unfold echF at hc
    split at hc
    · exact absurd hc (by assumption)
    · rename_i h; simpa using h
  refine ⟨hp, ?_⟩
  unfold echF at hc
  rw [if_neg (by simp [hp])] at hc
  split at hc
  · cases hc
  · omega
abbrev Ks := List Int
/-! ### The two walks, by the picks -/
theorem run_pre (p : List (List PO)) (ks r : Ks) : ∀ i, i ≤ ks.length → runS p (ks ++ r) i = runS p ks i ∧ runE p (ks ++ r) i = runE p ks i
  | 0, _ => ⟨rfl, rfl⟩
  | i + 1, h => by
    obtain ⟨h1, h2⟩ := run_pre p ks r i (by omega)
    have e : (ks ++ r).getD i 0 = ks.getD i 0 := by simp [List.getD, List.getElem?_append_left (show i < ks.length by omega)]
    rw [runS, runS, runE, runE, h1, h2, e]
    exact ⟨rfl, rfl⟩
theorem run_snoc (p : List (List PO)) (ks : Ks) (t : Int) : runS p (ks ++ [t]) (ks ++ [t]).length = pickS p (runS p ks ks.length) t ∧ runE p (ks ++ [t]) (ks ++ [t]).length = runE p ks ks.length ++ pickE p (runS p ks ks.length) t := by
  have e : (ks ++ [t]).getD ks.length 0 = t := by simp [List.getD]
  obtain ⟨h1, h2⟩ := run_pre p ks [t] ks.length (Nat.le_refl _)
  rw [List.length_append, List.length_singleton, runS, runE, h1, h2, e]
  exact ⟨rfl, rfl⟩
end Go.Proofs.Ytgcbhanfhnianaa.Ev
end
