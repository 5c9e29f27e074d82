/- The reference of the guards. Conditions: none. -/
import Derived.Test.YtafcmgfmmlnngaaGuardC
import Derived.Test.YtafcmgfmmlnngaaTraceHR
set_option linter.unusedSimpArgs false
set_option linter.unusedVariables false
set_option maxRecDepth 100000
open Go Go.Sx Go.Proofs
namespace Go.Proofs.Ytafcmgfmmlnngaa.Gu
open Go.Proofs.Ytafcmgfmmlnngaa.D Go.Proofs.Ytafcmgfmmlnngaa.Tr
structure RG where
  g : Gs
  w : List Fl
  c : Nat → Int
def updG (g : Gs) (x : Nat) (a b c : Int) : Gs := ⟨fun k => if k = x then a else g.st k, fun k => if k = x then b else g.th k, fun k => if k = x then c else g.lk k⟩
def refG (s : RG) (i : Nat) (e : Ev) (locks : Int) : RG :=
  let x := e.obj.toNat
  let c : Nat → Int := fun k => if k = x then bitAnd .i64 (s.c x) locks else s.c k
  if s.g.st x = 0 then ⟨updG s.g x 1 e.thr 31, s.w, c⟩
  else if s.g.st x = 1 ∧ s.g.th x = e.thr then ⟨s.g, s.w, c⟩
  else
    let st := if e.kind = 2 ∨ s.g.st x = 3 then 3 else 2
    let lk := bitAnd .i64 (s.g.lk x) locks
    ⟨updG s.g x st (s.g.th x) lk, if st = 3 ∧ lk = 0 then s.w ++ [⟨i, e.obj, 0⟩] else s.w, c⟩
def g0 (n : Nat) : Gs := ⟨fun _ => 0, fun _ => 0, fun k => if k < n then 31 else 0⟩
def c0 (n : Nat) : Nat → Int := fun k => if k < n then 31 else 0
def RR (l : List Ev) : Nat → RG
  | 0 => ⟨g0 8, [], c0 8⟩
  | i + 1 => if 2 < (l.getD i dEv.dft).kind then RR l i else refG (RR l i) i (l.getD i dEv.dft) (rheld (l.take i) (l.getD i dEv.dft).thr 5)
theorem refG_len (s : RG) (i : Nat) (e : Ev) (locks : Int) : (refG s i e locks).w.length ≤ s.w.length + 1 := by
  simp only [refG]
  split
  · simp only; omega
  · split
    · simp only; omega
    · simp only
      generalize (if e.kind = 2 ∨ s.g.st e.obj.toNat = 3 then (3 : Int) else 2) = q
      split
      · simp
      · omega
theorem RR_len (l : List Ev) : ∀ i, (RR l i).w.length ≤ i
  | 0 => Nat.le_refl _
  | i + 1 => by
    have := RR_len l i
    simp only [RR]
    split
    · omega
    · have := refG_len (RR l i) i (l.getD i dEv.dft) (rheld (l.take i) (l.getD i dEv.dft).thr 5)
      omega
theorem ite_twice {p : Prop} [Decidable p] (a b c : Int) : (if p then a else if p then b else c) = if p then a else c := by split <;> rfl
theorem tszI8 : tsz Try.prog 24 = some (8, true) := by kernel_rfl
theorem g0_st {n k : Nat} : (if k = n then (g0 n).st n else (g0 n).st k) = (g0 (n + 1)).st k := by split <;> rfl
theorem g0_th {n k : Nat} : (if k = n then (g0 n).th n else (g0 n).th k) = (g0 (n + 1)).th k := by split <;> rfl
theorem c0_at {n k : Nat} : (if k = n then (31 : Int) else c0 n k) = c0 (n + 1) k := by
  simp only [c0]
  by_cases h : k = n
  · subst h; simp
  · simp [h, show (k < n + 1) ↔ k < n by omega]
theorem g0_lk {n k : Nat} : (if k = n then (31 : Int) else (g0 n).lk k) = (g0 (n + 1)).lk k := c0_at
def j22_1 : JC :=
  (.seq (.ops <|
  qo 14 (.cmp .lss (.t 13) (I 8)) <|
  .nil)
  (.seq (.cond (.t 14)
  .skip
  (.exit 0))
  (.seq (.block 1 (.seq (.ops <|
  qo 15 (.mv (.t 13)) <|
  qo 8 (.mv (.t 15)) <|
  .nil)
  (.prune [8, 5, 6, 13, 0, 7, 2, 4] (.ops <|
  qo 16 (.mv (.t 8)) <|
  qo 17 (.mv (.t 8)) <|
  qo 18 (.ia 8 3 (.t 5) (.t 16)) <|
  qo 19 (.fa 2 2 (.t 18)) <|
  .prune [19, 6, 17, 13, 5, 0, 7, 2, 4] <|
  en (.store 1 (.t 19) (I 31)) <|
  qo 20 (.ia 8 1 (.t 6) (.t 17)) <|
  en (.store 1 (.t 20) (I 31)) <|
  .nil))))
  (.prune [13, 5, 6, 0, 7, 2, 4] (.ops <|
  qo 21 (.ar .add (.t 13) (I 1)) <|
  qo 13 (.mv (.t 21)) <|
  .nil)))))
def j22_2 : JC :=
  (.seq (.ops <|
  qo 25 (.cmp .lss (.t 24) (.t 23)) <|
  .nil)
  (.prune [25, 24, 22, 23, 0, 6, 5, 7, 2, 4] (.seq (.cond (.t 25)
  .skip
  (.exit 2))
  (.prune [24, 22, 23, 0, 6, 5, 7, 2, 4] (.seq (.block 3 (.seq (.ops <|
  qo 26 (.mv (.t 24)) <|
  qo 27 (.is 3 (.t 22) (.t 24)) <|
  eo 28 (.load 3 true (.t 27)) <|
  eo 10 (.alloc 35 (.agg [(.int .i64 0), (.int .i64 0), (.int .i64 0)])) <|
  qo 9 (.mv (.t 26)) <|
  en (.store 3 (.t 10) (.t 28)) <|
  .nil)
  (.prune [10, 24, 23, 22, 0, 6, 5, 7, 2, 4, 9] (.seq (.seq (.ops <|
  qo 29 (.fa 0 0 (.t 10)) <|
  eo 30 (.load 1 false (.t 29)) <|
  qo 31 (.cmp .gtr (.t 30) (I 2)) <|
  .nil)
  (.cond (.t 31)
  (.exit 3)
  .skip))
  (.prune [0, 9, 10, 6, 5, 24, 23, 22, 7, 2, 4] (.seq (.dops <|
  qo 32 (.mv (.t 0)) <|
  qo 33 (.mv (.t 9)) <|
  qo 34 (.slc 3 (.t 32) none (some (.t 33)) none) <|
  qo 35 (.fa 1 1 (.t 10)) <|
  eo 36 (.load 1 false (.t 35)) <|
  .prune [34, 36, 10, 6, 5, 24, 23, 22, 0, 7, 2, 4, 9] <|
  eo 37 (.qcall 50 [(.t 34), (.t 36)]) <|
  qo 38 (.fa 2 2 (.t 10)) <|
  eo 39 (.load 1 false (.t 38)) <|
  qo 11 (.mv (.t 37)) <|
  qo 12 (.mv (.t 39)) <|
  .nil)
  (.prune [12, 6, 11, 5, 10, 24, 23, 22, 0, 7, 2, 4, 9] (.seq (.ops <|
  qo 40 (.mv (.t 12)) <|
  qo 41 (.ia 8 1 (.t 6) (.t 40)) <|
  eo 42 (.load 1 false (.t 41)) <|
  qo 43 (.mv (.t 11)) <|
  qo 44 (.ar .and (.t 42) (.t 43)) <|
  qo 45 (.ia 8 1 (.t 6) (.t 40)) <|
  en (.store 1 (.t 45) (.t 44)) <|
  .nil)
  (.prune [12, 5, 10, 24, 23, 22, 0, 6, 7, 2, 4, 11, 9] (.seq (.seq (.ops <|
  qo 46 (.mv (.t 12)) <|
  qo 47 (.ia 8 3 (.t 5) (.t 46)) <|
  qo 48 (.fa 0 0 (.t 47)) <|
  eo 49 (.load 1 false (.t 48)) <|
  qo 50 (.cmp .eql (.t 49) (I 0)) <|
  .nil)
  (.prune [50, 12, 10, 5, 24, 23, 22, 0, 6, 7, 2, 4, 11, 9] (.cond (.t 50)
  (.seq (.ops <|
  .prune [12, 10, 5, 24, 23, 22, 0, 6, 7, 2, 4] <|
  qo 51 (.mv (.t 12)) <|
  qo 52 (.fa 1 1 (.t 10)) <|
  eo 53 (.load 1 false (.t 52)) <|
  .prune [53, 5, 51, 24, 23, 22, 0, 6, 7, 2, 4] <|
  qo 54 (.bld (.agg [(.int .i64 0), (.int .i64 0), (.int .i64 0)]) [([.fld 0], 0, 1, (I 1)), ([.fld 1], 1, 1, (.t 53)), ([.fld 2], 2, 1, (I 31))]) <|
  qo 55 (.ia 8 3 (.t 5) (.t 51)) <|
  en (.store 3 (.t 55) (.t 54)) <|
  .nil)
  (.exit 3))
  .skip)))
  (.prune [12, 5, 10, 24, 23, 22, 0, 6, 7, 2, 4, 11, 9] (.seq (.seq (.dops <|
  qo 56 (.mv (.t 12)) <|
  qo 57 (.ia 8 3 (.t 5) (.t 56)) <|
  qo 58 (.fa 0 0 (.t 57)) <|
  eo 59 (.load 1 false (.t 58)) <|
  .prune [59, 12, 5, 10, 24, 23, 22, 0, 6, 7, 2, 4, 11, 9] <|
  qo 60 (.cmp .eql (.t 59) (I 1)) <|
  qo 61 (.mv (.t 60)) <|
  .sc false 69 61 (qo 62 (.mv (.t 12)) <|
  qo 63 (.ia 8 3 (.t 5) (.t 62)) <|
  qo 64 (.fa 1 1 (.t 63)) <|
  eo 65 (.load 1 false (.t 64)) <|
  qo 66 (.fa 1 1 (.t 10)) <|
  eo 67 (.load 1 false (.t 66)) <|
  qo 68 (.cmp .eql (.t 65) (.t 67)) <|
  .nil) (.t 68) <|
  .nil)
  (.cond (.t 69)
  (.exit 3)
  .skip))
  (.prune [12, 5, 11, 10, 7, 9, 24, 23, 22, 0, 6, 2, 4] (.seq (.ops <|
  qo 70 (.mv (.t 12)) <|
  qo 71 (.ia 8 3 (.t 5) (.t 70)) <|
  qo 72 (.fa 2 2 (.t 71)) <|
  eo 73 (.load 1 false (.t 72)) <|
  qo 74 (.mv (.t 11)) <|
  .prune [73, 74, 5, 70, 10, 12, 7, 9, 24, 23, 22, 0, 6, 2, 4] <|
  qo 75 (.ar .and (.t 73) (.t 74)) <|
  qo 76 (.ia 8 3 (.t 5) (.t 70)) <|
  qo 77 (.fa 2 2 (.t 76)) <|
  en (.store 1 (.t 77) (.t 75)) <|
  .nil)
  (.prune [10, 12, 5, 7, 9, 24, 23, 22, 0, 6, 2, 4] (.seq (.seq (.ops <|
  qo 78 (.fa 0 0 (.t 10)) <|
  eo 79 (.load 1 false (.t 78)) <|
  qo 80 (.cmp .eql (.t 79) (I 2)) <|
  .prune [80, 12, 5, 7, 9, 24, 23, 22, 0, 6, 2, 4] <|
  qo 81 (.mv (.t 80)) <|
  .sc true 87 81 (qo 82 (.mv (.t 12)) <|
  qo 83 (.ia 8 3 (.t 5) (.t 82)) <|
  qo 84 (.fa 0 0 (.t 83)) <|
  eo 85 (.load 1 false (.t 84)) <|
  qo 86 (.cmp .eql (.t 85) (I 3)) <|
  .nil) (.t 86) <|
  .nil)
  (.prune [87, 12, 5, 7, 9, 24, 23, 22, 0, 6, 2, 4] (.cond (.t 87)
  (.ops <|
  qo 88 (.mv (.t 12)) <|
  qo 89 (.ia 8 3 (.t 5) (.t 88)) <|
  qo 90 (.fa 0 0 (.t 89)) <|
  en (.store 1 (.t 90) (I 3)) <|
  .nil)
  (.ops <|
  qo 91 (.mv (.t 12)) <|
  qo 92 (.ia 8 3 (.t 5) (.t 91)) <|
  qo 93 (.fa 0 0 (.t 92)) <|
  en (.store 1 (.t 93) (I 2)) <|
  .nil))))
  (.prune [12, 5, 7, 9, 24, 23, 22, 0, 6, 2, 4] (.seq (.ops <|
  qo 94 (.mv (.t 12)) <|
  qo 95 (.ia 8 3 (.t 5) (.t 94)) <|
  qo 96 (.fa 0 0 (.t 95)) <|
  eo 97 (.load 1 false (.t 96)) <|
  .prune [97, 12, 5, 7, 9, 24, 23, 22, 0, 6, 2, 4] <|
  qo 98 (.cmp .eql (.t 97) (I 3)) <|
  qo 99 (.mv (.t 98)) <|
  .sc false 105 99 (qo 100 (.mv (.t 12)) <|
  qo 101 (.ia 8 3 (.t 5) (.t 100)) <|
  qo 102 (.fa 2 2 (.t 101)) <|
  eo 103 (.load 1 false (.t 102)) <|
  qo 104 (.cmp .eql (.t 103) (I 0)) <|
  .nil) (.t 104) <|
  .nil)
  (.prune [105, 7, 9, 12, 24, 23, 22, 0, 6, 5, 2, 4] (.cond (.t 105)
  (.ops <|
  qo 106 (.mv (.t 7)) <|
  qo 107 (.mv (.t 9)) <|
  .prune [12, 107, 106, 24, 23, 22, 0, 6, 5, 2, 4] <|
  qo 108 (.mv (.t 12)) <|
  qo 109 (.bld (.agg [(.int .i64 0), (.int .i64 0), (.int .i64 0)]) [([.fld 0], 0, 1, (.t 107)), ([.fld 1], 1, 1, (.t 108))]) <|
  .prune [109, 106, 24, 23, 22, 0, 6, 5, 2, 4] <|
  eo 110 (.bsl 60 3 1 (.agg [(.int .i64 0), (.int .i64 0), (.int .i64 0)]) [(0, (.t 109))]) <|
  eo 111 (.app 60 3 24 (.t 106) (.t 110)) <|
  qo 7 (.mv (.t 111)) <|
  .nil)
  .skip))))))))))))))))))))
  (.prune [24, 23, 22, 0, 6, 5, 7, 2, 4] (.ops <|
  qo 112 (.ar .add (.t 24) (I 1)) <|
  qo 24 (.mv (.t 112)) <|
  .nil)))))))
def j22_3 : JC :=
  (.prune [5, 7, 6, 2, 4] (.seq (.dops <|
  eo 113 (.load 24 true (.t 5)) <|
  qo 114 (.mv (.t 7)) <|
  eo 115 (.load 8 true (.t 6)) <|
  en (.store 24 (.t 2) (.t 113)) <|
  .prune [115, 6, 114, 4, 2] <|
  en (.again 8 true (.t 6) 115) <|
  qo 3 (.mv (.t 114)) <|
  en (.store 8 (.t 4) (.t 115)) <|
  .nil)
  (.vecs 3 60 3 .ret)))
def j22_4 : JC :=
  (.prune [0, 6, 5, 7, 2, 4] (.seq (.seq (.ops <|
  qo 22 (.mv (.t 0)) <|
  qo 23 (.len (.t 22)) <|
  qo 24 (.mv (I 0)) <|
  .nil)
  (.block 2 (.vecs 7 60 3 (.loop [23, 22, 0, 6, 5, 2, 4] [24, 7] j22_2))))
  j22_3))
def j22 : JC :=
  (.seq (.ops <|
  eo 2 (.alloc 40 (.arr 8 3 fun _ => (.agg [(.int .i64 0), (.int .i64 0), (.int .i64 0)]))) <|
  qo 3 (.mv (.c .nils)) <|
  eo 4 (.alloc 24 (.arr 8 1 fun _ => (.int .i64 0))) <|
  .nil)
  (.seq (.ops <|
  eo 5 (.alloc 40 (.arr 8 3 fun _ => (.agg [(.int .i64 0), (.int .i64 0), (.int .i64 0)]))) <|
  .nil)
  (.seq (.ops <|
  eo 6 (.alloc 24 (.arr 8 1 fun _ => (.int .i64 0))) <|
  .nil)
  (.seq (.ops <|
  qo 7 (.mv (.c .nils)) <|
  .nil)
  (.seq (.seq (.ops <|
  qo 13 (.mv (I 0)) <|
  .nil)
  (.block 0 (.loop [5, 6, 0, 7, 2, 4] [13] j22_1)))
  j22_4)))))
theorem c22 : fnIs Try.prog qall 22 = some (j22.flat, [.cell 2 40, .tmp 3, .cell 4 24], 116) := by kernel_rfl
theorem w22 : j22.wf 116 = true := by kernel_rfl
def Gh (f : FuncId) (a : List SV) (m : List Res) : Sx.Call := (FH.rd 50 (.two dEs .int) (.one .int) (fun _ => True) (fun y => ((rheld y.1 y.2.1 5 : Nat) : Int)) FH.none) f a m
theorem Gh_eq (f : FuncId) (a : List SV) (m : List Res) : Gh f a m = (FH.rd 50 (.two dEs .int) (.one .int) (fun _ => True) (fun y => ((rheld y.1 y.2.1 5 : Nat) : Int)) FH.none) f a m := nr rfl
theorem Gh_ok : FHOK Try.prog Gh := FH.rd_ok (by kernel_rfl) (fun y _ => f_RHeld y.1 y.2.1) FH.none_ok
abbrev dI8 : DT (Nat → Int) := DT.arr 8 1 DT.int
abbrev Mg (s : RG) : List Res := [.blk 40 (dGs.emb (g0 0)), .blk 24 (dI8.emb (c0 0)), .blk 40 (dGs.emb s.g), .blk 24 (dI8.emb s.c), .vec 60 3 (s.w.map dFl.emb)]
theorem f_RGuards (l : List Ev) (h : (checkR l).2 = 0) : FnOK Try.prog 22 [dEs.emb l] [] (.tup [dGs.emb (RR l l.length).g, .vec 0 (RR l l.length).w.length, dI8.emb (RR l l.length).c]) [.vec 60 3 ((RR l l.length).w.map dFl.emb)] := by
  refine fn_walkF c22 w22 Gh_ok rfl ?_
  unfold j22
  simp only [go_sem, ↓reduceIte, Nat.reduceAdd, Nat.reduceMul, Nat.reduceSub, Nat.reduceLT, Nat.reduceLeDiff, Nat.reduceEqDiff, Int.reduceToNat, Int.reduceEq, Int.reduceLT, Int.reduceLE, reduceCtorEq]
  refine loopF Nat (fun i => [.int .i64 i]) (fun i => [.blk 40 (dGs.emb (g0 0)), .blk 24 (dI8.emb (c0 0)), .blk 40 (dGs.emb (g0 i)), .blk 24 (dI8.emb (c0 i))]) (fun i => i ≤ 8) (fun i => 8 - i) 0 (by omega) ?_ ?_ ?_
  · simp only [go_sem, ↓reduceIte, Nat.reduceAdd, Nat.reduceMul, Nat.reduceSub, Nat.reduceLT, Nat.reduceLeDiff, Nat.reduceEqDiff, Int.reduceToNat, Int.reduceEq, Int.reduceLT, Int.reduceLE, reduceCtorEq]
  · simp only [go_sem, ↓reduceIte, Nat.reduceAdd, Nat.reduceMul, Nat.reduceSub, Nat.reduceLT, Nat.reduceLeDiff, Nat.reduceEqDiff, Int.reduceToNat, Int.reduceEq, Int.reduceLT, Int.reduceLE, reduceCtorEq, g0, c0]
  intro i hi
  by_cases h1 : i < 8
  · have h1' : (i : Int) < 8 := by omega
    have hw : IntKind.i64.wrap ((i : Int) + 1) = ((i + 1 : Nat) : Int) := IntWalk.i64_in _ (by omega)
    unfold j22_1
    simp only [go_sem, ↓reduceIte, Nat.reduceAdd, Nat.reduceMul, Nat.reduceSub, Nat.reduceLT, Nat.reduceLeDiff, Nat.reduceEqDiff, Int.reduceToNat, Int.reduceEq, Int.reduceLT, Int.reduceLE, reduceCtorEq, h1, h1', hw, upd_gs]
    exact ⟨by omega, by omega, i + 1, by omega, by omega, rfl, by simp only [g0_st, g0_th, g0_lk, c0_at]⟩
  have e8 : i = 8 := by omega
  subst e8
  unfold j22_1
  simp only [go_sem, ↓reduceIte, Nat.reduceAdd, Nat.reduceMul, Nat.reduceSub, Nat.reduceLT, Nat.reduceLeDiff, Nat.reduceEqDiff, Int.reduceToNat, Int.reduceEq, Int.reduceLT, Int.reduceLE, reduceCtorEq]
  unfold j22_4
  simp only [go_sem, ↓reduceIte, Nat.reduceAdd, Nat.reduceMul, Nat.reduceSub, Nat.reduceLT, Nat.reduceLeDiff, Nat.reduceEqDiff, Int.reduceToNat, Int.reduceEq, Int.reduceLT, Int.reduceLE, reduceCtorEq]
  refine loopF Nat (fun i => [.int .i64 i, .vec 4 (RR l i).w.length]) (fun i => Mg (RR l i)) (fun i => i ≤ l.length) (fun i => l.length - i) 0 (by omega) ?_ ?_ ?_
  · simp only [go_sem, ↓reduceIte, Nat.reduceAdd, Nat.reduceMul, Nat.reduceSub, Nat.reduceLT, Nat.reduceLeDiff, Nat.reduceEqDiff, Int.reduceToNat, Int.reduceEq, Int.reduceLT, Int.reduceLE, reduceCtorEq, RR]
  · simp only [go_sem, ↓reduceIte, Nat.reduceAdd, Nat.reduceMul, Nat.reduceSub, Nat.reduceLT, Nat.reduceLeDiff, Nat.reduceEqDiff, Int.reduceToNat, Int.reduceEq, Int.reduceLT, Int.reduceLE, reduceCtorEq, RR, Mg]
  intro i hi
  by_cases h1 : i < l.length
  · have h1' : (i : Int) < l.length := by omega
    have h8 := ok_len h
    have hw : IntKind.i64.wrap ((i : Int) + 1) = ((i + 1 : Nat) : Int) := IntWalk.i64_in _ (by omega)
    have hev := ok_isEv h i h1
    have hlen := RR_len l i
    by_cases hk : 2 < (l.getD i dEv.dft).kind
    · have hr : RR l (i + 1) = RR l i := by rw [RR, if_pos hk]
      unfold j22_2
      simp only [go_sem, ↓reduceIte, Nat.reduceAdd, Nat.reduceMul, Nat.reduceSub, Nat.reduceLT, Nat.reduceLeDiff, Nat.reduceEqDiff, Int.reduceToNat, Int.reduceEq, Int.reduceLT, Int.reduceLE, reduceCtorEq, Gh_eq, Mg, h1, h1', hw, hk]
      exact ⟨by omega, i + 1, by omega, by omega, ⟨rfl, by rw [hr]⟩, by rw [hr]⟩
    have hr : RR l (i + 1) = refG (RR l i) i (l.getD i dEv.dft) (rheld (l.take i) (l.getD i dEv.dft).thr 5) := by rw [RR, if_neg hk]
    generalize hs : RR l i = s at hr hlen ⊢
    generalize hE : l.getD i dEv.dft = e at *
    obtain ⟨b1, b2, b3, b4⟩ := (isEv_iff e).1 hev
    have b5 : e.obj < 8 := by
      unfold many at b4
      split at b4 <;> omega
    obtain ⟨x, hx, hx8⟩ : ∃ x : Nat, e.obj = x ∧ x < 8 := ⟨e.obj.toNat, by omega, by omega⟩
    obtain ⟨ek, et, eo⟩ := e
    simp only at hx hk b1 b2
    subst hx
    generalize hlk : (rheld (l.take i) et 5 : Nat) = lk at *
    by_cases k0 : s.g.st x = 0
    · have hr2 : RR l (i + 1) = ⟨updG s.g x 1 et 31, s.w, fun k => if k = x then bitAnd .i64 (s.c x) lk else s.c k⟩ := by
        rw [hr]; simp only [refG, Int.toNat_natCast, k0, if_true]
      unfold j22_2
      simp only [go_sem, ↓reduceIte, Nat.reduceAdd, Nat.reduceMul, Nat.reduceSub, Nat.reduceLT, Nat.reduceLeDiff, Nat.reduceEqDiff, Int.reduceToNat, Int.reduceEq, Int.reduceLT, Int.reduceLE, reduceCtorEq, Gh_eq, Mg, h1, h1', hw, hk, hE, hx8, k0, hlk, upd_gs]
      exact ⟨by omega, by omega, ⟨by omega, by omega⟩, ⟨by omega, by omega⟩, ⟨by omega, by omega⟩, ⟨by omega, by omega⟩, ⟨by omega, by omega⟩, i + 1, by omega, by omega, ⟨rfl, by rw [hr2]⟩, by rw [hr2]; simp only [go_sem, ↓reduceIte, Nat.reduceAdd, Nat.reduceMul, Nat.reduceSub, Nat.reduceLT, Nat.reduceLeDiff, Nat.reduceEqDiff, Int.reduceToNat, Int.reduceEq, Int.reduceLT, Int.reduceLE, reduceCtorEq, updG, ite_twice]⟩
    by_cases k1 : s.g.st x = 1 ∧ s.g.th x = et
    · have hr2 : RR l (i + 1) = ⟨s.g, s.w, fun k => if k = x then bitAnd .i64 (s.c x) lk else s.c k⟩ := by
        rw [hr]; simp only [refG, Int.toNat_natCast, k0, if_false, if_pos k1]
      obtain ⟨k1a, k1b⟩ := k1
      unfold j22_2
      simp only [go_sem, ↓reduceIte, Nat.reduceAdd, Nat.reduceMul, Nat.reduceSub, Nat.reduceLT, Nat.reduceLeDiff, Nat.reduceEqDiff, Int.reduceToNat, Int.reduceEq, Int.reduceLT, Int.reduceLE, reduceCtorEq, Gh_eq, Mg, h1, h1', hw, hk, hE, hx8, k0, k1a, k1b, hlk, upd_gs]
      exact ⟨by omega, by omega, ⟨by omega, by omega⟩, ⟨by omega, by omega⟩, ⟨by omega, by omega⟩, ⟨by omega, by omega⟩, ⟨by omega, by omega⟩, ⟨by omega, by omega⟩, i + 1, by omega, by omega, ⟨rfl, by rw [hr2]⟩, by rw [hr2]⟩
    have hb : (decide (s.g.st x = 1) && decide (s.g.th x = et)) = false := by
      simp only [Bool.and_eq_false_iff, decide_eq_false_iff_not]
      by_cases q : s.g.st x = 1
      · exact .inr fun q2 => k1 ⟨q, q2⟩
      · exact .inl q
    have hr2 : RR l (i + 1) = ⟨updG s.g x (if ek = 2 ∨ s.g.st x = 3 then 3 else 2) (s.g.th x) (bitAnd .i64 (s.g.lk x) lk), if (if ek = 2 ∨ s.g.st x = 3 then (3 : Int) else 2) = 3 ∧ bitAnd .i64 (s.g.lk x) lk = 0 then s.w ++ [⟨i, x, 0⟩] else s.w, fun k => if k = x then bitAnd .i64 (s.c x) lk else s.c k⟩ := by
      rw [hr]; simp only [refG, Int.toNat_natCast, k0, if_false, if_neg k1]
    by_cases k2 : ek = 2
    · rw [if_pos (.inl k2)] at hr2
      unfold j22_2
      simp only [go_sem, ↓reduceIte, Nat.reduceAdd, Nat.reduceMul, Nat.reduceSub, Nat.reduceLT, Nat.reduceLeDiff, Nat.reduceEqDiff, Int.reduceToNat, Int.reduceEq, Int.reduceLT, Int.reduceLE, reduceCtorEq, Gh_eq, Mg, h1, h1', hw, hk, hE, hx8, k0, hb, k2, hlk, upd_gs]
      refine ⟨by omega, by omega, ⟨by omega, by omega⟩, ⟨by omega, by omega⟩, ⟨by omega, by omega⟩, ⟨by omega, by omega⟩, ⟨by omega, by omega⟩, fun _ => ⟨by omega, by omega⟩, ⟨by omega, by omega⟩, ⟨by omega, by omega⟩, ⟨by omega, by omega⟩, ⟨by omega, by omega⟩, ⟨by omega, by omega⟩, ⟨fun hz => ?_, fun hz => ?_⟩⟩
      · rw [if_pos ⟨rfl, hz⟩] at hr2
        refine ⟨by omega, i + 1, by omega, by omega, ⟨rfl, by rw [hr2, List.length_append]; rfl⟩, ?_⟩
        rw [hr2]
        simp only [go_sem, ↓reduceIte, Nat.reduceAdd, Nat.reduceMul, Nat.reduceSub, Nat.reduceLT, Nat.reduceLeDiff, Nat.reduceEqDiff, Int.reduceToNat, Int.reduceEq, Int.reduceLT, Int.reduceLE, reduceCtorEq, updG, ite_twice]
      · rw [if_neg (fun q => hz q.2)] at hr2
        exact ⟨i + 1, by omega, by omega, ⟨rfl, by rw [hr2]⟩, by rw [hr2]; simp only [go_sem, ↓reduceIte, Nat.reduceAdd, Nat.reduceMul, Nat.reduceSub, Nat.reduceLT, Nat.reduceLeDiff, Nat.reduceEqDiff, Int.reduceToNat, Int.reduceEq, Int.reduceLT, Int.reduceLE, reduceCtorEq, updG, ite_twice]⟩
    by_cases k3 : s.g.st x = 3
    · rw [if_pos (.inr k3)] at hr2
      unfold j22_2
      simp only [go_sem, ↓reduceIte, Nat.reduceAdd, Nat.reduceMul, Nat.reduceSub, Nat.reduceLT, Nat.reduceLeDiff, Nat.reduceEqDiff, Int.reduceToNat, Int.reduceEq, Int.reduceLT, Int.reduceLE, reduceCtorEq, Gh_eq, Mg, h1, h1', hw, hk, hE, hx8, k0, hb, k2, k3, hlk, upd_gs]
      refine ⟨by omega, by omega, ⟨by omega, by omega⟩, ⟨by omega, by omega⟩, ⟨by omega, by omega⟩, ⟨by omega, by omega⟩, ⟨by omega, by omega⟩, ⟨by omega, by omega⟩, ⟨by omega, by omega⟩, ⟨by omega, by omega⟩, ⟨by omega, by omega⟩, ⟨by omega, by omega⟩, ⟨by omega, by omega⟩, ⟨fun hz => ?_, fun hz => ?_⟩⟩
      · rw [if_pos ⟨rfl, hz⟩] at hr2
        refine ⟨by omega, i + 1, by omega, by omega, ⟨rfl, by rw [hr2, List.length_append]; rfl⟩, ?_⟩
        rw [hr2]
        simp only [go_sem, ↓reduceIte, Nat.reduceAdd, Nat.reduceMul, Nat.reduceSub, Nat.reduceLT, Nat.reduceLeDiff, Nat.reduceEqDiff, Int.reduceToNat, Int.reduceEq, Int.reduceLT, Int.reduceLE, reduceCtorEq, updG, ite_twice]
      · rw [if_neg (fun q => hz q.2)] at hr2
        exact ⟨i + 1, by omega, by omega, ⟨rfl, by rw [hr2]⟩, by rw [hr2]; simp only [go_sem, ↓reduceIte, Nat.reduceAdd, Nat.reduceMul, Nat.reduceSub, Nat.reduceLT, Nat.reduceLeDiff, Nat.reduceEqDiff, Int.reduceToNat, Int.reduceEq, Int.reduceLT, Int.reduceLE, reduceCtorEq, updG, ite_twice]⟩
    · rw [if_neg (fun q => q.elim k2 k3), if_neg (fun q => absurd q.1 (by decide))] at hr2
      unfold j22_2
      simp only [go_sem, ↓reduceIte, Nat.reduceAdd, Nat.reduceMul, Nat.reduceSub, Nat.reduceLT, Nat.reduceLeDiff, Nat.reduceEqDiff, Int.reduceToNat, Int.reduceEq, Int.reduceLT, Int.reduceLE, reduceCtorEq, Gh_eq, Mg, h1, h1', hw, hk, hE, hx8, k0, hb, k2, k3, hlk, upd_gs]
      exact ⟨by omega, by omega, ⟨by omega, by omega⟩, ⟨by omega, by omega⟩, ⟨by omega, by omega⟩, ⟨by omega, by omega⟩, ⟨by omega, by omega⟩, fun _ => ⟨by omega, by omega⟩, ⟨by omega, by omega⟩, ⟨by omega, by omega⟩, ⟨by omega, by omega⟩, ⟨by omega, by omega⟩, ⟨by omega, by omega⟩, i + 1, by omega, by omega, ⟨rfl, by rw [hr2]⟩, by rw [hr2]; simp only [go_sem, ↓reduceIte, Nat.reduceAdd, Nat.reduceMul, Nat.reduceSub, Nat.reduceLT, Nat.reduceLeDiff, Nat.reduceEqDiff, Int.reduceToNat, Int.reduceEq, Int.reduceLT, Int.reduceLE, reduceCtorEq, updG, ite_twice]⟩
  · have h1' : ¬ (i : Int) < l.length := by omega
    have e : i = l.length := by omega
    unfold j22_2
    simp only [go_sem, ↓reduceIte, Nat.reduceAdd, Nat.reduceMul, Nat.reduceSub, Nat.reduceLT, Nat.reduceLeDiff, Nat.reduceEqDiff, Int.reduceToNat, Int.reduceEq, Int.reduceLT, Int.reduceLE, reduceCtorEq, Mg, h1']
    subst e
    unfold j22_3
    simp only [go_sem, ↓reduceIte, Nat.reduceAdd, Nat.reduceMul, Nat.reduceSub, Nat.reduceLT, Nat.reduceLeDiff, Nat.reduceEqDiff, Int.reduceToNat, Int.reduceEq, Int.reduceLT, Int.reduceLE, reduceCtorEq, tszGs, tszI8]
end Go.Proofs.Ytafcmgfmmlnngaa.Gu
