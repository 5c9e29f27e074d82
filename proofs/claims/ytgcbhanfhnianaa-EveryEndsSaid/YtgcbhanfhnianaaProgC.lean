/- prog.Check and its reference. Conditions: none. -/
import Derived.Test.YtgcbhanfhnianaaBase
import Derived.Test.YtgcbhanfhnianaaRows
import Derived.WalkKit
set_option linter.unusedSimpArgs false
set_option linter.unusedVariables false
set_option maxRecDepth 100000
open Go Go.Sx Go.Proofs
namespace Go.Proofs.Ytgcbhanfhnianaa.Pg
open Go.Proofs.Ytgcbhanfhnianaa.D

def j51 : JC :=
  (.seq (.ops <|
  qo 2 (.mv (I 0)) <|
  .nil)
  (.seq (.ops <|
  qo 4 (.bld (.arr 10 1 fun _ => (.int .i64 0)) [([.idx 1 10], 1, 1, (I 8)), ([.idx 2 10], 2, 1, (I 8)), ([.idx 3 10], 3, 1, (I 1)), ([.idx 4 10], 4, 1, (I 5)), ([.idx 5 10], 5, 1, (I 5)), ([.idx 6 10], 6, 1, (I 6)), ([.idx 7 10], 7, 1, (I 6)), ([.idx 8 10], 8, 1, (I 4)), ([.idx 9 10], 9, 1, (I 4))]) <|
  eo 3 (.alloc 158 (.arr 10 1 fun _ => (.int .i64 0))) <|
  en (.store 10 (.t 3) (.t 4)) <|
  .nil)
  (.seq (.seq (.ops <|
  qo 5 (.mv (.t 0)) <|
  qo 6 (.cmp .lss (.t 5) (I 1)) <|
  qo 7 (.mv (.t 6)) <|
  .prune [7, 0, 3] <|
  .sc true 10 7 (qo 8 (.mv (.t 0)) <|
  qo 9 (.cmp .geq (.t 8) (I 10)) <|
  .nil) (.t 9) <|
  .nil)
  (.prune [10, 0, 3] (.cond (.t 10)
  (.seq (.ops <|
  qo 2 (.mv (I (-1))) <|
  .nil)
  .ret)
  .skip)))
  (.prune [0, 3] (.seq (.ops <|
  qo 11 (.mv (.t 0)) <|
  qo 12 (.ia 10 1 (.t 3) (.t 11)) <|
  eo 13 (.load 1 false (.t 12)) <|
  qo 2 (.mv (.t 13)) <|
  .nil)
  .ret)))))
theorem c51 : fnIs Try.prog qall 51 = some (j51.flat, [.tmp 2], 14) := by kernel_rfl
theorem w51 : j51.wf 14 = true := by kernel_rfl
def j15_1 : JC :=
  (.seq (.ops <|
  qo 21 (.cmp .lss (.t 20) (.t 19)) <|
  .nil)
  (.seq (.cond (.t 21)
  .skip
  (.exit 0))
  (.seq (.block 1 (.seq (.ops <|
  qo 22 (.is 1 (.t 18) (.t 20)) <|
  eo 23 (.load 1 false (.t 22)) <|
  qo 4 (.mv (.t 23)) <|
  .nil)
  (.seq (.ops <|
  .prune [4, 20, 19, 18, 0] <|
  qo 24 (.mv (.t 4)) <|
  qo 25 (.len (.t 24)) <|
  qo 26 (.cmp .gtr (.t 25) (I 12)) <|
  .nil)
  (.prune [26, 20, 19, 18, 0] (.cond (.t 26)
  (.seq (.ops <|
  qo 2 (.mv (I 2)) <|
  .nil)
  .ret)
  .skip)))))
  (.prune [20, 19, 18, 0] (.ops <|
  qo 27 (.ar .add (.t 20) (I 1)) <|
  qo 20 (.mv (.t 27)) <|
  .nil)))))
def j15_2 : JC :=
  (.seq (.ops <|
  qo 37 (.cmp .lss (.t 36) (.t 35)) <|
  .nil)
  (.seq (.cond (.t 37)
  .skip
  (.exit 4))
  (.seq (.block 5 (.seq (.ops <|
  qo 38 (.is 3 (.t 34) (.t 36)) <|
  eo 39 (.load 3 true (.t 38)) <|
  eo 8 (.alloc 97 (.agg [(.int .i64 0), (.int .i64 0), (.int .i64 0)])) <|
  en (.store 3 (.t 8) (.t 39)) <|
  .nil)
  (.prune [8, 36, 35, 34, 30, 29, 28] (.seq (.ops <|
  qo 9 (.mv (I 0)) <|
  .nil)
  (.seq (.seq (.ops <|
  qo 40 (.fa 0 0 (.t 8)) <|
  eo 41 (.load 1 false (.t 40)) <|
  qo 42 (.cmp .eql (.t 41) (I 3)) <|
  .nil)
  (.prune [42, 8, 36, 35, 34, 30, 29, 28, 9] (.cond (.t 42)
  (.ops <|
  qo 9 (.mv (I 1000)) <|
  .nil)
  .skip)))
  (.prune [8, 9, 36, 35, 34, 30, 29, 28] (.seq (.dops <|
  qo 43 (.fa 1 1 (.t 8)) <|
  eo 44 (.load 1 false (.t 43)) <|
  qo 45 (.cmp .lss (.t 44) (I 0)) <|
  qo 46 (.mv (.t 45)) <|
  .prune [46, 8, 9, 36, 35, 34, 30, 29, 28] <|
  .sc true 53 46 (qo 47 (.fa 1 1 (.t 8)) <|
  eo 48 (.load 1 false (.t 47)) <|
  qo 49 (.fa 0 0 (.t 8)) <|
  eo 50 (.load 1 false (.t 49)) <|
  eo 51 (.qcall 51 [(.t 50)]) <|
  qo 52 (.cmp .geq (.t 48) (.t 51)) <|
  .nil) (.t 52) <|
  qo 54 (.mv (.t 53)) <|
  .sc true 60 54 (qo 55 (.fa 2 2 (.t 8)) <|
  eo 56 (.load 1 false (.t 55)) <|
  qo 57 (.mv (.t 9)) <|
  qo 58 (.neg (.t 57)) <|
  qo 59 (.cmp .lss (.t 56) (.t 58)) <|
  .nil) (.t 59) <|
  .prune [60, 8, 9, 36, 35, 34, 30, 29, 28] <|
  qo 61 (.mv (.t 60)) <|
  .sc true 66 61 (qo 62 (.fa 2 2 (.t 8)) <|
  eo 63 (.load 1 false (.t 62)) <|
  qo 64 (.mv (.t 9)) <|
  qo 65 (.cmp .gtr (.t 63) (.t 64)) <|
  .nil) (.t 65) <|
  .nil)
  (.prune [66, 36, 35, 34, 30, 29, 28] (.cond (.t 66)
  (.seq (.ops <|
  qo 2 (.mv (I 1)) <|
  .nil)
  .ret)
  .skip)))))))))
  (.prune [36, 35, 34, 30, 29, 28] (.ops <|
  qo 67 (.ar .add (.t 36) (I 1)) <|
  qo 36 (.mv (.t 67)) <|
  .nil)))))
def j15_3 : JC :=
  (.prune [30, 29, 28] (.ops <|
  qo 68 (.ar .add (.t 30) (I 1)) <|
  qo 30 (.mv (.t 68)) <|
  .nil))
def j15_4 : JC :=
  (.seq (.ops <|
  qo 31 (.cmp .lss (.t 30) (.t 29)) <|
  .nil)
  (.seq (.cond (.t 31)
  .skip
  (.exit 2))
  (.seq (.block 3 (.seq (.ops <|
  qo 32 (.is 1 (.t 28) (.t 30)) <|
  eo 33 (.load 1 false (.t 32)) <|
  qo 6 (.mv (.t 33)) <|
  .nil)
  (.seq (.ops <|
  .prune [6, 30, 29, 28] <|
  qo 34 (.mv (.t 6)) <|
  qo 35 (.len (.t 34)) <|
  qo 36 (.mv (I 0)) <|
  .nil)
  (.prune [36, 35, 34, 30, 29, 28] (.block 4 (.loop [35, 34, 30, 29, 28] [36] j15_2))))))
  j15_3)))
def j15_5 : JC :=
  (.prune [] (.seq (.ops <|
  qo 2 (.mv (I 0)) <|
  .nil)
  .ret))
def j15_6 : JC :=
  (.prune [0] (.seq (.seq (.ops <|
  qo 28 (.mv (.t 0)) <|
  qo 29 (.len (.t 28)) <|
  qo 30 (.mv (I 0)) <|
  .nil)
  (.block 2 (.loop [29, 28] [30] j15_4)))
  j15_5))
def j15 : JC :=
  (.seq (.ops <|
  qo 2 (.mv (I 0)) <|
  .nil)
  (.seq (.seq (.ops <|
  qo 10 (.mv (.t 0)) <|
  qo 11 (.len (.t 10)) <|
  qo 12 (.cmp .lss (.t 11) (I 1)) <|
  qo 13 (.mv (.t 12)) <|
  .sc true 17 13 (qo 14 (.mv (.t 0)) <|
  qo 15 (.len (.t 14)) <|
  qo 16 (.cmp .gtr (.t 15) (I 6)) <|
  .nil) (.t 16) <|
  .nil)
  (.cond (.t 17)
  (.seq (.ops <|
  qo 2 (.mv (I 2)) <|
  .nil)
  .ret)
  .skip))
  (.prune [0] (.seq (.seq (.ops <|
  qo 18 (.mv (.t 0)) <|
  qo 19 (.len (.t 18)) <|
  qo 20 (.mv (I 0)) <|
  .nil)
  (.block 0 (.loop [19, 18, 0] [20] j15_1)))
  j15_6))))
theorem c15 : fnIs Try.prog qall 15 = some (j15.flat, [.tmp 2], 69) := by kernel_rfl
theorem w15 : j15.wf 69 = true := by kernel_rfl

def j91 : JC :=
  (.seq (.ops <|
  qo 6 (.mv (B false)) <|
  .nil)
  (.seq (.ops <|
  qo 7 (.mv (.t 0)) <|
  qo 8 (.mv (.t 1)) <|
  qo 9 (.cmp .lss (.t 7) (.t 8)) <|
  qo 10 (.mv (.t 9)) <|
  .sc true 14 10 (qo 11 (.mv (.t 0)) <|
  qo 12 (.mv (.t 2)) <|
  qo 13 (.cmp .gtr (.t 11) (.t 12)) <|
  .nil) (.t 13) <|
  qo 6 (.mv (.t 14)) <|
  .nil)
  .ret))
theorem c91 : fnIs Try.prog qall 91 = some (j91.flat, [.tmp 6], 15) := by kernel_rfl
theorem w91 : j91.wf 15 = true := by kernel_rfl
def j47_1 : JC :=
  (.seq (.ops <|
  qo 15 (.cmp .lss (.t 14) (.t 13)) <|
  .nil)
  (.seq (.cond (.t 15)
  .skip
  (.exit 0))
  (.seq (.block 1 (.seq (.ops <|
  qo 16 (.is 1 (.t 12) (.t 14)) <|
  eo 17 (.load 1 false (.t 16)) <|
  qo 4 (.mv (.t 17)) <|
  .nil)
  (.seq (.ops <|
  .prune [4, 14, 13, 12, 0] <|
  qo 18 (.mv (.t 4)) <|
  qo 19 (.len (.t 18)) <|
  qo 20 (.cmp .gtr (.t 19) (I 12)) <|
  .nil)
  (.prune [20, 14, 13, 12, 0] (.cond (.t 20)
  (.seq (.ops <|
  qo 2 (.mv (I 2)) <|
  .nil)
  .ret)
  .skip)))))
  (.prune [14, 13, 12, 0] (.ops <|
  qo 21 (.ar .add (.t 14) (I 1)) <|
  qo 14 (.mv (.t 21)) <|
  .nil)))))
def j47_2 : JC :=
  (.seq (.ops <|
  qo 31 (.cmp .lss (.t 30) (.t 29)) <|
  .nil)
  (.seq (.cond (.t 31)
  .skip
  (.exit 4))
  (.seq (.block 5 (.seq (.ops <|
  qo 32 (.is 3 (.t 28) (.t 30)) <|
  eo 33 (.load 3 true (.t 32)) <|
  eo 8 (.alloc 97 (.agg [(.int .i64 0), (.int .i64 0), (.int .i64 0)])) <|
  en (.store 3 (.t 8) (.t 33)) <|
  .nil)
  (.prune [8, 30, 29, 28, 24, 23, 22] (.seq (.dops <|
  qo 34 (.fa 0 0 (.t 8)) <|
  eo 35 (.load 1 false (.t 34)) <|
  eo 36 (.qcall 91 [(.t 35), (I 1), (I 9)]) <|
  qo 37 (.mv (.t 36)) <|
  .prune [37, 8, 30, 29, 28, 24, 23, 22] <|
  .sc true 47 37 (qo 38 (.fa 1 1 (.t 8)) <|
  eo 39 (.load 1 false (.t 38)) <|
  eo 40 (.qtab [7, 7, 0, 4, 4, 5, 5, 3, 3]) <|
  qo 41 (.fa 0 0 (.t 8)) <|
  eo 42 (.load 1 false (.t 41)) <|
  qo 43 (.ar .sub (.t 42) (I 1)) <|
  qo 44 (.is 1 (.t 40) (.t 43)) <|
  eo 45 (.load 1 false (.t 44)) <|
  eo 46 (.qcall 91 [(.t 39), (I 0), (.t 45)]) <|
  .nil) (.t 46) <|
  qo 48 (.mv (.t 47)) <|
  .sc true 57 48 (qo 49 (.fa 0 0 (.t 8)) <|
  eo 50 (.load 1 false (.t 49)) <|
  qo 51 (.cmp .neq (.t 50) (I 3)) <|
  qo 52 (.mv (.t 51)) <|
  .sc false 56 52 (qo 53 (.fa 2 2 (.t 8)) <|
  eo 54 (.load 1 false (.t 53)) <|
  qo 55 (.cmp .neq (.t 54) (I 0)) <|
  .nil) (.t 55) <|
  .nil) (.t 56) <|
  .prune [57, 8, 30, 29, 28, 24, 23, 22] <|
  qo 58 (.mv (.t 57)) <|
  .sc true 62 58 (qo 59 (.fa 2 2 (.t 8)) <|
  eo 60 (.load 1 false (.t 59)) <|
  eo 61 (.qcall 91 [(.t 60), (I (-1000)), (I 1000)]) <|
  .nil) (.t 61) <|
  .nil)
  (.prune [62, 30, 29, 28, 24, 23, 22] (.cond (.t 62)
  (.seq (.ops <|
  qo 2 (.mv (I 1)) <|
  .nil)
  .ret)
  .skip))))))
  (.prune [30, 29, 28, 24, 23, 22] (.ops <|
  qo 63 (.ar .add (.t 30) (I 1)) <|
  qo 30 (.mv (.t 63)) <|
  .nil)))))
def j47_3 : JC :=
  (.prune [24, 23, 22] (.ops <|
  qo 64 (.ar .add (.t 24) (I 1)) <|
  qo 24 (.mv (.t 64)) <|
  .nil))
def j47_4 : JC :=
  (.seq (.ops <|
  qo 25 (.cmp .lss (.t 24) (.t 23)) <|
  .nil)
  (.seq (.cond (.t 25)
  .skip
  (.exit 2))
  (.seq (.block 3 (.seq (.ops <|
  qo 26 (.is 1 (.t 22) (.t 24)) <|
  eo 27 (.load 1 false (.t 26)) <|
  qo 6 (.mv (.t 27)) <|
  .nil)
  (.seq (.ops <|
  .prune [6, 24, 23, 22] <|
  qo 28 (.mv (.t 6)) <|
  qo 29 (.len (.t 28)) <|
  qo 30 (.mv (I 0)) <|
  .nil)
  (.prune [30, 29, 28, 24, 23, 22] (.block 4 (.loop [29, 28, 24, 23, 22] [30] j47_2))))))
  j47_3)))
def j47_5 : JC :=
  (.prune [] (.seq (.ops <|
  qo 2 (.mv (I 0)) <|
  .nil)
  .ret))
def j47_6 : JC :=
  (.prune [0] (.seq (.seq (.ops <|
  qo 22 (.mv (.t 0)) <|
  qo 23 (.len (.t 22)) <|
  qo 24 (.mv (I 0)) <|
  .nil)
  (.block 2 (.loop [23, 22] [24] j47_4)))
  j47_5))
def j47 : JC :=
  (.seq (.ops <|
  qo 2 (.mv (I 0)) <|
  .nil)
  (.seq (.seq (.ops <|
  qo 9 (.mv (.t 0)) <|
  qo 10 (.len (.t 9)) <|
  eo 11 (.call 91 [(.t 10), (I 1), (I 6)]) <|
  .nil)
  (.cond (.t 11)
  (.seq (.ops <|
  qo 2 (.mv (I 2)) <|
  .nil)
  .ret)
  .skip))
  (.seq (.seq (.ops <|
  qo 12 (.mv (.t 0)) <|
  qo 13 (.len (.t 12)) <|
  qo 14 (.mv (I 0)) <|
  .nil)
  (.block 0 (.loop [13, 12, 0] [14] j47_1)))
  j47_6)))
theorem c47 : fnIs Try.prog qall 47 = some (j47.flat, [.tmp 2], 65) := by kernel_rfl
theorem w47 : j47.wf 65 = true := by kernel_rfl
def outB (n lo hi : Int) : Bool := decide (n < lo) || decide (hi < n)
theorem f_outside (n lo hi : Int) : FnOK Try.prog 91 [.int .i64 n, .int .i64 lo, .int .i64 hi] [] (.bool (outB n lo hi)) [] := by
  refine fn_walkF c91 w91 FH.none_ok rfl ?_
  unfold j91
  simp only [go_sem, ↓reduceIte, Nat.reduceAdd, Nat.reduceMul, Nat.reduceSub, Nat.reduceLT, Nat.reduceLeDiff, Nat.reduceEqDiff, Int.reduceToNat, Int.reduceEq, Int.reduceLT, Int.reduceLE, reduceCtorEq]
  rfl
def bnd (k : Int) : Int := if 1 ≤ k ∧ k < 10 then ([0, 8, 8, 1, 5, 5, 6, 6, 4, 4] : List Int).getD k.toNat 0 else -1
theorem f_bound (k : Int) : FnOK Try.prog 51 [.int .i64 k] [] (.int .i64 (bnd k)) [] := by
  refine fn_walkF c51 w51 FH.none_ok rfl ?_
  unfold j51
  simp only [go_sem, ↓reduceIte, Nat.reduceAdd, Nat.reduceMul, Nat.reduceSub, Nat.reduceLT, Nat.reduceLeDiff, Nat.reduceEqDiff, Int.reduceToNat, Int.reduceEq, Int.reduceLT, Int.reduceLE, reduceCtorEq]
  refine ⟨fun h => ?_, fun h => ?_⟩
  · simp only [Bool.or_eq_true, decide_eq_true_eq] at h
    rw [bnd, if_neg (by omega)]
  · simp only [Bool.or_eq_false_iff, decide_eq_false_iff_not] at h
    rcases (show k = 1 ∨ k = 2 ∨ k = 3 ∨ k = 4 ∨ k = 5 ∨ k = 6 ∨ k = 7 ∨ k = 8 ∨ k = 9 by omega) with h | h | h | h | h | h | h | h | h <;> subst h <;> decide
def most (o : PO) : Int := if o.kind = 3 then 1000 else 0
def badP (o : PO) : Bool := decide (o.obj < 0) || decide (bnd o.kind ≤ o.obj) || decide (o.n < IntKind.i64.wrap (0 - most o)) || decide (most o < o.n)
def tabR : List Int := [7, 7, 0, 4, 4, 5, 5, 3, 3]
def badR (o : PO) : Bool := outB o.kind 1 9 || outB o.obj 0 (tabR.getD (IntKind.i64.wrap (o.kind - 1)).toNat 0) || (!decide (o.kind = 3) && !decide (o.n = 0)) || outB o.n (-1000) 1000
def progC (bad : PO → Bool) (p : List (List PO)) : Int := if p.length < 1 ∨ 6 < p.length then 2 else if p.any (fun o => decide (12 < o.length)) then 2 else if p.any (fun o => o.any bad) then 1 else 0
def Gb (f : FuncId) (a : List SV) (m : List Res) : Sx.Call := (FH.rd 51 (.one .int) (.one .int) (fun _ => True) (fun y => bnd y.1) FH.none) f a m
theorem Gb_eq (f : FuncId) (a : List SV) (m : List Res) : Gb f a m = (FH.rd 51 (.one .int) (.one .int) (fun _ => True) (fun y => bnd y.1) FH.none) f a m := nr rfl
theorem Gb_ok : FHOK Try.prog Gb := FH.rd_ok (by kernel_rfl) (fun y _ => f_bound y.1) FH.none_ok
def Go (f : FuncId) (a : List SV) (m : List Res) : Sx.Call := (FH.rd 91 (.three .int .int .int) (.one .bool) (fun _ => True) (fun y => outB y.1 y.2.1 y.2.2.1) FH.none) f a m
theorem Go_eq (f : FuncId) (a : List SV) (m : List Res) : Go f a m = (FH.rd 91 (.three .int .int .int) (.one .bool) (fun _ => True) (fun y => outB y.1 y.2.1 y.2.2.1) FH.none) f a m := nr rfl
theorem Go_ok : FHOK Try.prog Go := FH.rd_ok (by kernel_rfl) (fun y _ => f_outside y.1 y.2.1 y.2.2.1) FH.none_ok
theorem f_Check (p : List (List PO)) : FnOK Try.prog 15 [dProg.emb p] [] (.int .i64 (progC badP p)) [] := by
  refine fn_len fun hB => fn_walkF c15 w15 Gb_ok rfl ?_
  simp only [go_sem, ↓reduceIte, Nat.reduceAdd, Nat.reduceMul, Nat.reduceSub, Nat.reduceLT, Nat.reduceLeDiff, Nat.reduceEqDiff, Int.reduceToNat, Int.reduceEq, Int.reduceLT, Int.reduceLE, reduceCtorEq] at hB
  unfold j15
  simp only [go_sem, ↓reduceIte, Nat.reduceAdd, Nat.reduceMul, Nat.reduceSub, Nat.reduceLT, Nat.reduceLeDiff, Nat.reduceEqDiff, Int.reduceToNat, Int.reduceEq, Int.reduceLT, Int.reduceLE, reduceCtorEq, Gb_eq]
  refine ⟨fun h => ?_, fun h => ?_⟩
  · rw [progC, if_pos]
    simp only [Bool.or_eq_true, decide_eq_true_eq] at h
    omega
  have hlen : ¬ (p.length < 1 ∨ 6 < p.length) := by
    simp only [Bool.or_eq_false_iff, decide_eq_false_iff_not] at h
    omega
  refine loopF Nat (fun i => [.int .i64 i]) (fun i => []) (fun i => i ≤ p.length ∧ (p.take i).any (fun o => decide (12 < o.length)) = false) (fun i => p.length - i) 0 ⟨by omega, rfl⟩ ?_ rfl ?_
  · simp only [go_sem, ↓reduceIte, Nat.reduceAdd, Nat.reduceMul, Nat.reduceSub, Nat.reduceLT, Nat.reduceLeDiff, Nat.reduceEqDiff, Int.reduceToNat, Int.reduceEq, Int.reduceLT, Int.reduceLE, reduceCtorEq]
  intro i hi
  unfold j15_1
  simp only [go_sem, ↓reduceIte, Nat.reduceAdd, Nat.reduceMul, Nat.reduceSub, Nat.reduceLT, Nat.reduceLeDiff, Nat.reduceEqDiff, Int.reduceToNat, Int.reduceEq, Int.reduceLT, Int.reduceLE, reduceCtorEq]
  refine ⟨fun h1 => ⟨by omega, fun h2 => ?_, fun h2 => ⟨i + 1, ⟨by omega, ?_⟩, by omega, IntWalk.i64_in _ (by omega)⟩⟩, fun h1 => ?_⟩
  · rw [progC, if_neg hlen, if_pos (any_of (i := i) (d := []) (by omega) (decide_eq_true (by omega)))]
  · rw [any_take [] _ (by omega) hi.2]; exact decide_eq_false (by omega)
  have hn := any_none h1 hi
  have hpc : progC badP p = if p.any (fun o => o.any badP) then 1 else 0 := by
    rw [progC, if_neg hlen, hn]; rfl
  rw [hpc]
  clear hpc hi h1
  unfold j15_6
  simp only [go_sem, ↓reduceIte, Nat.reduceAdd, Nat.reduceMul, Nat.reduceSub, Nat.reduceLT, Nat.reduceLeDiff, Nat.reduceEqDiff, Int.reduceToNat, Int.reduceEq, Int.reduceLT, Int.reduceLE, reduceCtorEq]
  refine loopF Nat (fun i => [.int .i64 i]) (fun i => []) (fun i => i ≤ p.length ∧ (p.take i).any (fun o => o.any badP) = false) (fun i => p.length - i) 0 ⟨by omega, rfl⟩ ?_ rfl ?_
  · simp only [go_sem, ↓reduceIte, Nat.reduceAdd, Nat.reduceMul, Nat.reduceSub, Nat.reduceLT, Nat.reduceLeDiff, Nat.reduceEqDiff, Int.reduceToNat, Int.reduceEq, Int.reduceLT, Int.reduceLE, reduceCtorEq]
  intro i hi
  unfold j15_4
  simp only [go_sem, ↓reduceIte, Nat.reduceAdd, Nat.reduceMul, Nat.reduceSub, Nat.reduceLT, Nat.reduceLeDiff, Nat.reduceEqDiff, Int.reduceToNat, Int.reduceEq, Int.reduceLT, Int.reduceLE, reduceCtorEq]
  refine ⟨fun h1 => ⟨by omega, ?_⟩, fun h1 => ?_⟩
  · have hlo : (p.getD i []).length ≤ 9223372036854775807 := hB.2 _ (getD_mem (by omega))
    refine loopF Nat (fun k => [.int .i64 k]) (fun k => []) (fun k => k ≤ (p.getD i []).length ∧ ((p.getD i []).take k).any badP = false) (fun k => (p.getD i []).length - k) 0 ⟨by omega, rfl⟩ ?_ rfl ?_
    · simp only [go_sem, ↓reduceIte, Nat.reduceAdd, Nat.reduceMul, Nat.reduceSub, Nat.reduceLT, Nat.reduceLeDiff, Nat.reduceEqDiff, Int.reduceToNat, Int.reduceEq, Int.reduceLT, Int.reduceLE, reduceCtorEq]
    intro k hk
    unfold j15_2
    simp only [go_sem, ↓reduceIte, Nat.reduceAdd, Nat.reduceMul, Nat.reduceSub, Nat.reduceLT, Nat.reduceLeDiff, Nat.reduceEqDiff, Int.reduceToNat, Int.reduceEq, Int.reduceLT, Int.reduceLE, reduceCtorEq, Gb_eq]
    have hil : i < p.length := by omega
    generalize ho : p.getD i [] = ops at hlo hk ⊢
    refine ⟨fun h3 => ?_, fun h3 => ?_⟩
    · have hko : k < ops.length := by omega
      have two : ∀ b, badP (ops.getD k dOp.dft) = b → (b = true → (1 : Int) = if (p.any fun o => o.any badP) = true then 1 else 0) ∧ (b = false → (ops.take (k + 1)).any badP = false) := by
        intro b hb
        refine ⟨fun e => ?_, fun e => ?_⟩
        · subst e
          rw [if_pos (any_of (i := i) (d := []) hil (by rw [ho]; exact any_of (i := k) hko hb))]
        · subst e
          rw [any_take dOp.dft _ hko hk.2, hb]
      refine ⟨by omega, fun h4 => ?_, fun h4 => ?_⟩
      · have t := two _ rfl
        rw [badP, most, if_pos h4] at t
        exact ⟨fun h5 => t.1 h5, fun h5 => ⟨k + 1, ⟨by omega, t.2 h5⟩, by omega, IntWalk.i64_in _ (by omega)⟩⟩
      · have t := two _ rfl
        rw [badP, most, if_neg h4] at t
        exact ⟨fun h5 => t.1 h5, fun h5 => ⟨k + 1, ⟨by omega, t.2 h5⟩, by omega, IntWalk.i64_in _ (by omega)⟩⟩
    · unfold j15_3
      simp only [go_sem, ↓reduceIte, Nat.reduceAdd, Nat.reduceMul, Nat.reduceSub, Nat.reduceLT, Nat.reduceLeDiff, Nat.reduceEqDiff, Int.reduceToNat, Int.reduceEq, Int.reduceLT, Int.reduceLE, reduceCtorEq]
      refine ⟨i + 1, ⟨by omega, ?_⟩, by omega, IntWalk.i64_in _ (by omega)⟩
      rw [any_take [] _ (by omega) hi.2]
      rw [ho]; exact any_none h3 hk
  · rw [any_none h1 hi]
    unfold j15_5
    simp only [go_sem, ↓reduceIte, Nat.reduceAdd, Nat.reduceMul, Nat.reduceSub, Nat.reduceLT, Nat.reduceLeDiff, Nat.reduceEqDiff, Int.reduceToNat, Int.reduceEq, Int.reduceLT, Int.reduceLE, reduceCtorEq]
theorem f_RCheck (p : List (List PO)) : FnOK Try.prog 47 [dProg.emb p] [] (.int .i64 (progC badR p)) [] := by
  refine fn_len fun hB => fn_walkF c47 w47 Go_ok rfl ?_
  simp only [go_sem, ↓reduceIte, Nat.reduceAdd, Nat.reduceMul, Nat.reduceSub, Nat.reduceLT, Nat.reduceLeDiff, Nat.reduceEqDiff, Int.reduceToNat, Int.reduceEq, Int.reduceLT, Int.reduceLE, reduceCtorEq] at hB
  unfold j47
  simp only [go_sem, ↓reduceIte, Nat.reduceAdd, Nat.reduceMul, Nat.reduceSub, Nat.reduceLT, Nat.reduceLeDiff, Nat.reduceEqDiff, Int.reduceToNat, Int.reduceEq, Int.reduceLT, Int.reduceLE, reduceCtorEq, Go_eq]
  refine ⟨fun h => ?_, fun h => ?_⟩
  · rw [progC, if_pos]
    simp only [outB, Bool.or_eq_true, decide_eq_true_eq] at h
    omega
  have hlen : ¬ (p.length < 1 ∨ 6 < p.length) := by
    simp only [outB, Bool.or_eq_false_iff, decide_eq_false_iff_not] at h
    omega
  refine loopF Nat (fun i => [.int .i64 i]) (fun i => []) (fun i => i ≤ p.length ∧ (p.take i).any (fun o => decide (12 < o.length)) = false) (fun i => p.length - i) 0 ⟨by omega, rfl⟩ ?_ rfl ?_
  · simp only [go_sem, ↓reduceIte, Nat.reduceAdd, Nat.reduceMul, Nat.reduceSub, Nat.reduceLT, Nat.reduceLeDiff, Nat.reduceEqDiff, Int.reduceToNat, Int.reduceEq, Int.reduceLT, Int.reduceLE, reduceCtorEq]
  intro i hi
  unfold j47_1
  simp only [go_sem, ↓reduceIte, Nat.reduceAdd, Nat.reduceMul, Nat.reduceSub, Nat.reduceLT, Nat.reduceLeDiff, Nat.reduceEqDiff, Int.reduceToNat, Int.reduceEq, Int.reduceLT, Int.reduceLE, reduceCtorEq]
  refine ⟨fun h1 => ⟨by omega, fun h2 => ?_, fun h2 => ⟨i + 1, ⟨by omega, ?_⟩, by omega, IntWalk.i64_in _ (by omega)⟩⟩, fun h1 => ?_⟩
  · rw [progC, if_neg hlen, if_pos (any_of (i := i) (d := []) (by omega) (decide_eq_true (by omega)))]
  · rw [any_take [] _ (by omega) hi.2]; exact decide_eq_false (by omega)
  have hn := any_none h1 hi
  have hpc : progC badR p = if p.any (fun o => o.any badR) then 1 else 0 := by
    rw [progC, if_neg hlen, hn]; rfl
  rw [hpc]
  clear hpc hi h1
  unfold j47_6
  simp only [go_sem, ↓reduceIte, Nat.reduceAdd, Nat.reduceMul, Nat.reduceSub, Nat.reduceLT, Nat.reduceLeDiff, Nat.reduceEqDiff, Int.reduceToNat, Int.reduceEq, Int.reduceLT, Int.reduceLE, reduceCtorEq]
  refine loopF Nat (fun i => [.int .i64 i]) (fun i => []) (fun i => i ≤ p.length ∧ (p.take i).any (fun o => o.any badR) = false) (fun i => p.length - i) 0 ⟨by omega, rfl⟩ ?_ rfl ?_
  · simp only [go_sem, ↓reduceIte, Nat.reduceAdd, Nat.reduceMul, Nat.reduceSub, Nat.reduceLT, Nat.reduceLeDiff, Nat.reduceEqDiff, Int.reduceToNat, Int.reduceEq, Int.reduceLT, Int.reduceLE, reduceCtorEq]
  intro i hi
  unfold j47_4
  simp only [go_sem, ↓reduceIte, Nat.reduceAdd, Nat.reduceMul, Nat.reduceSub, Nat.reduceLT, Nat.reduceLeDiff, Nat.reduceEqDiff, Int.reduceToNat, Int.reduceEq, Int.reduceLT, Int.reduceLE, reduceCtorEq]
  refine ⟨fun h1 => ⟨by omega, ?_⟩, fun h1 => ?_⟩
  · have hlo : (p.getD i []).length ≤ 9223372036854775807 := hB.2 _ (getD_mem (by omega))
    refine loopF Nat (fun k => [.int .i64 k]) (fun k => []) (fun k => k ≤ (p.getD i []).length ∧ ((p.getD i []).take k).any badR = false) (fun k => (p.getD i []).length - k) 0 ⟨by omega, rfl⟩ ?_ rfl ?_
    · simp only [go_sem, ↓reduceIte, Nat.reduceAdd, Nat.reduceMul, Nat.reduceSub, Nat.reduceLT, Nat.reduceLeDiff, Nat.reduceEqDiff, Int.reduceToNat, Int.reduceEq, Int.reduceLT, Int.reduceLE, reduceCtorEq]
    intro k hk
    unfold j47_2
    simp only [go_sem, ↓reduceIte, Nat.reduceAdd, Nat.reduceMul, Nat.reduceSub, Nat.reduceLT, Nat.reduceLeDiff, Nat.reduceEqDiff, Int.reduceToNat, Int.reduceEq, Int.reduceLT, Int.reduceLE, reduceCtorEq, Go_eq]
    have hil : i < p.length := by omega
    generalize ho : p.getD i [] = ops at hlo hk ⊢
    refine ⟨fun h3 => ?_, fun h3 => ?_⟩
    · have hko : k < ops.length := by omega
      have two : ∀ b, badR (ops.getD k dOp.dft) = b → (b = true → (1 : Int) = if (p.any fun o => o.any badR) = true then 1 else 0) ∧ (b = false → (ops.take (k + 1)).any badR = false) := by
        intro b hb
        refine ⟨fun e => ?_, fun e => ?_⟩
        · subst e
          rw [if_pos (any_of (i := i) (d := []) hil (by rw [ho]; exact any_of (i := k) hko hb))]
        · subst e
          rw [any_take dOp.dft _ hko hk.2, hb]
      have t := two _ rfl
      rw [badR, tabR] at t
      refine ⟨by omega, fun h4 => ?_, fun h5 => t.1 h5, fun h5 => ⟨k + 1, ⟨by omega, t.2 h5⟩, by omega, IntWalk.i64_in _ (by omega)⟩⟩
      simp only [outB, Bool.or_eq_false_iff, decide_eq_false_iff_not] at h4
      have hw : IntKind.i64.wrap ((ops.getD k dOp.dft).kind - 1) = (ops.getD k dOp.dft).kind - 1 := IntWalk.i64_in _ (by omega)
      rw [hw]
      omega
    · unfold j47_3
      simp only [go_sem, ↓reduceIte, Nat.reduceAdd, Nat.reduceMul, Nat.reduceSub, Nat.reduceLT, Nat.reduceLeDiff, Nat.reduceEqDiff, Int.reduceToNat, Int.reduceEq, Int.reduceLT, Int.reduceLE, reduceCtorEq]
      refine ⟨i + 1, ⟨by omega, ?_⟩, by omega, IntWalk.i64_in _ (by omega)⟩
      rw [any_take [] _ (by omega) hi.2]
      rw [ho]; exact any_none h3 hk
  · rw [any_none h1 hi]
    unfold j47_5
    simp only [go_sem, ↓reduceIte, Nat.reduceAdd, Nat.reduceMul, Nat.reduceSub, Nat.reduceLT, Nat.reduceLeDiff, Nat.reduceEqDiff, Int.reduceToNat, Int.reduceEq, Int.reduceLT, Int.reduceLE, reduceCtorEq]
theorem bad_eq (o : PO) : badP o = badR o := by
  have w1 : IntKind.i64.wrap (-1000) = -1000 := rfl
  have w0 : IntKind.i64.wrap 0 = 0 := rfl
  obtain ⟨k, b, n⟩ := o
  simp only [badP, badR, most]
  by_cases hk : 1 ≤ k ∧ k ≤ 9
  · have hw : IntKind.i64.wrap (k - 1) = k - 1 := IntWalk.i64_in _ (by omega)
    rw [hw, Bool.eq_iff_iff]
    rcases (show k = 1 ∨ k = 2 ∨ k = 3 ∨ k = 4 ∨ k = 5 ∨ k = 6 ∨ k = 7 ∨ k = 8 ∨ k = 9 by omega) with h | h | h | h | h | h | h | h | h <;> subst h <;>
      simp [outB, bnd, tabR, w1, w0] <;> omega
  · have h1 : bnd k = -1 := by rw [bnd, if_neg (by omega)]
    rw [h1, Bool.eq_iff_iff]
    simp only [outB, Bool.or_eq_true, decide_eq_true_eq]
    constructor
    · intro _; left; left; left; omega
    · intro _; left; left; omega
theorem progC_eq (p : List (List PO)) : progC badP p = progC badR p := by
  have : badP = badR := funext bad_eq
  rw [this]
theorem good_of {p : List (List PO)} (h : progC badP p = 0) {n : Nat} (hn : n < p.length) : (p.getD n []).length ≤ 12 ∧ ∀ i, i < (p.getD n []).length → badP ((p.getD n []).getD i dOp.dft) = false := by
  unfold progC at h
  split at h
  · cases h
  split at h
  · cases h
  rename_i h1
  split at h
  · cases h
  rename_i h2
  refine ⟨?_, fun i hi => ?_⟩
  · refine Nat.le_of_not_lt fun hlt => h1 ?_
    exact any_of (i := n) (d := []) hn (decide_eq_true hlt)
  · cases hb : badP ((p.getD n []).getD i dOp.dft) with
    | false => rfl
    | true => exact absurd (any_of (i := n) (d := []) hn (any_of (i := i) hi hb)) h2
end Go.Proofs.Ytgcbhanfhnianaa.Pg
