/- The package clock and its reference, function by function: what each hands back. Conditions: none. -/
import Derived.Test.YtmddnblbfmlgoaaBase
import Derived.Test.YtmddnblbfmlgoaaRows
import Derived.WalkKit
set_option linter.unusedSimpArgs false
set_option linter.unusedVariables false
set_option maxRecDepth 100000
open Go Go.Sx Go.Proofs
namespace Go.Proofs.Ytmddnblbfmlgoaa.C
open Go.Proofs.Ytmddnblbfmlgoaa.D

def j47 : JC :=
  (.seq (.ops <|
  qo 2 (.mv (I 0)) <|
  .nil)
  (.seq (.dops <|
  qo 3 (.mv (.t 0)) <|
  qo 4 (.is 1 (.t 3) (I 0)) <|
  eo 5 (.load 1 false (.t 4)) <|
  qo 6 (.mv (.t 0)) <|
  qo 7 (.is 1 (.t 6) (I 1)) <|
  eo 8 (.load 1 false (.t 7)) <|
  qo 9 (.mx (.t 5) (.t 8)) <|
  qo 2 (.mv (.t 9)) <|
  .nil)
  .ret))
theorem c47 : fnIs Try.prog qall 47 = some (j47.flat, [.tmp 2], 10) := by kernel_rfl
theorem w47 : j47.wf 10 = true := by kernel_rfl

def j48 : JC :=
  (.seq (.ops <|
  qo 2 (.mv (I 0)) <|
  .nil)
  (.seq (.dops <|
  qo 3 (.mv (.t 0)) <|
  qo 4 (.is 1 (.t 3) (I 0)) <|
  eo 5 (.load 1 false (.t 4)) <|
  qo 6 (.mv (.t 0)) <|
  qo 7 (.is 1 (.t 6) (I 1)) <|
  eo 8 (.load 1 false (.t 7)) <|
  qo 9 (.mn (.t 5) (.t 8)) <|
  qo 2 (.mv (.t 9)) <|
  .nil)
  .ret))
theorem c48 : fnIs Try.prog qall 48 = some (j48.flat, [.tmp 2], 10) := by kernel_rfl
theorem w48 : j48.wf 10 = true := by kernel_rfl
def j46_1 : JC :=
  (.seq (.ops <|
  qo 11 (.cmp .lss (.t 10) (I 6)) <|
  .nil)
  (.seq (.cond (.t 11)
  .skip
  (.exit 0))
  (.seq (.block 1 (.seq (.ops <|
  qo 12 (.mv (.t 10)) <|
  qo 13 (.ix 6 1 false (.t 9) (.t 10)) <|
  qo 7 (.mv (.t 12)) <|
  qo 8 (.mv (.t 13)) <|
  .nil)
  (.prune [7, 2, 3, 8, 10, 9, 6] (.ops <|
  qo 14 (.mv (.t 7)) <|
  qo 15 (.mv (.t 2)) <|
  qo 16 (.mv (.t 7)) <|
  qo 17 (.ia 6 1 (.t 3) (.t 16)) <|
  eo 18 (.load 1 false (.t 17)) <|
  .prune [8, 18, 15, 3, 14, 10, 9, 2, 6] <|
  qo 19 (.mv (.t 8)) <|
  eo 20 (.bsl 3 1 2 (.int .i64 0) [(0, (.t 18)), (1, (.t 19))]) <|
  .prune [15, 20, 3, 14, 10, 9, 2, 6] <|
  eo 21 (.callv (.t 15) [(.t 20)]) <|
  qo 22 (.ia 6 1 (.t 3) (.t 14)) <|
  en (.store 1 (.t 22) (.t 21)) <|
  .nil))))
  (.prune [10, 9, 2, 3, 6] (.ops <|
  qo 23 (.ar .add (.t 10) (I 1)) <|
  qo 10 (.mv (.t 23)) <|
  .nil)))))
def j46_2 : JC :=
  (.prune [3, 6] (.seq (.ops <|
  eo 24 (.load 6 true (.t 3)) <|
  en (.store 6 (.t 6) (.t 24)) <|
  .nil)
  .ret))
def j46 : JC :=
  (.seq (.ops <|
  eo 3 (.box 28 (.t 0)) <|
  eo 4 (.box 28 (.t 1)) <|
  eo 6 (.alloc 28 (.arr 6 1 fun _ => (.int .i64 0))) <|
  .nil)
  (.seq (.seq (.ops <|
  eo 9 (.load 6 true (.t 4)) <|
  qo 10 (.mv (I 0)) <|
  .nil)
  (.block 0 (.loop [9, 2, 3, 6] [10] j46_1)))
  j46_2))
theorem c46 : fnIs Try.prog qall 46 = some (j46.flat, [.cell 6 28], 25) := by kernel_rfl
theorem w46 : j46.wf 25 = true := by kernel_rfl

def j25 : JC :=
  (.seq (.ops <|
  eo 2 (.box 28 (.t 0)) <|
  eo 3 (.box 28 (.t 1)) <|
  eo 4 (.alloc 28 (.arr 6 1 fun _ => (.int .i64 0))) <|
  .nil)
  (.seq (.ops <|
  eo 5 (.load 6 true (.t 2)) <|
  eo 6 (.load 6 true (.t 3)) <|
  eo 7 (.call 46 [(.t 5), (.t 6), (.c (.fn 47 []))]) <|
  en (.store 6 (.t 4) (.t 7)) <|
  .nil)
  .ret))
theorem c25 : fnIs Try.prog qall 25 = some (j25.flat, [.cell 4 28], 8) := by kernel_rfl
theorem w25 : j25.wf 8 = true := by kernel_rfl

def j27 : JC :=
  (.seq (.ops <|
  eo 2 (.box 28 (.t 0)) <|
  eo 3 (.box 28 (.t 1)) <|
  eo 4 (.alloc 28 (.arr 6 1 fun _ => (.int .i64 0))) <|
  .nil)
  (.seq (.ops <|
  eo 5 (.load 6 true (.t 2)) <|
  eo 6 (.load 6 true (.t 3)) <|
  eo 7 (.call 46 [(.t 5), (.t 6), (.c (.fn 48 []))]) <|
  en (.store 6 (.t 4) (.t 7)) <|
  .nil)
  .ret))
theorem c27 : fnIs Try.prog qall 27 = some (j27.flat, [.cell 4 28], 8) := by kernel_rfl
theorem w27 : j27.wf 8 = true := by kernel_rfl
def mxI (a b : Int) : Int := if a < b then b else a
def mnI (a b : Int) : Int := if b < a then b else a
theorem f_greater (l : List Int) (h : 2 ≤ l.length) : FnOK Try.prog 47 [(DT.list 1 DT.int).emb l] [] (.int .i64 (mxI (l.getD 0 0) (l.getD 1 0))) [] := by
  refine fn_walkF c47 w47 FH.none_ok rfl ?_
  unfold j47
  simp only [go_sem, ↓reduceIte, Nat.reduceAdd, Nat.reduceMul, Nat.reduceSub, Nat.reduceLT, Nat.reduceLeDiff, Nat.reduceEqDiff, Int.reduceToNat, reduceCtorEq]
  exact ⟨⟨by omega, by omega⟩, ⟨by omega, by omega⟩, rfl⟩
theorem f_lesser (l : List Int) (h : 2 ≤ l.length) : FnOK Try.prog 48 [(DT.list 1 DT.int).emb l] [] (.int .i64 (mnI (l.getD 0 0) (l.getD 1 0))) [] := by
  refine fn_walkF c48 w48 FH.none_ok rfl ?_
  unfold j48
  simp only [go_sem, ↓reduceIte, Nat.reduceAdd, Nat.reduceMul, Nat.reduceSub, Nat.reduceLT, Nat.reduceLeDiff, Nat.reduceEqDiff, Int.reduceToNat, reduceCtorEq]
  exact ⟨⟨by omega, by omega⟩, ⟨by omega, by omega⟩, rfl⟩
def Gpick (f : FuncId) (a : List SV) (m : List Res) : Sx.Call := (FH.rd 47 (.one (DT.list 1 DT.int)) (.one .int) (fun y => 2 ≤ y.1.length) (fun y => mxI (y.1.getD 0 0) (y.1.getD 1 0)) <| FH.rd 48 (.one (DT.list 1 DT.int)) (.one .int) (fun y => 2 ≤ y.1.length) (fun y => mnI (y.1.getD 0 0) (y.1.getD 1 0)) FH.none) f a m
theorem Gpick_eq (f : FuncId) (a : List SV) (m : List Res) : Gpick f a m = (FH.rd 47 (.one (DT.list 1 DT.int)) (.one .int) (fun y => 2 ≤ y.1.length) (fun y => mxI (y.1.getD 0 0) (y.1.getD 1 0)) <| FH.rd 48 (.one (DT.list 1 DT.int)) (.one .int) (fun y => 2 ≤ y.1.length) (fun y => mnI (y.1.getD 0 0) (y.1.getD 1 0)) FH.none) f a m := nr rfl
theorem Gpick_ok : FHOK Try.prog Gpick := FH.rd_ok (by kernel_rfl) (fun y h => f_greater y.1 h) <| FH.rd_ok (by kernel_rfl) (fun y h => f_lesser y.1 h) FH.none_ok
/-- Place by place, the first 'n'. -/
def mrg (g : Int → Int → Int) (a b : Clk) (n : Nat) : Clk := fun k => if k < n then g (a k) (b k) else a k
theorem mrg_step (g : Int → Int → Int) (a b : Clk) (n k : Nat) : (if k = n then g (a n) (b n) else mrg g a b n k) = mrg g a b (n + 1) k := by
  unfold mrg
  by_cases h : k = n
  · subst h; simp
  · by_cases h2 : k < n
    · simp [h, h2, Nat.lt_succ_of_lt h2]
    · simp [h, h2, show ¬ k < n + 1 by omega]
theorem mrg_at (g : Int → Int → Int) (a b : Clk) (n : Nat) : mrg g a b n n = a n := by simp [mrg]
theorem tszC : tsz Try.prog 28 = some (6, true) := by kernel_rfl
theorem f_merge1 (a b : Clk) : FnOK Try.prog 46 [dClk.emb a, dClk.emb b, .fn 47 []] [] (dClk.emb (mrg mxI a b 6)) [] := by
  refine fn_walkF c46 w46 Gpick_ok rfl ?_
  unfold j46
  simp only [go_sem, ↓reduceIte, Nat.reduceAdd, Nat.reduceMul, Nat.reduceSub, Nat.reduceLT, Nat.reduceLeDiff, Nat.reduceEqDiff, Int.reduceToNat, reduceCtorEq]
  refine loopF Nat (fun i => [.int .i64 i]) (fun i => [.blk 28 (dClk.emb (mrg mxI a b i)), .blk 28 (dClk.emb b), .blk 28 (dClk.emb fun _ => 0)]) (fun i => i ≤ 6) (fun i => 6 - i) 0 (by omega) ?_ ?_ ?_
  · simp only [go_sem, ↓reduceIte, Nat.reduceAdd, Nat.reduceMul, Nat.reduceSub, Nat.reduceLT, Nat.reduceLeDiff, Nat.reduceEqDiff, Int.reduceToNat, reduceCtorEq]
  · rfl
  · intro i hi
    unfold j46_1
    simp only [go_sem, ↓reduceIte, Nat.reduceAdd, Nat.reduceMul, Nat.reduceSub, Nat.reduceLT, Nat.reduceLeDiff, Nat.reduceEqDiff, Int.reduceToNat, reduceCtorEq, Gpick_eq, tszC]
    refine ⟨fun h => ⟨by omega, by omega, by omega, i + 1, by omega, by omega, ?_, ?_⟩, fun h => ?_⟩
    · exact IntWalk.i64_in _ (by omega)
    · simp only [mrg_at, mrg_step]
    · rw [show i = 6 by omega]
      unfold j46_2
      simp only [go_sem, ↓reduceIte, Nat.reduceAdd, Nat.reduceMul, Nat.reduceSub, Nat.reduceLT, Nat.reduceLeDiff, Nat.reduceEqDiff, Int.reduceToNat, reduceCtorEq, tszC]
theorem f_merge2 (a b : Clk) : FnOK Try.prog 46 [dClk.emb a, dClk.emb b, .fn 48 []] [] (dClk.emb (mrg mnI a b 6)) [] := by
  refine fn_walkF c46 w46 Gpick_ok rfl ?_
  unfold j46
  simp only [go_sem, ↓reduceIte, Nat.reduceAdd, Nat.reduceMul, Nat.reduceSub, Nat.reduceLT, Nat.reduceLeDiff, Nat.reduceEqDiff, Int.reduceToNat, reduceCtorEq]
  refine loopF Nat (fun i => [.int .i64 i]) (fun i => [.blk 28 (dClk.emb (mrg mnI a b i)), .blk 28 (dClk.emb b), .blk 28 (dClk.emb fun _ => 0)]) (fun i => i ≤ 6) (fun i => 6 - i) 0 (by omega) ?_ ?_ ?_
  · simp only [go_sem, ↓reduceIte, Nat.reduceAdd, Nat.reduceMul, Nat.reduceSub, Nat.reduceLT, Nat.reduceLeDiff, Nat.reduceEqDiff, Int.reduceToNat, reduceCtorEq]
  · rfl
  · intro i hi
    unfold j46_1
    simp only [go_sem, ↓reduceIte, Nat.reduceAdd, Nat.reduceMul, Nat.reduceSub, Nat.reduceLT, Nat.reduceLeDiff, Nat.reduceEqDiff, Int.reduceToNat, reduceCtorEq, Gpick_eq, tszC]
    refine ⟨fun h => ⟨by omega, by omega, by omega, i + 1, by omega, by omega, ?_, ?_⟩, fun h => ?_⟩
    · exact IntWalk.i64_in _ (by omega)
    · simp only [mrg_at, mrg_step]
    · rw [show i = 6 by omega]
      unfold j46_2
      simp only [go_sem, ↓reduceIte, Nat.reduceAdd, Nat.reduceMul, Nat.reduceSub, Nat.reduceLT, Nat.reduceLeDiff, Nat.reduceEqDiff, Int.reduceToNat, reduceCtorEq, tszC]

def j44 : JC :=
  (.seq (.ops <|
  qo 2 (.mv (B false)) <|
  .nil)
  (.seq (.ops <|
  qo 3 (.mv (.t 0)) <|
  qo 4 (.cmp .geq (.t 3) (I 0)) <|
  qo 5 (.mv (.t 4)) <|
  .sc false 8 5 (qo 6 (.mv (.t 0)) <|
  qo 7 (.cmp .lss (.t 6) (I 6)) <|
  .nil) (.t 7) <|
  qo 2 (.mv (.t 8)) <|
  .nil)
  .ret))
theorem c44 : fnIs Try.prog qall 44 = some (j44.flat, [.tmp 2], 9) := by kernel_rfl
theorem w44 : j44.wf 9 = true := by kernel_rfl

def j45 : JC :=
  (.seq (.ops <|
  qo 6 (.mv (B false)) <|
  .nil)
  (.seq (.ops <|
  qo 7 (.mv (.t 0)) <|
  qo 8 (.mv (.t 1)) <|
  qo 9 (.cmp .lss (.t 7) (.t 8)) <|
  qo 10 (.mv (.t 9)) <|
  .sc true 14 10 (qo 11 (.mv (.t 0)) <|
  qo 12 (.mv (.t 2)) <|
  qo 13 (.cmp .gtr (.t 11) (.t 12)) <|
  .nil) (.t 13) <|
  qo 6 (.mv (.t 14)) <|
  .nil)
  .ret))
theorem c45 : fnIs Try.prog qall 45 = some (j45.flat, [.tmp 6], 15) := by kernel_rfl
theorem w45 : j45.wf 15 = true := by kernel_rfl

def j19 : JC :=
  (.seq (.ops <|
  eo 2 (.box 28 (.t 0)) <|
  eo 4 (.alloc 28 (.arr 6 1 fun _ => (.int .i64 0))) <|
  qo 5 (.mv (I 0)) <|
  .nil)
  (.seq (.block 0 (.seq (.ops <|
  qo 7 (.mv (.t 1)) <|
  eo 8 (.call 44 [(.t 7)]) <|
  qo 9 (.nt (.t 8)) <|
  qo 6 (.mv (.t 9)) <|
  .nil)
  (.cond (.t 6)
  (.seq (.ops <|
  .prune [4] <|
  qo 10 (.bld (.arr 6 1 fun _ => (.int .i64 0)) []) <|
  en (.store 6 (.t 4) (.t 10)) <|
  qo 5 (.mv (I 1)) <|
  .nil)
  .ret)
  (.seq (.ops <|
  .prune [1, 2, 4] <|
  qo 12 (.mv (.t 1)) <|
  qo 13 (.ia 6 1 (.t 2) (.t 12)) <|
  eo 14 (.load 1 false (.t 13)) <|
  qo 15 (.cmp .geq (.t 14) (I 1000000)) <|
  qo 11 (.mv (.t 15)) <|
  .nil)
  (.prune [11, 4, 1, 2] (.cond (.t 11)
  (.seq (.ops <|
  qo 16 (.bld (.arr 6 1 fun _ => (.int .i64 0)) []) <|
  en (.store 6 (.t 4) (.t 16)) <|
  qo 5 (.mv (I 2)) <|
  .nil)
  .ret)
  .skip))))))
  (.prune [1, 2, 4] (.seq (.ops <|
  qo 17 (.mv (.t 1)) <|
  qo 18 (.ia 6 1 (.t 2) (.t 17)) <|
  eo 19 (.load 1 false (.t 18)) <|
  qo 20 (.ar .add (.t 19) (I 1)) <|
  qo 21 (.ia 6 1 (.t 2) (.t 17)) <|
  en (.store 1 (.t 21) (.t 20)) <|
  .nil)
  (.seq (.ops <|
  .prune [2, 4] <|
  eo 22 (.load 6 true (.t 2)) <|
  en (.store 6 (.t 4) (.t 22)) <|
  qo 5 (.mv (I 0)) <|
  .nil)
  .ret)))))
theorem c19 : fnIs Try.prog qall 19 = some (j19.flat, [.cell 4 28, .tmp 5], 23) := by kernel_rfl
theorem w19 : j19.wf 23 = true := by kernel_rfl

def j20 : JC :=
  (.seq (.ops <|
  eo 2 (.box 28 (.t 0)) <|
  eo 4 (.alloc 28 (.arr 6 1 fun _ => (.int .i64 0))) <|
  qo 5 (.mv (I 0)) <|
  .nil)
  (.seq (.seq (.ops <|
  qo 6 (.mv (.t 1)) <|
  eo 7 (.call 45 [(.t 6), (I 0), (I 5)]) <|
  .nil)
  (.cond (.t 7)
  (.seq (.ops <|
  qo 8 (.bld (.arr 6 1 fun _ => (.int .i64 0)) []) <|
  en (.store 6 (.t 4) (.t 8)) <|
  qo 5 (.mv (I 1)) <|
  .nil)
  .ret)
  .skip))
  (.seq (.seq (.ops <|
  .prune [1, 2, 4] <|
  qo 9 (.mv (.t 1)) <|
  qo 10 (.ia 6 1 (.t 2) (.t 9)) <|
  eo 11 (.load 1 false (.t 10)) <|
  qo 12 (.cmp .gtr (.t 11) (I 999999)) <|
  .nil)
  (.prune [12, 4, 1, 2] (.cond (.t 12)
  (.seq (.ops <|
  qo 13 (.bld (.arr 6 1 fun _ => (.int .i64 0)) []) <|
  en (.store 6 (.t 4) (.t 13)) <|
  qo 5 (.mv (I 2)) <|
  .nil)
  .ret)
  .skip)))
  (.prune [1, 2, 4] (.seq (.ops <|
  qo 14 (.mv (.t 1)) <|
  qo 15 (.ia 6 1 (.t 2) (.t 14)) <|
  eo 16 (.load 1 false (.t 15)) <|
  qo 17 (.ar .add (.t 16) (I 1)) <|
  qo 18 (.ia 6 1 (.t 2) (.t 14)) <|
  en (.store 1 (.t 18) (.t 17)) <|
  .nil)
  (.seq (.ops <|
  .prune [2, 4] <|
  eo 19 (.load 6 true (.t 2)) <|
  en (.store 6 (.t 4) (.t 19)) <|
  qo 5 (.mv (I 0)) <|
  .nil)
  .ret))))))
theorem c20 : fnIs Try.prog qall 20 = some (j20.flat, [.cell 4 28, .tmp 5], 20) := by kernel_rfl
theorem w20 : j20.wf 20 = true := by kernel_rfl

def j16 : JC :=
  (.seq (.ops <|
  eo 2 (.box 28 (.t 0)) <|
  eo 4 (.alloc 30 (.agg [(.int .i64 0), (.int .i64 0)])) <|
  qo 5 (.mv (I 0)) <|
  .nil)
  (.seq (.seq (.ops <|
  qo 6 (.mv (.t 1)) <|
  eo 7 (.call 44 [(.t 6)]) <|
  qo 8 (.nt (.t 7)) <|
  .nil)
  (.cond (.t 8)
  (.seq (.ops <|
  qo 9 (.bld (.agg [(.int .i64 0), (.int .i64 0)]) []) <|
  en (.store 2 (.t 4) (.t 9)) <|
  qo 5 (.mv (I 1)) <|
  .nil)
  .ret)
  .skip))
  (.seq (.ops <|
  .prune [1, 2, 4] <|
  qo 10 (.mv (.t 1)) <|
  qo 11 (.mv (.t 1)) <|
  qo 12 (.ia 6 1 (.t 2) (.t 11)) <|
  eo 13 (.load 1 false (.t 12)) <|
  .prune [10, 13, 4] <|
  qo 14 (.bld (.agg [(.int .i64 0), (.int .i64 0)]) [([.fld 0], 0, 1, (.t 10)), ([.fld 1], 1, 1, (.t 13))]) <|
  en (.store 2 (.t 4) (.t 14)) <|
  qo 5 (.mv (I 0)) <|
  .nil)
  .ret)))
theorem c16 : fnIs Try.prog qall 16 = some (j16.flat, [.cell 4 30, .tmp 5], 15) := by kernel_rfl
theorem w16 : j16.wf 15 = true := by kernel_rfl

def j17 : JC :=
  (.seq (.ops <|
  eo 2 (.box 30 (.t 0)) <|
  eo 3 (.box 28 (.t 1)) <|
  qo 4 (.mv (B false)) <|
  .nil)
  (.seq (.dops <|
  qo 5 (.fa 0 0 (.t 2)) <|
  eo 6 (.load 1 false (.t 5)) <|
  eo 7 (.qcall 44 [(.t 6)]) <|
  qo 8 (.mv (.t 7)) <|
  .prune [8, 2, 3] <|
  .sc false 16 8 (qo 9 (.fa 1 1 (.t 2)) <|
  eo 10 (.load 1 false (.t 9)) <|
  qo 11 (.fa 0 0 (.t 2)) <|
  eo 12 (.load 1 false (.t 11)) <|
  qo 13 (.ia 6 1 (.t 3) (.t 12)) <|
  eo 14 (.load 1 false (.t 13)) <|
  qo 15 (.cmp .leq (.t 10) (.t 14)) <|
  .nil) (.t 15) <|
  qo 4 (.mv (.t 16)) <|
  .nil)
  .ret))
theorem c17 : fnIs Try.prog qall 17 = some (j17.flat, [.tmp 4], 17) := by kernel_rfl
theorem w17 : j17.wf 17 = true := by kernel_rfl
def j18_1 : JC :=
  (.seq (.ops <|
  qo 9 (.cmp .lss (.t 8) (I 6)) <|
  .nil)
  (.seq (.cond (.t 9)
  .skip
  (.exit 0))
  (.seq (.block 1 (.seq (.ops <|
  qo 10 (.mv (.t 8)) <|
  qo 11 (.ix 6 1 false (.t 7) (.t 8)) <|
  qo 5 (.mv (.t 10)) <|
  qo 6 (.mv (.t 11)) <|
  .nil)
  (.seq (.ops <|
  .prune [5, 2, 6, 8, 7] <|
  qo 12 (.mv (.t 5)) <|
  qo 13 (.fa 0 0 (.t 2)) <|
  eo 14 (.load 1 false (.t 13)) <|
  qo 15 (.cmp .eql (.t 12) (.t 14)) <|
  .nil)
  (.prune [15, 2, 6, 8, 7] (.cond (.t 15)
  (.seq (.ops <|
  qo 16 (.fa 1 1 (.t 2)) <|
  eo 17 (.load 1 false (.t 16)) <|
  .prune [6, 17] <|
  qo 18 (.mv (.t 6)) <|
  qo 19 (.cmp .leq (.t 17) (.t 18)) <|
  qo 4 (.mv (.t 19)) <|
  .nil)
  .ret)
  .skip)))))
  (.prune [8, 7, 2] (.ops <|
  qo 20 (.ar .add (.t 8) (I 1)) <|
  qo 8 (.mv (.t 20)) <|
  .nil)))))
def j18_2 : JC :=
  (.prune [] (.seq (.ops <|
  qo 4 (.mv (B false)) <|
  .nil)
  .ret))
def j18 : JC :=
  (.seq (.ops <|
  eo 2 (.box 30 (.t 0)) <|
  eo 3 (.box 28 (.t 1)) <|
  qo 4 (.mv (B false)) <|
  .nil)
  (.seq (.seq (.ops <|
  eo 7 (.load 6 true (.t 3)) <|
  qo 8 (.mv (I 0)) <|
  .nil)
  (.block 0 (.loop [7, 2] [8] j18_1)))
  j18_2))
theorem c18 : fnIs Try.prog qall 18 = some (j18.flat, [.tmp 4], 21) := by kernel_rfl
theorem w18 : j18.wf 21 = true := by kernel_rfl

def j21 : JC :=
  (.seq (.ops <|
  eo 2 (.box 28 (.t 0)) <|
  eo 3 (.box 28 (.t 1)) <|
  qo 4 (.mv (B false)) <|
  .nil)
  (.seq (.dops <|
  eo 5 (.load 6 true (.t 2)) <|
  eo 6 (.load 6 true (.t 3)) <|
  eo 7 (.qcall 25 [(.t 5), (.t 6)]) <|
  eo 8 (.load 6 true (.t 3)) <|
  qo 9 (.aeq false (.arr 6 1 (.int .i64)) (.t 7) (.t 8)) <|
  qo 4 (.mv (.t 9)) <|
  .nil)
  .ret))
theorem c21 : fnIs Try.prog qall 21 = some (j21.flat, [.tmp 4], 10) := by kernel_rfl
theorem w21 : j21.wf 10 = true := by kernel_rfl
def j22_1 : JC :=
  (.seq (.ops <|
  qo 7 (.cmp .lss (.t 6) (I 6)) <|
  .nil)
  (.seq (.cond (.t 7)
  .skip
  (.exit 0))
  (.seq (.block 1 (.seq (.ops <|
  qo 8 (.mv (.t 6)) <|
  qo 5 (.mv (.t 8)) <|
  .nil)
  (.seq (.dops <|
  qo 9 (.mv (.t 5)) <|
  qo 10 (.ia 6 1 (.t 2) (.t 9)) <|
  .prune [10, 5, 3, 6, 2] <|
  eo 11 (.load 1 false (.t 10)) <|
  qo 12 (.mv (.t 5)) <|
  qo 13 (.ia 6 1 (.t 3) (.t 12)) <|
  eo 14 (.load 1 false (.t 13)) <|
  qo 15 (.cmp .gtr (.t 11) (.t 14)) <|
  .nil)
  (.prune [15, 6, 2, 3] (.cond (.t 15)
  (.seq (.ops <|
  qo 4 (.mv (B false)) <|
  .nil)
  .ret)
  .skip)))))
  (.prune [6, 2, 3] (.ops <|
  qo 16 (.ar .add (.t 6) (I 1)) <|
  qo 6 (.mv (.t 16)) <|
  .nil)))))
def j22_2 : JC :=
  (.prune [] (.seq (.ops <|
  qo 4 (.mv (B true)) <|
  .nil)
  .ret))
def j22 : JC :=
  (.seq (.ops <|
  eo 2 (.box 28 (.t 0)) <|
  eo 3 (.box 28 (.t 1)) <|
  qo 4 (.mv (B false)) <|
  .nil)
  (.seq (.seq (.ops <|
  qo 6 (.mv (I 0)) <|
  .nil)
  (.block 0 (.loop [2, 3] [6] j22_1)))
  j22_2))
theorem c22 : fnIs Try.prog qall 22 = some (j22.flat, [.tmp 4], 17) := by kernel_rfl
theorem w22 : j22.wf 17 = true := by kernel_rfl
def j26_1 : JC :=
  (.seq (.ops <|
  qo 10 (.cmp .lss (.t 9) (I 6)) <|
  .nil)
  (.seq (.cond (.t 10)
  .skip
  (.exit 0))
  (.seq (.block 1 (.seq (.ops <|
  qo 11 (.mv (.t 9)) <|
  qo 8 (.mv (.t 11)) <|
  .nil)
  (.seq (.ops <|
  qo 12 (.mv (.t 8)) <|
  qo 13 (.mv (.t 8)) <|
  qo 14 (.ia 6 1 (.t 3) (.t 13)) <|
  .prune [14, 7, 12, 8, 4, 3, 2, 9, 6] <|
  eo 15 (.load 1 false (.t 14)) <|
  qo 16 (.ia 6 1 (.t 7) (.t 12)) <|
  en (.store 1 (.t 16) (.t 15)) <|
  .nil)
  (.prune [8, 4, 3, 2, 7, 9, 6] (.seq (.dops <|
  qo 17 (.mv (.t 8)) <|
  qo 18 (.ia 6 1 (.t 4) (.t 17)) <|
  eo 19 (.load 1 false (.t 18)) <|
  qo 20 (.mv (.t 8)) <|
  qo 21 (.ia 6 1 (.t 3) (.t 20)) <|
  .prune [21, 19, 2, 8, 4, 7, 9, 3, 6] <|
  eo 22 (.load 1 false (.t 21)) <|
  qo 23 (.cmp .gtr (.t 19) (.t 22)) <|
  qo 24 (.mv (.t 2)) <|
  qo 25 (.beq false (.t 23) (.t 24)) <|
  .nil)
  (.prune [25, 8, 4, 7, 9, 3, 2, 6] (.cond (.t 25)
  (.ops <|
  qo 26 (.mv (.t 8)) <|
  qo 27 (.mv (.t 8)) <|
  qo 28 (.ia 6 1 (.t 4) (.t 27)) <|
  .prune [28, 7, 26, 9, 3, 4, 2, 6] <|
  eo 29 (.load 1 false (.t 28)) <|
  qo 30 (.ia 6 1 (.t 7) (.t 26)) <|
  en (.store 1 (.t 30) (.t 29)) <|
  .nil)
  .skip)))))))
  (.prune [9, 3, 7, 4, 2, 6] (.ops <|
  qo 31 (.ar .add (.t 9) (I 1)) <|
  qo 9 (.mv (.t 31)) <|
  .nil)))))
def j26_2 : JC :=
  (.prune [7, 6] (.seq (.ops <|
  eo 32 (.load 6 true (.t 7)) <|
  en (.store 6 (.t 6) (.t 32)) <|
  .nil)
  .ret))
def j26 : JC :=
  (.seq (.ops <|
  eo 3 (.box 28 (.t 0)) <|
  eo 4 (.box 28 (.t 1)) <|
  eo 6 (.alloc 28 (.arr 6 1 fun _ => (.int .i64 0))) <|
  .nil)
  (.seq (.ops <|
  eo 7 (.alloc 28 (.arr 6 1 fun _ => (.int .i64 0))) <|
  .nil)
  (.seq (.seq (.ops <|
  qo 9 (.mv (I 0)) <|
  .nil)
  (.block 0 (.loop [3, 7, 4, 2, 6] [9] j26_1)))
  j26_2)))
theorem c26 : fnIs Try.prog qall 26 = some (j26.flat, [.cell 6 28], 33) := by kernel_rfl
theorem w26 : j26.wf 33 = true := by kernel_rfl

def j23 : JC :=
  (.seq (.ops <|
  eo 2 (.box 28 (.t 0)) <|
  eo 3 (.box 28 (.t 1)) <|
  qo 4 (.mv (I 0)) <|
  .nil)
  (.seq (.block 0 (.seq (.ops <|
  eo 6 (.load 6 true (.t 2)) <|
  eo 7 (.load 6 true (.t 3)) <|
  qo 8 (.aeq false (.arr 6 1 (.int .i64)) (.t 6) (.t 7)) <|
  qo 5 (.mv (.t 8)) <|
  .nil)
  (.cond (.t 5)
  (.seq (.ops <|
  qo 4 (.mv (I 0)) <|
  .nil)
  .ret)
  (.seq (.ops <|
  .prune [2, 3] <|
  eo 10 (.load 6 true (.t 2)) <|
  eo 11 (.load 6 true (.t 3)) <|
  eo 12 (.call 21 [(.t 10), (.t 11)]) <|
  qo 9 (.mv (.t 12)) <|
  .nil)
  (.prune [9, 3, 2] (.cond (.t 9)
  (.seq (.ops <|
  qo 4 (.mv (I 1)) <|
  .nil)
  .ret)
  (.seq (.ops <|
  eo 14 (.load 6 true (.t 3)) <|
  eo 15 (.load 6 true (.t 2)) <|
  eo 16 (.call 21 [(.t 14), (.t 15)]) <|
  qo 13 (.mv (.t 16)) <|
  .nil)
  (.cond (.t 13)
  (.seq (.ops <|
  qo 4 (.mv (I 2)) <|
  .nil)
  .ret)
  .skip))))))))
  (.prune [] (.seq (.ops <|
  qo 4 (.mv (I 3)) <|
  .nil)
  .ret))))
theorem c23 : fnIs Try.prog qall 23 = some (j23.flat, [.tmp 4], 17) := by kernel_rfl
theorem w23 : j23.wf 17 = true := by kernel_rfl

def j24 : JC :=
  (.seq (.ops <|
  eo 2 (.box 28 (.t 0)) <|
  eo 3 (.box 28 (.t 1)) <|
  qo 4 (.mv (I 0)) <|
  .nil)
  (.seq (.dops <|
  eo 7 (.load 6 true (.t 2)) <|
  eo 8 (.load 6 true (.t 3)) <|
  eo 9 (.qcall 22 [(.t 7), (.t 8)]) <|
  eo 10 (.load 6 true (.t 3)) <|
  .prune [2, 10, 9] <|
  eo 11 (.load 6 true (.t 2)) <|
  eo 12 (.qcall 22 [(.t 10), (.t 11)]) <|
  qo 5 (.mv (.t 9)) <|
  qo 6 (.mv (.t 12)) <|
  .nil)
  (.prune [5, 6] (.seq (.block 0 (.seq (.ops <|
  qo 14 (.mv (.t 5)) <|
  qo 15 (.mv (.t 14)) <|
  .sc false 17 15 (qo 16 (.mv (.t 6)) <|
  .nil) (.t 16) <|
  qo 13 (.mv (.t 17)) <|
  .nil)
  (.cond (.t 13)
  (.seq (.ops <|
  qo 4 (.mv (I 0)) <|
  .nil)
  .ret)
  (.seq (.ops <|
  qo 19 (.mv (.t 5)) <|
  qo 18 (.mv (.t 19)) <|
  .nil)
  (.cond (.t 18)
  (.seq (.ops <|
  qo 4 (.mv (I 1)) <|
  .nil)
  .ret)
  (.seq (.ops <|
  qo 21 (.mv (.t 6)) <|
  qo 20 (.mv (.t 21)) <|
  .nil)
  (.prune [20] (.cond (.t 20)
  (.seq (.ops <|
  qo 4 (.mv (I 2)) <|
  .nil)
  .ret)
  .skip))))))))
  (.prune [] (.seq (.ops <|
  qo 4 (.mv (I 3)) <|
  .nil)
  .ret))))))
theorem c24 : fnIs Try.prog qall 24 = some (j24.flat, [.tmp 4], 22) := by kernel_rfl
theorem w24 : j24.wf 22 = true := by kernel_rfl
def joinC (a b : Clk) : Clk := mrg mxI a b 6
def meetC (a b : Clk) : Clk := mrg mnI a b 6
def GM (f : FuncId) (a : List SV) (m : List Res) : Sx.Call := (FH.rd 46 (.two dClk dClk) (.one dClk) (fun _ => False) (fun y => y.1) FH.none) f a m
theorem GM_eq (f : FuncId) (a : List SV) (m : List Res) : GM f a m = (FH.rd 46 (.two dClk dClk) (.one dClk) (fun _ => False) (fun y => y.1) FH.none) f a m := nr rfl
def isThr (t : Int) : Bool := decide (0 ≤ t) && decide (t < 6)
theorem f_isThread (t : Int) : FnOK Try.prog 44 [.int .i64 t] [] (.bool (isThr t)) [] := by
  refine fn_walkF c44 w44 FH.none_ok rfl ?_
  unfold j44
  simp only [go_sem, ↓reduceIte, Nat.reduceAdd, Nat.reduceMul, Nat.reduceSub, Nat.reduceLT, Nat.reduceLeDiff, Nat.reduceEqDiff, Int.reduceToNat, reduceCtorEq]
  rfl
def outB (n lo hi : Int) : Bool := decide (n < lo) || decide (hi < n)
theorem f_outside (n lo hi : Int) : FnOK Try.prog 45 [.int .i64 n, .int .i64 lo, .int .i64 hi] [] (.bool (outB n lo hi)) [] := by
  refine fn_walkF c45 w45 FH.none_ok rfl ?_
  unfold j45
  simp only [go_sem, ↓reduceIte, Nat.reduceAdd, Nat.reduceMul, Nat.reduceSub, Nat.reduceLT, Nat.reduceLeDiff, Nat.reduceEqDiff, Int.reduceToNat, reduceCtorEq]
  rfl
def zeroC : Clk := fun _ => 0
def tickF (c : Clk) (t : Int) : Clk × Int := if isThr t then (if 1000000 ≤ c t.toNat then (zeroC, 2) else (fun k => if k = t.toNat then IntKind.i64.wrap (c t.toNat + 1) else c k, 0)) else (zeroC, 1)
def Gt (f : FuncId) (a : List SV) (m : List Res) : Sx.Call := (FH.rd 44 (.one .int) (.one .bool) (fun _ => True) (fun y => isThr y.1) <| FH.rd 45 (.three .int .int .int) (.one .bool) (fun _ => True) (fun y => outB y.1 y.2.1 y.2.2.1) FH.none) f a m
theorem Gt_eq (f : FuncId) (a : List SV) (m : List Res) : Gt f a m = (FH.rd 44 (.one .int) (.one .bool) (fun _ => True) (fun y => isThr y.1) <| FH.rd 45 (.three .int .int .int) (.one .bool) (fun _ => True) (fun y => outB y.1 y.2.1 y.2.2.1) FH.none) f a m := nr rfl
theorem Gt_ok : FHOK Try.prog Gt := FH.rd_ok (by kernel_rfl) (fun y _ => f_isThread y.1) <| FH.rd_ok (by kernel_rfl) (fun y _ => f_outside y.1 y.2.1 y.2.2.1) FH.none_ok
theorem isThr_iff (t : Int) : isThr t = true ↔ 0 ≤ t ∧ t < 6 := by simp [isThr]
theorem out_thr (t : Int) : outB t 0 5 = !isThr t := by
  unfold outB isThr
  by_cases h1 : 0 ≤ t <;> by_cases h2 : t < 6 <;> simp [h1, h2] <;> omega
theorem f_Tick (c : Clk) (t : Int) : FnOK Try.prog 19 [dClk.emb c, .int .i64 t] [] (.tup [dClk.emb (tickF c t).1, .int .i64 (tickF c t).2]) [] := by
  refine fn_walkF c19 w19 Gt_ok rfl ?_
  unfold j19
  simp only [go_sem, ↓reduceIte, Nat.reduceAdd, Nat.reduceMul, Nat.reduceSub, Nat.reduceLT, Nat.reduceLeDiff, Nat.reduceEqDiff, Int.reduceToNat, reduceCtorEq, Gt_eq, tszC]
  have h1 := (isThr_iff t).1
  exact ⟨fun h => by simp [tickF, h, zeroC], fun h => ⟨h1 h, fun h2 => by simp [tickF, h, h2, zeroC], fun h2 => ⟨h1 h, h1 h, by simp [tickF, h, h2]⟩⟩⟩
theorem f_RTick (c : Clk) (t : Int) : FnOK Try.prog 20 [dClk.emb c, .int .i64 t] [] (.tup [dClk.emb (tickF c t).1, .int .i64 (tickF c t).2]) [] := by
  refine fn_walkF c20 w20 Gt_ok rfl ?_
  unfold j20
  simp only [go_sem, ↓reduceIte, Nat.reduceAdd, Nat.reduceMul, Nat.reduceSub, Nat.reduceLT, Nat.reduceLeDiff, Nat.reduceEqDiff, Int.reduceToNat, reduceCtorEq, Gt_eq, tszC]
  have h1 := (isThr_iff t).1
  simp only [out_thr, Bool.not_eq_true', Bool.not_eq_false']
  exact ⟨fun h => by simp [tickF, h, zeroC], fun h => ⟨h1 h, fun h2 => by simp [tickF, h, show 1000000 ≤ c t.toNat by omega, zeroC], fun h2 => ⟨h1 h, h1 h, by simp [tickF, h, show ¬ 1000000 ≤ c t.toNat by omega]⟩⟩⟩
def ofF (c : Clk) (t : Int) : Pr × Int := if isThr t then (⟨t, c t.toNat⟩, 0) else (⟨0, 0⟩, 1)
theorem tszE : tsz Try.prog 30 = some (2, true) := by kernel_rfl
theorem f_Of (c : Clk) (t : Int) : FnOK Try.prog 16 [dClk.emb c, .int .i64 t] [] (.tup [dPr.emb (ofF c t).1, .int .i64 (ofF c t).2]) [] := by
  refine fn_walkF c16 w16 Gt_ok rfl ?_
  unfold j16
  simp only [go_sem, ↓reduceIte, Nat.reduceAdd, Nat.reduceMul, Nat.reduceSub, Nat.reduceLT, Nat.reduceLeDiff, Nat.reduceEqDiff, Int.reduceToNat, reduceCtorEq, Gt_eq, tszE]
  have h1 := (isThr_iff t).1
  exact ⟨fun h => by simp [ofF, h], fun h => ⟨h1 h, by simp [ofF, h]⟩⟩
def seenB (e : Pr) (c : Clk) : Bool := isThr e.a && decide (e.b ≤ c e.a.toNat)
theorem f_Seen (e : Pr) (c : Clk) : FnOK Try.prog 17 [dPr.emb e, dClk.emb c] [] (.bool (seenB e c)) [] := by
  refine fn_walkF c17 w17 Gt_ok rfl ?_
  unfold j17
  simp only [go_sem, ↓reduceIte, Nat.reduceAdd, Nat.reduceMul, Nat.reduceSub, Nat.reduceLT, Nat.reduceLeDiff, Nat.reduceEqDiff, Int.reduceToNat, reduceCtorEq, Gt_eq, tszC]
  exact ⟨(isThr_iff e.a).1, rfl⟩
theorem f_RSeen (e : Pr) (c : Clk) : FnOK Try.prog 18 [dPr.emb e, dClk.emb c] [] (.bool (seenB e c)) [] := by
  refine fn_walkF c18 w18 FH.none_ok rfl ?_
  unfold j18
  simp only [go_sem, ↓reduceIte, Nat.reduceAdd, Nat.reduceMul, Nat.reduceSub, Nat.reduceLT, Nat.reduceLeDiff, Nat.reduceEqDiff, Int.reduceToNat, reduceCtorEq]
  refine loopF Nat (fun i => [.int .i64 i]) (fun i => [.blk 30 (dPr.emb e), .blk 28 (dClk.emb c)]) (fun i => i ≤ 6 ∧ (e.a < 0 ∨ i ≤ e.a)) (fun i => 6 - i) 0 (by omega) ?_ ?_ ?_
  · simp only [go_sem, ↓reduceIte, Nat.reduceAdd, Nat.reduceMul, Nat.reduceSub, Nat.reduceLT, Nat.reduceLeDiff, Nat.reduceEqDiff, Int.reduceToNat, reduceCtorEq]
  · rfl
  · intro i hi
    unfold j18_1
    simp only [go_sem, ↓reduceIte, Nat.reduceAdd, Nat.reduceMul, Nat.reduceSub, Nat.reduceLT, Nat.reduceLeDiff, Nat.reduceEqDiff, Int.reduceToNat, reduceCtorEq]
    refine ⟨fun h => ⟨by omega, fun h2 => ?_, fun h2 => ⟨i + 1, ⟨by omega, by omega⟩, by omega, ?_⟩⟩, fun h => ?_⟩
    · have h3 : isThr e.a = true := (isThr_iff _).2 (by omega)
      have h4 : e.a.toNat = i := by omega
      simp [seenB, h3, h4]
    · exact IntWalk.i64_in _ (by omega)
    · have h3 : isThr e.a = false := by
        have := isThr_iff e.a
        cases hh : isThr e.a with
        | false => rfl
        | true => have := this.1 hh; omega
      rw [show seenB e c = false by simp [seenB, h3]]
      unfold j18_2
      simp only [go_sem, ↓reduceIte, Nat.reduceAdd, Nat.reduceMul, Nat.reduceSub, Nat.reduceLT, Nat.reduceLeDiff, Nat.reduceEqDiff, Int.reduceToNat, reduceCtorEq]
def mergeF (a b : Clk) (f : Nat) : Clk := if f = 47 then joinC a b else meetC a b
def Gm (f : FuncId) (a : List SV) (m : List Res) : Sx.Call := (FH.rd 46 (.three dClk dClk DT.fnc) (.one dClk) (fun y => y.2.2.1 = 47 ∨ y.2.2.1 = 48) (fun y => mergeF y.1 y.2.1 y.2.2.1) FH.none) f a m
theorem Gm_eq (f : FuncId) (a : List SV) (m : List Res) : Gm f a m = (FH.rd 46 (.three dClk dClk DT.fnc) (.one dClk) (fun y => y.2.2.1 = 47 ∨ y.2.2.1 = 48) (fun y => mergeF y.1 y.2.1 y.2.2.1) FH.none) f a m := nr rfl
theorem Gm_ok : FHOK Try.prog Gm := FH.rd_ok (by kernel_rfl) (fun y h => by
  obtain ⟨a, b, f, u⟩ := y
  rcases h with h | h
  · simp only at h; subst h; exact f_merge1 a b
  · simp only at h; subst h; exact f_merge2 a b) FH.none_ok
theorem f_Join (a b : Clk) : FnOK Try.prog 25 [dClk.emb a, dClk.emb b] [] (dClk.emb (joinC a b)) [] := by
  refine fn_walkF c25 w25 Gm_ok rfl ?_
  unfold j25
  simp only [go_sem, ↓reduceIte, Nat.reduceAdd, Nat.reduceMul, Nat.reduceSub, Nat.reduceLT, Nat.reduceLeDiff, Nat.reduceEqDiff, Int.reduceToNat, reduceCtorEq, Gm_eq, tszC, mergeF]
theorem f_Meet (a b : Clk) : FnOK Try.prog 27 [dClk.emb a, dClk.emb b] [] (dClk.emb (meetC a b)) [] := by
  refine fn_walkF c27 w27 Gm_ok rfl ?_
  unfold j27
  simp only [go_sem, ↓reduceIte, Nat.reduceAdd, Nat.reduceMul, Nat.reduceSub, Nat.reduceLT, Nat.reduceLeDiff, Nat.reduceEqDiff, Int.reduceToNat, reduceCtorEq, Gm_eq, tszC, mergeF]
def withinB (a b : Clk) : Bool := (List.range 6).all fun i => decide (a i ≤ b i)
theorem all6 (p : Nat → Bool) : (List.range 6).all p = true ↔ ∀ k, k < 6 → p k = true := by simp
theorem within_join (a b : Clk) : ((List.range 6).all fun i => decide (joinC a b i = b i)) = withinB a b := by
  rw [Bool.eq_iff_iff, all6]
  unfold withinB
  rw [all6]
  refine forall_congr' fun k => forall_congr' fun hk => ?_
  simp only [joinC, mrg, if_pos hk, decide_eq_true_eq, mxI]
  split <;> omega
def Gj (f : FuncId) (a : List SV) (m : List Res) : Sx.Call := (FH.rd 25 (.two dClk dClk) (.one dClk) (fun _ => True) (fun y => joinC y.1 y.2.1) <| FH.none) f a m
theorem Gj_eq (f : FuncId) (a : List SV) (m : List Res) : Gj f a m = (FH.rd 25 (.two dClk dClk) (.one dClk) (fun _ => True) (fun y => joinC y.1 y.2.1) <| FH.none) f a m := nr rfl
theorem Gj_ok : FHOK Try.prog Gj := FH.rd_ok (by kernel_rfl) (fun y _ => f_Join y.1 y.2.1) FH.none_ok
theorem f_Within (a b : Clk) : FnOK Try.prog 21 [dClk.emb a, dClk.emb b] [] (.bool (withinB a b)) [] := by
  refine fn_walkF c21 w21 Gj_ok rfl ?_
  unfold j21
  simp only [go_sem, ↓reduceIte, Nat.reduceAdd, Nat.reduceMul, Nat.reduceSub, Nat.reduceLT, Nat.reduceLeDiff, Nat.reduceEqDiff, Int.reduceToNat, reduceCtorEq, Gj_eq]
  exact within_join a b
theorem f_RWithin (a b : Clk) : FnOK Try.prog 22 [dClk.emb a, dClk.emb b] [] (.bool (withinB a b)) [] := by
  refine fn_walkF c22 w22 FH.none_ok rfl ?_
  unfold j22
  simp only [go_sem, ↓reduceIte, Nat.reduceAdd, Nat.reduceMul, Nat.reduceSub, Nat.reduceLT, Nat.reduceLeDiff, Nat.reduceEqDiff, Int.reduceToNat, reduceCtorEq]
  refine loopF Nat (fun i => [.int .i64 i]) (fun i => [.blk 28 (dClk.emb a), .blk 28 (dClk.emb b)]) (fun i => i ≤ 6 ∧ ∀ k, k < i → a k ≤ b k) (fun i => 6 - i) 0 (by simp) ?_ ?_ ?_
  · simp only [go_sem, ↓reduceIte, Nat.reduceAdd, Nat.reduceMul, Nat.reduceSub, Nat.reduceLT, Nat.reduceLeDiff, Nat.reduceEqDiff, Int.reduceToNat, reduceCtorEq]
  · rfl
  · intro i hi
    unfold j22_1
    simp only [go_sem, ↓reduceIte, Nat.reduceAdd, Nat.reduceMul, Nat.reduceSub, Nat.reduceLT, Nat.reduceLeDiff, Nat.reduceEqDiff, Int.reduceToNat, reduceCtorEq]
    refine ⟨fun h => ⟨by omega, by omega, fun h2 => ?_, fun h2 => ⟨i + 1, ⟨by omega, fun k hk => ?_⟩, by omega, ?_⟩⟩, fun h => ?_⟩
    · symm
      rw [← Bool.not_eq_true, withinB, all6]
      intro hh
      have := hh i (by omega)
      simp only [decide_eq_true_eq] at this
      omega
    · by_cases e : k = i
      · subst e; omega
      · exact hi.2 k (by omega)
    · exact IntWalk.i64_in _ (by omega)
    · have hw : withinB a b = true := by
        rw [withinB, all6]
        intro k hk
        simpa using hi.2 k (by omega)
      rw [hw]
      unfold j22_2
      simp only [go_sem, ↓reduceIte, Nat.reduceAdd, Nat.reduceMul, Nat.reduceSub, Nat.reduceLT, Nat.reduceLeDiff, Nat.reduceEqDiff, Int.reduceToNat, reduceCtorEq]
/-- How two clocks lie. -/
def cmpC (a b : Clk) : Int := if withinB a b then (if withinB b a then 0 else 1) else (if withinB b a then 2 else 3)
theorem eq_within (a b : Clk) : ((List.range 6).all fun i => decide (a i = b i)) = (withinB a b && withinB b a) := by
  rw [Bool.eq_iff_iff, Bool.and_eq_true, all6, withinB, withinB, all6, all6]
  simp only [decide_eq_true_eq]
  exact ⟨fun h => ⟨fun k hk => by have := h k hk; omega, fun k hk => by have := h k hk; omega⟩, fun h k hk => by have := h.1 k hk; have := h.2 k hk; omega⟩
def Gw (f : FuncId) (a : List SV) (m : List Res) : Sx.Call := (FH.rd 21 (.two dClk dClk) (.one .bool) (fun _ => True) (fun y => withinB y.1 y.2.1) <| FH.rd 22 (.two dClk dClk) (.one .bool) (fun _ => True) (fun y => withinB y.1 y.2.1) <| FH.none) f a m
theorem Gw_eq (f : FuncId) (a : List SV) (m : List Res) : Gw f a m = (FH.rd 21 (.two dClk dClk) (.one .bool) (fun _ => True) (fun y => withinB y.1 y.2.1) <| FH.rd 22 (.two dClk dClk) (.one .bool) (fun _ => True) (fun y => withinB y.1 y.2.1) <| FH.none) f a m := nr rfl
theorem Gw_ok : FHOK Try.prog Gw := FH.rd_ok (by kernel_rfl) (fun y _ => f_Within y.1 y.2.1) <| FH.rd_ok (by kernel_rfl) (fun y _ => f_RWithin y.1 y.2.1) FH.none_ok
theorem f_Compare (a b : Clk) : FnOK Try.prog 23 [dClk.emb a, dClk.emb b] [] (.int .i64 (cmpC a b)) [] := by
  refine fn_walkF c23 w23 Gw_ok rfl ?_
  unfold j23
  simp only [go_sem, ↓reduceIte, Nat.reduceAdd, Nat.reduceMul, Nat.reduceSub, Nat.reduceLT, Nat.reduceLeDiff, Nat.reduceEqDiff, Int.reduceToNat, reduceCtorEq, Gw_eq]
  have e : ((List.range 0 ++ [0, 1, 2, 3, 4, 5]).all fun i => decide (a i = b i)) = (withinB a b && withinB b a) := eq_within a b
  rw [e]
  unfold cmpC
  cases withinB a b <;> cases withinB b a <;> simp
theorem f_RCompare (a b : Clk) : FnOK Try.prog 24 [dClk.emb a, dClk.emb b] [] (.int .i64 (cmpC a b)) [] := by
  refine fn_walkF c24 w24 Gw_ok rfl ?_
  unfold j24
  simp only [go_sem, ↓reduceIte, Nat.reduceAdd, Nat.reduceMul, Nat.reduceSub, Nat.reduceLT, Nat.reduceLeDiff, Nat.reduceEqDiff, Int.reduceToNat, reduceCtorEq, Gw_eq]
  unfold cmpC
  cases withinB a b <;> cases withinB b a <;> simp
def joinR (a b : Clk) (most : Bool) (n : Nat) : Clk := fun k => if k < n then (if decide (a k < b k) = most then b k else a k) else 0
theorem joinR_step (a b : Clk) (most : Bool) (n k : Nat) : joinR a b most (n + 1) k = if k = n then (if decide (a n < b n) = most then b n else a n) else joinR a b most n k := by
  unfold joinR
  by_cases h : k = n
  · subst h; simp
  · by_cases h2 : k < n
    · simp [h, h2, Nat.lt_succ_of_lt h2]
    · simp [h, h2, show ¬ k < n + 1 by omega]
theorem f_Joined (a b : Clk) (most : Bool) : FnOK Try.prog 26 [dClk.emb a, dClk.emb b, .bool most] [] (dClk.emb (joinR a b most 6)) [] := by
  refine fn_walkF c26 w26 FH.none_ok rfl ?_
  unfold j26
  simp only [go_sem, ↓reduceIte, Nat.reduceAdd, Nat.reduceMul, Nat.reduceSub, Nat.reduceLT, Nat.reduceLeDiff, Nat.reduceEqDiff, Int.reduceToNat, reduceCtorEq]
  refine loopF Nat (fun i => [.int .i64 i]) (fun i => [.blk 28 (dClk.emb a), .blk 28 (dClk.emb b), .blk 28 (dClk.emb fun _ => 0), .blk 28 (dClk.emb (joinR a b most i))]) (fun i => i ≤ 6) (fun i => 6 - i) 0 (by simp) ?_ ?_ ?_
  · simp only [go_sem, ↓reduceIte, Nat.reduceAdd, Nat.reduceMul, Nat.reduceSub, Nat.reduceLT, Nat.reduceLeDiff, Nat.reduceEqDiff, Int.reduceToNat, reduceCtorEq]
  · rfl
  · intro i hi
    unfold j26_1
    simp only [go_sem, ↓reduceIte, Nat.reduceAdd, Nat.reduceMul, Nat.reduceSub, Nat.reduceLT, Nat.reduceLeDiff, Nat.reduceEqDiff, Int.reduceToNat, reduceCtorEq, tszC]
    refine ⟨fun h => ⟨by omega, by omega, by omega, by omega, fun h2 => ⟨by omega, by omega, i + 1, by omega, by omega, IntWalk.i64_in _ (by omega), ?_⟩, fun h2 => ⟨i + 1, by omega, by omega, IntWalk.i64_in _ (by omega), ?_⟩⟩, fun h => ?_⟩
    · have h3 : decide (a i < b i) = most := by simpa using h2
      simp only [joinR_step, if_pos h3]
      have e : ∀ k, (if k = i then b i else if k = i then a i else joinR a b most i k) = if k = i then b i else joinR a b most i k := fun k => by
        by_cases hk : k = i <;> simp [hk]
      simp only [e]
    · have h3 : ¬ decide (a i < b i) = most := by simpa using h2
      simp only [joinR_step, if_neg h3]
    · rw [show i = 6 by omega]
      unfold j26_2
      simp only [go_sem, ↓reduceIte, Nat.reduceAdd, Nat.reduceMul, Nat.reduceSub, Nat.reduceLT, Nat.reduceLeDiff, Nat.reduceEqDiff, Int.reduceToNat, reduceCtorEq, tszC]
end Go.Proofs.Ytmddnblbfmlgoaa.C
