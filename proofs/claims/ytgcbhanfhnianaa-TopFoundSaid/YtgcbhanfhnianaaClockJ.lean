/- The package clock: Join, Within, Of, Seen (as far as a seat has them): what each hands back. Conditions: none. -/
import Derived.Test.YtgcbhanfhnianaaBase
import Derived.Test.YtgcbhanfhnianaaRows
import Derived.WalkKit
set_option linter.unusedSimpArgs false
set_option linter.unusedVariables false
set_option maxRecDepth 100000
open Go Go.Sx Go.Proofs
namespace Go.Proofs.Ytgcbhanfhnianaa.C
open Go.Proofs.Ytgcbhanfhnianaa.D

def j154 : JC :=
  (.seq (.ops <|
  qo 2 (.mv (I 0)) <|
  .nil)
  (.seq (.dops <|
  qo 3 (.mv (.t 0)) <|
  qo 4 (.is 1 (.t 3) (I 0)) <|
  eo 5 (.load 1 false (.t 4)) <|
  qo 6 (.mv (.t 0)) <|
  qo 7 (.is 1 (.t 6) (I 1)) <|
  eo 8 (.load 1 false (.t 7)) <|
  qo 9 (.mx (.t 5) (.t 8)) <|
  qo 2 (.mv (.t 9)) <|
  .nil)
  .ret))
theorem c154 : fnIs Try.prog qall 154 = some (j154.flat, [.tmp 2], 10) := by kernel_rfl
theorem w154 : j154.wf 10 = true := by kernel_rfl
def j153_1 : JC :=
  (.seq (.ops <|
  qo 11 (.cmp .lss (.t 10) (I 6)) <|
  .nil)
  (.seq (.cond (.t 11)
  .skip
  (.exit 0))
  (.seq (.block 1 (.seq (.ops <|
  qo 12 (.mv (.t 10)) <|
  qo 13 (.ix 6 1 false (.t 9) (.t 10)) <|
  qo 7 (.mv (.t 12)) <|
  qo 8 (.mv (.t 13)) <|
  .nil)
  (.prune [7, 2, 3, 8, 10, 9, 6] (.ops <|
  qo 14 (.mv (.t 7)) <|
  qo 15 (.mv (.t 2)) <|
  qo 16 (.mv (.t 7)) <|
  qo 17 (.ia 6 1 (.t 3) (.t 16)) <|
  eo 18 (.load 1 false (.t 17)) <|
  .prune [8, 18, 15, 3, 14, 10, 9, 2, 6] <|
  qo 19 (.mv (.t 8)) <|
  eo 20 (.bsl 3 1 2 (.int .i64 0) [(0, (.t 18)), (1, (.t 19))]) <|
  .prune [15, 20, 3, 14, 10, 9, 2, 6] <|
  eo 21 (.callv (.t 15) [(.t 20)]) <|
  qo 22 (.ia 6 1 (.t 3) (.t 14)) <|
  en (.store 1 (.t 22) (.t 21)) <|
  .nil))))
  (.prune [10, 9, 2, 3, 6] (.ops <|
  qo 23 (.ar .add (.t 10) (I 1)) <|
  qo 10 (.mv (.t 23)) <|
  .nil)))))
def j153_2 : JC :=
  (.prune [3, 6] (.seq (.ops <|
  eo 24 (.load 6 true (.t 3)) <|
  en (.store 6 (.t 6) (.t 24)) <|
  .nil)
  .ret))
def j153 : JC :=
  (.seq (.ops <|
  eo 3 (.box 166 (.t 0)) <|
  eo 4 (.box 166 (.t 1)) <|
  eo 6 (.alloc 166 (.arr 6 1 fun _ => (.int .i64 0))) <|
  .nil)
  (.seq (.seq (.ops <|
  eo 9 (.load 6 true (.t 4)) <|
  qo 10 (.mv (I 0)) <|
  .nil)
  (.block 0 (.loop [9, 2, 3, 6] [10] j153_1)))
  j153_2))
theorem c153 : fnIs Try.prog qall 153 = some (j153.flat, [.cell 6 166], 25) := by kernel_rfl
theorem w153 : j153.wf 25 = true := by kernel_rfl

def j129 : JC :=
  (.seq (.ops <|
  eo 2 (.box 166 (.t 0)) <|
  eo 3 (.box 166 (.t 1)) <|
  eo 4 (.alloc 166 (.arr 6 1 fun _ => (.int .i64 0))) <|
  .nil)
  (.seq (.ops <|
  eo 5 (.load 6 true (.t 2)) <|
  eo 6 (.load 6 true (.t 3)) <|
  eo 7 (.call 153 [(.t 5), (.t 6), (.c (.fn 154 []))]) <|
  en (.store 6 (.t 4) (.t 7)) <|
  .nil)
  .ret))
theorem c129 : fnIs Try.prog qall 129 = some (j129.flat, [.cell 4 166], 8) := by kernel_rfl
theorem w129 : j129.wf 8 = true := by kernel_rfl
def mxI (a b : Int) : Int := if a < b then b else a
theorem f_greater (l : List Int) (h : 2 ≤ l.length) : FnOK Try.prog 154 [(DT.list 1 DT.int).emb l] [] (.int .i64 (mxI (l.getD 0 0) (l.getD 1 0))) [] := by
  refine fn_walkF c154 w154 FH.none_ok rfl ?_
  unfold j154
  simp only [go_sem, ↓reduceIte, Nat.reduceAdd, Nat.reduceMul, Nat.reduceSub, Nat.reduceLT, Nat.reduceLeDiff, Nat.reduceEqDiff, Int.reduceToNat, Int.reduceEq, Int.reduceLT, Int.reduceLE, reduceCtorEq]
  first | exact ⟨by omega, by omega, rfl⟩ | exact ⟨by omega, by omega⟩ | exact ⟨⟨by omega, by omega⟩, ⟨by omega, by omega⟩, rfl⟩
def Gpick (f : FuncId) (a : List SV) (m : List Res) : Sx.Call := (FH.rd 154 (.one (DT.list 1 DT.int)) (.one .int) (fun y => 2 ≤ y.1.length) (fun y => mxI (y.1.getD 0 0) (y.1.getD 1 0)) FH.none) f a m
theorem Gpick_eq (f : FuncId) (a : List SV) (m : List Res) : Gpick f a m = (FH.rd 154 (.one (DT.list 1 DT.int)) (.one .int) (fun y => 2 ≤ y.1.length) (fun y => mxI (y.1.getD 0 0) (y.1.getD 1 0)) FH.none) f a m := nr rfl
theorem Gpick_ok : FHOK Try.prog Gpick := FH.rd_ok (by kernel_rfl) (fun y h => f_greater y.1 h) FH.none_ok
def mrg (g : Int → Int → Int) (a b : Clk) (n : Nat) : Clk := fun k => if k < n then g (a k) (b k) else a k
theorem mrg_step (g : Int → Int → Int) (a b : Clk) (n k : Nat) : (if k = n then g (a n) (b n) else mrg g a b n k) = mrg g a b (n + 1) k := by
  unfold mrg
  by_cases h : k = n
  · subst h; simp
  · by_cases h2 : k < n
    · simp [h, h2, Nat.lt_succ_of_lt h2]
    · simp [h, h2, show ¬ k < n + 1 by omega]
theorem mrg_at (g : Int → Int → Int) (a b : Clk) (n : Nat) : mrg g a b n n = a n := by simp [mrg]
theorem tszC : tsz Try.prog 166 = some (6, true) := by kernel_rfl
theorem f_merge1 (a b : Clk) : FnOK Try.prog 153 [dClk.emb a, dClk.emb b, .fn 154 []] [] (dClk.emb (mrg mxI a b 6)) [] := by
  refine fn_walkF c153 w153 Gpick_ok rfl ?_
  unfold j153
  simp only [go_sem, ↓reduceIte, Nat.reduceAdd, Nat.reduceMul, Nat.reduceSub, Nat.reduceLT, Nat.reduceLeDiff, Nat.reduceEqDiff, Int.reduceToNat, Int.reduceEq, Int.reduceLT, Int.reduceLE, reduceCtorEq]
  refine loopF Nat (fun i => [.int .i64 i]) (fun i => [.blk 166 (dClk.emb (mrg mxI a b i)), .blk 166 (dClk.emb b), .blk 166 (dClk.emb fun _ => 0)]) (fun i => i ≤ 6) (fun i => 6 - i) 0 (by omega) ?_ ?_ ?_
  · simp only [go_sem, ↓reduceIte, Nat.reduceAdd, Nat.reduceMul, Nat.reduceSub, Nat.reduceLT, Nat.reduceLeDiff, Nat.reduceEqDiff, Int.reduceToNat, Int.reduceEq, Int.reduceLT, Int.reduceLE, reduceCtorEq]
  · rfl
  · intro i hi
    unfold j153_1
    simp only [go_sem, ↓reduceIte, Nat.reduceAdd, Nat.reduceMul, Nat.reduceSub, Nat.reduceLT, Nat.reduceLeDiff, Nat.reduceEqDiff, Int.reduceToNat, Int.reduceEq, Int.reduceLT, Int.reduceLE, reduceCtorEq, Gpick_eq, tszC]
    refine ⟨fun h => ⟨by omega, by omega, by omega, i + 1, by omega, by omega, ?_, ?_⟩, fun h => ?_⟩
    · exact IntWalk.i64_in _ (by omega)
    · simp only [mrg_at, mrg_step]
    · rw [show i = 6 by omega]
      unfold j153_2
      simp only [go_sem, ↓reduceIte, Nat.reduceAdd, Nat.reduceMul, Nat.reduceSub, Nat.reduceLT, Nat.reduceLeDiff, Nat.reduceEqDiff, Int.reduceToNat, Int.reduceEq, Int.reduceLT, Int.reduceLE, reduceCtorEq, tszC]
def joinC (a b : Clk) : Clk := mrg mxI a b 6
def Gm (f : FuncId) (a : List SV) (m : List Res) : Sx.Call := (FH.rd 153 (.three dClk dClk DT.fnc) (.one dClk) (fun y => y.2.2.1 = 154) (fun y => joinC y.1 y.2.1) FH.none) f a m
theorem Gm_eq (f : FuncId) (a : List SV) (m : List Res) : Gm f a m = (FH.rd 153 (.three dClk dClk DT.fnc) (.one dClk) (fun y => y.2.2.1 = 154) (fun y => joinC y.1 y.2.1) FH.none) f a m := nr rfl
theorem Gm_ok : FHOK Try.prog Gm := FH.rd_ok (by kernel_rfl) (fun y h => by
  obtain ⟨a, b, f, u⟩ := y
  simp only at h; subst h; exact f_merge1 a b) FH.none_ok
theorem f_Join (a b : Clk) : FnOK Try.prog 129 [dClk.emb a, dClk.emb b] [] (dClk.emb (joinC a b)) [] := by
  refine fn_walkF c129 w129 Gm_ok rfl ?_
  unfold j129
  simp only [go_sem, ↓reduceIte, Nat.reduceAdd, Nat.reduceMul, Nat.reduceSub, Nat.reduceLT, Nat.reduceLeDiff, Nat.reduceEqDiff, Int.reduceToNat, Int.reduceEq, Int.reduceLT, Int.reduceLE, reduceCtorEq, Gm_eq, tszC]
end Go.Proofs.Ytgcbhanfhnianaa.C
