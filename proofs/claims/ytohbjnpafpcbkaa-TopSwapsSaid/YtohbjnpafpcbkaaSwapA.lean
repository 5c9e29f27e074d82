/- Which events stand apart: the package swap and its reference. Conditions: none. -/
import Derived.Test.YtohbjnpafpcbkaaBase
import Derived.Test.YtohbjnpafpcbkaaRows
import Derived.WalkKit
set_option linter.unusedSimpArgs false
set_option linter.unusedVariables false
set_option maxRecDepth 100000
open Go Go.Sx Go.Proofs
namespace Go.Proofs.Ytohbjnpafpcbkaa.Sw
open Go.Proofs.Ytohbjnpafpcbkaa.D

def j79 : JC :=
  (.seq (.ops <|
  eo 2 (.box 54 (.t 0)) <|
  eo 3 (.box 54 (.t 1)) <|
  qo 4 (.mv (B false)) <|
  .nil)
  (.seq (.ops <|
  qo 5 (.fa 0 0 (.t 2)) <|
  eo 6 (.load 1 false (.t 5)) <|
  qo 7 (.cmp .eql (.t 6) (I 5)) <|
  qo 8 (.mv (.t 7)) <|
  .prune [8, 2, 3] <|
  .sc true 12 8 (qo 9 (.fa 0 0 (.t 2)) <|
  eo 10 (.load 1 false (.t 9)) <|
  qo 11 (.cmp .eql (.t 10) (I 6)) <|
  .nil) (.t 11) <|
  qo 13 (.mv (.t 12)) <|
  .sc false 19 13 (qo 14 (.fa 2 2 (.t 2)) <|
  eo 15 (.load 1 false (.t 14)) <|
  qo 16 (.fa 1 1 (.t 3)) <|
  eo 17 (.load 1 false (.t 16)) <|
  qo 18 (.cmp .eql (.t 15) (.t 17)) <|
  .nil) (.t 18) <|
  qo 4 (.mv (.t 19)) <|
  .nil)
  .ret))
theorem c79 : fnIs Try.prog qall 79 = some (j79.flat, [.tmp 4], 20) := by kernel_rfl
theorem w79 : j79.wf 20 = true := by kernel_rfl

def j80 : JC :=
  (.seq (.ops <|
  qo 2 (.mv (I 0)) <|
  qo 3 (.mv (B false)) <|
  .nil)
  (.seq (.seq (.ops <|
  qo 4 (.mv (.t 0)) <|
  .nil)
  (.block 0 (.seq (.seq (.ops <|
  qo 6 (.cmp .eql (.t 4) (I 1)) <|
  qo 5 (.mv (.t 6)) <|
  .nil)
  (.orc 5 <|
  qo 7 (.cmp .eql (.t 4) (I 2)) <|
  qo 5 (.mv (.t 7)) <|
  .nil))
  (.cond (.t 5)
  (.seq (.ops <|
  .prune [0] <|
  qo 8 (.mv (.t 0)) <|
  qo 9 (.cmp .eql (.t 8) (I 1)) <|
  qo 2 (.mv (I 1)) <|
  qo 3 (.mv (.t 9)) <|
  .nil)
  .ret)
  (.seq (.seq (.ops <|
  qo 11 (.cmp .eql (.t 4) (I 3)) <|
  qo 10 (.mv (.t 11)) <|
  .nil)
  (.orc 10 <|
  qo 12 (.cmp .eql (.t 4) (I 4)) <|
  qo 10 (.mv (.t 12)) <|
  .nil))
  (.prune [10, 4, 0] (.cond (.t 10)
  (.seq (.ops <|
  qo 2 (.mv (I 2)) <|
  qo 3 (.mv (B false)) <|
  .nil)
  .ret)
  (.seq (.seq (.ops <|
  qo 14 (.cmp .eql (.t 4) (I 5)) <|
  qo 13 (.mv (.t 14)) <|
  .nil)
  (.orc 13 <|
  qo 15 (.cmp .eql (.t 4) (I 6)) <|
  qo 13 (.mv (.t 15)) <|
  .nil))
  (.cond (.t 13)
  (.seq (.ops <|
  .prune [0] <|
  qo 16 (.mv (.t 0)) <|
  qo 17 (.cmp .eql (.t 16) (I 6)) <|
  qo 2 (.mv (I 3)) <|
  qo 3 (.mv (.t 17)) <|
  .nil)
  .ret)
  (.seq (.seq (.ops <|
  qo 19 (.cmp .eql (.t 4) (I 7)) <|
  qo 18 (.mv (.t 19)) <|
  .nil)
  (.orc 18 <|
  qo 20 (.cmp .eql (.t 4) (I 8)) <|
  qo 18 (.mv (.t 20)) <|
  .nil))
  (.prune [18, 0] (.cond (.t 18)
  (.seq (.ops <|
  qo 21 (.mv (.t 0)) <|
  qo 22 (.cmp .eql (.t 21) (I 7)) <|
  qo 2 (.mv (I 4)) <|
  qo 3 (.mv (.t 22)) <|
  .nil)
  .ret)
  .skip))))))))))))
  (.prune [] (.seq (.ops <|
  qo 2 (.mv (I 0)) <|
  qo 3 (.mv (B false)) <|
  .nil)
  .ret))))
theorem c80 : fnIs Try.prog qall 80 = some (j80.flat, [.tmp 2, .tmp 3], 23) := by kernel_rfl
theorem w80 : j80.wf 23 = true := by kernel_rfl

def j48 : JC :=
  (.seq (.ops <|
  eo 2 (.box 54 (.t 0)) <|
  eo 3 (.box 54 (.t 1)) <|
  qo 4 (.mv (B false)) <|
  .nil)
  (.seq (.seq (.ops <|
  qo 9 (.fa 1 1 (.t 2)) <|
  eo 10 (.load 1 false (.t 9)) <|
  qo 11 (.fa 1 1 (.t 3)) <|
  eo 12 (.load 1 false (.t 11)) <|
  .prune [10, 12, 2, 3] <|
  qo 13 (.cmp .eql (.t 10) (.t 12)) <|
  qo 14 (.mv (.t 13)) <|
  .sc true 18 14 (eo 15 (.load 3 true (.t 2)) <|
  eo 16 (.load 3 true (.t 3)) <|
  eo 17 (.call 79 [(.t 15), (.t 16)]) <|
  .nil) (.t 17) <|
  .prune [18, 3, 2] <|
  qo 19 (.mv (.t 18)) <|
  .sc true 23 19 (eo 20 (.load 3 true (.t 3)) <|
  eo 21 (.load 3 true (.t 2)) <|
  eo 22 (.call 79 [(.t 20), (.t 21)]) <|
  .nil) (.t 22) <|
  .nil)
  (.prune [23, 2, 3] (.cond (.t 23)
  (.seq (.ops <|
  qo 4 (.mv (B false)) <|
  .nil)
  .ret)
  .skip)))
  (.prune [2, 3] (.seq (.ops <|
  qo 25 (.fa 0 0 (.t 2)) <|
  eo 26 (.load 1 false (.t 25)) <|
  eo 27 (.call 80 [(.t 26)]) <|
  qo 24 (.mv (.t 27)) <|
  qo 28 (.ext 0 (.t 24)) <|
  .prune [24, 28, 3, 2] <|
  qo 29 (.ext 1 (.t 24)) <|
  qo 5 (.mv (.t 28)) <|
  qo 6 (.mv (.t 29)) <|
  .nil)
  (.prune [3, 5, 2, 6] (.seq (.ops <|
  qo 31 (.fa 0 0 (.t 3)) <|
  eo 32 (.load 1 false (.t 31)) <|
  eo 33 (.call 80 [(.t 32)]) <|
  qo 30 (.mv (.t 33)) <|
  .prune [30, 5, 2, 3, 6] <|
  qo 34 (.ext 0 (.t 30)) <|
  qo 35 (.ext 1 (.t 30)) <|
  qo 7 (.mv (.t 34)) <|
  qo 8 (.mv (.t 35)) <|
  .nil)
  (.prune [5, 7, 2, 3, 6, 8] (.seq (.ops <|
  qo 36 (.mv (.t 5)) <|
  qo 37 (.cmp .eql (.t 36) (I 0)) <|
  qo 38 (.mv (.t 37)) <|
  .sc true 42 38 (qo 39 (.mv (.t 5)) <|
  qo 40 (.mv (.t 7)) <|
  qo 41 (.cmp .neq (.t 39) (.t 40)) <|
  .nil) (.t 41) <|
  .prune [42, 2, 3, 6, 8] <|
  qo 43 (.mv (.t 42)) <|
  .sc true 49 43 (qo 44 (.fa 2 2 (.t 2)) <|
  eo 45 (.load 1 false (.t 44)) <|
  qo 46 (.fa 2 2 (.t 3)) <|
  eo 47 (.load 1 false (.t 46)) <|
  qo 48 (.cmp .neq (.t 45) (.t 47)) <|
  .nil) (.t 48) <|
  .prune [49, 6, 8] <|
  qo 50 (.mv (.t 49)) <|
  .sc true 55 50 (qo 51 (.mv (.t 6)) <|
  qo 52 (.mv (.t 51)) <|
  .sc false 54 52 (qo 53 (.mv (.t 8)) <|
  .nil) (.t 53) <|
  .nil) (.t 54) <|
  qo 4 (.mv (.t 55)) <|
  .nil)
  .ret))))))))
theorem c48 : fnIs Try.prog qall 48 = some (j48.flat, [.tmp 4], 56) := by kernel_rfl
theorem w48 : j48.wf 56 = true := by kernel_rfl

def touchB (a b : Ev) : Bool := (decide (a.kind = 5) || decide (a.kind = 6)) && decide (a.obj = b.thr)
theorem f_touches (a b : Ev) : FnOK Try.prog 79 [dEv.emb a, dEv.emb b] [] (.bool (touchB a b)) [] := by
  refine fn_walkF c79 w79 FH.none_ok rfl ?_
  unfold j79
  simp only [go_sem, ↓reduceIte, Nat.reduceAdd, Nat.reduceMul, Nat.reduceSub, Nat.reduceLT, Nat.reduceLeDiff, Nat.reduceEqDiff, Int.reduceToNat, Int.reduceEq, Int.reduceLT, Int.reduceLE, reduceCtorEq]
  rfl
def grp (k : Int) : Int × Bool := if k = 1 ∨ k = 2 then (1, decide (k = 1)) else if k = 3 ∨ k = 4 then (2, false) else if k = 5 ∨ k = 6 then (3, decide (k = 6)) else if k = 7 ∨ k = 8 then (4, decide (k = 7)) else (0, false)
theorem f_group (k : Int) : FnOK Try.prog 80 [.int .i64 k] [] (.tup [.int .i64 (grp k).1, .bool (grp k).2]) [] := by
  refine fn_walkF c80 w80 FH.none_ok rfl ?_
  unfold j80
  simp only [go_sem, ↓reduceIte, Nat.reduceAdd, Nat.reduceMul, Nat.reduceSub, Nat.reduceLT, Nat.reduceLeDiff, Nat.reduceEqDiff, Int.reduceToNat, Int.reduceEq, Int.reduceLT, Int.reduceLE, reduceCtorEq]
  unfold grp
  refine ⟨fun h => ?_, fun h => ⟨fun h2 => ?_, fun h2 => ⟨fun h3 => ?_, fun h3 => ⟨fun h4 => ?_, fun h4 => ?_⟩⟩⟩⟩ <;> simp_all
def apartB (a b : Ev) : Bool :=
  if decide (a.thr = b.thr) || touchB a b || touchB b a then false else
    decide ((grp a.kind).1 = 0) || !decide ((grp a.kind).1 = (grp b.kind).1) || !decide (a.obj = b.obj) || ((grp a.kind).2 && (grp b.kind).2)
def GApart (f : FuncId) (a : List SV) (m : List Res) : Sx.Call := (FH.rd 79 (.two dEv dEv) (.one .bool) (fun _ => True) (fun y => touchB y.1 y.2.1) <| FH.rd 80 (.one .int) (.two .int .bool) (fun _ => True) (fun y => grp y.1) FH.none) f a m
theorem GApart_eq (f : FuncId) (a : List SV) (m : List Res) : GApart f a m = (FH.rd 79 (.two dEv dEv) (.one .bool) (fun _ => True) (fun y => touchB y.1 y.2.1) <| FH.rd 80 (.one .int) (.two .int .bool) (fun _ => True) (fun y => grp y.1) FH.none) f a m := nr rfl
theorem GApart_ok : FHOK Try.prog GApart := FH.rd_ok (by kernel_rfl) (fun y _ => f_touches y.1 y.2.1) <| FH.rd_ok (by kernel_rfl) (fun y _ => f_group y.1) FH.none_ok
theorem f_Apart (a b : Ev) : FnOK Try.prog 48 [dEv.emb a, dEv.emb b] [] (.bool (apartB a b)) [] := by
  refine fn_walkF c48 w48 GApart_ok rfl ?_
  unfold j48
  simp only [go_sem, ↓reduceIte, Nat.reduceAdd, Nat.reduceMul, Nat.reduceSub, Nat.reduceLT, Nat.reduceLeDiff, Nat.reduceEqDiff, Int.reduceToNat, Int.reduceEq, Int.reduceLT, Int.reduceLE, reduceCtorEq, GApart_eq]
  unfold apartB
  exact ⟨fun h => by rw [if_pos h], fun h => by rw [if_neg (by rw [h]; decide)]⟩
end Go.Proofs.Ytohbjnpafpcbkaa.Sw
