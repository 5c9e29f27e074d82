/- Which events stand apart: the package swap and its reference. Conditions: none. -/
import Derived.Test.YtafcmgfmmlnngaaBase
import Derived.Test.YtafcmgfmmlnngaaRows
import Derived.WalkKit
set_option linter.unusedSimpArgs false
set_option linter.unusedVariables false
set_option maxRecDepth 100000
open Go Go.Sx Go.Proofs
namespace Go.Proofs.Ytafcmgfmmlnngaa.Sw
open Go.Proofs.Ytafcmgfmmlnngaa.D

def j99 : JC :=
  (.seq (.ops <|
  eo 2 (.box 35 (.t 0)) <|
  eo 3 (.box 35 (.t 1)) <|
  qo 4 (.mv (B false)) <|
  .nil)
  (.seq (.ops <|
  qo 5 (.fa 0 0 (.t 2)) <|
  eo 6 (.load 1 false (.t 5)) <|
  qo 7 (.cmp .eql (.t 6) (I 5)) <|
  qo 8 (.mv (.t 7)) <|
  .prune [8, 2, 3] <|
  .sc true 12 8 (qo 9 (.fa 0 0 (.t 2)) <|
  eo 10 (.load 1 false (.t 9)) <|
  qo 11 (.cmp .eql (.t 10) (I 6)) <|
  .nil) (.t 11) <|
  qo 13 (.mv (.t 12)) <|
  .sc false 19 13 (qo 14 (.fa 2 2 (.t 2)) <|
  eo 15 (.load 1 false (.t 14)) <|
  qo 16 (.fa 1 1 (.t 3)) <|
  eo 17 (.load 1 false (.t 16)) <|
  qo 18 (.cmp .eql (.t 15) (.t 17)) <|
  .nil) (.t 18) <|
  qo 4 (.mv (.t 19)) <|
  .nil)
  .ret))
theorem c99 : fnIs Try.prog qall 99 = some (j99.flat, [.tmp 4], 20) := by kernel_rfl
theorem w99 : j99.wf 20 = true := by kernel_rfl

def j100 : JC :=
  (.seq (.ops <|
  qo 2 (.mv (I 0)) <|
  qo 3 (.mv (B false)) <|
  .nil)
  (.seq (.seq (.ops <|
  qo 4 (.mv (.t 0)) <|
  .nil)
  (.block 0 (.seq (.seq (.ops <|
  qo 6 (.cmp .eql (.t 4) (I 1)) <|
  qo 5 (.mv (.t 6)) <|
  .nil)
  (.orc 5 <|
  qo 7 (.cmp .eql (.t 4) (I 2)) <|
  qo 5 (.mv (.t 7)) <|
  .nil))
  (.cond (.t 5)
  (.seq (.ops <|
  .prune [0] <|
  qo 8 (.mv (.t 0)) <|
  qo 9 (.cmp .eql (.t 8) (I 1)) <|
  qo 2 (.mv (I 1)) <|
  qo 3 (.mv (.t 9)) <|
  .nil)
  .ret)
  (.seq (.seq (.ops <|
  qo 11 (.cmp .eql (.t 4) (I 3)) <|
  qo 10 (.mv (.t 11)) <|
  .nil)
  (.orc 10 <|
  qo 12 (.cmp .eql (.t 4) (I 4)) <|
  qo 10 (.mv (.t 12)) <|
  .nil))
  (.prune [10, 4, 0] (.cond (.t 10)
  (.seq (.ops <|
  qo 2 (.mv (I 2)) <|
  qo 3 (.mv (B false)) <|
  .nil)
  .ret)
  (.seq (.seq (.ops <|
  qo 14 (.cmp .eql (.t 4) (I 5)) <|
  qo 13 (.mv (.t 14)) <|
  .nil)
  (.orc 13 <|
  qo 15 (.cmp .eql (.t 4) (I 6)) <|
  qo 13 (.mv (.t 15)) <|
  .nil))
  (.cond (.t 13)
  (.seq (.ops <|
  .prune [0] <|
  qo 16 (.mv (.t 0)) <|
  qo 17 (.cmp .eql (.t 16) (I 6)) <|
  qo 2 (.mv (I 3)) <|
  qo 3 (.mv (.t 17)) <|
  .nil)
  .ret)
  (.seq (.seq (.ops <|
  qo 19 (.cmp .eql (.t 4) (I 7)) <|
  qo 18 (.mv (.t 19)) <|
  .nil)
  (.orc 18 <|
  qo 20 (.cmp .eql (.t 4) (I 8)) <|
  qo 18 (.mv (.t 20)) <|
  .nil))
  (.prune [18, 0] (.cond (.t 18)
  (.seq (.ops <|
  qo 21 (.mv (.t 0)) <|
  qo 22 (.cmp .eql (.t 21) (I 7)) <|
  qo 2 (.mv (I 4)) <|
  qo 3 (.mv (.t 22)) <|
  .nil)
  .ret)
  .skip))))))))))))
  (.prune [] (.seq (.ops <|
  qo 2 (.mv (I 0)) <|
  qo 3 (.mv (B false)) <|
  .nil)
  .ret))))
theorem c100 : fnIs Try.prog qall 100 = some (j100.flat, [.tmp 2, .tmp 3], 23) := by kernel_rfl
theorem w100 : j100.wf 23 = true := by kernel_rfl

def j78 : JC :=
  (.seq (.ops <|
  eo 2 (.box 35 (.t 0)) <|
  eo 3 (.box 35 (.t 1)) <|
  qo 4 (.mv (B false)) <|
  .nil)
  (.seq (.seq (.ops <|
  qo 9 (.fa 1 1 (.t 2)) <|
  eo 10 (.load 1 false (.t 9)) <|
  qo 11 (.fa 1 1 (.t 3)) <|
  eo 12 (.load 1 false (.t 11)) <|
  .prune [10, 12, 2, 3] <|
  qo 13 (.cmp .eql (.t 10) (.t 12)) <|
  qo 14 (.mv (.t 13)) <|
  .sc true 18 14 (eo 15 (.load 3 true (.t 2)) <|
  eo 16 (.load 3 true (.t 3)) <|
  eo 17 (.call 99 [(.t 15), (.t 16)]) <|
  .nil) (.t 17) <|
  .prune [18, 3, 2] <|
  qo 19 (.mv (.t 18)) <|
  .sc true 23 19 (eo 20 (.load 3 true (.t 3)) <|
  eo 21 (.load 3 true (.t 2)) <|
  eo 22 (.call 99 [(.t 20), (.t 21)]) <|
  .nil) (.t 22) <|
  .nil)
  (.prune [23, 2, 3] (.cond (.t 23)
  (.seq (.ops <|
  qo 4 (.mv (B false)) <|
  .nil)
  .ret)
  .skip)))
  (.prune [2, 3] (.seq (.ops <|
  qo 25 (.fa 0 0 (.t 2)) <|
  eo 26 (.load 1 false (.t 25)) <|
  eo 27 (.call 100 [(.t 26)]) <|
  qo 24 (.mv (.t 27)) <|
  qo 28 (.ext 0 (.t 24)) <|
  .prune [24, 28, 3, 2] <|
  qo 29 (.ext 1 (.t 24)) <|
  qo 5 (.mv (.t 28)) <|
  qo 6 (.mv (.t 29)) <|
  .nil)
  (.prune [3, 5, 2, 6] (.seq (.ops <|
  qo 31 (.fa 0 0 (.t 3)) <|
  eo 32 (.load 1 false (.t 31)) <|
  eo 33 (.call 100 [(.t 32)]) <|
  qo 30 (.mv (.t 33)) <|
  .prune [30, 5, 2, 3, 6] <|
  qo 34 (.ext 0 (.t 30)) <|
  qo 35 (.ext 1 (.t 30)) <|
  qo 7 (.mv (.t 34)) <|
  qo 8 (.mv (.t 35)) <|
  .nil)
  (.prune [5, 7, 2, 3, 6, 8] (.seq (.ops <|
  qo 36 (.mv (.t 5)) <|
  qo 37 (.cmp .eql (.t 36) (I 0)) <|
  qo 38 (.mv (.t 37)) <|
  .sc true 42 38 (qo 39 (.mv (.t 5)) <|
  qo 40 (.mv (.t 7)) <|
  qo 41 (.cmp .neq (.t 39) (.t 40)) <|
  .nil) (.t 41) <|
  .prune [42, 2, 3, 6, 8] <|
  qo 43 (.mv (.t 42)) <|
  .sc true 49 43 (qo 44 (.fa 2 2 (.t 2)) <|
  eo 45 (.load 1 false (.t 44)) <|
  qo 46 (.fa 2 2 (.t 3)) <|
  eo 47 (.load 1 false (.t 46)) <|
  qo 48 (.cmp .neq (.t 45) (.t 47)) <|
  .nil) (.t 48) <|
  .prune [49, 6, 8] <|
  qo 50 (.mv (.t 49)) <|
  .sc true 55 50 (qo 51 (.mv (.t 6)) <|
  qo 52 (.mv (.t 51)) <|
  .sc false 54 52 (qo 53 (.mv (.t 8)) <|
  .nil) (.t 53) <|
  .nil) (.t 54) <|
  qo 4 (.mv (.t 55)) <|
  .nil)
  .ret))))))))
theorem c78 : fnIs Try.prog qall 78 = some (j78.flat, [.tmp 4], 56) := by kernel_rfl
theorem w78 : j78.wf 56 = true := by kernel_rfl

def j90 : JC :=
  (.seq (.ops <|
  qo 6 (.mv (B false)) <|
  .nil)
  (.seq (.ops <|
  qo 7 (.fa 0 0 (.t 2)) <|
  eo 8 (.load 1 false (.t 7)) <|
  qo 9 (.mv (.t 0)) <|
  qo 10 (.cmp .eql (.t 8) (.t 9)) <|
  qo 11 (.mv (.t 10)) <|
  .sc true 16 11 (qo 12 (.fa 0 0 (.t 2)) <|
  eo 13 (.load 1 false (.t 12)) <|
  qo 14 (.mv (.t 1)) <|
  qo 15 (.cmp .eql (.t 13) (.t 14)) <|
  .nil) (.t 15) <|
  qo 17 (.mv (.t 16)) <|
  .prune [17, 3, 0, 1, 2] <|
  .sc false 28 17 (qo 18 (.fa 0 0 (.t 3)) <|
  eo 19 (.load 1 false (.t 18)) <|
  qo 20 (.mv (.t 0)) <|
  qo 21 (.cmp .eql (.t 19) (.t 20)) <|
  qo 22 (.mv (.t 21)) <|
  .sc true 27 22 (qo 23 (.fa 0 0 (.t 3)) <|
  eo 24 (.load 1 false (.t 23)) <|
  qo 25 (.mv (.t 1)) <|
  qo 26 (.cmp .eql (.t 24) (.t 25)) <|
  .nil) (.t 26) <|
  .nil) (.t 27) <|
  qo 29 (.mv (.t 28)) <|
  .prune [29, 2, 3] <|
  .sc false 35 29 (qo 30 (.fa 2 2 (.t 2)) <|
  eo 31 (.load 1 false (.t 30)) <|
  qo 32 (.fa 2 2 (.t 3)) <|
  eo 33 (.load 1 false (.t 32)) <|
  qo 34 (.cmp .eql (.t 31) (.t 33)) <|
  .nil) (.t 34) <|
  qo 6 (.mv (.t 35)) <|
  .nil)
  .ret))
theorem c90 : fnIs Try.prog qall 90 = some (j90.flat, [.tmp 6], 36) := by kernel_rfl
theorem w90 : j90.wf 36 = true := by kernel_rfl

def j91 : JC :=
  (.seq (.ops <|
  eo 2 (.box 35 (.t 0)) <|
  eo 3 (.box 35 (.t 1)) <|
  qo 4 (.mv (B false)) <|
  .nil)
  (.seq (.ops <|
  qo 5 (.fa 0 0 (.t 2)) <|
  eo 6 (.load 1 false (.t 5)) <|
  qo 7 (.cmp .eql (.t 6) (I 5)) <|
  qo 8 (.mv (.t 7)) <|
  .prune [8, 2, 3] <|
  .sc true 12 8 (qo 9 (.fa 0 0 (.t 2)) <|
  eo 10 (.load 1 false (.t 9)) <|
  qo 11 (.cmp .eql (.t 10) (I 6)) <|
  .nil) (.t 11) <|
  qo 13 (.mv (.t 12)) <|
  .sc false 19 13 (qo 14 (.fa 2 2 (.t 2)) <|
  eo 15 (.load 1 false (.t 14)) <|
  qo 16 (.fa 1 1 (.t 3)) <|
  eo 17 (.load 1 false (.t 16)) <|
  qo 18 (.cmp .eql (.t 15) (.t 17)) <|
  .nil) (.t 18) <|
  qo 4 (.mv (.t 19)) <|
  .nil)
  .ret))
theorem c91 : fnIs Try.prog qall 91 = some (j91.flat, [.tmp 4], 20) := by kernel_rfl
theorem w91 : j91.wf 20 = true := by kernel_rfl

def j59 : JC :=
  (.seq (.ops <|
  eo 2 (.box 35 (.t 0)) <|
  eo 3 (.box 35 (.t 1)) <|
  qo 4 (.mv (B false)) <|
  .nil)
  (.seq (.ops <|
  qo 7 (.mkfn 90 [(.t 2), (.t 3)]) <|
  qo 5 (.mv (.t 7)) <|
  .nil)
  (.seq (.seq (.ops <|
  qo 8 (.fa 1 1 (.t 2)) <|
  eo 9 (.load 1 false (.t 8)) <|
  .prune [3, 9, 5, 2] <|
  qo 10 (.fa 1 1 (.t 3)) <|
  eo 11 (.load 1 false (.t 10)) <|
  qo 12 (.cmp .eql (.t 9) (.t 11)) <|
  .prune [12, 5, 2, 3] <|
  qo 13 (.mv (.t 12)) <|
  .sc true 24 13 (qo 14 (.mv (.t 5)) <|
  eo 15 (.callv (.t 14) [(I 1), (I 2)]) <|
  qo 16 (.mv (.t 15)) <|
  .sc false 23 16 (qo 17 (.fa 0 0 (.t 2)) <|
  eo 18 (.load 1 false (.t 17)) <|
  qo 19 (.fa 0 0 (.t 3)) <|
  eo 20 (.load 1 false (.t 19)) <|
  qo 21 (.ar .add (.t 18) (.t 20)) <|
  qo 22 (.cmp .gtr (.t 21) (I 2)) <|
  .nil) (.t 22) <|
  .nil) (.t 23) <|
  qo 25 (.mv (.t 24)) <|
  .prune [25, 5, 2, 3] <|
  .sc true 28 25 (qo 26 (.mv (.t 5)) <|
  eo 27 (.callv (.t 26) [(I 3), (I 4)]) <|
  .nil) (.t 27) <|
  qo 29 (.mv (.t 28)) <|
  .sc true 40 29 (qo 30 (.mv (.t 5)) <|
  eo 31 (.callv (.t 30) [(I 7), (I 8)]) <|
  qo 32 (.mv (.t 31)) <|
  .sc false 39 32 (qo 33 (.fa 0 0 (.t 2)) <|
  eo 34 (.load 1 false (.t 33)) <|
  qo 35 (.fa 0 0 (.t 3)) <|
  eo 36 (.load 1 false (.t 35)) <|
  qo 37 (.ar .add (.t 34) (.t 36)) <|
  qo 38 (.cmp .gtr (.t 37) (I 14)) <|
  .nil) (.t 38) <|
  .nil) (.t 39) <|
  .prune [40, 5, 2, 3] <|
  qo 41 (.mv (.t 40)) <|
  .sc true 52 41 (qo 42 (.mv (.t 5)) <|
  eo 43 (.callv (.t 42) [(I 5), (I 6)]) <|
  qo 44 (.mv (.t 43)) <|
  .sc false 51 44 (qo 45 (.fa 0 0 (.t 2)) <|
  eo 46 (.load 1 false (.t 45)) <|
  qo 47 (.fa 0 0 (.t 3)) <|
  eo 48 (.load 1 false (.t 47)) <|
  qo 49 (.ar .add (.t 46) (.t 48)) <|
  qo 50 (.cmp .lss (.t 49) (I 12)) <|
  .nil) (.t 50) <|
  .nil) (.t 51) <|
  .nil)
  (.prune [52, 2, 3] (.cond (.t 52)
  (.seq (.ops <|
  qo 4 (.mv (B false)) <|
  .nil)
  .ret)
  .skip)))
  (.prune [2, 3] (.seq (.ops <|
  qo 6 (.mv (.c (.fn 91 []))) <|
  .nil)
  (.seq (.ops <|
  qo 53 (.mv (.t 6)) <|
  eo 54 (.load 3 true (.t 2)) <|
  eo 55 (.load 3 true (.t 3)) <|
  eo 56 (.callv (.t 53) [(.t 54), (.t 55)]) <|
  .prune [56, 6, 3, 2] <|
  qo 57 (.nt (.t 56)) <|
  qo 58 (.mv (.t 57)) <|
  .sc false 64 58 (qo 59 (.mv (.t 6)) <|
  eo 60 (.load 3 true (.t 3)) <|
  eo 61 (.load 3 true (.t 2)) <|
  eo 62 (.callv (.t 59) [(.t 60), (.t 61)]) <|
  qo 63 (.nt (.t 62)) <|
  .nil) (.t 63) <|
  qo 4 (.mv (.t 64)) <|
  .nil)
  .ret))))))
theorem c59 : fnIs Try.prog qall 59 = some (j59.flat, [.tmp 4], 65) := by kernel_rfl
theorem w59 : j59.wf 65 = true := by kernel_rfl
def touchB (a b : Ev) : Bool := (decide (a.kind = 5) || decide (a.kind = 6)) && decide (a.obj = b.thr)
theorem f_touches (a b : Ev) : FnOK Try.prog 99 [dEv.emb a, dEv.emb b] [] (.bool (touchB a b)) [] := by
  refine fn_walkF c99 w99 FH.none_ok rfl ?_
  unfold j99
  simp only [go_sem, ↓reduceIte, Nat.reduceAdd, Nat.reduceMul, Nat.reduceSub, Nat.reduceLT, Nat.reduceLeDiff, Nat.reduceEqDiff, Int.reduceToNat, Int.reduceEq, Int.reduceLT, Int.reduceLE, reduceCtorEq]
  rfl
def grp (k : Int) : Int × Bool := if k = 1 ∨ k = 2 then (1, decide (k = 1)) else if k = 3 ∨ k = 4 then (2, false) else if k = 5 ∨ k = 6 then (3, decide (k = 6)) else if k = 7 ∨ k = 8 then (4, decide (k = 7)) else (0, false)
theorem f_group (k : Int) : FnOK Try.prog 100 [.int .i64 k] [] (.tup [.int .i64 (grp k).1, .bool (grp k).2]) [] := by
  refine fn_walkF c100 w100 FH.none_ok rfl ?_
  unfold j100
  simp only [go_sem, ↓reduceIte, Nat.reduceAdd, Nat.reduceMul, Nat.reduceSub, Nat.reduceLT, Nat.reduceLeDiff, Nat.reduceEqDiff, Int.reduceToNat, Int.reduceEq, Int.reduceLT, Int.reduceLE, reduceCtorEq]
  unfold grp
  refine ⟨fun h => ?_, fun h => ⟨fun h2 => ?_, fun h2 => ⟨fun h3 => ?_, fun h3 => ⟨fun h4 => ?_, fun h4 => ?_⟩⟩⟩⟩ <;> simp_all
def apartB (a b : Ev) : Bool :=
  if decide (a.thr = b.thr) || touchB a b || touchB b a then false else
    decide ((grp a.kind).1 = 0) || !decide ((grp a.kind).1 = (grp b.kind).1) || !decide (a.obj = b.obj) || ((grp a.kind).2 && (grp b.kind).2)
def GApart (f : FuncId) (a : List SV) (m : List Res) : Sx.Call := (FH.rd 99 (.two dEv dEv) (.one .bool) (fun _ => True) (fun y => touchB y.1 y.2.1) <| FH.rd 100 (.one .int) (.two .int .bool) (fun _ => True) (fun y => grp y.1) FH.none) f a m
theorem GApart_eq (f : FuncId) (a : List SV) (m : List Res) : GApart f a m = (FH.rd 99 (.two dEv dEv) (.one .bool) (fun _ => True) (fun y => touchB y.1 y.2.1) <| FH.rd 100 (.one .int) (.two .int .bool) (fun _ => True) (fun y => grp y.1) FH.none) f a m := nr rfl
theorem GApart_ok : FHOK Try.prog GApart := FH.rd_ok (by kernel_rfl) (fun y _ => f_touches y.1 y.2.1) <| FH.rd_ok (by kernel_rfl) (fun y _ => f_group y.1) FH.none_ok
theorem f_Apart (a b : Ev) : FnOK Try.prog 78 [dEv.emb a, dEv.emb b] [] (.bool (apartB a b)) [] := by
  refine fn_walkF c78 w78 GApart_ok rfl ?_
  unfold j78
  simp only [go_sem, ↓reduceIte, Nat.reduceAdd, Nat.reduceMul, Nat.reduceSub, Nat.reduceLT, Nat.reduceLeDiff, Nat.reduceEqDiff, Int.reduceToNat, Int.reduceEq, Int.reduceLT, Int.reduceLE, reduceCtorEq, GApart_eq]
  unfold apartB
  exact ⟨fun h => by rw [if_pos h], fun h => by rw [if_neg (by rw [h]; decide)]⟩
def pairB (k m : Int) (a b : Ev) : Bool := (decide (a.kind = k) || decide (a.kind = m)) && (decide (b.kind = k) || decide (b.kind = m)) && decide (a.obj = b.obj)
theorem f_RApart1 (k m : Int) (a b : Ev) : FnOK Try.prog 90 [.int .i64 k, .int .i64 m, .ref (dEv.emb a) [] 0, .ref (dEv.emb b) [] 0] [] (.bool (pairB k m a b)) [] := by
  refine fn_walkF c90 w90 FH.none_ok rfl ?_
  unfold j90
  simp only [go_sem, ↓reduceIte, Nat.reduceAdd, Nat.reduceMul, Nat.reduceSub, Nat.reduceLT, Nat.reduceLeDiff, Nat.reduceEqDiff, Int.reduceToNat, Int.reduceEq, Int.reduceLT, Int.reduceLE, reduceCtorEq]
  rfl
theorem f_RApart2 (a b : Ev) : FnOK Try.prog 91 [dEv.emb a, dEv.emb b] [] (.bool (touchB a b)) [] := by
  refine fn_walkF c91 w91 FH.none_ok rfl ?_
  unfold j91
  simp only [go_sem, ↓reduceIte, Nat.reduceAdd, Nat.reduceMul, Nat.reduceSub, Nat.reduceLT, Nat.reduceLeDiff, Nat.reduceEqDiff, Int.reduceToNat, Int.reduceEq, Int.reduceLT, Int.reduceLE, reduceCtorEq]
  rfl
def GRApart (f : FuncId) (a : List SV) (m : List Res) : Sx.Call := (FH.rd 90 (.four .int .int dEv.ref dEv.ref) (.one .bool) (fun _ => True) (fun y => pairB y.1 y.2.1 y.2.2.1 y.2.2.2.1) <| FH.rd 91 (.two dEv dEv) (.one .bool) (fun _ => True) (fun y => touchB y.1 y.2.1) FH.none) f a m
theorem GRApart_eq (f : FuncId) (a : List SV) (m : List Res) : GRApart f a m = (FH.rd 90 (.four .int .int dEv.ref dEv.ref) (.one .bool) (fun _ => True) (fun y => pairB y.1 y.2.1 y.2.2.1 y.2.2.2.1) <| FH.rd 91 (.two dEv dEv) (.one .bool) (fun _ => True) (fun y => touchB y.1 y.2.1) FH.none) f a m := nr rfl
theorem GRApart_ok : FHOK Try.prog GRApart := FH.rd_ok (by kernel_rfl) (fun y _ => f_RApart1 y.1 y.2.1 y.2.2.1 y.2.2.2.1) <| FH.rd_ok (by kernel_rfl) (fun y _ => f_RApart2 y.1 y.2.1) FH.none_ok
def wadd (a b : Int) : Int := IntKind.i64.wrap (a + b)
def apartR (a b : Ev) : Bool :=
  if decide (a.thr = b.thr) || pairB 1 2 a b && decide (2 < wadd a.kind b.kind) || pairB 3 4 a b || pairB 7 8 a b && decide (14 < wadd a.kind b.kind) || pairB 5 6 a b && decide (wadd a.kind b.kind < 12) then false else !touchB a b && !touchB b a
theorem f_RApart (a b : Ev) : FnOK Try.prog 59 [dEv.emb a, dEv.emb b] [] (.bool (apartR a b)) [] := by
  refine fn_walkF c59 w59 GRApart_ok rfl ?_
  unfold j59
  simp only [go_sem, ↓reduceIte, Nat.reduceAdd, Nat.reduceMul, Nat.reduceSub, Nat.reduceLT, Nat.reduceLeDiff, Nat.reduceEqDiff, Int.reduceToNat, Int.reduceEq, Int.reduceLT, Int.reduceLE, reduceCtorEq, GRApart_eq]
  unfold apartR wadd
  refine ⟨fun h => by rw [if_pos h], fun h => by rw [if_neg (by rw [h]; decide)]⟩
theorem apart_law (k t o k' t' o' s : Int) (hs : 0 ≤ k + k' → k + k' < 20 → s = k + k') :
   (if (decide (t = t') || (decide (k = 5) || decide (k = 6)) && decide (o = t') ||
            (decide (k' = 5) || decide (k' = 6)) && decide (o' = t)) = true then false
    else
      decide ((if k = 1 ∨ k = 2 then ((1:Int), decide (k = 1))
                else if k = 3 ∨ k = 4 then (2, false)
                  else if k = 5 ∨ k = 6 then (3, decide (k = 6)) else if k = 7 ∨ k = 8 then (4, decide (k = 7)) else (0, false)).1 = 0) ||
          !decide ((if k = 1 ∨ k = 2 then ((1:Int), decide (k = 1))
                else if k = 3 ∨ k = 4 then (2, false)
                  else if k = 5 ∨ k = 6 then (3, decide (k = 6)) else if k = 7 ∨ k = 8 then (4, decide (k = 7)) else (0, false)).1 = (if k' = 1 ∨ k' = 2 then ((1:Int), decide (k' = 1))
                else if k' = 3 ∨ k' = 4 then (2, false)
                  else if k' = 5 ∨ k' = 6 then (3, decide (k' = 6)) else if k' = 7 ∨ k' = 8 then (4, decide (k' = 7)) else (0, false)).1) ||
        !decide (o = o') || (if k = 1 ∨ k = 2 then ((1:Int), decide (k = 1))
                else if k = 3 ∨ k = 4 then (2, false)
                  else if k = 5 ∨ k = 6 then (3, decide (k = 6)) else if k = 7 ∨ k = 8 then (4, decide (k = 7)) else (0, false)).2 && (if k' = 1 ∨ k' = 2 then ((1:Int), decide (k' = 1))
                else if k' = 3 ∨ k' = 4 then (2, false)
                  else if k' = 5 ∨ k' = 6 then (3, decide (k' = 6)) else if k' = 7 ∨ k' = 8 then (4, decide (k' = 7)) else (0, false)).2) =
    if (decide (t = t') || ((decide (k = 1) || decide (k = 2)) && (decide (k' = 1) || decide (k' = 2)) && decide (o = o')) && decide (2 < s) ||
              ((decide (k = 3) || decide (k = 4)) && (decide (k' = 3) || decide (k' = 4)) && decide (o = o')) ||
            ((decide (k = 7) || decide (k = 8)) && (decide (k' = 7) || decide (k' = 8)) && decide (o = o')) && decide (14 < s) ||
          ((decide (k = 5) || decide (k = 6)) && (decide (k' = 5) || decide (k' = 6)) && decide (o = o')) && decide (s < 12)) = true then
      false
    else !((decide (k = 5) || decide (k = 6)) && decide (o = t')) && !((decide (k' = 5) || decide (k' = 6)) && decide (o' = t)) := by
  by_cases e1 : t = t'
  · simp [e1]
  by_cases e2 : ((decide (k = 5) || decide (k = 6)) && decide (o = t')) = true
  · simp only [e2]; simp
  by_cases e3 : ((decide (k' = 5) || decide (k' = 6)) && decide (o' = t)) = true
  · simp only [e3]; simp
  simp only [Bool.not_eq_true] at e2 e3
  simp only [e1, e2, e3, decide_false, Bool.false_or, Bool.or_false, Bool.not_false, Bool.and_true, Bool.and_self]
  clear e1 e2 e3
  by_cases e4 : o = o'
  · have h1 : k = 1 ∨ k = 2 ∨ k = 3 ∨ k = 4 ∨ k = 5 ∨ k = 6 ∨ k = 7 ∨ k = 8 ∨ (k ≠ 1 ∧ k ≠ 2 ∧ k ≠ 3 ∧ k ≠ 4 ∧ k ≠ 5 ∧ k ≠ 6 ∧ k ≠ 7 ∧ k ≠ 8) := by omega
    have h2 : k' = 1 ∨ k' = 2 ∨ k' = 3 ∨ k' = 4 ∨ k' = 5 ∨ k' = 6 ∨ k' = 7 ∨ k' = 8 ∨ (k' ≠ 1 ∧ k' ≠ 2 ∧ k' ≠ 3 ∧ k' ≠ 4 ∧ k' ≠ 5 ∧ k' ≠ 6 ∧ k' ≠ 7 ∧ k' ≠ 8) := by omega
    rcases h1 with rfl | rfl | rfl | rfl | rfl | rfl | rfl | rfl | h1 <;> rcases h2 with rfl | rfl | rfl | rfl | rfl | rfl | rfl | rfl | h2 <;> simp_all
  · simp [e4]
theorem apart_eq (a b : Ev) : apartB a b = apartR a b :=
  apart_law a.kind a.thr a.obj b.kind b.thr b.obj (wadd a.kind b.kind) fun h1 h2 => IntWalk.i64_in _ (by omega)
end Go.Proofs.Ytafcmgfmmlnngaa.Sw
