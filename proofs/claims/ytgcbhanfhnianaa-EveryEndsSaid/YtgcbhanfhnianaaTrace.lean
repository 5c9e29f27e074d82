/- The package trace and its reference, function by function: what each hands back. Conditions: none. -/
import Derived.Test.YtgcbhanfhnianaaBase
import Derived.Test.YtgcbhanfhnianaaRows
import Derived.WalkKit
set_option linter.unusedSimpArgs false
set_option linter.unusedVariables false
set_option maxRecDepth 100000
open Go Go.Sx Go.Proofs
namespace Go.Proofs.Ytgcbhanfhnianaa.Tr
open Go.Proofs.Ytgcbhanfhnianaa.D

def j183 : JC :=
  (.seq (.ops <|
  qo 2 (.mv (I 0)) <|
  .nil)
  (.seq (.seq (.ops <|
  qo 3 (.mv (.t 0)) <|
  .nil)
  (.block 0 (.seq (.seq (.ops <|
  qo 5 (.cmp .eql (.t 3) (I 1)) <|
  qo 4 (.mv (.t 5)) <|
  .nil)
  (.orc 4 <|
  qo 6 (.cmp .eql (.t 3) (I 2)) <|
  qo 4 (.mv (.t 6)) <|
  .nil))
  (.cond (.t 4)
  (.seq (.ops <|
  qo 2 (.mv (I 8)) <|
  .nil)
  .ret)
  (.seq (.seq (.ops <|
  qo 8 (.cmp .eql (.t 3) (I 3)) <|
  qo 7 (.mv (.t 8)) <|
  .nil)
  (.orc 7 <|
  qo 9 (.cmp .eql (.t 3) (I 4)) <|
  qo 7 (.mv (.t 9)) <|
  .nil))
  (.prune [7, 3] (.cond (.t 7)
  (.seq (.ops <|
  qo 2 (.mv (I 5)) <|
  .nil)
  .ret)
  (.seq (.seq (.ops <|
  qo 11 (.cmp .eql (.t 3) (I 5)) <|
  qo 10 (.mv (.t 11)) <|
  .nil)
  (.orc 10 <|
  qo 12 (.cmp .eql (.t 3) (I 6)) <|
  qo 10 (.mv (.t 12)) <|
  .nil))
  (.cond (.t 10)
  (.seq (.ops <|
  qo 2 (.mv (I 6)) <|
  .nil)
  .ret)
  (.seq (.seq (.ops <|
  qo 14 (.cmp .eql (.t 3) (I 7)) <|
  qo 13 (.mv (.t 14)) <|
  .nil)
  (.orc 13 <|
  qo 15 (.cmp .eql (.t 3) (I 8)) <|
  qo 13 (.mv (.t 15)) <|
  .nil))
  (.prune [13] (.cond (.t 13)
  (.seq (.ops <|
  qo 2 (.mv (I 4)) <|
  .nil)
  .ret)
  .skip))))))))))))
  (.prune [] (.seq (.ops <|
  qo 2 (.mv (I 0)) <|
  .nil)
  .ret))))
theorem c183 : fnIs Try.prog qall 183 = some (j183.flat, [.tmp 2], 16) := by kernel_rfl
theorem w183 : j183.wf 16 = true := by kernel_rfl

def j160 : JC :=
  (.seq (.ops <|
  eo 1 (.box 35 (.t 0)) <|
  qo 2 (.mv (B false)) <|
  .nil)
  (.seq (.dops <|
  qo 3 (.fa 1 1 (.t 1)) <|
  eo 4 (.load 1 false (.t 3)) <|
  qo 5 (.cmp .geq (.t 4) (I 0)) <|
  qo 6 (.mv (.t 5)) <|
  .sc false 10 6 (qo 7 (.fa 1 1 (.t 1)) <|
  eo 8 (.load 1 false (.t 7)) <|
  qo 9 (.cmp .lss (.t 8) (I 6)) <|
  .nil) (.t 9) <|
  .prune [10, 1] <|
  qo 11 (.mv (.t 10)) <|
  .sc false 15 11 (qo 12 (.fa 2 2 (.t 1)) <|
  eo 13 (.load 1 false (.t 12)) <|
  qo 14 (.cmp .geq (.t 13) (I 0)) <|
  .nil) (.t 14) <|
  qo 16 (.mv (.t 15)) <|
  .sc false 23 16 (qo 17 (.fa 2 2 (.t 1)) <|
  eo 18 (.load 1 false (.t 17)) <|
  qo 19 (.fa 0 0 (.t 1)) <|
  eo 20 (.load 1 false (.t 19)) <|
  eo 21 (.qcall 183 [(.t 20)]) <|
  qo 22 (.cmp .lss (.t 18) (.t 21)) <|
  .nil) (.t 22) <|
  qo 2 (.mv (.t 23)) <|
  .nil)
  .ret))
theorem c160 : fnIs Try.prog qall 160 = some (j160.flat, [.tmp 2], 24) := by kernel_rfl
theorem w160 : j160.wf 24 = true := by kernel_rfl

def j137 : JC :=
  (.seq (.ops <|
  eo 3 (.box 35 (.t 1)) <|
  qo 4 (.mv (I 0)) <|
  .nil)
  (.seq (.block 0 (.seq (.ops <|
  eo 6 (.load 3 true (.t 3)) <|
  eo 7 (.call 160 [(.t 6)]) <|
  qo 8 (.nt (.t 7)) <|
  qo 5 (.mv (.t 8)) <|
  .nil)
  (.cond (.t 5)
  (.seq (.ops <|
  qo 4 (.mv (I 1)) <|
  .nil)
  .ret)
  (.seq (.dops <|
  qo 10 (.mv (.t 0)) <|
  .prune [3, 10, 0] <|
  qo 11 (.fa 1 1 (.t 3)) <|
  eo 12 (.load 1 false (.t 11)) <|
  qo 13 (.nck (.t 10)) <|
  qo 14 (.fa 0 0 (.t 13)) <|
  .prune [14, 12, 0, 3] <|
  qo 15 (.ia 6 1 (.t 14) (.t 12)) <|
  eo 16 (.load 1 false (.t 15)) <|
  qo 17 (.nt (.t 16)) <|
  .prune [17, 0, 3] <|
  qo 18 (.mv (.t 17)) <|
  .sc true 26 18 (qo 19 (.mv (.t 0)) <|
  qo 20 (.fa 1 1 (.t 3)) <|
  eo 21 (.load 1 false (.t 20)) <|
  qo 22 (.nck (.t 19)) <|
  qo 23 (.fa 1 6 (.t 22)) <|
  qo 24 (.ia 6 1 (.t 23) (.t 21)) <|
  eo 25 (.load 1 false (.t 24)) <|
  .nil) (.t 25) <|
  qo 9 (.mv (.t 26)) <|
  .nil)
  (.prune [9, 3, 0] (.cond (.t 9)
  (.seq (.ops <|
  qo 4 (.mv (I 11)) <|
  .nil)
  .ret)
  .skip))))))
  (.prune [3, 0] (.seq (.seq (.ops <|
  qo 27 (.fa 0 0 (.t 3)) <|
  eo 28 (.load 1 false (.t 27)) <|
  .nil)
  (.block 1 (.seq (.ops <|
  qo 30 (.cmp .eql (.t 28) (I 3)) <|
  qo 29 (.mv (.t 30)) <|
  .nil)
  (.cond (.t 29)
  (.seq (.seq (.dops <|
  qo 31 (.mv (.t 0)) <|
  .prune [3, 31, 0] <|
  qo 32 (.fa 2 2 (.t 3)) <|
  eo 33 (.load 1 false (.t 32)) <|
  qo 34 (.nck (.t 31)) <|
  qo 35 (.fa 2 12 (.t 34)) <|
  .prune [35, 33, 0, 3] <|
  qo 36 (.ia 5 1 (.t 35) (.t 33)) <|
  eo 37 (.load 1 false (.t 36)) <|
  qo 38 (.cmp .neq (.t 37) (I 0)) <|
  .nil)
  (.prune [38, 0, 3] (.cond (.t 38)
  (.seq (.ops <|
  qo 4 (.mv (I 9)) <|
  .nil)
  .ret)
  .skip)))
  (.prune [0, 3] (.dops <|
  qo 39 (.mv (.t 0)) <|
  qo 40 (.fa 2 2 (.t 3)) <|
  eo 41 (.load 1 false (.t 40)) <|
  qo 42 (.fa 1 1 (.t 3)) <|
  eo 43 (.load 1 false (.t 42)) <|
  .prune [43, 39, 41] <|
  qo 44 (.ar .add (.t 43) (I 1)) <|
  qo 45 (.nck (.t 39)) <|
  qo 46 (.fa 2 12 (.t 45)) <|
  qo 47 (.ia 5 1 (.t 46) (.t 41)) <|
  en (.store 1 (.t 47) (.t 44)) <|
  .nil)))
  (.seq (.ops <|
  qo 49 (.cmp .eql (.t 28) (I 4)) <|
  qo 48 (.mv (.t 49)) <|
  .nil)
  (.cond (.t 48)
  (.seq (.seq (.dops <|
  .prune [0, 3] <|
  qo 50 (.mv (.t 0)) <|
  qo 51 (.fa 2 2 (.t 3)) <|
  eo 52 (.load 1 false (.t 51)) <|
  qo 53 (.nck (.t 50)) <|
  qo 54 (.fa 2 12 (.t 53)) <|
  .prune [54, 52, 3, 0] <|
  qo 55 (.ia 5 1 (.t 54) (.t 52)) <|
  eo 56 (.load 1 false (.t 55)) <|
  qo 57 (.fa 1 1 (.t 3)) <|
  .prune [57, 56, 0, 3] <|
  eo 58 (.load 1 false (.t 57)) <|
  qo 59 (.ar .add (.t 58) (I 1)) <|
  qo 60 (.cmp .neq (.t 56) (.t 59)) <|
  .nil)
  (.prune [60, 0, 3] (.cond (.t 60)
  (.seq (.ops <|
  qo 4 (.mv (I 10)) <|
  .nil)
  .ret)
  .skip)))
  (.prune [0, 3] (.dops <|
  qo 61 (.mv (.t 0)) <|
  qo 62 (.fa 2 2 (.t 3)) <|
  eo 63 (.load 1 false (.t 62)) <|
  qo 64 (.nck (.t 61)) <|
  qo 65 (.fa 2 12 (.t 64)) <|
  qo 66 (.ia 5 1 (.t 65) (.t 63)) <|
  en (.store 1 (.t 66) (I 0)) <|
  .nil)))
  (.seq (.ops <|
  qo 68 (.cmp .eql (.t 28) (I 5)) <|
  qo 67 (.mv (.t 68)) <|
  .nil)
  (.prune [67, 0, 3, 28] (.cond (.t 67)
  (.seq (.seq (.dops <|
  qo 69 (.mv (.t 0)) <|
  qo 70 (.fa 2 2 (.t 3)) <|
  eo 71 (.load 1 false (.t 70)) <|
  .prune [69, 71, 0, 3] <|
  qo 72 (.nck (.t 69)) <|
  qo 73 (.fa 0 0 (.t 72)) <|
  qo 74 (.ia 6 1 (.t 73) (.t 71)) <|
  eo 75 (.load 1 false (.t 74)) <|
  .nil)
  (.prune [75, 0, 3] (.cond (.t 75)
  (.seq (.ops <|
  qo 4 (.mv (I 8)) <|
  .nil)
  .ret)
  .skip)))
  (.prune [0, 3] (.dops <|
  qo 76 (.mv (.t 0)) <|
  qo 77 (.fa 2 2 (.t 3)) <|
  eo 78 (.load 1 false (.t 77)) <|
  qo 79 (.nck (.t 76)) <|
  qo 80 (.fa 0 0 (.t 79)) <|
  qo 81 (.ia 6 1 (.t 80) (.t 78)) <|
  en (.store 1 (.t 81) (B true)) <|
  .nil)))
  (.seq (.ops <|
  qo 83 (.cmp .eql (.t 28) (I 6)) <|
  qo 82 (.mv (.t 83)) <|
  .nil)
  (.cond (.t 82)
  (.seq (.seq (.dops <|
  qo 84 (.mv (.t 0)) <|
  .prune [3, 84, 0] <|
  qo 85 (.fa 2 2 (.t 3)) <|
  eo 86 (.load 1 false (.t 85)) <|
  qo 87 (.nck (.t 84)) <|
  qo 88 (.fa 0 0 (.t 87)) <|
  .prune [88, 86, 3, 0] <|
  qo 89 (.ia 6 1 (.t 88) (.t 86)) <|
  eo 90 (.load 1 false (.t 89)) <|
  qo 91 (.nt (.t 90)) <|
  .prune [91, 3, 0] <|
  qo 92 (.mv (.t 91)) <|
  .sc true 98 92 (qo 93 (.fa 2 2 (.t 3)) <|
  eo 94 (.load 1 false (.t 93)) <|
  qo 95 (.fa 1 1 (.t 3)) <|
  eo 96 (.load 1 false (.t 95)) <|
  qo 97 (.cmp .eql (.t 94) (.t 96)) <|
  .nil) (.t 97) <|
  .nil)
  (.prune [98, 0, 3] (.cond (.t 98)
  (.seq (.ops <|
  qo 4 (.mv (I 7)) <|
  .nil)
  .ret)
  .skip)))
  (.prune [0, 3] (.dops <|
  qo 99 (.mv (.t 0)) <|
  qo 100 (.fa 2 2 (.t 3)) <|
  eo 101 (.load 1 false (.t 100)) <|
  qo 102 (.nck (.t 99)) <|
  qo 103 (.fa 1 6 (.t 102)) <|
  qo 104 (.ia 6 1 (.t 103) (.t 101)) <|
  en (.store 1 (.t 104) (B true)) <|
  .nil)))
  .skip)))))))))))
  (.prune [] (.seq (.ops <|
  qo 4 (.mv (I 0)) <|
  .nil)
  .ret))))))
theorem c137 : fnIs Try.prog qall 137 = some (j137.flat, [.tmp 4], 105) := by kernel_rfl
theorem w137 : j137.wf 105 = true := by kernel_rfl

def j136 : JC :=
  (.seq (.ops <|
  qo 0 (.mv (.c .nilp)) <|
  .nil)
  (.seq (.ops <|
  qo 2 (.bld (.agg [(.arr 6 1 fun _ => (.bool false)), (.arr 6 1 fun _ => (.bool false)), (.arr 5 1 fun _ => (.int .i64 0))]) []) <|
  eo 3 (.box 248 (.t 2)) <|
  qo 1 (.mv (.t 3)) <|
  .nil)
  (.seq (.ops <|
  qo 4 (.mv (.t 1)) <|
  qo 5 (.nck (.t 4)) <|
  qo 6 (.fa 0 0 (.t 5)) <|
  qo 7 (.ia 6 1 (.t 6) (I 0)) <|
  en (.store 1 (.t 7) (B true)) <|
  .nil)
  (.seq (.ops <|
  qo 8 (.mv (.t 1)) <|
  qo 0 (.mv (.t 8)) <|
  .nil)
  .ret))))
theorem c136 : fnIs Try.prog qall 136 = some (j136.flat, [.tmp 0], 9) := by kernel_rfl
theorem w136 : j136.wf 9 = true := by kernel_rfl
def j111_1 : JC :=
  (.seq (.ops <|
  qo 17 (.cmp .lss (.t 16) (.t 15)) <|
  .nil)
  (.seq (.cond (.t 17)
  .skip
  (.exit 0))
  (.seq (.block 1 (.seq (.ops <|
  qo 18 (.mv (.t 16)) <|
  qo 19 (.is 3 (.t 14) (.t 16)) <|
  eo 20 (.load 3 true (.t 19)) <|
  eo 7 (.alloc 35 (.agg [(.int .i64 0), (.int .i64 0), (.int .i64 0)])) <|
  qo 6 (.mv (.t 18)) <|
  en (.store 3 (.t 7) (.t 20)) <|
  .nil)
  (.prune [5, 7, 6, 16, 15, 14] (.seq (.ops <|
  qo 21 (.mv (.t 5)) <|
  eo 22 (.load 3 true (.t 7)) <|
  eo 23 (.call 137 [(.t 21), (.t 22)]) <|
  qo 8 (.mv (.t 23)) <|
  .nil)
  (.prune [8, 5, 6, 16, 15, 14] (.seq (.ops <|
  qo 24 (.mv (.t 8)) <|
  qo 25 (.cmp .neq (.t 24) (I 0)) <|
  .nil)
  (.cond (.t 25)
  (.seq (.ops <|
  .prune [5, 6, 8] <|
  qo 26 (.mv (.t 5)) <|
  qo 27 (.mv (.t 6)) <|
  qo 28 (.mv (.t 8)) <|
  qo 2 (.mv (.t 26)) <|
  qo 3 (.mv (.t 27)) <|
  qo 4 (.mv (.t 28)) <|
  .nil)
  .ret)
  .skip)))))))
  (.prune [16, 15, 14, 5] (.ops <|
  qo 29 (.ar .add (.t 16) (I 1)) <|
  qo 16 (.mv (.t 29)) <|
  .nil)))))
def j111_2 : JC :=
  (.prune [5] (.seq (.ops <|
  qo 30 (.mv (.t 5)) <|
  qo 2 (.mv (.t 30)) <|
  qo 3 (.mv (I 0)) <|
  qo 4 (.mv (I 0)) <|
  .nil)
  .ret))
def j111 : JC :=
  (.seq (.ops <|
  qo 2 (.mv (.c .nilp)) <|
  qo 3 (.mv (I 0)) <|
  qo 4 (.mv (I 0)) <|
  .nil)
  (.seq (.ops <|
  eo 9 (.call 136 []) <|
  qo 5 (.mv (.t 9)) <|
  .nil)
  (.seq (.seq (.ops <|
  qo 10 (.mv (.t 0)) <|
  qo 11 (.len (.t 10)) <|
  qo 12 (.cmp .gtr (.t 11) (I 80)) <|
  .nil)
  (.cond (.t 12)
  (.seq (.ops <|
  .prune [5] <|
  qo 13 (.mv (.t 5)) <|
  qo 2 (.mv (.t 13)) <|
  qo 3 (.mv (I 0)) <|
  qo 4 (.mv (I 2)) <|
  .nil)
  .ret)
  .skip))
  (.prune [0, 5] (.seq (.seq (.ops <|
  qo 14 (.mv (.t 0)) <|
  qo 15 (.len (.t 14)) <|
  qo 16 (.mv (I 0)) <|
  .nil)
  (.block 0 (.loop [15, 14, 5] [16] j111_1)))
  j111_2)))))
theorem c111 : fnIs Try.prog qall 111 = some (j111.flat, [.tmp 2, .tmp 3, .tmp 4], 31) := by kernel_rfl
theorem w111 : j111.wf 31 = true := by kernel_rfl

def j59 : JC :=
  (.seq (.ops <|
  qo 2 (.mv (I 0)) <|
  qo 3 (.mv (I 0)) <|
  .nil)
  (.seq (.ops <|
  qo 8 (.mv (.t 0)) <|
  eo 9 (.call 111 [(.t 8)]) <|
  qo 7 (.mv (.t 9)) <|
  qo 10 (.ext 0 (.t 7)) <|
  qo 11 (.ext 1 (.t 7)) <|
  .prune [7, 10, 11] <|
  qo 12 (.ext 2 (.t 7)) <|
  qo 4 (.mv (.t 10)) <|
  qo 5 (.mv (.t 11)) <|
  qo 6 (.mv (.t 12)) <|
  .nil)
  (.prune [5, 6] (.seq (.ops <|
  qo 13 (.mv (.t 5)) <|
  qo 14 (.mv (.t 6)) <|
  qo 2 (.mv (.t 13)) <|
  qo 3 (.mv (.t 14)) <|
  .nil)
  .ret))))
theorem c59 : fnIs Try.prog qall 59 = some (j59.flat, [.tmp 2, .tmp 3], 15) := by kernel_rfl
theorem w59 : j59.wf 15 = true := by kernel_rfl
def many (k : Int) : Int := if k = 1 ∨ k = 2 then 8 else if k = 3 ∨ k = 4 then 5 else if k = 5 ∨ k = 6 then 6 else if k = 7 ∨ k = 8 then 4 else 0
theorem f_many (k : Int) : FnOK Try.prog 183 [.int .i64 k] [] (.int .i64 (many k)) [] := by
  refine fn_walkF c183 w183 FH.none_ok rfl ?_
  unfold j183
  simp only [go_sem, ↓reduceIte, Nat.reduceAdd, Nat.reduceMul, Nat.reduceSub, Nat.reduceLT, Nat.reduceLeDiff, Nat.reduceEqDiff, Int.reduceToNat, Int.reduceEq, Int.reduceLT, Int.reduceLE, reduceCtorEq]
  unfold many
  refine ⟨fun h => ?_, fun h => ⟨fun h2 => ?_, fun h2 => ⟨fun h3 => ?_, fun h3 => ⟨fun h4 => ?_, fun h4 => ?_⟩⟩⟩⟩ <;> simp_all
def isEv (e : Ev) : Bool := decide (0 ≤ e.thr) && decide (e.thr < 6) && decide (0 ≤ e.obj) && decide (e.obj < many e.kind)
def Gm (f : FuncId) (a : List SV) (m : List Res) : Sx.Call := (FH.rd 183 (.one .int) (.one .int) (fun _ => True) (fun y => many y.1) FH.none) f a m
theorem Gm_eq (f : FuncId) (a : List SV) (m : List Res) : Gm f a m = (FH.rd 183 (.one .int) (.one .int) (fun _ => True) (fun y => many y.1) FH.none) f a m := nr rfl
theorem Gm_ok : FHOK Try.prog Gm := FH.rd_ok (by kernel_rfl) (fun y _ => f_many y.1) FH.none_ok
theorem f_IsEvent (e : Ev) : FnOK Try.prog 160 [dEv.emb e] [] (.bool (isEv e)) [] := by
  refine fn_walkF c160 w160 Gm_ok rfl ?_
  unfold j160
  simp only [go_sem, ↓reduceIte, Nat.reduceAdd, Nat.reduceMul, Nat.reduceSub, Nat.reduceLT, Nat.reduceLeDiff, Nat.reduceEqDiff, Int.reduceToNat, Int.reduceEq, Int.reduceLT, Int.reduceLE, reduceCtorEq, Gm_eq]
  rfl
def upd {α : Type} (f : Nat → α) (i : Nat) (x : α) : Nat → α := fun k => if k = i then x else f k
def takeE (w : Wd) (e : Ev) : Wd × Int :=
  if isEv e = false then (w, 1) else
  if (!w.begun e.thr.toNat || w.over e.thr.toNat) = true then (w, 11) else
  if e.kind = 3 then (if w.owner e.obj.toNat ≠ 0 then (w, 9) else ({ w with owner := upd w.owner e.obj.toNat (e.thr + 1) }, 0)) else
  if e.kind = 4 then (if w.owner e.obj.toNat ≠ e.thr + 1 then (w, 10) else ({ w with owner := upd w.owner e.obj.toNat 0 }, 0)) else
  if e.kind = 5 then (if w.begun e.obj.toNat = true then (w, 8) else ({ w with begun := upd w.begun e.obj.toNat true }, 0)) else
  if e.kind = 6 then (if (!w.begun e.obj.toNat || decide (e.obj = e.thr)) = true then (w, 7) else ({ w with over := upd w.over e.obj.toNat true }, 0)) else (w, 0)
def Gi (f : FuncId) (a : List SV) (m : List Res) : Sx.Call := (FH.rd 160 (.one dEv) (.one .bool) (fun _ => True) (fun y => isEv y.1) FH.none) f a m
theorem Gi_eq (f : FuncId) (a : List SV) (m : List Res) : Gi f a m = (FH.rd 160 (.one dEv) (.one .bool) (fun _ => True) (fun y => isEv y.1) FH.none) f a m := nr rfl
theorem Gi_ok : FHOK Try.prog Gi := FH.rd_ok (by kernel_rfl) (fun y _ => f_IsEvent y.1) FH.none_ok
theorem isEv_iff (e : Ev) : isEv e = true ↔ 0 ≤ e.thr ∧ e.thr < 6 ∧ 0 ≤ e.obj ∧ e.obj < many e.kind := by
  simp [isEv, and_assoc]
theorem f_takes (w : Wd) (e : Ev) : FnOK Try.prog 137 [.ptr 0 [] 0, dEv.emb e] [.blk 248 (dWd.emb w)] (.int .i64 (takeE w e).2) [.blk 248 (dWd.emb (takeE w e).1)] := by
  refine fn_walkF c137 w137 Gi_ok rfl ?_
  unfold j137
  simp only [go_sem, ↓reduceIte, Nat.reduceAdd, Nat.reduceMul, Nat.reduceSub, Nat.reduceLT, Nat.reduceLeDiff, Nat.reduceEqDiff, Int.reduceToNat, Int.reduceEq, Int.reduceLT, Int.reduceLE, reduceCtorEq, Gi_eq]
  refine ⟨fun h1 => by simp [takeE, h1], fun h1 => ?_⟩
  obtain ⟨b1, b2, b3, b4⟩ := (isEv_iff e).1 h1
  have hw : IntKind.i64.wrap (e.thr + 1) = e.thr + 1 := IntWalk.i64_in _ (by omega)
  rw [hw]
  refine ⟨⟨b1, b2⟩, fun _ => ⟨b1, b2⟩, fun h2 => by simp [takeE, h1, h2], fun h2 => ⟨fun h3 => ?_, fun h3 => ⟨fun h4 => ?_, fun h4 => ⟨fun h5 => ?_, fun h5 => ⟨fun h6 => ?_, fun h6 => ?_⟩⟩⟩⟩⟩
  · have b5 : e.obj < 5 := by simpa [many, h3] using b4
    exact ⟨⟨b3, b5⟩, fun h7 => by simp [takeE, h1, h2, h3, h7], fun h7 => ⟨⟨b3, b5⟩, by simp [takeE, h1, h2, h3, h7, upd]⟩⟩
  · have b5 : e.obj < 5 := by simpa [many, h4] using b4
    exact ⟨⟨b3, b5⟩, fun h7 => by simp [takeE, h1, h2, h4, h7], fun h7 => ⟨⟨b3, b5⟩, by simp [takeE, h1, h2, h4, h7, upd]⟩⟩
  · have b5 : e.obj < 6 := by simpa [many, h5] using b4
    exact ⟨⟨b3, b5⟩, fun h7 => by simp [takeE, h1, h2, h5, h7], fun h7 => ⟨⟨b3, b5⟩, by simp [takeE, h1, h2, h5, h7, upd]⟩⟩
  · have b5 : e.obj < 6 := by simpa [many, h6] using b4
    exact ⟨⟨b3, b5⟩, fun h7 => by simp [takeE, h1, h2, h6, h7], fun h7 => ⟨⟨b3, b5⟩, by simp [takeE, h1, h2, h6, h7, upd]⟩⟩
  · simp [takeE, h1, h2, h3, h4, h5, h6]
def firstW : Wd := ⟨upd (fun _ => false) 0 true, fun _ => false, fun _ => 0⟩
theorem f_first : FnOK Try.prog 136 [] [] (.ptr 0 [] 0) [.blk 248 (dWd.emb firstW)] := by
  refine fn_walkF c136 w136 FH.none_ok rfl ?_
  unfold j136
  simp only [go_sem, ↓reduceIte, Nat.reduceAdd, Nat.reduceMul, Nat.reduceSub, Nat.reduceLT, Nat.reduceLeDiff, Nat.reduceEqDiff, Int.reduceToNat, Int.reduceEq, Int.reduceLT, Int.reduceLE, reduceCtorEq]
  simp [firstW, upd]
def playL : List Ev → Nat → Wd → Wd × Int × Int
  | [], _, w => (w, 0, 0)
  | e :: r, i, w => if (takeE w e).2 = 0 then playL r (i + 1) (takeE w e).1 else ((takeE w e).1, i, (takeE w e).2)
def playedF (l : List Ev) : Wd × Int × Int := if 80 < l.length then (firstW, 0, 2) else playL l 0 firstW
def Gp (f : FuncId) (a : List SV) (m : List Res) : Sx.Call := (FH.mk 136 .nil (fun _ => True) (fun _ => .ptr 0 [] 0) (fun _ => [.blk 248 (dWd.emb firstW)]) <|
  FH.mt 137 248 dWd (.one dEv) (.one .int) (fun _ _ => True) (fun w y => (takeE w y.1).2) (fun w y => (takeE w y.1).1) FH.none) f a m
theorem Gp_eq (f : FuncId) (a : List SV) (m : List Res) : Gp f a m = (FH.mk 136 .nil (fun _ => True) (fun _ => .ptr 0 [] 0) (fun _ => [.blk 248 (dWd.emb firstW)]) <|
  FH.mt 137 248 dWd (.one dEv) (.one .int) (fun _ _ => True) (fun w y => (takeE w y.1).2) (fun w y => (takeE w y.1).1) FH.none) f a m := nr rfl
theorem plain_ptr (d : DT Wd) [h : Flat d] (w : Wd) : PlainM (.ptr 0 [] 0) [.blk 248 (d.emb w)] := fun r => by
  refine ⟨?_, fun y hy => ?_⟩
  · simp only [ren, renI]
    split
    · exact (noH_ptr _ _ _).val rfl
    · exact noHV_junk
  · simp only [List.mem_cons, List.not_mem_nil, or_false] at hy
    subst hy
    simp only [renR, d.ren]
    exact h.noH w
theorem Gp_ok : FHOK Try.prog Gp := FH.mk_ok (by kernel_rfl) (fun _ _ => plain_ptr dWd firstW) (fun _ _ => f_first) <| FH.mt_ok (by kernel_rfl) (fun w y _ => f_takes w y.1) FH.none_ok
def wAt (l : List Ev) (i : Nat) : Wd := (l.take i).foldl (fun w e => (takeE w e).1) firstW
theorem f_played (l : List Ev) : FnOK Try.prog 111 [(DT.list 3 dEv).emb l] [] (.tup [.ptr 0 [] 0, .int .i64 (playedF l).2.1, .int .i64 (playedF l).2.2]) [.blk 248 (dWd.emb (playedF l).1)] := by
  refine fn_len fun hB => fn_walkF c111 w111 Gp_ok rfl ?_
  simp only [go_sem, ↓reduceIte, Nat.reduceAdd, Nat.reduceMul, Nat.reduceSub, Nat.reduceLT, Nat.reduceLeDiff, Nat.reduceEqDiff, Int.reduceToNat, Int.reduceEq, Int.reduceLT, Int.reduceLE, reduceCtorEq] at hB
  unfold j111
  simp only [go_sem, ↓reduceIte, Nat.reduceAdd, Nat.reduceMul, Nat.reduceSub, Nat.reduceLT, Nat.reduceLeDiff, Nat.reduceEqDiff, Int.reduceToNat, Int.reduceEq, Int.reduceLT, Int.reduceLE, reduceCtorEq, Gp_eq]
  refine ⟨fun h => ?_, fun h => ?_⟩
  · have : playedF l = (firstW, 0, 2) := if_pos (by omega)
    rw [this]
    exact ⟨rfl, rfl⟩
  have h80 : ¬ 80 < l.length := by omega
  refine loopF Nat (fun i => [.int .i64 i]) (fun i => [.blk 248 (dWd.emb (wAt l i))]) (fun i => i ≤ l.length ∧ playedF l = playL (l.drop i) i (wAt l i)) (fun i => l.length - i) 0 ⟨by omega, by simp [playedF, h80, wAt]⟩ ?_ rfl ?_
  · simp only [go_sem, ↓reduceIte, Nat.reduceAdd, Nat.reduceMul, Nat.reduceSub, Nat.reduceLT, Nat.reduceLeDiff, Nat.reduceEqDiff, Int.reduceToNat, Int.reduceEq, Int.reduceLT, Int.reduceLE, reduceCtorEq]
  · intro i hi
    unfold j111_1
    simp only [go_sem, ↓reduceIte, Nat.reduceAdd, Nat.reduceMul, Nat.reduceSub, Nat.reduceLT, Nat.reduceLeDiff, Nat.reduceEqDiff, Int.reduceToNat, Int.reduceEq, Int.reduceLT, Int.reduceLE, reduceCtorEq, Gp_eq]
    refine ⟨fun h1 => ?_, fun h1 => ?_⟩
    · have hil : i < l.length := by omega
      have hd := drop_getD dEv.dft hil
      have hw : wAt l (i + 1) = (takeE (wAt l i) (l.getD i dEv.dft)).1 := by
        simp only [wAt, take_getD dEv.dft hil, List.foldl_append, List.foldl_cons, List.foldl_nil]
      have hp := hi.2
      rw [hd] at hp
      simp only [playL] at hp
      refine ⟨by omega, fun h2 => ?_, fun h2 => ⟨i + 1, ⟨by omega, ?_⟩, by omega, IntWalk.i64_in _ (by omega), ?_⟩⟩
      · rw [if_neg h2] at hp
        rw [hp]
        exact ⟨rfl, rfl⟩
      · rw [if_pos h2] at hp
        rw [hp, hw]
      · rw [hw]
    · have hil : i = l.length := by omega
      subst hil
      have hp := hi.2
      rw [List.drop_length] at hp
      simp only [playL] at hp
      rw [hp]
      unfold j111_2
      simp only [go_sem, ↓reduceIte, Nat.reduceAdd, Nat.reduceMul, Nat.reduceSub, Nat.reduceLT, Nat.reduceLeDiff, Nat.reduceEqDiff, Int.reduceToNat, Int.reduceEq, Int.reduceLT, Int.reduceLE, reduceCtorEq]
def Gc (f : FuncId) (a : List SV) (m : List Res) : Sx.Call := (FH.mk 111 (.one (DT.list 3 dEv)) (fun _ => True) (fun y => .tup [.ptr 0 [] 0, .int .i64 (playedF y.1).2.1, .int .i64 (playedF y.1).2.2]) (fun y => [.blk 248 (dWd.emb (playedF y.1).1)]) FH.none) f a m
theorem Gc_eq (f : FuncId) (a : List SV) (m : List Res) : Gc f a m = (FH.mk 111 (.one (DT.list 3 dEv)) (fun _ => True) (fun y => .tup [.ptr 0 [] 0, .int .i64 (playedF y.1).2.1, .int .i64 (playedF y.1).2.2]) (fun y => [.blk 248 (dWd.emb (playedF y.1).1)]) FH.none) f a m := nr rfl
theorem plain_played (d : DT Wd) [h : Flat d] (w : Wd) (a b : Int) : PlainM (.tup [.ptr 0 [] 0, .int .i64 a, .int .i64 b]) [.blk 248 (d.emb w)] := fun r => by
  refine ⟨?_, (plain_ptr d w r).2⟩
  simp only [ren, renL]
  refine noHV_tup fun x hx => ?_
  simp only [List.mem_cons, List.not_mem_nil, or_false] at hx
  rcases hx with rfl | rfl | rfl
  · simp only [renI]
    split
    · exact noH_ptr _ _ _
    · exact noH_junk
  · exact noH_int _ _
  · exact noH_int _ _
theorem Gc_ok : FHOK Try.prog Gc := FH.mk_ok (by kernel_rfl) (fun y _ => plain_played dWd _ _ _) (fun y _ => f_played y.1) FH.none_ok
theorem f_Check (l : List Ev) : FnOK Try.prog 59 [(DT.list 3 dEv).emb l] [] (.tup [.int .i64 (playedF l).2.1, .int .i64 (playedF l).2.2]) [] := by
  refine fn_walkF c59 w59 Gc_ok rfl ?_
  unfold j59
  simp only [go_sem, ↓reduceIte, Nat.reduceAdd, Nat.reduceMul, Nat.reduceSub, Nat.reduceLT, Nat.reduceLeDiff, Nat.reduceEqDiff, Int.reduceToNat, Int.reduceEq, Int.reduceLT, Int.reduceLE, reduceCtorEq, Gc_eq]
end Go.Proofs.Ytgcbhanfhnianaa.Tr
