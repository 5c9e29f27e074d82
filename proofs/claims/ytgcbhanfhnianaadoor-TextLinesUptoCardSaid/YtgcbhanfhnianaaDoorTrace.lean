/- The package trace and its reference, function by function: what each hands back. Conditions: none. -/
import Derived.Test.YtgcbhanfhnianaaDoorBase
import Derived.Test.YtgcbhanfhnianaaDoorRows
import Derived.WalkKit
set_option linter.unusedSimpArgs false
set_option linter.unusedVariables false
set_option maxRecDepth 100000
open Go Go.Sx Go.Proofs
namespace Go.Proofs.YtgcbhanfhnianaaDoor.Tr
open Go.Proofs.YtgcbhanfhnianaaDoor.D

def j32 : JC :=
  (.seq (.ops <|
  qo 2 (.mv (I 0)) <|
  .nil)
  (.seq (.seq (.ops <|
  qo 3 (.mv (.t 0)) <|
  .nil)
  (.block 0 (.seq (.seq (.ops <|
  qo 5 (.cmp .eql (.t 3) (I 1)) <|
  qo 4 (.mv (.t 5)) <|
  .nil)
  (.orc 4 <|
  qo 6 (.cmp .eql (.t 3) (I 2)) <|
  qo 4 (.mv (.t 6)) <|
  .nil))
  (.cond (.t 4)
  (.seq (.ops <|
  qo 2 (.mv (I 8)) <|
  .nil)
  .ret)
  (.seq (.seq (.ops <|
  qo 8 (.cmp .eql (.t 3) (I 3)) <|
  qo 7 (.mv (.t 8)) <|
  .nil)
  (.orc 7 <|
  qo 9 (.cmp .eql (.t 3) (I 4)) <|
  qo 7 (.mv (.t 9)) <|
  .nil))
  (.prune [7, 3] (.cond (.t 7)
  (.seq (.ops <|
  qo 2 (.mv (I 5)) <|
  .nil)
  .ret)
  (.seq (.seq (.ops <|
  qo 11 (.cmp .eql (.t 3) (I 5)) <|
  qo 10 (.mv (.t 11)) <|
  .nil)
  (.orc 10 <|
  qo 12 (.cmp .eql (.t 3) (I 6)) <|
  qo 10 (.mv (.t 12)) <|
  .nil))
  (.cond (.t 10)
  (.seq (.ops <|
  qo 2 (.mv (I 6)) <|
  .nil)
  .ret)
  (.seq (.seq (.ops <|
  qo 14 (.cmp .eql (.t 3) (I 7)) <|
  qo 13 (.mv (.t 14)) <|
  .nil)
  (.orc 13 <|
  qo 15 (.cmp .eql (.t 3) (I 8)) <|
  qo 13 (.mv (.t 15)) <|
  .nil))
  (.prune [13] (.cond (.t 13)
  (.seq (.ops <|
  qo 2 (.mv (I 4)) <|
  .nil)
  .ret)
  .skip))))))))))))
  (.prune [] (.seq (.ops <|
  qo 2 (.mv (I 0)) <|
  .nil)
  .ret))))
theorem c32 : fnIs Tryd.prog qall 32 = some (j32.flat, [.tmp 2], 16) := by kernel_rfl
theorem w32 : j32.wf 16 = true := by kernel_rfl

def j19 : JC :=
  (.seq (.ops <|
  eo 1 (.box 29 (.t 0)) <|
  qo 2 (.mv (B false)) <|
  .nil)
  (.seq (.dops <|
  qo 3 (.fa 1 1 (.t 1)) <|
  eo 4 (.load 1 false (.t 3)) <|
  qo 5 (.cmp .geq (.t 4) (I 0)) <|
  qo 6 (.mv (.t 5)) <|
  .sc false 10 6 (qo 7 (.fa 1 1 (.t 1)) <|
  eo 8 (.load 1 false (.t 7)) <|
  qo 9 (.cmp .lss (.t 8) (I 6)) <|
  .nil) (.t 9) <|
  .prune [10, 1] <|
  qo 11 (.mv (.t 10)) <|
  .sc false 15 11 (qo 12 (.fa 2 2 (.t 1)) <|
  eo 13 (.load 1 false (.t 12)) <|
  qo 14 (.cmp .geq (.t 13) (I 0)) <|
  .nil) (.t 14) <|
  qo 16 (.mv (.t 15)) <|
  .sc false 23 16 (qo 17 (.fa 2 2 (.t 1)) <|
  eo 18 (.load 1 false (.t 17)) <|
  qo 19 (.fa 0 0 (.t 1)) <|
  eo 20 (.load 1 false (.t 19)) <|
  eo 21 (.qcall 32 [(.t 20)]) <|
  qo 22 (.cmp .lss (.t 18) (.t 21)) <|
  .nil) (.t 22) <|
  qo 2 (.mv (.t 23)) <|
  .nil)
  .ret))
theorem c19 : fnIs Tryd.prog qall 19 = some (j19.flat, [.tmp 2], 24) := by kernel_rfl
theorem w19 : j19.wf 24 = true := by kernel_rfl

def many (k : Int) : Int := if k = 1 ∨ k = 2 then 8 else if k = 3 ∨ k = 4 then 5 else if k = 5 ∨ k = 6 then 6 else if k = 7 ∨ k = 8 then 4 else 0
theorem f_many (k : Int) : FnOK Tryd.prog 32 [.int .i64 k] [] (.int .i64 (many k)) [] := by
  refine fn_walkF c32 w32 FH.none_ok rfl ?_
  unfold j32
  simp only [go_sem, ↓reduceIte, Nat.reduceAdd, Nat.reduceMul, Nat.reduceSub, Nat.reduceLT, Nat.reduceLeDiff, Nat.reduceEqDiff, Int.reduceToNat, Int.reduceEq, Int.reduceLT, Int.reduceLE, reduceCtorEq]
  unfold many
  refine ⟨fun h => ?_, fun h => ⟨fun h2 => ?_, fun h2 => ⟨fun h3 => ?_, fun h3 => ⟨fun h4 => ?_, fun h4 => ?_⟩⟩⟩⟩ <;> simp_all
def isEv (e : Ev) : Bool := decide (0 ≤ e.thr) && decide (e.thr < 6) && decide (0 ≤ e.obj) && decide (e.obj < many e.kind)
def Gm (f : FuncId) (a : List SV) (m : List Res) : Sx.Call := (FH.rd 32 (.one .int) (.one .int) (fun _ => True) (fun y => many y.1) FH.none) f a m
theorem Gm_eq (f : FuncId) (a : List SV) (m : List Res) : Gm f a m = (FH.rd 32 (.one .int) (.one .int) (fun _ => True) (fun y => many y.1) FH.none) f a m := nr rfl
theorem Gm_ok : FHOK Tryd.prog Gm := FH.rd_ok (by kernel_rfl) (fun y _ => f_many y.1) FH.none_ok
theorem f_IsEvent (e : Ev) : FnOK Tryd.prog 19 [dEv.emb e] [] (.bool (isEv e)) [] := by
  refine fn_walkF c19 w19 Gm_ok rfl ?_
  unfold j19
  simp only [go_sem, ↓reduceIte, Nat.reduceAdd, Nat.reduceMul, Nat.reduceSub, Nat.reduceLT, Nat.reduceLeDiff, Nat.reduceEqDiff, Int.reduceToNat, Int.reduceEq, Int.reduceLT, Int.reduceLE, reduceCtorEq, Gm_eq]
  rfl
theorem isEv_iff (e : Ev) : isEv e = true ↔ 0 ≤ e.thr ∧ e.thr < 6 ∧ 0 ≤ e.obj ∧ e.obj < many e.kind := by
  simp [isEv, and_assoc]
end Go.Proofs.YtgcbhanfhnianaaDoor.Tr
