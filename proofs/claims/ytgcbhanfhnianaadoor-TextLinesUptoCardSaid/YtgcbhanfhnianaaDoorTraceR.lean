/- The reference of the package trace, function by function: what each hands back; and that both agree. Conditions: none. -/
import Derived.Test.YtgcbhanfhnianaaDoorTrace
set_option linter.unusedSimpArgs false
set_option linter.unusedVariables false
set_option maxRecDepth 100000
open Go Go.Sx Go.Proofs
namespace Go.Proofs.YtgcbhanfhnianaaDoor.Tr
open Go.Proofs.YtgcbhanfhnianaaDoor.D

def j34 : JC :=
  (.seq (.ops <|
  qo 6 (.mv (B false)) <|
  .nil)
  (.seq (.ops <|
  qo 7 (.mv (.t 0)) <|
  qo 8 (.mv (.t 1)) <|
  qo 9 (.cmp .lss (.t 7) (.t 8)) <|
  qo 10 (.mv (.t 9)) <|
  .sc true 14 10 (qo 11 (.mv (.t 0)) <|
  qo 12 (.mv (.t 2)) <|
  qo 13 (.cmp .gtr (.t 11) (.t 12)) <|
  .nil) (.t 13) <|
  qo 6 (.mv (.t 14)) <|
  .nil)
  .ret))
theorem c34 : fnIs Tryd.prog qall 34 = some (j34.flat, [.tmp 6], 15) := by kernel_rfl
theorem w34 : j34.wf 15 = true := by kernel_rfl

def j22 : JC :=
  (.seq (.ops <|
  eo 1 (.box 29 (.t 0)) <|
  qo 2 (.mv (B false)) <|
  .nil)
  (.seq (.seq (.ops <|
  qo 3 (.fa 0 0 (.t 1)) <|
  eo 4 (.load 1 false (.t 3)) <|
  eo 5 (.call 34 [(.t 4), (I 1), (I 8)]) <|
  qo 6 (.mv (.t 5)) <|
  .sc true 10 6 (qo 7 (.fa 1 1 (.t 1)) <|
  eo 8 (.load 1 false (.t 7)) <|
  eo 9 (.call 34 [(.t 8), (I 0), (I 5)]) <|
  .nil) (.t 9) <|
  .nil)
  (.prune [10, 1] (.cond (.t 10)
  (.seq (.ops <|
  qo 2 (.mv (B false)) <|
  .nil)
  .ret)
  .skip)))
  (.prune [1] (.seq (.dops <|
  qo 11 (.fa 2 2 (.t 1)) <|
  eo 12 (.load 1 false (.t 11)) <|
  eo 13 (.qtab [7, 7, 4, 4, 5, 5, 3, 3]) <|
  qo 14 (.fa 0 0 (.t 1)) <|
  eo 15 (.load 1 false (.t 14)) <|
  qo 16 (.ar .sub (.t 15) (I 1)) <|
  .prune [13, 16, 12] <|
  qo 17 (.is 1 (.t 13) (.t 16)) <|
  eo 18 (.load 1 false (.t 17)) <|
  eo 19 (.qcall 34 [(.t 12), (I 0), (.t 18)]) <|
  qo 20 (.nt (.t 19)) <|
  qo 2 (.mv (.t 20)) <|
  .nil)
  .ret))))
theorem c22 : fnIs Tryd.prog qall 22 = some (j22.flat, [.tmp 2], 21) := by kernel_rfl
theorem w22 : j22.wf 21 = true := by kernel_rfl
def outB (n lo hi : Int) : Bool := decide (n < lo) || decide (hi < n)
theorem f_outside (n lo hi : Int) : FnOK Tryd.prog 34 [.int .i64 n, .int .i64 lo, .int .i64 hi] [] (.bool (outB n lo hi)) [] := by
  refine fn_walkF c34 w34 FH.none_ok rfl ?_
  unfold j34
  simp only [go_sem, ↓reduceIte, Nat.reduceAdd, Nat.reduceMul, Nat.reduceSub, Nat.reduceLT, Nat.reduceLeDiff, Nat.reduceEqDiff, Int.reduceToNat, Int.reduceEq, Int.reduceLT, Int.reduceLE, reduceCtorEq]
  rfl
def Go (f : FuncId) (a : List SV) (m : List Res) : Sx.Call := (FH.rd 34 (.three .int .int .int) (.one .bool) (fun _ => True) (fun y => outB y.1 y.2.1 y.2.2.1) FH.none) f a m
theorem Go_eq (f : FuncId) (a : List SV) (m : List Res) : Go f a m = (FH.rd 34 (.three .int .int .int) (.one .bool) (fun _ => True) (fun y => outB y.1 y.2.1 y.2.2.1) FH.none) f a m := nr rfl
theorem Go_ok : FHOK Tryd.prog Go := FH.rd_ok (by kernel_rfl) (fun y _ => f_outside y.1 y.2.1 y.2.2.1) FH.none_ok
theorem f_RIsEvent (e : Ev) : FnOK Tryd.prog 22 [dEv.emb e] [] (.bool (isEv e)) [] := by
  refine fn_walkF c22 w22 Go_ok rfl ?_
  unfold j22
  simp only [go_sem, ↓reduceIte, Nat.reduceAdd, Nat.reduceMul, Nat.reduceSub, Nat.reduceLT, Nat.reduceLeDiff, Nat.reduceEqDiff, Int.reduceToNat, Int.reduceEq, Int.reduceLT, Int.reduceLE, reduceCtorEq, Go_eq]
  have k1 : outB e.kind 1 8 = false ↔ 1 ≤ e.kind ∧ e.kind ≤ 8 := by simp [outB]
  have k2 : outB e.thr 0 5 = false ↔ 0 ≤ e.thr ∧ e.thr ≤ 5 := by simp [outB]
  refine ⟨fun h => ?_, fun h => ?_⟩
  · symm
    rw [← Bool.not_eq_true, isEv_iff]
    rintro ⟨b1, b2, b3, b4⟩
    have h2 : outB e.thr 0 5 = false := k2.2 (by omega)
    have h1 : outB e.kind 1 8 = false := by
      refine k1.2 ?_
      unfold many at b4
      split at b4
      · omega
      · split at b4
        · omega
        · split at b4
          · omega
          · split at b4 <;> omega
    rw [h1, h2] at h
    cases h
  · simp only [Bool.or_eq_false_iff] at h
    obtain ⟨c1, c2⟩ := k1.1 h.1
    obtain ⟨c3, c4⟩ := k2.1 h.2
    have hw : IntKind.i64.wrap (e.kind - 1) = e.kind - 1 := IntWalk.i64_in _ (by omega)
    rw [hw]
    refine ⟨⟨by omega, by omega⟩, ?_⟩
    have hm : many e.kind = ([7, 7, 4, 4, 5, 5, 3, 3] : List Int).getD (e.kind - 1).toNat 0 + 1 := by
      rcases (show e.kind = 1 ∨ e.kind = 2 ∨ e.kind = 3 ∨ e.kind = 4 ∨ e.kind = 5 ∨ e.kind = 6 ∨ e.kind = 7 ∨ e.kind = 8 by omega) with h | h | h | h | h | h | h | h <;> rw [h] <;> rfl
    generalize ([7, 7, 4, 4, 5, 5, 3, 3] : List Int).getD (e.kind - 1).toNat 0 = b at hm ⊢
    rw [Bool.eq_iff_iff, isEv_iff]
    simp only [outB, Bool.not_eq_true', Bool.or_eq_false_iff, decide_eq_false_iff_not]
    omega
/-! ### Both agree -/
end Go.Proofs.YtgcbhanfhnianaaDoor.Tr
