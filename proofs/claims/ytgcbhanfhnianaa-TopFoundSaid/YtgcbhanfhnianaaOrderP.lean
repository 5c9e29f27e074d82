/- What is directly ahead: the package order. Conditions: none. -/
import Derived.Test.YtgcbhanfhnianaaPairs
import Derived.Test.YtgcbhanfhnianaaOrderR
import Derived.Test.YtgcbhanfhnianaaTraceR
import Derived.Test.YtgcbhanfhnianaaEqs
set_option linter.unusedSimpArgs false
set_option linter.unusedVariables false
set_option maxRecDepth 100000
open Go Go.Sx Go.Proofs
namespace Go.Proofs.Ytgcbhanfhnianaa.Od
open Go.Proofs.Ytgcbhanfhnianaa.D Go.Proofs.Ytgcbhanfhnianaa.Tr Go.Proofs.Ytgcbhanfhnianaa.Ps Go.Proofs.Ytgcbhanfhnianaa.Eqs

def j139 : JC :=
  (.seq (.ops <|
  eo 2 (.box 35 (.t 0)) <|
  eo 3 (.box 35 (.t 1)) <|
  qo 4 (.mv (B false)) <|
  .nil)
  (.seq (.ops <|
  qo 6 (.fa 0 0 (.t 2)) <|
  eo 7 (.load 1 false (.t 6)) <|
  qo 8 (.cmp .eql (.t 7) (I 4)) <|
  qo 9 (.mv (.t 8)) <|
  .prune [9, 3, 2] <|
  .sc false 13 9 (qo 10 (.fa 0 0 (.t 3)) <|
  eo 11 (.load 1 false (.t 10)) <|
  qo 12 (.cmp .eql (.t 11) (I 3)) <|
  .nil) (.t 12) <|
  qo 14 (.mv (.t 13)) <|
  .sc true 23 14 (qo 15 (.fa 0 0 (.t 2)) <|
  eo 16 (.load 1 false (.t 15)) <|
  qo 17 (.cmp .eql (.t 16) (I 8)) <|
  qo 18 (.mv (.t 17)) <|
  .sc false 22 18 (qo 19 (.fa 0 0 (.t 3)) <|
  eo 20 (.load 1 false (.t 19)) <|
  qo 21 (.cmp .eql (.t 20) (I 7)) <|
  .nil) (.t 21) <|
  .nil) (.t 22) <|
  qo 24 (.mv (.t 23)) <|
  .prune [24, 2, 3] <|
  .sc true 33 24 (qo 25 (.fa 0 0 (.t 2)) <|
  eo 26 (.load 1 false (.t 25)) <|
  qo 27 (.cmp .eql (.t 26) (I 5)) <|
  qo 28 (.mv (.t 27)) <|
  .sc false 32 28 (qo 29 (.fa 0 0 (.t 3)) <|
  eo 30 (.load 1 false (.t 29)) <|
  qo 31 (.cmp .eql (.t 30) (I 6)) <|
  .nil) (.t 31) <|
  .nil) (.t 32) <|
  qo 5 (.mv (.t 33)) <|
  .nil)
  (.prune [2, 3, 5] (.seq (.block 0 (.seq (.seq (.ops <|
  qo 35 (.fa 1 1 (.t 2)) <|
  eo 36 (.load 1 false (.t 35)) <|
  qo 37 (.fa 1 1 (.t 3)) <|
  eo 38 (.load 1 false (.t 37)) <|
  qo 39 (.cmp .eql (.t 36) (.t 38)) <|
  qo 34 (.mv (.t 39)) <|
  .nil)
  (.cond (.t 34)
  .skip
  (.ops <|
  .prune [5, 2, 3] <|
  qo 40 (.mv (.t 5)) <|
  qo 41 (.mv (.t 40)) <|
  .sc false 47 41 (qo 42 (.fa 2 2 (.t 2)) <|
  eo 43 (.load 1 false (.t 42)) <|
  qo 44 (.fa 2 2 (.t 3)) <|
  eo 45 (.load 1 false (.t 44)) <|
  qo 46 (.cmp .eql (.t 43) (.t 45)) <|
  .nil) (.t 46) <|
  qo 34 (.mv (.t 47)) <|
  .nil)))
  (.prune [34, 2, 3] (.cond (.t 34)
  (.seq (.ops <|
  qo 4 (.mv (B true)) <|
  .nil)
  .ret)
  .skip))))
  (.prune [2, 3] (.seq (.ops <|
  qo 48 (.fa 0 0 (.t 2)) <|
  eo 49 (.load 1 false (.t 48)) <|
  qo 50 (.cmp .eql (.t 49) (I 5)) <|
  qo 51 (.mv (.t 50)) <|
  .sc false 57 51 (qo 52 (.fa 2 2 (.t 2)) <|
  eo 53 (.load 1 false (.t 52)) <|
  qo 54 (.fa 1 1 (.t 3)) <|
  eo 55 (.load 1 false (.t 54)) <|
  qo 56 (.cmp .eql (.t 53) (.t 55)) <|
  .nil) (.t 56) <|
  .prune [57, 3, 2] <|
  qo 58 (.mv (.t 57)) <|
  .sc true 69 58 (qo 59 (.fa 0 0 (.t 3)) <|
  eo 60 (.load 1 false (.t 59)) <|
  qo 61 (.cmp .eql (.t 60) (I 6)) <|
  qo 62 (.mv (.t 61)) <|
  .sc false 68 62 (qo 63 (.fa 2 2 (.t 3)) <|
  eo 64 (.load 1 false (.t 63)) <|
  qo 65 (.fa 1 1 (.t 2)) <|
  eo 66 (.load 1 false (.t 65)) <|
  qo 67 (.cmp .eql (.t 64) (.t 66)) <|
  .nil) (.t 67) <|
  .nil) (.t 68) <|
  qo 4 (.mv (.t 69)) <|
  .nil)
  .ret))))))
theorem c139 : fnIs Try.prog qall 139 = some (j139.flat, [.tmp 4], 70) := by kernel_rfl
theorem w139 : j139.wf 70 = true := by kernel_rfl
theorem dir_law : ∀ t k4 k3 o k5 ot k6 ot' k8 k7 : Bool, (t || k4 && k3 && o || k5 && ot || k6 && ot' || k8 && k7 && o || k5 && k6 && o) =
    (t || (k4 && k3 || k8 && k7 || k5 && k6) && o || (k5 && ot || k6 && ot')) := by decide
theorem f_directly (a b : Ev) : FnOK Try.prog 139 [dEv.emb a, dEv.emb b] [] (.bool (dirP a b)) [] := by
  refine fn_walkF c139 w139 FH.none_ok rfl ?_
  unfold j139
  simp only [go_sem, ↓reduceIte, Nat.reduceAdd, Nat.reduceMul, Nat.reduceSub, Nat.reduceLT, Nat.reduceLeDiff, Nat.reduceEqDiff, Int.reduceToNat, Int.reduceEq, Int.reduceLT, Int.reduceLE, reduceCtorEq]
  unfold dirP
  rw [dir_law]
  refine ⟨fun h1 => ⟨fun _ => by simp [h1], fun h => absurd h1 h⟩, fun h1 => ⟨fun h2 => by rw [h2]; simp, fun h2 => by rw [h2]; simp [h1]⟩⟩
def Gd1 (f : FuncId) (a : List SV) (m : List Res) : Sx.Call := (FH.rd 139 (.two dEv dEv) (.one .bool) (fun _ => True) (fun y => dirP y.1 y.2.1) FH.none) f a m
theorem Gd1_eq (f : FuncId) (a : List SV) (m : List Res) : Gd1 f a m = (FH.rd 139 (.two dEv dEv) (.one .bool) (fun _ => True) (fun y => dirP y.1 y.2.1) FH.none) f a m := nr rfl
theorem Gd1_ok : FHOK Try.prog Gd1 := FH.rd_ok (by kernel_rfl) (fun y _ => f_directly y.1 y.2.1) FH.none_ok
def pairsF (l : List Ev) (p : Nat → Nat → Bool) : List Pr := allP (upP p) l.length l.length
def directF (l : List Ev) (p : Nat → Nat → Bool) : List Pr := if (playedF l).2.2 = 0 then pairsF l p else []
end Go.Proofs.Ytgcbhanfhnianaa.Od
