/- The package guard: Common. Conditions: none. -/
import Derived.Test.YtafcmgfmmlnngaaGuardI
set_option linter.unusedSimpArgs false
set_option linter.unusedVariables false
set_option maxRecDepth 100000
open Go Go.Sx Go.Proofs
namespace Go.Proofs.Ytafcmgfmmlnngaa.Gu
open Go.Proofs.Ytafcmgfmmlnngaa.D Go.Proofs.Ytafcmgfmmlnngaa.Tr
def stepC (x : Int) (s : Int) (e : Ev) (locks : Int) : Int := if e.obj = x then bitAnd .i64 s locks else s
def CS (l : List Ev) (x : Int) : Nat → Int
  | 0 => 31
  | i + 1 => if isAcc (l.getD i dEv.dft) then stepC x (CS l x i) (l.getD i dEv.dft) (HS l (i + 1) (l.getD i dEv.dft).thr.toNat) else CS l x i
def j28_1 : JC :=
  (.seq (.ops <|
  qo 9 (.mv (.t 27)) <|
  .nil)
  (.ops <|
  qo 10 (.mv (.t 28)) <|
  .nil))
def j28_2 : JC :=
  (.block 1 (.seq (.dops <|
  eo 29 (.load 1 false (.t 2)) <|
  qo 30 (.mv (.t 9)) <|
  qo 31 (.is 3 (.t 29) (.t 30)) <|
  qo 32 (.fa 2 2 (.t 31)) <|
  eo 33 (.load 1 false (.t 32)) <|
  eo 34 (.load 1 false (.t 3)) <|
  qo 35 (.cmp .eql (.t 33) (.t 34)) <|
  .nil)
  (.cond (.t 35)
  (.ops <|
  .prune [8, 10] <|
  eo 36 (.load 1 false (.t 8)) <|
  qo 37 (.mv (.t 10)) <|
  qo 38 (.ar .and (.t 36) (.t 37)) <|
  en (.store 1 (.t 8) (.t 38)) <|
  .nil)
  .skip)))
def j28 : XC :=
  (.seq (.ops <|
  eo 2 (.box 29 (.t 0)) <|
  eo 3 (.box 3 (.t 1)) <|
  qo 4 (.mv (I 0)) <|
  qo 5 (.mv (I 0)) <|
  .nil)
  (.seq (.seq (.ops <|
  eo 12 (.load 1 false (.t 2)) <|
  eo 13 (.call 51 [(.t 12)]) <|
  qo 11 (.mv (.t 13)) <|
  .prune [11, 3, 2] <|
  qo 14 (.ext 0 (.t 11)) <|
  qo 15 (.ext 1 (.t 11)) <|
  qo 6 (.mv (.t 14)) <|
  qo 7 (.mv (.t 15)) <|
  .nil)
  (.prune [7, 3, 2] (.seq (.ops <|
  qo 16 (.mv (.t 7)) <|
  qo 17 (.cmp .neq (.t 16) (I 0)) <|
  .nil)
  (.cond (.t 17)
  (.seq (.ops <|
  qo 18 (.mv (.t 7)) <|
  qo 4 (.mv (I 0)) <|
  qo 5 (.mv (.t 18)) <|
  .nil)
  .ret)
  .skip))))
  (.prune [3, 2] (.seq (.seq (.ops <|
  eo 19 (.load 1 false (.t 3)) <|
  qo 20 (.cmp .lss (.t 19) (I 0)) <|
  qo 21 (.mv (.t 20)) <|
  .sc true 24 21 (eo 22 (.load 1 false (.t 3)) <|
  qo 23 (.cmp .geq (.t 22) (I 8)) <|
  .nil) (.t 23) <|
  .nil)
  (.cond (.t 24)
  (.seq (.ops <|
  qo 4 (.mv (I 0)) <|
  qo 5 (.mv (I 1)) <|
  .nil)
  .ret)
  .skip))
  (.prune [2, 3] (.seq (.ops <|
  eo 8 (.alloc 3 (.int .i64 0)) <|
  en (.store 1 (.t 8) (I 31)) <|
  .nil)
  (.rf (.ops <|
  eo 25 (.load 1 false (.t 2)) <|
  eo 26 (.call 56 [(.t 25)]) <|
  .nil)
  0 26 [27, 28] j28_1 j28_2 none [8, 2, 3]
  (.seq (.ops <|
  eo 39 (.load 1 false (.t 8)) <|
  qo 4 (.mv (.t 39)) <|
  qo 5 (.mv (I 0)) <|
  .nil)
  .ret))))))))
theorem c28 : fnX Try.prog qall 28 = some (j28.flat, [.tmp 4, .tmp 5], 40) := by kernel_rfl
theorem w28 : j28.wf 40 = true := by kernel_rfl
theorem w28_1 : j28_1.wf 40 = true := by kernel_rfl
theorem w28_2 : j28_2.wf 40 = true := by kernel_rfl
abbrev Mc (l : List Ev) (x s : Int) : List Res := [.blk 29 (dEs.emb l), .blk 3 (.int .i64 x), .blk 3 (.int .i64 s), .blk 29 (dEs.emb l)]
theorem body_common (l : List Ev) (x s : Int) (i : Nat) (locks : Int) (hh : Nat → Int) (hi : i < l.length) :
    Yrel Gr j28_1 j28_2 [27, 28] (Fr.put 8 (SV.ptr 2 [] 0) (Fr.put 2 (SV.ptr 0 [] 0) (Fr.put 3 (SV.ptr 1 [] 0) Fr.nil))) [.int .i64 i, .int .i64 locks] (Mc l x s ++ [.blk 142 (dHd.emb hh), .blk 35 (dEv.emb (l.getD i dEv.dft))])
      (Mc l x (stepC x s (l.getD i dEv.dft) locks) ++ [.blk 142 (dHd.emb hh), .blk 35 (dEv.emb (l.getD i dEv.dft))]) := by
  generalize hE : l.getD i dEv.dft = e at *
  have hi' : (i : Int) < l.length := by omega
  refine ⟨rfl, ?_⟩
  unfold j28_1
  simp only [go_sem, ↓reduceIte, Nat.reduceAdd, Nat.reduceMul, Nat.reduceSub, Nat.reduceLT, Nat.reduceLeDiff, Nat.reduceEqDiff, Int.reduceToNat, Int.reduceEq, Int.reduceLT, Int.reduceLE, reduceCtorEq, Mc]
  unfold j28_2
  by_cases h : e.obj = x
  · simp only [go_sem, ↓reduceIte, Nat.reduceAdd, Nat.reduceMul, Nat.reduceSub, Nat.reduceLT, Nat.reduceLeDiff, Nat.reduceEqDiff, Int.reduceToNat, Int.reduceEq, Int.reduceLT, Int.reduceLE, reduceCtorEq, Gr_eq, Mc, hE, hi, hi', h, stepC]
    omega
  · simp only [go_sem, ↓reduceIte, Nat.reduceAdd, Nat.reduceMul, Nat.reduceSub, Nat.reduceLT, Nat.reduceLeDiff, Nat.reduceEqDiff, Int.reduceToNat, Int.reduceEq, Int.reduceLT, Int.reduceLE, reduceCtorEq, Gr_eq, Mc, hE, hi, hi', h, stepC]
    omega
theorem it_common (l : List Ev) (x : Int) (h : (playedF l).2.2 = 0) (τ : Fr) (hτ : keepF [8, 2, 3] τ = Fr.put 8 (SV.ptr 2 [] 0) (Fr.put 2 (SV.ptr 0 [] 0) (Fr.put 3 (SV.ptr 1 [] 0) Fr.nil))) :
    ITok Try.prog qall 40 [27, 28] j28_1.flat j28_2.flat τ 83 [SV.ptr 3 [] 0] (Mc l x (CS l x 0)) (Mc l x (CS l x l.length)) := by
  have hok : (checkR l).2 = 0 := by rw [← played_check]; exact h
  refine it_ok cy83 wy83 Gy_ok Gr_ok w28_1 w28_2 rfl rfl (ks := [8, 2, 3]) ?_ fun yv => ?_
  · rw [hτ]
    simp only [go_sem, ↓reduceIte, Nat.reduceAdd, Nat.reduceMul, Nat.reduceSub, Nat.reduceLT, Nat.reduceLeDiff, Nat.reduceEqDiff, Int.reduceToNat, Int.reduceEq, Int.reduceLT, Int.reduceLE, reduceCtorEq]
  rw [hτ]
  unfold y83
  simp only [go_sem, ↓reduceIte, Nat.reduceAdd, Nat.reduceMul, Nat.reduceSub, Nat.reduceLT, Nat.reduceLeDiff, Nat.reduceEqDiff, Int.reduceToNat, Int.reduceEq, Int.reduceLT, Int.reduceLE, reduceCtorEq, Gy_eq, Mc]
  refine yloopF Nat (fun i => [.int .i64 i]) (fun i => Mc l x (CS l x i) ++ [.blk 142 (dHd.emb (HS l i))]) (fun i => i ≤ l.length) (fun i => l.length - i) 0 (by omega) ?_ ?_ ?_
  · simp only [go_sem, ↓reduceIte, Nat.reduceAdd, Nat.reduceMul, Nat.reduceSub, Nat.reduceLT, Nat.reduceLeDiff, Nat.reduceEqDiff, Int.reduceToNat, Int.reduceEq, Int.reduceLT, Int.reduceLE, reduceCtorEq]
  · simp only [go_sem, ↓reduceIte, Nat.reduceAdd, Nat.reduceMul, Nat.reduceSub, Nat.reduceLT, Nat.reduceLeDiff, Nat.reduceEqDiff, Int.reduceToNat, Int.reduceEq, Int.reduceLT, Int.reduceLE, reduceCtorEq, HS, Mc]
  intro i hi
  by_cases h1 : i < l.length
  · have h1' : (i : Int) < l.length := by omega
    have h8 := ok_len hok
    have hw : IntKind.i64.wrap ((i : Int) + 1) = ((i + 1 : Nat) : Int) := IntWalk.i64_in _ (by omega)
    have hev := ok_isEv hok i h1
    unfold y83_1 y83_yl
    simp only [go_sem, ↓reduceIte, Nat.reduceAdd, Nat.reduceMul, Nat.reduceSub, Nat.reduceLT, Nat.reduceLeDiff, Nat.reduceEqDiff, Int.reduceToNat, Int.reduceEq, Int.reduceLT, Int.reduceLE, reduceCtorEq, Gy_eq, Mc, h1, h1', hw, hev]
    have hb : (l.getD i dEv.dft).thr.toNat < 6 ∧ 0 ≤ (l.getD i dEv.dft).thr ∧ (l.getD i dEv.dft).thr < 6 := by
      have := (isEv_iff _).1 hev
      omega
    refine ⟨by omega, fun h2 => ⟨i + 1, by omega, by omega, rfl, ?_⟩, fun h2 => ⟨h2, h2, h2, h2, h2, ⟨hb.2.1, hb.2.2⟩, h2, h2, ?_⟩⟩
    · simp only [CS, h2, HS]
      rfl
    · have hy := body_common l x (CS l x i) i (HS l (i + 1) (l.getD i dEv.dft).thr.toNat) (HS l (i + 1)) h1
      refine ⟨_, hy, i + 1, by omega, by omega, rfl, ?_⟩
      have e1 : CS l x (i + 1) = stepC x (CS l x i) (l.getD i dEv.dft) (HS l (i + 1) (l.getD i dEv.dft).thr.toNat) := by simp only [CS, h2, if_true]
      rw [← e1]
      simp only [go_sem, ↓reduceIte, Nat.reduceAdd, Nat.reduceMul, Nat.reduceSub, Nat.reduceLT, Nat.reduceLeDiff, Nat.reduceEqDiff, Int.reduceToNat, Int.reduceEq, Int.reduceLT, Int.reduceLE, reduceCtorEq, Mc]
  · have h1' : ¬ (i : Int) < l.length := by omega
    have e : i = l.length := by omega
    unfold y83_1
    simp only [go_sem, ↓reduceIte, Nat.reduceAdd, Nat.reduceMul, Nat.reduceSub, Nat.reduceLT, Nat.reduceLeDiff, Nat.reduceEqDiff, Int.reduceToNat, Int.reduceEq, Int.reduceLT, Int.reduceLE, reduceCtorEq, Gy_eq, Mc, h1']
    subst e
    refine ⟨trivial, [], ?_⟩
    simp only [go_sem, ↓reduceIte, Nat.reduceAdd, Nat.reduceMul, Nat.reduceSub, Nat.reduceLT, Nat.reduceLeDiff, Nat.reduceEqDiff, Int.reduceToNat, Int.reduceEq, Int.reduceLT, Int.reduceLE, reduceCtorEq]
def commonF (l : List Ev) (x : Int) : Int × Int := if (playedF l).2.2 = 0 then (if x < 0 ∨ 8 ≤ x then (0, 1) else (CS l x l.length, 0)) else (0, (playedF l).2.2)
theorem f_Common (l : List Ev) (x : Int) : FnOK Try.prog 28 [dEs.emb l, .int .i64 x] [] (.tup [.int .i64 (commonF l x).1, .int .i64 (commonF l x).2]) [] := by
  refine fn_walkX c28 w28 Gr_ok rfl ?_
  unfold j28
  by_cases h : (playedF l).2.2 = 0
  · by_cases h2 : x < 0 ∨ 8 ≤ x
    · have hb : (decide (x < 0) || decide (8 ≤ x)) = true := by simpa using h2
      have hr : commonF l x = (0, 1) := by rw [commonF, if_pos h, if_pos h2]
      simp only [go_sem, ↓reduceIte, Nat.reduceAdd, Nat.reduceMul, Nat.reduceSub, Nat.reduceLT, Nat.reduceLeDiff, Nat.reduceEqDiff, Int.reduceToNat, Int.reduceEq, Int.reduceLT, Int.reduceLE, reduceCtorEq, Gr_eq, h, hr, hb]
    · have hb : (decide (x < 0) || decide (8 ≤ x)) = false := by simpa using h2
      have hr : commonF l x = (CS l x l.length, 0) := by rw [commonF, if_pos h, if_neg h2]
      simp only [go_sem, ↓reduceIte, Nat.reduceAdd, Nat.reduceMul, Nat.reduceSub, Nat.reduceLT, Nat.reduceLeDiff, Nat.reduceEqDiff, Int.reduceToNat, Int.reduceEq, Int.reduceLT, Int.reduceLE, reduceCtorEq, Gr_eq, h, hr, hb]
      refine rfK_use (m2 := Mc l x (CS l x 0)) (m1 := Mc l x (CS l x l.length)) (fun K h => h) rfl (by kernel_rfl) ?_ ?_ (it_common l x h _ rfl) ?_
      · simp only [go_sem, ↓reduceIte, Nat.reduceAdd, Nat.reduceMul, Nat.reduceSub, Nat.reduceLT, Nat.reduceLeDiff, Nat.reduceEqDiff, Int.reduceToNat, Int.reduceEq, Int.reduceLT, Int.reduceLE, reduceCtorEq]
      · simp only [go_sem, ↓reduceIte, Nat.reduceAdd, Nat.reduceMul, Nat.reduceSub, Nat.reduceLT, Nat.reduceLeDiff, Nat.reduceEqDiff, Int.reduceToNat, Int.reduceEq, Int.reduceLT, Int.reduceLE, reduceCtorEq]
      · simp only [go_sem, ↓reduceIte, Nat.reduceAdd, Nat.reduceMul, Nat.reduceSub, Nat.reduceLT, Nat.reduceLeDiff, Nat.reduceEqDiff, Int.reduceToNat, Int.reduceEq, Int.reduceLT, Int.reduceLE, reduceCtorEq, hr]
  · have hr : commonF l x = (0, (playedF l).2.2) := by rw [commonF, if_neg h]
    simp only [go_sem, ↓reduceIte, Nat.reduceAdd, Nat.reduceMul, Nat.reduceSub, Nat.reduceLT, Nat.reduceLeDiff, Nat.reduceEqDiff, Int.reduceToNat, Int.reduceEq, Int.reduceLT, Int.reduceLE, reduceCtorEq, Gr_eq, h, hr]
end Go.Proofs.Ytafcmgfmmlnngaa.Gu
