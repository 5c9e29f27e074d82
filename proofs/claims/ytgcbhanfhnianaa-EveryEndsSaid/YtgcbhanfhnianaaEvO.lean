/- The order of ends, as the program and the reference have it. Conditions: none. -/
import Derived.Test.YtgcbhanfhnianaaEvU
set_option linter.unusedSimpArgs false
set_option linter.unusedVariables false
set_option maxRecDepth 100000
open Go Go.Sx Go.Proofs
namespace Go.Proofs.Ytgcbhanfhnianaa.Ev
open Go.Proofs.Ytgcbhanfhnianaa.D Go.Proofs.Ytgcbhanfhnianaa.Pg Go.Proofs.Ytgcbhanfhnianaa.Tr Go.Proofs.Ytgcbhanfhnianaa.Rn Go.Proofs.Ytgcbhanfhnianaa.Cp Go.Proofs.Ytgcbhanfhnianaa.Rc

def j150 : JC :=
  (.seq (.ops <|
  qo 2 (.mv (B false)) <|
  .nil)
  (.seq (.ops <|
  qo 3 (.mv (.t 0)) <|
  qo 4 (.mv (.t 0)) <|
  qo 5 (.cmp .neq (.t 3) (.t 4)) <|
  qo 2 (.mv (.t 5)) <|
  .nil)
  .ret))
theorem c150 : fnIs Try.prog qall 150 = some (j150.flat, [.tmp 2], 6) := by kernel_rfl
theorem w150 : j150.wf 6 = true := by kernel_rfl

def j126 : JC :=
  (.seq (.ops <|
  qo 4 (.mv (I 0)) <|
  .nil)
  (.seq (.ops <|
  qo 7 (.mv (.t 0)) <|
  eo 8 (.call 150 [(.t 7)]) <|
  qo 5 (.mv (.t 8)) <|
  .nil)
  (.seq (.ops <|
  qo 9 (.mv (.t 1)) <|
  eo 10 (.call 150 [(.t 9)]) <|
  qo 6 (.mv (.t 10)) <|
  .nil)
  (.seq (.seq (.ops <|
  qo 11 (.mv (.t 5)) <|
  .nil)
  (.cond (.t 11)
  (.seq (.seq (.ops <|
  qo 12 (.mv (.t 6)) <|
  .nil)
  (.cond (.t 12)
  (.seq (.ops <|
  qo 4 (.mv (I 0)) <|
  .nil)
  .ret)
  .skip))
  (.prune [] (.seq (.ops <|
  qo 4 (.mv (I (-1))) <|
  .nil)
  .ret)))
  .skip))
  (.prune [6, 0, 1] (.seq (.seq (.ops <|
  qo 13 (.mv (.t 6)) <|
  .nil)
  (.cond (.t 13)
  (.seq (.ops <|
  qo 4 (.mv (I 1)) <|
  .nil)
  .ret)
  .skip))
  (.seq (.seq (.ops <|
  qo 14 (.mv (.t 0)) <|
  qo 15 (.mv (.t 1)) <|
  qo 16 (.cmp .lss (.t 14) (.t 15)) <|
  .nil)
  (.cond (.t 16)
  (.seq (.ops <|
  qo 4 (.mv (I (-1))) <|
  .nil)
  .ret)
  .skip))
  (.seq (.seq (.ops <|
  .prune [0, 1] <|
  qo 17 (.mv (.t 0)) <|
  qo 18 (.mv (.t 1)) <|
  qo 19 (.cmp .gtr (.t 17) (.t 18)) <|
  .nil)
  (.prune [19] (.cond (.t 19)
  (.seq (.ops <|
  qo 4 (.mv (I 1)) <|
  .nil)
  .ret)
  .skip)))
  (.prune [] (.seq (.ops <|
  qo 4 (.mv (I 0)) <|
  .nil)
  .ret))))))))))
theorem c126 : fnIs Try.prog qall 126 = some (j126.flat, [.tmp 4], 20) := by kernel_rfl
theorem w126 : j126.wf 20 = true := by kernel_rfl
def j124_1 : JC :=
  (.seq (.ops <|
  qo 9 (.cmp .lss (.t 8) (.t 7)) <|
  .nil)
  (.seq (.cond (.t 9)
  .skip
  (.exit 0))
  (.seq (.block 1 (.seq (.ops <|
  qo 10 (.is 1 (.t 6) (.t 8)) <|
  eo 11 (.load 1 false (.t 10)) <|
  qo 5 (.mv (.t 11)) <|
  .nil)
  (.seq (.ops <|
  .prune [5, 3, 8, 7, 6] <|
  qo 12 (.mv (.t 5)) <|
  qo 13 (.mv (.t 3)) <|
  qo 14 (.cmp .neq (.t 12) (.t 13)) <|
  .nil)
  (.prune [14, 5, 8, 7, 6, 3] (.cond (.t 14)
  (.seq (.ops <|
  qo 15 (.mv (.t 5)) <|
  qo 2 (.mv (.t 15)) <|
  .nil)
  .ret)
  .skip)))))
  (.prune [8, 7, 6, 3] (.ops <|
  qo 16 (.ar .add (.t 8) (I 1)) <|
  qo 8 (.mv (.t 16)) <|
  .nil)))))
def j124_2 : JC :=
  (.prune [3] (.seq (.ops <|
  qo 17 (.mv (.t 3)) <|
  qo 2 (.mv (.t 17)) <|
  .nil)
  .ret))
def j124 : JC :=
  (.seq (.ops <|
  qo 2 (.mv (I 0)) <|
  .nil)
  (.seq (.ops <|
  qo 3 (.mv (I 0)) <|
  .nil)
  (.seq (.seq (.ops <|
  qo 6 (.mv (.t 0)) <|
  qo 7 (.len (.t 6)) <|
  qo 8 (.mv (I 0)) <|
  .nil)
  (.block 0 (.loop [7, 6, 3] [8] j124_1)))
  j124_2)))
theorem c124 : fnIs Try.prog qall 124 = some (j124.flat, [.tmp 2], 18) := by kernel_rfl
theorem w124 : j124.wf 18 = true := by kernel_rfl
def j125_1 : JC :=
  (.seq (.ops <|
  qo 12 (.cmp .lss (.t 11) (.t 10)) <|
  .nil)
  (.seq (.cond (.t 12)
  .skip
  (.exit 0))
  (.seq (.block 1 (.seq (.ops <|
  qo 13 (.mv (.t 11)) <|
  qo 14 (.is 1 (.t 9) (.t 11)) <|
  eo 15 (.load 1 false (.t 14)) <|
  qo 5 (.mv (.t 13)) <|
  qo 6 (.mv (.t 15)) <|
  .nil)
  (.prune [5, 1, 6, 11, 10, 9, 0] (.seq (.seq (.ops <|
  qo 16 (.mv (.t 5)) <|
  qo 17 (.mv (.t 1)) <|
  qo 18 (.len (.t 17)) <|
  qo 19 (.cmp .geq (.t 16) (.t 18)) <|
  .nil)
  (.prune [19, 1, 5, 6, 11, 10, 9, 0] (.cond (.t 19)
  (.seq (.ops <|
  qo 4 (.mv (I 1)) <|
  .nil)
  .ret)
  .skip)))
  (.prune [1, 5, 6, 11, 10, 9, 0] (.seq (.ops <|
  qo 20 (.mv (.t 1)) <|
  qo 21 (.mv (.t 5)) <|
  qo 22 (.is 1 (.t 20) (.t 21)) <|
  eo 23 (.load 1 false (.t 22)) <|
  qo 7 (.mv (.t 23)) <|
  .nil)
  (.prune [6, 7, 11, 10, 9, 1, 0] (.seq (.ops <|
  qo 24 (.mv (.t 6)) <|
  qo 25 (.mv (.t 7)) <|
  eo 26 (.call 126 [(.t 24), (.t 25)]) <|
  qo 8 (.mv (.t 26)) <|
  .nil)
  (.prune [8, 11, 10, 9, 1, 0] (.seq (.ops <|
  qo 27 (.mv (.t 8)) <|
  qo 28 (.cmp .neq (.t 27) (I 0)) <|
  .nil)
  (.cond (.t 28)
  (.seq (.ops <|
  qo 29 (.mv (.t 8)) <|
  qo 4 (.mv (.t 29)) <|
  .nil)
  .ret)
  .skip)))))))))))
  (.prune [11, 10, 9, 1, 0] (.ops <|
  qo 30 (.ar .add (.t 11) (I 1)) <|
  qo 11 (.mv (.t 30)) <|
  .nil)))))
def j125_2 : JC :=
  (.prune [0, 1] (.seq (.seq (.ops <|
  qo 31 (.mv (.t 0)) <|
  qo 32 (.len (.t 31)) <|
  qo 33 (.mv (.t 1)) <|
  qo 34 (.len (.t 33)) <|
  qo 35 (.cmp .lss (.t 32) (.t 34)) <|
  .nil)
  (.cond (.t 35)
  (.seq (.ops <|
  qo 4 (.mv (I (-1))) <|
  .nil)
  .ret)
  .skip))
  (.seq (.ops <|
  qo 4 (.mv (I 0)) <|
  .nil)
  .ret)))
def j125 : JC :=
  (.seq (.ops <|
  qo 4 (.mv (I 0)) <|
  .nil)
  (.seq (.seq (.ops <|
  qo 9 (.mv (.t 0)) <|
  qo 10 (.len (.t 9)) <|
  qo 11 (.mv (I 0)) <|
  .nil)
  (.block 0 (.loop [10, 9, 1, 0] [11] j125_1)))
  j125_2))
theorem c125 : fnIs Try.prog qall 125 = some (j125.flat, [.tmp 4], 36) := by kernel_rfl
theorem w125 : j125.wf 36 = true := by kernel_rfl

def j123 : JC :=
  (.seq (.ops <|
  eo 1 (.box 28 (.t 0)) <|
  qo 2 (.mv (I 0)) <|
  .nil)
  (.seq (.seq (.ops <|
  qo 3 (.fa 3 18 (.t 1)) <|
  eo 4 (.load 1 false (.t 3)) <|
  .nil)
  (.cond (.t 4)
  (.seq (.ops <|
  qo 2 (.mv (I 1)) <|
  .nil)
  .ret)
  .skip))
  (.seq (.ops <|
  qo 2 (.mv (I 0)) <|
  .nil)
  .ret)))
theorem c123 : fnIs Try.prog qall 123 = some (j123.flat, [.tmp 2], 5) := by kernel_rfl
theorem w123 : j123.wf 5 = true := by kernel_rfl

def j78 : JC :=
  (.seq (.ops <|
  eo 2 (.box 28 (.t 0)) <|
  eo 3 (.box 28 (.t 1)) <|
  qo 4 (.mv (I 0)) <|
  .nil)
  (.frzv 3 dEn.ref.frz (.frzv 2 dEn.ref.frz (.seq (.ops <|
  qo 5 (.mv (.c (.fn 123 []))) <|
  .nil)
  (.seq (.dops <|
  qo 6 (.fa 0 0 (.t 2)) <|
  qo 7 (.asl 8 1 (.t 6)) <|
  qo 8 (.fa 0 0 (.t 3)) <|
  qo 9 (.asl 8 1 (.t 8)) <|
  .prune [7, 9, 2, 3, 5] <|
  eo 10 (.qcall 125 [(.t 7), (.t 9)]) <|
  qo 11 (.fa 1 8 (.t 2)) <|
  qo 12 (.asl 4 1 (.t 11)) <|
  .prune [3, 12, 2, 5, 10] <|
  qo 13 (.fa 1 8 (.t 3)) <|
  qo 14 (.asl 4 1 (.t 13)) <|
  eo 15 (.qcall 125 [(.t 12), (.t 14)]) <|
  .prune [2, 3, 5, 10, 15] <|
  qo 16 (.fa 2 12 (.t 2)) <|
  qo 17 (.asl 6 1 (.t 16)) <|
  qo 18 (.fa 2 12 (.t 3)) <|
  qo 19 (.asl 6 1 (.t 18)) <|
  eo 20 (.qcall 125 [(.t 17), (.t 19)]) <|
  .prune [5, 2, 3, 10, 15, 20] <|
  qo 21 (.mv (.t 5)) <|
  eo 22 (.load 20 true (.t 2)) <|
  qo 24 (.mv (.t 5)) <|
  eo 25 (.load 20 true (.t 3)) <|
  eo 23 (.callv (.t 21) [(.t 22)]) <|
  .prune [25, 3, 24, 23, 10, 15, 20] <|
  en (.again 20 true (.t 3) 25) <|
  eo 26 (.callv (.t 24) [(.t 25)]) <|
  .prune [23, 26, 10, 15, 20] <|
  eo 27 (.qcall 126 [(.t 23), (.t 26)]) <|
  eo 28 (.qbsl 3 1 4 (.int .i64 0) [(0, (.t 10)), (1, (.t 15)), (2, (.t 20)), (3, (.t 27))]) <|
  eo 29 (.qcall 124 [(.t 28)]) <|
  qo 4 (.mv (.t 29)) <|
  .nil)
  .ret)))))
theorem c78 : fnIs Try.prog qall 78 = some (j78.flat, [.tmp 4], 30) := by kernel_rfl
theorem w78 : j78.wf 30 = true := by kernel_rfl
theorem dropN {l : List Int} {i : Nat} (h : l.length ≤ i) : l.drop i = [] := List.drop_eq_nil_of_le h
def cmpI (a b : Int) : Int := if a < b then -1 else if a > b then 1 else 0
def cmpL : List Int → List Int → Int
  | [], [] => 0
  | [], _ :: _ => -1
  | _ :: _, [] => 1
  | a :: r, b :: s => if cmpI a b = 0 then cmpL r s else cmpI a b
def lessL : List Int → List Int → Bool → Bool
  | a :: r, b :: s, d => if a = b then lessL r s d else decide (a < b)
  | _, _, d => d
def orL : List Int → Int
  | [] => 0
  | a :: r => if a = 0 then orL r else a
theorem f_isNaN (a : Int) : FnOK Try.prog 150 [.int .i64 a] [] (.bool false) [] := by
  refine fn_walkF c150 w150 FH.none_ok rfl ?_
  unfold j150
  simp only [go_sem, ↓reduceIte, Nat.reduceAdd, Nat.reduceMul, Nat.reduceSub, Nat.reduceLT, Nat.reduceLeDiff, Nat.reduceEqDiff, Int.reduceToNat, Int.reduceEq, Int.reduceLT, Int.reduceLE, reduceCtorEq]
def Gcc (f : FuncId) (a : List SV) (m : List Res) : Sx.Call := (FH.rd 150 (.one .int) (.one .bool) (fun _ => True) (fun _ => false) FH.none) f a m
theorem Gcc_eq (f : FuncId) (a : List SV) (m : List Res) : Gcc f a m = (FH.rd 150 (.one .int) (.one .bool) (fun _ => True) (fun _ => false) FH.none) f a m := nr rfl
theorem Gcc_ok : FHOK Try.prog Gcc := FH.rd_ok (by kernel_rfl) (fun y _ => f_isNaN y.1) FH.none_ok
theorem f_cmpI (a b : Int) : FnOK Try.prog 126 [.int .i64 a, .int .i64 b] [] (.int .i64 (cmpI a b)) [] := by
  refine fn_walkF c126 w126 Gcc_ok rfl ?_
  unfold j126
  simp only [go_sem, ↓reduceIte, Nat.reduceAdd, Nat.reduceMul, Nat.reduceSub, Nat.reduceLT, Nat.reduceLeDiff, Nat.reduceEqDiff, Int.reduceToNat, Int.reduceEq, Int.reduceLT, Int.reduceLE, reduceCtorEq, Gcc_eq]
  refine ⟨fun h => ?_, fun h => ⟨fun h2 => ?_, fun h2 => ?_⟩⟩
  · rw [cmpI, if_pos h]
  · rw [cmpI, if_neg h, if_pos h2]
  · rw [cmpI, if_neg h, if_neg h2]
theorem f_orL (l : List Int) : FnOK Try.prog 124 [dIs.emb l] [] (.int .i64 (orL l)) [] := by
  refine fn_len fun hB => fn_walkF c124 w124 FH.none_ok rfl ?_
  simp only [go_sem, ↓reduceIte, Nat.reduceAdd, Nat.reduceMul, Nat.reduceSub, Nat.reduceLT, Nat.reduceLeDiff, Nat.reduceEqDiff, Int.reduceToNat, Int.reduceEq, Int.reduceLT, Int.reduceLE, reduceCtorEq] at hB
  unfold j124
  simp only [go_sem, ↓reduceIte, Nat.reduceAdd, Nat.reduceMul, Nat.reduceSub, Nat.reduceLT, Nat.reduceLeDiff, Nat.reduceEqDiff, Int.reduceToNat, Int.reduceEq, Int.reduceLT, Int.reduceLE, reduceCtorEq]
  refine loopF Nat (fun i => [.int .i64 i]) (fun _ => []) (fun i => i ≤ l.length ∧ orL l = orL (l.drop i)) (fun i => l.length - i) 0 ⟨by omega, rfl⟩ ?_ rfl ?_
  · simp only [go_sem, ↓reduceIte, Nat.reduceAdd, Nat.reduceMul, Nat.reduceSub, Nat.reduceLT, Nat.reduceLeDiff, Nat.reduceEqDiff, Int.reduceToNat, Int.reduceEq, Int.reduceLT, Int.reduceLE, reduceCtorEq]
  rintro i ⟨hi, hq⟩
  by_cases h1 : i < l.length
  · have h1' : (i : Int) < l.length := by omega
    rw [drop_getD 0 h1, orL] at hq
    unfold j124_1
    simp only [go_sem, ↓reduceIte, Nat.reduceAdd, Nat.reduceMul, Nat.reduceSub, Nat.reduceLT, Nat.reduceLeDiff, Nat.reduceEqDiff, Int.reduceToNat, Int.reduceEq, Int.reduceLT, Int.reduceLE, reduceCtorEq, h1, h1']
    refine ⟨by omega, fun h2 => by rw [hq, if_neg h2], fun h2 => ⟨i + 1, ⟨h1, by rw [hq, if_pos h2]⟩, by omega, IntWalk.i64_in _ (by omega)⟩⟩
  · have h1' : ¬ (i : Int) < l.length := by omega
    obtain rfl : i = l.length := by omega
    rw [List.drop_length] at hq
    rw [hq]
    unfold j124_1
    simp only [go_sem, ↓reduceIte, Nat.reduceAdd, Nat.reduceMul, Nat.reduceSub, Nat.reduceLT, Nat.reduceLeDiff, Nat.reduceEqDiff, Int.reduceToNat, Int.reduceEq, Int.reduceLT, Int.reduceLE, reduceCtorEq, h1']
    unfold j124_2
    simp only [go_sem, ↓reduceIte, Nat.reduceAdd, Nat.reduceMul, Nat.reduceSub, Nat.reduceLT, Nat.reduceLeDiff, Nat.reduceEqDiff, Int.reduceToNat, Int.reduceEq, Int.reduceLT, Int.reduceLE, reduceCtorEq, orL]
def Gcm (f : FuncId) (a : List SV) (m : List Res) : Sx.Call := (FH.rd 126 (.two .int .int) (.one .int) (fun _ => True) (fun y => cmpI y.1 y.2.1) FH.none) f a m
theorem Gcm_eq (f : FuncId) (a : List SV) (m : List Res) : Gcm f a m = (FH.rd 126 (.two .int .int) (.one .int) (fun _ => True) (fun y => cmpI y.1 y.2.1) FH.none) f a m := nr rfl
theorem Gcm_ok : FHOK Try.prog Gcm := FH.rd_ok (by kernel_rfl) (fun y _ => f_cmpI y.1 y.2.1) FH.none_ok
theorem f_cmpL (l r : List Int) : FnOK Try.prog 125 [dIs.emb l, dIs.emb r] [] (.int .i64 (cmpL l r)) [] := by
  refine fn_len fun hB => fn_walkF c125 w125 Gcm_ok rfl ?_
  simp only [go_sem, ↓reduceIte, Nat.reduceAdd, Nat.reduceMul, Nat.reduceSub, Nat.reduceLT, Nat.reduceLeDiff, Nat.reduceEqDiff, Int.reduceToNat, Int.reduceEq, Int.reduceLT, Int.reduceLE, reduceCtorEq] at hB
  unfold j125
  simp only [go_sem, ↓reduceIte, Nat.reduceAdd, Nat.reduceMul, Nat.reduceSub, Nat.reduceLT, Nat.reduceLeDiff, Nat.reduceEqDiff, Int.reduceToNat, Int.reduceEq, Int.reduceLT, Int.reduceLE, reduceCtorEq, Gcm_eq]
  refine loopF Nat (fun i => [.int .i64 i]) (fun _ => []) (fun i => i ≤ l.length ∧ i ≤ r.length ∧ cmpL l r = cmpL (l.drop i) (r.drop i)) (fun i => l.length - i) 0 ⟨by omega, by omega, rfl⟩ ?_ rfl ?_
  · simp only [go_sem, ↓reduceIte, Nat.reduceAdd, Nat.reduceMul, Nat.reduceSub, Nat.reduceLT, Nat.reduceLeDiff, Nat.reduceEqDiff, Int.reduceToNat, Int.reduceEq, Int.reduceLT, Int.reduceLE, reduceCtorEq]
  rintro i ⟨hi, hj, hq⟩
  by_cases h1 : i < l.length
  · have h1' : (i : Int) < l.length := by omega
    by_cases h2 : i < r.length
    · have h2' : ¬ (i : Int) ≥ r.length := by omega
      rw [drop_getD 0 h1, drop_getD 0 h2, cmpL] at hq
      unfold j125_1
      simp only [go_sem, ↓reduceIte, Nat.reduceAdd, Nat.reduceMul, Nat.reduceSub, Nat.reduceLT, Nat.reduceLeDiff, Nat.reduceEqDiff, Int.reduceToNat, Int.reduceEq, Int.reduceLT, Int.reduceLE, reduceCtorEq, Gcm_eq, h1, h1', h2, h2']
      refine ⟨by omega, ⟨by omega, by omega⟩, fun h3 => by rw [hq, if_neg h3], fun h3 => ⟨i + 1, ⟨h1, h2, by rw [hq, if_pos h3]⟩, by omega, IntWalk.i64_in _ (by omega)⟩⟩
    · have h2' : (i : Int) ≥ r.length := by omega
      rw [drop_getD 0 h1, dropN (l := r) (by omega), cmpL] at hq
      rw [hq]
      unfold j125_1
      simp only [go_sem, ↓reduceIte, Nat.reduceAdd, Nat.reduceMul, Nat.reduceSub, Nat.reduceLT, Nat.reduceLeDiff, Nat.reduceEqDiff, Int.reduceToNat, Int.reduceEq, Int.reduceLT, Int.reduceLE, reduceCtorEq, Gcm_eq, h1, h1', h2']
      omega
  · have h1' : ¬ (i : Int) < l.length := by omega
    obtain rfl : i = l.length := by omega
    unfold j125_1
    simp only [go_sem, ↓reduceIte, Nat.reduceAdd, Nat.reduceMul, Nat.reduceSub, Nat.reduceLT, Nat.reduceLeDiff, Nat.reduceEqDiff, Int.reduceToNat, Int.reduceEq, Int.reduceLT, Int.reduceLE, reduceCtorEq, Gcm_eq, h1']
    unfold j125_2
    rw [List.drop_length] at hq
    by_cases h2 : l.length < r.length
    · have h2' : (l.length : Int) < r.length := by omega
      rw [drop_getD 0 h2, cmpL] at hq
      simp only [go_sem, ↓reduceIte, Nat.reduceAdd, Nat.reduceMul, Nat.reduceSub, Nat.reduceLT, Nat.reduceLeDiff, Nat.reduceEqDiff, Int.reduceToNat, Int.reduceEq, Int.reduceLT, Int.reduceLE, reduceCtorEq, Gcm_eq, h2', hq]
    · have h2' : ¬ (l.length : Int) < r.length := by omega
      rw [dropN (l := r) (by omega), cmpL] at hq
      simp only [go_sem, ↓reduceIte, Nat.reduceAdd, Nat.reduceMul, Nat.reduceSub, Nat.reduceLT, Nat.reduceLeDiff, Nat.reduceEqDiff, Int.reduceToNat, Int.reduceEq, Int.reduceLT, Int.reduceLE, reduceCtorEq, Gcm_eq, h2', hq]
def lastE (x : En) : Int := if x.done = true then 1 else 0
theorem f_last (x : En) : FnOK Try.prog 123 [dEn.emb x] [] (.int .i64 (lastE x)) [] := by
  refine fn_walkF c123 w123 FH.none_ok rfl ?_
  unfold j123
  simp only [go_sem, ↓reduceIte, Nat.reduceAdd, Nat.reduceMul, Nat.reduceSub, Nat.reduceLT, Nat.reduceLeDiff, Nat.reduceEqDiff, Int.reduceToNat, Int.reduceEq, Int.reduceLT, Int.reduceLE, reduceCtorEq]
  refine ⟨fun h => ?_, fun h => ?_⟩ <;> rw [lastE, h] <;> rfl
attribute [go_sem] rng_len
def l8 (x : En) : List Int := (rng 8).map x.mem
def l4 (x : En) : List Int := (rng 4).map x.vols
def l6 (x : En) : List Int := (rng 6).map x.has
def ordE (x y : En) : Int := orL [cmpL (l8 x) (l8 y), cmpL (l4 x) (l4 y), cmpL (l6 x) (l6 y), cmpI (lastE x) (lastE y)]
def Gor (f : FuncId) (a : List SV) (m : List Res) : Sx.Call := (FH.rd 125 (.two dIs dIs) (.one .int) (fun _ => True) (fun y => cmpL y.1 y.2.1) <|
  FH.rd 123 (.one dEn) (.one .int) (fun _ => True) (fun y => lastE y.1) <|
  FH.rd 126 (.two .int .int) (.one .int) (fun _ => True) (fun y => cmpI y.1 y.2.1) <|
  FH.rd 124 (.one dIs) (.one .int) (fun _ => True) (fun y => orL y.1) FH.none) f a m
theorem Gor_eq (f : FuncId) (a : List SV) (m : List Res) : Gor f a m = (FH.rd 125 (.two dIs dIs) (.one .int) (fun _ => True) (fun y => cmpL y.1 y.2.1) <|
  FH.rd 123 (.one dEn) (.one .int) (fun _ => True) (fun y => lastE y.1) <|
  FH.rd 126 (.two .int .int) (.one .int) (fun _ => True) (fun y => cmpI y.1 y.2.1) <|
  FH.rd 124 (.one dIs) (.one .int) (fun _ => True) (fun y => orL y.1) FH.none) f a m := nr rfl
theorem Gor_ok : FHOK Try.prog Gor := FH.rd_ok (by kernel_rfl) (fun y _ => f_cmpL y.1 y.2.1) <| FH.rd_ok (by kernel_rfl) (fun y _ => f_last y.1) <|
  FH.rd_ok (by kernel_rfl) (fun y _ => f_cmpI y.1 y.2.1) <| FH.rd_ok (by kernel_rfl) (fun y _ => f_orL y.1) FH.none_ok
theorem f_order (x y : En) : FnOK Try.prog 78 [dEn.emb x, dEn.emb y] [] (.int .i64 (ordE x y)) [] := by
  refine fn_walkF c78 w78 Gor_ok rfl ?_
  unfold j78
  simp only [go_sem, ↓reduceIte, Nat.reduceAdd, Nat.reduceMul, Nat.reduceSub, Nat.reduceLT, Nat.reduceLeDiff, Nat.reduceEqDiff, Int.reduceToNat, Int.reduceEq, Int.reduceLT, Int.reduceLE, reduceCtorEq, Gor_eq, List.range_zero]
  rfl
def j81_1 : JC :=
  (.seq (.ops <|
  qo 29 (.cmp .lss (.t 28) (.t 27)) <|
  .nil)
  (.seq (.cond (.t 29)
  .skip
  (.exit 0))
  (.seq (.block 1 (.seq (.ops <|
  qo 30 (.mv (.t 28)) <|
  qo 7 (.mv (.t 30)) <|
  .nil)
  (.seq (.dops <|
  qo 31 (.mv (.t 5)) <|
  qo 32 (.mv (.t 7)) <|
  qo 33 (.is 1 (.t 31) (.t 32)) <|
  .prune [33, 6, 7, 5, 28, 27, 2, 3] <|
  eo 34 (.load 1 false (.t 33)) <|
  qo 35 (.mv (.t 6)) <|
  qo 36 (.mv (.t 7)) <|
  qo 37 (.is 1 (.t 35) (.t 36)) <|
  eo 38 (.load 1 false (.t 37)) <|
  qo 39 (.cmp .neq (.t 34) (.t 38)) <|
  .nil)
  (.prune [39, 5, 7, 6, 28, 27, 2, 3] (.cond (.t 39)
  (.seq (.dops <|
  .prune [5, 7, 6] <|
  qo 40 (.mv (.t 5)) <|
  qo 41 (.mv (.t 7)) <|
  qo 42 (.is 1 (.t 40) (.t 41)) <|
  eo 43 (.load 1 false (.t 42)) <|
  .prune [6, 7, 43] <|
  qo 44 (.mv (.t 6)) <|
  qo 45 (.mv (.t 7)) <|
  qo 46 (.is 1 (.t 44) (.t 45)) <|
  eo 47 (.load 1 false (.t 46)) <|
  qo 48 (.cmp .lss (.t 43) (.t 47)) <|
  qo 4 (.mv (.t 48)) <|
  .nil)
  .ret)
  .skip)))))
  (.prune [28, 27, 5, 6, 2, 3] (.ops <|
  qo 49 (.ar .add (.t 28) (I 1)) <|
  qo 28 (.mv (.t 49)) <|
  .nil)))))
def j81_2 : JC :=
  (.prune [2, 3] (.seq (.ops <|
  qo 50 (.fa 3 18 (.t 2)) <|
  eo 51 (.load 1 false (.t 50)) <|
  qo 52 (.nt (.t 51)) <|
  qo 53 (.mv (.t 52)) <|
  .sc false 56 53 (qo 54 (.fa 3 18 (.t 3)) <|
  eo 55 (.load 1 false (.t 54)) <|
  .nil) (.t 55) <|
  qo 4 (.mv (.t 56)) <|
  .nil)
  .ret))
def j81 : JC :=
  (.seq (.ops <|
  eo 2 (.box 28 (.t 0)) <|
  eo 3 (.box 28 (.t 1)) <|
  qo 4 (.mv (B false)) <|
  .nil)
  (.frzv 3 dEn.ref.frz (.frzv 2 dEn.ref.frz (.seq (.dops <|
  qo 8 (.fa 0 0 (.t 2)) <|
  qo 9 (.asl 8 1 (.t 8)) <|
  eo 10 (.app 3 1 8 (.c .nils) (.t 9)) <|
  qo 11 (.fa 1 8 (.t 2)) <|
  .prune [11, 10, 2, 3] <|
  qo 12 (.asl 4 1 (.t 11)) <|
  eo 13 (.app 3 1 8 (.t 10) (.t 12)) <|
  qo 14 (.fa 2 12 (.t 2)) <|
  .prune [14, 13, 3, 2] <|
  qo 15 (.asl 6 1 (.t 14)) <|
  eo 16 (.app 3 1 8 (.t 13) (.t 15)) <|
  qo 5 (.mv (.t 16)) <|
  .nil)
  (.prune [3, 5, 2] (.seq (.dops <|
  qo 17 (.fa 0 0 (.t 3)) <|
  qo 18 (.asl 8 1 (.t 17)) <|
  eo 19 (.app 3 1 8 (.c .nils) (.t 18)) <|
  qo 20 (.fa 1 8 (.t 3)) <|
  qo 21 (.asl 4 1 (.t 20)) <|
  .prune [19, 21, 3, 5, 2] <|
  eo 22 (.app 3 1 8 (.t 19) (.t 21)) <|
  qo 23 (.fa 2 12 (.t 3)) <|
  qo 24 (.asl 6 1 (.t 23)) <|
  eo 25 (.app 3 1 8 (.t 22) (.t 24)) <|
  qo 6 (.mv (.t 25)) <|
  .nil)
  (.prune [5, 6, 2, 3] (.seq (.seq (.ops <|
  qo 26 (.mv (.t 5)) <|
  qo 27 (.len (.t 26)) <|
  qo 28 (.mv (I 0)) <|
  .nil)
  (.block 0 (.loop [27, 5, 6, 2, 3] [28] j81_1)))
  j81_2))))))))
theorem c81 : fnIs Try.prog qall 81 = some (j81.flat, [.tmp 4], 57) := by kernel_rfl
theorem w81 : j81.wf 57 = true := by kernel_rfl
def catE (x : En) : List Int := l8 x ++ (l4 x ++ l6 x)
theorem catE_len (x : En) : (catE x).length = 18 := by simp [catE, l8, l4, l6, rng_len]
theorem catE_emb (x : En) : List.map (fun i => SV.int IntKind.i64 (x.mem i)) (rng 8) ++ (List.map (fun i => SV.int IntKind.i64 (x.vols i)) (rng 4) ++ List.map (fun i => SV.int IntKind.i64 (x.has i)) (rng 6)) = (catE x).map DT.int.emb := by
  simp only [catE, l8, l4, l6, List.map_append, List.map_map]
  rfl
theorem catE_six (x : En) : ((List.map (fun i => SV.int IntKind.i64 (x.mem i)) (rng 8) ++ List.map (fun i => SV.int IntKind.i64 (x.vols i)) (rng 4)).length + 6) = 18 := by simp [rng_len]
def lessE (x y : En) : Bool := lessL (catE x) (catE y) (!x.done && y.done)
theorem f_endLess (x y : En) : FnOK Try.prog 81 [dEn.emb x, dEn.emb y] [] (.bool (lessE x y)) [] := by
  refine fn_walkF c81 w81 FH.none_ok rfl ?_
  unfold j81
  simp only [go_sem, ↓reduceIte, Nat.reduceAdd, Nat.reduceMul, Nat.reduceSub, Nat.reduceLT, Nat.reduceLeDiff, Nat.reduceEqDiff, Int.reduceToNat, Int.reduceEq, Int.reduceLT, Int.reduceLE, reduceCtorEq]
  rw [catE_six, catE_six, catE_emb, catE_emb]
  refine ⟨by decide, by decide, ?_⟩
  refine loopF Nat (fun i => [.int .i64 i]) (fun _ => [.dead, .dead, .dead, .dead, .vec 3 1 ((catE x).map DT.int.emb), .dead, .dead, .vec 3 1 ((catE y).map DT.int.emb)]) (fun i => i ≤ 18 ∧ lessE x y = lessL ((catE x).drop i) ((catE y).drop i) (!x.done && y.done)) (fun i => 18 - i) 0 ⟨by omega, rfl⟩ ?_ rfl ?_
  · simp only [go_sem, ↓reduceIte, Nat.reduceAdd, Nat.reduceMul, Nat.reduceSub, Nat.reduceLT, Nat.reduceLeDiff, Nat.reduceEqDiff, Int.reduceToNat, Int.reduceEq, Int.reduceLT, Int.reduceLE, reduceCtorEq]
  rintro i ⟨hi, hq⟩
  have hx := catE_len x
  have hy := catE_len y
  generalize catE x = X at hx hq ⊢
  generalize catE y = Y at hy hq ⊢
  by_cases h1 : i < 18
  · have h1' : (i : Int) < 18 := by omega
    rw [drop_getD 0 (show i < X.length by omega), drop_getD 0 (show i < Y.length by omega), lessL] at hq
    unfold j81_1
    have gX : (X.map DT.int.emb).getD i .junk = .int .i64 (X.getD i 0) := by
      rw [List.getD, List.getElem?_map, List.getElem?_eq_getElem (by omega), List.getD, List.getElem?_eq_getElem (by omega)]; rfl
    have gY : (Y.map DT.int.emb).getD i .junk = .int .i64 (Y.getD i 0) := by
      rw [List.getD, List.getElem?_map, List.getElem?_eq_getElem (by omega), List.getD, List.getElem?_eq_getElem (by omega)]; rfl
    simp only [go_sem, ↓reduceIte, Nat.reduceAdd, Nat.reduceMul, Nat.reduceSub, Nat.reduceLT, Nat.reduceLeDiff, Nat.reduceEqDiff, Int.reduceToNat, Int.reduceEq, Int.reduceLT, Int.reduceLE, reduceCtorEq, h1, h1', hx, hy, gX, gY]
    refine ⟨by omega, by omega, fun h2 => ⟨by omega, by omega, by rw [hq, if_neg h2]⟩, fun h2 => ⟨i + 1, ⟨by omega, by rw [hq, if_pos h2]⟩, by omega, IntWalk.i64_in _ (by omega)⟩⟩
  · have h1' : ¬ (i : Int) < 18 := by omega
    obtain rfl : i = 18 := by omega
    rw [dropN (l := X) (by omega), dropN (l := Y) (by omega)] at hq
    have hq : lessE x y = (!x.done && y.done) := hq
    rw [hq]
    unfold j81_1
    simp only [go_sem, ↓reduceIte, Nat.reduceAdd, Nat.reduceMul, Nat.reduceSub, Nat.reduceLT, Nat.reduceLeDiff, Nat.reduceEqDiff, Int.reduceToNat, Int.reduceEq, Int.reduceLT, Int.reduceLE, reduceCtorEq, h1']
    unfold j81_2
    simp only [go_sem, ↓reduceIte, Nat.reduceAdd, Nat.reduceMul, Nat.reduceSub, Nat.reduceLT, Nat.reduceLeDiff, Nat.reduceEqDiff, Int.reduceToNat, Int.reduceEq, Int.reduceLT, Int.reduceLE, reduceCtorEq]
end Go.Proofs.Ytgcbhanfhnianaa.Ev
