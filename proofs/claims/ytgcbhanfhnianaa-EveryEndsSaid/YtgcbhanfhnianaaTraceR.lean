/- The reference of the package trace, function by function: what each hands back; and that both agree. Conditions: none. -/
import Derived.Test.YtgcbhanfhnianaaTrace
set_option linter.unusedSimpArgs false
set_option linter.unusedVariables false
set_option maxRecDepth 100000
open Go Go.Sx Go.Proofs
namespace Go.Proofs.Ytgcbhanfhnianaa.Tr
open Go.Proofs.Ytgcbhanfhnianaa.D

def j91 : JC :=
  (.seq (.ops <|
  qo 6 (.mv (B false)) <|
  .nil)
  (.seq (.ops <|
  qo 7 (.mv (.t 0)) <|
  qo 8 (.mv (.t 1)) <|
  qo 9 (.cmp .lss (.t 7) (.t 8)) <|
  qo 10 (.mv (.t 9)) <|
  .sc true 14 10 (qo 11 (.mv (.t 0)) <|
  qo 12 (.mv (.t 2)) <|
  qo 13 (.cmp .gtr (.t 11) (.t 12)) <|
  .nil) (.t 13) <|
  qo 6 (.mv (.t 14)) <|
  .nil)
  .ret))
theorem c91 : fnIs Try.prog qall 91 = some (j91.flat, [.tmp 6], 15) := by kernel_rfl
theorem w91 : j91.wf 15 = true := by kernel_rfl

def j60 : JC :=
  (.seq (.ops <|
  eo 1 (.box 35 (.t 0)) <|
  qo 2 (.mv (B false)) <|
  .nil)
  (.seq (.seq (.ops <|
  qo 3 (.fa 0 0 (.t 1)) <|
  eo 4 (.load 1 false (.t 3)) <|
  eo 5 (.call 91 [(.t 4), (I 1), (I 8)]) <|
  qo 6 (.mv (.t 5)) <|
  .sc true 10 6 (qo 7 (.fa 1 1 (.t 1)) <|
  eo 8 (.load 1 false (.t 7)) <|
  eo 9 (.call 91 [(.t 8), (I 0), (I 5)]) <|
  .nil) (.t 9) <|
  .nil)
  (.prune [10, 1] (.cond (.t 10)
  (.seq (.ops <|
  qo 2 (.mv (B false)) <|
  .nil)
  .ret)
  .skip)))
  (.prune [1] (.seq (.dops <|
  qo 11 (.fa 2 2 (.t 1)) <|
  eo 12 (.load 1 false (.t 11)) <|
  eo 13 (.qtab [7, 7, 4, 4, 5, 5, 3, 3]) <|
  qo 14 (.fa 0 0 (.t 1)) <|
  eo 15 (.load 1 false (.t 14)) <|
  qo 16 (.ar .sub (.t 15) (I 1)) <|
  .prune [13, 16, 12] <|
  qo 17 (.is 1 (.t 13) (.t 16)) <|
  eo 18 (.load 1 false (.t 17)) <|
  eo 19 (.qcall 91 [(.t 12), (I 0), (.t 18)]) <|
  qo 20 (.nt (.t 19)) <|
  qo 2 (.mv (.t 20)) <|
  .nil)
  .ret))))
theorem c60 : fnIs Try.prog qall 60 = some (j60.flat, [.tmp 2], 21) := by kernel_rfl
theorem w60 : j60.wf 21 = true := by kernel_rfl
def j62_1 : JC :=
  (.seq (.ops <|
  qo 12 (.cmp .lss (.t 11) (.t 10)) <|
  .nil)
  (.seq (.cond (.t 12)
  .skip
  (.exit 0))
  (.seq (.block 1 (.seq (.ops <|
  qo 13 (.is 3 (.t 9) (.t 11)) <|
  eo 14 (.load 3 true (.t 13)) <|
  eo 8 (.alloc 35 (.agg [(.int .i64 0), (.int .i64 0), (.int .i64 0)])) <|
  en (.store 3 (.t 8) (.t 14)) <|
  .nil)
  (.prune [8, 1, 2, 11, 10, 9] (.seq (.ops <|
  qo 15 (.fa 0 0 (.t 8)) <|
  eo 16 (.load 1 false (.t 15)) <|
  qo 17 (.mv (.t 1)) <|
  qo 18 (.cmp .eql (.t 16) (.t 17)) <|
  .prune [18, 8, 2, 11, 10, 9, 1] <|
  qo 19 (.mv (.t 18)) <|
  .sc false 24 19 (qo 20 (.fa 2 2 (.t 8)) <|
  eo 21 (.load 1 false (.t 20)) <|
  qo 22 (.mv (.t 2)) <|
  qo 23 (.cmp .eql (.t 21) (.t 22)) <|
  .nil) (.t 23) <|
  .nil)
  (.prune [24, 11, 10, 9, 1, 2] (.cond (.t 24)
  (.seq (.ops <|
  qo 6 (.mv (B true)) <|
  .nil)
  .ret)
  .skip))))))
  (.prune [11, 10, 9, 1, 2] (.ops <|
  qo 25 (.ar .add (.t 11) (I 1)) <|
  qo 11 (.mv (.t 25)) <|
  .nil)))))
def j62_2 : JC :=
  (.prune [] (.seq (.ops <|
  qo 6 (.mv (B false)) <|
  .nil)
  .ret))
def j62 : JC :=
  (.seq (.ops <|
  qo 6 (.mv (B false)) <|
  .nil)
  (.seq (.seq (.ops <|
  qo 9 (.mv (.t 0)) <|
  qo 10 (.len (.t 9)) <|
  qo 11 (.mv (I 0)) <|
  .nil)
  (.block 0 (.loop [10, 9, 1, 2] [11] j62_1)))
  j62_2))
theorem c62 : fnIs Try.prog qall 62 = some (j62.flat, [.tmp 6], 26) := by kernel_rfl
theorem w62 : j62.wf 26 = true := by kernel_rfl

def j61 : JC :=
  (.seq (.ops <|
  qo 4 (.mv (B false)) <|
  .nil)
  (.seq (.ops <|
  qo 5 (.mv (.t 1)) <|
  qo 6 (.cmp .eql (.t 5) (I 0)) <|
  qo 7 (.mv (.t 6)) <|
  .sc true 11 7 (qo 8 (.mv (.t 0)) <|
  qo 9 (.mv (.t 1)) <|
  eo 10 (.call 62 [(.t 8), (I 5), (.t 9)]) <|
  .nil) (.t 10) <|
  qo 4 (.mv (.t 11)) <|
  .nil)
  .ret))
theorem c61 : fnIs Try.prog qall 61 = some (j61.flat, [.tmp 4], 12) := by kernel_rfl
theorem w61 : j61.wf 12 = true := by kernel_rfl
def j63_1 : JC :=
  (.seq (.ops <|
  qo 11 (.cmp .lss (.t 10) (.t 9)) <|
  .nil)
  (.seq (.cond (.t 11)
  .skip
  (.exit 0))
  (.seq (.block 1 (.seq (.ops <|
  qo 12 (.is 3 (.t 8) (.t 10)) <|
  eo 13 (.load 3 true (.t 12)) <|
  eo 7 (.alloc 35 (.agg [(.int .i64 0), (.int .i64 0), (.int .i64 0)])) <|
  en (.store 3 (.t 7) (.t 13)) <|
  .nil)
  (.prune [7, 1, 10, 9, 8, 5] (.seq (.seq (.ops <|
  qo 14 (.fa 2 2 (.t 7)) <|
  eo 15 (.load 1 false (.t 14)) <|
  qo 16 (.mv (.t 1)) <|
  qo 17 (.cmp .eql (.t 15) (.t 16)) <|
  .prune [17, 7, 1, 10, 9, 8, 5] <|
  qo 18 (.mv (.t 17)) <|
  .sc false 22 18 (qo 19 (.fa 0 0 (.t 7)) <|
  eo 20 (.load 1 false (.t 19)) <|
  qo 21 (.cmp .eql (.t 20) (I 3)) <|
  .nil) (.t 21) <|
  .nil)
  (.prune [22, 7, 1, 10, 9, 8, 5] (.cond (.t 22)
  (.ops <|
  qo 23 (.fa 1 1 (.t 7)) <|
  eo 24 (.load 1 false (.t 23)) <|
  qo 5 (.mv (.t 24)) <|
  .nil)
  .skip)))
  (.prune [7, 1, 10, 9, 8, 5] (.seq (.ops <|
  qo 25 (.fa 2 2 (.t 7)) <|
  eo 26 (.load 1 false (.t 25)) <|
  qo 27 (.mv (.t 1)) <|
  qo 28 (.cmp .eql (.t 26) (.t 27)) <|
  .prune [28, 7, 10, 9, 8, 1, 5] <|
  qo 29 (.mv (.t 28)) <|
  .sc false 33 29 (qo 30 (.fa 0 0 (.t 7)) <|
  eo 31 (.load 1 false (.t 30)) <|
  qo 32 (.cmp .eql (.t 31) (I 4)) <|
  .nil) (.t 32) <|
  .nil)
  (.prune [33, 10, 9, 8, 1, 5] (.cond (.t 33)
  (.ops <|
  qo 5 (.mv (I (-1))) <|
  .nil)
  .skip))))))))
  (.prune [10, 9, 8, 1, 5] (.ops <|
  qo 34 (.ar .add (.t 10) (I 1)) <|
  qo 10 (.mv (.t 34)) <|
  .nil)))))
def j63_2 : JC :=
  (.prune [5] (.seq (.ops <|
  qo 35 (.mv (.t 5)) <|
  qo 4 (.mv (.t 35)) <|
  .nil)
  .ret))
def j63 : JC :=
  (.seq (.ops <|
  qo 4 (.mv (I 0)) <|
  .nil)
  (.seq (.ops <|
  qo 5 (.mv (I (-1))) <|
  .nil)
  (.seq (.seq (.ops <|
  qo 8 (.mv (.t 0)) <|
  qo 9 (.len (.t 8)) <|
  qo 10 (.mv (I 0)) <|
  .nil)
  (.block 0 (.loop [9, 8, 1] [10, 5] j63_1)))
  j63_2)))
theorem c63 : fnIs Try.prog qall 63 = some (j63.flat, [.tmp 4], 36) := by kernel_rfl
theorem w63 : j63.wf 36 = true := by kernel_rfl

def j23 : JC :=
  (.seq (.ops <|
  eo 3 (.box 35 (.t 1)) <|
  qo 4 (.mv (I 0)) <|
  .nil)
  (.seq (.seq (.ops <|
  eo 5 (.load 3 true (.t 3)) <|
  eo 6 (.call 60 [(.t 5)]) <|
  qo 7 (.nt (.t 6)) <|
  .nil)
  (.cond (.t 7)
  (.seq (.ops <|
  qo 4 (.mv (I 1)) <|
  .nil)
  .ret)
  .skip))
  (.seq (.seq (.ops <|
  qo 8 (.mv (.t 0)) <|
  .prune [3, 8, 0] <|
  qo 9 (.fa 1 1 (.t 3)) <|
  eo 10 (.load 1 false (.t 9)) <|
  eo 11 (.call 61 [(.t 8), (.t 10)]) <|
  qo 12 (.nt (.t 11)) <|
  .prune [12, 0, 3] <|
  qo 13 (.mv (.t 12)) <|
  .sc true 18 13 (qo 14 (.mv (.t 0)) <|
  qo 15 (.fa 1 1 (.t 3)) <|
  eo 16 (.load 1 false (.t 15)) <|
  eo 17 (.call 62 [(.t 14), (I 6), (.t 16)]) <|
  .nil) (.t 17) <|
  .nil)
  (.prune [18, 3, 0] (.cond (.t 18)
  (.seq (.ops <|
  qo 4 (.mv (I 11)) <|
  .nil)
  .ret)
  .skip)))
  (.prune [3, 0] (.seq (.seq (.ops <|
  qo 19 (.fa 0 0 (.t 3)) <|
  eo 20 (.load 1 false (.t 19)) <|
  .nil)
  (.block 0 (.seq (.ops <|
  qo 22 (.cmp .eql (.t 20) (I 3)) <|
  qo 21 (.mv (.t 22)) <|
  .nil)
  (.cond (.t 21)
  (.seq (.ops <|
  qo 23 (.mv (.t 0)) <|
  .prune [3, 23] <|
  qo 24 (.fa 2 2 (.t 3)) <|
  eo 25 (.load 1 false (.t 24)) <|
  eo 26 (.call 63 [(.t 23), (.t 25)]) <|
  qo 27 (.cmp .geq (.t 26) (I 0)) <|
  .nil)
  (.prune [27] (.cond (.t 27)
  (.seq (.ops <|
  qo 4 (.mv (I 9)) <|
  .nil)
  .ret)
  .skip)))
  (.seq (.ops <|
  qo 29 (.cmp .eql (.t 20) (I 4)) <|
  qo 28 (.mv (.t 29)) <|
  .nil)
  (.cond (.t 28)
  (.seq (.dops <|
  .prune [0, 3] <|
  qo 30 (.mv (.t 0)) <|
  qo 31 (.fa 2 2 (.t 3)) <|
  eo 32 (.load 1 false (.t 31)) <|
  eo 33 (.qcall 63 [(.t 30), (.t 32)]) <|
  qo 34 (.fa 1 1 (.t 3)) <|
  eo 35 (.load 1 false (.t 34)) <|
  qo 36 (.cmp .neq (.t 33) (.t 35)) <|
  .nil)
  (.prune [36] (.cond (.t 36)
  (.seq (.ops <|
  qo 4 (.mv (I 10)) <|
  .nil)
  .ret)
  .skip)))
  (.seq (.ops <|
  qo 38 (.cmp .eql (.t 20) (I 5)) <|
  qo 37 (.mv (.t 38)) <|
  .nil)
  (.prune [37, 0, 3, 20] (.cond (.t 37)
  (.seq (.ops <|
  qo 39 (.mv (.t 0)) <|
  qo 40 (.fa 2 2 (.t 3)) <|
  eo 41 (.load 1 false (.t 40)) <|
  eo 42 (.call 61 [(.t 39), (.t 41)]) <|
  .nil)
  (.cond (.t 42)
  (.seq (.ops <|
  qo 4 (.mv (I 8)) <|
  .nil)
  .ret)
  .skip))
  (.seq (.ops <|
  qo 44 (.cmp .eql (.t 20) (I 6)) <|
  qo 43 (.mv (.t 44)) <|
  .nil)
  (.cond (.t 43)
  (.seq (.ops <|
  qo 45 (.mv (.t 0)) <|
  .prune [3, 45] <|
  qo 46 (.fa 2 2 (.t 3)) <|
  eo 47 (.load 1 false (.t 46)) <|
  eo 48 (.call 61 [(.t 45), (.t 47)]) <|
  qo 49 (.nt (.t 48)) <|
  qo 50 (.mv (.t 49)) <|
  .prune [50, 3] <|
  .sc true 56 50 (qo 51 (.fa 2 2 (.t 3)) <|
  eo 52 (.load 1 false (.t 51)) <|
  qo 53 (.fa 1 1 (.t 3)) <|
  eo 54 (.load 1 false (.t 53)) <|
  qo 55 (.cmp .eql (.t 52) (.t 54)) <|
  .nil) (.t 55) <|
  .nil)
  (.prune [56] (.cond (.t 56)
  (.seq (.ops <|
  qo 4 (.mv (I 7)) <|
  .nil)
  .ret)
  .skip)))
  .skip)))))))))))
  (.prune [] (.seq (.ops <|
  qo 4 (.mv (I 0)) <|
  .nil)
  .ret)))))))
theorem c23 : fnIs Try.prog qall 23 = some (j23.flat, [.tmp 4], 57) := by kernel_rfl
theorem w23 : j23.wf 57 = true := by kernel_rfl
def j53_1 : JC :=
  (.seq (.ops <|
  qo 13 (.cmp .lss (.t 12) (.t 11)) <|
  .nil)
  (.seq (.cond (.t 13)
  .skip
  (.exit 0))
  (.seq (.block 1 (.seq (.ops <|
  qo 14 (.mv (.t 12)) <|
  qo 15 (.is 3 (.t 10) (.t 12)) <|
  eo 16 (.load 3 true (.t 15)) <|
  eo 5 (.alloc 35 (.agg [(.int .i64 0), (.int .i64 0), (.int .i64 0)])) <|
  qo 4 (.mv (.t 14)) <|
  en (.store 3 (.t 5) (.t 16)) <|
  .nil)
  (.prune [0, 4, 5, 12, 11, 10] (.seq (.dops <|
  qo 17 (.mv (.t 0)) <|
  qo 18 (.mv (.t 4)) <|
  qo 19 (.slc 3 (.t 17) none (some (.t 18)) none) <|
  eo 20 (.load 3 true (.t 5)) <|
  eo 21 (.qcall 23 [(.t 19), (.t 20)]) <|
  qo 6 (.mv (.t 21)) <|
  .nil)
  (.prune [6, 4, 12, 11, 10, 0] (.seq (.ops <|
  qo 22 (.mv (.t 6)) <|
  qo 23 (.cmp .neq (.t 22) (I 0)) <|
  .nil)
  (.cond (.t 23)
  (.seq (.ops <|
  .prune [4, 6] <|
  qo 24 (.mv (.t 4)) <|
  qo 25 (.mv (.t 6)) <|
  qo 2 (.mv (.t 24)) <|
  qo 3 (.mv (.t 25)) <|
  .nil)
  .ret)
  .skip)))))))
  (.prune [12, 11, 10, 0] (.ops <|
  qo 26 (.ar .add (.t 12) (I 1)) <|
  qo 12 (.mv (.t 26)) <|
  .nil)))))
def j53_2 : JC :=
  (.prune [] (.seq (.ops <|
  qo 2 (.mv (I 0)) <|
  qo 3 (.mv (I 0)) <|
  .nil)
  .ret))
def j53 : JC :=
  (.seq (.ops <|
  qo 2 (.mv (I 0)) <|
  qo 3 (.mv (I 0)) <|
  .nil)
  (.seq (.seq (.ops <|
  qo 7 (.mv (.t 0)) <|
  qo 8 (.len (.t 7)) <|
  qo 9 (.cmp .gtr (.t 8) (I 80)) <|
  .nil)
  (.cond (.t 9)
  (.seq (.ops <|
  qo 2 (.mv (I 0)) <|
  qo 3 (.mv (I 2)) <|
  .nil)
  .ret)
  .skip))
  (.seq (.seq (.ops <|
  .prune [0] <|
  qo 10 (.mv (.t 0)) <|
  qo 11 (.len (.t 10)) <|
  qo 12 (.mv (I 0)) <|
  .nil)
  (.prune [12, 11, 10, 0] (.block 0 (.loop [11, 10, 0] [12] j53_1))))
  j53_2)))
theorem c53 : fnIs Try.prog qall 53 = some (j53.flat, [.tmp 2, .tmp 3], 27) := by kernel_rfl
theorem w53 : j53.wf 27 = true := by kernel_rfl

def outB (n lo hi : Int) : Bool := decide (n < lo) || decide (hi < n)
theorem f_outside (n lo hi : Int) : FnOK Try.prog 91 [.int .i64 n, .int .i64 lo, .int .i64 hi] [] (.bool (outB n lo hi)) [] := by
  refine fn_walkF c91 w91 FH.none_ok rfl ?_
  unfold j91
  simp only [go_sem, ↓reduceIte, Nat.reduceAdd, Nat.reduceMul, Nat.reduceSub, Nat.reduceLT, Nat.reduceLeDiff, Nat.reduceEqDiff, Int.reduceToNat, Int.reduceEq, Int.reduceLT, Int.reduceLE, reduceCtorEq]
  rfl
def Go (f : FuncId) (a : List SV) (m : List Res) : Sx.Call := (FH.rd 91 (.three .int .int .int) (.one .bool) (fun _ => True) (fun y => outB y.1 y.2.1 y.2.2.1) FH.none) f a m
theorem Go_eq (f : FuncId) (a : List SV) (m : List Res) : Go f a m = (FH.rd 91 (.three .int .int .int) (.one .bool) (fun _ => True) (fun y => outB y.1 y.2.1 y.2.2.1) FH.none) f a m := nr rfl
theorem Go_ok : FHOK Try.prog Go := FH.rd_ok (by kernel_rfl) (fun y _ => f_outside y.1 y.2.1 y.2.2.1) FH.none_ok
theorem f_RIsEvent (e : Ev) : FnOK Try.prog 60 [dEv.emb e] [] (.bool (isEv e)) [] := by
  refine fn_walkF c60 w60 Go_ok rfl ?_
  unfold j60
  simp only [go_sem, ↓reduceIte, Nat.reduceAdd, Nat.reduceMul, Nat.reduceSub, Nat.reduceLT, Nat.reduceLeDiff, Nat.reduceEqDiff, Int.reduceToNat, Int.reduceEq, Int.reduceLT, Int.reduceLE, reduceCtorEq, Go_eq]
  have k1 : outB e.kind 1 8 = false ↔ 1 ≤ e.kind ∧ e.kind ≤ 8 := by simp [outB]
  have k2 : outB e.thr 0 5 = false ↔ 0 ≤ e.thr ∧ e.thr ≤ 5 := by simp [outB]
  refine ⟨fun h => ?_, fun h => ?_⟩
  · symm
    rw [← Bool.not_eq_true, isEv_iff]
    rintro ⟨b1, b2, b3, b4⟩
    have h2 : outB e.thr 0 5 = false := k2.2 (by omega)
    have h1 : outB e.kind 1 8 = false := by
      refine k1.2 ?_
      unfold many at b4
      split at b4
      · omega
      · split at b4
        · omega
        · split at b4
          · omega
          · split at b4 <;> omega
    rw [h1, h2] at h
    cases h
  · simp only [Bool.or_eq_false_iff] at h
    obtain ⟨c1, c2⟩ := k1.1 h.1
    obtain ⟨c3, c4⟩ := k2.1 h.2
    have hw : IntKind.i64.wrap (e.kind - 1) = e.kind - 1 := IntWalk.i64_in _ (by omega)
    rw [hw]
    refine ⟨⟨by omega, by omega⟩, ?_⟩
    have hm : many e.kind = ([7, 7, 4, 4, 5, 5, 3, 3] : List Int).getD (e.kind - 1).toNat 0 + 1 := by
      rcases (show e.kind = 1 ∨ e.kind = 2 ∨ e.kind = 3 ∨ e.kind = 4 ∨ e.kind = 5 ∨ e.kind = 6 ∨ e.kind = 7 ∨ e.kind = 8 by omega) with h | h | h | h | h | h | h | h <;> rw [h] <;> rfl
    generalize ([7, 7, 4, 4, 5, 5, 3, 3] : List Int).getD (e.kind - 1).toNat 0 = b at hm ⊢
    rw [Bool.eq_iff_iff, isEv_iff]
    simp only [outB, Bool.not_eq_true', Bool.or_eq_false_iff, decide_eq_false_iff_not]
    omega
def didB (l : List Ev) (k o : Int) : Bool := l.any fun e => decide (e.kind = k) && decide (e.obj = o)
theorem f_did (l : List Ev) (k o : Int) : FnOK Try.prog 62 [(DT.list 3 dEv).emb l, .int .i64 k, .int .i64 o] [] (.bool (didB l k o)) [] := by
  refine fn_len fun hB => fn_walkF c62 w62 FH.none_ok rfl ?_
  simp only [go_sem, ↓reduceIte, Nat.reduceAdd, Nat.reduceMul, Nat.reduceSub, Nat.reduceLT, Nat.reduceLeDiff, Nat.reduceEqDiff, Int.reduceToNat, Int.reduceEq, Int.reduceLT, Int.reduceLE, reduceCtorEq] at hB
  unfold j62
  simp only [go_sem, ↓reduceIte, Nat.reduceAdd, Nat.reduceMul, Nat.reduceSub, Nat.reduceLT, Nat.reduceLeDiff, Nat.reduceEqDiff, Int.reduceToNat, Int.reduceEq, Int.reduceLT, Int.reduceLE, reduceCtorEq]
  refine loopF Nat (fun i => [.int .i64 i]) (fun i => []) (fun i => i ≤ l.length ∧ didB (l.take i) k o = false) (fun i => l.length - i) 0 ⟨by omega, by simp [didB]⟩ ?_ rfl ?_
  · simp only [go_sem, ↓reduceIte, Nat.reduceAdd, Nat.reduceMul, Nat.reduceSub, Nat.reduceLT, Nat.reduceLeDiff, Nat.reduceEqDiff, Int.reduceToNat, Int.reduceEq, Int.reduceLT, Int.reduceLE, reduceCtorEq]
  · intro i hi
    unfold j62_1
    simp only [go_sem, ↓reduceIte, Nat.reduceAdd, Nat.reduceMul, Nat.reduceSub, Nat.reduceLT, Nat.reduceLeDiff, Nat.reduceEqDiff, Int.reduceToNat, Int.reduceEq, Int.reduceLT, Int.reduceLE, reduceCtorEq]
    refine ⟨fun h1 => ?_, fun h1 => ?_⟩
    · have hil : i < l.length := by omega
      have hd : didB (l.take (i + 1)) k o = (didB (l.take i) k o || (decide ((l.getD i dEv.dft).kind = k) && decide ((l.getD i dEv.dft).obj = o))) := by
        simp only [didB, take_getD dEv.dft hil, List.any_append, List.any_cons, List.any_nil, Bool.or_false]
      refine ⟨by omega, fun h2 => ?_, fun h2 => ⟨i + 1, ⟨by omega, ?_⟩, by omega, IntWalk.i64_in _ (by omega)⟩⟩
      · symm
        rw [didB, List.any_eq_true]
        exact ⟨l.getD i dEv.dft, getD_mem hil, h2⟩
      · rw [hd, hi.2, h2]; rfl
    · have hil : i = l.length := by omega
      subst hil
      have := hi.2
      rw [List.take_length] at this
      rw [this]
      unfold j62_2
      simp only [go_sem, ↓reduceIte, Nat.reduceAdd, Nat.reduceMul, Nat.reduceSub, Nat.reduceLT, Nat.reduceLeDiff, Nat.reduceEqDiff, Int.reduceToNat, Int.reduceEq, Int.reduceLT, Int.reduceLE, reduceCtorEq]
def begB (l : List Ev) (t : Int) : Bool := decide (t = 0) || didB l 5 t
def Gd (f : FuncId) (a : List SV) (m : List Res) : Sx.Call := (FH.rd 62 (.three (DT.list 3 dEv) .int .int) (.one .bool) (fun _ => True) (fun y => didB y.1 y.2.1 y.2.2.1) FH.none) f a m
theorem Gd_eq (f : FuncId) (a : List SV) (m : List Res) : Gd f a m = (FH.rd 62 (.three (DT.list 3 dEv) .int .int) (.one .bool) (fun _ => True) (fun y => didB y.1 y.2.1 y.2.2.1) FH.none) f a m := nr rfl
theorem Gd_ok : FHOK Try.prog Gd := FH.rd_ok (by kernel_rfl) (fun y _ => f_did y.1 y.2.1 y.2.2.1) FH.none_ok
theorem f_begun (l : List Ev) (t : Int) : FnOK Try.prog 61 [(DT.list 3 dEv).emb l, .int .i64 t] [] (.bool (begB l t)) [] := by
  refine fn_walkF c61 w61 Gd_ok rfl ?_
  unfold j61
  simp only [go_sem, ↓reduceIte, Nat.reduceAdd, Nat.reduceMul, Nat.reduceSub, Nat.reduceLT, Nat.reduceLeDiff, Nat.reduceEqDiff, Int.reduceToNat, Int.reduceEq, Int.reduceLT, Int.reduceLE, reduceCtorEq, Gd_eq]
  rfl
def ownS (k : Int) (who : Int) (e : Ev) : Int := if e.obj = k ∧ e.kind = 4 then -1 else if e.obj = k ∧ e.kind = 3 then e.thr else who
def ownR (l : List Ev) (k : Int) : Int := l.foldl (ownS k) (-1)
theorem f_owner (l : List Ev) (k : Int) : FnOK Try.prog 63 [(DT.list 3 dEv).emb l, .int .i64 k] [] (.int .i64 (Tr.ownR l k)) [] := by
  refine fn_len fun hB => fn_walkF c63 w63 FH.none_ok rfl ?_
  simp only [go_sem, ↓reduceIte, Nat.reduceAdd, Nat.reduceMul, Nat.reduceSub, Nat.reduceLT, Nat.reduceLeDiff, Nat.reduceEqDiff, Int.reduceToNat, Int.reduceEq, Int.reduceLT, Int.reduceLE, reduceCtorEq] at hB
  unfold j63
  simp only [go_sem, ↓reduceIte, Nat.reduceAdd, Nat.reduceMul, Nat.reduceSub, Nat.reduceLT, Nat.reduceLeDiff, Nat.reduceEqDiff, Int.reduceToNat, Int.reduceEq, Int.reduceLT, Int.reduceLE, reduceCtorEq]
  refine loopF Nat (fun i => [.int .i64 i, .int .i64 (Tr.ownR (l.take i) k)]) (fun i => []) (fun i => i ≤ l.length) (fun i => l.length - i) 0 (by omega) ?_ rfl ?_
  · simp only [go_sem, ↓reduceIte, Nat.reduceAdd, Nat.reduceMul, Nat.reduceSub, Nat.reduceLT, Nat.reduceLeDiff, Nat.reduceEqDiff, Int.reduceToNat, Int.reduceEq, Int.reduceLT, Int.reduceLE, reduceCtorEq]
    rfl
  · intro i hi
    unfold j63_1
    simp only [go_sem, ↓reduceIte, Nat.reduceAdd, Nat.reduceMul, Nat.reduceSub, Nat.reduceLT, Nat.reduceLeDiff, Nat.reduceEqDiff, Int.reduceToNat, Int.reduceEq, Int.reduceLT, Int.reduceLE, reduceCtorEq]
    refine ⟨fun h1 => ?_, fun h1 => ?_⟩
    · have hil : i < l.length := by omega
      have ho : Tr.ownR (l.take (i + 1)) k = ownS k (Tr.ownR (l.take i) k) (l.getD i dEv.dft) := by
        simp only [Tr.ownR, take_getD dEv.dft hil, List.foldl_append, List.foldl_cons, List.foldl_nil]
      have hw : IntKind.i64.wrap ((i : Int) + 1) = ((i + 1 : Nat) : Int) := IntWalk.i64_in _ (by omega)
      simp only [Bool.and_eq_true, decide_eq_true_eq, Bool.and_eq_false_iff, decide_eq_false_iff_not]
      refine ⟨by omega, fun h2 => ⟨fun h3 => ?_, fun h3 => ⟨i + 1, by omega, by omega, hw, ?_⟩⟩, fun h2 => ⟨fun h3 => ⟨i + 1, by omega, by omega, hw, ?_⟩, fun h3 => ⟨i + 1, by omega, by omega, hw, ?_⟩⟩⟩
      · omega
      · rw [ho, ownS, if_neg (by omega), if_pos (by omega)]
      · rw [ho, ownS, if_pos (by omega)]
      · rw [ho, ownS, if_neg (by omega), if_neg (by omega)]
    · have hil : i = l.length := by omega
      subst hil
      rw [List.take_length]
      unfold j63_2
      simp only [go_sem, ↓reduceIte, Nat.reduceAdd, Nat.reduceMul, Nat.reduceSub, Nat.reduceLT, Nat.reduceLeDiff, Nat.reduceEqDiff, Int.reduceToNat, Int.reduceEq, Int.reduceLT, Int.reduceLE, reduceCtorEq]
def wrongR (l : List Ev) (e : Ev) : Int :=
  if isEv e = false then 1 else
  if (!begB l e.thr || didB l 6 e.thr) = true then 11 else
  if e.kind = 3 then (if 0 ≤ Tr.ownR l e.obj then 9 else 0) else
  if e.kind = 4 then (if Tr.ownR l e.obj ≠ e.thr then 10 else 0) else
  if e.kind = 5 then (if begB l e.obj = true then 8 else 0) else
  if e.kind = 6 then (if (!begB l e.obj || decide (e.obj = e.thr)) = true then 7 else 0) else 0

def Gw (f : FuncId) (a : List SV) (m : List Res) : Sx.Call := (FH.rd 60 (.one dEv) (.one .bool) (fun _ => True) (fun y => isEv y.1) <| FH.rd 61 (.two dEs .int) (.one .bool) (fun _ => True) (fun y => begB y.1 y.2.1) <|
  FH.rd 62 (.three dEs .int .int) (.one .bool) (fun _ => True) (fun y => didB y.1 y.2.1 y.2.2.1) <| FH.rd 63 (.two dEs .int) (.one .int) (fun _ => True) (fun y => Tr.ownR y.1 y.2.1) FH.none) f a m
theorem Gw_eq (f : FuncId) (a : List SV) (m : List Res) : Gw f a m = (FH.rd 60 (.one dEv) (.one .bool) (fun _ => True) (fun y => isEv y.1) <| FH.rd 61 (.two dEs .int) (.one .bool) (fun _ => True) (fun y => begB y.1 y.2.1) <|
  FH.rd 62 (.three dEs .int .int) (.one .bool) (fun _ => True) (fun y => didB y.1 y.2.1 y.2.2.1) <| FH.rd 63 (.two dEs .int) (.one .int) (fun _ => True) (fun y => Tr.ownR y.1 y.2.1) FH.none) f a m := nr rfl
theorem Gw_ok : FHOK Try.prog Gw := FH.rd_ok (by kernel_rfl) (fun y _ => f_RIsEvent y.1) <| FH.rd_ok (by kernel_rfl) (fun y _ => f_begun y.1 y.2.1) <|
  FH.rd_ok (by kernel_rfl) (fun y _ => f_did y.1 y.2.1 y.2.2.1) <| FH.rd_ok (by kernel_rfl) (fun y _ => f_owner y.1 y.2.1) FH.none_ok
theorem f_Wrong (l : List Ev) (e : Ev) : FnOK Try.prog 23 [dEs.emb l, dEv.emb e] [] (.int .i64 (wrongR l e)) [] := by
  refine fn_walkF c23 w23 Gw_ok rfl ?_
  unfold j23
  simp only [go_sem, ↓reduceIte, Nat.reduceAdd, Nat.reduceMul, Nat.reduceSub, Nat.reduceLT, Nat.reduceLeDiff, Nat.reduceEqDiff, Int.reduceToNat, Int.reduceEq, Int.reduceLT, Int.reduceLE, reduceCtorEq, Gw_eq]
  refine ⟨fun h1 => ?_, fun h1 => ⟨fun h2 => ?_, fun h2 => ⟨fun h3 => ⟨fun h => ?_, fun h => ?_⟩, fun h3 => ⟨fun h4 => ⟨fun h => ?_, fun h => ?_⟩, fun h4 => ⟨fun h5 => ⟨fun h => ?_, fun h => ?_⟩, fun h5 => ⟨fun h6 => ⟨fun h => ?_, fun h => ?_⟩, fun h6 => ?_⟩⟩⟩⟩⟩⟩
  all_goals (unfold wrongR; simp only [*, reduceIte, Bool.true_eq_false, Bool.false_eq_true, ne_eq, not_true_eq_false, not_false_eq_true, Int.reduceEq])
def checkL (l : List Ev) : List Ev → Nat → Int × Int
  | [], _ => (0, 0)
  | e :: r, i => if wrongR (l.take i) e = 0 then checkL l r (i + 1) else (i, wrongR (l.take i) e)
def checkR (l : List Ev) : Int × Int := if 80 < l.length then (0, 2) else checkL l l 0
def Gk (f : FuncId) (a : List SV) (m : List Res) : Sx.Call := (FH.rd 23 (.two dEs dEv) (.one .int) (fun _ => True) (fun y => wrongR y.1 y.2.1) FH.none) f a m
theorem Gk_eq (f : FuncId) (a : List SV) (m : List Res) : Gk f a m = (FH.rd 23 (.two dEs dEv) (.one .int) (fun _ => True) (fun y => wrongR y.1 y.2.1) FH.none) f a m := nr rfl
theorem Gk_ok : FHOK Try.prog Gk := FH.rd_ok (by kernel_rfl) (fun y _ => f_Wrong y.1 y.2.1) FH.none_ok
theorem f_RCheck (l : List Ev) : FnOK Try.prog 53 [dEs.emb l] [] (.tup [.int .i64 (checkR l).1, .int .i64 (checkR l).2]) [] := by
  refine fn_len fun hB => fn_walkF c53 w53 Gk_ok rfl ?_
  simp only [go_sem, ↓reduceIte, Nat.reduceAdd, Nat.reduceMul, Nat.reduceSub, Nat.reduceLT, Nat.reduceLeDiff, Nat.reduceEqDiff, Int.reduceToNat, Int.reduceEq, Int.reduceLT, Int.reduceLE, reduceCtorEq] at hB
  unfold j53
  simp only [go_sem, ↓reduceIte, Nat.reduceAdd, Nat.reduceMul, Nat.reduceSub, Nat.reduceLT, Nat.reduceLeDiff, Nat.reduceEqDiff, Int.reduceToNat, Int.reduceEq, Int.reduceLT, Int.reduceLE, reduceCtorEq, Gk_eq]
  refine ⟨fun h => by rw [checkR, if_pos (by omega)], fun h => ?_⟩
  have h80 : ¬ 80 < l.length := by omega
  have hr : checkR l = checkL l l 0 := if_neg h80
  refine loopF Nat (fun i => [.int .i64 i]) (fun i => []) (fun i => i ≤ l.length ∧ checkR l = checkL l (l.drop i) i) (fun i => l.length - i) 0 ⟨by omega, by rw [hr, List.drop_zero]⟩ ?_ rfl ?_
  · simp only [go_sem, ↓reduceIte, Nat.reduceAdd, Nat.reduceMul, Nat.reduceSub, Nat.reduceLT, Nat.reduceLeDiff, Nat.reduceEqDiff, Int.reduceToNat, Int.reduceEq, Int.reduceLT, Int.reduceLE, reduceCtorEq]
  · intro i hi
    unfold j53_1
    simp only [go_sem, ↓reduceIte, Nat.reduceAdd, Nat.reduceMul, Nat.reduceSub, Nat.reduceLT, Nat.reduceLeDiff, Nat.reduceEqDiff, Int.reduceToNat, Int.reduceEq, Int.reduceLT, Int.reduceLE, reduceCtorEq, Gk_eq]
    refine ⟨fun h1 => ?_, fun h1 => ?_⟩
    · have hil : i < l.length := by omega
      have hp := hi.2
      rw [drop_getD dEv.dft hil] at hp
      simp only [checkL] at hp
      refine ⟨by omega, by omega, by omega, fun h2 => ?_, fun h2 => ⟨i + 1, ⟨by omega, ?_⟩, by omega, IntWalk.i64_in _ (by omega)⟩⟩
      · rw [if_neg h2] at hp
        rw [hp]
      · rw [if_pos h2] at hp
        exact hp
    · have hil : i = l.length := by omega
      subst hil
      have hp := hi.2
      rw [List.drop_length] at hp
      simp only [checkL] at hp
      rw [hp]
      unfold j53_2
      simp only [go_sem, ↓reduceIte, Nat.reduceAdd, Nat.reduceMul, Nat.reduceSub, Nat.reduceLT, Nat.reduceLeDiff, Nat.reduceEqDiff, Int.reduceToNat, Int.reduceEq, Int.reduceLT, Int.reduceLE, reduceCtorEq]
/-! ### Both agree -/
end Go.Proofs.Ytgcbhanfhnianaa.Tr
