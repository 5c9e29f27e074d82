/- The package stamp. Conditions: none. -/
import Derived.Test.YtohbjnpafpcbkaaClockJ
import Derived.Test.YtohbjnpafpcbkaaTraceR
set_option linter.unusedSimpArgs false
set_option linter.unusedVariables false
set_option maxRecDepth 100000
open Go Go.Sx Go.Proofs
namespace Go.Proofs.Ytohbjnpafpcbkaa.St
open Go.Proofs.Ytohbjnpafpcbkaa.D Go.Proofs.Ytohbjnpafpcbkaa.Tr Go.Proofs.Ytohbjnpafpcbkaa.C

def j69 : JC :=
  (.seq (.ops <|
  eo 3 (.box 54 (.t 1)) <|
  eo 4 (.alloc 68 (.arr 6 1 fun _ => (.int .i64 0))) <|
  .nil)
  (.seq (.dops <|
  qo 6 (.mv (.t 0)) <|
  qo 7 (.fa 1 1 (.t 3)) <|
  eo 8 (.load 1 false (.t 7)) <|
  qo 9 (.nck (.t 6)) <|
  qo 10 (.fa 0 0 (.t 9)) <|
  qo 11 (.ia 6 6 (.t 10) (.t 8)) <|
  qo 5 (.mv (.t 11)) <|
  .nil)
  (.seq (.seq (.ops <|
  qo 12 (.fa 0 0 (.t 3)) <|
  eo 13 (.load 1 false (.t 12)) <|
  .nil)
  (.prune [13, 5, 0, 3, 4] (.block 0 (.seq (.ops <|
  qo 15 (.cmp .eql (.t 13) (I 3)) <|
  qo 14 (.mv (.t 15)) <|
  .nil)
  (.cond (.t 14)
  (.dops <|
  .prune [5, 0, 3, 4] <|
  qo 16 (.mv (.t 5)) <|
  qo 17 (.mv (.t 5)) <|
  qo 18 (.nck (.t 17)) <|
  eo 19 (.load 6 true (.t 18)) <|
  qo 20 (.mv (.t 0)) <|
  qo 21 (.fa 2 2 (.t 3)) <|
  eo 22 (.load 1 false (.t 21)) <|
  .prune [20, 22, 19, 16, 5, 3, 0, 4] <|
  qo 23 (.nck (.t 20)) <|
  qo 24 (.fa 1 36 (.t 23)) <|
  qo 25 (.ia 5 6 (.t 24) (.t 22)) <|
  .prune [25, 19, 16, 5, 3, 0, 4] <|
  eo 26 (.load 6 true (.t 25)) <|
  eo 27 (.qcall 86 [(.t 19), (.t 26)]) <|
  qo 28 (.nck (.t 16)) <|
  en (.store 6 (.t 28) (.t 27)) <|
  .nil)
  (.seq (.ops <|
  qo 30 (.cmp .eql (.t 13) (I 7)) <|
  qo 29 (.mv (.t 30)) <|
  .nil)
  (.cond (.t 29)
  (.dops <|
  .prune [5, 0, 3, 4] <|
  qo 31 (.mv (.t 5)) <|
  qo 32 (.mv (.t 5)) <|
  qo 33 (.nck (.t 32)) <|
  eo 34 (.load 6 true (.t 33)) <|
  qo 35 (.mv (.t 0)) <|
  qo 36 (.fa 2 2 (.t 3)) <|
  eo 37 (.load 1 false (.t 36)) <|
  .prune [35, 37, 34, 31, 5, 3, 0, 4] <|
  qo 38 (.nck (.t 35)) <|
  qo 39 (.fa 2 66 (.t 38)) <|
  qo 40 (.ia 4 6 (.t 39) (.t 37)) <|
  .prune [40, 34, 31, 5, 3, 0, 4] <|
  eo 41 (.load 6 true (.t 40)) <|
  eo 42 (.qcall 86 [(.t 34), (.t 41)]) <|
  qo 43 (.nck (.t 31)) <|
  en (.store 6 (.t 43) (.t 42)) <|
  .nil)
  (.seq (.ops <|
  qo 45 (.cmp .eql (.t 13) (I 6)) <|
  qo 44 (.mv (.t 45)) <|
  .nil)
  (.prune [44, 5, 0, 3, 4] (.cond (.t 44)
  (.dops <|
  qo 46 (.mv (.t 5)) <|
  qo 47 (.mv (.t 5)) <|
  qo 48 (.nck (.t 47)) <|
  eo 49 (.load 6 true (.t 48)) <|
  .prune [0, 3, 49, 46, 5, 4] <|
  qo 50 (.mv (.t 0)) <|
  qo 51 (.fa 2 2 (.t 3)) <|
  eo 52 (.load 1 false (.t 51)) <|
  qo 53 (.nck (.t 50)) <|
  qo 54 (.fa 0 0 (.t 53)) <|
  .prune [54, 52, 49, 46, 5, 3, 0, 4] <|
  qo 55 (.ia 6 6 (.t 54) (.t 52)) <|
  eo 56 (.load 6 true (.t 55)) <|
  .prune [49, 56, 46, 5, 3, 0, 4] <|
  eo 57 (.qcall 86 [(.t 49), (.t 56)]) <|
  qo 58 (.nck (.t 46)) <|
  en (.store 6 (.t 58) (.t 57)) <|
  .nil)
  .skip))))))))))
  (.prune [5, 3, 0, 4] (.seq (.dops <|
  qo 59 (.mv (.t 5)) <|
  qo 60 (.fa 1 1 (.t 3)) <|
  eo 61 (.load 1 false (.t 60)) <|
  qo 62 (.nck (.t 59)) <|
  qo 63 (.ia 6 1 (.t 62) (.t 61)) <|
  eo 64 (.load 1 false (.t 63)) <|
  .prune [64, 59, 61, 3, 0, 5, 4] <|
  qo 65 (.ar .add (.t 64) (I 1)) <|
  qo 66 (.nck (.t 59)) <|
  qo 67 (.ia 6 1 (.t 66) (.t 61)) <|
  en (.store 1 (.t 67) (.t 65)) <|
  .nil)
  (.prune [3, 0, 5, 4] (.seq (.seq (.ops <|
  qo 68 (.fa 0 0 (.t 3)) <|
  eo 69 (.load 1 false (.t 68)) <|
  .nil)
  (.block 1 (.seq (.ops <|
  qo 71 (.cmp .eql (.t 69) (I 4)) <|
  qo 70 (.mv (.t 71)) <|
  .nil)
  (.cond (.t 70)
  (.dops <|
  .prune [0, 3, 5, 4] <|
  qo 72 (.mv (.t 0)) <|
  qo 73 (.fa 2 2 (.t 3)) <|
  eo 74 (.load 1 false (.t 73)) <|
  qo 75 (.mv (.t 0)) <|
  qo 76 (.fa 2 2 (.t 3)) <|
  .prune [76, 75, 5, 72, 74, 4] <|
  eo 77 (.load 1 false (.t 76)) <|
  qo 78 (.nck (.t 75)) <|
  qo 79 (.fa 1 36 (.t 78)) <|
  .prune [79, 77, 5, 72, 74, 4] <|
  qo 80 (.ia 5 6 (.t 79) (.t 77)) <|
  eo 81 (.load 6 true (.t 80)) <|
  .prune [5, 81, 72, 74, 4] <|
  qo 82 (.mv (.t 5)) <|
  qo 83 (.nck (.t 82)) <|
  eo 84 (.load 6 true (.t 83)) <|
  eo 85 (.qcall 86 [(.t 81), (.t 84)]) <|
  .prune [72, 74, 85, 5, 4] <|
  qo 86 (.nck (.t 72)) <|
  qo 87 (.fa 1 36 (.t 86)) <|
  qo 88 (.ia 5 6 (.t 87) (.t 74)) <|
  en (.store 6 (.t 88) (.t 85)) <|
  .nil)
  (.seq (.ops <|
  qo 90 (.cmp .eql (.t 69) (I 8)) <|
  qo 89 (.mv (.t 90)) <|
  .nil)
  (.prune [89, 0, 3, 5, 4, 69] (.cond (.t 89)
  (.dops <|
  qo 91 (.mv (.t 0)) <|
  qo 92 (.fa 2 2 (.t 3)) <|
  eo 93 (.load 1 false (.t 92)) <|
  .prune [0, 3, 5, 91, 93, 4] <|
  qo 94 (.mv (.t 0)) <|
  qo 95 (.fa 2 2 (.t 3)) <|
  eo 96 (.load 1 false (.t 95)) <|
  .prune [94, 96, 5, 91, 93, 4] <|
  qo 97 (.nck (.t 94)) <|
  qo 98 (.fa 2 66 (.t 97)) <|
  qo 99 (.ia 4 6 (.t 98) (.t 96)) <|
  .prune [99, 5, 91, 93, 4] <|
  eo 100 (.load 6 true (.t 99)) <|
  qo 101 (.mv (.t 5)) <|
  qo 102 (.nck (.t 101)) <|
  eo 103 (.load 6 true (.t 102)) <|
  .prune [100, 103, 91, 93, 5, 4] <|
  eo 104 (.qcall 86 [(.t 100), (.t 103)]) <|
  qo 105 (.nck (.t 91)) <|
  .prune [105, 93, 104, 5, 4] <|
  qo 106 (.fa 2 66 (.t 105)) <|
  qo 107 (.ia 4 6 (.t 106) (.t 93)) <|
  en (.store 6 (.t 107) (.t 104)) <|
  .nil)
  (.seq (.ops <|
  qo 109 (.cmp .eql (.t 69) (I 5)) <|
  qo 108 (.mv (.t 109)) <|
  .nil)
  (.cond (.t 108)
  (.dops <|
  .prune [0, 3, 5, 4] <|
  qo 110 (.mv (.t 0)) <|
  qo 111 (.fa 2 2 (.t 3)) <|
  eo 112 (.load 1 false (.t 111)) <|
  .prune [5, 110, 112, 4] <|
  qo 113 (.mv (.t 5)) <|
  qo 114 (.nck (.t 113)) <|
  eo 115 (.load 6 true (.t 114)) <|
  qo 116 (.nck (.t 110)) <|
  .prune [116, 112, 115, 5, 4] <|
  qo 117 (.fa 0 0 (.t 116)) <|
  qo 118 (.ia 6 6 (.t 117) (.t 112)) <|
  en (.store 6 (.t 118) (.t 115)) <|
  .nil)
  .skip)))))))))
  (.prune [5, 4] (.seq (.ops <|
  qo 119 (.mv (.t 5)) <|
  qo 120 (.nck (.t 119)) <|
  eo 121 (.load 6 true (.t 120)) <|
  en (.store 6 (.t 4) (.t 121)) <|
  .nil)
  .ret)))))))))
theorem c69 : fnIs Try.prog qall 69 = some (j69.flat, [.cell 4 68], 122) := by kernel_rfl
theorem w69 : j69.wf 122 = true := by kernel_rfl
def updC (f : Nat → Clk) (i : Nat) (c : Clk) : Nat → Clk := fun k j => if k = i then c j else f k j
def incC (c : Clk) (t : Nat) : Clk := fun k => if k = t then IntKind.i64.wrap (c t + 1) else c k
/-- What its thread knows ahead of an event. -/
def preC (k : Kp) (e : Ev) : Clk :=
  if e.kind = 3 then joinC (k.thr e.thr.toNat) (k.lk e.obj.toNat) else if e.kind = 7 then joinC (k.thr e.thr.toNat) (k.vl e.obj.toNat) else
  if e.kind = 6 then joinC (k.thr e.thr.toNat) (k.thr e.obj.toNat) else k.thr e.thr.toNat
def nowC (k : Kp) (e : Ev) : Clk := incC (preC k e) e.thr.toNat
def takeK (k : Kp) (e : Ev) : Kp :=
  let thr := updC k.thr e.thr.toNat (nowC k e)
  if e.kind = 4 then ⟨thr, updC k.lk e.obj.toNat (joinC (k.lk e.obj.toNat) (nowC k e)), k.vl⟩ else
  if e.kind = 8 then ⟨thr, k.lk, updC k.vl e.obj.toNat (joinC (k.vl e.obj.toNat) (nowC k e))⟩ else
  if e.kind = 5 then ⟨updC thr e.obj.toNat (nowC k e), k.lk, k.vl⟩ else ⟨thr, k.lk, k.vl⟩
theorem tszC : tsz Try.prog 68 = some (6, true) := by kernel_rfl
def Gjn (f : FuncId) (a : List SV) (m : List Res) : Sx.Call := (FH.rd 86 (.two dClk dClk) (.one dClk) (fun _ => True) (fun y => joinC y.1 y.2.1) FH.none) f a m
theorem Gjn_eq (f : FuncId) (a : List SV) (m : List Res) : Gjn f a m = (FH.rd 86 (.two dClk dClk) (.one dClk) (fun _ => True) (fun y => joinC y.1 y.2.1) FH.none) f a m := nr rfl
theorem Gjn_ok : FHOK Try.prog Gjn := FH.rd_ok (by kernel_rfl) (fun y _ => f_Join y.1 y.2.1) FH.none_ok
theorem f_takesK (k : Kp) (e : Ev) (he : isEv e = true) : FnOK Try.prog 69 [.ptr 0 [] 0, dEv.emb e] [.blk 118 (dKp.emb k)] (dClk.emb (nowC k e)) [.blk 118 (dKp.emb (takeK k e))] := by
  refine fn_walkF c69 w69 Gjn_ok rfl ?_
  unfold j69
  obtain ⟨b1, b2, b3, b4⟩ := (isEv_iff e).1 he
  by_cases k3 : e.kind = 3
  · have b5 : e.obj < 5 := by simpa [many, k3] using b4
    simp only [go_sem, ↓reduceIte, Nat.reduceAdd, Nat.reduceMul, Nat.reduceSub, Nat.reduceLT, Nat.reduceLeDiff, Nat.reduceEqDiff, Int.reduceToNat, Int.reduceEq, Int.reduceLT, Int.reduceLE, reduceCtorEq, Gjn_eq, tszC, k3, b1, b2, b3, b5]
    simp [nowC, preC, takeK, updC, incC, k3]
    all_goals first | rfl | (funext a; congr 1; funext j; congr 1; split <;> simp_all)
  by_cases k4 : e.kind = 4
  · have b5 : e.obj < 5 := by simpa [many, k4] using b4
    simp only [go_sem, ↓reduceIte, Nat.reduceAdd, Nat.reduceMul, Nat.reduceSub, Nat.reduceLT, Nat.reduceLeDiff, Nat.reduceEqDiff, Int.reduceToNat, Int.reduceEq, Int.reduceLT, Int.reduceLE, reduceCtorEq, Gjn_eq, tszC, k4, b1, b2, b3, b5]
    simp [nowC, preC, takeK, updC, incC, k4]
    all_goals first | rfl | (funext a; congr 1; funext j; congr 1; split <;> simp_all)
  by_cases k5 : e.kind = 5
  · have b5 : e.obj < 6 := by simpa [many, k5] using b4
    simp only [go_sem, ↓reduceIte, Nat.reduceAdd, Nat.reduceMul, Nat.reduceSub, Nat.reduceLT, Nat.reduceLeDiff, Nat.reduceEqDiff, Int.reduceToNat, Int.reduceEq, Int.reduceLT, Int.reduceLE, reduceCtorEq, Gjn_eq, tszC, k5, b1, b2, b3, b5]
    simp [nowC, preC, takeK, updC, incC, k5]
    all_goals first | rfl | (funext a; congr 1; funext j; congr 1; split <;> simp_all)
  by_cases k6 : e.kind = 6
  · have b5 : e.obj < 6 := by simpa [many, k6] using b4
    simp only [go_sem, ↓reduceIte, Nat.reduceAdd, Nat.reduceMul, Nat.reduceSub, Nat.reduceLT, Nat.reduceLeDiff, Nat.reduceEqDiff, Int.reduceToNat, Int.reduceEq, Int.reduceLT, Int.reduceLE, reduceCtorEq, Gjn_eq, tszC, k6, b1, b2, b3, b5]
    simp [nowC, preC, takeK, updC, incC, k6]
    all_goals first | rfl | (funext a; congr 1; funext j; congr 1; split <;> simp_all)
  by_cases k7 : e.kind = 7
  · have b5 : e.obj < 4 := by simpa [many, k7] using b4
    simp only [go_sem, ↓reduceIte, Nat.reduceAdd, Nat.reduceMul, Nat.reduceSub, Nat.reduceLT, Nat.reduceLeDiff, Nat.reduceEqDiff, Int.reduceToNat, Int.reduceEq, Int.reduceLT, Int.reduceLE, reduceCtorEq, Gjn_eq, tszC, k7, b1, b2, b3, b5]
    simp [nowC, preC, takeK, updC, incC, k7]
    all_goals first | rfl | (funext a; congr 1; funext j; congr 1; split <;> simp_all)
  by_cases k8 : e.kind = 8
  · have b5 : e.obj < 4 := by simpa [many, k8] using b4
    simp only [go_sem, ↓reduceIte, Nat.reduceAdd, Nat.reduceMul, Nat.reduceSub, Nat.reduceLT, Nat.reduceLeDiff, Nat.reduceEqDiff, Int.reduceToNat, Int.reduceEq, Int.reduceLT, Int.reduceLE, reduceCtorEq, Gjn_eq, tszC, k8, b1, b2, b3, b5]
    simp [nowC, preC, takeK, updC, incC, k8]
    all_goals first | rfl | (funext a; congr 1; funext j; congr 1; split <;> simp_all)
  simp only [go_sem, ↓reduceIte, Nat.reduceAdd, Nat.reduceMul, Nat.reduceSub, Nat.reduceLT, Nat.reduceLeDiff, Nat.reduceEqDiff, Int.reduceToNat, Int.reduceEq, Int.reduceLT, Int.reduceLE, reduceCtorEq, Gjn_eq, tszC, k3, k4, k5, k6, k7, k8, b1, b2, b3]
  simp [nowC, preC, takeK, updC, incC, k3, k4, k5, k6, k7, k8]
end Go.Proofs.Ytohbjnpafpcbkaa.St
