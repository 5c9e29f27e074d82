/- The reference of full. Conditions: none. -/
import Derived.Test.YtafcmgfmmlnngaaRacesR
import Derived.Test.YtafcmgfmmlnngaaClockJ
set_option linter.unusedSimpArgs false
set_option linter.unusedVariables false
set_option maxRecDepth 100000
open Go Go.Sx Go.Proofs
namespace Go.Proofs.Ytafcmgfmmlnngaa.Fu
open Go.Proofs.Ytafcmgfmmlnngaa.D Go.Proofs.Ytafcmgfmmlnngaa.Tr Go.Proofs.Ytafcmgfmmlnngaa.Rc
/-- The least kind of a race that ends at j, of the first i. -/
def kR (rs : List Rc) (j : Int) : Nat → Int
  | 0 => 0
  | i + 1 => if (rs.getD i dRc.dft).b = j ∧ (kR rs j i = 0 ∨ (rs.getD i dRc.dft).kind < kR rs j i) then (rs.getD i dRc.dft).kind else kR rs j i
def kindR (l : List Ev) (j : Nat) : Int := kR (racesF l) j (racesF l).length
def fullL (l : List Ev) : Nat → List Fl
  | 0 => []
  | j + 1 => fullL l j ++ if 0 < kindR l j then [⟨j, (l.getD j dEv.dft).obj, kindR l j⟩] else []
theorem fullL_len {l : List Ev} : ∀ i, (fullL l i).length ≤ i
  | 0 => Nat.le_refl _
  | i + 1 => by
    have := fullL_len (l := l) i
    rw [fullL, List.length_append]
    split <;> simp <;> omega
def isSt (e : Ev) : Bool := decide (e.kind = 4) || decide (e.kind = 5) || decide (e.kind = 8)
def bumpC (c : Clk) (t : Nat) (v : Int) : Clk := fun k => if k = t then v else c k
/-- A thread's own number, and the numbers of the last reads and writes. -/
def ownC (l : List Ev) : Nat → Clk
  | 0 => fun _ => 0
  | i + 1 => if isSt (l.getD i dEv.dft) = true then bumpC (ownC l i) (l.getD i dEv.dft).thr.toNat (IntKind.i64.wrap (ownC l i (l.getD i dEv.dft).thr.toNat + 1)) else ownC l i
/-- The last accesses of a kind to a variable. -/
def lastC (l : List Ev) (k x : Int) : Nat → Clk
  | 0 => fun _ => 0
  | i + 1 => if (l.getD i dEv.dft).kind = k ∧ (l.getD i dEv.dft).obj = x then bumpC (lastC l k x i) (l.getD i dEv.dft).thr.toNat (IntKind.i64.wrap (ownC l i (l.getD i dEv.dft).thr.toNat + 1)) else lastC l k x i
def j30_1 : JC :=
  (.seq (.ops <|
  qo 28 (.cmp .lss (.t 27) (.t 26)) <|
  .nil)
  (.prune [28, 25, 27, 9, 10, 26, 7, 0, 22, 21, 8, 1, 5, 6] (.seq (.cond (.t 28)
  .skip
  (.exit 2))
  (.prune [25, 27, 9, 10, 26, 7, 0, 22, 21, 8, 1, 5, 6] (.seq (.block 3 (.seq (.ops <|
  qo 29 (.is 4 (.t 25) (.t 27)) <|
  eo 30 (.load 4 true (.t 29)) <|
  eo 12 (.alloc 69 (.agg [(.int .i64 0), (.int .i64 0), (.int .i64 0), (.int .i64 0)])) <|
  en (.store 4 (.t 12) (.t 30)) <|
  .nil)
  (.prune [12, 9, 10, 27, 26, 25, 7, 0, 22, 21, 8, 1, 5, 6] (.seq (.ops <|
  qo 31 (.fa 1 1 (.t 12)) <|
  eo 32 (.load 1 false (.t 31)) <|
  qo 33 (.mv (.t 9)) <|
  qo 34 (.cmp .eql (.t 32) (.t 33)) <|
  .prune [34, 10, 12, 27, 26, 25, 9, 7, 0, 22, 21, 8, 1, 5, 6] <|
  qo 35 (.mv (.t 34)) <|
  .sc false 44 35 (qo 36 (.mv (.t 10)) <|
  qo 37 (.cmp .eql (.t 36) (I 0)) <|
  qo 38 (.mv (.t 37)) <|
  .sc true 43 38 (qo 39 (.fa 3 3 (.t 12)) <|
  eo 40 (.load 1 false (.t 39)) <|
  qo 41 (.mv (.t 10)) <|
  qo 42 (.cmp .lss (.t 40) (.t 41)) <|
  .nil) (.t 42) <|
  .nil) (.t 43) <|
  .nil)
  (.prune [44, 12, 27, 26, 25, 9, 7, 0, 22, 21, 8, 1, 5, 6, 10] (.cond (.t 44)
  (.ops <|
  qo 45 (.fa 3 3 (.t 12)) <|
  eo 46 (.load 1 false (.t 45)) <|
  qo 10 (.mv (.t 46)) <|
  .nil)
  .skip))))))
  (.prune [27, 26, 25, 9, 10, 7, 0, 22, 21, 8, 1, 5, 6] (.ops <|
  qo 47 (.ar .add (.t 27) (I 1)) <|
  qo 27 (.mv (.t 47)) <|
  .nil)))))))
def j30_2 : JC :=
  (.prune [10, 7, 9, 0, 22, 21, 8, 1, 5, 6] (.seq (.ops <|
  qo 48 (.mv (.t 10)) <|
  qo 49 (.cmp .gtr (.t 48) (I 0)) <|
  .nil)
  (.prune [49, 7, 9, 0, 10, 22, 21, 8, 1, 5, 6] (.cond (.t 49)
  (.ops <|
  qo 50 (.mv (.t 7)) <|
  qo 51 (.mv (.t 9)) <|
  qo 52 (.mv (.t 0)) <|
  qo 53 (.mv (.t 9)) <|
  .prune [52, 53, 10, 51, 50, 22, 21, 8, 0, 1, 5, 6] <|
  qo 54 (.is 3 (.t 52) (.t 53)) <|
  qo 55 (.fa 2 2 (.t 54)) <|
  .prune [55, 10, 51, 50, 22, 21, 8, 0, 1, 5, 6] <|
  eo 56 (.load 1 false (.t 55)) <|
  qo 57 (.mv (.t 10)) <|
  qo 58 (.bld (.agg [(.int .i64 0), (.int .i64 0), (.int .i64 0)]) [([.fld 0], 0, 1, (.t 51)), ([.fld 1], 1, 1, (.t 56)), ([.fld 2], 2, 1, (.t 57))]) <|
  .prune [58, 50, 22, 21, 8, 0, 1, 5, 6] <|
  eo 59 (.bsl 60 3 1 (.agg [(.int .i64 0), (.int .i64 0), (.int .i64 0)]) [(0, (.t 58))]) <|
  eo 60 (.app 60 3 24 (.t 50) (.t 59)) <|
  qo 7 (.mv (.t 60)) <|
  .nil)
  .skip))))
def j30_3 : JC :=
  (.prune [22, 21, 8, 7, 0, 1, 5, 6] (.ops <|
  qo 61 (.ar .add (.t 22) (I 1)) <|
  qo 22 (.mv (.t 61)) <|
  .nil))
def j30_4 : JC :=
  (.seq (.ops <|
  qo 23 (.cmp .lss (.t 22) (.t 21)) <|
  .nil)
  (.seq (.cond (.t 23)
  .skip
  (.exit 0))
  (.seq (.block 1 (.seq (.ops <|
  qo 24 (.mv (.t 22)) <|
  qo 9 (.mv (.t 24)) <|
  .nil)
  (.prune [8, 9, 7, 0, 22, 21, 1, 5, 6] (.seq (.ops <|
  qo 10 (.mv (I 0)) <|
  .nil)
  (.prune [8, 9, 10, 7, 0, 22, 21, 1, 5, 6] (.seq (.seq (.ops <|
  qo 25 (.mv (.t 8)) <|
  qo 26 (.len (.t 25)) <|
  qo 27 (.mv (I 0)) <|
  .nil)
  (.prune [27, 26, 25, 9, 10, 7, 0, 22, 21, 8, 1, 5, 6] (.block 2 (.loop [26, 25, 9, 7, 0, 22, 21, 8, 1, 5, 6] [27, 10] j30_1))))
  j30_2))))))
  j30_3)))
def j30_5 : JC :=
  (.seq (.ops <|
  qo 65 (.cmp .lss (.t 64) (.t 63)) <|
  .nil)
  (.prune [65, 62, 64, 13, 63, 1, 14, 15, 7, 5, 6] (.seq (.cond (.t 65)
  .skip
  (.exit 4))
  (.prune [62, 64, 13, 63, 1, 14, 15, 7, 5, 6] (.seq (.block 5 (.seq (.ops <|
  qo 66 (.is 3 (.t 62) (.t 64)) <|
  eo 67 (.load 3 true (.t 66)) <|
  eo 17 (.alloc 35 (.agg [(.int .i64 0), (.int .i64 0), (.int .i64 0)])) <|
  en (.store 3 (.t 17) (.t 67)) <|
  .nil)
  (.prune [17, 13, 64, 63, 62, 1, 14, 15, 7, 5, 6] (.block 6 (.seq (.ops <|
  qo 69 (.fa 0 0 (.t 17)) <|
  eo 70 (.load 1 false (.t 69)) <|
  qo 71 (.cmp .eql (.t 70) (I 4)) <|
  qo 72 (.mv (.t 71)) <|
  .prune [72, 17, 13, 64, 63, 62, 1, 14, 15, 7, 5, 6] <|
  .sc true 76 72 (qo 73 (.fa 0 0 (.t 17)) <|
  eo 74 (.load 1 false (.t 73)) <|
  qo 75 (.cmp .eql (.t 74) (I 5)) <|
  .nil) (.t 75) <|
  qo 77 (.mv (.t 76)) <|
  .sc true 81 77 (qo 78 (.fa 0 0 (.t 17)) <|
  eo 79 (.load 1 false (.t 78)) <|
  qo 80 (.cmp .eql (.t 79) (I 8)) <|
  .nil) (.t 80) <|
  qo 68 (.mv (.t 81)) <|
  .nil)
  (.prune [68, 17, 13, 64, 63, 62, 1, 14, 15, 7, 5, 6] (.cond (.t 68)
  (.ops <|
  qo 82 (.fa 1 1 (.t 17)) <|
  eo 83 (.load 1 false (.t 82)) <|
  .prune [13, 83, 64, 63, 62, 1, 14, 15, 7, 5, 6] <|
  qo 84 (.ia 6 1 (.t 13) (.t 83)) <|
  eo 85 (.load 1 false (.t 84)) <|
  qo 86 (.ar .add (.t 85) (I 1)) <|
  qo 87 (.ia 6 1 (.t 13) (.t 83)) <|
  en (.store 1 (.t 87) (.t 86)) <|
  .nil)
  (.seq (.ops <|
  qo 89 (.fa 0 0 (.t 17)) <|
  eo 90 (.load 1 false (.t 89)) <|
  qo 91 (.cmp .eql (.t 90) (I 1)) <|
  .prune [91, 17, 1, 13, 14, 64, 63, 62, 15, 7, 5, 6] <|
  qo 92 (.mv (.t 91)) <|
  .sc false 97 92 (qo 93 (.fa 2 2 (.t 17)) <|
  eo 94 (.load 1 false (.t 93)) <|
  qo 95 (.mv (.t 1)) <|
  qo 96 (.cmp .eql (.t 94) (.t 95)) <|
  .nil) (.t 96) <|
  qo 88 (.mv (.t 97)) <|
  .nil)
  (.prune [88, 17, 13, 14, 64, 63, 62, 1, 15, 7, 5, 6] (.cond (.t 88)
  (.dops <|
  qo 98 (.fa 1 1 (.t 17)) <|
  eo 99 (.load 1 false (.t 98)) <|
  qo 100 (.fa 1 1 (.t 17)) <|
  .prune [100, 13, 14, 99, 64, 63, 62, 1, 15, 7, 5, 6] <|
  eo 101 (.load 1 false (.t 100)) <|
  qo 102 (.ia 6 1 (.t 13) (.t 101)) <|
  eo 103 (.load 1 false (.t 102)) <|
  .prune [103, 14, 99, 64, 63, 62, 13, 1, 15, 7, 5, 6] <|
  qo 104 (.ar .add (.t 103) (I 1)) <|
  qo 105 (.ia 6 1 (.t 14) (.t 99)) <|
  en (.store 1 (.t 105) (.t 104)) <|
  .nil)
  (.seq (.ops <|
  qo 107 (.fa 0 0 (.t 17)) <|
  eo 108 (.load 1 false (.t 107)) <|
  qo 109 (.cmp .eql (.t 108) (I 2)) <|
  .prune [109, 17, 1, 13, 15, 64, 63, 62, 14, 7, 5, 6] <|
  qo 110 (.mv (.t 109)) <|
  .sc false 115 110 (qo 111 (.fa 2 2 (.t 17)) <|
  eo 112 (.load 1 false (.t 111)) <|
  qo 113 (.mv (.t 1)) <|
  qo 114 (.cmp .eql (.t 112) (.t 113)) <|
  .nil) (.t 114) <|
  qo 106 (.mv (.t 115)) <|
  .nil)
  (.prune [106, 17, 13, 15, 64, 63, 62, 1, 14, 7, 5, 6] (.cond (.t 106)
  (.dops <|
  qo 116 (.fa 1 1 (.t 17)) <|
  eo 117 (.load 1 false (.t 116)) <|
  qo 118 (.fa 1 1 (.t 17)) <|
  .prune [118, 13, 15, 117, 64, 63, 62, 1, 14, 7, 5, 6] <|
  eo 119 (.load 1 false (.t 118)) <|
  qo 120 (.ia 6 1 (.t 13) (.t 119)) <|
  eo 121 (.load 1 false (.t 120)) <|
  .prune [121, 15, 117, 64, 63, 62, 13, 1, 14, 7, 5, 6] <|
  qo 122 (.ar .add (.t 121) (I 1)) <|
  qo 123 (.ia 6 1 (.t 15) (.t 117)) <|
  en (.store 1 (.t 123) (.t 122)) <|
  .nil)
  .skip)))))))))))))
  (.prune [64, 63, 62, 13, 1, 14, 15, 7, 5, 6] (.ops <|
  qo 124 (.ar .add (.t 64) (I 1)) <|
  qo 64 (.mv (.t 124)) <|
  .nil)))))))
def j30_6 : JC :=
  (.prune [7, 14, 15, 5, 6] (.seq (.dops <|
  qo 125 (.mv (.t 7)) <|
  eo 126 (.load 6 true (.t 14)) <|
  eo 127 (.load 6 true (.t 15)) <|
  qo 4 (.mv (.t 125)) <|
  .prune [5, 126, 127, 15, 6, 4] <|
  en (.store 6 (.t 5) (.t 126)) <|
  en (.again 6 true (.t 15) 127) <|
  en (.store 6 (.t 6) (.t 127)) <|
  .nil)
  (.vecs 4 60 3 .ret)))
def j30_7 : JC :=
  (.prune [0, 1, 7, 5, 6] (.seq (.ops <|
  eo 13 (.alloc 64 (.arr 6 1 fun _ => (.int .i64 0))) <|
  eo 14 (.alloc 64 (.arr 6 1 fun _ => (.int .i64 0))) <|
  eo 15 (.alloc 64 (.arr 6 1 fun _ => (.int .i64 0))) <|
  .nil)
  (.seq (.seq (.ops <|
  qo 62 (.mv (.t 0)) <|
  qo 63 (.len (.t 62)) <|
  qo 64 (.mv (I 0)) <|
  .nil)
  (.prune [64, 63, 62, 13, 1, 14, 15, 7, 5, 6] (.block 4 (.loop [63, 62, 13, 1, 14, 15, 7, 5, 6] [64] j30_5))))
  j30_6)))
def j30 : JC :=
  (.seq (.ops <|
  qo 4 (.mv (.c .nils)) <|
  eo 5 (.alloc 64 (.arr 6 1 fun _ => (.int .i64 0))) <|
  eo 6 (.alloc 64 (.arr 6 1 fun _ => (.int .i64 0))) <|
  .nil)
  (.seq (.ops <|
  qo 7 (.mv (.c .nils)) <|
  .nil)
  (.seq (.ops <|
  qo 18 (.mv (.t 0)) <|
  eo 19 (.call 32 [(.t 18)]) <|
  qo 8 (.mv (.t 19)) <|
  .nil)
  (.seq (.seq (.ops <|
  qo 20 (.mv (.t 0)) <|
  qo 21 (.len (.t 20)) <|
  qo 22 (.mv (I 0)) <|
  .nil)
  (.prune [22, 21, 8, 7, 0, 1, 5, 6] (.block 0 (.vecs 7 60 3 (.loop [21, 8, 0, 1, 5, 6] [22, 7] j30_4)))))
  j30_7))))
theorem c30 : fnIs Try.prog qall 30 = some (j30.flat, [.tmp 4, .cell 5 64, .cell 6 64], 128) := by kernel_rfl
theorem w30 : j30.wf 128 = true := by kernel_rfl
def Gfu (f : FuncId) (a : List SV) (m : List Res) : Sx.Call := (FH.mk 32 (.one dEs) (fun y => (checkR y.1).2 = 0) (fun y => .vec 0 (racesF y.1).length) (fun y => [.vec 69 4 ((racesF y.1).map dRc.emb)]) FH.none) f a m
theorem Gfu_eq (f : FuncId) (a : List SV) (m : List Res) : Gfu f a m = (FH.mk 32 (.one dEs) (fun y => (checkR y.1).2 = 0) (fun y => .vec 0 (racesF y.1).length) (fun y => [.vec 69 4 ((racesF y.1).map dRc.emb)]) FH.none) f a m := nr rfl
theorem Gfu_ok : FHOK Try.prog Gfu := FH.mk_ok (by kernel_rfl) (fun y _ => plainM (pv_vec _ _) ⟨plR_vec _ _ dRc _, trivial⟩) (fun y h => f_RRaces y.1 h) FH.none_ok
theorem tszC : tsz Try.prog 64 = some (6, true) := by kernel_rfl
theorem rc_getD {rs : List Rc} {i : Nat} (h : i < rs.length) : (rs.map dRc.emb).getD i .junk = .agg [.int .i64 (rs.getD i dRc.dft).a, .int .i64 (rs.getD i dRc.dft).b, .int .i64 (rs.getD i dRc.dft).var, .int .i64 (rs.getD i dRc.dft).kind] := by
  simp [List.getD, h, rc_emb]
theorem f_RFull (l : List Ev) (x : Int) (hok : (checkR l).2 = 0) : FnOK Try.prog 30 [dEs.emb l, .int .i64 x] [] (.tup [.vec 0 (fullL l l.length).length, dClk.emb (lastC l 1 x l.length), dClk.emb (lastC l 2 x l.length)]) [.vec 60 3 ((fullL l l.length).map dFl.emb)] := by
  have hl := ok_len hok
  refine fn_walkF c30 w30 Gfu_ok rfl ?_
  unfold j30
  simp only [go_sem, ↓reduceIte, Nat.reduceAdd, Nat.reduceMul, Nat.reduceSub, Nat.reduceLT, Nat.reduceLeDiff, Nat.reduceEqDiff, Int.reduceToNat, Int.reduceEq, Int.reduceLT, Int.reduceLE, reduceCtorEq, Gfu_eq, hok]
  have hrl : (racesF l).length ≤ 80 * 80 := Nat.le_trans (allC_len _) (Nat.mul_le_mul (by omega) (by omega))
  refine loopF Nat (fun j => [.int .i64 j, .vec 3 (fullL l j).length]) (fun j => [.blk 64 (dClk.emb fun _ => 0), .blk 64 (dClk.emb fun _ => 0), .vec 69 4 ((racesF l).map dRc.emb), .vec 60 3 ((fullL l j).map dFl.emb)]) (fun j => j ≤ l.length) (fun j => l.length - j) 0 (by omega) ?_ rfl ?_
  · simp only [go_sem, ↓reduceIte, Nat.reduceAdd, Nat.reduceMul, Nat.reduceSub, Nat.reduceLT, Nat.reduceLeDiff, Nat.reduceEqDiff, Int.reduceToNat, Int.reduceEq, Int.reduceLT, Int.reduceLE, reduceCtorEq]
    rfl
  intro j hj
  by_cases h1 : j < l.length
  · have h1' : (j : Int) < l.length := by omega
    have hw : IntKind.i64.wrap ((j : Int) + 1) = ((j + 1 : Nat) : Int) := IntWalk.i64_in _ (by omega)
    have hlj := fullL_len (l := l) j
    unfold j30_4
    simp only [go_sem, ↓reduceIte, Nat.reduceAdd, Nat.reduceMul, Nat.reduceSub, Nat.reduceLT, Nat.reduceLeDiff, Nat.reduceEqDiff, Int.reduceToNat, Int.reduceEq, Int.reduceLT, Int.reduceLE, reduceCtorEq, h1, h1']
    refine loopF Nat (fun i => [.int .i64 i, .int .i64 (kR (racesF l) j i)]) (fun i => [.blk 64 (dClk.emb fun _ => 0), .blk 64 (dClk.emb fun _ => 0), .vec 69 4 ((racesF l).map dRc.emb), .vec 60 3 ((fullL l j).map dFl.emb)]) (fun i => i ≤ (racesF l).length) (fun i => (racesF l).length - i) 0 (by omega) ?_ rfl ?_
    · simp only [go_sem, ↓reduceIte, Nat.reduceAdd, Nat.reduceMul, Nat.reduceSub, Nat.reduceLT, Nat.reduceLeDiff, Nat.reduceEqDiff, Int.reduceToNat, Int.reduceEq, Int.reduceLT, Int.reduceLE, reduceCtorEq]
      rfl
    intro i hi
    by_cases h2 : i < (racesF l).length
    · have h2' : (i : Int) < (racesF l).length := by omega
      have hwi : IntKind.i64.wrap ((i : Int) + 1) = ((i + 1 : Nat) : Int) := IntWalk.i64_in _ (by omega)
      have hg := rc_getD h2
      unfold j30_1
      simp only [go_sem, ↓reduceIte, Nat.reduceAdd, Nat.reduceMul, Nat.reduceSub, Nat.reduceLT, Nat.reduceLeDiff, Nat.reduceEqDiff, Int.reduceToNat, Int.reduceEq, Int.reduceLT, Int.reduceLE, reduceCtorEq, h2, h2', hwi, hg, List.length_map]
      refine ⟨by omega, fun h => ⟨i + 1, by omega, by omega, rfl, ?_⟩, fun h => ⟨i + 1, by omega, by omega, rfl, ?_⟩⟩
      · have h : ((racesF l).getD i dRc.dft).b = j ∧ (kR (racesF l) j i = 0 ∨ ((racesF l).getD i dRc.dft).kind < kR (racesF l) j i) := by simpa only [Bool.and_eq_true, Bool.or_eq_true, decide_eq_true_eq] using h
        rw [kR, if_pos h]
      · have h : ¬ (((racesF l).getD i dRc.dft).b = j ∧ (kR (racesF l) j i = 0 ∨ ((racesF l).getD i dRc.dft).kind < kR (racesF l) j i)) := by
          intro hh
          have : (decide (((racesF l).getD i dRc.dft).b = ↑j) && (decide (kR (racesF l) (↑j) i = 0) || decide (((racesF l).getD i dRc.dft).kind < kR (racesF l) (↑j) i))) = true := by simpa only [Bool.and_eq_true, Bool.or_eq_true, decide_eq_true_eq] using hh
          rw [this] at h; cases h
        rw [kR, if_neg h]
    · have h2' : ¬ (i : Int) < (racesF l).length := by omega
      have e : i = (racesF l).length := by omega
      subst e
      have hk : kR (racesF l) j (racesF l).length = kindR l j := rfl
      unfold j30_1
      simp only [go_sem, ↓reduceIte, Nat.reduceAdd, Nat.reduceMul, Nat.reduceSub, Nat.reduceLT, Nat.reduceLeDiff, Nat.reduceEqDiff, Int.reduceToNat, Int.reduceEq, Int.reduceLT, Int.reduceLE, reduceCtorEq, h2']
      unfold j30_2
      rw [hk]
      by_cases h3 : 0 < kindR l j
      · have e : fullL l (j + 1) = fullL l j ++ [⟨j, (l.getD j dEv.dft).obj, kindR l j⟩] := by rw [fullL, if_pos h3]
        simp only [go_sem, ↓reduceIte, Nat.reduceAdd, Nat.reduceMul, Nat.reduceSub, Nat.reduceLT, Nat.reduceLeDiff, Nat.reduceEqDiff, Int.reduceToNat, Int.reduceEq, Int.reduceLT, Int.reduceLE, reduceCtorEq, h1, h1', h3]
        unfold j30_3
        simp only [go_sem, ↓reduceIte, Nat.reduceAdd, Nat.reduceMul, Nat.reduceSub, Nat.reduceLT, Nat.reduceLeDiff, Nat.reduceEqDiff, Int.reduceToNat, Int.reduceEq, Int.reduceLT, Int.reduceLE, reduceCtorEq, hw]
        exact ⟨by omega, by omega, j + 1, by omega, by omega, ⟨rfl, by rw [e, List.length_append]; rfl⟩, by rw [e, List.map_append]; rfl⟩
      · have e : fullL l (j + 1) = fullL l j := by rw [fullL, if_neg h3, List.append_nil]
        simp only [go_sem, ↓reduceIte, Nat.reduceAdd, Nat.reduceMul, Nat.reduceSub, Nat.reduceLT, Nat.reduceLeDiff, Nat.reduceEqDiff, Int.reduceToNat, Int.reduceEq, Int.reduceLT, Int.reduceLE, reduceCtorEq, h1, h1', h3]
        unfold j30_3
        simp only [go_sem, ↓reduceIte, Nat.reduceAdd, Nat.reduceMul, Nat.reduceSub, Nat.reduceLT, Nat.reduceLeDiff, Nat.reduceEqDiff, Int.reduceToNat, Int.reduceEq, Int.reduceLT, Int.reduceLE, reduceCtorEq, hw]
        exact ⟨j + 1, by omega, by omega, ⟨rfl, by rw [e]⟩, by rw [e]⟩
  · have h1' : ¬ (j : Int) < l.length := by omega
    have e : j = l.length := by omega
    subst e
    unfold j30_4
    simp only [go_sem, ↓reduceIte, Nat.reduceAdd, Nat.reduceMul, Nat.reduceSub, Nat.reduceLT, Nat.reduceLeDiff, Nat.reduceEqDiff, Int.reduceToNat, Int.reduceEq, Int.reduceLT, Int.reduceLE, reduceCtorEq, h1']
    unfold j30_7
    simp only [go_sem, ↓reduceIte, Nat.reduceAdd, Nat.reduceMul, Nat.reduceSub, Nat.reduceLT, Nat.reduceLeDiff, Nat.reduceEqDiff, Int.reduceToNat, Int.reduceEq, Int.reduceLT, Int.reduceLE, reduceCtorEq]
    refine loopF Nat (fun i => [.int .i64 i]) (fun i => [.blk 64 (dClk.emb fun _ => 0), .blk 64 (dClk.emb fun _ => 0), .vec 69 4 ((racesF l).map dRc.emb), .vec 60 3 ((fullL l l.length).map dFl.emb), .blk 64 (dClk.emb (ownC l i)), .blk 64 (dClk.emb (lastC l 1 x i)), .blk 64 (dClk.emb (lastC l 2 x i))]) (fun i => i ≤ l.length) (fun i => l.length - i) 0 (by omega) ?_ rfl ?_
    · simp only [go_sem, ↓reduceIte, Nat.reduceAdd, Nat.reduceMul, Nat.reduceSub, Nat.reduceLT, Nat.reduceLeDiff, Nat.reduceEqDiff, Int.reduceToNat, Int.reduceEq, Int.reduceLT, Int.reduceLE, reduceCtorEq]
    clear h1 h1' hj
    intro i hi
    by_cases h1 : i < l.length
    · have h1' : (i : Int) < l.length := by omega
      have hw : IntKind.i64.wrap ((i : Int) + 1) = ((i + 1 : Nat) : Int) := IntWalk.i64_in _ (by omega)
      obtain ⟨b1, b2, b3, b4⟩ := (isEv_iff _).1 (ok_isEv hok i h1)
      obtain ⟨t, ht, ht6⟩ : ∃ t : Nat, (l.getD i dEv.dft).thr = t ∧ t < 6 := ⟨(l.getD i dEv.dft).thr.toNat, by omega, by omega⟩
      have o1 : ∀ b, isSt (l.getD i dEv.dft) = b → ownC l (i + 1) = if b = true then bumpC (ownC l i) t (IntKind.i64.wrap (ownC l i t + 1)) else ownC l i := fun b h => by rw [ownC, h, ht, Int.toNat_natCast]
      have r1 : ∀ k, lastC l k x (i + 1) = if (l.getD i dEv.dft).kind = k ∧ (l.getD i dEv.dft).obj = x then bumpC (lastC l k x i) t (IntKind.i64.wrap (ownC l i t + 1)) else lastC l k x i := fun k => by rw [lastC, ht, Int.toNat_natCast]
      cases hs : isSt (l.getD i dEv.dft) with
      | true =>
        have hs' := hs
        unfold isSt at hs'
        unfold j30_5
        simp only [go_sem, ↓reduceIte, Nat.reduceAdd, Nat.reduceMul, Nat.reduceSub, Nat.reduceLT, Nat.reduceLeDiff, Nat.reduceEqDiff, Int.reduceToNat, Int.reduceEq, Int.reduceLT, Int.reduceLE, reduceCtorEq, h1, h1', hw, hs', ht, ht6]
        have hk : (l.getD i dEv.dft).kind = 4 ∨ (l.getD i dEv.dft).kind = 5 ∨ (l.getD i dEv.dft).kind = 8 := by
          simp only [Bool.or_eq_true, decide_eq_true_eq, or_assoc] at hs'; exact hs'
        have e1 := o1 true hs
        have e2 := r1 1
        have e3 := r1 2
        rw [if_pos rfl] at e1
        rw [if_neg (by omega)] at e2 e3
        exact ⟨by omega, ⟨by omega, by omega⟩, ⟨by omega, by omega⟩, i + 1, by omega, by omega, rfl, by rw [e1, e2, e3]; rfl⟩
      | false =>
        have hs' := hs
        unfold isSt at hs'
        by_cases k1 : (l.getD i dEv.dft).kind = 1 ∧ (l.getD i dEv.dft).obj = x
        · obtain ⟨k1, kx⟩ := k1
          unfold j30_5
          simp only [go_sem, ↓reduceIte, Nat.reduceAdd, Nat.reduceMul, Nat.reduceSub, Nat.reduceLT, Nat.reduceLeDiff, Nat.reduceEqDiff, Int.reduceToNat, Int.reduceEq, Int.reduceLT, Int.reduceLE, reduceCtorEq, h1, h1', hw, hs', k1, kx, ht, ht6]
          have e1 := o1 false hs
          have e2 := r1 1
          have e3 := r1 2
          rw [if_neg (by simp)] at e1
          rw [if_pos ⟨k1, kx⟩] at e2
          rw [if_neg (by omega)] at e3
          exact ⟨by omega, ⟨by omega, by omega⟩, ⟨by omega, by omega⟩, i + 1, by omega, by omega, rfl, by rw [e1, e2, e3]; rfl⟩
        · have hk1 : (decide ((l.getD i dEv.dft).kind = 1) && decide ((l.getD i dEv.dft).obj = x)) = false := by
            rw [← Bool.not_eq_true, Bool.and_eq_true, decide_eq_true_eq, decide_eq_true_eq]; exact k1
          by_cases k2 : (l.getD i dEv.dft).kind = 2 ∧ (l.getD i dEv.dft).obj = x
          · have hk2 : (decide ((l.getD i dEv.dft).kind = 2) && decide ((l.getD i dEv.dft).obj = x)) = true := by
              rw [Bool.and_eq_true, decide_eq_true_eq, decide_eq_true_eq]; exact k2
            unfold j30_5
            simp only [go_sem, ↓reduceIte, Nat.reduceAdd, Nat.reduceMul, Nat.reduceSub, Nat.reduceLT, Nat.reduceLeDiff, Nat.reduceEqDiff, Int.reduceToNat, Int.reduceEq, Int.reduceLT, Int.reduceLE, reduceCtorEq, h1, h1', hw, hs', hk1, hk2, ht, ht6]
            have e1 := o1 false hs
            have e2 := r1 1
            have e3 := r1 2
            rw [if_neg (by simp)] at e1
            rw [if_neg k1] at e2
            rw [if_pos k2] at e3
            exact ⟨by omega, ⟨by omega, by omega⟩, ⟨by omega, by omega⟩, i + 1, by omega, by omega, rfl, by rw [e1, e2, e3]; rfl⟩
          · have hk2 : (decide ((l.getD i dEv.dft).kind = 2) && decide ((l.getD i dEv.dft).obj = x)) = false := by
              rw [← Bool.not_eq_true, Bool.and_eq_true, decide_eq_true_eq, decide_eq_true_eq]; exact k2
            unfold j30_5
            simp only [go_sem, ↓reduceIte, Nat.reduceAdd, Nat.reduceMul, Nat.reduceSub, Nat.reduceLT, Nat.reduceLeDiff, Nat.reduceEqDiff, Int.reduceToNat, Int.reduceEq, Int.reduceLT, Int.reduceLE, reduceCtorEq, h1, h1', hw, hs', hk1, hk2, ht, ht6]
            have e1 := o1 false hs
            have e2 := r1 1
            have e3 := r1 2
            rw [if_neg (by simp)] at e1
            rw [if_neg k1] at e2
            rw [if_neg k2] at e3
            exact ⟨by omega, i + 1, by omega, by omega, rfl, by rw [e1, e2, e3]⟩
    · have h1' : ¬ (i : Int) < l.length := by omega
      have e : i = l.length := by omega
      subst e
      unfold j30_5
      simp only [go_sem, ↓reduceIte, Nat.reduceAdd, Nat.reduceMul, Nat.reduceSub, Nat.reduceLT, Nat.reduceLeDiff, Nat.reduceEqDiff, Int.reduceToNat, Int.reduceEq, Int.reduceLT, Int.reduceLE, reduceCtorEq, h1']
      unfold j30_6
      simp only [go_sem, ↓reduceIte, Nat.reduceAdd, Nat.reduceMul, Nat.reduceSub, Nat.reduceLT, Nat.reduceLeDiff, Nat.reduceEqDiff, Int.reduceToNat, Int.reduceEq, Int.reduceLT, Int.reduceLE, reduceCtorEq, tszC]
end Go.Proofs.Ytafcmgfmmlnngaa.Fu
