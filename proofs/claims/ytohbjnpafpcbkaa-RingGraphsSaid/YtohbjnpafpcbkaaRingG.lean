/- The graph of locks: ring.Graph, and its reference. Conditions: none. -/
import Derived.Test.YtohbjnpafpcbkaaPairsR
import Derived.Test.YtohbjnpafpcbkaaMapP
import Derived.Test.YtohbjnpafpcbkaaTraceH
set_option linter.unusedSimpArgs false
set_option linter.unusedVariables false
set_option maxRecDepth 100000
open Go Go.Sx Go.Proofs
namespace Go.Proofs.Ytohbjnpafpcbkaa.Gr
open Go.Proofs.Ytohbjnpafpcbkaa.D Go.Proofs.Ytohbjnpafpcbkaa.Tr Go.Proofs.Ytohbjnpafpcbkaa.Ps
/-- Does the event at i acquire one while its thread has the other? -/
def gE (l : List Ev) (a b : Nat) (i : Nat) : Bool := decide ((l.getD i dEv.dft).kind = 3) && decide ((l.getD i dEv.dft).obj = b) && decide (Tr.ownR (l.take i) a = (l.getD i dEv.dft).thr)
/-- Of the first n. -/
def gP (l : List Ev) (a b : Nat) : Nat → Bool
  | 0 => false
  | i + 1 => gP l a b i || gE l a b i
def gQ (l : List Ev) (a b : Nat) : Bool := gP l a b l.length
theorem gP_of {l : List Ev} {a b i : Nat} (h : gE l a b i = true) : ∀ n, i < n → gP l a b n = true
  | 0, h => by omega
  | n + 1, hn => by
    rw [gP]
    by_cases e : i = n
    · subst e; simp [h]
    · rw [gP_of h n (by omega)]; rfl
def j65_1 : JC :=
  (.seq (.ops <|
  qo 11 (.cmp .lss (.t 10) (.t 9)) <|
  .nil)
  (.seq (.cond (.t 11)
  .skip
  (.exit 0))
  (.seq (.block 1 (.seq (.ops <|
  qo 12 (.mv (.t 10)) <|
  qo 13 (.is 3 (.t 8) (.t 10)) <|
  eo 14 (.load 3 true (.t 13)) <|
  eo 7 (.alloc 54 (.agg [(.int .i64 0), (.int .i64 0), (.int .i64 0)])) <|
  qo 6 (.mv (.t 12)) <|
  en (.store 3 (.t 7) (.t 14)) <|
  .nil)
  (.prune [7, 1, 2, 6, 0, 10, 9, 8] (.seq (.dops <|
  qo 15 (.fa 0 0 (.t 7)) <|
  eo 16 (.load 1 false (.t 15)) <|
  qo 17 (.cmp .eql (.t 16) (I 3)) <|
  qo 18 (.mv (.t 17)) <|
  .prune [18, 7, 1, 2, 6, 0, 10, 9, 8] <|
  .sc false 23 18 (qo 19 (.fa 2 2 (.t 7)) <|
  eo 20 (.load 1 false (.t 19)) <|
  qo 21 (.mv (.t 1)) <|
  qo 22 (.cmp .eql (.t 20) (.t 21)) <|
  .nil) (.t 22) <|
  qo 24 (.mv (.t 23)) <|
  .sc false 33 24 (eo 25 (.load 1 false (.t 2)) <|
  qo 26 (.mv (.t 6)) <|
  qo 27 (.slc 3 (.t 25) none (some (.t 26)) none) <|
  qo 28 (.mv (.t 0)) <|
  eo 29 (.qcall 54 [(.t 27), (.t 28)]) <|
  qo 30 (.fa 1 1 (.t 7)) <|
  eo 31 (.load 1 false (.t 30)) <|
  qo 32 (.cmp .eql (.t 29) (.t 31)) <|
  .nil) (.t 32) <|
  .nil)
  (.prune [33, 10, 9, 8, 1, 2, 0] (.cond (.t 33)
  (.seq (.ops <|
  qo 5 (.mv (B true)) <|
  .nil)
  .ret)
  .skip))))))
  (.prune [10, 9, 8, 1, 2, 0] (.ops <|
  qo 34 (.ar .add (.t 10) (I 1)) <|
  qo 10 (.mv (.t 34)) <|
  .nil)))))
def j65_2 : JC :=
  (.prune [] (.seq (.ops <|
  qo 5 (.mv (B false)) <|
  .nil)
  .ret))
def j65 : JC :=
  (.seq (.ops <|
  qo 5 (.mv (B false)) <|
  .nil)
  (.seq (.seq (.ops <|
  eo 8 (.load 1 false (.t 2)) <|
  qo 9 (.len (.t 8)) <|
  qo 10 (.mv (I 0)) <|
  .nil)
  (.block 0 (.loop [9, 8, 1, 2, 0] [10] j65_1)))
  j65_2))
theorem c65 : fnIs Try.prog qall 65 = some (j65.flat, [.tmp 5], 35) := by kernel_rfl
theorem w65 : j65.wf 35 = true := by kernel_rfl
abbrev aL : DA (List Ev × Unit) := .one dEs.ref
def G1 (f : FuncId) (a : List SV) (m : List Res) : Sx.Call := (FH.rd 54 (.two dEs .int) (.one .int) (fun _ => True) (fun y => Tr.ownR y.1 y.2.1) FH.none) f a m
theorem G1_eq (f : FuncId) (a : List SV) (m : List Res) : G1 f a m = (FH.rd 54 (.two dEs .int) (.one .int) (fun _ => True) (fun y => Tr.ownR y.1 y.2.1) FH.none) f a m := nr rfl
theorem G1_ok : FHOK Try.prog G1 := FH.rd_ok (by kernel_rfl) (fun y _ => f_owner y.1 y.2.1) FH.none_ok
theorem f_RGraph1 (l : List Ev) (a b : Nat) : FnOK Try.prog 65 [.int .i64 a, .int .i64 b, .ref (dEs.emb l) [] 0] [] (.bool (gQ l a b)) [] := by
  refine fn_len fun hB => fn_walkF c65 w65 G1_ok rfl ?_
  simp only [go_sem, ↓reduceIte, Nat.reduceAdd, Nat.reduceMul, Nat.reduceSub, Nat.reduceLT, Nat.reduceLeDiff, Nat.reduceEqDiff, Int.reduceToNat, Int.reduceEq, Int.reduceLT, Int.reduceLE, reduceCtorEq] at hB
  unfold j65
  simp only [go_sem, ↓reduceIte, Nat.reduceAdd, Nat.reduceMul, Nat.reduceSub, Nat.reduceLT, Nat.reduceLeDiff, Nat.reduceEqDiff, Int.reduceToNat, Int.reduceEq, Int.reduceLT, Int.reduceLE, reduceCtorEq]
  refine loopF Nat (fun i => [.int .i64 i]) (fun _ => []) (fun i => i ≤ l.length ∧ gP l a b i = false) (fun i => l.length - i) 0 ⟨by omega, rfl⟩ ?_ rfl ?_
  · simp only [go_sem, ↓reduceIte, Nat.reduceAdd, Nat.reduceMul, Nat.reduceSub, Nat.reduceLT, Nat.reduceLeDiff, Nat.reduceEqDiff, Int.reduceToNat, Int.reduceEq, Int.reduceLT, Int.reduceLE, reduceCtorEq]
  rintro i ⟨hi, hinv⟩
  unfold j65_1
  simp only [go_sem, ↓reduceIte, Nat.reduceAdd, Nat.reduceMul, Nat.reduceSub, Nat.reduceLT, Nat.reduceLeDiff, Nat.reduceEqDiff, Int.reduceToNat, Int.reduceEq, Int.reduceLT, Int.reduceLE, reduceCtorEq, G1_eq]
  refine ⟨fun h1 => ?_, fun h1 => ?_⟩
  · have hw : IntKind.i64.wrap ((i : Int) + 1) = ((i + 1 : Nat) : Int) := IntWalk.i64_in _ (by omega)
    refine ⟨by omega, fun _ => ⟨by omega, by omega⟩, fun h2 => ?_, fun h2 => ⟨i + 1, ⟨by omega, ?_⟩, by omega, hw⟩⟩
    · exact (gP_of (i := i) h2 _ (by omega)).symm
    · rw [gP, hinv, gE, h2]; rfl
  · have e : i = l.length := by omega
    subst e
    unfold j65_2
    simp only [go_sem, ↓reduceIte, Nat.reduceAdd, Nat.reduceMul, Nat.reduceSub, Nat.reduceLT, Nat.reduceLeDiff, Nat.reduceEqDiff, Int.reduceToNat, Int.reduceEq, Int.reduceLT, Int.reduceLE, reduceCtorEq]
    exact hinv.symm

def j32 : JC :=
  (.seq (.ops <|
  eo 1 (.box 22 (.t 0)) <|
  qo 2 (.mv (.c .nils)) <|
  .nil)
  (.seq (.ops <|
  qo 3 (.mkfn 65 [(.t 1)]) <|
  eo 4 (.call 64 [(I 5), (.t 3)]) <|
  qo 2 (.mv (.t 4)) <|
  .nil)
  .ret))
theorem c32 : fnIs Try.prog qall 32 = some (j32.flat, [.tmp 2], 5) := by kernel_rfl
theorem w32 : j32.wf 5 = true := by kernel_rfl
def G2 (f : FuncId) (a : List SV) (m : List Res) : Sx.Call := (FH.mk 64 (.two .int (DT.clo 65 aL)) (fun z => z.1 = 5) (fun z => .vec 0 (allP (gQ z.2.1.1) 5 5).length) (fun z => [.vec 45 2 ((allP (gQ z.2.1.1) 5 5).map dPr.emb)]) FH.none) f a m
theorem G2_eq (f : FuncId) (a : List SV) (m : List Res) : G2 f a m = (FH.mk 64 (.two .int (DT.clo 65 aL)) (fun z => z.1 = 5) (fun z => .vec 0 (allP (gQ z.2.1.1) 5 5).length) (fun z => [.vec 45 2 ((allP (gQ z.2.1.1) 5 5).map dPr.emb)]) FH.none) f a m := nr rfl
theorem G2_ok : FHOK Try.prog G2 := FH.mk_ok (by kernel_rfl) (fun y _ => plainM (pv_vec _ _) ⟨plR_vec _ _ dPr _, trivial⟩) (fun y h => by
    obtain ⟨n, ⟨l, u⟩, v⟩ := y
    simp only at h
    subst h
    exact f_PairsOf 65 aL (l, ()) 5 (gQ l) (by omega) (by kernel_rfl) (fun i j hi hj => f_RGraph1 l i j)) FH.none_ok
theorem f_RGraph (l : List Ev) : FnOK Try.prog 32 [dEs.emb l] [] (.vec 0 (allP (gQ l) 5 5).length) [.vec 45 2 ((allP (gQ l) 5 5).map dPr.emb)] := by
  refine fn_walkF c32 w32 G2_ok rfl ?_
  unfold j32
  simp only [go_sem, ↓reduceIte, Nat.reduceAdd, Nat.reduceMul, Nat.reduceSub, Nat.reduceLT, Nat.reduceLeDiff, Nat.reduceEqDiff, Int.reduceToNat, Int.reduceEq, Int.reduceLT, Int.reduceLE, reduceCtorEq, G2_eq]
def j30_1 : JC :=
  (.seq (.ops <|
  qo 37 (.cmp .lss (.t 36) (I 5)) <|
  .nil)
  (.seq (.cond (.t 37)
  .skip
  (.exit 3))
  (.seq (.block 4 (.seq (.ops <|
  qo 38 (.mv (.t 36)) <|
  qo 39 (.ix 5 1 false (.t 35) (.t 36)) <|
  qo 10 (.mv (.t 38)) <|
  qo 11 (.mv (.t 39)) <|
  .nil)
  (.prune [11, 9, 6, 10, 36, 35, 7, 27, 26, 25] (.seq (.ops <|
  qo 40 (.mv (.t 11)) <|
  qo 41 (.fa 1 1 (.t 9)) <|
  eo 42 (.load 1 false (.t 41)) <|
  qo 43 (.ar .add (.t 42) (I 1)) <|
  qo 44 (.cmp .eql (.t 40) (.t 43)) <|
  .nil)
  (.prune [44, 6, 10, 9, 36, 35, 7, 27, 26, 25] (.cond (.t 44)
  (.ops <|
  qo 45 (.mv (.t 6)) <|
  qo 46 (.mv (.t 10)) <|
  qo 47 (.fa 2 2 (.t 9)) <|
  eo 48 (.load 1 false (.t 47)) <|
  qo 49 (.bld (.agg [(.int .i64 0), (.int .i64 0)]) [([.fld 0], 0, 1, (.t 46)), ([.fld 1], 1, 1, (.t 48))]) <|
  en (.mop (.put (.st [(.int .i64), (.int .i64)]) .bool) [(.t 45), (.t 49), (B true)]) <|
  .nil)
  .skip))))))
  (.prune [36, 35, 9, 6, 7, 27, 26, 25] (.ops <|
  qo 50 (.ar .add (.t 36) (I 1)) <|
  qo 36 (.mv (.t 50)) <|
  .nil)))))
def j30_2 : JC :=
  (.prune [9, 7, 27, 26, 25, 6] (.ops <|
  qo 51 (.fa 2 2 (.t 9)) <|
  eo 52 (.load 1 false (.t 51)) <|
  qo 53 (.fa 1 1 (.t 9)) <|
  eo 54 (.load 1 false (.t 53)) <|
  .prune [54, 7, 52, 27, 26, 25, 6] <|
  qo 55 (.ar .add (.t 54) (I 1)) <|
  qo 56 (.ia 5 1 (.t 7) (.t 52)) <|
  en (.store 1 (.t 56) (.t 55)) <|
  .nil))
def j30_3 : JC :=
  (.prune [27, 26, 25, 7, 6] (.ops <|
  qo 62 (.ar .add (.t 27) (I 1)) <|
  qo 27 (.mv (.t 62)) <|
  .nil))
def j30_4 : JC :=
  (.seq (.ops <|
  qo 28 (.cmp .lss (.t 27) (.t 26)) <|
  .nil)
  (.seq (.cond (.t 28)
  .skip
  (.exit 0))
  (.seq (.block 1 (.seq (.ops <|
  qo 29 (.is 3 (.t 25) (.t 27)) <|
  eo 30 (.load 3 true (.t 29)) <|
  eo 9 (.alloc 54 (.agg [(.int .i64 0), (.int .i64 0), (.int .i64 0)])) <|
  en (.store 3 (.t 9) (.t 30)) <|
  .nil)
  (.prune [9, 7, 6, 27, 26, 25] (.seq (.ops <|
  qo 31 (.fa 0 0 (.t 9)) <|
  eo 32 (.load 1 false (.t 31)) <|
  .nil)
  (.block 2 (.seq (.ops <|
  qo 34 (.cmp .eql (.t 32) (I 3)) <|
  qo 33 (.mv (.t 34)) <|
  .nil)
  (.prune [33, 7, 9, 6, 27, 26, 25, 32] (.cond (.t 33)
  (.seq (.seq (.ops <|
  eo 35 (.load 5 true (.t 7)) <|
  qo 36 (.mv (I 0)) <|
  .nil)
  (.prune [36, 35, 9, 6, 7, 27, 26, 25] (.block 3 (.loop [35, 9, 6, 7, 27, 26, 25] [36] j30_1))))
  j30_2)
  (.seq (.ops <|
  qo 58 (.cmp .eql (.t 32) (I 4)) <|
  qo 57 (.mv (.t 58)) <|
  .nil)
  (.prune [57, 9, 7, 27, 26, 25, 6] (.cond (.t 57)
  (.ops <|
  qo 59 (.fa 2 2 (.t 9)) <|
  eo 60 (.load 1 false (.t 59)) <|
  qo 61 (.ia 5 1 (.t 7) (.t 60)) <|
  en (.store 1 (.t 61) (I 0)) <|
  .nil)
  .skip)))))))))))
  j30_3)))
def j30_5 : JC :=
  (.seq (.ops <|
  qo 67 (.cmp .lss (.t 66) (I 5)) <|
  .nil)
  (.seq (.cond (.t 67)
  .skip
  (.exit 7))
  (.seq (.block 8 (.seq (.ops <|
  qo 68 (.mv (.t 66)) <|
  qo 14 (.mv (.t 68)) <|
  .nil)
  (.seq (.ops <|
  qo 69 (.mv (.t 13)) <|
  qo 70 (.mv (.t 14)) <|
  .prune [69, 70, 6, 12, 66, 13, 63] <|
  qo 71 (.bld (.agg [(.int .i64 0), (.int .i64 0)]) [([.fld 0], 0, 1, (.t 69)), ([.fld 1], 1, 1, (.t 70))]) <|
  eo 15 (.alloc 45 (.agg [(.int .i64 0), (.int .i64 0)])) <|
  en (.store 2 (.t 15) (.t 71)) <|
  .nil)
  (.prune [6, 15, 12, 66, 13, 63] (.seq (.ops <|
  qo 72 (.mv (.t 6)) <|
  eo 73 (.load 2 true (.t 15)) <|
  eo 74 (.mop (.get (.st [(.int .i64), (.int .i64)]) .bool (.bool false) false) [(.t 72), (.t 73)]) <|
  .nil)
  (.cond (.t 74)
  (.ops <|
  .prune [12, 15, 66, 13, 6, 63] <|
  qo 75 (.mv (.t 12)) <|
  eo 76 (.load 2 true (.t 15)) <|
  eo 77 (.bsl 45 2 1 (.agg [(.int .i64 0), (.int .i64 0)]) [(0, (.t 76))]) <|
  eo 78 (.app 45 2 16 (.t 75) (.t 77)) <|
  qo 12 (.mv (.t 78)) <|
  .nil)
  .skip))))))
  (.prune [66, 13, 6, 12, 63] (.ops <|
  qo 79 (.ar .add (.t 66) (I 1)) <|
  qo 66 (.mv (.t 79)) <|
  .nil)))))
def j30_6 : JC :=
  (.prune [63, 6, 12] (.ops <|
  qo 80 (.ar .add (.t 63) (I 1)) <|
  qo 63 (.mv (.t 80)) <|
  .nil))
def j30_7 : JC :=
  (.seq (.ops <|
  qo 64 (.cmp .lss (.t 63) (I 5)) <|
  .nil)
  (.seq (.cond (.t 64)
  .skip
  (.exit 5))
  (.seq (.block 6 (.seq (.ops <|
  qo 65 (.mv (.t 63)) <|
  qo 13 (.mv (.t 65)) <|
  .nil)
  (.seq (.ops <|
  qo 66 (.mv (I 0)) <|
  .nil)
  (.block 7 (.vecs 12 45 2 (.loop [13, 6, 63] [66, 12] j30_5))))))
  j30_6)))
def j30_8 : JC :=
  (.prune [12] (.seq (.ops <|
  qo 81 (.mv (.t 12)) <|
  qo 2 (.mv (.t 81)) <|
  qo 3 (.mv (I 0)) <|
  .nil)
  (.vecs 2 45 2 .ret)))
def j30_9 : JC :=
  (.prune [6] (.seq (.ops <|
  qo 12 (.mv (.c .nils)) <|
  .nil)
  (.seq (.seq (.ops <|
  qo 63 (.mv (I 0)) <|
  .nil)
  (.block 5 (.vecs 12 45 2 (.loop [6] [63, 12] j30_7))))
  j30_8)))
def j30 : JC :=
  (.seq (.ops <|
  qo 2 (.mv (.c .nils)) <|
  qo 3 (.mv (I 0)) <|
  .nil)
  (.seq (.seq (.ops <|
  qo 17 (.mv (.t 0)) <|
  eo 18 (.call 17 [(.t 17)]) <|
  qo 16 (.mv (.t 18)) <|
  qo 19 (.ext 0 (.t 16)) <|
  qo 20 (.ext 1 (.t 16)) <|
  qo 4 (.mv (.t 19)) <|
  qo 5 (.mv (.t 20)) <|
  .nil)
  (.seq (.ops <|
  qo 21 (.mv (.t 5)) <|
  qo 22 (.cmp .neq (.t 21) (I 0)) <|
  .nil)
  (.prune [22, 5, 0] (.cond (.t 22)
  (.seq (.ops <|
  qo 23 (.mv (.t 5)) <|
  qo 2 (.mv (.c .nils)) <|
  qo 3 (.mv (.t 23)) <|
  .nil)
  (.vecs 2 45 2 .ret))
  .skip))))
  (.prune [0] (.seq (.ops <|
  eo 24 (.mop (.make (.st [(.int .i64), (.int .i64)]) .bool) []) <|
  qo 6 (.mv (.t 24)) <|
  .nil)
  (.seq (.ops <|
  eo 7 (.alloc 94 (.arr 5 1 fun _ => (.int .i64 0))) <|
  .nil)
  (.seq (.seq (.ops <|
  qo 25 (.mv (.t 0)) <|
  qo 26 (.len (.t 25)) <|
  qo 27 (.mv (I 0)) <|
  .nil)
  (.block 0 (.loop [26, 25, 7, 6] [27] j30_4)))
  j30_9))))))
theorem c30 : fnIs Try.prog qall 30 = some (j30.flat, [.tmp 2, .tmp 3], 82) := by kernel_rfl
theorem w30 : j30.wf 82 = true := by kernel_rfl
def graphF (l : List Ev) : List Pr := if (playedF l).2.2 = 0 then allP (gQ l) 5 5 else []
def Gg (f : FuncId) (a : List SV) (m : List Res) : Sx.Call := (FH.rd 17 (.one dEs) (.two .int .int) (fun _ => True) (fun y => (playedF y.1).2) FH.none) f a m
theorem Gg_eq (f : FuncId) (a : List SV) (m : List Res) : Gg f a m = (FH.rd 17 (.one dEs) (.two .int .int) (fun _ => True) (fun y => (playedF y.1).2) FH.none) f a m := nr rfl
theorem Gg_ok : FHOK Try.prog Gg := FH.rd_ok (by kernel_rfl) (fun y _ => f_Check y.1) FH.none_ok
theorem f_Graph (l : List Ev) : FnOK Try.prog 30 [dEs.emb l] [] (.tup [.vec 0 (graphF l).length, .int .i64 (playedF l).2.2]) [.vec 45 2 ((graphF l).map dPr.emb)] := by
  refine fn_len fun hB => fn_walkF c30 w30 Gg_ok rfl ?_
  simp only [go_sem, ↓reduceIte, Nat.reduceAdd, Nat.reduceMul, Nat.reduceSub, Nat.reduceLT, Nat.reduceLeDiff, Nat.reduceEqDiff, Int.reduceToNat, Int.reduceEq, Int.reduceLT, Int.reduceLE, reduceCtorEq] at hB
  unfold j30
  simp only [go_sem, ↓reduceIte, Nat.reduceAdd, Nat.reduceMul, Nat.reduceSub, Nat.reduceLT, Nat.reduceLeDiff, Nat.reduceEqDiff, Int.reduceToNat, Int.reduceEq, Int.reduceLT, Int.reduceLE, reduceCtorEq, Gg_eq]
  refine ⟨fun h => by simp [graphF, h], fun h => ?_⟩
  have hok : (checkR l).2 = 0 := by rw [← err_same]; exact h
  have hl := ok_len hok
  refine loopF (Nat × List Pr) (fun i => [.int .i64 i.1]) (fun i => [.mp (.st [.int .i64, .int .i64]) .bool (setM dPr i.2), .blk 94 (.arr 5 1 fun k => .int .i64 (Tr.ownR (l.take i.1) k + 1))])
    (fun i => i.1 ≤ l.length ∧ ∀ a b : Nat, a < 5 → decide ((⟨a, b⟩ : Pr) ∈ i.2) = gP l a b i.1) (fun i => l.length - i.1) (0, []) ⟨by simp, fun a b _ => by simp [gP]⟩ ?_ rfl ?_
  · simp only [go_sem, ↓reduceIte, Nat.reduceAdd, Nat.reduceMul, Nat.reduceSub, Nat.reduceLT, Nat.reduceLeDiff, Nat.reduceEqDiff, Int.reduceToNat, Int.reduceEq, Int.reduceLT, Int.reduceLE, reduceCtorEq]
  rintro ⟨i, L⟩ ⟨hi, hinv⟩
  simp only at hi hinv
  unfold j30_4
  simp only [go_sem, ↓reduceIte, Nat.reduceAdd, Nat.reduceMul, Nat.reduceSub, Nat.reduceLT, Nat.reduceLeDiff, Nat.reduceEqDiff, Int.reduceToNat, Int.reduceEq, Int.reduceLT, Int.reduceLE, reduceCtorEq]
  refine ⟨fun h1 => ?_, fun h1 => ?_⟩
  · have hil : i < l.length := by omega
    have hev := (isEv_iff _).1 (ok_isEv hok i hil)
    have hgE : ∀ a b, gE l a b i = (decide ((l.getD i dEv.dft).kind = 3) && decide ((l.getD i dEv.dft).obj = b) && decide (Tr.ownR (l.take i) a = (l.getD i dEv.dft).thr)) := fun a b => rfl
    have hown : ∀ k : Nat, Tr.ownR (l.take (i + 1)) k = ownS k (Tr.ownR (l.take i) k) (l.getD i dEv.dft) := fun k => by rw [take_getD dEv.dft hil, ownR_snoc]
    generalize l.getD i dEv.dft = e at hev hgE hown ⊢
    obtain ⟨b1, b2, b3, b4⟩ := hev
    have hw : IntKind.i64.wrap ((i : Int) + 1) = ((i + 1 : Nat) : Int) := IntWalk.i64_in _ (by omega)
    have hthr : IntKind.i64.wrap (e.thr + 1) = e.thr + 1 := IntWalk.i64_in _ (by omega)
    have hm : ∀ (f g : Nat → Int) (X : List Pr), (∀ k, f k = g k) → [Res.mp (.st [.int .i64, .int .i64]) .bool (setM dPr X), Res.blk 94 (.arr 5 1 fun k => .int .i64 (f k))] = [Res.mp (.st [.int .i64, .int .i64]) .bool (setM dPr X), Res.blk 94 (.arr 5 1 fun k => .int .i64 (g k))] := fun f g X h => by rw [funext h]
    refine ⟨by omega, fun h3 => ?_, fun h3 => ⟨fun h4 => ?_, fun h4 => ?_⟩⟩
    · have b5 : e.obj < 5 := by simpa [many, h3] using b4
      refine loopF (Nat × List Pr) (fun j => [.int .i64 j.1]) (fun j => [.mp (.st [.int .i64, .int .i64]) .bool (setM dPr j.2), .blk 94 (.arr 5 1 fun k => .int .i64 (Tr.ownR (l.take i) k + 1)), .blk 54 (dEv.emb e)])
        (fun j => j.1 ≤ 5 ∧ ∀ a b : Nat, a < 5 → decide ((⟨a, b⟩ : Pr) ∈ j.2) = (gP l a b i || (decide (a < j.1) && gE l a b i))) (fun j => 5 - j.1) (0, L) ⟨by simp, fun a b ha => by simp [hinv a b ha]⟩ ?_ rfl ?_
      · simp only [go_sem, ↓reduceIte, Nat.reduceAdd, Nat.reduceMul, Nat.reduceSub, Nat.reduceLT, Nat.reduceLeDiff, Nat.reduceEqDiff, Int.reduceToNat, Int.reduceEq, Int.reduceLT, Int.reduceLE, reduceCtorEq]
      rintro ⟨k, L'⟩ ⟨hk, hinv'⟩
      simp only at hk hinv'
      unfold j30_1
      simp only [go_sem, ↓reduceIte, Nat.reduceAdd, Nat.reduceMul, Nat.reduceSub, Nat.reduceLT, Nat.reduceLeDiff, Nat.reduceEqDiff, Int.reduceToNat, Int.reduceEq, Int.reduceLT, Int.reduceLE, reduceCtorEq]
      rw [hthr]
      refine ⟨fun h4 => ⟨⟨by omega, by omega⟩, fun h5 => ⟨(k + 1, insM ⟨k, e.obj⟩ L'), ⟨by omega, fun a b ha => ?_⟩, by omega, IntWalk.i64_in _ (by omega), rfl⟩, fun h5 => ⟨(k + 1, L'), ⟨by omega, fun a b ha => ?_⟩, by omega, IntWalk.i64_in _ (by omega), rfl⟩⟩, fun h4 => ?_⟩
      · have h7 : Tr.ownR (l.take i) k = e.thr := by omega
        have h6 : decide ((⟨a, b⟩ : Pr) ∈ insM ⟨k, e.obj⟩ L') = (decide (a = k ∧ e.obj = (b : Int)) || decide ((⟨a, b⟩ : Pr) ∈ L')) := by
          rw [← Bool.decide_or]
          refine decide_eq_decide.2 ?_
          rw [mem_insM, Pr.mk.injEq]
          exact or_congr (and_congr (by omega) eq_comm) Iff.rfl
        rw [h6, hinv' a b ha]
        by_cases hak : a = k
        · subst hak
          by_cases hb : e.obj = (b : Int)
          · simp [hgE, h3, hb, h7]
          · simp [hgE, hb]
        · simp [hak, show (a < k + 1) = (a < k) from propext (by omega)]
      · have h7 : ¬ Tr.ownR (l.take i) k = e.thr := by omega
        rw [hinv' a b ha]
        by_cases hak : a = k
        · subst hak
          simp [hgE, h7]
        · simp [show (a < k + 1) = (a < k) from propext (by omega)]
      · have hk5 : k = 5 := by omega
        subst hk5
        unfold j30_2
        simp only [go_sem, ↓reduceIte, Nat.reduceAdd, Nat.reduceMul, Nat.reduceSub, Nat.reduceLT, Nat.reduceLeDiff, Nat.reduceEqDiff, Int.reduceToNat, Int.reduceEq, Int.reduceLT, Int.reduceLE, reduceCtorEq]
        rw [hthr]
        refine ⟨⟨by omega, by omega⟩, ?_⟩
        unfold j30_3
        simp only [go_sem, ↓reduceIte, Nat.reduceAdd, Nat.reduceMul, Nat.reduceSub, Nat.reduceLT, Nat.reduceLeDiff, Nat.reduceEqDiff, Int.reduceToNat, Int.reduceEq, Int.reduceLT, Int.reduceLE, reduceCtorEq]
        refine ⟨(i + 1, L'), ⟨by omega, fun a b ha => ?_⟩, by omega, hw, ?_⟩
        · rw [hinv' a b ha, gP]; simp [ha]
        · refine hm _ _ _ fun k => ?_
          rw [hown, ownS, h3]
          by_cases hk : k = e.obj.toNat
          · rw [if_pos hk, if_neg (by omega), if_pos (by omega)]
          · rw [if_neg hk, if_neg (by omega), if_neg (by omega)]
    · have b5 : e.obj < 5 := by simpa [many, h4] using b4
      refine ⟨⟨by omega, by omega⟩, ?_⟩
      unfold j30_3
      simp only [go_sem, ↓reduceIte, Nat.reduceAdd, Nat.reduceMul, Nat.reduceSub, Nat.reduceLT, Nat.reduceLeDiff, Nat.reduceEqDiff, Int.reduceToNat, Int.reduceEq, Int.reduceLT, Int.reduceLE, reduceCtorEq]
      refine ⟨(i + 1, L), ⟨by omega, fun a b ha => ?_⟩, by omega, hw, ?_⟩
      · rw [hinv a b ha, gP, hgE]; simp [h3]
      · refine hm _ _ _ fun k => ?_
        rw [hown, ownS, h4]
        by_cases hk : k = e.obj.toNat
        · rw [if_pos hk, if_pos (by omega)]; rfl
        · rw [if_neg hk, if_neg (by omega), if_neg (by omega)]
    · unfold j30_3
      simp only [go_sem, ↓reduceIte, Nat.reduceAdd, Nat.reduceMul, Nat.reduceSub, Nat.reduceLT, Nat.reduceLeDiff, Nat.reduceEqDiff, Int.reduceToNat, Int.reduceEq, Int.reduceLT, Int.reduceLE, reduceCtorEq]
      refine ⟨(i + 1, L), ⟨by omega, fun a b ha => ?_⟩, by omega, hw, ?_⟩
      · rw [hinv a b ha, gP, hgE]; simp [h3]
      · refine hm _ _ _ fun k => ?_
        rw [hown, ownS, if_neg (fun h => h4 h.2), if_neg (fun h => h3 h.2)]
  · have hil : i = l.length := by omega
    subst hil
    unfold j30_9
    simp only [go_sem, ↓reduceIte, Nat.reduceAdd, Nat.reduceMul, Nat.reduceSub, Nat.reduceLT, Nat.reduceLeDiff, Nat.reduceEqDiff, Int.reduceToNat, Int.reduceEq, Int.reduceLT, Int.reduceLE, reduceCtorEq]
    refine loopF Nat (fun i => [.int .i64 i, .vec 2 (allP (gQ l) 5 i).length]) (fun i => [.mp (.st [.int .i64, .int .i64]) .bool (setM dPr L), .blk 94 (.arr 5 1 fun k => .int .i64 (Tr.ownR (l.take l.length) k + 1)), .vec 45 2 ((allP (gQ l) 5 i).map dPr.emb)]) (fun i => i ≤ 5) (fun i => 5 - i) 0 (by omega) ?_ rfl ?_
    · simp only [go_sem, ↓reduceIte, Nat.reduceAdd, Nat.reduceMul, Nat.reduceSub, Nat.reduceLT, Nat.reduceLeDiff, Nat.reduceEqDiff, Int.reduceToNat, Int.reduceEq, Int.reduceLT, Int.reduceLE, reduceCtorEq]
      rfl
    intro i hi5
    unfold j30_7
    simp only [go_sem, ↓reduceIte, Nat.reduceAdd, Nat.reduceMul, Nat.reduceSub, Nat.reduceLT, Nat.reduceLeDiff, Nat.reduceEqDiff, Int.reduceToNat, Int.reduceEq, Int.reduceLT, Int.reduceLE, reduceCtorEq]
    have hb1 := allP_len (gQ l) 5 i
    refine ⟨fun h2 => ?_, fun h2 => ?_⟩
    · refine loopF Nat (fun j => [.int .i64 j, .vec 2 (allP (gQ l) 5 i ++ rowP (gQ l) i j).length]) (fun j => [.mp (.st [.int .i64, .int .i64]) .bool (setM dPr L), .blk 94 (.arr 5 1 fun k => .int .i64 (Tr.ownR (l.take l.length) k + 1)), .vec 45 2 ((allP (gQ l) 5 i ++ rowP (gQ l) i j).map dPr.emb)]) (fun j => j ≤ 5) (fun j => 5 - j) 0 (by omega) ?_ ?_ ?_
      · simp only [go_sem, ↓reduceIte, Nat.reduceAdd, Nat.reduceMul, Nat.reduceSub, Nat.reduceLT, Nat.reduceLeDiff, Nat.reduceEqDiff, Int.reduceToNat, Int.reduceEq, Int.reduceLT, Int.reduceLE, reduceCtorEq]
        simp [rowP]
      · simp [rowP]
      intro j hj
      unfold j30_5
      simp only [go_sem, ↓reduceIte, Nat.reduceAdd, Nat.reduceMul, Nat.reduceSub, Nat.reduceLT, Nat.reduceLeDiff, Nat.reduceEqDiff, Int.reduceToNat, Int.reduceEq, Int.reduceLT, Int.reduceLE, reduceCtorEq]
      have hb2 := rowP_len (gQ l) i j
      have hq : (⟨(i : Int), (j : Int)⟩ : Pr) ∈ L ↔ gQ l i j = true := by rw [gQ, ← hinv i j (by omega)]; simp
      refine ⟨fun h3 => ⟨fun h4 => ⟨by simp only [List.length_append, List.length_map]; omega, j + 1, by omega, by omega, ⟨IntWalk.i64_in _ (by omega), ?_⟩, ?_⟩, fun h4 => ⟨j + 1, by omega, by omega, ⟨IntWalk.i64_in _ (by omega), ?_⟩, ?_⟩⟩, fun h3 => ?_⟩
      · simp [rowP, hq.1 h4, Nat.add_assoc]
      · simp [rowP, hq.1 h4, pr_emb]
      · simp [rowP, show gQ l i j = false by simpa using fun e => h4 (hq.2 e), Nat.add_assoc]
      · simp [rowP, show gQ l i j = false by simpa using fun e => h4 (hq.2 e), Nat.add_assoc]
      · have e : j = 5 := by omega
        subst e
        unfold j30_6
        simp only [go_sem, ↓reduceIte, Nat.reduceAdd, Nat.reduceMul, Nat.reduceSub, Nat.reduceLT, Nat.reduceLeDiff, Nat.reduceEqDiff, Int.reduceToNat, Int.reduceEq, Int.reduceLT, Int.reduceLE, reduceCtorEq]
        exact ⟨i + 1, by omega, by omega, ⟨IntWalk.i64_in _ (by omega), rfl⟩, by rw [allP, List.map_append]⟩
    · have e : i = 5 := by omega
      subst e
      unfold j30_8
      simp only [go_sem, ↓reduceIte, Nat.reduceAdd, Nat.reduceMul, Nat.reduceSub, Nat.reduceLT, Nat.reduceLeDiff, Nat.reduceEqDiff, Int.reduceToNat, Int.reduceEq, Int.reduceLT, Int.reduceLE, reduceCtorEq]
      simp [graphF, h]
end Go.Proofs.Ytohbjnpafpcbkaa.Gr
