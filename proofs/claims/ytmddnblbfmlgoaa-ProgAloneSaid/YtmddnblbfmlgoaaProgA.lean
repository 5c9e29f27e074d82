/- prog.Alone and its reference. Conditions: none. -/
import Derived.Test.YtmddnblbfmlgoaaProgC
import Derived.Test.YtmddnblbfmlgoaaPairsR
import Derived.Test.YtmddnblbfmlgoaaEqs
set_option linter.unusedSimpArgs false
set_option linter.unusedVariables false
set_option maxRecDepth 100000
open Go Go.Sx Go.Proofs
namespace Go.Proofs.Ytmddnblbfmlgoaa.Pg
open Go.Proofs.Ytmddnblbfmlgoaa.D Go.Proofs.Ytmddnblbfmlgoaa.Ps Go.Proofs.Ytmddnblbfmlgoaa.Eqs
/-- Whether a lock is held behind the first i. -/
def heldF (l : List PO) (k : Int) : Nat → Bool
  | 0 => false
  | i + 1 => if ((l.getD i dOp.dft).kind = 4 ∨ (l.getD i dOp.dft).kind = 5) ∧ (l.getD i dOp.dft).obj = k then decide ((l.getD i dOp.dft).kind = 4) else heldF l k i
/-- Whether one is acquired with another, in the first i. -/
def withF (l : List PO) (a b : Int) : Nat → Bool
  | 0 => false
  | i + 1 => withF l a b i || (decide ((l.getD i dOp.dft).kind = 4) && decide ((l.getD i dOp.dft).obj = b) && (heldF l a i && !heldF l b i))
def wP (l : List PO) (a b : Nat) : Bool := withF l a b l.length
theorem with_of {l : List PO} {a b : Int} {i : Nat} (h1 : (l.getD i dOp.dft).kind = 4) (h2 : (l.getD i dOp.dft).obj = b) (h3 : heldF l a i = true) (h4 : heldF l b i = false) : ∀ n, i < n → withF l a b n = true
  | 0, h => by omega
  | n + 1, h => by
    rw [withF]
    by_cases e : i = n
    · subst e; simp only [h1, h2, h3, h4, decide_true, Bool.and_true, Bool.not_false, Bool.or_true]
    · rw [with_of h1 h2 h3 h4 n (by omega)]; rfl
theorem held_step {l : List PO} {j : Nat} {x : Int} (k : (l.getD j dOp.dft).kind = 4 ∨ (l.getD j dOp.dft).kind = 5) : heldF l x (j + 1) = if (l.getD j dOp.dft).obj = x then decide ((l.getD j dOp.dft).kind = 4) else heldF l x j := by
  rw [heldF]
  by_cases h : (l.getD j dOp.dft).obj = x
  · rw [if_pos ⟨k, h⟩, if_pos h]
  · rw [if_neg (fun e => h e.2), if_neg h]
theorem held_skip {l : List PO} {j : Nat} {x : Int} (k4 : (l.getD j dOp.dft).kind ≠ 4) (k5 : (l.getD j dOp.dft).kind ≠ 5) : heldF l x (j + 1) = heldF l x j := by
  rw [heldF, if_neg (fun e => e.1.elim k4 k5)]
theorem with_skip {l : List PO} {j : Nat} {a b : Int} (k4 : (l.getD j dOp.dft).kind ≠ 4) : withF l a b (j + 1) = withF l a b j := by
  rw [withF, decide_eq_false k4]; simp
theorem upd_row (n w : Nat) (f : Nat → Nat → Bool) (i : Nat) (g : Nat → Bool) : updS (fun k => SV.arr n w fun j => .bool (f k j)) i (.arr n w fun j => .bool (g j)) = fun k => SV.arr n w fun j => .bool (if k = i then g j else f k j) := by
  funext k; unfold updS; split <;> rfl
def j55_1 : JC :=
  (.seq (.ops <|
  qo 33 (.cmp .lss (.t 32) (.t 31)) <|
  .nil)
  (.prune [33, 30, 32, 0, 1, 31, 14, 13, 12, 2, 9, 8] (.seq (.cond (.t 33)
  .skip
  (.exit 2))
  (.prune [30, 32, 0, 1, 31, 14, 13, 12, 2, 9, 8] (.seq (.block 3 (.seq (.ops <|
  qo 34 (.is 3 (.t 30) (.t 32)) <|
  eo 35 (.load 3 true (.t 34)) <|
  eo 11 (.alloc 75 (.agg [(.int .i64 0), (.int .i64 0), (.int .i64 0)])) <|
  en (.store 3 (.t 11) (.t 35)) <|
  .nil)
  (.prune [11, 0, 1, 32, 31, 30, 14, 13, 12, 2, 9, 8] (.seq (.ops <|
  qo 36 (.fa 0 0 (.t 11)) <|
  eo 37 (.load 1 false (.t 36)) <|
  qo 38 (.cmp .eql (.t 37) (I 4)) <|
  qo 39 (.mv (.t 38)) <|
  .prune [39, 11, 0, 1, 32, 31, 30, 14, 13, 12, 2, 9, 8] <|
  .sc true 43 39 (qo 40 (.fa 0 0 (.t 11)) <|
  eo 41 (.load 1 false (.t 40)) <|
  qo 42 (.cmp .eql (.t 41) (I 5)) <|
  .nil) (.t 42) <|
  .nil)
  (.prune [43, 11, 0, 1, 32, 31, 30, 14, 13, 12, 2, 9, 8] (.cond (.t 43)
  (.seq (.seq (.ops <|
  qo 44 (.fa 1 1 (.t 11)) <|
  eo 45 (.load 1 false (.t 44)) <|
  qo 46 (.mv (.t 0)) <|
  qo 47 (.cmp .eql (.t 45) (.t 46)) <|
  .nil)
  (.prune [47, 11, 1, 32, 31, 30, 0, 14, 13, 12, 2, 9, 8] (.cond (.t 47)
  (.ops <|
  qo 48 (.fa 0 0 (.t 11)) <|
  eo 49 (.load 1 false (.t 48)) <|
  qo 50 (.cmp .eql (.t 49) (I 4)) <|
  qo 8 (.mv (.t 50)) <|
  .nil)
  .skip)))
  (.prune [11, 1, 32, 31, 30, 0, 8, 14, 13, 12, 2, 9] (.seq (.ops <|
  qo 51 (.fa 1 1 (.t 11)) <|
  eo 52 (.load 1 false (.t 51)) <|
  qo 53 (.mv (.t 1)) <|
  qo 54 (.cmp .eql (.t 52) (.t 53)) <|
  .nil)
  (.prune [54, 11, 32, 31, 30, 0, 1, 8, 14, 13, 12, 2, 9] (.cond (.t 54)
  (.ops <|
  qo 55 (.fa 0 0 (.t 11)) <|
  .prune [55, 32, 31, 30, 0, 1, 8, 14, 13, 12, 2] <|
  eo 56 (.load 1 false (.t 55)) <|
  qo 57 (.cmp .eql (.t 56) (I 4)) <|
  qo 9 (.mv (.t 57)) <|
  .nil)
  .skip)))))
  .skip))))))
  (.prune [32, 31, 30, 0, 1, 8, 9, 14, 13, 12, 2] (.ops <|
  qo 58 (.ar .add (.t 32) (I 1)) <|
  qo 32 (.mv (.t 58)) <|
  .nil)))))))
def j55_2 : JC :=
  (.prune [8, 9, 14, 13, 12, 1, 2, 0] (.seq (.ops <|
  qo 59 (.mv (.t 8)) <|
  qo 60 (.mv (.t 59)) <|
  .sc false 63 60 (qo 61 (.mv (.t 9)) <|
  qo 62 (.nt (.t 61)) <|
  .nil) (.t 62) <|
  .nil)
  (.prune [63, 14, 13, 12, 1, 2, 0] (.cond (.t 63)
  (.seq (.ops <|
  qo 5 (.mv (B true)) <|
  .nil)
  .ret)
  .skip))))
def j55_3 : JC :=
  (.prune [14, 13, 12, 1, 2, 0] (.ops <|
  qo 64 (.ar .add (.t 14) (I 1)) <|
  qo 14 (.mv (.t 64)) <|
  .nil))
def j55_4 : JC :=
  (.seq (.ops <|
  qo 15 (.cmp .lss (.t 14) (.t 13)) <|
  .nil)
  (.seq (.cond (.t 15)
  .skip
  (.exit 0))
  (.seq (.block 1 (.seq (.ops <|
  qo 16 (.mv (.t 14)) <|
  qo 17 (.is 3 (.t 12) (.t 14)) <|
  eo 18 (.load 3 true (.t 17)) <|
  eo 7 (.alloc 75 (.agg [(.int .i64 0), (.int .i64 0), (.int .i64 0)])) <|
  qo 6 (.mv (.t 16)) <|
  en (.store 3 (.t 7) (.t 18)) <|
  .nil)
  (.prune [7, 1, 14, 13, 12, 2, 0, 6] (.seq (.seq (.ops <|
  qo 19 (.fa 0 0 (.t 7)) <|
  eo 20 (.load 1 false (.t 19)) <|
  qo 21 (.cmp .neq (.t 20) (I 4)) <|
  qo 22 (.mv (.t 21)) <|
  .prune [22, 7, 1, 14, 13, 12, 2, 0, 6] <|
  .sc true 27 22 (qo 23 (.fa 1 1 (.t 7)) <|
  eo 24 (.load 1 false (.t 23)) <|
  qo 25 (.mv (.t 1)) <|
  qo 26 (.cmp .neq (.t 24) (.t 25)) <|
  .nil) (.t 26) <|
  .nil)
  (.cond (.t 27)
  (.exit 1)
  .skip))
  (.prune [2, 6, 0, 1, 14, 13, 12] (.seq (.ops <|
  qo 8 (.mv (B false)) <|
  qo 9 (.mv (B false)) <|
  .nil)
  (.seq (.seq (.ops <|
  eo 28 (.load 1 false (.t 2)) <|
  qo 29 (.mv (.t 6)) <|
  qo 30 (.slc 3 (.t 28) none (some (.t 29)) none) <|
  qo 31 (.len (.t 30)) <|
  qo 32 (.mv (I 0)) <|
  .nil)
  (.prune [32, 31, 30, 0, 1, 8, 9, 14, 13, 12, 2] (.block 2 (.loop [31, 30, 0, 1, 14, 13, 12, 2] [32, 8, 9] j55_1))))
  j55_2)))))))
  j55_3)))
def j55_5 : JC :=
  (.prune [] (.seq (.ops <|
  qo 5 (.mv (B false)) <|
  .nil)
  .ret))
def j55 : JC :=
  (.seq (.ops <|
  qo 5 (.mv (B false)) <|
  .nil)
  (.seq (.seq (.ops <|
  eo 12 (.load 1 false (.t 2)) <|
  qo 13 (.len (.t 12)) <|
  qo 14 (.mv (I 0)) <|
  .nil)
  (.block 0 (.loop [13, 12, 1, 2, 0] [14] j55_4)))
  j55_5))
theorem c55 : fnIs Try.prog qall 55 = some (j55.flat, [.tmp 5], 65) := by kernel_rfl
theorem w55 : j55.wf 65 = true := by kernel_rfl
abbrev aOps : DA (List PO × Unit) := .one (DT.list 3 dOp).ref
theorem f_RAlone1 (l : List PO) (a b : Nat) : FnOK Try.prog 55 [.int .i64 a, .int .i64 b, .ref ((DT.list 3 dOp).emb l) [] 0] [] (.bool (wP l a b)) [] := by
  refine fn_len fun hB => fn_walkF c55 w55 FH.none_ok rfl ?_
  simp only [go_sem, ↓reduceIte, Nat.reduceAdd, Nat.reduceMul, Nat.reduceSub, Nat.reduceLT, Nat.reduceLeDiff, Nat.reduceEqDiff, Int.reduceToNat, Int.reduceEq, Int.reduceLT, Int.reduceLE, reduceCtorEq] at hB
  unfold j55
  simp only [go_sem, ↓reduceIte, Nat.reduceAdd, Nat.reduceMul, Nat.reduceSub, Nat.reduceLT, Nat.reduceLeDiff, Nat.reduceEqDiff, Int.reduceToNat, Int.reduceEq, Int.reduceLT, Int.reduceLE, reduceCtorEq]
  refine loopF Nat (fun i => [.int .i64 i]) (fun _ => []) (fun i => i ≤ l.length ∧ withF l a b i = false) (fun i => l.length - i) 0 ⟨by omega, rfl⟩ ?_ rfl ?_
  · simp only [go_sem, ↓reduceIte, Nat.reduceAdd, Nat.reduceMul, Nat.reduceSub, Nat.reduceLT, Nat.reduceLeDiff, Nat.reduceEqDiff, Int.reduceToNat, Int.reduceEq, Int.reduceLT, Int.reduceLE, reduceCtorEq]
  rintro i ⟨hi, hinv⟩
  by_cases h1 : i < l.length
  · have h1' : (i : Int) < l.length := by omega
    have hw : IntKind.i64.wrap ((i : Int) + 1) = ((i + 1 : Nat) : Int) := IntWalk.i64_in _ (by omega)
    have hstep : ∀ x, x = (decide ((l.getD i dOp.dft).kind = 4) && decide ((l.getD i dOp.dft).obj = b) && (heldF l a i && !heldF l b i)) → withF l a b (i + 1) = x := by
      intro x hx
      rw [withF, hinv, ← hx, Bool.false_or]
    by_cases k4 : (l.getD i dOp.dft).kind = 4
    · by_cases kb : (l.getD i dOp.dft).obj = b
      · unfold j55_4
        simp only [go_sem, ↓reduceIte, Nat.reduceAdd, Nat.reduceMul, Nat.reduceSub, Nat.reduceLT, Nat.reduceLeDiff, Nat.reduceEqDiff, Int.reduceToNat, Int.reduceEq, Int.reduceLT, Int.reduceLE, reduceCtorEq, h1, h1', hw, k4, kb]
        refine ⟨by omega, by omega, ⟨by omega, by omega⟩, ?_⟩
        have hlt : (l.take i).length = i := by rw [List.length_take]; omega
        refine loopF Nat (fun j => [.int .i64 j, .bool (heldF l a j), .bool (heldF l b j)]) (fun _ => [.blk 75 (.agg [.int .i64 4, .int .i64 b, .int .i64 (l.getD i dOp.dft).n])]) (fun j => j ≤ i) (fun j => i - j) 0 (by omega) ?_ rfl ?_
        · simp only [go_sem, ↓reduceIte, Nat.reduceAdd, Nat.reduceMul, Nat.reduceSub, Nat.reduceLT, Nat.reduceLeDiff, Nat.reduceEqDiff, Int.reduceToNat, Int.reduceEq, Int.reduceLT, Int.reduceLE, reduceCtorEq]
          exact ⟨rfl, rfl⟩
        intro j hj
        by_cases h2 : j < i
        · have h2' : (j : Int) < i := by omega
          have h3 : j < l.length := by omega
          have h3' : (j : Int) < l.length := by omega
          unfold j55_1
          have hgt : (l.take i).getD j dOp.dft = l.getD j dOp.dft := by simp [List.getD, List.getElem?_take, h2]
          have hwj : IntKind.i64.wrap ((j : Int) + 1) = ((j + 1 : Nat) : Int) := IntWalk.i64_in _ (by omega)
          simp only [go_sem, ↓reduceIte, Nat.reduceAdd, Nat.reduceMul, Nat.reduceSub, Nat.reduceLT, Nat.reduceLeDiff, Nat.reduceEqDiff, Int.reduceToNat, Int.reduceEq, Int.reduceLT, Int.reduceLE, reduceCtorEq, h2, h2', h3, h3', hlt, hgt, hwj]
          refine ⟨by omega, fun k => ?_, fun k => ?_⟩
          · simp only [Bool.or_eq_true, decide_eq_true_eq] at k
            refine ⟨fun ea => ⟨fun eb => ?_, fun eb => ?_⟩, fun ea => ⟨fun eb => ?_, fun eb => ?_⟩⟩
            all_goals refine ⟨j + 1, by omega, by omega, rfl, ?_, ?_⟩
            all_goals rw [held_step k]
            all_goals (split <;> first | rfl | contradiction)
          · simp only [Bool.or_eq_false_iff, decide_eq_false_iff_not] at k
            refine ⟨j + 1, by omega, by omega, rfl, ?_, ?_⟩
            all_goals rw [heldF, if_neg (fun h => h.1.elim k.1 k.2)]
        · have h2' : ¬ (j : Int) < i := by omega
          have e : j = i := by omega
          subst e
          unfold j55_1
          simp only [go_sem, ↓reduceIte, Nat.reduceAdd, Nat.reduceMul, Nat.reduceSub, Nat.reduceLT, Nat.reduceLeDiff, Nat.reduceEqDiff, Int.reduceToNat, Int.reduceEq, Int.reduceLT, Int.reduceLE, reduceCtorEq, h2', hlt]
          unfold j55_2
          simp only [go_sem, ↓reduceIte, Nat.reduceAdd, Nat.reduceMul, Nat.reduceSub, Nat.reduceLT, Nat.reduceLeDiff, Nat.reduceEqDiff, Int.reduceToNat, Int.reduceEq, Int.reduceLT, Int.reduceLE, reduceCtorEq]
          cases hx : (heldF l a j && !heldF l b j) with
          | true =>
            simp only [go_sem, ↓reduceIte, Nat.reduceAdd, Nat.reduceMul, Nat.reduceSub, Nat.reduceLT, Nat.reduceLeDiff, Nat.reduceEqDiff, Int.reduceToNat, Int.reduceEq, Int.reduceLT, Int.reduceLE, reduceCtorEq]
            simp only [Bool.and_eq_true, Bool.not_eq_true'] at hx
            exact (with_of k4 kb hx.1 hx.2 _ h1).symm
          | false =>
            simp only [go_sem, ↓reduceIte, Nat.reduceAdd, Nat.reduceMul, Nat.reduceSub, Nat.reduceLT, Nat.reduceLeDiff, Nat.reduceEqDiff, Int.reduceToNat, Int.reduceEq, Int.reduceLT, Int.reduceLE, reduceCtorEq]
            unfold j55_3
            simp only [go_sem, ↓reduceIte, Nat.reduceAdd, Nat.reduceMul, Nat.reduceSub, Nat.reduceLT, Nat.reduceLeDiff, Nat.reduceEqDiff, Int.reduceToNat, Int.reduceEq, Int.reduceLT, Int.reduceLE, reduceCtorEq, hw]
            exact ⟨j + 1, ⟨by omega, hstep _ (by simp only [hx, Bool.and_false])⟩, by omega, rfl⟩
      · unfold j55_4
        simp only [go_sem, ↓reduceIte, Nat.reduceAdd, Nat.reduceMul, Nat.reduceSub, Nat.reduceLT, Nat.reduceLeDiff, Nat.reduceEqDiff, Int.reduceToNat, Int.reduceEq, Int.reduceLT, Int.reduceLE, reduceCtorEq, h1, h1', hw, k4, kb]
        unfold j55_3
        simp only [go_sem, ↓reduceIte, Nat.reduceAdd, Nat.reduceMul, Nat.reduceSub, Nat.reduceLT, Nat.reduceLeDiff, Nat.reduceEqDiff, Int.reduceToNat, Int.reduceEq, Int.reduceLT, Int.reduceLE, reduceCtorEq, hw]
        exact ⟨by omega, i + 1, ⟨by omega, hstep _ (by simp only [kb, decide_false, Bool.false_and, Bool.and_false])⟩, by omega, rfl⟩
    · unfold j55_4
      simp only [go_sem, ↓reduceIte, Nat.reduceAdd, Nat.reduceMul, Nat.reduceSub, Nat.reduceLT, Nat.reduceLeDiff, Nat.reduceEqDiff, Int.reduceToNat, Int.reduceEq, Int.reduceLT, Int.reduceLE, reduceCtorEq, h1, h1', hw, k4]
      unfold j55_3
      simp only [go_sem, ↓reduceIte, Nat.reduceAdd, Nat.reduceMul, Nat.reduceSub, Nat.reduceLT, Nat.reduceLeDiff, Nat.reduceEqDiff, Int.reduceToNat, Int.reduceEq, Int.reduceLT, Int.reduceLE, reduceCtorEq, hw]
      exact ⟨by omega, i + 1, ⟨by omega, hstep _ (by simp only [k4, decide_false, Bool.false_and, Bool.and_false])⟩, by omega, rfl⟩
  · have h1' : ¬ (i : Int) < l.length := by omega
    have e : i = l.length := by omega
    subst e
    unfold j55_4
    simp only [go_sem, ↓reduceIte, Nat.reduceAdd, Nat.reduceMul, Nat.reduceSub, Nat.reduceLT, Nat.reduceLeDiff, Nat.reduceEqDiff, Int.reduceToNat, Int.reduceEq, Int.reduceLT, Int.reduceLE, reduceCtorEq, h1']
    unfold j55_5
    simp only [go_sem, ↓reduceIte, Nat.reduceAdd, Nat.reduceMul, Nat.reduceSub, Nat.reduceLT, Nat.reduceLeDiff, Nat.reduceEqDiff, Int.reduceToNat, Int.reduceEq, Int.reduceLT, Int.reduceLE, reduceCtorEq]
    exact hinv.symm

def j34 : JC :=
  (.seq (.ops <|
  eo 1 (.box 55 (.t 0)) <|
  qo 2 (.mv (.c .nils)) <|
  .nil)
  (.seq (.ops <|
  qo 3 (.mkfn 55 [(.t 1)]) <|
  eo 4 (.call 54 [(I 5), (.t 3)]) <|
  qo 2 (.mv (.t 4)) <|
  .nil)
  .ret))
theorem c34 : fnIs Try.prog qall 34 = some (j34.flat, [.tmp 2], 5) := by kernel_rfl
theorem w34 : j34.wf 5 = true := by kernel_rfl
def Gra (f : FuncId) (a : List SV) (m : List Res) : Sx.Call := (FH.mk 54 (.two .int (DT.clo 55 aOps)) (fun z => z.1 = 5) (fun z => .vec 0 (allP (wP z.2.1.1) 5 5).length) (fun z => [.vec 53 2 ((allP (wP z.2.1.1) 5 5).map dPr.emb)]) FH.none) f a m
theorem Gra_eq (f : FuncId) (a : List SV) (m : List Res) : Gra f a m = (FH.mk 54 (.two .int (DT.clo 55 aOps)) (fun z => z.1 = 5) (fun z => .vec 0 (allP (wP z.2.1.1) 5 5).length) (fun z => [.vec 53 2 ((allP (wP z.2.1.1) 5 5).map dPr.emb)]) FH.none) f a m := nr rfl
theorem Gra_ok : FHOK Try.prog Gra := FH.mk_ok (by kernel_rfl) (fun y _ => plainM (pv_vec _ _) ⟨plR_vec _ _ dPr _, trivial⟩) (fun y h => by
    obtain ⟨n, ⟨l, u⟩, v⟩ := y
    simp only at h
    subst h
    exact f_PairsOf 55 aOps (l, ()) 5 (wP l) (by omega) (by kernel_rfl) (fun i j hi hj => f_RAlone1 l i j)) FH.none_ok
theorem f_RAlone (l : List PO) : FnOK Try.prog 34 [(DT.list 3 dOp).emb l] [] (.vec 0 (allP (wP l) 5 5).length) [.vec 53 2 ((allP (wP l) 5 5).map dPr.emb)] := by
  refine fn_walkF c34 w34 Gra_ok rfl ?_
  unfold j34
  simp only [go_sem, ↓reduceIte, Nat.reduceAdd, Nat.reduceMul, Nat.reduceSub, Nat.reduceLT, Nat.reduceLeDiff, Nat.reduceEqDiff, Int.reduceToNat, Int.reduceEq, Int.reduceLT, Int.reduceLE, reduceCtorEq, Gra_eq]
def j32_1 : JC :=
  (.seq (.ops <|
  qo 53 (.cmp .lss (.t 52) (I 5)) <|
  .nil)
  (.seq (.cond (.t 53)
  .skip
  (.exit 3))
  (.seq (.block 4 (.seq (.ops <|
  qo 54 (.mv (.t 52)) <|
  qo 55 (.ix 5 1 false (.t 51) (.t 52)) <|
  qo 11 (.mv (.t 54)) <|
  qo 12 (.mv (.t 55)) <|
  .nil)
  (.prune [11, 10, 8, 12, 52, 51, 7, 36, 35, 34] (.dops <|
  qo 56 (.mv (.t 11)) <|
  qo 57 (.fa 1 1 (.t 10)) <|
  eo 58 (.load 1 false (.t 57)) <|
  qo 59 (.mv (.t 11)) <|
  qo 60 (.fa 1 1 (.t 10)) <|
  eo 61 (.load 1 false (.t 60)) <|
  .prune [8, 59, 61, 12, 56, 58, 52, 51, 10, 7, 36, 35, 34] <|
  qo 62 (.ia 5 5 (.t 8) (.t 59)) <|
  qo 63 (.ia 5 1 (.t 62) (.t 61)) <|
  .prune [63, 12, 8, 56, 58, 52, 51, 10, 7, 36, 35, 34] <|
  eo 64 (.load 1 false (.t 63)) <|
  qo 65 (.mv (.t 64)) <|
  .sc true 67 65 (qo 66 (.mv (.t 12)) <|
  .nil) (.t 66) <|
  .prune [8, 56, 58, 67, 52, 51, 10, 7, 36, 35, 34] <|
  qo 68 (.ia 5 5 (.t 8) (.t 56)) <|
  qo 69 (.ia 5 1 (.t 68) (.t 58)) <|
  en (.store 1 (.t 69) (.t 67)) <|
  .nil))))
  (.prune [52, 51, 10, 8, 7, 36, 35, 34] (.ops <|
  qo 70 (.ar .add (.t 52) (I 1)) <|
  qo 52 (.mv (.t 70)) <|
  .nil)))))
def j32_2 : JC :=
  (.prune [10, 7, 36, 35, 34, 8] (.ops <|
  qo 71 (.fa 1 1 (.t 10)) <|
  eo 72 (.load 1 false (.t 71)) <|
  qo 73 (.ia 5 1 (.t 7) (.t 72)) <|
  en (.store 1 (.t 73) (B true)) <|
  .nil))
def j32_3 : JC :=
  (.prune [36, 35, 34, 7, 8] (.ops <|
  qo 81 (.ar .add (.t 36) (I 1)) <|
  qo 36 (.mv (.t 81)) <|
  .nil))
def j32_4 : JC :=
  (.seq (.ops <|
  qo 37 (.cmp .lss (.t 36) (.t 35)) <|
  .nil)
  (.seq (.cond (.t 37)
  .skip
  (.exit 0))
  (.seq (.block 1 (.seq (.ops <|
  qo 38 (.is 3 (.t 34) (.t 36)) <|
  eo 39 (.load 3 true (.t 38)) <|
  eo 10 (.alloc 75 (.agg [(.int .i64 0), (.int .i64 0), (.int .i64 0)])) <|
  en (.store 3 (.t 10) (.t 39)) <|
  .nil)
  (.prune [10, 7, 8, 36, 35, 34] (.block 2 (.seq (.ops <|
  qo 41 (.fa 0 0 (.t 10)) <|
  eo 42 (.load 1 false (.t 41)) <|
  qo 43 (.cmp .eql (.t 42) (I 4)) <|
  qo 44 (.mv (.t 43)) <|
  .prune [44, 10, 7, 8, 36, 35, 34] <|
  .sc false 50 44 (qo 45 (.fa 1 1 (.t 10)) <|
  eo 46 (.load 1 false (.t 45)) <|
  qo 47 (.ia 5 1 (.t 7) (.t 46)) <|
  eo 48 (.load 1 false (.t 47)) <|
  qo 49 (.nt (.t 48)) <|
  .nil) (.t 49) <|
  qo 40 (.mv (.t 50)) <|
  .nil)
  (.prune [40, 7, 10, 8, 36, 35, 34] (.cond (.t 40)
  (.seq (.seq (.ops <|
  eo 51 (.load 5 true (.t 7)) <|
  qo 52 (.mv (I 0)) <|
  .nil)
  (.block 3 (.loop [51, 10, 8, 7, 36, 35, 34] [52] j32_1)))
  j32_2)
  (.seq (.ops <|
  qo 75 (.fa 0 0 (.t 10)) <|
  eo 76 (.load 1 false (.t 75)) <|
  qo 77 (.cmp .eql (.t 76) (I 5)) <|
  qo 74 (.mv (.t 77)) <|
  .nil)
  (.prune [74, 10, 7, 36, 35, 34, 8] (.cond (.t 74)
  (.ops <|
  qo 78 (.fa 1 1 (.t 10)) <|
  eo 79 (.load 1 false (.t 78)) <|
  qo 80 (.ia 5 1 (.t 7) (.t 79)) <|
  en (.store 1 (.t 80) (B false)) <|
  .nil)
  .skip))))))))))
  j32_3)))
def j32_5 : JC :=
  (.seq (.ops <|
  qo 89 (.cmp .lss (.t 88) (I 5)) <|
  .nil)
  (.seq (.cond (.t 89)
  .skip
  (.exit 7))
  (.seq (.block 8 (.seq (.ops <|
  qo 90 (.mv (.t 88)) <|
  qo 91 (.ix 5 1 false (.t 87) (.t 88)) <|
  qo 16 (.mv (.t 90)) <|
  qo 17 (.mv (.t 91)) <|
  .nil)
  (.prune [17, 13, 14, 16, 88, 87, 83, 82] (.seq (.ops <|
  qo 92 (.mv (.t 17)) <|
  .nil)
  (.cond (.t 92)
  (.ops <|
  qo 93 (.mv (.t 13)) <|
  .prune [14, 16, 93, 88, 87, 83, 82] <|
  qo 94 (.mv (.t 14)) <|
  qo 95 (.mv (.t 16)) <|
  qo 96 (.bld (.agg [(.int .i64 0), (.int .i64 0)]) [([.fld 0], 0, 1, (.t 94)), ([.fld 1], 1, 1, (.t 95))]) <|
  .prune [96, 93, 88, 87, 14, 83, 82] <|
  eo 97 (.bsl 53 2 1 (.agg [(.int .i64 0), (.int .i64 0)]) [(0, (.t 96))]) <|
  eo 98 (.app 53 2 16 (.t 93) (.t 97)) <|
  qo 13 (.mv (.t 98)) <|
  .nil)
  .skip)))))
  (.prune [88, 87, 13, 14, 83, 82] (.ops <|
  qo 99 (.ar .add (.t 88) (I 1)) <|
  qo 88 (.mv (.t 99)) <|
  .nil)))))
def j32_6 : JC :=
  (.prune [83, 82, 13] (.ops <|
  qo 100 (.ar .add (.t 83) (I 1)) <|
  qo 83 (.mv (.t 100)) <|
  .nil))
def j32_7 : JC :=
  (.seq (.ops <|
  qo 84 (.cmp .lss (.t 83) (I 5)) <|
  .nil)
  (.seq (.cond (.t 84)
  .skip
  (.exit 5))
  (.seq (.block 6 (.seq (.ops <|
  qo 85 (.mv (.t 83)) <|
  qo 86 (.ix 5 5 true (.t 82) (.t 83)) <|
  eo 15 (.alloc 77 (.arr 5 1 fun _ => (.bool false))) <|
  qo 14 (.mv (.t 85)) <|
  en (.store 5 (.t 15) (.t 86)) <|
  .nil)
  (.seq (.ops <|
  eo 87 (.load 5 true (.t 15)) <|
  qo 88 (.mv (I 0)) <|
  .nil)
  (.prune [88, 87, 13, 14, 83, 82] (.block 7 (.vecs 13 53 2 (.loop [87, 14, 83, 82] [88, 13] j32_5)))))))
  j32_6)))
def j32_8 : JC :=
  (.prune [13] (.seq (.ops <|
  qo 101 (.mv (.t 13)) <|
  qo 4 (.mv (.t 101)) <|
  qo 5 (.mv (I 0)) <|
  .nil)
  (.vecs 4 53 2 (.vecs 4 53 2 .ret))))
def j32_9 : JC :=
  (.prune [8] (.seq (.ops <|
  qo 13 (.mv (.c .nils)) <|
  .nil)
  (.seq (.seq (.ops <|
  eo 82 (.load 25 true (.t 8)) <|
  qo 83 (.mv (I 0)) <|
  .nil)
  (.block 5 (.vecs 13 53 2 (.loop [82] [83, 13] j32_7))))
  j32_8)))
def j32 : JC :=
  (.seq (.ops <|
  qo 4 (.mv (.c .nils)) <|
  qo 5 (.mv (I 0)) <|
  .nil)
  (.seq (.seq (.ops <|
  qo 18 (.mv (.t 0)) <|
  eo 19 (.call 30 [(.t 18)]) <|
  qo 6 (.mv (.t 19)) <|
  .nil)
  (.seq (.ops <|
  qo 20 (.mv (.t 6)) <|
  qo 21 (.cmp .neq (.t 20) (I 0)) <|
  .nil)
  (.cond (.t 21)
  (.seq (.ops <|
  .prune [6] <|
  qo 22 (.mv (.t 6)) <|
  qo 4 (.mv (.c .nils)) <|
  qo 5 (.mv (.t 22)) <|
  .nil)
  (.vecs 4 53 2 (.vecs 4 53 2 .ret)))
  .skip)))
  (.prune [1, 0] (.seq (.seq (.ops <|
  qo 23 (.mv (.t 1)) <|
  qo 24 (.cmp .lss (.t 23) (I 0)) <|
  qo 25 (.mv (.t 24)) <|
  .sc true 30 25 (qo 26 (.mv (.t 1)) <|
  qo 27 (.mv (.t 0)) <|
  qo 28 (.len (.t 27)) <|
  qo 29 (.cmp .geq (.t 26) (.t 28)) <|
  .nil) (.t 29) <|
  .nil)
  (.prune [30, 0, 1] (.cond (.t 30)
  (.seq (.ops <|
  qo 4 (.mv (.c .nils)) <|
  qo 5 (.mv (I 1)) <|
  .nil)
  (.vecs 4 53 2 (.vecs 4 53 2 .ret)))
  .skip)))
  (.prune [0, 1] (.seq (.ops <|
  eo 7 (.alloc 77 (.arr 5 1 fun _ => (.bool false))) <|
  .nil)
  (.seq (.ops <|
  eo 8 (.alloc 78 (.arr 5 5 fun _ => (.arr 5 1 fun _ => (.bool false)))) <|
  .nil)
  (.seq (.seq (.ops <|
  qo 31 (.mv (.t 0)) <|
  qo 32 (.mv (.t 1)) <|
  qo 33 (.is 1 (.t 31) (.t 32)) <|
  .prune [33, 7, 8] <|
  eo 34 (.load 1 false (.t 33)) <|
  qo 35 (.len (.t 34)) <|
  qo 36 (.mv (I 0)) <|
  .nil)
  (.prune [36, 35, 34, 7, 8] (.block 0 (.loop [35, 34, 7, 8] [36] j32_4))))
  j32_9))))))))
theorem c32 : fnIs Try.prog qall 32 = some (j32.flat, [.tmp 4, .tmp 5], 102) := by kernel_rfl
theorem w32 : j32.wf 102 = true := by kernel_rfl
def aloneF (p : List (List PO)) (t : Int) : List Pr × Int := if progC badP p ≠ 0 then ([], progC badP p) else if t < 0 ∨ (p.length : Int) ≤ t then ([], 1) else (allP (wP (p.getD t.toNat [])) 5 5, 0)
def Gal (f : FuncId) (a : List SV) (m : List Res) : Sx.Call := (FH.rd 30 (.one dProg) (.one .int) (fun _ => True) (fun y => progC badP y.1) FH.none) f a m
theorem Gal_eq (f : FuncId) (a : List SV) (m : List Res) : Gal f a m = (FH.rd 30 (.one dProg) (.one .int) (fun _ => True) (fun y => progC badP y.1) FH.none) f a m := nr rfl
theorem Gal_ok : FHOK Try.prog Gal := FH.rd_ok (by kernel_rfl) (fun y _ => f_Check y.1) FH.none_ok
/-- While the row of 'o' is told: of the first k with it. -/
def withK (l : List PO) (o : Nat) (i k a b : Nat) : Bool := if a < k ∧ b = o then withF l a b i || heldF l a i else withF l a b i
theorem withK_0 {l : List PO} {o i a b : Nat} : withK l o i 0 a b = withF l a b i := by simp [withK]
theorem withK_step {l : List PO} {o i k a b : Nat} : (if a = k then if b = o then withK l o i k k o || heldF l k i else withK l o i k k b else withK l o i k a b) = withK l o i (k + 1) a b := by
  unfold withK
  by_cases h1 : a = k
  · subst h1
    by_cases h2 : b = o
    · subst h2; simp
    · simp [h2]
  · by_cases h2 : b = o
    · subst h2
      by_cases h3 : a < k
      · simp [h1, h3, show a < k + 1 by omega]
      · simp [h1, h3, show ¬ a < k + 1 by omega]
    · simp [h1, h2]
section
variable {l : List PO} {i o : Nat}
theorem held_ge (hbad : ∀ i, i < l.length → badP (l.getD i dOp.dft) = false) {a : Int} (ha : 5 ≤ a) : ∀ {i : Nat}, i ≤ l.length → heldF l a i = false
  | 0, _ => rfl
  | i + 1, hi => by
    have hb := hbad i (by omega)
    have e4 : bnd 4 = 5 := by decide
    have e5 : bnd 5 = 5 := by decide
    rw [heldF, if_neg, held_ge hbad ha (by omega)]
    rintro ⟨k | k, h⟩
    · simp only [badP, k, e4, Bool.or_eq_false_iff, decide_eq_false_iff_not] at hb
      omega
    · simp only [badP, k, e5, Bool.or_eq_false_iff, decide_eq_false_iff_not] at hb
      omega
theorem withK_5 (hbad : ∀ i, i < l.length → badP (l.getD i dOp.dft) = false) (hi : i ≤ l.length) (k4 : (l.getD i dOp.dft).kind = 4) (ho : (l.getD i dOp.dft).obj = (o : Int)) (hh : heldF l o i = false) {a b : Nat} : withK l o i 5 a b = withF l a b (i + 1) := by
  rw [withF, k4, ho]
  unfold withK
  by_cases h2 : b = o
  · subst h2
    rw [hh]
    by_cases h3 : a < 5
    · simp [h3]
    · simp [h3, held_ge hbad (show (5 : Int) ≤ (a : Int) by omega) hi]
  · have : ¬ (o : Int) = (b : Int) := by omega
    simp [h2, this]
theorem held_lock (k4 : (l.getD i dOp.dft).kind = 4) (ho : (l.getD i dOp.dft).obj = (o : Int)) {k : Nat} : (if k = o then true else heldF l k i) = heldF l k (i + 1) := by
  rw [held_step (.inl k4), ho, k4]
  by_cases h : k = o
  · subst h; simp
  · simp [h, show ¬ (o : Int) = (k : Int) by omega]
theorem held_free (k5 : (l.getD i dOp.dft).kind = 5) (ho : (l.getD i dOp.dft).obj = (o : Int)) {k : Nat} : (if k = o then false else heldF l k i) = heldF l k (i + 1) := by
  rw [held_step (.inr k5), ho, k5]
  by_cases h : k = o
  · subst h; simp
  · simp [h, show ¬ (o : Int) = (k : Int) by omega]
theorem held_again (k4 : (l.getD i dOp.dft).kind = 4) (ho : (l.getD i dOp.dft).obj = (o : Int)) (hh : heldF l o i = true) {k : Nat} : heldF l k (i + 1) = heldF l k i := by
  rw [held_step (.inl k4), ho, k4]
  by_cases h : k = o
  · subst h; simp [hh]
  · simp [show ¬ (o : Int) = (k : Int) by omega]
theorem with_again (ho : (l.getD i dOp.dft).obj = (o : Int)) (hh : heldF l o i = true) {a b : Nat} : withF l a b (i + 1) = withF l a b i := by
  rw [withF, ho]
  by_cases h : b = o
  · subst h; simp [hh]
  · simp [show ¬ (o : Int) = (b : Int) by omega]
end
theorem good_of {p : List (List PO)} (h : progC badP p = 0) {n : Nat} (hn : n < p.length) : (p.getD n []).length ≤ 12 ∧ ∀ i, i < (p.getD n []).length → badP ((p.getD n []).getD i dOp.dft) = false := by
  unfold progC at h
  split at h
  · cases h
  split at h
  · cases h
  rename_i h1
  split at h
  · cases h
  rename_i h2
  refine ⟨?_, fun i hi => ?_⟩
  · refine Nat.le_of_not_lt fun hlt => h1 ?_
    exact any_of (i := n) (d := []) hn (decide_eq_true hlt)
  · cases hb : badP ((p.getD n []).getD i dOp.dft) with
    | false => rfl
    | true => exact absurd (any_of (i := n) (d := []) hn (any_of (i := i) hi hb)) h2
theorem f_Alone (p : List (List PO)) (t : Int) : FnOK Try.prog 32 [dProg.emb p, .int .i64 t] [] (.tup [.vec 0 (aloneF p t).1.length, .int .i64 (aloneF p t).2]) [.vec 53 2 ((aloneF p t).1.map dPr.emb)] := by
  refine fn_walkF c32 w32 Gal_ok rfl ?_
  unfold j32
  unfold aloneF
  by_cases h0 : progC badP p = 0
  · by_cases h1 : t < 0 ∨ (p.length : Int) ≤ t
    · have h1' : (decide (t < 0) || decide ((p.length : Int) ≤ t)) = true := by simpa using h1
      simp only [go_sem, ↓reduceIte, Nat.reduceAdd, Nat.reduceMul, Nat.reduceSub, Nat.reduceLT, Nat.reduceLeDiff, Nat.reduceEqDiff, Int.reduceToNat, Int.reduceEq, Int.reduceLT, Int.reduceLE, reduceCtorEq, Gal_eq, h0, h1, h1']
    · have h1' : (decide (t < 0) || decide ((p.length : Int) ≤ t)) = false := by simpa using h1
      obtain ⟨n, rfl⟩ : ∃ n : Nat, t = n := ⟨t.toNat, by omega⟩
      have hres : (if progC badP p ≠ 0 then (([], progC badP p) : List Pr × Int) else if (n : Int) < 0 ∨ (p.length : Int) ≤ (n : Int) then ([], 1) else (allP (wP (p.getD (n : Int).toNat [])) 5 5, 0)) = (allP (wP (p.getD n [])) 5 5, 0) := by
        rw [if_neg (by simp [h0]), if_neg h1, Int.toNat_natCast]
      rw [hres]
      simp only [go_sem, ↓reduceIte, Nat.reduceAdd, Nat.reduceMul, Nat.reduceSub, Nat.reduceLT, Nat.reduceLeDiff, Nat.reduceEqDiff, Int.reduceToNat, Int.reduceEq, Int.reduceLT, Int.reduceLE, reduceCtorEq, Gal_eq, h0, h1, h1']
      refine ⟨by omega, ?_⟩
      obtain ⟨hl, hbad⟩ := good_of h0 (show n < p.length by omega)
      generalize p.getD n [] = l at hl hbad
      refine loopF Nat (fun i => [.int .i64 i]) (fun i => [.blk 77 (.arr 5 1 fun k => .bool (heldF l k i)), .blk 78 (.arr 5 5 fun a => .arr 5 1 fun b => .bool (withF l a b i))]) (fun i => i ≤ l.length) (fun i => l.length - i) 0 (by omega) ?_ rfl ?_
      · simp only [go_sem, ↓reduceIte, Nat.reduceAdd, Nat.reduceMul, Nat.reduceSub, Nat.reduceLT, Nat.reduceLeDiff, Nat.reduceEqDiff, Int.reduceToNat, Int.reduceEq, Int.reduceLT, Int.reduceLE, reduceCtorEq]
      intro i hi
      by_cases h2 : i < l.length
      · have h2' : (i : Int) < l.length := by omega
        have hw : IntKind.i64.wrap ((i : Int) + 1) = ((i + 1 : Nat) : Int) := IntWalk.i64_in _ (by omega)
        have hb := hbad i h2
        by_cases k4 : (l.getD i dOp.dft).kind = 4
        · obtain ⟨o, ho, ho5⟩ : ∃ o : Nat, (l.getD i dOp.dft).obj = o ∧ o < 5 := by
            have : bnd 4 = 5 := by decide
            simp only [badP, k4, this, Bool.or_eq_false_iff, decide_eq_false_iff_not] at hb
            exact ⟨(l.getD i dOp.dft).obj.toNat, by omega, by omega⟩
          cases hh : heldF l o i with
          | false =>
            unfold j32_4
            simp only [go_sem, ↓reduceIte, Nat.reduceAdd, Nat.reduceMul, Nat.reduceSub, Nat.reduceLT, Nat.reduceLeDiff, Nat.reduceEqDiff, Int.reduceToNat, Int.reduceEq, Int.reduceLT, Int.reduceLE, reduceCtorEq, h2, h2', hw, k4, ho, ho5, hh]
            refine ⟨by omega, ⟨by omega, by omega⟩, ?_⟩
            refine loopF Nat (fun k => [.int .i64 k]) (fun k => [.blk 77 (.arr 5 1 fun k => .bool (heldF l k i)), .blk 78 (.arr 5 5 fun a => .arr 5 1 fun b => .bool (withK l o i k a b)), .blk 75 (.agg [.int .i64 4, .int .i64 o, .int .i64 (l.getD i dOp.dft).n])]) (fun k => k ≤ 5) (fun k => 5 - k) 0 (by omega) ?_ ?_ ?_
            · simp only [go_sem, ↓reduceIte, Nat.reduceAdd, Nat.reduceMul, Nat.reduceSub, Nat.reduceLT, Nat.reduceLeDiff, Nat.reduceEqDiff, Int.reduceToNat, Int.reduceEq, Int.reduceLT, Int.reduceLE, reduceCtorEq]
            · simp only [withK_0]
            intro k hk
            by_cases h3 : k < 5
            · have hwk : IntKind.i64.wrap ((k : Int) + 1) = ((k + 1 : Nat) : Int) := IntWalk.i64_in _ (by omega)
              have h3' : (k : Int) < 5 := by omega
              unfold j32_1
              simp only [go_sem, ↓reduceIte, Nat.reduceAdd, Nat.reduceMul, Nat.reduceSub, Nat.reduceLT, Nat.reduceLeDiff, Nat.reduceEqDiff, Int.reduceToNat, Int.reduceEq, Int.reduceLT, Int.reduceLE, reduceCtorEq, h3, h3', hwk, ho5, upd_row]
              exact ⟨by omega, by omega, ⟨by omega, by omega⟩, by omega, ⟨by omega, by omega⟩, k + 1, by omega, by omega, rfl, by simp only [withK_step]⟩
            · have e : k = 5 := by omega
              subst e
              unfold j32_1
              simp only [go_sem, ↓reduceIte, Nat.reduceAdd, Nat.reduceMul, Nat.reduceSub, Nat.reduceLT, Nat.reduceLeDiff, Nat.reduceEqDiff, Int.reduceToNat, Int.reduceEq, Int.reduceLT, Int.reduceLE, reduceCtorEq]
              unfold j32_2
              simp only [go_sem, ↓reduceIte, Nat.reduceAdd, Nat.reduceMul, Nat.reduceSub, Nat.reduceLT, Nat.reduceLeDiff, Nat.reduceEqDiff, Int.reduceToNat, Int.reduceEq, Int.reduceLT, Int.reduceLE, reduceCtorEq, ho5]
              unfold j32_3
              simp only [go_sem, ↓reduceIte, Nat.reduceAdd, Nat.reduceMul, Nat.reduceSub, Nat.reduceLT, Nat.reduceLeDiff, Nat.reduceEqDiff, Int.reduceToNat, Int.reduceEq, Int.reduceLT, Int.reduceLE, reduceCtorEq, hw]
              refine ⟨⟨by omega, by omega⟩, i + 1, by omega, by omega, rfl, ?_⟩
              simp only [withK_5 hbad hi k4 ho hh, held_lock k4 ho]
          | true =>
            unfold j32_4
            simp only [go_sem, ↓reduceIte, Nat.reduceAdd, Nat.reduceMul, Nat.reduceSub, Nat.reduceLT, Nat.reduceLeDiff, Nat.reduceEqDiff, Int.reduceToNat, Int.reduceEq, Int.reduceLT, Int.reduceLE, reduceCtorEq, h2, h2', hw, k4, ho, ho5, hh]
            unfold j32_3
            simp only [go_sem, ↓reduceIte, Nat.reduceAdd, Nat.reduceMul, Nat.reduceSub, Nat.reduceLT, Nat.reduceLeDiff, Nat.reduceEqDiff, Int.reduceToNat, Int.reduceEq, Int.reduceLT, Int.reduceLE, reduceCtorEq, hw]
            refine ⟨by omega, by omega, i + 1, by omega, by omega, rfl, ?_⟩
            simp only [held_again k4 ho hh, with_again ho hh]
        · by_cases k5 : (l.getD i dOp.dft).kind = 5
          · obtain ⟨o, ho, ho5⟩ : ∃ o : Nat, (l.getD i dOp.dft).obj = o ∧ o < 5 := by
              have : bnd 5 = 5 := by decide
              simp only [badP, k5, this, Bool.or_eq_false_iff, decide_eq_false_iff_not] at hb
              exact ⟨(l.getD i dOp.dft).obj.toNat, by omega, by omega⟩
            unfold j32_4
            simp only [go_sem, ↓reduceIte, Nat.reduceAdd, Nat.reduceMul, Nat.reduceSub, Nat.reduceLT, Nat.reduceLeDiff, Nat.reduceEqDiff, Int.reduceToNat, Int.reduceEq, Int.reduceLT, Int.reduceLE, reduceCtorEq, h2, h2', hw, k5, ho, ho5]
            unfold j32_3
            simp only [go_sem, ↓reduceIte, Nat.reduceAdd, Nat.reduceMul, Nat.reduceSub, Nat.reduceLT, Nat.reduceLeDiff, Nat.reduceEqDiff, Int.reduceToNat, Int.reduceEq, Int.reduceLT, Int.reduceLE, reduceCtorEq, hw]
            refine ⟨by omega, by omega, i + 1, by omega, by omega, rfl, ?_⟩
            simp only [held_free k5 ho, with_skip k4]
          · unfold j32_4
            simp only [go_sem, ↓reduceIte, Nat.reduceAdd, Nat.reduceMul, Nat.reduceSub, Nat.reduceLT, Nat.reduceLeDiff, Nat.reduceEqDiff, Int.reduceToNat, Int.reduceEq, Int.reduceLT, Int.reduceLE, reduceCtorEq, h2, h2', hw, k4, k5]
            unfold j32_3
            simp only [go_sem, ↓reduceIte, Nat.reduceAdd, Nat.reduceMul, Nat.reduceSub, Nat.reduceLT, Nat.reduceLeDiff, Nat.reduceEqDiff, Int.reduceToNat, Int.reduceEq, Int.reduceLT, Int.reduceLE, reduceCtorEq, hw]
            refine ⟨by omega, i + 1, by omega, by omega, rfl, ?_⟩
            simp only [held_skip k4 k5, with_skip k4]
      · have h2' : ¬ (i : Int) < l.length := by omega
        have e : i = l.length := by omega
        subst e
        unfold j32_4
        simp only [go_sem, ↓reduceIte, Nat.reduceAdd, Nat.reduceMul, Nat.reduceSub, Nat.reduceLT, Nat.reduceLeDiff, Nat.reduceEqDiff, Int.reduceToNat, Int.reduceEq, Int.reduceLT, Int.reduceLE, reduceCtorEq, h2']
        unfold j32_9
        simp only [go_sem, ↓reduceIte, Nat.reduceAdd, Nat.reduceMul, Nat.reduceSub, Nat.reduceLT, Nat.reduceLeDiff, Nat.reduceEqDiff, Int.reduceToNat, Int.reduceEq, Int.reduceLT, Int.reduceLE, reduceCtorEq]
        refine loopF Nat (fun a => [.int .i64 a, .vec 2 (allP (wP l) 5 a).length]) (fun a => [.blk 77 (.arr 5 1 fun k => .bool (heldF l k l.length)), .blk 78 (.arr 5 5 fun a => .arr 5 1 fun b => .bool (wP l a b)), .vec 53 2 ((allP (wP l) 5 a).map dPr.emb)]) (fun a => a ≤ 5) (fun a => 5 - a) 0 (by omega) ?_ rfl ?_
        · simp only [go_sem, ↓reduceIte, Nat.reduceAdd, Nat.reduceMul, Nat.reduceSub, Nat.reduceLT, Nat.reduceLeDiff, Nat.reduceEqDiff, Int.reduceToNat, Int.reduceEq, Int.reduceLT, Int.reduceLE, reduceCtorEq]
          rfl
        intro a ha
        by_cases h3 : a < 5
        · have h3' : (a : Int) < 5 := by omega
          unfold j32_7
          simp only [go_sem, ↓reduceIte, Nat.reduceAdd, Nat.reduceMul, Nat.reduceSub, Nat.reduceLT, Nat.reduceLeDiff, Nat.reduceEqDiff, Int.reduceToNat, Int.reduceEq, Int.reduceLT, Int.reduceLE, reduceCtorEq, h3, h3']
          refine ⟨by omega, ?_⟩
          refine loopF Nat (fun b => [.int .i64 b, .vec 2 (allP (wP l) 5 a ++ rowP (wP l) a b).length]) (fun b => [.blk 77 (.arr 5 1 fun k => .bool (heldF l k l.length)), .blk 78 (.arr 5 5 fun a => .arr 5 1 fun b => .bool (wP l a b)), .vec 53 2 ((allP (wP l) 5 a ++ rowP (wP l) a b).map dPr.emb), .blk 77 (.arr 5 1 fun b => .bool (wP l a b))]) (fun b => b ≤ 5) (fun b => 5 - b) 0 (by omega) ?_ ?_ ?_
          · simp only [go_sem, ↓reduceIte, Nat.reduceAdd, Nat.reduceMul, Nat.reduceSub, Nat.reduceLT, Nat.reduceLeDiff, Nat.reduceEqDiff, Int.reduceToNat, Int.reduceEq, Int.reduceLT, Int.reduceLE, reduceCtorEq]
            simp [rowP]
          · simp [rowP, wP]
          intro b hb
          have hb1 := allP_len (wP l) 5 a
          have hb2 := rowP_len (wP l) a b
          by_cases h4 : b < 5
          · have h4' : (b : Int) < 5 := by omega
            have hwb : IntKind.i64.wrap ((b : Int) + 1) = ((b + 1 : Nat) : Int) := IntWalk.i64_in _ (by omega)
            unfold j32_5
            simp only [go_sem, ↓reduceIte, Nat.reduceAdd, Nat.reduceMul, Nat.reduceSub, Nat.reduceLT, Nat.reduceLeDiff, Nat.reduceEqDiff, Int.reduceToNat, Int.reduceEq, Int.reduceLT, Int.reduceLE, reduceCtorEq, h4, h4', hwb]
            have hwe : wP l a b = withF l a b l.length := rfl
            refine ⟨by omega, fun h5 => ⟨by simp only [List.length_append, List.length_map]; omega, b + 1, by omega, by omega, ⟨rfl, ?_⟩, ?_⟩, fun h5 => ⟨b + 1, by omega, by omega, ⟨rfl, ?_⟩, ?_⟩⟩
            · simp [rowP, hwe, h5, Nat.add_assoc]
            · simp [rowP, hwe, h5, pr_emb]
            · simp [rowP, hwe, h5, Nat.add_assoc]
            · simp [rowP, hwe, h5, Nat.add_assoc]
          · have e : b = 5 := by omega
            subst e
            unfold j32_5
            simp only [go_sem, ↓reduceIte, Nat.reduceAdd, Nat.reduceMul, Nat.reduceSub, Nat.reduceLT, Nat.reduceLeDiff, Nat.reduceEqDiff, Int.reduceToNat, Int.reduceEq, Int.reduceLT, Int.reduceLE, reduceCtorEq]
            unfold j32_6
            simp only [go_sem, ↓reduceIte, Nat.reduceAdd, Nat.reduceMul, Nat.reduceSub, Nat.reduceLT, Nat.reduceLeDiff, Nat.reduceEqDiff, Int.reduceToNat, Int.reduceEq, Int.reduceLT, Int.reduceLE, reduceCtorEq]
            exact ⟨a + 1, by omega, by omega, ⟨IntWalk.i64_in _ (by omega), rfl⟩, by rw [allP, List.map_append]⟩
        · have e : a = 5 := by omega
          subst e
          unfold j32_7
          simp only [go_sem, ↓reduceIte, Nat.reduceAdd, Nat.reduceMul, Nat.reduceSub, Nat.reduceLT, Nat.reduceLeDiff, Nat.reduceEqDiff, Int.reduceToNat, Int.reduceEq, Int.reduceLT, Int.reduceLE, reduceCtorEq]
          unfold j32_8
          simp only [go_sem, ↓reduceIte, Nat.reduceAdd, Nat.reduceMul, Nat.reduceSub, Nat.reduceLT, Nat.reduceLeDiff, Nat.reduceEqDiff, Int.reduceToNat, Int.reduceEq, Int.reduceLT, Int.reduceLE, reduceCtorEq]
  · simp only [go_sem, ↓reduceIte, Nat.reduceAdd, Nat.reduceMul, Nat.reduceSub, Nat.reduceLT, Nat.reduceLeDiff, Nat.reduceEqDiff, Int.reduceToNat, Int.reduceEq, Int.reduceLT, Int.reduceLE, reduceCtorEq, Gal_eq, h0]
end Go.Proofs.Ytmddnblbfmlgoaa.Pg
