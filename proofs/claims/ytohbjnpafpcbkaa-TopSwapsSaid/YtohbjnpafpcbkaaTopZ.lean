/- Names of events; who races with whom, by names. Conditions: none. -/
import Derived.Test.YtohbjnpafpcbkaaTopM
import Derived.Test.YtohbjnpafpcbkaaRaceA
import Derived.Test.YtohbjnpafpcbkaaMapP
import Derived.Test.YtohbjnpafpcbkaaSx42
set_option linter.unusedSimpArgs false
set_option linter.unusedVariables false
set_option maxRecDepth 100000
open Go Go.Sx Go.Proofs
namespace Go.Proofs.Ytohbjnpafpcbkaa.Tp
open Go.Proofs.Ytohbjnpafpcbkaa.D Go.Proofs.Ytohbjnpafpcbkaa.Tr Go.Proofs.Ytohbjnpafpcbkaa.Fu Go.Proofs.Ytohbjnpafpcbkaa.Rc Go.Proofs.Ytohbjnpafpcbkaa.Sw
/-- A pair of names. -/
def emK (x : Pr × Pr) : SV := .arr 2 2 (updS (updS (fun _ => .agg [.int .i64 0, .int .i64 0]) 0 (dPr.emb x.1)) 1 (dPr.emb x.2))
abbrev esK : ES := .arr 2 2 (.st [.int .i64, .int .i64])
theorem eqV_K (x y : Pr × Pr) : eqV esK (emK x) (emK y) = decide (x = y) := by
  obtain ⟨a, b⟩ := x
  obtain ⟨c, d⟩ := y
  show ((List.range 2).all fun i => eqV (.st [.int .i64, .int .i64]) (updS (updS (fun _ => .agg [.int .i64 0, .int .i64 0]) 0 (dPr.emb a)) 1 (dPr.emb b) i) (updS (updS (fun _ => .agg [.int .i64 0, .int .i64 0]) 0 (dPr.emb c)) 1 (dPr.emb d) i)) = _
  have h0 : eqV (.st [.int .i64, .int .i64]) (updS (updS (fun _ => .agg [.int .i64 0, .int .i64 0]) 0 (dPr.emb a)) 1 (dPr.emb b) 0) (updS (updS (fun _ => .agg [.int .i64 0, .int .i64 0]) 0 (dPr.emb c)) 1 (dPr.emb d) 0) = decide (a = c) := eqV_pr a c
  have h1 : eqV (.st [.int .i64, .int .i64]) (updS (updS (fun _ => .agg [.int .i64 0, .int .i64 0]) 0 (dPr.emb a)) 1 (dPr.emb b) 1) (updS (updS (fun _ => .agg [.int .i64 0, .int .i64 0]) 0 (dPr.emb c)) 1 (dPr.emb d) 1) = decide (b = d) := eqV_pr b d
  have hr : List.range 2 = [0, 1] := rfl
  rw [hr, List.all_cons, List.all_cons, List.all_nil, h0, h1, Bool.and_true]
  by_cases e1 : a = c <;> by_cases e2 : b = d <;> simp [e1, e2]
def setK (l : List (Pr × Pr)) : List (SV × SV) := l.map fun p => (emK p, .bool true)
def j25_1 : JC :=
  (.seq (.ops <|
  qo 10 (.cmp .lss (.t 9) (.t 8)) <|
  .nil)
  (.seq (.cond (.t 10)
  .skip
  (.exit 0))
  (.seq (.block 1 (.seq (.ops <|
  qo 11 (.is 3 (.t 7) (.t 9)) <|
  eo 12 (.load 3 true (.t 11)) <|
  eo 6 (.alloc 54 (.agg [(.int .i64 0), (.int .i64 0), (.int .i64 0)])) <|
  en (.store 3 (.t 6) (.t 12)) <|
  .nil)
  (.prune [4, 6, 3, 9, 8, 7] (.seq (.dops <|
  qo 13 (.mv (.t 4)) <|
  qo 14 (.fa 1 1 (.t 6)) <|
  eo 15 (.load 1 false (.t 14)) <|
  qo 16 (.fa 1 1 (.t 6)) <|
  eo 17 (.load 1 false (.t 16)) <|
  .prune [3, 17, 15, 13, 6, 9, 8, 7] <|
  qo 18 (.ia 6 1 (.t 3) (.t 17)) <|
  eo 19 (.load 1 false (.t 18)) <|
  qo 20 (.bld (.agg [(.int .i64 0), (.int .i64 0)]) [([.fld 0], 0, 1, (.t 15)), ([.fld 1], 1, 1, (.t 19))]) <|
  .prune [20, 13, 6, 3, 9, 8, 7] <|
  eo 21 (.qbsl 45 2 1 (.agg [(.int .i64 0), (.int .i64 0)]) [(0, (.t 20))]) <|
  eo 22 (.app 45 2 16 (.t 13) (.t 21)) <|
  qo 4 (.mv (.t 22)) <|
  .nil)
  (.prune [6, 3, 9, 8, 7, 4] (.ops <|
  qo 23 (.fa 1 1 (.t 6)) <|
  eo 24 (.load 1 false (.t 23)) <|
  qo 25 (.ia 6 1 (.t 3) (.t 24)) <|
  eo 26 (.load 1 false (.t 25)) <|
  .prune [26, 3, 24, 9, 8, 7, 4] <|
  qo 27 (.ar .add (.t 26) (I 1)) <|
  qo 28 (.ia 6 1 (.t 3) (.t 24)) <|
  en (.store 1 (.t 28) (.t 27)) <|
  .nil))))))
  (.prune [9, 8, 7, 4, 3] (.ops <|
  qo 29 (.ar .add (.t 9) (I 1)) <|
  qo 9 (.mv (.t 29)) <|
  .nil)))))
def j25_2 : JC :=
  (.prune [4] (.seq (.ops <|
  qo 30 (.mv (.t 4)) <|
  qo 2 (.mv (.t 30)) <|
  .nil)
  (.vecs 2 45 2 .ret)))
def j25 : JC :=
  (.seq (.ops <|
  qo 2 (.mv (.c .nils)) <|
  .nil)
  (.seq (.ops <|
  eo 3 (.alloc 67 (.arr 6 1 fun _ => (.int .i64 0))) <|
  .nil)
  (.seq (.ops <|
  qo 4 (.mv (.c .nils)) <|
  .nil)
  (.seq (.seq (.ops <|
  qo 7 (.mv (.t 0)) <|
  qo 8 (.len (.t 7)) <|
  qo 9 (.mv (I 0)) <|
  .nil)
  (.block 0 (.vecs 4 45 2 (.loop [8, 7, 3] [9, 4] j25_1))))
  j25_2))))
theorem c25 : fnIs Try.prog (quiet2 qall) 25 = some (j25.flat, [.tmp 2], 31) := by kernel_rfl
theorem w25 : j25.wf 31 = true := by kernel_rfl
def nmL' (l : List Ev) (n : Nat) : List Pr := (List.range n).map (nmP l)
theorem nmL'_len (l : List Ev) (n : Nat) : (nmL' l n).length = n := by simp [nmL']
theorem f_names (l : List Ev) (hl : l.length ≤ 80) (hev : ∀ e ∈ l, isEv e = true) : FnOK Try.prog 25 [dEs.emb l] [] (.vec 0 l.length) [.vec 45 2 ((nmL' l l.length).map dPr.emb)] := by
  refine fn_walkF c25 w25 FH.none_ok rfl ?_
  unfold j25
  simp only [go_sem, ↓reduceIte, Nat.reduceAdd, Nat.reduceMul, Nat.reduceSub, Nat.reduceLT, Nat.reduceLeDiff, Nat.reduceEqDiff, Int.reduceToNat, Int.reduceEq, Int.reduceLT, Int.reduceLE, reduceCtorEq]
  refine loopF Nat (fun i => [.int .i64 i, .vec 1 i]) (fun i => [.blk 67 (.arr 6 1 fun t => .int .i64 (ofT t (l.take i))), .vec 45 2 ((nmL' l i).map dPr.emb)]) (fun i => i ≤ l.length) (fun i => l.length - i) 0 (by omega) ?_ ?_ ?_
  · simp only [go_sem, ↓reduceIte, Nat.reduceAdd, Nat.reduceMul, Nat.reduceSub, Nat.reduceLT, Nat.reduceLeDiff, Nat.reduceEqDiff, Int.reduceToNat, Int.reduceEq, Int.reduceLT, Int.reduceLE, reduceCtorEq]
  · rfl
  intro i hi
  by_cases h1 : i < l.length
  · have h1' : (i : Int) < l.length := by omega
    have hm : l.getD i dEv.dft ∈ l := by
      rw [show l.getD i dEv.dft = l[i] by simp [List.getD, h1]]
      exact List.getElem_mem ..
    obtain ⟨t0, t1, _, _⟩ := (isEv_iff _).1 (hev _ hm)
    unfold j25_1
    simp only [go_sem, ↓reduceIte, Nat.reduceAdd, Nat.reduceMul, Nat.reduceSub, Nat.reduceLT, Nat.reduceLeDiff, Nat.reduceEqDiff, Int.reduceToNat, Int.reduceEq, Int.reduceLT, Int.reduceLE, reduceCtorEq, h1, h1', t0, t1, List.range_zero, List.nil_append, List.map_nil, List.set_cons_succ, List.set_cons_zero, selM, selI_eq, selJ, List.map_cons, List.take_succ_cons, List.take_zero, memAt, List.getD_cons_zero, List.getD_cons_succ]
    have hT : ofT ((l.getD i dEv.dft).thr.toNat) (l.take i) ≤ i := by
      unfold ofT
      exact Nat.le_trans (List.length_filter_le _ _) (by simp; omega)
    have hw : IntKind.i64.wrap ((ofT ((l.getD i dEv.dft).thr.toNat) (l.take i) : Int) + 1) = (ofT ((l.getD i dEv.dft).thr.toNat) (l.take i) : Int) + 1 := IntWalk.i64_in _ (by omega)
    have htn : (((l.getD i dEv.dft).thr.toNat : Nat) : Int) = (l.getD i dEv.dft).thr := by omega
    rw [nmL'_len]
    refine ⟨by omega, by omega, i + 1, by omega, by omega, ⟨IntWalk.i64_in _ (by omega), rfl⟩, ?_⟩
    rw [hw, htn]
    congr 1
    · congr 2
      funext t
      rw [take_getD dEv.dft h1]
      unfold ofT
      rw [List.filter_append, List.length_append]
      by_cases e : t = (l.getD i dEv.dft).thr.toNat
      · have e' : (l.getD i dEv.dft).thr = (t : Int) := by omega
        rw [if_pos e, List.filter_cons_of_pos (by simpa using e'), e']
        simp
      · have e' : ¬ (l.getD i dEv.dft).thr = (t : Int) := by omega
        rw [if_neg e, List.filter_cons_of_neg (by simpa using e')]
        simp
    · congr 1
      congr 1
      rw [nmL', nmL', List.range_succ, List.map_append, List.map_append]
      rfl
  · have h1' : ¬ (i : Int) < l.length := by omega
    have e : i = l.length := by omega
    subst e
    unfold j25_1
    simp only [go_sem, ↓reduceIte, Nat.reduceAdd, Nat.reduceMul, Nat.reduceSub, Nat.reduceLT, Nat.reduceLeDiff, Nat.reduceEqDiff, Int.reduceToNat, Int.reduceEq, Int.reduceLT, Int.reduceLE, reduceCtorEq, h1']
    unfold j25_2
    simp only [go_sem, ↓reduceIte, Nat.reduceAdd, Nat.reduceMul, Nat.reduceSub, Nat.reduceLT, Nat.reduceLeDiff, Nat.reduceEqDiff, Int.reduceToNat, Int.reduceEq, Int.reduceLT, Int.reduceLE, reduceCtorEq]
theorem setK_put (x : Pr × Pr) : ∀ l : List (Pr × Pr), mpPut esK (emK x) (.bool true) (setK l) = setK (insM x l)
  | [] => rfl
  | y :: l => by
    show mpPut esK (emK x) (.bool true) ((emK y, .bool true) :: setK l) = _
    rw [mpPut, eqV_K]
    by_cases h : x = y
    · subst h; simp [insM, setK]
    · have ih := setK_put x l
      simp only [h, decide_false, Bool.false_eq_true, if_false]
      rw [ih]
      unfold insM
      by_cases h' : x ∈ l
      · simp [h, h', setK]
      · simp [h, h', setK]
theorem setK_find (x : Pr × Pr) : ∀ l : List (Pr × Pr), mpFind esK (emK x) (setK l) = if x ∈ l then some (.bool true) else none
  | [] => rfl
  | y :: l => by
    show mpFind esK (emK x) ((emK y, .bool true) :: setK l) = _
    rw [mpFind, eqV_K]
    by_cases h : x = y
    · subst h; simp
    · have ih := setK_find x l
      simp [h, ih]
theorem setK_has (x : Pr × Pr) (l : List (Pr × Pr)) : obB (mpFind esK (emK x) (setK l)) = decide (x ∈ l) := by
  rw [setK_find]
  by_cases h : x ∈ l <;> simp [h, obB]
theorem setK_len (l : List (Pr × Pr)) : (setK l).length = l.length := by simp [setK]
theorem setK_at {l : List (Pr × Pr)} {q : Nat} (hq : q < l.length) : (setK l).getD q (.junk, .junk) = (emK (l.getD q (dPr.dft, dPr.dft)), .bool true) := by simp [setK, List.getD, hq]
/-- Races, by names. -/
def rnP (l : List Ev) (r : Rc) : Pr × Pr := (nmP l r.a.toNat, nmP l r.b.toNat)
def raN (l : List Ev) : Nat → List (Pr × Pr)
  | 0 => []
  | n + 1 => insM (rnP l ((racesF l).getD n dRc.dft)) (raN l n)
def raL (l : List Ev) : List (Pr × Pr) := raN l (racesF l).length
theorem insM_nodup {α : Type} [DecidableEq α] {x : α} {l : List α} (h : l.Nodup) : (insM x l).Nodup := by
  unfold insM
  split
  · exact h
  · rename_i hx
    rw [List.nodup_append]
    exact ⟨h, by simp, fun a ha b hb => by rw [List.mem_singleton.1 hb]; rintro rfl; exact hx ha⟩
theorem raN_nodup (l : List Ev) : ∀ n, (raN l n).Nodup
  | 0 => List.nodup_nil
  | n + 1 => insM_nodup (raN_nodup l n)
theorem raN_mem (l : List Ev) (x : Pr × Pr) : ∀ n, x ∈ raN l n ↔ ∃ k, k < n ∧ x = rnP l ((racesF l).getD k dRc.dft)
  | 0 => by simp [raN]
  | n + 1 => by
    rw [raN, mem_insM, raN_mem l x n]
    constructor
    · rintro (h | ⟨k, hk, h⟩)
      · exact ⟨n, by omega, h⟩
      · exact ⟨k, by omega, h⟩
    · rintro ⟨k, hk, h⟩
      by_cases e : k = n
      · subst e; exact .inl h
      · exact .inr ⟨k, by omega, h⟩
theorem raL_mem {l : List Ev} (hok : (checkR l).2 = 0) {x : Pr × Pr} : x ∈ raL l ↔ RS l x := by
  have hev : ∀ e ∈ l, isEv e = true := fun e he => by
    obtain ⟨i, hi, rfl⟩ := List.mem_iff_getElem.1 he
    have := ok_isEv hok i hi
    rwa [show l.getD i dEv.dft = l[i] by simp [List.getD, hi]] at this
  rw [raL, raN_mem]
  constructor
  · rintro ⟨k, hk, rfl⟩
    have hm : (racesF l).getD k dRc.dft ∈ racesF l := by
      rw [show (racesF l).getD k dRc.dft = (racesF l)[k] by simp [List.getD, hk]]
      exact List.getElem_mem ..
    obtain ⟨i, hi, hm⟩ := allC_mem.1 hm
    obtain ⟨j, hj, hn, e⟩ := rowC_mem.1 hm
    rw [e]
    exact ⟨i, j, hi, hj, (nr_iff hev hi hj).1 hn, rfl⟩
  · rintro ⟨i, j, hi, hj, hr, rfl⟩
    have hm : (⟨i, j, (at' l i).obj, rkind (at' l i) (at' l j)⟩ : Rc) ∈ racesF l := allC_mem.2 ⟨i, hi, rowC_mem.2 ⟨j, hj, (nr_iff hev hi hj).2 hr, rfl⟩⟩
    obtain ⟨k, hk, e⟩ := List.mem_iff_getElem.1 hm
    refine ⟨k, hk, ?_⟩
    rw [show (racesF l).getD k dRc.dft = (racesF l)[k] by simp [List.getD, hk], e]
    rfl
theorem setK_put' (a b c d : Int) (l : List (Pr × Pr)) : mpPut (.arr 2 2 (.st [.int .i64, .int .i64])) (.arr 2 2 (updS (updS (fun _ => .agg [.int .i64 0, .int .i64 0]) 0 (.agg [.int .i64 a, .int .i64 b])) 1 (.agg [.int .i64 c, .int .i64 d]))) (.bool true) (setK l) = setK (insM (⟨a, b⟩, ⟨c, d⟩) l) := setK_put (⟨a, b⟩, ⟨c, d⟩) l
theorem race_is {l : List Ev} {k : Nat} (hk : k < (racesF l).length) : ∃ i j o q, i < l.length ∧ j < l.length ∧ (racesF l).getD k dRc.dft = ⟨(i : Nat), (j : Nat), o, q⟩ ∧ ((racesF l).map dRc.emb).getD k .junk = .agg [.int .i64 (i : Nat), .int .i64 (j : Nat), .int .i64 o, .int .i64 q] := by
  have hm : (racesF l)[k] ∈ racesF l := List.getElem_mem ..
  obtain ⟨i, hi, hm⟩ := allC_mem.1 hm
  obtain ⟨j, hj, hn, e⟩ := rowC_mem.1 hm
  refine ⟨i, j, _, _, hi, hj, by rw [show (racesF l).getD k dRc.dft = (racesF l)[k] by simp [List.getD, hk], e], ?_⟩
  rw [show ((racesF l).map dRc.emb).getD k .junk = dRc.emb (racesF l)[k] by simp [List.getD, hk], e, rc_emb]
theorem nm_at' {l : List Ev} {i : Nat} (hi : i < l.length) : ((nmL' l l.length).map dPr.emb).getD i .junk = .agg [.int .i64 (nmP l i).a, .int .i64 (nmP l i).b] := by
  simp [nmL', List.getD, hi, pr_emb]
def j23_1 : JC :=
  (.seq (.ops <|
  qo 20 (.cmp .lss (.t 19) (.t 18)) <|
  .nil)
  (.seq (.cond (.t 20)
  .skip
  (.exit 0))
  (.seq (.block 1 (.seq (.ops <|
  qo 21 (.is 4 (.t 17) (.t 19)) <|
  eo 22 (.load 4 true (.t 21)) <|
  eo 8 (.alloc 43 (.agg [(.int .i64 0), (.int .i64 0), (.int .i64 0), (.int .i64 0)])) <|
  en (.store 4 (.t 8) (.t 22)) <|
  .nil)
  (.prune [6, 5, 8, 19, 18, 17] (.dops <|
  qo 23 (.mv (.t 6)) <|
  qo 24 (.mv (.t 5)) <|
  qo 25 (.fa 0 0 (.t 8)) <|
  eo 26 (.load 1 false (.t 25)) <|
  qo 27 (.is 2 (.t 24) (.t 26)) <|
  .prune [27, 5, 8, 23, 19, 18, 17, 6] <|
  eo 28 (.load 2 true (.t 27)) <|
  qo 29 (.mv (.t 5)) <|
  qo 30 (.fa 1 1 (.t 8)) <|
  eo 31 (.load 1 false (.t 30)) <|
  .prune [29, 31, 28, 23, 19, 18, 17, 6, 5] <|
  qo 32 (.is 2 (.t 29) (.t 31)) <|
  eo 33 (.load 2 true (.t 32)) <|
  qo 34 (.bld (.arr 2 2 fun _ => (.agg [(.int .i64 0), (.int .i64 0)])) [([.idx 0 2], 0, 2, (.t 28)), ([.idx 1 2], 2, 2, (.t 33))]) <|
  en (.mop (.put (.arr 2 2 (.st [(.int .i64), (.int .i64)])) .bool) [(.t 23), (.t 34), (B true)]) <|
  .nil))))
  (.prune [19, 18, 17, 6, 5] (.ops <|
  qo 35 (.ar .add (.t 19) (I 1)) <|
  qo 19 (.mv (.t 35)) <|
  .nil)))))
def j23_2 : JC :=
  (.prune [6] (.seq (.ops <|
  qo 36 (.mv (.t 6)) <|
  qo 2 (.mv (.t 36)) <|
  .nil)
  .ret))
def j23 : JC :=
  (.seq (.ops <|
  qo 2 (.mv (.c .nilm)) <|
  .nil)
  (.seq (.ops <|
  qo 10 (.mv (.t 0)) <|
  eo 11 (.call 24 [(.t 10)]) <|
  qo 9 (.mv (.t 11)) <|
  qo 12 (.ext 0 (.t 9)) <|
  qo 13 (.ext 1 (.t 9)) <|
  qo 3 (.mv (.t 12)) <|
  qo 4 (.mv (.t 13)) <|
  .nil)
  (.seq (.ops <|
  .prune [0, 3] <|
  qo 14 (.mv (.t 0)) <|
  eo 15 (.call 25 [(.t 14)]) <|
  qo 5 (.mv (.t 15)) <|
  .nil)
  (.prune [3, 5] (.seq (.ops <|
  eo 16 (.mop (.make (.arr 2 2 (.st [(.int .i64), (.int .i64)])) .bool) []) <|
  qo 6 (.mv (.t 16)) <|
  .nil)
  (.seq (.seq (.ops <|
  qo 17 (.mv (.t 3)) <|
  qo 18 (.len (.t 17)) <|
  qo 19 (.mv (I 0)) <|
  .nil)
  (.block 0 (.loop [18, 17, 6, 5] [19] j23_1)))
  j23_2))))))
theorem c23 : fnIs Try.prog qall 23 = some (j23.flat, [.tmp 2], 37) := by kernel_rfl
theorem w23 : j23.wf 37 = true := by kernel_rfl
def Gra1 (f : FuncId) (a : List SV) (m : List Res) : Sx.Call := (FH.mk 24 (.one dEs) (fun _ => True) (fun y => .tup [.vec 0 (allF y.1).length, .int .i64 (playedF y.1).2.2]) (fun y => [.vec 43 4 ((allF y.1).map dRc.emb)]) <|
  FH.mk 25 (.one dEs) (fun y => y.1.length ≤ 80 ∧ ∀ e ∈ y.1, isEv e = true) (fun y => .vec 0 y.1.length) (fun y => [.vec 45 2 ((nmL' y.1 y.1.length).map dPr.emb)]) FH.none) f a m
theorem Gra1_eq (f : FuncId) (a : List SV) (m : List Res) : Gra1 f a m = (FH.mk 24 (.one dEs) (fun _ => True) (fun y => .tup [.vec 0 (allF y.1).length, .int .i64 (playedF y.1).2.2]) (fun y => [.vec 43 4 ((allF y.1).map dRc.emb)]) <|
  FH.mk 25 (.one dEs) (fun y => y.1.length ≤ 80 ∧ ∀ e ∈ y.1, isEv e = true) (fun y => .vec 0 y.1.length) (fun y => [.vec 45 2 ((nmL' y.1 y.1.length).map dPr.emb)]) FH.none) f a m := nr rfl
theorem Gra1_ok : FHOK Try.prog Gra1 := FH.mk_ok (by kernel_rfl) (fun y _ => plainM (pv_tup ⟨plV_vec _ _, plV_int _ _, trivial⟩) ⟨plR_vec _ _ dRc _, trivial⟩) (fun y _ => f_All y.1) <|
  FH.mk_ok (by kernel_rfl) (fun y _ => plainM (pv_vec _ _) ⟨plR_vec _ _ dPr _, trivial⟩) (fun y h => f_names y.1 h.1 h.2) FH.none_ok
theorem f_raced (l : List Ev) (hok : (checkR l).2 = 0) : FnOK Try.prog 23 [dEs.emb l] [] (.map 0) [.mp esK .bool (setK (raL l))] := by
  have hev : ∀ e ∈ l, isEv e = true := fun e he => by
    obtain ⟨i, hi, rfl⟩ := List.mem_iff_getElem.1 he
    have := ok_isEv hok i hi
    rwa [show l.getD i dEv.dft = l[i] by simp [List.getD, hi]] at this
  have hl := ok_len hok
  have hRl : (racesF l).length ≤ 6400 := Nat.le_trans (allC_len (l := l) l.length) (Nat.mul_le_mul (show l.length ≤ 80 by omega) (show l.length ≤ 80 by omega))
  have hp : (playedF l).2.2 = 0 := by rw [err_same]; exact hok
  have hA : allF l = racesF l := if_pos hp
  refine fn_walkF c23 w23 Gra1_ok rfl ?_
  unfold j23
  simp only [go_sem, ↓reduceIte, Nat.reduceAdd, Nat.reduceMul, Nat.reduceSub, Nat.reduceLT, Nat.reduceLeDiff, Nat.reduceEqDiff, Int.reduceToNat, Int.reduceEq, Int.reduceLT, Int.reduceLE, reduceCtorEq, Gra1_eq, hA, hp]
  refine ⟨⟨hl, hev⟩, ?_⟩
  refine loopF Nat (fun i => [.int .i64 i]) (fun i => [.vec 43 4 ((racesF l).map dRc.emb), .vec 45 2 ((nmL' l l.length).map dPr.emb), .mp esK .bool (setK (raN l i))]) (fun i => i ≤ (racesF l).length) (fun i => (racesF l).length - i) 0 (by omega) ?_ rfl ?_
  · simp only [go_sem, ↓reduceIte, Nat.reduceAdd, Nat.reduceMul, Nat.reduceSub, Nat.reduceLT, Nat.reduceLeDiff, Nat.reduceEqDiff, Int.reduceToNat, Int.reduceEq, Int.reduceLT, Int.reduceLE, reduceCtorEq]
  intro i hi
  by_cases h1 : i < (racesF l).length
  · have h1' : (i : Int) < (racesF l).length := by omega
    unfold j23_1
    obtain ⟨ia, ja, o, q, hia, hja, hr, hr'⟩ := race_is h1
    have n1 := nm_at' hia
    have n2 := nm_at' hja
    have l1 : (ia : Int) < l.length := by omega
    have l2 : (ja : Int) < l.length := by omega
    have l3 : (0 : Int) ≤ ia := by omega
    have l4 : (0 : Int) ≤ ja := by omega
    simp only [go_sem, ↓reduceIte, Nat.reduceAdd, Nat.reduceMul, Nat.reduceSub, Nat.reduceLT, Nat.reduceLeDiff, Nat.reduceEqDiff, Int.reduceToNat, Int.reduceEq, Int.reduceLT, Int.reduceLE, reduceCtorEq, h1, h1', hr', n1, n2, l1, l2, l3, l4, nmL'_len, hia, hja, Int.toNat_natCast, setK_put', List.range_zero, List.nil_append, List.map_nil, List.set_cons_succ, List.set_cons_zero, selM, selI_eq, selJ, List.map_cons, List.take_succ_cons, List.take_zero, memAt, List.getD_cons_zero, List.getD_cons_succ]
    refine ⟨by omega, rfl, fun k hk => ?_, i + 1, by omega, by omega, IntWalk.i64_in _ (by omega), ?_⟩
    · have : k = 0 ∨ k = 1 := by omega
      rcases this with rfl | rfl
      · exact ⟨rfl, rfl, trivial⟩
      · exact ⟨rfl, rfl, trivial⟩
    · rw [raN, hr]; rfl
  · have h1' : ¬ (i : Int) < (racesF l).length := by omega
    have e : i = (racesF l).length := by omega
    subst e
    unfold j23_1
    simp only [go_sem, ↓reduceIte, Nat.reduceAdd, Nat.reduceMul, Nat.reduceSub, Nat.reduceLT, Nat.reduceLeDiff, Nat.reduceEqDiff, Int.reduceToNat, Int.reduceEq, Int.reduceLT, Int.reduceLE, reduceCtorEq, h1']
    unfold j23_2
    simp only [go_sem, ↓reduceIte, Nat.reduceAdd, Nat.reduceMul, Nat.reduceSub, Nat.reduceLT, Nat.reduceLeDiff, Nat.reduceEqDiff, Int.reduceToNat, Int.reduceEq, Int.reduceLT, Int.reduceLE, reduceCtorEq]
    rfl
end Go.Proofs.Ytohbjnpafpcbkaa.Tp
