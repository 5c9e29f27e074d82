/- Of each lock and each signal who came. Conditions: none. -/
import Derived.Test.YtohbjnpafpcbkaaBase
import Derived.Test.YtohbjnpafpcbkaaRows
import Derived.WalkKit
import Derived.Test.YtohbjnpafpcbkaaTrace
import Derived.Test.YtohbjnpafpcbkaaSx42
set_option linter.unusedSimpArgs false
set_option linter.unusedVariables false
set_option maxRecDepth 100000
open Go Go.Sx Go.Proofs
namespace Go.Proofs.Ytohbjnpafpcbkaa.Tp
open Go.Proofs.Ytohbjnpafpcbkaa.D Go.Proofs.Ytohbjnpafpcbkaa.Tr
def hasE (l : List Ev) (x : Ev) : Bool := l.any fun y => decide (x.kind = y.kind) && (decide (x.thr = y.thr) && decide (x.obj = y.obj))
def j43_1 : JC :=
  (.seq (.ops <|
  qo 10 (.cmp .lss (.t 9) (.t 8)) <|
  .nil)
  (.seq (.cond (.t 10)
  .skip
  (.exit 0))
  (.seq (.block 1 (.seq (.ops <|
  qo 11 (.is 3 (.t 7) (.t 9)) <|
  eo 12 (.load 3 true (.t 11)) <|
  eo 6 (.alloc 54 (.agg [(.int .i64 0), (.int .i64 0), (.int .i64 0)])) <|
  en (.store 3 (.t 6) (.t 12)) <|
  .nil)
  (.seq (.ops <|
  .prune [3, 6, 9, 8, 7] <|
  eo 13 (.load 3 true (.t 3)) <|
  eo 14 (.load 3 true (.t 6)) <|
  qo 15 (.aeq false (.st [(.int .i64), (.int .i64), (.int .i64)]) (.t 13) (.t 14)) <|
  .nil)
  (.prune [15, 9, 8, 7, 3] (.cond (.t 15)
  (.seq (.ops <|
  qo 4 (.mv (B true)) <|
  .nil)
  .ret)
  .skip)))))
  (.prune [9, 8, 7, 3] (.ops <|
  qo 16 (.ar .add (.t 9) (I 1)) <|
  qo 9 (.mv (.t 16)) <|
  .nil)))))
def j43_2 : JC :=
  (.prune [] (.seq (.ops <|
  qo 4 (.mv (B false)) <|
  .nil)
  .ret))
def j43 : JC :=
  (.seq (.ops <|
  eo 3 (.box 54 (.t 1)) <|
  qo 4 (.mv (B false)) <|
  .nil)
  (.seq (.seq (.ops <|
  qo 7 (.mv (.t 0)) <|
  qo 8 (.len (.t 7)) <|
  qo 9 (.mv (I 0)) <|
  .nil)
  (.block 0 (.loop [8, 7, 3] [9] j43_1)))
  j43_2))
theorem c43 : fnIs Try.prog qall 43 = some (j43.flat, [.tmp 4], 17) := by kernel_rfl
theorem w43 : j43.wf 17 = true := by kernel_rfl
theorem f_HasEv (l : List Ev) (x : Ev) : FnOK Try.prog 43 [dEs.emb l, dEv.emb x] [] (.bool (hasE l x)) [] := by
  refine fn_len fun hB => fn_walkF c43 w43 FH.none_ok rfl ?_
  simp only [go_sem, ↓reduceIte, Nat.reduceAdd, Nat.reduceMul, Nat.reduceSub, Nat.reduceLT, Nat.reduceLeDiff, Nat.reduceEqDiff, Int.reduceToNat, Int.reduceEq, Int.reduceLT, Int.reduceLE, reduceCtorEq] at hB
  unfold j43
  simp only [go_sem, ↓reduceIte, Nat.reduceAdd, Nat.reduceMul, Nat.reduceSub, Nat.reduceLT, Nat.reduceLeDiff, Nat.reduceEqDiff, Int.reduceToNat, Int.reduceEq, Int.reduceLT, Int.reduceLE, reduceCtorEq]
  refine loopF Nat (fun i => [.int .i64 i]) (fun _ => [.blk 54 (dEv.emb x)]) (fun i => i ≤ l.length ∧ (l.take i).any (fun y => decide (x.kind = y.kind) && (decide (x.thr = y.thr) && decide (x.obj = y.obj))) = false) (fun i => l.length - i) 0 ⟨by omega, rfl⟩ ?_ rfl ?_
  · simp only [go_sem, ↓reduceIte, Nat.reduceAdd, Nat.reduceMul, Nat.reduceSub, Nat.reduceLT, Nat.reduceLeDiff, Nat.reduceEqDiff, Int.reduceToNat, Int.reduceEq, Int.reduceLT, Int.reduceLE, reduceCtorEq]
  intro i hi
  unfold j43_1
  simp only [go_sem, ↓reduceIte, Nat.reduceAdd, Nat.reduceMul, Nat.reduceSub, Nat.reduceLT, Nat.reduceLeDiff, Nat.reduceEqDiff, Int.reduceToNat, Int.reduceEq, Int.reduceLT, Int.reduceLE, reduceCtorEq]
  refine ⟨fun h1 => ⟨by omega, fun h2 => ?_, fun h2 => ⟨i + 1, ⟨by omega, ?_⟩, by omega, IntWalk.i64_in _ (by omega)⟩⟩, fun h1 => ?_⟩
  · rw [hasE, any_of (i := i) (d := dEv.dft) (by omega) h2]
  · rw [any_take dEv.dft _ (by omega) hi.2]; exact h2
  · rw [hasE, any_none h1 hi]
    unfold j43_2
    simp only [go_sem, ↓reduceIte, Nat.reduceAdd, Nat.reduceMul, Nat.reduceSub, Nat.reduceLT, Nat.reduceLeDiff, Nat.reduceEqDiff, Int.reduceToNat, Int.reduceEq, Int.reduceLT, Int.reduceLE, reduceCtorEq]
theorem hasE_iff {l : List Ev} {x : Ev} : hasE l x = true ↔ x ∈ l := by
  unfold hasE
  rw [List.any_eq_true]
  constructor
  · rintro ⟨y, hy, h⟩
    simp only [Bool.and_eq_true, decide_eq_true_eq] at h
    obtain ⟨a, b, c⟩ := x
    obtain ⟨a', b', c'⟩ := y
    simp only at h
    obtain ⟨rfl, rfl, rfl⟩ := h
    exact hy
  · intro h; exact ⟨x, h, by simp⟩
def acP (k : Int) (e : Ev) : Bool := decide (e.kind = 3) && decide (e.obj = k)
def viP (k : Int) (e : Ev) : Bool := (decide (e.kind = 7) || decide (e.kind = 8)) && decide (e.obj = k)
def syncF (l : List Ev) (i : Nat) : List Ev := if i < 5 then l.filter (acP i) else if i < 9 then l.filter (viP ((i : Int) - 5)) else []
abbrev dSy : DT (Nat → List Ev) := DT.ref (DT.arr 9 1 dEs)
def j42_1 : JC :=
  (.seq (.ops <|
  qo 8 (.cmp .lss (.t 7) (.t 6)) <|
  .nil)
  (.seq (.cond (.t 8)
  .skip
  (.exit 0))
  (.seq (.block 1 (.seq (.ops <|
  qo 9 (.is 3 (.t 5) (.t 7)) <|
  eo 10 (.load 3 true (.t 9)) <|
  eo 4 (.alloc 54 (.agg [(.int .i64 0), (.int .i64 0), (.int .i64 0)])) <|
  en (.store 3 (.t 4) (.t 10)) <|
  .nil)
  (.seq (.ops <|
  qo 11 (.fa 0 0 (.t 4)) <|
  eo 12 (.load 1 false (.t 11)) <|
  .nil)
  (.prune [12, 4, 2, 7, 6, 5] (.block 2 (.seq (.ops <|
  qo 14 (.cmp .eql (.t 12) (I 3)) <|
  qo 13 (.mv (.t 14)) <|
  .nil)
  (.cond (.t 13)
  (.dops <|
  .prune [4, 2, 7, 6, 5] <|
  qo 15 (.fa 2 2 (.t 4)) <|
  eo 16 (.load 1 false (.t 15)) <|
  qo 17 (.fa 2 2 (.t 4)) <|
  eo 18 (.load 1 false (.t 17)) <|
  qo 19 (.ia 9 1 (.t 2) (.t 18)) <|
  eo 20 (.load 1 false (.t 19)) <|
  .prune [4, 20, 16, 15, 2, 7, 6, 5] <|
  eo 21 (.load 3 true (.t 4)) <|
  eo 22 (.qbsl 54 3 1 (.agg [(.int .i64 0), (.int .i64 0), (.int .i64 0)]) [(0, (.t 21))]) <|
  eo 23 (.app 54 3 24 (.t 20) (.t 22)) <|
  .prune [16, 15, 2, 23, 7, 6, 5] <|
  en (.again 1 false (.t 15) 16) <|
  qo 24 (.ia 9 1 (.t 2) (.t 16)) <|
  en (.store 1 (.t 24) (.t 23)) <|
  .nil)
  (.seq (.seq (.ops <|
  qo 26 (.cmp .eql (.t 12) (I 7)) <|
  qo 25 (.mv (.t 26)) <|
  .nil)
  (.prune [25, 4, 2, 7, 6, 5, 12] (.orc 25 <|
  qo 27 (.cmp .eql (.t 12) (I 8)) <|
  qo 25 (.mv (.t 27)) <|
  .nil)))
  (.prune [25, 4, 2, 7, 6, 5] (.cond (.t 25)
  (.dops <|
  qo 28 (.fa 2 2 (.t 4)) <|
  eo 29 (.load 1 false (.t 28)) <|
  qo 30 (.ar .add (I 5) (.t 29)) <|
  qo 31 (.fa 2 2 (.t 4)) <|
  eo 32 (.load 1 false (.t 31)) <|
  qo 33 (.ar .add (I 5) (.t 32)) <|
  .prune [2, 33, 4, 29, 28, 30, 7, 6, 5] <|
  qo 34 (.ia 9 1 (.t 2) (.t 33)) <|
  eo 35 (.load 1 false (.t 34)) <|
  eo 36 (.load 3 true (.t 4)) <|
  .prune [36, 35, 29, 28, 2, 30, 7, 6, 5] <|
  eo 37 (.qbsl 54 3 1 (.agg [(.int .i64 0), (.int .i64 0), (.int .i64 0)]) [(0, (.t 36))]) <|
  eo 38 (.app 54 3 24 (.t 35) (.t 37)) <|
  .prune [29, 28, 2, 30, 38, 7, 6, 5] <|
  en (.again 1 false (.t 28) 29) <|
  qo 39 (.ia 9 1 (.t 2) (.t 30)) <|
  en (.store 1 (.t 39) (.t 38)) <|
  .nil)
  .skip))))))))))
  (.prune [7, 6, 5, 2] (.ops <|
  qo 40 (.ar .add (.t 7) (I 1)) <|
  qo 7 (.mv (.t 40)) <|
  .nil)))))
def j42_2 : JC :=
  (.prune [2] (.seq (.ops <|
  eo 41 (.load 9 true (.t 2)) <|
  en (.store 9 (.t 2) (.t 41)) <|
  .nil)
  (.frz 2 dSy.frz .ret)))
def j42 : ZC :=
  (.seq (.leaf (.ops <|
  eo 2 (.alloc 77 (.arr 9 1 fun _ => .nils)) <|
  .nil))
  (.arrv 2 9 54 3 (.leaf (.seq (.seq (.ops <|
  qo 5 (.mv (.t 0)) <|
  qo 6 (.len (.t 5)) <|
  qo 7 (.mv (I 0)) <|
  .nil)
  (.block 0 (.loop [6, 5, 2] [7] j42_1)))
  j42_2))))
theorem c42 : fnZ Try.prog (quiet2 qall) 42 j42 = some (j42.flat, [.cell 2 77], 42) := by kernel_rfl
theorem w42 : j42.wf 42 = true := by kernel_rfl
theorem tszSy : tsz Try.prog 77 = some (9, true) := by kernel_rfl
def syM (L : Nat → List Ev) : List Res := [.blk 77 (.arr 9 1 fun j => if j < 9 then .vec (1 + j) (L j).length else .junk), .vec 54 3 ((L 0).map dEv.emb), .vec 54 3 ((L 1).map dEv.emb), .vec 54 3 ((L 2).map dEv.emb), .vec 54 3 ((L 3).map dEv.emb), .vec 54 3 ((L 4).map dEv.emb),
  .vec 54 3 ((L 5).map dEv.emb), .vec 54 3 ((L 6).map dEv.emb), .vec 54 3 ((L 7).map dEv.emb), .vec 54 3 ((L 8).map dEv.emb)]
theorem syncF_nil : syncF [] = fun _ => [] := by
  funext j
  unfold syncF
  split
  · rfl
  · split <;> rfl
/-- Where an event goes. -/
def goes (e : Ev) : Nat := if e.kind = 3 then e.obj.toNat else if e.kind = 7 ∨ e.kind = 8 then 5 + e.obj.toNat else 9
theorem syncF_snoc {l : List Ev} {e : Ev} (he : isEv e = true) (j : Nat) : syncF (l ++ [e]) j = if j = goes e then (if j < 9 then syncF l j ++ [e] else []) else syncF l j := by
  obtain ⟨_, _, h3, h4⟩ := (isEv_iff e).1 he
  unfold goes syncF
  unfold many at h4
  rw [List.filter_append, List.filter_append]
  by_cases j5 : j < 5
  · rw [if_pos j5, if_pos j5]
    by_cases k : e.kind = 3
    · rw [if_pos k]
      by_cases o : e.obj = j
      · rw [if_pos (by omega), if_pos (by omega)]
        simp [acP, k, o]
      · rw [if_neg (by omega)]
        simp [acP, k, o]
    · rw [if_neg k]
      have h0 : ([e].filter (acP j)) = [] := by simp [acP, k]
      rw [h0, List.append_nil]
      split
      · rw [if_neg (by omega)]
      · rw [if_neg (by omega)]
  · rw [if_neg j5, if_neg j5]
    by_cases j9 : j < 9
    · rw [if_pos j9, if_pos j9, if_pos j9]
      by_cases k : e.kind = 7 ∨ e.kind = 8
      · rw [if_neg (show ¬ e.kind = 3 by omega), if_pos k]
        by_cases o : e.obj = (j : Int) - 5
        · rw [if_pos (by omega)]
          simp [viP, k, o]
        · rw [if_neg (by omega)]
          simp [viP, o]
      · have h0 : ([e].filter (viP ((j : Int) - 5))) = [] := by simp [viP]; omega
        rw [h0, List.append_nil]
        have hk3 : ¬ (e.kind = 3 ∧ j = e.obj.toNat) := by
          rintro ⟨k3, o⟩
          rw [if_neg (by omega), if_pos (by omega)] at h4
          omega
        split
        · rename_i k3
          rw [if_neg (fun h => hk3 ⟨k3, h⟩)]
        · rw [if_neg (by omega)]
    · rw [if_neg j9, if_neg j9, if_neg j9]
      split <;> simp_all
theorem arr9 {f g : Nat → SV} (h0 : f 0 = g 0) (h1 : f 1 = g 1) (h2 : f 2 = g 2) (h3 : f 3 = g 3) (h4 : f 4 = g 4) (h5 : f 5 = g 5) (h6 : f 6 = g 6) (h7 : f 7 = g 7) (h8 : f 8 = g 8) (h9 : ∀ k, f (k + 9) = g (k + 9)) : f = g := by
  funext k
  match k with
  | 0 => exact h0
  | 1 => exact h1
  | 2 => exact h2
  | 3 => exact h3
  | 4 => exact h4
  | 5 => exact h5
  | 6 => exact h6
  | 7 => exact h7
  | 8 => exact h8
  | k + 9 => exact h9 k
theorem f_syncs (l : List Ev) (hl : l.length ≤ 1000) (hev : ∀ e ∈ l, isEv e = true) : FnOK Try.prog 42 [dEs.emb l] [] ((DT.arr 9 1 dEs).emb (syncF l)) [] := by
  refine fn_walkZ c42 w42 FH.none_ok rfl ?_
  unfold j42
  simp only [go_sem, ↓reduceIte, Nat.reduceAdd, Nat.reduceMul, Nat.reduceSub, Nat.reduceLT, Nat.reduceLeDiff, Nat.reduceEqDiff, Int.reduceToNat, Int.reduceEq, Int.reduceLT, Int.reduceLE, reduceCtorEq, tszSy]
  refine loopF Nat (fun i => [.int .i64 i]) (fun i => syM (syncF (l.take i))) (fun i => i ≤ l.length) (fun i => l.length - i) 0 (by omega) ?_ ?_ ?_
  · simp only [go_sem, ↓reduceIte, Nat.reduceAdd, Nat.reduceMul, Nat.reduceSub, Nat.reduceLT, Nat.reduceLeDiff, Nat.reduceEqDiff, Int.reduceToNat, Int.reduceEq, Int.reduceLT, Int.reduceLE, reduceCtorEq]
  · rw [List.take_zero, syncF_nil]; rfl
  intro i hi
  by_cases h1 : i < l.length
  · have h1' : (i : Int) < l.length := by omega
    have hm : l.getD i dEv.dft ∈ l := by
      rw [show l.getD i dEv.dft = l[i] by simp [List.getD, h1]]
      exact List.getElem_mem ..
    have hs := syncF_snoc (l := l.take i) (hev _ hm)
    rw [← take_getD dEv.dft h1] at hs
    obtain ⟨_, _, o0, o1⟩ := (isEv_iff _).1 (hev _ hm)
    have hlen : ∀ j, (syncF (l.take i) j).length ≤ 1000 := fun j => by
      unfold syncF
      have := List.length_take_le i l
      split
      · exact Nat.le_trans (List.length_filter_le _ _) (by simp; omega)
      · split
        · exact Nat.le_trans (List.length_filter_le _ _) (by simp; omega)
        · simp
    unfold j42_1
    generalize hL : syncF (l.take i) = L at hs hlen ⊢
    generalize hL' : syncF (l.take (i + 1)) = L' at hs
    unfold syM
    have hat : ∀ c : Nat, goes (l.getD i dEv.dft) = c → c < 9 → L' = fun j => if j = c then L j ++ [l.getD i dEv.dft] else L j := fun c hc h9 => by
      funext j
      rw [hs, hc]
      split
      · rename_i e; subst e; rw [if_pos h9]
      · rfl
    by_cases k3 : (l.getD i dEv.dft).kind = 3
    · have hc : (l.getD i dEv.dft).obj = 0 ∨ (l.getD i dEv.dft).obj = 1 ∨ (l.getD i dEv.dft).obj = 2 ∨ (l.getD i dEv.dft).obj = 3 ∨ (l.getD i dEv.dft).obj = 4 := by
        rw [many, if_neg (by omega), if_pos (by omega)] at o1; omega
      rcases hc with ho | ho | ho | ho | ho
      · have hA := hat 0 (by simp only [goes, k3, ho, Int.reduceEq, if_true, if_false, or_true, true_or]; rfl) (by omega)
        simp only [go_sem, ↓reduceIte, Nat.reduceAdd, Nat.reduceMul, Nat.reduceSub, Nat.reduceLT, Nat.reduceLeDiff, Nat.reduceEqDiff, Int.reduceToNat, Int.reduceEq, Int.reduceLT, Int.reduceLE, reduceCtorEq, h1, h1', k3, ho, List.range_zero, List.nil_append, List.map_nil, List.set_cons_succ, List.set_cons_zero, selM, selI_eq, selJ, List.map_cons, List.take_succ_cons, List.take_zero, memAt, List.getD_cons_zero, List.getD_cons_succ]
        refine ⟨?_, ?_, i + 1, by omega, by omega, IntWalk.i64_in _ (by omega), ?_⟩
        · omega
        · have := hlen 0; omega
        rw [hL', hA]
        congr 1
        · congr 2
          refine arr9 ?_ ?_ ?_ ?_ ?_ ?_ ?_ ?_ ?_ fun k => ?_
          all_goals first | rfl | simp [updS, ren, renI, ltI]
        · have hm2 : (L 0 ++ [l.getD i dEv.dft]).map dEv.emb = (L 0).map dEv.emb ++ [.agg [.int .i64 3, .int .i64 (l.getD i dEv.dft).thr, .int .i64 0]] := by rw [List.map_append, List.map_cons, List.map_nil, ev_emb, k3, ho]
          rw [← hm2]; rfl
      · have hA := hat 1 (by simp only [goes, k3, ho, Int.reduceEq, if_true, if_false, or_true, true_or]; rfl) (by omega)
        simp only [go_sem, ↓reduceIte, Nat.reduceAdd, Nat.reduceMul, Nat.reduceSub, Nat.reduceLT, Nat.reduceLeDiff, Nat.reduceEqDiff, Int.reduceToNat, Int.reduceEq, Int.reduceLT, Int.reduceLE, reduceCtorEq, h1, h1', k3, ho, List.range_zero, List.nil_append, List.map_nil, List.set_cons_succ, List.set_cons_zero, selM, selI_eq, selJ, List.map_cons, List.take_succ_cons, List.take_zero, memAt, List.getD_cons_zero, List.getD_cons_succ]
        refine ⟨?_, ?_, i + 1, by omega, by omega, IntWalk.i64_in _ (by omega), ?_⟩
        · omega
        · have := hlen 1; omega
        rw [hL', hA]
        congr 1
        · congr 2
          refine arr9 ?_ ?_ ?_ ?_ ?_ ?_ ?_ ?_ ?_ fun k => ?_
          all_goals first | rfl | simp [updS, ren, renI, ltI]
        · have hm2 : (L 1 ++ [l.getD i dEv.dft]).map dEv.emb = (L 1).map dEv.emb ++ [.agg [.int .i64 3, .int .i64 (l.getD i dEv.dft).thr, .int .i64 1]] := by rw [List.map_append, List.map_cons, List.map_nil, ev_emb, k3, ho]
          rw [← hm2]; rfl
      · have hA := hat 2 (by simp only [goes, k3, ho, Int.reduceEq, if_true, if_false, or_true, true_or]; rfl) (by omega)
        simp only [go_sem, ↓reduceIte, Nat.reduceAdd, Nat.reduceMul, Nat.reduceSub, Nat.reduceLT, Nat.reduceLeDiff, Nat.reduceEqDiff, Int.reduceToNat, Int.reduceEq, Int.reduceLT, Int.reduceLE, reduceCtorEq, h1, h1', k3, ho, List.range_zero, List.nil_append, List.map_nil, List.set_cons_succ, List.set_cons_zero, selM, selI_eq, selJ, List.map_cons, List.take_succ_cons, List.take_zero, memAt, List.getD_cons_zero, List.getD_cons_succ]
        refine ⟨?_, ?_, i + 1, by omega, by omega, IntWalk.i64_in _ (by omega), ?_⟩
        · omega
        · have := hlen 2; omega
        rw [hL', hA]
        congr 1
        · congr 2
          refine arr9 ?_ ?_ ?_ ?_ ?_ ?_ ?_ ?_ ?_ fun k => ?_
          all_goals first | rfl | simp [updS, ren, renI, ltI]
        · have hm2 : (L 2 ++ [l.getD i dEv.dft]).map dEv.emb = (L 2).map dEv.emb ++ [.agg [.int .i64 3, .int .i64 (l.getD i dEv.dft).thr, .int .i64 2]] := by rw [List.map_append, List.map_cons, List.map_nil, ev_emb, k3, ho]
          rw [← hm2]; rfl
      · have hA := hat 3 (by simp only [goes, k3, ho, Int.reduceEq, if_true, if_false, or_true, true_or]; rfl) (by omega)
        simp only [go_sem, ↓reduceIte, Nat.reduceAdd, Nat.reduceMul, Nat.reduceSub, Nat.reduceLT, Nat.reduceLeDiff, Nat.reduceEqDiff, Int.reduceToNat, Int.reduceEq, Int.reduceLT, Int.reduceLE, reduceCtorEq, h1, h1', k3, ho, List.range_zero, List.nil_append, List.map_nil, List.set_cons_succ, List.set_cons_zero, selM, selI_eq, selJ, List.map_cons, List.take_succ_cons, List.take_zero, memAt, List.getD_cons_zero, List.getD_cons_succ]
        refine ⟨?_, ?_, i + 1, by omega, by omega, IntWalk.i64_in _ (by omega), ?_⟩
        · omega
        · have := hlen 3; omega
        rw [hL', hA]
        congr 1
        · congr 2
          refine arr9 ?_ ?_ ?_ ?_ ?_ ?_ ?_ ?_ ?_ fun k => ?_
          all_goals first | rfl | simp [updS, ren, renI, ltI]
        · have hm2 : (L 3 ++ [l.getD i dEv.dft]).map dEv.emb = (L 3).map dEv.emb ++ [.agg [.int .i64 3, .int .i64 (l.getD i dEv.dft).thr, .int .i64 3]] := by rw [List.map_append, List.map_cons, List.map_nil, ev_emb, k3, ho]
          rw [← hm2]; rfl
      · have hA := hat 4 (by simp only [goes, k3, ho, Int.reduceEq, if_true, if_false, or_true, true_or]; rfl) (by omega)
        simp only [go_sem, ↓reduceIte, Nat.reduceAdd, Nat.reduceMul, Nat.reduceSub, Nat.reduceLT, Nat.reduceLeDiff, Nat.reduceEqDiff, Int.reduceToNat, Int.reduceEq, Int.reduceLT, Int.reduceLE, reduceCtorEq, h1, h1', k3, ho, List.range_zero, List.nil_append, List.map_nil, List.set_cons_succ, List.set_cons_zero, selM, selI_eq, selJ, List.map_cons, List.take_succ_cons, List.take_zero, memAt, List.getD_cons_zero, List.getD_cons_succ]
        refine ⟨?_, ?_, i + 1, by omega, by omega, IntWalk.i64_in _ (by omega), ?_⟩
        · omega
        · have := hlen 4; omega
        rw [hL', hA]
        congr 1
        · congr 2
          refine arr9 ?_ ?_ ?_ ?_ ?_ ?_ ?_ ?_ ?_ fun k => ?_
          all_goals first | rfl | simp [updS, ren, renI, ltI]
        · have hm2 : (L 4 ++ [l.getD i dEv.dft]).map dEv.emb = (L 4).map dEv.emb ++ [.agg [.int .i64 3, .int .i64 (l.getD i dEv.dft).thr, .int .i64 4]] := by rw [List.map_append, List.map_cons, List.map_nil, ev_emb, k3, ho]
          rw [← hm2]; rfl
    by_cases k7 : (l.getD i dEv.dft).kind = 7
    · have hc : (l.getD i dEv.dft).obj = 0 ∨ (l.getD i dEv.dft).obj = 1 ∨ (l.getD i dEv.dft).obj = 2 ∨ (l.getD i dEv.dft).obj = 3 := by
        rw [many, if_neg (by omega), if_neg (by omega), if_neg (by omega), if_pos (by omega)] at o1; omega
      rcases hc with ho | ho | ho | ho
      · have hA := hat 5 (by simp only [goes, k7, ho, Int.reduceEq, if_true, if_false, or_true, true_or]; rfl) (by omega)
        have hw : IntKind.i64.wrap (5 + 0) = 5 := IntWalk.i64_in _ (by omega)
        simp only [go_sem, ↓reduceIte, Nat.reduceAdd, Nat.reduceMul, Nat.reduceSub, Nat.reduceLT, Nat.reduceLeDiff, Nat.reduceEqDiff, Int.reduceToNat, Int.reduceEq, Int.reduceLT, Int.reduceLE, reduceCtorEq, h1, h1', k7, ho, hw, List.range_zero, List.nil_append, List.map_nil, List.set_cons_succ, List.set_cons_zero, selM, selI_eq, selJ, List.map_cons, List.take_succ_cons, List.take_zero, memAt, List.getD_cons_zero, List.getD_cons_succ]
        refine ⟨?_, ?_, i + 1, by omega, by omega, IntWalk.i64_in _ (by omega), ?_⟩
        · omega
        · have := hlen 5; omega
        rw [hL', hA]
        congr 1
        · congr 2
          refine arr9 ?_ ?_ ?_ ?_ ?_ ?_ ?_ ?_ ?_ fun k => ?_
          all_goals first | rfl | simp [updS, ren, renI, ltI]
        · have hm2 : (L 5 ++ [l.getD i dEv.dft]).map dEv.emb = (L 5).map dEv.emb ++ [.agg [.int .i64 7, .int .i64 (l.getD i dEv.dft).thr, .int .i64 0]] := by rw [List.map_append, List.map_cons, List.map_nil, ev_emb, k7, ho]
          rw [← hm2]; rfl
      · have hA := hat 6 (by simp only [goes, k7, ho, Int.reduceEq, if_true, if_false, or_true, true_or]; rfl) (by omega)
        have hw : IntKind.i64.wrap (5 + 1) = 6 := IntWalk.i64_in _ (by omega)
        simp only [go_sem, ↓reduceIte, Nat.reduceAdd, Nat.reduceMul, Nat.reduceSub, Nat.reduceLT, Nat.reduceLeDiff, Nat.reduceEqDiff, Int.reduceToNat, Int.reduceEq, Int.reduceLT, Int.reduceLE, reduceCtorEq, h1, h1', k7, ho, hw, List.range_zero, List.nil_append, List.map_nil, List.set_cons_succ, List.set_cons_zero, selM, selI_eq, selJ, List.map_cons, List.take_succ_cons, List.take_zero, memAt, List.getD_cons_zero, List.getD_cons_succ]
        refine ⟨?_, ?_, i + 1, by omega, by omega, IntWalk.i64_in _ (by omega), ?_⟩
        · omega
        · have := hlen 6; omega
        rw [hL', hA]
        congr 1
        · congr 2
          refine arr9 ?_ ?_ ?_ ?_ ?_ ?_ ?_ ?_ ?_ fun k => ?_
          all_goals first | rfl | simp [updS, ren, renI, ltI]
        · have hm2 : (L 6 ++ [l.getD i dEv.dft]).map dEv.emb = (L 6).map dEv.emb ++ [.agg [.int .i64 7, .int .i64 (l.getD i dEv.dft).thr, .int .i64 1]] := by rw [List.map_append, List.map_cons, List.map_nil, ev_emb, k7, ho]
          rw [← hm2]; rfl
      · have hA := hat 7 (by simp only [goes, k7, ho, Int.reduceEq, if_true, if_false, or_true, true_or]; rfl) (by omega)
        have hw : IntKind.i64.wrap (5 + 2) = 7 := IntWalk.i64_in _ (by omega)
        simp only [go_sem, ↓reduceIte, Nat.reduceAdd, Nat.reduceMul, Nat.reduceSub, Nat.reduceLT, Nat.reduceLeDiff, Nat.reduceEqDiff, Int.reduceToNat, Int.reduceEq, Int.reduceLT, Int.reduceLE, reduceCtorEq, h1, h1', k7, ho, hw, List.range_zero, List.nil_append, List.map_nil, List.set_cons_succ, List.set_cons_zero, selM, selI_eq, selJ, List.map_cons, List.take_succ_cons, List.take_zero, memAt, List.getD_cons_zero, List.getD_cons_succ]
        refine ⟨?_, ?_, i + 1, by omega, by omega, IntWalk.i64_in _ (by omega), ?_⟩
        · omega
        · have := hlen 7; omega
        rw [hL', hA]
        congr 1
        · congr 2
          refine arr9 ?_ ?_ ?_ ?_ ?_ ?_ ?_ ?_ ?_ fun k => ?_
          all_goals first | rfl | simp [updS, ren, renI, ltI]
        · have hm2 : (L 7 ++ [l.getD i dEv.dft]).map dEv.emb = (L 7).map dEv.emb ++ [.agg [.int .i64 7, .int .i64 (l.getD i dEv.dft).thr, .int .i64 2]] := by rw [List.map_append, List.map_cons, List.map_nil, ev_emb, k7, ho]
          rw [← hm2]; rfl
      · have hA := hat 8 (by simp only [goes, k7, ho, Int.reduceEq, if_true, if_false, or_true, true_or]; rfl) (by omega)
        have hw : IntKind.i64.wrap (5 + 3) = 8 := IntWalk.i64_in _ (by omega)
        simp only [go_sem, ↓reduceIte, Nat.reduceAdd, Nat.reduceMul, Nat.reduceSub, Nat.reduceLT, Nat.reduceLeDiff, Nat.reduceEqDiff, Int.reduceToNat, Int.reduceEq, Int.reduceLT, Int.reduceLE, reduceCtorEq, h1, h1', k7, ho, hw, List.range_zero, List.nil_append, List.map_nil, List.set_cons_succ, List.set_cons_zero, selM, selI_eq, selJ, List.map_cons, List.take_succ_cons, List.take_zero, memAt, List.getD_cons_zero, List.getD_cons_succ]
        refine ⟨?_, ?_, i + 1, by omega, by omega, IntWalk.i64_in _ (by omega), ?_⟩
        · omega
        · have := hlen 8; omega
        rw [hL', hA]
        congr 1
        · congr 2
          refine arr9 ?_ ?_ ?_ ?_ ?_ ?_ ?_ ?_ ?_ fun k => ?_
          all_goals first | rfl | simp [updS, ren, renI, ltI]
        · have hm2 : (L 8 ++ [l.getD i dEv.dft]).map dEv.emb = (L 8).map dEv.emb ++ [.agg [.int .i64 7, .int .i64 (l.getD i dEv.dft).thr, .int .i64 3]] := by rw [List.map_append, List.map_cons, List.map_nil, ev_emb, k7, ho]
          rw [← hm2]; rfl
    by_cases k8 : (l.getD i dEv.dft).kind = 8
    · have hc : (l.getD i dEv.dft).obj = 0 ∨ (l.getD i dEv.dft).obj = 1 ∨ (l.getD i dEv.dft).obj = 2 ∨ (l.getD i dEv.dft).obj = 3 := by
        rw [many, if_neg (by omega), if_neg (by omega), if_neg (by omega), if_pos (by omega)] at o1; omega
      rcases hc with ho | ho | ho | ho
      · have hA := hat 5 (by simp only [goes, k8, ho, Int.reduceEq, if_true, if_false, or_true, true_or]; rfl) (by omega)
        have hw : IntKind.i64.wrap (5 + 0) = 5 := IntWalk.i64_in _ (by omega)
        simp only [go_sem, ↓reduceIte, Nat.reduceAdd, Nat.reduceMul, Nat.reduceSub, Nat.reduceLT, Nat.reduceLeDiff, Nat.reduceEqDiff, Int.reduceToNat, Int.reduceEq, Int.reduceLT, Int.reduceLE, reduceCtorEq, h1, h1', k8, ho, hw, List.range_zero, List.nil_append, List.map_nil, List.set_cons_succ, List.set_cons_zero, selM, selI_eq, selJ, List.map_cons, List.take_succ_cons, List.take_zero, memAt, List.getD_cons_zero, List.getD_cons_succ]
        refine ⟨?_, ?_, i + 1, by omega, by omega, IntWalk.i64_in _ (by omega), ?_⟩
        · omega
        · have := hlen 5; omega
        rw [hL', hA]
        congr 1
        · congr 2
          refine arr9 ?_ ?_ ?_ ?_ ?_ ?_ ?_ ?_ ?_ fun k => ?_
          all_goals first | rfl | simp [updS, ren, renI, ltI]
        · have hm2 : (L 5 ++ [l.getD i dEv.dft]).map dEv.emb = (L 5).map dEv.emb ++ [.agg [.int .i64 8, .int .i64 (l.getD i dEv.dft).thr, .int .i64 0]] := by rw [List.map_append, List.map_cons, List.map_nil, ev_emb, k8, ho]
          rw [← hm2]; rfl
      · have hA := hat 6 (by simp only [goes, k8, ho, Int.reduceEq, if_true, if_false, or_true, true_or]; rfl) (by omega)
        have hw : IntKind.i64.wrap (5 + 1) = 6 := IntWalk.i64_in _ (by omega)
        simp only [go_sem, ↓reduceIte, Nat.reduceAdd, Nat.reduceMul, Nat.reduceSub, Nat.reduceLT, Nat.reduceLeDiff, Nat.reduceEqDiff, Int.reduceToNat, Int.reduceEq, Int.reduceLT, Int.reduceLE, reduceCtorEq, h1, h1', k8, ho, hw, List.range_zero, List.nil_append, List.map_nil, List.set_cons_succ, List.set_cons_zero, selM, selI_eq, selJ, List.map_cons, List.take_succ_cons, List.take_zero, memAt, List.getD_cons_zero, List.getD_cons_succ]
        refine ⟨?_, ?_, i + 1, by omega, by omega, IntWalk.i64_in _ (by omega), ?_⟩
        · omega
        · have := hlen 6; omega
        rw [hL', hA]
        congr 1
        · congr 2
          refine arr9 ?_ ?_ ?_ ?_ ?_ ?_ ?_ ?_ ?_ fun k => ?_
          all_goals first | rfl | simp [updS, ren, renI, ltI]
        · have hm2 : (L 6 ++ [l.getD i dEv.dft]).map dEv.emb = (L 6).map dEv.emb ++ [.agg [.int .i64 8, .int .i64 (l.getD i dEv.dft).thr, .int .i64 1]] := by rw [List.map_append, List.map_cons, List.map_nil, ev_emb, k8, ho]
          rw [← hm2]; rfl
      · have hA := hat 7 (by simp only [goes, k8, ho, Int.reduceEq, if_true, if_false, or_true, true_or]; rfl) (by omega)
        have hw : IntKind.i64.wrap (5 + 2) = 7 := IntWalk.i64_in _ (by omega)
        simp only [go_sem, ↓reduceIte, Nat.reduceAdd, Nat.reduceMul, Nat.reduceSub, Nat.reduceLT, Nat.reduceLeDiff, Nat.reduceEqDiff, Int.reduceToNat, Int.reduceEq, Int.reduceLT, Int.reduceLE, reduceCtorEq, h1, h1', k8, ho, hw, List.range_zero, List.nil_append, List.map_nil, List.set_cons_succ, List.set_cons_zero, selM, selI_eq, selJ, List.map_cons, List.take_succ_cons, List.take_zero, memAt, List.getD_cons_zero, List.getD_cons_succ]
        refine ⟨?_, ?_, i + 1, by omega, by omega, IntWalk.i64_in _ (by omega), ?_⟩
        · omega
        · have := hlen 7; omega
        rw [hL', hA]
        congr 1
        · congr 2
          refine arr9 ?_ ?_ ?_ ?_ ?_ ?_ ?_ ?_ ?_ fun k => ?_
          all_goals first | rfl | simp [updS, ren, renI, ltI]
        · have hm2 : (L 7 ++ [l.getD i dEv.dft]).map dEv.emb = (L 7).map dEv.emb ++ [.agg [.int .i64 8, .int .i64 (l.getD i dEv.dft).thr, .int .i64 2]] := by rw [List.map_append, List.map_cons, List.map_nil, ev_emb, k8, ho]
          rw [← hm2]; rfl
      · have hA := hat 8 (by simp only [goes, k8, ho, Int.reduceEq, if_true, if_false, or_true, true_or]; rfl) (by omega)
        have hw : IntKind.i64.wrap (5 + 3) = 8 := IntWalk.i64_in _ (by omega)
        simp only [go_sem, ↓reduceIte, Nat.reduceAdd, Nat.reduceMul, Nat.reduceSub, Nat.reduceLT, Nat.reduceLeDiff, Nat.reduceEqDiff, Int.reduceToNat, Int.reduceEq, Int.reduceLT, Int.reduceLE, reduceCtorEq, h1, h1', k8, ho, hw, List.range_zero, List.nil_append, List.map_nil, List.set_cons_succ, List.set_cons_zero, selM, selI_eq, selJ, List.map_cons, List.take_succ_cons, List.take_zero, memAt, List.getD_cons_zero, List.getD_cons_succ]
        refine ⟨?_, ?_, i + 1, by omega, by omega, IntWalk.i64_in _ (by omega), ?_⟩
        · omega
        · have := hlen 8; omega
        rw [hL', hA]
        congr 1
        · congr 2
          refine arr9 ?_ ?_ ?_ ?_ ?_ ?_ ?_ ?_ ?_ fun k => ?_
          all_goals first | rfl | simp [updS, ren, renI, ltI]
        · have hm2 : (L 8 ++ [l.getD i dEv.dft]).map dEv.emb = (L 8).map dEv.emb ++ [.agg [.int .i64 8, .int .i64 (l.getD i dEv.dft).thr, .int .i64 3]] := by rw [List.map_append, List.map_cons, List.map_nil, ev_emb, k8, ho]
          rw [← hm2]; rfl
    · have hA : L' = L := by
        funext j
        rw [hs]
        split
        · rename_i e
          have hg : goes (l.getD i dEv.dft) = 9 := by
            unfold goes
            rw [if_neg k3, if_neg (by omega)]
          rw [e, hg, if_neg (by omega), ← hL]
          unfold syncF
          rw [if_neg (by omega), if_neg (by omega)]
        · rfl
      simp only [go_sem, ↓reduceIte, Nat.reduceAdd, Nat.reduceMul, Nat.reduceSub, Nat.reduceLT, Nat.reduceLeDiff, Nat.reduceEqDiff, Int.reduceToNat, Int.reduceEq, Int.reduceLT, Int.reduceLE, reduceCtorEq, h1, h1', k3, k7, k8]
      refine ⟨?_, i + 1, by omega, by omega, IntWalk.i64_in _ (by omega), ?_⟩
      · omega
      · rw [hL', hA]
        congr 1
        · congr 2
          refine arr9 ?_ ?_ ?_ ?_ ?_ ?_ ?_ ?_ ?_ fun k => ?_
          all_goals first | rfl | simp [ren, renI, ltI]
  · have h1' : ¬ (i : Int) < l.length := by omega
    have e : i = l.length := by omega
    subst e
    unfold j42_1
    rw [List.take_length]
    unfold syM
    simp only [go_sem, ↓reduceIte, Nat.reduceAdd, Nat.reduceMul, Nat.reduceSub, Nat.reduceLT, Nat.reduceLeDiff, Nat.reduceEqDiff, Int.reduceToNat, Int.reduceEq, Int.reduceLT, Int.reduceLE, reduceCtorEq, h1']
    unfold j42_2
    simp only [go_sem, ↓reduceIte, Nat.reduceAdd, Nat.reduceMul, Nat.reduceSub, Nat.reduceLT, Nat.reduceLeDiff, Nat.reduceEqDiff, Int.reduceToNat, Int.reduceEq, Int.reduceLT, Int.reduceLE, reduceCtorEq, tszSy]
    refine ⟨fun i hi => ?_, ?_⟩
    · have hc : i = 0 ∨ i = 1 ∨ i = 2 ∨ i = 3 ∨ i = 4 ∨ i = 5 ∨ i = 6 ∨ i = 7 ∨ i = 8 := by omega
      rcases hc with rfl | rfl | rfl | rfl | rfl | rfl | rfl | rfl | rfl
      all_goals simp only [go_sem, ↓reduceIte, Nat.reduceAdd, Nat.reduceMul, Nat.reduceSub, Nat.reduceLT, Nat.reduceLeDiff, Nat.reduceEqDiff, Int.reduceToNat, Int.reduceEq, Int.reduceLT, Int.reduceLE, reduceCtorEq]
    · congr 1
      refine arr9 ?_ ?_ ?_ ?_ ?_ ?_ ?_ ?_ ?_ fun k => ?_
      · simp only [go_sem, ↓reduceIte, Nat.reduceAdd, Nat.reduceMul, Nat.reduceSub, Nat.reduceLT, Nat.reduceLeDiff, Nat.reduceEqDiff, Int.reduceToNat, Int.reduceEq, Int.reduceLT, Int.reduceLE, reduceCtorEq]
      · simp only [go_sem, ↓reduceIte, Nat.reduceAdd, Nat.reduceMul, Nat.reduceSub, Nat.reduceLT, Nat.reduceLeDiff, Nat.reduceEqDiff, Int.reduceToNat, Int.reduceEq, Int.reduceLT, Int.reduceLE, reduceCtorEq]
      · simp only [go_sem, ↓reduceIte, Nat.reduceAdd, Nat.reduceMul, Nat.reduceSub, Nat.reduceLT, Nat.reduceLeDiff, Nat.reduceEqDiff, Int.reduceToNat, Int.reduceEq, Int.reduceLT, Int.reduceLE, reduceCtorEq]
      · simp only [go_sem, ↓reduceIte, Nat.reduceAdd, Nat.reduceMul, Nat.reduceSub, Nat.reduceLT, Nat.reduceLeDiff, Nat.reduceEqDiff, Int.reduceToNat, Int.reduceEq, Int.reduceLT, Int.reduceLE, reduceCtorEq]
      · simp only [go_sem, ↓reduceIte, Nat.reduceAdd, Nat.reduceMul, Nat.reduceSub, Nat.reduceLT, Nat.reduceLeDiff, Nat.reduceEqDiff, Int.reduceToNat, Int.reduceEq, Int.reduceLT, Int.reduceLE, reduceCtorEq]
      · simp only [go_sem, ↓reduceIte, Nat.reduceAdd, Nat.reduceMul, Nat.reduceSub, Nat.reduceLT, Nat.reduceLeDiff, Nat.reduceEqDiff, Int.reduceToNat, Int.reduceEq, Int.reduceLT, Int.reduceLE, reduceCtorEq]
      · simp only [go_sem, ↓reduceIte, Nat.reduceAdd, Nat.reduceMul, Nat.reduceSub, Nat.reduceLT, Nat.reduceLeDiff, Nat.reduceEqDiff, Int.reduceToNat, Int.reduceEq, Int.reduceLT, Int.reduceLE, reduceCtorEq]
      · simp only [go_sem, ↓reduceIte, Nat.reduceAdd, Nat.reduceMul, Nat.reduceSub, Nat.reduceLT, Nat.reduceLeDiff, Nat.reduceEqDiff, Int.reduceToNat, Int.reduceEq, Int.reduceLT, Int.reduceLE, reduceCtorEq]
      · simp only [go_sem, ↓reduceIte, Nat.reduceAdd, Nat.reduceMul, Nat.reduceSub, Nat.reduceLT, Nat.reduceLeDiff, Nat.reduceEqDiff, Int.reduceToNat, Int.reduceEq, Int.reduceLT, Int.reduceLE, reduceCtorEq]
      · rw [if_neg (by omega), show syncF l (k + 9) = [] by rw [syncF, if_neg (by omega), if_neg (by omega)]]
        rfl
end Go.Proofs.Ytohbjnpafpcbkaa.Tp
