/- The reference's Ahead: a table of what is ahead, closed round after round. Conditions: none. -/
import Derived.Test.YtgcbhanfhnianaaOrderR
import Derived.Test.YtgcbhanfhnianaaOrderP
section
set_option linter.unusedSimpArgs false
set_option linter.unusedVariables false
set_option maxRecDepth 100000
open Go Go.Sx Go.Proofs
namespace Go.Proofs.Ytgcbhanfhnianaa.Ah
open Go.Proofs.Ytgcbhanfhnianaa.D Go.Proofs.Ytgcbhanfhnianaa.Tr Go.Proofs.Ytgcbhanfhnianaa.Ps Go.Proofs.Ytgcbhanfhnianaa.Od
def upd2 (M : Nat → Nat → Bool) (a b : Nat) (v : Bool) : Nat → Nat → Bool := fun a' b' => if a' = a ∧ b' = b then v else M a' b'
section
variable {T U : TypeId} {n r : Nat} {M M' : Nat → Nat → Bool}
end
def clo (M : Nat → Nat → Bool) (k : Nat) : Nat → Nat → Bool := fun a b => M a b || M a k && M k b
def rounds (M : Nat → Nat → Bool) : Nat → Nat → Nat → Bool
  | 0 => M
  | k + 1 => clo (rounds M k) k
def rowsOf (n : Nat) (M : Nat → Nat → Bool) : List (List Bool) := tb n fun a => tb n fun b => M a b
def aheadR (l : List Ev) : Nat → Nat → Bool := rounds (upP (dirL l)) l.length
end Go.Proofs.Ytgcbhanfhnianaa.Ah
end
section
set_option linter.unusedSimpArgs false
set_option linter.unusedVariables false
set_option maxRecDepth 100000
open Go Go.Sx Go.Proofs
namespace Go.Proofs.Ytgcbhanfhnianaa.Ah
open Go.Proofs.Ytgcbhanfhnianaa.D Go.Proofs.Ytgcbhanfhnianaa.Tr Go.Proofs.Ytgcbhanfhnianaa.Ps Go.Proofs.Ytgcbhanfhnianaa.Od
def mp (T U E : TypeId) (l : List Ev) (n r : Nat) (M : Nat → Nat → Bool) : List Res :=
  .vec T 1 (tb n fun k => if k < r then .vec (2 * k + 2) n else .nils) :: tb (2 * r) fun t => if t % 2 = 0 then .blk E (dEv.emb (l.getD (t / 2) dEv.dft)) else .vec U 1 (tb n fun b => .bool (M (t / 2) b))
section
variable {T U E : TypeId} {l : List Ev} {n r : Nat} {M M' : Nat → Nat → Bool}
theorem mp_len : (mp T U E l n r M).length = 2 * r + 1 := by simp [mp, tb_len]
theorem mp_at0 : memAt (mp T U E l n r M) 0 = .vec T 1 (tb n fun k => if k < r then .vec (2 * k + 2) n else .nils) := rfl
theorem mp_box {a : Nat} (h : a < r) : memAt (mp T U E l n r M) (2 * a + 1) = .blk E (.agg [.int .i64 (l.getD a dEv.dft).kind, .int .i64 (l.getD a dEv.dft).thr, .int .i64 (l.getD a dEv.dft).obj]) := by
  have := memAt_tb (n := 2 * r) (i := 2 * a) (f := fun t => if t % 2 = 0 then Res.blk E (dEv.emb (l.getD (t / 2) dEv.dft)) else .vec U 1 (tb n fun b => .bool (M (t / 2) b))) (by omega)
  rw [if_pos (by omega), show 2 * a / 2 = a by omega] at this
  exact this
theorem mp_at {a : Nat} (h : a < r) : memAt (mp T U E l n r M) (2 * a + 2) = .vec U 1 (tb n fun b => .bool (M a b)) := by
  have := memAt_tb (n := 2 * r) (i := 2 * a + 1) (f := fun t => if t % 2 = 0 then Res.blk E (dEv.emb (l.getD (t / 2) dEv.dft)) else .vec U 1 (tb n fun b => .bool (M (t / 2) b))) (by omega)
  rw [if_neg (by omega), show (2 * a + 1) / 2 = a by omega] at this
  exact this
theorem mp_set {a b : Nat} {v : Bool} : (mp T U E l n r M).set (2 * a + 2) (.vec U 1 ((tb n fun b => .bool (M a b)).set b (.bool v))) = mp T U E l n r (upd2 M a b v) := by
  simp only [mp, List.set_cons_succ, tb_set]
  congr 1
  refine tb_congr fun i hi => ?_
  by_cases e : i = 2 * a + 1
  · subst e
    simp only [if_true, show ¬ (2 * a + 1) % 2 = 0 by omega, if_false, show (2 * a + 1) / 2 = a by omega]
    congr 1
    refine tb_congr fun j hj => ?_
    by_cases e : j = b <;> simp [upd2, e]
  · rw [if_neg e]
    split
    · rfl
    · congr 1
      refine tb_congr fun j hj => ?_
      simp [upd2, show ¬ i / 2 = a by omega]
theorem mp_trim {k : Nat} (hk : k = 2 * r + 1) : (List.take k (mp T U E l n r M)).map (renR (ltI k)) = mp T U E l n r M := by
  subst hk
  have h1 : (mp T U E l n r M).take (2 * r + 1) = mp T U E l n r M := List.take_of_length_le (by rw [mp_len]; exact Nat.le_refl _)
  rw [h1]
  simp only [mp, List.map_cons, tb_map, renR, tb_renL]
  congr 1
  · congr 1
    refine tb_congr fun i hi => ?_
    split
    · rename_i h; simp only [ren, renI, ltI, show 2 * i + 2 < 2 * r + 1 by omega, if_true]
    · rfl
  · refine tb_congr fun i hi => ?_
    by_cases e : i % 2 = 0
    · simp only [e, if_true, renR, dEv.ren]
    · simp only [e, if_false, renR, tb_renL]; rfl
theorem mp_congr (h : ∀ a b, a < r → b < n → M a b = M' a b) : mp T U E l n r M = mp T U E l n r M' := by
  simp only [mp]
  congr 1
  refine tb_congr fun i hi => ?_
  split
  · rfl
  · congr 1
    exact tb_congr fun j hj => by rw [h (i / 2) j (by omega) hj]
theorem mp_more_at (x : List Res) : memAt (mp T U E l n r M ++ x) 0 = .vec T 1 (tb n fun k => if k < r then .vec (2 * k + 2) n else .nils) := rfl
theorem mp_new_at (x : Res) : memAt (mp T U E l n r M ++ [x]) (2 * r + 1) = x := by
  unfold memAt
  rw [List.getD, List.getElem?_append_right (by rw [mp_len]; exact Nat.le_refl _), mp_len]
  simp
theorem mp_new_set (x y : Res) : (mp T U E l n r M ++ [x]).set (2 * r + 1) y = mp T U E l n r M ++ [y] := by
  rw [List.set_append_right _ _ (by rw [mp_len]; exact Nat.le_refl _), mp_len]
  simp
theorem mp_row {a : Nat} (h : a < n) (h2 : a < r) : (tb n fun k => if k < r then SV.vec (2 * k + 2) n else SV.nils).getD a .junk = .vec (2 * a + 2) n := by rw [tb_getD h, if_pos h2]
theorem mp_free {a : Nat} (h : a < n) (h2 : r ≤ a) : (tb n fun k => if k < r then SV.vec (2 * k + 2) n else SV.nils).getD a .junk = .nils := by rw [tb_getD h, if_neg (by omega)]
theorem mp_more : (mp T U E l n r M ++ [Res.blk E (.agg [.int .i64 (l.getD r dEv.dft).kind, .int .i64 (l.getD r dEv.dft).thr, .int .i64 (l.getD r dEv.dft).obj]), Res.vec U 1 (List.replicate n (SV.bool false))]).set 0 (.vec T 1 ((tb n fun k => if k < r then SV.vec (2 * k + 2) n else SV.nils).set r (.vec (2 * r + 1 + 1) n))) = mp T U E l n (r + 1) (fun a b => if a < r then M a b else false) := by
  simp only [mp, List.cons_append, List.set_cons_zero, tb_set, tb_replicate]
  rw [show 2 * (r + 1) = 2 * r + 1 + 1 by omega, tb_snoc, tb_snoc]
  congr 1
  · congr 1
    refine tb_congr fun i hi => ?_
    by_cases e : i = r
    · subst e; simp
    · by_cases e2 : i < r
      · simp [e, e2, show i < r + 1 by omega]
      · simp [e, e2, show ¬ i < r + 1 by omega]
  · rw [List.append_assoc]
    congr 1
    · exact tb_congr fun i hi => by simp [show i / 2 < r by omega]
    · simp only [List.cons_append, List.nil_append]
      rw [if_pos (by omega), if_neg (by omega), show 2 * r / 2 = r by omega, show (2 * r + 1) / 2 = r by omega]
      simp [ev_emb]
theorem mp_start : [Res.vec T 1 (List.replicate n .nils)] = mp T U E l n 0 M := by simp [mp, tb_replicate, tb_zero]
theorem mp_decP : allL (tb n fun k => if k < n then SV.vec (2 * k + 2) n else SV.nils) fun y => (DT.list 1 DT.bool).decP (mp T U E l n n M) y := by
  intro y hy
  obtain ⟨i, hi, rfl⟩ := List.getElem_of_mem hy
  rw [tb_len] at hi
  have e : (tb n fun k => if k < n then SV.vec (2 * k + 2) n else SV.nils)[i]'(by rw [tb_len]; exact hi) = .vec (2 * i + 2) n := by
    have := tb_get? (f := fun k => if k < n then SV.vec (2 * k + 2) n else SV.nils) (n := n) i
    rw [if_pos hi, if_pos hi] at this
    exact (List.getElem?_eq_some_iff.1 this).2
  rw [e, list_decP_vec, mp_at hi]
  refine ⟨rfl, ?_⟩
  rw [tb_bools, allL_map]
  intro y _
  trivial
theorem mp_decV : (tb n fun k => if k < n then SV.vec (2 * k + 2) n else SV.nils).map (fun y => (DT.list 1 DT.bool).decV (mp T U E l n n M) y) = tb n fun a => tb n fun b => M a b := by
  rw [tb_map]
  refine tb_congr fun i hi => ?_
  rw [if_pos hi, list_decV_vec, mp_at hi]
  simp only [tb_map]
  exact tb_congr fun j hj => rfl
end
def stepRow (l : List Ev) (R : Nat → Nat → Bool) (j i : Nat) (row : Nat → Bool) : Nat → Bool := if (!row i && dirL l i j) = true then fun k => decide (k = i) || row k || R i k else row
def rowD (l : List Ev) (R : Nat → Nat → Bool) (j : Nat) : Nat → Nat → Bool
  | 0 => fun _ => false
  | s + 1 => stepRow l R j (j - 1 - s) (rowD l R j s)
def tabP (l : List Ev) : Nat → Nat → Nat → Bool
  | 0 => fun _ _ => false
  | j + 1 => fun a b => if a = j then rowD l (tabP l j) j j b else tabP l j a b
def withRow (R : Nat → Nat → Bool) (j : Nat) (row : Nat → Bool) : Nat → Nat → Bool := fun a b => if a = j then row b else R a b
def j116_1 : JC :=
  (.seq (.ops <|
  qo 59 (.cmp .lss (.t 58) (.t 57)) <|
  .nil)
  (.prune [59, 58, 56, 3, 4, 57, 6, 0, 5, 14, 13, 12] (.seq (.cond (.t 59)
  .skip
  (.exit 4))
  (.prune [58, 56, 3, 4, 57, 6, 0, 5, 14, 13, 12] (.seq (.block 5 (.seq (.ops <|
  qo 60 (.mv (.t 58)) <|
  qo 61 (.is 1 (.t 56) (.t 58)) <|
  eo 62 (.load 1 false (.t 61)) <|
  qo 7 (.mv (.t 60)) <|
  qo 8 (.mv (.t 62)) <|
  .nil)
  (.prune [3, 4, 7, 8, 58, 57, 56, 6, 0, 5, 14, 13, 12] (.dops <|
  qo 63 (.mv (.t 3)) <|
  qo 64 (.mv (.t 4)) <|
  qo 65 (.is 1 (.t 63) (.t 64)) <|
  eo 66 (.load 1 false (.t 65)) <|
  .prune [7, 3, 4, 8, 66, 58, 57, 56, 6, 0, 5, 14, 13, 12] <|
  qo 67 (.mv (.t 7)) <|
  qo 68 (.mv (.t 3)) <|
  qo 69 (.mv (.t 4)) <|
  qo 70 (.is 1 (.t 68) (.t 69)) <|
  eo 71 (.load 1 false (.t 70)) <|
  .prune [7, 71, 8, 66, 67, 58, 57, 56, 3, 4, 6, 0, 5, 14, 13, 12] <|
  qo 72 (.mv (.t 7)) <|
  qo 73 (.is 1 (.t 71) (.t 72)) <|
  .prune [73, 8, 66, 67, 58, 57, 56, 3, 4, 6, 0, 5, 14, 13, 12] <|
  eo 74 (.load 1 false (.t 73)) <|
  qo 75 (.mv (.t 74)) <|
  .sc true 77 75 (qo 76 (.mv (.t 8)) <|
  .nil) (.t 76) <|
  qo 78 (.is 1 (.t 66) (.t 67)) <|
  en (.store 1 (.t 78) (.t 77)) <|
  .nil))))
  (.prune [58, 57, 56, 3, 4, 6, 0, 5, 14, 13, 12] (.ops <|
  qo 79 (.ar .add (.t 58) (I 1)) <|
  qo 58 (.mv (.t 79)) <|
  .nil)))))))
def j116_2 : JC :=
  (.prune [6, 3, 4, 0, 5, 14, 13, 12] (.ops <|
  qo 29 (.mv (.t 6)) <|
  qo 30 (.ar .sub (.t 29) (I 1)) <|
  qo 6 (.mv (.t 30)) <|
  .nil))
def j116_3 : JC :=
  (.seq (.seq (.ops <|
  qo 27 (.mv (.t 6)) <|
  qo 28 (.cmp .geq (.t 27) (I 0)) <|
  .nil)
  (.cond (.t 28)
  .skip
  (.exit 2)))
  (.prune [3, 4, 6, 0, 5, 14, 13, 12] (.seq (.block 3 (.seq (.dops <|
  qo 31 (.mv (.t 3)) <|
  qo 32 (.mv (.t 4)) <|
  qo 33 (.is 1 (.t 31) (.t 32)) <|
  eo 34 (.load 1 false (.t 33)) <|
  .prune [6, 34, 0, 5, 3, 4, 14, 13, 12] <|
  qo 35 (.mv (.t 6)) <|
  qo 36 (.is 1 (.t 34) (.t 35)) <|
  eo 37 (.load 1 false (.t 36)) <|
  .prune [37, 0, 6, 5, 3, 4, 14, 13, 12] <|
  qo 38 (.nt (.t 37)) <|
  qo 39 (.mv (.t 38)) <|
  .sc false 46 39 (qo 40 (.mv (.t 0)) <|
  qo 41 (.mv (.t 6)) <|
  qo 42 (.is 3 (.t 40) (.t 41)) <|
  eo 43 (.load 3 true (.t 42)) <|
  eo 44 (.load 3 true (.t 5)) <|
  eo 45 (.qcall 139 [(.t 43), (.t 44)]) <|
  .nil) (.t 45) <|
  .nil)
  (.prune [46, 3, 4, 6, 0, 5, 14, 13, 12] (.cond (.t 46)
  (.seq (.ops <|
  qo 47 (.mv (.t 3)) <|
  qo 48 (.mv (.t 4)) <|
  qo 49 (.is 1 (.t 47) (.t 48)) <|
  .prune [49, 6, 3, 4, 0, 5, 14, 13, 12] <|
  eo 50 (.load 1 false (.t 49)) <|
  qo 51 (.mv (.t 6)) <|
  qo 52 (.is 1 (.t 50) (.t 51)) <|
  en (.store 1 (.t 52) (B true)) <|
  .nil)
  (.prune [3, 6, 4, 0, 5, 14, 13, 12] (.seq (.ops <|
  qo 53 (.mv (.t 3)) <|
  qo 54 (.mv (.t 6)) <|
  qo 55 (.is 1 (.t 53) (.t 54)) <|
  eo 56 (.load 1 false (.t 55)) <|
  qo 57 (.len (.t 56)) <|
  qo 58 (.mv (I 0)) <|
  .nil)
  (.prune [58, 57, 56, 3, 4, 6, 0, 5, 14, 13, 12] (.block 4 (.loop [57, 56, 3, 4, 6, 0, 5, 14, 13, 12] [58] j116_1))))))
  .skip))))
  j116_2)))
def j116_4 : JC :=
  (.prune [14, 13, 12, 3, 0] (.ops <|
  qo 80 (.ar .add (.t 14) (I 1)) <|
  qo 14 (.mv (.t 80)) <|
  .nil))
def j116_5 : JC :=
  (.seq (.ops <|
  qo 15 (.cmp .lss (.t 14) (.t 13)) <|
  .nil)
  (.seq (.cond (.t 15)
  .skip
  (.exit 0))
  (.seq (.block 1 (.seq (.ops <|
  qo 16 (.mv (.t 14)) <|
  qo 17 (.is 3 (.t 12) (.t 14)) <|
  eo 18 (.load 3 true (.t 17)) <|
  eo 5 (.alloc 35 (.agg [(.int .i64 0), (.int .i64 0), (.int .i64 0)])) <|
  qo 4 (.mv (.t 16)) <|
  en (.store 3 (.t 5) (.t 18)) <|
  .nil)
  (.prune [3, 4, 0, 5, 14, 13, 12] (.seq (.ops <|
  qo 19 (.mv (.t 3)) <|
  qo 20 (.mv (.t 4)) <|
  qo 21 (.mv (.t 0)) <|
  qo 22 (.len (.t 21)) <|
  eo 23 (.mks 4 1 1 (.bool false) (.t 22) (.t 22)) <|
  qo 24 (.is 1 (.t 19) (.t 20)) <|
  en (.store 1 (.t 24) (.t 23)) <|
  .nil)
  (.prune [4, 3, 0, 5, 14, 13, 12] (.seq (.ops <|
  qo 25 (.mv (.t 4)) <|
  qo 26 (.ar .sub (.t 25) (I 1)) <|
  qo 6 (.mv (.t 26)) <|
  .nil)
  (.prune [6, 3, 4, 0, 5, 14, 13, 12] (.block 2 (.loop [3, 4, 0, 5, 14, 13, 12] [6] j116_3)))))))))
  j116_4)))
def j116_6 : JC :=
  (.prune [3] (.seq (.ops <|
  qo 81 (.mv (.t 3)) <|
  qo 2 (.mv (.t 81)) <|
  .nil)
  (.vecs 2 105 1 (.frz 2 dRows.frz .ret))))
def j116 : JC :=
  (.seq (.ops <|
  qo 2 (.mv (.c .nils)) <|
  .nil)
  (.seq (.ops <|
  qo 9 (.mv (.t 0)) <|
  qo 10 (.len (.t 9)) <|
  eo 11 (.mks 105 1 24 .nils (.t 10) (.t 10)) <|
  qo 3 (.mv (.t 11)) <|
  .nil)
  (.seq (.seq (.ops <|
  qo 12 (.mv (.t 0)) <|
  qo 13 (.len (.t 12)) <|
  qo 14 (.mv (I 0)) <|
  .nil)
  (.block 0 (.loop [13, 12, 3, 0] [14] j116_5)))
  j116_6)))
theorem c116 : fnIs Try.prog qall 116 = some (j116.flat, [.tmp 2], 82) := by kernel_rfl
theorem w116 : j116.wf 82 = true := by kernel_rfl
theorem f_ahead (l : List Ev) (hl : l.length ≤ 1000) : FnOK Try.prog 116 [dEs.emb l] [] (dRows.emb (rowsOf l.length (tabP l l.length))) [] := by
  refine fn_walkF c116 w116 Gd1_ok rfl ?_
  unfold j116
  simp only [go_sem, ↓reduceIte, Nat.reduceAdd, Nat.reduceMul, Nat.reduceSub, Nat.reduceLT, Nat.reduceLeDiff, Nat.reduceEqDiff, Int.reduceToNat, Int.reduceEq, Int.reduceLT, Int.reduceLE, reduceCtorEq]
  refine ⟨by omega, ?_⟩
  rw [mp_start (U := 4) (E := 35) (l := l) (M := fun _ _ => false)]
  refine loopF Nat (fun i => [.int .i64 i]) (fun i => mp 105 4 35 l l.length i (tabP l i)) (fun i => i ≤ l.length) (fun i => l.length - i) 0 (by omega) ?_ ?_ ?_
  · simp only [go_sem, ↓reduceIte, Nat.reduceAdd, Nat.reduceMul, Nat.reduceSub, Nat.reduceLT, Nat.reduceLeDiff, Nat.reduceEqDiff, Int.reduceToNat, Int.reduceEq, Int.reduceLT, Int.reduceLE, reduceCtorEq]
  · exact mp_congr fun a b ha hb => absurd ha (Nat.not_lt_zero _)
  intro j hj
  by_cases h1 : j < l.length
  · have h1' : (j : Int) < l.length := by omega
    have hf := mp_free (r := j) h1 (Nat.le_refl _)
    unfold j116_5
    simp only [go_sem, ↓reduceIte, Nat.reduceAdd, Nat.reduceMul, Nat.reduceSub, Nat.reduceLT, Nat.reduceLeDiff, Nat.reduceEqDiff, Int.reduceToNat, Int.reduceEq, Int.reduceLT, Int.reduceLE, reduceCtorEq, mp_more_at, mp_len, mp_new_at, mp_new_set, List.length_append, mp_more, hf, h1, h1']
    have hw : IntKind.i64.wrap ((j : Int) - 1) = (j : Int) - 1 := IntWalk.i64_in _ (by omega)
    refine ⟨by omega, ⟨by omega, by omega, by omega⟩, by omega, ?_⟩
    generalize hR : tabP l j = R
    refine loopF Nat (fun c => [.int .i64 ((c : Int) - 1)]) (fun c => mp 105 4 35 l l.length (j + 1) (withRow R j (rowD l R j (j - c)))) (fun c => c ≤ j) (fun c => c) j (Nat.le_refl _) ?_ ?_ ?_
    · simp only [go_sem, ↓reduceIte, Nat.reduceAdd, Nat.reduceMul, Nat.reduceSub, Nat.reduceLT, Nat.reduceLeDiff, Nat.reduceEqDiff, Int.reduceToNat, Int.reduceEq, Int.reduceLT, Int.reduceLE, reduceCtorEq]
      exact hw
    · refine mp_congr fun a b ha hb => ?_
      by_cases e : a = j
      · subst e; simp [withRow, rowD]
      · simp [withRow, e, show a < j by omega]
    intro c hc
    cases c with
    | zero =>
      have hz : ¬ (0 : Int) ≤ 0 - 1 := by decide
      unfold j116_3
      simp only [go_sem, ↓reduceIte, Nat.reduceAdd, Nat.reduceMul, Nat.reduceSub, Nat.reduceLT, Nat.reduceLeDiff, Nat.reduceEqDiff, Int.reduceToNat, Int.reduceEq, Int.reduceLT, Int.reduceLE, reduceCtorEq, hz]
      unfold j116_4
      simp only [go_sem, ↓reduceIte, Nat.reduceAdd, Nat.reduceMul, Nat.reduceSub, Nat.reduceLT, Nat.reduceLeDiff, Nat.reduceEqDiff, Int.reduceToNat, Int.reduceEq, Int.reduceLT, Int.reduceLE, reduceCtorEq, mp_len]
      refine ⟨j + 1, by omega, by omega, IntWalk.i64_in _ (by omega), ?_⟩
      rw [mp_trim rfl]
      refine mp_congr fun a b ha hb => ?_
      simp only [withRow, tabP, hR, Nat.sub_zero]
    | succ i =>
      have hij : i < j := by omega
      have hbx : 2 * j + 1 < 2 * (j + 1) + 1 := by omega
      have hin : i < l.length := by omega
      have hc' : ((i + 1 : Nat) : Int) - 1 = (i : Int) := by omega
      have hp : (0 : Int) ≤ (i : Int) := by omega
      have ei : j - i = (j - (i + 1)) + 1 := by omega
      have es : j - 1 - (j - (i + 1)) = i := by omega
      have hstep : rowD l R j (j - i) = stepRow l R j i (rowD l R j (j - (i + 1))) := by rw [ei, rowD, es]
      generalize hrow : rowD l R j (j - (i + 1)) = row at hstep ⊢
      have hMj : ∀ b, withRow R j row j b = row b := fun b => by simp [withRow]
      have rj := mp_row (r := j + 1) h1 (Nat.lt_succ_self j)
      have ri := mp_row (r := j + 1) hin (show i < j + 1 by omega)
      have bj := mp_box (T := 105) (U := 4) (E := 35) (l := l) (n := l.length) (M := withRow R j row) (Nat.lt_succ_self j)
      have aj := mp_at (T := 105) (U := 4) (E := 35) (l := l) (n := l.length) (M := withRow R j row) (Nat.lt_succ_self j)
      have gji : (tb l.length fun b => SV.bool (withRow R j row j b)).getD i .junk = .bool (row i) := by rw [tb_getD hin, hMj]
      have hwi : IntKind.i64.wrap ((i : Int) - 1) = (i : Int) - 1 := IntWalk.i64_in _ (by omega)
      unfold j116_3
      simp only [go_sem, ↓reduceIte, Nat.reduceAdd, Nat.reduceMul, Nat.reduceSub, Nat.reduceLT, Nat.reduceLeDiff, Nat.reduceEqDiff, Int.reduceToNat, Int.reduceEq, Int.reduceLT, Int.reduceLE, reduceCtorEq, Gd1_eq, mp_at0, mp_len, mp_set, hc', hp, rj, ri, bj, aj, gji, h1', hin]
      have hRj : ∀ b, rowD l R j (j - i) b = (if (!row i && dirL l i j) = true then decide (b = i) || row b || R i b else row b) := fun b => by rw [hstep, stepRow]; split <;> rfl
      refine ⟨by omega, by omega, by omega, fun _ => by omega, fun hT => ⟨by omega, by omega, by omega, by omega, ?_⟩, fun hF => ?_⟩
      · have hT : (!row i && dirL l i j) = true := hT
        refine loopF Nat (fun k => [.int .i64 k]) (fun k => mp 105 4 35 l l.length (j + 1) (withRow R j fun b => decide (b = i) || row b || (decide (b < k) && R i b))) (fun k => k ≤ l.length) (fun k => l.length - k) 0 (Nat.zero_le _) ?_ ?_ ?_
        · simp only [go_sem, ↓reduceIte, Nat.reduceAdd, Nat.reduceMul, Nat.reduceSub, Nat.reduceLT, Nat.reduceLeDiff, Nat.reduceEqDiff, Int.reduceToNat, Int.reduceEq, Int.reduceLT, Int.reduceLE, reduceCtorEq]
        · refine mp_congr fun a b ha hb => ?_
          by_cases e : a = j
          · subst e
            by_cases e2 : b = i
            · subst e2; simp [withRow, upd2]
            · simp [withRow, upd2, e2]
          · simp [withRow, upd2, e]
        intro k hk
        by_cases h2 : k < l.length
        · have h2' : (k : Int) < l.length := by omega
          have aj := mp_at (T := 105) (U := 4) (E := 35) (l := l) (n := l.length) (M := withRow R j fun b => decide (b = i) || row b || (decide (b < k) && R i b)) (Nat.lt_succ_self j)
          have ai := mp_at (T := 105) (U := 4) (E := 35) (l := l) (n := l.length) (M := withRow R j fun b => decide (b = i) || row b || (decide (b < k) && R i b)) (show i < j + 1 by omega)
          have gjk : (tb l.length fun b => SV.bool (withRow R j (fun b => decide (b = i) || row b || (decide (b < k) && R i b)) j b)).getD k .junk = .bool (decide (k = i) || row k) := by rw [tb_getD h2]; simp [withRow]
          have gik : (tb l.length fun b => SV.bool (withRow R j (fun b => decide (b = i) || row b || (decide (b < k) && R i b)) i b)).getD k .junk = .bool (R i k) := by rw [tb_getD h2]; simp [withRow, show ¬ i = j by omega]
          unfold j116_1
          have hix : 2 * i + 2 < 2 * (j + 1) + 1 := by omega
          simp only [go_sem, ↓reduceIte, Nat.reduceAdd, Nat.reduceMul, Nat.reduceSub, Nat.reduceLT, Nat.reduceLeDiff, Nat.reduceEqDiff, Int.reduceToNat, Int.reduceEq, Int.reduceLT, Int.reduceLE, reduceCtorEq, mp_at0, mp_len, mp_set, hbx, hix, h2', rj, ri, ai, aj, gjk, gik, h1', hin, h2]
          refine ⟨by omega, by omega, by omega, by omega, by omega, by omega, by omega, k + 1, by omega, by omega, IntWalk.i64_in _ (by omega), ?_⟩
          rw [mp_trim rfl]
          refine mp_congr fun a b ha hb => ?_
          unfold upd2 withRow
          by_cases e : a = j
          · subst e
            by_cases e2 : b = k
            · subst e2
              simp
            · have e3 : (b < k) ↔ (b < k + 1) := by omega
              simp [e2, e3]
          · simp [e]
        · have h2' : ¬ (k : Int) < l.length := by omega
          unfold j116_1
          simp only [go_sem, ↓reduceIte, Nat.reduceAdd, Nat.reduceMul, Nat.reduceSub, Nat.reduceLT, Nat.reduceLeDiff, Nat.reduceEqDiff, Int.reduceToNat, Int.reduceEq, Int.reduceLT, Int.reduceLE, reduceCtorEq, h2']
          unfold j116_2
          simp only [go_sem, ↓reduceIte, Nat.reduceAdd, Nat.reduceMul, Nat.reduceSub, Nat.reduceLT, Nat.reduceLeDiff, Nat.reduceEqDiff, Int.reduceToNat, Int.reduceEq, Int.reduceLT, Int.reduceLE, reduceCtorEq, mp_len, hbx]
          refine ⟨i, by omega, by omega, hwi, ?_⟩
          rw [mp_trim rfl]
          refine mp_congr fun a b ha hb => ?_
          simp only [withRow, hRj, if_pos hT]
          have : b < k := by omega
          simp [this]
      · have hF : (!row i && dirL l i j) = false := hF
        unfold j116_2
        simp only [go_sem, ↓reduceIte, Nat.reduceAdd, Nat.reduceMul, Nat.reduceSub, Nat.reduceLT, Nat.reduceLeDiff, Nat.reduceEqDiff, Int.reduceToNat, Int.reduceEq, Int.reduceLT, Int.reduceLE, reduceCtorEq, mp_len, hbx]
        refine ⟨i, by omega, by omega, hwi, ?_⟩
        rw [mp_trim rfl]
        refine mp_congr fun a b ha hb => ?_
        simp [withRow, hRj, hF]
  · have h1' : ¬ (j : Int) < l.length := by omega
    unfold j116_5
    simp only [go_sem, ↓reduceIte, Nat.reduceAdd, Nat.reduceMul, Nat.reduceSub, Nat.reduceLT, Nat.reduceLeDiff, Nat.reduceEqDiff, Int.reduceToNat, Int.reduceEq, Int.reduceLT, Int.reduceLE, reduceCtorEq, h1']
    unfold j116_6
    simp only [go_sem, ↓reduceIte, Nat.reduceAdd, Nat.reduceMul, Nat.reduceSub, Nat.reduceLT, Nat.reduceLeDiff, Nat.reduceEqDiff, Int.reduceToNat, Int.reduceEq, Int.reduceLT, Int.reduceLE, reduceCtorEq, mp_at0]
    have ek : j = l.length := by omega
    subst ek
    exact ⟨mp_decP, by rw [mp_decV]; rfl⟩
end Go.Proofs.Ytgcbhanfhnianaa.Ah
end
