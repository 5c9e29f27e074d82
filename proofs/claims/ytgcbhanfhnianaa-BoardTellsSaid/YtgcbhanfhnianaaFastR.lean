/- fast.run. Conditions: none. -/
import Derived.Test.YtgcbhanfhnianaaFastC
set_option linter.unusedSimpArgs false
set_option linter.unusedVariables false
set_option maxRecDepth 100000
open Go Go.Sx Go.Proofs
namespace Go.Proofs.Ytgcbhanfhnianaa.Fa
open Go.Proofs.Ytgcbhanfhnianaa.D Go.Proofs.Ytgcbhanfhnianaa.Tr Go.Proofs.Ytgcbhanfhnianaa.C Go.Proofs.Ytgcbhanfhnianaa.Fu
def j52_1 : JC :=
  (.seq (.ops <|
  qo 26 (.cmp .lss (.t 25) (I 8)) <|
  .nil)
  (.seq (.cond (.t 26)
  .skip
  (.exit 0))
  (.seq (.block 1 (.seq (.ops <|
  qo 27 (.mv (.t 25)) <|
  qo 8 (.mv (.t 27)) <|
  .nil)
  (.ops <|
  qo 28 (.mv (.t 8)) <|
  .prune [7, 28, 25, 0] <|
  eo 29 (.call 94 []) <|
  qo 30 (.ia 8 1 (.t 7) (.t 28)) <|
  en (.store 1 (.t 30) (.t 29)) <|
  .nil)))
  (.prune [25, 7, 0] (.ops <|
  qo 31 (.ar .add (.t 25) (I 1)) <|
  qo 25 (.mv (.t 31)) <|
  .nil)))))
def j52_2 : JC :=
  (.seq (.ops <|
  qo 36 (.cmp .lss (.t 35) (.t 34)) <|
  .nil)
  (.seq (.cond (.t 36)
  .skip
  (.exit 2))
  (.seq (.block 3 (.seq (.ops <|
  qo 37 (.mv (.t 35)) <|
  qo 38 (.is 3 (.t 33) (.t 35)) <|
  eo 39 (.load 3 true (.t 38)) <|
  eo 12 (.alloc 35 (.agg [(.int .i64 0), (.int .i64 0), (.int .i64 0)])) <|
  qo 11 (.mv (.t 37)) <|
  en (.store 3 (.t 12) (.t 39)) <|
  .nil)
  (.prune [12, 10, 35, 34, 33, 7, 9, 11] (.seq (.ops <|
  qo 40 (.fa 0 0 (.t 12)) <|
  eo 41 (.load 1 false (.t 40)) <|
  qo 42 (.cmp .neq (.t 41) (I 1)) <|
  qo 43 (.mv (.t 42)) <|
  .prune [43, 12, 10, 35, 34, 33, 7, 9, 11] <|
  .sc false 47 43 (qo 44 (.fa 0 0 (.t 12)) <|
  eo 45 (.load 1 false (.t 44)) <|
  qo 46 (.cmp .neq (.t 45) (I 2)) <|
  .nil) (.t 46) <|
  .nil)
  (.prune [47, 10, 12, 35, 34, 33, 7, 9, 11] (.cond (.t 47)
  (.ops <|
  qo 48 (.mv (.t 10)) <|
  eo 49 (.load 3 true (.t 12)) <|
  eo 50 (.call 96 [(.t 48), (.t 49)]) <|
  .nil)
  (.seq (.dops <|
  qo 51 (.fa 2 2 (.t 12)) <|
  eo 52 (.load 1 false (.t 51)) <|
  qo 53 (.ia 8 1 (.t 7) (.t 52)) <|
  .prune [53, 12, 10, 9, 11, 35, 34, 33, 7] <|
  eo 54 (.load 1 false (.t 53)) <|
  eo 55 (.load 3 true (.t 12)) <|
  qo 56 (.mv (.t 10)) <|
  qo 57 (.fa 1 1 (.t 12)) <|
  eo 58 (.load 1 false (.t 57)) <|
  qo 59 (.nck (.t 56)) <|
  .prune [59, 58, 54, 55, 9, 11, 12, 35, 34, 33, 10, 7] <|
  qo 60 (.fa 0 0 (.t 59)) <|
  qo 61 (.ia 6 6 (.t 60) (.t 58)) <|
  .prune [61, 54, 55, 9, 11, 12, 35, 34, 33, 10, 7] <|
  eo 62 (.load 6 true (.t 61)) <|
  eo 63 (.call 97 [(.t 54), (.t 55), (.t 62)]) <|
  qo 13 (.mv (.t 63)) <|
  .nil)
  (.prune [13, 9, 11, 12, 35, 34, 33, 10, 7] (.seq (.ops <|
  qo 64 (.mv (.t 13)) <|
  qo 65 (.cmp .neq (.t 64) (I 0)) <|
  .nil)
  (.prune [65, 9, 11, 12, 13, 35, 34, 33, 10, 7] (.cond (.t 65)
  (.ops <|
  qo 66 (.mv (.t 9)) <|
  qo 67 (.mv (.t 11)) <|
  .prune [12, 13, 67, 66, 35, 34, 33, 10, 7] <|
  qo 68 (.fa 2 2 (.t 12)) <|
  eo 69 (.load 1 false (.t 68)) <|
  qo 70 (.mv (.t 13)) <|
  .prune [67, 69, 70, 66, 35, 34, 33, 10, 7] <|
  qo 71 (.bld (.agg [(.int .i64 0), (.int .i64 0), (.int .i64 0)]) [([.fld 0], 0, 1, (.t 67)), ([.fld 1], 1, 1, (.t 69)), ([.fld 2], 2, 1, (.t 70))]) <|
  .prune [71, 66, 35, 34, 33, 10, 7] <|
  eo 72 (.bsl 47 3 1 (.agg [(.int .i64 0), (.int .i64 0), (.int .i64 0)]) [(0, (.t 71))]) <|
  eo 73 (.app 47 3 24 (.t 66) (.t 72)) <|
  qo 9 (.mv (.t 73)) <|
  .nil)
  .skip)))))))))))
  (.prune [35, 34, 33, 10, 7, 9] (.ops <|
  qo 74 (.ar .add (.t 35) (I 1)) <|
  qo 35 (.mv (.t 74)) <|
  .nil)))))
def j52_3 : JC :=
  (.seq (.ops <|
  qo 77 (.cmp .lss (.t 76) (I 8)) <|
  .nil)
  (.seq (.cond (.t 77)
  .skip
  (.exit 4))
  (.seq (.block 5 (.seq (.ops <|
  qo 78 (.ix 8 1 false (.t 75) (.t 76)) <|
  qo 16 (.mv (.t 78)) <|
  .nil)
  (.ops <|
  qo 79 (.mv (.t 14)) <|
  .prune [16, 79, 76, 75, 9] <|
  qo 80 (.mv (.t 16)) <|
  qo 81 (.nck (.t 80)) <|
  qo 82 (.fa 2 3 (.t 81)) <|
  .prune [82, 79, 76, 75, 9] <|
  eo 83 (.load 1 false (.t 82)) <|
  qo 84 (.ar .add (.t 79) (.t 83)) <|
  qo 14 (.mv (.t 84)) <|
  .nil)))
  (.prune [76, 75, 14, 9] (.ops <|
  qo 85 (.ar .add (.t 76) (I 1)) <|
  qo 76 (.mv (.t 85)) <|
  .nil)))))
def j52_4 : JC :=
  (.prune [9, 14] (.seq (.ops <|
  qo 86 (.mv (.t 9)) <|
  qo 87 (.mv (.t 14)) <|
  qo 2 (.mv (.t 86)) <|
  qo 3 (.mv (.t 87)) <|
  qo 4 (.mv (I 0)) <|
  .nil)
  (.vecs 2 47 3 .ret)))
def j52_5 : JC :=
  (.prune [7, 9] (.seq (.ops <|
  qo 14 (.mv (I 0)) <|
  .nil)
  (.seq (.seq (.ops <|
  eo 75 (.load 8 true (.t 7)) <|
  qo 76 (.mv (I 0)) <|
  .nil)
  (.block 4 (.loop [75, 9] [76, 14] j52_3)))
  j52_4)))
def j52_6 : JC :=
  (.prune [0, 7] (.seq (.ops <|
  qo 9 (.mv (.c .nils)) <|
  .nil)
  (.seq (.ops <|
  eo 32 (.call 95 []) <|
  qo 10 (.mv (.t 32)) <|
  .nil)
  (.seq (.seq (.ops <|
  qo 33 (.mv (.t 0)) <|
  qo 34 (.len (.t 33)) <|
  qo 35 (.mv (I 0)) <|
  .nil)
  (.block 2 (.vecs 9 47 3 (.loop [34, 33, 10, 7] [35, 9] j52_2))))
  j52_5))))
def j52 : JC :=
  (.seq (.ops <|
  qo 2 (.mv (.c .nils)) <|
  qo 3 (.mv (I 0)) <|
  qo 4 (.mv (I 0)) <|
  .nil)
  (.seq (.seq (.ops <|
  qo 18 (.mv (.t 0)) <|
  eo 19 (.call 59 [(.t 18)]) <|
  qo 17 (.mv (.t 19)) <|
  qo 20 (.ext 0 (.t 17)) <|
  .prune [17, 20, 0] <|
  qo 21 (.ext 1 (.t 17)) <|
  qo 5 (.mv (.t 20)) <|
  qo 6 (.mv (.t 21)) <|
  .nil)
  (.prune [6, 0] (.seq (.ops <|
  qo 22 (.mv (.t 6)) <|
  qo 23 (.cmp .neq (.t 22) (I 0)) <|
  .nil)
  (.cond (.t 23)
  (.seq (.ops <|
  qo 24 (.mv (.t 6)) <|
  qo 2 (.mv (.c .nils)) <|
  qo 3 (.mv (I 0)) <|
  qo 4 (.mv (.t 24)) <|
  .nil)
  (.vecs 2 47 3 .ret))
  .skip))))
  (.prune [0] (.seq (.ops <|
  eo 7 (.alloc 160 (.arr 8 1 fun _ => .nilp)) <|
  .nil)
  (.seq (.seq (.ops <|
  qo 25 (.mv (I 0)) <|
  .nil)
  (.block 0 (.loop [7, 0] [25] j52_1)))
  j52_6)))))
theorem c52 : fnIs Try.prog (qbut [97]) 52 = some (j52.flat, [.tmp 2, .tmp 3, .tmp 4], 88) := by kernel_rfl
theorem w52 : j52.wf 88 = true := by kernel_rfl
/-- The cells behind the first i events. -/
def runX (l : List Ev) : Nat → Nat → Cl
  | 0, _ => cl0
  | i + 1, x => if isAcc (l.getD i dEv.dft) = true then (if x = (l.getD i dEv.dft).obj.toNat then accS (runX l i x) (l.getD i dEv.dft) ((runK l i).thr (l.getD i dEv.dft).thr.toNat) else runX l i x) else runX l i x
def flagX (l : List Ev) (i : Nat) : Int := if isAcc (l.getD i dEv.dft) = true then accK (runX l i (l.getD i dEv.dft).obj.toNat) (l.getD i dEv.dft) ((runK l i).thr (l.getD i dEv.dft).thr.toNat) else 0
def runXL (l : List Ev) : Nat → List Fl
  | 0 => []
  | i + 1 => runXL l i ++ if flagX l i = 0 then [] else [⟨i, (l.getD i dEv.dft).obj, flagX l i⟩]
theorem runXL_len {l : List Ev} : ∀ i, (runXL l i).length ≤ i
  | 0 => Nat.le_refl _
  | i + 1 => by
    have := runXL_len (l := l) i
    rw [runXL, List.length_append]
    split <;> simp <;> omega
theorem acc_ok {s : Cl} {e : Ev} {c : Clk} {n : Int} (hs : okC s) (hn : s.slow ≤ n) (hn2 : n < 1000) (h1 : 0 ≤ e.thr) (h2 : e.thr < 6) : okC (accS s e c) ∧ (accS s e c).slow ≤ n + 1 := by
  obtain ⟨w, r, sl⟩ := s
  obtain ⟨a1, a2, a3⟩ := hs
  simp only at a1 a2 a3 hn
  unfold accS
  split
  · unfold rdS
    cases r with
    | inl p =>
      simp only
      split
      · exact ⟨⟨a1, a2, a3⟩, by simp only; omega⟩
      · split
        · exact ⟨⟨a1, a2, ⟨h1, h2⟩⟩, by simp only; omega⟩
        · exact ⟨⟨by simp only; omega, by simp only; omega, trivial⟩, by simp only; omega⟩
    | inr d => exact ⟨⟨a1, a2, trivial⟩, by simp only; omega⟩
  · unfold wrS
    split
    · exact ⟨⟨a1, a2, a3⟩, by simp only; omega⟩
    · cases r with
      | inl p => exact ⟨⟨a1, a2, a3⟩, by simp only; omega⟩
      | inr d => exact ⟨⟨a1, a2, by simp⟩, by simp only; omega⟩
theorem runX_ok {l : List Ev} (hok : (checkR l).2 = 0) : ∀ i, i ≤ l.length → ∀ x, okC (runX l i x) ∧ (runX l i x).slow ≤ i
  | 0, _, x => ⟨⟨Int.le_refl _, by show (0 : Int) ≤ 1000; omega, by show (0 : Int) ≤ 0 ∧ (0 : Int) < 6; omega⟩, Int.le_refl _⟩
  | i + 1, h, x => by
    obtain ⟨h1, h2⟩ := runX_ok hok i (by omega) x
    obtain ⟨b1, b2, b3, b4⟩ := (isEv_iff _).1 (ok_isEv hok i (by omega))
    have hl := ok_len hok
    unfold runX
    split
    · split
      · have := acc_ok (c := (runK l i).thr (l.getD i dEv.dft).thr.toNat) h1 h2 (by omega) b1 b2
        exact ⟨this.1, by have := this.2; omega⟩
      · exact ⟨h1, by omega⟩
    · exact ⟨h1, by omega⟩
/-- Pointers to the cells. -/
def pf (n : Nat) : Nat → SV := fun i => if i < n then .ptr (i + 1) [] 0 else .nilp
theorem pf_zero : (fun _ : Nat => SV.nilp) = pf 0 := by funext i; simp [pf]
theorem pf_upd (n : Nat) : updS (pf n) n (.ptr (n + 1) [] 0) = pf (n + 1) := by
  funext k
  unfold updS pf
  by_cases h : k = n
  · subst h; simp
  · rw [if_neg h]
    by_cases h2 : k < n
    · rw [if_pos h2, if_pos (by omega)]
    · rw [if_neg h2, if_neg (by omega)]
theorem pf_at {n i : Nat} (h : i < n) : pf n i = .ptr (i + 1) [] 0 := by simp [pf, h]
theorem pf_ren (n N : Nat) (h : n + 1 ≤ N) : ren (ltI N) (.arr 8 1 (pf n)) = .arr 8 1 (pf n) := by
  simp only [Sx.ren]
  congr 1
  funext i
  unfold pf
  split
  · simp only [Sx.ren, renI, ltI]
    rw [if_pos (by omega)]
  · rfl
theorem cl_emb (s : Cl) : dCl.emb s = .agg [dPr.emb s.wr, dRd.emb s.rd, .int .i64 s.slow] := nr rfl
theorem wd_rd (r : Pr ⊕ Clk) : wd (dRd.emb r) = 1 := by cases r <;> rfl
@[reducible] def cb (s : Cl) : Res := .blk 177 (dCl.emb s)
def reps : Nat → List Res
  | 0 => []
  | 1 => [cb cl0]
  | 2 => [cb cl0, cb cl0]
  | 3 => [cb cl0, cb cl0, cb cl0]
  | 4 => [cb cl0, cb cl0, cb cl0, cb cl0]
  | 5 => [cb cl0, cb cl0, cb cl0, cb cl0, cb cl0]
  | 6 => [cb cl0, cb cl0, cb cl0, cb cl0, cb cl0, cb cl0]
  | 7 => [cb cl0, cb cl0, cb cl0, cb cl0, cb cl0, cb cl0, cb cl0]
  | 8 => [cb cl0, cb cl0, cb cl0, cb cl0, cb cl0, cb cl0, cb cl0, cb cl0]
  | _ => []
theorem reps_0 : reps 0 = [] := rfl
theorem reps_1 : reps 1 = [cb cl0] := rfl
theorem reps_2 : reps 2 = [cb cl0, cb cl0] := rfl
theorem reps_3 : reps 3 = [cb cl0, cb cl0, cb cl0] := rfl
theorem reps_4 : reps 4 = [cb cl0, cb cl0, cb cl0, cb cl0] := rfl
theorem reps_5 : reps 5 = [cb cl0, cb cl0, cb cl0, cb cl0, cb cl0] := rfl
theorem reps_6 : reps 6 = [cb cl0, cb cl0, cb cl0, cb cl0, cb cl0, cb cl0] := rfl
theorem reps_7 : reps 7 = [cb cl0, cb cl0, cb cl0, cb cl0, cb cl0, cb cl0, cb cl0] := rfl
theorem reps_8 : reps 8 = [cb cl0, cb cl0, cb cl0, cb cl0, cb cl0, cb cl0, cb cl0, cb cl0] := rfl
theorem wd_pf (n i : Nat) : wd (pf n i) = 1 := by
  unfold pf; split <;> rfl
theorem agg_pf (n i : Nat) : (pf n i).isAgg = false := by
  unfold pf; split <;> rfl
theorem pf_fun (n N : Nat) (h : n + 1 ≤ N) : (fun k => ren (ltI N) (pf n k)) = pf n := by
  have := pf_ren n N h
  simp only [Sx.ren] at this
  injection this
theorem pf_kill : (fun k => ren (ltI 11) (kill 10 (pf 8 k))) = pf 8 := by
  funext k
  unfold pf
  split
  · simp only [Sx.kill, Sx.ren, renI, ltI]
    rw [if_pos (by omega)]
  · rfl
theorem reps_len {x : Nat} (h : x ≤ 8) : (reps x).length = x ∧ ∀ y ∈ reps x, y = cb cl0 := by
  have hxs : x = 0 ∨ x = 1 ∨ x = 2 ∨ x = 3 ∨ x = 4 ∨ x = 5 ∨ x = 6 ∨ x = 7 ∨ x = 8 := by omega
  rcases hxs with rfl | rfl | rfl | rfl | rfl | rfl | rfl | rfl | rfl <;> exact ⟨rfl, by simp [reps]⟩
theorem fin_reps {x : Nat} (h : x ≤ 8) : Res.blk 160 (.arr 8 1 fun k => ren (ltI ((reps x).length + 1)) (pf x k)) :: List.map (renR (ltI ((reps x).length + 1))) (List.take (reps x).length (reps x)) = Res.blk 160 (.arr 8 1 (pf x)) :: reps x := by
  obtain ⟨h1, h2⟩ := reps_len h
  rw [pf_fun x _ (by omega), List.take_length]
  congr 1
  conv => rhs; rw [← List.map_id (reps x)]
  apply List.map_congr_left
  intro y hy
  rw [h2 y hy]
  simp only [cb, renR, dCl.ren, id]
theorem plR_cell (s : Cl) : PlR (.blk 177 (dCl.emb s)) := fun r => by
  obtain ⟨w, q, sl⟩ := s
  rw [show renR r (.blk 177 (dCl.emb ⟨w, q, sl⟩)) = .blk 177 (dCl.emb ⟨w, q, sl⟩) by simp only [renR, dCl.ren]]
  show NoH _
  cases q with
  | inl p =>
    rw [cl_one]
    exact noH_agg (by intro x hx; simp only [List.mem_cons, List.not_mem_nil, or_false] at hx; rcases hx with rfl | rfl | rfl <;> first | exact noH_int _ _ | exact noH_agg (by intro x hx; simp only [List.mem_cons, List.not_mem_nil, or_false] at hx; rcases hx with rfl | rfl <;> exact noH_int _ _) | exact noH_iface (noH_agg (by intro x hx; simp only [List.mem_cons, List.not_mem_nil, or_false] at hx; subst hx; exact noH_agg (by intro x hx; simp only [List.mem_cons, List.not_mem_nil, or_false] at hx; rcases hx with rfl | rfl <;> exact noH_int _ _))))
  | inr d =>
    rw [cl_many]
    exact noH_agg (by intro x hx; simp only [List.mem_cons, List.not_mem_nil, or_false] at hx; rcases hx with rfl | rfl | rfl <;> first | exact noH_int _ _ | exact noH_agg (by intro x hx; simp only [List.mem_cons, List.not_mem_nil, or_false] at hx; rcases hx with rfl | rfl <;> exact noH_int _ _) | exact noH_iface (noH_arr fun _ _ => noH_int _ _))
def Gfr (f : FuncId) (a : List SV) (m : List Res) : Sx.Call := (FH.rd 59 (.one dEs) (.two .int .int) (fun _ => True) (fun y => (playedF y.1).2) <|
  FH.mk 94 .nil (fun _ => True) (fun _ => .ptr 0 [] 0) (fun _ => [.blk 177 (dCl.emb cl0)]) <|
  FH.mk 95 .nil (fun _ => True) (fun _ => .ptr 0 [] 0) (fun _ => [.blk 171 (dKp.emb (newK 6))]) <|
  FH.mt 96 171 dKp (.one dEv) DR.unit (fun _ y => isEv y.1 = true) (fun _ _ => ()) (fun k y => syncK k y.1) <|
  FH.mt 97 177 dCl (.two dEv dClk) (.one .int) (fun s y => okC s ∧ 0 ≤ y.1.thr ∧ y.1.thr < 6) (fun s y => accK s y.1 y.2.1) (fun s y => accS s y.1 y.2.1) FH.none) f a m
theorem Gfr_eq (f : FuncId) (a : List SV) (m : List Res) : Gfr f a m = (FH.rd 59 (.one dEs) (.two .int .int) (fun _ => True) (fun y => (playedF y.1).2) <|
  FH.mk 94 .nil (fun _ => True) (fun _ => .ptr 0 [] 0) (fun _ => [.blk 177 (dCl.emb cl0)]) <|
  FH.mk 95 .nil (fun _ => True) (fun _ => .ptr 0 [] 0) (fun _ => [.blk 171 (dKp.emb (newK 6))]) <|
  FH.mt 96 171 dKp (.one dEv) DR.unit (fun _ y => isEv y.1 = true) (fun _ _ => ()) (fun k y => syncK k y.1) <|
  FH.mt 97 177 dCl (.two dEv dClk) (.one .int) (fun s y => okC s ∧ 0 ≤ y.1.thr ∧ y.1.thr < 6) (fun s y => accK s y.1 y.2.1) (fun s y => accS s y.1 y.2.1) FH.none) f a m := nr rfl
theorem Gfr_ok : FHOK Try.prog Gfr := FH.rd_ok (by kernel_rfl) (fun y _ => f_Check y.1) <|
  FH.mk_ok (by kernel_rfl) (fun _ _ => plainM (pv_ptr _ _ _) ⟨plR_cell _, trivial⟩) (fun _ _ => f_NewCell) <|
  FH.mk_ok (by kernel_rfl) (fun _ _ => plainM (pv_ptr _ _ _) ⟨plR_blk _ dKp _, trivial⟩) (fun _ _ => f_New) <|
  FH.mt_ok (by kernel_rfl) (fun k y h => f_Sync k y.1 h) <| FH.mt_ok (by kernel_rfl) (fun s y h => f_Access s y.1 y.2.1 h.1 h.2.1 h.2.2) FH.none_ok
/-- How often was one epoch not enough? -/
def slowTo (f : Nat → Cl) : Nat → Int
  | 0 => 0
  | k + 1 => slowTo f k + (f k).slow
theorem tszP : tsz Try.prog 160 = some (8, true) := by kernel_rfl
theorem f_run (l : List Ev) (hok : (checkR l).2 = 0) : FnOK Try.prog 52 [dEs.emb l] [] (.tup [.vec 0 (runXL l l.length).length, .int .i64 (slowTo (runX l l.length) 8), .int .i64 0]) [.vec 47 3 ((runXL l l.length).map dFl.emb)] := by
  have hl := ok_len hok
  have he : (playedF l).2.2 = 0 := by rw [err_same]; exact hok
  refine fn_walkF c52 w52 Gfr_ok rfl ?_
  unfold j52
  simp only [go_sem, ↓reduceIte, Nat.reduceAdd, Nat.reduceMul, Nat.reduceSub, Nat.reduceLT, Nat.reduceLeDiff, Nat.reduceEqDiff, Int.reduceToNat, Int.reduceEq, Int.reduceLT, Int.reduceLE, reduceCtorEq, Gfr_eq, he, pf_zero]
  refine loopF Nat (fun x => [.int .i64 x]) (fun x => .blk 160 (.arr 8 1 (pf x)) :: reps x) (fun x => x ≤ 8) (fun x => 8 - x) 0 (by omega) ?_ rfl ?_
  · simp only [go_sem, ↓reduceIte, Nat.reduceAdd, Nat.reduceMul, Nat.reduceSub, Nat.reduceLT, Nat.reduceLeDiff, Nat.reduceEqDiff, Int.reduceToNat, Int.reduceEq, Int.reduceLT, Int.reduceLE, reduceCtorEq]
  intro x hx
  by_cases h8 : x < 8
  · have hxs : x = 0 ∨ x = 1 ∨ x = 2 ∨ x = 3 ∨ x = 4 ∨ x = 5 ∨ x = 6 ∨ x = 7 := by omega
    rcases hxs with rfl | rfl | rfl | rfl | rfl | rfl | rfl | rfl
    · unfold j52_1
      simp only [go_sem, ↓reduceIte, Nat.reduceAdd, Nat.reduceMul, Nat.reduceSub, Nat.reduceLT, Nat.reduceLeDiff, Nat.reduceEqDiff, Int.reduceToNat, Int.reduceEq, Int.reduceLT, Int.reduceLE, reduceCtorEq, Gfr_eq, reps_0, reps_1, reps_2, reps_3, reps_4, reps_5, reps_6, reps_7, reps_8, pf_upd, wd_pf, agg_pf]
      exact ⟨1, by omega, by omega, IntWalk.i64_in _ (by omega), fin_reps (x := 1) (by omega)⟩
    · unfold j52_1
      simp only [go_sem, ↓reduceIte, Nat.reduceAdd, Nat.reduceMul, Nat.reduceSub, Nat.reduceLT, Nat.reduceLeDiff, Nat.reduceEqDiff, Int.reduceToNat, Int.reduceEq, Int.reduceLT, Int.reduceLE, reduceCtorEq, Gfr_eq, reps_0, reps_1, reps_2, reps_3, reps_4, reps_5, reps_6, reps_7, reps_8, pf_upd, wd_pf, agg_pf]
      exact ⟨2, by omega, by omega, IntWalk.i64_in _ (by omega), fin_reps (x := 2) (by omega)⟩
    · unfold j52_1
      simp only [go_sem, ↓reduceIte, Nat.reduceAdd, Nat.reduceMul, Nat.reduceSub, Nat.reduceLT, Nat.reduceLeDiff, Nat.reduceEqDiff, Int.reduceToNat, Int.reduceEq, Int.reduceLT, Int.reduceLE, reduceCtorEq, Gfr_eq, reps_0, reps_1, reps_2, reps_3, reps_4, reps_5, reps_6, reps_7, reps_8, pf_upd, wd_pf, agg_pf]
      exact ⟨3, by omega, by omega, IntWalk.i64_in _ (by omega), fin_reps (x := 3) (by omega)⟩
    · unfold j52_1
      simp only [go_sem, ↓reduceIte, Nat.reduceAdd, Nat.reduceMul, Nat.reduceSub, Nat.reduceLT, Nat.reduceLeDiff, Nat.reduceEqDiff, Int.reduceToNat, Int.reduceEq, Int.reduceLT, Int.reduceLE, reduceCtorEq, Gfr_eq, reps_0, reps_1, reps_2, reps_3, reps_4, reps_5, reps_6, reps_7, reps_8, pf_upd, wd_pf, agg_pf]
      exact ⟨4, by omega, by omega, IntWalk.i64_in _ (by omega), fin_reps (x := 4) (by omega)⟩
    · unfold j52_1
      simp only [go_sem, ↓reduceIte, Nat.reduceAdd, Nat.reduceMul, Nat.reduceSub, Nat.reduceLT, Nat.reduceLeDiff, Nat.reduceEqDiff, Int.reduceToNat, Int.reduceEq, Int.reduceLT, Int.reduceLE, reduceCtorEq, Gfr_eq, reps_0, reps_1, reps_2, reps_3, reps_4, reps_5, reps_6, reps_7, reps_8, pf_upd, wd_pf, agg_pf]
      exact ⟨5, by omega, by omega, IntWalk.i64_in _ (by omega), fin_reps (x := 5) (by omega)⟩
    · unfold j52_1
      simp only [go_sem, ↓reduceIte, Nat.reduceAdd, Nat.reduceMul, Nat.reduceSub, Nat.reduceLT, Nat.reduceLeDiff, Nat.reduceEqDiff, Int.reduceToNat, Int.reduceEq, Int.reduceLT, Int.reduceLE, reduceCtorEq, Gfr_eq, reps_0, reps_1, reps_2, reps_3, reps_4, reps_5, reps_6, reps_7, reps_8, pf_upd, wd_pf, agg_pf]
      exact ⟨6, by omega, by omega, IntWalk.i64_in _ (by omega), fin_reps (x := 6) (by omega)⟩
    · unfold j52_1
      simp only [go_sem, ↓reduceIte, Nat.reduceAdd, Nat.reduceMul, Nat.reduceSub, Nat.reduceLT, Nat.reduceLeDiff, Nat.reduceEqDiff, Int.reduceToNat, Int.reduceEq, Int.reduceLT, Int.reduceLE, reduceCtorEq, Gfr_eq, reps_0, reps_1, reps_2, reps_3, reps_4, reps_5, reps_6, reps_7, reps_8, pf_upd, wd_pf, agg_pf]
      exact ⟨7, by omega, by omega, IntWalk.i64_in _ (by omega), fin_reps (x := 7) (by omega)⟩
    · unfold j52_1
      simp only [go_sem, ↓reduceIte, Nat.reduceAdd, Nat.reduceMul, Nat.reduceSub, Nat.reduceLT, Nat.reduceLeDiff, Nat.reduceEqDiff, Int.reduceToNat, Int.reduceEq, Int.reduceLT, Int.reduceLE, reduceCtorEq, Gfr_eq, reps_0, reps_1, reps_2, reps_3, reps_4, reps_5, reps_6, reps_7, reps_8, pf_upd, wd_pf, agg_pf]
      exact ⟨8, by omega, by omega, IntWalk.i64_in _ (by omega), fin_reps (x := 8) (by omega)⟩
  · have e : x = 8 := by omega
    subst e
    unfold j52_1
    simp only [go_sem, ↓reduceIte, Nat.reduceAdd, Nat.reduceMul, Nat.reduceSub, Nat.reduceLT, Nat.reduceLeDiff, Nat.reduceEqDiff, Int.reduceToNat, Int.reduceEq, Int.reduceLT, Int.reduceLE, reduceCtorEq, reps_0, reps_1, reps_2, reps_3, reps_4, reps_5, reps_6, reps_7, reps_8]
    unfold j52_6
    simp only [go_sem, ↓reduceIte, Nat.reduceAdd, Nat.reduceMul, Nat.reduceSub, Nat.reduceLT, Nat.reduceLeDiff, Nat.reduceEqDiff, Int.reduceToNat, Int.reduceEq, Int.reduceLT, Int.reduceLE, reduceCtorEq, Gfr_eq, reps_0, reps_1, reps_2, reps_3, reps_4, reps_5, reps_6, reps_7, reps_8]
    refine loopF Nat (fun i => [.int .i64 i, .vec 10 (runXL l i).length]) (fun i => [.blk 160 (.arr 8 1 (pf 8)), cb (runX l i 0), cb (runX l i 1), cb (runX l i 2), cb (runX l i 3), cb (runX l i 4), cb (runX l i 5), cb (runX l i 6), cb (runX l i 7), .blk 171 (dKp.emb (runK l i)), .vec 47 3 ((runXL l i).map dFl.emb)]) (fun i => i ≤ l.length) (fun i => l.length - i) 0 (by omega) ?_ rfl ?_
    · simp only [go_sem, ↓reduceIte, Nat.reduceAdd, Nat.reduceMul, Nat.reduceSub, Nat.reduceLT, Nat.reduceLeDiff, Nat.reduceEqDiff, Int.reduceToNat, Int.reduceEq, Int.reduceLT, Int.reduceLE, reduceCtorEq]
      rfl
    intro i hi
    by_cases h1 : i < l.length
    · have h1' : (i : Int) < l.length := by omega
      have hw : IntKind.i64.wrap ((i : Int) + 1) = ((i + 1 : Nat) : Int) := IntWalk.i64_in _ (by omega)
      have hev := ok_isEv hok i h1
      obtain ⟨b1, b2, b3, b4⟩ := (isEv_iff _).1 hev
      obtain ⟨t, ht, ht6⟩ : ∃ t : Nat, (l.getD i dEv.dft).thr = t ∧ t < 6 := ⟨(l.getD i dEv.dft).thr.toNat, by omega, by omega⟩
      obtain ⟨o, ho⟩ : ∃ o : Nat, (l.getD i dEv.dft).obj = o := ⟨(l.getD i dEv.dft).obj.toNat, by omega⟩
      have hlen := runXL_len (l := l) i
      have hcl := runX_ok hok i (by omega)
      cases ha : isAcc (l.getD i dEv.dft) with
      | false =>
        have ha' := ha
        simp only [isAcc, Bool.or_eq_false_iff, decide_eq_false_iff_not] at ha'
        have k1 := ha'.1
        have k2 := ha'.2
        have hf : flagX l i = 0 := by rw [flagX, if_neg (by rw [ha]; simp)]
        unfold j52_2
        simp only [go_sem, ↓reduceIte, Nat.reduceAdd, Nat.reduceMul, Nat.reduceSub, Nat.reduceLT, Nat.reduceLeDiff, Nat.reduceEqDiff, Int.reduceToNat, Int.reduceEq, Int.reduceLT, Int.reduceLE, reduceCtorEq, Gfr_eq, h1, h1', hw, k1, k2, hev]
        have hrx : runX l (i + 1) = runX l i := by funext x; rw [runX, if_neg (by rw [ha]; simp)]
        have hrk : runK l (i + 1) = syncK (runK l i) (l.getD i dEv.dft) := by rw [runK, if_neg (by rw [ha]; simp)]
        have hrl : runXL l (i + 1) = runXL l i := by rw [runXL, if_pos hf, List.append_nil]
        exact ⟨by omega, i + 1, by omega, by omega, ⟨rfl, by rw [hrl]⟩, by rw [hrx, hrk, hrl, pf_fun 8 11 (by omega)]⟩
      | true =>
        have ho8 : o < 8 := by
          have : many (l.getD i dEv.dft).kind = 8 := by
            simp only [isAcc, Bool.or_eq_true, decide_eq_true_eq] at ha
            simp only [many, if_pos ha]
          omega
        have hnk : (!decide ((l.getD i dEv.dft).kind = 1) && !decide ((l.getD i dEv.dft).kind = 2)) = false := by
          simp only [isAcc, Bool.or_eq_true, decide_eq_true_eq] at ha
          rcases ha with ha | ha <;> rw [ha] <;> decide
        have hfl : flagX l i = accK (runX l i o) (l.getD i dEv.dft) ((runK l i).thr t) := by rw [flagX, if_pos ha, ht, ho, Int.toNat_natCast, Int.toNat_natCast]
        have hee : (⟨(l.getD i dEv.dft).kind, (t : Int), (o : Int)⟩ : Ev) = l.getD i dEv.dft := by rw [← ht, ← ho]
        have hrx : ∀ x, runX l (i + 1) x = if x = o then accS (runX l i o) (l.getD i dEv.dft) ((runK l i).thr t) else runX l i x := by
          intro x
          rw [runX, if_pos ha, ht, ho, Int.toNat_natCast, Int.toNat_natCast]
          by_cases e : x = o
          · subst e; rfl
          · rw [if_neg e, if_neg e]
        have hrk : runK l (i + 1) = runK l i := by rw [runK, if_pos ha]
        have hoc := (hcl o).1
        have hos : o = 0 ∨ o = 1 ∨ o = 2 ∨ o = 3 ∨ o = 4 ∨ o = 5 ∨ o = 6 ∨ o = 7 := by omega
        have hrl : flagX l i = 0 → runXL l (i + 1) = runXL l i := fun hf => by rw [runXL, if_pos hf, List.append_nil]
        have hrl2 : ¬ flagX l i = 0 → runXL l (i + 1) = runXL l i ++ [⟨i, (l.getD i dEv.dft).obj, flagX l i⟩] := fun hf => by rw [runXL, if_neg hf]
        rcases hos with rfl | rfl | rfl | rfl | rfl | rfl | rfl | rfl
        · have ho' : (l.getD i dEv.dft).obj = 0 := ho
          have hee' : (⟨(l.getD i dEv.dft).kind, (t : Int), (0 : Int)⟩ : Ev) = l.getD i dEv.dft := hee
          have r0 : runX l (i + 1) 0 = accS (runX l i 0) (l.getD i dEv.dft) ((runK l i).thr t) := by rw [hrx, if_pos rfl]
          have r1 : runX l (i + 1) 1 = runX l i 1 := by rw [hrx, if_neg (by omega)]
          have r2 : runX l (i + 1) 2 = runX l i 2 := by rw [hrx, if_neg (by omega)]
          have r3 : runX l (i + 1) 3 = runX l i 3 := by rw [hrx, if_neg (by omega)]
          have r4 : runX l (i + 1) 4 = runX l i 4 := by rw [hrx, if_neg (by omega)]
          have r5 : runX l (i + 1) 5 = runX l i 5 := by rw [hrx, if_neg (by omega)]
          have r6 : runX l (i + 1) 6 = runX l i 6 := by rw [hrx, if_neg (by omega)]
          have r7 : runX l (i + 1) 7 = runX l i 7 := by rw [hrx, if_neg (by omega)]
          unfold j52_2
          simp only [go_sem, ↓reduceIte, Nat.reduceAdd, Nat.reduceMul, Nat.reduceSub, Nat.reduceLT, Nat.reduceLeDiff, Nat.reduceEqDiff, Int.reduceToNat, Int.reduceEq, Int.reduceLT, Int.reduceLE, reduceCtorEq, Gfr_eq, h1, h1', hw, hnk, hev, ht, ho', ht6, hee', hoc, hfl.symm, pf_at]
          refine ⟨by omega, ⟨by omega, by omega⟩, ⟨by omega, by omega⟩, fun hf => ⟨by omega, i + 1, by omega, by omega, ⟨rfl, by rw [hrl2 hf, List.length_append]; rfl⟩, ?_⟩, fun hf => ⟨i + 1, by omega, by omega, ⟨rfl, by rw [hrl hf]⟩, ?_⟩⟩
          · rw [hrl2 hf, hrk, pf_kill, List.map_append, ho', r0, r1, r2, r3, r4, r5, r6, r7]
            rfl
          · rw [hrl hf, hrk, pf_fun 8 11 (by omega), r0, r1, r2, r3, r4, r5, r6, r7]
        · have ho' : (l.getD i dEv.dft).obj = 1 := ho
          have hee' : (⟨(l.getD i dEv.dft).kind, (t : Int), (1 : Int)⟩ : Ev) = l.getD i dEv.dft := hee
          have r0 : runX l (i + 1) 0 = runX l i 0 := by rw [hrx, if_neg (by omega)]
          have r1 : runX l (i + 1) 1 = accS (runX l i 1) (l.getD i dEv.dft) ((runK l i).thr t) := by rw [hrx, if_pos rfl]
          have r2 : runX l (i + 1) 2 = runX l i 2 := by rw [hrx, if_neg (by omega)]
          have r3 : runX l (i + 1) 3 = runX l i 3 := by rw [hrx, if_neg (by omega)]
          have r4 : runX l (i + 1) 4 = runX l i 4 := by rw [hrx, if_neg (by omega)]
          have r5 : runX l (i + 1) 5 = runX l i 5 := by rw [hrx, if_neg (by omega)]
          have r6 : runX l (i + 1) 6 = runX l i 6 := by rw [hrx, if_neg (by omega)]
          have r7 : runX l (i + 1) 7 = runX l i 7 := by rw [hrx, if_neg (by omega)]
          unfold j52_2
          simp only [go_sem, ↓reduceIte, Nat.reduceAdd, Nat.reduceMul, Nat.reduceSub, Nat.reduceLT, Nat.reduceLeDiff, Nat.reduceEqDiff, Int.reduceToNat, Int.reduceEq, Int.reduceLT, Int.reduceLE, reduceCtorEq, Gfr_eq, h1, h1', hw, hnk, hev, ht, ho', ht6, hee', hoc, hfl.symm, pf_at]
          refine ⟨by omega, ⟨by omega, by omega⟩, ⟨by omega, by omega⟩, fun hf => ⟨by omega, i + 1, by omega, by omega, ⟨rfl, by rw [hrl2 hf, List.length_append]; rfl⟩, ?_⟩, fun hf => ⟨i + 1, by omega, by omega, ⟨rfl, by rw [hrl hf]⟩, ?_⟩⟩
          · rw [hrl2 hf, hrk, pf_kill, List.map_append, ho', r0, r1, r2, r3, r4, r5, r6, r7]
            rfl
          · rw [hrl hf, hrk, pf_fun 8 11 (by omega), r0, r1, r2, r3, r4, r5, r6, r7]
        · have ho' : (l.getD i dEv.dft).obj = 2 := ho
          have hee' : (⟨(l.getD i dEv.dft).kind, (t : Int), (2 : Int)⟩ : Ev) = l.getD i dEv.dft := hee
          have r0 : runX l (i + 1) 0 = runX l i 0 := by rw [hrx, if_neg (by omega)]
          have r1 : runX l (i + 1) 1 = runX l i 1 := by rw [hrx, if_neg (by omega)]
          have r2 : runX l (i + 1) 2 = accS (runX l i 2) (l.getD i dEv.dft) ((runK l i).thr t) := by rw [hrx, if_pos rfl]
          have r3 : runX l (i + 1) 3 = runX l i 3 := by rw [hrx, if_neg (by omega)]
          have r4 : runX l (i + 1) 4 = runX l i 4 := by rw [hrx, if_neg (by omega)]
          have r5 : runX l (i + 1) 5 = runX l i 5 := by rw [hrx, if_neg (by omega)]
          have r6 : runX l (i + 1) 6 = runX l i 6 := by rw [hrx, if_neg (by omega)]
          have r7 : runX l (i + 1) 7 = runX l i 7 := by rw [hrx, if_neg (by omega)]
          unfold j52_2
          simp only [go_sem, ↓reduceIte, Nat.reduceAdd, Nat.reduceMul, Nat.reduceSub, Nat.reduceLT, Nat.reduceLeDiff, Nat.reduceEqDiff, Int.reduceToNat, Int.reduceEq, Int.reduceLT, Int.reduceLE, reduceCtorEq, Gfr_eq, h1, h1', hw, hnk, hev, ht, ho', ht6, hee', hoc, hfl.symm, pf_at]
          refine ⟨by omega, ⟨by omega, by omega⟩, ⟨by omega, by omega⟩, fun hf => ⟨by omega, i + 1, by omega, by omega, ⟨rfl, by rw [hrl2 hf, List.length_append]; rfl⟩, ?_⟩, fun hf => ⟨i + 1, by omega, by omega, ⟨rfl, by rw [hrl hf]⟩, ?_⟩⟩
          · rw [hrl2 hf, hrk, pf_kill, List.map_append, ho', r0, r1, r2, r3, r4, r5, r6, r7]
            rfl
          · rw [hrl hf, hrk, pf_fun 8 11 (by omega), r0, r1, r2, r3, r4, r5, r6, r7]
        · have ho' : (l.getD i dEv.dft).obj = 3 := ho
          have hee' : (⟨(l.getD i dEv.dft).kind, (t : Int), (3 : Int)⟩ : Ev) = l.getD i dEv.dft := hee
          have r0 : runX l (i + 1) 0 = runX l i 0 := by rw [hrx, if_neg (by omega)]
          have r1 : runX l (i + 1) 1 = runX l i 1 := by rw [hrx, if_neg (by omega)]
          have r2 : runX l (i + 1) 2 = runX l i 2 := by rw [hrx, if_neg (by omega)]
          have r3 : runX l (i + 1) 3 = accS (runX l i 3) (l.getD i dEv.dft) ((runK l i).thr t) := by rw [hrx, if_pos rfl]
          have r4 : runX l (i + 1) 4 = runX l i 4 := by rw [hrx, if_neg (by omega)]
          have r5 : runX l (i + 1) 5 = runX l i 5 := by rw [hrx, if_neg (by omega)]
          have r6 : runX l (i + 1) 6 = runX l i 6 := by rw [hrx, if_neg (by omega)]
          have r7 : runX l (i + 1) 7 = runX l i 7 := by rw [hrx, if_neg (by omega)]
          unfold j52_2
          simp only [go_sem, ↓reduceIte, Nat.reduceAdd, Nat.reduceMul, Nat.reduceSub, Nat.reduceLT, Nat.reduceLeDiff, Nat.reduceEqDiff, Int.reduceToNat, Int.reduceEq, Int.reduceLT, Int.reduceLE, reduceCtorEq, Gfr_eq, h1, h1', hw, hnk, hev, ht, ho', ht6, hee', hoc, hfl.symm, pf_at]
          refine ⟨by omega, ⟨by omega, by omega⟩, ⟨by omega, by omega⟩, fun hf => ⟨by omega, i + 1, by omega, by omega, ⟨rfl, by rw [hrl2 hf, List.length_append]; rfl⟩, ?_⟩, fun hf => ⟨i + 1, by omega, by omega, ⟨rfl, by rw [hrl hf]⟩, ?_⟩⟩
          · rw [hrl2 hf, hrk, pf_kill, List.map_append, ho', r0, r1, r2, r3, r4, r5, r6, r7]
            rfl
          · rw [hrl hf, hrk, pf_fun 8 11 (by omega), r0, r1, r2, r3, r4, r5, r6, r7]
        · have ho' : (l.getD i dEv.dft).obj = 4 := ho
          have hee' : (⟨(l.getD i dEv.dft).kind, (t : Int), (4 : Int)⟩ : Ev) = l.getD i dEv.dft := hee
          have r0 : runX l (i + 1) 0 = runX l i 0 := by rw [hrx, if_neg (by omega)]
          have r1 : runX l (i + 1) 1 = runX l i 1 := by rw [hrx, if_neg (by omega)]
          have r2 : runX l (i + 1) 2 = runX l i 2 := by rw [hrx, if_neg (by omega)]
          have r3 : runX l (i + 1) 3 = runX l i 3 := by rw [hrx, if_neg (by omega)]
          have r4 : runX l (i + 1) 4 = accS (runX l i 4) (l.getD i dEv.dft) ((runK l i).thr t) := by rw [hrx, if_pos rfl]
          have r5 : runX l (i + 1) 5 = runX l i 5 := by rw [hrx, if_neg (by omega)]
          have r6 : runX l (i + 1) 6 = runX l i 6 := by rw [hrx, if_neg (by omega)]
          have r7 : runX l (i + 1) 7 = runX l i 7 := by rw [hrx, if_neg (by omega)]
          unfold j52_2
          simp only [go_sem, ↓reduceIte, Nat.reduceAdd, Nat.reduceMul, Nat.reduceSub, Nat.reduceLT, Nat.reduceLeDiff, Nat.reduceEqDiff, Int.reduceToNat, Int.reduceEq, Int.reduceLT, Int.reduceLE, reduceCtorEq, Gfr_eq, h1, h1', hw, hnk, hev, ht, ho', ht6, hee', hoc, hfl.symm, pf_at]
          refine ⟨by omega, ⟨by omega, by omega⟩, ⟨by omega, by omega⟩, fun hf => ⟨by omega, i + 1, by omega, by omega, ⟨rfl, by rw [hrl2 hf, List.length_append]; rfl⟩, ?_⟩, fun hf => ⟨i + 1, by omega, by omega, ⟨rfl, by rw [hrl hf]⟩, ?_⟩⟩
          · rw [hrl2 hf, hrk, pf_kill, List.map_append, ho', r0, r1, r2, r3, r4, r5, r6, r7]
            rfl
          · rw [hrl hf, hrk, pf_fun 8 11 (by omega), r0, r1, r2, r3, r4, r5, r6, r7]
        · have ho' : (l.getD i dEv.dft).obj = 5 := ho
          have hee' : (⟨(l.getD i dEv.dft).kind, (t : Int), (5 : Int)⟩ : Ev) = l.getD i dEv.dft := hee
          have r0 : runX l (i + 1) 0 = runX l i 0 := by rw [hrx, if_neg (by omega)]
          have r1 : runX l (i + 1) 1 = runX l i 1 := by rw [hrx, if_neg (by omega)]
          have r2 : runX l (i + 1) 2 = runX l i 2 := by rw [hrx, if_neg (by omega)]
          have r3 : runX l (i + 1) 3 = runX l i 3 := by rw [hrx, if_neg (by omega)]
          have r4 : runX l (i + 1) 4 = runX l i 4 := by rw [hrx, if_neg (by omega)]
          have r5 : runX l (i + 1) 5 = accS (runX l i 5) (l.getD i dEv.dft) ((runK l i).thr t) := by rw [hrx, if_pos rfl]
          have r6 : runX l (i + 1) 6 = runX l i 6 := by rw [hrx, if_neg (by omega)]
          have r7 : runX l (i + 1) 7 = runX l i 7 := by rw [hrx, if_neg (by omega)]
          unfold j52_2
          simp only [go_sem, ↓reduceIte, Nat.reduceAdd, Nat.reduceMul, Nat.reduceSub, Nat.reduceLT, Nat.reduceLeDiff, Nat.reduceEqDiff, Int.reduceToNat, Int.reduceEq, Int.reduceLT, Int.reduceLE, reduceCtorEq, Gfr_eq, h1, h1', hw, hnk, hev, ht, ho', ht6, hee', hoc, hfl.symm, pf_at]
          refine ⟨by omega, ⟨by omega, by omega⟩, ⟨by omega, by omega⟩, fun hf => ⟨by omega, i + 1, by omega, by omega, ⟨rfl, by rw [hrl2 hf, List.length_append]; rfl⟩, ?_⟩, fun hf => ⟨i + 1, by omega, by omega, ⟨rfl, by rw [hrl hf]⟩, ?_⟩⟩
          · rw [hrl2 hf, hrk, pf_kill, List.map_append, ho', r0, r1, r2, r3, r4, r5, r6, r7]
            rfl
          · rw [hrl hf, hrk, pf_fun 8 11 (by omega), r0, r1, r2, r3, r4, r5, r6, r7]
        · have ho' : (l.getD i dEv.dft).obj = 6 := ho
          have hee' : (⟨(l.getD i dEv.dft).kind, (t : Int), (6 : Int)⟩ : Ev) = l.getD i dEv.dft := hee
          have r0 : runX l (i + 1) 0 = runX l i 0 := by rw [hrx, if_neg (by omega)]
          have r1 : runX l (i + 1) 1 = runX l i 1 := by rw [hrx, if_neg (by omega)]
          have r2 : runX l (i + 1) 2 = runX l i 2 := by rw [hrx, if_neg (by omega)]
          have r3 : runX l (i + 1) 3 = runX l i 3 := by rw [hrx, if_neg (by omega)]
          have r4 : runX l (i + 1) 4 = runX l i 4 := by rw [hrx, if_neg (by omega)]
          have r5 : runX l (i + 1) 5 = runX l i 5 := by rw [hrx, if_neg (by omega)]
          have r6 : runX l (i + 1) 6 = accS (runX l i 6) (l.getD i dEv.dft) ((runK l i).thr t) := by rw [hrx, if_pos rfl]
          have r7 : runX l (i + 1) 7 = runX l i 7 := by rw [hrx, if_neg (by omega)]
          unfold j52_2
          simp only [go_sem, ↓reduceIte, Nat.reduceAdd, Nat.reduceMul, Nat.reduceSub, Nat.reduceLT, Nat.reduceLeDiff, Nat.reduceEqDiff, Int.reduceToNat, Int.reduceEq, Int.reduceLT, Int.reduceLE, reduceCtorEq, Gfr_eq, h1, h1', hw, hnk, hev, ht, ho', ht6, hee', hoc, hfl.symm, pf_at]
          refine ⟨by omega, ⟨by omega, by omega⟩, ⟨by omega, by omega⟩, fun hf => ⟨by omega, i + 1, by omega, by omega, ⟨rfl, by rw [hrl2 hf, List.length_append]; rfl⟩, ?_⟩, fun hf => ⟨i + 1, by omega, by omega, ⟨rfl, by rw [hrl hf]⟩, ?_⟩⟩
          · rw [hrl2 hf, hrk, pf_kill, List.map_append, ho', r0, r1, r2, r3, r4, r5, r6, r7]
            rfl
          · rw [hrl hf, hrk, pf_fun 8 11 (by omega), r0, r1, r2, r3, r4, r5, r6, r7]
        · have ho' : (l.getD i dEv.dft).obj = 7 := ho
          have hee' : (⟨(l.getD i dEv.dft).kind, (t : Int), (7 : Int)⟩ : Ev) = l.getD i dEv.dft := hee
          have r0 : runX l (i + 1) 0 = runX l i 0 := by rw [hrx, if_neg (by omega)]
          have r1 : runX l (i + 1) 1 = runX l i 1 := by rw [hrx, if_neg (by omega)]
          have r2 : runX l (i + 1) 2 = runX l i 2 := by rw [hrx, if_neg (by omega)]
          have r3 : runX l (i + 1) 3 = runX l i 3 := by rw [hrx, if_neg (by omega)]
          have r4 : runX l (i + 1) 4 = runX l i 4 := by rw [hrx, if_neg (by omega)]
          have r5 : runX l (i + 1) 5 = runX l i 5 := by rw [hrx, if_neg (by omega)]
          have r6 : runX l (i + 1) 6 = runX l i 6 := by rw [hrx, if_neg (by omega)]
          have r7 : runX l (i + 1) 7 = accS (runX l i 7) (l.getD i dEv.dft) ((runK l i).thr t) := by rw [hrx, if_pos rfl]
          unfold j52_2
          simp only [go_sem, ↓reduceIte, Nat.reduceAdd, Nat.reduceMul, Nat.reduceSub, Nat.reduceLT, Nat.reduceLeDiff, Nat.reduceEqDiff, Int.reduceToNat, Int.reduceEq, Int.reduceLT, Int.reduceLE, reduceCtorEq, Gfr_eq, h1, h1', hw, hnk, hev, ht, ho', ht6, hee', hoc, hfl.symm, pf_at]
          refine ⟨by omega, ⟨by omega, by omega⟩, ⟨by omega, by omega⟩, fun hf => ⟨by omega, i + 1, by omega, by omega, ⟨rfl, by rw [hrl2 hf, List.length_append]; rfl⟩, ?_⟩, fun hf => ⟨i + 1, by omega, by omega, ⟨rfl, by rw [hrl hf]⟩, ?_⟩⟩
          · rw [hrl2 hf, hrk, pf_kill, List.map_append, ho', r0, r1, r2, r3, r4, r5, r6, r7]
            rfl
          · rw [hrl hf, hrk, pf_fun 8 11 (by omega), r0, r1, r2, r3, r4, r5, r6, r7]
    · have h1' : ¬ (i : Int) < l.length := by omega
      have e : i = l.length := by omega
      subst e
      unfold j52_2
      simp only [go_sem, ↓reduceIte, Nat.reduceAdd, Nat.reduceMul, Nat.reduceSub, Nat.reduceLT, Nat.reduceLeDiff, Nat.reduceEqDiff, Int.reduceToNat, Int.reduceEq, Int.reduceLT, Int.reduceLE, reduceCtorEq, h1']
      unfold j52_5
      simp only [go_sem, ↓reduceIte, Nat.reduceAdd, Nat.reduceMul, Nat.reduceSub, Nat.reduceLT, Nat.reduceLeDiff, Nat.reduceEqDiff, Int.reduceToNat, Int.reduceEq, Int.reduceLT, Int.reduceLE, reduceCtorEq, tszP]
      have hc := runX_ok hok l.length (Nat.le_refl _)
      refine loopF Nat (fun k => [.int .i64 k, .int .i64 (slowTo (runX l l.length) k)]) (fun _ => [.blk 160 (.arr 8 1 (pf 8)), cb (runX l l.length 0), cb (runX l l.length 1), cb (runX l l.length 2), cb (runX l l.length 3), cb (runX l l.length 4), cb (runX l l.length 5), cb (runX l l.length 6), cb (runX l l.length 7), .blk 171 (dKp.emb (runK l l.length)), .vec 47 3 ((runXL l l.length).map dFl.emb)]) (fun k => k ≤ 8) (fun k => 8 - k) 0 (by omega) ?_ ?_ ?_
      · simp only [go_sem, ↓reduceIte, Nat.reduceAdd, Nat.reduceMul, Nat.reduceSub, Nat.reduceLT, Nat.reduceLeDiff, Nat.reduceEqDiff, Int.reduceToNat, Int.reduceEq, Int.reduceLT, Int.reduceLE, reduceCtorEq]
        rfl
      · rfl
      intro k hk
      have hb : ∀ x, 0 ≤ slowTo (runX l l.length) x ∧ slowTo (runX l l.length) x ≤ x * 80 := by
        intro x
        induction x with
        | zero => exact ⟨Int.le_refl _, Int.le_refl _⟩
        | succ x ih =>
          have h1 := (hc x).2
          have h2 := (hc x).1.1
          rw [slowTo]
          push_cast
          omega
      have hv : ∀ x, x < 8 → IntKind.i64.wrap (slowTo (runX l l.length) x + (runX l l.length x).slow) = slowTo (runX l l.length) (x + 1) := by
        intro x hx
        have h1 := hb (x + 1)
        rw [slowTo] at h1 ⊢
        push_cast at h1
        exact IntWalk.i64_in _ (by omega)
      by_cases h8 : k < 8
      · have hks : k = 0 ∨ k = 1 ∨ k = 2 ∨ k = 3 ∨ k = 4 ∨ k = 5 ∨ k = 6 ∨ k = 7 := by omega
        rcases hks with rfl | rfl | rfl | rfl | rfl | rfl | rfl | rfl
        · unfold j52_3
          simp only [go_sem, ↓reduceIte, Nat.reduceAdd, Nat.reduceMul, Nat.reduceSub, Nat.reduceLT, Nat.reduceLeDiff, Nat.reduceEqDiff, Int.reduceToNat, Int.reduceEq, Int.reduceLT, Int.reduceLE, reduceCtorEq, pf_at, cl_emb, wd_rd]
          exact ⟨1, by omega, by omega, ⟨IntWalk.i64_in _ (by omega), hv 0 (by omega)⟩, by rw [pf_fun 8 11 (by omega)], by rw [pf_fun 8 11 (by omega)]; rfl⟩
        · unfold j52_3
          simp only [go_sem, ↓reduceIte, Nat.reduceAdd, Nat.reduceMul, Nat.reduceSub, Nat.reduceLT, Nat.reduceLeDiff, Nat.reduceEqDiff, Int.reduceToNat, Int.reduceEq, Int.reduceLT, Int.reduceLE, reduceCtorEq, pf_at, cl_emb, wd_rd]
          exact ⟨2, by omega, by omega, ⟨IntWalk.i64_in _ (by omega), hv 1 (by omega)⟩, by rw [pf_fun 8 11 (by omega)], by rw [pf_fun 8 11 (by omega)]; rfl⟩
        · unfold j52_3
          simp only [go_sem, ↓reduceIte, Nat.reduceAdd, Nat.reduceMul, Nat.reduceSub, Nat.reduceLT, Nat.reduceLeDiff, Nat.reduceEqDiff, Int.reduceToNat, Int.reduceEq, Int.reduceLT, Int.reduceLE, reduceCtorEq, pf_at, cl_emb, wd_rd]
          exact ⟨3, by omega, by omega, ⟨IntWalk.i64_in _ (by omega), hv 2 (by omega)⟩, by rw [pf_fun 8 11 (by omega)], by rw [pf_fun 8 11 (by omega)]; rfl⟩
        · unfold j52_3
          simp only [go_sem, ↓reduceIte, Nat.reduceAdd, Nat.reduceMul, Nat.reduceSub, Nat.reduceLT, Nat.reduceLeDiff, Nat.reduceEqDiff, Int.reduceToNat, Int.reduceEq, Int.reduceLT, Int.reduceLE, reduceCtorEq, pf_at, cl_emb, wd_rd]
          exact ⟨4, by omega, by omega, ⟨IntWalk.i64_in _ (by omega), hv 3 (by omega)⟩, by rw [pf_fun 8 11 (by omega)], by rw [pf_fun 8 11 (by omega)]; rfl⟩
        · unfold j52_3
          simp only [go_sem, ↓reduceIte, Nat.reduceAdd, Nat.reduceMul, Nat.reduceSub, Nat.reduceLT, Nat.reduceLeDiff, Nat.reduceEqDiff, Int.reduceToNat, Int.reduceEq, Int.reduceLT, Int.reduceLE, reduceCtorEq, pf_at, cl_emb, wd_rd]
          exact ⟨5, by omega, by omega, ⟨IntWalk.i64_in _ (by omega), hv 4 (by omega)⟩, by rw [pf_fun 8 11 (by omega)], by rw [pf_fun 8 11 (by omega)]; rfl⟩
        · unfold j52_3
          simp only [go_sem, ↓reduceIte, Nat.reduceAdd, Nat.reduceMul, Nat.reduceSub, Nat.reduceLT, Nat.reduceLeDiff, Nat.reduceEqDiff, Int.reduceToNat, Int.reduceEq, Int.reduceLT, Int.reduceLE, reduceCtorEq, pf_at, cl_emb, wd_rd]
          exact ⟨6, by omega, by omega, ⟨IntWalk.i64_in _ (by omega), hv 5 (by omega)⟩, by rw [pf_fun 8 11 (by omega)], by rw [pf_fun 8 11 (by omega)]; rfl⟩
        · unfold j52_3
          simp only [go_sem, ↓reduceIte, Nat.reduceAdd, Nat.reduceMul, Nat.reduceSub, Nat.reduceLT, Nat.reduceLeDiff, Nat.reduceEqDiff, Int.reduceToNat, Int.reduceEq, Int.reduceLT, Int.reduceLE, reduceCtorEq, pf_at, cl_emb, wd_rd]
          exact ⟨7, by omega, by omega, ⟨IntWalk.i64_in _ (by omega), hv 6 (by omega)⟩, by rw [pf_fun 8 11 (by omega)], by rw [pf_fun 8 11 (by omega)]; rfl⟩
        · unfold j52_3
          simp only [go_sem, ↓reduceIte, Nat.reduceAdd, Nat.reduceMul, Nat.reduceSub, Nat.reduceLT, Nat.reduceLeDiff, Nat.reduceEqDiff, Int.reduceToNat, Int.reduceEq, Int.reduceLT, Int.reduceLE, reduceCtorEq, pf_at, cl_emb, wd_rd]
          exact ⟨8, by omega, by omega, ⟨IntWalk.i64_in _ (by omega), hv 7 (by omega)⟩, by rw [pf_fun 8 11 (by omega)], by rw [pf_fun 8 11 (by omega)]; rfl⟩
      · have e : k = 8 := by omega
        subst e
        unfold j52_3
        simp only [go_sem, ↓reduceIte, Nat.reduceAdd, Nat.reduceMul, Nat.reduceSub, Nat.reduceLT, Nat.reduceLeDiff, Nat.reduceEqDiff, Int.reduceToNat, Int.reduceEq, Int.reduceLT, Int.reduceLE, reduceCtorEq]
        unfold j52_4
        simp only [go_sem, ↓reduceIte, Nat.reduceAdd, Nat.reduceMul, Nat.reduceSub, Nat.reduceLT, Nat.reduceLeDiff, Nat.reduceEqDiff, Int.reduceToNat, Int.reduceEq, Int.reduceLT, Int.reduceLE, reduceCtorEq]
end Go.Proofs.Ytgcbhanfhnianaa.Fa
