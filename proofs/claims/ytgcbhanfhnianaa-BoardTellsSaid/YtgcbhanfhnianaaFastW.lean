/- The reference of fast. Conditions: none. -/
import Derived.Test.YtgcbhanfhnianaaFastR
import Derived.Test.YtgcbhanfhnianaaFullQ
set_option linter.unusedSimpArgs false
set_option linter.unusedVariables false
set_option maxRecDepth 100000
open Go Go.Sx Go.Proofs
namespace Go.Proofs.Ytgcbhanfhnianaa.Fa
open Go.Proofs.Ytgcbhanfhnianaa.D Go.Proofs.Ytgcbhanfhnianaa.Tr Go.Proofs.Ytgcbhanfhnianaa.C Go.Proofs.Ytgcbhanfhnianaa.Fu Go.Proofs.Ytgcbhanfhnianaa.Ah Go.Proofs.Ytgcbhanfhnianaa.Ps Go.Proofs.Ytgcbhanfhnianaa.Od Go.Proofs.Ytgcbhanfhnianaa.St
/-- Is the thread at j still at the number that it had at i? -/
def epB (l : List Ev) (i j : Nat) : Bool := decide ((at' l i).thr = (at' l j).thr ∧ ∀ k, k < j → i ≤ k → ¬ ((at' l k).thr = (at' l i).thr ∧ isSt (at' l k) = true))
def epW (l : List Ev) (i : Int) (j : Nat) : Bool := decide (0 ≤ i) && epB l i.toNat j
def knW (l : List Ev) (i : Int) (j : Nat) : Bool := decide (i < 0) || aheadR l i.toNat j
def lateB (l : List Ev) (rds : List Nat) (j : Nat) : Bool := rds.any fun i => !aheadR l i j
structure FS where
  wr : Int
  rds : List Nat
  mn : Bool
def skipB (l : List Ev) (x : Nat) (j : Nat) : Prop := 2 < (at' l j).kind ∨ ¬ (at' l j).obj = x
instance (l : List Ev) (x j : Nat) : Decidable (skipB l x j) := inferInstanceAs (Decidable (_ ∨ _))
def sameB (l : List Ev) (s : FS) (j : Nat) : Prop := s.mn = false ∧ s.rds.length = 1 ∧ epB l (s.rds.getD 0 0) j = true
instance (l : List Ev) (s : FS) (j : Nat) : Decidable (sameB l s j) := inferInstanceAs (Decidable (_ ∧ _))
def stF (l : List Ev) (x : Nat) (s : FS) (j : Nat) : FS := if skipB l x j then s else if (at' l j).kind = 1 then
    if sameB l s j then s else if s.mn = false ∧ lateB l s.rds j = false then ⟨s.wr, [j], false⟩ else ⟨s.wr, s.rds.filter (fun i => !decide ((at' l i).thr = (at' l j).thr)) ++ [j], true⟩
  else if epW l s.wr j = true then s else ⟨j, if s.mn = true then [] else s.rds, false⟩
def fkF (l : List Ev) (x : Nat) (s : FS) (j : Nat) : Int := if skipB l x j then 0 else if (at' l j).kind = 1 then
    if sameB l s j then 0 else if knW l s.wr j = true then 0 else 2
  else if epW l s.wr j = true then 0 else if knW l s.wr j = false then 1 else if lateB l s.rds j = true then 3 else 0
def slF (l : List Ev) (x : Nat) (s : FS) (j : Nat) : Nat := if skipB l x j then 0 else if (at' l j).kind = 1 then
    if sameB l s j then 0 else if s.mn = false ∧ lateB l s.rds j = true then 1 else 0
  else 0
def FSr (l : List Ev) (x : Nat) : Nat → FS
  | 0 => ⟨-1, [], false⟩
  | j + 1 => stF l x (FSr l x j) j
def flW (l : List Ev) (x : Nat) : Nat → List Fl
  | 0 => []
  | j + 1 => flW l x j ++ if fkF l x (FSr l x j) j = 0 then [] else [⟨j, x, fkF l x (FSr l x j) j⟩]
def slW (l : List Ev) (x : Nat) : Nat → Nat
  | 0 => 0
  | j + 1 => slW l x j + slF l x (FSr l x j) j
def flA (l : List Ev) : Nat → List Fl
  | 0 => []
  | x + 1 => flA l x ++ flW l x l.length
def slA (l : List Ev) : Nat → Nat
  | 0 => 0
  | x + 1 => slA l x + slW l x l.length
def outA (l : List Ev) (F : List Fl) : Nat → List Fl
  | 0 => []
  | j + 1 => outA l F j ++ F.filter (fun f : Fl => decide (f.at' = (j : Int)))
theorem flW_len {l : List Ev} {x : Nat} : ∀ j, (flW l x j).length ≤ j
  | 0 => Nat.le_refl _
  | j + 1 => by
    have := flW_len (l := l) (x := x) j
    rw [flW, List.length_append]; split <;> simp <;> omega
theorem slW_le {l : List Ev} {x : Nat} : ∀ j, slW l x j ≤ j
  | 0 => Nat.le_refl _
  | j + 1 => by
    have := slW_le (l := l) (x := x) j
    rw [slW, slF]; split
    · omega
    · split
      · split
        · omega
        · split <;> omega
      · omega
theorem flA_len {l : List Ev} : ∀ x, (flA l x).length ≤ x * l.length
  | 0 => by simp [flA]
  | x + 1 => by
    have := flA_len (l := l) x
    have := flW_len (l := l) (x := x) l.length
    rw [flA, List.length_append, Nat.add_mul]; omega
theorem slA_le {l : List Ev} : ∀ x, slA l x ≤ x * l.length
  | 0 => by simp [slA]
  | x + 1 => by
    have := slA_le (l := l) x
    have := slW_le (l := l) (x := x) l.length
    rw [slA, Nat.add_mul]; omega
theorem outA_len {l : List Ev} {F : List Fl} : ∀ j, (outA l F j).length ≤ j * F.length
  | 0 => by simp [outA]
  | j + 1 => by
    have := outA_len (l := l) (F := F) j
    have := List.length_filter_le (fun f : Fl => decide (f.at' = (j : Int))) F
    rw [outA, List.length_append, Nat.add_mul]; omega
theorem FSr_ok {l : List Ev} {x : Nat} : ∀ j, -1 ≤ (FSr l x j).wr ∧ (FSr l x j).wr < j ∧ (∀ i ∈ (FSr l x j).rds, i < j) ∧ (FSr l x j).rds.length ≤ j
  | 0 => ⟨by simp [FSr], by simp [FSr], by simp [FSr], by simp [FSr]⟩
  | j + 1 => by
    obtain ⟨h1, h2, h3, h4⟩ := FSr_ok (l := l) (x := x) j
    have h3' : ∀ i ∈ (FSr l x j).rds, i < j + 1 := fun i hi => Nat.lt_succ_of_lt (h3 i hi)
    have hf := List.length_filter_le (fun i => !decide ((at' l i).thr = (at' l j).thr)) (FSr l x j).rds
    rw [FSr, stF]
    split
    · exact ⟨h1, by omega, h3', by omega⟩
    · split
      · split
        · exact ⟨h1, by omega, h3', by omega⟩
        · split
          · exact ⟨h1, by show (FSr l x j).wr < _; omega, by simp, by simp⟩
          · refine ⟨h1, by show (FSr l x j).wr < _; omega, ?_, by simp; omega⟩
            intro i hi
            simp only [List.mem_append, List.mem_filter, List.mem_cons, List.not_mem_nil, or_false] at hi
            rcases hi with hi | hi
            · exact h3' i hi.1
            · omega
      · split
        · exact ⟨h1, by omega, h3', by omega⟩
        · refine ⟨by show -1 ≤ (j : Int); omega, by show (j : Int) < _; omega, ?_, ?_⟩
          · show ∀ i ∈ (if (FSr l x j).mn = true then [] else (FSr l x j).rds), i < j + 1
            split
            · simp
            · exact h3'
          · show (if (FSr l x j).mn = true then [] else (FSr l x j).rds).length ≤ j + 1
            split
            · simp
            · omega
def flT (l : List Ev) (x j : Nat) : List Fl := flA l x ++ flW l x j
def slT (l : List Ev) (x j : Nat) : Nat := slA l x + slW l x j
def rI (s : FS) : List Int := s.rds.map fun (i : Nat) => (i : Int)
theorem rI_len (s : FS) : (rI s).length = s.rds.length := List.length_map _
theorem rI_get {s : FS} {k : Nat} (h : k < s.rds.length) : ((rI s).map DT.int.emb).getD k .junk = .int .i64 ((s.rds.getD k 0 : Nat) : Int) := by
  rw [rI, List.map_map]
  simp [List.getD, h]
  rfl
theorem fl_getD {F : List Fl} {i : Nat} (h : i < F.length) : (F.map dFl.emb).getD i .junk = .agg [.int .i64 (F.getD i dFl.dft).at', .int .i64 (F.getD i dFl.dft).var, .int .i64 (F.getD i dFl.dft).kind] := by
  simp [List.getD, h, fl_emb]
def oI (l : List Ev) (F : List Fl) (j i : Nat) : List Fl := outA l F j ++ (F.take i).filter (fun f : Fl => decide (f.at' = (j : Int)))
theorem oI_0 {l : List Ev} {F : List Fl} {j : Nat} : oI l F j 0 = outA l F j := by simp [oI]
theorem oI_n {l : List Ev} {F : List Fl} {j : Nat} : oI l F j F.length = outA l F (j + 1) := by rw [oI, List.take_length, outA]
theorem oI_len {l : List Ev} {F : List Fl} {j : Nat} (i : Nat) : (oI l F j i).length ≤ j * F.length + i := by
  have h0 := outA_len (l := l) (F := F) j
  have h1 := List.length_filter_le (fun f : Fl => decide (f.at' = (j : Int))) (F.take i)
  have h2 := List.length_take_le i F
  rw [oI, List.length_append]; omega
theorem oI_yes {l : List Ev} {F : List Fl} {j i : Nat} (h : i < F.length) (q : (F.getD i dFl.dft).at' = (j : Int)) : oI l F j (i + 1) = oI l F j i ++ [F.getD i dFl.dft] := by
  have e : F.getD i dFl.dft = F[i] := by simp [List.getD, h]
  rw [e] at q ⊢
  rw [oI, List.take_add_one, List.getElem?_eq_getElem h, Option.toList_some, List.filter_append, List.filter_cons_of_pos (by simp [q]), List.filter_nil, oI, List.append_assoc]
theorem oI_no {l : List Ev} {F : List Fl} {j i : Nat} (h : i < F.length) (q : ¬ (F.getD i dFl.dft).at' = (j : Int)) : oI l F j (i + 1) = oI l F j i := by
  have e : F.getD i dFl.dft = F[i] := by simp [List.getD, h]
  rw [e] at q
  rw [oI, List.take_add_one, List.getElem?_eq_getElem h, Option.toList_some, List.filter_append, List.filter_cons_of_neg (by simp [q]), List.filter_nil, List.append_nil, oI]
/-- The reads of other threads, of the first k. -/
def rsF (l : List Ev) (rds : List Nat) (j k : Nat) : List Int := ((rds.take k).filter fun i => !decide ((at' l i).thr = (at' l j).thr)).map fun (i : Nat) => (i : Int)
theorem rsF_len {l : List Ev} {rds : List Nat} {j : Nat} (k : Nat) : (rsF l rds j k).length ≤ k := by
  rw [rsF, List.length_map]
  have h1 := List.length_filter_le (fun i => !decide ((at' l i).thr = (at' l j).thr)) (rds.take k)
  have h2 := List.length_take_le k rds
  omega
theorem rsF_ne {l : List Ev} {rds : List Nat} {j k : Nat} (h : k < rds.length) (q : ¬ (l.getD (rds.getD k 0) dEv.dft).thr = (l.getD j dEv.dft).thr) : rsF l rds j (k + 1) = rsF l rds j k ++ [((rds.getD k 0 : Nat) : Int)] := by
  have e : rds.getD k 0 = rds[k] := by simp [List.getD, h]
  rw [e] at q ⊢
  have q : ¬ (at' l rds[k]).thr = (at' l j).thr := q
  rw [rsF, List.take_add_one, List.getElem?_eq_getElem h, Option.toList_some, List.filter_append, List.map_append, List.filter_cons_of_pos (by simp [q])]
  rfl
theorem rsF_eq {l : List Ev} {rds : List Nat} {j k : Nat} (h : k < rds.length) (q : (l.getD (rds.getD k 0) dEv.dft).thr = (l.getD j dEv.dft).thr) : rsF l rds j (k + 1) = rsF l rds j k := by
  have e : rds.getD k 0 = rds[k] := by simp [List.getD, h]
  rw [e] at q
  have q : (at' l rds[k]).thr = (at' l j).thr := q
  rw [rsF, List.take_add_one, List.getElem?_eq_getElem h, Option.toList_some, List.filter_append, List.filter_cons_of_neg (by simp [q]), List.filter_nil, List.append_nil]
  rfl
def j55_1 : JC :=
  (.seq (.seq (.ops <|
  qo 23 (.mv (.t 6)) <|
  qo 24 (.mv (.t 1)) <|
  qo 25 (.cmp .lss (.t 23) (.t 24)) <|
  .nil)
  (.cond (.t 25)
  .skip
  (.exit 0)))
  (.seq (.block 1 (.seq (.dops <|
  .prune [2, 6, 0, 1] <|
  eo 28 (.load 1 false (.t 2)) <|
  qo 29 (.mv (.t 6)) <|
  qo 30 (.is 3 (.t 28) (.t 29)) <|
  qo 31 (.fa 1 1 (.t 30)) <|
  .prune [31, 2, 0, 6, 1] <|
  eo 32 (.load 1 false (.t 31)) <|
  eo 33 (.load 1 false (.t 2)) <|
  qo 34 (.mv (.t 0)) <|
  qo 35 (.is 3 (.t 33) (.t 34)) <|
  .prune [35, 32, 2, 6, 1, 0] <|
  qo 36 (.fa 1 1 (.t 35)) <|
  eo 37 (.load 1 false (.t 36)) <|
  qo 38 (.cmp .eql (.t 32) (.t 37)) <|
  .prune [38, 2, 6, 1, 0] <|
  qo 39 (.mv (.t 38)) <|
  .sc false 62 39 (eo 40 (.load 1 false (.t 2)) <|
  qo 41 (.mv (.t 6)) <|
  qo 42 (.is 3 (.t 40) (.t 41)) <|
  qo 43 (.fa 0 0 (.t 42)) <|
  eo 44 (.load 1 false (.t 43)) <|
  qo 45 (.cmp .eql (.t 44) (I 4)) <|
  qo 46 (.mv (.t 45)) <|
  .sc true 53 46 (eo 47 (.load 1 false (.t 2)) <|
  qo 48 (.mv (.t 6)) <|
  qo 49 (.is 3 (.t 47) (.t 48)) <|
  qo 50 (.fa 0 0 (.t 49)) <|
  eo 51 (.load 1 false (.t 50)) <|
  qo 52 (.cmp .eql (.t 51) (I 5)) <|
  .nil) (.t 52) <|
  qo 54 (.mv (.t 53)) <|
  .sc true 61 54 (eo 55 (.load 1 false (.t 2)) <|
  qo 56 (.mv (.t 6)) <|
  qo 57 (.is 3 (.t 55) (.t 56)) <|
  qo 58 (.fa 0 0 (.t 57)) <|
  eo 59 (.load 1 false (.t 58)) <|
  qo 60 (.cmp .eql (.t 59) (I 8)) <|
  .nil) (.t 60) <|
  .nil) (.t 61) <|
  .nil)
  (.prune [62, 6, 1, 2, 0] (.cond (.t 62)
  (.seq (.ops <|
  qo 5 (.mv (B false)) <|
  .nil)
  .ret)
  .skip))))
  (.prune [6, 1, 2, 0] (.ops <|
  qo 26 (.mv (.t 6)) <|
  qo 27 (.ar .add (.t 26) (I 1)) <|
  qo 6 (.mv (.t 27)) <|
  .nil))))
def j55_2 : JC :=
  (.prune [] (.seq (.ops <|
  qo 5 (.mv (B true)) <|
  .nil)
  .ret))
def j55 : JC :=
  (.seq (.ops <|
  qo 5 (.mv (B false)) <|
  .nil)
  (.seq (.seq (.dops <|
  qo 7 (.mv (.t 0)) <|
  qo 8 (.cmp .lss (.t 7) (I 0)) <|
  qo 9 (.mv (.t 8)) <|
  .sc true 21 9 (eo 10 (.load 1 false (.t 2)) <|
  qo 11 (.mv (.t 0)) <|
  qo 12 (.is 3 (.t 10) (.t 11)) <|
  qo 13 (.fa 1 1 (.t 12)) <|
  eo 14 (.load 1 false (.t 13)) <|
  eo 15 (.load 1 false (.t 2)) <|
  qo 16 (.mv (.t 1)) <|
  qo 17 (.is 3 (.t 15) (.t 16)) <|
  qo 18 (.fa 1 1 (.t 17)) <|
  eo 19 (.load 1 false (.t 18)) <|
  qo 20 (.cmp .neq (.t 14) (.t 19)) <|
  .nil) (.t 20) <|
  .nil)
  (.prune [21, 0, 1, 2] (.cond (.t 21)
  (.seq (.ops <|
  qo 5 (.mv (B false)) <|
  .nil)
  .ret)
  .skip)))
  (.prune [0, 1, 2] (.seq (.seq (.ops <|
  qo 22 (.mv (.t 0)) <|
  qo 6 (.mv (.t 22)) <|
  .nil)
  (.block 0 (.loop [1, 2, 0] [6] j55_1)))
  j55_2))))
theorem c55 : fnIs Try.prog qall 55 = some (j55.flat, [.tmp 5], 63) := by kernel_rfl
theorem w55 : j55.wf 63 = true := by kernel_rfl

def j56 : JC :=
  (.seq (.ops <|
  qo 5 (.mv (B false)) <|
  .nil)
  (.seq (.ops <|
  qo 6 (.mv (.t 0)) <|
  qo 7 (.cmp .lss (.t 6) (I 0)) <|
  qo 8 (.mv (.t 7)) <|
  .sc true 16 8 (eo 9 (.load 1 false (.t 2)) <|
  qo 10 (.mv (.t 0)) <|
  qo 11 (.is 1 (.t 9) (.t 10)) <|
  eo 12 (.load 1 false (.t 11)) <|
  qo 13 (.mv (.t 1)) <|
  qo 14 (.is 1 (.t 12) (.t 13)) <|
  eo 15 (.load 1 false (.t 14)) <|
  .nil) (.t 15) <|
  qo 5 (.mv (.t 16)) <|
  .nil)
  .ret))
theorem c56 : fnIs Try.prog qall 56 = some (j56.flat, [.tmp 5], 17) := by kernel_rfl
theorem w56 : j56.wf 17 = true := by kernel_rfl
theorem f_F2 (n : Nat) (M : Nat → Nat → Bool) (i : Int) (j : Nat) (hi : i < n) (hj : j < n) : FnOK Try.prog 56 [.int .i64 i, .int .i64 j, .ref (dRows.emb (rowsOf n M)) [] 0] [] (.bool (decide (i < 0) || M i.toNat j)) [] := by
  refine fn_walkF c56 w56 FH.none_ok rfl ?_
  unfold j56
  by_cases h : i < 0
  · simp only [go_sem, ↓reduceIte, Nat.reduceAdd, Nat.reduceMul, Nat.reduceSub, Nat.reduceLT, Nat.reduceLeDiff, Nat.reduceEqDiff, Int.reduceToNat, Int.reduceEq, Int.reduceLT, Int.reduceLE, reduceCtorEq, h]
  · obtain ⟨k, rfl⟩ : ∃ k : Nat, i = k := ⟨i.toNat, by omega⟩
    have hk : k < n := by omega
    simp only [go_sem, ↓reduceIte, Nat.reduceAdd, Nat.reduceMul, Nat.reduceSub, Nat.reduceLT, Nat.reduceLeDiff, Nat.reduceEqDiff, Int.reduceToNat, Int.reduceEq, Int.reduceLT, Int.reduceLE, reduceCtorEq, h, hk, rows_len, rows_row hk, rows_at hk hj]
    omega
theorem f_F1 (l : List Ev) (i : Int) (j : Nat) (hl : l.length ≤ 1000) (hi : i < j) (hj : j < l.length) : FnOK Try.prog 55 [.int .i64 i, .int .i64 j, .ref (dEs.emb l) [] 0] [] (.bool (epW l i j)) [] := by
  refine fn_walkF c55 w55 FH.none_ok rfl ?_
  unfold j55
  by_cases h : i < 0
  · have e : epW l i j = false := by rw [epW]; simp; omega
    simp only [go_sem, ↓reduceIte, Nat.reduceAdd, Nat.reduceMul, Nat.reduceSub, Nat.reduceLT, Nat.reduceLeDiff, Nat.reduceEqDiff, Int.reduceToNat, Int.reduceEq, Int.reduceLT, Int.reduceLE, reduceCtorEq, h, e]
  · obtain ⟨k, rfl⟩ : ∃ k : Nat, i = k := ⟨i.toNat, by omega⟩
    have hk : k < j := by omega
    have e : epW l k j = epB l k j := by rw [epW, Int.toNat_natCast]; simp
    rw [e]
    simp only [go_sem, ↓reduceIte, Nat.reduceAdd, Nat.reduceMul, Nat.reduceSub, Nat.reduceLT, Nat.reduceLeDiff, Nat.reduceEqDiff, Int.reduceToNat, Int.reduceEq, Int.reduceLT, Int.reduceLE, reduceCtorEq, h, hk]
    refine ⟨⟨by omega, by omega⟩, fun ht => by rw [epB]; exact (decide_eq_false fun hh => ht hh.1).symm, fun ht => ?_⟩
    refine loopF Nat (fun a => [.int .i64 a]) (fun a => []) (fun a => k ≤ a ∧ a ≤ j ∧ ∀ b, b < a → k ≤ b → ¬ ((at' l b).thr = (at' l k).thr ∧ isSt (at' l b) = true)) (fun a => j - a) k ⟨by omega, by omega, fun b h1 h2 => by omega⟩ ?_ rfl ?_
    · simp only [go_sem, ↓reduceIte, Nat.reduceAdd, Nat.reduceMul, Nat.reduceSub, Nat.reduceLT, Nat.reduceLeDiff, Nat.reduceEqDiff, Int.reduceToNat, Int.reduceEq, Int.reduceLT, Int.reduceLE, reduceCtorEq]
    intro a ⟨ha1, ha2, ha3⟩
    have hn : (at' l a).thr = (at' l k).thr → isSt (at' l a) = true → a < j → epB l k j = false := by
      intro h1 h2 h3
      rw [epB, decide_eq_false_iff_not]
      exact fun hh => hh.2 a h3 ha1 ⟨h1, h2⟩
    by_cases q : a < j
    · have q' : (a : Int) < j := by omega
      have hw : IntKind.i64.wrap ((a : Int) + 1) = ((a + 1 : Nat) : Int) := IntWalk.i64_in _ (by omega)
      have hal : a < l.length := by omega
      unfold j55_1
      simp only [go_sem, ↓reduceIte, Nat.reduceAdd, Nat.reduceMul, Nat.reduceSub, Nat.reduceLT, Nat.reduceLeDiff, Nat.reduceEqDiff, Int.reduceToNat, Int.reduceEq, Int.reduceLT, Int.reduceLE, reduceCtorEq, q', hw, hal, hk]
      refine ⟨⟨by omega, by omega⟩, ⟨by omega, by omega⟩, fun _ => ⟨⟨⟨by omega, by omega⟩, fun _ => ⟨by omega, by omega⟩⟩, fun _ => ⟨by omega, by omega⟩⟩, fun hh => ?_, fun hh => ⟨a + 1, ⟨by omega, by omega, fun b h1 h2 h3 => ?_⟩, by omega, rfl⟩⟩
      · rw [Bool.and_eq_true, decide_eq_true_eq] at hh
        exact (hn hh.1 hh.2 q).symm
      · by_cases e : b = a
        · subst e
          have hh : (decide ((at' l b).thr = (at' l k).thr) && isSt (at' l b)) = false := hh
          rw [decide_eq_true h3.1, h3.2] at hh
          cases hh
        · exact ha3 b (by omega) h2 h3
    · have q' : ¬ (a : Int) < j := by omega
      have e : a = j := by omega
      subst e
      have e : epB l k a = true := by rw [epB]; exact decide_eq_true ⟨ht, ha3⟩
      unfold j55_1
      simp only [go_sem, ↓reduceIte, Nat.reduceAdd, Nat.reduceMul, Nat.reduceSub, Nat.reduceLT, Nat.reduceLeDiff, Nat.reduceEqDiff, Int.reduceToNat, Int.reduceEq, Int.reduceLT, Int.reduceLE, reduceCtorEq, q', e]
      unfold j55_2
      simp only [go_sem, ↓reduceIte, Nat.reduceAdd, Nat.reduceMul, Nat.reduceSub, Nat.reduceLT, Nat.reduceLeDiff, Nat.reduceEqDiff, Int.reduceToNat, Int.reduceEq, Int.reduceLT, Int.reduceLE, reduceCtorEq]
      exact e.symm
end Go.Proofs.Ytgcbhanfhnianaa.Fa
