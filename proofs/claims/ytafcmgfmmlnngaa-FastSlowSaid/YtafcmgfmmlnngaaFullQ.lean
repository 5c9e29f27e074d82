/- The flags of full are those of the races. Conditions: none. -/
import Derived.Test.YtafcmgfmmlnngaaFullM
set_option linter.unusedSimpArgs false
set_option linter.unusedVariables false
open Go Go.Sx Go.Proofs
namespace Go.Proofs.Ytafcmgfmmlnngaa.Fu
open Go.Proofs.Ytafcmgfmmlnngaa.D Go.Proofs.Ytafcmgfmmlnngaa.Tr Go.Proofs.Ytafcmgfmmlnngaa.C Go.Proofs.Ytafcmgfmmlnngaa.Ah Go.Proofs.Ytafcmgfmmlnngaa.Ps Go.Proofs.Ytafcmgfmmlnngaa.Od Go.Proofs.Ytafcmgfmmlnngaa.St Go.Proofs.Ytafcmgfmmlnngaa.Rc
theorem sync_acc {k : Kp} {e : Ev} (h : isAcc e = true) : syncK k e = k := by
  simp only [isAcc, Bool.or_eq_true, decide_eq_true_eq] at h
  unfold syncK
  rcases h with h | h <;> simp [h]
theorem runK_succ (l : List Ev) (j : Nat) : runK l (j + 1) = syncK (runK l j) (at' l j) := by
  show (if isAcc (at' l j) = true then runK l j else syncK (runK l j) (at' l j)) = _
  by_cases h : isAcc (at' l j) = true
  · rw [if_pos h, sync_acc h]
  · rw [if_neg h]
section
variable {l : List Ev} (hok : (checkR l).2 = 0)
include hok
theorem FI_at : ∀ {j : Nat}, j ≤ l.length → FI l j (runK l j)
  | 0, _ => by
    refine ⟨fun t u i _ _ hi => absurd hi (Nat.not_lt_zero _), fun t u i _ _ hi => absurd hi (Nat.not_lt_zero _), fun t u i _ _ hi => absurd hi (Nat.not_lt_zero _), ?_, ?_, ?_, ?_, ?_, ?_, ?_⟩
    · intro t ht; simp [runK, newK, ht, cs]
    · intro t u ht hu hne _; simp [runK, newK, ht, cs, hne]
    · intro m u _ _ _; simp [runK, newK, cs]
    · intro m u _ _ _; simp [runK, newK, cs]
    · intro t u ht hu
      simp only [runK, newK, cs]
      split <;> simp
    · intro m u _ _; simp [runK, newK, cs]
    · intro m u _ _; simp [runK, newK, cs]
  | j + 1, hj => by
    rw [runK_succ]
    exact FI_step hok (by omega) (FI_at (by omega))
theorem own_eq {j : Nat} (hj : j ≤ l.length) (t : Nat) : ownC l j t = cs l t j := by
  have hlen := ok_len hok
  induction j with
  | zero => rfl
  | succ j ih =>
    have ih := ih (by omega)
    have hb := cs_le (l := l) t j
    show (if isSt (at' l j) = true then bumpC (ownC l j) (at' l j).thr.toNat (IntKind.i64.wrap (ownC l j (at' l j).thr.toNat + 1)) else ownC l j) t = _
    rw [cs]
    by_cases hs : isSt (at' l j) = true
    · rw [if_pos hs, bumpC]
      by_cases e : t = (at' l j).thr.toNat
      · rw [if_pos e, ← e, if_pos ⟨hs, rfl⟩, ih]
        exact IntWalk.i64_in _ (by omega)
      · rw [if_neg e, if_neg (fun hh => e hh.2.symm), ih]; simp
    · rw [if_neg hs, if_neg (fun hh => hs hh.1), ih]; simp
/-- What the numbers of the last accesses tell. -/
theorem lastC_spec (kk x : Int) : ∀ {j : Nat}, j ≤ l.length → ∀ u, (lastC l kk x j u = 0 ∧ ∀ i, i < j → ¬ ((at' l i).kind = kk ∧ (at' l i).obj = x ∧ (at' l i).thr.toNat = u)) ∨
    ∃ i, i < j ∧ (at' l i).kind = kk ∧ (at' l i).obj = x ∧ (at' l i).thr.toNat = u ∧ lastC l kk x j u = 1 + cs l u i ∧ ∀ i', i' < j → (at' l i').kind = kk ∧ (at' l i').obj = x ∧ (at' l i').thr.toNat = u → i' ≤ i
  | 0, _, u => .inl ⟨rfl, fun i hi => absurd hi (Nat.not_lt_zero _)⟩
  | j + 1, hj, u => by
    have hlen := ok_len hok
    have ih := lastC_spec kk x (j := j) (by omega) u
    have hs : lastC l kk x (j + 1) u = if ((at' l j).kind = kk ∧ (at' l j).obj = x) ∧ u = (at' l j).thr.toNat then 1 + (cs l u j : Int) else lastC l kk x j u := by
      show (if (at' l j).kind = kk ∧ (at' l j).obj = x then bumpC (lastC l kk x j) (at' l j).thr.toNat (IntKind.i64.wrap (ownC l j (at' l j).thr.toNat + 1)) else lastC l kk x j) u = _
      have hb := cs_le (l := l) u j
      by_cases hk : (at' l j).kind = kk ∧ (at' l j).obj = x
      · rw [if_pos hk, bumpC]
        by_cases e : u = (at' l j).thr.toNat
        · rw [if_pos e, if_pos ⟨hk, e⟩, ← e, own_eq hok (by omega), IntWalk.i64_in _ (by omega)]; omega
        · rw [if_neg e, if_neg (fun hh => e hh.2)]
      · rw [if_neg hk, if_neg (fun hh => hk hh.1)]
    rw [hs]
    by_cases hk : ((at' l j).kind = kk ∧ (at' l j).obj = x) ∧ u = (at' l j).thr.toNat
    · rw [if_pos hk]
      exact .inr ⟨j, Nat.lt_succ_self _, hk.1.1, hk.1.2, hk.2.symm, rfl, fun i' hi' _ => by omega⟩
    · rw [if_neg hk]
      rcases ih with ⟨h1, h2⟩ | ⟨i, hi, h1, h2, h3, h4, h5⟩
      · refine .inl ⟨h1, fun i hi hh => ?_⟩
        by_cases e : i = j
        · subst e; exact hk ⟨⟨hh.1, hh.2.1⟩, hh.2.2.symm⟩
        · exact h2 i (by omega) hh
      · refine .inr ⟨i, by omega, h1, h2, h3, h4, fun i' hi' hh => ?_⟩
        by_cases e : i' = j
        · subst e; exact absurd ⟨⟨hh.1, hh.2.1⟩, hh.2.2.symm⟩ hk
        · exact h5 i' (by omega) hh
/-- An access is late for none of a kind just if all of them are ahead of it. -/
theorem within_iff {j : Nat} (hj : j < l.length) (ha : isAcc (at' l j) = true) (kk x : Int) {w : Clk} (hw : ∀ u, u < 6 → w u = lastC l kk x j u) :
    withB w ((runK l j).thr (at' l j).thr.toNat) = true ↔ ∀ i, i < j → (at' l i).kind = kk → (at' l i).obj = x → Ahd l i j := by
  have hF := FI_at hok (Nat.le_of_lt hj)
  have b := bnd hok hj
  have ht : (at' l j).thr.toNat < 6 := by omega
  have hpast : ∀ i, Ahd l i j ↔ TS l j (at' l j).thr.toNat i := fun i => by
    rw [past_iff hok hj]
    simp only [isAcc, Bool.or_eq_true, decide_eq_true_eq] at ha
    rcases ha with ha | ha <;> simp [ha]
  have hW : withB w ((runK l j).thr (at' l j).thr.toNat) = true ↔ ∀ u, u < 6 → lastC l kk x j u ≤ (runK l j).thr (at' l j).thr.toNat u := by
    simp only [withB, List.all_eq_true, List.mem_range, decide_eq_true_eq]
    refine forall_congr' fun u => imp_congr_right fun hu => ?_
    rw [join_at hu, hw u hu]
    split <;> omega
  rw [hW]
  constructor
  · intro h i hi hk hx
    have bi := bnd hok (show i < l.length by omega)
    have hu : (at' l i).thr.toNat < 6 := by omega
    rcases lastC_spec hok kk x (Nat.le_of_lt hj) (at' l i).thr.toNat with ⟨_, h2⟩ | ⟨i', hi', h1, h2, h3, h4, h5⟩
    · exact absurd ⟨hk, hx, rfl⟩ (h2 i hi)
    · have hle := h5 i hi ⟨hk, hx, rfl⟩
      have hc := h _ hu
      rw [h4, hF.c1 _ _ _ ht hu hi' h3, ← hpast] at hc
      by_cases e : i = i'
      · subst e; exact hc
      · exact Pth.trans (one_dir hok (by omega) (by omega) (.inl (.inl h3.symm))) hc
  · intro h u hu
    rcases lastC_spec hok kk x (Nat.le_of_lt hj) u with ⟨h1, _⟩ | ⟨i, hi, h1, h2, h3, h4, _⟩
    · rw [h1]; exact (hF.l1 _ _ ht hu).1
    · rw [h4, hF.c1 _ _ _ ht hu hi h3, ← hpast]
      exact h i hi h1 h2
end
/-- The races. -/
theorem rowC_mem {l : List Ev} {i : Nat} {r : Rc} : ∀ {n : Nat}, r ∈ rowC l i n ↔ ∃ j, j < n ∧ noRace l i j (at' l i) (at' l j) = false ∧ r = ⟨i, j, (at' l i).obj, rkind (at' l i) (at' l j)⟩
  | 0 => by simp [rowC]
  | n + 1 => by
    have hs : rowC l i (n + 1) = rowC l i n ++ if noRace l i n (at' l i) (at' l n) = true then [] else [⟨i, n, (at' l i).obj, rkind (at' l i) (at' l n)⟩] := rfl
    rw [hs, List.mem_append, rowC_mem (n := n)]
    constructor
    · rintro (⟨j, h1, h2, h3⟩ | h)
      · exact ⟨j, by omega, h2, h3⟩
      · split at h
        · cases h
        · rename_i hn
          simp only [List.mem_cons, List.not_mem_nil, or_false] at h
          exact ⟨n, Nat.lt_succ_self _, by simpa using hn, h⟩
    · rintro ⟨j, h1, h2, h3⟩
      by_cases e : j = n
      · subst e
        refine .inr ?_
        rw [if_neg (by rw [h2]; simp), h3]; simp
      · exact .inl ⟨j, by omega, h2, h3⟩
theorem allC_mem {l : List Ev} {r : Rc} : ∀ {n : Nat}, r ∈ allC l n ↔ ∃ i, i < n ∧ r ∈ rowC l i l.length
  | 0 => by simp [allC]
  | n + 1 => by
    rw [allC, List.mem_append, allC_mem (n := n)]
    constructor
    · rintro (⟨i, h1, h2⟩ | h)
      · exact ⟨i, by omega, h2⟩
      · exact ⟨n, Nat.lt_succ_self _, h⟩
    · rintro ⟨i, h1, h2⟩
      by_cases e : i = n
      · subst e; exact .inr h2
      · exact .inl ⟨i, by omega, h2⟩
/-- The least kind: none, or the kind of one, which no other one is below. -/
theorem kR_spec {rs : List Rc} (hp : ∀ r, r ∈ rs → 0 < r.kind) (j : Int) : ∀ {n : Nat}, n ≤ rs.length → (kR rs j n = 0 ∧ ∀ r, r ∈ rs.take n → r.b ≠ j) ∨ ((∃ r, r ∈ rs ∧ r.b = j ∧ r.kind = kR rs j n) ∧ ∀ r, r ∈ rs.take n → r.b = j → kR rs j n ≤ r.kind)
  | 0, _ => .inl ⟨rfl, fun r hr => by simp at hr⟩
  | n + 1, hn => by
    have hmem := getD_mem (l := rs) (i := n) (d := dRc.dft) (by omega)
    have hpos := hp _ hmem
    rw [take_getD dRc.dft (show n < rs.length by omega), kR]
    rcases kR_spec hp j (n := n) (by omega) with ⟨h1, h2⟩ | ⟨⟨r0, h0, hb0, hk0⟩, h2⟩
    · by_cases hb : (rs.getD n dRc.dft).b = j
      · rw [if_pos ⟨hb, .inl h1⟩]
        refine .inr ⟨⟨_, hmem, hb, rfl⟩, fun r hr hrb => ?_⟩
        rcases List.mem_append.1 hr with hr | hr
        · exact absurd hrb (h2 r hr)
        · simp only [List.mem_cons, List.not_mem_nil, or_false] at hr; subst hr; exact Int.le_refl _
      · rw [if_neg (fun hh => hb hh.1)]
        refine .inl ⟨h1, fun r hr => ?_⟩
        rcases List.mem_append.1 hr with hr | hr
        · exact h2 r hr
        · simp only [List.mem_cons, List.not_mem_nil, or_false] at hr; subst hr; exact hb
    · have hk := hp _ h0
      split
      · rename_i hc
        refine .inr ⟨⟨_, hmem, hc.1, rfl⟩, fun r hr hrb => ?_⟩
        rcases List.mem_append.1 hr with hr | hr
        · have := h2 r hr hrb; omega
        · simp only [List.mem_cons, List.not_mem_nil, or_false] at hr; subst hr; exact Int.le_refl _
      · rename_i hc
        refine .inr ⟨⟨r0, h0, hb0, hk0⟩, fun r hr hrb => ?_⟩
        rcases List.mem_append.1 hr with hr | hr
        · exact h2 r hr hrb
        · simp only [List.mem_cons, List.not_mem_nil, or_false] at hr
          subst hr
          refine Int.not_lt.1 fun hlt => hc ⟨hrb, .inr hlt⟩
theorem rkind_pos (a b : Ev) : 0 < rkind a b := by
  unfold rkind; split
  · decide
  · split <;> decide
section
variable {l : List Ev} (hok : (checkR l).2 = 0)
include hok
theorem kind_ok {i : Nat} (hi : i < l.length) : 1 ≤ (at' l i).kind ∧ (at' l i).kind ≤ 8 := by
  have b := bnd hok hi
  have := b.2.2
  unfold many at this
  by_cases h : 1 ≤ (at' l i).kind ∧ (at' l i).kind ≤ 8
  · exact h
  · rw [if_neg (by omega), if_neg (by omega), if_neg (by omega), if_neg (by omega)] at this; omega
/-- What a race is. -/
theorem race_iff {i j : Nat} (hi : i < l.length) (hj : j < l.length) : noRace l i j (at' l i) (at' l j) = false ↔ i < j ∧ isAcc (at' l i) = true ∧ isAcc (at' l j) = true ∧ (at' l i).obj = (at' l j).obj ∧ ¬ ((at' l i).kind = 1 ∧ (at' l j).kind = 1) ∧ ¬ Ahd l i j := by
  have k1 := kind_ok hok hi
  have k2 := kind_ok hok hj
  have hw : IntKind.i64.wrap ((at' l i).kind + (at' l j).kind) = (at' l i).kind + (at' l j).kind := IntWalk.i64_in _ (by omega)
  have ha : aheadR l i j = false ↔ ¬ Ahd l i j := by rw [← aheadR_iff (Nat.le_of_lt hj)]; simp
  unfold noRace
  rw [hw]
  simp only [Bool.or_eq_false_iff, decide_eq_false_iff_not, Bool.not_eq_false', decide_eq_true_eq, ha, isAcc, Bool.or_eq_true]
  constructor
  · rintro ⟨⟨⟨⟨⟨h1, h2⟩, h3⟩, h4⟩, h5⟩, h6⟩
    exact ⟨by omega, by omega, by omega, h4, by omega, h6⟩
  · rintro ⟨h1, h2, h3, h4, h5, h6⟩
    exact ⟨⟨⟨⟨⟨by omega, by omega⟩, by omega⟩, h4⟩, by omega⟩, h6⟩
omit hok in
/-- The kind at an event. -/
theorem kindR_spec {j : Nat} (hj : j < l.length) : (kindR l j = 0 ∧ ∀ i, i < l.length → noRace l i j (at' l i) (at' l j) = true) ∨
    ((∃ i, i < l.length ∧ noRace l i j (at' l i) (at' l j) = false ∧ rkind (at' l i) (at' l j) = kindR l j) ∧ ∀ i, i < l.length → noRace l i j (at' l i) (at' l j) = false → kindR l j ≤ rkind (at' l i) (at' l j)) := by
  have hm : ∀ r, r ∈ racesF l ↔ ∃ i, i < l.length ∧ ∃ j, j < l.length ∧ noRace l i j (at' l i) (at' l j) = false ∧ r = ⟨i, j, (at' l i).obj, rkind (at' l i) (at' l j)⟩ := fun r => by
    rw [racesF, allC_mem]
    exact exists_congr fun i => and_congr_right fun _ => rowC_mem
  have hp : ∀ r, r ∈ racesF l → 0 < r.kind := fun r hr => by
    obtain ⟨i, _, j', _, _, rfl⟩ := (hm r).1 hr
    exact rkind_pos _ _
  have ht : ∀ i, i < l.length → noRace l i j (at' l i) (at' l j) = false → (⟨i, j, (at' l i).obj, rkind (at' l i) (at' l j)⟩ : Rc) ∈ (racesF l).take (racesF l).length := fun i hi hn => by
    rw [List.take_length]
    exact (hm _).2 ⟨i, hi, j, hj, hn, rfl⟩
  rcases kR_spec hp (j : Int) (Nat.le_refl _) with ⟨h1, h2⟩ | ⟨⟨r, hr, hb, hk⟩, h2⟩
  · refine .inl ⟨h1, fun i hi => ?_⟩
    cases hn : noRace l i j (at' l i) (at' l j) with
    | true => rfl
    | false => exact absurd rfl (h2 _ (ht i hi hn))
  · refine .inr ⟨?_, fun i hi hn => h2 _ (ht i hi hn) rfl⟩
    obtain ⟨i, hi, j', hj', hn, rfl⟩ := (hm r).1 hr
    have e : j' = j := by simp only at hb; omega
    subst e
    exact ⟨i, hi, hn, hk⟩
theorem runV_eq : ∀ {j : Nat}, j ≤ l.length → ∀ x u, (runV l j).rd x u = lastC l 1 x j u ∧ (runV l j).wr x u = lastC l 2 x j u
  | 0, _, x, u => ⟨rfl, rfl⟩
  | j + 1, hj, x, u => by
    have ih := runV_eq (j := j) (by omega) x
    have b := bnd hok (show j < l.length by omega)
    have ht : (at' l j).thr.toNat < 6 := by omega
    have hown : (runK l j).thr (at' l j).thr.toNat (at' l j).thr.toNat = IntKind.i64.wrap (ownC l j (at' l j).thr.toNat + 1) := by
      have hlen := ok_len hok
      have hb := cs_le (l := l) (at' l j).thr.toNat j
      rw [(FI_at hok (show j ≤ l.length by omega)).own _ ht, own_eq hok (by omega), IntWalk.i64_in _ (by omega)]; omega
    have hs : ∀ k : Int, lastC l k x (j + 1) u = if (at' l j).kind = k ∧ (at' l j).obj = x then bumpC (lastC l k x j) (at' l j).thr.toNat (IntKind.i64.wrap (ownC l j (at' l j).thr.toNat + 1)) u else lastC l k x j u := fun k => by
      show (if (at' l j).kind = k ∧ (at' l j).obj = x then bumpC (lastC l k x j) (at' l j).thr.toNat (IntKind.i64.wrap (ownC l j (at' l j).thr.toNat + 1)) else lastC l k x j) u = _
      split <;> rfl
    have hv : runV l (j + 1) = if isAcc (at' l j) = true then accV (runV l j) (at' l j).obj.toNat (at' l j) ((runK l j).thr (at' l j).thr.toNat) else runV l j := rfl
    rw [hv, hs, hs]
    by_cases ha : isAcc (at' l j) = true
    · rw [if_pos ha]
      simp only [isAcc, Bool.or_eq_true, decide_eq_true_eq] at ha
      unfold accV
      have hx : (x = (at' l j).obj.toNat) ↔ (at' l j).obj = x := by omega
      by_cases k1 : (at' l j).kind = 1
      · rw [if_pos k1, if_neg (show ¬ ((at' l j).kind = 2 ∧ (at' l j).obj = x) by omega)]
        refine ⟨?_, (ih u).2⟩
        simp only [seC, hown]
        by_cases e : (at' l j).obj = (x : Int)
        · have e1 : (at' l j).kind = 1 ∧ (at' l j).obj = (x : Int) := ⟨k1, e⟩
          rw [if_pos (hx.2 e), if_pos e1, bumpC, ← hx.2 e, (ih u).1]
        · rw [if_neg (fun hh => e (hx.1 hh)), if_neg (fun hh => e hh.2), (ih u).1]
      · have k2 : (at' l j).kind = 2 := by omega
        rw [if_neg k1, if_neg (fun hh : (at' l j).kind = 1 ∧ (at' l j).obj = x => k1 hh.1)]
        refine ⟨(ih u).1, ?_⟩
        simp only [seC, hown]
        by_cases e : (at' l j).obj = (x : Int)
        · have e1 : (at' l j).kind = 2 ∧ (at' l j).obj = (x : Int) := ⟨k2, e⟩
          rw [if_pos (hx.2 e), if_pos e1, bumpC, ← hx.2 e, (ih u).2]
        · rw [if_neg (fun hh => e (hx.1 hh)), if_neg (fun hh => e hh.2), (ih u).2]
    · rw [if_neg ha]
      simp only [isAcc, Bool.or_eq_true, decide_eq_true_eq] at ha
      rw [if_neg (by omega), if_neg (by omega)]
      exact ih u
/-- **The flags are those of the races.** -/
theorem flag_kind {j : Nat} (hj : j < l.length) : flagOf l j = kindR l j := by
  have kj := kind_ok hok hj
  have b := bnd hok hj
  show (if isAcc (at' l j) = true then accF (runV l j) (at' l j).obj.toNat (at' l j) ((runK l j).thr (at' l j).thr.toNat) else 0) = _
  have hsp := kindR_spec hj
  have hri : ∀ {i}, i < l.length → (noRace l i j (at' l i) (at' l j) = false ↔ _) := fun hi => race_iff hok hi hj
  by_cases ha : isAcc (at' l j) = true
  · rw [if_pos ha]
    have hxo : (((at' l j).obj.toNat : Nat) : Int) = (at' l j).obj := by omega
    have wW := within_iff hok hj ha 2 (at' l j).obj (w := (runV l j).wr (at' l j).obj.toNat) (fun u _ => by rw [(runV_eq hok (Nat.le_of_lt hj) _ u).2, hxo])
    have wR := within_iff hok hj ha 1 (at' l j).obj (w := (runV l j).rd (at' l j).obj.toNat) (fun u _ => by rw [(runV_eq hok (Nat.le_of_lt hj) _ u).1, hxo])
    have hacc : ∀ {i}, isAcc (at' l i) = true ↔ (at' l i).kind = 1 ∨ (at' l i).kind = 2 := by simp [isAcc]
    have two : ∀ {kk : Int}, ¬ (∀ i, i < j → (at' l i).kind = kk → (at' l i).obj = (at' l j).obj → Ahd l i j) → ∃ i, i < j ∧ (at' l i).kind = kk ∧ (at' l i).obj = (at' l j).obj ∧ ¬ Ahd l i j := by
      intro kk hh
      refine Classical.byContradiction fun hn => hh fun i hi hk hx => Classical.byContradiction fun hc => hn ⟨i, hi, hk, hx, hc⟩
    unfold accF
    by_cases k1 : (at' l j).kind = 1
    · rw [if_pos k1]
      by_cases hw : withB ((runV l j).wr (at' l j).obj.toNat) ((runK l j).thr (at' l j).thr.toNat) = true
      · rw [if_pos hw]
        rcases hsp with ⟨h1, _⟩ | ⟨⟨i, hi, hn, _⟩, _⟩
        · exact h1.symm
        · obtain ⟨r1, r2, r3, r4, r5, r6⟩ := (hri hi).1 hn
          have r2 := hacc.1 r2
          exact absurd (wW.1 hw i r1 (by omega) r4) r6
      · rw [if_neg hw]
        obtain ⟨i, hi, hk, hx, hc⟩ := two (fun hh => hw (wW.2 hh))
        have hn := (hri (show i < l.length by omega)).2 ⟨hi, hacc.2 (.inr hk), ha, hx, by omega, hc⟩
        rcases hsp with ⟨_, h2⟩ | ⟨⟨i0, hi0, hn0, hk0⟩, _⟩
        · rw [h2 i (by omega)] at hn; cases hn
        · obtain ⟨r1, r2, r3, r4, r5, r6⟩ := (hri hi0).1 hn0
          have r2 := hacc.1 r2
          rw [← hk0, rkind, if_neg (by omega), if_pos k1]
    · have k2 : (at' l j).kind = 2 := by have := hacc.1 ha; omega
      rw [if_neg k1]
      by_cases hw : withB ((runV l j).wr (at' l j).obj.toNat) ((runK l j).thr (at' l j).thr.toNat) = true
      · rw [if_pos hw]
        by_cases hr : withB ((runV l j).rd (at' l j).obj.toNat) ((runK l j).thr (at' l j).thr.toNat) = true
        · rw [if_pos hr]
          rcases hsp with ⟨h1, _⟩ | ⟨⟨i, hi, hn, _⟩, _⟩
          · exact h1.symm
          · obtain ⟨r1, r2, r3, r4, r5, r6⟩ := (hri hi).1 hn
            rcases hacc.1 r2 with r2 | r2
            · exact absurd (wR.1 hr i r1 r2 r4) r6
            · exact absurd (wW.1 hw i r1 r2 r4) r6
        · rw [if_neg hr]
          obtain ⟨i, hi, hk, hx, hc⟩ := two (fun hh => hr (wR.2 hh))
          have hn := (hri (show i < l.length by omega)).2 ⟨hi, hacc.2 (.inl hk), ha, hx, by omega, hc⟩
          rcases hsp with ⟨_, h2⟩ | ⟨⟨i0, hi0, hn0, hk0⟩, _⟩
          · rw [h2 i (by omega)] at hn; cases hn
          · obtain ⟨r1, r2, r3, r4, r5, r6⟩ := (hri hi0).1 hn0
            rcases hacc.1 r2 with r2 | r2
            · rw [← hk0, rkind, if_pos r2]
            · exact absurd (wW.1 hw i0 r1 r2 r4) r6
      · rw [if_neg hw]
        obtain ⟨i, hi, hk, hx, hc⟩ := two (fun hh => hw (wW.2 hh))
        have hn := (hri (show i < l.length by omega)).2 ⟨hi, hacc.2 (.inr hk), ha, hx, by omega, hc⟩
        rcases hsp with ⟨_, h2⟩ | ⟨⟨i0, hi0, hn0, hk0⟩, hle⟩
        · rw [h2 i (by omega)] at hn; cases hn
        · have := hle i (by omega) hn
          have hk1 : rkind (at' l i) (at' l j) = 1 := by rw [rkind, if_neg (by omega), if_neg k1]
          have := rkind_pos (at' l i0) (at' l j)
          omega
  · rw [if_neg ha]
    rcases hsp with ⟨h1, _⟩ | ⟨⟨i, hi, hn, _⟩, _⟩
    · exact h1.symm
    · exact absurd ((hri hi).1 hn).2.2.1 ha
omit hok in
theorem kindR_nonneg {j : Nat} (hj : j < l.length) : 0 ≤ kindR l j := by
  rcases kindR_spec hj with ⟨h1, _⟩ | ⟨⟨i, _, _, hk⟩, _⟩
  · omega
  · have := rkind_pos (at' l i) (at' l j); omega
theorem flags_eq : ∀ {j : Nat}, j ≤ l.length → runL l j = fullL l j
  | 0, _ => rfl
  | j + 1, hj => by
    have hn := kindR_nonneg (show j < l.length by omega)
    rw [runL, fullL, flags_eq (by omega), flag_kind hok (by omega)]
    by_cases h : kindR l j = 0
    · rw [if_pos h, if_neg (by omega)]
    · rw [if_neg h, if_pos (by omega)]
end
end Go.Proofs.Ytafcmgfmmlnngaa.Fu
