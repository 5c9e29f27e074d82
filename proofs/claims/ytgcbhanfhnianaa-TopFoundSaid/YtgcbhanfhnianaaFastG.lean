/- Epochs flag a trace just if it races. Plain. Conditions: none. -/
import Derived.Test.YtgcbhanfhnianaaFastT
import Derived.Test.YtgcbhanfhnianaaRacesR
import Derived.Test.YtgcbhanfhnianaaTopM
section
set_option linter.unusedSimpArgs false
set_option linter.unusedVariables false
open Go Go.Sx Go.Proofs
namespace Go.Proofs.Ytgcbhanfhnianaa.Fa
open Go.Proofs.Ytgcbhanfhnianaa.D Go.Proofs.Ytgcbhanfhnianaa.Tr Go.Proofs.Ytgcbhanfhnianaa.C Go.Proofs.Ytgcbhanfhnianaa.Fu Go.Proofs.Ytgcbhanfhnianaa.Ah Go.Proofs.Ytgcbhanfhnianaa.Ps Go.Proofs.Ytgcbhanfhnianaa.Od Go.Proofs.Ytgcbhanfhnianaa.St Go.Proofs.Ytgcbhanfhnianaa.Rc
theorem acc_iff {e : Ev} : isAcc e = true ↔ e.kind = 1 ∨ e.kind = 2 := by simp [isAcc]
section
variable {l : List Ev} (hok : (checkR l).2 = 0)
include hok
theorem own_lt {i j : Nat} (hij : i < j) (hj : j < l.length) (h : (at' l i).thr = (at' l j).thr) : Ahd l i j :=
  one_dir hok hij hj (.inl (.inl (by rw [h])))
theorem ep_alone {i w j : Nat} (hiw : i < w) (hwj : w < j) (hj : j < l.length) (he : epB l i j = true) (hw : isAcc (at' l w) = true) (hn : (at' l w).thr ≠ (at' l i).thr) : ¬ Ahd l i w := by
  intro ha
  have hw := acc_iff.1 hw
  have hwl : w < l.length := by omega
  have bi := bnd hok (show i < l.length by omega)
  have bw := bnd hok hwl
  obtain ⟨e1, e2⟩ := of_decide_eq_true he
  have hs := (seen_ahd hok hwl hw hiw).2 ha
  have hs : 1 + (cs l (at' l i).thr.toNat i : Int) ≤ (runK l w).thr (at' l w).thr.toNat (at' l i).thr.toNat := by
    simp only [seenB, Bool.and_eq_true, decide_eq_true_eq] at hs
    exact hs.2
  have hF := FI_at hok (Nat.le_of_lt hwl)
  have hd : didB (l.take w) 6 ((at' l i).thr.toNat : Nat) = false := by
    have := (ok_parts hok hj).2.2.1
    rw [← e1] at this
    have ht : (((at' l i).thr.toNat : Nat) : Int) = (at' l i).thr := by omega
    rw [ht]
    simp only [didB, List.any_eq_false] at this ⊢
    intro x hx
    refine this x ?_
    have : l.take w = (l.take j).take w := by rw [List.take_take, Nat.min_eq_left (by omega)]
    rw [this] at hx
    exact List.mem_of_mem_take hx
  have h1 := hF.s1 (at' l w).thr.toNat (at' l i).thr.toNat (by omega) (by omega) (by omega) hd
  have h2 := (cs_same (l := l) (t := (at' l i).thr.toNat) (Nat.le_of_lt hiw)).2 fun k k1 k2 k3 => e2 k (by omega) k2 ⟨by have := (bnd hok (show k < l.length by omega)).1; omega, k3.1⟩
  omega
theorem ep_know {i j k : Nat} (hij : i < j) (hjk : j < k) (hk : k < l.length) (ha : isAcc (at' l k) = true) (he : epB l i j = true) : Ahd l i k ↔ Ahd l j k := by
  have hs := (same_iff hok hij (show j < l.length by omega)).2 he
  have e : ep l i = ep l j := by
    generalize ep l i = a at hs
    generalize ep l j = b at hs
    obtain ⟨a1, a2⟩ := a
    obtain ⟨b1, b2⟩ := b
    simp only at hs
    rw [hs.1, hs.2]
  rw [← seen_ahd hok hk (acc_iff.1 ha) (show i < k by omega), ← seen_ahd hok hk (acc_iff.1 ha) hjk, e]
omit hok in
theorem on_iff {x j : Nat} : ¬ skipB l x j ↔ (at' l j).kind ≤ 2 ∧ (at' l j).obj = x := by
  simp only [skipB]; omega
theorem on_acc {x j : Nat} (hj : j < l.length) (h : ¬ skipB l x j) : isAcc (at' l j) = true := ((skip_iff hok hj).1 h).1
theorem held {x : Nat} : ∀ {j : Nat}, j ≤ l.length → (∀ i : Nat, (FSr l x j).wr = i → i < j ∧ ¬ skipB l x i ∧ (at' l i).kind = 2) ∧ ∀ i ∈ (FSr l x j).rds, i < j ∧ ¬ skipB l x i ∧ (at' l i).kind = 1
  | 0, _ => ⟨fun i h => by have h : (-1 : Int) = i := h; omega, fun i h => by cases h⟩
  | j + 1, hj => by
    obtain ⟨h1, h2⟩ := held (x := x) (show j ≤ l.length by omega)
    have h1' : ∀ i : Nat, (FSr l x j).wr = i → i < j + 1 ∧ ¬ skipB l x i ∧ (at' l i).kind = 2 := fun i hi => ⟨by have := (h1 i hi).1; omega, (h1 i hi).2⟩
    have h2' : ∀ i ∈ (FSr l x j).rds, i < j + 1 ∧ ¬ skipB l x i ∧ (at' l i).kind = 1 := fun i hi => ⟨by have := (h2 i hi).1; omega, (h2 i hi).2⟩
    have hk := kind_ok hok (show j < l.length by omega)
    rw [FSr, stF]
    split
    · exact ⟨h1', h2'⟩
    · rename_i hsk
      split
      · rename_i k1
        split
        · exact ⟨h1', h2'⟩
        · split
          · refine ⟨h1', fun i hi => ?_⟩
            have hi : i ∈ [j] := hi
            simp only [List.mem_cons, List.not_mem_nil, or_false] at hi
            subst hi
            exact ⟨by omega, hsk, k1⟩
          · refine ⟨h1', fun i hi => ?_⟩
            have hi : i ∈ (FSr l x j).rds.filter (fun i => !decide ((at' l i).thr = (at' l j).thr)) ++ [j] := hi
            simp only [List.mem_append, List.mem_filter, List.mem_cons, List.not_mem_nil, or_false] at hi
            rcases hi with hi | hi
            · exact h2' i hi.1
            · subst hi; exact ⟨by omega, hsk, k1⟩
      · rename_i k1
        split
        · exact ⟨h1', h2'⟩
        · refine ⟨fun i hi => ?_, fun i hi => ?_⟩
          · have hi : (j : Int) = i := hi
            have hi : j = i := by omega
            subst hi
            exact ⟨by omega, hsk, by have := (on_iff (x := x)).1 hsk; have := hk.1; omega⟩
          · have hi : i ∈ (if (FSr l x j).mn = true then [] else (FSr l x j).rds) := hi
            split at hi
            · cases hi
            · exact h2' i hi
omit hok in
theorem late_iff {rds : List Nat} {k : Nat} (hk : k < l.length) : lateB l rds k = false ↔ ∀ r ∈ rds, Ahd l r k := by
  simp only [lateB, List.any_eq_false, Bool.not_eq_true', Bool.not_eq_false]
  exact forall_congr' fun r => imp_congr_right fun _ => aheadR_iff (Nat.le_of_lt hk)
omit hok in
theorem kn_iff {w : Int} {k : Nat} (hk : k < l.length) : knW l w k = true ↔ ∀ i : Nat, w = i → Ahd l i k := by
  rw [knW, Bool.or_eq_true, decide_eq_true_eq, aheadR_iff (Nat.le_of_lt hk)]
  constructor
  · rintro (h | h) i rfl
    · omega
    · exact h
  · intro h
    by_cases hw : w < 0
    · exact .inl hw
    · exact .inr (h w.toNat (by omega))
def Rx (l : List Ev) (x i j : Nat) : Prop := i < j ∧ ¬ skipB l x i ∧ ¬ skipB l x j ∧ ¬ ((at' l i).kind = 1 ∧ (at' l j).kind = 1) ∧ ¬ Ahd l i j
theorem flag_race {x j : Nat} (hj : j < l.length) (h : fkF l x (FSr l x j) j ≠ 0) : ∃ i, Rx l x i j := by
  obtain ⟨h1, h2⟩ := held hok (x := x) (Nat.le_of_lt hj)
  have wr : knW l (FSr l x j).wr j = false → ¬ skipB l x j → ∃ i, Rx l x i j := fun hk hs => by
    have : ¬ ∀ i : Nat, (FSr l x j).wr = i → Ahd l i j := fun hh => by rw [(kn_iff hj).2 hh] at hk; cases hk
    simp only [Classical.not_forall] at this
    obtain ⟨i, hi, hn⟩ := this
    obtain ⟨g1, g2, g3⟩ := h1 i hi
    exact ⟨i, g1, g2, hs, fun hh => by omega, hn⟩
  rw [fkF] at h
  split at h
  · exact absurd rfl h
  · rename_i hs
    split at h
    · split at h
      · exact absurd rfl h
      · split at h
        · exact absurd rfl h
        · rename_i hk; exact wr (by simpa using hk) hs
    · rename_i k1
      split at h
      · exact absurd rfl h
      · split at h
        · rename_i hk; exact wr hk hs
        · split at h
          · rename_i hl
            have : ¬ ∀ r ∈ (FSr l x j).rds, Ahd l r j := fun hh => by rw [(late_iff hj).2 hh] at hl; cases hl
            simp only [Classical.not_forall] at this
            obtain ⟨i, hi, hn⟩ := this
            obtain ⟨g1, g2, g3⟩ := h2 i hi
            exact ⟨i, g1, g2, hs, fun hh => k1 hh.2, hn⟩
          · exact absurd rfl h
structure Kn (l : List Ev) (x j : Nat) : Prop where
  w : ∀ i, i < j → ¬ skipB l x i → (at' l i).kind = 2 → ∀ k, j ≤ k → k < l.length → isAcc (at' l k) = true → knW l (FSr l x j).wr k = true → Ahd l i k
  r : ∀ i, i < j → ¬ skipB l x i → (at' l i).kind = 1 → ∀ k, j ≤ k → k < l.length → isAcc (at' l k) = true → knW l (FSr l x j).wr k = true → lateB l (FSr l x j).rds k = false → Ahd l i k
theorem Kn.next {x j : Nat} (hj : j < l.length) (h : Kn l x j) (hf : fkF l x (FSr l x j) j = 0) : Kn l x (j + 1) := by
  obtain ⟨h1, h2⟩ := held hok (x := x) (Nat.le_of_lt hj)
  by_cases hs : skipB l x j
  · have e : FSr l x (j + 1) = FSr l x j := by rw [FSr, stF, if_pos hs]
    refine ⟨fun i hi hi1 hi2 k hk hkl ha hn => ?_, fun i hi hi1 hi2 k hk hkl ha hn hl => ?_⟩
    · rw [e] at hn
      have : i ≠ j := fun ee => by subst ee; exact hi1 hs
      exact h.w i (by omega) hi1 hi2 k (by omega) hkl ha hn
    · rw [e] at hn hl
      have : i ≠ j := fun ee => by subst ee; exact hi1 hs
      exact h.r i (by omega) hi1 hi2 k (by omega) hkl ha hn hl
  have haj := on_acc hok hj hs
  have hst : FSr l x (j + 1) = stF l x (FSr l x j) j := rfl
  rw [stF, if_neg hs] at hst
  rw [fkF, if_neg hs] at hf
  by_cases k1 : (at' l j).kind = 1
  · rw [if_pos k1] at hst hf
    by_cases hsm : sameB l (FSr l x j) j
    · rw [if_pos hsm] at hst
      obtain ⟨m1, m2, m3⟩ := hsm
      generalize hR : (FSr l x j).rds = R at *
      match R, m2 with
      | [r], _ =>
      have m3 : epB l r j = true := m3
      refine ⟨fun i hi hi1 hi2 k hk hkl ha hn => ?_, fun i hi hi1 hi2 k hk hkl ha hn hl => ?_⟩
      · rw [hst] at hn
        have : i ≠ j := fun ee => by subst ee; omega
        exact h.w i (by omega) hi1 hi2 k (by omega) hkl ha hn
      · rw [hst] at hn hl
        by_cases e : i = j
        · subst e
          rw [hR] at hl
          exact (ep_know hok (h2 r (by simp)).1 (by omega) hkl ha m3).1 ((late_iff hkl).1 hl r (by simp))
        · exact h.r i (by omega) hi1 hi2 k (by omega) hkl ha hn hl
    · rw [if_neg hsm] at hst hf
      have hkj : knW l (FSr l x j).wr j = true := by
        by_cases hh : knW l (FSr l x j).wr j = true
        · exact hh
        · rw [if_neg hh] at hf; cases hf
      by_cases hm : (FSr l x j).mn = false ∧ lateB l (FSr l x j).rds j = false
      · rw [if_pos hm] at hst
        refine ⟨fun i hi hi1 hi2 k hk hkl ha hn => ?_, fun i hi hi1 hi2 k hk hkl ha hn hl => ?_⟩
        · rw [hst] at hn
          have : i ≠ j := fun ee => by subst ee; omega
          exact h.w i (by omega) hi1 hi2 k (by omega) hkl ha hn
        · rw [hst] at hl
          have hjk : Ahd l j k := (late_iff hkl).1 hl j (by simp)
          by_cases e : i = j
          · subst e; exact hjk
          · exact Pth.trans (h.r i (by omega) hi1 hi2 j (Nat.le_refl _) hj haj hkj hm.2) hjk
      · rw [if_neg hm] at hst
        refine ⟨fun i hi hi1 hi2 k hk hkl ha hn => ?_, fun i hi hi1 hi2 k hk hkl ha hn hl => ?_⟩
        · rw [hst] at hn
          have : i ≠ j := fun ee => by subst ee; omega
          exact h.w i (by omega) hi1 hi2 k (by omega) hkl ha hn
        · rw [hst] at hn hl
          have hl := (late_iff hkl).1 hl
          have hjk : Ahd l j k := hl j (by simp)
          by_cases e : i = j
          · subst e; exact hjk
          · refine h.r i (by omega) hi1 hi2 k (by omega) hkl ha hn ((late_iff hkl).2 fun r hr => ?_)
            by_cases ht : (at' l r).thr = (at' l j).thr
            · exact Pth.trans (own_lt hok (h2 r hr).1 hj ht) hjk
            · exact hl r (by simp [hr, ht])
  · rw [if_neg k1] at hst hf
    by_cases he : epW l (FSr l x j).wr j = true
    · rw [if_pos he] at hst
      have he' := he
      rw [epW, Bool.and_eq_true, decide_eq_true_eq] at he'
      obtain ⟨e1, e2⟩ := he'
      obtain ⟨w, hw⟩ : ∃ w : Nat, (FSr l x j).wr = w := ⟨(FSr l x j).wr.toNat, by omega⟩
      rw [hw, Int.toNat_natCast] at e2
      refine ⟨fun i hi hi1 hi2 k hk hkl ha hn => ?_, fun i hi hi1 hi2 k hk hkl ha hn hl => ?_⟩
      · rw [hst] at hn
        by_cases e : i = j
        · subst e
          exact (ep_know hok (h1 w hw).1 (by omega) hkl ha e2).1 ((kn_iff hkl).1 hn w hw)
        · exact h.w i (by omega) hi1 hi2 k (by omega) hkl ha hn
      · rw [hst] at hn hl
        have : i ≠ j := fun ee => by subst ee; omega
        exact h.r i (by omega) hi1 hi2 k (by omega) hkl ha hn hl
    · rw [if_neg he] at hst hf
      have hkj : knW l (FSr l x j).wr j = true := by
        cases hh : knW l (FSr l x j).wr j with
        | true => rfl
        | false => rw [if_pos hh] at hf; cases hf
      rw [if_neg (by rw [hkj]; decide)] at hf
      have hlj : lateB l (FSr l x j).rds j = false := by
        cases hh : lateB l (FSr l x j).rds j with
        | false => rfl
        | true => rw [if_pos hh] at hf; cases hf
      refine ⟨fun i hi hi1 hi2 k hk hkl ha hn => ?_, fun i hi hi1 hi2 k hk hkl ha hn hl => ?_⟩
      · rw [hst] at hn
        have hjk : Ahd l j k := (kn_iff hkl).1 hn j rfl
        by_cases e : i = j
        · subst e; exact hjk
        · exact Pth.trans (h.w i (by omega) hi1 hi2 j (Nat.le_refl _) hj haj hkj) hjk
      · rw [hst] at hn
        have hjk : Ahd l j k := (kn_iff hkl).1 hn j rfl
        have : i ≠ j := fun ee => by subst ee; exact k1 hi2
        exact Pth.trans (h.r i (by omega) hi1 hi2 j (Nat.le_refl _) hj haj hkj hlj) hjk
theorem flag_step {x j' : Nat} (hj : j' < l.length) (hK : Kn l x j') (hN : ∀ j, j < j' → ∀ i, ¬ Rx l x i j) (hfj : fkF l x (FSr l x j') j' = 0) (i : Nat) : ¬ Rx l x i j' := by
  intro hr
  obtain ⟨r1, r2, r3, r4, r5⟩ := hr
  apply r5
  obtain ⟨h1, h2⟩ := held hok (x := x) (Nat.le_of_lt hj)
  have haj := on_acc hok hj r3
  have kj := kind_ok hok hj
  have ki := kind_ok hok (show i < l.length by omega)
  have oj := (on_iff).1 r3
  have oi := (on_iff).1 r2
  -- what lies before in the same epoch tells
  have alone : ∀ r, r < j' → ¬ skipB l x r → ¬ ((at' l i).kind = 1 ∧ (at' l r).kind = 1) → epB l r j' = true → Ahd l i j' := fun r hr hs hk he => by
    have ht := (of_decide_eq_true he).1
    rcases Nat.lt_trichotomy i r with h | h | h
    · refine Pth.trans ?_ (own_lt hok hr hj ht)
      apply Classical.byContradiction
      exact fun hn => hN r hr i ⟨h, r2, hs, hk, hn⟩
    · subst h; exact own_lt hok hr hj ht
    · by_cases et : (at' l i).thr = (at' l j').thr
      · exact own_lt hok r1 hj et
      · exfalso
        refine ep_alone hok h r1 hj he (on_acc hok (by omega) r2) (fun hh => et (by rw [hh, ht])) ?_
        apply Classical.byContradiction
        exact fun hn => hN i r1 r ⟨h, hs, r2, fun hh => hk ⟨hh.2, hh.1⟩, hn⟩
  rw [fkF, if_neg r3] at hfj
  by_cases k1 : (at' l j').kind = 1
  · rw [if_pos k1] at hfj
    by_cases hsm : sameB l (FSr l x j') j'
    · obtain ⟨m1, m2, m3⟩ := hsm
      generalize hR : (FSr l x j').rds = R at *
      match R, m2 with
      | [r], _ =>
      have := h2 r (by simp)
      exact alone r this.1 this.2.1 (fun hh => r4 ⟨hh.1, k1⟩) m3
    · rw [if_neg hsm] at hfj
      have hkj : knW l (FSr l x j').wr j' = true := by
        by_cases hh : knW l (FSr l x j').wr j' = true
        · exact hh
        · rw [if_neg hh] at hfj; cases hfj
      exact hK.w i r1 r2 (by omega) j' (Nat.le_refl _) hj haj hkj
  · rw [if_neg k1] at hfj
    by_cases he : epW l (FSr l x j').wr j' = true
    · rw [epW, Bool.and_eq_true, decide_eq_true_eq] at he
      obtain ⟨e1, e2⟩ := he
      obtain ⟨w, hw⟩ : ∃ w : Nat, (FSr l x j').wr = w := ⟨(FSr l x j').wr.toNat, by omega⟩
      rw [hw, Int.toNat_natCast] at e2
      have := h1 w hw
      exact alone w this.1 this.2.1 (fun hh => by omega) e2
    · rw [if_neg he] at hfj
      have hkj : knW l (FSr l x j').wr j' = true := by
        cases hh : knW l (FSr l x j').wr j' with
        | true => rfl
        | false => rw [if_pos hh] at hfj; cases hfj
      rw [if_neg (by rw [hkj]; decide)] at hfj
      have hlj : lateB l (FSr l x j').rds j' = false := by
        cases hh : lateB l (FSr l x j').rds j' with
        | false => rfl
        | true => rw [if_pos hh] at hfj; cases hfj
      by_cases ki1 : (at' l i).kind = 1
      · exact hK.r i r1 r2 ki1 j' (Nat.le_refl _) hj haj hkj hlj
      · exact hK.w i r1 r2 (by omega) j' (Nat.le_refl _) hj haj hkj
theorem flag_none {x : Nat} : ∀ {n : Nat}, n ≤ l.length → (∀ j, j < n → fkF l x (FSr l x j) j = 0) → Kn l x n ∧ ∀ j, j < n → ∀ i, ¬ Rx l x i j
  | 0, _, _ => ⟨⟨fun i h => absurd h (Nat.not_lt_zero _), fun i h => absurd h (Nat.not_lt_zero _)⟩, fun j h => absurd h (Nat.not_lt_zero _)⟩
  | j + 1, hj, hf => by
    have hj : j < l.length := hj
    obtain ⟨hK, hN⟩ := flag_none (Nat.le_of_lt hj) fun j' h' => hf j' (by omega)
    have hfj := hf j (Nat.lt_succ_self _)
    refine ⟨hK.next hok hj hfj, fun j' hj' i hr => ?_⟩
    rcases (show j' = j ∨ j' < j by omega) with e | e
    · subst e
      exact flag_step hok hj hK hN hfj i hr
    · exact hN j' e i hr
end
end Go.Proofs.Ytgcbhanfhnianaa.Fa
end
section
set_option linter.unusedSimpArgs false
set_option linter.unusedVariables false
open Go Go.Sx Go.Proofs
namespace Go.Proofs.Ytgcbhanfhnianaa.Fa
open Go.Proofs.Ytgcbhanfhnianaa.D Go.Proofs.Ytgcbhanfhnianaa.Tr Go.Proofs.Ytgcbhanfhnianaa.C Go.Proofs.Ytgcbhanfhnianaa.Fu Go.Proofs.Ytgcbhanfhnianaa.Ah Go.Proofs.Ytgcbhanfhnianaa.Ps Go.Proofs.Ytgcbhanfhnianaa.Od Go.Proofs.Ytgcbhanfhnianaa.St Go.Proofs.Ytgcbhanfhnianaa.Rc
theorem runXL_mem {l : List Ev} {f : Fl} : ∀ {n : Nat}, f ∈ runXL l n ↔ ∃ j, j < n ∧ flagX l j ≠ 0 ∧ f = ⟨j, (at' l j).obj, flagX l j⟩
  | 0 => ⟨fun h => (by cases h), fun ⟨j, h, _⟩ => absurd h (Nat.not_lt_zero _)⟩
  | n + 1 => by
    rw [runXL, List.mem_append, runXL_mem (n := n)]
    constructor
    · rintro (⟨j, h1, h2, h3⟩ | h)
      · exact ⟨j, by omega, h2, h3⟩
      · split at h
        · cases h
        · rename_i hn
          rw [List.mem_singleton] at h
          exact ⟨n, by omega, hn, h⟩
    · rintro ⟨j, h1, h2, h3⟩
      by_cases e : j = n
      · subst e
        right
        rw [if_neg h2, h3]
        exact List.mem_singleton.2 rfl
      · exact .inl ⟨j, by omega, h2, h3⟩
section
variable {l : List Ev} (hok : (checkR l).2 = 0)
include hok
theorem flagX_at {j : Nat} (hj : j < l.length) (h : flagX l j ≠ 0) : isAcc (at' l j) = true ∧ flagX l j = fkF l (at' l j).obj.toNat (FSr l (at' l j).obj.toNat j) j := by
  by_cases ha : isAcc (at' l j) = true
  · exact ⟨ha, flag_at hok hj ha⟩
  · exact absurd (show flagX l j = 0 by show (if isAcc (at' l j) = true then _ else 0) = _; rw [if_neg ha]) h
theorem flagX_race {j : Nat} (hj : j < l.length) (h : flagX l j ≠ 0) : ∃ i, Rx l (at' l j).obj.toNat i j := by
  obtain ⟨_, e⟩ := flagX_at hok hj h
  rw [e] at h
  exact flag_race hok hj h
theorem fk_flag {x j : Nat} (hj : j < l.length) (h : flagX l j = 0) : fkF l x (FSr l x j) j = 0 := by
  by_cases hs : skipB l x j
  · rw [fkF, if_pos hs]
  · obtain ⟨ha, hx⟩ := (skip_iff hok hj).1 hs
    rw [flag_at hok hj ha, ← hx] at h
    exact h
theorem Rx_race {x i j : Nat} (hj : j < l.length) (h : Rx l x i j) : noRace l i j (at' l i) (at' l j) = false := by
  obtain ⟨h1, h2, h3, h4, h5⟩ := h
  have hi : i < l.length := by omega
  refine (race_iff hok hi hj).2 ⟨h1, on_acc hok hi h2, on_acc hok hj h3, ?_, h4, h5⟩
  rw [(on_iff.1 h2).2, (on_iff.1 h3).2]
theorem race_Rx {i j : Nat} (hi : i < l.length) (hj : j < l.length) (h : noRace l i j (at' l i) (at' l j) = false) : Rx l (at' l j).obj.toNat i j := by
  obtain ⟨h1, h2, h3, h4, h5, h6⟩ := (race_iff hok hi hj).1 h
  exact ⟨h1, (skip_iff hok hi).2 ⟨h2, by rw [h4]⟩, (skip_iff hok hj).2 ⟨h3, rfl⟩, h5, h6⟩
theorem races_none : racesF l = [] ↔ ∀ x i j, j < l.length → ¬ Rx l x i j := by
  rw [List.eq_nil_iff_forall_not_mem]
  constructor
  · intro h x i j hj hr
    have hi : i < l.length := by have := hr.1; omega
    exact h _ (allC_mem.2 ⟨i, hi, rowC_mem.2 ⟨j, hj, Rx_race hok hj hr, rfl⟩⟩)
  · intro h r hr
    obtain ⟨i, hi, hr⟩ := allC_mem.1 hr
    obtain ⟨j, hj, hn, _⟩ := rowC_mem.1 hr
    exact h _ i j hj (race_Rx hok hi hj hn)
theorem flags_upto {x n : Nat} (hn : n ≤ l.length) (h : ∀ j, j < n → (at' l j).obj = x → flagX l j = 0) : ∀ j, j < n → ∀ i, ¬ Rx l x i j :=
  (flag_none hok hn fun j hj => by
    by_cases hx : (at' l j).obj = x
    · exact fk_flag hok (by omega) (h j hj hx)
    · rw [fkF, if_pos (show skipB l x j from Or.inr hx)]).2
theorem fast_nil : fastL l = [] ↔ racesF l = [] := by
  have hp : (playedF l).2.2 = 0 := by rw [err_same]; exact hok
  rw [fastL, if_pos hp, races_none hok]
  constructor
  · intro h x i j hj
    refine flags_upto hok (Nat.le_refl _) (fun j hj _ => ?_) j hj i
    apply Classical.byContradiction
    intro hn
    have : (⟨j, (at' l j).obj, flagX l j⟩ : Fl) ∈ runXL l l.length := runXL_mem.2 ⟨j, hj, hn, rfl⟩
    rw [h] at this; cases this
  · intro h
    rw [List.eq_nil_iff_forall_not_mem]
    intro f hf
    obtain ⟨j, hj, hn, _⟩ := runXL_mem.1 hf
    obtain ⟨i, hr⟩ := flagX_race hok hj hn
    exact h _ i j hj hr
end
/-! ### Beginnings -/
theorem at_take {l : List Ev} {n i : Nat} (h : i < n) : at' (l.take n) i = at' l i := by
  simp [at', List.getD, List.getElem?_take, h]
theorem ahd_take {l : List Ev} {n i j : Nat} (hj : j < n) (h : Ahd (l.take n) i j) : Ahd l i j := by
  have one : ∀ {a b : Nat}, b < n → upP (dirL (l.take n)) a b = true → upP (dirL l) a b = true := fun {a b} hb h => by
    have hlt := upP_lt _ _ h
    simp only [upP, Bool.and_eq_true, decide_eq_true_eq] at h ⊢
    refine ⟨hlt, ?_⟩
    have h2 : dirP (at' (l.take n) a) (at' (l.take n) b) = true := h.2
    rw [at_take hb, at_take (by omega)] at h2
    exact h2
  induction h with
  | one e => exact .one (one hj e)
  | snoc h1 e ih => exact .snoc (ih (by have := upP_lt _ _ e; omega)) (one hj e)
theorem Rx_take {l : List Ev} {n x i j : Nat} (hj : j < n) (h : Rx l x i j) : Rx (l.take n) x i j := by
  obtain ⟨h1, h2, h3, h4, h5⟩ := h
  have ei := at_take (l := l) (show i < n by omega)
  have ej := at_take (l := l) hj
  refine ⟨h1, ?_, ?_, ?_, fun hh => h5 (ahd_take hj hh)⟩
  · unfold skipB at h2 ⊢; rw [ei]; exact h2
  · unfold skipB at h3 ⊢; rw [ej]; exact h3
  · rw [ei, ej]; exact h4
theorem ok_take {l : List Ev} (hok : (checkR l).2 = 0) (n : Nat) : (checkR (l.take n)).2 = 0 := by
  obtain ⟨h1, h2⟩ := Tp.check_iff.1 hok
  rw [Tp.Vd.at] at h2
  refine Tp.check_iff.2 ⟨by rw [List.length_take]; omega, Tp.Vd.at.2 fun j hj => ?_⟩
  rw [List.length_take] at hj
  have := h2 j (by omega)
  rw [List.take_take, Nat.min_eq_left (by omega)]
  rwa [show (l.take n).getD j dEv.dft = l.getD j dEv.dft from at_take (by omega)]
end Go.Proofs.Ytgcbhanfhnianaa.Fa
end
