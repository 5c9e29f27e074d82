/- What all runs of a program tell, and what is left of a trace. Plain. Conditions: none. -/
import Derived.Test.YtgcbhanfhnianaaFastG
import Derived.Test.YtgcbhanfhnianaaEvP
import Derived.Test.YtgcbhanfhnianaaShrinkM
set_option linter.unusedSimpArgs false
set_option linter.unusedVariables false
open Go Go.Sx Go.Proofs
namespace Go.Proofs.Ytgcbhanfhnianaa.Ev
open Go.Proofs.Ytgcbhanfhnianaa.D Go.Proofs.Ytgcbhanfhnianaa.Pg Go.Proofs.Ytgcbhanfhnianaa.Tr Go.Proofs.Ytgcbhanfhnianaa.Rn Go.Proofs.Ytgcbhanfhnianaa.Cp Go.Proofs.Ytgcbhanfhnianaa.Rc Go.Proofs.Ytgcbhanfhnianaa.Fu
theorem lev_len {p : List (List PO)} : ∀ {k : Nat} {x y : Ks}, y ∈ levK p k x → y.length = x.length + k
  | 0, x, y, h => by rw [levK, List.mem_singleton] at h; subst h; rfl
  | k + 1, x, y, h => by
    rw [levK] at h
    obtain ⟨z, hz, h⟩ := List.mem_flatMap.1 h
    have := lev_len hz
    have := kid_len h
    omega
theorem pick_not {p : List (List PO)} {s : Sta} {t : Int} (h : ¬ canF s p t = true) : pickS p s t = s ∧ pickE p s t = [] := by
  unfold pickS pickE
  cases nextF s p t with
  | none => exact ⟨rfl, rfl⟩
  | some x => exact ⟨if_neg h, if_neg fun hh => h hh.1⟩
theorem eff {p : List (List PO)} (hp : progC badP p = 0) (picks : List Int) : ∀ n : Nat, ∃ ks : Ks, ks ∈ levK p ks.length [] ∧ runS p ks ks.length = runS p picks n ∧ runE p ks ks.length = runE p picks n
  | 0 => ⟨[], by simp [levK], rfl, rfl⟩
  | n + 1 => by
    obtain ⟨ks, h1, h2, h3⟩ := eff hp picks n
    rw [runS, runE]
    generalize picks.getD n 0 = t
    by_cases hc : canF (runS p picks n) p t = true
    · obtain ⟨l, i, hx⟩ := can_some hc
      obtain ⟨t', e, ht, _⟩ := next_some (fit_run hp n) hx
      subst e
      have hs := run_snoc p ks (t' : Int)
      refine ⟨ks ++ [(t' : Int)], ?_, by rw [hs.1, h2], by rw [hs.2, h2, h3]⟩
      rw [List.length_append, List.length_singleton, levK]
      refine List.mem_flatMap.2 ⟨ks, h1, ?_⟩
      refine List.mem_flatMap.2 ⟨t', List.mem_range.2 ht, ?_⟩
      rw [if_pos (show canK p ks t' = true by unfold canK; rw [h2]; exact hc)]
      exact List.mem_singleton.2 rfl
    · obtain ⟨e1, e2⟩ := pick_not hc
      exact ⟨ks, h1, by rw [e1]; exact h2, by rw [e2, List.append_nil]; exact h3⟩
theorem lev_nd {p : List (List PO)} (hp : progC badP p = 0) : ∀ {k : Nat} {y : Ks}, y ∈ levK p k [] → NdOK p k (nodeK p y)
  | 0, y, h => by rw [levK, List.mem_singleton] at h; subst h; exact root_ok hp
  | k + 1, y, h => by
    rw [levK] at h
    obtain ⟨z, hz, h⟩ := List.mem_flatMap.1 h
    have ih := lev_nd hp hz
    obtain ⟨t, _, h⟩ := List.mem_flatMap.1 h
    by_cases hc : canK p z t = true
    · rw [if_pos hc, List.mem_singleton] at h
      subst h
      rw [← (kid_node hc).1]
      exact kid_ok hp ih hc
    · rw [if_neg hc] at h; cases h
theorem lev_short {p : List (List PO)} (hp : progC badP p = 0) {k : Nat} {y : Ks} (h : y ∈ levK p k []) : k ≤ manyL p := by
  have hok := lev_nd hp h
  have h1 := sum_le hok.fit p.length (Nat.le_refl _)
  rw [List.take_length] at h1
  have h2 := hok.sum
  rw [sumAt] at h2
  omega
theorem found {p : List (List PO)} (hc : echF p = 0) : (∀ picks : List Int, ∀ n : Nat, racesB p = none → raceB (runE p picks n) = false) ∧ ∀ ks, racesB p = some ks → ks.length ≤ 11 ∧ raceB (runE p ks ks.length) = true := by
  obtain ⟨hp, h10⟩ := ech_ok hc
  have e1 : racesB p = bfs p 11 ((levK p 0 []).map (nodeK p)) := if_pos hc
  have h0 : ∀ x ∈ levK p 0 [], RK p x = false := by
    intro x hx
    simp only [levK, List.mem_singleton] at hx
    subst hx
    exact race_nil
  rcases bfs_is hp 11 0 h0 with ⟨k, ks, r, g1, g2, g3, g4, g5⟩ | ⟨g1, g2⟩
  · rw [e1, g5]
    refine ⟨fun _ _ h => (by cases h), fun ks' h => ?_⟩
    cases h
    have hm : ks ∈ (levK p k []).filter (RK p) := by rw [g3]; exact List.mem_cons_self ..
    obtain ⟨m1, m2⟩ := List.mem_filter.1 hm
    have := lev_len m1
    exact ⟨by simp at this; omega, m2⟩
  · rw [e1, g2]
    refine ⟨fun picks n _ => ?_, fun _ h => (by cases h)⟩
    obtain ⟨ks, h1, _, h3⟩ := eff hp picks n
    rw [← h3]
    exact g1 ks.length (Nat.zero_le _) (by have := lev_short hp h1; omega) ks h1
theorem race_iff' {l : List Ev} : raceB l = true ↔ racesF l ≠ [] := by
  rw [raceB, decide_eq_true_eq, List.length_pos_iff]
theorem pass_true : ∀ (n i : Nat) (L : List Ev), (Sk.passF n i L true).2 = true
  | 0, _, _ => rfl
  | n + 1, i, L => by
    rw [Sk.passF]
    split
    · exact pass_true n i _
    · exact pass_true n (i + 1) L
theorem pass_none : ∀ (n i : Nat) (L : List Ev), ¬ (Sk.passF n i L false).2 = true → (Sk.passF n i L false).1 = L ∧ ∀ k, i ≤ k → k < i + n → ¬ Sk.good (Sk.cut L k) = true
  | 0, i, L, _ => ⟨rfl, fun k h1 h2 => by omega⟩
  | n + 1, i, L, h => by
    rw [Sk.passF] at h ⊢
    by_cases hg : Sk.good (Sk.cut L i) = true
    · rw [if_pos hg] at h
      exact absurd (pass_true n i _) h
    · rw [if_neg hg] at h ⊢
      obtain ⟨h1, h2⟩ := pass_none n (i + 1) L h
      refine ⟨h1, fun k k1 k2 => ?_⟩
      by_cases e : k = i
      · subst e; exact hg
      · exact h2 k (by omega) (by omega)
theorem pass_good : ∀ (n i : Nat) (L : List Ev) (b : Bool), Sk.good L = true → Sk.good (Sk.passF n i L b).1 = true
  | 0, _, L, _, h => h
  | n + 1, i, L, b, h => by
    rw [Sk.passF]
    split
    · exact pass_good n i _ true (by assumption)
    · exact pass_good n (i + 1) L b h
theorem min_is : ∀ (n : Nat) (L : List Ev), L.length ≤ n → Sk.good L = true → Sk.good (Sk.minF L) = true ∧ ∀ k, k < (Sk.minF L).length → ¬ Sk.good (Sk.cut (Sk.minF L) k) = true
  | n, L, hn, hg => by
    by_cases h : (Sk.passF L.length 0 L false).2 = true
    · rw [Sk.minF_yes h]
      have hs := (Sk.passF_spec L.length 0 L false (by omega)).2 h
      simp only [Bool.false_eq_true, false_or] at hs
      match n, hn with
      | 0, hn => exact absurd hs (by omega)
      | n + 1, hn => exact min_is n _ (by omega) (pass_good _ _ _ _ hg)
    · rw [Sk.minF_no h]
      obtain ⟨h1, h2⟩ := pass_none _ _ _ h
      rw [h1]
      exact ⟨hg, fun k hk => h2 k (Nat.zero_le _) (by omega)⟩
theorem cut_last {l : List Ev} (h : 0 < l.length) : Sk.cut l (l.length - 1) = l.take (l.length - 1) := by
  rw [Sk.cut, delL, List.drop_eq_nil_of_le (by omega), List.append_nil]
theorem last_flag {l : List Ev} (hok : (checkR l).2 = 0) (hr : racesF l ≠ []) (hm : ∀ k, k < l.length → ¬ Sk.good (Sk.cut l k) = true) : ∃ f : Fl, Fa.fastL l = [f] ∧ 0 < l.length ∧ f.at' = (l.length - 1 : Nat) := by
  have hp : (playedF l).2.2 = 0 := by rw [err_same]; exact hok
  have h0 : 0 < l.length := by
    refine List.length_pos_iff.2 fun e => hr ?_
    subst e; rfl
  have hpre : ∀ x i j, j < l.length - 1 → ¬ Fa.Rx l x i j := fun x i j hj h => by
    refine hm (l.length - 1) (by omega) ?_
    rw [cut_last h0]
    have hv := Fa.ok_take hok (l.length - 1)
    unfold Sk.good Sk.racy
    rw [Bool.and_eq_true, decide_eq_true_eq, decide_eq_true_eq]
    refine ⟨hv, List.length_pos_iff.2 fun e => ?_⟩
    exact (Fa.races_none hv).1 e x i j (by rw [List.length_take]; omega) (Fa.Rx_take hj h)
  have hno : ∀ j, j < l.length - 1 → Fa.flagX l j = 0 := fun j hj => by
    apply Classical.byContradiction
    intro hn
    obtain ⟨i, h⟩ := Fa.flagX_race hok (by omega) hn
    exact hpre _ i j hj h
  have hnil : Fa.runXL l (l.length - 1) = [] := by
    rw [List.eq_nil_iff_forall_not_mem]
    intro f hf
    obtain ⟨j, hj, hn, _⟩ := Fa.runXL_mem.1 hf
    exact hn (hno j hj)
  have hl : Fa.fastL l = Fa.runXL l (l.length - 1 + 1) := by
    rw [Fa.fastL, if_pos hp, show l.length - 1 + 1 = l.length by omega]
  rw [Fa.runXL, hnil, List.nil_append] at hl
  by_cases hz : Fa.flagX l (l.length - 1) = 0
  · rw [if_pos hz] at hl
    exact absurd ((Fa.fast_nil hok).1 hl) hr
  · rw [if_neg hz] at hl
    exact ⟨_, hl, h0, rfl⟩
end Go.Proofs.Ytgcbhanfhnianaa.Ev
