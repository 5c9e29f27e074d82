/- Both tables of what is ahead say the same: the closing of what is directly ahead. Conditions: none. -/
import Derived.Test.YtgcbhanfhnianaaAheadP
import Derived.Test.YtgcbhanfhnianaaAheadQ
set_option linter.unusedSimpArgs false
set_option linter.unusedVariables false
open Go Go.Sx Go.Proofs
namespace Go.Proofs.Ytgcbhanfhnianaa.Ah
open Go.Proofs.Ytgcbhanfhnianaa.D Go.Proofs.Ytgcbhanfhnianaa.Tr Go.Proofs.Ytgcbhanfhnianaa.Ps Go.Proofs.Ytgcbhanfhnianaa.Od
theorem rowD_iff (l : List Ev) (R : Nat → Nat → Bool) (j : Nat) (hR : ∀ a b, a < j → (R a b = true ↔ Ahd l b a)) : ∀ s, s ≤ j → ∀ b, rowD l R j s b = true ↔ ∃ i, j - s ≤ i ∧ upP (dirL l) i j = true ∧ (b = i ∨ Ahd l b i)
  | 0, _, b => by
    simp only [rowD, Bool.false_eq_true, false_iff]
    rintro ⟨i, h1, h2, _⟩
    have := upP_lt _ _ h2
    omega
  | s + 1, hs, b => by
    have ih := rowD_iff l R j hR s (by omega)
    have hi : j - 1 - s < j := by omega
    have hu : upP (dirL l) (j - 1 - s) j = dirL l (j - 1 - s) j := by simp [upP, hi]
    have e1 : j - (s + 1) = j - 1 - s := by omega
    simp only [rowD, stepRow]
    split
    · rename_i h
      simp only [Bool.and_eq_true, Bool.not_eq_true'] at h
      simp only [Bool.or_eq_true, decide_eq_true_eq, ih b, hR _ b hi]
      constructor
      · rintro ((h1 | ⟨i, h1, h2, h3⟩) | h1)
        · exact ⟨j - 1 - s, by omega, by rw [hu]; exact h.2, .inl h1⟩
        · exact ⟨i, by omega, h2, h3⟩
        · exact ⟨j - 1 - s, by omega, by rw [hu]; exact h.2, .inr h1⟩
      · rintro ⟨i, h1, h2, h3⟩
        by_cases e : i = j - 1 - s
        · subst e
          rcases h3 with h3 | h3
          · exact .inl (.inl h3)
          · exact .inr h3
        · exact .inl (.inr ⟨i, by omega, h2, h3⟩)
    · rename_i h
      rw [ih b]
      constructor
      · rintro ⟨i, h1, h2, h3⟩
        exact ⟨i, by omega, h2, h3⟩
      · rintro ⟨i, h1, h2, h3⟩
        by_cases e : i = j - 1 - s
        · subst e
          rw [hu] at h2
          have hr : rowD l R j s (j - 1 - s) = true := by
            cases hc : rowD l R j s (j - 1 - s) with
            | true => rfl
            | false => exact absurd (show (!rowD l R j s (j - 1 - s) && dirL l (j - 1 - s) j) = true by rw [hc, h2]; rfl) h
          obtain ⟨i', k1, k2, k3⟩ := (ih _).1 hr
          refine ⟨i', k1, k2, .inr ?_⟩
          have hp : Ahd l (j - 1 - s) i' := by
            rcases k3 with k3 | k3
            · omega
            · exact k3
          rcases h3 with h3 | h3
          · subst h3; exact hp
          · exact Pth.trans h3 hp
        · exact ⟨i, by omega, h2, h3⟩
theorem tabP_iff (l : List Ev) : ∀ n a b, a < n → (tabP l n a b = true ↔ Ahd l b a)
  | 0, a, b, h => absurd h (Nat.not_lt_zero _)
  | j + 1, a, b, h => by
    simp only [tabP]
    by_cases e : a = j
    · subst e
      rw [if_pos rfl, rowD_iff l _ a (fun a' b' ha => tabP_iff l a a' b' ha) a (Nat.le_refl _) b]
      unfold Ahd
      rw [Pth.last]
      constructor
      · rintro ⟨i, _, h2, h3⟩; exact ⟨i, h2, h3⟩
      · rintro ⟨i, h2, h3⟩; exact ⟨i, by omega, h2, h3⟩
    · rw [if_neg e]; exact tabP_iff l j a b (by omega)
theorem tab_eq (l : List Ev) {a b : Nat} (ha : a < l.length) : tabP l l.length a b = aheadR l b a := by
  rw [Bool.eq_iff_iff, tabP_iff l l.length a b ha, aheadR_iff (Nat.le_of_lt ha)]
end Go.Proofs.Ytgcbhanfhnianaa.Ah
