/- Both tables of what is ahead say the same: the closing of what is directly ahead. Conditions: none. -/
import Derived.Test.YtohbjnpafpcbkaaAheadP
set_option linter.unusedSimpArgs false
set_option linter.unusedVariables false
open Go Go.Sx Go.Proofs
namespace Go.Proofs.Ytohbjnpafpcbkaa.Ah
open Go.Proofs.Ytohbjnpafpcbkaa.D Go.Proofs.Ytohbjnpafpcbkaa.Tr Go.Proofs.Ytohbjnpafpcbkaa.Ps Go.Proofs.Ytohbjnpafpcbkaa.Od
inductive Pth (E : Nat → Nat → Bool) : Nat → Nat → Prop
  | one {a b : Nat} : E a b = true → Pth E a b
  | snoc {a c b : Nat} : Pth E a c → E c b = true → Pth E a b
inductive PthB (E : Nat → Nat → Bool) (k : Nat) : Nat → Nat → Prop
  | one {a b : Nat} : E a b = true → PthB E k a b
  | snoc {a c b : Nat} : PthB E k a c → c < k → E c b = true → PthB E k a b
section
variable {E : Nat → Nat → Bool}
theorem Pth.trans {a b c : Nat} (h : Pth E a b) (k : Pth E b c) : Pth E a c := by
  induction k with
  | one e => exact .snoc h e
  | snoc _ e ih => exact .snoc ih e
theorem PthB.mono {k k' a b : Nat} (hk : k ≤ k') (h : PthB E k a b) : PthB E k' a b := by
  induction h with
  | one e => exact .one e
  | snoc _ hc e ih => exact .snoc ih (by omega) e
theorem PthB.path {k a b : Nat} (h : PthB E k a b) : Pth E a b := by
  induction h with
  | one e => exact .one e
  | snoc _ hc e ih => exact .snoc ih e
theorem PthB.trans {k a b : Nat} (h : PthB E (k + 1) a k) (g : PthB E (k + 1) k b) : PthB E (k + 1) a b := by
  induction g with
  | one e => exact .snoc h (by omega) e
  | snoc _ hc e ih => exact .snoc ih hc e
theorem PthB.split {k a b : Nat} (h : PthB E (k + 1) a b) : PthB E k a b ∨ PthB E k a k ∧ PthB E k k b := by
  induction h with
  | one e => exact .inl (.one e)
  | @snoc c b _ hc e ih =>
    by_cases hk : c < k
    · rcases ih with h | ⟨h1, h2⟩
      · exact .inl (.snoc h hk e)
      · exact .inr ⟨h1, .snoc h2 hk e⟩
    · have : c = k := by omega
      subst this
      rcases ih with h | ⟨h1, h2⟩
      · exact .inr ⟨h, .one e⟩
      · exact .inr ⟨h1, .one e⟩
theorem rounds_iff : ∀ (k a b : Nat), rounds E k a b = true ↔ PthB E k a b
  | 0, a, b => ⟨fun h => .one h, fun h => by
    cases h with
    | one e => exact e
    | snoc _ hc _ => exact absurd hc (Nat.not_lt_zero _)⟩
  | k + 1, a, b => by
    simp only [rounds, clo, Bool.or_eq_true, Bool.and_eq_true, rounds_iff k]
    constructor
    · rintro (h | ⟨h1, h2⟩)
      · exact h.mono (by omega)
      · exact (h1.mono (by omega)).trans (h2.mono (by omega))
    · exact fun h => h.split
theorem Pth.lt (hE : ∀ a b, E a b = true → a < b) {a b : Nat} (h : Pth E a b) : a < b := by
  induction h with
  | one e => exact hE _ _ e
  | snoc _ e ih => exact Nat.lt_trans ih (hE _ _ e)
theorem Pth.bounded (hE : ∀ a b, E a b = true → a < b) {a b : Nat} (h : Pth E a b) : ∀ {n}, b ≤ n → PthB E n a b := by
  induction h with
  | one e => exact fun _ => .one e
  | snoc _ e ih => exact fun hb => .snoc (ih (Nat.le_trans (Nat.le_of_lt (hE _ _ e)) hb)) (Nat.lt_of_lt_of_le (hE _ _ e) hb) e
theorem rounds_path (hE : ∀ a b, E a b = true → a < b) {n a b : Nat} (hb : b ≤ n) : rounds E n a b = true ↔ Pth E a b :=
  (rounds_iff n a b).trans ⟨fun h => h.path, fun h => h.bounded hE hb⟩
theorem Pth.last {a b : Nat} : Pth E a b ↔ ∃ i, E i b = true ∧ (a = i ∨ Pth E a i) := by
  constructor
  · intro h
    cases h with
    | one e => exact ⟨a, e, .inl rfl⟩
    | snoc h e => exact ⟨_, e, .inr h⟩
  · rintro ⟨i, e, rfl | h⟩
    · exact .one e
    · exact .snoc h e
end
theorem upP_lt {p : Nat → Nat → Bool} : ∀ a b, upP p a b = true → a < b := fun a b h => by
  simp only [upP, Bool.and_eq_true, decide_eq_true_eq] at h; exact h.1
/-- What is ahead. -/
def Ahd (l : List Ev) (a b : Nat) : Prop := Pth (upP (dirL l)) a b
theorem rowD_iff (l : List Ev) (R : Nat → Nat → Bool) (j : Nat) (hR : ∀ a b, a < j → (R a b = true ↔ Ahd l b a)) : ∀ s, s ≤ j → ∀ b, rowD l R j s b = true ↔ ∃ i, j - s ≤ i ∧ upP (dirL l) i j = true ∧ (b = i ∨ Ahd l b i)
  | 0, _, b => by
    simp only [rowD, Bool.false_eq_true, false_iff]
    rintro ⟨i, h1, h2, _⟩
    have := upP_lt _ _ h2
    omega
  | s + 1, hs, b => by
    have ih := rowD_iff l R j hR s (by omega)
    have hi : j - 1 - s < j := by omega
    have hu : upP (dirL l) (j - 1 - s) j = dirL l (j - 1 - s) j := by simp [upP, hi]
    have e1 : j - (s + 1) = j - 1 - s := by omega
    simp only [rowD, stepRow]
    split
    · rename_i h
      simp only [Bool.and_eq_true, Bool.not_eq_true'] at h
      simp only [Bool.or_eq_true, decide_eq_true_eq, ih b, hR _ b hi]
      constructor
      · rintro ((h1 | ⟨i, h1, h2, h3⟩) | h1)
        · exact ⟨j - 1 - s, by omega, by rw [hu]; exact h.2, .inl h1⟩
        · exact ⟨i, by omega, h2, h3⟩
        · exact ⟨j - 1 - s, by omega, by rw [hu]; exact h.2, .inr h1⟩
      · rintro ⟨i, h1, h2, h3⟩
        by_cases e : i = j - 1 - s
        · subst e
          rcases h3 with h3 | h3
          · exact .inl (.inl h3)
          · exact .inr h3
        · exact .inl (.inr ⟨i, by omega, h2, h3⟩)
    · rename_i h
      rw [ih b]
      constructor
      · rintro ⟨i, h1, h2, h3⟩
        exact ⟨i, by omega, h2, h3⟩
      · rintro ⟨i, h1, h2, h3⟩
        by_cases e : i = j - 1 - s
        · subst e
          rw [hu] at h2
          have hr : rowD l R j s (j - 1 - s) = true := by
            cases hc : rowD l R j s (j - 1 - s) with
            | true => rfl
            | false => exact absurd (show (!rowD l R j s (j - 1 - s) && dirL l (j - 1 - s) j) = true by rw [hc, h2]; rfl) h
          obtain ⟨i', k1, k2, k3⟩ := (ih _).1 hr
          refine ⟨i', k1, k2, .inr ?_⟩
          have hp : Ahd l (j - 1 - s) i' := by
            rcases k3 with k3 | k3
            · omega
            · exact k3
          rcases h3 with h3 | h3
          · subst h3; exact hp
          · exact Pth.trans h3 hp
        · exact ⟨i, by omega, h2, h3⟩
theorem tabP_iff (l : List Ev) : ∀ n a b, a < n → (tabP l n a b = true ↔ Ahd l b a)
  | 0, a, b, h => absurd h (Nat.not_lt_zero _)
  | j + 1, a, b, h => by
    simp only [tabP]
    by_cases e : a = j
    · subst e
      rw [if_pos rfl, rowD_iff l _ a (fun a' b' ha => tabP_iff l a a' b' ha) a (Nat.le_refl _) b]
      unfold Ahd
      rw [Pth.last]
      constructor
      · rintro ⟨i, _, h2, h3⟩; exact ⟨i, h2, h3⟩
      · rintro ⟨i, h2, h3⟩; exact ⟨i, by omega, h2, h3⟩
    · rw [if_neg e]; exact tabP_iff l j a b (by omega)
theorem aheadR_iff {l : List Ev} {a b : Nat} (hb : b ≤ l.length) : aheadR l a b = true ↔ Ahd l a b := rounds_path upP_lt hb
/-- Both tables. -/
theorem tab_eq (l : List Ev) {a b : Nat} (ha : a < l.length) : tabP l l.length a b = aheadR l b a := by
  rw [Bool.eq_iff_iff, tabP_iff l l.length a b ha, aheadR_iff (Nat.le_of_lt ha)]
theorem Ahd.lt {l : List Ev} {a b : Nat} (h : Ahd l a b) : a < b := Pth.lt upP_lt h
end Go.Proofs.Ytohbjnpafpcbkaa.Ah
