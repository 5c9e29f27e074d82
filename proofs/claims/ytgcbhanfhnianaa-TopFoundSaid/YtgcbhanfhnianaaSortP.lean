/- A list sorted and cut, as what it has in rising order. Conditions: none. -/
import Derived.Lib.SlicesCompact
set_option linter.unusedSimpArgs false
set_option linter.unusedVariables false
open Go Go.Lib
namespace Go.Proofs.Ytgcbhanfhnianaa.SortP
def upTo (zs : List Int) : Nat → List Int
  | 0 => []
  | j + 1 => upTo zs j ++ if zs.any (fun z => decide (z = (j : Int))) = true then [(j : Int)] else []
theorem mem_upTo {zs : List Int} {x : Int} : ∀ n, x ∈ upTo zs n ↔ x ∈ zs ∧ 0 ≤ x ∧ x < n
  | 0 => by simp [upTo]
  | n + 1 => by
    rw [upTo, List.mem_append, mem_upTo n]
    constructor
    · rintro (h | h)
      · exact ⟨h.1, h.2.1, by omega⟩
      · split at h
        · rename_i h1
          rw [List.any_eq_true] at h1
          obtain ⟨z, hz, h2⟩ := h1
          have h2 := of_decide_eq_true h2
          have h3 := List.mem_singleton.1 h
          subst h3; subst h2
          exact ⟨hz, by omega, by omega⟩
        · cases h
    · rintro ⟨h1, h2, h3⟩
      by_cases e : x = n
      · subst e
        right
        rw [if_pos (List.any_eq_true.2 ⟨_, h1, by simp⟩)]
        exact List.mem_singleton.2 rfl
      · exact .inl ⟨h1, h2, by omega⟩
theorem upTo_asc {zs : List Int} : ∀ n, (upTo zs n).Pairwise (· < ·)
  | 0 => List.Pairwise.nil
  | n + 1 => by
    rw [upTo, List.pairwise_append]
    refine ⟨upTo_asc n, by split <;> simp, fun a ha b hb => ?_⟩
    split at hb
    · have := List.mem_singleton.1 hb
      have := ((mem_upTo n).1 ha).2.2
      omega
    · cases hb
theorem asc_eq : ∀ {a b : List Int}, a.Pairwise (· < ·) → b.Pairwise (· < ·) → (∀ x, x ∈ a ↔ x ∈ b) → a = b
  | [], [], _, _, _ => rfl
  | [], y :: b, _, _, h => absurd ((h y).2 List.mem_cons_self) (by simp)
  | x :: a, [], _, _, h => absurd ((h x).1 List.mem_cons_self) (by simp)
  | x :: a, y :: b, ha, hb, h => by
    rw [List.pairwise_cons] at ha hb
    have hxy : x = y := by
      have h1 := (h x).1 List.mem_cons_self
      have h2 := (h y).2 List.mem_cons_self
      rw [List.mem_cons] at h1 h2
      rcases h1 with h1 | h1
      · exact h1
      · rcases h2 with h2 | h2
        · exact h2.symm
        · have := hb.1 x h1
          have := ha.1 y h2
          omega
    subst hxy
    congr 1
    refine asc_eq ha.2 hb.2 fun z => ?_
    constructor
    · intro hz
      have := (h z).1 (List.mem_cons_of_mem _ hz)
      rw [List.mem_cons] at this
      rcases this with e | e
      · subst e; have := ha.1 z hz; omega
      · exact e
    · intro hz
      have := (h z).2 (List.mem_cons_of_mem _ hz)
      rw [List.mem_cons] at this
      rcases this with e | e
      · subst e; have := hb.1 z hz; omega
      · exact e
theorem compact_asc {d : Array Int} (hs : ∀ i j, i ≤ j → j < d.size → d[i]! ≤ d[j]!) : ∀ m, m ≤ d.size → (compactUpTo d m).Pairwise (· < ·) ∧ ∀ x, x ∈ compactUpTo d m ↔ ∃ j, j < m ∧ d[j]! = x
  | 0, _ => ⟨by simp [compactUpTo], fun x => by simp [compactUpTo]⟩
  | m + 1, h => by
    obtain ⟨h1, h2⟩ := compact_asc hs m (by omega)
    rw [compactUpTo_succ]
    by_cases hk : keeps d m = true
    · rw [if_pos hk]
      refine ⟨List.pairwise_append.2 ⟨h1, by simp, fun a ha b hb => ?_⟩, fun x => ?_⟩
      · have hb := List.mem_singleton.1 hb
        obtain ⟨j, hj, e⟩ := (h2 a).1 ha
        have hne : d[m]! ≠ d[m - 1]! := by
          have := of_decide_eq_true hk
          rcases this with h0 | h0
          · omega
          · exact h0
        have e1 := hs j (m - 1) (by omega) (by omega)
        have e2 := hs (m - 1) m (by omega) (by omega)
        subst hb
        rw [← e]
        omega
      · rw [List.mem_append, h2, List.mem_singleton]
        constructor
        · rintro (⟨j, hj, e⟩ | e)
          · exact ⟨j, by omega, e⟩
          · exact ⟨m, by omega, e.symm⟩
        · rintro ⟨j, hj, e⟩
          by_cases e2 : j = m
          · subst e2; exact .inr e.symm
          · exact .inl ⟨j, by omega, e⟩
    · rw [if_neg hk, List.append_nil]
      refine ⟨h1, fun x => ?_⟩
      have hk' : ¬ (m = 0 ∨ d[m]! ≠ d[m - 1]!) := fun h => hk (decide_eq_true h)
      have hm : d[m]! = d[m - 1]! := Classical.byContradiction fun h => hk' (.inr h)
      have h0 : m ≠ 0 := fun h => hk' (.inl h)
      rw [h2]
      constructor
      · rintro ⟨j, hj, e⟩
        exact ⟨j, by omega, e⟩
      · rintro ⟨j, hj, e⟩
        by_cases e2 : j = m
        · subst e2; exact ⟨j - 1, by omega, by rw [← hm]; exact e⟩
        · exact ⟨j, by omega, e⟩
def sorted (zs : List Int) : List Int := zs.mergeSort fun x y => decide (x ≤ y)
theorem sorted_len (zs : List Int) : (sorted zs).length = zs.length := List.length_mergeSort zs
theorem compact_len (zs : List Int) : (compact zs).length ≤ zs.length := by
  unfold compact compactUpTo
  rw [List.length_map]
  exact Nat.le_trans (List.length_filter_le _ _) (by simp)
theorem compact_sorted {zs : List Int} {n : Nat} (h : ∀ z ∈ zs, 0 ≤ z ∧ z < n) : compact (sorted zs) = upTo zs n := by
  have hp := List.pairwise_mergeSort (le := fun x y : Int => decide (x ≤ y)) (by intro a b c; simp; omega) (by intro a b; simp; omega) zs
  have hs : ∀ i j, i ≤ j → j < (sorted zs).toArray.size → (sorted zs).toArray[i]! ≤ (sorted zs).toArray[j]! := by
    intro i j hij hj
    have hj' : j < (sorted zs).length := by simpa using hj
    rw [getElem!_pos (sorted zs).toArray i (by simp; omega), getElem!_pos (sorted zs).toArray j hj]
    by_cases e : i = j
    · subst e; exact Int.le_refl _
    · have := List.pairwise_iff_getElem.1 hp i j (by simpa [sorted] using (show i < (sorted zs).length by omega)) (by simpa [sorted] using hj') (by omega)
      exact of_decide_eq_true this
  obtain ⟨h1, h2⟩ := compact_asc hs (sorted zs).length (by simp)
  refine asc_eq h1 (upTo_asc n) fun x => ?_
  rw [mem_upTo]
  show x ∈ compactUpTo _ _ ↔ _
  rw [h2]
  have hm : x ∈ sorted zs ↔ x ∈ zs := List.mem_mergeSort
  constructor
  · rintro ⟨j, hj, e⟩
    have hx : x ∈ sorted zs := by
      rw [← e, getElem!_pos (sorted zs).toArray j (by simpa using hj)]
      simp
    have := hm.1 hx
    exact ⟨this, h x this⟩
  · rintro ⟨hx, _⟩
    obtain ⟨j, hj, e⟩ := List.mem_iff_getElem.1 (hm.2 hx)
    exact ⟨j, hj, by rw [getElem!_pos (sorted zs).toArray j (by simpa using hj)]; simpa using e⟩
end Go.Proofs.Ytgcbhanfhnianaa.SortP
