/- The two orders of ends are one, and it is an order. Plain. Conditions: none. -/
import Derived.Test.YtgcbhanfhnianaaEvT
set_option linter.unusedSimpArgs false
set_option linter.unusedVariables false
open Go Go.Sx Go.Proofs
namespace Go.Proofs.Ytgcbhanfhnianaa.Ev
open Go.Proofs.Ytgcbhanfhnianaa.D Go.Proofs.Ytgcbhanfhnianaa.Pg Go.Proofs.Ytgcbhanfhnianaa.Tr Go.Proofs.Ytgcbhanfhnianaa.Rn Go.Proofs.Ytgcbhanfhnianaa.Cp Go.Proofs.Ytgcbhanfhnianaa.Rc
theorem cmpI_zero {a b : Int} : cmpI a b = 0 ↔ a = b := by
  unfold cmpI
  split
  · exact ⟨fun h => by omega, fun h => by omega⟩
  · split
    · exact ⟨fun h => by omega, fun h => by omega⟩
    · exact ⟨fun h => by omega, fun h => by omega⟩
theorem cmpI_neg {a b : Int} : cmpI a b < 0 ↔ a < b := by
  unfold cmpI
  split
  · exact ⟨fun h => by omega, fun h => by omega⟩
  · split
    · exact ⟨fun h => by omega, fun h => by omega⟩
    · exact ⟨fun h => by omega, fun h => by omega⟩
theorem cmpL_app : ∀ {a a' : List Int} (b b' : List Int), a.length = a'.length → cmpL (a ++ b) (a' ++ b') = if cmpL a a' = 0 then cmpL b b' else cmpL a a'
  | [], [], b, b', _ => by rw [List.nil_append, List.nil_append, cmpL, if_pos rfl]
  | x :: a, y :: a', b, b', h => by
    rw [List.cons_append, List.cons_append, cmpL, cmpL]
    by_cases q : cmpI x y = 0
    · rw [if_pos q, if_pos q]
      exact cmpL_app b b' (by simpa using h)
    · rw [if_neg q, if_neg q, if_neg q]
  | [], _ :: _, _, _, h => by cases h
  | _ :: _, [], _, _, h => by cases h
def keyE (x : En) : List Int := l8 x ++ (l4 x ++ (l6 x ++ [lastE x]))
theorem keyE_len (x : En) : (keyE x).length = 19 := by simp [keyE, l8, l4, l6, rng_len]
theorem ordE_key (x y : En) : ordE x y = cmpL (keyE x) (keyE y) := by
  have h8 : (l8 x).length = (l8 y).length := by simp [l8]
  have h4 : (l4 x).length = (l4 y).length := by simp [l4]
  have h6 : (l6 x).length = (l6 y).length := by simp [l6]
  unfold ordE keyE
  rw [cmpL_app _ _ h8, cmpL_app _ _ h4, cmpL_app _ _ h6]
  simp only [orL, cmpL]
theorem lessL_key : ∀ {X Y : List Int} {a b : Int} {d : Bool}, X.length = Y.length → (d = true ↔ a < b) → lessL X Y d = decide (cmpL (X ++ [a]) (Y ++ [b]) < 0)
  | [], [], a, b, d, _, h => by
    have e : cmpL [a] [b] = cmpI a b := by
      rw [cmpL, cmpL]
      split
      · rename_i h; exact h.symm
      · rfl
    rw [lessL, List.nil_append, List.nil_append, e]
    · cases hd : d with
      | true => exact (decide_eq_true (cmpI_neg.2 (h.1 hd))).symm
      | false => exact (decide_eq_false fun hn => by have := h.2 (cmpI_neg.1 hn); rw [hd] at this; cases this).symm
    · intro _ _ _ _ h; cases h
  | x :: X, y :: Y, a, b, d, hl, h => by
    rw [lessL, List.cons_append, List.cons_append, cmpL]
    by_cases q : x = y
    · rw [if_pos q, if_pos (cmpI_zero.2 q)]
      exact lessL_key (by simpa using hl) h
    · rw [if_neg q, if_neg (fun e => q (cmpI_zero.1 e))]
      by_cases q2 : x < y
      · rw [decide_eq_true q2, decide_eq_true (cmpI_neg.2 q2)]
      · rw [decide_eq_false q2, decide_eq_false fun e => q2 (cmpI_neg.1 e)]
  | [], _ :: _, _, _, _, h, _ => by cases h
  | _ :: _, [], _, _, _, h, _ => by cases h
theorem lessE_key (x y : En) : lessE x y = decide (cmpL (keyE x) (keyE y) < 0) := by
  have e : ∀ z : En, keyE z = catE z ++ [lastE z] := fun z => by simp [keyE, catE]
  rw [lessE, lessL_key (a := lastE x) (b := lastE y) (by rw [catE_len, catE_len]), ← e, ← e]
  unfold lastE
  cases x.done <;> cases y.done <;> simp
theorem lessE_ord (x y : En) : lessE x y = decide (ordE x y < 0) := by rw [lessE_key, ordE_key]
theorem cmpL_ntrans : ∀ {X Y Z : List Int}, X.length = Y.length → Y.length = Z.length → ¬ cmpL X Y < 0 → ¬ cmpL Y Z < 0 → ¬ cmpL X Z < 0
  | [], [], [], _, _, _, _ => by simp [cmpL]
  | x :: X, y :: Y, z :: Z, e1, e2, h1, h2 => by
    rw [cmpL] at h1 h2 ⊢
    simp only [List.length_cons, Nat.add_right_cancel_iff] at e1 e2
    by_cases q1 : x = y
    · subst q1
      rw [if_pos (cmpI_zero.2 rfl)] at h1
      by_cases q2 : x = z
      · subst q2
        rw [if_pos (cmpI_zero.2 rfl)] at h2
        rw [if_pos (cmpI_zero.2 rfl)]
        exact cmpL_ntrans e1 e2 h1 h2
      · rw [if_neg fun e => q2 (cmpI_zero.1 e)] at h2 ⊢
        exact h2
    · rw [if_neg fun e => q1 (cmpI_zero.1 e)] at h1
      rw [cmpI_neg] at h1
      by_cases q2 : y = z
      · subst q2
        rw [if_neg fun e => q1 (cmpI_zero.1 e), cmpI_neg]
        exact h1
      · rw [if_neg fun e => q2 (cmpI_zero.1 e), cmpI_neg] at h2
        have q3 : ¬ x = z := by omega
        rw [if_neg fun e => q3 (cmpI_zero.1 e), cmpI_neg]
        omega
  | [], _ :: _, _, e1, _, _, _ => by cases e1
  | _ :: _, [], _, e1, _, _, _ => by cases e1
  | [], [], _ :: _, _, e2, _, _ => by cases e2
  | _ :: _, _ :: _, [], _, e2, _, _ => by cases e2
theorem lessE_ntrans {x y z : En} (h1 : lessE x y = false) (h2 : lessE y z = false) : lessE x z = false := by
  rw [lessE_key] at *
  exact decide_eq_false (cmpL_ntrans (by rw [keyE_len, keyE_len]) (by rw [keyE_len, keyE_len]) (of_decide_eq_false h1) (of_decide_eq_false h2))
theorem cmpL_zero : ∀ {X Y : List Int}, X.length = Y.length → ¬ cmpL X Y < 0 → ¬ cmpL Y X < 0 → X = Y
  | [], [], _, _, _ => rfl
  | x :: X, y :: Y, e, h1, h2 => by
    rw [cmpL] at h1 h2
    by_cases q : x = y
    · subst q
      rw [if_pos (cmpI_zero.2 rfl)] at h1 h2
      rw [cmpL_zero (by simpa using e) h1 h2]
    · rw [if_neg fun e => q (cmpI_zero.1 e), cmpI_neg] at h1
      rw [if_neg fun e => q (cmpI_zero.1 e).symm, cmpI_neg] at h2
      omega
  | [], _ :: _, e, _, _ => by cases e
  | _ :: _, [], e, _, _ => by cases e
theorem map_rng {f g : Nat → Int} : ∀ {n : Nat}, (rng n).map f = (rng n).map g → ∀ i, i < n → f i = g i := by
  intro n h i hi
  have := congrArg (fun l : List Int => l[i]?) h
  simpa [rng, hi] using this
structure EnOK (x : En) : Prop where
  mem : ∀ i, 8 ≤ i → x.mem i = 0
  vols : ∀ i, 4 ≤ i → x.vols i = 0
  has : ∀ i, 6 ≤ i → x.has i = 0
  stuck : x.stuck = !x.done
theorem key_inj {x y : En} (hx : EnOK x) (hy : EnOK y) (h : keyE x = keyE y) : x = y := by
  unfold keyE at h
  have h8 : (l8 x).length = (l8 y).length := by simp [l8]
  have h4 : (l4 x).length = (l4 y).length := by simp [l4]
  have h6 : (l6 x).length = (l6 y).length := by simp [l6]
  obtain ⟨a1, h⟩ := List.append_inj h h8
  obtain ⟨a2, h⟩ := List.append_inj h h4
  obtain ⟨a3, h⟩ := List.append_inj h h6
  have e1 := ext_upto (map_rng a1) hx.mem hy.mem
  have e2 := ext_upto (map_rng a2) hx.vols hy.vols
  have e3 := ext_upto (map_rng a3) hx.has hy.has
  have e4 : lastE x = lastE y := by simpa using h
  have e5 : x.done = y.done := by
    unfold lastE at e4
    cases hx' : x.done <;> cases hy' : y.done <;> simp_all
  obtain ⟨m, v, hh, d, st⟩ := x
  obtain ⟨m', v', hh', d', st'⟩ := y
  have s1 := hx.stuck
  have s2 := hy.stuck
  simp only at e1 e2 e3 e5 s1 s2
  subst e1; subst e2; subst e3; subst e5; subst s1; subst s2
  rfl
theorem tot_of {E : List En} (hn : E.Nodup) (h : ∀ x ∈ E, EnOK x) : TotE E := by
  refine ⟨hn, fun x hx y hy hne => ?_⟩
  rw [lessE_key, lessE_key]
  by_cases q1 : cmpL (keyE x) (keyE y) < 0
  · exact .inl (decide_eq_true q1)
  · by_cases q2 : cmpL (keyE y) (keyE x) < 0
    · exact .inr (decide_eq_true q2)
    · exact absurd (key_inj (h x hx) (h y hy) (cmpL_zero (by rw [keyE_len, keyE_len]) q1 q2)) hne
theorem sameE_eq {x y : En} (hx : EnOK x) (hy : EnOK y) : sameE x y = true ↔ x = y := by
  constructor
  · intro h
    unfold sameE at h
    rw [en_emb, en_emb] at h
    simp only [eqV, eqVL, Bool.and_eq_true, List.all_eq_true, List.mem_range, decide_eq_true_eq, beq_iff_eq] at h
    obtain ⟨a1, a2, a3, a4, a5, _⟩ := h
    obtain ⟨m, v, hh, d, st⟩ := x
    obtain ⟨m', v', hh', d', st'⟩ := y
    simp only at a1 a2 a3 a4 a5
    obtain rfl := ext_upto a1 hx.mem hy.mem
    obtain rfl := ext_upto a2 hx.vols hy.vols
    obtain rfl := ext_upto a3 hx.has hy.has
    subst a4; subst a5
    rfl
  · rintro rfl
    unfold sameE
    rw [en_emb]
    simp [eqV, eqVL]
end Go.Proofs.Ytgcbhanfhnianaa.Ev
