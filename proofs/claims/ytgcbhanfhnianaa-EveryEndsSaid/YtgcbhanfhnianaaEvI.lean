/- All ends, by each state once or by all runs: the same. Plain. Conditions: none. -/
import Derived.Test.YtgcbhanfhnianaaEvL
set_option linter.unusedSimpArgs false
set_option linter.unusedVariables false
open Go Go.Sx Go.Proofs
namespace Go.Proofs.Ytgcbhanfhnianaa.EvM
open Go.Proofs.Ytgcbhanfhnianaa.Ev
open Go.Proofs.Ytgcbhanfhnianaa.D Go.Proofs.Ytgcbhanfhnianaa.Pg Go.Proofs.Ytgcbhanfhnianaa.Tr Go.Proofs.Ytgcbhanfhnianaa.Rn Go.Proofs.Ytgcbhanfhnianaa.Cp Go.Proofs.Ytgcbhanfhnianaa.Rc
def isEnd (p : List (List PO)) (s : Sta) : Bool := (endF' s p).done || (endF' s p).stuck
def EndS (p : List (List PO)) : Nat → Sta → En → Prop
  | 0, _, _ => False
  | n + 1, s, x => (isEnd p s = true ∧ x = endF' s p) ∨ ∃ t, t < p.length ∧ canF s p t = true ∧ EndS p n (pickS p s t) x
def CleanN (p : List (List PO)) (l : List En) (s : Sta) : Prop := ∀ f x, EndS p f s x → x ∈ l
theorem CleanN.mono {p : List (List PO)} {l l' : List En} {s : Sta} (h : CleanN p l s) (hl : ∀ x ∈ l, x ∈ l') : CleanN p l' s := fun f x hx => hl x (h f x hx)
theorem endS_fuel {p : List (List PO)} : ∀ (n f : Nat) (s : Sta) (x : En), Fit p s.at' → manyL p < sumAt p s.at' + n → EndS p f s x → EndS p n s x
  | _, 0, _, _, _, _, h => h.elim
  | 0, f + 1, s, x, hf, hm, _ => by
    have h1 := sum_le hf p.length (Nat.le_refl _)
    rw [List.take_length] at h1
    rw [sumAt] at hm
    omega
  | n + 1, f + 1, s, x, hf, hm, h => by
    rcases h with h | ⟨t, ht, hc, h⟩
    · exact .inl h
    · exact .inr ⟨t, ht, hc, endS_fuel n f _ x (fit_pick hf t) (by rw [sum_pick hf hc ht]; omega) h⟩
theorem enOK_end {p : List (List PO)} {s : Sta} (h : Cn s) (he : isEnd p s = true) : EnOK (endF' s p) := by
  refine ⟨h.mem, h.vols, h.has, ?_⟩
  unfold isEnd endF' at he
  unfold endF'
  simp only at he ⊢
  cases hd : doneB s p p.length <;> rw [hd] at he <;> simp_all
structure OkE (l : List En) : Prop where
  nd : l.Nodup
  ok : ∀ x ∈ l, EnOK x
theorem any_same {l : List En} (h : ∀ x ∈ l, EnOK x) {e : En} (he : EnOK e) : l.any (sameE e) = true ↔ e ∈ l := by
  rw [List.any_eq_true]
  constructor
  · rintro ⟨x, hx, hs⟩
    rw [(sameE_eq he (h x hx)).1 hs]; exact hx
  · intro hx
    exact ⟨e, hx, (sameE_eq he he).2 rfl⟩
theorem addE_mem {p : List (List PO)} {s : Sta} {l : List En} (hc : Cn s) (hl : OkE l) (x : En) : x ∈ addE s p l ↔ x ∈ l ∨ (isEnd p s = true ∧ x = endF' s p) := by
  unfold addE
  cases he : isEnd p s with
  | false =>
    have he' : ((endF' s p).done || (endF' s p).stuck) = false := he
    rw [he', Bool.false_and, if_neg (by decide)]
    simp
  | true =>
    have he' : ((endF' s p).done || (endF' s p).stuck) = true := he
    rw [he', Bool.true_and]
    have ha := any_same hl.ok (enOK_end hc he)
    cases hq : l.any (sameE (endF' s p)) with
    | true =>
      rw [Bool.not_true, if_neg (by decide)]
      have := ha.1 hq
      constructor
      · exact .inl
      · rintro (h | ⟨_, rfl⟩)
        · exact h
        · exact this
    | false => rw [Bool.not_false, if_pos rfl, List.mem_append, List.mem_singleton]; simp
theorem addE_ok {p : List (List PO)} {s : Sta} {l : List En} (hc : Cn s) (hl : OkE l) : OkE (addE s p l) := by
  refine ⟨?_, fun x hx => ?_⟩
  · unfold addE
    cases he : isEnd p s with
    | false =>
      have he' : ((endF' s p).done || (endF' s p).stuck) = false := he
      rw [he', Bool.false_and, if_neg (by decide)]; exact hl.nd
    | true =>
      have he' : ((endF' s p).done || (endF' s p).stuck) = true := he
      rw [he', Bool.true_and]
      have ha := any_same hl.ok (enOK_end hc he)
      split
      · rename_i hq
        have hn : endF' s p ∉ l := fun h => by rw [ha.2 h] at hq; cases hq
        rw [List.nodup_append]
        refine ⟨hl.nd, by simp, fun a ha b hb e => ?_⟩
        rw [List.mem_singleton.1 hb] at e
        subst e; exact hn ha
      · exact hl.nd
  · rcases (addE_mem hc hl x).1 hx with h | ⟨he, rfl⟩
    · exact hl.ok x h
    · exact enOK_end hc he
theorem fromN_is {p : List (List PO)} (hp : progC badP p = 0) : ∀ (n : Nat) (ks : Ks) (seen : List Sta) (l : List En), sumAt p (stK p ks).at' = ks.length → manyL p < ks.length + n → Cn (stK p ks) → OkE l →
    (∀ t ∈ seen, Cn t ∧ (ks.length ≤ sumAt p t.at' → CleanN p l t)) → OkE (fromN p n (stK p ks) (seen, l)).2 ∧ (∀ x ∈ l, x ∈ (fromN p n (stK p ks) (seen, l)).2) ∧
      (∀ x ∈ (fromN p n (stK p ks) (seen, l)).2, x ∈ l ∨ EndS p n (stK p ks) x) ∧ (∀ x, EndS p n (stK p ks) x → x ∈ (fromN p n (stK p ks) (seen, l)).2) ∧
      ∀ t ∈ (fromN p n (stK p ks) (seen, l)).1, Cn t ∧ (t ∈ seen ∨ CleanN p (fromN p n (stK p ks) (seen, l)).2 t)
  | 0, ks, seen, l, hsum, hm, hcn, hl, hseen => by
    have hf := fit_run hp (picks := ks) ks.length
    have h1 := sum_le hf p.length (Nat.le_refl _)
    rw [List.take_length] at h1
    have h2 : sumAt p (runS p ks ks.length).at' = ks.length := hsum
    rw [sumAt] at h2
    omega
  | n + 1, ks, seen, l, hsum, hm, hcn, hl, hseen => by
    have hf : Fit p (stK p ks).at' := fit_run hp (picks := ks) ks.length
    by_cases hs : seen.any (samS (stK p ks)) = true
    · have e1 : fromN p (n + 1) (stK p ks) (seen, l) = (seen, l) := by rw [fromN, if_pos hs]
      rw [e1]
      obtain ⟨t, ht, hts⟩ := List.any_eq_true.1 hs
      obtain ⟨c1, c2⟩ := hseen t ht
      have et : stK p ks = t := by
        have hd : (stK p ks).en.done = t.en.done := by
          unfold samS at hts
          rw [sta_emb, sta_emb] at hts
          simp only [eqV, eqVL, Bool.and_eq_true, beq_iff_eq] at hts
          exact hts.1.2.2.2.1
        exact samS_eq hts hcn c1 hd
      have hcl : CleanN p l (stK p ks) := by rw [et]; exact c2 (by rw [← et, hsum]; exact Nat.le_refl _)
      exact ⟨hl, fun x hx => hx, fun x hx => .inl hx, fun x hx => hcl _ x hx, fun t ht => ⟨(hseen t ht).1, .inl ht⟩⟩
    · have e1 : fromN p (n + 1) (stK p ks) (seen, l) = wtN p n (stK p ks) (seen, l) p.length := by rw [fromN, if_neg hs]; rfl
      have key : ∀ k, k ≤ p.length → OkE (wtN p n (stK p ks) (seen, l) k).2 ∧ (∀ x ∈ addE (stK p ks) p l, x ∈ (wtN p n (stK p ks) (seen, l) k).2) ∧
          (∀ x ∈ (wtN p n (stK p ks) (seen, l) k).2, x ∈ l ∨ EndS p (n + 1) (stK p ks) x) ∧ (∀ t, t < k → canF (stK p ks) p t = true → ∀ x, EndS p n (pickS p (stK p ks) t) x → x ∈ (wtN p n (stK p ks) (seen, l) k).2) ∧
          ∀ t ∈ (wtN p n (stK p ks) (seen, l) k).1, Cn t ∧ (t ∈ seen ∨ t = stK p ks ∨ CleanN p (wtN p n (stK p ks) (seen, l) k).2 t) := by
        intro k
        induction k with
        | zero =>
          intro _
          have e0 : wtN p n (stK p ks) (seen, l) 0 = (seen ++ [stK p ks], addE (stK p ks) p l) := rfl
          rw [e0]
          refine ⟨addE_ok hcn hl, fun x hx => hx, fun x hx => ?_, fun t ht => absurd ht (Nat.not_lt_zero _), fun t ht => ?_⟩
          · rcases (addE_mem hcn hl x).1 hx with h | h
            · exact .inl h
            · exact .inr (.inl h)
          · rcases List.mem_append.1 ht with ht | ht
            · exact ⟨(hseen t ht).1, .inl ht⟩
            · rw [List.mem_singleton] at ht
              subst ht
              exact ⟨hcn, .inr (.inl rfl)⟩
        | succ k ih =>
          intro hk
          obtain ⟨i1, i2, i3, i4, i5⟩ := ih (by omega)
          rw [wtN_succ]
          by_cases hc : canF (stK p ks) p k = true
          · rw [if_pos hc]
            have hst := stK_snoc p ks (k : Int)
            generalize hW : wtN p n (stK p ks) (seen, l) k = W at i1 i2 i3 i4 i5 ⊢
            obtain ⟨sn, lw⟩ := W
            simp only at i1 i2 i3 i4 i5
            have hll : (ks ++ [(k : Int)]).length = ks.length + 1 := by simp
            have hsum' : sumAt p (stK p (ks ++ [(k : Int)])).at' = (ks ++ [(k : Int)]).length := by rw [hst, sum_pick hf hc (by omega), hsum, hll]
            have hrec := fromN_is hp n (ks ++ [(k : Int)]) sn lw hsum' (by rw [hll]; omega) (by rw [hst]; exact hcn.pick hp hf hc) i1 (fun t ht => by
              obtain ⟨a1, a2⟩ := i5 t ht
              refine ⟨a1, fun hle => ?_⟩
              rw [hll] at hle
              rcases a2 with a2 | a2 | a2
              · exact ((hseen t a2).2 (by omega)).mono fun x hx => i2 x ((addE_mem hcn hl x).2 (.inl hx))
              · rw [a2, hsum] at hle; omega
              · exact a2)
            rw [hst] at hrec
            obtain ⟨r1, r2, r3, r4, r5⟩ := hrec
            refine ⟨r1, fun x hx => r2 x (i2 x hx), fun x hx => ?_, fun t ht hct x hx => ?_, fun t ht => ?_⟩
            · rcases r3 x hx with h | h
              · exact i3 x h
              · exact .inr (.inr ⟨k, by omega, hc, h⟩)
            · by_cases etk : t = k
              · subst etk; exact r4 x hx
              · exact r2 x (i4 t (by omega) hct x hx)
            · obtain ⟨a1, a2⟩ := r5 t ht
              refine ⟨a1, ?_⟩
              rcases a2 with a2 | a2
              · rcases (i5 t a2).2 with b | b | b
                · exact .inl b
                · exact .inr (.inl b)
                · exact .inr (.inr (b.mono r2))
              · exact .inr (.inr a2)
          · rw [if_neg hc]
            refine ⟨i1, i2, i3, fun t ht hct x hx => ?_, i5⟩
            by_cases etk : t = k
            · subst etk; exact absurd hct hc
            · exact i4 t (by omega) hct x hx
      obtain ⟨k1, k2, k3, k4, k5⟩ := key p.length (Nat.le_refl _)
      rw [e1]
      have hall : ∀ x, EndS p (n + 1) (stK p ks) x → x ∈ (wtN p n (stK p ks) (seen, l) p.length).2 := by
        rintro x (h | ⟨t, ht, hc, h⟩)
        · exact k2 x ((addE_mem hcn hl x).2 (.inr h))
        · exact k4 t ht hc x h
      refine ⟨k1, fun x hx => k2 x ((addE_mem hcn hl x).2 (.inl hx)), k3, hall, fun t ht => ?_⟩
      obtain ⟨a1, a2⟩ := k5 t ht
      refine ⟨a1, ?_⟩
      rcases a2 with a2 | a2 | a2
      · exact .inl a2
      · refine .inr ?_
        rw [a2]
        exact fun f x hx => hall x (endS_fuel (n + 1) f _ x hf (by rw [hsum]; exact hm) hx)
      · exact .inr a2
theorem insE_mem {e : En} (he : EnOK e) : ∀ {l : List En}, (∀ x ∈ l, EnOK x) → ∀ x, x ∈ insE l e ↔ x ∈ l ∨ x = e
  | [], _, x => by simp [insE]
  | t :: l, h, x => by
    rw [insE]
    split
    · rename_i hs
      have := (sameE_eq he (h t List.mem_cons_self)).1 hs
      subst this
      simp only [List.mem_cons]
      constructor
      · rintro (rfl | hx)
        · exact .inr rfl
        · exact .inl (.inr hx)
      · rintro ((rfl | hx) | rfl)
        · exact .inl rfl
        · exact .inr hx
        · exact .inl rfl
    · simp only [List.mem_cons, insE_mem he (fun y hy => h y (List.mem_cons_of_mem _ hy)) x]
      constructor
      · rintro (hx | hx | hx)
        · exact .inl (.inl hx)
        · exact .inl (.inr hx)
        · exact .inr hx
      · rintro ((hx | hx) | hx)
        · exact .inl hx
        · exact .inr (.inl hx)
        · exact .inr (.inr hx)
theorem insE_nd {e : En} (he : EnOK e) : ∀ {l : List En}, OkE l → (insE l e).Nodup
  | [], _ => by simp [insE]
  | t :: l, h => by
    obtain ⟨n1, n2⟩ := List.nodup_cons.1 h.nd
    have ho : ∀ x ∈ l, EnOK x := fun x hx => h.ok x (List.mem_cons_of_mem _ hx)
    rw [insE]
    split
    · rename_i hs
      have := (sameE_eq he (h.ok t List.mem_cons_self)).1 hs
      subst this
      exact h.nd
    · rename_i hs
      refine List.nodup_cons.2 ⟨fun hm => ?_, insE_nd he ⟨n2, ho⟩⟩
      rcases (insE_mem he ho t).1 hm with hx | hx
      · exact n1 hx
      · subst hx; exact hs ((sameE_eq he he).2 rfl)
theorem seeE_is {p : List (List PO)} (hp : progC badP p = 0) {ks : Ks} {g : Pg} (h : GOK p ks g) (hcn : Cn (stK p ks)) {l : List En} (hl : OkE l) : OkE (seeE g l) ∧ ∀ x, x ∈ seeE g l ↔ x ∈ l ∨ (isEnd p (stK p ks) = true ∧ x = endF' (stK p ks) p) := by
  have hf : Fit p (stK p ks).at' := fit_run hp (picks := ks) ks.length
  have hsm := (run_same hp (picks := ks) ks.length).1
  rw [← h.eq] at hsm
  have hE : endG g = endF' (stK p ks) p := end_eq hp hf hsm
  unfold seeE
  rw [hE]
  cases he : isEnd p (stK p ks) with
  | false =>
    have he' : ((endF' (stK p ks) p).done || (endF' (stK p ks) p).stuck) = false := he
    rw [he', if_neg (by decide)]
    exact ⟨hl, fun x => by simp⟩
  | true =>
    have he' : ((endF' (stK p ks) p).done || (endF' (stK p ks) p).stuck) = true := he
    have ho := enOK_end hcn he
    rw [he', if_pos rfl]
    refine ⟨⟨insE_nd ho hl, fun x hx => ?_⟩, fun x => by rw [insE_mem ho hl.ok]; simp⟩
    rcases (insE_mem ho hl.ok x).1 hx with h | h
    · exact hl.ok x h
    · rw [h]; exact ho
theorem walkE_is {p : List (List PO)} (hp : progC badP p = 0) : ∀ (n : Nat) (ks : Ks) (g : Pg) (l : List En), GOK p ks g → Cn (stK p ks) → OkE l → OkE (walkE p n g l) ∧ ∀ x, x ∈ walkE p n g l ↔ x ∈ l ∨ EndS p n (stK p ks) x
  | 0, ks, g, l, h, hcn, hl => ⟨hl, fun x => by simp [walkE, EndS]⟩
  | n + 1, ks, g, l, h, hcn, hl => by
    have hf : Fit p (stK p ks).at' := fit_run hp (picks := ks) ks.length
    have hsm := (run_same hp (picks := ks) ks.length).1
    rw [← h.eq] at hsm
    have hC : ∀ t : Nat, canG g t = canF (stK p ks) p t := fun t => (can_same hp hf hsm t).symm
    obtain ⟨s1, s2⟩ := seeE_is hp h hcn hl
    have e1 : walkE p (n + 1) g l = wtE p n g l p.length := rfl
    have key : ∀ k, k ≤ p.length → OkE (wtE p n g l k) ∧ ∀ x, x ∈ wtE p n g l k ↔ x ∈ l ∨ (isEnd p (stK p ks) = true ∧ x = endF' (stK p ks) p) ∨ ∃ t, t < k ∧ canF (stK p ks) p t = true ∧ EndS p n (pickS p (stK p ks) t) x := by
      intro k
      induction k with
      | zero =>
        intro _
        refine ⟨s1, fun x => ?_⟩
        rw [show wtE p n g l 0 = seeE g l from rfl, s2]
        simp
      | succ k ih =>
        intro hk
        obtain ⟨i1, i2⟩ := ih (by omega)
        rw [wtE_succ, hC]
        by_cases hc : canF (stK p ks) p k = true
        · rw [if_pos hc]
          have hst := stK_snoc p ks (k : Int)
          obtain ⟨r1, r2⟩ := walkE_is hp n (ks ++ [(k : Int)]) _ (wtE p n g l k) (h.step hp (by rw [hC]; exact hc)) (by rw [hst]; exact hcn.pick hp hf hc) i1
          rw [hst] at r2
          refine ⟨r1, fun x => ?_⟩
          rw [r2, i2]
          constructor
          · rintro ((a | a | ⟨t, b, c, d⟩) | a)
            · exact .inl a
            · exact .inr (.inl a)
            · exact .inr (.inr ⟨t, by omega, c, d⟩)
            · exact .inr (.inr ⟨k, by omega, hc, a⟩)
          · rintro (a | a | ⟨t, b, c, d⟩)
            · exact .inl (.inl a)
            · exact .inl (.inr (.inl a))
            · by_cases e : t = k
              · subst e; exact .inr d
              · exact .inl (.inr (.inr ⟨t, by omega, c, d⟩))
        · rw [if_neg hc]
          refine ⟨i1, fun x => ?_⟩
          rw [i2]
          constructor
          · rintro (a | a | ⟨t, b, c, d⟩)
            · exact .inl a
            · exact .inr (.inl a)
            · exact .inr (.inr ⟨t, by omega, c, d⟩)
          · rintro (a | a | ⟨t, b, c, d⟩)
            · exact .inl a
            · exact .inr (.inl a)
            · by_cases e : t = k
              · subst e; exact absurd c hc
              · exact .inr (.inr ⟨t, by omega, c, d⟩)
    rw [e1]
    obtain ⟨k1, k2⟩ := key p.length (Nat.le_refl _)
    refine ⟨k1, fun x => ?_⟩
    rw [k2]; rfl
theorem ends_same {p : List (List PO)} (hc : echF p = 0) : OkE (endsN p) ∧ OkE (endsH p) ∧ ∀ x, x ∈ endsN p ↔ x ∈ endsH p := by
  obtain ⟨hp, h10⟩ := ech_ok hc
  have h0 : sumAt p (stK p []).at' = ([] : Ks).length := (root_ok hp).sum
  have o0 : OkE [] := ⟨List.nodup_nil, fun x hx => by cases hx⟩
  obtain ⟨a1, a2, a3, a4, _⟩ := fromN_is hp 12 [] [] [] h0 (by simp only [List.length_nil]; omega) Cn.first o0 (fun t ht => by cases ht)
  obtain ⟨b1, b2⟩ := walkE_is hp 12 [] (firstG p) [] (GOK.first hp) Cn.first o0
  refine ⟨a1, b1, fun x => ?_⟩
  have b2 : x ∈ endsH p ↔ x ∈ [] ∨ EndS p 12 (stK p []) x := b2 x
  rw [b2]
  constructor
  · intro hx
    rcases a3 x hx with h | h
    · cases h
    · exact .inr h
  · rintro (h | h)
    · cases h
    · exact a4 x h
def insS (e : En) : List En → List En
  | [] => [e]
  | y :: r => if lessE y e = true then y :: insS e r else e :: y :: r
def sortS : List En → List En
  | [] => []
  | x :: r => insS x (sortS r)
theorem insS_mem (e x : En) : ∀ l : List En, x ∈ insS e l ↔ x = e ∨ x ∈ l
  | [] => by simp [insS]
  | y :: r => by
    rw [insS]
    split
    · simp only [List.mem_cons, insS_mem e x r]
      constructor
      · rintro (a | a | a)
        · exact .inr (.inl a)
        · exact .inl a
        · exact .inr (.inr a)
      · rintro (a | a | a)
        · exact .inr (.inl a)
        · exact .inl a
        · exact .inr (.inr a)
    · simp only [List.mem_cons]
theorem insS_len (e : En) : ∀ l : List En, (insS e l).length = l.length + 1
  | [] => rfl
  | y :: r => by
    rw [insS]
    split
    · simp [insS_len e r]
    · simp
theorem insS_srt {e : En} : ∀ {l : List En}, Srt l → (∀ y ∈ l, lessE y e = true ∨ lessE e y = true) → Srt (insS e l)
  | [], _, _ => by simp [insS, Srt]
  | y :: r, h, ht => by
    obtain ⟨p1, p2⟩ := List.pairwise_cons.1 h
    rw [insS]
    split
    · rename_i hy
      refine List.pairwise_cons.2 ⟨fun z hz => ?_, insS_srt p2 fun z hz => ht z (List.mem_cons_of_mem _ hz)⟩
      rcases (insS_mem e z r).1 hz with rfl | hz
      · exact hy
      · exact p1 z hz
    · rename_i hy
      have he : lessE e y = true := by
        rcases ht y List.mem_cons_self with a | a
        · exact absurd a hy
        · exact a
      refine List.pairwise_cons.2 ⟨fun z hz => ?_, h⟩
      rcases List.mem_cons.1 hz with rfl | hz
      · exact he
      · exact lessE_trans he (p1 z hz)
theorem sortS_mem (x : En) : ∀ l : List En, x ∈ sortS l ↔ x ∈ l
  | [] => Iff.rfl
  | y :: r => by rw [sortS, insS_mem, sortS_mem x r, List.mem_cons]
theorem sortS_len : ∀ l : List En, (sortS l).length = l.length
  | [] => rfl
  | y :: r => by rw [sortS, insS_len, sortS_len r]; rfl
theorem sortS_srt : ∀ {l : List En}, TotE l → Srt (sortS l)
  | [], _ => List.Pairwise.nil
  | y :: r, h => by
    obtain ⟨n1, n2⟩ := List.nodup_cons.1 h.1
    refine insS_srt (sortS_srt ⟨n2, fun a ha b hb => h.2 a (List.mem_cons_of_mem _ ha) b (List.mem_cons_of_mem _ hb)⟩) fun z hz => ?_
    have hz := (sortS_mem z r).1 hz
    exact h.2 z (List.mem_cons_of_mem _ hz) y List.mem_cons_self fun e => n1 (e ▸ hz)
end Go.Proofs.Ytgcbhanfhnianaa.EvM
