/- What runs tell may be. Conditions: none. -/
import Derived.Test.YtgcbhanfhnianaaProgQ
import Derived.Test.YtgcbhanfhnianaaTopE
set_option linter.unusedSimpArgs false
set_option linter.unusedVariables false
open Go Go.Sx Go.Proofs
namespace Go.Proofs.Ytgcbhanfhnianaa.Tp
open Go.Proofs.Ytgcbhanfhnianaa.D Go.Proofs.Ytgcbhanfhnianaa.Tr Go.Proofs.Ytgcbhanfhnianaa.Pg Go.Proofs.Ytgcbhanfhnianaa.Rn
structure Does (p : List (List PO)) (s : Sta) (n : Nat) (o : PO) : Prop where
  lt : n < p.length
  b : s.begun n = true
  a0 : 0 ≤ s.at' n
  a : s.at' n < ((p.getD n []).length : Int)
  op : o = (p.getD n []).getD (s.at' n).toNat dOp.dft
  k4 : o.kind = 4 → s.owner o.obj.toNat = 0
  k7 : o.kind = 7 → o.obj < p.length ∧ o.obj ≠ n ∧ s.begun o.obj.toNat = true ∧ s.at' o.obj.toNat = ((p.getD o.obj.toNat []).length : Int)
  o0 : 0 ≤ o.obj
  o1 : o.obj < bnd o.kind
theorem pick_cases {p : List (List PO)} (hp : progC badP p = 0) {s : Sta} (hf : Fit p s.at') (t : Int) : (pickS p s t = s ∧ pickE p s t = []) ∨
    ∃ n o, Does p s n o ∧ pickS p s t = stF s p n o ∧ pickE p s t = if evK s p n o = 0 then [] else [⟨evK s p n o, n, o.obj⟩] := by
  unfold pickS pickE
  cases hx : nextF s p t with
  | none => exact .inl ⟨rfl, rfl⟩
  | some y =>
    obtain ⟨l, i⟩ := y
    obtain ⟨n, rfl, h1, h2, h3, h4, h5⟩ := next_some hf hx
    simp only [Int.toNat_natCast]
    by_cases hc : canF s p n = true
    · refine .inr ⟨n, l.getD i dOp.dft, ?_, by rw [if_pos hc], ?_⟩
      · have ho := op_ok hp h1 (i := i) (by rw [← h3]; exact h5)
        rw [← h3] at ho
        rw [canF, hx] at hc
        simp only at hc
        refine ⟨h1, h2, by omega, by rw [h4, ← h3]; omega, by rw [h4, h3, Int.toNat_natCast], fun k4 => ?_, fun k7 => ?_, ho.1, ho.2⟩
        · rw [if_pos k4] at hc; simpa using hc
        · rw [if_neg (by omega), if_pos k7] at hc
          simp only [Bool.and_eq_true, decide_eq_true_eq, Bool.not_eq_true', decide_eq_false_iff_not] at hc
          exact ⟨hc.1.1.1, hc.1.1.2, hc.1.2, hc.2⟩
      · by_cases hz : evK s p n (l.getD i dOp.dft) = 0
        · rw [if_neg (fun hh => hh.2 hz), if_pos hz]
        · rw [if_pos ⟨hc, hz⟩, if_neg hz, evE, if_neg hz]
    · exact .inl ⟨by rw [if_neg hc], by rw [if_neg (fun hh => hc hh.1)]⟩
theorem ev_kind {p : List (List PO)} {s : Sta} {n : Nat} {o : PO} (h : Does p s n o) (hz : evK s p n o ≠ 0) :
    (evK s p n o = kindM o.kind ∧ kindM o.kind ≠ 0) ∧ (o.kind = 5 → s.owner o.obj.toNat = (n : Int) + 1) ∧ (o.kind = 6 → o.obj < p.length ∧ s.begun o.obj.toNat = false) := by
  have hb := bnd_kind ⟨h.o0, h.o1⟩
  unfold evK at hz ⊢
  unfold kindM
  rcases hb with k | k | k | k | k | k | k | k | k <;> simp only [k, Int.reduceEq, if_true, if_false] at hz ⊢ <;> first | (exact absurd rfl hz) | (split at hz <;> first | (exact absurd rfl hz) | simp_all) | simp
theorem checkL_ok {l : List Ev} : ∀ (r : List Ev) (i : Nat), l.drop i = r → (∀ j, i ≤ j → j < l.length → wrongR (l.take j) (l.getD j dEv.dft) = 0) → (checkL l r i).2 = 0
  | [], _, _, _ => rfl
  | e :: r, i, hr, h => by
    have hi : i < l.length := by
      rcases Nat.lt_or_ge i l.length with h1 | h1
      · exact h1
      · rw [List.drop_eq_nil_of_le h1] at hr; cases hr
    have hd := drop_getD dEv.dft hi
    rw [hr] at hd
    obtain ⟨rfl, hr'⟩ := List.cons.inj hd
    rw [checkL, if_pos (h i (Nat.le_refl _) hi)]
    exact checkL_ok r (i + 1) hr'.symm fun j h1 h2 => h j (by omega) h2
structure OkT (p : List (List PO)) (s : Sta) (l : List Ev) : Prop where
  w : ∀ j, j < l.length → wrongR (l.take j) (l.getD j dEv.dft) = 0
  j : ∀ t : Nat, didB l 6 t = true → t < p.length ∧ s.at' t = ((p.getD t []).length : Int)
  n : (l.length : Int) ≤ s1 (fun t => (s.at' t).toNat) p.length
theorem s1_upd {f : Nat → Int} {n : Nat} : ∀ {m : Nat}, n < m → 0 ≤ f n → s1 (fun t => (Tr.upd f n (f n + 1) t).toNat) m = s1 (fun t => (f t).toNat) m + 1
  | 0, h, _ => by omega
  | m + 1, h, h0 => by
    rw [s1, s1]
    by_cases e : n = m
    · subst e
      have : s1 (fun t => (Tr.upd f n (f n + 1) t).toNat) n = s1 (fun t => (f t).toNat) n := s1_congr fun i hi => by
        show (Tr.upd f n (f n + 1) i).toNat = _
        rw [Tr.upd, if_neg (by omega)]
      rw [this]
      show _ + (Tr.upd f n (f n + 1) n).toNat = _
      rw [Tr.upd, if_pos rfl]; omega
    · rw [s1_upd (by omega) h0]
      show _ + (Tr.upd f n (f n + 1) m).toNat = _
      rw [Tr.upd, if_neg (by omega)]; omega
theorem okT_run {p : List (List PO)} (hp : progC badP p = 0) {picks : List Int} : ∀ i, OkT p (runS p picks i) (runE p picks i)
  | 0 => ⟨fun j h => absurd h (Nat.not_lt_zero _), fun t h => (by cases h), by simp [runE]⟩
  | i + 1 => by
    obtain ⟨hw, hj, hn⟩ := okT_run hp (picks := picks) i
    obtain ⟨hS, hg⟩ := run_same hp (picks := picks) i
    have hf := fit_run hp (picks := picks) i
    have hS' : ∀ t : Nat, (runS p picks i).begun t = begB (runE p picks i) t := fun t => by rw [← hg]; exact hS.begun t
    have hO' : ∀ k : Nat, (runS p picks i).owner k = Tr.ownR (runE p picks i) k + 1 := fun k => by rw [← hg]; exact hS.owner k
    rw [runS, runE]
    rcases pick_cases hp hf (picks.getD i 0) with ⟨h1, h2⟩ | ⟨n, o, hd, h1, h2⟩
    · rw [h1, h2, List.append_nil]; exact ⟨hw, hj, hn⟩
    · rw [h1, h2]
      generalize runS p picks i = s at *
      generalize runE p picks i = l at *
      have hsum : s1 (fun t => ((stF s p n o).at' t).toNat) p.length = s1 (fun t => (s.at' t).toNat) p.length + 1 := s1_upd hd.lt hd.a0
      have hat : ∀ t : Nat, s.at' t = ((p.getD t []).length : Int) → (stF s p n o).at' t = ((p.getD t []).length : Int) := fun t ht => by
        show Tr.upd s.at' n (s.at' n + 1) t = _
        rw [Tr.upd, if_neg (fun e => by subst e; have := hd.a; omega)]; exact ht
      by_cases hz : evK s p n o = 0
      · rw [if_pos hz, List.append_nil]
        exact ⟨hw, fun t ht => ⟨(hj t ht).1, hat t (hj t ht).2⟩, by rw [hsum]; omega⟩
      · rw [if_neg hz]
        obtain ⟨⟨e1, e2⟩, e5, e6⟩ := ev_kind hd hz
        have hb := bnd_kind ⟨hd.o0, hd.o1⟩
        have hn6 := hf.n
        have hdn := hd.lt
        refine ⟨fun j hj' => ?_, fun t ht => ?_, by rw [hsum, List.length_append]; simp only [List.length_cons, List.length_nil]; omega⟩
        · rw [List.length_append] at hj'
          by_cases e : j < l.length
          · rw [List.take_append_of_le_length (Nat.le_of_lt e)]
            have : (l ++ [(⟨evK s p n o, n, o.obj⟩ : Ev)]).getD j dEv.dft = l.getD j dEv.dft := by simp [List.getD, List.getElem?_append_left e]
            rw [this]; exact hw j e
          · have ej : j = l.length := by simp at hj'; omega
            subst ej
            have : (l ++ [(⟨evK s p n o, n, o.obj⟩ : Ev)]).getD l.length dEv.dft = ⟨evK s p n o, n, o.obj⟩ := by simp [List.getD]
            rw [this, List.take_append_of_le_length (Nat.le_refl _), List.take_length, e1]
            have hbeg : begB l n = true := by rw [← hS']; exact hd.b
            have hdid : didB l 6 n = false := by
              cases h : didB l 6 n with
              | false => rfl
              | true => have := (hj n h).2; have := hd.a; omega
            have hbo := hS' o.obj.toNat
            have hoo := hO' o.obj.toNat
            have h0 := hd.o0
            have h1 := hd.o1
            rw [show ((o.obj.toNat : Nat) : Int) = o.obj by omega] at hbo hoo
            have hev : isEv ⟨kindM o.kind, n, o.obj⟩ = true := by
              rw [isEv_iff]
              refine ⟨by show (0 : Int) ≤ n; omega, by show (n : Int) < 6; omega, h0, ?_⟩
              show o.obj < many (kindM o.kind)
              rcases hb with k | k | k | k | k | k | k | k | k <;> rw [k] at h1 e2 ⊢ <;> first | exact absurd rfl e2 | exact h1
            unfold wrongR
            rw [if_neg (by rw [hev]; decide), if_neg (by show ¬ (!begB l n || didB l 6 n) = true; rw [hbeg, hdid]; decide)]
            show (if kindM o.kind = 3 then (if 0 ≤ Tr.ownR l o.obj then (9 : Int) else 0) else if kindM o.kind = 4 then (if Tr.ownR l o.obj ≠ n then 10 else 0) else if kindM o.kind = 5 then (if begB l o.obj = true then 8 else 0) else
              if kindM o.kind = 6 then (if (!begB l o.obj || decide (o.obj = n)) = true then 7 else 0) else 0) = 0
            rcases hb with k | k | k | k | k | k | k | k | k
            · rw [k]; rfl
            · rw [k]; rfl
            · rw [k] at e2; exact absurd rfl e2
            · have h4 := hd.k4 k
              rw [k, show kindM 4 = 3 from rfl, if_pos rfl, if_neg (by omega)]
            · have h5 := e5 k
              rw [k, show kindM 5 = 4 from rfl, if_neg (by decide), if_pos rfl, if_neg (by omega)]
            · have h6 := (e6 k).2
              rw [k, show kindM 6 = 5 from rfl, if_neg (by decide), if_neg (by decide), if_pos rfl, if_neg (by rw [← hbo, h6]; decide)]
            · obtain ⟨_, h7, h8, _⟩ := hd.k7 k
              rw [k, show kindM 7 = 6 from rfl, if_neg (by decide), if_neg (by decide), if_neg (by decide), if_pos rfl, if_neg (by rw [← hbo, h8, decide_eq_false h7]; decide)]
            · rw [k]; rfl
            · rw [k]; rfl
        · simp only [didB, List.any_append, List.any_cons, List.any_nil, Bool.or_false, Bool.or_eq_true, Bool.and_eq_true, decide_eq_true_eq] at ht
          rcases ht with ht | ⟨k6, ko⟩
          · have := hj t (by simpa [didB] using ht)
            exact ⟨this.1, hat t this.2⟩
          · rw [e1] at k6
            have k7 : o.kind = 7 := by
              rcases hb with k | k | k | k | k | k | k | k | k <;> rw [k] at k6 <;> first | exact k | exact absurd k6 (by decide)
            obtain ⟨h1, _, _, h4⟩ := hd.k7 k7
            have : o.obj.toNat = t := by omega
            rw [this] at h4
            exact ⟨by omega, hat t h4⟩
theorem s1_le {f : Nat → Nat} {b : Nat} : ∀ {n : Nat}, (∀ i, i < n → f i ≤ b) → s1 f n ≤ n * b
  | 0, _ => by simp [s1]
  | n + 1, h => by
    have h1 := s1_le (f := f) (b := b) (n := n) fun i hi => h i (by omega)
    have h2 := h n (Nat.lt_succ_self _)
    rw [s1, Nat.add_mul]; omega
theorem run_ok {p : List (List PO)} (hp : progC badP p = 0) (picks : List Int) (i : Nat) : (checkR (runE p picks i)).2 = 0 := by
  obtain ⟨hw, _, hn⟩ := okT_run hp (picks := picks) i
  have hf := fit_run hp (picks := picks) i
  have h12 : s1 (fun t => ((runS p picks i).at' t).toNat) p.length ≤ p.length * 12 := s1_le fun t ht => by
    have h1 := hf.at0 t ht
    have h2 := (good_of hp ht).1
    show ((runS p picks i).at' t).toNat ≤ 12
    omega
  have hn6 := hf.n
  have : p.length * 12 ≤ 6 * 12 := Nat.mul_le_mul_right _ hn6
  rw [checkR, if_neg (by omega)]
  exact checkL_ok _ 0 rfl fun j _ hj => hw j hj
end Go.Proofs.Ytgcbhanfhnianaa.Tp
