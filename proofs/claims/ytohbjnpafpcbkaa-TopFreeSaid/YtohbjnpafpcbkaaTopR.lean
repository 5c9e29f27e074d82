/- Traces that are the same but for order. Conditions: none. -/
import Derived.Test.YtohbjnpafpcbkaaSwapA
import Derived.Test.YtohbjnpafpcbkaaBase
import Derived.Test.YtohbjnpafpcbkaaRows
import Derived.WalkKit
import Derived.Test.YtohbjnpafpcbkaaSx41
import Derived.Shelf.SlicesE.Kit
import Derived.Shelf.RegionOpenPlain
import Derived.Deep.LoopGhost
import Derived.Deep.RegionLaw
import Derived.Lib.Walk
import Derived.Sort.WalkB12
import Derived.Lib.SliceRun
import Derived.Test.YtohbjnpafpcbkaaTraceR
import Derived.Test.YtohbjnpafpcbkaaFullQ
import Derived.Test.YtohbjnpafpcbkaaProgQ
section
set_option linter.unusedSimpArgs false
set_option linter.unusedVariables false
open Go Go.Sx Go.Proofs
namespace Go.Proofs.Ytohbjnpafpcbkaa.Tp
open Go.Proofs.Ytohbjnpafpcbkaa.D Go.Proofs.Ytohbjnpafpcbkaa.Tr Go.Proofs.Ytohbjnpafpcbkaa.Fu Go.Proofs.Ytohbjnpafpcbkaa.Sw Go.Proofs.Ytohbjnpafpcbkaa.Ah Go.Proofs.Ytohbjnpafpcbkaa.Ps Go.Proofs.Ytohbjnpafpcbkaa.Od Go.Proofs.Ytohbjnpafpcbkaa.St Go.Proofs.Ytohbjnpafpcbkaa.Rc
/-- The same but for order: neighbours that are apart change places. -/
inductive Eqv : List Ev → List Ev → Prop
  | refl (l : List Ev) : Eqv l l
  | swap {a b : Ev} (xs ys : List Ev) : apartB a b = true → Eqv (xs ++ a :: b :: ys) (xs ++ b :: a :: ys)
  | trans {l m n : List Ev} : Eqv l m → Eqv m n → Eqv l n
theorem Eqv.cons {l m : List Ev} (x : Ev) (h : Eqv l m) : Eqv (x :: l) (x :: m) := by
  induction h with
  | refl l => exact .refl _
  | swap xs ys h => exact .swap (x :: xs) ys h
  | trans _ _ h1 h2 => exact .trans h1 h2
theorem Eqv.front {e : Ev} {ys : List Ev} : ∀ {xs : List Ev}, (∀ x ∈ xs, apartB x e = true) → Eqv (xs ++ e :: ys) (e :: (xs ++ ys))
  | [], _ => .refl _
  | x :: xs, h => by
    have h1 := Eqv.front (e := e) (ys := ys) (xs := xs) fun y hy => h y (List.mem_cons_of_mem _ hy)
    exact .trans (h1.cons x) (.swap [] (xs ++ ys) (h x (List.mem_cons_self ..)))
/-- What swaps keep, all of them keep. -/
theorem Eqv.keep {β : Type} (φ : List Ev → β) (P : Ev → Prop) (hφ : ∀ xs ys a b, (∀ e ∈ xs ++ a :: b :: ys, P e) → apartB a b = true → φ (xs ++ a :: b :: ys) = φ (xs ++ b :: a :: ys)) {l m : List Ev} (h : Eqv l m) :
    (∀ e ∈ l, P e) → φ l = φ m ∧ ∀ e ∈ m, P e := by
  induction h with
  | refl l => exact fun h => ⟨rfl, h⟩
  | swap xs ys ha => exact fun h => ⟨hφ _ _ _ _ h ha, fun e he => h e (by
      simp only [List.mem_append, List.mem_cons] at he ⊢
      rcases he with h | h | h | h
      · exact .inl h
      · exact .inr (.inr (.inl h))
      · exact .inr (.inl h)
      · exact .inr (.inr (.inr h)))⟩
  | trans _ _ h1 h2 => exact fun h => ⟨(h1 h).1.trans (h2 (h1 h).2).1, (h2 (h1 h).2).2⟩
/-- What is apart is neither direct nor a race. -/
theorem apart_dir {a b : Ev} (h : apartB a b = true) : a.thr ≠ b.thr ∧ dirP a b = false ∧ dirP b a = false ∧ ¬ (isAcc a = true ∧ isAcc b = true ∧ a.obj = b.obj ∧ ¬ (a.kind = 1 ∧ b.kind = 1)) := by
  unfold apartB at h
  split at h
  · cases h
  · rename_i h1
    simp only [Bool.or_eq_true, decide_eq_true_eq, not_or] at h1
    obtain ⟨⟨h1, h2⟩, h3⟩ := h1
    simp only [touchB, Bool.and_eq_true, Bool.or_eq_true, decide_eq_true_eq, not_and] at h2 h3
    have h1' := Ne.symm h1
    refine ⟨h1, ?_, ?_, ?_⟩
    · rw [Bool.eq_false_iff]
      intro hd
      simp only [dirP, Bool.or_eq_true, Bool.and_eq_true, decide_eq_true_eq] at hd
      rcases hd with ((((hd | hd) | hd) | hd) | hd) | hd
      · exact h1 hd
      · obtain ⟨⟨k1, k2⟩, k3⟩ := hd
        simp [k1, k2, k3, grp] at h
      · exact h2 (.inl hd.1) hd.2
      · exact h3 (.inr hd.1) hd.2
      · obtain ⟨⟨k1, k2⟩, k3⟩ := hd
        simp [k1, k2, k3, grp] at h
      · obtain ⟨⟨k1, k2⟩, k3⟩ := hd
        simp [k1, k2, k3, grp] at h
    · rw [Bool.eq_false_iff]
      intro hd
      simp only [dirP, Bool.or_eq_true, Bool.and_eq_true, decide_eq_true_eq] at hd
      rcases hd with ((((hd | hd) | hd) | hd) | hd) | hd
      · exact h1' hd
      · obtain ⟨⟨k1, k2⟩, k3⟩ := hd
        simp [k1, k2, k3, grp] at h
      · exact h3 (.inl hd.1) hd.2
      · exact h2 (.inr hd.1) hd.2
      · obtain ⟨⟨k1, k2⟩, k3⟩ := hd
        simp [k1, k2, k3, grp] at h
      · obtain ⟨⟨k1, k2⟩, k3⟩ := hd
        simp [k1, k2, k3, grp] at h
    · rintro ⟨ka, kb, ko, kn⟩
      simp only [isAcc, Bool.or_eq_true, decide_eq_true_eq] at ka kb
      rcases ka with ka | ka <;> rcases kb with kb | kb
      · exact kn ⟨ka, kb⟩
      all_goals simp [ka, kb, ko, grp] at h
/-- What a race is. -/
def RcP (l : List Ev) (i j : Nat) : Prop := i < j ∧ isAcc (at' l i) = true ∧ isAcc (at' l j) = true ∧ (at' l i).obj = (at' l j).obj ∧ ¬ ((at' l i).kind = 1 ∧ (at' l j).kind = 1) ∧ ¬ Ahd l i j
section
variable {xs ys : List Ev} {a b : Ev} (h : apartB a b = true)
include h
end
/-- Sums. -/
def s1 (f : Nat → Nat) : Nat → Nat
  | 0 => 0
  | n + 1 => s1 f n + f n
theorem s1_congr {f g : Nat → Nat} : ∀ {n : Nat}, (∀ i, i < n → f i = g i) → s1 f n = s1 g n
  | 0, _ => rfl
  | n + 1, h => by rw [s1, s1, s1_congr fun i hi => h i (by omega), h n (Nat.lt_succ_self _)]
theorem row_len {l : List Ev} {i : Nat} : ∀ n, (rowC l i n).length = s1 (fun j => if noRace l i j (l.getD i dEv.dft) (l.getD j dEv.dft) = true then 0 else 1) n
  | 0 => rfl
  | n + 1 => by rw [rowC, List.length_append, row_len n, s1]; split <;> rfl
theorem all_len {l : List Ev} : ∀ n, (allC l n).length = s1 (fun i => s1 (fun j => if noRace l i j (l.getD i dEv.dft) (l.getD j dEv.dft) = true then 0 else 1) l.length) n
  | 0 => rfl
  | n + 1 => by rw [allC, List.length_append, all_len n, s1, row_len]
theorem nr_iff {l : List Ev} (hl : ∀ e ∈ l, isEv e = true) {i j : Nat} (hi : i < l.length) (hj : j < l.length) : noRace l i j (at' l i) (at' l j) = false ↔ RcP l i j := by
  have kk : ∀ {i}, i < l.length → 1 ≤ (at' l i).kind ∧ (at' l i).kind ≤ 8 := fun {i} hi => by
    have hm : at' l i ∈ l := by
      show l.getD i dEv.dft ∈ l
      have e : l.getD i dEv.dft = l[i] := by simp [List.getD, hi]
      rw [e]; exact List.getElem_mem ..
    have b := (isEv_iff _).1 (hl _ hm)
    have := b.2.2
    unfold many at this
    repeat' split at this
    all_goals omega
  have ki := kk hi
  have kj := kk hj
  have ha : aheadR l i j = false ↔ ¬ Ahd l i j := by rw [← aheadR_iff (Nat.le_of_lt hj)]; simp
  have hw : IntKind.i64.wrap ((at' l i).kind + (at' l j).kind) = (at' l i).kind + (at' l j).kind := IntWalk.i64_in _ (by omega)
  simp only [noRace, RcP, hw, Bool.or_eq_false_iff, decide_eq_false_iff_not, Bool.not_eq_false', decide_eq_true_eq, ha, isAcc, Bool.or_eq_true]
  constructor
  · rintro ⟨⟨⟨⟨⟨h1, h2⟩, h3⟩, h4⟩, h5⟩, h6⟩
    exact ⟨by omega, by omega, by omega, h4, by omega, h6⟩
  · rintro ⟨h1, h2, h3, h4, h5, h6⟩
    exact ⟨⟨⟨⟨⟨by omega, by omega⟩, by omega⟩, h4⟩, by omega⟩, h6⟩
end Go.Proofs.Ytohbjnpafpcbkaa.Tp
end
section
set_option linter.unusedSimpArgs false
set_option linter.unusedVariables false
open Go Go.Sx Go.Proofs
namespace Go.Proofs.Ytohbjnpafpcbkaa.Tp
open Go.Proofs.Ytohbjnpafpcbkaa.D Go.Proofs.Ytohbjnpafpcbkaa.Tr Go.Proofs.Ytohbjnpafpcbkaa.Pg Go.Proofs.Ytohbjnpafpcbkaa.Rn
/-- What a thread that can does. -/
structure Does (p : List (List PO)) (s : Sta) (n : Nat) (o : PO) : Prop where
  lt : n < p.length
  b : s.begun n = true
  a0 : 0 ≤ s.at' n
  a : s.at' n < ((p.getD n []).length : Int)
  op : o = (p.getD n []).getD (s.at' n).toNat dOp.dft
  k4 : o.kind = 4 → s.owner o.obj.toNat = 0
  k7 : o.kind = 7 → o.obj < p.length ∧ o.obj ≠ n ∧ s.begun o.obj.toNat = true ∧ s.at' o.obj.toNat = ((p.getD o.obj.toNat []).length : Int)
  o0 : 0 ≤ o.obj
  o1 : o.obj < bnd o.kind
theorem pick_cases {p : List (List PO)} (hp : progC badP p = 0) {s : Sta} (hf : Fit p s.at') (t : Int) : (pickS p s t = s ∧ pickE p s t = []) ∨
    ∃ n o, Does p s n o ∧ pickS p s t = stF s p n o ∧ pickE p s t = if evK s p n o = 0 then [] else [⟨evK s p n o, n, o.obj⟩] := by
  unfold pickS pickE
  cases hx : nextF s p t with
  | none => exact .inl ⟨rfl, rfl⟩
  | some y =>
    obtain ⟨l, i⟩ := y
    obtain ⟨n, rfl, h1, h2, h3, h4, h5⟩ := next_some hf hx
    simp only [Int.toNat_natCast]
    by_cases hc : canF s p n = true
    · refine .inr ⟨n, l.getD i dOp.dft, ?_, by rw [if_pos hc], ?_⟩
      · have ho := op_ok hp h1 (i := i) (by rw [← h3]; exact h5)
        rw [← h3] at ho
        rw [canF, hx] at hc
        simp only at hc
        refine ⟨h1, h2, by omega, by rw [h4, ← h3]; omega, by rw [h4, h3, Int.toNat_natCast], fun k4 => ?_, fun k7 => ?_, ho.1, ho.2⟩
        · rw [if_pos k4] at hc; simpa using hc
        · rw [if_neg (by omega), if_pos k7] at hc
          simp only [Bool.and_eq_true, decide_eq_true_eq, Bool.not_eq_true', decide_eq_false_iff_not] at hc
          exact ⟨hc.1.1.1, hc.1.1.2, hc.1.2, hc.2⟩
      · by_cases hz : evK s p n (l.getD i dOp.dft) = 0
        · rw [if_neg (fun hh => hh.2 hz), if_pos hz]
        · rw [if_pos ⟨hc, hz⟩, if_neg hz, evE, if_neg hz]
    · exact .inl ⟨by rw [if_neg hc], by rw [if_neg (fun hh => hc hh.1)]⟩
/-- The kinds of what is told. -/
theorem ev_kind {p : List (List PO)} {s : Sta} {n : Nat} {o : PO} (h : Does p s n o) (hz : evK s p n o ≠ 0) :
    (evK s p n o = kindM o.kind ∧ kindM o.kind ≠ 0) ∧ (o.kind = 5 → s.owner o.obj.toNat = (n : Int) + 1) ∧ (o.kind = 6 → o.obj < p.length ∧ s.begun o.obj.toNat = false) := by
  have hb := bnd_kind ⟨h.o0, h.o1⟩
  unfold evK at hz ⊢
  unfold kindM
  rcases hb with k | k | k | k | k | k | k | k | k <;> simp only [k, Int.reduceEq, if_true, if_false] at hz ⊢ <;> first | (exact absurd rfl hz) | (split at hz <;> first | (exact absurd rfl hz) | simp_all) | simp
theorem checkL_ok {l : List Ev} : ∀ (r : List Ev) (i : Nat), l.drop i = r → (∀ j, i ≤ j → j < l.length → wrongR (l.take j) (l.getD j dEv.dft) = 0) → (checkL l r i).2 = 0
  | [], _, _, _ => rfl
  | e :: r, i, hr, h => by
    have hi : i < l.length := by
      rcases Nat.lt_or_ge i l.length with h1 | h1
      · exact h1
      · rw [List.drop_eq_nil_of_le h1] at hr; cases hr
    have hd := drop_getD dEv.dft hi
    rw [hr] at hd
    obtain ⟨rfl, hr'⟩ := List.cons.inj hd
    rw [checkL, if_pos (h i (Nat.le_refl _) hi)]
    exact checkL_ok r (i + 1) hr'.symm fun j h1 h2 => h j (by omega) h2
/-- What has been told so far may be, and a thread that was joined is over. -/
structure OkT (p : List (List PO)) (s : Sta) (l : List Ev) : Prop where
  w : ∀ j, j < l.length → wrongR (l.take j) (l.getD j dEv.dft) = 0
  j : ∀ t : Nat, didB l 6 t = true → t < p.length ∧ s.at' t = ((p.getD t []).length : Int)
  n : (l.length : Int) ≤ s1 (fun t => (s.at' t).toNat) p.length
theorem s1_upd {f : Nat → Int} {n : Nat} : ∀ {m : Nat}, n < m → 0 ≤ f n → s1 (fun t => (Tr.upd f n (f n + 1) t).toNat) m = s1 (fun t => (f t).toNat) m + 1
  | 0, h, _ => by omega
  | m + 1, h, h0 => by
    rw [s1, s1]
    by_cases e : n = m
    · subst e
      have : s1 (fun t => (Tr.upd f n (f n + 1) t).toNat) n = s1 (fun t => (f t).toNat) n := s1_congr fun i hi => by
        show (Tr.upd f n (f n + 1) i).toNat = _
        rw [Tr.upd, if_neg (by omega)]
      rw [this]
      show _ + (Tr.upd f n (f n + 1) n).toNat = _
      rw [Tr.upd, if_pos rfl]; omega
    · rw [s1_upd (by omega) h0]
      show _ + (Tr.upd f n (f n + 1) m).toNat = _
      rw [Tr.upd, if_neg (by omega)]; omega
theorem okT_run {p : List (List PO)} (hp : progC badP p = 0) {picks : List Int} : ∀ i, OkT p (runS p picks i) (runE p picks i)
  | 0 => ⟨fun j h => absurd h (Nat.not_lt_zero _), fun t h => (by cases h), by simp [runE]⟩
  | i + 1 => by
    obtain ⟨hw, hj, hn⟩ := okT_run hp (picks := picks) i
    obtain ⟨hS, hg⟩ := run_same hp (picks := picks) i
    have hf := fit_run hp (picks := picks) i
    have hS' : ∀ t : Nat, (runS p picks i).begun t = begB (runE p picks i) t := fun t => by rw [← hg]; exact hS.begun t
    have hO' : ∀ k : Nat, (runS p picks i).owner k = Tr.ownR (runE p picks i) k + 1 := fun k => by rw [← hg]; exact hS.owner k
    rw [runS, runE]
    rcases pick_cases hp hf (picks.getD i 0) with ⟨h1, h2⟩ | ⟨n, o, hd, h1, h2⟩
    · rw [h1, h2, List.append_nil]; exact ⟨hw, hj, hn⟩
    · rw [h1, h2]
      generalize runS p picks i = s at *
      generalize runE p picks i = l at *
      have hsum : s1 (fun t => ((stF s p n o).at' t).toNat) p.length = s1 (fun t => (s.at' t).toNat) p.length + 1 := s1_upd hd.lt hd.a0
      have hat : ∀ t : Nat, s.at' t = ((p.getD t []).length : Int) → (stF s p n o).at' t = ((p.getD t []).length : Int) := fun t ht => by
        show Tr.upd s.at' n (s.at' n + 1) t = _
        rw [Tr.upd, if_neg (fun e => by subst e; have := hd.a; omega)]; exact ht
      by_cases hz : evK s p n o = 0
      · rw [if_pos hz, List.append_nil]
        exact ⟨hw, fun t ht => ⟨(hj t ht).1, hat t (hj t ht).2⟩, by rw [hsum]; omega⟩
      · rw [if_neg hz]
        obtain ⟨⟨e1, e2⟩, e5, e6⟩ := ev_kind hd hz
        have hb := bnd_kind ⟨hd.o0, hd.o1⟩
        have hn6 := hf.n
        have hdn := hd.lt
        refine ⟨fun j hj' => ?_, fun t ht => ?_, by rw [hsum, List.length_append]; simp only [List.length_cons, List.length_nil]; omega⟩
        · rw [List.length_append] at hj'
          by_cases e : j < l.length
          · rw [List.take_append_of_le_length (Nat.le_of_lt e)]
            have : (l ++ [(⟨evK s p n o, n, o.obj⟩ : Ev)]).getD j dEv.dft = l.getD j dEv.dft := by simp [List.getD, List.getElem?_append_left e]
            rw [this]; exact hw j e
          · have ej : j = l.length := by simp at hj'; omega
            subst ej
            have : (l ++ [(⟨evK s p n o, n, o.obj⟩ : Ev)]).getD l.length dEv.dft = ⟨evK s p n o, n, o.obj⟩ := by simp [List.getD]
            rw [this, List.take_append_of_le_length (Nat.le_refl _), List.take_length, e1]
            have hbeg : begB l n = true := by rw [← hS']; exact hd.b
            have hdid : didB l 6 n = false := by
              cases h : didB l 6 n with
              | false => rfl
              | true => have := (hj n h).2; have := hd.a; omega
            have hbo := hS' o.obj.toNat
            have hoo := hO' o.obj.toNat
            have h0 := hd.o0
            have h1 := hd.o1
            rw [show ((o.obj.toNat : Nat) : Int) = o.obj by omega] at hbo hoo
            have hev : isEv ⟨kindM o.kind, n, o.obj⟩ = true := by
              rw [isEv_iff]
              refine ⟨by show (0 : Int) ≤ n; omega, by show (n : Int) < 6; omega, h0, ?_⟩
              show o.obj < many (kindM o.kind)
              rcases hb with k | k | k | k | k | k | k | k | k <;> rw [k] at h1 e2 ⊢ <;> first | exact absurd rfl e2 | exact h1
            unfold wrongR
            rw [if_neg (by rw [hev]; decide), if_neg (by show ¬ (!begB l n || didB l 6 n) = true; rw [hbeg, hdid]; decide)]
            show (if kindM o.kind = 3 then (if 0 ≤ Tr.ownR l o.obj then (9 : Int) else 0) else if kindM o.kind = 4 then (if Tr.ownR l o.obj ≠ n then 10 else 0) else if kindM o.kind = 5 then (if begB l o.obj = true then 8 else 0) else
              if kindM o.kind = 6 then (if (!begB l o.obj || decide (o.obj = n)) = true then 7 else 0) else 0) = 0
            rcases hb with k | k | k | k | k | k | k | k | k
            · rw [k]; rfl
            · rw [k]; rfl
            · rw [k] at e2; exact absurd rfl e2
            · have h4 := hd.k4 k
              rw [k, show kindM 4 = 3 from rfl, if_pos rfl, if_neg (by omega)]
            · have h5 := e5 k
              rw [k, show kindM 5 = 4 from rfl, if_neg (by decide), if_pos rfl, if_neg (by omega)]
            · have h6 := (e6 k).2
              rw [k, show kindM 6 = 5 from rfl, if_neg (by decide), if_neg (by decide), if_pos rfl, if_neg (by rw [← hbo, h6]; decide)]
            · obtain ⟨_, h7, h8, _⟩ := hd.k7 k
              rw [k, show kindM 7 = 6 from rfl, if_neg (by decide), if_neg (by decide), if_neg (by decide), if_pos rfl, if_neg (by rw [← hbo, h8, decide_eq_false h7]; decide)]
            · rw [k]; rfl
            · rw [k]; rfl
        · simp only [didB, List.any_append, List.any_cons, List.any_nil, Bool.or_false, Bool.or_eq_true, Bool.and_eq_true, decide_eq_true_eq] at ht
          rcases ht with ht | ⟨k6, ko⟩
          · have := hj t (by simpa [didB] using ht)
            exact ⟨this.1, hat t this.2⟩
          · rw [e1] at k6
            have k7 : o.kind = 7 := by
              rcases hb with k | k | k | k | k | k | k | k | k <;> rw [k] at k6 <;> first | exact k | exact absurd k6 (by decide)
            obtain ⟨h1, _, _, h4⟩ := hd.k7 k7
            have : o.obj.toNat = t := by omega
            rw [this] at h4
            exact ⟨by omega, hat t h4⟩
theorem s1_le {f : Nat → Nat} {b : Nat} : ∀ {n : Nat}, (∀ i, i < n → f i ≤ b) → s1 f n ≤ n * b
  | 0, _ => by simp [s1]
  | n + 1, h => by
    have h1 := s1_le (f := f) (b := b) (n := n) fun i hi => h i (by omega)
    have h2 := h n (Nat.lt_succ_self _)
    rw [s1, Nat.add_mul]; omega
/-- **What a run tells may be.** -/
theorem run_ok {p : List (List PO)} (hp : progC badP p = 0) (picks : List Int) (i : Nat) : (checkR (runE p picks i)).2 = 0 := by
  obtain ⟨hw, _, hn⟩ := okT_run hp (picks := picks) i
  have hf := fit_run hp (picks := picks) i
  have h12 : s1 (fun t => ((runS p picks i).at' t).toNat) p.length ≤ p.length * 12 := s1_le fun t ht => by
    have h1 := hf.at0 t ht
    have h2 := (good_of hp ht).1
    show ((runS p picks i).at' t).toNat ≤ 12
    omega
  have hn6 := hf.n
  have : p.length * 12 ≤ 6 * 12 := Nat.mul_le_mul_right _ hn6
  rw [checkR, if_neg (by omega)]
  exact checkL_ok _ 0 rfl fun j _ hj => hw j hj
end Go.Proofs.Ytohbjnpafpcbkaa.Tp
end
section
set_option linter.unusedSimpArgs false
set_option linter.unusedVariables false
open Go Go.Sx Go.Proofs
namespace Go.Proofs.Ytohbjnpafpcbkaa.Tp
open Go.Proofs.Ytohbjnpafpcbkaa.D Go.Proofs.Ytohbjnpafpcbkaa.Tr Go.Proofs.Ytohbjnpafpcbkaa.Pg Go.Proofs.Ytohbjnpafpcbkaa.Rn Go.Proofs.Ytohbjnpafpcbkaa.Sw
/-- Does an op tell this? -/
def mt (o : PO) (e : Ev) : Bool := decide (kindM o.kind = e.kind) && decide (o.obj = e.obj)
def add1 (h : Int) (o : PO) : Int := if o.kind = 3 then IntKind.i64.wrap (h + o.n) else h
/-- On to the op that told it. -/
def scan (e : Ev) : List PO → Int → List PO × Int
  | [], h => ([], h)
  | o :: r, h => if mt o e = true then (r, h) else scan e r (add1 h o)
structure Rp where
  rem : Nat → List PO
  has : Nat → Int
  mem : Nat → Int
  vol : Nat → Int
def effF (e : Ev) (d : Rp) : Rp := ⟨Tr.upd d.rem e.thr.toNat (scan e (d.rem e.thr.toNat) (d.has e.thr.toNat)).1,
  Tr.upd d.has e.thr.toNat (if e.kind = 1 then d.mem e.obj.toNat else if e.kind = 7 then d.vol e.obj.toNat else (scan e (d.rem e.thr.toNat) (d.has e.thr.toNat)).2),
  if e.kind = 2 then Tr.upd d.mem e.obj.toNat (scan e (d.rem e.thr.toNat) (d.has e.thr.toNat)).2 else d.mem,
  if e.kind = 8 then Tr.upd d.vol e.obj.toNat (scan e (d.rem e.thr.toNat) (d.has e.thr.toNat)).2 else d.vol⟩
def firstR (p : List (List PO)) : Rp := ⟨fun t => p.getD t [], fun _ => 0, fun _ => 0, fun _ => 0⟩
def replay (p : List (List PO)) (l : List Ev) : Rp := l.foldl (fun d e => effF e d) (firstR p)
theorem upd_ne {α : Type} {f : Nat → α} {i k : Nat} {v : α} (h : k ≠ i) : Tr.upd f i v k = f k := if_neg h
theorem upd_at {α : Type} {f : Nat → α} {i : Nat} {v : α} : Tr.upd f i v i = v := if_pos rfl
theorem upd_comm {α : Type} {f : Nat → α} {i k : Nat} {v w : α} (h : k ≠ i) : Tr.upd (Tr.upd f i v) k w = Tr.upd (Tr.upd f k w) i v := by
  funext x
  unfold Tr.upd
  repeat' split
  all_goals first | rfl | omega
/-- What is apart may come in either order. -/
theorem eff_comm {a b : Ev} (h : apartB a b = true) (ha : isEv a = true) (hb : isEv b = true) (d : Rp) : effF b (effF a d) = effF a (effF b d) := by
  rw [isEv_iff] at ha hb
  have hne : a.thr.toNat ≠ b.thr.toNat := by have := (apart_dir h).1; omega
  have ho : ∀ g : Int, g ≠ 0 → (grp a.kind).1 = g → (grp b.kind).1 = g → ((grp a.kind).2 && (grp b.kind).2) = false → a.obj.toNat ≠ b.obj.toNat := by
    intro g g0 ga gb gm ho
    have ho : a.obj = b.obj := by omega
    unfold apartB at h
    split at h
    · cases h
    · rw [ga, gb, gm, ho] at h
      simp [g0] at h
  have e1 : ∀ (f : Nat → List PO) v, Tr.upd f a.thr.toNat v b.thr.toNat = f b.thr.toNat := fun f v => upd_ne hne.symm
  have e2 : ∀ (f : Nat → List PO) v, Tr.upd f b.thr.toNat v a.thr.toNat = f a.thr.toNat := fun f v => upd_ne hne
  have e3 : ∀ (f : Nat → Int) v, Tr.upd f a.thr.toNat v b.thr.toNat = f b.thr.toNat := fun f v => upd_ne hne.symm
  have e4 : ∀ (f : Nat → Int) v, Tr.upd f b.thr.toNat v a.thr.toNat = f a.thr.toNat := fun f v => upd_ne hne
  have q : ∀ k : Int, k = 1 ∨ k = 2 ∨ k = 7 ∨ k = 8 ∨ (k ≠ 1 ∧ k ≠ 2 ∧ k ≠ 7 ∧ k ≠ 8) := fun k => by omega
  unfold effF
  simp only [e1, e2, e3, e4]
  rw [upd_comm hne.symm]
  congr 1
  · rcases q a.kind with ka | ka | ka | ka | ka <;> rcases q b.kind with kb | kb | kb | kb | kb <;>
      simp only [ka, kb, Int.reduceEq, if_true, if_false, ↓reduceIte] <;> rw [upd_comm hne.symm]
    · have := ho 1 (by decide) (by rw [ka]; rfl) (by rw [kb]; rfl) (by rw [ka, kb]; rfl)
      rw [upd_ne this]
    · have := ho 1 (by decide) (by rw [ka]; rfl) (by rw [kb]; rfl) (by rw [ka, kb]; rfl)
      rw [upd_ne this.symm]
    · have := ho 4 (by decide) (by rw [ka]; rfl) (by rw [kb]; rfl) (by rw [ka, kb]; rfl)
      rw [upd_ne this]
    · have := ho 4 (by decide) (by rw [ka]; rfl) (by rw [kb]; rfl) (by rw [ka, kb]; rfl)
      rw [upd_ne this.symm]
  · by_cases ka : a.kind = 2 <;> by_cases kb : b.kind = 2 <;> simp only [ka, kb, if_true, if_false, ↓reduceIte]
    have := ho 1 (by decide) (by rw [ka]; rfl) (by rw [kb]; rfl) (by rw [ka, kb]; rfl)
    rw [upd_comm this.symm]
  · by_cases ka : a.kind = 8 <;> by_cases kb : b.kind = 8 <;> simp only [ka, kb, if_true, if_false, ↓reduceIte]
    have := ho 4 (by decide) (by rw [ka]; rfl) (by rw [kb]; rfl) (by rw [ka, kb]; rfl)
    rw [upd_comm this.symm]
theorem replay_eqv (p : List (List PO)) {l m : List Ev} (h : Eqv l m) (hl : ∀ e ∈ l, isEv e = true) : replay p l = replay p m ∧ ∀ t, begB l t = begB m t := by
  refine ⟨(h.keep (fun l => replay p l) (fun e => isEv e = true) (fun xs ys a b hP ha => ?_) hl).1, ?_⟩
  · show replay p (xs ++ a :: b :: ys) = replay p (xs ++ b :: a :: ys)
    unfold replay
    rw [List.foldl_append, List.foldl_append, List.foldl_cons, List.foldl_cons, List.foldl_cons, List.foldl_cons, eff_comm ha (hP a (by simp)) (hP b (by simp))]
  · have := (h.keep (fun l => fun t : Int => begB l t) (fun e => isEv e = true) (fun xs ys a b hP ha => ?_) hl).1
    · exact fun t => congrFun this t
    · funext t
      simp only [begB, didB, List.any_append, List.any_cons]
      congr 2
      rw [← Bool.or_assoc, ← Bool.or_assoc]
      congr 1
      exact Bool.or_comm _ _
theorem scan_at {e : Ev} {o : PO} {r : List PO} (ho : mt o e = true) : ∀ {G : List PO} {h : Int}, (∀ g ∈ G, mt g e = false) → scan e (G ++ o :: r) h = (r, G.foldl add1 h)
  | [], h, _ => by rw [List.nil_append, scan, if_pos ho]; rfl
  | g :: G, h, hG => by
    rw [List.cons_append, scan, if_neg (by rw [hG g (List.mem_cons_self ..)]; decide), scan_at ho fun x hx => hG x (List.mem_cons_of_mem _ hx)]
    rfl
/-- Which ops tell nothing where they stand. -/
def Qt (p : List (List PO)) (s : Sta) (t : Nat) (g : PO) : Prop := g.kind = 3 ∨ (g.kind = 5 ∧ s.owner g.obj.toNat ≠ (t : Int) + 1) ∨ (g.kind = 6 ∧ ((p.length : Int) ≤ g.obj ∨ s.begun g.obj.toNat = true))
structure RR (p : List (List PO)) (s : Sta) (d : Rp) : Prop where
  mem : s.en.mem = d.mem
  vol : s.en.vols = d.vol
  thr : ∀ t, t < p.length → ∃ G, d.rem t = G ++ (p.getD t []).drop (s.at' t).toNat ∧ s.en.has t = G.foldl add1 (d.has t) ∧ ∀ g ∈ G, Qt p s t g
  unb : ∀ t, t < p.length → s.begun t = false → s.en.has t = d.has t
  out : ∀ t, p.length ≤ t → s.en.has t = d.has t
theorem first_RR (p : List (List PO)) : RR p firstS (firstR p) := ⟨rfl, rfl, fun t ht => ⟨[], by show p.getD t [] = [] ++ (p.getD t []).drop 0; simp, rfl, fun g hg => by cases hg⟩, fun t _ _ => rfl, fun t _ => rfl⟩
theorem drop_op {p : List (List PO)} {s : Sta} {n : Nat} {o : PO} (h : Does p s n o) : (p.getD n []).drop (s.at' n).toNat = o :: (p.getD n []).drop (s.at' n + 1).toNat := by
  have h0 := h.a0
  have h1 := h.a
  rw [drop_getD dOp.dft (show (s.at' n).toNat < (p.getD n []).length by omega), ← h.op, show (s.at' n + 1).toNat = (s.at' n).toNat + 1 by omega]
theorem step_RR {p : List (List PO)} {s : Sta} {d : Rp} (h : RR p s d) {n : Nat} {o : PO} (hd : Does p s n o) :
    RR p (stF s p n o) ((if evK s p n o = 0 then [] else [(⟨evK s p n o, n, o.obj⟩ : Ev)]).foldl (fun d e => effF e d) d) := by
  have hb := bnd_kind ⟨hd.o0, hd.o1⟩
  have hdr := drop_op hd
  have hat : ∀ t, t ≠ n → (stF s p n o).at' t = s.at' t := fun t ht => upd_ne ht
  have han : (stF s p n o).at' n = s.at' n + 1 := upd_at
  have hbg : ∀ t, s.begun t = true → (stF s p n o).begun t = true := fun t ht => by
    show (if _ then _ else _ : Nat → Bool) t = true
    split
    · show (if t = o.obj.toNat then true else s.begun t) = true
      split
      · rfl
      · exact ht
    · exact ht
  by_cases hz : evK s p n o = 0
  · rw [if_pos hz]
    show RR p _ d
    have hk : o.kind = 3 ∨ (o.kind = 5 ∧ s.owner o.obj.toNat ≠ (n : Int) + 1) ∨ (o.kind = 6 ∧ ((p.length : Int) ≤ o.obj ∨ s.begun o.obj.toNat = true)) := by
      unfold evK at hz
      rcases hb with k | k | k | k | k | k | k | k | k <;> simp only [k, Int.reduceEq, if_true, if_false, ↓reduceIte] at hz
      · exact .inl k
      · refine .inr (.inl ⟨k, fun q => ?_⟩)
        rw [if_pos q] at hz; cases hz
      · refine .inr (.inr ⟨k, ?_⟩)
        by_cases c : o.obj < p.length ∧ s.begun o.obj.toNat = false
        · rw [if_pos c] at hz; cases hz
        · by_cases c2 : (p.length : Int) ≤ o.obj
          · exact .inl c2
          · refine .inr ?_
            cases hq : s.begun o.obj.toNat with
            | true => rfl
            | false => exact absurd ⟨by omega, hq⟩ c
    have how : (stF s p n o).owner = s.owner := by
      show (if o.kind = 4 then _ else if o.kind = 5 ∧ _ then _ else _) = _
      rw [if_neg (by omega)]
      rcases hk with k | ⟨k, q⟩ | ⟨k, q⟩
      · rw [if_neg (by omega)]
      · rw [if_neg (fun hh => q hh.2)]
      · rw [if_neg (by omega)]
    have hQ : ∀ t g, Qt p s t g → Qt p (stF s p n o) t g := fun t g hg => by
      rcases hg with k | ⟨k, q⟩ | ⟨k, q⟩
      · exact .inl k
      · exact .inr (.inl ⟨k, by rw [how]; exact q⟩)
      · exact .inr (.inr ⟨k, q.imp id (hbg _)⟩)
    have hen : (stF s p n o).en = if o.kind = 3 then { s.en with has := Tr.upd s.en.has n (IntKind.i64.wrap (s.en.has n + o.n)) } else s.en := by
      show enF s.en n o = _
      unfold enF
      rcases hk with k | ⟨k, q⟩ | ⟨k, q⟩ <;> simp [k]
    have hhas : ∀ t, (stF s p n o).en.has t = if t = n then add1 (s.en.has n) o else s.en.has t := fun t => by
      rw [hen]
      unfold add1
      by_cases k : o.kind = 3
      · rw [if_pos k, if_pos k]; rfl
      · rw [if_neg k, if_neg k]
        by_cases e : t = n
        · rw [if_pos e, e]
        · rw [if_neg e]
    refine ⟨?_, ?_, fun t ht => ?_, fun t ht hbt => ?_, fun t ht => ?_⟩
    · rw [hen, ← h.mem]; split <;> rfl
    · rw [hen, ← h.vol]; split <;> rfl
    · obtain ⟨G, g1, g2, g3⟩ := h.thr t ht
      by_cases e : t = n
      · subst e
        refine ⟨G ++ [o], ?_, ?_, fun g hg => ?_⟩
        · rw [g1, hdr, han, List.append_assoc]; rfl
        · rw [hhas, if_pos rfl, g2, List.foldl_append]; rfl
        · rw [List.mem_append, List.mem_singleton] at hg
          rcases hg with hg | rfl
          · exact hQ _ _ (g3 g hg)
          · exact hQ _ _ hk
      · exact ⟨G, by rw [g1, hat t e], by rw [hhas, if_neg e, g2], fun g hg => hQ _ _ (g3 g hg)⟩
    · have e : t ≠ n := fun e => by subst e; rw [hbg _ hd.b] at hbt; cases hbt
      have hbs : s.begun t = false := by
        cases hq : s.begun t with
        | false => rfl
        | true => rw [hbg _ hq] at hbt; cases hbt
      rw [hhas, if_neg e, h.unb t ht hbs]
    · rw [hhas, if_neg (by have := hd.lt; omega), h.out t ht]
  · rw [if_neg hz]
    obtain ⟨⟨e1, e2⟩, e5, e6⟩ := ev_kind hd hz
    obtain ⟨G, g1, g2, g3⟩ := h.thr n hd.lt
    rw [hdr] at g1
    have hm : mt o ⟨evK s p n o, n, o.obj⟩ = true := by
      unfold mt
      rw [e1]; simp
    have hG : ∀ g ∈ G, mt g ⟨evK s p n o, n, o.obj⟩ = false := fun g hg => by
      unfold mt
      rw [Bool.eq_false_iff]
      intro hh
      rw [Bool.and_eq_true, decide_eq_true_eq, decide_eq_true_eq] at hh
      obtain ⟨q1, q2⟩ := hh
      have q1 : kindM g.kind = kindM o.kind := q1.trans e1
      have q2 : g.obj = o.obj := q2
      rcases g3 g hg with k | ⟨k, q⟩ | ⟨k, q⟩
      · rw [k] at q1; exact e2 q1.symm
      · have ko : o.kind = 5 := by
          rw [k] at q1
          rcases hb with k | k | k | k | k | k | k | k | k <;> rw [k] at q1 <;> first | exact k | exact absurd q1 (by decide)
        rw [q2] at q; exact q (e5 ko)
      · have ko : o.kind = 6 := by
          rw [k] at q1
          rcases hb with k | k | k | k | k | k | k | k | k <;> rw [k] at q1 <;> first | exact k | exact absurd q1 (by decide)
        obtain ⟨q3, q4⟩ := e6 ko
        rw [q2] at q
        rcases q with q | q
        · omega
        · rw [q] at q4; cases q4
    have hsc := scan_at hm (r := (p.getD n []).drop (s.at' n + 1).toNat) (h := d.has n) hG
    rw [← g1, ← g2] at hsc
    show RR p _ (effF ⟨evK s p n o, n, o.obj⟩ d)
    have hef : effF ⟨evK s p n o, n, o.obj⟩ d = ⟨Tr.upd d.rem n ((p.getD n []).drop (s.at' n + 1).toNat),
        Tr.upd d.has n (if evK s p n o = 1 then d.mem o.obj.toNat else if evK s p n o = 7 then d.vol o.obj.toNat else s.en.has n),
        if evK s p n o = 2 then Tr.upd d.mem o.obj.toNat (s.en.has n) else d.mem, if evK s p n o = 8 then Tr.upd d.vol o.obj.toNat (s.en.has n) else d.vol⟩ := by
      unfold effF
      simp only [Int.toNat_natCast, hsc]
    rw [hef, e1]
    have hne3 : o.kind ≠ 3 := fun k => by rw [k] at e2; exact e2 rfl
    have hmem : (stF s p n o).en.mem = if kindM o.kind = 2 then Tr.upd d.mem o.obj.toNat (s.en.has n) else d.mem := by
      show (enF s.en n o).mem = _
      rw [← h.mem]
      unfold enF
      rcases hb with k | k | k | k | k | k | k | k | k <;> simp [k, kindM]
    have hvol : (stF s p n o).en.vols = if kindM o.kind = 8 then Tr.upd d.vol o.obj.toNat (s.en.has n) else d.vol := by
      show (enF s.en n o).vols = _
      rw [← h.vol]
      unfold enF
      rcases hb with k | k | k | k | k | k | k | k | k <;> simp [k, kindM]
    have hhas : ∀ t, (stF s p n o).en.has t = if t = n then (if kindM o.kind = 1 then d.mem o.obj.toNat else if kindM o.kind = 7 then d.vol o.obj.toNat else s.en.has n) else s.en.has t := fun t => by
      show (enF s.en n o).has t = _
      rw [← h.mem, ← h.vol]
      unfold enF
      by_cases e : t = n
      · rw [if_pos e, e]
        rcases hb with k | k | k | k | k | k | k | k | k <;> first | exact absurd k hne3 | simp [k, kindM, Tr.upd]
      · rw [if_neg e]
        rcases hb with k | k | k | k | k | k | k | k | k <;> first | exact absurd k hne3 | simp [k, Tr.upd, e]
    refine ⟨hmem, hvol, fun t ht => ?_, fun t ht hbt => ?_, fun t ht => ?_⟩
    · by_cases e : t = n
      · subst e
        exact ⟨[], by rw [han]; exact upd_at, by rw [hhas, if_pos rfl]; exact upd_at.symm, fun g hg => by cases hg⟩
      · obtain ⟨H, q1, q2, q3⟩ := h.thr t ht
        refine ⟨H, ?_, ?_, fun g hg => ?_⟩
        · rw [hat t e]; exact (upd_ne e).trans q1
        · rw [hhas, if_neg e, q2]
          show _ = H.foldl add1 (Tr.upd d.has n _ t)
          rw [upd_ne e]
        · rcases q3 g hg with k | ⟨k, q⟩ | ⟨k, q⟩
          · exact .inl k
          · refine .inr (.inl ⟨k, ?_⟩)
            show (if o.kind = 4 then Tr.upd s.owner o.obj.toNat (n + 1) else if o.kind = 5 ∧ s.owner o.obj.toNat = (n : Int) + 1 then Tr.upd s.owner o.obj.toNat 0 else s.owner) g.obj.toNat ≠ _
            split
            · unfold Tr.upd; split
              · omega
              · exact q
            · split
              · unfold Tr.upd; split
                · omega
                · exact q
              · exact q
          · exact .inr (.inr ⟨k, q.imp id (hbg _)⟩)
    · have e : t ≠ n := fun e => by subst e; rw [hbg _ hd.b] at hbt; cases hbt
      have hbs : s.begun t = false := by
        cases hq : s.begun t with
        | false => rfl
        | true => rw [hbg _ hq] at hbt; cases hbt
      rw [hhas, if_neg e, h.unb t ht hbs]
      exact (upd_ne e).symm
    · have e : t ≠ n := by have := hd.lt; omega
      rw [hhas, if_neg e, h.out t ht]
      exact (upd_ne e).symm
theorem run_RR {p : List (List PO)} (hp : progC badP p = 0) {picks : List Int} : ∀ i, RR p (runS p picks i) (replay p (runE p picks i))
  | 0 => first_RR p
  | i + 1 => by
    have ih := run_RR hp (picks := picks) i
    rw [runS, runE]
    rcases pick_cases hp (fit_run hp i) (picks.getD i 0) with ⟨h1, h2⟩ | ⟨n, o, hd, h1, h2⟩
    · rw [h1, h2, List.append_nil]; exact ih
    · rw [h1, h2, replay, List.foldl_append]
      exact step_RR ih hd
/-- What threads have at the end. -/
theorem done_has {p : List (List PO)} {s : Sta} {d : Rp} (h : RR p s d) (hf : Fit p s.at') : ∀ n, doneB s p n = true → ∀ t, t < n → t < p.length → s.en.has t = if s.begun t = true then (d.rem t).foldl add1 (d.has t) else d.has t
  | 0, _, t, ht, _ => absurd ht (Nat.not_lt_zero _)
  | n + 1, hdn, t, ht, hl => by
    rw [doneB, Bool.and_eq_true] at hdn
    by_cases e : t = n
    · subst e
      have h1 := hdn.2
      rw [Option.isNone_iff_eq_none, next_none] at h1
      simp only [Int.toNat_natCast] at h1
      cases hb : s.begun t with
      | false => rw [if_neg (by decide)]; exact h.unb t hl hb
      | true =>
        rw [if_pos rfl]
        obtain ⟨G, g1, g2, _⟩ := h.thr t hl
        have : s.at' t = ((p.getD t []).length : Int) := by
          rcases h1 with h1 | h1 | h1 | h1
          · omega
          · omega
          · rw [hb] at h1; cases h1
          · exact h1
        rw [this, Int.toNat_natCast, List.drop_length, List.append_nil] at g1
        rw [g1]; exact g2
    · exact done_has h hf n hdn.1 t (by omega) hl
/-- **Runs that told the same but for order end the same.** -/
theorem end_same {p : List (List PO)} {a b : List Int} (ha : (runF p a).2.2 = 0) (hb : (runF p b).2.2 = 0) (da : (runF p a).1.done = true) (db : (runF p b).1.done = true)
    (hr : replay p (runF p a).2.1 = replay p (runF p b).2.1) (hg : ∀ t, begB (runF p a).2.1 t = begB (runF p b).2.1 t) : (runF p a).1 = (runF p b).1 := by
  have key : ∀ c, (runF p c).2.2 = 0 → progC badP p = 0 ∧ runF p c = (endF' (runS p c c.length) p, runE p c c.length, 0) := by
    intro c hc
    unfold runF at hc ⊢
    by_cases h1 : progC badP p ≠ 0
    · rw [if_pos h1] at hc; exact absurd hc h1
    · rw [if_neg h1] at hc ⊢
      by_cases h2 : 100 < c.length
      · rw [if_pos h2] at hc; cases hc
      · rw [if_neg h2]
        exact ⟨Classical.not_not.1 h1, rfl⟩
  obtain ⟨hp, ea⟩ := key a ha
  obtain ⟨_, eb⟩ := key b hb
  rw [ea] at da hr hg ⊢
  rw [eb] at db hr hg ⊢
  simp only at da db hr hg ⊢
  have ra := run_RR hp (picks := a) a.length
  have rb := run_RR hp (picks := b) b.length
  have fa := fit_run hp (picks := a) a.length
  have fb := fit_run hp (picks := b) b.length
  obtain ⟨sa, ga⟩ := run_same hp (picks := a) a.length
  obtain ⟨sb, gb⟩ := run_same hp (picks := b) b.length
  have ba : ∀ t : Nat, (runS p a a.length).begun t = (runS p b b.length).begun t := fun t => by rw [sa.begun, sb.begun, ga, gb, hg]
  rw [hr] at ra
  have da : doneB (runS p a a.length) p p.length = true := da
  have db : doneB (runS p b b.length) p p.length = true := db
  have hh : (runS p a a.length).en.has = (runS p b b.length).en.has := by
    funext t
    by_cases ht : t < p.length
    · rw [done_has ra fa _ da t ht ht, done_has rb fb _ db t ht ht, ba]
    · rw [ra.out t (by omega), rb.out t (by omega)]
  unfold endF'
  rw [da, db, Bool.not_true, Bool.and_false, Bool.and_false]
  show (⟨(runS p a a.length).en.mem, (runS p a a.length).en.vols, (runS p a a.length).en.has, true, false⟩ : En) = ⟨(runS p b b.length).en.mem, (runS p b b.length).en.vols, (runS p b b.length).en.has, true, false⟩
  rw [ra.mem, ra.vol, hh, rb.mem, rb.vol]
end Go.Proofs.Ytohbjnpafpcbkaa.Tp
end
