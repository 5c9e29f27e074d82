/- The longest rows that lead to a lock: found round after round, and among all rows. Conditions: none. -/
import Derived.Test.YtmddnblbfmlgoaaRingM
set_option linter.unusedSimpArgs false
set_option linter.unusedVariables false
set_option maxRecDepth 100000
open Go Go.Sx Go.Proofs
namespace Go.Proofs.Ytmddnblbfmlgoaa.Rg
open Go.Proofs.Ytmddnblbfmlgoaa.D Go.Proofs.Ytmddnblbfmlgoaa.Hs Go.Proofs.Ytmddnblbfmlgoaa.Pg
/-- A row whose neighbours follow each other. -/
def pth (g : Gr) : List Int → Prop
  | a :: r => (∀ b, r.head? = some b → gI g a b = true) ∧ pth g r
  | [] => True
theorem pth_append {g : Gr} : ∀ {a b : List Int}, pth g (a ++ b) ↔ pth g a ∧ pth g b ∧ ∀ x y, a.getLast? = some x → b.head? = some y → gI g x y = true
  | [], b => by simp [pth]
  | x :: a, b => by
    rw [List.cons_append, pth, pth, pth_append (a := a)]
    cases a with
    | nil =>
      simp only [List.nil_append, List.head?_nil, List.getLast?_singleton, Option.some.injEq, pth, true_and, List.getLast?_nil, reduceCtorEq, false_implies, implies_true]
      constructor
      · rintro ⟨h1, h2, _⟩
        exact ⟨h2, fun u v hu hv => hu ▸ h1 v hv⟩
      · rintro ⟨h2, h3⟩
        exact ⟨fun v hv => h3 x v rfl hv, h2, trivial⟩
    | cons y a =>
      simp only [List.cons_append, List.head?_cons, Option.some.injEq, List.getLast?_cons_cons]
      constructor
      · rintro ⟨h1, h2, h3, h4⟩; exact ⟨⟨h1, h2⟩, h3, h4⟩
      · rintro ⟨⟨h1, h2⟩, h3, h4⟩; exact ⟨h1, h2, h3, h4⟩
/-- A ring: different locks, each followed by the next one, the last one by the first one. -/
def isRing (g : Gr) (r : List Int) : Prop := r.Nodup ∧ okRow r ∧ pth g r ∧ ∃ x y, r.getLast? = some x ∧ r.head? = some y ∧ gI g x y = true
theorem ring_of {g : Gr} : ∀ {l : List Int}, okRow l → pth g l → ¬ l.Nodup → ∃ r, isRing g r
  | [], _, _, h => (h List.nodup_nil).elim
  | a :: t, hk, hp, h => by
    have hk' : okRow t := fun x hx => hk x (List.mem_cons_of_mem _ hx)
    by_cases ht : t.Nodup
    · have ha : a ∈ t := by
        apply Classical.byContradiction
        intro hn
        exact h (List.nodup_cons.2 ⟨hn, ht⟩)
      obtain ⟨u, v, rfl⟩ := List.append_of_mem ha
      have hn := List.nodup_append.1 ht
      have hp2 : pth g ((a :: u) ++ (a :: v)) := hp
      obtain ⟨p1, p2, p3⟩ := pth_append.1 hp2
      refine ⟨a :: u, List.nodup_cons.2 ⟨fun hau => hn.2.2 a hau a (List.mem_cons_self ..) rfl, hn.1⟩, fun x hx => hk x (by
        rcases List.mem_cons.1 hx with rfl | hx
        · exact List.mem_cons_self ..
        · exact List.mem_cons_of_mem _ (List.mem_append_left _ hx)), p1, ?_⟩
      obtain ⟨x, hx⟩ : ∃ x, (a :: u).getLast? = some x := ⟨_, List.getLast?_eq_some_getLast (by simp)⟩
      exact ⟨x, a, hx, rfl, p3 x a hx rfl⟩
    · exact ring_of hk' hp.2 ht
/-- Rows of different locks are all there. -/
theorem rowK_mem {r x : List Int} : ∀ {k : Nat}, x ∈ rowK r k ↔ ∃ j : Nat, j < k ∧ hasI r j = false ∧ x = r ++ [(j : Int)]
  | 0 => by simp [rowK]
  | k + 1 => by
    rw [rowK, List.mem_append, rowK_mem]
    constructor
    · rintro (⟨j, h1, h2⟩ | h)
      · exact ⟨j, by omega, h2⟩
      · split at h
        · cases h
        · rename_i hh
          simp only [List.mem_cons, List.not_mem_nil, or_false] at h
          exact ⟨k, by omega, by simpa using hh, h⟩
    · rintro ⟨j, h1, h2, h3⟩
      by_cases hj : j = k
      · subst hj
        right
        rw [if_neg (by rw [h2]; simp), h3]; simp
      · exact .inl ⟨j, by omega, h2, h3⟩
theorem rows_snoc {n : Nat} {x : List Int} : x ∈ rowsR (n + 1) ↔ ∃ r ∈ rowsR n, ∃ j : Nat, j < 5 ∧ hasI r j = false ∧ x = r ++ [(j : Int)] := by
  rw [rowsR, rowsTo_is (Nat.le_refl _), List.take_length, List.mem_flatMap]
  simp only [oneMore, rowK_mem]
theorem rows_mem : ∀ {n : Nat} {x : List Int}, x ∈ rowsR n ↔ x.length = n ∧ okRow x ∧ x.Nodup
  | 0, x => by
    simp only [rowsR, List.mem_cons, List.not_mem_nil, or_false]
    constructor
    · rintro rfl; exact ⟨rfl, fun y hy => by (cases hy), List.nodup_nil⟩
    · rintro ⟨h, _⟩; exact List.eq_nil_of_length_eq_zero h
  | n + 1, x => by
    rw [rows_snoc]
    constructor
    · rintro ⟨r, hr, j, hj, hh, rfl⟩
      obtain ⟨h1, h2, h3⟩ := rows_mem.1 hr
      have hjr : (j : Int) ∉ r := fun h => by rw [hasI_iff.2 h] at hh; cases hh
      refine ⟨by simp [h1], fun y hy => ?_, List.nodup_append.2 ⟨h3, by simp, fun a ha b hb e => ?_⟩⟩
      · rcases List.mem_append.1 hy with hy | hy
        · exact h2 y hy
        · simp only [List.mem_cons, List.not_mem_nil, or_false] at hy; omega
      · simp only [List.mem_cons, List.not_mem_nil, or_false] at hb
        subst hb; subst e
        exact hjr ha
    · rintro ⟨h1, h2, h3⟩
      have hne : x ≠ [] := fun e => by rw [e] at h1; simp at h1
      have hd := List.dropLast_concat_getLast hne
      have hm := List.getLast_mem hne
      obtain ⟨h4, h5⟩ := h2 _ hm
      rw [← hd] at h3
      obtain ⟨h6, _, h7⟩ := List.nodup_append.1 h3
      have hj : (((x.getLast hne).toNat : Nat) : Int) = x.getLast hne := by omega
      refine ⟨x.dropLast, rows_mem.2 ⟨by simp [h1], fun y hy => h2 y (List.dropLast_subset _ hy), h6⟩, (x.getLast hne).toNat, by omega, ?_, ?_⟩
      · rw [hj]
        cases hh : hasI x.dropLast (x.getLast hne) with
        | false => rfl
        | true => exact (h7 _ (hasI_iff.1 hh) _ (by simp) rfl).elim
      · rw [hj]; exact hd.symm
theorem nodup_len : ∀ {k : Nat} {l : List Int}, l.Nodup → (∀ x ∈ l, 0 ≤ x ∧ x < (k : Int)) → l.length ≤ k
  | 0, [], _, _ => Nat.le_refl _
  | 0, x :: l, _, h => by have := h x (List.mem_cons_self ..); omega
  | k + 1, l, hn, h => by
    have h1 : (l.erase (k : Int)).length ≤ k := nodup_len (hn.erase _) fun x hx => by
      have h2 := (hn.mem_erase_iff).1 hx
      have h3 := h x h2.2
      have h4 := h2.1
      omega
    by_cases hm : (k : Int) ∈ l
    · rw [List.length_erase_of_mem hm] at h1; omega
    · rw [List.erase_of_not_mem hm] at h1; omega
/-- What is asked of a row, from a place on. -/
theorem pth_at {g : Gr} : ∀ {r : List Int}, pth g r ↔ ∀ i, i + 1 < r.length → gI g (r.getD i 0) (r.getD (i + 1) 0) = true
  | [] => by simp [pth]
  | a :: r => by
    rw [pth, pth_at (r := r)]
    constructor
    · rintro ⟨h1, h2⟩ i hi
      cases i with
      | zero =>
        cases r with
        | nil => simp at hi
        | cons b r => exact h1 b rfl
      | succ i => exact h2 i (by simpa using hi)
    · intro h
      refine ⟨fun b hb => ?_, fun i hi => h (i + 1) (by simpa using hi)⟩
      cases r with
      | nil => simp at hb
      | cons c r =>
        simp only [List.head?_cons, Option.some.injEq] at hb
        subst hb
        exact h 0 (by simp)
theorem pathB_iff {p : List Pr} {r : List Int} : ∀ (n i : Nat), pathB p r i n = true ↔ (∀ j, i ≤ j → j < i + n → gI (gOf p) (r.getD j 0) (r.getD (j + 1) 0) = true) ∧ gI (gOf p) (r.getD (i + n) 0) (r.getD 0 0) = true
  | 0, i => by
    rw [pathB]
    exact ⟨fun h => ⟨fun j h1 h2 => by omega, h⟩, fun h => h.2⟩
  | n + 1, i => by
    rw [pathB, Bool.and_eq_true, pathB_iff n (i + 1)]
    constructor
    · rintro ⟨h1, h2, h3⟩
      refine ⟨fun j hj hj2 => ?_, by rw [show i + (n + 1) = i + 1 + n by omega]; exact h3⟩
      by_cases hji : j = i
      · subst hji; exact h1
      · exact h2 j (by omega) (by omega)
    · rintro ⟨h1, h2⟩
      exact ⟨h1 i (Nat.le_refl _) (by omega), fun j hj hj2 => h1 j (by omega) (by omega), by rw [show i + 1 + n = i + (n + 1) by omega]; exact h2⟩
theorem first_none' {f : List Int → Bool} : ∀ {L : List (List Int)}, firstR f L = none → ∀ r, r ∈ L → f r = false
  | [], _, _, h => by cases h
  | x :: L, h, r, hr => by
    rw [firstR] at h
    split at h
    · cases h
    · rename_i hx
      rcases List.mem_cons.1 hr with rfl | hr
      · simpa using hx
      · exact first_none' h r hr
theorem scan_none {α : Type} {f : Nat → Option α} : ∀ {n k : Nat}, scan f k n = none → ∀ j, k ≤ j → j < k + n → f j = none
  | 0, k, _, j, h1, h2 => by omega
  | n + 1, k, h, j, h1, h2 => by
    rw [scan] at h
    split at h
    · cases h
    · rename_i hk
      by_cases hj : j = k
      · subst hj; exact hk
      · exact scan_none h j (by omega) (by omega)
theorem getLast_at {r : List Int} {m : Nat} (h : r.length = m + 1) {x : Int} (hx : r.getLast? = some x) : r.getD m 0 = x := by
  rw [List.getLast?_eq_getElem?, h] at hx
  simp only [Nat.add_sub_cancel] at hx
  simp [List.getD, hx]
theorem head_at {r : List Int} {x : Int} (hx : r.head? = some x) : r.getD 0 0 = x := by
  cases r <;> simp at hx
  subst hx; rfl
/-- Where no ring is found there is none. -/
theorem no_ring {p : List Pr} (h : ringG (gOf p) = none) (r : List Int) : ¬ isRing (gOf p) r := by
  rintro ⟨h1, h2, h3, x, y, hx, hy, hxy⟩
  rw [← ref_ring] at h
  unfold refRing at h
  cases hl : r.length with
  | zero => rw [List.eq_nil_of_length_eq_zero hl] at hx; simp at hx
  | succ m =>
    have hle := nodup_len (k := 5) h1 h2
    have hm := scan_none h m (Nat.zero_le _) (by omega)
    have hf := first_none' hm r (rows_mem.2 ⟨hl, h2, h1⟩)
    rw [edges_path h2 hl] at hf
    have : pathB p r 0 m = true := by
      rw [pathB_iff]
      refine ⟨fun j _ hj => pth_at.1 h3 j (by omega), ?_⟩
      rw [Nat.zero_add, getLast_at hl hx, head_at hy]; exact hxy
    rw [this] at hf; cases hf
theorem nodup_of {p : List Pr} (h : ringG (gOf p) = none) {l : List Int} (hk : okRow l) (hp : pth (gOf p) l) : l.Nodup := by
  apply Classical.byContradiction
  intro hn
  obtain ⟨r, hr⟩ := ring_of hk hp hn
  exact no_ring h r hr
/-- A row of so many steps leads to a lock. -/
def Leads (g : Gr) (b : Int) (n : Nat) : Prop := ∃ r : List Int, r.length = n + 1 ∧ okRow r ∧ pth g r ∧ r.getLast? = some b
theorem leads_zero {g : Gr} {b : Int} (hb : 0 ≤ b ∧ b < 5) : Leads g b 0 := ⟨[b], rfl, fun x hx => by simp at hx; subst hx; exact hb, ⟨fun c hc => by simp at hc, trivial⟩, rfl⟩
theorem leads_succ {g : Gr} {a b : Int} {n : Nat} (hb : 0 ≤ b ∧ b < 5) (h : Leads g a n) (hab : gI g a b = true) : Leads g b (n + 1) := by
  obtain ⟨r, h1, h2, h3, h4⟩ := h
  refine ⟨r ++ [b], by simp [h1], fun x hx => ?_, pth_append.2 ⟨h3, ⟨fun c hc => by simp at hc, trivial⟩, fun x y hx hy => ?_⟩, by simp⟩
  · rcases List.mem_append.1 hx with hx | hx
    · exact h2 x hx
    · simp at hx; subst hx; exact hb
  · rw [h4] at hx
    simp at hx hy
    subst hx; subst hy; exact hab
theorem leads_pred {g : Gr} {b : Int} {n : Nat} (h : Leads g b (n + 1)) : ∃ a, 0 ≤ a ∧ a < 5 ∧ Leads g a n ∧ gI g a b = true := by
  obtain ⟨r, h1, h2, h3, h4⟩ := h
  have hne : r ≠ [] := fun e => by rw [e] at h1; simp at h1
  have hd := List.dropLast_concat_getLast hne
  have hl : r.getLast hne = b := by rw [List.getLast?_eq_some_getLast hne] at h4; exact Option.some.inj h4
  rw [hl] at hd
  rw [← hd] at h3
  obtain ⟨p1, _, p3⟩ := pth_append.1 h3
  have hne2 : r.dropLast ≠ [] := fun e => by
    have := congrArg List.length e
    simp [h1] at this
  have hk : okRow r.dropLast := fun y hy => h2 y (List.dropLast_subset _ hy)
  obtain ⟨q1, q2⟩ := hk _ (List.getLast_mem hne2)
  exact ⟨r.dropLast.getLast hne2, q1, q2, ⟨r.dropLast, by simp [h1], hk, p1, List.getLast?_eq_some_getLast hne2⟩, p3 _ _ (List.getLast?_eq_some_getLast hne2) rfl⟩
theorem leads_le {p : List Pr} (h : ringG (gOf p) = none) {b : Int} {n : Nat} (hl : Leads (gOf p) b n) : n ≤ 4 := by
  obtain ⟨r, h1, h2, h3, h4⟩ := hl
  have := nodup_len (k := 5) (nodup_of h h2 h3) h2
  omega
/-! ### Round after round -/
abbrev Rk := List Int
def stepR (g : Gr) (o : Rk) (a b : Nat) : Rk := if g a b = true then o.set b (max (o.getD b 0) (o.getD a 0 + 1)) else o
def rowN (g : Gr) (o : Rk) (a : Nat) : Nat → Rk
  | 0 => o
  | b + 1 => stepR g (rowN g o a b) a b
def roundN (g : Gr) (o : Rk) : Nat → Rk
  | 0 => o
  | a + 1 => rowN g (roundN g o a) a 5
def rankN (g : Gr) : Nat → Rk
  | 0 => List.replicate 5 0
  | k + 1 => roundN g (rankN g k) 5
/-- Each number is that of a row. -/
def Sound (g : Gr) (o : Rk) : Prop := o.length = 5 ∧ ∀ b, b < 5 → ∃ n : Nat, o.getD b 0 = n ∧ Leads g b n
theorem getD_set_i {o : Rk} {b k : Nat} {x : Int} (hb : b < o.length) : (o.set b x).getD k 0 = if k = b then x else o.getD k 0 := by
  simp only [List.getD_eq_getElem?_getD, List.getElem?_set]
  by_cases h : b = k
  · subst h; simp [hb]
  · rw [if_neg h, if_neg (fun e => h e.symm)]
theorem sound_step {g : Gr} {o : Rk} {a b : Nat} (ha : a < 5) (hb : b < 5) (h : Sound g o) : Sound g (stepR g o a b) ∧ ∀ k, k < 5 → o.getD k 0 ≤ (stepR g o a b).getD k 0 := by
  unfold stepR
  split
  · rename_i hg
    obtain ⟨h1, h2⟩ := h
    refine ⟨⟨by simp [h1], fun k hk => ?_⟩, fun k hk => ?_⟩
    · rw [getD_set_i (by omega)]
      split
      · rename_i e; subst e
        obtain ⟨n, hn, hl⟩ := h2 k hk
        obtain ⟨m, hm, hl2⟩ := h2 a ha
        rw [hn, hm]
        by_cases hc : (m : Int) + 1 ≤ n
        · exact ⟨n, by omega, hl⟩
        · exact ⟨m + 1, by omega, leads_succ (by omega) hl2 (by rw [gI, Int.toNat_natCast, Int.toNat_natCast]; exact hg)⟩
      · exact h2 k hk
    · rw [getD_set_i (by omega)]
      split
      · rename_i e; subst e; omega
      · omega
  · exact ⟨h, fun k _ => by omega⟩
theorem sound_row {g : Gr} {o : Rk} {a : Nat} (ha : a < 5) (h : Sound g o) : ∀ {n : Nat}, n ≤ 5 → Sound g (rowN g o a n) ∧ ∀ k, k < 5 → o.getD k 0 ≤ (rowN g o a n).getD k 0
  | 0, _ => ⟨h, fun k _ => by rw [rowN]; omega⟩
  | n + 1, hn => by
    obtain ⟨h1, h2⟩ := sound_row ha h (n := n) (by omega)
    obtain ⟨h3, h4⟩ := sound_step ha (show n < 5 by omega) h1
    exact ⟨h3, fun k hk => by have := h2 k hk; have := h4 k hk; rw [rowN]; omega⟩
theorem sound_round {g : Gr} {o : Rk} (h : Sound g o) : ∀ {n : Nat}, n ≤ 5 → Sound g (roundN g o n) ∧ ∀ k, k < 5 → o.getD k 0 ≤ (roundN g o n).getD k 0
  | 0, _ => ⟨h, fun k _ => by rw [roundN]; omega⟩
  | n + 1, hn => by
    obtain ⟨h1, h2⟩ := sound_round h (n := n) (by omega)
    obtain ⟨h3, h4⟩ := sound_row (show n < 5 by omega) h1 (Nat.le_refl 5)
    exact ⟨h3, fun k hk => by have := h2 k hk; have := h4 k hk; rw [roundN]; omega⟩
theorem sound_start {g : Gr} : Sound g (List.replicate 5 0) := ⟨rfl, fun b hb => ⟨0, by
  match b, hb with
  | 0, _ | 1, _ | 2, _ | 3, _ | 4, _ => rfl, leads_zero (by omega)⟩⟩
theorem sound_rank {g : Gr} : ∀ n, Sound g (rankN g n)
  | 0 => sound_start
  | n + 1 => (sound_round (sound_rank n) (Nat.le_refl _)).1
/-- An edge that was looked at. -/
theorem row_at {g : Gr} {o : Rk} {a b : Nat} (ha : a < 5) (h : Sound g o) (hg : g a b = true) : ∀ {n : Nat}, n ≤ 5 → b < n → o.getD a 0 + 1 ≤ (rowN g o a n).getD b 0
  | 0, _, hb => by omega
  | n + 1, hn, hb => by
    obtain ⟨h1, h2⟩ := sound_row ha h (n := n) (by omega)
    obtain ⟨h3, h4⟩ := sound_step ha (show n < 5 by omega) h1
    by_cases e : b = n
    · subst e
      have := h2 a ha
      rw [rowN, stepR, if_pos hg, getD_set_i (by rw [h1.1]; omega), if_pos rfl]
      omega
    · have := row_at ha h hg (n := n) (by omega) (by omega)
      have := h4 b (by omega)
      rw [rowN]; omega
theorem round_at {g : Gr} {o : Rk} {a b : Nat} (h : Sound g o) (hb : b < 5) (hg : g a b = true) : ∀ {n : Nat}, n ≤ 5 → a < n → o.getD a 0 + 1 ≤ (roundN g o n).getD b 0
  | 0, _, ha => by omega
  | n + 1, hn, ha => by
    obtain ⟨h1, h2⟩ := sound_round h (n := n) (by omega)
    by_cases e : a = n
    · subst e
      have := row_at (show a < 5 by omega) h1 hg (Nat.le_refl 5) hb
      have := h2 a (by omega)
      rw [roundN]; omega
    · have := round_at h hb hg (n := n) (by omega) (by omega)
      have := (sound_row (show n < 5 by omega) h1 (Nat.le_refl 5)).2 b hb
      rw [roundN]; omega
theorem rank_at {g : Gr} : ∀ {k n : Nat} {b : Nat}, b < 5 → n ≤ k → Leads g b n → (n : Int) ≤ (rankN g k).getD b 0
  | k, 0, b, hb, _, _ => by
    obtain ⟨m, hm, _⟩ := (sound_rank (g := g) k).2 b hb
    omega
  | 0, n + 1, b, hb, h, _ => by omega
  | k + 1, n + 1, b, hb, h, hl => by
    obtain ⟨a, h1, h2, h3, h4⟩ := leads_pred hl
    have ha : ((a.toNat : Nat) : Int) = a := by omega
    rw [gI, Int.toNat_natCast] at h4
    have := rank_at (k := k) (n := n) (b := a.toNat) (by omega) (by omega) (by rw [ha]; exact h3)
    have := round_at (sound_rank (g := g) k) hb h4 (Nat.le_refl 5) (by omega)
    rw [rankN]; omega
/-! ### Among all rows -/
def pathOkB (p : List Pr) (r : List Int) : Nat → Bool
  | 0 => true
  | i + 1 => pathOkB p r i && hasP p ⟨r.getD i 0, r.getD (i + 1) 0⟩
def refStep (p : List Pr) (m : Nat) (o : Rk) (r : List Int) : Rk := if pathOkB p r m = true then o.set (r.getD m 0).toNat (max (o.getD (r.getD m 0).toNat 0) m) else o
def refRows (p : List Pr) (m : Nat) (o : Rk) (L : List (List Int)) : Rk := L.foldl (refStep p m) o
def refRankN (p : List Pr) : Nat → Rk
  | 0 => List.replicate 5 0
  | m + 1 => refRows p m (refRankN p m) (rowsR (m + 1))
theorem hasP_gI {p : List Pr} {a b : Int} (ha : 0 ≤ a) (hb : 0 ≤ b) : hasP p ⟨a, b⟩ = gI (gOf p) a b := by
  rw [gI, gOf]
  congr 2 <;> omega
theorem pathOk_iff {p : List Pr} {r : List Int} (hr : okRow r) : ∀ {m : Nat}, m < r.length → (pathOkB p r m = true ↔ ∀ i, i < m → gI (gOf p) (r.getD i 0) (r.getD (i + 1) 0) = true)
  | 0, _ => by simp [pathOkB]
  | m + 1, h => by
    have h1 := hr _ (getD_mem (l := r) (i := m) (d := 0) (by omega))
    have h2 := hr _ (getD_mem (l := r) (i := m + 1) (d := 0) (by omega))
    rw [pathOkB, Bool.and_eq_true, pathOk_iff hr (m := m) (by omega), hasP_gI h1.1 h2.1]
    constructor
    · rintro ⟨h3, h4⟩ i hi
      by_cases e : i = m
      · subst e; exact h4
      · exact h3 i (by omega)
    · intro h3
      exact ⟨fun i hi => h3 i (by omega), h3 m (by omega)⟩
theorem pathOk_pth {p : List Pr} {r : List Int} {m : Nat} (hr : okRow r) (hl : r.length = m + 1) : pathOkB p r m = true ↔ pth (gOf p) r := by
  rw [pathOk_iff hr (by omega), pth_at]
  exact ⟨fun h i hi => h i (by omega), fun h i hi => h i (by omega)⟩
theorem ref_step {p : List Pr} {m : Nat} {o : Rk} {r : List Int} (h : Sound (gOf p) o) (hr : r ∈ rowsR (m + 1)) :
    Sound (gOf p) (refStep p m o r) ∧ (∀ k, k < 5 → o.getD k 0 ≤ (refStep p m o r).getD k 0) ∧ (pth (gOf p) r → ∀ b : Nat, r.getLast? = some (b : Int) → (m : Int) ≤ (refStep p m o r).getD b 0) := by
  obtain ⟨h1, h2, h3⟩ := rows_mem.1 hr
  have hb := h2 _ (getD_mem (l := r) (i := m) (d := 0) (by omega))
  have hlast : ∀ b : Int, r.getLast? = some b → r.getD m 0 = b := fun b hb => getLast_at h1 hb
  obtain ⟨x, hx⟩ : ∃ x, r.getLast? = some x := ⟨_, List.getLast?_eq_some_getLast (fun e => by rw [e] at h1; simp at h1)⟩
  have hx2 := hlast x hx
  unfold refStep
  by_cases hp : pathOkB p r m = true
  · rw [if_pos hp]
    have hpp := (pathOk_pth h2 h1).1 hp
    rw [hx2] at hb ⊢
    obtain ⟨o1, o2⟩ := h
    refine ⟨⟨by simp [o1], fun k hk => ?_⟩, fun k hk => ?_, fun _ b hb2 => ?_⟩
    · rw [getD_set_i (by omega)]
      split
      · rename_i e
        obtain ⟨n, hn, hl⟩ := o2 k hk
        rw [← e, hn]
        by_cases hc : (m : Int) ≤ n
        · exact ⟨n, by omega, hl⟩
        · exact ⟨m, by omega, r, h1, h2, hpp, by rw [hx]; congr 1; omega⟩
      · exact o2 k hk
    · rw [getD_set_i (by omega)]
      split
      · rename_i e; rw [← e]; omega
      · omega
    · rw [hx] at hb2
      simp only [Option.some.injEq] at hb2
      rw [hb2, getD_set_i (by omega), if_pos (by omega)]
      omega
  · rw [if_neg hp]
    exact ⟨h, fun k _ => by omega, fun hpp => absurd ((pathOk_pth h2 h1).2 hpp) hp⟩
theorem ref_rows {p : List Pr} {m : Nat} : ∀ {L : List (List Int)} {o : Rk}, (∀ r, r ∈ L → r ∈ rowsR (m + 1)) → Sound (gOf p) o →
    Sound (gOf p) (refRows p m o L) ∧ (∀ k, k < 5 → o.getD k 0 ≤ (refRows p m o L).getD k 0) ∧ (∀ r, r ∈ L → pth (gOf p) r → ∀ b : Nat, r.getLast? = some (b : Int) → b < 5 → (m : Int) ≤ (refRows p m o L).getD b 0)
  | [], o, _, h => ⟨h, fun k _ => by rw [refRows, List.foldl_nil]; omega, fun r hr => by cases hr⟩
  | x :: L, o, hL, h => by
    obtain ⟨h1, h2, h3⟩ := ref_step (p := p) h (hL x (List.mem_cons_self ..))
    obtain ⟨k1, k2, k3⟩ := ref_rows (p := p) (fun r hr => hL r (List.mem_cons_of_mem _ hr)) h1
    refine ⟨k1, fun k hk => ?_, fun r hr hp b hb hb5 => ?_⟩
    · have := h2 k hk; have := k2 k hk
      rw [refRows, List.foldl_cons]; rw [refRows] at this; omega
    · rcases List.mem_cons.1 hr with rfl | hr
      · have := h3 hp b hb; have := k2 b hb5
        rw [refRows, List.foldl_cons]; rw [refRows] at this; omega
      · exact k3 r hr hp b hb hb5
theorem ref_rank {p : List Pr} : ∀ m, Sound (gOf p) (refRankN p m) ∧ ∀ n, n < m → ∀ r, r ∈ rowsR (n + 1) → pth (gOf p) r → ∀ b : Nat, r.getLast? = some (b : Int) → b < 5 → (n : Int) ≤ (refRankN p m).getD b 0
  | 0 => ⟨sound_start, fun n hn => by omega⟩
  | m + 1 => by
    obtain ⟨h1, h2⟩ := ref_rank (p := p) m
    obtain ⟨k1, k2, k3⟩ := ref_rows (p := p) (m := m) (fun r hr => hr) h1
    refine ⟨k1, fun n hn r hr hp b hb hb5 => ?_⟩
    by_cases e : n = m
    · subst e; exact k3 r hr hp b hb hb5
    · have := h2 n (by omega) r hr hp b hb hb5
      have := k2 b hb5
      rw [refRankN]; omega
theorem rank_same {p : List Pr} (h : ringG (gOf p) = none) : rankN (gOf p) 5 = refRankN p 5 := by
  obtain ⟨a1, a2⟩ := sound_rank (g := gOf p) 5
  obtain ⟨⟨b1, b2⟩, b3⟩ := ref_rank (p := p) 5
  apply List.ext_getElem?
  intro k
  by_cases hk : k < 5
  · have e1 : (rankN (gOf p) 5)[k]? = some ((rankN (gOf p) 5).getD k 0) := by simp [List.getD, a1, hk]
    have e2 : (refRankN p 5)[k]? = some ((refRankN p 5).getD k 0) := by simp [List.getD, b1, hk]
    rw [e1, e2]
    congr 1
    obtain ⟨n, hn, hl⟩ := a2 k hk
    obtain ⟨m, hm, hl2⟩ := b2 k hk
    have h1 := rank_at (g := gOf p) (k := 5) hk (by have := leads_le h hl2; omega) hl2
    obtain ⟨r, r1, r2, r3, r4⟩ := hl
    have hn4 : n < 5 := by
      have := leads_le h ⟨r, r1, r2, r3, r4⟩; omega
    have h2 := b3 n hn4 r (rows_mem.2 ⟨r1, r2, nodup_of h r2 r3⟩) r3 k r4 hk
    omega
  · rw [List.getElem?_eq_none (by omega), List.getElem?_eq_none (by omega)]
end Go.Proofs.Ytmddnblbfmlgoaa.Rg
