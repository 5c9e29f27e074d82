/- Clocks count what is ahead. Conditions: none. -/
import Derived.Test.YtohbjnpafpcbkaaStampR
import Derived.Test.YtohbjnpafpcbkaaTraceM
set_option linter.unusedSimpArgs false
set_option linter.unusedVariables false
open Go Go.Sx Go.Proofs
namespace Go.Proofs.Ytohbjnpafpcbkaa.St
open Go.Proofs.Ytohbjnpafpcbkaa.D Go.Proofs.Ytohbjnpafpcbkaa.Tr Go.Proofs.Ytohbjnpafpcbkaa.C Go.Proofs.Ytohbjnpafpcbkaa.Ah Go.Proofs.Ytohbjnpafpcbkaa.Ps Go.Proofs.Ytohbjnpafpcbkaa.Od
/-- How many of the first n places are in a set, and of a thread. -/
noncomputable def cnt (l : List Ev) (S : Nat → Prop) (u : Nat) : Nat → Nat
  | 0 => 0
  | i + 1 => cnt l S u i + (open Classical in if S i ∧ (at' l i).thr.toNat = u then 1 else 0)
section
variable {l : List Ev} {S S' : Nat → Prop} {u : Nat}
theorem cnt_le : ∀ {n : Nat}, (∀ i, i < n → (at' l i).thr.toNat = u → S i → S' i) → cnt l S u n ≤ cnt l S' u n
  | 0, _ => Nat.le_refl _
  | n + 1, h => by
    have ih := cnt_le (n := n) (fun i hi => h i (by omega))
    simp only [cnt]
    by_cases hs : S n ∧ (at' l n).thr.toNat = u
    · rw [if_pos hs, if_pos ⟨h n (by omega) hs.2 hs.1, hs.2⟩]; omega
    · rw [if_neg hs]; omega
theorem cnt_congr {n : Nat} (h : ∀ i, i < n → (at' l i).thr.toNat = u → (S i ↔ S' i)) : cnt l S u n = cnt l S' u n :=
  Nat.le_antisymm (cnt_le fun i hi ht hs => (h i hi ht).1 hs) (cnt_le fun i hi ht hs => (h i hi ht).2 hs)
theorem cnt_bound : ∀ n, cnt l S u n ≤ n
  | 0 => Nat.le_refl _
  | n + 1 => by
    have := cnt_bound n
    simp only [cnt]
    split <;> omega
/-- Closed downward in each thread. -/
def DC (l : List Ev) (S : Nat → Prop) : Prop := ∀ i i', S i → i' < i → (at' l i').thr.toNat = (at' l i).thr.toNat → S i'
theorem cnt_or {n : Nat} (h1 : DC l S) (h2 : DC l S') : cnt l (fun i => S i ∨ S' i) u n = max (cnt l S u n) (cnt l S' u n) := by
  by_cases hs : ∀ i, i < n → (at' l i).thr.toNat = u → S i → S' i
  · have e := cnt_le (l := l) (u := u) hs
    rw [Nat.max_eq_right e]
    exact cnt_congr fun i hi ht => ⟨fun h => h.elim (hs i hi ht) id, .inr⟩
  · have hs' : ∀ i, i < n → (at' l i).thr.toNat = u → S' i → S i := by
      intro i hi ht hi'
      simp only [Classical.not_forall] at hs
      obtain ⟨a, ha, ta, sa, na⟩ := hs
      rcases Nat.lt_trichotomy a i with e | e | e
      · exact absurd (h2 i a hi' e (by omega)) na
      · subst e; exact sa
      · exact h1 a i sa e (by omega)
    have e := cnt_le (l := l) (u := u) hs'
    rw [Nat.max_eq_left e]
    exact cnt_congr fun i hi ht => ⟨fun h => h.elim id (hs' i hi ht), .inl⟩
theorem cnt_one {j : Nat} (hj : ¬ S j) : ∀ {n : Nat}, cnt l (fun i => i = j ∨ S i) u n = cnt l S u n + if j < n ∧ (at' l j).thr.toNat = u then 1 else 0
  | 0 => by simp [cnt]
  | n + 1 => by
    simp only [cnt, cnt_one hj (n := n)]
    by_cases e : n = j
    · subst e
      by_cases ht : (at' l n).thr.toNat = u
      · simp [ht, hj]
      · rw [if_neg (fun h => ht h.2), if_neg (fun h => ht h.2), if_neg (fun h => ht h.2), if_neg (fun h => ht h.2)]
    · have e2 : (if j < n + 1 ∧ (at' l j).thr.toNat = u then 1 else 0) = if j < n ∧ (at' l j).thr.toNat = u then 1 else 0 := by
        by_cases hh : j < n ∧ (at' l j).thr.toNat = u
        · rw [if_pos hh, if_pos ⟨by omega, hh.2⟩]
        · rw [if_neg hh, if_neg (fun h => hh ⟨by omega, h.2⟩)]
      rw [e2]
      by_cases hs : S n ∧ (at' l n).thr.toNat = u
      · rw [if_pos hs, if_pos (show (n = j ∨ S n) ∧ (at' l n).thr.toNat = u from ⟨.inr hs.1, hs.2⟩)]; omega
      · rw [if_neg hs, if_neg (show ¬ ((n = j ∨ S n) ∧ (at' l n).thr.toNat = u) from fun h => hs ⟨h.1.elim (fun h => absurd h e) id, h.2⟩)]; omega
end
theorem cw_cnt (l : List Ev) (S : Nat → Bool) (u : Nat) : ∀ n, n ≤ 1000 → cw l S u n = (cnt l (fun i => S i = true) u n : Nat)
  | 0, _ => rfl
  | n + 1, h => by
    have ih := cw_cnt l S u n (by omega)
    have hb := cnt_bound (l := l) (S := fun i => S i = true) (u := u) n
    simp only [cw, cnt]
    show (if S n = true ∧ (at' l n).thr.toNat = u then IntKind.i64.wrap (cw l S u n + 1) else cw l S u n) = _
    by_cases hs : S n = true ∧ (at' l n).thr.toNat = u
    · rw [if_pos hs, if_pos hs, ih]
      exact IntWalk.i64_in _ (by omega)
    · rw [if_neg hs, if_neg hs, ih]; simp
/-- Not behind. -/
def Le' (l : List Ev) (a b : Nat) : Prop := a = b ∨ Ahd l a b
def TS (l : List Ev) (j t : Nat) (i : Nat) : Prop := ∃ c, c < j ∧ Le' l i c ∧ ((at' l c).thr.toNat = t ∨ (at' l c).kind = 5 ∧ (at' l c).obj.toNat = t)
def LS (l : List Ev) (j m : Nat) (i : Nat) : Prop := ∃ c, c < j ∧ Le' l i c ∧ (at' l c).kind = 4 ∧ (at' l c).obj.toNat = m
def VS (l : List Ev) (j m : Nat) (i : Nat) : Prop := ∃ c, c < j ∧ Le' l i c ∧ (at' l c).kind = 8 ∧ (at' l c).obj.toNat = m
section
variable {l : List Ev} (hok : (checkR l).2 = 0)
include hok
theorem bnd {i : Nat} (hi : i < l.length) : 0 ≤ (at' l i).thr ∧ (at' l i).thr < 6 ∧ 0 ≤ (at' l i).obj ∧ (at' l i).obj < many (at' l i).kind := (isEv_iff _).1 (ok_isEv hok i hi)
theorem dc_le {c : Nat} (hc : c < l.length) : DC l (fun i => Le' l i c) := by
  intro i i' h hlt ht
  have hi : i < l.length := by
    rcases h with h | h
    · omega
    · have := h.lt; omega
  have b := bnd hok hi
  have b' := bnd hok (show i' < l.length by omega)
  have hd : upP (dirL l) i' i = true := by
    have : (at' l i').thr = (at' l i).thr := by omega
    simp only [upP, Bool.and_eq_true, decide_eq_true_eq]
    refine ⟨hlt, ?_⟩
    show dirL l i' i = true
    unfold dirL dirP
    rw [Bool.or_eq_true, Bool.or_eq_true, Bool.or_eq_true, Bool.or_eq_true, Bool.or_eq_true]
    exact .inl (.inl (.inl (.inl (.inl (decide_eq_true this)))))
  rcases h with h | h
  · exact .inr (h ▸ Pth.one hd)
  · exact .inr (Pth.trans (Pth.one hd) h)
theorem dc_ex {j : Nat} (hj : j ≤ l.length) {Q : Nat → Prop} : DC l (fun i => ∃ c, c < j ∧ Le' l i c ∧ Q c) := by
  rintro i i' ⟨c, hc, h1, h2⟩ hlt ht
  exact ⟨c, hc, dc_le hok (show c < l.length by omega) i i' h1 hlt ht, h2⟩
theorem dir_iff {c j : Nat} (hc : c < j) (hj : j < l.length) : dirL l c j = true ↔
    ((at' l c).thr.toNat = (at' l j).thr.toNat ∨ (at' l c).kind = 5 ∧ (at' l c).obj.toNat = (at' l j).thr.toNat) ∨ ((at' l j).kind = 3 ∧ (at' l c).kind = 4 ∧ (at' l c).obj.toNat = (at' l j).obj.toNat) ∨
    ((at' l j).kind = 7 ∧ (at' l c).kind = 8 ∧ (at' l c).obj.toNat = (at' l j).obj.toNat) ∨ ((at' l j).kind = 6 ∧ ((at' l c).thr.toNat = (at' l j).obj.toNat ∨ (at' l c).kind = 5 ∧ (at' l c).obj.toNat = (at' l j).obj.toNat)) := by
  have b := bnd hok (show c < l.length by omega)
  have b' := bnd hok hj
  have e1 : (at' l c).thr.toNat = (at' l j).thr.toNat ↔ (at' l c).thr = (at' l j).thr := by omega
  have e2 : (at' l c).obj.toNat = (at' l j).thr.toNat ↔ (at' l c).obj = (at' l j).thr := by omega
  have e3 : (at' l c).obj.toNat = (at' l j).obj.toNat ↔ (at' l c).obj = (at' l j).obj := by omega
  have e4 : (at' l c).thr.toNat = (at' l j).obj.toNat ↔ (at' l j).obj = (at' l c).thr := by omega
  rw [e1, e2, e3, e4]
  simp only [dirL, dirP, Bool.or_eq_true, Bool.and_eq_true, decide_eq_true_eq, at']
  constructor
  · rintro (((((h | ⟨⟨h, g⟩, k⟩) | ⟨h, g⟩) | ⟨h, g⟩) | ⟨⟨h, g⟩, k⟩) | ⟨⟨h, g⟩, k⟩)
    · exact .inl (.inl h)
    · exact .inr (.inl ⟨g, h, k⟩)
    · exact .inl (.inr ⟨h, g⟩)
    · exact .inr (.inr (.inr ⟨h, .inl g⟩))
    · exact .inr (.inr (.inl ⟨g, h, k⟩))
    · exact .inr (.inr (.inr ⟨g, .inr ⟨h, k⟩⟩))
  · rintro ((h | ⟨h, g⟩) | ⟨g, h, k⟩ | ⟨g, h, k⟩ | ⟨g, h | ⟨h, k⟩⟩)
    · exact .inl (.inl (.inl (.inl (.inl h))))
    · exact .inl (.inl (.inl (.inr ⟨h, g⟩)))
    · exact .inl (.inl (.inl (.inl (.inr ⟨⟨h, g⟩, k⟩))))
    · exact .inl (.inr ⟨⟨h, g⟩, k⟩)
    · exact .inl (.inl (.inr ⟨g, h⟩))
    · exact .inr ⟨⟨h, g⟩, k⟩
/-- What is ahead of an event: what its thread, its lock, its signal, its other thread know. -/
theorem past_iff {j : Nat} (hj : j < l.length) (i : Nat) : Ahd l i j ↔ TS l j (at' l j).thr.toNat i ∨ ((at' l j).kind = 3 ∧ LS l j (at' l j).obj.toNat i) ∨ ((at' l j).kind = 7 ∧ VS l j (at' l j).obj.toNat i) ∨ ((at' l j).kind = 6 ∧ TS l j (at' l j).obj.toNat i) := by
  unfold Ahd
  rw [Pth.last]
  have key : ∀ c, upP (dirL l) c j = true ↔ c < j ∧ dirL l c j = true := fun c => by simp [upP]
  constructor
  · rintro ⟨c, h1, h2⟩
    obtain ⟨hc, hd⟩ := (key c).1 h1
    rcases (dir_iff hok hc hj).1 hd with h | ⟨k, h⟩ | ⟨k, h⟩ | ⟨k, h⟩
    · exact .inl ⟨c, hc, h2, h⟩
    · exact .inr (.inl ⟨k, c, hc, h2, h⟩)
    · exact .inr (.inr (.inl ⟨k, c, hc, h2, h⟩))
    · exact .inr (.inr (.inr ⟨k, c, hc, h2, h⟩))
  · rintro (⟨c, hc, h2, h⟩ | ⟨k, c, hc, h2, h⟩ | ⟨k, c, hc, h2, h⟩ | ⟨k, c, hc, h2, h⟩)
    · exact ⟨c, (key c).2 ⟨hc, (dir_iff hok hc hj).2 (.inl h)⟩, h2⟩
    · exact ⟨c, (key c).2 ⟨hc, (dir_iff hok hc hj).2 (.inr (.inl ⟨k, h⟩))⟩, h2⟩
    · exact ⟨c, (key c).2 ⟨hc, (dir_iff hok hc hj).2 (.inr (.inr (.inl ⟨k, h⟩)))⟩, h2⟩
    · exact ⟨c, (key c).2 ⟨hc, (dir_iff hok hc hj).2 (.inr (.inr (.inr ⟨k, h⟩)))⟩, h2⟩
end
theorem joinC_at {a b : Clk} {u : Nat} (hu : u < 6) {x y : Nat} (ha : a u = x) (hb : b u = y) : joinC a b u = (max x y : Nat) := by
  simp only [joinC, mrg, if_pos hu, mxI, ha, hb]
  split <;> omega
/-- What the keeper holds. -/
structure KI (l : List Ev) (j : Nat) (k : Kp) : Prop where
  thr : ∀ t u, t < 6 → u < 6 → k.thr t u = (cnt l (TS l j t) u l.length : Nat)
  lk : ∀ m u, m < 5 → u < 6 → k.lk m u = (cnt l (LS l j m) u l.length : Nat)
  vl : ∀ v u, v < 4 → u < 6 → k.vl v u = (cnt l (VS l j v) u l.length : Nat)
section
variable {l : List Ev} (hok : (checkR l).2 = 0)
include hok
theorem pre_at {j : Nat} (hj : j < l.length) {k : Kp} (h : KI l j k) {u : Nat} (hu : u < 6) : preC k (at' l j) u = (cnt l (fun i => Ahd l i j) u l.length : Nat) := by
  have b := bnd hok hj
  have ht : (at' l j).thr.toNat < 6 := by omega
  have dT : ∀ t, DC l (TS l j t) := fun t => dc_ex hok (Nat.le_of_lt hj)
  have dL : ∀ t, DC l (LS l j t) := fun t => dc_ex hok (Nat.le_of_lt hj)
  have dV : ∀ t, DC l (VS l j t) := fun t => dc_ex hok (Nat.le_of_lt hj)
  have pc : ∀ {S : Nat → Prop}, (∀ i, Ahd l i j ↔ S i) → cnt l (fun i => Ahd l i j) u l.length = cnt l S u l.length := fun hS => cnt_congr fun i _ _ => hS i
  unfold preC
  by_cases k3 : (at' l j).kind = 3
  · have b5 : (at' l j).obj < 5 := by have := b.2.2.2; simp only [many, k3, Int.reduceEq, or_self, or_true, true_or, if_true, if_false] at this; exact this
    rw [if_pos k3, joinC_at hu (h.thr _ u ht hu) (h.lk _ u (by omega) hu), ← cnt_or (dT _) (dL _)]
    congr 1
    exact (pc fun i => by rw [past_iff hok hj]; simp [k3]).symm
  by_cases k7 : (at' l j).kind = 7
  · have b5 : (at' l j).obj < 4 := by have := b.2.2.2; simp only [many, k7, Int.reduceEq, or_self, or_true, true_or, if_true, if_false] at this; exact this
    rw [if_neg k3, if_pos k7, joinC_at hu (h.thr _ u ht hu) (h.vl _ u (by omega) hu), ← cnt_or (dT _) (dV _)]
    congr 1
    exact (pc fun i => by rw [past_iff hok hj]; simp [k7]).symm
  by_cases k6 : (at' l j).kind = 6
  · have b5 : (at' l j).obj < 6 := by have := b.2.2.2; simp only [many, k6, Int.reduceEq, or_self, or_true, true_or, if_true, if_false] at this; exact this
    rw [if_neg k3, if_neg k7, if_pos k6, joinC_at hu (h.thr _ u ht hu) (h.thr _ u (by omega) hu), ← cnt_or (dT _) (dT _)]
    congr 1
    exact (pc fun i => by rw [past_iff hok hj]; simp [k6]).symm
  · rw [if_neg k3, if_neg k7, if_neg k6, h.thr _ u ht hu]
    congr 1
    exact (pc fun i => by rw [past_iff hok hj]; simp [k3, k7, k6]).symm
theorem now_at {j : Nat} (hj : j < l.length) {k : Kp} (h : KI l j k) {u : Nat} (hu : u < 6) : nowC k (at' l j) u = (cnt l (fun i => Le' l i j) u l.length : Nat) := by
  have b := bnd hok hj
  have hl := ok_len hok
  have ht : (at' l j).thr.toNat < 6 := by omega
  have hn : ¬ Ahd l j j := fun h => Nat.lt_irrefl _ h.lt
  have e := cnt_one (l := l) (S := fun i => Ahd l i j) (u := u) (j := j) hn (n := l.length)
  have hb := cnt_bound (l := l) (S := fun i => Ahd l i j) (u := u) l.length
  unfold nowC incC
  have e2 : cnt l (fun i => Le' l i j) u l.length = cnt l (fun i => i = j ∨ Ahd l i j) u l.length := rfl
  rw [e2, e]
  by_cases hut : u = (at' l j).thr.toNat
  · rw [if_pos hut, ← hut, pre_at hok hj h hu, if_pos ⟨hj, rfl⟩]
    exact IntWalk.i64_in _ (by omega)
  · rw [if_neg hut, pre_at hok hj h hu, if_neg (fun h => hut h.2.symm)]
    simp
theorem TS_sub {j : Nat} (hj : j < l.length) {i : Nat} (h : TS l j (at' l j).thr.toNat i) : Ahd l i j := (past_iff hok hj i).2 (.inl h)
theorem KI_step {j : Nat} (hj : j < l.length) {k : Kp} (h : KI l j k) : KI l (j + 1) (takeK k (at' l j)) := by
  have b := bnd hok hj
  have nw : ∀ {u : Nat}, u < 6 → nowC k (at' l j) u = (cnt l (fun i => Le' l i j) u l.length : Nat) := fun hu => now_at hok hj h hu
  have hthr : ∀ t u, t < 6 → u < 6 → ¬ ((at' l j).kind = 5 ∧ (at' l j).obj.toNat = t) → updC k.thr (at' l j).thr.toNat (nowC k (at' l j)) t u = (cnt l (TS l (j + 1) t) u l.length : Nat) := by
    intro t u ht hu hnf
    unfold updC
    by_cases e : t = (at' l j).thr.toNat
    · rw [if_pos e, nw hu]
      congr 1
      refine cnt_congr fun i _ _ => ⟨fun hi => ⟨j, by omega, hi, .inl e.symm⟩, ?_⟩
      rintro ⟨c, hc, h1, h2⟩
      by_cases ec : c = j
      · exact ec ▸ h1
      · exact .inr (TS_sub hok hj (e ▸ ⟨c, by omega, h1, h2⟩))
    · rw [if_neg e, h.thr t u ht hu]
      congr 1
      refine cnt_congr fun i _ _ => ⟨?_, ?_⟩
      · rintro ⟨c, hc, h1, h2⟩
        exact ⟨c, by omega, h1, h2⟩
      · rintro ⟨c, hc, h1, h2⟩
        by_cases ec : c = j
        · subst ec
          rcases h2 with h2 | h2
          · exact absurd h2.symm e
          · exact absurd h2 hnf
        · exact ⟨c, by omega, h1, h2⟩
  have hlk : (at' l j).kind ≠ 4 → ∀ m u, m < 5 → u < 6 → k.lk m u = (cnt l (LS l (j + 1) m) u l.length : Nat) := by
    intro k4 m u hm hu
    rw [h.lk m u hm hu]
    congr 1
    refine cnt_congr fun i _ _ => ⟨?_, ?_⟩
    · rintro ⟨c, hc, h1, h2⟩
      exact ⟨c, by omega, h1, h2⟩
    · rintro ⟨c, hc, h1, h2⟩
      by_cases ec : c = j
      · subst ec; exact absurd h2.1 k4
      · exact ⟨c, by omega, h1, h2⟩
  have hvl : (at' l j).kind ≠ 8 → ∀ m u, m < 4 → u < 6 → k.vl m u = (cnt l (VS l (j + 1) m) u l.length : Nat) := by
    intro k4 m u hm hu
    rw [h.vl m u hm hu]
    congr 1
    refine cnt_congr fun i _ _ => ⟨?_, ?_⟩
    · rintro ⟨c, hc, h1, h2⟩
      exact ⟨c, by omega, h1, h2⟩
    · rintro ⟨c, hc, h1, h2⟩
      by_cases ec : c = j
      · subst ec; exact absurd h2.1 k4
      · exact ⟨c, by omega, h1, h2⟩
  have dN : DC l (fun i => Le' l i j) := dc_le hok hj
  unfold takeK
  by_cases k4 : (at' l j).kind = 4
  · have b5 : (at' l j).obj < 5 := by have := b.2.2.2; simp only [many, k4, Int.reduceEq, or_self, or_true, true_or, if_true, if_false] at this; exact this
    simp only [k4, if_true]
    refine ⟨fun t u ht hu => hthr t u ht hu (by simp [k4]), fun m u hm hu => ?_, fun v u hv hu => hvl (by simp [k4]) v u hv hu⟩
    have hDD : ∀ t, DC l (LS l j t) := fun t => dc_ex hok (Nat.le_of_lt hj)
    show updC k.lk (at' l j).obj.toNat (joinC (k.lk (at' l j).obj.toNat) (nowC k (at' l j))) m u = _
    unfold updC
    by_cases e : m = (at' l j).obj.toNat
    · rw [if_pos e, joinC_at hu (h.lk _ u (by omega) hu) (nw hu), ← cnt_or (hDD _) dN]
      congr 1
      refine cnt_congr fun i _ _ => ⟨?_, ?_⟩
      · rintro (⟨c, hc, h1, h2⟩ | h1)
        · exact ⟨c, by omega, h1, h2.1, by rw [e]; exact h2.2⟩
        · exact ⟨j, by omega, h1, k4, e.symm⟩
      · rintro ⟨c, hc, h1, h2⟩
        by_cases ec : c = j
        · exact .inr (ec ▸ h1)
        · exact .inl ⟨c, by omega, h1, h2.1, by rw [← e]; exact h2.2⟩
    · rw [if_neg e, h.lk m u hm hu]
      congr 1
      refine cnt_congr fun i _ _ => ⟨?_, ?_⟩
      · rintro ⟨c, hc, h1, h2⟩
        exact ⟨c, by omega, h1, h2⟩
      · rintro ⟨c, hc, h1, h2⟩
        by_cases ec : c = j
        · subst ec; exact absurd h2.2.symm e
        · exact ⟨c, by omega, h1, h2⟩
  by_cases k8 : (at' l j).kind = 8
  · have b5 : (at' l j).obj < 4 := by have := b.2.2.2; simp only [many, k8, Int.reduceEq, or_self, or_true, true_or, if_true, if_false] at this; exact this
    simp only [k8, Int.reduceEq, if_true, if_false]
    refine ⟨fun t u ht hu => hthr t u ht hu (by simp [k8]), fun m u hm hu => hlk k4 m u hm hu, fun v u hv hu => ?_⟩
    have hDD : ∀ t, DC l (VS l j t) := fun t => dc_ex hok (Nat.le_of_lt hj)
    show updC k.vl (at' l j).obj.toNat (joinC (k.vl (at' l j).obj.toNat) (nowC k (at' l j))) v u = _
    unfold updC
    by_cases e : v = (at' l j).obj.toNat
    · rw [if_pos e, joinC_at hu (h.vl _ u (by omega) hu) (nw hu), ← cnt_or (hDD _) dN]
      congr 1
      refine cnt_congr fun i _ _ => ⟨?_, ?_⟩
      · rintro (⟨c, hc, h1, h2⟩ | h1)
        · exact ⟨c, by omega, h1, h2.1, by rw [e]; exact h2.2⟩
        · exact ⟨j, by omega, h1, k8, e.symm⟩
      · rintro ⟨c, hc, h1, h2⟩
        by_cases ec : c = j
        · exact .inr (ec ▸ h1)
        · exact .inl ⟨c, by omega, h1, h2.1, by rw [← e]; exact h2.2⟩
    · rw [if_neg e, h.vl v u hv hu]
      congr 1
      refine cnt_congr fun i _ _ => ⟨?_, ?_⟩
      · rintro ⟨c, hc, h1, h2⟩
        exact ⟨c, by omega, h1, h2⟩
      · rintro ⟨c, hc, h1, h2⟩
        by_cases ec : c = j
        · subst ec; exact absurd h2.2.symm e
        · exact ⟨c, by omega, h1, h2⟩
  by_cases k5 : (at' l j).kind = 5
  · simp only [k5, Int.reduceEq, if_true, if_false]
    refine ⟨fun t u ht hu => ?_, fun m u hm hu => hlk k4 m u hm hu, fun v u hv hu => hvl k8 v u hv hu⟩
    show updC (updC k.thr (at' l j).thr.toNat (nowC k (at' l j))) (at' l j).obj.toNat (nowC k (at' l j)) t u = _
    by_cases e : t = (at' l j).obj.toNat
    · have e1 : updC (updC k.thr (at' l j).thr.toNat (nowC k (at' l j))) (at' l j).obj.toNat (nowC k (at' l j)) t u = nowC k (at' l j) u := by
        unfold updC; rw [if_pos e]
      rw [e1, nw hu]
      congr 1
      refine cnt_congr fun i _ _ => ⟨fun hi => ⟨j, by omega, hi, .inr ⟨k5, e.symm⟩⟩, ?_⟩
      rintro ⟨c, hc, h1, h2⟩
      by_cases ec : c = j
      · exact ec ▸ h1
      · have hcj : c < j := by omega
        have bc := bnd hok (show c < l.length by omega)
        obtain ⟨f1, f2⟩ := fork_fresh hok hj k5 hcj
        rcases h2 with h2 | h2
        · exact absurd (by omega) f1
        · exact absurd ⟨h2.1, by omega⟩ f2
    · have e1 : updC (updC k.thr (at' l j).thr.toNat (nowC k (at' l j))) (at' l j).obj.toNat (nowC k (at' l j)) t u = updC k.thr (at' l j).thr.toNat (nowC k (at' l j)) t u := by
        conv => lhs; unfold updC
        rw [if_neg e]; rfl
      rw [e1]
      exact hthr t u ht hu (fun hh => e hh.2.symm)
  · simp only [k4, k8, k5, if_false]
    exact ⟨fun t u ht hu => hthr t u ht hu (fun hh => k5 hh.1), fun m u hm hu => hlk k4 m u hm hu, fun v u hv hu => hvl k8 v u hv hu⟩
theorem KI_at : ∀ {j : Nat}, j ≤ l.length → KI l j (kAt l j)
  | 0, _ => by
    have z : ∀ (S : Nat → Prop) u n, (∀ i, ¬ S i) → cnt l S u n = 0 := by
      intro S u n hS
      induction n with
      | zero => rfl
      | succ n ih => simp only [cnt, ih]; rw [if_neg (fun h => hS n h.1)]
    refine ⟨fun t u _ _ => ?_, fun m u _ _ => ?_, fun v u _ _ => ?_⟩
    · rw [z _ _ _ (fun i h => by obtain ⟨c, hc, _⟩ := h; omega)]; rfl
    · rw [z _ _ _ (fun i h => by obtain ⟨c, hc, _⟩ := h; omega)]; rfl
    · rw [z _ _ _ (fun i h => by obtain ⟨c, hc, _⟩ := h; omega)]; rfl
  | j + 1, hj => KI_step hok (by omega) (KI_at (by omega))
omit hok in
theorem setR_iff {i j : Nat} (hj : j < l.length) : setR l j i = true ↔ Le' l i j := by
  simp only [setR, Bool.or_eq_true, decide_eq_true_eq, aheadR_iff (Nat.le_of_lt hj)]
  rfl
/-- **The clocks are those of the reference.** -/
theorem stamps_at {j u : Nat} (hj : j < l.length) (hu : u < 6) : nowC (kAt l j) (at' l j) u = cw l (setR l j) u l.length := by
  have hl := ok_len hok
  rw [now_at hok hj (KI_at hok (Nat.le_of_lt hj)) hu, cw_cnt l _ u _ (by omega)]
  congr 1
  exact cnt_congr fun i _ _ => (setR_iff hj).symm
end
end Go.Proofs.Ytohbjnpafpcbkaa.St
