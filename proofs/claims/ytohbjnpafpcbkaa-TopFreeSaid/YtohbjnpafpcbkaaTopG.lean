/- Traces in which whatever is not apart lies alike are the same but for order. Conditions: none. -/
import Derived.Test.YtohbjnpafpcbkaaTopR
section
set_option linter.unusedSimpArgs false
set_option linter.unusedVariables false
open Go Go.Sx Go.Proofs
namespace Go.Proofs.Ytohbjnpafpcbkaa.Tp
open Go.Proofs.Ytohbjnpafpcbkaa.D Go.Proofs.Ytohbjnpafpcbkaa.Tr Go.Proofs.Ytohbjnpafpcbkaa.Sw
/-- One is ahead of another one, in a list. -/
def Bf {α : Type} : List α → α → α → Prop
  | [], _, _ => False
  | a :: r, x, y => (a = x ∧ y ∈ r) ∨ Bf r x y
section
variable {α : Type}
theorem Bf.mem : ∀ {L : List α} {x y : α}, Bf L x y → x ∈ L ∧ y ∈ L
  | _ :: r, x, y, h => by
    rcases h with ⟨rfl, h⟩ | h
    · exact ⟨List.mem_cons_self .., List.mem_cons_of_mem _ h⟩
    · exact ⟨List.mem_cons_of_mem _ h.mem.1, List.mem_cons_of_mem _ h.mem.2⟩
theorem Bf.total : ∀ {L : List α} {x y : α}, x ∈ L → y ∈ L → x ≠ y → Bf L x y ∨ Bf L y x
  | a :: r, x, y, hx, hy, hn => by
    rcases List.mem_cons.1 hx with hx | hx <;> rcases List.mem_cons.1 hy with hy | hy
    · exact absurd (hx.trans hy.symm) hn
    · exact .inl (.inl ⟨hx.symm, hy⟩)
    · exact .inr (.inl ⟨hy.symm, hx⟩)
    · rcases Bf.total hx hy hn with h | h
      · exact .inl (.inr h)
      · exact .inr (.inr h)
theorem Bf.asymm : ∀ {L : List α} {x y : α}, L.Nodup → Bf L x y → Bf L y x → False
  | a :: r, x, y, hd, h, k => by
    obtain ⟨h1, h2⟩ := List.nodup_cons.1 hd
    rcases h with ⟨rfl, h⟩ | h <;> rcases k with ⟨rfl, k⟩ | k
    · exact h1 h
    · exact h1 k.mem.2
    · exact h1 h.mem.2
    · exact Bf.asymm h2 h k
theorem Bf.trans : ∀ {L : List α} {x y z : α}, L.Nodup → Bf L x y → Bf L y z → Bf L x z
  | a :: r, x, y, z, hd, h, k => by
    obtain ⟨h1, h2⟩ := List.nodup_cons.1 hd
    rcases h with ⟨rfl, h⟩ | h <;> rcases k with ⟨rfl, k⟩ | k
    · exact .inl ⟨rfl, k⟩
    · exact .inl ⟨rfl, k.mem.2⟩
    · exact absurd h.mem.2 h1
    · exact .inr (Bf.trans h2 h k)
theorem Bf.filter {P : α → Bool} : ∀ {L : List α} {x y : α}, Bf (L.filter P) x y ↔ Bf L x y ∧ P x = true ∧ P y = true
  | [], x, y => ⟨fun h => h.elim, fun h => h.1⟩
  | a :: r, x, y => by
    rw [List.filter_cons]
    split
    · rename_i hp
      simp only [Bf, List.mem_filter, Bf.filter (L := r)]
      constructor
      · rintro (⟨rfl, h1, h2⟩ | ⟨h, h1, h2⟩)
        · exact ⟨.inl ⟨rfl, h1⟩, hp, h2⟩
        · exact ⟨.inr h, h1, h2⟩
      · rintro ⟨⟨rfl, h1⟩ | h, h2, h3⟩
        · exact .inl ⟨rfl, h1, h3⟩
        · exact .inr ⟨h, h2, h3⟩
    · rename_i hp
      rw [Bf.filter (L := r)]
      constructor
      · rintro ⟨h, h1, h2⟩; exact ⟨.inr h, h1, h2⟩
      · rintro ⟨⟨rfl, h1⟩ | h, h2, h3⟩
        · exact absurd h2 hp
        · exact ⟨h, h2, h3⟩
theorem Bf.map {β : Type} {f : α → β} : ∀ {L : List α} {x y : α}, Bf L x y → Bf (L.map f) (f x) (f y)
  | a :: r, x, y, h => by
    rcases h with ⟨rfl, h⟩ | h
    · exact .inl ⟨rfl, List.mem_map_of_mem h⟩
    · exact .inr h.map
theorem Bf.at {d : α} : ∀ {L : List α} {i j : Nat}, i < j → j < L.length → Bf L (L.getD i d) (L.getD j d)
  | [], i, j, _, h => absurd h (Nat.not_lt_zero _)
  | a :: r, 0, j + 1, _, h => by
    have h' : j < r.length := by simpa using h
    refine .inl ⟨rfl, ?_⟩
    rw [List.getD_cons_succ, show r.getD j d = r[j] by simp [List.getD, h']]
    exact List.getElem_mem ..
  | a :: r, i + 1, j + 1, h1, h2 => .inr (by
    rw [List.getD_cons_succ, List.getD_cons_succ]
    exact Bf.at (by omega) (by simpa using h2))
theorem Bf.ex {d : α} : ∀ {L : List α} {x y : α}, Bf L x y → ∃ i j, i < j ∧ j < L.length ∧ L.getD i d = x ∧ L.getD j d = y
  | a :: r, x, y, h => by
    rcases h with ⟨rfl, h⟩ | h
    · obtain ⟨j, hj, rfl⟩ := List.mem_iff_getElem.1 h
      exact ⟨0, j + 1, by omega, by simp; omega, rfl, by rw [List.getD_cons_succ]; simp [List.getD, hj]⟩
    · obtain ⟨i, j, h1, h2, h3, h4⟩ := h.ex (d := d)
      exact ⟨i + 1, j + 1, by omega, by simp; omega, by rw [List.getD_cons_succ]; exact h3, by rw [List.getD_cons_succ]; exact h4⟩
theorem Bf.split : ∀ {xs ys : List α} {x z : α}, z ∈ xs → Bf (xs ++ x :: ys) z x
  | a :: r, ys, x, z, h => by
    rcases List.mem_cons.1 h with rfl | h
    · exact .inl ⟨rfl, by simp⟩
    · exact .inr (Bf.split h)
theorem Bf.drop : ∀ {xs ys : List α} {x u v : α}, Bf (xs ++ x :: ys) u v → u ≠ x → v ≠ x → Bf (xs ++ ys) u v
  | [], ys, x, u, v, h, hu, hv => by
    rcases h with ⟨rfl, _⟩ | h
    · exact absurd rfl hu
    · exact h
  | a :: r, ys, x, u, v, h, hu, hv => by
    rcases h with ⟨rfl, h⟩ | h
    · have h : v ∈ r ++ x :: ys := h
      have k : v ∈ r ++ ys := by
        rw [List.mem_append] at h ⊢
        rcases h with h | h
        · exact .inl h
        · rcases List.mem_cons.1 h with h | h
          · exact absurd h hv
          · exact .inr h
      exact .inl ⟨rfl, k⟩
    · exact .inr (Bf.drop h hu hv)
end
/-- Each event by its name: which of its like it is. -/
def nmC (c : Ev → Nat) : List Ev → List (Ev × Nat)
  | [] => []
  | x :: r => (x, c x) :: nmC (fun y => if y = x then c y + 1 else c y) r
def cntE (x : Ev) : List Ev → Nat
  | [] => 0
  | y :: r => (if x = y then 1 else 0) + cntE x r
def nmL (l : List Ev) : List (Ev × Nat) := nmC (fun _ => 0) l
theorem nm_fst : ∀ (l : List Ev) (c : Ev → Nat), (nmC c l).map (·.1) = l
  | [], _ => rfl
  | x :: r, c => by rw [nmC, List.map_cons, nm_fst r]
theorem nm_len (l : List Ev) (c : Ev → Nat) : (nmC c l).length = l.length := by
  have := congrArg List.length (nm_fst l c)
  rwa [List.length_map] at this
theorem nm_mem : ∀ {l : List Ev} {c : Ev → Nat} {x : Ev} {k : Nat}, (x, k) ∈ nmC c l ↔ c x ≤ k ∧ k < c x + cntE x l
  | [], c, x, k => by simp only [nmC, cntE, List.not_mem_nil, false_iff]; omega
  | y :: r, c, x, k => by
    rw [nmC, List.mem_cons, nm_mem (l := r), cntE]
    by_cases h : x = y
    · subst h
      simp only [Prod.mk.injEq, true_and, if_true]
      omega
    · simp only [Prod.mk.injEq, h, false_and, false_or, if_false]
      omega
theorem nm_nodup : ∀ (l : List Ev) (c : Ev → Nat), (nmC c l).Nodup
  | [], _ => List.nodup_nil
  | x :: r, c => by
    rw [nmC, List.nodup_cons]
    refine ⟨fun h => ?_, nm_nodup r _⟩
    have := (nm_mem.1 h).1
    simp only [if_true] at this
    omega
theorem nm_filter (P : Ev → Bool) : ∀ (l : List Ev) (c c' : Ev → Nat), (∀ y, P y = true → c y = c' y) → (nmC c l).filter (fun x => P x.1) = nmC c' (l.filter P)
  | [], _, _, _ => rfl
  | x :: r, c, c', h => by
    rw [nmC, List.filter_cons, List.filter_cons]
    split
    · rename_i hp
      rw [nmC, h x hp, nm_filter P r _ (fun y => if y = x then c' y + 1 else c' y) fun y hy => by
        show (if y = x then c y + 1 else c y) = _
        rw [h y hy]]
    · rename_i hp
      refine nm_filter P r _ c' fun y hy => ?_
      show (if y = x then c y + 1 else c y) = _
      rw [if_neg (fun e => hp (by rw [← e]; exact hy)), h y hy]
/-- What lies alike in what is left when others are struck lies alike. -/
theorem nm_bf {P : Ev → Bool} {l m : List Ev} (h : l.filter P = m.filter P) {x y : Ev × Nat} (hb : Bf (nmL l) x y) (hx : P x.1 = true) (hy : P y.1 = true) : Bf (nmL m) x y := by
  have h1 := (Bf.filter (P := fun x : Ev × Nat => P x.1)).2 ⟨hb, hx, hy⟩
  unfold nmL at h1
  rw [nm_filter P l _ (fun _ => 0) (fun _ _ => rfl), h, ← nm_filter P m (fun _ => 0) _ (fun _ _ => rfl)] at h1
  exact (Bf.filter.1 h1).1
theorem cnt_filter {x : Ev} {P : Ev → Bool} (hx : P x = true) : ∀ (l : List Ev), cntE x (l.filter P) = cntE x l
  | [] => rfl
  | y :: r => by
    rw [List.filter_cons]
    split
    · rw [cntE, cntE, cnt_filter hx r]
    · rename_i hp
      rw [cntE, cnt_filter hx r, if_neg (fun e => hp (by rw [← e]; exact hx)), Nat.zero_add]
theorem apart_symm (a b : Ev) : apartB a b = apartB b a := by
  unfold apartB
  by_cases h1 : a.thr = b.thr
  · simp [h1]
  · have h1' : ¬ b.thr = a.thr := fun e => h1 e.symm
    cases h2 : touchB a b <;> cases h3 : touchB b a <;> simp [h1, h1']
    by_cases hg : (grp a.kind).1 = (grp b.kind).1
    · by_cases ho : a.obj = b.obj
      · simp [hg, ho, Bool.and_comm]
      · have ho' : ¬ b.obj = a.obj := fun e => ho e.symm
        simp [ho, ho']
    · have hg' : ¬ (grp b.kind).1 = (grp a.kind).1 := fun e => hg e.symm
      simp [hg, hg']
/-- **Names that lie alike wherever they are not apart: the same but for order.** -/
theorem eqv_names : ∀ (L M : List (Ev × Nat)), L.Nodup → M.Nodup → (∀ x, x ∈ L ↔ x ∈ M) → (∀ x y, Bf L x y → apartB x.1 y.1 = false → Bf M x y) → Eqv (M.map (·.1)) (L.map (·.1))
  | [], M, _, _, hm, _ => by
    have : M = [] := List.eq_nil_iff_forall_not_mem.2 fun x hx => by have := (hm x).2 hx; cases this
    subst this
    exact .refl _
  | x :: r, M, hL, hM, hm, hb => by
    obtain ⟨hx, hr⟩ := List.nodup_cons.1 hL
    obtain ⟨xs, ys, rfl⟩ := List.append_of_mem ((hm x).1 (List.mem_cons_self ..))
    have hM' := hM
    rw [List.nodup_append] at hM'
    obtain ⟨n1, n2, n3⟩ := hM'
    obtain ⟨n4, n5⟩ := List.nodup_cons.1 n2
    have hxs : x ∉ xs := fun h => n3 x h x (List.mem_cons_self ..) rfl
    have hne : ∀ z, z ∈ xs ++ ys → z ≠ x := fun z hz e => by
      subst e
      rcases List.mem_append.1 hz with h | h
      · exact hxs h
      · exact n4 h
    have hfr : ∀ z ∈ xs.map (·.1), apartB z x.1 = true := by
      intro z hz
      obtain ⟨w, hw, rfl⟩ := List.mem_map.1 hz
      cases hap : apartB w.1 x.1 with
      | true => rfl
      | false =>
        have hwx := hne w (List.mem_append_left _ hw)
        have hwr : w ∈ r := by
          rcases List.mem_cons.1 ((hm w).2 (by simp [hw])) with e | e
          · exact absurd e hwx
          · exact e
        have h1 : Bf (xs ++ x :: ys) x w := hb x w (.inl ⟨rfl, hwr⟩) (by rw [apart_symm]; exact hap)
        exact (Bf.asymm hM h1 (Bf.split hw)).elim
    have h2 : Eqv ((xs ++ x :: ys).map (·.1)) (x.1 :: (xs.map (·.1) ++ ys.map (·.1))) := by
      rw [List.map_append, List.map_cons]
      exact Eqv.front hfr
    refine .trans h2 (Eqv.cons x.1 ?_)
    rw [← List.map_append]
    refine eqv_names r (xs ++ ys) hr ?_ (fun z => ?_) fun u v huv hap => ?_
    · rw [List.nodup_append]
      exact ⟨n1, n5, fun a ha b hb' => n3 a ha b (List.mem_cons_of_mem _ hb')⟩
    · constructor
      · intro hz
        have hzx : z ≠ x := fun e => hx (e ▸ hz)
        have := (hm z).1 (List.mem_cons_of_mem _ hz)
        simp only [List.mem_append, List.mem_cons] at this ⊢
        rcases this with h | h | h
        · exact .inl h
        · exact absurd h hzx
        · exact .inr h
      · intro hz
        have hzx := hne z hz
        have : z ∈ x :: r := (hm z).2 (by
          simp only [List.mem_append, List.mem_cons] at hz ⊢
          rcases hz with h | h
          · exact .inl h
          · exact .inr (.inr h))
        rcases List.mem_cons.1 this with e | e
        · exact absurd e hzx
        · exact e
    · have hu : u ≠ x := fun e => hx (e ▸ huv.mem.1)
      have hv : v ≠ x := fun e => hx (e ▸ huv.mem.2)
      exact (hb u v (.inr huv) hap).drop hu hv
/-- Traces with the same events of each thread, in which what is not apart lies alike. -/
theorem eqv_of {l m : List Ev} (ht : ∀ t : Int, l.filter (fun e => decide (e.thr = t)) = m.filter (fun e => decide (e.thr = t))) (hb : ∀ x y, Bf (nmL l) x y → x.1.thr ≠ y.1.thr → apartB x.1 y.1 = false → Bf (nmL m) x y) : Eqv m l := by
  have := eqv_names (nmL l) (nmL m) (nm_nodup _ _) (nm_nodup _ _) (fun x => ?_) (fun x y h ha => ?_)
  · unfold nmL at this
    rwa [nm_fst, nm_fst] at this
  · obtain ⟨x, k⟩ := x
    have hc : cntE x l = cntE x m := by
      have hp : (fun e : Ev => decide (e.thr = x.thr)) x = true := by simp
      rw [← cnt_filter (P := fun e : Ev => decide (e.thr = x.thr)) hp l, ht x.thr, cnt_filter (P := fun e : Ev => decide (e.thr = x.thr)) hp m]
    unfold nmL
    rw [nm_mem, nm_mem, hc]
  · by_cases e : x.1.thr = y.1.thr
    · exact nm_bf (ht x.1.thr) h (by simp) (by simp [e])
    · exact hb x y h e ha
end Go.Proofs.Ytohbjnpafpcbkaa.Tp
end
section
set_option linter.unusedSimpArgs false
set_option linter.unusedVariables false
open Go Go.Sx Go.Proofs
namespace Go.Proofs.Ytohbjnpafpcbkaa.Tp
open Go.Proofs.Ytohbjnpafpcbkaa.D Go.Proofs.Ytohbjnpafpcbkaa.Tr Go.Proofs.Ytohbjnpafpcbkaa.Pg Go.Proofs.Ytohbjnpafpcbkaa.Rn Go.Proofs.Ytohbjnpafpcbkaa.Sw
/-- What a thread would tell, op by op. -/
structure Mc where
  out : List Ev
  held : Nat → Bool
  fk : Nat → Bool
def mcS (t : Nat) (c : Mc) (o : PO) : Mc :=
  if o.kind = 3 then c else
  if o.kind = 4 then ⟨c.out ++ [⟨3, t, o.obj⟩], Tr.upd c.held o.obj.toNat true, c.fk⟩ else
  if o.kind = 5 then (if c.held o.obj.toNat = true then ⟨c.out ++ [⟨4, t, o.obj⟩], Tr.upd c.held o.obj.toNat false, c.fk⟩ else c) else
  if o.kind = 6 then (if c.fk o.obj.toNat = true then ⟨c.out ++ [⟨5, t, o.obj⟩], c.held, Tr.upd c.fk o.obj.toNat false⟩ else c) else
  ⟨c.out ++ [⟨kindM o.kind, t, o.obj⟩], c.held, c.fk⟩
def prj (t : Int) (l : List Ev) : List Ev := l.filter fun e => decide (e.thr = t)
def hasF (E : List Ev) (t u : Nat) : Bool := decide ((⟨5, t, u⟩ : Ev) ∈ E)
def mcR (E : List Ev) (t : Nat) (ops : List PO) : Mc := ops.foldl (mcS t) ⟨[], fun _ => false, hasF E t⟩
theorem mem_at {l : List Ev} {e : Ev} (h : e ∈ l) : ∃ j, j < l.length ∧ at' l j = e := by
  obtain ⟨j, hj, rfl⟩ := List.mem_iff_getElem.1 h
  exact ⟨j, hj, by simp [at', List.getD, hj]⟩
theorem fork_one {l : List Ev} (h : (checkR l).2 = 0) {t t' u : Int} (h1 : (⟨5, t, u⟩ : Ev) ∈ l) (h2 : (⟨5, t', u⟩ : Ev) ∈ l) : t = t' := by
  obtain ⟨i, hi, ei⟩ := mem_at h1
  obtain ⟨j, hj, ej⟩ := mem_at h2
  rcases Nat.lt_trichotomy i j with hij | hij | hij
  · exact absurd ⟨by rw [ei], by rw [ei, ej]⟩ (fork_fresh h hj (by rw [ej]) hij).2
  · subst hij; rw [ei] at ej; exact congrArg Ev.thr ej
  · exact absurd ⟨by rw [ej], by rw [ei, ej]⟩ (fork_fresh h hi (by rw [ei]) hij).2
theorem fork_pos {l : List Ev} (h : (checkR l).2 = 0) {t u : Int} (h1 : (⟨5, t, u⟩ : Ev) ∈ l) : u ≠ 0 := by
  obtain ⟨i, hi, ei⟩ := mem_at h1
  obtain ⟨_, _, _, _, _, hf, _⟩ := ok_parts h hi
  have := hf (by rw [ei])
  rw [ei] at this
  simp only [begB, Bool.or_eq_false_iff, decide_eq_false_iff_not] at this
  exact this.1
theorem step_mc {p : List (List PO)} {s : Sta} {E l : List Ev} {n : Nat} {o : PO} (hd : Does p s n o) (hE : (checkR E).2 = 0) (hsub : evK s p n o ≠ 0 → (⟨evK s p n o, n, o.obj⟩ : Ev) ∈ E) (hfl : ∀ e ∈ E, e.kind = 5 → e.obj < p.length) {t : Nat} (ht : t < p.length)
    (ih : mcR E t ((p.getD t []).take (s.at' t).toNat) = ⟨prj t l, fun k => decide (s.owner k = (t : Int) + 1), fun u => hasF E t u && !s.begun u⟩) :
    mcR E t ((p.getD t []).take ((stF s p n o).at' t).toNat) = ⟨prj t (l ++ if evK s p n o = 0 then [] else [⟨evK s p n o, n, o.obj⟩]), fun k => decide ((stF s p n o).owner k = (t : Int) + 1), fun u => hasF E t u && !(stF s p n o).begun u⟩ := by
  have h0 := hd.o0
  have hobj : ((o.obj.toNat : Nat) : Int) = o.obj := by omega
  have hb := bnd_kind ⟨hd.o0, hd.o1⟩
  by_cases e : t = n
  · subst e
    have hat : ((stF s p t o).at' t).toNat = (s.at' t).toNat + 1 := by
      show (Tr.upd s.at' t (s.at' t + 1) t).toNat = _
      have := hd.a0
      rw [upd_at]; omega
    have hlt : (s.at' t).toNat < (p.getD t []).length := by have := hd.a0; have := hd.a; omega
    have hp1 : ∀ e : Ev, e.thr = t → prj t (l ++ [e]) = prj t l ++ [e] := fun e he => by simp [prj, List.filter_append, he]
    rw [hat, take_getD dOp.dft hlt, mcR, List.foldl_append, List.foldl_cons, List.foldl_nil, ← hd.op]
    show mcS t (mcR E t ((p.getD t []).take (s.at' t).toNat)) o = _
    rw [ih]
    have hown : ∀ (v : Int) (b : Bool), decide (v = (t : Int) + 1) = b → (fun k => decide (Tr.upd s.owner o.obj.toNat v k = (t : Int) + 1)) = Tr.upd (fun k => decide (s.owner k = (t : Int) + 1)) o.obj.toNat b := fun v b hv => by
      funext k
      unfold Tr.upd
      split
      · exact hv
      · rfl
    by_cases k5 : o.kind = 5
    · by_cases ho : s.owner o.obj.toNat = (t : Int) + 1
      · have hk : evK s p t o = 4 := by simp [evK, k5, ho]
        simp only [mcS, k5, stF, hk, ho, Int.reduceEq, if_true, if_false, ↓reduceIte, decide_true, and_self, false_and, hp1 ⟨4, t, o.obj⟩ rfl]
        rw [hown 0 false (by simp; omega)]
      · have hk : evK s p t o = 0 := by simp [evK, k5, ho]
        simp only [mcS, k5, stF, hk, ho, Int.reduceEq, if_true, if_false, ↓reduceIte, decide_false, and_false, false_and, List.append_nil, Bool.false_eq_true]
    · by_cases k6 : o.kind = 6
      · by_cases hx : o.obj < p.length ∧ s.begun o.obj.toNat = false
        · have hk : evK s p t o = 5 := by simp [evK, k6, hx]
          have hF : hasF E t o.obj.toNat = true := by
            have := hsub (by rw [hk]; decide)
            rw [hk] at this
            simp only [hasF, hobj, this, decide_true]
          simp only [mcS, k6, stF, hk, hx, hF, Int.reduceEq, if_true, if_false, ↓reduceIte, and_self, false_and, Bool.not_false, Bool.and_self, hp1 ⟨5, t, o.obj⟩ rfl]
          congr 1
          funext u
          unfold Tr.upd
          split
          · simp
          · rfl
        · have hk : evK s p t o = 0 := by simp [evK, k6]; intro h1; simpa using fun h2 => hx ⟨h1, h2⟩
          have hF : (hasF E t o.obj.toNat && !s.begun o.obj.toNat) = false := by
            cases hb1 : s.begun o.obj.toNat with
            | true => simp
            | false =>
              have : ¬ o.obj < p.length := fun h => hx ⟨h, hb1⟩
              cases hf : hasF E t o.obj.toNat with
              | false => rfl
              | true =>
                simp only [hasF, hobj, decide_eq_true_eq] at hf
                exact absurd (hfl _ hf rfl) this
          simp only [mcS, k6, stF, hk, hx, hF, Int.reduceEq, if_true, if_false, ↓reduceIte, and_false, false_and, List.append_nil, Bool.false_eq_true]
      · have key : evK s p t o = (if o.kind = 3 then 0 else kindM o.kind) := by
          unfold evK kindM
          rcases hb with k | k | k | k | k | k | k | k | k <;> first | exact absurd k k5 | exact absurd k k6 | simp [k]
        rcases hb with k | k | k | k | k | k | k | k | k <;> first
          | exact absurd k k5
          | exact absurd k k6
          | (simp only [mcS, k, stF, key, kindM, Int.reduceEq, if_true, if_false, ↓reduceIte, false_and, List.append_nil, hp1 ⟨_, t, o.obj⟩ rfl]; done)
          | (simp only [mcS, k, stF, key, kindM, Int.reduceEq, if_true, if_false, ↓reduceIte, false_and, List.append_nil, hp1 ⟨_, t, o.obj⟩ rfl]
             rw [hown _ true (by simp)])
  · have hat : (stF s p n o).at' t = s.at' t := upd_ne e
    have hpr : prj t (l ++ if evK s p n o = 0 then [] else [⟨evK s p n o, n, o.obj⟩]) = prj t l := by
      split
      · rw [List.append_nil]
      · have : ¬ (n : Int) = t := by omega
        simp [prj, List.filter_append, this]
    rw [hat, ih, hpr]
    congr 1
    · funext k
      show decide (s.owner k = (t : Int) + 1) = decide ((if o.kind = 4 then Tr.upd s.owner o.obj.toNat (n + 1) else if o.kind = 5 ∧ s.owner o.obj.toNat = (n : Int) + 1 then Tr.upd s.owner o.obj.toNat 0 else s.owner) k = (t : Int) + 1)
      rw [decide_eq_decide]
      split
      · rename_i k4
        have := hd.k4 k4
        unfold Tr.upd
        split
        · rename_i e1; subst e1; omega
        · rfl
      · split
        · rename_i h5
          unfold Tr.upd
          split
          · rename_i e1; subst e1; omega
          · rfl
        · rfl
    · funext u
      show (hasF E t u && !s.begun u) = (hasF E t u && !(if o.kind = 6 ∧ o.obj < p.length ∧ s.begun o.obj.toNat = false then Tr.upd s.begun o.obj.toNat true else s.begun) u)
      split
      · rename_i h6
        unfold Tr.upd
        split
        · rename_i e1
          subst e1
          have hk : evK s p n o = 5 := by simp [evK, h6]
          have hm := hsub (by rw [hk]; decide)
          rw [hk] at hm
          have : hasF E t o.obj.toNat = false := by
            cases hf : hasF E t o.obj.toNat with
            | false => rfl
            | true =>
              simp only [hasF, hobj, decide_eq_true_eq] at hf
              have := fork_one hE hf hm
              omega
          rw [this]; simp
        · rfl
      · rfl
theorem runE_sub {p : List (List PO)} {picks : List Int} {i : Nat} : ∀ n, i ≤ n → ∀ e, e ∈ runE p picks i → e ∈ runE p picks n
  | 0, h, e, he => by rw [show i = 0 by omega] at he; exact he
  | n + 1, h, e, he => by
    by_cases hi : i = n + 1
    · rw [← hi]; exact he
    · rw [runE]; exact List.mem_append_left _ (runE_sub n (by omega) e he)
/-- What is told is told by an op. -/
theorem told_by {p : List (List PO)} (hp : progC badP p = 0) {picks : List Int} : ∀ n, ∀ e ∈ runE p picks n, ∃ i s m o, i < n ∧ Does p s m o ∧ s = runS p picks i ∧ runE p picks (i + 1) = runE p picks i ++ [e] ∧ runS p picks (i + 1) = stF s p m o ∧ evK s p m o ≠ 0 ∧ e = ⟨evK s p m o, m, o.obj⟩
  | 0, e, he => by cases he
  | n + 1, e, he => by
    rw [runE] at he
    rcases List.mem_append.1 he with he | he
    · obtain ⟨i, s, m, o, h1, h2⟩ := told_by hp n e he
      exact ⟨i, s, m, o, by omega, h2⟩
    · rcases pick_cases hp (fit_run hp (picks := picks) n) (picks.getD n 0) with ⟨h1, h2⟩ | ⟨m, o, hd, h1, h2⟩
      · rw [h2] at he; cases he
      · rw [h2] at he
        by_cases hz : evK (runS p picks n) p m o = 0
        · rw [if_pos hz] at he; cases he
        · rw [if_neg hz, List.mem_singleton] at he
          exact ⟨n, _, m, o, by omega, hd, rfl, by rw [runE, h2, if_neg hz, he], by rw [runS, h1], hz, he⟩
theorem fork_lt {p : List (List PO)} (hp : progC badP p = 0) {picks : List Int} {n : Nat} {e : Ev} (he : e ∈ runE p picks n) (k : e.kind = 5) : e.obj < p.length ∧ ∃ m : Nat, m < p.length ∧ e.thr = m ∧ ∃ j, j < (p.getD m []).length ∧ ((p.getD m []).getD j dOp.dft).kind = 6 ∧ ((p.getD m []).getD j dOp.dft).obj = e.obj := by
  obtain ⟨i, s, m, o, _, hd, rfl, _, _, hz, rfl⟩ := told_by hp n e he
  obtain ⟨_, _, e6⟩ := ev_kind hd hz
  have hb := bnd_kind ⟨hd.o0, hd.o1⟩
  have k : evK (runS p picks i) p m o = 5 := k
  have k6 : o.kind = 6 := by
    have := (ev_kind hd hz).1.1
    rw [k] at this
    rcases hb with q | q | q | q | q | q | q | q | q <;> rw [q] at this <;> first | exact q | exact absurd this (by decide)
  have ha := hd.a
  have ha0 := hd.a0
  exact ⟨(e6 k6).1, m, hd.lt, rfl, ((runS p picks i).at' m).toNat, by omega, by rw [← hd.op]; exact k6, by rw [← hd.op]⟩
/-- **Each thread's ops tell its events.** -/
theorem run_mc {p : List (List PO)} (hp : progC badP p = 0) {picks : List Int} {n : Nat} : ∀ i, i ≤ n → ∀ t, t < p.length → mcR (runE p picks n) t ((p.getD t []).take ((runS p picks i).at' t).toNat) = ⟨prj t (runE p picks i), fun k => decide ((runS p picks i).owner k = (t : Int) + 1), fun u => hasF (runE p picks n) t u && !(runS p picks i).begun u⟩
  | 0, _, t, ht => by
    show (⟨[], fun _ => false, hasF (runE p picks n) t⟩ : Mc) = ⟨[], fun k => decide ((0 : Int) = (t : Int) + 1), fun u => hasF (runE p picks n) t u && !(Tr.upd (fun _ => false) 0 true) u⟩
    have h1 : (fun _ => false : Nat → Bool) = fun k => decide ((0 : Int) = (t : Int) + 1) := funext fun k => (decide_eq_false (by omega)).symm
    have h2 : hasF (runE p picks n) t = fun u => hasF (runE p picks n) t u && !(Tr.upd (fun _ => false) 0 true) u := by
      funext u
      by_cases e : u = 0
      · subst e
        rw [upd_at]
        cases h : hasF (runE p picks n) t 0 with
        | false => rfl
        | true =>
          simp only [hasF, decide_eq_true_eq] at h
          exact absurd rfl (fork_pos (run_ok hp picks n) h)
      · rw [upd_ne e]; simp
    rw [← h1, ← h2]
  | i + 1, hi, t, ht => by
    have ih := run_mc hp (picks := picks) (n := n) i (by omega) t ht
    have hsub : ∀ e, e ∈ runE p picks (i + 1) → e ∈ runE p picks n := runE_sub n hi
    rw [runS, runE] at *
    rcases pick_cases hp (fit_run hp (picks := picks) i) (picks.getD i 0) with ⟨h1, h2⟩ | ⟨m, o, hd, h1, h2⟩
    · rw [h1, h2, List.append_nil]; exact ih
    · rw [h1, h2]
      rw [h2] at hsub
      exact step_mc hd (run_ok hp picks n) (fun hz => hsub _ (by rw [if_neg hz]; simp)) (fun e he k => (fork_lt hp he k).1) ht ih
/-- Whatever forks was come to has been forked. -/
theorem ran_fork {p : List (List PO)} (hp : progC badP p = 0) {picks : List Int} : ∀ i, ∀ t k, t < p.length → k < ((runS p picks i).at' t).toNat → ((p.getD t []).getD k dOp.dft).kind = 6 → ((p.getD t []).getD k dOp.dft).obj < p.length → (runS p picks i).begun ((p.getD t []).getD k dOp.dft).obj.toNat = true
  | 0, t, k, _, hk, _, _ => absurd hk (Nat.not_lt_zero _)
  | i + 1, t, k, ht, hk, k6, hl => by
    have ih := ran_fork hp (picks := picks) i t k ht
    rw [runS] at hk ⊢
    rcases pick_cases hp (fit_run hp (picks := picks) i) (picks.getD i 0) with ⟨h1, h2⟩ | ⟨m, o, hd, h1, h2⟩
    · rw [h1] at hk ⊢; exact ih hk k6 hl
    · rw [h1] at hk ⊢
      have hkeep : ∀ u, (runS p picks i).begun u = true → (stF (runS p picks i) p m o).begun u = true := fun u hu => by
        show (if _ then _ else _ : Nat → Bool) u = true
        split
        · by_cases e : u = o.obj.toNat
          · rw [e, upd_at]
          · rw [upd_ne e]; exact hu
        · exact hu
      by_cases e : t = m
      · subst e
        have ha0 := hd.a0
        have hat : ((stF (runS p picks i) p t o).at' t).toNat = ((runS p picks i).at' t).toNat + 1 := by
          show (Tr.upd _ t ((runS p picks i).at' t + 1) t).toNat = _
          rw [upd_at]; omega
        rw [hat] at hk
        by_cases hk' : k < ((runS p picks i).at' t).toNat
        · exact hkeep _ (ih hk' k6 hl)
        · have hke : k = ((runS p picks i).at' t).toNat := by omega
          subst hke
          rw [← hd.op] at k6 hl ⊢
          cases hb : (runS p picks i).begun o.obj.toNat with
          | true => exact hkeep _ hb
          | false =>
            show (if o.kind = 6 ∧ o.obj < p.length ∧ (runS p picks i).begun o.obj.toNat = false then Tr.upd (runS p picks i).begun o.obj.toNat true else (runS p picks i).begun) o.obj.toNat = true
            rw [if_pos ⟨k6, hl, hb⟩, upd_at]
      · have hat : (stF (runS p picks i) p m o).at' t = (runS p picks i).at' t := upd_ne e
        rw [hat] at hk
        exact hkeep _ (ih hk k6 hl)
/-- At the end whoever has begun is over. -/
theorem done_at {p : List (List PO)} {s : Sta} : ∀ n, doneB s p n = true → ∀ t, t < n → t < p.length → s.begun t = true → s.at' t = ((p.getD t []).length : Int)
  | 0, _, t, ht, _, _ => absurd ht (Nat.not_lt_zero _)
  | n + 1, hdn, t, ht, hl, hb => by
    rw [doneB, Bool.and_eq_true] at hdn
    by_cases e : t = n
    · subst e
      have h1 := hdn.2
      rw [Option.isNone_iff_eq_none, next_none] at h1
      simp only [Int.toNat_natCast] at h1
      rcases h1 with h1 | h1 | h1 | h1
      · omega
      · omega
      · rw [hb] at h1; cases h1
      · exact h1
    · exact done_at n hdn.1 t (by omega) hl hb
theorem beg_thr {l : List Ev} (h : (checkR l).2 = 0) {e : Ev} (he : e ∈ l) : begB l e.thr = true := by
  obtain ⟨j, hj, rfl⟩ := mem_at he
  obtain ⟨_, hb, _⟩ := ok_parts h hj
  simp only [begB, Bool.or_eq_true] at hb ⊢
  rcases hb with hb | hb
  · exact .inl hb
  · refine .inr ?_
    simp only [didB, List.any_eq_true] at hb ⊢
    obtain ⟨x, hx, hh⟩ := hb
    exact ⟨x, List.mem_of_mem_take hx, hh⟩
theorem beg_iff {l : List Ev} {t : Int} : begB l t = true ↔ t = 0 ∨ ∃ a : Int, (⟨5, a, t⟩ : Ev) ∈ l := by
  simp only [begB, didB, Bool.or_eq_true, decide_eq_true_eq, List.any_eq_true, Bool.and_eq_true]
  constructor
  · rintro (h | ⟨e, he, h1, h2⟩)
    · exact .inl h
    · exact .inr ⟨e.thr, by rw [← h1, ← h2]; exact he⟩
  · rintro (h | ⟨a, ha⟩)
    · exact .inl h
    · exact .inr ⟨_, ha, rfl, rfl⟩
/-- **Two runs to the end: whoever is forked by one in the first is so in the second: then threads tell the same.** -/
theorem same_threads {p : List (List PO)} (hp : progC badP p = 0) {a b : List Int} (da : doneB (runS p a a.length) p p.length = true) (db : doneB (runS p b b.length) p p.length = true)
    (hf : ∀ e ∈ runE p a a.length, e.kind = 5 → e ∈ runE p b b.length) : ∀ t : Int, prj t (runE p a a.length) = prj t (runE p b b.length) := by
  have va := run_ok hp a a.length
  have vb := run_ok hp b b.length
  obtain ⟨sa, ga⟩ := run_same hp (picks := a) a.length
  obtain ⟨sb, gb⟩ := run_same hp (picks := b) b.length
  have ba : ∀ t : Nat, (runS p a a.length).begun t = begB (runE p a a.length) t := fun t => by rw [← ga]; exact sa.begun t
  have bb : ∀ t : Nat, (runS p b b.length).begun t = begB (runE p b b.length) t := fun t => by rw [← gb]; exact sb.begun t
  -- whoever is forked in the second is so in the first
  have hg : ∀ j, j < (runE p b b.length).length → (at' (runE p b b.length) j).kind = 5 → at' (runE p b b.length) j ∈ runE p a a.length := by
    intro j
    induction j using Nat.strongRecOn with
    | ind j ih =>
      intro hj hk
      have hm : at' (runE p b b.length) j ∈ runE p b b.length := by
        show (runE p b b.length).getD j dEv.dft ∈ _
        rw [show (runE p b b.length).getD j dEv.dft = (runE p b b.length)[j] by simp [List.getD, hj]]
        exact List.getElem_mem ..
      obtain ⟨hlt, m, hml, hth, k, hkl, k6, ko⟩ := fork_lt hp hm hk
      -- its thread has begun in the first
      have hbm : begB (runE p a a.length) m = true := by
        obtain ⟨_, hb, _⟩ := ok_parts vb hj
        rw [hth] at hb
        simp only [begB, Bool.or_eq_true, decide_eq_true_eq] at hb
        rw [beg_iff]
        rcases hb with hb | hb
        · exact .inl hb
        · obtain ⟨c, hc, c1, c2⟩ := (didB_iff (Nat.le_of_lt hj)).1 hb
          have := ih c hc (by omega) c1
          refine .inr ⟨(at' (runE p b b.length) c).thr, ?_⟩
          rw [← c1, ← c2]; exact this
      have hat := done_at _ da m hml hml (by rw [ba]; exact hbm)
      have hv := ran_fork hp (picks := a) a.length m k hml (by rw [hat]; omega) k6 (by rw [ko]; exact hlt)
      have hpos : 0 ≤ (at' (runE p b b.length) j).obj := by
        obtain ⟨h1, _⟩ := ok_parts vb hj
        exact ((isEv_iff _).1 h1).2.2.1
      rw [ko, ba, show (((at' (runE p b b.length) j).obj.toNat : Nat) : Int) = (at' (runE p b b.length) j).obj by omega, beg_iff] at hv
      have hne : (at' (runE p b b.length) j).obj ≠ 0 := fork_pos vb (t := (at' (runE p b b.length) j).thr) (by
        rw [← hk]; exact hm)
      rcases hv with hv | ⟨a', ha'⟩
      · exact absurd hv hne
      · have h1 := hf _ ha' rfl
        have h2 : a' = (at' (runE p b b.length) j).thr := fork_one vb h1 (by rw [← hk]; exact hm)
        rw [h2] at ha'
        rw [← hk] at ha'; exact ha'
  have hF : ∀ t u, hasF (runE p a a.length) t u = hasF (runE p b b.length) t u := fun t u => by
    unfold hasF
    rw [decide_eq_decide]
    constructor
    · exact fun h => hf _ h rfl
    · intro h
      obtain ⟨j, hj, ej⟩ := mem_at h
      have := hg j hj (by rw [ej])
      rwa [ej] at this
  have hB : ∀ t : Int, begB (runE p a a.length) t = begB (runE p b b.length) t := fun t => by
    rw [Bool.eq_iff_iff, beg_iff, beg_iff]
    constructor
    · rintro (h | ⟨x, hx⟩)
      · exact .inl h
      · exact .inr ⟨x, hf _ hx rfl⟩
    · rintro (h | ⟨x, hx⟩)
      · exact .inl h
      · obtain ⟨j, hj, ej⟩ := mem_at hx
        have := hg j hj (by rw [ej])
        rw [ej] at this
        exact .inr ⟨x, this⟩
  have none : ∀ {l : List Ev} {t : Int}, (checkR l).2 = 0 → begB l t = false → prj t l = [] := fun {l t} hv hb => by
    unfold prj
    rw [List.filter_eq_nil_iff]
    intro e he hh
    have := beg_thr hv he
    rw [show e.thr = t by simpa using hh, hb] at this
    cases this
  intro t
  cases ht : begB (runE p a a.length) t with
  | false => rw [none va ht, none vb (by rw [← hB]; exact ht)]
  | true =>
    have htn : ∃ n : Nat, t = n ∧ n < p.length := by
      have hpl := (fit_run hp (picks := a) a.length)
      rcases beg_iff.1 ht with h | ⟨x, hx⟩
      · refine ⟨0, h, ?_⟩
        have : p.length ≠ 0 := fun e => by
          unfold progC at hp
          rw [if_pos (.inl (by omega))] at hp; cases hp
        omega
      · have h1 := (fork_lt hp hx rfl).1
        obtain ⟨j, hj, ej⟩ := mem_at hx
        have h2 := ((isEv_iff _).1 (ok_parts va hj).1).2.2.1
        rw [ej] at h2
        have h1 : t < p.length := h1
        have h2 : 0 ≤ t := h2
        exact ⟨t.toNat, by omega, by omega⟩
    obtain ⟨n, rfl, hn⟩ := htn
    have ra := run_mc hp (picks := a) (n := a.length) a.length (Nat.le_refl _) n hn
    have rb := run_mc hp (picks := b) (n := b.length) b.length (Nat.le_refl _) n hn
    have ea := done_at _ da n hn hn (by rw [ba]; exact ht)
    have eb := done_at _ db n hn hn (by rw [bb, ← hB]; exact ht)
    rw [ea] at ra
    rw [eb] at rb
    have : mcR (runE p a a.length) n = mcR (runE p b b.length) n := by
      funext ops
      unfold mcR
      rw [show hasF (runE p a a.length) n = hasF (runE p b b.length) n from funext (hF n)]
    rw [this, rb] at ra
    exact (congrArg Mc.out ra).symm
end Go.Proofs.Ytohbjnpafpcbkaa.Tp
end
section
set_option linter.unusedSimpArgs false
set_option linter.unusedVariables false
open Go Go.Sx Go.Proofs
namespace Go.Proofs.Ytohbjnpafpcbkaa.Tp
open Go.Proofs.Ytohbjnpafpcbkaa.D Go.Proofs.Ytohbjnpafpcbkaa.Tr Go.Proofs.Ytohbjnpafpcbkaa.Fu Go.Proofs.Ytohbjnpafpcbkaa.Pg Go.Proofs.Ytohbjnpafpcbkaa.Rn Go.Proofs.Ytohbjnpafpcbkaa.Sw Go.Proofs.Ytohbjnpafpcbkaa.Ah Go.Proofs.Ytohbjnpafpcbkaa.Ps Go.Proofs.Ytohbjnpafpcbkaa.Od Go.Proofs.Ytohbjnpafpcbkaa.Rc
/-- Who has a lock, and lets it go, by turns. -/
def Alt : Int → List Ev → Prop
  | _, [] => True
  | o, x :: r => (x.kind = 3 ∧ o < 0 ∧ Alt x.thr r) ∨ (x.kind = 4 ∧ x.thr = o ∧ 0 ≤ o ∧ Alt (-1) r)
def lkP (k : Int) (e : Ev) : Bool := (decide (e.kind = 3) || decide (e.kind = 4)) && decide (e.obj = k)
theorem alt_eq {k : Int} : ∀ (L L' : List Ev) (o : Int), (∀ e ∈ L, e.obj = k) → (∀ e ∈ L', e.obj = k) → Alt o L → Alt o L' → L.filter (fun e => decide (e.kind = 3)) = L'.filter (fun e => decide (e.kind = 3)) → L.length = L'.length → L = L'
  | [], L', _, _, _, _, _, _, h => (List.length_eq_zero_iff.1 h.symm).symm
  | x :: r, [], _, _, _, _, _, _, h => by cases h
  | x :: r, y :: r', o, h1, h2, a1, a2, hf, hl => by
    have hr := fun e he => h1 e (List.mem_cons_of_mem x he)
    have hr' := fun e he => h2 e (List.mem_cons_of_mem y he)
    have hl' : r.length = r'.length := by simpa using hl
    rcases a1 with ⟨k1, o1, b1⟩ | ⟨k1, t1, o1, b1⟩ <;> rcases a2 with ⟨k2, o2, b2⟩ | ⟨k2, t2, o2, b2⟩
    · rw [List.filter_cons_of_pos (by simp [k1]), List.filter_cons_of_pos (by simp [k2])] at hf
      obtain ⟨e1, e2⟩ := List.cons.inj hf
      subst e1
      rw [alt_eq r r' _ hr hr' b1 b2 e2 hl']
    · omega
    · omega
    · rw [List.filter_cons_of_neg (by simp [k1]), List.filter_cons_of_neg (by simp [k2])] at hf
      rw [alt_eq r r' _ hr hr' b1 b2 hf hl']
      have e1 := h1 x (List.mem_cons_self ..)
      have e2 := h2 y (List.mem_cons_self ..)
      obtain ⟨a, b, c⟩ := x
      obtain ⟨a', b', c'⟩ := y
      simp only at k1 k2 t1 t2 e1 e2
      rw [k1, k2, t1, t2, e1, e2]
theorem alt_of {l : List Ev} (hv : (checkR l).2 = 0) (k : Int) : ∀ (n i : Nat), l.length - i = n → i ≤ l.length → Alt (Tr.ownR (l.take i) k) ((l.drop i).filter (lkP k))
  | 0, i, hn, hi => by
    rw [List.drop_eq_nil_of_le (by omega)]; trivial
  | n + 1, i, hn, hi => by
    have hlt : i < l.length := by omega
    have ih := alt_of hv k n (i + 1) (by omega) (by omega)
    rw [take_getD dEv.dft hlt, own_add] at ih
    rw [drop_getD dEv.dft hlt]
    obtain ⟨hev, _, _, h3, h4, _⟩ := ok_parts hv hlt
    have ht := ((isEv_iff _).1 hev).1
    have hat : l.getD i dEv.dft = at' l i := rfl
    rw [hat] at ih ⊢
    by_cases hP : lkP k (at' l i) = true
    · rw [List.filter_cons_of_pos hP]
      simp only [lkP, Bool.and_eq_true, Bool.or_eq_true, decide_eq_true_eq] at hP
      obtain ⟨hk, ho⟩ := hP
      rcases hk with hk | hk
      · left
        refine ⟨hk, by rw [← ho]; exact h3 hk, ?_⟩
        rwa [show ownS k (Tr.ownR (l.take i) k) (at' l i) = (at' l i).thr by simp [ownS, hk, ho]] at ih
      · right
        have := h4 hk
        rw [ho] at this
        refine ⟨hk, this.symm, by rw [this]; exact ht, ?_⟩
        rwa [show ownS k (Tr.ownR (l.take i) k) (at' l i) = -1 by simp [ownS, hk, ho]] at ih
    · rw [List.filter_cons_of_neg hP]
      have hs : ownS k (Tr.ownR (l.take i) k) (at' l i) = Tr.ownR (l.take i) k := by
        unfold ownS
        rw [if_neg, if_neg]
        · exact fun h => hP (by simp [lkP, h.1, h.2])
        · exact fun h => hP (by simp [lkP, h.1, h.2])
      rwa [hs] at ih
theorem perm_of {l m : List Ev} (ht : ∀ t : Int, prj t l = prj t m) : l.Perm m := by
  have h : (nmL l).Perm (nmL m) := by
    refine (List.perm_ext_iff_of_nodup (nm_nodup l (fun _ => 0)) (nm_nodup m (fun _ => 0))).2 ?_
    rintro ⟨x, k⟩
    have hc : cntE x l = cntE x m := by
      have hp : (fun e : Ev => decide (e.thr = x.thr)) x = true := by simp
      rw [← cnt_filter (P := fun e : Ev => decide (e.thr = x.thr)) hp l, ← cnt_filter (P := fun e : Ev => decide (e.thr = x.thr)) hp m]
      exact congrArg (cntE x) (ht x.thr)
    rw [nm_mem, nm_mem, hc]
  have := h.map (·.1)
  unfold nmL at this
  rwa [nm_fst, nm_fst] at this
/-- What a lock's holders tell is told by who acquires it. -/
theorem lock_same {l m : List Ev} (vl : (checkR l).2 = 0) (vm : (checkR m).2 = 0) (ht : ∀ t : Int, prj t l = prj t m) (k : Int) (hq : l.filter (fun e => decide (e.kind = 3) && decide (e.obj = k)) = m.filter (fun e => decide (e.kind = 3) && decide (e.obj = k))) : l.filter (lkP k) = m.filter (lkP k) := by
  have al := alt_of vl k _ 0 rfl (Nat.zero_le _)
  have am := alt_of vm k _ 0 rfl (Nat.zero_le _)
  rw [List.take_zero, List.drop_zero] at al am
  have hobj : ∀ l : List Ev, ∀ e ∈ l.filter (lkP k), e.obj = k := fun l e he => by
    have := (List.mem_filter.1 he).2
    simp only [lkP, Bool.and_eq_true, decide_eq_true_eq] at this
    exact this.2
  have hfi : ∀ l : List Ev, (l.filter (lkP k)).filter (fun e => decide (e.kind = 3)) = l.filter (fun e => decide (e.kind = 3) && decide (e.obj = k)) := fun l => by
    rw [List.filter_filter]
    congr 1
    funext e
    by_cases h : e.kind = 3 <;> simp [lkP, h]
  exact alt_eq _ _ _ (hobj l) (hobj m) al am (by rw [hfi, hfi]; exact hq) ((perm_of ht).filter _).length_eq
theorem nm_at {l : List Ev} {i : Nat} (hi : i < l.length) : ((nmL l).getD i (dEv.dft, 0)).1 = at' l i := by
  have h : ((nmC (fun _ => 0) l).map (·.1)).getD i dEv.dft = l.getD i dEv.dft := by rw [nm_fst]
  have hn : i < (nmC (fun _ => 0) l).length := by rw [nm_len]; exact hi
  rw [show ((nmC (fun _ => 0) l).map (·.1)).getD i dEv.dft = ((nmC (fun _ => 0) l).getD i (dEv.dft, 0)).1 by simp [List.getD, hn]] at h
  exact h
theorem bf_at {l : List Ev} {x y : Ev × Nat} (h : Bf (nmL l) x y) : ∃ i j, i < j ∧ j < l.length ∧ at' l i = x.1 ∧ at' l j = y.1 ∧ (nmL l).getD i (dEv.dft, 0) = x ∧ (nmL l).getD j (dEv.dft, 0) = y := by
  obtain ⟨i, j, h1, h2, h3, h4⟩ := h.ex (d := (dEv.dft, 0))
  have hl : (nmL l).length = l.length := nm_len _ _
  exact ⟨i, j, h1, by omega, by rw [← nm_at (by omega), h3], by rw [← nm_at (by omega), h4], h3, h4⟩
/-- What is not apart, but for accesses of several threads, lies alike. -/
theorem sync_bf {l m : List Ev} (vl : (checkR l).2 = 0) (vm : (checkR m).2 = 0) (ht : ∀ t : Int, prj t l = prj t m) (ha : ∀ k : Int, l.filter (fun e => decide (e.kind = 3) && decide (e.obj = k)) = m.filter (fun e => decide (e.kind = 3) && decide (e.obj = k)))
    (hv : ∀ k : Int, l.filter (fun e => (decide (e.kind = 7) || decide (e.kind = 8)) && decide (e.obj = k)) = m.filter (fun e => (decide (e.kind = 7) || decide (e.kind = 8)) && decide (e.obj = k)))
    {x y : Ev × Nat} (hb : Bf (nmL l) x y) (hno : x.1.thr = y.1.thr ∨ ¬ (isAcc x.1 = true ∧ isAcc y.1 = true)) (hap : apartB x.1 y.1 = false) : Bf (nmL m) x y := by
  by_cases e : x.1.thr = y.1.thr
  · exact nm_bf (ht x.1.thr) hb (by simp) (by simp [e])
  have hno : ¬ (isAcc x.1 = true ∧ isAcc y.1 = true) := hno.resolve_left e
  obtain ⟨i, j, hij, hj, ei, ej, _, _⟩ := bf_at hb
  -- if they lie otherwise in the other one
  have other : (Bf (nmL m) y x → False) → Bf (nmL m) x y := fun h => by
    have hmem : ∀ z, z ∈ nmL l → z ∈ nmL m := fun z hz => by
      obtain ⟨z, k⟩ := z
      have hc : cntE z l = cntE z m := by
        have hp : (fun e : Ev => decide (e.thr = z.thr)) z = true := by simp
        rw [← cnt_filter (P := fun e : Ev => decide (e.thr = z.thr)) hp l, ← cnt_filter (P := fun e : Ev => decide (e.thr = z.thr)) hp m]
        exact congrArg (cntE z) (ht z.thr)
      unfold nmL at hz ⊢
      rw [nm_mem] at hz ⊢
      rw [← hc]; exact hz
    rcases Bf.total (hmem x hb.mem.1) (hmem y hb.mem.2) (fun h => e (by rw [h])) with h1 | h1
    · exact h1
    · exact (h h1).elim
  have fork_no : ∀ {l : List Ev} {i j : Nat}, (checkR l).2 = 0 → i < j → j < l.length → (at' l j).kind = 5 → (at' l j).obj = (at' l i).thr → False := fun hv hij hj hk ho => (fork_fresh hv hj hk hij).1 ho.symm
  have join_no : ∀ {l : List Ev} {i j : Nat}, (checkR l).2 = 0 → i < j → j < l.length → (at' l i).kind = 6 → (at' l i).obj = (at' l j).thr → False := fun hv hij hj hk ho => by
    obtain ⟨_, _, hd, _⟩ := ok_parts hv hj
    have := (didB_iff (Nat.le_of_lt hj) (k := 6)).2 ⟨_, hij, hk, ho⟩
    rw [hd] at this; cases this
  have fj_no : ∀ {l : List Ev} {i j : Nat}, (checkR l).2 = 0 → i < j → j < l.length → (at' l i).kind = 6 → (at' l j).kind = 5 → (at' l i).obj = (at' l j).obj → False := fun {l i j} hv hij hj hk hk' ho => by
    obtain ⟨_, _, _, _, _, _, h6⟩ := ok_parts hv (show i < l.length by omega)
    obtain ⟨_, _, _, _, _, h5, _⟩ := ok_parts hv hj
    have h6 := (h6 hk).1
    have h5 := h5 hk'
    simp only [begB, Bool.or_eq_true, decide_eq_true_eq, Bool.or_eq_false_iff, decide_eq_false_iff_not] at h5 h6
    rcases h6 with h6 | h6
    · exact h5.1 (by rw [← ho]; exact h6)
    · obtain ⟨c, hc, c1, c2⟩ := (didB_iff (show i ≤ l.length by omega)).1 h6
      have := (didB_iff (Nat.le_of_lt hj) (k := 5)).2 ⟨c, by omega, c1, by rw [c2, ho]⟩
      rw [h5.2] at this; cases this
  unfold apartB at hap
  split at hap
  · rename_i ht'
    simp only [Bool.or_eq_true, decide_eq_true_eq, e, false_or] at ht'
    simp only [touchB, Bool.and_eq_true, Bool.or_eq_true, decide_eq_true_eq] at ht'
    rcases ht' with ⟨k | k, ho⟩ | ⟨k | k, ho⟩
    · refine other fun h => ?_
      obtain ⟨i', j', h1, h2, h3, h4, _, _⟩ := bf_at h
      exact fork_no vm h1 h2 (by rw [h4]; exact k) (by rw [h4, h3]; exact ho)
    · exact (join_no vl hij hj (by rw [ei]; exact k) (by rw [ei, ej]; exact ho)).elim
    · exact (fork_no vl hij hj (by rw [ej]; exact k) (by rw [ej, ei]; exact ho)).elim
    · refine other fun h => ?_
      obtain ⟨i', j', h1, h2, h3, h4, _, _⟩ := bf_at h
      exact join_no vm h1 h2 (by rw [h3]; exact k) (by rw [h3, h4]; exact ho)
  · simp only [Bool.or_eq_false_iff, decide_eq_false_iff_not, Bool.not_eq_false', decide_eq_true_eq] at hap
    obtain ⟨⟨⟨g0, g1⟩, ho⟩, g2⟩ := hap
    have kx : ∀ k : Int, (grp k).1 ≠ 0 → (k = 1 ∨ k = 2) ∨ (k = 3 ∨ k = 4) ∨ (k = 5 ∨ k = 6) ∨ (k = 7 ∨ k = 8) := fun k hk => by
      unfold grp at hk
      split at hk
      · exact .inl (by assumption)
      split at hk
      · exact .inr (.inl (by assumption))
      split at hk
      · exact .inr (.inr (.inl (by assumption)))
      split at hk
      · exact .inr (.inr (.inr (by assumption)))
      · exact absurd rfl hk
    have k1 := kx _ g0
    have k2 := kx y.1.kind (by rw [← g1]; exact g0)
    have acc : ∀ {e : Ev}, (e.kind = 1 ∨ e.kind = 2) → isAcc e = true := fun {e} h => by
      rcases h with h | h <;> simp [isAcc, h]
    have nog : ∀ {a b : Int} {P : Prop}, x.1.kind = a → y.1.kind = b → (grp a).1 ≠ (grp b).1 → P := fun h1 h2 h3 => absurd (by rw [← h1, ← h2]; exact g1) h3
    rcases k1 with k1 | k1 | k1 | k1 <;> rcases k2 with k2 | k2 | k2 | k2
    · exact absurd ⟨acc k1, acc k2⟩ hno
    · rcases k1 with k1 | k1 <;> rcases k2 with k2 | k2 <;> exact nog k1 k2 (by decide)
    · rcases k1 with k1 | k1 <;> rcases k2 with k2 | k2 <;> exact nog k1 k2 (by decide)
    · rcases k1 with k1 | k1 <;> rcases k2 with k2 | k2 <;> exact nog k1 k2 (by decide)
    · rcases k1 with k1 | k1 <;> rcases k2 with k2 | k2 <;> exact nog k1 k2 (by decide)
    · exact nm_bf (lock_same vl vm ht x.1.obj (ha x.1.obj)) hb (by simp [lkP, k1]) (by simp [lkP, k2, ho])
    · rcases k1 with k1 | k1 <;> rcases k2 with k2 | k2 <;> exact nog k1 k2 (by decide)
    · rcases k1 with k1 | k1 <;> rcases k2 with k2 | k2 <;> exact nog k1 k2 (by decide)
    · rcases k1 with k1 | k1 <;> rcases k2 with k2 | k2 <;> exact nog k1 k2 (by decide)
    · rcases k1 with k1 | k1 <;> rcases k2 with k2 | k2 <;> exact nog k1 k2 (by decide)
    · rcases k1 with k1 | k1 <;> rcases k2 with k2 | k2
      · exact ((fork_fresh vl hj (by rw [ej]; exact k2) hij).2 ⟨by rw [ei]; exact k1, by rw [ei, ej]; exact ho⟩).elim
      · refine other fun h => ?_
        obtain ⟨i', j', h1, h2, h3, h4, _, _⟩ := bf_at h
        exact fj_no vm h1 h2 (by rw [h3]; exact k2) (by rw [h4]; exact k1) (by rw [h3, h4]; exact ho.symm)
      · exact (fj_no vl hij hj (by rw [ei]; exact k1) (by rw [ej]; exact k2) (by rw [ei, ej]; exact ho)).elim
      · rw [k1, k2] at g2; exact absurd g2 (by decide)
    · rcases k1 with k1 | k1 <;> rcases k2 with k2 | k2 <;> exact nog k1 k2 (by decide)
    · rcases k1 with k1 | k1 <;> rcases k2 with k2 | k2 <;> exact nog k1 k2 (by decide)
    · rcases k1 with k1 | k1 <;> rcases k2 with k2 | k2 <;> exact nog k1 k2 (by decide)
    · rcases k1 with k1 | k1 <;> rcases k2 with k2 | k2 <;> exact nog k1 k2 (by decide)
    · exact nm_bf (hv x.1.obj) hb (by simp [k1]) (by simp [k2, ho])
theorem s1_zero {f : Nat → Nat} : ∀ {n : Nat}, s1 f n = 0 → ∀ i, i < n → f i = 0
  | 0, _, i, hi => absurd hi (Nat.not_lt_zero _)
  | n + 1, h, i, hi => by
    rw [s1] at h
    by_cases e : i = n
    · subst e; omega
    · exact s1_zero (n := n) (by omega) i (by omega)
theorem no_race {l : List Ev} (hv : (checkR l).2 = 0) (h : racesF l = []) {i j : Nat} (hij : i < j) (hj : j < l.length) : ¬ RcP l i j := by
  have hl := congrArg List.length h
  rw [racesF, all_len] at hl
  have h1 := s1_zero (s1_zero hl i (by omega)) j hj
  rw [← nr_iff (fun e he => by
    obtain ⟨k, hk, rfl⟩ := mem_at he
    exact (ok_parts hv hk).1) (by omega) hj]
  intro hn
  have hn : noRace l i j (l.getD i dEv.dft) (l.getD j dEv.dft) = false := hn
  rw [hn] at h1
  cases h1
theorem path_bf {l m : List Ev} (hs : ∀ {x y : Ev × Nat}, Bf (nmL l) x y → (x.1.thr = y.1.thr ∨ ¬ (isAcc x.1 = true ∧ isAcc y.1 = true)) → apartB x.1 y.1 = false → Bf (nmL m) x y) : ∀ {i j : Nat}, Ahd l i j → j < l.length → Bf (nmL m) ((nmL l).getD i (dEv.dft, 0)) ((nmL l).getD j (dEv.dft, 0)) := by
  have hn : (nmL l).length = l.length := nm_len _ _
  have one : ∀ {i j : Nat}, upP (dirL l) i j = true → j < l.length → Bf (nmL m) ((nmL l).getD i (dEv.dft, 0)) ((nmL l).getD j (dEv.dft, 0)) := fun {i j} hu hj => by
    simp only [upP, Bool.and_eq_true, decide_eq_true_eq] at hu
    obtain ⟨hij, hd⟩ := hu
    have hd : dirP (at' l i) (at' l j) = true := hd
    refine hs (Bf.at hij (by omega)) ?_ ?_
    · rw [nm_at (by omega), nm_at hj]
      by_cases e : (at' l i).thr = (at' l j).thr
      · exact .inl e
      · refine .inr ?_
        simp only [dirP, Bool.or_eq_true, Bool.and_eq_true, decide_eq_true_eq, e, false_or] at hd
        rintro ⟨ka, kb⟩
        simp only [isAcc, Bool.or_eq_true, decide_eq_true_eq] at ka kb
        omega
    · rw [nm_at (by omega), nm_at hj]
      cases h : apartB (at' l i) (at' l j) with
      | false => rfl
      | true => rw [(apart_dir h).2.1] at hd; cases hd
  intro i j h
  induction h with
  | one e => exact fun hj => one e hj
  | snoc h1 e ih =>
    intro hj
    have hlt : _ < _ := (by simpa [upP] using e : _ ∧ _).1
    exact Bf.trans (nm_nodup _ _) (ih (by omega)) (one e hj)
/-- **ADVE, HILL.** -/
theorem eqv_free {l m : List Ev} (vl : (checkR l).2 = 0) (vm : (checkR m).2 = 0) (ht : ∀ t : Int, prj t l = prj t m) (ha : ∀ k : Int, l.filter (fun e => decide (e.kind = 3) && decide (e.obj = k)) = m.filter (fun e => decide (e.kind = 3) && decide (e.obj = k)))
    (hv : ∀ k : Int, l.filter (fun e => (decide (e.kind = 7) || decide (e.kind = 8)) && decide (e.obj = k)) = m.filter (fun e => (decide (e.kind = 7) || decide (e.kind = 8)) && decide (e.obj = k))) (hr : racesF l = []) : Eqv m l := by
  refine eqv_of ht fun x y hb hne hap => ?_
  by_cases hacc : isAcc x.1 = true ∧ isAcc y.1 = true
  · obtain ⟨i, j, hij, hj, ei, ej, ni, nj⟩ := bf_at hb
    rw [← ni, ← nj]
    refine path_bf (fun h1 h2 h3 => sync_bf vl vm ht ha hv h1 h2 h3) ?_ hj
    have hn := no_race vl hr hij hj
    apply Classical.byContradiction
    intro hA
    refine hn ⟨hij, by rw [ei]; exact hacc.1, by rw [ej]; exact hacc.2, ?_, ?_, hA⟩
    all_goals
      unfold apartB at hap
      simp only [isAcc, Bool.or_eq_true, decide_eq_true_eq] at hacc
      rw [if_neg] at hap
      · simp only [Bool.or_eq_false_iff, decide_eq_false_iff_not, Bool.not_eq_false', decide_eq_true_eq] at hap
        rw [ei, ej]
        first
          | exact hap.1.2
          | (rintro ⟨q1, q2⟩; rw [q1, q2] at hap; exact absurd hap.2 (by decide))
      · simp only [touchB, Bool.or_eq_true, Bool.and_eq_true, decide_eq_true_eq]
        omega
  · exact sync_bf vl vm ht ha hv hb (.inr hacc) hap
theorem run_key {p : List (List PO)} {c : List Int} (hc : (Rn.runF p c).2.2 = 0) : progC badP p = 0 ∧ runF p c = (endF' (runS p c c.length) p, runE p c c.length, 0) := by
  unfold Rn.runF at hc ⊢
  by_cases h1 : progC badP p ≠ 0
  · rw [if_pos h1] at hc; exact absurd hc h1
  · rw [if_neg h1] at hc ⊢
    by_cases h2 : 100 < c.length
    · rw [if_pos h2] at hc; cases hc
    · rw [if_neg h2]
      exact ⟨Classical.not_not.1 h1, rfl⟩
theorem drf {p : List (List PO)} {a b : List Int} (ea : (Rn.runF p a).2.2 = 0) (eb : (Rn.runF p b).2.2 = 0) (da : (Rn.runF p a).1.done = true) (db : (Rn.runF p b).1.done = true) (hr : racesF (Rn.runF p a).2.1 = [])
    (ha : ∀ k : Int, (Rn.runF p a).2.1.filter (fun e => decide (e.kind = 3) && decide (e.obj = k)) = (Rn.runF p b).2.1.filter (fun e => decide (e.kind = 3) && decide (e.obj = k)))
    (hv : ∀ k : Int, (Rn.runF p a).2.1.filter (fun e => (decide (e.kind = 7) || decide (e.kind = 8)) && decide (e.obj = k)) = (Rn.runF p b).2.1.filter (fun e => (decide (e.kind = 7) || decide (e.kind = 8)) && decide (e.obj = k)))
    (hf : ∀ e ∈ (Rn.runF p a).2.1, e.kind = 5 → e ∈ (Rn.runF p b).2.1) : (Rn.runF p a).1 = (Rn.runF p b).1 := by
  obtain ⟨hp, ka⟩ := run_key ea
  obtain ⟨_, kb⟩ := run_key eb
  have va := run_ok hp a a.length
  have vb := run_ok hp b b.length
  have hE : Eqv (Rn.runF p b).2.1 (Rn.runF p a).2.1 := by
    rw [ka] at hr ha hv hf da ⊢
    rw [kb] at ha hv hf db ⊢
    exact eqv_free va vb (same_threads hp da db hf) ha hv hr
  have h := replay_eqv p hE (fun e he => by
    rw [kb] at he
    obtain ⟨k, hk, rfl⟩ := mem_at he
    exact (ok_parts vb hk).1)
  exact end_same ea eb da db h.1.symm (fun t => (h.2 t).symm)
end Go.Proofs.Ytohbjnpafpcbkaa.Tp
end
