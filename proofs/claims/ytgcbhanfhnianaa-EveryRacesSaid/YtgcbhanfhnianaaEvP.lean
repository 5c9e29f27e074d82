/- Breadth first and depth first find the same. Plain. Conditions: none. -/
import Derived.Test.YtgcbhanfhnianaaEvW
set_option linter.unusedSimpArgs false
set_option linter.unusedVariables false
open Go Go.Sx Go.Proofs
namespace Go.Proofs.Ytgcbhanfhnianaa.Ev
open Go.Proofs.Ytgcbhanfhnianaa.D Go.Proofs.Ytgcbhanfhnianaa.Pg Go.Proofs.Ytgcbhanfhnianaa.Tr Go.Proofs.Ytgcbhanfhnianaa.Rn Go.Proofs.Ytgcbhanfhnianaa.Cp Go.Proofs.Ytgcbhanfhnianaa.Rc
theorem ech_ok {p : List (List PO)} (hc : echF p = 0) : progC badP p = 0 ∧ manyL p ≤ 10 := by
  have hp : progC badP p = 0 := by
    unfold echF at hc
    split at hc
    · exact absurd hc (by assumption)
    · rename_i h; simpa using h
  refine ⟨hp, ?_⟩
  unfold echF at hc
  rw [if_neg (by simp [hp])] at hc
  split at hc
  · cases hc
  · omega
abbrev Ks := List Int
def canK (p : List (List PO)) (ks : Ks) (t : Nat) : Bool := canF (runS p ks ks.length) p t
def kidsK (p : List (List PO)) (ks : Ks) : List Ks := (List.range p.length).flatMap fun t : Nat => if canK p ks t = true then [ks ++ [(t : Int)]] else []
def levK (p : List (List PO)) : Nat → Ks → List Ks
  | 0, x => [x]
  | k + 1, x => (levK p k x).flatMap (kidsK p)
def preK (p : List (List PO)) : Nat → Ks → List Ks
  | 0, _ => []
  | f + 1, x => x :: (kidsK p x).flatMap (preK p f)
def RK (p : List (List PO)) (ks : Ks) : Bool := raceB (runE p ks ks.length)
def stepK (p : List (List PO)) (st : WS) (ks : Ks) : WS := if (RK p ks && (!st.1 || decide (ks.length < (st.2.getD []).length))) = true then (true, some ks) else st
theorem flatMap_same {α β : Type} {f g : α → List β} : ∀ {l : List α}, (∀ x ∈ l, f x = g x) → l.flatMap f = l.flatMap g
  | [], _ => rfl
  | x :: l, h => by rw [List.flatMap_cons, List.flatMap_cons, h x (List.mem_cons_self ..), flatMap_same fun y hy => h y (List.mem_cons_of_mem _ hy)]
theorem lev_alt (p : List (List PO)) : ∀ k x, levK p (k + 1) x = (kidsK p x).flatMap (levK p k)
  | 0, x => by simp [levK]
  | k + 1, x => by rw [levK, lev_alt p k x, List.flatMap_assoc]; rfl
theorem kid_len {p : List (List PO)} {x y : Ks} (h : y ∈ kidsK p x) : y.length = x.length + 1 := by
  obtain ⟨t, _, h⟩ := List.mem_flatMap.1 h
  split at h
  · simp at h; subst h; simp
  · cases h
theorem pre_len {p : List (List PO)} : ∀ (f : Nat) {x y : Ks}, y ∈ preK p f x → x.length ≤ y.length
  | 0, _, _, h => by cases h
  | f + 1, x, y, h => by
    rcases List.mem_cons.1 h with h | h
    · subst h; exact Nat.le_refl _
    · obtain ⟨z, hz, h⟩ := List.mem_flatMap.1 h
      have := pre_len f h
      have := kid_len hz
      omega
theorem pre_lev (p : List (List PO)) : ∀ (f k : Nat) (x : Ks), (preK p f x).filter (fun y => decide (y.length = x.length + k)) = if k < f then levK p k x else []
  | 0, k, x => by simp [preK]
  | f + 1, 0, x => by
    have : ((kidsK p x).flatMap (preK p f)).filter (fun y => decide (y.length = x.length + 0)) = [] := by
      refine List.filter_eq_nil_iff.2 fun y hy => ?_
      obtain ⟨z, hz, h⟩ := List.mem_flatMap.1 hy
      have := pre_len f h
      have := kid_len hz
      simp; omega
    rw [preK, List.filter_cons, this]
    simp [levK]
  | f + 1, k + 1, x => by
    rw [preK, List.filter_cons, if_neg (by simp), List.filter_flatMap]
    have : ∀ y ∈ kidsK p x, (preK p f y).filter (fun z => decide (z.length = x.length + (k + 1))) = if k < f then levK p k y else [] := fun y hy => by
      have e := pre_lev p f k y
      rw [kid_len hy] at e
      rw [← e]
      congr 1
      funext z
      congr 1
      apply propext
      omega
    rw [flatMap_same this, lev_alt]
    by_cases h : k < f
    · simp only [if_pos h, if_pos (Nat.succ_lt_succ h)]
    · simp only [if_neg h, if_neg (fun h' => h (Nat.lt_of_succ_lt_succ h'))]
      simp
/-- What comes of going through a list. -/
theorem fold_stay {p : List (List PO)} {b : Ks} {n : Nat} (hb : b.length ≤ n) : ∀ l : List Ks, (∀ y ∈ l, RK p y = true → n ≤ y.length) → l.foldl (stepK p) (true, some b) = (true, some b)
  | [], _ => rfl
  | y :: l, h => by
    have e : stepK p (true, some b) y = (true, some b) := by
      unfold stepK
      rw [if_neg]
      intro hc
      simp only [Bool.and_eq_true, Bool.or_eq_true, decide_eq_true_eq, Bool.not_true, Bool.false_eq_true, false_or, Option.getD_some] at hc
      have := h y (List.mem_cons_self ..) hc.1
      omega
    rw [List.foldl_cons, e]
    exact fold_stay hb l fun z hz => h z (List.mem_cons_of_mem _ hz)
theorem fold_first {p : List (List PO)} {ks : Ks} {r : List Ks} {n : Nat} : ∀ (l : List Ks) (st : WS), (∀ y ∈ l, RK p y = true → n ≤ y.length) → (l.filter (fun y => decide (y.length = n))).filter (RK p) = ks :: r →
    (st = (false, none) ∨ ∃ b : Ks, st = (true, some b) ∧ n < b.length) → l.foldl (stepK p) st = (true, some ks)
  | [], st, _, h, _ => by cases h
  | y :: l, st, h1, h2, h3 => by
    have h1' : ∀ z ∈ l, RK p z = true → n ≤ z.length := fun z hz => h1 z (List.mem_cons_of_mem _ hz)
    rw [List.foldl_cons]
    cases hR : RK p y with
    | false =>
      have e : stepK p st y = st := by unfold stepK; rw [hR]; rfl
      rw [e]
      refine fold_first (r := r) l st h1' ?_ h3
      rw [List.filter_cons] at h2
      split at h2
      · rwa [List.filter_cons, if_neg (by rw [hR]; simp)] at h2
      · exact h2
    | true =>
      have hn := h1 y (List.mem_cons_self ..) hR
      by_cases hyn : y.length = n
      · rw [List.filter_cons, if_pos (by simpa using hyn), List.filter_cons, if_pos hR] at h2
        obtain ⟨rfl, _⟩ := List.cons.inj h2
        have e : stepK p st y = (true, some y) := by
          unfold stepK
          rw [if_pos]
          rw [hR]
          rcases h3 with rfl | ⟨b, rfl, hb⟩
          · rfl
          · simp; omega
        rw [e]
        exact fold_stay (by omega) l h1'
      · have hs : stepK p st y = st ∨ stepK p st y = (true, some y) := by unfold stepK; split <;> simp
        rw [List.filter_cons, if_neg (by simpa using hyn)] at h2
        rcases hs with e | e
        · rw [e]; exact fold_first l st h1' h2 h3
        · rw [e]; exact fold_first l _ h1' h2 (.inr ⟨y, rfl, by omega⟩)
theorem fold_none {p : List (List PO)} : ∀ (l : List Ks) (st : WS), (∀ y ∈ l, RK p y = false) → l.foldl (stepK p) st = st
  | [], _, _ => rfl
  | y :: l, st, h => by
    have e : stepK p st y = st := by unfold stepK; rw [h y (List.mem_cons_self ..)]; rfl
    rw [List.foldl_cons, e]
    exact fold_none l st fun z hz => h z (List.mem_cons_of_mem _ hz)
/-! ### The two walks, by the picks -/
theorem run_pre (p : List (List PO)) (ks r : Ks) : ∀ i, i ≤ ks.length → runS p (ks ++ r) i = runS p ks i ∧ runE p (ks ++ r) i = runE p ks i
  | 0, _ => ⟨rfl, rfl⟩
  | i + 1, h => by
    obtain ⟨h1, h2⟩ := run_pre p ks r i (by omega)
    have e : (ks ++ r).getD i 0 = ks.getD i 0 := by simp [List.getD, List.getElem?_append_left (show i < ks.length by omega)]
    rw [runS, runS, runE, runE, h1, h2, e]
    exact ⟨rfl, rfl⟩
def nodeK (p : List (List PO)) (ks : Ks) : Nd := ⟨runS p ks ks.length, ks, runE p ks ks.length⟩
theorem run_snoc (p : List (List PO)) (ks : Ks) (t : Int) : runS p (ks ++ [t]) (ks ++ [t]).length = pickS p (runS p ks ks.length) t ∧ runE p (ks ++ [t]) (ks ++ [t]).length = runE p ks ks.length ++ pickE p (runS p ks ks.length) t := by
  have e : (ks ++ [t]).getD ks.length 0 = t := by simp [List.getD]
  obtain ⟨h1, h2⟩ := run_pre p ks [t] ks.length (Nat.le_refl _)
  rw [List.length_append, List.length_singleton, runS, runE, h1, h2, e]
  exact ⟨rfl, rfl⟩
theorem kid_node {p : List (List PO)} {ks : Ks} {t : Nat} (hc : canK p ks t = true) : kidF p (nodeK p ks) t = nodeK p (ks ++ [(t : Int)]) ∧ (tellB p (nodeK p ks) t = false → runE p (ks ++ [(t : Int)]) (ks ++ [(t : Int)]).length = runE p ks ks.length) := by
  obtain ⟨l, i, hx⟩ := can_some hc
  obtain ⟨h1, h2⟩ := run_snoc p ks t
  have hc' : canF (runS p ks ks.length) p t = true := hc
  have e3 : nodeK p (ks ++ [(t : Int)]) = ⟨pickS p (runS p ks ks.length) t, ks ++ [(t : Int)], runE p ks ks.length ++ pickE p (runS p ks ks.length) t⟩ := by rw [nodeK, h1, h2]
  rw [e3, h2]
  simp only [nodeK, kidF, tellB, hx, pickS, pickE, hc', if_true, true_and, Int.toNat_natCast]
  generalize l.getD i dOp.dft = o
  by_cases he : evK (runS p ks ks.length) p t o = 0
  · simp [he]
  · simp [he]
theorem sec_race {l : List Ev} (h : (checkR l).2 = 0) : secB l = raceB l := by
  have hp : (playedF l).2.2 = 0 := by rw [err_same]; exact h
  unfold secB raceB tellF
  rw [if_pos hp, decide_eq_decide]
  have hl : (SortP.sorted ((racesF l).map fun r => r.b)).length = (racesF l).length := by rw [SortP.sorted_len, List.length_map]
  constructor
  · intro h0
    have := SortP.compact_len (SortP.sorted ((racesF l).map fun r => r.b))
    omega
  · intro h0
    generalize SortP.sorted ((racesF l).map fun r => r.b) = z at hl
    refine List.length_pos_of_mem (a := z.toArray[0]!) ?_
    unfold Lib.compact Lib.compactUpTo
    refine List.mem_map.2 ⟨0, List.mem_filter.2 ⟨List.mem_range.2 (by omega), Lib.keeps_lt_one _ 0 (by omega)⟩, rfl⟩
theorem kids_node {p : List (List PO)} {ks : Ks} : ∀ n, kidsT p (nodeK p ks) n = ((List.range n).flatMap fun t : Nat => if canK p ks t = true then [ks ++ [(t : Int)]] else []).map (nodeK p)
  | 0 => rfl
  | n + 1 => by
    rw [kids_step, kids_node n, List.range_succ, List.flatMap_append, List.map_append]
    congr 1
    simp only [List.flatMap_cons, List.flatMap_nil, List.append_nil]
    by_cases hc : canK p ks n = true
    · rw [if_pos hc, if_pos (show canF (nodeK p ks).s p n = true from hc), (kid_node hc).1]; rfl
    · rw [if_neg hc, if_neg (show ¬ canF (nodeK p ks).s p n = true from hc)]; rfl
theorem hits_node {p : List (List PO)} (hp : progC badP p = 0) {ks : Ks} (hR : RK p ks = false) : ∀ n, hitsT p (nodeK p ks) n = ((List.range n).flatMap fun t : Nat => if canK p ks t = true then [ks ++ [(t : Int)]] else []).filter (RK p)
  | 0 => rfl
  | n + 1 => by
    rw [hits_step, hits_node hp hR n, List.range_succ, List.flatMap_append, List.filter_append]
    congr 1
    simp only [List.flatMap_cons, List.flatMap_nil, List.append_nil]
    by_cases hc : canK p ks n = true
    · obtain ⟨k1, k2⟩ := kid_node hc
      have hc' : canF (nodeK p ks).s p n = true := hc
      have hs : secB (kidF p (nodeK p ks) n).ev = RK p (ks ++ [(n : Int)]) := by
        rw [k1]; exact sec_race (Tp.run_ok hp _ _)
      rw [if_pos hc, hitB, hc', hs, k1]
      cases ht : tellB p (nodeK p ks) n with
      | true =>
        cases hr : RK p (ks ++ [(n : Int)]) <;> simp [hr, nodeK]
      | false =>
        have : RK p (ks ++ [(n : Int)]) = false := by rw [RK, k2 ht]; exact hR
        simp [this]
    · have hc' : canF (nodeK p ks).s p n = false := by simpa [nodeK, canK] using hc
      rw [if_neg hc, hitB, hc']; rfl
theorem rows_node {p : List (List PO)} (l : List Ks) : kidsR p (l.map (nodeK p)) = (l.flatMap (kidsK p)).map (nodeK p) := by
  induction l with
  | nil => rfl
  | cons x l ih =>
    rw [List.map_cons, kidsR, List.flatMap_cons, List.flatMap_cons, List.map_append, kids_node]
    congr 1
theorem hrow_node {p : List (List PO)} (hp : progC badP p = 0) (l : List Ks) (h : ∀ x ∈ l, RK p x = false) : hitsR p (l.map (nodeK p)) = (l.flatMap (kidsK p)).filter (RK p) := by
  induction l with
  | nil => rfl
  | cons x l ih =>
    rw [List.map_cons, hitsR, List.flatMap_cons, List.flatMap_cons, List.filter_append, hits_node hp (h x (List.mem_cons_self ..))]
    congr 1
    exact ih fun z hz => h z (List.mem_cons_of_mem _ hz)
theorem bfs_is {p : List (List PO)} (hp : progC badP p = 0) : ∀ (f j : Nat), (∀ x ∈ levK p j [], RK p x = false) →
    (∃ k ks r, j < k ∧ k ≤ j + f ∧ (levK p k []).filter (RK p) = ks :: r ∧ (∀ i, j ≤ i → i < k → ∀ x ∈ levK p i [], RK p x = false) ∧ bfs p f ((levK p j []).map (nodeK p)) = some ks) ∨
    ((∀ i, j ≤ i → i ≤ j + f → ∀ x ∈ levK p i [], RK p x = false) ∧ bfs p f ((levK p j []).map (nodeK p)) = none)
  | 0, j, h => .inr ⟨fun i h1 h2 => by rw [show i = j by omega]; exact h, rfl⟩
  | f + 1, j, h => by
    have e := hrow_node hp _ h
    have e2 : (levK p j []).flatMap (kidsK p) = levK p (j + 1) [] := rfl
    rw [e2] at e
    cases hf : (levK p (j + 1) []).filter (RK p) with
    | cons ks r =>
      refine .inl ⟨j + 1, ks, r, by omega, by omega, hf, fun i h1 h2 => by rw [show i = j by omega]; exact h, ?_⟩
      rw [bfs, e, hf]
    | nil =>
      have h' : ∀ x ∈ levK p (j + 1) [], RK p x = false := fun x hx => by
        have := List.filter_eq_nil_iff.1 hf x hx
        simpa using this
      have eb : bfs p (f + 1) ((levK p j []).map (nodeK p)) = bfs p f ((levK p (j + 1) []).map (nodeK p)) := by
        rw [bfs, e, hf, rows_node, e2]
      rw [eb]
      rcases bfs_is hp f (j + 1) h' with ⟨k, ks, r, g1, g2, g3, g4, g5⟩ | ⟨g1, g2⟩
      · refine .inl ⟨k, ks, r, by omega, by omega, g3, fun i h1 h2 => ?_, g5⟩
        by_cases q : i = j
        · subst q; exact h
        · exact g4 i (by omega) h2
      · refine .inr ⟨fun i h1 h2 => ?_, g2⟩
        by_cases q : i = j
        · subst q; exact h
        · exact g1 i (by omega) (by omega)
theorem race_nil : raceB [] = false := by decide
theorem see_step {p : List (List PO)} (hp : progC badP p = 0) {ks : Ks} {g : Pg} (h : GOK p ks g) (st : WS) : seeG st g = stepK p st ks := by
  have hg : gl g = runE p ks ks.length := by rw [h.eq]; exact (run_same hp (picks := ks) ks.length).2
  obtain ⟨_, _, _, hlen⟩ := h.all hp
  obtain ⟨fd, be⟩ := st
  have ht : tellG fd be g = (RK p ks && (!fd || decide (ks.length < (be.getD []).length))) := by
    rw [tellG, h.z, hg, RK]
    cases hr : raceB (runE p ks ks.length) with
    | false => simp
    | true =>
      have : 0 < (runE p ks ks.length).length := by
        refine List.length_pos_iff.2 fun e => ?_
        rw [e, race_nil] at hr; cases hr
      simp [this]
  unfold seeG stepK
  simp only [ht]
  by_cases hc : (RK p ks && (!fd || decide (ks.length < (be.getD []).length))) = true
  · rw [if_pos hc, if_pos hc, if_pos hc]
    have hr : RK p ks = true := by
      simp only [Bool.and_eq_true] at hc; exact hc.1
    have h0 : ks ≠ [] := fun e => by
      rw [RK, e] at hr
      have : runE p [] ([] : Ks).length = [] := rfl
      rw [this, race_nil] at hr; cases hr
    have hz := h.z
    cases hl : g.last with
    | none => rw [gt, hl] at hz; exact absurd hz.symm h0
    | some x => rw [gt, hl] at hz; simp only [Option.getD_some] at hz; rw [hz]
  · rw [if_neg hc, if_neg hc, if_neg hc]
theorem walk_fold {p : List (List PO)} (hp : progC badP p = 0) : ∀ (f : Nat) (ks : Ks) (g : Pg) (st : WS), GOK p ks g → walkG p f g st = (preK p f ks).foldl (stepK p) st
  | 0, _, _, _, _ => rfl
  | f + 1, ks, g, st, h => by
    have hcan : ∀ t : Nat, canK p ks t = canG g t := fun t => by
      have hs := (run_same hp (picks := ks) ks.length).1
      rw [← h.eq] at hs
      exact can_same hp (fit_run hp _) hs t
    have key : ∀ (m : Nat) (s0 : WS), (List.range m).foldl (fun (st : WS) (t : Nat) => if canG g t = true then walkG p f (Rn.stepG g t (opG g t)) st else st) s0 =
        ((((List.range m).flatMap fun t : Nat => if canK p ks t = true then [ks ++ [(t : Int)]] else []).flatMap (preK p f)).foldl (stepK p) s0) := by
      intro m
      induction m with
      | zero => intro s0; rfl
      | succ m ih =>
        intro s0
        rw [List.range_succ, List.foldl_append, ih, List.flatMap_append, List.flatMap_append, List.foldl_append]
        simp only [List.foldl_cons, List.foldl_nil, List.flatMap_cons, List.flatMap_nil, List.append_nil]
        by_cases hc : canG g m = true
        · rw [if_pos hc, if_pos (by rw [hcan]; exact hc), walk_fold hp f _ _ _ (h.step hp hc)]
          simp
        · rw [if_neg hc, if_neg (by rw [hcan]; exact hc)]
          rfl
    rw [walkG, preK, List.foldl_cons, key, see_step hp h]
    rfl
theorem mem_lev {p : List (List PO)} {f : Nat} {y : Ks} (h : y ∈ preK p f []) : y.length < f ∧ y ∈ levK p y.length [] := by
  have e := pre_lev p f y.length []
  have hm : y ∈ (preK p f []).filter (fun z => decide (z.length = ([] : Ks).length + y.length)) := List.mem_filter.2 ⟨h, by simp⟩
  rw [e] at hm
  split at hm
  · rename_i hl; exact ⟨hl, hm⟩
  · cases hm
theorem both_same {p : List (List PO)} (hc : echF p = 0) : (racesB p).isSome = (dfsB p).1 ∧ (racesB p).getD [] = (dfsB p).2.getD [] := by
  obtain ⟨hp, h10⟩ := ech_ok hc
  have e1 : racesB p = bfs p 11 ((levK p 0 []).map (nodeK p)) := if_pos hc
  have e2 : dfsB p = (preK p 12 []).foldl (stepK p) (false, none) := walk_fold hp 12 [] (firstG p) (false, none) (GOK.first hp)
  have h0 : ∀ x ∈ levK p 0 [], RK p x = false := by
    intro x hx
    simp only [levK, List.mem_singleton] at hx
    subst hx
    exact race_nil
  rw [e1, e2]
  rcases bfs_is hp 11 0 h0 with ⟨k, ks, r, g1, g2, g3, g4, g5⟩ | ⟨g1, g2⟩
  · have hf : (preK p 12 []).foldl (stepK p) (false, none) = (true, some ks) := by
      refine fold_first (n := k) (r := r) _ _ (fun y hy hR => ?_) ?_ (.inl rfl)
      · obtain ⟨m1, m2⟩ := mem_lev hy
        refine Nat.le_of_not_lt fun hlt => ?_
        rw [g4 _ (Nat.zero_le _) hlt y m2] at hR; cases hR
      · have e := pre_lev p 12 k []
        simp only [List.length_nil, Nat.zero_add] at e
        rw [e, if_pos (by omega)]; exact g3
    rw [hf, g5]
    exact ⟨rfl, rfl⟩
  · have hf : (preK p 12 []).foldl (stepK p) (false, none) = (false, none) := by
      refine fold_none _ _ fun y hy => ?_
      obtain ⟨m1, m2⟩ := mem_lev hy
      exact g1 _ (Nat.zero_le _) (by omega) y m2
    rw [hf, g2]
    exact ⟨rfl, rfl⟩
end Go.Proofs.Ytgcbhanfhnianaa.Ev
