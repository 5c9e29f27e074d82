/- What is the same but for order may as well be, and races between the same events. Conditions: none. -/
import Derived.Test.YtohbjnpafpcbkaaTopR
set_option linter.unusedSimpArgs false
set_option linter.unusedVariables false
open Go Go.Sx Go.Proofs
namespace Go.Proofs.Ytohbjnpafpcbkaa.Tp
open Go.Proofs.Ytohbjnpafpcbkaa.D Go.Proofs.Ytohbjnpafpcbkaa.Tr Go.Proofs.Ytohbjnpafpcbkaa.Fu Go.Proofs.Ytohbjnpafpcbkaa.Pg Go.Proofs.Ytohbjnpafpcbkaa.Rn Go.Proofs.Ytohbjnpafpcbkaa.Sw Go.Proofs.Ytohbjnpafpcbkaa.Ah Go.Proofs.Ytohbjnpafpcbkaa.Ps Go.Proofs.Ytohbjnpafpcbkaa.Od Go.Proofs.Ytohbjnpafpcbkaa.St Go.Proofs.Ytohbjnpafpcbkaa.Rc
def Vd : List Ev → List Ev → Prop
  | _, [] => True
  | pre, e :: r => wrongR pre e = 0 ∧ Vd (pre ++ [e]) r
theorem Vd.at {l : List Ev} : ∀ {pre : List Ev}, Vd pre l ↔ ∀ j, j < l.length → wrongR (pre ++ l.take j) (l.getD j dEv.dft) = 0 := by
  induction l with
  | nil => exact fun {pre} => ⟨fun _ j h => absurd h (Nat.not_lt_zero _), fun _ => trivial⟩
  | cons e r ih =>
    intro pre
    rw [Vd, ih]
    constructor
    · rintro ⟨h1, h2⟩ j hj
      cases j with
      | zero => simpa using h1
      | succ j =>
        have := h2 j (by simpa using hj)
        rw [List.take_succ_cons, List.getD_cons_succ]
        simpa using this
    · intro h
      refine ⟨by simpa using h 0 (by simp), fun j hj => ?_⟩
      have := h (j + 1) (by simpa using hj)
      rw [List.take_succ_cons, List.getD_cons_succ] at this
      simpa using this
theorem check_iff {l : List Ev} : (checkR l).2 = 0 ↔ l.length ≤ 80 ∧ Vd [] l := by
  rw [Vd.at]
  constructor
  · exact fun h => ⟨ok_len h, fun j hj => by simpa using ok_all h j hj⟩
  · rintro ⟨h1, h2⟩
    rw [checkR, if_neg (by omega)]
    exact checkL_ok _ 0 rfl fun j _ hj => by simpa using h2 j hj
theorem Vd.append {l m : List Ev} : ∀ {pre : List Ev}, Vd pre (l ++ m) ↔ Vd pre l ∧ Vd (pre ++ l) m := by
  induction l with
  | nil => intro pre; simp [Vd]
  | cons e r ih =>
    intro pre
    rw [List.cons_append, Vd, Vd, ih, and_assoc]
    simp
theorem wrong_congr {p p' : List Ev} (hb : ∀ t, begB p t = begB p' t) (hd : ∀ t, didB p 6 t = didB p' 6 t) (ho : ∀ k, Tr.ownR p k = Tr.ownR p' k) (e : Ev) : wrongR p e = wrongR p' e := by
  unfold wrongR
  rw [hb, hd, ho, hb]
theorem did_add (l : List Ev) (e : Ev) (k t : Int) : didB (l ++ [e]) k t = (didB l k t || (decide (e.kind = k) && decide (e.obj = t))) := by simp [didB]
theorem Vd.congr {l : List Ev} : ∀ {p p' : List Ev}, (∀ t, begB p t = begB p' t) → (∀ t, didB p 6 t = didB p' 6 t) → (∀ k, Tr.ownR p k = Tr.ownR p' k) → Vd p l → Vd p' l := by
  induction l with
  | nil => exact fun _ _ _ _ => trivial
  | cons e r ih =>
    intro p p' hb hd ho h
    rw [Vd] at h ⊢
    refine ⟨by rw [← wrong_congr hb hd ho]; exact h.1, ih (fun t => ?_) (fun t => ?_) (fun k => ?_) h.2⟩
    · rw [beg_add, beg_add, hb]
    · rw [did_add, did_add, hd]
    · rw [own_add, own_add, ho]
/-- What two that are apart are not. -/
theorem apart_not {a b : Ev} (h : apartB a b = true) : a.thr ≠ b.thr ∧ ¬ (b.kind = 5 ∧ b.obj = a.thr) ∧ ¬ (b.kind = 6 ∧ b.obj = a.thr) ∧ ((a.kind = 3 ∨ a.kind = 4) → (b.kind = 3 ∨ b.kind = 4) → a.obj ≠ b.obj) ∧ ((a.kind = 5 ∨ a.kind = 6) → b.kind = 5 → a.obj ≠ b.obj) := by
  unfold apartB at h
  split at h
  · cases h
  · rename_i h1
    simp only [touchB, Bool.or_eq_true, Bool.and_eq_true, decide_eq_true_eq, not_or, not_and] at h1
    refine ⟨h1.1.1, fun h2 => h1.2 (.inl h2.1) h2.2, fun h2 => h1.2 (.inr h2.1) h2.2, fun ka kb ho => ?_, fun ka kb ho => ?_⟩
    · rcases ka with ka | ka <;> rcases kb with kb | kb <;> rw [ka, kb, ho] at h <;> simp [grp] at h
    · rcases ka with ka | ka <;> rw [ka, kb, ho] at h <;> simp [grp] at h
theorem own_comm {a b : Ev} (h : apartB a b = true) (k o : Int) : ownS k (ownS k o a) b = ownS k (ownS k o b) a := by
  obtain ⟨_, _, _, h4, _⟩ := apart_not h
  have := h4
  unfold ownS
  by_cases a4 : a.obj = k ∧ a.kind = 4
  · rw [if_pos a4]
    have b4 : ¬ (b.obj = k ∧ b.kind = 4) := fun hb => h4 (.inr a4.2) (.inr hb.2) (a4.1.trans hb.1.symm)
    have b3 : ¬ (b.obj = k ∧ b.kind = 3) := fun hb => h4 (.inr a4.2) (.inl hb.2) (a4.1.trans hb.1.symm)
    rw [if_neg b4, if_neg b3, if_neg b4, if_neg b3, if_pos a4]
  · by_cases a3 : a.obj = k ∧ a.kind = 3
    · have b4 : ¬ (b.obj = k ∧ b.kind = 4) := fun hb => h4 (.inl a3.2) (.inr hb.2) (a3.1.trans hb.1.symm)
      have b3 : ¬ (b.obj = k ∧ b.kind = 3) := fun hb => h4 (.inl a3.2) (.inl hb.2) (a3.1.trans hb.1.symm)
      simp only [a4, a3, b4, b3, if_false, if_true, and_self, ↓reduceIte]
    · simp only [a4, a3, if_false]
theorem wrong_skip {a b : Ev} (h : apartB a b = true) (xs : List Ev) : wrongR (xs ++ [b]) a = wrongR xs a := by
  obtain ⟨h1, h2, h3, h4, h5⟩ := apart_not h
  unfold wrongR
  have e1 : begB (xs ++ [b]) a.thr = begB xs a.thr := by
    rw [beg_add]
    by_cases k : b.kind = 5
    · have : ¬ b.obj = a.thr := fun ho => h2 ⟨k, ho⟩
      simp [k, this]
    · simp [k]
  have e2 : didB (xs ++ [b]) 6 a.thr = didB xs 6 a.thr := by
    rw [did_add]
    by_cases k : b.kind = 6
    · have : ¬ b.obj = a.thr := fun ho => h3 ⟨k, ho⟩
      simp [k, this]
    · simp [k]
  rw [e1, e2]
  by_cases k34 : a.kind = 3 ∨ a.kind = 4
  · have e3 : Tr.ownR (xs ++ [b]) a.obj = Tr.ownR xs a.obj := by
      rw [own_add, ownS, if_neg, if_neg]
      · exact fun hb => h4 k34 (.inl hb.2) hb.1.symm
      · exact fun hb => h4 k34 (.inr hb.2) hb.1.symm
    rw [e3]
    rcases k34 with k | k <;> simp [k]
  · by_cases k56 : a.kind = 5 ∨ a.kind = 6
    · have e3 : begB (xs ++ [b]) a.obj = begB xs a.obj := by
        rw [beg_add]
        by_cases k : b.kind = 5
        · have : ¬ b.obj = a.obj := fun ho => h5 k56 k ho.symm
          simp [k, this]
        · simp [k]
      rw [e3]
      rcases k56 with k | k <;> simp [k]
    · have k3 : ¬ a.kind = 3 := fun h => k34 (.inl h)
      have k4 : ¬ a.kind = 4 := fun h => k34 (.inr h)
      have k5 : ¬ a.kind = 5 := fun h => k56 (.inl h)
      have k6 : ¬ a.kind = 6 := fun h => k56 (.inr h)
      simp only [k3, k4, k5, k6, if_false]
theorem apart_sym (a b : Ev) : apartB a b = apartB b a := by
  unfold apartB
  by_cases h1 : a.thr = b.thr
  · simp [h1]
  · have h1' : ¬ b.thr = a.thr := fun e => h1 e.symm
    cases h2 : touchB a b <;> cases h3 : touchB b a <;> simp [h1, h1']
    by_cases hg : (grp a.kind).1 = (grp b.kind).1
    · by_cases ho : a.obj = b.obj
      · simp [hg, ho, Bool.and_comm]
      · have ho' : ¬ b.obj = a.obj := fun e => ho e.symm
        simp [ho, ho']
    · have hg' : ¬ (grp b.kind).1 = (grp a.kind).1 := fun e => hg e.symm
      simp [hg, hg']
/-- **What is the same but for order may be, if one of them may.** -/
theorem eqv_check {l m : List Ev} (h : Eqv l m) : (checkR l).2 = 0 → (checkR m).2 = 0 := by
  induction h with
  | refl l => exact fun h => h
  | @swap a b xs ys ha =>
    rw [check_iff, check_iff, Vd.append, Vd.append, Vd, Vd, Vd, Vd]
    simp only [List.nil_append]
    rintro ⟨h0, h1, h2, h3, h4⟩
    have ha' : apartB b a = true := by rw [apart_sym]; exact ha
    refine ⟨by simpa using h0, h1, by rw [← wrong_skip ha' xs]; exact h3, by rw [wrong_skip ha xs]; exact h2, Vd.congr (fun t => ?_) (fun t => ?_) (fun k => ?_) h4⟩
    · rw [beg_add, beg_add, beg_add, beg_add, Bool.or_assoc, Bool.or_assoc]
      congr 1
      exact Bool.or_comm _ _
    · rw [did_add, did_add, did_add, did_add, Bool.or_assoc, Bool.or_assoc]
      congr 1
      exact Bool.or_comm _ _
    · rw [own_add, own_add, own_add, own_add]
      exact own_comm ha k _
  | trans _ _ h1 h2 => exact fun h => h2 (h1 h)
/-- The name of an event: its thread, and which one of that it is. -/
def ofT (t : Int) (l : List Ev) : Nat := (l.filter fun e => decide (e.thr = t)).length
def nmP (l : List Ev) (i : Nat) : Pr := ⟨(at' l i).thr, ofT (at' l i).thr (l.take i)⟩
theorem ofT_swap (t : Int) (xs ys : List Ev) (a b : Ev) : ofT t (xs ++ b :: a :: ys) = ofT t (xs ++ a :: b :: ys) := by
  unfold ofT
  rw [List.filter_append, List.filter_append, List.length_append, List.length_append]
  congr 1
  simp only [List.filter_cons]
  split <;> split <;> simp
theorem nm_sg {a b : Ev} (h : a.thr ≠ b.thr) (xs ys : List Ev) (i : Nat) : nmP (xs ++ b :: a :: ys) i = nmP (xs ++ a :: b :: ys) (sg xs.length i) := by
  have hat : at' (xs ++ b :: a :: ys) i = at' (xs ++ a :: b :: ys) (sg xs.length i) := sg_at xs ys a b i
  unfold nmP
  rw [hat]
  congr 2
  have ga : at' (xs ++ a :: b :: ys) xs.length = a := by simp [at', List.getD]
  have gb : at' (xs ++ a :: b :: ys) (xs.length + 1) = b := by simp [at', List.getD, List.getElem?_append_right (show xs.length ≤ xs.length + 1 by omega)]
  have t1 : ∀ (u v : Ev), (xs ++ u :: v :: ys).take xs.length = xs := fun u v => by simp
  have t2 : ∀ (u v : Ev), (xs ++ u :: v :: ys).take (xs.length + 1) = xs ++ [u] := fun u v => by
    rw [List.take_append]; simp [Nat.add_sub_cancel_left, List.take_of_length_le (show xs.length ≤ xs.length + 1 by omega)]
  unfold sg
  by_cases h1 : i = xs.length
  · rw [if_pos h1]
    subst h1
    rw [gb, t1, t2]
    unfold ofT
    rw [List.filter_append, List.filter_cons_of_neg (by simpa using h)]
    simp
  · rw [if_neg h1]
    by_cases h2 : i = xs.length + 1
    · rw [if_pos h2]
      subst h2
      rw [ga, t1, t2]
      unfold ofT
      rw [List.filter_append, List.filter_cons_of_neg (by simpa using fun e => h e.symm)]
      simp
    · rw [if_neg h2]
      by_cases h3 : i < xs.length
      · rw [List.take_append_of_le_length (by omega), List.take_append_of_le_length (by omega)]
      · obtain ⟨d, hd⟩ : ∃ d, i = xs.length + (d + 2) := ⟨i - xs.length - 2, by omega⟩
        have t3 : ∀ (u v : Ev), (xs ++ u :: v :: ys).take i = xs ++ u :: v :: ys.take d := fun u v => by
          rw [hd, List.take_length_add_append]; simp
        rw [t3, t3]
        exact ofT_swap _ xs _ a b
/-- Who races with whom, by names. -/
def RS (l : List Ev) (x : Pr × Pr) : Prop := ∃ i j, i < l.length ∧ j < l.length ∧ RcP l i j ∧ x = (nmP l i, nmP l j)
/-- **MAZURKIEWICZ.** -/
theorem eqv_races {l m : List Ev} (h : Eqv l m) : RS l = RS m := by
  refine (h.keep (fun l => RS l) (fun _ => True) (fun xs ys a b _ ha => ?_) (fun _ _ => trivial)).1
  funext x
  have hlen : (xs ++ b :: a :: ys).length = (xs ++ a :: b :: ys).length := by simp
  have hk : xs.length + 1 < (xs ++ a :: b :: ys).length := by simp
  have hsl : ∀ {i}, i < (xs ++ a :: b :: ys).length → sg xs.length i < (xs ++ a :: b :: ys).length := fun {i} hi => by
    unfold sg
    repeat' split
    all_goals omega
  have hn := (apart_not ha).1
  refine propext ⟨?_, ?_⟩
  · rintro ⟨i, j, hi, hj, hr, rfl⟩
    refine ⟨sg xs.length i, sg xs.length j, by rw [hlen]; exact hsl hi, by rw [hlen]; exact hsl hj, ?_, ?_⟩
    · rw [rc_sg ha, sg_sg, sg_sg]; exact hr
    · rw [nm_sg hn, nm_sg hn, sg_sg, sg_sg]
  · rintro ⟨i, j, hi, hj, hr, rfl⟩
    rw [hlen] at hi hj
    exact ⟨sg xs.length i, sg xs.length j, hsl hi, hsl hj, (rc_sg ha i j).1 hr, by rw [nm_sg hn, nm_sg hn]⟩
end Go.Proofs.Ytohbjnpafpcbkaa.Tp
