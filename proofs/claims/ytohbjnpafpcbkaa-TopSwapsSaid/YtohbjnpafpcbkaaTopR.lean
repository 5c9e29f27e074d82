/- Traces that are the same but for order. Conditions: none. -/
import Derived.Test.YtohbjnpafpcbkaaSwapA
import Derived.Test.YtohbjnpafpcbkaaCpy
import Derived.Test.YtohbjnpafpcbkaaRows
import Derived.Test.YtohbjnpafpcbkaaSx41
import Derived.Shelf.SlicesE.Kit
import Derived.Shelf.RegionOpenPlain
import Derived.WalkKit
import Derived.Deep.LoopGhost
import Derived.Deep.RegionLaw
import Derived.Lib.Walk
import Derived.Sort.WalkB12
import Derived.Lib.SliceRun
import Derived.Test.YtohbjnpafpcbkaaTraceR
import Derived.Test.YtohbjnpafpcbkaaFullQ
import Derived.Test.YtohbjnpafpcbkaaProgQ
section
set_option linter.unusedSimpArgs false
set_option linter.unusedVariables false
open Go Go.Sx Go.Proofs
namespace Go.Proofs.Ytohbjnpafpcbkaa.Tp
open Go.Proofs.Ytohbjnpafpcbkaa.D Go.Proofs.Ytohbjnpafpcbkaa.Tr Go.Proofs.Ytohbjnpafpcbkaa.Fu Go.Proofs.Ytohbjnpafpcbkaa.Sw Go.Proofs.Ytohbjnpafpcbkaa.Ah Go.Proofs.Ytohbjnpafpcbkaa.Ps Go.Proofs.Ytohbjnpafpcbkaa.Od Go.Proofs.Ytohbjnpafpcbkaa.St Go.Proofs.Ytohbjnpafpcbkaa.Rc
/-- The same but for order: neighbours that are apart change places. -/
inductive Eqv : List Ev → List Ev → Prop
  | refl (l : List Ev) : Eqv l l
  | swap {a b : Ev} (xs ys : List Ev) : apartB a b = true → Eqv (xs ++ a :: b :: ys) (xs ++ b :: a :: ys)
  | trans {l m n : List Ev} : Eqv l m → Eqv m n → Eqv l n
theorem Eqv.cons {l m : List Ev} (x : Ev) (h : Eqv l m) : Eqv (x :: l) (x :: m) := by
  induction h with
  | refl l => exact .refl _
  | swap xs ys h => exact .swap (x :: xs) ys h
  | trans _ _ h1 h2 => exact .trans h1 h2
/-- What swaps keep, all of them keep. -/
theorem Eqv.keep {β : Type} (φ : List Ev → β) (P : Ev → Prop) (hφ : ∀ xs ys a b, (∀ e ∈ xs ++ a :: b :: ys, P e) → apartB a b = true → φ (xs ++ a :: b :: ys) = φ (xs ++ b :: a :: ys)) {l m : List Ev} (h : Eqv l m) :
    (∀ e ∈ l, P e) → φ l = φ m ∧ ∀ e ∈ m, P e := by
  induction h with
  | refl l => exact fun h => ⟨rfl, h⟩
  | swap xs ys ha => exact fun h => ⟨hφ _ _ _ _ h ha, fun e he => h e (by
      simp only [List.mem_append, List.mem_cons] at he ⊢
      rcases he with h | h | h | h
      · exact .inl h
      · exact .inr (.inr (.inl h))
      · exact .inr (.inl h)
      · exact .inr (.inr (.inr h)))⟩
  | trans _ _ h1 h2 => exact fun h => ⟨(h1 h).1.trans (h2 (h1 h).2).1, (h2 (h1 h).2).2⟩
theorem split_at {l : List Ev} {i : Nat} (h : i < l.length) : l = l.take i ++ l.getD i dEv.dft :: l.drop (i + 1) := by
  have e : l.getD i dEv.dft = l[i] := by simp [List.getD, h]
  rw [e, ← List.drop_eq_getElem_cons h, List.take_append_drop]
/-- What is apart is neither direct nor a race. -/
theorem apart_dir {a b : Ev} (h : apartB a b = true) : a.thr ≠ b.thr ∧ dirP a b = false ∧ dirP b a = false ∧ ¬ (isAcc a = true ∧ isAcc b = true ∧ a.obj = b.obj ∧ ¬ (a.kind = 1 ∧ b.kind = 1)) := by
  unfold apartB at h
  split at h
  · cases h
  · rename_i h1
    simp only [Bool.or_eq_true, decide_eq_true_eq, not_or] at h1
    obtain ⟨⟨h1, h2⟩, h3⟩ := h1
    simp only [touchB, Bool.and_eq_true, Bool.or_eq_true, decide_eq_true_eq, not_and] at h2 h3
    have h1' := Ne.symm h1
    refine ⟨h1, ?_, ?_, ?_⟩
    · rw [Bool.eq_false_iff]
      intro hd
      simp only [dirP, Bool.or_eq_true, Bool.and_eq_true, decide_eq_true_eq] at hd
      rcases hd with ((((hd | hd) | hd) | hd) | hd) | hd
      · exact h1 hd
      · obtain ⟨⟨k1, k2⟩, k3⟩ := hd
        simp [k1, k2, k3, grp] at h
      · exact h2 (.inl hd.1) hd.2
      · exact h3 (.inr hd.1) hd.2
      · obtain ⟨⟨k1, k2⟩, k3⟩ := hd
        simp [k1, k2, k3, grp] at h
      · obtain ⟨⟨k1, k2⟩, k3⟩ := hd
        simp [k1, k2, k3, grp] at h
    · rw [Bool.eq_false_iff]
      intro hd
      simp only [dirP, Bool.or_eq_true, Bool.and_eq_true, decide_eq_true_eq] at hd
      rcases hd with ((((hd | hd) | hd) | hd) | hd) | hd
      · exact h1' hd
      · obtain ⟨⟨k1, k2⟩, k3⟩ := hd
        simp [k1, k2, k3, grp] at h
      · exact h3 (.inl hd.1) hd.2
      · exact h2 (.inr hd.1) hd.2
      · obtain ⟨⟨k1, k2⟩, k3⟩ := hd
        simp [k1, k2, k3, grp] at h
      · obtain ⟨⟨k1, k2⟩, k3⟩ := hd
        simp [k1, k2, k3, grp] at h
    · rintro ⟨ka, kb, ko, kn⟩
      simp only [isAcc, Bool.or_eq_true, decide_eq_true_eq] at ka kb
      rcases ka with ka | ka <;> rcases kb with kb | kb
      · exact kn ⟨ka, kb⟩
      all_goals simp [ka, kb, ko, grp] at h
/-- Two neighbours change places. -/
def sg (k i : Nat) : Nat := if i = k then k + 1 else if i = k + 1 then k else i
theorem sg_sg (k i : Nat) : sg k (sg k i) = i := by
  unfold sg
  repeat' split
  all_goals omega
theorem sg_at (xs ys : List Ev) (a b : Ev) (i : Nat) : (xs ++ b :: a :: ys).getD i dEv.dft = (xs ++ a :: b :: ys).getD (sg xs.length i) dEv.dft := by
  unfold sg
  simp only [List.getD]
  split
  · subst i
    rw [List.getElem?_append_right (Nat.le_refl _), List.getElem?_append_right (by omega)]
    simp
  · split
    · rename_i h
      subst h
      rw [List.getElem?_append_right (by omega), List.getElem?_append_right (Nat.le_refl _)]
      simp
    · by_cases h : i < xs.length
      · rw [List.getElem?_append_left h, List.getElem?_append_left h]
      · rw [List.getElem?_append_right (by omega), List.getElem?_append_right (by omega)]
        obtain ⟨d, hd⟩ : ∃ d, i - xs.length = d + 2 := ⟨i - xs.length - 2, by omega⟩
        rw [hd]; rfl
/-- What a race is. -/
def RcP (l : List Ev) (i j : Nat) : Prop := i < j ∧ isAcc (at' l i) = true ∧ isAcc (at' l j) = true ∧ (at' l i).obj = (at' l j).obj ∧ ¬ ((at' l i).kind = 1 ∧ (at' l j).kind = 1) ∧ ¬ Ahd l i j
section
variable {xs ys : List Ev} {a b : Ev} (h : apartB a b = true)
include h
theorem dir_sg (i j : Nat) : upP (dirL (xs ++ b :: a :: ys)) i j = upP (dirL (xs ++ a :: b :: ys)) (sg xs.length i) (sg xs.length j) := by
  obtain ⟨_, h1, h2, _⟩ := apart_dir h
  have hd : dirL (xs ++ b :: a :: ys) i j = dirL (xs ++ a :: b :: ys) (sg xs.length i) (sg xs.length j) := by
    rw [dirL, dirL, sg_at xs ys a b i, sg_at xs ys a b j]
  have ga : (xs ++ a :: b :: ys).getD xs.length dEv.dft = a := by simp [List.getD]
  have gb : (xs ++ a :: b :: ys).getD (xs.length + 1) dEv.dft = b := by
    simp [List.getD, List.getElem?_append_right (show xs.length ≤ xs.length + 1 by omega)]
  unfold upP
  rw [hd]
  by_cases e1 : i = xs.length ∧ j = xs.length + 1
  · have : dirL (xs ++ a :: b :: ys) (sg xs.length i) (sg xs.length j) = false := by
      rw [e1.1, e1.2, show sg xs.length xs.length = xs.length + 1 by simp [sg], show sg xs.length (xs.length + 1) = xs.length by simp [sg], dirL, ga, gb, h2]
    rw [this, Bool.and_false, Bool.and_false]
  · by_cases e2 : i = xs.length + 1 ∧ j = xs.length
    · have : dirL (xs ++ a :: b :: ys) (sg xs.length i) (sg xs.length j) = false := by
        rw [e2.1, e2.2, show sg xs.length xs.length = xs.length + 1 by simp [sg], show sg xs.length (xs.length + 1) = xs.length by simp [sg], dirL, ga, gb, h1]
      rw [this, Bool.and_false, Bool.and_false]
    · have : decide (i < j) = decide (sg xs.length i < sg xs.length j) := by
        rw [decide_eq_decide]
        unfold sg
        repeat' split
        all_goals omega
      rw [this]
theorem ahd_sg (i j : Nat) : Ahd (xs ++ b :: a :: ys) i j ↔ Ahd (xs ++ a :: b :: ys) (sg xs.length i) (sg xs.length j) := by
  have h1 : ∀ i j, Ahd (xs ++ b :: a :: ys) i j → Ahd (xs ++ a :: b :: ys) (sg xs.length i) (sg xs.length j) := by
    intro i j hh
    induction hh with
    | one e => exact .one (by rw [← dir_sg h]; exact e)
    | snoc _ e ih => exact .snoc ih (by rw [← dir_sg h]; exact e)
  have h2 : ∀ i j, Ahd (xs ++ a :: b :: ys) i j → Ahd (xs ++ b :: a :: ys) (sg xs.length i) (sg xs.length j) := by
    intro i j hh
    induction hh with
    | one e => exact .one (by rw [dir_sg h, sg_sg, sg_sg]; exact e)
    | snoc _ e ih => exact .snoc ih (by rw [dir_sg h, sg_sg, sg_sg]; exact e)
  exact ⟨h1 i j, fun hh => by have := h2 _ _ hh; rwa [sg_sg, sg_sg] at this⟩
theorem rc_sg (i j : Nat) : RcP (xs ++ b :: a :: ys) i j ↔ RcP (xs ++ a :: b :: ys) (sg xs.length i) (sg xs.length j) := by
  obtain ⟨_, _, _, h4⟩ := apart_dir h
  have ga : (xs ++ a :: b :: ys).getD xs.length dEv.dft = a := by simp [List.getD]
  have gb : (xs ++ a :: b :: ys).getD (xs.length + 1) dEv.dft = b := by
    simp [List.getD, List.getElem?_append_right (show xs.length ≤ xs.length + 1 by omega)]
  unfold RcP
  show (i < j ∧ isAcc ((xs ++ b :: a :: ys).getD i dEv.dft) = true ∧ isAcc ((xs ++ b :: a :: ys).getD j dEv.dft) = true ∧ ((xs ++ b :: a :: ys).getD i dEv.dft).obj = ((xs ++ b :: a :: ys).getD j dEv.dft).obj ∧ ¬ (((xs ++ b :: a :: ys).getD i dEv.dft).kind = 1 ∧ ((xs ++ b :: a :: ys).getD j dEv.dft).kind = 1) ∧ ¬ Ahd (xs ++ b :: a :: ys) i j) ↔
    (sg xs.length i < sg xs.length j ∧ isAcc ((xs ++ a :: b :: ys).getD (sg xs.length i) dEv.dft) = true ∧ isAcc ((xs ++ a :: b :: ys).getD (sg xs.length j) dEv.dft) = true ∧ ((xs ++ a :: b :: ys).getD (sg xs.length i) dEv.dft).obj = ((xs ++ a :: b :: ys).getD (sg xs.length j) dEv.dft).obj ∧ ¬ (((xs ++ a :: b :: ys).getD (sg xs.length i) dEv.dft).kind = 1 ∧ ((xs ++ a :: b :: ys).getD (sg xs.length j) dEv.dft).kind = 1) ∧ ¬ Ahd (xs ++ a :: b :: ys) (sg xs.length i) (sg xs.length j))
  rw [sg_at xs ys a b i, sg_at xs ys a b j, ahd_sg h]
  have conf : ∀ i j, (i = xs.length ∧ j = xs.length + 1) ∨ (i = xs.length + 1 ∧ j = xs.length) → ¬ (isAcc ((xs ++ a :: b :: ys).getD (sg xs.length i) dEv.dft) = true ∧ isAcc ((xs ++ a :: b :: ys).getD (sg xs.length j) dEv.dft) = true ∧ ((xs ++ a :: b :: ys).getD (sg xs.length i) dEv.dft).obj = ((xs ++ a :: b :: ys).getD (sg xs.length j) dEv.dft).obj ∧ ¬ (((xs ++ a :: b :: ys).getD (sg xs.length i) dEv.dft).kind = 1 ∧ ((xs ++ a :: b :: ys).getD (sg xs.length j) dEv.dft).kind = 1)) := by
    have s1 : sg xs.length xs.length = xs.length + 1 := by simp [sg]
    have s2 : sg xs.length (xs.length + 1) = xs.length := by simp [sg]
    rintro i j (⟨rfl, rfl⟩ | ⟨rfl, rfl⟩)
    · rw [s1, s2, ga, gb]
      exact fun hh => h4 ⟨hh.2.1, hh.1, hh.2.2.1.symm, fun q => hh.2.2.2 ⟨q.2, q.1⟩⟩
    · rw [s1, s2, ga, gb]
      exact h4
  by_cases e : (i = xs.length ∧ j = xs.length + 1) ∨ (i = xs.length + 1 ∧ j = xs.length)
  · have := conf i j e
    exact ⟨fun hh => absurd ⟨hh.2.1, hh.2.2.1, hh.2.2.2.1, hh.2.2.2.2.1⟩ this, fun hh => absurd ⟨hh.2.1, hh.2.2.1, hh.2.2.2.1, hh.2.2.2.2.1⟩ this⟩
  · have : i < j ↔ sg xs.length i < sg xs.length j := by
      unfold sg
      repeat' split
      all_goals omega
    rw [this]
end
/-- Sums. -/
def s1 (f : Nat → Nat) : Nat → Nat
  | 0 => 0
  | n + 1 => s1 f n + f n
theorem nr_iff {l : List Ev} (hl : ∀ e ∈ l, isEv e = true) {i j : Nat} (hi : i < l.length) (hj : j < l.length) : noRace l i j (at' l i) (at' l j) = false ↔ RcP l i j := by
  have kk : ∀ {i}, i < l.length → 1 ≤ (at' l i).kind ∧ (at' l i).kind ≤ 8 := fun {i} hi => by
    have hm : at' l i ∈ l := by
      show l.getD i dEv.dft ∈ l
      have e : l.getD i dEv.dft = l[i] := by simp [List.getD, hi]
      rw [e]; exact List.getElem_mem ..
    have b := (isEv_iff _).1 (hl _ hm)
    have := b.2.2
    unfold many at this
    repeat' split at this
    all_goals omega
  have ki := kk hi
  have kj := kk hj
  have ha : aheadR l i j = false ↔ ¬ Ahd l i j := by rw [← aheadR_iff (Nat.le_of_lt hj)]; simp
  have hw : IntKind.i64.wrap ((at' l i).kind + (at' l j).kind) = (at' l i).kind + (at' l j).kind := IntWalk.i64_in _ (by omega)
  simp only [noRace, RcP, hw, Bool.or_eq_false_iff, decide_eq_false_iff_not, Bool.not_eq_false', decide_eq_true_eq, ha, isAcc, Bool.or_eq_true]
  constructor
  · rintro ⟨⟨⟨⟨⟨h1, h2⟩, h3⟩, h4⟩, h5⟩, h6⟩
    exact ⟨by omega, by omega, by omega, h4, by omega, h6⟩
  · rintro ⟨h1, h2, h3, h4, h5, h6⟩
    exact ⟨⟨⟨⟨⟨by omega, by omega⟩, by omega⟩, h4⟩, by omega⟩, h6⟩
end Go.Proofs.Ytohbjnpafpcbkaa.Tp
end
section
set_option linter.unusedSimpArgs false
set_option linter.unusedVariables false
open Go Go.Sx Go.Proofs
namespace Go.Proofs.Ytohbjnpafpcbkaa.Tp
open Go.Proofs.Ytohbjnpafpcbkaa.D Go.Proofs.Ytohbjnpafpcbkaa.Tr Go.Proofs.Ytohbjnpafpcbkaa.Pg Go.Proofs.Ytohbjnpafpcbkaa.Rn
theorem checkL_ok {l : List Ev} : ∀ (r : List Ev) (i : Nat), l.drop i = r → (∀ j, i ≤ j → j < l.length → wrongR (l.take j) (l.getD j dEv.dft) = 0) → (checkL l r i).2 = 0
  | [], _, _, _ => rfl
  | e :: r, i, hr, h => by
    have hi : i < l.length := by
      rcases Nat.lt_or_ge i l.length with h1 | h1
      · exact h1
      · rw [List.drop_eq_nil_of_le h1] at hr; cases hr
    have hd := drop_getD dEv.dft hi
    rw [hr] at hd
    obtain ⟨rfl, hr'⟩ := List.cons.inj hd
    rw [checkL, if_pos (h i (Nat.le_refl _) hi)]
    exact checkL_ok r (i + 1) hr'.symm fun j h1 h2 => h j (by omega) h2
end Go.Proofs.Ytohbjnpafpcbkaa.Tp
end
section
set_option linter.unusedSimpArgs false
set_option linter.unusedVariables false
open Go Go.Sx Go.Proofs
namespace Go.Proofs.Ytohbjnpafpcbkaa.Tp
open Go.Proofs.Ytohbjnpafpcbkaa.D Go.Proofs.Ytohbjnpafpcbkaa.Tr Go.Proofs.Ytohbjnpafpcbkaa.Pg Go.Proofs.Ytohbjnpafpcbkaa.Rn Go.Proofs.Ytohbjnpafpcbkaa.Sw
end Go.Proofs.Ytohbjnpafpcbkaa.Tp
end
