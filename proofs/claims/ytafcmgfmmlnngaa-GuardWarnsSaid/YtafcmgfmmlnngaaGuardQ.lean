/- The guards: the code and the reference agree. Conditions: none. -/
import Derived.Test.YtafcmgfmmlnngaaGuardJ
import Derived.Test.YtafcmgfmmlnngaaGuardK
import Derived.Test.YtafcmgfmmlnngaaGuardR
set_option linter.unusedSimpArgs false
set_option linter.unusedVariables false
set_option maxRecDepth 100000
open Go Go.Sx Go.Proofs
namespace Go.Proofs.Ytafcmgfmmlnngaa.Gu
open Go.Proofs.Ytafcmgfmmlnngaa.D Go.Proofs.Ytafcmgfmmlnngaa.Tr
def five (b0 b1 b2 b3 b4 : Bool) : Nat := (((((0 + if b0 then 2 ^ 0 else 0) + if b1 then 2 ^ 1 else 0) + if b2 then 2 ^ 2 else 0) + if b3 then 2 ^ 3 else 0) + if b4 then 2 ^ 4 else 0)
theorem sum_five (p : Nat → Bool) : sumB p 5 = five (p 0) (p 1) (p 2) (p 3) (p 4) := rfl
theorem or_five : ∀ (o : Fin 5) (b0 b1 b2 b3 b4 : Bool), bitOr .i64 (five b0 b1 b2 b3 b4 : Nat) (bit (o.val : Nat)) = (five (b0 || decide (o.val = 0)) (b1 || decide (o.val = 1)) (b2 || decide (o.val = 2)) (b3 || decide (o.val = 3)) (b4 || decide (o.val = 4)) : Nat) := by decide +kernel
theorem not_five : ∀ (o : Fin 5) (b0 b1 b2 b3 b4 : Bool), bitAndNot .i64 (five b0 b1 b2 b3 b4 : Nat) (bit (o.val : Nat)) = (five (b0 && !decide (o.val = 0)) (b1 && !decide (o.val = 1)) (b2 && !decide (o.val = 2)) (b3 && !decide (o.val = 3)) (b4 && !decide (o.val = 4)) : Nat) := by decide +kernel
theorem or_bits {p q : Nat → Bool} {o : Nat} (ho : o < 5) (h : ∀ k, k < 5 → q k = (p k || decide (o = k))) : bitOr .i64 (sumB p 5 : Nat) (bit (o : Nat)) = (sumB q 5 : Nat) := by
  rw [sum_five, sum_five, h 0 (by omega), h 1 (by omega), h 2 (by omega), h 3 (by omega), h 4 (by omega)]
  exact or_five ⟨o, ho⟩ _ _ _ _ _
theorem not_bits {p q : Nat → Bool} {o : Nat} (ho : o < 5) (h : ∀ k, k < 5 → q k = (p k && !decide (o = k))) : bitAndNot .i64 (sumB p 5 : Nat) (bit (o : Nat)) = (sumB q 5 : Nat) := by
  rw [sum_five, sum_five, h 0 (by omega), h 1 (by omega), h 2 (by omega), h 3 (by omega), h 4 (by omega)]
  exact not_five ⟨o, ho⟩ _ _ _ _ _
theorem and_all : ∀ s, s < 32 → bitAnd .i64 31 (s : Nat) = (s : Nat) := by decide +kernel
section
variable {l : List Ev} (hok : (checkR l).2 = 0)
include hok
theorem HS_agr : ∀ i, i ≤ l.length → ∀ t, t < 6 → HS l i t = (rheld (l.take i) (t : Nat) 5 : Nat)
  | 0, _, t, ht => by
    have e : rheld (l.take 0) (t : Int) 5 = sumB (fun _ => false) 5 := sumB_congr 5 fun k _ => by
      show decide ((-1 : Int) = (t : Int)) = false
      simp
    rw [e]; rfl
  | i + 1, hi, t, ht => by
    have ih := HS_agr i (by omega)
    have hev := ok_isEv hok i (by omega)
    have hw := ok_all hok i (by omega)
    have htk := take_getD dEv.dft (show i < l.length by omega)
    generalize hE : l.getD i dEv.dft = e at hev hw htk
    obtain ⟨b1, b2, b3, b4⟩ := (isEv_iff e).1 hev
    simp only [HS, hE]
    rw [htk]
    have et : ((e.thr.toNat : Nat) : Int) = e.thr := by omega
    have eo : ((e.obj.toNat : Nat) : Int) = e.obj := by omega
    unfold wrongR at hw
    rw [if_neg (by simp [hev])] at hw
    split at hw
    · cases hw
    rename_i hbd
    unfold takesH
    by_cases k3 : e.kind = 3
    · rw [if_pos k3] at hw ⊢
      have hob : ¬ 0 ≤ Tr.ownR (l.take i) e.obj := fun q => by rw [if_pos q] at hw; cases hw
      have b5 : e.obj < 5 := by simpa [many, k3] using b4
      by_cases ht2 : t = e.thr.toNat
      · rw [if_pos ht2, ih _ (by omega), ht2, et]
        have := or_bits (p := fun k : Nat => decide (Tr.ownR (l.take i) k = e.thr)) (q := fun k : Nat => decide (Tr.ownR (l.take i ++ [e]) k = e.thr)) (o := e.obj.toNat) (by omega) (fun k hk => by
          rw [ownR_snoc]
          simp only [ownS, k3]
          by_cases q : e.obj.toNat = k
          · have : e.obj = (k : Int) := by omega
            simp [this, q]
          · have : ¬ e.obj = (k : Int) := by omega
            simp [this, q])
        rw [eo] at this
        exact this
      · rw [if_neg ht2, ih t ht]
        simp only [rheld]
        congr 1
        refine sumB_congr 5 fun k hk => ?_
        rw [ownR_snoc]
        simp only [ownS, k3]
        by_cases q : e.obj = (k : Int)
        · simp only [q, and_self, if_true]
          rw [q] at hob
          simp
          omega
        · simp [q]
    by_cases k4 : e.kind = 4
    · rw [if_neg k3, if_pos k4] at hw
      rw [if_neg k3, if_pos k4]
      have hob : Tr.ownR (l.take i) e.obj = e.thr := by
        by_cases q : Tr.ownR (l.take i) e.obj = e.thr
        · exact q
        · rw [if_pos q] at hw; cases hw
      have b5 : e.obj < 5 := by simpa [many, k4] using b4
      by_cases ht2 : t = e.thr.toNat
      · rw [if_pos ht2, ih _ (by omega), ht2, et]
        have := not_bits (p := fun k : Nat => decide (Tr.ownR (l.take i) k = e.thr)) (q := fun k : Nat => decide (Tr.ownR (l.take i ++ [e]) k = e.thr)) (o := e.obj.toNat) (by omega) (fun k hk => by
          rw [ownR_snoc]
          simp only [ownS, k4]
          by_cases q : e.obj.toNat = k
          · have : e.obj = (k : Int) := by omega
            simp [this, q]
            omega
          · have : ¬ e.obj = (k : Int) := by omega
            simp [this, q])
        rw [eo] at this
        exact this
      · rw [if_neg ht2, ih t ht]
        simp only [rheld]
        congr 1
        refine sumB_congr 5 fun k hk => ?_
        rw [ownR_snoc]
        simp only [ownS, k4]
        by_cases q : e.obj = (k : Int)
        · simp only [q, and_self, if_true]
          rw [q] at hob
          rw [hob]
          simp
          omega
        · simp [q]
    · rw [if_neg k3, if_neg k4]
      rw [ih t ht]
      simp only [rheld]
      congr 1
      refine sumB_congr 5 fun k hk => ?_
      rw [ownR_snoc]
      simp [ownS, k3, k4]
theorem acc_iff (i : Nat) (hi : i < l.length) : isAcc (l.getD i dEv.dft) = true ↔ ¬ 2 < (l.getD i dEv.dft).kind := by
  obtain ⟨b1, b2, b3, b4⟩ := (isEv_iff _).1 (ok_isEv hok i hi)
  simp only [isAcc, Bool.or_eq_true, decide_eq_true_eq]
  constructor
  · rintro (h | h) <;> omega
  · intro h
    unfold many at b4
    split at b4 <;> first | omega | (split at b4 <;> first | omega | (split at b4 <;> first | omega | (split at b4 <;> omega)))
theorem held_at (i : Nat) (hi : i < l.length) (ha : isAcc (l.getD i dEv.dft) = true) : HS l (i + 1) (l.getD i dEv.dft).thr.toNat = (rheld (l.take i) (l.getD i dEv.dft).thr 5 : Nat) := by
  obtain ⟨b1, b2, b3, b4⟩ := (isEv_iff _).1 (ok_isEv hok i hi)
  have h1 := HS_agr hok i (by omega) (l.getD i dEv.dft).thr.toNat (by omega)
  have et : (((l.getD i dEv.dft).thr.toNat : Nat) : Int) = (l.getD i dEv.dft).thr := by omega
  rw [et] at h1
  simp only [isAcc, Bool.or_eq_true, decide_eq_true_eq] at ha
  simp only [HS, takesH]
  rw [if_neg (by omega), if_neg (by omega)]
  exact h1
structure Ag (s : Gs × List Fl) (r : RG) : Prop where
  st : s.1.st = r.g.st
  th : s.1.th = r.g.th
  lk : s.1.lk = r.g.lk
  w : s.2 = r.w
  rng : ∀ x, 0 ≤ r.g.st x ∧ r.g.st x ≤ 3
  all : ∀ x, x < 8 → r.g.st x ≤ 1 → r.g.lk x = 31
omit hok in
theorem ag_step {s : Gs × List Fl} {r : RG} (h : Ag s r) (i : Nat) (e : Ev) (k : Nat) (hk : k < 32) (ha : e.kind = 1 ∨ e.kind = 2) (hx : e.obj.toNat < 8) : Ag (stepR s i e k) (refG r i e k) := by
  obtain ⟨⟨st, th, lk⟩, w⟩ := s
  obtain ⟨⟨st', th', lk'⟩, w', c⟩ := r
  obtain ⟨e1, e2, e3, e4, h5, h6⟩ := h
  simp only at e1 e2 e3 e4 h5 h6
  subst e1; subst e2; subst e3; subst e4
  generalize hxx : e.obj.toNat = x at hx
  have hr := h5 x
  have hl := h6 x hx
  have hu : ∀ (f : Nat → Int), (fun k => if k = x then f x else f k) = f := by
    intro f; funext j; split
    · rename_i q; rw [q]
    · rfl
  by_cases c0 : st x = 0
  · have hA : accF ⟨st x, th x, lk x⟩ e k = ⟨1, e.thr, 31⟩ := by rw [accF, if_pos c0]; simp only [hl (by omega)]
    simp only [stepR, refG, hxx]
    rw [hA, if_pos c0]
    refine ⟨rfl, rfl, rfl, ?_, fun y => ?_, fun y hy hs => ?_⟩
    · simp
    · simp only [updG]; split
      · omega
      · exact h5 y
    · simp only [updG] at hs ⊢; split
      · rfl
      · rename_i q; rw [if_neg q] at hs; exact h6 y hy hs
  by_cases c1 : st x = 1 ∧ th x = e.thr
  · have hA : accF ⟨st x, th x, lk x⟩ e k = ⟨st x, th x, lk x⟩ := by rw [accF, if_neg c0, if_pos c1]
    simp only [stepR, refG, hxx]
    rw [hA, if_neg c0, if_pos c1]
    refine ⟨hu st, hu th, hu lk, ?_, h5, h6⟩
    simp [c1.1]
  have fin : ∀ (a b : Int), 2 ≤ a → a ≤ 3 → accF ⟨st x, th x, lk x⟩ e k = ⟨a, th x, b⟩ → (if e.kind = 2 ∨ st x = 3 then (3 : Int) else 2) = a → bitAnd .i64 (lk x) k = b → Ag (stepR (⟨st, th, lk⟩, w) i e k) (refG ⟨⟨st, th, lk⟩, w, c⟩ i e k) := by
    intro a b h2 h3 hA hS hB
    simp only [stepR, refG, hxx]
    rw [hA, if_neg c0, if_neg c1, hS, hB]
    refine ⟨rfl, rfl, rfl, rfl, fun y => ?_, fun y hy hs => ?_⟩
    · simp only [updG]; split
      · omega
      · exact h5 y
    · simp only [updG] at hs ⊢
      split at hs
      · omega
      · rename_i q; rw [if_neg q]; exact h6 y hy hs
  by_cases c2 : st x = 1
  · have h31 : bitAnd .i64 (lk x) k = k := by rw [hl (by omega)]; exact and_all k hk
    rcases ha with ha | ha
    · exact fin 2 k (by omega) (by omega) (by rw [accF, if_neg c0, if_neg c1, if_neg (fun q => by have q2 : e.kind = 2 := q.2; omega), if_pos c2]) (if_neg (by omega)) h31
    · exact fin 3 k (by omega) (by omega) (by rw [accF, if_neg c0, if_neg c1, if_pos ⟨c2, ha⟩]) (if_pos (.inl ha)) h31
  · by_cases a2 : e.kind = 2
    · exact fin 3 _ (by omega) (by omega) (by rw [accF, if_neg c0, if_neg c1, if_neg (fun q => c2 q.1), if_neg c2, if_pos a2]) (if_pos (.inl a2)) rfl
    · refine fin (st x) _ (by omega) (by omega) (by rw [accF, if_neg c0, if_neg c1, if_neg (fun q => c2 q.1), if_neg c2, if_neg a2]) ?_ rfl
      by_cases a3 : st x = 3
      · rw [if_pos (.inr a3), a3]
      · rw [if_neg (by omega)]; omega
omit hok in
theorem rheld_lt (p : List Ev) (t : Int) : rheld p t 5 < 32 := sumB_lt _ 5
theorem RS_agr : ∀ i, i ≤ l.length → Ag (RS l i) (RR l i)
  | 0, _ => ⟨rfl, rfl, rfl, rfl, fun _ => ⟨by show (0 : Int) ≤ 0; omega, by show (0 : Int) ≤ 3; omega⟩, fun x hx _ => by show (if x < 8 then (31 : Int) else 0) = 31; rw [if_pos hx]⟩
  | i + 1, hi => by
    have ih := RS_agr i (by omega)
    obtain ⟨b1, b2, b3, b4⟩ := (isEv_iff _).1 (ok_isEv hok i (by omega))
    by_cases ha : isAcc (l.getD i dEv.dft) = true
    · have hk := (acc_iff hok i (by omega)).1 ha
      simp only [RS, RR]
      rw [if_pos ha, if_neg hk, held_at hok i (by omega) ha]
      have ha' := ha
      simp only [isAcc, Bool.or_eq_true, decide_eq_true_eq] at ha'
      refine ag_step ih i _ _ (rheld_lt _ _) ha' ?_
      have b5 : (l.getD i dEv.dft).obj < 8 := by rcases ha' with h | h <;> (rw [h] at b4; exact b4)
      omega
    · have hk : 2 < (l.getD i dEv.dft).kind := by
        have := mt (acc_iff hok i (by omega)).2 ha
        omega
      simp only [RS, RR]
      rw [if_neg ha, if_pos hk]
      exact ih
theorem CS_agr (x : Nat) (hx : x < 8) : ∀ i, i ≤ l.length → CS l x i = (RR l i).c x
  | 0, _ => by show (31 : Int) = if x < 8 then 31 else 0; rw [if_pos hx]
  | i + 1, hi => by
    have ih := CS_agr x hx i (by omega)
    obtain ⟨b1, b2, b3, b4⟩ := (isEv_iff _).1 (ok_isEv hok i (by omega))
    by_cases ha : isAcc (l.getD i dEv.dft) = true
    · have hk := (acc_iff hok i (by omega)).1 ha
      simp only [CS, RR]
      rw [if_pos ha, if_neg hk, held_at hok i (by omega) ha, ih]
      have hc : ∀ (s : RG) (e : Ev) (k : Int), (refG s i e k).c = fun j => if j = e.obj.toNat then bitAnd .i64 (s.c e.obj.toNat) k else s.c j := by
        intro s e k
        simp only [refG]
        split
        · rfl
        · split <;> rfl
      rw [hc]
      simp only [stepC]
      by_cases q : (l.getD i dEv.dft).obj = (x : Int)
      · rw [if_pos q, if_pos (by omega), q, Int.toNat_natCast]
      · rw [if_neg q, if_neg (by omega)]
    · have hk : 2 < (l.getD i dEv.dft).kind := by
        have := mt (acc_iff hok i (by omega)).2 ha
        omega
      simp only [CS, RR]
      rw [if_neg ha, if_pos hk]
      exact ih
theorem gs_agr : (RS l l.length).1 = (RR l l.length).g := by
  have h := RS_agr hok l.length (Nat.le_refl _)
  have e1 : (RS l l.length).1 = ⟨(RS l l.length).1.st, (RS l l.length).1.th, (RS l l.length).1.lk⟩ := rfl
  rw [e1, h.st, h.th, h.lk]
theorem ws_agr : (RS l l.length).2 = (RR l l.length).w := (RS_agr hok l.length (Nat.le_refl _)).w
end
end Go.Proofs.Ytafcmgfmmlnngaa.Gu
