import Derived.Test.YtafcmgfmmlnngaaSx5
import Derived.DeepKeys
import Derived.Laws.Cover3
/-! Sx, part 5e: values are compared cell by cell. -/
set_option linter.unusedSimpArgs false
set_option linter.unusedVariables false
namespace Go.Sx
open Go
variable {P : Program}
theorem esP_agg : ∀ {e : ES} {x : SV}, esP e x → x.isAgg = aggE e := by
  intro e x h
  cases e <;> cases x <;> simp only [esP] at h <;> first
    | exact h.elim
    | rfl
mutual
theorem esP_wd : ∀ {e : ES} {x : SV}, esP e x → wd x = wE e
  | .int _, x, h => by cases x <;> simp only [esP] at h <;> rfl
  | .bool, x, h => by cases x <;> simp only [esP] at h <;> rfl
  | .str, x, h => by cases x <;> simp only [esP] at h <;> rfl
  | .st l, x, h => by
    cases x <;> simp only [esP] at h
    simp only [wd, wE]
    exact esPL_wd h
  | .arr n w e, x, h => by
    cases x <;> simp only [esP] at h
    obtain ⟨rfl, rfl, _⟩ := h
    rfl
theorem esPL_wd : ∀ {l : List ES} {xs : List SV}, esPL l xs → wds xs = wEL l
  | [], xs, h => by
    cases xs with
    | nil => rfl
    | cons => simp only [esPL] at h
  | e :: l, xs, h => by
    cases xs with
    | nil => simp only [esPL] at h
    | cons x xs =>
      simp only [esPL] at h
      simp only [wds, wEL]
      rw [esP_wd h.1, esPL_wd h.2]
end
theorem eqItems_ok {d : Nat} {t' : TypeId} {e : ES} {w' : Nat} (ht : tsz P t' = some (w', aggE e)) {f g : Nat → SV} {n : Nat} {cs cs' : List Value} (h1 : cs.length = n * w') (h2 : cs'.length = n * w') (w : World)
    (h0 : aggE e = false → w' = 1) (ih : ∀ i, i < n → (Op.equalIn d t' (boxed (aggE e) (sub cs (i * w') w')) (boxed (aggE e) (sub cs' (i * w') w'))).run P w = .ok (eqV e (f i) (g i)) w) :
    ∀ is : List Nat, (∀ i ∈ is, i < n) → (Op.eqItems d t' w' cs.toArray cs'.toArray is).run P w = .ok (is.all fun i => eqV e (f i) (g i)) w
  | [], _ => by simp [Op.eqItems]
  | i :: is, hi => by
    have hl := hi i (by simp)
    have hle := mul_le_len (w := w') hl
    have r := eqItems_ok ht h1 h2 w h0 ih is (fun j hj => hi j (by simp [hj]))
    simp only [Op.eqItems, Sem.run_bind, run_part ht w cs (i * w') (by omega) h0, run_part ht w cs' (i * w') (by omega) h0, Result.andThen_ok, ih i hl, List.all_cons]
    cases eqV e (f i) (g i)
    · simp
    · simpa using r
theorem aggE_w : ∀ {e : ES}, aggE e = false → wE e = 1 := by
  intro e h
  cases e <;> first | rfl | (simp [aggE] at h)
mutual
theorem equalIn_ok : ∀ (e : ES) {t : TypeId} {d : Nat} {x y : SV} {ε ε' : Env} {cs cs' : List Value} (w : World), esB P t e = true → dE e ≤ d → esP e x → esP e y → SatC x ε cs → SatC y ε' cs' →
    (Op.equalIn d t (boxed (aggE e) cs) (boxed (aggE e) cs')).run P w = .ok (eqV e x y) w
  | .int k, t, d, x, y, ε, ε', cs, cs', w, hb, hd, hx, hy, sx, sy => by
    obtain ⟨a, rfl⟩ : ∃ a, x = .int k a := by cases x <;> simp_all [esP]
    obtain ⟨b, rfl⟩ : ∃ b, y = .int k b := by cases y <;> simp_all [esP]
    simp only [SatC] at sx sy
    subst sx; subst sy
    simp only [esB] at hb
    split at hb <;> try (cases hb; done)
    rename_i hu
    obtain ⟨d, rfl⟩ : ∃ d', d = d' + 1 := ⟨d - 1, by simp only [dE] at hd; omega⟩
    by_cases hab : a = b <;> simp [boxed, aggE, Op.equalIn, run_underlying hu, eqV, hab]
  | .bool, t, d, x, y, ε, ε', cs, cs', w, hb, hd, hx, hy, sx, sy => by
    obtain ⟨a, rfl⟩ : ∃ a, x = .bool a := by cases x <;> simp_all [esP]
    obtain ⟨b, rfl⟩ : ∃ b, y = .bool b := by cases y <;> simp_all [esP]
    simp only [SatC] at sx sy
    subst sx; subst sy
    simp only [esB] at hb
    split at hb <;> try (cases hb; done)
    rename_i hu
    obtain ⟨d, rfl⟩ : ∃ d', d = d' + 1 := ⟨d - 1, by simp only [dE] at hd; omega⟩
    simp [boxed, aggE, Op.equalIn, run_underlying hu, eqV]
  | .str, t, d, x, y, ε, ε', cs, cs', w, hb, hd, hx, hy, sx, sy => by
    obtain ⟨a, rfl⟩ : ∃ a, x = .str a := by cases x <;> simp_all [esP]
    obtain ⟨b, rfl⟩ : ∃ b, y = .str b := by cases y <;> simp_all [esP]
    simp only [SatC] at sx sy
    subst sx; subst sy
    simp only [esB] at hb
    split at hb <;> try (cases hb; done)
    rename_i hu
    obtain ⟨d, rfl⟩ : ∃ d', d = d' + 1 := ⟨d - 1, by simp only [dE] at hd; omega⟩
    have hq : ((⟨a.toArray⟩ : ByteArray) == ⟨b.toArray⟩) = decide (a = b) := by
      have k : ∀ x y : ByteArray, (x == y) = (x.data == y.data) := fun x y => by cases x; cases y; rfl
      rw [k]
      by_cases hab : a = b
      · subst hab; simp
      · simp [hab]
    simp [boxed, aggE, Op.equalIn, run_underlying hu, eqV, hq]
  | .st l, t, d, x, y, ε, ε', cs, cs', w, hb, hd, hx, hy, sx, sy => by
    cases x <;> simp only [esP] at hx
    cases y <;> simp only [esP] at hy
    simp only [SatC] at sx sy
    simp only [esB] at hb
    split at hb <;> try (cases hb; done)
    rename_i fs hu
    simp only [Bool.and_eq_true, Bool.not_eq_true'] at hb
    simp only [dE] at hd
    obtain ⟨d, rfl⟩ : ∃ d', d = d' + 1 := ⟨d - 1, by omega⟩
    have hfs : P.fieldsOf t = fs := by simp [Program.fieldsOf, hu]
    simp only [boxed, aggE, if_true, eqV]
    rw [run_equalIn_struct w d t cs.toArray cs'.toArray (by rw [hfs]; exact hu) hb.2, hfs]
    have := eqFields_ok l w (d := d) (fs := fs.toList) (off := 0) (pre := []) (pre' := []) hb.1 (by omega) hx hy sx sy rfl rfl
    simpa using this
  | .arr n w' e, t, d, x, y, ε, ε', cs, cs', w, hb, hd, hx, hy, sx, sy => by
    cases x <;> simp only [esP] at hx
    cases y <;> simp only [esP] at hy
    obtain ⟨rfl, rfl, hx⟩ := hx
    obtain ⟨rfl, rfl, hy⟩ := hy
    simp only [SatC] at sx sy
    simp only [esB] at hb
    split at hb <;> try (cases hb; done)
    rename_i n' t' hu
    simp only [Bool.and_eq_true, decide_eq_true_eq] at hb
    obtain ⟨⟨⟨⟨rfl, h2⟩, h3⟩, h4⟩, h5⟩ := hb
    simp only [dE] at hd
    obtain ⟨d, rfl⟩ : ∃ d', d = d' + 1 := ⟨d - 1, by omega⟩
    simp only [boxed, aggE, if_true, eqV]
    have hi : ∃ i, P.info? t' = some i := by
      unfold tsz at h3
      split at h3 <;> first | exact ⟨_, by assumption⟩ | cases h3
    obtain ⟨i, hi⟩ := hi
    rw [run_equalIn_array w d cs.toArray cs'.toArray hu hi, h2]
    exact eqItems_ok h3 sx.1 sy.1 w (fun h => by rw [← h4]; exact aggE_w h) (fun j hj => equalIn_ok e w h5 (by omega) (hx j hj) (hy j hj) (sx.2 j hj) (sy.2 j hj)) _ (fun j hj => by simpa using hj)
theorem eqFields_ok : ∀ (l : List ES) {xs ys : List SV} {ε ε' : Env} {cs cs' pre pre' : List Value} (w : World) {d : Nat} {fs : List Field} {off : Nat}, esBL P fs off l = true → dEL l ≤ d → esPL l xs → esPL l ys → SatL xs ε cs → SatL ys ε' cs' → pre.length = off → pre'.length = off →
    (Op.eqFields d (pre ++ cs).toArray (pre' ++ cs').toArray fs).run P w = .ok (eqVL l xs ys) w
  | [], xs, ys, ε, ε', cs, cs', pre, pre', w, d, fs, off, hb, hd, hx, hy, sx, sy, hp, hp' => by
    cases fs with
    | nil => simp [Op.eqFields, eqVL]
    | cons => simp [esBL] at hb
  | e :: l, xs, ys, ε, ε', cs, cs', pre, pre', w, d, fs, off, hb, hd, hx, hy, sx, sy, hp, hp' => by
    cases fs with
    | nil => simp [esBL] at hb
    | cons f fs =>
      cases xs with
      | nil => simp only [esPL] at hx
      | cons x xs =>
        cases ys with
        | nil => simp only [esPL] at hy
        | cons y ys =>
          simp only [esPL] at hx hy
          simp only [SatL] at sx sy
          obtain ⟨a, b, rfl, s1, s2⟩ := sx
          obtain ⟨a', b', rfl, s1', s2'⟩ := sy
          simp only [esBL, Bool.and_eq_true, decide_eq_true_eq] at hb
          obtain ⟨⟨⟨⟨b1, b2⟩, b3⟩, b4⟩, b5⟩ := hb
          simp only [dEL] at hd
          have l1 : a.length = wE e := by rw [SatC.length _ s1, esP_wd hx.1]
          have l1' : a'.length = wE e := by rw [SatC.length _ s1', esP_wd hy.1]
          have q : sub (pre ++ (a ++ b)) off (wE e) = a := by
            simp only [sub]
            rw [List.drop_append_of_le_length (by omega), List.drop_of_length_le (by omega), List.nil_append, List.take_append_of_le_length (by omega), List.take_of_length_le (by omega)]
          have q' : sub (pre' ++ (a' ++ b')) off (wE e) = a' := by
            simp only [sub]
            rw [List.drop_append_of_le_length (by omega), List.drop_of_length_le (by omega), List.nil_append, List.take_append_of_le_length (by omega), List.take_of_length_le (by omega)]
          have r := eqFields_ok l (pre := pre ++ a) (pre' := pre' ++ a') w (d := d) (fs := fs) b5 (by omega) hx.2 hy.2 s2 s2' (by simp; omega) (by simp; omega)
          have k := equalIn_ok e w b4 (d := d) (by omega) hx.1 hy.1 s1 s1'
          have p1 := run_part b3 w (pre ++ (a ++ b)) off (by simp; omega) (fun h => aggE_w h)
          have p2 := run_part b3 w (pre' ++ (a' ++ b')) off (by simp; omega) (fun h => aggE_w h)
          rw [q] at p1
          rw [q'] at p2
          rw [List.append_assoc] at r
          rw [List.append_assoc] at r
          simp only [Op.eqFields, b1, ne_eq, not_false_eq_true, if_true, Sem.run_bind, b2, p1, p2, Result.andThen_ok, k, eqVL]
          cases eqV e x y
          · simp
          · simpa using r
end
theorem slLen_nil {x : SV} {n : Nat} (h : slLen x = some n) {ε : Env} {v : Value} (hs : SatV ε x v) : ∃ ao cap, v = .slice ao n cap ∧ (ao = none → n = 0) ∧ (x = .nils → ao = none) := by
  cases x <;> simp only [slLen, Option.some.injEq] at h <;> try (cases h; done)
  · subst h
    obtain ⟨cs, h1, h2⟩ := hs
    simp only [SatC] at h1
    obtain ⟨ao, cap, rfl, k1, _, k3, _⟩ := h1
    refine ⟨ao, cap, by rw [h2]; rfl, fun e => by have := k3 e; omega, fun e => by cases e⟩
  · subst h
    obtain ⟨cs, h1, h2⟩ := hs
    simp only [SatC] at h1
    obtain ⟨ao, rfl, _, k3, _⟩ := h1
    exact ⟨ao, _, by rw [h2]; rfl, k3, fun e => by cases e⟩
  · subst h
    obtain ⟨h1, h2, h3⟩ := sat_vec hs
    rcases h2 with ⟨e, rfl⟩ | ⟨b, cap, e, _⟩
    · exact ⟨none, 0, by rw [h3, e], fun _ => rfl, fun e => by cases e⟩
    · exact ⟨some _, cap, by rw [h3, e], fun e => by (cases e), fun e => by cases e⟩
  · subst h
    have := sat_nils hs
    exact ⟨none, 0, this, fun _ => rfl, fun _ => rfl⟩
end Go.Sx
