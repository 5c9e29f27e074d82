import Derived.Test.YtafcmgfmmlnngaaSx11
import Derived.Laws.AppendOwnNone
import Derived.Laws.BytesString
import Derived.Laws.IdiomStrings
/-! Sx, part 11m: maps. -/
set_option linter.unusedSimpArgs false
set_option linter.unusedVariables false
namespace Go.Sx
open Go

variable {P : Program}

/-! ### Keys -/
mutual
theorem eqV_cells : ∀ (e : ES) {x y : SV} {ε ε' : Env} {cs cs' : List Value}, esP e x → esP e y → SatC x ε cs → SatC y ε' cs' → eqV e x y = true → cs = cs'
  | .int k, x, y, ε, ε', cs, cs', hx, hy, sx, sy, h => by
    obtain ⟨a, rfl⟩ : ∃ a, x = .int k a := by cases x <;> simp_all [esP]
    obtain ⟨b, rfl⟩ : ∃ b, y = .int k b := by cases y <;> simp_all [esP]
    simp only [SatC] at sx sy
    simp only [eqV, decide_eq_true_eq] at h
    subst sx; subst sy; subst h; rfl
  | .bool, x, y, ε, ε', cs, cs', hx, hy, sx, sy, h => by
    obtain ⟨a, rfl⟩ : ∃ a, x = .bool a := by cases x <;> simp_all [esP]
    obtain ⟨b, rfl⟩ : ∃ b, y = .bool b := by cases y <;> simp_all [esP]
    simp only [SatC] at sx sy
    simp only [eqV, beq_iff_eq] at h
    subst sx; subst sy; subst h; rfl
  | .str, x, y, ε, ε', cs, cs', hx, hy, sx, sy, h => by
    obtain ⟨a, rfl⟩ : ∃ a, x = .str a := by cases x <;> simp_all [esP]
    obtain ⟨b, rfl⟩ : ∃ b, y = .str b := by cases y <;> simp_all [esP]
    simp only [SatC] at sx sy
    simp only [eqV, decide_eq_true_eq] at h
    subst sx; subst sy; subst h; rfl
  | .st l, x, y, ε, ε', cs, cs', hx, hy, sx, sy, h => by
    cases x <;> simp only [esP] at hx
    cases y <;> simp only [esP] at hy
    simp only [SatC] at sx sy
    simp only [eqV] at h
    exact eqVL_cells l hx hy sx sy h
  | .arr n w e, x, y, ε, ε', cs, cs', hx, hy, sx, sy, h => by
    cases x <;> simp only [esP] at hx
    cases y <;> simp only [esP] at hy
    rename_i n1 w1 f n2 w2 g
    obtain ⟨e1, e2, hx⟩ := hx
    obtain ⟨e3, e4, hy⟩ := hy
    subst e1; subst e2; subst e3; subst e4
    simp only [SatC] at sx sy
    simp only [eqV, List.all_eq_true, List.mem_range] at h
    have hp : ∀ i, i < n2 → sub cs (i * w2) w2 = sub cs' (i * w2) w2 := fun i hi => eqV_cells e (hx i hi) (hy i hi) (sx.2 i hi) (sy.2 i hi) (h i hi)
    rcases Nat.eq_zero_or_pos w2 with rfl | hw
    · have c1 : cs = [] := List.eq_nil_of_length_eq_zero (by simpa using sx.1)
      have c2 : cs' = [] := List.eq_nil_of_length_eq_zero (by simpa using sy.1)
      rw [c1, c2]
    · apply List.ext_getElem?
      intro k
      rcases Nat.lt_or_ge k (n2 * w2) with hk | hk
      · have hd : k / w2 < n2 := Nat.div_lt_of_lt_mul (by rw [Nat.mul_comm]; exact hk)
        have hm : k % w2 < w2 := Nat.mod_lt _ hw
        have := congrArg (fun l => l[k % w2]?) (hp (k / w2) hd)
        simp only [sub_get, if_pos hm] at this
        rwa [Nat.mul_comm, Nat.div_add_mod] at this
      · rw [List.getElem?_eq_none (by rw [sx.1]; exact hk), List.getElem?_eq_none (by rw [sy.1]; exact hk)]
theorem eqVL_cells : ∀ (l : List ES) {xs ys : List SV} {ε ε' : Env} {cs cs' : List Value}, esPL l xs → esPL l ys → SatL xs ε cs → SatL ys ε' cs' → eqVL l xs ys = true → cs = cs'
  | [], xs, ys, ε, ε', cs, cs', hx, hy, sx, sy, h => by
    cases xs <;> simp only [esPL] at hx
    cases ys <;> simp only [esPL] at hy
    simp only [SatL] at sx sy
    rw [sx, sy]
  | e :: l, xs, ys, ε, ε', cs, cs', hx, hy, sx, sy, h => by
    cases xs with
    | nil => simp only [esPL] at hx
    | cons x xs =>
      cases ys with
      | nil => simp only [esPL] at hy
      | cons y ys =>
        simp only [esPL] at hx hy
        simp only [SatL] at sx sy
        obtain ⟨a, b, rfl, s1, s2⟩ := sx
        obtain ⟨a', b', rfl, s1', s2'⟩ := sy
        simp only [eqVL, Bool.and_eq_true] at h
        rw [eqV_cells e hx.1 hy.1 s1 s1' h.1, eqVL_cells l hx.2 hy.2 s2 s2' h.2]
end

/-- A scalar of a key. -/
def plainV : Value → Prop
  | .bool _ | .int _ _ | .string _ => True
  | _ => False
mutual
theorem es_plain : ∀ (e : ES) {x : SV} {ε : Env} {cs : List Value}, esP e x → SatC x ε cs → ∀ v ∈ cs, plainV v
  | .int k, x, ε, cs, hx, sx, v, hv => by
    obtain ⟨a, rfl⟩ : ∃ a, x = .int k a := by cases x <;> simp_all [esP]
    simp only [SatC] at sx; subst sx
    rw [List.mem_singleton.1 hv]; trivial
  | .bool, x, ε, cs, hx, sx, v, hv => by
    obtain ⟨a, rfl⟩ : ∃ a, x = .bool a := by cases x <;> simp_all [esP]
    simp only [SatC] at sx; subst sx
    rw [List.mem_singleton.1 hv]; trivial
  | .str, x, ε, cs, hx, sx, v, hv => by
    obtain ⟨a, rfl⟩ : ∃ a, x = .str a := by cases x <;> simp_all [esP]
    simp only [SatC] at sx; subst sx
    rw [List.mem_singleton.1 hv]; trivial
  | .st l, x, ε, cs, hx, sx, v, hv => by
    cases x <;> simp only [esP] at hx
    simp only [SatC] at sx
    exact esL_plain l hx sx v hv
  | .arr n w e, x, ε, cs, hx, sx, v, hv => by
    cases x <;> simp only [esP] at hx
    obtain ⟨rfl, rfl, hx⟩ := hx
    simp only [SatC] at sx
    obtain ⟨i, hi, hm⟩ := mem_pieces sx.1 hv
    exact es_plain e (hx i hi) (sx.2 i hi) v hm
theorem esL_plain : ∀ (l : List ES) {xs : List SV} {ε : Env} {cs : List Value}, esPL l xs → SatL xs ε cs → ∀ v ∈ cs, plainV v
  | [], xs, ε, cs, hx, sx, v, hv => by
    cases xs <;> simp only [esPL] at hx
    simp only [SatL] at sx; subst sx; cases hv
  | e :: l, xs, ε, cs, hx, sx, v, hv => by
    cases xs with
    | nil => simp only [esPL] at hx
    | cons x xs =>
      simp only [esPL] at hx
      simp only [SatL] at sx
      obtain ⟨a, b, rfl, s1, s2⟩ := sx
      rcases List.mem_append.1 hv with h | h
      · exact es_plain e hx.1 s1 v h
      · exact esL_plain l hx.2 s2 v h
end

theorem plain_same {v : Value} (h : plainV v) (n : Nat) : Instr.sameBits n v v = true := by
  cases v <;> simp only [plainV] at h <;> simp [Instr.sameBits, MapKept.bytes_beq]

theorem es_stays {e : ES} {x : SV} {ε : Env} {cs : List Value} (hx : esP e x) (sx : SatC x ε cs) (w : World) : (Instr.keyThatStays (boxed x.isAgg cs) (boxed x.isAgg cs)).run P w = .ok (boxed x.isAgg cs) w := by
  have hp := es_plain e hx sx
  have : Instr.sameBits 10000 (boxed x.isAgg cs) (boxed x.isAgg cs) = true := by
    cases hag : x.isAgg with
    | true =>
      show Instr.sameBits (9999 + 1) (.agg cs.toArray) (.agg cs.toArray) = true
      simp only [Instr.sameBits, beq_self_eq_true, Bool.true_and, List.all_eq_true]
      intro p hp'
      obtain ⟨i, hi, e1⟩ := List.getElem_of_mem hp'
      simp only [List.getElem_zip] at e1
      subst e1
      exact plain_same (hp _ (List.getElem_mem _)) _
    | false =>
      have h1 := SatC.length _ sx
      rw [wd_scalar hag] at h1
      match cs, h1 with
      | [v], _ => exact plain_same (hp v (by simp)) _
  simp [Instr.keyThatStays, this]

/-- A key is looked at. -/
theorem checkItems_ok {t' : TypeId} {e : ES} {w' : Nat} (ht : tsz P t' = some (w', aggE e)) {d : Nat} {cs : List Value} {n : Nat} (h1 : cs.length = n * w') (w : World) (em : Bool)
    (h0 : aggE e = false → w' = 1) (ih : ∀ i, i < n → (Instr.checkKey em d t' (boxed (aggE e) (sub cs (i * w') w'))).run P w = .ok () w) :
    ∀ is : List Nat, (∀ i ∈ is, i < n) → (forIn (m := Sem) is PUnit.unit (fun i _ => do Instr.checkKey em d t' (← part t' cs.toArray (i * (← sizeOf t'))); pure (ForInStep.yield PUnit.unit))).run P w = .ok PUnit.unit w
  | [], _ => by simp
  | i :: is, hi => by
    have hl := hi i (by simp)
    have hle := mul_le_len (w := w') hl
    have r := checkItems_ok ht h1 w em h0 ih is (fun j hj => hi j (by simp [hj]))
    simp only [List.forIn_cons, Sem.run_bind, run_sizeOf ht, Result.andThen_ok, run_part ht w cs (i * w') (by omega) h0, ih i hl, Sem.run_pure]
    exact r
mutual
theorem checkKey_ok : ∀ (e : ES) {t : TypeId} {d : Nat} {x : SV} {ε : Env} {cs : List Value} (w : World) (em : Bool), esB P t e = true → dE e ≤ d → esP e x → SatC x ε cs →
    (Instr.checkKey em d t (boxed (aggE e) cs)).run P w = .ok () w
  | .int k, t, d, x, ε, cs, w, em, hb, hd, hx, sx => by
    obtain ⟨a, rfl⟩ : ∃ a, x = .int k a := by cases x <;> simp_all [esP]
    simp only [SatC] at sx
    subst sx
    simp only [esB] at hb
    split at hb <;> try (cases hb; done)
    rename_i hu
    obtain ⟨d, rfl⟩ : ∃ d', d = d' + 1 := ⟨d - 1, by simp only [dE] at hd; omega⟩
    simp [boxed, aggE, Instr.checkKey, run_underlying hu]
  | .bool, t, d, x, ε, cs, w, em, hb, hd, hx, sx => by
    obtain ⟨a, rfl⟩ : ∃ a, x = .bool a := by cases x <;> simp_all [esP]
    simp only [SatC] at sx
    subst sx
    simp only [esB] at hb
    split at hb <;> try (cases hb; done)
    rename_i hu
    obtain ⟨d, rfl⟩ : ∃ d', d = d' + 1 := ⟨d - 1, by simp only [dE] at hd; omega⟩
    simp [boxed, aggE, Instr.checkKey, run_underlying hu]
  | .str, t, d, x, ε, cs, w, em, hb, hd, hx, sx => by
    obtain ⟨a, rfl⟩ : ∃ a, x = .str a := by cases x <;> simp_all [esP]
    simp only [SatC] at sx
    subst sx
    simp only [esB] at hb
    split at hb <;> try (cases hb; done)
    rename_i hu
    obtain ⟨d, rfl⟩ : ∃ d', d = d' + 1 := ⟨d - 1, by simp only [dE] at hd; omega⟩
    simp [boxed, aggE, Instr.checkKey, run_underlying hu]
  | .st l, t, d, x, ε, cs, w, em, hb, hd, hx, sx => by
    cases x <;> simp only [esP] at hx
    simp only [SatC] at sx
    simp only [esB] at hb
    split at hb <;> try (cases hb; done)
    rename_i fs hu
    simp only [Bool.and_eq_true, Bool.not_eq_true'] at hb
    simp only [dE] at hd
    obtain ⟨d, rfl⟩ : ∃ d', d = d' + 1 := ⟨d - 1, by omega⟩
    simp only [boxed, aggE, if_true, Instr.checkKey, Sem.run_bind, run_underlying hu, Result.andThen_ok]
    rw [← Array.forIn_toList]
    have := checkFields_ok l w em (d := d) (fs := fs.toList) (off := 0) (pre := []) hb.1 (by omega) hx sx rfl
    rw [List.nil_append] at this
    simp only [this, Result.andThen_ok, Sem.run_pure]
  | .arr n w' e, t, d, x, ε, cs, w, em, hb, hd, hx, sx => by
    cases x <;> simp only [esP] at hx
    obtain ⟨rfl, rfl, hx⟩ := hx
    simp only [SatC] at sx
    simp only [esB] at hb
    split at hb <;> try (cases hb; done)
    rename_i n' t' hu
    simp only [Bool.and_eq_true, decide_eq_true_eq] at hb
    obtain ⟨⟨⟨⟨rfl, h2⟩, h3⟩, h4⟩, h5⟩ := hb
    simp only [dE] at hd
    obtain ⟨d, rfl⟩ : ∃ d', d = d' + 1 := ⟨d - 1, by omega⟩
    simp only [boxed, aggE, if_true, Instr.checkKey, Sem.run_bind, run_underlying hu, Result.andThen_ok]
    simp only [Std.Legacy.Range.forIn_eq_forIn_range', Std.Legacy.Range.size, Nat.sub_zero, Nat.add_one_sub_one, Nat.div_one]
    have := checkItems_ok (P := P) h3 sx.1 w em (fun h => by rw [← h4]; exact aggE_w h) (fun j hj => checkKey_ok (d := d) e w em h5 (by omega) (hx j hj) (sx.2 j hj)) (List.range' 0 n') (fun j hj => by simpa [List.mem_range'] using hj)
    simp only [this, Result.andThen_ok, Sem.run_pure]
theorem checkFields_ok : ∀ (l : List ES) {xs : List SV} {ε : Env} {cs pre : List Value} (w : World) (em : Bool) {d : Nat} {fs : List Field} {off : Nat}, esBL P fs off l = true → dEL l ≤ d → esPL l xs → SatL xs ε cs → pre.length = off →
    (forIn (m := Sem) fs PUnit.unit (fun f _ => do
      if f.name ≠ "_" then do
        Instr.checkKey em d f.type (← part f.type (pre ++ cs).toArray f.offset)
        pure (ForInStep.yield PUnit.unit)
      else pure (ForInStep.yield PUnit.unit))).run P w = .ok PUnit.unit w
  | [], xs, ε, cs, pre, w, em, d, fs, off, hb, hd, hx, sx, hp => by
    cases fs with
    | nil => simp
    | cons => simp [esBL] at hb
  | e :: l, xs, ε, cs, pre, w, em, d, fs, off, hb, hd, hx, sx, hp => by
    cases fs with
    | nil => simp [esBL] at hb
    | cons f fs =>
      cases xs with
      | nil => simp only [esPL] at hx
      | cons x xs =>
        simp only [esPL] at hx
        simp only [SatL] at sx
        obtain ⟨a, b, rfl, s1, s2⟩ := sx
        simp only [esBL, Bool.and_eq_true, decide_eq_true_eq] at hb
        obtain ⟨⟨⟨⟨b1, b2⟩, b3⟩, b4⟩, b5⟩ := hb
        simp only [dEL] at hd
        have l1 : a.length = wE e := by rw [SatC.length _ s1, esP_wd hx.1]
        have q : sub (pre ++ (a ++ b)) off (wE e) = a := by
          simp only [sub]
          rw [List.drop_append_of_le_length (by omega), List.drop_of_length_le (by omega), List.nil_append, List.take_append_of_le_length (by omega), List.take_of_length_le (by omega)]
        have r := checkFields_ok l (pre := pre ++ a) w em (d := d) (fs := fs) b5 (by omega) hx.2 s2 (by simp; omega)
        have k := checkKey_ok e w em b4 (d := d) (by omega) hx.1 s1
        have p1 := run_part b3 w (pre ++ (a ++ b)) off (by simp; omega) (fun h => aggE_w h)
        rw [q] at p1
        rw [List.append_assoc] at r
        simp only [List.forIn_cons, b1, ne_eq, not_false_eq_true, if_true, Sem.run_bind, b2, p1, Result.andThen_ok, k, Sem.run_pure]
        exact r
end

/-! ### Entries -/
/-- Where a key is. -/
def mpIdx (e : ES) (k : SV) : List (SV × SV) → Option Nat
  | [] => none
  | p :: r => if eqV e k p.1 then some 0 else (mpIdx e k r).map (· + 1)
theorem mpIdx_find {e : ES} {k : SV} : ∀ (l : List (SV × SV)), mpFind e k l = (mpIdx e k l).bind fun j => (l[j]?).map (·.2)
  | [] => rfl
  | p :: r => by
    simp only [mpFind, mpIdx]
    split
    · rfl
    · rw [mpIdx_find r]
      cases mpIdx e k r <;> rfl
theorem mpIdx_put {e : ES} {k v : SV} : ∀ (l : List (SV × SV)), mpPut e k v l = match mpIdx e k l with
    | some j => l.set j (k, v)
    | none => l ++ [(k, v)]
  | [] => rfl
  | p :: r => by
    simp only [mpPut, mpIdx]
    split
    · rfl
    · rw [mpIdx_put r]
      cases mpIdx e k r <;> rfl
theorem mpIdx_ok {e : ES} {k : SV} : ∀ (l : List (SV × SV)) {j : Nat}, mpIdx e k l = some j → ∃ p, l[j]? = some p ∧ eqV e k p.1 = true
  | [], j, h => by cases h
  | p :: r, j, h => by
    simp only [mpIdx] at h
    split at h
    · rename_i hk
      cases h
      exact ⟨p, rfl, hk⟩
    · simp only [Option.map_eq_some_iff] at h
      obtain ⟨i, hi, rfl⟩ := h
      obtain ⟨q, h1, h2⟩ := mpIdx_ok r hi
      exact ⟨q, by simpa using h1, h2⟩
theorem EntsOK.len {ek ev : ES} : ∀ {l : List (SV × SV)} {es : List MapEntry}, EntsOK ek ev l es → es.length = l.length
  | [], [], _ => rfl
  | _ :: _, _ :: _, h => by simp [EntsOK.len h.2]
  | [], _ :: _, h => h.elim
  | _ :: _, [], h => h.elim
theorem EntsOK.at {ek ev : ES} : ∀ {l : List (SV × SV)} {es : List MapEntry}, EntsOK ek ev l es → ∀ {j : Nat} {p : SV × SV}, l[j]? = some p → ∃ e, es[j]? = some e ∧ EntOK ek ev p e
  | [], [], _, j, p, h => by simp at h
  | q :: l, e :: es, h, j, p, hp => by
    cases j with
    | zero =>
      simp only [List.getElem?_cons_zero, Option.some.injEq] at hp
      subst hp
      exact ⟨e, rfl, h.1⟩
    | succ j => simpa using EntsOK.at h.2 (by simpa using hp)
  | [], _ :: _, h, _, _, _ => h.elim
  | _ :: _, [], h, _, _, _ => h.elim
theorem EntsOK.push {ek ev : ES} {p : SV × SV} {e : MapEntry} (hp : EntOK ek ev p e) : ∀ {l : List (SV × SV)} {es : List MapEntry}, EntsOK ek ev l es → EntsOK ek ev (l ++ [p]) (es ++ [e])
  | [], [], _ => ⟨hp, trivial⟩
  | q :: l, e' :: es, h => ⟨h.1, EntsOK.push hp h.2⟩
  | [], _ :: _, h => h.elim
  | _ :: _, [], h => h.elim
theorem EntsOK.set {ek ev : ES} {p : SV × SV} {e : MapEntry} (hp : EntOK ek ev p e) : ∀ {l : List (SV × SV)} {es : List MapEntry} (j : Nat), EntsOK ek ev l es → EntsOK ek ev (l.set j p) (es.set j e)
  | [], [], _, _ => trivial
  | q :: l, e' :: es, 0, h => ⟨hp, h.2⟩
  | q :: l, e' :: es, j + 1, h => ⟨h.1, EntsOK.set hp j h.2⟩
  | [], _ :: _, _, h => h.elim
  | _ :: _, [], _, h => h.elim

/-- The kind of a key's type. -/
def undIs (e : ES) (d : TypeDesc) : Prop := match e with
    | .int k => d = .int k
    | .bool => d = .bool
    | .str => d = .string
    | .st _ => ∃ fs, d = .struct fs
    | .arr .. => ∃ n t', d = .array n t'

theorem esB_und {t : TypeId} {e : ES} (h : esB P t e = true) : ∃ d, P.underlying t = some d ∧ undIs e d := by
  cases e <;> simp only [esB] at h <;> split at h <;> try (cases h; done)
  · rename_i hu
    simp only [decide_eq_true_eq] at h
    exact ⟨_, hu, by subst h; rfl⟩
  · rename_i hu; exact ⟨_, hu, rfl⟩
  · rename_i hu; exact ⟨_, hu, rfl⟩
  · rename_i hu; exact ⟨_, hu, _, rfl⟩
  · rename_i hu; exact ⟨_, hu, _, _, rfl⟩

theorem same_now {e : ES} {d : TypeDesc} (hd : undIs e d) (hag : aggE e = false) {x y : SV} {ε ε' : Env} {cs cs' : List Value} (hx : esP e x) (hy : esP e y) (sx : SatC x ε cs) (sy : SatC y ε' cs') :
    Instr.sameNow d (boxed false cs) (boxed false cs') = some (eqV e x y) := by
  cases e with
  | int k =>
    obtain ⟨a, rfl⟩ : ∃ a, x = .int k a := by cases x <;> simp_all [esP]
    obtain ⟨b, rfl⟩ : ∃ b, y = .int k b := by cases y <;> simp_all [esP]
    simp only [SatC] at sx sy
    subst sx; subst sy; subst hd
    simp only [boxed, Instr.sameNow, List.headD_cons, Bool.false_eq_true, if_false, if_true, eqV]
    congr 1
  | bool =>
    obtain ⟨a, rfl⟩ : ∃ a, x = .bool a := by cases x <;> simp_all [esP]
    obtain ⟨b, rfl⟩ : ∃ b, y = .bool b := by cases y <;> simp_all [esP]
    simp only [SatC] at sx sy
    subst sx; subst sy; subst hd
    rfl
  | str =>
    obtain ⟨a, rfl⟩ : ∃ a, x = .str a := by cases x <;> simp_all [esP]
    obtain ⟨b, rfl⟩ : ∃ b, y = .str b := by cases y <;> simp_all [esP]
    simp only [SatC] at sx sy
    subst sx; subst sy; subst hd
    have hq : ((⟨a.toArray⟩ : ByteArray) == ⟨b.toArray⟩) = decide (a = b) := by
      have k : ∀ x y : ByteArray, (x == y) = (x.data == y.data) := fun x y => by cases x; cases y; rfl
      rw [k]
      by_cases hab : a = b
      · subst hab; simp
      · simp [hab]
    simp only [boxed, Instr.sameNow, List.headD_cons, Bool.false_eq_true, if_false, eqV, hq]
  | st l => simp [aggE] at hag
  | arr n w e => simp [aggE] at hag

theorem findNow_ok {e : ES} {d : TypeDesc} (hd : undIs e d) (hag : aggE e = false) {ev : ES} {x : SV} {ε : Env} {cs : List Value} (hx : esP e x) (sx : SatC x ε cs) :
    ∀ {l : List (SV × SV)} {es : List MapEntry} (i : Nat), EntsOK e ev l es → Instr.findNow d (boxed false cs) es i = some ((mpIdx e x l).bind fun j => (es[j]?).map fun m => (i + j, m.val))
  | [], [], i, _ => rfl
  | p :: l, m :: es, i, h => by
    obtain ⟨h1, h2⟩ := h
    obtain ⟨cs', s1, s2⟩ := h1.kc
    have hpa : p.1.isAgg = false := by rw [esP_agg h1.k]; exact hag
    rw [hpa] at s2
    have hn := same_now hd hag hx h1.k sx s1
    rw [← s2] at hn
    simp only [Instr.findNow, hn, mpIdx]
    cases eqV e x p.1
    · simp only [Bool.false_eq_true, if_false]
      rw [findNow_ok hd hag hx sx (i + 1) h2]
      cases mpIdx e x l with
      | none => rfl
      | some j => simp [Nat.add_assoc, Nat.add_comm 1 j]
    · simp
  | [], _ :: _, _, h => h.elim
  | _ :: _, [], _, h => h.elim
theorem findAsking_ok {t : TypeId} {e : ES} (hb : esB P t e = true) (hd : dE e ≤ 10000) {ev : ES} {x : SV} {ε : Env} {cs : List Value} (hx : esP e x) (sx : SatC x ε cs) (w : World) :
    ∀ {l : List (SV × SV)} {es : List MapEntry} (i : Nat), EntsOK e ev l es → (Instr.findAsking t (boxed (aggE e) cs) es i).run P w = .ok ((mpIdx e x l).bind fun j => (es[j]?).map fun m => (i + j, m.val)) w
  | [], [], i, _ => by simp [Instr.findAsking, mpIdx]
  | p :: l, m :: es, i, h => by
    obtain ⟨h1, h2⟩ := h
    obtain ⟨cs', s1, s2⟩ := h1.kc
    rw [esP_agg h1.k] at s2
    have hq : (Op.equal t (boxed (aggE e) cs) m.key).run P w = .ok (eqV e x p.1) w := by
      rw [s2]
      exact equalIn_ok e w hb hd hx h1.k sx s1
    simp only [Instr.findAsking, Sem.run_bind, hq, Result.andThen_ok, mpIdx]
    cases eqV e x p.1
    · simp only [Bool.false_eq_true, if_false]
      rw [findAsking_ok hb hd hx sx w (i + 1) h2]
      cases mpIdx e x l with
      | none => rfl
      | some j => simp [Nat.add_assoc, Nat.add_comm 1 j]
    · simp
  | [], _ :: _, _, h => h.elim
  | _ :: _, [], _, h => h.elim
theorem findKey_ok {t : TypeId} {e : ES} (hb : esB P t e = true) (hd : dE e ≤ 10000) {ev : ES} {x : SV} {ε : Env} {cs : List Value} (hx : esP e x) (sx : SatC x ε cs) (w : World) {l : List (SV × SV)} {es : List MapEntry} (h : EntsOK e ev l es) :
    (Instr.findKey t (boxed (aggE e) cs) es).run P w = .ok ((mpIdx e x l).bind fun j => (es[j]?).map fun m => (j, m.val)) w := by
  obtain ⟨d, hu, hdd⟩ := esB_und hb
  cases hag : aggE e with
  | false =>
    have := findNow_ok hdd hag hx sx 0 h
    simp only [Instr.findKey, Sem.run_bind, run_underlying hu, Result.andThen_ok, this, Sem.run_pure, Nat.zero_add]
  | true =>
    have hask := findAsking_ok hb hd hx sx w 0 h
    rw [hag] at hask
    simp only [Nat.zero_add] at hask
    cases es with
    | nil =>
      cases l with
      | nil => simp [Instr.findKey, run_underlying hu, Instr.findNow, mpIdx]
      | cons => exact h.elim
    | cons m es =>
      have hs : Instr.sameNow d (boxed true cs) m.key = none := by
        cases e <;> simp [aggE] at hag
        · obtain ⟨fs, rfl⟩ := hdd; rfl
        · obtain ⟨n, t', rfl⟩ := hdd; rfl
      simp only [Instr.findKey, Sem.run_bind, run_underlying hu, Result.andThen_ok, Instr.findNow, hs]
      exact hask

/-! ### What maps there are -/
def zOK : ES → SV → Bool
  | .bool, .bool b => !b
  | .int k, .int k' n => decide (k' = k) && decide (n = 0)
  | .str, .str _ => true
  | .st [], .agg [] => true
  | .st [.str, .str], .agg [.str _, .str _] => true
  | _, _ => false
theorem zOK_ok {ev : ES} {z : SV} (h : zOK ev z = true) : esP ev z ∧ mpRes ev z none = z := by
  unfold zOK at h
  split at h <;> try (cases h; done)
  · simp only [Bool.not_eq_true'] at h; subst h; exact ⟨trivial, rfl⟩
  · simp only [Bool.and_eq_true, decide_eq_true_eq] at h
    obtain ⟨rfl, rfl⟩ := h
    exact ⟨rfl, rfl⟩
  · exact ⟨trivial, rfl⟩
  · exact ⟨trivial, rfl⟩
  · exact ⟨⟨trivial, trivial, trivial⟩, rfl⟩
theorem mpRes_some {ev : ES} {z v : SV} (h : esP ev v) : mpRes ev z (some v) = v := by
  cases ev <;> try rfl
  · cases v <;> simp only [esP] at h
    subst h; rfl
  · cases v <;> simp only [esP] at h
    rfl
def isAggV : Value → Bool
  | .agg _ => true
  | _ => false
theorem boxed_cells (v : Value) : v = boxed (isAggV v) v.cells.toList := by
  cases v <;> simp [boxed, isAggV, Value.cells]
def zbx (P : Program) (t : TypeId) (z : SV) : Bool := match P.info? t with
  | some i => match i.zero with
    | some v => isAggV v == z.isAgg
    | none => false
  | none => false
theorem zero_boxed {t : TypeId} {z : SV} (h : zok P t = some z) (hb : zbx P t z = true) : ∃ i v, P.info? t = some i ∧ i.zero = some v ∧ ∀ ε, ∃ cs, SatC z ε cs ∧ v = boxed z.isAgg cs := by
  obtain ⟨i, v, h1, h2, h3⟩ := zok_ok h
  refine ⟨i, v, h1, h2, fun ε => ⟨_, h3 ε, ?_⟩⟩
  simp only [zbx, h1, h2, beq_iff_eq] at hb
  rw [← hb]
  exact boxed_cells v
/-- A map's type: what its keys and its values look like; the value of what is not there. -/
def mapTy (P : Program) (T : TypeId) : Option (ES × ES × SV) := match P.underlying T with
  | some (.map k e) => match esOf P 8 k, esOf P 8 e, zok P e with
    | some ek, some ev, some z => if esB P k ek && decide (dE ek ≤ 100) && zOK ev z && zbx P e z then some (ek, ev, z) else none
    | _, _, _ => none
  | _ => none
theorem mapTy_ok {T : TypeId} {ek ev : ES} {z : SV} (h : mapTy P T = some (ek, ev, z)) : ∃ k e, P.underlying T = some (.map k e) ∧ esB P k ek = true ∧ dE ek ≤ 100 ∧ zOK ev z = true ∧ zok P e = some z ∧ zbx P e z = true := by
  unfold mapTy at h
  split at h <;> try (cases h; done)
  rename_i k e hu
  split at h <;> try (cases h; done)
  rename_i ek' ev' z' h1 h2 h3
  split at h <;> try (cases h; done)
  rename_i hc
  simp only [Bool.and_eq_true, decide_eq_true_eq] at hc
  simp only [Option.some.injEq, Prod.mk.injEq] at h
  obtain ⟨rfl, rfl, rfl⟩ := h
  exact ⟨k, e, hu, hc.1.1.1, hc.1.1.2, hc.1.2, h3, hc.2⟩
def compM (P : Program) : Op → Option (MK × List Opd)
  | .makeMap T r => match mapTy P T with
    | some (ek, ev, _) => match r with
      | none => some (.make ek ev, [])
      | some r => (compO r).map fun r => (.make ek ev, [r])
    | none => none
  | .mapUpdate T x k v => compPut P T x k v
  | .insert T x k v => compPut P T x k v
  | .lookup T x k ok => match mapTy P T with
    | some (ek, ev, z) => match compO x, compO k with
      | some x, some k => some (.get ek ev z ok, [x, k])
      | _, _ => none
    | none => none
  | .convert t d x => match P.underlying t, P.underlying d with
    | some (.slice e), some .string => match P.underlying e with
      | some (.int .u8) => (compO x).map fun x => (.strb, [x])
      | _ => none
    | some .string, some (.slice e) => match P.underlying e with
      | some (.int .u8) => (compO x).map fun x => (.bstr, [x])
      | _ => none
    | _, _ => none
  | .call c => compLen P c
  | _ => none
where
 compLen (P : Program) (c : Call) : Option (MK × List Opd) := match c.callee, c.args.toList, c.argTypes.toList with
  | .builtin .len, [x], [t] => match P.underlying t with
    | some (.map _ _) => (compO x).map fun x => (.mlen, [x])
    | _ => none
  | _, _, _ => none
 compPut (P : Program) (T : TypeId) (x k v : Operand) : Option (MK × List Opd) := match mapTy P T with
  | some (ek, ev, _) => match compO x, compO k, compO v with
    | some x, some k, some v => some (.put ek ev, [x, k, v])
    | _, _, _ => none
  | none => none

theorem sat_map {ε : Env} {i : Nat} {v : Value} (h : SatV ε (.map i) v) : i < ε.n ∧ v = .map (some (ε.blk i)) := by
  obtain ⟨cs, h1, h2⟩ := h; simp only [SatC] at h1; obtain ⟨h1, h3⟩ := h1; subst h3; exact ⟨h1, h2⟩
theorem esP_val {e : ES} {x : SV} (h : esP e x) : x.isVal = true := by
  cases e <;> cases x <;> simp only [esP] at h <;> rfl
mutual
theorem es_nil : ∀ (e : ES) {x : SV} {ε : Env} {cs : List Value}, esP e x → SatC x ε cs → SatC x Env.nil cs
  | .int k, x, ε, cs, hx, sx => by cases x <;> simp only [esP] at hx; exact sx
  | .bool, x, ε, cs, hx, sx => by cases x <;> simp only [esP] at hx; exact sx
  | .str, x, ε, cs, hx, sx => by cases x <;> simp only [esP] at hx; exact sx
  | .st l, x, ε, cs, hx, sx => by
    cases x <;> simp only [esP] at hx
    simp only [SatC] at sx ⊢
    exact esL_nil l hx sx
  | .arr n w e, x, ε, cs, hx, sx => by
    cases x <;> simp only [esP] at hx
    obtain ⟨rfl, rfl, hx⟩ := hx
    simp only [SatC] at sx ⊢
    exact ⟨sx.1, fun i hi => es_nil e (hx i hi) (sx.2 i hi)⟩
theorem esL_nil : ∀ (l : List ES) {xs : List SV} {ε : Env} {cs : List Value}, esPL l xs → SatL xs ε cs → SatL xs Env.nil cs
  | [], xs, ε, cs, hx, sx => by
    cases xs <;> simp only [esPL] at hx
    exact sx
  | e :: l, xs, ε, cs, hx, sx => by
    cases xs with
    | nil => simp only [esPL] at hx
    | cons x xs =>
      simp only [esPL] at hx
      simp only [SatL] at sx ⊢
      obtain ⟨a, b, h1, h2, h3⟩ := sx
      exact ⟨a, b, h1, es_nil e hx.1 h2, esL_nil l hx.2 h3⟩
end

def SatC' (ε : Env) (x : SV) (v : Value) : Prop := ∃ cs, SatC x ε cs ∧ v = boxed x.isAgg cs
/-- A map of the call's own is written. -/
theorem Inv.setMp {β : Base} {ε : Env} {m : List Res} {w : World} (h : Inv β ε m w) {i : Nat} {ek ev : ES} {l l' : List (SV × SV)} {es : Array MapEntry} {clock : Nat} {o : Obj}
    (hm : memAt m i = .mp ek ev l) (hb : w.heap[ε.blk i]? = some o) (hl : EntsOK ek ev l' es.toList ∧ Stamps es.toList clock) :
    Inv β ε (m.set i (.mp ek ev l')) { w with heap := w.heap.setIfInBounds (ε.blk i) (.map es clock) } := by
  have hi : i < m.length := by
    rcases Nat.lt_or_ge i m.length with hi | hi
    · exact hi
    · rw [memAt_ge hi] at hm; cases hm
  generalize hw' : ({ w with heap := w.heap.setIfInBounds (ε.blk i) (.map es clock) } : World) = w'
  have hh : w'.heap = w.heap.setIfInBounds (ε.blk i) (.map es clock) := by rw [← hw']
  have hat : ∀ j, memAt (m.set i (.mp ek ev l')) j = if j = i then .mp ek ev l' else memAt m j := by
    intro j
    unfold memAt
    rw [List.getD, List.getElem?_set]
    by_cases hj : i = j
    · subst hj; simp [hi]
    · rw [if_neg hj, if_neg (fun e => hj e.symm)]; rfl
  have hown : ∀ j, ownR ε j (memAt (m.set i (.mp ek ev l')) j) = ownR ε j (memAt m j) := by
    intro j
    rw [hat]
    by_cases hj : j = i
    · subst hj; rw [if_pos rfl, hm]; rfl
    · rw [if_neg hj]
  have hoi : ownR ε i (memAt m i) = some (ε.blk i) := by rw [hm]; rfl
  have hoth : ∀ b, b ≠ ε.blk i → w'.heap[b]? = w.heap[b]? := fun b hb => by rw [hh]; simp [Ne.symm hb]
  have hsz : w'.heap.size = w.heap.size := by rw [hh]; simp
  have hlt : ε.blk i < w.heap.size := (Array.getElem?_eq_some_iff.1 hb).1
  refine ⟨⟨by simp [h.good.n], fun j => ?_, fun a b x hab h1 h2 => ?_, fun a b hb => ?_, fun b o hb => ?_⟩, ⟨by rw [← hw']; exact h.kept.os, by rw [← hw']; exact h.kept.tape, by rw [← hw']; exact h.kept.output, ?_, ?_, h.kept.H, h.kept.fresh⟩, fun a b hb => ?_, h.n, h.blk, fun j hj hv => h.vv j hj ?_⟩
  · rw [hat]
    by_cases hj : j = i
    · subst hj
      rw [if_pos rfl]
      exact ⟨es, clock, by rw [hh]; simp [hlt], hl⟩
    · rw [if_neg hj]
      have hr := h.good.res j
      cases hmj : memAt m j with
      | dead => trivial
      | blk T' c'' =>
        rw [hmj] at hr
        obtain ⟨cs'', h1, h2⟩ := hr
        refine ⟨cs'', ?_, h2⟩
        rw [hoth _ (fun e => h.good.disj j i (ε.blk j) hj (by rw [hmj]; rfl) (by rw [hoi, e]))]
        exact h1
      | vec T' wd l =>
        rw [hmj] at hr
        obtain ⟨xs, h1, h2⟩ := hr
        refine ⟨xs, ?_, h2⟩
        refine ⟨h1.1, ?_⟩
        rcases h1.2 with hx | ⟨gg, cap, cur, e1, e2, e3, e4⟩
        · exact .inl hx
        · refine .inr ⟨gg, cap, cur, e1, e2, ?_, e4⟩
          rw [hoth _ (fun e => h.good.disj j i gg hj (by rw [hmj]; simp [ownR, e1, Value.ownBlock]) (by rw [hoi, e]))]
          exact e3
      | mp ek ev l =>
        rw [hmj] at hr
        obtain ⟨es, cl, h1, h2⟩ := hr
        refine ⟨es, cl, ?_, h2⟩
        rw [hoth _ (fun e => h.good.disj j i (ε.blk j) hj (by rw [hmj]; rfl) (by rw [hoi, e]))]
        exact h1
  · rw [hown] at h1 h2; exact h.good.disj a b x hab h1 h2
  · rw [hown] at hb; exact h.good.sep a b hb
  · rw [hoth b (fun e => by have := h.good.sep i _ hoi; rw [e] at hb; rw [this] at hb; cases hb)]; exact h.good.hv b o hb
  · rw [hsz]; exact h.kept.size
  · intro b hb hB
    rw [hoth b (fun e => ?_)]
    · exact h.kept.heap b hb hB
    · rcases h.own i _ hoi with h' | h'
      · rw [e] at hB; exact hB h'
      · omega
  · rw [hown] at hb; exact h.own a b hb
  · rw [hat] at hv
    by_cases hji : j = i
    · subst hji; rw [if_pos rfl] at hv; cases hv
    · rwa [if_neg hji] at hv

section
variable {o : Oper} {σ : List SV} {m : List Res}
theorem estep_mkm {T : TypeId} {ek ev : ES} (hrun : ∀ ε a w, SlotsOK ε σ a → (execOp a.eval o).run P w = .ok (.value (.map (some w.heap.size))) (w.alloc (.map #[] 0))) :
    EStepL P o σ m (.map m.length) (m ++ [.mp ek ev []]) := by
  intro β ε a w hi hs Q
  unfold Oper.wp
  rw [hrun ε a w hs, Oper.upon_value]
  have hbl : (ε.more w.heap.size undef).blk m.length = w.heap.size := by simp [Env.more, hi.good.n]
  refine ⟨_, ε.more w.heap.size undef, rfl, ⟨_, by simp only [SatC]; exact ⟨by simp [Env.more, hi.good.n], rfl⟩, ?_⟩, ε.le_more _ _, hi.more (World.grownBy_alloc _ _ _) ⟨#[], 0, ?_, trivial, List.nodup_nil, fun e he => by cases he⟩ ?_⟩
  · simp [boxed, SV.isAgg, hbl]
  · rw [hbl]; exact heap_alloc_new w _
  · intro x hx
    simp only [ownR, hbl, Option.some.injEq] at hx
    omega
theorem stamps_push {es : List MapEntry} {cl : Nat} {e : MapEntry} (h : Stamps es cl) (he : e.born = cl) : Stamps (es ++ [e]) (cl + 1) := by
  refine ⟨?_, fun x hx => ?_⟩
  · rw [List.map_append, List.nodup_append]
    refine ⟨h.1, by simp, fun a ha b hb => ?_⟩
    obtain ⟨x, hx, rfl⟩ := List.mem_map.1 ha
    have := h.2 x hx
    simp only [List.map_cons, List.map_nil, List.mem_singleton] at hb
    omega
  · rcases List.mem_append.1 hx with hx | hx
    · have := h.2 x hx; omega
    · rw [List.mem_singleton.1 hx, he]; exact Nat.lt_succ_self _
theorem stamps_set {es : List MapEntry} {cl j : Nat} {e e' : MapEntry} (h : Stamps es cl) (hj : es[j]? = some e) (he : e'.born = e.born) : Stamps (es.set j e') cl := by
  obtain ⟨hlt, rfl⟩ := List.getElem?_eq_some_iff.1 hj
  have hm : (es.set j e').map (·.born) = es.map (·.born) := by
    rw [List.map_set, he]
    apply List.ext_getElem?
    intro q
    rw [List.getElem?_set]
    by_cases hq : j = q
    · subst hq; simp [hlt]
    · simp [hq]
  refine ⟨by rw [hm]; exact h.1, fun x hx => ?_⟩
  have : x.born ∈ (es.set j e').map (·.born) := List.mem_map_of_mem hx
  rw [hm] at this
  obtain ⟨y, hy, e1⟩ := List.mem_map.1 this
  rw [← e1]; exact h.2 y hy
theorem estep_put {T : TypeId} {ek ev : ES} {z : SV} {x k v : Operand} {x' k' v' : Opd} {i : Nat} {l : List (SV × SV)} (hT : mapTy P T = some (ek, ev, z)) (hrun : ∀ a : Act, execOp a.eval o = (do Instr.mapUpdate T (a.eval x) (a.eval k) (a.eval v); pure .skip))
    (hx : compO x = some x') (hk : compO k = some k') (hv : compO v = some v') (ex : x'.ev σ = .map i) (hm : memAt m i = .mp ek ev l) (hek : esP ek (k'.ev σ)) (hev : esP ev (v'.ev σ)) :
    EStepL P o σ m .junk (m.set i (.mp ek ev (mpPut ek (k'.ev σ) (v'.ev σ) l))) := by
  intro β ε a w hi hs Q
  obtain ⟨kt, et, hu, hb, hd, _, _⟩ := mapTy_ok hT
  obtain ⟨hin, e1⟩ := sat_map (ex ▸ compO_ok hx hs)
  obtain ⟨kc, sk, e2⟩ := sat_val (compO_ok hk hs) (esP_val hek)
  obtain ⟨vc, sv, e3⟩ := sat_val (compO_ok hv hs) (esP_val hev)
  obtain ⟨es, cl, hh, hE, hS⟩ : ResOK ε i w (.mp ek ev l) := hm ▸ hi.good.res i
  have hkag := esP_agg hek
  have hck := checkKey_ok (P := P) (d := 10000) ek w false hb (by omega) hek sk
  have hfk := findKey_ok (P := P) hb (by omega) hek sk w hE
  have hnew : EntOK ek ev (k'.ev σ, v'.ev σ) { key := boxed (k'.ev σ).isAgg kc, val := boxed (v'.ev σ).isAgg vc, born := cl } := ⟨hek, hev, ⟨kc, es_nil ek hek sk, rfl⟩, ⟨vc, es_nil ev hev sv, rfl⟩⟩
  rw [hkag] at e2
  have key : ∃ es' cl', (Instr.mapUpdate T (a.eval x) (a.eval k) (a.eval v)).run P w = .ok () { w with heap := w.heap.setIfInBounds (ε.blk i) (.map es' cl') } ∧ EntsOK ek ev (mpPut ek (k'.ev σ) (v'.ev σ) l) es'.toList ∧ Stamps es'.toList cl' := by
    rw [e1, e2, e3]
    cases hix : mpIdx ek (k'.ev σ) l with
    | none =>
      rw [hix] at hfk
      refine ⟨es.push { key := boxed (aggE ek) kc, val := boxed (v'.ev σ).isAgg vc, born := cl }, cl + 1, ?_, ?_⟩
      · simp only [Instr.mapUpdate, Sem.run_bind, run_underlying hu, Result.andThen_ok, MapKept.run_getObj_map hh, hck, hfk, Option.bind_none, MapKept.run_setObj_map _ hh]
      · rw [mpIdx_put, hix, Array.toList_push]
        rw [hkag] at hnew
        exact ⟨hE.push hnew, stamps_push hS rfl⟩
    | some j =>
      obtain ⟨p, hp, hpe⟩ := mpIdx_ok l hix
      obtain ⟨e, he, hee⟩ := hE.at hp
      rw [hix] at hfk
      have he' : es[j]? = some e := by simpa using he
      have hsame : e.key = boxed (aggE ek) kc := by
        obtain ⟨cs', s1, s2⟩ := hee.kc
        rw [s2, esP_agg hee.k, eqV_cells ek hek hee.k sk s1 hpe]
      have hst := es_stays (P := P) hek sk w
      rw [hkag] at hst
      refine ⟨es.modify j fun e => { e with key := boxed (aggE ek) kc, val := boxed (v'.ev σ).isAgg vc }, cl, ?_, ?_⟩
      · simp only [Instr.mapUpdate, Sem.run_bind, run_underlying hu, Result.andThen_ok, MapKept.run_getObj_map hh, hck, hfk, Option.bind_some, he, Option.map_some, he', Option.getD_some, hsame, hst, MapKept.run_setObj_map _ hh]
      · rw [mpIdx_put, hix]
        have hj : j < es.size := (Array.getElem?_eq_some_iff.1 he').1
        have : (es.modify j fun e => { e with key := boxed (aggE ek) kc, val := boxed (v'.ev σ).isAgg vc }).toList = es.toList.set j { key := boxed (aggE ek) kc, val := boxed (v'.ev σ).isAgg vc, born := e.born } := by
          apply List.ext_getElem?
          intro q
          rw [List.getElem?_set, Array.getElem?_toList, Array.getElem?_modify, Array.getElem?_toList]
          have hej : es[j] = e := by
            have := he'
            rw [Array.getElem?_eq_getElem hj] at this
            exact Option.some.inj this
          by_cases hq : j = q
          · subst hq; simp [hj, hej]
          · simp [hq]
        rw [this]
        refine ⟨hE.set ⟨hek, hev, ⟨kc, es_nil ek hek sk, ?_⟩, ⟨vc, es_nil ev hev sv, rfl⟩⟩ j, stamps_set hS he rfl⟩
        rw [hkag]
  obtain ⟨es', cl', hr, hE'⟩ := key
  unfold Oper.wp
  rw [hrun]
  simp only [Sem.run_bind, hr, Result.andThen_ok, Sem.run_pure]
  rw [Oper.upon_skip]
  exact ⟨_, ε, rfl, trivial, Env.Le.refl ε, hi.setMp hm hh hE'⟩
theorem estep_get {T : TypeId} {ek ev : ES} {z : SV} {ok : Bool} {x k : Operand} {x' k' : Opd} {i : Nat} {l : List (SV × SV)} (hT : mapTy P T = some (ek, ev, z)) (hrun : ∀ a : Act, execOp a.eval o = (do let v ← Instr.lookup T (a.eval x) (a.eval k) ok; pure (.value v)))
    (hx : compO x = some x') (hk : compO k = some k') (ex : x'.ev σ = .map i) (hm : memAt m i = .mp ek ev l) (hek : esP ek (k'.ev σ)) :
    EStepL P o σ m (if ok then .tup [mpRes ev z (mpFind ek (k'.ev σ) l), .bool (mpFind ek (k'.ev σ) l).isSome] else mpRes ev z (mpFind ek (k'.ev σ) l)) m := by
  intro β ε a w hi hs Q
  obtain ⟨kt, et, hu, hb, hd, hzo, hz, hzb⟩ := mapTy_ok hT
  obtain ⟨hz1, hz2⟩ := zOK_ok hzo
  obtain ⟨hin, e1⟩ := sat_map (ex ▸ compO_ok hx hs)
  obtain ⟨kc, sk, e2⟩ := sat_val (compO_ok hk hs) (esP_val hek)
  obtain ⟨es, cl, hh, hE, _⟩ : ResOK ε i w (.mp ek ev l) := hm ▸ hi.good.res i
  have hck := checkKey_ok (P := P) (d := 10000) ek w es.isEmpty hb (by omega) hek sk
  have hfk := findKey_ok (P := P) hb (by omega) hek sk w hE
  rw [esP_agg hek] at e2
  have key : ∃ (v : Value) (b : Bool), (Instr.lookup T (a.eval x) (a.eval k) ok).run P w = .ok (if ok then .tuple #[v, .bool b] else v) w ∧ SatC' ε (mpRes ev z (mpFind ek (k'.ev σ) l)) v ∧ b = (mpFind ek (k'.ev σ) l).isSome := by
    rw [e1, e2]
    cases hix : mpIdx ek (k'.ev σ) l with
    | none =>
      rw [hix] at hfk
      obtain ⟨inf, zv, i1, i2, i3⟩ := zero_boxed hz hzb
      have hrz : (zeroValue et).run P w = .ok zv w := by simp [zeroValue, typeInfo, i1, i2]
      refine ⟨zv, false, ?_, ?_, ?_⟩
      · simp only [Instr.lookup, Sem.run_bind, run_underlying hu, Result.andThen_ok, MapKept.run_getObj_map hh, Sem.run_pure, hck, hfk, Option.bind_none, hrz]
      · rw [mpIdx_find, hix, Option.bind_none, hz2]
        exact i3 ε
      · rw [mpIdx_find, hix]; rfl
    | some j =>
      obtain ⟨p, hp, hpe⟩ := mpIdx_ok l hix
      obtain ⟨e, he, hee⟩ := hE.at hp
      rw [hix] at hfk
      refine ⟨e.val, true, ?_, ?_, ?_⟩
      · simp only [Instr.lookup, Sem.run_bind, run_underlying hu, Result.andThen_ok, MapKept.run_getObj_map hh, Sem.run_pure, hck, hfk, Option.bind_some, he, Option.map_some]
      · rw [mpIdx_find, hix, Option.bind_some, hp, Option.map_some, mpRes_some hee.v]
        obtain ⟨vc, s1, s2⟩ := hee.vc
        exact ⟨vc, s1.mono _ (Env.nil_le ε), s2⟩
      · rw [mpIdx_find, hix, Option.bind_some, hp]; rfl
  obtain ⟨v, b, hr, ⟨vc, s1, s2⟩, hb'⟩ := key
  unfold Oper.wp
  rw [hrun]
  simp only [Sem.run_bind, hr, Result.andThen_ok, Sem.run_pure]
  rw [Oper.upon_value]
  refine ⟨_, ε, rfl, ?_, Env.Le.refl ε, hi⟩
  cases ok with
  | true =>
    simp only [if_true]
    refine ⟨[v, .bool b], ?_, rfl⟩
    simp only [SatA]
    exact ⟨vc, [.bool b], by rw [s2], s1, [.bool b], [], rfl, by rw [hb']; rfl, rfl⟩
  | false =>
    simp only [Bool.false_eq_true, if_false]
    rw [s2]
    exact satC_sat s1
theorem bytesOf_ok : ∀ {l : List SV} {bs : List UInt8}, bytesOf l = some bs → ∃ ns : List Int, l = ns.map (SV.int .u8) ∧ bs = ns.map fun n => UInt8.ofNat n.toNat
  | [], bs, h => by
    simp only [bytesOf, Option.some.injEq] at h
    subst h; exact ⟨[], rfl, rfl⟩
  | x :: r, bs, h => by
    unfold bytesOf at h
    split at h
    · rename_i e; cases e
    · rename_i n r' e
      cases e
      simp only [Option.map_eq_some_iff] at h
      obtain ⟨l, hl, rfl⟩ := h
      obtain ⟨ns, rfl, rfl⟩ := bytesOf_ok hl
      exact ⟨n :: ns, rfl, rfl⟩
    · cases h
theorem satE_bytes {ε : Env} : ∀ {ns : List Int} {xs : List Value}, SatE ε 1 (ns.map (SV.int .u8)) xs → xs = ns.map (Value.int .u8)
  | ns, xs, h => by
    apply List.ext_getElem?
    intro i
    have hl : xs.length = ns.length := by have := h.1; simpa using this
    by_cases hi : i < ns.length
    · have h2 := h.2 i (by simpa using hi)
      have e : (ns.map (SV.int .u8)).getD i .junk = .int .u8 ns[i] := by simp [List.getD, hi]
      rw [e] at h2
      simp only [SatC] at h2
      have h3 : (sub xs (i * 1) 1)[0]? = some (.int .u8 ns[i]) := by rw [h2]; rfl
      rw [sub_get, if_pos (by omega)] at h3
      simp only [Nat.mul_one, Nat.add_zero] at h3
      rw [h3]; simp [hi]
    · rw [List.getElem?_eq_none (by omega), List.getElem?_eq_none (by simpa using hi)]
theorem foldl_push : ∀ (ns : List Int) (r : ByteArray), ns.foldl (fun r n => r.push (UInt8.ofNat n.toNat)) r = ⟨r.data ++ (ns.map fun n => UInt8.ofNat n.toNat).toArray⟩
  | [], r => by simp
  | n :: ns, r => by
    simp only [List.foldl_cons]
    rw [foldl_push ns]
    simp [ByteArray.push]
theorem Inv.allocO {β : Base} {ε : Env} {m : List Res} {w : World} (h : Inv β ε m w) (o0 : Obj) :
    Inv β { ε with H := fun b => if b = w.heap.size then some o0 else ε.H b } m (w.alloc o0) ∧
    ε.Le { ε with H := fun b => if b = w.heap.size then some o0 else ε.H b } := by
  have hw : ∀ b, b < w.heap.size → (w.alloc o0).heap[b]? = w.heap[b]? := fun b hb => Go.RowKit.Below.heap_alloc w _ b hb
  have hH : ∀ b o, ε.H b = some o → (if b = w.heap.size then some o0 else ε.H b) = some o := by
    intro b o hb
    rw [if_neg (by have := H_lt h.good hb; omega)]; exact hb
  have hle : ε.Le { ε with H := fun b => if b = w.heap.size then some o0 else ε.H b } := ⟨Nat.le_refl _, fun _ _ => rfl, fun _ _ => rfl, hH⟩
  refine ⟨⟨h.good.grow hle h.good.n (fun _ _ => rfl) (fun _ _ => rfl) hw (fun b o hb => ?_) (fun i b hb => ?_), ⟨h.kept.os, h.kept.tape, h.kept.output, ?_, ?_, fun b o hb => hH b o (h.kept.H b o hb), fun b o hb => ?_⟩, h.own, h.n, h.blk, h.vv⟩, hle⟩
  · simp only at hb
    by_cases e : b = w.heap.size
    · rw [if_pos e] at hb
      subst e
      rw [heap_alloc_new w]
      exact hb
    · rw [if_neg e] at hb
      rw [hw b (H_lt h.good hb)]; exact h.good.hv b o hb
  · have := ownR_lt h.good hb
    simp only
    rw [if_neg (by omega)]; exact h.good.sep i b hb
  · have := h.kept.size; simp; omega
  · intro b hb hB; rw [hw b (Nat.lt_of_lt_of_le hb h.kept.size)]; exact h.kept.heap b hb hB
  · simp only at hb
    by_cases e : b = w.heap.size
    · right; left; rw [e]; exact h.kept.size
    · rw [if_neg e] at hb; exact h.kept.fresh b o hb
theorem estep_bstr {t d e : TypeId} {x : Operand} {x' : Opd} {s : List UInt8} (ho : o.op = .convert t d x) (ht : P.underlying t = some .string) (hd : P.underlying d = some (.slice e)) (he : P.underlying e = some (.int .u8))
    (hx : compO x = some x') (hs' : x'.ev σ = .str s) (hb : s.length ≤ 140737488355328) : EStepL P o σ m (.lst 1 (0 : UInt8) (fun b => SV.int .u8 (b.toNat : Int)) s) m := by
  intro β ε a w hi hs Q
  have e1 := sat_str (hs' ▸ compO_ok hx hs)
  have hr0 := run_bytes_of_string (P := P) w t d e ⟨s.toArray⟩ ht hd he
  have hsz : (⟨s.toArray⟩ : ByteArray).size = s.length := by simp [ByteArray.size]
  rw [hsz] at hr0
  have hr : (execOp a.eval o).run P w = .ok (.value (.slice (some ⟨w.heap.size, 0, none⟩) s.length (grownCap w s.length 0 e))) (w.drew.alloc (.cells (bytesRow ⟨s.toArray⟩ (grownCap w s.length 0 e)) e ((bytesRow ⟨s.toArray⟩ (grownCap w s.length 0 e)).size, (bytesRow ⟨s.toArray⟩ (grownCap w s.length 0 e)).size + 1))) := by
    simp [execOp, ho, e1, hr0]
  obtain ⟨k1, k2⟩ := hi.drew.allocO (.cells (bytesRow ⟨s.toArray⟩ (grownCap w s.length 0 e)) e ((bytesRow ⟨s.toArray⟩ (grownCap w s.length 0 e)).size, (bytesRow ⟨s.toArray⟩ (grownCap w s.length 0 e)).size + 1))
  have hge := grownCap_ge w s.length 0 e
  unfold Oper.wp
  rw [hr, Oper.upon_value]
  refine ⟨_, _, rfl, ⟨[.slice (some ⟨w.heap.size, 0, none⟩) s.length (grownCap w s.length 0 e)], ?_, rfl⟩, k2, k1⟩
  simp only [SatC]
  refine ⟨some ⟨w.heap.size, 0, none⟩, grownCap w s.length 0 e, rfl, hge, grownCap_le_maxLen w s.length 0 e (by unfold maxLen; omega), (fun h => by cases h), fun i hi' => ?_⟩
  have hbs : (bytesRow ⟨s.toArray⟩ (grownCap w s.length 0 e)).size = grownCap w s.length 0 e := by
    simp [bytesRow, ByteArray.size]; omega
  refine ⟨w.heap.size, 0, e, ((bytesRow ⟨s.toArray⟩ (grownCap w s.length 0 e)).size, (bytesRow ⟨s.toArray⟩ (grownCap w s.length 0 e)).size + 1), bytesRow ⟨s.toArray⟩ (grownCap w s.length 0 e), rfl, if_pos rfl, by rw [hbs]; omega, ?_⟩
  apply List.ext_getElem?
  intro j
  rw [sub_get]
  by_cases hj : j < 1
  · rw [if_pos hj]
    have : j = 0 := by omega
    subst this
    simp only [Nat.zero_add, Nat.mul_one, Nat.add_zero, bytesRow, Array.toList_append, Array.toList_map]
    rw [List.getElem?_append_left (by simpa using hi')]
    simp [List.getD, hi']
  · rw [if_neg hj, List.getElem?_eq_none (by simp; omega)]
theorem estep_strb {t d e : TypeId} {x : Operand} {x' : Opd} {l : List SV} {bs : List UInt8} (ho : o.op = .convert t d x) (ht : P.underlying t = some (.slice e)) (hd : P.underlying d = some .string) (he : P.underlying e = some (.int .u8))
    (hx : compO x = some x') (hl : srcL m 1 (x'.ev σ) = some l) (hb : bytesOf l = some bs) : EStepL P o σ m (.str bs) m := by
  intro β ε a w hi hs Q
  obtain ⟨ns, rfl, rfl⟩ := bytesOf_ok hb
  obtain ⟨ao, c, news, e1, e2, e3, e4, e5⟩ := srcL_ok hl hi.good (compO_ok hx hs)
  have hnews := satE_bytes e2
  subst hnews
  have key : (convert t d (a.eval x)).run P w = .ok (.string ⟨(ns.map fun n => UInt8.ofNat n.toNat).toArray⟩) w := by
    rw [e1, run_convert_bytes_string w t d e ao _ c ht he hd]
    cases ao with
    | none =>
      obtain ⟨h1, rfl⟩ := e3 rfl
      simp only [List.map_eq_nil_iff] at h1
      subst h1
      rfl
    | some ad =>
      have hc := run_loadCells_list (P := P) w ad (ns.map (Value.int .u8)) (fun j v hj => e4 ad rfl j v hj)
      simp only [List.length_map] at hc ⊢
      rw [run_bytesToString w ad ns.length c ns hc, foldl_push]
      simp
  unfold Oper.wp
  have hr : (execOp a.eval o).run P w = .ok (.value (.string ⟨(ns.map fun n => UInt8.ofNat n.toNat).toArray⟩)) w := by
    simp [execOp, ho, key]
  rw [hr, Oper.upon_value]
  exact ⟨_, ε, rfl, ⟨[_], by simp only [SatC], rfl⟩, Env.Le.refl ε, hi⟩
theorem estep_mop {k : MK} {ys : List Opd} {K : SV → List Res → Prop} (hc : compM P o.op = some (k, ys)) (hv : (ys.map (·.ev σ)).all SV.isVal = true) (h : mopK m k (ys.map (·.ev σ)) K) :
    ∃ sv m', K sv m' ∧ EStepL P o σ m sv m' ∧ (k.eff = false → m' = m) := by
  have put : ∀ (T : TypeId) (x kk v : Operand), (∀ a : Act, execOp a.eval o = (do Instr.mapUpdate T (a.eval x) (a.eval kk) (a.eval v); pure .skip)) → compM.compPut P T x kk v = some (k, ys) → ∃ sv m', K sv m' ∧ EStepL P o σ m sv m' ∧ (k.eff = false → m' = m) := by
    intro T x kk v hrun hp
    unfold compM.compPut at hp
    split at hp <;> try (cases hp; done)
    rename_i ek ev z hT
    split at hp <;> try (cases hp; done)
    rename_i x' k' v' h1 h2 h3
    simp only [Option.some.injEq, Prod.mk.injEq] at hp
    obtain ⟨rfl, rfl⟩ := hp
    simp only [mopK, List.map_cons, List.map_nil] at h
    split at h
    · rename_i i key vv e0
      simp only [List.cons.injEq, and_true] at e0
      obtain ⟨e1, rfl, rfl⟩ := e0
      split at h
      · rename_i ek' ev' l hm
        obtain ⟨⟨rfl, rfl, hk, hvv⟩, hK⟩ := h
        exact ⟨_, _, hK, estep_put hT hrun h1 h2 h3 e1 hm hk hvv, fun hh => by cases hh⟩
      · exact h.elim
    · exact h.elim
  cases ho : o.op <;> rw [ho] at hc <;> simp only [compM] at hc <;> try (cases hc; done)
  case makeMap T r =>
    split at hc <;> try (cases hc; done)
    rename_i ek ev z hT
    split at hc
    · simp only [Option.some.injEq, Prod.mk.injEq] at hc
      obtain ⟨rfl, rfl⟩ := hc
      exact ⟨_, _, h, estep_mkm (T := T) (fun ε a w hs => by simp [execOp, ho, Instr.makeMap]), fun hh => by cases hh⟩
    · rename_i r
      simp only [Option.map_eq_some_iff] at hc
      obtain ⟨r', hr, hc⟩ := hc
      simp only [Prod.mk.injEq] at hc
      obtain ⟨rfl, rfl⟩ := hc
      simp only [mopK, List.map_cons, List.map_nil] at h
      split at h
      · rename_i e0; cases e0
      · rename_i k n e0
        simp only [List.cons.injEq, and_true] at e0
        obtain ⟨kt, et, hu, _⟩ := mapTy_ok hT
        exact ⟨_, _, h, estep_mkm (T := T) (fun ε a w hs => by
          have := sat_int (e0 ▸ compO_ok hr hs)
          simp [execOp, ho, Instr.makeMap, run_underlying hu, this, asInt, asIntOf]), fun hh => by cases hh⟩
      · exact h.elim
  case mapUpdate T x kk v => exact put T x kk v (fun a => by simp [execOp, ho]) hc
  case insert T x kk v => exact put T x kk v (fun a => by simp [execOp, ho]) hc
  case lookup T x kk ok =>
    split at hc <;> try (cases hc; done)
    rename_i ek ev z hT
    split at hc <;> try (cases hc; done)
    rename_i x' k' h1 h2
    simp only [Option.some.injEq, Prod.mk.injEq] at hc
    obtain ⟨rfl, rfl⟩ := hc
    simp only [mopK, List.map_cons, List.map_nil] at h
    split at h
    · rename_i i key e0
      simp only [List.cons.injEq, and_true] at e0
      obtain ⟨e1, rfl⟩ := e0
      split at h
      · rename_i ek' ev' l hm
        obtain ⟨⟨rfl, rfl, hk⟩, hK⟩ := h
        exact ⟨_, _, hK, estep_get hT (fun a => by simp [execOp, ho]) h1 h2 e1 hm hk, fun _ => rfl⟩
      · exact h.elim
    · exact h.elim
  case convert t d x =>
    split at hc
    · rename_i e h1 h2
      split at hc <;> try (cases hc; done)
      rename_i h3
      simp only [Option.map_eq_some_iff] at hc
      obtain ⟨x', hx, hc⟩ := hc
      simp only [Prod.mk.injEq] at hc
      obtain ⟨rfl, rfl⟩ := hc
      simp only [mopK, List.map_cons, List.map_nil] at h
      split at h
      · rename_i l hl
        split at h
        · rename_i bs hb
          exact ⟨_, _, h, estep_strb ho h1 h2 h3 hx hl hb, fun _ => rfl⟩
        · exact h.elim
      · exact h.elim
    · rename_i e h1 h2
      split at hc <;> try (cases hc; done)
      rename_i h3
      simp only [Option.map_eq_some_iff] at hc
      obtain ⟨x', hx, hc⟩ := hc
      simp only [Prod.mk.injEq] at hc
      obtain ⟨rfl, rfl⟩ := hc
      simp only [mopK, List.map_cons, List.map_nil] at h
      split at h
      · rename_i s e0
        simp only [List.cons.injEq, and_true] at e0
        exact ⟨_, _, h.2, estep_bstr ho h1 h2 h3 hx e0 h.1, fun _ => rfl⟩
      · exact h.elim
    · cases hc
  case call c =>
    unfold compM.compLen at hc
    cases c with
    | mk callee args argTypes =>
    simp only at hc
    split at hc <;> try (cases hc; done)
    rename_i x t ea et
    obtain rfl : args = #[x] := by apply Array.ext'; simpa using ea
    obtain rfl : argTypes = #[t] := by apply Array.ext'; simpa using et
    split at hc <;> try (cases hc; done)
    rename_i kt et hu
    simp only [Option.map_eq_some_iff] at hc
    obtain ⟨x', hx, hc⟩ := hc
    simp only [Prod.mk.injEq] at hc
    obtain ⟨rfl, rfl⟩ := hc
    simp only [mopK, List.map_cons, List.map_nil] at h
    split at h
    · rename_i i e0
      simp only [List.cons.injEq, and_true] at e0
      split at h
      · rename_i ek ev l hm
        refine ⟨_, _, h, fun β ε a w hi hs Q => ?_, fun _ => rfl⟩
        obtain ⟨hin, e1⟩ := sat_map (e0 ▸ compO_ok hx hs)
        obtain ⟨es, cl, hh, hE, _⟩ : ResOK ε i w (.mp ek ev l) := hm ▸ hi.good.res i
        have hl := hE.len
        have hrun : (execOp a.eval o).run P w = .ok (.value (.int .i64 l.length)) w := by
          simp only [Array.length_toList] at hl
          simp [execOp, ho, resolve, invoke, builtin, Builtin.len_, run_underlying hu, e1, goInt, MapKept.run_getObj_map hh, hl]
        unfold Oper.wp
        rw [hrun, Oper.upon_value]
        exact ⟨_, ε, rfl, ⟨[_], by simp only [SatC], rfl⟩, Env.Le.refl ε, hi⟩
      · exact h.elim
    · exact h.elim
end

end Go.Sx
