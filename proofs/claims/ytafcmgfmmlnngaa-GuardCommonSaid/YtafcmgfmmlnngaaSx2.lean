import Derived.Test.YtafcmgfmmlnngaaSx1
/-! Sx, part 2: paths into what a block holds. -/
set_option linter.unusedSimpArgs false
set_option linter.unusedVariables false
namespace Go.Sx
open Go

mutual
def wd : SV → Nat
  | .arr n w _ => n * w
  | .agg l => wds l
  | _ => 1
def wds : List SV → Nat
  | [] => 0
  | x :: r => wd x + wds r
end

theorem sub_length {cs : List Value} {a n : Nat} (h : a + n ≤ cs.length) : (sub cs a n).length = n := by
  simp [sub]; omega

theorem mul_le_len {i n w : Nat} (h : i < n) : i * w + w ≤ n * w := by
  have : (i + 1) * w ≤ n * w := Nat.mul_le_mul_right _ h
  rw [Nat.add_mul] at this; omega

mutual
theorem SatC.length : ∀ (c : SV) {ε : Env} {cs : List Value}, SatC c ε cs → cs.length = wd c
  | .arr n w f, _, _, h => by simp only [SatC] at h; simp only [wd]; exact h.1
  | .agg l, _, _, h => by simp only [SatC] at h; simp only [wd]; exact SatL.length l h
  | .tup _, _, _, h => by simp only [SatC] at h
  | .int .., _, _, h => by simp only [SatC] at h; subst h; rfl
  | .bool .., _, _, h => by simp only [SatC] at h; subst h; rfl
  | .str .., _, _, h => by simp only [SatC] at h; subst h; rfl
  | .lst .., _, _, h => by simp only [SatC] at h; obtain ⟨_, _, h, _⟩ := h; subst h; rfl
  | .eptr .., _, _, h => by simp only [SatC] at h; obtain ⟨_, _, _, _, _, h, _⟩ := h; subst h; rfl
  | .ref .., _, _, h => by simp only [SatC] at h; obtain ⟨_, _, _, _, h, _⟩ := h; subst h; rfl
  | .ptr .., _, _, h => by simp only [SatC] at h; obtain ⟨_, _, h⟩ := h; subst h; rfl
  | .vec .., _, _, h => by simp only [SatC] at h; obtain ⟨_, _, h⟩ := h; subst h; rfl
  | .vptr .., _, _, h => by simp only [SatC] at h; obtain ⟨_, _, _, _, _, _, _, h⟩ := h; subst h; rfl
  | .map .., _, _, h => by simp only [SatC] at h; obtain ⟨_, h⟩ := h; subst h; rfl
  | .fn .., _, _, h => by simp only [SatC] at h; obtain ⟨_, _, h⟩ := h; subst h; rfl
  | .iface .., _, _, h => by simp only [SatC] at h; obtain ⟨_, _, h⟩ := h; subst h; rfl
  | .nils, _, _, h => by simp only [SatC] at h; subst h; rfl
  | .nili, _, _, h => by simp only [SatC] at h; subst h; rfl
  | .nilf, _, _, h => by simp only [SatC] at h; subst h; rfl
  | .nilp, _, _, h => by simp only [SatC] at h; subst h; rfl
  | .nilm, _, _, h => by simp only [SatC] at h; subst h; rfl
  | .anyb, _, _, h => by simp only [SatC] at h; obtain ⟨_, h⟩ := h; subst h; rfl
  | .raw .., _, _, h => by simp only [SatC] at h; obtain ⟨_, h⟩ := h; subst h; rfl
  | .junk, _, _, h => by simp only [SatC] at h; obtain ⟨_, _, h⟩ := h; subst h; rfl
theorem SatL.length : ∀ (l : List SV) {ε : Env} {cs : List Value}, SatL l ε cs → cs.length = wds l
  | [], _, _, h => by simp only [SatL] at h; subst h; rfl
  | x :: r, _, _, h => by
    simp only [SatL] at h
    obtain ⟨a, b, h1, h2, h3⟩ := h
    have e1 := SatC.length x h2
    have e2 := SatL.length r h3
    subst h1
    simp [wds, e1, e2]
end

theorem sub_get {cs : List Value} {a n j : Nat} : (sub cs a n)[j]? = if j < n then cs[a + j]? else none := by
  unfold sub
  rw [List.getElem?_take]
  split
  · rw [List.getElem?_drop]
  · rfl

theorem mem_pieces {n w : Nat} {cs : List Value} (hl : cs.length = n * w) {u : Value} (hu : u ∈ cs) : ∃ i, i < n ∧ u ∈ sub cs (i * w) w := by
  obtain ⟨j, hj, rfl⟩ := List.getElem_of_mem hu
  have hw : 0 < w := by
    rcases Nat.eq_zero_or_pos w with h | h
    · subst h; simp at hl; subst hl; simp at hj
    · exact h
  refine ⟨j / w, ?_, ?_⟩
  · rw [hl] at hj; exact Nat.div_lt_of_lt_mul (by rwa [Nat.mul_comm] at hj)
  · apply List.mem_of_getElem? (i := j % w)
    rw [sub_get, if_pos (Nat.mod_lt _ hw)]
    rw [Nat.mul_comm, Nat.div_add_mod]
    exact List.getElem?_eq_getElem hj

mutual
theorem SatC.one : ∀ (c : SV) {ε : Env} {cs : List Value}, SatC c ε cs → ∀ u ∈ cs, u.oneCell' = true
  | .arr n w f, _, cs, h => by
    simp only [SatC] at h
    intro u hu
    obtain ⟨i, hi, hm⟩ := mem_pieces h.1 hu
    exact SatC.one (f i) (h.2 i hi) u hm
  | .agg l, _, _, h => by simp only [SatC] at h; exact SatL.one l h
  | .tup _, _, _, h => by simp only [SatC] at h
  | .int .., _, _, h => by simp only [SatC] at h; subst h; simp [Value.oneCell']
  | .bool .., _, _, h => by simp only [SatC] at h; subst h; simp [Value.oneCell']
  | .str .., _, _, h => by simp only [SatC] at h; subst h; simp [Value.oneCell']
  | .lst .., _, _, h => by simp only [SatC] at h; obtain ⟨_, _, h, _⟩ := h; subst h; simp [Value.oneCell']
  | .eptr .., _, _, h => by simp only [SatC] at h; obtain ⟨_, _, _, _, _, h, _⟩ := h; subst h; simp [Value.oneCell']
  | .ref .., _, _, h => by simp only [SatC] at h; obtain ⟨_, _, _, _, h, _⟩ := h; subst h; simp [Value.oneCell']
  | .ptr .., _, _, h => by simp only [SatC] at h; obtain ⟨_, _, h⟩ := h; subst h; simp [Value.oneCell']
  | .vec .., _, _, h => by
    simp only [SatC] at h
    obtain ⟨_, e, h⟩ := h
    subst h
    rcases e with ⟨e, _⟩ | ⟨b, cap, e⟩ <;> simp [e, Value.oneCell']
  | .vptr .., _, _, h => by simp only [SatC] at h; obtain ⟨_, _, _, _, _, _, _, h⟩ := h; subst h; simp [Value.oneCell']
  | .map .., _, _, h => by simp only [SatC] at h; obtain ⟨_, h⟩ := h; subst h; simp [Value.oneCell']
  | .fn .., _, _, h => by simp only [SatC] at h; obtain ⟨_, _, h⟩ := h; subst h; simp [Value.oneCell']
  | .iface .., _, _, h => by simp only [SatC] at h; obtain ⟨_, _, h⟩ := h; subst h; simp [Value.oneCell']
  | .nils, _, _, h => by simp only [SatC] at h; subst h; simp [Value.oneCell']
  | .nili, _, _, h => by simp only [SatC] at h; subst h; simp [Value.oneCell']
  | .nilf, _, _, h => by simp only [SatC] at h; subst h; simp [Value.oneCell']
  | .nilp, _, _, h => by simp only [SatC] at h; subst h; simp [Value.oneCell']
  | .nilm, _, _, h => by simp only [SatC] at h; subst h; simp [Value.oneCell']
  | .anyb, _, _, h => by simp only [SatC] at h; obtain ⟨_, h⟩ := h; subst h; simp [Value.oneCell']
  | .raw .., _, _, h => by simp only [SatC] at h; obtain ⟨e, h⟩ := h; subst h; simpa using e
  | .junk, _, _, h => by simp only [SatC] at h; obtain ⟨_, e, h⟩ := h; subst h; simpa using e
theorem SatL.one : ∀ (l : List SV) {ε : Env} {cs : List Value}, SatL l ε cs → ∀ u ∈ cs, u.oneCell' = true
  | [], _, _, h => by simp only [SatL] at h; subst h; simp
  | x :: r, _, _, h => by
    simp only [SatL] at h
    obtain ⟨a, b, h1, h2, h3⟩ := h
    subst h1
    intro u hu
    rcases List.mem_append.1 hu with hu | hu
    · exact SatC.one x h2 u hu
    · exact SatL.one r h3 u hu
end

def updS (f : Nat → SV) (i : Nat) (x : SV) : Nat → SV := fun j => if j = i then x else f j

def getP : SV → List Step → SV
  | c, [] => c
  | .agg l, .fld k :: p => getP (l.getD k .junk) p
  | .arr _ _ f, .idx i _ :: p => getP (f i) p
  | _, _ :: _ => .junk

def setP : SV → List Step → SV → SV
  | _, [], x => x
  | .agg l, .fld k :: p, x => .agg (l.set k (setP (l.getD k .junk) p x))
  | .arr n w f, .idx i _ :: p, x => .arr n w (updS f i (setP (f i) p x))
  | c, _ :: _, _ => c

/-- 'o' is the place of the path 'p' in 'c', counted from 'acc' on. -/
def atP : SV → List Step → Nat → Nat → Prop
  | _, [], acc, o => o = acc
  | .agg l, .fld k :: p, acc, o => k < l.length ∧ atP (l.getD k .junk) p (acc + wds (l.take k)) o
  | .arr n w f, .idx i n' :: p, acc, o => n' = n ∧ atP (f i) p (acc + i * w) o
  | _, _ :: _, _, _ => False

theorem SatL.nth : ∀ (l : List SV) (k : Nat) {ε : Env} {cs : List Value}, SatL l ε cs → k < l.length →
    SatC (l.getD k .junk) ε (sub cs (wds (l.take k)) (wd (l.getD k .junk))) ∧ wds (l.take k) + wd (l.getD k .junk) ≤ cs.length
  | [], k, _, _, _, hk => absurd hk (Nat.not_lt_zero _)
  | x :: r, 0, ε, cs, h, _ => by
    simp only [SatL] at h
    obtain ⟨a, b, h1, h2, h3⟩ := h
    have e1 := SatC.length x h2
    subst h1
    simp only [List.take_zero, wds, List.getD_cons_zero, sub, List.drop_zero, ← e1, List.take_left]
    exact ⟨h2, by simp⟩
  | x :: r, k + 1, ε, cs, h, hk => by
    simp only [SatL] at h
    obtain ⟨a, b, h1, h2, h3⟩ := h
    have e1 := SatC.length x h2
    obtain ⟨i1, i2⟩ := SatL.nth r k h3 (by simpa using hk)
    subst h1
    simp only [List.take_succ_cons, wds, List.getD_cons_succ]
    refine ⟨?_, by rw [List.length_append]; omega⟩
    unfold sub at i1 ⊢
    rw [← e1, List.drop_append, List.drop_of_length_le (by omega)]
    simpa using i1

theorem sub_sub {cs : List Value} {a n b m : Nat} (h : b + m ≤ n) : sub (sub cs a n) b m = sub cs (a + b) m := by
  simp only [sub, List.drop_take, List.drop_drop, List.take_take]
  rw [Nat.min_eq_left (by omega)]

theorem SatC.get : ∀ (p : List Step) (c : SV) {ε : Env} {cs : List Value} (acc o : Nat), SatC c ε cs → pathOk p → atP c p acc o →
    acc ≤ o ∧ SatC (getP c p) ε (sub cs (o - acc) (wd (getP c p))) ∧ (o - acc) + wd (getP c p) ≤ cs.length
  | [], c, ε, cs, acc, o, h, _, ho => by
    have e := SatC.length c h
    simp only [atP] at ho; subst ho
    cases c <;> simp only [getP] <;> refine ⟨Nat.le_refl _, ?_, ?_⟩ <;> first
      | (simp only [Nat.sub_self, sub, List.drop_zero, ← e, List.take_length]; exact h)
      | (rw [← e]; omega)
  | .fld k :: p, .agg l, ε, cs, acc, o, h, hp, ho => by
    simp only [atP] at ho
    obtain ⟨hk, ho⟩ := ho
    simp only [SatC] at h
    obtain ⟨h1, h2⟩ := SatL.nth l k h hk
    simp only [pathOk] at hp
    obtain ⟨i1, i2, i3⟩ := SatC.get p (l.getD k .junk) _ o h1 hp ho
    have hlen := SatC.length _ h1
    simp only [getP]
    rw [hlen] at i3
    rw [sub_sub i3] at i2
    refine ⟨by omega, ?_, by omega⟩
    have : wds (l.take k) + (o - (acc + wds (l.take k))) = o - acc := by omega
    rw [this] at i2
    exact i2
  | .idx i n' :: p, .arr n w f, ε, cs, acc, o, h, hp, ho => by
    simp only [atP] at ho
    obtain ⟨hn, ho⟩ := ho
    subst hn
    simp only [SatC] at h
    simp only [pathOk] at hp
    obtain ⟨hl, hf⟩ := h
    have hw := mul_le_len (w := w) hp.1
    obtain ⟨i1, i2, i3⟩ := SatC.get p (f i) _ o (hf i hp.1) hp.2 ho
    have hs : (sub cs (i * w) w).length = w := sub_length (by omega)
    rw [hs] at i3
    rw [sub_sub i3] at i2
    simp only [getP]
    refine ⟨by omega, ?_, by omega⟩
    have : i * w + (o - (acc + i * w)) = o - acc := by omega
    rw [this] at i2
    exact i2
  | .fld k :: p, .arr .., _, _, _, _, _, _, ho => by simp only [atP] at ho
  | .idx .. :: p, .agg .., _, _, _, _, _, _, ho => by simp only [atP] at ho
  | _ :: _, .int .., _, _, _, _, _, _, ho => by simp only [atP] at ho
  | _ :: _, .bool .., _, _, _, _, _, _, ho => by simp only [atP] at ho
  | _ :: _, .str .., _, _, _, _, _, _, ho => by simp only [atP] at ho
  | _ :: _, .tup .., _, _, _, _, _, _, ho => by simp only [atP] at ho
  | _ :: _, .lst .., _, _, _, _, _, _, ho => by simp only [atP] at ho
  | _ :: _, .eptr .., _, _, _, _, _, _, ho => by simp only [atP] at ho
  | _ :: _, .ref .., _, _, _, _, _, _, ho => by simp only [atP] at ho
  | _ :: _, .ptr .., _, _, _, _, _, _, ho => by simp only [atP] at ho
  | _ :: _, .vec .., _, _, _, _, _, _, ho => by simp only [atP] at ho
  | _ :: _, .vptr .., _, _, _, _, _, _, ho => by simp only [atP] at ho
  | _ :: _, .map .., _, _, _, _, _, _, ho => by simp only [atP] at ho
  | _ :: _, .fn .., _, _, _, _, _, _, ho => by simp only [atP] at ho
  | _ :: _, .iface .., _, _, _, _, _, _, ho => by simp only [atP] at ho
  | _ :: _, .nils, _, _, _, _, _, _, ho => by simp only [atP] at ho
  | _ :: _, .nili, _, _, _, _, _, _, ho => by simp only [atP] at ho
  | _ :: _, .nilf, _, _, _, _, _, _, ho => by simp only [atP] at ho
  | _ :: _, .nilp, _, _, _, _, _, _, ho => by simp only [atP] at ho
  | _ :: _, .nilm, _, _, _, _, _, _, ho => by simp only [atP] at ho
  | _ :: _, .anyb, _, _, _, _, _, _, ho => by simp only [atP] at ho
  | _ :: _, .raw .., _, _, _, _, _, _, ho => by simp only [atP] at ho
  | _ :: _, .junk, _, _, _, _, _, _, ho => by simp only [atP] at ho

theorem scalar_cells {c : SV} {ε : Env} {cs : List Value} (h : SatC c ε cs) : (boxed c.isAgg cs).cells = cs.toArray := by
  have h1 := SatC.one c h
  have h2 := SatC.length c h
  cases hc : c.isAgg with
  | true => rfl
  | false =>
    have h3 : wd c = 1 := by cases c <;> first | rfl | cases hc
    match cs, h2, h1 with
    | [v], _, h1 =>
      have := h1 v (by simp)
      simp only [boxed, Bool.false_eq_true, if_false, List.headD_cons]
      cases v <;> first | rfl | (simp [Value.oneCell'] at this)
    | [], h2, _ => rw [h3] at h2; cases h2
    | _ :: _ :: _, h2, _ => rw [h3] at h2; simp at h2

/-- 'xs' written into 'cs' from 'a' on. -/
def splice (cs : List Value) (a : Nat) (xs : List Value) : List Value := cs.take a ++ xs ++ cs.drop (a + xs.length)

theorem splice_length {cs xs : List Value} {a : Nat} (h : a + xs.length ≤ cs.length) : (splice cs a xs).length = cs.length := by
  simp [splice]; omega

theorem splice_get {cs xs : List Value} {a j : Nat} (h : a + xs.length ≤ cs.length) :
    (splice cs a xs)[j]? = if a ≤ j ∧ j < a + xs.length then xs[j - a]? else cs[j]? := by
  unfold splice
  rw [List.append_assoc, List.getElem?_append]
  have hl : (cs.take a).length = a := by simp; omega
  rw [hl]
  by_cases h1 : j < a
  · rw [if_pos h1, if_neg (by omega), List.getElem?_take, if_pos h1]
  · rw [if_neg h1, List.getElem?_append]
    by_cases h2 : j < a + xs.length
    · rw [if_pos (by omega), if_pos ⟨by omega, h2⟩]
    · rw [if_neg (by omega), if_neg (by omega), List.getElem?_drop]
      congr 1; omega

theorem sub_splice_in {cs xs : List Value} {a n b : Nat} (h1 : a ≤ b) (h2 : b + xs.length ≤ a + n) (h3 : a + n ≤ cs.length) :
    sub (splice cs b xs) a n = splice (sub cs a n) (b - a) xs := by
  apply List.ext_getElem?
  intro j
  have hl : (sub cs a n).length = n := sub_length h3
  rw [sub_get, splice_get (by omega), splice_get (by omega), sub_get]
  by_cases hj : j < n
  · rw [if_pos hj, if_pos hj]
    by_cases hc : b ≤ a + j ∧ a + j < b + xs.length
    · rw [if_pos hc, if_pos (by omega)]; congr 1; omega
    · rw [if_neg hc, if_neg (by omega)]
  · rw [if_neg hj, if_neg hj, if_neg (by omega)]

theorem sub_splice_out {cs xs : List Value} {a n b : Nat} (h : b + xs.length ≤ a ∨ a + n ≤ b) (h3 : b + xs.length ≤ cs.length) :
    sub (splice cs b xs) a n = sub cs a n := by
  apply List.ext_getElem?
  intro j
  rw [sub_get, splice_get (by omega), sub_get]
  by_cases hj : j < n
  · rw [if_pos hj, if_pos hj, if_neg (by omega)]
  · rw [if_neg hj, if_neg hj]

theorem splice_splice {cs xs : List Value} {a n b : Nat} (h1 : a + n ≤ cs.length) (h2 : b + xs.length ≤ n) :
    splice cs a (splice (sub cs a n) b xs) = splice cs (a + b) xs := by
  have hs : (sub cs a n).length = n := sub_length h1
  have hl : (splice (sub cs a n) b xs).length = n := by rw [splice_length (by omega), hs]
  apply List.ext_getElem?
  intro j
  rw [splice_get (xs := splice (sub cs a n) b xs) (by omega), splice_get (cs := cs) (xs := xs) (by omega), hl]
  by_cases hj : a ≤ j ∧ j < a + n
  · rw [if_pos hj, splice_get (by omega), sub_get]
    by_cases hj2 : b ≤ j - a ∧ j - a < b + xs.length
    · rw [if_pos hj2, if_pos (by omega)]; congr 1; omega
    · rw [if_neg hj2, if_pos (show j - a < n by omega), if_neg (show ¬ (a + b ≤ j ∧ j < a + b + xs.length) by omega)]; congr 1; omega
  · rw [if_neg hj, if_neg (by omega)]

theorem SatL.setNth : ∀ (l : List SV) (k : Nat) {ε : Env} {cs xs : List Value} {x : SV} (_ : SatL l ε cs) (_ : k < l.length)
    (_ : SatC x ε xs) (_ : xs.length = wd (l.getD k .junk)), SatL (l.set k x) ε (splice cs (wds (l.take k)) xs)
  | [], k, _, _, _, _, _, hk, _, _ => absurd hk (Nat.not_lt_zero _)
  | y :: r, 0, ε, cs, xs, x, h, _, hx, hl => by
    simp only [SatL] at h
    obtain ⟨a, b, h1, h2, h3⟩ := h
    have e1 := SatC.length y h2
    subst h1
    simp only [List.getD_cons_zero] at hl
    simp only [List.set_cons_zero, SatL, List.take_zero, wds, splice, List.nil_append, Nat.zero_add, hl, ← e1, List.drop_left]
    exact ⟨xs, b, rfl, hx, h3⟩
  | y :: r, k + 1, ε, cs, xs, x, h, hk, hx, hl => by
    simp only [SatL] at h
    obtain ⟨a, b, h1, h2, h3⟩ := h
    have e1 := SatC.length y h2
    have ih := SatL.setNth r k h3 (by simpa using hk) hx (by simpa using hl)
    subst h1
    simp only [List.set_cons_succ, SatL, List.take_succ_cons, wds]
    refine ⟨a, _, ?_, h2, ih⟩
    simp only [splice, ← e1, List.take_append, List.drop_append, List.append_assoc]
    rw [List.take_of_length_le (by omega), List.drop_of_length_le (by omega)]
    simp [Nat.add_assoc]

theorem setP_wd : ∀ (p : List Step) (c x : SV) (acc o : Nat), atP c p acc o → wd x = wd (getP c p) → wd (setP c p x) = wd c := by
  intro p
  induction p with
  | nil => intro c x acc o _ h; cases c <;> simpa [setP, getP] using h
  | cons s p ih =>
    intro c x acc o ho h
    cases c <;> cases s <;> simp only [atP] at ho
    · simp [setP, wd]
    · rename_i l k
      simp only [getP] at h
      have := ih _ _ _ _ ho.2 h
      simp only [setP, wd]
      clear ih ho h
      revert k
      induction l with
      | nil => intro k _; simp
      | cons y r ihl =>
        intro k hk
        cases k with
        | zero => simp only [List.getD_cons_zero] at hk; simp [wds, hk]
        | succ k => simp only [List.getD_cons_succ] at hk; simp only [List.getD_cons_succ, List.set_cons_succ, wds, ihl k hk]

theorem SatC.set : ∀ (p : List Step) (c : SV) {ε : Env} {cs xs : List Value} {x : SV} (acc o : Nat), SatC c ε cs → pathOk p → atP c p acc o →
    SatC x ε xs → wd x = wd (getP c p) → SatC (setP c p x) ε (splice cs (o - acc) xs)
  | [], c, ε, cs, xs, x, acc, o, h, _, ho, hx, hw => by
    have e := SatC.length c h
    have e2 := SatC.length x hx
    have hw' : wd x = wd c := by cases c <;> simpa [getP] using hw
    simp only [atP] at ho; subst ho
    have : splice cs (o - o) xs = xs := by
      simp only [Nat.sub_self, splice, List.take_zero, List.nil_append, Nat.zero_add]
      rw [List.drop_of_length_le (by omega)]; simp
    rw [this]
    cases c <;> exact hx
  | .fld k :: p, .agg l, ε, cs, xs, x, acc, o, h, hp, ho, hx, hw => by
    simp only [atP] at ho
    obtain ⟨hk, ho⟩ := ho
    simp only [SatC] at h
    simp only [pathOk] at hp
    simp only [getP] at hw
    obtain ⟨h1, h2⟩ := SatL.nth l k h hk
    obtain ⟨i1, i2, i3⟩ := SatC.get p (l.getD k .junk) _ o h1 hp ho
    have ih := SatC.set p (l.getD k .junk) _ o h1 hp ho hx hw
    have hl1 := SatC.length _ h1
    have hl2 := SatC.length _ ih
    have hx2 := SatC.length x hx
    have hwd := setP_wd p (l.getD k .junk) x _ o ho hw
    have := SatL.setNth l k h hk ih (by rw [hl2, hwd])
    simp only [setP, SatC]
    have key := splice_splice (cs := cs) (xs := xs) (a := wds (l.take k)) (n := wd (l.getD k .junk)) (b := o - (acc + wds (l.take k))) (by omega) (by omega)
    rw [show wds (l.take k) + (o - (acc + wds (l.take k))) = o - acc by omega] at key
    rw [key] at this
    exact this
  | .idx i n' :: p, .arr n w f, ε, cs, xs, x, acc, o, h, hp, ho, hx, hw => by
    simp only [atP] at ho
    obtain ⟨hn, ho⟩ := ho
    subst hn
    simp only [SatC] at h
    simp only [pathOk] at hp
    simp only [getP] at hw
    obtain ⟨hl, hf⟩ := h
    have hwl := mul_le_len (w := w) hp.1
    obtain ⟨i1, i2, i3⟩ := SatC.get p (f i) _ o (hf i hp.1) hp.2 ho
    have ih := SatC.set p (f i) _ o (hf i hp.1) hp.2 ho hx hw
    have hs : (sub cs (i * w) w).length = w := sub_length (by omega)
    have hx2 := SatC.length x hx
    rw [hs] at i3
    simp only [setP, SatC]
    refine ⟨by rw [splice_length (by omega)]; exact hl, fun j hj => ?_⟩
    unfold updS
    by_cases hji : j = i
    · subst hji
      rw [if_pos rfl, sub_splice_in (by omega) (by omega) (by omega)]
      have : o - acc - j * w = o - (acc + j * w) := by omega
      rw [this]
      exact ih
    · rw [if_neg hji, sub_splice_out ?_ (by omega)]
      · exact hf j hj
      · rcases Nat.lt_or_gt_of_ne hji with hlt | hgt
        · right
          have := mul_le_len (w := w) hlt
          omega
        · left
          have := mul_le_len (w := w) hgt
          omega
  | .fld k :: p, .arr .., _, _, _, _, _, _, _, _, ho, _, _ => by simp only [atP] at ho
  | .idx .. :: p, .agg .., _, _, _, _, _, _, _, _, ho, _, _ => by simp only [atP] at ho
  | _ :: _, .int .., _, _, _, _, _, _, _, _, ho, _, _ => by simp only [atP] at ho
  | _ :: _, .bool .., _, _, _, _, _, _, _, _, ho, _, _ => by simp only [atP] at ho
  | _ :: _, .str .., _, _, _, _, _, _, _, _, ho, _, _ => by simp only [atP] at ho
  | _ :: _, .tup .., _, _, _, _, _, _, _, _, ho, _, _ => by simp only [atP] at ho
  | _ :: _, .lst .., _, _, _, _, _, _, _, _, ho, _, _ => by simp only [atP] at ho
  | _ :: _, .eptr .., _, _, _, _, _, _, _, _, ho, _, _ => by simp only [atP] at ho
  | _ :: _, .ref .., _, _, _, _, _, _, _, _, ho, _, _ => by simp only [atP] at ho
  | _ :: _, .ptr .., _, _, _, _, _, _, _, _, ho, _, _ => by simp only [atP] at ho
  | _ :: _, .vec .., _, _, _, _, _, _, _, _, ho, _, _ => by simp only [atP] at ho
  | _ :: _, .vptr .., _, _, _, _, _, _, _, _, ho, _, _ => by simp only [atP] at ho
  | _ :: _, .map .., _, _, _, _, _, _, _, _, ho, _, _ => by simp only [atP] at ho
  | _ :: _, .fn .., _, _, _, _, _, _, _, _, ho, _, _ => by simp only [atP] at ho
  | _ :: _, .iface .., _, _, _, _, _, _, _, _, ho, _, _ => by simp only [atP] at ho
  | _ :: _, .nils, _, _, _, _, _, _, _, _, ho, _, _ => by simp only [atP] at ho
  | _ :: _, .nili, _, _, _, _, _, _, _, _, ho, _, _ => by simp only [atP] at ho
  | _ :: _, .nilf, _, _, _, _, _, _, _, _, ho, _, _ => by simp only [atP] at ho
  | _ :: _, .nilp, _, _, _, _, _, _, _, _, ho, _, _ => by simp only [atP] at ho
  | _ :: _, .nilm, _, _, _, _, _, _, _, _, ho, _, _ => by simp only [atP] at ho
  | _ :: _, .anyb, _, _, _, _, _, _, _, _, ho, _, _ => by simp only [atP] at ho
  | _ :: _, .raw .., _, _, _, _, _, _, _, _, ho, _, _ => by simp only [atP] at ho
  | _ :: _, .junk, _, _, _, _, _, _, _, _, ho, _, _ => by simp only [atP] at ho

end Go.Sx
