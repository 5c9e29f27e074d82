import Derived.Test.YtafcmgfmmlnngaaSx16
/-! Sx, part 17: a call that only reads what its caller owns. -/
set_option linter.unusedSimpArgs false
set_option linter.unusedVariables false
namespace Go.Sx
open Go

variable {P : Program}

/-- All that is owned, held fast. -/
noncomputable def frz (ε : Env) (m : List Res) (w : World) : Env :=
  { ε with H := fun b => open Classical in if ∃ i, ownR ε i (memAt m i) = some b then w.heap[b]? else ε.H b }

def deads (m : List Res) : List Res := m.map fun _ => .dead

theorem memAt_deads (m : List Res) (i : Nat) : memAt (deads m) i = .dead := by
  unfold memAt deads
  rw [List.getD, List.getElem?_map]
  cases m[i]? <;> rfl

theorem frz_own {ε : Env} {m : List Res} {w : World} {i b : Nat} (h : ownR ε i (memAt m i) = some b) : (frz ε m w).H b = w.heap[b]? := by
  unfold frz; simp only; rw [if_pos ⟨i, h⟩]

theorem frz_H {ε : Env} {m : List Res} {w : World} (g : Good ε m w) : ∀ b o, ε.H b = some o → (frz ε m w).H b = some o := by
  intro b o h
  unfold frz; simp only
  split
  · rename_i hh
    obtain ⟨i, hi⟩ := hh
    rw [g.sep i b hi] at h; cases h
  · exact h

theorem frz_le {ε : Env} {m : List Res} {w : World} (g : Good ε m w) : ε.Le (frz ε m w) := ⟨Nat.le_refl _, fun _ _ => rfl, fun _ _ => rfl, frz_H g⟩

theorem Inv.freeze {β : Base} {ε : Env} {m : List Res} {w : World} (h : Inv β ε m w) : Inv β (frz ε m w) (deads m) w := by
  have g := h.good
  refine ⟨⟨by simp [frz, deads]; exact g.n, (fun i => by rw [memAt_deads]; trivial), (fun i j b _ h1 => by rw [memAt_deads] at h1; cases h1), (fun i b h1 => by rw [memAt_deads] at h1; cases h1), fun b o hb => ?_⟩,
    ⟨h.kept.os, h.kept.tape, h.kept.output, h.kept.size, h.kept.heap, fun b o hb => frz_H g b o (h.kept.H b o hb), fun b o hb => ?_⟩, (fun i b h1 => by rw [memAt_deads] at h1; cases h1), h.n, h.blk, (fun i _ hv => by rw [memAt_deads] at hv; cases hv)⟩
  · unfold frz at hb; simp only at hb
    split at hb
    · exact hb
    · exact g.hv b o hb
  · unfold frz at hb; simp only at hb
    split at hb
    · rename_i hh
      obtain ⟨i, hi⟩ := hh
      rcases h.own i b hi with h1 | h1
      · exact .inr (.inr h1)
      · exact .inr (.inl h1)
    · exact h.kept.fresh b o hb

/-- Nothing of what is held fast is reached from here. -/
def NoH (x : SV) : Prop := ∀ ε ε' cs, ε'.n = ε.n → ε'.blk = ε.blk → ε'.vv = ε.vv → SatC x ε cs → SatC x ε' cs
def NoHV (x : SV) : Prop := ∀ ε ε' v, ε'.n = ε.n → ε'.blk = ε.blk → ε'.vv = ε.vv → SatV ε x v → SatV ε' x v
def ResNoH : Res → Prop
  | .dead => True
  | .blk _ c => NoH c
  | .vec _ _ l => ∀ j, j < l.length → NoH (l.getD j .junk)
  | .mp .. => True

theorem noH_int (k n) : NoH (.int k n) := fun _ _ _ _ _ _ h => h
theorem noH_bool (b) : NoH (.bool b) := fun _ _ _ _ _ _ h => h
theorem noH_str (b) : NoH (.str b) := fun _ _ _ _ _ _ h => h
theorem noH_vec (i n) : NoH (.vec i n) := fun ε ε' cs h1 h2 h3 h => by simp only [SatC] at h ⊢; rw [h1, h3]; exact h
theorem noH_ptr (i p o) : NoH (.ptr i p o) := fun ε ε' cs h1 h2 h3 h => by simp only [SatC] at h ⊢; rw [h1, h2]; exact h
theorem noH_nils : NoH .nils := fun _ _ _ _ _ _ h => h
theorem noH_agg {l : List SV} (h : ∀ x ∈ l, NoH x) : NoH (.agg l) := by
  intro ε ε' cs h1 h2 h3 hc
  simp only [SatC] at hc ⊢
  induction l generalizing cs with
  | nil => exact hc
  | cons x r ih =>
    simp only [SatL] at hc ⊢
    obtain ⟨a, b, e1, e2, e3⟩ := hc
    exact ⟨a, b, e1, h x (by simp) ε ε' a h1 h2 h3 e2, ih (fun y hy => h y (by simp [hy])) _ e3⟩
theorem noH_arr {n w : Nat} {f : Nat → SV} (h : ∀ i, i < n → NoH (f i)) : NoH (.arr n w f) := by
  intro ε ε' cs h1 h2 h3 hc
  simp only [SatC] at hc ⊢
  exact ⟨hc.1, fun i hi => h i hi ε ε' _ h1 h2 h3 (hc.2 i hi)⟩
theorem NoH.val {x : SV} (h : NoH x) (hv : x.isVal = true) : NoHV x := by
  intro ε ε' v h1 h2 h3 hs
  obtain ⟨cs, e1, e2⟩ := sat_val hs hv
  rw [e2]
  exact satC_sat (h ε ε' cs h1 h2 h3 e1)
theorem noHA {l : List SV} (h : ∀ x ∈ l, NoH x) {ε ε' : Env} (h1 : ε'.n = ε.n) (h2 : ε'.blk = ε.blk) (h3 : ε'.vv = ε.vv) : ∀ {vs}, SatA l ε vs → SatA l ε' vs := by
  induction l with
  | nil => intro vs hs; exact hs
  | cons x r ih =>
    intro vs hs
    simp only [SatA] at hs ⊢
    obtain ⟨cs, t, e1, e2, e3⟩ := hs
    exact ⟨cs, t, e1, h x (by simp) ε ε' cs h1 h2 h3 e2, ih (fun y hy => h y (by simp [hy])) e3⟩
theorem noHV_tup {l : List SV} (h : ∀ x ∈ l, NoH x) : NoHV (.tup l) := by
  intro ε ε' v h1 h2 h3 ⟨vs, e1, e2⟩
  exact ⟨vs, noHA h h1 h2 h3 e1, e2⟩
theorem noHV_junk : NoHV .junk := fun _ _ _ _ _ _ _ => trivial

theorem ResNoH.ok {ε ε' : Env} {w : World} {i : Nat} {x : Res} (hx : ResNoH x) (h1 : ε'.n = ε.n) (h2 : ε'.blk = ε.blk) (h3 : ε'.vv = ε.vv) (h : ResOK ε i w x) : ResOK ε' i w x := by
  cases x with
  | dead => trivial
  | blk T c =>
    obtain ⟨cs, e1, e2⟩ := h
    exact ⟨cs, by rw [h2]; exact e1, hx ε ε' cs h1 h2 h3 e2⟩
  | vec T w' l =>
    obtain ⟨xs, e1, e2⟩ := h
    exact ⟨xs, by rw [h3]; exact e1, fun j hj => hx j hj ε ε' _ h1 h2 h3 (e2 j hj)⟩
  | mp ek ev l =>
    obtain ⟨es, cl, e1, e2⟩ := h
    exact ⟨es, cl, by rw [h2]; exact e1, e2⟩

/-- And let go again. -/
noncomputable def thaw (ε : Env) (m : List Res) (ε' : Env) : Env :=
  { ε' with H := fun b => open Classical in if ∃ i, ownR ε i (memAt m i) = some b then none else ε'.H b }

theorem Inv.thaw {β : Base} {ε ε' : Env} {m new : List Res} {w w' : World} (h : Inv β ε m w) (hle : (frz ε m w).Le ε') (h' : Inv β ε' (deads m ++ new) w') (hnew : ∀ x ∈ new, ResNoH x) :
    Inv β (Sx.thaw ε m ε') (m ++ new) w' ∧ ε.Le (Sx.thaw ε m ε') := by
  have g := h.good
  have g' := h'.good
  have hn : ε.n = m.length := g.n
  have hdl : (deads m).length = m.length := by simp [deads]
  have hnew' : ∀ i, m.length ≤ i → memAt (m ++ new) i = memAt (deads m ++ new) i := by
    intro i hi
    simp only [memAt, List.getD]
    rw [List.getElem?_append_right hi, List.getElem?_append_right (by rw [hdl]; exact hi), hdl]
  have hold : ∀ i, i < m.length → memAt (m ++ new) i = memAt m i := fun i hi => memAt_append_lt hi
  have eb : ∀ i, i < m.length → (Sx.thaw ε m ε').blk i = ε.blk i := fun i hi => hle.blk i (by show i < ε.n; omega)
  have ev : ∀ i, i < m.length → (Sx.thaw ε m ε').vv i = ε.vv i := fun i hi => hle.vv i (by show i < ε.n; omega)
  have eo : ∀ i, i < m.length → ownR (Sx.thaw ε m ε') i (memAt (m ++ new) i) = ownR ε i (memAt m i) := by
    intro i hi
    rw [hold i hi]
    cases memAt m i <;> simp [ownR, eb i hi, ev i hi]
  have en : ∀ i, m.length ≤ i → ownR (Sx.thaw ε m ε') i (memAt (m ++ new) i) = ownR ε' i (memAt (deads m ++ new) i) := by
    intro i hi
    rw [hnew' i hi]; rfl
  have heapOld : ∀ i b, ownR ε i (memAt m i) = some b → w'.heap[b]? = w.heap[b]? := by
    intro i b hb
    cases hw : w.heap[b]? with
    | none =>
      have := ownR_lt g hb
      simp at hw; omega
    | some o => exact g'.hv b o (hle.H b o (by rw [frz_own hb]; exact hw))
  have hle2 : ε.Le (Sx.thaw ε m ε') := by
    refine ⟨hle.n, fun i hi => hle.blk i hi, fun i hi => hle.vv i hi, fun b o hb => ?_⟩
    unfold Sx.thaw; simp only
    split
    · rename_i hh
      obtain ⟨i, hi⟩ := hh
      rw [g.sep i b hi] at hb; cases hb
    · exact hle.H b o (frz_H g b o hb)
  refine ⟨⟨⟨?_, fun i => ?_, fun i j b hij h1 h2 => ?_, fun i b hb => ?_, fun b o hb => ?_⟩, ⟨h'.kept.os, h'.kept.tape, h'.kept.output, h'.kept.size, h'.kept.heap, fun b o hb => hle2.H b o (h.kept.H b o hb), fun b o hb => ?_⟩, fun i b hb => ?_, ?_, fun i hi => ?_, fun i hi hv => ?_⟩, hle2⟩
  · have := g'.n
    simp only [List.length_append, hdl] at this ⊢
    exact this
  · rcases Nat.lt_or_ge i m.length with hi | hi
    · rw [hold i hi]
      have hr := g.res i
      cases hm : memAt m i with
      | dead => trivial
      | blk T c =>
        rw [hm] at hr
        obtain ⟨cs, e1, e2⟩ := hr
        exact ⟨cs, by rw [eb i hi, heapOld i _ (by rw [hm]; rfl)]; exact e1, SatC.mono c hle2 e2⟩
      | vec T wd l =>
        rw [hm] at hr
        obtain ⟨xs, ⟨e0, e1⟩, e2⟩ := hr
        refine ⟨xs, ⟨e0, ?_⟩, fun j hj => SatC.mono _ hle2 (e2 j hj)⟩
        rw [ev i hi]
        rcases e1 with e1 | ⟨b, cap, cur, k1, k2, k3, k4, k5, k6, k7⟩
        · exact .inl e1
        · exact .inr ⟨b, cap, cur, k1, k2, by rw [heapOld i b (by rw [hm]; simp [ownR, k1, Value.ownBlock])]; exact k3, k4, k5, k6, k7⟩
      | mp ek ev l =>
        rw [hm] at hr
        obtain ⟨es, cl, e1, e2⟩ := hr
        exact ⟨es, cl, by rw [eb i hi, heapOld i _ (by rw [hm]; rfl)]; exact e1, e2⟩
    · rw [hnew' i hi]
      have hx : ResNoH (memAt (deads m ++ new) i) := by
        simp only [memAt, List.getD]
        rw [List.getElem?_append_right (by rw [hdl]; exact hi), hdl]
        cases hh : new[i - m.length]? with
        | none => trivial
        | some x => exact hnew x (List.mem_of_getElem? hh)
      exact ResNoH.ok (ε := ε') hx rfl rfl rfl (g'.res i)
  · have key : ∀ i j, i < m.length → m.length ≤ j → ownR ε i (memAt m i) = some b → ownR ε' j (memAt (deads m ++ new) j) = some b → False := by
      intro i j _ _ h1 h2
      have e1 := g'.sep j b h2
      have hb := ownR_lt g h1
      have e2 : (frz ε m w).H b = some w.heap[b] := by rw [frz_own h1]; simp [hb]
      rw [hle.H b _ e2] at e1; cases e1
    rcases Nat.lt_or_ge i m.length with hi | hi <;> rcases Nat.lt_or_ge j m.length with hj | hj
    · rw [eo i hi] at h1; rw [eo j hj] at h2; exact g.disj i j b hij h1 h2
    · rw [eo i hi] at h1; rw [en j hj] at h2; exact key i j hi hj h1 h2
    · rw [en i hi] at h1; rw [eo j hj] at h2; exact key j i hj hi h2 h1
    · rw [en i hi] at h1; rw [en j hj] at h2; exact g'.disj i j b hij h1 h2
  · unfold Sx.thaw; simp only
    split
    · rfl
    · rcases Nat.lt_or_ge i m.length with hi | hi
      · rename_i hh
        rw [eo i hi] at hb
        exact absurd ⟨i, hb⟩ hh
      · rw [en i hi] at hb; exact g'.sep i b hb
  · unfold Sx.thaw at hb; simp only at hb
    split at hb
    · cases hb
    · exact g'.hv b o hb
  · unfold Sx.thaw at hb; simp only at hb
    split at hb
    · cases hb
    · exact h'.kept.fresh b o hb
  · rcases Nat.lt_or_ge i m.length with hi | hi
    · rw [eo i hi] at hb; exact h.own i b hb
    · rw [en i hi] at hb; exact h'.own i b hb
  · exact h'.n
  · exact h'.blk i hi
  · have him : i < m.length := by have := h.n; omega
    rw [hold i him] at hv
    rw [ev i him]; exact h.vv i hi hv

/-- How a callee that only reads may see a thing. -/
inductive Ro (m : List Res) : SV → SV → Prop
  | base (x : SV) : Ro m x (ren (fun _ => Option.none) x)
  | agg {l l' : List SV} : l.length = l'.length → (∀ j, j < l.length → Ro m (l.getD j .junk) (l'.getD j .junk)) → Ro m (.agg l) (.agg l')
  | arr {n w : Nat} {f g : Nat → SV} : (∀ i, i < n → Ro m (f i) (g i)) → Ro m (.arr n w f) (.arr n w g)
  | vec {i n w : Nat} {T : TypeId} {l : List SV} {τ : Type} {d : τ} {f : τ → SV} {l0 : List τ} : memAt m i = .vec T w l → l0.length = l.length → (∀ j, j < l.length → Ro m (l.getD j .junk) (f (l0.getD j d))) → Ro m (.vec i n) (.lst w d f l0)
  | ptr {i : Nat} {p : List Step} {o : Nat} {T : TypeId} {c c' : SV} : memAt m i = .blk T c → Ro m c c' → Ro m (.ptr i p o) (.ref c' p o)

theorem Ro.isAgg {m : List Res} {x y : SV} (h : Ro m x y) : y.isAgg = x.isAgg := by
  cases h with
  | base => exact ren_isAgg _ _
  | agg => rfl
  | arr => rfl
  | vec => rfl
  | ptr => rfl

theorem frz_none {ε : Env} {m : List Res} {w : World} (g : Good ε m w) : RenOK (fun _ => none) ε (frz ε m w).cl := ⟨(fun _ _ _ h => by cases h), frz_H g⟩

theorem satL_get : ∀ {l : List SV} {ε : Env} {cs : List Value}, SatL l ε cs ↔ ∃ css : List (List Value), cs = css.flatten ∧ css.length = l.length ∧ ∀ j, j < l.length → SatC (l.getD j .junk) ε (css.getD j [])
  | [], ε, cs => by
    simp only [SatL]
    constructor
    · rintro rfl; exact ⟨[], rfl, rfl, fun j hj => absurd hj (Nat.not_lt_zero _)⟩
    · rintro ⟨css, h1, h2, _⟩
      cases css with
      | nil => exact h1
      | cons => cases h2
  | x :: l, ε, cs => by
    simp only [SatL]
    constructor
    · rintro ⟨a, b, rfl, h1, h2⟩
      obtain ⟨css, rfl, h3, h4⟩ := satL_get.1 h2
      refine ⟨a :: css, rfl, by simp [h3], fun j hj => ?_⟩
      cases j with
      | zero => exact h1
      | succ j => simpa using h4 j (by simpa using hj)
    · rintro ⟨css, rfl, h2, h3⟩
      cases css with
      | nil => cases h2
      | cons a css =>
        refine ⟨a, css.flatten, rfl, h3 0 (by simp), satL_get.2 ⟨css, rfl, by simpa using h2, fun j hj => ?_⟩⟩
        have := h3 (j + 1) (by simpa using hj)
        simpa using this

theorem Ro.sat {ε : Env} {m : List Res} {w : World} (g : Good ε m w) {x y : SV} (h : Ro m x y) : ∀ {cs : List Value}, SatC x ε cs → SatC y (frz ε m w).cl cs := by
  induction h with
  | base x => intro cs hc; exact SatC.ren _ x (frz_none g) hc
  | agg hl _ ih =>
    intro cs hc
    simp only [SatC] at hc ⊢
    obtain ⟨css, e1, e2, e3⟩ := satL_get.1 hc
    exact satL_get.2 ⟨css, e1, by omega, fun j hj => ih j (by omega) (e3 j (by omega))⟩
  | arr _ ih =>
    intro cs hc
    simp only [SatC] at hc ⊢
    exact ⟨hc.1, fun i hi => ih i hi (hc.2 i hi)⟩
  | @vec i n wd T l τ d f l0 hm hl _ ih =>
    intro cs hc
    simp only [SatC] at hc ⊢
    obtain ⟨h1, _, h3⟩ := hc
    have hr := g.res i
    rw [hm] at hr
    obtain ⟨xs, ⟨e0, e1⟩, e2⟩ := hr
    rcases e1 with ⟨k1, k2⟩ | ⟨b, cap, cur, k1, k2, k3, k4, k5, k6, k7⟩
    · refine ⟨none, 0, by rw [h3, k1]; simp [hl, k2], by omega, Nat.zero_le _, fun _ => rfl, fun j hj => by omega⟩
    · refine ⟨some ⟨b, 0, none⟩, cap, by rw [h3, k1, hl], by omega, k5, (fun h => by cases h), fun j hj => ?_⟩
      have hj' : j < l.length := by omega
      have hjl : j * wd + wd ≤ l.length * wd := by
        have := Nat.mul_le_mul_right wd (show j + 1 ≤ l.length from hj')
        rw [Nat.succ_mul] at this; exact this
      have hcap : l.length * wd ≤ cap * wd := Nat.mul_le_mul_right _ k4
      refine ⟨b, 0, T, (0, 0), cur, rfl, ?_, by omega, ?_⟩
      · show (frz ε m w).H b = _
        rw [frz_own (i := i) (by rw [hm]; simp [ownR, k1, Value.ownBlock])]; exact k3
      · have := ih j hj' (e2 j hj')
        have hs : sub cur.toList (0 + j * wd) wd = sub xs (j * wd) wd := by
          rw [← k7]
          simp only [sub, Nat.zero_add]
          rw [List.drop_take, List.take_take]
          congr 1
          omega
        rw [hs]; exact this
  | @ptr i p o T c c' hm _ ih =>
    intro cs hc
    simp only [SatC] at hc ⊢
    obtain ⟨h1, h2, h3⟩ := hc
    have hr := g.res i
    rw [hm] at hr
    obtain ⟨cs', e1, e2⟩ := hr
    refine ⟨ε.blk i, T, (0, 0), cs'.toArray, h3, ?_, h2, ih e2⟩
    show (frz ε m w).H _ = _
    rw [frz_own (i := i) (by rw [hm]; rfl)]; exact e1

/-- The arguments, one for one. -/
def RoA (m : List Res) : List SV → List SV → Prop
  | [], [] => True
  | x :: l, y :: l' => Ro m x y ∧ RoA m l l'
  | _, _ => False

theorem RoA.sat {ε : Env} {m : List Res} {w : World} (g : Good ε m w) : ∀ {l l' : List SV}, RoA m l l' → ∀ {vs : List Value}, SatA l ε vs → SatA l' (frz ε m w).cl vs
  | [], [], _, vs, hs => hs
  | x :: l, y :: l', h, vs, hs => by
    simp only [SatA] at hs ⊢
    obtain ⟨cs, t, e1, e2, e3⟩ := hs
    exact ⟨cs, t, by rw [h.1.isAgg]; exact e1, h.1.sat g e2, RoA.sat g h.2 e3⟩
  | [], _ :: _, h, _, _ => h.elim
  | _ :: _, [], h, _, _ => h.elim

theorem ren_fresh (n : Nat) : backI [] n = fun j => some (n + j) := by funext j; simp [backI]

/-- **A call that only reads what its caller owns**; what it makes is the caller's. -/
theorem call_ro {f : FuncId} {args args0 : List SV} {m m1 : List Res} {res : SV} (h : FnOK P f args0 [] res m1) (ha : RoA m args args0)
    (hres : NoHV (ren (backI [] m.length) res)) (hm1 : ∀ x ∈ m1, ResNoH (renR (backI [] m.length) x)) :
    CallStep P f args m (ren (backI [] m.length) res) (m ++ m1.map (renR (backI [] m.length))) := by
  intro β ε vs w hi hs
  have hs' : SatA args0 (selE [] (frz ε m w)) vs := SatA.mono args0 (ε := (frz ε m w).cl) ⟨Nat.le_refl _, fun _ h => absurd h (Nat.not_lt_zero _), fun _ h => absurd h (Nat.not_lt_zero _), fun _ _ h => h⟩ (ha.sat hi.good hs)
  have hdl : (deads m).length = m.length := by simp [deads]
  refine (call_core (m := deads m) h [] List.nodup_nil (fun i h => by cases h) rfl (Nat.zero_le _) (fun j hj => absurd hj (Nat.not_lt_zero _)) hi.freeze hs').mono fun e w' ⟨v, ε', he, hle, hv, hi'⟩ => ?_
  have hmm : mergeM [] (deads m) m1 = deads m ++ m1.map (renR (backI [] m.length)) := by simp [mergeM, hdl]
  rw [hmm] at hi'
  rw [hdl] at hv
  obtain ⟨k1, k2⟩ := Inv.thaw hi hle hi' (by
    intro x hx
    obtain ⟨y, hy, rfl⟩ := List.mem_map.1 hx
    exact hm1 y hy)
  exact ⟨v, _, he, k2, hres ε' _ v rfl rfl rfl hv, k1⟩

end Go.Sx
