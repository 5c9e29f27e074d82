import Derived.Test.YtafcmgfmmlnngaaSx13e
/-! Sx, part 13r: renaming what is owned; bringing a moved slice home. -/
set_option linter.unusedSimpArgs false
set_option linter.unusedVariables false
namespace Go.Sx
open Go

variable {P : Program}

def renI (r : Nat → Option Nat) (i : Nat) (f : Nat → SV) : SV := match r i with
  | some j => f j
  | none => .junk

mutual
def ren (r : Nat → Option Nat) : SV → SV
  | .vec j n => renI r j fun k => .vec k n
  | .pvec j n => renI r j fun k => .pvec k n
  | .vptr j a p o => renI r j fun k => .vptr k a p o
  | .ptr j p o => renI r j fun k => .ptr k p o
  | .map j => renI r j .map
  | .arr n w f => .arr n w fun k => ren r (f k)
  | .agg l => .agg (renL r l)
  | .tup l => .tup (renL r l)
  | .fn f l => .fn f (renL r l)
  | .iface t x => .iface t (ren r x)
  | c => c
def renL (r : Nat → Option Nat) : List SV → List SV
  | [] => []
  | x :: l => ren r x :: renL r l
end

def renR (r : Nat → Option Nat) : Res → Res
  | .dead => .dead
  | .blk T c => .blk T (ren r c)
  | .vec T w l => .vec T w (renL r l)
  | .mp ek ev l => .mp ek ev l

structure RenOK (r : Nat → Option Nat) (ε ε' : Env) : Prop where
  ids : ∀ i, i < ε.n → ∀ j, r i = some j → j < ε'.n ∧ ε'.blk j = ε.blk i ∧ ε'.vv j = ε.vv i
  H : ∀ b o, ε.H b = some o → ε'.H b = some o

theorem RenOK.cl {r : Nat → Option Nat} {ε ε' : Env} (h : RenOK r ε ε') : ε.cl.Le ε'.cl := ⟨Nat.le_refl _, fun _ hi => absurd hi (Nat.not_lt_zero _), fun _ hi => absurd hi (Nat.not_lt_zero _), h.H⟩

theorem renL_length (r : Nat → Option Nat) : ∀ l : List SV, (renL r l).length = l.length
  | [] => rfl
  | _ :: l => by simp [renL, renL_length r l]

theorem renL_getD (r : Nat → Option Nat) : ∀ (l : List SV) (j : Nat), (renL r l).getD j .junk = ren r (l.getD j .junk)
  | [], j => by simp [renL, ren]
  | x :: l, 0 => by simp [renL]
  | x :: l, j + 1 => by simp only [renL, List.getD_cons_succ]; exact renL_getD r l j

theorem ren_isAgg (r : Nat → Option Nat) (c : SV) : (ren r c).isAgg = c.isAgg := by
  cases c <;> simp only [ren, renI] <;> first | rfl | (split <;> rfl)

theorem junkOf {c : SV} {ε ε' : Env} {cs : List Value} (h : SatC c ε cs) (hc : wd c = 1) : SatC .junk ε' cs := by
  have h1 := SatC.length c h
  rw [hc] at h1
  match cs, h1 with
  | [v], _ => simp only [SatC]; exact ⟨v, SatC.one c h v (by simp), rfl⟩

mutual
theorem SatC.ren (r : Nat → Option Nat) : ∀ (c : SV) {ε ε' : Env} {cs : List Value}, RenOK r ε ε' → SatC c ε cs → SatC (ren r c) ε' cs
  | .int .., _, _, _, _, h => h
  | .bool .., _, _, _, _, h => h
  | .str .., _, _, _, _, h => h
  | .arr n w f, _, _, _, hl, h => by
    simp only [Sx.ren, SatC] at h ⊢
    exact ⟨h.1, fun j hj => SatC.ren r (f j) hl (h.2 j hj)⟩
  | .agg l, _, _, _, hl, h => by simp only [Sx.ren, SatC] at h ⊢; exact SatL.ren r l hl h
  | .tup _, _, _, _, _, h => by simp only [SatC] at h
  | .lst w d f l, _, _, _, hl, h => by
    simp only [Sx.ren, SatC] at h ⊢
    obtain ⟨ao, cap, h1, h2, h3, h4, h5⟩ := h
    refine ⟨ao, cap, h1, h2, h3, h4, fun i hi => ?_⟩
    obtain ⟨b, off, T, fz, cur, e1, e2, e3, e4⟩ := h5 i hi
    exact ⟨b, off, T, fz, cur, e1, hl.H _ _ e2, e3, SatC.mono (f (l.getD i d)) hl.cl e4⟩
  | .lit w d f l, _, _, _, hl, h => by
    simp only [Sx.ren, SatC] at h ⊢
    obtain ⟨ao, h1, h3, h4, h5⟩ := h
    refine ⟨ao, h1, h3, h4, fun i hi => ?_⟩
    obtain ⟨b, off, T, fz, cur, e1, e2, e3, e4⟩ := h5 i hi
    exact ⟨b, off, T, fz, cur, e1, hl.H _ _ e2, e3, SatC.mono (f (l.getD i d)) hl.cl e4⟩
  | .eptr w d f l i p o, _, _, _, hl, h => by
    simp only [Sx.ren, SatC] at h ⊢
    obtain ⟨b, off, T, fz, cur, h1, h2, h3, h4, h5, h6⟩ := h
    exact ⟨b, off, T, fz, cur, h1, h2, hl.H _ _ h3, h4, h5, SatC.mono (f (l.getD i d)) hl.cl h6⟩
  | .ref c p o, _, _, _, hl, h => by
    simp only [Sx.ren, SatC] at h ⊢
    obtain ⟨b, T, fz, cur, h1, h2, h3, h4⟩ := h
    exact ⟨b, T, fz, cur, h1, hl.H _ _ h2, h3, SatC.mono c hl.cl h4⟩
  | .ptr j p o, _, _, _, hl, h => by
    simp only [Sx.ren, renI]
    split
    · rename_i k hk
      simp only [SatC] at h ⊢
      obtain ⟨i1, i2, i3⟩ := hl.ids j h.1 k hk
      exact ⟨i1, h.2.1, by rw [i2]; exact h.2.2⟩
    · exact junkOf h rfl
  | .vec j n, _, _, _, hl, h => by
    simp only [Sx.ren, renI]
    split
    · rename_i k hk
      simp only [SatC] at h ⊢
      obtain ⟨i1, i2, i3⟩ := hl.ids j h.1 k hk
      exact ⟨i1, by rw [i3]; exact h.2⟩
    · exact junkOf h rfl
  | .pvec j n, _, _, _, hl, h => by
    simp only [Sx.ren, renI]
    split
    · rename_i k hk
      simp only [SatC] at h ⊢
      obtain ⟨i1, i2, i3⟩ := hl.ids j h.1 k hk
      exact ⟨i1, by rw [i3]; exact h.2⟩
    · exact junkOf h rfl
  | .vptr j a p o, _, _, _, hl, h => by
    simp only [Sx.ren, renI]
    split
    · rename_i k hk
      simp only [SatC] at h ⊢
      obtain ⟨i1, i2, i3⟩ := hl.ids j h.1 k hk
      exact ⟨i1, h.2.1, by rw [i3]; exact h.2.2⟩
    · exact junkOf h rfl
  | .map j, _, _, _, hl, h => by
    simp only [Sx.ren, renI]
    split
    · rename_i k hk
      simp only [SatC] at h ⊢
      obtain ⟨i1, i2, i3⟩ := hl.ids j h.1 k hk
      exact ⟨i1, by rw [i2]; exact h.2⟩
    · exact junkOf h rfl
  | .fn f cap, _, _, _, hl, h => by
    simp only [Sx.ren, SatC] at h ⊢
    obtain ⟨vs, h1, h2⟩ := h
    exact ⟨vs, SatA.ren r cap hl h1, h2⟩
  | .iface t x, _, _, _, hl, h => by
    simp only [Sx.ren, SatC, ren_isAgg] at h ⊢
    obtain ⟨xs, h1, h2⟩ := h
    exact ⟨xs, SatC.ren r x hl h1, h2⟩
  | .nils, _, _, _, _, h => h
  | .nili, _, _, _, _, h => h
  | .nilf, _, _, _, _, h => h
  | .nilp, _, _, _, _, h => h
  | .nilm, _, _, _, _, h => h
  | .anyb, _, _, _, _, h => h
  | .raw _, _, _, _, _, h => h
  | .junk, _, _, _, _, h => h
theorem SatL.ren (r : Nat → Option Nat) : ∀ (l : List SV) {ε ε' : Env} {cs : List Value}, RenOK r ε ε' → SatL l ε cs → SatL (renL r l) ε' cs
  | [], _, _, _, _, h => h
  | x :: l, _, _, _, hl, h => by
    simp only [renL, SatL] at h ⊢
    obtain ⟨a, b, h1, h2, h3⟩ := h
    exact ⟨a, b, h1, SatC.ren r x hl h2, SatL.ren r l hl h3⟩
theorem SatA.ren (r : Nat → Option Nat) : ∀ (l : List SV) {ε ε' : Env} {vs : List Value}, RenOK r ε ε' → SatA l ε vs → SatA (renL r l) ε' vs
  | [], _, _, _, _, h => h
  | x :: l, _, _, _, hl, h => by
    simp only [renL, SatA, ren_isAgg] at h ⊢
    obtain ⟨cs, t, h1, h2, h3⟩ := h
    exact ⟨cs, t, h1, SatC.ren r x hl h2, SatA.ren r l hl h3⟩
end

theorem SatV.ren {r : Nat → Option Nat} {x : SV} {ε ε' : Env} {v : Value} (hl : RenOK r ε ε') (h : SatV ε x v) : SatV ε' (Sx.ren r x) v := by
  by_cases hv : x.isVal = true
  · obtain ⟨cs, h1, h2⟩ := sat_val h hv
    have h3 := satC_sat (SatC.ren r x hl h1)
    rw [ren_isAgg] at h3
    rw [h2]; exact h3
  · cases x <;> first
      | exact absurd rfl hv
      | (obtain ⟨vs, h1, h2⟩ := h; exact ⟨vs, SatA.ren r _ hl h1, h2⟩)
      | trivial

theorem SlotsOK.ren {r : Nat → Option Nat} {ε ε' : Env} {σ : List SV} {a : Act} (hl : RenOK r ε ε') (h : SlotsOK ε σ a) : SlotsOK ε' (renL r σ) a :=
  ⟨by rw [renL_length]; exact h.1, fun k => by rw [renL_getD]; exact (h.2 k).ren hl⟩

theorem ResOK.ren {r : Nat → Option Nat} {ε ε' : Env} {w : World} {i j : Nat} {x : Res} (hl : RenOK r ε ε') (hb : ε'.blk j = ε.blk i) (hv : ε'.vv j = ε.vv i) (h : ResOK ε i w x) : ResOK ε' j w (renR r x) := by
  cases x with
  | dead => trivial
  | blk T c =>
    obtain ⟨cs, h1, h2⟩ := h
    exact ⟨cs, by rw [hb]; exact h1, SatC.ren r c hl h2⟩
  | vec T w' l =>
    obtain ⟨xs, h1, h2⟩ := h
    refine ⟨xs, by rw [renL_length, hv]; exact h1, fun k hk => ?_⟩
    rw [renL_length] at hk
    rw [renL_getD]
    exact SatC.ren r _ hl (h2 k hk)
  | mp ek ev l =>
    obtain ⟨es, cl, h1, h2⟩ := h
    exact ⟨es, cl, by rw [hb]; exact h1, h2⟩

theorem ownR_ren {r : Nat → Option Nat} {ε ε' : Env} {i j : Nat} {x : Res} (hb : ε'.blk j = ε.blk i) (hv : ε'.vv j = ε.vv i) : ownR ε' j (renR r x) = ownR ε i x := by
  cases x <;> simp [renR, ownR, hb, hv]

/-- Only these are kept, in this order. -/
def selE (ks : List Nat) (ε : Env) : Env := { n := ks.length, blk := fun j => ε.blk (ks.getD j 0), vv := fun j => ε.vv (ks.getD j 0), H := ε.H }
def selI (ks : List Nat) (i : Nat) : Option Nat := if ks.contains i then some (ks.idxOf i) else none
def selM (ks : List Nat) (m : List Res) : List Res := ks.map fun k => renR (selI ks) (memAt m k)

theorem sel_ren (ks : List Nat) (ε : Env) : RenOK (selI ks) ε (selE ks ε) := by
  refine ⟨fun i _ j hj => ?_, fun _ _ h => h⟩
  unfold selI at hj
  split at hj <;> try (cases hj; done)
  rename_i hc
  have hm : i ∈ ks := by simpa using hc
  simp only [Option.some.injEq] at hj
  subst hj
  have hlt := List.idxOf_lt_length_of_mem hm
  have : ks.getD (ks.idxOf i) 0 = i := by simp [List.getD, hlt]
  exact ⟨hlt, by simp only [selE, this], by simp only [selE, this]⟩

theorem selM_at {ks : List Nat} {m : List Res} {j : Nat} (h : j < ks.length) : memAt (selM ks m) j = renR (selI ks) (memAt m (ks.getD j 0)) := by
  simp [memAt, selM, List.getD, h]

theorem Good.sel {ε : Env} {m : List Res} {w : World} (g : Good ε m w) (ks : List Nat) (hn : ks.Nodup) : Good (selE ks ε) (selM ks m) w := by
  have hown : ∀ j, j < ks.length → ownR (selE ks ε) j (memAt (selM ks m) j) = ownR ε (ks.getD j 0) (memAt m (ks.getD j 0)) := fun j hj => by rw [selM_at hj]; exact ownR_ren rfl rfl
  have hlen : (selM ks m).length = ks.length := by simp [selM]
  have hcase : ∀ j b, ownR (selE ks ε) j (memAt (selM ks m) j) = some b → j < ks.length ∧ ownR ε (ks.getD j 0) (memAt m (ks.getD j 0)) = some b := by
    intro j b hb
    rcases Nat.lt_or_ge j ks.length with hj | hj
    · exact ⟨hj, by rw [← hown j hj]; exact hb⟩
    · rw [memAt_ge (by omega)] at hb; cases hb
  refine ⟨by simp [selE, selM], fun j => ?_, fun i j b hij h1 h2 => ?_, fun i b hb => ?_, fun b o hb => g.hv b o hb⟩
  · rcases Nat.lt_or_ge j ks.length with hj | hj
    · rw [selM_at hj]
      exact ResOK.ren (sel_ren ks ε) rfl rfl (g.res _)
    · rw [memAt_ge (by omega)]; trivial
  · obtain ⟨hi, h1'⟩ := hcase i b h1
    obtain ⟨hj, h2'⟩ := hcase j b h2
    refine g.disj _ _ b (fun e => hij ?_) h1' h2'
    have e1 : ks.getD i 0 = ks[i] := by simp [List.getD, hi]
    have e2 : ks.getD j 0 = ks[j] := by simp [List.getD, hj]
    rw [e1, e2] at e
    have hp := List.pairwise_iff_getElem.1 hn
    rcases Nat.lt_trichotomy i j with h | h | h
    · exact absurd e (hp i j hi hj h)
    · exact h
    · exact absurd e.symm (hp j i hj hi h)
  · exact g.sep _ b (hcase i b hb).2

theorem Inv.sel {β : Base} {ε : Env} {m : List Res} {w : World} (h : Inv β ε m w) (ks : List Nat) (hn : ks.Nodup) (h0 : ∀ i, i < β.ε.n → ks[i]? = some i) : Inv β (selE ks ε) (selM ks m) w := by
  have hlen : (selM ks m).length = ks.length := by simp [selM]
  refine ⟨h.good.sel ks hn, ⟨h.kept.os, h.kept.tape, h.kept.output, h.kept.size, h.kept.heap, h.kept.H, h.kept.fresh⟩, fun i b hb => ?_, ?_, fun i hi => ?_, fun i hi hv => ?_⟩
  · rcases Nat.lt_or_ge i ks.length with hi | hi
    · rw [selM_at hi, ownR_ren (ε := ε) (ε' := selE ks ε) (i := ks.getD i 0) (j := i) rfl rfl] at hb; exact h.own _ b hb
    · rw [memAt_ge (by omega)] at hb; cases hb
  · rcases Nat.eq_zero_or_pos β.ε.n with hz | hz
    · omega
    · have := h0 (β.ε.n - 1) (by omega)
      have hlt := (List.getElem?_eq_some_iff.1 this).1
      show β.ε.n ≤ ks.length
      omega
  · have := h0 i hi
    have : ks.getD i 0 = i := by simp [List.getD, this]
    show ε.blk (ks.getD i 0) = _
    rw [this]; exact h.blk i hi
  · have h1 := h0 i hi
    have hlt := (List.getElem?_eq_some_iff.1 h1).1
    have : ks.getD i 0 = i := by simp [List.getD, h1]
    rw [selM_at hlt, this] at hv
    show ε.vv (ks.getD i 0) = _
    rw [this]
    refine h.vv i hi ?_
    cases hmj : memAt m i <;> rw [hmj] at hv <;> first | rfl | exact hv


/-! ### A slice that an append has moved, brought home -/
def goneAt : List Res → List Res → Nat → Option Nat
  | x :: m, y :: m', k => match x, y with
    | .dead, _ => goneAt m m' (k + 1)
    | _, .dead => some k
    | _, _ => goneAt m m' (k + 1)
  | _, _, _ => none

theorem goneAt_ge : ∀ (m m' : List Res) (k i : Nat), goneAt m m' k = some i → k ≤ i ∧ i < k + m.length
  | [], _, _, _, h => by simp [goneAt] at h
  | _ :: _, [], _, _, h => by simp [goneAt] at h
  | x :: m, y :: m', k, i, h => by
    simp only [goneAt] at h
    have go : goneAt m m' (k + 1) = some i → k ≤ i ∧ i < k + (x :: m).length := fun h => by
      have := goneAt_ge m m' (k + 1) i h
      simp only [List.length_cons]; omega
    split at h
    · exact go h
    · simp only [Option.some.injEq] at h; subst h
      simp only [List.length_cons]; omega
    · exact go h

theorem range_set_nodup {n i : Nat} (_ : i < n) : ((List.range n).set i n).Nodup := by
  refine List.pairwise_iff_getElem.2 fun a b ha hb hab => ?_
  simp only [List.length_set, List.length_range] at ha hb
  simp only [List.getElem_set, List.getElem_range]
  split <;> split <;> omega

end Go.Sx
