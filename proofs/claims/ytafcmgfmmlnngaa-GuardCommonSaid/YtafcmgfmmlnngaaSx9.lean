import Derived.Test.YtafcmgfmmlnngaaSx8
/-! Sx, part 9: new memory; slices that grow. -/
set_option linter.unusedSimpArgs false
set_option linter.unusedVariables false
namespace Go.Sx
open Go

variable {P : Program}

mutual
/-- What is known when slice i has grown: its old values are forgotten. -/
def kill (i : Nat) : SV → SV
  | .vec j n => if j = i then .junk else .vec j n
  | .vptr j a p o => if j = i then .junk else .vptr j a p o
  | .arr n w f => .arr n w fun k => kill i (f k)
  | .agg l => .agg (killL i l)
  | .tup l => .tup (killL i l)
  | .fn f l => .fn f (killL i l)
  | .iface t x => .iface t (kill i x)
  | c => c
def killL (i : Nat) : List SV → List SV
  | [] => []
  | x :: r => kill i x :: killL i r
end

def killR (i : Nat) : Res → Res
  | .dead => .dead
  | .blk T c => .blk T (kill i c)
  | .vec T w l => .vec T w (killL i l)
  | .mp ek ev l => .mp ek ev l

structure Env.But (i : Nat) (ε ε' : Env) : Prop where
  n : ε.n ≤ ε'.n
  blk : ∀ j, j < ε.n → ε'.blk j = ε.blk j
  vv : ∀ j, j < ε.n → j ≠ i → ε'.vv j = ε.vv j
  H : ∀ b o, ε.H b = some o → ε'.H b = some o

theorem Env.But.cl {i : Nat} {ε ε' : Env} (h : ε.But i ε') : ε.cl.Le ε'.cl := ⟨Nat.le_refl _, fun _ hi => absurd hi (Nat.not_lt_zero _), fun _ hi => absurd hi (Nat.not_lt_zero _), h.H⟩

theorem killL_length (i : Nat) : ∀ l : List SV, (killL i l).length = l.length
  | [] => rfl
  | _ :: r => by simp [killL, killL_length i r]

theorem killL_getD (i : Nat) : ∀ (l : List SV) (j : Nat), (killL i l).getD j .junk = kill i (l.getD j .junk)
  | [], j => by simp [killL, kill]
  | x :: r, 0 => by simp [killL]
  | x :: r, j + 1 => by simp only [killL, List.getD_cons_succ]; exact killL_getD i r j

theorem kill_isAgg (i : Nat) (c : SV) : (kill i c).isAgg = c.isAgg := by
  cases c <;> simp only [kill] <;> first | rfl | (split <;> rfl)

mutual
theorem SatC.kill (i : Nat) : ∀ (c : SV) {ε ε' : Env} {cs : List Value}, ε.But i ε' → SatC c ε cs → SatC (kill i c) ε' cs
  | .int .., _, _, _, _, h => h
  | .bool .., _, _, _, _, h => h
  | .str .., _, _, _, _, h => h
  | .arr n w f, _, _, _, hl, h => by
    simp only [Sx.kill, SatC] at h ⊢
    exact ⟨h.1, fun j hj => SatC.kill i (f j) hl (h.2 j hj)⟩
  | .agg l, _, _, _, hl, h => by simp only [Sx.kill, SatC] at h ⊢; exact SatL.kill i l hl h
  | .tup _, _, _, _, _, h => by simp only [SatC] at h
  | .lst w d f l, _, _, _, hl, h => by
    simp only [Sx.kill, SatC] at h ⊢
    obtain ⟨ao, cap, h1, h2, h3, h4, h5⟩ := h
    refine ⟨ao, cap, h1, h2, h3, h4, fun i hi => ?_⟩
    obtain ⟨b, off, T, fz, cur, e1, e2, e3, e4⟩ := h5 i hi
    exact ⟨b, off, T, fz, cur, e1, hl.H _ _ e2, e3, SatC.mono (f (l.getD i d)) hl.cl e4⟩
  | .eptr w d f l i p o, _, _, _, hl, h => by
    simp only [Sx.kill, SatC] at h ⊢
    obtain ⟨b, off, T, fz, cur, h1, h2, h3, h4, h5, h6⟩ := h
    exact ⟨b, off, T, fz, cur, h1, h2, hl.H _ _ h3, h4, h5, SatC.mono (f (l.getD i d)) hl.cl h6⟩
  | .ref c p o, _, _, _, hl, h => by
    simp only [Sx.kill, SatC] at h ⊢
    obtain ⟨b, T, fz, cur, h1, h2, h3, h4⟩ := h
    exact ⟨b, T, fz, cur, h1, hl.H _ _ h2, h3, SatC.mono c hl.cl h4⟩
  | .ptr j p o, _, _, _, hl, h => by
    simp only [Sx.kill, SatC] at h ⊢
    exact ⟨Nat.lt_of_lt_of_le h.1 hl.n, h.2.1, by rw [hl.blk j h.1]; exact h.2.2⟩
  | .vec j n, _, _, _, hl, h => by
    simp only [Sx.kill]
    split
    · obtain ⟨u, hu⟩ : ∃ u, _ = [u] := by simp only [SatC] at h; exact ⟨_, h.2.2⟩
      simp only [SatC]
      exact ⟨u, by have := SatC.one _ h u (by rw [hu]; simp); exact this, hu⟩
    · rename_i hne
      simp only [SatC] at h ⊢
      exact ⟨Nat.lt_of_lt_of_le h.1 hl.n, by rw [hl.vv j h.1 hne]; exact h.2⟩
  | .vptr j a p o, _, _, _, hl, h => by
    simp only [Sx.kill]
    split
    · simp only [SatC] at h ⊢
      obtain ⟨_, _, b, _, _, _, _, e⟩ := h
      exact ⟨_, rfl, e⟩
    · rename_i hne
      simp only [SatC] at h ⊢
      exact ⟨Nat.lt_of_lt_of_le h.1 hl.n, h.2.1, by rw [hl.vv j h.1 hne]; exact h.2.2⟩
  | .map j, _, _, _, hl, h => by
    simp only [Sx.kill, SatC] at h ⊢
    exact ⟨Nat.lt_of_lt_of_le h.1 hl.n, by rw [hl.blk j h.1]; exact h.2⟩
  | .fn f cap, _, _, _, hl, h => by
    simp only [Sx.kill, SatC] at h ⊢
    obtain ⟨vs, h1, h2⟩ := h
    exact ⟨vs, SatA.kill i cap hl h1, h2⟩
  | .iface t x, _, _, _, hl, h => by
    simp only [Sx.kill, SatC, kill_isAgg] at h ⊢
    obtain ⟨xs, h1, h2⟩ := h
    exact ⟨xs, SatC.kill i x hl h1, h2⟩
  | .nils, _, _, _, _, h => h
  | .nili, _, _, _, _, h => h
  | .nilf, _, _, _, _, h => h
  | .nilp, _, _, _, _, h => h
  | .nilm, _, _, _, _, h => h
  | .anyb, _, _, _, _, h => h
  | .raw _, _, _, _, _, h => h
  | .junk, _, _, _, _, h => h
theorem SatL.kill (i : Nat) : ∀ (l : List SV) {ε ε' : Env} {cs : List Value}, ε.But i ε' → SatL l ε cs → SatL (killL i l) ε' cs
  | [], _, _, _, _, h => h
  | x :: r, _, _, _, hl, h => by
    simp only [killL, SatL] at h ⊢
    obtain ⟨a, b, h1, h2, h3⟩ := h
    exact ⟨a, b, h1, SatC.kill i x hl h2, SatL.kill i r hl h3⟩
theorem SatA.kill (i : Nat) : ∀ (l : List SV) {ε ε' : Env} {vs : List Value}, ε.But i ε' → SatA l ε vs → SatA (killL i l) ε' vs
  | [], _, _, _, _, h => h
  | x :: r, _, _, _, hl, h => by
    simp only [killL, SatA, kill_isAgg] at h ⊢
    obtain ⟨cs, t, h1, h2, h3⟩ := h
    exact ⟨cs, t, h1, SatC.kill i x hl h2, SatA.kill i r hl h3⟩
end

theorem SatV.kill {i : Nat} {x : SV} {ε ε' : Env} {v : Value} (hl : ε.But i ε') (h : SatV ε x v) : SatV ε' (Sx.kill i x) v := by
  by_cases hv : x.isVal = true
  · obtain ⟨cs, h1, h2⟩ := sat_val h hv
    have := SatC.kill i x hl h1
    have h3 := satC_sat this
    rw [kill_isAgg] at h3
    rw [h2]; exact h3
  · cases x <;> first
      | exact absurd rfl hv
      | (obtain ⟨vs, h1, h2⟩ := h; exact ⟨vs, SatA.kill i _ hl h1, h2⟩)
      | trivial

theorem killL_map (i : Nat) (σ : List SV) : killL i σ = σ.map (kill i) := by
  induction σ with
  | nil => rfl
  | cons x r ih => simp [killL, ih]

theorem SlotsOK.kill {i : Nat} {ε ε' : Env} {σ : List SV} {a : Act} (hl : ε.But i ε') (h : SlotsOK ε σ a) : SlotsOK ε' (killL i σ) a :=
  ⟨by rw [killL_length]; exact h.1, fun k => by rw [killL_getD]; exact (h.2 k).kill hl⟩

/-- A slice of the call's own has grown: in place, or in a new row. -/
theorem Inv.grown {β : Base} {ε : Env} {m : List Res} {w w' : World} (h : Inv β ε m w) {i : Nat} {T : TypeId} {wd' : Nat} {l l' : List SV} {v' : Value} {ys : List Value}
    (hm : memAt m i = .vec T wd' l) (hg : w.grownBy w' (ε.vv i).ownBlock) (hown : w'.ownsRow 0 T wd' v' l'.length ys)
    (hblk : v'.ownBlock = (ε.vv i).ownBlock ∨ ∀ b, v'.ownBlock = some b → w.heap.size ≤ b)
    (hel : ∀ j, j < l'.length → SatC (l'.getD j .junk) ε (sub ys (j * wd') wd')) :
    Inv β { ε with vv := fun j => if j = i then v' else ε.vv j } ((m.map (killR i)).set i (.vec T wd' (killL i l'))) w' ∧ ε.But i { ε with vv := fun j => if j = i then v' else ε.vv j } := by
  have hi : i < m.length := by
    rcases Nat.lt_or_ge i m.length with hi | hi
    · exact hi
    · rw [memAt_ge hi] at hm; cases hm
  generalize hε' : ({ ε with vv := fun j => if j = i then v' else ε.vv j } : Env) = ε'
  have hbut : ε.But i ε' := by
    subst hε'
    exact ⟨Nat.le_refl _, fun _ _ => rfl, fun j _ hne => by simp [hne], fun _ _ h => h⟩
  refine ⟨?_, hbut⟩
  have hat : ∀ j, memAt ((m.map (killR i)).set i (.vec T wd' (killL i l'))) j = if j = i then .vec T wd' (killL i l') else killR i (memAt m j) := by
    intro j
    unfold memAt
    rw [List.getD, List.getElem?_set]
    by_cases hj : i = j
    · subst hj; simp [hi]
    · rw [if_neg hj, if_neg (fun e => hj e.symm), List.getElem?_map, List.getD]
      cases m[j]? <;> rfl
  have hoi : ownR ε i (memAt m i) = (ε.vv i).ownBlock := by rw [hm]; rfl
  have hb' : ∀ j, ε'.blk j = ε.blk j := by subst hε'; intro j; rfl
  have hv1 : ε'.vv i = v' := by subst hε'; simp
  have hv2 : ∀ j, j ≠ i → ε'.vv j = ε.vv j := by subst hε'; intro j hj; simp [hj]
  have hH : ε'.H = ε.H := by subst hε'; rfl
  have hownI : ownR ε' i (.vec T wd' (killL i l')) = v'.ownBlock := by simp [ownR, hv1]
  have hownO : ∀ j, j ≠ i → ownR ε' j (killR i (memAt m j)) = ownR ε j (memAt m j) := by
    intro j hj
    cases memAt m j <;> simp [killR, ownR, hb', hv2 j hj]
  have hcase : ∀ j b, ownR ε' j (memAt ((m.map (killR i)).set i (.vec T wd' (killL i l'))) j) = some b →
      (j ≠ i ∧ ownR ε j (memAt m j) = some b) ∨ (j = i ∧ (ownR ε i (memAt m i) = some b ∨ w.heap.size ≤ b) ∧ v'.ownBlock = some b) := by
    intro j b hb
    rw [hat] at hb
    by_cases hj : j = i
    · subst hj
      rw [if_pos rfl, hownI] at hb
      refine .inr ⟨rfl, ?_, hb⟩
      rcases hblk with e | e
      · left; rw [hoi, ← e]; exact hb
      · right; exact e b hb
    · rw [if_neg hj, hownO j hj] at hb
      exact .inl ⟨hj, hb⟩
  have hkeep : ∀ b, b < w.heap.size → (ε.vv i).ownBlock ≠ some b → w'.heap[b]? = w.heap[b]? := fun b hb hne => hg.block b hb (fun e => hne e.symm)
  refine ⟨⟨by subst hε'; simp [h.good.n], fun j => ?_, fun a b x hab h1 h2 => ?_, fun a b hb => ?_, fun b o hb => ?_⟩, ⟨hg.os.trans h.kept.os, hg.tape.trans h.kept.tape, hg.output.trans h.kept.output, Nat.le_trans h.kept.size hg.size, ?_, ?_, ?_⟩, fun a b hb => ?_, by subst hε'; exact h.n, fun j hj => by rw [hb']; exact h.blk j hj, fun j hj hv => ?_⟩
  · rw [hat]
    by_cases hj : j = i
    · subst hj
      rw [if_pos rfl]
      refine ⟨ys, by rw [killL_length, hv1]; exact hown, fun k hk => ?_⟩
      rw [killL_length] at hk
      rw [killL_getD]
      exact SatC.kill j _ hbut (hel k hk)
    · rw [if_neg hj]
      have hr := h.good.res j
      have hne : ∀ b, ownR ε j (memAt m j) = some b → w'.heap[b]? = w.heap[b]? := fun b hb => hkeep b (ownR_lt h.good hb) (fun e => h.good.disj j i b hj hb (by rw [hoi]; exact e))
      cases hmj : memAt m j with
      | dead => trivial
      | blk T' c'' =>
        rw [hmj] at hr
        obtain ⟨cs'', h1, h2⟩ := hr
        exact ⟨cs'', by rw [hb', hne _ (by rw [hmj]; rfl)]; exact h1, SatC.kill i _ hbut h2⟩
      | vec T' wd l2 =>
        rw [hmj] at hr
        obtain ⟨xs, h1, h2⟩ := hr
        refine ⟨xs, ?_, fun k hk => ?_⟩
        · rw [killL_length, hv2 j hj]
          refine ⟨h1.1, ?_⟩
          rcases h1.2 with hx | ⟨gg, cap, cur, e1, e2, e3, e4⟩
          · exact .inl hx
          · exact .inr ⟨gg, cap, cur, e1, e2, by rw [hne gg (by rw [hmj]; simp [ownR, e1, Value.ownBlock])]; exact e3, e4⟩
        · rw [killL_length] at hk
          rw [killL_getD]
          exact SatC.kill i _ hbut (h2 k hk)
      | mp ek ev l2 =>
        rw [hmj] at hr
        obtain ⟨es, cl, h1, h2⟩ := hr
        exact ⟨es, cl, by rw [hb', hne _ (by rw [hmj]; rfl)]; exact h1, h2⟩
  · rcases hcase a x h1 with ⟨ha, h1'⟩ | ⟨ha, h1', _⟩ <;> rcases hcase b x h2 with ⟨hb, h2'⟩ | ⟨hb, h2', _⟩
    · exact h.good.disj a b x hab h1' h2'
    · rcases h2' with h2' | h2'
      · exact h.good.disj a i x ha h1' h2'
      · have := ownR_lt h.good h1'; omega
    · rcases h1' with h1' | h1'
      · exact h.good.disj b i x hb h2' h1'
      · have := ownR_lt h.good h2'; omega
    · omega
  · rw [hH]
    rcases hcase a b hb with ⟨_, h1⟩ | ⟨_, h1 | h1, _⟩
    · exact h.good.sep a b h1
    · exact h.good.sep i b h1
    · cases hh : ε.H b with
      | none => rfl
      | some o => have := H_lt h.good hh; omega
  · rw [hH] at hb
    rw [hkeep b (H_lt h.good hb) (fun e => by have := h.good.sep i b (by rw [hoi]; exact e); rw [this] at hb; cases hb)]
    exact h.good.hv b o hb
  · intro b hb hB
    rw [hkeep b (Nat.lt_of_lt_of_le hb h.kept.size) (fun e => by
      rcases h.own i b (by rw [hoi]; exact e) with h' | h'
      · exact hB h'
      · omega)]
    exact h.kept.heap b hb hB
  · rw [hH]; exact h.kept.H
  · rw [hH]; exact h.kept.fresh
  · rcases hcase a b hb with ⟨_, h1⟩ | ⟨_, h1 | h1, _⟩
    · exact h.own a b h1
    · exact h.own i b h1
    · right; exact Nat.le_trans h.kept.size h1
  · rw [hat] at hv
    by_cases hji : j = i
    · subst hji; rw [if_pos rfl] at hv; cases hv
    · rw [if_neg hji] at hv
      rw [hv2 j hji]
      refine h.vv j hj ?_
      cases hmj : memAt m j <;> rw [hmj] at hv <;> first | rfl | exact hv

end Go.Sx
