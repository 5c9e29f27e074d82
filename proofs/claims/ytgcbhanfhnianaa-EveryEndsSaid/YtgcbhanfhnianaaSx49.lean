import Derived.Test.YtgcbhanfhnianaaSx48
/-! Sx, part 49: a nil slice in a block becomes one of the call's own, at a call. -/
set_option linter.unusedSimpArgs false
set_option linter.unusedVariables false
namespace Go.Sx
open Go
variable {P : Program}
theorem Inv.recont {β : Base} {ε : Env} {m : List Res} {w : World} (h : Inv β ε m w) {b : Nat} {T : TypeId} {c c' : SV} (hm : memAt m b = .blk T c) (hc : ∀ cs, SatC c ε cs → SatC c' ε cs) : Inv β ε (m.set b (.blk T c')) w := by
  have hb : b < m.length := by
    rcases Nat.lt_or_ge b m.length with h' | h'
    · exact h'
    · rw [memAt_ge h'] at hm; cases hm
  have hat : ∀ i, memAt (m.set b (.blk T c')) i = if i = b then .blk T c' else memAt m i := by
    intro i
    unfold memAt
    rw [List.getD, List.getElem?_set]
    by_cases e : b = i
    · subst e; rw [if_pos rfl, if_pos hb, if_pos rfl]; rfl
    · rw [if_neg e, if_neg (fun h => e h.symm)]; rfl
  have hown : ∀ i, ownR ε i (memAt (m.set b (.blk T c')) i) = ownR ε i (memAt m i) := by
    intro i
    rw [hat]
    split
    · rename_i e; subst e; rw [hm]; rfl
    · rfl
  refine ⟨⟨by rw [List.length_set]; exact h.good.n, fun i => ?_, fun i j x hij h1 h2 => ?_, fun i x hx => ?_, h.good.hv⟩, ⟨h.kept.os, h.kept.tape, h.kept.output, h.kept.size, h.kept.heap, h.kept.H, h.kept.fresh, h.kept.drawn⟩, fun i x hx => ?_, h.n, h.blk, fun i hi hbk => ?_⟩
  · rw [hat]
    split
    · rename_i e
      subst e
      have hr := h.good.res i
      rw [hm] at hr
      obtain ⟨cs, h1, h2⟩ := hr
      exact ⟨cs, h1, hc cs h2⟩
    · exact h.good.res i
  · rw [hown] at h1 h2; exact h.good.disj i j x hij h1 h2
  · rw [hown] at hx; exact h.good.sep i x hx
  · rw [hown] at hx; exact h.own i x hx
  · refine h.vv i hi ?_
    rw [hat] at hbk
    split at hbk
    · rename_i e; subst e; rw [hm]; rfl
    · exact hbk
theorem Inv.nilv {β : Base} {ε : Env} {m : List Res} {w : World} (h : Inv β ε m w) {b : Nat} {T E : TypeId} {wd : Nat} (hm : memAt m b = .blk T .nils) : Inv β (ε.more 0 (.slice none 0 0)) (m.set b (.blk T (.vec m.length 0)) ++ [.vec E wd []]) w := by
  have hb : b < m.length := by
    rcases Nat.lt_or_ge b m.length with h' | h'
    · exact h'
    · rw [memAt_ge h'] at hm; cases hm
  have hvv : (ε.more 0 (.slice none 0 0)).vv m.length = .slice none 0 0 := by simp [Env.more, h.good.n]
  have h2 := h.more (b := 0) (v := .slice none 0 0) (r := .vec E wd []) (World.grownBy.refl w none) (Nat.le_refl _) ⟨[], ⟨by simp, .inl ⟨hvv, rfl⟩⟩, fun j hj => absurd hj (Nat.not_lt_zero _)⟩ (by
    intro x hx
    simp only [ownR, hvv, Value.ownBlock] at hx
    cases hx)
  have hm2 : memAt (m ++ [.vec E wd []]) b = .blk T .nils := by rw [memAt_append_lt hb]; exact hm
  have h3 := h2.recont (c' := .vec m.length 0) hm2 (fun cs hcs => by
    have hcs : cs = [.slice none 0 0] := hcs
    simp only [SatC]
    refine ⟨by simp [Env.more, h.good.n], .inl ⟨hvv, trivial⟩, by rw [hvv]; exact hcs⟩)
  rw [List.set_append_left _ _ hb] at h3
  exact h3
theorem call_nilv {f : FuncId} {args : List SV} {m m' : List Res} {sv : SV} {b : Nat} {T E : TypeId} {wd : Nat} (hm : memAt m b = .blk T .nils) (h : CallStep P f args (m.set b (.blk T (.vec m.length 0)) ++ [.vec E wd []]) sv m') : CallStep P f args m sv m' := by
  intro β ε vs w hi hs
  have hle : ε.Le (ε.more 0 (.slice none 0 0)) := ε.le_more _ _
  refine (h β _ vs w (hi.nilv hm) (SatA.mono args hle hs)).mono fun e w' ⟨v, ε', he, h1, h2, h3⟩ => ⟨v, ε', he, hle.trans h1, h2, h3⟩
end Go.Sx
