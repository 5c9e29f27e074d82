import Derived.Test.YtgcbhanfhnianaaDoorSx44
/-! Sx, part 46: contracts of the library, as the kit proves them, in the layer's words. -/
set_option linter.unusedVariables false
set_option linter.unusedSimpArgs false
namespace Go.Sx
open Go
variable {P : Program}
/-- A callee that hands back a value and writes nothing that was there. -/
theorem fn_below {f : FuncId} {args : List SV} {res : SV} (h : ∀ ε w vs, Good ε [] w → SatA args ε vs → Calls P f vs.toArray w fun e w' => (∃ v, e = .returned v ∧ SatV ε res v) ∧ Go.RowKit.Below w.heap.size w w') : FnOK P f args [] res [] := by
  intro ε w vs g hs
  refine (h ε w vs g hs).mono fun e w' ⟨⟨v, he, hv⟩, hb⟩ => ⟨v, ε, he, hv, ?_⟩
  exact (Inv.start g).world hb.os hb.tape hb.output hb.size (fun k hk => .inl (hb.block k hk))
/-- .. or makes a slice. -/
theorem fn_slice {f : FuncId} {args : List SV} {T : TypeId} {wd : Nat} {l : List SV} (h : ∀ ε w vs, Good ε [] w → SatA args ε vs → ∃ cs : List Value, (cs.length = l.length * wd ∧ l.length ≤ maxLen ∧ ∀ j, j < l.length → SatC (l.getD j .junk) ε (sub cs (j * wd) wd)) ∧
    Calls P f vs.toArray w fun e w' => e = .returned (.slice (some ⟨w.heap.size, 0, none⟩) l.length l.length) ∧ w' = w.alloc (.cells cs.toArray T)) : FnOK P f args [] (.vec 0 l.length) [.vec T wd l] := by
  intro ε w vs g hs
  obtain ⟨cs, ⟨hl, hm, hc⟩, k⟩ := h ε w vs g hs
  refine k.mono fun e w' ⟨he, hw⟩ => ?_
  subst hw
  have hn : ε.n = 0 := g.n
  have hvv : (ε.more 0 (.slice (some ⟨w.heap.size, 0, none⟩) l.length l.length)).vv 0 = .slice (some ⟨w.heap.size, 0, none⟩) l.length l.length := by simp [Env.more, hn]
  refine ⟨_, ε.more 0 (.slice (some ⟨w.heap.size, 0, none⟩) l.length l.length), he, ?_, ?_⟩
  · refine ⟨[.slice (some ⟨w.heap.size, 0, none⟩) l.length l.length], ?_, rfl⟩
    simp only [SatC]
    rw [hvv]
    exact ⟨by simp [Env.more, hn], .inr ⟨w.heap.size, l.length, rfl, Nat.le_refl _⟩, rfl⟩
  · refine (Inv.start g).more (World.grownBy_alloc _ _ _) ?_ ?_
    · refine ⟨cs, ?_, fun j hj => (hc j hj).mono _ (ε.le_more _ _)⟩
      show World.ownsRow _ 0 T wd ((ε.more 0 (.slice (some ⟨w.heap.size, 0, none⟩) l.length l.length)).vv 0) l.length cs
      rw [hvv]
      refine ⟨hl, .inr ⟨w.heap.size, l.length, cs.toArray, by simp, Nat.zero_le _, heap_alloc_new w _, Nat.le_refl _, hm, by simp [hl], ?_⟩⟩
      simp [← hl]
    · intro x hx
      have : ownR (ε.more 0 (.slice (some ⟨w.heap.size, 0, none⟩) l.length l.length)) 0 (.vec T wd l) = some x := hx
      simp only [ownR, hvv, Value.ownBlock] at this
      have : w.heap.size = x := by simpa using this
      omega
end Go.Sx
