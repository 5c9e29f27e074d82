import Derived.Test.YtgcbhanfhnianaaSx37
import Derived.Sort.Grow
import Derived.Deep.RegionLaw
import Derived.Lib.SliceRun
/-! Sx, part 38: a row of the call's own that a callee turns in place. -/
set_option linter.unusedVariables false
set_option linter.unusedSimpArgs false
namespace Go.Sx
open Go Go.Sort
variable {P : Program}
theorem Inv.turn {β : Base} {ε : Env} {m : List Res} {w w' : World} (h : Inv β ε m w) {i : Nat} {T : TypeId} {wd' : Nat} {l l' : List SV} {g cap : Nat} {cur cs' : List Value}
    (hm : memAt m i = .vec T wd' l) (hv : ε.vv i = .slice (some ⟨g, 0, none⟩) l.length cap) (hcur : w.heap[g]? = some (.cells cur.toArray T (0, 0))) (hle : l.length ≤ cap) (hcap : cap ≤ maxLen)
    (hcl : cur.length = cap * wd') (hlen : l'.length = l.length) (hcl' : cs'.length = cur.length)
    (hel : ∀ j, j < l'.length → SatC (l'.getD j .junk) ε (sub cs' (j * wd') wd'))
    (hg : w.grownBy w' (some g)) (hd : w.drawn ≤ w'.drawn) (hn : w'.heap[g]? = some (.cells cs'.toArray T (0, 0))) :
    Inv β ε (m.set i (.vec T wd' l')) w' := by
  have k := h.setVec hm hv hcur hle hcap hcl hlen hcl' hel
  have hsz : (w.setRow g cs'.toArray).heap.size = w.heap.size := by simp [World.setRow]
  refine k.world hg.os hg.tape hg.output (by rw [hsz]; exact hg.size) hd fun b hb => .inl ?_
  rw [hsz] at hb
  by_cases e : b = g
  · subst e
    rw [hn, setRow_heap w _ _ _ T _ hcur]
  · rw [setRow_other w _ b _ e]
    exact hg.block b hb (fun he => e (Option.some.inj he))
theorem Inv.take {β : Base} {ε : Env} {m : List Res} {w w' : World} (h : Inv β ε m w) {i : Nat} {T : TypeId} {wd' : Nat} {l l' : List SV} {g cap : Nat} {cs' : List Value}
    (hm : memAt m i = .vec T wd' l) (hv : ε.vv i = .slice (some ⟨g, 0, none⟩) l.length cap) (hcap : cap ≤ maxLen)
    (hl' : l'.length ≤ cap) (hcl' : cs'.length = cap * wd')
    (hel : ∀ j, j < l'.length → SatC (l'.getD j .junk) ε (sub cs' (j * wd') wd'))
    (hg : w.grownBy w' (some g)) (hd : w.drawn ≤ w'.drawn) (hn : w'.heap[g]? = some (.cells cs'.toArray T (0, 0))) :
    Inv β (ε.more 0 (.slice (some ⟨g, 0, none⟩) l'.length cap)) (m.set i .dead ++ [.vec T wd' l']) w' := by
  have hoi : ownR ε i (memAt m i) = some g := by rw [hm]; simp [ownR, hv, Value.ownBlock]
  have k := h.drop (i := i) (by rw [hm]; rfl)
  have hlen : (m.set i Res.dead).length = m.length := by simp
  have hi : i < m.length := by
    rcases Nat.lt_or_ge i m.length with hi | hi
    · exact hi
    · rw [memAt_ge hi] at hm; cases hm
  have hat : ∀ j, memAt (m.set i .dead) j = if j = i then .dead else memAt m j := by
    intro j
    unfold memAt
    rw [List.getD, List.getElem?_set]
    by_cases hj : i = j
    · subst hj; simp [hi]
    · rw [if_neg hj, if_neg (fun e => hj e.symm)]; rfl
  have hvv : (ε.more 0 (.slice (some ⟨g, 0, none⟩) l'.length cap)).vv (m.set i Res.dead).length = .slice (some ⟨g, 0, none⟩) l'.length cap := by
    simp [Env.more, h.good.n, hlen]
  refine k.more2 hg hd (fun x hx => ?_) ?_ (fun x hx => ?_)
  · obtain rfl := Option.some.inj hx
    refine ⟨fun j e => ?_, h.good.sep i _ hoi, ownR_lt h.good hoi, h.own i _ hoi⟩
    rw [hat] at e
    by_cases hj : j = i
    · rw [if_pos hj] at e; cases e
    · rw [if_neg hj] at e; exact h.good.disj j i _ hj e hoi
  · have hmul : l'.length * wd' ≤ cap * wd' := Nat.mul_le_mul_right _ hl'
    refine ⟨sub cs' 0 (l'.length * wd'), ⟨by rw [sub_length]; omega, .inr ⟨g, cap, cs'.toArray, hvv, Nat.zero_le _, hn, hl', hcap, by simp; omega, by simp [sub]⟩⟩, fun k hk => ?_⟩
    rw [sub_sub (mul_le_len hk), Nat.zero_add]
    exact (hel k hk).mono _ (ε.le_more _ _)
  · right
    simp only [ownR, hvv, Value.ownBlock] at hx
    exact hx
theorem vec_arg {ε : Env} {m : List Res} {w : World} (g : Good ε m w) {i n : Nat} {T : TypeId} {wd : Nat} {l : List SV} (hm : memAt m i = .vec T wd l) (hs : SatC (.vec i n) ε [ε.vv i]) (hn : n = l.length) :
    (ε.vv i = .slice none 0 0 ∧ l = []) ∨ ∃ b cap cur, ε.vv i = .slice (some ⟨b, 0, none⟩) l.length cap ∧ w.heap[b]? = some (.cells cur.toArray T (0, 0)) ∧ l.length ≤ cap ∧ cap ≤ maxLen ∧ cur.length = cap * wd ∧
      b < w.heap.size ∧ ∀ j, j < l.length → SatC (l.getD j .junk) ε (sub cur (j * wd) wd) := by
  have hr := g.res i
  rw [hm] at hr
  obtain ⟨xs, ho, hx⟩ := hr
  obtain ⟨h1, h2 | ⟨b, cap, cur, e1, e2, e3, e4, e5, e6, e7⟩⟩ := ho
  · exact .inl ⟨h2.1, List.length_eq_zero_iff.1 h2.2⟩
  · refine .inr ⟨b, cap, cur.toList, e1, by simpa using e3, e4, e5, by simpa using e6, (Array.getElem?_eq_some_iff.1 e3).1, fun j hj => ?_⟩
    have := hx j hj
    rw [← e7] at this
    have hs' : sub (List.take (l.length * wd) cur.toList) (j * wd) wd = sub cur.toList (j * wd) wd := by
      have hlt : j * wd + wd ≤ l.length * wd := by
        have := Nat.mul_le_mul_right wd hj
        rw [Nat.succ_mul] at this
        exact this
      unfold sub
      rw [List.drop_take, List.take_take]
      congr 1
      omega
    rwa [hs'] at this
theorem satA_vec {ε : Env} {i n : Nat} {r : List SV} {vs : List Value} (h : SatA (.vec i n :: r) ε vs) : ∃ t, vs = ε.vv i :: t ∧ SatC (.vec i n) ε [ε.vv i] ∧ SatA r ε t := by
  simp only [SatA] at h
  obtain ⟨cs, t, h1, h2, h3⟩ := h
  have hc : cs = [ε.vv i] := by
    simp only [SatC] at h2
    exact h2.2.2
  subst hc
  exact ⟨t, h1, h2, h3⟩
theorem put_world {α : Type} [Inhabited α] (enc : α → Value) (w : World) (n b : Nat) (d : Array α) (os : Array Obj) {cur : List Value} {T : TypeId} (hb : b < w.heap.size) (hc : w.heap[b]? = some (.cells cur.toArray T (0, 0))) :
    (w.grownBy (grow (putRow enc (Sort.ahead w n) b 0 d) os) (some b) ∧ w.drawn ≤ (grow (putRow enc (Sort.ahead w n) b 0 d) os).drawn) ∧ (grow (putRow enc (Sort.ahead w n) b 0 d) os).heap[b]? = some (.cells (putCells enc 0 d cur.toArray) T (0, 0)) := by
  have hsz : (putRow enc (Sort.ahead w n) b 0 d).heap.size = w.heap.size := by simp [putRow, mapBlock, Sort.ahead]
  have hat : ∀ k, k < w.heap.size → (grow (putRow enc (Sort.ahead w n) b 0 d) os).heap[k]? = (putRow enc (Sort.ahead w n) b 0 d).heap[k]? := by
    intro k hk
    simp only [grow]
    rw [Array.getElem?_append_left (by rw [hsz]; exact hk)]
  refine ⟨⟨⟨rfl, rfl, rfl, by simp [grow, hsz], fun k hk hne => ?_⟩, Nat.le_add_right _ _⟩, ?_⟩
  · rw [hat k hk]
    simp only [putRow, mapBlock, Sort.ahead, Array.getElem?_modify]
    rw [if_neg (fun e => hne (by rw [e]))]
  · rw [hat b hb]
    simp only [putRow, mapBlock, Sort.ahead, Array.getElem?_modify, if_true, hc, Option.map_some, onCells]
end Go.Sx
/-! Sx, part 39: callees that turn a slice of ints of the call's own where it lies, or cut it: their form. -/
set_option linter.unusedVariables false
set_option linter.unusedSimpArgs false
namespace Go.Sx
open Go Go.Sort
variable {P : Program}
namespace W
end W
end Go.Sx
/-! Sx, part 40: slices.Delete at elements of many cells: the form of its callers. -/
set_option linter.unusedVariables false
set_option linter.unusedSimpArgs false
namespace Go.Sx
open Go Go.Sort
variable {P : Program}
universe u v
namespace W
end W
theorem FnOK.hold {f : FuncId} {args : List SV} {m1 : List Res} {x : SV} {α : Type} (d : DT α) (h : FnOK P f args [] x m1) (hp : d.decP m1 x) (hx : x.isVal = true) : FnOK P f args [] (d.emb (d.decV m1 x)) [] := by
  intro ε w vs g hs
  refine (h ε w vs g hs).mono fun e w' ⟨v, ε', he, hv, hi⟩ => ?_
  have k := hi.freeze
  have k2 := k.sel [] List.nodup_nil (fun i hi' => by rw [show (⟨w, ε, fun b => ∃ i, ownR ε i (memAt [] i) = some b⟩ : Base).ε.n = 0 from g.n] at hi'; exact absurd hi' (Nat.not_lt_zero _))
  refine ⟨v, _, he, ?_, k2⟩
  have hv' : ∃ cs, SatC x ε' cs ∧ v = boxed x.isAgg cs := by
    cases x <;> first | exact hv | cases hx
  obtain ⟨cs, h1, h2⟩ := hv'
  have h3 := d.ok hi.good hp h1
  have h4 : SatC (d.emb (d.decV m1 x)) (selE [] (frz ε' m1 w')) cs := SatC.mono _ (ε := (frz ε' m1 w').cl) ⟨Nat.le_refl _, fun _ h => absurd h (Nat.not_lt_zero _), fun _ h => absurd h (Nat.not_lt_zero _), fun _ _ h => h⟩ h3
  have h5 := d.agg hp
  have h6 := d.val (d.decV m1 x)
  generalize d.emb (d.decV m1 x) = y at h4 h5 h6 ⊢
  have : ∃ cs, SatC y (selE [] (frz ε' m1 w')) cs ∧ v = boxed y.isAgg cs := ⟨cs, h4, by rw [h5]; exact h2⟩
  cases y <;> first | exact this | cases h6
end Go.Sx
/-! Sx, part 41: interface values of two dynamic types, as data. -/
set_option linter.unusedVariables false
set_option linter.unusedSimpArgs false
namespace Go.Sx
open Go
variable {P : Program}
def DT.sum {α β : Type} (t1 t2 : TypeId) (a : DT α) (b : DT β) (hne : t2 ≠ t1) : DT (α ⊕ β) where
  dft := .inl a.dft
  emb := fun y => match y with
    | .inl x => .iface t1 (a.emb x)
    | .inr x => .iface t2 (b.emb x)
  decV := fun m x => match x with
    | .iface t y => if t = t1 then .inl (a.decV m y) else .inr (b.decV m y)
    | _ => .inl a.dft
  decP := fun m x => match x with
    | .iface t y => if t = t1 then a.decP m y else (t = t2 ∧ b.decP m y)
    | _ => False
  ok := fun {ε m w} g {x} h {cs} hs => by
    cases x with
    | iface t y =>
      simp only at h ⊢
      simp only [SatC] at hs
      obtain ⟨xs, h1, h2⟩ := hs
      by_cases e : t = t1
      · rw [if_pos e] at h ⊢
        simp only [SatC]
        exact ⟨xs, a.ok g h h1, by rw [h2, a.agg h, e]⟩
      · rw [if_neg e] at h ⊢
        simp only [SatC]
        exact ⟨xs, b.ok g h.2 h1, by rw [h2, b.agg h.2, h.1]⟩
    | _ => exact h.elim
  agg := fun {m x} h => by
    cases x with
    | iface t y =>
      simp only
      by_cases e : t = t1
      · rw [if_pos e]; rfl
      · rw [if_neg e]; rfl
    | _ => exact h.elim
  vE := fun m y => by
    cases y with
    | inl x => simp [a.vE]
    | inr x => simp [b.vE, hne]
  pE := fun m y => by
    cases y with
    | inl x => simp [a.pE]
    | inr x => simp [b.pE, hne]
  ren := fun r y => by cases y <;> simp only [Sx.ren, a.ren, b.ren]
  kill := fun i y => by cases y <;> simp only [Sx.kill, a.kill, b.kill]
  val := fun y => by cases y <;> rfl
theorem noH_iface {t : TypeId} {x : SV} (h : NoH x) : NoH (.iface t x) := by
  intro ε ε' cs h1 h2 h3 hc
  simp only [SatC] at hc ⊢
  obtain ⟨xs, k1, k2⟩ := hc
  exact ⟨xs, h ε ε' xs h1 h2 h3 k1, k2⟩
instance {α β : Type} {t1 t2 : TypeId} {a : DT α} {b : DT β} {hne : t2 ≠ t1} [ha : Flat a] [hb : Flat b] : Flat (DT.sum t1 t2 a b hne) := ⟨fun y => by
  cases y with
  | inl x => exact noH_iface (ha.noH x)
  | inr x => exact noH_iface (hb.noH x)⟩
theorem sum_inl {α β : Type} (t1 t2 : TypeId) (a : DT α) (b : DT β) (hne : t2 ≠ t1) (x : α) : (DT.sum t1 t2 a b hne).emb (.inl x) = .iface t1 (a.emb x) := nr rfl
theorem sum_inr {α β : Type} (t1 t2 : TypeId) (a : DT α) (b : DT β) (hne : t2 ≠ t1) (x : β) : (DT.sum t1 t2 a b hne).emb (.inr x) = .iface t2 (b.emb x) := nr rfl
theorem sum_decV {α β : Type} (t1 t2 : TypeId) (a : DT α) (b : DT β) (hne : t2 ≠ t1) (m : List Res) (t : TypeId) (y : SV) : (DT.sum t1 t2 a b hne).decV m (.iface t y) = if t = t1 then .inl (a.decV m y) else .inr (b.decV m y) := nr rfl
theorem sum_decP {α β : Type} (t1 t2 : TypeId) (a : DT α) (b : DT β) (hne : t2 ≠ t1) (m : List Res) (t : TypeId) (y : SV) : (DT.sum t1 t2 a b hne).decP m (.iface t y) = if t = t1 then a.decP m y else (t = t2 ∧ b.decP m y) := nr rfl
attribute [go_sem] sum_inl sum_inr sum_decV sum_decP
end Go.Sx
