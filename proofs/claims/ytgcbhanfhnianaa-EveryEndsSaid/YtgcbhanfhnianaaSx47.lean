import Derived.Test.YtgcbhanfhnianaaSx45
import Derived.Shelf.SlSortCmp.InsertionK
import Derived.Lib.QuietBelow
/-! Sx, part 47: the library's sort by a function, on a slice of the call's own whose elements are of many cells. -/
set_option linter.unusedVariables false
set_option linter.unusedSimpArgs false
namespace Go.Sx
open Go Go.Sort Go.RowKit Go.Proofs
variable {P : Program}
theorem fn_grown {f : FuncId} {args : List SV} {res : SV} (h : FnOK P f args [] res []) (W : World) {vs : List Value} (hs : SatA args (ε0 W) vs) : Calls P f vs.toArray W fun e w' => (∃ v ε, e = .returned v ∧ SatV ε res v) ∧ ∃ q os', w' = grow (W.drewN q) os' := by
  refine (h (ε0 W) W vs (good_nil W) hs).mono fun e w' ⟨v, ε, he, hv, hi⟩ => ⟨⟨v, ε, he, hv⟩, ?_⟩
  have hb : Below W.heap.size W w' := ⟨hi.kept.os, hi.kept.tape, hi.kept.output, hi.kept.size, fun k hk => hi.kept.heap k hk (by
    rintro ⟨i, hb⟩
    rw [memAt_ge (Nat.zero_le _)] at hb; cases hb)⟩
  obtain ⟨p, hp⟩ := regrown_of_below hb
  have hd : W.drawn ≤ w'.drawn := hi.kept.drawn
  have hpd : w'.drawn = p.d := by rw [hp]; rfl
  refine ⟨p.d - W.drawn, p.os, ?_⟩
  rw [hp]
  have : redrawn W p.d = W.drewN (p.d - W.drawn) := by
    unfold redrawn World.drewN
    congr 1
    omega
  rw [this]
section
variable {α : Type} [Inhabited α] (enc : α → List Value) (k : Nat)
theorem cells_holds (hk : ∀ x, (enc x).length = k) (hk0 : 0 < k) {w : World} {b : Nat} {T : TypeId} {cur : List Value} {d : Array α} (hb : w.heap[b]? = some (.cells cur.toArray T (0, 0))) (hl : d.size * k ≤ cur.length) (h : ∀ j, j < d.size → sub cur (j * k) k = enc d[j]!) : HoldsK enc k w b 0 d := by
  intro t ht
  rw [size_flatK] at ht
  have hq : t / k < d.size := (Nat.div_lt_iff_lt_mul hk0).2 ht
  have hr : t % k < k := Nat.mod_lt _ hk0
  have e := h _ hq
  have e1 : cur[t]? = some (enc d[t / k]!)[t % k]! := by
    have h2 := congrArg (fun l : List Value => l[t % k]?) e
    simp only [sub, List.getElem?_take, if_pos hr, List.getElem?_drop] at h2
    rw [show t / k * k + t % k = t from by rw [Nat.mul_comm]; exact Nat.div_add_mod t k] at h2
    rw [h2, getElem!_pos (enc d[t / k]!) (t % k) (by rw [hk]; exact hr), List.getElem?_eq_getElem (by rw [hk]; exact hr)]
  rw [get_flatK _ _ _ _ ht]
  refine ⟨?_, ?_⟩
  · simp [World.cell?, hb, e1]
  · simp [World.frozen?, hb]
theorem sort_world {w : World} {n b : Nat} {d : Array α} {os : Array Obj} {cur : List Value} {T : TypeId} (hb : b < w.heap.size) (hc : w.heap[b]? = some (.cells cur.toArray T (0, 0))) :
    (w.grownBy (sortWorldK enc k w b 0 n d os) (some b) ∧ w.drawn ≤ (sortWorldK enc k w b 0 n d os).drawn) ∧ (sortWorldK enc k w b 0 n d os).heap[b]? = some (.cells (putCells id 0 (flatK enc k d) cur.toArray) T (0, 0)) :=
  put_world id w n b (flatK enc k d) os hb hc
theorem sort_cells (hk : ∀ x, (enc x).length = k) (hk0 : 0 < k) (d : Array α) (cur : List Value) (hl : d.size * k ≤ cur.length) : (putCells id 0 (flatK enc k d) cur.toArray).toList.length = cur.length ∧ ∀ j, j < d.size → sub (putCells id 0 (flatK enc k d) cur.toArray).toList (j * k) k = enc d[j]! := by
  have hlen : (putCells id 0 (flatK enc k d) cur.toArray).toList.length = cur.length := by simp [putCells]
  refine ⟨hlen, fun j hj => ?_⟩
  have hjk : j * k + k ≤ d.size * k := by rw [← Nat.succ_mul]; exact Nat.mul_le_mul_right _ hj
  apply List.ext_getElem?
  intro t
  unfold sub
  rw [List.getElem?_take]
  split
  · rename_i ht
    rw [List.getElem?_drop, Array.getElem?_toList]
    have hlt : j * k + t < d.size * k := by omega
    simp only [putCells, Array.getElem?_mapIdx, List.getElem?_toArray]
    rw [List.getElem?_eq_getElem (by omega), Option.map_some, if_pos ⟨Nat.zero_le _, by rw [size_flatK]; omega⟩, Nat.sub_zero, get_flatK _ _ _ _ hlt]
    have e1 : (j * k + t) / k = j := by rw [Nat.mul_comm, Nat.mul_add_div hk0, Nat.div_eq_of_lt ht, Nat.add_zero]
    have e2 : (j * k + t) % k = t := by rw [Nat.mul_comm, Nat.mul_add_mod, Nat.mod_eq_of_lt ht]
    rw [e1, e2]
    rw [getElem!_pos (enc d[j]!) t (by rw [hk]; exact ht), List.getElem?_eq_getElem (by rw [hk]; exact ht)]
    rfl
  · rename_i ht
    rw [List.getElem?_eq_none (by rw [hk]; omega)]
end
theorem step_sort {α : Type} [Inhabited α] (D : DT α) (enc : α → List Value) (k : Nat) (hk : ∀ x, (enc x).length = k) (hk0 : 0 < k) (hsat : ∀ x ε cs, SatC (D.emb x) ε cs ↔ cs = enc x) {f g : FuncId} {m : List Res} {i n : Nat} {T : TypeId} {L R : List α}
    (h0 : ∀ cap w, Calls P f #[.slice none 0 cap, .func (.func g) #[] #[]] w fun e w' => e = .returned (.tuple #[]) ∧ w' = w)
    (h1 : ∀ b cap w, HoldsK enc k w b 0 L.toArray → b < w.heap.size → Calls P f #[.slice (some ⟨b, 0, none⟩) L.toArray.size cap, .func (.func g) #[] #[]] w fun e w' => e = .returned (.tuple #[]) ∧ ∃ q os, w' = sortWorldK enc k w b 0 q R.toArray os)
    (hR : R.length = L.length) (hm : memAt m i = .vec T k (L.map D.emb)) (hn : n = L.length) : CallStep P f [.vec i n, .fn g []] m (.tup []) (m.set i (.vec T k (R.map D.emb))) := by
  intro β ε vs w hi hs
  obtain ⟨t, rfl, q1, q2⟩ := satA_vec hs
  obtain ⟨c2, t2, rfl, q3, q4⟩ := q2
  obtain ⟨vs', q5, q6⟩ := q3
  have q5 : vs' = [] := q5
  subst q5; subst q6
  have q4 : t2 = [] := q4
  subst q4
  have ebx : boxed (SV.fn g []).isAgg [Value.func (.func g) #[] [].toArray] = .func (.func g) #[] #[] := rfl
  rw [ebx]
  rcases vec_arg hi.good hm q1 (by simpa using hn) with ⟨e, hl⟩ | ⟨b, cap, cur, e, hc, hle, hcap, hcl, hb, hel⟩
  · have hz0 : L = [] := by simpa using hl
    subst hz0
    have hR0 : R = [] := List.length_eq_zero_iff.1 hR
    subst hR0
    rw [e]
    refine (h0 0 w).mono fun e' w' ⟨he, hw⟩ => ?_
    subst hw
    refine ⟨_, ε, he, Env.Le.refl _, by simp [SatV, SatA], ?_⟩
    have : m.set i (.vec T k (([] : List α).map D.emb)) = m := by
      apply List.ext_getElem?
      intro j
      rw [List.getElem?_set]
      by_cases hij : i = j
      · subst hij
        unfold memAt at hm
        rw [if_pos rfl]
        by_cases hlt : i < m.length
        · rw [if_pos hlt, List.getElem?_eq_getElem hlt]
          simp only [List.getD, List.getElem?_eq_getElem hlt, Option.getD_some] at hm ⊢
          rw [hm]
        · rw [if_neg hlt, List.getElem?_eq_none (by omega)]
      · rw [if_neg hij]
    rw [this]
    exact hi
  · have hlz : (L.map D.emb).length = L.length := by simp
    have hge : ∀ (Z : List α) j, j < Z.length → (Z.map D.emb).getD j .junk = D.emb Z.toArray[j]! := fun Z j hj => by
      rw [getElem!_pos Z.toArray j (by simpa using hj)]
      simp [List.getD, hj]
    have hmul : L.length * k ≤ cur.length := by rw [hcl]; exact Nat.mul_le_mul_right _ (by rw [hlz] at hle; exact hle)
    have hH : HoldsK enc k w b 0 L.toArray := cells_holds enc k hk hk0 hc (by simpa using hmul) fun j hj => by
      have hj' : j < L.length := by simpa using hj
      have := hel j (by rw [hlz]; exact hj')
      rw [hge L j hj'] at this
      exact (hsat _ _ _).1 this
    rw [e, hlz]
    refine (h1 b cap w hH hb).mono fun e' w' ⟨he, q, os, hw⟩ => ?_
    obtain ⟨⟨hg, hd'⟩, hn'⟩ := sort_world enc k (n := q) (d := R.toArray) (os := os) hb hc
    rw [← hw] at hg hd' hn'
    have hpc := sort_cells enc k hk hk0 R.toArray cur (by rw [List.size_toArray, hR]; exact hmul)
    refine ⟨_, ε, he, Env.Le.refl _, by simp [SatV, SatA], hi.turn hm e hc hle hcap hcl (by simp [hR]) hpc.1 ?_ hg hd' (by simpa using hn')⟩
    intro j hj
    have hj' : j < R.length := by simpa using hj
    rw [hge R j hj', hsat]
    exact hpc.2 j (by simpa using hj')
end Go.Sx
