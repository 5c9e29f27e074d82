import Derived.Test.YtgcbhanfhnianaaSx37
import Derived.Sort.Grow
import Derived.Deep.RegionLaw
import Derived.Lib.SliceRun
/-! Sx, part 38: a row of the call's own that a callee turns in place. -/
set_option linter.unusedVariables false
set_option linter.unusedSimpArgs false
namespace Go.Sx
open Go Go.Sort
variable {P : Program}
theorem Inv.turn {β : Base} {ε : Env} {m : List Res} {w w' : World} (h : Inv β ε m w) {i : Nat} {T : TypeId} {wd' : Nat} {l l' : List SV} {g cap : Nat} {cur cs' : List Value}
    (hm : memAt m i = .vec T wd' l) (hv : ε.vv i = .slice (some ⟨g, 0, none⟩) l.length cap) (hcur : w.heap[g]? = some (.cells cur.toArray T (0, 0))) (hle : l.length ≤ cap) (hcap : cap ≤ maxLen)
    (hcl : cur.length = cap * wd') (hlen : l'.length = l.length) (hcl' : cs'.length = cur.length)
    (hel : ∀ j, j < l'.length → SatC (l'.getD j .junk) ε (sub cs' (j * wd') wd'))
    (hg : w.grownBy w' (some g)) (hn : w'.heap[g]? = some (.cells cs'.toArray T (0, 0))) :
    Inv β ε (m.set i (.vec T wd' l')) w' := by
  have k := h.setVec hm hv hcur hle hcap hcl hlen hcl' hel
  have hsz : (w.setRow g cs'.toArray).heap.size = w.heap.size := by simp [World.setRow]
  refine k.world hg.os hg.tape hg.output (by rw [hsz]; exact hg.size) fun b hb => .inl ?_
  rw [hsz] at hb
  by_cases e : b = g
  · subst e
    rw [hn, setRow_heap w _ _ _ T _ hcur]
  · rw [setRow_other w _ b _ e]
    exact hg.block b hb (fun he => e (Option.some.inj he))
theorem Inv.take {β : Base} {ε : Env} {m : List Res} {w w' : World} (h : Inv β ε m w) {i : Nat} {T : TypeId} {wd' : Nat} {l l' : List SV} {g cap : Nat} {cs' : List Value}
    (hm : memAt m i = .vec T wd' l) (hv : ε.vv i = .slice (some ⟨g, 0, none⟩) l.length cap) (hcap : cap ≤ maxLen)
    (hl' : l'.length ≤ cap) (hcl' : cs'.length = cap * wd')
    (hel : ∀ j, j < l'.length → SatC (l'.getD j .junk) ε (sub cs' (j * wd') wd'))
    (hg : w.grownBy w' (some g)) (hn : w'.heap[g]? = some (.cells cs'.toArray T (0, 0))) :
    Inv β (ε.more 0 (.slice (some ⟨g, 0, none⟩) l'.length cap)) (m.set i .dead ++ [.vec T wd' l']) w' := by
  have hoi : ownR ε i (memAt m i) = some g := by rw [hm]; simp [ownR, hv, Value.ownBlock]
  have k := h.drop (i := i) (by rw [hm]; rfl)
  have hlen : (m.set i Res.dead).length = m.length := by simp
  have hi : i < m.length := by
    rcases Nat.lt_or_ge i m.length with hi | hi
    · exact hi
    · rw [memAt_ge hi] at hm; cases hm
  have hat : ∀ j, memAt (m.set i .dead) j = if j = i then .dead else memAt m j := by
    intro j
    unfold memAt
    rw [List.getD, List.getElem?_set]
    by_cases hj : i = j
    · subst hj; simp [hi]
    · rw [if_neg hj, if_neg (fun e => hj e.symm)]; rfl
  have hvv : (ε.more 0 (.slice (some ⟨g, 0, none⟩) l'.length cap)).vv (m.set i Res.dead).length = .slice (some ⟨g, 0, none⟩) l'.length cap := by
    simp [Env.more, h.good.n, hlen]
  refine k.more2 hg (fun x hx => ?_) ?_ (fun x hx => ?_)
  · obtain rfl := Option.some.inj hx
    refine ⟨fun j e => ?_, h.good.sep i _ hoi, ownR_lt h.good hoi, h.own i _ hoi⟩
    rw [hat] at e
    by_cases hj : j = i
    · rw [if_pos hj] at e; cases e
    · rw [if_neg hj] at e; exact h.good.disj j i _ hj e hoi
  · have hmul : l'.length * wd' ≤ cap * wd' := Nat.mul_le_mul_right _ hl'
    refine ⟨sub cs' 0 (l'.length * wd'), ⟨by rw [sub_length]; omega, .inr ⟨g, cap, cs'.toArray, hvv, Nat.zero_le _, hn, hl', hcap, by simp; omega, by simp [sub]⟩⟩, fun k hk => ?_⟩
    rw [sub_sub (mul_le_len hk), Nat.zero_add]
    exact (hel k hk).mono _ (ε.le_more _ _)
  · right
    simp only [ownR, hvv, Value.ownBlock] at hx
    exact hx
theorem vec_arg {ε : Env} {m : List Res} {w : World} (g : Good ε m w) {i n : Nat} {T : TypeId} {wd : Nat} {l : List SV} (hm : memAt m i = .vec T wd l) (hs : SatC (.vec i n) ε [ε.vv i]) (hn : n = l.length) :
    (ε.vv i = .slice none 0 0 ∧ l = []) ∨ ∃ b cap cur, ε.vv i = .slice (some ⟨b, 0, none⟩) l.length cap ∧ w.heap[b]? = some (.cells cur.toArray T (0, 0)) ∧ l.length ≤ cap ∧ cap ≤ maxLen ∧ cur.length = cap * wd ∧
      b < w.heap.size ∧ ∀ j, j < l.length → SatC (l.getD j .junk) ε (sub cur (j * wd) wd) := by
  have hr := g.res i
  rw [hm] at hr
  obtain ⟨xs, ho, hx⟩ := hr
  obtain ⟨h1, h2 | ⟨b, cap, cur, e1, e2, e3, e4, e5, e6, e7⟩⟩ := ho
  · exact .inl ⟨h2.1, List.length_eq_zero_iff.1 h2.2⟩
  · refine .inr ⟨b, cap, cur.toList, e1, by simpa using e3, e4, e5, by simpa using e6, (Array.getElem?_eq_some_iff.1 e3).1, fun j hj => ?_⟩
    have := hx j hj
    rw [← e7] at this
    have hs' : sub (List.take (l.length * wd) cur.toList) (j * wd) wd = sub cur.toList (j * wd) wd := by
      have hlt : j * wd + wd ≤ l.length * wd := by
        have := Nat.mul_le_mul_right wd hj
        rw [Nat.succ_mul] at this
        exact this
      unfold sub
      rw [List.drop_take, List.take_take]
      congr 1
      omega
    rwa [hs'] at this
theorem satA_vec {ε : Env} {i n : Nat} {r : List SV} {vs : List Value} (h : SatA (.vec i n :: r) ε vs) : ∃ t, vs = ε.vv i :: t ∧ SatC (.vec i n) ε [ε.vv i] ∧ SatA r ε t := by
  simp only [SatA] at h
  obtain ⟨cs, t, h1, h2, h3⟩ := h
  have hc : cs = [ε.vv i] := by
    simp only [SatC] at h2
    exact h2.2.2
  subst hc
  exact ⟨t, h1, h2, h3⟩
theorem satA_int {ε : Env} {k : IntKind} {n : Int} {r : List SV} {vs : List Value} (h : SatA (.int k n :: r) ε vs) : ∃ t, vs = .int k n :: t ∧ SatA r ε t := by
  simp only [SatA] at h
  obtain ⟨cs, t, h1, h2, h3⟩ := h
  simp only [SatC] at h2
  subst h2
  exact ⟨t, h1, h3⟩
theorem put_world {α : Type} [Inhabited α] (enc : α → Value) (w : World) (n b : Nat) (d : Array α) (os : Array Obj) {cur : List Value} {T : TypeId} (hb : b < w.heap.size) (hc : w.heap[b]? = some (.cells cur.toArray T (0, 0))) :
    w.grownBy (grow (putRow enc (Sort.ahead w n) b 0 d) os) (some b) ∧ (grow (putRow enc (Sort.ahead w n) b 0 d) os).heap[b]? = some (.cells (putCells enc 0 d cur.toArray) T (0, 0)) := by
  have hsz : (putRow enc (Sort.ahead w n) b 0 d).heap.size = w.heap.size := by simp [putRow, mapBlock, Sort.ahead]
  have hat : ∀ k, k < w.heap.size → (grow (putRow enc (Sort.ahead w n) b 0 d) os).heap[k]? = (putRow enc (Sort.ahead w n) b 0 d).heap[k]? := by
    intro k hk
    simp only [grow]
    rw [Array.getElem?_append_left (by rw [hsz]; exact hk)]
  refine ⟨⟨rfl, rfl, rfl, by simp [grow, hsz], fun k hk hne => ?_⟩, ?_⟩
  · rw [hat k hk]
    simp only [putRow, mapBlock, Sort.ahead, Array.getElem?_modify]
    rw [if_neg (fun e => hne (by rw [e]))]
  · rw [hat b hb]
    simp only [putRow, mapBlock, Sort.ahead, Array.getElem?_modify, if_true, hc, Option.map_some, onCells]
theorem put_cells {α : Type} [Inhabited α] (enc : α → Value) (d : Array α) (cur : List Value) : (putCells enc 0 d cur.toArray).toList.length = cur.length ∧ ∀ j, j < d.size → j < cur.length → sub (putCells enc 0 d cur.toArray).toList (j * 1) 1 = [enc d[j]!] := by
  refine ⟨by simp [putCells], fun j hj hc => ?_⟩
  rw [Nat.mul_one]
  have : (putCells enc 0 d cur.toArray).toList[j]? = some (enc d[j]!) := by
    rw [Array.getElem?_toList]
    simp only [putCells, Array.getElem?_mapIdx, List.getElem?_toArray]
    rw [List.getElem?_eq_getElem hc, Option.map_some, if_pos ⟨Nat.zero_le _, by omega⟩, Nat.sub_zero]
  unfold sub
  rw [List.drop_eq_getElem_cons (by rw [List.getElem?_eq_some_iff] at this; exact this.1)]
  rw [List.take_succ_cons, List.take_zero]
  rw [List.getElem?_eq_some_iff] at this
  rw [this.2]
theorem int_sat {zs : List Int} {ε : Env} {cur : List Value} (h : ∀ j, j < (zs.map DT.int.emb).length → SatC ((zs.map DT.int.emb).getD j .junk) ε (sub cur (j * 1) 1)) : ∀ j, j < zs.length → sub cur (j * 1) 1 = [.int .i64 (zs.getD j 0)] := by
  intro j hj
  have := h j (by rw [List.length_map]; exact hj)
  have e : (zs.map DT.int.emb).getD j .junk = .int .i64 (zs.getD j 0) := by
    simp only [List.getD, List.getElem?_map]
    rw [List.getElem?_eq_getElem hj]
    rfl
  rw [e] at this
  simpa only [SatC] using this
theorem int_holds {zs : List Int} {cur : List Value} {w : World} {b : Nat} {T : TypeId} (hc : w.heap[b]? = some (.cells cur.toArray T (0, 0))) (h : ∀ j, j < zs.length → sub cur (j * 1) 1 = [.int .i64 (zs.getD j 0)]) : Holds (Value.int .i64) w b 0 zs.toArray := by
  intro j hj
  have hj' : j < zs.length := by simpa using hj
  have e := h j hj'
  rw [Nat.mul_one] at e
  have e1 : cur[j]? = some (.int .i64 (zs.getD j 0)) := by
    unfold sub at e
    have h2 : (List.take 1 (List.drop j cur))[0]? = some (.int .i64 (zs.getD j 0)) := by rw [e]; rfl
    rw [List.getElem?_take, if_pos (by omega), List.getElem?_drop] at h2
    exact h2
  have e2 : zs.toArray[j]! = zs.getD j 0 := by
    rw [getElem!_pos zs.toArray j hj]
    simp [List.getD, hj']
  rw [e2]
  refine ⟨?_, ?_⟩
  · simp [World.cell?, hc, e1]
  · simp [World.frozen?, hc]
end Go.Sx
/-! Sx, part 39: callees that turn a slice of ints of the call's own where it lies, or cut it: their form. -/
set_option linter.unusedVariables false
set_option linter.unusedSimpArgs false
namespace Go.Sx
open Go Go.Sort
variable {P : Program}
def decI (l : List SV) : List Int := l.map (DT.int.decV [])
theorem decI_emb (zs : List Int) : decI (zs.map DT.int.emb) = zs := by
  unfold decI
  rw [List.map_map]
  conv => rhs; rw [← List.map_id zs]
  apply List.map_congr_left
  intro x _
  rfl
theorem getD_toArray (l : List Int) (j : Nat) (h : j < l.length) : l.toArray[j]! = l.getD j 0 := by
  rw [getElem!_pos l.toArray j (by simpa using h)]
  simp [List.getD, h]
theorem sat_int_back {ds : List Int} {ε : Env} {cs : List Value} (h : ∀ j, j < ds.length → sub cs (j * 1) 1 = [.int .i64 (ds.toArray[j]!)]) : ∀ j, j < (ds.map DT.int.emb).length → SatC ((ds.map DT.int.emb).getD j .junk) ε (sub cs (j * 1) 1) := by
  intro j hj
  have hj' : j < ds.length := by simpa using hj
  have e : (ds.map DT.int.emb).getD j .junk = .int .i64 (ds.getD j 0) := by
    simp only [List.getD, List.getElem?_map]
    rw [List.getElem?_eq_getElem hj']
    rfl
  rw [e, h j hj', getD_toArray ds j hj']
  simp only [SatC]
structure Puts (P : Program) (f : FuncId) (F : List Int → List Int) : Prop where
  ok : okFn P f = true
  len : ∀ zs, (F zs).length = zs.length
  at0 : ∀ w, Calls P f #[.slice none 0 0] w fun e w' => e = .returned (.tuple #[]) ∧ w' = w
  at1 : ∀ blk cap zs w, Holds (Value.int .i64) w blk 0 zs.toArray → blk < w.heap.size → zs.length < 4611686018427387904 →
    Calls P f #[.slice (some ⟨blk, 0, none⟩) zs.length cap] w fun e w' => e = .returned (.tuple #[]) ∧ ∃ n os, w' = grow (putRow (Value.int .i64) (Sort.ahead w n) blk 0 (F zs).toArray) os
structure Cuts (P : Program) (f : FuncId) (F : List Int → List Int) : Prop where
  ok : okFn P f = true
  len : ∀ zs, (F zs).length ≤ zs.length
  nil : F [] = []
  at0 : ∀ w, Calls P f #[.slice none 0 0] w fun e w' => e = .returned (.slice none 0 0) ∧ w' = w
  at1 : ∀ blk cap zs w, Holds (Value.int .i64) w blk 0 zs.toArray → zs.length ≤ 9223372036854775807 → zs.length ≤ cap →
    Calls P f #[.slice (some ⟨blk, 0, none⟩) zs.length cap] w fun e w' => e = .returned (.slice (some ⟨blk, 0, none⟩) (F zs).length cap) ∧ ∃ q, w' = putRow (Value.int .i64) (Sort.ahead w q) blk 0 (F zs ++ List.replicate (zs.length - (F zs).length) 0).toArray
theorem grow_none (w : World) : grow w #[] = w := by simp [grow]
theorem maxLen_le {n : Nat} (h : n ≤ maxLen) : n ≤ 9223372036854775807 := by
  simp only [maxLen] at h; omega
theorem step_put {f : FuncId} {F : List Int → List Int} (H : Puts P f F) {m : List Res} {i n : Nat} {T : TypeId} {zs : List Int} (hm : memAt m i = .vec T 1 (zs.map DT.int.emb)) (hn : n = zs.length) (hz : zs.length < 4611686018427387904) :
    CallStep P f [.vec i n] m (.tup []) (m.set i (.vec T 1 ((F zs).map DT.int.emb))) := by
  intro β ε vs w hi hs
  obtain ⟨t, rfl, h1, h2⟩ := satA_vec hs
  simp only [SatA] at h2
  subst h2
  rcases vec_arg hi.good hm h1 (by simpa using hn) with ⟨e, hl⟩ | ⟨b, cap, cur, e, hc, hle, hcap, hcl, hb, hel⟩
  · have hz0 : zs = [] := by simpa using hl
    subst hz0
    have hF : F [] = [] := List.length_eq_zero_iff.1 (H.len [])
    rw [e]
    refine (H.at0 w).mono fun e' w' ⟨he, hw⟩ => ?_
    subst hw
    refine ⟨_, ε, he, Env.Le.refl _, by simp [SatV, SatA], ?_⟩
    have : m.set i (.vec T 1 ((F []).map DT.int.emb)) = m := by
      rw [hF]
      apply List.ext_getElem?
      intro j
      rw [List.getElem?_set]
      by_cases hij : i = j
      · subst hij
        unfold memAt at hm
        rw [if_pos rfl]
        by_cases hlt : i < m.length
        · rw [if_pos hlt, List.getElem?_eq_getElem hlt]
          simp only [List.getD, List.getElem?_eq_getElem hlt, Option.getD_some, List.map_nil] at hm ⊢
          rw [hm]
        · rw [if_neg hlt, List.getElem?_eq_none (by omega)]
      · rw [if_neg hij]
    rw [this]
    exact hi
  · have hd := int_sat hel
    have hH := int_holds hc hd
    have hlz : (zs.map DT.int.emb).length = zs.length := by simp
    rw [e, hlz]
    refine (H.at1 b cap zs w hH hb hz).mono fun e' w' ⟨he, q, os, hw⟩ => ?_
    obtain ⟨hg, hn'⟩ := put_world (Value.int .i64) w q b (F zs).toArray os hb hc
    rw [← hw] at hg hn'
    have hpc := put_cells (Value.int .i64) (F zs).toArray cur
    refine ⟨_, ε, he, Env.Le.refl _, by simp [SatV, SatA], hi.turn hm e hc hle hcap hcl (by simp [H.len]) hpc.1 ?_ hg (by simpa using hn')⟩
    refine sat_int_back fun j hj => hpc.2 j (by simpa using hj) ?_
    have := H.len zs
    rw [hlz] at hle
    omega
theorem vec_back {ε : Env} {m : List Res} {k : Nat} {v : Value} (hn : ε.n = m.length) (h : v = .slice none 0 0 ∧ k = 0 ∨ ∃ b cap, v = .slice (some ⟨b, 0, none⟩) k cap ∧ k ≤ cap) : SatV (ε.more 0 v) (.vec m.length k) v := by
  have hvv : (ε.more 0 v).vv m.length = v := by simp [Env.more, hn]
  simp only [SatV, SatC, SV.isAgg]
  exact ⟨[v], ⟨by simp [Env.more, hn], by rw [hvv]; exact h, by rw [hvv]⟩, by simp [boxed]⟩
theorem step_cut {f : FuncId} {F : List Int → List Int} (H : Cuts P f F) {m : List Res} {i n : Nat} {T : TypeId} {zs : List Int} (hm : memAt m i = .vec T 1 (zs.map DT.int.emb)) (hn : n = zs.length) :
    CallStep P f [.vec i n] m (.vec m.length (F zs).length) (m.set i .dead ++ [.vec T 1 ((F zs).map DT.int.emb)]) := by
  intro β ε vs w hi hs
  obtain ⟨t, rfl, h1, h2⟩ := satA_vec hs
  simp only [SatA] at h2
  subst h2
  have hvv : ∀ v, (ε.more 0 v).vv m.length = v := by
    intro v
    simp [Env.more, hi.good.n]
  rcases vec_arg hi.good hm h1 (by simpa using hn) with ⟨e, hl⟩ | ⟨b, cap, cur, e, hc, hle, hcap, hcl, hb, hel⟩
  · have hz0 : zs = [] := by simpa using hl
    subst hz0
    rw [e, H.nil]
    refine (H.at0 w).mono fun e' w' ⟨he, hw⟩ => ?_
    subst hw
    refine ⟨_, ε.more 0 (.slice none 0 0), he, ε.le_more _ _, ?_, ?_⟩
    · exact vec_back hi.good.n (.inl ⟨rfl, rfl⟩)
    · have k := hi.drop (i := i) (by rw [hm]; rfl)
      have hlen : (m.set i Res.dead).length = m.length := by simp
      have hv2 : (ε.more 0 (.slice none 0 0)).vv (m.set i Res.dead).length = .slice none 0 0 := by rw [hlen, hvv]
      refine k.more (World.grownBy.refl _ _) ⟨[], ⟨by simp, .inl ⟨by rw [hv2], by simp⟩⟩, fun j hj => absurd hj (by simp)⟩ fun x hx => ?_
      simp only [ownR, hv2, Value.ownBlock] at hx
      cases hx
  · have hd := int_sat hel
    have hH := int_holds hc hd
    have hlz : (zs.map DT.int.emb).length = zs.length := by simp
    have hmx : zs.length ≤ 9223372036854775807 := by
      rw [hlz] at hle
      exact maxLen_le (Nat.le_trans hle hcap)
    rw [e, hlz]
    refine (H.at1 b cap zs w hH hmx (by rw [← hlz]; exact hle)).mono fun e' w' ⟨he, q, hw⟩ => ?_
    rw [← grow_none (putRow _ _ _ _ _)] at hw
    obtain ⟨hg, hn'⟩ := put_world (Value.int .i64) w q b (F zs ++ List.replicate (zs.length - (F zs).length) 0).toArray #[] hb hc
    rw [← hw] at hg hn'
    have hpc := put_cells (Value.int .i64) (F zs ++ List.replicate (zs.length - (F zs).length) 0).toArray cur
    have hF := H.len zs
    have hI := hi.take (l' := (F zs).map DT.int.emb) hm e hcap (by rw [hlz] at hle; simp; omega) (by rw [hpc.1]; exact hcl) (sat_int_back fun j hj => ?_) hg (by simpa using hn')
    · refine ⟨_, ε.more 0 (.slice (some ⟨b, 0, none⟩) ((F zs).map DT.int.emb).length cap), he, ε.le_more _ _, ?_, ?_⟩
      rotate_left
      · exact hI
      · have := vec_back (ε := ε) (m := m) (k := (F zs).length) (v := .slice (some ⟨b, 0, none⟩) (F zs).length cap) hi.good.n (.inr ⟨b, cap, rfl, by rw [hlz] at hle; omega⟩)
        simpa using this
    · rw [hpc.2 j (by simp; omega) (by rw [hlz] at hle; omega)]
      have hj2 : j < (F zs ++ List.replicate (zs.length - (F zs).length) 0).length := by simp; omega
      rw [getD_toArray _ _ hj, getD_toArray _ _ hj2]
      simp [List.getD, List.getElem?_append_left hj]
def FH.pu (f : FuncId) (F : List Int → List Int) (Γ : FH) : FH :=
  FH.on f (fun args m => match args with
    | [x] => match x with
      | .vec i n => match memAt m i with
        | .vec T w l => .is (w = 1 ∧ (decI l).map DT.int.emb = l ∧ n = (decI l).length ∧ (decI l).length < 4611686018427387904) (.tup []) (m.set i (.vec T 1 ((F (decI l)).map DT.int.emb)))
        | _ => .no
      | _ => .no
    | _ => .no) Γ
theorem FH.pu_ok {f : FuncId} {F : List Int → List Int} {Γ : FH} (H : Puts P f F) (hΓ : FHOK P Γ) : FHOK P (FH.pu f F Γ) :=
  FH.on_ok (fun args m => by
    split
    · split
      · split
        · rename_i i n T w l hm
          rintro ⟨rfl, h2, h3, h4⟩
          refine ⟨H.ok, step_put H ?_ h3 h4⟩
          rw [h2]; exact hm
        · trivial
      · trivial
    · trivial) hΓ
def FH.cu (f : FuncId) (F : List Int → List Int) (Γ : FH) : FH :=
  FH.on f (fun args m => match args with
    | [x] => match x with
      | .vec i n => match memAt m i with
        | .vec T w l => .is (w = 1 ∧ (decI l).map DT.int.emb = l ∧ n = (decI l).length) (.vec m.length (F (decI l)).length) (m.set i .dead ++ [.vec T 1 ((F (decI l)).map DT.int.emb)])
        | _ => .no
      | _ => .no
    | _ => .no) Γ
theorem FH.cu_ok {f : FuncId} {F : List Int → List Int} {Γ : FH} (H : Cuts P f F) (hΓ : FHOK P Γ) : FHOK P (FH.cu f F Γ) :=
  FH.on_ok (fun args m => by
    split
    · split
      · split
        · rename_i i n T w l hm
          rintro ⟨rfl, h2, h3⟩
          refine ⟨H.ok, step_cut H ?_ h3⟩
          rw [h2]; exact hm
        · trivial
      · trivial
    · trivial) hΓ
namespace W
theorem fh_pu (f : FuncId) (F : List Int → List Int) (Γ : FH) (g : FuncId) (i n : Nat) (m : List Res) :
    FH.pu f F Γ g [.vec i n] m = if g = f then (match memAt m i with
        | .vec T w l => .is (w = 1 ∧ (decI l).map DT.int.emb = l ∧ n = (decI l).length ∧ (decI l).length < 4611686018427387904) (.tup []) (m.set i (.vec T 1 ((F (decI l)).map DT.int.emb)))
        | _ => .no) else Γ g [.vec i n] m := nr rfl
theorem fh_pu_not (f : FuncId) (F : List Int → List Int) (Γ : FH) (g : FuncId) (args : List SV) (m : List Res) (h : g ≠ f) :
    FH.pu f F Γ g args m = Γ g args m := nr (if_neg h)
theorem fh_cu (f : FuncId) (F : List Int → List Int) (Γ : FH) (g : FuncId) (i n : Nat) (m : List Res) :
    FH.cu f F Γ g [.vec i n] m = if g = f then (match memAt m i with
        | .vec T w l => .is (w = 1 ∧ (decI l).map DT.int.emb = l ∧ n = (decI l).length) (.vec m.length (F (decI l)).length) (m.set i .dead ++ [.vec T 1 ((F (decI l)).map DT.int.emb)])
        | _ => .no) else Γ g [.vec i n] m := nr rfl
theorem fh_cu_not (f : FuncId) (F : List Int → List Int) (Γ : FH) (g : FuncId) (args : List SV) (m : List Res) (h : g ≠ f) :
    FH.cu f F Γ g args m = Γ g args m := nr (if_neg h)
end W
attribute [go_sem ↓] W.fh_pu W.fh_pu_not W.fh_cu W.fh_cu_not
attribute [go_sem] decI_emb
end Go.Sx
/-! Sx, part 40: slices.Delete at elements of many cells: the form of its callers. -/
set_option linter.unusedVariables false
set_option linter.unusedSimpArgs false
namespace Go.Sx
open Go Go.Sort
variable {P : Program}
def over (cur : List Value) (o : Nat) (vs : List Value) : List Value := cur.take o ++ vs ++ cur.drop (o + vs.length)
theorem over_nil (cur : List Value) (o : Nat) : over cur o [] = cur := by simp [over]
theorem over_length {cur : List Value} {o : Nat} {vs : List Value} (h : o + vs.length ≤ cur.length) : (over cur o vs).length = cur.length := by
  simp [over]; omega
theorem over_get {cur : List Value} {o : Nat} {vs : List Value} (h : o + vs.length ≤ cur.length) (t : Nat) : (over cur o vs)[t]? = if t < o then cur[t]? else if t < o + vs.length then vs[t - o]? else cur[t]? := by
  unfold over
  rw [List.append_assoc, List.getElem?_append]
  have h1 : (List.take o cur).length = o := by simp; omega
  rw [h1]
  split
  · rename_i h2; rw [List.getElem?_take, if_pos h2]
  · rw [List.getElem?_append]
    split
    · rw [if_pos (by omega)]
    · rw [if_neg (by omega), List.getElem?_drop]
      congr 1; omega
theorem setCell_heap {w : World} {b o : Nat} {v : Value} {cur : List Value} {T : TypeId} (h : w.heap[b]? = some (.cells cur.toArray T (0, 0))) : (w.setCell ⟨b, o, none⟩ v).heap[b]? = some (.cells (cur.set o v).toArray T (0, 0)) := by
  simp [World.setCell, Array.getElem?_modify, h]
theorem setCell_grown (w : World) (b o : Nat) (v : Value) : w.grownBy (w.setCell ⟨b, o, none⟩ v) (some b) := by
  refine ⟨rfl, rfl, rfl, by simp [World.setCell], fun k hk hne => ?_⟩
  simp only [World.setCell, Array.getElem?_modify]
  rw [if_neg (fun e => hne (by rw [e]))]
theorem over_cons {cur : List Value} {o : Nat} {v : Value} {r : List Value} (h : o + (v :: r).length ≤ cur.length) : over (cur.set o v) (o + 1) r = over cur o (v :: r) := by
  apply List.ext_getElem?
  intro t
  have hl : (v :: r).length = r.length + 1 := rfl
  rw [over_get (by rw [List.length_set]; omega), over_get h, hl]
  by_cases h1 : t < o
  · rw [if_pos (by omega), if_pos h1, List.getElem?_set_ne (by omega)]
  · by_cases h2 : t = o
    · subst h2
      rw [if_pos (by omega), if_neg h1, if_pos (by omega), List.getElem?_set_self (by omega)]
      simp
    · rw [if_neg (by omega), if_neg h1]
      by_cases h3 : t < o + 1 + r.length
      · rw [if_pos h3, if_pos (by omega), show t - o = (t - (o + 1)) + 1 by omega]; rfl
      · rw [if_neg h3, if_neg (by omega), List.getElem?_set_ne (by omega)]
theorem setCells_heap {b : Nat} {T : TypeId} : ∀ (vs : List Value) (o : Nat) (w : World) (cur : List Value), w.heap[b]? = some (.cells cur.toArray T (0, 0)) → o + vs.length ≤ cur.length → (w.setCells b o vs).heap[b]? = some (.cells (over cur o vs).toArray T (0, 0))
  | [], o, w, cur, h, _ => by rw [over_nil]; exact h
  | v :: r, o, w, cur, h, hl => by
    rw [World.setCells, setCells_heap r (o + 1) _ (cur.set o v) (setCell_heap h) (by simp at hl ⊢; omega), over_cons hl]
theorem setCells_grown (b : Nat) : ∀ (vs : List Value) (o : Nat) (w : World), w.grownBy (w.setCells b o vs) (some b)
  | [], _, w => World.grownBy.refl _ _
  | v :: r, o, w => (setCell_grown w b o v).trans (setCells_grown b r (o + 1) _)
theorem run_clear_many (w : World) (t e ty : TypeId) (z : Value) (ht : P.underlying t = some (.slice e)) (hv : ∀ w, (zeroValue e).run P w = .ok z w) (zs : List Value) (b o n c : Nat) (hn : 0 < n) (hzs : (Builtin.zeroCells z.cells n).toList = zs)
    (h1 : ∀ v ∈ zs, v.oneCell' = true)
    (hc : ∀ j, j < zs.length → (w.cell? ⟨b, o + j, none⟩).isSome = true) (hf : ∀ j, j < zs.length → w.frozen? ⟨b, o + j, none⟩ = false) :
    (Builtin.clear_ #[t] ty #[.slice (some ⟨b, o, none⟩) n c]).run P w = .ok (.tuple #[]) (w.setCells b o zs) := by
  have hst := run_storeCells_cells (P := P) b o zs 0 w (by simpa using hc) (by simpa using hf) h1
  simp only [Nat.add_zero] at hst
  obtain ⟨m, rfl⟩ : ∃ m, n = m + 1 := ⟨n - 1, by omega⟩
  simp [Builtin.clear_, run_underlying ht, hv, hzs, hst]
theorem cell_of {w : World} {b o : Nat} {cur : List Value} {T : TypeId} (h : w.heap[b]? = some (.cells cur.toArray T (0, 0))) : w.cell? ⟨b, o, none⟩ = cur[o]? := by
  simp [World.cell?, h]
theorem frozen_of {w : World} {b o : Nat} {cur : List Value} {T : TypeId} (h : w.heap[b]? = some (.cells cur.toArray T (0, 0))) : w.frozen? ⟨b, o, none⟩ = false := by
  simp [World.frozen?, h]
structure Dels (P : Program) (f : FuncId) (k : Nat) : Prop where
  ok : okFn P f = true
  at1 : ∀ (b cap n i j : Nat) (T : TypeId) (cur : List Value) (w : World), w.heap[b]? = some (.cells cur.toArray T (0, 0)) → cur.length = cap * k → cap ≤ maxLen → n ≤ cap → i ≤ j → j ≤ n → (∀ t u, t < n * k → cur[t]? = some u → u.oneCell' = true) →
    Calls P f #[.slice (some ⟨b, 0, none⟩) n cap, .int .i64 i, .int .i64 j] w fun e w' => e = .returned (.slice (some ⟨b, 0, none⟩) (n - (j - i)) cap) ∧
      w.grownBy w' (some b) ∧ ∃ cs' : List Value, w'.heap[b]? = some (.cells cs'.toArray T (0, 0)) ∧ cs'.length = cap * k ∧ ∀ t, t < (n - (j - i)) * k → cs'[t]? = if t < i * k then cur[t]? else cur[t + (j - i) * k]?
theorem sub_of_get {cur cs : List Value} {a b k : Nat} (ha : a + k ≤ cur.length) (hb : b + k ≤ cs.length) (h : ∀ t, t < k → cs[b + t]? = cur[a + t]?) : sub cs b k = sub cur a k := by
  apply List.ext_getElem?
  intro t
  unfold sub
  rw [List.getElem?_take, List.getElem?_take]
  split
  · rename_i ht
    rw [List.getElem?_drop, List.getElem?_drop, h t ht]
  · rfl
universe u v
def delL {α : Type u} (l : List α) (i j : Nat) : List α := l.take i ++ l.drop j
theorem delL_length {α : Type u} {l : List α} {i j : Nat} (hij : i ≤ j) (hj : j ≤ l.length) : (delL l i j).length = l.length - (j - i) := by
  simp [delL]; omega
theorem delL_map {α : Type u} {β : Type v} (f : α → β) (l : List α) (i j : Nat) : delL (l.map f) i j = (delL l i j).map f := by simp [delL, List.map_take, List.map_drop]
theorem delL_getD {l : List SV} {i j : Nat} (hij : i ≤ j) (hj : j ≤ l.length) {t : Nat} (ht : t < (delL l i j).length) : (delL l i j).getD t .junk = l.getD (if t < i then t else t + (j - i)) .junk := by
  unfold delL
  simp only [List.getD]
  rw [List.getElem?_append]
  have h1 : (List.take i l).length = i := by simp; omega
  rw [h1]
  split
  · rename_i h2; rw [List.getElem?_take, if_pos h2]
  · rw [List.getElem?_drop]
    congr 2; omega
theorem step_del {f : FuncId} {k : Nat} (H : Dels P f k) {m : List Res} {i n : Nat} {T : TypeId} {l : List SV} (hm : memAt m i = .vec T k l) (hn : n = l.length) (h1 : ∀ x ∈ l, ∀ (ε : Env) (cs : List Value), SatC x ε cs → ∀ v ∈ cs, v.oneCell' = true) (a b : Int) (ha : 0 ≤ a) (hab : a ≤ b) (hb : b ≤ l.length) (hne : 0 < l.length) (hk : 0 < k) :
    CallStep P f [.vec i n, .int .i64 a, .int .i64 b] m (.vec m.length (l.length - (b.toNat - a.toNat))) (m.set i .dead ++ [.vec T k (delL l a.toNat b.toNat)]) := by
  intro β ε vs w hi hs
  obtain ⟨t0, rfl, q1, q2⟩ := satA_vec hs
  obtain ⟨t1, rfl, q3⟩ := satA_int q2
  obtain ⟨t2, rfl, q4⟩ := satA_int q3
  simp only [SatA] at q4
  subst q4
  clear hs q2 q3
  obtain ⟨A, rfl⟩ : ∃ A : Nat, a = A := ⟨a.toNat, by omega⟩
  obtain ⟨B, rfl⟩ : ∃ B : Nat, b = B := ⟨b.toNat, by omega⟩
  have hAB : A ≤ B := by omega
  have hB : B ≤ l.length := by omega
  simp only [Int.toNat_natCast]
  rcases vec_arg hi.good hm q1 (by simpa using hn) with ⟨e, hl⟩ | ⟨g, cap, cur, e, hc, hle, hcap, hcl, hg0, hel⟩
  · rw [hl] at hne; cases hne
  · have hcells : ∀ t u, t < l.length * k → cur[t]? = some u → u.oneCell' = true := by
      intro t u ht hu
      have hq : t / k < l.length := (Nat.div_lt_iff_lt_mul hk).2 ht
      have h := hel (t / k) hq
      have hmem : l.getD (t / k) .junk ∈ l := by
        simp only [List.getD, List.getElem?_eq_getElem hq, Option.getD_some]
        exact List.getElem_mem _
      refine h1 _ hmem ε _ h u ?_
      have hmod : t % k < k := Nat.mod_lt _ hk
      have hget : (sub cur (t / k * k) k)[t % k]? = some u := by
        unfold sub
        rw [List.getElem?_take, if_pos hmod, List.getElem?_drop, show t / k * k + t % k = t from by rw [Nat.mul_comm]; exact Nat.div_add_mod t k]
        exact hu
      exact List.mem_of_getElem? hget
    rw [e]
    refine (H.at1 g cap l.length A B T cur w hc hcl hcap hle hAB hB hcells).mono fun e' w' ⟨he, hg, cs', hn', hcl', hget⟩ => ?_
    have hdl := delL_length (l := l) hAB hB
    have hI := hi.take (l' := delL l A B) hm e hcap (by omega) hcl' (fun j hj => ?_) hg hn'
    · refine ⟨_, ε.more 0 (.slice (some ⟨g, 0, none⟩) (delL l A B).length cap), he, ε.le_more _ _, ?_, hI⟩
      have := vec_back (ε := ε) (m := m) (k := (delL l A B).length) (v := .slice (some ⟨g, 0, none⟩) (delL l A B).length cap) hi.good.n (.inr ⟨g, cap, rfl, by omega⟩)
      rwa [hdl] at this ⊢
    · rw [delL_getD hAB hB hj]
      have hj' : (if j < A then j else j + (B - A)) < l.length := by split <;> omega
      have := hel _ hj'
      have e2 : sub cs' (j * k) k = sub cur ((if j < A then j else j + (B - A)) * k) k := by
        have hm1 : j * k + k ≤ (l.length - (B - A)) * k := by rw [← Nat.succ_mul]; exact Nat.mul_le_mul_right _ (by omega)
        have hm2 : (l.length - (B - A)) * k ≤ cap * k := Nat.mul_le_mul_right _ (by omega)
        have hm3 : (if j < A then j else j + (B - A)) * k + k ≤ cap * k := by rw [← Nat.succ_mul]; exact Nat.mul_le_mul_right _ (by omega)
        refine sub_of_get (by omega) (by omega) fun t ht => ?_
        rw [hget _ (by omega)]
        by_cases hjA : j < A
        · have : j * k + k ≤ A * k := by rw [← Nat.succ_mul]; exact Nat.mul_le_mul_right _ hjA
          rw [if_pos hjA, if_pos (by omega)]
        · have : A * k ≤ j * k := Nat.mul_le_mul_right _ (by omega)
          rw [if_neg hjA, if_neg (by omega)]
          congr 1
          rw [Nat.add_mul]; omega
      rw [e2]
      exact this
def decS {α : Type} (d : DT α) (l : List SV) : List α := l.map (d.decV [])
theorem decS_emb {α : Type} (d : DT α) (zs : List α) : decS d (zs.map d.emb) = zs := by
  unfold decS
  rw [List.map_map]
  conv => rhs; rw [← List.map_id zs]
  apply List.map_congr_left
  intro x _
  exact d.vE [] x
def OneCells {α : Type} (d : DT α) : Prop := ∀ (x : α) (ε : Env) (cs : List Value), SatC (d.emb x) ε cs → ∀ v ∈ cs, v.oneCell' = true
def FH.de (f : FuncId) {α : Type} (d : DT α) (k : Nat) (Γ : FH) : FH :=
  FH.on f (fun args m => match args with
    | [x, .int .i64 a, .int .i64 b] => match x with
      | .vec i n => match memAt m i with
        | .vec T w l => .is (w = k ∧ (decS d l).map d.emb = l ∧ n = (decS d l).length ∧ 0 ≤ a ∧ a ≤ b ∧ b ≤ (decS d l).length ∧ 0 < (decS d l).length) (.vec m.length ((decS d l).length - (b.toNat - a.toNat))) (m.set i .dead ++ [.vec T k ((delL (decS d l) a.toNat b.toNat).map d.emb)])
        | _ => .no
      | _ => .no
    | _ => .no) Γ
theorem FH.de_ok {f : FuncId} {α : Type} {d : DT α} {k : Nat} {Γ : FH} (H : Dels P f k) (h1 : OneCells d) (hk : 0 < k) (hΓ : FHOK P Γ) : FHOK P (FH.de f d k Γ) :=
  FH.on_ok (fun args m => by
    split
    · split
      · split
        · rename_i a b _ i n _ T w l hm
          rintro ⟨rfl, h2, h3, h4, h5, h6, h7⟩
          refine ⟨H.ok, ?_⟩
          generalize decS d l = z at h2 h3 h6 h7 ⊢
          subst h2
          have := step_del H hm (n := n) (by simpa using h3) (fun x hx ε cs hs => by obtain ⟨y, _, rfl⟩ := List.mem_map.1 hx; exact h1 y ε cs hs) a b h4 h5 (by simpa using h6) (by simpa using h7) hk
          rwa [List.length_map, delL_map] at this
        · trivial
      · trivial
    · trivial) hΓ
namespace W
theorem fh_de (f : FuncId) {α : Type} (d : DT α) (k : Nat) (Γ : FH) (g : FuncId) (i n : Nat) (a b : Int) (m : List Res) :
    FH.de f d k Γ g [.vec i n, .int .i64 a, .int .i64 b] m = if g = f then (match memAt m i with
        | .vec T w l => .is (w = k ∧ (decS d l).map d.emb = l ∧ n = (decS d l).length ∧ 0 ≤ a ∧ a ≤ b ∧ b ≤ (decS d l).length ∧ 0 < (decS d l).length) (.vec m.length ((decS d l).length - (b.toNat - a.toNat))) (m.set i .dead ++ [.vec T k ((delL (decS d l) a.toNat b.toNat).map d.emb)])
        | _ => .no) else Γ g [.vec i n, .int .i64 a, .int .i64 b] m := nr rfl
theorem fh_de_not (f : FuncId) {α : Type} (d : DT α) (k : Nat) (Γ : FH) (g : FuncId) (args : List SV) (m : List Res) (h : g ≠ f) :
    FH.de f d k Γ g args m = Γ g args m := nr (if_neg h)
end W
attribute [go_sem ↓] W.fh_de W.fh_de_not
attribute [go_sem] decS_emb
end Go.Sx
/-! Sx, part 41: interface values of two dynamic types, as data. -/
set_option linter.unusedVariables false
set_option linter.unusedSimpArgs false
namespace Go.Sx
open Go
variable {P : Program}
def DT.sum {α β : Type} (t1 t2 : TypeId) (a : DT α) (b : DT β) (hne : t2 ≠ t1) : DT (α ⊕ β) where
  dft := .inl a.dft
  emb := fun y => match y with
    | .inl x => .iface t1 (a.emb x)
    | .inr x => .iface t2 (b.emb x)
  decV := fun m x => match x with
    | .iface t y => if t = t1 then .inl (a.decV m y) else .inr (b.decV m y)
    | _ => .inl a.dft
  decP := fun m x => match x with
    | .iface t y => if t = t1 then a.decP m y else (t = t2 ∧ b.decP m y)
    | _ => False
  ok := fun {ε m w} g {x} h {cs} hs => by
    cases x with
    | iface t y =>
      simp only at h ⊢
      simp only [SatC] at hs
      obtain ⟨xs, h1, h2⟩ := hs
      by_cases e : t = t1
      · rw [if_pos e] at h ⊢
        simp only [SatC]
        exact ⟨xs, a.ok g h h1, by rw [h2, a.agg h, e]⟩
      · rw [if_neg e] at h ⊢
        simp only [SatC]
        exact ⟨xs, b.ok g h.2 h1, by rw [h2, b.agg h.2, h.1]⟩
    | _ => exact h.elim
  agg := fun {m x} h => by
    cases x with
    | iface t y =>
      simp only
      by_cases e : t = t1
      · rw [if_pos e]; rfl
      · rw [if_neg e]; rfl
    | _ => exact h.elim
  vE := fun m y => by
    cases y with
    | inl x => simp [a.vE]
    | inr x => simp [b.vE, hne]
  pE := fun m y => by
    cases y with
    | inl x => simp [a.pE]
    | inr x => simp [b.pE, hne]
  ren := fun r y => by cases y <;> simp only [Sx.ren, a.ren, b.ren]
  kill := fun i y => by cases y <;> simp only [Sx.kill, a.kill, b.kill]
  val := fun y => by cases y <;> rfl
theorem noH_iface {t : TypeId} {x : SV} (h : NoH x) : NoH (.iface t x) := by
  intro ε ε' cs h1 h2 h3 hc
  simp only [SatC] at hc ⊢
  obtain ⟨xs, k1, k2⟩ := hc
  exact ⟨xs, h ε ε' xs h1 h2 h3 k1, k2⟩
instance {α β : Type} {t1 t2 : TypeId} {a : DT α} {b : DT β} {hne : t2 ≠ t1} [ha : Flat a] [hb : Flat b] : Flat (DT.sum t1 t2 a b hne) := ⟨fun y => by
  cases y with
  | inl x => exact noH_iface (ha.noH x)
  | inr x => exact noH_iface (hb.noH x)⟩
theorem sum_inl {α β : Type} (t1 t2 : TypeId) (a : DT α) (b : DT β) (hne : t2 ≠ t1) (x : α) : (DT.sum t1 t2 a b hne).emb (.inl x) = .iface t1 (a.emb x) := nr rfl
theorem sum_inr {α β : Type} (t1 t2 : TypeId) (a : DT α) (b : DT β) (hne : t2 ≠ t1) (x : β) : (DT.sum t1 t2 a b hne).emb (.inr x) = .iface t2 (b.emb x) := nr rfl
theorem sum_decV {α β : Type} (t1 t2 : TypeId) (a : DT α) (b : DT β) (hne : t2 ≠ t1) (m : List Res) (t : TypeId) (y : SV) : (DT.sum t1 t2 a b hne).decV m (.iface t y) = if t = t1 then .inl (a.decV m y) else .inr (b.decV m y) := nr rfl
theorem sum_decP {α β : Type} (t1 t2 : TypeId) (a : DT α) (b : DT β) (hne : t2 ≠ t1) (m : List Res) (t : TypeId) (y : SV) : (DT.sum t1 t2 a b hne).decP m (.iface t y) = if t = t1 then a.decP m y else (t = t2 ∧ b.decP m y) := nr rfl
attribute [go_sem] sum_inl sum_inr sum_decV sum_decP
end Go.Sx
