import Derived.Test.YtgcbhanfhnianaaSx47
/-! Sx, part 48: a slice of the call's own, handed to a callee that may grow it. -/
set_option linter.unusedSimpArgs false
set_option linter.unusedVariables false
namespace Go.Sx
open Go
variable {P : Program}
def backD (is : List Nat) (m1 : List Res) (n : Nat) (j : Nat) : Option Nat := if j < is.length then (match memAt m1 j with
  | .dead => none
  | _ => is[j]?) else some (n + (j - is.length))
def mergeD (is : List Nat) (m : List Res) (m1 : List Res) : List Res :=
  (is.zipIdx.foldl (fun (acc : List Res) x => acc.set x.1 (renR (backD is m1 m.length) (memAt m1 x.2))) m) ++ (m1.drop is.length).map (renR (backD is m1 m.length))
theorem mergeD_at {is : List Nat} {m m1 : List Res} (hn : is.Nodup) (hlt : ∀ i ∈ is, i < m.length) (i : Nat) :
    memAt (mergeD is m m1) i = if i ∈ is then renR (backD is m1 m.length) (memAt m1 (is.idxOf i)) else if i < m.length then memAt m i else
      renR (backD is m1 m.length) (memAt m1 (is.length + (i - m.length))) := by
  have hlen := foldl_set_len (fun k => renR (backD is m1 m.length) (memAt m1 k)) is.zipIdx m
  unfold mergeD
  rcases Nat.lt_or_ge i m.length with hi | hi
  · rw [memAt_append_lt (by rw [hlen]; exact hi), foldl_set_at (fun k => renR (backD is m1 m.length) (memAt m1 k)) is 0 m hn hlt i]
    simp [hi]
  · have hni : i ∉ is := fun h => by have := hlt i h; omega
    rw [if_neg hni, if_neg (by omega)]
    have e1 : ∀ (l1 l2 : List Res), l1.length = m.length → memAt (l1 ++ l2) i = memAt l2 (i - m.length) := by
      intro l1 l2 hl1
      unfold memAt
      rw [List.getD, List.getElem?_append_right (by omega), hl1]; rfl
    rw [e1 _ _ hlen]
    unfold memAt
    rw [List.getD, List.getElem?_map, List.getElem?_drop, List.getD]
    cases m1[is.length + (i - m.length)]? <;> rfl

theorem mergeD_length {is : List Nat} {m m1 : List Res} : (mergeD is m m1).length = m.length + (m1.length - is.length) := by
  have hlen := foldl_set_len (fun k => renR (backD is m1 m.length) (memAt m1 k)) is.zipIdx m
  simp [mergeD, hlen]
theorem call_coreD {f : FuncId} {args0 : List SV} {m m0 m1 : List Res} {res : SV} (h : FnOK P f args0 m0 res m1) (is : List Nat) (hn : is.Nodup) (hlt : ∀ i ∈ is, i < m.length)
    (hm : selM is m = m0) (hl : is.length ≤ m1.length) (hvec : ∀ j, j < is.length → memAt m1 j = .dead ∨ (memAt m1 j).isBlk = true ∧ (memAt m (is.getD j 0)).isBlk = true) {β : Base} {ε : Env} {vs : List Value} {w : World} (hi : Inv β ε m w) (hs' : SatA args0 (selE is ε) vs) :
    Calls P f vs.toArray w fun e w' => ∃ v ε', e = .returned v ∧ ε.Le ε' ∧ SatV ε' (ren (backD is m1 m.length) res) v ∧ Inv β ε' (mergeD is m m1) w' := by
  have hg := hi.good.sel is hn
  rw [hm] at hg
  refine (h (selE is ε) w vs hg hs').mono fun e w' ⟨v, ε', he, hv, hi'⟩ => ?_
  subst he
  have hselown : ∀ j, j < is.length → ownR (selE is ε) j (memAt m0 j) = ownR ε (is.getD j 0) (memAt m (is.getD j 0)) := by
    intro j hj
    rw [← hm, selM_at hj]; exact ownR_ren rfl rfl
  have hm0l : m0.length = is.length := by rw [← hm]; simp [selM]
  have hε'n := hi'.good.n
  have hBown : ∀ b, (∃ i, ownR (selE is ε) i (memAt m0 i) = some b) → ∃ i, i ∈ is ∧ ownR ε i (memAt m i) = some b := by
    rintro b ⟨j, hj⟩
    rcases Nat.lt_or_ge j is.length with h1 | h1
    · rw [hselown j h1] at hj
      refine ⟨is.getD j 0, ?_, hj⟩
      simp [List.getD, h1]
    · rw [memAt_ge (by omega)] at hj; cases hj
  -- the caller's environment behind the call
  let ε2 : Env := { n := ε.n + (m1.length - is.length), blk := fun i => if i < ε.n then ε.blk i else ε'.blk (is.length + (i - ε.n)), vv := fun i => if i < ε.n then ε.vv i else ε'.vv (is.length + (i - ε.n)), H := ε'.H }
  have hn2 := hi.good.n
  have hle : ε.Le ε2 := ⟨Nat.le_add_right _ _, fun i hi => by simp [ε2, hi], fun i hi => by simp [ε2, hi], hi'.kept.H⟩
  have hblk' : ∀ j, j < is.length → ε'.blk j = ε.blk (is.getD j 0) := fun j hj => hi'.blk j (by show j < is.length; exact hj)
  have hgetlt : ∀ j, j < is.length → is.getD j 0 < m.length := fun j hj => hlt _ (by simp [List.getD, hj])
  have hvv' : ∀ j, j < is.length → (memAt m1 j).isBlk = true → ε'.vv j = ε.vv (is.getD j 0) := fun j hj hbk => hi'.vv j (by show j < is.length; exact hj) hbk
  have hidx : ∀ i, i ∈ is → is.idxOf i < is.length ∧ is.getD (is.idxOf i) 0 = i := by
    intro i hi
    have hlt := List.idxOf_lt_length_of_mem hi
    exact ⟨hlt, by simp [List.getD, hlt]⟩
  have e2b : ∀ i, i < m.length → ε2.blk i = ε.blk i := fun i hi => by simp [ε2, hn2, hi]
  have e2v : ∀ i, i < m.length → ε2.vv i = ε.vv i := fun i hi => by simp [ε2, hn2, hi]
  have e2b' : ∀ i, m.length ≤ i → ε2.blk i = ε'.blk (is.length + (i - m.length)) := fun i hi => by simp [ε2, hn2, Nat.not_lt.2 hi]
  have e2v' : ∀ i, m.length ≤ i → ε2.vv i = ε'.vv (is.length + (i - m.length)) := fun i hi => by simp [ε2, hn2, Nat.not_lt.2 hi]
  have hren : RenOK (backD is m1 m.length) ε' ε2 := by
    refine ⟨fun j hj i hji => ?_, fun _ _ h => h⟩
    unfold backD at hji
    rw [hε'n] at hj
    split at hji
    · rename_i hjl
      have hbk : (memAt m1 j).isBlk = true := by
        rcases hvec j hjl with h | h
        · rw [h] at hji; cases hji
        · exact h.1
      have hji : is[j]? = some i := by
        cases hmm : memAt m1 j <;> rw [hmm] at hji hbk <;> first | exact hji | cases hbk
      have hg2 : is.getD j 0 = i := by simp [List.getD, hji]
      have hil : i < m.length := by rw [← hg2]; exact hgetlt j hjl
      exact ⟨by simp only [ε2]; omega, by rw [e2b i hil, hblk' j hjl, hg2], by rw [e2v i hil, hvv' j hjl hbk, hg2]⟩
    · rename_i hjl
      simp only [Option.some.injEq] at hji
      subst hji
      have : is.length + (m.length + (j - is.length) - m.length) = j := by omega
      exact ⟨by simp only [ε2]; omega, by rw [e2b' _ (by omega), this], by rw [e2v' _ (by omega), this]⟩
  have hat := mergeD_at (m1 := m1) hn hlt
  -- whose block is it?
  have hA : ∀ i, i ∈ is → ownR ε2 i (memAt (mergeD is m m1) i) = ownR ε' (is.idxOf i) (memAt m1 (is.idxOf i)) := by
    intro i hi
    obtain ⟨h1, h2⟩ := hidx i hi
    rw [hat, if_pos hi]
    rcases hvec _ h1 with hd | hd
    · rw [hd]; rfl
    · exact ownR_ren (by rw [e2b i (hlt i hi), hblk' _ h1, h2]) (by rw [e2v i (hlt i hi), hvv' _ h1 hd.1, h2])
  have hB : ∀ i, i ∉ is → i < m.length → ownR ε2 i (memAt (mergeD is m m1) i) = ownR ε i (memAt m i) := by
    intro i hi hil
    rw [hat, if_neg hi, if_pos hil]
    cases memAt m i <;> simp [ownR, e2b i hil, e2v i hil]
  have hC : ∀ i, m.length ≤ i → ownR ε2 i (memAt (mergeD is m m1) i) = ownR ε' (is.length + (i - m.length)) (memAt m1 (is.length + (i - m.length))) := by
    intro i hi
    have hni : i ∉ is := fun h => by have := hlt i h; omega
    rw [hat, if_neg hni, if_neg (by omega)]
    exact ownR_ren (e2b' i hi) (e2v' i hi)
  have hfrom : ∀ j b, ownR ε' j (memAt m1 j) = some b → (∃ i, i ∈ is ∧ ownR ε i (memAt m i) = some b) ∨ w.heap.size ≤ b := by
    intro j b hb
    rcases hi'.own j b hb with h1 | h1
    · exact .inl (hBown b h1)
    · exact .inr h1
  have hcase : ∀ i b, ownR ε2 i (memAt (mergeD is m m1) i) = some b → (∃ j, ownR ε' j (memAt m1 j) = some b ∧ ((i ∈ is ∧ j = is.idxOf i) ∨ (m.length ≤ i ∧ j = is.length + (i - m.length)))) ∨ (i ∉ is ∧ i < m.length ∧ ownR ε i (memAt m i) = some b) := by
    intro i b hb
    by_cases hi : i ∈ is
    · rw [hA i hi] at hb; exact .inl ⟨_, hb, .inl ⟨hi, rfl⟩⟩
    · rcases Nat.lt_or_ge i m.length with hil | hil
      · rw [hB i hi hil] at hb; exact .inr ⟨hi, hil, hb⟩
      · rw [hC i hil] at hb; exact .inl ⟨_, hb, .inr ⟨hil, rfl⟩⟩
  have hsame : ∀ b, b < w.heap.size → (∀ i, i ∈ is → ownR ε i (memAt m i) ≠ some b) → w'.heap[b]? = w.heap[b]? := by
    intro b hb hno
    refine hi'.kept.heap b hb (fun hBb => ?_)
    obtain ⟨i, h1, h2⟩ := hBown b hBb
    exact hno i h1 h2
  have hinv : Inv β ε2 (mergeD is m m1) w' := by
    refine ⟨⟨by rw [mergeD_length]; simp [ε2, hn2], fun i => ?_, fun i j b hij h1 h2 => ?_, fun i b hb => ?_, fun b o hb => hi'.good.hv b o hb⟩,
      ⟨hi'.kept.os.trans hi.kept.os, hi'.kept.tape.trans hi.kept.tape, hi'.kept.output.trans hi.kept.output, Nat.le_trans hi.kept.size hi'.kept.size, fun b hb hB2 => ?_, fun b o hb => hi'.kept.H b o (hi.kept.H b o hb), fun b o hb => ?_, Nat.le_trans hi.kept.drawn hi'.kept.drawn⟩,
      fun i b hb => ?_, Nat.le_trans hi.n (by simp only [ε2]; omega), fun i hi2 => ?_, fun i hi2 hv2 => ?_⟩
    · by_cases him : i ∈ is
      · obtain ⟨h1, h2⟩ := hidx i him
        rw [hat, if_pos him]
        rcases hvec _ h1 with hd | hd
        · rw [hd]; trivial
        · exact ResOK.ren hren (by rw [e2b i (hlt i him), hblk' _ h1, h2]) (by rw [e2v i (hlt i him), hvv' _ h1 hd.1, h2]) (hi'.good.res _)
      · rcases Nat.lt_or_ge i m.length with hil | hil
        · rw [hat, if_neg him, if_pos hil]
          have hr := hi.good.res i
          have hne : ∀ b, ownR ε i (memAt m i) = some b → w'.heap[b]? = w.heap[b]? := fun b hb =>
            hsame b (ownR_lt hi.good hb) (fun i2 h1 h2 => hi.good.disj i i2 b (fun e => him (e ▸ h1)) hb h2)
          cases hmi : memAt m i with
          | dead => trivial
          | blk T c =>
            rw [hmi] at hr
            obtain ⟨cs, h1, h2⟩ := hr
            exact ⟨cs, by rw [e2b i hil, hne _ (by rw [hmi]; rfl)]; exact h1, h2.mono c hle⟩
          | vec T w2 l =>
            rw [hmi] at hr
            obtain ⟨xs, h1, h2⟩ := hr
            refine ⟨xs, ?_, fun k hk => (h2 k hk).mono _ hle⟩
            rw [e2v i hil]
            refine ⟨h1.1, ?_⟩
            rcases h1.2 with hx | ⟨gg, cap, cur, q1, q2, q3, q4⟩
            · exact .inl hx
            · exact .inr ⟨gg, cap, cur, q1, q2, by rw [hne gg (by rw [hmi]; simp [ownR, q1, Value.ownBlock])]; exact q3, q4⟩
          | mp ek ev l =>
            rw [hmi] at hr
            obtain ⟨es, cl, h1, h2⟩ := hr
            exact ⟨es, cl, by rw [e2b i hil, hne _ (by rw [hmi]; rfl)]; exact h1, h2⟩
        · rw [hat, if_neg him, if_neg (by omega)]
          exact ResOK.ren hren (e2b' i hil) (e2v' i hil) (hi'.good.res _)
    · rcases hcase i b h1 with ⟨a, ha, hai⟩ | ⟨hi1, hi2, hi3⟩ <;> rcases hcase j b h2 with ⟨c, hc, hcj⟩ | ⟨hj1, hj2, hj3⟩
      · refine hi'.good.disj a c b (fun e => hij ?_) ha hc
        subst e
        rcases hai with ⟨q1, q2⟩ | ⟨q1, q2⟩ <;> rcases hcj with ⟨q3, q4⟩ | ⟨q3, q4⟩
        · rw [← (hidx i q1).2, ← (hidx j q3).2, ← q2, ← q4]
        · have := (hidx i q1).1; omega
        · have := (hidx j q3).1; omega
        · omega
      · rcases hfrom a b ha with ⟨i2, q1, q2⟩ | q
        · exact hi.good.disj i2 j b (fun e => hj1 (e ▸ q1)) q2 hj3
        · have := ownR_lt hi.good hj3; omega
      · rcases hfrom c b hc with ⟨i2, q1, q2⟩ | q
        · exact hi.good.disj i2 i b (fun e => hi1 (e ▸ q1)) q2 hi3
        · have := ownR_lt hi.good hi3; omega
      · exact hi.good.disj i j b hij hi3 hj3
    · rcases hcase i b hb with ⟨a, ha, _⟩ | ⟨hi1, hi2, hi3⟩
      · exact hi'.good.sep a b ha
      · cases hh : ε'.H b with
        | none => rfl
        | some o =>
          rcases hi'.kept.fresh b o hh with q | q | q
          · have q' : ε.H b = some o := q
            have := hi.good.sep i b hi3; rw [this] at q'; cases q'
          · have := ownR_lt hi.good hi3
            have q' : w.heap.size ≤ b := q
            omega
          · obtain ⟨i2, q1, q2⟩ := hBown b q
            exact absurd hi3 (hi.good.disj i2 i b (fun e => hi1 (e ▸ q1)) q2)
    · rw [hsame b (Nat.lt_of_lt_of_le hb hi.kept.size) (fun i h1 h2 => by
        rcases hi.own i b h2 with q | q
        · exact hB2 q
        · omega)]
      exact hi.kept.heap b hb hB2
    · rcases hi'.kept.fresh b o hb with q | q | q
      · exact hi.kept.fresh b o q
      · exact .inr (.inl (Nat.le_trans hi.kept.size q))
      · obtain ⟨i, _, q2⟩ := hBown b q
        rcases hi.own i b q2 with q | q
        · exact .inr (.inr q)
        · exact .inr (.inl q)
    · rcases hcase i b hb with ⟨a, ha, _⟩ | ⟨_, _, hi3⟩
      · rcases hfrom a b ha with ⟨i2, _, q2⟩ | q
        · exact hi.own i2 b q2
        · exact .inr (Nat.le_trans hi.kept.size q)
      · exact hi.own i b hi3
    · have := hi.n
      rw [e2b i (by omega)]; exact hi.blk i hi2
    · have := hi.n
      rw [e2v i (by omega)]
      refine hi.vv i hi2 ?_
      by_cases him : i ∈ is
      · obtain ⟨h1, h2⟩ := hidx i him
        rcases hvec _ h1 with hd | hd
        · rw [hat, if_pos him, hd] at hv2; cases hv2
        · rw [← h2]; exact hd.2
      · rw [hat, if_neg him, if_pos (by omega)] at hv2; exact hv2
  exact ⟨v, ε2, rfl, hle, hv.ren hren, hinv⟩

theorem call_of_fnD {f : FuncId} {args args0 : List SV} {m m0 m1 : List Res} {res : SV} (h : FnOK P f args0 m0 res m1) (is : List Nat) (hn : is.Nodup) (hlt : ∀ i ∈ is, i < m.length)
    (ha : renL (selI is) args = args0) (hm : selM is m = m0) (hl : is.length ≤ m1.length) (hvec : ∀ j, j < is.length → memAt m1 j = .dead ∨ (memAt m1 j).isBlk = true ∧ (memAt m (is.getD j 0)).isBlk = true) :
    CallStep P f args m (ren (backD is m1 m.length) res) (mergeD is m m1) := by
  intro β ε vs w hi hs
  have hs' := SatA.ren (selI is) args (sel_ren is ε) hs
  rw [ha] at hs'
  exact call_coreD h is hn hlt hm hl hvec hi hs'
def mvI (k n : Nat) (j : Nat) : Option Nat := if j = k then some n else some j
def mvM (k : Nat) (m : List Res) : List Res := (m.set k .dead).map (renR (mvI k m.length)) ++ [renR (mvI k m.length) (memAt m k)]
def mvE (k : Nat) (ε : Env) : Env := { ε with n := ε.n + 1, blk := fun i => if i = ε.n then ε.blk k else ε.blk i, vv := fun i => if i = ε.n then ε.vv k else ε.vv i }
theorem mv_ren {k : Nat} {ε : Env} (hk : k < ε.n) : RenOK (mvI k ε.n) ε (mvE k ε) := by
  refine ⟨fun i hi j hj => ?_, fun _ _ h => h⟩
  unfold mvI at hj
  split at hj
  · rename_i e
    subst e
    cases hj
    exact ⟨Nat.lt_succ_self _, by simp [mvE], by simp [mvE]⟩
  · cases hj
    exact ⟨Nat.lt_succ_of_lt hi, by simp [mvE, Nat.ne_of_lt hi], by simp [mvE, Nat.ne_of_lt hi]⟩
theorem mvM_at {k : Nat} {m : List Res} (hk : k < m.length) (i : Nat) : memAt (mvM k m) i = if i = m.length then renR (mvI k m.length) (memAt m k) else if i = k then .dead else renR (mvI k m.length) (memAt m i) := by
  unfold mvM
  rcases Nat.lt_trichotomy i m.length with h | h | h
  · rw [memAt_append_lt (by simpa using h), if_neg (Nat.ne_of_lt h)]
    unfold memAt
    rw [List.getD, List.getElem?_map, List.getElem?_set]
    by_cases e : k = i
    · subst e
      rw [if_pos rfl, if_pos hk, if_pos rfl]; rfl
    · rw [if_neg e, if_neg (fun h => e h.symm), List.getD, List.getElem?_eq_getElem h]; rfl
  · subst h
    rw [if_pos rfl]
    unfold memAt
    rw [List.getD, List.getElem?_append_right (by simp)]
    simp
  · rw [if_neg (by omega), if_neg (by omega), memAt_ge (by simp; omega), memAt_ge (by omega)]; rfl
theorem Inv.moveV {β : Base} {ε : Env} {m : List Res} {w : World} (h : Inv β ε m w) {k : Nat} {T : TypeId} {wd : Nat} {l : List SV} (hm : memAt m k = .vec T wd l) : Inv β (mvE k ε) (mvM k m) w := by
  have hn := h.good.n
  have hk : k < m.length := by
    rcases Nat.lt_or_ge k m.length with h' | h'
    · exact h'
    · rw [memAt_ge h'] at hm; cases hm
  have hr : RenOK (mvI k m.length) ε (mvE k ε) := by rw [← hn]; exact mv_ren (by omega)
  have hat := mvM_at hk
  have hb : ∀ i, i ≠ m.length → (mvE k ε).blk i = ε.blk i := fun i hi => by simp [mvE, hn, hi]
  have hv : ∀ i, i ≠ m.length → (mvE k ε).vv i = ε.vv i := fun i hi => by simp [mvE, hn, hi]
  have hbn : (mvE k ε).blk m.length = ε.blk k := by simp [mvE, hn]
  have hvn : (mvE k ε).vv m.length = ε.vv k := by simp [mvE, hn]
  have hown : ∀ i b, ownR (mvE k ε) i (memAt (mvM k m) i) = some b → ∃ j, ownR ε j (memAt m j) = some b ∧ (i = m.length ∧ j = k ∨ i ≠ m.length ∧ i ≠ k ∧ j = i) := by
    intro i b hi
    rw [hat] at hi
    by_cases e : i = m.length
    · subst e
      rw [if_pos rfl, ownR_ren (i := k) hbn hvn] at hi
      exact ⟨k, hi, .inl ⟨rfl, rfl⟩⟩
    · rw [if_neg e] at hi
      by_cases e2 : i = k
      · rw [if_pos e2] at hi; cases hi
      · rw [if_neg e2, ownR_ren (i := i) (hb i e) (hv i e)] at hi
        exact ⟨i, hi, .inr ⟨e, e2, rfl⟩⟩
  refine ⟨⟨by simp [mvE, mvM, hn], fun i => ?_, fun i j b hij h1 h2 => ?_, fun i b hi => ?_, h.good.hv⟩, ⟨h.kept.os, h.kept.tape, h.kept.output, h.kept.size, h.kept.heap, h.kept.H, h.kept.fresh, h.kept.drawn⟩, fun i b hi => ?_, Nat.le_succ_of_le h.n, fun i hi => ?_, fun i hi hbk => ?_⟩
  · rw [hat]
    by_cases e : i = m.length
    · subst e
      rw [if_pos rfl]
      exact ResOK.ren hr hbn hvn (h.good.res k)
    · rw [if_neg e]
      by_cases e2 : i = k
      · rw [if_pos e2]; trivial
      · rw [if_neg e2]
        exact ResOK.ren hr (hb i e) (hv i e) (h.good.res i)
  · obtain ⟨a, ha, ca⟩ := hown i b h1
    obtain ⟨c, hc, cc⟩ := hown j b h2
    refine h.good.disj a c b (fun e => hij ?_) ha hc
    subst e
    rcases ca with ⟨q1, q2⟩ | ⟨q1, q2, q3⟩ <;> rcases cc with ⟨r1, r2⟩ | ⟨r1, r2, r3⟩
    · rw [q1, r1]
    · exact absurd (r3.symm.trans q2) r2
    · exact absurd (q3.symm.trans r2) q2
    · rw [← q3, ← r3]
  · obtain ⟨a, ha, _⟩ := hown i b hi
    exact h.good.sep a b ha
  · obtain ⟨a, ha, _⟩ := hown i b hi
    exact h.own a b ha
  · have := h.n
    rw [hb i (by omega)]; exact h.blk i hi
  · have := h.n
    have e : i ≠ m.length := by omega
    rw [hat, if_neg e] at hbk
    by_cases e2 : i = k
    · rw [if_pos e2] at hbk; cases hbk
    · rw [if_neg e2] at hbk
      rw [hv i e]
      refine h.vv i hi ?_
      cases hmi : memAt m i <;> rw [hmi] at hbk <;> first | rfl | exact hbk
theorem FnOK.moveV {f : FuncId} {args : List SV} {m0 m1 : List Res} {res : SV} (h : FnOK P f args m0 res m1) {k : Nat} {T : TypeId} {wd : Nat} {l : List SV} (hm : memAt m1 k = .vec T wd l) : FnOK P f args m0 (ren (mvI k m1.length) res) (mvM k m1) := by
  intro ε w vs g hs
  refine (h ε w vs g hs).mono fun e w' ⟨v, ε', he, hv, hi⟩ => ⟨v, mvE k ε', he, ?_, hi.moveV hm⟩
  have hk : k < m1.length := by
    rcases Nat.lt_or_ge k m1.length with h' | h'
    · exact h'
    · rw [memAt_ge h'] at hm; cases hm
  have hr : RenOK (mvI k m1.length) ε' (mvE k ε') := by rw [← hi.good.n]; exact mv_ren (by rw [hi.good.n]; exact hk)
  exact hv.ren hr
def endV (l : List Nat) (rs : List ResultVar) (P : Program) (n0 : Nat) (res : SV) (m1 : List Res) (e : Ex) (τ : Fr) (m : List Res) : Prop := match e with
  | .exit _ => False
  | _ => resF P τ m (fun x => packJ (upto n0 0 ++ l) res m1 m x) rs
theorem endV_ok {l : List Nat} {n : Nat} {σ : List SV} {τ : Fr} {m : List Res} (hr : Rep n σ τ) {rs : List ResultVar} {n0 : Nat} {res : SV} {m1 : List Res} {e : Ex} (h : endV l rs P n0 res m1 e τ m) : endK rs P n0 res m1 e σ m := by
  cases e with
  | exit i => exact h
  | norm =>
    have h : resF P τ m (fun x => packJ (upto n0 0 ++ l) res m1 m x) rs := h
    exact resK_mono (fun x hx => packJ_ok hx) (resF_ok hr h)
  | ret =>
    have h : resF P τ m (fun x => packJ (upto n0 0 ++ l) res m1 m x) rs := h
    exact resK_mono (fun x hx => packJ_ok hx) (resF_ok hr h)
theorem fn_walkV (l : List Nat) {quiet : FuncId → Bool} {f : FuncId} {jc : JC} {rs : List ResultVar} {nt : Nat} (hfn : fnIs P quiet f = some (jc.flat, rs, nt)) (hwf : jc.wf nt = true) {Γ : FH} (hΓ : FHOK P Γ) {args : List SV} {m0 m1 : List Res} {res : SV} (hn' : Nat.ble args.length nt = true)
    (h : jc.wp Γ m0.length (endV l rs P m0.length res m1) (argF 0 args) m0) : FnOK P f args m0 res m1 := by
  have hn : args.length ≤ nt := Nat.le_of_ble_eq_true hn'
  obtain ⟨_, fn, c, hf, hb, hc, hrs, hnt⟩ := fnIs_ok hfn
  intro ε w vs hg hs
  have hlen : args.length = vs.length := (slots_start hs 0).1 |> fun h => by simpa using h
  refine calls_of_wp hf hb ?_
  have hi := Inv.start hg
  have hsl := slots_start hs (nt - args.length)
  have e : fn.ntmps - vs.toArray.size = nt - args.length := by simp; omega
  rw [e]
  refine Code.wp_mono (fun e a w' he => ?_) (JC.sound hΓ (Nat.le_of_eq hg.n) (d := []) jc c hc hwf _ _ _ h ε _ w hi ⟨_, argF_rep args nt hn, hsl⟩ rfl)
  obtain ⟨ex, τ', m', ε', h1, h2, h3, ⟨σ', hr, h4⟩, h5⟩ := he
  replace h2 := endV_ok hr h2
  have fin : ∀ (hres : resK P σ' m' (fun x => ∃ ks, packK ks m0.length res m1 m' x) rs), a.defers = [] ∧ ∃ v, (results fn a.tmps).run P w' = .ok v w' ∧
      ∃ v' ε'', Ending.returned v = .returned v' ∧ SatV ε'' res v' ∧ Inv ⟨w, ε, fun b => ∃ i, ownR ε i (memAt m0 i) = some b⟩ ε'' m1 w' := by
    intro hres
    obtain ⟨x, ⟨ks, ⟨k1, k2⟩, k3, k4⟩, hrun⟩ := resK_sound hrs hres
    obtain ⟨v, e1, e2⟩ := hrun ε' a w' h3.good h4
    refine ⟨h5, v, e1, v, selE ks ε', rfl, ?_, ?_⟩
    · rw [← k3]; exact e2.ren (sel_ren ks ε')
    · rw [← k4]; exact h3.sel ks k1 (fun i hi => k2 i (by rw [← hg.n]; exact hi))
  cases e <;> cases ex <;> simp only [ExRel] at h1
  · exact fin h2
  · exact h2.elim
  · exact fin h2
theorem endV_norm {l : List Nat} {rs : List ResultVar} {P : Program} {n0 : Nat} {res : SV} {m1 : List Res} {τ : Fr} {m : List Res} : endV l rs P n0 res m1 .norm τ m = resF P τ m (fun x => packJ (upto n0 0 ++ l) res m1 m x) rs := propext Iff.rfl
theorem endV_ret {l : List Nat} {rs : List ResultVar} {P : Program} {n0 : Nat} {res : SV} {m1 : List Res} {τ : Fr} {m : List Res} : endV l rs P n0 res m1 .ret τ m = resF P τ m (fun x => packJ (upto n0 0 ++ l) res m1 m x) rs := propext Iff.rfl
theorem endV_exit {l : List Nat} {rs : List ResultVar} {P : Program} {n0 : Nat} {res : SV} {m1 : List Res} {τ : Fr} {m : List Res} (i : Nat) : endV l rs P n0 res m1 (.exit i) τ m = False := propext Iff.rfl
theorem endV_congr {l : List Nat} {rs : List ResultVar} {P : Program} {n0 : Nat} {res : SV} {m1 : List Res} {e e' : Ex} {τ : Fr} {m : List Res} (h : W.wrp e = e') : endV l rs P n0 res m1 e τ m = endV l rs P n0 res m1 e' τ m := by subst h; rfl
attribute [congr] endV_congr
attribute [go_sem ↓] endV_norm endV_ret endV_exit
end Go.Sx
