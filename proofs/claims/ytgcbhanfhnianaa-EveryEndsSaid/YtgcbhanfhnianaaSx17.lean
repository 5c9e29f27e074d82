import Derived.Test.YtgcbhanfhnianaaSx13
/-! Sx, part 14: contracts of functions. -/
set_option linter.unusedSimpArgs false
set_option linter.unusedVariables false
namespace Go.Sx
open Go

variable {P : Program}

def FnOK (P : Program) (f : FuncId) (args : List SV) (m0 : List Res) (res : SV) (m1 : List Res) : Prop :=
  ∀ ε w vs, Good ε m0 w → SatA args ε vs → Calls P f vs.toArray w fun e w' => ∃ v ε', e = .returned v ∧ SatV ε' res v ∧ Inv ⟨w, ε, fun b => ∃ i, ownR ε i (memAt m0 i) = some b⟩ ε' m1 w'

theorem Inv.start {ε : Env} {m : List Res} {w : World} (g : Good ε m w) : Inv ⟨w, ε, fun b => ∃ i, ownR ε i (memAt m i) = some b⟩ ε m w :=
  ⟨g, Kept.refl _ _ _, fun i _ h => .inl ⟨i, h⟩, Nat.le_refl _, fun _ _ => rfl, fun _ _ _ => rfl⟩


theorem slots_start {ε : Env} : ∀ {args : List SV} {vs : List Value} (_ : SatA args ε vs) (n : Nat), SlotsOK ε (args ++ List.replicate n .junk) { tmps := vs.toArray ++ Array.replicate n undef, defers := [] } := by
  intro args vs h n
  have hl : ∀ {args : List SV} {vs : List Value}, SatA args ε vs → args.length = vs.length ∧ ∀ k, k < args.length → SatV ε (args.getD k .junk) (vs.getD k undef) := by
    intro args
    induction args with
    | nil => intro vs h; simp only [SatA] at h; subst h; exact ⟨rfl, fun k hk => absurd hk (Nat.not_lt_zero _)⟩
    | cons x r ih =>
      intro vs h
      simp only [SatA] at h
      obtain ⟨cs, t, rfl, h2, h3⟩ := h
      obtain ⟨i1, i2⟩ := ih h3
      refine ⟨by simp [i1], fun k hk => ?_⟩
      cases k with
      | zero => exact satC_sat h2
      | succ k => simp only [List.getD_cons_succ]; exact i2 k (by simpa using hk)
  obtain ⟨h1, h2⟩ := hl h
  refine ⟨by simp [h1], fun k => ?_⟩
  by_cases hk : k < args.length
  · have e1 : (args ++ List.replicate n SV.junk).getD k .junk = args.getD k .junk := by simp [List.getD, List.getElem?_append_left hk]
    have e2 : (vs.toArray ++ Array.replicate n undef).getD k undef = vs.getD k undef := by
      rw [Array.getD_eq_getD_getElem?, Array.getElem?_append_left (by simp; omega)]
      simp [List.getD]
    rw [e1, e2]
    exact h2 k hk
  · have e1 : (args ++ List.replicate n SV.junk).getD k .junk = .junk := by
      simp only [List.getD, List.getElem?_append_right (Nat.le_of_not_lt hk)]
      rw [List.getElem?_replicate]
      split <;> rfl
    rw [e1]; trivial

def resK (P : Program) (σ : List SV) (m : List Res) (K : SV → Prop) : List ResultVar → Prop
  | [] => K (.tup [])
  | [.tmp t] => K (σ.getD t .junk)
  | [.cell t T] => match tsz P T with
    | some (n, ag) => peek m n ag K (σ.getD t .junk)
    | none => False
  | l => go l fun xs => K (.tup xs)
where go : List ResultVar → (List SV → Prop) → Prop
  | [], K => K []
  | .tmp t :: r, K => (σ.getD t .junk).isVal = true ∧ go r fun xs => K (σ.getD t .junk :: xs)
  | .cell t T :: r, K => match tsz P T with
    | some (n, ag) => peek m n ag (fun x => x.isVal = true ∧ go r fun xs => K (x :: xs)) (σ.getD t .junk)
    | none => False

end Go.Sx
/-! Sx, part 15: a function's body makes its contract; a contract makes a call. -/
set_option linter.unusedSimpArgs false
set_option linter.unusedVariables false
namespace Go.Sx
open Go

variable {P : Program}

def backI (is : List Nat) (n : Nat) (j : Nat) : Option Nat := if j < is.length then is[j]? else some (n + (j - is.length))

def mergeM (is : List Nat) (m : List Res) (m1 : List Res) : List Res :=
  (is.zipIdx.foldl (fun (acc : List Res) x => acc.set x.1 (renR (backI is m.length) (memAt m1 x.2))) m) ++ (m1.drop is.length).map (renR (backI is m.length))

theorem foldl_set_len (r : Nat → Res) : ∀ (l : List (Nat × Nat)) (m : List Res), (l.foldl (fun (acc : List Res) x => acc.set x.1 (r x.2)) m).length = m.length
  | [], _ => rfl
  | x :: l, m => by simp only [List.foldl_cons]; rw [foldl_set_len r l]; simp

theorem foldl_set_at (r : Nat → Res) : ∀ (is : List Nat) (k : Nat) (m : List Res) (_ : is.Nodup) (_ : ∀ i ∈ is, i < m.length) (i : Nat),
    memAt ((is.zipIdx k).foldl (fun (acc : List Res) x => acc.set x.1 (r x.2)) m) i = if i ∈ is then r (k + is.idxOf i) else memAt m i
  | [], k, m, _, _, i => by simp
  | a :: is, k, m, hn, hlt, i => by
    simp only [List.zipIdx_cons, List.foldl_cons]
    have hn' := List.nodup_cons.1 hn
    rw [foldl_set_at r is (k + 1) _ hn'.2 (fun j hj => by rw [List.length_set]; exact hlt j (by simp [hj])) i]
    by_cases hi : i ∈ is
    · rw [if_pos hi, if_pos (by simp [hi])]
      have : i ≠ a := fun e => hn'.1 (e ▸ hi)
      have he : (a :: is).idxOf i = is.idxOf i + 1 := by
        rw [List.idxOf_cons]
        have : (a == i) = false := by simpa using fun e => this e.symm
        rw [this]; rfl
      rw [he]
      congr 1; omega
    · rw [if_neg hi]
      by_cases hia : i = a
      · subst hia
        rw [if_pos (by simp), List.idxOf_cons_self, Nat.add_zero]
        have := hlt i (by simp)
        simp [memAt, this]
      · rw [if_neg (by simp [hi, hia])]
        unfold memAt
        simp only [List.getD_eq_getElem?_getD, List.getElem?_set]
        rw [if_neg (fun e => hia e.symm)]

theorem merge_at {is : List Nat} {m m1 : List Res} (hn : is.Nodup) (hlt : ∀ i ∈ is, i < m.length) (i : Nat) :
    memAt (mergeM is m m1) i = if i ∈ is then renR (backI is m.length) (memAt m1 (is.idxOf i)) else if i < m.length then memAt m i else
      renR (backI is m.length) (memAt m1 (is.length + (i - m.length))) := by
  have hlen := foldl_set_len (fun k => renR (backI is m.length) (memAt m1 k)) is.zipIdx m
  unfold mergeM
  rcases Nat.lt_or_ge i m.length with hi | hi
  · rw [memAt_append_lt (by rw [hlen]; exact hi), foldl_set_at (fun k => renR (backI is m.length) (memAt m1 k)) is 0 m hn hlt i]
    simp [hi]
  · have hni : i ∉ is := fun h => by have := hlt i h; omega
    rw [if_neg hni, if_neg (by omega)]
    have e1 : ∀ (l1 l2 : List Res), l1.length = m.length → memAt (l1 ++ l2) i = memAt l2 (i - m.length) := by
      intro l1 l2 hl1
      unfold memAt
      rw [List.getD, List.getElem?_append_right (by omega), hl1]; rfl
    rw [e1 _ _ hlen]
    unfold memAt
    rw [List.getD, List.getElem?_map, List.getElem?_drop, List.getD]
    cases m1[is.length + (i - m.length)]? <;> rfl

theorem merge_length {is : List Nat} {m m1 : List Res} : (mergeM is m m1).length = m.length + (m1.length - is.length) := by
  have hlen := foldl_set_len (fun k => renR (backI is m.length) (memAt m1 k)) is.zipIdx m
  simp [mergeM, hlen]

theorem call_core {f : FuncId} {args0 : List SV} {m m0 m1 : List Res} {res : SV} (h : FnOK P f args0 m0 res m1) (is : List Nat) (hn : is.Nodup) (hb : ∀ i ∈ is, (memAt m i).isBlk = true)
    (hm : selM is m = m0) (hl : is.length ≤ m1.length) (hvec : ∀ j, j < is.length → (memAt m1 j).isBlk = true) {β : Base} {ε : Env} {vs : List Value} {w : World} (hi : Inv β ε m w) (hs' : SatA args0 (selE is ε) vs) :
    Calls P f vs.toArray w fun e w' => ∃ v ε', e = .returned v ∧ ε.Le ε' ∧ SatV ε' (ren (backI is m.length) res) v ∧ Inv β ε' (mergeM is m m1) w' := by
  have hlt : ∀ i ∈ is, i < m.length := by
    intro i h
    rcases Nat.lt_or_ge i m.length with h' | h'
    · exact h'
    · have := hb i h; rw [memAt_ge h'] at this; cases this
  have hg := hi.good.sel is hn
  rw [hm] at hg
  refine (h (selE is ε) w vs hg hs').mono fun e w' ⟨v, ε', he, hv, hi'⟩ => ?_
  subst he
  have hselown : ∀ j, j < is.length → ownR (selE is ε) j (memAt m0 j) = ownR ε (is.getD j 0) (memAt m (is.getD j 0)) := by
    intro j hj
    rw [← hm, selM_at hj]; exact ownR_ren rfl rfl
  have hm0l : m0.length = is.length := by rw [← hm]; simp [selM]
  have hε'n := hi'.good.n
  have hBown : ∀ b, (∃ i, ownR (selE is ε) i (memAt m0 i) = some b) → ∃ i, i ∈ is ∧ ownR ε i (memAt m i) = some b := by
    rintro b ⟨j, hj⟩
    rcases Nat.lt_or_ge j is.length with h1 | h1
    · rw [hselown j h1] at hj
      refine ⟨is.getD j 0, ?_, hj⟩
      simp [List.getD, h1]
    · rw [memAt_ge (by omega)] at hj; cases hj
  -- the caller's environment behind the call
  let ε2 : Env := { n := ε.n + (m1.length - is.length), blk := fun i => if i < ε.n then ε.blk i else ε'.blk (is.length + (i - ε.n)), vv := fun i => if i < ε.n then ε.vv i else ε'.vv (is.length + (i - ε.n)), H := ε'.H }
  have hn2 := hi.good.n
  have hle : ε.Le ε2 := ⟨Nat.le_add_right _ _, fun i hi => by simp [ε2, hi], fun i hi => by simp [ε2, hi], hi'.kept.H⟩
  have hblk' : ∀ j, j < is.length → ε'.blk j = ε.blk (is.getD j 0) := fun j hj => hi'.blk j (by show j < is.length; exact hj)
  have hgetlt : ∀ j, j < is.length → is.getD j 0 < m.length := fun j hj => hlt _ (by simp [List.getD, hj])
  have hvv' : ∀ j, j < is.length → ε'.vv j = ε.vv (is.getD j 0) := fun j hj => hi'.vv j (by show j < is.length; exact hj) (hvec j hj)
  have hidx : ∀ i, i ∈ is → is.idxOf i < is.length ∧ is.getD (is.idxOf i) 0 = i := by
    intro i hi
    have hlt := List.idxOf_lt_length_of_mem hi
    exact ⟨hlt, by simp [List.getD, hlt]⟩
  have e2b : ∀ i, i < m.length → ε2.blk i = ε.blk i := fun i hi => by simp [ε2, hn2, hi]
  have e2v : ∀ i, i < m.length → ε2.vv i = ε.vv i := fun i hi => by simp [ε2, hn2, hi]
  have e2b' : ∀ i, m.length ≤ i → ε2.blk i = ε'.blk (is.length + (i - m.length)) := fun i hi => by simp [ε2, hn2, Nat.not_lt.2 hi]
  have e2v' : ∀ i, m.length ≤ i → ε2.vv i = ε'.vv (is.length + (i - m.length)) := fun i hi => by simp [ε2, hn2, Nat.not_lt.2 hi]
  have hren : RenOK (backI is m.length) ε' ε2 := by
    refine ⟨fun j hj i hji => ?_, fun _ _ h => h⟩
    unfold backI at hji
    rw [hε'n] at hj
    split at hji
    · rename_i hjl
      have hg2 : is.getD j 0 = i := by simp [List.getD, hji]
      have hil : i < m.length := by rw [← hg2]; exact hgetlt j hjl
      exact ⟨by simp only [ε2]; omega, by rw [e2b i hil, hblk' j hjl, hg2], by rw [e2v i hil, hvv' j hjl, hg2]⟩
    · rename_i hjl
      simp only [Option.some.injEq] at hji
      subst hji
      have : is.length + (m.length + (j - is.length) - m.length) = j := by omega
      exact ⟨by simp only [ε2]; omega, by rw [e2b' _ (by omega), this], by rw [e2v' _ (by omega), this]⟩
  have hat := merge_at (m1 := m1) hn hlt
  -- whose block is it?
  have hA : ∀ i, i ∈ is → ownR ε2 i (memAt (mergeM is m m1) i) = ownR ε' (is.idxOf i) (memAt m1 (is.idxOf i)) := by
    intro i hi
    obtain ⟨h1, h2⟩ := hidx i hi
    rw [hat, if_pos hi]
    exact ownR_ren (by rw [e2b i (hlt i hi), hblk' _ h1, h2]) (by rw [e2v i (hlt i hi), hvv' _ h1, h2])
  have hB : ∀ i, i ∉ is → i < m.length → ownR ε2 i (memAt (mergeM is m m1) i) = ownR ε i (memAt m i) := by
    intro i hi hil
    rw [hat, if_neg hi, if_pos hil]
    cases memAt m i <;> simp [ownR, e2b i hil, e2v i hil]
  have hC : ∀ i, m.length ≤ i → ownR ε2 i (memAt (mergeM is m m1) i) = ownR ε' (is.length + (i - m.length)) (memAt m1 (is.length + (i - m.length))) := by
    intro i hi
    have hni : i ∉ is := fun h => by have := hlt i h; omega
    rw [hat, if_neg hni, if_neg (by omega)]
    exact ownR_ren (e2b' i hi) (e2v' i hi)
  have hfrom : ∀ j b, ownR ε' j (memAt m1 j) = some b → (∃ i, i ∈ is ∧ ownR ε i (memAt m i) = some b) ∨ w.heap.size ≤ b := by
    intro j b hb
    rcases hi'.own j b hb with h1 | h1
    · exact .inl (hBown b h1)
    · exact .inr h1
  have hcase : ∀ i b, ownR ε2 i (memAt (mergeM is m m1) i) = some b → (∃ j, ownR ε' j (memAt m1 j) = some b ∧ ((i ∈ is ∧ j = is.idxOf i) ∨ (m.length ≤ i ∧ j = is.length + (i - m.length)))) ∨ (i ∉ is ∧ i < m.length ∧ ownR ε i (memAt m i) = some b) := by
    intro i b hb
    by_cases hi : i ∈ is
    · rw [hA i hi] at hb; exact .inl ⟨_, hb, .inl ⟨hi, rfl⟩⟩
    · rcases Nat.lt_or_ge i m.length with hil | hil
      · rw [hB i hi hil] at hb; exact .inr ⟨hi, hil, hb⟩
      · rw [hC i hil] at hb; exact .inl ⟨_, hb, .inr ⟨hil, rfl⟩⟩
  have hsame : ∀ b, b < w.heap.size → (∀ i, i ∈ is → ownR ε i (memAt m i) ≠ some b) → w'.heap[b]? = w.heap[b]? := by
    intro b hb hno
    refine hi'.kept.heap b hb (fun hBb => ?_)
    obtain ⟨i, h1, h2⟩ := hBown b hBb
    exact hno i h1 h2
  have hinv : Inv β ε2 (mergeM is m m1) w' := by
    refine ⟨⟨by rw [merge_length]; simp [ε2, hn2], fun i => ?_, fun i j b hij h1 h2 => ?_, fun i b hb => ?_, fun b o hb => hi'.good.hv b o hb⟩,
      ⟨hi'.kept.os.trans hi.kept.os, hi'.kept.tape.trans hi.kept.tape, hi'.kept.output.trans hi.kept.output, Nat.le_trans hi.kept.size hi'.kept.size, fun b hb hB2 => ?_, fun b o hb => hi'.kept.H b o (hi.kept.H b o hb), fun b o hb => ?_, Nat.le_trans hi.kept.drawn hi'.kept.drawn⟩,
      fun i b hb => ?_, Nat.le_trans hi.n (by simp only [ε2]; omega), fun i hi2 => ?_, fun i hi2 hv2 => ?_⟩
    · by_cases him : i ∈ is
      · obtain ⟨h1, h2⟩ := hidx i him
        rw [hat, if_pos him]
        exact ResOK.ren hren (by rw [e2b i (hlt i him), hblk' _ h1, h2]) (by rw [e2v i (hlt i him), hvv' _ h1, h2]) (hi'.good.res _)
      · rcases Nat.lt_or_ge i m.length with hil | hil
        · rw [hat, if_neg him, if_pos hil]
          have hr := hi.good.res i
          have hne : ∀ b, ownR ε i (memAt m i) = some b → w'.heap[b]? = w.heap[b]? := fun b hb =>
            hsame b (ownR_lt hi.good hb) (fun i2 h1 h2 => hi.good.disj i i2 b (fun e => him (e ▸ h1)) hb h2)
          cases hmi : memAt m i with
          | dead => trivial
          | blk T c =>
            rw [hmi] at hr
            obtain ⟨cs, h1, h2⟩ := hr
            exact ⟨cs, by rw [e2b i hil, hne _ (by rw [hmi]; rfl)]; exact h1, h2.mono c hle⟩
          | vec T w2 l =>
            rw [hmi] at hr
            obtain ⟨xs, h1, h2⟩ := hr
            refine ⟨xs, ?_, fun k hk => (h2 k hk).mono _ hle⟩
            rw [e2v i hil]
            refine ⟨h1.1, ?_⟩
            rcases h1.2 with hx | ⟨gg, cap, cur, q1, q2, q3, q4⟩
            · exact .inl hx
            · exact .inr ⟨gg, cap, cur, q1, q2, by rw [hne gg (by rw [hmi]; simp [ownR, q1, Value.ownBlock])]; exact q3, q4⟩
          | mp ek ev l =>
            rw [hmi] at hr
            obtain ⟨es, cl, h1, h2⟩ := hr
            exact ⟨es, cl, by rw [e2b i hil, hne _ (by rw [hmi]; rfl)]; exact h1, h2⟩
        · rw [hat, if_neg him, if_neg (by omega)]
          exact ResOK.ren hren (e2b' i hil) (e2v' i hil) (hi'.good.res _)
    · rcases hcase i b h1 with ⟨a, ha, hai⟩ | ⟨hi1, hi2, hi3⟩ <;> rcases hcase j b h2 with ⟨c, hc, hcj⟩ | ⟨hj1, hj2, hj3⟩
      · refine hi'.good.disj a c b (fun e => hij ?_) ha hc
        subst e
        rcases hai with ⟨q1, q2⟩ | ⟨q1, q2⟩ <;> rcases hcj with ⟨q3, q4⟩ | ⟨q3, q4⟩
        · rw [← (hidx i q1).2, ← (hidx j q3).2, ← q2, ← q4]
        · have := (hidx i q1).1; omega
        · have := (hidx j q3).1; omega
        · omega
      · rcases hfrom a b ha with ⟨i2, q1, q2⟩ | q
        · exact hi.good.disj i2 j b (fun e => hj1 (e ▸ q1)) q2 hj3
        · have := ownR_lt hi.good hj3; omega
      · rcases hfrom c b hc with ⟨i2, q1, q2⟩ | q
        · exact hi.good.disj i2 i b (fun e => hi1 (e ▸ q1)) q2 hi3
        · have := ownR_lt hi.good hi3; omega
      · exact hi.good.disj i j b hij hi3 hj3
    · rcases hcase i b hb with ⟨a, ha, _⟩ | ⟨hi1, hi2, hi3⟩
      · exact hi'.good.sep a b ha
      · cases hh : ε'.H b with
        | none => rfl
        | some o =>
          rcases hi'.kept.fresh b o hh with q | q | q
          · have q' : ε.H b = some o := q
            have := hi.good.sep i b hi3; rw [this] at q'; cases q'
          · have := ownR_lt hi.good hi3
            have q' : w.heap.size ≤ b := q
            omega
          · obtain ⟨i2, q1, q2⟩ := hBown b q
            exact absurd hi3 (hi.good.disj i2 i b (fun e => hi1 (e ▸ q1)) q2)
    · rw [hsame b (Nat.lt_of_lt_of_le hb hi.kept.size) (fun i h1 h2 => by
        rcases hi.own i b h2 with q | q
        · exact hB2 q
        · omega)]
      exact hi.kept.heap b hb hB2
    · rcases hi'.kept.fresh b o hb with q | q | q
      · exact hi.kept.fresh b o q
      · exact .inr (.inl (Nat.le_trans hi.kept.size q))
      · obtain ⟨i, _, q2⟩ := hBown b q
        rcases hi.own i b q2 with q | q
        · exact .inr (.inr q)
        · exact .inr (.inl q)
    · rcases hcase i b hb with ⟨a, ha, _⟩ | ⟨_, _, hi3⟩
      · rcases hfrom a b ha with ⟨i2, _, q2⟩ | q
        · exact hi.own i2 b q2
        · exact .inr (Nat.le_trans hi.kept.size q)
      · exact hi.own i b hi3
    · have := hi.n
      rw [e2b i (by omega)]; exact hi.blk i hi2
    · have := hi.n
      rw [e2v i (by omega)]
      refine hi.vv i hi2 ?_
      by_cases him : i ∈ is
      · exact hb i him
      · rw [hat, if_neg him, if_pos (by omega)] at hv2; exact hv2
  exact ⟨v, ε2, rfl, hle, hv.ren hren, hinv⟩

theorem call_of_fn {f : FuncId} {args args0 : List SV} {m m0 m1 : List Res} {res : SV} (h : FnOK P f args0 m0 res m1) (is : List Nat) (hn : is.Nodup) (hb : ∀ i ∈ is, (memAt m i).isBlk = true)
    (ha : renL (selI is) args = args0) (hm : selM is m = m0) (hl : is.length ≤ m1.length) (hvec : ∀ j, j < is.length → (memAt m1 j).isBlk = true) : CallStep P f args m (ren (backI is m.length) res) (mergeM is m m1) := by
  intro β ε vs w hi hs
  have hs' := SatA.ren (selI is) args (sel_ren is ε) hs
  rw [ha] at hs'
  exact call_core h is hn hb hm hl hvec hi hs'


theorem call_of_fn0 {f : FuncId} {args args0 : List SV} {m m1 : List Res} {res : SV} (h : FnOK P f args0 [] res m1) (ha : renL (fun _ => none) args = args0) :
    CallStep P f args m (ren (fun j => some (m.length + j)) res) (m ++ m1.map (renR fun j => some (m.length + j))) := by
  have := call_of_fn (m := m) h [] List.nodup_nil (fun _ h => by cases h) (by rw [show selI [] = fun _ => none from funext fun i => by simp [selI]]; exact ha) rfl (Nat.zero_le _) (fun _ h => by cases h)
  have e : (backI [] m.length) = fun j => some (m.length + j) := by funext j; simp [backI]
  rw [e] at this
  have e2 : mergeM [] m m1 = m ++ m1.map (renR fun j => some (m.length + j)) := by simp [mergeM, e]
  rw [e2] at this
  exact this


/-! ### A function's body -/

def packK (ks : List Nat) (n0 : Nat) (res : SV) (m1 : List Res) (m : List Res) (x : SV) : Prop :=
  (ks.Nodup ∧ ∀ i, i < n0 → ks[i]? = some i) ∧ ren (selI ks) x = res ∧ selM ks m = m1

def resV (tmps : Array Value) : ResultVar → Sem Value
  | .tmp t => pure (tmps.getD t undef)
  | .cell b t => do loadVar t (← asAddr (tmps.getD b undef))

def outV : List Value → Value
  | [v] => v
  | vs => .tuple vs.toArray

theorem run_results {fn : Func} {tmps : Array Value} {w : World} {rs : List ResultVar} (hrs : fn.results.toList = rs) {vs : List Value}
    (h : (rs.mapM (resV tmps)).run P w = .ok vs w) : (results fn tmps).run P w = .ok (outV vs) w := by
  have e : results fn tmps = (do let vs ← fn.results.mapM (resV tmps); pure (if h : vs.size = 1 then vs[0] else .tuple vs)) := by
    unfold results
    congr 1
  rw [e, Array.mapM_eq_mapM_toList, hrs]
  simp only [Sem.run_bind, Sem.run_map, h, Result.andThen_ok, Sem.run_pure]
  congr 1
  match vs with
  | [] => rfl
  | [v] => rfl
  | v :: u :: r => simp [outV]

theorem res_one {σ : List SV} {m : List Res} {r : ResultVar} {K : SV → Prop}
    (h : match r with
      | .tmp t => K (σ.getD t .junk)
      | .cell t T => match tsz P T with
        | some (n, ag) => peek m n ag K (σ.getD t .junk)
        | none => False) : ∃ x, K x ∧ ∀ ε a w, Good ε m w → SlotsOK ε σ a → ∃ v, (resV a.tmps r).run P w = .ok v w ∧ SatV ε x v := by
  cases r with
  | tmp t => exact ⟨_, h, fun ε a w hg hs => ⟨_, rfl, hs.2 t⟩⟩
  | cell t T =>
    simp only at h
    split at h
    · rename_i n ag ht
      obtain ⟨c, hK, hag, hone, hh⟩ := peek_ok h
      refine ⟨c, hK, fun ε a w hg hs => ?_⟩
      obtain ⟨b, off, cur, T', fz, e1, e2, e3, e4⟩ := hh ε w _ hg (hs.2 t)
      refine ⟨_, ?_, hag ▸ satC_sat e4⟩
      simp only [resV, Sem.run_bind, e1, asAddr, Sem.run_pure, Result.andThen_ok, run_loadVar ht hone w e2 e3]
    · exact h.elim

theorem res_go {σ : List SV} {m : List Res} : ∀ {rs : List ResultVar} {K : List SV → Prop}, resK.go P σ m rs K → ∃ xs, K xs ∧ ∀ ε a w, Good ε m w → SlotsOK ε σ a → ∃ vs, (rs.mapM (resV a.tmps)).run P w = .ok vs w ∧ SatA xs ε vs ∧ vs.length = rs.length
  | [], K, h => ⟨[], h, fun _ _ _ _ _ => ⟨[], rfl, rfl, rfl⟩⟩
  | r :: rs, K, h => by
    have h' : ∃ x, (x.isVal = true ∧ resK.go P σ m rs fun xs => K (x :: xs)) ∧ ∀ ε a w, Good ε m w → SlotsOK ε σ a → ∃ v, (resV a.tmps r).run P w = .ok v w ∧ SatV ε x v := by
      apply res_one
      cases r <;> simp only [resK.go] at h <;> exact h
    obtain ⟨x, ⟨hx, hgo⟩, hrun⟩ := h'
    obtain ⟨xs, hK, hrun2⟩ := res_go hgo
    refine ⟨x :: xs, hK, fun ε a w hg hs => ?_⟩
    obtain ⟨v, e1, e2⟩ := hrun ε a w hg hs
    obtain ⟨vs, e3, e4, e5⟩ := hrun2 ε a w hg hs
    obtain ⟨cs, e6, e7⟩ := sat_val e2 hx
    refine ⟨v :: vs, by simp [List.mapM_cons, e1, e3], ?_, by simp [e5]⟩
    simp only [SatA]
    exact ⟨cs, vs, by rw [e7], e6, e4⟩

theorem resK_sound {σ : List SV} {m : List Res} {K : SV → Prop} {fn : Func} {rs : List ResultVar} (hrs : fn.results.toList = rs) (h : resK P σ m K rs) :
    ∃ x, K x ∧ ∀ ε a w, Good ε m w → SlotsOK ε σ a → ∃ v, (results fn a.tmps).run P w = .ok v w ∧ SatV ε x v := by
  match rs, hrs, h with
  | [], hrs, h => exact ⟨_, h, fun ε a w hg hs => ⟨_, run_results hrs (vs := []) rfl, ⟨[], rfl, rfl⟩⟩⟩
  | [.tmp t], hrs, h =>
    obtain ⟨x, hK, hrun⟩ := res_one (P := P) (σ := σ) (m := m) (r := .tmp t) h
    refine ⟨x, hK, fun ε a w hg hs => ?_⟩
    obtain ⟨v, e1, e2⟩ := hrun ε a w hg hs
    exact ⟨v, run_results hrs (vs := [v]) (by simp [List.mapM_cons, e1]), e2⟩
  | [.cell t T], hrs, h =>
    obtain ⟨x, hK, hrun⟩ := res_one (P := P) (σ := σ) (m := m) (r := .cell t T) h
    refine ⟨x, hK, fun ε a w hg hs => ?_⟩
    obtain ⟨v, e1, e2⟩ := hrun ε a w hg hs
    exact ⟨v, run_results hrs (vs := [v]) (by simp [List.mapM_cons, e1]), e2⟩
  | r1 :: r2 :: rs, hrs, h =>
    have h' : resK.go P σ m (r1 :: r2 :: rs) fun xs => K (.tup xs) := by cases r1 <;> exact h
    obtain ⟨xs, hK, hrun⟩ := res_go h'
    refine ⟨_, hK, fun ε a w hg hs => ?_⟩
    obtain ⟨vs, e1, e2, e3⟩ := hrun ε a w hg hs
    refine ⟨_, run_results hrs e1, ⟨vs, e2, ?_⟩⟩
    match vs, e3 with
    | v :: u :: vs, _ => rfl

def endK (rs : List ResultVar) (P : Program) (n0 : Nat) (res : SV) (m1 : List Res) (e : Ex) (σ : List SV) (m : List Res) : Prop := match e with
  | .exit _ => False
  | _ => resK P σ m (fun x => ∃ ks, packK ks n0 res m1 m x) rs

end Go.Sx
/-! Sx, part 16: how it is used. -/
set_option linter.unusedSimpArgs false
set_option linter.unusedVariables false
namespace Go.Sx
open Go

variable {P : Program}

def fnIs (P : Program) (quiet : FuncId → Bool) (f : FuncId) : Option (IC × List ResultVar × Nat) := match P.funcs[f]? with
  | some fn => match fn.body with
    | some c => match comp P quiet c with
      | some ic => if fn.name != "runtime.NumGoroutine" then some (ic, fn.results.toList, fn.ntmps) else none
      | none => none
    | none => none
  | none => none

theorem fnIs_ok {quiet : FuncId → Bool} {f : FuncId} {ic : IC} {rs : List ResultVar} {nt : Nat} (h : fnIs P quiet f = some (ic, rs, nt)) : okFn P f = true ∧ ∃ fn c, P.funcs[f]? = some fn ∧ fn.body = some c ∧ comp P quiet c = some ic ∧ fn.results.toList = rs ∧ fn.ntmps = nt := by
  unfold fnIs at h
  split at h <;> try (cases h; done)
  rename_i fn hf
  split at h <;> try (cases h; done)
  rename_i c hc
  split at h <;> try (cases h; done)
  rename_i ic' hic
  split at h <;> try (cases h; done)
  rename_i hn
  simp only [Option.some.injEq, Prod.mk.injEq] at h
  obtain ⟨rfl, rfl, rfl⟩ := h
  refine ⟨?_, fn, c, hf, hc, hic, rfl, rfl⟩
  unfold okFn
  rw [hf]
  simp only [Bool.and_eq_true]
  exact ⟨hn, by rw [hc]; rfl⟩

def qall : FuncId → Bool := fun _ => true
def qbut (l : List FuncId) : FuncId → Bool := fun f => !l.contains f

@[reducible] def q (d : Nat) (x : PIO) : IOp := ⟨some d, none, .p x⟩
@[reducible] def r (d : Nat) (x : EIO) : IOp := ⟨some d, none, .e x⟩
@[reducible] def u (x : EIO) : IOp := ⟨none, none, .e x⟩
@[reducible] def g (d : Nat) (s : Nat) (b : Bool) (x : PIO) : IOp := ⟨some d, some (s, b), .p x⟩
@[reducible] def I (n : Int) : Opd := .c (.int .i64 n)
@[reducible] def B (b : Bool) : Opd := .c (.bool b)

def Hook.on (f : FuncId) (S : List SV → List Res → (SV → List Res → Prop) → Prop) (Γ : Hook) : Hook := fun g args m K => if g = f then S args m K else Γ g args m K

theorem Hook.on_ok {f : FuncId} {S : List SV → List Res → (SV → List Res → Prop) → Prop} {Γ : Hook} (hf : okFn P f = true) (hS : ∀ args m K, S args m K → ∃ sv m', K sv m' ∧ CallStep P f args m sv m') (hΓ : HookOK P Γ) : HookOK P (Γ.on f S) := by
  intro g args m K h
  unfold Hook.on at h
  split at h
  · rename_i e; subst e; exact ⟨hf, hS args m K h⟩
  · exact hΓ g args m K h

end Go.Sx
/-! Sx, part 17: a call that only reads what its caller owns. -/
set_option linter.unusedSimpArgs false
set_option linter.unusedVariables false
namespace Go.Sx
open Go

variable {P : Program}

noncomputable def frz (ε : Env) (m : List Res) (w : World) : Env :=
  { ε with H := fun b => open Classical in if ∃ i, ownR ε i (memAt m i) = some b then w.heap[b]? else ε.H b }

def deads (m : List Res) : List Res := m.map fun _ => .dead

theorem memAt_deads (m : List Res) (i : Nat) : memAt (deads m) i = .dead := by
  unfold memAt deads
  rw [List.getD, List.getElem?_map]
  cases m[i]? <;> rfl

theorem frz_own {ε : Env} {m : List Res} {w : World} {i b : Nat} (h : ownR ε i (memAt m i) = some b) : (frz ε m w).H b = w.heap[b]? := by
  unfold frz; simp only; rw [if_pos ⟨i, h⟩]

theorem frz_H {ε : Env} {m : List Res} {w : World} (g : Good ε m w) : ∀ b o, ε.H b = some o → (frz ε m w).H b = some o := by
  intro b o h
  unfold frz; simp only
  split
  · rename_i hh
    obtain ⟨i, hi⟩ := hh
    rw [g.sep i b hi] at h; cases h
  · exact h

theorem Inv.freeze {β : Base} {ε : Env} {m : List Res} {w : World} (h : Inv β ε m w) : Inv β (frz ε m w) (deads m) w := by
  have g := h.good
  refine ⟨⟨by simp [frz, deads]; exact g.n, (fun i => by rw [memAt_deads]; trivial), (fun i j b _ h1 => by rw [memAt_deads] at h1; cases h1), (fun i b h1 => by rw [memAt_deads] at h1; cases h1), fun b o hb => ?_⟩,
    ⟨h.kept.os, h.kept.tape, h.kept.output, h.kept.size, h.kept.heap, fun b o hb => frz_H g b o (h.kept.H b o hb), fun b o hb => ?_, h.kept.drawn⟩, (fun i b h1 => by rw [memAt_deads] at h1; cases h1), h.n, h.blk, (fun i _ hv => by rw [memAt_deads] at hv; cases hv)⟩
  · unfold frz at hb; simp only at hb
    split at hb
    · exact hb
    · exact g.hv b o hb
  · unfold frz at hb; simp only at hb
    split at hb
    · rename_i hh
      obtain ⟨i, hi⟩ := hh
      rcases h.own i b hi with h1 | h1
      · exact .inr (.inr h1)
      · exact .inr (.inl h1)
    · exact h.kept.fresh b o hb

def NoH (x : SV) : Prop := ∀ ε ε' cs, ε'.n = ε.n → ε'.blk = ε.blk → ε'.vv = ε.vv → SatC x ε cs → SatC x ε' cs
def NoHV (x : SV) : Prop := ∀ ε ε' v, ε'.n = ε.n → ε'.blk = ε.blk → ε'.vv = ε.vv → SatV ε x v → SatV ε' x v
def ResNoH : Res → Prop
  | .dead => True
  | .blk _ c => NoH c
  | .vec _ _ l => ∀ j, j < l.length → NoH (l.getD j .junk)
  | .mp .. => True

theorem noH_int (k n) : NoH (.int k n) := fun _ _ _ _ _ _ h => h
theorem noH_bool (b) : NoH (.bool b) := fun _ _ _ _ _ _ h => h
theorem noH_str (b) : NoH (.str b) := fun _ _ _ _ _ _ h => h
theorem noH_vec (i n) : NoH (.vec i n) := fun ε ε' cs h1 h2 h3 h => by simp only [SatC] at h ⊢; rw [h1, h3]; exact h
theorem noH_ptr (i p o) : NoH (.ptr i p o) := fun ε ε' cs h1 h2 h3 h => by simp only [SatC] at h ⊢; rw [h1, h2]; exact h
theorem noH_agg {l : List SV} (h : ∀ x ∈ l, NoH x) : NoH (.agg l) := by
  intro ε ε' cs h1 h2 h3 hc
  simp only [SatC] at hc ⊢
  induction l generalizing cs with
  | nil => exact hc
  | cons x r ih =>
    simp only [SatL] at hc ⊢
    obtain ⟨a, b, e1, e2, e3⟩ := hc
    exact ⟨a, b, e1, h x (by simp) ε ε' a h1 h2 h3 e2, ih (fun y hy => h y (by simp [hy])) _ e3⟩
theorem noH_arr {n w : Nat} {f : Nat → SV} (h : ∀ i, i < n → NoH (f i)) : NoH (.arr n w f) := by
  intro ε ε' cs h1 h2 h3 hc
  simp only [SatC] at hc ⊢
  exact ⟨hc.1, fun i hi => h i hi ε ε' _ h1 h2 h3 (hc.2 i hi)⟩
theorem NoH.val {x : SV} (h : NoH x) (hv : x.isVal = true) : NoHV x := by
  intro ε ε' v h1 h2 h3 hs
  obtain ⟨cs, e1, e2⟩ := sat_val hs hv
  rw [e2]
  exact satC_sat (h ε ε' cs h1 h2 h3 e1)
theorem noHA {l : List SV} (h : ∀ x ∈ l, NoH x) {ε ε' : Env} (h1 : ε'.n = ε.n) (h2 : ε'.blk = ε.blk) (h3 : ε'.vv = ε.vv) : ∀ {vs}, SatA l ε vs → SatA l ε' vs := by
  induction l with
  | nil => intro vs hs; exact hs
  | cons x r ih =>
    intro vs hs
    simp only [SatA] at hs ⊢
    obtain ⟨cs, t, e1, e2, e3⟩ := hs
    exact ⟨cs, t, e1, h x (by simp) ε ε' cs h1 h2 h3 e2, ih (fun y hy => h y (by simp [hy])) e3⟩
theorem noHV_tup {l : List SV} (h : ∀ x ∈ l, NoH x) : NoHV (.tup l) := by
  intro ε ε' v h1 h2 h3 ⟨vs, e1, e2⟩
  exact ⟨vs, noHA h h1 h2 h3 e1, e2⟩
theorem noHV_junk : NoHV .junk := fun _ _ _ _ _ _ _ => trivial

theorem ResNoH.ok {ε ε' : Env} {w : World} {i : Nat} {x : Res} (hx : ResNoH x) (h1 : ε'.n = ε.n) (h2 : ε'.blk = ε.blk) (h3 : ε'.vv = ε.vv) (h : ResOK ε i w x) : ResOK ε' i w x := by
  cases x with
  | dead => trivial
  | blk T c =>
    obtain ⟨cs, e1, e2⟩ := h
    exact ⟨cs, by rw [h2]; exact e1, hx ε ε' cs h1 h2 h3 e2⟩
  | vec T w' l =>
    obtain ⟨xs, e1, e2⟩ := h
    exact ⟨xs, by rw [h3]; exact e1, fun j hj => hx j hj ε ε' _ h1 h2 h3 (e2 j hj)⟩
  | mp ek ev l =>
    obtain ⟨es, cl, e1, e2⟩ := h
    exact ⟨es, cl, by rw [h2]; exact e1, e2⟩

noncomputable def thaw (ε : Env) (m : List Res) (ε' : Env) : Env :=
  { ε' with H := fun b => open Classical in if ∃ i, ownR ε i (memAt m i) = some b then none else ε'.H b }

theorem Inv.thaw {β : Base} {ε ε' : Env} {m new : List Res} {w w' : World} (h : Inv β ε m w) (hle : (frz ε m w).Le ε') (h' : Inv β ε' (deads m ++ new) w') (hnew : ∀ x ∈ new, ResNoH x) :
    Inv β (Sx.thaw ε m ε') (m ++ new) w' ∧ ε.Le (Sx.thaw ε m ε') := by
  have g := h.good
  have g' := h'.good
  have hn : ε.n = m.length := g.n
  have hdl : (deads m).length = m.length := by simp [deads]
  have hnew' : ∀ i, m.length ≤ i → memAt (m ++ new) i = memAt (deads m ++ new) i := by
    intro i hi
    simp only [memAt, List.getD]
    rw [List.getElem?_append_right hi, List.getElem?_append_right (by rw [hdl]; exact hi), hdl]
  have hold : ∀ i, i < m.length → memAt (m ++ new) i = memAt m i := fun i hi => memAt_append_lt hi
  have eb : ∀ i, i < m.length → (Sx.thaw ε m ε').blk i = ε.blk i := fun i hi => hle.blk i (by show i < ε.n; omega)
  have ev : ∀ i, i < m.length → (Sx.thaw ε m ε').vv i = ε.vv i := fun i hi => hle.vv i (by show i < ε.n; omega)
  have eo : ∀ i, i < m.length → ownR (Sx.thaw ε m ε') i (memAt (m ++ new) i) = ownR ε i (memAt m i) := by
    intro i hi
    rw [hold i hi]
    cases memAt m i <;> simp [ownR, eb i hi, ev i hi]
  have en : ∀ i, m.length ≤ i → ownR (Sx.thaw ε m ε') i (memAt (m ++ new) i) = ownR ε' i (memAt (deads m ++ new) i) := by
    intro i hi
    rw [hnew' i hi]; rfl
  have heapOld : ∀ i b, ownR ε i (memAt m i) = some b → w'.heap[b]? = w.heap[b]? := by
    intro i b hb
    cases hw : w.heap[b]? with
    | none =>
      have := ownR_lt g hb
      simp at hw; omega
    | some o => exact g'.hv b o (hle.H b o (by rw [frz_own hb]; exact hw))
  have hle2 : ε.Le (Sx.thaw ε m ε') := by
    refine ⟨hle.n, fun i hi => hle.blk i hi, fun i hi => hle.vv i hi, fun b o hb => ?_⟩
    unfold Sx.thaw; simp only
    split
    · rename_i hh
      obtain ⟨i, hi⟩ := hh
      rw [g.sep i b hi] at hb; cases hb
    · exact hle.H b o (frz_H g b o hb)
  refine ⟨⟨⟨?_, fun i => ?_, fun i j b hij h1 h2 => ?_, fun i b hb => ?_, fun b o hb => ?_⟩, ⟨h'.kept.os, h'.kept.tape, h'.kept.output, h'.kept.size, h'.kept.heap, fun b o hb => hle2.H b o (h.kept.H b o hb), fun b o hb => ?_, h'.kept.drawn⟩, fun i b hb => ?_, ?_, fun i hi => ?_, fun i hi hv => ?_⟩, hle2⟩
  · have := g'.n
    simp only [List.length_append, hdl] at this ⊢
    exact this
  · rcases Nat.lt_or_ge i m.length with hi | hi
    · rw [hold i hi]
      have hr := g.res i
      cases hm : memAt m i with
      | dead => trivial
      | blk T c =>
        rw [hm] at hr
        obtain ⟨cs, e1, e2⟩ := hr
        exact ⟨cs, by rw [eb i hi, heapOld i _ (by rw [hm]; rfl)]; exact e1, SatC.mono c hle2 e2⟩
      | vec T wd l =>
        rw [hm] at hr
        obtain ⟨xs, ⟨e0, e1⟩, e2⟩ := hr
        refine ⟨xs, ⟨e0, ?_⟩, fun j hj => SatC.mono _ hle2 (e2 j hj)⟩
        rw [ev i hi]
        rcases e1 with e1 | ⟨b, cap, cur, k1, k2, k3, k4, k5, k6, k7⟩
        · exact .inl e1
        · exact .inr ⟨b, cap, cur, k1, k2, by rw [heapOld i b (by rw [hm]; simp [ownR, k1, Value.ownBlock])]; exact k3, k4, k5, k6, k7⟩
      | mp ek ev l =>
        rw [hm] at hr
        obtain ⟨es, cl, e1, e2⟩ := hr
        exact ⟨es, cl, by rw [eb i hi, heapOld i _ (by rw [hm]; rfl)]; exact e1, e2⟩
    · rw [hnew' i hi]
      have hx : ResNoH (memAt (deads m ++ new) i) := by
        simp only [memAt, List.getD]
        rw [List.getElem?_append_right (by rw [hdl]; exact hi), hdl]
        cases hh : new[i - m.length]? with
        | none => trivial
        | some x => exact hnew x (List.mem_of_getElem? hh)
      exact ResNoH.ok (ε := ε') hx rfl rfl rfl (g'.res i)
  · have key : ∀ i j, i < m.length → m.length ≤ j → ownR ε i (memAt m i) = some b → ownR ε' j (memAt (deads m ++ new) j) = some b → False := by
      intro i j _ _ h1 h2
      have e1 := g'.sep j b h2
      have hb := ownR_lt g h1
      have e2 : (frz ε m w).H b = some w.heap[b] := by rw [frz_own h1]; simp [hb]
      rw [hle.H b _ e2] at e1; cases e1
    rcases Nat.lt_or_ge i m.length with hi | hi <;> rcases Nat.lt_or_ge j m.length with hj | hj
    · rw [eo i hi] at h1; rw [eo j hj] at h2; exact g.disj i j b hij h1 h2
    · rw [eo i hi] at h1; rw [en j hj] at h2; exact key i j hi hj h1 h2
    · rw [en i hi] at h1; rw [eo j hj] at h2; exact key j i hj hi h2 h1
    · rw [en i hi] at h1; rw [en j hj] at h2; exact g'.disj i j b hij h1 h2
  · unfold Sx.thaw; simp only
    split
    · rfl
    · rcases Nat.lt_or_ge i m.length with hi | hi
      · rename_i hh
        rw [eo i hi] at hb
        exact absurd ⟨i, hb⟩ hh
      · rw [en i hi] at hb; exact g'.sep i b hb
  · unfold Sx.thaw at hb; simp only at hb
    split at hb
    · cases hb
    · exact g'.hv b o hb
  · unfold Sx.thaw at hb; simp only at hb
    split at hb
    · cases hb
    · exact h'.kept.fresh b o hb
  · rcases Nat.lt_or_ge i m.length with hi | hi
    · rw [eo i hi] at hb; exact h.own i b hb
    · rw [en i hi] at hb; exact h'.own i b hb
  · exact h'.n
  · exact h'.blk i hi
  · have him : i < m.length := by have := h.n; omega
    rw [hold i him] at hv
    rw [ev i him]; exact h.vv i hi hv

inductive Ro (m : List Res) : SV → SV → Prop
  | base (x : SV) : Ro m x (ren (fun _ => Option.none) x)
  | agg {l l' : List SV} : l.length = l'.length → (∀ j, j < l.length → Ro m (l.getD j .junk) (l'.getD j .junk)) → Ro m (.agg l) (.agg l')
  | arr {n w : Nat} {f g : Nat → SV} : (∀ i, i < n → Ro m (f i) (g i)) → Ro m (.arr n w f) (.arr n w g)
  | vec {i n w : Nat} {T : TypeId} {l : List SV} {τ : Type} {d : τ} {f : τ → SV} {l0 : List τ} : memAt m i = .vec T w l → l0.length = l.length → (∀ j, j < l.length → Ro m (l.getD j .junk) (f (l0.getD j d))) → Ro m (.vec i n) (.lst w d f l0)
  | ptr {i : Nat} {p : List Step} {o : Nat} {T : TypeId} {c c' : SV} : memAt m i = .blk T c → Ro m c c' → Ro m (.ptr i p o) (.ref c' p o)

theorem Ro.isAgg {m : List Res} {x y : SV} (h : Ro m x y) : y.isAgg = x.isAgg := by
  cases h with
  | base => exact ren_isAgg _ _
  | agg => rfl
  | arr => rfl
  | vec => rfl
  | ptr => rfl

theorem frz_none {ε : Env} {m : List Res} {w : World} (g : Good ε m w) : RenOK (fun _ => none) ε (frz ε m w).cl := ⟨(fun _ _ _ h => by cases h), frz_H g⟩

theorem satL_get : ∀ {l : List SV} {ε : Env} {cs : List Value}, SatL l ε cs ↔ ∃ css : List (List Value), cs = css.flatten ∧ css.length = l.length ∧ ∀ j, j < l.length → SatC (l.getD j .junk) ε (css.getD j [])
  | [], ε, cs => by
    simp only [SatL]
    constructor
    · rintro rfl; exact ⟨[], rfl, rfl, fun j hj => absurd hj (Nat.not_lt_zero _)⟩
    · rintro ⟨css, h1, h2, _⟩
      cases css with
      | nil => exact h1
      | cons => cases h2
  | x :: l, ε, cs => by
    simp only [SatL]
    constructor
    · rintro ⟨a, b, rfl, h1, h2⟩
      obtain ⟨css, rfl, h3, h4⟩ := satL_get.1 h2
      refine ⟨a :: css, rfl, by simp [h3], fun j hj => ?_⟩
      cases j with
      | zero => exact h1
      | succ j => simpa using h4 j (by simpa using hj)
    · rintro ⟨css, rfl, h2, h3⟩
      cases css with
      | nil => cases h2
      | cons a css =>
        refine ⟨a, css.flatten, rfl, h3 0 (by simp), satL_get.2 ⟨css, rfl, by simpa using h2, fun j hj => ?_⟩⟩
        have := h3 (j + 1) (by simpa using hj)
        simpa using this

theorem Ro.sat {ε : Env} {m : List Res} {w : World} (g : Good ε m w) {x y : SV} (h : Ro m x y) : ∀ {cs : List Value}, SatC x ε cs → SatC y (frz ε m w).cl cs := by
  induction h with
  | base x => intro cs hc; exact SatC.ren _ x (frz_none g) hc
  | agg hl _ ih =>
    intro cs hc
    simp only [SatC] at hc ⊢
    obtain ⟨css, e1, e2, e3⟩ := satL_get.1 hc
    exact satL_get.2 ⟨css, e1, by omega, fun j hj => ih j (by omega) (e3 j (by omega))⟩
  | arr _ ih =>
    intro cs hc
    simp only [SatC] at hc ⊢
    exact ⟨hc.1, fun i hi => ih i hi (hc.2 i hi)⟩
  | @vec i n wd T l τ d f l0 hm hl _ ih =>
    intro cs hc
    simp only [SatC] at hc ⊢
    obtain ⟨h1, _, h3⟩ := hc
    have hr := g.res i
    rw [hm] at hr
    obtain ⟨xs, ⟨e0, e1⟩, e2⟩ := hr
    rcases e1 with ⟨k1, k2⟩ | ⟨b, cap, cur, k1, k2, k3, k4, k5, k6, k7⟩
    · refine ⟨none, 0, by rw [h3, k1]; simp [hl, k2], by omega, Nat.zero_le _, fun _ => rfl, fun j hj => by omega⟩
    · refine ⟨some ⟨b, 0, none⟩, cap, by rw [h3, k1, hl], by omega, k5, (fun h => by cases h), fun j hj => ?_⟩
      have hj' : j < l.length := by omega
      have hjl : j * wd + wd ≤ l.length * wd := by
        have := Nat.mul_le_mul_right wd (show j + 1 ≤ l.length from hj')
        rw [Nat.succ_mul] at this; exact this
      have hcap : l.length * wd ≤ cap * wd := Nat.mul_le_mul_right _ k4
      refine ⟨b, 0, T, (0, 0), cur, rfl, ?_, by omega, ?_⟩
      · show (frz ε m w).H b = _
        rw [frz_own (i := i) (by rw [hm]; simp [ownR, k1, Value.ownBlock])]; exact k3
      · have := ih j hj' (e2 j hj')
        have hs : sub cur.toList (0 + j * wd) wd = sub xs (j * wd) wd := by
          rw [← k7]
          simp only [sub, Nat.zero_add]
          rw [List.drop_take, List.take_take]
          congr 1
          omega
        rw [hs]; exact this
  | @ptr i p o T c c' hm _ ih =>
    intro cs hc
    simp only [SatC] at hc ⊢
    obtain ⟨h1, h2, h3⟩ := hc
    have hr := g.res i
    rw [hm] at hr
    obtain ⟨cs', e1, e2⟩ := hr
    refine ⟨ε.blk i, T, (0, 0), cs'.toArray, h3, ?_, h2, ih e2⟩
    show (frz ε m w).H _ = _
    rw [frz_own (i := i) (by rw [hm]; rfl)]; exact e1

def RoA (m : List Res) : List SV → List SV → Prop
  | [], [] => True
  | x :: l, y :: l' => Ro m x y ∧ RoA m l l'
  | _, _ => False

theorem RoA.sat {ε : Env} {m : List Res} {w : World} (g : Good ε m w) : ∀ {l l' : List SV}, RoA m l l' → ∀ {vs : List Value}, SatA l ε vs → SatA l' (frz ε m w).cl vs
  | [], [], _, vs, hs => hs
  | x :: l, y :: l', h, vs, hs => by
    simp only [SatA] at hs ⊢
    obtain ⟨cs, t, e1, e2, e3⟩ := hs
    exact ⟨cs, t, by rw [h.1.isAgg]; exact e1, h.1.sat g e2, RoA.sat g h.2 e3⟩
  | [], _ :: _, h, _, _ => h.elim
  | _ :: _, [], h, _, _ => h.elim

end Go.Sx
