import Derived.Test.YtafcmgfmmlnngaaSx14
/-! Sx, part 15: a function's body makes its contract; a contract makes a call. -/
set_option linter.unusedSimpArgs false
set_option linter.unusedVariables false
namespace Go.Sx
open Go

variable {P : Program}

/-- Callee's names, in the caller. -/
def backI (is : List Nat) (n : Nat) (j : Nat) : Option Nat := if j < is.length then is[j]? else some (n + (j - is.length))

def mergeM (is : List Nat) (m : List Res) (m1 : List Res) : List Res :=
  (is.zipIdx.foldl (fun (acc : List Res) x => acc.set x.1 (renR (backI is m.length) (memAt m1 x.2))) m) ++ (m1.drop is.length).map (renR (backI is m.length))

theorem foldl_set_len (r : Nat → Res) : ∀ (l : List (Nat × Nat)) (m : List Res), (l.foldl (fun (acc : List Res) x => acc.set x.1 (r x.2)) m).length = m.length
  | [], _ => rfl
  | x :: l, m => by simp only [List.foldl_cons]; rw [foldl_set_len r l]; simp

theorem foldl_set_at (r : Nat → Res) : ∀ (is : List Nat) (k : Nat) (m : List Res) (_ : is.Nodup) (_ : ∀ i ∈ is, i < m.length) (i : Nat),
    memAt ((is.zipIdx k).foldl (fun (acc : List Res) x => acc.set x.1 (r x.2)) m) i = if i ∈ is then r (k + is.idxOf i) else memAt m i
  | [], k, m, _, _, i => by simp
  | a :: is, k, m, hn, hlt, i => by
    simp only [List.zipIdx_cons, List.foldl_cons]
    have hn' := List.nodup_cons.1 hn
    rw [foldl_set_at r is (k + 1) _ hn'.2 (fun j hj => by rw [List.length_set]; exact hlt j (by simp [hj])) i]
    by_cases hi : i ∈ is
    · rw [if_pos hi, if_pos (by simp [hi])]
      have : i ≠ a := fun e => hn'.1 (e ▸ hi)
      have he : (a :: is).idxOf i = is.idxOf i + 1 := by
        rw [List.idxOf_cons]
        have : (a == i) = false := by simpa using fun e => this e.symm
        rw [this]; rfl
      rw [he]
      congr 1; omega
    · rw [if_neg hi]
      by_cases hia : i = a
      · subst hia
        rw [if_pos (by simp), List.idxOf_cons_self, Nat.add_zero]
        have := hlt i (by simp)
        simp [memAt, this]
      · rw [if_neg (by simp [hi, hia])]
        unfold memAt
        simp only [List.getD_eq_getElem?_getD, List.getElem?_set]
        rw [if_neg (fun e => hia e.symm)]

theorem merge_at {is : List Nat} {m m1 : List Res} (hn : is.Nodup) (hlt : ∀ i ∈ is, i < m.length) (i : Nat) :
    memAt (mergeM is m m1) i = if i ∈ is then renR (backI is m.length) (memAt m1 (is.idxOf i)) else if i < m.length then memAt m i else
      renR (backI is m.length) (memAt m1 (is.length + (i - m.length))) := by
  have hlen := foldl_set_len (fun k => renR (backI is m.length) (memAt m1 k)) is.zipIdx m
  unfold mergeM
  rcases Nat.lt_or_ge i m.length with hi | hi
  · rw [memAt_append_lt (by rw [hlen]; exact hi), foldl_set_at (fun k => renR (backI is m.length) (memAt m1 k)) is 0 m hn hlt i]
    simp [hi]
  · have hni : i ∉ is := fun h => by have := hlt i h; omega
    rw [if_neg hni, if_neg (by omega)]
    have e1 : ∀ (l1 l2 : List Res), l1.length = m.length → memAt (l1 ++ l2) i = memAt l2 (i - m.length) := by
      intro l1 l2 hl1
      unfold memAt
      rw [List.getD, List.getElem?_append_right (by omega), hl1]; rfl
    rw [e1 _ _ hlen]
    unfold memAt
    rw [List.getD, List.getElem?_map, List.getElem?_drop, List.getD]
    cases m1[is.length + (i - m.length)]? <;> rfl

theorem merge_length {is : List Nat} {m m1 : List Res} : (mergeM is m m1).length = m.length + (m1.length - is.length) := by
  have hlen := foldl_set_len (fun k => renR (backI is m.length) (memAt m1 k)) is.zipIdx m
  simp [mergeM, hlen]

theorem call_core {f : FuncId} {args0 : List SV} {m m0 m1 : List Res} {res : SV} (h : FnOK P f args0 m0 res m1) (is : List Nat) (hn : is.Nodup) (hb : ∀ i ∈ is, (memAt m i).isBlk = true)
    (hm : selM is m = m0) (hl : is.length ≤ m1.length) (hvec : ∀ j, j < is.length → (memAt m1 j).isBlk = true) {β : Base} {ε : Env} {vs : List Value} {w : World} (hi : Inv β ε m w) (hs' : SatA args0 (selE is ε) vs) :
    Calls P f vs.toArray w fun e w' => ∃ v ε', e = .returned v ∧ ε.Le ε' ∧ SatV ε' (ren (backI is m.length) res) v ∧ Inv β ε' (mergeM is m m1) w' := by
  have hlt : ∀ i ∈ is, i < m.length := by
    intro i h
    rcases Nat.lt_or_ge i m.length with h' | h'
    · exact h'
    · have := hb i h; rw [memAt_ge h'] at this; cases this
  have hg := hi.good.sel is hn
  rw [hm] at hg
  refine (h (selE is ε) w vs hg hs').mono fun e w' ⟨v, ε', he, hv, hi'⟩ => ?_
  subst he
  have hselown : ∀ j, j < is.length → ownR (selE is ε) j (memAt m0 j) = ownR ε (is.getD j 0) (memAt m (is.getD j 0)) := by
    intro j hj
    rw [← hm, selM_at hj]; exact ownR_ren rfl rfl
  have hm0l : m0.length = is.length := by rw [← hm]; simp [selM]
  have hε'n := hi'.good.n
  have hBown : ∀ b, (∃ i, ownR (selE is ε) i (memAt m0 i) = some b) → ∃ i, i ∈ is ∧ ownR ε i (memAt m i) = some b := by
    rintro b ⟨j, hj⟩
    rcases Nat.lt_or_ge j is.length with h1 | h1
    · rw [hselown j h1] at hj
      refine ⟨is.getD j 0, ?_, hj⟩
      simp [List.getD, h1]
    · rw [memAt_ge (by omega)] at hj; cases hj
  -- the caller's environment behind the call
  let ε2 : Env := { n := ε.n + (m1.length - is.length), blk := fun i => if i < ε.n then ε.blk i else ε'.blk (is.length + (i - ε.n)), vv := fun i => if i < ε.n then ε.vv i else ε'.vv (is.length + (i - ε.n)), H := ε'.H }
  have hn2 := hi.good.n
  have hle : ε.Le ε2 := ⟨Nat.le_add_right _ _, fun i hi => by simp [ε2, hi], fun i hi => by simp [ε2, hi], hi'.kept.H⟩
  have hblk' : ∀ j, j < is.length → ε'.blk j = ε.blk (is.getD j 0) := fun j hj => hi'.blk j (by show j < is.length; exact hj)
  have hgetlt : ∀ j, j < is.length → is.getD j 0 < m.length := fun j hj => hlt _ (by simp [List.getD, hj])
  have hvv' : ∀ j, j < is.length → ε'.vv j = ε.vv (is.getD j 0) := fun j hj => hi'.vv j (by show j < is.length; exact hj) (hvec j hj)
  have hidx : ∀ i, i ∈ is → is.idxOf i < is.length ∧ is.getD (is.idxOf i) 0 = i := by
    intro i hi
    have hlt := List.idxOf_lt_length_of_mem hi
    exact ⟨hlt, by simp [List.getD, hlt]⟩
  have e2b : ∀ i, i < m.length → ε2.blk i = ε.blk i := fun i hi => by simp [ε2, hn2, hi]
  have e2v : ∀ i, i < m.length → ε2.vv i = ε.vv i := fun i hi => by simp [ε2, hn2, hi]
  have e2b' : ∀ i, m.length ≤ i → ε2.blk i = ε'.blk (is.length + (i - m.length)) := fun i hi => by simp [ε2, hn2, Nat.not_lt.2 hi]
  have e2v' : ∀ i, m.length ≤ i → ε2.vv i = ε'.vv (is.length + (i - m.length)) := fun i hi => by simp [ε2, hn2, Nat.not_lt.2 hi]
  have hren : RenOK (backI is m.length) ε' ε2 := by
    refine ⟨fun j hj i hji => ?_, fun _ _ h => h⟩
    unfold backI at hji
    rw [hε'n] at hj
    split at hji
    · rename_i hjl
      have hg2 : is.getD j 0 = i := by simp [List.getD, hji]
      have hil : i < m.length := by rw [← hg2]; exact hgetlt j hjl
      exact ⟨by simp only [ε2]; omega, by rw [e2b i hil, hblk' j hjl, hg2], by rw [e2v i hil, hvv' j hjl, hg2]⟩
    · rename_i hjl
      simp only [Option.some.injEq] at hji
      subst hji
      have : is.length + (m.length + (j - is.length) - m.length) = j := by omega
      exact ⟨by simp only [ε2]; omega, by rw [e2b' _ (by omega), this], by rw [e2v' _ (by omega), this]⟩
  have hat := merge_at (m1 := m1) hn hlt
  -- whose block is it?
  have hA : ∀ i, i ∈ is → ownR ε2 i (memAt (mergeM is m m1) i) = ownR ε' (is.idxOf i) (memAt m1 (is.idxOf i)) := by
    intro i hi
    obtain ⟨h1, h2⟩ := hidx i hi
    rw [hat, if_pos hi]
    exact ownR_ren (by rw [e2b i (hlt i hi), hblk' _ h1, h2]) (by rw [e2v i (hlt i hi), hvv' _ h1, h2])
  have hB : ∀ i, i ∉ is → i < m.length → ownR ε2 i (memAt (mergeM is m m1) i) = ownR ε i (memAt m i) := by
    intro i hi hil
    rw [hat, if_neg hi, if_pos hil]
    cases memAt m i <;> simp [ownR, e2b i hil, e2v i hil]
  have hC : ∀ i, m.length ≤ i → ownR ε2 i (memAt (mergeM is m m1) i) = ownR ε' (is.length + (i - m.length)) (memAt m1 (is.length + (i - m.length))) := by
    intro i hi
    have hni : i ∉ is := fun h => by have := hlt i h; omega
    rw [hat, if_neg hni, if_neg (by omega)]
    exact ownR_ren (e2b' i hi) (e2v' i hi)
  have hfrom : ∀ j b, ownR ε' j (memAt m1 j) = some b → (∃ i, i ∈ is ∧ ownR ε i (memAt m i) = some b) ∨ w.heap.size ≤ b := by
    intro j b hb
    rcases hi'.own j b hb with h1 | h1
    · exact .inl (hBown b h1)
    · exact .inr h1
  have hcase : ∀ i b, ownR ε2 i (memAt (mergeM is m m1) i) = some b → (∃ j, ownR ε' j (memAt m1 j) = some b ∧ ((i ∈ is ∧ j = is.idxOf i) ∨ (m.length ≤ i ∧ j = is.length + (i - m.length)))) ∨ (i ∉ is ∧ i < m.length ∧ ownR ε i (memAt m i) = some b) := by
    intro i b hb
    by_cases hi : i ∈ is
    · rw [hA i hi] at hb; exact .inl ⟨_, hb, .inl ⟨hi, rfl⟩⟩
    · rcases Nat.lt_or_ge i m.length with hil | hil
      · rw [hB i hi hil] at hb; exact .inr ⟨hi, hil, hb⟩
      · rw [hC i hil] at hb; exact .inl ⟨_, hb, .inr ⟨hil, rfl⟩⟩
  have hsame : ∀ b, b < w.heap.size → (∀ i, i ∈ is → ownR ε i (memAt m i) ≠ some b) → w'.heap[b]? = w.heap[b]? := by
    intro b hb hno
    refine hi'.kept.heap b hb (fun hBb => ?_)
    obtain ⟨i, h1, h2⟩ := hBown b hBb
    exact hno i h1 h2
  have hinv : Inv β ε2 (mergeM is m m1) w' := by
    refine ⟨⟨by rw [merge_length]; simp [ε2, hn2], fun i => ?_, fun i j b hij h1 h2 => ?_, fun i b hb => ?_, fun b o hb => hi'.good.hv b o hb⟩,
      ⟨hi'.kept.os.trans hi.kept.os, hi'.kept.tape.trans hi.kept.tape, hi'.kept.output.trans hi.kept.output, Nat.le_trans hi.kept.size hi'.kept.size, fun b hb hB2 => ?_, fun b o hb => hi'.kept.H b o (hi.kept.H b o hb), fun b o hb => ?_⟩,
      fun i b hb => ?_, Nat.le_trans hi.n (by simp only [ε2]; omega), fun i hi2 => ?_, fun i hi2 hv2 => ?_⟩
    · by_cases him : i ∈ is
      · obtain ⟨h1, h2⟩ := hidx i him
        rw [hat, if_pos him]
        exact ResOK.ren hren (by rw [e2b i (hlt i him), hblk' _ h1, h2]) (by rw [e2v i (hlt i him), hvv' _ h1, h2]) (hi'.good.res _)
      · rcases Nat.lt_or_ge i m.length with hil | hil
        · rw [hat, if_neg him, if_pos hil]
          have hr := hi.good.res i
          have hne : ∀ b, ownR ε i (memAt m i) = some b → w'.heap[b]? = w.heap[b]? := fun b hb =>
            hsame b (ownR_lt hi.good hb) (fun i2 h1 h2 => hi.good.disj i i2 b (fun e => him (e ▸ h1)) hb h2)
          cases hmi : memAt m i with
          | dead => trivial
          | blk T c =>
            rw [hmi] at hr
            obtain ⟨cs, h1, h2⟩ := hr
            exact ⟨cs, by rw [e2b i hil, hne _ (by rw [hmi]; rfl)]; exact h1, h2.mono c hle⟩
          | vec T w2 l =>
            rw [hmi] at hr
            obtain ⟨xs, h1, h2⟩ := hr
            refine ⟨xs, ?_, fun k hk => (h2 k hk).mono _ hle⟩
            rw [e2v i hil]
            refine ⟨h1.1, ?_⟩
            rcases h1.2 with hx | ⟨gg, cap, cur, q1, q2, q3, q4⟩
            · exact .inl hx
            · exact .inr ⟨gg, cap, cur, q1, q2, by rw [hne gg (by rw [hmi]; simp [ownR, q1, Value.ownBlock])]; exact q3, q4⟩
          | mp ek ev l =>
            rw [hmi] at hr
            obtain ⟨es, cl, h1, h2⟩ := hr
            exact ⟨es, cl, by rw [e2b i hil, hne _ (by rw [hmi]; rfl)]; exact h1, h2⟩
        · rw [hat, if_neg him, if_neg (by omega)]
          exact ResOK.ren hren (e2b' i hil) (e2v' i hil) (hi'.good.res _)
    · rcases hcase i b h1 with ⟨a, ha, hai⟩ | ⟨hi1, hi2, hi3⟩ <;> rcases hcase j b h2 with ⟨c, hc, hcj⟩ | ⟨hj1, hj2, hj3⟩
      · refine hi'.good.disj a c b (fun e => hij ?_) ha hc
        subst e
        rcases hai with ⟨q1, q2⟩ | ⟨q1, q2⟩ <;> rcases hcj with ⟨q3, q4⟩ | ⟨q3, q4⟩
        · rw [← (hidx i q1).2, ← (hidx j q3).2, ← q2, ← q4]
        · have := (hidx i q1).1; omega
        · have := (hidx j q3).1; omega
        · omega
      · rcases hfrom a b ha with ⟨i2, q1, q2⟩ | q
        · exact hi.good.disj i2 j b (fun e => hj1 (e ▸ q1)) q2 hj3
        · have := ownR_lt hi.good hj3; omega
      · rcases hfrom c b hc with ⟨i2, q1, q2⟩ | q
        · exact hi.good.disj i2 i b (fun e => hi1 (e ▸ q1)) q2 hi3
        · have := ownR_lt hi.good hi3; omega
      · exact hi.good.disj i j b hij hi3 hj3
    · rcases hcase i b hb with ⟨a, ha, _⟩ | ⟨hi1, hi2, hi3⟩
      · exact hi'.good.sep a b ha
      · cases hh : ε'.H b with
        | none => rfl
        | some o =>
          rcases hi'.kept.fresh b o hh with q | q | q
          · have q' : ε.H b = some o := q
            have := hi.good.sep i b hi3; rw [this] at q'; cases q'
          · have := ownR_lt hi.good hi3
            have q' : w.heap.size ≤ b := q
            omega
          · obtain ⟨i2, q1, q2⟩ := hBown b q
            exact absurd hi3 (hi.good.disj i2 i b (fun e => hi1 (e ▸ q1)) q2)
    · rw [hsame b (Nat.lt_of_lt_of_le hb hi.kept.size) (fun i h1 h2 => by
        rcases hi.own i b h2 with q | q
        · exact hB2 q
        · omega)]
      exact hi.kept.heap b hb hB2
    · rcases hi'.kept.fresh b o hb with q | q | q
      · exact hi.kept.fresh b o q
      · exact .inr (.inl (Nat.le_trans hi.kept.size q))
      · obtain ⟨i, _, q2⟩ := hBown b q
        rcases hi.own i b q2 with q | q
        · exact .inr (.inr q)
        · exact .inr (.inl q)
    · rcases hcase i b hb with ⟨a, ha, _⟩ | ⟨_, _, hi3⟩
      · rcases hfrom a b ha with ⟨i2, _, q2⟩ | q
        · exact hi.own i2 b q2
        · exact .inr (Nat.le_trans hi.kept.size q)
      · exact hi.own i b hi3
    · have := hi.n
      rw [e2b i (by omega)]; exact hi.blk i hi2
    · have := hi.n
      rw [e2v i (by omega)]
      refine hi.vv i hi2 ?_
      by_cases him : i ∈ is
      · exact hb i him
      · rw [hat, if_neg him, if_pos (by omega)] at hv2; exact hv2
  exact ⟨v, ε2, rfl, hle, hv.ren hren, hinv⟩

/-- **A contract makes a call.** 'is': which of the caller's things the callee is handed. -/
theorem call_of_fn {f : FuncId} {args args0 : List SV} {m m0 m1 : List Res} {res : SV} (h : FnOK P f args0 m0 res m1) (is : List Nat) (hn : is.Nodup) (hb : ∀ i ∈ is, (memAt m i).isBlk = true)
    (ha : renL (selI is) args = args0) (hm : selM is m = m0) (hl : is.length ≤ m1.length) (hvec : ∀ j, j < is.length → (memAt m1 j).isBlk = true) : CallStep P f args m (ren (backI is m.length) res) (mergeM is m m1) := by
  intro β ε vs w hi hs
  have hs' := SatA.ren (selI is) args (sel_ren is ε) hs
  rw [ha] at hs'
  exact call_core h is hn hb hm hl hvec hi hs'


/-- A contract without memory. -/
theorem call_of_fn0 {f : FuncId} {args args0 : List SV} {m m1 : List Res} {res : SV} (h : FnOK P f args0 [] res m1) (ha : renL (fun _ => none) args = args0) :
    CallStep P f args m (ren (fun j => some (m.length + j)) res) (m ++ m1.map (renR fun j => some (m.length + j))) := by
  have := call_of_fn (m := m) h [] List.nodup_nil (fun _ h => by cases h) (by rw [show selI [] = fun _ => none from funext fun i => by simp [selI]]; exact ha) rfl (Nat.zero_le _) (fun _ h => by cases h)
  have e : (backI [] m.length) = fun j => some (m.length + j) := by funext j; simp [backI]
  rw [e] at this
  have e2 : mergeM [] m m1 = m ++ m1.map (renR fun j => some (m.length + j)) := by simp [mergeM, e]
  rw [e2] at this
  exact this


/-! ### A function's body -/

/-- What the frame hands back is packed: only these things are kept. -/
def packK (ks : List Nat) (n0 : Nat) (res : SV) (m1 : List Res) (m : List Res) (x : SV) : Prop :=
  (ks.Nodup ∧ ∀ i, i < n0 → ks[i]? = some i) ∧ ren (selI ks) x = res ∧ selM ks m = m1

def resV (tmps : Array Value) : ResultVar → Sem Value
  | .tmp t => pure (tmps.getD t undef)
  | .cell b t => do loadVar t (← asAddr (tmps.getD b undef))

def outV : List Value → Value
  | [v] => v
  | vs => .tuple vs.toArray

theorem run_resVs {tmps : Array Value} {w : World} : ∀ {rs : List ResultVar} {vs : List Value}, rs.length = vs.length → (∀ (k : Nat) (r : ResultVar) (v : Value), rs[k]? = some r → vs[k]? = some v → (resV tmps r).run P w = .ok v w) → (rs.mapM (resV tmps)).run P w = .ok vs w
  | [], [], _, _ => rfl
  | r :: rs, v :: vs, hl, h => by
    have h0 := h 0 r v rfl rfl
    have ih := run_resVs (rs := rs) (vs := vs) (by simpa using hl) (fun k r v h1 h2 => h (k + 1) r v (by simpa using h1) (by simpa using h2))
    simp [List.mapM_cons, h0, ih]
  | [], _ :: _, hl, _ => by cases hl
  | _ :: _, [], hl, _ => by cases hl

theorem run_results {fn : Func} {tmps : Array Value} {w : World} {rs : List ResultVar} (hrs : fn.results.toList = rs) {vs : List Value}
    (h : (rs.mapM (resV tmps)).run P w = .ok vs w) : (results fn tmps).run P w = .ok (outV vs) w := by
  have e : results fn tmps = (do let vs ← fn.results.mapM (resV tmps); pure (if h : vs.size = 1 then vs[0] else .tuple vs)) := by
    unfold results
    congr 1
  rw [e, Array.mapM_eq_mapM_toList, hrs]
  simp only [Sem.run_bind, Sem.run_map, h, Result.andThen_ok, Sem.run_pure]
  congr 1
  match vs with
  | [] => rfl
  | [v] => rfl
  | v :: u :: r => simp [outV]

theorem res_one {σ : List SV} {m : List Res} {r : ResultVar} {K : SV → Prop}
    (h : match r with
      | .tmp t => K (σ.getD t .junk)
      | .cell t T => match tsz P T with
        | some (n, ag) => peek m n ag K (σ.getD t .junk)
        | none => False) : ∃ x, K x ∧ ∀ ε a w, Good ε m w → SlotsOK ε σ a → ∃ v, (resV a.tmps r).run P w = .ok v w ∧ SatV ε x v := by
  cases r with
  | tmp t => exact ⟨_, h, fun ε a w hg hs => ⟨_, rfl, hs.2 t⟩⟩
  | cell t T =>
    simp only at h
    split at h
    · rename_i n ag ht
      obtain ⟨c, hK, hag, hone, hh⟩ := peek_ok h
      refine ⟨c, hK, fun ε a w hg hs => ?_⟩
      obtain ⟨b, off, cur, T', fz, e1, e2, e3, e4⟩ := hh ε w _ hg (hs.2 t)
      refine ⟨_, ?_, hag ▸ satC_sat e4⟩
      simp only [resV, Sem.run_bind, e1, asAddr, Sem.run_pure, Result.andThen_ok, run_loadVar ht hone w e2 e3]
    · exact h.elim

theorem res_go {σ : List SV} {m : List Res} : ∀ {rs : List ResultVar} {K : List SV → Prop}, resK.go P σ m rs K → ∃ xs, K xs ∧ ∀ ε a w, Good ε m w → SlotsOK ε σ a → ∃ vs, (rs.mapM (resV a.tmps)).run P w = .ok vs w ∧ SatA xs ε vs ∧ vs.length = rs.length
  | [], K, h => ⟨[], h, fun _ _ _ _ _ => ⟨[], rfl, rfl, rfl⟩⟩
  | r :: rs, K, h => by
    have h' : ∃ x, (x.isVal = true ∧ resK.go P σ m rs fun xs => K (x :: xs)) ∧ ∀ ε a w, Good ε m w → SlotsOK ε σ a → ∃ v, (resV a.tmps r).run P w = .ok v w ∧ SatV ε x v := by
      apply res_one
      cases r <;> simp only [resK.go] at h <;> exact h
    obtain ⟨x, ⟨hx, hgo⟩, hrun⟩ := h'
    obtain ⟨xs, hK, hrun2⟩ := res_go hgo
    refine ⟨x :: xs, hK, fun ε a w hg hs => ?_⟩
    obtain ⟨v, e1, e2⟩ := hrun ε a w hg hs
    obtain ⟨vs, e3, e4, e5⟩ := hrun2 ε a w hg hs
    obtain ⟨cs, e6, e7⟩ := sat_val e2 hx
    refine ⟨v :: vs, by simp [List.mapM_cons, e1, e3], ?_, by simp [e5]⟩
    simp only [SatA]
    exact ⟨cs, vs, by rw [e7], e6, e4⟩

theorem resK_sound {σ : List SV} {m : List Res} {K : SV → Prop} {fn : Func} {rs : List ResultVar} (hrs : fn.results.toList = rs) (h : resK P σ m K rs) :
    ∃ x, K x ∧ ∀ ε a w, Good ε m w → SlotsOK ε σ a → ∃ v, (results fn a.tmps).run P w = .ok v w ∧ SatV ε x v := by
  match rs, hrs, h with
  | [], hrs, h => exact ⟨_, h, fun ε a w hg hs => ⟨_, run_results hrs (vs := []) rfl, ⟨[], rfl, rfl⟩⟩⟩
  | [.tmp t], hrs, h =>
    obtain ⟨x, hK, hrun⟩ := res_one (P := P) (σ := σ) (m := m) (r := .tmp t) h
    refine ⟨x, hK, fun ε a w hg hs => ?_⟩
    obtain ⟨v, e1, e2⟩ := hrun ε a w hg hs
    exact ⟨v, run_results hrs (vs := [v]) (by simp [List.mapM_cons, e1]), e2⟩
  | [.cell t T], hrs, h =>
    obtain ⟨x, hK, hrun⟩ := res_one (P := P) (σ := σ) (m := m) (r := .cell t T) h
    refine ⟨x, hK, fun ε a w hg hs => ?_⟩
    obtain ⟨v, e1, e2⟩ := hrun ε a w hg hs
    exact ⟨v, run_results hrs (vs := [v]) (by simp [List.mapM_cons, e1]), e2⟩
  | r1 :: r2 :: rs, hrs, h =>
    have h' : resK.go P σ m (r1 :: r2 :: rs) fun xs => K (.tup xs) := by cases r1 <;> exact h
    obtain ⟨xs, hK, hrun⟩ := res_go h'
    refine ⟨_, hK, fun ε a w hg hs => ?_⟩
    obtain ⟨vs, e1, e2, e3⟩ := hrun ε a w hg hs
    refine ⟨_, run_results hrs e1, ⟨vs, e2, ?_⟩⟩
    match vs, e3 with
    | v :: u :: vs, _ => rfl

/-- Where a body ends. -/
def endK (rs : List ResultVar) (P : Program) (n0 : Nat) (res : SV) (m1 : List Res) (e : Ex) (σ : List SV) (m : List Res) : Prop := match e with
  | .exit _ => False
  | _ => resK P σ m (fun x => ∃ ks, packK ks n0 res m1 m x) rs

/-- **The body makes the contract.** -/
theorem fn_ok {Γ : Hook} (hΓ : HookOK P Γ) {f : FuncId} {fn : Func} {c : Code} {ic : IC} {args : List SV} {m0 m1 : List Res} {res : SV} {rs : List ResultVar} {nt : Nat} (hf : P.funcs[f]? = some fn) (hb : fn.body = some c) {quiet : FuncId → Bool} (hc : comp P quiet c = some ic)
    (hrs : fn.results.toList = rs) (hnt : fn.ntmps - args.length = nt)
    {Q : Ex → List SV → List Res → Prop} (hQ : ∀ e σ m, Q e σ m → endK rs P m0.length res m1 e σ m) (h : swp Γ m0.length ic Q (args ++ List.replicate nt .junk) m0) : FnOK P f args m0 res m1 := by
  intro ε w vs hg hs
  have hlen : args.length = vs.length := (slots_start hs 0).1 |> fun h => by simpa using h
  refine calls_of_wp hf hb ?_
  have hi := Inv.start hg
  have hsl := slots_start hs nt
  have e : fn.ntmps - vs.toArray.size = nt := by simp; omega
  rw [e]
  refine Code.wp_mono (fun e a w' he => ?_) (swp_sound hΓ (Nat.le_of_eq hg.n) c ic hc _ _ _ h ε _ w hi hsl rfl)
  obtain ⟨ex, σ', m', ε', h1, h2, h3, h4, h5⟩ := he
  replace h2 := hQ _ _ _ h2
  have fin : ∀ (hres : resK P σ' m' (fun x => ∃ ks, packK ks m0.length res m1 m' x) rs), a.defers = [] ∧ ∃ v, (results fn a.tmps).run P w' = .ok v w' ∧
      ∃ v' ε'', Ending.returned v = .returned v' ∧ SatV ε'' res v' ∧ Inv ⟨w, ε, fun b => ∃ i, ownR ε i (memAt m0 i) = some b⟩ ε'' m1 w' := by
    intro hres
    obtain ⟨x, ⟨ks, ⟨k1, k2⟩, k3, k4⟩, hrun⟩ := resK_sound hrs hres
    obtain ⟨v, e1, e2⟩ := hrun ε' a w' h3.good h4
    refine ⟨h5, v, e1, v, selE ks ε', rfl, ?_, ?_⟩
    · rw [← k3]; exact e2.ren (sel_ren ks ε')
    · rw [← k4]; exact h3.sel ks k1 (fun i hi => k2 i (by rw [← hg.n]; exact hi))
  cases e <;> cases ex <;> simp only [ExRel] at h1
  · exact fin h2
  · exact h2.elim
  · exact fin h2

end Go.Sx
