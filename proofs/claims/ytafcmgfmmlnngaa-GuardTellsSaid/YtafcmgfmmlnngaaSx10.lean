import Derived.Test.YtafcmgfmmlnngaaSx9
/-! Sx, part 10: new memory, steps. -/
set_option linter.unusedSimpArgs false
set_option linter.unusedVariables false
namespace Go.Sx
open Go

variable {P : Program}

theorem ResOK.grow {ε ε' : Env} {m : List Res} {w w' : World} (g : Good ε m w) (hl : ε.Le ε') (hw : ∀ b, b < w.heap.size → w'.heap[b]? = w.heap[b]?) {i : Nat} (hi : i < m.length) : ResOK ε' i w' (memAt m i) := by
  have hi' : i < ε.n := by rw [g.n]; exact hi
  have hr := g.res i
  cases hm : memAt m i with
  | dead => trivial
  | blk T c =>
    rw [hm] at hr
    obtain ⟨cs, h1, h2⟩ := hr
    exact ⟨cs, by rw [hl.blk i hi', hw _ (Array.getElem?_eq_some_iff.1 h1).1]; exact h1, h2.mono c hl⟩
  | vec T wd l =>
    rw [hm] at hr
    obtain ⟨xs, h1, h2⟩ := hr
    refine ⟨xs, ?_, fun j hj => (h2 j hj).mono _ hl⟩
    rw [hl.vv i hi']
    refine ⟨h1.1, ?_⟩
    rcases h1.2 with hx | ⟨gg, cap, cur, e1, e2, e3, e4⟩
    · exact .inl hx
    · exact .inr ⟨gg, cap, cur, e1, e2, by rw [hw _ (Array.getElem?_eq_some_iff.1 e3).1]; exact e3, e4⟩
  | mp ek ev l =>
    rw [hm] at hr
    obtain ⟨es, cl, h1, h2⟩ := hr
    exact ⟨es, cl, by rw [hl.blk i hi', hw _ (Array.getElem?_eq_some_iff.1 h1).1]; exact h1, h2⟩

/-- The call has something new. -/
theorem Inv.more {β : Base} {ε : Env} {m : List Res} {w w' : World} (h : Inv β ε m w) {b : Nat} {v : Value} {r : Res} (hg : w.grownBy w' none)
    (hres : ResOK (ε.more b v) m.length w' r) (hown : ∀ x, ownR (ε.more b v) m.length r = some x → w.heap.size ≤ x) :
    Inv β (ε.more b v) (m ++ [r]) w' := by
  have hn := h.good.n
  have hw : ∀ b, b < w.heap.size → w'.heap[b]? = w.heap[b]? := fun b hb => hg.block b hb (by simp)
  have hle := ε.le_more b v
  have hownI : ∀ i, i < m.length → ownR (ε.more b v) i (memAt (m ++ [r]) i) = ownR ε i (memAt m i) := by
    intro i hi
    rw [memAt_append_lt hi]
    have hi' : i < ε.n := by omega
    cases memAt m i <;> simp [ownR, Env.more, Nat.ne_of_lt hi']
  have hcase : ∀ i x, ownR (ε.more b v) i (memAt (m ++ [r]) i) = some x → (i < m.length ∧ ownR ε i (memAt m i) = some x) ∨ (i = m.length ∧ w.heap.size ≤ x) := by
    intro i x hb
    rcases Nat.lt_trichotomy i m.length with hi | hi | hi
    · rw [hownI i hi] at hb; exact .inl ⟨hi, hb⟩
    · subst hi; rw [memAt_snoc] at hb; exact .inr ⟨rfl, hown x hb⟩
    · rw [memAt_ge (by simp; omega)] at hb; cases hb
  refine ⟨⟨by simp [Env.more, hn], fun i => ?_, fun i j x hij h1 h2 => ?_, fun i x hb => ?_, fun x o hb => ?_⟩, ⟨hg.os.trans h.kept.os, hg.tape.trans h.kept.tape, hg.output.trans h.kept.output, Nat.le_trans h.kept.size hg.size, ?_, h.kept.H, h.kept.fresh⟩, fun i x hb => ?_, ?_, fun i hi => ?_, fun i hi hv => ?_⟩
  · rcases Nat.lt_trichotomy i m.length with hi | hi | hi
    · rw [memAt_append_lt hi]; exact ResOK.grow h.good hle hw hi
    · subst hi; rw [memAt_snoc]; exact hres
    · rw [memAt_ge (by simp; omega)]; trivial
  · rcases hcase i x h1 with ⟨hi, h1'⟩ | ⟨hi, hb⟩ <;> rcases hcase j x h2 with ⟨hj, h2'⟩ | ⟨hj, hb2⟩
    · exact h.good.disj i j x hij h1' h2'
    · have := ownR_lt h.good h1'; omega
    · have := ownR_lt h.good h2'; omega
    · omega
  · rcases hcase i x hb with ⟨_, h1⟩ | ⟨_, h1⟩
    · exact h.good.sep i x h1
    · cases hh : ε.H x with
      | none => exact hh
      | some o => have := H_lt h.good hh; omega
  · rw [hw x (H_lt h.good hb)]; exact h.good.hv x o hb
  · intro x hb hB; rw [hw x (Nat.lt_of_lt_of_le hb h.kept.size)]; exact h.kept.heap x hb hB
  · rcases hcase i x hb with ⟨_, h1⟩ | ⟨_, h1⟩
    · exact h.own i x h1
    · right; exact Nat.le_trans h.kept.size h1
  · have := h.n; simp [Env.more]; omega
  · have := h.n
    have e := h.blk i hi
    simp [Env.more]
    rw [if_neg (by omega)]; exact e
  · have hn' := h.n
    rw [memAt_append_lt (by omega)] at hv
    have e := h.vv i hi hv
    simp [Env.more]
    rw [if_neg (by omega)]; exact e

section
variable {o : Oper} {σ : List SV} {m : List Res}

theorem estep_alloc {T : TypeId} {z : SV} (ho : o.op = .alloc T) (hz : zok P T = some z) : EStepL P o σ m (.ptr m.length [] 0) (m ++ [.blk T z]) := by
  intro β ε a w hi hs Q
  obtain ⟨i, v, h1, h2, h3⟩ := zok_ok hz
  have hr : (execOp a.eval o).run P w = .ok (.value (.pointer (some ⟨w.heap.size, 0, none⟩))) (w.alloc (.cells v.cells T)) := by
    simp [execOp, ho, Instr.alloc, zeroValue, typeInfo, h1, h2, newVar, newRow]
  unfold Oper.wp
  rw [hr, Oper.upon_value]
  have := hi.alloc (T := T) (h3 ε)
  simp only [Array.toArray_toList] at this
  refine ⟨_, _, rfl, ?_, ε.le_more _ _, this⟩
  refine ⟨_, by simp only [SatC]; exact ⟨by simp [Env.more, hi.good.n], trivial, rfl⟩, ?_⟩
  simp [boxed, SV.isAgg, Env.more, hi.good.n]

theorem estep_box {T : TypeId} {x : Operand} {x' : Opd} (ho : o.op = .box T x) (hx : compO x = some x') (hv : (x'.ev σ).isVal = true) :
    EStepL P o σ m (.ptr m.length [] 0) (m ++ [.blk T (x'.ev σ)]) := by
  intro β ε a w hi hs Q
  obtain ⟨cs, h1, h2⟩ := sat_val (compO_ok hx hs) hv
  have hr : (execOp a.eval o).run P w = .ok (.value (.pointer (some ⟨w.heap.size, 0, none⟩))) (w.alloc (.cells cs.toArray T)) := by
    have := scalar_cells h1
    simp [execOp, ho, Instr.box, newVar, newRow, h2, this]
  unfold Oper.wp
  rw [hr, Oper.upon_value]
  refine ⟨_, _, rfl, ?_, ε.le_more _ _, hi.alloc h1⟩
  refine ⟨_, by simp only [SatC]; exact ⟨by simp [Env.more, hi.good.n], trivial, rfl⟩, ?_⟩
  simp [boxed, SV.isAgg, Env.more, hi.good.n]

/-- The elements of a literal slice, each into its place. -/
def bslParts (σ : List SV) (w : Nat) : List SV → List (Nat × Opd) → (List SV → Prop) → Prop
  | l, [], K => K l
  | l, (k, x) :: r, K => (k < l.length ∧ (x.ev σ).isVal = true ∧ wd (x.ev σ) = w) ∧ bslParts σ w (l.set k (x.ev σ)) r K

def bslEnd (σ : List SV) : List SV → List (Nat × Opd) → List SV
  | l, [] => l
  | l, (k, x) :: r => bslEnd σ (l.set k (x.ev σ)) r

theorem bslEnd_len : ∀ (ys : List (Nat × Opd)) (l : List SV), (bslEnd σ l ys).length = l.length
  | [], _ => rfl
  | (k, x) :: r, l => by simp [bslEnd, bslEnd_len r]

theorem bslParts_end {w : Nat} : ∀ (ys : List (Nat × Opd)) (l : List SV) {K : List SV → Prop}, bslParts σ w l ys K → K (bslEnd σ l ys) ∧ bslParts σ w l ys (fun _ => True)
  | [], l, K, h => ⟨h, trivial⟩
  | (k, x) :: r, l, K, h => by
    simp only [bslParts] at h ⊢
    obtain ⟨i1, i2⟩ := bslParts_end r _ h.2
    exact ⟨i1, h.1, i2⟩

def compEls : List (Nat × Operand) → Option (List (Nat × Opd))
  | [] => some []
  | (k, x) :: r => match compO x, compEls r with
    | some y, some ys => some ((k, y) :: ys)
    | _, _ => none

/-- Cells of elements, each 'w' wide. -/
def SatE (ε : Env) (w : Nat) (l : List SV) (cs : List Value) : Prop := cs.length = l.length * w ∧ ∀ j, j < l.length → SatC (l.getD j .junk) ε (sub cs (j * w) w)

theorem SatE.set {ε : Env} {w : Nat} {l : List SV} {cs xs : List Value} {k : Nat} {x : SV} (h : SatE ε w l cs) (hk : k < l.length) (hx : SatC x ε xs) (hw : xs.length = w) : SatE ε w (l.set k x) (splice cs (k * w) xs) := by
  have hkl := mul_le_len (w := w) hk
  have h1 := h.1
  refine ⟨by rw [splice_length (by omega), List.length_set]; exact h.1, fun j hj => ?_⟩
  rw [List.length_set] at hj
  have hjl := mul_le_len (w := w) hj
  by_cases hjk : j = k
  · subst hjk
    rw [sub_splice_in (by omega) (by omega) (by omega)]
    have : splice (sub cs (j * w) w) (j * w - j * w) xs = xs := by
      have hl : (sub cs (j * w) w).length = w := sub_length (by omega)
      simp only [Nat.sub_self, splice, List.take_zero, List.nil_append, Nat.zero_add]
      rw [List.drop_of_length_le (by omega)]; simp
    rw [this]
    simpa [List.getD, hj] using hx
  · rw [sub_splice_out ?_ (by omega)]
    · have : (l.set k x).getD j .junk = l.getD j .junk := by
        simp only [List.getD_eq_getElem?_getD, List.getElem?_set]
        rw [if_neg (fun e => hjk e.symm)]
      rw [this]
      exact h.2 j hj
    · rcases Nat.lt_or_gt_of_ne hjk with hlt | hgt
      · have := mul_le_len (w := w) hlt
        right; omega
      · have := mul_le_len (w := w) hgt
        left; omega

theorem bsl_fill {ε : Env} {a : Act} {w : Nat} (hs : SlotsOK ε σ a) : ∀ (parts : List (Nat × Operand)) (ys : List (Nat × Opd)) (l : List SV) (cs : List Value), compEls parts = some ys → SatE ε w l cs → bslParts σ w l ys (fun _ => True) →
    ∃ cs', SatE ε w (bslEnd σ l ys) cs' ∧ Instr.fill (fun i => some (i * w, w)) cs.toArray (parts.map fun x => (x.1, a.eval x.2)) = some cs'.toArray
  | [], ys, l, cs, hc, hl, h => by
    simp only [compEls, Option.some.injEq] at hc; subst hc
    exact ⟨cs, hl, rfl⟩
  | (k, x) :: r, ys, l, cs, hc, hl, h => by
    simp only [compEls] at hc
    split at hc <;> try (cases hc; done)
    rename_i y ys' h1 h2
    simp only [Option.some.injEq] at hc; subst hc
    simp only [bslParts] at h
    obtain ⟨⟨hk, hv, hw⟩, h⟩ := h
    obtain ⟨xs, hx1, hx2⟩ := sat_val (compO_ok h1 hs) hv
    have hlen := SatC.length _ hx1
    have hkl := mul_le_len (w := w) hk
    have h3 := hl.1
    obtain ⟨cs', i1, i2⟩ := bsl_fill hs r ys' _ _ h2 (hl.set hk hx1 (by omega)) h
    refine ⟨cs', i1, ?_⟩
    have hcells : (a.eval x).cells = xs.toArray := by rw [hx2]; exact scalar_cells hx1
    simp only [List.map_cons, Instr.fill, hcells]
    have hsz : xs.toArray.size = w := by simp; omega
    rw [if_neg (by simp [hsz]; omega)]
    have := zipIdx_foldl (k * w) xs cs.toArray (by simp; omega)
    simp only at this
    rw [this]
    exact i2

theorem satE_zero {ε : Env} {z : SV} {w n : Nat} {zc : List Value} (hz : SatC z ε zc) (hw : zc.length = w) : SatE ε w (List.replicate n z) ((Array.range (n * w)).map (zc.toArray[· % zc.toArray.size]!)).toList := by
  refine ⟨by simp, fun j hj => ?_⟩
  simp only [List.length_replicate] at hj
  have hjl := mul_le_len (w := w) hj
  have hg : (List.replicate n z).getD j .junk = z := by simp [List.getD, hj]
  rw [hg]
  have : sub ((Array.range (n * w)).map (zc.toArray[· % zc.toArray.size]!)).toList (j * w) w = zc := by
    apply List.ext_getElem?
    intro k
    rw [sub_get]
    by_cases hk : k < w
    · rw [if_pos hk]
      have h1 : j * w + k < n * w := by omega
      have h2 : (j * w + k) % w = k := by rw [Nat.mul_comm, Nat.mul_add_mod, Nat.mod_eq_of_lt hk]
      have h3 : k < zc.length := by omega
      simp [h1, hw, h2]
      rw [List.getElem?_eq_getElem h3]
      rfl
    · rw [if_neg hk, List.getElem?_eq_none (by omega)]
  rw [this]
  exact hz

theorem run_bsl {T E : TypeId} {len w : Nat} {z : SV} {ag : Bool} {parts : Array (Nat × Operand)} {ys : List (Nat × Opd)} (ho : o.op = .buildSlice T len parts) (hu : P.underlying T = some (.slice E)) (hz : zok P E = some z)
    (ht : tsz P E = some (w, ag)) (hwd : wd z = w) (hlen : len * w ≤ 2 ^ 24) (h0 : 0 < w) (hc : compEls parts.toList = some ys) (h2 : bslParts σ w (List.replicate len z) ys (fun _ => True)) {ε : Env} {a : Act} (wd' : World) (hs : SlotsOK ε σ a) :
    ∃ cs', SatE ε w (bslEnd σ (List.replicate len z) ys) cs' ∧ (execOp a.eval o).run P wd' = .ok (.value (.slice (some ⟨wd'.heap.size, 0, none⟩) len len)) (wd'.alloc (.cells cs'.toArray E)) := by
  obtain ⟨i, v, e1, e2, e3⟩ := zok_ok hz
  have hzl := SatC.length _ (e3 ε)
  obtain ⟨cs', g1, g2⟩ := bsl_fill (w := w) hs parts.toList ys _ _ hc (satE_zero (n := len) (e3 ε) (by omega)) h2
  refine ⟨cs', g1, ?_⟩
  have hpl : (parts.map fun (i, x) => (i, a.eval x)).toList = parts.toList.map fun x => (x.1, a.eval x.2) := by simp
  simp only [execOp, ho, Instr.buildSlice, Sem.run_bind, run_underlying hu, Result.andThen_ok, run_sizeOf ht]
  rw [if_neg (by omega)]
  by_cases hz0 : len * w = 0
  · have hl0 : len = 0 := by
      rcases Nat.mul_eq_zero.1 hz0 with h | h
      · exact h
      · omega
    subst hl0
    simp only [Nat.zero_mul, if_true, Sem.run_bind, Sem.run_pure, Result.andThen_ok, hpl]
    have g2' := g2
    rw [Nat.zero_mul] at g2'
    have r0 : ∀ f : Nat → Value, (Array.range 0).map f = #[] := fun f => by apply Array.ext'; simp
    rw [r0] at g2'
    simp only [r0]
    have g3 : Instr.fill (fun i => some (i * w, w)) #[] (parts.toList.map fun x => (x.1, a.eval x.2)) = some cs'.toArray := g2'
    simp [g3, newRow]
  rw [if_neg hz0]
  simp only [Sem.run_bind, zeroValue, typeInfo, run_program, Result.andThen_ok, e1, Sem.run_pure, e2, hpl]
  have : ((Array.range (len * w)).map (v.cells[· % v.cells.size]!)) = ((Array.range (len * w)).map (v.cells.toList.toArray[· % v.cells.toList.toArray.size]!)).toList.toArray := by apply Array.ext'; simp
  rw [this, g2]
  simp [newRow]
theorem estep_bsl {T E : TypeId} {len w : Nat} {z : SV} {ag : Bool} {parts : Array (Nat × Operand)} {ys : List (Nat × Opd)} {K : List SV → Prop} (ho : o.op = .buildSlice T len parts) (hu : P.underlying T = some (.slice E)) (hz : zok P E = some z)
    (ht : tsz P E = some (w, ag)) (hwd : wd z = w) (hlen : len * w ≤ 2 ^ 24) (h0 : 0 < w) (hc : compEls parts.toList = some ys) (h : bslParts σ w (List.replicate len z) ys K) :
    ∃ l, K l ∧ EStepL P o σ m (.vec m.length len) (m ++ [.vec E w l]) := by
  obtain ⟨h1, h2⟩ := bslParts_end _ _ h
  refine ⟨_, h1, fun β ε a wd' hi hs Q => ?_⟩
  obtain ⟨cs', g1, hr⟩ := run_bsl ho hu hz ht hwd hlen h0 hc h2 wd' hs
  have hll : (bslEnd σ (List.replicate len z) ys).length = len := by rw [bslEnd_len]; simp
  have hg1 := g1.1
  rw [hll] at hg1
  have hlm : len ≤ maxLen := by
    have : len ≤ len * w := Nat.le_mul_of_pos_right _ h0
    unfold maxLen; omega
  unfold Oper.wp
  rw [hr, Oper.upon_value]
  refine ⟨_, ε.more 0 (.slice (some ⟨wd'.heap.size, 0, none⟩) len len), rfl, ?_, ε.le_more _ _, hi.more (World.grownBy_alloc _ _ _) ?_ ?_⟩
  · refine ⟨[.slice (some ⟨wd'.heap.size, 0, none⟩) len len], ?_, rfl⟩
    simp only [SatC]
    refine ⟨by simp [Env.more, hi.good.n], .inr ⟨wd'.heap.size, len, ?_⟩, ?_⟩ <;> simp [Env.more, hi.good.n]
  · refine ⟨cs', ?_, fun j hj => (g1.2 j hj).mono _ (ε.le_more _ _)⟩
    have hvv : (ε.more 0 (.slice (some ⟨wd'.heap.size, 0, none⟩) len len)).vv m.length = .slice (some ⟨wd'.heap.size, 0, none⟩) len len := by simp [Env.more, hi.good.n]
    rw [hvv, hll]
    exact ⟨hg1, .inr ⟨wd'.heap.size, len, cs'.toArray, rfl, Nat.zero_le _, heap_alloc_new wd' _, Nat.le_refl _, hlm, by simpa using hg1, by rw [List.take_of_length_le (by simp [hg1])]⟩⟩
  · intro x hx
    simp [ownR, Env.more, hi.good.n, Value.ownBlock] at hx
    omega
/-- A new block that is held fast from its first moment. -/
theorem Inv.allocH {β : Base} {ε : Env} {m : List Res} {w : World} (h : Inv β ε m w) (cs : List Value) (T : TypeId) :
    Inv β { ε with H := fun b => if b = w.heap.size then some (.cells cs.toArray T (0, 0)) else ε.H b } m (w.alloc (.cells cs.toArray T)) ∧
    ε.Le { ε with H := fun b => if b = w.heap.size then some (.cells cs.toArray T (0, 0)) else ε.H b } := by
  have hw : ∀ b, b < w.heap.size → (w.alloc (.cells cs.toArray T)).heap[b]? = w.heap[b]? := fun b hb => Go.RowKit.Below.heap_alloc w _ b hb
  have hH : ∀ b o, ε.H b = some o → (if b = w.heap.size then some (.cells cs.toArray T (0, 0)) else ε.H b) = some o := by
    intro b o hb
    rw [if_neg (by have := H_lt h.good hb; omega)]; exact hb
  have hle : ε.Le { ε with H := fun b => if b = w.heap.size then some (.cells cs.toArray T (0, 0)) else ε.H b } := ⟨Nat.le_refl _, fun _ _ => rfl, fun _ _ => rfl, hH⟩
  refine ⟨⟨h.good.grow hle h.good.n (fun _ _ => rfl) (fun _ _ => rfl) hw (fun b o hb => ?_) (fun i b hb => ?_), ⟨h.kept.os, h.kept.tape, h.kept.output, ?_, ?_, fun b o hb => hH b o (h.kept.H b o hb), fun b o hb => ?_⟩, h.own, h.n, h.blk, h.vv⟩, hle⟩
  · simp only at hb
    by_cases e : b = w.heap.size
    · rw [if_pos e] at hb
      subst e
      rw [heap_alloc_new w]
      exact hb
    · rw [if_neg e] at hb
      rw [hw b (H_lt h.good hb)]; exact h.good.hv b o hb
  · have := ownR_lt h.good hb
    simp only
    rw [if_neg (by omega)]; exact h.good.sep i b hb
  · have := h.kept.size; simp; omega
  · intro b hb hB; rw [hw b (Nat.lt_of_lt_of_le hb h.kept.size)]; exact h.kept.heap b hb hB
  · simp only at hb
    by_cases e : b = w.heap.size
    · right; left; rw [e]; exact h.kept.size
    · rw [if_neg e] at hb; exact h.kept.fresh b o hb
/-- Numbers that stand in the text, one for each place. -/
def tabOf : Nat → List (Nat × Opd) → Option (List Int)
  | _, [] => some []
  | j, (i, x) :: r => match x with
    | .c (.int .i64 n) => if i = j then (tabOf (j + 1) r).map (n :: ·) else none
    | _ => none
theorem tab_parts : ∀ (ys : List (Nat × Opd)) (j : Nat) (l : List Int) (L : List SV), tabOf j ys = some l → L.length = j + l.length →
    bslParts σ 1 L ys (fun _ => True) ∧ (bslEnd σ L ys).length = L.length ∧ (∀ k, k < j → (bslEnd σ L ys).getD k .junk = L.getD k .junk) ∧ ∀ k, k < l.length → (bslEnd σ L ys).getD (j + k) .junk = .int .i64 (l.getD k 0)
  | [], j, l, L, h, hl => by
    simp only [tabOf, Option.some.injEq] at h; subst h
    exact ⟨trivial, rfl, fun _ _ => rfl, fun k hk => absurd hk (Nat.not_lt_zero _)⟩
  | (i, x) :: r, j, l, L, h, hl => by
    simp only [tabOf] at h
    split at h <;> try (cases h; done)
    rename_i n
    split at h <;> try (cases h; done)
    rename_i hij
    subst hij
    simp only [Option.map_eq_some_iff] at h
    obtain ⟨l', h1, rfl⟩ := h
    simp only [List.length_cons] at hl
    obtain ⟨k1, k2, k3, k4⟩ := tab_parts r (i + 1) l' (L.set i (.int .i64 n)) h1 (by simp; omega)
    refine ⟨⟨⟨by omega, rfl, rfl⟩, k1⟩, by rw [bslEnd, Opd.ev, k2]; simp, fun k hk => ?_, fun k hk => ?_⟩
    · rw [bslEnd, Opd.ev, k3 k (by omega), List.getD, List.getD, List.getElem?_set, if_neg (by omega)]
    · rw [bslEnd, Opd.ev]
      cases k with
      | zero =>
        rw [Nat.add_zero, k3 i (by omega), List.getD, List.getElem?_set, if_pos rfl, if_pos (by omega)]
        rfl
      | succ k =>
        have := k4 k (by simpa using hk)
        rw [show i + (k + 1) = i + 1 + k from by omega, this]
        rfl
theorem estep_tab {T E : TypeId} {len : Nat} {z : SV} {ag : Bool} {parts : Array (Nat × Operand)} {ys : List (Nat × Opd)} {l : List Int} (ho : o.op = .buildSlice T len parts) (hu : P.underlying T = some (.slice E)) (hz : zok P E = some z)
    (ht : tsz P E = some (1, ag)) (hwd : wd z = 1) (hlen : len * 1 ≤ 2 ^ 24) (hc : compEls parts.toList = some ys) (hl : tabOf 0 ys = some l) (hll : len = l.length) :
    EStepL P o σ m (.lst 1 (0 : Int) (SV.int .i64) l) m := by
  obtain ⟨h2, h3, _, h4⟩ := tab_parts (σ := σ) ys 0 l (List.replicate len z) hl (by simp [hll])
  intro β ε a wd' hi hs Q
  obtain ⟨cs', g1, hr⟩ := run_bsl ho hu hz ht hwd hlen (by omega) hc h2 wd' hs
  rw [List.length_replicate] at h3
  have hg1 := g1.1
  rw [h3] at hg1
  obtain ⟨k1, k2⟩ := hi.allocH cs' E
  unfold Oper.wp
  rw [hr, Oper.upon_value]
  refine ⟨_, _, rfl, ⟨[.slice (some ⟨wd'.heap.size, 0, none⟩) len len], ?_, rfl⟩, k2, k1⟩
  simp only [SatC]
  refine ⟨some ⟨wd'.heap.size, 0, none⟩, len, by rw [hll], by omega, by unfold maxLen; omega, (fun h => by cases h), fun i hi' => ?_⟩
  refine ⟨wd'.heap.size, 0, E, (0, 0), cs'.toArray, rfl, by simp [Env.cl], by simp; omega, ?_⟩
  have := g1.2 i (by rw [h3]; omega)
  have h5 := h4 i hi'
  rw [Nat.zero_add] at h5
  rw [h5] at this
  simp only [SatC] at this ⊢
  rw [Nat.zero_add]
  exact this
theorem estep_qbsl {T E : TypeId} {len w : Nat} {z : SV} {ag : Bool} {parts : Array (Nat × Operand)} {ys : List (Nat × Opd)} {K : SV → Prop} (ho : o.op = .buildSlice T len parts) (hu : P.underlying T = some (.slice E)) (hz : zok P E = some z)
    (ht : tsz P E = some (w, ag)) (hwd : wd z = w) (hlen : len * w ≤ 2 ^ 24) (h0 : 0 < w) (hc : compEls parts.toList = some ys) (h : bslParts σ w (List.replicate len z) ys fun l => datPL l ∧ K (.lst w (0 : Nat) (fun i => l.getD i .junk) (List.range len))) :
    ∃ sv, K sv ∧ ∀ m, EStepL P o σ m sv m := by
  obtain ⟨⟨hd, h1⟩, h2⟩ := bslParts_end _ _ h
  refine ⟨_, h1, fun m β ε a wd' hi hs Q => ?_⟩
  obtain ⟨cs', g1, hr⟩ := run_bsl ho hu hz ht hwd hlen h0 hc h2 wd' hs
  have hll : (bslEnd σ (List.replicate len z) ys).length = len := by rw [bslEnd_len]; simp
  have hg1 := g1.1
  rw [hll] at hg1
  have hlm : len ≤ maxLen := by
    have : len ≤ len * w := Nat.le_mul_of_pos_right _ h0
    unfold maxLen; omega
  obtain ⟨k1, k2⟩ := hi.allocH cs' E
  unfold Oper.wp
  rw [hr, Oper.upon_value]
  refine ⟨_, _, rfl, ⟨[.slice (some ⟨wd'.heap.size, 0, none⟩) len len], ?_, rfl⟩, k2, k1⟩
  simp only [SatC]
  refine ⟨some ⟨wd'.heap.size, 0, none⟩, len, by simp, by simp, hlm, (fun h => by cases h), fun i hi' => ?_⟩
  simp only [List.length_range] at hi'
  have hle := mul_le_len (w := w) hi'
  refine ⟨wd'.heap.size, 0, E, (0, 0), cs'.toArray, rfl, by simp [Env.cl], by simp; omega, ?_⟩
  have hr2 : (List.range len).getD i 0 = i := by simp [List.getD, hi']
  rw [hr2, Nat.zero_add]
  exact dat_env _ (datPL_at hd (by rw [hll]; exact hi')) (g1.2 i (by rw [hll]; exact hi'))
end
end Go.Sx
