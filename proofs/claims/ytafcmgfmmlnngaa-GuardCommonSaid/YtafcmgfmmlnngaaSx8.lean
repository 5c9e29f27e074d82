import Derived.Test.YtafcmgfmmlnngaaSx7
/-! Sx, part 8: reading and writing memory. -/
set_option linter.unusedSimpArgs false
set_option linter.unusedVariables false
namespace Go.Sx
open Go

variable {P : Program}

theorem run_loadVar {t : TypeId} {n : Nat} {ag : Bool} (ht : tsz P t = some (n, ag)) (h1 : ag = false → n = 1) (w : World) {b off : Nat} {cur : Array Value} {T : TypeId} {fz : Nat × Nat}
    (hb : w.heap[b]? = some (.cells cur T fz)) (hl : off + n ≤ cur.size) : (loadVar t ⟨b, off, none⟩).run P w = .ok (boxed ag (sub cur.toList off n)) w := by
  have hcell : ∀ j, j < cur.size → w.cell? ⟨b, j, none⟩ = some (cur.getD j undef) := by
    intro j hj
    simp [World.cell?, hb, Array.getD, hj]
  simp only [loadVar, Sem.run_bind, run_isAgg ht, Result.andThen_ok]
  cases ag with
  | true =>
    simp only [if_true, Sem.run_bind, run_sizeOf ht, Result.andThen_ok]
    rw [run_loadCells (P := P) w ⟨b, off, none⟩ n (fun j => cur.getD (off + j) undef) (fun j hj => by rw [Addr.add_lit]; exact hcell _ (by omega))]
    simp only [Result.andThen_ok, Sem.run_pure, boxed, if_true]
    congr 3
    apply List.ext_getElem?
    intro j
    rw [sub_get]
    by_cases hj : j < n
    · rw [if_pos hj]
      have : off + j < cur.size := by omega
      simp [hj, Array.getD, this]
    · rw [if_neg hj]
      simp [hj]
  | false =>
    have := h1 rfl
    subst this
    have hlt : off < cur.size := by omega
    simp only [Bool.false_eq_true, if_false, run_load, hcell off hlt, boxed]
    congr 1
    simp [sub, List.headD_eq_head?_getD, List.head?_take, List.head?_drop, Array.getD, hlt]

theorem run_storeVar {t : TypeId} {n : Nat} {ag : Bool} (ht : tsz P t = some (n, ag)) (w : World) {b off : Nat} {cur : List Value} {T : TypeId} {v : Value} {xs : List Value}
    (hb : w.heap[b]? = some (.cells cur.toArray T (0, 0))) (hv : v.cells = xs.toArray) (hn : xs.length = n) (hl : off + n ≤ cur.length) (h1 : ∀ u ∈ xs, u.oneCell' = true) :
    (storeVar t ⟨b, off, none⟩ v).run P w = .ok () (w.setRow b (splice cur off xs).toArray) := by
  have hst := run_storeCells_at P b off T xs 0 cur.toArray w hb (by simp; omega) h1
  simp only [Nat.add_zero] at hst
  simp only [storeVar, Sem.run_bind, run_sizeOf ht, Result.andThen_ok, hv]
  rw [if_neg (by simp; omega)]
  rw [hst]
  rfl

/-- Operations that read or write memory. -/
inductive EIO : Type 1 where
  | alloc (T : TypeId) (z : SV)
  | box (T : TypeId) (x : Opd)
  | load (n : Nat) (ag : Bool) (x : Opd)
  | store (n : Nat) (x v : Opd)
  | bsl (E : TypeId) (w len : Nat) (z : SV) (parts : List (Nat × Opd))
  | mks (E : TypeId) (w bytes : Nat) (z : SV) (len cap : Opd)
  | app (E : TypeId) (w bytes : Nat) (s x : Opd)
  | call (f : FuncId) (args : List Opd)
  | qcall (f : FuncId) (args : List Opd)
  | qtab (l : List Int)
  | qbsl (E : TypeId) (w len : Nat) (z : SV) (parts : List (Nat × Opd))
  | again (n : Nat) (ag : Bool) (x : Opd) (d : Nat)
  | callv (x : Opd) (args : List Opd)
  | mop (k : MK) (args : List Opd)

/-- What is known of callees. -/
abbrev Hook := FuncId → List SV → List Res → (SV → List Res → Prop) → Prop

/-- Where a pointer points to: what is there. -/
def peek (m : List Res) (n : Nat) (ag : Bool) (K : SV → Prop) : SV → Prop
  | .ptr i p o => match memAt m i with
    | .blk _ c => (atP c p 0 o ∧ wd (getP c p) = n ∧ (getP c p).isAgg = ag) ∧ K (getP c p)
    | _ => False
  | .eptr _ d f l i p o => (atP (f (l.getD i d)) p 0 o ∧ wd (getP (f (l.getD i d)) p) = n ∧ (getP (f (l.getD i d)) p).isAgg = ag) ∧ K (getP (f (l.getD i d)) p)
  | .vptr i j p o => match memAt m i with
    | .vec _ w l => (j < l.length ∧ atP (l.getD j .junk) p (j * w) o ∧ wd (getP (l.getD j .junk) p) = n ∧ (getP (l.getD j .junk) p).isAgg = ag) ∧ K (getP (l.getD j .junk) p)
    | _ => False
  | .ref c p o => (atP c p 0 o ∧ wd (getP c p) = n ∧ (getP c p).isAgg = ag) ∧ K (getP c p)
  | _ => False

/-- What is done with a map: what comes of it. -/
def mopK (m : List Res) (k : MK) (xs : List SV) (K : SV → List Res → Prop) : Prop := match k with
  | .make ek ev => match xs with
    | [] => K (.map m.length) (m ++ [.mp ek ev []])
    | [.int _ _] => K (.map m.length) (m ++ [.mp ek ev []])
    | _ => False
  | .put ek ev => match xs with
    | [.map i, key, v] => match memAt m i with
      | .mp ek' ev' l => (ek' = ek ∧ ev' = ev ∧ esP ek key ∧ esP ev v) ∧ K .junk (m.set i (.mp ek ev (mpPut ek key v l)))
      | _ => False
    | _ => False
  | .get ek ev z ok => match xs with
    | [.map i, key] => match memAt m i with
      | .mp ek' ev' l => (ek' = ek ∧ ev' = ev ∧ esP ek key) ∧ K (if ok then .tup [mpRes ev z (mpFind ek key l), .bool (mpFind ek key l).isSome] else mpRes ev z (mpFind ek key l)) m
      | _ => False
    | _ => False

def poke (m : List Res) (n : Nat) (v : SV) (K : List Res → Prop) : SV → Prop
  | .ptr i p o => match memAt m i with
    | .blk T c => (atP c p 0 o ∧ wd (getP c p) = n ∧ wd v = n ∧ v.isVal = true) ∧ K (m.set i (.blk T (setP c p v)))
    | _ => False
  | .vptr i j p o => match memAt m i with
    | .vec T w l => (j < l.length ∧ atP (l.getD j .junk) p (j * w) o ∧ wd (getP (l.getD j .junk) p) = n ∧ wd v = n ∧ v.isVal = true) ∧ K (m.set i (.vec T w (l.set j (setP (l.getD j .junk) p v))))
    | _ => False
  | _ => False

theorem atP_shift : ∀ (p : List Step) (c : SV) (a o k : Nat), atP c p (a + k) o → a + k ≤ o → atP c p a (o - k)
  | [], c, a, o, k, h, _ => by simp only [atP] at h ⊢; omega
  | .fld j :: p, .agg l, a, o, k, h, hle => by
    simp only [atP] at h ⊢
    refine ⟨h.1, ?_⟩
    have h2 := h.2
    rw [show a + k + wds (l.take j) = (a + wds (l.take j)) + k by omega] at h2
    exact atP_shift p _ _ _ _ h2 (by
      have := atP_le p _ _ _ h2
      exact this)
  | .idx i n' :: p, .arr n w f, a, o, k, h, hle => by
    simp only [atP] at h ⊢
    refine ⟨h.1, ?_⟩
    have h2 := h.2
    rw [show a + k + i * w = (a + i * w) + k by omega] at h2
    exact atP_shift p _ _ _ _ h2 (atP_le p _ _ _ h2)
  | .fld _ :: _, .arr .., _, _, _, h, _ => by simp only [atP] at h
  | .idx .. :: _, .agg .., _, _, _, h, _ => by simp only [atP] at h
  | _ :: _, .int .., _, _, _, h, _ => by simp only [atP] at h
  | _ :: _, .bool .., _, _, _, h, _ => by simp only [atP] at h
  | _ :: _, .str .., _, _, _, h, _ => by simp only [atP] at h
  | _ :: _, .tup .., _, _, _, h, _ => by simp only [atP] at h
  | _ :: _, .lst .., _, _, _, h, _ => by simp only [atP] at h
  | _ :: _, .eptr .., _, _, _, h, _ => by simp only [atP] at h
  | _ :: _, .ref .., _, _, _, h, _ => by simp only [atP] at h
  | _ :: _, .ptr .., _, _, _, h, _ => by simp only [atP] at h
  | _ :: _, .vec .., _, _, _, h, _ => by simp only [atP] at h
  | _ :: _, .vptr .., _, _, _, h, _ => by simp only [atP] at h
  | _ :: _, .map .., _, _, _, h, _ => by simp only [atP] at h
  | _ :: _, .fn .., _, _, _, h, _ => by simp only [atP] at h
  | _ :: _, .iface .., _, _, _, h, _ => by simp only [atP] at h
  | _ :: _, .nils, _, _, _, h, _ => by simp only [atP] at h
  | _ :: _, .nili, _, _, _, h, _ => by simp only [atP] at h
  | _ :: _, .nilf, _, _, _, h, _ => by simp only [atP] at h
  | _ :: _, .nilp, _, _, _, h, _ => by simp only [atP] at h
  | _ :: _, .nilm, _, _, _, h, _ => by simp only [atP] at h
  | _ :: _, .anyb, _, _, _, h, _ => by simp only [atP] at h
  | _ :: _, .raw .., _, _, _, h, _ => by simp only [atP] at h
  | _ :: _, .junk, _, _, _, h, _ => by simp only [atP] at h
where
  atP_le : ∀ (p : List Step) (c : SV) (a o : Nat), atP c p a o → a ≤ o := by
    intro p
    induction p with
    | nil => intro c a o h; simp only [atP] at h; omega
    | cons s p ih =>
      intro c a o h
      cases c <;> cases s <;> simp only [atP] at h
      · have := ih _ _ _ h.2; omega
      · have := ih _ _ _ h.2; omega

theorem Env.cl_le (ε : Env) : ε.cl.Le ε :=
  { n := Nat.zero_le _, blk := fun _ hi => absurd hi (Nat.not_lt_zero _), vv := fun _ hi => absurd hi (Nat.not_lt_zero _), H := fun _ _ h => h }

theorem sub_toArray {cs : List Value} : cs.toArray.toList = cs := by simp

theorem one_of_scalar {c : SV} {n : Nat} {ag : Bool} (h1 : wd c = n) (h2 : c.isAgg = ag) : ag = false → n = 1 := by
  intro h; subst h2; rw [← h1]; exact wd_scalar h

/-- What lies at a pointer, in the world. -/
theorem peek_ok {m : List Res} {n : Nat} {ag : Bool} {K : SV → Prop} {x : SV} (h : peek m n ag K x) :
    ∃ c, K c ∧ c.isAgg = ag ∧ (ag = false → n = 1) ∧ ∀ ε w v, Good ε m w → SatV ε x v →
      ∃ b off cur T fz, v = .pointer (some ⟨b, off, none⟩) ∧ w.heap[b]? = some (.cells cur T fz) ∧ off + n ≤ cur.size ∧ SatC c ε (sub cur.toList off n) := by
  unfold peek at h
  split at h
  · rename_i i p o
    split at h
    · rename_i T c hm
      obtain ⟨⟨h1, h2, h3⟩, hK⟩ := h
      refine ⟨_, hK, h3, one_of_scalar h2 h3, fun ε w v hg hx => ?_⟩
      obtain ⟨hi, hp, rfl⟩ := sat_ptr hx
      obtain ⟨cs, hb, hc⟩ : ResOK ε i w (.blk T c) := hm ▸ hg.res i
      obtain ⟨g1, g2, g3⟩ := SatC.get p c 0 o hc hp h1
      rw [Nat.sub_zero, h2] at g2 g3
      exact ⟨_, o, _, T, _, rfl, hb, by simpa using g3, by simpa using g2⟩
    · exact h.elim
  · rename_i τ w' d f l i p o
    obtain ⟨⟨h1, h2, h3⟩, hK⟩ := h
    refine ⟨_, hK, h3, one_of_scalar h2 h3, fun ε w v hg hx => ?_⟩
    obtain ⟨cs, h4, h5⟩ := hx
    simp only [SatC] at h4
    obtain ⟨b, off, T, fz, cur, rfl, g1, g2, g3, g4, g5⟩ := h4
    obtain ⟨i1, i2, i3⟩ := SatC.get p _ 0 o g5 g3 h1
    rw [Nat.sub_zero, h2] at i2 i3
    have hsl : (sub cur.toList (off + i * w') w').length = w' := sub_length (by simpa using g4)
    rw [hsl] at i3
    rw [sub_sub i3] at i2
    refine ⟨b, off + i * w' + o, cur, T, fz, h5, hg.hv b _ g2, ?_, i2.mono _ (Env.cl_le ε)⟩
    omega
  · rename_i i j p o
    split at h
    · rename_i T w' l hm
      obtain ⟨⟨hj, h1, h2, h3⟩, hK⟩ := h
      refine ⟨_, hK, h3, one_of_scalar h2 h3, fun ε w v hg hx => ?_⟩
      obtain ⟨hi, hp, b, cap, n', e1, e2, rfl⟩ := sat_vptr hx
      obtain ⟨xs, hown, hel⟩ : ResOK ε i w (.vec T w' l) := hm ▸ hg.res i
      rw [e1] at hown
      obtain ⟨ol, ho⟩ := hown
      rcases ho with ⟨ho, _⟩ | ⟨g, cap', cur, ho, _, hh, hle, _, hsz, htk⟩
      · cases ho
      · simp only [Value.slice.injEq, Option.some.injEq, Addr.mk.injEq] at ho
        obtain ⟨⟨rfl, _, _⟩, rfl, rfl⟩ := ho
        have hs := hel j hj
        have hjl := mul_le_len (w := w') hj
        obtain ⟨i1, i2, i3⟩ := SatC.get p _ (j * w') o hs hp h1
        rw [h2] at i2 i3
        have hlen : (sub xs (j * w') w').length = w' := sub_length (by omega)
        rw [hlen] at i3
        rw [sub_sub i3, show j * w' + (o - j * w') = o by omega] at i2
        have hle' : l.length * w' ≤ cap * w' := Nat.mul_le_mul_right _ hle
        refine ⟨b, o, cur, T, _, rfl, hh, by omega, ?_⟩
        have : sub cur.toList o n = sub xs o n := by
          rw [← htk]
          simp only [sub, List.drop_take, List.take_take]
          rw [Nat.min_eq_left (by omega)]
        rw [this]
        exact i2
    · exact h.elim
  · rename_i c p o
    obtain ⟨⟨h1, h2, h3⟩, hK⟩ := h
    refine ⟨_, hK, h3, one_of_scalar h2 h3, fun ε w v hg hx => ?_⟩
    obtain ⟨cs, h4, h5⟩ := hx
    simp only [SatC] at h4
    obtain ⟨b, T, fz, cur, rfl, g2, g3, g5⟩ := h4
    obtain ⟨i1, i2, i3⟩ := SatC.get p _ 0 o g5 g3 h1
    rw [Nat.sub_zero, h2] at i2 i3
    exact ⟨b, o, cur, T, fz, h5, hg.hv b _ g2, by simpa using i3, i2.mono _ (Env.cl_le ε)⟩
  · exact h.elim

/-- One operation of the call's own: whatever it leaves, 'K' holds of it. -/
def EStep (P : Program) (o : Oper) (σ : List SV) (m : List Res) (σ' : List SV) (sv : SV) (m' : List Res) : Prop :=
  ∀ β ε a w, Inv β ε m w → SlotsOK ε σ a → ∀ Q, o.wp P a w (fun a' w' => ∃ v ε', a' = a.put o.dst v ∧ SatV ε' sv v ∧ SlotsOK ε' σ' a ∧ Inv β ε' m' w') Q

/-- The same, of an operation that leaves all that is known as it is. -/
def EStepL (P : Program) (o : Oper) (σ : List SV) (m : List Res) (sv : SV) (m' : List Res) : Prop :=
  ∀ β ε a w, Inv β ε m w → SlotsOK ε σ a → ∀ Q, o.wp P a w (fun a' w' => ∃ v ε', a' = a.put o.dst v ∧ SatV ε' sv v ∧ ε.Le ε' ∧ Inv β ε' m' w') Q

theorem SlotsOK.mono {ε ε' : Env} {σ : List SV} {a : Act} (hl : ε.Le ε') (h : SlotsOK ε σ a) : SlotsOK ε' σ a := ⟨h.1, fun k => (h.2 k).mono hl⟩

theorem Oper.upon_mono {o : Oper} {a : Act} {K K' : Act → World → Prop} {Q : Exit → Act → World → Prop} {r : Result Next} (h : ∀ a w, K a w → K' a w) (hh : o.upon P a K Q r) : o.upon P a K' Q r := by
  cases r with
  | ok n w =>
    cases n <;> simp only [Oper.upon] at hh ⊢ <;> first
      | exact h _ _ hh
      | exact hh
      | (refine hh.mono fun e w' hr => ?_; cases e <;> first | exact h _ _ hr | exact hr)
      | (refine hh.mono fun v w' hr => h _ _ hr)
  | halt x w => cases x <;> simp only [Oper.upon] at hh ⊢ <;> exact hh

theorem Oper.wp_mono {o : Oper} {a : Act} {w : World} {K K' : Act → World → Prop} {Q : Exit → Act → World → Prop} (h : ∀ a w, K a w → K' a w) (hh : o.wp P a w K Q) : o.wp P a w K' Q := Oper.upon_mono h hh

theorem EStepL.step {o : Oper} {σ : List SV} {m m' : List Res} {sv : SV} (h : EStepL P o σ m sv m') : EStep P o σ m σ sv m' :=
  fun β ε a w hi hs Q => Oper.wp_mono (fun _ _ ⟨v, ε', h1, h2, h3, h4⟩ => ⟨v, ε', h1, h2, hs.mono h3, h4⟩) (h β ε a w hi hs Q)

theorem estep_load {T : TypeId} {x : Operand} {x' : Opd} {n : Nat} {ag : Bool} {o : Oper} {σ : List SV} {m : List Res} {K : SV → Prop} (ho : o.op = .load T x) (hx : compO x = some x') (ht : tsz P T = some (n, ag))
    (h : peek m n ag K (x'.ev σ)) : ∃ sv, K sv ∧ EStepL P o σ m sv m := by
  obtain ⟨c, hK, hag, hone, hh⟩ := peek_ok h
  refine ⟨c, hK, fun β ε a w hi hs Q => ?_⟩
  obtain ⟨b, off, cur, T', fz, e1, e2, e3, e4⟩ := hh ε w _ hi.good (compO_ok hx hs)
  have hr : (execOp a.eval o).run P w = .ok (.value (boxed ag (sub cur.toList off n))) w := by
    simp only [execOp, ho, Sem.run_bind, Instr.loadAt, Instr.sureAddr, e1, Sem.run_pure, Result.andThen_ok, run_loadVar ht hone w e2 e3]
  unfold Oper.wp
  rw [hr, Oper.upon_value]
  exact ⟨_, ε, rfl, hag ▸ satC_sat e4, Env.Le.refl ε, hi⟩

/-- A slice of the call's own is written. -/
theorem Inv.setVec {β : Base} {ε : Env} {m : List Res} {w : World} (h : Inv β ε m w) {i : Nat} {T : TypeId} {wd' : Nat} {l l' : List SV} {g cap : Nat} {cur cs' : List Value}
    (hm : memAt m i = .vec T wd' l) (hv : ε.vv i = .slice (some ⟨g, 0, none⟩) l.length cap) (hcur : w.heap[g]? = some (.cells cur.toArray T (0, 0))) (hle : l.length ≤ cap) (hcap : cap ≤ maxLen)
    (hcl : cur.length = cap * wd') (hlen : l'.length = l.length) (hcl' : cs'.length = cur.length)
    (hel : ∀ j, j < l'.length → SatC (l'.getD j .junk) ε (sub cs' (j * wd') wd')) :
    Inv β ε (m.set i (.vec T wd' l')) (w.setRow g cs'.toArray) := by
  have hi : i < m.length := by
    rcases Nat.lt_or_ge i m.length with hi | hi
    · exact hi
    · rw [memAt_ge hi] at hm; cases hm
  have hat : ∀ j, memAt (m.set i (.vec T wd' l')) j = if j = i then .vec T wd' l' else memAt m j := by
    intro j
    unfold memAt
    rw [List.getD, List.getElem?_set]
    by_cases hj : i = j
    · subst hj; simp [hi]
    · rw [if_neg hj, if_neg (fun e => hj e.symm)]; rfl
  have hown : ∀ j, ownR ε j (memAt (m.set i (.vec T wd' l')) j) = ownR ε j (memAt m j) := by
    intro j
    rw [hat]
    by_cases hj : j = i
    · subst hj; rw [if_pos rfl, hm]; rfl
    · rw [if_neg hj]
  have hoi : ownR ε i (memAt m i) = some g := by rw [hm]; simp [ownR, hv, Value.ownBlock]
  have hoth : ∀ b, b ≠ g → (w.setRow g cs'.toArray).heap[b]? = w.heap[b]? := fun b hb => setRow_other w _ b _ hb
  have hsz : (w.setRow g cs'.toArray).heap.size = w.heap.size := by simp [World.setRow]
  refine ⟨⟨by simp [h.good.n], fun j => ?_, fun a b x hab h1 h2 => ?_, fun a b hb => ?_, fun b o hb => ?_⟩, ⟨h.kept.os, h.kept.tape, h.kept.output, ?_, ?_, h.kept.H, h.kept.fresh⟩, fun a b hb => ?_, h.n, h.blk, fun j hj hv => h.vv j hj ?_⟩
  · rw [hat]
    by_cases hj : j = i
    · subst hj
      rw [if_pos rfl]
      have hmul : l'.length * wd' ≤ cap * wd' := Nat.mul_le_mul_right _ (by omega)
      refine ⟨sub cs' 0 (l'.length * wd'), ⟨by rw [sub_length]; omega, .inr ⟨g, cap, cs'.toArray, by rw [hv, hlen], Nat.zero_le _, setRow_heap w _ _ _ T _ hcur, by omega, hcap, by simp; omega, by simp [sub]⟩⟩, fun k hk => ?_⟩
      rw [sub_sub (mul_le_len hk), Nat.zero_add]
      exact hel k hk
    · rw [if_neg hj]
      have hr := h.good.res j
      cases hmj : memAt m j with
      | dead => trivial
      | blk T' c'' =>
        rw [hmj] at hr
        obtain ⟨cs'', h1, h2⟩ := hr
        refine ⟨cs'', ?_, h2⟩
        rw [hoth _ (fun e => h.good.disj j i (ε.blk j) hj (by rw [hmj]; rfl) (by rw [hoi, e]))]
        exact h1
      | vec T' wd l =>
        rw [hmj] at hr
        obtain ⟨xs, h1, h2⟩ := hr
        refine ⟨xs, ?_, h2⟩
        refine ⟨h1.1, ?_⟩
        rcases h1.2 with hx | ⟨gg, cap, cur, e1, e2, e3, e4⟩
        · exact .inl hx
        · refine .inr ⟨gg, cap, cur, e1, e2, ?_, e4⟩
          rw [hoth _ (fun e => h.good.disj j i gg hj (by rw [hmj]; simp [ownR, e1, Value.ownBlock]) (by rw [hoi, e]))]
          exact e3
      | mp ek ev l =>
        rw [hmj] at hr
        obtain ⟨es, cl, h1, h2⟩ := hr
        refine ⟨es, cl, ?_, h2⟩
        rw [hoth _ (fun e => h.good.disj j i (ε.blk j) hj (by rw [hmj]; rfl) (by rw [hoi, e]))]
        exact h1
  · rw [hown] at h1 h2; exact h.good.disj a b x hab h1 h2
  · rw [hown] at hb; exact h.good.sep a b hb
  · rw [hoth b (fun e => by have := h.good.sep i _ hoi; rw [e] at hb; rw [this] at hb; cases hb)]; exact h.good.hv b o hb
  · rw [hsz]; exact h.kept.size
  · intro b hb hB
    rw [hoth b (fun e => ?_)]
    · exact h.kept.heap b hb hB
    · rcases h.own i _ hoi with h' | h'
      · rw [e] at hB; exact hB h'
      · omega
  · rw [hown] at hb; exact h.own a b hb
  · rw [hat] at hv
    by_cases hji : j = i
    · subst hji; rw [if_pos rfl] at hv; cases hv
    · rwa [if_neg hji] at hv

theorem estep_store {T : TypeId} {x v : Operand} {x' v' : Opd} {n : Nat} {ag : Bool} {o : Oper} {σ : List SV} {m : List Res} {K : List Res → Prop} (ho : o.op = .store T x v) (hx : compO x = some x') (hv : compO v = some v')
    (ht : tsz P T = some (n, ag)) (h : poke m n (v'.ev σ) K (x'.ev σ)) : ∃ m', K m' ∧ EStepL P o σ m .junk m' := by
  have hrun : ∀ (a : Act) (w : World) (b off : Nat) (cur : List Value) (T' : TypeId) (xs : List Value), a.eval x = .pointer (some ⟨b, off, none⟩) → w.heap[b]? = some (.cells cur.toArray T' (0, 0)) →
      (a.eval v).cells = xs.toArray → xs.length = n → off + n ≤ cur.length → (∀ u ∈ xs, u.oneCell' = true) → (execOp a.eval o).run P w = .ok .skip (w.setRow b (splice cur off xs).toArray) := by
    intro a w b off cur T' xs e1 e2 e3 e4 e5 e6
    simp only [execOp, ho, Sem.run_bind, Instr.storeAt, Instr.sureAddr, e1, Sem.run_pure, Result.andThen_ok, run_storeVar ht w e2 e3 e4 e5 e6]
  unfold poke at h
  split at h
  · rename_i i p o' ex
    split at h
    · rename_i T' c hm
      obtain ⟨⟨h1, h2, h3, h4⟩, hK⟩ := h
      refine ⟨_, hK, fun β ε a w hi hs Q => ?_⟩
      obtain ⟨_, hp, e1⟩ := sat_ptr (ex ▸ compO_ok hx hs)
      obtain ⟨xs, e2, e3⟩ := sat_val (compO_ok hv hs) h4
      obtain ⟨cs, hb, hc⟩ : ResOK ε i w (.blk T' c) := hm ▸ hi.good.res i
      obtain ⟨g1, g2, g3⟩ := SatC.get p c 0 o' hc hp h1
      have hset := SatC.set p c 0 o' hc hp h1 e2 (by omega)
      rw [Nat.sub_zero] at g2 g3 hset
      have hl := SatC.length _ e2
      unfold Oper.wp
      rw [hrun a w _ _ cs T' xs e1 hb (by rw [e3]; exact scalar_cells e2) (by omega) (by omega) (SatC.one _ e2), Oper.upon_skip]
      exact ⟨_, ε, rfl, trivial, Env.Le.refl ε, hi.setBlk hm hset⟩
    · exact h.elim
  · rename_i i j p o' ex
    split at h
    · rename_i T' w' l hm
      obtain ⟨⟨hj, h1, h2, h3, h4⟩, hK⟩ := h
      refine ⟨_, hK, fun β ε a w hi hs Q => ?_⟩
      obtain ⟨_, hp, b, cap, n', e1, e2, ev⟩ := sat_vptr (ex ▸ compO_ok hx hs)
      obtain ⟨xs, e3, e4⟩ := sat_val (compO_ok hv hs) h4
      obtain ⟨ys, hown, hel⟩ : ResOK ε i w (.vec T' w' l) := hm ▸ hi.good.res i
      have hl := SatC.length _ e3
      obtain ⟨ol, ho2⟩ := hown
      rcases ho2 with ⟨ho2, _⟩ | ⟨g, cap', cur, ho2, _, hh, hle, hcap, hsz, htk⟩
      · rw [e1] at ho2; cases ho2
      · have ho3 := ho2
        rw [e1] at ho2
        simp only [Value.slice.injEq, Option.some.injEq, Addr.mk.injEq] at ho2
        obtain ⟨⟨rfl, _, _⟩, rfl, rfl⟩ := ho2
        have hs' := hel j hj
        have hjl := mul_le_len (w := w') hj
        obtain ⟨i1, i2, i3⟩ := SatC.get p _ (j * w') o' hs' hp h1
        have hset := SatC.set p _ (j * w') o' hs' hp h1 e3 (by omega)
        have hlen : (sub ys (j * w') w').length = w' := sub_length (by omega)
        rw [hlen] at i3
        have hle' : l.length * w' ≤ cap * w' := Nat.mul_le_mul_right _ hle
        have hcl : cur.toList.length = cap * w' := by simpa using hsz
        have hsub : ∀ k, k < l.length → sub cur.toList (k * w') w' = sub ys (k * w') w' := by
          intro k hk
          have := mul_le_len (w := w') hk
          rw [← htk]
          simp only [sub, List.drop_take, List.take_take]
          rw [Nat.min_eq_left (by omega)]
        have hb : w.heap[b]? = some (.cells cur.toList.toArray T' (0, 0)) := by simpa using hh
        unfold Oper.wp
        rw [hrun a w b o' cur.toList T' xs ev hb (by rw [e4]; exact scalar_cells e3) (by omega) (by omega) (SatC.one _ e3), Oper.upon_skip]
        refine ⟨_, ε, rfl, trivial, Env.Le.refl ε, hi.setVec hm ho3 hb hle hcap hcl (by simp) (splice_length (by omega)) (fun k hk => ?_)⟩
        simp only [List.length_set] at hk
        have hkl := mul_le_len (w := w') hk
        by_cases hkj : k = j
        · subst hkj
          rw [sub_splice_in (by omega) (by omega) (by omega), hsub k hk]
          simpa [List.getD, hj] using hset
        · rw [sub_splice_out ?_ (by omega), hsub k hk]
          · have : (l.set j (setP (l.getD j .junk) p (v'.ev σ))).getD k .junk = l.getD k .junk := by
              simp only [List.getD_eq_getElem?_getD, List.getElem?_set]
              rw [if_neg (fun e => hkj e.symm)]
            rw [this]
            exact hel k hk
          · rcases Nat.lt_or_gt_of_ne hkj with hlt | hgt
            · have := mul_le_len (w := w') hlt
              right; omega
            · have := mul_le_len (w := w') hgt
              left; omega
    · exact h.elim
  · exact h.elim

end Go.Sx
