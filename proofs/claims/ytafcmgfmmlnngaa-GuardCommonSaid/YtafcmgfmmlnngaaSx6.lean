import Derived.Test.YtafcmgfmmlnngaaSx5e
/-! Sx, part 6: operations that touch no memory do what is said of them. -/
set_option linter.unusedSimpArgs false
set_option linter.unusedVariables false
namespace Go.Sx
open Go

variable {P : Program} {σ : List SV} {K : SV → Prop} {o : Oper}

theorem pathOk_snoc : ∀ (p : List Step) (s : Step), pathOk p → pathOk [s] → pathOk (p ++ [s])
  | [], _, _, h => h
  | .fld _ :: p, s, h1, h2 => pathOk_snoc p s h1 h2
  | .idx _ _ :: p, s, h1, h2 => ⟨h1.1, pathOk_snoc p s h1.2 h2⟩

theorem sound_mv {x : Operand} {y : Opd} (ho : o.op = .move x ∨ o.op = .assign x) (hx : compO x = some y) (h : K (y.ev σ)) : ∃ sv, K sv ∧ PureOK P o σ sv := by
  refine ⟨_, h, fun ε a hs => ⟨a.eval x, fun w => ?_, compO_ok hx hs⟩⟩
  rcases ho with ho | ho <;> simp [execOp, ho]

theorem sound_pick {c x y : Operand} {c' x' y' : Opd} (ho : o.op = .pick c x y) (hc : compO c = some c') (hx : compO x = some x') (hy : compO y = some y')
    (h : popK σ K (.pick c' x' y')) : ∃ sv, K sv ∧ PureOK P o σ sv := by
  simp only [popK] at h
  split at h
  · rename_i b hb
    cases b with
    | true =>
      refine ⟨_, h.1 rfl, fun ε a hs => ⟨a.eval x, fun w => ?_, compO_ok hx hs⟩⟩
      have := sat_bool (hb ▸ compO_ok hc hs)
      simp [execOp, ho, this, asBool]
    | false =>
      refine ⟨_, h.2 rfl, fun ε a hs => ⟨a.eval y, fun w => ?_, compO_ok hy hs⟩⟩
      have := sat_bool (hb ▸ compO_ok hc hs)
      simp [execOp, ho, this, asBool]
  · exact h.elim

theorem aeq_ok {op : BinOp} {t yt : TypeId} {x y : Operand} {x' y' : Opd} (ho : o.op = .binOp op t x y yt) (hx : compO x = some x') (hy : compO y = some y') (neg : Bool) (hop : op = (if neg then .neq else .eql)) {p : PIO} (hp : compEq P neg t x' y' = some p) (h : popK σ K p) : ∃ sv, K sv ∧ PureOK P o σ sv := by
  unfold compEq at hp
  split at hp <;> try (cases hp; done)
  rename_i e _
  split at hp <;> try (cases hp; done)
  rename_i hc
  simp only [Bool.and_eq_true, Bool.not_eq_true', decide_eq_true_eq] at hc
  obtain ⟨⟨⟨c1, c2⟩, c3⟩, c4⟩ := hc
  simp only [Option.some.injEq] at hp; subst hp
  simp only [popK] at h
  obtain ⟨⟨h1, h2⟩, h3⟩ := h
  refine ⟨_, h3, fun ε a hs => ?_⟩
  have sx := compO_ok hx hs
  have sy := compO_ok hy hs
  have agg : ∀ {z : SV} {v : Value}, esP e z → SatV ε z v → ∃ cs, SatC z ε cs ∧ v = boxed (aggE e) cs := by
    intro z v hz hsv
    have hia := esP_agg hz
    cases z with
    | tup l => cases e <;> simp only [esP] at hz
    | junk => cases e <;> simp only [esP] at hz
    | _ => obtain ⟨cs, k1, k2⟩ := hsv; exact ⟨cs, k1, by rw [k2, hia]⟩
  obtain ⟨cs, k1, k2⟩ := agg h1 sx
  obtain ⟨cs', k3, k4⟩ := agg h2 sy
  have hq : ∀ w, (Op.equal t (a.eval x) (a.eval y)).run P w = .ok (eqV e (x'.ev σ) (y'.ev σ)) w := fun w => by
    rw [k2, k4]
    exact equalIn_ok e w c1 (d := 10000) (by omega) h1 h2 k1 k3
  have hv : a.eval x = .agg cs.toArray := by rw [k2, c2]; rfl
  have hv' : a.eval y = .agg cs'.toArray := by rw [k4, c2]; rfl
  rw [hv, hv'] at hq
  have hg : ∀ op w, (eqGuard op t x y (.agg cs.toArray) (.agg cs'.toArray)).run P w = .ok () w := fun op w => by
    cases op <;> simp [eqGuard, c4]
  refine ⟨.bool (if neg then !eqV e (x'.ev σ) (y'.ev σ) else eqV e (x'.ev σ) (y'.ev σ)), fun w => ?_, mk_bool⟩
  cases neg <;> subst hop <;> simp [execOp, ho, hv, hv', hg, binOp, hq]

theorem sound_bin {op : BinOp} {t yt : TypeId} {x y : Operand} {p : PIO} (ho : o.op = .binOp op t x y yt) (hp : compP P o.op = some p) (h : popK σ K p) : ∃ sv, K sv ∧ PureOK P o σ sv := by
  rw [ho] at hp
  simp only [compP, bind, Option.pure_def] at hp
  obtain ⟨x', hx, hp⟩ := bind_some hp
  obtain ⟨y', hy, hp⟩ := bind_some hp
  split at hp
  · split at hp
    · rename_i ao hao
      simp only [Option.some.injEq] at hp; subst hp
      simp only [popK] at h
      split at h
      · rename_i k a' k' b' e1 e2
        obtain ⟨hk, hev⟩ := h
        obtain ⟨n, hK, hr⟩ := AOp.ev_run (P := P) hao hk hev
        refine ⟨_, hK, fun ε a hs => ⟨_, fun w => ?_, mk_int⟩⟩
        have s1 := sat_int (e1 ▸ compO_ok hx hs)
        have s2 := sat_int (e2 ▸ compO_ok hy hs)
        have := hr w
        rw [binOp_int_t (t' := t)] at this
        simp [execOp, ho, s1, s2, eqGuard_at_int, this]
      · exact h.elim
    · split at hp
      · rename_i co hco
        simp only [Option.some.injEq] at hp; subst hp
        simp only [popK] at h
        split at h
        · rename_i k a' k' b' e1 e2
          obtain ⟨rfl, hK⟩ := h
          refine ⟨_, hK, fun ε a hs => ⟨_, fun w => ?_, mk_bool⟩⟩
          have s1 := sat_int (e1 ▸ compO_ok hx hs)
          have s2 := sat_int (e2 ▸ compO_ok hy hs)
          have := COp.ev_run (P := P) (k := k') (a := a') (b := b') hco w
          rw [binOp_int_t (t' := t)] at this
          simp [execOp, ho, s1, s2, eqGuard_at_int, this]
        · exact h.elim
      · cases hp
  · rename_i ht
    have beq : ∀ (neg : Bool), op = (if neg then .neq else .eql) → popK σ K (.beq neg x' y') → ∃ sv, K sv ∧ PureOK P o σ sv := by
      intro neg hop h
      simp only [popK] at h
      split at h
      · rename_i a' b' e1 e2
        refine ⟨_, h, fun ε a hs => ⟨_, fun w => ?_, mk_bool⟩⟩
        have s1 := sat_bool (e1 ▸ compO_ok hx hs)
        have s2 := sat_bool (e2 ▸ compO_ok hy hs)
        cases neg <;> subst hop <;> simp [execOp, ho, s1, s2, eqGuard_at_bool, binOp, run_equal_bool w t a' b' ht, bne]
      · exact h.elim
    split at hp
    · simp only [Option.some.injEq] at hp; subst hp; exact beq false rfl h
    · simp only [Option.some.injEq] at hp; subst hp; exact beq true rfl h
    · cases hp
  · have seq : ∀ (neg : Bool), op = (if neg then .neq else .eql) → popK σ K (.seq neg x' y') → ∃ sv, K sv ∧ PureOK P o σ sv := by
      intro neg hop h
      simp only [popK] at h
      split at h
      · rename_i a' b' e1 e2
        refine ⟨_, h, fun ε a hs => ⟨_, fun w => ?_, mk_bool⟩⟩
        have s1 := sat_str (e1 ▸ compO_ok hx hs)
        have s2 := sat_str (e2 ▸ compO_ok hy hs)
        have hb : (a' == b') = decide (a' = b') := by by_cases hab : a' = b' <;> simp [hab]
        cases neg <;> subst hop <;> simp [execOp, ho, s1, s2, eqGuard_at_string, binOp, Op.stringOp, ByteArray.toList_mk, hb]
      · exact h.elim
    split at hp
    · simp only [Option.some.injEq] at hp; subst hp
      simp only [popK] at h
      split at h
      · rename_i a' b' e1 e2
        refine ⟨_, h.2, fun ε a hs => ⟨_, fun w => ?_, mk_str⟩⟩
        have s1 := sat_str (e1 ▸ compO_ok hx hs)
        have s2 := sat_str (e2 ▸ compO_ok hy hs)
        have h3 : ¬ (IntKind.i64.max < (((⟨a'.toArray⟩ : ByteArray).size + (⟨b'.toArray⟩ : ByteArray).size : Nat) : Int)) := by
          have h4 : (⟨a'.toArray⟩ : ByteArray).size = a'.length := by simp [ByteArray.size]
          have h5 : (⟨b'.toArray⟩ : ByteArray).size = b'.length := by simp [ByteArray.size]
          rw [h4, h5, IntKind.max_i64]
          omega
        have h6 : (⟨a'.toArray⟩ : ByteArray) ++ ⟨b'.toArray⟩ = ⟨(a' ++ b').toArray⟩ := by
          apply ByteArray.ext
          simp
        simp only [execOp, ho, s1, s2, eqGuard_at_string, binOp, Op.stringOp, Sem.run_bind, Sem.run_pure, Result.andThen_ok, GT.gt, if_neg h3, h6]
      · exact h.elim
    · simp only [Option.some.injEq] at hp; subst hp; exact seq false rfl h
    · simp only [Option.some.injEq] at hp; subst hp; exact seq true rfl h
    · cases hp
  · have key : ∀ (neg : Bool), op = (if neg then .neq else .eql) → isNilC y = true → popK σ K (.snil neg x') → ∃ sv, K sv ∧ PureOK P o σ sv := by
      rename_i el ht
      intro neg hop hy0 h
      have hyv : y = .const (.slice none 0 0) := by
        unfold isNilC at hy0
        split at hy0 <;> first | rfl | cases hy0
      simp only [popK] at h
      split at h
      · rename_i n hn
        have run : ∀ ε a, SlotsOK ε σ a → ∃ ao : Option Addr, (∀ w, (execOp a.eval o).run P w = .ok (.value (.bool (if neg then !ao.isNone else ao.isNone))) w) ∧ (ao = none → n = 0) ∧ (x'.ev σ = .nils → ao = none) := by
          intro ε a hs
          obtain ⟨ao, cap, e1, e2, e3⟩ := slLen_nil hn (compO_ok hx hs)
          refine ⟨ao, fun w => ?_, e2, e3⟩
          have hg : ∀ op, eqGuard op t x y (.slice ao n cap) (.slice none 0 0) = pure () := fun op => by cases op <;> rfl
          have hy2 : a.eval y = .slice none 0 0 := by rw [hyv]; rfl
          have hq : (Op.equal t (.slice ao n cap) (.slice none 0 0)).run P w = .ok ao.isNone w := run_equalIn_slice_nil w 9999 t el ao n cap ht
          cases neg <;> subst hop <;> simp [execOp, ho, e1, hy2, hg, binOp, hq]
        split at h
        · rename_i e
          refine ⟨_, h, fun ε a hs => ?_⟩
          obtain ⟨ao, h1, h2, h3⟩ := run ε a hs
          have := h3 e
          subst this
          exact ⟨_, h1, by cases neg <;> exact mk_bool⟩
        · by_cases hn0 : n = 0
          · refine ⟨_, h.1 (by simp [hn0]), fun ε a hs => ?_⟩
            obtain ⟨ao, h1, h2, h3⟩ := run ε a hs
            exact ⟨_, h1, ⟨[.bool (if neg then !ao.isNone else ao.isNone)], by simp only [SatC]; exact ⟨_, rfl⟩, rfl⟩⟩
          · refine ⟨_, h.2 (by simp [hn0]), fun ε a hs => ?_⟩
            obtain ⟨ao, h1, h2, h3⟩ := run ε a hs
            cases ao with
            | none => exact absurd (h2 rfl) hn0
            | some x => exact ⟨_, h1, by cases neg <;> exact mk_bool⟩
      · exact h.elim
    split at hp
    · split at hp
      · rename_i hny
        simp only [Option.some.injEq] at hp; subst hp; exact key false rfl hny h
      · cases hp
    · split at hp
      · rename_i hny
        simp only [Option.some.injEq] at hp; subst hp; exact key true rfl hny h
      · cases hp
    · cases hp
  · have key : ∀ (neg : Bool), op = (if neg then .neq else .eql) → isNilP y = true → popK σ K (.pnil neg x') → ∃ sv, K sv ∧ PureOK P o σ sv := by
      rename_i el ht
      intro neg hop hy0 h
      have hyv : y = .const (.pointer none) := by
        unfold isNilP at hy0
        split at hy0 <;> first | rfl | cases hy0
      have hy2 : ∀ a : Act, a.eval y = .pointer none := fun a => by rw [hyv]; rfl
      have hpt : P.underlying t = some (.pointer (P.pointee t)) := by simp [Program.pointee, ht]
      have go : ∀ (b : Bool), (∀ ε a, SlotsOK ε σ a → ∃ p : Option Addr, a.eval x = .pointer p ∧ p.isNone = b) → K (.bool (if neg then !b else b)) → ∃ sv, K sv ∧ PureOK P o σ sv := by
        intro b hb hK
        refine ⟨_, hK, fun ε a hs => ?_⟩
        obtain ⟨p, e1, e2⟩ := hb ε a hs
        refine ⟨.bool (if neg then !b else b), fun w => ?_, mk_bool⟩
        have hg : ∀ op, eqGuard op t x y (.pointer p) (.pointer none) = pure () := fun op => by cases op <;> rfl
        have hq : (Op.equal t (.pointer p) (.pointer none)).run P w = .ok p.isNone w := run_equalIn_pointer_nil w 9999 t p hpt
        cases neg <;> subst hop <;> simp [execOp, ho, e1, hy2, hg, binOp, hq, e2]
      simp only [popK] at h
      split at h
      · rename_i e
        exact go true (fun ε a hs => ⟨none, sat_nilp (e ▸ compO_ok hx hs), rfl⟩) (by cases neg <;> exact h)
      · rename_i e
        refine go false (fun ε a hs => ?_) (by cases neg <;> exact h)
        obtain ⟨_, _, h3⟩ := sat_ptr (e ▸ compO_ok hx hs)
        exact ⟨_, h3, rfl⟩
      · rename_i e
        refine go false (fun ε a hs => ?_) (by cases neg <;> exact h)
        obtain ⟨cs, h1, h2⟩ : SatV ε _ _ := e ▸ compO_ok hx hs
        simp only [SatC] at h1
        obtain ⟨b, off, T, fz, cur, rfl, _⟩ := h1
        exact ⟨_, h2, rfl⟩
      · rename_i e
        refine go false (fun ε a hs => ?_) (by cases neg <;> exact h)
        obtain ⟨_, _, b, cap, n, _, _, h3⟩ := sat_vptr (e ▸ compO_ok hx hs)
        exact ⟨_, h3, rfl⟩
      · rename_i e
        refine go false (fun ε a hs => ?_) (by cases neg <;> exact h)
        obtain ⟨cs, h1, h2⟩ : SatV ε _ _ := e ▸ compO_ok hx hs
        simp only [SatC] at h1
        obtain ⟨b, T, fz, cur, rfl, _⟩ := h1
        exact ⟨_, h2, rfl⟩
      · exact h.elim
    split at hp
    · split at hp
      · rename_i hny
        simp only [Option.some.injEq] at hp; subst hp; exact key false rfl hny h
      · cases hp
    · split at hp
      · rename_i hny
        simp only [Option.some.injEq] at hp; subst hp; exact key true rfl hny h
      · cases hp
    · cases hp
  · have key := aeq_ok (P := P) (σ := σ) (K := K) (o := o) (t := t) ho hx hy
    split at hp
    · exact key false rfl hp h
    · exact key true rfl hp h
    · cases hp
  · have key := aeq_ok (P := P) (σ := σ) (K := K) (o := o) (t := t) ho hx hy
    split at hp
    · exact key false rfl hp h
    · exact key true rfl hp h
    · cases hp
  · cases hp

theorem sound_un {op : UnOp} {t : TypeId} {x : Operand} {p : PIO} (ho : o.op = .unOp op t x) (hp : compP P o.op = some p) (h : popK σ K p) : ∃ sv, K sv ∧ PureOK P o σ sv := by
  rw [ho] at hp
  cases op <;> simp only [compP, Option.map_eq_some_iff] at hp <;> first | (cases hp; done) | skip
  all_goals
    obtain ⟨x', hx, rfl⟩ := hp
    simp only [popK] at h
    split at h
    · rename_i a' e1
      refine ⟨_, h, fun ε a hs => ⟨_, fun w => ?_, ⟨_, rfl, rfl⟩⟩⟩
      have s1 := compO_ok hx hs
      rw [e1] at s1
      first
        | (have s1 := sat_bool s1; simp [execOp, ho, s1, Op.unary, boxed, SV.isAgg]; done)
        | (have s1 := sat_int s1; simp [execOp, ho, s1, Op.unary, Op.intArith, boxed, SV.isAgg]; done)
    · exact h.elim

theorem sound_conv {s d : TypeId} {x : Operand} {p : PIO} (ho : o.op = .convert s d x) (hp : compP P o.op = some p) (h : popK σ K p) : ∃ sv, K sv ∧ PureOK P o σ sv := by
  rw [ho] at hp
  simp only [compP, bind, Option.pure_def] at hp
  obtain ⟨x', hx, hp⟩ := bind_some hp
  split at hp
  · rename_i k1 k2 h1 h2
    simp only [Option.some.injEq] at hp; subst hp
    simp only [popK] at h
    split at h
    · rename_i k a' e1
      refine ⟨_, h, fun ε a hs => ⟨_, fun w => ?_, mk_int⟩⟩
      have s1 := sat_int (e1 ▸ compO_ok hx hs)
      simp [execOp, ho, convert, run_underlying h1, run_underlying h2, s1, Conv.intToInt]
    · exact h.elim
  · cases hp

/-- A pointer, one step further. -/
theorem sound_step {x : Operand} {x' : Opd} {s : Step} {off : Nat} (hx : compO x = some x') (hs1 : pathOk [s])
    (hrun : ∀ (ε : Env) (a : Act) (ad : Addr), SlotsOK ε σ a → a.eval x = .pointer (some ad) → ∀ w, (execOp a.eval o).run P w = .ok (.value (.pointer (some (ad.add off)))) w)
    (h : stepTo s off K (x'.ev σ)) : ∃ sv, K sv ∧ PureOK P o σ sv := by
  unfold stepTo at h
  split at h
  · rename_i i p o' e1
    refine ⟨_, h, fun ε a hs => ?_⟩
    obtain ⟨h1, h2, h3⟩ := sat_ptr (e1 ▸ compO_ok hx hs)
    refine ⟨_, hrun ε a _ hs h3, ?_⟩
    rw [Addr.add_lit]
    exact ⟨_, by simp only [SatC]; exact ⟨h1, pathOk_snoc p s h2 hs1, rfl⟩, rfl⟩
  · rename_i τ w d f l i p o' e1
    refine ⟨_, h, fun ε a hs => ?_⟩
    obtain ⟨cs, h1, h2⟩ := e1 ▸ compO_ok hx hs
    simp only [SatC] at h1
    obtain ⟨b, of, T, fz, cur, e, h3, h4, h5, h6, h7⟩ := h1
    subst e
    refine ⟨_, hrun ε a _ hs h2, ?_⟩
    rw [Addr.add_lit]
    exact ⟨_, by simp only [SatC]; exact ⟨b, of, T, fz, cur, by rw [← Nat.add_assoc], h3, h4, pathOk_snoc p s h5 hs1, h6, h7⟩, rfl⟩
  · rename_i i j p o' e1
    refine ⟨_, h, fun ε a hs => ?_⟩
    obtain ⟨h1, h2, b, cap, n, h3, h4, h5⟩ := sat_vptr (e1 ▸ compO_ok hx hs)
    refine ⟨_, hrun ε a _ hs h5, ?_⟩
    rw [Addr.add_lit]
    exact ⟨_, by simp only [SatC]; exact ⟨h1, pathOk_snoc p s h2 hs1, b, cap, n, h3, h4, rfl⟩, rfl⟩
  · rename_i c p o' e1
    refine ⟨_, h, fun ε a hs => ?_⟩
    obtain ⟨cs, h1, h2⟩ := e1 ▸ compO_ok hx hs
    simp only [SatC] at h1
    obtain ⟨b, T, fz, cur, e, h3, h4, h5⟩ := h1
    subst e
    refine ⟨_, hrun ε a _ hs h2, ?_⟩
    rw [Addr.add_lit]
    exact ⟨_, by simp only [SatC]; exact ⟨b, T, fz, cur, rfl, h3, pathOk_snoc p s h4 hs1, h5⟩, rfl⟩
  · exact h.elim

theorem sound_fa {s : TypeId} {x : Operand} {k : Nat} {p : PIO} (ho : o.op = .fieldAddr s x k) (hp : compP P o.op = some p) (h : popK σ K p) : ∃ sv, K sv ∧ PureOK P o σ sv := by
  rw [ho] at hp
  simp only [compP, bind, Option.pure_def] at hp
  obtain ⟨x', hx, hp⟩ := bind_some hp
  split at hp <;> try (cases hp; done)
  rename_i fs hu
  split at hp <;> try (cases hp; done)
  rename_i f hf
  split at hp <;> try (cases hp; done)
  rename_i n ag ht
  split at hp
  · cases hp
  · rename_i hn
    simp only [Option.some.injEq] at hp; subst hp
    refine sound_step hx (s := .fld k) (off := f.offset) trivial (fun ε a ad hs hv w => ?_) (by simpa only [popK] using h)
    simp [execOp, ho, hv, Instr.fieldAt, run_underlying hu, hf, Instr.sureAddr, fieldPlace, run_sizeOf ht, hn]

theorem sound_fld {s : TypeId} {x : Operand} {k : Nat} {p : PIO} (ho : o.op = .field s x k) (hp : compP P o.op = some p) (h : popK σ K p) : ∃ sv, K sv ∧ PureOK P o σ sv := by
  rw [ho] at hp
  simp only [compP, bind, Option.pure_def] at hp
  obtain ⟨x', hx, hp⟩ := bind_some hp
  split at hp <;> try (cases hp; done)
  rename_i fs hu
  split at hp <;> try (cases hp; done)
  rename_i f hf
  split at hp <;> try (cases hp; done)
  rename_i n ag ht
  split at hp
  · cases hp
  · rename_i hn
    simp only [Option.some.injEq] at hp; subst hp
    simp only [popK] at h
    split at h
    · rename_i l e1
      obtain ⟨⟨h1, h2, h3, h4⟩, hK⟩ := h
      refine ⟨_, hK, fun ε a hs => ?_⟩
      obtain ⟨cs, h5, h6⟩ := sat_agg (e1 ▸ compO_ok hx hs)
      obtain ⟨h7, h8⟩ := SatL.nth l k h5 h1
      refine ⟨_, fun w => ?_, isAgg_wd h7⟩
      rw [h2, h3] at *
      rw [h4]
      simp only [execOp, ho, h6, Instr.field, Sem.run_bind, run_underlying hu, Result.andThen_ok, hf, asAgg, Sem.run_pure]
      rw [run_part ht w cs f.offset h8 (fun e => by
        rcases Nat.lt_or_ge 1 n with h | h
        · exact absurd ⟨e, by omega⟩ hn
        · rcases Nat.eq_or_lt_of_le h with h | h
          · exact h
          · exact absurd ⟨e, by omega⟩ hn)]
      rfl
    · exact h.elim

theorem sound_ia {t : TypeId} {x i : Operand} {p : PIO} (ho : o.op = .indexAddr t x i) (hp : compP P o.op = some p) (h : popK σ K p) : ∃ sv, K sv ∧ PureOK P o σ sv := by
  rw [ho] at hp
  simp only [compP, bind, Option.pure_def] at hp
  obtain ⟨x', hx, hp⟩ := bind_some hp
  obtain ⟨i', hi, hp⟩ := bind_some hp
  split at hp <;> try (cases hp; done)
  · rename_i n e hu
    split at hp <;> try (cases hp; done)
    rename_i sz ag ht
    simp only [Option.some.injEq] at hp; subst hp
    simp only [popK] at h
    split at h
    · rename_i k j e2
      obtain ⟨⟨h1, h2⟩, h⟩ := h
      refine sound_step (s := .idx j.toNat n) (off := j.toNat * sz) hx ⟨by omega, trivial⟩ (fun ε a ad hs hv w => ?_) h
      have s2 := sat_int (e2 ▸ compO_ok hi hs)
      simp [execOp, ho, hv, s2, Instr.indexAt, asIntOf, run_underlying hu, Instr.sureAddr, h1, h2, run_sizeOf ht]
    · exact h.elim
  · rename_i e hu
    split at hp <;> try (cases hp; done)
    rename_i sz ag ht
    simp only [Option.some.injEq] at hp; subst hp
    simp only [popK] at h
    split at h
    · rename_i k j e2
      have hrun : ∀ (ε : Env) (a : Act) (hs : SlotsOK ε σ a) (ad : Addr) (n c : Nat), a.eval x = .slice (some ad) n c → 0 ≤ j → j < n → ∀ w, (execOp a.eval o).run P w = .ok (.value (.pointer (some (ad.add (j.toNat * sz))))) w := by
        intro ε a hs ad n c hv h1 h2 w
        have s2 := sat_int (e2 ▸ compO_ok hi hs)
        simp [execOp, ho, hv, s2, Instr.indexAt, asIntOf, run_underlying hu, h1, h2, run_sizeOf ht]
      split at h
      · rename_i τ w' d f l e1
        obtain ⟨⟨h1, h2⟩, rfl, hK⟩ := h
        refine ⟨_, hK, fun ε a hs => ?_⟩
        obtain ⟨cs, h3, h4⟩ := e1 ▸ compO_ok hx hs
        simp only [SatC] at h3
        obtain ⟨ao, cap, e, h5, h6, h7, h8⟩ := h3
        subst e
        obtain ⟨b, off, T, fz, cur, rfl, g2, g3, g4⟩ := h8 j.toNat (by omega)
        refine ⟨_, hrun ε a hs _ _ _ h4 h1 h2, ?_⟩
        rw [Addr.add_lit]
        exact ⟨_, by simp only [SatC]; exact ⟨b, off, T, fz, cur, rfl, by omega, g2, trivial, g3, g4⟩, rfl⟩
      · rename_i v n e1
        obtain ⟨⟨h1, h2⟩, hK⟩ := h
        refine ⟨_, hK, fun ε a hs => ?_⟩
        obtain ⟨h3, h4, h5⟩ := sat_vec (e1 ▸ compO_ok hx hs)
        rcases h4 with ⟨_, h4⟩ | ⟨b, cap, h4⟩
        · omega
        · refine ⟨_, hrun ε a hs _ _ _ (h5.trans h4) h1 h2, ?_⟩
          rw [Addr.add_lit]
          exact ⟨_, by simp only [SatC]; exact ⟨h3, trivial, b, cap, n, h4, by omega, rfl⟩, by simp [boxed, SV.isAgg]⟩
      · exact h.elim
    · exact h.elim


theorem sound_ix {t : TypeId} {x i : Operand} {p : PIO} (ho : o.op = .index t x i) (hp : compP P o.op = some p) (h : popK σ K p) : ∃ sv, K sv ∧ PureOK P o σ sv := by
  rw [ho] at hp
  simp only [compP, bind, Option.pure_def] at hp
  obtain ⟨x', hx, hp⟩ := bind_some hp
  obtain ⟨i', hi, hp⟩ := bind_some hp
  split at hp <;> try (cases hp; done)
  · rename_i n e hu
    split at hp <;> try (cases hp; done)
    rename_i sz ag ht
    split at hp <;> try (cases hp; done)
    rename_i hn
    simp only [Option.some.injEq] at hp; subst hp
    simp only [popK] at h
    split at h
    · rename_i k j e2
      split at h
      · rename_i n' w' f e1
        obtain ⟨⟨h1, h2⟩, ⟨rfl, rfl, h3⟩, hK⟩ := h
        refine ⟨_, hK, fun ε a hs => ?_⟩
        have s2 := sat_int (e2 ▸ compO_ok hi hs)
        obtain ⟨cs, h5, h6⟩ := sat_arr (e1 ▸ compO_ok hx hs)
        simp only [SatC] at h5
        obtain ⟨h7, h8⟩ := h5
        have hj : j.toNat < n' := by omega
        have h9 := h8 j.toNat hj
        have hl := mul_le_len (w := w') hj
        refine ⟨_, fun w => ?_, isAgg_wd h9⟩
        rw [h3]
        simp only [execOp, ho, h6, s2, Instr.index, asIntOf, Sem.run_bind, Sem.run_pure, run_underlying hu, Result.andThen_ok, h1, h2, and_self, if_true, run_sizeOf ht]
        rw [run_part ht w cs _ (by omega) (fun e => by
          rcases Nat.lt_or_ge 1 w' with h | h
          · exact absurd ⟨e, by omega⟩ hn
          · rcases Nat.eq_or_lt_of_le h with h | h
            · exact h
            · exact absurd ⟨e, by omega⟩ hn)]
        rfl
      · exact h.elim
    · exact h.elim
  · rename_i hu
    simp only [Option.some.injEq] at hp; subst hp
    simp only [popK] at h
    split at h
    · rename_i k j e2
      split at h
      · rename_i s e1
        obtain ⟨⟨h1, h2⟩, hK⟩ := h
        refine ⟨_, hK, fun ε a hs => ⟨_, fun w => ?_, mk_int⟩⟩
        have s2 := sat_int (e2 ▸ compO_ok hi hs)
        have s1 := sat_str (e1 ▸ compO_ok hx hs)
        have hj : j.toNat < s.length := by omega
        have hg : (⟨s.toArray⟩ : ByteArray)[j.toNat]? = some (s.getD j.toNat 0) := by
          have hsz : j.toNat < (⟨s.toArray⟩ : ByteArray).size := by simpa [ByteArray.size] using hj
          rw [getElem?_pos (⟨s.toArray⟩ : ByteArray) j.toNat hsz]
          simp [ByteArray.getElem_eq_getElem_data, List.getD, hj]
        simp [execOp, ho, s1, s2, Instr.index, asIntOf, run_underlying hu, h1, hg]
      · exact h.elim
    · exact h.elim

theorem sound_ext {x : Operand} {k : Nat} {p : PIO} (ho : o.op = .extract x k) (hp : compP P o.op = some p) (h : popK σ K p) : ∃ sv, K sv ∧ PureOK P o σ sv := by
  rw [ho] at hp
  simp only [compP, Option.map_eq_some_iff] at hp
  obtain ⟨x', hx, rfl⟩ := hp
  simp only [popK] at h
  split at h
  · rename_i l e1
    obtain ⟨h1, hK⟩ := h
    refine ⟨_, hK, fun ε a hs => ?_⟩
    obtain ⟨vs, h2, h3⟩ := sat_tup (e1 ▸ compO_ok hx hs)
    obtain ⟨v, h4, h5⟩ := SatA.nth l k h2 h1
    exact ⟨v, fun w => by simp [execOp, ho, h3, Instr.extract, h4], h5⟩
  · exact h.elim

theorem sat_val {ε : Env} {sv : SV} {v : Value} (h : SatV ε sv v) (hv : sv.isVal = true) : ∃ cs, SatC sv ε cs ∧ v = boxed sv.isAgg cs := by
  cases sv <;> first
    | exact h
    | cases hv

theorem sat_caps {ε : Env} {a : Act} (hs : SlotsOK ε σ a) : ∀ (xs : List Operand) (ys : List Opd), xs.mapM compO = some ys →
    (ys.map (·.ev σ)).all SV.isVal = true → SatA (ys.map (·.ev σ)) ε (xs.map a.eval)
  | [], ys, h, _ => by simp at h; subst h; rfl
  | x :: xs, ys, h, h1 => by
    simp only [List.mapM_cons, bind, Option.pure_def] at h
    obtain ⟨y, hy, h⟩ := bind_some h
    obtain ⟨ys', hys, h⟩ := bind_some h
    simp only [Option.some.injEq] at h
    subst h
    simp only [List.map_cons, List.all_cons, Bool.and_eq_true] at h1
    obtain ⟨cs, h3, h4⟩ := sat_val (compO_ok hy hs) h1.1
    simp only [List.map_cons, SatA]
    exact ⟨cs, _, by rw [h4], h3, sat_caps hs xs ys' hys h1.2⟩

theorem sound_mkfn {fn : Fn} {first caps : Array Operand} {p : PIO} (ho : o.op = .makeFunc fn first caps) (hp : compP P o.op = some p) (h : popK σ K p) : ∃ sv, K sv ∧ PureOK P o σ sv := by
  rw [ho] at hp
  simp only [compP] at hp
  split at hp <;> try (cases hp; done)
  rename_i f hf
  obtain rfl : first = #[] := by simpa using hf
  simp only [Option.map_eq_some_iff] at hp
  obtain ⟨ys, hy, rfl⟩ := hp
  simp only [popK] at h
  refine ⟨_, h.2, fun ε a hs => ⟨_, fun w => by simp [execOp, ho, Instr.makeFunc]; rfl, ?_⟩⟩
  have := sat_caps hs caps.toList ys hy h.1
  refine ⟨_, by simp only [SatC]; exact ⟨_, this, rfl⟩, ?_⟩
  simp only [boxed, SV.isAgg, Bool.false_eq_true, if_false, List.headD_cons]
  congr 1
  apply Array.ext'
  simp

theorem sound_nck {x : Operand} {p : PIO} (ho : o.op = .nilCheck x) (hp : compP P o.op = some p) (h : popK σ K p) : ∃ sv, K sv ∧ PureOK P o σ sv := by
  rw [ho] at hp
  simp only [compP, Option.map_eq_some_iff] at hp
  obtain ⟨x', hx, rfl⟩ := hp
  have key : ∀ sv, x'.ev σ = sv → K sv → (∀ ε v, SatV ε sv v → (∃ ad, v = .pointer (some ad)) ∨ ∃ f c, v = .func (.func f) #[] c) → ∃ sv, K sv ∧ PureOK P o σ sv := by
    intro sv e hK hf
    refine ⟨sv, hK, fun ε a hs => ?_⟩
    have hv := e ▸ compO_ok hx hs
    refine ⟨a.eval x, fun w => ?_, hv⟩
    rcases hf ε _ hv with ⟨ad, e1⟩ | ⟨f, c, e1⟩ <;> simp [execOp, ho, e1]
  simp only [popK] at h
  split at h
  · rename_i i p o' e1
    exact key _ e1 h fun ε v hv => .inl ⟨_, (sat_ptr hv).2.2⟩
  · rename_i τ w d f l i p o' e1
    refine key _ e1 h fun ε v hv => .inl ?_
    obtain ⟨cs, h1, h2⟩ := hv
    simp only [SatC] at h1
    obtain ⟨b, of, T, fz, cur, e, _⟩ := h1
    subst e
    exact ⟨_, h2⟩
  · rename_i i j p o' e1
    refine key _ e1 h fun ε v hv => .inl ?_
    obtain ⟨_, _, b, cap, n, _, _, e⟩ := sat_vptr hv
    exact ⟨_, e⟩
  · rename_i c p o' e1
    refine key _ e1 h fun ε v hv => .inl ?_
    obtain ⟨cs, h1, h2⟩ := hv
    simp only [SatC] at h1
    obtain ⟨b, T, fz, cur, e, _⟩ := h1
    subst e
    exact ⟨_, h2⟩
  · rename_i f c e1
    refine key _ e1 h fun ε v hv => .inr ?_
    obtain ⟨vs, _, e⟩ := sat_fn hv
    exact ⟨_, _, e⟩
  · exact h.elim

theorem sound_mkif {t : TypeId} {x : Operand} {p : PIO} (ho : o.op = .makeInterface t x) (hp : compP P o.op = some p) (h : popK σ K p) : ∃ sv, K sv ∧ PureOK P o σ sv := by
  rw [ho] at hp
  simp only [compP, bind, Option.pure_def] at hp
  obtain ⟨x', hx, hp⟩ := bind_some hp
  split at hp <;> try (cases hp; done)
  rename_i h1 h2
  simp only [Option.some.injEq] at hp; subst hp
  simp only [popK] at h
  refine ⟨_, h.2, fun ε a hs => ⟨.iface t (a.eval x), fun w => ?_, ?_⟩⟩
  · cases hu : P.underlying t with
    | none => exact absurd hu h2
    | some d =>
      simp only [execOp, ho, Instr.makeInterface, Sem.run_bind, run_underlying hu, Result.andThen_ok]
      cases d <;> first
        | rfl
        | exact absurd hu (h1 _)
  · obtain ⟨cs, h3, h4⟩ := sat_val (compO_ok hx hs) h.1
    exact ⟨_, by simp only [SatC]; exact ⟨cs, h3, rfl⟩, by rw [h4]; rfl⟩

theorem slLen_ok {ε : Env} {sv : SV} {v : Value} {n : Nat} (h : slLen sv = some n) (hv : SatV ε sv v) : ∃ a c, v = .slice a n c := by
  cases sv <;> simp only [slLen] at h <;> cases h
  · obtain ⟨cs, h1, h2⟩ := hv
    simp only [SatC] at h1
    obtain ⟨ao, cap, e, _⟩ := h1
    subst e
    exact ⟨_, _, h2⟩
  · obtain ⟨_, h1, h2⟩ := sat_vec hv
    rcases h1 with ⟨e, e2⟩ | ⟨b, cap, e⟩
    · subst e2; exact ⟨_, _, h2.trans e⟩
    · exact ⟨_, _, h2.trans e⟩
  · exact ⟨_, _, sat_nils hv⟩

theorem sound_b {c : Call} {p : PIO} (ho : o.op = .call c) (hp : compP P o.op = some p) (h : popK σ K p) : ∃ sv, K sv ∧ PureOK P o σ sv := by
  rw [ho] at hp
  simp only [compP, compB] at hp
  cases c with
  | mk callee args argTypes =>
  simp only at hp
  split at hp
  · rename_i x t ea et
    obtain rfl : args = #[x] := by apply Array.ext'; simpa using ea
    obtain rfl : argTypes = #[t] := by apply Array.ext'; simpa using et
    simp only [bind, Option.pure_def] at hp
    obtain ⟨x', hx, hp⟩ := bind_some hp
    have hrun : ∀ (a : Act) w, (execOp a.eval o).run P w = ((Builtin.len_ #[t] o.type #[a.eval x]).run P w).andThen fun v w => .ok (.value v) w := by
      intro a w
      simp [execOp, ho, resolve, invoke, builtin]
    split at hp <;> try (cases hp; done)
    · rename_i hu
      simp only [Option.some.injEq] at hp; subst hp
      simp only [popK] at h
      split at h
      · rename_i s e1
        refine ⟨_, h, fun ε a hs => ⟨_, fun w => ?_, mk_int⟩⟩
        have s1 := sat_str (e1 ▸ compO_ok hx hs)
        rw [hrun]
        simp only [Builtin.len_, Sem.run_bind, run_underlying hu, Result.andThen_ok, s1, List.getElem?_toArray, List.getElem?_cons_zero, Sem.run_pure, goInt]
        rfl
      · exact h.elim
    · rename_i e hu
      simp only [Option.some.injEq] at hp; subst hp
      simp only [popK] at h
      split at h
      · rename_i n hn
        refine ⟨_, h, fun ε a hs => ⟨_, fun w => ?_, mk_int⟩⟩
        obtain ⟨ad, c, e1⟩ := slLen_ok hn (compO_ok hx hs)
        rw [hrun]
        simp [Builtin.len_, run_underlying hu, e1, goInt]
      · exact h.elim
  · rename_i x y t u ea et
    obtain rfl : args = #[x, y] := by apply Array.ext'; simpa using ea
    split at hp <;> try (cases hp; done)
    simp only [bind, Option.pure_def] at hp
    obtain ⟨x', hx, hp⟩ := bind_some hp
    obtain ⟨y', hy, hp⟩ := bind_some hp
    simp only [Option.some.injEq] at hp; subst hp
    simp only [popK] at h
    split at h
    · rename_i k a' k' b' e1 e2
      obtain ⟨rfl, hK⟩ := h
      refine ⟨_, hK, fun ε a hs => ⟨_, fun w => ?_, mk_int⟩⟩
      have s1 := sat_int (e1 ▸ compO_ok hx hs)
      have s2 := sat_int (e2 ▸ compO_ok hy hs)
      simp [execOp, ho, resolve, invoke, builtin, Builtin.max_, s1, s2, Builtin.max2]
    · exact h.elim
  · rename_i x y t u ea et
    obtain rfl : args = #[x, y] := by apply Array.ext'; simpa using ea
    split at hp <;> try (cases hp; done)
    simp only [bind, Option.pure_def] at hp
    obtain ⟨x', hx, hp⟩ := bind_some hp
    obtain ⟨y', hy, hp⟩ := bind_some hp
    simp only [Option.some.injEq] at hp; subst hp
    simp only [popK] at h
    split at h
    · rename_i k a' k' b' e1 e2
      obtain ⟨rfl, hK⟩ := h
      refine ⟨_, hK, fun ε a hs => ⟨_, fun w => ?_, mk_int⟩⟩
      have s1 := sat_int (e1 ▸ compO_ok hx hs)
      have s2 := sat_int (e2 ▸ compO_ok hy hs)
      simp [execOp, ho, resolve, invoke, builtin, Builtin.min_, s1, s2, Builtin.min2]
    · exact h.elim
  · cases hp

end Go.Sx
