import Derived.Test.YtgcbhanfhnianaaSx5e
/-! Sx, part 6: operations that touch no memory do what is said of them. -/
set_option linter.unusedSimpArgs false
set_option linter.unusedVariables false
namespace Go.Sx
open Go

variable {P : Program} {σ : List SV} {K : SV → Prop} {o : Oper}

theorem pathOk_snoc : ∀ (p : List Step) (s : Step), pathOk p → pathOk [s] → pathOk (p ++ [s])
  | [], _, _, h => h
  | .fld _ :: p, s, h1, h2 => pathOk_snoc p s h1 h2
  | .idx _ _ :: p, s, h1, h2 => ⟨h1.1, pathOk_snoc p s h1.2 h2⟩

theorem sound_mv {x : Operand} {y : Opd} (ho : o.op = .move x ∨ o.op = .assign x) (hx : compO x = some y) (h : K (y.ev σ)) : ∃ sv, K sv ∧ PureOK P o σ sv := by
  refine ⟨_, h, fun ε a hs => ⟨a.eval x, fun w => ?_, compO_ok hx hs⟩⟩
  rcases ho with ho | ho <;> simp [execOp, ho]

theorem sound_pick {c x y : Operand} {c' x' y' : Opd} (ho : o.op = .pick c x y) (hc : compO c = some c') (hx : compO x = some x') (hy : compO y = some y')
    (h : popK σ K (.pick c' x' y')) : ∃ sv, K sv ∧ PureOK P o σ sv := by
  simp only [popK] at h
  split at h
  · rename_i b hb
    cases b with
    | true =>
      refine ⟨_, h.1 rfl, fun ε a hs => ⟨a.eval x, fun w => ?_, compO_ok hx hs⟩⟩
      have := sat_bool (hb ▸ compO_ok hc hs)
      simp [execOp, ho, this, asBool]
    | false =>
      refine ⟨_, h.2 rfl, fun ε a hs => ⟨a.eval y, fun w => ?_, compO_ok hy hs⟩⟩
      have := sat_bool (hb ▸ compO_ok hc hs)
      simp [execOp, ho, this, asBool]
  · exact h.elim

theorem aeq_ok {op : BinOp} {t yt : TypeId} {x y : Operand} {x' y' : Opd} (ho : o.op = .binOp op t x y yt) (hx : compO x = some x') (hy : compO y = some y') (neg : Bool) (hop : op = (if neg then .neq else .eql)) {p : PIO} (hp : compEq P neg t x' y' = some p) (h : popK σ K p) : ∃ sv, K sv ∧ PureOK P o σ sv := by
  unfold compEq at hp
  split at hp <;> try (cases hp; done)
  rename_i e _
  split at hp <;> try (cases hp; done)
  rename_i hc
  simp only [Bool.and_eq_true, Bool.not_eq_true', decide_eq_true_eq] at hc
  obtain ⟨⟨⟨c1, c2⟩, c3⟩, c4⟩ := hc
  simp only [Option.some.injEq] at hp; subst hp
  simp only [popK] at h
  obtain ⟨⟨h1, h2⟩, h3⟩ := h
  refine ⟨_, h3, fun ε a hs => ?_⟩
  have sx := compO_ok hx hs
  have sy := compO_ok hy hs
  have agg : ∀ {z : SV} {v : Value}, esP e z → SatV ε z v → ∃ cs, SatC z ε cs ∧ v = boxed (aggE e) cs := by
    intro z v hz hsv
    have hia := esP_agg hz
    cases z with
    | tup l => cases e <;> simp only [esP] at hz
    | junk => cases e <;> simp only [esP] at hz
    | _ => obtain ⟨cs, k1, k2⟩ := hsv; exact ⟨cs, k1, by rw [k2, hia]⟩
  obtain ⟨cs, k1, k2⟩ := agg h1 sx
  obtain ⟨cs', k3, k4⟩ := agg h2 sy
  have hq : ∀ w, (Op.equal t (a.eval x) (a.eval y)).run P w = .ok (eqV e (x'.ev σ) (y'.ev σ)) w := fun w => by
    rw [k2, k4]
    exact equalIn_ok e w c1 (d := 10000) (by omega) h1 h2 k1 k3
  have hv : a.eval x = .agg cs.toArray := by rw [k2, c2]; rfl
  have hv' : a.eval y = .agg cs'.toArray := by rw [k4, c2]; rfl
  rw [hv, hv'] at hq
  have hg : ∀ op w, (eqGuard op t x y (.agg cs.toArray) (.agg cs'.toArray)).run P w = .ok () w := fun op w => by
    cases op <;> simp [eqGuard, c4]
  refine ⟨.bool (if neg then !eqV e (x'.ev σ) (y'.ev σ) else eqV e (x'.ev σ) (y'.ev σ)), fun w => ?_, mk_bool⟩
  cases neg <;> subst hop <;> simp [execOp, ho, hv, hv', hg, binOp, hq]

theorem sat_iface {ε : Env} {t : TypeId} {x : SV} {v : Value} (h : SatV ε (.iface t x) v) : ∃ xs, SatC x ε xs ∧ v = .iface t (boxed x.isAgg xs) := by
  obtain ⟨cs, h1, h2⟩ := h
  simp only [SatC] at h1
  obtain ⟨xs, h3, rfl⟩ := h1
  exact ⟨xs, h3, h2⟩
theorem run_info {t : TypeId} {i : TypeInfo} (h : P.info? t = some i) (w : World) : (typeInfo t).run P w = .ok i w := by
  simp [typeInfo, h]
theorem run_ieq_same (d : Nat) {ti t : TypeId} {ms : Array (String × TypeId)} {i : TypeInfo} (hu : P.underlying ti = some (.interface ms)) (hi : P.info? t = some i) (hc : i.comparable = true) (x y : Value) (w : World) :
    (Op.equalIn (d + 1) ti (.iface t x) (.iface t y)).run P w = (Op.equalIn d t x y).run P w := by
  simp [Op.equalIn, run_underlying hu, run_info hi, hc]
theorem run_ieq_other (d : Nat) {ti t u : TypeId} {ms : Array (String × TypeId)} (hu : P.underlying ti = some (.interface ms)) (hne : t ≠ u) (x y : Value) (w : World) :
    (Op.equalIn (d + 1) ti (.iface t x) (.iface u y)).run P w = .ok false w := by
  simp [Op.equalIn, run_underlying hu, hne]
theorem ieq_ok {op : BinOp} {t yt : TypeId} {x y : Operand} {x' y' : Opd} (ho : o.op = .binOp op t x y yt) (hx : compO x = some x') (hy : compO y = some y') (neg : Bool) (hop : op = (if neg then .neq else .eql)) {ms : Array (String × TypeId)} (hu : P.underlying t = some (.interface ms)) (h : popK σ K (.ieq neg (ieqTab P) x' y')) : ∃ sv, K sv ∧ PureOK P o σ sv := by
  simp only [popK] at h
  split at h
  · rename_i u a' e1
    split at h
    · rename_i u' b' e2
      have run : ∀ (c : Bool), (∀ ε a, SlotsOK ε σ a → ∀ w, (Op.equal t (a.eval x) (a.eval y)).run P w = .ok c w) → K (.bool (if neg then !c else c)) → ∃ sv, K sv ∧ PureOK P o σ sv := by
        intro c hc hK
        refine ⟨_, hK, fun ε a hs => ?_⟩
        obtain ⟨xs, _, s1⟩ := sat_iface (e1 ▸ compO_ok hx hs)
        obtain ⟨ys, _, s2⟩ := sat_iface (e2 ▸ compO_ok hy hs)
        have hq := hc ε a hs
        rw [s1, s2] at hq
        refine ⟨.bool (if neg then !c else c), fun w => ?_, mk_bool⟩
        cases neg <;> subst hop <;> simp [execOp, ho, s1, s2, eqGuard, binOp, hq]
      split at h
      · rename_i heq
        subst heq
        split at h
        · rename_i e he
          obtain ⟨⟨p1, p2⟩, hK⟩ := h
          obtain ⟨c1, c2, i, hi, hcomp⟩ := ieqTab_ok he
          refine run (eqV e a' b') (fun ε a hs w => ?_) (by cases neg <;> exact hK)
          obtain ⟨xs, k1, s1⟩ := sat_iface (e1 ▸ compO_ok hx hs)
          obtain ⟨ys, k2, s2⟩ := sat_iface (e2 ▸ compO_ok hy hs)
          rw [s1, s2, esP_agg p1, esP_agg p2]
          have := equalIn_ok e w c1 (d := 9999) (by omega) p1 p2 k1 k2
          exact (run_ieq_same 9999 hu hi hcomp _ _ w).trans this
        · exact h.elim
      · rename_i hne
        refine run false (fun ε a hs w => ?_) (by cases neg <;> exact h)
        obtain ⟨xs, k1, s1⟩ := sat_iface (e1 ▸ compO_ok hx hs)
        obtain ⟨ys, k2, s2⟩ := sat_iface (e2 ▸ compO_ok hy hs)
        rw [s1, s2]
        exact run_ieq_other 9999 hu (fun e : u = u' => hne e.symm) _ _ w
    · exact h.elim
  · exact h.elim

theorem sound_bin {op : BinOp} {t yt : TypeId} {x y : Operand} {p : PIO} (ho : o.op = .binOp op t x y yt) (hp : compP P o.op = some p) (h : popK σ K p) : ∃ sv, K sv ∧ PureOK P o σ sv := by
  rw [ho] at hp
  simp only [compP, bind, Option.pure_def] at hp
  obtain ⟨x', hx, hp⟩ := bind_some hp
  obtain ⟨y', hy, hp⟩ := bind_some hp
  split at hp
  · split at hp
    · rename_i ao hao
      simp only [Option.some.injEq] at hp; subst hp
      simp only [popK] at h
      split at h
      · rename_i k a' k' b' e1 e2
        obtain ⟨hk, hev⟩ := h
        obtain ⟨n, hK, hr⟩ := AOp.ev_run (P := P) hao hk hev
        refine ⟨_, hK, fun ε a hs => ⟨_, fun w => ?_, mk_int⟩⟩
        have s1 := sat_int (e1 ▸ compO_ok hx hs)
        have s2 := sat_int (e2 ▸ compO_ok hy hs)
        have := hr w
        rw [binOp_int_t (t' := t)] at this
        simp [execOp, ho, s1, s2, eqGuard_at_int, this]
      · exact h.elim
    · split at hp
      · rename_i co hco
        simp only [Option.some.injEq] at hp; subst hp
        simp only [popK] at h
        split at h
        · rename_i k a' k' b' e1 e2
          obtain ⟨rfl, hK⟩ := h
          refine ⟨_, hK, fun ε a hs => ⟨_, fun w => ?_, mk_bool⟩⟩
          have s1 := sat_int (e1 ▸ compO_ok hx hs)
          have s2 := sat_int (e2 ▸ compO_ok hy hs)
          have := COp.ev_run (P := P) (k := k') (a := a') (b := b') hco w
          rw [binOp_int_t (t' := t)] at this
          simp [execOp, ho, s1, s2, eqGuard_at_int, this]
        · exact h.elim
      · cases hp
  · rename_i ht
    have beq : ∀ (neg : Bool), op = (if neg then .neq else .eql) → popK σ K (.beq neg x' y') → ∃ sv, K sv ∧ PureOK P o σ sv := by
      intro neg hop h
      simp only [popK] at h
      split at h
      · rename_i a' b' e1 e2
        refine ⟨_, h, fun ε a hs => ⟨_, fun w => ?_, mk_bool⟩⟩
        have s1 := sat_bool (e1 ▸ compO_ok hx hs)
        have s2 := sat_bool (e2 ▸ compO_ok hy hs)
        cases neg <;> subst hop <;> simp [execOp, ho, s1, s2, eqGuard_at_bool, binOp, run_equal_bool w t a' b' ht, bne]
      · exact h.elim
    split at hp
    · simp only [Option.some.injEq] at hp; subst hp; exact beq false rfl h
    · simp only [Option.some.injEq] at hp; subst hp; exact beq true rfl h
    · cases hp
  · have seq : ∀ (neg : Bool), op = (if neg then .neq else .eql) → popK σ K (.seq neg x' y') → ∃ sv, K sv ∧ PureOK P o σ sv := by
      intro neg hop h
      simp only [popK] at h
      split at h
      · rename_i a' b' e1 e2
        refine ⟨_, h, fun ε a hs => ⟨_, fun w => ?_, mk_bool⟩⟩
        have s1 := sat_str (e1 ▸ compO_ok hx hs)
        have s2 := sat_str (e2 ▸ compO_ok hy hs)
        have hb : (a' == b') = decide (a' = b') := by by_cases hab : a' = b' <;> simp [hab]
        cases neg <;> subst hop <;> simp [execOp, ho, s1, s2, eqGuard_at_string, binOp, Op.stringOp, ByteArray.toList_mk, hb]
      · exact h.elim
    split at hp
    · simp only [Option.some.injEq] at hp; subst hp
      simp only [popK] at h
      split at h
      · rename_i a' b' e1 e2
        refine ⟨_, h.2, fun ε a hs => ⟨_, fun w => ?_, mk_str⟩⟩
        have s1 := sat_str (e1 ▸ compO_ok hx hs)
        have s2 := sat_str (e2 ▸ compO_ok hy hs)
        have h3 : ¬ (IntKind.i64.max < (((⟨a'.toArray⟩ : ByteArray).size + (⟨b'.toArray⟩ : ByteArray).size : Nat) : Int)) := by
          have h4 : (⟨a'.toArray⟩ : ByteArray).size = a'.length := by simp [ByteArray.size]
          have h5 : (⟨b'.toArray⟩ : ByteArray).size = b'.length := by simp [ByteArray.size]
          rw [h4, h5, IntKind.max_i64]
          omega
        have h6 : (⟨a'.toArray⟩ : ByteArray) ++ ⟨b'.toArray⟩ = ⟨(a' ++ b').toArray⟩ := by
          apply ByteArray.ext
          simp
        simp only [execOp, ho, s1, s2, eqGuard_at_string, binOp, Op.stringOp, Sem.run_bind, Sem.run_pure, Result.andThen_ok, GT.gt, if_neg h3, h6]
      · exact h.elim
    · simp only [Option.some.injEq] at hp; subst hp; exact seq false rfl h
    · simp only [Option.some.injEq] at hp; subst hp; exact seq true rfl h
    · cases hp
  · have key : ∀ (neg : Bool), op = (if neg then .neq else .eql) → isNilC y = true → popK σ K (.snil neg x') → ∃ sv, K sv ∧ PureOK P o σ sv := by
      rename_i el ht
      intro neg hop hy0 h
      have hyv : y = .const (.slice none 0 0) := by
        unfold isNilC at hy0
        split at hy0 <;> first | rfl | cases hy0
      simp only [popK] at h
      split at h
      · rename_i n hn
        have run : ∀ ε a, SlotsOK ε σ a → ∃ ao : Option Addr, (∀ w, (execOp a.eval o).run P w = .ok (.value (.bool (if neg then !ao.isNone else ao.isNone))) w) ∧ (ao = none → n = 0) ∧ (x'.ev σ = .nils → ao = none) := by
          intro ε a hs
          obtain ⟨ao, cap, e1, e2, e3⟩ := slLen_nil hn (compO_ok hx hs)
          refine ⟨ao, fun w => ?_, e2, e3⟩
          have hg : ∀ op, eqGuard op t x y (.slice ao n cap) (.slice none 0 0) = pure () := fun op => by cases op <;> rfl
          have hy2 : a.eval y = .slice none 0 0 := by rw [hyv]; rfl
          have hq : (Op.equal t (.slice ao n cap) (.slice none 0 0)).run P w = .ok ao.isNone w := run_equalIn_slice_nil w 9999 t el ao n cap ht
          cases neg <;> subst hop <;> simp [execOp, ho, e1, hy2, hg, binOp, hq]
        split at h
        · rename_i e
          refine ⟨_, h, fun ε a hs => ?_⟩
          obtain ⟨ao, h1, h2, h3⟩ := run ε a hs
          have := h3 e
          subst this
          exact ⟨_, h1, by cases neg <;> exact mk_bool⟩
        · by_cases hn0 : n = 0
          · refine ⟨_, h.1 (by simp [hn0]), fun ε a hs => ?_⟩
            obtain ⟨ao, h1, h2, h3⟩ := run ε a hs
            exact ⟨_, h1, ⟨[.bool (if neg then !ao.isNone else ao.isNone)], by simp only [SatC]; exact ⟨_, rfl⟩, rfl⟩⟩
          · refine ⟨_, h.2 (by simp [hn0]), fun ε a hs => ?_⟩
            obtain ⟨ao, h1, h2, h3⟩ := run ε a hs
            cases ao with
            | none => exact absurd (h2 rfl) hn0
            | some x => exact ⟨_, h1, by cases neg <;> exact mk_bool⟩
      · exact h.elim
    split at hp
    · split at hp
      · rename_i hny
        simp only [Option.some.injEq] at hp; subst hp; exact key false rfl hny h
      · cases hp
    · split at hp
      · rename_i hny
        simp only [Option.some.injEq] at hp; subst hp; exact key true rfl hny h
      · cases hp
    · cases hp
  · have key : ∀ (neg : Bool), op = (if neg then .neq else .eql) → isNilP y = true → popK σ K (.pnil neg x') → ∃ sv, K sv ∧ PureOK P o σ sv := by
      rename_i el ht
      intro neg hop hy0 h
      have hyv : y = .const (.pointer none) := by
        unfold isNilP at hy0
        split at hy0 <;> first | rfl | cases hy0
      have hy2 : ∀ a : Act, a.eval y = .pointer none := fun a => by rw [hyv]; rfl
      have hpt : P.underlying t = some (.pointer (P.pointee t)) := by simp [Program.pointee, ht]
      have go : ∀ (b : Bool), (∀ ε a, SlotsOK ε σ a → ∃ p : Option Addr, a.eval x = .pointer p ∧ p.isNone = b) → K (.bool (if neg then !b else b)) → ∃ sv, K sv ∧ PureOK P o σ sv := by
        intro b hb hK
        refine ⟨_, hK, fun ε a hs => ?_⟩
        obtain ⟨p, e1, e2⟩ := hb ε a hs
        refine ⟨.bool (if neg then !b else b), fun w => ?_, mk_bool⟩
        have hg : ∀ op, eqGuard op t x y (.pointer p) (.pointer none) = pure () := fun op => by cases op <;> rfl
        have hq : (Op.equal t (.pointer p) (.pointer none)).run P w = .ok p.isNone w := run_equalIn_pointer_nil w 9999 t p hpt
        cases neg <;> subst hop <;> simp [execOp, ho, e1, hy2, hg, binOp, hq, e2]
      simp only [popK] at h
      split at h
      · rename_i e
        exact go true (fun ε a hs => ⟨none, sat_nilp (e ▸ compO_ok hx hs), rfl⟩) (by cases neg <;> exact h)
      · rename_i e
        refine go false (fun ε a hs => ?_) (by cases neg <;> exact h)
        obtain ⟨_, _, h3⟩ := sat_ptr (e ▸ compO_ok hx hs)
        exact ⟨_, h3, rfl⟩
      · rename_i e
        refine go false (fun ε a hs => ?_) (by cases neg <;> exact h)
        obtain ⟨cs, h1, h2⟩ : SatV ε _ _ := e ▸ compO_ok hx hs
        simp only [SatC] at h1
        obtain ⟨b, off, T, fz, cur, rfl, _⟩ := h1
        exact ⟨_, h2, rfl⟩
      · rename_i e
        refine go false (fun ε a hs => ?_) (by cases neg <;> exact h)
        obtain ⟨_, _, b, cap, n, _, _, h3⟩ := sat_vptr (e ▸ compO_ok hx hs)
        exact ⟨_, h3, rfl⟩
      · rename_i e
        refine go false (fun ε a hs => ?_) (by cases neg <;> exact h)
        obtain ⟨cs, h1, h2⟩ : SatV ε _ _ := e ▸ compO_ok hx hs
        simp only [SatC] at h1
        obtain ⟨b, T, fz, cur, rfl, _⟩ := h1
        exact ⟨_, h2, rfl⟩
      · exact h.elim
    split at hp
    · split at hp
      · rename_i hny
        simp only [Option.some.injEq] at hp; subst hp; exact key false rfl hny h
      · cases hp
    · split at hp
      · rename_i hny
        simp only [Option.some.injEq] at hp; subst hp; exact key true rfl hny h
      · cases hp
    · cases hp
  · have key := aeq_ok (P := P) (σ := σ) (K := K) (o := o) (t := t) ho hx hy
    split at hp
    · exact key false rfl hp h
    · exact key true rfl hp h
    · cases hp
  · have key := aeq_ok (P := P) (σ := σ) (K := K) (o := o) (t := t) ho hx hy
    split at hp
    · exact key false rfl hp h
    · exact key true rfl hp h
    · cases hp
  · rename_i ms hu
    have key : ∀ neg : Bool, op = (if neg then .neq else .eql) → popK σ K (.ieq neg (ieqTab P) x' y') → ∃ sv, K sv ∧ PureOK P o σ sv := fun neg hop h => ieq_ok ho hx hy neg hop hu h
    split at hp
    · simp only [Option.some.injEq] at hp; subst hp; exact key false rfl h
    · simp only [Option.some.injEq] at hp; subst hp; exact key true rfl h
    · cases hp
  · cases hp

theorem sound_un {op : UnOp} {t : TypeId} {x : Operand} {p : PIO} (ho : o.op = .unOp op t x) (hp : compP P o.op = some p) (h : popK σ K p) : ∃ sv, K sv ∧ PureOK P o σ sv := by
  rw [ho] at hp
  cases op <;> simp only [compP, Option.map_eq_some_iff] at hp <;> first | (cases hp; done) | skip
  all_goals
    obtain ⟨x', hx, rfl⟩ := hp
    simp only [popK] at h
    split at h
    · rename_i a' e1
      refine ⟨_, h, fun ε a hs => ⟨_, fun w => ?_, ⟨_, rfl, rfl⟩⟩⟩
      have s1 := compO_ok hx hs
      rw [e1] at s1
      first
        | (have s1 := sat_bool s1; simp [execOp, ho, s1, Op.unary, boxed, SV.isAgg]; done)
        | (have s1 := sat_int s1; simp [execOp, ho, s1, Op.unary, Op.intArith, boxed, SV.isAgg]; done)
    · exact h.elim

theorem sound_conv {s d : TypeId} {x : Operand} {p : PIO} (ho : o.op = .convert s d x) (hp : compP P o.op = some p) (h : popK σ K p) : ∃ sv, K sv ∧ PureOK P o σ sv := by
  rw [ho] at hp
  simp only [compP, bind, Option.pure_def] at hp
  obtain ⟨x', hx, hp⟩ := bind_some hp
  split at hp
  · rename_i k1 k2 h1 h2
    simp only [Option.some.injEq] at hp; subst hp
    simp only [popK] at h
    split at h
    · rename_i k a' e1
      refine ⟨_, h, fun ε a hs => ⟨_, fun w => ?_, mk_int⟩⟩
      have s1 := sat_int (e1 ▸ compO_ok hx hs)
      simp [execOp, ho, convert, run_underlying h1, run_underlying h2, s1, Conv.intToInt]
    · exact h.elim
  · cases hp

theorem sound_step {x : Operand} {x' : Opd} {s : Step} {off : Nat} (hx : compO x = some x') (hs1 : pathOk [s])
    (hrun : ∀ (ε : Env) (a : Act) (ad : Addr), SlotsOK ε σ a → a.eval x = .pointer (some ad) → ∀ w, (execOp a.eval o).run P w = .ok (.value (.pointer (some (ad.add off)))) w)
    (h : stepTo s off K (x'.ev σ)) : ∃ sv, K sv ∧ PureOK P o σ sv := by
  unfold stepTo at h
  split at h
  · rename_i i p o' e1
    refine ⟨_, h, fun ε a hs => ?_⟩
    obtain ⟨h1, h2, h3⟩ := sat_ptr (e1 ▸ compO_ok hx hs)
    refine ⟨_, hrun ε a _ hs h3, ?_⟩
    rw [Addr.add_lit]
    exact ⟨_, by simp only [SatC]; exact ⟨h1, pathOk_snoc p s h2 hs1, rfl⟩, rfl⟩
  · rename_i τ w d f l i p o' e1
    refine ⟨_, h, fun ε a hs => ?_⟩
    obtain ⟨cs, h1, h2⟩ := e1 ▸ compO_ok hx hs
    simp only [SatC] at h1
    obtain ⟨b, of, T, fz, cur, e, h3, h4, h5, h6, h7⟩ := h1
    subst e
    refine ⟨_, hrun ε a _ hs h2, ?_⟩
    rw [Addr.add_lit]
    exact ⟨_, by simp only [SatC]; exact ⟨b, of, T, fz, cur, by rw [← Nat.add_assoc], h3, h4, pathOk_snoc p s h5 hs1, h6, h7⟩, rfl⟩
  · rename_i i j p o' e1
    refine ⟨_, h, fun ε a hs => ?_⟩
    obtain ⟨h1, h2, b, cap, n, h3, h4, h5⟩ := sat_vptr (e1 ▸ compO_ok hx hs)
    refine ⟨_, hrun ε a _ hs h5, ?_⟩
    rw [Addr.add_lit]
    exact ⟨_, by simp only [SatC]; exact ⟨h1, pathOk_snoc p s h2 hs1, b, cap, n, h3, h4, rfl⟩, rfl⟩
  · rename_i c p o' e1
    refine ⟨_, h, fun ε a hs => ?_⟩
    obtain ⟨cs, h1, h2⟩ := e1 ▸ compO_ok hx hs
    simp only [SatC] at h1
    obtain ⟨b, T, fz, cur, e, h3, h4, h5⟩ := h1
    subst e
    refine ⟨_, hrun ε a _ hs h2, ?_⟩
    rw [Addr.add_lit]
    exact ⟨_, by simp only [SatC]; exact ⟨b, T, fz, cur, rfl, h3, pathOk_snoc p s h4 hs1, h5⟩, rfl⟩
  · exact h.elim

theorem sound_fa {s : TypeId} {x : Operand} {k : Nat} {p : PIO} (ho : o.op = .fieldAddr s x k) (hp : compP P o.op = some p) (h : popK σ K p) : ∃ sv, K sv ∧ PureOK P o σ sv := by
  rw [ho] at hp
  simp only [compP, bind, Option.pure_def] at hp
  obtain ⟨x', hx, hp⟩ := bind_some hp
  split at hp <;> try (cases hp; done)
  rename_i fs hu
  split at hp <;> try (cases hp; done)
  rename_i f hf
  split at hp <;> try (cases hp; done)
  rename_i n ag ht
  split at hp
  · cases hp
  · rename_i hn
    simp only [Option.some.injEq] at hp; subst hp
    refine sound_step hx (s := .fld k) (off := f.offset) trivial (fun ε a ad hs hv w => ?_) (by simpa only [popK] using h)
    simp [execOp, ho, hv, Instr.fieldAt, run_underlying hu, hf, Instr.sureAddr, fieldPlace, run_sizeOf ht, hn]

theorem sound_fld {s : TypeId} {x : Operand} {k : Nat} {p : PIO} (ho : o.op = .field s x k) (hp : compP P o.op = some p) (h : popK σ K p) : ∃ sv, K sv ∧ PureOK P o σ sv := by
  rw [ho] at hp
  simp only [compP, bind, Option.pure_def] at hp
  obtain ⟨x', hx, hp⟩ := bind_some hp
  split at hp <;> try (cases hp; done)
  rename_i fs hu
  split at hp <;> try (cases hp; done)
  rename_i f hf
  split at hp <;> try (cases hp; done)
  rename_i n ag ht
  split at hp
  · cases hp
  · rename_i hn
    simp only [Option.some.injEq] at hp; subst hp
    simp only [popK] at h
    split at h
    · rename_i l e1
      obtain ⟨⟨h1, h2, h3, h4⟩, hK⟩ := h
      refine ⟨_, hK, fun ε a hs => ?_⟩
      obtain ⟨cs, h5, h6⟩ := sat_agg (e1 ▸ compO_ok hx hs)
      obtain ⟨h7, h8⟩ := SatL.nth l k h5 h1
      refine ⟨_, fun w => ?_, isAgg_wd h7⟩
      rw [h2, h3] at *
      rw [h4]
      simp only [execOp, ho, h6, Instr.field, Sem.run_bind, run_underlying hu, Result.andThen_ok, hf, asAgg, Sem.run_pure]
      rw [run_part ht w cs f.offset h8 (fun e => by
        rcases Nat.lt_or_ge 1 n with h | h
        · exact absurd ⟨e, by omega⟩ hn
        · rcases Nat.eq_or_lt_of_le h with h | h
          · exact h
          · exact absurd ⟨e, by omega⟩ hn)]
      rfl
    · exact h.elim

theorem sound_ia {t : TypeId} {x i : Operand} {p : PIO} (ho : o.op = .indexAddr t x i) (hp : compP P o.op = some p) (h : popK σ K p) : ∃ sv, K sv ∧ PureOK P o σ sv := by
  rw [ho] at hp
  simp only [compP, bind, Option.pure_def] at hp
  obtain ⟨x', hx, hp⟩ := bind_some hp
  obtain ⟨i', hi, hp⟩ := bind_some hp
  split at hp <;> try (cases hp; done)
  · rename_i n e hu
    split at hp <;> try (cases hp; done)
    rename_i sz ag ht
    simp only [Option.some.injEq] at hp; subst hp
    simp only [popK] at h
    split at h
    · rename_i k j e2
      obtain ⟨⟨h1, h2⟩, h⟩ := h
      refine sound_step (s := .idx j.toNat n) (off := j.toNat * sz) hx ⟨by omega, trivial⟩ (fun ε a ad hs hv w => ?_) h
      have s2 := sat_int (e2 ▸ compO_ok hi hs)
      simp [execOp, ho, hv, s2, Instr.indexAt, asIntOf, run_underlying hu, Instr.sureAddr, h1, h2, run_sizeOf ht]
    · exact h.elim
  · rename_i e hu
    split at hp <;> try (cases hp; done)
    rename_i sz ag ht
    simp only [Option.some.injEq] at hp; subst hp
    simp only [popK] at h
    split at h
    · rename_i k j e2
      have hrun : ∀ (ε : Env) (a : Act) (hs : SlotsOK ε σ a) (ad : Addr) (n c : Nat), a.eval x = .slice (some ad) n c → 0 ≤ j → j < n → ∀ w, (execOp a.eval o).run P w = .ok (.value (.pointer (some (ad.add (j.toNat * sz))))) w := by
        intro ε a hs ad n c hv h1 h2 w
        have s2 := sat_int (e2 ▸ compO_ok hi hs)
        simp [execOp, ho, hv, s2, Instr.indexAt, asIntOf, run_underlying hu, h1, h2, run_sizeOf ht]
      split at h
      · rename_i τ w' d f l e1
        obtain ⟨⟨h1, h2⟩, rfl, hK⟩ := h
        refine ⟨_, hK, fun ε a hs => ?_⟩
        obtain ⟨cs, h3, h4⟩ := e1 ▸ compO_ok hx hs
        simp only [SatC] at h3
        obtain ⟨ao, cap, e, h5, h6, h7, h8⟩ := h3
        subst e
        obtain ⟨b, off, T, fz, cur, rfl, g2, g3, g4⟩ := h8 j.toNat (by omega)
        refine ⟨_, hrun ε a hs _ _ _ h4 h1 h2, ?_⟩
        rw [Addr.add_lit]
        exact ⟨_, by simp only [SatC]; exact ⟨b, off, T, fz, cur, rfl, by omega, g2, trivial, g3, g4⟩, rfl⟩
      · rename_i v n e1
        obtain ⟨⟨h1, h2⟩, hK⟩ := h
        refine ⟨_, hK, fun ε a hs => ?_⟩
        obtain ⟨h3, h4, h5⟩ := sat_vec (e1 ▸ compO_ok hx hs)
        rcases h4 with ⟨_, h4⟩ | ⟨b, cap, h4, _⟩
        · omega
        · refine ⟨_, hrun ε a hs _ _ _ (h5.trans h4) h1 h2, ?_⟩
          rw [Addr.add_lit]
          exact ⟨_, by simp only [SatC]; exact ⟨h3, trivial, b, cap, n, h4, by omega, rfl⟩, by simp [boxed, SV.isAgg]⟩
      · exact h.elim
    · exact h.elim


theorem sound_ix {t : TypeId} {x i : Operand} {p : PIO} (ho : o.op = .index t x i) (hp : compP P o.op = some p) (h : popK σ K p) : ∃ sv, K sv ∧ PureOK P o σ sv := by
  rw [ho] at hp
  simp only [compP, bind, Option.pure_def] at hp
  obtain ⟨x', hx, hp⟩ := bind_some hp
  obtain ⟨i', hi, hp⟩ := bind_some hp
  split at hp <;> try (cases hp; done)
  · rename_i n e hu
    split at hp <;> try (cases hp; done)
    rename_i sz ag ht
    split at hp <;> try (cases hp; done)
    rename_i hn
    simp only [Option.some.injEq] at hp; subst hp
    simp only [popK] at h
    split at h
    · rename_i k j e2
      split at h
      · rename_i n' w' f e1
        obtain ⟨⟨h1, h2⟩, ⟨rfl, rfl, h3⟩, hK⟩ := h
        refine ⟨_, hK, fun ε a hs => ?_⟩
        have s2 := sat_int (e2 ▸ compO_ok hi hs)
        obtain ⟨cs, h5, h6⟩ := sat_arr (e1 ▸ compO_ok hx hs)
        simp only [SatC] at h5
        obtain ⟨h7, h8⟩ := h5
        have hj : j.toNat < n' := by omega
        have h9 := h8 j.toNat hj
        have hl := mul_le_len (w := w') hj
        refine ⟨_, fun w => ?_, isAgg_wd h9⟩
        rw [h3]
        simp only [execOp, ho, h6, s2, Instr.index, asIntOf, Sem.run_bind, Sem.run_pure, run_underlying hu, Result.andThen_ok, h1, h2, and_self, if_true, run_sizeOf ht]
        rw [run_part ht w cs _ (by omega) (fun e => by
          rcases Nat.lt_or_ge 1 w' with h | h
          · exact absurd ⟨e, by omega⟩ hn
          · rcases Nat.eq_or_lt_of_le h with h | h
            · exact h
            · exact absurd ⟨e, by omega⟩ hn)]
        rfl
      · exact h.elim
    · exact h.elim
  · rename_i hu
    simp only [Option.some.injEq] at hp; subst hp
    simp only [popK] at h
    split at h
    · rename_i k j e2
      split at h
      · rename_i s e1
        obtain ⟨⟨h1, h2⟩, hK⟩ := h
        refine ⟨_, hK, fun ε a hs => ⟨_, fun w => ?_, mk_int⟩⟩
        have s2 := sat_int (e2 ▸ compO_ok hi hs)
        have s1 := sat_str (e1 ▸ compO_ok hx hs)
        have hj : j.toNat < s.length := by omega
        have hg : (⟨s.toArray⟩ : ByteArray)[j.toNat]? = some (s.getD j.toNat 0) := by
          have hsz : j.toNat < (⟨s.toArray⟩ : ByteArray).size := by simpa [ByteArray.size] using hj
          rw [getElem?_pos (⟨s.toArray⟩ : ByteArray) j.toNat hsz]
          simp [ByteArray.getElem_eq_getElem_data, List.getD, hj]
        simp [execOp, ho, s1, s2, Instr.index, asIntOf, run_underlying hu, h1, hg]
      · exact h.elim
    · exact h.elim

theorem sound_ext {x : Operand} {k : Nat} {p : PIO} (ho : o.op = .extract x k) (hp : compP P o.op = some p) (h : popK σ K p) : ∃ sv, K sv ∧ PureOK P o σ sv := by
  rw [ho] at hp
  simp only [compP, Option.map_eq_some_iff] at hp
  obtain ⟨x', hx, rfl⟩ := hp
  simp only [popK] at h
  split at h
  · rename_i l e1
    obtain ⟨h1, hK⟩ := h
    refine ⟨_, hK, fun ε a hs => ?_⟩
    obtain ⟨vs, h2, h3⟩ := sat_tup (e1 ▸ compO_ok hx hs)
    obtain ⟨v, h4, h5⟩ := SatA.nth l k h2 h1
    exact ⟨v, fun w => by simp [execOp, ho, h3, Instr.extract, h4], h5⟩
  · exact h.elim

theorem sat_val {ε : Env} {sv : SV} {v : Value} (h : SatV ε sv v) (hv : sv.isVal = true) : ∃ cs, SatC sv ε cs ∧ v = boxed sv.isAgg cs := by
  cases sv <;> first
    | exact h
    | cases hv

theorem sat_caps {ε : Env} {a : Act} (hs : SlotsOK ε σ a) : ∀ (xs : List Operand) (ys : List Opd), xs.mapM compO = some ys →
    (ys.map (·.ev σ)).all SV.isVal = true → SatA (ys.map (·.ev σ)) ε (xs.map a.eval)
  | [], ys, h, _ => by simp at h; subst h; rfl
  | x :: xs, ys, h, h1 => by
    simp only [List.mapM_cons, bind, Option.pure_def] at h
    obtain ⟨y, hy, h⟩ := bind_some h
    obtain ⟨ys', hys, h⟩ := bind_some h
    simp only [Option.some.injEq] at h
    subst h
    simp only [List.map_cons, List.all_cons, Bool.and_eq_true] at h1
    obtain ⟨cs, h3, h4⟩ := sat_val (compO_ok hy hs) h1.1
    simp only [List.map_cons, SatA]
    exact ⟨cs, _, by rw [h4], h3, sat_caps hs xs ys' hys h1.2⟩

theorem sound_mkfn {fn : Fn} {first caps : Array Operand} {p : PIO} (ho : o.op = .makeFunc fn first caps) (hp : compP P o.op = some p) (h : popK σ K p) : ∃ sv, K sv ∧ PureOK P o σ sv := by
  rw [ho] at hp
  simp only [compP] at hp
  split at hp <;> try (cases hp; done)
  rename_i f hf
  obtain rfl : first = #[] := by simpa using hf
  simp only [Option.map_eq_some_iff] at hp
  obtain ⟨ys, hy, rfl⟩ := hp
  simp only [popK] at h
  refine ⟨_, h.2, fun ε a hs => ⟨_, fun w => by simp [execOp, ho, Instr.makeFunc]; rfl, ?_⟩⟩
  have := sat_caps hs caps.toList ys hy h.1
  refine ⟨_, by simp only [SatC]; exact ⟨_, this, rfl⟩, ?_⟩
  simp only [boxed, SV.isAgg, Bool.false_eq_true, if_false, List.headD_cons]
  congr 1
  apply Array.ext'
  simp

theorem sound_nck {x : Operand} {p : PIO} (ho : o.op = .nilCheck x) (hp : compP P o.op = some p) (h : popK σ K p) : ∃ sv, K sv ∧ PureOK P o σ sv := by
  rw [ho] at hp
  simp only [compP, Option.map_eq_some_iff] at hp
  obtain ⟨x', hx, rfl⟩ := hp
  have key : ∀ sv, x'.ev σ = sv → K sv → (∀ ε v, SatV ε sv v → (∃ ad, v = .pointer (some ad)) ∨ ∃ f c, v = .func (.func f) #[] c) → ∃ sv, K sv ∧ PureOK P o σ sv := by
    intro sv e hK hf
    refine ⟨sv, hK, fun ε a hs => ?_⟩
    have hv := e ▸ compO_ok hx hs
    refine ⟨a.eval x, fun w => ?_, hv⟩
    rcases hf ε _ hv with ⟨ad, e1⟩ | ⟨f, c, e1⟩ <;> simp [execOp, ho, e1]
  simp only [popK] at h
  split at h
  · rename_i i p o' e1
    exact key _ e1 h fun ε v hv => .inl ⟨_, (sat_ptr hv).2.2⟩
  · rename_i τ w d f l i p o' e1
    refine key _ e1 h fun ε v hv => .inl ?_
    obtain ⟨cs, h1, h2⟩ := hv
    simp only [SatC] at h1
    obtain ⟨b, of, T, fz, cur, e, _⟩ := h1
    subst e
    exact ⟨_, h2⟩
  · rename_i i j p o' e1
    refine key _ e1 h fun ε v hv => .inl ?_
    obtain ⟨_, _, b, cap, n, _, _, e⟩ := sat_vptr hv
    exact ⟨_, e⟩
  · rename_i c p o' e1
    refine key _ e1 h fun ε v hv => .inl ?_
    obtain ⟨cs, h1, h2⟩ := hv
    simp only [SatC] at h1
    obtain ⟨b, T, fz, cur, e, _⟩ := h1
    subst e
    exact ⟨_, h2⟩
  · rename_i f c e1
    refine key _ e1 h fun ε v hv => .inr ?_
    obtain ⟨vs, _, e⟩ := sat_fn hv
    exact ⟨_, _, e⟩
  · exact h.elim

theorem sound_mkif {t : TypeId} {x : Operand} {p : PIO} (ho : o.op = .makeInterface t x) (hp : compP P o.op = some p) (h : popK σ K p) : ∃ sv, K sv ∧ PureOK P o σ sv := by
  rw [ho] at hp
  simp only [compP, bind, Option.pure_def] at hp
  obtain ⟨x', hx, hp⟩ := bind_some hp
  split at hp <;> try (cases hp; done)
  rename_i h1 h2
  simp only [Option.some.injEq] at hp; subst hp
  simp only [popK] at h
  refine ⟨_, h.2, fun ε a hs => ⟨.iface t (a.eval x), fun w => ?_, ?_⟩⟩
  · cases hu : P.underlying t with
    | none => exact absurd hu h2
    | some d =>
      simp only [execOp, ho, Instr.makeInterface, Sem.run_bind, run_underlying hu, Result.andThen_ok]
      cases d <;> first
        | rfl
        | exact absurd hu (h1 _)
  · obtain ⟨cs, h3, h4⟩ := sat_val (compO_ok hx hs) h.1
    exact ⟨_, by simp only [SatC]; exact ⟨cs, h3, rfl⟩, by rw [h4]; rfl⟩

theorem sound_tas {t xt : TypeId} {x : Operand} {ok : Bool} {p : PIO} (ho : o.op = .typeAssert x xt t ok) (hp : compP P o.op = some p) (h : popK σ K p) : ∃ sv, K sv ∧ PureOK P o σ sv := by
  rw [ho] at hp
  simp only [compP, bind, Option.pure_def] at hp
  obtain ⟨x', hx, hq⟩ := bind_some hp
  clear hp
  split at hq <;> try (cases hq; done)
  rename_i h1 h2
  cases ok with
  | false => cases hq
  | true =>
  simp only [if_true] at hq
  split at hq <;> try (cases hq; done)
  rename_i z hz
  cases hq
  obtain ⟨za, i, cs, hi, hi2, hsat⟩ := zagg_ok hz
  have hrun : ∀ (a : Act) (t' : TypeId) (v : Value) w, a.eval x = .iface t' v → (execOp a.eval o).run P w = .ok (.value (if t' = t then .tuple #[v, .bool true] else .tuple #[.agg cs, .bool false])) w := by
    intro a t' v w hv
    cases hu : P.underlying t with
    | none => exact absurd hu h2
    | some d =>
      simp only [execOp, ho, Instr.typeAssert, hv, Sem.run_bind, run_underlying hu, Result.andThen_ok]
      cases d <;> first
        | exact absurd hu (h1 _)
        | (by_cases e : t' = t
           · simp [e]
           · simp [e, zeroValue, run_info hi, hi2])
  simp only [popK] at h
  split at h
  · rename_i t' y e1
    split at h
    · rename_i heq
      refine ⟨_, h, fun ε a hs => ?_⟩
      obtain ⟨xs, k1, s1⟩ := sat_iface (e1 ▸ compO_ok hx hs)
      refine ⟨_, fun w => by rw [hrun a _ _ w s1, if_pos heq], [boxed y.isAgg xs, .bool true], ?_, rfl⟩
      simp only [SatA]
      exact ⟨xs, _, rfl, k1, [.bool true], [], rfl, by simp only [SatC], rfl⟩
    · rename_i hne
      refine ⟨_, h, fun ε a hs => ?_⟩
      obtain ⟨xs, k1, s1⟩ := sat_iface (e1 ▸ compO_ok hx hs)
      refine ⟨_, fun w => by rw [hrun a _ _ w s1, if_neg hne], [.agg cs, .bool false], ?_, rfl⟩
      simp only [SatA]
      exact ⟨cs.toList, _, by rw [za]; rfl, hsat _, [.bool false], [], rfl, by simp only [SatC], rfl⟩
  · exact h.elim

theorem slLen_ok {ε : Env} {sv : SV} {v : Value} {n : Nat} (h : slLen sv = some n) (hv : SatV ε sv v) : ∃ a c, v = .slice a n c := by
  cases sv <;> simp only [slLen] at h <;> cases h
  · obtain ⟨cs, h1, h2⟩ := hv
    simp only [SatC] at h1
    obtain ⟨ao, cap, e, _⟩ := h1
    subst e
    exact ⟨_, _, h2⟩
  · obtain ⟨cs, h1, h2⟩ := hv
    simp only [SatC] at h1
    obtain ⟨ao, e, _⟩ := h1
    subst e
    exact ⟨_, _, h2⟩
  · obtain ⟨_, h1, h2⟩ := sat_vec hv
    rcases h1 with ⟨e, e2⟩ | ⟨b, cap, e, _⟩
    · subst e2; exact ⟨_, _, h2.trans e⟩
    · exact ⟨_, _, h2.trans e⟩
  · exact ⟨_, _, sat_nils hv⟩

theorem sound_b {c : Call} {p : PIO} (ho : o.op = .call c) (hp : compP P o.op = some p) (h : popK σ K p) : ∃ sv, K sv ∧ PureOK P o σ sv := by
  rw [ho] at hp
  simp only [compP, compB] at hp
  cases c with
  | mk callee args argTypes =>
  simp only at hp
  split at hp
  · rename_i x t ea et
    obtain rfl : args = #[x] := by apply Array.ext'; simpa using ea
    obtain rfl : argTypes = #[t] := by apply Array.ext'; simpa using et
    simp only [bind, Option.pure_def] at hp
    obtain ⟨x', hx, hp⟩ := bind_some hp
    have hrun : ∀ (a : Act) w, (execOp a.eval o).run P w = ((Builtin.len_ #[t] o.type #[a.eval x]).run P w).andThen fun v w => .ok (.value v) w := by
      intro a w
      simp [execOp, ho, resolve, invoke, builtin]
    split at hp <;> try (cases hp; done)
    · rename_i hu
      simp only [Option.some.injEq] at hp; subst hp
      simp only [popK] at h
      split at h
      · rename_i s e1
        refine ⟨_, h, fun ε a hs => ⟨_, fun w => ?_, mk_int⟩⟩
        have s1 := sat_str (e1 ▸ compO_ok hx hs)
        rw [hrun]
        simp only [Builtin.len_, Sem.run_bind, run_underlying hu, Result.andThen_ok, s1, List.getElem?_toArray, List.getElem?_cons_zero, Sem.run_pure, goInt]
        rfl
      · exact h.elim
    · rename_i e hu
      simp only [Option.some.injEq] at hp; subst hp
      simp only [popK] at h
      split at h
      · rename_i n hn
        refine ⟨_, h, fun ε a hs => ⟨_, fun w => ?_, mk_int⟩⟩
        obtain ⟨ad, c, e1⟩ := slLen_ok hn (compO_ok hx hs)
        rw [hrun]
        simp [Builtin.len_, run_underlying hu, e1, goInt]
      · exact h.elim
  · rename_i x y t u ea et
    obtain rfl : args = #[x, y] := by apply Array.ext'; simpa using ea
    split at hp <;> try (cases hp; done)
    simp only [bind, Option.pure_def] at hp
    obtain ⟨x', hx, hp⟩ := bind_some hp
    obtain ⟨y', hy, hp⟩ := bind_some hp
    simp only [Option.some.injEq] at hp; subst hp
    simp only [popK] at h
    split at h
    · rename_i k a' k' b' e1 e2
      obtain ⟨rfl, hK⟩ := h
      refine ⟨_, hK, fun ε a hs => ⟨_, fun w => ?_, mk_int⟩⟩
      have s1 := sat_int (e1 ▸ compO_ok hx hs)
      have s2 := sat_int (e2 ▸ compO_ok hy hs)
      simp [execOp, ho, resolve, invoke, builtin, Builtin.max_, s1, s2, Builtin.max2]
    · exact h.elim
  · rename_i x y t u ea et
    obtain rfl : args = #[x, y] := by apply Array.ext'; simpa using ea
    split at hp <;> try (cases hp; done)
    simp only [bind, Option.pure_def] at hp
    obtain ⟨x', hx, hp⟩ := bind_some hp
    obtain ⟨y', hy, hp⟩ := bind_some hp
    simp only [Option.some.injEq] at hp; subst hp
    simp only [popK] at h
    split at h
    · rename_i k a' k' b' e1 e2
      obtain ⟨rfl, hK⟩ := h
      refine ⟨_, hK, fun ε a hs => ⟨_, fun w => ?_, mk_int⟩⟩
      have s1 := sat_int (e1 ▸ compO_ok hx hs)
      have s2 := sat_int (e2 ▸ compO_ok hy hs)
      simp [execOp, ho, resolve, invoke, builtin, Builtin.min_, s1, s2, Builtin.min2]
    · exact h.elim
  · cases hp

end Go.Sx
/-! Sx, part 7: composites, cuts; and all operations that touch no memory, together. -/
set_option linter.unusedSimpArgs false
set_option linter.unusedVariables false
namespace Go.Sx
open Go

variable {P : Program} {σ : List SV} {K : SV → Prop} {o : Oper}

theorem foldl_set (off : Nat) : ∀ (xs : List Value) (k : Nat) (cs : Array Value), off + k + xs.length ≤ cs.size →
    (xs.zipIdx k).foldl (fun (cs : Array Value) x => cs.setIfInBounds (off + x.2) x.1) cs = (splice cs.toList (off + k) xs).toArray
  | [], k, cs, h => by simp [splice]
  | x :: xs, k, cs, h => by
    simp only [List.length_cons] at h
    simp only [List.zipIdx_cons, List.foldl_cons]
    rw [foldl_set off xs (k + 1) _ (by simp; omega)]
    congr 1
    apply List.ext_getElem?
    intro j
    have hlen : (cs.setIfInBounds (off + k) x).toList.length = cs.toList.length := by simp
    have h2 : cs.toList.length = cs.size := by simp
    rw [splice_get (by rw [hlen, h2]; omega), splice_get (by simp; omega)]
    simp only [Array.toList_setIfInBounds, List.getElem?_set, List.length_cons, h2]
    by_cases hj : off + (k + 1) ≤ j ∧ j < off + (k + 1) + xs.length
    · rw [if_pos hj, if_pos (by omega)]
      have : j - (off + k) = (j - (off + (k + 1))) + 1 := by omega
      rw [this, List.getElem?_cons_succ]
    · rw [if_neg hj]
      by_cases hj2 : off + k = j
      · subst hj2
        rw [if_pos rfl, if_pos (by omega), if_pos (by omega), Nat.sub_self, List.getElem?_cons_zero]
      · rw [if_neg hj2, if_neg (by omega)]

theorem zipIdx_foldl (off : Nat) (xs : List Value) (cs : Array Value) (h : off + xs.length ≤ cs.size) :
    xs.toArray.zipIdx.foldl (fun (cs : Array Value) (x : Value × Nat) => cs.setIfInBounds (off + x.2) x.1) cs = (splice cs.toList off xs).toArray := by
  have := foldl_set off xs 0 cs (by omega)
  rw [← Array.foldl_toList, Array.toList_zipIdx]
  simpa using this

theorem bld_fill (place : Nat → Option (Nat × Nat)) (f : Nat → Option (List Step × Nat × Nat)) (hf : ∀ k p o n, f k = some (p, o, n) → place k = some (o, n)) {ε : Env} {a : Act} (hs : SlotsOK ε σ a) :
    ∀ (parts : List (Nat × Operand)) (ys : List (List Step × Nat × Nat × Opd)) (z : SV) (cs : List Value), compParts f parts = some ys → SatC z ε cs → ∀ {K : SV → Prop}, bldParts σ z ys K →
      ∃ z' cs', K z' ∧ SatC z' ε cs' ∧ Instr.fill place cs.toArray (parts.map fun x => (x.1, a.eval x.2)) = some cs'.toArray
  | [], ys, z, cs, hc, hz, K, h => by
    simp only [compParts, Option.some.injEq] at hc; subst hc
    exact ⟨z, cs, h, hz, rfl⟩
  | (k, x) :: r, ys, z, cs, hc, hz, K, h => by
    simp only [compParts] at hc
    split at hc <;> try (cases hc; done)
    rename_i p o n y ys' h1 h2 h3
    simp only [Option.some.injEq] at hc; subst hc
    simp only [bldParts] at h
    obtain ⟨⟨hp, hat, hv, hn, hg⟩, h⟩ := h
    obtain ⟨xs, hx1, hx2⟩ := sat_val (compO_ok h2 hs) hv
    have hl := SatC.length _ hx1
    obtain ⟨_, g1, g2⟩ := SatC.get p z 0 o hz hp hat
    simp only [Nat.sub_zero] at g1 g2
    have hset := SatC.set p z 0 o hz hp hat hx1 (by omega)
    rw [Nat.sub_zero] at hset
    obtain ⟨z', cs', i1, i2, i3⟩ := bld_fill place f hf hs r ys' _ _ h3 hset h
    refine ⟨z', cs', i1, i2, ?_⟩
    have hcells : (a.eval x).cells = xs.toArray := by rw [hx2]; exact scalar_cells hx1
    simp only [List.map_cons, Instr.fill, hf k p o n h1, hcells]
    have hsz : xs.toArray.size = n := by simp; omega
    rw [if_neg (by simp [hsz]; omega)]
    have := zipIdx_foldl o xs cs.toArray (by simp; omega)
    simp only at this
    rw [this]
    exact i3

def bldEnd (σ : List SV) : SV → List (List Step × Nat × Nat × Opd) → SV
  | z, [] => z
  | z, (p, _, _, x) :: r => bldEnd σ (setP z p (x.ev σ)) r

theorem bldParts_end : ∀ (ys : List (List Step × Nat × Nat × Opd)) (z : SV) {K : SV → Prop}, bldParts σ z ys K → K (bldEnd σ z ys) ∧ bldParts σ z ys (fun z' => z' = bldEnd σ z ys)
  | [], z, K, h => ⟨h, rfl⟩
  | (p, o, n, x) :: r, z, K, h => by
    simp only [bldParts] at h ⊢
    obtain ⟨i1, i2⟩ := bldParts_end r _ h.2
    exact ⟨i1, h.1, i2⟩

theorem mapM_places {fs : Array Field} (hall : ∀ f ∈ fs.toList, (P.info? f.type).isSome = true) :
    fs.toList.mapM (fun f => (P.info? f.type).map fun i => (f.offset, i.size)) = some (fs.toList.map fun f => (f.offset, ((P.info? f.type).map (·.size)).getD 0)) := by
  generalize fs.toList = l at *
  induction l with
  | nil => rfl
  | cons x r ih =>
    have hx := hall x (by simp)
    have ih := ih (fun f hf => hall f (by simp [hf]))
    cases hi : P.info? x.type with
    | none => rw [hi] at hx; cases hx
    | some i => simp [List.mapM_cons, hi, ih]

theorem sound_bld {t : TypeId} {parts : Array (Nat × Operand)} {p : PIO} (ho : o.op = .build t parts) (hp : compP P o.op = some p) (h : popK σ K p) : ∃ sv, K sv ∧ PureOK P o σ sv := by
  rw [ho] at hp
  simp only [compP, compBld] at hp
  have hmap : ∀ a : Act, (parts.map fun (i, x) => (i, a.eval x)).toList = parts.toList.map fun x => (x.1, a.eval x.2) := by intro a; simp
  have hrun : ∀ (a : Act) w, (execOp a.eval o).run P w = ((Instr.build t (parts.map fun (i, x) => (i, a.eval x))).run P w).andThen fun v w => .ok (.value v) w := by
    intro a w
    simp only [execOp, ho, Sem.run_bind]
    rfl
  split at hp <;> try (cases hp; done)
  · rename_i z fs hz hu
    split at hp <;> try (cases hp; done)
    rename_i hall
    simp only [Option.map_eq_some_iff] at hp
    obtain ⟨ys, hys, rfl⟩ := hp
    simp only [popK] at h
    obtain ⟨h1, h2⟩ := bldParts_end _ _ h
    obtain ⟨i, v, hi, hv, hc⟩ := zok_ok hz
    refine ⟨_, h1.2, fun ε a hs => ?_⟩
    have hplaces := mapM_places (P := P) (fs := fs) (fun f hf => List.all_eq_true.1 hall f hf)
    obtain ⟨_, cs', rfl, g1, g2⟩ := bld_fill ((fs.toList.map fun f => (f.offset, ((P.info? f.type).map (·.size)).getD 0)).toArray[·]?) _ (fun k p o n hk => by
      unfold placeS at hk
      split at hk <;> try (cases hk; done)
      rename_i f hf
      split at hk <;> try (cases hk; done)
      rename_i i2 hi2
      simp only [Option.some.injEq, Prod.mk.injEq] at hk
      obtain ⟨_, rfl, rfl⟩ := hk
      have hf' : fs.toList[k]? = some f := by simpa using hf
      simp [hf', hi2]) hs parts.toList ys z _ hys (hc ε) h2
    have hb : P.built t (parts.map fun (i, x) => (i, a.eval x)).toList = some cs'.toArray := by
      unfold Program.built
      rw [hi, hu]
      simp only [hv, hplaces, hmap]
      simpa using g2
    refine ⟨.agg cs'.toArray, fun w => ?_, ?_⟩
    · rw [hrun, run_build w t _ _ hb]; rfl
    · have hg := satC_sat g1
      rw [h1.1] at hg
      exact hg
  · rename_i z n e hz hu
    split at hp <;> try (cases hp; done)
    rename_i i' hi'
    simp only [Option.map_eq_some_iff] at hp
    obtain ⟨ys, hys, rfl⟩ := hp
    simp only [popK] at h
    obtain ⟨h1, h2⟩ := bldParts_end _ _ h
    obtain ⟨i, v, hi, hv, hc⟩ := zok_ok hz
    refine ⟨_, h1.2, fun ε a hs => ?_⟩
    obtain ⟨_, cs', rfl, g1, g2⟩ := bld_fill (fun k => some (k * i'.size, i'.size)) _ (fun k p o n hk => by simp only [Option.some.injEq, Prod.mk.injEq] at hk ⊢; exact ⟨hk.2.1, hk.2.2⟩) hs parts.toList ys z _ hys (hc ε) h2
    have hb : P.built t (parts.map fun (i, x) => (i, a.eval x)).toList = some cs'.toArray := by
      unfold Program.built
      rw [hi, hu]
      simp only [hv, hi', hmap]
      simpa using g2
    refine ⟨.agg cs'.toArray, fun w => ?_, ?_⟩
    · rw [hrun, run_build w t _ _ hb]; rfl
    · have hg := satC_sat g1
      rw [h1.1] at hg
      exact hg

theorem bound_ok {d : Nat} {x : Option Operand} {x' : Option Opd} {K : Nat → Prop} (hx : compOO x = some x') (h : popK.bound σ d x' K) :
    ∃ l, K l ∧ (x = none → l = d) ∧ ∀ y, x = some y → ∀ ε a, SlotsOK ε σ a → ∃ k, a.eval y = .int k (l : Int) := by
  cases x with
  | none =>
    simp only [compOO, Option.some.injEq] at hx; subst hx
    exact ⟨d, h, fun _ => rfl, fun _ hy => by cases hy⟩
  | some y =>
    simp only [compOO, Option.map_eq_some_iff] at hx
    obtain ⟨y', hy, rfl⟩ := hx
    simp only [popK.bound] at h
    split at h
    · rename_i k j e
      refine ⟨j.toNat, h.2, (fun hh => by cases hh), fun y2 hy2 ε a hs => ⟨k, ?_⟩⟩
      cases hy2
      have := sat_int (e ▸ compO_ok hy hs)
      rw [this, Int.toNat_of_nonneg h.1]
    · exact h.elim

theorem run_bounds {sl : Bool} {len cap l h : Nat} {lo hi : Option Value} (hl : (lo = none ∧ l = 0) ∨ ∃ k, lo = some (.int k (l : Int))) (hh : (hi = none ∧ h = len) ∨ ∃ k, hi = some (.int k (h : Int)))
    (h1 : l ≤ h) (h2 : h ≤ cap) (w : World) : (Instr.sliceBounds sl len cap lo hi none).run P w = .ok (l, h, cap) w := by
  have e1 : ∀ k c, (Instr.sliceBound (.int k (l : Int)) h c).run P w = .ok l w := fun k c => by rw [run_sliceBound w k l h c (by omega) (by omega)]; simp
  have e2 : ∀ k c, (Instr.sliceBound (.int k (h : Int)) cap c).run P w = .ok h w := fun k c => by rw [run_sliceBound w k h cap c (by omega) (by omega)]; simp
  rcases hl with ⟨rfl, rfl⟩ | ⟨k, rfl⟩ <;> rcases hh with ⟨rfl, rfl⟩ | ⟨k', rfl⟩ <;> simp [Instr.sliceBounds, e1, e2]

theorem sound_asl {t n : Nat} {e : TypeId} {w : Nat} {ag : Bool} {x : Operand} {x' : Opd} (ho : o.op = .slice t x none none none) (hx : compO x = some x') (hu : P.underlying t = some (.array n e)) (ht : tsz P e = some (w, ag)) (h : popK σ K (.asl n w x')) : ∃ sv, K sv ∧ PureOK P o σ sv := by
  simp only [popK] at h
  split at h
  · rename_i c p off e1
    split at h
    · rename_i n' w' f e2
      obtain ⟨⟨rfl, rfl, hm, hat⟩, hK⟩ := h
      refine ⟨_, hK, fun ε a hs => ?_⟩
      obtain ⟨cs, h3, h4⟩ := e1 ▸ compO_ok hx hs
      simp only [SatC] at h3
      obtain ⟨b, T, fz, cur, rfl, g1, g2, g3⟩ := h3
      have hv : a.eval x = .pointer (some ⟨b, off, none⟩) := h4
      obtain ⟨k1, k2, k3⟩ := SatC.get p c 0 off g3 g2 hat
      rw [e2, Nat.sub_zero] at k2 k3
      simp only [SatC] at k2
      obtain ⟨q1, q2⟩ := k2
      have hwd : wd (.arr n' w' f) = n' * w' := by simp only [wd]
      rw [hwd] at q1 q2 k3
      have hb := fun w => run_bounds (P := P) (sl := false) (len := n') (cap := n') (l := 0) (h := n') (lo := none) (hi := none) (.inl ⟨rfl, rfl⟩) (.inl ⟨rfl, rfl⟩) (Nat.zero_le _) (Nat.le_refl _) w
      have hadd : (if n' = 0 then (⟨b, off, none⟩ : Addr) else (⟨b, off, none⟩ : Addr).add (0 * w')) = ⟨b, off, none⟩ := by
        split
        · rfl
        · simp [Addr.add_lit]
      refine ⟨.slice (some ⟨b, off, none⟩) n' n', fun w => ?_, ?_⟩
      · simp only [execOp, ho, Sem.run_bind, Instr.sliceAt, run_underlying hu, Result.andThen_ok, hv, Instr.sureAddr, Sem.run_pure, Option.map_none, hb, run_sizeOf ht, hadd, Nat.sub_zero]
      · refine ⟨[.slice (some ⟨b, off, none⟩) n' n'], ?_, rfl⟩
        simp only [SatC, rng_len]
        refine ⟨some ⟨b, off, none⟩, n', rfl, Nat.le_refl _, (by unfold maxLen; omega), (by simp), fun i hi => ⟨b, off, T, fz, cur, rfl, g1, ?_, ?_⟩⟩
        · have : i * w' + w' ≤ n' * w' := by rw [← Nat.succ_mul]; exact Nat.mul_le_mul_right _ hi
          have hl : cur.toList.length = cur.size := Array.length_toList
          omega
        · have hg : (rng n').getD i 0 = i := rng_at hi
          have := q2 i hi
          rw [hg]
          have e3 : sub (sub cur.toList off (n' * w')) (i * w') w' = sub cur.toList (off + i * w') w' := by
            have : i * w' + w' ≤ n' * w' := by rw [← Nat.succ_mul]; exact Nat.mul_le_mul_right _ hi
            unfold sub
            rw [List.drop_take, List.drop_drop, List.take_take]
            congr 1
            omega
          rw [e3] at this
          exact this
    · exact h.elim
  · exact h.elim

theorem sound_slice {t : TypeId} {x : Operand} {lo hi mx : Option Operand} {p : PIO} (ho : o.op = .slice t x lo hi mx) (hp : compP P o.op = some p) (h : popK σ K p) : ∃ sv, K sv ∧ PureOK P o σ sv := by
  rw [ho] at hp
  simp only [compP, bind, Option.pure_def] at hp
  obtain ⟨x', hx, hp⟩ := bind_some hp
  obtain ⟨lo', hlo, hp⟩ := bind_some hp
  obtain ⟨hi', hhi, hp⟩ := bind_some hp
  obtain ⟨mx', hmx, hp⟩ := bind_some hp
  have hrun : ∀ (a : Act) w, (∀ n e, P.underlying t ≠ some (.array n e)) → (execOp a.eval o).run P w = ((Instr.slice t (a.eval x) (lo.map a.eval) (hi.map a.eval) (mx.map a.eval)).run P w).andThen fun v w => .ok (.value v) w := by
    intro a w hna
    simp only [execOp, ho, Sem.run_bind, Instr.sliceAt]
    cases hu : P.underlying t with
    | none => simp [Instr.slice, underlying, hu]
    | some d =>
      simp only [run_underlying hu, Result.andThen_ok]
      cases d <;> first
        | rfl
        | exact absurd hu (hna _ _)
  split at hp <;> try (cases hp; done)
  · rename_i hu
    split at hp <;> try (cases hp; done)
    simp only [Option.some.injEq] at hp; subst hp
    have hmx0 : mx = none := by cases mx <;> simp [compOO] at hmx <;> rfl
    subst hmx0
    simp only [popK] at h
    split at h
    · rename_i s e1
      obtain ⟨l, h, hl1, hl2⟩ := bound_ok hlo h
      obtain ⟨hh, ⟨⟨h1, h2⟩, hK⟩, hh1, hh2⟩ := bound_ok hhi h
      refine ⟨_, hK, fun ε a hs => ⟨_, fun w => ?_, mk_str⟩⟩
      have s1 := sat_str (e1 ▸ compO_ok hx hs)
      have hb := run_bounds (P := P) (sl := false) (len := s.length) (cap := s.length) (l := l) (h := hh) (lo := lo.map a.eval) (hi := hi.map a.eval)
        (by cases lo with
          | none => exact .inl ⟨rfl, hl1 rfl⟩
          | some y => obtain ⟨k, hk⟩ := hl2 y rfl ε a hs; exact .inr ⟨k, by simp [hk]⟩)
        (by cases hi with
          | none => exact .inl ⟨rfl, hh1 rfl⟩
          | some y => obtain ⟨k, hk⟩ := hh2 y rfl ε a hs; exact .inr ⟨k, by simp [hk]⟩) h1 h2 w
      rw [hrun a w (fun n e he => by rw [hu] at he; cases he)]
      have hsz : (⟨s.toArray⟩ : ByteArray).size = s.length := by simp [ByteArray.size]
      simp only [Instr.slice, Sem.run_bind, run_underlying hu, Result.andThen_ok, s1, hsz, Option.map_none, Option.isSome_none, Bool.false_eq_true, if_false, hb, Sem.run_pure]
      congr 2
      congr 1
      apply ByteArray.ext
      apply Array.ext'
      simp [ByteArray.data_extract, List.extract_eq_take_drop, List.drop_take]
    · exact h.elim
  · rename_i e hu
    split at hp <;> try (cases hp; done)
    rename_i n ag ht
    simp only [Option.some.injEq] at hp; subst hp
    cases mx with
    | some ym =>
      simp only [compOO, Option.map_eq_some_iff] at hmx
      obtain ⟨y', hy', rfl⟩ := hmx
      simp only [popK] at h
      split at h
      · rename_i e0 _; cases e0
      · rename_i c τ w' d f l0 e0 e1
        cases e0
        obtain ⟨⟨rfl, hsome⟩, h⟩ := h
        obtain ⟨l, h, hl1, hl2⟩ := bound_ok hlo h
        obtain ⟨hh, h, hh1, hh2⟩ := bound_ok hhi h
        obtain ⟨mm, ⟨⟨h1, h2, h2'⟩, hK⟩, _, hm2⟩ := bound_ok (x := some ym) (x' := some y') (by simp [compOO, hy']) h
        subst h2
        cases hi with
        | none => simp only [compOO, Option.some.injEq] at hhi; subst hhi; cases hsome
        | some yh =>
        refine ⟨_, hK, fun ε a hs => ?_⟩
        obtain ⟨cs, h3, h4⟩ := e1 ▸ compO_ok hx hs
        simp only [SatC] at h3
        obtain ⟨ao, cap, rfl, h5, h6, h7, h8⟩ := h3
        have hv : a.eval x = .slice ao l0.length cap := h4
        obtain ⟨km, hkm⟩ := hm2 ym rfl ε a hs
        obtain ⟨kh, hkh⟩ := hh2 yh rfl ε a hs
        have hb : ∀ w, (Instr.sliceBounds true l0.length cap (lo.map a.eval) (some (.int kh (hh : Int))) (some (.int km (hh : Int)))).run P w = .ok (l, hh, hh) w := by
          intro w
          have e1 : ∀ c, (Instr.sliceBound (.int km (hh : Int)) cap c).run P w = .ok hh w := fun c => by rw [run_sliceBound w km hh cap c (by omega) (by omega)]; simp
          have e2 : ∀ c, (Instr.sliceBound (.int kh (hh : Int)) hh c).run P w = .ok hh w := fun c => by rw [run_sliceBound w kh hh hh c (by omega) (by omega)]; simp
          cases lo with
          | none =>
            have := hl1 rfl; subst this
            simp [Instr.sliceBounds, e1, e2]
          | some yl =>
            obtain ⟨k, hk⟩ := hl2 yl rfl ε a hs
            have e3 : ∀ c, (Instr.sliceBound (.int k (l : Int)) hh c).run P w = .ok l w := fun c => by rw [run_sliceBound w k l hh c (by omega) (by omega)]; simp
            simp [Instr.sliceBounds, e1, e2, e3, hk]
        refine ⟨.slice (if hh = l then ao else ao.map (·.add (l * w'))) (hh - l) (hh - l), fun w => ?_, ?_⟩
        · rw [hrun a w (fun n e he => by rw [hu] at he; cases he)]
          simp only [Instr.slice, Sem.run_bind, run_underlying hu, Result.andThen_ok, hv, Option.map_some, hkm, hkh, hb, run_sizeOf ht, Sem.run_pure]
        · have hlen : ((l0.take hh).drop l).length = hh - l := by simp; omega
          refine ⟨[.slice (if hh = l then ao else ao.map (·.add (l * w'))) (hh - l) (hh - l)], ?_, rfl⟩
          simp only [SatC]
          refine ⟨if hh = l then ao else ao.map (·.add (l * w')), by rw [hlen], by rw [hlen]; omega, fun hn => ?_, fun i hi' => ?_⟩
          · rw [hlen]
            split at hn
            · omega
            · rw [Option.map_eq_none_iff] at hn; have := h7 hn; omega
          · rw [hlen] at hi'
            obtain ⟨b, off, T, fz, cur, rfl, g2, g3, g4⟩ := h8 (l + i) (by omega)
            refine ⟨b, off + l * w', T, fz, cur, ?_, g2, ?_, ?_⟩
            · rw [if_neg (by omega)]; simp [Addr.add_lit]
            · rw [show off + l * w' + i * w' = off + (l + i) * w' by rw [Nat.add_mul]; omega]; exact g3
            · rw [show off + l * w' + i * w' = off + (l + i) * w' by rw [Nat.add_mul]; omega]
              have : ((l0.take hh).drop l).getD i d = l0.getD (l + i) d := by
                simp only [List.getD_eq_getElem?_getD, List.getElem?_drop]
                rw [List.getElem?_take_of_lt (by omega)]
              rw [this]
              exact g4
      · rename_i e0 _; cases e0
      · exact h.elim
    | none =>
    have hmx0 : mx' = none := by simp only [compOO, Option.some.injEq] at hmx; exact hmx.symm
    subst hmx0
    simp only [popK] at h
    split at h
    · rename_i τ w' d f l0 _ e1
      obtain ⟨rfl, h⟩ := h
      obtain ⟨l, h, hl1, hl2⟩ := bound_ok hlo h
      obtain ⟨hh, ⟨⟨h1, h2⟩, hK⟩, hh1, hh2⟩ := bound_ok hhi h
      refine ⟨_, hK, fun ε a hs => ?_⟩
      obtain ⟨cs, h3, h4⟩ := e1 ▸ compO_ok hx hs
      simp only [SatC] at h3
      obtain ⟨ao, cap, rfl, h5, h6, h7, h8⟩ := h3
      have hv : a.eval x = .slice ao l0.length cap := h4
      have hb := fun w => run_bounds (P := P) (sl := true) (len := l0.length) (cap := cap) (l := l) (h := hh) (lo := lo.map a.eval) (hi := hi.map a.eval)
        (by cases lo with
          | none => exact .inl ⟨rfl, hl1 rfl⟩
          | some y => obtain ⟨k, hk⟩ := hl2 y rfl ε a hs; exact .inr ⟨k, by simp [hk]⟩)
        (by cases hi with
          | none => exact .inl ⟨rfl, hh1 rfl⟩
          | some y => obtain ⟨k, hk⟩ := hh2 y rfl ε a hs; exact .inr ⟨k, by simp [hk]⟩) h1 (Nat.le_trans h2 h5) w
      refine ⟨.slice (if cap = l then ao else ao.map (·.add (l * w'))) (hh - l) (cap - l), fun w => ?_, ?_⟩
      · rw [hrun a w (fun n e he => by rw [hu] at he; cases he)]
        simp only [Instr.slice, Sem.run_bind, run_underlying hu, Result.andThen_ok, hv, Option.map_none, hb, run_sizeOf ht, Sem.run_pure]
      · refine ⟨[.slice (if cap = l then ao else ao.map (·.add (l * w'))) (hh - l) (cap - l)], ?_, rfl⟩
        simp only [SatC]
        have hlen : ((l0.take hh).drop l).length = hh - l := by simp; omega
        refine ⟨if cap = l then ao else ao.map (·.add (l * w')), cap - l, by rw [hlen], by rw [hlen]; omega, by omega, fun hn => ?_, fun i hi' => ?_⟩
        · split at hn
          · omega
          · rw [Option.map_eq_none_iff] at hn; have := h7 hn; omega
        · rw [hlen] at hi'
          obtain ⟨b, off, T, fz, cur, rfl, g2, g3, g4⟩ := h8 (l + i) (by omega)
          refine ⟨b, off + l * w', T, fz, cur, ?_, g2, ?_, ?_⟩
          · rw [if_neg (by omega)]; simp [Addr.add_lit]
          · rw [show off + l * w' + i * w' = off + (l + i) * w' by rw [Nat.add_mul]; omega]; exact g3
          · rw [show off + l * w' + i * w' = off + (l + i) * w' by rw [Nat.add_mul]; omega]
            have : ((l0.take hh).drop l).getD i d = l0.getD (l + i) d := by
              simp only [List.getD_eq_getElem?_getD, List.getElem?_drop]
              rw [List.getElem?_take_of_lt (by omega)]
            rw [this]
            exact g4
    · rename_i e0 _; cases e0
    · rename_i i n0 _ e1
      obtain ⟨l, h, hl1, hl2⟩ := bound_ok hlo h
      obtain ⟨hh, ⟨⟨h1, h2⟩, hK⟩, hh1, hh2⟩ := bound_ok hhi h
      subst h1
      refine ⟨_, hK, fun ε a hs => ?_⟩
      obtain ⟨hi3, hi4, hi5⟩ := sat_vec (e1 ▸ compO_ok hx hs)
      obtain ⟨ao, cap, hvv, hnc, hao⟩ : ∃ ao cap, ε.vv i = .slice ao n0 cap ∧ n0 ≤ cap ∧ ao.map (·.add (0 * n)) = ao := by
        rcases hi4 with ⟨q1, q2⟩ | ⟨b, cap, q, q2⟩
        · exact ⟨none, 0, by rw [q1, q2], by omega, rfl⟩
        · exact ⟨_, _, q, q2, by simp [Addr.add_lit]⟩
      have hv : a.eval x = .slice ao n0 cap := by rw [hi5, hvv]
      have hb := fun w => run_bounds (P := P) (sl := true) (len := n0) (cap := cap) (l := 0) (h := hh) (lo := lo.map a.eval) (hi := hi.map a.eval)
        (by cases lo with
          | none => exact .inl ⟨rfl, hl1 rfl⟩
          | some y => obtain ⟨k, hk⟩ := hl2 y rfl ε a hs; exact .inr ⟨k, by simp [hk]⟩)
        (by cases hi with
          | none => exact .inl ⟨rfl, hh1 rfl⟩
          | some y => obtain ⟨k, hk⟩ := hh2 y rfl ε a hs; exact .inr ⟨k, by simp [hk]⟩) (Nat.zero_le _) (Nat.le_trans h2 hnc) w
      have hadd : (if cap = 0 then ao else ao.map (·.add (0 * n))) = ao := by
        split
        · rfl
        · exact hao
      refine ⟨.slice ao hh cap, fun w => ?_, ?_⟩
      · rw [hrun a w (fun n e he => by rw [hu] at he; cases he)]
        simp only [Instr.slice, Sem.run_bind, run_underlying hu, Result.andThen_ok, hv, Option.map_none, hb, run_sizeOf ht, Sem.run_pure, Nat.sub_zero, hadd]
      · exact ⟨[.slice ao hh cap], by simp only [SatC]; exact ⟨hi3, ao, n0, cap, hvv, h2, rfl⟩, rfl⟩
    · exact h.elim
  · rename_i n e hu
    split at hp <;> try (cases hp; done)
    split at hp <;> try (cases hp; done)
    rename_i w ag ht
    simp only [Option.some.injEq] at hp; subst hp
    have l0 : lo = none := by cases lo <;> simp [compOO] at hlo <;> rfl
    have h0 : hi = none := by cases hi <;> simp [compOO] at hhi <;> rfl
    have m0 : mx = none := by cases mx <;> simp [compOO] at hmx <;> rfl
    subst l0; subst h0; subst m0
    exact sound_asl ho hx hu ht h

theorem popK_sound {p : PIO} (hp : compP P o.op = some p) (h : popK σ K p) : ∃ sv, K sv ∧ PureOK P o σ sv := by
  cases ho : o.op with
  | move x =>
    rw [ho] at hp
    simp only [compP, Option.map_eq_some_iff] at hp
    obtain ⟨y, hy, rfl⟩ := hp
    exact sound_mv (.inl ho) hy h
  | assign x =>
    rw [ho] at hp
    simp only [compP, Option.map_eq_some_iff] at hp
    obtain ⟨y, hy, rfl⟩ := hp
    exact sound_mv (.inr ho) hy h
  | pick c x y =>
    rw [ho] at hp
    simp only [compP, bind, Option.pure_def] at hp
    obtain ⟨c', hc, hp⟩ := bind_some hp
    obtain ⟨x', hx, hp⟩ := bind_some hp
    obtain ⟨y', hy, hp⟩ := bind_some hp
    simp only [Option.some.injEq] at hp; subst hp
    exact sound_pick ho hc hx hy h
  | binOp op t x y yt => exact sound_bin ho hp h
  | unOp op t x => exact sound_un ho hp h
  | convert s d x => exact sound_conv ho hp h
  | fieldAddr s x k => exact sound_fa ho hp h
  | field s x k => exact sound_fld ho hp h
  | indexAddr t x i => exact sound_ia ho hp h
  | index t x i => exact sound_ix ho hp h
  | extract x k => exact sound_ext ho hp h
  | makeFunc f a b => exact sound_mkfn ho hp h
  | nilCheck x => exact sound_nck ho hp h
  | makeInterface t x => exact sound_mkif ho hp h
  | typeAssert x xt t ok => exact sound_tas ho hp h
  | call c => exact sound_b ho hp h
  | build t parts => exact sound_bld ho hp h
  | slice t x lo hi mx => exact sound_slice ho hp h
  | _ => rw [ho] at hp; simp only [compP] at hp; cases hp

end Go.Sx
/-! Sx, part 8: reading and writing memory. -/
set_option linter.unusedSimpArgs false
set_option linter.unusedVariables false
namespace Go.Sx
open Go

variable {P : Program}

theorem run_loadVar {t : TypeId} {n : Nat} {ag : Bool} (ht : tsz P t = some (n, ag)) (h1 : ag = false → n = 1) (w : World) {b off : Nat} {cur : Array Value} {T : TypeId} {fz : Nat × Nat}
    (hb : w.heap[b]? = some (.cells cur T fz)) (hl : off + n ≤ cur.size) : (loadVar t ⟨b, off, none⟩).run P w = .ok (boxed ag (sub cur.toList off n)) w := by
  have hcell : ∀ j, j < cur.size → w.cell? ⟨b, j, none⟩ = some (cur.getD j undef) := by
    intro j hj
    simp [World.cell?, hb, Array.getD, hj]
  simp only [loadVar, Sem.run_bind, run_isAgg ht, Result.andThen_ok]
  cases ag with
  | true =>
    simp only [if_true, Sem.run_bind, run_sizeOf ht, Result.andThen_ok]
    rw [run_loadCells (P := P) w ⟨b, off, none⟩ n (fun j => cur.getD (off + j) undef) (fun j hj => by rw [Addr.add_lit]; exact hcell _ (by omega))]
    simp only [Result.andThen_ok, Sem.run_pure, boxed, if_true]
    congr 3
    apply List.ext_getElem?
    intro j
    rw [sub_get]
    by_cases hj : j < n
    · rw [if_pos hj]
      have : off + j < cur.size := by omega
      simp [hj, Array.getD, this]
    · rw [if_neg hj]
      simp [hj]
  | false =>
    have := h1 rfl
    subst this
    have hlt : off < cur.size := by omega
    simp only [Bool.false_eq_true, if_false, run_load, hcell off hlt, boxed]
    congr 1
    simp [sub, List.headD_eq_head?_getD, List.head?_take, List.head?_drop, Array.getD, hlt]

theorem run_storeVar {t : TypeId} {n : Nat} {ag : Bool} (ht : tsz P t = some (n, ag)) (w : World) {b off : Nat} {cur : List Value} {T : TypeId} {v : Value} {xs : List Value}
    (hb : w.heap[b]? = some (.cells cur.toArray T (0, 0))) (hv : v.cells = xs.toArray) (hn : xs.length = n) (hl : off + n ≤ cur.length) (h1 : ∀ u ∈ xs, u.oneCell' = true) :
    (storeVar t ⟨b, off, none⟩ v).run P w = .ok () (w.setRow b (splice cur off xs).toArray) := by
  have hst := run_storeCells_at P b off T xs 0 cur.toArray w hb (by simp; omega) h1
  simp only [Nat.add_zero] at hst
  simp only [storeVar, Sem.run_bind, run_sizeOf ht, Result.andThen_ok, hv]
  rw [if_neg (by simp; omega)]
  rw [hst]
  rfl

def tabF : List (TypeId × FuncId) → TypeId → Option FuncId
  | [], _ => none
  | (u, f) :: r, t => if u = t then some f else tabF r t
inductive EIO : Type 1 where
  | alloc (T : TypeId) (z : SV)
  | box (T : TypeId) (x : Opd)
  | load (n : Nat) (ag : Bool) (x : Opd)
  | store (n : Nat) (x v : Opd)
  | bsl (E : TypeId) (w len : Nat) (z : SV) (parts : List (Nat × Opd))
  | mks (E : TypeId) (w bytes : Nat) (z : SV) (len cap : Opd)
  | app (E : TypeId) (w bytes : Nat) (s x : Opd)
  | call (f : FuncId) (args : List Opd)
  | qcall (f : FuncId) (args : List Opd)
  | qtab (l : List Int)
  | qbsl (E : TypeId) (w len : Nat) (z : SV) (parts : List (Nat × Opd))
  | again (n : Nat) (ag : Bool) (x : Opd) (d : Nat)
  | magain (k : MK) (args : List Opd) (d : Nat)
  | callv (x : Opd) (args : List Opd)
  | icall (tab : List (TypeId × FuncId)) (x : Opd) (args : List Opd)
  | mop (k : MK) (args : List Opd)

def SV.isSet : SV → Bool
  | .junk => false
  | _ => true
abbrev Hook := FuncId → List SV → List Res → (SV → List Res → Prop) → Prop

def peek (m : List Res) (n : Nat) (ag : Bool) (K : SV → Prop) : SV → Prop
  | .ptr i p o => match memAt m i with
    | .blk _ c => (atP c p 0 o ∧ wd (getP c p) = n ∧ (getP c p).isAgg = ag) ∧ K (getP c p)
    | _ => False
  | .eptr _ d f l i p o => (atP (f (l.getD i d)) p 0 o ∧ wd (getP (f (l.getD i d)) p) = n ∧ (getP (f (l.getD i d)) p).isAgg = ag) ∧ K (getP (f (l.getD i d)) p)
  | .vptr i j p o => match memAt m i with
    | .vec _ w l => (j < l.length ∧ atP (l.getD j .junk) p (j * w) o ∧ wd (getP (l.getD j .junk) p) = n ∧ (getP (l.getD j .junk) p).isAgg = ag) ∧ K (getP (l.getD j .junk) p)
    | _ => False
  | .ref c p o => (atP c p 0 o ∧ wd (getP c p) = n ∧ (getP c p).isAgg = ag) ∧ K (getP c p)
  | _ => False

def srcL (m : List Res) (w : Nat) : SV → Option (List SV)
  | .vec j _ => match memAt m j with
    | .vec _ w' l => if w' = w then some l else none
    | _ => none
  | .lst w' _ f l => if w' = w then some (l.map f) else none
  | .lit w' _ f l => if w' = w then some (l.map f) else none
  | .nils => some []
  | _ => none
def qres (w len : Nat) (l : List SV) : SV := if len = 1 then .lit w (0 : Nat) (fun i => l.getD i .junk) (List.range len) else .lst w (0 : Nat) (fun i => l.getD i .junk) (List.range len)
theorem lit_lst {τ : Type} {w : Nat} {d : τ} {f : τ → SV} {l : List τ} {ε : Env} {v : Value} (h : SatV ε (.lit w d f l) v) : SatV ε (.lst w d f l) v ∧ ∃ ao, v = .slice ao l.length l.length ∧ (ao = none → l.length = 0) := by
  obtain ⟨cs, h1, h2⟩ := h
  simp only [SatC] at h1
  obtain ⟨ao, rfl, k1, k2, k3⟩ := h1
  have hv : v = .slice ao l.length l.length := h2
  exact ⟨⟨_, by simp only [SatC]; exact ⟨ao, l.length, rfl, Nat.le_refl _, k1, k2, k3⟩, h2⟩, ao, hv, k2⟩
theorem qres_sat {ε : Env} {w len : Nat} {l : List SV} {v : Value} (h : SatV ε (.lit w (0 : Nat) (fun i => l.getD i .junk) (List.range len)) v) : SatV ε (qres w len l) v := by
  unfold qres
  split
  · exact h
  · exact (lit_lst h).1

def bytesOf : List SV → Option (List UInt8)
  | [] => some []
  | .int .u8 n :: r => (bytesOf r).map fun l => UInt8.ofNat n.toNat :: l
  | _ => none
def mopK (m : List Res) (k : MK) (xs : List SV) (K : SV → List Res → Prop) : Prop := match k with
  | .make ek ev => match xs with
    | [] => K (.map m.length) (m ++ [.mp ek ev []])
    | [.int _ _] => K (.map m.length) (m ++ [.mp ek ev []])
    | _ => False
  | .put ek ev => match xs with
    | [.map i, key, v] => match memAt m i with
      | .mp ek' ev' l => (ek' = ek ∧ ev' = ev ∧ esP ek key ∧ esP ev v) ∧ K .junk (m.set i (.mp ek ev (mpPut ek key v l)))
      | _ => False
    | _ => False
  | .get ek ev z ok => match xs with
    | [.map i, key] => match memAt m i with
      | .mp ek' ev' l => (ek' = ek ∧ ev' = ev ∧ esP ek key) ∧ K (if ok then .tup [mpRes ev z (mpFind ek key l), .bool (mpFind ek key l).isSome] else mpRes ev z (mpFind ek key l)) m
      | _ => False
    | _ => False
  | .strb => match xs with
    | [x] => match srcL m 1 x with
      | some l => match bytesOf l with
        | some bs => K (.str bs) m
        | none => False
      | none => False
    | _ => False
  | .bstr => match xs with
    | [.str s] => s.length ≤ 140737488355328 ∧ K (.lst 1 (0 : UInt8) (fun b => SV.int .u8 (b.toNat : Int)) s) m
    | _ => False
  | .mlen => match xs with
    | [.map i] => match memAt m i with
      | .mp _ _ l => K (.int .i64 l.length) m
      | _ => False
    | _ => False

def poke (m : List Res) (n : Nat) (v : SV) (K : List Res → Prop) : SV → Prop
  | .ptr i p o => match memAt m i with
    | .blk T c => (atP c p 0 o ∧ wd (getP c p) = n ∧ wd v = n ∧ v.isVal = true) ∧ K (m.set i (.blk T (setP c p v)))
    | _ => False
  | .vptr i j p o => match memAt m i with
    | .vec T w l => (j < l.length ∧ atP (l.getD j .junk) p (j * w) o ∧ wd (getP (l.getD j .junk) p) = n ∧ wd v = n ∧ v.isVal = true) ∧ K (m.set i (.vec T w (l.set j (setP (l.getD j .junk) p v))))
    | _ => False
  | _ => False

theorem Env.cl_le (ε : Env) : ε.cl.Le ε :=
  { n := Nat.zero_le _, blk := fun _ hi => absurd hi (Nat.not_lt_zero _), vv := fun _ hi => absurd hi (Nat.not_lt_zero _), H := fun _ _ h => h }

theorem one_of_scalar {c : SV} {n : Nat} {ag : Bool} (h1 : wd c = n) (h2 : c.isAgg = ag) : ag = false → n = 1 := by
  intro h; subst h2; rw [← h1]; exact wd_scalar h

theorem peek_ok {m : List Res} {n : Nat} {ag : Bool} {K : SV → Prop} {x : SV} (h : peek m n ag K x) :
    ∃ c, K c ∧ c.isAgg = ag ∧ (ag = false → n = 1) ∧ ∀ ε w v, Good ε m w → SatV ε x v →
      ∃ b off cur T fz, v = .pointer (some ⟨b, off, none⟩) ∧ w.heap[b]? = some (.cells cur T fz) ∧ off + n ≤ cur.size ∧ SatC c ε (sub cur.toList off n) := by
  unfold peek at h
  split at h
  · rename_i i p o
    split at h
    · rename_i T c hm
      obtain ⟨⟨h1, h2, h3⟩, hK⟩ := h
      refine ⟨_, hK, h3, one_of_scalar h2 h3, fun ε w v hg hx => ?_⟩
      obtain ⟨hi, hp, rfl⟩ := sat_ptr hx
      obtain ⟨cs, hb, hc⟩ : ResOK ε i w (.blk T c) := hm ▸ hg.res i
      obtain ⟨g1, g2, g3⟩ := SatC.get p c 0 o hc hp h1
      rw [Nat.sub_zero, h2] at g2 g3
      exact ⟨_, o, _, T, _, rfl, hb, by simpa using g3, by simpa using g2⟩
    · exact h.elim
  · rename_i τ w' d f l i p o
    obtain ⟨⟨h1, h2, h3⟩, hK⟩ := h
    refine ⟨_, hK, h3, one_of_scalar h2 h3, fun ε w v hg hx => ?_⟩
    obtain ⟨cs, h4, h5⟩ := hx
    simp only [SatC] at h4
    obtain ⟨b, off, T, fz, cur, rfl, g1, g2, g3, g4, g5⟩ := h4
    obtain ⟨i1, i2, i3⟩ := SatC.get p _ 0 o g5 g3 h1
    rw [Nat.sub_zero, h2] at i2 i3
    have hsl : (sub cur.toList (off + i * w') w').length = w' := sub_length (by simpa using g4)
    rw [hsl] at i3
    rw [sub_sub i3] at i2
    refine ⟨b, off + i * w' + o, cur, T, fz, h5, hg.hv b _ g2, ?_, i2.mono _ (Env.cl_le ε)⟩
    omega
  · rename_i i j p o
    split at h
    · rename_i T w' l hm
      obtain ⟨⟨hj, h1, h2, h3⟩, hK⟩ := h
      refine ⟨_, hK, h3, one_of_scalar h2 h3, fun ε w v hg hx => ?_⟩
      obtain ⟨hi, hp, b, cap, n', e1, e2, rfl⟩ := sat_vptr hx
      obtain ⟨xs, hown, hel⟩ : ResOK ε i w (.vec T w' l) := hm ▸ hg.res i
      rw [e1] at hown
      obtain ⟨ol, ho⟩ := hown
      rcases ho with ⟨ho, _⟩ | ⟨g, cap', cur, ho, _, hh, hle, _, hsz, htk⟩
      · cases ho
      · simp only [Value.slice.injEq, Option.some.injEq, Addr.mk.injEq] at ho
        obtain ⟨⟨rfl, _, _⟩, rfl, rfl⟩ := ho
        have hs := hel j hj
        have hjl := mul_le_len (w := w') hj
        obtain ⟨i1, i2, i3⟩ := SatC.get p _ (j * w') o hs hp h1
        rw [h2] at i2 i3
        have hlen : (sub xs (j * w') w').length = w' := sub_length (by omega)
        rw [hlen] at i3
        rw [sub_sub i3, show j * w' + (o - j * w') = o by omega] at i2
        have hle' : l.length * w' ≤ cap * w' := Nat.mul_le_mul_right _ hle
        refine ⟨b, o, cur, T, _, rfl, hh, by omega, ?_⟩
        have : sub cur.toList o n = sub xs o n := by
          rw [← htk]
          simp only [sub, List.drop_take, List.take_take]
          rw [Nat.min_eq_left (by omega)]
        rw [this]
        exact i2
    · exact h.elim
  · rename_i c p o
    obtain ⟨⟨h1, h2, h3⟩, hK⟩ := h
    refine ⟨_, hK, h3, one_of_scalar h2 h3, fun ε w v hg hx => ?_⟩
    obtain ⟨cs, h4, h5⟩ := hx
    simp only [SatC] at h4
    obtain ⟨b, T, fz, cur, rfl, g2, g3, g5⟩ := h4
    obtain ⟨i1, i2, i3⟩ := SatC.get p _ 0 o g5 g3 h1
    rw [Nat.sub_zero, h2] at i2 i3
    exact ⟨b, o, cur, T, fz, h5, hg.hv b _ g2, by simpa using i3, i2.mono _ (Env.cl_le ε)⟩
  · exact h.elim

def EStep (P : Program) (o : Oper) (σ : List SV) (m : List Res) (σ' : List SV) (sv : SV) (m' : List Res) : Prop :=
  ∀ β ε a w, Inv β ε m w → SlotsOK ε σ a → ∀ Q, o.wp P a w (fun a' w' => ∃ v ε', a' = a.put o.dst v ∧ SatV ε' sv v ∧ SlotsOK ε' σ' a ∧ Inv β ε' m' w') Q

def EStepL (P : Program) (o : Oper) (σ : List SV) (m : List Res) (sv : SV) (m' : List Res) : Prop :=
  ∀ β ε a w, Inv β ε m w → SlotsOK ε σ a → ∀ Q, o.wp P a w (fun a' w' => ∃ v ε', a' = a.put o.dst v ∧ SatV ε' sv v ∧ ε.Le ε' ∧ Inv β ε' m' w') Q

theorem SlotsOK.mono {ε ε' : Env} {σ : List SV} {a : Act} (hl : ε.Le ε') (h : SlotsOK ε σ a) : SlotsOK ε' σ a := ⟨h.1, fun k => (h.2 k).mono hl⟩

theorem Oper.upon_mono {o : Oper} {a : Act} {K K' : Act → World → Prop} {Q : Exit → Act → World → Prop} {r : Result Next} (h : ∀ a w, K a w → K' a w) (hh : o.upon P a K Q r) : o.upon P a K' Q r := by
  cases r with
  | ok n w =>
    cases n <;> simp only [Oper.upon] at hh ⊢ <;> first
      | exact h _ _ hh
      | exact hh
      | (refine hh.mono fun e w' hr => ?_; cases e <;> first | exact h _ _ hr | exact hr)
      | (refine hh.mono fun v w' hr => h _ _ hr)
  | halt x w => cases x <;> simp only [Oper.upon] at hh ⊢ <;> exact hh

theorem Oper.wp_mono {o : Oper} {a : Act} {w : World} {K K' : Act → World → Prop} {Q : Exit → Act → World → Prop} (h : ∀ a w, K a w → K' a w) (hh : o.wp P a w K Q) : o.wp P a w K' Q := Oper.upon_mono h hh

theorem EStepL.step {o : Oper} {σ : List SV} {m m' : List Res} {sv : SV} (h : EStepL P o σ m sv m') : EStep P o σ m σ sv m' :=
  fun β ε a w hi hs Q => Oper.wp_mono (fun _ _ ⟨v, ε', h1, h2, h3, h4⟩ => ⟨v, ε', h1, h2, hs.mono h3, h4⟩) (h β ε a w hi hs Q)

theorem estep_load {T : TypeId} {x : Operand} {x' : Opd} {n : Nat} {ag : Bool} {o : Oper} {σ : List SV} {m : List Res} {K : SV → Prop} (ho : o.op = .load T x) (hx : compO x = some x') (ht : tsz P T = some (n, ag))
    (h : peek m n ag K (x'.ev σ)) : ∃ sv, K sv ∧ EStepL P o σ m sv m := by
  obtain ⟨c, hK, hag, hone, hh⟩ := peek_ok h
  refine ⟨c, hK, fun β ε a w hi hs Q => ?_⟩
  obtain ⟨b, off, cur, T', fz, e1, e2, e3, e4⟩ := hh ε w _ hi.good (compO_ok hx hs)
  have hr : (execOp a.eval o).run P w = .ok (.value (boxed ag (sub cur.toList off n))) w := by
    simp only [execOp, ho, Sem.run_bind, Instr.loadAt, Instr.sureAddr, e1, Sem.run_pure, Result.andThen_ok, run_loadVar ht hone w e2 e3]
  unfold Oper.wp
  rw [hr, Oper.upon_value]
  exact ⟨_, ε, rfl, hag ▸ satC_sat e4, Env.Le.refl ε, hi⟩

theorem Inv.setVec {β : Base} {ε : Env} {m : List Res} {w : World} (h : Inv β ε m w) {i : Nat} {T : TypeId} {wd' : Nat} {l l' : List SV} {g cap : Nat} {cur cs' : List Value}
    (hm : memAt m i = .vec T wd' l) (hv : ε.vv i = .slice (some ⟨g, 0, none⟩) l.length cap) (hcur : w.heap[g]? = some (.cells cur.toArray T (0, 0))) (hle : l.length ≤ cap) (hcap : cap ≤ maxLen)
    (hcl : cur.length = cap * wd') (hlen : l'.length = l.length) (hcl' : cs'.length = cur.length)
    (hel : ∀ j, j < l'.length → SatC (l'.getD j .junk) ε (sub cs' (j * wd') wd')) :
    Inv β ε (m.set i (.vec T wd' l')) (w.setRow g cs'.toArray) := by
  have hi : i < m.length := by
    rcases Nat.lt_or_ge i m.length with hi | hi
    · exact hi
    · rw [memAt_ge hi] at hm; cases hm
  have hat : ∀ j, memAt (m.set i (.vec T wd' l')) j = if j = i then .vec T wd' l' else memAt m j := by
    intro j
    unfold memAt
    rw [List.getD, List.getElem?_set]
    by_cases hj : i = j
    · subst hj; simp [hi]
    · rw [if_neg hj, if_neg (fun e => hj e.symm)]; rfl
  have hown : ∀ j, ownR ε j (memAt (m.set i (.vec T wd' l')) j) = ownR ε j (memAt m j) := by
    intro j
    rw [hat]
    by_cases hj : j = i
    · subst hj; rw [if_pos rfl, hm]; rfl
    · rw [if_neg hj]
  have hoi : ownR ε i (memAt m i) = some g := by rw [hm]; simp [ownR, hv, Value.ownBlock]
  have hoth : ∀ b, b ≠ g → (w.setRow g cs'.toArray).heap[b]? = w.heap[b]? := fun b hb => setRow_other w _ b _ hb
  have hsz : (w.setRow g cs'.toArray).heap.size = w.heap.size := by simp [World.setRow]
  refine ⟨⟨by simp [h.good.n], fun j => ?_, fun a b x hab h1 h2 => ?_, fun a b hb => ?_, fun b o hb => ?_⟩, ⟨h.kept.os, h.kept.tape, h.kept.output, ?_, ?_, h.kept.H, h.kept.fresh, h.kept.drawn⟩, fun a b hb => ?_, h.n, h.blk, fun j hj hv => h.vv j hj ?_⟩
  · rw [hat]
    by_cases hj : j = i
    · subst hj
      rw [if_pos rfl]
      have hmul : l'.length * wd' ≤ cap * wd' := Nat.mul_le_mul_right _ (by omega)
      refine ⟨sub cs' 0 (l'.length * wd'), ⟨by rw [sub_length]; omega, .inr ⟨g, cap, cs'.toArray, by rw [hv, hlen], Nat.zero_le _, setRow_heap w _ _ _ T _ hcur, by omega, hcap, by simp; omega, by simp [sub]⟩⟩, fun k hk => ?_⟩
      rw [sub_sub (mul_le_len hk), Nat.zero_add]
      exact hel k hk
    · rw [if_neg hj]
      have hr := h.good.res j
      cases hmj : memAt m j with
      | dead => trivial
      | blk T' c'' =>
        rw [hmj] at hr
        obtain ⟨cs'', h1, h2⟩ := hr
        refine ⟨cs'', ?_, h2⟩
        rw [hoth _ (fun e => h.good.disj j i (ε.blk j) hj (by rw [hmj]; rfl) (by rw [hoi, e]))]
        exact h1
      | vec T' wd l =>
        rw [hmj] at hr
        obtain ⟨xs, h1, h2⟩ := hr
        refine ⟨xs, ?_, h2⟩
        refine ⟨h1.1, ?_⟩
        rcases h1.2 with hx | ⟨gg, cap, cur, e1, e2, e3, e4⟩
        · exact .inl hx
        · refine .inr ⟨gg, cap, cur, e1, e2, ?_, e4⟩
          rw [hoth _ (fun e => h.good.disj j i gg hj (by rw [hmj]; simp [ownR, e1, Value.ownBlock]) (by rw [hoi, e]))]
          exact e3
      | mp ek ev l =>
        rw [hmj] at hr
        obtain ⟨es, cl, h1, h2⟩ := hr
        refine ⟨es, cl, ?_, h2⟩
        rw [hoth _ (fun e => h.good.disj j i (ε.blk j) hj (by rw [hmj]; rfl) (by rw [hoi, e]))]
        exact h1
  · rw [hown] at h1 h2; exact h.good.disj a b x hab h1 h2
  · rw [hown] at hb; exact h.good.sep a b hb
  · rw [hoth b (fun e => by have := h.good.sep i _ hoi; rw [e] at hb; rw [this] at hb; cases hb)]; exact h.good.hv b o hb
  · rw [hsz]; exact h.kept.size
  · intro b hb hB
    rw [hoth b (fun e => ?_)]
    · exact h.kept.heap b hb hB
    · rcases h.own i _ hoi with h' | h'
      · rw [e] at hB; exact hB h'
      · omega
  · rw [hown] at hb; exact h.own a b hb
  · rw [hat] at hv
    by_cases hji : j = i
    · subst hji; rw [if_pos rfl] at hv; cases hv
    · rwa [if_neg hji] at hv

theorem estep_store {T : TypeId} {x v : Operand} {x' v' : Opd} {n : Nat} {ag : Bool} {o : Oper} {σ : List SV} {m : List Res} {K : List Res → Prop} (ho : o.op = .store T x v) (hx : compO x = some x') (hv : compO v = some v')
    (ht : tsz P T = some (n, ag)) (h : poke m n (v'.ev σ) K (x'.ev σ)) : ∃ m', K m' ∧ EStepL P o σ m .junk m' := by
  have hrun : ∀ (a : Act) (w : World) (b off : Nat) (cur : List Value) (T' : TypeId) (xs : List Value), a.eval x = .pointer (some ⟨b, off, none⟩) → w.heap[b]? = some (.cells cur.toArray T' (0, 0)) →
      (a.eval v).cells = xs.toArray → xs.length = n → off + n ≤ cur.length → (∀ u ∈ xs, u.oneCell' = true) → (execOp a.eval o).run P w = .ok .skip (w.setRow b (splice cur off xs).toArray) := by
    intro a w b off cur T' xs e1 e2 e3 e4 e5 e6
    simp only [execOp, ho, Sem.run_bind, Instr.storeAt, Instr.sureAddr, e1, Sem.run_pure, Result.andThen_ok, run_storeVar ht w e2 e3 e4 e5 e6]
  unfold poke at h
  split at h
  · rename_i i p o' ex
    split at h
    · rename_i T' c hm
      obtain ⟨⟨h1, h2, h3, h4⟩, hK⟩ := h
      refine ⟨_, hK, fun β ε a w hi hs Q => ?_⟩
      obtain ⟨_, hp, e1⟩ := sat_ptr (ex ▸ compO_ok hx hs)
      obtain ⟨xs, e2, e3⟩ := sat_val (compO_ok hv hs) h4
      obtain ⟨cs, hb, hc⟩ : ResOK ε i w (.blk T' c) := hm ▸ hi.good.res i
      obtain ⟨g1, g2, g3⟩ := SatC.get p c 0 o' hc hp h1
      have hset := SatC.set p c 0 o' hc hp h1 e2 (by omega)
      rw [Nat.sub_zero] at g2 g3 hset
      have hl := SatC.length _ e2
      unfold Oper.wp
      rw [hrun a w _ _ cs T' xs e1 hb (by rw [e3]; exact scalar_cells e2) (by omega) (by omega) (SatC.one _ e2), Oper.upon_skip]
      exact ⟨_, ε, rfl, trivial, Env.Le.refl ε, hi.setBlk hm hset⟩
    · exact h.elim
  · rename_i i j p o' ex
    split at h
    · rename_i T' w' l hm
      obtain ⟨⟨hj, h1, h2, h3, h4⟩, hK⟩ := h
      refine ⟨_, hK, fun β ε a w hi hs Q => ?_⟩
      obtain ⟨_, hp, b, cap, n', e1, e2, ev⟩ := sat_vptr (ex ▸ compO_ok hx hs)
      obtain ⟨xs, e3, e4⟩ := sat_val (compO_ok hv hs) h4
      obtain ⟨ys, hown, hel⟩ : ResOK ε i w (.vec T' w' l) := hm ▸ hi.good.res i
      have hl := SatC.length _ e3
      obtain ⟨ol, ho2⟩ := hown
      rcases ho2 with ⟨ho2, _⟩ | ⟨g, cap', cur, ho2, _, hh, hle, hcap, hsz, htk⟩
      · rw [e1] at ho2; cases ho2
      · have ho3 := ho2
        rw [e1] at ho2
        simp only [Value.slice.injEq, Option.some.injEq, Addr.mk.injEq] at ho2
        obtain ⟨⟨rfl, _, _⟩, rfl, rfl⟩ := ho2
        have hs' := hel j hj
        have hjl := mul_le_len (w := w') hj
        obtain ⟨i1, i2, i3⟩ := SatC.get p _ (j * w') o' hs' hp h1
        have hset := SatC.set p _ (j * w') o' hs' hp h1 e3 (by omega)
        have hlen : (sub ys (j * w') w').length = w' := sub_length (by omega)
        rw [hlen] at i3
        have hle' : l.length * w' ≤ cap * w' := Nat.mul_le_mul_right _ hle
        have hcl : cur.toList.length = cap * w' := by simpa using hsz
        have hsub : ∀ k, k < l.length → sub cur.toList (k * w') w' = sub ys (k * w') w' := by
          intro k hk
          have := mul_le_len (w := w') hk
          rw [← htk]
          simp only [sub, List.drop_take, List.take_take]
          rw [Nat.min_eq_left (by omega)]
        have hb : w.heap[b]? = some (.cells cur.toList.toArray T' (0, 0)) := by simpa using hh
        unfold Oper.wp
        rw [hrun a w b o' cur.toList T' xs ev hb (by rw [e4]; exact scalar_cells e3) (by omega) (by omega) (SatC.one _ e3), Oper.upon_skip]
        refine ⟨_, ε, rfl, trivial, Env.Le.refl ε, hi.setVec hm ho3 hb hle hcap hcl (by simp) (splice_length (by omega)) (fun k hk => ?_)⟩
        simp only [List.length_set] at hk
        have hkl := mul_le_len (w := w') hk
        by_cases hkj : k = j
        · subst hkj
          rw [sub_splice_in (by omega) (by omega) (by omega), hsub k hk]
          simpa [List.getD, hj] using hset
        · rw [sub_splice_out ?_ (by omega), hsub k hk]
          · have : (l.set j (setP (l.getD j .junk) p (v'.ev σ))).getD k .junk = l.getD k .junk := by
              simp only [List.getD_eq_getElem?_getD, List.getElem?_set]
              rw [if_neg (fun e => hkj e.symm)]
            rw [this]
            exact hel k hk
          · rcases Nat.lt_or_gt_of_ne hkj with hlt | hgt
            · have := mul_le_len (w := w') hlt
              right; omega
            · have := mul_le_len (w := w') hgt
              left; omega
    · exact h.elim
  · exact h.elim

end Go.Sx
/-! Sx, part 9: new memory; slices that grow. -/
set_option linter.unusedSimpArgs false
set_option linter.unusedVariables false
namespace Go.Sx
open Go

variable {P : Program}

mutual
def kill (i : Nat) : SV → SV
  | .vec j n => if j = i then .junk else .vec j n
  | .vptr j a p o => if j = i then .junk else .vptr j a p o
  | .pvec j n => if j = i then .junk else .pvec j n
  | .arr n w f => .arr n w fun k => kill i (f k)
  | .agg l => .agg (killL i l)
  | .tup l => .tup (killL i l)
  | .fn f l => .fn f (killL i l)
  | .iface t x => .iface t (kill i x)
  | c => c
def killL (i : Nat) : List SV → List SV
  | [] => []
  | x :: r => kill i x :: killL i r
end

def killR (i : Nat) : Res → Res
  | .dead => .dead
  | .blk T c => .blk T (kill i c)
  | .vec T w l => .vec T w (killL i l)
  | .mp ek ev l => .mp ek ev l

structure Env.But (i : Nat) (ε ε' : Env) : Prop where
  n : ε.n ≤ ε'.n
  blk : ∀ j, j < ε.n → ε'.blk j = ε.blk j
  vv : ∀ j, j < ε.n → j ≠ i → ε'.vv j = ε.vv j
  H : ∀ b o, ε.H b = some o → ε'.H b = some o

theorem Env.But.cl {i : Nat} {ε ε' : Env} (h : ε.But i ε') : ε.cl.Le ε'.cl := ⟨Nat.le_refl _, fun _ hi => absurd hi (Nat.not_lt_zero _), fun _ hi => absurd hi (Nat.not_lt_zero _), h.H⟩

theorem killL_length (i : Nat) : ∀ l : List SV, (killL i l).length = l.length
  | [] => rfl
  | _ :: r => by simp [killL, killL_length i r]

theorem killL_getD (i : Nat) : ∀ (l : List SV) (j : Nat), (killL i l).getD j .junk = kill i (l.getD j .junk)
  | [], j => by simp [killL, kill]
  | x :: r, 0 => by simp [killL]
  | x :: r, j + 1 => by simp only [killL, List.getD_cons_succ]; exact killL_getD i r j

theorem kill_isAgg (i : Nat) (c : SV) : (kill i c).isAgg = c.isAgg := by
  cases c <;> simp only [kill] <;> first | rfl | (split <;> rfl)

mutual
theorem SatC.kill (i : Nat) : ∀ (c : SV) {ε ε' : Env} {cs : List Value}, ε.But i ε' → SatC c ε cs → SatC (kill i c) ε' cs
  | .int .., _, _, _, _, h => h
  | .bool .., _, _, _, _, h => h
  | .str .., _, _, _, _, h => h
  | .arr n w f, _, _, _, hl, h => by
    simp only [Sx.kill, SatC] at h ⊢
    exact ⟨h.1, fun j hj => SatC.kill i (f j) hl (h.2 j hj)⟩
  | .agg l, _, _, _, hl, h => by simp only [Sx.kill, SatC] at h ⊢; exact SatL.kill i l hl h
  | .tup _, _, _, _, _, h => by simp only [SatC] at h
  | .lst w d f l, _, _, _, hl, h => by
    simp only [Sx.kill, SatC] at h ⊢
    obtain ⟨ao, cap, h1, h2, h3, h4, h5⟩ := h
    refine ⟨ao, cap, h1, h2, h3, h4, fun i hi => ?_⟩
    obtain ⟨b, off, T, fz, cur, e1, e2, e3, e4⟩ := h5 i hi
    exact ⟨b, off, T, fz, cur, e1, hl.H _ _ e2, e3, SatC.mono (f (l.getD i d)) hl.cl e4⟩
  | .lit w d f l, _, _, _, hl, h => by
    simp only [Sx.kill, SatC] at h ⊢
    obtain ⟨ao, h1, h3, h4, h5⟩ := h
    refine ⟨ao, h1, h3, h4, fun i hi => ?_⟩
    obtain ⟨b, off, T, fz, cur, e1, e2, e3, e4⟩ := h5 i hi
    exact ⟨b, off, T, fz, cur, e1, hl.H _ _ e2, e3, SatC.mono (f (l.getD i d)) hl.cl e4⟩
  | .eptr w d f l i p o, _, _, _, hl, h => by
    simp only [Sx.kill, SatC] at h ⊢
    obtain ⟨b, off, T, fz, cur, h1, h2, h3, h4, h5, h6⟩ := h
    exact ⟨b, off, T, fz, cur, h1, h2, hl.H _ _ h3, h4, h5, SatC.mono (f (l.getD i d)) hl.cl h6⟩
  | .ref c p o, _, _, _, hl, h => by
    simp only [Sx.kill, SatC] at h ⊢
    obtain ⟨b, T, fz, cur, h1, h2, h3, h4⟩ := h
    exact ⟨b, T, fz, cur, h1, hl.H _ _ h2, h3, SatC.mono c hl.cl h4⟩
  | .ptr j p o, _, _, _, hl, h => by
    simp only [Sx.kill, SatC] at h ⊢
    exact ⟨Nat.lt_of_lt_of_le h.1 hl.n, h.2.1, by rw [hl.blk j h.1]; exact h.2.2⟩
  | .vec j n, _, _, _, hl, h => by
    simp only [Sx.kill]
    split
    · obtain ⟨u, hu⟩ : ∃ u, _ = [u] := by simp only [SatC] at h; exact ⟨_, h.2.2⟩
      simp only [SatC]
      exact ⟨u, by have := SatC.one _ h u (by rw [hu]; simp); exact this, hu⟩
    · rename_i hne
      simp only [SatC] at h ⊢
      exact ⟨Nat.lt_of_lt_of_le h.1 hl.n, by rw [hl.vv j h.1 hne]; exact h.2⟩
  | .pvec j n, _, _, _, hl, h => by
    simp only [Sx.kill]
    split
    · simp only [SatC] at h ⊢
      obtain ⟨_, _, _, _, _, _, e⟩ := h
      exact ⟨_, rfl, e⟩
    · rename_i hne
      simp only [SatC] at h ⊢
      exact ⟨Nat.lt_of_lt_of_le h.1 hl.n, by rw [hl.vv j h.1 hne]; exact h.2⟩
  | .vptr j a p o, _, _, _, hl, h => by
    simp only [Sx.kill]
    split
    · simp only [SatC] at h ⊢
      obtain ⟨_, _, b, _, _, _, _, e⟩ := h
      exact ⟨_, rfl, e⟩
    · rename_i hne
      simp only [SatC] at h ⊢
      exact ⟨Nat.lt_of_lt_of_le h.1 hl.n, h.2.1, by rw [hl.vv j h.1 hne]; exact h.2.2⟩
  | .map j, _, _, _, hl, h => by
    simp only [Sx.kill, SatC] at h ⊢
    exact ⟨Nat.lt_of_lt_of_le h.1 hl.n, by rw [hl.blk j h.1]; exact h.2⟩
  | .fn f cap, _, _, _, hl, h => by
    simp only [Sx.kill, SatC] at h ⊢
    obtain ⟨vs, h1, h2⟩ := h
    exact ⟨vs, SatA.kill i cap hl h1, h2⟩
  | .iface t x, _, _, _, hl, h => by
    simp only [Sx.kill, SatC, kill_isAgg] at h ⊢
    obtain ⟨xs, h1, h2⟩ := h
    exact ⟨xs, SatC.kill i x hl h1, h2⟩
  | .nils, _, _, _, _, h => h
  | .nili, _, _, _, _, h => h
  | .nilf, _, _, _, _, h => h
  | .nilp, _, _, _, _, h => h
  | .nilm, _, _, _, _, h => h
  | .anyb, _, _, _, _, h => h
  | .raw _, _, _, _, _, h => h
  | .junk, _, _, _, _, h => h
theorem SatL.kill (i : Nat) : ∀ (l : List SV) {ε ε' : Env} {cs : List Value}, ε.But i ε' → SatL l ε cs → SatL (killL i l) ε' cs
  | [], _, _, _, _, h => h
  | x :: r, _, _, _, hl, h => by
    simp only [killL, SatL] at h ⊢
    obtain ⟨a, b, h1, h2, h3⟩ := h
    exact ⟨a, b, h1, SatC.kill i x hl h2, SatL.kill i r hl h3⟩
theorem SatA.kill (i : Nat) : ∀ (l : List SV) {ε ε' : Env} {vs : List Value}, ε.But i ε' → SatA l ε vs → SatA (killL i l) ε' vs
  | [], _, _, _, _, h => h
  | x :: r, _, _, _, hl, h => by
    simp only [killL, SatA, kill_isAgg] at h ⊢
    obtain ⟨cs, t, h1, h2, h3⟩ := h
    exact ⟨cs, t, h1, SatC.kill i x hl h2, SatA.kill i r hl h3⟩
end

theorem SatV.kill {i : Nat} {x : SV} {ε ε' : Env} {v : Value} (hl : ε.But i ε') (h : SatV ε x v) : SatV ε' (Sx.kill i x) v := by
  by_cases hv : x.isVal = true
  · obtain ⟨cs, h1, h2⟩ := sat_val h hv
    have := SatC.kill i x hl h1
    have h3 := satC_sat this
    rw [kill_isAgg] at h3
    rw [h2]; exact h3
  · cases x <;> first
      | exact absurd rfl hv
      | (obtain ⟨vs, h1, h2⟩ := h; exact ⟨vs, SatA.kill i _ hl h1, h2⟩)
      | trivial

theorem SlotsOK.kill {i : Nat} {ε ε' : Env} {σ : List SV} {a : Act} (hl : ε.But i ε') (h : SlotsOK ε σ a) : SlotsOK ε' (killL i σ) a :=
  ⟨by rw [killL_length]; exact h.1, fun k => by rw [killL_getD]; exact (h.2 k).kill hl⟩

theorem Inv.grown {β : Base} {ε : Env} {m : List Res} {w w' : World} (h : Inv β ε m w) {i : Nat} {T : TypeId} {wd' : Nat} {l l' : List SV} {v' : Value} {ys : List Value}
    (hm : memAt m i = .vec T wd' l) (hg : w.grownBy w' (ε.vv i).ownBlock) (hd : w.drawn ≤ w'.drawn) (hown : w'.ownsRow 0 T wd' v' l'.length ys)
    (hblk : v'.ownBlock = (ε.vv i).ownBlock ∨ ∀ b, v'.ownBlock = some b → w.heap.size ≤ b)
    (hel : ∀ j, j < l'.length → SatC (l'.getD j .junk) ε (sub ys (j * wd') wd')) :
    Inv β { ε with vv := fun j => if j = i then v' else ε.vv j } ((m.map (killR i)).set i (.vec T wd' (killL i l'))) w' ∧ ε.But i { ε with vv := fun j => if j = i then v' else ε.vv j } := by
  have hi : i < m.length := by
    rcases Nat.lt_or_ge i m.length with hi | hi
    · exact hi
    · rw [memAt_ge hi] at hm; cases hm
  generalize hε' : ({ ε with vv := fun j => if j = i then v' else ε.vv j } : Env) = ε'
  have hbut : ε.But i ε' := by
    subst hε'
    exact ⟨Nat.le_refl _, fun _ _ => rfl, fun j _ hne => by simp [hne], fun _ _ h => h⟩
  refine ⟨?_, hbut⟩
  have hat : ∀ j, memAt ((m.map (killR i)).set i (.vec T wd' (killL i l'))) j = if j = i then .vec T wd' (killL i l') else killR i (memAt m j) := by
    intro j
    unfold memAt
    rw [List.getD, List.getElem?_set]
    by_cases hj : i = j
    · subst hj; simp [hi]
    · rw [if_neg hj, if_neg (fun e => hj e.symm), List.getElem?_map, List.getD]
      cases m[j]? <;> rfl
  have hoi : ownR ε i (memAt m i) = (ε.vv i).ownBlock := by rw [hm]; rfl
  have hb' : ∀ j, ε'.blk j = ε.blk j := by subst hε'; intro j; rfl
  have hv1 : ε'.vv i = v' := by subst hε'; simp
  have hv2 : ∀ j, j ≠ i → ε'.vv j = ε.vv j := by subst hε'; intro j hj; simp [hj]
  have hH : ε'.H = ε.H := by subst hε'; rfl
  have hownI : ownR ε' i (.vec T wd' (killL i l')) = v'.ownBlock := by simp [ownR, hv1]
  have hownO : ∀ j, j ≠ i → ownR ε' j (killR i (memAt m j)) = ownR ε j (memAt m j) := by
    intro j hj
    cases memAt m j <;> simp [killR, ownR, hb', hv2 j hj]
  have hcase : ∀ j b, ownR ε' j (memAt ((m.map (killR i)).set i (.vec T wd' (killL i l'))) j) = some b →
      (j ≠ i ∧ ownR ε j (memAt m j) = some b) ∨ (j = i ∧ (ownR ε i (memAt m i) = some b ∨ w.heap.size ≤ b) ∧ v'.ownBlock = some b) := by
    intro j b hb
    rw [hat] at hb
    by_cases hj : j = i
    · subst hj
      rw [if_pos rfl, hownI] at hb
      refine .inr ⟨rfl, ?_, hb⟩
      rcases hblk with e | e
      · left; rw [hoi, ← e]; exact hb
      · right; exact e b hb
    · rw [if_neg hj, hownO j hj] at hb
      exact .inl ⟨hj, hb⟩
  have hkeep : ∀ b, b < w.heap.size → (ε.vv i).ownBlock ≠ some b → w'.heap[b]? = w.heap[b]? := fun b hb hne => hg.block b hb (fun e => hne e.symm)
  refine ⟨⟨by subst hε'; simp [h.good.n], fun j => ?_, fun a b x hab h1 h2 => ?_, fun a b hb => ?_, fun b o hb => ?_⟩, ⟨hg.os.trans h.kept.os, hg.tape.trans h.kept.tape, hg.output.trans h.kept.output, Nat.le_trans h.kept.size hg.size, ?_, ?_, ?_, Nat.le_trans h.kept.drawn hd⟩, fun a b hb => ?_, by subst hε'; exact h.n, fun j hj => by rw [hb']; exact h.blk j hj, fun j hj hv => ?_⟩
  · rw [hat]
    by_cases hj : j = i
    · subst hj
      rw [if_pos rfl]
      refine ⟨ys, by rw [killL_length, hv1]; exact hown, fun k hk => ?_⟩
      rw [killL_length] at hk
      rw [killL_getD]
      exact SatC.kill j _ hbut (hel k hk)
    · rw [if_neg hj]
      have hr := h.good.res j
      have hne : ∀ b, ownR ε j (memAt m j) = some b → w'.heap[b]? = w.heap[b]? := fun b hb => hkeep b (ownR_lt h.good hb) (fun e => h.good.disj j i b hj hb (by rw [hoi]; exact e))
      cases hmj : memAt m j with
      | dead => trivial
      | blk T' c'' =>
        rw [hmj] at hr
        obtain ⟨cs'', h1, h2⟩ := hr
        exact ⟨cs'', by rw [hb', hne _ (by rw [hmj]; rfl)]; exact h1, SatC.kill i _ hbut h2⟩
      | vec T' wd l2 =>
        rw [hmj] at hr
        obtain ⟨xs, h1, h2⟩ := hr
        refine ⟨xs, ?_, fun k hk => ?_⟩
        · rw [killL_length, hv2 j hj]
          refine ⟨h1.1, ?_⟩
          rcases h1.2 with hx | ⟨gg, cap, cur, e1, e2, e3, e4⟩
          · exact .inl hx
          · exact .inr ⟨gg, cap, cur, e1, e2, by rw [hne gg (by rw [hmj]; simp [ownR, e1, Value.ownBlock])]; exact e3, e4⟩
        · rw [killL_length] at hk
          rw [killL_getD]
          exact SatC.kill i _ hbut (h2 k hk)
      | mp ek ev l2 =>
        rw [hmj] at hr
        obtain ⟨es, cl, h1, h2⟩ := hr
        exact ⟨es, cl, by rw [hb', hne _ (by rw [hmj]; rfl)]; exact h1, h2⟩
  · rcases hcase a x h1 with ⟨ha, h1'⟩ | ⟨ha, h1', _⟩ <;> rcases hcase b x h2 with ⟨hb, h2'⟩ | ⟨hb, h2', _⟩
    · exact h.good.disj a b x hab h1' h2'
    · rcases h2' with h2' | h2'
      · exact h.good.disj a i x ha h1' h2'
      · have := ownR_lt h.good h1'; omega
    · rcases h1' with h1' | h1'
      · exact h.good.disj b i x hb h2' h1'
      · have := ownR_lt h.good h2'; omega
    · omega
  · rw [hH]
    rcases hcase a b hb with ⟨_, h1⟩ | ⟨_, h1 | h1, _⟩
    · exact h.good.sep a b h1
    · exact h.good.sep i b h1
    · cases hh : ε.H b with
      | none => rfl
      | some o => have := H_lt h.good hh; omega
  · rw [hH] at hb
    rw [hkeep b (H_lt h.good hb) (fun e => by have := h.good.sep i b (by rw [hoi]; exact e); rw [this] at hb; cases hb)]
    exact h.good.hv b o hb
  · intro b hb hB
    rw [hkeep b (Nat.lt_of_lt_of_le hb h.kept.size) (fun e => by
      rcases h.own i b (by rw [hoi]; exact e) with h' | h'
      · exact hB h'
      · omega)]
    exact h.kept.heap b hb hB
  · rw [hH]; exact h.kept.H
  · rw [hH]; exact h.kept.fresh
  · rcases hcase a b hb with ⟨_, h1⟩ | ⟨_, h1 | h1, _⟩
    · exact h.own a b h1
    · exact h.own i b h1
    · right; exact Nat.le_trans h.kept.size h1
  · rw [hat] at hv
    by_cases hji : j = i
    · subst hji; rw [if_pos rfl] at hv; cases hv
    · rw [if_neg hji] at hv
      rw [hv2 j hji]
      refine h.vv j hj ?_
      cases hmj : memAt m j <;> rw [hmj] at hv <;> first | rfl | exact hv

end Go.Sx
/-! Sx, part 10: new memory, steps. -/
set_option linter.unusedSimpArgs false
set_option linter.unusedVariables false
namespace Go.Sx
open Go

variable {P : Program}

theorem ResOK.grow {ε ε' : Env} {m : List Res} {w w' : World} (g : Good ε m w) (hl : ε.Le ε') (hw : ∀ b, b < w.heap.size → w'.heap[b]? = w.heap[b]?) {i : Nat} (hi : i < m.length) : ResOK ε' i w' (memAt m i) := by
  have hi' : i < ε.n := by rw [g.n]; exact hi
  have hr := g.res i
  cases hm : memAt m i with
  | dead => trivial
  | blk T c =>
    rw [hm] at hr
    obtain ⟨cs, h1, h2⟩ := hr
    exact ⟨cs, by rw [hl.blk i hi', hw _ (Array.getElem?_eq_some_iff.1 h1).1]; exact h1, h2.mono c hl⟩
  | vec T wd l =>
    rw [hm] at hr
    obtain ⟨xs, h1, h2⟩ := hr
    refine ⟨xs, ?_, fun j hj => (h2 j hj).mono _ hl⟩
    rw [hl.vv i hi']
    refine ⟨h1.1, ?_⟩
    rcases h1.2 with hx | ⟨gg, cap, cur, e1, e2, e3, e4⟩
    · exact .inl hx
    · exact .inr ⟨gg, cap, cur, e1, e2, by rw [hw _ (Array.getElem?_eq_some_iff.1 e3).1]; exact e3, e4⟩
  | mp ek ev l =>
    rw [hm] at hr
    obtain ⟨es, cl, h1, h2⟩ := hr
    exact ⟨es, cl, by rw [hl.blk i hi', hw _ (Array.getElem?_eq_some_iff.1 h1).1]; exact h1, h2⟩

theorem Inv.more {β : Base} {ε : Env} {m : List Res} {w w' : World} (h : Inv β ε m w) {b : Nat} {v : Value} {r : Res} (hg : w.grownBy w' none) (hd : w.drawn ≤ w'.drawn)
    (hres : ResOK (ε.more b v) m.length w' r) (hown : ∀ x, ownR (ε.more b v) m.length r = some x → w.heap.size ≤ x) :
    Inv β (ε.more b v) (m ++ [r]) w' := by
  have hn := h.good.n
  have hw : ∀ b, b < w.heap.size → w'.heap[b]? = w.heap[b]? := fun b hb => hg.block b hb (by simp)
  have hle := ε.le_more b v
  have hownI : ∀ i, i < m.length → ownR (ε.more b v) i (memAt (m ++ [r]) i) = ownR ε i (memAt m i) := by
    intro i hi
    rw [memAt_append_lt hi]
    have hi' : i < ε.n := by omega
    cases memAt m i <;> simp [ownR, Env.more, Nat.ne_of_lt hi']
  have hcase : ∀ i x, ownR (ε.more b v) i (memAt (m ++ [r]) i) = some x → (i < m.length ∧ ownR ε i (memAt m i) = some x) ∨ (i = m.length ∧ w.heap.size ≤ x) := by
    intro i x hb
    rcases Nat.lt_trichotomy i m.length with hi | hi | hi
    · rw [hownI i hi] at hb; exact .inl ⟨hi, hb⟩
    · subst hi; rw [memAt_snoc] at hb; exact .inr ⟨rfl, hown x hb⟩
    · rw [memAt_ge (by simp; omega)] at hb; cases hb
  refine ⟨⟨by simp [Env.more, hn], fun i => ?_, fun i j x hij h1 h2 => ?_, fun i x hb => ?_, fun x o hb => ?_⟩, ⟨hg.os.trans h.kept.os, hg.tape.trans h.kept.tape, hg.output.trans h.kept.output, Nat.le_trans h.kept.size hg.size, ?_, h.kept.H, h.kept.fresh, Nat.le_trans h.kept.drawn hd⟩, fun i x hb => ?_, ?_, fun i hi => ?_, fun i hi hv => ?_⟩
  · rcases Nat.lt_trichotomy i m.length with hi | hi | hi
    · rw [memAt_append_lt hi]; exact ResOK.grow h.good hle hw hi
    · subst hi; rw [memAt_snoc]; exact hres
    · rw [memAt_ge (by simp; omega)]; trivial
  · rcases hcase i x h1 with ⟨hi, h1'⟩ | ⟨hi, hb⟩ <;> rcases hcase j x h2 with ⟨hj, h2'⟩ | ⟨hj, hb2⟩
    · exact h.good.disj i j x hij h1' h2'
    · have := ownR_lt h.good h1'; omega
    · have := ownR_lt h.good h2'; omega
    · omega
  · rcases hcase i x hb with ⟨_, h1⟩ | ⟨_, h1⟩
    · exact h.good.sep i x h1
    · cases hh : ε.H x with
      | none => exact hh
      | some o => have := H_lt h.good hh; omega
  · rw [hw x (H_lt h.good hb)]; exact h.good.hv x o hb
  · intro x hb hB; rw [hw x (Nat.lt_of_lt_of_le hb h.kept.size)]; exact h.kept.heap x hb hB
  · rcases hcase i x hb with ⟨_, h1⟩ | ⟨_, h1⟩
    · exact h.own i x h1
    · right; exact Nat.le_trans h.kept.size h1
  · have := h.n; simp [Env.more]; omega
  · have := h.n
    have e := h.blk i hi
    simp [Env.more]
    rw [if_neg (by omega)]; exact e
  · have hn' := h.n
    rw [memAt_append_lt (by omega)] at hv
    have e := h.vv i hi hv
    simp [Env.more]
    rw [if_neg (by omega)]; exact e

section
variable {o : Oper} {σ : List SV} {m : List Res}

theorem estep_alloc {T : TypeId} {z : SV} (ho : o.op = .alloc T) (hz : zok P T = some z) : EStepL P o σ m (.ptr m.length [] 0) (m ++ [.blk T z]) := by
  intro β ε a w hi hs Q
  obtain ⟨i, v, h1, h2, h3⟩ := zok_ok hz
  have hr : (execOp a.eval o).run P w = .ok (.value (.pointer (some ⟨w.heap.size, 0, none⟩))) (w.alloc (.cells v.cells T)) := by
    simp [execOp, ho, Instr.alloc, zeroValue, typeInfo, h1, h2, newVar, newRow]
  unfold Oper.wp
  rw [hr, Oper.upon_value]
  have := hi.alloc (T := T) (h3 ε)
  simp only [Array.toArray_toList] at this
  refine ⟨_, _, rfl, ?_, ε.le_more _ _, this⟩
  refine ⟨_, by simp only [SatC]; exact ⟨by simp [Env.more, hi.good.n], trivial, rfl⟩, ?_⟩
  simp [boxed, SV.isAgg, Env.more, hi.good.n]

theorem estep_box {T : TypeId} {x : Operand} {x' : Opd} (ho : o.op = .box T x) (hx : compO x = some x') (hv : (x'.ev σ).isVal = true) :
    EStepL P o σ m (.ptr m.length [] 0) (m ++ [.blk T (x'.ev σ)]) := by
  intro β ε a w hi hs Q
  obtain ⟨cs, h1, h2⟩ := sat_val (compO_ok hx hs) hv
  have hr : (execOp a.eval o).run P w = .ok (.value (.pointer (some ⟨w.heap.size, 0, none⟩))) (w.alloc (.cells cs.toArray T)) := by
    have := scalar_cells h1
    simp [execOp, ho, Instr.box, newVar, newRow, h2, this]
  unfold Oper.wp
  rw [hr, Oper.upon_value]
  refine ⟨_, _, rfl, ?_, ε.le_more _ _, hi.alloc h1⟩
  refine ⟨_, by simp only [SatC]; exact ⟨by simp [Env.more, hi.good.n], trivial, rfl⟩, ?_⟩
  simp [boxed, SV.isAgg, Env.more, hi.good.n]

def bslParts (σ : List SV) (w : Nat) : List SV → List (Nat × Opd) → (List SV → Prop) → Prop
  | l, [], K => K l
  | l, (k, x) :: r, K => (k < l.length ∧ (x.ev σ).isVal = true ∧ wd (x.ev σ) = w) ∧ bslParts σ w (l.set k (x.ev σ)) r K

def bslEnd (σ : List SV) : List SV → List (Nat × Opd) → List SV
  | l, [] => l
  | l, (k, x) :: r => bslEnd σ (l.set k (x.ev σ)) r

theorem bslEnd_len : ∀ (ys : List (Nat × Opd)) (l : List SV), (bslEnd σ l ys).length = l.length
  | [], _ => rfl
  | (k, x) :: r, l => by simp [bslEnd, bslEnd_len r]

theorem bslParts_end {w : Nat} : ∀ (ys : List (Nat × Opd)) (l : List SV) {K : List SV → Prop}, bslParts σ w l ys K → K (bslEnd σ l ys) ∧ bslParts σ w l ys (fun _ => True)
  | [], l, K, h => ⟨h, trivial⟩
  | (k, x) :: r, l, K, h => by
    simp only [bslParts] at h ⊢
    obtain ⟨i1, i2⟩ := bslParts_end r _ h.2
    exact ⟨i1, h.1, i2⟩

def compEls : List (Nat × Operand) → Option (List (Nat × Opd))
  | [] => some []
  | (k, x) :: r => match compO x, compEls r with
    | some y, some ys => some ((k, y) :: ys)
    | _, _ => none

def SatE (ε : Env) (w : Nat) (l : List SV) (cs : List Value) : Prop := cs.length = l.length * w ∧ ∀ j, j < l.length → SatC (l.getD j .junk) ε (sub cs (j * w) w)

theorem SatE.set {ε : Env} {w : Nat} {l : List SV} {cs xs : List Value} {k : Nat} {x : SV} (h : SatE ε w l cs) (hk : k < l.length) (hx : SatC x ε xs) (hw : xs.length = w) : SatE ε w (l.set k x) (splice cs (k * w) xs) := by
  have hkl := mul_le_len (w := w) hk
  have h1 := h.1
  refine ⟨by rw [splice_length (by omega), List.length_set]; exact h.1, fun j hj => ?_⟩
  rw [List.length_set] at hj
  have hjl := mul_le_len (w := w) hj
  by_cases hjk : j = k
  · subst hjk
    rw [sub_splice_in (by omega) (by omega) (by omega)]
    have : splice (sub cs (j * w) w) (j * w - j * w) xs = xs := by
      have hl : (sub cs (j * w) w).length = w := sub_length (by omega)
      simp only [Nat.sub_self, splice, List.take_zero, List.nil_append, Nat.zero_add]
      rw [List.drop_of_length_le (by omega)]; simp
    rw [this]
    simpa [List.getD, hj] using hx
  · rw [sub_splice_out ?_ (by omega)]
    · have : (l.set k x).getD j .junk = l.getD j .junk := by
        simp only [List.getD_eq_getElem?_getD, List.getElem?_set]
        rw [if_neg (fun e => hjk e.symm)]
      rw [this]
      exact h.2 j hj
    · rcases Nat.lt_or_gt_of_ne hjk with hlt | hgt
      · have := mul_le_len (w := w) hlt
        right; omega
      · have := mul_le_len (w := w) hgt
        left; omega

theorem bsl_fill {ε : Env} {a : Act} {w : Nat} (hs : SlotsOK ε σ a) : ∀ (parts : List (Nat × Operand)) (ys : List (Nat × Opd)) (l : List SV) (cs : List Value), compEls parts = some ys → SatE ε w l cs → bslParts σ w l ys (fun _ => True) →
    ∃ cs', SatE ε w (bslEnd σ l ys) cs' ∧ Instr.fill (fun i => some (i * w, w)) cs.toArray (parts.map fun x => (x.1, a.eval x.2)) = some cs'.toArray
  | [], ys, l, cs, hc, hl, h => by
    simp only [compEls, Option.some.injEq] at hc; subst hc
    exact ⟨cs, hl, rfl⟩
  | (k, x) :: r, ys, l, cs, hc, hl, h => by
    simp only [compEls] at hc
    split at hc <;> try (cases hc; done)
    rename_i y ys' h1 h2
    simp only [Option.some.injEq] at hc; subst hc
    simp only [bslParts] at h
    obtain ⟨⟨hk, hv, hw⟩, h⟩ := h
    obtain ⟨xs, hx1, hx2⟩ := sat_val (compO_ok h1 hs) hv
    have hlen := SatC.length _ hx1
    have hkl := mul_le_len (w := w) hk
    have h3 := hl.1
    obtain ⟨cs', i1, i2⟩ := bsl_fill hs r ys' _ _ h2 (hl.set hk hx1 (by omega)) h
    refine ⟨cs', i1, ?_⟩
    have hcells : (a.eval x).cells = xs.toArray := by rw [hx2]; exact scalar_cells hx1
    simp only [List.map_cons, Instr.fill, hcells]
    have hsz : xs.toArray.size = w := by simp; omega
    rw [if_neg (by simp [hsz]; omega)]
    have := zipIdx_foldl (k * w) xs cs.toArray (by simp; omega)
    simp only at this
    rw [this]
    exact i2

theorem satE_zero {ε : Env} {z : SV} {w n : Nat} {zc : List Value} (hz : SatC z ε zc) (hw : zc.length = w) : SatE ε w (List.replicate n z) ((Array.range (n * w)).map (zc.toArray[· % zc.toArray.size]!)).toList := by
  refine ⟨by simp, fun j hj => ?_⟩
  simp only [List.length_replicate] at hj
  have hjl := mul_le_len (w := w) hj
  have hg : (List.replicate n z).getD j .junk = z := by simp [List.getD, hj]
  rw [hg]
  have : sub ((Array.range (n * w)).map (zc.toArray[· % zc.toArray.size]!)).toList (j * w) w = zc := by
    apply List.ext_getElem?
    intro k
    rw [sub_get]
    by_cases hk : k < w
    · rw [if_pos hk]
      have h1 : j * w + k < n * w := by omega
      have h2 : (j * w + k) % w = k := by rw [Nat.mul_comm, Nat.mul_add_mod, Nat.mod_eq_of_lt hk]
      have h3 : k < zc.length := by omega
      simp [h1, hw, h2]
      rw [List.getElem?_eq_getElem h3]
      rfl
    · rw [if_neg hk, List.getElem?_eq_none (by omega)]
  rw [this]
  exact hz

theorem run_bsl {T E : TypeId} {len w : Nat} {z : SV} {ag : Bool} {parts : Array (Nat × Operand)} {ys : List (Nat × Opd)} (ho : o.op = .buildSlice T len parts) (hu : P.underlying T = some (.slice E)) (hz : zok P E = some z)
    (ht : tsz P E = some (w, ag)) (hwd : wd z = w) (hlen : len * w ≤ 2 ^ 24) (h0 : 0 < w) (hc : compEls parts.toList = some ys) (h2 : bslParts σ w (List.replicate len z) ys (fun _ => True)) {ε : Env} {a : Act} (wd' : World) (hs : SlotsOK ε σ a) :
    ∃ cs', SatE ε w (bslEnd σ (List.replicate len z) ys) cs' ∧ (execOp a.eval o).run P wd' = .ok (.value (.slice (some ⟨wd'.heap.size, 0, none⟩) len len)) (wd'.alloc (.cells cs'.toArray E)) := by
  obtain ⟨i, v, e1, e2, e3⟩ := zok_ok hz
  have hzl := SatC.length _ (e3 ε)
  obtain ⟨cs', g1, g2⟩ := bsl_fill (w := w) hs parts.toList ys _ _ hc (satE_zero (n := len) (e3 ε) (by omega)) h2
  refine ⟨cs', g1, ?_⟩
  have hpl : (parts.map fun (i, x) => (i, a.eval x)).toList = parts.toList.map fun x => (x.1, a.eval x.2) := by simp
  simp only [execOp, ho, Instr.buildSlice, Sem.run_bind, run_underlying hu, Result.andThen_ok, run_sizeOf ht]
  rw [if_neg (by omega)]
  by_cases hz0 : len * w = 0
  · have hl0 : len = 0 := by
      rcases Nat.mul_eq_zero.1 hz0 with h | h
      · exact h
      · omega
    subst hl0
    simp only [Nat.zero_mul, if_true, Sem.run_bind, Sem.run_pure, Result.andThen_ok, hpl]
    have g2' := g2
    rw [Nat.zero_mul] at g2'
    have r0 : ∀ f : Nat → Value, (Array.range 0).map f = #[] := fun f => by apply Array.ext'; simp
    rw [r0] at g2'
    simp only [r0]
    have g3 : Instr.fill (fun i => some (i * w, w)) #[] (parts.toList.map fun x => (x.1, a.eval x.2)) = some cs'.toArray := g2'
    simp [g3, newRow]
  rw [if_neg hz0]
  simp only [Sem.run_bind, zeroValue, typeInfo, run_program, Result.andThen_ok, e1, Sem.run_pure, e2, hpl]
  have : ((Array.range (len * w)).map (v.cells[· % v.cells.size]!)) = ((Array.range (len * w)).map (v.cells.toList.toArray[· % v.cells.toList.toArray.size]!)).toList.toArray := by apply Array.ext'; simp
  rw [this, g2]
  simp [newRow]
theorem estep_bsl {T E : TypeId} {len w : Nat} {z : SV} {ag : Bool} {parts : Array (Nat × Operand)} {ys : List (Nat × Opd)} {K : List SV → Prop} (ho : o.op = .buildSlice T len parts) (hu : P.underlying T = some (.slice E)) (hz : zok P E = some z)
    (ht : tsz P E = some (w, ag)) (hwd : wd z = w) (hlen : len * w ≤ 2 ^ 24) (h0 : 0 < w) (hc : compEls parts.toList = some ys) (h : bslParts σ w (List.replicate len z) ys K) :
    ∃ l, K l ∧ EStepL P o σ m (.vec m.length len) (m ++ [.vec E w l]) := by
  obtain ⟨h1, h2⟩ := bslParts_end _ _ h
  refine ⟨_, h1, fun β ε a wd' hi hs Q => ?_⟩
  obtain ⟨cs', g1, hr⟩ := run_bsl ho hu hz ht hwd hlen h0 hc h2 wd' hs
  have hll : (bslEnd σ (List.replicate len z) ys).length = len := by rw [bslEnd_len]; simp
  have hg1 := g1.1
  rw [hll] at hg1
  have hlm : len ≤ maxLen := by
    have : len ≤ len * w := Nat.le_mul_of_pos_right _ h0
    unfold maxLen; omega
  unfold Oper.wp
  rw [hr, Oper.upon_value]
  refine ⟨_, ε.more 0 (.slice (some ⟨wd'.heap.size, 0, none⟩) len len), rfl, ?_, ε.le_more _ _, hi.more (World.grownBy_alloc _ _ _) (Nat.le_refl _) ?_ ?_⟩
  · refine ⟨[.slice (some ⟨wd'.heap.size, 0, none⟩) len len], ?_, rfl⟩
    simp only [SatC]
    refine ⟨by simp [Env.more, hi.good.n], .inr ⟨wd'.heap.size, len, ?_⟩, ?_⟩ <;> simp [Env.more, hi.good.n]
  · refine ⟨cs', ?_, fun j hj => (g1.2 j hj).mono _ (ε.le_more _ _)⟩
    have hvv : (ε.more 0 (.slice (some ⟨wd'.heap.size, 0, none⟩) len len)).vv m.length = .slice (some ⟨wd'.heap.size, 0, none⟩) len len := by simp [Env.more, hi.good.n]
    rw [hvv, hll]
    exact ⟨hg1, .inr ⟨wd'.heap.size, len, cs'.toArray, rfl, Nat.zero_le _, heap_alloc_new wd' _, Nat.le_refl _, hlm, by simpa using hg1, by rw [List.take_of_length_le (by simp [hg1])]⟩⟩
  · intro x hx
    simp [ownR, Env.more, hi.good.n, Value.ownBlock] at hx
    omega
theorem Inv.allocH {β : Base} {ε : Env} {m : List Res} {w : World} (h : Inv β ε m w) (cs : List Value) (T : TypeId) :
    Inv β { ε with H := fun b => if b = w.heap.size then some (.cells cs.toArray T (0, 0)) else ε.H b } m (w.alloc (.cells cs.toArray T)) ∧
    ε.Le { ε with H := fun b => if b = w.heap.size then some (.cells cs.toArray T (0, 0)) else ε.H b } := by
  have hw : ∀ b, b < w.heap.size → (w.alloc (.cells cs.toArray T)).heap[b]? = w.heap[b]? := fun b hb => Go.RowKit.Below.heap_alloc w _ b hb
  have hH : ∀ b o, ε.H b = some o → (if b = w.heap.size then some (.cells cs.toArray T (0, 0)) else ε.H b) = some o := by
    intro b o hb
    rw [if_neg (by have := H_lt h.good hb; omega)]; exact hb
  have hle : ε.Le { ε with H := fun b => if b = w.heap.size then some (.cells cs.toArray T (0, 0)) else ε.H b } := ⟨Nat.le_refl _, fun _ _ => rfl, fun _ _ => rfl, hH⟩
  refine ⟨⟨h.good.grow hle h.good.n (fun _ _ => rfl) (fun _ _ => rfl) hw (fun b o hb => ?_) (fun i b hb => ?_), ⟨h.kept.os, h.kept.tape, h.kept.output, ?_, ?_, fun b o hb => hH b o (h.kept.H b o hb), fun b o hb => ?_, h.kept.drawn⟩, h.own, h.n, h.blk, h.vv⟩, hle⟩
  · simp only at hb
    by_cases e : b = w.heap.size
    · rw [if_pos e] at hb
      subst e
      rw [heap_alloc_new w]
      exact hb
    · rw [if_neg e] at hb
      rw [hw b (H_lt h.good hb)]; exact h.good.hv b o hb
  · have := ownR_lt h.good hb
    simp only
    rw [if_neg (by omega)]; exact h.good.sep i b hb
  · have := h.kept.size; simp; omega
  · intro b hb hB; rw [hw b (Nat.lt_of_lt_of_le hb h.kept.size)]; exact h.kept.heap b hb hB
  · simp only at hb
    by_cases e : b = w.heap.size
    · right; left; rw [e]; exact h.kept.size
    · rw [if_neg e] at hb; exact h.kept.fresh b o hb
def tabOf : Nat → List (Nat × Opd) → Option (List Int)
  | _, [] => some []
  | j, (i, x) :: r => match x with
    | .c (.int .i64 n) => if i = j then (tabOf (j + 1) r).map (n :: ·) else none
    | _ => none
theorem tab_parts : ∀ (ys : List (Nat × Opd)) (j : Nat) (l : List Int) (L : List SV), tabOf j ys = some l → L.length = j + l.length →
    bslParts σ 1 L ys (fun _ => True) ∧ (bslEnd σ L ys).length = L.length ∧ (∀ k, k < j → (bslEnd σ L ys).getD k .junk = L.getD k .junk) ∧ ∀ k, k < l.length → (bslEnd σ L ys).getD (j + k) .junk = .int .i64 (l.getD k 0)
  | [], j, l, L, h, hl => by
    simp only [tabOf, Option.some.injEq] at h; subst h
    exact ⟨trivial, rfl, fun _ _ => rfl, fun k hk => absurd hk (Nat.not_lt_zero _)⟩
  | (i, x) :: r, j, l, L, h, hl => by
    simp only [tabOf] at h
    split at h <;> try (cases h; done)
    rename_i n
    split at h <;> try (cases h; done)
    rename_i hij
    subst hij
    simp only [Option.map_eq_some_iff] at h
    obtain ⟨l', h1, rfl⟩ := h
    simp only [List.length_cons] at hl
    obtain ⟨k1, k2, k3, k4⟩ := tab_parts r (i + 1) l' (L.set i (.int .i64 n)) h1 (by simp; omega)
    refine ⟨⟨⟨by omega, rfl, rfl⟩, k1⟩, by rw [bslEnd, Opd.ev, k2]; simp, fun k hk => ?_, fun k hk => ?_⟩
    · rw [bslEnd, Opd.ev, k3 k (by omega), List.getD, List.getD, List.getElem?_set, if_neg (by omega)]
    · rw [bslEnd, Opd.ev]
      cases k with
      | zero =>
        rw [Nat.add_zero, k3 i (by omega), List.getD, List.getElem?_set, if_pos rfl, if_pos (by omega)]
        rfl
      | succ k =>
        have := k4 k (by simpa using hk)
        rw [show i + (k + 1) = i + 1 + k from by omega, this]
        rfl
theorem estep_tab {T E : TypeId} {len : Nat} {z : SV} {ag : Bool} {parts : Array (Nat × Operand)} {ys : List (Nat × Opd)} {l : List Int} (ho : o.op = .buildSlice T len parts) (hu : P.underlying T = some (.slice E)) (hz : zok P E = some z)
    (ht : tsz P E = some (1, ag)) (hwd : wd z = 1) (hlen : len * 1 ≤ 2 ^ 24) (hc : compEls parts.toList = some ys) (hl : tabOf 0 ys = some l) (hll : len = l.length) :
    EStepL P o σ m (.lst 1 (0 : Int) (SV.int .i64) l) m := by
  obtain ⟨h2, h3, _, h4⟩ := tab_parts (σ := σ) ys 0 l (List.replicate len z) hl (by simp [hll])
  intro β ε a wd' hi hs Q
  obtain ⟨cs', g1, hr⟩ := run_bsl ho hu hz ht hwd hlen (by omega) hc h2 wd' hs
  rw [List.length_replicate] at h3
  have hg1 := g1.1
  rw [h3] at hg1
  obtain ⟨k1, k2⟩ := hi.allocH cs' E
  unfold Oper.wp
  rw [hr, Oper.upon_value]
  refine ⟨_, _, rfl, ⟨[.slice (some ⟨wd'.heap.size, 0, none⟩) len len], ?_, rfl⟩, k2, k1⟩
  simp only [SatC]
  refine ⟨some ⟨wd'.heap.size, 0, none⟩, len, by rw [hll], by omega, by unfold maxLen; omega, (fun h => by cases h), fun i hi' => ?_⟩
  refine ⟨wd'.heap.size, 0, E, (0, 0), cs'.toArray, rfl, by simp [Env.cl], by simp; omega, ?_⟩
  have := g1.2 i (by rw [h3]; omega)
  have h5 := h4 i hi'
  rw [Nat.zero_add] at h5
  rw [h5] at this
  simp only [SatC] at this ⊢
  rw [Nat.zero_add]
  exact this
theorem estep_qbsl {T E : TypeId} {len w : Nat} {z : SV} {ag : Bool} {parts : Array (Nat × Operand)} {ys : List (Nat × Opd)} {K : SV → Prop} (ho : o.op = .buildSlice T len parts) (hu : P.underlying T = some (.slice E)) (hz : zok P E = some z)
    (ht : tsz P E = some (w, ag)) (hwd : wd z = w) (hlen : len * w ≤ 2 ^ 24) (h0 : 0 < w) (hc : compEls parts.toList = some ys) (h : bslParts σ w (List.replicate len z) ys fun l => datPL l ∧ K (qres w len l)) :
    ∃ sv, K sv ∧ ∀ m, EStepL P o σ m sv m := by
  obtain ⟨⟨hd, h1⟩, h2⟩ := bslParts_end _ _ h
  refine ⟨_, h1, fun m β ε a wd' hi hs Q => ?_⟩
  obtain ⟨cs', g1, hr⟩ := run_bsl ho hu hz ht hwd hlen h0 hc h2 wd' hs
  have hll : (bslEnd σ (List.replicate len z) ys).length = len := by rw [bslEnd_len]; simp
  have hg1 := g1.1
  rw [hll] at hg1
  have hlm : len ≤ maxLen := by
    have : len ≤ len * w := Nat.le_mul_of_pos_right _ h0
    unfold maxLen; omega
  obtain ⟨k1, k2⟩ := hi.allocH cs' E
  unfold Oper.wp
  rw [hr, Oper.upon_value]
  refine ⟨_, _, rfl, qres_sat ⟨[.slice (some ⟨wd'.heap.size, 0, none⟩) (List.range len).length (List.range len).length], ?_, by simp [boxed, SV.isAgg]⟩, k2, k1⟩
  simp only [SatC]
  refine ⟨some ⟨wd'.heap.size, 0, none⟩, rfl, by simpa using hlm, (fun h => by cases h), fun i hi' => ?_⟩
  simp only [List.length_range] at hi'
  have hle := mul_le_len (w := w) hi'
  refine ⟨wd'.heap.size, 0, E, (0, 0), cs'.toArray, rfl, by simp [Env.cl], by simp; omega, ?_⟩
  have hr2 : (List.range len).getD i 0 = i := by simp [List.getD, hi']
  rw [hr2, Nat.zero_add]
  exact dat_env _ (datPL_at hd (by rw [hll]; exact hi')) (g1.2 i (by rw [hll]; exact hi'))
end
end Go.Sx
