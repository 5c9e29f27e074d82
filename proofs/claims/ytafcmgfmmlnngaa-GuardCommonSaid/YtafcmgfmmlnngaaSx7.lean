import Derived.Test.YtafcmgfmmlnngaaSx6
/-! Sx, part 7: composites, cuts; and all operations that touch no memory, together. -/
set_option linter.unusedSimpArgs false
set_option linter.unusedVariables false
namespace Go.Sx
open Go

variable {P : Program} {σ : List SV} {K : SV → Prop} {o : Oper}

theorem foldl_set (off : Nat) : ∀ (xs : List Value) (k : Nat) (cs : Array Value), off + k + xs.length ≤ cs.size →
    (xs.zipIdx k).foldl (fun (cs : Array Value) x => cs.setIfInBounds (off + x.2) x.1) cs = (splice cs.toList (off + k) xs).toArray
  | [], k, cs, h => by simp [splice]
  | x :: xs, k, cs, h => by
    simp only [List.length_cons] at h
    simp only [List.zipIdx_cons, List.foldl_cons]
    rw [foldl_set off xs (k + 1) _ (by simp; omega)]
    congr 1
    apply List.ext_getElem?
    intro j
    have hlen : (cs.setIfInBounds (off + k) x).toList.length = cs.toList.length := by simp
    have h2 : cs.toList.length = cs.size := by simp
    rw [splice_get (by rw [hlen, h2]; omega), splice_get (by simp; omega)]
    simp only [Array.toList_setIfInBounds, List.getElem?_set, List.length_cons, h2]
    by_cases hj : off + (k + 1) ≤ j ∧ j < off + (k + 1) + xs.length
    · rw [if_pos hj, if_pos (by omega)]
      have : j - (off + k) = (j - (off + (k + 1))) + 1 := by omega
      rw [this, List.getElem?_cons_succ]
    · rw [if_neg hj]
      by_cases hj2 : off + k = j
      · subst hj2
        rw [if_pos rfl, if_pos (by omega), if_pos (by omega), Nat.sub_self, List.getElem?_cons_zero]
      · rw [if_neg hj2, if_neg (by omega)]

theorem zipIdx_foldl (off : Nat) (xs : List Value) (cs : Array Value) (h : off + xs.length ≤ cs.size) :
    xs.toArray.zipIdx.foldl (fun (cs : Array Value) (x : Value × Nat) => cs.setIfInBounds (off + x.2) x.1) cs = (splice cs.toList off xs).toArray := by
  have := foldl_set off xs 0 cs (by omega)
  rw [← Array.foldl_toList, Array.toList_zipIdx]
  simpa using this

theorem bld_fill (place : Nat → Option (Nat × Nat)) (f : Nat → Option (List Step × Nat × Nat)) (hf : ∀ k p o n, f k = some (p, o, n) → place k = some (o, n)) {ε : Env} {a : Act} (hs : SlotsOK ε σ a) :
    ∀ (parts : List (Nat × Operand)) (ys : List (List Step × Nat × Nat × Opd)) (z : SV) (cs : List Value), compParts f parts = some ys → SatC z ε cs → ∀ {K : SV → Prop}, bldParts σ z ys K →
      ∃ z' cs', K z' ∧ SatC z' ε cs' ∧ Instr.fill place cs.toArray (parts.map fun x => (x.1, a.eval x.2)) = some cs'.toArray
  | [], ys, z, cs, hc, hz, K, h => by
    simp only [compParts, Option.some.injEq] at hc; subst hc
    exact ⟨z, cs, h, hz, rfl⟩
  | (k, x) :: r, ys, z, cs, hc, hz, K, h => by
    simp only [compParts] at hc
    split at hc <;> try (cases hc; done)
    rename_i p o n y ys' h1 h2 h3
    simp only [Option.some.injEq] at hc; subst hc
    simp only [bldParts] at h
    obtain ⟨⟨hp, hat, hv, hn, hg⟩, h⟩ := h
    obtain ⟨xs, hx1, hx2⟩ := sat_val (compO_ok h2 hs) hv
    have hl := SatC.length _ hx1
    obtain ⟨_, g1, g2⟩ := SatC.get p z 0 o hz hp hat
    simp only [Nat.sub_zero] at g1 g2
    have hset := SatC.set p z 0 o hz hp hat hx1 (by omega)
    rw [Nat.sub_zero] at hset
    obtain ⟨z', cs', i1, i2, i3⟩ := bld_fill place f hf hs r ys' _ _ h3 hset h
    refine ⟨z', cs', i1, i2, ?_⟩
    have hcells : (a.eval x).cells = xs.toArray := by rw [hx2]; exact scalar_cells hx1
    simp only [List.map_cons, Instr.fill, hf k p o n h1, hcells]
    have hsz : xs.toArray.size = n := by simp; omega
    rw [if_neg (by simp [hsz]; omega)]
    have := zipIdx_foldl o xs cs.toArray (by simp; omega)
    simp only at this
    rw [this]
    exact i3

def bldEnd (σ : List SV) : SV → List (List Step × Nat × Nat × Opd) → SV
  | z, [] => z
  | z, (p, _, _, x) :: r => bldEnd σ (setP z p (x.ev σ)) r

theorem bldParts_end : ∀ (ys : List (List Step × Nat × Nat × Opd)) (z : SV) {K : SV → Prop}, bldParts σ z ys K → K (bldEnd σ z ys) ∧ bldParts σ z ys (fun z' => z' = bldEnd σ z ys)
  | [], z, K, h => ⟨h, rfl⟩
  | (p, o, n, x) :: r, z, K, h => by
    simp only [bldParts] at h ⊢
    obtain ⟨i1, i2⟩ := bldParts_end r _ h.2
    exact ⟨i1, h.1, i2⟩

theorem mapM_places {fs : Array Field} (hall : ∀ f ∈ fs.toList, (P.info? f.type).isSome = true) :
    fs.toList.mapM (fun f => (P.info? f.type).map fun i => (f.offset, i.size)) = some (fs.toList.map fun f => (f.offset, ((P.info? f.type).map (·.size)).getD 0)) := by
  generalize fs.toList = l at *
  induction l with
  | nil => rfl
  | cons x r ih =>
    have hx := hall x (by simp)
    have ih := ih (fun f hf => hall f (by simp [hf]))
    cases hi : P.info? x.type with
    | none => rw [hi] at hx; cases hx
    | some i => simp [List.mapM_cons, hi, ih]

theorem sound_bld {t : TypeId} {parts : Array (Nat × Operand)} {p : PIO} (ho : o.op = .build t parts) (hp : compP P o.op = some p) (h : popK σ K p) : ∃ sv, K sv ∧ PureOK P o σ sv := by
  rw [ho] at hp
  simp only [compP, compBld] at hp
  have hmap : ∀ a : Act, (parts.map fun (i, x) => (i, a.eval x)).toList = parts.toList.map fun x => (x.1, a.eval x.2) := by intro a; simp
  have hrun : ∀ (a : Act) w, (execOp a.eval o).run P w = ((Instr.build t (parts.map fun (i, x) => (i, a.eval x))).run P w).andThen fun v w => .ok (.value v) w := by
    intro a w
    simp only [execOp, ho, Sem.run_bind]
    rfl
  split at hp <;> try (cases hp; done)
  · rename_i z fs hz hu
    split at hp <;> try (cases hp; done)
    rename_i hall
    simp only [Option.map_eq_some_iff] at hp
    obtain ⟨ys, hys, rfl⟩ := hp
    simp only [popK] at h
    obtain ⟨h1, h2⟩ := bldParts_end _ _ h
    obtain ⟨i, v, hi, hv, hc⟩ := zok_ok hz
    refine ⟨_, h1.2, fun ε a hs => ?_⟩
    have hplaces := mapM_places (P := P) (fs := fs) (fun f hf => List.all_eq_true.1 hall f hf)
    obtain ⟨_, cs', rfl, g1, g2⟩ := bld_fill ((fs.toList.map fun f => (f.offset, ((P.info? f.type).map (·.size)).getD 0)).toArray[·]?) _ (fun k p o n hk => by
      unfold placeS at hk
      split at hk <;> try (cases hk; done)
      rename_i f hf
      split at hk <;> try (cases hk; done)
      rename_i i2 hi2
      simp only [Option.some.injEq, Prod.mk.injEq] at hk
      obtain ⟨_, rfl, rfl⟩ := hk
      have hf' : fs.toList[k]? = some f := by simpa using hf
      simp [hf', hi2]) hs parts.toList ys z _ hys (hc ε) h2
    have hb : P.built t (parts.map fun (i, x) => (i, a.eval x)).toList = some cs'.toArray := by
      unfold Program.built
      rw [hi, hu]
      simp only [hv, hplaces, hmap]
      simpa using g2
    refine ⟨.agg cs'.toArray, fun w => ?_, ?_⟩
    · rw [hrun, run_build w t _ _ hb]; rfl
    · have hg := satC_sat g1
      rw [h1.1] at hg
      exact hg
  · rename_i z n e hz hu
    split at hp <;> try (cases hp; done)
    rename_i i' hi'
    simp only [Option.map_eq_some_iff] at hp
    obtain ⟨ys, hys, rfl⟩ := hp
    simp only [popK] at h
    obtain ⟨h1, h2⟩ := bldParts_end _ _ h
    obtain ⟨i, v, hi, hv, hc⟩ := zok_ok hz
    refine ⟨_, h1.2, fun ε a hs => ?_⟩
    obtain ⟨_, cs', rfl, g1, g2⟩ := bld_fill (fun k => some (k * i'.size, i'.size)) _ (fun k p o n hk => by simp only [Option.some.injEq, Prod.mk.injEq] at hk ⊢; exact ⟨hk.2.1, hk.2.2⟩) hs parts.toList ys z _ hys (hc ε) h2
    have hb : P.built t (parts.map fun (i, x) => (i, a.eval x)).toList = some cs'.toArray := by
      unfold Program.built
      rw [hi, hu]
      simp only [hv, hi', hmap]
      simpa using g2
    refine ⟨.agg cs'.toArray, fun w => ?_, ?_⟩
    · rw [hrun, run_build w t _ _ hb]; rfl
    · have hg := satC_sat g1
      rw [h1.1] at hg
      exact hg

theorem bound_ok {d : Nat} {x : Option Operand} {x' : Option Opd} {K : Nat → Prop} (hx : compOO x = some x') (h : popK.bound σ d x' K) :
    ∃ l, K l ∧ (x = none → l = d) ∧ ∀ y, x = some y → ∀ ε a, SlotsOK ε σ a → ∃ k, a.eval y = .int k (l : Int) := by
  cases x with
  | none =>
    simp only [compOO, Option.some.injEq] at hx; subst hx
    exact ⟨d, h, fun _ => rfl, fun _ hy => by cases hy⟩
  | some y =>
    simp only [compOO, Option.map_eq_some_iff] at hx
    obtain ⟨y', hy, rfl⟩ := hx
    simp only [popK.bound] at h
    split at h
    · rename_i k j e
      refine ⟨j.toNat, h.2, (fun hh => by cases hh), fun y2 hy2 ε a hs => ⟨k, ?_⟩⟩
      cases hy2
      have := sat_int (e ▸ compO_ok hy hs)
      rw [this, Int.toNat_of_nonneg h.1]
    · exact h.elim

theorem run_bounds {sl : Bool} {len cap l h : Nat} {lo hi : Option Value} (hl : (lo = none ∧ l = 0) ∨ ∃ k, lo = some (.int k (l : Int))) (hh : (hi = none ∧ h = len) ∨ ∃ k, hi = some (.int k (h : Int)))
    (h1 : l ≤ h) (h2 : h ≤ cap) (w : World) : (Instr.sliceBounds sl len cap lo hi none).run P w = .ok (l, h, cap) w := by
  have e1 : ∀ k c, (Instr.sliceBound (.int k (l : Int)) h c).run P w = .ok l w := fun k c => by rw [run_sliceBound w k l h c (by omega) (by omega)]; simp
  have e2 : ∀ k c, (Instr.sliceBound (.int k (h : Int)) cap c).run P w = .ok h w := fun k c => by rw [run_sliceBound w k h cap c (by omega) (by omega)]; simp
  rcases hl with ⟨rfl, rfl⟩ | ⟨k, rfl⟩ <;> rcases hh with ⟨rfl, rfl⟩ | ⟨k', rfl⟩ <;> simp [Instr.sliceBounds, e1, e2]

theorem sound_slice {t : TypeId} {x : Operand} {lo hi mx : Option Operand} {p : PIO} (ho : o.op = .slice t x lo hi mx) (hp : compP P o.op = some p) (h : popK σ K p) : ∃ sv, K sv ∧ PureOK P o σ sv := by
  rw [ho] at hp
  simp only [compP, bind, Option.pure_def] at hp
  obtain ⟨x', hx, hp⟩ := bind_some hp
  obtain ⟨lo', hlo, hp⟩ := bind_some hp
  obtain ⟨hi', hhi, hp⟩ := bind_some hp
  obtain ⟨mx', hmx, hp⟩ := bind_some hp
  have hrun : ∀ (a : Act) w, (∀ n e, P.underlying t ≠ some (.array n e)) → (execOp a.eval o).run P w = ((Instr.slice t (a.eval x) (lo.map a.eval) (hi.map a.eval) (mx.map a.eval)).run P w).andThen fun v w => .ok (.value v) w := by
    intro a w hna
    simp only [execOp, ho, Sem.run_bind, Instr.sliceAt]
    cases hu : P.underlying t with
    | none => simp [Instr.slice, underlying, hu]
    | some d =>
      simp only [run_underlying hu, Result.andThen_ok]
      cases d <;> first
        | rfl
        | exact absurd hu (hna _ _)
  split at hp <;> try (cases hp; done)
  · rename_i hu
    split at hp <;> try (cases hp; done)
    simp only [Option.some.injEq] at hp; subst hp
    have hmx0 : mx = none := by cases mx <;> simp [compOO] at hmx <;> rfl
    subst hmx0
    simp only [popK] at h
    split at h
    · rename_i s e1
      obtain ⟨l, h, hl1, hl2⟩ := bound_ok hlo h
      obtain ⟨hh, ⟨⟨h1, h2⟩, hK⟩, hh1, hh2⟩ := bound_ok hhi h
      refine ⟨_, hK, fun ε a hs => ⟨_, fun w => ?_, mk_str⟩⟩
      have s1 := sat_str (e1 ▸ compO_ok hx hs)
      have hb := run_bounds (P := P) (sl := false) (len := s.length) (cap := s.length) (l := l) (h := hh) (lo := lo.map a.eval) (hi := hi.map a.eval)
        (by cases lo with
          | none => exact .inl ⟨rfl, hl1 rfl⟩
          | some y => obtain ⟨k, hk⟩ := hl2 y rfl ε a hs; exact .inr ⟨k, by simp [hk]⟩)
        (by cases hi with
          | none => exact .inl ⟨rfl, hh1 rfl⟩
          | some y => obtain ⟨k, hk⟩ := hh2 y rfl ε a hs; exact .inr ⟨k, by simp [hk]⟩) h1 h2 w
      rw [hrun a w (fun n e he => by rw [hu] at he; cases he)]
      have hsz : (⟨s.toArray⟩ : ByteArray).size = s.length := by simp [ByteArray.size]
      simp only [Instr.slice, Sem.run_bind, run_underlying hu, Result.andThen_ok, s1, hsz, Option.map_none, Option.isSome_none, Bool.false_eq_true, if_false, hb, Sem.run_pure]
      congr 2
      congr 1
      apply ByteArray.ext
      apply Array.ext'
      simp [ByteArray.data_extract, List.extract_eq_take_drop, List.drop_take]
    · exact h.elim
  · rename_i e hu
    split at hp <;> try (cases hp; done)
    rename_i n ag ht
    simp only [Option.some.injEq] at hp; subst hp
    have hmx0 : mx = none ∧ mx' = none := by
      cases mx with
      | none => simp only [compOO, Option.some.injEq] at hmx; exact ⟨rfl, hmx.symm⟩
      | some y =>
        simp only [compOO, Option.map_eq_some_iff] at hmx
        obtain ⟨y', _, rfl⟩ := hmx
        simp only [popK] at h
    obtain ⟨rfl, rfl⟩ := hmx0
    simp only [popK] at h
    split at h
    · rename_i τ w' d f l0 _ e1
      obtain ⟨rfl, h⟩ := h
      obtain ⟨l, h, hl1, hl2⟩ := bound_ok hlo h
      obtain ⟨hh, ⟨⟨h1, h2⟩, hK⟩, hh1, hh2⟩ := bound_ok hhi h
      refine ⟨_, hK, fun ε a hs => ?_⟩
      obtain ⟨cs, h3, h4⟩ := e1 ▸ compO_ok hx hs
      simp only [SatC] at h3
      obtain ⟨ao, cap, rfl, h5, h6, h7, h8⟩ := h3
      have hv : a.eval x = .slice ao l0.length cap := h4
      have hb := fun w => run_bounds (P := P) (sl := true) (len := l0.length) (cap := cap) (l := l) (h := hh) (lo := lo.map a.eval) (hi := hi.map a.eval)
        (by cases lo with
          | none => exact .inl ⟨rfl, hl1 rfl⟩
          | some y => obtain ⟨k, hk⟩ := hl2 y rfl ε a hs; exact .inr ⟨k, by simp [hk]⟩)
        (by cases hi with
          | none => exact .inl ⟨rfl, hh1 rfl⟩
          | some y => obtain ⟨k, hk⟩ := hh2 y rfl ε a hs; exact .inr ⟨k, by simp [hk]⟩) h1 (Nat.le_trans h2 h5) w
      refine ⟨.slice (if cap = l then ao else ao.map (·.add (l * w'))) (hh - l) (cap - l), fun w => ?_, ?_⟩
      · rw [hrun a w (fun n e he => by rw [hu] at he; cases he)]
        simp only [Instr.slice, Sem.run_bind, run_underlying hu, Result.andThen_ok, hv, Option.map_none, hb, run_sizeOf ht, Sem.run_pure]
      · refine ⟨[.slice (if cap = l then ao else ao.map (·.add (l * w'))) (hh - l) (cap - l)], ?_, rfl⟩
        simp only [SatC]
        have hlen : ((l0.take hh).drop l).length = hh - l := by simp; omega
        refine ⟨if cap = l then ao else ao.map (·.add (l * w')), cap - l, by rw [hlen], by rw [hlen]; omega, by omega, fun hn => ?_, fun i hi' => ?_⟩
        · split at hn
          · omega
          · rw [Option.map_eq_none_iff] at hn; have := h7 hn; omega
        · rw [hlen] at hi'
          obtain ⟨b, off, T, fz, cur, rfl, g2, g3, g4⟩ := h8 (l + i) (by omega)
          refine ⟨b, off + l * w', T, fz, cur, ?_, g2, ?_, ?_⟩
          · rw [if_neg (by omega)]; simp [Addr.add_lit]
          · rw [show off + l * w' + i * w' = off + (l + i) * w' by rw [Nat.add_mul]; omega]; exact g3
          · rw [show off + l * w' + i * w' = off + (l + i) * w' by rw [Nat.add_mul]; omega]
            have : ((l0.take hh).drop l).getD i d = l0.getD (l + i) d := by
              simp only [List.getD_eq_getElem?_getD, List.getElem?_drop]
              rw [List.getElem?_take_of_lt (by omega)]
            rw [this]
            exact g4
    · exact h.elim

theorem popK_sound {p : PIO} (hp : compP P o.op = some p) (h : popK σ K p) : ∃ sv, K sv ∧ PureOK P o σ sv := by
  cases ho : o.op with
  | move x =>
    rw [ho] at hp
    simp only [compP, Option.map_eq_some_iff] at hp
    obtain ⟨y, hy, rfl⟩ := hp
    exact sound_mv (.inl ho) hy h
  | assign x =>
    rw [ho] at hp
    simp only [compP, Option.map_eq_some_iff] at hp
    obtain ⟨y, hy, rfl⟩ := hp
    exact sound_mv (.inr ho) hy h
  | pick c x y =>
    rw [ho] at hp
    simp only [compP, bind, Option.pure_def] at hp
    obtain ⟨c', hc, hp⟩ := bind_some hp
    obtain ⟨x', hx, hp⟩ := bind_some hp
    obtain ⟨y', hy, hp⟩ := bind_some hp
    simp only [Option.some.injEq] at hp; subst hp
    exact sound_pick ho hc hx hy h
  | binOp op t x y yt => exact sound_bin ho hp h
  | unOp op t x => exact sound_un ho hp h
  | convert s d x => exact sound_conv ho hp h
  | fieldAddr s x k => exact sound_fa ho hp h
  | field s x k => exact sound_fld ho hp h
  | indexAddr t x i => exact sound_ia ho hp h
  | index t x i => exact sound_ix ho hp h
  | extract x k => exact sound_ext ho hp h
  | makeFunc f a b => exact sound_mkfn ho hp h
  | nilCheck x => exact sound_nck ho hp h
  | makeInterface t x => exact sound_mkif ho hp h
  | call c => exact sound_b ho hp h
  | build t parts => exact sound_bld ho hp h
  | slice t x lo hi mx => exact sound_slice ho hp h
  | _ => rw [ho] at hp; simp only [compP] at hp; cases hp

end Go.Sx
