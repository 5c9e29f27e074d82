import Derived.Test.YtafcmgfmmlnngaaSx11m
/-! Sx, part 12: calls; make; the operations of a region one behind the other; code. -/
set_option linter.unusedSimpArgs false
set_option linter.unusedVariables false
namespace Go.Sx
open Go

variable {P : Program}

def okFn (P : Program) (f : FuncId) : Bool := match P.funcs[f]? with
  | some fn => fn.name != "runtime.NumGoroutine" && fn.body.isSome
  | none => false

theorem run_callFunc {f : FuncId} (h : okFn P f = true) (args : Array Value) (w : World) : (callFunc f args).run P w = .ok (.enter f args) w := by
  unfold okFn at h
  split at h
  · rename_i fn hf
    simp only [Bool.and_eq_true, bne_iff_ne, ne_eq, Option.isSome_iff_exists] at h
    obtain ⟨h1, b, h2⟩ := h
    simp [callFunc, hf, h1, h2]
  · cases h

/-- A call, seen from the caller. -/
def CallStep (P : Program) (f : FuncId) (args : List SV) (m : List Res) (sv : SV) (m' : List Res) : Prop :=
  ∀ β ε vs w, Inv β ε m w → SatA args ε vs → Calls P f vs.toArray w fun e w' => ∃ v ε', e = .returned v ∧ ε.Le ε' ∧ SatV ε' sv v ∧ Inv β ε' m' w'

/-- The hook's word holds. -/
def HookOK (P : Program) (Γ : Hook) : Prop := ∀ f args m K, Γ f args m K → okFn P f = true ∧ ∃ sv m', K sv m' ∧ CallStep P f args m sv m'

section
variable {o : Oper} {σ : List SV} {m : List Res}

theorem SatA.append {ε : Env} : ∀ {l1 l2 : List SV} {v1 v2 : List Value}, SatA l1 ε v1 → SatA l2 ε v2 → SatA (l1 ++ l2) ε (v1 ++ v2)
  | [], l2, v1, v2, h1, h2 => by simp only [SatA] at h1; subst h1; simpa using h2
  | x :: r, l2, v1, v2, h1, h2 => by
    simp only [SatA] at h1
    obtain ⟨cs, t, rfl, h3, h4⟩ := h1
    simp only [List.cons_append, SatA]
    exact ⟨cs, t ++ v2, rfl, h3, SatA.append h4 h2⟩

theorem estep_enter {Γ : Hook} (hΓ : HookOK P Γ) {f : FuncId} {args : List SV} {K : SV → List Res → Prop} (h : Γ f args m K)
    (hrun : ∀ ε a w, Good ε m w → SlotsOK ε σ a → ∃ vs, SatA args ε vs ∧ (okFn P f = true → (execOp a.eval o).run P w = .ok (.enter f vs.toArray) w)) :
    ∃ sv m', K sv m' ∧ EStepL P o σ m sv m' := by
  obtain ⟨hok, sv, m', hK, hc⟩ := hΓ f args m K h
  refine ⟨sv, m', hK, fun β ε a w hi hs Q => ?_⟩
  obtain ⟨vs, h1, h2⟩ := hrun ε a w hi.good hs
  unfold Oper.wp
  rw [h2 hok, Oper.upon_enter]
  refine (hc β ε vs w hi h1).mono fun e w' ⟨v, ε', he, hl, hv, hi'⟩ => ?_
  subst he
  exact ⟨v, ε', rfl, hv, hl, hi'⟩

theorem estep_call {Γ : Hook} (hΓ : HookOK P Γ) {f : FuncId} {args : Array Operand} {tys : Array TypeId} {ys : List Opd} {K : SV → List Res → Prop}
    (ho : o.op = .call { callee := .value (.func f), args, argTypes := tys }) (hy : args.toList.mapM compO = some ys) (hv : (ys.map (·.ev σ)).all SV.isVal = true)
    (h : Γ f (ys.map (·.ev σ)) m K) : ∃ sv m', K sv m' ∧ EStepL P o σ m sv m' := by
  refine estep_enter hΓ h fun ε a w hg hs => ⟨_, sat_caps hs args.toList ys hy hv, fun hok => ?_⟩
  have : (args.toList.map a.eval).toArray = args.map a.eval := by apply Array.ext'; simp
  simp [execOp, ho, resolve, Deferred.ofValue, invoke, Act.eval, run_callFunc hok]
  apply Array.ext'; simp

theorem estep_callv {Γ : Hook} (hΓ : HookOK P Γ) {x : Operand} {x' : Opd} {f : FuncId} {cap : List SV} {args : Array Operand} {tys : Array TypeId} {ys : List Opd} {K : SV → List Res → Prop}
    (ho : o.op = .call { callee := .value x, args, argTypes := tys }) (hx : compO x = some x') (hf : x'.ev σ = .fn f cap) (hy : args.toList.mapM compO = some ys) (hv : (ys.map (·.ev σ)).all SV.isVal = true)
    (h : Γ f (ys.map (·.ev σ) ++ cap) m K) : ∃ sv m', K sv m' ∧ EStepL P o σ m sv m' := by
  refine estep_enter hΓ h fun ε a w hg hs => ?_
  obtain ⟨cv, h1, h2⟩ := sat_fn (hf ▸ compO_ok hx hs)
  refine ⟨_, (sat_caps hs args.toList ys hy hv).append h1, fun hok => ?_⟩
  simp [execOp, ho, resolve, h2, Deferred.ofValue, invoke, run_callFunc hok]

def icOf (P : Program) (nm : String) (t : TypeId) : Option (TypeId × FuncId) := match P.info? t with
  | some i => match i.methods.find? (·.name == nm) with
    | some mth => match mth.func with
      | some (f, false) => if mth.path.isEmpty then (match P.underlying t with
        | some (.pointer _) => none
        | some _ => some (t, f)
        | none => none) else none
      | _ => none
    | none => none
  | none => none
/-- A method of a name, at the types that have it. -/
def icTab (P : Program) (nm : String) : List (TypeId × FuncId) := (List.range P.types.size).filterMap (icOf P nm)
theorem tabF_mem {t : TypeId} {f : FuncId} : ∀ {l : List (TypeId × FuncId)}, tabF l t = some f → (t, f) ∈ l
  | [], h => by cases h
  | (u, x) :: r, h => by
    simp only [tabF] at h
    split at h
    · rename_i hu
      cases h; subst hu; exact List.mem_cons_self
    · exact List.mem_cons_of_mem _ (tabF_mem h)
theorem icTab_ok {nm : String} {t : TypeId} {f : FuncId} (h : tabF (icTab P nm) t = some f) : ∀ (v : Value) (n : Nat) (w : World), (method (n + 1) t v nm).run P w = .ok (f, v) w := by
  obtain ⟨u, _, hu⟩ := List.mem_filterMap.1 (tabF_mem h)
  unfold icOf at hu
  split at hu <;> try (cases hu; done)
  rename_i i hi
  split at hu <;> try (cases hu; done)
  rename_i mth hm
  split at hu <;> try (cases hu; done)
  rename_i f' hf
  split at hu <;> try (cases hu; done)
  rename_i hp
  split at hu <;> try (cases hu; done)
  rename_i d hnp hd
  simp only [Option.some.injEq, Prod.mk.injEq] at hu
  obtain ⟨rfl, rfl⟩ := hu
  intro v n w
  have hp' : mth.path.toList = [] := by simpa using hp
  have hrec : ∀ wr, (receiverAt u (.val v) false wr).run P w = .ok v w := by
    intro wr
    simp only [receiverAt, Sem.run_bind, run_underlying hd, Result.andThen_ok]
    cases d <;> first
      | exact absurd hd (hnp _)
      | rfl
  simp [method, run_info hi, hm, hp', follow, hf, hrec]
theorem recv_at (r : Value) (b : Array Value) : (#[r] ++ b)[0]? = some r := by
  rw [Array.getElem?_append_left (by simp)]
  rfl
theorem recv_rest (r : Value) (b : Array Value) : (#[r] ++ b).extract 1 (#[r] ++ b).size = b := by
  apply Array.ext'
  simp only [Array.toList_extract, Array.size_append]
  simp only [List.extract, Array.toList_append, List.size_toArray, List.length_cons, List.length_nil]
  rw [show (0 + 1 + b.size - 1) = b.toList.length by simp]
  exact List.take_length
theorem estep_icall {Γ : Hook} (hΓ : HookOK P Γ) {x : Operand} {nm : String} {x' : Opd} {t : TypeId} {v : SV} {f : FuncId} {args : Array Operand} {tys : Array TypeId} {ys : List Opd} {K : SV → List Res → Prop}
    (ho : o.op = .call { callee := .invoke x nm, args, argTypes := tys }) (hx : compO x = some x') (hf : x'.ev σ = .iface t v) (ht : tabF (icTab P nm) t = some f) (hy : args.toList.mapM compO = some ys) (hv : (ys.map (·.ev σ)).all SV.isVal = true)
    (h : Γ f (v :: ys.map (·.ev σ)) m K) : ∃ sv m', K sv m' ∧ EStepL P o σ m sv m' := by
  refine estep_enter hΓ h fun ε a w hg hs => ?_
  obtain ⟨xs, h1, h2⟩ := sat_iface (hf ▸ compO_ok hx hs)
  refine ⟨boxed v.isAgg xs :: _, by simp only [SatA]; exact ⟨xs, _, rfl, h1, sat_caps hs args.toList ys hy hv⟩, fun hok => ?_⟩
  have hm := icTab_ok ht (boxed v.isAgg xs) (P.types.size + 99) w
  simp only [execOp, ho, resolve, Sem.run_bind, Sem.run_pure, Result.andThen_ok, h2, invoke, recv_at, recv_rest, callMethod]
  simp [Made.depth, hm, run_callFunc hok]

theorem estep_mks {T E : TypeId} {w by' : Nat} {z : SV} {l c : Operand} {l' c' : Opd} {kl kc : IntKind} {nl nc : Int} (ho : o.op = .makeSlice T l c) (ht : compApp P T = some (E, w, by')) (hz' : zok P E = some z)
    (hl : compO l = some l') (hc : compO c = some c') (el : l'.ev σ = .int kl nl) (ec : c'.ev σ = .int kc nc) (h0 : 0 ≤ nl) (hlc : nl ≤ nc) (hb : nc * by' ≤ 140737488355328) :
    EStepL P o σ m (.vec m.length nl.toNat) (m ++ [.vec E w (List.replicate nl.toNat z)]) := by
  intro β ε a W hI hs Q
  obtain ⟨hu, i, zv, hi, hz, hsz, hby, hzs, hw0, hb0⟩ := compApp_ok ht
  obtain ⟨i2, v2, e1, e2, e3⟩ := zok_ok hz'
  rw [hi] at e1; cases e1
  rw [hz] at e2; cases e2
  have s1 := sat_int (el ▸ compO_ok hl hs)
  have s2 := sat_int (ec ▸ compO_ok hc hs)
  have hnc : nc ≤ 9223372036854775807 := by
    have : nc * 1 ≤ nc * by' := Int.mul_le_mul_of_nonneg_left (by omega) (by omega)
    omega
  have hr : (execOp a.eval o).run P W = .ok (.value (.slice (some ⟨W.heap.size, 0, none⟩) nl.toNat nc.toNat)) (W.alloc (.cells (madeCells zv.cells (nc.toNat * i.size)) E)) := by
    have := run_make (P := P) W T E i zv hu hi hz kl kc nl nc h0 hlc (by rw [hby, Int.mul_comm]; omega) hnc
    simp [execOp, ho, s1, s2, this]
  have hcm : nc.toNat ≤ maxLen := by unfold maxLen; omega
  subst hsz
  have hzl : zv.cells.toList.length = i.size := by simpa using hzs
  have hEz := satE_zero (n := nl.toNat) (e3 ε) hzl
  unfold Oper.wp
  rw [hr, Oper.upon_value]
  refine ⟨_, ε.more 0 (.slice (some ⟨W.heap.size, 0, none⟩) nl.toNat nc.toNat), rfl, ?_, ε.le_more _ _, hI.more (World.grownBy_alloc _ _ _) ?_ ?_⟩
  · refine ⟨[.slice (some ⟨W.heap.size, 0, none⟩) nl.toNat nc.toNat], ?_, rfl⟩
    simp only [SatC]
    refine ⟨by simp [Env.more, hI.good.n], .inr ⟨W.heap.size, nc.toNat, ?_, by omega⟩, ?_⟩ <;> simp [Env.more, hI.good.n]
  · have hvv : (ε.more 0 (.slice (some ⟨W.heap.size, 0, none⟩) nl.toNat nc.toNat)).vv m.length = .slice (some ⟨W.heap.size, 0, none⟩) nl.toNat nc.toNat := by simp [Env.more, hI.good.n]
    refine ⟨_, ?_, fun j hj => (hEz.2 j hj).mono _ (ε.le_more _ _)⟩
    rw [hvv]
    refine ⟨hEz.1, .inr ⟨W.heap.size, nc.toNat, madeCells zv.cells (nc.toNat * i.size), by simp, Nat.zero_le _, heap_alloc_new W _, by simp; omega, hcm, by simp [madeCells], ?_⟩⟩
    have hle : nl.toNat * i.size ≤ nc.toNat * i.size := Nat.mul_le_mul_right _ (by omega)
    simp only [List.length_replicate]
    apply List.ext_getElem?
    intro k
    rw [List.getElem?_take]
    by_cases hk : k < nl.toNat * i.size
    · rw [if_pos hk]
      simp [madeCells, hk, show k < nc.toNat * i.size by omega]
    · rw [if_neg hk, List.getElem?_eq_none (by simp; omega)]
  · intro x hx
    simp [ownR, Env.more, hI.good.n, Value.ownBlock] at hx
    omega
end

inductive IO1 : Type 1 where
  | p (x : PIO)
  | e (x : EIO)

structure IOp : Type 1 where
  dst : Option Nat
  guard : Option (Nat × Bool)
  op : IO1

def compE (P : Program) : Op → Option EIO
  | .alloc T => (zok P T).map (.alloc T)
  | .box T x => (compO x).map (.box T)
  | .load T x => match compO x, tsz P T with
    | some x, some (n, ag) => some (.load n ag x)
    | _, _ => none
  | .store T x v => match compO x, compO v, tsz P T with
    | some x, some v, some (n, _) => some (.store n x v)
    | _, _, _ => none
  | .buildSlice T len parts => match P.underlying T with
    | some (.slice E) => match zok P E, tsz P E, compEls parts.toList with
      | some z, some (w, _), some ys => if wd z = w ∧ len * w ≤ 2 ^ 24 ∧ 0 < w then some (.bsl E w len z ys) else none
      | _, _, _ => none
    | _ => none
  | .makeSlice T l c => match compApp P T, compO l, compO c with
    | some (E, w, by'), some l, some c => match zok P E with
      | some z => some (.mks E w by' z l c)
      | none => none
    | _, _, _ => none
  | .call c => match compM P (.call c) with
    | some p => some (.mop p.1 p.2)
    | none => compC P c
  | op => (compM P op).map fun p => .mop p.1 p.2
where compC (P : Program) (c : Call) : Option EIO :=
  match c.callee with
  | .builtin .append => match c.args.toList, c.argTypes.toList with
    | [s, x], [t, t'] => if t' = t then match compApp P t, compO s, compO x with
        | some (E, w, by'), some s, some x => some (.app E w by' s x)
        | _, _, _ => none
      else none
    | _, _ => none
  | .value (.func f) => (c.args.toList.mapM compO).map (.call f)
  | .value x => match compO x, c.args.toList.mapM compO with
    | some x, some ys => some (.callv x ys)
    | _, _ => none
  | .invoke x nm => match compO x, c.args.toList.mapM compO with
    | some x, some ys => some (.icall (icTab P nm) x ys)
    | _, _ => none
  | _ => none

theorem compE_M {op : Op} {k : MK} {ys : List Opd} (h : compM P op = some (k, ys)) : compE P op = some (.mop k ys) := by
  cases op <;> simp only [compM] at h <;> try (cases h; done)
  all_goals simp only [compE, compM, h, Option.map_some]

def eopK (Γ : Hook) (σ : List SV) (m : List Res) (K : List SV → SV → List Res → Prop) : EIO → Prop
  | .alloc T z => K σ (.ptr m.length [] 0) (m ++ [.blk T z])
  | .box T x => (x.ev σ).isVal = true ∧ K σ (.ptr m.length [] 0) (m ++ [.blk T (x.ev σ)])
  | .load n ag x => peek m n ag (fun sv => K σ sv m) (x.ev σ)
  | .store n x v => poke m n (v.ev σ) (fun m' => K σ .junk m') (x.ev σ)
  | .bsl E w len z ys => bslParts σ w (List.replicate len z) ys fun l => K σ (.vec m.length len) (m ++ [.vec E w l])
  | .mks E w by' z l c => match l.ev σ, c.ev σ with
    | .int _ a, .int _ b => (0 ≤ a ∧ a ≤ b ∧ b * by' ≤ 140737488355328) ∧ K σ (.vec m.length a.toNat) (m ++ [.vec E w (List.replicate a.toNat z)])
    | _, _ => False
  | .app E w by' s x => appK σ m E w by' (s.ev σ) (x.ev σ) K
  | .call f ys => (ys.map (·.ev σ)).all SV.isVal = true ∧ Γ f (ys.map (·.ev σ)) m fun sv m' => K σ sv m'
  | .qcall f ys => (ys.map (·.ev σ)).all SV.isVal = true ∧ Γ f (ys.map (·.ev σ)) m fun sv m' => m' = m ∧ K σ sv m
  | .qtab l => K σ (.lst 1 (0 : Int) (SV.int .i64) l) m
  | .qbsl E w len z ys => bslParts σ w (List.replicate len z) ys fun l => datPL l ∧ K σ (qres w len l) m
  | .again n ag x d => (σ.getD d .junk).isVal = true ∧ peek m n ag (fun sv => sv = σ.getD d .junk ∧ K σ .junk m) (x.ev σ)
  | .icall tab x ys => match x.ev σ with
    | .iface t v => match tabF tab t with
      | some f => (ys.map (·.ev σ)).all SV.isVal = true ∧ Γ f (v :: ys.map (·.ev σ)) m fun sv m' => K σ sv m'
      | none => False
    | _ => False
  | .callv x ys => match x.ev σ with
    | .fn f cap => (ys.map (·.ev σ)).all SV.isVal = true ∧ Γ f (ys.map (·.ev σ) ++ cap) m fun sv m' => K σ sv m'
    | _ => False
  | .mop k ys => (ys.map (·.ev σ)).all SV.isVal = true ∧ mopK m k (ys.map (·.ev σ)) fun sv m' => K σ sv m'

theorem eopK_sound {Γ : Hook} (hΓ : HookOK P Γ) {o : Oper} {σ : List SV} {m : List Res} {K : List SV → SV → List Res → Prop} {e : EIO} (he : compE P o.op = some e) (h : eopK Γ σ m K e) :
    ∃ σ' sv m', K σ' sv m' ∧ EStep P o σ m σ' sv m' := by
  cases hM : compM P o.op with
  | some p =>
    obtain ⟨k, ys⟩ := p
    rw [compE_M hM] at he
    cases he
    obtain ⟨sv, m', hK, hE, _⟩ := estep_mop (K := fun sv m' => K σ sv m') hM h.1 h.2
    exact ⟨_, _, _, hK, hE.step⟩
  | none =>
  cases ho : o.op <;> rw [ho] at he hM <;> simp only [compE, hM, Option.map_none] at he <;> try (cases he; done)
  case alloc T =>
    simp only [Option.map_eq_some_iff] at he
    obtain ⟨z, hz, rfl⟩ := he
    exact ⟨_, _, _, h, (estep_alloc ho hz).step⟩
  case box T x =>
    simp only [Option.map_eq_some_iff] at he
    obtain ⟨x', hx, rfl⟩ := he
    exact ⟨_, _, _, h.2, (estep_box ho hx h.1).step⟩
  case buildSlice T len parts =>
    split at he <;> try (cases he; done)
    rename_i E hu
    split at he <;> try (cases he; done)
    rename_i z w ag ys h1 h2 h3
    split at he <;> try (cases he; done)
    rename_i hc
    simp only [Option.some.injEq] at he; subst he
    obtain ⟨l, hK, hE⟩ := estep_bsl (m := m) (σ := σ) (K := fun l => K σ (SV.vec m.length len) (m ++ [Res.vec E w l])) ho hu h1 h2 hc.1 hc.2.1 hc.2.2 h3 h
    exact ⟨_, _, _, hK, hE.step⟩
  case load T x =>
    split at he <;> try (cases he; done)
    rename_i x' n ag hx ht
    simp only [Option.some.injEq] at he; subst he
    obtain ⟨sv, hK, hE⟩ := estep_load (K := fun sv => K σ sv m) ho hx ht h
    exact ⟨_, _, _, hK, hE.step⟩
  case store T x v =>
    split at he <;> try (cases he; done)
    rename_i x' v' n ag hx hv ht
    simp only [Option.some.injEq] at he; subst he
    obtain ⟨m', hK, hE⟩ := estep_store (K := fun m' => K σ .junk m') ho hx hv ht h
    exact ⟨_, _, _, hK, hE.step⟩
  case makeSlice T l c =>
    split at he <;> try (cases he; done)
    rename_i E w by' l' c' ht hl hc
    split at he <;> try (cases he; done)
    rename_i z hz
    simp only [Option.some.injEq] at he; subst he
    simp only [eopK] at h
    split at h
    · rename_i k1 a k2 b e1 e2
      exact ⟨_, _, _, h.2, (estep_mks ho ht hz hl hc e1 e2 h.1.1 h.1.2.1 h.1.2.2).step⟩
    · exact h.elim
  case call c =>
    cases c with
    | mk callee args tys =>
    simp only [compE.compC] at he
    split at he
    · rename_i ec
      split at he <;> try (cases he; done)
      rename_i s x t t' ea et
      split at he <;> try (cases he; done)
      rename_i htt
      subst htt
      split at he <;> try (cases he; done)
      rename_i E w by' s' x' h1 h2 h3
      simp only [Option.some.injEq] at he; subst he
      obtain rfl : args = #[s, x] := by apply Array.ext'; simpa using ea
      obtain rfl : tys = #[t', t'] := by apply Array.ext'; simpa using et
      exact estep_app ho h1 h2 h3 h
    · rename_i f ec
      simp only [Option.map_eq_some_iff] at he
      obtain ⟨ys, hy, rfl⟩ := he
      obtain ⟨sv, m', hK, hE⟩ := estep_call (K := fun sv m' => K σ sv m') hΓ ho hy h.1 h.2
      exact ⟨_, _, _, hK, hE.step⟩
    · rename_i x hne
      split at he <;> try (cases he; done)
      rename_i x' ys hx hy
      simp only [Option.some.injEq] at he; subst he
      simp only [eopK] at h
      split at h
      · rename_i f cap hf
        obtain ⟨sv, m', hK, hE⟩ := estep_callv (K := fun sv m' => K σ sv m') hΓ ho hx hf hy h.1 h.2
        exact ⟨_, _, _, hK, hE.step⟩
      · exact h.elim
    · rename_i x nm hcal
      split at he <;> try (cases he; done)
      rename_i x' ys hx hy
      simp only [Option.some.injEq] at he; subst he
      simp only [eopK] at h
      split at h
      · rename_i t v hf
        split at h
        · rename_i f hta
          obtain ⟨sv, m', hK, hE⟩ := estep_icall (K := fun sv m' => K σ sv m') hΓ ho hx hf hta hy h.1 h.2
          exact ⟨_, _, _, hK, hE.step⟩
        · exact h.elim
      · exact h.elim
    · cases he

end Go.Sx
