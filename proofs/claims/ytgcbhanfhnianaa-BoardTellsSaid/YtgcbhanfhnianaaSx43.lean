import Derived.Test.YtgcbhanfhnianaaSx42
import Derived.Conc.RwLoneW
/-! Sx, part 43: a sync.RWMutex in one goroutine; a function that defers its unlocking. -/
set_option linter.unusedSimpArgs false
set_option linter.unusedVariables false
namespace Go.Sx
open Go Go.Conc.Locks Go.RwLone
variable {P : Program}
/-- The lock: the writers' own mutex, the readers' count. -/
def muV (s c : Int) : SV := .agg [.agg [.agg [], .agg [.int .i32 s, .int .u32 0]], .int .u32 0, .int .u32 0, .agg [.agg [], .int .i32 c], .agg [.agg [], .int .i32 0]]
def muC (s c : Int) (xs : List Value) : List Value := .int .i32 s :: .int .u32 0 :: .int .u32 0 :: .int .u32 0 :: .int .i32 c :: .int .i32 0 :: xs
theorem muV_cells {s c : Int} {X : SV} {ε : Env} {cs : List Value} (h : SatC (.agg [muV s c, X]) ε cs) : ∃ xs, cs = muC s c xs ∧ SatC X ε xs := by
  simp only [SatC, SatL, muV] at h
  obtain ⟨a, b, rfl, ⟨a1, b1, rfl, ⟨a2, b2, rfl, rfl, a3, b3, rfl, ⟨a4, b4, rfl, rfl, a5, b5, rfl, rfl, rfl⟩, rfl⟩, a6, b6, rfl, rfl, a7, b7, rfl, rfl, a8, b8, rfl, ⟨a9, b9, rfl, rfl, a10, b10, rfl, rfl, rfl⟩, a11, b11, rfl, ⟨a12, b12, rfl, rfl, a13, b13, rfl, rfl, rfl⟩, rfl⟩, a14, b14, rfl, hX, rfl⟩ := h
  exact ⟨a14, by simp [muC], hX⟩
theorem muV_sat {s c : Int} {X : SV} {ε : Env} {xs : List Value} (h : SatC X ε xs) : SatC (.agg [muV s c, X]) ε (muC s c xs) := by
  simp only [SatC, SatL, muV]
  exact ⟨muC s c [], xs, rfl, ⟨[.int .i32 s, .int .u32 0], [.int .u32 0, .int .u32 0, .int .i32 c, .int .i32 0], rfl, ⟨[], _, rfl, rfl, [.int .i32 s, .int .u32 0], [], rfl, ⟨[_], [_], rfl, rfl, [_], [], rfl, rfl, rfl⟩, rfl⟩,
    [_], _, rfl, rfl, [_], _, rfl, rfl, [_], [_], rfl, ⟨[], [_], rfl, rfl, [_], [], rfl, rfl, rfl⟩, [_], [], rfl, ⟨[], [_], rfl, rfl, [_], [], rfl, rfl, rfl⟩, rfl⟩, xs, [], by simp, h, rfl⟩
theorem modify_congr {α : Type} (a : Array α) (i : Nat) (f g : α → α) (h : ∀ x, a[i]? = some x → f x = g x) : a.modify i f = a.modify i g := by
  apply Array.ext
  · simp
  · intro j h1 h2
    simp only [Array.size_modify] at h1
    rw [Array.getElem_modify, Array.getElem_modify]
    split
    · rename_i e; subst e; exact h _ (Array.getElem?_eq_getElem h1)
    · rfl
theorem setCell_row {w : World} {b k : Nat} {cs : List Value} {T : TypeId} {fz : Nat × Nat} {v : Value} (hb : w.heap[b]? = some (.cells cs.toArray T fz)) : w.setCell ⟨b, k, none⟩ v = w.setRow b (cs.set k v).toArray := by
  unfold World.setCell World.setRow
  congr 1
  refine modify_congr _ _ _ _ fun x hx => ?_
  rw [hb] at hx
  cases hx
  simp
theorem setRow_row {w : World} {b : Nat} {cs cs' : Array Value} : (w.setRow b cs).setRow b cs' = w.setRow b cs' := by
  unfold World.setRow
  congr 1
  apply Array.ext
  · simp
  · intro j h1 h2
    rw [Array.getElem_modify, Array.getElem_modify, Array.getElem_modify]
    split
    · split <;> rename_i h <;> split at h <;> simp_all
    · rfl
section lock
variable {w : World} {b : Nat} {T : TypeId} {xs : List Value}
theorem muC_cell {s c : Int} (hb : w.heap[b]? = some (.cells (muC s c xs).toArray T (0, 0))) (k : Nat) : w.cell? ⟨b, k, none⟩ = (muC s c xs)[k]? := by
  simp [World.cell?, hb]
theorem muC_frozen {s c : Int} (hb : w.heap[b]? = some (.cells (muC s c xs).toArray T (0, 0))) (k : Nat) : w.frozen? ⟨b, k, none⟩ = false := by
  simp [World.frozen?, hb]
theorem muC_set {s c s' c' : Int} (hb : w.heap[b]? = some (.cells (muC s c xs).toArray T (0, 0))) : (w.setCell ⟨b, 0, none⟩ (.int .i32 s')).setCell ⟨b, 0 + 4, none⟩ (.int .i32 c') = w.setRow b (muC s' c' xs).toArray := by
  rw [setCell_row hb, setCell_row (setRow_heap w _ _ _ T _ hb), setRow_row]; rfl
theorem muC_set2 {s c s' c' : Int} (hb : w.heap[b]? = some (.cells (muC s c xs).toArray T (0, 0))) : (w.setCell ⟨b, 0 + 4, none⟩ (.int .i32 c')).setCell ⟨b, 0, none⟩ (.int .i32 s') = w.setRow b (muC s' c' xs).toArray := by
  rw [setCell_row hb, setCell_row (setRow_heap w _ _ _ T _ hb), setRow_row]; rfl
theorem muC_set1 {s c c' : Int} (hb : w.heap[b]? = some (.cells (muC s c xs).toArray T (0, 0))) : w.setCell ⟨b, 0 + 4, none⟩ (.int .i32 c') = w.setRow b (muC s c' xs).toArray := by
  rw [setCell_row hb]; rfl
end lock
/-- A call that turns the lock. -/
def LkC (P : Program) (f : FuncId) (s c s' c' : Int) : Prop := ∀ (w : World) (b : Nat) (T : TypeId) (xs : List Value), w.heap[b]? = some (.cells (muC s c xs).toArray T (0, 0)) →
  Calls P f #[.pointer (some ⟨b, 0, none⟩)] w fun e w' => e = .returned (.tuple #[]) ∧ w' = w.setRow b (muC s' c' xs).toArray
/-- A deferred one. -/
def LkD (P : Program) (f : FuncId) (s c s' c' : Int) : Prop := ∀ (w : World) (b : Nat) (T : TypeId) (xs : List Value) (u : FrameMode), w.heap[b]? = some (.cells (muC s c xs).toArray T (0, 0)) →
  CallsD P f #[.pointer (some ⟨b, 0, none⟩)] u w fun e u' w' => u' = u ∧ (e = .returned (.tuple #[]) ∧ w' = w.setRow b (muC s' c' xs).toArray)
variable {L : RwLink}
theorem lkC_w (H : RwWLib P L) : LkC P L.wlock 0 0 1 (-1073741824) := fun w b T xs hb => by
  refine (wlock_free H b 0 _ _ w (muC_cell hb 0) (muC_cell hb 2) (muC_cell hb 3) (muC_cell hb 4) (muC_frozen hb _) (muC_frozen hb _)).mono ?_
  rintro e w' ⟨h1, h2⟩
  exact ⟨h1, h2.trans (muC_set hb)⟩
theorem lkD_w (H : RwWLib P L) : LkD P L.wunlock 1 (-1073741824) 0 0 := fun w b T xs u hb => by
  refine (wunlock_deferred H b 0 _ _ u w (muC_cell hb 0) (muC_cell hb 2) (muC_cell hb 3) (muC_cell hb 4) (muC_frozen hb _) (muC_frozen hb _)).mono ?_
  rintro e u' w' ⟨h0, h1, h2⟩
  exact ⟨h0, h1, h2.trans (muC_set2 hb)⟩
theorem up1 : Go.RowKit.wrap32 (0 + 1) = 1 := by unfold Go.RowKit.wrap32; omega
theorem down1 : Go.RowKit.wrap32 (1 + -1) = 0 := by unfold Go.RowKit.wrap32; omega
theorem lkC_r (H : RwRLib P L) : LkC P L.rlock 0 0 0 1 := fun w b T xs hb => by
  refine (rlock_open H b 0 0 _ _ w (muC_cell hb 0) (muC_cell hb 3) (muC_cell hb 4) (muC_frozen hb _) (by rw [up1]; decide)).mono ?_
  rintro e w' ⟨h1, h2⟩
  rw [up1] at h2
  exact ⟨h1, h2.trans (muC_set1 hb)⟩
theorem lkD_r (H : RwRLib P L) : LkD P L.runlock 0 1 0 0 := fun w b T xs u hb => by
  refine (runlock_deferred H b 0 1 _ _ u w (muC_cell hb 0) (muC_cell hb 2) (muC_cell hb 4) (muC_frozen hb _) (by rw [down1]; decide)).mono ?_
  rintro e u' w' ⟨h0, h1, h2⟩
  rw [down1] at h2
  exact ⟨h0, h1, h2.trans (muC_set1 hb)⟩
theorem lk_step {f : FuncId} {s c s' c' : Int} (h : LkC P f s c s' c') {m : List Res} {i : Nat} {T : TypeId} {X : SV} (hm : memAt m i = .blk T (.agg [muV s c, X])) : CallStep P f [.ptr i [.fld 0] 0] m (.tup []) (m.set i (.blk T (.agg [muV s' c', X]))) := by
  intro β ε vs w hi hs
  simp only [SatA, SatC] at hs
  obtain ⟨_, _, rfl, ⟨h1, h2, rfl⟩, rfl⟩ := hs
  have hr := hi.good.res i
  rw [hm] at hr
  obtain ⟨cs, hcell, hsat⟩ := hr
  obtain ⟨xs, rfl, hX⟩ := muV_cells hsat
  refine (h w _ T xs hcell).mono ?_
  rintro e w' ⟨rfl, rfl⟩
  exact ⟨_, ε, rfl, Env.Le.refl ε, ⟨[], rfl, rfl⟩, hi.setBlk hm (muV_sat hX)⟩
theorem lk_def {f : FuncId} {s c s' c' : Int} (h : LkD P f s c s' c') {β : Base} {ε : Env} {m : List Res} {w : World} (hi : Inv β ε m w) {i : Nat} {T : TypeId} {X : SV} (hm : memAt m i = .blk T (.agg [muV s c, X])) (u : FrameMode) :
    CallsD P f #[.pointer (some ⟨ε.blk i, 0, none⟩)] u w fun e u' w' => u' = u ∧ (e = .returned (.tuple #[]) ∧ Inv β ε (m.set i (.blk T (.agg [muV s' c', X]))) w') := by
  have hr := hi.good.res i
  rw [hm] at hr
  obtain ⟨cs, hcell, hsat⟩ := hr
  obtain ⟨xs, rfl, hX⟩ := muV_cells hsat
  refine (h w _ T xs u hcell).mono ?_
  rintro e u' w' ⟨rfl, rfl, rfl⟩
  exact ⟨rfl, rfl, hi.setBlk hm (muV_sat hX)⟩
/-- A callee that turns the lock. -/
def FH.lk (f : FuncId) (s c s' c' : Int) (Γ : FH) : FH :=
  FH.on f (fun args m => match args with
    | [.ptr i p o] => match memAt m i with
      | .blk T (.agg [l, X]) => .is (p = [.fld 0] ∧ o = 0 ∧ l = muV s c) (.tup []) (m.set i (.blk T (.agg [muV s' c', X])))
      | _ => .no
    | _ => .no) Γ
theorem FH.lk_ok {f : FuncId} {s c s' c' : Int} {Γ : FH} (hf : okFn P f = true) (h : LkC P f s c s' c') (hΓ : FHOK P Γ) : FHOK P (FH.lk f s c s' c' Γ) :=
  FH.on_ok (fun args m => by
    split
    · split
      · rename_i hm
        rintro ⟨rfl, rfl, rfl⟩
        exact ⟨hf, lk_step h hm⟩
      · trivial
    · trivial) hΓ
/-- A callee that is handed nothing: what it makes may name what is held fast. -/
def FH.mn (f : FuncId) (F : SV) (M : List Res) (Γ : FH) : FH := FH.on f (fun args m => .is (args = []) (ren (shf m.length) F) (m ++ M.map (renR (shf m.length)))) Γ
theorem FH.mn_ok {f : FuncId} {F : SV} {M : List Res} {Γ : FH} (hf : okFn P f = true) (h : FnOK P f [] [] F M) (hΓ : FHOK P Γ) : FHOK P (FH.mn f F M Γ) :=
  FH.on_ok (fun args m hp => ⟨hf, by subst hp; exact call_of_fn0 (m := m) (args := []) h rfl⟩) hΓ
theorem fh_mn (f : FuncId) (F : SV) (M : List Res) (Γ : FH) (g : FuncId) (args : List SV) (m : List Res) : FH.mn f F M Γ g args m = if g = f then .is (args = []) (ren (shf m.length) F) (m ++ M.map (renR (shf m.length))) else Γ g args m := nr rfl
/-! ### A function that defers one call -/
structure DC where
  x : JC
  y : JC
  l : SL
  df : FuncId
  dv : Opd
  z : JC
def DC.flat (d : DC) : IC × IC × List IOp × FuncId × Opd × IC := (d.x.flat, d.y.flat, d.l.flat none, d.df, d.dv, d.z.flat)
def DC.wf (n : Nat) (d : DC) : Bool := d.x.wf n && (d.y.wf n && (d.l.wf n && d.z.wf n))
def dfOps (P : Program) (ops : Array Oper) : Option (List IOp × FuncId × Opd) := match ops.toList.getLast? with
  | some o => match o.op, o.guard, o.dst with
    | .defer ⟨.value (.func f), as, _⟩, none, none => match as.toList with
      | [x] => match compO x, ops.toList.dropLast.mapM (compOp P ops) with
        | some x, some l => some (l, f, x)
        | _, _ => none
      | _ => none
    | _, _, _ => none
  | none => none
def compDf (P : Program) (quiet : FuncId → Bool) : Code → Option (IC × IC × List IOp × FuncId × Opd × IC)
  | .seq a (.seq b (.seq (.region _ ops false) c)) => match comp P quiet a, comp P quiet b, dfOps P ops, comp P quiet c with
    | some a, some b, some (l, f, x), some c => some (a, b, l, f, x, c)
    | _, _, _, _ => none
  | _ => none
theorem dfOps_ok {ops : Array Oper} {l : List IOp} {f : FuncId} {x : Opd} (h : dfOps P ops = some (l, f, x)) : ∃ pre o x' ts, ops.toList = pre ++ [o] ∧ o.op = .defer ⟨.value (.func f), #[x'], ts⟩ ∧ o.guard = none ∧ o.dst = none ∧ compO x' = some x ∧ pre.mapM (compOp P ops) = some l := by
  unfold dfOps at h
  split at h <;> try (cases h; done)
  rename_i o ho
  split at h <;> try (cases h; done)
  rename_i f' as ts h1 h2 h3
  split at h <;> try (cases h; done)
  rename_i x' hx
  split at h <;> try (cases h; done)
  rename_i x2 l2 g1 g2
  simp only [Option.some.injEq, Prod.mk.injEq] at h
  obtain ⟨rfl, rfl, rfl⟩ := h
  obtain ⟨ys, e⟩ := List.getLast?_eq_some_iff.1 ho
  have has : as = #[x'] := by rw [← Array.toList_inj]; simpa using hx
  refine ⟨ops.toList.dropLast, o, x', ts, by rw [e]; simp, by rw [h1, has], h2, h3, g1, g2⟩
theorem compDf_ok {quiet : FuncId → Bool} {c : Code} {d : DC} (h : compDf P quiet c = some d.flat) : ∃ cx cy id ops cz, c = .seq cx (.seq cy (.seq (.region id ops false) cz)) ∧ comp P quiet cx = some d.x.flat ∧ comp P quiet cy = some d.y.flat ∧ dfOps P ops = some (d.l.flat none, d.df, d.dv) ∧ comp P quiet cz = some d.z.flat := by
  unfold compDf at h
  split at h <;> try (cases h; done)
  rename_i a b id ops c'
  split at h <;> try (cases h; done)
  rename_i h1 h2 h3 h4
  simp only [DC.flat, Option.some.injEq, Prod.mk.injEq] at h
  obtain ⟨rfl, rfl, rfl, rfl, rfl, rfl⟩ := h
  exact ⟨a, b, id, ops, c', rfl, h1, h2, h3, h4⟩
def fnD (P : Program) (quiet : FuncId → Bool) (f : FuncId) : Option ((IC × IC × List IOp × FuncId × Opd × IC) × List ResultVar × Nat) := match P.funcs[f]? with
  | some fn => match fn.body with
    | some c => match compDf P quiet c with
      | some ic => if fn.name != "runtime.NumGoroutine" then some (ic, fn.results.toList, fn.ntmps) else none
      | none => none
    | none => none
  | none => none
theorem fnD_ok {quiet : FuncId → Bool} {f : FuncId} {ic : IC × IC × List IOp × FuncId × Opd × IC} {rs : List ResultVar} {nt : Nat} (h : fnD P quiet f = some (ic, rs, nt)) : okFn P f = true ∧ ∃ fn c, P.funcs[f]? = some fn ∧ fn.body = some c ∧ compDf P quiet c = some ic ∧ fn.results.toList = rs ∧ fn.ntmps = nt := by
  unfold fnD at h
  split at h <;> try (cases h; done)
  rename_i fn hf
  split at h <;> try (cases h; done)
  rename_i c hc
  split at h <;> try (cases h; done)
  rename_i ic' hic
  split at h <;> try (cases h; done)
  rename_i hn
  simp only [Option.some.injEq, Prod.mk.injEq] at h
  obtain ⟨rfl, rfl, rfl⟩ := h
  refine ⟨?_, fn, c, hf, hc, hic, rfl, rfl⟩
  unfold okFn
  rw [hf]
  simp [hc]
  simpa using hn
/-- The lock is let go at the end. -/
def offF (i : Nat) (s c s' c' : Int) (Q : Ex → Fr → List Res → Prop) (e : Ex) (τ : Fr) (m : List Res) : Prop := match memAt m i with
  | .blk T (.agg [l, X]) => l = muV s c ∧ Q e τ (m.set i (.blk T (.agg [muV s' c', X])))
  | _ => False
def DC.wp (Γ : FH) (n0 : Nat) (s c s' c' : Int) (d : DC) (Q : Ex → Fr → List Res → Prop) (τ : Fr) (m : List Res) : Prop :=
  d.x.wp Γ n0 (fun e τ m => match e with
    | .norm => d.y.wp Γ n0 (fun e τ m => match e with
      | .norm => d.l.wp Γ false (fun τ m => match d.dv.fv τ with
        | .ptr i p o => (i < n0 ∧ o = 0) ∧ d.z.wp Γ n0 (offF i s c s' c' Q) τ m
        | _ => False) τ m
      | _ => False) τ m
    | _ => False) τ m
theorem sat_ptrV {ε : Env} {i o : Nat} {p : List Step} {v : Value} (h : SatV ε (.ptr i p o) v) : v = .pointer (some ⟨ε.blk i, o, none⟩) := by
  obtain ⟨cs, h1, rfl⟩ := h
  simp only [SatC] at h1
  obtain ⟨_, _, rfl⟩ := h1
  rfl
theorem fn_walkD {quiet : FuncId → Bool} {f : FuncId} {dc : DC} {rs : List ResultVar} {nt : Nat} (hfn : fnD P quiet f = some (dc.flat, rs, nt)) (hwf : dc.wf nt = true) {Γ : FH} (hΓ : FHOK P Γ) {s c s' c' : Int} (hok : okFn P dc.df = true) (hU : LkD P dc.df s c s' c') {args : List SV} {m0 m1 : List Res} {res : SV} (hn' : Nat.ble args.length nt = true)
    (h : dc.wp Γ m0.length s c s' c' (endF rs P m0.length res m1) (argF 0 args) m0) : FnOK P f args m0 res m1 := by
  have hn : args.length ≤ nt := Nat.le_of_ble_eq_true hn'
  obtain ⟨_, fn, c0, hf, hb, hc, hrs, hnt⟩ := fnD_ok hfn
  obtain ⟨cx, cy, id, ops, cz, rfl, hx, hy, hd, hz⟩ := compDf_ok hc
  obtain ⟨pre, o, x', ts, p1, p2, p3, p4, p5, p6⟩ := dfOps_ok hd
  simp only [DC.wf, Bool.and_eq_true] at hwf
  intro ε w vs hg hs
  have hlen : args.length = vs.length := (slots_start hs 0).1 |> fun h => by simpa using h
  refine calls_of_wp_defers hf hb ?_
  have hi := Inv.start hg
  have hsl := slots_start hs (nt - args.length)
  have e : fn.ntmps - vs.toArray.size = nt - args.length := by simp; omega
  rw [e]
  have hb0 := Nat.le_of_eq hg.n
  refine wp_seq (Code.wp_mono (fun e a w1 he => ?_) (JC.sound hΓ hb0 (d := []) dc.x cx hx hwf.1 _ _ _ h ε _ w hi ⟨_, argF_rep args nt hn, hsl⟩ rfl))
  obtain ⟨ex, τ1, m1', ε1, h1, h2, h3, h4, h5⟩ := he
  cases ex with
  | exit k => exact h2.elim
  | ret => exact h2.elim
  | norm =>
  cases e <;> simp only [ExRel] at h1
  show Code.wp P (.seq cy _) _ a w1
  refine wp_seq (Code.wp_mono (fun e a w1 he => ?_) (JC.sound hΓ hb0 (d := []) dc.y cy hy hwf.2.1 _ _ _ h2 ε1 _ w1 h3 h4 h5))
  obtain ⟨ex, τ1, m1', ε1, h1, h2, h3, h4, h5⟩ := he
  cases ex with
  | exit k => exact h2.elim
  | ret => exact h2.elim
  | norm =>
  cases e <;> simp only [ExRel] at h1
  show Code.wp P (.seq (.region id ops false) cz) _ a w1
  refine wp_seq (wp_region_list ?_)
  rw [p1]
  obtain ⟨σ, r1, r2⟩ := h4
  have k := wp_ok dc.l τ1 σ m1' _ (fun σ' m' => ∃ τ', Rep nt σ' τ' ∧ _) hwf.2.2.1 r1 h2 (fun σ' τ' m' hr hq => ⟨τ', hr, hq⟩)
  refine wpList_append hΓ.hook pre _ σ m1' _ p6 k (fun σ2 m2 ε2 a2 w2 ⟨τ2, hr2, hq2⟩ hi2 hs2 hd2 => ?_) ε1 a w1 h3 r2 h5
  have hv2 := compO_ok p5 hs2
  cases hdv : dc.dv.fv τ2 <;> rw [hdv] at hq2 <;> try exact hq2.elim
  rename_i i p off
  obtain ⟨⟨hin, rfl⟩, hq2⟩ := hq2
  rw [le_eq (hr2.fv dc.dv) hdv (by intro h; cases h)] at hv2
  have hv2 := sat_ptrV hv2
  refine wpList_plain p3 fun K' hK' => ?_
  have hrun : (execOp a2.eval o).run P w2 = .ok (.defer ⟨.fn (.func dc.df) #[], #[.pointer (some ⟨ε2.blk i, 0, none⟩)]⟩) w2 := by
    have ef : a2.eval (.func dc.df) = .func (.func dc.df) #[] #[] := rfl
    unfold execOp
    simp [p2, resolve, Deferred.ofValue, ef, hv2]
  unfold Oper.wp
  rw [hrun, Oper.upon_defer, p4]
  refine hK' _ _ (wpList_nil ?_)
  show Code.wp P cz _ _ w2
  refine Code.wp_mono (fun e a w' he => ?_) (JC.sound hΓ hb0 (d := [⟨.fn (.func dc.df) #[], #[.pointer (some ⟨ε2.blk i, 0, none⟩)]⟩]) dc.z cz hz hwf.2.2.2 _ _ _ hq2 ε2 _ w2 hi2 ⟨σ2, hr2, hs2⟩ (by show _ :: a2.defers = _; rw [hd2]))
  obtain ⟨ex, τ', m', ε', h1, h2, h3, ⟨σ', hr, h4⟩, h5⟩ := he
  unfold offF at h2
  cases hm : memAt m' i <;> rw [hm] at h2 <;> try exact h2.elim
  rename_i T cc
  split at h2 <;> try exact h2.elim
  rename_i T' l X hcc
  cases hcc
  obtain ⟨rfl, h2⟩ := h2
  replace h2 := endF_ok hr h2
  have hblk : ε2.blk i = ε'.blk i := by
    have hin' : i < ε.n := by rw [hg.n]; exact hin
    rw [hi2.blk i hin', h3.blk i hin']
  have fin : ∀ (hres : resK P σ' (m'.set i (.blk T (.agg [muV s' c', X]))) (fun x => ∃ ks, packK ks m0.length res m1 (m'.set i (.blk T (.agg [muV s' c', X]))) x) rs), Leaves P fn a.tmps (fun e w' => ∃ v ε', e = .returned v ∧ SatV ε' res v ∧ Inv ⟨w, ε, fun b => ∃ i, ownR ε i (memAt m0 i) = some b⟩ ε' m1 w') a.defers .returning w' := by
    intro hres
    rw [h5]
    refine leaves_cons (f := dc.df) (args := #[.pointer (some ⟨ε2.blk i, 0, none⟩)]) (by simp) ?_ ?_
    · simp [invoke, run_callFunc hok]
    · rw [hblk]
      refine (lk_def hU h3 hm _).mono ?_
      rintro e u' w'' ⟨rfl, rfl, hI⟩
      obtain ⟨x, ⟨ks, ⟨k1, k2⟩, k3, k4⟩, hrun⟩ := resK_sound hrs hres
      obtain ⟨v, e1, e2⟩ := hrun ε' a w'' hI.good h4
      refine ⟨v, e1, v, selE ks ε', rfl, ?_, ?_⟩
      · rw [← k3]; exact e2.ren (sel_ren ks ε')
      · rw [← k4]; exact hI.sel ks k1 (fun i hi => k2 i (by rw [← hg.n]; exact hi))
  cases e <;> cases ex <;> simp only [ExRel] at h1
  · exact fin h2
  · exact h2.elim
  · exact fin h2
section words
theorem fh_lk (f : FuncId) (s c s' c' : Int) (Γ : FH) (g : FuncId) (i : Nat) (p : List Step) (o : Nat) (m : List Res) : FH.lk f s c s' c' Γ g [.ptr i p o] m = if g = f then (match memAt m i with
      | .blk T (.agg [l, X]) => .is (p = [.fld 0] ∧ o = 0 ∧ l = muV s c) (.tup []) (m.set i (.blk T (.agg [muV s' c', X])))
      | _ => .no) else Γ g [.ptr i p o] m := nr rfl
theorem fh_lk_not (f : FuncId) (s c s' c' : Int) (Γ : FH) (g : FuncId) (args : List SV) (m : List Res) (h : g ≠ f) : FH.lk f s c s' c' Γ g args m = Γ g args m := nr (if_neg h)
theorem dc_wp {Γ : FH} {n0 : Nat} {s c s' c' : Int} {x y : JC} {l : SL} {df : FuncId} {dv : Opd} {z : JC} {Q : Ex → Fr → List Res → Prop} {τ : Fr} {m : List Res} : DC.wp Γ n0 s c s' c' ⟨x, y, l, df, dv, z⟩ Q τ m = x.wp Γ n0 (fun e τ m => match e with
    | .norm => y.wp Γ n0 (fun e τ m => match e with
      | .norm => l.wp Γ false (fun τ m => match dv.fv τ with
        | .ptr i p o => (i < n0 ∧ o = 0) ∧ z.wp Γ n0 (offF i s c s' c' Q) τ m
        | _ => False) τ m
      | _ => False) τ m
    | _ => False) τ m := propext Iff.rfl
end words
attribute [go_sem ↓] fh_mn dc_wp fh_lk fh_lk_not
attribute [go_sem] muV offF
end Go.Sx
