import Derived.Test.YtafcmgfmmlnngaaSx35
/-! Sx, part 36: a function that ranges over a function. -/
set_option linter.unusedVariables false
set_option linter.unusedSimpArgs false
namespace Go.Sx
open Go
variable {P : Program}
/-- What the rounds do: 'assign', then the body. -/
def Yrel (Γ : FH) (jA jB : JC) (ps : List Nat) (U : Fr) (args : List SV) (m m1 : List Res) : Prop :=
  args.length = ps.length ∧ jA.wp Γ m.length (fun e τ m' => e = .norm ∧ m' = m ∧ jB.wp Γ m.length (fun e τ' m'' => e = .norm ∧ m.length ≤ m1.length ∧ (m''.take m1.length).map (renR (ltI m1.length)) = m1 ∧ bkOK m m1) τ m') (putsF ps args U) m
/-- What is asked of the function that is ranged over. -/
def ITok (P : Program) (quiet : FuncId → Bool) (n : Nat) (ps : List Nat) (A B : IC) (τ : Fr) (f : FuncId) (cap : List SV) (m m1 : List Res) : Prop :=
  ∀ (cA cB : Code), comp P quiet cA = some A → comp P quiet cB = some B → ∀ (l : Nat) (W : World) (ε : Env) (r : Loop), Good ε m W → Clear ⟨W, ε, ownB ε m⟩ l → W.heap[l]? = some (.loop r) → r.state = .ready → r.pending = none → r.assign = cA → r.body = cB →
    r.params.toList = ps → SlotsF n ε τ { tmps := r.tmps, defers := [] } → ∀ vs, SatA cap ε vs →
      CallsIn (Fw none) 0 P f (#[.func (.yield l) #[] #[]] ++ vs.toArray) W (fun e w' => (∃ v, e = .returned v) ∧ ∃ ε', Inv ⟨W, ε, ownB ε m⟩ ε' m1 w')
theorem it_ok {quiet quiet' : FuncId → Bool} {n : Nat} {ps : List Nat} {jA jB : JC} {τ : Fr} {f : FuncId} {cap : List SV} {m m1 : List Res} {yc : YC} {nt : Nat} (hfn : fnIs P quiet' f = some (yc.flat, [], nt)) (hwf : yc.wf nt = true)
    {Γi Γ : FH} (hΓi : FHOK P Γi) (hΓ : FHOK P Γ) (wA : jA.wf n = true) (wB : jB.wf n = true) (hps : ps.all (fun k => decide (k < n)) = true) (hn : Nat.ble (cap.length + 1) nt = true) {ks : List Nat} (hp : persF (keepF ks τ))
    (h : ∀ yv : Value, yc.wp Γi (Yrel Γ jA jB ps (keepF ks τ)) yv m.length (fun e _ m' => endY m.length m1 e m') (argF 0 (.raw yv :: cap)) m) : ITok P quiet n ps jA.flat jB.flat τ f cap m m1 := by
  intro cA cB hA hB l W ε r hg hcl hl hst hpe has hbo hpa hs vs hvs
  have hsa : SatA (.raw (.func (.yield l) #[] #[]) :: cap) ε ((.func (.yield l) #[] #[]) :: vs) := by
    simp only [SatA]
    exact ⟨[.func (.yield l) #[] #[]], vs, rfl, by simp only [SatC]; exact ⟨rfl, trivial⟩, hvs⟩
  have := iter_ok (rm := 0) hfn hwf hΓi (args := .raw (.func (.yield l) #[] #[]) :: cap) (by simpa using hn) (Y := Yrel Γ jA jB ps (keepF ks τ)) (l := l) hg hsa (m1 := m1)
    (fun args m' m1' hy ε' w' vs' hi hint => round_ok hΓ hA wA hB wB hcl hl hst hpe has hbo (hs.weak fun k => look_keep ks) hp hpa (fun k hk => by simpa using List.all_eq_true.1 hps k hk) hy.1 hy.2 hi hint) (h _)
  have e : ((Value.func (.yield l) #[] #[]) :: vs).toArray = #[.func (.yield l) #[] #[]] ++ vs.toArray := by simp
  rw [e] at this
  exact this
/-- What a block holds is told in other words. -/
theorem Inv.reBlk {β : Base} {ε : Env} {m : List Res} {w : World} (h : Inv β ε m w) {i : Nat} {T : TypeId} {c c' : SV} (hm : memAt m i = .blk T c) (hc : ∀ cs, SatC c ε cs → SatC c' ε cs) : Inv β ε (m.set i (.blk T c')) w := by
  have hi : i < m.length := by
    rcases Nat.lt_or_ge i m.length with hi | hi
    · exact hi
    · rw [memAt_ge hi] at hm; cases hm
  have hat : ∀ j, memAt (m.set i (.blk T c')) j = if j = i then .blk T c' else memAt m j := by
    intro j
    unfold memAt
    rw [List.getD, List.getElem?_set]
    by_cases hj : i = j
    · subst hj; simp [hi]
    · rw [if_neg hj, if_neg (fun e => hj e.symm)]; rfl
  have hown : ∀ j, ownR ε j (memAt (m.set i (.blk T c')) j) = ownR ε j (memAt m j) := by
    intro j
    rw [hat]
    by_cases hj : j = i
    · subst hj; rw [if_pos rfl, hm]; rfl
    · rw [if_neg hj]
  refine ⟨⟨by simp [h.good.n], fun j => ?_, fun a b x hab h1 h2 => ?_, fun a b hb => ?_, h.good.hv⟩, h.kept, fun a b hb => ?_, h.n, h.blk, fun j hj hv => h.vv j hj ?_⟩
  · rw [hat]
    by_cases hj : j = i
    · subst hj
      rw [if_pos rfl]
      have hr := h.good.res j
      rw [hm] at hr
      obtain ⟨cs, h1, h2⟩ := hr
      exact ⟨cs, h1, hc cs h2⟩
    · rw [if_neg hj]; exact h.good.res j
  · rw [hown] at h1 h2; exact h.good.disj a b x hab h1 h2
  · rw [hown] at hb; exact h.good.sep a b hb
  · rw [hown] at hb; exact h.own a b hb
  · rw [hat] at hv
    by_cases hji : j = i
    · subst hji; rw [hm]; rfl
    · rwa [if_neg hji] at hv
/-- A nil slice in a block becomes a slice of the call's own. -/
def vecB (vb : Option (Nat × Nat × Nat)) (τ : Fr) (m : List Res) (K : List Res → Prop) : Prop := match vb with
  | none => K m
  | some (k, E, wd) => match look k τ with
    | .ptr i _ _ => match memAt m i with
      | .blk T .nils => K (m.set i (.blk T (.vec m.length 0)) ++ [.vec E wd []])
      | _ => K m
    | _ => K m
theorem vecB_ok {vb : Option (Nat × Nat × Nat)} {τ : Fr} {m : List Res} {K : List Res → Prop} (hh : vecB vb τ m K) {β : Base} {ε : Env} {w : World} (h : Inv β ε m w) {n : Nat} {a : Act} (hs : SlotsF n ε τ a) : ∃ ε' m', K m' ∧ Inv β ε' m' w ∧ SlotsF n ε' τ a := by
  unfold vecB at hh
  split at hh
  · exact ⟨ε, m, hh, h, hs⟩
  · rename_i k E wd'
    split at hh
    · rename_i i p o hk
      split at hh
      · rename_i T hm
        have hi : i < m.length := by
          rcases Nat.lt_or_ge i m.length with hi | hi
          · exact hi
          · rw [memAt_ge hi] at hm; cases hm
        have hg : w.grownBy w none := World.grownBy.refl w none
        have hi2 := h.more (b := 0) (v := .slice none 0 0) (r := .vec E wd' []) hg ⟨[], ⟨by simp, .inl ⟨by simp [Env.more, h.good.n], rfl⟩⟩, fun j hj => absurd hj (Nat.not_lt_zero _)⟩ (by
          intro x hx
          simp [ownR, Env.more, h.good.n, Value.ownBlock] at hx)
        have hle := ε.le_more 0 (.slice none 0 0)
        have hm2 : memAt (m ++ [.vec E wd' []]) i = .blk T .nils := by rw [memAt_append_lt hi]; exact hm
        have h3 := hi2.reBlk (c' := .vec m.length 0) hm2 (fun cs hc => by
          simp only [SatC] at hc ⊢
          subst hc
          exact ⟨by simp [Env.more, h.good.n], .inl ⟨by simp [Env.more, h.good.n], trivial⟩, by simp [Env.more, h.good.n]⟩)
        rw [List.set_append_left _ _ hi] at h3
        exact ⟨_, _, hh, h3, hs.env hle⟩
      · exact ⟨ε, m, hh, h, hs⟩
    · exact ⟨ε, m, hh, h, hs⟩
inductive IX : Type 1 where
  | c (x : IC)
  | seq (a : IC) (b : IX)
  | rf (x : IC) (id g : Nat) (ps : List Nat) (A B z : IC)
def compX (P : Program) (quiet : FuncId → Bool) : Code → Option IX
  | .seq (.seq x (.block id (.rangeFunc g ps A B))) y => match comp P quiet x, compO g, comp P quiet A, comp P quiet B, comp P quiet y with
    | some x, some (.t g), some A, some B, some y => some (.rf x id g ps.toList A B y)
    | _, _, _, _, _ => none
  | .seq x y => match comp P quiet x, compX P quiet y with
    | some x, some y => some (.seq x y)
    | _, _ => none
  | c => (comp P quiet c).map .c
inductive XC : Type 1 where
  | seq (a : JC) (b : XC)
  | prune (ks : List Nat) (b : XC)
  | rf (x : JC) (id g : Nat) (ps : List Nat) (A B : JC) (vb : Option (Nat × Nat × Nat)) (ks : List Nat) (z : JC)
def XC.flat : XC → IX
  | .seq a b => .seq a.flat b.flat
  | .prune _ b => b.flat
  | .rf x id g ps A B _ _ z => .rf x.flat id g ps A.flat B.flat z.flat
def XC.wf (n : Nat) : XC → Bool
  | .seq a b => a.wf n && b.wf n
  | .prune _ b => b.wf n
  | .rf x _ _ _ _ _ _ _ z => x.wf n && z.wf n
def XC.wp (P : Program) (quiet : FuncId → Bool) (n : Nat) (Γ : FH) (n0 : Nat) : XC → (Ex → Fr → List Res → Prop) → Fr → List Res → Prop
  | .seq a b, Q, τ, m => a.wp Γ n0 (fun e τ' m' => match e with
    | .norm => b.wp P quiet n Γ n0 Q τ' m'
    | e => Q e τ' m') τ m
  | .prune ks b, Q, τ, m => b.wp P quiet n Γ n0 Q (keepF ks τ) m
  | .rf x id g ps A B vb ks z, Q, τ, m => x.wp Γ n0 (fun e τ m => match e with
    | .norm => vecB vb τ m fun m => ∃ m1 f cap, (look g τ = .fn f cap ∧ okFn P f = true ∧ persF (keepF ks τ) ∧ bkOK m m1) ∧ ITok P quiet n ps A.flat B.flat τ f cap m m1 ∧ z.wp Γ m1.length Q (keepF ks τ) m1
    | e => Q e τ m) τ m
theorem compX_seq {quiet : FuncId → Bool} {c : Code} {a : IC} {b : IX} (h : compX P quiet c = some (.seq a b)) : ∃ x y, c = .seq x y ∧ comp P quiet x = some a ∧ compX P quiet y = some b := by
  unfold compX at h
  split at h
  · split at h <;> simp at h
  · split at h
    · rename_i h1 h2
      simp only [Option.some.injEq, IX.seq.injEq] at h
      obtain ⟨rfl, rfl⟩ := h
      exact ⟨_, _, rfl, h1, h2⟩
    · cases h
  · simp at h
theorem compX_rf {quiet : FuncId → Bool} {c : Code} {x : IC} {id g : Nat} {ps : List Nat} {A B z : IC} (h : compX P quiet c = some (.rf x id g ps A B z)) :
    ∃ cx g' ps' cA cB y, c = .seq (.seq cx (.block id (.rangeFunc g' ps' cA cB))) y ∧ comp P quiet cx = some x ∧ compO g' = some (.t g) ∧ ps'.toList = ps ∧ comp P quiet cA = some A ∧ comp P quiet cB = some B ∧ comp P quiet y = some z := by
  unfold compX at h
  split at h
  · split at h
    · rename_i h0 h1 h2 h3 h4
      simp only [Option.some.injEq, IX.rf.injEq] at h
      obtain ⟨rfl, rfl, rfl, rfl, rfl, rfl, rfl⟩ := h
      exact ⟨_, _, _, _, _, _, rfl, h0, h1, rfl, h2, h3, h4⟩
    · cases h
  · split at h <;> simp at h
  · simp at h
theorem Inv.of_own {β : Base} {ε : Env} {m : List Res} {w : World} (h : Inv β ε m w) (g : Good ε m w) : Inv ⟨w, ε, ownB ε m⟩ ε m w := Inv.start g
/-- A range over a function, in a plain frame. -/
theorem rf_sound {quiet : FuncId → Bool} {n : Nat} {id gk : Nat} {g : Operand} {ps : Array Nat} {cA cB : Code} {A B : IC} (hgk : compO g = some (.t gk)) (hA : comp P quiet cA = some A) (hB : comp P quiet cB = some B)
    {τ : Fr} {f : FuncId} {cap : List SV} {m m1 : List Res} (hf : look gk τ = .fn f cap) (hok : okFn P f = true) (hbk : bkOK m m1) (hIT : ITok P quiet n ps.toList A B τ f cap m m1)
    {β : Base} {ε : Env} {a : Act} {w : World} (hi : Inv β ε m w) (hs : SlotsF n ε τ a) (hd : a.defers = []) :
    (Code.block id (.rangeFunc g ps cA cB)).wpIn (Fw none) 0 P (fun e a' w' => e = .normal ∧ ∃ D ε', a' = { a with defers := [{ target := .collected D, args := #[] }] } ∧ w'.heap[D]? = some (.deferred (some [])) ∧ β.w.heap.size ≤ D ∧
      Clear ⟨w', ε', ownB ε' m1⟩ D ∧ Inv β ε' m1 w' ∧ EnvP ε ε') a w := by
  have hs0 := hs
  obtain ⟨σ, r1, r2⟩ := hs
  have hev : Opd.ev σ (.t gk) = .fn f cap := le_eq (r1.le gk) hf (by intro h; cases h)
  obtain ⟨cv, c1, c2⟩ := sat_fn (hev ▸ compO_ok hgk r2)
  refine wpIn_block (wpIn_mono (Q := fun e a' w' => e = .normal ∧ ∃ D ε', a' = { a with defers := [{ target := .collected D, args := #[] }] } ∧ w'.heap[D]? = some (.deferred (some [])) ∧ β.w.heap.size ≤ D ∧
      Clear ⟨w', ε', ownB ε' m1⟩ D ∧ Inv β ε' m1 w' ∧ EnvP ε ε') (wpIn_rangeFunc ?_) (fun e a' w' ⟨h1, h2⟩ => by subst h1; exact ⟨rfl, h2⟩))
  intro fn hfn
  obtain ⟨rec, hrec⟩ : ∃ rec : Loop, rec = { state := .ready, pending := none, fn, tmps := a.tmps, params := ps, assign := cA, body := cB, defers := w.heap.size } := ⟨_, rfl⟩
  obtain ⟨W1, hW1⟩ : ∃ W1, (w.alloc (.deferred (some []))).alloc (.loop rec) = W1 := ⟨_, rfl⟩
  have hsz : W1.heap.size = w.heap.size + 2 := by rw [← hW1]; simp
  have hL1 : W1.heap[w.heap.size + 1]? = some (.loop rec) := by
    rw [← hW1]; have := World.alloc_heap_new (w.alloc (.deferred (some []))) (.loop rec); rwa [World.size_alloc] at this
  have hK1 : W1.heap[w.heap.size]? = some (.deferred (some [])) := by
    rw [← hW1]; exact (Go.RowKit.Below.heap_alloc _ _ _ (by simp)).trans (World.alloc_heap_new w _)
  have hold : ∀ b, b < w.heap.size → W1.heap[b]? = w.heap[b]? := by
    intro b hb
    rw [← hW1, Go.RowKit.Below.heap_alloc _ _ _ (by simp; omega), Go.RowKit.Below.heap_alloc _ _ _ hb]
  have hi1 : Inv β ε m W1 := hi.world (by rw [← hW1]; rfl) (by rw [← hW1]; rfl) (by rw [← hW1]; rfl) (by omega) (fun b hb => .inl (hold b hb))
  have hclr : ∀ b, w.heap.size ≤ b → b < W1.heap.size → Clear ⟨W1, ε, ownB ε m⟩ b := by
    intro b h1 h2
    refine ⟨h2, ?_, ?_⟩
    · rintro ⟨i, e⟩
      have := ownR_lt hi.good e; omega
    · cases e : ε.H b with
      | none => rfl
      | some o => have := H_lt hi.good e; omega
  refine ⟨w.heap.size + 1, [{ target := .collected w.heap.size, args := #[] }], W1, { target := .fn (.func f) cv.toArray, args := #[.func (.yield (w.heap.size + 1)) #[] #[]] }, W1, f,
    #[.func (.yield (w.heap.size + 1)) #[] #[]] ++ cv.toArray, W1, ?_, ?_, fun _ _ => trivial, ?_, fun e => (by cases e), ?_⟩
  · rw [← hW1, hrec]; exact run_enterLoop_outer _ _ _ _ _
  · simp [resolve, c2, Deferred.ofValue]
    rfl
  · simp [invoke, run_callFunc hok]
  · refine (hIT cA cB hA hB (w.heap.size + 1) W1 ε rec hi1.good (hclr _ (by omega) (by omega)) hL1 (by rw [hrec]) (by rw [hrec]) (by rw [hrec]) (by rw [hrec]) (by rw [hrec]) (by rw [hrec]; exact ⟨σ, r1, r2⟩) cv c1).mono ?_
    rintro e w2 ⟨⟨v, rfl⟩, ε2, hi2⟩
    obtain ⟨q1, q2, q3, q4⟩ := hi2.clear (hclr (w.heap.size + 1) (by omega) (by omega))
    obtain ⟨d1, d2, d3, d4⟩ := hi2.clear (hclr w.heap.size (by omega) (by omega))
    have hl2 : w2.heap[w.heap.size + 1]? = some (.loop rec) := q1.trans hL1
    refine ⟨none, _, by have := run_endLoop (P := P) hl2 (by rw [hrec]; simp); rw [show rec.pending = none by rw [hrec]] at this; exact this, rfl, w.heap.size, ε2, ?_, ?_, hi.kept.size, ?_, ?_, ?_⟩
    · rw [hd]; rfl
    · rw [World.putObj_heap_other (by omega)]; exact d1.trans hK1
    · exact ⟨by simpa using d4, fun ⟨i, h⟩ => d2 i h, d3⟩
    · have hbs := hi.kept.size
      obtain ⟨t1, _⟩ := hi1.trans hi2 (fun i hi' h => bkOK_at hbk (by have := hi1.n; have := hi1.good.n; omega) h)
      refine t1.world rfl rfl rfl (by simp) (fun b hb => ?_)
      by_cases e : b = w.heap.size + 1
      · right; subst e; exact ⟨by omega, q2, q3⟩
      · exact .inl (World.putObj_heap_other e)
    · exact ⟨hi2.n, hi2.blk, hi2.kept.H⟩
/-- A function's end, a mark among its deferred calls or none. -/
def EndsX (n : Nat) (β : Base) (Q : Ex → Fr → List Res → Prop) (e : Exit) (a : Act) (w : World) : Prop :=
  ∃ ex τ m ε, ExRel e ex ∧ Q ex τ m ∧ Inv β ε m w ∧ SlotsF n ε τ a ∧ (a.defers = [] ∨ ∃ D, a.defers = [{ target := .collected D, args := #[] }] ∧ w.heap[D]? = some (.deferred (some [])) ∧ β.w.heap.size ≤ D ∧ (∀ i, ownR ε i (memAt m i) ≠ some D) ∧ ε.H D = none)
theorem XC.sound {quiet : FuncId → Bool} {Γ : FH} (hΓ : FHOK P Γ) {n0 n : Nat} {β : Base} (hb : β.ε.n = 0) : ∀ (xc : XC) (c : Code), compX P quiet c = some xc.flat → xc.wf n = true → ∀ (Q : Ex → Fr → List Res → Prop) (τ : Fr) (m : List Res), xc.wp P quiet n Γ n0 Q τ m →
    ∀ ε a w, Inv β ε m w → SlotsF n ε τ a → a.defers = [] → c.wpIn (Fw none) 0 P (EndsX n β Q) a w
  | .seq x y, c, hc, hw, Q, τ, m, h, ε, a, w, hi, hs, hd => by
    obtain ⟨x', y', rfl, hx, hy⟩ := compX_seq hc
    simp only [XC.wf, Bool.and_eq_true] at hw
    simp only [XC.wp] at h
    refine wpIn_seq (wpI_mono (fun e a' w' he => ?_) (JC.soundIn (rm := 0) hΓ (by omega) x x' hx hw.1 _ τ m h ε a w hi hs hd))
    obtain ⟨ex, σ', m', ε', h1, h2, h3, h4, h5⟩ := he
    cases e <;> cases ex <;> simp only [ExRel] at h1
    · exact XC.sound hΓ hb y y' hy hw.2 Q σ' m' h2 ε' a' w' h3 h4 h5
    · exact ⟨_, σ', m', ε', by simp only [ExRel]; exact h1, h2, h3, h4, .inl h5⟩
    · exact ⟨.ret, σ', m', ε', trivial, h2, h3, h4, .inl h5⟩
  | .prune ks b, c, hc, hw, Q, τ, m, h, ε, a, w, hi, hs, hd => XC.sound hΓ hb b c hc hw Q _ m h ε a w hi (hs.weak fun k => look_keep ks) hd
  | .rf x id g ps A B vb ks z, c, hc, hw, Q, τ, m, h, ε, a, w, hi, hs, hd => by
    obtain ⟨cx, g', ps', cA, cB, y, rfl, h0, h1, h2, h3, h4, h5⟩ := compX_rf hc
    simp only [XC.wf, Bool.and_eq_true] at hw
    simp only [XC.wp] at h
    subst h2
    refine wpIn_seq (wpIn_seq (wpI_mono (fun e a' w' he => ?_) (JC.soundIn (rm := 0) hΓ (by omega) x cx h0 hw.1 _ τ m h ε a w hi hs hd)))
    obtain ⟨ex, τ, m, ε, g1, g2, hi, hs, hd⟩ := he
    cases e <;> cases ex <;> simp only [ExRel] at g1
    · obtain ⟨ε, m, ⟨m1, f, cap, ⟨k1, k2, k3, k4⟩, k5, k6⟩, hi, hs⟩ := vecB_ok g2 hi hs
      refine wpI_mono (fun e a'' w' he => ?_) (rf_sound (id := id) h1 h3 h4 k1 k2 k4 k5 hi hs hd)
      obtain ⟨rfl, D, ε1, rfl, q1, q2, q3, q4, q5⟩ := he
      have hs1 : SlotsF n ε1 (keepF ks τ) { a' with defers := [{ target := .collected D, args := #[] }] } := by
        obtain ⟨σ, r1, r2⟩ := (hs.weak fun k => look_keep ks).pers k3 q5
        exact ⟨σ, r1, r2⟩
      refine wpI_mono (fun e a' w'' he => ?_) (JC.soundIn (rm := 0) hΓ (β := ⟨w', ε1, ownB ε1 m1⟩) (Nat.le_of_eq q4.good.n) (d := [{ target := .collected D, args := #[] }]) z y h5 hw.2 _ _ _ k6 ε1 _ w' (q4.of_own q4.good) hs1 rfl)
      obtain ⟨ex, τ2, m2, ε2, e1, e2, e3, e4, e5⟩ := he
      obtain ⟨d1, d2, d3, d4⟩ := e3.clear q3
      exact ⟨ex, τ2, m2, ε2, e1, e2, (q4.trans e3 (fun i hi' => by omega)).1, e4, .inr ⟨D, e5, d1.trans q1, q2, d2, d3⟩⟩
    · exact ⟨_, τ, m, ε, by simp only [ExRel]; exact g1, g2, hi, hs, .inl hd⟩
    · exact ⟨.ret, τ, m, ε, trivial, g2, hi, hs, .inl hd⟩
def fnX (P : Program) (quiet : FuncId → Bool) (f : FuncId) : Option (IX × List ResultVar × Nat) := match P.funcs[f]? with
  | some fn => match fn.body with
    | some c => match compX P quiet c with
      | some ic => if fn.name != "runtime.NumGoroutine" then some (ic, fn.results.toList, fn.ntmps) else none
      | none => none
    | none => none
  | none => none
theorem fnX_ok {quiet : FuncId → Bool} {f : FuncId} {ic : IX} {rs : List ResultVar} {nt : Nat} (h : fnX P quiet f = some (ic, rs, nt)) : okFn P f = true ∧ ∃ fn c, P.funcs[f]? = some fn ∧ fn.body = some c ∧ compX P quiet c = some ic ∧ fn.results.toList = rs ∧ fn.ntmps = nt := by
  unfold fnX at h
  split at h <;> try (cases h; done)
  rename_i fn hf
  split at h <;> try (cases h; done)
  rename_i c hc
  split at h <;> try (cases h; done)
  rename_i ic' hic
  split at h <;> try (cases h; done)
  rename_i hn
  simp only [Option.some.injEq, Prod.mk.injEq] at h
  obtain ⟨rfl, rfl, rfl⟩ := h
  refine ⟨?_, fn, c, hf, hc, hic, rfl, rfl⟩
  unfold okFn
  rw [hf]
  simp only [Bool.and_eq_true]
  exact ⟨hn, by rw [hc]; rfl⟩
/-- **The contract of a function that ranges over a function.** -/
theorem fn_walkX {quiet : FuncId → Bool} {f : FuncId} {xc : XC} {rs : List ResultVar} {nt : Nat} (hfn : fnX P quiet f = some (xc.flat, rs, nt)) (hwf : xc.wf nt = true) {Γ : FH} (hΓ : FHOK P Γ) {args : List SV} {m1 : List Res} {res : SV} (hn' : Nat.ble args.length nt = true)
    (h : xc.wp P quiet nt Γ 0 (endF rs P 0 res m1) (argF 0 args) []) : FnOK P f args [] res m1 := by
  have hn : args.length ≤ nt := Nat.le_of_ble_eq_true hn'
  obtain ⟨_, fn, c, hf, hb, hc, hrs, hnt⟩ := fnX_ok hfn
  intro ε w vs hg hs
  have hlen : args.length = vs.length := (slots_start hs 0).1 |> fun h => by simpa using h
  refine (callsIn_wide (n := 0)).1 (callsIn_of_wp_marks (F := Fw none) hf hb trivial ?_ rfl)
  have hi := Inv.start hg
  have hsl := slots_start hs (nt - args.length)
  have e : fn.ntmps - vs.toArray.size = nt - args.length := by simp; omega
  rw [e]
  refine wpI_mono (fun e a w' he => ?_) (XC.sound hΓ (by simpa using hg.n) xc c hc hwf _ _ _ h ε _ w hi ⟨_, argF_rep args nt hn, hsl⟩ rfl)
  obtain ⟨ex, τ', m', ε', h1, h2, h3, ⟨σ', hr, h4⟩, h5⟩ := he
  replace h2 := endF_ok hr h2
  have hfin : ∀ (W : World), Inv ⟨w, ε, ownB ε []⟩ ε' m' W → resK P σ' m' (fun x => ∃ ks, packK ks 0 res m1 m' x) rs → ∃ v, (results fn a.tmps).run P W = .ok v W ∧
      ∃ v' ε'', Ending.returned v = .returned v' ∧ SatV ε'' res v' ∧ Inv ⟨w, ε, ownB ε []⟩ ε'' m1 W := by
    intro W hW hres
    obtain ⟨x, ⟨ks, ⟨k1, k2⟩, k3, k4⟩, hrun⟩ := resK_sound hrs hres
    obtain ⟨v, e1, e2⟩ := hrun ε' a W hW.good h4
    refine ⟨v, e1, v, selE ks ε', rfl, ?_, ?_⟩
    · rw [← k3]; exact e2.ren (sel_ren ks ε')
    · rw [← k4]; exact hW.sel ks k1 (fun i hi => k2 i (by have := hg.n; simp only [List.length_nil] at this; have hi : i < ε.n := hi; omega))
  have fin : ∀ (hres : resK P σ' m' (fun x => ∃ ks, packK ks 0 res m1 m' x) rs), LeavesInM (Fw none) 0 P fn a.tmps (fun e w' => ∃ v ε', e = .returned v ∧ SatV ε' res v ∧ Inv ⟨w, ε, fun b => ∃ i, ownR ε i (memAt [] i) = some b⟩ ε' m1 w') a.defers .returning w' := by
    intro hres
    rcases h5 with h5 | ⟨D, h5, d1, d2, d3, d4⟩
    · rw [h5]
      obtain ⟨v, e1, e2⟩ := hfin w' h3 hres
      exact ⟨v, e1, e2⟩
    · rw [h5]
      refine ⟨by simp, .inl ⟨D, w'.putObj D (.deferred none), rfl, run_takeDeferred d1, ?_⟩⟩
      have h3' : Inv ⟨w, ε, ownB ε []⟩ ε' m' (w'.putObj D (.deferred none)) := Inv.world h3 rfl rfl rfl (by simp) (fun b hb => by
        by_cases e : b = D
        · right; subst e; exact ⟨d2, d3, d4⟩
        · exact .inl (World.putObj_heap_other e))
      obtain ⟨v, e1, e2⟩ := hfin _ h3' hres
      exact ⟨v, e1, e2⟩
  cases e <;> cases ex <;> simp only [ExRel] at h1
  · exact fin h2
  · exact h2.elim
  · exact fin h2
end Go.Sx
