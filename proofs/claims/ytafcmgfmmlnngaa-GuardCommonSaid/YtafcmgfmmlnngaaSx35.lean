import Derived.Test.YtafcmgfmmlnngaaSx34
/-! Sx, part 35: an iterator: code with one call of yield. -/
set_option linter.unusedVariables false
set_option linter.unusedSimpArgs false
namespace Go.Sx
open Go
variable {P : Program}
theorem sops_inC {ro : Option Nat} {rm : Nat} {Γ : Hook} (hΓ : HookOK P Γ) {ops : Array Oper} {Q : Exit → Act → World → Prop} {β : Base} {d : List Deferred} {rest : List Oper} : ∀ (l : List Oper) (ios : List IOp) (σ : List SV) (m : List Res) (K : List SV → List Res → Prop),
    l.mapM (compOp P ops) = some ios → sops Γ ios K σ m → (∀ σ' m' ε' a' w', K σ' m' → Inv β ε' m' w' → SlotsOK ε' σ' a' → a'.defers = d → wpListIn (Fw ro) rm P ops Q rest a' w') →
    ∀ ε a w, Inv β ε m w → SlotsOK ε σ a → a.defers = d → wpListIn (Fw ro) rm P ops Q (l ++ rest) a w
  | [], ios, σ, m, K, hc, h, hK, ε, a, w, hi, hs, hd => by
    simp at hc; subst hc
    exact hK σ m ε a w h hi hs hd
  | o :: l, ios, σ, m, K, hc, h, hK, ε, a, w, hi, hs, hd => by
    simp only [List.mapM_cons, bind, Option.pure_def] at hc
    obtain ⟨io, ho, hc⟩ := bind_some hc
    obtain ⟨ios', hc', hc⟩ := bind_some hc
    simp only [Option.some.injEq] at hc
    subst hc
    have hnd := compOp_nodefer ho
    simp only [compOp] at ho
    split at ho <;> try (cases ho; done)
    rename_i g x hg hx
    simp only [Option.some.injEq] at ho; subst ho
    simp only [sops] at h
    have go : ∀ σ1, SlotsOK ε σ1 a → opK Γ σ1 m (fun σ' sv m' => sops Γ ios' K (putS o.dst sv σ') m') x → o.wpIn (Fw ro) rm P a w (wpListIn (Fw ro) rm P ops Q (l ++ rest)) Q := by
      intro σ1 hs1 h1
      obtain ⟨σ', sv, m', h2, hE⟩ := opK_sound hΓ hx h1
      refine Oper.wpIn_mono ?_ (oper_in hnd (hE β ε a w hi hs1 Q))
      rintro a' w' ⟨v, ε', rfl, hv, hs', hi'⟩
      exact sops_inC hΓ l ios' _ _ K hc' h2 hK ε' _ w' hi' (hs'.put hv o.dst) (by rw [put_defers]; exact hd)
    simp only [List.cons_append, wpListIn]
    cases g with
    | none =>
      have hgn : o.guard = none := by
        cases hog : o.guard with
        | none => rfl
        | some g => rw [hog] at hg; simp only [compG] at hg; split at hg <;> cases hg
      rw [if_pos (by simp [Region.wanted, hgn])]
      exact go σ hs h
    | some g =>
      obtain ⟨s, want⟩ := g
      simp only [guardK] at h
      split at h
      · rename_i b hb
        have hw := wanted_ok hs hg hb
        rw [hw]
        by_cases hbw : b = want
        · subst hbw
          rw [if_pos (by simp)]
          exact go _ (hs.known hb) (h.1 rfl)
        · have hbn : b = !want := by cases b <;> cases want <;> first | rfl | exact absurd rfl hbw
          rw [if_neg (by simpa using hbw)]
          subst hbn
          have hs2 := hs.known hb
          exact ⟨fun _ _ => trivial, sops_inC hΓ l ios' _ _ K hc' (h.2 rfl) hK ε _ w hi (SlotsOK.put (sv := .tup []) (v := undef) hs2 sat_undef o.dst) (by rw [put_defers]; exact hd)⟩
      · rename_i hb
        have hw := wanted_undef hs hg hb
        rw [hw]
        rw [if_neg (by simp)]
        exact ⟨fun _ _ => trivial, sops_inC hΓ l ios' _ _ K hc' h hK ε _ w hi (SlotsOK.put (sv := .tup []) (v := undef) hs sat_undef o.dst) (by rw [put_defers]; exact hd)⟩
      · exact h.elim
theorem mapM_app {α β : Type _} {f : α → Option β} : ∀ {x y : List β} {l : List α}, l.mapM f = some (x ++ y) → ∃ l1 l2, l = l1 ++ l2 ∧ l1.mapM f = some x ∧ l2.mapM f = some y
  | [], y, l, h => ⟨[], l, rfl, by simp, h⟩
  | b :: x, y, [], h => by simp at h
  | b :: x, y, o :: l, h => by
    rw [List.mapM_cons] at h
    obtain ⟨b', hb, h⟩ := bind_some h
    obtain ⟨bs, hbs, h⟩ := bind_some h
    simp only [Option.pure_def, Option.some.injEq, List.cons_append, List.cons.injEq] at h
    obtain ⟨rfl, rfl⟩ := h
    obtain ⟨l1, l2, rfl, h1, h2⟩ := mapM_app hbs
    exact ⟨o :: l1, l2, rfl, by rw [List.mapM_cons, hb, h1]; rfl, h2⟩
section
variable {ro : Option Nat} {rm n : Nat} {Γ : FH} {ops : Array Oper} {Q : Exit → Act → World → Prop} {β : Base} {d : List Deferred} {rest l : List Oper}
theorem sl_inC (hΓ : FHOK P Γ) {A : SL} (hc : l.mapM (compOp P ops) = some (A.flat none)) (hw : A.wf n = true) {K : Fr → List Res → Prop} {τ : Fr} {m : List Res} (h : A.wp Γ false K τ m)
    (hK : ∀ τ' m' ε' a' w', K τ' m' → Inv β ε' m' w' → SlotsF n ε' τ' a' → a'.defers = d → wpListIn (Fw ro) rm P ops Q rest a' w') {ε : Env} {a : Act} {w : World} (hi : Inv β ε m w) (hs : SlotsF n ε τ a) (hd : a.defers = d) :
    wpListIn (Fw ro) rm P ops Q (l ++ rest) a w := by
  obtain ⟨σ, h1, h2⟩ := hs
  exact sops_inC hΓ.hook l _ σ m _ hc (wp_ok A τ σ m _ (fun σ' m' => ∃ τ', Rep n σ' τ' ∧ K τ' m') hw h1 h (fun σ' τ' m' hr hq => ⟨τ', hr, hq⟩))
    (fun σ' m' ε' a' w' ⟨τ', hr, hq⟩ hi' hs' hd' => hK τ' m' ε' a' w' hq hi' ⟨σ', hr, hs'⟩ hd') ε a w hi h2 hd
theorem slg_inC (hΓ : FHOK P Γ) {s : Nat} {A : SL} (hc : l.mapM (compOp P ops) = some (A.flat (some (s, true)))) (hw : A.wf n = true) {K : Fr → List Res → Prop} {τ : Fr} {m : List Res} (h : A.wpg Γ false s true K τ m)
    (hK : ∀ τ' m' ε' a' w', look s τ' = .bool true → K τ' m' → Inv β ε' m' w' → SlotsF n ε' τ' a' → a'.defers = d → wpListIn (Fw ro) rm P ops Q rest a' w') {ε : Env} {a : Act} {w : World} (hi : Inv β ε m w) (hs : SlotsF n ε τ a) (hd : a.defers = d) :
    wpListIn (Fw ro) rm P ops Q (l ++ rest) a w := by
  obtain ⟨σ, h1, h2⟩ := hs
  exact sops_inC hΓ.hook l _ σ m _ hc (wpg_ok (dr := false) A τ σ m _ (fun σ' m' => ∃ τ', Rep n σ' τ' ∧ look s τ' = .bool true ∧ K τ' m') hw h1 h (fun σ' τ' m' hr hl hq => ⟨τ', hr, hl, hq⟩))
    (fun σ' m' ε' a' w' ⟨τ', hr, hl, hq⟩ hi' hs' hd' => hK τ' m' ε' a' w' hl hq hi' ⟨σ', hr, hs'⟩ hd') ε a w hi h2 hd
theorem SlotsF.bool {ε : Env} {τ : Fr} {a : Act} (hs : SlotsF n ε τ a) {s : Nat} {b : Bool} (h : look s τ = .bool b) {o : Oper} {want : Bool} (hg : compG ops o.guard = some (some (s, want))) : Region.wanted o (yielded ops a.tmps) = (b == want) := by
  obtain ⟨σ, h1, h2⟩ := hs
  exact wanted_ok h2 hg (le_eq (h1.le s) h (by intro h; cases h))
theorem SlotsF.undef {ε : Env} {τ : Fr} {a : Act} (hs : SlotsF n ε τ a) {d : Option Nat} (h : ∀ k, d = some k → look k τ = .junk) : SlotsF n ε τ (a.put d Go.undef) := by
  obtain ⟨σ, h1, h2⟩ := hs
  refine ⟨putS d (.tup []) σ, ?_, h2.put sat_undef d⟩
  cases d with
  | none => exact h1
  | some k =>
    refine ⟨by simp [putS, h1.1], fun j => ?_⟩
    by_cases e : j = k
    · subst e; exact .inl (h j rfl)
    · rw [putS, getD_set_ne e]; exact h1.2 j
def gdOK (s : Nat) (ks : List Nat) (io : IOp) : Bool := (match io.guard with
  | some (s', true) => s' == s
  | _ => false) && (match io.dst with
  | some k => !ks.contains k
  | none => true)
theorem gdOK_ok {s : Nat} {ks : List Nat} {io : IOp} (h : gdOK s ks io = true) : io.guard = some (s, true) ∧ ∀ k, io.dst = some k → k ∉ ks := by
  unfold gdOK at h
  simp only [Bool.and_eq_true] at h
  obtain ⟨h1, h2⟩ := h
  constructor
  · split at h1
    · rename_i e; simp only [beq_iff_eq] at h1; rw [e, h1]
    · cases h1
  · intro k hk
    rw [hk] at h2
    simpa using h2
theorem look_keep_out {k : Nat} : ∀ {ks : List Nat} {τ : Fr}, k ∉ ks → look k (keepF ks τ) = .junk
  | [], _, _ => rfl
  | j :: ks, τ, h => by
    simp only [List.mem_cons, not_or] at h
    simp only [keepF, look, if_neg h.1]
    exact look_keep_out h.2
theorem look_keep_in {k : Nat} : ∀ {ks : List Nat} {τ : Fr}, k ∈ ks → look k (keepF ks τ) = look k τ
  | [], _, h => by cases h
  | j :: ks, τ, h => by
    simp only [keepF, look]
    by_cases e : k = j
    · subst e; rw [if_pos rfl]
    · rw [if_neg e]
      rcases List.mem_cons.1 h with h | h
      · exact absurd h e
      · exact look_keep_in h
theorem skip_inC {s : Nat} {ks : List Nat} (hks : s ∈ ks) {τ : Fr} (hb : look s τ = .bool false) {ε : Env} {w : World} : ∀ {l : List Oper} {ios : List IOp} {a : Act}, l.mapM (compOp P ops) = some ios → (∀ io ∈ ios, gdOK s ks io = true) → SlotsF n ε (keepF ks τ) a → a.defers = d →
    (∀ a', SlotsF n ε (keepF ks τ) a' → a'.defers = d → wpListIn (Fw ro) rm P ops Q rest a' w) → wpListIn (Fw ro) rm P ops Q (l ++ rest) a w
  | [], ios, a, hc, hg, hs, hd, hK => hK a hs hd
  | o :: l, ios, a, hc, hg, hs, hd, hK => by
    rw [List.mapM_cons] at hc
    obtain ⟨io, ho, hc⟩ := bind_some hc
    obtain ⟨ios', hc', hc⟩ := bind_some hc
    simp only [Option.pure_def, Option.some.injEq] at hc
    subst hc
    obtain ⟨g1, g2⟩ := gdOK_ok (hg io (by simp))
    simp only [compOp] at ho
    split at ho <;> try (cases ho; done)
    rename_i g x hg' hx
    simp only [Option.some.injEq] at ho; subst ho
    simp only at g1 g2
    subst g1
    simp only [List.cons_append, wpListIn]
    rw [hs.bool (by rw [look_keep_in hks]; exact hb) hg', if_neg (by simp)]
    exact ⟨fun _ _ => trivial, skip_inC hks hb hc' (fun io hio => hg io (by simp [hio])) (hs.undef fun k hk => look_keep_out (g2 k hk)) (by rw [put_defers]; exact hd) hK⟩
end
def allInt : List SV → Bool
  | [] => true
  | .int .. :: r => allInt r
  | _ => false
theorem allInt_ok : ∀ {xs : List SV} {ε : Env} {vs : List Value}, allInt xs = true → SatA xs ε vs → intsOK xs vs
  | [], _, vs, _, h => by simp only [SatA] at h; subst h; trivial
  | x :: xs, ε, vs, hx, h => by
    simp only [SatA] at h
    obtain ⟨cs, t, rfl, h2, h3⟩ := h
    cases x <;> first | (simp [allInt] at hx; done) | skip
    rename_i k n
    simp only [SatC] at h2
    subst h2
    exact ⟨rfl, allInt_ok hx h3⟩
theorem allInt_val : ∀ {xs : List SV}, allInt xs = true → xs.all SV.isVal = true
  | [], _ => rfl
  | x :: xs, hx => by
    cases x <;> first | (simp [allInt] at hx; done) | skip
    have := allInt_val (xs := xs) hx
    simp only [List.all_cons, Bool.and_eq_true]
    exact ⟨rfl, this⟩
/-- An iterator's code. -/
inductive YC : Type 1 where
  | jc (c : JC)
  | seq (a b : YC)
  | block (id : Nat) (c : YC)
  | loop (keep mod : List Nat) (c : YC)
  | prune (ks : List Nat) (c : YC)
  | yl (A : SL) (s : Nat) (ks : List Nat) (B : SL) (d : Nat) (x : Opd) (ys : List Opd) (c e : Nat)
def YC.flat : YC → IC
  | .jc c => c.flat
  | .seq a b => .seq a.flat b.flat
  | .block id c => .block id c.flat
  | .loop _ _ c => .loop c.flat
  | .prune _ c => c.flat
  | .yl A s _ B d x ys c e => .ops (A.flat none ++ (B.flat (some (s, true)) ++ [⟨some d, some (s, true), .e (.callv x ys)⟩, ⟨some c, some (s, true), .p (.nt (.t d))⟩, ⟨some e, none, .p (.pick (.t s) (.t c) (.c (.bool false)))⟩]))
def YC.wf (n : Nat) : YC → Bool
  | .jc c => c.wf n
  | .seq a b => a.wf n && b.wf n
  | .block _ c => c.wf n
  | .loop keep mod c => mod.all (fun k => decide (k < n)) && keep.all (fun k => decide (k < n)) && c.wf n
  | .prune _ c => c.wf n
  | .yl A s ks B d x ys c e => A.wf n && B.wf n && (B.flat (some (s, true))).all (gdOK s ks) && decide (d < n) && decide (c < n) && decide (e < n) && ks.contains s && !ks.contains d && !ks.contains c && !(d == c)
def YC.wp (Γ : FH) (Y : List SV → List Res → List Res → Prop) (yv : Value) (n0 : Nat) : YC → (Ex → Fr → List Res → Prop) → Fr → List Res → Prop
  | .jc c, Q, τ, m => c.wp Γ n0 Q τ m
  | .seq a b, Q, τ, m => a.wp Γ Y yv n0 (fun e τ' m' => match e with
    | .norm => b.wp Γ Y yv n0 Q τ' m'
    | e => Q e τ' m') τ m
  | .block id c, Q, τ, m => c.wp Γ Y yv n0 (fun e τ' m' => match e with
    | .exit i => if i = id then Q .norm τ' m' else Q (.exit i) τ' m'
    | e => Q e τ' m') τ m
  | .loop keep mod c, Q, τ, m => ∃ (ι : Type) (U : ι → List SV) (M : ι → List Res) (ok : ι → Prop) (μ : ι → Nat) (i : ι), ok i ∧ atF mod (U i) τ ∧ M i = m ∧
      ∀ i, ok i → c.wp Γ Y yv n0 (fun e τ' m' => match e with
        | .norm => ∃ j, ok j ∧ μ j < μ i ∧ n0 ≤ (M j).length ∧ atR (ltI (M j).length) mod (U j) τ' ∧ sameR (ltI (M j).length) τ τ' keep ∧ (m'.take (M j).length).map (renR (ltI (M j).length)) = M j
        | e => Q e τ' m') (ofF mod (U i) (keepF keep τ)) (M i)
  | .prune ks c, Q, τ, m => c.wp Γ Y yv n0 Q (keepF ks τ) m
  | .yl A s ks B d x ys c e, Q, τ, m => A.wp Γ false (fun τ m => match look s τ with
    | .bool b => (b = false → Q .norm (.put e (.bool false) (keepF ks τ)) m) ∧ (b = true → B.wpg Γ false s true (fun τ' m' => (persF (keepF ks τ') ∧ x.fv τ' = .raw yv ∧ allInt (ys.map (Opd.fv τ')) = true) ∧
        ∃ m'', Y (ys.map (Opd.fv τ')) m' m'' ∧ Q .norm (.put e (.bool false) (keepF ks τ')) m'') τ m)
    | _ => False) τ m
theorem mapM_inv {α β : Type _} {f : α → Option β} {b : β} {bs : List β} : ∀ {l : List α}, l.mapM f = some (b :: bs) → ∃ o l', l = o :: l' ∧ f o = some b ∧ l'.mapM f = some bs
  | [], h => by simp at h
  | o :: l, h => by
    rw [List.mapM_cons] at h
    obtain ⟨b', hb, h⟩ := bind_some h
    obtain ⟨bs', hbs, h⟩ := bind_some h
    simp only [Option.pure_def, Option.some.injEq, List.cons.injEq] at h
    obtain ⟨rfl, rfl⟩ := h
    exact ⟨o, l, rfl, hb, hbs⟩
theorem mapM_none {α β : Type _} {f : α → Option β} : ∀ {l : List α}, l.mapM f = some [] → l = []
  | [], _ => rfl
  | o :: l, h => by
    rw [List.mapM_cons] at h
    obtain ⟨b', hb, h⟩ := bind_some h
    obtain ⟨bs', hbs, h⟩ := bind_some h
    simp at h
theorem pure_inC {ro : Option Nat} {rm n : Nat} {ops : Array Oper} {Q : Exit → Act → World → Prop} {d : List Deferred} {rest : List Oper} {o : Oper} {k : Nat} {g : Option (Nat × Bool)} {p : PIO} (ho : compOp P ops o = some ⟨some k, g, .p p⟩) (hk : k < n)
    {ε : Env} {τ : Fr} {a : Act} {w : World} (hs : SlotsF n ε τ a) (hg : g = none ∨ ∃ s, g = some (s, true) ∧ look s τ = .bool true) {v : SV} (hp : ∀ σ, Rep n σ τ → popK σ (fun sv => sv = v) p) (hd : a.defers = d)
    (hK : ∀ a', SlotsF n ε (.put k v τ) a' → a'.defers = d → wpListIn (Fw ro) rm P ops Q rest a' w) : wpListIn (Fw ro) rm P ops Q (o :: rest) a w := by
  have hnd := compOp_nodefer ho
  have hs0 := hs
  obtain ⟨σ, h1, h2⟩ := hs
  simp only [compOp] at ho
  split at ho <;> try (cases ho; done)
  rename_i g' x hg' hx
  simp only [Option.some.injEq, IOp.mk.injEq] at ho
  obtain ⟨e1, e2, e3⟩ := ho
  subst e2; subst e3
  have hpp : comp1 P o.op = some (.p p) := hx
  unfold comp1 at hpp
  split at hpp
  · rename_i p' hp'
    simp only [Option.some.injEq, IO1.p.injEq] at hpp
    subst hpp
    obtain ⟨sv, rfl, hpure⟩ := popK_sound hp' (hp σ h1)
    obtain ⟨v', hr, hv⟩ := hpure ε a h2
    simp only [wpListIn]
    rw [if_pos]
    · refine oper_in hnd ?_
      unfold Oper.wp
      rw [hr, Oper.upon_value, e1]
      exact hK _ (hs0.putv hk hv) (by rw [put_defers]; exact hd)
    · rcases hg with rfl | ⟨s, rfl, hl⟩
      · have hgn : o.guard = none := by
          cases hog : o.guard with
          | none => rfl
          | some g => rw [hog] at hg'; simp only [compG] at hg'; split at hg' <;> cases hg'
        simp [Region.wanted, hgn]
      · rw [hs0.bool hl hg']; rfl
  · simp only [Option.map_eq_some_iff] at hpp
    obtain ⟨_, _, hpp⟩ := hpp
    cases hpp
theorem callv_inv {o : Oper} {x : Opd} {ys : List Opd} (h : comp1 P o.op = some (.e (.callv x ys))) : ∃ x' args tys, o.op = .call { callee := .value x', args := args, argTypes := tys } ∧ compO x' = some x ∧ args.toList.mapM compO = some ys := by
  unfold comp1 at h
  split at h
  · cases h
  · simp only [Option.map_eq_some_iff] at h
    obtain ⟨e, he, h⟩ := h
    simp only [IO1.e.injEq] at h
    subst h
    cases ho : o.op <;> rw [ho] at he <;> simp only [compE] at he
    case call c =>
      cases c with
      | mk callee args tys =>
      simp only [compE.compC] at he
      split at he
      · split at he <;> try (cases he; done)
        split at he <;> try (cases he; done)
        split at he <;> cases he
      · simp only [Option.map_eq_some_iff] at he
        obtain ⟨_, _, he⟩ := he
        cases he
      · rename_i x' hne
        split at he <;> try (cases he; done)
        rename_i x2 ys2 hx hy
        simp only [Option.some.injEq, EIO.callv.injEq] at he
        obtain ⟨rfl, rfl⟩ := he
        exact ⟨_, _, _, rfl, hx, hy⟩
      · cases he
    all_goals first
      | (cases he; done)
      | (simp only [Option.map_eq_some_iff] at he; obtain ⟨_, _, he⟩ := he; cases he)
      | (split at he <;> first | (cases he; done) | (split at he <;> first | (cases he; done) | (split at he <;> first | (cases he; done) | (split at he <;> cases he))))
theorem yl_sound {Γ : FH} (hΓ : FHOK P Γ) {rm n : Nat} {Y : List SV → List Res → List Res → Prop} {l : Nat} {β : Base} {d0 : List Deferred}
    (hY : ∀ args m m1, Y args m m1 → ∀ ε w vs, Inv β ε m w → intsOK args vs → YieldAt (Fw none) (rm - 1) P l vs.toArray w (fun e w' => e = .returned (.bool true) ∧ ∃ ε', Inv β ε' m1 w' ∧ EnvP ε ε'))
    {A : SL} {s : Nat} {ks : List Nat} {B : SL} {d : Nat} {x : Opd} {ys : List Opd} {c e : Nat} {ops : Array Oper} {id : Nat}
    (hc : ops.toList.mapM (compOp P ops) = some (A.flat none ++ (B.flat (some (s, true)) ++ [⟨some d, some (s, true), .e (.callv x ys)⟩, ⟨some c, some (s, true), .p (.nt (.t d))⟩, ⟨some e, none, .p (.pick (.t s) (.t c) (.c (.bool false)))⟩])))
    (hw : (YC.yl A s ks B d x ys c e).wf n = true) {n0 : Nat} {Q : Ex → Fr → List Res → Prop} {τ : Fr} {m : List Res} (h : (YC.yl A s ks B d x ys c e).wp Γ Y (.func (.yield l) #[] #[]) n0 Q τ m)
    {ε : Env} {a : Act} {w : World} (hi : Inv β ε m w) (hs : SlotsF n ε τ a) (hd : a.defers = d0) : (Code.region id ops false).wpIn (Fw none) rm P (EndsF n β d0 Q) a w := by
  simp only [YC.wf, Bool.and_eq_true, decide_eq_true_eq, List.contains_eq_mem, Bool.not_eq_true', decide_eq_false_iff_not, beq_eq_false_iff_ne, ne_eq] at hw
  obtain ⟨⟨⟨⟨⟨⟨⟨⟨⟨wA, wB⟩, wG⟩, hdn⟩, hcn⟩, hen⟩, hsk⟩, hdk⟩, hck⟩, hdc⟩ := hw
  obtain ⟨l1, l2, e0, h1, hc⟩ := mapM_app hc
  obtain ⟨l3, l4, rfl, h3, hc⟩ := mapM_app hc
  refine wpIn_region_list ?_
  rw [e0]
  simp only [YC.wp] at h
  refine sl_inC hΓ h1 wA h (fun τ1 m1 ε1 a1 w1 hk hi1 hs1 hd1 => ?_) hi hs hd
  obtain ⟨o1, l5, rfl, ho1, hc⟩ := mapM_inv hc
  obtain ⟨o2, l6, rfl, ho2, hc⟩ := mapM_inv hc
  obtain ⟨o3, l7, rfl, ho3, hc⟩ := mapM_inv hc
  obtain rfl := mapM_none hc
  have hcs : ¬ s = c := fun e => hck (e ▸ hsk)
  have hds : ¬ s = d := fun e => hdk (e ▸ hsk)
  split at hk
  · rename_i b hb
    cases b with
    | false =>
      have hq := hk.1 rfl
      have hsf : look s (keepF ks τ1) = .bool false := (look_keep_in hsk).trans hb
      refine skip_inC hsk hb h3 (fun io hio => List.all_eq_true.1 wG io hio) (hs1.weak fun k => look_keep ks) hd1 (fun a2 hs2 hd2 => ?_)
      have key : ∀ (o : Oper) (io : IOp) (k : Nat) (x : IO1) (a : Act) (rest : List Oper), compOp P ops o = some ⟨some k, some (s, true), x⟩ → k ∉ ks → SlotsF n ε1 (keepF ks τ1) a → a.defers = d0 →
          (∀ a', SlotsF n ε1 (keepF ks τ1) a' → a'.defers = d0 → wpListIn (Fw none) rm P ops (EndsF n β d0 Q) rest a' w1) → wpListIn (Fw none) rm P ops (EndsF n β d0 Q) (o :: rest) a w1 := by
        intro o io k x a rest ho hkk hs hd hK
        simp only [compOp] at ho
        split at ho <;> try (cases ho; done)
        rename_i g' x' hg' hx
        simp only [Option.some.injEq, IOp.mk.injEq] at ho
        obtain ⟨e1, e2, e3⟩ := ho
        subst e2
        simp only [wpListIn]
        rw [hs.bool hsf hg', if_neg (by simp)]
        exact ⟨fun _ _ => trivial, hK _ (hs.undef fun j hj => by rw [e1] at hj; cases hj; exact look_keep_out hkk) (by rw [put_defers]; exact hd)⟩
      refine key o1 ⟨none, none, .p (.mv (.t 0))⟩ d _ a2 _ ho1 hdk hs2 hd2 (fun a3 hs3 hd3 => ?_)
      refine key o2 ⟨none, none, .p (.mv (.t 0))⟩ c _ a3 _ ho2 hck hs3 hd3 (fun a4 hs4 hd4 => ?_)
      refine pure_inC ho3 hen hs4 (.inl rfl) (v := .bool false) (fun σ hr => ?_) hd4 (fun a5 hs5 hd5 => ⟨.norm, _, _, ε1, trivial, hq, hi1, hs5, hd5⟩)
      have : (Opd.t s).ev σ = .bool false := le_eq (hr.le s) hsf (by intro h; cases h)
      simp only [popK, this]
      simp [Opd.ev]
    | true =>
      refine slg_inC hΓ h3 wB (hk.2 rfl) (fun τ2 m2 ε2 a2 w2 hl2 hk2 hi2 hs2 hd2 => ?_) hi1 hs1 hd1
      obtain ⟨⟨hp, hx, hints⟩, m3, hym, hq⟩ := hk2
      have hY' := hY _ _ _ hym
      obtain ⟨σ, r1, r2⟩ := hs2
      have hs2 : SlotsF n ε2 τ2 a2 := ⟨σ, r1, r2⟩
      have hnd := compOp_nodefer ho1
      simp only [compOp] at ho1
      split at ho1 <;> try (cases ho1; done)
      rename_i g' x' hg' hx'
      simp only [Option.some.injEq, IOp.mk.injEq] at ho1
      obtain ⟨e1, e2, e3⟩ := ho1
      subst e2; subst e3
      obtain ⟨xo, args, tys, hop, hxo, hys⟩ := callv_inv hx'
      have hxe : x.ev σ = .raw (.func (.yield l) #[] #[]) := le_eq (r1.fv x) hx (by intro h; cases h)
      have hval : a2.eval xo = .func (.yield l) #[] #[] := by
        have := hxe ▸ compO_ok hxo r2
        obtain ⟨cs, q1, q2⟩ := this
        simp only [SatC] at q1
        rw [q1.2] at q2
        exact q2
      have hysv : ys.map (Opd.ev σ) = ys.map (Opd.fv τ2) := by
        refine List.map_congr_left fun y hy => ?_
        have hv : (Opd.fv τ2 y).isVal = true := by
          have := allInt_val hints
          rw [List.all_map, List.all_eq_true] at this
          exact this y hy
        exact le_val (r1.fv y) hv
      have hsa : SatA (ys.map (Opd.fv τ2)) ε2 (args.toList.map a2.eval) := by
        have := sat_caps r2 args.toList ys hys (by show (ys.map (Opd.ev σ)).all SV.isVal = true; rw [hysv]; exact allInt_val hints)
        rw [← hysv]; exact this
      obtain ⟨fn, tmps, assign, body, hyr, hround⟩ := hY' ε2 w2 _ hi2 (allInt_ok hints hsa)
      have hargs : (args.toList.map a2.eval).toArray = args.map a2.eval := by apply Array.ext'; simp
      have hrun : (execOp a2.eval o1).run P w2 = .ok (.round l fn tmps assign body) w2 := by
        rw [hargs] at hyr
        simp [execOp, hop, resolve, hval, Deferred.ofValue, invoke, hyr]
      rw [wpListIn, hs2.bool hl2 hg', if_pos (by rfl)]
      refine ⟨fun _ _ => trivial, ?_⟩
      rw [Oper.semAt_eq _ _ _ hnd, hrun, Oper.uponIn_round]
      refine ⟨fun e => (by cases e), hround.mono ?_⟩
      rintro er w3 ⟨rfl, ε3, hi3, hep⟩
      have hs3 : SlotsF n ε3 (keepF ks τ2) a2 := (hs2.weak fun k => look_keep ks).pers hp hep
      rw [e1]
      have hs4 : SlotsF n ε3 (.put d (.bool true) (keepF ks τ2)) (a2.put (some d) (.bool true)) := hs3.putv hdn (x := .bool true) ⟨[.bool true], by simp only [SatC], rfl⟩
      have hls : look s (keepF ks τ2) = .bool true := (look_keep_in hsk).trans hl2
      show wpListIn (Fw none) rm P ops (EndsF n β d0 Q) [o2, o3] (a2.put (some d) (.bool true)) w3
      refine pure_inC ho2 hcn hs4 (.inr ⟨s, rfl, by simp only [look, if_neg hds]; exact hls⟩) (v := .bool false) (d := d0) (fun σ hr => ?_) hd2 (fun a5 hs5 hd5 => ?_)
      · have : (Opd.t d).ev σ = .bool true := le_eq (hr.le d) (by simp [look]) (by intro h; cases h)
        simp only [popK, this]
        rfl
      refine pure_inC ho3 hen hs5 (.inl rfl) (v := .bool false) (fun σ hr => ?_) hd5 (fun a6 hs6 hd6 => ⟨.norm, _, _, ε3, trivial, hq, hi3, hs6.weak fun k => ?_, hd6⟩)
      · have h1 : (Opd.t s).ev σ = .bool true := le_eq (hr.le s) (by simp only [look, if_neg hcs, if_neg hds]; exact hls) (by intro h; cases h)
        have h2 : (Opd.t c).ev σ = .bool false := le_eq (hr.le c) (by simp [look]) (by intro h; cases h)
        simp only [popK, h1, h2]
        simp
      · simp only [look]
        split
        · exact .inr rfl
        · by_cases ec : k = c
          · subst ec; exact .inl (look_keep_out hck)
          · by_cases ed : k = d
            · subst ed; exact .inl (look_keep_out hdk)
            · rw [if_neg ec, if_neg ed]; exact .inr rfl
  · exact hk.elim
theorem run_results_nil {fn : Func} {tmps : Array Value} {w : World} (h : fn.results.toList = []) : ∃ v, (results fn tmps).run P w = .ok v w ∧ True :=
  ⟨_, run_results h (vs := []) rfl, trivial⟩
theorem YC.sound {rm : Nat} {Γ : FH} (hΓ : FHOK P Γ) {quiet : FuncId → Bool} {n0 n : Nat} {β : Base} (hb : β.ε.n ≤ n0) {d : List Deferred} {Y : List SV → List Res → List Res → Prop} {l : Nat}
    (hY : ∀ args m m1, Y args m m1 → ∀ ε w vs, Inv β ε m w → intsOK args vs → YieldAt (Fw none) (rm - 1) P l vs.toArray w (fun e w' => e = .returned (.bool true) ∧ ∃ ε', Inv β ε' m1 w' ∧ EnvP ε ε')) : ∀ (jc : YC) (c : Code), comp P quiet c = some jc.flat → jc.wf n = true → ∀ (Q : Ex → Fr → List Res → Prop) (τ : Fr) (m : List Res), jc.wp Γ Y (.func (.yield l) #[] #[]) n0 Q τ m →
    ∀ ε a w, Inv β ε m w → SlotsF n ε τ a → a.defers = d → c.wpIn (Fw none) rm P (EndsF n β d Q) a w
  | .jc x, c, hc, hw, Q, τ, m, h, ε, a, w, hi, hs, hd => JC.soundIn hΓ hb x c hc hw Q τ m h ε a w hi hs hd
  | .seq x y, c, hc, hw, Q, τ, m, h, ε, a, w, hi, hs, hd => by
    obtain ⟨x', y', rfl, hx, hy⟩ := comp_seq hc
    simp only [YC.wf, Bool.and_eq_true] at hw
    simp only [YC.wp] at h
    refine wpIn_seq (wpI_mono (fun e a' w' he => ?_) (YC.sound hΓ hb hY x x' hx hw.1 _ τ m h ε a w hi hs hd))
    obtain ⟨ex, σ', m', ε', h1, h2, h3, h4, h5⟩ := he
    cases e <;> cases ex <;> simp only [ExRel] at h1
    · exact YC.sound hΓ hb hY y y' hy hw.2 Q σ' m' h2 ε' a' w' h3 h4 h5
    · exact ⟨_, σ', m', ε', by simp only [ExRel]; exact h1, h2, h3, h4, h5⟩
    · exact ⟨.ret, σ', m', ε', trivial, h2, h3, h4, h5⟩
  | .block id x, c, hc, hw, Q, τ, m, h, ε, a, w, hi, hs, hd => by
    obtain ⟨x', rfl, hx⟩ := comp_block hc
    simp only [YC.wp] at h
    refine wpIn_block (wpI_mono (fun e a' w' he => ?_) (YC.sound hΓ hb hY x x' hx hw _ τ m h ε a w hi hs hd))
    obtain ⟨ex, σ', m', ε', h1, h2, h3, h4, h5⟩ := he
    cases e <;> cases ex <;> simp only [ExRel] at h1
    · exact ⟨.norm, σ', m', ε', trivial, h2, h3, h4, h5⟩
    · subst h1
      simp only [Exit.inBlock]
      simp only at h2
      split
      · rename_i e1; rw [if_pos e1] at h2; exact ⟨.norm, σ', m', ε', trivial, h2, h3, h4, h5⟩
      · rename_i e1; rw [if_neg e1] at h2; exact ⟨.exit _, σ', m', ε', rfl, h2, h3, h4, h5⟩
    · exact ⟨.ret, σ', m', ε', trivial, h2, h3, h4, h5⟩
  | .loop keep mod x, c, hc, hw, Q, τ, m, h, ε, a, w, hi, hs, hd => by
    obtain ⟨x', rfl, hx⟩ := comp_loop hc
    simp only [YC.wf, Bool.and_eq_true] at hw
    simp only [YC.wp] at h
    obtain ⟨ι, U, M, ok, μ, i0, hok, hw0, hm0, hround⟩ := h
    have hs0 : SlotsF n ε (ofF mod (U i0) (keepF keep τ)) a := hs.weak fun k => look_of k hw0 (look_keep keep)
    refine wpIn_loop_ghost (fun n' a w => ∃ i ε, μ i = n' ∧ ok i ∧ Inv β ε (M i) w ∧ SlotsF n ε (ofF mod (U i) (keepF keep τ)) a ∧ a.defers = d) (μ i0) ⟨i0, ε, rfl, hok, hm0 ▸ hi, hs0, hd⟩ ?_
    rintro n' a w ⟨i, ε, rfl, hok', hi', hs', hd'⟩
    refine wpI_mono (fun e a' w' he => ?_) (YC.sound hΓ hb hY x x' hx hw.2 _ _ _ (hround i hok') ε a w hi' hs' hd')
    obtain ⟨ex, σ', m', ε', h1, h2, h3, h4, h5⟩ := he
    cases e <;> cases ex <;> simp only [ExRel] at h1
    · obtain ⟨j, hj1, hj2, hj0, hj3, hj4, hj5⟩ := h2
      obtain ⟨ε2, k1, k2⟩ := trim_ok h3 h4 hb hj0 rfl hj5
      exact ⟨μ j, hj2, j, ε2, rfl, hj1, k1, k2.weak fun k => look_ofR k hj3 (same_keepR k hj4), h5⟩
    · exact ⟨_, σ', m', ε', by simp only [ExRel]; exact h1, h2, h3, h4, h5⟩
    · exact ⟨.ret, σ', m', ε', trivial, h2, h3, h4, h5⟩
  | .prune ks x, c, hc, hw, Q, τ, m, h, ε, a, w, hi, hs, hd =>
    YC.sound hΓ hb hY x c hc hw Q _ m h ε a w hi (hs.weak fun k => look_keep ks) hd
  | .yl A s ks B dd x ys cc e, c, hc, hw, Q, τ, m, h, ε, a, w, hi, hs, hd => by
    obtain ⟨id, ops, rfl, hl⟩ := comp_ops hc
    exact yl_sound hΓ hY hl hw (n0 := n0) h hi hs hd
/-- How an iterator ends: what it leaves. -/
def endY (n0 : Nat) (m1 : List Res) (e : Ex) (m : List Res) : Prop := (match e with
  | .exit _ => False
  | _ => True) ∧ ∃ l, packJ (upto n0 0 ++ l) (.tup []) m1 m (.tup [])
/-- **An iterator's contract.** -/
theorem iter_ok {quiet : FuncId → Bool} {f : FuncId} {jc : YC} {nt rm : Nat} (hfn : fnIs P quiet f = some (jc.flat, [], nt)) (hwf : jc.wf nt = true) {Γ : FH} (hΓ : FHOK P Γ) {args : List SV} {m0 m1 : List Res} (hn' : Nat.ble args.length nt = true)
    {Y : List SV → List Res → List Res → Prop} {l : Nat} {ε : Env} {w : World} (hg : Good ε m0 w) {vs : List Value} (hs : SatA args ε vs)
    (hY : ∀ args m m1, Y args m m1 → ∀ ε' w' vs, Inv ⟨w, ε, ownB ε m0⟩ ε' m w' → intsOK args vs → YieldAt (Fw none) (rm - 1) P l vs.toArray w' (fun e w'' => e = .returned (.bool true) ∧ ∃ ε'', Inv ⟨w, ε, ownB ε m0⟩ ε'' m1 w'' ∧ EnvP ε' ε''))
    (h : jc.wp Γ Y (.func (.yield l) #[] #[]) m0.length (fun e _ m => endY m0.length m1 e m) (argF 0 args) m0) :
    CallsIn (Fw none) rm P f vs.toArray w (fun e w' => (∃ v, e = .returned v) ∧ ∃ ε', Inv ⟨w, ε, ownB ε m0⟩ ε' m1 w') := by
  have hn : args.length ≤ nt := Nat.le_of_ble_eq_true hn'
  obtain ⟨_, fn, c, hf, hb, hc, hrs, hnt⟩ := fnIs_ok hfn
  have hlen : args.length = vs.length := (slots_start hs 0).1 |> fun h => by simpa using h
  refine callsIn_of_wp (F := Fw none) hf hb trivial ?_ rfl
  have hi := Inv.start hg
  have hsl := slots_start hs (nt - args.length)
  have e : fn.ntmps - vs.toArray.size = nt - args.length := by simp; omega
  rw [e]
  refine wpI_mono (fun e a w' he => ?_) (YC.sound (rm := rm) hΓ (β := ⟨w, ε, ownB ε m0⟩) (Nat.le_of_eq hg.n) (d := []) hY jc c hc hwf _ _ _ h ε _ w hi ⟨_, argF_rep args nt hn, hsl⟩ rfl)
  obtain ⟨ex, τ', m', ε', h1, ⟨h2, l', hp⟩, h3, h4, h5⟩ := he
  obtain ⟨ks, ⟨k1, k2⟩, k3, k4⟩ := packJ_ok hp
  have hres : fn.results.toList = [] := hrs
  have fin : a.defers = [] ∧ ∃ v, (results fn a.tmps).run P w' = .ok v w' ∧ ((∃ v', Ending.returned v = .returned v') ∧ ∃ ε', Inv ⟨w, ε, ownB ε m0⟩ ε' m1 w') := by
    obtain ⟨v, e1, e2⟩ := run_results_nil (P := P) (tmps := a.tmps) (w := w') hres
    exact ⟨h5, v, e1, ⟨v, rfl⟩, selE ks ε', by rw [← k4]; exact h3.sel ks k1 (fun i hi => k2 i (by rw [← hg.n]; exact hi))⟩
  cases e <;> cases ex <;> simp only [ExRel] at h1
  · exact fin
  · exact h2.elim
  · exact fin
end Go.Sx
