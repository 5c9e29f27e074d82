import Derived.Test.YtafcmgfmmlnngaaSx17
import Derived.Attr
import Derived.RowKit3
/-! Sx, part 18: loops as they are walked; what closes a row; the words that 'simp only [go_sem]' takes. -/
set_option linter.unusedSimpArgs false
set_option linter.unusedVariables false
namespace Go.Sx
open Go

variable {P : Program}

section words
variable {Γ : Hook} {n0 : Nat} {Q : Ex → List SV → List Res → Prop} {σ : List SV} {m : List Res}
theorem swp_skip : swp Γ n0 .skip Q σ m = Q .norm σ m := propext Iff.rfl
theorem swp_ops {l : List IOp} : swp Γ n0 (.ops l) Q σ m = sops Γ l (Q .norm) σ m := propext Iff.rfl
theorem swp_dops {l : List IOp} : swp Γ n0 (.dops l) Q σ m = dsops Γ l (fun σ' m' => tidyK n0 m (Q .norm) σ' m') σ m := propext Iff.rfl
theorem swp_seq {a b : IC} : swp Γ n0 (.seq a b) Q σ m = swp Γ n0 a (fun e σ' m' => match e with
    | .norm => swp Γ n0 b Q σ' m'
    | e => Q e σ' m') σ m := propext Iff.rfl
theorem swp_cond {n : Nat} {a b : IC} : swp Γ n0 (.cond (.t n) a b) Q σ m = (match σ.getD n .junk with
      | .bool t => (t = true → swp Γ n0 a Q (σ.set n (.bool true)) m) ∧ (t = false → swp Γ n0 b Q (σ.set n (.bool false)) m)
      | _ => False) := propext Iff.rfl
theorem swp_condT {a b : IC} : swp Γ n0 (.cond (.c (.bool true)) a b) Q σ m = swp Γ n0 a Q σ m := propext Iff.rfl
theorem swp_condF {a b : IC} : swp Γ n0 (.cond (.c (.bool false)) a b) Q σ m = swp Γ n0 b Q σ m := propext Iff.rfl
theorem swp_block {id : Nat} {c : IC} : swp Γ n0 (.block id c) Q σ m = swp Γ n0 c (fun e σ' m' => match e with
    | .exit i => if i = id then Q .norm σ' m' else Q (.exit i) σ' m'
    | e => Q e σ' m') σ m := propext Iff.rfl
theorem swp_exit {id : Nat} : swp Γ n0 (.exit id) Q σ m = Q (.exit id) σ m := propext Iff.rfl
theorem swp_ret : swp Γ n0 .ret Q σ m = Q .ret σ m := propext Iff.rfl
end words

/-! ### Loops -/
/-- What a piece of code writes. -/
def wrO (l : List IOp) : List Nat := l.filterMap (·.dst)
def wr : IC → List Nat
  | .ops l => wrO l
  | .dops l => wrO l
  | .seq a b => wr a ++ wr b
  | .cond _ a b => wr a ++ wr b
  | .block _ c => wr c
  | .loop c => wr c
  | _ => []

def jnk : List Nat → List SV → List SV
  | [], σ => σ
  | k :: r, σ => jnk r (σ.set k .junk)
def setS : List (Nat × SV) → List SV → List SV
  | [], σ => σ
  | (k, x) :: r, σ => setS r (σ.set k x)

/-- One frame knows no more than another. -/
def leS : List SV → List SV → Prop
  | [], [] => True
  | x :: a, y :: b => (x = .junk ∨ x = y) ∧ leS a b
  | _, _ => False

theorem leS_ok : ∀ {σ' σ : List SV}, leS σ' σ → σ'.length = σ.length ∧ ∀ k, σ'.getD k .junk = .junk ∨ σ'.getD k .junk = σ.getD k .junk
  | [], [], _ => ⟨rfl, fun k => .inl (by simp)⟩
  | x :: a, y :: b, h => by
    obtain ⟨h1, h2⟩ := leS_ok h.2
    refine ⟨by simp [h1], fun k => ?_⟩
    cases k with
    | zero => simpa using h.1
    | succ k => simpa using h2 k
  | [], _ :: _, h => h.elim
  | _ :: _, [], h => h.elim

theorem leS_refl : ∀ σ : List SV, leS σ σ
  | [] => trivial
  | _ :: r => ⟨.inr rfl, leS_refl r⟩

theorem SlotsOK.le {ε : Env} {σ σ' : List SV} {a : Act} (h : SlotsOK ε σ a) (hl : leS σ' σ) : SlotsOK ε σ' a := by
  obtain ⟨h1, h2⟩ := leS_ok hl
  refine ⟨by rw [h1]; exact h.1, fun k => ?_⟩
  rcases h2 k with e | e <;> rw [e]
  · trivial
  · exact h.2 k

theorem Weak.of_le {σ σ' : List SV} {m : List Res} (h : leS σ' σ) : Weak σ m σ' m := fun _ ε _ _ hi hs => ⟨ε, hi, hs.le h⟩
theorem Weak.refl (σ : List SV) (m : List Res) : Weak σ m σ m := fun _ ε _ _ hi hs => ⟨ε, hi, hs⟩
theorem Weak.trans {σ σ' σ'' : List SV} {m m' m'' : List Res} (h : Weak σ m σ' m') (k : Weak σ' m' σ'' m'') : Weak σ m σ'' m'' := fun β ε a w hi hs => by
  obtain ⟨ε', h1, h2⟩ := h β ε a w hi hs
  exact k β ε' a w h1 h2

/-- A loop that waits for its invariant: 'simp' looks at nothing but what is known. -/
structure Hide {α β γ : Sort _} (x : α) (y : β) (z : γ) : Type where
def swpL (Γ : Hook) (n0 : Nat) (c : IC) (Q : Ex → List SV → List Res → Prop) (_ : Hide Γ c Q) (σ : List SV) (m : List Res) : Prop := swp Γ n0 (.loop c) Q σ m
theorem swp_waits {Γ : Hook} {n0 : Nat} {c : IC} {Q : Ex → List SV → List Res → Prop} {σ : List SV} {m : List Res} : swp Γ n0 (.loop c) Q σ m = swpL Γ n0 c Q ⟨⟩ σ m := propext Iff.rfl

theorem Weak.le {σ σ' : List SV} {m m' : List Res} (h : leS σ' σ) (hm : m' = m) : Weak σ m σ' m' := by subst hm; exact Weak.of_le h

/-- **A loop**: what its rounds write is forgotten, but for what is said. -/
theorem swp_loop {Γ : Hook} {n0 : Nat} {c : IC} {Q : Ex → List SV → List Res → Prop} {σ : List SV} {m : List Res} (ι : Type) (U : ι → List (Nat × SV)) (M : ι → List Res) (ok : ι → Prop) (μ : ι → Nat) (i0 : ι)
    (h0 : ok i0) (hσ : leS (setS (U i0) (jnk (wr c) σ)) σ) (hm : M i0 = m)
    (h : ∀ i, ok i → swp Γ n0 c (fun e σ' m' => match e with
        | .norm => ∃ j, ok j ∧ μ j < μ i ∧ Weak σ' m' (setS (U j) (jnk (wr c) σ)) (M j)
        | e => Q e σ' m') (setS (U i) (jnk (wr c) σ)) (M i)) {hd : Hide Γ c Q} : swpL Γ n0 c Q hd σ m :=
  ⟨ι, fun i => setS (U i) (jnk (wr c) σ), M, ok, μ, i0, h0, by rw [hm]; exact Weak.of_le hσ, h⟩

/-! ### Where a body ends that leaves nothing -/
def end0 (rs : List ResultVar) (P : Program) (res : SV) (e : Ex) (σ : List SV) (m : List Res) : Prop := match e with
  | .exit _ => False
  | _ => resK P σ m (fun x => ren (fun _ => none) x = res) rs

theorem resK_mono {σ : List SV} {m : List Res} {K K' : SV → Prop} (h : ∀ x, K x → K' x) : ∀ {rs : List ResultVar}, resK P σ m K rs → resK P σ m K' rs := by
  have hpk : ∀ {n : Nat} {ag : Bool} {K K' : SV → Prop} (_ : ∀ x, K x → K' x) {x : SV}, peek m n ag K x → peek m n ag K' x := by
    intro n ag K K' h x hh
    cases x <;> simp only [peek] at hh ⊢ <;> first
      | exact hh
      | exact ⟨hh.1, h _ hh.2⟩
      | (split at hh <;> first | exact hh.elim | exact ⟨hh.1, h _ hh.2⟩)
  have hgo : ∀ (l : List ResultVar) {K K' : List SV → Prop} (_ : ∀ x, K x → K' x), resK.go P σ m l K → resK.go P σ m l K' := by
    intro l
    induction l with
    | nil => intro K K' h hh; exact h _ hh
    | cons r l ih =>
      intro K K' h hh
      cases r with
      | tmp t => exact ⟨hh.1, ih (fun x hx => h _ hx) hh.2⟩
      | cell t T =>
        simp only [resK.go] at hh ⊢
        split at hh
        · exact hpk (fun x hx => ⟨hx.1, ih (fun y hy => h _ hy) hx.2⟩) hh
        · exact hh.elim
  intro rs hh
  match rs, hh with
  | [], hh => exact h _ hh
  | [.tmp t], hh => exact h _ hh
  | [.cell t T], hh =>
    simp only [resK] at hh ⊢
    split at hh
    · exact hpk h hh
    · exact hh.elim
  | .tmp t :: b :: l, hh => exact hgo (.tmp t :: b :: l) (K := fun xs => K (.tup xs)) (K' := fun xs => K' (.tup xs)) (fun x hx => h _ hx) (by simpa only [resK] using hh)
  | .cell t T :: b :: l, hh => exact hgo (.cell t T :: b :: l) (K := fun xs => K (.tup xs)) (K' := fun xs => K' (.tup xs)) (fun x hx => h _ hx) (by simpa only [resK] using hh)

theorem selI_nil : selI [] = fun _ => none := by funext i; simp [selI]

theorem endK_of {rs : List ResultVar} {res : SV} {σ : List SV} {m : List Res} {e : Ex} (h : end0 rs P res e σ m) : endK rs P 0 res [] e σ m := by
  have key : ∀ x, ren (fun _ => none) x = res → ∃ ks, packK ks 0 res [] m x := fun x hx => ⟨[], ⟨List.nodup_nil, fun i hi => absurd hi (Nat.not_lt_zero _)⟩, by rw [selI_nil]; exact hx, rfl⟩
  cases e with
  | exit i => exact h
  | norm => exact resK_mono (K := fun x => ren (fun _ => none) x = res) key h
  | ret => exact resK_mono (K := fun x => ren (fun _ => none) x = res) key h

/-- A function that is handed nothing to write and leaves nothing. -/
theorem fn_walk0 {quiet : FuncId → Bool} {f : FuncId} {ic : IC} {rs : List ResultVar} {nt : Nat} (hfn : fnIs P quiet f = some (ic, rs, nt)) {Γ : Hook} (hΓ : HookOK P Γ) {args : List SV} {res : SV}
    (h : swp Γ 0 ic (end0 rs P res) (args ++ List.replicate (nt - args.length) .junk) []) : FnOK P f args [] res [] := fn_walkQ hfn hΓ (fun _ _ _ h => endK_of h) h

/-! ### A callee that only reads -/
def PlainV (x : SV) : Prop := (∀ r, ren r x = x) ∧ NoHV x
theorem plain_int (k n) : PlainV (.int k n) := ⟨fun _ => by simp only [ren], (noH_int k n).val rfl⟩
theorem plain_bool (b) : PlainV (.bool b) := ⟨fun _ => by simp only [ren], (noH_bool b).val rfl⟩
theorem plain_str (b) : PlainV (.str b) := ⟨fun _ => by simp only [ren], (noH_str b).val rfl⟩

/-- A callee known by contracts 'A i', with 'ok i', to 'R i'. -/
def Hook.ro (f : FuncId) {ι : Type} (A : ι → List SV) (R : ι → SV) (ok : ι → Prop) (Γ : Hook) : Hook := Γ.on f fun args m K => ∃ i, ok i ∧ RoA m args (A i) ∧ K (R i) m

theorem Hook.ro_ok {f : FuncId} {ι : Type} {A : ι → List SV} {R : ι → SV} {ok : ι → Prop} {Γ : Hook} (hf : okFn P f = true) (h : ∀ i, ok i → FnOK P f (A i) [] (R i) []) (hR : ∀ i, PlainV (R i)) (hΓ : HookOK P Γ) : HookOK P (Hook.ro f A R ok Γ) := by
  refine Hook.on_ok hf (fun args m K => ?_) hΓ
  rintro ⟨i, hi, ha, hk⟩
  refine ⟨_, _, hk, ?_⟩
  have := call_ro (h i hi) ha (by rw [(hR i).1]; exact (hR i).2) (fun x hx => by cases hx)
  rw [(hR i).1] at this
  simpa using this

/-- A callee known by a law on what it is handed. -/
def Hook.fn (f : FuncId) (F : List SV → Option SV) (Γ : Hook) : Hook := Γ.on f fun args m K => match F args with
  | some r => K r m
  | none => False

theorem ro_same {m : List Res} {x : SV} (h : ren (fun _ => none) x = x) : Ro m x x := by
  have := Ro.base (m := m) x
  rwa [h] at this

theorem roA_self {m : List Res} : ∀ {l : List SV}, renL (fun _ => none) l = l → RoA m l l
  | [], _ => trivial
  | x :: l, h => by
    simp only [renL, List.cons.injEq] at h
    exact ⟨ro_same h.1, roA_self h.2⟩

theorem Hook.fn_ok {f : FuncId} {F : List SV → Option SV} {Γ : Hook} (hf : okFn P f = true) (h : ∀ args r, F args = some r → FnOK P f args [] r [] ∧ renL (fun _ => none) args = args ∧ PlainV r) (hΓ : HookOK P Γ) : HookOK P (Hook.fn f F Γ) := by
  refine Hook.on_ok hf (fun args m K hk => ?_) hΓ
  split at hk
  · rename_i r hr
    obtain ⟨h1, h2, h3⟩ := h args r hr
    refine ⟨_, _, hk, ?_⟩
    have := call_ro h1 (roA_self (m := m) h2) (by rw [h3.1]; exact h3.2) (fun x hx => by cases hx)
    rw [h3.1] at this
    simpa using this
  · exact hk.elim

theorem plain_tup2 {x y : SV} (hx : ∀ r, ren r x = x) (hy : ∀ r, ren r y = y) (nx : NoH x) (ny : NoH y) : PlainV (.tup [x, y]) :=
  ⟨fun r => by simp only [ren, renL, hx, hy], noHV_tup (by intro z hz; simp only [List.mem_cons, List.not_mem_nil, or_false] at hz; rcases hz with rfl | rfl <;> assumption)⟩

/-! ### How long what was handed in can be -/
mutual
def lenB : SV → Prop
  | .lst _ _ f l => l.length ≤ 9223372036854775807 ∧ ∀ x ∈ l, lenB (f x)
  | .agg l => lenBL l
  | .arr n _ f => ∀ i, i < n → lenB (f i)
  | .ref c _ _ => lenB c
  | _ => True
def lenBL : List SV → Prop
  | [] => True
  | x :: r => lenB x ∧ lenBL r
end

mutual
theorem lenB_ok : ∀ (x : SV) {ε : Env} {cs : List Value}, SatC x ε cs → lenB x
  | .lst w d f l, ε, cs, h => by
    simp only [SatC] at h
    obtain ⟨ao, cap, h1, h2, h3, h4, h5⟩ := h
    simp only [lenB]
    refine ⟨by unfold maxLen at h3; omega, fun x hx => ?_⟩
    obtain ⟨i, hi, hxi⟩ := List.getElem_of_mem hx
    obtain ⟨b, off, T, fz, cur, e1, e2, e3, e4⟩ := h5 i hi
    have e : l.getD i d = x := by simp [List.getD, hi, hxi]
    rw [e] at e4
    exact lenB_ok (f x) e4
  | .agg l, ε, cs, h => by simp only [SatC] at h; simp only [lenB]; exact lenBL_ok l h
  | .arr n w f, ε, cs, h => by simp only [SatC] at h; simp only [lenB]; exact fun i hi => lenB_ok (f i) (h.2 i hi)
  | .ref c p o, ε, cs, h => by
    simp only [SatC] at h
    obtain ⟨b, T, fz, cur, h1, h2, h3, h4⟩ := h
    simp only [lenB]
    exact lenB_ok c h4
  | .int .., _, _, _ => by simp only [lenB]
  | .bool .., _, _, _ => by simp only [lenB]
  | .str .., _, _, _ => by simp only [lenB]
  | .tup .., _, _, _ => by simp only [lenB]
  | .lit .., _, _, _ => by simp only [lenB]
  | .eptr .., _, _, _ => by simp only [lenB]
  | .ptr .., _, _, _ => by simp only [lenB]
  | .vec .., _, _, _ => by simp only [lenB]
  | .vptr .., _, _, _ => by simp only [lenB]
  | .pvec .., _, _, _ => by simp only [lenB]
  | .map .., _, _, _ => by simp only [lenB]
  | .fn .., _, _, _ => by simp only [lenB]
  | .iface .., _, _, _ => by simp only [lenB]
  | .nils, _, _, _ => by simp only [lenB]
  | .nili, _, _, _ => by simp only [lenB]
  | .nilf, _, _, _ => by simp only [lenB]
  | .nilp, _, _, _ => by simp only [lenB]
  | .nilm, _, _, _ => by simp only [lenB]
  | .anyb, _, _, _ => by simp only [lenB]
  | .raw .., _, _, _ => by simp only [lenB]
  | .junk, _, _, _ => by simp only [lenB]
theorem lenBL_ok : ∀ (l : List SV) {ε : Env} {cs : List Value}, SatL l ε cs → lenBL l
  | [], _, _, _ => by simp only [lenBL]
  | x :: l, ε, cs, h => by
    simp only [SatL] at h
    obtain ⟨a, b, h1, h2, h3⟩ := h
    simp only [lenBL]
    exact ⟨lenB_ok x h2, lenBL_ok l h3⟩
end

theorem lenA_ok : ∀ {l : List SV} {ε : Env} {vs : List Value}, SatA l ε vs → lenBL l
  | [], _, _, _ => by simp only [lenBL]
  | x :: l, ε, vs, h => by
    simp only [SatA] at h
    obtain ⟨cs, t, h1, h2, h3⟩ := h
    simp only [lenBL]
    exact ⟨lenB_ok x h2, lenA_ok h3⟩

theorem ro_ints {m : List Res} {i n : Nat} {T : TypeId} {l : List Int} {k : IntKind} (h : memAt m i = .vec T 1 (l.map (SV.int k))) : Ro m (.vec i n) (.lst 1 (0 : Int) (SV.int k) l) := by
  refine .vec h (by simp) fun j hj => ?_
  have hj' : j < l.length := by simpa using hj
  have e : (l.map (SV.int k)).getD j .junk = .int k (l.getD j 0) := by simp [List.getD, hj']
  rw [e]
  have := Ro.base (m := m) (.int k (l.getD j 0))
  simpa only [ren] using this
theorem ro_self {m : List Res} {x y : SV} (h : ren (fun _ => none) x = y) : Ro m x y := h ▸ Ro.base x

theorem fn_len {f : FuncId} {args : List SV} {m0 m1 : List Res} {res : SV} (h : lenBL args → FnOK P f args m0 res m1) : FnOK P f args m0 res m1 := fun ε w vs hg hs => h (lenA_ok hs) ε w vs hg hs

/-! ### A row is closed -/
open Go.RowKit Go.ChangeShapes

theorem Kept.below {ε ε' : Env} {w w' : World} (h : Kept (fun _ => False) ε w ε' w') : Below w.heap.size w w' :=
  ⟨h.os, h.tape, h.output, h.size, fun k hk => h.heap k hk (fun h => h)⟩

/-- The world as it is handed in: all that is there is held fast. -/
def ε0 (W : World) : Env := ⟨0, fun _ => 0, fun _ => .nilFunc, fun b => W.heap[b]?⟩

theorem good_nil (W : World) : Good (ε0 W) [] W :=
  ⟨rfl, fun i => by rw [memAt_ge (Nat.zero_le _)]; trivial, (fun i j b _ h => by rw [memAt_ge (Nat.zero_le _)] at h; cases h), (fun i b h => by rw [memAt_ge (Nat.zero_le _)] at h; cases h), fun _ _ h => h⟩

/-- **A law's contract**: handed what is held fast, it hands back true, and nothing that was there has turned. -/
theorem law_run {f : FuncId} {args : List SV} (h : FnOK P f args [] (.bool true) []) (W : World) {vs : List Value} (hs : SatA args (ε0 W) vs) : Calls P f vs.toArray W fun e W' => e = .returned (.bool true) ∧ Below W.heap.size W W' := by
  refine (h (ε0 W) W vs (good_nil W) hs).mono fun e W' ⟨v, ε', he, hv, hi⟩ => ?_
  subst he
  rw [sat_bool hv]
  refine ⟨rfl, ⟨hi.kept.os, hi.kept.tape, hi.kept.output, hi.kept.size, fun k hk => hi.kept.heap k hk ?_⟩⟩
  rintro ⟨i, hb⟩
  rw [memAt_ge (Nat.zero_le _)] at hb; cases hb

def readB (P : Program) (ts : List TypeId) : Bool := ts.all fun t => P.readableRec t && decide (t < P.types.size)

theorem trodAll_stays {H : Type} {enc : TypeId × Value → H} (hl : laidOutB P = true) {W W' : World} {sp' : Nat → Bool} (hb : Below W.heap.size W W') : ∀ {ts : List TypeId} {vs : List Value} {ds : List (DataW H)} {ps : List MemPlace},
    readB P ts = true → DataW.TrodAll enc P W 0 (fun _ => true) true ts vs ds ps → (∀ p ∈ ps, p.block < W.heap.size) → (∀ p ∈ ps, sp' p.block = true) → DataW.TrodAll enc P W' 0 sp' true ts vs ds ps
  | [], [], [], _, _, h, _, _ => h
  | t :: ts, v :: vs, d :: ds, ps, hr, h, hlt, hsp => by
    simp only [readB, List.all_cons, Bool.and_eq_true, decide_eq_true_eq] at hr
    obtain ⟨p, q, h1, h2, rfl⟩ := h
    exact ⟨p, q, WideElems.Trod_stays hl hr.1.1 hr.1.2 h1 (fun x hx => hb.same (hlt x (by simp [hx]))) (fun x hx => hsp x (by simp [hx])),
      trodAll_stays hl hb hr.2 h2 (fun x hx => hlt x (by simp [hx])) (fun x hx => hsp x (by simp [hx])), rfl⟩
  | [], [], _ :: _, _, _, h, _, _ => h.elim
  | [], _ :: _, _, _, _, h, _, _ => h.elim
  | _ :: _, [], _, _, _, h, _, _ => h.elim
  | _ :: _, _ :: _, [], _, _, h, _, _ => h.elim

/-- A law that hands back true and leaves what it was handed. -/
theorem row_close {H : Type} {enc : TypeId × Value → H} {f : Func} {s : ChangeSpec} {apart fresh handsOn again : Bool} {W W' : World} {args : Array Value} {ds gs : List (DataW H)} {before : List MemPlace} {tb : TypeId}
    (hl : laidOutB P = true) (hr : readB P f.params.toList = true) (hrt : f.resultTypes = #[tb]) (htb : P.underlying tb = some .bool) (hv : s.vars = [])
    (hW : DataW.Whole enc P f.params.toList s.vars apart W args.toList ds gs before) (hb : Below W.heap.size W W')
    (hfn : s.fn H (ds ++ gs) = { results := [.lit (.bool true)], args := ds }) : s.post enc P f apart fresh handsOn again W args (.bool true) W' := by
  have hlt := hW.lt
  obtain ⟨pa, pv, hA, hV, rfl, hz, hn⟩ := hW
  rw [hv] at hV
  have hpv : pv = [] ∧ gs = [] := by
    cases gs with
    | nil => exact ⟨hV, rfl⟩
    | cons => exact hV.elim
  obtain ⟨rfl, rfl⟩ := hpv
  have hres : ∀ (b : Nat) (sp : Nat → Bool) (hd : Bool), DataW.TrodAll enc P W' b sp hd f.resultTypes.toList ((Value.bool true).resultList f.resultTypes.size) (s.fn H (ds ++ [])).results [] := by
    intro b sp hd
    rw [hrt, hfn]
    exact ⟨[], [], shut_bool htb true, rfl, rfl⟩
  have hargs : ∀ sp : Nat → Bool, (∀ p ∈ pa ++ [], sp p.block = true) → DataW.TrodAll enc P W' 0 sp true f.params.toList args.toList (s.fn H (ds ++ [])).args pa := by
    intro sp hsp
    rw [hfn]
    exact trodAll_stays hl hb hr hA (fun p hp => hlt p (by simp [hp])) (fun p hp => hsp p (by simp [hp]))
  have hvars : ∀ sp : Nat → Bool, DataW.TrodVars enc P W' sp s.vars (s.fn H (ds ++ [])).vars [] := by
    intro sp
    rw [hv, hfn]; rfl
  have hold : ∀ p ∈ pa ++ [], (fun b => decide (b < W.heap.size)) p.block = true := fun p hp => by simpa using hlt p hp
  refine ⟨ds, [], pa ++ [], [], pa, [], ⟨pa, [], hA, by rw [hv]; exact hV, rfl, hz, hn⟩, hres _ _ _, hargs _ hold, hvars _, World.keptBut_mono (fun p hp => ⟨hp, by simpa using hp⟩) (hb.frame _), fun _ => ?_⟩
  refine ⟨ok_one hrt rfl (okWide_bool_mk htb true), _, _, ([] ++ pa) ++ [], ⟨[] ++ pa, [], trodAll_append (hargs _ (fun _ _ => rfl)) (hres _ _ _), hvars _, rfl, ?_, ?_⟩, ?_⟩
  · intro b off hp
    have hp' : MemPlace.cell b off ∈ pa ++ [] := by simpa using hp
    rw [hb.frozen (hlt _ hp')]
    exact hz b off hp'
  · intro ha
    simpa using hn ha
  · intro p hp _
    simpa using hp

end Go.Sx
