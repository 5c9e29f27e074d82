import Derived.Test.YtafcmgfmmlnngaaSx13a
/-! Sx, part 13b: regions that draw their order: one walk, in the order of the text. -/
set_option linter.unusedSimpArgs false
set_option linter.unusedVariables false
namespace Go.Sx
open Go

variable {P : Program}

def Opd.sl : Opd → List Nat
  | .t n => [n]
  | .c _ => []

def optS : Option Opd → List Nat
  | none => []
  | some x => x.sl

def PIO.sl : PIO → List Nat
  | .mv x | .nt x | .neg x | .conv _ x | .fa _ _ x | .fld _ _ _ _ x | .ext _ x | .len x | .lens x | .nck x | .mkif _ x | .snil _ x | .pnil _ x | .tas _ _ x => x.sl
  | .pick c x y => c.sl ++ x.sl ++ y.sl
  | .ar _ x y | .cmp _ x y | .beq _ x y | .seq _ x y | .cat x y | .ia _ _ x y | .is _ x y | .ix _ _ _ x y | .sx x y | .mx x y | .mn x y | .aeq _ _ x y | .ieq _ _ x y => x.sl ++ y.sl
  | .bld _ ps => ps.flatMap fun p => p.2.2.2.sl
  | .mkfn _ c => c.flatMap Opd.sl
  | .ssl x lo hi => x.sl ++ optS lo ++ optS hi
  | .slc _ x lo hi m3 => x.sl ++ optS lo ++ optS hi ++ optS m3

def EIO.sl : EIO → List Nat
  | .alloc _ _ => []
  | .box _ x | .load _ _ x => x.sl
  | .store _ x v => x.sl ++ v.sl
  | .bsl _ _ _ _ ps => ps.flatMap fun p => p.2.sl
  | .mks _ _ _ _ l c => l.sl ++ c.sl
  | .app _ _ _ s x => s.sl ++ x.sl
  | .call _ ys | .qcall _ ys => ys.flatMap Opd.sl
  | .callv x ys => x.sl ++ ys.flatMap Opd.sl
  | .icall _ x ys => x.sl ++ ys.flatMap Opd.sl
  | .qtab _ => []
  | .qbsl _ _ _ _ ps => ps.flatMap fun p => p.2.sl
  | .again _ _ x d => d :: x.sl
  | .mop _ ys => ys.flatMap Opd.sl

def IO1.sl : IO1 → List Nat
  | .p x => x.sl
  | .e x => x.sl

def IOp.sl (o : IOp) : List Nat := (match o.guard with | none => [] | some (s, _) => [s]) ++ o.op.sl

/-- Two frames that agree where an operation looks. -/
def Agree (ss : List Nat) (σ σ' : List SV) : Prop := ∀ k ∈ ss, σ'.getD k .junk = σ.getD k .junk

theorem Agree.ev {ss : List Nat} {σ σ' : List SV} (h : Agree ss σ σ') {x : Opd} (hx : ∀ k ∈ x.sl, k ∈ ss) : x.ev σ' = x.ev σ := by
  cases x with
  | t n => exact h n (hx n (by simp [Opd.sl]))
  | c v => rfl

theorem evs_eq {ss : List Nat} {σ σ' : List SV} (h : Agree ss σ σ') : ∀ (ys : List Opd), (∀ k ∈ ys.flatMap Opd.sl, k ∈ ss) → ys.map (·.ev σ') = ys.map (·.ev σ)
  | [], _ => rfl
  | y :: ys, hk => by
    simp only [List.map_cons]
    rw [h.ev (x := y) (fun k hk' => hk k (by simp [hk'])), evs_eq h ys (fun k hk' => hk k (by simp only [List.flatMap_cons, List.mem_append]; exact .inr hk'))]

theorem bld_eq {ss : List Nat} {σ σ' : List SV} (h : Agree ss σ σ') {K : SV → Prop} : ∀ (ps : List (List Step × Nat × Nat × Opd)) (z : SV), (∀ k ∈ ps.flatMap fun p => p.2.2.2.sl, k ∈ ss) → bldParts σ' z ps K = bldParts σ z ps K
  | [], _, _ => rfl
  | (p, o, n, x) :: r, z, hk => by
    have e := h.ev (x := x) (fun k hk' => hk k (by simp [hk']))
    simp only [bldParts, e]
    rw [bld_eq h r _ (fun k hk' => hk k (by simp only [List.flatMap_cons, List.mem_append]; exact .inr hk'))]

theorem bsl_eq {ss : List Nat} {σ σ' : List SV} (h : Agree ss σ σ') {w : Nat} {K : List SV → Prop} : ∀ (ps : List (Nat × Opd)) (z : List SV), (∀ k ∈ ps.flatMap fun p => p.2.sl, k ∈ ss) → bslParts σ' w z ps K = bslParts σ w z ps K
  | [], _, _ => rfl
  | (k0, x) :: r, z, hk => by
    have e := h.ev (x := x) (fun k hk' => hk k (by simp [hk']))
    simp only [bslParts, e]
    rw [bsl_eq h r _ (fun k hk' => hk k (by simp only [List.flatMap_cons, List.mem_append]; exact .inr hk'))]

theorem bound_eq {ss : List Nat} {σ σ' : List SV} (h : Agree ss σ σ') {d : Nat} {x : Option Opd} {K : Nat → Prop} (hx : ∀ k ∈ optS x, k ∈ ss) : popK.bound σ' d x K = popK.bound σ d x K := by
  cases x with
  | none => rfl
  | some x => simp only [popK.bound, h.ev (x := x) hx]

theorem popK_eq {ss : List Nat} {σ σ' : List SV} (h : Agree ss σ σ') {K : SV → Prop} {p : PIO} (hp : ∀ k ∈ p.sl, k ∈ ss) : popK σ' K p = popK σ K p := by
  cases p with
  | bld z ps => simp only [popK]; exact bld_eq h ps z hp
  | mkfn f c => simp only [popK, evs_eq h c hp]
  | pick c x y =>
    simp only [PIO.sl, List.mem_append] at hp
    simp only [popK, h.ev (x := c) (fun k hk => hp k (.inl (.inl hk))), h.ev (x := x) (fun k hk => hp k (.inl (.inr hk))), h.ev (x := y) (fun k hk => hp k (.inr hk))]
  | ssl x lo hi =>
    simp only [PIO.sl, List.mem_append] at hp
    simp only [popK, h.ev (x := x) (fun k hk => hp k (.inl (.inl hk))), bound_eq h (x := lo) (fun k hk => hp k (.inl (.inr hk))), bound_eq h (x := hi) (fun k hk => hp k (.inr hk))]
  | slc w x lo hi m3 =>
    simp only [PIO.sl, List.mem_append] at hp
    simp only [popK, h.ev (x := x) (fun k hk => hp k (.inl (.inl (.inl hk)))), bound_eq h (x := lo) (fun k hk => hp k (.inl (.inl (.inr hk)))), bound_eq h (x := hi) (fun k hk => hp k (.inl (.inr hk)))]
    cases m3 with
    | none => cases Opd.ev σ x <;> rfl
    | some c =>
      have hc : ∀ (d : Nat) (K : Nat → Prop), popK.bound σ' d (some c) K = popK.bound σ d (some c) K := fun d K => bound_eq h (x := some c) (fun k hk => hp k (.inr hk))
      cases Opd.ev σ x <;> first | rfl | simp only [hc]
  | ar o x y | cmp o x y | beq o x y | seq o x y | cat x y | ia _ _ x y | is _ x y | ix _ _ _ x y | sx x y | mx x y | mn x y | aeq _ _ x y | ieq _ _ x y =>
    simp only [PIO.sl, List.mem_append] at hp
    simp only [popK, h.ev (x := x) (fun k hk => hp k (.inl hk)), h.ev (x := y) (fun k hk => hp k (.inr hk))]
  | mv x | nt x | neg x | conv _ x | fa _ _ x | fld _ _ _ _ x | ext _ x | len x | lens x | nck x | mkif _ x | snil _ x | pnil _ x | tas _ _ x =>
    simp only [popK, h.ev (x := x) hp]

/-- An operation of such a region: what it leaves, beside all that is known. -/
def dopK (Γ : Hook) (σ : List SV) (m : List Res) (K : SV → List Res → Prop) : IO1 → Prop
  | .p p => popK σ (fun sv => K sv m) p
  | .e (.app E w by' s x) => appM m E w by' (s.ev σ) (x.ev σ) K
  | .e e => eopK Γ σ m (fun _ sv m' => K sv m') e

theorem eopK_eq {Γ : Hook} {ss : List Nat} {σ σ' : List SV} (h : Agree ss σ σ') {m : List Res} {K : SV → List Res → Prop} {e : EIO} (hp : ∀ k ∈ e.sl, k ∈ ss) (hd : dopK Γ σ m K (.e e)) : dopK Γ σ' m K (.e e) := by
  cases e with
  | alloc T z => exact hd
  | box T x => simp only [dopK, eopK, h.ev (x := x) hp] at hd ⊢; exact hd
  | load n ag x => simp only [dopK, eopK, h.ev (x := x) hp] at hd ⊢; exact hd
  | store n x v =>
    simp only [EIO.sl, List.mem_append] at hp
    simp only [dopK, eopK, h.ev (x := x) (fun k hk => hp k (.inl hk)), h.ev (x := v) (fun k hk => hp k (.inr hk))] at hd ⊢; exact hd
  | bsl E w len z ps => simp only [dopK, eopK] at hd ⊢; rw [bsl_eq h ps _ hp]; exact hd
  | mks E w b z x y =>
    simp only [EIO.sl, List.mem_append] at hp
    simp only [dopK, eopK, h.ev (x := x) (fun k hk => hp k (.inl hk)), h.ev (x := y) (fun k hk => hp k (.inr hk))] at hd ⊢; exact hd
  | app E w b x y =>
    simp only [EIO.sl, List.mem_append] at hp
    simp only [dopK, h.ev (x := x) (fun k hk => hp k (.inl hk)), h.ev (x := y) (fun k hk => hp k (.inr hk))] at hd ⊢
    exact hd
  | call f ys => simp only [dopK, eopK, evs_eq h ys hp] at hd ⊢; exact hd
  | qcall f ys => simp only [dopK, eopK, evs_eq h ys hp] at hd ⊢; exact hd
  | qtab l => exact hd
  | qbsl E w len z ps => simp only [dopK, eopK] at hd ⊢; rw [bsl_eq h ps _ hp]; exact hd
  | mop k ys => simp only [dopK, eopK, evs_eq h ys hp] at hd ⊢; exact hd
  | again n ag x d =>
    have hd' : σ'.getD d .junk = σ.getD d .junk := h d (hp d (by simp [EIO.sl]))
    simp only [dopK, eopK, h.ev (x := x) (fun k hk => hp k (by simp only [EIO.sl, List.mem_cons]; exact .inr hk)), hd'] at hd ⊢; exact hd
  | callv x ys =>
    simp only [EIO.sl, List.mem_append] at hp
    simp only [dopK, eopK, h.ev (x := x) (fun k hk => hp k (.inl hk)), evs_eq h ys (fun k hk => hp k (.inr hk))] at hd ⊢; exact hd
  | icall tab x ys =>
    simp only [EIO.sl, List.mem_append] at hp
    simp only [dopK, eopK, h.ev (x := x) (fun k hk => hp k (.inl hk)), evs_eq h ys (fun k hk => hp k (.inr hk))] at hd ⊢; exact hd

theorem dopK_eq {Γ : Hook} {ss : List Nat} {σ σ' : List SV} (h : Agree ss σ σ') {m : List Res} {K : SV → List Res → Prop} {x : IO1} (hp : ∀ k ∈ x.sl, k ∈ ss) (hd : dopK Γ σ m K x) : dopK Γ σ' m K x := by
  cases x with
  | p p => simp only [dopK] at hd ⊢; rw [popK_eq h hp]; exact hd
  | e e => exact eopK_eq h hp hd


/-- Slices of data that nobody writes. -/
def qmode (quiet : FuncId → Bool) : Bool := !quiet 999999999
/-- In such a region a call may be known to leave memory as it is. -/
def quieted (quiet : FuncId → Bool) : IO1 → IO1
  | .e (.call f ys) => if quiet f then .e (.qcall f ys) else .e (.call f ys)
  | .e (.bsl E w len z ys) => match tabOf 0 ys with
    | some l => if w = 1 ∧ len = l.length then .e (.qtab l) else if qmode quiet then .e (.qbsl E w len z ys) else .e (.bsl E w len z ys)
    | none => if qmode quiet then .e (.qbsl E w len z ys) else .e (.bsl E w len z ys)
  | x => x

def IO1.impure : IO1 → Bool
  | .p _ => false
  | .e (.qtab ..) => false
  | .e (.qbsl ..) => false
  | .e _ => true

def IO1.eff : IO1 → Bool
  | .p _ => false
  | .e (.load ..) => false
  | .e (.qcall ..) => false
  | .e (.qtab ..) => false
  | .e (.qbsl ..) => false
  | .e (.again ..) => false
  | .e (.mop k _) => k.eff
  | .e _ => true

/-- What an operation does: whatever memory is there; or a step. -/
def StepF (P : Program) (o : Oper) (σ : List SV) (x : IO1) (m : List Res) (sv : SV) (m' : List Res) : Prop :=
  (x.impure = false → ∀ m2, EStepL P o σ m2 sv m2) ∧ EStepL P o σ m sv m' ∧ (x.eff = false → m' = m)

theorem pure_estep {o : Oper} {σ : List SV} {m : List Res} {sv : SV} (h : PureOK P o σ sv) : EStepL P o σ m sv m := by
  intro β ε a w hi hs Q
  obtain ⟨v, hr, hv⟩ := h ε a hs
  unfold Oper.wp
  rw [hr, Oper.upon_value]
  exact ⟨v, ε, rfl, hv, Env.Le.refl ε, hi⟩

theorem dopK_sound {Γ : Hook} (hΓ : HookOK P Γ) {quiet : FuncId → Bool} {o : Oper} {σ : List SV} {m : List Res} {K : SV → List Res → Prop} {x : IO1} (hx : comp1 P o.op = some x) (h : dopK Γ σ m K (quieted quiet x)) :
    ∃ sv m', K sv m' ∧ StepF P o σ (quieted quiet x) m sv m' := by
  unfold comp1 at hx
  split at hx
  · rename_i p hp
    simp only [Option.some.injEq] at hx; subst hx
    obtain ⟨sv, hK, hpure⟩ := popK_sound (K := fun sv => K sv m) hp h
    exact ⟨sv, m, hK, fun _ m2 => pure_estep hpure, pure_estep hpure, fun _ => rfl⟩
  · simp only [Option.map_eq_some_iff] at hx
    obtain ⟨e, he, rfl⟩ := hx
    cases hM : compM P o.op with
    | some p =>
      obtain ⟨k, ys⟩ := p
      rw [compE_M hM] at he
      cases he
      obtain ⟨sv, m', hK, hE, hq⟩ := estep_mop (K := K) hM h.1 h.2
      exact ⟨_, _, hK, (fun hh => by cases hh), hE, hq⟩
    | none =>
    cases ho : o.op <;> rw [ho] at he hM <;> simp only [compE, hM, Option.map_none] at he <;> try (cases he; done)
    case alloc T =>
      simp only [Option.map_eq_some_iff] at he
      obtain ⟨z, hz, rfl⟩ := he
      exact ⟨_, _, h, (fun hh => by cases hh), estep_alloc ho hz, (fun hh => by cases hh)⟩
    case box T x =>
      simp only [Option.map_eq_some_iff] at he
      obtain ⟨x', hx, rfl⟩ := he
      exact ⟨_, _, h.2, (fun hh => by cases hh), estep_box ho hx h.1, (fun hh => by cases hh)⟩
    case buildSlice T len parts =>
      split at he <;> try (cases he; done)
      rename_i E hu
      split at he <;> try (cases he; done)
      rename_i z w ag ys h1 h2 h3
      split at he <;> try (cases he; done)
      rename_i hc
      simp only [Option.some.injEq] at he; subst he
      have plain : (quieted quiet (.e (.bsl E w len z ys)) = .e (.bsl E w len z ys) ∨ quieted quiet (.e (.bsl E w len z ys)) = .e (.qbsl E w len z ys)) → ∃ sv m', K sv m' ∧ StepF P o σ (quieted quiet (.e (.bsl E w len z ys))) m sv m' := by
        intro hq
        rcases hq with hq | hq
        · rw [hq] at h ⊢
          obtain ⟨l, hK, hE⟩ := estep_bsl (m := m) (σ := σ) (K := fun l => K (SV.vec m.length len) (m ++ [Res.vec E w l])) ho hu h1 h2 hc.1 hc.2.1 hc.2.2 h3 h
          exact ⟨_, _, hK, (fun hh => by cases hh), hE, (fun hh => by cases hh)⟩
        · rw [hq] at h ⊢
          obtain ⟨sv, hK, hE⟩ := estep_qbsl (σ := σ) (K := fun sv => K sv m) ho hu h1 h2 hc.1 hc.2.1 hc.2.2 h3 h
          exact ⟨_, _, hK, fun _ => hE, hE m, fun _ => rfl⟩
      have two : ∀ x : IO1, (if qmode quiet then IO1.e (.qbsl E w len z ys) else x) = x ∨ (if qmode quiet then IO1.e (.qbsl E w len z ys) else x) = IO1.e (.qbsl E w len z ys) := fun x => by
        cases qmode quiet <;> simp
      cases htab : tabOf 0 ys with
      | none => exact plain (by simp only [quieted, htab]; exact two _)
      | some l =>
        by_cases hwl : w = 1 ∧ len = l.length
        · have hq : quieted quiet (.e (.bsl E w len z ys)) = .e (.qtab l) := by simp only [quieted, htab, if_pos hwl]
          rw [hq] at h ⊢
          obtain ⟨rfl, hll⟩ := hwl
          exact ⟨_, _, h, fun _ m2 => estep_tab ho hu h1 h2 hc.1 hc.2.1 h3 htab hll, estep_tab ho hu h1 h2 hc.1 hc.2.1 h3 htab hll, fun _ => rfl⟩
        · exact plain (by simp only [quieted, htab, if_neg hwl]; exact two _)
    case load T x =>
      split at he <;> try (cases he; done)
      rename_i x' n ag hx ht
      simp only [Option.some.injEq] at he; subst he
      obtain ⟨sv, hK, hE⟩ := estep_load (K := fun sv => K sv m) ho hx ht h
      exact ⟨_, _, hK, (fun hh => by cases hh), hE, fun _ => rfl⟩
    case store T x v =>
      split at he <;> try (cases he; done)
      rename_i x' v' n ag hx hv ht
      simp only [Option.some.injEq] at he; subst he
      obtain ⟨m', hK, hE⟩ := estep_store (K := fun m' => K .junk m') ho hx hv ht h
      exact ⟨_, _, hK, (fun hh => by cases hh), hE, (fun hh => by cases hh)⟩
    case makeSlice T l c =>
      split at he <;> try (cases he; done)
      rename_i E w by' l' c' ht hl hc
      split at he <;> try (cases he; done)
      rename_i z hz
      simp only [Option.some.injEq] at he; subst he
      simp only [quieted, dopK, eopK] at h
      split at h
      · rename_i k1 a k2 b e1 e2
        exact ⟨_, _, h.2, (fun hh => by cases hh), estep_mks ho ht hz hl hc e1 e2 h.1.1 h.1.2.1 h.1.2.2, (fun hh => by cases hh)⟩
      · exact h.elim
    case call c =>
      cases c with
      | mk callee args tys =>
      simp only [compE.compC] at he
      split at he
      · rename_i ec
        split at he <;> try (cases he; done)
        rename_i s x t t' ea et
        split at he <;> try (cases he; done)
        rename_i htt
        subst htt
        split at he <;> try (cases he; done)
        rename_i E w by' s' x' h1 h2 h3
        simp only [Option.some.injEq] at he; subst he
        obtain rfl : args = #[s, x] := by apply Array.ext'; simpa using ea
        obtain rfl : tys = #[t', t'] := by apply Array.ext'; simpa using et
        simp only [quieted, dopK] at h
        obtain ⟨sv, m', hK, hE⟩ := estep_appM ho h1 h2 h3 h
        exact ⟨_, _, hK, (fun hh => by cases hh), hE, (fun hh => by cases hh)⟩
      · rename_i cc f
        simp only [Option.map_eq_some_iff] at he
        obtain ⟨ys, hy, rfl⟩ := he
        simp only [quieted] at h ⊢
        cases hq : quiet f with
        | false =>
          rw [hq] at h
          obtain ⟨sv, m', hK, hE⟩ := estep_call hΓ ho hy h.1 h.2
          exact ⟨_, _, hK, (fun hh => by cases hh), hE, (fun hh => by cases hh)⟩
        | true =>
          rw [hq] at h
          obtain ⟨sv, m', ⟨rfl, hK⟩, hE⟩ := estep_call (K := fun sv m' => m' = m ∧ K sv m) hΓ ho hy h.1 h.2
          exact ⟨_, _, hK, (fun hh => by cases hh), hE, fun _ => rfl⟩
      · rename_i x hne
        split at he <;> try (cases he; done)
        rename_i x' ys hx hy
        simp only [Option.some.injEq] at he; subst he
        simp only [quieted, dopK, eopK] at h
        split at h
        · rename_i f cap hf
          obtain ⟨sv, m', hK, hE⟩ := estep_callv hΓ ho hx hf hy h.1 h.2
          exact ⟨_, _, hK, (fun hh => by cases hh), hE, (fun hh => by cases hh)⟩
        · exact h.elim
      · rename_i x nm hcal
        split at he <;> try (cases he; done)
        rename_i x' ys hx hy
        simp only [Option.some.injEq] at he; subst he
        simp only [quieted, dopK, eopK] at h
        split at h
        · rename_i t v hf
          split at h
          · rename_i f hta
            obtain ⟨sv, m', hK, hE⟩ := estep_icall hΓ ho hx hf hta hy h.1 h.2
            exact ⟨_, _, hK, (fun hh => by cases hh), hE, (fun hh => by cases hh)⟩
          · exact h.elim
        · exact h.elim
      · cases he

end Go.Sx
