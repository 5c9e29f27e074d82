import Derived.Test.YtgcbhanfhnianaaSx12
import Derived.Orders
import Derived.Deep.LoopGhost
/-! Sx, part 13: regions in the order of the text; code. -/
set_option linter.unusedSimpArgs false
set_option linter.unusedVariables false
namespace Go.Sx
open Go

variable {P : Program}

def guardK (g : Option (Nat × Bool)) (σ : List SV) (A B : List SV → Prop) : Prop :=
  match g with
  | none => A σ
  | some (s, want) => match σ.getD s .junk with
    | .bool b => (b = want → A (σ.set s (.bool want))) ∧ (b = (!want) → B (σ.set s (.bool (!want))))
    | .tup [] => B σ
    | _ => False

def opK (Γ : Hook) (σ : List SV) (m : List Res) (K : List SV → SV → List Res → Prop) : IO1 → Prop
  | .p p => popK σ (fun sv => K σ sv m) p
  | .e e => eopK Γ σ m K e

def putS (d : Option Nat) (sv : SV) (σ : List SV) : List SV := match d with
  | none => σ
  | some d => σ.set d sv

def sops (Γ : Hook) : List IOp → (List SV → List Res → Prop) → List SV → List Res → Prop
  | [], K, σ, m => K σ m
  | o :: r, K, σ, m => guardK o.guard σ (fun σ1 => opK Γ σ1 m (fun σ' sv m' => sops Γ r K (putS o.dst sv σ') m') o.op) (fun σ1 => sops Γ r K (putS o.dst (.tup []) σ1) m)

def compG (ops : Array Oper) : Option (Nat × Bool) → Option (Option (Nat × Bool))
  | none => some none
  | some (j, want) => match (ops[j]?).bind (·.dst) with
    | some d => some (some (d, want))
    | none => none

def comp1 (P : Program) (o : Op) : Option IO1 := match compP P o with
  | some p => some (.p p)
  | none => (compE P o).map .e

def compOp (P : Program) (ops : Array Oper) (o : Oper) : Option IOp := match compG ops o.guard, comp1 P o.op with
  | some g, some x => some ⟨o.dst, g, x⟩
  | _, _ => none

theorem SlotsOK.put {ε : Env} {σ : List SV} {a : Act} {sv : SV} {v : Value} (h : SlotsOK ε σ a) (hv : SatV ε sv v) (d : Option Nat) : SlotsOK ε (putS d sv σ) (a.put d v) := by
  cases d with
  | none => exact h
  | some d =>
    refine ⟨by simp [putS, Act.put, h.1], fun k => ?_⟩
    have h1 := h.1
    simp only [putS, Act.put]
    by_cases hk : d = k
    · subst hk
      by_cases hd : d < σ.length
      · have hd' : d < a.tmps.size := by omega
        have e1 : (σ.set d sv).getD d .junk = sv := by simp [List.getD, hd]
        have e2 : (a.tmps.setIfInBounds d v).getD d undef = v := by simp [Array.getD, hd']
        rw [e1, e2]; exact hv
      · have e1 : (σ.set d sv).getD d .junk = .junk := by simp [List.getD, hd]
        rw [e1]; trivial
    · have e1 : (σ.set d sv).getD k .junk = σ.getD k .junk := by simp [List.getD, hk]
      have e2 : (a.tmps.setIfInBounds d v).getD k undef = a.tmps.getD k undef := by
        simp only [Array.getD_eq_getD_getElem?, Array.getElem?_setIfInBounds, if_neg hk]
      rw [e1, e2]; exact h.2 k

theorem put_defers (a : Act) (d : Option Nat) (v : Value) : (a.put d v).defers = a.defers := by cases d <;> rfl

theorem SlotsOK.known {ε : Env} {σ : List SV} {a : Act} (h : SlotsOK ε σ a) {s : Nat} {b : Bool} (hb : σ.getD s .junk = .bool b) : SlotsOK ε (σ.set s (.bool b)) a := by
  refine ⟨by simp [h.1], fun k => ?_⟩
  by_cases hk : s = k
  · subst hk
    have : (σ.set s (.bool b)).getD s .junk = σ.getD s .junk ∨ (σ.set s (.bool b)).getD s .junk = .junk := by
      by_cases hs : s < σ.length
      · left; rw [hb]; simp [List.getD, hs]
      · right; simp [List.getD, hs]
    rcases this with e | e <;> rw [e]
    · exact h.2 s
    · trivial
  · have : (σ.set s (.bool b)).getD k .junk = σ.getD k .junk := by simp [List.getD, hk]
    rw [this]; exact h.2 k

theorem wanted_ok {ops : Array Oper} {o : Oper} {a : Act} {ε : Env} {σ : List SV} (h : SlotsOK ε σ a) {s : Nat} {want b : Bool} (hg : compG ops o.guard = some (some (s, want))) (hb : σ.getD s .junk = .bool b) :
    Region.wanted o (yielded ops a.tmps) = (b == want) := by
  cases ho : o.guard with
  | none => rw [ho] at hg; simp [compG] at hg
  | some g =>
    obtain ⟨j, w'⟩ := g
    rw [ho] at hg
    simp only [compG] at hg
    split at hg <;> try (cases hg; done)
    rename_i d hd
    simp only [Option.some.injEq, Prod.mk.injEq] at hg
    obtain ⟨rfl, rfl⟩ := hg
    have := sat_bool (hb ▸ h.2 d)
    have h2 : a.tmps[d]? = some (.bool b) := by
      rw [Array.getD_eq_getD_getElem?] at this
      cases hh : a.tmps[d]? with
      | none => rw [hh] at this; simp [undef] at this
      | some v => rw [hh] at this; simpa using this
    simp only [Region.wanted, ho, yielded, hd, Option.bind_some, h2]
    cases b <;> cases w' <;> rfl

theorem sat_undef {ε : Env} : SatV ε (.tup []) undef := ⟨[], by simp only [SatA], rfl⟩
theorem wanted_undef {ops : Array Oper} {o : Oper} {a : Act} {ε : Env} {σ : List SV} (h : SlotsOK ε σ a) {s : Nat} {want : Bool} (hg : compG ops o.guard = some (some (s, want))) (hb : σ.getD s .junk = .tup []) :
    Region.wanted o (yielded ops a.tmps) = false := by
  cases ho : o.guard with
  | none => rw [ho] at hg; simp [compG] at hg
  | some g =>
    obtain ⟨j, w'⟩ := g
    rw [ho] at hg
    simp only [compG] at hg
    split at hg <;> try (cases hg; done)
    rename_i d hd
    simp only [Option.some.injEq, Prod.mk.injEq] at hg
    obtain ⟨rfl, rfl⟩ := hg
    obtain ⟨vs, h1, this⟩ := sat_tup (hb ▸ h.2 d)
    simp only [SatA] at h1
    subst h1
    simp only [Region.wanted, ho, yielded, hd, Option.bind_some]
    rw [Array.getD_eq_getD_getElem?] at this
    cases hh : a.tmps[d]? with
    | none => rfl
    | some v =>
      rw [hh] at this
      simp only [Option.getD_some] at this
      subst this
      rfl

theorem opK_sound {Γ : Hook} (hΓ : HookOK P Γ) {o : Oper} {σ : List SV} {m : List Res} {K : List SV → SV → List Res → Prop} {x : IO1} (hx : comp1 P o.op = some x) (h : opK Γ σ m K x) :
    ∃ σ' sv m', K σ' sv m' ∧ EStep P o σ m σ' sv m' := by
  unfold comp1 at hx
  split at hx
  · rename_i p hp
    simp only [Option.some.injEq] at hx; subst hx
    obtain ⟨sv, hK, hpure⟩ := popK_sound (K := fun sv => K σ sv m) hp h
    refine ⟨_, _, _, hK, fun β ε a w hi hs Q => ?_⟩
    obtain ⟨v, hr, hv⟩ := hpure ε a hs
    unfold Oper.wp
    rw [hr, Oper.upon_value]
    exact ⟨v, ε, rfl, hv, hs, hi⟩
  · simp only [Option.map_eq_some_iff] at hx
    obtain ⟨e, he, rfl⟩ := hx
    exact eopK_sound hΓ he h

theorem sops_sound {Γ : Hook} (hΓ : HookOK P Γ) {ops : Array Oper} {Q : Exit → Act → World → Prop} {β : Base} {d : List Deferred} : ∀ (l : List Oper) (ios : List IOp) (σ : List SV) (m : List Res) (K : List SV → List Res → Prop),
    l.mapM (compOp P ops) = some ios → sops Γ ios K σ m → (∀ σ' m' ε' a' w', K σ' m' → Inv β ε' m' w' → SlotsOK ε' σ' a' → a'.defers = d → Q .normal a' w') →
    ∀ ε a w, Inv β ε m w → SlotsOK ε σ a → a.defers = d → wpList P ops Q l a w
  | [], ios, σ, m, K, hc, h, hK, ε, a, w, hi, hs, hd => by
    simp at hc; subst hc
    exact wpList_nil (hK σ m ε a w h hi hs hd)
  | o :: l, ios, σ, m, K, hc, h, hK, ε, a, w, hi, hs, hd => by
    simp only [List.mapM_cons, bind, Option.pure_def] at hc
    obtain ⟨io, ho, hc⟩ := bind_some hc
    obtain ⟨ios', hc', hc⟩ := bind_some hc
    simp only [Option.some.injEq] at hc
    subst hc
    simp only [compOp] at ho
    split at ho <;> try (cases ho; done)
    rename_i g x hg hx
    simp only [Option.some.injEq] at ho; subst ho
    simp only [sops] at h
    have go : ∀ σ1, SlotsOK ε σ1 a → opK Γ σ1 m (fun σ' sv m' => sops Γ ios' K (putS o.dst sv σ') m') x → o.wp P a w (wpList P ops Q l) Q := by
      intro σ1 hs1 h1
      obtain ⟨σ', sv, m', h2, hE⟩ := opK_sound hΓ hx h1
      refine Oper.wp_mono ?_ (hE β ε a w hi hs1 Q)
      rintro a' w' ⟨v, ε', rfl, hv, hs', hi'⟩
      exact sops_sound hΓ l ios' _ _ K hc' h2 hK ε' _ w' hi' (hs'.put hv o.dst) (by rw [put_defers]; exact hd)
    cases g with
    | none =>
      have hgn : o.guard = none := by
        cases hog : o.guard with
        | none => rfl
        | some g => rw [hog] at hg; simp only [compG] at hg; split at hg <;> cases hg
      refine wpList_step fun K' hK' => ?_
      rw [if_pos (by simp [Region.wanted, hgn])]
      exact Oper.wp_mono (fun a w h => hK' a w h) (go σ hs h)
    | some g =>
      obtain ⟨s, want⟩ := g
      simp only [guardK] at h
      split at h
      · rename_i b hb
        have hw := wanted_ok hs hg hb
        refine wpList_step fun K' hK' => ?_
        rw [hw]
        by_cases hbw : b = want
        · subst hbw
          rw [if_pos (by simp)]
          exact Oper.wp_mono (fun a w h => hK' a w h) (go _ (hs.known hb) (h.1 rfl))
        · have hbn : b = !want := by cases b <;> cases want <;> first | rfl | exact absurd rfl hbw
          rw [if_neg (by simpa using hbw)]
          subst hbn
          have hs2 := hs.known hb
          exact hK' _ _ (sops_sound hΓ l ios' _ _ K hc' (h.2 rfl) hK ε _ w hi (SlotsOK.put (sv := .tup []) (v := undef) hs2 sat_undef o.dst) (by rw [put_defers]; exact hd))
      · rename_i hb
        have hw := wanted_undef hs hg hb
        refine wpList_step fun K' hK' => ?_
        rw [hw]
        rw [if_neg (by simp)]
        exact hK' _ _ (sops_sound hΓ l ios' _ _ K hc' h hK ε _ w hi (SlotsOK.put (sv := .tup []) (v := undef) hs sat_undef o.dst) (by rw [put_defers]; exact hd))
      · exact h.elim

end Go.Sx
/-! Sx, part 13b: regions that draw their order: one walk, in the order of the text. -/
set_option linter.unusedSimpArgs false
set_option linter.unusedVariables false
namespace Go.Sx
open Go

variable {P : Program}

def Opd.sl : Opd → List Nat
  | .t n => [n]
  | .c _ => []

def optS : Option Opd → List Nat
  | none => []
  | some x => x.sl

def PIO.sl : PIO → List Nat
  | .mv x | .nt x | .neg x | .conv _ x | .fa _ _ x | .fld _ _ _ _ x | .ext _ x | .len x | .lens x | .nck x | .mkif _ x | .snil _ x | .pnil _ x | .tas _ _ x | .asl _ _ x => x.sl
  | .pick c x y => c.sl ++ x.sl ++ y.sl
  | .ar _ x y | .cmp _ x y | .beq _ x y | .seq _ x y | .cat x y | .ia _ _ x y | .is _ x y | .ix _ _ _ x y | .sx x y | .mx x y | .mn x y | .aeq _ _ x y | .ieq _ _ x y => x.sl ++ y.sl
  | .bld _ ps => ps.flatMap fun p => p.2.2.2.sl
  | .mkfn _ c => c.flatMap Opd.sl
  | .ssl x lo hi => x.sl ++ optS lo ++ optS hi
  | .slc _ x lo hi m3 => x.sl ++ optS lo ++ optS hi ++ optS m3

def EIO.sl : EIO → List Nat
  | .alloc _ _ => []
  | .box _ x | .load _ _ x => x.sl
  | .store _ x v => x.sl ++ v.sl
  | .bsl _ _ _ _ ps => ps.flatMap fun p => p.2.sl
  | .mks _ _ _ _ l c => l.sl ++ c.sl
  | .app _ _ _ s x => s.sl ++ x.sl
  | .call _ ys | .qcall _ ys => ys.flatMap Opd.sl
  | .callv x ys => x.sl ++ ys.flatMap Opd.sl
  | .icall _ x ys => x.sl ++ ys.flatMap Opd.sl
  | .qtab _ => []
  | .qbsl _ _ _ _ ps => ps.flatMap fun p => p.2.sl
  | .again _ _ x d => d :: x.sl
  | .magain _ ys d => d :: ys.flatMap Opd.sl
  | .mop _ ys => ys.flatMap Opd.sl

def IO1.sl : IO1 → List Nat
  | .p x => x.sl
  | .e x => x.sl

def IOp.sl (o : IOp) : List Nat := (match o.guard with | none => [] | some (s, _) => [s]) ++ o.op.sl

def Agree (ss : List Nat) (σ σ' : List SV) : Prop := ∀ k ∈ ss, σ'.getD k .junk = σ.getD k .junk

theorem Agree.ev {ss : List Nat} {σ σ' : List SV} (h : Agree ss σ σ') {x : Opd} (hx : ∀ k ∈ x.sl, k ∈ ss) : x.ev σ' = x.ev σ := by
  cases x with
  | t n => exact h n (hx n (by simp [Opd.sl]))
  | c v => rfl

theorem evs_eq {ss : List Nat} {σ σ' : List SV} (h : Agree ss σ σ') : ∀ (ys : List Opd), (∀ k ∈ ys.flatMap Opd.sl, k ∈ ss) → ys.map (·.ev σ') = ys.map (·.ev σ)
  | [], _ => rfl
  | y :: ys, hk => by
    simp only [List.map_cons]
    rw [h.ev (x := y) (fun k hk' => hk k (by simp [hk'])), evs_eq h ys (fun k hk' => hk k (by simp only [List.flatMap_cons, List.mem_append]; exact .inr hk'))]

theorem bld_eq {ss : List Nat} {σ σ' : List SV} (h : Agree ss σ σ') {K : SV → Prop} : ∀ (ps : List (List Step × Nat × Nat × Opd)) (z : SV), (∀ k ∈ ps.flatMap fun p => p.2.2.2.sl, k ∈ ss) → bldParts σ' z ps K = bldParts σ z ps K
  | [], _, _ => rfl
  | (p, o, n, x) :: r, z, hk => by
    have e := h.ev (x := x) (fun k hk' => hk k (by simp [hk']))
    simp only [bldParts, e]
    rw [bld_eq h r _ (fun k hk' => hk k (by simp only [List.flatMap_cons, List.mem_append]; exact .inr hk'))]

theorem bsl_eq {ss : List Nat} {σ σ' : List SV} (h : Agree ss σ σ') {w : Nat} {K : List SV → Prop} : ∀ (ps : List (Nat × Opd)) (z : List SV), (∀ k ∈ ps.flatMap fun p => p.2.sl, k ∈ ss) → bslParts σ' w z ps K = bslParts σ w z ps K
  | [], _, _ => rfl
  | (k0, x) :: r, z, hk => by
    have e := h.ev (x := x) (fun k hk' => hk k (by simp [hk']))
    simp only [bslParts, e]
    rw [bsl_eq h r _ (fun k hk' => hk k (by simp only [List.flatMap_cons, List.mem_append]; exact .inr hk'))]

theorem bound_eq {ss : List Nat} {σ σ' : List SV} (h : Agree ss σ σ') {d : Nat} {x : Option Opd} {K : Nat → Prop} (hx : ∀ k ∈ optS x, k ∈ ss) : popK.bound σ' d x K = popK.bound σ d x K := by
  cases x with
  | none => rfl
  | some x => simp only [popK.bound, h.ev (x := x) hx]

theorem popK_eq {ss : List Nat} {σ σ' : List SV} (h : Agree ss σ σ') {K : SV → Prop} {p : PIO} (hp : ∀ k ∈ p.sl, k ∈ ss) : popK σ' K p = popK σ K p := by
  cases p with
  | bld z ps => simp only [popK]; exact bld_eq h ps z hp
  | mkfn f c => simp only [popK, evs_eq h c hp]
  | pick c x y =>
    simp only [PIO.sl, List.mem_append] at hp
    simp only [popK, h.ev (x := c) (fun k hk => hp k (.inl (.inl hk))), h.ev (x := x) (fun k hk => hp k (.inl (.inr hk))), h.ev (x := y) (fun k hk => hp k (.inr hk))]
  | ssl x lo hi =>
    simp only [PIO.sl, List.mem_append] at hp
    simp only [popK, h.ev (x := x) (fun k hk => hp k (.inl (.inl hk))), bound_eq h (x := lo) (fun k hk => hp k (.inl (.inr hk))), bound_eq h (x := hi) (fun k hk => hp k (.inr hk))]
  | slc w x lo hi m3 =>
    simp only [PIO.sl, List.mem_append] at hp
    simp only [popK, h.ev (x := x) (fun k hk => hp k (.inl (.inl (.inl hk)))), bound_eq h (x := lo) (fun k hk => hp k (.inl (.inl (.inr hk)))), bound_eq h (x := hi) (fun k hk => hp k (.inl (.inr hk)))]
    cases m3 with
    | none => cases Opd.ev σ x <;> rfl
    | some c =>
      have hc : ∀ (d : Nat) (K : Nat → Prop), popK.bound σ' d (some c) K = popK.bound σ d (some c) K := fun d K => bound_eq h (x := some c) (fun k hk => hp k (.inr hk))
      cases Opd.ev σ x <;> first | rfl | simp only [hc]
  | ar o x y | cmp o x y | beq o x y | seq o x y | cat x y | ia _ _ x y | is _ x y | ix _ _ _ x y | sx x y | mx x y | mn x y | aeq _ _ x y | ieq _ _ x y =>
    simp only [PIO.sl, List.mem_append] at hp
    simp only [popK, h.ev (x := x) (fun k hk => hp k (.inl hk)), h.ev (x := y) (fun k hk => hp k (.inr hk))]
  | mv x | nt x | neg x | conv _ x | fa _ _ x | fld _ _ _ _ x | ext _ x | len x | lens x | nck x | mkif _ x | snil _ x | pnil _ x | tas _ _ x | asl _ _ x =>
    simp only [popK, h.ev (x := x) hp]

def dopK (Γ : Hook) (σ : List SV) (m : List Res) (K : SV → List Res → Prop) : IO1 → Prop
  | .p p => popK σ (fun sv => K sv m) p
  | .e (.app E w by' s x) => appM m E w by' (s.ev σ) (x.ev σ) K
  | .e e => eopK Γ σ m (fun _ sv m' => K sv m') e

theorem eopK_eq {Γ : Hook} {ss : List Nat} {σ σ' : List SV} (h : Agree ss σ σ') {m : List Res} {K : SV → List Res → Prop} {e : EIO} (hp : ∀ k ∈ e.sl, k ∈ ss) (hd : dopK Γ σ m K (.e e)) : dopK Γ σ' m K (.e e) := by
  cases e with
  | alloc T z => exact hd
  | box T x => simp only [dopK, eopK, h.ev (x := x) hp] at hd ⊢; exact hd
  | load n ag x => simp only [dopK, eopK, h.ev (x := x) hp] at hd ⊢; exact hd
  | store n x v =>
    simp only [EIO.sl, List.mem_append] at hp
    simp only [dopK, eopK, h.ev (x := x) (fun k hk => hp k (.inl hk)), h.ev (x := v) (fun k hk => hp k (.inr hk))] at hd ⊢; exact hd
  | bsl E w len z ps => simp only [dopK, eopK] at hd ⊢; rw [bsl_eq h ps _ hp]; exact hd
  | mks E w b z x y =>
    simp only [EIO.sl, List.mem_append] at hp
    simp only [dopK, eopK, h.ev (x := x) (fun k hk => hp k (.inl hk)), h.ev (x := y) (fun k hk => hp k (.inr hk))] at hd ⊢; exact hd
  | app E w b x y =>
    simp only [EIO.sl, List.mem_append] at hp
    simp only [dopK, h.ev (x := x) (fun k hk => hp k (.inl hk)), h.ev (x := y) (fun k hk => hp k (.inr hk))] at hd ⊢
    exact hd
  | call f ys => simp only [dopK, eopK, evs_eq h ys hp] at hd ⊢; exact hd
  | qcall f ys => simp only [dopK, eopK, evs_eq h ys hp] at hd ⊢; exact hd
  | qtab l => exact hd
  | qbsl E w len z ps => simp only [dopK, eopK] at hd ⊢; rw [bsl_eq h ps _ hp]; exact hd
  | mop k ys => simp only [dopK, eopK, evs_eq h ys hp] at hd ⊢; exact hd
  | again n ag x d =>
    have hd' : σ'.getD d .junk = σ.getD d .junk := h d (hp d (by simp [EIO.sl]))
    simp only [dopK, eopK, h.ev (x := x) (fun k hk => hp k (by simp only [EIO.sl, List.mem_cons]; exact .inr hk)), hd'] at hd ⊢; exact hd
  | magain k ys d =>
    have hd' : σ'.getD d .junk = σ.getD d .junk := h d (hp d (by simp [EIO.sl]))
    simp only [dopK, eopK, evs_eq h ys (fun k hk => hp k (by simp only [EIO.sl, List.mem_cons]; exact .inr hk)), hd'] at hd ⊢; exact hd
  | callv x ys =>
    simp only [EIO.sl, List.mem_append] at hp
    simp only [dopK, eopK, h.ev (x := x) (fun k hk => hp k (.inl hk)), evs_eq h ys (fun k hk => hp k (.inr hk))] at hd ⊢; exact hd
  | icall tab x ys =>
    simp only [EIO.sl, List.mem_append] at hp
    simp only [dopK, eopK, h.ev (x := x) (fun k hk => hp k (.inl hk)), evs_eq h ys (fun k hk => hp k (.inr hk))] at hd ⊢; exact hd

theorem dopK_eq {Γ : Hook} {ss : List Nat} {σ σ' : List SV} (h : Agree ss σ σ') {m : List Res} {K : SV → List Res → Prop} {x : IO1} (hp : ∀ k ∈ x.sl, k ∈ ss) (hd : dopK Γ σ m K x) : dopK Γ σ' m K x := by
  cases x with
  | p p => simp only [dopK] at hd ⊢; rw [popK_eq h hp]; exact hd
  | e e => exact eopK_eq h hp hd


def qmode (quiet : FuncId → Bool) : Bool := !quiet 999999999
def quieted (quiet : FuncId → Bool) : IO1 → IO1
  | .e (.call f ys) => if quiet f then .e (.qcall f ys) else .e (.call f ys)
  | .e (.bsl E w len z ys) => match tabOf 0 ys with
    | some l => if w = 1 ∧ len = l.length then .e (.qtab l) else if qmode quiet then .e (.qbsl E w len z ys) else .e (.bsl E w len z ys)
    | none => if qmode quiet then .e (.qbsl E w len z ys) else .e (.bsl E w len z ys)
  | x => x

def IO1.impure : IO1 → Bool
  | .p _ => false
  | .e (.qtab ..) => false
  | .e (.qbsl ..) => false
  | .e _ => true

def IO1.eff : IO1 → Bool
  | .p _ => false
  | .e (.load ..) => false
  | .e (.qcall ..) => false
  | .e (.qtab ..) => false
  | .e (.qbsl ..) => false
  | .e (.again ..) => false
  | .e (.magain ..) => false
  | .e (.mop k _) => k.eff
  | .e _ => true

def StepF (P : Program) (o : Oper) (σ : List SV) (x : IO1) (m : List Res) (sv : SV) (m' : List Res) : Prop :=
  (x.impure = false → ∀ m2, EStepL P o σ m2 sv m2) ∧ EStepL P o σ m sv m' ∧ (x.eff = false → m' = m)

theorem pure_estep {o : Oper} {σ : List SV} {m : List Res} {sv : SV} (h : PureOK P o σ sv) : EStepL P o σ m sv m := by
  intro β ε a w hi hs Q
  obtain ⟨v, hr, hv⟩ := h ε a hs
  unfold Oper.wp
  rw [hr, Oper.upon_value]
  exact ⟨v, ε, rfl, hv, Env.Le.refl ε, hi⟩

theorem dopK_sound {Γ : Hook} (hΓ : HookOK P Γ) {quiet : FuncId → Bool} {o : Oper} {σ : List SV} {m : List Res} {K : SV → List Res → Prop} {x : IO1} (hx : comp1 P o.op = some x) (h : dopK Γ σ m K (quieted quiet x)) :
    ∃ sv m', K sv m' ∧ StepF P o σ (quieted quiet x) m sv m' := by
  unfold comp1 at hx
  split at hx
  · rename_i p hp
    simp only [Option.some.injEq] at hx; subst hx
    obtain ⟨sv, hK, hpure⟩ := popK_sound (K := fun sv => K sv m) hp h
    exact ⟨sv, m, hK, fun _ m2 => pure_estep hpure, pure_estep hpure, fun _ => rfl⟩
  · simp only [Option.map_eq_some_iff] at hx
    obtain ⟨e, he, rfl⟩ := hx
    cases hM : compM P o.op with
    | some p =>
      obtain ⟨k, ys⟩ := p
      rw [compE_M hM] at he
      cases he
      obtain ⟨sv, m', hK, hE, hq⟩ := estep_mop (K := K) hM h.1 h.2
      exact ⟨_, _, hK, (fun hh => by cases hh), hE, hq⟩
    | none =>
    cases ho : o.op <;> rw [ho] at he hM <;> simp only [compE, hM, Option.map_none] at he <;> try (cases he; done)
    case alloc T =>
      simp only [Option.map_eq_some_iff] at he
      obtain ⟨z, hz, rfl⟩ := he
      exact ⟨_, _, h, (fun hh => by cases hh), estep_alloc ho hz, (fun hh => by cases hh)⟩
    case box T x =>
      simp only [Option.map_eq_some_iff] at he
      obtain ⟨x', hx, rfl⟩ := he
      exact ⟨_, _, h.2, (fun hh => by cases hh), estep_box ho hx h.1, (fun hh => by cases hh)⟩
    case buildSlice T len parts =>
      split at he <;> try (cases he; done)
      rename_i E hu
      split at he <;> try (cases he; done)
      rename_i z w ag ys h1 h2 h3
      split at he <;> try (cases he; done)
      rename_i hc
      simp only [Option.some.injEq] at he; subst he
      have plain : (quieted quiet (.e (.bsl E w len z ys)) = .e (.bsl E w len z ys) ∨ quieted quiet (.e (.bsl E w len z ys)) = .e (.qbsl E w len z ys)) → ∃ sv m', K sv m' ∧ StepF P o σ (quieted quiet (.e (.bsl E w len z ys))) m sv m' := by
        intro hq
        rcases hq with hq | hq
        · rw [hq] at h ⊢
          obtain ⟨l, hK, hE⟩ := estep_bsl (m := m) (σ := σ) (K := fun l => K (SV.vec m.length len) (m ++ [Res.vec E w l])) ho hu h1 h2 hc.1 hc.2.1 hc.2.2 h3 h
          exact ⟨_, _, hK, (fun hh => by cases hh), hE, (fun hh => by cases hh)⟩
        · rw [hq] at h ⊢
          obtain ⟨sv, hK, hE⟩ := estep_qbsl (σ := σ) (K := fun sv => K sv m) ho hu h1 h2 hc.1 hc.2.1 hc.2.2 h3 h
          exact ⟨_, _, hK, fun _ => hE, hE m, fun _ => rfl⟩
      have two : ∀ x : IO1, (if qmode quiet then IO1.e (.qbsl E w len z ys) else x) = x ∨ (if qmode quiet then IO1.e (.qbsl E w len z ys) else x) = IO1.e (.qbsl E w len z ys) := fun x => by
        cases qmode quiet <;> simp
      cases htab : tabOf 0 ys with
      | none => exact plain (by simp only [quieted, htab]; exact two _)
      | some l =>
        by_cases hwl : w = 1 ∧ len = l.length
        · have hq : quieted quiet (.e (.bsl E w len z ys)) = .e (.qtab l) := by simp only [quieted, htab, if_pos hwl]
          rw [hq] at h ⊢
          obtain ⟨rfl, hll⟩ := hwl
          exact ⟨_, _, h, fun _ m2 => estep_tab ho hu h1 h2 hc.1 hc.2.1 h3 htab hll, estep_tab ho hu h1 h2 hc.1 hc.2.1 h3 htab hll, fun _ => rfl⟩
        · exact plain (by simp only [quieted, htab, if_neg hwl]; exact two _)
    case load T x =>
      split at he <;> try (cases he; done)
      rename_i x' n ag hx ht
      simp only [Option.some.injEq] at he; subst he
      obtain ⟨sv, hK, hE⟩ := estep_load (K := fun sv => K sv m) ho hx ht h
      exact ⟨_, _, hK, (fun hh => by cases hh), hE, fun _ => rfl⟩
    case store T x v =>
      split at he <;> try (cases he; done)
      rename_i x' v' n ag hx hv ht
      simp only [Option.some.injEq] at he; subst he
      obtain ⟨m', hK, hE⟩ := estep_store (K := fun m' => K .junk m') ho hx hv ht h
      exact ⟨_, _, hK, (fun hh => by cases hh), hE, (fun hh => by cases hh)⟩
    case makeSlice T l c =>
      split at he <;> try (cases he; done)
      rename_i E w by' l' c' ht hl hc
      split at he <;> try (cases he; done)
      rename_i z hz
      simp only [Option.some.injEq] at he; subst he
      simp only [quieted, dopK, eopK] at h
      split at h
      · rename_i k1 a k2 b e1 e2
        exact ⟨_, _, h.2, (fun hh => by cases hh), estep_mks ho ht hz hl hc e1 e2 h.1.1 h.1.2.1 h.1.2.2, (fun hh => by cases hh)⟩
      · exact h.elim
    case call c =>
      cases c with
      | mk callee args tys =>
      simp only [compE.compC] at he
      split at he
      · rename_i ec
        split at he <;> try (cases he; done)
        rename_i s x t t' ea et
        split at he <;> try (cases he; done)
        rename_i htt
        subst htt
        split at he <;> try (cases he; done)
        rename_i E w by' s' x' h1 h2 h3
        simp only [Option.some.injEq] at he; subst he
        obtain rfl : args = #[s, x] := by apply Array.ext'; simpa using ea
        obtain rfl : tys = #[t', t'] := by apply Array.ext'; simpa using et
        simp only [quieted, dopK] at h
        obtain ⟨sv, m', hK, hE⟩ := estep_appM ho h1 h2 h3 h
        exact ⟨_, _, hK, (fun hh => by cases hh), hE, (fun hh => by cases hh)⟩
      · rename_i cc f
        simp only [Option.map_eq_some_iff] at he
        obtain ⟨ys, hy, rfl⟩ := he
        simp only [quieted] at h ⊢
        cases hq : quiet f with
        | false =>
          rw [hq] at h
          obtain ⟨sv, m', hK, hE⟩ := estep_call hΓ ho hy h.1 h.2
          exact ⟨_, _, hK, (fun hh => by cases hh), hE, (fun hh => by cases hh)⟩
        | true =>
          rw [hq] at h
          obtain ⟨sv, m', ⟨rfl, hK⟩, hE⟩ := estep_call (K := fun sv m' => m' = m ∧ K sv m) hΓ ho hy h.1 h.2
          exact ⟨_, _, hK, (fun hh => by cases hh), hE, fun _ => rfl⟩
      · rename_i x hne
        split at he <;> try (cases he; done)
        rename_i x' ys hx hy
        simp only [Option.some.injEq] at he; subst he
        simp only [quieted, dopK, eopK] at h
        split at h
        · rename_i f cap hf
          obtain ⟨sv, m', hK, hE⟩ := estep_callv hΓ ho hx hf hy h.1 h.2
          exact ⟨_, _, hK, (fun hh => by cases hh), hE, (fun hh => by cases hh)⟩
        · exact h.elim
      · rename_i x nm hcal
        split at he <;> try (cases he; done)
        rename_i x' ys hx hy
        simp only [Option.some.injEq] at he; subst he
        simp only [quieted, dopK, eopK] at h
        split at h
        · rename_i t v hf
          split at h
          · rename_i f hta
            obtain ⟨sv, m', hK, hE⟩ := estep_icall hΓ ho hx hf hta hy h.1 h.2
            exact ⟨_, _, hK, (fun hh => by cases hh), hE, (fun hh => by cases hh)⟩
          · exact h.elim
        · exact h.elim
      · cases he

end Go.Sx
/-! Sx, part 13d: any order comes to the same. -/
set_option linter.unusedSimpArgs false
set_option linter.unusedVariables false
namespace Go.Sx
open Go

variable {P : Program}

def dsops (Γ : Hook) : List IOp → (List SV → List Res → Prop) → List SV → List Res → Prop
  | [], K, σ, m => K σ m
  | o :: r, K, σ, m => guardK o.guard σ (fun σ1 => dopK Γ σ1 m (fun sv m' => dsops Γ r K (putS o.dst sv σ1) m') o.op) (fun σ1 => dsops Γ r K (putS o.dst (.tup []) σ1) m)

def maskS (ss : List Nat) (σ : List SV) : List SV := (List.range σ.length).map fun k => if ss.contains k then σ.getD k .junk else .junk

theorem maskS_len (ss : List Nat) (σ : List SV) : (maskS ss σ).length = σ.length := by simp [maskS]
theorem maskS_at (ss : List Nat) (σ : List SV) (k : Nat) : (maskS ss σ).getD k .junk = if k ∈ ss then σ.getD k .junk else .junk := by
  by_cases hk : k < σ.length
  · simp [maskS, List.getD, hk]
  · simp [maskS, List.getD, hk]
theorem maskS_agree (ss : List Nat) (σ : List SV) : Agree ss σ (maskS ss σ) := fun k hk => by rw [maskS_at, if_pos hk]

def Wants (g : Option (Nat × Bool)) (σ : List SV) (b : Bool) : Prop := match g with
  | none => b = true
  | some (s, want) => (∃ t, σ.getD s .junk = .bool t ∧ (t == want) = b) ∨ (σ.getD s .junk = .tup [] ∧ b = false)

def TStep (P : Program) (o : Oper) (io : IOp) (σ : List SV) (m : List Res) (sv : SV) (m' : List Res) : Prop :=
  (Wants io.guard σ true ∧ StepF P o (maskS io.sl σ) io.op m sv m') ∨ (Wants io.guard σ false ∧ sv = .tup [] ∧ m' = m)

def Late (c : IOp) (σ : List SV) (m : List Res) : Prop := (∀ n ag x d, c.op = .e (.again n ag x d) → Wants c.guard σ true → (σ.getD d .junk).isVal = true ∧ peek m n ag (fun sv => sv = σ.getD d .junk) (x.ev σ)) ∧
  ∀ k ys d, c.op = .e (.magain k ys d) → Wants c.guard σ true → (σ.getD d .junk).isSet = true ∧ (ys.map (·.ev σ)).all SV.isVal = true ∧ mopK m k (ys.map (·.ev σ)) fun sv m' => sv = σ.getD d .junk ∧ m' = m
def Tr (P : Program) (rs : Nat → List IOp) : Nat → List (Oper × IOp) → List SV → List Res → List (SV × List Res) → List SV → List Res → Prop
  | _, [], σ, m, ts, σe, me => ts = [] ∧ σe = σ ∧ me = m
  | k, (o, io) :: r, σ, m, ts, σe, me => ∃ sv m' ts', ts = (sv, m') :: ts' ∧ TStep P o io σ m sv m' ∧ (∀ c ∈ rs k, Late c (putS io.dst sv σ) m') ∧ Tr P rs (k + 1) r (putS io.dst sv σ) m' ts' σe me

def compD (P : Program) (quiet : FuncId → Bool) (ops : Array Oper) (o : Oper) : Option IOp := (compOp P ops o).map fun io => { io with op := quieted quiet io.op }

theorem set_self {σ : List SV} {s : Nat} {b : Bool} (h : σ.getD s .junk = .bool b) : σ.set s (.bool b) = σ := by
  apply List.ext_getElem?
  intro k
  rw [List.getElem?_set]
  by_cases hk : s = k
  · subst hk
    rw [if_pos rfl]
    by_cases hs : s < σ.length
    · rw [if_pos hs]
      simp [List.getD, hs] at h
      simp [hs, h]
    · simp [List.getD, hs] at h
  · rw [if_neg hk]

def augL (rs : Nat → List IOp) : Nat → List IOp → List IOp
  | _, [] => []
  | k, o :: r => o :: (rs k ++ augL rs (k + 1) r)
def IsAgain (c : IOp) : Prop := c.dst = none ∧ ((∃ n ag x d, c.op = .e (.again n ag x d)) ∨ ∃ k ys d, c.op = .e (.magain k ys d))
theorem mopK_two {m : List Res} {k : MK} {xs : List SV} {A : SV → List Res → Prop} {B : Prop} (h : mopK m k xs fun sv m' => A sv m' ∧ B) : mopK m k xs A ∧ B := by
  cases k <;> simp only [mopK] at h ⊢ <;> repeat' (first | exact h.elim | exact ⟨h.1, h.2⟩ | exact ⟨⟨h.1, h.2.1⟩, h.2.2⟩ | split at h)
theorem peek_two {m : List Res} {n : Nat} {ag : Bool} {A : SV → Prop} {B : Prop} {v : SV} (h : peek m n ag (fun sv => A sv ∧ B) v) : peek m n ag A v ∧ B := by
  cases v <;> simp only [peek] at h ⊢ <;> first
    | exact h.elim
    | exact ⟨⟨h.1, h.2.1⟩, h.2.2⟩
    | (split at h <;> first | exact h.elim | (rename_i hm; exact ⟨⟨h.1, h.2.1⟩, h.2.2⟩))
theorem late_of {Γ : Hook} : ∀ (cs : List IOp), (∀ c ∈ cs, IsAgain c) → ∀ {rest : List IOp} {K : List SV → List Res → Prop} {σ : List SV} {m : List Res}, dsops Γ (cs ++ rest) K σ m →
    (∀ c ∈ cs, Late c σ m) ∧ dsops Γ rest K σ m
  | [], _, rest, K, σ, m, h => ⟨fun c hc => (by cases hc), h⟩
  | c :: cs, hcs, rest, K, σ, m, h => by
    obtain ⟨hd, ho⟩ := hcs c (List.mem_cons_self ..)
    obtain ⟨dst, g, op⟩ := c
    simp only at hd ho
    subst hd
    have done : dopK Γ σ m (fun sv m' => dsops Γ (cs ++ rest) K σ m') op → (∀ c ∈ (⟨none, g, op⟩ : IOp) :: cs, Late c σ m) ∧ dsops Γ rest K σ m := by
      intro h
      rcases ho with ⟨n, ag, x, d, rfl⟩ | ⟨k, ys, d, rfl⟩
      · obtain ⟨h1, h2⟩ := h
        obtain ⟨h3, h4⟩ := peek_two h2
        obtain ⟨k1, k2⟩ := late_of cs (fun c hc => hcs c (List.mem_cons_of_mem _ hc)) h4
        refine ⟨fun c hc => ?_, k2⟩
        rcases List.mem_cons.1 hc with rfl | hc
        · refine ⟨fun n' ag' x' d' he hw => ?_, fun k ys d he => by cases he⟩
          cases he
          exact ⟨h1, h3⟩
        · exact k1 c hc
      · obtain ⟨h1, h0, h2⟩ := h
        obtain ⟨h3, h4⟩ := mopK_two h2
        obtain ⟨k1, k2⟩ := late_of cs (fun c hc => hcs c (List.mem_cons_of_mem _ hc)) h4
        refine ⟨fun c hc => ?_, k2⟩
        rcases List.mem_cons.1 hc with rfl | hc
        · refine ⟨fun n' ag' x' d' he => (by cases he), fun k ys d he hw => ?_⟩
          cases he
          exact ⟨h1, h0, h3⟩
        · exact k1 c hc
    have skip : Wants g σ false → dsops Γ (cs ++ rest) K σ m → (∀ c ∈ (⟨none, g, op⟩ : IOp) :: cs, Late c σ m) ∧ dsops Γ rest K σ m := by
      intro hw h
      obtain ⟨k1, k2⟩ := late_of cs (fun c hc => hcs c (List.mem_cons_of_mem _ hc)) h
      refine ⟨fun c hc => ?_, k2⟩
      rcases List.mem_cons.1 hc with rfl | hc
      · have no : ¬ Wants g σ true := by
          intro hw'
          cases g with
          | none => cases (show true = false from hw.symm.trans rfl ▸ rfl)
          | some g =>
            obtain ⟨s, w⟩ := g
            rcases hw with ⟨t, e1, e2⟩ | ⟨e1, e2⟩ <;> rcases hw' with ⟨t', e3, e4⟩ | ⟨e3, e4⟩
            · rw [e1] at e3; cases e3; rw [e2] at e4; cases e4
            · cases e4
            · rw [e1] at e3; cases e3
            · cases e4
        exact ⟨fun _ _ _ _ _ hw' => (no hw').elim, fun _ _ _ _ hw' => (no hw').elim⟩
      · exact k1 c hc
    simp only [List.cons_append, dsops, putS] at h
    cases g with
    | none => exact done h
    | some g =>
      obtain ⟨s, want⟩ := g
      simp only [guardK] at h
      split at h
      · rename_i b hb
        by_cases hbw : b = want
        · subst hbw
          have h1 := h.1 rfl
          rw [set_self hb] at h1
          exact done h1
        · have hbn : b = !want := by cases b <;> cases want <;> first | rfl | exact absurd rfl hbw
          subst hbn
          have h1 := h.2 rfl
          rw [set_self hb] at h1
          exact skip (.inl ⟨_, hb, by cases want <;> rfl⟩) h1
      · rename_i hb
        exact skip (.inr ⟨hb, rfl⟩) h
      · exact h.elim
theorem tr_of {Γ : Hook} (hΓ : HookOK P Γ) {quiet : FuncId → Bool} {ops : Array Oper} {rs : Nat → List IOp} (hrs : ∀ k, ∀ c ∈ rs k, IsAgain c) : ∀ (l : List Oper) (ios : List IOp) (σ : List SV) (m : List Res) (K : List SV → List Res → Prop) (k : Nat), l.mapM (compD P quiet ops) = some ios → dsops Γ (augL rs k ios) K σ m →
    ∃ ts σe me, K σe me ∧ Tr P rs k (l.zip ios) σ m ts σe me
  | [], ios, σ, m, K, k, hc, h => by simp at hc; subst hc; exact ⟨[], σ, m, h, rfl, rfl, rfl⟩
  | o :: l, ios, σ, m, K, k, hc, h => by
    simp only [List.mapM_cons, bind, Option.pure_def] at hc
    obtain ⟨io, ho, hc⟩ := bind_some hc
    obtain ⟨ios', hc', hc⟩ := bind_some hc
    simp only [Option.some.injEq] at hc
    subst hc
    simp only [compD, Option.map_eq_some_iff] at ho
    obtain ⟨io0, ho0, rfl⟩ := ho
    simp only [compOp] at ho0
    split at ho0 <;> try (cases ho0; done)
    rename_i g x hg hx
    simp only [Option.some.injEq] at ho0; subst ho0
    simp only [augL, dsops] at h
    have go : dopK Γ σ m (fun sv m' => dsops Γ (rs k ++ augL rs (k + 1) ios') K (putS o.dst sv σ) m') (quieted quiet x) → Wants g σ true →
        ∃ ts σe me, K σe me ∧ Tr P rs k ((o, (⟨o.dst, g, quieted quiet x⟩ : IOp)) :: l.zip ios') σ m ts σe me := by
      intro h1 hw
      have h2 := dopK_eq (maskS_agree (IOp.sl ⟨o.dst, g, quieted quiet x⟩) σ) (fun k hk => by simp only [IOp.sl, List.mem_append]; exact .inr hk) h1
      obtain ⟨sv, m', hK, hF⟩ := dopK_sound hΓ hx h2
      obtain ⟨hl, hK⟩ := late_of _ (hrs k) hK
      obtain ⟨ts, σe, me, h3, h4⟩ := tr_of hΓ hrs l ios' _ _ K (k + 1) hc' hK
      exact ⟨(sv, m') :: ts, σe, me, h3, sv, m', ts, rfl, .inl ⟨hw, hF⟩, hl, h4⟩
    cases g with
    | none => exact go h rfl
    | some g =>
      obtain ⟨s, want⟩ := g
      simp only [guardK] at h
      split at h
      · rename_i b hb
        by_cases hbw : b = want
        · subst hbw
          have h1 := h.1 rfl
          rw [set_self hb] at h1
          exact go h1 (.inl ⟨b, hb, by simp⟩)
        · have hbn : b = !want := by cases b <;> cases want <;> first | rfl | exact absurd rfl hbw
          subst hbn
          have h1 := h.2 rfl
          rw [set_self hb] at h1
          obtain ⟨hl, h1⟩ := late_of _ (hrs k) h1
          obtain ⟨ts, σe, me, h3, h4⟩ := tr_of hΓ hrs l ios' _ _ K (k + 1) hc' h1
          exact ⟨(.tup [], m) :: ts, σe, me, h3, .tup [], m, ts, rfl, .inr ⟨.inl ⟨_, hb, by cases want <;> rfl⟩, rfl, rfl⟩, hl, h4⟩
      · rename_i hb
        obtain ⟨hl, h⟩ := late_of _ (hrs k) h
        obtain ⟨ts, σe, me, h3, h4⟩ := tr_of hΓ hrs l ios' _ _ K (k + 1) hc' h
        exact ⟨(.tup [], m) :: ts, σe, me, h3, .tup [], m, ts, rfl, .inr ⟨.inr ⟨hb, rfl⟩, rfl, rfl⟩, hl, h4⟩
      · exact h.elim

def ov (S : Nat → Bool) (V : Nat → SV) : List IOp → Nat → List SV → List SV
  | [], _, σ => σ
  | io :: r, k, σ => ov S V r (k + 1) (if S k then putS io.dst (V k) σ else σ)

theorem putS_len (d : Option Nat) (sv : SV) (σ : List SV) : (putS d sv σ).length = σ.length := by cases d <;> simp [putS]

theorem ov_len (S : Nat → Bool) (V : Nat → SV) : ∀ (ios : List IOp) (k : Nat) (σ : List SV), (ov S V ios k σ).length = σ.length
  | [], _, _ => rfl
  | io :: r, k, σ => by
    simp only [ov]
    rw [ov_len S V r]
    split
    · exact putS_len _ _ _
    · rfl

def dsts (ios : List IOp) : List Nat := ios.filterMap (·.dst)

theorem putS_at (d : Option Nat) (sv : SV) (σ : List SV) (x : Nat) : (putS d sv σ).getD x .junk = if d = some x ∧ x < σ.length then sv else σ.getD x .junk := by
  cases d with
  | none => simp [putS]
  | some d =>
    by_cases hx : d = x
    · subst hx
      by_cases hl : d < σ.length
      · simp [putS, List.getD, hl]
      · simp [putS, List.getD, hl]
    · simp [putS, List.getD, hx]

theorem ov_none (S : Nat → Bool) (V : Nat → SV) (x : Nat) : ∀ (ios : List IOp) (k : Nat) (σ : List SV), (∀ (j : Nat) (io : IOp), ios[j]? = some io → io.dst = some x → S (k + j) = false) → (ov S V ios k σ).getD x .junk = σ.getD x .junk
  | [], _, _, _ => rfl
  | io :: r, k, σ, h => by
    simp only [ov]
    rw [ov_none S V x r (k + 1) _ (fun j io' h1 h2 => by have := h (j + 1) io' (by simpa using h1) h2; rwa [show k + (j + 1) = k + 1 + j by omega] at this)]
    split
    · rename_i hs
      rw [putS_at, if_neg]
      intro hx
      have := h 0 io rfl hx.1
      rw [Nat.add_zero, hs] at this; cases this
    · rfl

theorem ov_some (S : Nat → Bool) (V : Nat → SV) (x : Nat) : ∀ (ios : List IOp) (k : Nat) (σ : List SV) (j : Nat) (io : IOp), (dsts ios).Nodup → ios[j]? = some io → io.dst = some x → S (k + j) = true → x < σ.length → (ov S V ios k σ).getD x .junk = V (k + j)
  | [], _, _, _, _, _, h, _, _, _ => by simp at h
  | i0 :: r, k, σ, 0, io, hn, h, hd, hs, hx => by
    simp only [List.getElem?_cons_zero, Option.some.injEq] at h
    subst h
    simp only [ov]
    rw [Nat.add_zero] at hs
    rw [if_pos hs, ov_none S V x r (k + 1) _ (fun j io' h1 h2 => ?_)]
    · rw [putS_at, if_pos ⟨hd, hx⟩]; rfl
    · exfalso
      simp only [dsts, List.filterMap_cons, hd] at hn
      have := (List.nodup_cons.1 hn).1
      exact this (List.mem_filterMap.2 ⟨io', List.mem_of_getElem? h1, h2⟩)
  | i0 :: r, k, σ, j + 1, io, hn, h, hd, hs, hx => by
    simp only [ov]
    have hn' : (dsts r).Nodup := by
      unfold dsts at hn ⊢
      rw [List.filterMap_cons] at hn
      split at hn
      · exact hn
      · exact (List.nodup_cons.1 hn).2
    rw [ov_some S V x r (k + 1) _ j io hn' (by simpa using h) hd (by rwa [show k + 1 + j = k + (j + 1) by omega]) (by split <;> first | (rw [putS_len]; exact hx) | exact hx)]
    congr 1; omega


/-! ### What precedes what -/
def msk1 (acc : List Nat) (s : Nat) (e : Edge) : Nat := if Region.binds .any e then s ||| (1 <<< e.on) ||| acc.getD e.on 0 else s
def msk (acc : List Nat) (o : Oper) : Nat := o.after.toList.foldl (msk1 acc) 0
def pres : List Oper → List Nat → List Nat
  | [], acc => acc
  | o :: r, acc => pres r (acc ++ [msk acc o])

theorem msk1_bit (acc : List Nat) : ∀ (es : List Edge) (s j : Nat), (es.foldl (msk1 acc) s).testBit j = true → s.testBit j = true ∨ ∃ e ∈ es, Region.binds .any e = true ∧ (e.on = j ∨ (acc.getD e.on 0).testBit j = true)
  | [], s, j, h => .inl h
  | e :: es, s, j, h => by
    simp only [List.foldl_cons] at h
    rcases msk1_bit acc es _ j h with h | ⟨e', h1, h2⟩
    · unfold msk1 at h
      split at h
      · rename_i hb
        simp only [Nat.testBit_or, Bool.or_eq_true] at h
        rcases h with (h | h) | h
        · exact .inl h
        · refine .inr ⟨e, by simp, hb, .inl ?_⟩
          rw [Nat.one_shiftLeft, Nat.testBit_two_pow] at h
          simpa using h
        · exact .inr ⟨e, by simp, hb, .inr h⟩
      · exact .inl h
    · exact .inr ⟨e', by simp [h1], h2⟩

def Closed (ops : List Oper) (S : Nat → Bool) : Prop := ∀ i o, ops[i]? = some o → S i = true → ∀ e ∈ o.after, Region.binds .any e = true → S e.on = true

theorem pres_ok {ops : List Oper} {S : Nat → Bool} (hS : Closed ops S) : ∀ (r : List Oper) (acc : List Nat), (∀ i, r[i]? = ops[acc.length + i]?) →
    (∀ i o, ops[i]? = some o → i < acc.length → (∀ e ∈ o.after, Region.binds .any e = true → S e.on = true) → ∀ j, (acc.getD i 0).testBit j = true → S j = true) →
    ∀ i o, ops[i]? = some o → i < acc.length + r.length → (∀ e ∈ o.after, Region.binds .any e = true → S e.on = true) → ∀ j, ((pres r acc).getD i 0).testBit j = true → S j = true
  | [], acc, _, hacc, i, o, ho, hi, hd, j, hj => hacc i o ho (by simpa using hi) hd j hj
  | o0 :: r, acc, hr, hacc, i, o, ho, hi, hd, j, hj => by
    refine pres_ok hS r (acc ++ [msk acc o0]) (fun k => by have := hr (k + 1); simpa [Nat.add_assoc, Nat.add_comm 1 k] using this) ?_ i o ho (by simp at hi ⊢; omega) hd j hj
    intro i' o' ho' hi' hd' j' hj'
    by_cases hlt : i' < acc.length
    · have : (acc ++ [msk acc o0]).getD i' 0 = acc.getD i' 0 := by simp [List.getD, List.getElem?_append_left hlt]
      rw [this] at hj'
      exact hacc i' o' ho' hlt hd' j' hj'
    · have he : i' = acc.length := by simp at hi'; omega
      subst he
      have : (acc ++ [msk acc o0]).getD acc.length 0 = msk acc o0 := by simp [List.getD]
      rw [this] at hj'
      have ho0 : o0 = o' := by
        have := hr 0
        simp only [List.getElem?_cons_zero, Nat.add_zero] at this
        rw [ho'] at this
        exact Option.some.inj this
      subst ho0
      rcases msk1_bit acc _ 0 j' hj' with h | ⟨e, h1, h2, h3⟩
      · simp at h
      · have hSe := hd' e (by simpa using h1) h2
        rcases h3 with h3 | h3
        · rw [← h3]; exact hSe
        · -- what precedes 'e.on'
          by_cases hel : e.on < acc.length
          · cases hoe : ops[e.on]? with
            | none =>
              exfalso
              have h4 : ops.length ≤ e.on := by simpa using hoe
              have h5 : acc.length < ops.length := (List.getElem?_eq_some_iff.1 ho').1
              omega
            | some oe => exact hacc e.on oe hoe hel (fun e2 he2 hb2 => hS e.on oe hoe hSe e2 he2 hb2) j' h3
          · have : acc.getD e.on 0 = 0 := by simp [List.getD, List.getElem?_eq_none (Nat.le_of_not_lt hel)]
            rw [this] at h3
            simp at h3

def conf0 (a b : IOp) : Bool :=
  (match a.dst with | some d => b.sl.contains d | none => false) || (match b.dst with | some d => a.sl.contains d | none => false)
def conf (a b : IOp) : Bool := conf0 a b || (a.op.eff && b.op.impure) || (a.op.impure && b.op.eff)
def ldOf (io : IOp) : Option IOp := match io.op, io.dst with
  | .e (.load n ag x), some d => some ⟨none, io.guard, .e (.again n ag x d)⟩
  | .e (.mop (.get ek ev z ok) ys), some d => some ⟨none, io.guard, .e (.magain (.get ek ev z ok) ys d)⟩
  | _, _ => none
def clear (ios : List IOp) (sl : List Nat) (i j : Nat) : Bool := ios.zipIdx.all fun x => !(decide (i ≤ x.2) && decide (x.2 ≤ j)) || (match x.1.dst with
  | some d => !sl.contains d
  | none => true)
def slack (ios : List IOp) (y x : IOp) (i j : Nat) : Bool := (ldOf y).isSome && x.op.eff && !conf0 y x && clear ios y.sl i j
def chk (ops : List Oper) (ios : List IOp) : Bool :=
  let ps := pres ops []
  (ops.zipIdx.all fun x => x.1.after.toList.all fun e => !Region.binds .any e || decide (e.on < x.2)) &&
  decide (dsts ios).Nodup &&
  (ios.zipIdx.all fun x => ios.zipIdx.all fun y => !decide (y.2 < x.2) || !conf y.1 x.1 || (ps.getD x.2 0).testBit y.2 || slack ios y.1 x.1 y.2 x.2)
def rivals (ops : List Oper) (ios : List IOp) (j : Nat) : List IOp :=
  if (ios[j]?.map (·.op.eff)).getD false then ios.zipIdx.filterMap fun x => if decide (x.2 < j) && !((pres ops []).getD j 0).testBit x.2 then ldOf x.1 else none else []
def aug (ops : List Oper) (ios : List IOp) : List IOp := augL (rivals ops ios) 0 ios

theorem ov_congr {S S' : Nat → Bool} {V : Nat → SV} : ∀ (ios : List IOp) (k : Nat) (σ : List SV), (∀ j, j < ios.length → S (k + j) = S' (k + j)) → ov S V ios k σ = ov S' V ios k σ
  | [], _, _, _ => rfl
  | io :: r, k, σ, h => by
    simp only [ov]
    have h0 := h 0 (by simp)
    rw [Nat.add_zero] at h0
    rw [h0]
    exact ov_congr r (k + 1) _ (fun j hj => by have := h (j + 1) (by simp; omega); rwa [show k + (j + 1) = k + 1 + j by omega] at this)

theorem ov_none_all {S : Nat → Bool} {V : Nat → SV} : ∀ (ios : List IOp) (k : Nat) (σ : List SV), (∀ j, j < ios.length → S (k + j) = false) → ov S V ios k σ = σ
  | [], _, _, _ => rfl
  | io :: r, k, σ, h => by
    simp only [ov]
    have h0 := h 0 (by simp)
    rw [Nat.add_zero] at h0
    rw [h0]
    exact ov_none_all r (k + 1) _ (fun j hj => by have := h (j + 1) (by simp; omega); rwa [show k + (j + 1) = k + 1 + j by omega] at this)

theorem tr_at {V : Nat → SV} {M : Nat → List Res} {rs : Nat → List IOp} : ∀ (l : List (Oper × IOp)) (k : Nat) (σ : List SV) (m : List Res) (ts : List (SV × List Res)) (σe : List SV) (me : List Res), Tr P rs k l σ m ts σe me → M k = m →
    (∀ j t, ts[j]? = some t → V (k + j) = t.1 ∧ M (k + j + 1) = t.2) →
    (∀ j o io, l[j]? = some (o, io) → TStep P o io (ov (fun i => decide (i < k + j)) V (l.map (·.2)) k σ) (M (k + j)) (V (k + j)) (M (k + j + 1)) ∧ ∀ c ∈ rs (k + j), Late c (ov (fun i => decide (i < k + j + 1)) V (l.map (·.2)) k σ) (M (k + j + 1))) ∧ σe = ov (fun _ => true) V (l.map (·.2)) k σ ∧ me = M (k + l.length)
  | [], k, σ, m, ts, σe, me, h, hM, hts => by
    obtain ⟨rfl, rfl, rfl⟩ := h
    exact ⟨fun j o io h => by simp at h, rfl, hM.symm⟩
  | (o, io) :: r, k, σ, m, ts, σe, me, h, hM, hts => by
    obtain ⟨sv, m', ts', rfl, hstep, hlate, htr⟩ := h
    obtain ⟨e1, e2⟩ := hts 0 (sv, m') rfl
    rw [Nat.add_zero] at e1 e2
    obtain ⟨i1, i2, i3⟩ := tr_at r (k + 1) (putS io.dst sv σ) m' ts' σe me htr e2 (fun j t ht => by have := hts (j + 1) t (by simpa using ht); rwa [show k + (j + 1) = k + 1 + j by omega] at this)
    refine ⟨fun j o' io' hj => ?_, ?_, by rw [i3]; simp only [List.length_cons]; rw [show k + 1 + r.length = k + (r.length + 1) by omega]⟩
    · cases j with
      | zero =>
        simp only [List.getElem?_cons_zero, Option.some.injEq, Prod.mk.injEq] at hj
        obtain ⟨rfl, rfl⟩ := hj
        refine ⟨?_, ?_⟩
        · rw [Nat.add_zero, ov_none_all _ _ _ (fun j _ => by simp), hM, e1, e2]
          exact hstep
        · rw [Nat.add_zero, e2]
          simp only [List.map_cons, ov]
          rw [if_pos (by simp), e1, ov_none_all _ _ _ (fun j _ => by simp)]
          exact hlate
      | succ j =>
        have := i1 j o' io' (by simpa using hj)
        rw [show k + 1 + j = k + (j + 1) by omega] at this
        simp only [List.map_cons, ov]
        rw [if_pos (by simp), if_pos (decide_eq_true (by omega)), e1]
        exact this
    · rw [i2]; simp only [List.map_cons, ov, if_true, e1]

def top (ios : List IOp) (S : Nat → Bool) : Nat → Nat
  | 0 => 0
  | k + 1 => if (ios[k]?.map (·.op.eff)).getD false && S k then k + 1 else top ios S k

theorem top_congr {ios : List IOp} {S S' : Nat → Bool} : ∀ n, (∀ k, k < n → (ios[k]?.map (·.op.eff)).getD false = true → S k = S' k) → top ios S n = top ios S' n
  | 0, _ => rfl
  | n + 1, h => by
    simp only [top]
    rw [top_congr n (fun k hk he => h k (by omega) he)]
    by_cases he : (ios[n]?.map (·.op.eff)).getD false = true
    · rw [h n (by omega) he]
    · simp only [Bool.not_eq_true] at he; simp [he]

theorem top_cut {ios : List IOp} {S : Nat → Bool} {i : Nat} : ∀ n, i ≤ n → (∀ k, i ≤ k → k < n → (ios[k]?.map (·.op.eff)).getD false = true → S k = false) → top ios S n = top ios S i
  | 0, hi, _ => by have : i = 0 := by omega
                   subst this; rfl
  | n + 1, hi, h => by
    rcases Nat.eq_or_lt_of_le hi with e | hlt
    · rw [e]
    · simp only [top]
      rw [if_neg, top_cut n (by omega) (fun k h1 h2 h3 => h k h1 (by omega) h3)]
      intro hc
      simp only [Bool.and_eq_true] at hc
      have := h n (by omega) (by omega) hc.1
      rw [this] at hc; cases hc.2

end Go.Sx
/-! Sx, part 13e: regions that draw their order. -/
set_option linter.unusedSimpArgs false
set_option linter.unusedVariables false
namespace Go.Sx
open Go

variable {P : Program}

theorem SlotsOK.same {ε : Env} {σ σ' : List SV} {a : Act} (h : SlotsOK ε σ a) (hl : σ'.length = σ.length) (hg : ∀ k, σ'.getD k .junk = σ.getD k .junk) : SlotsOK ε σ' a :=
  ⟨by rw [hl]; exact h.1, fun k => by rw [hg k]; exact h.2 k⟩

theorem ov_at_congr {S S' : Nat → Bool} {V : Nat → SV} {ios : List IOp} {σ : List SV} {x : Nat} (hn : (dsts ios).Nodup) (h : ∀ (j : Nat) (io : IOp), ios[j]? = some io → io.dst = some x → S j = S' j) :
    (ov S V ios 0 σ).getD x .junk = (ov S' V ios 0 σ).getD x .junk := by
  by_cases hx : x < σ.length
  · by_cases he : ∃ (j : Nat) (io : IOp), ios[j]? = some io ∧ io.dst = some x
    · obtain ⟨j, io, h1, h2⟩ := he
      have uniq : ∀ (j' : Nat) (io' : IOp), ios[j']? = some io' → io'.dst = some x → S j' = S' j' := h
      cases hs : S j with
      | true =>
        have hs' : S' j = true := by rw [← h j io h1 h2]; exact hs
        rw [ov_some S V x ios 0 σ j io hn h1 h2 (by simpa using hs) hx, ov_some S' V x ios 0 σ j io hn h1 h2 (by simpa using hs') hx]
      | false =>
        have hone : ∀ (j' : Nat) (io' : IOp), ios[j']? = some io' → io'.dst = some x → j' = j := dst_uniq hn h1 h2
        have hs' : S' j = false := by rw [← h j io h1 h2]; exact hs
        rw [ov_none S V x ios 0 σ (fun j' io' a b => by rw [Nat.zero_add, hone j' io' a b]; exact hs), ov_none S' V x ios 0 σ (fun j' io' a b => by rw [Nat.zero_add, hone j' io' a b]; exact hs')]
    · rw [ov_none S V x ios 0 σ (fun j' io' a b => absurd ⟨j', io', a, b⟩ he), ov_none S' V x ios 0 σ (fun j' io' a b => absurd ⟨j', io', a, b⟩ he)]
  · have e1 : (ov S V ios 0 σ).getD x .junk = .junk := by simp [List.getD, ov_len, hx]
    have e2 : (ov S' V ios 0 σ).getD x .junk = .junk := by simp [List.getD, ov_len, hx]
    rw [e1, e2]
where
  dst_uniq {x : Nat} : ∀ {ios : List IOp} {j : Nat} {io : IOp}, (dsts ios).Nodup → ios[j]? = some io → io.dst = some x → ∀ (j' : Nat) (io' : IOp), ios[j']? = some io' → io'.dst = some x → j' = j
    | [], _, _, _, h, _, _, _, _, _ => by simp at h
    | i0 :: r, j, io, hn, h, hd, j', io', h', hd' => by
      have hn' : (dsts r).Nodup := by
        unfold dsts at hn ⊢
        rw [List.filterMap_cons] at hn
        split at hn
        · exact hn
        · exact (List.nodup_cons.1 hn).2
      have h0 : i0.dst = some x → ∀ (k : Nat) (io2 : IOp), r[k]? = some io2 → io2.dst = some x → False := by
        intro e k io2 h1 h2
        simp only [dsts, List.filterMap_cons, e] at hn
        exact (List.nodup_cons.1 hn).1 (List.mem_filterMap.2 ⟨io2, List.mem_of_getElem? h1, h2⟩)
      cases j with
      | zero =>
        simp only [List.getElem?_cons_zero, Option.some.injEq] at h; subst h
        cases j' with
        | zero => rfl
        | succ j' => exact (h0 hd j' io' (by simpa using h') hd').elim
      | succ j =>
        cases j' with
        | zero =>
          simp only [List.getElem?_cons_zero, Option.some.injEq] at h'; subst h'
          exact (h0 hd' j io (by simpa using h) hd).elim
        | succ j' =>
          have := dst_uniq hn' (by simpa using h) hd j' io' (by simpa using h') hd'
          omega

theorem mapM_at.{u1, u2} {α : Type u1} {β : Type u2} {f : α → Option β} : ∀ {l : List α} {l' : List β}, l.mapM f = some l' → ∀ i : Nat, (l[i]?).bind f = l'[i]? ∧ (l[i]?.isSome = l'[i]?.isSome)
  | [], l', h, i => by simp at h; subst h; simp
  | x :: l, l', h, i => by
    simp only [List.mapM_cons, bind, Option.pure_def] at h
    obtain ⟨y, hy, h⟩ := bind_some h
    obtain ⟨r, hr, h⟩ := bind_some h
    simp only [Option.some.injEq] at h; subst h
    cases i with
    | zero => simp [hy]
    | succ i => simpa using mapM_at hr i

theorem mapM_len.{u1, u2} {α : Type u1} {β : Type u2} {f : α → Option β} : ∀ {l : List α} {l' : List β}, l.mapM f = some l' → l'.length = l.length
  | [], l', h => by simp at h; subst h; simp
  | x :: l, l', h => by
    simp only [List.mapM_cons, bind, Option.pure_def] at h
    obtain ⟨y, hy, h⟩ := bind_some h
    obtain ⟨r, hr, h⟩ := bind_some h
    simp only [Option.some.injEq] at h; subst h
    simp [mapM_len hr]

theorem chk_ok {ops : List Oper} {ios : List IOp} (h : chk ops ios = true) :
    (∀ (i : Nat) (o : Oper), ops[i]? = some o → ∀ e ∈ o.after, Region.binds .any e = true → e.on < i) ∧ (dsts ios).Nodup ∧
    (∀ (i j : Nat) (x y : IOp), ios[i]? = some x → ios[j]? = some y → j < i → conf y x = true → ((pres ops []).getD i 0).testBit j = true ∨ slack ios y x j i = true) := by
  simp only [chk, Bool.and_eq_true, List.all_eq_true, decide_eq_true_eq, Bool.or_eq_true, Bool.not_eq_true', decide_eq_false_iff_not] at h
  obtain ⟨⟨h1, h2⟩, h3⟩ := h
  refine ⟨fun i o ho e he hb => ?_, h2, fun i j x y hx hy hlt hc => ?_⟩
  · have hm : (o, i) ∈ ops.zipIdx := by rw [List.mem_zipIdx_iff_getElem?]; exact ho
    rcases h1 (o, i) hm e (by simpa using he) with h | h
    · rw [hb] at h; cases h
    · exact h
  · have hm : (x, i) ∈ ios.zipIdx := by rw [List.mem_zipIdx_iff_getElem?]; exact hx
    have hm2 : (y, j) ∈ ios.zipIdx := by rw [List.mem_zipIdx_iff_getElem?]; exact hy
    rcases h3 (x, i) hm (y, j) hm2 with ((h | h) | h) | h
    · exact absurd hlt h
    · rw [hc] at h; cases h
    · exact .inl h
    · exact .inr h

structure Plan (P : Program) (quiet : FuncId → Bool) (ops : Array Oper) (ios : List IOp) (σ : List SV) (V : Nat → SV) (M : Nat → List Res) : Prop where
  len : ios.length = ops.size
  cmp : ∀ (i : Nat) (o : Oper) (io : IOp), ops[i]? = some o → ios[i]? = some io → io.dst = o.dst ∧ compG ops o.guard = some io.guard ∧ ∃ x0, comp1 P o.op = some x0 ∧ io.op = quieted quiet x0
  step : ∀ (i : Nat) (o : Oper) (io : IOp), ops[i]? = some o → ios[i]? = some io → TStep P o io (ov (fun j => decide (j < i)) V ios 0 σ) (M i) (V i) (M (i + 1))
  chk : chk ops.toList ios = true
  late : ∀ j, j < ios.length → ∀ c ∈ rivals ops.toList ios j, Late c (ov (fun k => decide (k < j + 1)) V ios 0 σ) (M (j + 1))

variable {quiet : FuncId → Bool} {ops : Array Oper} {ios : List IOp} {σ : List SV} {V : Nat → SV} {M : Nat → List Res}

theorem Plan.top_M (pl : Plan P quiet ops ios σ V M) : ∀ i, i ≤ ios.length → M i = M (top ios (fun _ => true) i)
  | 0, _ => rfl
  | i + 1, h => by
    simp only [top]
    split
    · rfl
    · rename_i he
      have hi : i < ios.length := h
      have h1 : ios[i]? = some ios[i] := by simp [hi]
      have h2 : ops[i]? = some (ops[i]'(by rw [← pl.len]; exact hi)) := by simp
      rw [h1] at he
      have heff : ios[i].op.eff = false := by simpa using he
      have : M (i + 1) = M i := by
        rcases pl.step i _ _ h2 h1 with ⟨_, _, _, h5⟩ | ⟨_, _, h5⟩
        · exact h5 heff
        · exact h5
      rw [this, pl.top_M i (Nat.le_of_succ_le h)]

theorem ready_lt {listed : Array Bool} {i : Nat} (h : i ∈ Region.ready .any ops listed) : i < ops.size := by
  obtain ⟨_, o, ho, _⟩ := mem_ready.1 h
  exact (Array.getElem?_eq_some_iff.1 ho).1

theorem conf0_symm (a b : IOp) : conf0 a b = conf0 b a := by
  unfold conf0
  rw [Bool.or_comm]
theorem conf_symm (a b : IOp) : conf a b = conf b a := by
  have tb : ∀ p q r : Bool, (p || q || r) = (p || r || q) := by decide
  unfold conf
  rw [conf0_symm, tb, Bool.and_comm a.op.impure, Bool.and_comm a.op.eff]
theorem Plan.before (pl : Plan P quiet ops ios σ V M) {S : Nat → Bool} (hS : Closed ops.toList S) {i j : Nat} (hj : j < ops.size) (hs : S j = true) (hb : ((pres ops.toList []).getD j 0).testBit i = true) : S i = true := by
  have hoj : ops.toList[j]? = some ops[j] := by simp [hj]
  exact pres_ok hS ops.toList [] (fun k => by simp) (fun k o' _ hk => absurd hk (Nat.not_lt_zero _)) j _ hoj (by simpa using hj) (fun e he hb => hS j _ hoj hs e he hb) i hb
theorem Plan.agree (pl : Plan P quiet ops ios σ V M) {S : Nat → Bool} (hS : Closed ops.toList S) {i : Nat} {o : Oper} {io : IOp} (ho : ops[i]? = some o) (hio : ios[i]? = some io)
    (hi : S i = false) (hr : ∀ e ∈ o.after, Region.binds .any e = true → S e.on = true) :
    (∀ (j : Nat) (y : IOp), ios[j]? = some y → conf y io = true → j ≠ i → (j < i → slack ios y io j i = false) → (i < j → slack ios io y i j = false) → S j = decide (j < i)) := by
  obtain ⟨c1, c2, c3⟩ := chk_ok pl.chk
  have hob : ∀ (k : Nat) (o : Oper), ops.toList[k]? = some o → k < ([] : List Nat).length + ops.toList.length := fun k o h => by
    have := (List.getElem?_eq_some_iff.1 h).1; simpa using this
  intro j y hy hc1 hji hsl1 hsl2
  have ho' : ops.toList[i]? = some o := by simpa using ho
  rcases Nat.lt_or_ge j i with hlt | hge
  · rw [decide_eq_true hlt]
    rcases c3 i j io y hio hy hlt hc1 with hb | hb
    · exact pres_ok hS ops.toList [] (fun k => by simp) (fun k o' _ hk => absurd hk (Nat.not_lt_zero _)) i o ho' (hob i o ho') hr j hb
    · rw [hsl1 hlt] at hb; cases hb
  · have hgt : i < j := by omega
    rw [decide_eq_false (by omega)]
    have hc2 : conf io y = true := by rw [conf_symm]; exact hc1
    rcases c3 j i y io hy hio hgt hc2 with hb | hb
    · cases hs : S j with
      | false => rfl
      | true =>
        exfalso
        have hj : j < ops.size := by rw [← pl.len]; exact (List.getElem?_eq_some_iff.1 hy).1
        have := pl.before hS hj hs hb
        rw [hi] at this; cases this
    · rw [hsl2 hgt] at hb; cases hb

theorem conf0_dst {y io : IOp} {x : Nat} (hy : y.dst = some x) (hx : x ∈ io.sl) : conf0 y io = true := by
  simp [conf0, hy, hx]
theorem slack_conf0 {y x : IOp} {i j : Nat} (h : conf0 y x = true) : slack ios y x i j = false := by simp [slack, h]
theorem slack_eff {y x : IOp} {i j : Nat} (h : y.op.eff = true) : slack ios y x i j = false := by
  have : ldOf y = none := by
    unfold ldOf
    split
    · rename_i e _; rw [e] at h; cases h
    · rename_i e _; rw [e] at h; cases h
    · rfl
  simp [slack, this]
theorem slack_ld {y x : IOp} {i j : Nat} (h : ldOf y = none) : slack ios y x i j = false := by simp [slack, h]
theorem top_spec {ios : List IOp} {S : Nat → Bool} : ∀ n, top ios S n = 0 ∨ ∃ k, k < n ∧ top ios S n = k + 1 ∧ (ios[k]?.map (·.op.eff)).getD false = true ∧ S k = true
  | 0 => .inl rfl
  | n + 1 => by
    simp only [top]
    split
    · rename_i h
      simp only [Bool.and_eq_true] at h
      exact .inr ⟨n, Nat.lt_succ_self _, rfl, h.1, h.2⟩
    · rcases top_spec (ios := ios) (S := S) n with h | ⟨k, h1, h2⟩
      · exact .inl h
      · exact .inr ⟨k, Nat.lt_succ_of_lt h1, h2⟩
theorem top_ge {ios : List IOp} {S : Nat → Bool} {k : Nat} (he : (ios[k]?.map (·.op.eff)).getD false = true) (hs : S k = true) : ∀ n, k < n → k + 1 ≤ top ios S n
  | 0, h => by omega
  | n + 1, h => by
    simp only [top]
    split
    · omega
    · rename_i hc
      by_cases e : k = n
      · subst e; rw [he, hs] at hc; exact absurd rfl hc
      · exact top_ge he hs n (by omega)
theorem peek_and {m : List Res} {n : Nat} {ag : Bool} {a : SV} {B : Prop} (hB : B) {v : SV} (h : peek m n ag (fun sv => sv = a) v) : peek m n ag (fun sv => sv = a ∧ B) v := by
  cases v <;> simp only [peek] at h ⊢ <;> first
    | exact h.elim
    | exact ⟨h.1, h.2, hB⟩
    | (split at h <;> first | exact h.elim | exact ⟨h.1, h.2, hB⟩)
theorem clear_ok {ios : List IOp} {sl : List Nat} {i j : Nat} (hij : i ≤ j) (h : clear ios sl i j = true) {k : Nat} {y : IOp} {x : Nat} (hy : ios[k]? = some y) (hd : y.dst = some x) (hx : x ∈ sl) : decide (k < i) = decide (k < j + 1) := by
  simp only [clear, List.all_eq_true] at h
  have := h (y, k) (by rw [List.mem_zipIdx_iff_getElem?]; exact hy)
  simp only [hd, Bool.or_eq_true, Bool.not_eq_true', Bool.and_eq_false_iff, decide_eq_false_iff_not] at this
  rcases this with h | h
  · rw [decide_eq_decide]; omega
  · rw [List.contains_eq_mem, decide_eq_false_iff_not] at h
    exact absurd hx h

def upd (S : Nat → Bool) (i : Nat) : Nat → Bool := fun j => S j || decide (j = i)

theorem Closed.upd {L : List Oper} {S : Nat → Bool} (hS : Closed L S) {i : Nat} {o : Oper} (ho : L[i]? = some o) (hr : ∀ e ∈ o.after, Region.binds .any e = true → S e.on = true) : Closed L (upd S i) := by
  intro j o' ho' hj e he hb
  simp only [Sx.upd, Bool.or_eq_true, decide_eq_true_eq] at hj ⊢
  rcases hj with hj | rfl
  · exact .inl (hS j o' ho' hj e he hb)
  · rw [ho] at ho'; cases ho'
    exact .inl (hr e he hb)

theorem SlotsOK.mask {ε : Env} {σ σ1 : List SV} {a : Act} {ss : List Nat} (h : SlotsOK ε σ a) (hl : σ1.length = σ.length) (hg : ∀ k ∈ ss, σ.getD k .junk = σ1.getD k .junk) : SlotsOK ε (maskS ss σ1) a := by
  refine ⟨by rw [maskS_len, hl]; exact h.1, fun k => ?_⟩
  rw [maskS_at]
  split
  · rename_i hk
    rw [← hg k hk]; exact h.2 k
  · trivial

theorem Plan.step_ok {Γ : Hook} (hΓ : HookOK P Γ) (pl : Plan P quiet ops ios σ V M) {S : Nat → Bool} (hS : Closed ops.toList S) {i : Nat} {o : Oper} (ho : ops[i]? = some o) (hi : S i = false)
    (hr : ∀ e ∈ o.after, Region.binds .any e = true → S e.on = true) {β : Base} {ε : Env} {a : Act} {w : World} {Q : Exit → Act → World → Prop}
    (hI : Inv β ε (M (top ios S ios.length)) w) (hs : SlotsOK ε (ov S V ios 0 σ) a) :
    wpOp P ops Q i (fun a' w' => ∃ ε', Inv β ε' (M (top ios (upd S i) ios.length)) w' ∧ SlotsOK ε' (ov (upd S i) V ios 0 σ) a' ∧ ∃ v, a' = a.put o.dst v) a w := by
  have hlt : i < ios.length := by rw [pl.len]; exact (Array.getElem?_eq_some_iff.1 ho).1
  have hio : ios[i]? = some ios[i] := by simp [hlt]
  generalize ios[i] = io at hio
  obtain ⟨c1, c2, c3⟩ := chk_ok pl.chk
  have hag := pl.agree hS ho hio hi hr
  obtain ⟨hd, hg, hx0⟩ := pl.cmp i o io ho hio
  -- operands
  have hops : ∀ x ∈ io.sl, (ov S V ios 0 σ).getD x .junk = (ov (fun j => decide (j < i)) V ios 0 σ).getD x .junk := by
    intro x hx
    refine ov_at_congr c2 fun j y hy hdy => ?_
    by_cases hji : j = i
    · subst hji; rw [hi]; simp
    · have h0 := conf0_dst hdy hx
      exact hag j y hy (by simp [conf, h0]) hji (fun _ => slack_conf0 h0) (fun _ => slack_conf0 (by rw [conf0_symm]; exact h0))
  -- memory
  have hlow : io.op.impure = true → top ios S i = top ios (fun _ => true) i := by
    intro him
    refine top_congr _ fun k hk he => ?_
    have hk' : ios[k]? = some (ios[k]'(by omega)) := by simp [show k < ios.length by omega]
    rw [hk'] at he
    have he : (ios[k]'(by omega)).op.eff = true := by simpa using he
    rw [hag k _ hk' (by simp [conf, he, him]) (by omega) (fun _ => slack_eff he) (fun h => by omega), decide_eq_true hk]
  have hmem : io.op.impure = true → (∀ k, i ≤ k → k < ios.length → (ios[k]?.map (·.op.eff)).getD false = true → S k = false) → M (top ios S ios.length) = M i := by
    intro him hno
    rw [pl.top_M i (Nat.le_of_lt hlt), top_cut _ (Nat.le_of_lt hlt) hno, hlow him]
  have hnone : io.op.impure = true → ldOf io = none → ∀ k, i ≤ k → k < ios.length → (ios[k]?.map (·.op.eff)).getD false = true → S k = false := by
    intro him hld k hk1 hk2 he
    have hk : ios[k]? = some ios[k] := by simp [hk2]
    rw [hk] at he
    have he : ios[k].op.eff = true := by simpa using he
    by_cases hki : k = i
    · subst hki; exact hi
    · rw [hag k _ hk (by simp [conf, he, him]) hki (fun h => by omega) (fun _ => slack_ld hld), decide_eq_false (by omega)]
  have hupd : ∀ j, j ≠ i → S j = upd S i j := fun j h => by simp [Sx.upd, h]
  have hupi : upd S i i = true := by simp [Sx.upd]
  have htopn : io.op.eff = false → top ios (upd S i) ios.length = top ios S ios.length := by
    intro he
    refine top_congr _ fun k hk hek => ?_
    by_cases hki : k = i
    · subst hki; rw [hio] at hek; simp [he] at hek
    · exact (hupd k hki).symm
  have htope : io.op.eff = true → top ios (upd S i) ios.length = i + 1 := by
    intro he
    have him : io.op.impure = true := by
      cases hx : io.op with
      | p x => rw [hx] at he; cases he
      | e x => rw [hx] at he; cases x <;> first | rfl | cases he
    have e1 : top ios (upd S i) ios.length = top ios (upd S i) (i + 1) := by
      refine top_cut _ hlt fun k hk1 hk2 hek => ?_
      have hk : ios[k]? = some ios[k] := by simp [hk2]
      rw [hk] at hek
      have hek : ios[k].op.eff = true := by simpa using hek
      rw [← hupd k (by omega), hag k _ hk (by simp [conf, hek, him]) (by omega) (fun h => by omega) (fun _ => slack_eff he), decide_eq_false (by omega)]
    rw [e1]
    simp only [top]
    rw [hio, hupi]
    simp [he]
  -- what is known afterwards
  have hput : ∀ {ε' : Env} {v : Value}, SlotsOK ε' (ov S V ios 0 σ) a → SatV ε' (V i) v → SlotsOK ε' (ov (upd S i) V ios 0 σ) (a.put o.dst v) := by
    intro ε' v h1 h2
    refine SlotsOK.same (h1.put h2 o.dst) (by rw [putS_len, ov_len, ov_len]) fun k => ?_
    rw [putS_at]
    by_cases hk : o.dst = some k
    · by_cases hkl : k < (ov S V ios 0 σ).length
      · rw [if_pos ⟨hk, hkl⟩]
        have := ov_some (upd S i) V k ios 0 σ i io c2 hio (by rw [hd]; exact hk) (by rw [Nat.zero_add]; exact hupi) (by rw [ov_len] at hkl; exact hkl)
        rwa [Nat.zero_add] at this
      · rw [if_neg (fun h => hkl h.2)]
        rw [ov_len] at hkl
        simp [List.getD, ov_len, hkl]
    · rw [if_neg (fun h => hk h.1)]
      refine ov_at_congr c2 fun j y hy hdy => ?_
      have : j ≠ i := by
        intro e; subst e
        rw [hio] at hy; cases hy
        rw [hd] at hdy; exact hk hdy
      exact (hupd j this).symm
  have hsm : SlotsOK ε (maskS io.sl (ov (fun j => decide (j < i)) V ios 0 σ)) a := hs.mask (by rw [ov_len, ov_len]) hops
  -- is it wanted?
  have hwant : ∀ b, Wants io.guard (ov (fun j => decide (j < i)) V ios 0 σ) b → Region.wanted o (yielded ops a.tmps) = b := by
    intro b hb
    cases hgi : io.guard with
    | none =>
      rw [hgi] at hb hg
      have hgn : o.guard = none := by
        cases hog : o.guard with
        | none => rfl
        | some g => rw [hog] at hg; simp only [compG] at hg; split at hg <;> cases hg
      rw [show b = true from hb]
      simp [Region.wanted, hgn]
    | some g =>
      obtain ⟨s, want⟩ := g
      rw [hgi] at hb hg
      have hsl : s ∈ io.sl := by simp [IOp.sl, hgi]
      rcases hb with ⟨t, e1, e2⟩ | ⟨e1, rfl⟩
      · rw [← hops s hsl] at e1
        rw [wanted_ok hs hg e1]; exact e2
      · rw [← hops s hsl] at e1
        exact wanted_undef hs hg e1
  unfold wpOp
  rw [ho]
  simp only
  rcases pl.step i o io ho hio with ⟨hw, h1, h2, h3⟩ | ⟨hw, h1, h2⟩
  · rw [if_pos (hwant _ hw)]
    refine .inl ?_
    cases him : io.op.impure with
    | false =>
      have heff : io.op.eff = false := by
        cases hx : io.op with
        | p x => rfl
        | e x => rw [hx] at him; cases x <;> first | rfl | cases him
      refine Oper.wp_mono ?_ (h1 him _ β ε a w hI hsm Q)
      rintro a' w' ⟨v, ε', rfl, hv, hle, hI'⟩
      exact ⟨ε', by rw [htopn heff]; exact hI', hput (hs.mono hle) hv, v, rfl⟩
    | true =>
      have hstep : ∃ m', EStepL P o (maskS io.sl (ov (fun j => decide (j < i)) V ios 0 σ)) (M (top ios S ios.length)) (V i) m' ∧ (io.op.eff = true → m' = M (i + 1)) ∧ (io.op.eff = false → m' = M (top ios S ios.length)) := by
        by_cases hno : ∀ k, i ≤ k → k < ios.length → (ios[k]?.map (·.op.eff)).getD false = true → S k = false
        · rw [hmem him hno]
          exact ⟨_, h2, fun _ => rfl, fun he => h3 he⟩
        · have hld : ldOf io ≠ none := fun e => hno (hnone him e)
          obtain ⟨d, op', hdst, hldc, hcase⟩ : ∃ d op', io.dst = some d ∧ ldOf io = some ⟨none, io.guard, op'⟩ ∧ ((∃ n ag x, io.op = .e (.load n ag x) ∧ op' = .e (.again n ag x d)) ∨ ∃ k ys, io.op = .e (.mop k ys) ∧ k.eff = false ∧ op' = .e (.magain k ys d)) := by
            unfold ldOf at hld ⊢
            split at hld
            · rename_i n ag x d e1 e2; exact ⟨d, _, e2, rfl, .inl ⟨n, ag, x, e1, rfl⟩⟩
            · rename_i ek ev z ok ys d e1 e2; exact ⟨d, _, e2, rfl, .inr ⟨_, ys, e1, rfl, rfl⟩⟩
            · exact absurd rfl hld
          have heff : io.op.eff = false := by
            rcases hcase with ⟨_, _, _, h, _⟩ | ⟨k, _, h, he, _⟩
            · rw [h]; rfl
            · rw [h]; exact he
          simp only [Classical.not_forall] at hno
          obtain ⟨k0, hk0, hk0l, hk0e, hk0s⟩ := hno
          simp only [Bool.not_eq_false] at hk0s
          have hge := top_ge (S := S) hk0e hk0s ios.length hk0l
          rcases top_spec (ios := ios) (S := S) ios.length with ht | ⟨k, hkl, ht, hke, hks⟩
          · omega
          have hik : i < k := by
            have : i ≠ k := fun e => by subst e; rw [hi] at hks; cases hks
            omega
          have hk : ios[k]? = some ios[k] := by simp [hkl]
          have hke' : ios[k].op.eff = true := by rw [hk] at hke; simpa using hke
          have hnb : ((pres ops.toList []).getD k 0).testBit i = false := by
            cases hb : ((pres ops.toList []).getD k 0).testBit i with
            | false => rfl
            | true =>
              have := pl.before hS (by rw [← pl.len]; exact hkl) hks hb
              rw [hi] at this; cases this
          have hriv : (⟨none, io.guard, op'⟩ : IOp) ∈ rivals ops.toList ios k := by
            unfold rivals
            rw [if_pos hke]
            refine List.mem_filterMap.2 ⟨(io, i), by rw [List.mem_zipIdx_iff_getElem?]; exact hio, ?_⟩
            simp only [hik, decide_true, hnb, Bool.not_false, Bool.and_self, if_true]
            exact hldc
          have hclear : clear ios io.sl i k = true := by
            have hcf : conf io ios[k] = true := by simp [conf, hke', him]
            rcases c3 k i ios[k] io hk hio hik hcf with h | h
            · rw [hnb] at h; cases h
            · simp only [slack, Bool.and_eq_true] at h; exact h.2
          have hagr : ∀ s ∈ io.sl, (ov (fun j => decide (j < k + 1)) V ios 0 σ).getD s .junk = (ov (fun j => decide (j < i)) V ios 0 σ).getD s .junk := by
            intro s hs'
            exact (ov_at_congr c2 fun j y hy hdy => clear_ok (Nat.le_of_lt hik) hclear hy hdy hs').symm
          have hwk : Wants io.guard (ov (fun j => decide (j < k + 1)) V ios 0 σ) true := by
            cases hgi : io.guard with
            | none => rfl
            | some g =>
              obtain ⟨s, want⟩ := g
              rw [hgi] at hw
              have hsl : s ∈ io.sl := by simp [IOp.sl, hgi]
              rcases hw with ⟨t, e1, e2⟩ | ⟨e1, e2⟩
              · exact .inl ⟨t, by rw [hagr s hsl]; exact e1, e2⟩
              · exact .inr ⟨by rw [hagr s hsl]; exact e1, e2⟩
          obtain ⟨x0, hx1, hx2⟩ := hx0
          have hvi : (ov (fun j => decide (j < k + 1)) V ios 0 σ).getD d .junk ≠ .junk → (ov (fun j => decide (j < k + 1)) V ios 0 σ).getD d .junk = V i := by
            intro l1
            have hdl : d < σ.length := by
              refine Nat.lt_of_not_le fun hle => ?_
              have : (ov (fun j => decide (j < k + 1)) V ios 0 σ).getD d .junk = .junk := by simp [List.getD, ov_len, hle]
              exact l1 this
            have := ov_some (fun j => decide (j < k + 1)) V d ios 0 σ i io c2 hio hdst (by simp; omega) hdl
            rwa [Nat.zero_add] at this
          have hxe : ∀ x : Opd, (∀ s ∈ x.sl, s ∈ io.sl) → x.ev (maskS io.sl (ov (fun j => decide (j < i)) V ios 0 σ)) = x.ev (ov (fun j => decide (j < k + 1)) V ios 0 σ) := by
            intro x hsub
            cases x with
            | t q =>
              have hq : q ∈ io.sl := hsub q (by simp [Opd.sl])
              simp only [Opd.ev, maskS_at, if_pos hq]
              exact (hagr q hq).symm
            | c v => rfl
          have hdk : dopK Γ (maskS io.sl (ov (fun j => decide (j < i)) V ios 0 σ)) (M (k + 1)) (fun sv m' => sv = V i ∧ m' = M (k + 1)) (quieted quiet x0) := by
            rcases hcase with ⟨n, ag, x, hop, rfl⟩ | ⟨kk, ys, hop, _, rfl⟩
            · obtain ⟨l1, l2⟩ := (pl.late k hkl _ hriv).1 n ag x d rfl hwk
              rw [hvi (fun e => by rw [e] at l1; cases l1)] at l2
              rw [← hx2, hop]
              simp only [dopK, eopK, hxe x (fun s hs' => by simp only [IOp.sl, hop, List.mem_append]; exact .inr hs')]
              exact peek_and (B := True) trivial l2
            · obtain ⟨l1, l0, l2⟩ := (pl.late k hkl _ hriv).2 kk ys d rfl hwk
              rw [hvi (fun e => by rw [e] at l1; cases l1)] at l2
              have hys : ys.map (·.ev (maskS io.sl (ov (fun j => decide (j < i)) V ios 0 σ))) = ys.map (·.ev (ov (fun j => decide (j < k + 1)) V ios 0 σ)) := by
                refine List.map_congr_left fun y hy => hxe y fun s hs' => ?_
                simp only [IOp.sl, hop, List.mem_append]
                exact .inr (List.mem_flatMap.2 ⟨y, hy, hs'⟩)
              rw [← hx2, hop]
              simp only [dopK, eopK, hys]
              exact ⟨l0, l2⟩
          obtain ⟨sv, m', ⟨rfl, rfl⟩, hF⟩ := dopK_sound hΓ hx1 hdk
          rw [ht]
          exact ⟨_, hF.2.1, ⟨fun he => (by rw [heff] at he; cases he), fun _ => rfl⟩⟩
      obtain ⟨m', hst, he1, he2⟩ := hstep
      refine Oper.wp_mono ?_ (hst β ε a w hI hsm Q)
      rintro a' w' ⟨v, ε', rfl, hv, hle, hI'⟩
      refine ⟨ε', ?_, hput (hs.mono hle) hv, v, rfl⟩
      cases heff : io.op.eff with
      | true => rw [htope heff, ← he1 heff]; exact hI'
      | false => rw [htopn heff, ← he2 heff]; exact hI'
  · rw [hwant _ hw]
    simp only [Bool.false_eq_true, if_false]
    refine ⟨ε, ?_, hput hs (by rw [h1]; exact sat_undef), _, rfl⟩
    cases heff : io.op.eff with
    | true =>
      have him : io.op.impure = true := by
        cases hx : io.op with
        | p x => rw [hx] at heff; cases heff
        | e x => rw [hx] at heff; cases x <;> first | rfl | cases heff
      have hld : ldOf io = none := by
        unfold ldOf
        split
        · rename_i e _; rw [e] at heff; cases heff
        · rename_i e _; rw [e] at heff; cases heff
        · rfl
      rw [htope heff, h2, ← hmem him (hnone him hld)]; exact hI
    | false => rw [htopn heff]; exact hI

def lst (listed : Array Bool) : Nat → Bool := fun j => listed.getD j false

theorem lst_set {listed : Array Bool} {i : Nat} (h : i < listed.size) : lst (listed.setIfInBounds i true) = upd (lst listed) i := by
  funext j
  simp only [lst, upd]
  by_cases hj : j = i
  · subst hj; simp [Array.getD_eq_getD_getElem?, h]
  · rw [Array.getD_eq_getD_getElem?, Array.getElem?_setIfInBounds, if_neg (Ne.symm hj), ← Array.getD_eq_getD_getElem?]; simp [hj]

theorem getD_tf {listed : Array Bool} {j : Nat} (h : j < listed.size) : listed.getD j true = listed.getD j false := by
  simp [Array.getD_eq_getD_getElem?, h]

theorem done_all {listed : Array Bool} (hsz : listed.size = ops.size) (hb : ∀ (i : Nat) (o : Oper), ops.toList[i]? = some o → ∀ e ∈ o.after, Region.binds .any e = true → e.on < i)
    (h : Region.ready .any ops listed = []) : ∀ i, i < ops.size → lst listed i = true := by
  intro i
  induction i using Nat.strongRecOn with
  | _ i ih =>
    intro hi
    cases hl : lst listed i with
    | true => rfl
    | false =>
      exfalso
      have : i ∈ Region.ready .any ops listed := by
        refine mem_ready.2 ⟨by rw [getD_tf (by omega)]; exact hl, ops[i], by simp [hi], fun e he hbi => ?_⟩
        have hlt := hb i ops[i] (by simp [hi]) e he hbi
        exact ih e.on hlt (by omega)
      rw [h] at this; simp at this

theorem count_set {l : List Bool} : ∀ {i : Nat}, l[i]? = some false → (l.set i true).count false + 1 = l.count false := by
  induction l with
  | nil => intro i h; simp at h
  | cons b l ih =>
    intro i h
    cases i with
    | zero => simp at h; subst h; simp
    | succ i =>
      have := ih (i := i) (by simpa using h)
      simp only [List.set_cons_succ, List.count_cons]
      omega

theorem Plan.any_ok {Γ : Hook} (hΓ : HookOK P Γ) (pl : Plan P quiet ops ios σ V M) {β : Base} {d : List Deferred} {Q : Exit → Act → World → Prop}
    (hQ : ∀ ε a w, Inv β ε (M ios.length) w → SlotsOK ε (ov (fun _ => true) V ios 0 σ) a → a.defers = d → Q .normal a w) :
    ∀ (fuel : Nat) (listed : Array Bool) (a : Act) (w : World), listed.size = ops.size → listed.toList.count false ≤ fuel → Closed ops.toList (lst listed) →
      (∃ ε, Inv β ε (M (top ios (lst listed) ios.length)) w ∧ SlotsOK ε (ov (lst listed) V ios 0 σ) a ∧ a.defers = d) → wpAny P .any ops Q fuel listed a w := by
  have fin : ∀ (listed : Array Bool) (a : Act) (w : World), listed.size = ops.size → Region.ready .any ops listed = [] →
      (∃ ε, Inv β ε (M (top ios (lst listed) ios.length)) w ∧ SlotsOK ε (ov (lst listed) V ios 0 σ) a ∧ a.defers = d) → Q .normal a w := by
    rintro listed a w hsz hr ⟨ε, h1, h2, h3⟩
    have hall := done_all hsz (chk_ok pl.chk).1 hr
    have e1 : top ios (lst listed) ios.length = top ios (fun _ => true) ios.length := top_congr _ fun k hk _ => hall k (by rw [← pl.len]; exact hk)
    have e2 : ov (lst listed) V ios 0 σ = ov (fun _ => true) V ios 0 σ := ov_congr ios 0 σ fun j hj => by rw [Nat.zero_add]; exact hall j (by rw [← pl.len]; exact hj)
    rw [e1, ← pl.top_M _ (Nat.le_refl _)] at h1
    rw [e2] at h2
    exact hQ ε a w h1 h2 h3
  intro fuel
  induction fuel with
  | zero =>
    intro listed a w hsz hc hcl hJ
    have hr : Region.ready .any ops listed = [] := by
      cases hr : Region.ready .any ops listed with
      | nil => rfl
      | cons j r =>
        exfalso
        have hj : j ∈ Region.ready .any ops listed := by rw [hr]; simp
        have hlt := ready_lt hj
        have h0 := (mem_ready.1 hj).1
        rw [getD_tf (by omega)] at h0
        have : false ∈ listed.toList := by
          have h1 : listed.toList[j]? = some false := by
            have : j < listed.size := by omega
            simp only [Array.getD_eq_getD_getElem?] at h0
            simp [this] at h0 ⊢; exact h0
          exact List.mem_of_getElem? h1
        have := List.count_pos_iff.2 this
        omega
    exact ⟨hr, fin listed a w hsz hr hJ⟩
  | succ fuel ih =>
    intro listed a w hsz hc hcl hJ
    refine ⟨fun hr => fin listed a w hsz hr hJ, fun i hi => ?_⟩
    obtain ⟨ε, h1, h2, h3⟩ := hJ
    have hlt := ready_lt hi
    obtain ⟨h0, o, ho, hall⟩ := mem_ready.1 hi
    rw [getD_tf (by omega)] at h0
    refine wpOp_mono ?_ (Plan.step_ok hΓ pl hcl ho h0 hall h1 h2)
    rintro a' w' ⟨ε', k1, k2, v', rfl⟩
    have hl0 : listed.toList[i]? = some false := by
      have : i < listed.size := by omega
      simp only [Array.getD_eq_getD_getElem?] at h0
      simp [this] at h0 ⊢; exact h0
    refine ih _ _ w' (by simpa using hsz) ?_ ?_ ?_
    · have := count_set hl0
      rw [Array.toList_setIfInBounds]; omega
    · rw [lst_set (by omega)]
      exact hcl.upd (by simpa using ho) hall
    · rw [lst_set (by omega)]
      exact ⟨ε', k1, k2, by rw [put_defers]; exact h3⟩

theorem rivals_again (ops : List Oper) (ios : List IOp) (k : Nat) : ∀ c ∈ rivals ops ios k, IsAgain c := by
  intro c hc
  unfold rivals at hc
  split at hc
  · obtain ⟨x, _, hx⟩ := List.mem_filterMap.1 hc
    split at hx
    · unfold ldOf at hx
      split at hx
      · cases hx; exact ⟨rfl, .inl ⟨_, _, _, _, rfl⟩⟩
      · cases hx; exact ⟨rfl, .inr ⟨_, _, _, rfl⟩⟩
      · cases hx
    · cases hx
  · cases hc
theorem dops_any {Γ : Hook} (hΓ : HookOK P Γ) {quiet : FuncId → Bool} {ops : Array Oper} {Q : Exit → Act → World → Prop} {β : Base} {d : List Deferred}
    {ios : List IOp} {σ : List SV} {m : List Res} {K : List SV → List Res → Prop} (hc : ops.toList.mapM (compD P quiet ops) = some ios) (hk : chk ops.toList ios = true) (h : dsops Γ (aug ops.toList ios) K σ m)
    (hQ : ∀ σ' m' ε' a' w', K σ' m' → Inv β ε' m' w' → SlotsOK ε' σ' a' → a'.defers = d → Q .normal a' w')
    {ε : Env} {a : Act} {w : World} (hI : Inv β ε m w) (hs : SlotsOK ε σ a) (hd : a.defers = d) : wpAny P .any ops Q ops.size (Array.replicate ops.size false) a { w with drawn := w.drawn + 1 } := by
  obtain ⟨ts, σe, me, hK, htr⟩ := tr_of hΓ (rs := rivals ops.toList ios) (rivals_again _ _) ops.toList ios σ m K 0 hc h
  have hlen : ios.length = ops.size := by rw [mapM_len hc]; simp
  obtain ⟨V, hV⟩ : ∃ V : Nat → SV, ∀ k, V k = (ts[k]?.map Prod.fst).getD SV.junk := ⟨_, fun _ => rfl⟩
  obtain ⟨M, hM0, hM⟩ : ∃ M : Nat → List Res, M 0 = m ∧ ∀ k, M (k + 1) = (ts[k]?.map Prod.snd).getD m := ⟨fun k => Nat.casesOn k m fun k => (ts[k]?.map Prod.snd).getD m, rfl, fun _ => rfl⟩
  obtain ⟨t1, t2, t3⟩ := tr_at (V := V) (M := M) (ops.toList.zip ios) 0 σ m ts σe me htr hM0 (fun j t ht => by rw [Nat.zero_add, hV, hM]; simp [ht])
  have hzl : (ops.toList.zip ios).length = ios.length := by simp [hlen]
  have hzm : (ops.toList.zip ios).map (·.2) = ios := by
    rw [List.map_snd_zip]; simp [hlen]
  rw [hzm] at t1 t2
  have pl : Plan P quiet ops ios σ V M := by
    refine ⟨hlen, fun i o io ho hio => ?_, fun i o io ho hio => ?_, hk, fun j hj c hc' => ?_⟩
    · have := (mapM_at hc i).1
      have ho' : ops.toList[i]? = some o := by simpa using ho
      rw [ho', hio] at this
      simp only [Option.bind_some, compD, Option.map_eq_some_iff] at this
      obtain ⟨io0, h0, rfl⟩ := this
      simp only [compOp] at h0
      split at h0 <;> try (cases h0; done)
      rename_i g x hg hx
      simp only [Option.some.injEq] at h0; subst h0
      exact ⟨rfl, hg, x, hx, rfl⟩
    · have := t1 i o io (by
        have ho' : ops.toList[i]? = some o := by simpa using ho
        rw [List.getElem?_zip_eq_some]; exact ⟨ho', hio⟩)
      rw [Nat.zero_add] at this
      exact this.1
    · have ho' : ops.toList[j]? = some (ops[j]'(by rw [← hlen]; exact hj)) := by simp
      have hio : ios[j]? = some ios[j] := by simp [hj]
      have := (t1 j _ _ (by rw [List.getElem?_zip_eq_some]; exact ⟨ho', hio⟩)).2
      rw [Nat.zero_add] at this
      exact this c hc'
  refine Plan.any_ok hΓ pl (β := β) (d := d) (fun ε' a' w' k1 k2 k3 => ?_) ops.size _ a _ (by simp) ?_ ?_ ?_
  · rw [hzl, Nat.zero_add] at t3
    exact hQ _ _ ε' a' w' hK (by rw [t3]; exact k1) (by rw [t2]; exact k2) k3
  · simp
  · intro i o _ hi
    simp [lst, Array.getD_eq_getD_getElem?, Array.getElem?_replicate] at hi
    split at hi <;> cases hi
  · have hno : ∀ j, lst (Array.replicate ops.size false) j = false := by
      intro j
      simp only [lst, Array.getD_eq_getD_getElem?, Array.getElem?_replicate]
      split <;> rfl
    have e1 : top ios (lst (Array.replicate ops.size false)) ios.length = 0 := by
      rw [top_cut (i := 0) _ (Nat.zero_le _) (fun k _ _ _ => hno k)]; rfl
    rw [e1, ov_none_all _ _ _ (fun j _ => hno _), hM0]
    exact ⟨ε, hI.drew, hs, hd⟩
theorem dops_sound {Γ : Hook} (hΓ : HookOK P Γ) (hmx : P.follows .mixedOrders = true) {quiet : FuncId → Bool} {id : Nat} {ops : Array Oper} {Q : Exit → Act → World → Prop} {β : Base} {d : List Deferred}
    {ios : List IOp} {σ : List SV} {m : List Res} {K : List SV → List Res → Prop} (hc : ops.toList.mapM (compD P quiet ops) = some ios) (hk : chk ops.toList ios = true) (h : dsops Γ (aug ops.toList ios) K σ m)
    (hQ : ∀ σ' m' ε' a' w', K σ' m' → Inv β ε' m' w' → SlotsOK ε' σ' a' → a'.defers = d → Q .normal a' w')
    {ε : Env} {a : Act} {w : World} (hI : Inv β ε m w) (hs : SlotsOK ε σ a) (hd : a.defers = d) : (Code.region id ops true).wp P Q a w :=
  wp_region_any hmx (dops_any hΓ hc hk h hQ hI hs hd)

end Go.Sx
/-! Sx, part 13f: regions that draw their order, walked in another order than the text's. -/
set_option linter.unusedSimpArgs false
set_option linter.unusedVariables false
namespace Go.Sx
open Go
variable {P : Program}

def renOp (ord : List Nat) (o : Oper) : Oper := { o with after := o.after.map fun e => { e with on := ord.idxOf e.on }, guard := o.guard.map fun g => (ord.idxOf g.1, g.2) }
def permOps (ops : Array Oper) (ord : List Nat) : Array Oper := (ord.map fun i => renOp ord (ops.getD i default)).toArray
def permOk (ops : Array Oper) (ord : List Nat) : Bool :=
  decide (ord.length = ops.size) && decide ord.Nodup && ord.all (fun i => decide (i < ops.size)) && (List.range ops.size).all (fun i => ord.contains i) &&
  ops.toList.all fun o => o.after.toList.all (fun e => decide (e.on < ops.size)) && (match o.guard with
    | none => true
    | some g => decide (g.1 < ops.size))
structure Perm (ops : Array Oper) (ord : List Nat) : Prop where
  len : ord.length = ops.size
  nd : ord.Nodup
  lt : ∀ i ∈ ord, i < ops.size
  all : ∀ i, i < ops.size → i ∈ ord
  on : ∀ o ∈ ops.toList, ∀ e ∈ o.after, e.on < ops.size
  gd : ∀ o ∈ ops.toList, ∀ g, o.guard = some g → g.1 < ops.size
theorem permOk_ok {ops : Array Oper} {ord : List Nat} (h : permOk ops ord = true) : Perm ops ord := by
  simp only [permOk, Bool.and_eq_true, decide_eq_true_eq, List.all_eq_true, List.mem_range, List.contains_eq_mem] at h
  obtain ⟨⟨⟨⟨h1, h2⟩, h3⟩, h4⟩, h5⟩ := h
  refine ⟨h1, h2, h3, h4, fun o ho e he => (h5 o ho).1 e (by simpa using he), fun o ho g hg => ?_⟩
  have := (h5 o ho).2
  rw [hg] at this
  simpa using this
section
variable {ops : Array Oper} {ord : List Nat} (hp : Perm ops ord)
include hp
theorem Perm.size : (permOps ops ord).size = ops.size := by simp [permOps, hp.len]
theorem Perm.pos {i : Nat} (h : i < ops.size) : ord.idxOf i < ops.size := by
  rw [← hp.len]; exact List.idxOf_lt_length_iff.2 (hp.all i h)
theorem Perm.back {i : Nat} (h : i < ops.size) : ord[ord.idxOf i]? = some i := by
  have hl := hp.pos h
  rw [← hp.len] at hl
  rw [List.getElem?_eq_getElem hl]
  exact congrArg some (List.getElem_idxOf hl)
theorem Perm.inj {i j : Nat} (hi : i < ops.size) (hj : j < ops.size) (h : ord.idxOf i = ord.idxOf j) : i = j := by
  have h1 := hp.back hi
  rw [h, hp.back hj] at h1
  exact (Option.some.inj h1).symm
theorem Perm.turn {k : Nat} (h : k < ops.size) : ∃ i, i < ops.size ∧ ord.idxOf i = k := by
  have hk : k < ord.length := by rw [hp.len]; exact h
  refine ⟨ord[k], hp.lt _ (List.getElem_mem hk), ?_⟩
  exact hp.nd.idxOf_getElem k hk
theorem Perm.at {i : Nat} {o : Oper} (ho : ops[i]? = some o) : (permOps ops ord)[ord.idxOf i]? = some (renOp ord o) := by
  have hi : i < ops.size := (Array.getElem?_eq_some_iff.1 ho).1
  have hb := hp.back hi
  simp only [permOps, List.getElem?_toArray, List.getElem?_map, hb, Option.map_some, Array.getD_eq_getD_getElem?, ho, Option.getD_some]
theorem Perm.ready {i : Nat} (hi : i < ops.size) {listed listed' : Array Bool} (hs : listed.size = ops.size) (hs' : listed'.size = ops.size) (hl : ∀ j, j < ops.size → lst listed' (ord.idxOf j) = lst listed j) :
    ord.idxOf i ∈ Region.ready .any (permOps ops ord) listed' ↔ i ∈ Region.ready .any ops listed := by
  have hpi := hp.pos hi
  rw [mem_ready, mem_ready, getD_tf (by omega), getD_tf (by omega)]
  have e0 : listed'.getD (ord.idxOf i) false = listed.getD i false := hl i hi
  rw [e0]
  have ho : ops[i]? = some ops[i] := by simp [hi]
  have hmem : ops[i] ∈ ops.toList := by simp
  constructor
  · rintro ⟨h1, o', ho', h2⟩
    rw [hp.at ho] at ho'
    cases ho'
    refine ⟨h1, _, ho, fun e he hb => ?_⟩
    have := h2 { e with on := ord.idxOf e.on } (by
      simp only [renOp, Array.mem_map]
      exact ⟨e, he, rfl⟩) hb
    have hh := hl e.on (hp.on _ hmem e he)
    exact hh.symm.trans this
  · rintro ⟨h1, o, ho2, h2⟩
    rw [ho] at ho2
    cases ho2
    refine ⟨h1, _, hp.at ho, fun e he hb => ?_⟩
    simp only [renOp, Array.mem_map] at he
    obtain ⟨e0', he0, rfl⟩ := he
    have hh := hl e0'.on (hp.on _ hmem e0' he0)
    exact hh.trans (h2 e0' he0 hb)
theorem Perm.none {listed listed' : Array Bool} (hs : listed.size = ops.size) (hs' : listed'.size = ops.size) (hl : ∀ j, j < ops.size → lst listed' (ord.idxOf j) = lst listed j)
    (h : Region.ready .any ops listed = []) : Region.ready .any (permOps ops ord) listed' = [] := by
  refine List.eq_nil_iff_forall_not_mem.2 fun k hk => ?_
  have hlt := ready_lt hk
  rw [hp.size] at hlt
  obtain ⟨i, hi, rfl⟩ := hp.turn hlt
  have := (hp.ready hi hs hs' hl).1 hk
  rw [h] at this; cases this
theorem Perm.wanted {o : Oper} (ho : o ∈ ops.toList) (tmps : Array Value) : Region.wanted (renOp ord o) (yielded (permOps ops ord) tmps) = Region.wanted o (yielded ops tmps) := by
  cases hg : o.guard with
  | none => simp [Region.wanted, renOp, hg]
  | some g =>
    obtain ⟨j, w⟩ := g
    have hj := hp.gd o ho _ hg
    have hoj : ops[j]? = some ops[j] := by simp [show j < ops.size from hj]
    have e : yielded (permOps ops ord) tmps (ord.idxOf j) = yielded ops tmps j := by
      simp only [yielded, hp.at hoj, hoj, Option.bind_some]
      rfl
    simp only [Region.wanted, renOp, hg, Option.map_some, e]
theorem Perm.op {Q : Exit → Act → World → Prop} {i : Nat} (hi : i < ops.size) {K K' : Act → World → Prop} (hK : ∀ a w, K a w → K' a w) {a : Act} {w : World} (h : wpOp P (permOps ops ord) Q (ord.idxOf i) K a w) : wpOp P ops Q i K' a w := by
  have ho : ops[i]? = some ops[i] := by simp [hi]
  refine wpOp_mono hK ?_
  unfold wpOp at h ⊢
  rw [hp.at ho] at h
  rw [ho]
  simp only at h ⊢
  rw [hp.wanted (by simp)] at h
  exact h
theorem Perm.any {Q : Exit → Act → World → Prop} : ∀ (fuel : Nat) (listed listed' : Array Bool) (a : Act) (w : World), listed.size = ops.size → listed'.size = ops.size → (∀ j, j < ops.size → lst listed' (ord.idxOf j) = lst listed j) →
    wpAny P .any (permOps ops ord) Q fuel listed' a w → wpAny P .any ops Q fuel listed a w
  | 0, listed, listed', a, w, hs, hs', hl, h => by
    refine ⟨?_, h.2⟩
    refine List.eq_nil_iff_forall_not_mem.2 fun i hi => ?_
    have := (hp.ready (ready_lt hi) hs hs' hl).2 hi
    rw [h.1] at this; cases this
  | fuel + 1, listed, listed', a, w, hs, hs', hl, h => by
    refine ⟨fun hr => h.1 (hp.none hs hs' hl hr), fun i hi => ?_⟩
    have hlt := ready_lt hi
    have h2 := h.2 _ ((hp.ready hlt hs hs' hl).2 hi)
    refine hp.op hlt (fun a w hh => ?_) h2
    refine Perm.any fuel _ _ a w (by simpa using hs) (by simpa using hs') (fun j hj => ?_) hh
    have hpi := hp.pos hlt
    rw [lst_set (by omega), lst_set (by omega)]
    simp only [Sx.upd, hl j hj]
    congr 1
    rw [decide_eq_decide]
    exact ⟨fun e => hp.inj hj hlt e, fun e => by rw [e]⟩
end
def ordGo (ops : Array Oper) (ios : List IOp) : Nat → List Nat → List Nat
  | 0, acc => acc.reverse
  | f + 1, acc =>
    let rs := (List.range ops.size).filter fun i => !acc.contains i && ((ops[i]?).map fun o => o.after.toList.all fun e => !Region.binds .any e || acc.contains e.on).getD false
    match (rs.find? fun i => !((ios[i]?).map (·.op.eff)).getD true) <|> rs.head? with
    | some i => ordGo ops ios f (i :: acc)
    | none => acc.reverse
def quiet2 (quiet : FuncId → Bool) : FuncId → Bool := fun f => quiet f && f != 999999999
theorem dops_sound2 {Γ : Hook} (hΓ : HookOK P Γ) (hmx : P.follows .mixedOrders = true) {quiet : FuncId → Bool} {id : Nat} {ops : Array Oper} {ord : List Nat} {Q : Exit → Act → World → Prop} {β : Base} {d : List Deferred}
    {ios : List IOp} {σ : List SV} {m : List Res} {K : List SV → List Res → Prop} (hpo : permOk ops ord = true) (hc : (permOps ops ord).toList.mapM (compD P quiet (permOps ops ord)) = some ios) (hk : chk (permOps ops ord).toList ios = true)
    (h : dsops Γ (aug (permOps ops ord).toList ios) K σ m)
    (hQ : ∀ σ' m' ε' a' w', K σ' m' → Inv β ε' m' w' → SlotsOK ε' σ' a' → a'.defers = d → Q .normal a' w')
    {ε : Env} {a : Act} {w : World} (hI : Inv β ε m w) (hs : SlotsOK ε σ a) (hd : a.defers = d) : (Code.region id ops true).wp P Q a w := by
  have hp := permOk_ok hpo
  refine wp_region_any hmx (hp.any _ _ (Array.replicate ops.size false) a _ (by simp) (by simp) (fun j hj => ?_) ?_)
  · have hno : ∀ j, lst (Array.replicate ops.size false) j = false := by
      intro j
      simp only [lst, Array.getD_eq_getD_getElem?, Array.getElem?_replicate]
      split <;> rfl
    rw [hno, hno]
  · have := dops_any hΓ hc hk h hQ hI hs hd
    rwa [hp.size] at this
end Go.Sx
/-! Sx, part 13g: regions that draw their order, with a new variable that comes at any time. -/
set_option linter.unusedSimpArgs false
set_option linter.unusedVariables false
namespace Go.Sx
open Go
variable {P : Program}
theorem Inv.adopt {β : Base} {ε : Env} {m : List Res} {w : World} (h : Inv β ε m w) {T : TypeId} {c : SV} {cs : List Value} {g : Nat} (hc : SatC c ε cs) (hg : w.heap[g]? = some (.cells cs.toArray T (0, 0)))
    (ho : ∀ i, ownR ε i (memAt m i) ≠ some g) (hH : ε.H g = none) (hs : β.w.heap.size ≤ g) : Inv β (ε.more g undef) (m ++ [.blk T c]) w := by
  have hn := h.good.n
  have hle := ε.le_more g undef
  have hown : ∀ i, i < m.length → ownR (ε.more g undef) i (memAt (m ++ [.blk T c]) i) = ownR ε i (memAt m i) := by
    intro i hi
    rw [memAt_append_lt hi]
    have hi' : i < ε.n := by omega
    cases memAt m i <;> simp [ownR, Env.more, Nat.ne_of_lt hi']
  have hnew : ownR (ε.more g undef) m.length (memAt (m ++ [.blk T c]) m.length) = some g := by
    rw [memAt_snoc]; simp [ownR, Env.more, hn]
  have hcase : ∀ i b, ownR (ε.more g undef) i (memAt (m ++ [.blk T c]) i) = some b → (i < m.length ∧ ownR ε i (memAt m i) = some b) ∨ (i = m.length ∧ b = g) := by
    intro i b hb
    rcases Nat.lt_trichotomy i m.length with hi | hi | hi
    · rw [hown i hi] at hb; exact .inl ⟨hi, hb⟩
    · subst hi; rw [hnew] at hb; exact .inr ⟨rfl, (Option.some.inj hb).symm⟩
    · rw [memAt_ge (by simp; omega)] at hb; cases hb
  refine ⟨⟨by simp [Env.more, hn], fun i => ?_, fun i j b hij h1 h2 => ?_, fun i b hb => ?_, h.good.hv⟩, ⟨h.kept.os, h.kept.tape, h.kept.output, h.kept.size, h.kept.heap, h.kept.H, h.kept.fresh, h.kept.drawn⟩, fun i b hb => ?_, ?_, fun i hi => ?_, fun i hi hv => ?_⟩
  · rcases Nat.lt_trichotomy i m.length with hi | hi | hi
    · rw [memAt_append_lt hi]
      have hi' : i < ε.n := by omega
      have hr := h.good.res i
      cases hm : memAt m i with
      | dead => trivial
      | blk T' c' =>
        rw [hm] at hr
        obtain ⟨cs', h1, h2⟩ := hr
        have hb : (ε.more g undef).blk i = ε.blk i := by simp [Env.more, Nat.ne_of_lt hi']
        exact ⟨cs', by rw [hb]; exact h1, h2.mono c' hle⟩
      | vec T' wd l =>
        rw [hm] at hr
        obtain ⟨xs, h1, h2⟩ := hr
        have hb : (ε.more g undef).vv i = ε.vv i := by simp [Env.more, Nat.ne_of_lt hi']
        exact ⟨xs, by rw [hb]; exact h1, fun j hj => (h2 j hj).mono _ hle⟩
      | mp ek ev l =>
        rw [hm] at hr
        obtain ⟨es, cl, h1, h2⟩ := hr
        have hb : (ε.more g undef).blk i = ε.blk i := by simp [Env.more, Nat.ne_of_lt hi']
        exact ⟨es, cl, by rw [hb]; exact h1, h2⟩
    · subst hi
      rw [memAt_snoc]
      refine ⟨cs, ?_, hc.mono c hle⟩
      have : (ε.more g undef).blk m.length = g := by simp [Env.more, hn]
      rw [this]; exact hg
    · rw [memAt_ge (by simp; omega)]; trivial
  · rcases hcase i b h1 with ⟨hi, h1'⟩ | ⟨hi, hb⟩ <;> rcases hcase j b h2 with ⟨hj, h2'⟩ | ⟨hj, hb2⟩
    · exact h.good.disj i j b hij h1' h2'
    · subst hb2; exact ho i h1'
    · subst hb; exact ho j h2'
    · omega
  · rcases hcase i b hb with ⟨_, h1⟩ | ⟨_, h1⟩
    · exact h.good.sep i b h1
    · subst h1; exact hH
  · rcases hcase i b hb with ⟨_, h1⟩ | ⟨_, h1⟩
    · exact h.own i b h1
    · subst h1; exact .inr hs
  · have := h.n; simp [Env.more]; omega
  · have := h.n
    have e := h.blk i hi
    simp [Env.more]
    rw [if_neg (by omega)]; exact e
  · have hn' := h.n
    rw [memAt_append_lt (by omega)] at hv
    have e := h.vv i hi hv
    simp [Env.more]
    rw [if_neg (by omega)]; exact e
structure Ghost (β βs : Base) (g : Nat) (T : TypeId) (cs : List Value) : Prop where
  back : ∀ ε m w, Inv βs ε m w → Inv β ε m w ∧ w.heap[g]? = some (.cells cs.toArray T (0, 0)) ∧ (∀ i, ownR ε i (memAt m i) ≠ some g) ∧ ε.H g = none ∧ β.w.heap.size ≤ g
theorem ghost_of {β : Base} {ε : Env} {m : List Res} {w : World} (h : Inv β ε m w) {T : TypeId} {cs : List Value} :
    ∃ βs, Ghost β βs w.heap.size T cs ∧ Inv βs ε m (w.alloc (.cells cs.toArray T)) := by
  have hsz : (w.alloc (.cells cs.toArray T)).heap.size = w.heap.size + 1 := by simp
  have hold : ∀ b, b < w.heap.size → (w.alloc (.cells cs.toArray T)).heap[b]? = w.heap[b]? := fun b hb => Go.RowKit.Below.heap_alloc w _ b hb
  have hi2 : Inv β ε m (w.alloc (.cells cs.toArray T)) := by
    refine ⟨h.good.grow (Env.Le.refl _) h.good.n (fun _ _ => rfl) (fun _ _ => rfl) hold (fun b o e => by rw [hold b (H_lt h.good e)]; exact h.good.hv b o e) h.good.sep, ⟨h.kept.os, h.kept.tape, h.kept.output, by rw [hsz]; have := h.kept.size; omega, fun b hlt hB => ?_, h.kept.H, h.kept.fresh, h.kept.drawn⟩, h.own, h.n, h.blk, h.vv⟩
    rw [hold b (Nat.lt_of_lt_of_le hlt h.kept.size)]; exact h.kept.heap b hlt hB
  have hnew := heap_alloc_new w (.cells cs.toArray T)
  have hown : ∀ i b, ownR ε i (memAt m i) = some b → b < w.heap.size := fun i b e => ownR_lt h.good e
  have hHlt : ∀ b o, ε.H b = some o → b < w.heap.size := fun b o e => H_lt h.good e
  have hks := h.kept.size
  generalize w.alloc (.cells cs.toArray T) = W at *
  refine ⟨⟨W, { β.ε with H := ε.H }, fun b => (β.B b ∨ β.w.heap.size ≤ b) ∧ b ≠ w.heap.size⟩, ⟨fun ε' m' w' k => ?_⟩, ?_⟩
  · have hB : ∀ b, b < β.w.heap.size → ¬ β.B b → ¬ ((β.B b ∨ β.w.heap.size ≤ b) ∧ b ≠ w.heap.size) := by
      rintro b h1 h2 ⟨h3 | h3, _⟩
      · exact h2 h3
      · omega
    refine ⟨⟨k.good, ⟨k.kept.os.trans hi2.kept.os, k.kept.tape.trans hi2.kept.tape, k.kept.output.trans hi2.kept.output, Nat.le_trans hi2.kept.size k.kept.size, fun b hlt hb => ?_, fun b o e => k.kept.H b o (h.kept.H b o e), fun b o e => ?_, Nat.le_trans hi2.kept.drawn k.kept.drawn⟩, fun i b e => ?_, k.n, k.blk, k.vv⟩, ?_, fun i e => ?_, ?_, by omega⟩
    · exact (k.kept.heap b (Nat.lt_of_lt_of_le hlt hi2.kept.size) (hB b hlt hb)).trans (hi2.kept.heap b hlt hb)
    · rcases k.kept.fresh b o e with e' | e' | ⟨e' | e', _⟩
      · exact h.kept.fresh b o e'
      · have e' : W.heap.size ≤ b := e'
        right; left; omega
      · exact .inr (.inr e')
      · exact .inr (.inl e')
    · rcases k.own i b e with ⟨e' | e', _⟩ | e'
      · exact .inl e'
      · exact .inr e'
      · have e' : W.heap.size ≤ b := e'
        right; omega
    · rw [← hnew]
      exact k.kept.heap _ (by show _ < W.heap.size; omega) (fun hh => hh.2 rfl)
    · rcases k.own i _ e with ⟨_, e'⟩ | e'
      · exact e' rfl
      · have e' : W.heap.size ≤ w.heap.size := e'
        omega
    · cases hh : ε'.H w.heap.size with
      | none => rfl
      | some o =>
        exfalso
        rcases k.kept.fresh _ o hh with e' | e' | ⟨_, e'⟩
        · have := hHlt _ _ e'; omega
        · have e' : W.heap.size ≤ w.heap.size := e'
          omega
        · exact e' rfl
  · refine ⟨hi2.good, ⟨rfl, rfl, rfl, Nat.le_refl _, fun _ _ _ => rfl, fun _ _ e => e, fun _ _ e => .inl e, Nat.le_refl _⟩, fun i b e => .inl ⟨hi2.own i b e, ?_⟩, hi2.n, hi2.blk, hi2.vv⟩
    have := hown i b e
    omega
/-! ### Such a region, read off the code -/
def isAl (o : Oper) : Bool := match o.op, o.guard with
  | .alloc _, none => true
  | _, _ => false
def gchk (ops : List Oper) (g : Nat) (ios : List IOp) (d : Nat) : Bool :=
  chk (ops.take g) ios && ops.all (fun o => o.guard.isNone) && ios.all (fun io => decide (io.dst ≠ some d) && !io.sl.contains d) &&
  (List.range ops.length).all (fun j => decide (j < g) || (((ops[j]?).map fun o => o.after.toList.all fun e => !Region.binds .any e || decide (e.on < j)).getD false && (decide (j = g) || (List.range j).all fun i => ((pres ops []).getD j 0).testBit i)))
def compGh (P : Program) (quiet : FuncId → Bool) (ops : Array Oper) : Option (List IOp × Nat × TypeId × SV × List IOp) := match ops.toList.findIdx? isAl with
  | some g => match ops.toList.drop g with
    | oa :: post => match oa.op, oa.dst with
      | .alloc T, some d => match zok P T, (ops.toList.take g).mapM (compD P quiet ops), post.mapM (compOp P ops) with
        | some z, some ios, some lo => if gchk ops.toList g ios d then some (aug (ops.toList.take g) ios, d, T, z, lo) else none
        | _, _, _ => none
      | _, _ => none
    | [] => none
  | none => none
structure GP (P : Program) (quiet : FuncId → Bool) (ops : Array Oper) (g : Nat) (oa : Oper) (post : List Oper) (ios : List IOp) (d : Nat) (T : TypeId) (z : SV) (lo : List IOp) : Prop where
  split : ops.toList = ops.toList.take g ++ oa :: post
  glt : g < ops.size
  op : oa.op = .alloc T
  dst : oa.dst = some d
  z : zok P T = some z
  pre : (ops.toList.take g).mapM (compD P quiet ops) = some ios
  post : post.mapM (compOp P ops) = some lo
  chk : chk (ops.toList.take g) ios = true
  gd : ∀ o ∈ ops.toList, o.guard = none
  off : ∀ io ∈ ios, io.dst ≠ some d ∧ d ∉ io.sl
  edge : ∀ (j : Nat) (o : Oper), g ≤ j → ops.toList[j]? = some o → ∀ e ∈ o.after, Region.binds .any e = true → e.on < j
  bound : ∀ j, g < j → j < ops.size → ∀ i, i < j → ((pres ops.toList []).getD j 0).testBit i = true
theorem compGh_ok {quiet : FuncId → Bool} {ops : Array Oper} {l : List IOp} {d : Nat} {T : TypeId} {z : SV} {lo : List IOp} (h : compGh P quiet ops = some (l, d, T, z, lo)) : ∃ g oa post ios, GP P quiet ops g oa post ios d T z lo ∧ l = aug (ops.toList.take g) ios := by
  unfold compGh at h
  split at h <;> try (cases h; done)
  rename_i g hg
  split at h <;> try (cases h; done)
  rename_i oa post hp
  split at h <;> try (cases h; done)
  rename_i T' d' h1 h2
  split at h <;> try (cases h; done)
  rename_i z' ios lo' h3 h4 h5
  split at h <;> try (cases h; done)
  rename_i hk
  simp only [Option.some.injEq, Prod.mk.injEq] at h
  obtain ⟨rfl, rfl, rfl, rfl, rfl⟩ := h
  have hsp : ops.toList = ops.toList.take g ++ oa :: post := by rw [← hp, List.take_append_drop]
  have hlt : g < ops.size := by
    have : g < ops.toList.length := by
      refine Nat.lt_of_not_le fun hle => ?_
      rw [List.drop_eq_nil_of_le hle] at hp; cases hp
    simpa using this
  simp only [gchk, Bool.and_eq_true, List.all_eq_true, List.mem_range, decide_eq_true_eq, Bool.or_eq_true, Bool.not_eq_true', List.contains_eq_mem, decide_eq_false_iff_not, Option.isNone_iff_eq_none] at hk
  obtain ⟨⟨⟨k1, k2⟩, k3⟩, k4⟩ := hk
  refine ⟨g, oa, post, ios, ⟨hsp, hlt, h1, h2, h3, h4, h5, k1, k2, k3, fun j o hj ho e he hb => ?_, fun j hj hjl i hij => ?_⟩, rfl⟩
  · have hjl : j < ops.toList.length := (List.getElem?_eq_some_iff.1 ho).1
    rcases k4 j hjl with k | ⟨k, _⟩
    · omega
    · rw [ho] at k
      simp only [Option.map_some, Option.getD_some, List.all_eq_true, Bool.or_eq_true, Bool.not_eq_true', decide_eq_true_eq] at k
      rcases k e (by simpa using he) with k | k
      · rw [hb] at k; cases k
      · exact k
  · rcases k4 j (by simpa using hjl) with k | ⟨_, k⟩
    · omega
    · rcases k with k | k
      · omega
      · exact k i hij
theorem mapM_congr.{u1, u2} {α : Type u1} {β : Type u2} {f f' : α → Option β} : ∀ {l : List α}, (∀ x ∈ l, f x = f' x) → l.mapM f = l.mapM f'
  | [], _ => rfl
  | x :: l, h => by
    simp only [List.mapM_cons]
    rw [h x (List.mem_cons_self ..), mapM_congr fun y hy => h y (List.mem_cons_of_mem _ hy)]
theorem plan_of {Γ : Hook} (hΓ : HookOK P Γ) {quiet : FuncId → Bool} {ops : Array Oper} {ios : List IOp} {σ : List SV} {m : List Res} {K : List SV → List Res → Prop} (hc : ops.toList.mapM (compD P quiet ops) = some ios) (hk : chk ops.toList ios = true) (h : dsops Γ (aug ops.toList ios) K σ m) :
    ∃ V M, Plan P quiet ops ios σ V M ∧ M 0 = m ∧ K (ov (fun _ => true) V ios 0 σ) (M ios.length) := by
  obtain ⟨ts, σe, me, hK, htr⟩ := tr_of hΓ (rs := rivals ops.toList ios) (rivals_again _ _) ops.toList ios σ m K 0 hc h
  have hlen : ios.length = ops.size := by rw [mapM_len hc]; simp
  obtain ⟨V, hV⟩ : ∃ V : Nat → SV, ∀ k, V k = (ts[k]?.map Prod.fst).getD SV.junk := ⟨_, fun _ => rfl⟩
  obtain ⟨M, hM0, hM⟩ : ∃ M : Nat → List Res, M 0 = m ∧ ∀ k, M (k + 1) = (ts[k]?.map Prod.snd).getD m := ⟨fun k => Nat.casesOn k m fun k => (ts[k]?.map Prod.snd).getD m, rfl, fun _ => rfl⟩
  obtain ⟨t1, t2, t3⟩ := tr_at (V := V) (M := M) (ops.toList.zip ios) 0 σ m ts σe me htr hM0 (fun j t ht => by rw [Nat.zero_add, hV, hM]; simp [ht])
  have hzl : (ops.toList.zip ios).length = ios.length := by simp [hlen]
  have hzm : (ops.toList.zip ios).map (·.2) = ios := by
    rw [List.map_snd_zip]; simp [hlen]
  rw [hzm] at t1 t2
  refine ⟨V, M, ⟨hlen, fun i o io ho hio => ?_, fun i o io ho hio => ?_, hk, fun j hj c hc' => ?_⟩, hM0, ?_⟩
  · have := (mapM_at hc i).1
    have ho' : ops.toList[i]? = some o := by simpa using ho
    rw [ho', hio] at this
    simp only [Option.bind_some, compD, Option.map_eq_some_iff] at this
    obtain ⟨io0, h0, rfl⟩ := this
    simp only [compOp] at h0
    split at h0 <;> try (cases h0; done)
    rename_i g x hg hx
    simp only [Option.some.injEq] at h0; subst h0
    exact ⟨rfl, hg, x, hx, rfl⟩
  · have := t1 i o io (by
      have ho' : ops.toList[i]? = some o := by simpa using ho
      rw [List.getElem?_zip_eq_some]; exact ⟨ho', hio⟩)
    rw [Nat.zero_add] at this
    exact this.1
  · have ho' : ops.toList[j]? = some (ops[j]'(by rw [← hlen]; exact hj)) := by simp
    have hio : ios[j]? = some ios[j] := by simp [hj]
    have := (t1 j _ _ (by rw [List.getElem?_zip_eq_some]; exact ⟨ho', hio⟩)).2
    rw [Nat.zero_add] at this
    exact this c hc'
  · rw [hzl, Nat.zero_add] at t3
    rw [← t2, ← t3]; exact hK
theorem count_zero {listed : Array Bool} {j : Nat} (hj : j < listed.size) (h : lst listed j = false) : 0 < listed.toList.count false := by
  refine List.count_pos_iff.2 (List.mem_of_getElem? (i := j) ?_)
  simp only [lst, Array.getD_eq_getD_getElem?] at h
  simp [hj] at h ⊢; exact h
theorem unset_at {listed : Array Bool} {i : Nat} (hi : i < listed.size) (h0 : lst listed i = false) : listed.toList[i]? = some false := by
  simp only [lst, Array.getD_eq_getD_getElem?] at h0
  simp [hi] at h0 ⊢; exact h0
theorem tail_any {Γ : Hook} (hΓ : HookOK P Γ) {ops : Array Oper} {Q : Exit → Act → World → Prop} {β : Base} {d0 : List Deferred} {K : List SV → List Res → Prop}
    (hQ : ∀ σ' m' ε' a' w', K σ' m' → Inv β ε' m' w' → SlotsOK ε' σ' a' → a'.defers = d0 → Q .normal a' w') (hgd : ∀ o ∈ ops.toList, o.guard = none) {g : Nat}
    (hb : ∀ (j : Nat) (o : Oper), ops.toList[j]? = some o → ∀ e ∈ o.after, Region.binds .any e = true → e.on < j)
    (hbd : ∀ j, g < j → j < ops.size → ∀ i, i < j → ((pres ops.toList []).getD j 0).testBit i = true) :
    ∀ (fuel : Nat) (r : List Oper) (lo : List IOp) (j : Nat) (listed : Array Bool) (σ : List SV) (m : List Res) (ε : Env) (a : Act) (w : World), g < j → ops.toList.drop j = r → listed.size = ops.size → listed.toList.count false ≤ fuel →
      (∀ i, i < ops.size → lst listed i = decide (i < j)) → r.mapM (compOp P ops) = some lo → sops Γ lo K σ m → Inv β ε m w → SlotsOK ε σ a → a.defers = d0 → wpAny P .any ops Q fuel listed a w := by
  intro fuel
  induction fuel with
  | zero =>
    intro r lo j listed σ m ε a w hgj hr hsz hc hl hlo h hI hs hd
    have hnil : r = [] := by
      rw [← hr]
      refine List.drop_eq_nil_of_le (Nat.le_of_not_lt fun hlt => ?_)
      have hlt : j < ops.size := by simpa using hlt
      have := count_zero (listed := listed) (j := j) (by omega) (by rw [hl j hlt]; simp)
      omega
    subst hnil
    simp at hlo; subst hlo
    refine ⟨?_, hQ σ m ε a w h hI hs hd⟩
    refine List.eq_nil_iff_forall_not_mem.2 fun i hi => ?_
    have hlt := ready_lt hi
    have h0 := (mem_ready.1 hi).1
    rw [getD_tf (by omega)] at h0
    have := count_zero (listed := listed) (j := i) (by omega) h0
    omega
  | succ fuel ih =>
    intro r lo j listed σ m ε a w hgj hr hsz hc hl hlo h hI hs hd
    have hcl : Closed ops.toList (lst listed) := by
      intro i o ho hi e he hbb
      have hio : i < ops.size := by
        have := (List.getElem?_eq_some_iff.1 ho).1; simpa using this
      rw [hl i hio] at hi
      have := hb i o ho e he hbb
      rw [hl e.on (by omega)]
      simp only [decide_eq_true_eq] at hi ⊢
      omega
    cases r with
    | nil =>
      simp at hlo; subst hlo
      refine ⟨fun _ => hQ σ m ε a w h hI hs hd, fun i hi => ?_⟩
      have hlt := ready_lt hi
      have h0 := (mem_ready.1 hi).1
      rw [getD_tf (by omega)] at h0
      have h1 := hl i hlt
      have h0 : lst listed i = false := h0
      rw [h0] at h1
      have hle := List.drop_eq_nil_iff.1 hr
      simp at h1 hle
      omega
    | cons o r =>
      have hjl : j < ops.size := by
        refine Nat.lt_of_not_le fun hle => ?_
        rw [List.drop_eq_nil_of_le (by simpa using hle)] at hr; cases hr
      have hoj : ops.toList[j]? = some o := by
        have := congrArg (fun l : List Oper => l[0]?) hr
        simpa using this
      have hr' : ops.toList.drop (j + 1) = r := by
        have := congrArg List.tail hr
        simpa using this
      have only : ∀ i ∈ Region.ready .any ops listed, i = j := by
        intro i hi
        have hlt := ready_lt hi
        obtain ⟨h0, oi, hoi, hall⟩ := mem_ready.1 hi
        rw [getD_tf (by omega)] at h0
        have h0 : lst listed i = false := h0
        rw [hl i hlt] at h0
        simp only [decide_eq_false_iff_not] at h0
        refine Nat.le_antisymm (Nat.le_of_not_lt fun hji => ?_) (Nat.le_of_not_lt h0)
        have := pres_ok hcl ops.toList [] (fun k => by simp) (fun k o' _ hk => absurd hk (Nat.not_lt_zero _)) i oi (by simpa using hoi) (by simpa using hlt) hall j (hbd i (by omega) hlt j hji)
        rw [hl j hjl] at this
        simp at this
      refine ⟨fun hre => ?_, fun i hi => ?_⟩
      · have := done_all hsz hb hre j hjl
        rw [hl j hjl] at this
        simp at this
      · obtain rfl := only i hi
        simp only [List.mapM_cons, bind, Option.pure_def] at hlo
        obtain ⟨io, ho, hlo⟩ := bind_some hlo
        obtain ⟨lo', hlo', hlo⟩ := bind_some hlo
        simp only [Option.some.injEq] at hlo
        subst hlo
        have hgn := hgd o (List.mem_of_getElem? hoj)
        simp only [compOp, hgn, compG] at ho
        split at ho <;> try (cases ho; done)
        rename_i g' x hg' hx
        cases hg'
        simp only [Option.some.injEq] at ho; subst ho
        simp only [sops, guardK] at h
        obtain ⟨σ', sv, m', h2, hE⟩ := opK_sound hΓ hx h
        unfold wpOp
        have hoj' : ops[i]? = some o := by simpa using hoj
        rw [hoj']
        simp only [Region.wanted, hgn, if_true]
        refine .inl (Oper.wp_mono ?_ (hE β ε a w hI hs Q))
        rintro a' w' ⟨v, ε', rfl, hv, hs', hi'⟩
        have hl0 := unset_at (listed := listed) (i := i) (by omega) (by rw [hl i hjl]; simp)
        refine ih r lo' (i + 1) _ _ _ ε' _ w' (by omega) hr' (by simpa using hsz) ?_ (fun k hk => ?_) hlo' h2 hi' (hs'.put hv o.dst) (by rw [put_defers]; exact hd)
        · have := count_set hl0
          rw [Array.toList_setIfInBounds]; omega
        · rw [lst_set (by omega), upd, hl k hk]
          by_cases e : k = i
          · subst e; simp
          · simp only [e, decide_false, Bool.or_false, decide_eq_decide]; omega
theorem put_ne {a : Act} {x : Option Nat} {v : Value} {d : Nat} (h : x ≠ some d) : (a.put x v).tmps.getD d undef = a.tmps.getD d undef := by
  cases x with
  | none => rfl
  | some k =>
    have : k ≠ d := fun e => h (by rw [e])
    simp only [Act.put, Array.getD_eq_getD_getElem?, Array.getElem?_setIfInBounds, if_neg this]
theorem ov_at_none {S : Nat → Bool} {V : Nat → SV} {ios : List IOp} {σ : List SV} {d : Nat} (h : ∀ io ∈ ios, io.dst ≠ some d) : (ov S V ios 0 σ).getD d .junk = σ.getD d .junk :=
  ov_none S V d ios 0 σ fun j io h1 h2 => absurd h2 (h io (List.mem_of_getElem? h1))
theorem ghost_any {Γ : Hook} (hΓ : HookOK P Γ) {quiet : FuncId → Bool} {ops : Array Oper} {g : Nat} {oa : Oper} {post : List Oper} {ios : List IOp} {d : Nat} {T : TypeId} {z : SV} {lo : List IOp}
    (gp : GP P quiet ops g oa post ios d T z lo) {Q : Exit → Act → World → Prop} {β : Base} {d0 : List Deferred} {K : List SV → List Res → Prop}
    (hQ : ∀ σ' m' ε' a' w', K σ' m' → Inv β ε' m' w' → SlotsOK ε' σ' a' → a'.defers = d0 → Q .normal a' w')
    {σ : List SV} {V : Nat → SV} {M : Nat → List Res} (pl : Plan P quiet (ops.toList.take g).toArray ios σ V M) (hj : σ.getD d .junk = .junk) (hdl : d < σ.length)
    (hK : sops Γ lo K ((ov (fun _ => true) V ios 0 σ).set d (.ptr (M ios.length).length [] 0)) (M ios.length ++ [.blk T z])) :
    ∀ (fuel : Nat) (listed : Array Bool) (a : Act) (w : World), listed.size = ops.size → listed.toList.count false ≤ fuel → Closed ops.toList (lst listed) → (∀ j, g < j → lst listed j = false) →
      (∃ βs ε, Inv βs ε (M (top ios (lst listed) ios.length)) w ∧ SlotsOK ε (ov (lst listed) V ios 0 σ) a ∧ a.defers = d0 ∧
        ((lst listed g = false ∧ βs = β) ∨ (lst listed g = true ∧ ∃ b cs, Ghost β βs b T cs ∧ (∀ ε, SatC z ε cs) ∧ a.tmps.getD d undef = .pointer (some ⟨b, 0, none⟩)))) → wpAny P .any ops Q fuel listed a w := by
  have hpl : (ops.toList.take g).length = g := by have := gp.glt; simp; omega
  have hil : ios.length = g := by have := gp.glt; rw [pl.len]; simp; omega
  have hpat : ∀ i, i < g → (ops.toList.take g).toArray[i]? = ops[i]? := fun i hi => by simp [List.getElem?_take, hi]
  have hgat : ops.toList[g]? = some oa := by
    rw [gp.split, List.getElem?_append_right (by rw [hpl]; exact Nat.le_refl _), hpl]; simp
  have hdrop : ops.toList.drop (g + 1) = post := by
    have h1 : ops.toList.drop g = oa :: post := by
      have e := gp.split
      have := congrArg (fun l : List Oper => l.drop g) e
      simp only [List.drop_append, hpl, Nat.sub_self, List.drop_zero] at this
      rw [this, List.drop_eq_nil_of_le (by rw [hpl]; exact Nat.le_refl _)]; rfl
    have := congrArg List.tail h1
    simpa using this
  have hedge : ∀ (j : Nat) (o : Oper), ops.toList[j]? = some o → ∀ e ∈ o.after, Region.binds .any e = true → e.on < j := by
    intro j o ho e he hb
    rcases Nat.lt_or_ge j g with hj | hj
    · have ho' : (ops.toList.take g)[j]? = some o := by rw [List.getElem?_take, if_pos hj]; exact ho
      exact (chk_ok gp.chk).1 j o ho' e he hb
    · exact gp.edge j o hj ho e he hb
  have hoff : ∀ io ∈ ios, io.dst ≠ some d := fun io h => (gp.off io h).1
  have fin : ∀ (fuel : Nat) (listed : Array Bool) (a : Act) (w : World), listed.size = ops.size → listed.toList.count false ≤ fuel → (∀ j, g < j → lst listed j = false) → (∀ j, j ≤ g → lst listed j = true) →
      (∃ βs ε, Inv βs ε (M (top ios (lst listed) ios.length)) w ∧ SlotsOK ε (ov (lst listed) V ios 0 σ) a ∧ a.defers = d0 ∧
        ((lst listed g = false ∧ βs = β) ∨ (lst listed g = true ∧ ∃ b cs, Ghost β βs b T cs ∧ (∀ ε, SatC z ε cs) ∧ a.tmps.getD d undef = .pointer (some ⟨b, 0, none⟩)))) → wpAny P .any ops Q fuel listed a w := by
    rintro fuel listed a w hsz hc hno hall ⟨βs, ε, h1, h2, h3, h4 | ⟨_, b, cs, hgh, hz, ht⟩⟩
    · rw [hall g (Nat.le_refl _)] at h4; cases h4.1
    have e1 : top ios (lst listed) ios.length = top ios (fun _ => true) ios.length := top_congr _ fun k hk _ => hall k (by omega)
    have e2 : ov (lst listed) V ios 0 σ = ov (fun _ => true) V ios 0 σ := ov_congr ios 0 σ fun j hj => by rw [Nat.zero_add]; exact hall j (by omega)
    rw [e1, ← pl.top_M _ (Nat.le_refl _)] at h1
    rw [e2] at h2
    obtain ⟨g1, g2, g3, g4, g5⟩ := hgh.back _ _ _ h1
    have hI := g1.adopt (hz ε) g2 g3 g4 g5
    refine tail_any hΓ hQ gp.gd (g := g) hedge gp.bound fuel post lo (g + 1) listed _ _ _ a w (Nat.lt_succ_self _) hdrop hsz hc (fun i hi => ?_) gp.post hK hI ?_ h3
    · rcases Nat.lt_or_ge g i with h | h
      · rw [hno i h]; symm; rw [decide_eq_false_iff_not]; omega
      · rw [hall i h]; symm; rw [decide_eq_true_eq]; omega
    · have hm := h2.mono (ε.le_more b undef)
      refine ⟨by rw [List.length_set]; exact hm.1, fun k => ?_⟩
      by_cases hk : k = d
      · subst hk
        have hkl : k < (ov (fun _ => true) V ios 0 σ).length := by rw [ov_len]; exact hdl
        have : ((ov (fun _ => true) V ios 0 σ).set k (.ptr (M ios.length).length [] 0)).getD k .junk = .ptr (M ios.length).length [] 0 := by simp [List.getD, hkl]
        rw [this, ht]
        refine ⟨_, by simp only [SatC]; exact ⟨by simp [Env.more, g1.good.n], trivial, rfl⟩, ?_⟩
        simp [boxed, SV.isAgg, Env.more, g1.good.n]
      · have : ((ov (fun _ => true) V ios 0 σ).set d (.ptr (M ios.length).length [] 0)).getD k .junk = (ov (fun _ => true) V ios 0 σ).getD k .junk := by simp [List.getD, List.getElem?_set, Ne.symm hk]
        rw [this]; exact hm.2 k
  intro fuel
  induction fuel with
  | zero =>
    intro listed a w hsz hc hcl hno hJ
    refine fin 0 listed a w hsz hc hno (fun j hj => ?_) hJ
    cases h : lst listed j with
    | true => rfl
    | false =>
      have := count_zero (listed := listed) (j := j) (by have := gp.glt; omega) h
      omega
  | succ fuel ih =>
    intro listed a w hsz hc hcl hno hJ
    by_cases hall : ∀ j, j ≤ g → lst listed j = true
    · exact fin _ listed a w hsz hc hno hall hJ
    simp only [Classical.not_forall] at hall
    obtain ⟨j0, hj0, hnj0⟩ := hall
    refine ⟨fun hr => absurd (done_all hsz hedge hr j0 (by have := gp.glt; omega)) hnj0, fun i hi => ?_⟩
    have hlt := ready_lt hi
    obtain ⟨h0, o, ho, hbe⟩ := mem_ready.1 hi
    rw [getD_tf (by omega)] at h0
    have h0 : lst listed i = false := h0
    have hoL : ops.toList[i]? = some o := by simpa using ho
    have hig : i ≤ g := Nat.le_of_not_lt fun hgi => by
      have := pres_ok hcl ops.toList [] (fun k => by simp) (fun k o' _ hk => absurd hk (Nat.not_lt_zero _)) i o hoL (by simpa using hlt) hbe j0 (gp.bound i hgi hlt j0 (by omega))
      exact hnj0 this
    have hgn := gp.gd o (List.mem_of_getElem? hoL)
    obtain ⟨βs, ε, h1, h2, h3, h4⟩ := hJ
    have hl0 := unset_at (listed := listed) (i := i) (by omega) h0
    have hcount : ∀ fuel, listed.toList.count false ≤ fuel + 1 → (listed.setIfInBounds i true).toList.count false ≤ fuel := by
      intro f hf
      have := count_set hl0
      rw [Array.toList_setIfInBounds]; omega
    have hcl' : Closed ops.toList (lst (listed.setIfInBounds i true)) := by
      rw [lst_set (by omega)]
      exact hcl.upd hoL hbe
    have hno' : ∀ j, g < j → lst (listed.setIfInBounds i true) j = false := by
      intro j hj
      rw [lst_set (by omega), upd, hno j hj]
      simp; omega
    rcases Nat.lt_or_eq_of_le hig with hig | rfl
    · have hop : (ops.toList.take g).toArray[i]? = some o := by rw [hpat i hig]; exact ho
      have hclp : Closed (ops.toList.take g).toArray.toList (lst listed) := by
        intro k o' ho' hk
        rw [List.toList_toArray, List.getElem?_take] at ho'
        split at ho' <;> try (cases ho'; done)
        exact hcl k o' ho' hk
      have hst := Plan.step_ok hΓ pl hclp hop h0 hbe (β := βs) (Q := Q) h1 h2
      have hio : ios[i]? = some (ios[i]'(by omega)) := by simp [show i < ios.length by omega]
      have hdst : o.dst ≠ some d := by
        rw [← (pl.cmp i o _ hop hio).1]
        exact hoff _ (List.getElem_mem _)
      unfold wpOp at hst ⊢
      rw [hop] at hst
      rw [ho]
      simp only [Region.wanted, hgn, if_true] at hst ⊢
      rcases hst with hst | hst
      · refine .inl (Oper.wp_mono ?_ hst)
        rintro a' w' ⟨ε', k1, k2, v, rfl⟩
        refine ih _ _ w' (by simpa using hsz) (hcount fuel hc) hcl' hno' ⟨βs, ε', ?_, ?_, by rw [put_defers]; exact h3, ?_⟩
        · rw [lst_set (by omega)]; exact k1
        · rw [lst_set (by omega)]; exact k2
        · have : lst (listed.setIfInBounds i true) g = lst listed g := by
            rw [lst_set (by omega), upd]
            simp; omega
          rw [this, put_ne hdst]
          exact h4
      · exact .inr hst
    · rw [hgat] at hoL
      cases hoL
      obtain rfl : βs = β := by
        rcases h4 with ⟨_, h4⟩ | ⟨h4, _⟩
        · exact h4
        · rw [h0] at h4; cases h4
      obtain ⟨ti, v, z1, z2, z3⟩ := zok_ok gp.z
      have hr : (execOp a.eval oa).run P w = .ok (.value (.pointer (some ⟨w.heap.size, 0, none⟩))) (w.alloc (.cells v.cells T)) := by
        simp [execOp, gp.op, Instr.alloc, zeroValue, typeInfo, z1, z2, newVar, newRow]
      unfold wpOp
      rw [ho]
      simp only [Region.wanted, hgn, if_true]
      refine .inl ?_
      unfold Oper.wp
      rw [hr, Oper.upon_value, gp.dst]
      obtain ⟨βs, hgh, hI⟩ := ghost_of h1 (T := T) (cs := v.cells.toList)
      rw [Array.toArray_toList] at hI
      have hcg : ∀ j, j < i → lst (listed.setIfInBounds i true) j = lst listed j := by
        intro j hj
        rw [lst_set (by omega), upd]
        simp; omega
      have hjk : (ov (lst listed) V ios 0 σ).getD d .junk = .junk := by rw [ov_at_none hoff]; exact hj
      refine ih _ _ _ (by simpa using hsz) (hcount fuel hc) hcl' hno' ⟨βs, ε, ?_, ?_, by rw [put_defers]; exact h3, .inr ⟨?_, _, _, hgh, z3, ?_⟩⟩
      · have e1 : top ios (lst (listed.setIfInBounds i true)) ios.length = top ios (lst listed) ios.length := top_congr _ (fun k hk _ => hcg k (by omega))
        rw [e1]; exact hI
      · have e2 : ov (lst (listed.setIfInBounds i true)) V ios 0 σ = ov (lst listed) V ios 0 σ := ov_congr ios 0 σ (fun k hk => by rw [Nat.zero_add]; exact hcg k (by omega))
        rw [e2]
        refine ⟨by simp [Act.put]; exact h2.1, fun k => ?_⟩
        by_cases hk : k = d
        · subst hk; rw [hjk]; trivial
        · rw [put_ne (by intro h; exact hk (Option.some.inj h).symm)]; exact h2.2 k
      · rw [lst_set (by omega), upd]; simp
      · have hds : d < a.tmps.size := by
          have := h2.1
          rw [ov_len] at this; omega
        simp [Act.put, Array.getD_eq_getD_getElem?, hds]
theorem gops_any {Γ : Hook} (hΓ : HookOK P Γ) {quiet : FuncId → Bool} {ops : Array Oper} {l : List IOp} {d : Nat} {T : TypeId} {z : SV} {lo : List IOp} (hc : compGh P quiet ops = some (l, d, T, z, lo)) {Q : Exit → Act → World → Prop} {β : Base} {d0 : List Deferred}
    {σ : List SV} {m : List Res} {K : List SV → List Res → Prop} (hdl : d < σ.length) (h : dsops Γ l (fun σ' m' => sops Γ lo K (σ'.set d (.ptr m'.length [] 0)) (m' ++ [.blk T z])) (σ.set d .junk) m)
    (hQ : ∀ σ' m' ε' a' w', K σ' m' → Inv β ε' m' w' → SlotsOK ε' σ' a' → a'.defers = d0 → Q .normal a' w')
    {ε : Env} {a : Act} {w : World} (hI : Inv β ε m w) (hs : SlotsOK ε σ a) (hd : a.defers = d0) : wpAny P .any ops Q ops.size (Array.replicate ops.size false) a { w with drawn := w.drawn + 1 } := by
  obtain ⟨g, oa, post, ios, gp, rfl⟩ := compGh_ok hc
  have hpre : (ops.toList.take g).toArray.toList.mapM (compD P quiet (ops.toList.take g).toArray) = some ios := by
    rw [List.toList_toArray, ← gp.pre]
    refine mapM_congr fun o ho => ?_
    have hgn := gp.gd o (List.mem_of_mem_take ho)
    simp only [compD, compOp, hgn, compG]
  obtain ⟨V, M, pl, hM0, hK⟩ := plan_of hΓ hpre (by rw [List.toList_toArray]; exact gp.chk) (by rw [List.toList_toArray]; exact h)
  have hj : (σ.set d .junk).getD d .junk = .junk := by simp [List.getD, hdl]
  refine ghost_any hΓ gp hQ pl hj (by rw [List.length_set]; exact hdl) hK ops.size _ a _ (by simp) (by simp) ?_ ?_ ?_
  · intro i o _ hi
    simp [lst, Array.getD_eq_getD_getElem?, Array.getElem?_replicate] at hi
    split at hi <;> cases hi
  · intro j _
    simp only [lst, Array.getD_eq_getD_getElem?, Array.getElem?_replicate]
    split <;> rfl
  · have hno : ∀ j, lst (Array.replicate ops.size false) j = false := by
      intro j
      simp only [lst, Array.getD_eq_getD_getElem?, Array.getElem?_replicate]
      split <;> rfl
    have e1 : top ios (lst (Array.replicate ops.size false)) ios.length = 0 := by
      rw [top_cut (i := 0) _ (Nat.zero_le _) (fun k _ _ _ => hno k)]; rfl
    rw [e1, ov_none_all _ _ _ (fun j _ => hno _), hM0]
    refine ⟨β, ε, hI.drew, ⟨by rw [List.length_set]; exact hs.1, fun k => ?_⟩, hd, .inl ⟨hno g, rfl⟩⟩
    by_cases hk : k = d
    · subst hk; rw [hj]; trivial
    · have : (σ.set d .junk).getD k .junk = σ.getD k .junk := by simp [List.getD, List.getElem?_set, Ne.symm hk]
      rw [this]; exact hs.2 k
theorem gops_sound2 {Γ : Hook} (hΓ : HookOK P Γ) (hmx : P.follows .mixedOrders = true) {quiet : FuncId → Bool} {id : Nat} {ops : Array Oper} {ord : List Nat} {l : List IOp} {d : Nat} {T : TypeId} {z : SV} {lo : List IOp} (hpo : permOk ops ord = true) (hc : compGh P quiet (permOps ops ord) = some (l, d, T, z, lo)) {Q : Exit → Act → World → Prop} {β : Base} {d0 : List Deferred}
    {σ : List SV} {m : List Res} {K : List SV → List Res → Prop} (hdl : d < σ.length) (h : dsops Γ l (fun σ' m' => sops Γ lo K (σ'.set d (.ptr m'.length [] 0)) (m' ++ [.blk T z])) (σ.set d .junk) m)
    (hQ : ∀ σ' m' ε' a' w', K σ' m' → Inv β ε' m' w' → SlotsOK ε' σ' a' → a'.defers = d0 → Q .normal a' w')
    {ε : Env} {a : Act} {w : World} (hI : Inv β ε m w) (hs : SlotsOK ε σ a) (hd : a.defers = d0) : (Code.region id ops true).wp P Q a w := by
  have hp := permOk_ok hpo
  refine wp_region_any hmx (hp.any _ _ (Array.replicate ops.size false) a _ (by simp) (by simp) (fun j hj => ?_) ?_)
  · have hno : ∀ j, lst (Array.replicate ops.size false) j = false := by
      intro j
      simp only [lst, Array.getD_eq_getD_getElem?, Array.getElem?_replicate]
      split <;> rfl
    rw [hno, hno]
  · have := gops_any hΓ hc hdl h hQ hI hs hd
    rwa [hp.size] at this
end Go.Sx
/-! Sx, part 13r: renaming what is owned; bringing a moved slice home. -/
set_option linter.unusedSimpArgs false
set_option linter.unusedVariables false
namespace Go.Sx
open Go

variable {P : Program}

def renI (r : Nat → Option Nat) (i : Nat) (f : Nat → SV) : SV := match r i with
  | some j => f j
  | none => .junk

mutual
def ren (r : Nat → Option Nat) : SV → SV
  | .vec j n => renI r j fun k => .vec k n
  | .pvec j n => renI r j fun k => .pvec k n
  | .vptr j a p o => renI r j fun k => .vptr k a p o
  | .ptr j p o => renI r j fun k => .ptr k p o
  | .map j => renI r j .map
  | .arr n w f => .arr n w fun k => ren r (f k)
  | .agg l => .agg (renL r l)
  | .tup l => .tup (renL r l)
  | .fn f l => .fn f (renL r l)
  | .iface t x => .iface t (ren r x)
  | c => c
def renL (r : Nat → Option Nat) : List SV → List SV
  | [] => []
  | x :: l => ren r x :: renL r l
end

def renR (r : Nat → Option Nat) : Res → Res
  | .dead => .dead
  | .blk T c => .blk T (ren r c)
  | .vec T w l => .vec T w (renL r l)
  | .mp ek ev l => .mp ek ev l

structure RenOK (r : Nat → Option Nat) (ε ε' : Env) : Prop where
  ids : ∀ i, i < ε.n → ∀ j, r i = some j → j < ε'.n ∧ ε'.blk j = ε.blk i ∧ ε'.vv j = ε.vv i
  H : ∀ b o, ε.H b = some o → ε'.H b = some o

theorem RenOK.cl {r : Nat → Option Nat} {ε ε' : Env} (h : RenOK r ε ε') : ε.cl.Le ε'.cl := ⟨Nat.le_refl _, fun _ hi => absurd hi (Nat.not_lt_zero _), fun _ hi => absurd hi (Nat.not_lt_zero _), h.H⟩

theorem renL_length (r : Nat → Option Nat) : ∀ l : List SV, (renL r l).length = l.length
  | [] => rfl
  | _ :: l => by simp [renL, renL_length r l]

theorem renL_getD (r : Nat → Option Nat) : ∀ (l : List SV) (j : Nat), (renL r l).getD j .junk = ren r (l.getD j .junk)
  | [], j => by simp [renL, ren]
  | x :: l, 0 => by simp [renL]
  | x :: l, j + 1 => by simp only [renL, List.getD_cons_succ]; exact renL_getD r l j

theorem ren_isAgg (r : Nat → Option Nat) (c : SV) : (ren r c).isAgg = c.isAgg := by
  cases c <;> simp only [ren, renI] <;> first | rfl | (split <;> rfl)

theorem junkOf {c : SV} {ε ε' : Env} {cs : List Value} (h : SatC c ε cs) (hc : wd c = 1) : SatC .junk ε' cs := by
  have h1 := SatC.length c h
  rw [hc] at h1
  match cs, h1 with
  | [v], _ => simp only [SatC]; exact ⟨v, SatC.one c h v (by simp), rfl⟩

mutual
theorem SatC.ren (r : Nat → Option Nat) : ∀ (c : SV) {ε ε' : Env} {cs : List Value}, RenOK r ε ε' → SatC c ε cs → SatC (ren r c) ε' cs
  | .int .., _, _, _, _, h => h
  | .bool .., _, _, _, _, h => h
  | .str .., _, _, _, _, h => h
  | .arr n w f, _, _, _, hl, h => by
    simp only [Sx.ren, SatC] at h ⊢
    exact ⟨h.1, fun j hj => SatC.ren r (f j) hl (h.2 j hj)⟩
  | .agg l, _, _, _, hl, h => by simp only [Sx.ren, SatC] at h ⊢; exact SatL.ren r l hl h
  | .tup _, _, _, _, _, h => by simp only [SatC] at h
  | .lst w d f l, _, _, _, hl, h => by
    simp only [Sx.ren, SatC] at h ⊢
    obtain ⟨ao, cap, h1, h2, h3, h4, h5⟩ := h
    refine ⟨ao, cap, h1, h2, h3, h4, fun i hi => ?_⟩
    obtain ⟨b, off, T, fz, cur, e1, e2, e3, e4⟩ := h5 i hi
    exact ⟨b, off, T, fz, cur, e1, hl.H _ _ e2, e3, SatC.mono (f (l.getD i d)) hl.cl e4⟩
  | .lit w d f l, _, _, _, hl, h => by
    simp only [Sx.ren, SatC] at h ⊢
    obtain ⟨ao, h1, h3, h4, h5⟩ := h
    refine ⟨ao, h1, h3, h4, fun i hi => ?_⟩
    obtain ⟨b, off, T, fz, cur, e1, e2, e3, e4⟩ := h5 i hi
    exact ⟨b, off, T, fz, cur, e1, hl.H _ _ e2, e3, SatC.mono (f (l.getD i d)) hl.cl e4⟩
  | .eptr w d f l i p o, _, _, _, hl, h => by
    simp only [Sx.ren, SatC] at h ⊢
    obtain ⟨b, off, T, fz, cur, h1, h2, h3, h4, h5, h6⟩ := h
    exact ⟨b, off, T, fz, cur, h1, h2, hl.H _ _ h3, h4, h5, SatC.mono (f (l.getD i d)) hl.cl h6⟩
  | .ref c p o, _, _, _, hl, h => by
    simp only [Sx.ren, SatC] at h ⊢
    obtain ⟨b, T, fz, cur, h1, h2, h3, h4⟩ := h
    exact ⟨b, T, fz, cur, h1, hl.H _ _ h2, h3, SatC.mono c hl.cl h4⟩
  | .ptr j p o, _, _, _, hl, h => by
    simp only [Sx.ren, renI]
    split
    · rename_i k hk
      simp only [SatC] at h ⊢
      obtain ⟨i1, i2, i3⟩ := hl.ids j h.1 k hk
      exact ⟨i1, h.2.1, by rw [i2]; exact h.2.2⟩
    · exact junkOf h rfl
  | .vec j n, _, _, _, hl, h => by
    simp only [Sx.ren, renI]
    split
    · rename_i k hk
      simp only [SatC] at h ⊢
      obtain ⟨i1, i2, i3⟩ := hl.ids j h.1 k hk
      exact ⟨i1, by rw [i3]; exact h.2⟩
    · exact junkOf h rfl
  | .pvec j n, _, _, _, hl, h => by
    simp only [Sx.ren, renI]
    split
    · rename_i k hk
      simp only [SatC] at h ⊢
      obtain ⟨i1, i2, i3⟩ := hl.ids j h.1 k hk
      exact ⟨i1, by rw [i3]; exact h.2⟩
    · exact junkOf h rfl
  | .vptr j a p o, _, _, _, hl, h => by
    simp only [Sx.ren, renI]
    split
    · rename_i k hk
      simp only [SatC] at h ⊢
      obtain ⟨i1, i2, i3⟩ := hl.ids j h.1 k hk
      exact ⟨i1, h.2.1, by rw [i3]; exact h.2.2⟩
    · exact junkOf h rfl
  | .map j, _, _, _, hl, h => by
    simp only [Sx.ren, renI]
    split
    · rename_i k hk
      simp only [SatC] at h ⊢
      obtain ⟨i1, i2, i3⟩ := hl.ids j h.1 k hk
      exact ⟨i1, by rw [i2]; exact h.2⟩
    · exact junkOf h rfl
  | .fn f cap, _, _, _, hl, h => by
    simp only [Sx.ren, SatC] at h ⊢
    obtain ⟨vs, h1, h2⟩ := h
    exact ⟨vs, SatA.ren r cap hl h1, h2⟩
  | .iface t x, _, _, _, hl, h => by
    simp only [Sx.ren, SatC, ren_isAgg] at h ⊢
    obtain ⟨xs, h1, h2⟩ := h
    exact ⟨xs, SatC.ren r x hl h1, h2⟩
  | .nils, _, _, _, _, h => h
  | .nili, _, _, _, _, h => h
  | .nilf, _, _, _, _, h => h
  | .nilp, _, _, _, _, h => h
  | .nilm, _, _, _, _, h => h
  | .anyb, _, _, _, _, h => h
  | .raw _, _, _, _, _, h => h
  | .junk, _, _, _, _, h => h
theorem SatL.ren (r : Nat → Option Nat) : ∀ (l : List SV) {ε ε' : Env} {cs : List Value}, RenOK r ε ε' → SatL l ε cs → SatL (renL r l) ε' cs
  | [], _, _, _, _, h => h
  | x :: l, _, _, _, hl, h => by
    simp only [renL, SatL] at h ⊢
    obtain ⟨a, b, h1, h2, h3⟩ := h
    exact ⟨a, b, h1, SatC.ren r x hl h2, SatL.ren r l hl h3⟩
theorem SatA.ren (r : Nat → Option Nat) : ∀ (l : List SV) {ε ε' : Env} {vs : List Value}, RenOK r ε ε' → SatA l ε vs → SatA (renL r l) ε' vs
  | [], _, _, _, _, h => h
  | x :: l, _, _, _, hl, h => by
    simp only [renL, SatA, ren_isAgg] at h ⊢
    obtain ⟨cs, t, h1, h2, h3⟩ := h
    exact ⟨cs, t, h1, SatC.ren r x hl h2, SatA.ren r l hl h3⟩
end

theorem SatV.ren {r : Nat → Option Nat} {x : SV} {ε ε' : Env} {v : Value} (hl : RenOK r ε ε') (h : SatV ε x v) : SatV ε' (Sx.ren r x) v := by
  by_cases hv : x.isVal = true
  · obtain ⟨cs, h1, h2⟩ := sat_val h hv
    have h3 := satC_sat (SatC.ren r x hl h1)
    rw [ren_isAgg] at h3
    rw [h2]; exact h3
  · cases x <;> first
      | exact absurd rfl hv
      | (obtain ⟨vs, h1, h2⟩ := h; exact ⟨vs, SatA.ren r _ hl h1, h2⟩)
      | trivial

theorem SlotsOK.ren {r : Nat → Option Nat} {ε ε' : Env} {σ : List SV} {a : Act} (hl : RenOK r ε ε') (h : SlotsOK ε σ a) : SlotsOK ε' (renL r σ) a :=
  ⟨by rw [renL_length]; exact h.1, fun k => by rw [renL_getD]; exact (h.2 k).ren hl⟩

theorem ResOK.ren {r : Nat → Option Nat} {ε ε' : Env} {w : World} {i j : Nat} {x : Res} (hl : RenOK r ε ε') (hb : ε'.blk j = ε.blk i) (hv : ε'.vv j = ε.vv i) (h : ResOK ε i w x) : ResOK ε' j w (renR r x) := by
  cases x with
  | dead => trivial
  | blk T c =>
    obtain ⟨cs, h1, h2⟩ := h
    exact ⟨cs, by rw [hb]; exact h1, SatC.ren r c hl h2⟩
  | vec T w' l =>
    obtain ⟨xs, h1, h2⟩ := h
    refine ⟨xs, by rw [renL_length, hv]; exact h1, fun k hk => ?_⟩
    rw [renL_length] at hk
    rw [renL_getD]
    exact SatC.ren r _ hl (h2 k hk)
  | mp ek ev l =>
    obtain ⟨es, cl, h1, h2⟩ := h
    exact ⟨es, cl, by rw [hb]; exact h1, h2⟩

theorem ownR_ren {r : Nat → Option Nat} {ε ε' : Env} {i j : Nat} {x : Res} (hb : ε'.blk j = ε.blk i) (hv : ε'.vv j = ε.vv i) : ownR ε' j (renR r x) = ownR ε i x := by
  cases x <;> simp [renR, ownR, hb, hv]

def selE (ks : List Nat) (ε : Env) : Env := { n := ks.length, blk := fun j => ε.blk (ks.getD j 0), vv := fun j => ε.vv (ks.getD j 0), H := ε.H }
def selI (ks : List Nat) (i : Nat) : Option Nat := if ks.contains i then some (ks.idxOf i) else none
def selM (ks : List Nat) (m : List Res) : List Res := ks.map fun k => renR (selI ks) (memAt m k)

theorem sel_ren (ks : List Nat) (ε : Env) : RenOK (selI ks) ε (selE ks ε) := by
  refine ⟨fun i _ j hj => ?_, fun _ _ h => h⟩
  unfold selI at hj
  split at hj <;> try (cases hj; done)
  rename_i hc
  have hm : i ∈ ks := by simpa using hc
  simp only [Option.some.injEq] at hj
  subst hj
  have hlt := List.idxOf_lt_length_of_mem hm
  have : ks.getD (ks.idxOf i) 0 = i := by simp [List.getD, hlt]
  exact ⟨hlt, by simp only [selE, this], by simp only [selE, this]⟩

theorem selM_at {ks : List Nat} {m : List Res} {j : Nat} (h : j < ks.length) : memAt (selM ks m) j = renR (selI ks) (memAt m (ks.getD j 0)) := by
  simp [memAt, selM, List.getD, h]

theorem Good.sel {ε : Env} {m : List Res} {w : World} (g : Good ε m w) (ks : List Nat) (hn : ks.Nodup) : Good (selE ks ε) (selM ks m) w := by
  have hown : ∀ j, j < ks.length → ownR (selE ks ε) j (memAt (selM ks m) j) = ownR ε (ks.getD j 0) (memAt m (ks.getD j 0)) := fun j hj => by rw [selM_at hj]; exact ownR_ren rfl rfl
  have hlen : (selM ks m).length = ks.length := by simp [selM]
  have hcase : ∀ j b, ownR (selE ks ε) j (memAt (selM ks m) j) = some b → j < ks.length ∧ ownR ε (ks.getD j 0) (memAt m (ks.getD j 0)) = some b := by
    intro j b hb
    rcases Nat.lt_or_ge j ks.length with hj | hj
    · exact ⟨hj, by rw [← hown j hj]; exact hb⟩
    · rw [memAt_ge (by omega)] at hb; cases hb
  refine ⟨by simp [selE, selM], fun j => ?_, fun i j b hij h1 h2 => ?_, fun i b hb => ?_, fun b o hb => g.hv b o hb⟩
  · rcases Nat.lt_or_ge j ks.length with hj | hj
    · rw [selM_at hj]
      exact ResOK.ren (sel_ren ks ε) rfl rfl (g.res _)
    · rw [memAt_ge (by omega)]; trivial
  · obtain ⟨hi, h1'⟩ := hcase i b h1
    obtain ⟨hj, h2'⟩ := hcase j b h2
    refine g.disj _ _ b (fun e => hij ?_) h1' h2'
    have e1 : ks.getD i 0 = ks[i] := by simp [List.getD, hi]
    have e2 : ks.getD j 0 = ks[j] := by simp [List.getD, hj]
    rw [e1, e2] at e
    have hp := List.pairwise_iff_getElem.1 hn
    rcases Nat.lt_trichotomy i j with h | h | h
    · exact absurd e (hp i j hi hj h)
    · exact h
    · exact absurd e.symm (hp j i hj hi h)
  · exact g.sep _ b (hcase i b hb).2

theorem Inv.sel {β : Base} {ε : Env} {m : List Res} {w : World} (h : Inv β ε m w) (ks : List Nat) (hn : ks.Nodup) (h0 : ∀ i, i < β.ε.n → ks[i]? = some i) : Inv β (selE ks ε) (selM ks m) w := by
  have hlen : (selM ks m).length = ks.length := by simp [selM]
  refine ⟨h.good.sel ks hn, ⟨h.kept.os, h.kept.tape, h.kept.output, h.kept.size, h.kept.heap, h.kept.H, h.kept.fresh, h.kept.drawn⟩, fun i b hb => ?_, ?_, fun i hi => ?_, fun i hi hv => ?_⟩
  · rcases Nat.lt_or_ge i ks.length with hi | hi
    · rw [selM_at hi, ownR_ren (ε := ε) (ε' := selE ks ε) (i := ks.getD i 0) (j := i) rfl rfl] at hb; exact h.own _ b hb
    · rw [memAt_ge (by omega)] at hb; cases hb
  · rcases Nat.eq_zero_or_pos β.ε.n with hz | hz
    · omega
    · have := h0 (β.ε.n - 1) (by omega)
      have hlt := (List.getElem?_eq_some_iff.1 this).1
      show β.ε.n ≤ ks.length
      omega
  · have := h0 i hi
    have : ks.getD i 0 = i := by simp [List.getD, this]
    show ε.blk (ks.getD i 0) = _
    rw [this]; exact h.blk i hi
  · have h1 := h0 i hi
    have hlt := (List.getElem?_eq_some_iff.1 h1).1
    have : ks.getD i 0 = i := by simp [List.getD, h1]
    rw [selM_at hlt, this] at hv
    show ε.vv (ks.getD i 0) = _
    rw [this]
    refine h.vv i hi ?_
    cases hmj : memAt m i <;> rw [hmj] at hv <;> first | rfl | exact hv


/-! ### A slice that an append has moved, brought home -/
def goneAt : List Res → List Res → Nat → Option Nat
  | x :: m, y :: m', k => match x, y with
    | .dead, _ => goneAt m m' (k + 1)
    | _, .dead => some k
    | _, _ => goneAt m m' (k + 1)
  | _, _, _ => none

theorem goneAt_ge : ∀ (m m' : List Res) (k i : Nat), goneAt m m' k = some i → k ≤ i ∧ i < k + m.length
  | [], _, _, _, h => by simp [goneAt] at h
  | _ :: _, [], _, _, h => by simp [goneAt] at h
  | x :: m, y :: m', k, i, h => by
    simp only [goneAt] at h
    have go : goneAt m m' (k + 1) = some i → k ≤ i ∧ i < k + (x :: m).length := fun h => by
      have := goneAt_ge m m' (k + 1) i h
      simp only [List.length_cons]; omega
    split at h
    · exact go h
    · simp only [Option.some.injEq] at h; subst h
      simp only [List.length_cons]; omega
    · exact go h

theorem range_set_nodup {n i : Nat} (_ : i < n) : ((List.range n).set i n).Nodup := by
  refine List.pairwise_iff_getElem.2 fun a b ha hb hab => ?_
  simp only [List.length_set, List.length_range] at ha hb
  simp only [List.getElem_set, List.getElem_range]
  split <;> split <;> omega

end Go.Sx
/-! Sx, part 13c: code. -/
set_option linter.unusedSimpArgs false
set_option linter.unusedVariables false
namespace Go.Sx
open Go

variable {P : Program}

inductive IC : Type 1 where
  | skip
  | ops (l : List IOp)
  | dops (l : List IOp)
  | gops (l : List IOp) (d : Nat) (T : TypeId) (z : SV) (lo : List IOp)
  | seq (a b : IC)
  | cond (x : Opd) (a b : IC)
  | block (id : Nat) (c : IC)
  | loop (c : IC)
  | exit (id : Nat)
  | ret

inductive Ex where
  | norm
  | exit (id : Nat)
  | ret

def ExRel : Exit → Ex → Prop
  | .normal, .norm => True
  | .exit i, .exit j => i = j
  | .ret, .ret => True
  | _, _ => False

def Weak (σ : List SV) (m : List Res) (σ' : List SV) (m' : List Res) : Prop :=
  ∀ β ε a w, Inv β ε m w → SlotsOK ε σ a → ∃ ε', Inv β ε' m' w ∧ SlotsOK ε' σ' a

def compR (P : Program) (quiet : FuncId → Bool) (ops : Array Oper) : Option IC := match ops.toList.mapM (compD P (quiet2 quiet) ops) with
  | some ios0 => match (permOps ops (ordGo ops ios0 ops.size [])).toList.mapM (compD P (quiet2 quiet) (permOps ops (ordGo ops ios0 ops.size []))) with
    | some ios => if permOk ops (ordGo ops ios0 ops.size []) && chk (permOps ops (ordGo ops ios0 ops.size [])).toList ios && P.follows .mixedOrders then some (.dops (aug (permOps ops (ordGo ops ios0 ops.size [])).toList ios)) else
      match compGh P (quiet2 quiet) (permOps ops (ordGo ops ios0 ops.size [])) with
      | some (l, d, T, z, lo) => if permOk ops (ordGo ops ios0 ops.size []) && P.follows .mixedOrders then some (.gops l d T z lo) else none
      | none => none
    | none => none
  | none => none
theorem compR_dops {quiet : FuncId → Bool} {ops : Array Oper} {ic : IC} (h : compR P quiet ops = some ic) : (∃ l, ic = .dops l) ∨ ∃ l d T z lo, ic = .gops l d T z lo := by
  unfold compR at h
  split at h <;> try (cases h; done)
  split at h <;> try (cases h; done)
  split at h
  · exact .inl ⟨_, (Option.some.inj h).symm⟩
  · split at h <;> try (cases h; done)
    split at h <;> try (cases h; done)
    exact .inr ⟨_, _, _, _, _, (Option.some.inj h).symm⟩
def comp (P : Program) (quiet : FuncId → Bool) : Code → Option IC
  | .skip => some .skip
  | .region _ ops draw => if draw then match ops.toList.mapM (compD P quiet ops) with
      | some ios => if chk ops.toList ios && P.follows .mixedOrders then some (.dops (aug ops.toList ios)) else compR P quiet ops
      | none => none
    else (ops.toList.mapM (compOp P ops)).map .ops
  | .seq a b => match comp P quiet a, comp P quiet b with
    | some a, some b => some (.seq a b)
    | _, _ => none
  | .cond x a b => match compO x, comp P quiet a, comp P quiet b with
    | some x, some a, some b => some (.cond x a b)
    | _, _, _ => none
  | .block id c => (comp P quiet c).map (.block id)
  | .loop c => (comp P quiet c).map .loop
  | .exit id => some (.exit id)
  | .ret => some .ret
  | _ => none

def Ends (β : Base) (d : List Deferred) (Q : Ex → List SV → List Res → Prop) (e : Exit) (a : Act) (w : World) : Prop :=
  ∃ ex σ m ε, ExRel e ex ∧ Q ex σ m ∧ Inv β ε m w ∧ SlotsOK ε σ a ∧ a.defers = d

theorem Ends.mono {β : Base} {d : List Deferred} {Q Q' : Ex → List SV → List Res → Prop} {e : Exit} {a : Act} {w : World} (h : ∀ ex σ m, Q ex σ m → Q' ex σ m) (hh : Ends β d Q e a w) : Ends β d Q' e a w := by
  obtain ⟨ex, σ, m, ε, h1, h2, h3⟩ := hh
  exact ⟨ex, σ, m, ε, h1, h _ _ _ h2, h3⟩

end Go.Sx
