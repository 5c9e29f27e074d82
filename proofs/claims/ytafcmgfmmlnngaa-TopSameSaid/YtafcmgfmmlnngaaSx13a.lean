import Derived.Test.YtafcmgfmmlnngaaSx12
/-! Sx, part 13: regions in the order of the text; code. -/
set_option linter.unusedSimpArgs false
set_option linter.unusedVariables false
namespace Go.Sx
open Go

variable {P : Program}

def guardK (g : Option (Nat × Bool)) (σ : List SV) (A B : List SV → Prop) : Prop :=
  match g with
  | none => A σ
  | some (s, want) => match σ.getD s .junk with
    | .bool b => (b = want → A (σ.set s (.bool want))) ∧ (b = (!want) → B (σ.set s (.bool (!want))))
    | .tup [] => B σ
    | _ => False

def opK (Γ : Hook) (σ : List SV) (m : List Res) (K : List SV → SV → List Res → Prop) : IO1 → Prop
  | .p p => popK σ (fun sv => K σ sv m) p
  | .e e => eopK Γ σ m K e

def putS (d : Option Nat) (sv : SV) (σ : List SV) : List SV := match d with
  | none => σ
  | some d => σ.set d sv

def sops (Γ : Hook) : List IOp → (List SV → List Res → Prop) → List SV → List Res → Prop
  | [], K, σ, m => K σ m
  | o :: r, K, σ, m => guardK o.guard σ (fun σ1 => opK Γ σ1 m (fun σ' sv m' => sops Γ r K (putS o.dst sv σ') m') o.op) (fun σ1 => sops Γ r K (putS o.dst (.tup []) σ1) m)

def compG (ops : Array Oper) : Option (Nat × Bool) → Option (Option (Nat × Bool))
  | none => some none
  | some (j, want) => match (ops[j]?).bind (·.dst) with
    | some d => some (some (d, want))
    | none => none

def comp1 (P : Program) (o : Op) : Option IO1 := match compP P o with
  | some p => some (.p p)
  | none => (compE P o).map .e

def compOp (P : Program) (ops : Array Oper) (o : Oper) : Option IOp := match compG ops o.guard, comp1 P o.op with
  | some g, some x => some ⟨o.dst, g, x⟩
  | _, _ => none

theorem SlotsOK.put {ε : Env} {σ : List SV} {a : Act} {sv : SV} {v : Value} (h : SlotsOK ε σ a) (hv : SatV ε sv v) (d : Option Nat) : SlotsOK ε (putS d sv σ) (a.put d v) := by
  cases d with
  | none => exact h
  | some d =>
    refine ⟨by simp [putS, Act.put, h.1], fun k => ?_⟩
    have h1 := h.1
    simp only [putS, Act.put]
    by_cases hk : d = k
    · subst hk
      by_cases hd : d < σ.length
      · have hd' : d < a.tmps.size := by omega
        have e1 : (σ.set d sv).getD d .junk = sv := by simp [List.getD, hd]
        have e2 : (a.tmps.setIfInBounds d v).getD d undef = v := by simp [Array.getD, hd']
        rw [e1, e2]; exact hv
      · have e1 : (σ.set d sv).getD d .junk = .junk := by simp [List.getD, hd]
        rw [e1]; trivial
    · have e1 : (σ.set d sv).getD k .junk = σ.getD k .junk := by simp [List.getD, hk]
      have e2 : (a.tmps.setIfInBounds d v).getD k undef = a.tmps.getD k undef := by
        simp only [Array.getD_eq_getD_getElem?, Array.getElem?_setIfInBounds, if_neg hk]
      rw [e1, e2]; exact h.2 k

theorem put_defers (a : Act) (d : Option Nat) (v : Value) : (a.put d v).defers = a.defers := by cases d <;> rfl

/-- A slot that holds a truth value, now that it is known. -/
theorem SlotsOK.known {ε : Env} {σ : List SV} {a : Act} (h : SlotsOK ε σ a) {s : Nat} {b : Bool} (hb : σ.getD s .junk = .bool b) : SlotsOK ε (σ.set s (.bool b)) a := by
  refine ⟨by simp [h.1], fun k => ?_⟩
  by_cases hk : s = k
  · subst hk
    have : (σ.set s (.bool b)).getD s .junk = σ.getD s .junk ∨ (σ.set s (.bool b)).getD s .junk = .junk := by
      by_cases hs : s < σ.length
      · left; rw [hb]; simp [List.getD, hs]
      · right; simp [List.getD, hs]
    rcases this with e | e <;> rw [e]
    · exact h.2 s
    · trivial
  · have : (σ.set s (.bool b)).getD k .junk = σ.getD k .junk := by simp [List.getD, hk]
    rw [this]; exact h.2 k

theorem wanted_ok {ops : Array Oper} {o : Oper} {a : Act} {ε : Env} {σ : List SV} (h : SlotsOK ε σ a) {s : Nat} {want b : Bool} (hg : compG ops o.guard = some (some (s, want))) (hb : σ.getD s .junk = .bool b) :
    Region.wanted o (yielded ops a.tmps) = (b == want) := by
  cases ho : o.guard with
  | none => rw [ho] at hg; simp [compG] at hg
  | some g =>
    obtain ⟨j, w'⟩ := g
    rw [ho] at hg
    simp only [compG] at hg
    split at hg <;> try (cases hg; done)
    rename_i d hd
    simp only [Option.some.injEq, Prod.mk.injEq] at hg
    obtain ⟨rfl, rfl⟩ := hg
    have := sat_bool (hb ▸ h.2 d)
    have h2 : a.tmps[d]? = some (.bool b) := by
      rw [Array.getD_eq_getD_getElem?] at this
      cases hh : a.tmps[d]? with
      | none => rw [hh] at this; simp [undef] at this
      | some v => rw [hh] at this; simpa using this
    simp only [Region.wanted, ho, yielded, hd, Option.bind_some, h2]
    cases b <;> cases w' <;> rfl

theorem sat_undef {ε : Env} : SatV ε (.tup []) undef := ⟨[], by simp only [SatA], rfl⟩
theorem wanted_undef {ops : Array Oper} {o : Oper} {a : Act} {ε : Env} {σ : List SV} (h : SlotsOK ε σ a) {s : Nat} {want : Bool} (hg : compG ops o.guard = some (some (s, want))) (hb : σ.getD s .junk = .tup []) :
    Region.wanted o (yielded ops a.tmps) = false := by
  cases ho : o.guard with
  | none => rw [ho] at hg; simp [compG] at hg
  | some g =>
    obtain ⟨j, w'⟩ := g
    rw [ho] at hg
    simp only [compG] at hg
    split at hg <;> try (cases hg; done)
    rename_i d hd
    simp only [Option.some.injEq, Prod.mk.injEq] at hg
    obtain ⟨rfl, rfl⟩ := hg
    obtain ⟨vs, h1, this⟩ := sat_tup (hb ▸ h.2 d)
    simp only [SatA] at h1
    subst h1
    simp only [Region.wanted, ho, yielded, hd, Option.bind_some]
    rw [Array.getD_eq_getD_getElem?] at this
    cases hh : a.tmps[d]? with
    | none => rfl
    | some v =>
      rw [hh] at this
      simp only [Option.getD_some] at this
      subst this
      rfl

/-- One step of a region, whatever the operation. -/
theorem opK_sound {Γ : Hook} (hΓ : HookOK P Γ) {o : Oper} {σ : List SV} {m : List Res} {K : List SV → SV → List Res → Prop} {x : IO1} (hx : comp1 P o.op = some x) (h : opK Γ σ m K x) :
    ∃ σ' sv m', K σ' sv m' ∧ EStep P o σ m σ' sv m' := by
  unfold comp1 at hx
  split at hx
  · rename_i p hp
    simp only [Option.some.injEq] at hx; subst hx
    obtain ⟨sv, hK, hpure⟩ := popK_sound (K := fun sv => K σ sv m) hp h
    refine ⟨_, _, _, hK, fun β ε a w hi hs Q => ?_⟩
    obtain ⟨v, hr, hv⟩ := hpure ε a hs
    unfold Oper.wp
    rw [hr, Oper.upon_value]
    exact ⟨v, ε, rfl, hv, hs, hi⟩
  · simp only [Option.map_eq_some_iff] at hx
    obtain ⟨e, he, rfl⟩ := hx
    exact eopK_sound hΓ he h

theorem sops_sound {Γ : Hook} (hΓ : HookOK P Γ) {ops : Array Oper} {Q : Exit → Act → World → Prop} {β : Base} {d : List Deferred} : ∀ (l : List Oper) (ios : List IOp) (σ : List SV) (m : List Res) (K : List SV → List Res → Prop),
    l.mapM (compOp P ops) = some ios → sops Γ ios K σ m → (∀ σ' m' ε' a' w', K σ' m' → Inv β ε' m' w' → SlotsOK ε' σ' a' → a'.defers = d → Q .normal a' w') →
    ∀ ε a w, Inv β ε m w → SlotsOK ε σ a → a.defers = d → wpList P ops Q l a w
  | [], ios, σ, m, K, hc, h, hK, ε, a, w, hi, hs, hd => by
    simp at hc; subst hc
    exact wpList_nil (hK σ m ε a w h hi hs hd)
  | o :: l, ios, σ, m, K, hc, h, hK, ε, a, w, hi, hs, hd => by
    simp only [List.mapM_cons, bind, Option.pure_def] at hc
    obtain ⟨io, ho, hc⟩ := bind_some hc
    obtain ⟨ios', hc', hc⟩ := bind_some hc
    simp only [Option.some.injEq] at hc
    subst hc
    simp only [compOp] at ho
    split at ho <;> try (cases ho; done)
    rename_i g x hg hx
    simp only [Option.some.injEq] at ho; subst ho
    simp only [sops] at h
    have go : ∀ σ1, SlotsOK ε σ1 a → opK Γ σ1 m (fun σ' sv m' => sops Γ ios' K (putS o.dst sv σ') m') x → o.wp P a w (wpList P ops Q l) Q := by
      intro σ1 hs1 h1
      obtain ⟨σ', sv, m', h2, hE⟩ := opK_sound hΓ hx h1
      refine Oper.wp_mono ?_ (hE β ε a w hi hs1 Q)
      rintro a' w' ⟨v, ε', rfl, hv, hs', hi'⟩
      exact sops_sound hΓ l ios' _ _ K hc' h2 hK ε' _ w' hi' (hs'.put hv o.dst) (by rw [put_defers]; exact hd)
    cases g with
    | none =>
      have hgn : o.guard = none := by
        cases hog : o.guard with
        | none => rfl
        | some g => rw [hog] at hg; simp only [compG] at hg; split at hg <;> cases hg
      refine wpList_step fun K' hK' => ?_
      rw [if_pos (by simp [Region.wanted, hgn])]
      exact Oper.wp_mono (fun a w h => hK' a w h) (go σ hs h)
    | some g =>
      obtain ⟨s, want⟩ := g
      simp only [guardK] at h
      split at h
      · rename_i b hb
        have hw := wanted_ok hs hg hb
        refine wpList_step fun K' hK' => ?_
        rw [hw]
        by_cases hbw : b = want
        · subst hbw
          rw [if_pos (by simp)]
          exact Oper.wp_mono (fun a w h => hK' a w h) (go _ (hs.known hb) (h.1 rfl))
        · have hbn : b = !want := by cases b <;> cases want <;> first | rfl | exact absurd rfl hbw
          rw [if_neg (by simpa using hbw)]
          subst hbn
          have hs2 := hs.known hb
          exact hK' _ _ (sops_sound hΓ l ios' _ _ K hc' (h.2 rfl) hK ε _ w hi (SlotsOK.put (sv := .tup []) (v := undef) hs2 sat_undef o.dst) (by rw [put_defers]; exact hd))
      · rename_i hb
        have hw := wanted_undef hs hg hb
        refine wpList_step fun K' hK' => ?_
        rw [hw]
        rw [if_neg (by simp)]
        exact hK' _ _ (sops_sound hΓ l ios' _ _ K hc' h hK ε _ w hi (SlotsOK.put (sv := .tup []) (v := undef) hs sat_undef o.dst) (by rw [put_defers]; exact hd))
      · exact h.elim

end Go.Sx
