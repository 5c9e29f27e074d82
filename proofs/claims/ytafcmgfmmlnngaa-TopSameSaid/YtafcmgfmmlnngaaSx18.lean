import Derived.Test.YtafcmgfmmlnngaaSx17
import Derived.Attr
import Derived.RowKit3
/-! Sx, part 18: loops as they are walked; what closes a row; the words that 'simp only [go_sem]' takes. -/
set_option linter.unusedSimpArgs false
set_option linter.unusedVariables false
namespace Go.Sx
open Go

variable {P : Program}

section words
variable {Γ : Hook} {n0 : Nat} {Q : Ex → List SV → List Res → Prop} {σ : List SV} {m : List Res}
end words

/-! ### Loops -/
/-- What a piece of code writes. -/
def wrO (l : List IOp) : List Nat := l.filterMap (·.dst)
def wr : IC → List Nat
  | .ops l => wrO l
  | .dops l => wrO l
  | .seq a b => wr a ++ wr b
  | .cond _ a b => wr a ++ wr b
  | .block _ c => wr c
  | .loop c => wr c
  | _ => []

/-- One frame knows no more than another. -/
def leS : List SV → List SV → Prop
  | [], [] => True
  | x :: a, y :: b => (x = .junk ∨ x = y) ∧ leS a b
  | _, _ => False

theorem leS_ok : ∀ {σ' σ : List SV}, leS σ' σ → σ'.length = σ.length ∧ ∀ k, σ'.getD k .junk = .junk ∨ σ'.getD k .junk = σ.getD k .junk
  | [], [], _ => ⟨rfl, fun k => .inl (by simp)⟩
  | x :: a, y :: b, h => by
    obtain ⟨h1, h2⟩ := leS_ok h.2
    refine ⟨by simp [h1], fun k => ?_⟩
    cases k with
    | zero => simpa using h.1
    | succ k => simpa using h2 k
  | [], _ :: _, h => h.elim
  | _ :: _, [], h => h.elim

theorem SlotsOK.le {ε : Env} {σ σ' : List SV} {a : Act} (h : SlotsOK ε σ a) (hl : leS σ' σ) : SlotsOK ε σ' a := by
  obtain ⟨h1, h2⟩ := leS_ok hl
  refine ⟨by rw [h1]; exact h.1, fun k => ?_⟩
  rcases h2 k with e | e <;> rw [e]
  · trivial
  · exact h.2 k

theorem Weak.of_le {σ σ' : List SV} {m : List Res} (h : leS σ' σ) : Weak σ m σ' m := fun _ ε _ _ hi hs => ⟨ε, hi, hs.le h⟩
theorem Weak.refl (σ : List SV) (m : List Res) : Weak σ m σ m := fun _ ε _ _ hi hs => ⟨ε, hi, hs⟩
theorem Weak.trans {σ σ' σ'' : List SV} {m m' m'' : List Res} (h : Weak σ m σ' m') (k : Weak σ' m' σ'' m'') : Weak σ m σ'' m'' := fun β ε a w hi hs => by
  obtain ⟨ε', h1, h2⟩ := h β ε a w hi hs
  exact k β ε' a w h1 h2

/-- A loop that waits for its invariant: 'simp' looks at nothing but what is known. -/
structure Hide {α β γ : Sort _} (x : α) (y : β) (z : γ) : Type where
theorem Weak.le {σ σ' : List SV} {m m' : List Res} (h : leS σ' σ) (hm : m' = m) : Weak σ m σ' m' := by subst hm; exact Weak.of_le h

/-! ### Where a body ends that leaves nothing -/
theorem resK_mono {σ : List SV} {m : List Res} {K K' : SV → Prop} (h : ∀ x, K x → K' x) : ∀ {rs : List ResultVar}, resK P σ m K rs → resK P σ m K' rs := by
  have hpk : ∀ {n : Nat} {ag : Bool} {K K' : SV → Prop} (_ : ∀ x, K x → K' x) {x : SV}, peek m n ag K x → peek m n ag K' x := by
    intro n ag K K' h x hh
    cases x <;> simp only [peek] at hh ⊢ <;> first
      | exact hh
      | exact ⟨hh.1, h _ hh.2⟩
      | (split at hh <;> first | exact hh.elim | exact ⟨hh.1, h _ hh.2⟩)
  have hgo : ∀ (l : List ResultVar) {K K' : List SV → Prop} (_ : ∀ x, K x → K' x), resK.go P σ m l K → resK.go P σ m l K' := by
    intro l
    induction l with
    | nil => intro K K' h hh; exact h _ hh
    | cons r l ih =>
      intro K K' h hh
      cases r with
      | tmp t => exact ⟨hh.1, ih (fun x hx => h _ hx) hh.2⟩
      | cell t T =>
        simp only [resK.go] at hh ⊢
        split at hh
        · exact hpk (fun x hx => ⟨hx.1, ih (fun y hy => h _ hy) hx.2⟩) hh
        · exact hh.elim
  intro rs hh
  match rs, hh with
  | [], hh => exact h _ hh
  | [.tmp t], hh => exact h _ hh
  | [.cell t T], hh =>
    simp only [resK] at hh ⊢
    split at hh
    · exact hpk h hh
    · exact hh.elim
  | .tmp t :: b :: l, hh => exact hgo (.tmp t :: b :: l) (K := fun xs => K (.tup xs)) (K' := fun xs => K' (.tup xs)) (fun x hx => h _ hx) (by simpa only [resK] using hh)
  | .cell t T :: b :: l, hh => exact hgo (.cell t T :: b :: l) (K := fun xs => K (.tup xs)) (K' := fun xs => K' (.tup xs)) (fun x hx => h _ hx) (by simpa only [resK] using hh)

/-! ### A callee that only reads -/
/-- A callee known by contracts 'A i', with 'ok i', to 'R i'. -/
def Hook.ro (f : FuncId) {ι : Type} (A : ι → List SV) (R : ι → SV) (ok : ι → Prop) (Γ : Hook) : Hook := Γ.on f fun args m K => ∃ i, ok i ∧ RoA m args (A i) ∧ K (R i) m

/-- A callee known by a law on what it is handed. -/
def Hook.fn (f : FuncId) (F : List SV → Option SV) (Γ : Hook) : Hook := Γ.on f fun args m K => match F args with
  | some r => K r m
  | none => False

/-! ### How long what was handed in can be -/
mutual
def lenB : SV → Prop
  | .lst _ _ f l => l.length ≤ 9223372036854775807 ∧ ∀ x ∈ l, lenB (f x)
  | .agg l => lenBL l
  | .arr n _ f => ∀ i, i < n → lenB (f i)
  | .ref c _ _ => lenB c
  | _ => True
def lenBL : List SV → Prop
  | [] => True
  | x :: r => lenB x ∧ lenBL r
end

mutual
theorem lenB_ok : ∀ (x : SV) {ε : Env} {cs : List Value}, SatC x ε cs → lenB x
  | .lst w d f l, ε, cs, h => by
    simp only [SatC] at h
    obtain ⟨ao, cap, h1, h2, h3, h4, h5⟩ := h
    simp only [lenB]
    refine ⟨by unfold maxLen at h3; omega, fun x hx => ?_⟩
    obtain ⟨i, hi, hxi⟩ := List.getElem_of_mem hx
    obtain ⟨b, off, T, fz, cur, e1, e2, e3, e4⟩ := h5 i hi
    have e : l.getD i d = x := by simp [List.getD, hi, hxi]
    rw [e] at e4
    exact lenB_ok (f x) e4
  | .agg l, ε, cs, h => by simp only [SatC] at h; simp only [lenB]; exact lenBL_ok l h
  | .arr n w f, ε, cs, h => by simp only [SatC] at h; simp only [lenB]; exact fun i hi => lenB_ok (f i) (h.2 i hi)
  | .ref c p o, ε, cs, h => by
    simp only [SatC] at h
    obtain ⟨b, T, fz, cur, h1, h2, h3, h4⟩ := h
    simp only [lenB]
    exact lenB_ok c h4
  | .int .., _, _, _ => by simp only [lenB]
  | .bool .., _, _, _ => by simp only [lenB]
  | .str .., _, _, _ => by simp only [lenB]
  | .tup .., _, _, _ => by simp only [lenB]
  | .lit .., _, _, _ => by simp only [lenB]
  | .eptr .., _, _, _ => by simp only [lenB]
  | .ptr .., _, _, _ => by simp only [lenB]
  | .vec .., _, _, _ => by simp only [lenB]
  | .vptr .., _, _, _ => by simp only [lenB]
  | .pvec .., _, _, _ => by simp only [lenB]
  | .map .., _, _, _ => by simp only [lenB]
  | .fn .., _, _, _ => by simp only [lenB]
  | .iface .., _, _, _ => by simp only [lenB]
  | .nils, _, _, _ => by simp only [lenB]
  | .nili, _, _, _ => by simp only [lenB]
  | .nilf, _, _, _ => by simp only [lenB]
  | .nilp, _, _, _ => by simp only [lenB]
  | .nilm, _, _, _ => by simp only [lenB]
  | .anyb, _, _, _ => by simp only [lenB]
  | .raw .., _, _, _ => by simp only [lenB]
  | .junk, _, _, _ => by simp only [lenB]
theorem lenBL_ok : ∀ (l : List SV) {ε : Env} {cs : List Value}, SatL l ε cs → lenBL l
  | [], _, _, _ => by simp only [lenBL]
  | x :: l, ε, cs, h => by
    simp only [SatL] at h
    obtain ⟨a, b, h1, h2, h3⟩ := h
    simp only [lenBL]
    exact ⟨lenB_ok x h2, lenBL_ok l h3⟩
end

theorem lenA_ok : ∀ {l : List SV} {ε : Env} {vs : List Value}, SatA l ε vs → lenBL l
  | [], _, _, _ => by simp only [lenBL]
  | x :: l, ε, vs, h => by
    simp only [SatA] at h
    obtain ⟨cs, t, h1, h2, h3⟩ := h
    simp only [lenBL]
    exact ⟨lenB_ok x h2, lenA_ok h3⟩

theorem fn_len {f : FuncId} {args : List SV} {m0 m1 : List Res} {res : SV} (h : lenBL args → FnOK P f args m0 res m1) : FnOK P f args m0 res m1 := fun ε w vs hg hs => h (lenA_ok hs) ε w vs hg hs

/-! ### A row is closed -/
open Go.RowKit Go.ChangeShapes

/-- The world as it is handed in: all that is there is held fast. -/
def ε0 (W : World) : Env := ⟨0, fun _ => 0, fun _ => .nilFunc, fun b => W.heap[b]?⟩

theorem good_nil (W : World) : Good (ε0 W) [] W :=
  ⟨rfl, fun i => by rw [memAt_ge (Nat.zero_le _)]; trivial, (fun i j b _ h => by rw [memAt_ge (Nat.zero_le _)] at h; cases h), (fun i b h => by rw [memAt_ge (Nat.zero_le _)] at h; cases h), fun _ _ h => h⟩

/-- **A law's contract**: handed what is held fast, it hands back true, and nothing that was there has turned. -/
theorem law_run {f : FuncId} {args : List SV} (h : FnOK P f args [] (.bool true) []) (W : World) {vs : List Value} (hs : SatA args (ε0 W) vs) : Calls P f vs.toArray W fun e W' => e = .returned (.bool true) ∧ Below W.heap.size W W' := by
  refine (h (ε0 W) W vs (good_nil W) hs).mono fun e W' ⟨v, ε', he, hv, hi⟩ => ?_
  subst he
  rw [sat_bool hv]
  refine ⟨rfl, ⟨hi.kept.os, hi.kept.tape, hi.kept.output, hi.kept.size, fun k hk => hi.kept.heap k hk ?_⟩⟩
  rintro ⟨i, hb⟩
  rw [memAt_ge (Nat.zero_le _)] at hb; cases hb

def readB (P : Program) (ts : List TypeId) : Bool := ts.all fun t => P.readableRec t && decide (t < P.types.size)

theorem trodAll_stays {H : Type} {enc : TypeId × Value → H} (hl : laidOutB P = true) {W W' : World} {sp' : Nat → Bool} (hb : Below W.heap.size W W') : ∀ {ts : List TypeId} {vs : List Value} {ds : List (DataW H)} {ps : List MemPlace},
    readB P ts = true → DataW.TrodAll enc P W 0 (fun _ => true) true ts vs ds ps → (∀ p ∈ ps, p.block < W.heap.size) → (∀ p ∈ ps, sp' p.block = true) → DataW.TrodAll enc P W' 0 sp' true ts vs ds ps
  | [], [], [], _, _, h, _, _ => h
  | t :: ts, v :: vs, d :: ds, ps, hr, h, hlt, hsp => by
    simp only [readB, List.all_cons, Bool.and_eq_true, decide_eq_true_eq] at hr
    obtain ⟨p, q, h1, h2, rfl⟩ := h
    exact ⟨p, q, WideElems.Trod_stays hl hr.1.1 hr.1.2 h1 (fun x hx => hb.same (hlt x (by simp [hx]))) (fun x hx => hsp x (by simp [hx])),
      trodAll_stays hl hb hr.2 h2 (fun x hx => hlt x (by simp [hx])) (fun x hx => hsp x (by simp [hx])), rfl⟩
  | [], [], _ :: _, _, _, h, _, _ => h.elim
  | [], _ :: _, _, _, _, h, _, _ => h.elim
  | _ :: _, [], _, _, _, h, _, _ => h.elim
  | _ :: _, _ :: _, [], _, _, h, _, _ => h.elim

/-- A law that hands back true and leaves what it was handed. -/
theorem row_close {H : Type} {enc : TypeId × Value → H} {f : Func} {s : ChangeSpec} {apart fresh handsOn again : Bool} {W W' : World} {args : Array Value} {ds gs : List (DataW H)} {before : List MemPlace} {tb : TypeId}
    (hl : laidOutB P = true) (hr : readB P f.params.toList = true) (hrt : f.resultTypes = #[tb]) (htb : P.underlying tb = some .bool) (hv : s.vars = [])
    (hW : DataW.Whole enc P f.params.toList s.vars apart W args.toList ds gs before) (hb : Below W.heap.size W W')
    (hfn : s.fn H (ds ++ gs) = { results := [.lit (.bool true)], args := ds }) : s.post enc P f apart fresh handsOn again W args (.bool true) W' := by
  have hlt := hW.lt
  obtain ⟨pa, pv, hA, hV, rfl, hz, hn⟩ := hW
  rw [hv] at hV
  have hpv : pv = [] ∧ gs = [] := by
    cases gs with
    | nil => exact ⟨hV, rfl⟩
    | cons => exact hV.elim
  obtain ⟨rfl, rfl⟩ := hpv
  have hres : ∀ (b : Nat) (sp : Nat → Bool) (hd : Bool), DataW.TrodAll enc P W' b sp hd f.resultTypes.toList ((Value.bool true).resultList f.resultTypes.size) (s.fn H (ds ++ [])).results [] := by
    intro b sp hd
    rw [hrt, hfn]
    exact ⟨[], [], shut_bool htb true, rfl, rfl⟩
  have hargs : ∀ sp : Nat → Bool, (∀ p ∈ pa ++ [], sp p.block = true) → DataW.TrodAll enc P W' 0 sp true f.params.toList args.toList (s.fn H (ds ++ [])).args pa := by
    intro sp hsp
    rw [hfn]
    exact trodAll_stays hl hb hr hA (fun p hp => hlt p (by simp [hp])) (fun p hp => hsp p (by simp [hp]))
  have hvars : ∀ sp : Nat → Bool, DataW.TrodVars enc P W' sp s.vars (s.fn H (ds ++ [])).vars [] := by
    intro sp
    rw [hv, hfn]; rfl
  have hold : ∀ p ∈ pa ++ [], (fun b => decide (b < W.heap.size)) p.block = true := fun p hp => by simpa using hlt p hp
  refine ⟨ds, [], pa ++ [], [], pa, [], ⟨pa, [], hA, by rw [hv]; exact hV, rfl, hz, hn⟩, hres _ _ _, hargs _ hold, hvars _, World.keptBut_mono (fun p hp => ⟨hp, by simpa using hp⟩) (hb.frame _), fun _ => ?_⟩
  refine ⟨ok_one hrt rfl (okWide_bool_mk htb true), _, _, ([] ++ pa) ++ [], ⟨[] ++ pa, [], trodAll_append (hargs _ (fun _ _ => rfl)) (hres _ _ _), hvars _, rfl, ?_, ?_⟩, ?_⟩
  · intro b off hp
    have hp' : MemPlace.cell b off ∈ pa ++ [] := by simpa using hp
    rw [hb.frozen (hlt _ hp')]
    exact hz b off hp'
  · intro ha
    simpa using hn ha
  · intro p hp _
    simpa using hp

end Go.Sx
