import Derived.Test.YtafcmgfmmlnngaaSx24
/-! Sx, part 25: data, and the symbols that stand for them. -/
set_option linter.unusedVariables false
set_option linter.unusedSimpArgs false
namespace Go.Sx
open Go
variable {P : Program}
/-- Of all in a list. -/
def allL.{u} {β : Type u} (l : List β) (p : β → Prop) : Prop := ∀ y ∈ l, p y
theorem allL_cons.{u} {β : Type u} (p : β → Prop) (x : β) (l : List β) : allL (x :: l) p = (p x ∧ allL l p) := by simp [allL]
theorem allL_nil.{u} {β : Type u} (p : β → Prop) : allL ([] : List β) p = True := by simp [allL]
theorem allL_app.{u} {β : Type u} (p : β → Prop) (a b : List β) : allL (a ++ b) p = (allL a p ∧ allL b p) := by simp [allL, or_imp, forall_and]
theorem allL_map.{u, v} {β : Type u} {γ : Type v} (p : β → Prop) (f : γ → β) (l : List γ) : allL (l.map f) p = allL l (fun y => p (f y)) := by simp [allL]
theorem allL_true.{u} {β : Type u} (l : List β) : allL l (fun _ => True) = True := by simp [allL]
structure DT (α : Type) where
  dft : α
  emb : α → SV
  decV : List Res → SV → α
  decP : List Res → SV → Prop
  ok : ∀ {ε : Env} {m : List Res} {w : World}, Good ε m w → ∀ {x : SV}, decP m x → ∀ {cs : List Value}, SatC x ε cs → SatC (emb (decV m x)) (frz ε m w).cl cs
  agg : ∀ {m : List Res} {x : SV}, decP m x → (emb (decV m x)).isAgg = x.isAgg
  vE : ∀ (m : List Res) (y : α), decV m (emb y) = y
  pE : ∀ (m : List Res) (y : α), decP m (emb y)
  ren : ∀ (r : Nat → Option Nat) (y : α), Sx.ren r (emb y) = emb y
  kill : ∀ (i : Nat) (y : α), Sx.kill i (emb y) = emb y
  val : ∀ y : α, (emb y).isVal = true
def DT.ofTT (T : TT) : DT (Den T) := ⟨Sx.dft T, Sx.emb T, Sx.decV T, Sx.decP T, fun g _ h _ hs => dec_ok g T h hs, fun h => dec_agg T h, decV_emb T, decP_emb T, ren_emb T, kill_emb T, isVal_emb T⟩
def DT.iso {α β : Type} (d : DT α) (f : α → β) (g : β → α) (h1 : ∀ x, f (g x) = x) (h2 : ∀ x, g (f x) = x) : DT β :=
  ⟨f d.dft, fun y => d.emb (g y), fun m x => f (d.decV m x), d.decP, fun gd _ h _ hs => by rw [h2]; exact d.ok gd h hs, fun h => by rw [h2]; exact d.agg h, fun m y => by rw [d.vE, h1], fun m y => d.pE m _, fun r y => d.ren r _, fun i y => d.kill i _, fun y => d.val _⟩
def DT.int : DT Int := DT.ofTT (.int .i64)
def DT.byte : DT Int := DT.ofTT (.int .u8)
def DT.bool : DT Bool := DT.ofTT .bool
def DT.str : DT (List UInt8) := DT.ofTT .str
def DT.arr {α : Type} (n w : Nat) (d : DT α) : DT (Nat → α) where
  dft := fun _ => d.dft
  emb := fun f => .arr n w fun i => d.emb (f i)
  decV := fun m x => match x with
    | .arr _ _ f => fun i => d.decV m (f i)
    | _ => fun _ => d.dft
  decP := fun m x => match x with
    | .arr n' w' f => n' = n ∧ w' = w ∧ ∀ i, i < n → d.decP m (f i)
    | _ => False
  ok := fun {ε m w} g {x} h {cs} hs => by
    cases x <;> simp only at h
    obtain ⟨rfl, rfl, h⟩ := h
    simp only [SatC] at hs ⊢
    exact ⟨hs.1, fun i hi => d.ok g (h i hi) (hs.2 i hi)⟩
  agg := fun {m x} h => by cases x <;> first | exact h.elim | rfl
  vE := fun m y => by funext i; exact d.vE m (y i)
  pE := fun m y => ⟨rfl, rfl, fun i _ => d.pE m (y i)⟩
  ren := fun r y => by simp only [Sx.ren]; congr; funext i; exact d.ren r (y i)
  kill := fun i y => by simp only [Sx.kill]; congr; funext j; exact d.kill i (y j)
  val := fun y => rfl
def DT.list {α : Type} (wd' : Nat) (d : DT α) : DT (List α) where
  dft := []
  emb := fun l => .lst wd' d.dft d.emb l
  decV := fun m x => match x with
    | .lst _ _ f l => l.map fun y => d.decV m (f y)
    | .vec i _ => match memAt m i with
      | .vec _ _ l => l.map fun y => d.decV m y
      | _ => []
    | _ => []
  decP := fun m x => match x with
    | .lst w' _ f l => w' = wd' ∧ allL l fun y => d.decP m (f y)
    | .vec i _ => match memAt m i with
      | .vec _ w' l => w' = wd' ∧ allL l fun y => d.decP m y
      | _ => False
    | .nils => True
    | _ => False
  ok := fun {ε m w} g {x} h {cs} hs => by
    have hcl : ∀ {y : SV} {cs : List Value}, SatC y ε.cl cs → SatC y ε cs := fun h => SatC.mono _ ε.cl_le h
    cases x with
    | lst w' dd f l =>
      obtain ⟨rfl, h⟩ := h
      simp only [SatC] at hs ⊢
      obtain ⟨ao, cap, h1, h2, h3, h4, h5⟩ := hs
      refine ⟨ao, cap, by rw [h1, List.length_map], by rw [List.length_map]; exact h2, h3, h4, fun i hi => ?_⟩
      rw [List.length_map] at hi
      obtain ⟨b, off, T', fz, cur, e1, e2, e3, e4⟩ := h5 i hi
      refine ⟨b, off, T', fz, cur, e1, frz_H g _ _ e2, e3, ?_⟩
      have hx : l.getD i dd = l[i] := by simp [List.getD, hi]
      rw [hx] at e4
      have hy : (l.map fun y => d.decV m (f y)).getD i d.dft = d.decV m (f l[i]) := by simp [List.getD, hi]
      rw [hy]
      exact d.ok g (h _ (List.getElem_mem hi)) (hcl e4)
    | nils =>
      simp only [SatC] at hs ⊢
      subst hs
      exact ⟨none, 0, rfl, Nat.le_refl _, Nat.zero_le _, fun _ => rfl, fun i hi => absurd hi (Nat.not_lt_zero _)⟩
    | vec i n =>
      simp only at h ⊢
      cases hm : memAt m i with
      | vec E w' l =>
        rw [hm] at h
        obtain ⟨rfl, h⟩ := h
        simp only [SatC] at hs ⊢
        obtain ⟨h1, hn, h3⟩ := hs
        have hr := g.res i
        rw [hm] at hr
        obtain ⟨xs, ⟨e0, e1⟩, e2⟩ := hr
        rcases e1 with ⟨k1, k2⟩ | ⟨b, cap, cur, k1, k2, k3, k4, k5, k6, k7⟩
        · refine ⟨none, 0, by rw [h3, k1]; simp [k2], by simp [k2], Nat.zero_le _, fun _ => rfl, fun j hj => ?_⟩
          rw [List.length_map] at hj; omega
        · refine ⟨some ⟨b, 0, none⟩, cap, by rw [h3, k1, List.length_map], by rw [List.length_map]; exact k4, k5, (fun h => by cases h), fun j hj => ?_⟩
          rw [List.length_map] at hj
          have hjl : j * w' + w' ≤ l.length * w' := by
            have := Nat.mul_le_mul_right w' (show j + 1 ≤ l.length from hj)
            rw [Nat.succ_mul] at this; exact this
          have hcap : l.length * w' ≤ cap * w' := Nat.mul_le_mul_right _ k4
          refine ⟨b, 0, E, (0, 0), cur, rfl, ?_, by omega, ?_⟩
          · show (frz ε m w).H b = _
            rw [frz_own (i := i) (by rw [hm]; simp [ownR, k1, Value.ownBlock])]; exact k3
          · have hx : l.getD j .junk = l[j] := by simp [List.getD, hj]
            have hy : (l.map fun y => d.decV m y).getD j d.dft = d.decV m l[j] := by simp [List.getD, hj]
            rw [hy]
            have e3 := e2 j hj
            rw [hx] at e3
            have := d.ok g (h _ (List.getElem_mem hj)) e3
            have hsu : sub cur.toList (0 + j * w') w' = sub xs (j * w') w' := by
              rw [← k7]
              simp only [sub, Nat.zero_add]
              rw [List.drop_take, List.take_take]
              congr 1
              omega
            rw [hsu]; exact this
      | dead => rw [hm] at h; exact h.elim
      | blk T c => rw [hm] at h; exact h.elim
      | mp ek ev l => rw [hm] at h; exact h.elim
    | _ => exact h.elim
  agg := fun {m x} h => by cases x <;> first | exact h.elim | rfl
  vE := fun m y => by
    have : (fun y => d.decV m (d.emb y)) = id := by funext y; exact d.vE m y
    simp only [this, List.map_id]
  pE := fun m y => ⟨rfl, fun z _ => d.pE m z⟩
  ren := fun r y => rfl
  kill := fun i y => rfl
  val := fun y => rfl
def DT.ref {α : Type} (d : DT α) : DT α where
  dft := d.dft
  emb := fun y => .ref (d.emb y) [] 0
  decV := fun m x => match x with
    | .ref c _ _ => d.decV m c
    | .ptr i _ _ => match memAt m i with
      | .blk _ c => d.decV m c
      | _ => d.dft
    | _ => d.dft
  decP := fun m x => match x with
    | .ref c p o => p = [] ∧ o = 0 ∧ d.decP m c
    | .ptr i p o => match memAt m i with
      | .blk _ c => p = [] ∧ o = 0 ∧ d.decP m c
      | _ => False
    | _ => False
  ok := fun {ε m w} g {x} h {cs} hs => by
    have hcl : ∀ {y : SV} {cs : List Value}, SatC y ε.cl cs → SatC y ε cs := fun h => SatC.mono _ ε.cl_le h
    cases x with
    | ref c p o =>
      obtain ⟨rfl, rfl, h⟩ := h
      simp only [SatC] at hs ⊢
      obtain ⟨b, T', fz, cur, h1, h2, h3, h4⟩ := hs
      exact ⟨b, T', fz, cur, h1, frz_H g _ _ h2, h3, d.ok g h (hcl h4)⟩
    | ptr i p o =>
      simp only at h ⊢
      cases hm : memAt m i with
      | blk T' c =>
        rw [hm] at h
        obtain ⟨rfl, rfl, h⟩ := h
        simp only [SatC] at hs ⊢
        obtain ⟨h1, h2, h3⟩ := hs
        have hr := g.res i
        rw [hm] at hr
        obtain ⟨cs', e1, e2⟩ := hr
        refine ⟨ε.blk i, T', (0, 0), cs'.toArray, h3, ?_, h2, d.ok g h e2⟩
        show (frz ε m w).H _ = _
        rw [frz_own (i := i) (by rw [hm]; rfl)]; exact e1
      | dead => rw [hm] at h; exact h.elim
      | vec E w' l => rw [hm] at h; exact h.elim
      | mp ek ev l => rw [hm] at h; exact h.elim
    | _ => exact h.elim
  agg := fun {m x} h => by cases x <;> first | exact h.elim | rfl
  vE := fun m y => d.vE m y
  pE := fun m y => ⟨rfl, rfl, d.pE m y⟩
  ren := fun r y => rfl
  kill := fun i y => rfl
  val := fun y => rfl
/-- A function of the text. -/
def DT.fnc : DT Nat where
  dft := 0
  emb := fun f => .fn f []
  decV := fun m x => match x with
    | .fn f [] => f
    | _ => 0
  decP := fun m x => match x with
    | .fn _ [] => True
    | _ => False
  ok := fun {ε m w} g {x} h {cs} hs => by
    split at h
    · simp only [SatC] at hs ⊢
      obtain ⟨vs, h1, h2⟩ := hs
      exact ⟨vs, h1, h2⟩
    · exact h.elim
  agg := fun {m x} h => by
    split at h
    · rfl
    · exact h.elim
  vE := fun m y => rfl
  pE := fun m y => trivial
  ren := fun r y => rfl
  kill := fun i y => rfl
  val := fun y => rfl
/-- Arguments. -/
structure DA (α : Type) where
  dft : α
  emb : α → List SV
  decV : List Res → List SV → α
  decP : List Res → List SV → Prop
  ok : ∀ {ε : Env} {m : List Res} {w : World}, Good ε m w → ∀ {xs : List SV}, decP m xs → ∀ {vs : List Value}, SatA xs ε vs → SatA (emb (decV m xs)) (frz ε m w).cl vs
  ren : ∀ (r : Nat → Option Nat) (y : α), renL r (emb y) = emb y
  kill : ∀ (i : Nat) (y : α), killL i (emb y) = emb y
  vE : ∀ (m : List Res) (y : α), decV m (emb y) = y
  pE : ∀ (m : List Res) (y : α), decP m (emb y)
def DA.nil : DA Unit := ⟨(), fun _ => [], fun _ _ => (), fun _ xs => match xs with | [] => True | _ => False, fun {ε m w} g {xs} h {vs} hs => by
  cases xs with
  | nil => exact hs
  | cons => exact h.elim, fun _ _ => rfl, fun _ _ => rfl, fun _ _ => rfl, fun _ _ => trivial⟩
def DA.cons {α β : Type} (d : DT α) (r : DA β) : DA (α × β) where
  dft := (d.dft, r.dft)
  emb := fun y => d.emb y.1 :: r.emb y.2
  decV := fun m xs => match xs with
    | x :: xs => (d.decV m x, r.decV m xs)
    | [] => (d.dft, r.dft)
  decP := fun m xs => match xs with
    | x :: xs => d.decP m x ∧ r.decP m xs
    | [] => False
  ok := fun {ε m w} g {xs} h {vs} hs => by
    cases xs with
    | nil => exact h.elim
    | cons x xs =>
      obtain ⟨h1, h2⟩ := h
      simp only [SatA] at hs ⊢
      obtain ⟨a, b, e1, e2, e3⟩ := hs
      exact ⟨a, b, by rw [d.agg h1]; exact e1, d.ok g h1 e2, r.ok g h2 e3⟩
  ren := fun s y => by simp only [renL, d.ren, r.ren]
  kill := fun s y => by simp only [killL, d.kill, r.kill]
  vE := fun m y => by simp only [d.vE, r.vE]
  pE := fun m y => ⟨d.pE m y.1, r.pE m y.2⟩
abbrev DA.one {α : Type} (a : DT α) : DA (α × Unit) := .cons a .nil
abbrev DA.two {α β : Type} (a : DT α) (b : DT β) : DA (α × β × Unit) := .cons a (.cons b .nil)
abbrev DA.three {α β γ : Type} (a : DT α) (b : DT β) (c : DT γ) : DA (α × β × γ × Unit) := .cons a (.cons b (.cons c .nil))
abbrev DA.four {α β γ δ : Type} (a : DT α) (b : DT β) (c : DT γ) (d : DT δ) : DA (α × β × γ × δ × Unit) := .cons a (.cons b (.cons c (.cons d .nil)))
/-- A function's value: no function, or this one, over what it holds. -/
def DT.fop {κ : Type} (f : FuncId) (A : DA κ) : DT (Option κ) where
  dft := none
  emb := fun y => match y with
    | none => .nilf
    | some k => .fn f (A.emb k)
  decV := fun m x => match x with
    | .fn _ caps => some (A.decV m caps)
    | _ => none
  decP := fun m x => match x with
    | .fn g caps => g = f ∧ A.decP m caps
    | .nilf => True
    | _ => False
  ok := fun {ε m w} g {x} h {cs} hs => by
    cases x with
    | fn g' caps =>
      obtain ⟨rfl, h⟩ := h
      simp only [SatC] at hs ⊢
      obtain ⟨vs, h1, h2⟩ := hs
      exact ⟨vs, A.ok g h h1, h2⟩
    | nilf => exact hs
    | _ => exact h.elim
  agg := fun {m x} h => by cases x <;> first | exact h.elim | rfl
  vE := fun m y => by
    cases y with
    | none => rfl
    | some k => simp only [A.vE]
  pE := fun m y => by
    cases y with
    | none => trivial
    | some k => exact ⟨rfl, A.pE m k⟩
  ren := fun r y => by
    cases y with
    | none => rfl
    | some k => simp only [Sx.ren, A.ren]
  kill := fun i y => by
    cases y with
    | none => rfl
    | some k => simp only [Sx.kill, A.kill]
  val := fun y => by cases y <;> rfl
/-- A function's value, over what it holds. -/
def DT.clo {κ : Type} (f : FuncId) (A : DA κ) : DT κ where
  dft := A.dft
  emb := fun k => .fn f (A.emb k)
  decV := fun m x => match x with
    | .fn _ caps => A.decV m caps
    | _ => A.dft
  decP := fun m x => match x with
    | .fn g caps => g = f ∧ A.decP m caps
    | _ => False
  ok := fun {ε m w} g {x} h {cs} hs => by
    cases x with
    | fn g' caps =>
      obtain ⟨rfl, h⟩ := h
      simp only [SatC] at hs ⊢
      obtain ⟨vs, h1, h2⟩ := hs
      exact ⟨vs, A.ok g h h1, h2⟩
    | _ => exact h.elim
  agg := fun {m x} h => by cases x <;> first | exact h.elim | rfl
  vE := fun m y => A.vE m y
  pE := fun m y => ⟨rfl, A.pE m y⟩
  ren := fun r y => by simp only [Sx.ren, A.ren]
  kill := fun i y => by simp only [Sx.kill, A.kill]
  val := fun y => rfl
/-- Results: data alone. -/
structure DR (α : Type) where
  emb : α → SV
  ren : ∀ (r : Nat → Option Nat) (y : α), Sx.ren r (emb y) = emb y
  noH : ∀ y : α, NoHV (emb y)
/-- Data that hold no slice. -/
class Flat {α : Type} (d : DT α) : Prop where
  noH : ∀ y : α, NoH (d.emb y)
instance : Flat DT.int := ⟨fun y => noH_int _ y⟩
instance : Flat DT.byte := ⟨fun y => noH_int _ y⟩
instance : Flat DT.bool := ⟨fun y => noH_bool y⟩
instance : Flat DT.str := ⟨fun y => noH_str y⟩
instance {α : Type} {n w : Nat} {d : DT α} [h : Flat d] : Flat (DT.arr n w d) := ⟨fun y => noH_arr fun i _ => h.noH (y i)⟩
theorem Flat.ofTT {T : TT} (h : flatT T = true) : Flat (DT.ofTT T) := ⟨fun y => noH_emb T y h⟩
theorem Flat.iso {α β : Type} {d : DT α} (h : Flat d) {f : α → β} {g : β → α} {h1 : ∀ x, f (g x) = x} {h2 : ∀ x, g (f x) = x} : Flat (d.iso f g h1 h2) := ⟨fun y => h.noH (g y)⟩
def DR.unit : DR Unit := ⟨fun _ => .tup [], fun _ _ => rfl, fun _ => noHV_tup fun _ h => by cases h⟩
def DR.one {α : Type} (d : DT α) [h : Flat d] : DR α := ⟨d.emb, d.ren, fun y => (h.noH y).val (d.val y)⟩
def DR.two {α β : Type} (a : DT α) (b : DT β) [ha : Flat a] [hb : Flat b] : DR (α × β) := ⟨fun y => .tup [a.emb y.1, b.emb y.2], fun r y => by simp only [Sx.ren, renL, a.ren, b.ren], fun y => noHV_tup fun x hx => by
  simp only [List.mem_cons, List.not_mem_nil, or_false] at hx
  rcases hx with rfl | rfl
  · exact ha.noH _
  · exact hb.noH _⟩
def DR.three {α β γ : Type} (a : DT α) (b : DT β) (c : DT γ) [ha : Flat a] [hb : Flat b] [hc : Flat c] : DR (α × β × γ) := ⟨fun y => .tup [a.emb y.1, b.emb y.2.1, c.emb y.2.2], fun r y => by simp only [Sx.ren, renL, a.ren, b.ren, c.ren], fun y => noHV_tup fun x hx => by
  simp only [List.mem_cons, List.not_mem_nil, or_false] at hx
  rcases hx with rfl | rfl | rfl
  · exact ha.noH _
  · exact hb.noH _
  · exact hc.noH _⟩
/-- **A callee from data to data.** -/
def FH.rd (f : FuncId) {α ρ : Type} (A : DA α) (R : DR ρ) (pre : α → Prop) (F : α → ρ) (Γ : FH) : FH :=
  FH.on f (fun args m => .ro (A.decP m args ∧ pre (A.decV m args)) (R.emb (F (A.decV m args)))) Γ
theorem FH.rd_ok {f : FuncId} {α ρ : Type} {A : DA α} {R : DR ρ} {pre : α → Prop} {F : α → ρ} {Γ : FH} (hf : okFn P f = true) (h : ∀ y, pre y → FnOK P f (A.emb y) [] (R.emb (F y)) []) (hΓ : FHOK P Γ) : FHOK P (FH.rd f A R pre F Γ) :=
  FH.on_ok (fun args m hp => ⟨hf, by
    have := call_rd (h _ hp.2) (fun ε w vs g hs => A.ok g hp.1 hs) (by rw [R.ren]; exact R.noH _) (fun _ h => by cases h)
    rw [R.ren] at this
    simpa using this⟩) hΓ
/-- A callee that makes something: 'res' and 'new' may name it. -/
def FH.mk (f : FuncId) {α : Type} (A : DA α) (pre : α → Prop) (F : α → SV) (M : α → List Res) (Γ : FH) : FH :=
  FH.on f (fun args m => .is (A.decP m args ∧ pre (A.decV m args)) (ren (shf m.length) (F (A.decV m args))) (m ++ (M (A.decV m args)).map (renR (shf m.length)))) Γ
/-- A law holds no frozen thing. -/
def PlainM (x : SV) (M : List Res) : Prop := ∀ r, NoHV (ren r x) ∧ ∀ y ∈ M, ResNoH (renR r y)
theorem FH.mk_ok {f : FuncId} {α : Type} {A : DA α} {pre : α → Prop} {F : α → SV} {M : α → List Res} {Γ : FH} (hf : okFn P f = true) (hR : ∀ y, pre y → PlainM (F y) (M y)) (h : ∀ y, pre y → FnOK P f (A.emb y) [] (F y) (M y)) (hΓ : FHOK P Γ) : FHOK P (FH.mk f A pre F M Γ) :=
  FH.on_ok (fun args m hp => ⟨hf, call_rd (h _ hp.2) (fun ε w vs g hs => A.ok g hp.1 hs) (hR _ hp.2 _).1 (hR _ hp.2 _).2⟩) hΓ
/-- A callee that is handed a thing of its caller's to write, by a pointer. -/
def FH.mt (f : FuncId) {σ α ρ : Type} (T : TypeId) (d : DT σ) (A : DA α) (R : DR ρ) (pre : σ → α → Prop) (F : σ → α → ρ) (S : σ → α → σ) (Γ : FH) : FH :=
  FH.on f (fun args m => match args with
    | x :: rest => match x with
      | .ptr i p o => match memAt m i with
        | .blk T' c => .is (T' = T ∧ p = [] ∧ o = 0 ∧ d.emb (d.decV [] c) = c ∧ A.emb (A.decV [] rest) = rest ∧ pre (d.decV [] c) (A.decV [] rest)) (R.emb (F (d.decV [] c) (A.decV [] rest))) (m.set i (.blk T (d.emb (S (d.decV [] c) (A.decV [] rest)))))
        | _ => .no
      | _ => .no
    | [] => .no) Γ
theorem FH.mt_ok {f : FuncId} {σ α ρ : Type} {T : TypeId} {d : DT σ} {A : DA α} {R : DR ρ} {pre : σ → α → Prop} {F : σ → α → ρ} {S : σ → α → σ} {Γ : FH} (hf : okFn P f = true)
    (h : ∀ s y, pre s y → FnOK P f (.ptr 0 [] 0 :: A.emb y) [.blk T (d.emb s)] (R.emb (F s y)) [.blk T (d.emb (S s y))]) (hΓ : FHOK P Γ) : FHOK P (FH.mt f T d A R pre F S Γ) :=
  FH.on_ok (fun args m => by
    cases args with
    | nil => trivial
    | cons x rest =>
      cases x with
      | ptr i p o =>
        simp only
        cases hm : memAt m i with
        | dead => trivial
        | vec T' w l => trivial
        | mp ek ev l => trivial
        | blk T' c =>
          rintro ⟨rfl, rfl, rfl, h1, h2, h3⟩
          refine ⟨hf, ?_⟩
          generalize hs : d.decV [] c = s at h1 h3 ⊢
          generalize hy : A.decV [] rest = y at h2 h3 ⊢
          subst h1; subst h2
          have hi : i < m.length := by
            rcases Nat.lt_or_ge i m.length with hi | hi
            · exact hi
            · rw [memAt_ge hi] at hm; cases hm
          have key := call_of_fn (args := .ptr i [] 0 :: A.emb y) (m := m) (h s y h3) [i] (by simp) (by simp [hm, Res.isBlk]) (by simp only [renL, A.ren, Sx.ren, renI, selI, List.contains_cons, BEq.rfl, Bool.true_or, if_true, List.idxOf_cons_self])
            (by simp only [selM, List.map_cons, List.map_nil, hm, renR, d.ren]) (by simp) (by intro j hj; simp at hj; subst hj; rfl)
          rw [R.ren] at key
          have hmm : mergeM [i] m [.blk T' (d.emb (S s y))] = m.set i (.blk T' (d.emb (S s y))) := by
            simp [mergeM, memAt, renR, d.ren]
          rwa [hmm] at key
      | _ => trivial) hΓ
/-- What is owned, held fast as data. -/
def DT.frz {α : Type} (d : DT α) : Frz := ⟨fun m x => d.emb (d.decV m x), fun m x => d.decP m x ∧ x.isVal = true, fun g _ h _ hs => d.ok g h.1 hs, fun h => d.agg h.1, fun h => h.2⟩
/-- Results that may hold what is held fast. -/
structure DP (α : Type) where
  emb : α → SV
  ren : ∀ (r : Nat → Option Nat) (y : α), Sx.ren r (emb y) = emb y
def DP.one {α : Type} (d : DT α) : DP α := ⟨d.emb, d.ren⟩
def DP.two {α β : Type} (a : DT α) (b : DT β) : DP (α × β) := ⟨fun y => .tup [a.emb y.1, b.emb y.2], fun r y => by simp only [Sx.ren, renL, a.ren, b.ren]⟩
def DP.three {α β γ : Type} (a : DT α) (b : DT β) (c : DT γ) : DP (α × β × γ) := ⟨fun y => .tup [a.emb y.1, b.emb y.2.1, c.emb y.2.2], fun r y => by simp only [Sx.ren, renL, a.ren, b.ren, c.ren]⟩
/-- A callee that is handed nothing that is owned: what it hands back may be held fast. -/
def FH.pz (f : FuncId) {α ρ : Type} (A : DA α) (R : DP ρ) (pre : α → Prop) (F : α → ρ) (Γ : FH) : FH :=
  FH.on f (fun args m => .ro (A.emb (A.decV [] args) = args ∧ pre (A.decV [] args)) (R.emb (F (A.decV [] args)))) Γ
theorem FH.pz_ok {f : FuncId} {α ρ : Type} {A : DA α} {R : DP ρ} {pre : α → Prop} {F : α → ρ} {Γ : FH} (hf : okFn P f = true) (h : ∀ y, pre y → FnOK P f (A.emb y) [] (R.emb (F y)) []) (hΓ : FHOK P Γ) : FHOK P (FH.pz f A R pre F Γ) :=
  FH.on_ok (fun args m hp => ⟨hf, by
    have := call_of_fn0 (m := m) (args := args) (h _ hp.2) (by rw [← hp.1]; rw [A.vE]; exact A.ren _ _)
    rw [R.ren] at this
    simpa using this⟩) hΓ
/-- A callee for which all that its caller owns is held fast, for good. -/
def FH.fz (f : FuncId) {α ρ : Type} (A : DA α) (R : DP ρ) (pre : α → Prop) (F : α → ρ) (Γ : FH) : FH :=
  FH.on f (fun args m => .is (A.decP m args ∧ pre (A.decV m args)) (R.emb (F (A.decV m args))) (deads m)) Γ
theorem call_fz {f : FuncId} {args args0 : List SV} {m : List Res} {res : SV} (h : FnOK P f args0 [] res []) (ha : ∀ ε w vs, Good ε m w → SatA args ε vs → SatA args0 (frz ε m w).cl vs) (hr : ∀ r, ren r res = res) : CallStep P f args m res (deads m) := by
  intro β ε vs w hi hs
  have hs' : SatA args0 (selE [] (frz ε m w)) vs := SatA.mono args0 (ε := (frz ε m w).cl) ⟨Nat.le_refl _, fun _ h => absurd h (Nat.not_lt_zero _), fun _ h => absurd h (Nat.not_lt_zero _), fun _ _ h => h⟩ (ha _ _ _ hi.good hs)
  refine (call_core (m := deads m) h [] List.nodup_nil (fun i h => by cases h) rfl (Nat.zero_le _) (fun j hj => absurd hj (Nat.not_lt_zero _)) hi.freeze hs').mono fun e w' ⟨v, ε', he, hle, hv, hi'⟩ => ?_
  have hmm : mergeM [] (deads m) [] = deads m := by simp [mergeM]
  rw [hmm] at hi'
  rw [hr] at hv
  have h0 : ε.Le (frz ε m w) := ⟨Nat.le_refl _, fun _ _ => rfl, fun _ _ => rfl, frz_H hi.good⟩
  exact ⟨v, ε', he, h0.trans hle, hv, hi'⟩
theorem FH.fz_ok {f : FuncId} {α ρ : Type} {A : DA α} {R : DP ρ} {pre : α → Prop} {F : α → ρ} {Γ : FH} (hf : okFn P f = true) (h : ∀ y, pre y → FnOK P f (A.emb y) [] (R.emb (F y)) []) (hΓ : FHOK P Γ) : FHOK P (FH.fz f A R pre F Γ) :=
  FH.on_ok (fun args m hp => ⟨hf, call_fz (h _ hp.2) (fun ε w vs g hs => A.ok g hp.1 hs) (R.ren · _)⟩) hΓ
section words
variable {α : Type} {m : List Res}
theorem int_emb (n : Int) : DT.int.emb n = .int .i64 n := nr rfl
theorem byte_emb (n : Int) : DT.byte.emb n = .int .u8 n := nr rfl
theorem bool_emb (b : Bool) : DT.bool.emb b = .bool b := nr rfl
theorem str_emb (s : List UInt8) : DT.str.emb s = .str s := nr rfl
theorem int_decV (n : Int) : DT.int.decV m (.int .i64 n) = n := nr rfl
theorem byte_decV (n : Int) : DT.byte.decV m (.int .u8 n) = n := nr rfl
theorem bool_decV (b : Bool) : DT.bool.decV m (.bool b) = b := nr rfl
theorem str_decV (s : List UInt8) : DT.str.decV m (.str s) = s := nr rfl
theorem int_decP (n : Int) : DT.int.decP m (.int .i64 n) = True := eq_true rfl
theorem byte_decP (n : Int) : DT.byte.decP m (.int .u8 n) = True := eq_true rfl
theorem bool_decP (b : Bool) : DT.bool.decP m (.bool b) = True := eq_true trivial
theorem str_decP (s : List UInt8) : DT.str.decP m (.str s) = True := eq_true trivial
theorem dt_vE (d : DT α) (y : α) : d.decV m (d.emb y) = y := d.vE m y
theorem dt_pE (d : DT α) (y : α) : d.decP m (d.emb y) = True := eq_true (d.pE m y)
theorem dt_val (d : DT α) (y : α) : (d.emb y).isVal = true := d.val y
theorem dt_ren (d : DT α) (r) (y : α) : ren r (d.emb y) = d.emb y := d.ren r y
theorem dt_kill (d : DT α) (i) (y : α) : kill i (d.emb y) = d.emb y := d.kill i y
theorem dt_renL (d : DT α) (r) (l : List α) : renL r (l.map d.emb) = l.map d.emb := by
  induction l with
  | nil => rfl
  | cons x l ih => simp only [List.map_cons, renL]; rw [d.ren, ih]
theorem dt_killL (d : DT α) (r) (l : List α) : killL r (l.map d.emb) = l.map d.emb := by
  induction l with
  | nil => rfl
  | cons x l ih => simp only [List.map_cons, killL]; rw [d.kill, ih]
theorem arr_emb (n w : Nat) (d : DT α) (f : Nat → α) : (DT.arr n w d).emb f = .arr n w fun i => d.emb (f i) := nr rfl
theorem arr_decV (n w : Nat) (d : DT α) (n' w' : Nat) (f : Nat → SV) : (DT.arr n w d).decV m (.arr n' w' f) = fun i => d.decV m (f i) := nr rfl
theorem arr_decP (n w : Nat) (d : DT α) (n' w' : Nat) (f : Nat → SV) : (DT.arr n w d).decP m (.arr n' w' f) = (n' = n ∧ w' = w ∧ ∀ i, i < n → d.decP m (f i)) := nr rfl
theorem list_emb (w : Nat) (d : DT α) (l : List α) : (DT.list w d).emb l = .lst w d.dft d.emb l := nr rfl
theorem list_decV_lst {τ : Type} (w : Nat) (d : DT α) (w' : Nat) (x : τ) (f : τ → SV) (l : List τ) : (DT.list w d).decV m (.lst w' x f l) = l.map fun y => d.decV m (f y) := nr rfl
theorem list_decP_lst {τ : Type} (w : Nat) (d : DT α) (w' : Nat) (x : τ) (f : τ → SV) (l : List τ) : (DT.list w d).decP m (.lst w' x f l) = (w' = w ∧ allL l fun y => d.decP m (f y)) := nr rfl
theorem list_decV_nils (w : Nat) (d : DT α) : (DT.list w d).decV m .nils = [] := nr rfl
theorem list_decP_nils (w : Nat) (d : DT α) : (DT.list w d).decP m .nils = True := nr rfl
theorem list_decV_vec (w : Nat) (d : DT α) (i n : Nat) : (DT.list w d).decV m (.vec i n) = (match memAt m i with
      | .vec _ _ l => l.map fun y => d.decV m y
      | _ => []) := nr rfl
theorem list_decP_vec (w : Nat) (d : DT α) (i n : Nat) : (DT.list w d).decP m (.vec i n) = (match memAt m i with
      | .vec _ w' l => w' = w ∧ allL l fun y => d.decP m y
      | _ => False) := nr rfl
theorem ref_emb (d : DT α) (y : α) : d.ref.emb y = .ref (d.emb y) [] 0 := nr rfl
theorem ref_decV_ref (d : DT α) (c p o) : d.ref.decV m (.ref c p o) = d.decV m c := nr rfl
theorem ref_decP_ref (d : DT α) (c p o) : d.ref.decP m (.ref c p o) = (p = [] ∧ o = 0 ∧ d.decP m c) := nr rfl
theorem ref_decV_ptr (d : DT α) (i p o) : d.ref.decV m (.ptr i p o) = (match memAt m i with
      | .blk _ c => d.decV m c
      | _ => d.dft) := nr rfl
theorem ref_decP_ptr (d : DT α) (i p o) : d.ref.decP m (.ptr i p o) = (match memAt m i with
      | .blk _ c => p = [] ∧ o = 0 ∧ d.decP m c
      | _ => False) := nr rfl
theorem noH_junk : NoH .junk := fun _ _ _ _ _ _ h => h
theorem fnc_emb (f : Nat) : DT.fnc.emb f = .fn f [] := nr rfl
theorem fnc_decV (f : FuncId) : DT.fnc.decV m (.fn f []) = f := nr rfl
theorem fnc_decP (f : FuncId) : DT.fnc.decP m (.fn f []) = True := nr rfl
theorem da_vE (A : DA α) (y : α) : A.decV m (A.emb y) = y := A.vE m y
theorem da_pE (A : DA α) (y : α) : A.decP m (A.emb y) = True := eq_true (A.pE m y)
theorem da_ren (A : DA α) (r) (y : α) : renL r (A.emb y) = A.emb y := A.ren r y
theorem da_kill (A : DA α) (i) (y : α) : killL i (A.emb y) = A.emb y := A.kill i y
theorem fop_none (f : FuncId) (A : DA α) : (DT.fop f A).emb none = .nilf := nr rfl
theorem fop_some (f : FuncId) (A : DA α) (k : α) : (DT.fop f A).emb (some k) = .fn f (A.emb k) := nr rfl
theorem fop_decV_none (f : FuncId) (A : DA α) : (DT.fop f A).decV m .nilf = none := nr rfl
theorem fop_decV_some (f g : FuncId) (A : DA α) (caps : List SV) : (DT.fop f A).decV m (.fn g caps) = some (A.decV m caps) := nr rfl
theorem fop_decP_none (f : FuncId) (A : DA α) : (DT.fop f A).decP m .nilf = True := rfl
theorem fop_decP_some (f g : FuncId) (A : DA α) (caps : List SV) : (DT.fop f A).decP m (.fn g caps) = (g = f ∧ A.decP m caps) := rfl
theorem clo_emb (f : FuncId) (A : DA α) (k : α) : (DT.clo f A).emb k = .fn f (A.emb k) := nr rfl
theorem clo_decV (f g : FuncId) (A : DA α) (caps : List SV) : (DT.clo f A).decV m (.fn g caps) = A.decV m caps := nr rfl
theorem clo_decP (f g : FuncId) (A : DA α) (caps : List SV) : (DT.clo f A).decP m (.fn g caps) = (g = f ∧ A.decP m caps) := rfl
theorem list_dft {α : Type} (w : Nat) (d : DT α) : (DT.list w d).dft = [] := nr rfl
theorem int_dft : DT.int.dft = 0 := nr rfl
theorem bool_dft : DT.bool.dft = false := nr rfl
theorem map_dec {α : Type} {m : List Res} (d : DT α) (l : List α) : List.map (fun y => d.decV m y) (l.map d.emb) = l := by
  rw [List.map_map]
  have : (fun y => d.decV m y) ∘ d.emb = id := by funext y; exact d.vE m y
  rw [this, List.map_id]
theorem da_nilV : DA.nil.decV m [] = () := nr rfl
theorem da_nilP : DA.nil.decP m [] = True := nr rfl
theorem da_consV {β : Type} (d : DT α) (r : DA β) (x xs) : (DA.cons d r).decV m (x :: xs) = (d.decV m x, r.decV m xs) := nr rfl
theorem da_consP {β : Type} (d : DT α) (r : DA β) (x xs) : (DA.cons d r).decP m (x :: xs) = (d.decP m x ∧ r.decP m xs) := nr rfl
theorem da_consE {β : Type} (d : DT α) (r : DA β) (y) : (DA.cons d r).emb y = d.emb y.1 :: r.emb y.2 := nr rfl
theorem da_nilE (y) : DA.nil.emb y = [] := nr rfl
theorem dp_one (d : DT α) (y) : (DP.one d).emb y = d.emb y := nr rfl
theorem dp_two {β : Type} (a : DT α) (b : DT β) (y) : (DP.two a b).emb y = .tup [a.emb y.1, b.emb y.2] := nr rfl
theorem dp_three {β γ : Type} (a : DT α) (b : DT β) (c : DT γ) (y) : (DP.three a b c).emb y = .tup [a.emb y.1, b.emb y.2.1, c.emb y.2.2] := nr rfl
theorem frz_P (d : DT α) (x) : (DT.frz d).P m x = (d.decP m x ∧ x.isVal = true) := rfl
theorem frz_dec (d : DT α) (x) : (DT.frz d).dec m x = d.emb (d.decV m x) := nr rfl
theorem dr_unit (y) : DR.unit.emb y = .tup [] := nr rfl
theorem dr_one (d : DT α) [Flat d] (y) : (DR.one d).emb y = d.emb y := nr rfl
theorem dr_two {β : Type} (a : DT α) (b : DT β) [Flat a] [Flat b] (y) : (DR.two a b).emb y = .tup [a.emb y.1, b.emb y.2] := nr rfl
theorem dr_three {β γ : Type} (a : DT α) (b : DT β) (c : DT γ) [Flat a] [Flat b] [Flat c] (y) : (DR.three a b c).emb y = .tup [a.emb y.1, b.emb y.2.1, c.emb y.2.2] := nr rfl
end words
end Go.Sx
