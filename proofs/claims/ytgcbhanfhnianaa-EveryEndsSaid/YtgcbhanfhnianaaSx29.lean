import Derived.Test.YtgcbhanfhnianaaSx23
/-! Sx, part 24: what a callee that only reads is handed, read off its symbols. -/
set_option linter.unusedVariables false
set_option linter.unusedSimpArgs false
namespace Go.Sx
open Go
variable {P : Program}
mutual
def decV : (T : TT) → List Res → SV → Den T
  | .int _, _, x => match x with
    | .int _ n => n
    | _ => (0 : Int)
  | .bool, _, x => match x with
    | .bool b => b
    | _ => false
  | .str, _, x => match x with
    | .str s => s
    | _ => ([] : List UInt8)
  | .st l, m, x => match x with
    | .agg xs => decVL l m xs
    | _ => dftL l
  | .arr _ _ T, m, x => match x with
    | .arr _ _ f => fun i : Nat => decV T m (f i)
    | _ => fun _ : Nat => dft T
  | .sl _ T, m, x => match x with
    | .lst _ _ f l => l.map fun y => decV T m (f y)
    | .vec i _ => match memAt m i with
      | .vec _ _ l => l.map fun y => decV T m y
      | _ => ([] : List (Den T))
    | _ => ([] : List (Den T))
  | .ref T, m, x => match x with
    | .ref c _ _ => decV T m c
    | .ptr i _ _ => match memAt m i with
      | .blk _ c => decV T m c
      | _ => dft T
    | _ => dft T
def decVL : (l : List TT) → List Res → List SV → DenL l
  | [], _, _ => ()
  | T :: l, m, xs => match xs with
    | x :: xs => (decV T m x, decVL l m xs)
    | [] => dftL (T :: l)
end
mutual
def decP : (T : TT) → List Res → SV → Prop
  | .int k, _, x => match x with
    | .int k' _ => k' = k
    | _ => False
  | .bool, _, x => match x with
    | .bool _ => True
    | _ => False
  | .str, _, x => match x with
    | .str _ => True
    | _ => False
  | .st l, m, x => match x with
    | .agg xs => decPL l m xs
    | _ => False
  | .arr n w T, m, x => match x with
    | .arr n' w' f => n' = n ∧ w' = w ∧ ∀ i, i < n → decP T m (f i)
    | _ => False
  | .sl w T, m, x => match x with
    | .lst w' _ f l => w' = w ∧ ∀ y ∈ l, decP T m (f y)
    | .vec i _ => match memAt m i with
      | .vec _ w' l => w' = w ∧ ∀ y ∈ l, decP T m y
      | _ => False
    | .nils => True
    | _ => False
  | .ref T, m, x => match x with
    | .ref c p o => p = [] ∧ o = 0 ∧ decP T m c
    | .ptr i p o => match memAt m i with
      | .blk _ c => p = [] ∧ o = 0 ∧ decP T m c
      | _ => False
    | _ => False
def decPL : (l : List TT) → List Res → List SV → Prop
  | [], _, xs => match xs with
    | [] => True
    | _ => False
  | T :: l, m, xs => match xs with
    | x :: xs => decP T m x ∧ decPL l m xs
    | [] => False
end
mutual
theorem decV_emb : ∀ (T : TT) (m : List Res) (y : Den T), decV T m (emb T y) = y
  | .int _, _, _ => rfl
  | .bool, _, _ => rfl
  | .str, _, _ => rfl
  | .st l, m, y => decVL_emb l m y
  | .arr _ _ T, m, f => by
    simp only [emb, decV]
    funext i
    exact decV_emb T m (f i)
  | .sl _ T, m, l => by
    simp only [emb, decV]
    have : (fun y => decV T m (emb T y)) = id := by funext y; exact decV_emb T m y
    rw [this, List.map_id]
  | .ref T, m, y => by
    simp only [emb, decV]
    exact decV_emb T m y
theorem decVL_emb : ∀ (l : List TT) (m : List Res) (y : DenL l), decVL l m (embL l y) = y
  | [], _, _ => rfl
  | T :: l, m, y => by
    simp only [embL, decVL]
    rw [decV_emb T m y.1, decVL_emb l m y.2]
end
mutual
theorem decP_emb : ∀ (T : TT) (m : List Res) (y : Den T), decP T m (emb T y)
  | .int _, _, _ => rfl
  | .bool, _, _ => trivial
  | .str, _, _ => trivial
  | .st l, m, y => decPL_emb l m y
  | .arr _ _ T, m, f => by
    simp only [emb, decP]
    exact ⟨trivial, trivial, fun i _ => decP_emb T m (f i)⟩
  | .sl _ T, m, l => by
    simp only [emb, decP]
    exact ⟨trivial, fun y _ => decP_emb T m y⟩
  | .ref T, m, y => by
    simp only [emb, decP]
    exact ⟨trivial, trivial, decP_emb T m y⟩
theorem decPL_emb : ∀ (l : List TT) (m : List Res) (y : DenL l), decPL l m (embL l y)
  | [], _, _ => trivial
  | T :: l, m, y => ⟨decP_emb T m y.1, decPL_emb l m y.2⟩
end
theorem dec_agg : ∀ (T : TT) {m : List Res} {x : SV}, decP T m x → (emb T (decV T m x)).isAgg = x.isAgg := by
  intro T m x h
  cases T <;> cases x <;> simp only [decP] at h <;> first
    | exact h.elim
    | rfl
mutual
theorem dec_ok {ε : Env} {m : List Res} {w : World} (g : Good ε m w) : ∀ (T : TT) {x : SV}, decP T m x → ∀ {cs : List Value}, SatC x ε cs → SatC (emb T (decV T m x)) (frz ε m w).cl cs
  | .int k, x, h, cs, hs => by
    cases x <;> simp only [decP] at h
    subst h
    exact hs
  | .bool, x, h, cs, hs => by
    cases x <;> simp only [decP] at h
    exact hs
  | .str, x, h, cs, hs => by
    cases x <;> simp only [decP] at h
    exact hs
  | .st l, x, h, cs, hs => by
    cases x <;> simp only [decP] at h
    simp only [SatC] at hs
    simp only [decV, emb, SatC]
    exact decL_ok g l h hs
  | .arr n wd' T, x, h, cs, hs => by
    cases x <;> simp only [decP] at h
    obtain ⟨rfl, rfl, h⟩ := h
    simp only [SatC] at hs
    simp only [decV, emb, SatC]
    exact ⟨hs.1, fun i hi => dec_ok g T (h i hi) (hs.2 i hi)⟩
  | .sl wd' T, x, h, cs, hs => by
    have hcl : ∀ {y : SV} {cs : List Value}, SatC y ε.cl cs → SatC y ε cs := fun h => SatC.mono _ ε.cl_le h
    cases x with
    | lst w' d f l =>
      simp only [decP] at h
      obtain ⟨rfl, h⟩ := h
      simp only [SatC] at hs
      simp only [decV, emb, SatC]
      obtain ⟨ao, cap, h1, h2, h3, h4, h5⟩ := hs
      refine ⟨ao, cap, by rw [h1, List.length_map], by rw [List.length_map]; exact h2, h3, h4, fun i hi => ?_⟩
      rw [List.length_map] at hi
      obtain ⟨b, off, T', fz, cur, e1, e2, e3, e4⟩ := h5 i hi
      refine ⟨b, off, T', fz, cur, e1, frz_H g _ _ e2, e3, ?_⟩
      have hx : l.getD i d = l[i] := by simp [List.getD, hi]
      rw [hx] at e4
      have hy : (l.map fun y => decV T m (f y)).getD i (dft T) = decV T m (f l[i]) := by simp [List.getD, hi]
      rw [hy]
      exact dec_ok g T (h _ (List.getElem_mem hi)) (hcl e4)
    | nils =>
      simp only [SatC] at hs
      subst hs
      simp only [decV, emb, SatC]
      exact ⟨none, 0, rfl, Nat.le_refl _, Nat.zero_le _, fun _ => rfl, fun i hi => absurd hi (Nat.not_lt_zero _)⟩
    | vec i n =>
      simp only [decP] at h
      cases hm : memAt m i with
      | vec E w' l =>
        rw [hm] at h
        obtain ⟨rfl, h⟩ := h
        simp only [decV, hm, emb, SatC]
        simp only [SatC] at hs
        obtain ⟨h1, hn, h3⟩ := hs
        have hr := g.res i
        rw [hm] at hr
        obtain ⟨xs, ⟨e0, e1⟩, e2⟩ := hr
        rcases e1 with ⟨k1, k2⟩ | ⟨b, cap, cur, k1, k2, k3, k4, k5, k6, k7⟩
        · refine ⟨none, 0, by rw [h3, k1]; simp [k2], by simp [k2], Nat.zero_le _, fun _ => rfl, fun j hj => ?_⟩
          rw [List.length_map] at hj; omega
        · refine ⟨some ⟨b, 0, none⟩, cap, by rw [h3, k1, List.length_map], by rw [List.length_map]; exact k4, k5, (fun h => by cases h), fun j hj => ?_⟩
          rw [List.length_map] at hj
          have hjl : j * w' + w' ≤ l.length * w' := by
            have := Nat.mul_le_mul_right w' (show j + 1 ≤ l.length from hj)
            rw [Nat.succ_mul] at this; exact this
          have hcap : l.length * w' ≤ cap * w' := Nat.mul_le_mul_right _ k4
          refine ⟨b, 0, E, (0, 0), cur, rfl, ?_, by omega, ?_⟩
          · show (frz ε m w).H b = _
            rw [frz_own (i := i) (by rw [hm]; simp [ownR, k1, Value.ownBlock])]; exact k3
          · have hx : l.getD j .junk = l[j] := by simp [List.getD, hj]
            have hy : (l.map fun y => decV T m y).getD j (dft T) = decV T m l[j] := by simp [List.getD, hj]
            rw [hy]
            have e3 := e2 j hj
            rw [hx] at e3
            have := dec_ok g T (h _ (List.getElem_mem hj)) e3
            have hsu : sub cur.toList (0 + j * w') w' = sub xs (j * w') w' := by
              rw [← k7]
              simp only [sub, Nat.zero_add]
              rw [List.drop_take, List.take_take]
              congr 1
              omega
            rw [hsu]; exact this
      | dead => rw [hm] at h; exact h.elim
      | blk T c => rw [hm] at h; exact h.elim
      | mp ek ev l => rw [hm] at h; exact h.elim
    | _ => exact h.elim
  | .ref T, x, h, cs, hs => by
    have hcl : ∀ {y : SV} {cs : List Value}, SatC y ε.cl cs → SatC y ε cs := fun h => SatC.mono _ ε.cl_le h
    cases x with
    | ref c p o =>
      simp only [decP] at h
      obtain ⟨rfl, rfl, h⟩ := h
      simp only [SatC] at hs
      simp only [decV, emb, SatC]
      obtain ⟨b, T', fz, cur, h1, h2, h3, h4⟩ := hs
      exact ⟨b, T', fz, cur, h1, frz_H g _ _ h2, h3, dec_ok g T h (hcl h4)⟩
    | ptr i p o =>
      simp only [decP] at h
      cases hm : memAt m i with
      | blk T' c =>
        rw [hm] at h
        obtain ⟨rfl, rfl, h⟩ := h
        simp only [decV, hm, emb, SatC]
        simp only [SatC] at hs
        obtain ⟨h1, h2, h3⟩ := hs
        have hr := g.res i
        rw [hm] at hr
        obtain ⟨cs', e1, e2⟩ := hr
        refine ⟨ε.blk i, T', (0, 0), cs'.toArray, h3, ?_, h2, dec_ok g T h e2⟩
        show (frz ε m w).H _ = _
        rw [frz_own (i := i) (by rw [hm]; rfl)]; exact e1
      | dead => rw [hm] at h; exact h.elim
      | vec E w' l => rw [hm] at h; exact h.elim
      | mp ek ev l => rw [hm] at h; exact h.elim
    | _ => exact h.elim
theorem decL_ok {ε : Env} {m : List Res} {w : World} (g : Good ε m w) : ∀ (l : List TT) {xs : List SV}, decPL l m xs → ∀ {cs : List Value}, SatL xs ε cs → SatL (embL l (decVL l m xs)) (frz ε m w).cl cs
  | [], xs, h, cs, hs => by
    cases xs with
    | nil => exact hs
    | cons => exact h.elim
  | T :: l, xs, h, cs, hs => by
    cases xs with
    | nil => exact h.elim
    | cons x xs =>
      obtain ⟨h1, h2⟩ := h
      simp only [SatL] at hs
      obtain ⟨a, b, e1, e2, e3⟩ := hs
      simp only [decVL, embL, SatL]
      exact ⟨a, b, e1, dec_ok g T h1 e2, decL_ok g l h2 e3⟩
end
def shf (n : Nat) : Nat → Option Nat := fun j => some (n + j)
theorem backI_nil (n : Nat) : backI [] n = shf n := by funext j; simp [backI, shf]
theorem call_rd {f : FuncId} {args args0 : List SV} {m m1 : List Res} {res : SV} (h : FnOK P f args0 [] res m1) (ha : ∀ ε w vs, Good ε m w → SatA args ε vs → SatA args0 (frz ε m w).cl vs)
    (hres : NoHV (ren (shf m.length) res)) (hm1 : ∀ x ∈ m1, ResNoH (renR (shf m.length) x)) :
    CallStep P f args m (ren (shf m.length) res) (m ++ m1.map (renR (shf m.length))) := by
  rw [← backI_nil] at hres hm1 ⊢
  intro β ε vs w hi hs
  have hs' : SatA args0 (selE [] (frz ε m w)) vs := SatA.mono args0 (ε := (frz ε m w).cl) ⟨Nat.le_refl _, fun _ h => absurd h (Nat.not_lt_zero _), fun _ h => absurd h (Nat.not_lt_zero _), fun _ _ h => h⟩ (ha _ _ _ hi.good hs)
  have hdl : (deads m).length = m.length := by simp [deads]
  refine (call_core (m := deads m) h [] List.nodup_nil (fun i h => by cases h) rfl (Nat.zero_le _) (fun j hj => absurd hj (Nat.not_lt_zero _)) hi.freeze hs').mono fun e w' ⟨v, ε', he, hle, hv, hi'⟩ => ?_
  have hmm : mergeM [] (deads m) m1 = deads m ++ m1.map (renR (backI [] m.length)) := by simp [mergeM, hdl]
  rw [hmm] at hi'
  rw [hdl] at hv
  obtain ⟨k1, k2⟩ := Inv.thaw hi hle hi' (by
    intro x hx
    obtain ⟨y, hy, rfl⟩ := List.mem_map.1 hx
    exact hm1 y hy)
  exact ⟨v, _, he, k2, hres ε' _ v rfl rfl rfl hv, k1⟩
mutual
def flatT : TT → Bool
  | .st l => flatTL l
  | .arr _ _ T => flatT T
  | .sl _ _ => false
  | .ref _ => false
  | _ => true
def flatTL : List TT → Bool
  | [] => true
  | T :: l => flatT T && flatTL l
end
mutual
theorem ren_emb : ∀ (T : TT) (r : Nat → Option Nat) (y : Den T), ren r (emb T y) = emb T y
  | .int _, _, _ => rfl
  | .bool, _, _ => rfl
  | .str, _, _ => rfl
  | .st l, r, y => by simp only [emb, ren]; rw [ren_embL]
  | .arr _ _ T, r, f => by simp only [emb, ren]; congr; funext i; exact ren_emb T r (f i)
  | .sl _ T, _, _ => rfl
  | .ref T, _, _ => rfl
theorem ren_embL : ∀ (l : List TT) (r : Nat → Option Nat) (y : DenL l), renL r (embL l y) = embL l y
  | [], _, _ => rfl
  | T :: l, r, y => by simp only [embL, renL]; rw [ren_emb T r y.1, ren_embL l r y.2]
end
mutual
theorem kill_emb : ∀ (T : TT) (i : Nat) (y : Den T), kill i (emb T y) = emb T y
  | .int _, _, _ => rfl
  | .bool, _, _ => rfl
  | .str, _, _ => rfl
  | .st l, i, y => by simp only [emb, kill]; rw [kill_embL]
  | .arr _ _ T, i, f => by simp only [emb, kill]; congr; funext j; exact kill_emb T i (f j)
  | .sl _ T, _, _ => rfl
  | .ref T, _, _ => rfl
theorem kill_embL : ∀ (l : List TT) (i : Nat) (y : DenL l), killL i (embL l y) = embL l y
  | [], _, _ => rfl
  | T :: l, i, y => by simp only [embL, killL]; rw [kill_emb T i y.1, kill_embL l i y.2]
end
theorem renL_map_emb (T : TT) (r : Nat → Option Nat) (l : List (Den T)) : renL r (l.map (emb T)) = l.map (emb T) := by
  induction l with
  | nil => rfl
  | cons x l ih => simp only [List.map_cons, renL]; rw [ren_emb, ih]
theorem killL_map_emb (T : TT) (i : Nat) (l : List (Den T)) : killL i (l.map (emb T)) = l.map (emb T) := by
  induction l with
  | nil => rfl
  | cons x l ih => simp only [List.map_cons, killL]; rw [kill_emb, ih]
theorem killL_append (i : Nat) (a b : List SV) : killL i (a ++ b) = killL i a ++ killL i b := by
  induction a with
  | nil => rfl
  | cons x l ih => simp only [List.cons_append, killL]; rw [ih]
theorem renL_append (r : Nat → Option Nat) (a b : List SV) : renL r (a ++ b) = renL r a ++ renL r b := by
  induction a with
  | nil => rfl
  | cons x l ih => simp only [List.cons_append, renL]; rw [ih]
theorem noH_emb : ∀ (T : TT) (y : Den T), flatT T = true → NoH (emb T y)
  | .int k, y, _ => noH_int k y
  | .bool, y, _ => noH_bool y
  | .str, y, _ => noH_str y
  | .st l, y, h => noH_agg (noL l y h)
  | .arr _ _ T, f, h => noH_arr fun i _ => noH_emb T (f i) h
where noL : ∀ (l : List TT) (y : DenL l), flatTL l = true → ∀ x ∈ embL l y, NoH x
  | [], _, _, _, hx => by cases hx
  | T :: l, y, h, x, hx => by
    simp only [flatTL, Bool.and_eq_true] at h
    simp only [embL, List.mem_cons] at hx
    rcases hx with rfl | hx
    · exact noH_emb T y.1 h.1
    · exact noL l y.2 h.2 x hx
theorem isVal_emb (T : TT) (y : Den T) : (emb T y).isVal = true := by cases T <;> rfl
inductive RT where
  | one (T : TT)
  | two (T U : TT)
  | three (T U V : TT)
@[reducible] def DenR : RT → Type
  | .one T => Den T
  | .two T U => Den T × Den U
  | .three T U V => Den T × Den U × Den V
def embR : (R : RT) → DenR R → SV
  | .one T, y => emb T y
  | .two T U, y => .tup [emb T y.1, emb U y.2]
  | .three T U V, y => .tup [emb T y.1, emb U y.2.1, emb V y.2.2]
def FH.fn (f : FuncId) (Ts : List TT) (R : RT) (pre : DenL Ts → Prop) (F : DenL Ts → DenR R) (Γ : FH) : FH :=
  FH.on f (fun args m => .ro (decPL Ts m args ∧ pre (decVL Ts m args)) (embR R (F (decVL Ts m args)))) Γ
end Go.Sx
/-! Sx, part 25: data, and the symbols that stand for them. -/
set_option linter.unusedVariables false
set_option linter.unusedSimpArgs false
namespace Go.Sx
open Go
variable {P : Program}
def allL.{u} {β : Type u} (l : List β) (p : β → Prop) : Prop := ∀ y ∈ l, p y
theorem allL_cons.{u} {β : Type u} (p : β → Prop) (x : β) (l : List β) : allL (x :: l) p = (p x ∧ allL l p) := by simp [allL]
theorem allL_nil.{u} {β : Type u} (p : β → Prop) : allL ([] : List β) p = True := by simp [allL]
theorem allL_app.{u} {β : Type u} (p : β → Prop) (a b : List β) : allL (a ++ b) p = (allL a p ∧ allL b p) := by simp [allL, or_imp, forall_and]
theorem allL_map.{u, v} {β : Type u} {γ : Type v} (p : β → Prop) (f : γ → β) (l : List γ) : allL (l.map f) p = allL l (fun y => p (f y)) := by simp [allL]
theorem allL_true.{u} {β : Type u} (l : List β) : allL l (fun _ => True) = True := by simp [allL]
structure DT (α : Type) where
  dft : α
  emb : α → SV
  decV : List Res → SV → α
  decP : List Res → SV → Prop
  ok : ∀ {ε : Env} {m : List Res} {w : World}, Good ε m w → ∀ {x : SV}, decP m x → ∀ {cs : List Value}, SatC x ε cs → SatC (emb (decV m x)) (frz ε m w).cl cs
  agg : ∀ {m : List Res} {x : SV}, decP m x → (emb (decV m x)).isAgg = x.isAgg
  vE : ∀ (m : List Res) (y : α), decV m (emb y) = y
  pE : ∀ (m : List Res) (y : α), decP m (emb y)
  ren : ∀ (r : Nat → Option Nat) (y : α), Sx.ren r (emb y) = emb y
  kill : ∀ (i : Nat) (y : α), Sx.kill i (emb y) = emb y
  val : ∀ y : α, (emb y).isVal = true
def DT.ofTT (T : TT) : DT (Den T) := ⟨Sx.dft T, Sx.emb T, Sx.decV T, Sx.decP T, fun g _ h _ hs => dec_ok g T h hs, fun h => dec_agg T h, decV_emb T, decP_emb T, ren_emb T, kill_emb T, isVal_emb T⟩
def DT.iso {α β : Type} (d : DT α) (f : α → β) (g : β → α) (h1 : ∀ x, f (g x) = x) (h2 : ∀ x, g (f x) = x) : DT β :=
  ⟨f d.dft, fun y => d.emb (g y), fun m x => f (d.decV m x), d.decP, fun gd _ h _ hs => by rw [h2]; exact d.ok gd h hs, fun h => by rw [h2]; exact d.agg h, fun m y => by rw [d.vE, h1], fun m y => d.pE m _, fun r y => d.ren r _, fun i y => d.kill i _, fun y => d.val _⟩
def DT.int : DT Int := DT.ofTT (.int .i64)
def DT.byte : DT Int := DT.ofTT (.int .u8)
def DT.bool : DT Bool := DT.ofTT .bool
def DT.str : DT (List UInt8) := DT.ofTT .str
def DT.arr {α : Type} (n w : Nat) (d : DT α) : DT (Nat → α) where
  dft := fun _ => d.dft
  emb := fun f => .arr n w fun i => d.emb (f i)
  decV := fun m x => match x with
    | .arr _ _ f => fun i => d.decV m (f i)
    | _ => fun _ => d.dft
  decP := fun m x => match x with
    | .arr n' w' f => n' = n ∧ w' = w ∧ ∀ i, i < n → d.decP m (f i)
    | _ => False
  ok := fun {ε m w} g {x} h {cs} hs => by
    cases x <;> simp only at h
    obtain ⟨rfl, rfl, h⟩ := h
    simp only [SatC] at hs ⊢
    exact ⟨hs.1, fun i hi => d.ok g (h i hi) (hs.2 i hi)⟩
  agg := fun {m x} h => by cases x <;> first | exact h.elim | rfl
  vE := fun m y => by funext i; exact d.vE m (y i)
  pE := fun m y => ⟨rfl, rfl, fun i _ => d.pE m (y i)⟩
  ren := fun r y => by simp only [Sx.ren]; congr; funext i; exact d.ren r (y i)
  kill := fun i y => by simp only [Sx.kill]; congr; funext j; exact d.kill i (y j)
  val := fun y => rfl
def DT.list {α : Type} (wd' : Nat) (d : DT α) : DT (List α) where
  dft := []
  emb := fun l => .lst wd' d.dft d.emb l
  decV := fun m x => match x with
    | .lst _ _ f l => l.map fun y => d.decV m (f y)
    | .lit _ _ f l => l.map fun y => d.decV m (f y)
    | .vec i _ => match memAt m i with
      | .vec _ _ l => l.map fun y => d.decV m y
      | _ => []
    | .pvec i n => match memAt m i with
      | .vec _ _ l => (l.take n).map fun y => d.decV m y
      | _ => []
    | _ => []
  decP := fun m x => match x with
    | .lst w' _ f l => w' = wd' ∧ allL l fun y => d.decP m (f y)
    | .lit w' _ f l => w' = wd' ∧ allL l fun y => d.decP m (f y)
    | .vec i _ => match memAt m i with
      | .vec _ w' l => w' = wd' ∧ allL l fun y => d.decP m y
      | _ => False
    | .pvec i n => match memAt m i with
      | .vec _ w' l => w' = wd' ∧ n ≤ l.length ∧ allL (l.take n) fun y => d.decP m y
      | _ => False
    | .nils => True
    | _ => False
  ok := fun {ε m w} g {x} h {cs} hs => by
    have hcl : ∀ {y : SV} {cs : List Value}, SatC y ε.cl cs → SatC y ε cs := fun h => SatC.mono _ ε.cl_le h
    cases x with
    | lst w' dd f l =>
      obtain ⟨rfl, h⟩ := h
      simp only [SatC] at hs ⊢
      obtain ⟨ao, cap, h1, h2, h3, h4, h5⟩ := hs
      refine ⟨ao, cap, by rw [h1, List.length_map], by rw [List.length_map]; exact h2, h3, h4, fun i hi => ?_⟩
      rw [List.length_map] at hi
      obtain ⟨b, off, T', fz, cur, e1, e2, e3, e4⟩ := h5 i hi
      refine ⟨b, off, T', fz, cur, e1, frz_H g _ _ e2, e3, ?_⟩
      have hx : l.getD i dd = l[i] := by simp [List.getD, hi]
      rw [hx] at e4
      have hy : (l.map fun y => d.decV m (f y)).getD i d.dft = d.decV m (f l[i]) := by simp [List.getD, hi]
      rw [hy]
      exact d.ok g (h _ (List.getElem_mem hi)) (hcl e4)
    | lit w' dd f l =>
      obtain ⟨rfl, h⟩ := h
      simp only [SatC] at hs ⊢
      obtain ⟨ao, h1, h3, h4, h5⟩ := hs
      refine ⟨ao, l.length, by rw [h1, List.length_map], by rw [List.length_map]; exact Nat.le_refl _, h3, h4, fun i hi => ?_⟩
      rw [List.length_map] at hi
      obtain ⟨b, off, T', fz, cur, e1, e2, e3, e4⟩ := h5 i hi
      refine ⟨b, off, T', fz, cur, e1, frz_H g _ _ e2, e3, ?_⟩
      have hx : l.getD i dd = l[i] := by simp [List.getD, hi]
      rw [hx] at e4
      have hy : (l.map fun y => d.decV m (f y)).getD i d.dft = d.decV m (f l[i]) := by simp [List.getD, hi]
      rw [hy]
      exact d.ok g (h _ (List.getElem_mem hi)) (hcl e4)
    | nils =>
      simp only [SatC] at hs ⊢
      subst hs
      exact ⟨none, 0, rfl, Nat.le_refl _, Nat.zero_le _, fun _ => rfl, fun i hi => absurd hi (Nat.not_lt_zero _)⟩
    | vec i n =>
      simp only at h ⊢
      cases hm : memAt m i with
      | vec E w' l =>
        rw [hm] at h
        obtain ⟨rfl, h⟩ := h
        simp only [SatC] at hs ⊢
        obtain ⟨h1, hn, h3⟩ := hs
        have hr := g.res i
        rw [hm] at hr
        obtain ⟨xs, ⟨e0, e1⟩, e2⟩ := hr
        rcases e1 with ⟨k1, k2⟩ | ⟨b, cap, cur, k1, k2, k3, k4, k5, k6, k7⟩
        · refine ⟨none, 0, by rw [h3, k1]; simp [k2], by simp [k2], Nat.zero_le _, fun _ => rfl, fun j hj => ?_⟩
          rw [List.length_map] at hj; omega
        · refine ⟨some ⟨b, 0, none⟩, cap, by rw [h3, k1, List.length_map], by rw [List.length_map]; exact k4, k5, (fun h => by cases h), fun j hj => ?_⟩
          rw [List.length_map] at hj
          have hjl : j * w' + w' ≤ l.length * w' := by
            have := Nat.mul_le_mul_right w' (show j + 1 ≤ l.length from hj)
            rw [Nat.succ_mul] at this; exact this
          have hcap : l.length * w' ≤ cap * w' := Nat.mul_le_mul_right _ k4
          refine ⟨b, 0, E, (0, 0), cur, rfl, ?_, by omega, ?_⟩
          · show (frz ε m w).H b = _
            rw [frz_own (i := i) (by rw [hm]; simp [ownR, k1, Value.ownBlock])]; exact k3
          · have hx : l.getD j .junk = l[j] := by simp [List.getD, hj]
            have hy : (l.map fun y => d.decV m y).getD j d.dft = d.decV m l[j] := by simp [List.getD, hj]
            rw [hy]
            have e3 := e2 j hj
            rw [hx] at e3
            have := d.ok g (h _ (List.getElem_mem hj)) e3
            have hsu : sub cur.toList (0 + j * w') w' = sub xs (j * w') w' := by
              rw [← k7]
              simp only [sub, Nat.zero_add]
              rw [List.drop_take, List.take_take]
              congr 1
              omega
            rw [hsu]; exact this
      | dead => rw [hm] at h; exact h.elim
      | blk T c => rw [hm] at h; exact h.elim
      | mp ek ev l => rw [hm] at h; exact h.elim
    | pvec i n =>
      simp only at h ⊢
      cases hm : memAt m i with
      | vec E w' l =>
        rw [hm] at h
        obtain ⟨rfl, hnl, h⟩ := h
        simp only [SatC] at hs ⊢
        obtain ⟨h1, ao, n0, cap0, hvv, hn0, h3⟩ := hs
        have hr := g.res i
        rw [hm] at hr
        obtain ⟨xs, ⟨e0, e1⟩, e2⟩ := hr
        have hlt : (l.take n).length = n := by rw [List.length_take]; omega
        rcases e1 with ⟨k1, k2⟩ | ⟨b, cap, cur, k1, k2, k3, k4, k5, k6, k7⟩
        · rw [hvv] at k1
          injection k1 with a1 a2 a3
          subst a1; subst a2; subst a3
          have : n = 0 := by omega
          subst this
          refine ⟨none, 0, by rw [h3]; simp, by simp, Nat.zero_le _, fun _ => rfl, fun j hj => ?_⟩
          rw [List.length_map, hlt] at hj; omega
        · rw [hvv] at k1
          injection k1 with a1 a2 a3
          subst a1; subst a3
          refine ⟨some ⟨b, 0, none⟩, cap0, by rw [h3, List.length_map, hlt], by rw [List.length_map, hlt]; omega, k5, (fun h => by cases h), fun j hj => ?_⟩
          rw [List.length_map, hlt] at hj
          have hjl : j * w' + w' ≤ l.length * w' := by
            have := Nat.mul_le_mul_right w' (show j + 1 ≤ l.length by omega)
            rw [Nat.succ_mul] at this; exact this
          have hcap : l.length * w' ≤ cap0 * w' := Nat.mul_le_mul_right _ k4
          refine ⟨b, 0, E, (0, 0), cur, rfl, ?_, by omega, ?_⟩
          · show (frz ε m w).H b = _
            rw [frz_own (i := i) (by rw [hm]; simp [ownR, hvv, Value.ownBlock])]; exact k3
          · have hx : l.getD j .junk = l[j] := by simp [List.getD, show j < l.length by omega]
            have hy : ((l.take n).map fun y => d.decV m y).getD j d.dft = d.decV m l[j] := by simp [List.getD, hj, show j < l.length by omega]
            rw [hy]
            have e3 := e2 j (by omega)
            rw [hx] at e3
            have := d.ok g (h _ (by rw [List.mem_take_iff_getElem]; exact ⟨j, by omega, rfl⟩)) e3
            have hsu : sub cur.toList (0 + j * w') w' = sub xs (j * w') w' := by
              rw [← k7]
              simp only [sub, Nat.zero_add]
              rw [List.drop_take, List.take_take]
              congr 1
              omega
            rw [hsu]; exact this
      | dead => rw [hm] at h; exact h.elim
      | blk T c => rw [hm] at h; exact h.elim
      | mp ek ev l => rw [hm] at h; exact h.elim
    | _ => exact h.elim
  agg := fun {m x} h => by cases x <;> first | exact h.elim | rfl
  vE := fun m y => by
    have : (fun y => d.decV m (d.emb y)) = id := by funext y; exact d.vE m y
    simp only [this, List.map_id]
  pE := fun m y => ⟨rfl, fun z _ => d.pE m z⟩
  ren := fun r y => rfl
  kill := fun i y => rfl
  val := fun y => rfl
def DT.ref {α : Type} (d : DT α) : DT α where
  dft := d.dft
  emb := fun y => .ref (d.emb y) [] 0
  decV := fun m x => match x with
    | .ref c _ _ => d.decV m c
    | .ptr i _ _ => match memAt m i with
      | .blk _ c => d.decV m c
      | _ => d.dft
    | _ => d.dft
  decP := fun m x => match x with
    | .ref c p o => p = [] ∧ o = 0 ∧ d.decP m c
    | .ptr i p o => match memAt m i with
      | .blk _ c => p = [] ∧ o = 0 ∧ d.decP m c
      | _ => False
    | _ => False
  ok := fun {ε m w} g {x} h {cs} hs => by
    have hcl : ∀ {y : SV} {cs : List Value}, SatC y ε.cl cs → SatC y ε cs := fun h => SatC.mono _ ε.cl_le h
    cases x with
    | ref c p o =>
      obtain ⟨rfl, rfl, h⟩ := h
      simp only [SatC] at hs ⊢
      obtain ⟨b, T', fz, cur, h1, h2, h3, h4⟩ := hs
      exact ⟨b, T', fz, cur, h1, frz_H g _ _ h2, h3, d.ok g h (hcl h4)⟩
    | ptr i p o =>
      simp only at h ⊢
      cases hm : memAt m i with
      | blk T' c =>
        rw [hm] at h
        obtain ⟨rfl, rfl, h⟩ := h
        simp only [SatC] at hs ⊢
        obtain ⟨h1, h2, h3⟩ := hs
        have hr := g.res i
        rw [hm] at hr
        obtain ⟨cs', e1, e2⟩ := hr
        refine ⟨ε.blk i, T', (0, 0), cs'.toArray, h3, ?_, h2, d.ok g h e2⟩
        show (frz ε m w).H _ = _
        rw [frz_own (i := i) (by rw [hm]; rfl)]; exact e1
      | dead => rw [hm] at h; exact h.elim
      | vec E w' l => rw [hm] at h; exact h.elim
      | mp ek ev l => rw [hm] at h; exact h.elim
    | _ => exact h.elim
  agg := fun {m x} h => by cases x <;> first | exact h.elim | rfl
  vE := fun m y => d.vE m y
  pE := fun m y => ⟨rfl, rfl, d.pE m y⟩
  ren := fun r y => rfl
  kill := fun i y => rfl
  val := fun y => rfl
structure DA (α : Type) where
  dft : α
  emb : α → List SV
  decV : List Res → List SV → α
  decP : List Res → List SV → Prop
  ok : ∀ {ε : Env} {m : List Res} {w : World}, Good ε m w → ∀ {xs : List SV}, decP m xs → ∀ {vs : List Value}, SatA xs ε vs → SatA (emb (decV m xs)) (frz ε m w).cl vs
  ren : ∀ (r : Nat → Option Nat) (y : α), renL r (emb y) = emb y
  kill : ∀ (i : Nat) (y : α), killL i (emb y) = emb y
  vE : ∀ (m : List Res) (y : α), decV m (emb y) = y
  pE : ∀ (m : List Res) (y : α), decP m (emb y)
def DA.nil : DA Unit := ⟨(), fun _ => [], fun _ _ => (), fun _ xs => match xs with | [] => True | _ => False, fun {ε m w} g {xs} h {vs} hs => by
  cases xs with
  | nil => exact hs
  | cons => exact h.elim, fun _ _ => rfl, fun _ _ => rfl, fun _ _ => rfl, fun _ _ => trivial⟩
def DA.cons {α β : Type} (d : DT α) (r : DA β) : DA (α × β) where
  dft := (d.dft, r.dft)
  emb := fun y => d.emb y.1 :: r.emb y.2
  decV := fun m xs => match xs with
    | x :: xs => (d.decV m x, r.decV m xs)
    | [] => (d.dft, r.dft)
  decP := fun m xs => match xs with
    | x :: xs => d.decP m x ∧ r.decP m xs
    | [] => False
  ok := fun {ε m w} g {xs} h {vs} hs => by
    cases xs with
    | nil => exact h.elim
    | cons x xs =>
      obtain ⟨h1, h2⟩ := h
      simp only [SatA] at hs ⊢
      obtain ⟨a, b, e1, e2, e3⟩ := hs
      exact ⟨a, b, by rw [d.agg h1]; exact e1, d.ok g h1 e2, r.ok g h2 e3⟩
  ren := fun s y => by simp only [renL, d.ren, r.ren]
  kill := fun s y => by simp only [killL, d.kill, r.kill]
  vE := fun m y => by simp only [d.vE, r.vE]
  pE := fun m y => ⟨d.pE m y.1, r.pE m y.2⟩
abbrev DA.one {α : Type} (a : DT α) : DA (α × Unit) := .cons a .nil
abbrev DA.two {α β : Type} (a : DT α) (b : DT β) : DA (α × β × Unit) := .cons a (.cons b .nil)
abbrev DA.three {α β γ : Type} (a : DT α) (b : DT β) (c : DT γ) : DA (α × β × γ × Unit) := .cons a (.cons b (.cons c .nil))
def DT.clo {κ : Type} (f : FuncId) (A : DA κ) : DT κ where
  dft := A.dft
  emb := fun k => .fn f (A.emb k)
  decV := fun m x => match x with
    | .fn _ caps => A.decV m caps
    | _ => A.dft
  decP := fun m x => match x with
    | .fn g caps => g = f ∧ A.decP m caps
    | _ => False
  ok := fun {ε m w} g {x} h {cs} hs => by
    cases x with
    | fn g' caps =>
      obtain ⟨rfl, h⟩ := h
      simp only [SatC] at hs ⊢
      obtain ⟨vs, h1, h2⟩ := hs
      exact ⟨vs, A.ok g h h1, h2⟩
    | _ => exact h.elim
  agg := fun {m x} h => by cases x <;> first | exact h.elim | rfl
  vE := fun m y => A.vE m y
  pE := fun m y => ⟨rfl, A.pE m y⟩
  ren := fun r y => by simp only [Sx.ren, A.ren]
  kill := fun i y => by simp only [Sx.kill, A.kill]
  val := fun y => rfl
structure DR (α : Type) where
  emb : α → SV
  ren : ∀ (r : Nat → Option Nat) (y : α), Sx.ren r (emb y) = emb y
  noH : ∀ y : α, NoHV (emb y)
class Flat {α : Type} (d : DT α) : Prop where
  noH : ∀ y : α, NoH (d.emb y)
instance : Flat DT.int := ⟨fun y => noH_int _ y⟩
instance : Flat DT.byte := ⟨fun y => noH_int _ y⟩
instance : Flat DT.bool := ⟨fun y => noH_bool y⟩
instance : Flat DT.str := ⟨fun y => noH_str y⟩
instance {α : Type} {n w : Nat} {d : DT α} [h : Flat d] : Flat (DT.arr n w d) := ⟨fun y => noH_arr fun i _ => h.noH (y i)⟩
theorem Flat.ofTT {T : TT} (h : flatT T = true) : Flat (DT.ofTT T) := ⟨fun y => noH_emb T y h⟩
theorem Flat.iso {α β : Type} {d : DT α} (h : Flat d) {f : α → β} {g : β → α} {h1 : ∀ x, f (g x) = x} {h2 : ∀ x, g (f x) = x} : Flat (d.iso f g h1 h2) := ⟨fun y => h.noH (g y)⟩
def DR.one {α : Type} (d : DT α) [h : Flat d] : DR α := ⟨d.emb, d.ren, fun y => (h.noH y).val (d.val y)⟩
def DR.two {α β : Type} (a : DT α) (b : DT β) [ha : Flat a] [hb : Flat b] : DR (α × β) := ⟨fun y => .tup [a.emb y.1, b.emb y.2], fun r y => by simp only [Sx.ren, renL, a.ren, b.ren], fun y => noHV_tup fun x hx => by
  simp only [List.mem_cons, List.not_mem_nil, or_false] at hx
  rcases hx with rfl | rfl
  · exact ha.noH _
  · exact hb.noH _⟩
def DR.three {α β γ : Type} (a : DT α) (b : DT β) (c : DT γ) [ha : Flat a] [hb : Flat b] [hc : Flat c] : DR (α × β × γ) := ⟨fun y => .tup [a.emb y.1, b.emb y.2.1, c.emb y.2.2], fun r y => by simp only [Sx.ren, renL, a.ren, b.ren, c.ren], fun y => noHV_tup fun x hx => by
  simp only [List.mem_cons, List.not_mem_nil, or_false] at hx
  rcases hx with rfl | rfl | rfl
  · exact ha.noH _
  · exact hb.noH _
  · exact hc.noH _⟩
def FH.rd (f : FuncId) {α ρ : Type} (A : DA α) (R : DR ρ) (pre : α → Prop) (F : α → ρ) (Γ : FH) : FH :=
  FH.on f (fun args m => .ro (A.decP m args ∧ pre (A.decV m args)) (R.emb (F (A.decV m args)))) Γ
theorem FH.rd_ok {f : FuncId} {α ρ : Type} {A : DA α} {R : DR ρ} {pre : α → Prop} {F : α → ρ} {Γ : FH} (hf : okFn P f = true) (h : ∀ y, pre y → FnOK P f (A.emb y) [] (R.emb (F y)) []) (hΓ : FHOK P Γ) : FHOK P (FH.rd f A R pre F Γ) :=
  FH.on_ok (fun args m hp => ⟨hf, by
    have := call_rd (h _ hp.2) (fun ε w vs g hs => A.ok g hp.1 hs) (by rw [R.ren]; exact R.noH _) (fun _ h => by cases h)
    rw [R.ren] at this
    simpa using this⟩) hΓ
def FH.mk (f : FuncId) {α : Type} (A : DA α) (pre : α → Prop) (F : α → SV) (M : α → List Res) (Γ : FH) : FH :=
  FH.on f (fun args m => .is (A.decP m args ∧ pre (A.decV m args)) (ren (shf m.length) (F (A.decV m args))) (m ++ (M (A.decV m args)).map (renR (shf m.length)))) Γ
def PlainM (x : SV) (M : List Res) : Prop := ∀ r, NoHV (ren r x) ∧ ∀ y ∈ M, ResNoH (renR r y)
theorem FH.mk_ok {f : FuncId} {α : Type} {A : DA α} {pre : α → Prop} {F : α → SV} {M : α → List Res} {Γ : FH} (hf : okFn P f = true) (hR : ∀ y, pre y → PlainM (F y) (M y)) (h : ∀ y, pre y → FnOK P f (A.emb y) [] (F y) (M y)) (hΓ : FHOK P Γ) : FHOK P (FH.mk f A pre F M Γ) :=
  FH.on_ok (fun args m hp => ⟨hf, call_rd (h _ hp.2) (fun ε w vs g hs => A.ok g hp.1 hs) (hR _ hp.2 _).1 (hR _ hp.2 _).2⟩) hΓ
def FH.mt (f : FuncId) {σ α ρ : Type} (T : TypeId) (d : DT σ) (A : DA α) (R : DR ρ) (pre : σ → α → Prop) (F : σ → α → ρ) (S : σ → α → σ) (Γ : FH) : FH :=
  FH.on f (fun args m => match args with
    | x :: rest => match x with
      | .ptr i p o => match memAt m i with
        | .blk T' c => .is (T' = T ∧ p = [] ∧ o = 0 ∧ d.emb (d.decV [] c) = c ∧ A.emb (A.decV [] rest) = rest ∧ pre (d.decV [] c) (A.decV [] rest)) (R.emb (F (d.decV [] c) (A.decV [] rest))) (m.set i (.blk T (d.emb (S (d.decV [] c) (A.decV [] rest)))))
        | _ => .no
      | _ => .no
    | [] => .no) Γ
theorem FH.mt_ok {f : FuncId} {σ α ρ : Type} {T : TypeId} {d : DT σ} {A : DA α} {R : DR ρ} {pre : σ → α → Prop} {F : σ → α → ρ} {S : σ → α → σ} {Γ : FH} (hf : okFn P f = true)
    (h : ∀ s y, pre s y → FnOK P f (.ptr 0 [] 0 :: A.emb y) [.blk T (d.emb s)] (R.emb (F s y)) [.blk T (d.emb (S s y))]) (hΓ : FHOK P Γ) : FHOK P (FH.mt f T d A R pre F S Γ) :=
  FH.on_ok (fun args m => by
    cases args with
    | nil => trivial
    | cons x rest =>
      cases x with
      | ptr i p o =>
        simp only
        cases hm : memAt m i with
        | dead => trivial
        | vec T' w l => trivial
        | mp ek ev l => trivial
        | blk T' c =>
          rintro ⟨rfl, rfl, rfl, h1, h2, h3⟩
          refine ⟨hf, ?_⟩
          generalize hs : d.decV [] c = s at h1 h3 ⊢
          generalize hy : A.decV [] rest = y at h2 h3 ⊢
          subst h1; subst h2
          have hi : i < m.length := by
            rcases Nat.lt_or_ge i m.length with hi | hi
            · exact hi
            · rw [memAt_ge hi] at hm; cases hm
          have key := call_of_fn (args := .ptr i [] 0 :: A.emb y) (m := m) (h s y h3) [i] (by simp) (by simp [hm, Res.isBlk]) (by simp only [renL, A.ren, Sx.ren, renI, selI, List.contains_cons, BEq.rfl, Bool.true_or, if_true, List.idxOf_cons_self])
            (by simp only [selM, List.map_cons, List.map_nil, hm, renR, d.ren]) (by simp) (by intro j hj; simp at hj; subst hj; rfl)
          rw [R.ren] at key
          have hmm : mergeM [i] m [.blk T' (d.emb (S s y))] = m.set i (.blk T' (d.emb (S s y))) := by
            simp [mergeM, memAt, renR, d.ren]
          rwa [hmm] at key
      | _ => trivial) hΓ
def DT.frz {α : Type} (d : DT α) : Frz := ⟨fun m x => d.emb (d.decV m x), fun m x => d.decP m x ∧ x.isVal = true, fun g _ h _ hs => d.ok g h.1 hs, fun h => d.agg h.1, fun h => h.2⟩
structure DP (α : Type) where
  emb : α → SV
  ren : ∀ (r : Nat → Option Nat) (y : α), Sx.ren r (emb y) = emb y
def DP.one {α : Type} (d : DT α) : DP α := ⟨d.emb, d.ren⟩
def DP.two {α β : Type} (a : DT α) (b : DT β) : DP (α × β) := ⟨fun y => .tup [a.emb y.1, b.emb y.2], fun r y => by simp only [Sx.ren, renL, a.ren, b.ren]⟩
def DP.three {α β γ : Type} (a : DT α) (b : DT β) (c : DT γ) : DP (α × β × γ) := ⟨fun y => .tup [a.emb y.1, b.emb y.2.1, c.emb y.2.2], fun r y => by simp only [Sx.ren, renL, a.ren, b.ren, c.ren]⟩
def FH.pz (f : FuncId) {α ρ : Type} (A : DA α) (R : DP ρ) (pre : α → Prop) (F : α → ρ) (Γ : FH) : FH :=
  FH.on f (fun args m => .ro (A.emb (A.decV [] args) = args ∧ pre (A.decV [] args)) (R.emb (F (A.decV [] args)))) Γ
theorem FH.pz_ok {f : FuncId} {α ρ : Type} {A : DA α} {R : DP ρ} {pre : α → Prop} {F : α → ρ} {Γ : FH} (hf : okFn P f = true) (h : ∀ y, pre y → FnOK P f (A.emb y) [] (R.emb (F y)) []) (hΓ : FHOK P Γ) : FHOK P (FH.pz f A R pre F Γ) :=
  FH.on_ok (fun args m hp => ⟨hf, by
    have := call_of_fn0 (m := m) (args := args) (h _ hp.2) (by rw [← hp.1]; rw [A.vE]; exact A.ren _ _)
    rw [R.ren] at this
    simpa using this⟩) hΓ
def FH.fz (f : FuncId) {α ρ : Type} (A : DA α) (R : DP ρ) (pre : α → Prop) (F : α → ρ) (Γ : FH) : FH :=
  FH.on f (fun args m => .is (A.decP m args ∧ pre (A.decV m args)) (R.emb (F (A.decV m args))) (deads m)) Γ
section words
variable {α : Type} {m : List Res}
theorem int_emb (n : Int) : DT.int.emb n = .int .i64 n := nr rfl
theorem byte_emb (n : Int) : DT.byte.emb n = .int .u8 n := nr rfl
theorem bool_emb (b : Bool) : DT.bool.emb b = .bool b := nr rfl
theorem str_emb (s : List UInt8) : DT.str.emb s = .str s := nr rfl
theorem int_decV (n : Int) : DT.int.decV m (.int .i64 n) = n := nr rfl
theorem byte_decV (n : Int) : DT.byte.decV m (.int .u8 n) = n := nr rfl
theorem bool_decV (b : Bool) : DT.bool.decV m (.bool b) = b := nr rfl
theorem str_decV (s : List UInt8) : DT.str.decV m (.str s) = s := nr rfl
theorem int_decP (n : Int) : DT.int.decP m (.int .i64 n) = True := eq_true rfl
theorem byte_decP (n : Int) : DT.byte.decP m (.int .u8 n) = True := eq_true rfl
theorem bool_decP (b : Bool) : DT.bool.decP m (.bool b) = True := eq_true trivial
theorem str_decP (s : List UInt8) : DT.str.decP m (.str s) = True := eq_true trivial
theorem dt_vE (d : DT α) (y : α) : d.decV m (d.emb y) = y := d.vE m y
theorem dt_pE (d : DT α) (y : α) : d.decP m (d.emb y) = True := eq_true (d.pE m y)
theorem dt_val (d : DT α) (y : α) : (d.emb y).isVal = true := d.val y
theorem dt_ren (d : DT α) (r) (y : α) : ren r (d.emb y) = d.emb y := d.ren r y
theorem dt_kill (d : DT α) (i) (y : α) : kill i (d.emb y) = d.emb y := d.kill i y
theorem dt_renL (d : DT α) (r) (l : List α) : renL r (l.map d.emb) = l.map d.emb := by
  induction l with
  | nil => rfl
  | cons x l ih => simp only [List.map_cons, renL]; rw [d.ren, ih]
theorem dt_killL (d : DT α) (r) (l : List α) : killL r (l.map d.emb) = l.map d.emb := by
  induction l with
  | nil => rfl
  | cons x l ih => simp only [List.map_cons, killL]; rw [d.kill, ih]
theorem arr_emb (n w : Nat) (d : DT α) (f : Nat → α) : (DT.arr n w d).emb f = .arr n w fun i => d.emb (f i) := nr rfl
theorem arr_decV (n w : Nat) (d : DT α) (n' w' : Nat) (f : Nat → SV) : (DT.arr n w d).decV m (.arr n' w' f) = fun i => d.decV m (f i) := nr rfl
theorem arr_decP (n w : Nat) (d : DT α) (n' w' : Nat) (f : Nat → SV) : (DT.arr n w d).decP m (.arr n' w' f) = (n' = n ∧ w' = w ∧ ∀ i, i < n → d.decP m (f i)) := nr rfl
theorem list_emb (w : Nat) (d : DT α) (l : List α) : (DT.list w d).emb l = .lst w d.dft d.emb l := nr rfl
theorem list_decV_lst {τ : Type} (w : Nat) (d : DT α) (w' : Nat) (x : τ) (f : τ → SV) (l : List τ) : (DT.list w d).decV m (.lst w' x f l) = l.map fun y => d.decV m (f y) := nr rfl
theorem list_decP_lst {τ : Type} (w : Nat) (d : DT α) (w' : Nat) (x : τ) (f : τ → SV) (l : List τ) : (DT.list w d).decP m (.lst w' x f l) = (w' = w ∧ allL l fun y => d.decP m (f y)) := nr rfl
theorem list_decV_nils (w : Nat) (d : DT α) : (DT.list w d).decV m .nils = [] := nr rfl
theorem list_decP_nils (w : Nat) (d : DT α) : (DT.list w d).decP m .nils = True := nr rfl
theorem list_decV_vec (w : Nat) (d : DT α) (i n : Nat) : (DT.list w d).decV m (.vec i n) = (match memAt m i with
      | .vec _ _ l => l.map fun y => d.decV m y
      | _ => []) := nr rfl
theorem list_decP_vec (w : Nat) (d : DT α) (i n : Nat) : (DT.list w d).decP m (.vec i n) = (match memAt m i with
      | .vec _ w' l => w' = w ∧ allL l fun y => d.decP m y
      | _ => False) := nr rfl
theorem list_decV_lit (w w' : Nat) (d : DT α) {τ : Type} (x : τ) (f : τ → SV) (l : List τ) : (DT.list w d).decV m (.lit w' x f l) = l.map fun y => d.decV m (f y) := nr rfl
theorem list_decP_lit (w w' : Nat) (d : DT α) {τ : Type} (x : τ) (f : τ → SV) (l : List τ) : (DT.list w d).decP m (.lit w' x f l) = (w' = w ∧ allL l fun y => d.decP m (f y)) := nr rfl
theorem list_decV_pvec (w : Nat) (d : DT α) (i n : Nat) : (DT.list w d).decV m (.pvec i n) = (match memAt m i with
      | .vec _ _ l => (l.take n).map fun y => d.decV m y
      | _ => []) := nr rfl
theorem list_decP_pvec (w : Nat) (d : DT α) (i n : Nat) : (DT.list w d).decP m (.pvec i n) = (match memAt m i with
      | .vec _ w' l => w' = w ∧ n ≤ l.length ∧ allL (l.take n) fun y => d.decP m y
      | _ => False) := nr rfl
theorem ref_emb (d : DT α) (y : α) : d.ref.emb y = .ref (d.emb y) [] 0 := nr rfl
theorem ref_decV_ref (d : DT α) (c p o) : d.ref.decV m (.ref c p o) = d.decV m c := nr rfl
theorem ref_decP_ref (d : DT α) (c p o) : d.ref.decP m (.ref c p o) = (p = [] ∧ o = 0 ∧ d.decP m c) := nr rfl
theorem ref_decV_ptr (d : DT α) (i p o) : d.ref.decV m (.ptr i p o) = (match memAt m i with
      | .blk _ c => d.decV m c
      | _ => d.dft) := nr rfl
theorem ref_decP_ptr (d : DT α) (i p o) : d.ref.decP m (.ptr i p o) = (match memAt m i with
      | .blk _ c => p = [] ∧ o = 0 ∧ d.decP m c
      | _ => False) := nr rfl
theorem noH_junk : NoH .junk := fun _ _ _ _ _ _ h => h
theorem da_vE (A : DA α) (y : α) : A.decV m (A.emb y) = y := A.vE m y
theorem da_pE (A : DA α) (y : α) : A.decP m (A.emb y) = True := eq_true (A.pE m y)
theorem da_ren (A : DA α) (r) (y : α) : renL r (A.emb y) = A.emb y := A.ren r y
theorem da_kill (A : DA α) (i) (y : α) : killL i (A.emb y) = A.emb y := A.kill i y
theorem clo_emb (f : FuncId) (A : DA α) (k : α) : (DT.clo f A).emb k = .fn f (A.emb k) := nr rfl
theorem clo_decV (f g : FuncId) (A : DA α) (caps : List SV) : (DT.clo f A).decV m (.fn g caps) = A.decV m caps := nr rfl
theorem clo_decP (f g : FuncId) (A : DA α) (caps : List SV) : (DT.clo f A).decP m (.fn g caps) = (g = f ∧ A.decP m caps) := rfl
theorem list_dft {α : Type} (w : Nat) (d : DT α) : (DT.list w d).dft = [] := nr rfl
theorem int_dft : DT.int.dft = 0 := nr rfl
theorem bool_dft : DT.bool.dft = false := nr rfl
theorem map_dec {α : Type} {m : List Res} (d : DT α) (l : List α) : List.map (fun y => d.decV m y) (l.map d.emb) = l := by
  rw [List.map_map]
  have : (fun y => d.decV m y) ∘ d.emb = id := by funext y; exact d.vE m y
  rw [this, List.map_id]
theorem da_nilV : DA.nil.decV m [] = () := nr rfl
theorem da_nilP : DA.nil.decP m [] = True := nr rfl
theorem da_consV {β : Type} (d : DT α) (r : DA β) (x xs) : (DA.cons d r).decV m (x :: xs) = (d.decV m x, r.decV m xs) := nr rfl
theorem da_consP {β : Type} (d : DT α) (r : DA β) (x xs) : (DA.cons d r).decP m (x :: xs) = (d.decP m x ∧ r.decP m xs) := nr rfl
theorem da_consE {β : Type} (d : DT α) (r : DA β) (y) : (DA.cons d r).emb y = d.emb y.1 :: r.emb y.2 := nr rfl
theorem da_nilE (y) : DA.nil.emb y = [] := nr rfl
theorem dp_one (d : DT α) (y) : (DP.one d).emb y = d.emb y := nr rfl
theorem dp_two {β : Type} (a : DT α) (b : DT β) (y) : (DP.two a b).emb y = .tup [a.emb y.1, b.emb y.2] := nr rfl
theorem dp_three {β γ : Type} (a : DT α) (b : DT β) (c : DT γ) (y) : (DP.three a b c).emb y = .tup [a.emb y.1, b.emb y.2.1, c.emb y.2.2] := nr rfl
theorem frz_P (d : DT α) (x) : (DT.frz d).P m x = (d.decP m x ∧ x.isVal = true) := rfl
theorem frz_dec (d : DT α) (x) : (DT.frz d).dec m x = d.emb (d.decV m x) := nr rfl
theorem dr_one (d : DT α) [Flat d] (y) : (DR.one d).emb y = d.emb y := nr rfl
theorem dr_two {β : Type} (a : DT α) (b : DT β) [Flat a] [Flat b] (y) : (DR.two a b).emb y = .tup [a.emb y.1, b.emb y.2] := nr rfl
theorem dr_three {β γ : Type} (a : DT α) (b : DT β) (c : DT γ) [Flat a] [Flat b] [Flat c] (y) : (DR.three a b c).emb y = .tup [a.emb y.1, b.emb y.2.1, c.emb y.2.2] := nr rfl
end words
end Go.Sx
/-! Sx, part 26: rows. -/
set_option linter.unusedVariables false
set_option linter.unusedSimpArgs false
set_option linter.unusedVariables false
namespace Go.Sx
open Go
variable {P : Program}
theorem frz_eps0 (W : World) : (frz (ε0 W) [] W).cl = ε0 W := by
  have h : (frz (ε0 W) [] W).H = (ε0 W).H := by
    funext b
    show (open Classical in if ∃ i, ownR (ε0 W) i (memAt [] i) = some b then W.heap[b]? else (ε0 W).H b) = W.heap[b]?
    split <;> rfl
  show { frz (ε0 W) [] W with n := 0 } = ε0 W
  simp only [ε0, frz] at h ⊢
  rw [h]
theorem satA_conv {α : Type} {A : DA α} {xs : List SV} {W : World} {vs : List Value} (hd : A.decP [] xs) (hs : SatA xs (ε0 W) vs) : SatA (A.emb (A.decV [] xs)) (ε0 W) vs := by
  have := A.ok (good_nil W) hd hs
  rwa [frz_eps0] at this
/-! ### What is handed back holds nothing that is held fast -/
def PlV (x : SV) : Prop := ∀ r, NoH (ren r x)
def PlVs : List SV → Prop
  | [] => True
  | x :: r => PlV x ∧ PlVs r
def PlR (x : Res) : Prop := ∀ r, ResNoH (renR r x)
def PlRs : List Res → Prop
  | [] => True
  | x :: r => PlR x ∧ PlRs r
theorem plV_vec (i n : Nat) : PlV (.vec i n) := fun r => by
  simp only [ren, renI]
  split
  · exact noH_vec _ _
  · exact noH_junk
theorem plV_int (k : IntKind) (n : Int) : PlV (.int k n) := fun r => noH_int k n
theorem plV_nils : PlV .nils := fun r _ _ _ _ _ _ h => h
theorem PlVs.mem : ∀ {l : List SV}, PlVs l → ∀ x ∈ l, PlV x
  | [], _, _, h => by cases h
  | y :: l, h, x, hx => by
    rcases List.mem_cons.1 hx with e | e
    · exact e ▸ h.1
    · exact PlVs.mem h.2 x e
theorem PlRs.mem : ∀ {l : List Res}, PlRs l → ∀ x ∈ l, PlR x
  | [], _, _, h => by cases h
  | y :: l, h, x, hx => by
    rcases List.mem_cons.1 hx with e | e
    · exact e ▸ h.1
    · exact PlRs.mem h.2 x e
theorem renL_mem {r : Nat → Option Nat} : ∀ {l : List SV} {x : SV}, x ∈ renL r l → ∃ y ∈ l, x = ren r y
  | [], _, h => by simp [renL] at h
  | y :: l, x, h => by
    simp only [renL, List.mem_cons] at h
    rcases h with rfl | h
    · exact ⟨y, by simp, rfl⟩
    · obtain ⟨z, h1, h2⟩ := renL_mem h
      exact ⟨z, by simp [h1], h2⟩
theorem pv_tup {l : List SV} (h : PlVs l) (r) : NoHV (ren r (.tup l)) := by
  simp only [ren]
  refine noHV_tup fun x hx => ?_
  obtain ⟨y, h1, rfl⟩ := renL_mem hx
  exact h.mem y h1 r
theorem pv_vec (i n : Nat) (r) : NoHV (ren r (.vec i n)) := by
  simp only [ren, renI]
  split
  · exact (noH_vec _ _).val rfl
  · exact noHV_junk
theorem plR_vec {α : Type} (T : TypeId) (w : Nat) (d : DT α) [h : Flat d] (l : List α) : PlR (.vec T w (l.map d.emb)) := fun r => by
  simp only [renR, dt_renL, ResNoH]
  intro j hj
  rw [List.length_map] at hj
  have : (l.map d.emb).getD j .junk = d.emb l[j] := by simp [List.getD, hj]
  rw [this]
  exact h.noH _
theorem plainM {x : SV} {M : List Res} (h1 : ∀ r, NoHV (ren r x)) (h2 : PlRs M) : PlainM x M := fun r => ⟨h1 r, fun y hy => h2.mem y hy r⟩
end Go.Sx
/-! Sx, part 27: the words that 'simp only [go_sem]' takes, one a shape: no law with a side condition stands among them. -/
set_option linter.unusedVariables false
set_option linter.unusedSimpArgs false
namespace Go.Sx
open Go
namespace W
theorem wd_int (k : IntKind) (n : Int) : wd (.int k n) = 1 := nr rfl
theorem isAgg_int (k : IntKind) (n : Int) : SV.isAgg (.int k n) = false := nr rfl
theorem wd_bool (b : Bool) : wd (.bool b) = 1 := nr rfl
theorem isAgg_bool (b : Bool) : SV.isAgg (.bool b) = false := nr rfl
theorem wd_str (s : List UInt8) : wd (.str s) = 1 := nr rfl
theorem isAgg_str (s : List UInt8) : SV.isAgg (.str s) = false := nr rfl
theorem wd_lst {υ : Type} (w : Nat) (d : υ) (f : υ → SV) (l : List υ) : wd (.lst w d f l) = 1 := nr rfl
theorem isAgg_lst {υ : Type} (w : Nat) (d : υ) (f : υ → SV) (l : List υ) : SV.isAgg (.lst w d f l) = false := nr rfl
theorem wd_eptr {υ : Type} (w : Nat) (d : υ) (f : υ → SV) (l : List υ) (i : Nat) (p : List Step) (o : Nat) : wd (.eptr w d f l i p o) = 1 := nr rfl
theorem isAgg_eptr {υ : Type} (w : Nat) (d : υ) (f : υ → SV) (l : List υ) (i : Nat) (p : List Step) (o : Nat) : SV.isAgg (.eptr w d f l i p o) = false := nr rfl
theorem wd_ref (c : SV) (p : List Step) (o : Nat) : wd (.ref c p o) = 1 := nr rfl
theorem isAgg_ref (c : SV) (p : List Step) (o : Nat) : SV.isAgg (.ref c p o) = false := nr rfl
theorem wd_ptr (i : Nat) (p : List Step) (o : Nat) : wd (.ptr i p o) = 1 := nr rfl
theorem isAgg_ptr (i : Nat) (p : List Step) (o : Nat) : SV.isAgg (.ptr i p o) = false := nr rfl
theorem wd_vec (i n : Nat) : wd (.vec i n) = 1 := nr rfl
theorem isAgg_vec (i n : Nat) : SV.isAgg (.vec i n) = false := nr rfl
theorem wd_vptr (i j : Nat) (p : List Step) (o : Nat) : wd (.vptr i j p o) = 1 := nr rfl
theorem isAgg_vptr (i j : Nat) (p : List Step) (o : Nat) : SV.isAgg (.vptr i j p o) = false := nr rfl
theorem wd_pvec (i n : Nat) : wd (.pvec i n) = 1 := nr rfl
theorem isAgg_pvec (i n : Nat) : SV.isAgg (.pvec i n) = false := nr rfl
theorem wd_map (i : Nat) : wd (.map i) = 1 := nr rfl
theorem isAgg_map (i : Nat) : SV.isAgg (.map i) = false := nr rfl
theorem wd_fn (f : FuncId) (c : List SV) : wd (.fn f c) = 1 := nr rfl
theorem isAgg_fn (f : FuncId) (c : List SV) : SV.isAgg (.fn f c) = false := nr rfl
theorem wd_iface (t : TypeId) (x : SV) : wd (.iface t x) = 1 := nr rfl
theorem isAgg_iface (t : TypeId) (x : SV) : SV.isAgg (.iface t x) = false := nr rfl
theorem wd_nils  : wd (.nils) = 1 := nr rfl
theorem isAgg_nils  : SV.isAgg (.nils) = false := nr rfl
theorem wd_nili  : wd (.nili) = 1 := nr rfl
theorem isAgg_nili  : SV.isAgg (.nili) = false := nr rfl
theorem wd_nilf  : wd (.nilf) = 1 := nr rfl
theorem isAgg_nilf  : SV.isAgg (.nilf) = false := nr rfl
theorem wd_nilp  : wd (.nilp) = 1 := nr rfl
theorem isAgg_nilp  : SV.isAgg (.nilp) = false := nr rfl
theorem wd_nilm  : wd (.nilm) = 1 := nr rfl
theorem isAgg_nilm  : SV.isAgg (.nilm) = false := nr rfl
theorem wd_anyb  : wd (.anyb) = 1 := nr rfl
theorem isAgg_anyb  : SV.isAgg (.anyb) = false := nr rfl
theorem wd_junk  : wd .junk = 1 := nr rfl
theorem wd_arr (n w : Nat) (f : Nat → SV) : wd (.arr n w f) = n * w := nr rfl
theorem wd_agg (l : List SV) : wd (.agg l) = wds l := nr rfl
theorem wds_nil  : wds [] = 0 := nr rfl
theorem wds_cons (x : SV) (r : List SV) : wds (x :: r) = wd x + wds r := nr rfl
theorem isAgg_arr (n w : Nat) (f : Nat → SV) : SV.isAgg (.arr n w f) = true := nr rfl
theorem isAgg_agg (l : List SV) : SV.isAgg (.agg l) = true := nr rfl
theorem isAgg_junk  : SV.isAgg .junk = false := nr rfl
theorem isVal_int (k : IntKind) (n : Int) : SV.isVal (.int k n) = true := nr rfl
theorem isVal_bool (b : Bool) : SV.isVal (.bool b) = true := nr rfl
theorem isVal_str (s : List UInt8) : SV.isVal (.str s) = true := nr rfl
theorem isVal_lst {υ : Type} (w : Nat) (d : υ) (f : υ → SV) (l : List υ) : SV.isVal (.lst w d f l) = true := nr rfl
theorem isVal_eptr {υ : Type} (w : Nat) (d : υ) (f : υ → SV) (l : List υ) (i : Nat) (p : List Step) (o : Nat) : SV.isVal (.eptr w d f l i p o) = true := nr rfl
theorem isVal_ref (c : SV) (p : List Step) (o : Nat) : SV.isVal (.ref c p o) = true := nr rfl
theorem isVal_ptr (i : Nat) (p : List Step) (o : Nat) : SV.isVal (.ptr i p o) = true := nr rfl
theorem isVal_vec (i n : Nat) : SV.isVal (.vec i n) = true := nr rfl
theorem isVal_vptr (i j : Nat) (p : List Step) (o : Nat) : SV.isVal (.vptr i j p o) = true := nr rfl
theorem isVal_pvec (i n : Nat) : SV.isVal (.pvec i n) = true := nr rfl
theorem isVal_map (i : Nat) : SV.isVal (.map i) = true := nr rfl
theorem isVal_fn (f : FuncId) (c : List SV) : SV.isVal (.fn f c) = true := nr rfl
theorem isVal_iface (t : TypeId) (x : SV) : SV.isVal (.iface t x) = true := nr rfl
theorem isVal_nils  : SV.isVal (.nils) = true := nr rfl
theorem isVal_nili  : SV.isVal (.nili) = true := nr rfl
theorem isVal_nilf  : SV.isVal (.nilf) = true := nr rfl
theorem isVal_nilp  : SV.isVal (.nilp) = true := nr rfl
theorem isVal_nilm  : SV.isVal (.nilm) = true := nr rfl
theorem isVal_anyb  : SV.isVal (.anyb) = true := nr rfl
theorem isVal_arr (n w : Nat) (f : Nat → SV) : SV.isVal (.arr n w f) = true := nr rfl
theorem isVal_agg (l : List SV) : SV.isVal (.agg l) = true := nr rfl
theorem isVal_tup (l : List SV) : SV.isVal (.tup l) = false := nr rfl
theorem isSet_tup (l : List SV) : SV.isSet (.tup l) = true := nr rfl
theorem isSet_int (k : IntKind) (n : Int) : SV.isSet (.int k n) = true := nr rfl
theorem isSet_bool (b : Bool) : SV.isSet (.bool b) = true := nr rfl
theorem isSet_agg (l : List SV) : SV.isSet (.agg l) = true := nr rfl
theorem isSet_str (s : List UInt8) : SV.isSet (.str s) = true := nr rfl
theorem isVal_junk  : SV.isVal .junk = false := nr rfl
theorem getP_nil (c : SV) : getP c [] = c := nr rfl
theorem getP_fld (l : List SV) (k : Nat) (p : List Step) : getP (.agg l) (.fld k :: p) = getP (l.getD k .junk) p := nr rfl
theorem getP_idx (n w : Nat) (f : Nat → SV) (i n' : Nat) (p : List Step) : getP (.arr n w f) (.idx i n' :: p) = getP (f i) p := nr rfl
theorem setP_nil (c x : SV) : setP c [] x = x := nr rfl
theorem setP_fld (l : List SV) (k : Nat) (p : List Step) (x : SV) : setP (.agg l) (.fld k :: p) x = .agg (l.set k (setP (l.getD k .junk) p x)) := nr rfl
theorem setP_idx (n w : Nat) (f : Nat → SV) (i n' : Nat) (p : List Step) (x : SV) : setP (.arr n w f) (.idx i n' :: p) x = .arr n w (updS f i (setP (f i) p x)) := nr rfl
theorem atP_nil (c : SV) (a o : Nat) : atP c [] a o = (o = a) := propext Iff.rfl
theorem atP_fld (l : List SV) (k : Nat) (p : List Step) (a o : Nat) : atP (.agg l) (.fld k :: p) a o = (k < l.length ∧ atP (l.getD k .junk) p (a + wds (l.take k)) o) := propext Iff.rfl
theorem atP_idx (n w : Nat) (f : Nat → SV) (i n' : Nat) (p : List Step) (a o : Nat) : atP (.arr n w f) (.idx i n' :: p) a o = (n' = n ∧ atP (f i) p (a + i * w) o) := propext Iff.rfl
theorem pathOk_nil  : pathOk [] = True := propext Iff.rfl
theorem pathOk_fld (k : Nat) (p : List Step) : pathOk (.fld k :: p) = pathOk p := propext Iff.rfl
theorem pathOk_idx (i n : Nat) (p : List Step) : pathOk (.idx i n :: p) = (i < n ∧ pathOk p) := propext Iff.rfl
theorem ren_int (r : Nat → Option Nat) (k : IntKind) (n : Int) : ren r (.int k n) = .int k n := nr rfl
theorem kill_int (i0 : Nat) (k : IntKind) (n : Int) : kill i0 (.int k n) = .int k n := nr rfl
theorem ren_bool (r : Nat → Option Nat) (b : Bool) : ren r (.bool b) = .bool b := nr rfl
theorem kill_bool (i0 : Nat) (b : Bool) : kill i0 (.bool b) = .bool b := nr rfl
theorem ren_str (r : Nat → Option Nat) (s : List UInt8) : ren r (.str s) = .str s := nr rfl
theorem kill_str (i0 : Nat) (s : List UInt8) : kill i0 (.str s) = .str s := nr rfl
theorem ren_lst (r : Nat → Option Nat) {υ : Type} (w : Nat) (d : υ) (f : υ → SV) (l : List υ) : ren r (.lst w d f l) = .lst w d f l := nr rfl
theorem kill_lst (i0 : Nat) {υ : Type} (w : Nat) (d : υ) (f : υ → SV) (l : List υ) : kill i0 (.lst w d f l) = .lst w d f l := nr rfl
theorem ren_eptr (r : Nat → Option Nat) {υ : Type} (w : Nat) (d : υ) (f : υ → SV) (l : List υ) (i : Nat) (p : List Step) (o : Nat) : ren r (.eptr w d f l i p o) = .eptr w d f l i p o := nr rfl
theorem kill_eptr (i0 : Nat) {υ : Type} (w : Nat) (d : υ) (f : υ → SV) (l : List υ) (i : Nat) (p : List Step) (o : Nat) : kill i0 (.eptr w d f l i p o) = .eptr w d f l i p o := nr rfl
theorem ren_ref (r : Nat → Option Nat) (c : SV) (p : List Step) (o : Nat) : ren r (.ref c p o) = .ref c p o := nr rfl
theorem kill_ref (i0 : Nat) (c : SV) (p : List Step) (o : Nat) : kill i0 (.ref c p o) = .ref c p o := nr rfl
theorem kill_ptr (i0 : Nat) (i : Nat) (p : List Step) (o : Nat) : kill i0 (.ptr i p o) = .ptr i p o := nr rfl
theorem kill_map (i0 : Nat) (i : Nat) : kill i0 (.map i) = .map i := nr rfl
theorem ren_nils (r : Nat → Option Nat)  : ren r (.nils) = .nils := nr rfl
theorem kill_nils (i0 : Nat)  : kill i0 (.nils) = .nils := nr rfl
theorem ren_nili (r : Nat → Option Nat)  : ren r (.nili) = .nili := nr rfl
theorem kill_nili (i0 : Nat)  : kill i0 (.nili) = .nili := nr rfl
theorem ren_nilf (r : Nat → Option Nat)  : ren r (.nilf) = .nilf := nr rfl
theorem kill_nilf (i0 : Nat)  : kill i0 (.nilf) = .nilf := nr rfl
theorem ren_nilp (r : Nat → Option Nat)  : ren r (.nilp) = .nilp := nr rfl
theorem kill_nilp (i0 : Nat)  : kill i0 (.nilp) = .nilp := nr rfl
theorem ren_nilm (r : Nat → Option Nat)  : ren r (.nilm) = .nilm := nr rfl
theorem kill_nilm (i0 : Nat)  : kill i0 (.nilm) = .nilm := nr rfl
theorem ren_anyb (r : Nat → Option Nat)  : ren r (.anyb) = .anyb := nr rfl
theorem kill_anyb (i0 : Nat)  : kill i0 (.anyb) = .anyb := nr rfl
theorem ren_junk (r : Nat → Option Nat) : ren r .junk = .junk := nr rfl
theorem kill_junk (i : Nat) : kill i .junk = .junk := nr rfl
theorem ren_vec (r : Nat → Option Nat) (j n : Nat) : ren r (.vec j n) = renI r j fun k => .vec k n := nr rfl
theorem ren_vptr (r : Nat → Option Nat) (j a : Nat) (p : List Step) (o : Nat) : ren r (.vptr j a p o) = renI r j fun k => .vptr k a p o := nr rfl
theorem ren_pvec (r : Nat → Option Nat) (j n : Nat) : ren r (.pvec j n) = renI r j fun k => .pvec k n := nr rfl
theorem ren_ptr (r : Nat → Option Nat) (j : Nat) (p : List Step) (o : Nat) : ren r (.ptr j p o) = renI r j fun k => .ptr k p o := nr rfl
theorem ren_map (r : Nat → Option Nat) (j : Nat) : ren r (.map j) = renI r j .map := nr rfl
theorem ren_arr (r : Nat → Option Nat) (n w : Nat) (f : Nat → SV) : ren r (.arr n w f) = .arr n w fun k => ren r (f k) := nr rfl
theorem ren_agg (r : Nat → Option Nat) (l : List SV) : ren r (.agg l) = .agg (renL r l) := nr rfl
theorem ren_tup (r : Nat → Option Nat) (l : List SV) : ren r (.tup l) = .tup (renL r l) := nr rfl
theorem ren_fn (r : Nat → Option Nat) (f : FuncId) (l : List SV) : ren r (.fn f l) = .fn f (renL r l) := nr rfl
theorem ren_iface (r : Nat → Option Nat) (t : TypeId) (x : SV) : ren r (.iface t x) = .iface t (ren r x) := nr rfl
theorem renL_nil (r : Nat → Option Nat) : renL r [] = [] := nr rfl
theorem renL_cons (r : Nat → Option Nat) (x : SV) (l : List SV) : renL r (x :: l) = ren r x :: renL r l := nr rfl
theorem renI_eq (r : Nat → Option Nat) (i : Nat) (f : Nat → SV) : renI r i f = (match r i with
    | some j => f j
    | none => .junk) := nr rfl
theorem renR_dead (r : Nat → Option Nat) : renR r .dead = .dead := nr rfl
theorem renR_blk (r : Nat → Option Nat) (T : TypeId) (c : SV) : renR r (.blk T c) = .blk T (ren r c) := nr rfl
theorem renR_mp (r : Nat → Option Nat) (ek ev : ES) (l : List (SV × SV)) : renR r (.mp ek ev l) = .mp ek ev l := nr rfl
theorem killR_mp (i : Nat) (ek ev : ES) (l : List (SV × SV)) : killR i (.mp ek ev l) = .mp ek ev l := nr rfl
theorem renR_vec (r : Nat → Option Nat) (T : TypeId) (w : Nat) (l : List SV) : renR r (.vec T w l) = .vec T w (renL r l) := nr rfl
theorem kill_vec (i j n : Nat) : kill i (.vec j n) = if j = i then .junk else .vec j n := nr rfl
theorem kill_vptr (i j a : Nat) (p : List Step) (o : Nat) : kill i (.vptr j a p o) = if j = i then .junk else .vptr j a p o := nr rfl
theorem kill_pvec (i j n : Nat) : kill i (.pvec j n) = if j = i then .junk else .pvec j n := nr rfl
theorem kill_arr (i n w : Nat) (f : Nat → SV) : kill i (.arr n w f) = .arr n w fun k => kill i (f k) := nr rfl
theorem kill_agg (i : Nat) (l : List SV) : kill i (.agg l) = .agg (killL i l) := nr rfl
theorem kill_tup (i : Nat) (l : List SV) : kill i (.tup l) = .tup (killL i l) := nr rfl
theorem kill_fn (i : Nat) (f : FuncId) (l : List SV) : kill i (.fn f l) = .fn f (killL i l) := nr rfl
theorem kill_iface (i : Nat) (t : TypeId) (x : SV) : kill i (.iface t x) = .iface t (kill i x) := nr rfl
theorem killL_nil (i : Nat) : killL i [] = [] := nr rfl
theorem killL_cons (i : Nat) (x : SV) (l : List SV) : killL i (x :: l) = kill i x :: killL i l := nr rfl
theorem killR_dead (i : Nat) : killR i .dead = .dead := nr rfl
theorem killR_blk (i : Nat) (T : TypeId) (c : SV) : killR i (.blk T c) = .blk T (kill i c) := nr rfl
theorem killR_vec (i : Nat) (T : TypeId) (w : Nat) (l : List SV) : killR i (.vec T w l) = .vec T w (killL i l) := nr rfl
theorem slLen_lst {υ : Type} (w : Nat) (d : υ) (f : υ → SV) (l : List υ) : slLen (.lst w d f l) = some l.length := nr rfl
theorem slLen_nils  : slLen .nils = some 0 := nr rfl
theorem slLen_vec (i n : Nat) : slLen (.vec i n) = some n := nr rfl
theorem srcL_vec (m : List Res) (w j n : Nat) : srcL m w (.vec j n) = (match memAt m j with
    | .vec _ w' l => if w' = w then some l else none
    | _ => none) := nr rfl
theorem srcL_lst {υ : Type} (m : List Res) (w w' : Nat) (d : υ) (f : υ → SV) (l : List υ) : srcL m w (.lst w' d f l) = if w' = w then some (l.map f) else none := nr rfl
theorem srcL_lit {υ : Type} (m : List Res) (w w' : Nat) (d : υ) (f : υ → SV) (l : List υ) : srcL m w (.lit w' d f l) = if w' = w then some (l.map f) else none := nr rfl
theorem srcL_nils (m : List Res) (w : Nat) : srcL m w .nils = some [] := nr rfl
theorem memAt_zero (x : Res) (m : List Res) : memAt (x :: m) 0 = x := nr rfl
theorem memAt_succ (x : Res) (m : List Res) (i : Nat) : memAt (x :: m) (i + 1) = memAt m i := nr rfl
theorem goneAt_nil (m : List Res) (k : Nat) : goneAt [] m k = none := nr rfl
theorem goneAt_dead (m : List Res) (y : Res) (m' : List Res) (k : Nat) : goneAt (.dead :: m) (y :: m') k = goneAt m m' (k + 1) := nr rfl
theorem goneAt_bb (T T' : TypeId) (c c' : SV) (m m' : List Res) (k : Nat) : goneAt (.blk T c :: m) (.blk T' c' :: m') k = goneAt m m' (k + 1) := nr rfl
theorem goneAt_vv (T T' : TypeId) (w w' : Nat) (l l' : List SV) (m m' : List Res) (k : Nat) : goneAt (.vec T w l :: m) (.vec T' w' l' :: m') k = goneAt m m' (k + 1) := nr rfl
theorem goneAt_mm (e1 e2 e3 e4 : ES) (l l' : List (SV × SV)) (m m' : List Res) (k : Nat) : goneAt (.mp e1 e2 l :: m) (.mp e3 e4 l' :: m') k = goneAt m m' (k + 1) := nr rfl
theorem goneAt_md (e1 e2 : ES) (l : List (SV × SV)) (m m' : List Res) (k : Nat) : goneAt (.mp e1 e2 l :: m) (.dead :: m') k = some k := nr rfl
theorem goneAt_vd (T : TypeId) (w : Nat) (l : List SV) (m m' : List Res) (k : Nat) : goneAt (.vec T w l :: m) (.dead :: m') k = some k := nr rfl
theorem goneAt_bd (T : TypeId) (c : SV) (m m' : List Res) (k : Nat) : goneAt (.blk T c :: m) (.dead :: m') k = some k := nr rfl
theorem look_nil (k : Nat) : look k .nil = .junk := nr rfl
theorem look_put (k j : Nat) (x : SV) (r : Fr) : look k (.put j x r) = if k = j then x else look k r := nr rfl
theorem look_pick (k s d : Nat) (x : SV) (r : Fr) : look k (.pick s d x r) = if k = d then x else if s < k ∧ k < d then .junk else look k r := nr rfl
theorem fv_t (τ : Fr) (n : Nat) : Opd.fv τ (.t n) = look n τ := nr rfl
theorem fv_c (τ : Fr) (x : SV) : Opd.fv τ (.c x) = x := nr rfl
theorem putF_none (x : SV) (τ : Fr) : putF none x τ = τ := nr rfl
theorem putF_some (d : Nat) (x : SV) (τ : Fr) : putF (some d) x τ = .put d x τ := nr rfl
theorem keepF_nil (τ : Fr) : keepF [] τ = .nil := nr rfl
theorem keepF_cons (k : Nat) (ks : List Nat) (τ : Fr) : keepF (k :: ks) τ = .put k (look k τ) (keepF ks τ) := nr rfl
theorem ofF_nil (τ : Fr) : Sx.ofF [] [] τ = τ := nr rfl
theorem ofF_cons (k : Nat) (ks : List Nat) (x : SV) (xs : List SV) (τ : Fr) : Sx.ofF (k :: ks) (x :: xs) τ = .put k x (Sx.ofF ks xs τ) := nr rfl
theorem atF_nil (τ : Fr) : atF [] [] τ = True := propext Iff.rfl
theorem atF_cons (k : Nat) (ks : List Nat) (x : SV) (xs : List SV) (τ : Fr) : atF (k :: ks) (x :: xs) τ = (look k τ = x ∧ atF ks xs τ) := propext Iff.rfl
theorem atR_nil (r : Nat → Option Nat) (τ : Fr) : atR r [] [] τ = True := propext Iff.rfl
theorem atR_cons (r : Nat → Option Nat) (k : Nat) (ks : List Nat) (x : SV) (xs : List SV) (τ : Fr) : atR r (k :: ks) (x :: xs) τ = (ren r (look k τ) = x ∧ atR r ks xs τ) := propext Iff.rfl
theorem sameR_nil (r : Nat → Option Nat) (τ τ' : Fr) : sameR r τ τ' [] = True := propext Iff.rfl
theorem sameR_cons (r : Nat → Option Nat) (τ τ' : Fr) (k : Nat) (ks : List Nat) : sameR r τ τ' (k :: ks) = (ren r (look k τ') = look k τ ∧ sameR r τ τ' ks) := propext Iff.rfl
theorem ltI_eq (n i : Nat) : ltI n i = if i < n then some i else none := nr rfl
theorem killF_nil (i : Nat) : killF i .nil = .nil := nr rfl
theorem killF_put (i k : Nat) (x : SV) (r : Fr) : killF i (.put k x r) = .put k (kill i x) (killF i r) := nr rfl
theorem killF_pick (i s d : Nat) (x : SV) (r : Fr) : killF i (.pick s d x r) = .pick s d (kill i x) (killF i r) := nr rfl
theorem renF_nil (r : Nat → Option Nat) : renF r .nil = .nil := nr rfl
theorem renF_put (r : Nat → Option Nat) (k : Nat) (x : SV) (t : Fr) : renF r (.put k x t) = .put k (ren r x) (renF r t) := nr rfl
theorem renF_pick (r : Nat → Option Nat) (s d : Nat) (x : SV) (t : Fr) : renF r (.pick s d x t) = .pick s d (ren r x) (renF r t) := nr rfl
theorem junkF_nil (τ : Fr) : junkF [] τ = τ := nr rfl
theorem junkF_cons (k : Nat) (ks : List Nat) (τ : Fr) : junkF (k :: ks) τ = .put k .junk (junkF ks τ) := nr rfl
theorem dsts_nil  : SL.dsts .nil = [] := nr rfl
theorem dsts_some (d : Nat) (x : IO1) (r : SL) : SL.dsts (.op (some d) x r) = d :: r.dsts := nr rfl
theorem dsts_none (x : IO1) (r : SL) : SL.dsts (.op none x r) = r.dsts := nr rfl
theorem dsts_prune (ks : List Nat) (r : SL) : SL.dsts (.prune ks r) = r.dsts := nr rfl
theorem argF_nil (k : Nat) : argF k [] = .nil := nr rfl
theorem argF_cons (k : Nat) (x : SV) (r : List SV) : argF k (x :: r) = .put k x (argF (k + 1) r) := nr rfl
theorem peekG_ptr {α : Type} {A : Ans α} {m : List Res} {n : Nat} {ag : Bool} {K : SV → α} (i : Nat) (p : List Step) (o : Nat) : peekG A m n ag K (.ptr i p o) = (match memAt m i with
    | .blk _ c => A.need (atP c p 0 o ∧ wd (getP c p) = n ∧ (getP c p).isAgg = ag) (K (getP c p))
    | _ => A.bad) := nr rfl
theorem peekG_eptr {α : Type} {A : Ans α} {m : List Res} {n : Nat} {ag : Bool} {K : SV → α} {υ : Type} (w : Nat) (d : υ) (f : υ → SV) (l : List υ) (i : Nat) (p : List Step) (o : Nat) : peekG A m n ag K (.eptr w d f l i p o) = A.need (atP (f (l.getD i d)) p 0 o ∧ wd (getP (f (l.getD i d)) p) = n ∧ (getP (f (l.getD i d)) p).isAgg = ag) (K (getP (f (l.getD i d)) p)) := nr rfl
theorem peekG_vptr {α : Type} {A : Ans α} {m : List Res} {n : Nat} {ag : Bool} {K : SV → α} (i j : Nat) (p : List Step) (o : Nat) : peekG A m n ag K (.vptr i j p o) = (match memAt m i with
    | .vec _ w l => A.need (j < l.length ∧ atP (l.getD j .junk) p (j * w) o ∧ wd (getP (l.getD j .junk) p) = n ∧ (getP (l.getD j .junk) p).isAgg = ag) (K (getP (l.getD j .junk) p))
    | _ => A.bad) := nr rfl
theorem peekG_ref {α : Type} {A : Ans α} {m : List Res} {n : Nat} {ag : Bool} {K : SV → α} (c : SV) (p : List Step) (o : Nat) : peekG A m n ag K (.ref c p o) = A.need (atP c p 0 o ∧ wd (getP c p) = n ∧ (getP c p).isAgg = ag) (K (getP c p)) := nr rfl
theorem peek_ptr {m : List Res} {n : Nat} {ag : Bool} {K : SV → Prop} (i : Nat) (p : List Step) (o : Nat) : peek m n ag K (.ptr i p o) = (match memAt m i with
    | .blk _ c => (atP c p 0 o ∧ wd (getP c p) = n ∧ (getP c p).isAgg = ag) ∧ K (getP c p)
    | _ => False) := propext Iff.rfl
theorem peek_ref {m : List Res} {n : Nat} {ag : Bool} {K : SV → Prop} (c : SV) (p : List Step) (o : Nat) : peek m n ag K (.ref c p o) = ((atP c p 0 o ∧ wd (getP c p) = n ∧ (getP c p).isAgg = ag) ∧ K (getP c p)) := propext Iff.rfl
theorem poke_ptr {m : List Res} {n : Nat} {v : SV} {K : List Res → Prop} (i : Nat) (p : List Step) (o : Nat) : poke m n v K (.ptr i p o) = (match memAt m i with
    | .blk T c => (atP c p 0 o ∧ wd (getP c p) = n ∧ wd v = n ∧ v.isVal = true) ∧ K (m.set i (.blk T (setP c p v)))
    | _ => False) := propext Iff.rfl
theorem poke_vptr {m : List Res} {n : Nat} {v : SV} {K : List Res → Prop} (i j : Nat) (p : List Step) (o : Nat) : poke m n v K (.vptr i j p o) = (match memAt m i with
    | .vec T w l => (j < l.length ∧ atP (l.getD j .junk) p (j * w) o ∧ wd (getP (l.getD j .junk) p) = n ∧ wd v = n ∧ v.isVal = true) ∧ K (m.set i (.vec T w (l.set j (setP (l.getD j .junk) p v))))
    | _ => False) := propext Iff.rfl
theorem stepG_ptr {α : Type} {A : Ans α} {s : Step} {off : Nat} {K : SV → α} (i : Nat) (p : List Step) (o : Nat) : stepG A s off K (.ptr i p o) = K (.ptr i (p ++ [s]) (o + off)) := nr rfl
theorem stepG_eptr {α : Type} {A : Ans α} {s : Step} {off : Nat} {K : SV → α} {υ : Type} (w : Nat) (d : υ) (f : υ → SV) (l : List υ) (i : Nat) (p : List Step) (o : Nat) : stepG A s off K (.eptr w d f l i p o) = K (.eptr w d f l i (p ++ [s]) (o + off)) := nr rfl
theorem stepG_vptr {α : Type} {A : Ans α} {s : Step} {off : Nat} {K : SV → α} (i j : Nat) (p : List Step) (o : Nat) : stepG A s off K (.vptr i j p o) = K (.vptr i j (p ++ [s]) (o + off)) := nr rfl
theorem stepG_ref {α : Type} {A : Ans α} {s : Step} {off : Nat} {K : SV → α} (c : SV) (p : List Step) (o : Nat) : stepG A s off K (.ref c p o) = K (.ref c (p ++ [s]) (o + off)) := nr rfl
theorem kinds_add (k k' : IntKind) : AOp.kinds k k' .add = (k' = k) := propext Iff.rfl
theorem kinds_sub (k k' : IntKind) : AOp.kinds k k' .sub = (k' = k) := propext Iff.rfl
theorem kinds_mul (k k' : IntKind) : AOp.kinds k k' .mul = (k' = k) := propext Iff.rfl
theorem kinds_quo (k k' : IntKind) : AOp.kinds k k' .quo = (k' = k) := propext Iff.rfl
theorem kinds_rem (k k' : IntKind) : AOp.kinds k k' .rem = (k' = k) := propext Iff.rfl
theorem kinds_and (k k' : IntKind) : AOp.kinds k k' .and = (k' = k) := propext Iff.rfl
theorem kinds_or (k k' : IntKind) : AOp.kinds k k' .or = (k' = k) := propext Iff.rfl
theorem kinds_xor (k k' : IntKind) : AOp.kinds k k' .xor = (k' = k) := propext Iff.rfl
theorem kinds_andNot (k k' : IntKind) : AOp.kinds k k' .andNot = (k' = k) := propext Iff.rfl
theorem kinds_shl (k k' : IntKind) : AOp.kinds k k' .shl = True := propext Iff.rfl
theorem kinds_shr (k k' : IntKind) : AOp.kinds k k' .shr = True := propext Iff.rfl
theorem vopC_p {Γ : FH} {m : List Res} {τ : Fr} {K : SV → Prop → Prop} {acc : Prop} (p : PIO) : vopC Γ m τ K (.p p) acc = popG AC (Opd.fv τ) K p acc := nr rfl
theorem vopC_load {Γ : FH} {m : List Res} {τ : Fr} {K : SV → Prop → Prop} {acc : Prop} (n : Nat) (ag : Bool) (x : Opd) : vopC Γ m τ K (.e (.load n ag x)) acc = peekG AC m n ag K (x.fv τ) acc := nr rfl
theorem vopC_call {Γ : FH} {m : List Res} {τ : Fr} {K : SV → Prop → Prop} {acc : Prop} (f : FuncId) (ys : List Opd) : vopC Γ m τ K (.e (.call f ys)) acc = callC (Γ f (ys.map (Opd.fv τ)) m) K (acc ∧ (ys.map (Opd.fv τ)).all SV.isVal = true) := nr rfl
theorem vopC_qcall {Γ : FH} {m : List Res} {τ : Fr} {K : SV → Prop → Prop} {acc : Prop} (f : FuncId) (ys : List Opd) : vopC Γ m τ K (.e (.qcall f ys)) acc = callC (Γ f (ys.map (Opd.fv τ)) m) K (acc ∧ (ys.map (Opd.fv τ)).all SV.isVal = true) := nr rfl
theorem vopC_qtab {Γ : FH} {m : List Res} {τ : Fr} {K : SV → Prop → Prop} {acc : Prop} (l : List Int) : vopC Γ m τ K (.e (.qtab l)) acc = K (.lst 1 (0 : Int) (SV.int .i64) l) acc := nr rfl
theorem vopC_mop {Γ : FH} {m : List Res} {τ : Fr} {K : SV → Prop → Prop} {acc : Prop} (k : MK) (ys : List Opd) : vopC Γ m τ K (.e (.mop k ys)) acc = mopG AC m k (ys.map (Opd.fv τ)) K (acc ∧ (ys.map (Opd.fv τ)).all SV.isVal = true) := nr rfl
theorem mopG_get {α : Type} {A : Ans α} {m : List Res} {K : SV → α} (ek ev : ES) (z : SV) (ok : Bool) (i : Nat) (key : SV) : mopG A m (.get ek ev z ok) [.map i, key] K = (match memAt m i with
    | .mp ek' ev' l => A.need (ek' = ek ∧ ev' = ev ∧ esP ek key) (K (if ok then .tup [mpRes ev z (mpFind ek key l), .bool (mpFind ek key l).isSome] else mpRes ev z (mpFind ek key l)))
    | _ => A.bad) := nr rfl
theorem mopK_get {m : List Res} {K : SV → List Res → Prop} (ek ev : ES) (z : SV) (ok : Bool) (i : Nat) (key : SV) : mopK m (.get ek ev z ok) [.map i, key] K = (match memAt m i with
    | .mp ek' ev' l => (ek' = ek ∧ ev' = ev ∧ esP ek key) ∧ K (if ok then .tup [mpRes ev z (mpFind ek key l), .bool (mpFind ek key l).isSome] else mpRes ev z (mpFind ek key l)) m
    | _ => False) := nr rfl
theorem mopG_mlen {α : Type} {A : Ans α} {m : List Res} {K : SV → α} (i : Nat) : mopG A m .mlen [.map i] K = (match memAt m i with
    | .mp _ _ l => K (.int .i64 l.length)
    | _ => A.bad) := nr rfl
theorem mopK_mlen {m : List Res} {K : SV → List Res → Prop} (i : Nat) : mopK m .mlen [.map i] K = (match memAt m i with
    | .mp _ _ l => K (.int .i64 l.length) m
    | _ => False) := nr rfl
theorem mopK_put {m : List Res} {K : SV → List Res → Prop} (ek ev : ES) (i : Nat) (key v : SV) : mopK m (.put ek ev) [.map i, key, v] K = (match memAt m i with
    | .mp ek' ev' l => (ek' = ek ∧ ev' = ev ∧ esP ek key ∧ esP ev v) ∧ K .junk (m.set i (.mp ek ev (mpPut ek key v l)))
    | _ => False) := nr rfl
theorem mopK_strb {m : List Res} {K : SV → List Res → Prop} (x : SV) : mopK m .strb [x] K = (match srcL m 1 x with
      | some l => match bytesOf l with
        | some bs => K (.str bs) m
        | none => False
      | none => False) := nr rfl
theorem mopK_bstr {m : List Res} {K : SV → List Res → Prop} (s : List UInt8) : mopK m .bstr [.str s] K = (s.length ≤ 140737488355328 ∧ K (.lst 1 (0 : UInt8) (fun b => SV.int .u8 (b.toNat : Int)) s) m) := nr rfl
theorem slLen_lit {υ : Type} (w : Nat) (d : υ) (f : υ → SV) (l : List υ) : slLen (.lit w d f l) = some l.length := nr rfl
theorem wd_lit {υ : Type} (w : Nat) (d : υ) (f : υ → SV) (l : List υ) : wd (.lit w d f l) = 1 := nr rfl
theorem isAgg_lit {υ : Type} (w : Nat) (d : υ) (f : υ → SV) (l : List υ) : (SV.lit w d f l).isAgg = false := nr rfl
theorem isVal_lit {υ : Type} (w : Nat) (d : υ) (f : υ → SV) (l : List υ) : (SV.lit w d f l).isVal = true := nr rfl
theorem ren_lit {υ : Type} (r : Nat → Option Nat) (w : Nat) (d : υ) (f : υ → SV) (l : List υ) : ren r (.lit w d f l) = .lit w d f l := nr (by simp only [ren])
theorem kill_lit {υ : Type} (i : Nat) (w : Nat) (d : υ) (f : υ → SV) (l : List υ) : kill i (.lit w d f l) = .lit w d f l := nr (by simp only [kill])
theorem idsV_lit {υ : Type} (w : Nat) (d : υ) (f : υ → SV) (l : List υ) : idsV (.lit w d f l) = [] := nr (by simp only [idsV])
theorem bytesOf_u8 (s : List UInt8) : bytesOf (s.map fun b => SV.int .u8 (b.toNat : Int)) = some s := nr (by
  induction s with
  | nil => rfl
  | cons n ns ih => simp only [List.map_cons, bytesOf, ih, Option.map_some, Int.toNat_natCast, UInt8.ofNat_toNat])
theorem bytesOf_nil : bytesOf [] = some [] := nr rfl
theorem bytesOf_map (ns : List Int) : bytesOf (ns.map (SV.int .u8)) = some (ns.map fun n => UInt8.ofNat n.toNat) := nr (by
  induction ns with
  | nil => rfl
  | cons n ns ih => simp only [List.map_cons, bytesOf, ih, Option.map_some])
theorem bytesOf_emb (ns : List Int) : bytesOf (ns.map DT.byte.emb) = some (ns.map fun n => UInt8.ofNat n.toNat) := bytesOf_map ns
theorem bytesOf_cons (n : Int) (r : List SV) : bytesOf (.int .u8 n :: r) = (bytesOf r).map (UInt8.ofNat n.toNat :: ·) := nr rfl
theorem mopK_make {m : List Res} {K : SV → List Res → Prop} (ek ev : ES) : mopK m (.make ek ev) [] K = K (.map m.length) (m ++ [.mp ek ev []]) := nr rfl
theorem mopK_makeN {m : List Res} {K : SV → List Res → Prop} (ek ev : ES) (k : IntKind) (n : Int) : mopK m (.make ek ev) [.int k n] K = K (.map m.length) (m ++ [.mp ek ev []]) := nr rfl
theorem mpRes_bool (z : SV) (o : Option SV) : mpRes .bool z o = .bool (obB o) := nr rfl
theorem mpRes_st (l : List ES) (z : SV) (o : Option SV) : mpRes (.st l) z o = o.getD z := nr rfl
theorem mpRes_int (k : IntKind) (z : SV) (o : Option SV) : mpRes (.int k) z o = .int k (obI o) := nr rfl
theorem vopC_callv {Γ : FH} {m : List Res} {τ : Fr} {K : SV → Prop → Prop} {acc : Prop} (x : Opd) (ys : List Opd) : vopC Γ m τ K (.e (.callv x ys)) acc = (match x.fv τ with
    | .fn f cap => AC.need ((ys.map (Opd.fv τ)).all SV.isVal = true) (callC (Γ f (ys.map (Opd.fv τ) ++ cap) m) K)
    | _ => AC.bad) acc := nr rfl
theorem callC_ro (p : Prop) (r : SV) (K : SV → Prop → Prop) (acc : Prop) : callC (.ro p r) K acc = K r (acc ∧ p) := nr rfl
theorem hook_ro (m : List Res) (p : Prop) (r : SV) (K : SV → List Res → Prop) : Call.hook (.ro p r) m K = (p ∧ K r m) := propext Iff.rfl
theorem hook_is (m : List Res) (p : Prop) (r : SV) (m' : List Res) (K : SV → List Res → Prop) : Call.hook (.is p r m') m K = (p ∧ K r m') := propext Iff.rfl
theorem ac_need (p : Prop) (x : Prop → Prop) (acc : Prop) : AC.need p x acc = x (acc ∧ p) := nr rfl
theorem ac_bad (acc : Prop) : AC.bad acc = False := nr rfl
theorem ac_spl (b : Bool) (x y : Prop → Prop) (acc : Prop) : AC.spl b x y acc = ((b = true → x acc) ∧ (b = false → y acc)) := nr rfl
theorem vc_nil {Γ : FH} {m : List Res} {y : Opd} {τ : Fr} {K : Bool → Prop → Prop} {acc : Prop}  : SL.vc Γ m .nil y τ K acc = (match y.fv τ with
    | .bool b => K b acc
    | _ => False) := nr rfl
theorem vc_op {Γ : FH} {m : List Res} {y : Opd} {τ : Fr} {K : Bool → Prop → Prop} {acc : Prop} (d : Option Nat) (x : IO1) (r : SL) : SL.vc Γ m (.op d x r) y τ K acc = vopC Γ m τ (fun sv acc' => r.vc Γ m y (putF d sv τ) K acc') x acc := nr rfl
theorem vc_sc {Γ : FH} {m : List Res} {y : Opd} {τ : Fr} {K : Bool → Prop → Prop} {acc : Prop} (or : Bool) (d s : Nat) (l : SL) (y' : Opd) (r : SL) : SL.vc Γ m (.sc or d s l y' r) y τ K acc = (match look s τ with
    | .bool b => l.vc Γ m y' τ (fun q g => r.vc Γ m y (.pick s d (.bool (if or then b || q else b && q)) τ) K (acc ∧ (b = (!or) → g))) True
    | _ => False) := nr rfl
theorem vc_prune {Γ : FH} {m : List Res} {y : Opd} {τ : Fr} {K : Bool → Prop → Prop} {acc : Prop} (ks : List Nat) (r : SL) : SL.vc Γ m (.prune ks r) y τ K acc = r.vc Γ m y (keepF ks τ) K acc := nr rfl
theorem wp_nil {Γ : FH} {dr : Bool} {K : Fr → List Res → Prop} {τ : Fr} {m : List Res}  : SL.wp Γ dr .nil K τ m = K τ m := propext Iff.rfl
theorem wp_op {Γ : FH} {dr : Bool} {K : Fr → List Res → Prop} {τ : Fr} {m : List Res} (d : Option Nat) (x : IO1) (r : SL) : SL.wp Γ dr (.op d x r) K τ m = opF Γ dr τ m (fun τ' sv m' => r.wp Γ dr K (putF d sv τ') m') x := propext Iff.rfl
theorem wp_sc {Γ : FH} {dr : Bool} {K : Fr → List Res → Prop} {τ : Fr} {m : List Res} (or : Bool) (d s : Nat) (l : SL) (y : Opd) (r : SL) : SL.wp Γ dr (.sc or d s l y r) K τ m = (match look s τ with
    | .bool b => l.vc Γ m y τ (fun q g => (b = (!or) → g) ∧ r.wp Γ dr K (.pick s d (.bool (if or then b || q else b && q)) τ) m) True
    | _ => False) := propext Iff.rfl
theorem wpg_nil {Γ : FH} {dr want : Bool} {s : Nat} {K : Fr → List Res → Prop} {τ : Fr} {m : List Res} : SL.wpg Γ dr s want .nil K τ m = (look s τ = .bool want ∧ K τ m) := propext Iff.rfl
theorem wpg_op {Γ : FH} {dr want : Bool} {s : Nat} {K : Fr → List Res → Prop} {τ : Fr} {m : List Res} (d : Option Nat) (x : IO1) (r : SL) : SL.wpg Γ dr s want (.op d x r) K τ m = (look s τ = .bool want ∧ opF Γ dr τ m (fun τ' sv m' => r.wpg Γ dr s want K (putF d sv τ') m') x) := propext Iff.rfl
theorem wpg_prune {Γ : FH} {dr want : Bool} {s : Nat} {K : Fr → List Res → Prop} {τ : Fr} {m : List Res} (ks : List Nat) (r : SL) : SL.wpg Γ dr s want (.prune ks r) K τ m = r.wpg Γ dr s want K (keepF ks τ) m := propext Iff.rfl
theorem wp_scd {Γ : FH} {dr : Bool} {K : Fr → List Res → Prop} {τ : Fr} {m : List Res} (or : Bool) (d s : Nat) (l : SL) (y : Opd) (r : SL) : SL.wp Γ dr (.scd or d s l y r) K τ m = (match look s τ with
    | .bool b => if b = or then l.wfg s d [] = true ∧ r.wp Γ dr K (.pick s d (.bool or) τ) m else l.wpg Γ dr s (!or) (fun τ' m' => match y.fv τ' with
      | .bool q => r.wp Γ dr K (.pick s d (.bool q) τ') m'
      | _ => False) τ m
    | _ => False) := propext Iff.rfl
theorem wp_prune {Γ : FH} {dr : Bool} {K : Fr → List Res → Prop} {τ : Fr} {m : List Res} (ks : List Nat) (r : SL) : SL.wp Γ dr (.prune ks r) K τ m = r.wp Γ dr K (keepF ks τ) m := propext Iff.rfl
theorem vecsF_nils {k : Nat} {T : TypeId} {w : Nat} {K : Fr → List Res → Prop} {τ : Fr} {m : List Res} : vecsF k T w K τ m .nils = K (.put k (.vec m.length 0) τ) (m ++ [.vec T w []]) := propext Iff.rfl
theorem vecsF_vec {k : Nat} {T : TypeId} {w : Nat} {K : Fr → List Res → Prop} {τ : Fr} {m : List Res} (i n : Nat) : vecsF k T w K τ m (.vec i n) = K τ m := propext Iff.rfl
theorem vecsF_lst {υ : Type} {k : Nat} {T : TypeId} {w : Nat} {K : Fr → List Res → Prop} {τ : Fr} {m : List Res} (w' : Nat) (d : υ) (f : υ → SV) (l : List υ) : vecsF k T w K τ m (.lst w' d f l) = K τ m := propext Iff.rfl
theorem endF_norm {rs : List ResultVar} {P : Program} {n0 : Nat} {res : SV} {m1 : List Res} {τ : Fr} {m : List Res} : endF rs P n0 res m1 .norm τ m = resF P τ m (fun x => packJ (upto n0 0 ++ newIds n0 (idsV x)) res m1 m x) rs := propext Iff.rfl
theorem endF_ret {rs : List ResultVar} {P : Program} {n0 : Nat} {res : SV} {m1 : List Res} {τ : Fr} {m : List Res} : endF rs P n0 res m1 .ret τ m = resF P τ m (fun x => packJ (upto n0 0 ++ newIds n0 (idsV x)) res m1 m x) rs := propext Iff.rfl
theorem endF_exit {rs : List ResultVar} {P : Program} {n0 : Nat} {res : SV} {m1 : List Res} {τ : Fr} {m : List Res} (i : Nat) : endF rs P n0 res m1 (.exit i) τ m = False := propext Iff.rfl
theorem resF_nil {P : Program} {τ : Fr} {m : List Res} {K : SV → Prop}  : resF P τ m K [] = K (.tup []) := propext Iff.rfl
theorem resF_tmp {P : Program} {τ : Fr} {m : List Res} {K : SV → Prop} (t : Nat) : resF P τ m K [.tmp t] = ((look t τ).isVal = true ∧ K (look t τ)) := propext Iff.rfl
theorem resF_cell {P : Program} {τ : Fr} {m : List Res} {K : SV → Prop} (t : Nat) (T : TypeId) : resF P τ m K [.cell t T] = (match tsz P T with
    | some (n, ag) => peek m n ag K (look t τ)
    | none => False) := propext Iff.rfl
theorem resF_tt {P : Program} {τ : Fr} {m : List Res} {K : SV → Prop} (t : Nat) (r : ResultVar) (l : List ResultVar) : resF P τ m K (.tmp t :: r :: l) = resF.go P τ m (.tmp t :: r :: l) fun xs => K (.tup xs) := propext Iff.rfl
theorem resF_cc {P : Program} {τ : Fr} {m : List Res} {K : SV → Prop} (t : Nat) (T : TypeId) (r : ResultVar) (l : List ResultVar) : resF P τ m K (.cell t T :: r :: l) = resF.go P τ m (.cell t T :: r :: l) fun xs => K (.tup xs) := propext Iff.rfl
theorem resFgo_nil {P : Program} {τ : Fr} {m : List Res} {K : List SV → Prop}  : resF.go P τ m [] K = K [] := propext Iff.rfl
theorem resFgo_tmp {P : Program} {τ : Fr} {m : List Res} {K : List SV → Prop} (t : Nat) (r : List ResultVar) : resF.go P τ m (.tmp t :: r) K = ((look t τ).isVal = true ∧ resF.go P τ m r fun xs => K (look t τ :: xs)) := propext Iff.rfl
theorem resFgo_cell {P : Program} {τ : Fr} {m : List Res} {K : List SV → Prop} (t : Nat) (T : TypeId) (r : List ResultVar) : resF.go P τ m (.cell t T :: r) K = (match tsz P T with
    | some (n, ag) => peek m n ag (fun x => x.isVal = true ∧ resF.go P τ m r fun xs => K (x :: xs)) (look t τ)
    | none => False) := propext Iff.rfl
theorem idsV_int (k : IntKind) (n : Int) : idsV (.int k n) = [] := nr rfl
theorem idsV_bool (b : Bool) : idsV (.bool b) = [] := nr rfl
theorem idsV_str (s : List UInt8) : idsV (.str s) = [] := nr rfl
theorem idsV_lst {υ : Type} (w : Nat) (d : υ) (f : υ → SV) (l : List υ) : idsV (.lst w d f l) = [] := nr rfl
theorem idsV_eptr {υ : Type} (w : Nat) (d : υ) (f : υ → SV) (l : List υ) (i : Nat) (p : List Step) (o : Nat) : idsV (.eptr w d f l i p o) = [] := nr rfl
theorem idsV_ref (c : SV) (p : List Step) (o : Nat) : idsV (.ref c p o) = [] := nr rfl
theorem idsV_ptr (i : Nat) (p : List Step) (o : Nat) : idsV (.ptr i p o) = [i] := nr rfl
theorem idsV_vec (i n : Nat) : idsV (.vec i n) = [i] := nr rfl
theorem idsV_vptr (i j : Nat) (p : List Step) (o : Nat) : idsV (.vptr i j p o) = [i] := nr rfl
theorem idsV_pvec (i n : Nat) : idsV (.pvec i n) = [i] := nr rfl
theorem idsV_map (i : Nat) : idsV (.map i) = [i] := nr rfl
theorem idsV_fn (f : FuncId) (c : List SV) : idsV (.fn f c) = idsL c := nr rfl
theorem idsV_iface (t : TypeId) (x : SV) : idsV (.iface t x) = idsV x := nr rfl
theorem idsV_nils  : idsV (.nils) = [] := nr rfl
theorem idsV_nili  : idsV (.nili) = [] := nr rfl
theorem idsV_nilf  : idsV (.nilf) = [] := nr rfl
theorem idsV_nilp  : idsV (.nilp) = [] := nr rfl
theorem idsV_nilm  : idsV (.nilm) = [] := nr rfl
theorem idsV_anyb  : idsV (.anyb) = [] := nr rfl
theorem idsV_arr (n w : Nat) (f : Nat → SV) : idsV (.arr n w f) = [] := nr rfl
theorem idsV_agg (l : List SV) : idsV (.agg l) = idsL l := nr rfl
theorem idsV_tup (l : List SV) : idsV (.tup l) = idsL l := nr rfl
theorem idsV_junk  : idsV .junk = [] := nr rfl
theorem idsL_nil  : idsL [] = [] := nr rfl
theorem idsL_cons (x : SV) (r : List SV) : idsL (x :: r) = idsV x ++ idsL r := nr rfl
theorem newIds_nil (n : Nat) : newIds n [] = [] := nr rfl
theorem newIds_cons (n i : Nat) (r : List Nat) : newIds n (i :: r) = if i < n then newIds n r else i :: newIds n r := nr rfl
theorem upto_zero (k : Nat) : upto 0 k = [] := nr rfl
theorem upto_succ (n k : Nat) : upto (n + 1) k = k :: upto n (k + 1) := nr rfl
theorem nd_nil  : nd [] = True := propext Iff.rfl
theorem nd_cons (k : Nat) (r : List Nat) : nd (k :: r) = (notIn k r ∧ nd r) := propext Iff.rfl
theorem notIn_nil (k : Nat) : notIn k [] = True := propext Iff.rfl
theorem notIn_cons (k j : Nat) (r : List Nat) : notIn k (j :: r) = (k ≠ j ∧ notIn k r) := propext Iff.rfl
theorem selJ_nil (j i : Nat) : selJ [] j i = none := nr rfl
theorem selJ_cons (k : Nat) (r : List Nat) (j i : Nat) : selJ (k :: r) j i = if i = k then some j else selJ r (j + 1) i := nr rfl
theorem lenB_int (k : IntKind) (n : Int) : lenB (.int k n) = True := by simp only [lenB]
theorem lenB_bool (b : Bool) : lenB (.bool b) = True := by simp only [lenB]
theorem lenB_str (s : List UInt8) : lenB (.str s) = True := by simp only [lenB]
theorem lenB_eptr {υ : Type} (w : Nat) (d : υ) (f : υ → SV) (l : List υ) (i : Nat) (p : List Step) (o : Nat) : lenB (.eptr w d f l i p o) = True := by simp only [lenB]
theorem lenB_ptr (i : Nat) (p : List Step) (o : Nat) : lenB (.ptr i p o) = True := by simp only [lenB]
theorem lenB_vec (i n : Nat) : lenB (.vec i n) = True := by simp only [lenB]
theorem lenB_vptr (i j : Nat) (p : List Step) (o : Nat) : lenB (.vptr i j p o) = True := by simp only [lenB]
theorem lenB_pvec (i n : Nat) : lenB (.pvec i n) = True := by simp only [lenB]
theorem lenB_map (i : Nat) : lenB (.map i) = True := by simp only [lenB]
theorem lenB_fn (f : FuncId) (c : List SV) : lenB (.fn f c) = True := by simp only [lenB]
theorem lenB_iface (t : TypeId) (x : SV) : lenB (.iface t x) = True := by simp only [lenB]
theorem lenB_nils  : lenB (.nils) = True := by simp only [lenB]
theorem lenB_nili  : lenB (.nili) = True := by simp only [lenB]
theorem lenB_nilf  : lenB (.nilf) = True := by simp only [lenB]
theorem lenB_nilp  : lenB (.nilp) = True := by simp only [lenB]
theorem lenB_nilm  : lenB (.nilm) = True := by simp only [lenB]
theorem lenB_anyb  : lenB (.anyb) = True := by simp only [lenB]
theorem lenB_lst {υ : Type} (w : Nat) (d : υ) (f : υ → SV) (l : List υ) : lenB (.lst w d f l) = (l.length ≤ 9223372036854775807 ∧ ∀ x ∈ l, lenB (f x)) := by simp only [lenB]
theorem lenB_ref (c : SV) (p : List Step) (o : Nat) : lenB (.ref c p o) = lenB c := by simp only [lenB]
theorem lenB_agg (l : List SV) : lenB (.agg l) = lenBL l := by simp only [lenB]
theorem lenB_arr (n w : Nat) (f : Nat → SV) : lenB (.arr n w f) = ∀ i, i < n → lenB (f i) := by simp only [lenB]
theorem lenBL_nil  : lenBL [] = True := by simp only [lenBL]
theorem lenBL_cons (x : SV) (r : List SV) : lenBL (x :: r) = (lenB x ∧ lenBL r) := by simp only [lenBL]
theorem c_take_zero {α : Type _} (l : List α) : l.take 0 = [] := nr rfl
theorem c_take_succ {α : Type _} (n : Nat) (x : α) (l : List α) : (x :: l).take (n + 1) = x :: l.take n := nr rfl
theorem c_take_nil {α : Type _} (n : Nat) : ([] : List α).take n = [] := by cases n <;> rfl
theorem c_drop_zero {α : Type _} (l : List α) : l.drop 0 = l := nr rfl
theorem c_drop_succ {α : Type _} (n : Nat) (x : α) (l : List α) : (x :: l).drop (n + 1) = l.drop n := nr rfl
theorem c_zero_add (n : Nat) : 0 + n = n := nr (Nat.zero_add n)
theorem c_add_zero (n : Nat) : n + 0 = n := nr rfl
theorem c_toNat (n : Nat) : (n : Int).toNat = n := nr rfl
theorem c_replicate_zero {α : Type _} (x : α) : List.replicate 0 x = [] := nr rfl
theorem c_replicate_succ {α : Type _} (n : Nat) (x : α) : List.replicate (n + 1) x = x :: List.replicate n x := nr rfl
theorem c_length_nil {α : Type _} : ([] : List α).length = 0 := nr rfl
theorem c_length_cons {α : Type _} (x : α) (l : List α) : (x :: l).length = l.length + 1 := nr rfl
theorem c_nil_append {α : Type _} (l : List α) : [] ++ l = l := nr rfl
theorem c_cons_append {α : Type _} (x : α) (a b : List α) : (x :: a) ++ b = x :: (a ++ b) := nr rfl
theorem c_set_zero {α : Type _} (x y : α) (l : List α) : (x :: l).set 0 y = y :: l := nr rfl
theorem c_set_succ {α : Type _} (x y : α) (l : List α) (n : Nat) : (x :: l).set (n + 1) y = x :: l.set n y := nr rfl
theorem c_getD_zero {α : Type _} (x d : α) (l : List α) : (x :: l).getD 0 d = x := nr rfl
theorem c_getD_succ {α : Type _} (x d : α) (l : List α) (n : Nat) : (x :: l).getD (n + 1) d = l.getD n d := nr rfl
theorem c_map_nil {α β : Type _} (f : α → β) : [].map f = [] := nr rfl
theorem c_map_cons {α β : Type _} (f : α → β) (x : α) (l : List α) : (x :: l).map f = f x :: l.map f := nr rfl
theorem c_all_nil {α : Type _} (p : α → Bool) : [].all p = true := nr rfl
theorem c_all_cons {α : Type _} (p : α → Bool) (x : α) (l : List α) : (x :: l).all p = (p x && l.all p) := nr rfl
theorem c_true_and (b : Bool) : (true && b) = b := nr rfl
theorem c_and_true (b : Bool) : (b && true) = b := by cases b <;> rfl
theorem c_false_and (b : Bool) : (false && b) = false := nr rfl
theorem c_and_false (b : Bool) : (b && false) = false := by cases b <;> rfl
theorem c_false_or (b : Bool) : (false || b) = b := nr rfl
theorem c_or_false (b : Bool) : (b || false) = b := by cases b <;> rfl
theorem c_true_or (b : Bool) : (true || b) = true := nr rfl
theorem c_or_true (b : Bool) : (b || true) = true := by cases b <;> rfl
theorem c_not_true : (!true) = false := nr rfl
theorem c_not_false : (!false) = true := nr rfl
theorem c_map_some {α β : Type _} (f : α → β) (x : α) : (some x).map f = some (f x) := nr rfl
theorem c_map_none {α β : Type _} (f : α → β) : (none : Option α).map f = none := nr rfl
theorem c_length_map {α β : Type _} (f : α → β) (l : List α) : (l.map f).length = l.length := nr (List.length_map f)
theorem c_zero_lt (n : Nat) : (0 < n + 1) = True := eq_true (Nat.succ_pos n)
theorem c_ne_succ (n : Nat) : (n = n + 1) = False := eq_false (by omega)
theorem c_shf (n j : Nat) : shf n j = some (n + j) := nr rfl
theorem cop_eql (a b : Int) : COp.ev a b .eql = decide (a = b) := nr rfl
theorem cop_neq (a b : Int) : COp.ev a b .neq = !decide (a = b) := nr rfl
theorem cop_lss (a b : Int) : COp.ev a b .lss = decide (a < b) := nr rfl
theorem cop_leq (a b : Int) : COp.ev a b .leq = decide (a ≤ b) := nr rfl
theorem cop_gtr (a b : Int) : COp.ev a b .gtr = decide (b < a) := nr rfl
theorem cop_geq (a b : Int) : COp.ev a b .geq = decide (b ≤ a) := nr rfl
theorem eqV_int (k k1 k2 : IntKind) (a b : Int) : eqV (.int k) (.int k1 a) (.int k2 b) = decide (a = b) := nr rfl
theorem eqV_bool (a b : Bool) : eqV .bool (.bool a) (.bool b) = (a == b) := nr rfl
theorem eqV_str (a b : List UInt8) : eqV .str (.str a) (.str b) = decide (a = b) := nr rfl
theorem eqV_st (l : List ES) (xs ys : List SV) : eqV (.st l) (.agg xs) (.agg ys) = eqVL l xs ys := nr rfl
theorem eqV_arr (n w : Nat) (e : ES) (n1 w1 n2 w2 : Nat) (f g : Nat → SV) : eqV (.arr n w e) (.arr n1 w1 f) (.arr n2 w2 g) = (List.range n).all fun i => eqV e (f i) (g i) := nr rfl
theorem eqVL_nil (xs ys : List SV) : eqVL [] xs ys = true := nr rfl
theorem eqVL_cons (e : ES) (l : List ES) (x y : SV) (xs ys : List SV) : eqVL (e :: l) (x :: xs) (y :: ys) = (eqV e x y && eqVL l xs ys) := nr rfl
theorem fh_on (f : FuncId) (H : List SV → List Res → Call) (Γ : FH) (g : FuncId) (args : List SV) (m : List Res) : FH.on f H Γ g args m = if g = f then H args m else Γ g args m := nr rfl
theorem fh_none (g : FuncId) (args : List SV) (m : List Res) : FH.none g args m = .no := nr rfl
theorem fh_rd (f : FuncId) {α ρ : Type} (A : DA α) (R : DR ρ) (pre : α → Prop) (F : α → ρ) (Γ : FH) (g : FuncId) (args : List SV) (m : List Res) : FH.rd f A R pre F Γ g args m = if g = f then .ro (A.decP m args ∧ pre (A.decV m args)) (R.emb (F (A.decV m args))) else Γ g args m := nr rfl
theorem fh_pz (f : FuncId) {α ρ : Type} (A : DA α) (R : DP ρ) (pre : α → Prop) (F : α → ρ) (Γ : FH) (g : FuncId) (args : List SV) (m : List Res) : FH.pz f A R pre F Γ g args m = if g = f then .ro (A.emb (A.decV [] args) = args ∧ pre (A.decV [] args)) (R.emb (F (A.decV [] args))) else Γ g args m := nr rfl
theorem fh_fz (f : FuncId) {α ρ : Type} (A : DA α) (R : DP ρ) (pre : α → Prop) (F : α → ρ) (Γ : FH) (g : FuncId) (args : List SV) (m : List Res) : FH.fz f A R pre F Γ g args m = if g = f then .is (A.decP m args ∧ pre (A.decV m args)) (R.emb (F (A.decV m args))) (deads m) else Γ g args m := nr rfl
theorem c_deads_nil : deads [] = [] := nr rfl
theorem c_deads_cons (x : Res) (m : List Res) : deads (x :: m) = .dead :: deads m := nr rfl
theorem fh_mk (f : FuncId) {α : Type} (A : DA α) (pre : α → Prop) (F : α → SV) (M : α → List Res) (Γ : FH) (g : FuncId) (args : List SV) (m : List Res) : FH.mk f A pre F M Γ g args m = if g = f then .is (A.decP m args ∧ pre (A.decV m args)) (ren (shf m.length) (F (A.decV m args))) (m ++ (M (A.decV m args)).map (renR (shf m.length))) else Γ g args m := nr rfl
theorem fh_mt (f : FuncId) {σ α ρ : Type} (T : TypeId) (d : DT σ) (A : DA α) (R : DR ρ) (pre : σ → α → Prop) (F : σ → α → ρ) (S : σ → α → σ) (Γ : FH) (g : FuncId) (i : Nat) (p : List Step) (o : Nat) (rest : List SV) (m : List Res) :
    FH.mt f T d A R pre F S Γ g (.ptr i p o :: rest) m = if g = f then (match memAt m i with
        | .blk T' c => .is (T' = T ∧ p = [] ∧ o = 0 ∧ d.emb (d.decV [] c) = c ∧ A.emb (A.decV [] rest) = rest ∧ pre (d.decV [] c) (A.decV [] rest)) (R.emb (F (d.decV [] c) (A.decV [] rest))) (m.set i (.blk T (d.emb (S (d.decV [] c) (A.decV [] rest)))))
        | _ => .no) else Γ g (.ptr i p o :: rest) m := nr rfl
theorem fh_mt_not (f : FuncId) {σ α ρ : Type} (T : TypeId) (d : DT σ) (A : DA α) (R : DR ρ) (pre : σ → α → Prop) (F : σ → α → ρ) (S : σ → α → σ) (Γ : FH) (g : FuncId) (args : List SV) (m : List Res) (h : g ≠ f) :
    FH.mt f T d A R pre F S Γ g args m = Γ g args m := if_neg h
attribute [go_sem ↓] look_nil look_put look_pick fv_t fv_c putF_none putF_some keepF_nil keepF_cons ofF_nil ofF_cons atF_nil
attribute [go_sem ↓] atF_cons atR_nil atR_cons sameR_nil sameR_cons ltI_eq peekG_ptr peekG_eptr peekG_vptr peekG_ref peek_ptr peek_ref
attribute [go_sem ↓] poke_ptr poke_vptr stepG_ptr stepG_eptr stepG_vptr stepG_ref kinds_add kinds_sub kinds_mul kinds_quo kinds_rem kinds_and
attribute [go_sem ↓] kinds_or kinds_xor kinds_andNot kinds_shl kinds_shr vopC_p vopC_load vopC_call vopC_qcall vopC_qtab vopC_callv callC_ro
attribute [go_sem ↓] hook_ro hook_is ac_need ac_bad ac_spl vecsF_nils vecsF_vec vecsF_lst endF_norm endF_ret endF_exit resF_nil
attribute [go_sem ↓] resF_tmp resF_cell resF_tt resF_cc resFgo_nil resFgo_tmp resFgo_cell
attribute [go_sem] slLen_lit wd_lit isAgg_lit isVal_lit ren_lit kill_lit idsV_lit List.isEmpty_cons List.isEmpty_nil
attribute [go_sem] wd_int isAgg_int wd_bool isAgg_bool wd_str isAgg_str wd_lst isAgg_lst wd_eptr isAgg_eptr wd_ref isAgg_ref
attribute [go_sem] wd_ptr isAgg_ptr wd_vec isAgg_vec wd_vptr isAgg_vptr wd_pvec isAgg_pvec wd_map isAgg_map wd_fn isAgg_fn wd_iface isAgg_iface
attribute [go_sem] wd_nils isAgg_nils wd_nili isAgg_nili wd_nilf isAgg_nilf wd_nilp isAgg_nilp wd_nilm isAgg_nilm wd_anyb isAgg_anyb
attribute [go_sem] wd_junk wd_arr wd_agg wds_nil wds_cons isAgg_arr isAgg_agg isAgg_junk isVal_int isVal_bool isVal_str isVal_lst
attribute [go_sem] isVal_eptr isVal_ref isVal_ptr isVal_vec isVal_vptr isVal_pvec isVal_map isVal_fn isVal_iface isVal_nils isVal_nili isVal_nilf isVal_nilp
attribute [go_sem] isSet_tup isSet_int isSet_bool isSet_agg isSet_str mpRes_st isVal_nilm isVal_anyb isVal_arr isVal_agg isVal_tup isVal_junk getP_nil getP_fld getP_idx setP_nil setP_fld setP_idx
attribute [go_sem] atP_nil atP_fld atP_idx pathOk_nil pathOk_fld pathOk_idx ren_int kill_int ren_bool kill_bool ren_str kill_str
attribute [go_sem] ren_lst kill_lst ren_eptr kill_eptr ren_ref kill_ref kill_ptr kill_map ren_nils kill_nils ren_nili kill_nili
attribute [go_sem] ren_nilf kill_nilf ren_nilp kill_nilp ren_nilm kill_nilm ren_anyb kill_anyb ren_junk kill_junk ren_vec ren_vptr ren_pvec
attribute [go_sem] ren_ptr ren_map ren_arr ren_agg ren_tup ren_fn ren_iface renL_nil renL_cons renI_eq renR_dead renR_blk
attribute [go_sem] renR_mp killR_mp goneAt_mm goneAt_md mpRes_bool mpRes_int
attribute [go_sem ↓] vopC_mop mopG_mlen mopK_mlen mopG_get mopK_get mopK_put mopK_make mopK_makeN mopK_strb mopK_bstr bytesOf_u8 bytesOf_nil bytesOf_map bytesOf_emb bytesOf_cons
attribute [go_sem] renR_vec kill_vec kill_vptr kill_pvec kill_arr kill_agg kill_tup kill_fn kill_iface killL_nil killL_cons killR_dead killR_blk
attribute [go_sem] killR_vec slLen_lst slLen_nils slLen_vec srcL_vec srcL_lst srcL_lit srcL_nils memAt_zero memAt_succ goneAt_nil goneAt_dead goneAt_bb
attribute [go_sem] goneAt_vv goneAt_vd goneAt_bd killF_nil killF_put killF_pick renF_nil renF_put renF_pick junkF_nil junkF_cons dsts_nil
attribute [go_sem] dsts_some dsts_none dsts_prune argF_nil argF_cons vc_nil vc_op vc_sc vc_prune wp_nil wp_op wp_sc wp_scd wpg_nil wpg_op wpg_prune
attribute [go_sem] wp_prune idsV_int idsV_bool idsV_str idsV_lst idsV_eptr idsV_ref idsV_ptr idsV_vec idsV_vptr idsV_pvec idsV_map idsV_fn
attribute [go_sem] idsV_iface idsV_nils idsV_nili idsV_nilf idsV_nilp idsV_nilm idsV_anyb idsV_arr idsV_agg idsV_tup idsV_junk idsL_nil
attribute [go_sem] idsL_cons newIds_nil newIds_cons upto_zero upto_succ nd_nil nd_cons notIn_nil notIn_cons selJ_nil selJ_cons lenB_int
attribute [go_sem] lenB_bool lenB_str lenB_eptr lenB_ptr lenB_vec lenB_vptr lenB_pvec lenB_map lenB_fn lenB_iface lenB_nils lenB_nili lenB_nilf
attribute [go_sem] lenB_nilp lenB_nilm lenB_anyb lenB_lst lenB_ref lenB_agg lenB_arr lenBL_nil lenBL_cons
/-! ### Order of walking: what a step hangs on is looked at first, what comes behind waits.
A law of congruence by which nothing changes would let 'simp' look at all that comes behind: 'wrp' is always struck. -/
section waits
variable {α : Type} {Γ : FH} {n0 : Nat}
def wrp.{u} {β : Sort u} (x : β) : β := x
theorem wrp_eq.{u} {β : Sort u} (x : β) : wrp x = x := Eq.trans (Eq.refl x) (Eq.refl x)
theorem jcwp_congr {c : JC} {Q : Ex → Fr → List Res → Prop} {τ τ' : Fr} {m m' : List Res} (h1 : wrp τ = τ') (h2 : wrp m = m') : JC.wp Γ n0 c Q τ m = JC.wp Γ n0 c Q τ' m' := by subst h1; subst h2; rfl
theorem jcwpL_congr {keep mod : List Nat} {c : JC} {Q : Ex → Fr → List Res → Prop} {hd : Hide Γ c Q} {τ τ' : Fr} {m m' : List Res} (h1 : wrp τ = τ') (h2 : wrp m = m') : JC.wpL Γ n0 keep mod c Q hd τ m = JC.wpL Γ n0 keep mod c Q hd τ' m' := by subst h1; subst h2; rfl
theorem slwpg_congr {dr want : Bool} {s : Nat} {l : SL} {K : Fr → List Res → Prop} {τ τ' : Fr} {m m' : List Res} (h1 : wrp τ = τ') (h2 : wrp m = m') : SL.wpg Γ dr s want l K τ m = SL.wpg Γ dr s want l K τ' m' := by subst h1; subst h2; rfl
theorem slwp_congr {dr : Bool} {l : SL} {K : Fr → List Res → Prop} {τ τ' : Fr} {m m' : List Res} (h1 : wrp τ = τ') (h2 : wrp m = m') : SL.wp Γ dr l K τ m = SL.wp Γ dr l K τ' m' := by subst h1; subst h2; rfl
theorem slvc_congr {m m' : List Res} {l : SL} {y : Opd} {τ τ' : Fr} {K : Bool → Prop → Prop} {acc acc' : Prop} (h1 : wrp τ = τ') (h2 : wrp m = m') (h3 : wrp acc = acc') : SL.vc Γ m l y τ K acc = SL.vc Γ m' l y τ' K acc' := by subst h1; subst h2; subst h3; rfl
theorem peekG_congr {A : Ans α} {m : List Res} {n : Nat} {ag : Bool} {K : SV → α} {x x' : SV} (h : wrp x = x') : peekG A m n ag K x = peekG A m n ag K x' := by subst h; rfl
theorem peek_congr {m : List Res} {n : Nat} {ag : Bool} {K : SV → Prop} {x x' : SV} (h : wrp x = x') : peek m n ag K x = peek m n ag K x' := by subst h; rfl
theorem poke_congr {m : List Res} {n : Nat} {v : SV} {K : List Res → Prop} {x x' : SV} (h : wrp x = x') : poke m n v K x = poke m n v K x' := by subst h; rfl
theorem stepG_congr {A : Ans α} {s : Step} {off : Nat} {K : SV → α} {x x' : SV} (h : wrp x = x') : stepG A s off K x = stepG A s off K x' := by subst h; rfl
theorem callC_congr {c c' : Call} {K : SV → Prop → Prop} {acc : Prop} (h : wrp c = c') : callC c K acc = callC c' K acc := by subst h; rfl
theorem callhook_congr {c c' : Call} {m : List Res} {K : SV → List Res → Prop} (h : wrp c = c') : Call.hook c m K = Call.hook c' m K := by subst h; rfl
theorem mopG_congr {A : Ans α} {m : List Res} {k : MK} {K : SV → α} {x x' : List SV} (h : wrp x = x') : mopG A m k x K = mopG A m k x' K := by subst h; rfl
theorem mopK_congr {m : List Res} {k : MK} {K : SV → List Res → Prop} {x x' : List SV} (h : wrp x = x') : mopK m k x K = mopK m k x' K := by subst h; rfl
theorem vecsF_congr {k : Nat} {T : TypeId} {w : Nat} {K : Fr → List Res → Prop} {τ : Fr} {m : List Res} {x x' : SV} (h : wrp x = x') : vecsF k T w K τ m x = vecsF k T w K τ m x' := by subst h; rfl
theorem endF_congr {rs : List ResultVar} {P : Program} {n0 : Nat} {res : SV} {m1 : List Res} {e e' : Ex} {τ : Fr} {m : List Res} (h : wrp e = e') : endF rs P n0 res m1 e τ m = endF rs P n0 res m1 e' τ m := by subst h; rfl
attribute [congr] mopG_congr mopK_congr jcwp_congr jcwpL_congr slwp_congr slwpg_congr slvc_congr peekG_congr peek_congr poke_congr stepG_congr callC_congr callhook_congr vecsF_congr endF_congr
attribute [go_sem] wrp_eq
end waits
end W
attribute [go_sem ↓] W.fh_pz W.fh_fz W.fh_on W.fh_none W.fh_rd W.fh_mk W.fh_mt W.fh_mt_not
attribute [go_sem] W.c_false_or W.c_or_false W.c_true_or W.c_or_true W.c_zero_lt W.c_ne_succ W.c_take_zero W.c_take_succ W.c_take_nil W.c_drop_zero W.c_drop_succ W.c_zero_add W.c_add_zero W.c_toNat W.c_replicate_zero W.c_replicate_succ W.c_length_nil W.c_length_cons W.c_nil_append W.c_cons_append W.c_set_zero W.c_set_succ W.c_getD_zero W.c_getD_succ W.c_map_nil W.c_map_cons W.c_all_nil W.c_all_cons W.c_true_and W.c_and_true W.c_false_and W.c_and_false W.c_not_true W.c_not_false W.c_map_some W.c_map_none W.c_length_map W.c_shf W.cop_eql W.cop_neq W.cop_lss W.cop_leq W.cop_gtr W.cop_geq W.eqV_int W.eqV_bool W.eqV_str W.eqV_st W.eqV_arr W.eqVL_nil W.eqVL_cons
attribute [go_sem] W.c_deads_nil W.c_deads_cons dp_one dp_two dp_three frz_P frz_dec jc_frz jc_frzv jc_pfz jc_frzb frzvF frzbF frzbG killK jc_sel jc_orc jc_skip jc_ops jc_dops jc_gops jc_seq jc_cond jc_block jc_exit jc_ret jc_prune jc_vecs jc_waits
attribute [go_sem ↓] tabES tabF qres qo eo en opF popG bldG boundG AOp.evG ap_need ap_bad ap_spl bslF tidyF selF packJ appM esP esPL datP datPL
attribute [go_sem] Int.cast_ofNat_Int Bool.false_eq_true true_implies false_implies not_true_eq_false not_false_eq_true forall_const implies_true SV.int.injEq SV.bool.injEq List.append_assoc List.append_nil Bool.not_eq_true' Bool.not_eq_false' decide_eq_true_eq decide_eq_false_iff_not Option.some.injEq and_true true_and and_self if_true if_false true_or or_true
attribute [go_sem] decide_true decide_false eta_unit eta_pair selI_eq ne_eq Prod.mk.injEq Nat.not_lt_zero
attribute [go_sem] renL_map_emb killL_map_emb killL_append renL_append List.map_id'
attribute [go_sem] allL_cons allL_nil allL_app allL_map allL_true dt_vE dt_pE dt_val dt_ren dt_kill dt_renL dt_killL
attribute [go_sem] da_vE da_pE da_ren da_kill clo_emb clo_decV clo_decP
attribute [go_sem] map_dec list_dft int_dft bool_dft int_emb byte_emb bool_emb str_emb int_decV byte_decV bool_decV str_decV int_decP byte_decP bool_decP str_decP arr_emb arr_decV arr_decP list_emb list_decV_lst list_decP_lst list_decV_nils list_decP_nils list_decV_vec list_decP_vec list_decV_pvec list_decP_pvec list_decV_lit list_decP_lit ref_emb ref_decV_ref ref_decP_ref ref_decV_ptr ref_decP_ptr da_nilV da_nilP da_consV da_consP da_consE da_nilE dr_one dr_two dr_three List.map_append
end Go.Sx
/-! Sx, part 28: tables. -/
set_option linter.unusedVariables false
set_option linter.unusedSimpArgs false
namespace Go.Sx
open Go
def tb.{u} {α : Type u} (n : Nat) (f : Nat → α) : List α := (List.range n).map f
section
universe u v
variable {α : Type u} {β : Type v} {n : Nat} {f g : Nat → α}
theorem tb_len : (tb n f).length = n := by simp [tb]
theorem tb_get? (i : Nat) : (tb n f)[i]? = if i < n then some (f i) else none := by
  unfold tb
  rw [List.getElem?_map]
  by_cases h : i < n
  · rw [if_pos h, List.getElem?_range h]; rfl
  · rw [if_neg h, List.getElem?_eq_none (by simpa using h)]; rfl
theorem tb_getD {i : Nat} {d : α} (h : i < n) : (tb n f).getD i d = f i := by
  rw [List.getD, tb_get?, if_pos h]; rfl
theorem tb_set (i : Nat) (x : α) : (tb n f).set i x = tb n fun k => if k = i then x else f k := by
  apply List.ext_getElem?
  intro j
  rw [List.getElem?_set, tb_get?, tb_get?, tb_len]
  by_cases hj : j < n
  · by_cases e : i = j
    · subst e; simp [hj]
    · simp [e, hj, show ¬ j = i from fun h => e h.symm]
  · by_cases e : i = j
    · subst e; simp [hj]
    · simp [e, hj]
theorem tb_congr (h : ∀ i, i < n → f i = g i) : tb n f = tb n g := by
  apply List.ext_getElem?
  intro j
  rw [tb_get?, tb_get?]
  split
  · rename_i hj; rw [h j hj]
  · rfl
theorem tb_map (h : α → β) : (tb n f).map h = tb n fun k => h (f k) := by simp [tb, Function.comp_def]
theorem tb_snoc : tb (n + 1) f = tb n f ++ [f n] := by simp [tb, List.range_succ]
theorem tb_zero : tb 0 f = [] := rfl
theorem tb_replicate (x : α) : List.replicate n x = tb n fun _ => x := by
  apply List.ext_getElem?
  intro j
  rw [List.getElem?_replicate, tb_get?]
end
theorem tb_renL (r : Nat → Option Nat) {n : Nat} {f : Nat → SV} : renL r (tb n f) = tb n fun k => ren r (f k) := by
  have : ∀ l : List SV, renL r l = l.map (ren r) := by
    intro l
    induction l with
    | nil => rfl
    | cons x l ih => simp only [renL, List.map_cons, ih]
  rw [this, tb_map]
theorem memAt_tb {n i : Nat} {f : Nat → Res} (h : i < n) : memAt (tb n f) i = f i := tb_getD h
theorem tb_bools {n : Nat} {f : Nat → Bool} : (tb n fun b => SV.bool (f b)) = (tb n f).map DT.bool.emb := by rw [tb_map]; rfl
attribute [go_sem] tb_len
end Go.Sx
/-! Sx, part 29: a callee that is handed a pointer into what its caller owns, to write there. -/
set_option linter.unusedSimpArgs false
set_option linter.unusedVariables false
namespace Go.Sx
open Go
variable {P : Program}
def placeOf : List Step → Nat
  | [.idx k _] => k
  | _ => 0
theorem place_idx (k n : Nat) : placeOf [.idx k n] = k := nr rfl
attribute [go_sem] place_idx
def FH.mp (f : FuncId) {σ α ρ : Type} (T : TypeId) (n w : Nat) (d : DT σ) (A : DA α) (R : DR ρ) (pre : σ → Nat → α → Prop) (F : σ → Nat → α → ρ) (S : σ → Nat → α → σ) (Γ : FH) : FH :=
  FH.on f (fun args m => match args with
    | x :: rest => match x with
      | .ptr i p o => match memAt m i with
        | .blk T' c => .is (T' = T ∧ p = [.idx (placeOf p) n] ∧ o = placeOf p * w ∧ d.emb (d.decV [] c) = c ∧ A.emb (A.decV [] rest) = rest ∧ pre (d.decV [] c) (placeOf p) (A.decV [] rest)) (R.emb (F (d.decV [] c) (placeOf p) (A.decV [] rest))) (m.set i (.blk T (d.emb (S (d.decV [] c) (placeOf p) (A.decV [] rest)))))
        | _ => .no
      | _ => .no
    | [] => .no) Γ
namespace W
theorem fh_mp (f : FuncId) {σ α ρ : Type} (T : TypeId) (n w : Nat) (d : DT σ) (A : DA α) (R : DR ρ) (pre : σ → Nat → α → Prop) (F : σ → Nat → α → ρ) (S : σ → Nat → α → σ) (Γ : FH) (g : FuncId) (i : Nat) (p : List Step) (o : Nat) (rest : List SV) (m : List Res) :
    FH.mp f T n w d A R pre F S Γ g (.ptr i p o :: rest) m = if g = f then (match memAt m i with
        | .blk T' c => .is (T' = T ∧ p = [.idx (placeOf p) n] ∧ o = placeOf p * w ∧ d.emb (d.decV [] c) = c ∧ A.emb (A.decV [] rest) = rest ∧ pre (d.decV [] c) (placeOf p) (A.decV [] rest)) (R.emb (F (d.decV [] c) (placeOf p) (A.decV [] rest))) (m.set i (.blk T (d.emb (S (d.decV [] c) (placeOf p) (A.decV [] rest)))))
        | _ => .no) else Γ g (.ptr i p o :: rest) m := nr rfl
theorem fh_mp_not (f : FuncId) {σ α ρ : Type} (T : TypeId) (n w : Nat) (d : DT σ) (A : DA α) (R : DR ρ) (pre : σ → Nat → α → Prop) (F : σ → Nat → α → ρ) (S : σ → Nat → α → σ) (Γ : FH) (g : FuncId) (args : List SV) (m : List Res) (h : g ≠ f) :
    FH.mp f T n w d A R pre F S Γ g args m = Γ g args m := nr (if_neg h)
end W
attribute [go_sem ↓] W.fh_mp W.fh_mp_not
end Go.Sx
