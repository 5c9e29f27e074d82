import Derived.Test.YtafcmgfmmlnngaaSx23
/-! Sx, part 24: what a callee that only reads is handed, read off its symbols. -/
set_option linter.unusedVariables false
set_option linter.unusedSimpArgs false
namespace Go.Sx
open Go
variable {P : Program}
mutual
def decV : (T : TT) → List Res → SV → Den T
  | .int _, _, x => match x with
    | .int _ n => n
    | _ => (0 : Int)
  | .bool, _, x => match x with
    | .bool b => b
    | _ => false
  | .str, _, x => match x with
    | .str s => s
    | _ => ([] : List UInt8)
  | .st l, m, x => match x with
    | .agg xs => decVL l m xs
    | _ => dftL l
  | .arr _ _ T, m, x => match x with
    | .arr _ _ f => fun i : Nat => decV T m (f i)
    | _ => fun _ : Nat => dft T
  | .sl _ T, m, x => match x with
    | .lst _ _ f l => l.map fun y => decV T m (f y)
    | .vec i _ => match memAt m i with
      | .vec _ _ l => l.map fun y => decV T m y
      | _ => ([] : List (Den T))
    | _ => ([] : List (Den T))
  | .ref T, m, x => match x with
    | .ref c _ _ => decV T m c
    | .ptr i _ _ => match memAt m i with
      | .blk _ c => decV T m c
      | _ => dft T
    | _ => dft T
def decVL : (l : List TT) → List Res → List SV → DenL l
  | [], _, _ => ()
  | T :: l, m, xs => match xs with
    | x :: xs => (decV T m x, decVL l m xs)
    | [] => dftL (T :: l)
end
mutual
def decP : (T : TT) → List Res → SV → Prop
  | .int k, _, x => match x with
    | .int k' _ => k' = k
    | _ => False
  | .bool, _, x => match x with
    | .bool _ => True
    | _ => False
  | .str, _, x => match x with
    | .str _ => True
    | _ => False
  | .st l, m, x => match x with
    | .agg xs => decPL l m xs
    | _ => False
  | .arr n w T, m, x => match x with
    | .arr n' w' f => n' = n ∧ w' = w ∧ ∀ i, i < n → decP T m (f i)
    | _ => False
  | .sl w T, m, x => match x with
    | .lst w' _ f l => w' = w ∧ ∀ y ∈ l, decP T m (f y)
    | .vec i _ => match memAt m i with
      | .vec _ w' l => w' = w ∧ ∀ y ∈ l, decP T m y
      | _ => False
    | .nils => True
    | _ => False
  | .ref T, m, x => match x with
    | .ref c p o => p = [] ∧ o = 0 ∧ decP T m c
    | .ptr i p o => match memAt m i with
      | .blk _ c => p = [] ∧ o = 0 ∧ decP T m c
      | _ => False
    | _ => False
def decPL : (l : List TT) → List Res → List SV → Prop
  | [], _, xs => match xs with
    | [] => True
    | _ => False
  | T :: l, m, xs => match xs with
    | x :: xs => decP T m x ∧ decPL l m xs
    | [] => False
end
mutual
theorem decV_emb : ∀ (T : TT) (m : List Res) (y : Den T), decV T m (emb T y) = y
  | .int _, _, _ => rfl
  | .bool, _, _ => rfl
  | .str, _, _ => rfl
  | .st l, m, y => decVL_emb l m y
  | .arr _ _ T, m, f => by
    simp only [emb, decV]
    funext i
    exact decV_emb T m (f i)
  | .sl _ T, m, l => by
    simp only [emb, decV]
    have : (fun y => decV T m (emb T y)) = id := by funext y; exact decV_emb T m y
    rw [this, List.map_id]
  | .ref T, m, y => by
    simp only [emb, decV]
    exact decV_emb T m y
theorem decVL_emb : ∀ (l : List TT) (m : List Res) (y : DenL l), decVL l m (embL l y) = y
  | [], _, _ => rfl
  | T :: l, m, y => by
    simp only [embL, decVL]
    rw [decV_emb T m y.1, decVL_emb l m y.2]
end
mutual
theorem decP_emb : ∀ (T : TT) (m : List Res) (y : Den T), decP T m (emb T y)
  | .int _, _, _ => rfl
  | .bool, _, _ => trivial
  | .str, _, _ => trivial
  | .st l, m, y => decPL_emb l m y
  | .arr _ _ T, m, f => by
    simp only [emb, decP]
    exact ⟨trivial, trivial, fun i _ => decP_emb T m (f i)⟩
  | .sl _ T, m, l => by
    simp only [emb, decP]
    exact ⟨trivial, fun y _ => decP_emb T m y⟩
  | .ref T, m, y => by
    simp only [emb, decP]
    exact ⟨trivial, trivial, decP_emb T m y⟩
theorem decPL_emb : ∀ (l : List TT) (m : List Res) (y : DenL l), decPL l m (embL l y)
  | [], _, _ => trivial
  | T :: l, m, y => ⟨decP_emb T m y.1, decPL_emb l m y.2⟩
end
theorem frz_cl {ε : Env} {m : List Res} {w : World} : (frz ε m w).cl.cl = (frz ε m w).cl := rfl
theorem dec_agg : ∀ (T : TT) {m : List Res} {x : SV}, decP T m x → (emb T (decV T m x)).isAgg = x.isAgg := by
  intro T m x h
  cases T <;> cases x <;> simp only [decP] at h <;> first
    | exact h.elim
    | rfl
mutual
theorem dec_ok {ε : Env} {m : List Res} {w : World} (g : Good ε m w) : ∀ (T : TT) {x : SV}, decP T m x → ∀ {cs : List Value}, SatC x ε cs → SatC (emb T (decV T m x)) (frz ε m w).cl cs
  | .int k, x, h, cs, hs => by
    cases x <;> simp only [decP] at h
    subst h
    exact hs
  | .bool, x, h, cs, hs => by
    cases x <;> simp only [decP] at h
    exact hs
  | .str, x, h, cs, hs => by
    cases x <;> simp only [decP] at h
    exact hs
  | .st l, x, h, cs, hs => by
    cases x <;> simp only [decP] at h
    simp only [SatC] at hs
    simp only [decV, emb, SatC]
    exact decL_ok g l h hs
  | .arr n wd' T, x, h, cs, hs => by
    cases x <;> simp only [decP] at h
    obtain ⟨rfl, rfl, h⟩ := h
    simp only [SatC] at hs
    simp only [decV, emb, SatC]
    exact ⟨hs.1, fun i hi => dec_ok g T (h i hi) (hs.2 i hi)⟩
  | .sl wd' T, x, h, cs, hs => by
    have hcl : ∀ {y : SV} {cs : List Value}, SatC y ε.cl cs → SatC y ε cs := fun h => SatC.mono _ ε.cl_le h
    cases x with
    | lst w' d f l =>
      simp only [decP] at h
      obtain ⟨rfl, h⟩ := h
      simp only [SatC] at hs
      simp only [decV, emb, SatC]
      obtain ⟨ao, cap, h1, h2, h3, h4, h5⟩ := hs
      refine ⟨ao, cap, by rw [h1, List.length_map], by rw [List.length_map]; exact h2, h3, h4, fun i hi => ?_⟩
      rw [List.length_map] at hi
      obtain ⟨b, off, T', fz, cur, e1, e2, e3, e4⟩ := h5 i hi
      refine ⟨b, off, T', fz, cur, e1, frz_H g _ _ e2, e3, ?_⟩
      have hx : l.getD i d = l[i] := by simp [List.getD, hi]
      rw [hx] at e4
      have hy : (l.map fun y => decV T m (f y)).getD i (dft T) = decV T m (f l[i]) := by simp [List.getD, hi]
      rw [hy]
      exact dec_ok g T (h _ (List.getElem_mem hi)) (hcl e4)
    | nils =>
      simp only [SatC] at hs
      subst hs
      simp only [decV, emb, SatC]
      exact ⟨none, 0, rfl, Nat.le_refl _, Nat.zero_le _, fun _ => rfl, fun i hi => absurd hi (Nat.not_lt_zero _)⟩
    | vec i n =>
      simp only [decP] at h
      cases hm : memAt m i with
      | vec E w' l =>
        rw [hm] at h
        obtain ⟨rfl, h⟩ := h
        simp only [decV, hm, emb, SatC]
        simp only [SatC] at hs
        obtain ⟨h1, hn, h3⟩ := hs
        have hr := g.res i
        rw [hm] at hr
        obtain ⟨xs, ⟨e0, e1⟩, e2⟩ := hr
        rcases e1 with ⟨k1, k2⟩ | ⟨b, cap, cur, k1, k2, k3, k4, k5, k6, k7⟩
        · refine ⟨none, 0, by rw [h3, k1]; simp [k2], by simp [k2], Nat.zero_le _, fun _ => rfl, fun j hj => ?_⟩
          rw [List.length_map] at hj; omega
        · refine ⟨some ⟨b, 0, none⟩, cap, by rw [h3, k1, List.length_map], by rw [List.length_map]; exact k4, k5, (fun h => by cases h), fun j hj => ?_⟩
          rw [List.length_map] at hj
          have hjl : j * w' + w' ≤ l.length * w' := by
            have := Nat.mul_le_mul_right w' (show j + 1 ≤ l.length from hj)
            rw [Nat.succ_mul] at this; exact this
          have hcap : l.length * w' ≤ cap * w' := Nat.mul_le_mul_right _ k4
          refine ⟨b, 0, E, (0, 0), cur, rfl, ?_, by omega, ?_⟩
          · show (frz ε m w).H b = _
            rw [frz_own (i := i) (by rw [hm]; simp [ownR, k1, Value.ownBlock])]; exact k3
          · have hx : l.getD j .junk = l[j] := by simp [List.getD, hj]
            have hy : (l.map fun y => decV T m y).getD j (dft T) = decV T m l[j] := by simp [List.getD, hj]
            rw [hy]
            have e3 := e2 j hj
            rw [hx] at e3
            have := dec_ok g T (h _ (List.getElem_mem hj)) e3
            have hsu : sub cur.toList (0 + j * w') w' = sub xs (j * w') w' := by
              rw [← k7]
              simp only [sub, Nat.zero_add]
              rw [List.drop_take, List.take_take]
              congr 1
              omega
            rw [hsu]; exact this
      | dead => rw [hm] at h; exact h.elim
      | blk T c => rw [hm] at h; exact h.elim
      | mp ek ev l => rw [hm] at h; exact h.elim
    | _ => exact h.elim
  | .ref T, x, h, cs, hs => by
    have hcl : ∀ {y : SV} {cs : List Value}, SatC y ε.cl cs → SatC y ε cs := fun h => SatC.mono _ ε.cl_le h
    cases x with
    | ref c p o =>
      simp only [decP] at h
      obtain ⟨rfl, rfl, h⟩ := h
      simp only [SatC] at hs
      simp only [decV, emb, SatC]
      obtain ⟨b, T', fz, cur, h1, h2, h3, h4⟩ := hs
      exact ⟨b, T', fz, cur, h1, frz_H g _ _ h2, h3, dec_ok g T h (hcl h4)⟩
    | ptr i p o =>
      simp only [decP] at h
      cases hm : memAt m i with
      | blk T' c =>
        rw [hm] at h
        obtain ⟨rfl, rfl, h⟩ := h
        simp only [decV, hm, emb, SatC]
        simp only [SatC] at hs
        obtain ⟨h1, h2, h3⟩ := hs
        have hr := g.res i
        rw [hm] at hr
        obtain ⟨cs', e1, e2⟩ := hr
        refine ⟨ε.blk i, T', (0, 0), cs'.toArray, h3, ?_, h2, dec_ok g T h e2⟩
        show (frz ε m w).H _ = _
        rw [frz_own (i := i) (by rw [hm]; rfl)]; exact e1
      | dead => rw [hm] at h; exact h.elim
      | vec E w' l => rw [hm] at h; exact h.elim
      | mp ek ev l => rw [hm] at h; exact h.elim
    | _ => exact h.elim
theorem decL_ok {ε : Env} {m : List Res} {w : World} (g : Good ε m w) : ∀ (l : List TT) {xs : List SV}, decPL l m xs → ∀ {cs : List Value}, SatL xs ε cs → SatL (embL l (decVL l m xs)) (frz ε m w).cl cs
  | [], xs, h, cs, hs => by
    cases xs with
    | nil => exact hs
    | cons => exact h.elim
  | T :: l, xs, h, cs, hs => by
    cases xs with
    | nil => exact h.elim
    | cons x xs =>
      obtain ⟨h1, h2⟩ := h
      simp only [SatL] at hs
      obtain ⟨a, b, e1, e2, e3⟩ := hs
      simp only [decVL, embL, SatL]
      exact ⟨a, b, e1, dec_ok g T h1 e2, decL_ok g l h2 e3⟩
end
theorem decA_ok {ε : Env} {m : List Res} {w : World} (g : Good ε m w) : ∀ (l : List TT) {xs : List SV}, decPL l m xs → ∀ {vs : List Value}, SatA xs ε vs → SatA (embL l (decVL l m xs)) (frz ε m w).cl vs
  | [], xs, h, cs, hs => by
    cases xs with
    | nil => exact hs
    | cons => exact h.elim
  | T :: l, xs, h, cs, hs => by
    cases xs with
    | nil => exact h.elim
    | cons x xs =>
      obtain ⟨h1, h2⟩ := h
      simp only [SatA] at hs
      obtain ⟨a, b, e1, e2, e3⟩ := hs
      simp only [decVL, embL, SatA]
      exact ⟨a, b, by rw [dec_agg T h1]; exact e1, dec_ok g T h1 e2, decA_ok g l h2 e3⟩
def shf (n : Nat) : Nat → Option Nat := fun j => some (n + j)
theorem backI_nil (n : Nat) : backI [] n = shf n := by funext j; simp [backI, shf]
/-- **A call that only reads what its caller owns**, by what its arguments stand for. -/
theorem call_rd {f : FuncId} {args args0 : List SV} {m m1 : List Res} {res : SV} (h : FnOK P f args0 [] res m1) (ha : ∀ ε w vs, Good ε m w → SatA args ε vs → SatA args0 (frz ε m w).cl vs)
    (hres : NoHV (ren (shf m.length) res)) (hm1 : ∀ x ∈ m1, ResNoH (renR (shf m.length) x)) :
    CallStep P f args m (ren (shf m.length) res) (m ++ m1.map (renR (shf m.length))) := by
  rw [← backI_nil] at hres hm1 ⊢
  intro β ε vs w hi hs
  have hs' : SatA args0 (selE [] (frz ε m w)) vs := SatA.mono args0 (ε := (frz ε m w).cl) ⟨Nat.le_refl _, fun _ h => absurd h (Nat.not_lt_zero _), fun _ h => absurd h (Nat.not_lt_zero _), fun _ _ h => h⟩ (ha _ _ _ hi.good hs)
  have hdl : (deads m).length = m.length := by simp [deads]
  refine (call_core (m := deads m) h [] List.nodup_nil (fun i h => by cases h) rfl (Nat.zero_le _) (fun j hj => absurd hj (Nat.not_lt_zero _)) hi.freeze hs').mono fun e w' ⟨v, ε', he, hle, hv, hi'⟩ => ?_
  have hmm : mergeM [] (deads m) m1 = deads m ++ m1.map (renR (backI [] m.length)) := by simp [mergeM, hdl]
  rw [hmm] at hi'
  rw [hdl] at hv
  obtain ⟨k1, k2⟩ := Inv.thaw hi hle hi' (by
    intro x hx
    obtain ⟨y, hy, rfl⟩ := List.mem_map.1 hx
    exact hm1 y hy)
  exact ⟨v, _, he, k2, hres ε' _ v rfl rfl rfl hv, k1⟩
mutual
/-- No slice in it. -/
def flatT : TT → Bool
  | .st l => flatTL l
  | .arr _ _ T => flatT T
  | .sl _ _ => false
  | .ref _ => false
  | _ => true
def flatTL : List TT → Bool
  | [] => true
  | T :: l => flatT T && flatTL l
end
mutual
theorem ren_emb : ∀ (T : TT) (r : Nat → Option Nat) (y : Den T), ren r (emb T y) = emb T y
  | .int _, _, _ => rfl
  | .bool, _, _ => rfl
  | .str, _, _ => rfl
  | .st l, r, y => by simp only [emb, ren]; rw [ren_embL]
  | .arr _ _ T, r, f => by simp only [emb, ren]; congr; funext i; exact ren_emb T r (f i)
  | .sl _ T, _, _ => rfl
  | .ref T, _, _ => rfl
theorem ren_embL : ∀ (l : List TT) (r : Nat → Option Nat) (y : DenL l), renL r (embL l y) = embL l y
  | [], _, _ => rfl
  | T :: l, r, y => by simp only [embL, renL]; rw [ren_emb T r y.1, ren_embL l r y.2]
end
mutual
theorem kill_emb : ∀ (T : TT) (i : Nat) (y : Den T), kill i (emb T y) = emb T y
  | .int _, _, _ => rfl
  | .bool, _, _ => rfl
  | .str, _, _ => rfl
  | .st l, i, y => by simp only [emb, kill]; rw [kill_embL]
  | .arr _ _ T, i, f => by simp only [emb, kill]; congr; funext j; exact kill_emb T i (f j)
  | .sl _ T, _, _ => rfl
  | .ref T, _, _ => rfl
theorem kill_embL : ∀ (l : List TT) (i : Nat) (y : DenL l), killL i (embL l y) = embL l y
  | [], _, _ => rfl
  | T :: l, i, y => by simp only [embL, killL]; rw [kill_emb T i y.1, kill_embL l i y.2]
end
theorem renL_map_emb (T : TT) (r : Nat → Option Nat) (l : List (Den T)) : renL r (l.map (emb T)) = l.map (emb T) := by
  induction l with
  | nil => rfl
  | cons x l ih => simp only [List.map_cons, renL]; rw [ren_emb, ih]
theorem killL_map_emb (T : TT) (i : Nat) (l : List (Den T)) : killL i (l.map (emb T)) = l.map (emb T) := by
  induction l with
  | nil => rfl
  | cons x l ih => simp only [List.map_cons, killL]; rw [kill_emb, ih]
theorem killL_append (i : Nat) (a b : List SV) : killL i (a ++ b) = killL i a ++ killL i b := by
  induction a with
  | nil => rfl
  | cons x l ih => simp only [List.cons_append, killL]; rw [ih]
theorem renL_append (r : Nat → Option Nat) (a b : List SV) : renL r (a ++ b) = renL r a ++ renL r b := by
  induction a with
  | nil => rfl
  | cons x l ih => simp only [List.cons_append, renL]; rw [ih]
theorem noH_emb : ∀ (T : TT) (y : Den T), flatT T = true → NoH (emb T y)
  | .int k, y, _ => noH_int k y
  | .bool, y, _ => noH_bool y
  | .str, y, _ => noH_str y
  | .st l, y, h => noH_agg (noL l y h)
  | .arr _ _ T, f, h => noH_arr fun i _ => noH_emb T (f i) h
where noL : ∀ (l : List TT) (y : DenL l), flatTL l = true → ∀ x ∈ embL l y, NoH x
  | [], _, _, _, hx => by cases hx
  | T :: l, y, h, x, hx => by
    simp only [flatTL, Bool.and_eq_true] at h
    simp only [embL, List.mem_cons] at hx
    rcases hx with rfl | hx
    · exact noH_emb T y.1 h.1
    · exact noL l y.2 h.2 x hx
theorem isVal_emb (T : TT) (y : Den T) : (emb T y).isVal = true := by cases T <;> rfl
/-- What it hands back: data; some data. -/
inductive RT where
  | one (T : TT)
  | two (T U : TT)
  | three (T U V : TT)
@[reducible] def DenR : RT → Type
  | .one T => Den T
  | .two T U => Den T × Den U
  | .three T U V => Den T × Den U × Den V
def embR : (R : RT) → DenR R → SV
  | .one T, y => emb T y
  | .two T U, y => .tup [emb T y.1, emb U y.2]
  | .three T U V, y => .tup [emb T y.1, emb U y.2.1, emb V y.2.2]
def flatR : RT → Bool
  | .one T => flatT T
  | .two T U => flatT T && flatT U
  | .three T U V => flatT T && flatT U && flatT V
theorem plainR (R : RT) (y : DenR R) (h : flatR R = true) : (∀ r, ren r (embR R y) = embR R y) ∧ NoHV (embR R y) := by
  cases R with
  | one T => exact ⟨fun r => ren_emb T r y, (noH_emb T y h).val (isVal_emb T y)⟩
  | two T U =>
    simp only [flatR, Bool.and_eq_true] at h
    refine ⟨fun r => by simp only [embR, ren, renL, ren_emb], noHV_tup fun x hx => ?_⟩
    simp only [List.mem_cons, List.not_mem_nil, or_false] at hx
    rcases hx with rfl | rfl
    · exact noH_emb T _ h.1
    · exact noH_emb U _ h.2
  | three T U V =>
    simp only [flatR, Bool.and_eq_true] at h
    refine ⟨fun r => by simp only [embR, ren, renL, ren_emb], noHV_tup fun x hx => ?_⟩
    simp only [List.mem_cons, List.not_mem_nil, or_false] at hx
    rcases hx with rfl | rfl | rfl
    · exact noH_emb T _ h.1.1
    · exact noH_emb U _ h.1.2
    · exact noH_emb V _ h.2
/-- **A callee from data to data.** -/
def FH.fn (f : FuncId) (Ts : List TT) (R : RT) (pre : DenL Ts → Prop) (F : DenL Ts → DenR R) (Γ : FH) : FH :=
  FH.on f (fun args m => .ro (decPL Ts m args ∧ pre (decVL Ts m args)) (embR R (F (decVL Ts m args)))) Γ
theorem FH.fn_ok {f : FuncId} {Ts : List TT} {R : RT} {pre : DenL Ts → Prop} {F : DenL Ts → DenR R} {Γ : FH} (hf : okFn P f = true) (hR : flatR R = true) (h : ∀ y, pre y → FnOK P f (embL Ts y) [] (embR R (F y)) []) (hΓ : FHOK P Γ) : FHOK P (FH.fn f Ts R pre F Γ) :=
  FH.on_ok (fun args m hp => ⟨hf, by
    have p := plainR R (F (decVL Ts m args)) hR
    have := call_rd (h _ hp.2) (fun ε w vs g hs => decA_ok g Ts hp.1 hs) (by rw [p.1]; exact p.2) (fun _ h => by cases h)
    rw [p.1] at this
    simpa using this⟩) hΓ
end Go.Sx
