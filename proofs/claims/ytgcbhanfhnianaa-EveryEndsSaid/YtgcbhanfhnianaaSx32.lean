import Derived.Test.YtgcbhanfhnianaaSx29
/-! Sx, part 30: a map as a set. -/
set_option linter.unusedSimpArgs false
set_option linter.unusedVariables false
namespace Go.Sx
open Go
variable {α : Type} [DecidableEq α]
end Go.Sx
/-! Sx, part 31: pointers into lists; a callee that is handed an owned block and hands back what is held fast. -/
set_option linter.unusedSimpArgs false
set_option linter.unusedVariables false
namespace Go.Sx
open Go
variable {P : Program}
def DT.eptr {α : Type} (wd' : Nat) (d : DT α) : DT (List α × Nat) where
  dft := ([], 0)
  emb := fun y => .eptr wd' d.dft d.emb y.1 y.2 [] 0
  decV := fun m x => match x with
    | .eptr _ _ f l i _ _ => (l.map fun y => d.decV m (f y), i)
    | _ => ([], 0)
  decP := fun m x => match x with
    | .eptr w' _ f l i p o => w' = wd' ∧ p = [] ∧ o = 0 ∧ allL l fun y => d.decP m (f y)
    | _ => False
  ok := fun {ε m w} g {x} h {cs} hs => by
    have hcl : ∀ {y : SV} {cs : List Value}, SatC y ε.cl cs → SatC y ε cs := fun h => SatC.mono _ ε.cl_le h
    cases x with
    | eptr w' dd f l i p o =>
      obtain ⟨rfl, rfl, rfl, h⟩ := h
      simp only [SatC] at hs ⊢
      obtain ⟨b, off, T', fz, cur, h1, h2, h3, h4, h5, h6⟩ := hs
      refine ⟨b, off, T', fz, cur, h1, by rw [List.length_map]; exact h2, frz_H g _ _ h3, h4, h5, ?_⟩
      have hx : l.getD i dd = l[i] := by simp [List.getD, h2]
      rw [hx] at h6
      have hy : (l.map fun y => d.decV m (f y)).getD i d.dft = d.decV m (f l[i]) := by simp [List.getD, h2]
      rw [hy]
      exact d.ok g (h _ (List.getElem_mem h2)) (hcl h6)
    | _ => exact h.elim
  agg := fun {m x} h => by cases x <;> first | exact h.elim | rfl
  vE := fun m y => by
    have : (fun z => d.decV m (d.emb z)) = id := by funext z; exact d.vE m z
    simp only [this, List.map_id]
  pE := fun m y => ⟨rfl, rfl, rfl, fun z _ => d.pE m z⟩
  ren := fun r y => rfl
  kill := fun i y => rfl
  val := fun y => rfl
theorem eptr_emb {α : Type} (w : Nat) (d : DT α) (l : List α) (i : Nat) : (DT.eptr w d).emb (l, i) = .eptr w d.dft d.emb l i [] 0 := nr rfl
theorem eptr_decV {α : Type} (m : List Res) (w w' : Nat) (d : DT α) {τ : Type} (x : τ) (f : τ → SV) (l : List τ) (i : Nat) (p o) : (DT.eptr w d).decV m (.eptr w' x f l i p o) = (l.map fun y => d.decV m (f y), i) := nr rfl
theorem eptr_decP {α : Type} (m : List Res) (w w' : Nat) (d : DT α) {τ : Type} (x : τ) (f : τ → SV) (l : List τ) (i : Nat) (p o) : (DT.eptr w d).decP m (.eptr w' x f l i p o) = (w' = w ∧ p = [] ∧ o = 0 ∧ allL l fun y => d.decP m (f y)) := nr rfl
def DP.opt {α : Type} (d : DT α) : DP (Option α) := ⟨fun | none => .nilp | some y => d.emb y, fun r y => by cases y with | none => rfl | some y => exact d.ren r y⟩
theorem opt_none {α : Type} (d : DT α) : (DP.opt d).emb none = .nilp := nr rfl
theorem opt_some {α : Type} (d : DT α) (y : α) : (DP.opt d).emb (some y) = d.emb y := nr rfl
def FH.mz (f : FuncId) {σ α ρ : Type} (T : TypeId) (d : DT σ) (A : DA α) (R : DP ρ) (pre : σ → α → Prop) (F : σ → α → ρ) (S : σ → α → σ) (Γ : FH) : FH :=
  FH.on f (fun args m => match args with
    | x :: rest => match x with
      | .ptr i p o => match memAt m i with
        | .blk T' c => .is (T' = T ∧ p = [] ∧ o = 0 ∧ d.emb (d.decV [] c) = c ∧ A.emb (A.decV [] rest) = rest ∧ pre (d.decV [] c) (A.decV [] rest)) (R.emb (F (d.decV [] c) (A.decV [] rest))) (m.set i (.blk T (d.emb (S (d.decV [] c) (A.decV [] rest)))))
        | _ => .no
      | _ => .no
    | [] => .no) Γ
theorem FH.mz_ok {f : FuncId} {σ α ρ : Type} {T : TypeId} {d : DT σ} {A : DA α} {R : DP ρ} {pre : σ → α → Prop} {F : σ → α → ρ} {S : σ → α → σ} {Γ : FH} (hf : okFn P f = true)
    (h : ∀ s y, pre s y → FnOK P f (.ptr 0 [] 0 :: A.emb y) [.blk T (d.emb s)] (R.emb (F s y)) [.blk T (d.emb (S s y))]) (hΓ : FHOK P Γ) : FHOK P (FH.mz f T d A R pre F S Γ) :=
  FH.on_ok (fun args m => by
    cases args with
    | nil => trivial
    | cons x rest =>
      cases x with
      | ptr i p o =>
        simp only
        cases hm : memAt m i with
        | dead => trivial
        | vec T' w l => trivial
        | mp ek ev l => trivial
        | blk T' c =>
          rintro ⟨rfl, rfl, rfl, h1, h2, h3⟩
          refine ⟨hf, ?_⟩
          generalize hs : d.decV [] c = s at h1 h3 ⊢
          generalize hy : A.decV [] rest = y at h2 h3 ⊢
          subst h1; subst h2
          have hi : i < m.length := by
            rcases Nat.lt_or_ge i m.length with hi | hi
            · exact hi
            · rw [memAt_ge hi] at hm; cases hm
          have key := call_of_fn (args := .ptr i [] 0 :: A.emb y) (m := m) (h s y h3) [i] (by simp) (by simp [hm, Res.isBlk]) (by simp only [renL, A.ren, Sx.ren, renI, selI, List.contains_cons, BEq.rfl, Bool.true_or, if_true, List.idxOf_cons_self])
            (by simp only [selM, List.map_cons, List.map_nil, hm, renR, d.ren]) (by simp) (by intro j hj; simp at hj; subst hj; rfl)
          rw [R.ren] at key
          have hmm : mergeM [i] m [.blk T' (d.emb (S s y))] = m.set i (.blk T' (d.emb (S s y))) := by
            simp [mergeM, memAt, renR, d.ren]
          rwa [hmm] at key
      | _ => trivial) hΓ
namespace W
theorem fh_mz (f : FuncId) {σ α ρ : Type} (T : TypeId) (d : DT σ) (A : DA α) (R : DP ρ) (pre : σ → α → Prop) (F : σ → α → ρ) (S : σ → α → σ) (Γ : FH) (g : FuncId) (i : Nat) (p : List Step) (o : Nat) (rest : List SV) (m : List Res) :
    FH.mz f T d A R pre F S Γ g (.ptr i p o :: rest) m = if g = f then (match memAt m i with
        | .blk T' c => .is (T' = T ∧ p = [] ∧ o = 0 ∧ d.emb (d.decV [] c) = c ∧ A.emb (A.decV [] rest) = rest ∧ pre (d.decV [] c) (A.decV [] rest)) (R.emb (F (d.decV [] c) (A.decV [] rest))) (m.set i (.blk T (d.emb (S (d.decV [] c) (A.decV [] rest)))))
        | _ => .no) else Γ g (.ptr i p o :: rest) m := nr rfl
theorem fh_mz_not (f : FuncId) {σ α ρ : Type} (T : TypeId) (d : DT σ) (A : DA α) (R : DP ρ) (pre : σ → α → Prop) (F : σ → α → ρ) (S : σ → α → σ) (Γ : FH) (g : FuncId) (args : List SV) (m : List Res) (h : g ≠ f) :
    FH.mz f T d A R pre F S Γ g args m = Γ g args m := nr (if_neg h)
end W
attribute [go_sem ↓] W.fh_mz W.fh_mz_not
attribute [go_sem] eptr_emb eptr_decV eptr_decP opt_none opt_some
structure DL (α : Type) where
  dft : α
  emb : α → List SV
  decV : List Res → List SV → α
  decP : List Res → List SV → Prop
  ok : ∀ {ε : Env} {m : List Res} {w : World}, Good ε m w → ∀ {xs : List SV}, decP m xs → ∀ {cs : List Value}, SatL xs ε cs → SatL (emb (decV m xs)) (frz ε m w).cl cs
  ren : ∀ (r : Nat → Option Nat) (y : α), renL r (emb y) = emb y
  kill : ∀ (i : Nat) (y : α), killL i (emb y) = emb y
  vE : ∀ (m : List Res) (y : α), decV m (emb y) = y
  pE : ∀ (m : List Res) (y : α), decP m (emb y)
def DL.nil : DL Unit := ⟨(), fun _ => [], fun _ _ => (), fun _ xs => match xs with | [] => True | _ => False, fun {ε m w} g {xs} h {cs} hs => by
  cases xs with
  | nil => exact hs
  | cons => exact h.elim, fun _ _ => rfl, fun _ _ => rfl, fun _ _ => rfl, fun _ _ => trivial⟩
def DL.cons {α β : Type} (d : DT α) (r : DL β) : DL (α × β) where
  dft := (d.dft, r.dft)
  emb := fun y => d.emb y.1 :: r.emb y.2
  decV := fun m xs => match xs with
    | x :: xs => (d.decV m x, r.decV m xs)
    | [] => (d.dft, r.dft)
  decP := fun m xs => match xs with
    | x :: xs => d.decP m x ∧ r.decP m xs
    | [] => False
  ok := fun {ε m w} g {xs} h {cs} hs => by
    cases xs with
    | nil => exact h.elim
    | cons x xs =>
      obtain ⟨h1, h2⟩ := h
      simp only [SatL] at hs ⊢
      obtain ⟨a, b, e1, e2, e3⟩ := hs
      exact ⟨a, b, e1, d.ok g h1 e2, r.ok g h2 e3⟩
  ren := fun s y => by simp only [renL, d.ren, r.ren]
  kill := fun s y => by simp only [killL, d.kill, r.kill]
  vE := fun m y => by simp only [d.vE, r.vE]
  pE := fun m y => ⟨d.pE m y.1, r.pE m y.2⟩
def DT.st {α : Type} (L : DL α) : DT α where
  dft := L.dft
  emb := fun y => .agg (L.emb y)
  decV := fun m x => match x with
    | .agg xs => L.decV m xs
    | _ => L.dft
  decP := fun m x => match x with
    | .agg xs => L.decP m xs
    | _ => False
  ok := fun {ε m w} g {x} h {cs} hs => by
    cases x with
    | agg xs =>
      simp only [SatC] at hs ⊢
      exact L.ok g h hs
    | _ => exact h.elim
  agg := fun {m x} h => by cases x <;> first | exact h.elim | rfl
  vE := fun m y => L.vE m y
  pE := fun m y => L.pE m y
  ren := fun r y => by simp only [Sx.ren, L.ren]
  kill := fun i y => by simp only [Sx.kill, L.kill]
  val := fun y => rfl
end Go.Sx
/-! Sx, part 32: a slice that may be nil, told apart from an empty one. -/
set_option linter.unusedSimpArgs false
set_option linter.unusedVariables false
namespace Go.Sx
open Go
variable {P : Program}
def DT.slo {α : Type} (wd' : Nat) (d : DT α) : DT (Option (List α)) where
  dft := none
  emb := fun o => match o with
    | none => .nils
    | some l => (DT.list wd' d).emb l
  decV := fun m x => match x with
    | .nils => none
    | _ => some ((DT.list wd' d).decV m x)
  decP := fun m x => (DT.list wd' d).decP m x
  ok := fun {ε m w} g {x} h {cs} hs => by
    cases x with
    | nils => exact hs
    | lst => exact (DT.list wd' d).ok g h hs
    | vec => exact (DT.list wd' d).ok g h hs
    | pvec => exact (DT.list wd' d).ok g h hs
    | lit => exact (DT.list wd' d).ok g h hs
    | _ => exact h.elim
  agg := fun {m x} h => by
    cases x with
    | nils => rfl
    | lst => exact (DT.list wd' d).agg h
    | vec => exact (DT.list wd' d).agg h
    | pvec => exact (DT.list wd' d).agg h
    | lit => exact (DT.list wd' d).agg h
    | _ => exact h.elim
  vE := fun m o => by
    cases o with
    | none => rfl
    | some l => exact congrArg some ((DT.list wd' d).vE m l)
  pE := fun m o => by
    cases o with
    | none => exact trivial
    | some l => exact (DT.list wd' d).pE m l
  ren := fun r o => by
    cases o with
    | none => rfl
    | some l => exact (DT.list wd' d).ren r l
  kill := fun i o => by
    cases o with
    | none => rfl
    | some l => exact (DT.list wd' d).kill i l
  val := fun o => by cases o <;> rfl
variable {α : Type}
theorem slo_none (w : Nat) (d : DT α) : (DT.slo w d).emb none = .nils := nr rfl
theorem slo_some (w : Nat) (d : DT α) (l : List α) : (DT.slo w d).emb (some l) = .lst w d.dft d.emb l := nr rfl
theorem slo_vE (w : Nat) (d : DT α) (m : List Res) (o : Option (List α)) : (DT.slo w d).decV m ((DT.slo w d).emb o) = o := nr ((DT.slo w d).vE m o)
theorem slo_pE (w : Nat) (d : DT α) (m : List Res) (o : Option (List α)) : (DT.slo w d).decP m ((DT.slo w d).emb o) = True := eq_true ((DT.slo w d).pE m o)
theorem slo_nilsV (w : Nat) (d : DT α) (m : List Res) : (DT.slo w d).decV m .nils = none := nr rfl
theorem slo_nilsP (w : Nat) (d : DT α) (m : List Res) : (DT.slo w d).decP m .nils = True := nr rfl
theorem slo_vecV (w : Nat) (d : DT α) (m : List Res) (i n : Nat) : (DT.slo w d).decV m (.vec i n) = some ((DT.list w d).decV m (.vec i n)) := nr rfl
theorem slo_vecP (w : Nat) (d : DT α) (m : List Res) (i n : Nat) : (DT.slo w d).decP m (.vec i n) = (DT.list w d).decP m (.vec i n) := nr rfl
theorem slo_lstV (w w' : Nat) (d : DT α) (m : List Res) {τ : Type} (x : τ) (f : τ → SV) (l : List τ) : (DT.slo w d).decV m (.lst w' x f l) = some ((DT.list w d).decV m (.lst w' x f l)) := nr rfl
theorem slo_lstP (w w' : Nat) (d : DT α) (m : List Res) {τ : Type} (x : τ) (f : τ → SV) (l : List τ) : (DT.slo w d).decP m (.lst w' x f l) = (DT.list w d).decP m (.lst w' x f l) := nr rfl
theorem list_sloV (w : Nat) (d : DT α) (m : List Res) (o : Option (List α)) : (DT.list w d).decV m ((DT.slo w d).emb o) = o.getD [] := nr (by
  cases o with
  | none => rfl
  | some l => exact (DT.list w d).vE m l)
theorem list_sloP (w : Nat) (d : DT α) (m : List Res) (o : Option (List α)) : (DT.list w d).decP m ((DT.slo w d).emb o) = True := eq_true (by
  cases o with
  | none => exact trivial
  | some l => exact (DT.list w d).pE m l)
theorem slo_ren (w : Nat) (d : DT α) (r : Nat → Option Nat) (o : Option (List α)) : ren r ((DT.slo w d).emb o) = (DT.slo w d).emb o := nr ((DT.slo w d).ren r o)
theorem slo_kill (w : Nat) (d : DT α) (i : Nat) (o : Option (List α)) : kill i ((DT.slo w d).emb o) = (DT.slo w d).emb o := nr ((DT.slo w d).kill i o)
theorem slo_val (w : Nat) (d : DT α) (o : Option (List α)) : ((DT.slo w d).emb o).isVal = true := nr ((DT.slo w d).val o)
theorem slo_agg (w : Nat) (d : DT α) (o : Option (List α)) : ((DT.slo w d).emb o).isAgg = false := nr (by cases o <;> rfl)
theorem slo_wd (w : Nat) (d : DT α) (o : Option (List α)) : wd ((DT.slo w d).emb o) = 1 := nr (by cases o <;> rfl)
theorem slo_ids (w : Nat) (d : DT α) (o : Option (List α)) : idsV ((DT.slo w d).emb o) = [] := nr (by cases o <;> rfl)
attribute [go_sem] slo_ids slo_wd slo_none slo_some slo_vE slo_pE slo_nilsV slo_nilsP slo_vecV slo_vecP slo_lstV slo_lstP list_sloV list_sloP slo_ren slo_kill slo_val slo_agg
end Go.Sx
