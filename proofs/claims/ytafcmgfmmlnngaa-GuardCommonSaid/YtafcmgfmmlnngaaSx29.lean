import Derived.Test.YtafcmgfmmlnngaaSx28
/-! Sx, part 29: a callee that is handed a pointer into what its caller owns, to write there. -/
set_option linter.unusedSimpArgs false
set_option linter.unusedVariables false
namespace Go.Sx
open Go
variable {P : Program}
/-- Which place: the last index of a path. -/
def placeOf : List Step → Nat
  | [.idx k _] => k
  | _ => 0
theorem place_idx (k n : Nat) : placeOf [.idx k n] = k := nr rfl
attribute [go_sem] place_idx
/-- A callee that is handed a pointer to a place in an owned array, to write there. -/
def FH.mp (f : FuncId) {σ α ρ : Type} (T : TypeId) (n w : Nat) (d : DT σ) (A : DA α) (R : DR ρ) (pre : σ → Nat → α → Prop) (F : σ → Nat → α → ρ) (S : σ → Nat → α → σ) (Γ : FH) : FH :=
  FH.on f (fun args m => match args with
    | x :: rest => match x with
      | .ptr i p o => match memAt m i with
        | .blk T' c => .is (T' = T ∧ p = [.idx (placeOf p) n] ∧ o = placeOf p * w ∧ d.emb (d.decV [] c) = c ∧ A.emb (A.decV [] rest) = rest ∧ pre (d.decV [] c) (placeOf p) (A.decV [] rest)) (R.emb (F (d.decV [] c) (placeOf p) (A.decV [] rest))) (m.set i (.blk T (d.emb (S (d.decV [] c) (placeOf p) (A.decV [] rest)))))
        | _ => .no
      | _ => .no
    | [] => .no) Γ
theorem FH.mp_ok {f : FuncId} {σ α ρ : Type} {T : TypeId} {n w : Nat} {d : DT σ} {A : DA α} {R : DR ρ} {pre : σ → Nat → α → Prop} {F : σ → Nat → α → ρ} {S : σ → Nat → α → σ} {Γ : FH} (hf : okFn P f = true)
    (h : ∀ s k y, pre s k y → FnOK P f (.ptr 0 [.idx k n] (k * w) :: A.emb y) [.blk T (d.emb s)] (R.emb (F s k y)) [.blk T (d.emb (S s k y))]) (hΓ : FHOK P Γ) : FHOK P (FH.mp f T n w d A R pre F S Γ) :=
  FH.on_ok (fun args m => by
    cases args with
    | nil => trivial
    | cons x rest =>
      cases x with
      | ptr i p o =>
        simp only
        cases hm : memAt m i with
        | dead => trivial
        | vec T' w l => trivial
        | mp ek ev l => trivial
        | blk T' c =>
          generalize hk : placeOf p = k
          rintro ⟨rfl, rfl, rfl, h1, h2, h3⟩
          refine ⟨hf, ?_⟩
          generalize hs : d.decV [] c = s at h1 h3 ⊢
          generalize hy : A.decV [] rest = y at h2 h3 ⊢
          subst h1; subst h2
          have hi : i < m.length := by
            rcases Nat.lt_or_ge i m.length with hi | hi
            · exact hi
            · rw [memAt_ge hi] at hm; cases hm
          have key := call_of_fn (args := .ptr i [.idx k n] (k * w) :: A.emb y) (m := m) (h s k y h3) [i] (by simp) (by simp [hm, Res.isBlk]) (by simp only [renL, A.ren, Sx.ren, renI, selI, List.contains_cons, BEq.rfl, Bool.true_or, if_true, List.idxOf_cons_self])
            (by simp only [selM, List.map_cons, List.map_nil, hm, renR, d.ren]) (by simp) (by intro j hj; simp at hj; subst hj; rfl)
          rw [R.ren] at key
          have hmm : mergeM [i] m [.blk T' (d.emb (S s k y))] = m.set i (.blk T' (d.emb (S s k y))) := by
            simp [mergeM, memAt, renR, d.ren]
          rwa [hmm] at key
      | _ => trivial) hΓ
namespace W
theorem fh_mp (f : FuncId) {σ α ρ : Type} (T : TypeId) (n w : Nat) (d : DT σ) (A : DA α) (R : DR ρ) (pre : σ → Nat → α → Prop) (F : σ → Nat → α → ρ) (S : σ → Nat → α → σ) (Γ : FH) (g : FuncId) (i : Nat) (p : List Step) (o : Nat) (rest : List SV) (m : List Res) :
    FH.mp f T n w d A R pre F S Γ g (.ptr i p o :: rest) m = if g = f then (match memAt m i with
        | .blk T' c => .is (T' = T ∧ p = [.idx (placeOf p) n] ∧ o = placeOf p * w ∧ d.emb (d.decV [] c) = c ∧ A.emb (A.decV [] rest) = rest ∧ pre (d.decV [] c) (placeOf p) (A.decV [] rest)) (R.emb (F (d.decV [] c) (placeOf p) (A.decV [] rest))) (m.set i (.blk T (d.emb (S (d.decV [] c) (placeOf p) (A.decV [] rest)))))
        | _ => .no) else Γ g (.ptr i p o :: rest) m := nr rfl
theorem fh_mp_not (f : FuncId) {σ α ρ : Type} (T : TypeId) (n w : Nat) (d : DT σ) (A : DA α) (R : DR ρ) (pre : σ → Nat → α → Prop) (F : σ → Nat → α → ρ) (S : σ → Nat → α → σ) (Γ : FH) (g : FuncId) (args : List SV) (m : List Res) (h : g ≠ f) :
    FH.mp f T n w d A R pre F S Γ g args m = Γ g args m := nr (if_neg h)
end W
attribute [go_sem ↓] W.fh_mp W.fh_mp_not
end Go.Sx
