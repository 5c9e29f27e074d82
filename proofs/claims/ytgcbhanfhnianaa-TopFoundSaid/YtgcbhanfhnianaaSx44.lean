import Derived.Test.YtgcbhanfhnianaaSx43
/-! Sx, part 44: a callee that is handed a place within an owned block. -/
set_option linter.unusedSimpArgs false
set_option linter.unusedVariables false
namespace Go.Sx
open Go
variable {P : Program}
def FH.mv (f : FuncId) {σ α ρ : Type} (T : TypeId) (p0 : List Step) (o0 : Nat) (d : DT σ) (A : DA α) (R : DP ρ) (pre : σ → α → Prop) (F : σ → α → ρ) (S : σ → α → σ) (Γ : FH) : FH :=
  FH.on f (fun args m => match args with
    | x :: rest => match x with
      | .ptr i p o => match memAt m i with
        | .blk T' c => .is (T' = T ∧ p = p0 ∧ o = o0 ∧ d.emb (d.decV [] c) = c ∧ A.emb (A.decV [] rest) = rest ∧ pre (d.decV [] c) (A.decV [] rest)) (R.emb (F (d.decV [] c) (A.decV [] rest))) (m.set i (.blk T (d.emb (S (d.decV [] c) (A.decV [] rest)))))
        | _ => .no
      | _ => .no
    | [] => .no) Γ
theorem FH.mv_ok {f : FuncId} {σ α ρ : Type} {T : TypeId} {p0 : List Step} {o0 : Nat} {d : DT σ} {A : DA α} {R : DP ρ} {pre : σ → α → Prop} {F : σ → α → ρ} {S : σ → α → σ} {Γ : FH} (hf : okFn P f = true)
    (h : ∀ s y, pre s y → FnOK P f (.ptr 0 p0 o0 :: A.emb y) [.blk T (d.emb s)] (R.emb (F s y)) [.blk T (d.emb (S s y))]) (hΓ : FHOK P Γ) : FHOK P (FH.mv f T p0 o0 d A R pre F S Γ) :=
  FH.on_ok (fun args m => by
    cases args with
    | nil => trivial
    | cons x rest =>
      cases x with
      | ptr i p o =>
        simp only
        cases hm : memAt m i with
        | dead => trivial
        | vec T' w l => trivial
        | mp ek ev l => trivial
        | blk T' c =>
          rintro ⟨rfl, rfl, rfl, h1, h2, h3⟩
          refine ⟨hf, ?_⟩
          generalize hs : d.decV [] c = s at h1 h3 ⊢
          generalize hy : A.decV [] rest = y at h2 h3 ⊢
          subst h1; subst h2
          have hi : i < m.length := by
            rcases Nat.lt_or_ge i m.length with hi | hi
            · exact hi
            · rw [memAt_ge hi] at hm; cases hm
          have key := call_of_fn (args := .ptr i p o :: A.emb y) (m := m) (h s y h3) [i] (by simp) (by simp [hm, Res.isBlk]) (by simp only [renL, A.ren, Sx.ren, renI, selI, List.contains_cons, BEq.rfl, Bool.true_or, if_true, List.idxOf_cons_self])
            (by simp only [selM, List.map_cons, List.map_nil, hm, renR, d.ren]) (by simp) (by intro j hj; simp at hj; subst hj; rfl)
          rw [R.ren] at key
          have hmm : mergeM [i] m [.blk T' (d.emb (S s y))] = m.set i (.blk T' (d.emb (S s y))) := by
            simp [mergeM, memAt, renR, d.ren]
          rwa [hmm] at key
      | _ => trivial) hΓ
namespace W
theorem fh_mv (f : FuncId) {σ α ρ : Type} (T : TypeId) (p0 : List Step) (o0 : Nat) (d : DT σ) (A : DA α) (R : DP ρ) (pre : σ → α → Prop) (F : σ → α → ρ) (S : σ → α → σ) (Γ : FH) (g : FuncId) (i : Nat) (p : List Step) (o : Nat) (rest : List SV) (m : List Res) :
    FH.mv f T p0 o0 d A R pre F S Γ g (.ptr i p o :: rest) m = if g = f then (match memAt m i with
        | .blk T' c => .is (T' = T ∧ p = p0 ∧ o = o0 ∧ d.emb (d.decV [] c) = c ∧ A.emb (A.decV [] rest) = rest ∧ pre (d.decV [] c) (A.decV [] rest)) (R.emb (F (d.decV [] c) (A.decV [] rest))) (m.set i (.blk T (d.emb (S (d.decV [] c) (A.decV [] rest)))))
        | _ => .no) else Γ g (.ptr i p o :: rest) m := nr rfl
theorem fh_mv_not (f : FuncId) {σ α ρ : Type} (T : TypeId) (p0 : List Step) (o0 : Nat) (d : DT σ) (A : DA α) (R : DP ρ) (pre : σ → α → Prop) (F : σ → α → ρ) (S : σ → α → σ) (Γ : FH) (g : FuncId) (args : List SV) (m : List Res) (h : g ≠ f) :
    FH.mv f T p0 o0 d A R pre F S Γ g args m = Γ g args m := nr (if_neg h)
end W
attribute [go_sem ↓] W.fh_mv W.fh_mv_not
def FH.m2 (f : FuncId) {α β γ ρ : Type} (T1 T2 : TypeId) (d1 : DT α) (d2 : DT β) (A : DT γ) (R : DP ρ) (pre : α → β → γ → Prop) (F : α → β → γ → ρ) (S : α → β → γ → α × β) (Γ : FH) : FH :=
  FH.on f (fun args m => match args with
    | [x, .ptr i p o, .ptr j q u] => match memAt m i with
      | .blk T c => match memAt m j with
        | .blk T' c' => .is (i ≠ j ∧ (T = T1 ∧ p = [] ∧ o = 0 ∧ d1.emb (d1.decV [] c) = c) ∧ (T' = T2 ∧ q = [] ∧ u = 0 ∧ d2.emb (d2.decV [] c') = c') ∧ A.emb (A.decV [] x) = x ∧ pre (d1.decV [] c) (d2.decV [] c') (A.decV [] x)) (R.emb (F (d1.decV [] c) (d2.decV [] c') (A.decV [] x)))
            ((m.set i (.blk T1 (d1.emb (S (d1.decV [] c) (d2.decV [] c') (A.decV [] x)).1))).set j (.blk T2 (d2.emb (S (d1.decV [] c) (d2.decV [] c') (A.decV [] x)).2)))
        | _ => .no
      | _ => .no
    | _ => .no) Γ
theorem W.fh_m2 (f : FuncId) {α β γ ρ : Type} (T1 T2 : TypeId) (d1 : DT α) (d2 : DT β) (A : DT γ) (R : DP ρ) (pre : α → β → γ → Prop) (F : α → β → γ → ρ) (S : α → β → γ → α × β) (Γ : FH) (f' : FuncId) (x : SV) (i j : Nat) (p q : List Step) (o u : Nat) (m : List Res) :
    FH.m2 f T1 T2 d1 d2 A R pre F S Γ f' [x, .ptr i p o, .ptr j q u] m = if f' = f then (match memAt m i with
      | .blk T c => match memAt m j with
        | .blk T' c' => .is (i ≠ j ∧ (T = T1 ∧ p = [] ∧ o = 0 ∧ d1.emb (d1.decV [] c) = c) ∧ (T' = T2 ∧ q = [] ∧ u = 0 ∧ d2.emb (d2.decV [] c') = c') ∧ A.emb (A.decV [] x) = x ∧ pre (d1.decV [] c) (d2.decV [] c') (A.decV [] x)) (R.emb (F (d1.decV [] c) (d2.decV [] c') (A.decV [] x)))
            ((m.set i (.blk T1 (d1.emb (S (d1.decV [] c) (d2.decV [] c') (A.decV [] x)).1))).set j (.blk T2 (d2.emb (S (d1.decV [] c) (d2.decV [] c') (A.decV [] x)).2)))
        | _ => .no
      | _ => .no) else Γ f' [x, .ptr i p o, .ptr j q u] m := nr rfl
theorem W.fh_m2_not (f : FuncId) {α β γ ρ : Type} (T1 T2 : TypeId) (d1 : DT α) (d2 : DT β) (A : DT γ) (R : DP ρ) (pre : α → β → γ → Prop) (F : α → β → γ → ρ) (S : α → β → γ → α × β) (Γ : FH) (f' : FuncId) (args : List SV) (m : List Res) (h : f' ≠ f) :
    FH.m2 f T1 T2 d1 d2 A R pre F S Γ f' args m = Γ f' args m := nr (if_neg h)
attribute [go_sem ↓] W.fh_m2 W.fh_m2_not
def FH.c2 (f : FuncId) (g0 : FuncId) {α β γ ρ : Type} (T1 T2 : TypeId) (d1 : DT α) (d2 : DT β) (A : DT γ) (R : DP ρ) (pre : α → β → γ → Prop) (F : α → β → γ → ρ) (S : α → β → γ → α × β) (Γ : FH) : FH :=
  FH.on f (fun args m => match args with
    | [x, .fn g [.ptr i p o, .ptr j q u]] => match memAt m i with
      | .blk T c => match memAt m j with
        | .blk T' c' => .is (g = g0 ∧ i ≠ j ∧ (T = T1 ∧ p = [] ∧ o = 0 ∧ d1.emb (d1.decV [] c) = c) ∧ (T' = T2 ∧ q = [] ∧ u = 0 ∧ d2.emb (d2.decV [] c') = c') ∧ A.emb (A.decV [] x) = x ∧ pre (d1.decV [] c) (d2.decV [] c') (A.decV [] x)) (R.emb (F (d1.decV [] c) (d2.decV [] c') (A.decV [] x)))
            ((m.set i (.blk T1 (d1.emb (S (d1.decV [] c) (d2.decV [] c') (A.decV [] x)).1))).set j (.blk T2 (d2.emb (S (d1.decV [] c) (d2.decV [] c') (A.decV [] x)).2)))
        | _ => .no
      | _ => .no
    | _ => .no) Γ
theorem W.fh_c2 (f : FuncId) (g0 : FuncId) {α β γ ρ : Type} (T1 T2 : TypeId) (d1 : DT α) (d2 : DT β) (A : DT γ) (R : DP ρ) (pre : α → β → γ → Prop) (F : α → β → γ → ρ) (S : α → β → γ → α × β) (Γ : FH) (f' : FuncId) (g : FuncId) (x : SV) (i j : Nat) (p q : List Step) (o u : Nat) (m : List Res) :
    FH.c2 f g0 T1 T2 d1 d2 A R pre F S Γ f' [x, .fn g [.ptr i p o, .ptr j q u]] m = if f' = f then (match memAt m i with
      | .blk T c => match memAt m j with
        | .blk T' c' => .is (g = g0 ∧ i ≠ j ∧ (T = T1 ∧ p = [] ∧ o = 0 ∧ d1.emb (d1.decV [] c) = c) ∧ (T' = T2 ∧ q = [] ∧ u = 0 ∧ d2.emb (d2.decV [] c') = c') ∧ A.emb (A.decV [] x) = x ∧ pre (d1.decV [] c) (d2.decV [] c') (A.decV [] x)) (R.emb (F (d1.decV [] c) (d2.decV [] c') (A.decV [] x)))
            ((m.set i (.blk T1 (d1.emb (S (d1.decV [] c) (d2.decV [] c') (A.decV [] x)).1))).set j (.blk T2 (d2.emb (S (d1.decV [] c) (d2.decV [] c') (A.decV [] x)).2)))
        | _ => .no
      | _ => .no) else Γ f' [x, .fn g [.ptr i p o, .ptr j q u]] m := nr rfl
theorem W.fh_c2_not (f : FuncId) (g0 : FuncId) {α β γ ρ : Type} (T1 T2 : TypeId) (d1 : DT α) (d2 : DT β) (A : DT γ) (R : DP ρ) (pre : α → β → γ → Prop) (F : α → β → γ → ρ) (S : α → β → γ → α × β) (Γ : FH) (f' : FuncId) (args : List SV) (m : List Res) (h : f' ≠ f) :
    FH.c2 f g0 T1 T2 d1 d2 A R pre F S Γ f' args m = Γ f' args m := nr (if_neg h)
attribute [go_sem ↓] W.fh_c2 W.fh_c2_not
end Go.Sx
