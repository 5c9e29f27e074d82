import Derived.Test.YtgcbhanfhnianaaSx43
/-! Sx, part 44: a callee that is handed a place within an owned block. -/
set_option linter.unusedSimpArgs false
set_option linter.unusedVariables false
namespace Go.Sx
open Go
variable {P : Program}
def FH.mv (f : FuncId) {σ α ρ : Type} (T : TypeId) (p0 : List Step) (o0 : Nat) (d : DT σ) (A : DA α) (R : DP ρ) (pre : σ → α → Prop) (F : σ → α → ρ) (S : σ → α → σ) (Γ : FH) : FH :=
  FH.on f (fun args m => match args with
    | x :: rest => match x with
      | .ptr i p o => match memAt m i with
        | .blk T' c => .is (T' = T ∧ p = p0 ∧ o = o0 ∧ d.emb (d.decV [] c) = c ∧ A.emb (A.decV [] rest) = rest ∧ pre (d.decV [] c) (A.decV [] rest)) (R.emb (F (d.decV [] c) (A.decV [] rest))) (m.set i (.blk T (d.emb (S (d.decV [] c) (A.decV [] rest)))))
        | _ => .no
      | _ => .no
    | [] => .no) Γ
namespace W
theorem fh_mv (f : FuncId) {σ α ρ : Type} (T : TypeId) (p0 : List Step) (o0 : Nat) (d : DT σ) (A : DA α) (R : DP ρ) (pre : σ → α → Prop) (F : σ → α → ρ) (S : σ → α → σ) (Γ : FH) (g : FuncId) (i : Nat) (p : List Step) (o : Nat) (rest : List SV) (m : List Res) :
    FH.mv f T p0 o0 d A R pre F S Γ g (.ptr i p o :: rest) m = if g = f then (match memAt m i with
        | .blk T' c => .is (T' = T ∧ p = p0 ∧ o = o0 ∧ d.emb (d.decV [] c) = c ∧ A.emb (A.decV [] rest) = rest ∧ pre (d.decV [] c) (A.decV [] rest)) (R.emb (F (d.decV [] c) (A.decV [] rest))) (m.set i (.blk T (d.emb (S (d.decV [] c) (A.decV [] rest)))))
        | _ => .no) else Γ g (.ptr i p o :: rest) m := nr rfl
theorem fh_mv_not (f : FuncId) {σ α ρ : Type} (T : TypeId) (p0 : List Step) (o0 : Nat) (d : DT σ) (A : DA α) (R : DP ρ) (pre : σ → α → Prop) (F : σ → α → ρ) (S : σ → α → σ) (Γ : FH) (g : FuncId) (args : List SV) (m : List Res) (h : g ≠ f) :
    FH.mv f T p0 o0 d A R pre F S Γ g args m = Γ g args m := nr (if_neg h)
end W
attribute [go_sem ↓] W.fh_mv W.fh_mv_not
def FH.m2 (f : FuncId) {α β γ ρ : Type} (T1 T2 : TypeId) (d1 : DT α) (d2 : DT β) (A : DT γ) (R : DP ρ) (pre : α → β → γ → Prop) (F : α → β → γ → ρ) (S : α → β → γ → α × β) (Γ : FH) : FH :=
  FH.on f (fun args m => match args with
    | [x, .ptr i p o, .ptr j q u] => match memAt m i with
      | .blk T c => match memAt m j with
        | .blk T' c' => .is (i ≠ j ∧ (T = T1 ∧ p = [] ∧ o = 0 ∧ d1.emb (d1.decV [] c) = c) ∧ (T' = T2 ∧ q = [] ∧ u = 0 ∧ d2.emb (d2.decV [] c') = c') ∧ A.emb (A.decV [] x) = x ∧ pre (d1.decV [] c) (d2.decV [] c') (A.decV [] x)) (R.emb (F (d1.decV [] c) (d2.decV [] c') (A.decV [] x)))
            ((m.set i (.blk T1 (d1.emb (S (d1.decV [] c) (d2.decV [] c') (A.decV [] x)).1))).set j (.blk T2 (d2.emb (S (d1.decV [] c) (d2.decV [] c') (A.decV [] x)).2)))
        | _ => .no
      | _ => .no
    | _ => .no) Γ
theorem W.fh_m2 (f : FuncId) {α β γ ρ : Type} (T1 T2 : TypeId) (d1 : DT α) (d2 : DT β) (A : DT γ) (R : DP ρ) (pre : α → β → γ → Prop) (F : α → β → γ → ρ) (S : α → β → γ → α × β) (Γ : FH) (f' : FuncId) (x : SV) (i j : Nat) (p q : List Step) (o u : Nat) (m : List Res) :
    FH.m2 f T1 T2 d1 d2 A R pre F S Γ f' [x, .ptr i p o, .ptr j q u] m = if f' = f then (match memAt m i with
      | .blk T c => match memAt m j with
        | .blk T' c' => .is (i ≠ j ∧ (T = T1 ∧ p = [] ∧ o = 0 ∧ d1.emb (d1.decV [] c) = c) ∧ (T' = T2 ∧ q = [] ∧ u = 0 ∧ d2.emb (d2.decV [] c') = c') ∧ A.emb (A.decV [] x) = x ∧ pre (d1.decV [] c) (d2.decV [] c') (A.decV [] x)) (R.emb (F (d1.decV [] c) (d2.decV [] c') (A.decV [] x)))
            ((m.set i (.blk T1 (d1.emb (S (d1.decV [] c) (d2.decV [] c') (A.decV [] x)).1))).set j (.blk T2 (d2.emb (S (d1.decV [] c) (d2.decV [] c') (A.decV [] x)).2)))
        | _ => .no
      | _ => .no) else Γ f' [x, .ptr i p o, .ptr j q u] m := nr rfl
theorem W.fh_m2_not (f : FuncId) {α β γ ρ : Type} (T1 T2 : TypeId) (d1 : DT α) (d2 : DT β) (A : DT γ) (R : DP ρ) (pre : α → β → γ → Prop) (F : α → β → γ → ρ) (S : α → β → γ → α × β) (Γ : FH) (f' : FuncId) (args : List SV) (m : List Res) (h : f' ≠ f) :
    FH.m2 f T1 T2 d1 d2 A R pre F S Γ f' args m = Γ f' args m := nr (if_neg h)
attribute [go_sem ↓] W.fh_m2 W.fh_m2_not
def FH.c2 (f : FuncId) (g0 : FuncId) {α β γ ρ : Type} (T1 T2 : TypeId) (d1 : DT α) (d2 : DT β) (A : DT γ) (R : DP ρ) (pre : α → β → γ → Prop) (F : α → β → γ → ρ) (S : α → β → γ → α × β) (Γ : FH) : FH :=
  FH.on f (fun args m => match args with
    | [x, .fn g [.ptr i p o, .ptr j q u]] => match memAt m i with
      | .blk T c => match memAt m j with
        | .blk T' c' => .is (g = g0 ∧ i ≠ j ∧ (T = T1 ∧ p = [] ∧ o = 0 ∧ d1.emb (d1.decV [] c) = c) ∧ (T' = T2 ∧ q = [] ∧ u = 0 ∧ d2.emb (d2.decV [] c') = c') ∧ A.emb (A.decV [] x) = x ∧ pre (d1.decV [] c) (d2.decV [] c') (A.decV [] x)) (R.emb (F (d1.decV [] c) (d2.decV [] c') (A.decV [] x)))
            ((m.set i (.blk T1 (d1.emb (S (d1.decV [] c) (d2.decV [] c') (A.decV [] x)).1))).set j (.blk T2 (d2.emb (S (d1.decV [] c) (d2.decV [] c') (A.decV [] x)).2)))
        | _ => .no
      | _ => .no
    | _ => .no) Γ
theorem W.fh_c2 (f : FuncId) (g0 : FuncId) {α β γ ρ : Type} (T1 T2 : TypeId) (d1 : DT α) (d2 : DT β) (A : DT γ) (R : DP ρ) (pre : α → β → γ → Prop) (F : α → β → γ → ρ) (S : α → β → γ → α × β) (Γ : FH) (f' : FuncId) (g : FuncId) (x : SV) (i j : Nat) (p q : List Step) (o u : Nat) (m : List Res) :
    FH.c2 f g0 T1 T2 d1 d2 A R pre F S Γ f' [x, .fn g [.ptr i p o, .ptr j q u]] m = if f' = f then (match memAt m i with
      | .blk T c => match memAt m j with
        | .blk T' c' => .is (g = g0 ∧ i ≠ j ∧ (T = T1 ∧ p = [] ∧ o = 0 ∧ d1.emb (d1.decV [] c) = c) ∧ (T' = T2 ∧ q = [] ∧ u = 0 ∧ d2.emb (d2.decV [] c') = c') ∧ A.emb (A.decV [] x) = x ∧ pre (d1.decV [] c) (d2.decV [] c') (A.decV [] x)) (R.emb (F (d1.decV [] c) (d2.decV [] c') (A.decV [] x)))
            ((m.set i (.blk T1 (d1.emb (S (d1.decV [] c) (d2.decV [] c') (A.decV [] x)).1))).set j (.blk T2 (d2.emb (S (d1.decV [] c) (d2.decV [] c') (A.decV [] x)).2)))
        | _ => .no
      | _ => .no) else Γ f' [x, .fn g [.ptr i p o, .ptr j q u]] m := nr rfl
theorem W.fh_c2_not (f : FuncId) (g0 : FuncId) {α β γ ρ : Type} (T1 T2 : TypeId) (d1 : DT α) (d2 : DT β) (A : DT γ) (R : DP ρ) (pre : α → β → γ → Prop) (F : α → β → γ → ρ) (S : α → β → γ → α × β) (Γ : FH) (f' : FuncId) (args : List SV) (m : List Res) (h : f' ≠ f) :
    FH.c2 f g0 T1 T2 d1 d2 A R pre F S Γ f' args m = Γ f' args m := nr (if_neg h)
attribute [go_sem ↓] W.fh_c2 W.fh_c2_not
end Go.Sx
