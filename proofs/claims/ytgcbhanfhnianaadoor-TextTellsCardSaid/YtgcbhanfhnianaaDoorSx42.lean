import Derived.Test.YtgcbhanfhnianaaDoorSx41
import Derived.Maps.RangeRun
/-! Sx, part 42: a range over a map. -/
set_option linter.unusedVariables false
set_option linter.unusedSimpArgs false
namespace Go.Sx
open Go
open Go.ChangeMaps (setBlock)
variable {P : Program}
/-- Code in which maps are ranged over. -/
inductive ZI : Type 1 where
  | leaf (x : IC)
  | seq (a b : ZI)
  | cond (x : Opd) (a b : ZI)
  | block (id : Nat) (c : ZI)
  | rmap (l1 : List IOp) (x : Opd) (it out nx more nxt pair : Nat) (l2 : List IOp) (b : IC)
inductive ZC : Type 1 where
  | leaf (x : JC)
  | seq (a b : ZC)
  | cond (x : Opd) (a b : ZC)
  | block (id : Nat) (c : ZC)
  | prune (ks : List Nat) (c : ZC)
  | rmap (l1 : SL) (x : Opd) (it out nx more nxt pair : Nat) (l2 : SL) (keep mod : List Nat) (b : JC)
  | arrv (k n : Nat) (E : TypeId) (w : Nat) (c : ZC)
  | frzs (l : List (Nat × Frz)) (c : ZC)
def ZC.flat : ZC → ZI
  | .leaf x => .leaf x.flat
  | .seq a b => .seq a.flat b.flat
  | .cond x a b => .cond x a.flat b.flat
  | .block id c => .block id c.flat
  | .prune _ c => c.flat
  | .arrv _ _ _ _ c => c.flat
  | .frzs _ c => c.flat
  | .rmap l1 x it out nx more nxt pair l2 _ _ b => .rmap (l1.flat none) x it out nx more nxt pair (l2.flat none) b.flat
def ZC.wf (n : Nat) : ZC → Bool
  | .leaf x => x.wf n
  | .seq a b | .cond _ a b => a.wf n && b.wf n
  | .block _ c => c.wf n
  | .prune _ c => c.wf n
  | .arrv _ _ _ _ c => c.wf n
  | .frzs l c => l.all (fun p => decide (p.1 < n)) && c.wf n
  | .rmap l1 _ it _ nx more _ pair l2 keep mod b => l1.wf n && l2.wf n && decide (it < n) && decide (nx < n) && decide (more < n) && decide (pair < n) && !decide (it = nx) && !decide (it = more) && !decide (it = pair) && (keep ++ mod).all (fun k => !decide (k = nx) && !decide (k = more) && !decide (k = pair) && !decide (k = it)) && b.wf n
/-- What a round leaves behind. -/
def roundZ {ι : Type} (it : Nat) (keep mod : List Nat) (U : ι → List SV) (M : ι → List Res) (ok : List Nat → ι → Prop) (ds : List Nat) (q : Nat) (s : ι) (iv : Value) (τ τ' : Fr) (m' : List Res) : Prop :=
  ∃ s', ok (ds ++ [q]) s' ∧ (M s).length ≤ (M s').length ∧ look it τ' = .raw iv ∧ atR (ltI (M s').length) mod (U s') τ' ∧ sameR (ltI (M s').length) τ τ' keep ∧ (m'.take (M s').length).map (renR (ltI (M s').length)) = M s'
/-- An array of nil slices in a block: each becomes a slice of the call's own. -/
def arrvF (k n : Nat) (E : TypeId) (w : Nat) (K : List Res → Prop) (τ : Fr) (m : List Res) : Prop := match look k τ with
  | .ptr i [] 0 => match memAt m i with
    | .blk T (.arr n' w' f) => (n' = n ∧ w' = 1 ∧ ∀ j, j < n → f j = .nils) ∧ K (m.set i (.blk T (.arr n 1 fun j => if j < n then .vec (m.length + j) 0 else .junk)) ++ List.replicate n (.vec E w []))
    | _ => False
  | _ => False
/-- Several things are held fast at once. -/
def frzP (m : List Res) (τ : Fr) : List (Nat × Frz) → Prop
  | [] => True
  | p :: r => p.2.P m (look p.1 τ) ∧ frzP m τ r
def frzD (m : List Res) (τ : Fr) : List (Nat × Frz) → Fr → Fr
  | [], τ' => τ'
  | p :: r, τ' => .put p.1 (p.2.dec m (look p.1 τ)) (frzD m τ r τ')
def ZC.wp (Γ : FH) (n0 : Nat) : ZC → (Ex → Fr → List Res → Prop) → Fr → List Res → Prop
  | .leaf x, Q, τ, m => x.wp Γ n0 Q τ m
  | .seq a b, Q, τ, m => a.wp Γ n0 (fun e τ' m' => match e with
    | .norm => b.wp Γ n0 Q τ' m'
    | e => Q e τ' m') τ m
  | .cond x a b, Q, τ, m => match x.fv τ with
    | .bool t => (t = true → a.wp Γ n0 Q τ m) ∧ (t = false → b.wp Γ n0 Q τ m)
    | .anyb => a.wp Γ n0 Q τ m ∧ b.wp Γ n0 Q τ m
    | _ => False
  | .block id c, Q, τ, m => c.wp Γ n0 (fun e τ' m' => match e with
    | .exit i => if i = id then Q .norm τ' m' else Q (.exit i) τ' m'
    | e => Q e τ' m') τ m
  | .prune ks c, Q, τ, m => c.wp Γ n0 Q (keepF ks τ) m
  | .arrv k n E w c, Q, τ, m => arrvF k n E w (fun m' => c.wp Γ n0 Q τ m') τ m
  | .frzs l c, Q, τ, m => frzP m τ l ∧ c.wp Γ n0 Q (frzD m τ l τ) (deads m)
  | .rmap l1 x it out nx more nxt pair l2 keep mod b, Q, τ, m => l1.wp Γ false (fun τ m => match x.fv τ with
    | .map i => match memAt m i with
      | .mp ek ev l => ∃ (ι : Type) (U : ι → List SV) (M : ι → List Res) (ok : List Nat → ι → Prop) (s0 : ι), ok [] s0 ∧ atF mod (U s0) τ ∧ M s0 = m.set i .dead ∧
        (∀ ds s q, ok ds s → ds.Nodup → (∀ d, d ∈ ds → d < l.length) → q < l.length → q ∉ ds → ∀ iv : Value,
          l2.wp Γ false (fun τ' m' => b.wp Γ (M s).length (fun e τ' m' => match e with
            | .norm => roundZ it keep mod U M ok ds q s iv τ τ' m'
            | .exit k => if k = nxt then roundZ it keep mod U M ok ds q s iv τ τ' m' else if k = out then Q .norm τ' m' else Q (.exit k) τ' m'
            | .ret => Q .ret τ' m') τ' m') (.put pair (.tup [(l.getD q (.junk, .junk)).1, (l.getD q (.junk, .junk)).2]) (.put it (.raw iv) (ofF mod (U s) (keepF keep τ)))) (M s)) ∧
        (∀ ds s, ok ds s → ds.Nodup → (∀ d, d ∈ ds → d < l.length) → (∀ q, q < l.length → q ∈ ds) → Q .norm (ofF mod (U s) (keepF keep τ)) (M s))
      | _ => False
    | _ => False) τ m
/-! ### It is right -/
section steps
variable {w : World} {ops : Array Oper} {rest : List Oper} {o : Oper} {a : Act} {Q : Exit → Act → World → Prop}
end steps
section words
variable {Γ : FH} {n0 : Nat} {Q : Ex → Fr → List Res → Prop} {τ : Fr} {m : List Res}
theorem zc_leaf {x : JC} : ZC.wp Γ n0 (.leaf x) Q τ m = x.wp Γ n0 Q τ m := propext Iff.rfl
theorem zc_seq {a b : ZC} : ZC.wp Γ n0 (.seq a b) Q τ m = a.wp Γ n0 (fun e τ' m' => match e with
    | .norm => b.wp Γ n0 Q τ' m'
    | e => Q e τ' m') τ m := propext Iff.rfl
theorem zc_cond {x : Opd} {a b : ZC} : ZC.wp Γ n0 (.cond x a b) Q τ m = (match x.fv τ with
    | .bool t => (t = true → a.wp Γ n0 Q τ m) ∧ (t = false → b.wp Γ n0 Q τ m)
    | .anyb => a.wp Γ n0 Q τ m ∧ b.wp Γ n0 Q τ m
    | _ => False) := propext Iff.rfl
theorem zc_block {id : Nat} {c : ZC} : ZC.wp Γ n0 (.block id c) Q τ m = c.wp Γ n0 (fun e τ' m' => match e with
    | .exit i => if i = id then Q .norm τ' m' else Q (.exit i) τ' m'
    | e => Q e τ' m') τ m := propext Iff.rfl
theorem zc_prune {ks : List Nat} {c : ZC} : ZC.wp Γ n0 (.prune ks c) Q τ m = c.wp Γ n0 Q (keepF ks τ) m := propext Iff.rfl
theorem zc_frzs {l : List (Nat × Frz)} {c : ZC} : ZC.wp Γ n0 (.frzs l c) Q τ m = (frzP m τ l ∧ c.wp Γ n0 Q (frzD m τ l τ) (deads m)) := propext Iff.rfl
theorem zc_arrv {k n : Nat} {E : TypeId} {w : Nat} {c : ZC} : ZC.wp Γ n0 (.arrv k n E w c) Q τ m = arrvF k n E w (fun m' => c.wp Γ n0 Q τ m') τ m := propext Iff.rfl
theorem zcwp_congr {c : ZC} {τ' : Fr} {m' : List Res} (h1 : W.wrp τ = τ') (h2 : W.wrp m = m') : ZC.wp Γ n0 c Q τ m = ZC.wp Γ n0 c Q τ' m' := by subst h1; subst h2; rfl
end words
attribute [congr] zcwp_congr
theorem ren_raw (r : Nat → Option Nat) (v : Value) : ren r (.raw v) = .raw v := nr rfl
attribute [go_sem] roundZ ren_raw
attribute [go_sem] frzP frzD
attribute [go_sem ↓] zc_frzs arrvF zc_arrv zc_leaf zc_seq zc_cond zc_block zc_prune
end Go.Sx
