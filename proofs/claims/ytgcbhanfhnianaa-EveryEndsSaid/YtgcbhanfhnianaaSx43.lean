import Derived.Test.YtgcbhanfhnianaaSx42
import Derived.Conc.RwLoneW
/-! Sx, part 43: a sync.RWMutex in one goroutine; a function that defers its unlocking. -/
set_option linter.unusedSimpArgs false
set_option linter.unusedVariables false
namespace Go.Sx
open Go Go.Conc.Locks Go.RwLone
variable {P : Program}
def muV (s c : Int) : SV := .agg [.agg [.agg [], .agg [.int .i32 s, .int .u32 0]], .int .u32 0, .int .u32 0, .agg [.agg [], .int .i32 c], .agg [.agg [], .int .i32 0]]
section lock
variable {w : World} {b : Nat} {T : TypeId} {xs : List Value}
end lock
variable {L : RwLink}
/-! ### A function that defers one call -/
structure DC where
  x : JC
  y : JC
  l : SL
  df : FuncId
  dv : Opd
  z : JC
def DC.flat (d : DC) : IC × IC × List IOp × FuncId × Opd × IC := (d.x.flat, d.y.flat, d.l.flat none, d.df, d.dv, d.z.flat)
def DC.wf (n : Nat) (d : DC) : Bool := d.x.wf n && (d.y.wf n && (d.l.wf n && d.z.wf n))
def offF (i : Nat) (s c s' c' : Int) (Q : Ex → Fr → List Res → Prop) (e : Ex) (τ : Fr) (m : List Res) : Prop := match memAt m i with
  | .blk T (.agg [l, X]) => l = muV s c ∧ Q e τ (m.set i (.blk T (.agg [muV s' c', X])))
  | _ => False
def DC.wp (Γ : FH) (n0 : Nat) (s c s' c' : Int) (d : DC) (Q : Ex → Fr → List Res → Prop) (τ : Fr) (m : List Res) : Prop :=
  d.x.wp Γ n0 (fun e τ m => match e with
    | .norm => d.y.wp Γ n0 (fun e τ m => match e with
      | .norm => d.l.wp Γ false (fun τ m => match d.dv.fv τ with
        | .ptr i p o => (i < n0 ∧ o = 0) ∧ d.z.wp Γ n0 (offF i s c s' c' Q) τ m
        | _ => False) τ m
      | _ => False) τ m
    | _ => False) τ m
section words
theorem dc_wp {Γ : FH} {n0 : Nat} {s c s' c' : Int} {x y : JC} {l : SL} {df : FuncId} {dv : Opd} {z : JC} {Q : Ex → Fr → List Res → Prop} {τ : Fr} {m : List Res} : DC.wp Γ n0 s c s' c' ⟨x, y, l, df, dv, z⟩ Q τ m = x.wp Γ n0 (fun e τ m => match e with
    | .norm => y.wp Γ n0 (fun e τ m => match e with
      | .norm => l.wp Γ false (fun τ m => match dv.fv τ with
        | .ptr i p o => (i < n0 ∧ o = 0) ∧ z.wp Γ n0 (offF i s c s' c' Q) τ m
        | _ => False) τ m
      | _ => False) τ m
    | _ => False) τ m := propext Iff.rfl
end words
attribute [go_sem ↓] dc_wp
attribute [go_sem] muV offF
end Go.Sx
