import Derived.Test.YtafcmgfmmlnngaaSx13r
import Derived.Test.YtafcmgfmmlnngaaSx13f
import Derived.Deep.LoopGhost
/-! Sx, part 13c: code. -/
set_option linter.unusedSimpArgs false
set_option linter.unusedVariables false
namespace Go.Sx
open Go

variable {P : Program}

/-- Code. -/
inductive IC : Type 1 where
  | skip
  | ops (l : List IOp)
  | dops (l : List IOp)
  | seq (a b : IC)
  | cond (x : Opd) (a b : IC)
  | block (id : Nat) (c : IC)
  | loop (c : IC)
  | exit (id : Nat)
  | ret

inductive Ex where
  | norm
  | exit (id : Nat)
  | ret

def ExRel : Exit → Ex → Prop
  | .normal, .norm => True
  | .exit i, .exit j => i = j
  | .ret, .ret => True
  | _, _ => False

/-- What is known may be known less well. -/
def Weak (σ : List SV) (m : List Res) (σ' : List SV) (m' : List Res) : Prop :=
  ∀ β ε a w, Inv β ε m w → SlotsOK ε σ a → ∃ ε', Inv β ε' m' w ∧ SlotsOK ε' σ' a

/-- A region that draws its order, in another order. -/
def compR (P : Program) (quiet : FuncId → Bool) (ops : Array Oper) : Option IC := match ops.toList.mapM (compD P (quiet2 quiet) ops) with
  | some ios0 => match (permOps ops (ordGo ops ios0 ops.size [])).toList.mapM (compD P (quiet2 quiet) (permOps ops (ordGo ops ios0 ops.size []))) with
    | some ios => if permOk ops (ordGo ops ios0 ops.size []) && chk (permOps ops (ordGo ops ios0 ops.size [])).toList ios && P.follows .mixedOrders then some (.dops (aug (permOps ops (ordGo ops ios0 ops.size [])).toList ios)) else none
    | none => none
  | none => none
theorem compR_dops {quiet : FuncId → Bool} {ops : Array Oper} {ic : IC} (h : compR P quiet ops = some ic) : ∃ l, ic = .dops l := by
  unfold compR at h
  split at h <;> try (cases h; done)
  split at h <;> try (cases h; done)
  split at h <;> try (cases h; done)
  exact ⟨_, (Option.some.inj h).symm⟩
def comp (P : Program) (quiet : FuncId → Bool) : Code → Option IC
  | .skip => some .skip
  | .region _ ops draw => if draw then match ops.toList.mapM (compD P quiet ops) with
      | some ios => if chk ops.toList ios && P.follows .mixedOrders then some (.dops (aug ops.toList ios)) else compR P quiet ops
      | none => none
    else (ops.toList.mapM (compOp P ops)).map .ops
  | .seq a b => match comp P quiet a, comp P quiet b with
    | some a, some b => some (.seq a b)
    | _, _ => none
  | .cond x a b => match compO x, comp P quiet a, comp P quiet b with
    | some x, some a, some b => some (.cond x a b)
    | _, _, _ => none
  | .block id c => (comp P quiet c).map (.block id)
  | .loop c => (comp P quiet c).map .loop
  | .exit id => some (.exit id)
  | .ret => some .ret
  | _ => none

/-- Where code may end. -/
def Ends (β : Base) (d : List Deferred) (Q : Ex → List SV → List Res → Prop) (e : Exit) (a : Act) (w : World) : Prop :=
  ∃ ex σ m ε, ExRel e ex ∧ Q ex σ m ∧ Inv β ε m w ∧ SlotsOK ε σ a ∧ a.defers = d

theorem Ends.mono {β : Base} {d : List Deferred} {Q Q' : Ex → List SV → List Res → Prop} {e : Exit} {a : Act} {w : World} (h : ∀ ex σ m, Q ex σ m → Q' ex σ m) (hh : Ends β d Q e a w) : Ends β d Q' e a w := by
  obtain ⟨ex, σ, m, ε, h1, h2, h3⟩ := hh
  exact ⟨ex, σ, m, ε, h1, h _ _ _ h2, h3⟩

end Go.Sx
