/- What a thread, a lock, a signal know. Conditions: none. -/
import Derived.Test.YtohbjnpafpcbkaaAheadQ
import Derived.Test.YtohbjnpafpcbkaaTraceM
section
set_option linter.unusedSimpArgs false
set_option linter.unusedVariables false
open Go Go.Sx Go.Proofs
namespace Go.Proofs.Ytohbjnpafpcbkaa.St
open Go.Proofs.Ytohbjnpafpcbkaa.D Go.Proofs.Ytohbjnpafpcbkaa.Tr Go.Proofs.Ytohbjnpafpcbkaa.Ah Go.Proofs.Ytohbjnpafpcbkaa.Ps Go.Proofs.Ytohbjnpafpcbkaa.Od
/-- Not behind. -/
def Le' (l : List Ev) (a b : Nat) : Prop := a = b ∨ Ahd l a b
def TS (l : List Ev) (j t : Nat) (i : Nat) : Prop := ∃ c, c < j ∧ Le' l i c ∧ ((at' l c).thr.toNat = t ∨ (at' l c).kind = 5 ∧ (at' l c).obj.toNat = t)
def LS (l : List Ev) (j m : Nat) (i : Nat) : Prop := ∃ c, c < j ∧ Le' l i c ∧ (at' l c).kind = 4 ∧ (at' l c).obj.toNat = m
def VS (l : List Ev) (j m : Nat) (i : Nat) : Prop := ∃ c, c < j ∧ Le' l i c ∧ (at' l c).kind = 8 ∧ (at' l c).obj.toNat = m
section
variable {l : List Ev} (hok : (checkR l).2 = 0)
include hok
end
end Go.Proofs.Ytohbjnpafpcbkaa.St
end
section
set_option linter.unusedSimpArgs false
set_option linter.unusedVariables false
set_option maxRecDepth 100000
open Go Go.Sx Go.Proofs
namespace Go.Proofs.Ytohbjnpafpcbkaa.Rc
open Go.Proofs.Ytohbjnpafpcbkaa.D Go.Proofs.Ytohbjnpafpcbkaa.Tr Go.Proofs.Ytohbjnpafpcbkaa.Ah Go.Proofs.Ytohbjnpafpcbkaa.Ps Go.Proofs.Ytohbjnpafpcbkaa.Od Go.Proofs.Ytohbjnpafpcbkaa.St
def noRace (l : List Ev) (i j : Nat) (a b : Ev) : Bool := decide ((j : Int) ≤ i) || decide (2 < a.kind) || decide (2 < b.kind) || !decide (a.obj = b.obj) || decide (IntKind.i64.wrap (a.kind + b.kind) < 3) || aheadR l i j
def rkind (a b : Ev) : Int := if a.kind = 1 then 3 else if b.kind = 1 then 2 else 1
def rowC (l : List Ev) (i : Nat) : Nat → List Rc
  | 0 => []
  | j + 1 => rowC l i j ++ if noRace l i j (l.getD i dEv.dft) (l.getD j dEv.dft) = true then [] else [⟨i, j, (l.getD i dEv.dft).obj, rkind (l.getD i dEv.dft) (l.getD j dEv.dft)⟩]
def allC (l : List Ev) : Nat → List Rc
  | 0 => []
  | i + 1 => allC l i ++ rowC l i l.length
theorem rowC_len {l : List Ev} {i : Nat} : ∀ j, (rowC l i j).length ≤ j
  | 0 => Nat.le_refl _
  | j + 1 => by
    have := rowC_len (l := l) (i := i) j
    rw [rowC, List.length_append]
    split <;> simp <;> omega
theorem allC_len {l : List Ev} : ∀ i, (allC l i).length ≤ i * l.length
  | 0 => by simp [allC]
  | i + 1 => by
    have h1 := allC_len (l := l) i
    have h2 := rowC_len (l := l) (i := i) l.length
    rw [allC, List.length_append, Nat.add_mul]
    omega
def racesF (l : List Ev) : List Rc := allC l l.length
end Go.Proofs.Ytohbjnpafpcbkaa.Rc
end
