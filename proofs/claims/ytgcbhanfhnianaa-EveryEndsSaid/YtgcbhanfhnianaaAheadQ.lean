/- What is ahead: the closing of what is directly ahead. Conditions: none. -/
import Derived.Test.YtgcbhanfhnianaaAheadP
set_option linter.unusedSimpArgs false
set_option linter.unusedVariables false
open Go Go.Sx Go.Proofs
namespace Go.Proofs.Ytgcbhanfhnianaa.Ah
open Go.Proofs.Ytgcbhanfhnianaa.D Go.Proofs.Ytgcbhanfhnianaa.Tr Go.Proofs.Ytgcbhanfhnianaa.Ps Go.Proofs.Ytgcbhanfhnianaa.Od
inductive Pth (E : Nat → Nat → Bool) : Nat → Nat → Prop
  | one {a b : Nat} : E a b = true → Pth E a b
  | snoc {a c b : Nat} : Pth E a c → E c b = true → Pth E a b
inductive PthB (E : Nat → Nat → Bool) (k : Nat) : Nat → Nat → Prop
  | one {a b : Nat} : E a b = true → PthB E k a b
  | snoc {a c b : Nat} : PthB E k a c → c < k → E c b = true → PthB E k a b
section
variable {E : Nat → Nat → Bool}
theorem Pth.trans {a b c : Nat} (h : Pth E a b) (k : Pth E b c) : Pth E a c := by
  induction k with
  | one e => exact .snoc h e
  | snoc _ e ih => exact .snoc ih e
theorem PthB.trans {k a b : Nat} (h : PthB E (k + 1) a k) (g : PthB E (k + 1) k b) : PthB E (k + 1) a b := by
  induction g with
  | one e => exact .snoc h (by omega) e
  | snoc _ hc e ih => exact .snoc ih hc e
end
def Ahd (l : List Ev) (a b : Nat) : Prop := Pth (upP (dirL l)) a b
end Go.Proofs.Ytgcbhanfhnianaa.Ah
