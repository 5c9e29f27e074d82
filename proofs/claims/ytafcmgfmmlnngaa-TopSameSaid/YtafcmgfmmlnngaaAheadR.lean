/- The reference's Ahead: a table of what is ahead, closed round after round. Conditions: none. -/
import Derived.Test.YtafcmgfmmlnngaaOrderR
set_option linter.unusedSimpArgs false
set_option linter.unusedVariables false
set_option maxRecDepth 100000
open Go Go.Sx Go.Proofs
namespace Go.Proofs.Ytafcmgfmmlnngaa.Ah
open Go.Proofs.Ytafcmgfmmlnngaa.D Go.Proofs.Ytafcmgfmmlnngaa.Tr Go.Proofs.Ytafcmgfmmlnngaa.Ps Go.Proofs.Ytafcmgfmmlnngaa.Od
def upd2 (M : Nat → Nat → Bool) (a b : Nat) (v : Bool) : Nat → Nat → Bool := fun a' b' => if a' = a ∧ b' = b then v else M a' b'
section
variable {T U : TypeId} {n r : Nat} {M M' : Nat → Nat → Bool}
end
/-- A round of closing, as far as place (i, j). -/
def clo (M : Nat → Nat → Bool) (k : Nat) : Nat → Nat → Bool := fun a b => M a b || M a k && M k b
def rounds (M : Nat → Nat → Bool) : Nat → Nat → Nat → Bool
  | 0 => M
  | k + 1 => clo (rounds M k) k
def rowsOf (n : Nat) (M : Nat → Nat → Bool) : List (List Bool) := tb n fun a => tb n fun b => M a b
def aheadR (l : List Ev) : Nat → Nat → Bool := rounds (upP (dirL l)) l.length
end Go.Proofs.Ytafcmgfmmlnngaa.Ah
