/- Traces that are the same but for order. Conditions: none. -/
import Derived.Test.YtgcbhanfhnianaaSwapA
import Derived.Test.YtgcbhanfhnianaaCpy
import Derived.Test.YtgcbhanfhnianaaRows
import Derived.Test.YtgcbhanfhnianaaSx41
import Derived.Shelf.SlicesE.Kit
import Derived.Shelf.RegionOpenPlain
import Derived.WalkKit
import Derived.Deep.LoopGhost
import Derived.Deep.RegionLaw
import Derived.Lib.Walk
import Derived.Sort.WalkB12
import Derived.Lib.SliceRun
import Derived.Test.YtgcbhanfhnianaaTraceR
import Derived.Test.YtgcbhanfhnianaaFullQ
set_option linter.unusedSimpArgs false
set_option linter.unusedVariables false
open Go Go.Sx Go.Proofs
namespace Go.Proofs.Ytgcbhanfhnianaa.Tp
open Go.Proofs.Ytgcbhanfhnianaa.D Go.Proofs.Ytgcbhanfhnianaa.Tr Go.Proofs.Ytgcbhanfhnianaa.Fu Go.Proofs.Ytgcbhanfhnianaa.Sw Go.Proofs.Ytgcbhanfhnianaa.Ah Go.Proofs.Ytgcbhanfhnianaa.Ps Go.Proofs.Ytgcbhanfhnianaa.Od Go.Proofs.Ytgcbhanfhnianaa.St Go.Proofs.Ytgcbhanfhnianaa.Rc
inductive Eqv : List Ev → List Ev → Prop
  | refl (l : List Ev) : Eqv l l
  | swap {a b : Ev} (xs ys : List Ev) : apartB a b = true → Eqv (xs ++ a :: b :: ys) (xs ++ b :: a :: ys)
  | trans {l m n : List Ev} : Eqv l m → Eqv m n → Eqv l n
theorem Eqv.cons {l m : List Ev} (x : Ev) (h : Eqv l m) : Eqv (x :: l) (x :: m) := by
  induction h with
  | refl l => exact .refl _
  | swap xs ys h => exact .swap (x :: xs) ys h
  | trans _ _ h1 h2 => exact .trans h1 h2
section
variable {xs ys : List Ev} {a b : Ev} (h : apartB a b = true)
include h
end
def s1 (f : Nat → Nat) : Nat → Nat
  | 0 => 0
  | n + 1 => s1 f n + f n
theorem s1_congr {f g : Nat → Nat} : ∀ {n : Nat}, (∀ i, i < n → f i = g i) → s1 f n = s1 g n
  | 0, _ => rfl
  | n + 1, h => by rw [s1, s1, s1_congr fun i hi => h i (by omega), h n (Nat.lt_succ_self _)]
end Go.Proofs.Ytgcbhanfhnianaa.Tp
