/- The reference of full. Conditions: none. -/
import Derived.Test.YtgcbhanfhnianaaRacesR
import Derived.Test.YtgcbhanfhnianaaBase
import Derived.Test.YtgcbhanfhnianaaRows
import Derived.WalkKit
import Derived.Test.YtgcbhanfhnianaaFullC
section
set_option linter.unusedSimpArgs false
set_option linter.unusedVariables false
set_option maxRecDepth 100000
open Go Go.Sx Go.Proofs
namespace Go.Proofs.Ytgcbhanfhnianaa.Fu
open Go.Proofs.Ytgcbhanfhnianaa.D Go.Proofs.Ytgcbhanfhnianaa.Tr Go.Proofs.Ytgcbhanfhnianaa.Rc
def isSt (e : Ev) : Bool := decide (e.kind = 4) || decide (e.kind = 5) || decide (e.kind = 8)
end Go.Proofs.Ytgcbhanfhnianaa.Fu
end
section
set_option linter.unusedSimpArgs false
set_option linter.unusedVariables false
open Go Go.Sx Go.Proofs
namespace Go.Proofs.Ytgcbhanfhnianaa.Fu
open Go.Proofs.Ytgcbhanfhnianaa.D Go.Proofs.Ytgcbhanfhnianaa.Tr Go.Proofs.Ytgcbhanfhnianaa.Ah Go.Proofs.Ytgcbhanfhnianaa.Ps Go.Proofs.Ytgcbhanfhnianaa.Od Go.Proofs.Ytgcbhanfhnianaa.St Go.Proofs.Ytgcbhanfhnianaa.Rc
def cs (l : List Ev) (t : Nat) : Nat → Nat
  | 0 => 0
  | i + 1 => cs l t i + if isSt (at' l i) = true ∧ (at' l i).thr.toNat = t then 1 else 0
section
variable {l : List Ev}
end
section
variable {l : List Ev} (hok : (checkR l).2 = 0)
include hok
end
structure FI (l : List Ev) (j : Nat) (k : Kp) : Prop where
  c1 : ∀ t u i, t < 6 → u < 6 → i < j → (at' l i).thr.toNat = u → ((1 + cs l u i : Int) ≤ k.thr t u ↔ TS l j t i)
  c2 : ∀ m u i, m < 5 → u < 6 → i < j → (at' l i).thr.toNat = u → ((1 + cs l u i : Int) ≤ k.lk m u ↔ LS l j m i)
  c3 : ∀ m u i, m < 4 → u < 6 → i < j → (at' l i).thr.toNat = u → ((1 + cs l u i : Int) ≤ k.vl m u ↔ VS l j m i)
  own : ∀ t, t < 6 → k.thr t t = 1 + cs l t j
  s1 : ∀ t u : Nat, t < 6 → u < 6 → u ≠ t → didB (l.take j) 6 u = false → k.thr t u < 1 + cs l u j
  s2 : ∀ m u : Nat, m < 5 → u < 6 → didB (l.take j) 6 u = false → k.lk m u < 1 + cs l u j
  s3 : ∀ m u : Nat, m < 4 → u < 6 → didB (l.take j) 6 u = false → k.vl m u < 1 + cs l u j
  l1 : ∀ t u, t < 6 → u < 6 → 0 ≤ k.thr t u ∧ k.thr t u ≤ 1 + cs l u j
  l2 : ∀ m u, m < 5 → u < 6 → 0 ≤ k.lk m u ∧ k.lk m u ≤ 1 + cs l u j
  l3 : ∀ m u, m < 4 → u < 6 → 0 ≤ k.vl m u ∧ k.vl m u ≤ 1 + cs l u j
section
variable {l : List Ev} (hok : (checkR l).2 = 0) {j : Nat} (hj : j < l.length) {k : Kp} (h : FI l j k)
include hok hj h
end
section
variable {l : List Ev} (hok : (checkR l).2 = 0) {j : Nat} (hj : j < l.length) {k : Kp} (h : FI l j k)
include hok hj h
end
end Go.Proofs.Ytgcbhanfhnianaa.Fu
end
section
set_option linter.unusedSimpArgs false
set_option linter.unusedVariables false
open Go Go.Sx Go.Proofs
namespace Go.Proofs.Ytgcbhanfhnianaa.Fu
open Go.Proofs.Ytgcbhanfhnianaa.D Go.Proofs.Ytgcbhanfhnianaa.Tr Go.Proofs.Ytgcbhanfhnianaa.Ah Go.Proofs.Ytgcbhanfhnianaa.Ps Go.Proofs.Ytgcbhanfhnianaa.Od Go.Proofs.Ytgcbhanfhnianaa.St Go.Proofs.Ytgcbhanfhnianaa.Rc
section
variable {l : List Ev} (hok : (checkR l).2 = 0)
include hok
end
section
variable {l : List Ev} (hok : (checkR l).2 = 0)
include hok
end
end Go.Proofs.Ytgcbhanfhnianaa.Fu
end
