/- The reference of full. Conditions: none. -/
import Derived.Test.YtohbjnpafpcbkaaRacesR
import Derived.Test.YtohbjnpafpcbkaaClockJ
import Derived.Test.YtohbjnpafpcbkaaFullC
section
set_option linter.unusedSimpArgs false
set_option linter.unusedVariables false
set_option maxRecDepth 100000
open Go Go.Sx Go.Proofs
namespace Go.Proofs.Ytohbjnpafpcbkaa.Fu
open Go.Proofs.Ytohbjnpafpcbkaa.D Go.Proofs.Ytohbjnpafpcbkaa.Tr Go.Proofs.Ytohbjnpafpcbkaa.Rc
def isSt (e : Ev) : Bool := decide (e.kind = 4) || decide (e.kind = 5) || decide (e.kind = 8)
theorem tszC : tsz Try.prog 68 = some (6, true) := by kernel_rfl
end Go.Proofs.Ytohbjnpafpcbkaa.Fu
end
section
set_option linter.unusedSimpArgs false
set_option linter.unusedVariables false
open Go Go.Sx Go.Proofs
namespace Go.Proofs.Ytohbjnpafpcbkaa.Fu
open Go.Proofs.Ytohbjnpafpcbkaa.D Go.Proofs.Ytohbjnpafpcbkaa.Tr Go.Proofs.Ytohbjnpafpcbkaa.C Go.Proofs.Ytohbjnpafpcbkaa.Ah Go.Proofs.Ytohbjnpafpcbkaa.Ps Go.Proofs.Ytohbjnpafpcbkaa.Od Go.Proofs.Ytohbjnpafpcbkaa.St Go.Proofs.Ytohbjnpafpcbkaa.Rc
/-- How often a thread's own number has risen. -/
def cs (l : List Ev) (t : Nat) : Nat → Nat
  | 0 => 0
  | i + 1 => cs l t i + if isSt (at' l i) = true ∧ (at' l i).thr.toNat = t then 1 else 0
section
variable {l : List Ev}
end
section
variable {l : List Ev} (hok : (checkR l).2 = 0)
include hok
end
/-- What the clocks of full hold. -/
structure FI (l : List Ev) (j : Nat) (k : Kp) : Prop where
  c1 : ∀ t u i, t < 6 → u < 6 → i < j → (at' l i).thr.toNat = u → ((1 + cs l u i : Int) ≤ k.thr t u ↔ TS l j t i)
  c2 : ∀ m u i, m < 5 → u < 6 → i < j → (at' l i).thr.toNat = u → ((1 + cs l u i : Int) ≤ k.lk m u ↔ LS l j m i)
  c3 : ∀ m u i, m < 4 → u < 6 → i < j → (at' l i).thr.toNat = u → ((1 + cs l u i : Int) ≤ k.vl m u ↔ VS l j m i)
  own : ∀ t, t < 6 → k.thr t t = 1 + cs l t j
  s1 : ∀ t u : Nat, t < 6 → u < 6 → u ≠ t → didB (l.take j) 6 u = false → k.thr t u < 1 + cs l u j
  s2 : ∀ m u : Nat, m < 5 → u < 6 → didB (l.take j) 6 u = false → k.lk m u < 1 + cs l u j
  s3 : ∀ m u : Nat, m < 4 → u < 6 → didB (l.take j) 6 u = false → k.vl m u < 1 + cs l u j
  l1 : ∀ t u, t < 6 → u < 6 → 0 ≤ k.thr t u ∧ k.thr t u ≤ 1 + cs l u j
  l2 : ∀ m u, m < 5 → u < 6 → 0 ≤ k.lk m u ∧ k.lk m u ≤ 1 + cs l u j
  l3 : ∀ m u, m < 4 → u < 6 → 0 ≤ k.vl m u ∧ k.vl m u ≤ 1 + cs l u j
section
variable {l : List Ev} (hok : (checkR l).2 = 0) {j : Nat} (hj : j < l.length) {k : Kp} (h : FI l j k)
include hok hj h
end
section
variable {l : List Ev} (hok : (checkR l).2 = 0) {j : Nat} (hj : j < l.length) {k : Kp} (h : FI l j k)
include hok hj h
end
end Go.Proofs.Ytohbjnpafpcbkaa.Fu
end
section
set_option linter.unusedSimpArgs false
set_option linter.unusedVariables false
open Go Go.Sx Go.Proofs
namespace Go.Proofs.Ytohbjnpafpcbkaa.Fu
open Go.Proofs.Ytohbjnpafpcbkaa.D Go.Proofs.Ytohbjnpafpcbkaa.Tr Go.Proofs.Ytohbjnpafpcbkaa.C Go.Proofs.Ytohbjnpafpcbkaa.Ah Go.Proofs.Ytohbjnpafpcbkaa.Ps Go.Proofs.Ytohbjnpafpcbkaa.Od Go.Proofs.Ytohbjnpafpcbkaa.St Go.Proofs.Ytohbjnpafpcbkaa.Rc
section
variable {l : List Ev} (hok : (checkR l).2 = 0)
include hok
end
/-- The races. -/
theorem rowC_mem {l : List Ev} {i : Nat} {r : Rc} : ∀ {n : Nat}, r ∈ rowC l i n ↔ ∃ j, j < n ∧ noRace l i j (at' l i) (at' l j) = false ∧ r = ⟨i, j, (at' l i).obj, rkind (at' l i) (at' l j)⟩
  | 0 => by simp [rowC]
  | n + 1 => by
    have hs : rowC l i (n + 1) = rowC l i n ++ if noRace l i n (at' l i) (at' l n) = true then [] else [⟨i, n, (at' l i).obj, rkind (at' l i) (at' l n)⟩] := rfl
    rw [hs, List.mem_append, rowC_mem (n := n)]
    constructor
    · rintro (⟨j, h1, h2, h3⟩ | h)
      · exact ⟨j, by omega, h2, h3⟩
      · split at h
        · cases h
        · rename_i hn
          simp only [List.mem_cons, List.not_mem_nil, or_false] at h
          exact ⟨n, Nat.lt_succ_self _, by simpa using hn, h⟩
    · rintro ⟨j, h1, h2, h3⟩
      by_cases e : j = n
      · subst e
        refine .inr ?_
        rw [if_neg (by rw [h2]; simp), h3]; simp
      · exact .inl ⟨j, by omega, h2, h3⟩
theorem allC_mem {l : List Ev} {r : Rc} : ∀ {n : Nat}, r ∈ allC l n ↔ ∃ i, i < n ∧ r ∈ rowC l i l.length
  | 0 => by simp [allC]
  | n + 1 => by
    rw [allC, List.mem_append, allC_mem (n := n)]
    constructor
    · rintro (⟨i, h1, h2⟩ | h)
      · exact ⟨i, by omega, h2⟩
      · exact ⟨n, Nat.lt_succ_self _, h⟩
    · rintro ⟨i, h1, h2⟩
      by_cases e : i = n
      · subst e; exact .inr h2
      · exact .inl ⟨i, by omega, h2⟩
section
variable {l : List Ev} (hok : (checkR l).2 = 0)
include hok
end
end Go.Proofs.Ytohbjnpafpcbkaa.Fu
end
