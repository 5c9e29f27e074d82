/- The reference's seconds. Conditions: none. -/
import Derived.Test.YtgcbhanfhnianaaRacesR
import Derived.Test.YtgcbhanfhnianaaBase
import Derived.Test.YtgcbhanfhnianaaRows
import Derived.WalkKit
import Derived.Test.YtgcbhanfhnianaaSortP
set_option linter.unusedSimpArgs false
set_option linter.unusedVariables false
set_option maxRecDepth 100000
open Go Go.Sx Go.Proofs
namespace Go.Proofs.Ytgcbhanfhnianaa.Rc
open Go.Proofs.Ytgcbhanfhnianaa.D Go.Proofs.Ytgcbhanfhnianaa.Tr Go.Proofs.Ytgcbhanfhnianaa.Ah Go.Proofs.Ytgcbhanfhnianaa.Ps Go.Proofs.Ytgcbhanfhnianaa.Od Go.Proofs.Ytgcbhanfhnianaa.St
def secsR (l : List Ev) : List Int := SortP.upTo ((racesF l).map fun r => r.b) l.length
theorem rowC_has {l : List Ev} {i : Nat} {r : Rc} : ∀ {n : Nat}, r ∈ rowC l i n → ∃ j, j < n ∧ noRace l i j (l.getD i dEv.dft) (l.getD j dEv.dft) = false ∧ r = ⟨i, j, (l.getD i dEv.dft).obj, rkind (l.getD i dEv.dft) (l.getD j dEv.dft)⟩
  | 0, h => by simp [rowC] at h
  | n + 1, h => by
    rw [rowC, List.mem_append] at h
    rcases h with h | h
    · obtain ⟨j, h1, h2, h3⟩ := rowC_has h
      exact ⟨j, by omega, h2, h3⟩
    · split at h
      · cases h
      · rename_i hn
        simp only [List.mem_cons, List.not_mem_nil, or_false] at h
        exact ⟨n, Nat.lt_succ_self _, by simpa using hn, h⟩
theorem allC_has {l : List Ev} {r : Rc} : ∀ {n : Nat}, r ∈ allC l n → ∃ i, i < n ∧ r ∈ rowC l i l.length
  | 0, h => by simp [allC] at h
  | n + 1, h => by
    rw [allC, List.mem_append] at h
    rcases h with h | h
    · obtain ⟨i, h1, h2⟩ := allC_has h
      exact ⟨i, by omega, h2⟩
    · exact ⟨n, Nat.lt_succ_self _, h⟩
theorem race_at {l : List Ev} {r : Rc} (h : r ∈ racesF l) : ∃ i j : Nat, i < l.length ∧ j < l.length ∧ r.b = j ∧ r.var = (l.getD i dEv.dft).obj ∧ noRace l i j (l.getD i dEv.dft) (l.getD j dEv.dft) = false := by
  obtain ⟨i, hi, h2⟩ := allC_has h
  obtain ⟨j, hj, h3, h4⟩ := rowC_has h2
  subst h4
  exact ⟨i, j, hi, hj, rfl, rfl, h3⟩
theorem secs_in {l : List Ev} : ∀ z ∈ (racesF l).map (fun r => r.b), 0 ≤ z ∧ z < (l.length : Int) := by
  intro z hz
  obtain ⟨r, hr, rfl⟩ := List.mem_map.1 hz
  obtain ⟨i, j, hi, hj, h1, h2⟩ := race_at hr
  simp only [h1]
  omega
end Go.Proofs.Ytgcbhanfhnianaa.Rc
