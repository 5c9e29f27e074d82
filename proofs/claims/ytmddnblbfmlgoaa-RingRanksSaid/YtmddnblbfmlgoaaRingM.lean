/- The first ring among all rows is the one that is found step by step. Conditions: none. -/
import Derived.Test.YtmddnblbfmlgoaaRingR
set_option linter.unusedSimpArgs false
set_option linter.unusedVariables false
open Go Go.Sx Go.Proofs
namespace Go.Proofs.Ytmddnblbfmlgoaa.Rg
open Go.Proofs.Ytmddnblbfmlgoaa.D Go.Proofs.Ytmddnblbfmlgoaa.Hs Go.Proofs.Ytmddnblbfmlgoaa.Pg
/-- One more at the end. -/
def oneMore (r : List Int) : List (List Int) := rowK r 5
/-- All that a row goes on to. -/
def extL : Nat → List Int → List (List Int)
  | 0, row => [row]
  | n + 1, row => (oneMore row).flatMap (extL n)
theorem ext_snoc : ∀ (n : Nat) (row : List Int), extL (n + 1) row = (extL n row).flatMap oneMore
  | 0, row => by simp [extL]
  | n + 1, row => by
    rw [extL, extL]
    have : extL (n + 1) = fun r => (extL n r).flatMap oneMore := funext (ext_snoc n)
    rw [this, List.flatMap_assoc]
theorem rowsTo_is {L : List (List Int)} : ∀ {i : Nat}, i ≤ L.length → rowsTo L i = (L.take i).flatMap oneMore
  | 0, _ => by simp [rowsTo]
  | i + 1, h => by
    rw [rowsTo, rowsTo_is (by omega), take_getD [] (by omega), List.flatMap_append]
    simp [oneMore]
theorem rows_ext : ∀ n, rowsR n = extL n []
  | 0 => rfl
  | n + 1 => by rw [rowsR, rowsTo_is (Nat.le_refl _), List.take_length, rows_ext n, ext_snoc]
/-- The first one, over a join of lists. -/
theorem first_append {f : List Int → Bool} : ∀ {a b : List (List Int)}, firstR f (a ++ b) = match firstR f a with | some r => some r | none => firstR f b
  | [], b => rfl
  | x :: a, b => by
    rw [List.cons_append, firstR, firstR]
    by_cases h : f x = true
    · simp [h]
    · simp only [h, Bool.false_eq_true, if_false]
      exact first_append
theorem first_congr {f g : List Int → Bool} : ∀ {L : List (List Int)}, (∀ r, r ∈ L → f r = g r) → firstR f L = firstR g L
  | [], _ => rfl
  | x :: L, h => by rw [firstR, firstR, h x (List.mem_cons_self ..), first_congr fun r hr => h r (List.mem_cons_of_mem _ hr)]
theorem first_none {f : List Int → Bool} : ∀ {L : List (List Int)}, (∀ r, r ∈ L → f r = false) → firstR f L = none
  | [], _ => rfl
  | x :: L, h => by rw [firstR, h x (List.mem_cons_self ..), first_none fun r hr => h r (List.mem_cons_of_mem _ hr)]; rfl
theorem scan_congr {α : Type} {f g : Nat → Option α} : ∀ {n k : Nat}, (∀ j, k ≤ j → j < k + n → f j = g j) → scan f k n = scan g k n
  | 0, _, _ => rfl
  | n + 1, k, h => by
    rw [scan, scan, h k (Nat.le_refl _) (by omega), scan_congr (n := n) fun j h1 h2 => h j (by omega) (by omega)]
theorem scan_snoc {α : Type} {f : Nat → Option α} : ∀ {n k : Nat}, scan f k (n + 1) = match scan f k n with | some r => some r | none => f (k + n)
  | 0, k => by rw [scan, scan, scan]; cases f k <;> simp
  | n + 1, k => by
    rw [scan]
    cases hf : f k with
    | some r => simp [scan, hf]
    | none =>
      simp only
      rw [scan_snoc (n := n), scan, hf]
      simp only [show k + 1 + n = k + (n + 1) by omega]
/-- Over the rows with one more: one after the other. -/
theorem first_rowK {f : List Int → Bool} {G : List Int → List (List Int)} {r : List Int} : ∀ k, firstR f ((rowK r k).flatMap G) = scan (fun j => if hasI r j = true then none else firstR f (G (r ++ [(j : Int)]))) 0 k
  | 0 => rfl
  | k + 1 => by
    rw [rowK, List.flatMap_append, first_append, first_rowK k, scan_snoc]
    by_cases h : hasI r k = true
    · simp only [h, if_true, List.flatMap_nil, Nat.zero_add, firstR]
      generalize scan _ 0 k = z
      cases z <;> rfl
    · simp [h]
      generalize scan _ 0 k = z
      cases z <;> rfl
/-- What is asked of a row from a place on: its edges, and the last one. -/
def pathB (p : List Pr) (r : List Int) : Nat → Nat → Bool
  | i, 0 => gI (gOf p) (r.getD i 0) (r.getD 0 0)
  | i, n + 1 => gI (gOf p) (r.getD i 0) (r.getD (i + 1) 0) && pathB p r (i + 1) n
theorem ext_of : ∀ {n : Nat} {row x : List Int}, x ∈ extL n row → ∃ s, x = row ++ s ∧ s.length = n
  | 0, row, x, h => by
    simp only [extL, List.mem_cons, List.not_mem_nil, or_false] at h
    exact ⟨[], by simp [h], rfl⟩
  | n + 1, row, x, h => by
    rw [extL, List.mem_flatMap] at h
    obtain ⟨y, hy, hx⟩ := h
    obtain ⟨j, hj, rfl⟩ := rowK_of hy
    obtain ⟨s, rfl, hs⟩ := ext_of hx
    exact ⟨(j : Int) :: s, by simp, by simp [hs]⟩
theorem long_first (p : List Pr) : ∀ (n : Nat) (row : List Int), 1 ≤ row.length → longF (gOf p) n row = firstR (fun r => pathB p r (row.length - 1) n) (extL n row)
  | 0, row, h => rfl
  | n + 1, row, h => by
    rw [longF, extL, oneMore, first_rowK]
    refine scan_congr fun k _ _ => ?_
    have hrk : ∀ x, x ∈ extL n (row ++ [(k : Int)]) → pathB p x (row.length - 1) (n + 1) = (gI (gOf p) (row.getD (row.length - 1) 0) k && pathB p x ((row ++ [(k : Int)]).length - 1) n) := by
      intro x hx
      obtain ⟨s, rfl, hs⟩ := ext_of hx
      rw [pathB]
      have e1 : (row ++ [(k : Int)] ++ s).getD (row.length - 1) 0 = row.getD (row.length - 1) 0 := by
        rw [List.append_assoc, List.getD, List.getElem?_append_left (by omega)]; rfl
      have e2 : (row ++ [(k : Int)] ++ s).getD (row.length - 1 + 1) 0 = (k : Int) := by
        rw [show row.length - 1 + 1 = row.length by omega, List.append_assoc, List.getD, List.getElem?_append_right (Nat.le_refl _)]
        simp
      have e3 : (row ++ [(k : Int)]).length - 1 = row.length - 1 + 1 := by simp; omega
      rw [e1, e2, e3]
    cases hh : hasI row k with
    | true => simp
    | false =>
      cases hg : gI (gOf p) (row.getD (row.length - 1) 0) k with
      | false =>
        rw [if_neg (by simp), if_neg (by simp)]
        exact (first_none fun x hx => by rw [hrk x hx, hg]; rfl).symm
      | true =>
        rw [if_pos (by simp), if_neg (by simp), long_first p n _ (by simp)]
        exact first_congr fun x hx => by rw [hrk x hx, hg]; rfl
/-- The edges of the reference are these. -/
theorem edges_path {p : List Pr} {r : List Int} {m : Nat} (hr : okRow r) (hl : r.length = m + 1) : edgesB p r (m + 1) (m + 1) = pathB p r 0 m := by
  have he : ∀ i, i < m → edgeB p r (m + 1) i = gI (gOf p) (r.getD i 0) (r.getD (i + 1) 0) := fun i hi => by
    have h1 := hr _ (getD_mem (l := r) (i := i) (d := 0) (by omega))
    have h2 := hr _ (getD_mem (l := r) (i := i + 1) (d := 0) (by omega))
    rw [edgeB, Nat.mod_eq_of_lt (by omega), gI, gOf]
    congr 2 <;> omega
  have hlast : edgeB p r (m + 1) m = gI (gOf p) (r.getD m 0) (r.getD 0 0) := by
    have h1 := hr _ (getD_mem (l := r) (i := m) (d := 0) (by omega))
    have h2 := hr _ (getD_mem (l := r) (i := 0) (d := 0) (by omega))
    rw [edgeB, Nat.mod_self, gI, gOf]
    congr 2 <;> omega
  have key : ∀ n i, i + n = m → (edgesB p r (m + 1) i && pathB p r i n) = edgesB p r (m + 1) (m + 1) := by
    intro n
    induction n with
    | zero =>
      intro i hi
      obtain rfl : i = m := by omega
      rw [edgesB, hlast, pathB]
    | succ n ih =>
      intro i hi
      rw [← ih (i + 1) (by omega), edgesB, he i (by omega), pathB, Bool.and_assoc]
  rw [← key m 0 (by omega), edgesB, Bool.true_and]
theorem ref_ring (p : List Pr) : refRing p = ringG (gOf p) := by
  unfold refRing ringG
  refine scan_congr fun m _ hm => ?_
  have h1 : firstR (fun r => edgesB p r (m + 1) (m + 1)) (rowsR (m + 1)) = firstR (fun r => pathB p r 0 m) (rowsR (m + 1)) := first_congr fun r hr => edges_path (rowsR_of hr).2 (rowsR_of hr).1
  rw [h1, rows_ext, extL, oneMore, first_rowK]
  refine scan_congr fun k _ _ => ?_
  rw [if_neg (by simp [hasI]), long_first p m _ (by simp)]
  rfl
theorem bad_same (x : Pr) : badRR x = badPr x := by
  unfold badRR badPr outB
  have e1 : decide ((4 : Int) < x.a) = decide (5 ≤ x.a) := decide_eq_decide.2 (by omega)
  have e2 : decide ((4 : Int) < x.b) = decide (5 ≤ x.b) := decide_eq_decide.2 (by omega)
  rw [e1, e2, Bool.or_assoc (decide (x.a < 0) || decide (5 ≤ x.a))]
theorem ring_same (p : List Pr) : rrRing p = rRing p ∧ rrErr p = rErr p := by
  have : badRR = badPr := funext bad_same
  unfold rrRing rRing rrErr rErr
  rw [this, ref_ring]
  exact ⟨rfl, rfl⟩
end Go.Proofs.Ytmddnblbfmlgoaa.Rg
