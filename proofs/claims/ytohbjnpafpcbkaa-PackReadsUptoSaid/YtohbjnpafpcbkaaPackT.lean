/- Both ways of reading agree. Conditions: the string is at most 1048576 long. -/
import Derived.Test.YtohbjnpafpcbkaaPackS
set_option linter.unusedSimpArgs false
set_option linter.unusedVariables false
set_option maxRecDepth 100000
open Go Go.Sx Go.Proofs
namespace Go.Proofs.Ytohbjnpafpcbkaa.Pk
open Go.Proofs.Ytohbjnpafpcbkaa.D Go.Proofs.Ytohbjnpafpcbkaa.Tr
theorem kind_agr : ∀ a : Fin 256, IntKind.i64.wrap (IntKind.i64.wrap (bitAnd .u8 ((a.val : Nat) : Int) 7) + 1) = IntKind.i64.wrap ((IntKind.i64.wrap ((a.val : Nat) : Int)).tmod 8 + 1) ∧
    IntKind.i64.wrap (((a.val : Nat) : Int).fdiv (2 ^ (min 3 8))) = IntKind.i64.wrap ((IntKind.i64.wrap ((a.val : Nat) : Int)).tdiv 8) := by decide +kernel
theorem ev_eq (a b : UInt8) : evC a b = evD a b := by
  have h := kind_agr ⟨a.toNat, a.toNat_lt⟩
  simp only at h
  rw [evC, evD, h.1, h.2]
theorem evs_eq (b : List UInt8) : ∀ k, evsC b k = evsD b k
  | 0 => rfl
  | k + 1 => by rw [evsC, evsD, evs_eq b k, ev_eq]
theorem sum_nat' : ∀ (bs : List Int) (a : Nat), (∀ n ∈ bs, 0 ≤ n ∧ n < 256) → a + 256 * bs.length ≤ 1000000000000 → ∃ s : Nat, bs.foldl addW a = s ∧ s ≤ a + 256 * bs.length
  | [], a, _, _ => ⟨a, rfl, by simp⟩
  | n :: r, a, h, hb => by
    have hn := h n (by simp)
    simp only [List.length_cons] at hb
    have e : addW a n = ((a + n.toNat : Nat) : Int) := by
      unfold addW
      rw [IntWalk.i64_in n (by omega), IntWalk.i64_in _ (by omega)]
      omega
    obtain ⟨s, h1, h2⟩ := sum_nat' r (a + n.toNat) (fun x hx => h x (by simp [hx])) (by omega)
    exact ⟨s, by rw [List.foldl_cons, e, h1], by simp only [List.length_cons]; omega⟩
theorem tail_agr (b : List UInt8) (hb : b.length ≤ 1048576) : [chrB ((sumW (toI b)).fdiv (2 ^ (min 8 64))), chrB (sumW (toI b))] = [chrB ((IntKind.i64.wrap ((sumW (toI b)).tdiv 256)).tmod 256), chrB ((sumW (toI b)).tmod 256)] := by
  obtain ⟨s, h1, h2⟩ := sum_nat' (toI b) 0 (by
    intro n hn
    simp only [toI, List.mem_map] at hn
    obtain ⟨x, _, rfl⟩ := hn
    have := x.toNat_lt
    omega) (by simp only [toI, List.length_map]; omega)
  have hl : (toI b).length = b.length := by simp [toI]
  have h1' : sumW (toI b) = (s : Nat) := h1
  rw [h1']
  have d1 : ((s : Nat) : Int).tdiv 256 = ((s / 256 : Nat) : Int) := by
    rw [Int.tdiv_eq_ediv_of_nonneg (by omega)]; omega
  have d2 : ((s : Nat) : Int).fdiv (2 ^ (min 8 64)) = ((s / 256 : Nat) : Int) := by
    rw [Int.fdiv_eq_ediv_of_nonneg _ (by decide)]
    show ((s : Nat) : Int) / 256 = _
    omega
  have d3 : ∀ n : Nat, ((n : Nat) : Int).tmod 256 = ((n % 256 : Nat) : Int) := by
    intro n; rw [Int.tmod_eq_emod_of_nonneg (by omega)]; omega
  rw [d1, IntWalk.i64_in _ (by omega), d3, d3, d2]
  simp only [chrB, u8_nat, Nat.mod_mod]
theorem reads (s : List UInt8) (hB : s.length ≤ big) : readF s = rreadF s := by
  unfold big at hB
  rw [readF, rreadF]
  split
  · rfl
  rename_i h4
  have hl : (mainC s).length ≤ 1048576 := by simp only [mainC, List.length_take]; omega
  have ht : (mainC s ++ [chrB ((sumW (toI (mainC s))).fdiv (2 ^ (min 8 64))), chrB (sumW (toI (mainC s)))] = s) ↔ s.drop (s.length - 2) = tailD s := by
    rw [tail_agr _ hl, ← tailD]
    have e : s = mainC s ++ s.drop (s.length - 2) := (List.take_append_drop _ _).symm
    constructor
    · intro h
      have h' := h.trans e
      exact (List.append_cancel_left h').symm
    · intro h
      rw [← h]
      exact e.symm
  have ho : outC s = outD s := evs_eq _ _
  simp only [ht, ho, packs]
end Go.Proofs.Ytohbjnpafpcbkaa.Pk
