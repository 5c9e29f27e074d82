/- The library's Delete at events: three cells each. Conditions: none. -/
import Derived.Test.YtgcbhanfhnianaaRows
import Derived.Test.YtgcbhanfhnianaaSx41
import Derived.Shelf.SlicesE.Kit
import Derived.Shelf.RegionOpenPlain
import Derived.WalkKit
import Derived.Deep.LoopGhost
import Derived.Deep.RegionLaw
import Derived.Lib.Walk
import Derived.Sort.WalkB12
import Derived.Lib.SliceRun
set_option linter.unusedSimpArgs false
set_option linter.unusedVariables false
namespace Go.Proofs.Ytgcbhanfhnianaa.Sh
open Go Go.Sx Go.Shelf Go.Proofs Go.RowKit Go.Lib Go.Sort
set_option maxHeartbeats 4000000 in
set_option maxRecDepth 1000000 in
theorem del_same (b cap n i : Nat) (w : World) (hn : n ≤ cap) (hm : cap ≤ 9223372036854775807) (hi : i ≤ n) :
    Calls Try.prog 151 #[.slice (some ⟨b, 0, none⟩) n cap, .int .i64 i, .int .i64 i] w fun e w' => e = .returned (.slice (some ⟨b, 0, none⟩) n cap) ∧ w' = w := by
  go_enter Try.func151, Try.ntmps151
  go_wp2
  all_goals (go_ret; exact ⟨rfl, rfl⟩)
set_option maxHeartbeats 4000000 in
set_option maxRecDepth 1000000 in
theorem del_cut (b cap n i j : Nat) (w : World) (hn : n ≤ cap) (hm : cap ≤ 9223372036854775807) (hij : i < j) (hj : j ≤ n) (news : List Value)
    (A : Addr) (hA : (if cap = j then some (⟨b, 0, none⟩ : Addr) else some ⟨b, j * 3, none⟩) = some A) (hsrc : Hid (∀ t u, news[t]? = some u → w.drew.cell? (A.add t) = some u))
    (s1 : Hid (news.length = (n - j) * 3)) (s2 : Hid (∀ u ∈ news, u.oneCell' = true))
    (s3 : Hid (∀ t, t < news.length → (w.drew.cell? ⟨b, 0 + i * 3 + t, none⟩).isSome = true ∧ w.drew.frozen? ⟨b, 0 + i * 3 + t, none⟩ = false))
    (W1 : World) (hW : Hid (W1 = w.drew.setCells b (0 + i * 3) news)) (W2 : World)
    (hcl : ∀ ty, (Builtin.clear_ #[29] ty #[.slice (some ⟨b, (i + (n - j)) * 3, none⟩) (n - (i + (n - j))) (cap - (i + (n - j)))]).run Try.prog W1 = .ok (.tuple #[]) W2) :
    Calls Try.prog 151 #[.slice (some ⟨b, 0, none⟩) n cap, .int .i64 i, .int .i64 j] w fun e w' => e = .returned (.slice (some ⟨b, 0, none⟩) (n - (j - i)) cap) ∧ w' = W2 := by
  have hic : i ≤ cap := by omega
  have hjc : j ≤ cap := by omega
  have mixed : Try.prog.follows .mixedOrders = true := by kernel_rfl
  have hinf : Try.prog.info? 35 = some Try.t35 := by kernel_rfl
  go_enter Try.func151, Try.ntmps151
  go_wp2_with fail
  go_region_law_o (refine step_append_room rfl (.tmp 22) (.tmp 25) 29 rfl 35 Try.t35 3 Try.underlying29 hinf rfl b 0 i cap (by simp [Act.eval, Act.put]) A (n - j) (cap - j) news (by simp [Act.eval, Act.put]) s1.out hsrc.out s2.out (by omega) s3.out ?_; rw [← hW.out])
  go_wp2
  go_ret
  exact ⟨by rw [show n - (j - i) = i + (n - j) by omega]; rfl, rfl⟩
theorem zeros_len (k : Nat) : (Builtin.zeroCells (Value.agg #[.int .i64 0, .int .i64 0, .int .i64 0]).cells k).toList.length = k * 3 := by
  simp only [Builtin.zeroCells, Array.length_toList, Array.size_map, Array.size_range]
  rfl
theorem zeros_one (k : Nat) : ∀ v ∈ (Builtin.zeroCells (Value.agg #[.int .i64 0, .int .i64 0, .int .i64 0]).cells k).toList, v.oneCell' = true := by
  intro v hv
  simp only [Builtin.zeroCells, Array.mem_toList_iff, Array.mem_map, Array.mem_range] at hv
  obtain ⟨i, _, rfl⟩ := hv
  have h : i % 3 = 0 ∨ i % 3 = 1 ∨ i % 3 = 2 := by omega
  have e : (Value.agg #[.int .i64 0, .int .i64 0, .int .i64 0]).cells = #[.int .i64 0, .int .i64 0, .int .i64 0] := rfl
  rw [e]
  show (#[Value.int .i64 0, .int .i64 0, .int .i64 0][i % 3]!).oneCell' = true
  rcases h with h | h | h <;> rw [h] <;> rfl
theorem dels3 : Dels Try.prog 151 3 where
  ok := by kernel_rfl
  at1 := by
    intro b cap n i j T cur w hb hcl hcap hn hij hj h1
    have hm : cap ≤ 9223372036854775807 := maxLen_le hcap
    by_cases heq : i = j
    · subst heq
      refine (del_same b cap n i w hn hm hj).mono ?_
      rintro e w' ⟨rfl, rfl⟩
      rw [Nat.sub_self, Nat.sub_zero]
      refine ⟨rfl, World.grownBy.refl _ _, cur, hb, hcl, fun t ht => ?_⟩
      split <;> simp
    · have hlt : i < j := by omega
      obtain ⟨news, hnews⟩ : ∃ news, news = sub cur (j * 3) ((n - j) * 3) := ⟨_, rfl⟩
      have hlen : news.length = (n - j) * 3 := by
        rw [hnews, sub_length]
        omega
      have hget : ∀ t, t < (n - j) * 3 → news[t]? = cur[j * 3 + t]? := by
        intro t ht
        rw [hnews]
        unfold sub
        rw [List.getElem?_take, if_pos ht, List.getElem?_drop]
      obtain ⟨A, hA, hsrc⟩ : ∃ A : Addr, (if cap = j then some (⟨b, 0, none⟩ : Addr) else some ⟨b, j * 3, none⟩) = some A ∧ Hid (∀ t u, news[t]? = some u → w.drew.cell? (A.add t) = some u) := by
        by_cases h : cap = j
        · refine ⟨⟨b, 0, none⟩, by simp [h], fun t u hu => ?_⟩
          have h0 : news.length = 0 := by rw [hlen]; omega
          rw [List.length_eq_zero_iff.1 h0] at hu
          simp at hu
        · refine ⟨⟨b, j * 3, none⟩, by simp [h], fun t u hu => ?_⟩
          have ht : t < (n - j) * 3 := by
            have := (List.getElem?_eq_some_iff.1 hu).1
            rwa [hlen] at this
          rw [hget t ht] at hu
          rw [Addr.add_lit]
          exact (cell_of hb).trans hu
      have s2 : Hid (∀ u ∈ news, u.oneCell' = true) := by
        intro u hu
        obtain ⟨t, ht, e⟩ := List.mem_iff_getElem.1 hu
        have e2 : news[t]? = some u := by rw [List.getElem?_eq_getElem ht, e]
        rw [hget t (by omega)] at e2
        exact h1 _ u (by omega) e2
      have s3 : Hid (∀ t, t < news.length → (w.drew.cell? ⟨b, 0 + i * 3 + t, none⟩).isSome = true ∧ w.drew.frozen? ⟨b, 0 + i * 3 + t, none⟩ = false) := by
        intro t ht
        refine ⟨?_, frozen_of hb⟩
        show (w.cell? _).isSome = true
        rw [cell_of hb, List.getElem?_eq_getElem (by omega)]
        rfl
      obtain ⟨W1, hW1⟩ : ∃ W1, W1 = w.drew.setCells b (0 + i * 3) news := ⟨_, rfl⟩
      have hb1 : W1.heap[b]? = some (.cells (over cur (0 + i * 3) news).toArray T (0, 0)) := by
        rw [hW1]
        exact setCells_heap news (0 + i * 3) w.drew cur hb (by omega)
      have hol : (over cur (0 + i * 3) news).length = cur.length := over_length (by omega)
      obtain ⟨Z, hZ⟩ : ∃ Z, Z = (Builtin.zeroCells (Value.agg #[.int .i64 0, .int .i64 0, .int .i64 0]).cells (n - (i + (n - j)))).toList := ⟨_, rfl⟩
      have hZl : Z.length = (n - (i + (n - j))) * 3 := by rw [hZ]; exact zeros_len _
      have hcl2 : ∀ ty, (Builtin.clear_ #[29] ty #[.slice (some ⟨b, (i + (n - j)) * 3, none⟩) (n - (i + (n - j))) (cap - (i + (n - j)))]).run Try.prog W1 = .ok (.tuple #[]) (W1.setCells b ((i + (n - j)) * 3) Z) :=
        fun ty => run_clear_many W1 _ 35 ty _ Try.underlying29 Try.zeroValue35 Z b _ _ _ (by omega) hZ.symm (by rw [hZ]; exact zeros_one _)
          (fun t ht => by rw [cell_of hb1, List.getElem?_eq_getElem (by omega)]; rfl) (fun t ht => frozen_of hb1)
      refine (del_cut b cap n i j w hn hm hlt hj news A hA hsrc hlen s2 s3 W1 hW1 _ hcl2).mono ?_
      rintro e w' ⟨rfl, rfl⟩
      have hb2 := setCells_heap Z ((i + (n - j)) * 3) W1 _ hb1 (by omega)
      have hg1 : w.grownBy W1 (some b) := by
        rw [hW1]
        exact World.grownBy.trans (⟨rfl, rfl, rfl, Nat.le_refl _, fun _ _ _ => rfl⟩ : w.grownBy w.drew (some b)) (setCells_grown b news (0 + i * 3) w.drew)
      refine ⟨rfl, hg1.trans (setCells_grown b Z _ W1), _, hb2, by rw [over_length (by omega)]; omega, fun t ht => ?_⟩
      rw [over_get (by omega), if_pos (by omega), over_get (by omega)]
      by_cases h3 : t < i * 3
      · rw [if_pos (by omega), if_pos h3]
      · rw [if_neg (by omega), if_pos (by omega), if_neg h3, hget _ (by omega)]
        congr 1; omega
end Go.Proofs.Ytgcbhanfhnianaa.Sh
