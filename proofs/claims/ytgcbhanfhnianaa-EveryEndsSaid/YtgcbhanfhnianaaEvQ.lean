/- The library's sort at ends, ordered as every.order has it. Conditions: none. -/
import Derived.Test.YtgcbhanfhnianaaEvK
import Derived.Test.YtgcbhanfhnianaaSx47
import Derived.Test.YtgcbhanfhnianaaShSortF
import Derived.Shelf.SlSortCmp.NoneTotal
set_option linter.unusedSimpArgs false
set_option linter.unusedVariables false
set_option maxRecDepth 100000
open Go Go.Sx Go.Proofs
namespace Go.Proofs.Ytgcbhanfhnianaa.Ev
open Go.Proofs.Ytgcbhanfhnianaa.D Go.Proofs.Ytgcbhanfhnianaa.Pg Go.Proofs.Ytgcbhanfhnianaa.Tr Go.Proofs.Ytgcbhanfhnianaa.Rn Go.Proofs.Ytgcbhanfhnianaa.Cp Go.Proofs.Ytgcbhanfhnianaa.Rc
instance : Inhabited En := ⟨dEn.dft⟩
def encE (x : En) : List Value := (rng 8).map (fun i => .int .i64 (x.mem i)) ++ ((rng 4).map (fun i => .int .i64 (x.vols i)) ++ ((rng 6).map (fun i => .int .i64 (x.has i)) ++ [.bool x.done, .bool x.stuck]))
theorem encE_len (x : En) : (encE x).length = 20 := by simp [encE, rng_len]
theorem encE_one (x : En) : ∀ v ∈ encE x, v.oneCell' = true := by
  intro v hv
  simp only [encE, List.mem_append, List.mem_map, List.mem_cons, List.not_mem_nil, or_false] at hv
  rcases hv with ⟨_, _, rfl⟩ | ⟨_, _, rfl⟩ | ⟨_, _, rfl⟩ | rfl | rfl <;> rfl
theorem arr_sat {n : Nat} {f : Nat → Int} {ε : Env} {cs : List Value} : SatC (.arr n 1 fun i => .int .i64 (f i)) ε cs ↔ cs = (rng n).map fun i => .int .i64 (f i) := by
  simp only [SatC, Nat.mul_one]
  constructor
  · rintro ⟨h1, h2⟩
    apply List.ext_getElem?
    intro i
    by_cases hi : i < n
    · have := congrArg (fun l : List Value => l[0]?) (h2 i hi)
      simp only [sub, List.getElem?_take, Nat.lt_one_iff, if_true, List.getElem?_drop, Nat.add_zero, List.getElem?_cons_zero] at this
      rw [this]
      simp [rng, hi]
    · rw [List.getElem?_eq_none (by omega), List.getElem?_eq_none (by rw [List.length_map, rng_len]; omega)]
  · rintro rfl
    refine ⟨by rw [List.length_map, rng_len], fun i hi => ?_⟩
    unfold sub
    rw [List.drop_eq_getElem_cons (by rw [List.length_map, rng_len]; exact hi)]
    simp [rng]
theorem encE_sat (x : En) (ε : Env) (cs : List Value) : SatC (dEn.emb x) ε cs ↔ cs = encE x := by
  rw [en_emb]
  have e : SatC (.agg [.arr 8 1 fun i => .int .i64 (x.mem i), .arr 4 1 fun i => .int .i64 (x.vols i), .arr 6 1 fun i => .int .i64 (x.has i), .bool x.done, .bool x.stuck]) ε cs ↔
      SatL [.arr 8 1 fun i => .int .i64 (x.mem i), .arr 4 1 fun i => .int .i64 (x.vols i), .arr 6 1 fun i => .int .i64 (x.has i), .bool x.done, .bool x.stuck] ε cs := by rw [SatC]
  rw [e]
  constructor
  · rintro ⟨a, b, rfl, h1, c, d, rfl, h2, e, f, rfl, h3, g, h, rfl, h4, i, j, rfl, h5, h6⟩
    rw [arr_sat.1 h1, arr_sat.1 h2, arr_sat.1 h3]
    have h4 : g = [.bool x.done] := h4
    have h5 : i = [.bool x.stuck] := h5
    have h6 : j = [] := h6
    subst h4; subst h5; subst h6
    rfl
  · rintro rfl
    exact ⟨_, _, rfl, arr_sat.2 rfl, _, _, rfl, arr_sat.2 rfl, _, _, rfl, arr_sat.2 rfl, [.bool x.done], [.bool x.stuck], rfl, rfl, [.bool x.stuck], [], rfl, rfl, rfl⟩
theorem lt_less (x y : En) : ltOf ordE x y = lessE x y := (lessE_ord x y).symm
theorem swoE : Go.Sort.SWO (ltOf ordE) where
  irrefl x := by rw [lt_less]; exact lessE_irr x
  trans x y z h1 h2 := by rw [lt_less] at *; exact lessE_trans h1 h2
  ntrans x y z h1 h2 := by rw [lt_less] at *; exact lessE_ntrans h1 h2
theorem order_lays (blk off size : Nat) (w : World) : CmpLays Try.prog 78 #[] encE 20 ordE blk off size w := by
  intro m os dk _ x y
  have h := fn_grown (f_order x y) (Go.Proofs.sortWorldK encE 20 w blk off m dk os) (vs := [.agg (encE x).toArray, .agg (encE y).toArray]) ⟨encE x, _, rfl, (encE_sat _ _ _).2 rfl, encE y, _, rfl, (encE_sat _ _ _).2 rfl, rfl⟩
  exact h.mono fun e w' ⟨⟨v, ε, he, hv⟩, hw⟩ => ⟨by rw [he, sat_int hv], hw⟩
theorem sort_at {L R : List En} (hT : TotE L) (hR : Srt R) (hm : ∀ x, x ∈ R ↔ x ∈ L) (hl : L.length < 4611686018427387904) (b cap : Nat) (w : World) (hH : Go.Sort.HoldsK encE 20 w b 0 L.toArray) (hb : b < w.heap.size) :
    Calls Try.prog 77 #[.slice (some ⟨b, 0, none⟩) L.toArray.size cap, .func (.func 78) #[] #[]] w fun e w' => e = .returned (.tuple #[]) ∧ ∃ q os, w' = Go.Proofs.sortWorldK encE 20 w b 0 q R.toArray os := by
  have key := AnyQ.slices_SortFunc (P := Try.prog) (ρ := Sh.laysSortF_ren) Sh.laysSortF 20 Try.isAgg28 Try.sizeOf28 encE encE_len encE_one ordE swoE 78 #[] b 0 cap L.toArray w
    (enters_of Try.func78 (by kernel_rfl) rfl) (order_lays b 0 _ w) hH hb (by simpa using hl)
  refine key.mono fun e w' ⟨he, d', n, os, hp, hsd, hw⟩ => ⟨he, n, os, ?_⟩
  have hd : d' = R.toArray := by
    obtain ⟨p1, p2, p3⟩ := hp
    have p3 : d'.toList.Perm L := by
      rw [show (L.toArray.size : Nat) = L.length from List.size_toArray ..] at p1 p3
      have e1 : d'.extract 0 L.length = d' := by rw [← p1]; exact Array.extract_size
      have e2 : L.toArray.extract 0 L.length = L.toArray := by
        have := Array.extract_size (xs := L.toArray)
        rwa [List.size_toArray] at this
      rw [e1, e2] at p3
      exact p3
    have hnd : d'.toList.Nodup := p3.nodup_iff.2 hT.1
    have hs : Srt d'.toList := by
      refine List.pairwise_iff_getElem.2 fun i j hi hj hij => ?_
      have hj' : j < d'.size := by simpa using hj
      have hi' : i < d'.size := by simpa using hi
      have h := hsd i j (Nat.zero_le _) hij (by rw [← p1]; exact hj')
      rw [lt_less, getElem!_pos d' j hj', getElem!_pos d' i hi'] at h
      have hne : d'[i] ≠ d'[j] := fun e => by
        have := nodup_at hnd hi hj (by simpa using e)
        omega
      have m1 : d'[i] ∈ L := p3.mem_iff.1 (by simp)
      have m2 : d'[j] ∈ L := p3.mem_iff.1 (by simp)
      rcases hT.2 _ m1 _ m2 hne with g | g
      · simpa using g
      · rw [g] at h; cases h
    have := srt_unique hs hR fun x => by rw [p3.mem_iff, hm]
    rw [← this]
  rw [← hd]
  exact hw
end Go.Proofs.Ytgcbhanfhnianaa.Ev
