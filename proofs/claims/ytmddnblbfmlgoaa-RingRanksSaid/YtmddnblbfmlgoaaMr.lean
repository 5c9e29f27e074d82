/- The memory of a list of lists that grows. Conditions: none. -/
import Derived.Test.YtmddnblbfmlgoaaBase
set_option linter.unusedSimpArgs false
set_option linter.unusedVariables false
open Go Go.Sx
namespace Go.Proofs.Ytmddnblbfmlgoaa.Mr
open Go.Proofs.Ytmddnblbfmlgoaa.D
theorem killL_is (i : Nat) : ∀ l : List SV, killL i l = l.map (kill i)
  | [] => rfl
  | x :: l => by rw [killL, killL_is i l]; rfl
section
variable {α : Type} {T U : TypeId} {w : Nat} {d : DT α} {L : List (List α)}
def mr (T U : TypeId) (w : Nat) (d : DT α) (L : List (List α)) : List Res :=
  .vec T 1 (tb L.length fun k => .vec (k + 1) (L.getD k []).length) :: L.map fun r => .vec U w (r.map d.emb)
theorem mr_len : (mr T U w d L).length = L.length + 1 := by simp [mr]
theorem mr_start : [Res.vec T 1 []] = mr T U w d [] := rfl
theorem mr_at0 (x : List Res) : memAt (mr T U w d L ++ x) 0 = .vec T 1 (tb L.length fun k => .vec (k + 1) (L.getD k []).length) := rfl
theorem mr_at0' : memAt (mr T U w d L) 0 = .vec T 1 (tb L.length fun k => .vec (k + 1) (L.getD k []).length) := rfl
theorem mr_new_at (x : Res) (y : List Res) : memAt (mr T U w d L ++ x :: y) (L.length + 1) = x := by
  unfold memAt
  rw [List.getD, List.getElem?_append_right (by rw [mr_len]; exact Nat.le_refl _), mr_len]
  simp
theorem mr_new_at2 (x y : Res) (z : List Res) : memAt (mr T U w d L ++ x :: y :: z) (L.length + 1 + 1) = y := by
  unfold memAt
  rw [List.getD, List.getElem?_append_right (by rw [mr_len]; omega), mr_len]
  simp [show L.length + 1 + 1 - (L.length + 1) = 1 by omega]
theorem mr_new_at3 (x y z : Res) (v : List Res) : memAt (mr T U w d L ++ x :: y :: z :: v) (L.length + 1 + 1 + 1) = z := by
  unfold memAt
  rw [List.getD, List.getElem?_append_right (by rw [mr_len]; omega), mr_len]
  simp [show L.length + 1 + 1 + 1 - (L.length + 1) = 2 by omega]
theorem mr_new_set (x z : Res) (y : List Res) : (mr T U w d L ++ x :: y).set (L.length + 1) z = mr T U w d L ++ z :: y := by
  rw [List.set_append_right _ _ (by rw [mr_len]; exact Nat.le_refl _), mr_len]
  simp
theorem mr_more {r : List α} {n : Nat} (hn : n = r.length) (y : List Res) : (mr T U w d L ++ (.vec U w (r.map d.emb) :: y)).set 0 (.vec T 1 ((tb L.length fun k => SV.vec (k + 1) (L.getD k []).length) ++ [.vec (L.length + 1) n])) = mr T U w d (L ++ [r]) ++ y := by
  subst hn
  simp only [mr, List.cons_append, List.set_cons_zero, List.map_append, List.append_assoc, List.length_append, List.length_cons, List.length_nil, tb_snoc]
  congr 2
  congr 1
  · refine tb_congr fun i hi => ?_
    congr 2
    simp [List.getD, List.getElem?_append_left hi]
  · simp [List.getD]
theorem mr_kill {i : Nat} (hi : i = 0 ∨ L.length < i) : (mr T U w d L).map (killR i) = mr T U w d L := by
  simp only [mr, List.map_cons, killR, List.map_map]
  congr 1
  · congr 1
    rw [killL_is]
    unfold tb
    rw [List.map_map]
    refine List.map_congr_left fun k hk => ?_
    have := List.mem_range.1 hk
    simp only [Function.comp, kill]
    rw [if_neg (by omega)]
  · refine List.map_congr_left fun r _ => ?_
    simp only [Function.comp, killR]
    rw [killL_is, List.map_map]
    congr 1
    exact List.map_congr_left fun x _ => d.kill i x
theorem mr_kill0 : (mr T U w d L).map (killR 0) = mr T U w d L := mr_kill (.inl rfl)
theorem mr_kill1 : (mr T U w d L).map (killR (L.length + 1)) = mr T U w d L := mr_kill (.inr (Nat.lt_succ_self _))
theorem mr_killtb {n : Nat} {f : Nat → Nat} : killL 0 (tb n fun k => SV.vec (k + 1) (f k)) = tb n fun k => SV.vec (k + 1) (f k) := by
  rw [killL_is]
  unfold tb
  rw [List.map_map]
  refine List.map_congr_left fun k hk => ?_
  simp only [Function.comp, kill]
  rw [if_neg (by omega)]
theorem mr_trim {k : Nat} (hk : k = L.length + 1) (y : List Res) : (List.take k (mr T U w d L ++ y)).map (renR (ltI k)) = mr T U w d L := by
  have h1 : (mr T U w d L ++ y).take k = mr T U w d L := by rw [List.take_append_of_le_length (by rw [mr_len]; omega)]; exact List.take_of_length_le (by rw [mr_len]; omega)
  rw [h1]
  simp only [mr, List.map_cons, renR, tb_renL, List.map_map]
  congr 1
  · congr 1
    refine tb_congr fun i hi => ?_
    simp [ren, renI, ltI, show i + 1 < k by omega]
  · refine List.map_congr_left fun r _ => ?_
    simp only [Function.comp, renR, dt_renL]
theorem mr_trim' {k : Nat} (hk : k = L.length + 1) : (List.take k (mr T U w d L)).map (renR (ltI k)) = mr T U w d L := by
  have := mr_trim (T := T) (U := U) (w := w) (d := d) hk []
  rwa [List.append_nil] at this
theorem mr_row {i : Nat} (hi : i < L.length) : memAt (mr T U w d L) (i + 1) = .vec U w ((L.getD i []).map d.emb) := by
  simp [memAt, mr, List.getD, hi]
theorem mr_decP : allL (tb L.length fun k => SV.vec (k + 1) (L.getD k []).length) fun y => (DT.list w d).decP (mr T U w d L) y := by
  intro y hy
  obtain ⟨i, hi, rfl⟩ := List.getElem_of_mem hy
  rw [tb_len] at hi
  have e : (tb L.length fun k => SV.vec (k + 1) (L.getD k []).length)[i]'(by rw [tb_len]; exact hi) = .vec (i + 1) (L.getD i []).length := by
    have := tb_get? (f := fun k => SV.vec (k + 1) (L.getD k []).length) (n := L.length) i
    rw [if_pos hi] at this
    exact (List.getElem?_eq_some_iff.1 this).2
  rw [e, list_decP_vec, mr_row hi]
  refine ⟨rfl, ?_⟩
  rw [allL_map]
  exact fun y _ => d.pE _ y
theorem mr_decV : (tb L.length fun k => SV.vec (k + 1) (L.getD k []).length).map (fun y => (DT.list w d).decV (mr T U w d L) y) = L := by
  rw [tb_map]
  conv => rhs; rw [tb_of L []]
  refine tb_congr fun i hi => ?_
  rw [list_decV_vec, mr_row hi]
  simp only [List.map_map]
  have : ((fun y => d.decV (mr T U w d L) y) ∘ d.emb) = id := by funext y; exact d.vE _ y
  rw [this, List.map_id]
end
end Go.Proofs.Ytmddnblbfmlgoaa.Mr
