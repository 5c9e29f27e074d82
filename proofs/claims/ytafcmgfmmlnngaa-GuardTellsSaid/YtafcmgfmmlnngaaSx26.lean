import Derived.Test.YtafcmgfmmlnngaaSx25
/-! Sx, part 26: rows. -/
set_option linter.unusedVariables false
set_option linter.unusedSimpArgs false
set_option linter.unusedVariables false
namespace Go.Sx
open Go
variable {P : Program}
theorem frz_eps0 (W : World) : (frz (ε0 W) [] W).cl = ε0 W := by
  have h : (frz (ε0 W) [] W).H = (ε0 W).H := by
    funext b
    show (open Classical in if ∃ i, ownR (ε0 W) i (memAt [] i) = some b then W.heap[b]? else (ε0 W).H b) = W.heap[b]?
    split <;> rfl
  show { frz (ε0 W) [] W with n := 0 } = ε0 W
  simp only [ε0, frz] at h ⊢
  rw [h]
theorem satA_conv {α : Type} {A : DA α} {xs : List SV} {W : World} {vs : List Value} (hd : A.decP [] xs) (hs : SatA xs (ε0 W) vs) : SatA (A.emb (A.decV [] xs)) (ε0 W) vs := by
  have := A.ok (good_nil W) hd hs
  rwa [frz_eps0] at this
/-! ### What is handed back holds nothing that is held fast -/
def PlV (x : SV) : Prop := ∀ r, NoH (ren r x)
def PlVs : List SV → Prop
  | [] => True
  | x :: r => PlV x ∧ PlVs r
def PlR (x : Res) : Prop := ∀ r, ResNoH (renR r x)
def PlRs : List Res → Prop
  | [] => True
  | x :: r => PlR x ∧ PlRs r
theorem plV_vec (i n : Nat) : PlV (.vec i n) := fun r => by
  simp only [ren, renI]
  split
  · exact noH_vec _ _
  · exact noH_junk
theorem plV_ptr (i : Nat) (p : List Step) (o : Nat) : PlV (.ptr i p o) := fun r => by
  simp only [ren, renI]
  split
  · exact noH_ptr _ _ _
  · exact noH_junk
theorem plV_int (k : IntKind) (n : Int) : PlV (.int k n) := fun r => noH_int k n
theorem plV_bool (b : Bool) : PlV (.bool b) := fun r => noH_bool b
theorem plV_str (s : List UInt8) : PlV (.str s) := fun r => noH_str s
theorem plV_nils : PlV .nils := fun r _ _ _ _ _ _ h => h
theorem plV_nilp : PlV .nilp := fun r _ _ _ _ _ _ h => h
theorem plV_emb {α : Type} (d : DT α) [h : Flat d] (y : α) : PlV (d.emb y) := fun r => by rw [d.ren]; exact h.noH y
theorem PlVs.mem : ∀ {l : List SV}, PlVs l → ∀ x ∈ l, PlV x
  | [], _, _, h => by cases h
  | y :: l, h, x, hx => by
    rcases List.mem_cons.1 hx with e | e
    · exact e ▸ h.1
    · exact PlVs.mem h.2 x e
theorem PlRs.mem : ∀ {l : List Res}, PlRs l → ∀ x ∈ l, PlR x
  | [], _, _, h => by cases h
  | y :: l, h, x, hx => by
    rcases List.mem_cons.1 hx with e | e
    · exact e ▸ h.1
    · exact PlRs.mem h.2 x e
theorem renL_mem {r : Nat → Option Nat} : ∀ {l : List SV} {x : SV}, x ∈ renL r l → ∃ y ∈ l, x = ren r y
  | [], _, h => by simp [renL] at h
  | y :: l, x, h => by
    simp only [renL, List.mem_cons] at h
    rcases h with rfl | h
    · exact ⟨y, by simp, rfl⟩
    · obtain ⟨z, h1, h2⟩ := renL_mem h
      exact ⟨z, by simp [h1], h2⟩
theorem pv_tup {l : List SV} (h : PlVs l) (r) : NoHV (ren r (.tup l)) := by
  simp only [ren]
  refine noHV_tup fun x hx => ?_
  obtain ⟨y, h1, rfl⟩ := renL_mem hx
  exact h.mem y h1 r
theorem pv_vec (i n : Nat) (r) : NoHV (ren r (.vec i n)) := by
  simp only [ren, renI]
  split
  · exact (noH_vec _ _).val rfl
  · exact noHV_junk
theorem pv_ptr (i : Nat) (p : List Step) (o : Nat) (r) : NoHV (ren r (.ptr i p o)) := by
  simp only [ren, renI]
  split
  · exact (noH_ptr _ _ _).val rfl
  · exact noHV_junk
theorem pv_nils (r) : NoHV (ren r .nils) := NoH.val (x := .nils) (plV_nils r) rfl
theorem plR_vec {α : Type} (T : TypeId) (w : Nat) (d : DT α) [h : Flat d] (l : List α) : PlR (.vec T w (l.map d.emb)) := fun r => by
  simp only [renR, dt_renL, ResNoH]
  intro j hj
  rw [List.length_map] at hj
  have : (l.map d.emb).getD j .junk = d.emb l[j] := by simp [List.getD, hj]
  rw [this]
  exact h.noH _
theorem plR_blk {α : Type} (T : TypeId) (d : DT α) [h : Flat d] (y : α) : PlR (.blk T (d.emb y)) := fun r => by
  simp only [renR, d.ren]
  exact h.noH y
theorem plainM {x : SV} {M : List Res} (h1 : ∀ r, NoHV (ren r x)) (h2 : PlRs M) : PlainM x M := fun r => ⟨h1 r, fun y hy => h2.mem y hy r⟩
end Go.Sx
