import Derived.Test.YtohbjnpafpcbkaaSx25
/-! Sx, part 26: rows. -/
set_option linter.unusedVariables false
set_option linter.unusedSimpArgs false
set_option linter.unusedVariables false
namespace Go.Sx
open Go
variable {P : Program}
theorem frz_eps0 (W : World) : (frz (ε0 W) [] W).cl = ε0 W := by
  have h : (frz (ε0 W) [] W).H = (ε0 W).H := by
    funext b
    show (open Classical in if ∃ i, ownR (ε0 W) i (memAt [] i) = some b then W.heap[b]? else (ε0 W).H b) = W.heap[b]?
    split <;> rfl
  show { frz (ε0 W) [] W with n := 0 } = ε0 W
  simp only [ε0, frz] at h ⊢
  rw [h]
theorem satA_conv {α : Type} {A : DA α} {xs : List SV} {W : World} {vs : List Value} (hd : A.decP [] xs) (hs : SatA xs (ε0 W) vs) : SatA (A.emb (A.decV [] xs)) (ε0 W) vs := by
  have := A.ok (good_nil W) hd hs
  rwa [frz_eps0] at this
end Go.Sx
