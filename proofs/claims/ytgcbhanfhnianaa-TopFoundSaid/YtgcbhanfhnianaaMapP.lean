/- Maps from pairs to truth values, as sets. Conditions: none. -/
import Derived.Test.YtgcbhanfhnianaaBase
set_option linter.unusedSimpArgs false
set_option linter.unusedVariables false
open Go Go.Sx Go.Proofs
namespace Go.Proofs.Ytgcbhanfhnianaa.D
theorem eqV_pr (x y : Pr) : eqV (.st [.int .i64, .int .i64]) (dPr.emb x) (dPr.emb y) = decide (x = y) := by
  obtain ⟨a, b⟩ := x
  obtain ⟨c, d⟩ := y
  simp only [pr_emb, eqV, eqVL, Bool.and_true, Pr.mk.injEq, Bool.decide_and]
theorem setP_put (a b : Int) (l : List Pr) : mpPut (.st [.int .i64, .int .i64]) (.agg [.int .i64 a, .int .i64 b]) (.bool true) (setM dPr l) = setM dPr (insM ⟨a, b⟩ l) := setM_put eqV_pr ⟨a, b⟩ l
theorem setP_has (a b : Int) (l : List Pr) : obB (mpFind (.st [.int .i64, .int .i64]) (.agg [.int .i64 a, .int .i64 b]) (setM dPr l)) = decide ((⟨a, b⟩ : Pr) ∈ l) := setM_has eqV_pr ⟨a, b⟩ l
attribute [go_sem] setP_put setP_has
end Go.Proofs.Ytgcbhanfhnianaa.D
