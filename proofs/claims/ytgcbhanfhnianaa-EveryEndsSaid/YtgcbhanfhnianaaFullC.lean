/- The package full: clocks, cells. Conditions: none. -/
import Derived.Test.YtgcbhanfhnianaaBase
import Derived.Test.YtgcbhanfhnianaaRows
import Derived.WalkKit
import Derived.Test.YtgcbhanfhnianaaTraceR
set_option linter.unusedSimpArgs false
set_option linter.unusedVariables false
set_option maxRecDepth 100000
open Go Go.Sx Go.Proofs
namespace Go.Proofs.Ytgcbhanfhnianaa.Fu
open Go.Proofs.Ytgcbhanfhnianaa.D Go.Proofs.Ytgcbhanfhnianaa.Tr
structure Vr where
  rd : Nat → Clk
  wr : Nat → Clk
def dVr : DT Vr := (DT.ofTT (.arr 8 12 (.st [.arr 6 1 (.int .i64), .arr 6 1 (.int .i64)]))).iso (fun x => ⟨fun i => (x i).1, fun i => (x i).2.1⟩) (fun v i => (v.rd i, v.wr i, ())) (fun _ => rfl) (fun _ => rfl)
instance : Flat dVr := (Flat.ofTT rfl).iso
theorem vr_emb (v : Vr) : dVr.emb v = .arr 8 12 fun i => .agg [.arr 6 1 fun j => .int .i64 (v.rd i j), .arr 6 1 fun j => .int .i64 (v.wr i j)] := nr rfl
theorem vr_decV (m : List Res) (f g : Nat → Nat → Int) : dVr.decV m (.arr 8 12 fun i => .agg [.arr 6 1 fun j => .int .i64 (f i j), .arr 6 1 fun j => .int .i64 (g i j)]) = ⟨f, g⟩ := nr rfl
theorem vr_decP (m : List Res) (f g : Nat → Nat → Int) : dVr.decP m (.arr 8 12 fun i => .agg [.arr 6 1 fun j => .int .i64 (f i j), .arr 6 1 fun j => .int .i64 (g i j)]) = True := eq_true ⟨rfl, rfl, fun _ _ => ⟨⟨rfl, rfl, fun _ _ => rfl⟩, ⟨rfl, rfl, fun _ _ => rfl⟩, trivial⟩⟩
theorem vr_eta (v : Vr) : (⟨v.rd, v.wr⟩ : Vr) = v := nr rfl
attribute [go_sem] vr_emb vr_decV vr_decP vr_eta
end Go.Proofs.Ytgcbhanfhnianaa.Fu
