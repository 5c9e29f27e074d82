/- What a thread, a lock, a signal know. Conditions: none. -/
import Derived.Test.YtgcbhanfhnianaaAheadQ
import Derived.Test.YtgcbhanfhnianaaTraceM
section
set_option linter.unusedSimpArgs false
set_option linter.unusedVariables false
open Go Go.Sx Go.Proofs
namespace Go.Proofs.Ytgcbhanfhnianaa.St
open Go.Proofs.Ytgcbhanfhnianaa.D Go.Proofs.Ytgcbhanfhnianaa.Tr Go.Proofs.Ytgcbhanfhnianaa.Ah Go.Proofs.Ytgcbhanfhnianaa.Ps Go.Proofs.Ytgcbhanfhnianaa.Od
def Le' (l : List Ev) (a b : Nat) : Prop := a = b ∨ Ahd l a b
def TS (l : List Ev) (j t : Nat) (i : Nat) : Prop := ∃ c, c < j ∧ Le' l i c ∧ ((at' l c).thr.toNat = t ∨ (at' l c).kind = 5 ∧ (at' l c).obj.toNat = t)
def LS (l : List Ev) (j m : Nat) (i : Nat) : Prop := ∃ c, c < j ∧ Le' l i c ∧ (at' l c).kind = 4 ∧ (at' l c).obj.toNat = m
def VS (l : List Ev) (j m : Nat) (i : Nat) : Prop := ∃ c, c < j ∧ Le' l i c ∧ (at' l c).kind = 8 ∧ (at' l c).obj.toNat = m
section
variable {l : List Ev} (hok : (checkR l).2 = 0)
include hok
end
end Go.Proofs.Ytgcbhanfhnianaa.St
end
section
set_option linter.unusedSimpArgs false
set_option linter.unusedVariables false
set_option maxRecDepth 100000
open Go Go.Sx Go.Proofs
namespace Go.Proofs.Ytgcbhanfhnianaa.Rc
open Go.Proofs.Ytgcbhanfhnianaa.D Go.Proofs.Ytgcbhanfhnianaa.Tr Go.Proofs.Ytgcbhanfhnianaa.Ah Go.Proofs.Ytgcbhanfhnianaa.Ps Go.Proofs.Ytgcbhanfhnianaa.Od Go.Proofs.Ytgcbhanfhnianaa.St
def Grc (f : FuncId) (a : List SV) (m : List Res) : Sx.Call := (FH.pz 54 (.one dEs) (.one dRows) (fun y => y.1.length ≤ 1000) (fun y => rowsOf y.1.length (aheadR y.1)) FH.none) f a m
theorem Grc_eq (f : FuncId) (a : List SV) (m : List Res) : Grc f a m = (FH.pz 54 (.one dEs) (.one dRows) (fun y => y.1.length ≤ 1000) (fun y => rowsOf y.1.length (aheadR y.1)) FH.none) f a m := nr rfl
theorem Grc_ok : FHOK Try.prog Grc := FH.pz_ok (by kernel_rfl) (fun y h => f_RAhead y.1 h) FH.none_ok
end Go.Proofs.Ytgcbhanfhnianaa.Rc
end
