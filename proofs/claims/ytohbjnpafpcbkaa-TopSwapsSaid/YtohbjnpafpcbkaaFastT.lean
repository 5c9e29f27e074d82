/- The reference of fast. Conditions: none. -/
import Derived.Test.YtohbjnpafpcbkaaFastR
import Derived.Test.YtohbjnpafpcbkaaFullQ
section
set_option linter.unusedSimpArgs false
set_option linter.unusedVariables false
set_option maxRecDepth 100000
open Go Go.Sx Go.Proofs
namespace Go.Proofs.Ytohbjnpafpcbkaa.Fa
open Go.Proofs.Ytohbjnpafpcbkaa.D Go.Proofs.Ytohbjnpafpcbkaa.Tr Go.Proofs.Ytohbjnpafpcbkaa.C Go.Proofs.Ytohbjnpafpcbkaa.Fu Go.Proofs.Ytohbjnpafpcbkaa.Ah Go.Proofs.Ytohbjnpafpcbkaa.Ps Go.Proofs.Ytohbjnpafpcbkaa.Od Go.Proofs.Ytohbjnpafpcbkaa.St Go.Proofs.Ytohbjnpafpcbkaa.Rc
/-- Is the thread at j still at the number that it had at i? -/
def epB (l : List Ev) (i j : Nat) : Bool := decide ((at' l i).thr = (at' l j).thr ∧ ∀ k, k < j → i ≤ k → ¬ ((at' l k).thr = (at' l i).thr ∧ isSt (at' l k) = true))
structure FS where
  wr : Int
  rds : List Nat
  mn : Bool
def skipB (l : List Ev) (x : Nat) (j : Nat) : Prop := 2 < (at' l j).kind ∨ ¬ (at' l j).obj = x
instance (l : List Ev) (x j : Nat) : Decidable (skipB l x j) := inferInstanceAs (Decidable (_ ∨ _))
def sameB (l : List Ev) (s : FS) (j : Nat) : Prop := s.mn = false ∧ s.rds.length = 1 ∧ epB l (s.rds.getD 0 0) j = true
instance (l : List Ev) (s : FS) (j : Nat) : Decidable (sameB l s j) := inferInstanceAs (Decidable (_ ∧ _))
end Go.Proofs.Ytohbjnpafpcbkaa.Fa
end
section
set_option linter.unusedSimpArgs false
set_option linter.unusedVariables false
set_option maxRecDepth 100000
open Go Go.Sx Go.Proofs
namespace Go.Proofs.Ytohbjnpafpcbkaa.Fa
open Go.Proofs.Ytohbjnpafpcbkaa.D Go.Proofs.Ytohbjnpafpcbkaa.Tr Go.Proofs.Ytohbjnpafpcbkaa.C Go.Proofs.Ytohbjnpafpcbkaa.Fu Go.Proofs.Ytohbjnpafpcbkaa.Ah Go.Proofs.Ytohbjnpafpcbkaa.Ps Go.Proofs.Ytohbjnpafpcbkaa.Od Go.Proofs.Ytohbjnpafpcbkaa.St Go.Proofs.Ytohbjnpafpcbkaa.Rc
end Go.Proofs.Ytohbjnpafpcbkaa.Fa
end
section
set_option linter.unusedSimpArgs false
set_option linter.unusedVariables false
open Go Go.Sx Go.Proofs
namespace Go.Proofs.Ytohbjnpafpcbkaa.Fa
open Go.Proofs.Ytohbjnpafpcbkaa.D Go.Proofs.Ytohbjnpafpcbkaa.Tr Go.Proofs.Ytohbjnpafpcbkaa.C Go.Proofs.Ytohbjnpafpcbkaa.Fu Go.Proofs.Ytohbjnpafpcbkaa.Ah Go.Proofs.Ytohbjnpafpcbkaa.Ps Go.Proofs.Ytohbjnpafpcbkaa.Od Go.Proofs.Ytohbjnpafpcbkaa.St Go.Proofs.Ytohbjnpafpcbkaa.Rc
/-- The epoch at an event. -/
def ep (l : List Ev) (i : Nat) : Pr := ⟨(at' l i).thr, 1 + (cs l (at' l i).thr.toNat i : Int)⟩
section
variable {l : List Ev} (hok : (checkR l).2 = 0)
include hok
variable {j : Nat} (hj : j < l.length) (ha : (at' l j).kind = 1 ∨ (at' l j).kind = 2)
include hj
include ha
end
/-- What a cell holds, beside what the reference holds. -/
structure CR (l : List Ev) (j : Nat) (s : Cl) (r : FS) : Prop where
  w : (r.wr < 0 ∧ s.wr = ⟨0, 0⟩) ∨ ∃ i : Nat, i < j ∧ r.wr = i ∧ s.wr = ep l i
  r : (r.mn = false ∧ r.rds = [] ∧ s.rd = .inl ⟨0, 0⟩) ∨ (∃ i : Nat, i < j ∧ r.mn = false ∧ r.rds = [i] ∧ s.rd = .inl (ep l i)) ∨
    (r.mn = true ∧ ∃ d, s.rd = .inr d ∧ (∀ i ∈ r.rds, i < j) ∧ ∀ u, u < 6 → (d u = 0 ∧ ∀ i ∈ r.rds, (at' l i).thr.toNat ≠ u) ∨ ∃ i ∈ r.rds, (at' l i).thr.toNat = u ∧ d u = 1 + cs l u i ∧ ∀ i' ∈ r.rds, (at' l i').thr.toNat = u → i' = i)
section
variable {l : List Ev} (hok : (checkR l).2 = 0) {j : Nat} (hj : j < l.length) (ha : (at' l j).kind = 1 ∨ (at' l j).kind = 2) {s : Cl} {r : FS} (h : CR l j s r)
include hok hj h
include ha
end
section
variable {l : List Ev} (hok : (checkR l).2 = 0)
include hok
end
end Go.Proofs.Ytohbjnpafpcbkaa.Fa
end
section
set_option linter.unusedSimpArgs false
set_option linter.unusedVariables false
set_option maxRecDepth 100000
open Go Go.Sx Go.Proofs
namespace Go.Proofs.Ytohbjnpafpcbkaa.Fa
open Go.Proofs.Ytohbjnpafpcbkaa.D Go.Proofs.Ytohbjnpafpcbkaa.Tr Go.Proofs.Ytohbjnpafpcbkaa.C Go.Proofs.Ytohbjnpafpcbkaa.Fu
def fastL (l : List Ev) : List Fl := if (playedF l).2.2 = 0 then runXL l l.length else []
def fastS (l : List Ev) : Int := if (playedF l).2.2 = 0 then slowTo (runX l l.length) 8 else 0
theorem f_runA (l : List Ev) : FnOK Try.prog 84 [dEs.emb l] [] (.tup [.vec 0 (fastL l).length, .int .i64 (fastS l), .int .i64 (playedF l).2.2]) [.vec 102 3 ((fastL l).map dFl.emb)] := by
  by_cases he : (playedF l).2.2 = 0
  · rw [fastL, fastS, if_pos he, if_pos he, he]
    exact f_run l (by rw [← err_same]; exact he)
  · rw [fastL, fastS, if_neg he, if_neg he]
    refine fn_walkF c84 w84 Gfr_ok rfl ?_
    unfold j84
    simp only [go_sem, ↓reduceIte, Nat.reduceAdd, Nat.reduceMul, Nat.reduceSub, Nat.reduceLT, Nat.reduceLeDiff, Nat.reduceEqDiff, Int.reduceToNat, Int.reduceEq, Int.reduceLT, Int.reduceLE, reduceCtorEq, Gfr_eq, he]

def j55 : JC :=
  (.seq (.ops <|
  qo 2 (.mv (.c .nils)) <|
  qo 3 (.mv (I 0)) <|
  .nil)
  (.seq (.ops <|
  qo 8 (.mv (.t 0)) <|
  eo 9 (.call 84 [(.t 8)]) <|
  qo 7 (.mv (.t 9)) <|
  qo 10 (.ext 0 (.t 7)) <|
  qo 11 (.ext 1 (.t 7)) <|
  .prune [7, 10, 11] <|
  qo 12 (.ext 2 (.t 7)) <|
  qo 4 (.mv (.t 10)) <|
  qo 5 (.mv (.t 11)) <|
  qo 6 (.mv (.t 12)) <|
  .nil)
  (.prune [4, 6] (.seq (.ops <|
  qo 13 (.mv (.t 4)) <|
  qo 14 (.mv (.t 6)) <|
  qo 2 (.mv (.t 13)) <|
  qo 3 (.mv (.t 14)) <|
  .nil)
  .ret))))
theorem c55 : fnIs Try.prog qall 55 = some (j55.flat, [.tmp 2, .tmp 3], 15) := by kernel_rfl
theorem w55 : j55.wf 15 = true := by kernel_rfl
def Gft (f : FuncId) (a : List SV) (m : List Res) : Sx.Call := (FH.mk 84 (.one dEs) (fun _ => True) (fun y => .tup [.vec 0 (fastL y.1).length, .int .i64 (fastS y.1), .int .i64 (playedF y.1).2.2]) (fun y => [.vec 102 3 ((fastL y.1).map dFl.emb)]) FH.none) f a m
theorem Gft_eq (f : FuncId) (a : List SV) (m : List Res) : Gft f a m = (FH.mk 84 (.one dEs) (fun _ => True) (fun y => .tup [.vec 0 (fastL y.1).length, .int .i64 (fastS y.1), .int .i64 (playedF y.1).2.2]) (fun y => [.vec 102 3 ((fastL y.1).map dFl.emb)]) FH.none) f a m := nr rfl
theorem Gft_ok : FHOK Try.prog Gft := FH.mk_ok (by kernel_rfl) (fun y _ => plainM (pv_tup ⟨plV_vec _ _, plV_int _ _, plV_int _ _, trivial⟩) ⟨plR_vec _ _ dFl _, trivial⟩) (fun y _ => f_runA y.1) FH.none_ok
theorem f_FRun (l : List Ev) : FnOK Try.prog 55 [dEs.emb l] [] (.tup [.vec 0 (fastL l).length, .int .i64 (playedF l).2.2]) [.vec 102 3 ((fastL l).map dFl.emb)] := by
  refine fn_walkF c55 w55 Gft_ok rfl ?_
  unfold j55
  simp only [go_sem, ↓reduceIte, Nat.reduceAdd, Nat.reduceMul, Nat.reduceSub, Nat.reduceLT, Nat.reduceLeDiff, Nat.reduceEqDiff, Int.reduceToNat, Int.reduceEq, Int.reduceLT, Int.reduceLE, reduceCtorEq, Gft_eq]
end Go.Proofs.Ytohbjnpafpcbkaa.Fa
end
