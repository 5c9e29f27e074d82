/- fast.Run and fast.Slow. Conditions: none. -/
import Derived.Test.YtgcbhanfhnianaaFastX
import Derived.Test.YtgcbhanfhnianaaFastQ
set_option linter.unusedSimpArgs false
set_option linter.unusedVariables false
set_option maxRecDepth 100000
open Go Go.Sx Go.Proofs
namespace Go.Proofs.Ytgcbhanfhnianaa.Fa
open Go.Proofs.Ytgcbhanfhnianaa.D Go.Proofs.Ytgcbhanfhnianaa.Tr Go.Proofs.Ytgcbhanfhnianaa.C Go.Proofs.Ytgcbhanfhnianaa.Fu
def fastL (l : List Ev) : List Fl := if (playedF l).2.2 = 0 then runXL l l.length else []
def fastS (l : List Ev) : Int := if (playedF l).2.2 = 0 then slowTo (runX l l.length) 8 else 0
theorem f_runA (l : List Ev) : FnOK Try.prog 52 [dEs.emb l] [] (.tup [.vec 0 (fastL l).length, .int .i64 (fastS l), .int .i64 (playedF l).2.2]) [.vec 47 3 ((fastL l).map dFl.emb)] := by
  by_cases he : (playedF l).2.2 = 0
  · rw [fastL, fastS, if_pos he, if_pos he, he]
    exact f_run l (by rw [← err_same]; exact he)
  · rw [fastL, fastS, if_neg he, if_neg he]
    refine fn_walkF c52 w52 Gfr_ok rfl ?_
    unfold j52
    simp only [go_sem, ↓reduceIte, Nat.reduceAdd, Nat.reduceMul, Nat.reduceSub, Nat.reduceLT, Nat.reduceLeDiff, Nat.reduceEqDiff, Int.reduceToNat, Int.reduceEq, Int.reduceLT, Int.reduceLE, reduceCtorEq, Gfr_eq, he]

def j16 : JC :=
  (.seq (.ops <|
  qo 2 (.mv (.c .nils)) <|
  qo 3 (.mv (I 0)) <|
  .nil)
  (.seq (.ops <|
  qo 8 (.mv (.t 0)) <|
  eo 9 (.call 52 [(.t 8)]) <|
  qo 7 (.mv (.t 9)) <|
  qo 10 (.ext 0 (.t 7)) <|
  qo 11 (.ext 1 (.t 7)) <|
  .prune [7, 10, 11] <|
  qo 12 (.ext 2 (.t 7)) <|
  qo 4 (.mv (.t 10)) <|
  qo 5 (.mv (.t 11)) <|
  qo 6 (.mv (.t 12)) <|
  .nil)
  (.prune [4, 6] (.seq (.ops <|
  qo 13 (.mv (.t 4)) <|
  qo 14 (.mv (.t 6)) <|
  qo 2 (.mv (.t 13)) <|
  qo 3 (.mv (.t 14)) <|
  .nil)
  .ret))))
theorem c16 : fnIs Try.prog qall 16 = some (j16.flat, [.tmp 2, .tmp 3], 15) := by kernel_rfl
theorem w16 : j16.wf 15 = true := by kernel_rfl
def Gft (f : FuncId) (a : List SV) (m : List Res) : Sx.Call := (FH.mk 52 (.one dEs) (fun _ => True) (fun y => .tup [.vec 0 (fastL y.1).length, .int .i64 (fastS y.1), .int .i64 (playedF y.1).2.2]) (fun y => [.vec 47 3 ((fastL y.1).map dFl.emb)]) FH.none) f a m
theorem Gft_eq (f : FuncId) (a : List SV) (m : List Res) : Gft f a m = (FH.mk 52 (.one dEs) (fun _ => True) (fun y => .tup [.vec 0 (fastL y.1).length, .int .i64 (fastS y.1), .int .i64 (playedF y.1).2.2]) (fun y => [.vec 47 3 ((fastL y.1).map dFl.emb)]) FH.none) f a m := nr rfl
theorem Gft_ok : FHOK Try.prog Gft := FH.mk_ok (by kernel_rfl) (fun y _ => plainM (pv_tup ⟨plV_vec _ _, plV_int _ _, plV_int _ _, trivial⟩) ⟨plR_vec _ _ dFl _, trivial⟩) (fun y _ => f_runA y.1) FH.none_ok
theorem f_FRun (l : List Ev) : FnOK Try.prog 16 [dEs.emb l] [] (.tup [.vec 0 (fastL l).length, .int .i64 (playedF l).2.2]) [.vec 47 3 ((fastL l).map dFl.emb)] := by
  refine fn_walkF c16 w16 Gft_ok rfl ?_
  unfold j16
  simp only [go_sem, ↓reduceIte, Nat.reduceAdd, Nat.reduceMul, Nat.reduceSub, Nat.reduceLT, Nat.reduceLeDiff, Nat.reduceEqDiff, Int.reduceToNat, Int.reduceEq, Int.reduceLT, Int.reduceLE, reduceCtorEq, Gft_eq]
end Go.Proofs.Ytgcbhanfhnianaa.Fa
