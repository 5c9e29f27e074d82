/- Two writes side by side race. Conditions: none. -/
import Derived.Test.YtgcbhanfhnianaaFastT
import Derived.Test.YtgcbhanfhnianaaEqs
set_option linter.unusedSimpArgs false
set_option linter.unusedVariables false
set_option maxRecDepth 100000
open Go Go.Sx Go.Proofs
namespace Go.Proofs.Ytgcbhanfhnianaa.Tp
open Go.Proofs.Ytgcbhanfhnianaa.D Go.Proofs.Ytgcbhanfhnianaa.Tr Go.Proofs.Ytgcbhanfhnianaa.Fu Go.Proofs.Ytgcbhanfhnianaa.Fa Go.Proofs.Ytgcbhanfhnianaa.Eqs

def j42 : JC :=
  (.seq (.ops <|
  qo 0 (.mv (B false)) <|
  .nil)
  (.seq (.ops <|
  qo 6 (.bld (.agg [(.int .i64 0), (.int .i64 0), (.int .i64 0)]) [([.fld 0], 0, 1, (I 5)), ([.fld 2], 2, 1, (I 1))]) <|
  qo 7 (.bld (.agg [(.int .i64 0), (.int .i64 0), (.int .i64 0)]) [([.fld 0], 0, 1, (I 2))]) <|
  qo 8 (.bld (.agg [(.int .i64 0), (.int .i64 0), (.int .i64 0)]) [([.fld 0], 0, 1, (I 2)), ([.fld 1], 1, 1, (I 1))]) <|
  eo 9 (.bsl 35 3 3 (.agg [(.int .i64 0), (.int .i64 0), (.int .i64 0)]) [(0, (.t 6)), (1, (.t 7)), (2, (.t 8))]) <|
  qo 1 (.mv (.t 9)) <|
  .nil)
  (.seq (.ops <|
  qo 11 (.mv (.t 1)) <|
  .prune [11, 1] <|
  eo 12 (.call 16 [(.t 11)]) <|
  qo 10 (.mv (.t 12)) <|
  qo 13 (.ext 0 (.t 10)) <|
  qo 14 (.ext 1 (.t 10)) <|
  qo 2 (.mv (.t 13)) <|
  qo 3 (.mv (.t 14)) <|
  .nil)
  (.prune [1, 3, 2] (.seq (.ops <|
  qo 16 (.mv (.t 1)) <|
  eo 17 (.call 88 [(.t 16)]) <|
  qo 15 (.mv (.t 17)) <|
  qo 18 (.ext 0 (.t 15)) <|
  .prune [15, 18, 3, 2] <|
  qo 19 (.ext 1 (.t 15)) <|
  qo 4 (.mv (.t 18)) <|
  qo 5 (.mv (.t 19)) <|
  .nil)
  (.prune [3, 5, 2, 4] (.seq (.ops <|
  qo 20 (.mv (.t 3)) <|
  qo 21 (.cmp .eql (.t 20) (I 0)) <|
  qo 22 (.mv (.t 21)) <|
  .prune [22, 5, 2, 4] <|
  .sc false 25 22 (qo 23 (.mv (.t 5)) <|
  qo 24 (.cmp .eql (.t 23) (I 0)) <|
  .nil) (.t 24) <|
  qo 26 (.mv (.t 25)) <|
  .sc false 30 26 (qo 27 (.mv (.t 2)) <|
  qo 28 (.len (.t 27)) <|
  qo 29 (.cmp .eql (.t 28) (I 1)) <|
  .nil) (.t 29) <|
  .prune [30, 2, 4] <|
  qo 31 (.mv (.t 30)) <|
  .sc false 35 31 (qo 32 (.mv (.t 2)) <|
  qo 33 (.mv (.t 4)) <|
  eo 34 (.call 20 [(.t 32), (.t 33)]) <|
  .nil) (.t 34) <|
  qo 36 (.mv (.t 35)) <|
  .sc false 42 36 (qo 37 (.mv (.t 2)) <|
  qo 38 (.is 3 (.t 37) (I 0)) <|
  qo 39 (.fa 0 0 (.t 38)) <|
  eo 40 (.load 1 false (.t 39)) <|
  qo 41 (.cmp .eql (.t 40) (I 2)) <|
  .nil) (.t 41) <|
  qo 0 (.mv (.t 42)) <|
  .nil)
  .ret)))))))
theorem c42 : fnIs Try.prog qall 42 = some (j42.flat, [.tmp 0], 43) := by kernel_rfl
theorem w42 : j42.wf 43 = true := by kernel_rfl
def GW (f : FuncId) (a : List SV) (m : List Res) : Sx.Call := (FH.mk 16 (.one dEs) (fun _ => True) (fun y => .tup [.vec 0 (fastL y.1).length, .int .i64 (playedF y.1).2.2]) (fun y => [.vec 47 3 ((fastL y.1).map dFl.emb)]) <|
  FH.mk 88 (.one dEs) (fun _ => True) (fun y => .tup [.vec 0 (runF y.1).length, .int .i64 (playedF y.1).2.2]) (fun y => [.vec 47 3 ((runF y.1).map dFl.emb)]) <|
  FH.rd 20 (.two dFls dFls) (.one .bool) (fun _ => True) (fun y => eqBy ef_EqFlag y.1 y.2.1) FH.none) f a m
theorem GW_eq (f : FuncId) (a : List SV) (m : List Res) : GW f a m = (FH.mk 16 (.one dEs) (fun _ => True) (fun y => .tup [.vec 0 (fastL y.1).length, .int .i64 (playedF y.1).2.2]) (fun y => [.vec 47 3 ((fastL y.1).map dFl.emb)]) <|
  FH.mk 88 (.one dEs) (fun _ => True) (fun y => .tup [.vec 0 (runF y.1).length, .int .i64 (playedF y.1).2.2]) (fun y => [.vec 47 3 ((runF y.1).map dFl.emb)]) <|
  FH.rd 20 (.two dFls dFls) (.one .bool) (fun _ => True) (fun y => eqBy ef_EqFlag y.1 y.2.1) FH.none) f a m := nr rfl
theorem GW_ok : FHOK Try.prog GW := FH.mk_ok (by kernel_rfl) (fun y _ => plainM (pv_tup ⟨plV_vec _ _, plV_int _ _, trivial⟩) ⟨plR_vec _ _ dFl _, trivial⟩) (fun y _ => f_FRun y.1) <|
  FH.mk_ok (by kernel_rfl) (fun y _ => plainM (pv_tup ⟨plV_vec _ _, plV_int _ _, trivial⟩) ⟨plR_vec _ _ dFl _, trivial⟩) (fun y _ => f_Run y.1) <|
  FH.rd_ok (by kernel_rfl) (fun y _ => f_EqFlag y.1 y.2.1) FH.none_ok
theorem w_ok : (playedF [⟨5, 0, 1⟩, ⟨2, 0, 0⟩, ⟨2, 1, 0⟩]).2.2 = 0 := by kernel_rfl
theorem w_fast : fastL [⟨5, 0, 1⟩, ⟨2, 0, 0⟩, ⟨2, 1, 0⟩] = [⟨2, 0, 1⟩] := by kernel_rfl
theorem w_full : runF [⟨5, 0, 1⟩, ⟨2, 0, 0⟩, ⟨2, 1, 0⟩] = [⟨2, 0, 1⟩] := by kernel_rfl
theorem f_works : FnOK Try.prog 42 [] [] (.bool true) [] := by
  refine fn_walkF c42 w42 GW_ok rfl ?_
  unfold j42
  simp only [go_sem, ↓reduceIte, Nat.reduceAdd, Nat.reduceMul, Nat.reduceSub, Nat.reduceLT, Nat.reduceLeDiff, Nat.reduceEqDiff, Int.reduceToNat, Int.reduceEq, Int.reduceLT, Int.reduceLE, reduceCtorEq, GW_eq, w_ok, w_fast, w_full]
  exact eqBy_refl (by simp [ef_EqFlag]) _
end Go.Proofs.Ytgcbhanfhnianaa.Tp
