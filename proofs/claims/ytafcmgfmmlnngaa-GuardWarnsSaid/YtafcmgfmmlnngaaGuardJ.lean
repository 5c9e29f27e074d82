/- The package guard: Guards, Warns. Conditions: none. -/
import Derived.Test.YtafcmgfmmlnngaaGuardI
set_option linter.unusedSimpArgs false
set_option linter.unusedVariables false
set_option maxRecDepth 100000
open Go Go.Sx Go.Proofs
namespace Go.Proofs.Ytafcmgfmmlnngaa.Gu
open Go.Proofs.Ytafcmgfmmlnngaa.D Go.Proofs.Ytafcmgfmmlnngaa.Tr
def Grn (f : FuncId) (a : List SV) (m : List Res) : Sx.Call := (FH.mk 48 (.one dEs) (fun _ => True) (fun y => if (playedF y.1).2.2 = 0 then .tup [dGs.emb (RS y.1 y.1.length).1, .vec 0 (RS y.1 y.1.length).2.length, .int .i64 0] else .tup [dGs.emb (gInit 0), .nils, .int .i64 (playedF y.1).2.2])
  (fun y => if (playedF y.1).2.2 = 0 then [.vec 60 3 ((RS y.1 y.1.length).2.map dFl.emb)] else []) FH.none) f a m
theorem Grn_eq (f : FuncId) (a : List SV) (m : List Res) : Grn f a m = (FH.mk 48 (.one dEs) (fun _ => True) (fun y => if (playedF y.1).2.2 = 0 then .tup [dGs.emb (RS y.1 y.1.length).1, .vec 0 (RS y.1 y.1.length).2.length, .int .i64 0] else .tup [dGs.emb (gInit 0), .nils, .int .i64 (playedF y.1).2.2])
  (fun y => if (playedF y.1).2.2 = 0 then [.vec 60 3 ((RS y.1 y.1.length).2.map dFl.emb)] else []) FH.none) f a m := nr rfl
theorem Grn_ok : FHOK Try.prog Grn := FH.mk_ok (by kernel_rfl) (fun y _ => by
    by_cases h : (playedF y.1).2.2 = 0
    · rw [if_pos h, if_pos h]; exact plainM (pv_tup ⟨plV_emb dGs _, plV_vec _ _, plV_int _ _, trivial⟩) ⟨plR_vec _ _ dFl _, trivial⟩
    · rw [if_neg h, if_neg h]; exact plainM (pv_tup ⟨plV_emb dGs _, plV_nils, plV_int _ _, trivial⟩) trivial) (fun y _ => by
    by_cases h : (playedF y.1).2.2 = 0
    · rw [if_pos h, if_pos h]; exact f_run y.1 h
    · rw [if_neg h, if_neg h]; exact f_run_bad y.1 h) FH.none_ok
def guardsF (l : List Ev) : Gs × Int := if (playedF l).2.2 = 0 then ((RS l l.length).1, 0) else (gInit 0, (playedF l).2.2)

def j19 : JC :=
  (.seq (.ops <|
  eo 2 (.alloc 40 (.arr 8 3 fun _ => (.agg [(.int .i64 0), (.int .i64 0), (.int .i64 0)]))) <|
  qo 3 (.mv (I 0)) <|
  .nil)
  (.seq (.ops <|
  qo 8 (.mv (.t 0)) <|
  eo 9 (.call 48 [(.t 8)]) <|
  qo 7 (.mv (.t 9)) <|
  qo 10 (.ext 0 (.t 7)) <|
  qo 11 (.ext 1 (.t 7)) <|
  .prune [7, 10, 11, 2] <|
  qo 12 (.ext 2 (.t 7)) <|
  eo 4 (.alloc 40 (.arr 8 3 fun _ => (.agg [(.int .i64 0), (.int .i64 0), (.int .i64 0)]))) <|
  en (.store 24 (.t 4) (.t 10)) <|
  qo 5 (.mv (.t 11)) <|
  qo 6 (.mv (.t 12)) <|
  .nil)
  (.prune [4, 6, 2] (.seq (.ops <|
  eo 13 (.load 24 true (.t 4)) <|
  qo 14 (.mv (.t 6)) <|
  en (.store 24 (.t 2) (.t 13)) <|
  qo 3 (.mv (.t 14)) <|
  .nil)
  .ret))))
theorem c19 : fnIs Try.prog qall 19 = some (j19.flat, [.cell 2 40, .tmp 3], 15) := by kernel_rfl
theorem w19 : j19.wf 15 = true := by kernel_rfl
theorem f_Guards (l : List Ev) : FnOK Try.prog 19 [dEs.emb l] [] (.tup [dGs.emb (guardsF l).1, .int .i64 (guardsF l).2]) [] := by
  refine fn_walkF c19 w19 Grn_ok rfl ?_
  unfold j19
  by_cases h : (playedF l).2.2 = 0
  · have hr : guardsF l = ((RS l l.length).1, 0) := by rw [guardsF, if_pos h]
    simp only [go_sem, ↓reduceIte, Nat.reduceAdd, Nat.reduceMul, Nat.reduceSub, Nat.reduceLT, Nat.reduceLeDiff, Nat.reduceEqDiff, Int.reduceToNat, Int.reduceEq, Int.reduceLT, Int.reduceLE, reduceCtorEq, Grn_eq, h, hr, tszGs]
  · have hr : guardsF l = (gInit 0, (playedF l).2.2) := by rw [guardsF, if_neg h]
    simp only [go_sem, ↓reduceIte, Nat.reduceAdd, Nat.reduceMul, Nat.reduceSub, Nat.reduceLT, Nat.reduceLeDiff, Nat.reduceEqDiff, Int.reduceToNat, Int.reduceEq, Int.reduceLT, Int.reduceLE, reduceCtorEq, Grn_eq, h, hr, tszGs]

def j26 : JC :=
  (.seq (.ops <|
  qo 2 (.mv (.c .nils)) <|
  qo 3 (.mv (I 0)) <|
  .nil)
  (.seq (.ops <|
  qo 8 (.mv (.t 0)) <|
  eo 9 (.call 48 [(.t 8)]) <|
  qo 7 (.mv (.t 9)) <|
  qo 10 (.ext 0 (.t 7)) <|
  qo 11 (.ext 1 (.t 7)) <|
  .prune [7, 10, 11] <|
  qo 12 (.ext 2 (.t 7)) <|
  eo 4 (.alloc 40 (.arr 8 3 fun _ => (.agg [(.int .i64 0), (.int .i64 0), (.int .i64 0)]))) <|
  en (.store 24 (.t 4) (.t 10)) <|
  qo 5 (.mv (.t 11)) <|
  qo 6 (.mv (.t 12)) <|
  .nil)
  (.prune [5, 6] (.seq (.ops <|
  qo 13 (.mv (.t 5)) <|
  qo 14 (.mv (.t 6)) <|
  qo 2 (.mv (.t 13)) <|
  qo 3 (.mv (.t 14)) <|
  .nil)
  .ret))))
theorem c26 : fnIs Try.prog qall 26 = some (j26.flat, [.tmp 2, .tmp 3], 15) := by kernel_rfl
theorem w26 : j26.wf 15 = true := by kernel_rfl
theorem f_Warns_bad (l : List Ev) (h : ¬ (playedF l).2.2 = 0) : FnOK Try.prog 26 [dEs.emb l] [] (.tup [.nils, .int .i64 (playedF l).2.2]) [] := by
  refine fn_walkF c26 w26 Grn_ok rfl ?_
  unfold j26
  simp only [go_sem, ↓reduceIte, Nat.reduceAdd, Nat.reduceMul, Nat.reduceSub, Nat.reduceLT, Nat.reduceLeDiff, Nat.reduceEqDiff, Int.reduceToNat, Int.reduceEq, Int.reduceLT, Int.reduceLE, reduceCtorEq, Grn_eq, h, tszGs]
theorem f_Warns (l : List Ev) (h : (playedF l).2.2 = 0) : FnOK Try.prog 26 [dEs.emb l] [] (.tup [.vec 0 (RS l l.length).2.length, .int .i64 0]) [.vec 60 3 ((RS l l.length).2.map dFl.emb)] := by
  refine fn_walkF c26 w26 Grn_ok rfl ?_
  unfold j26
  simp only [go_sem, ↓reduceIte, Nat.reduceAdd, Nat.reduceMul, Nat.reduceSub, Nat.reduceLT, Nat.reduceLeDiff, Nat.reduceEqDiff, Int.reduceToNat, Int.reduceEq, Int.reduceLT, Int.reduceLE, reduceCtorEq, Grn_eq, h, tszGs]
end Go.Proofs.Ytafcmgfmmlnngaa.Gu
