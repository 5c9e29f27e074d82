/- What is told of all races, rising, each once, as the program tells it. Conditions: none. -/
import Derived.Test.YtgcbhanfhnianaaRaceA
import Derived.Test.YtgcbhanfhnianaaSx41
import Derived.Test.YtgcbhanfhnianaaShSort
import Derived.Test.YtgcbhanfhnianaaSortP
import Derived.Shelf.Slices.In.SortNone
set_option linter.unusedSimpArgs false
set_option linter.unusedVariables false
set_option maxRecDepth 100000
open Go Go.Sx Go.Proofs
namespace Go.Proofs.Ytgcbhanfhnianaa.Rc
open Go.Proofs.Ytgcbhanfhnianaa.D Go.Proofs.Ytgcbhanfhnianaa.Tr Go.Proofs.Ytgcbhanfhnianaa.Ah Go.Proofs.Ytgcbhanfhnianaa.Ps Go.Proofs.Ytgcbhanfhnianaa.Od
theorem putsI : Puts Try.prog 114 SortP.sorted where
  ok := by kernel_rfl
  len := SortP.sorted_len
  at0 := fun w => Any.slices_Sort_int_none Sh.laysSort none 0 w
  at1 := fun blk cap zs w hH hb hz => Any.slices_Sort_int Sh.laysSort blk 0 cap zs w hH hb hz
theorem cutsI : Cuts Try.prog 115 Lib.compact where
  ok := by kernel_rfl
  len := SortP.compact_len
  nil := rfl
  at0 := fun w => Any.slices_Compact_int_empty Sh.laysCompact none 0 w
  at1 := fun blk cap zs w hH hz hc => Any.slices_Compact_int Sh.laysCompact blk 0 cap zs w hH hz hc

def j68 : JC :=
  (.seq (.ops <|
  eo 1 (.box 126 (.t 0)) <|
  qo 2 (.mv (I 0)) <|
  .nil)
  (.seq (.ops <|
  qo 3 (.fa 1 1 (.t 1)) <|
  eo 4 (.load 1 false (.t 3)) <|
  qo 2 (.mv (.t 4)) <|
  .nil)
  .ret))
theorem c68 : fnIs Try.prog qall 68 = some (j68.flat, [.tmp 2], 5) := by kernel_rfl
theorem w68 : j68.wf 5 = true := by kernel_rfl
def j67_1 : JC :=
  (.seq (.ops <|
  qo 22 (.cmp .lss (.t 21) (.t 20)) <|
  .nil)
  (.seq (.cond (.t 22)
  .skip
  (.exit 0))
  (.seq (.block 1 (.seq (.ops <|
  qo 23 (.is 4 (.t 19) (.t 21)) <|
  eo 24 (.load 4 true (.t 23)) <|
  eo 10 (.alloc 126 (.agg [(.int .i64 0), (.int .i64 0), (.int .i64 0), (.int .i64 0)])) <|
  en (.store 4 (.t 10) (.t 24)) <|
  .nil)
  (.prune [8, 1, 10, 21, 20, 19] (.ops <|
  qo 25 (.mv (.t 8)) <|
  qo 26 (.mv (.t 1)) <|
  eo 27 (.load 4 true (.t 10)) <|
  eo 28 (.callv (.t 26) [(.t 27)]) <|
  .prune [28, 25, 21, 20, 19, 1] <|
  eo 29 (.bsl 3 1 1 (.int .i64 0) [(0, (.t 28))]) <|
  eo 30 (.app 3 1 8 (.t 25) (.t 29)) <|
  qo 8 (.mv (.t 30)) <|
  .nil))))
  (.prune [21, 20, 19, 8, 1] (.ops <|
  qo 31 (.ar .add (.t 21) (I 1)) <|
  qo 21 (.mv (.t 31)) <|
  .nil)))))
def j67_2 : JC :=
  (.prune [8] (.seq (.ops <|
  qo 32 (.mv (.t 8)) <|
  eo 33 (.call 114 [(.t 32)]) <|
  .nil)
  (.seq (.ops <|
  qo 34 (.mv (.t 8)) <|
  eo 35 (.call 115 [(.t 34)]) <|
  qo 4 (.mv (.t 35)) <|
  qo 5 (.mv (I 0)) <|
  .nil)
  (.vecs 4 3 1 .ret))))
def j67 : JC :=
  (.seq (.ops <|
  qo 4 (.mv (.c .nils)) <|
  qo 5 (.mv (I 0)) <|
  .nil)
  (.seq (.ops <|
  qo 12 (.mv (.t 0)) <|
  eo 13 (.call 27 [(.t 12)]) <|
  qo 11 (.mv (.t 13)) <|
  qo 14 (.ext 0 (.t 11)) <|
  qo 15 (.ext 1 (.t 11)) <|
  qo 6 (.mv (.t 14)) <|
  qo 7 (.mv (.t 15)) <|
  .nil)
  (.seq (.seq (.ops <|
  qo 16 (.mv (.t 7)) <|
  qo 17 (.cmp .neq (.t 16) (I 0)) <|
  .nil)
  (.prune [17, 7, 6, 1] (.cond (.t 17)
  (.seq (.ops <|
  qo 18 (.mv (.t 7)) <|
  qo 4 (.mv (.c .nils)) <|
  qo 5 (.mv (.t 18)) <|
  .nil)
  (.vecs 4 3 1 .ret))
  .skip)))
  (.prune [6, 1] (.seq (.ops <|
  qo 8 (.mv (.c .nils)) <|
  .nil)
  (.seq (.seq (.ops <|
  qo 19 (.mv (.t 6)) <|
  qo 20 (.len (.t 19)) <|
  qo 21 (.mv (I 0)) <|
  .nil)
  (.block 0 (.vecs 8 3 1 (.loop [20, 19, 1] [21, 8] j67_1))))
  j67_2))))))
theorem c67 : fnIs Try.prog qall 67 = some (j67.flat, [.tmp 4, .tmp 5], 36) := by kernel_rfl
theorem w67 : j67.wf 36 = true := by kernel_rfl

def j26 : JC :=
  (.seq (.ops <|
  qo 2 (.mv (.c .nils)) <|
  qo 3 (.mv (I 0)) <|
  .nil)
  (.seq (.ops <|
  qo 4 (.mv (.t 0)) <|
  eo 5 (.call 67 [(.t 4), (.c (.fn 68 []))]) <|
  qo 6 (.ext 0 (.t 5)) <|
  qo 7 (.ext 1 (.t 5)) <|
  qo 2 (.mv (.t 6)) <|
  qo 3 (.mv (.t 7)) <|
  .nil)
  .ret))
theorem c26 : fnIs Try.prog qall 26 = some (j26.flat, [.tmp 2, .tmp 3], 8) := by kernel_rfl
theorem w26 : j26.wf 8 = true := by kernel_rfl
theorem f_Sec1 (r : Rc) : FnOK Try.prog 68 [dRc.emb r] [] (.int .i64 r.b) [] := by
  refine fn_walkF c68 w68 FH.none_ok rfl ?_
  unfold j68
  simp only [go_sem, ↓reduceIte, Nat.reduceAdd, Nat.reduceMul, Nat.reduceSub, Nat.reduceLT, Nat.reduceLeDiff, Nat.reduceEqDiff, Int.reduceToNat, Int.reduceEq, Int.reduceLT, Int.reduceLE, reduceCtorEq]
theorem rc_getD {l : List Rc} {i : Nat} (h : i < l.length) : (l.map dRc.emb).getD i .junk = .agg [.int .i64 (l.getD i dRc.dft).a, .int .i64 (l.getD i dRc.dft).b, .int .i64 (l.getD i dRc.dft).var, .int .i64 (l.getD i dRc.dft).kind] := by
  simp [List.getD, h, rc_emb]
def tellF (g : Rc → Int) (l : List Ev) : List Int := if (playedF l).2.2 = 0 then Lib.compact (SortP.sorted ((racesF l).map g)) else []
def Gso (f : FuncId) (g : Rc → Int) (F : FuncId) (a : List SV) (m : List Res) : Sx.Call := (FH.mk 27 (.one dEs) (fun _ => True) (fun y => .tup [.vec 0 (allF y.1).length, .int .i64 (playedF y.1).2.2]) (fun y => [.vec 126 4 ((allF y.1).map dRc.emb)]) <|
  FH.pu 114 SortP.sorted <| FH.cu 115 Lib.compact <| FH.rd f (.one dRc) (.one .int) (fun _ => True) (fun y => g y.1) FH.none) F a m
theorem Gso_eq (f : FuncId) (g : Rc → Int) (F : FuncId) (a : List SV) (m : List Res) : Gso f g F a m = (FH.mk 27 (.one dEs) (fun _ => True) (fun y => .tup [.vec 0 (allF y.1).length, .int .i64 (playedF y.1).2.2]) (fun y => [.vec 126 4 ((allF y.1).map dRc.emb)]) <|
  FH.pu 114 SortP.sorted <| FH.cu 115 Lib.compact <| FH.rd f (.one dRc) (.one .int) (fun _ => True) (fun y => g y.1) FH.none) F a m := nr rfl
theorem Gso_ok {f : FuncId} {g : Rc → Int} (hok : okFn Try.prog f = true) (hg : ∀ r, FnOK Try.prog f [dRc.emb r] [] (.int .i64 (g r)) []) : FHOK Try.prog (Gso f g) :=
  FH.mk_ok (by kernel_rfl) (fun y _ => plainM (pv_tup ⟨plV_vec _ _, plV_int _ _, trivial⟩) ⟨plR_vec _ _ dRc _, trivial⟩) (fun y _ => f_All y.1) <|
  FH.pu_ok putsI <| FH.cu_ok cutsI <| FH.rd_ok hok (fun y _ => hg y.1) FH.none_ok
theorem f_sorted (l : List Ev) {f : FuncId} {g : Rc → Int} (hok : okFn Try.prog f = true) (hg : ∀ r, FnOK Try.prog f [dRc.emb r] [] (.int .i64 (g r)) []) (h1 : f ≠ 27) (h2 : f ≠ 114) (h3 : f ≠ 115) :
    FnOK Try.prog 67 [dEs.emb l, .fn f []] [] (.tup [.vec 0 (tellF g l).length, .int .i64 (playedF l).2.2]) [.vec 3 1 ((tellF g l).map DT.int.emb)] := by
  refine fn_walkF c67 w67 (Gso_ok hok hg) rfl ?_
  unfold j67
  by_cases h : (playedF l).2.2 = 0
  · have hok : (checkR l).2 = 0 := by rw [← err_same]; exact h
    have hl := ok_len hok
    have hRl : (racesF l).length ≤ 6400 := Nat.le_trans (allC_len (l := l) l.length) (Nat.mul_le_mul (show l.length ≤ 80 by omega) (show l.length ≤ 80 by omega))
    have ht : tellF g l = Lib.compact (SortP.sorted ((racesF l).map g)) := if_pos h
    have ha : allF l = racesF l := if_pos h
    rw [ht]
    generalize racesF l = R at hRl ha ⊢
    simp only [go_sem, ↓reduceIte, Nat.reduceAdd, Nat.reduceMul, Nat.reduceSub, Nat.reduceLT, Nat.reduceLeDiff, Nat.reduceEqDiff, Int.reduceToNat, Int.reduceEq, Int.reduceLT, Int.reduceLE, reduceCtorEq, Gso_eq, h, ha]
    refine loopF Nat (fun i => [.int .i64 i, .vec 1 i]) (fun i => [.vec 126 4 (R.map dRc.emb), .vec 3 1 (((R.take i).map g).map DT.int.emb)]) (fun i => i ≤ R.length) (fun i => R.length - i) 0 (by omega) ?_ rfl ?_
    · simp only [go_sem, ↓reduceIte, Nat.reduceAdd, Nat.reduceMul, Nat.reduceSub, Nat.reduceLT, Nat.reduceLeDiff, Nat.reduceEqDiff, Int.reduceToNat, Int.reduceEq, Int.reduceLT, Int.reduceLE, reduceCtorEq]
    intro i hi
    by_cases q : i < R.length
    · have q' : (i : Int) < R.length := by omega
      unfold j67_1
      simp only [go_sem, ↓reduceIte, Nat.reduceAdd, Nat.reduceMul, Nat.reduceSub, Nat.reduceLT, Nat.reduceLeDiff, Nat.reduceEqDiff, Int.reduceToNat, Int.reduceEq, Int.reduceLT, Int.reduceLE, reduceCtorEq, Gso_eq, q, q', h1, h2, h3, rc_getD q]
      have e : ((R.take (i + 1)).map g) = (R.take i).map g ++ [g (R.getD i dRc.dft)] := by rw [take_getD dRc.dft q, List.map_append]; rfl
      refine ⟨by omega, by rw [List.length_take]; omega, i + 1, by omega, by omega, ⟨IntWalk.i64_in _ (by omega), by rw [List.length_take]; congr 1; omega⟩, ?_⟩
      rw [e, List.map_append]
      rfl
    · have q' : ¬ (i : Int) < R.length := by omega
      have e : i = R.length := by omega
      subst e
      unfold j67_1
      simp only [go_sem, ↓reduceIte, Nat.reduceAdd, Nat.reduceMul, Nat.reduceSub, Nat.reduceLT, Nat.reduceLeDiff, Nat.reduceEqDiff, Int.reduceToNat, Int.reduceEq, Int.reduceLT, Int.reduceLE, reduceCtorEq, q']
      unfold j67_2
      rw [List.take_length]
      simp only [go_sem, ↓reduceIte, Nat.reduceAdd, Nat.reduceMul, Nat.reduceSub, Nat.reduceLT, Nat.reduceLeDiff, Nat.reduceEqDiff, Int.reduceToNat, Int.reduceEq, Int.reduceLT, Int.reduceLE, reduceCtorEq, Gso_eq]
      rw [h]
      exact ⟨by omega, by rw [SortP.sorted_len, List.length_map], rfl⟩
  · have ha : allF l = [] := if_neg h
    have ht : tellF g l = [] := if_neg h
    simp only [go_sem, ↓reduceIte, Nat.reduceAdd, Nat.reduceMul, Nat.reduceSub, Nat.reduceLT, Nat.reduceLeDiff, Nat.reduceEqDiff, Int.reduceToNat, Int.reduceEq, Int.reduceLT, Int.reduceLE, reduceCtorEq, Gso_eq, h, ha, ht]
def Gsd (f : FuncId) (a : List SV) (m : List Res) : Sx.Call := (FH.mk 67 (.two dEs DT.fnc) (fun y => y.2.1 = 68) (fun y => .tup [.vec 0 (tellF (fun r => r.b) y.1).length, .int .i64 (playedF y.1).2.2]) (fun y => [.vec 3 1 ((tellF (fun r => r.b) y.1).map DT.int.emb)]) FH.none) f a m
theorem Gsd_eq (f : FuncId) (a : List SV) (m : List Res) : Gsd f a m = (FH.mk 67 (.two dEs DT.fnc) (fun y => y.2.1 = 68) (fun y => .tup [.vec 0 (tellF (fun r => r.b) y.1).length, .int .i64 (playedF y.1).2.2]) (fun y => [.vec 3 1 ((tellF (fun r => r.b) y.1).map DT.int.emb)]) FH.none) f a m := nr rfl
theorem Gsd_ok : FHOK Try.prog Gsd := FH.mk_ok (by kernel_rfl) (fun y _ => plainM (pv_tup ⟨plV_vec _ _, plV_int _ _, trivial⟩) ⟨plR_vec _ _ DT.int _, trivial⟩) (fun y h => by
  have := f_sorted y.1 (f := 68) (by kernel_rfl) f_Sec1 (by decide) (by decide) (by decide)
  rw [← h] at this; exact this) FH.none_ok
theorem f_Seconds (l : List Ev) : FnOK Try.prog 26 [dEs.emb l] [] (.tup [.vec 0 (tellF (fun r => r.b) l).length, .int .i64 (playedF l).2.2]) [.vec 3 1 ((tellF (fun r => r.b) l).map DT.int.emb)] := by
  refine fn_walkF c26 w26 Gsd_ok rfl ?_
  unfold j26
  simp only [go_sem, ↓reduceIte, Nat.reduceAdd, Nat.reduceMul, Nat.reduceSub, Nat.reduceLT, Nat.reduceLeDiff, Nat.reduceEqDiff, Int.reduceToNat, Int.reduceEq, Int.reduceLT, Int.reduceLE, reduceCtorEq, Gsd_eq]
end Go.Proofs.Ytgcbhanfhnianaa.Rc
