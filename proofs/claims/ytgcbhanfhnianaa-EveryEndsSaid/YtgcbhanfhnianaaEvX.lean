/- The visitor that notes ends. Conditions: none. -/
import Derived.Test.YtgcbhanfhnianaaEvK
import Derived.Test.YtgcbhanfhnianaaSx48
set_option linter.unusedSimpArgs false
set_option linter.unusedVariables false
set_option maxRecDepth 100000
open Go Go.Sx Go.Proofs
namespace Go.Proofs.Ytgcbhanfhnianaa.Ev
open Go.Proofs.Ytgcbhanfhnianaa.D Go.Proofs.Ytgcbhanfhnianaa.Pg Go.Proofs.Ytgcbhanfhnianaa.Tr Go.Proofs.Ytgcbhanfhnianaa.Rn Go.Proofs.Ytgcbhanfhnianaa.Cp Go.Proofs.Ytgcbhanfhnianaa.Rc
def j120_1 : JC :=
  (.seq (.ops <|
  qo 9 (.cmp .lss (.t 8) (.t 7)) <|
  .nil)
  (.seq (.cond (.t 9)
  .skip
  (.exit 0))
  (.seq (.block 1 (.seq (.ops <|
  qo 10 (.mv (.t 8)) <|
  qo 5 (.mv (.t 10)) <|
  .nil)
  (.seq (.dops <|
  eo 11 (.load 20 true (.t 3)) <|
  qo 12 (.mv (.t 0)) <|
  qo 13 (.mv (.t 5)) <|
  qo 14 (.is 20 (.t 12) (.t 13)) <|
  eo 15 (.load 20 true (.t 14)) <|
  qo 16 (.aeq false (.st [(.arr 8 1 (.int .i64)), (.arr 4 1 (.int .i64)), (.arr 6 1 (.int .i64)), .bool, .bool]) (.t 11) (.t 15)) <|
  .nil)
  (.prune [16, 5, 8, 7, 3, 0] (.cond (.t 16)
  (.seq (.ops <|
  qo 17 (.mv (.t 5)) <|
  qo 4 (.mv (.t 17)) <|
  .nil)
  .ret)
  .skip)))))
  (.prune [8, 7, 3, 0] (.ops <|
  qo 18 (.ar .add (.t 8) (I 1)) <|
  qo 8 (.mv (.t 18)) <|
  .nil)))))
def j120_2 : JC :=
  (.prune [] (.seq (.ops <|
  qo 4 (.mv (I (-1))) <|
  .nil)
  .ret))
def j120 : JC :=
  (.seq (.ops <|
  eo 3 (.box 28 (.t 1)) <|
  qo 4 (.mv (I 0)) <|
  .nil)
  (.seq (.seq (.ops <|
  qo 6 (.mv (.t 0)) <|
  qo 7 (.len (.t 6)) <|
  qo 8 (.mv (I 0)) <|
  .nil)
  (.block 0 (.loop [7, 3, 0] [8] j120_1)))
  j120_2))
theorem c120 : fnIs Try.prog qall 120 = some (j120.flat, [.tmp 4], 19) := by kernel_rfl
theorem w120 : j120.wf 19 = true := by kernel_rfl

def j76 : JC :=
  (.seq (.ops <|
  eo 3 (.box 28 (.t 1)) <|
  qo 4 (.mv (B false)) <|
  .nil)
  (.seq (.ops <|
  qo 5 (.mv (.t 0)) <|
  eo 6 (.load 20 true (.t 3)) <|
  eo 7 (.call 120 [(.t 5), (.t 6)]) <|
  qo 8 (.cmp .geq (.t 7) (I 0)) <|
  qo 4 (.mv (.t 8)) <|
  .nil)
  .ret))
theorem c76 : fnIs Try.prog qall 76 = some (j76.flat, [.tmp 4], 9) := by kernel_rfl
theorem w76 : j76.wf 9 = true := by kernel_rfl

def j75 : JC :=
  (.seq (.ops <|
  eo 4 (.box 84 (.t 0)) <|
  qo 6 (.mv (B false)) <|
  .nil)
  (.seq (.seq (.ops <|
  eo 8 (.load 1 false (.t 2)) <|
  eo 9 (.call 46 [(.t 4), (.t 8)]) <|
  eo 7 (.alloc 28 (.agg [(.arr 8 1 fun _ => (.int .i64 0)), (.arr 4 1 fun _ => (.int .i64 0)), (.arr 6 1 fun _ => (.int .i64 0)), (.bool false), (.bool false)])) <|
  en (.store 20 (.t 7) (.t 9)) <|
  .nil)
  (.seq (.ops <|
  qo 10 (.fa 3 18 (.t 7)) <|
  .prune [10, 7, 3] <|
  eo 11 (.load 1 false (.t 10)) <|
  qo 12 (.mv (.t 11)) <|
  .sc true 15 12 (qo 13 (.fa 4 19 (.t 7)) <|
  eo 14 (.load 1 false (.t 13)) <|
  .nil) (.t 14) <|
  qo 16 (.mv (.t 15)) <|
  .prune [16, 3, 7] <|
  .sc false 21 16 (eo 17 (.load 1 false (.t 3)) <|
  eo 18 (.load 20 true (.t 7)) <|
  eo 19 (.call 76 [(.t 17), (.t 18)]) <|
  qo 20 (.nt (.t 19)) <|
  .nil) (.t 20) <|
  .nil)
  (.prune [21, 3, 7] (.cond (.t 21)
  (.ops <|
  eo 22 (.load 1 false (.t 3)) <|
  eo 23 (.load 20 true (.t 7)) <|
  eo 24 (.bsl 28 20 1 (.agg [(.arr 8 1 fun _ => (.int .i64 0)), (.arr 4 1 fun _ => (.int .i64 0)), (.arr 6 1 fun _ => (.int .i64 0)), (.bool false), (.bool false)]) [(0, (.t 23))]) <|
  eo 25 (.app 28 20 152 (.t 22) (.t 24)) <|
  en (.store 1 (.t 3) (.t 25)) <|
  .nil)
  .skip))))
  (.prune [] (.seq (.ops <|
  qo 6 (.mv (B true)) <|
  .nil)
  .ret))))
theorem c75 : fnIs Try.prog qall 75 = some (j75.flat, [.tmp 6], 26) := by kernel_rfl
theorem w75 : j75.wf 26 = true := by kernel_rfl
def idxEn (e : En) : List En → Int → Int
  | [], _ => -1
  | x :: r, i => if sameE e x = true then i else idxEn e r (i + 1)
theorem idxEn_ge (e : En) : ∀ (l : List En) (i : Int), 0 ≤ i → (decide (idxEn e l i ≥ 0) = l.any (sameE e))
  | [], i, h => by simp [idxEn]
  | x :: r, i, h => by
    rw [idxEn, List.any_cons]
    cases hx : sameE e x with
    | true => simp [h]
    | false => simpa using idxEn_ge e r (i + 1) (by omega)
theorem f_IndexEn (l : List En) (e : En) : FnOK Try.prog 120 [dEnds.emb l, dEn.emb e] [] (.int .i64 (idxEn e l 0)) [] := by
  refine fn_len fun hB => fn_walkF c120 w120 FH.none_ok rfl ?_
  simp only [go_sem, ↓reduceIte, Nat.reduceAdd, Nat.reduceMul, Nat.reduceSub, Nat.reduceLT, Nat.reduceLeDiff, Nat.reduceEqDiff, Int.reduceToNat, Int.reduceEq, Int.reduceLT, Int.reduceLE, reduceCtorEq] at hB
  unfold j120
  simp only [go_sem, ↓reduceIte, Nat.reduceAdd, Nat.reduceMul, Nat.reduceSub, Nat.reduceLT, Nat.reduceLeDiff, Nat.reduceEqDiff, Int.reduceToNat, Int.reduceEq, Int.reduceLT, Int.reduceLE, reduceCtorEq]
  refine loopF Nat (fun i => [.int .i64 i]) (fun _ => [.blk 28 (dEn.emb e)]) (fun i => i ≤ l.length ∧ idxEn e l 0 = idxEn e (l.drop i) i) (fun i => l.length - i) 0 ⟨by omega, rfl⟩ ?_ ?_ ?_
  · simp only [go_sem, ↓reduceIte, Nat.reduceAdd, Nat.reduceMul, Nat.reduceSub, Nat.reduceLT, Nat.reduceLeDiff, Nat.reduceEqDiff, Int.reduceToNat, Int.reduceEq, Int.reduceLT, Int.reduceLE, reduceCtorEq]
  · rfl
  rintro i ⟨hi, hq⟩
  by_cases h1 : i < l.length
  · have h1' : (i : Int) < l.length := by omega
    rw [drop_getD dEn.dft h1, idxEn] at hq
    unfold j120_1
    simp only [go_sem, ↓reduceIte, Nat.reduceAdd, Nat.reduceMul, Nat.reduceSub, Nat.reduceLT, Nat.reduceLeDiff, Nat.reduceEqDiff, Int.reduceToNat, Int.reduceEq, Int.reduceLT, Int.reduceLE, reduceCtorEq, h1, h1']
    refine ⟨by omega, fun hh => ?_, fun hh => ?_⟩
    · have hs : sameE e (l.getD i dEn.dft) = true := by
        unfold sameE
        simp only [go_sem, ↓reduceIte, Nat.reduceAdd, Nat.reduceMul, Nat.reduceSub, Nat.reduceLT, Nat.reduceLeDiff, Nat.reduceEqDiff, Int.reduceToNat, Int.reduceEq, Int.reduceLT, Int.reduceLE, reduceCtorEq]
        exact hh
      rw [hq, if_pos hs]
    · have hs : sameE e (l.getD i dEn.dft) = false := by
        unfold sameE
        simp only [go_sem, ↓reduceIte, Nat.reduceAdd, Nat.reduceMul, Nat.reduceSub, Nat.reduceLT, Nat.reduceLeDiff, Nat.reduceEqDiff, Int.reduceToNat, Int.reduceEq, Int.reduceLT, Int.reduceLE, reduceCtorEq]
        exact hh
      exact ⟨i + 1, ⟨h1, by rw [hq, if_neg (by rw [hs]; decide)]; rfl⟩, by omega, IntWalk.i64_in _ (by omega)⟩
  · have h1' : ¬ (i : Int) < l.length := by omega
    obtain rfl : i = l.length := by omega
    rw [List.drop_length] at hq
    have hq : idxEn e l 0 = -1 := hq
    rw [hq]
    unfold j120_1
    simp only [go_sem, ↓reduceIte, Nat.reduceAdd, Nat.reduceMul, Nat.reduceSub, Nat.reduceLT, Nat.reduceLeDiff, Nat.reduceEqDiff, Int.reduceToNat, Int.reduceEq, Int.reduceLT, Int.reduceLE, reduceCtorEq, h1']
    unfold j120_2
    simp only [go_sem, ↓reduceIte, Nat.reduceAdd, Nat.reduceMul, Nat.reduceSub, Nat.reduceLT, Nat.reduceLeDiff, Nat.reduceEqDiff, Int.reduceToNat, Int.reduceEq, Int.reduceLT, Int.reduceLE, reduceCtorEq]
def Gco (f : FuncId) (a : List SV) (m : List Res) : Sx.Call := (FH.rd 120 (.two dEnds dEn) (.one .int) (fun _ => True) (fun y => idxEn y.2.1 y.1 0) FH.none) f a m
theorem Gco_eq (f : FuncId) (a : List SV) (m : List Res) : Gco f a m = (FH.rd 120 (.two dEnds dEn) (.one .int) (fun _ => True) (fun y => idxEn y.2.1 y.1 0) FH.none) f a m := nr rfl
theorem Gco_ok : FHOK Try.prog Gco := FH.rd_ok (by kernel_rfl) (fun y _ => f_IndexEn y.1 y.2.1) FH.none_ok
theorem f_ContainsEn (l : List En) (e : En) : FnOK Try.prog 76 [dEnds.emb l, dEn.emb e] [] (.bool (l.any (sameE e))) [] := by
  refine fn_walkF c76 w76 Gco_ok rfl ?_
  unfold j76
  simp only [go_sem, ↓reduceIte, Nat.reduceAdd, Nat.reduceMul, Nat.reduceSub, Nat.reduceLT, Nat.reduceLeDiff, Nat.reduceEqDiff, Int.reduceToNat, Int.reduceEq, Int.reduceLT, Int.reduceLE, reduceCtorEq, Gco_eq]
  exact idxEn_ge e l 0 (by omega)
def addE (s : Sta) (p : List (List PO)) (l : List En) : List En := if (((endF' s p).done || (endF' s p).stuck) && !l.any (sameE (endF' s p))) = true then l ++ [endF' s p] else l
def Gvs (f : FuncId) (a : List SV) (m : List Res) : Sx.Call := (FH.mt 46 84 dSta (.one dProg) (.one dEn) (fun s y => Fit y.1 s.at' ∧ progC badP y.1 = 0) (fun s y => endF' s y.1) (fun s _ => s) <|
  FH.rd 76 (.two dEnds dEn) (.one .bool) (fun _ => True) (fun y => y.1.any (sameE y.2.1)) FH.none) f a m
theorem Gvs_eq (f : FuncId) (a : List SV) (m : List Res) : Gvs f a m = (FH.mt 46 84 dSta (.one dProg) (.one dEn) (fun s y => Fit y.1 s.at' ∧ progC badP y.1 = 0) (fun s y => endF' s y.1) (fun s _ => s) <|
  FH.rd 76 (.two dEnds dEn) (.one .bool) (fun _ => True) (fun y => y.1.any (sameE y.2.1)) FH.none) f a m := nr rfl
theorem Gvs_ok : FHOK Try.prog Gvs := FH.mt_ok (by kernel_rfl) (fun s y h => f_Ended s y.1 h.1 h.2) <| FH.rd_ok (by kernel_rfl) (fun y _ => f_ContainsEn y.1 y.2.1) FH.none_ok
def mN (p : List (List PO)) (l : List En) : List Res := [.blk 22 (dProg.emb p), .blk 62 (.vec 2 l.length), .vec 28 20 (l.map dEn.emb)]
theorem f_VisN (p : List (List PO)) (s : Sta) (pk : Option (List Int)) (l : List En) (h : Fit p s.at') (hp : progC badP p = 0) (hl : l.length ≤ 100000000000) : FnOK Try.prog 75 [dSta.emb s, dBe.emb pk, .ptr 0 [] 0, .ptr 1 [] 0] (mN p l)
    (.bool true) (mN p (addE s p l)) := by
  unfold mN
  refine fn_walkF c75 w75 Gvs_ok rfl ?_
  unfold j75
  simp only [go_sem, ↓reduceIte, Nat.reduceAdd, Nat.reduceMul, Nat.reduceSub, Nat.reduceLT, Nat.reduceLeDiff, Nat.reduceEqDiff, Int.reduceToNat, Int.reduceEq, Int.reduceLT, Int.reduceLE, reduceCtorEq, Gvs_eq, List.range_zero, List.nil_append, List.map_nil, List.set_cons_succ, List.set_cons_zero, selM, selI_eq, selJ, List.map_cons, List.take_succ_cons, List.take_zero, memAt, List.getD_cons_zero, List.getD_cons_succ]
  refine ⟨⟨h, hp⟩, fun hh => ?_, fun hh => ?_⟩
  · rw [addE, if_pos hh, List.length_append, List.map_append]
    exact ⟨by omega, rfl⟩
  · rw [addE, if_neg (by rw [hh]; decide)]
end Go.Proofs.Ytgcbhanfhnianaa.Ev
