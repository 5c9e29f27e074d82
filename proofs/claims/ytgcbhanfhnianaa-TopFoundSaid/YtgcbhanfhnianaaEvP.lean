/- All runs of a program, breadth first: is there one that races? Conditions: none. -/
import Derived.Test.YtgcbhanfhnianaaProgW
import Derived.Test.YtgcbhanfhnianaaRaceS
import Derived.Test.YtgcbhanfhnianaaCpy
import Derived.Test.YtgcbhanfhnianaaProgQ
import Derived.Test.YtgcbhanfhnianaaSecR
import Derived.Test.YtgcbhanfhnianaaTopR
section
set_option linter.unusedSimpArgs false
set_option linter.unusedVariables false
set_option maxRecDepth 100000
open Go Go.Sx Go.Proofs
namespace Go.Proofs.Ytgcbhanfhnianaa.Ev
open Go.Proofs.Ytgcbhanfhnianaa.D Go.Proofs.Ytgcbhanfhnianaa.Pg Go.Proofs.Ytgcbhanfhnianaa.Tr Go.Proofs.Ytgcbhanfhnianaa.Rn Go.Proofs.Ytgcbhanfhnianaa.Cp Go.Proofs.Ytgcbhanfhnianaa.Rc
abbrev dNds : DT (List Nd) := DT.list 39 dNd
def j73_1 : JC :=
  (.seq (.ops <|
  qo 15 (.cmp .lss (.t 14) (.t 13)) <|
  .nil)
  (.seq (.cond (.t 15)
  .skip
  (.exit 0))
  (.seq (.block 1 (.seq (.ops <|
  qo 16 (.is 1 (.t 12) (.t 14)) <|
  eo 17 (.load 1 false (.t 16)) <|
  qo 6 (.mv (.t 17)) <|
  .nil)
  (.ops <|
  .prune [4, 6, 14, 13, 12] <|
  qo 18 (.mv (.t 4)) <|
  qo 19 (.mv (.t 6)) <|
  qo 20 (.len (.t 19)) <|
  qo 21 (.ar .add (.t 18) (.t 20)) <|
  qo 4 (.mv (.t 21)) <|
  .nil)))
  (.prune [14, 13, 12, 4] (.ops <|
  qo 22 (.ar .add (.t 14) (I 1)) <|
  qo 14 (.mv (.t 22)) <|
  .nil)))))
def j73_2 : JC :=
  (.prune [4] (.seq (.seq (.ops <|
  qo 23 (.mv (.t 4)) <|
  qo 24 (.cmp .gtr (.t 23) (I 10)) <|
  .nil)
  (.cond (.t 24)
  (.seq (.ops <|
  qo 2 (.mv (I 2)) <|
  .nil)
  .ret)
  .skip))
  (.seq (.ops <|
  qo 2 (.mv (I 0)) <|
  .nil)
  .ret)))
def j73 : JC :=
  (.seq (.ops <|
  qo 2 (.mv (I 0)) <|
  .nil)
  (.seq (.seq (.ops <|
  qo 7 (.mv (.t 0)) <|
  eo 8 (.call 15 [(.t 7)]) <|
  qo 3 (.mv (.t 8)) <|
  .nil)
  (.seq (.ops <|
  qo 9 (.mv (.t 3)) <|
  qo 10 (.cmp .neq (.t 9) (I 0)) <|
  .nil)
  (.cond (.t 10)
  (.seq (.ops <|
  qo 11 (.mv (.t 3)) <|
  qo 2 (.mv (.t 11)) <|
  .nil)
  .ret)
  .skip)))
  (.seq (.ops <|
  qo 4 (.mv (I 0)) <|
  .nil)
  (.seq (.seq (.ops <|
  .prune [0, 4] <|
  qo 12 (.mv (.t 0)) <|
  qo 13 (.len (.t 12)) <|
  qo 14 (.mv (I 0)) <|
  .nil)
  (.prune [14, 13, 12, 4] (.block 0 (.loop [13, 12] [14, 4] j73_1))))
  j73_2))))
theorem c73 : fnIs Try.prog qall 73 = some (j73.flat, [.tmp 2], 25) := by kernel_rfl
theorem w73 : j73.wf 25 = true := by kernel_rfl
def j40_1 : JC :=
  (.seq (.ops <|
  qo 36 (.cmp .lss (.t 35) (.t 34)) <|
  .nil)
  (.seq (.cond (.t 36)
  .skip
  (.exit 4))
  (.seq (.block 5 (.seq (.ops <|
  qo 37 (.mv (.t 35)) <|
  qo 10 (.mv (.t 37)) <|
  .nil)
  (.prune [9, 0, 10, 35, 34, 7, 29, 28, 27] (.seq (.seq (.ops <|
  qo 38 (.fa 0 0 (.t 9)) <|
  qo 39 (.mv (.t 0)) <|
  qo 40 (.mv (.t 10)) <|
  eo 41 (.call 44 [(.t 38), (.t 39), (.t 40)]) <|
  qo 42 (.nt (.t 41)) <|
  .nil)
  (.cond (.t 42)
  (.exit 5)
  .skip))
  (.prune [9, 10, 0, 7, 35, 34, 29, 28, 27] (.seq (.gops (
  qo 43 (.fa 0 0 (.t 9)) <|
  eo 44 (.load 37 true (.t 43)) <|
  qo 45 (.fa 1 37 (.t 9)) <|
  eo 46 (.load 1 false (.t 45)) <|
  qo 48 (.mv (.t 10)) <|
  eo 49 (.qbsl 3 1 1 (.int .i64 0) [(0, (.t 48))]) <|
  qo 51 (.fa 2 38 (.t 9)) <|
  eo 52 (.load 1 false (.t 51)) <|
  eo 47 (.call 86 [(.t 46)]) <|
  .prune [44, 43, 52, 51, 47, 49, 0, 10, 9, 7, 35, 34, 29, 28, 27] <|
  en (.again 37 true (.t 43) 44) <|
  en (.again 1 false (.t 51) 52) <|
  eo 50 (.app 3 1 8 (.t 47) (.t 49)) <|
  .prune [44, 43, 52, 51, 50, 0, 10, 9, 7, 35, 34, 29, 28, 27] <|
  en (.again 37 true (.t 43) 44) <|
  en (.again 1 false (.t 51) 52) <|
  qo 53 (.bld (.agg [(.agg [(.agg [(.arr 8 1 fun _ => (.int .i64 0)), (.arr 4 1 fun _ => (.int .i64 0)), (.arr 6 1 fun _ => (.int .i64 0)), (.bool false), (.bool false)]), (.arr 6 1 fun _ => (.int .i64 0)), (.arr 6 1 fun _ => (.bool false)), (.arr 5 1 fun _ => (.int .i64 0))]), .nils, .nils]) [([.fld 0], 0, 37, (.t 44)), ([.fld 1], 37, 1, (.t 50)), ([.fld 2], 38, 1, (.t 52))]) <|
  .nil) 11 148 (.agg [(.agg [(.agg [(.arr 8 1 fun _ => (.int .i64 0)), (.arr 4 1 fun _ => (.int .i64 0)), (.arr 6 1 fun _ => (.int .i64 0)), (.bool false), (.bool false)]), (.arr 6 1 fun _ => (.int .i64 0)), (.arr 6 1 fun _ => (.bool false)), (.arr 5 1 fun _ => (.int .i64 0))]), .nils, .nils]) (
  en (.store 39 (.t 11) (.t 53)) <|
  .nil))
  (.frzb 11 dNd.frz <| .prune [11, 0, 10, 9, 7, 35, 34, 29, 28, 27] (.seq (.seq (.ops <|
  qo 55 (.fa 0 0 (.t 11)) <|
  qo 56 (.mv (.t 0)) <|
  qo 57 (.mv (.t 10)) <|
  eo 58 (.call 45 [(.t 55), (.t 56), (.t 57)]) <|
  .prune [58, 9, 11, 7, 35, 34, 0, 29, 28, 27] <|
  qo 54 (.mv (.t 58)) <|
  qo 59 (.ext 0 (.t 54)) <|
  qo 60 (.ext 1 (.t 54)) <|
  eo 12 (.alloc 35 (.agg [(.int .i64 0), (.int .i64 0), (.int .i64 0)])) <|
  en (.store 3 (.t 12) (.t 59)) <|
  qo 13 (.mv (.t 60)) <|
  .nil)
  (.prune [13, 9, 12, 11, 7, 35, 34, 0, 29, 28, 27] (.seq (.ops <|
  qo 61 (.mv (.t 13)) <|
  .nil)
  (.prune [61, 9, 12, 11, 7, 35, 34, 0, 29, 28, 27] (.cond (.t 61)
  (.seq (.dops <|
  qo 62 (.fa 2 38 (.t 9)) <|
  eo 63 (.load 1 false (.t 62)) <|
  eo 65 (.load 3 true (.t 12)) <|
  eo 66 (.qbsl 35 3 1 (.agg [(.int .i64 0), (.int .i64 0), (.int .i64 0)]) [(0, (.t 65))]) <|
  eo 64 (.call 66 [(.t 63)]) <|
  .prune [65, 12, 64, 66, 11, 7, 35, 34, 9, 0, 29, 28, 27] <|
  en (.again 3 true (.t 12) 65) <|
  .prune [64, 66, 11, 7, 35, 34, 9, 0, 29, 28, 27] <|
  eo 67 (.app 35 3 24 (.t 64) (.t 66)) <|
  qo 68 (.fa 2 38 (.t 11)) <|
  en (.store 1 (.t 68) (.t 67)) <|
  .nil)
  (.prune [11, 7, 35, 34, 9, 0, 29, 28, 27] (.seq (.ops <|
  qo 70 (.fa 2 38 (.t 11)) <|
  eo 71 (.load 1 false (.t 70)) <|
  eo 72 (.call 26 [(.t 71)]) <|
  qo 69 (.mv (.t 72)) <|
  .prune [69, 11, 7, 35, 34, 9, 0, 29, 28, 27] <|
  qo 73 (.ext 0 (.t 69)) <|
  qo 74 (.ext 1 (.t 69)) <|
  qo 14 (.mv (.t 73)) <|
  qo 15 (.mv (.t 74)) <|
  .nil)
  (.prune [14, 11, 7, 35, 34, 9, 0, 29, 28, 27] (.seq (.ops <|
  qo 75 (.mv (.t 14)) <|
  qo 76 (.len (.t 75)) <|
  qo 77 (.cmp .gtr (.t 76) (I 0)) <|
  .nil)
  (.prune [77, 11, 7, 35, 34, 9, 0, 29, 28, 27] (.cond (.t 77)
  (.seq (.dops <|
  .prune [11] <|
  qo 78 (.fa 1 37 (.t 11)) <|
  eo 79 (.load 1 false (.t 78)) <|
  qo 2 (.mv (B true)) <|
  qo 3 (.mv (.t 79)) <|
  qo 4 (.mv (I 0)) <|
  .nil)
  .ret)
  .skip)))))))
  .skip)))))
  (.frzb 11 dNd.frz <| .prune [7, 11, 35, 34, 9, 0, 29, 28, 27] (.ops <|
  qo 80 (.mv (.t 7)) <|
  eo 81 (.load 39 true (.t 11)) <|
  eo 82 (.bsl 148 39 1 (.agg [(.agg [(.agg [(.arr 8 1 fun _ => (.int .i64 0)), (.arr 4 1 fun _ => (.int .i64 0)), (.arr 6 1 fun _ => (.int .i64 0)), (.bool false), (.bool false)]), (.arr 6 1 fun _ => (.int .i64 0)), (.arr 6 1 fun _ => (.bool false)), (.arr 5 1 fun _ => (.int .i64 0))]), .nils, .nils]) [(0, (.t 81))]) <|
  eo 83 (.app 148 39 296 (.t 80) (.t 82)) <|
  qo 7 (.mv (.t 83)) <|
  .nil))))))))))
  (.prune [35, 34, 9, 0, 7, 29, 28, 27] (.ops <|
  qo 84 (.ar .add (.t 35) (I 1)) <|
  qo 35 (.mv (.t 84)) <|
  .nil)))))
def j40_2 : JC :=
  (.prune [29, 28, 27, 0, 7] (.ops <|
  qo 85 (.ar .add (.t 29) (I 1)) <|
  qo 29 (.mv (.t 85)) <|
  .nil))
def j40_3 : JC :=
  (.seq (.ops <|
  qo 30 (.cmp .lss (.t 29) (.t 28)) <|
  .nil)
  (.seq (.cond (.t 30)
  .skip
  (.exit 2))
  (.seq (.block 3 (.seq (.ops <|
  qo 31 (.is 39 (.t 27) (.t 29)) <|
  eo 32 (.load 39 true (.t 31)) <|
  eo 9 (.alloc 148 (.agg [(.agg [(.agg [(.arr 8 1 fun _ => (.int .i64 0)), (.arr 4 1 fun _ => (.int .i64 0)), (.arr 6 1 fun _ => (.int .i64 0)), (.bool false), (.bool false)]), (.arr 6 1 fun _ => (.int .i64 0)), (.arr 6 1 fun _ => (.bool false)), (.arr 5 1 fun _ => (.int .i64 0))]), .nils, .nils])) <|
  en (.store 39 (.t 9) (.t 32)) <|
  .nil)
  (.prune [0, 9, 7, 29, 28, 27] (.seq (.ops <|
  qo 33 (.mv (.t 0)) <|
  qo 34 (.len (.t 33)) <|
  qo 35 (.mv (I 0)) <|
  .nil)
  (.block 4 (.vecs 7 148 39 (.loop [34, 9, 0, 29, 28, 27] [35, 7] j40_1)))))))
  j40_2)))
def j40_4 : JC :=
  (.frz 7 dNds.frz <| .prune [7, 0] (.ops <|
  qo 86 (.mv (.t 7)) <|
  qo 6 (.mv (.t 86)) <|
  .nil))
def j40_5 : JC :=
  (.seq (.seq (.ops <|
  qo 24 (.mv (.t 6)) <|
  qo 25 (.len (.t 24)) <|
  qo 26 (.cmp .gtr (.t 25) (I 0)) <|
  .nil)
  (.cond (.t 26)
  .skip
  (.exit 0)))
  (.block 1 (.seq (.ops <|
  qo 7 (.mv (.c .nils)) <|
  .nil)
  (.seq (.seq (.ops <|
  qo 27 (.mv (.t 6)) <|
  qo 28 (.len (.t 27)) <|
  qo 29 (.mv (I 0)) <|
  .nil)
  (.block 2 (.vecs 7 148 39 (.loop [28, 27, 0] [29, 7] j40_3))))
  j40_4))))
def j40_6 : JC :=
  (.prune [] (.seq (.ops <|
  qo 2 (.mv (B false)) <|
  qo 3 (.mv (.c .nils)) <|
  qo 4 (.mv (I 0)) <|
  .nil)
  .ret))
def j40 : JC :=
  (.seq (.ops <|
  qo 2 (.mv (B false)) <|
  qo 3 (.mv (.c .nils)) <|
  qo 4 (.mv (I 0)) <|
  .nil)
  (.seq (.seq (.ops <|
  qo 16 (.mv (.t 0)) <|
  eo 17 (.call 73 [(.t 16)]) <|
  qo 5 (.mv (.t 17)) <|
  .nil)
  (.seq (.ops <|
  qo 18 (.mv (.t 5)) <|
  qo 19 (.cmp .neq (.t 18) (I 0)) <|
  .nil)
  (.cond (.t 19)
  (.seq (.ops <|
  .prune [5] <|
  qo 20 (.mv (.t 5)) <|
  qo 2 (.mv (B false)) <|
  qo 3 (.mv (.c .nils)) <|
  qo 4 (.mv (.t 20)) <|
  .nil)
  .ret)
  .skip)))
  (.prune [0] (.seq (.ops <|
  eo 21 (.call 43 []) <|
  qo 22 (.bld (.agg [(.agg [(.agg [(.arr 8 1 fun _ => (.int .i64 0)), (.arr 4 1 fun _ => (.int .i64 0)), (.arr 6 1 fun _ => (.int .i64 0)), (.bool false), (.bool false)]), (.arr 6 1 fun _ => (.int .i64 0)), (.arr 6 1 fun _ => (.bool false)), (.arr 5 1 fun _ => (.int .i64 0))]), .nils, .nils]) [([.fld 0], 0, 37, (.t 21))]) <|
  eo 23 (.bsl 148 39 1 (.agg [(.agg [(.agg [(.arr 8 1 fun _ => (.int .i64 0)), (.arr 4 1 fun _ => (.int .i64 0)), (.arr 6 1 fun _ => (.int .i64 0)), (.bool false), (.bool false)]), (.arr 6 1 fun _ => (.int .i64 0)), (.arr 6 1 fun _ => (.bool false)), (.arr 5 1 fun _ => (.int .i64 0))]), .nils, .nils]) [(0, (.t 22))]) <|
  qo 6 (.mv (.t 23)) <|
  .nil)
  (.seq (.block 0 (.frz 6 dNds.frz (.loop [0] [6] j40_5)))
  j40_6)))))
theorem c40 : fnIs Try.prog (qbut [86, 66]) 40 = some (j40.flat, [.tmp 2, .tmp 3, .tmp 4], 87) := by kernel_rfl
theorem w40 : j40.wf 87 = true := by kernel_rfl
def manyL (p : List (List PO)) : Nat := (p.map List.length).sum
def echF (p : List (List PO)) : Int := if progC badP p ≠ 0 then progC badP p else if 10 < manyL p then 2 else 0
def Gec (f : FuncId) (a : List SV) (m : List Res) : Sx.Call := (FH.rd 15 (.one dProg) (.one .int) (fun _ => True) (fun y => progC badP y.1) FH.none) f a m
theorem Gec_eq (f : FuncId) (a : List SV) (m : List Res) : Gec f a m = (FH.rd 15 (.one dProg) (.one .int) (fun _ => True) (fun y => progC badP y.1) FH.none) f a m := nr rfl
theorem Gec_ok : FHOK Try.prog Gec := FH.rd_ok (by kernel_rfl) (fun y _ => Pg.f_Check y.1) FH.none_ok
theorem many_take (p : List (List PO)) {i : Nat} (h : i < p.length) : manyL (p.take (i + 1)) = manyL (p.take i) + (p.getD i []).length := by
  rw [take_getD [] h]; simp [manyL]
theorem many_le {p : List (List PO)} (hp : progC badP p = 0) : ∀ i, i ≤ p.length → manyL (p.take i) ≤ 12 * i
  | 0, _ => by simp [manyL]
  | i + 1, h => by
    rw [many_take p h]
    have := many_le hp i (by omega)
    have := (good_of hp h).1
    omega
theorem f_check (p : List (List PO)) : FnOK Try.prog 73 [dProg.emb p] [] (.int .i64 (echF p)) [] := by
  refine fn_walkF c73 w73 Gec_ok rfl ?_
  unfold j73
  by_cases hp : progC badP p = 0
  · have e : echF p = if 10 < manyL p then 2 else 0 := by rw [echF, if_neg (by simp [hp])]
    rw [e]
    have h6 : p.length ≤ 6 := by
      unfold progC at hp
      split at hp
      · cases hp
      · omega
    simp only [go_sem, ↓reduceIte, Nat.reduceAdd, Nat.reduceMul, Nat.reduceSub, Nat.reduceLT, Nat.reduceLeDiff, Nat.reduceEqDiff, Int.reduceToNat, Int.reduceEq, Int.reduceLT, Int.reduceLE, reduceCtorEq, Gec_eq, hp]
    refine loopF Nat (fun i => [.int .i64 i, .int .i64 (manyL (p.take i))]) (fun i => []) (fun i => i ≤ p.length) (fun i => p.length - i) 0 (by omega) ?_ rfl ?_
    · simp only [go_sem, ↓reduceIte, Nat.reduceAdd, Nat.reduceMul, Nat.reduceSub, Nat.reduceLT, Nat.reduceLeDiff, Nat.reduceEqDiff, Int.reduceToNat, Int.reduceEq, Int.reduceLT, Int.reduceLE, reduceCtorEq]
      rfl
    intro i hi
    have hm := many_le hp i hi
    unfold j73_1
    simp only [go_sem, ↓reduceIte, Nat.reduceAdd, Nat.reduceMul, Nat.reduceSub, Nat.reduceLT, Nat.reduceLeDiff, Nat.reduceEqDiff, Int.reduceToNat, Int.reduceEq, Int.reduceLT, Int.reduceLE, reduceCtorEq]
    refine ⟨fun q => ?_, fun q => ?_⟩
    · have q' : i < p.length := by omega
      have hl := (good_of hp q').1
      refine ⟨⟨by omega, by omega⟩, i + 1, by omega, by omega, IntWalk.i64_in _ (by omega), ?_⟩
      rw [many_take p q']
      have : ((manyL (p.take i) : Nat) : Int) + ((p.getD i []).length : Int) = ((manyL (p.take i) + (p.getD i []).length : Nat) : Int) := by omega
      rw [this, IntWalk.i64_in _ (by omega)]
    · have : i = p.length := by omega
      subst this
      rw [List.take_length]
      unfold j73_2
      simp only [go_sem, ↓reduceIte, Nat.reduceAdd, Nat.reduceMul, Nat.reduceSub, Nat.reduceLT, Nat.reduceLeDiff, Nat.reduceEqDiff, Int.reduceToNat, Int.reduceEq, Int.reduceLT, Int.reduceLE, reduceCtorEq]
      exact ⟨fun h => by rw [if_pos (by omega)], fun h => by rw [if_neg (by omega)]⟩
  · have e : echF p = progC badP p := by rw [echF, if_pos hp]
    rw [e]
    simp only [go_sem, ↓reduceIte, Nat.reduceAdd, Nat.reduceMul, Nat.reduceSub, Nat.reduceLT, Nat.reduceLeDiff, Nat.reduceEqDiff, Int.reduceToNat, Int.reduceEq, Int.reduceLT, Int.reduceLE, reduceCtorEq, Gec_eq, hp]
def kidF (p : List (List PO)) (nd : Nd) (t : Nat) : Nd := match nextF nd.s p t with
  | none => nd
  | some (l, i) => ⟨stF nd.s p t (l.getD i dOp.dft), nd.pk ++ [(t : Int)], if evK nd.s p t (l.getD i dOp.dft) = 0 then nd.ev else nd.ev ++ [evE (evK nd.s p t (l.getD i dOp.dft)) t (l.getD i dOp.dft)]⟩
def tellB (p : List (List PO)) (nd : Nd) (t : Nat) : Bool := match nextF nd.s p t with
  | none => false
  | some (l, i) => !decide (evK nd.s p t (l.getD i dOp.dft) = 0)
def secB (l : List Ev) : Bool := decide (0 < (tellF (fun r => r.b) l).length)
def hitB (p : List (List PO)) (nd : Nd) (t : Nat) : Bool := canF nd.s p t && (tellB p nd t && secB (kidF p nd t).ev)
def kidsT (p : List (List PO)) (nd : Nd) (k : Nat) : List Nd := (List.range k).flatMap fun t : Nat => if canF nd.s p t = true then [kidF p nd t] else []
def hitsT (p : List (List PO)) (nd : Nd) (k : Nat) : List (List Int) := (List.range k).flatMap fun t : Nat => if hitB p nd t = true then [(kidF p nd t).pk] else []
def kidsR (p : List (List PO)) (row : List Nd) : List Nd := row.flatMap fun nd => kidsT p nd p.length
def hitsR (p : List (List PO)) (row : List Nd) : List (List Int) := row.flatMap fun nd => hitsT p nd p.length
def bfs (p : List (List PO)) : Nat → List Nd → Option (List Int)
  | 0, _ => none
  | f + 1, row => match hitsR p row with
    | pk :: _ => some pk
    | [] => bfs p f (kidsR p row)
def rootN : Nd := ⟨firstS, [], []⟩
def racesB (p : List (List PO)) : Option (List Int) := if echF p = 0 then bfs p 11 [rootN] else none
def sumAt (p : List (List PO)) (at' : Nat → Int) : Nat := ((List.range p.length).map fun t => (at' t).toNat).sum
structure NdOK (p : List (List PO)) (lev : Nat) (nd : Nd) : Prop where
  fit : Fit p nd.s.at'
  sum : sumAt p nd.s.at' = lev
  pk : nd.pk.length ≤ lev
  ev : nd.ev.length ≤ lev
def Ger (f : FuncId) (a : List SV) (m : List Res) : Sx.Call := (FH.rd 73 (.one dProg) (.one .int) (fun _ => True) (fun y => echF y.1) <| FH.rd 43 .nil (.one dSta) (fun _ => True) (fun _ => firstS) <|
  FH.mv 44 148 [.fld 0] 0 dNd (.two dProg .int) (DP.one DT.bool) (fun s y => Fit y.1 s.s.at' ∧ progC badP y.1 = 0) (fun s y => canF s.s y.1 y.2.1) (fun s _ => s) <|
  FH.mv 45 148 [.fld 0] 0 dNd (.two dProg .int) (DP.two dEv DT.bool) (fun s y => Fit y.1 s.s.at' ∧ progC badP y.1 = 0 ∧ (nextF s.s y.1 y.2.1).isSome = true) (fun s y => match nextF s.s y.1 y.2.1 with
    | none => (⟨0, 0, 0⟩, false)
    | some (l, i) => (evE (evK s.s y.1 y.2.1.toNat (l.getD i dOp.dft)) y.2.1.toNat (l.getD i dOp.dft), !decide (evK s.s y.1 y.2.1.toNat (l.getD i dOp.dft) = 0))) (fun s y => match nextF s.s y.1 y.2.1 with
    | none => s
    | some (l, i) => ⟨stF s.s y.1 y.2.1.toNat (l.getD i dOp.dft), s.pk, s.ev⟩) <|
  FH.mk 86 (.one dIs) (fun y => y.1.length ≤ 1000000) (fun y => .vec 0 y.1.length) (fun y => [.vec 3 1 (y.1.map DT.int.emb)]) <|
  FH.mk 66 (.one dEs) (fun y => y.1.length ≤ 1000000) (fun y => .vec 0 y.1.length) (fun y => [.vec 35 3 (y.1.map dEv.emb)]) <|
  FH.mk 26 (.one dEs) (fun _ => True) (fun y => .tup [.vec 0 (tellF (fun r => r.b) y.1).length, .int .i64 (playedF y.1).2.2]) (fun y => [.vec 3 1 ((tellF (fun r => r.b) y.1).map DT.int.emb)]) FH.none) f a m
theorem Ger_eq (f : FuncId) (a : List SV) (m : List Res) : Ger f a m = (FH.rd 73 (.one dProg) (.one .int) (fun _ => True) (fun y => echF y.1) <| FH.rd 43 .nil (.one dSta) (fun _ => True) (fun _ => firstS) <|
  FH.mv 44 148 [.fld 0] 0 dNd (.two dProg .int) (DP.one DT.bool) (fun s y => Fit y.1 s.s.at' ∧ progC badP y.1 = 0) (fun s y => canF s.s y.1 y.2.1) (fun s _ => s) <|
  FH.mv 45 148 [.fld 0] 0 dNd (.two dProg .int) (DP.two dEv DT.bool) (fun s y => Fit y.1 s.s.at' ∧ progC badP y.1 = 0 ∧ (nextF s.s y.1 y.2.1).isSome = true) (fun s y => match nextF s.s y.1 y.2.1 with
    | none => (⟨0, 0, 0⟩, false)
    | some (l, i) => (evE (evK s.s y.1 y.2.1.toNat (l.getD i dOp.dft)) y.2.1.toNat (l.getD i dOp.dft), !decide (evK s.s y.1 y.2.1.toNat (l.getD i dOp.dft) = 0))) (fun s y => match nextF s.s y.1 y.2.1 with
    | none => s
    | some (l, i) => ⟨stF s.s y.1 y.2.1.toNat (l.getD i dOp.dft), s.pk, s.ev⟩) <|
  FH.mk 86 (.one dIs) (fun y => y.1.length ≤ 1000000) (fun y => .vec 0 y.1.length) (fun y => [.vec 3 1 (y.1.map DT.int.emb)]) <|
  FH.mk 66 (.one dEs) (fun y => y.1.length ≤ 1000000) (fun y => .vec 0 y.1.length) (fun y => [.vec 35 3 (y.1.map dEv.emb)]) <|
  FH.mk 26 (.one dEs) (fun _ => True) (fun y => .tup [.vec 0 (tellF (fun r => r.b) y.1).length, .int .i64 (playedF y.1).2.2]) (fun y => [.vec 3 1 ((tellF (fun r => r.b) y.1).map DT.int.emb)]) FH.none) f a m := nr rfl
theorem Ger_ok : FHOK Try.prog Ger := FH.rd_ok (by kernel_rfl) (fun y _ => f_check y.1) <| FH.rd_ok (by kernel_rfl) (fun _ _ => f_First) <| FH.mv_ok (by kernel_rfl) (fun s y h => w_Can s.s s.pk s.ev y.1 y.2.1 h.1 h.2) <|
  FH.mv_ok (by kernel_rfl) (fun s y h => by
    obtain ⟨p, t, u⟩ := y
    obtain ⟨h1, h2, h3⟩ := h
    simp only at h1 h2 h3
    cases hx : nextF s.s p t with
    | none => rw [hx] at h3; cases h3
    | some y =>
      obtain ⟨l, i⟩ := y
      obtain ⟨n, rfl, _⟩ := next_some h1 hx
      have := w_Step s.s s.pk s.ev p n l i h1 h2 hx
      simp only [hx, Int.toNat_natCast]
      exact this) <|
  FH.mk_ok (by kernel_rfl) (fun y _ => plainM (pv_vec _ _) ⟨plR_vec _ _ DT.int _, trivial⟩) (fun y h => f_CloneInt y.1 h) <|
  FH.mk_ok (by kernel_rfl) (fun y _ => plainM (pv_vec _ _) ⟨plR_vec _ _ dEv _, trivial⟩) (fun y h => f_CloneEv y.1 h) <|
  FH.mk_ok (by kernel_rfl) (fun y _ => plainM (pv_tup ⟨plV_vec _ _, plV_int _ _, trivial⟩) ⟨plR_vec _ _ DT.int _, trivial⟩) (fun y _ => f_Seconds y.1) FH.none_ok
def nxt (p : List (List PO)) (row : List Nd) (i : Nat) : List Nd := kidsR p (row.take i)
theorem can_some {s : Sta} {p : List (List PO)} {t : Int} (h : canF s p t = true) : ∃ l i, nextF s p t = some (l, i) := by
  cases hx : nextF s p t with
  | none => rw [canF, hx] at h; cases h
  | some y => exact ⟨y.1, y.2, rfl⟩
theorem hits_step (p : List (List PO)) (nd : Nd) (t : Nat) : hitsT p nd (t + 1) = hitsT p nd t ++ if hitB p nd t = true then [(kidF p nd t).pk] else [] := by
  simp [hitsT, List.range_succ, List.flatMap_append]
theorem kids_step (p : List (List PO)) (nd : Nd) (t : Nat) : kidsT p nd (t + 1) = kidsT p nd t ++ if canF nd.s p t = true then [kidF p nd t] else [] := by
  simp [kidsT, List.range_succ, List.flatMap_append]
theorem kids_len (p : List (List PO)) (nd : Nd) : ∀ t, (kidsT p nd t).length ≤ t
  | 0 => Nat.le_refl _
  | t + 1 => by
    rw [kids_step, List.length_append]
    have := kids_len p nd t
    split <;> simp <;> omega
theorem kidsR_len (p : List (List PO)) : ∀ row : List Nd, (kidsR p row).length ≤ row.length * p.length
  | [] => by simp [kidsR]
  | nd :: row => by
    have h1 := kidsR_len p row
    have h2 := kids_len p nd p.length
    simp only [kidsR, List.flatMap_cons, List.length_append, List.length_cons] at h1 ⊢
    rw [Nat.add_mul, Nat.one_mul]
    omega
theorem hits_pre (p : List (List PO)) (nd : Nd) (t : Nat) (h0 : hitsT p nd t = []) (h1 : hitB p nd t = true) : ∀ j, ∃ r, hitsT p nd (t + 1 + j) = (kidF p nd t).pk :: r
  | 0 => ⟨[], by rw [Nat.add_zero, hits_step, h0, if_pos h1]; rfl⟩
  | j + 1 => by
    obtain ⟨r, h⟩ := hits_pre p nd t h0 h1 j
    rw [show t + 1 + (j + 1) = (t + 1 + j) + 1 by omega, hits_step, h]
    exact ⟨_, rfl⟩
theorem row_split {row : List Nd} {i : Nat} {nd : Nd} (hi : i < row.length) (h : row.getD i dNd.dft = nd) : row = row.take i ++ nd :: row.drop (i + 1) := by
  have e : row[i] = nd := by rw [← h]; simp [List.getD, hi]
  rw [← e, List.getElem_cons_drop, List.take_append_drop]
theorem hits_at {p : List (List PO)} {row : List Nd} {i t : Nat} {nd : Nd} (hi : i < row.length) (hnd : row.getD i dNd.dft = nd) (hh : hitsR p (row.take i) = []) (ht : t < p.length) (h0 : hitsT p nd t = []) (h1 : hitB p nd t = true) : ∃ r, hitsR p row = (kidF p nd t).pk :: r := by
  obtain ⟨r, h⟩ := hits_pre p nd t h0 h1 (p.length - (t + 1))
  rw [show t + 1 + (p.length - (t + 1)) = p.length by omega] at h
  rw [row_split hi hnd, hitsR, List.flatMap_append, List.flatMap_cons, h]
  have : (row.take i).flatMap (fun nd => hitsT p nd p.length) = [] := hh
  rw [this]
  exact ⟨_, rfl⟩
theorem take_row {row : List Nd} {i : Nat} {nd : Nd} (hi : i < row.length) (hnd : row.getD i dNd.dft = nd) : row.take (i + 1) = row.take i ++ [nd] := by rw [take_getD dNd.dft hi, hnd]
theorem hits_row {p : List (List PO)} {row : List Nd} {i : Nat} {nd : Nd} (hi : i < row.length) (hnd : row.getD i dNd.dft = nd) : hitsR p (row.take (i + 1)) = hitsR p (row.take i) ++ hitsT p nd p.length := by
  rw [take_row hi hnd, hitsR, List.flatMap_append, List.flatMap_cons, List.flatMap_nil, List.append_nil]; rfl
theorem nxt_step {p : List (List PO)} {row : List Nd} {i : Nat} {nd : Nd} (hi : i < row.length) (hnd : row.getD i dNd.dft = nd) : nxt p row (i + 1) = nxt p row i ++ kidsT p nd p.length := by
  rw [nxt, take_row hi hnd, kidsR, List.flatMap_append, List.flatMap_cons, List.flatMap_nil, List.append_nil]; rfl
theorem bfs_nil (p : List (List PO)) : ∀ f, bfs p f [] = none
  | 0 => rfl
  | f + 1 => bfs_nil p f
theorem sum_le {p : List (List PO)} {at' : Nat → Int} (h : Fit p at') : ∀ n, n ≤ p.length → ((List.range n).map fun t => (at' t).toNat).sum ≤ manyL (p.take n)
  | 0, _ => by simp
  | n + 1, hn => by
    have := sum_le h n (by omega)
    have := h.at0 n (by omega)
    rw [List.range_succ, List.map_append, List.sum_append, many_take p (by omega)]
    simp only [List.map_cons, List.map_nil, List.sum_cons, List.sum_nil]
    omega
theorem sum_upd (f : Nat → Int) (t : Nat) (h : 0 ≤ f t) : ∀ n, ((List.range n).map fun k => (Tr.upd f t (f t + 1) k).toNat).sum = ((List.range n).map fun k => (f k).toNat).sum + if t < n then 1 else 0
  | 0 => by simp
  | n + 1 => by
    have ih := sum_upd f t h n
    rw [List.range_succ, List.map_append, List.sum_append, List.map_append, List.sum_append, ih]
    simp only [List.map_cons, List.map_nil, List.sum_cons, List.sum_nil, Tr.upd]
    by_cases e : n = t
    · subst e
      simp
      omega
    · rw [if_neg e]
      by_cases q : t < n
      · rw [if_pos q, if_pos (by omega)]; omega
      · rw [if_neg q, if_neg (by omega)]; omega
theorem kid_ok {p : List (List PO)} (hp : progC badP p = 0) {lev : Nat} {nd : Nd} (h : NdOK p lev nd) {t : Nat} (hc : canF nd.s p t = true) : NdOK p (lev + 1) (kidF p nd t) := by
  obtain ⟨l, i, hx⟩ := can_some hc
  obtain ⟨n, e, h1, h2, h3, h4, h5⟩ := next_some h.fit hx
  obtain rfl : t = n := by omega
  have hk : kidF p nd t = ⟨stF nd.s p t (l.getD i dOp.dft), nd.pk ++ [(t : Int)], if evK nd.s p t (l.getD i dOp.dft) = 0 then nd.ev else nd.ev ++ [evE (evK nd.s p t (l.getD i dOp.dft)) t (l.getD i dOp.dft)]⟩ := by rw [kidF, hx]
  have h0 := h.fit.at0 t h1
  rw [hk]
  refine ⟨⟨h.fit.n, fun k hkl => ?_⟩, ?_, ?_, ?_⟩
  · show 0 ≤ Tr.upd nd.s.at' t (nd.s.at' t + 1) k ∧ Tr.upd nd.s.at' t (nd.s.at' t + 1) k ≤ _
    have := h.fit.at0 k hkl
    unfold Tr.upd
    split
    · rename_i e; subst e
      rw [← h3]
      omega
    · exact this
  · show sumAt p (Tr.upd nd.s.at' t (nd.s.at' t + 1)) = lev + 1
    have := sum_upd nd.s.at' t h0.1 p.length
    rw [if_pos h1] at this
    rw [sumAt, this, ← h.sum]; rfl
  · have := h.pk
    simp; omega
  · have := h.ev
    simp only
    split <;> simp <;> omega
theorem kids_mem {p : List (List PO)} {nd m : Nd} : ∀ {k : Nat}, m ∈ kidsT p nd k → ∃ t, canF nd.s p (t : Nat) = true ∧ m = kidF p nd t
  | 0, h => by simp [kidsT] at h
  | k + 1, h => by
    rw [kids_step, List.mem_append] at h
    rcases h with h | h
    · exact kids_mem h
    · split at h
      · rename_i hc
        simp at h
        exact ⟨k, hc, h⟩
      · cases h
theorem root_ok {p : List (List PO)} (hp : progC badP p = 0) : NdOK p 0 rootN := by
  refine ⟨fit_first hp, ?_, Nat.le_refl _, Nat.le_refl _⟩
  have : ∀ n, ((List.range n).map fun t => (rootN.s.at' t).toNat).sum = 0 := by
    intro n
    induction n with
    | zero => rfl
    | succ n ih =>
      rw [List.range_succ, List.map_append, List.sum_append, ih]; rfl
  exact this _
theorem f_Races (p : List (List PO)) : FnOK Try.prog 40 [dProg.emb p] [] (.tup [.bool (racesB p).isSome, (DT.slo 1 DT.int).emb (racesB p), .int .i64 (echF p)]) [] := by
  refine fn_walkF c40 w40 Ger_ok rfl ?_
  unfold j40
  by_cases hc : ¬ echF p = 0
  · have e : racesB p = none := if_neg hc
    rw [e]
    simp only [go_sem, ↓reduceIte, Nat.reduceAdd, Nat.reduceMul, Nat.reduceSub, Nat.reduceLT, Nat.reduceLeDiff, Nat.reduceEqDiff, Int.reduceToNat, Int.reduceEq, Int.reduceLT, Int.reduceLE, reduceCtorEq, Ger_eq, hc]
    rfl
  have hc : echF p = 0 := Classical.not_not.1 hc
  have e : racesB p = bfs p 11 [rootN] := if_pos hc
  have hp : progC badP p = 0 := by
    unfold echF at hc
    split at hc
    · exact absurd hc (by assumption)
    · rename_i h; simpa using h
  have h10 : manyL p ≤ 10 := by
    unfold echF at hc
    rw [if_neg (by simp [hp])] at hc
    split at hc
    · cases hc
    · omega
  rw [e]
  simp only [go_sem, ↓reduceIte, Nat.reduceAdd, Nat.reduceMul, Nat.reduceSub, Nat.reduceLT, Nat.reduceLeDiff, Nat.reduceEqDiff, Int.reduceToNat, Int.reduceEq, Int.reduceLT, Int.reduceLE, reduceCtorEq, Ger_eq, hc, List.range_zero, List.nil_append, List.map_nil, List.set_cons_succ, List.set_cons_zero, selM, selI_eq, selJ, List.map_cons, List.take_succ_cons, List.take_zero, memAt, List.getD_cons_zero, List.getD_cons_succ]
  refine loopF (Nat × List Nd) (fun s => [dNds.emb s.2]) (fun _ => [.dead]) (fun s => bfs p 11 [rootN] = bfs p s.1 s.2 ∧ s.1 ≤ 11 ∧ (∀ nd ∈ s.2, NdOK p (11 - s.1) nd) ∧ s.2.length ≤ 6 ^ (11 - s.1)) (fun s => s.1) (11, [rootN]) ⟨rfl, Nat.le_refl _, ?_, ?_⟩ ?_ rfl ?_
  · intro nd hnd
    simp only [List.mem_singleton] at hnd
    subst hnd
    exact root_ok hp
  · simp
  · simp only [go_sem, ↓reduceIte, Nat.reduceAdd, Nat.reduceMul, Nat.reduceSub, Nat.reduceLT, Nat.reduceLeDiff, Nat.reduceEqDiff, Int.reduceToNat, Int.reduceEq, Int.reduceLT, Int.reduceLE, reduceCtorEq, rootN]
  · rintro ⟨f, row⟩ ⟨k1, k2, k3, k4⟩
    rw [k1]
    unfold j40_5
    simp only [go_sem, ↓reduceIte, Nat.reduceAdd, Nat.reduceMul, Nat.reduceSub, Nat.reduceLT, Nat.reduceLeDiff, Nat.reduceEqDiff, Int.reduceToNat, Int.reduceEq, Int.reduceLT, Int.reduceLE, reduceCtorEq, Ger_eq, List.range_zero, List.nil_append, List.map_nil, List.set_cons_succ, List.set_cons_zero, selM, selI_eq, selJ, List.map_cons, List.take_succ_cons, List.take_zero, memAt, List.getD_cons_zero, List.getD_cons_succ]
    have h6 : p.length ≤ 6 := by
      unfold progC at hp
      split at hp
      · cases hp
      · omega
    simp only at k1 k2 k3 k4
    have hf : 0 < row.length → 1 ≤ f := fun h0 => by
      have hok := k3 _ (List.getElem_mem h0)
      have h1 := sum_le hok.fit p.length (Nat.le_refl _)
      rw [List.take_length] at h1
      have h2 := hok.sum
      rw [sumAt] at h2
      omega
    have hpow : 6 ^ (11 - f) ≤ 362797056 := Nat.le_trans (Nat.pow_le_pow_right (by omega) (Nat.sub_le _ _)) (by decide)
    have hnx : ∀ i, i ≤ row.length → (nxt p row i).length ≤ 2176782336 := fun i hi => by
      have h1 := kidsR_len p (row.take i)
      rw [List.length_take, Nat.min_eq_left hi] at h1
      have h2 : i * p.length ≤ 362797056 * 6 := Nat.mul_le_mul (by omega) h6
      unfold nxt
      omega
    refine ⟨fun hne => ?_, fun hno => ?_⟩
    · have hf := hf (by omega)
      refine loopF Nat (fun i => [.int .i64 i, .vec 1 (nxt p row i).length]) (fun i => [.dead, .vec 148 39 ((nxt p row i).map dNd.emb)]) (fun i => i ≤ row.length ∧ hitsR p (row.take i) = []) (fun i => row.length - i) 0 ⟨by omega, rfl⟩ ?_ rfl ?_
      · simp only [go_sem, ↓reduceIte, Nat.reduceAdd, Nat.reduceMul, Nat.reduceSub, Nat.reduceLT, Nat.reduceLeDiff, Nat.reduceEqDiff, Int.reduceToNat, Int.reduceEq, Int.reduceLT, Int.reduceLE, reduceCtorEq]
        rfl
      rintro i ⟨hi, hh⟩
      have hni := hnx i hi
      unfold j40_3
      simp only [go_sem, ↓reduceIte, Nat.reduceAdd, Nat.reduceMul, Nat.reduceSub, Nat.reduceLT, Nat.reduceLeDiff, Nat.reduceEqDiff, Int.reduceToNat, Int.reduceEq, Int.reduceLT, Int.reduceLE, reduceCtorEq, Ger_eq, List.range_zero, List.nil_append, List.map_nil, List.set_cons_succ, List.set_cons_zero, selM, selI_eq, selJ, List.map_cons, List.take_succ_cons, List.take_zero, memAt, List.getD_cons_zero, List.getD_cons_succ]
      refine ⟨fun q => ⟨⟨by omega, by omega⟩, ?_⟩, fun q => ?_⟩
      · have q' : i < row.length := by omega
        generalize hnd : row.getD i dNd.dft = nd
        have hok : NdOK p (11 - f) nd := by
          rw [← hnd]
          refine k3 _ ?_
          rw [List.getD_eq_getElem?_getD, List.getElem?_eq_getElem q']
          exact List.getElem_mem q'
        have hpk := hok.pk
        have hev := hok.ev
        refine loopF Nat (fun t => [.int .i64 t, .vec 1 (nxt p row i ++ kidsT p nd t).length]) (fun t => [.dead, .vec 148 39 ((nxt p row i ++ kidsT p nd t).map dNd.emb), .blk 148 (dNd.emb nd)]) (fun t => t ≤ p.length ∧ hitsT p nd t = []) (fun t => p.length - t) 0 ⟨by omega, rfl⟩ ?_ ?_ ?_
        · have : kidsT p nd 0 = [] := rfl
          rw [this, List.append_nil]
          simp only [go_sem, ↓reduceIte, Nat.reduceAdd, Nat.reduceMul, Nat.reduceSub, Nat.reduceLT, Nat.reduceLeDiff, Nat.reduceEqDiff, Int.reduceToNat, Int.reduceEq, Int.reduceLT, Int.reduceLE, reduceCtorEq]
        · have : kidsT p nd 0 = [] := rfl
          rw [this, List.append_nil]
          rfl
        rintro t ⟨ht, hth⟩
        have hkl := kids_len p nd t
        unfold j40_1
        by_cases qt : t < p.length
        · have qt' : (t : Int) < p.length := by omega
          cases hcan : canF nd.s p t with
          | false =>
            simp only [go_sem, ↓reduceIte, Nat.reduceAdd, Nat.reduceMul, Nat.reduceSub, Nat.reduceLT, Nat.reduceLeDiff, Nat.reduceEqDiff, Int.reduceToNat, Int.reduceEq, Int.reduceLT, Int.reduceLE, reduceCtorEq, Ger_eq, hcan, qt', List.range_zero, List.nil_append, List.map_nil, List.set_cons_succ, List.set_cons_zero, selM, selI_eq, selJ, List.map_cons, List.take_succ_cons, List.take_zero, memAt, List.getD_cons_zero, List.getD_cons_succ]
            have hh0 : hitB p nd t = false := by rw [hitB, hcan]; rfl
            refine ⟨⟨hok.fit, hp⟩, t + 1, ⟨by omega, by rw [hits_step, hth, hh0]; rfl⟩, by omega, ⟨IntWalk.i64_in _ (by omega), ?_⟩, ?_⟩
            · rw [kids_step, hcan]; simp
            · rw [kids_step, hcan]; simp
          | true =>
            obtain ⟨l, k, hx⟩ := can_some hcan
            have hkid : kidF p nd t = ⟨stF nd.s p t (l.getD k dOp.dft), nd.pk ++ [(t : Int)], if evK nd.s p t (l.getD k dOp.dft) = 0 then nd.ev else nd.ev ++ [evE (evK nd.s p t (l.getD k dOp.dft)) t (l.getD k dOp.dft)]⟩ := by rw [kidF, hx]
            have htell : tellB p nd t = !decide (evK nd.s p t (l.getD k dOp.dft) = 0) := by rw [tellB, hx]
            by_cases he : evK nd.s p t (l.getD k dOp.dft) = 0
            · rw [if_pos he] at hkid
              have hh0 : hitB p nd t = false := by rw [hitB, htell, he]; simp
              simp only [go_sem, ↓reduceIte, Nat.reduceAdd, Nat.reduceMul, Nat.reduceSub, Nat.reduceLT, Nat.reduceLeDiff, Nat.reduceEqDiff, Int.reduceToNat, Int.reduceEq, Int.reduceLT, Int.reduceLE, reduceCtorEq, Ger_eq, hcan, qt', hx, he, Int.toNat_natCast, List.range_zero, List.nil_append, List.map_nil, List.set_cons_succ, List.set_cons_zero, selM, selI_eq, selJ, List.map_cons, List.take_succ_cons, List.take_zero, memAt, List.getD_cons_zero, List.getD_cons_succ]
              refine ⟨⟨hok.fit, hp⟩, by omega, by omega, ⟨hok.fit, hp, rfl⟩, by rw [List.length_append, List.length_map, List.length_map]; omega, t + 1, ⟨by omega, by rw [hits_step, hth, hh0]; rfl⟩, by omega, ⟨IntWalk.i64_in _ (by omega), ?_⟩, ?_⟩
              · rw [kids_step, if_pos hcan]; simp; omega
              · rw [kids_step, if_pos hcan, hkid, List.map_append]; rfl
            · rw [if_neg he] at hkid
              have hsec : hitB p nd t = decide (0 < (tellF (fun r => r.b) (nd.ev ++ [evE (evK nd.s p t (l.getD k dOp.dft)) t (l.getD k dOp.dft)])).length) := by
                rw [hitB, htell, hcan, hkid, decide_eq_false he]; simp [secB]
              simp only [go_sem, ↓reduceIte, Nat.reduceAdd, Nat.reduceMul, Nat.reduceSub, Nat.reduceLT, Nat.reduceLeDiff, Nat.reduceEqDiff, Int.reduceToNat, Int.reduceEq, Int.reduceLT, Int.reduceLE, reduceCtorEq, Ger_eq, hcan, qt', hx, he, Int.toNat_natCast, List.range_zero, List.nil_append, List.map_nil, List.set_cons_succ, List.set_cons_zero, selM, selI_eq, selJ, List.map_cons, List.take_succ_cons, List.take_zero, memAt, List.getD_cons_zero, List.getD_cons_succ]
              refine ⟨⟨hok.fit, hp⟩, by omega, by omega, ⟨hok.fit, hp, rfl⟩, by omega, by omega, fun hs => ?_, fun hs => ⟨by rw [List.length_append, List.length_map, List.length_map]; omega, t + 1, ⟨by omega, ?_⟩, by omega, ⟨IntWalk.i64_in _ (by omega), ?_⟩, ?_⟩⟩
              · obtain ⟨r, hr⟩ := hits_at q' hnd hh qt hth (by rw [hsec]; exact decide_eq_true (by omega))
                obtain ⟨f', rfl⟩ : ∃ f', f = f' + 1 := ⟨f - 1, by omega⟩
                rw [bfs, hr, hkid, hc]
                rfl
              · have hh0 : hitB p nd t = false := by rw [hsec]; exact decide_eq_false (by omega)
                rw [hits_step, hth, hh0]; rfl
              · rw [kids_step, if_pos hcan]; simp; omega
              · rw [kids_step, if_pos hcan, hkid, List.map_append]; rfl
        · have qt' : ¬ (t : Int) < p.length := by omega
          have et : t = p.length := by omega
          subst et
          simp only [go_sem, ↓reduceIte, Nat.reduceAdd, Nat.reduceMul, Nat.reduceSub, Nat.reduceLT, Nat.reduceLeDiff, Nat.reduceEqDiff, Int.reduceToNat, Int.reduceEq, Int.reduceLT, Int.reduceLE, reduceCtorEq, Ger_eq, qt', List.range_zero, List.nil_append, List.map_nil, List.set_cons_succ, List.set_cons_zero, selM, selI_eq, selJ, List.map_cons, List.take_succ_cons, List.take_zero, memAt, List.getD_cons_zero, List.getD_cons_succ]
          unfold j40_2
          simp only [go_sem, ↓reduceIte, Nat.reduceAdd, Nat.reduceMul, Nat.reduceSub, Nat.reduceLT, Nat.reduceLeDiff, Nat.reduceEqDiff, Int.reduceToNat, Int.reduceEq, Int.reduceLT, Int.reduceLE, reduceCtorEq, Ger_eq, List.range_zero, List.nil_append, List.map_nil, List.set_cons_succ, List.set_cons_zero, selM, selI_eq, selJ, List.map_cons, List.take_succ_cons, List.take_zero, memAt, List.getD_cons_zero, List.getD_cons_succ]
          refine ⟨i + 1, ⟨by omega, by rw [hits_row q' hnd, hh, hth]; rfl⟩, by omega, ⟨IntWalk.i64_in _ (by omega), ?_⟩, ?_⟩
          · rw [nxt_step q' hnd]
          · rw [nxt_step q' hnd, List.map_append]
      · have ei : i = row.length := by omega
        subst ei
        rw [List.take_length] at hh
        unfold j40_4
        simp only [go_sem, ↓reduceIte, Nat.reduceAdd, Nat.reduceMul, Nat.reduceSub, Nat.reduceLT, Nat.reduceLeDiff, Nat.reduceEqDiff, Int.reduceToNat, Int.reduceEq, Int.reduceLT, Int.reduceLE, reduceCtorEq, Ger_eq, List.range_zero, List.nil_append, List.map_nil, List.set_cons_succ, List.set_cons_zero, selM, selI_eq, selJ, List.map_cons, List.take_succ_cons, List.take_zero, memAt, List.getD_cons_zero, List.getD_cons_succ]
        have en : nxt p row row.length = kidsR p row := by rw [nxt, List.take_length]
        obtain ⟨f', rfl⟩ : ∃ f', f = f' + 1 := ⟨f - 1, by omega⟩
        refine ⟨(f', kidsR p row), ⟨by rw [bfs, hh], by show f' ≤ 11; omega, fun m hm => ?_, ?_⟩, Nat.lt_succ_self _, by rw [en]⟩
        · obtain ⟨nd, hnd, hm⟩ := List.mem_flatMap.1 hm
          obtain ⟨t, hc, rfl⟩ := kids_mem hm
          have := kid_ok hp (k3 nd hnd) hc
          rwa [show 11 - (f' + 1) + 1 = 11 - f' by omega] at this
        · show (kidsR p row).length ≤ 6 ^ (11 - f')
          have h1 := kidsR_len p row
          have h2 : row.length * p.length ≤ 6 ^ (11 - (f' + 1)) * 6 := Nat.mul_le_mul k4 h6
          rw [← Nat.pow_succ, show (11 - (f' + 1)).succ = 11 - f' by omega] at h2
          omega
    · have er : row = [] := List.length_eq_zero_iff.1 (by omega)
      subst er
      rw [bfs_nil]
      unfold j40_6
      simp only [go_sem, ↓reduceIte, Nat.reduceAdd, Nat.reduceMul, Nat.reduceSub, Nat.reduceLT, Nat.reduceLeDiff, Nat.reduceEqDiff, Int.reduceToNat, Int.reduceEq, Int.reduceLT, Int.reduceLE, reduceCtorEq, Ger_eq, hc, List.range_zero, List.nil_append, List.map_nil, List.set_cons_succ, List.set_cons_zero, selM, selI_eq, selJ, List.map_cons, List.take_succ_cons, List.take_zero, memAt, List.getD_cons_zero, List.getD_cons_succ]
      rfl
end Go.Proofs.Ytgcbhanfhnianaa.Ev
end
section
set_option linter.unusedSimpArgs false
set_option linter.unusedVariables false
set_option maxRecDepth 100000
open Go Go.Sx Go.Proofs
namespace Go.Proofs.Ytgcbhanfhnianaa.Ev
open Go.Proofs.Ytgcbhanfhnianaa.D Go.Proofs.Ytgcbhanfhnianaa.Pg Go.Proofs.Ytgcbhanfhnianaa.Tr Go.Proofs.Ytgcbhanfhnianaa.Rn Go.Proofs.Ytgcbhanfhnianaa.Cp Go.Proofs.Ytgcbhanfhnianaa.Rc
abbrev dBe := DT.slo 1 DT.int
def raceB (l : List Ev) : Bool := decide (0 < (racesF l).length)
structure GOK (p : List (List PO)) (ks : List Int) (g : Pg) : Prop where
  eq : g = runG p ks ks.length
  sum : sumAt p g.at' = ks.length
  z : gt g = ks
theorem GOK.first {p : List (List PO)} (hp : progC badP p = 0) : GOK p [] (firstG p) := ⟨rfl, (root_ok hp).sum, rfl⟩
end Go.Proofs.Ytgcbhanfhnianaa.Ev
end
section
set_option linter.unusedSimpArgs false
set_option linter.unusedVariables false
open Go Go.Sx Go.Proofs
namespace Go.Proofs.Ytgcbhanfhnianaa.Ev
open Go.Proofs.Ytgcbhanfhnianaa.D Go.Proofs.Ytgcbhanfhnianaa.Pg Go.Proofs.Ytgcbhanfhnianaa.Tr Go.Proofs.Ytgcbhanfhnianaa.Rn Go.Proofs.Ytgcbhanfhnianaa.Cp Go.Proofs.Ytgcbhanfhnianaa.Rc
theorem ech_ok {p : List (List PO)} (hc : echF p = 0) : progC badP p = 0 ∧ manyL p ≤ 10 := by
  have hp : progC badP p = 0 := by
    unfold echF at hc
    split at hc
    · exact absurd hc (by assumption)
    · rename_i h; simpa using h
  refine ⟨hp, ?_⟩
  unfold echF at hc
  rw [if_neg (by simp [hp])] at hc
  split at hc
  · cases hc
  · omega
abbrev Ks := List Int
def canK (p : List (List PO)) (ks : Ks) (t : Nat) : Bool := canF (runS p ks ks.length) p t
def kidsK (p : List (List PO)) (ks : Ks) : List Ks := (List.range p.length).flatMap fun t : Nat => if canK p ks t = true then [ks ++ [(t : Int)]] else []
def levK (p : List (List PO)) : Nat → Ks → List Ks
  | 0, x => [x]
  | k + 1, x => (levK p k x).flatMap (kidsK p)
def RK (p : List (List PO)) (ks : Ks) : Bool := raceB (runE p ks ks.length)
theorem kid_len {p : List (List PO)} {x y : Ks} (h : y ∈ kidsK p x) : y.length = x.length + 1 := by
  obtain ⟨t, _, h⟩ := List.mem_flatMap.1 h
  split at h
  · simp at h; subst h; simp
  · cases h
/-! ### The two walks, by the picks -/
theorem run_pre (p : List (List PO)) (ks r : Ks) : ∀ i, i ≤ ks.length → runS p (ks ++ r) i = runS p ks i ∧ runE p (ks ++ r) i = runE p ks i
  | 0, _ => ⟨rfl, rfl⟩
  | i + 1, h => by
    obtain ⟨h1, h2⟩ := run_pre p ks r i (by omega)
    have e : (ks ++ r).getD i 0 = ks.getD i 0 := by simp [List.getD, List.getElem?_append_left (show i < ks.length by omega)]
    rw [runS, runS, runE, runE, h1, h2, e]
    exact ⟨rfl, rfl⟩
def nodeK (p : List (List PO)) (ks : Ks) : Nd := ⟨runS p ks ks.length, ks, runE p ks ks.length⟩
theorem run_snoc (p : List (List PO)) (ks : Ks) (t : Int) : runS p (ks ++ [t]) (ks ++ [t]).length = pickS p (runS p ks ks.length) t ∧ runE p (ks ++ [t]) (ks ++ [t]).length = runE p ks ks.length ++ pickE p (runS p ks ks.length) t := by
  have e : (ks ++ [t]).getD ks.length 0 = t := by simp [List.getD]
  obtain ⟨h1, h2⟩ := run_pre p ks [t] ks.length (Nat.le_refl _)
  rw [List.length_append, List.length_singleton, runS, runE, h1, h2, e]
  exact ⟨rfl, rfl⟩
theorem kid_node {p : List (List PO)} {ks : Ks} {t : Nat} (hc : canK p ks t = true) : kidF p (nodeK p ks) t = nodeK p (ks ++ [(t : Int)]) ∧ (tellB p (nodeK p ks) t = false → runE p (ks ++ [(t : Int)]) (ks ++ [(t : Int)]).length = runE p ks ks.length) := by
  obtain ⟨l, i, hx⟩ := can_some hc
  obtain ⟨h1, h2⟩ := run_snoc p ks t
  have hc' : canF (runS p ks ks.length) p t = true := hc
  have e3 : nodeK p (ks ++ [(t : Int)]) = ⟨pickS p (runS p ks ks.length) t, ks ++ [(t : Int)], runE p ks ks.length ++ pickE p (runS p ks ks.length) t⟩ := by rw [nodeK, h1, h2]
  rw [e3, h2]
  simp only [nodeK, kidF, tellB, hx, pickS, pickE, hc', if_true, true_and, Int.toNat_natCast]
  generalize l.getD i dOp.dft = o
  by_cases he : evK (runS p ks ks.length) p t o = 0
  · simp [he]
  · simp [he]
theorem sec_race {l : List Ev} (h : (checkR l).2 = 0) : secB l = raceB l := by
  have hp : (playedF l).2.2 = 0 := by rw [err_same]; exact h
  unfold secB raceB tellF
  rw [if_pos hp, decide_eq_decide]
  have hl : (SortP.sorted ((racesF l).map fun r => r.b)).length = (racesF l).length := by rw [SortP.sorted_len, List.length_map]
  constructor
  · intro h0
    have := SortP.compact_len (SortP.sorted ((racesF l).map fun r => r.b))
    omega
  · intro h0
    generalize SortP.sorted ((racesF l).map fun r => r.b) = z at hl
    refine List.length_pos_of_mem (a := z.toArray[0]!) ?_
    unfold Lib.compact Lib.compactUpTo
    refine List.mem_map.2 ⟨0, List.mem_filter.2 ⟨List.mem_range.2 (by omega), Lib.keeps_lt_one _ 0 (by omega)⟩, rfl⟩
theorem kids_node {p : List (List PO)} {ks : Ks} : ∀ n, kidsT p (nodeK p ks) n = ((List.range n).flatMap fun t : Nat => if canK p ks t = true then [ks ++ [(t : Int)]] else []).map (nodeK p)
  | 0 => rfl
  | n + 1 => by
    rw [kids_step, kids_node n, List.range_succ, List.flatMap_append, List.map_append]
    congr 1
    simp only [List.flatMap_cons, List.flatMap_nil, List.append_nil]
    by_cases hc : canK p ks n = true
    · rw [if_pos hc, if_pos (show canF (nodeK p ks).s p n = true from hc), (kid_node hc).1]; rfl
    · rw [if_neg hc, if_neg (show ¬ canF (nodeK p ks).s p n = true from hc)]; rfl
theorem hits_node {p : List (List PO)} (hp : progC badP p = 0) {ks : Ks} (hR : RK p ks = false) : ∀ n, hitsT p (nodeK p ks) n = ((List.range n).flatMap fun t : Nat => if canK p ks t = true then [ks ++ [(t : Int)]] else []).filter (RK p)
  | 0 => rfl
  | n + 1 => by
    rw [hits_step, hits_node hp hR n, List.range_succ, List.flatMap_append, List.filter_append]
    congr 1
    simp only [List.flatMap_cons, List.flatMap_nil, List.append_nil]
    by_cases hc : canK p ks n = true
    · obtain ⟨k1, k2⟩ := kid_node hc
      have hc' : canF (nodeK p ks).s p n = true := hc
      have hs : secB (kidF p (nodeK p ks) n).ev = RK p (ks ++ [(n : Int)]) := by
        rw [k1]; exact sec_race (Tp.run_ok hp _ _)
      rw [if_pos hc, hitB, hc', hs, k1]
      cases ht : tellB p (nodeK p ks) n with
      | true =>
        cases hr : RK p (ks ++ [(n : Int)]) <;> simp [hr, nodeK]
      | false =>
        have : RK p (ks ++ [(n : Int)]) = false := by rw [RK, k2 ht]; exact hR
        simp [this]
    · have hc' : canF (nodeK p ks).s p n = false := by simpa [nodeK, canK] using hc
      rw [if_neg hc, hitB, hc']; rfl
theorem rows_node {p : List (List PO)} (l : List Ks) : kidsR p (l.map (nodeK p)) = (l.flatMap (kidsK p)).map (nodeK p) := by
  induction l with
  | nil => rfl
  | cons x l ih =>
    rw [List.map_cons, kidsR, List.flatMap_cons, List.flatMap_cons, List.map_append, kids_node]
    congr 1
theorem hrow_node {p : List (List PO)} (hp : progC badP p = 0) (l : List Ks) (h : ∀ x ∈ l, RK p x = false) : hitsR p (l.map (nodeK p)) = (l.flatMap (kidsK p)).filter (RK p) := by
  induction l with
  | nil => rfl
  | cons x l ih =>
    rw [List.map_cons, hitsR, List.flatMap_cons, List.flatMap_cons, List.filter_append, hits_node hp (h x (List.mem_cons_self ..))]
    congr 1
    exact ih fun z hz => h z (List.mem_cons_of_mem _ hz)
theorem bfs_is {p : List (List PO)} (hp : progC badP p = 0) : ∀ (f j : Nat), (∀ x ∈ levK p j [], RK p x = false) →
    (∃ k ks r, j < k ∧ k ≤ j + f ∧ (levK p k []).filter (RK p) = ks :: r ∧ (∀ i, j ≤ i → i < k → ∀ x ∈ levK p i [], RK p x = false) ∧ bfs p f ((levK p j []).map (nodeK p)) = some ks) ∨
    ((∀ i, j ≤ i → i ≤ j + f → ∀ x ∈ levK p i [], RK p x = false) ∧ bfs p f ((levK p j []).map (nodeK p)) = none)
  | 0, j, h => .inr ⟨fun i h1 h2 => by rw [show i = j by omega]; exact h, rfl⟩
  | f + 1, j, h => by
    have e := hrow_node hp _ h
    have e2 : (levK p j []).flatMap (kidsK p) = levK p (j + 1) [] := rfl
    rw [e2] at e
    cases hf : (levK p (j + 1) []).filter (RK p) with
    | cons ks r =>
      refine .inl ⟨j + 1, ks, r, by omega, by omega, hf, fun i h1 h2 => by rw [show i = j by omega]; exact h, ?_⟩
      rw [bfs, e, hf]
    | nil =>
      have h' : ∀ x ∈ levK p (j + 1) [], RK p x = false := fun x hx => by
        have := List.filter_eq_nil_iff.1 hf x hx
        simpa using this
      have eb : bfs p (f + 1) ((levK p j []).map (nodeK p)) = bfs p f ((levK p (j + 1) []).map (nodeK p)) := by
        rw [bfs, e, hf, rows_node, e2]
      rw [eb]
      rcases bfs_is hp f (j + 1) h' with ⟨k, ks, r, g1, g2, g3, g4, g5⟩ | ⟨g1, g2⟩
      · refine .inl ⟨k, ks, r, by omega, by omega, g3, fun i h1 h2 => ?_, g5⟩
        by_cases q : i = j
        · subst q; exact h
        · exact g4 i (by omega) h2
      · refine .inr ⟨fun i h1 h2 => ?_, g2⟩
        by_cases q : i = j
        · subst q; exact h
        · exact g1 i (by omega) (by omega)
theorem race_nil : raceB [] = false := by decide
end Go.Proofs.Ytgcbhanfhnianaa.Ev
end
