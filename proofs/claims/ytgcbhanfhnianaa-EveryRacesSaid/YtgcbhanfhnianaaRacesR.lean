/- What a thread, a lock, a signal know. Conditions: none. -/
import Derived.Test.YtgcbhanfhnianaaAheadQ
import Derived.Test.YtgcbhanfhnianaaTraceM
section
set_option linter.unusedSimpArgs false
set_option linter.unusedVariables false
open Go Go.Sx Go.Proofs
namespace Go.Proofs.Ytgcbhanfhnianaa.St
open Go.Proofs.Ytgcbhanfhnianaa.D Go.Proofs.Ytgcbhanfhnianaa.Tr Go.Proofs.Ytgcbhanfhnianaa.Ah Go.Proofs.Ytgcbhanfhnianaa.Ps Go.Proofs.Ytgcbhanfhnianaa.Od
/-- Not behind. -/
def Le' (l : List Ev) (a b : Nat) : Prop := a = b ∨ Ahd l a b
def TS (l : List Ev) (j t : Nat) (i : Nat) : Prop := ∃ c, c < j ∧ Le' l i c ∧ ((at' l c).thr.toNat = t ∨ (at' l c).kind = 5 ∧ (at' l c).obj.toNat = t)
def LS (l : List Ev) (j m : Nat) (i : Nat) : Prop := ∃ c, c < j ∧ Le' l i c ∧ (at' l c).kind = 4 ∧ (at' l c).obj.toNat = m
def VS (l : List Ev) (j m : Nat) (i : Nat) : Prop := ∃ c, c < j ∧ Le' l i c ∧ (at' l c).kind = 8 ∧ (at' l c).obj.toNat = m
section
variable {l : List Ev} (hok : (checkR l).2 = 0)
include hok
end
end Go.Proofs.Ytgcbhanfhnianaa.St
end
section
set_option linter.unusedSimpArgs false
set_option linter.unusedVariables false
set_option maxRecDepth 100000
open Go Go.Sx Go.Proofs
namespace Go.Proofs.Ytgcbhanfhnianaa.Rc
open Go.Proofs.Ytgcbhanfhnianaa.D Go.Proofs.Ytgcbhanfhnianaa.Tr Go.Proofs.Ytgcbhanfhnianaa.Ah Go.Proofs.Ytgcbhanfhnianaa.Ps Go.Proofs.Ytgcbhanfhnianaa.Od Go.Proofs.Ytgcbhanfhnianaa.St
def noRace (l : List Ev) (i j : Nat) (a b : Ev) : Bool := decide ((j : Int) ≤ i) || decide (2 < a.kind) || decide (2 < b.kind) || !decide (a.obj = b.obj) || decide (IntKind.i64.wrap (a.kind + b.kind) < 3) || aheadR l i j
def rkind (a b : Ev) : Int := if a.kind = 1 then 3 else if b.kind = 1 then 2 else 1
def rowC (l : List Ev) (i : Nat) : Nat → List Rc
  | 0 => []
  | j + 1 => rowC l i j ++ if noRace l i j (l.getD i dEv.dft) (l.getD j dEv.dft) = true then [] else [⟨i, j, (l.getD i dEv.dft).obj, rkind (l.getD i dEv.dft) (l.getD j dEv.dft)⟩]
def allC (l : List Ev) : Nat → List Rc
  | 0 => []
  | i + 1 => allC l i ++ rowC l i l.length
theorem rowC_len {l : List Ev} {i : Nat} : ∀ j, (rowC l i j).length ≤ j
  | 0 => Nat.le_refl _
  | j + 1 => by
    have := rowC_len (l := l) (i := i) j
    rw [rowC, List.length_append]
    split <;> simp <;> omega
theorem allC_len {l : List Ev} : ∀ i, (allC l i).length ≤ i * l.length
  | 0 => by simp [allC]
  | i + 1 => by
    have h1 := allC_len (l := l) i
    have h2 := rowC_len (l := l) (i := i) l.length
    rw [allC, List.length_append, Nat.add_mul]
    omega
def racesF (l : List Ev) : List Rc := allC l l.length
def j35_1 : JC :=
  (.seq (.ops <|
  qo 22 (.cmp .lss (.t 21) (.t 20)) <|
  .nil)
  (.prune [22, 21, 19, 5, 6, 3, 20, 4, 14, 13, 12, 0] (.seq (.cond (.t 22)
  .skip
  (.exit 2))
  (.prune [21, 19, 5, 6, 3, 20, 4, 14, 13, 12, 0] (.seq (.block 3 (.seq (.ops <|
  qo 23 (.mv (.t 21)) <|
  qo 24 (.is 3 (.t 19) (.t 21)) <|
  eo 25 (.load 3 true (.t 24)) <|
  eo 8 (.alloc 35 (.agg [(.int .i64 0), (.int .i64 0), (.int .i64 0)])) <|
  qo 7 (.mv (.t 23)) <|
  en (.store 3 (.t 8) (.t 25)) <|
  .nil)
  (.prune [5, 7, 6, 8, 3, 21, 20, 19, 4, 14, 13, 12, 0] (.seq (.seq (.ops <|
  qo 26 (.mv (.t 5)) <|
  qo 27 (.mv (.t 7)) <|
  qo 28 (.cmp .geq (.t 26) (.t 27)) <|
  qo 29 (.mv (.t 28)) <|
  .prune [29, 6, 8, 3, 5, 7, 21, 20, 19, 4, 14, 13, 12, 0] <|
  .sc true 33 29 (qo 30 (.fa 0 0 (.t 6)) <|
  eo 31 (.load 1 false (.t 30)) <|
  qo 32 (.cmp .gtr (.t 31) (I 2)) <|
  .nil) (.t 32) <|
  qo 34 (.mv (.t 33)) <|
  .sc true 38 34 (qo 35 (.fa 0 0 (.t 8)) <|
  eo 36 (.load 1 false (.t 35)) <|
  qo 37 (.cmp .gtr (.t 36) (I 2)) <|
  .nil) (.t 37) <|
  .prune [38, 6, 8, 3, 5, 7, 21, 20, 19, 4, 14, 13, 12, 0] <|
  qo 39 (.mv (.t 38)) <|
  .sc true 45 39 (qo 40 (.fa 2 2 (.t 6)) <|
  eo 41 (.load 1 false (.t 40)) <|
  qo 42 (.fa 2 2 (.t 8)) <|
  eo 43 (.load 1 false (.t 42)) <|
  qo 44 (.cmp .neq (.t 41) (.t 43)) <|
  .nil) (.t 44) <|
  qo 46 (.mv (.t 45)) <|
  .prune [46, 6, 8, 3, 5, 7, 21, 20, 19, 4, 14, 13, 12, 0] <|
  .sc true 53 46 (qo 47 (.fa 0 0 (.t 6)) <|
  eo 48 (.load 1 false (.t 47)) <|
  qo 49 (.fa 0 0 (.t 8)) <|
  eo 50 (.load 1 false (.t 49)) <|
  qo 51 (.ar .add (.t 48) (.t 50)) <|
  qo 52 (.cmp .lss (.t 51) (I 3)) <|
  .nil) (.t 52) <|
  qo 54 (.mv (.t 53)) <|
  .sc true 62 54 (qo 55 (.mv (.t 3)) <|
  qo 56 (.mv (.t 5)) <|
  qo 57 (.is 1 (.t 55) (.t 56)) <|
  eo 58 (.load 1 false (.t 57)) <|
  qo 59 (.mv (.t 7)) <|
  qo 60 (.is 1 (.t 58) (.t 59)) <|
  eo 61 (.load 1 false (.t 60)) <|
  .nil) (.t 61) <|
  .nil)
  (.cond (.t 62)
  (.exit 3)
  .skip))
  (.prune [8, 6, 4, 5, 7, 21, 20, 19, 3, 14, 13, 12, 0] (.seq (.ops <|
  qo 9 (.mv (I 1)) <|
  .nil)
  (.prune [8, 6, 4, 5, 7, 21, 20, 19, 3, 14, 13, 12, 0, 9] (.seq (.seq (.ops <|
  qo 63 (.fa 0 0 (.t 8)) <|
  eo 64 (.load 1 false (.t 63)) <|
  qo 65 (.cmp .eql (.t 64) (I 1)) <|
  .nil)
  (.prune [65, 6, 4, 5, 7, 21, 20, 19, 3, 14, 13, 12, 0, 9] (.cond (.t 65)
  (.ops <|
  qo 9 (.mv (I 2)) <|
  .nil)
  .skip)))
  (.prune [6, 4, 5, 7, 21, 20, 19, 3, 14, 13, 12, 0, 9] (.seq (.seq (.ops <|
  qo 66 (.fa 0 0 (.t 6)) <|
  eo 67 (.load 1 false (.t 66)) <|
  qo 68 (.cmp .eql (.t 67) (I 1)) <|
  .nil)
  (.prune [68, 4, 5, 7, 6, 21, 20, 19, 3, 14, 13, 12, 0, 9] (.cond (.t 68)
  (.ops <|
  qo 9 (.mv (I 3)) <|
  .nil)
  .skip)))
  (.prune [4, 5, 7, 6, 9, 21, 20, 19, 3, 14, 13, 12, 0] (.ops <|
  qo 69 (.mv (.t 4)) <|
  qo 70 (.mv (.t 5)) <|
  qo 71 (.mv (.t 7)) <|
  qo 72 (.fa 2 2 (.t 6)) <|
  eo 73 (.load 1 false (.t 72)) <|
  .prune [9, 70, 71, 73, 69, 21, 20, 19, 5, 6, 3, 14, 13, 12, 0] <|
  qo 74 (.mv (.t 9)) <|
  qo 75 (.bld (.agg [(.int .i64 0), (.int .i64 0), (.int .i64 0), (.int .i64 0)]) [([.fld 0], 0, 1, (.t 70)), ([.fld 1], 1, 1, (.t 71)), ([.fld 2], 2, 1, (.t 73)), ([.fld 3], 3, 1, (.t 74))]) <|
  .prune [75, 69, 21, 20, 19, 5, 6, 3, 14, 13, 12, 0] <|
  eo 76 (.bsl 126 4 1 (.agg [(.int .i64 0), (.int .i64 0), (.int .i64 0), (.int .i64 0)]) [(0, (.t 75))]) <|
  eo 77 (.app 126 4 32 (.t 69) (.t 76)) <|
  qo 4 (.mv (.t 77)) <|
  .nil))))))))))))
  (.prune [21, 20, 19, 5, 6, 3, 4, 14, 13, 12, 0] (.ops <|
  qo 78 (.ar .add (.t 21) (I 1)) <|
  qo 21 (.mv (.t 78)) <|
  .nil)))))))
def j35_2 : JC :=
  (.prune [14, 13, 12, 0, 3, 4] (.ops <|
  qo 79 (.ar .add (.t 14) (I 1)) <|
  qo 14 (.mv (.t 79)) <|
  .nil))
def j35_3 : JC :=
  (.seq (.ops <|
  qo 15 (.cmp .lss (.t 14) (.t 13)) <|
  .nil)
  (.seq (.cond (.t 15)
  .skip
  (.exit 0))
  (.seq (.block 1 (.seq (.ops <|
  qo 16 (.mv (.t 14)) <|
  qo 17 (.is 3 (.t 12) (.t 14)) <|
  eo 18 (.load 3 true (.t 17)) <|
  eo 6 (.alloc 35 (.agg [(.int .i64 0), (.int .i64 0), (.int .i64 0)])) <|
  qo 5 (.mv (.t 16)) <|
  en (.store 3 (.t 6) (.t 18)) <|
  .nil)
  (.prune [0, 5, 6, 3, 4, 14, 13, 12] (.seq (.ops <|
  qo 19 (.mv (.t 0)) <|
  qo 20 (.len (.t 19)) <|
  qo 21 (.mv (I 0)) <|
  .nil)
  (.prune [21, 20, 19, 5, 6, 3, 4, 14, 13, 12, 0] (.block 2 (.vecs 4 126 4 (.loop [20, 19, 5, 6, 3, 14, 13, 12, 0] [21, 4] j35_1))))))))
  j35_2)))
def j35_4 : JC :=
  (.prune [4] (.seq (.ops <|
  qo 80 (.mv (.t 4)) <|
  qo 2 (.mv (.t 80)) <|
  .nil)
  (.vecs 2 126 4 .ret)))
def j35 : JC :=
  (.seq (.ops <|
  qo 2 (.mv (.c .nils)) <|
  .nil)
  (.seq (.ops <|
  qo 10 (.mv (.t 0)) <|
  eo 11 (.call 54 [(.t 10)]) <|
  qo 3 (.mv (.t 11)) <|
  .nil)
  (.seq (.ops <|
  qo 4 (.mv (.c .nils)) <|
  .nil)
  (.seq (.seq (.ops <|
  qo 12 (.mv (.t 0)) <|
  qo 13 (.len (.t 12)) <|
  qo 14 (.mv (I 0)) <|
  .nil)
  (.block 0 (.vecs 4 126 4 (.loop [13, 12, 0, 3] [14, 4] j35_3))))
  j35_4))))
theorem c35 : fnIs Try.prog qall 35 = some (j35.flat, [.tmp 2], 81) := by kernel_rfl
theorem w35 : j35.wf 81 = true := by kernel_rfl
def Grc (f : FuncId) (a : List SV) (m : List Res) : Sx.Call := (FH.pz 54 (.one dEs) (.one dRows) (fun y => y.1.length ≤ 1000) (fun y => rowsOf y.1.length (aheadR y.1)) FH.none) f a m
theorem Grc_eq (f : FuncId) (a : List SV) (m : List Res) : Grc f a m = (FH.pz 54 (.one dEs) (.one dRows) (fun y => y.1.length ≤ 1000) (fun y => rowsOf y.1.length (aheadR y.1)) FH.none) f a m := nr rfl
theorem Grc_ok : FHOK Try.prog Grc := FH.pz_ok (by kernel_rfl) (fun y h => f_RAhead y.1 h) FH.none_ok
theorem f_RRaces (l : List Ev) (hok : (checkR l).2 = 0) : FnOK Try.prog 35 [dEs.emb l] [] (.vec 0 (racesF l).length) [.vec 126 4 ((racesF l).map dRc.emb)] := by
  have hl := ok_len hok
  refine fn_walkF c35 w35 Grc_ok rfl ?_
  unfold j35
  simp only [go_sem, ↓reduceIte, Nat.reduceAdd, Nat.reduceMul, Nat.reduceSub, Nat.reduceLT, Nat.reduceLeDiff, Nat.reduceEqDiff, Int.reduceToNat, Int.reduceEq, Int.reduceLT, Int.reduceLE, reduceCtorEq, Grc_eq]
  refine ⟨by omega, ?_⟩
  refine loopF Nat (fun i => [.int .i64 i, .vec 0 (allC l i).length]) (fun i => [.vec 126 4 ((allC l i).map dRc.emb)]) (fun i => i ≤ l.length) (fun i => l.length - i) 0 (by omega) ?_ rfl ?_
  · simp only [go_sem, ↓reduceIte, Nat.reduceAdd, Nat.reduceMul, Nat.reduceSub, Nat.reduceLT, Nat.reduceLeDiff, Nat.reduceEqDiff, Int.reduceToNat, Int.reduceEq, Int.reduceLT, Int.reduceLE, reduceCtorEq]
    rfl
  intro i hi
  by_cases h1 : i < l.length
  · have h1' : (i : Int) < l.length := by omega
    have hw : IntKind.i64.wrap ((i : Int) + 1) = ((i + 1 : Nat) : Int) := IntWalk.i64_in _ (by omega)
    have hl1 := allC_len (l := l) i
    have hil : i * l.length ≤ 80 * 80 := Nat.mul_le_mul (by omega) (by omega)
    unfold j35_3
    simp only [go_sem, ↓reduceIte, Nat.reduceAdd, Nat.reduceMul, Nat.reduceSub, Nat.reduceLT, Nat.reduceLeDiff, Nat.reduceEqDiff, Int.reduceToNat, Int.reduceEq, Int.reduceLT, Int.reduceLE, reduceCtorEq, h1, h1']
    refine ⟨by omega, ?_⟩
    refine loopF Nat (fun j => [.int .i64 j, .vec 0 (allC l i ++ rowC l i j).length]) (fun j => [.vec 126 4 ((allC l i ++ rowC l i j).map dRc.emb), .blk 35 (dEv.emb (l.getD i dEv.dft))]) (fun j => j ≤ l.length) (fun j => l.length - j) 0 (by omega) ?_ ?_ ?_
    · simp only [go_sem, ↓reduceIte, Nat.reduceAdd, Nat.reduceMul, Nat.reduceSub, Nat.reduceLT, Nat.reduceLeDiff, Nat.reduceEqDiff, Int.reduceToNat, Int.reduceEq, Int.reduceLT, Int.reduceLE, reduceCtorEq]
      simp [rowC]
    · simp [rowC, ev_emb]
    intro j hj
    by_cases h2 : j < l.length
    · have h2' : (j : Int) < l.length := by omega
      have hwj : IntKind.i64.wrap ((j : Int) + 1) = ((j + 1 : Nat) : Int) := IntWalk.i64_in _ (by omega)
      have hl2 := rowC_len (l := l) (i := i) j
      unfold j35_1
      simp only [go_sem, ↓reduceIte, Nat.reduceAdd, Nat.reduceMul, Nat.reduceSub, Nat.reduceLT, Nat.reduceLeDiff, Nat.reduceEqDiff, Int.reduceToNat, Int.reduceEq, Int.reduceLT, Int.reduceLE, reduceCtorEq, h1, h1', h2, h2', hwj, rows_len, rows_row h1, rows_at h1 h2]
      have mk : ∀ K : Int, noRace l i j (l.getD i dEv.dft) (l.getD j dEv.dft) = false → rkind (l.getD i dEv.dft) (l.getD j dEv.dft) = K → rowC l i (j + 1) = rowC l i j ++ [⟨i, j, (l.getD i dEv.dft).obj, K⟩] := by
        intro K h hk
        rw [rowC, if_neg (by rw [h]; simp), hk]
      have fit : ((allC l i).length + (rowC l i j).length + 1) * 32 ≤ 140737488355328 := by omega
      refine ⟨by omega, fun _ => ⟨by omega, by omega⟩, fun h => ?_, fun h => ⟨fun kb => ⟨fun ka => ?_, fun ka => ?_⟩, fun kb => ⟨fun ka => ?_, fun ka => ?_⟩⟩⟩
      · have h : noRace l i j (l.getD i dEv.dft) (l.getD j dEv.dft) = true := h
        have e : rowC l i (j + 1) = rowC l i j := by rw [rowC, if_pos h, List.append_nil]
        exact ⟨j + 1, by omega, by omega, ⟨rfl, by rw [e]⟩, by rw [e]⟩
      · have e := mk 3 h (by rw [rkind, if_pos ka])
        exact ⟨by simpa only [List.length_append, List.length_map] using fit, j + 1, by omega, by omega, ⟨rfl, by rw [e]; simp [Nat.add_assoc]⟩, by rw [e, List.map_append]; rfl⟩
      · have e := mk 2 h (by rw [rkind, if_neg ka, if_pos kb])
        exact ⟨by simpa only [List.length_append, List.length_map] using fit, j + 1, by omega, by omega, ⟨rfl, by rw [e]; simp [Nat.add_assoc]⟩, by rw [e, List.map_append]; rfl⟩
      · have e := mk 3 h (by rw [rkind, if_pos ka])
        exact ⟨by simpa only [List.length_append, List.length_map] using fit, j + 1, by omega, by omega, ⟨rfl, by rw [e]; simp [Nat.add_assoc]⟩, by rw [e, List.map_append]; rfl⟩
      · have e := mk 1 h (by rw [rkind, if_neg ka, if_neg kb])
        exact ⟨by simpa only [List.length_append, List.length_map] using fit, j + 1, by omega, by omega, ⟨rfl, by rw [e]; simp [Nat.add_assoc]⟩, by rw [e, List.map_append]; rfl⟩
    · have h2' : ¬ (j : Int) < l.length := by omega
      have e : j = l.length := by omega
      subst e
      unfold j35_1
      simp only [go_sem, ↓reduceIte, Nat.reduceAdd, Nat.reduceMul, Nat.reduceSub, Nat.reduceLT, Nat.reduceLeDiff, Nat.reduceEqDiff, Int.reduceToNat, Int.reduceEq, Int.reduceLT, Int.reduceLE, reduceCtorEq, h2']
      unfold j35_2
      simp only [go_sem, ↓reduceIte, Nat.reduceAdd, Nat.reduceMul, Nat.reduceSub, Nat.reduceLT, Nat.reduceLeDiff, Nat.reduceEqDiff, Int.reduceToNat, Int.reduceEq, Int.reduceLT, Int.reduceLE, reduceCtorEq, hw]
      exact ⟨i + 1, by omega, by omega, ⟨rfl, rfl⟩, by rw [allC, List.map_append]⟩
  · have h1' : ¬ (i : Int) < l.length := by omega
    have e : i = l.length := by omega
    subst e
    unfold j35_3
    simp only [go_sem, ↓reduceIte, Nat.reduceAdd, Nat.reduceMul, Nat.reduceSub, Nat.reduceLT, Nat.reduceLeDiff, Nat.reduceEqDiff, Int.reduceToNat, Int.reduceEq, Int.reduceLT, Int.reduceLE, reduceCtorEq, h1']
    unfold j35_4
    simp only [go_sem, ↓reduceIte, Nat.reduceAdd, Nat.reduceMul, Nat.reduceSub, Nat.reduceLT, Nat.reduceLeDiff, Nat.reduceEqDiff, Int.reduceToNat, Int.reduceEq, Int.reduceLT, Int.reduceLE, reduceCtorEq]
    exact ⟨rfl, rfl⟩
end Go.Proofs.Ytgcbhanfhnianaa.Rc
end
