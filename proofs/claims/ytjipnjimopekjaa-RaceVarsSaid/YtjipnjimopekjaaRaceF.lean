/- The first second of a variable, as the program tells it. Conditions: none. -/
import Derived.Test.YtjipnjimopekjaaRaceS
set_option linter.unusedSimpArgs false
set_option linter.unusedVariables false
set_option maxRecDepth 100000
open Go Go.Sx Go.Proofs
namespace Go.Proofs.Ytjipnjimopekjaa.Rc
open Go.Proofs.Ytjipnjimopekjaa.D Go.Proofs.Ytjipnjimopekjaa.Tr Go.Proofs.Ytjipnjimopekjaa.Ah Go.Proofs.Ytjipnjimopekjaa.Ps Go.Proofs.Ytjipnjimopekjaa.Od

def j69 : JC :=
  (.seq (.ops <|
  qo 4 (.mv (B false)) <|
  .nil)
  (.seq (.dops <|
  eo 5 (.load 1 false (.t 1)) <|
  qo 6 (.mv (.t 0)) <|
  qo 7 (.is 3 (.t 5) (.t 6)) <|
  qo 8 (.fa 2 2 (.t 7)) <|
  eo 9 (.load 1 false (.t 8)) <|
  eo 10 (.load 1 false (.t 2)) <|
  qo 11 (.cmp .eql (.t 9) (.t 10)) <|
  qo 4 (.mv (.t 11)) <|
  .nil)
  .ret))
theorem c69 : fnIs Try.prog qall 69 = some (j69.flat, [.tmp 4], 12) := by kernel_rfl
theorem w69 : j69.wf 12 = true := by kernel_rfl
def j68_1 : JC :=
  (.seq (.ops <|
  qo 9 (.cmp .lss (.t 8) (.t 7)) <|
  .nil)
  (.seq (.cond (.t 9)
  .skip
  (.exit 0))
  (.seq (.block 1 (.seq (.ops <|
  qo 10 (.mv (.t 8)) <|
  qo 5 (.mv (.t 10)) <|
  .nil)
  (.seq (.ops <|
  qo 11 (.mv (.t 1)) <|
  qo 12 (.mv (.t 0)) <|
  qo 13 (.mv (.t 5)) <|
  qo 14 (.is 1 (.t 12) (.t 13)) <|
  eo 15 (.load 1 false (.t 14)) <|
  eo 16 (.callv (.t 11) [(.t 15)]) <|
  .nil)
  (.prune [16, 5, 8, 7, 1, 0] (.cond (.t 16)
  (.seq (.ops <|
  qo 17 (.mv (.t 5)) <|
  qo 4 (.mv (.t 17)) <|
  .nil)
  .ret)
  .skip)))))
  (.prune [8, 7, 1, 0] (.ops <|
  qo 18 (.ar .add (.t 8) (I 1)) <|
  qo 8 (.mv (.t 18)) <|
  .nil)))))
def j68_2 : JC :=
  (.prune [] (.seq (.ops <|
  qo 4 (.mv (I (-1))) <|
  .nil)
  .ret))
def j68 : JC :=
  (.seq (.ops <|
  qo 4 (.mv (I 0)) <|
  .nil)
  (.seq (.seq (.ops <|
  qo 6 (.mv (.t 0)) <|
  qo 7 (.len (.t 6)) <|
  qo 8 (.mv (I 0)) <|
  .nil)
  (.block 0 (.loop [7, 1, 0] [8] j68_1)))
  j68_2))
theorem c68 : fnIs Try.prog qall 68 = some (j68.flat, [.tmp 4], 19) := by kernel_rfl
theorem w68 : j68.wf 19 = true := by kernel_rfl

def j28 : JC :=
  (.seq (.ops <|
  eo 2 (.box 22 (.t 0)) <|
  eo 3 (.box 3 (.t 1)) <|
  qo 4 (.mv (I 0)) <|
  qo 5 (.mv (B false)) <|
  qo 6 (.mv (I 0)) <|
  .nil)
  (.seq (.ops <|
  eo 11 (.load 1 false (.t 2)) <|
  eo 12 (.call 23 [(.t 11)]) <|
  .prune [12, 3, 2] <|
  qo 10 (.mv (.t 12)) <|
  qo 13 (.ext 0 (.t 10)) <|
  qo 14 (.ext 1 (.t 10)) <|
  qo 7 (.mv (.t 13)) <|
  qo 8 (.mv (.t 14)) <|
  .nil)
  (.prune [8, 3, 7, 2] (.seq (.block 0 (.seq (.ops <|
  qo 16 (.mv (.t 8)) <|
  qo 17 (.cmp .neq (.t 16) (I 0)) <|
  qo 15 (.mv (.t 17)) <|
  .nil)
  (.cond (.t 15)
  (.seq (.ops <|
  .prune [8] <|
  qo 18 (.mv (.t 8)) <|
  qo 4 (.mv (I 0)) <|
  qo 5 (.mv (B false)) <|
  qo 6 (.mv (.t 18)) <|
  .nil)
  .ret)
  (.seq (.ops <|
  .prune [3, 7, 2] <|
  eo 20 (.load 1 false (.t 3)) <|
  qo 21 (.cmp .lss (.t 20) (I 0)) <|
  qo 22 (.mv (.t 21)) <|
  .sc true 25 22 (eo 23 (.load 1 false (.t 3)) <|
  qo 24 (.cmp .geq (.t 23) (I 8)) <|
  .nil) (.t 24) <|
  qo 19 (.mv (.t 25)) <|
  .nil)
  (.prune [19, 7, 2, 3] (.cond (.t 19)
  (.seq (.ops <|
  qo 4 (.mv (I 0)) <|
  qo 5 (.mv (B false)) <|
  qo 6 (.mv (I 1)) <|
  .nil)
  .ret)
  .skip))))))
  (.prune [7, 2, 3] (.seq (.ops <|
  qo 26 (.mv (.t 7)) <|
  qo 27 (.mkfn 69 [(.t 2), (.t 3)]) <|
  eo 28 (.call 68 [(.t 26), (.t 27)]) <|
  qo 9 (.mv (.t 28)) <|
  .nil)
  (.seq (.seq (.ops <|
  qo 29 (.mv (.t 9)) <|
  qo 30 (.cmp .lss (.t 29) (I 0)) <|
  .nil)
  (.cond (.t 30)
  (.seq (.ops <|
  .prune [] <|
  qo 4 (.mv (I 0)) <|
  qo 5 (.mv (B false)) <|
  qo 6 (.mv (I 0)) <|
  .nil)
  .ret)
  .skip))
  (.prune [7, 9] (.seq (.ops <|
  qo 31 (.mv (.t 7)) <|
  qo 32 (.mv (.t 9)) <|
  qo 33 (.is 1 (.t 31) (.t 32)) <|
  eo 34 (.load 1 false (.t 33)) <|
  qo 4 (.mv (.t 34)) <|
  qo 5 (.mv (B true)) <|
  qo 6 (.mv (I 0)) <|
  .nil)
  .ret)))))))))
theorem c28 : fnIs Try.prog qall 28 = some (j28.flat, [.tmp 4, .tmp 5, .tmp 6], 35) := by kernel_rfl
theorem w28 : j28.wf 35 = true := by kernel_rfl
def objAt (l : List Ev) (z : Int) : Int := (l.getD z.toNat dEv.dft).obj
theorem f_First1 (l : List Ev) (z x : Int) (h0 : 0 ≤ z) (h1 : z < l.length) : FnOK Try.prog 69 [.int .i64 z, .ref (dEs.emb l) [] 0, .ref (.int .i64 x) [] 0] [] (.bool (decide (objAt l z = x))) [] := by
  refine fn_walkF c69 w69 FH.none_ok rfl ?_
  unfold j69
  simp only [go_sem, ↓reduceIte, Nat.reduceAdd, Nat.reduceMul, Nat.reduceSub, Nat.reduceLT, Nat.reduceLeDiff, Nat.reduceEqDiff, Int.reduceToNat, Int.reduceEq, Int.reduceLT, Int.reduceLE, reduceCtorEq]
  exact ⟨⟨h0, by omega⟩, rfl⟩
/-- Where the first is. -/
def idxF (l : List Ev) (x : Int) : List Int → Nat → Int
  | [], _ => -1
  | z :: zs, i => if objAt l z = x then i else idxF l x zs (i + 1)
abbrev aF : DA (List Ev × Int × Unit) := .two dEs.ref DT.int.ref
def Gix (l : List Ev) (x : Int) (F : FuncId) (a : List SV) (m : List Res) : Sx.Call := (FH.rd 69 (.three .int dEs.ref DT.int.ref) (.one .bool) (fun y => 0 ≤ y.1 ∧ y.1 < y.2.1.length) (fun y => decide (objAt y.2.1 y.1 = y.2.2.1)) FH.none) F a m
theorem Gix_eq (l : List Ev) (x : Int) (F : FuncId) (a : List SV) (m : List Res) : Gix l x F a m = (FH.rd 69 (.three .int dEs.ref DT.int.ref) (.one .bool) (fun y => 0 ≤ y.1 ∧ y.1 < y.2.1.length) (fun y => decide (objAt y.2.1 y.1 = y.2.2.1)) FH.none) F a m := nr rfl
theorem Gix_ok (l : List Ev) (x : Int) : FHOK Try.prog (Gix l x) := FH.rd_ok (by kernel_rfl) (fun y h => f_First1 y.2.1 y.1 y.2.2.1 h.1 h.2) FH.none_ok
theorem f_IndexF (zs : List Int) (l : List Ev) (x : Int) (hz : ∀ z ∈ zs, 0 ≤ z ∧ z < (l.length : Int)) : FnOK Try.prog 68 [dIs.emb zs, (DT.clo 69 aF).emb (l, x, ())] [] (.int .i64 (idxF l x zs 0)) [] := by
  refine fn_len fun hB => fn_walkF c68 w68 (Gix_ok l x) rfl ?_
  simp only [go_sem, ↓reduceIte, Nat.reduceAdd, Nat.reduceMul, Nat.reduceSub, Nat.reduceLT, Nat.reduceLeDiff, Nat.reduceEqDiff, Int.reduceToNat, Int.reduceEq, Int.reduceLT, Int.reduceLE, reduceCtorEq] at hB
  unfold j68
  simp only [go_sem, ↓reduceIte, Nat.reduceAdd, Nat.reduceMul, Nat.reduceSub, Nat.reduceLT, Nat.reduceLeDiff, Nat.reduceEqDiff, Int.reduceToNat, Int.reduceEq, Int.reduceLT, Int.reduceLE, reduceCtorEq]
  refine loopF Nat (fun i => [.int .i64 i]) (fun _ => []) (fun i => i ≤ zs.length ∧ idxF l x zs 0 = idxF l x (zs.drop i) i) (fun i => zs.length - i) 0 ⟨by omega, rfl⟩ ?_ rfl ?_
  · simp only [go_sem, ↓reduceIte, Nat.reduceAdd, Nat.reduceMul, Nat.reduceSub, Nat.reduceLT, Nat.reduceLeDiff, Nat.reduceEqDiff, Int.reduceToNat, Int.reduceEq, Int.reduceLT, Int.reduceLE, reduceCtorEq]
  intro i hi
  obtain ⟨hi1, hi2⟩ := hi
  by_cases h1 : i < zs.length
  · have h1' : (i : Int) < zs.length := by omega
    have hmem : zs.getD i (0 : Int) ∈ zs := by
      simp only [List.getD, List.getElem?_eq_getElem h1, Option.getD_some]
      exact List.getElem_mem _
    obtain ⟨q1, q2⟩ := hz _ hmem
    unfold j68_1
    simp only [go_sem, ↓reduceIte, Nat.reduceAdd, Nat.reduceMul, Nat.reduceSub, Nat.reduceLT, Nat.reduceLeDiff, Nat.reduceEqDiff, Int.reduceToNat, Int.reduceEq, Int.reduceLT, Int.reduceLE, reduceCtorEq, Gix_eq, h1, h1', q1, q2]
    rw [drop_getD (0 : Int) h1, idxF] at hi2
    refine ⟨by omega, fun h => by rw [hi2, if_pos h], fun h => ⟨i + 1, ⟨by omega, by rw [hi2, if_neg h]⟩, by omega, IntWalk.i64_in _ (by omega)⟩⟩
  · have h1' : ¬ (i : Int) < zs.length := by omega
    unfold j68_1
    simp only [go_sem, ↓reduceIte, Nat.reduceAdd, Nat.reduceMul, Nat.reduceSub, Nat.reduceLT, Nat.reduceLeDiff, Nat.reduceEqDiff, Int.reduceToNat, Int.reduceEq, Int.reduceLT, Int.reduceLE, reduceCtorEq, h1']
    unfold j68_2
    simp only [go_sem, ↓reduceIte, Nat.reduceAdd, Nat.reduceMul, Nat.reduceSub, Nat.reduceLT, Nat.reduceLeDiff, Nat.reduceEqDiff, Int.reduceToNat, Int.reduceEq, Int.reduceLT, Int.reduceLE, reduceCtorEq]
    rw [hi2, List.drop_eq_nil_of_le (by omega), idxF]
theorem int_getD {l : List Int} {i : Nat} (h : i < l.length) : (l.map DT.int.emb).getD i .junk = .int .i64 (l.getD i 0) := by
  simp [List.getD, h, int_emb]
/-- What First tells. -/
def firstF (l : List Ev) (x : Int) : Int × Bool × Int :=
  if (playedF l).2.2 = 0 then (if x < 0 ∨ 8 ≤ x then (0, false, 1) else if idxF l x (tellF (fun r => r.b) l) 0 < 0 then (0, false, 0) else ((tellF (fun r => r.b) l).getD (idxF l x (tellF (fun r => r.b) l) 0).toNat 0, true, 0)) else (0, false, (playedF l).2.2)
theorem idxF_lt {l : List Ev} {x : Int} : ∀ {zs : List Int} {i : Nat}, idxF l x zs i < (i + zs.length : Nat)
  | [], i => by simp only [idxF]; omega
  | z :: zs, i => by
    rw [idxF]
    have := idxF_lt (l := l) (x := x) (zs := zs) (i := i + 1)
    simp only [List.length_cons]
    split <;> omega
def Gfi (l : List Ev) (F : FuncId) (a : List SV) (m : List Res) : Sx.Call := (FH.mk 23 (.one dEs) (fun _ => True) (fun y => .tup [.vec 0 (tellF (fun r => r.b) y.1).length, .int .i64 (playedF y.1).2.2]) (fun y => [.vec 3 1 ((tellF (fun r => r.b) y.1).map DT.int.emb)]) <|
  FH.rd 68 (.two dIs (DT.clo 69 aF)) (.one .int) (fun y => ∀ z ∈ y.1, 0 ≤ z ∧ z < (y.2.1.1.length : Int)) (fun y => idxF y.2.1.1 y.2.1.2.1 y.1 0) FH.none) F a m
theorem Gfi_eq (l : List Ev) (F : FuncId) (a : List SV) (m : List Res) : Gfi l F a m = (FH.mk 23 (.one dEs) (fun _ => True) (fun y => .tup [.vec 0 (tellF (fun r => r.b) y.1).length, .int .i64 (playedF y.1).2.2]) (fun y => [.vec 3 1 ((tellF (fun r => r.b) y.1).map DT.int.emb)]) <|
  FH.rd 68 (.two dIs (DT.clo 69 aF)) (.one .int) (fun y => ∀ z ∈ y.1, 0 ≤ z ∧ z < (y.2.1.1.length : Int)) (fun y => idxF y.2.1.1 y.2.1.2.1 y.1 0) FH.none) F a m := nr rfl
theorem Gfi_ok (l : List Ev) : FHOK Try.prog (Gfi l) := FH.mk_ok (by kernel_rfl) (fun y _ => plainM (pv_tup ⟨plV_vec _ _, plV_int _ _, trivial⟩) ⟨plR_vec _ _ DT.int _, trivial⟩) (fun y _ => f_Seconds y.1) <|
  FH.rd_ok (by kernel_rfl) (fun y h => f_IndexF y.1 y.2.1.1 y.2.1.2.1 h) FH.none_ok
theorem f_First (l : List Ev) (x : Int) (ht : ∀ z ∈ tellF (fun r => r.b) l, 0 ≤ z ∧ z < (l.length : Int)) : FnOK Try.prog 28 [dEs.emb l, .int .i64 x] [] (.tup [.int .i64 (firstF l x).1, .bool (firstF l x).2.1, .int .i64 (firstF l x).2.2]) [] := by
  refine fn_walkF c28 w28 (Gfi_ok l) rfl ?_
  unfold j28
  unfold firstF
  by_cases h : (playedF l).2.2 = 0
  · rw [if_pos h]
    by_cases hx : x < 0 ∨ 8 ≤ x
    · have hxd : (decide (x < 0) || decide (8 ≤ x)) = true := by simpa using hx
      rw [if_pos hx]
      simp only [go_sem, ↓reduceIte, Nat.reduceAdd, Nat.reduceMul, Nat.reduceSub, Nat.reduceLT, Nat.reduceLeDiff, Nat.reduceEqDiff, Int.reduceToNat, Int.reduceEq, Int.reduceLT, Int.reduceLE, reduceCtorEq, Gfi_eq, h, hxd]
    · have hxd : (decide (x < 0) || decide (8 ≤ x)) = false := by simpa using hx
      rw [if_neg hx]
      by_cases hi : idxF l x (tellF (fun r => r.b) l) 0 < 0
      · rw [if_pos hi]
        simp only [go_sem, ↓reduceIte, Nat.reduceAdd, Nat.reduceMul, Nat.reduceSub, Nat.reduceLT, Nat.reduceLeDiff, Nat.reduceEqDiff, Int.reduceToNat, Int.reduceEq, Int.reduceLT, Int.reduceLE, reduceCtorEq, Gfi_eq, h, hxd, hi]
        exact ht
      · rw [if_neg hi]
        have hlt := idxF_lt (l := l) (x := x) (zs := tellF (fun r => r.b) l) (i := 0)
        have h1 : (idxF l x (tellF (fun r => r.b) l) 0).toNat < (tellF (fun r => r.b) l).length := by omega
        have h2 : 0 ≤ idxF l x (tellF (fun r => r.b) l) 0 := by omega
        have h3 : idxF l x (tellF (fun r => r.b) l) 0 < (tellF (fun r => r.b) l).length := by omega
        simp only [go_sem, ↓reduceIte, Nat.reduceAdd, Nat.reduceMul, Nat.reduceSub, Nat.reduceLT, Nat.reduceLeDiff, Nat.reduceEqDiff, Int.reduceToNat, Int.reduceEq, Int.reduceLT, Int.reduceLE, reduceCtorEq, Gfi_eq, h, hxd, hi, h1, h2, h3, int_getD h1]
        exact ht
  · rw [if_neg h]
    simp only [go_sem, ↓reduceIte, Nat.reduceAdd, Nat.reduceMul, Nat.reduceSub, Nat.reduceLT, Nat.reduceLeDiff, Nat.reduceEqDiff, Int.reduceToNat, Int.reduceEq, Int.reduceLT, Int.reduceLE, reduceCtorEq, Gfi_eq, h]
end Go.Proofs.Ytjipnjimopekjaa.Rc
