/- Whether a list has something. Conditions: none. -/
import Derived.Test.YtmddnblbfmlgoaaBase
import Derived.Test.YtmddnblbfmlgoaaRows
import Derived.WalkKit
set_option linter.unusedSimpArgs false
set_option linter.unusedVariables false
set_option maxRecDepth 100000
open Go Go.Sx Go.Proofs
namespace Go.Proofs.Ytmddnblbfmlgoaa.Hs
open Go.Proofs.Ytmddnblbfmlgoaa.D
def hasI (l : List Int) (x : Int) : Bool := l.any fun y => decide (y = x)
def hasP (l : List Pr) (x : Pr) : Bool := l.any fun y => decide (x.a = y.a) && decide (x.b = y.b)
theorem hasI_iff {l : List Int} {x : Int} : hasI l x = true ↔ x ∈ l := by simp [hasI]
theorem hasP_iff {l : List Pr} {x : Pr} : hasP l x = true ↔ x ∈ l := by
  rw [hasP, List.any_eq_true]
  constructor
  · rintro ⟨y, hy, h⟩
    simp only [Bool.and_eq_true, decide_eq_true_eq] at h
    obtain ⟨h1, h2⟩ := h
    have : x = y := by cases x; cases y; simp only at h1 h2; subst h1; subst h2; rfl
    exact this ▸ hy
  · exact fun h => ⟨x, h, by simp⟩
def j63_1 : JC :=
  (.seq (.ops <|
  qo 10 (.cmp .lss (.t 9) (.t 8)) <|
  .nil)
  (.seq (.cond (.t 10)
  .skip
  (.exit 0))
  (.seq (.block 1 (.seq (.ops <|
  qo 11 (.is 1 (.t 7) (.t 9)) <|
  eo 12 (.load 1 false (.t 11)) <|
  qo 6 (.mv (.t 12)) <|
  .nil)
  (.seq (.ops <|
  .prune [1, 6, 9, 8, 7] <|
  qo 13 (.mv (.t 1)) <|
  qo 14 (.mv (.t 6)) <|
  qo 15 (.cmp .eql (.t 13) (.t 14)) <|
  .nil)
  (.prune [15, 9, 8, 7, 1] (.cond (.t 15)
  (.seq (.ops <|
  qo 4 (.mv (B true)) <|
  .nil)
  .ret)
  .skip)))))
  (.prune [9, 8, 7, 1] (.ops <|
  qo 16 (.ar .add (.t 9) (I 1)) <|
  qo 9 (.mv (.t 16)) <|
  .nil)))))
def j63_2 : JC :=
  (.prune [] (.seq (.ops <|
  qo 4 (.mv (B false)) <|
  .nil)
  .ret))
def j63 : JC :=
  (.seq (.ops <|
  qo 4 (.mv (B false)) <|
  .nil)
  (.seq (.seq (.ops <|
  qo 7 (.mv (.t 0)) <|
  qo 8 (.len (.t 7)) <|
  qo 9 (.mv (I 0)) <|
  .nil)
  (.block 0 (.loop [8, 7, 1] [9] j63_1)))
  j63_2))
theorem c63 : fnIs Try.prog qall 63 = some (j63.flat, [.tmp 4], 17) := by kernel_rfl
theorem w63 : j63.wf 17 = true := by kernel_rfl
theorem f_HasInt (l : List Int) (x : Int) : FnOK Try.prog 63 [dIs.emb l, .int .i64 x] [] (.bool (hasI l x)) [] := by
  refine fn_len fun hB => fn_walkF c63 w63 FH.none_ok rfl ?_
  simp only [go_sem, ↓reduceIte, Nat.reduceAdd, Nat.reduceMul, Nat.reduceSub, Nat.reduceLT, Nat.reduceLeDiff, Nat.reduceEqDiff, Int.reduceToNat, Int.reduceEq, Int.reduceLT, Int.reduceLE, reduceCtorEq] at hB
  unfold j63
  simp only [go_sem, ↓reduceIte, Nat.reduceAdd, Nat.reduceMul, Nat.reduceSub, Nat.reduceLT, Nat.reduceLeDiff, Nat.reduceEqDiff, Int.reduceToNat, Int.reduceEq, Int.reduceLT, Int.reduceLE, reduceCtorEq]
  refine loopF Nat (fun i => [.int .i64 i]) (fun _ => []) (fun i => i ≤ l.length ∧ (l.take i).any (fun y => decide (y = x)) = false) (fun i => l.length - i) 0 ⟨by omega, rfl⟩ ?_ rfl ?_
  · simp only [go_sem, ↓reduceIte, Nat.reduceAdd, Nat.reduceMul, Nat.reduceSub, Nat.reduceLT, Nat.reduceLeDiff, Nat.reduceEqDiff, Int.reduceToNat, Int.reduceEq, Int.reduceLT, Int.reduceLE, reduceCtorEq]
  intro i hi
  unfold j63_1
  simp only [go_sem, ↓reduceIte, Nat.reduceAdd, Nat.reduceMul, Nat.reduceSub, Nat.reduceLT, Nat.reduceLeDiff, Nat.reduceEqDiff, Int.reduceToNat, Int.reduceEq, Int.reduceLT, Int.reduceLE, reduceCtorEq]
  refine ⟨fun h1 => ⟨by omega, fun h2 => ?_, fun h2 => ⟨i + 1, ⟨by omega, ?_⟩, by omega, IntWalk.i64_in _ (by omega)⟩⟩, fun h1 => ?_⟩
  · rw [hasI, any_of (i := i) (d := (0 : Int)) (by omega) (decide_eq_true h2.symm)]
  · rw [any_take (0 : Int) _ (by omega) hi.2]; exact decide_eq_false (fun h => h2 h.symm)
  · rw [hasI, any_none h1 hi]
    unfold j63_2
    simp only [go_sem, ↓reduceIte, Nat.reduceAdd, Nat.reduceMul, Nat.reduceSub, Nat.reduceLT, Nat.reduceLeDiff, Nat.reduceEqDiff, Int.reduceToNat, Int.reduceEq, Int.reduceLT, Int.reduceLE, reduceCtorEq]
def j59_1 : JC :=
  (.seq (.ops <|
  qo 10 (.cmp .lss (.t 9) (.t 8)) <|
  .nil)
  (.seq (.cond (.t 10)
  .skip
  (.exit 0))
  (.seq (.block 1 (.seq (.ops <|
  qo 11 (.is 2 (.t 7) (.t 9)) <|
  eo 12 (.load 2 true (.t 11)) <|
  eo 6 (.alloc 53 (.agg [(.int .i64 0), (.int .i64 0)])) <|
  en (.store 2 (.t 6) (.t 12)) <|
  .nil)
  (.seq (.ops <|
  .prune [3, 6, 9, 8, 7] <|
  eo 13 (.load 2 true (.t 3)) <|
  eo 14 (.load 2 true (.t 6)) <|
  qo 15 (.aeq false (.st [(.int .i64), (.int .i64)]) (.t 13) (.t 14)) <|
  .nil)
  (.prune [15, 9, 8, 7, 3] (.cond (.t 15)
  (.seq (.ops <|
  qo 4 (.mv (B true)) <|
  .nil)
  .ret)
  .skip)))))
  (.prune [9, 8, 7, 3] (.ops <|
  qo 16 (.ar .add (.t 9) (I 1)) <|
  qo 9 (.mv (.t 16)) <|
  .nil)))))
def j59_2 : JC :=
  (.prune [] (.seq (.ops <|
  qo 4 (.mv (B false)) <|
  .nil)
  .ret))
def j59 : JC :=
  (.seq (.ops <|
  eo 3 (.box 53 (.t 1)) <|
  qo 4 (.mv (B false)) <|
  .nil)
  (.seq (.seq (.ops <|
  qo 7 (.mv (.t 0)) <|
  qo 8 (.len (.t 7)) <|
  qo 9 (.mv (I 0)) <|
  .nil)
  (.block 0 (.loop [8, 7, 3] [9] j59_1)))
  j59_2))
theorem c59 : fnIs Try.prog qall 59 = some (j59.flat, [.tmp 4], 17) := by kernel_rfl
theorem w59 : j59.wf 17 = true := by kernel_rfl
theorem f_HasPr (l : List Pr) (x : Pr) : FnOK Try.prog 59 [dPrs.emb l, dPr.emb x] [] (.bool (hasP l x)) [] := by
  refine fn_len fun hB => fn_walkF c59 w59 FH.none_ok rfl ?_
  simp only [go_sem, ↓reduceIte, Nat.reduceAdd, Nat.reduceMul, Nat.reduceSub, Nat.reduceLT, Nat.reduceLeDiff, Nat.reduceEqDiff, Int.reduceToNat, Int.reduceEq, Int.reduceLT, Int.reduceLE, reduceCtorEq] at hB
  unfold j59
  simp only [go_sem, ↓reduceIte, Nat.reduceAdd, Nat.reduceMul, Nat.reduceSub, Nat.reduceLT, Nat.reduceLeDiff, Nat.reduceEqDiff, Int.reduceToNat, Int.reduceEq, Int.reduceLT, Int.reduceLE, reduceCtorEq]
  refine loopF Nat (fun i => [.int .i64 i]) (fun _ => [.blk 53 (dPr.emb x)]) (fun i => i ≤ l.length ∧ (l.take i).any (fun y => decide (x.a = y.a) && decide (x.b = y.b)) = false) (fun i => l.length - i) 0 ⟨by omega, rfl⟩ ?_ rfl ?_
  · simp only [go_sem, ↓reduceIte, Nat.reduceAdd, Nat.reduceMul, Nat.reduceSub, Nat.reduceLT, Nat.reduceLeDiff, Nat.reduceEqDiff, Int.reduceToNat, Int.reduceEq, Int.reduceLT, Int.reduceLE, reduceCtorEq]
  intro i hi
  unfold j59_1
  simp only [go_sem, ↓reduceIte, Nat.reduceAdd, Nat.reduceMul, Nat.reduceSub, Nat.reduceLT, Nat.reduceLeDiff, Nat.reduceEqDiff, Int.reduceToNat, Int.reduceEq, Int.reduceLT, Int.reduceLE, reduceCtorEq]
  refine ⟨fun h1 => ⟨by omega, fun h2 => ?_, fun h2 => ⟨i + 1, ⟨by omega, ?_⟩, by omega, IntWalk.i64_in _ (by omega)⟩⟩, fun h1 => ?_⟩
  · rw [hasP, any_of (i := i) (d := dPr.dft) (by omega) h2]
  · rw [any_take dPr.dft _ (by omega) hi.2]; exact h2
  · rw [hasP, any_none h1 hi]
    unfold j59_2
    simp only [go_sem, ↓reduceIte, Nat.reduceAdd, Nat.reduceMul, Nat.reduceSub, Nat.reduceLT, Nat.reduceLeDiff, Nat.reduceEqDiff, Int.reduceToNat, Int.reduceEq, Int.reduceLT, Int.reduceLE, reduceCtorEq]
def j74_1 : JC :=
  (.seq (.ops <|
  qo 9 (.cmp .lss (.t 8) (.t 7)) <|
  .nil)
  (.seq (.cond (.t 9)
  .skip
  (.exit 0))
  (.seq (.block 1 (.seq (.ops <|
  qo 10 (.mv (.t 8)) <|
  qo 5 (.mv (.t 10)) <|
  .nil)
  (.seq (.ops <|
  qo 11 (.mv (.t 1)) <|
  qo 12 (.mv (.t 0)) <|
  qo 13 (.mv (.t 5)) <|
  qo 14 (.is 1 (.t 12) (.t 13)) <|
  eo 15 (.load 1 false (.t 14)) <|
  qo 16 (.cmp .eql (.t 11) (.t 15)) <|
  .nil)
  (.prune [16, 5, 8, 7, 1, 0] (.cond (.t 16)
  (.seq (.ops <|
  qo 17 (.mv (.t 5)) <|
  qo 4 (.mv (.t 17)) <|
  .nil)
  .ret)
  .skip)))))
  (.prune [8, 7, 1, 0] (.ops <|
  qo 18 (.ar .add (.t 8) (I 1)) <|
  qo 8 (.mv (.t 18)) <|
  .nil)))))
def j74_2 : JC :=
  (.prune [] (.seq (.ops <|
  qo 4 (.mv (I (-1))) <|
  .nil)
  .ret))
def j74 : JC :=
  (.seq (.ops <|
  qo 4 (.mv (I 0)) <|
  .nil)
  (.seq (.seq (.ops <|
  qo 6 (.mv (.t 0)) <|
  qo 7 (.len (.t 6)) <|
  qo 8 (.mv (I 0)) <|
  .nil)
  (.block 0 (.loop [7, 1, 0] [8] j74_1)))
  j74_2))
theorem c74 : fnIs Try.prog qall 74 = some (j74.flat, [.tmp 4], 19) := by kernel_rfl
theorem w74 : j74.wf 19 = true := by kernel_rfl
def idxI (x : Int) : List Int → Nat → Int
  | [], _ => -1
  | y :: l, i => if x = y then i else idxI x l (i + 1)
theorem idxI_has {x : Int} : ∀ {l : List Int} {i : Nat}, decide (0 ≤ idxI x l i) = hasI l x
  | [], i => by simp [idxI, hasI]
  | y :: l, i => by
    rw [idxI]
    by_cases h : x = y
    · subst h; simp [hasI]
    · rw [if_neg h, idxI_has]
      simp [hasI, Ne.symm h, show ¬ y = x from fun e => h e.symm]
theorem f_IndexI (l : List Int) (x : Int) : FnOK Try.prog 74 [dIs.emb l, .int .i64 x] [] (.int .i64 (idxI x l 0)) [] := by
  refine fn_len fun hB => fn_walkF c74 w74 FH.none_ok rfl ?_
  simp only [go_sem, ↓reduceIte, Nat.reduceAdd, Nat.reduceMul, Nat.reduceSub, Nat.reduceLT, Nat.reduceLeDiff, Nat.reduceEqDiff, Int.reduceToNat, Int.reduceEq, Int.reduceLT, Int.reduceLE, reduceCtorEq] at hB
  unfold j74
  simp only [go_sem, ↓reduceIte, Nat.reduceAdd, Nat.reduceMul, Nat.reduceSub, Nat.reduceLT, Nat.reduceLeDiff, Nat.reduceEqDiff, Int.reduceToNat, Int.reduceEq, Int.reduceLT, Int.reduceLE, reduceCtorEq]
  refine loopF Nat (fun i => [.int .i64 i]) (fun _ => []) (fun i => i ≤ l.length ∧ idxI x l 0 = idxI x (l.drop i) i) (fun i => l.length - i) 0 ⟨by omega, rfl⟩ ?_ rfl ?_
  · simp only [go_sem, ↓reduceIte, Nat.reduceAdd, Nat.reduceMul, Nat.reduceSub, Nat.reduceLT, Nat.reduceLeDiff, Nat.reduceEqDiff, Int.reduceToNat, Int.reduceEq, Int.reduceLT, Int.reduceLE, reduceCtorEq]
  intro i hi
  unfold j74_1
  simp only [go_sem, ↓reduceIte, Nat.reduceAdd, Nat.reduceMul, Nat.reduceSub, Nat.reduceLT, Nat.reduceLeDiff, Nat.reduceEqDiff, Int.reduceToNat, Int.reduceEq, Int.reduceLT, Int.reduceLE, reduceCtorEq]
  obtain ⟨hi1, hi2⟩ := hi
  refine ⟨fun h1 => ?_, fun h1 => ?_⟩
  · rw [drop_getD (0 : Int) (show i < l.length by omega), idxI] at hi2
    refine ⟨by omega, fun h2 => ?_, fun h2 => ⟨i + 1, ⟨by omega, ?_⟩, by omega, IntWalk.i64_in _ (by omega)⟩⟩
    · rw [hi2, if_pos h2]
    · rw [hi2, if_neg h2]
  · rw [hi2, List.drop_eq_nil_of_le (by omega), idxI]
    unfold j74_2
    simp only [go_sem, ↓reduceIte, Nat.reduceAdd, Nat.reduceMul, Nat.reduceSub, Nat.reduceLT, Nat.reduceLeDiff, Nat.reduceEqDiff, Int.reduceToNat, Int.reduceEq, Int.reduceLT, Int.reduceLE, reduceCtorEq]

def j71 : JC :=
  (.seq (.ops <|
  qo 4 (.mv (B false)) <|
  .nil)
  (.seq (.ops <|
  qo 5 (.mv (.t 0)) <|
  qo 6 (.mv (.t 1)) <|
  eo 7 (.call 74 [(.t 5), (.t 6)]) <|
  qo 8 (.cmp .geq (.t 7) (I 0)) <|
  qo 4 (.mv (.t 8)) <|
  .nil)
  .ret))
theorem c71 : fnIs Try.prog qall 71 = some (j71.flat, [.tmp 4], 9) := by kernel_rfl
theorem w71 : j71.wf 9 = true := by kernel_rfl
def Gix (f : FuncId) (a : List SV) (m : List Res) : Sx.Call := (FH.rd 74 (.two dIs .int) (.one .int) (fun _ => True) (fun y => idxI y.2.1 y.1 0) FH.none) f a m
theorem Gix_eq (f : FuncId) (a : List SV) (m : List Res) : Gix f a m = (FH.rd 74 (.two dIs .int) (.one .int) (fun _ => True) (fun y => idxI y.2.1 y.1 0) FH.none) f a m := nr rfl
theorem Gix_ok : FHOK Try.prog Gix := FH.rd_ok (by kernel_rfl) (fun y _ => f_IndexI y.1 y.2.1) FH.none_ok
theorem f_ContainsI (l : List Int) (x : Int) : FnOK Try.prog 71 [dIs.emb l, .int .i64 x] [] (.bool (hasI l x)) [] := by
  refine fn_walkF c71 w71 Gix_ok rfl ?_
  unfold j71
  simp only [go_sem, ↓reduceIte, Nat.reduceAdd, Nat.reduceMul, Nat.reduceSub, Nat.reduceLT, Nat.reduceLeDiff, Nat.reduceEqDiff, Int.reduceToNat, Int.reduceEq, Int.reduceLT, Int.reduceLE, reduceCtorEq, Gix_eq]
  rw [idxI_has]
end Go.Proofs.Ytmddnblbfmlgoaa.Hs
