/- The reference's Held. Conditions: none. -/
import Derived.Test.YtafcmgfmmlnngaaTraceR
set_option linter.unusedSimpArgs false
set_option linter.unusedVariables false
set_option maxRecDepth 100000
open Go Go.Sx Go.Proofs
namespace Go.Proofs.Ytafcmgfmmlnngaa.Tr
open Go.Proofs.Ytafcmgfmmlnngaa.D
def j50_1 : JC :=
  (.seq (.ops <|
  qo 8 (.cmp .lss (.t 7) (I 5)) <|
  .nil)
  (.seq (.cond (.t 8)
  .skip
  (.exit 0))
  (.seq (.block 1 (.seq (.ops <|
  qo 9 (.mv (.t 7)) <|
  qo 6 (.mv (.t 9)) <|
  .nil)
  (.seq (.ops <|
  qo 10 (.mv (.t 0)) <|
  qo 11 (.mv (.t 6)) <|
  eo 12 (.call 70 [(.t 10), (.t 11)]) <|
  qo 13 (.mv (.t 1)) <|
  qo 14 (.cmp .eql (.t 12) (.t 13)) <|
  .nil)
  (.prune [14, 5, 6, 7, 0, 1] (.cond (.t 14)
  (.ops <|
  qo 15 (.mv (.t 5)) <|
  qo 16 (.mv (.t 6)) <|
  .prune [16, 15, 7, 0, 1] <|
  qo 17 (.ar .shl (I 1) (.t 16)) <|
  qo 18 (.ar .add (.t 15) (.t 17)) <|
  qo 5 (.mv (.t 18)) <|
  .nil)
  .skip)))))
  (.prune [7, 0, 1, 5] (.ops <|
  qo 19 (.ar .add (.t 7) (I 1)) <|
  qo 7 (.mv (.t 19)) <|
  .nil)))))
def j50_2 : JC :=
  (.prune [5] (.seq (.ops <|
  qo 20 (.mv (.t 5)) <|
  qo 4 (.mv (.t 20)) <|
  .nil)
  .ret))
def j50 : JC :=
  (.seq (.ops <|
  qo 4 (.mv (I 0)) <|
  .nil)
  (.seq (.ops <|
  qo 5 (.mv (I 0)) <|
  .nil)
  (.seq (.seq (.ops <|
  qo 7 (.mv (I 0)) <|
  .nil)
  (.block 0 (.loop [0, 1] [7, 5] j50_1)))
  j50_2)))
theorem c50 : fnIs Try.prog qall 50 = some (j50.flat, [.tmp 4], 21) := by kernel_rfl
theorem w50 : j50.wf 21 = true := by kernel_rfl
/-- A set of the first n, as a number. -/
def sumB (p : Nat → Bool) : Nat → Nat
  | 0 => 0
  | n + 1 => sumB p n + if p n then 2 ^ n else 0
theorem sumB_lt (p : Nat → Bool) : ∀ n, sumB p n < 2 ^ n
  | 0 => by simp [sumB]
  | n + 1 => by
    have := sumB_lt p n
    simp only [sumB, Nat.pow_succ]
    split <;> omega
theorem sumB_congr {p q : Nat → Bool} : ∀ n, (∀ k, k < n → p k = q k) → sumB p n = sumB q n
  | 0, _ => rfl
  | n + 1, h => by rw [sumB, sumB, sumB_congr n (fun k hk => h k (by omega)), h n (by omega)]
theorem or_add : ∀ k, k < 5 → ∀ s, s < 2 ^ k → bitOr .i64 (s : Nat) (IntKind.i64.wrap (1 * 2 ^ (min k 64))) = ((s + 2 ^ k : Nat) : Int) := by decide
theorem shl_add : ∀ k, k < 5 → ∀ s, s < 2 ^ k → IntKind.i64.wrap ((s : Nat) + IntKind.i64.wrap (1 * 2 ^ (min k 64))) = ((s + 2 ^ k : Nat) : Int) := by decide
def Go' : FH := FH.rd 70 (.two dEs .int) (.one .int) (fun _ => True) (fun y => Tr.ownR y.1 y.2.1) FH.none
theorem Go'_ok : FHOK Try.prog Go' := FH.rd_ok (by kernel_rfl) (fun y _ => f_owner y.1 y.2.1) FH.none_ok
def rheld (l : List Ev) (t : Int) (n : Nat) : Nat := sumB (fun k => decide (Tr.ownR l k = t)) n
theorem f_RHeld (l : List Ev) (t : Int) : FnOK Try.prog 50 [dEs.emb l, .int .i64 t] [] (.int .i64 (rheld l t 5 : Nat)) [] := by
  refine fn_walkF c50 w50 Go'_ok rfl ?_
  unfold j50
  simp only [go_sem, ↓reduceIte, Nat.reduceAdd, Nat.reduceMul, Nat.reduceSub, Nat.reduceLT, Nat.reduceLeDiff, Nat.reduceEqDiff, Int.reduceToNat, Int.reduceEq, Int.reduceLT, Int.reduceLE, reduceCtorEq]
  refine loopF Nat (fun i => [.int .i64 i, .int .i64 (rheld l t i : Nat)]) (fun i => []) (fun i => i ≤ 5) (fun i => 5 - i) 0 (by omega) ?_ rfl ?_
  · simp only [go_sem, ↓reduceIte, Nat.reduceAdd, Nat.reduceMul, Nat.reduceSub, Nat.reduceLT, Nat.reduceLeDiff, Nat.reduceEqDiff, Int.reduceToNat, Int.reduceEq, Int.reduceLT, Int.reduceLE, reduceCtorEq]
    rfl
  · intro i hi
    unfold j50_1
    simp only [go_sem, ↓reduceIte, Nat.reduceAdd, Nat.reduceMul, Nat.reduceSub, Nat.reduceLT, Nat.reduceLeDiff, Nat.reduceEqDiff, Int.reduceToNat, Int.reduceEq, Int.reduceLT, Int.reduceLE, reduceCtorEq, Go']
    refine ⟨fun h1 => ⟨fun h3 => ⟨by omega, i + 1, by omega, by omega, IntWalk.i64_in _ (by omega), ?_⟩, fun h3 => ⟨i + 1, by omega, by omega, IntWalk.i64_in _ (by omega), ?_⟩⟩, fun h1 => ?_⟩
    · have := shl_add i (by omega) _ (sumB_lt (fun k => decide (Tr.ownR l k = t)) i)
      simp only [rheld, Int.toNat_natCast, IntKind.bits] at this ⊢
      rw [this, sumB, if_pos (decide_eq_true h3)]
    · simp only [rheld]
      rw [sumB, if_neg (by simpa using h3)]; rfl
    · rw [show i = 5 by omega]
      unfold j50_2
      simp only [go_sem, ↓reduceIte, Nat.reduceAdd, Nat.reduceMul, Nat.reduceSub, Nat.reduceLT, Nat.reduceLeDiff, Nat.reduceEqDiff, Int.reduceToNat, Int.reduceEq, Int.reduceLT, Int.reduceLE, reduceCtorEq]
end Go.Proofs.Ytafcmgfmmlnngaa.Tr
