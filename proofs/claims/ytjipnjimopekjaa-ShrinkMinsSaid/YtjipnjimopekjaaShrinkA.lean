/- A trace without an event. Conditions: none. -/
import Derived.Test.YtjipnjimopekjaaTraceR
import Derived.Test.YtjipnjimopekjaaCpy
import Derived.Test.YtjipnjimopekjaaShDel
set_option linter.unusedSimpArgs false
set_option linter.unusedVariables false
set_option maxRecDepth 100000
open Go Go.Sx Go.Proofs
namespace Go.Proofs.Ytjipnjimopekjaa.Sk
open Go.Proofs.Ytjipnjimopekjaa.D Go.Proofs.Ytjipnjimopekjaa.Tr Go.Proofs.Ytjipnjimopekjaa.Cp
theorem ev_cells : OneCells dEv := by
  intro x ε cs h
  rw [ev_emb] at h
  simp only [SatC, SatL] at h
  obtain ⟨a, b, rfl, rfl, c, d, rfl, rfl, e, f, rfl, rfl, rfl⟩ := h
  intro v hv
  simp only [List.mem_append, List.mem_cons, List.not_mem_nil, or_false] at hv
  rcases hv with rfl | rfl | rfl <;> rfl

def j91 : JC :=
  (.seq (.ops <|
  qo 4 (.mv (.c .nils)) <|
  qo 5 (.mv (B false)) <|
  .nil)
  (.seq (.ops <|
  qo 8 (.mv (.t 0)) <|
  eo 9 (.call 54 [(.t 8)]) <|
  qo 10 (.mv (.t 1)) <|
  qo 11 (.mv (.t 1)) <|
  qo 12 (.ar .add (.t 11) (I 1)) <|
  eo 13 (.call 147 [(.t 9), (.t 10), (.t 12)]) <|
  qo 0 (.mv (.t 13)) <|
  .nil)
  (.seq (.ops <|
  .prune [0] <|
  qo 15 (.mv (.t 0)) <|
  eo 16 (.call 44 [(.t 15)]) <|
  qo 14 (.mv (.t 16)) <|
  qo 17 (.ext 0 (.t 14)) <|
  qo 18 (.ext 1 (.t 14)) <|
  qo 6 (.mv (.t 17)) <|
  qo 7 (.mv (.t 18)) <|
  .nil)
  (.prune [0, 7] (.seq (.ops <|
  qo 19 (.mv (.t 0)) <|
  qo 20 (.mv (.t 7)) <|
  qo 21 (.cmp .eql (.t 20) (I 0)) <|
  qo 4 (.mv (.t 19)) <|
  qo 5 (.mv (.t 21)) <|
  .nil)
  .ret)))))
theorem c91 : fnIs Try.prog qall 91 = some (j91.flat, [.tmp 4, .tmp 5], 22) := by kernel_rfl
theorem w91 : j91.wf 22 = true := by kernel_rfl
def Gle (f : FuncId) (a : List SV) (m : List Res) : Sx.Call := (FH.mk 54 (.one dEs) (fun y => y.1.length ≤ 1000000) (fun y => .vec 0 y.1.length) (fun y => [.vec 26 3 (y.1.map dEv.emb)]) <|
  FH.de 147 dEv 3 <| FH.rd 44 (.one dEs) (.two .int .int) (fun _ => True) (fun y => (playedF y.1).2) FH.none) f a m
theorem Gle_eq (f : FuncId) (a : List SV) (m : List Res) : Gle f a m = (FH.mk 54 (.one dEs) (fun y => y.1.length ≤ 1000000) (fun y => .vec 0 y.1.length) (fun y => [.vec 26 3 (y.1.map dEv.emb)]) <|
  FH.de 147 dEv 3 <| FH.rd 44 (.one dEs) (.two .int .int) (fun _ => True) (fun y => (playedF y.1).2) FH.none) f a m := nr rfl
theorem Gle_ok : FHOK Try.prog Gle := FH.mk_ok (by kernel_rfl) (fun y _ => plainM (pv_vec _ _) ⟨plR_vec _ _ dEv _, trivial⟩) (fun y h => f_CloneEv y.1 h) <|
  FH.de_ok Sh.dels3 ev_cells (by decide) <| FH.rd_ok (by kernel_rfl) (fun y _ => f_Check y.1) FH.none_ok
def cut (l : List Ev) (i : Nat) : List Ev := delL l i (i + 1)
theorem cut_len {l : List Ev} {i : Nat} (hi : i < l.length) : (cut l i).length = l.length - 1 := by
  rw [cut, delL_length (by omega) (by omega)]; omega
theorem f_left (l : List Ev) (i : Nat) (hl : l.length ≤ 1000) (hi : i < l.length) : FnOK Try.prog 91 [dEs.emb l, .int .i64 i] [] (.tup [.vec 0 (l.length - 1), .bool (decide ((checkR (cut l i)).2 = 0))]) [.vec 26 3 ((cut l i).map dEv.emb)] := by
  have hw : IntKind.i64.wrap ((i : Int) + 1) = ((i + 1 : Nat) : Int) := IntWalk.i64_in _ (by omega)
  refine fn_walkF c91 w91 Gle_ok rfl ?_
  unfold j91
  simp only [go_sem, ↓reduceIte, Nat.reduceAdd, Nat.reduceMul, Nat.reduceSub, Nat.reduceLT, Nat.reduceLeDiff, Nat.reduceEqDiff, Int.reduceToNat, Int.reduceEq, Int.reduceLT, Int.reduceLE, reduceCtorEq, Gle_eq, hw]
  have he : (playedF (delL l i (i + 1))).2.2 = (checkR (cut l i)).2 := by rw [played_check]; rfl
  rw [he, show i + 1 - i = 1 by omega]
  exact ⟨by omega, by omega, rfl, rfl⟩

def j41 : JC :=
  (.seq (.ops <|
  qo 4 (.mv (.c .nils)) <|
  qo 5 (.mv (I 0)) <|
  .nil)
  (.seq (.seq (.ops <|
  qo 11 (.mv (.t 0)) <|
  eo 12 (.call 44 [(.t 11)]) <|
  qo 10 (.mv (.t 12)) <|
  qo 13 (.ext 0 (.t 10)) <|
  qo 14 (.ext 1 (.t 10)) <|
  qo 6 (.mv (.t 13)) <|
  qo 7 (.mv (.t 14)) <|
  .nil)
  (.seq (.ops <|
  qo 15 (.mv (.t 7)) <|
  qo 16 (.cmp .neq (.t 15) (I 0)) <|
  .nil)
  (.prune [16, 7, 1, 0] (.cond (.t 16)
  (.seq (.ops <|
  qo 17 (.mv (.t 7)) <|
  qo 4 (.mv (.c .nils)) <|
  qo 5 (.mv (.t 17)) <|
  .nil)
  (.vecs 4 26 3 .ret))
  .skip))))
  (.prune [1, 0] (.seq (.seq (.ops <|
  qo 18 (.mv (.t 1)) <|
  qo 19 (.cmp .lss (.t 18) (I 0)) <|
  qo 20 (.mv (.t 19)) <|
  .sc true 25 20 (qo 21 (.mv (.t 1)) <|
  qo 22 (.mv (.t 0)) <|
  qo 23 (.len (.t 22)) <|
  qo 24 (.cmp .geq (.t 21) (.t 23)) <|
  .nil) (.t 24) <|
  .nil)
  (.prune [25, 0, 1] (.cond (.t 25)
  (.seq (.ops <|
  qo 4 (.mv (.c .nils)) <|
  qo 5 (.mv (I 1)) <|
  .nil)
  (.vecs 4 26 3 .ret))
  .skip)))
  (.prune [0, 1] (.seq (.ops <|
  qo 27 (.mv (.t 0)) <|
  qo 28 (.mv (.t 1)) <|
  eo 29 (.call 91 [(.t 27), (.t 28)]) <|
  qo 26 (.mv (.t 29)) <|
  qo 30 (.ext 0 (.t 26)) <|
  .prune [26, 30] <|
  qo 31 (.ext 1 (.t 26)) <|
  qo 8 (.mv (.t 30)) <|
  qo 9 (.mv (.t 31)) <|
  .nil)
  (.prune [9, 8] (.seq (.seq (.ops <|
  qo 32 (.mv (.t 9)) <|
  qo 33 (.nt (.t 32)) <|
  .nil)
  (.cond (.t 33)
  (.seq (.ops <|
  qo 4 (.mv (.c .nils)) <|
  qo 5 (.mv (I 5)) <|
  .nil)
  (.vecs 4 26 3 .ret))
  .skip))
  (.seq (.ops <|
  qo 34 (.mv (.t 8)) <|
  qo 4 (.mv (.t 34)) <|
  qo 5 (.mv (I 0)) <|
  .nil)
  (.vecs 4 26 3 .ret))))))))))
theorem c41 : fnIs Try.prog qall 41 = some (j41.flat, [.tmp 4, .tmp 5], 35) := by kernel_rfl
theorem w41 : j41.wf 35 = true := by kernel_rfl
def Gwi (f : FuncId) (a : List SV) (m : List Res) : Sx.Call := (FH.rd 44 (.one dEs) (.two .int .int) (fun _ => True) (fun y => (playedF y.1).2) <|
  FH.mk 91 (.two dEs .int) (fun y => y.1.length ≤ 1000 ∧ 0 ≤ y.2.1 ∧ y.2.1 < y.1.length) (fun y => .tup [.vec 0 (y.1.length - 1), .bool (decide ((checkR (cut y.1 y.2.1.toNat)).2 = 0))]) (fun y => [.vec 26 3 ((cut y.1 y.2.1.toNat).map dEv.emb)]) FH.none) f a m
theorem Gwi_eq (f : FuncId) (a : List SV) (m : List Res) : Gwi f a m = (FH.rd 44 (.one dEs) (.two .int .int) (fun _ => True) (fun y => (playedF y.1).2) <|
  FH.mk 91 (.two dEs .int) (fun y => y.1.length ≤ 1000 ∧ 0 ≤ y.2.1 ∧ y.2.1 < y.1.length) (fun y => .tup [.vec 0 (y.1.length - 1), .bool (decide ((checkR (cut y.1 y.2.1.toNat)).2 = 0))]) (fun y => [.vec 26 3 ((cut y.1 y.2.1.toNat).map dEv.emb)]) FH.none) f a m := nr rfl
theorem Gwi_ok : FHOK Try.prog Gwi := FH.rd_ok (by kernel_rfl) (fun y _ => f_Check y.1) <|
  FH.mk_ok (by kernel_rfl) (fun y _ => plainM (pv_tup ⟨plV_vec _ _, plV_bool _, trivial⟩) ⟨plR_vec _ _ dEv _, trivial⟩) (fun y h => by
    have := f_left y.1 y.2.1.toNat h.1 (by omega)
    rwa [Int.toNat_of_nonneg h.2.1] at this) FH.none_ok
/-- What Without tells. -/
def withoutF (l : List Ev) (i : Int) : List Ev × Int :=
  if (checkR l).2 = 0 then (if i < 0 ∨ (l.length : Int) ≤ i then ([], 1) else if (checkR (cut l i.toNat)).2 = 0 then (cut l i.toNat, 0) else ([], 5)) else ([], (checkR l).2)
theorem f_Without (l : List Ev) (i : Int) : FnOK Try.prog 41 [dEs.emb l, .int .i64 i] [] (.tup [.vec 0 (withoutF l i).1.length, .int .i64 (withoutF l i).2]) [.vec 26 3 ((withoutF l i).1.map dEv.emb)] := by
  refine fn_walkF c41 w41 Gwi_ok rfl ?_
  unfold j41
  have he : (playedF l).2.2 = (checkR l).2 := by rw [played_check]
  unfold withoutF
  by_cases h : (checkR l).2 = 0
  · have hl := ok_len h
    rw [if_pos h]
    by_cases hi : i < 0 ∨ (l.length : Int) ≤ i
    · have hd : (decide (i < 0) || decide ((l.length : Int) ≤ i)) = true := by simpa using hi
      rw [if_pos hi]
      simp only [go_sem, ↓reduceIte, Nat.reduceAdd, Nat.reduceMul, Nat.reduceSub, Nat.reduceLT, Nat.reduceLeDiff, Nat.reduceEqDiff, Int.reduceToNat, Int.reduceEq, Int.reduceLT, Int.reduceLE, reduceCtorEq, Gwi_eq, he, h, hd]
    · have hd : (decide (i < 0) || decide ((l.length : Int) ≤ i)) = false := by simpa using hi
      have h1 : l.length ≤ 1000 := by omega
      have h2 : 0 ≤ i := by omega
      have h3 : i < l.length := by omega
      have hc := cut_len (l := l) (i := i.toNat) (by omega)
      rw [if_neg hi]
      by_cases hq : (checkR (cut l i.toNat)).2 = 0
      · rw [if_pos hq]
        simp only [go_sem, ↓reduceIte, Nat.reduceAdd, Nat.reduceMul, Nat.reduceSub, Nat.reduceLT, Nat.reduceLeDiff, Nat.reduceEqDiff, Int.reduceToNat, Int.reduceEq, Int.reduceLT, Int.reduceLE, reduceCtorEq, Gwi_eq, he, h, hd, h1, h2, h3, hq, hc]
      · rw [if_neg hq]
        simp only [go_sem, ↓reduceIte, Nat.reduceAdd, Nat.reduceMul, Nat.reduceSub, Nat.reduceLT, Nat.reduceLeDiff, Nat.reduceEqDiff, Int.reduceToNat, Int.reduceEq, Int.reduceLT, Int.reduceLE, reduceCtorEq, Gwi_eq, he, h, hd, h1, h2, h3, hq, hc]
  · rw [if_neg h]
    simp only [go_sem, ↓reduceIte, Nat.reduceAdd, Nat.reduceMul, Nat.reduceSub, Nat.reduceLT, Nat.reduceLeDiff, Nat.reduceEqDiff, Int.reduceToNat, Int.reduceEq, Int.reduceLT, Int.reduceLE, reduceCtorEq, Gwi_eq, he, h]
end Go.Proofs.Ytjipnjimopekjaa.Sk
