/- Before: what is ahead, as pairs. Conditions: none. -/
import Derived.Test.YtgcbhanfhnianaaAheadM
set_option linter.unusedSimpArgs false
set_option linter.unusedVariables false
set_option maxRecDepth 100000
open Go Go.Sx Go.Proofs
namespace Go.Proofs.Ytgcbhanfhnianaa.Ah
open Go.Proofs.Ytgcbhanfhnianaa.D Go.Proofs.Ytgcbhanfhnianaa.Tr Go.Proofs.Ytgcbhanfhnianaa.Ps Go.Proofs.Ytgcbhanfhnianaa.Od Go.Proofs.Ytgcbhanfhnianaa.Eqs
abbrev aR : DA (List (List Bool) × Unit) := .one dRows.ref

def j118 : JC :=
  (.seq (.ops <|
  qo 5 (.mv (B false)) <|
  .nil)
  (.seq (.ops <|
  eo 6 (.load 1 false (.t 2)) <|
  qo 7 (.mv (.t 1)) <|
  qo 8 (.is 1 (.t 6) (.t 7)) <|
  eo 9 (.load 1 false (.t 8)) <|
  qo 10 (.mv (.t 0)) <|
  qo 11 (.is 1 (.t 9) (.t 10)) <|
  eo 12 (.load 1 false (.t 11)) <|
  qo 5 (.mv (.t 12)) <|
  .nil)
  .ret))
theorem c118 : fnIs Try.prog qall 118 = some (j118.flat, [.tmp 5], 13) := by kernel_rfl
theorem w118 : j118.wf 13 = true := by kernel_rfl
theorem f_Before1 (n : Nat) (M : Nat → Nat → Bool) (i j : Nat) (hi : i < n) (hj : j < n) : FnOK Try.prog 118 [.int .i64 i, .int .i64 j, .ref (dRows.emb (rowsOf n M)) [] 0] [] (.bool (M j i)) [] := by
  refine fn_walkF c118 w118 FH.none_ok rfl ?_
  unfold j118
  simp only [go_sem, ↓reduceIte, Nat.reduceAdd, Nat.reduceMul, Nat.reduceSub, Nat.reduceLT, Nat.reduceLeDiff, Nat.reduceEqDiff, Int.reduceToNat, Int.reduceEq, Int.reduceLT, Int.reduceLE, reduceCtorEq, rows_len, rows_row hj, rows_at hj hi]
  exact ⟨⟨by omega, by omega⟩, ⟨by omega, by omega⟩⟩
def befP (l : List Ev) (i j : Nat) : Bool := tabP l l.length j i

def j69 : JC :=
  (.seq (.ops <|
  qo 2 (.mv (.c .nils)) <|
  qo 3 (.mv (I 0)) <|
  .nil)
  (.seq (.seq (.ops <|
  qo 8 (.mv (.t 0)) <|
  eo 9 (.call 59 [(.t 8)]) <|
  qo 7 (.mv (.t 9)) <|
  qo 10 (.ext 0 (.t 7)) <|
  qo 11 (.ext 1 (.t 7)) <|
  qo 4 (.mv (.t 10)) <|
  qo 5 (.mv (.t 11)) <|
  .nil)
  (.seq (.ops <|
  qo 12 (.mv (.t 5)) <|
  qo 13 (.cmp .neq (.t 12) (I 0)) <|
  .nil)
  (.prune [13, 5, 0] (.cond (.t 13)
  (.seq (.ops <|
  qo 14 (.mv (.t 5)) <|
  qo 2 (.mv (.c .nils)) <|
  qo 3 (.mv (.t 14)) <|
  .nil)
  (.vecs 2 133 2 .ret))
  .skip))))
  (.prune [0] (.seq (.ops <|
  qo 15 (.mv (.t 0)) <|
  eo 16 (.call 116 [(.t 15)]) <|
  eo 6 (.alloc 192 .nils) <|
  en (.store 1 (.t 6) (.t 16)) <|
  .nil)
  (.seq (.ops <|
  qo 17 (.mv (.t 0)) <|
  qo 18 (.mkfn 118 [(.t 6)]) <|
  .prune [17, 18] <|
  eo 19 (.call 117 [(.t 17), (.t 18)]) <|
  qo 2 (.mv (.t 19)) <|
  qo 3 (.mv (I 0)) <|
  .nil)
  (.vecs 2 133 2 .ret))))))
theorem c69 : fnIs Try.prog qall 69 = some (j69.flat, [.tmp 2, .tmp 3], 20) := by kernel_rfl
theorem w69 : j69.wf 20 = true := by kernel_rfl
def Gbf (f : FuncId) (a : List SV) (m : List Res) : Sx.Call := (FH.rd 59 (.one dEs) (.two .int .int) (fun _ => True) (fun y => (playedF y.1).2) <|
  FH.pz 116 (.one dEs) (.one dRows) (fun y => y.1.length ≤ 1000) (fun y => rowsOf y.1.length (tabP y.1 y.1.length)) <|
  FH.mk 117 (.two dEs (DT.clo 118 aR)) (fun y => y.1.length ≤ 100 ∧ y.2.1.1 = rowsOf y.1.length (tabP y.1 y.1.length)) (fun y => .vec 0 (pairsF y.1 (befP y.1)).length) (fun y => [.vec 133 2 ((pairsF y.1 (befP y.1)).map dPr.emb)]) FH.none) f a m
theorem Gbf_eq (f : FuncId) (a : List SV) (m : List Res) : Gbf f a m = (FH.rd 59 (.one dEs) (.two .int .int) (fun _ => True) (fun y => (playedF y.1).2) <|
  FH.pz 116 (.one dEs) (.one dRows) (fun y => y.1.length ≤ 1000) (fun y => rowsOf y.1.length (tabP y.1 y.1.length)) <|
  FH.mk 117 (.two dEs (DT.clo 118 aR)) (fun y => y.1.length ≤ 100 ∧ y.2.1.1 = rowsOf y.1.length (tabP y.1 y.1.length)) (fun y => .vec 0 (pairsF y.1 (befP y.1)).length) (fun y => [.vec 133 2 ((pairsF y.1 (befP y.1)).map dPr.emb)]) FH.none) f a m := nr rfl
theorem Gbf_ok : FHOK Try.prog Gbf := FH.rd_ok (by kernel_rfl) (fun y _ => f_Check y.1) <| FH.pz_ok (by kernel_rfl) (fun y h => f_ahead y.1 h) <|
  FH.mk_ok (by kernel_rfl) (fun y _ => plainM (pv_vec _ _) ⟨plR_vec _ _ dPr _, trivial⟩) (fun y h => by
    obtain ⟨l, ⟨r, u⟩, v⟩ := y
    obtain ⟨h1, h2⟩ := h
    simp only at h1 h2
    subst h2
    exact f_pairs 118 aR (rowsOf l.length (tabP l l.length), ()) l (befP l) h1 (by kernel_rfl) (fun i j hi hj => f_Before1 l.length (tabP l l.length) i j hi hj)) FH.none_ok
theorem f_Before (l : List Ev) : FnOK Try.prog 69 [dEs.emb l] [] (.tup [.vec 0 (directF l (befP l)).length, .int .i64 (playedF l).2.2]) [.vec 133 2 ((directF l (befP l)).map dPr.emb)] := by
  refine fn_walkF c69 w69 Gbf_ok rfl ?_
  unfold j69
  simp only [go_sem, ↓reduceIte, Nat.reduceAdd, Nat.reduceMul, Nat.reduceSub, Nat.reduceLT, Nat.reduceLeDiff, Nat.reduceEqDiff, Int.reduceToNat, Int.reduceEq, Int.reduceLT, Int.reduceLE, reduceCtorEq, Gbf_eq]
  refine ⟨fun h => by simp [directF, h], fun h => ?_⟩
  have := ok_len (l := l) (by rw [← played_check]; exact h)
  exact ⟨by omega, by omega, by simp [directF, h]⟩
theorem befP_eq {l : List Ev} {a b : Nat} (hb : b < l.length) : befP l a b = aheadR l a b := tab_eq l hb
theorem bef_pairs (l : List Ev) : pairsF l (befP l) = allP (aheadR l) l.length l.length := allP_congr _ fun a b ha hb => by
  rw [upP, befP_eq hb]
  cases h : aheadR l a b with
  | false => simp
  | true => simp [((aheadR_iff (Nat.le_of_lt hb)).1 h).lt]
end Go.Proofs.Ytgcbhanfhnianaa.Ah
