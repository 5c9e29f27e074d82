/- What is directly ahead: the package order and its reference. Conditions: none. -/
import Derived.Test.YtohbjnpafpcbkaaPairs
import Derived.Test.YtohbjnpafpcbkaaTraceR
import Derived.Test.YtohbjnpafpcbkaaEqs
set_option linter.unusedSimpArgs false
set_option linter.unusedVariables false
set_option maxRecDepth 100000
open Go Go.Sx Go.Proofs
namespace Go.Proofs.Ytohbjnpafpcbkaa.Od
open Go.Proofs.Ytohbjnpafpcbkaa.D Go.Proofs.Ytohbjnpafpcbkaa.Tr Go.Proofs.Ytohbjnpafpcbkaa.Ps Go.Proofs.Ytohbjnpafpcbkaa.Eqs

def j63 : JC :=
  (.seq (.ops <|
  eo 2 (.box 54 (.t 0)) <|
  eo 3 (.box 54 (.t 1)) <|
  qo 4 (.mv (B false)) <|
  .nil)
  (.seq (.ops <|
  qo 6 (.fa 0 0 (.t 2)) <|
  eo 7 (.load 1 false (.t 6)) <|
  qo 8 (.cmp .eql (.t 7) (I 4)) <|
  qo 9 (.mv (.t 8)) <|
  .prune [9, 3, 2] <|
  .sc false 13 9 (qo 10 (.fa 0 0 (.t 3)) <|
  eo 11 (.load 1 false (.t 10)) <|
  qo 12 (.cmp .eql (.t 11) (I 3)) <|
  .nil) (.t 12) <|
  qo 14 (.mv (.t 13)) <|
  .sc true 23 14 (qo 15 (.fa 0 0 (.t 2)) <|
  eo 16 (.load 1 false (.t 15)) <|
  qo 17 (.cmp .eql (.t 16) (I 8)) <|
  qo 18 (.mv (.t 17)) <|
  .sc false 22 18 (qo 19 (.fa 0 0 (.t 3)) <|
  eo 20 (.load 1 false (.t 19)) <|
  qo 21 (.cmp .eql (.t 20) (I 7)) <|
  .nil) (.t 21) <|
  .nil) (.t 22) <|
  qo 24 (.mv (.t 23)) <|
  .prune [24, 2, 3] <|
  .sc true 33 24 (qo 25 (.fa 0 0 (.t 2)) <|
  eo 26 (.load 1 false (.t 25)) <|
  qo 27 (.cmp .eql (.t 26) (I 5)) <|
  qo 28 (.mv (.t 27)) <|
  .sc false 32 28 (qo 29 (.fa 0 0 (.t 3)) <|
  eo 30 (.load 1 false (.t 29)) <|
  qo 31 (.cmp .eql (.t 30) (I 6)) <|
  .nil) (.t 31) <|
  .nil) (.t 32) <|
  qo 5 (.mv (.t 33)) <|
  .nil)
  (.prune [2, 3, 5] (.seq (.block 0 (.seq (.seq (.ops <|
  qo 35 (.fa 1 1 (.t 2)) <|
  eo 36 (.load 1 false (.t 35)) <|
  qo 37 (.fa 1 1 (.t 3)) <|
  eo 38 (.load 1 false (.t 37)) <|
  qo 39 (.cmp .eql (.t 36) (.t 38)) <|
  qo 34 (.mv (.t 39)) <|
  .nil)
  (.cond (.t 34)
  .skip
  (.ops <|
  .prune [5, 2, 3] <|
  qo 40 (.mv (.t 5)) <|
  qo 41 (.mv (.t 40)) <|
  .sc false 47 41 (qo 42 (.fa 2 2 (.t 2)) <|
  eo 43 (.load 1 false (.t 42)) <|
  qo 44 (.fa 2 2 (.t 3)) <|
  eo 45 (.load 1 false (.t 44)) <|
  qo 46 (.cmp .eql (.t 43) (.t 45)) <|
  .nil) (.t 46) <|
  qo 34 (.mv (.t 47)) <|
  .nil)))
  (.prune [34, 2, 3] (.cond (.t 34)
  (.seq (.ops <|
  qo 4 (.mv (B true)) <|
  .nil)
  .ret)
  .skip))))
  (.prune [2, 3] (.seq (.ops <|
  qo 48 (.fa 0 0 (.t 2)) <|
  eo 49 (.load 1 false (.t 48)) <|
  qo 50 (.cmp .eql (.t 49) (I 5)) <|
  qo 51 (.mv (.t 50)) <|
  .sc false 57 51 (qo 52 (.fa 2 2 (.t 2)) <|
  eo 53 (.load 1 false (.t 52)) <|
  qo 54 (.fa 1 1 (.t 3)) <|
  eo 55 (.load 1 false (.t 54)) <|
  qo 56 (.cmp .eql (.t 53) (.t 55)) <|
  .nil) (.t 56) <|
  .prune [57, 3, 2] <|
  qo 58 (.mv (.t 57)) <|
  .sc true 69 58 (qo 59 (.fa 0 0 (.t 3)) <|
  eo 60 (.load 1 false (.t 59)) <|
  qo 61 (.cmp .eql (.t 60) (I 6)) <|
  qo 62 (.mv (.t 61)) <|
  .sc false 68 62 (qo 63 (.fa 2 2 (.t 3)) <|
  eo 64 (.load 1 false (.t 63)) <|
  qo 65 (.fa 1 1 (.t 2)) <|
  eo 66 (.load 1 false (.t 65)) <|
  qo 67 (.cmp .eql (.t 64) (.t 66)) <|
  .nil) (.t 67) <|
  .nil) (.t 68) <|
  qo 4 (.mv (.t 69)) <|
  .nil)
  .ret))))))
theorem c63 : fnIs Try.prog qall 63 = some (j63.flat, [.tmp 4], 70) := by kernel_rfl
theorem w63 : j63.wf 70 = true := by kernel_rfl

def j29 : JC :=
  (.seq (.ops <|
  eo 2 (.box 54 (.t 0)) <|
  eo 3 (.box 54 (.t 1)) <|
  qo 4 (.mv (B false)) <|
  .nil)
  (.seq (.ops <|
  qo 5 (.fa 1 1 (.t 2)) <|
  eo 6 (.load 1 false (.t 5)) <|
  qo 7 (.fa 1 1 (.t 3)) <|
  eo 8 (.load 1 false (.t 7)) <|
  .prune [6, 8, 2, 3] <|
  qo 9 (.cmp .eql (.t 6) (.t 8)) <|
  qo 10 (.mv (.t 9)) <|
  .sc true 26 10 (qo 11 (.fa 0 0 (.t 2)) <|
  eo 12 (.load 1 false (.t 11)) <|
  qo 13 (.cmp .eql (.t 12) (I 4)) <|
  qo 14 (.mv (.t 13)) <|
  .sc false 18 14 (qo 15 (.fa 0 0 (.t 3)) <|
  eo 16 (.load 1 false (.t 15)) <|
  qo 17 (.cmp .eql (.t 16) (I 3)) <|
  .nil) (.t 17) <|
  qo 19 (.mv (.t 18)) <|
  .sc false 25 19 (qo 20 (.fa 2 2 (.t 2)) <|
  eo 21 (.load 1 false (.t 20)) <|
  qo 22 (.fa 2 2 (.t 3)) <|
  eo 23 (.load 1 false (.t 22)) <|
  qo 24 (.cmp .eql (.t 21) (.t 23)) <|
  .nil) (.t 24) <|
  .nil) (.t 25) <|
  .prune [26, 2, 3] <|
  qo 27 (.mv (.t 26)) <|
  .sc true 38 27 (qo 28 (.fa 0 0 (.t 2)) <|
  eo 29 (.load 1 false (.t 28)) <|
  qo 30 (.cmp .eql (.t 29) (I 5)) <|
  qo 31 (.mv (.t 30)) <|
  .sc false 37 31 (qo 32 (.fa 1 1 (.t 3)) <|
  eo 33 (.load 1 false (.t 32)) <|
  qo 34 (.fa 2 2 (.t 2)) <|
  eo 35 (.load 1 false (.t 34)) <|
  qo 36 (.cmp .eql (.t 33) (.t 35)) <|
  .nil) (.t 36) <|
  .nil) (.t 37) <|
  qo 39 (.mv (.t 38)) <|
  .sc true 50 39 (qo 40 (.fa 0 0 (.t 3)) <|
  eo 41 (.load 1 false (.t 40)) <|
  qo 42 (.cmp .eql (.t 41) (I 6)) <|
  qo 43 (.mv (.t 42)) <|
  .sc false 49 43 (qo 44 (.fa 1 1 (.t 2)) <|
  eo 45 (.load 1 false (.t 44)) <|
  qo 46 (.fa 2 2 (.t 3)) <|
  eo 47 (.load 1 false (.t 46)) <|
  qo 48 (.cmp .eql (.t 45) (.t 47)) <|
  .nil) (.t 48) <|
  .nil) (.t 49) <|
  .prune [50, 2, 3] <|
  qo 51 (.mv (.t 50)) <|
  .sc true 67 51 (qo 52 (.fa 0 0 (.t 2)) <|
  eo 53 (.load 1 false (.t 52)) <|
  qo 54 (.cmp .eql (.t 53) (I 8)) <|
  qo 55 (.mv (.t 54)) <|
  .sc false 59 55 (qo 56 (.fa 0 0 (.t 3)) <|
  eo 57 (.load 1 false (.t 56)) <|
  qo 58 (.cmp .eql (.t 57) (I 7)) <|
  .nil) (.t 58) <|
  qo 60 (.mv (.t 59)) <|
  .sc false 66 60 (qo 61 (.fa 2 2 (.t 2)) <|
  eo 62 (.load 1 false (.t 61)) <|
  qo 63 (.fa 2 2 (.t 3)) <|
  eo 64 (.load 1 false (.t 63)) <|
  qo 65 (.cmp .eql (.t 62) (.t 64)) <|
  .nil) (.t 65) <|
  .nil) (.t 66) <|
  qo 68 (.mv (.t 67)) <|
  .sc true 84 68 (qo 69 (.fa 0 0 (.t 2)) <|
  eo 70 (.load 1 false (.t 69)) <|
  qo 71 (.cmp .eql (.t 70) (I 5)) <|
  qo 72 (.mv (.t 71)) <|
  .sc false 76 72 (qo 73 (.fa 0 0 (.t 3)) <|
  eo 74 (.load 1 false (.t 73)) <|
  qo 75 (.cmp .eql (.t 74) (I 6)) <|
  .nil) (.t 75) <|
  qo 77 (.mv (.t 76)) <|
  .sc false 83 77 (qo 78 (.fa 2 2 (.t 2)) <|
  eo 79 (.load 1 false (.t 78)) <|
  qo 80 (.fa 2 2 (.t 3)) <|
  eo 81 (.load 1 false (.t 80)) <|
  qo 82 (.cmp .eql (.t 79) (.t 81)) <|
  .nil) (.t 82) <|
  .nil) (.t 83) <|
  qo 4 (.mv (.t 84)) <|
  .nil)
  .ret))
theorem c29 : fnIs Try.prog qall 29 = some (j29.flat, [.tmp 4], 85) := by kernel_rfl
theorem w29 : j29.wf 85 = true := by kernel_rfl
def dirP (a b : Ev) : Bool := decide (a.thr = b.thr) || decide (a.kind = 4) && decide (b.kind = 3) && decide (a.obj = b.obj) || decide (a.kind = 5) && decide (a.obj = b.thr) ||
  decide (b.kind = 6) && decide (b.obj = a.thr) || decide (a.kind = 8) && decide (b.kind = 7) && decide (a.obj = b.obj) || decide (a.kind = 5) && decide (b.kind = 6) && decide (a.obj = b.obj)
theorem dir_law : ∀ t k4 k3 o k5 ot k6 ot' k8 k7 : Bool, (t || k4 && k3 && o || k5 && ot || k6 && ot' || k8 && k7 && o || k5 && k6 && o) =
    (t || (k4 && k3 || k8 && k7 || k5 && k6) && o || (k5 && ot || k6 && ot')) := by decide
theorem f_directly (a b : Ev) : FnOK Try.prog 63 [dEv.emb a, dEv.emb b] [] (.bool (dirP a b)) [] := by
  refine fn_walkF c63 w63 FH.none_ok rfl ?_
  unfold j63
  simp only [go_sem, ↓reduceIte, Nat.reduceAdd, Nat.reduceMul, Nat.reduceSub, Nat.reduceLT, Nat.reduceLeDiff, Nat.reduceEqDiff, Int.reduceToNat, Int.reduceEq, Int.reduceLT, Int.reduceLE, reduceCtorEq]
  unfold dirP
  rw [dir_law]
  refine ⟨fun h1 => ⟨fun _ => by simp [h1], fun h => absurd h1 h⟩, fun h1 => ⟨fun h2 => by rw [h2]; simp, fun h2 => by rw [h2]; simp [h1]⟩⟩
theorem f_RDirectly (a b : Ev) : FnOK Try.prog 29 [dEv.emb a, dEv.emb b] [] (.bool (dirP a b)) [] := by
  refine fn_walkF c29 w29 FH.none_ok rfl ?_
  unfold j29
  simp only [go_sem, ↓reduceIte, Nat.reduceAdd, Nat.reduceMul, Nat.reduceSub, Nat.reduceLT, Nat.reduceLeDiff, Nat.reduceEqDiff, Int.reduceToNat, Int.reduceEq, Int.reduceLT, Int.reduceLE, reduceCtorEq]
  unfold dirP
  rw [show decide (b.thr = a.obj) = decide (a.obj = b.thr) from decide_eq_decide.2 eq_comm, show decide (a.thr = b.obj) = decide (b.obj = a.thr) from decide_eq_decide.2 eq_comm]
/-- Of places of a trace: directly ahead. -/
def dirL (l : List Ev) (i j : Nat) : Bool := dirP (l.getD i dEv.dft) (l.getD j dEv.dft)

def j62 : JC :=
  (.seq (.ops <|
  qo 5 (.mv (B false)) <|
  .nil)
  (.seq (.dops <|
  eo 6 (.load 1 false (.t 2)) <|
  qo 7 (.mv (.t 0)) <|
  qo 8 (.is 3 (.t 6) (.t 7)) <|
  eo 9 (.load 3 true (.t 8)) <|
  eo 10 (.load 1 false (.t 2)) <|
  qo 11 (.mv (.t 1)) <|
  .prune [10, 11, 9] <|
  qo 12 (.is 3 (.t 10) (.t 11)) <|
  eo 13 (.load 3 true (.t 12)) <|
  eo 14 (.qcall 63 [(.t 9), (.t 13)]) <|
  qo 5 (.mv (.t 14)) <|
  .nil)
  .ret))
theorem c62 : fnIs Try.prog qall 62 = some (j62.flat, [.tmp 5], 15) := by kernel_rfl
theorem w62 : j62.wf 15 = true := by kernel_rfl

def j26 : JC :=
  (.seq (.ops <|
  eo 1 (.box 22 (.t 0)) <|
  qo 2 (.mv (.c .nils)) <|
  qo 3 (.mv (I 0)) <|
  .nil)
  (.seq (.seq (.ops <|
  eo 7 (.load 1 false (.t 1)) <|
  eo 8 (.call 17 [(.t 7)]) <|
  qo 6 (.mv (.t 8)) <|
  qo 9 (.ext 0 (.t 6)) <|
  .prune [6, 9, 1] <|
  qo 10 (.ext 1 (.t 6)) <|
  qo 4 (.mv (.t 9)) <|
  qo 5 (.mv (.t 10)) <|
  .nil)
  (.prune [5, 1] (.seq (.ops <|
  qo 11 (.mv (.t 5)) <|
  qo 12 (.cmp .neq (.t 11) (I 0)) <|
  .nil)
  (.cond (.t 12)
  (.seq (.ops <|
  qo 13 (.mv (.t 5)) <|
  qo 2 (.mv (.c .nils)) <|
  qo 3 (.mv (.t 13)) <|
  .nil)
  (.vecs 2 45 2 .ret))
  .skip))))
  (.prune [1] (.seq (.ops <|
  eo 14 (.load 1 false (.t 1)) <|
  qo 15 (.mkfn 62 [(.t 1)]) <|
  eo 16 (.call 61 [(.t 14), (.t 15)]) <|
  qo 2 (.mv (.t 16)) <|
  qo 3 (.mv (I 0)) <|
  .nil)
  (.vecs 2 45 2 .ret)))))
theorem c26 : fnIs Try.prog qall 26 = some (j26.flat, [.tmp 2, .tmp 3], 17) := by kernel_rfl
theorem w26 : j26.wf 17 = true := by kernel_rfl
def Gd1 (f : FuncId) (a : List SV) (m : List Res) : Sx.Call := (FH.rd 63 (.two dEv dEv) (.one .bool) (fun _ => True) (fun y => dirP y.1 y.2.1) FH.none) f a m
theorem Gd1_eq (f : FuncId) (a : List SV) (m : List Res) : Gd1 f a m = (FH.rd 63 (.two dEv dEv) (.one .bool) (fun _ => True) (fun y => dirP y.1 y.2.1) FH.none) f a m := nr rfl
theorem Gd1_ok : FHOK Try.prog Gd1 := FH.rd_ok (by kernel_rfl) (fun y _ => f_directly y.1 y.2.1) FH.none_ok
theorem f_Direct1 (l : List Ev) (i j : Nat) (hi : i < l.length) (hj : j < l.length) : FnOK Try.prog 62 [.int .i64 i, .int .i64 j, .ref (dEs.emb l) [] 0] [] (.bool (dirL l i j)) [] := by
  refine fn_walkF c62 w62 Gd1_ok rfl ?_
  unfold j62
  simp only [go_sem, ↓reduceIte, Nat.reduceAdd, Nat.reduceMul, Nat.reduceSub, Nat.reduceLT, Nat.reduceLeDiff, Nat.reduceEqDiff, Int.reduceToNat, Int.reduceEq, Int.reduceLT, Int.reduceLE, reduceCtorEq, Gd1_eq]
  exact ⟨⟨by omega, by omega⟩, ⟨by omega, by omega⟩, rfl⟩
abbrev aL : DA (List Ev × Unit) := .one dEs.ref
def pairsF (l : List Ev) (p : Nat → Nat → Bool) : List Pr := allP (upP p) l.length l.length
def Gdr (f : FuncId) (a : List SV) (m : List Res) : Sx.Call := (FH.rd 17 (.one dEs) (.two .int .int) (fun _ => True) (fun y => (playedF y.1).2) <|
  FH.mk 61 (.two dEs (DT.clo 62 aL)) (fun y => y.1.length ≤ 100 ∧ y.2.1.1 = y.1) (fun y => .vec 0 (pairsF y.1 (dirL y.1)).length) (fun y => [.vec 45 2 ((pairsF y.1 (dirL y.1)).map dPr.emb)]) FH.none) f a m
theorem Gdr_eq (f : FuncId) (a : List SV) (m : List Res) : Gdr f a m = (FH.rd 17 (.one dEs) (.two .int .int) (fun _ => True) (fun y => (playedF y.1).2) <|
  FH.mk 61 (.two dEs (DT.clo 62 aL)) (fun y => y.1.length ≤ 100 ∧ y.2.1.1 = y.1) (fun y => .vec 0 (pairsF y.1 (dirL y.1)).length) (fun y => [.vec 45 2 ((pairsF y.1 (dirL y.1)).map dPr.emb)]) FH.none) f a m := nr rfl
theorem Gdr_ok : FHOK Try.prog Gdr := FH.rd_ok (by kernel_rfl) (fun y _ => f_Check y.1) <|
  FH.mk_ok (by kernel_rfl) (fun y _ => Ps.plain_vec _ _ dPr _ _) (fun y h => by
    obtain ⟨l, ⟨l', u⟩, v⟩ := y
    obtain ⟨h1, h2⟩ := h
    simp only at h1 h2
    subst h2
    exact f_pairs 62 aL (l', ()) l' (dirL l') h1 (by kernel_rfl) (fun i j hi hj => f_Direct1 l' i j hi hj)) FH.none_ok
/-- What is handed back: nothing, and what is wrong; or the pairs. -/
def directF (l : List Ev) (p : Nat → Nat → Bool) : List Pr := if (playedF l).2.2 = 0 then pairsF l p else []
theorem f_Direct (l : List Ev) : FnOK Try.prog 26 [dEs.emb l] [] (.tup [.vec 0 (directF l (dirL l)).length, .int .i64 (playedF l).2.2]) [.vec 45 2 ((directF l (dirL l)).map dPr.emb)] := by
  refine fn_walkF c26 w26 Gdr_ok rfl ?_
  unfold j26
  simp only [go_sem, ↓reduceIte, Nat.reduceAdd, Nat.reduceMul, Nat.reduceSub, Nat.reduceLT, Nat.reduceLeDiff, Nat.reduceEqDiff, Int.reduceToNat, Int.reduceEq, Int.reduceLT, Int.reduceLE, reduceCtorEq, Gdr_eq]
  refine ⟨fun h => by simp [directF, h], fun h => ⟨?_, by simp [directF, h]⟩⟩
  have := ok_len (l := l) (by rw [← played_check]; exact h)
  omega

def j27 : JC :=
  (.seq (.ops <|
  qo 8 (.mv (B false)) <|
  .nil)
  (.seq (.ops <|
  qo 12 (.mv (.t 0)) <|
  eo 13 (.call 16 [(.t 12)]) <|
  qo 9 (.mv (.t 13)) <|
  .nil)
  (.seq (.ops <|
  eo 15 (.call 18 []) <|
  eo 16 (.call 26 [(.t 15)]) <|
  qo 14 (.mv (.t 16)) <|
  qo 17 (.ext 0 (.t 14)) <|
  qo 18 (.ext 1 (.t 14)) <|
  qo 10 (.mv (.t 17)) <|
  qo 11 (.mv (.t 18)) <|
  .nil)
  (.prune [9, 2, 1, 11, 0, 3] (.seq (.seq (.ops <|
  qo 19 (.mv (.t 9)) <|
  qo 20 (.cmp .neq (.t 19) (I 0)) <|
  qo 21 (.mv (.t 20)) <|
  .sc true 24 21 (qo 22 (.mv (.t 2)) <|
  qo 23 (.cmp .neq (.t 22) (I 0)) <|
  .nil) (.t 23) <|
  .nil)
  (.prune [24, 1, 2, 9, 11, 0, 3] (.cond (.t 24)
  (.seq (.ops <|
  .prune [1, 2, 9, 11] <|
  qo 25 (.mv (.t 1)) <|
  qo 26 (.len (.t 25)) <|
  qo 27 (.cmp .eql (.t 26) (I 0)) <|
  .prune [27, 2, 9, 11] <|
  qo 28 (.mv (.t 27)) <|
  .sc false 32 28 (qo 29 (.mv (.t 2)) <|
  qo 30 (.mv (.t 9)) <|
  qo 31 (.cmp .eql (.t 29) (.t 30)) <|
  .nil) (.t 31) <|
  qo 33 (.mv (.t 32)) <|
  .prune [33, 11] <|
  .sc false 36 33 (qo 34 (.mv (.t 11)) <|
  qo 35 (.cmp .eql (.t 34) (I 1)) <|
  .nil) (.t 35) <|
  qo 8 (.mv (.t 36)) <|
  .nil)
  .ret)
  .skip)))
  (.prune [1, 0, 3, 11] (.seq (.ops <|
  qo 37 (.mv (.t 1)) <|
  qo 38 (.mv (.t 0)) <|
  qo 39 (.len (.t 38)) <|
  .prune [3, 39, 37, 11] <|
  qo 40 (.mv (.t 3)) <|
  eo 41 (.call 64 [(.t 39), (.t 40)]) <|
  eo 42 (.call 31 [(.t 37), (.t 41)]) <|
  .prune [42, 11] <|
  qo 43 (.mv (.t 42)) <|
  .sc false 46 43 (qo 44 (.mv (.t 11)) <|
  qo 45 (.cmp .eql (.t 44) (I 1)) <|
  .nil) (.t 45) <|
  qo 8 (.mv (.t 46)) <|
  .nil)
  .ret)))))))
theorem c27 : fnIs Try.prog qall 27 = some (j27.flat, [.tmp 8], 47) := by kernel_rfl
theorem w27 : j27.wf 47 = true := by kernel_rfl
/-- What the law says of pairs that are told. -/
def lpairsF (l : List Ev) (a : List Pr) (e : Int) (p : Nat → Nat → Bool) : Bool :=
  if (checkR l).2 ≠ 0 ∨ e ≠ 0 then decide (a = []) && decide (e = (checkR l).2) else eqBy ef_EqPair a (allP p l.length l.length)
def Glp (f : FuncId) {κ : Type} (A : DA κ) (y : κ) (n : Nat) (p : Nat → Nat → Bool) : Sx.FH := FH.rd 16 (.one dEs) (.one .int) (fun _ => True) (fun y => (checkR y.1).2) <|
  FH.mk 18 .nil (fun _ => True) (fun _ => .vec 0 1) (fun _ => [.vec 54 3 ([badE].map dEv.emb)]) <|
  FH.mk 26 (.one dEs) (fun _ => True) (fun y => .tup [.vec 0 (directF y.1 (dirL y.1)).length, .int .i64 (playedF y.1).2.2]) (fun y => [.vec 45 2 ((directF y.1 (dirL y.1)).map dPr.emb)]) <|
  FH.mk 64 (.two .int (DT.clo f A)) (fun z => z.1 = n ∧ z.2.1 = y) (fun z => .vec 0 (allP p n n).length) (fun z => [.vec 45 2 ((allP p n n).map dPr.emb)]) <|
  FH.rd 31 (.two dPrs dPrs) (.one .bool) (fun _ => True) (fun y => eqBy ef_EqPair y.1 y.2.1) FH.none
theorem Glp_eq (f : FuncId) {κ : Type} (A : DA κ) (y : κ) (n : Nat) (p : Nat → Nat → Bool) (g : FuncId) (a : List SV) (m : List Res) : Glp f A y n p g a m = (FH.rd 16 (.one dEs) (.one .int) (fun _ => True) (fun y => (checkR y.1).2) <|
  FH.mk 18 .nil (fun _ => True) (fun _ => .vec 0 1) (fun _ => [.vec 54 3 ([badE].map dEv.emb)]) <|
  FH.mk 26 (.one dEs) (fun _ => True) (fun y => .tup [.vec 0 (directF y.1 (dirL y.1)).length, .int .i64 (playedF y.1).2.2]) (fun y => [.vec 45 2 ((directF y.1 (dirL y.1)).map dPr.emb)]) <|
  FH.mk 64 (.two .int (DT.clo f A)) (fun z => z.1 = n ∧ z.2.1 = y) (fun z => .vec 0 (allP p n n).length) (fun z => [.vec 45 2 ((allP p n n).map dPr.emb)]) <|
  FH.rd 31 (.two dPrs dPrs) (.one .bool) (fun _ => True) (fun y => eqBy ef_EqPair y.1 y.2.1) FH.none) g a m := nr rfl
theorem Glp_ok (f : FuncId) {κ : Type} (A : DA κ) (y : κ) (n : Nat) (p : Nat → Nat → Bool) (h : FHOK Try.prog (FH.mk 64 (.two .int (DT.clo f A)) (fun z => z.1 = n ∧ z.2.1 = y) (fun z => .vec 0 (allP p n n).length) (fun z => [.vec 45 2 ((allP p n n).map dPr.emb)]) <|
    FH.rd 31 (.two dPrs dPrs) (.one .bool) (fun _ => True) (fun y => eqBy ef_EqPair y.1 y.2.1) FH.none)) : FHOK Try.prog (Glp f A y n p) :=
  FH.rd_ok (by kernel_rfl) (fun y _ => f_May y.1) <| FH.mk_ok (by kernel_rfl) (fun _ _ => plainM (pv_vec _ _) ⟨plR_vec _ _ dEv [badE], trivial⟩) (fun _ _ => f_wrong) <|
  FH.mk_ok (by kernel_rfl) (fun y _ => plainM (pv_tup ⟨plV_vec _ _, plV_int _ _, trivial⟩) ⟨plR_vec _ _ dPr _, trivial⟩) (fun y _ => f_Direct y.1) h
theorem Glp_in (f : FuncId) {κ : Type} (A : DA κ) (y : κ) (n : Nat) (p : Nat → Nat → Bool) (hn : n ≤ 100) (hf : okFn Try.prog f = true) (h : ∀ i j : Nat, i < n → j < n → FnOK Try.prog f (.int .i64 i :: .int .i64 j :: A.emb y) [] (.bool (p i j)) []) :
    FHOK Try.prog (FH.mk 64 (.two .int (DT.clo f A)) (fun z => z.1 = n ∧ z.2.1 = y) (fun z => .vec 0 (allP p n n).length) (fun z => [.vec 45 2 ((allP p n n).map dPr.emb)]) <|
    FH.rd 31 (.two dPrs dPrs) (.one .bool) (fun _ => True) (fun y => eqBy ef_EqPair y.1 y.2.1) FH.none) :=
  FH.mk_ok (by kernel_rfl) (fun y _ => plainM (pv_vec _ _) ⟨plR_vec _ _ dPr _, trivial⟩) (fun z hz => by
    obtain ⟨a, b, u⟩ := z
    obtain ⟨h1, h2⟩ := hz
    simp only at h1 h2
    subst h1; subst h2
    exact f_PairsOf f A b n p hn hf h) <| FH.rd_ok (by kernel_rfl) (fun y _ => f_EqPair y.1 y.2.1) FH.none_ok
theorem bad_is : (playedF [badE]).2.2 = 1 := by decide
theorem len0 {α : Type} (a : List α) : decide ((a.length : Int) = 0) = decide (a = []) := by cases a <;> simp; omega
def Glb (f : FuncId) (a : List SV) (m : List Res) : Sx.Call := (FH.rd 16 (.one dEs) (.one .int) (fun _ => True) (fun y => (checkR y.1).2) <|
  FH.mk 18 .nil (fun _ => True) (fun _ => .vec 0 1) (fun _ => [.vec 54 3 ([badE].map dEv.emb)]) <|
  FH.mk 26 (.one dEs) (fun _ => True) (fun y => .tup [.vec 0 (directF y.1 (dirL y.1)).length, .int .i64 (playedF y.1).2.2]) (fun y => [.vec 45 2 ((directF y.1 (dirL y.1)).map dPr.emb)]) FH.none) f a m
theorem Glb_eq (f : FuncId) (a : List SV) (m : List Res) : Glb f a m = (FH.rd 16 (.one dEs) (.one .int) (fun _ => True) (fun y => (checkR y.1).2) <|
  FH.mk 18 .nil (fun _ => True) (fun _ => .vec 0 1) (fun _ => [.vec 54 3 ([badE].map dEv.emb)]) <|
  FH.mk 26 (.one dEs) (fun _ => True) (fun y => .tup [.vec 0 (directF y.1 (dirL y.1)).length, .int .i64 (playedF y.1).2.2]) (fun y => [.vec 45 2 ((directF y.1 (dirL y.1)).map dPr.emb)]) FH.none) f a m := nr rfl
theorem Glb_ok : FHOK Try.prog Glb := FH.rd_ok (by kernel_rfl) (fun y _ => f_May y.1) <| FH.mk_ok (by kernel_rfl) (fun _ _ => plainM (pv_vec _ _) ⟨plR_vec _ _ dEv [badE], trivial⟩) (fun _ _ => f_wrong) <|
  FH.mk_ok (by kernel_rfl) (fun y _ => plainM (pv_tup ⟨plV_vec _ _, plV_int _ _, trivial⟩) ⟨plR_vec _ _ dPr _, trivial⟩) (fun y _ => f_Direct y.1) FH.none_ok
theorem f_lpairs_bad {κ : Type} (d : DT κ) (y : κ) (l : List Ev) (a : List Pr) (e : Int) (p : Nat → Nat → Bool) (h0 : ¬ (checkR l).2 = 0) :
    FnOK Try.prog 27 [dEs.emb l, dPrs.emb a, .int .i64 e, d.emb y] [] (.bool (lpairsF l a e p)) [] := by
  refine fn_walkF c27 w27 Glb_ok rfl ?_
  unfold j27
  simp only [go_sem, ↓reduceIte, Nat.reduceAdd, Nat.reduceMul, Nat.reduceSub, Nat.reduceLT, Nat.reduceLeDiff, Nat.reduceEqDiff, Int.reduceToNat, Int.reduceEq, Int.reduceLT, Int.reduceLE, reduceCtorEq, Glb_eq]
  rw [bad_is, lpairsF, if_pos (Or.inl h0), len0]
  refine ⟨fun h => by simp, fun h => ?_⟩
  simp [h0] at h
theorem f_lpairs (f : FuncId) {κ : Type} (A : DA κ) (y : κ) (l : List Ev) (a : List Pr) (e : Int) (p : Nat → Nat → Bool) (hf : okFn Try.prog f = true)
    (h : (checkR l).2 = 0 → ∀ i j : Nat, i < l.length → j < l.length → FnOK Try.prog f (.int .i64 i :: .int .i64 j :: A.emb y) [] (.bool (p i j)) []) :
    FnOK Try.prog 27 [dEs.emb l, dPrs.emb a, .int .i64 e, .fn f (A.emb y)] [] (.bool (lpairsF l a e p)) [] := by
  by_cases h0 : (checkR l).2 = 0
  · have hl := ok_len h0
    refine fn_walkF c27 w27 (Glp_ok f A y l.length p (Glp_in f A y l.length p (by omega) hf (h h0))) rfl ?_
    unfold j27
    simp only [go_sem, ↓reduceIte, Nat.reduceAdd, Nat.reduceMul, Nat.reduceSub, Nat.reduceLT, Nat.reduceLeDiff, Nat.reduceEqDiff, Int.reduceToNat, Int.reduceEq, Int.reduceLT, Int.reduceLE, reduceCtorEq, Glp_eq]
    rw [bad_is, len0, lpairsF]
    by_cases he : e = 0
    · rw [if_neg (by simp [h0, he])]; simp [h0, he]
    · rw [if_pos (Or.inr he)]; simp [h0, he]
  · exact f_lpairs_bad (DT.clo f A) y l a e p h0
end Go.Proofs.Ytohbjnpafpcbkaa.Od
