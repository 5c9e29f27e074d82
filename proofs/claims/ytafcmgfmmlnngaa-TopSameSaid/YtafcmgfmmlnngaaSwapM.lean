/- The least of all orders, as the program finds it. Conditions: none. -/
import Derived.Test.YtafcmgfmmlnngaaSwapA
import Derived.Test.YtafcmgfmmlnngaaCpy
import Derived.Test.YtafcmgfmmlnngaaShDel
import Derived.Test.YtafcmgfmmlnngaaTraceR
section
set_option linter.unusedSimpArgs false
set_option linter.unusedVariables false
set_option maxRecDepth 100000
open Go Go.Sx Go.Proofs
namespace Go.Proofs.Ytafcmgfmmlnngaa.Sw
open Go.Proofs.Ytafcmgfmmlnngaa.D Go.Proofs.Ytafcmgfmmlnngaa.Tr Go.Proofs.Ytafcmgfmmlnngaa.Cp
theorem ev_cells : OneCells dEv := by
  intro x ε cs h
  rw [ev_emb] at h
  simp only [SatC, SatL] at h
  obtain ⟨a, b, rfl, rfl, c, d, rfl, rfl, e, f, rfl, rfl, rfl⟩ := h
  intro v hv
  simp only [List.mem_append, List.mem_cons, List.not_mem_nil, or_false] at hv
  rcases hv with rfl | rfl | rfl <;> rfl
theorem ev_getD' {l : List Ev} {i : Nat} (h : i < l.length) : (l.map dEv.emb).getD i .junk = .agg [.int .i64 (l.getD i dEv.dft).kind, .int .i64 (l.getD i dEv.dft).thr, .int .i64 (l.getD i dEv.dft).obj] := by
  simp [List.getD, h, ev_emb]
theorem dec_take (m : List Res) (L : List Ev) (k : Nat) : (List.map (fun y => dEv.decV m y) (List.take k (L.map dEv.emb))) = L.take k := by
  rw [← List.map_take, List.map_map]
  conv => rhs; rw [← List.map_id (L.take k)]
  apply List.map_congr_left
  intro x _
  exact dEv.vE m x
theorem all_take (m : List Res) (L : List Ev) (k : Nat) : (allL (List.take k (L.map dEv.emb)) fun y => dEv.decP m y) = True := by
  refine eq_true fun y hy => ?_
  rw [← List.map_take] at hy
  obtain ⟨z, _, rfl⟩ := List.mem_map.1 hy
  exact dEv.pE m z

def j77 : JC :=
  (.seq (.ops <|
  eo 2 (.box 35 (.t 0)) <|
  qo 3 (.mv (B false)) <|
  .nil)
  (.seq (.ops <|
  eo 4 (.load 3 true (.t 2)) <|
  eo 5 (.load 3 true (.t 1)) <|
  eo 6 (.call 78 [(.t 4), (.t 5)]) <|
  qo 7 (.nt (.t 6)) <|
  qo 3 (.mv (.t 7)) <|
  .nil)
  .ret))
theorem c77 : fnIs Try.prog qall 77 = some (j77.flat, [.tmp 3], 8) := by kernel_rfl
theorem w77 : j77.wf 8 = true := by kernel_rfl
def j98_1 : JC :=
  (.seq (.ops <|
  qo 9 (.cmp .lss (.t 8) (.t 7)) <|
  .nil)
  (.seq (.cond (.t 9)
  .skip
  (.exit 0))
  (.seq (.block 1 (.seq (.ops <|
  qo 10 (.mv (.t 8)) <|
  qo 5 (.mv (.t 10)) <|
  .nil)
  (.seq (.ops <|
  qo 11 (.mv (.t 1)) <|
  qo 12 (.mv (.t 0)) <|
  qo 13 (.mv (.t 5)) <|
  qo 14 (.is 3 (.t 12) (.t 13)) <|
  eo 15 (.load 3 true (.t 14)) <|
  eo 16 (.callv (.t 11) [(.t 15)]) <|
  .nil)
  (.prune [16, 5, 8, 7, 1, 0] (.cond (.t 16)
  (.seq (.ops <|
  qo 17 (.mv (.t 5)) <|
  qo 4 (.mv (.t 17)) <|
  .nil)
  .ret)
  .skip)))))
  (.prune [8, 7, 1, 0] (.ops <|
  qo 18 (.ar .add (.t 8) (I 1)) <|
  qo 8 (.mv (.t 18)) <|
  .nil)))))
def j98_2 : JC :=
  (.prune [] (.seq (.ops <|
  qo 4 (.mv (I (-1))) <|
  .nil)
  .ret))
def j98 : JC :=
  (.seq (.ops <|
  qo 4 (.mv (I 0)) <|
  .nil)
  (.seq (.seq (.ops <|
  qo 6 (.mv (.t 0)) <|
  qo 7 (.len (.t 6)) <|
  qo 8 (.mv (I 0)) <|
  .nil)
  (.block 0 (.loop [7, 1, 0] [8] j98_1)))
  j98_2))
theorem c98 : fnIs Try.prog qall 98 = some (j98.flat, [.tmp 4], 19) := by kernel_rfl
theorem w98 : j98.wf 19 = true := by kernel_rfl

def j76 : JC :=
  (.seq (.ops <|
  qo 4 (.mv (B false)) <|
  .nil)
  (.seq (.ops <|
  qo 5 (.mv (.t 0)) <|
  qo 6 (.mv (.t 1)) <|
  eo 7 (.call 98 [(.t 5), (.t 6)]) <|
  qo 8 (.cmp .geq (.t 7) (I 0)) <|
  qo 4 (.mv (.t 8)) <|
  .nil)
  .ret))
theorem c76 : fnIs Try.prog qall 76 = some (j76.flat, [.tmp 4], 9) := by kernel_rfl
theorem w76 : j76.wf 9 = true := by kernel_rfl
def j52_1 : JC :=
  (.seq (.ops <|
  qo 17 (.cmp .lss (.t 16) (.t 15)) <|
  .nil)
  (.seq (.cond (.t 17)
  .skip
  (.exit 2))
  (.seq (.block 3 (.seq (.ops <|
  qo 18 (.mv (.t 16)) <|
  qo 19 (.is 3 (.t 14) (.t 16)) <|
  eo 20 (.load 3 true (.t 19)) <|
  eo 7 (.alloc 35 (.agg [(.int .i64 0), (.int .i64 0), (.int .i64 0)])) <|
  qo 6 (.mv (.t 18)) <|
  en (.store 3 (.t 7) (.t 20)) <|
  .nil)
  (.prune [3, 6, 7, 5, 16, 15, 14, 4] (.seq (.ops <|
  qo 21 (.mv (.t 3)) <|
  qo 22 (.mv (.t 6)) <|
  qo 23 (.slc 3 (.t 21) none (some (.t 22)) none) <|
  qo 24 (.mkfn 77 [(.t 7)]) <|
  eo 25 (.call 76 [(.t 23), (.t 24)]) <|
  qo 26 (.nt (.t 25)) <|
  qo 8 (.mv (.t 26)) <|
  .nil)
  (.prune [8, 5, 7, 3, 6, 16, 15, 14, 4] (.seq (.dops <|
  qo 27 (.mv (.t 8)) <|
  qo 28 (.mv (.t 27)) <|
  .sc false 41 28 (qo 29 (.mv (.t 5)) <|
  qo 30 (.cmp .lss (.t 29) (I 0)) <|
  qo 31 (.mv (.t 30)) <|
  .sc true 40 31 (qo 32 (.fa 1 1 (.t 7)) <|
  eo 33 (.load 1 false (.t 32)) <|
  qo 34 (.mv (.t 3)) <|
  qo 35 (.mv (.t 5)) <|
  qo 36 (.is 3 (.t 34) (.t 35)) <|
  qo 37 (.fa 1 1 (.t 36)) <|
  eo 38 (.load 1 false (.t 37)) <|
  qo 39 (.cmp .lss (.t 33) (.t 38)) <|
  .nil) (.t 39) <|
  .nil) (.t 40) <|
  .nil)
  (.prune [41, 6, 16, 15, 14, 3, 4, 5] (.cond (.t 41)
  (.ops <|
  qo 42 (.mv (.t 6)) <|
  qo 5 (.mv (.t 42)) <|
  .nil)
  .skip))))))))
  (.prune [16, 15, 14, 3, 5, 4] (.ops <|
  qo 43 (.ar .add (.t 16) (I 1)) <|
  qo 16 (.mv (.t 43)) <|
  .nil)))))
def j52_2 : JC :=
  (.prune [4, 3, 5] (.seq (.ops <|
  qo 44 (.mv (.t 4)) <|
  qo 45 (.mv (.t 3)) <|
  qo 46 (.mv (.t 5)) <|
  qo 47 (.is 3 (.t 45) (.t 46)) <|
  .prune [47, 44, 3, 5] <|
  eo 48 (.load 3 true (.t 47)) <|
  eo 49 (.bsl 35 3 1 (.agg [(.int .i64 0), (.int .i64 0), (.int .i64 0)]) [(0, (.t 48))]) <|
  eo 50 (.app 35 3 24 (.t 44) (.t 49)) <|
  qo 4 (.mv (.t 50)) <|
  .nil)
  (.prune [3, 5, 4] (.sel [3, 1] (.ops <|
  qo 51 (.mv (.t 3)) <|
  qo 52 (.mv (.t 5)) <|
  qo 53 (.mv (.t 5)) <|
  qo 54 (.ar .add (.t 53) (I 1)) <|
  eo 55 (.call 79 [(.t 51), (.t 52), (.t 54)]) <|
  qo 3 (.mv (.t 55)) <|
  .nil)))))
def j52_3 : JC :=
  (.seq (.seq (.ops <|
  qo 11 (.mv (.t 3)) <|
  qo 12 (.len (.t 11)) <|
  qo 13 (.cmp .gtr (.t 12) (I 0)) <|
  .nil)
  (.cond (.t 13)
  .skip
  (.exit 0)))
  (.block 1 (.seq (.ops <|
  qo 5 (.mv (I (-1))) <|
  .nil)
  (.seq (.seq (.ops <|
  qo 14 (.mv (.t 3)) <|
  qo 15 (.len (.t 14)) <|
  qo 16 (.mv (I 0)) <|
  .nil)
  (.block 2 (.loop [15, 14, 3, 4] [16, 5] j52_1)))
  j52_2))))
def j52_4 : JC :=
  (.prune [4] (.seq (.ops <|
  qo 56 (.mv (.t 4)) <|
  qo 2 (.mv (.t 56)) <|
  .nil)
  (.vecs 2 35 3 .ret)))
def j52 : JC :=
  (.seq (.ops <|
  qo 2 (.mv (.c .nils)) <|
  .nil)
  (.seq (.ops <|
  qo 9 (.mv (.t 0)) <|
  eo 10 (.call 75 [(.t 9)]) <|
  qo 3 (.mv (.t 10)) <|
  .nil)
  (.seq (.ops <|
  qo 4 (.mv (.c .nils)) <|
  .nil)
  (.seq (.block 0 (.vecs 4 35 3 (.loop [] [3, 4] j52_3)))
  j52_4))))
theorem c52 : fnIs Try.prog qall 52 = some (j52.flat, [.tmp 2], 57) := by kernel_rfl
theorem w52 : j52.wf 57 = true := by kernel_rfl

def j24 : JC :=
  (.seq (.ops <|
  qo 2 (.mv (.c .nils)) <|
  qo 3 (.mv (I 0)) <|
  .nil)
  (.seq (.seq (.ops <|
  qo 7 (.mv (.t 0)) <|
  eo 8 (.call 51 [(.t 7)]) <|
  qo 6 (.mv (.t 8)) <|
  qo 9 (.ext 0 (.t 6)) <|
  qo 10 (.ext 1 (.t 6)) <|
  qo 4 (.mv (.t 9)) <|
  qo 5 (.mv (.t 10)) <|
  .nil)
  (.seq (.ops <|
  qo 11 (.mv (.t 5)) <|
  qo 12 (.cmp .neq (.t 11) (I 0)) <|
  .nil)
  (.prune [12, 5, 0] (.cond (.t 12)
  (.seq (.ops <|
  qo 13 (.mv (.t 5)) <|
  qo 2 (.mv (.c .nils)) <|
  qo 3 (.mv (.t 13)) <|
  .nil)
  (.vecs 2 35 3 .ret))
  .skip))))
  (.prune [0] (.seq (.ops <|
  qo 14 (.mv (.t 0)) <|
  eo 15 (.call 52 [(.t 14)]) <|
  qo 2 (.mv (.t 15)) <|
  qo 3 (.mv (I 0)) <|
  .nil)
  (.vecs 2 35 3 .ret)))))
theorem c24 : fnIs Try.prog qall 24 = some (j24.flat, [.tmp 2, .tmp 3], 16) := by kernel_rfl
theorem w24 : j24.wf 16 = true := by kernel_rfl
def Gl1 (f : FuncId) (a : List SV) (m : List Res) : Sx.Call := (FH.rd 78 (.two dEv dEv) (.one .bool) (fun _ => True) (fun y => apartB y.1 y.2.1) FH.none) f a m
theorem Gl1_eq (f : FuncId) (a : List SV) (m : List Res) : Gl1 f a m = (FH.rd 78 (.two dEv dEv) (.one .bool) (fun _ => True) (fun y => apartB y.1 y.2.1) FH.none) f a m := nr rfl
theorem Gl1_ok : FHOK Try.prog Gl1 := FH.rd_ok (by kernel_rfl) (fun y _ => f_Apart y.1 y.2.1) FH.none_ok
theorem f_least1 (x e : Ev) : FnOK Try.prog 77 [dEv.emb x, .ref (dEv.emb e) [] 0] [] (.bool (!apartB x e)) [] := by
  refine fn_walkF c77 w77 Gl1_ok rfl ?_
  unfold j77
  simp only [go_sem, ↓reduceIte, Nat.reduceAdd, Nat.reduceMul, Nat.reduceSub, Nat.reduceLT, Nat.reduceLeDiff, Nat.reduceEqDiff, Int.reduceToNat, Int.reduceEq, Int.reduceLT, Int.reduceLE, reduceCtorEq, Gl1_eq]
def idxE (e : Ev) : List Ev → Nat → Int
  | [], _ => -1
  | x :: xs, i => if apartB x e = false then i else idxE e xs (i + 1)
theorem idxE_any {e : Ev} : ∀ {xs : List Ev} {i : Nat}, decide (0 ≤ idxE e xs i) = xs.any fun x => !apartB x e
  | [], i => by simp [idxE]
  | x :: xs, i => by
    rw [idxE, List.any_cons]
    cases h : apartB x e with
    | false => rw [if_pos rfl]; simp
    | true => rw [if_neg (by simp), idxE_any]; simp
abbrev aE : DA (Ev × Unit) := .one dEv.ref
def Gl2 (f : FuncId) (a : List SV) (m : List Res) : Sx.Call := (FH.rd 77 (.two dEv dEv.ref) (.one .bool) (fun _ => True) (fun y => !apartB y.1 y.2.1) FH.none) f a m
theorem Gl2_eq (f : FuncId) (a : List SV) (m : List Res) : Gl2 f a m = (FH.rd 77 (.two dEv dEv.ref) (.one .bool) (fun _ => True) (fun y => !apartB y.1 y.2.1) FH.none) f a m := nr rfl
theorem Gl2_ok : FHOK Try.prog Gl2 := FH.rd_ok (by kernel_rfl) (fun y _ => f_least1 y.1 y.2.1) FH.none_ok
theorem f_IndexFE (xs : List Ev) (e : Ev) : FnOK Try.prog 98 [dEs.emb xs, (DT.clo 77 aE).emb (e, ())] [] (.int .i64 (idxE e xs 0)) [] := by
  refine fn_len fun hB => fn_walkF c98 w98 Gl2_ok rfl ?_
  simp only [go_sem, ↓reduceIte, Nat.reduceAdd, Nat.reduceMul, Nat.reduceSub, Nat.reduceLT, Nat.reduceLeDiff, Nat.reduceEqDiff, Int.reduceToNat, Int.reduceEq, Int.reduceLT, Int.reduceLE, reduceCtorEq] at hB
  unfold j98
  simp only [go_sem, ↓reduceIte, Nat.reduceAdd, Nat.reduceMul, Nat.reduceSub, Nat.reduceLT, Nat.reduceLeDiff, Nat.reduceEqDiff, Int.reduceToNat, Int.reduceEq, Int.reduceLT, Int.reduceLE, reduceCtorEq]
  refine loopF Nat (fun i => [.int .i64 i]) (fun _ => []) (fun i => i ≤ xs.length ∧ idxE e xs 0 = idxE e (xs.drop i) i) (fun i => xs.length - i) 0 ⟨by omega, rfl⟩ ?_ rfl ?_
  · simp only [go_sem, ↓reduceIte, Nat.reduceAdd, Nat.reduceMul, Nat.reduceSub, Nat.reduceLT, Nat.reduceLeDiff, Nat.reduceEqDiff, Int.reduceToNat, Int.reduceEq, Int.reduceLT, Int.reduceLE, reduceCtorEq]
  intro i hi
  obtain ⟨hi1, hi2⟩ := hi
  by_cases h1 : i < xs.length
  · have h1' : (i : Int) < xs.length := by omega
    unfold j98_1
    simp only [go_sem, ↓reduceIte, Nat.reduceAdd, Nat.reduceMul, Nat.reduceSub, Nat.reduceLT, Nat.reduceLeDiff, Nat.reduceEqDiff, Int.reduceToNat, Int.reduceEq, Int.reduceLT, Int.reduceLE, reduceCtorEq, Gl2_eq, h1, h1']
    rw [drop_getD dEv.dft h1, idxE] at hi2
    refine ⟨by omega, fun h => by rw [hi2, if_pos (by simpa using h)], fun h => ⟨i + 1, ⟨by omega, by rw [hi2, if_neg (by simpa using h)]⟩, by omega, IntWalk.i64_in _ (by omega)⟩⟩
  · have h1' : ¬ (i : Int) < xs.length := by omega
    unfold j98_1
    simp only [go_sem, ↓reduceIte, Nat.reduceAdd, Nat.reduceMul, Nat.reduceSub, Nat.reduceLT, Nat.reduceLeDiff, Nat.reduceEqDiff, Int.reduceToNat, Int.reduceEq, Int.reduceLT, Int.reduceLE, reduceCtorEq, h1']
    unfold j98_2
    simp only [go_sem, ↓reduceIte, Nat.reduceAdd, Nat.reduceMul, Nat.reduceSub, Nat.reduceLT, Nat.reduceLeDiff, Nat.reduceEqDiff, Int.reduceToNat, Int.reduceEq, Int.reduceLT, Int.reduceLE, reduceCtorEq]
    rw [hi2, List.drop_eq_nil_of_le (by omega), idxE]
def Gl3 (f : FuncId) (a : List SV) (m : List Res) : Sx.Call := (FH.rd 98 (.two dEs (DT.clo 77 aE)) (.one .int) (fun _ => True) (fun y => idxE y.2.1.1 y.1 0) FH.none) f a m
theorem Gl3_eq (f : FuncId) (a : List SV) (m : List Res) : Gl3 f a m = (FH.rd 98 (.two dEs (DT.clo 77 aE)) (.one .int) (fun _ => True) (fun y => idxE y.2.1.1 y.1 0) FH.none) f a m := nr rfl
theorem Gl3_ok : FHOK Try.prog Gl3 := FH.rd_ok (by kernel_rfl) (fun y _ => f_IndexFE y.1 y.2.1.1) FH.none_ok
theorem f_ContainsFE (xs : List Ev) (e : Ev) : FnOK Try.prog 76 [dEs.emb xs, (DT.clo 77 aE).emb (e, ())] [] (.bool (xs.any fun x => !apartB x e)) [] := by
  refine fn_walkF c76 w76 Gl3_ok rfl ?_
  unfold j76
  simp only [go_sem, ↓reduceIte, Nat.reduceAdd, Nat.reduceMul, Nat.reduceSub, Nat.reduceLT, Nat.reduceLeDiff, Nat.reduceEqDiff, Int.reduceToNat, Int.reduceEq, Int.reduceLT, Int.reduceLE, reduceCtorEq, Gl3_eq]
  rw [idxE_any]
/-- May it be the first? -/
def freeB (L : List Ev) (i : Nat) : Bool := !((L.take i).any fun x => !apartB x (L.getD i dEv.dft))
def bestK (L : List Ev) : Nat → Option Nat
  | 0 => none
  | i + 1 => match bestK L i with
    | none => if freeB L i = true then some i else none
    | some b => if (freeB L i && decide ((L.getD i dEv.dft).thr < (L.getD b dEv.dft).thr)) = true then some i else some b
def encB : Option Nat → Int
  | none => -1
  | some b => b
theorem bestK_lt {L : List Ev} : ∀ {i b : Nat}, bestK L i = some b → b < i
  | 0, b, h => by cases h
  | i + 1, b, h => by
    rw [bestK] at h
    cases e : bestK L i with
    | none =>
      rw [e] at h
      simp only at h
      split at h
      · injection h with h; omega
      · cases h
    | some b' =>
      rw [e] at h
      have := bestK_lt e
      simp only at h
      split at h <;> injection h with h <;> omega
theorem bestK_some {L : List Ev} : ∀ i, ∃ b, bestK L (i + 1) = some b
  | 0 => ⟨0, by simp [bestK, freeB]⟩
  | i + 1 => by
    obtain ⟨b, hb⟩ := bestK_some (L := L) i
    rw [bestK, hb]
    simp only
    split <;> exact ⟨_, rfl⟩
def pick (L : List Ev) : Nat := (bestK L L.length).getD 0
theorem pick_is {L : List Ev} (h : 0 < L.length) : bestK L L.length = some (pick L) ∧ pick L < L.length := by
  obtain ⟨b, hb⟩ := bestK_some (L := L) (L.length - 1)
  rw [show L.length - 1 + 1 = L.length by omega] at hb
  have := bestK_lt hb
  rw [pick, hb]
  exact ⟨rfl, this⟩
def cutE (l : List Ev) (i : Nat) : List Ev := delL l i (i + 1)
theorem cutE_len {l : List Ev} {i : Nat} (hi : i < l.length) : (cutE l i).length = l.length - 1 := by
  rw [cutE, delL_length (by omega) (by omega)]; omega
def leastF (L : List Ev) : List Ev := if h : 0 < L.length then L.getD (pick L) dEv.dft :: leastF (cutE L (pick L)) else []
termination_by L.length
decreasing_by
  rw [cutE_len (pick_is h).2]; omega
theorem least_cons {L : List Ev} (h : 0 < L.length) : leastF L = L.getD (pick L) dEv.dft :: leastF (cutE L (pick L)) := by rw [leastF, dif_pos h]
theorem least_nil {L : List Ev} (h : ¬ 0 < L.length) : leastF L = [] := by rw [leastF, dif_neg h]
def Gls (f : FuncId) (a : List SV) (m : List Res) : Sx.Call := (FH.mk 75 (.one dEs) (fun y => y.1.length ≤ 1000000) (fun y => .vec 0 y.1.length) (fun y => [.vec 35 3 (y.1.map dEv.emb)]) <|
  FH.de 79 dEv 3 <|
  FH.rd 76 (.two dEs (DT.clo 77 aE)) (.one .bool) (fun _ => True) (fun y => y.1.any fun x => !apartB x y.2.1.1) FH.none) f a m
theorem Gls_eq (f : FuncId) (a : List SV) (m : List Res) : Gls f a m = (FH.mk 75 (.one dEs) (fun y => y.1.length ≤ 1000000) (fun y => .vec 0 y.1.length) (fun y => [.vec 35 3 (y.1.map dEv.emb)]) <|
  FH.de 79 dEv 3 <|
  FH.rd 76 (.two dEs (DT.clo 77 aE)) (.one .bool) (fun _ => True) (fun y => y.1.any fun x => !apartB x y.2.1.1) FH.none) f a m := nr rfl
theorem Gls_ok : FHOK Try.prog Gls := FH.mk_ok (by kernel_rfl) (fun y _ => plainM (pv_vec _ _) ⟨plR_vec _ _ dEv _, trivial⟩) (fun y h => f_CloneEv y.1 h) <|
  FH.de_ok Sh.dels3 ev_cells (by decide) <| FH.rd_ok (by kernel_rfl) (fun y _ => f_ContainsFE y.1 y.2.1.1) FH.none_ok
theorem f_least (l : List Ev) (hl : l.length ≤ 1000) : FnOK Try.prog 52 [dEs.emb l] [] (.vec 0 (leastF l).length) [.vec 35 3 ((leastF l).map dEv.emb)] := by
  have h6 : l.length ≤ 1000000 := by omega
  refine fn_walkF c52 w52 Gls_ok rfl ?_
  unfold j52
  simp only [go_sem, ↓reduceIte, Nat.reduceAdd, Nat.reduceMul, Nat.reduceSub, Nat.reduceLT, Nat.reduceLeDiff, Nat.reduceEqDiff, Int.reduceToNat, Int.reduceEq, Int.reduceLT, Int.reduceLE, reduceCtorEq, Gls_eq, h6]
  refine loopF (List Ev × List Ev) (fun s => [.vec 0 s.1.length, .vec 1 s.2.length]) (fun s => [.vec 35 3 (s.1.map dEv.emb), .vec 35 3 (s.2.map dEv.emb)]) (fun s => s.1.length + s.2.length = l.length ∧ s.2 ++ leastF s.1 = leastF l) (fun s => s.1.length) (l, []) ⟨by simp, by simp⟩ ?_ rfl ?_
  · simp only [go_sem, ↓reduceIte, Nat.reduceAdd, Nat.reduceMul, Nat.reduceSub, Nat.reduceLT, Nat.reduceLeDiff, Nat.reduceEqDiff, Int.reduceToNat, Int.reduceEq, Int.reduceLT, Int.reduceLE, reduceCtorEq]
  rintro ⟨L, out⟩ ⟨hlen, hout⟩
  simp only at hlen hout
  by_cases h0 : 0 < L.length
  · have h0' : 0 < (L.length : Int) := by omega
    obtain ⟨hp1, hp2⟩ := pick_is h0
    unfold j52_3
    simp only [go_sem, ↓reduceIte, Nat.reduceAdd, Nat.reduceMul, Nat.reduceSub, Nat.reduceLT, Nat.reduceLeDiff, Nat.reduceEqDiff, Int.reduceToNat, Int.reduceEq, Int.reduceLT, Int.reduceLE, reduceCtorEq, Gls_eq, h0, h0']
    refine loopF Nat (fun k => [.int .i64 k, .int .i64 (encB (bestK L k))]) (fun k => [.vec 35 3 (L.map dEv.emb), .vec 35 3 (out.map dEv.emb)]) (fun k => k ≤ L.length) (fun k => L.length - k) 0 (by omega) ?_ rfl ?_
    · simp only [go_sem, ↓reduceIte, Nat.reduceAdd, Nat.reduceMul, Nat.reduceSub, Nat.reduceLT, Nat.reduceLeDiff, Nat.reduceEqDiff, Int.reduceToNat, Int.reduceEq, Int.reduceLT, Int.reduceLE, reduceCtorEq]
      rfl
    intro k hk
    by_cases h1 : k < L.length
    · have h1' : (k : Int) < L.length := by omega
      have hkl : k ≤ L.length := hk
      cases hb : bestK L k with
      | none =>
        unfold j52_1
        simp only [go_sem, ↓reduceIte, Nat.reduceAdd, Nat.reduceMul, Nat.reduceSub, Nat.reduceLT, Nat.reduceLeDiff, Nat.reduceEqDiff, Int.reduceToNat, Int.reduceEq, Int.reduceLT, Int.reduceLE, reduceCtorEq, Gls_eq, h1, h1', hkl, h0, encB, ev_getD' h1, ev_getD' h0, dec_take, all_take]
        have hs : bestK L (k + 1) = if freeB L k = true then some k else none := by rw [bestK, hb]
        have hw : IntKind.i64.wrap ((k : Int) + 1) = ((k + 1 : Nat) : Int) := IntWalk.i64_in _ (by omega)
        refine ⟨by omega, by omega, fun h => ⟨k + 1, by omega, by omega, hw, ?_⟩, fun h => ⟨k + 1, by omega, by omega, hw, ?_⟩⟩
        · rw [hs, if_pos (by unfold freeB; rw [h]; rfl)]
        · rw [hs, if_neg (by unfold freeB; rw [h]; simp)]
      | some b =>
        have hbk := bestK_lt hb
        have hb1 : b < L.length := by omega
        have hb1' : (b : Int) < L.length := by omega
        unfold j52_1
        simp only [go_sem, ↓reduceIte, Nat.reduceAdd, Nat.reduceMul, Nat.reduceSub, Nat.reduceLT, Nat.reduceLeDiff, Nat.reduceEqDiff, Int.reduceToNat, Int.reduceEq, Int.reduceLT, Int.reduceLE, reduceCtorEq, Gls_eq, h1, h1', hkl, encB, ev_getD' h1, hb1, hb1', ev_getD' hb1, dec_take, all_take]
        have hs : bestK L (k + 1) = if (freeB L k && decide ((L.getD k dEv.dft).thr < (L.getD b dEv.dft).thr)) = true then some k else some b := by rw [bestK, hb]
        have hw : IntKind.i64.wrap ((k : Int) + 1) = ((k + 1 : Nat) : Int) := IntWalk.i64_in _ (by omega)
        have hneg : decide ((b : Int) < 0) = false := decide_eq_false (by omega)
        rw [hneg, Bool.false_or]
        refine ⟨by omega, by omega, fun _ _ => by omega, fun h => ⟨k + 1, by omega, by omega, hw, ?_⟩, fun h => ⟨k + 1, by omega, by omega, hw, ?_⟩⟩
        · rw [hs, if_pos (show (freeB L k && decide ((L.getD k dEv.dft).thr < (L.getD b dEv.dft).thr)) = true from h)]
        · rw [hs, if_neg (by unfold freeB; rw [h]; simp)]
    · have h1' : ¬ (k : Int) < L.length := by omega
      have e : k = L.length := by omega
      subst e
      rw [hp1]
      have hp2' : ((pick L : Nat) : Int) < L.length := by omega
      have hw : IntKind.i64.wrap (((pick L : Nat) : Int) + 1) = ((pick L + 1 : Nat) : Int) := IntWalk.i64_in _ (by omega)
      unfold j52_1
      simp only [go_sem, ↓reduceIte, Nat.reduceAdd, Nat.reduceMul, Nat.reduceSub, Nat.reduceLT, Nat.reduceLeDiff, Nat.reduceEqDiff, Int.reduceToNat, Int.reduceEq, Int.reduceLT, Int.reduceLE, reduceCtorEq, h1', encB]
      unfold j52_2
      simp only [go_sem, ↓reduceIte, Nat.reduceAdd, Nat.reduceMul, Nat.reduceSub, Nat.reduceLT, Nat.reduceLeDiff, Nat.reduceEqDiff, Int.reduceToNat, Int.reduceEq, Int.reduceLT, Int.reduceLE, reduceCtorEq, Gls_eq, hp2, hp2', hw, encB, ev_getD' hp2]
      have hcl := cutE_len hp2
      refine ⟨by omega, by omega, ⟨by omega, by omega, by omega, h0⟩, (cutE L (pick L), out ++ [L.getD (pick L) dEv.dft]), ⟨by simp only [List.length_append, List.length_singleton]; omega, ?_⟩, by simp only; omega, ⟨?_, ?_⟩, ?_⟩
      · simp only
        rw [← hout, least_cons h0, List.append_assoc]; rfl
      · simp only
        rw [hcl, show pick L + 1 - pick L = 1 by omega]
      · simp only [List.length_append, List.length_singleton]
      · simp only [List.map_append, List.map_cons, List.map_nil, ev_emb]
        rfl
  · have h0' : ¬ 0 < (L.length : Int) := by omega
    unfold j52_3
    simp only [go_sem, ↓reduceIte, Nat.reduceAdd, Nat.reduceMul, Nat.reduceSub, Nat.reduceLT, Nat.reduceLeDiff, Nat.reduceEqDiff, Int.reduceToNat, Int.reduceEq, Int.reduceLT, Int.reduceLE, reduceCtorEq, h0']
    unfold j52_4
    simp only [go_sem, ↓reduceIte, Nat.reduceAdd, Nat.reduceMul, Nat.reduceSub, Nat.reduceLT, Nat.reduceLeDiff, Nat.reduceEqDiff, Int.reduceToNat, Int.reduceEq, Int.reduceLT, Int.reduceLE, reduceCtorEq]
    rw [least_nil h0, List.append_nil] at hout
    rw [hout]
    exact ⟨rfl, rfl⟩
/-- What Least tells. -/
def leastO (l : List Ev) : List Ev := if (checkR l).2 = 0 then leastF l else []
def Gld (f : FuncId) (a : List SV) (m : List Res) : Sx.Call := (FH.rd 51 (.one dEs) (.two .int .int) (fun _ => True) (fun y => (playedF y.1).2) <|
  FH.mk 52 (.one dEs) (fun y => y.1.length ≤ 1000) (fun y => .vec 0 (leastF y.1).length) (fun y => [.vec 35 3 ((leastF y.1).map dEv.emb)]) FH.none) f a m
theorem Gld_eq (f : FuncId) (a : List SV) (m : List Res) : Gld f a m = (FH.rd 51 (.one dEs) (.two .int .int) (fun _ => True) (fun y => (playedF y.1).2) <|
  FH.mk 52 (.one dEs) (fun y => y.1.length ≤ 1000) (fun y => .vec 0 (leastF y.1).length) (fun y => [.vec 35 3 ((leastF y.1).map dEv.emb)]) FH.none) f a m := nr rfl
theorem Gld_ok : FHOK Try.prog Gld := FH.rd_ok (by kernel_rfl) (fun y _ => f_Check y.1) <|
  FH.mk_ok (by kernel_rfl) (fun y _ => plainM (pv_vec _ _) ⟨plR_vec _ _ dEv _, trivial⟩) (fun y h => f_least y.1 h) FH.none_ok
theorem f_Least (l : List Ev) : FnOK Try.prog 24 [dEs.emb l] [] (.tup [.vec 0 (leastO l).length, .int .i64 (checkR l).2]) [.vec 35 3 ((leastO l).map dEv.emb)] := by
  refine fn_walkF c24 w24 Gld_ok rfl ?_
  unfold j24
  have he : (playedF l).2.2 = (checkR l).2 := by rw [played_check]
  unfold leastO
  by_cases h : (checkR l).2 = 0
  · have hl := ok_len h
    have h3 : l.length ≤ 1000 := by omega
    rw [if_pos h]
    simp only [go_sem, ↓reduceIte, Nat.reduceAdd, Nat.reduceMul, Nat.reduceSub, Nat.reduceLT, Nat.reduceLeDiff, Nat.reduceEqDiff, Int.reduceToNat, Int.reduceEq, Int.reduceLT, Int.reduceLE, reduceCtorEq, Gld_eq, he, h, h3]
  · rw [if_neg h]
    simp only [go_sem, ↓reduceIte, Nat.reduceAdd, Nat.reduceMul, Nat.reduceSub, Nat.reduceLT, Nat.reduceLeDiff, Nat.reduceEqDiff, Int.reduceToNat, Int.reduceEq, Int.reduceLT, Int.reduceLE, reduceCtorEq, Gld_eq, he, h]
end Go.Proofs.Ytafcmgfmmlnngaa.Sw
end
section
set_option linter.unusedSimpArgs false
set_option linter.unusedVariables false
set_option maxRecDepth 100000
open Go Go.Sx Go.Proofs
namespace Go.Proofs.Ytafcmgfmmlnngaa.Sw
open Go.Proofs.Ytafcmgfmmlnngaa.D Go.Proofs.Ytafcmgfmmlnngaa.Tr Go.Proofs.Ytafcmgfmmlnngaa.Cp
def th (L : List Ev) (i : Nat) : Int := (L.getD i dEv.dft).thr
theorem bestK_spec {L : List Ev} : ∀ {n b : Nat}, bestK L n = some b → freeB L b = true ∧ ∀ i, i < n → freeB L i = true → (th L b < th L i ∨ (th L b = th L i ∧ b ≤ i))
  | 0, b, h => by cases h
  | n + 1, b, h => by
    rw [bestK] at h
    cases e : bestK L n with
    | none =>
      rw [e] at h
      simp only at h
      split at h
      · rename_i hf
        injection h with h; subst h
        refine ⟨hf, fun i hi hfi => ?_⟩
        by_cases hin : i = n
        · subst hin; exact .inr ⟨rfl, Nat.le_refl _⟩
        · exfalso
          have : ∀ {m}, bestK L m = none → ∀ i, i < m → freeB L i = true → False := by
            intro m
            induction m with
            | zero => intro _ i hi; omega
            | succ m ih =>
              intro hm i hi hfi
              rw [bestK] at hm
              cases e2 : bestK L m with
              | none =>
                rw [e2] at hm
                simp only at hm
                split at hm
                · cases hm
                · rename_i hnf
                  by_cases him : i = m
                  · subst him; exact hnf hfi
                  · exact ih e2 i (by omega) hfi
              | some b2 =>
                rw [e2] at hm
                simp only at hm
                split at hm <;> cases hm
          exact this e i (by omega) hfi
      · cases h
    | some b' =>
      rw [e] at h
      obtain ⟨h1, h2⟩ := bestK_spec e
      have hlt := bestK_lt e
      simp only at h
      split at h
      · rename_i hc
        injection h with h; subst h
        simp only [Bool.and_eq_true, decide_eq_true_eq] at hc
        have hc2 : th L n < th L b' := hc.2
        refine ⟨hc.1, fun i hi hfi => ?_⟩
        by_cases hin : i = n
        · subst hin; exact .inr ⟨rfl, Nat.le_refl _⟩
        · rcases h2 i (by omega) hfi with q | ⟨q, _⟩
          · exact .inl (by omega)
          · exact .inl (by omega)
      · rename_i hc
        injection h with h; subst h
        refine ⟨h1, fun i hi hfi => ?_⟩
        by_cases hin : i = n
        · subst hin
          have : ¬ th L i < th L b' := fun q => hc (by rw [hfi, Bool.true_and]; exact decide_eq_true q)
          by_cases q : th L b' = th L i
          · exact .inr ⟨q, by omega⟩
          · exact .inl (by omega)
        · exact h2 i (by omega) hfi
end Go.Proofs.Ytafcmgfmmlnngaa.Sw
end
