/- The package guard: what its functions do, one by one. Conditions: none. -/
import Derived.Test.YtafcmgfmmlnngaaTrace
set_option linter.unusedSimpArgs false
set_option linter.unusedVariables false
set_option maxRecDepth 100000
open Go Go.Sx Go.Proofs
namespace Go.Proofs.Ytafcmgfmmlnngaa.Gu
open Go.Proofs.Ytafcmgfmmlnngaa.D Go.Proofs.Ytafcmgfmmlnngaa.Tr
structure Gd where
  st : Int
  th : Int
  lk : Int
def dGd : DT Gd := (DT.ofTT (.st [.int .i64, .int .i64, .int .i64])).iso (fun x => ⟨x.1, x.2.1, x.2.2.1⟩) (fun e => (e.st, e.th, e.lk, ())) (fun _ => rfl) (fun _ => rfl)
instance : Flat dGd := (Flat.ofTT rfl).iso
theorem gd_emb (e : Gd) : dGd.emb e = .agg [.int .i64 e.st, .int .i64 e.th, .int .i64 e.lk] := nr rfl
theorem gd_decV (m : List Res) (k t o : Int) : dGd.decV m (.agg [.int .i64 k, .int .i64 t, .int .i64 o]) = ⟨k, t, o⟩ := nr rfl
theorem gd_decP (m : List Res) (k t o : Int) : dGd.decP m (.agg [.int .i64 k, .int .i64 t, .int .i64 o]) = True := eq_true ⟨rfl, rfl, rfl, trivial⟩
theorem gd_eta (e : Gd) : (⟨e.st, e.th, e.lk⟩ : Gd) = e := nr rfl
attribute [go_sem] gd_emb gd_decV gd_decP gd_eta
/-- The guards of all variables. -/
structure Gs where
  st : Nat → Int
  th : Nat → Int
  lk : Nat → Int
def dGs : DT Gs := (DT.ofTT (.arr 8 3 (.st [.int .i64, .int .i64, .int .i64]))).iso (fun x => ⟨fun i => (x i).1, fun i => (x i).2.1, fun i => (x i).2.2.1⟩) (fun v i => (v.st i, v.th i, v.lk i, ())) (fun _ => rfl) (fun _ => rfl)
instance : Flat dGs := (Flat.ofTT rfl).iso
theorem gs_emb (v : Gs) : dGs.emb v = .arr 8 3 fun i => .agg [.int .i64 (v.st i), .int .i64 (v.th i), .int .i64 (v.lk i)] := nr rfl
theorem gs_decV (m : List Res) (f g h : Nat → Int) : dGs.decV m (.arr 8 3 fun i => .agg [.int .i64 (f i), .int .i64 (g i), .int .i64 (h i)]) = ⟨f, g, h⟩ := nr rfl
theorem gs_decP (m : List Res) (f g h : Nat → Int) : dGs.decP m (.arr 8 3 fun i => .agg [.int .i64 (f i), .int .i64 (g i), .int .i64 (h i)]) = True := eq_true ⟨rfl, rfl, fun _ _ => ⟨rfl, rfl, rfl, trivial⟩⟩
theorem gs_eta (v : Gs) : (⟨v.st, v.th, v.lk⟩ : Gs) = v := nr rfl
attribute [go_sem] gs_emb gs_decV gs_decP gs_eta
theorem upd_gs (f g h : Nat → Int) (i : Nat) (a b c : Int) : updS (fun k => SV.agg [.int .i64 (f k), .int .i64 (g k), .int .i64 (h k)]) i (.agg [.int .i64 a, .int .i64 b, .int .i64 c]) = fun k => SV.agg [.int .i64 (if k = i then a else f k), .int .i64 (if k = i then b else g k), .int .i64 (if k = i then c else h k)] := by
  funext k; unfold updS; split <;> rfl
def isAcc (e : Ev) : Bool := e.kind = 1 || e.kind = 2

def j85 : JC :=
  (.seq (.ops <|
  eo 1 (.box 35 (.t 0)) <|
  qo 2 (.mv (B false)) <|
  .nil)
  (.seq (.ops <|
  qo 3 (.fa 0 0 (.t 1)) <|
  eo 4 (.load 1 false (.t 3)) <|
  qo 5 (.cmp .eql (.t 4) (I 1)) <|
  qo 6 (.mv (.t 5)) <|
  .sc true 10 6 (qo 7 (.fa 0 0 (.t 1)) <|
  eo 8 (.load 1 false (.t 7)) <|
  qo 9 (.cmp .eql (.t 8) (I 2)) <|
  .nil) (.t 9) <|
  qo 2 (.mv (.t 10)) <|
  .nil)
  .ret))
theorem c85 : fnIs Try.prog qall 85 = some (j85.flat, [.tmp 2], 11) := by kernel_rfl
theorem w85 : j85.wf 11 = true := by kernel_rfl
theorem f_isAcc (e : Ev) : FnOK Try.prog 85 [dEv.emb e] [] (.bool (isAcc e)) [] := by
  refine fn_walkF c85 w85 FH.none_ok rfl ?_
  unfold j85
  simp only [go_sem, ↓reduceIte, Nat.reduceAdd, Nat.reduceMul, Nat.reduceSub, Nat.reduceLT, Nat.reduceLeDiff, Nat.reduceEqDiff, Int.reduceToNat, Int.reduceEq, Int.reduceLT, Int.reduceLE, reduceCtorEq]
  rfl
/-- A bit. -/
def bit (k : Int) : Int := IntKind.i64.wrap (1 * 2 ^ (min k.toNat 64))
def takesH (h : Nat → Int) (e : Ev) : Nat → Int := if e.kind = 3 then (fun k => if k = e.thr.toNat then bitOr .i64 (h e.thr.toNat) (bit e.obj) else h k) else if e.kind = 4 then (fun k => if k = e.thr.toNat then bitAndNot .i64 (h e.thr.toNat) (bit e.obj) else h k) else h
abbrev dHd : DT (Nat → Int) := DT.arr 6 1 DT.int

def j84 : JC :=
  (.seq (.ops <|
  eo 3 (.box 35 (.t 1)) <|
  .nil)
  (.seq (.ops <|
  qo 4 (.fa 0 0 (.t 3)) <|
  eo 5 (.load 1 false (.t 4)) <|
  .nil)
  (.block 0 (.seq (.ops <|
  qo 7 (.cmp .eql (.t 5) (I 3)) <|
  qo 6 (.mv (.t 7)) <|
  .nil)
  (.cond (.t 6)
  (.dops <|
  qo 8 (.mv (.t 0)) <|
  qo 9 (.fa 1 1 (.t 3)) <|
  .prune [9, 8, 3] <|
  eo 10 (.load 1 false (.t 9)) <|
  qo 11 (.nck (.t 8)) <|
  qo 12 (.ia 6 1 (.t 11) (.t 10)) <|
  eo 13 (.load 1 false (.t 12)) <|
  .prune [3, 13, 8, 10] <|
  qo 14 (.fa 2 2 (.t 3)) <|
  eo 15 (.load 1 false (.t 14)) <|
  qo 16 (.ar .shl (I 1) (.t 15)) <|
  .prune [13, 16, 8, 10] <|
  qo 17 (.ar .or (.t 13) (.t 16)) <|
  qo 18 (.nck (.t 8)) <|
  qo 19 (.ia 6 1 (.t 18) (.t 10)) <|
  en (.store 1 (.t 19) (.t 17)) <|
  .nil)
  (.seq (.ops <|
  qo 21 (.cmp .eql (.t 5) (I 4)) <|
  qo 20 (.mv (.t 21)) <|
  .nil)
  (.cond (.t 20)
  (.dops <|
  .prune [0, 3] <|
  qo 22 (.mv (.t 0)) <|
  qo 23 (.fa 1 1 (.t 3)) <|
  eo 24 (.load 1 false (.t 23)) <|
  qo 25 (.nck (.t 22)) <|
  qo 26 (.ia 6 1 (.t 25) (.t 24)) <|
  .prune [26, 3, 22, 24] <|
  eo 27 (.load 1 false (.t 26)) <|
  qo 28 (.fa 2 2 (.t 3)) <|
  eo 29 (.load 1 false (.t 28)) <|
  .prune [29, 27, 22, 24] <|
  qo 30 (.ar .shl (I 1) (.t 29)) <|
  qo 31 (.ar .andNot (.t 27) (.t 30)) <|
  qo 32 (.nck (.t 22)) <|
  qo 33 (.ia 6 1 (.t 32) (.t 24)) <|
  en (.store 1 (.t 33) (.t 31)) <|
  .nil)
  .skip)))))))
theorem c84 : fnIs Try.prog qall 84 = some (j84.flat, [], 34) := by kernel_rfl
theorem w84 : j84.wf 34 = true := by kernel_rfl
theorem f_takes (h : Nat → Int) (e : Ev) (he : isEv e = true) : FnOK Try.prog 84 [.ptr 0 [] 0, dEv.emb e] [.blk 142 (dHd.emb h)] (.tup []) [.blk 142 (dHd.emb (takesH h e))] := by
  refine fn_walkF c84 w84 FH.none_ok rfl ?_
  unfold j84
  obtain ⟨b1, b2, b3, b4⟩ := (isEv_iff e).1 he
  obtain ⟨t, ht, ht6⟩ : ∃ t : Nat, e.thr = t ∧ t < 6 := ⟨e.thr.toNat, by omega, by omega⟩
  unfold takesH
  by_cases k3 : e.kind = 3
  · simp only [go_sem, ↓reduceIte, Nat.reduceAdd, Nat.reduceMul, Nat.reduceSub, Nat.reduceLT, Nat.reduceLeDiff, Nat.reduceEqDiff, Int.reduceToNat, Int.reduceEq, Int.reduceLT, Int.reduceLE, reduceCtorEq, k3, ht, ht6]
    exact ⟨by omega, by omega, by omega, rfl⟩
  by_cases k4 : e.kind = 4
  · simp only [go_sem, ↓reduceIte, Nat.reduceAdd, Nat.reduceMul, Nat.reduceSub, Nat.reduceLT, Nat.reduceLeDiff, Nat.reduceEqDiff, Int.reduceToNat, Int.reduceEq, Int.reduceLT, Int.reduceLE, reduceCtorEq, k3, k4, ht, ht6]
    exact ⟨by omega, by omega, by omega, rfl⟩
  simp only [go_sem, ↓reduceIte, Nat.reduceAdd, Nat.reduceMul, Nat.reduceSub, Nat.reduceLT, Nat.reduceLeDiff, Nat.reduceEqDiff, Int.reduceToNat, Int.reduceEq, Int.reduceLT, Int.reduceLE, reduceCtorEq, k3, k4]
def accF (g : Gd) (e : Ev) (locks : Int) : Gd :=
  if g.st = 0 then ⟨1, e.thr, g.lk⟩ else if g.st = 1 ∧ g.th = e.thr then g else if g.st = 1 ∧ e.kind = 2 then ⟨3, g.th, locks⟩ else if g.st = 1 then ⟨2, g.th, locks⟩
  else ⟨if e.kind = 2 then 3 else g.st, g.th, bitAnd .i64 g.lk locks⟩
theorem tszGd : tsz Try.prog 39 = some (3, true) := by kernel_rfl
theorem tszGs : tsz Try.prog 40 = some (24, true) := by kernel_rfl

def j72 : JC :=
  (.seq (.ops <|
  eo 3 (.box 39 (.t 0)) <|
  eo 4 (.box 35 (.t 1)) <|
  eo 6 (.alloc 39 (.agg [(.int .i64 0), (.int .i64 0), (.int .i64 0)])) <|
  .nil)
  (.seq (.ops <|
  qo 8 (.fa 0 0 (.t 4)) <|
  eo 9 (.load 1 false (.t 8)) <|
  qo 10 (.cmp .eql (.t 9) (I 2)) <|
  qo 7 (.mv (.t 10)) <|
  .nil)
  (.seq (.block 0 (.seq (.ops <|
  qo 19 (.fa 0 0 (.t 3)) <|
  eo 20 (.load 1 false (.t 19)) <|
  qo 21 (.cmp .eql (.t 20) (I 0)) <|
  qo 18 (.mv (.t 21)) <|
  .nil)
  (.prune [18, 4, 3, 6, 7, 2] (.cond (.t 18)
  (.dops <|
  qo 22 (.fa 1 1 (.t 4)) <|
  .prune [22, 3, 6] <|
  eo 23 (.load 1 false (.t 22)) <|
  qo 24 (.fa 0 0 (.t 3)) <|
  en (.store 1 (.t 24) (I 1)) <|
  en (.again 1 false (.t 22) 23) <|
  qo 25 (.fa 1 1 (.t 3)) <|
  en (.store 1 (.t 25) (.t 23)) <|
  .nil)
  (.seq (.ops <|
  qo 27 (.fa 0 0 (.t 3)) <|
  eo 28 (.load 1 false (.t 27)) <|
  qo 29 (.cmp .eql (.t 28) (I 1)) <|
  .prune [29, 3, 4, 6, 7, 2] <|
  qo 30 (.mv (.t 29)) <|
  .sc false 36 30 (qo 31 (.fa 1 1 (.t 3)) <|
  eo 32 (.load 1 false (.t 31)) <|
  qo 33 (.fa 1 1 (.t 4)) <|
  eo 34 (.load 1 false (.t 33)) <|
  qo 35 (.cmp .eql (.t 32) (.t 34)) <|
  .nil) (.t 35) <|
  qo 26 (.mv (.t 36)) <|
  .nil)
  (.prune [26, 3, 6, 7, 2] (.cond (.t 26)
  .skip
  (.seq (.ops <|
  qo 38 (.fa 0 0 (.t 3)) <|
  eo 39 (.load 1 false (.t 38)) <|
  qo 40 (.cmp .eql (.t 39) (I 1)) <|
  .prune [40, 7, 2, 3, 6] <|
  qo 41 (.mv (.t 40)) <|
  .sc false 43 41 (qo 42 (.mv (.t 7)) <|
  .nil) (.t 42) <|
  qo 37 (.mv (.t 43)) <|
  .nil)
  (.prune [37, 2, 3, 6, 7] (.cond (.t 37)
  (.ops <|
  qo 44 (.mv (.t 2)) <|
  qo 45 (.fa 0 0 (.t 3)) <|
  .prune [45, 3, 44, 6] <|
  en (.store 1 (.t 45) (I 3)) <|
  qo 46 (.fa 2 2 (.t 3)) <|
  en (.store 1 (.t 46) (.t 44)) <|
  .nil)
  (.seq (.ops <|
  qo 48 (.fa 0 0 (.t 3)) <|
  eo 49 (.load 1 false (.t 48)) <|
  qo 50 (.cmp .eql (.t 49) (I 1)) <|
  qo 47 (.mv (.t 50)) <|
  .nil)
  (.cond (.t 47)
  (.ops <|
  .prune [2, 3, 6] <|
  qo 51 (.mv (.t 2)) <|
  qo 52 (.fa 0 0 (.t 3)) <|
  en (.store 1 (.t 52) (I 2)) <|
  qo 53 (.fa 2 2 (.t 3)) <|
  en (.store 1 (.t 53) (.t 51)) <|
  .nil)
  (.seq (.ops <|
  .prune [3, 2, 7, 6] <|
  qo 11 (.fa 2 2 (.t 3)) <|
  eo 12 (.load 1 false (.t 11)) <|
  qo 13 (.mv (.t 2)) <|
  qo 14 (.ar .and (.t 12) (.t 13)) <|
  qo 15 (.fa 2 2 (.t 3)) <|
  en (.store 1 (.t 15) (.t 14)) <|
  .nil)
  (.prune [7, 3, 6] (.seq (.ops <|
  qo 16 (.mv (.t 7)) <|
  .nil)
  (.cond (.t 16)
  (.ops <|
  qo 17 (.fa 0 0 (.t 3)) <|
  en (.store 1 (.t 17) (I 3)) <|
  .nil)
  .skip))))))))))))))))
  (.prune [3, 6] (.seq (.ops <|
  eo 54 (.load 3 true (.t 3)) <|
  en (.store 3 (.t 6) (.t 54)) <|
  .nil)
  .ret)))))
theorem c72 : fnIs Try.prog qall 72 = some (j72.flat, [.cell 6 39], 55) := by kernel_rfl
theorem w72 : j72.wf 55 = true := by kernel_rfl
theorem f_access (g : Gd) (e : Ev) (locks : Int) : FnOK Try.prog 72 [dGd.emb g, dEv.emb e, .int .i64 locks] [] (dGd.emb (accF g e locks)) [] := by
  refine fn_walkF c72 w72 FH.none_ok rfl ?_
  unfold j72
  unfold accF
  by_cases h0 : g.st = 0
  · simp only [go_sem, ↓reduceIte, Nat.reduceAdd, Nat.reduceMul, Nat.reduceSub, Nat.reduceLT, Nat.reduceLeDiff, Nat.reduceEqDiff, Int.reduceToNat, Int.reduceEq, Int.reduceLT, Int.reduceLE, reduceCtorEq, h0, tszGd]
  by_cases h1 : g.st = 1
  · by_cases h2 : g.th = e.thr
    · simp only [go_sem, ↓reduceIte, Nat.reduceAdd, Nat.reduceMul, Nat.reduceSub, Nat.reduceLT, Nat.reduceLeDiff, Nat.reduceEqDiff, Int.reduceToNat, Int.reduceEq, Int.reduceLT, Int.reduceLE, reduceCtorEq, h0, h1, h2, tszGd]
    · by_cases h3 : e.kind = 2
      · simp only [go_sem, ↓reduceIte, Nat.reduceAdd, Nat.reduceMul, Nat.reduceSub, Nat.reduceLT, Nat.reduceLeDiff, Nat.reduceEqDiff, Int.reduceToNat, Int.reduceEq, Int.reduceLT, Int.reduceLE, reduceCtorEq, h0, h1, h2, h3, tszGd]
      · simp only [go_sem, ↓reduceIte, Nat.reduceAdd, Nat.reduceMul, Nat.reduceSub, Nat.reduceLT, Nat.reduceLeDiff, Nat.reduceEqDiff, Int.reduceToNat, Int.reduceEq, Int.reduceLT, Int.reduceLE, reduceCtorEq, h0, h1, h2, h3, tszGd]
  · by_cases h3 : e.kind = 2
    · simp only [go_sem, ↓reduceIte, Nat.reduceAdd, Nat.reduceMul, Nat.reduceSub, Nat.reduceLT, Nat.reduceLeDiff, Nat.reduceEqDiff, Int.reduceToNat, Int.reduceEq, Int.reduceLT, Int.reduceLE, reduceCtorEq, h0, h1, h3, tszGd, false_and]
    · simp only [go_sem, ↓reduceIte, Nat.reduceAdd, Nat.reduceMul, Nat.reduceSub, Nat.reduceLT, Nat.reduceLeDiff, Nat.reduceEqDiff, Int.reduceToNat, Int.reduceEq, Int.reduceLT, Int.reduceLE, reduceCtorEq, h0, h1, h3, tszGd, false_and]

def j56 : JC :=
  (.seq (.ops <|
  eo 1 (.box 29 (.t 0)) <|
  qo 2 (.mv (.c .nilf)) <|
  .nil)
  (.seq (.ops <|
  qo 3 (.mkfn 83 [(.t 1)]) <|
  qo 2 (.mv (.t 3)) <|
  .nil)
  .ret))
theorem c56 : fnIs Try.prog qall 56 = some (j56.flat, [.tmp 2], 4) := by kernel_rfl
theorem w56 : j56.wf 4 = true := by kernel_rfl
theorem f_accesses (l : List Ev) : FnOK Try.prog 56 [dEs.emb l] [] (.fn 83 [.ptr 0 [] 0]) [.blk 29 (dEs.emb l)] := by
  refine fn_walkF c56 w56 FH.none_ok rfl ?_
  unfold j56
  simp only [go_sem, ↓reduceIte, Nat.reduceAdd, Nat.reduceMul, Nat.reduceSub, Nat.reduceLT, Nat.reduceLeDiff, Nat.reduceEqDiff, Int.reduceToNat, Int.reduceEq, Int.reduceLT, Int.reduceLE, reduceCtorEq]
end Go.Proofs.Ytafcmgfmmlnngaa.Gu
