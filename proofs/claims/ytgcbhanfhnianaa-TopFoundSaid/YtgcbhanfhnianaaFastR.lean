/- The package fast: cells. Conditions: none. -/
import Derived.Test.YtgcbhanfhnianaaFullC
import Derived.Test.YtgcbhanfhnianaaSx41
section
set_option linter.unusedSimpArgs false
set_option linter.unusedVariables false
set_option maxRecDepth 100000
open Go Go.Sx Go.Proofs
namespace Go.Proofs.Ytgcbhanfhnianaa.Fa
open Go.Proofs.Ytgcbhanfhnianaa.D Go.Proofs.Ytgcbhanfhnianaa.Tr Go.Proofs.Ytgcbhanfhnianaa.C Go.Proofs.Ytgcbhanfhnianaa.Fu
def isThr (t : Int) : Bool := decide (0 ≤ t) && decide (t < 6)
theorem isThr_iff (t : Int) : isThr t = true ↔ 0 ≤ t ∧ t < 6 := by simp [isThr]

def j155 : JC :=
  (.seq (.ops <|
  qo 2 (.mv (B false)) <|
  .nil)
  (.seq (.ops <|
  qo 3 (.mv (.t 0)) <|
  qo 4 (.cmp .geq (.t 3) (I 0)) <|
  qo 5 (.mv (.t 4)) <|
  .sc false 8 5 (qo 6 (.mv (.t 0)) <|
  qo 7 (.cmp .lss (.t 6) (I 6)) <|
  .nil) (.t 7) <|
  qo 2 (.mv (.t 8)) <|
  .nil)
  .ret))
theorem c155 : fnIs Try.prog qall 155 = some (j155.flat, [.tmp 2], 9) := by kernel_rfl
theorem w155 : j155.wf 9 = true := by kernel_rfl
theorem f_isThread (t : Int) : FnOK Try.prog 155 [.int .i64 t] [] (.bool (isThr t)) [] := by
  refine fn_walkF c155 w155 FH.none_ok rfl ?_
  unfold j155
  simp only [go_sem, ↓reduceIte, Nat.reduceAdd, Nat.reduceMul, Nat.reduceSub, Nat.reduceLT, Nat.reduceLeDiff, Nat.reduceEqDiff, Int.reduceToNat, Int.reduceEq, Int.reduceLT, Int.reduceLE, reduceCtorEq]
  rfl
def Gt (f : FuncId) (a : List SV) (m : List Res) : Sx.Call := (FH.rd 155 (.one .int) (.one .bool) (fun _ => True) (fun y => isThr y.1) FH.none) f a m
theorem Gt_eq (f : FuncId) (a : List SV) (m : List Res) : Gt f a m = (FH.rd 155 (.one .int) (.one .bool) (fun _ => True) (fun y => isThr y.1) FH.none) f a m := nr rfl
theorem Gt_ok : FHOK Try.prog Gt := FH.rd_ok (by kernel_rfl) (fun y _ => f_isThread y.1) FH.none_ok

def j130 : JC :=
  (.seq (.ops <|
  eo 2 (.box 166 (.t 0)) <|
  eo 4 (.alloc 173 (.agg [(.int .i64 0), (.int .i64 0)])) <|
  qo 5 (.mv (I 0)) <|
  .nil)
  (.seq (.seq (.ops <|
  qo 6 (.mv (.t 1)) <|
  eo 7 (.call 155 [(.t 6)]) <|
  qo 8 (.nt (.t 7)) <|
  .nil)
  (.cond (.t 8)
  (.seq (.ops <|
  qo 9 (.bld (.agg [(.int .i64 0), (.int .i64 0)]) []) <|
  en (.store 2 (.t 4) (.t 9)) <|
  qo 5 (.mv (I 1)) <|
  .nil)
  .ret)
  .skip))
  (.seq (.ops <|
  .prune [1, 2, 4] <|
  qo 10 (.mv (.t 1)) <|
  qo 11 (.mv (.t 1)) <|
  qo 12 (.ia 6 1 (.t 2) (.t 11)) <|
  eo 13 (.load 1 false (.t 12)) <|
  .prune [10, 13, 4] <|
  qo 14 (.bld (.agg [(.int .i64 0), (.int .i64 0)]) [([.fld 0], 0, 1, (.t 10)), ([.fld 1], 1, 1, (.t 13))]) <|
  en (.store 2 (.t 4) (.t 14)) <|
  qo 5 (.mv (I 0)) <|
  .nil)
  .ret)))
theorem c130 : fnIs Try.prog qall 130 = some (j130.flat, [.cell 4 173, .tmp 5], 15) := by kernel_rfl
theorem w130 : j130.wf 15 = true := by kernel_rfl

def j156 : JC :=
  (.seq (.ops <|
  eo 2 (.box 173 (.t 0)) <|
  eo 3 (.box 166 (.t 1)) <|
  qo 4 (.mv (B false)) <|
  .nil)
  (.seq (.dops <|
  qo 5 (.fa 0 0 (.t 2)) <|
  eo 6 (.load 1 false (.t 5)) <|
  eo 7 (.qcall 155 [(.t 6)]) <|
  qo 8 (.mv (.t 7)) <|
  .prune [8, 2, 3] <|
  .sc false 16 8 (qo 9 (.fa 1 1 (.t 2)) <|
  eo 10 (.load 1 false (.t 9)) <|
  qo 11 (.fa 0 0 (.t 2)) <|
  eo 12 (.load 1 false (.t 11)) <|
  qo 13 (.ia 6 1 (.t 3) (.t 12)) <|
  eo 14 (.load 1 false (.t 13)) <|
  qo 15 (.cmp .leq (.t 10) (.t 14)) <|
  .nil) (.t 15) <|
  qo 4 (.mv (.t 16)) <|
  .nil)
  .ret))
theorem c156 : fnIs Try.prog qall 156 = some (j156.flat, [.tmp 4], 17) := by kernel_rfl
theorem w156 : j156.wf 17 = true := by kernel_rfl
def ofF (c : Clk) (t : Int) : Pr × Int := if isThr t then (⟨t, c t.toNat⟩, 0) else (⟨0, 0⟩, 1)
theorem tszE : tsz Try.prog 173 = some (2, true) := by kernel_rfl
theorem f_Of (c : Clk) (t : Int) : FnOK Try.prog 130 [dClk.emb c, .int .i64 t] [] (.tup [dPr.emb (ofF c t).1, .int .i64 (ofF c t).2]) [] := by
  refine fn_walkF c130 w130 Gt_ok rfl ?_
  unfold j130
  simp only [go_sem, ↓reduceIte, Nat.reduceAdd, Nat.reduceMul, Nat.reduceSub, Nat.reduceLT, Nat.reduceLeDiff, Nat.reduceEqDiff, Int.reduceToNat, Int.reduceEq, Int.reduceLT, Int.reduceLE, reduceCtorEq, Gt_eq, tszE]
  have h1 := (isThr_iff t).1
  exact ⟨fun h => by simp [ofF, h], fun h => ⟨h1 h, by simp [ofF, h]⟩⟩
def seenB (e : Pr) (c : Clk) : Bool := isThr e.a && decide (e.b ≤ c e.a.toNat)
theorem f_Seen (e : Pr) (c : Clk) : FnOK Try.prog 156 [dPr.emb e, dClk.emb c] [] (.bool (seenB e c)) [] := by
  refine fn_walkF c156 w156 Gt_ok rfl ?_
  unfold j156
  simp only [go_sem, ↓reduceIte, Nat.reduceAdd, Nat.reduceMul, Nat.reduceSub, Nat.reduceLT, Nat.reduceLeDiff, Nat.reduceEqDiff, Int.reduceToNat, Int.reduceEq, Int.reduceLT, Int.reduceLE, reduceCtorEq, Gt_eq, tszC]
  exact ⟨(isThr_iff e.a).1, rfl⟩
def dOne : DT Pr := (DT.ofTT (.st [.st [.int .i64, .int .i64]])).iso (fun x => ⟨x.1.1, x.1.2.1⟩) (fun e => ((e.a, e.b, ()), ())) (fun _ => rfl) (fun _ => rfl)
instance : Flat dOne := (Flat.ofTT rfl).iso
theorem one_emb (e : Pr) : dOne.emb e = .agg [.agg [.int .i64 e.a, .int .i64 e.b]] := nr rfl
theorem one_decV (m : List Res) (a b : Int) : dOne.decV m (.agg [.agg [.int .i64 a, .int .i64 b]]) = ⟨a, b⟩ := nr rfl
theorem one_decP (m : List Res) (a b : Int) : dOne.decP m (.agg [.agg [.int .i64 a, .int .i64 b]]) = True := eq_true ⟨⟨rfl, rfl, trivial⟩, trivial⟩
attribute [go_sem] one_emb one_decV one_decP
abbrev dRd : DT (Pr ⊕ Clk) := DT.sum 214 241 dOne dClk (by decide)
structure Cl where
  wr : Pr
  rd : Pr ⊕ Clk
  slow : Int
def dCl : DT Cl := (DT.st (DL.cons dPr (DL.cons dRd (DL.cons DT.int DL.nil)))).iso (fun x => ⟨x.1, x.2.1, x.2.2.1⟩) (fun c => (c.wr, c.rd, c.slow, ())) (fun _ => rfl) (fun _ => rfl)
theorem cl_one (w e : Pr) (s : Int) : dCl.emb ⟨w, .inl e, s⟩ = .agg [.agg [.int .i64 w.a, .int .i64 w.b], .iface 214 (.agg [.agg [.int .i64 e.a, .int .i64 e.b]]), .int .i64 s] := nr rfl
theorem cl_many (w : Pr) (c : Clk) (s : Int) : dCl.emb ⟨w, .inr c, s⟩ = .agg [.agg [.int .i64 w.a, .int .i64 w.b], .iface 241 (.arr 6 1 fun j => .int .i64 (c j)), .int .i64 s] := nr rfl
theorem cl_back (m : List Res) (s : Cl) : dCl.decV m (dCl.emb s) = s := nr (dCl.vE m s)
attribute [go_sem] cl_one cl_many cl_back
def setC (d : Clk) (t n : Int) : Clk := fun j => if j = t.toNat then n else d j
def alsoO (p e : Pr) (c : Clk) : Pr ⊕ Clk := if seenB p c = true then .inl e else .inr (setC (setC (fun _ => 0) p.a p.b) e.a e.b)

def j205 : JC :=
  (.seq (.ops <|
  eo 2 (.box 214 (.t 0)) <|
  eo 3 (.box 166 (.t 1)) <|
  qo 4 (.mv (B false)) <|
  .nil)
  (.seq (.ops <|
  qo 5 (.fa 0 0 (.t 2)) <|
  eo 6 (.load 2 true (.t 5)) <|
  eo 7 (.load 6 true (.t 3)) <|
  eo 8 (.call 156 [(.t 6), (.t 7)]) <|
  qo 4 (.mv (.t 8)) <|
  .nil)
  .ret))
theorem c205 : fnIs Try.prog qall 205 = some (j205.flat, [.tmp 4], 9) := by kernel_rfl
theorem w205 : j205.wf 9 = true := by kernel_rfl

def j204 : JC :=
  (.seq (.ops <|
  eo 3 (.box 214 (.t 0)) <|
  eo 4 (.box 173 (.t 1)) <|
  eo 5 (.box 166 (.t 2)) <|
  qo 6 (.mv (.c .nili)) <|
  .nil)
  (.seq (.seq (.ops <|
  eo 8 (.load 2 true (.t 3)) <|
  eo 9 (.load 6 true (.t 5)) <|
  eo 10 (.call 205 [(.t 8), (.t 9)]) <|
  .nil)
  (.cond (.t 10)
  (.seq (.ops <|
  .prune [4] <|
  eo 11 (.load 2 true (.t 4)) <|
  qo 12 (.bld (.agg [(.agg [(.int .i64 0), (.int .i64 0)])]) [([.fld 0], 0, 2, (.t 11))]) <|
  qo 13 (.mkif 214 (.t 12)) <|
  qo 6 (.mv (.t 13)) <|
  .nil)
  .ret)
  .skip))
  (.prune [3, 4] (.seq (.ops <|
  qo 14 (.bld (.arr 6 1 fun _ => (.int .i64 0)) []) <|
  eo 7 (.alloc 241 (.arr 6 1 fun _ => (.int .i64 0))) <|
  en (.store 6 (.t 7) (.t 14)) <|
  .nil)
  (.seq (.ops <|
  qo 15 (.fa 0 0 (.t 3)) <|
  qo 16 (.fa 0 0 (.t 15)) <|
  .prune [16, 3, 7, 4] <|
  eo 17 (.load 1 false (.t 16)) <|
  qo 18 (.fa 0 0 (.t 3)) <|
  qo 19 (.fa 1 1 (.t 18)) <|
  .prune [19, 7, 17, 4] <|
  eo 20 (.load 1 false (.t 19)) <|
  qo 21 (.ia 6 1 (.t 7) (.t 17)) <|
  en (.store 1 (.t 21) (.t 20)) <|
  .nil)
  (.prune [4, 7] (.seq (.ops <|
  qo 22 (.fa 0 0 (.t 4)) <|
  eo 23 (.load 1 false (.t 22)) <|
  qo 24 (.fa 1 1 (.t 4)) <|
  eo 25 (.load 1 false (.t 24)) <|
  qo 26 (.ia 6 1 (.t 7) (.t 23)) <|
  en (.store 1 (.t 26) (.t 25)) <|
  .nil)
  (.seq (.ops <|
  .prune [7] <|
  eo 27 (.load 6 true (.t 7)) <|
  qo 28 (.mkif 241 (.t 27)) <|
  qo 6 (.mv (.t 28)) <|
  .nil)
  .ret))))))))
theorem c204 : fnIs Try.prog qall 204 = some (j204.flat, [.tmp 6], 29) := by kernel_rfl
theorem w204 : j204.wf 29 = true := by kernel_rfl

def j208 : JC :=
  (.seq (.ops <|
  eo 2 (.box 241 (.t 0)) <|
  eo 3 (.box 166 (.t 1)) <|
  qo 4 (.mv (B false)) <|
  .nil)
  (.seq (.ops <|
  eo 5 (.load 6 true (.t 2)) <|
  eo 6 (.load 6 true (.t 3)) <|
  eo 7 (.call 175 [(.t 5), (.t 6)]) <|
  qo 4 (.mv (.t 7)) <|
  .nil)
  .ret))
theorem c208 : fnIs Try.prog qall 208 = some (j208.flat, [.tmp 4], 8) := by kernel_rfl
theorem w208 : j208.wf 8 = true := by kernel_rfl

def j207 : JC :=
  (.seq (.ops <|
  eo 3 (.box 241 (.t 0)) <|
  eo 4 (.box 173 (.t 1)) <|
  eo 5 (.box 166 (.t 2)) <|
  qo 6 (.mv (.c .nili)) <|
  .nil)
  (.seq (.ops <|
  qo 7 (.fa 0 0 (.t 4)) <|
  eo 8 (.load 1 false (.t 7)) <|
  qo 9 (.fa 1 1 (.t 4)) <|
  .prune [9, 3, 8] <|
  eo 10 (.load 1 false (.t 9)) <|
  qo 11 (.ia 6 1 (.t 3) (.t 8)) <|
  en (.store 1 (.t 11) (.t 10)) <|
  .nil)
  (.prune [3] (.seq (.ops <|
  eo 12 (.load 6 true (.t 3)) <|
  qo 13 (.mkif 241 (.t 12)) <|
  qo 6 (.mv (.t 13)) <|
  .nil)
  .ret))))
theorem c207 : fnIs Try.prog qall 207 = some (j207.flat, [.tmp 6], 14) := by kernel_rfl
theorem w207 : j207.wf 14 = true := by kernel_rfl
def Gk (f : FuncId) (a : List SV) (m : List Res) : Sx.Call := (FH.rd 156 (.two dPr dClk) (.one .bool) (fun _ => True) (fun y => seenB y.1 y.2.1) <| FH.rd 175 (.two dClk dClk) (.one .bool) (fun _ => True) (fun y => withB y.1 y.2.1) FH.none) f a m
theorem Gk_eq (f : FuncId) (a : List SV) (m : List Res) : Gk f a m = (FH.rd 156 (.two dPr dClk) (.one .bool) (fun _ => True) (fun y => seenB y.1 y.2.1) <| FH.rd 175 (.two dClk dClk) (.one .bool) (fun _ => True) (fun y => withB y.1 y.2.1) FH.none) f a m := nr rfl
theorem Gk_ok : FHOK Try.prog Gk := FH.rd_ok (by kernel_rfl) (fun y _ => f_Seen y.1 y.2.1) <| FH.rd_ok (by kernel_rfl) (fun y _ => f_Within y.1 y.2.1) FH.none_ok
theorem f_oneKnown (p : Pr) (c : Clk) : FnOK Try.prog 205 [dOne.emb p, dClk.emb c] [] (.bool (seenB p c)) [] := by
  refine fn_walkF c205 w205 Gk_ok rfl ?_
  unfold j205
  simp only [go_sem, ↓reduceIte, Nat.reduceAdd, Nat.reduceMul, Nat.reduceSub, Nat.reduceLT, Nat.reduceLeDiff, Nat.reduceEqDiff, Int.reduceToNat, Int.reduceEq, Int.reduceLT, Int.reduceLE, reduceCtorEq, Gk_eq, tszC, tszE]
theorem f_manyKnown (d c : Clk) : FnOK Try.prog 208 [dClk.emb d, dClk.emb c] [] (.bool (withB d c)) [] := by
  refine fn_walkF c208 w208 Gk_ok rfl ?_
  unfold j208
  simp only [go_sem, ↓reduceIte, Nat.reduceAdd, Nat.reduceMul, Nat.reduceSub, Nat.reduceLT, Nat.reduceLeDiff, Nat.reduceEqDiff, Int.reduceToNat, Int.reduceEq, Int.reduceLT, Int.reduceLE, reduceCtorEq, Gk_eq, tszC, tszE]
theorem tszM : tsz Try.prog 241 = some (6, true) := by kernel_rfl
theorem upd_int (f : Nat → Int) (i : Nat) (n : Int) : updS (fun k => SV.int .i64 (f k)) i (.int .i64 n) = fun k => SV.int .i64 (if k = i then n else f k) := by
  funext k; unfold updS; split <;> rfl
theorem f_manyAlso (d c : Clk) (e : Pr) (h1 : 0 ≤ e.a) (h2 : e.a < 6) : FnOK Try.prog 207 [dClk.emb d, dPr.emb e, dClk.emb c] [] (dRd.emb (.inr (setC d e.a e.b))) [] := by
  refine fn_walkF c207 w207 FH.none_ok rfl ?_
  unfold j207
  simp only [go_sem, ↓reduceIte, Nat.reduceAdd, Nat.reduceMul, Nat.reduceSub, Nat.reduceLT, Nat.reduceLeDiff, Nat.reduceEqDiff, Int.reduceToNat, Int.reduceEq, Int.reduceLT, Int.reduceLE, reduceCtorEq, tszC, tszE, tszM, h1, h2, upd_int]
  rfl
def Gok (f : FuncId) (a : List SV) (m : List Res) : Sx.Call := (FH.rd 205 (.two dOne dClk) (.one .bool) (fun _ => True) (fun y => seenB y.1 y.2.1) FH.none) f a m
theorem Gok_eq (f : FuncId) (a : List SV) (m : List Res) : Gok f a m = (FH.rd 205 (.two dOne dClk) (.one .bool) (fun _ => True) (fun y => seenB y.1 y.2.1) FH.none) f a m := nr rfl
theorem Gok_ok : FHOK Try.prog Gok := FH.rd_ok (by kernel_rfl) (fun y _ => f_oneKnown y.1 y.2.1) FH.none_ok
theorem f_oneAlso (p e : Pr) (c : Clk) (h1 : 0 ≤ e.a) (h2 : e.a < 6) (h3 : 0 ≤ p.a) (h4 : p.a < 6) : FnOK Try.prog 204 [dOne.emb p, dPr.emb e, dClk.emb c] [] (dRd.emb (alsoO p e c)) [] := by
  refine fn_walkF c204 w204 Gok_ok rfl ?_
  unfold j204
  unfold alsoO
  by_cases h : seenB p c = true
  · rw [if_pos h]
    simp only [go_sem, ↓reduceIte, Nat.reduceAdd, Nat.reduceMul, Nat.reduceSub, Nat.reduceLT, Nat.reduceLeDiff, Nat.reduceEqDiff, Int.reduceToNat, Int.reduceEq, Int.reduceLT, Int.reduceLE, reduceCtorEq, Gok_eq, tszC, tszE, tszM, h1, h2, h3, h4, h, upd_int]
  · rw [if_neg h]
    simp only [go_sem, ↓reduceIte, Nat.reduceAdd, Nat.reduceMul, Nat.reduceSub, Nat.reduceLT, Nat.reduceLeDiff, Nat.reduceEqDiff, Int.reduceToNat, Int.reduceEq, Int.reduceLT, Int.reduceLE, reduceCtorEq, Gok_eq, tszC, tszE, tszM, h1, h2, h3, h4, h, upd_int]
    rfl
def rdS (s : Cl) (e : Pr) (c : Clk) : Cl := match s.rd with
  | .inl p => if p.a = e.a ∧ p.b = e.b then s else if seenB p c = true then ⟨s.wr, .inl e, s.slow⟩ else ⟨s.wr, .inr (setC (setC (fun _ => 0) p.a p.b) e.a e.b), s.slow + 1⟩
  | .inr d => ⟨s.wr, .inr (setC d e.a e.b), s.slow⟩
def rdK (s : Cl) (e : Pr) (c : Clk) : Int := match s.rd with
  | .inl p => if p.a = e.a ∧ p.b = e.b then 0 else if seenB s.wr c = true then 0 else 2
  | .inr _ => if seenB s.wr c = true then 0 else 2
def knownB (r : Pr ⊕ Clk) (c : Clk) : Bool := match r with
  | .inl p => seenB p c
  | .inr d => withB d c
def wrS (s : Cl) (e : Pr) : Cl := if s.wr.a = e.a ∧ s.wr.b = e.b then s else ⟨e, (match s.rd with
  | .inl p => .inl p
  | .inr _ => .inl ⟨0, 0⟩), s.slow⟩
def wrK (s : Cl) (e : Pr) (c : Clk) : Int := if s.wr.a = e.a ∧ s.wr.b = e.b then 0 else if seenB s.wr c = false then 1 else if knownB s.rd c = false then 3 else 0
def okC (s : Cl) : Prop := 0 ≤ s.slow ∧ s.slow ≤ 1000 ∧ match s.rd with
  | .inl p => 0 ≤ p.a ∧ p.a < 6
  | .inr _ => True

def j131 : JC :=
  (.seq (.ops <|
  eo 4 (.box 173 (.t 1)) <|
  eo 5 (.box 166 (.t 2)) <|
  qo 6 (.mv (I 0)) <|
  .nil)
  (.seq (.seq (.dops <|
  qo 11 (.mv (.t 0)) <|
  qo 12 (.nck (.t 11)) <|
  qo 13 (.fa 1 2 (.t 12)) <|
  eo 14 (.load 1 false (.t 13)) <|
  eo 15 (.load 2 true (.t 4)) <|
  qo 16 (.bld (.agg [(.agg [(.int .i64 0), (.int .i64 0)])]) [([.fld 0], 0, 2, (.t 15))]) <|
  qo 17 (.mkif 214 (.t 16)) <|
  qo 18 (.ieq false [(8, (.st [(.int .i64), (.int .i64), .bool, (.int .u8)])), (10, .str), (11, .str), (214, (.st [(.st [(.int .i64), (.int .i64)])])), (241, (.arr 6 1 (.int .i64))), (277, (.int .u8))] (.t 14) (.t 17)) <|
  .nil)
  (.prune [18, 0, 5, 4, 6] (.cond (.t 18)
  (.seq (.ops <|
  qo 6 (.mv (I 0)) <|
  .nil)
  .ret)
  .skip)))
  (.prune [0, 5, 4, 6] (.seq (.seq (.dops <|
  qo 19 (.mv (.t 0)) <|
  qo 20 (.nck (.t 19)) <|
  qo 21 (.fa 0 0 (.t 20)) <|
  eo 22 (.load 2 true (.t 21)) <|
  .prune [5, 22, 0, 4, 6] <|
  eo 23 (.load 6 true (.t 5)) <|
  eo 24 (.qcall 156 [(.t 22), (.t 23)]) <|
  qo 25 (.nt (.t 24)) <|
  .nil)
  (.prune [25, 0, 4, 5, 6] (.cond (.t 25)
  (.ops <|
  qo 6 (.mv (I 2)) <|
  .nil)
  .skip)))
  (.prune [0, 4, 5, 6] (.seq (.ops <|
  qo 27 (.mv (.t 0)) <|
  qo 28 (.nck (.t 27)) <|
  qo 29 (.fa 1 2 (.t 28)) <|
  eo 30 (.load 1 false (.t 29)) <|
  .prune [30, 0, 4, 5, 6] <|
  qo 31 (.tas 241 (.arr 6 1 fun _ => (.int .i64 0)) (.t 30)) <|
  qo 26 (.mv (.t 31)) <|
  qo 32 (.ext 0 (.t 26)) <|
  qo 33 (.ext 1 (.t 26)) <|
  .prune [32, 33, 0, 4, 5, 6] <|
  eo 7 (.alloc 241 (.arr 6 1 fun _ => (.int .i64 0))) <|
  en (.store 6 (.t 7) (.t 32)) <|
  qo 8 (.mv (.t 33)) <|
  .nil)
  (.prune [0, 4, 5, 8, 6] (.seq (.dops <|
  qo 34 (.mv (.t 0)) <|
  qo 35 (.mv (.t 0)) <|
  qo 36 (.nck (.t 35)) <|
  qo 37 (.fa 1 2 (.t 36)) <|
  eo 38 (.load 1 false (.t 37)) <|
  .prune [4, 5, 38, 34, 0, 8, 6] <|
  eo 39 (.load 2 true (.t 4)) <|
  eo 40 (.load 6 true (.t 5)) <|
  eo 41 (.icall [(214, 204), (241, 207)] (.t 38) [(.t 39), (.t 40)]) <|
  .prune [34, 41, 0, 8, 6] <|
  qo 42 (.nck (.t 34)) <|
  qo 43 (.fa 1 2 (.t 42)) <|
  en (.store 1 (.t 43) (.t 41)) <|
  .nil)
  (.prune [0, 8, 6] (.seq (.seq (.ops <|
  qo 45 (.mv (.t 0)) <|
  qo 46 (.nck (.t 45)) <|
  qo 47 (.fa 1 2 (.t 46)) <|
  eo 48 (.load 1 false (.t 47)) <|
  .prune [48, 8, 0, 6] <|
  qo 49 (.tas 241 (.arr 6 1 fun _ => (.int .i64 0)) (.t 48)) <|
  qo 44 (.mv (.t 49)) <|
  qo 50 (.ext 0 (.t 44)) <|
  qo 51 (.ext 1 (.t 44)) <|
  .prune [50, 51, 8, 0, 6] <|
  eo 9 (.alloc 241 (.arr 6 1 fun _ => (.int .i64 0))) <|
  en (.store 6 (.t 9) (.t 50)) <|
  qo 10 (.mv (.t 51)) <|
  .nil)
  (.prune [10, 8, 0, 6] (.seq (.ops <|
  qo 52 (.mv (.t 10)) <|
  qo 53 (.mv (.t 52)) <|
  .sc false 56 53 (qo 54 (.mv (.t 8)) <|
  qo 55 (.nt (.t 54)) <|
  .nil) (.t 55) <|
  .nil)
  (.cond (.t 56)
  (.ops <|
  .prune [0, 6] <|
  qo 57 (.mv (.t 0)) <|
  qo 58 (.nck (.t 57)) <|
  qo 59 (.fa 2 3 (.t 58)) <|
  eo 60 (.load 1 false (.t 59)) <|
  qo 61 (.ar .add (.t 60) (I 1)) <|
  .prune [57, 61, 6] <|
  qo 62 (.nck (.t 57)) <|
  qo 63 (.fa 2 3 (.t 62)) <|
  en (.store 1 (.t 63) (.t 61)) <|
  .nil)
  .skip))))
  (.prune [6] (.seq (.ops <|
  qo 64 (.mv (.t 6)) <|
  qo 6 (.mv (.t 64)) <|
  .nil)
  .ret))))))))))))
theorem c131 : fnIs Try.prog qall 131 = some (j131.flat, [.tmp 6], 65) := by kernel_rfl
theorem w131 : j131.wf 65 = true := by kernel_rfl

def j132 : JC :=
  (.seq (.ops <|
  eo 4 (.box 173 (.t 1)) <|
  eo 5 (.box 166 (.t 2)) <|
  qo 6 (.mv (I 0)) <|
  .nil)
  (.seq (.seq (.dops <|
  qo 9 (.mv (.t 0)) <|
  qo 10 (.nck (.t 9)) <|
  qo 11 (.fa 0 0 (.t 10)) <|
  eo 12 (.load 2 true (.t 11)) <|
  eo 13 (.load 2 true (.t 4)) <|
  qo 14 (.aeq false (.st [(.int .i64), (.int .i64)]) (.t 12) (.t 13)) <|
  .nil)
  (.cond (.t 14)
  (.seq (.ops <|
  qo 6 (.mv (I 0)) <|
  .nil)
  .ret)
  .skip))
  (.prune [0, 5, 4, 6] (.seq (.block 0 (.seq (.dops <|
  qo 16 (.mv (.t 0)) <|
  qo 17 (.nck (.t 16)) <|
  qo 18 (.fa 0 0 (.t 17)) <|
  eo 19 (.load 2 true (.t 18)) <|
  .prune [5, 19, 0, 4, 6] <|
  eo 20 (.load 6 true (.t 5)) <|
  eo 21 (.qcall 156 [(.t 19), (.t 20)]) <|
  qo 22 (.nt (.t 21)) <|
  qo 15 (.mv (.t 22)) <|
  .nil)
  (.prune [15, 0, 4, 5, 6] (.cond (.t 15)
  (.ops <|
  qo 6 (.mv (I 1)) <|
  .nil)
  (.seq (.dops <|
  qo 24 (.mv (.t 0)) <|
  qo 25 (.nck (.t 24)) <|
  qo 26 (.fa 1 2 (.t 25)) <|
  .prune [26, 5, 0, 4, 6] <|
  eo 27 (.load 1 false (.t 26)) <|
  eo 28 (.load 6 true (.t 5)) <|
  eo 29 (.icall [(214, 205), (241, 208)] (.t 27) [(.t 28)]) <|
  qo 30 (.nt (.t 29)) <|
  qo 23 (.mv (.t 30)) <|
  .nil)
  (.prune [23, 0, 4, 6] (.cond (.t 23)
  (.ops <|
  qo 6 (.mv (I 3)) <|
  .nil)
  .skip)))))))
  (.prune [0, 4, 6] (.seq (.ops <|
  qo 31 (.mv (.t 0)) <|
  eo 32 (.load 2 true (.t 4)) <|
  qo 33 (.nck (.t 31)) <|
  qo 34 (.fa 0 0 (.t 33)) <|
  en (.store 2 (.t 34) (.t 32)) <|
  .nil)
  (.seq (.seq (.ops <|
  .prune [0, 6] <|
  qo 36 (.mv (.t 0)) <|
  qo 37 (.nck (.t 36)) <|
  qo 38 (.fa 1 2 (.t 37)) <|
  eo 39 (.load 1 false (.t 38)) <|
  qo 40 (.tas 241 (.arr 6 1 fun _ => (.int .i64 0)) (.t 39)) <|
  .prune [40, 0, 6] <|
  qo 35 (.mv (.t 40)) <|
  qo 41 (.ext 0 (.t 35)) <|
  qo 42 (.ext 1 (.t 35)) <|
  eo 7 (.alloc 241 (.arr 6 1 fun _ => (.int .i64 0))) <|
  en (.store 6 (.t 7) (.t 41)) <|
  qo 8 (.mv (.t 42)) <|
  .nil)
  (.prune [8, 0, 6] (.seq (.ops <|
  qo 43 (.mv (.t 8)) <|
  .nil)
  (.cond (.t 43)
  (.ops <|
  qo 44 (.mv (.t 0)) <|
  qo 45 (.bld (.agg [(.agg [(.int .i64 0), (.int .i64 0)])]) []) <|
  qo 46 (.mkif 214 (.t 45)) <|
  .prune [44, 46, 6] <|
  qo 47 (.nck (.t 44)) <|
  qo 48 (.fa 1 2 (.t 47)) <|
  en (.store 1 (.t 48) (.t 46)) <|
  .nil)
  .skip))))
  (.prune [6] (.seq (.ops <|
  qo 49 (.mv (.t 6)) <|
  qo 6 (.mv (.t 49)) <|
  .nil)
  .ret)))))))))
theorem c132 : fnIs Try.prog qall 132 = some (j132.flat, [.tmp 6], 50) := by kernel_rfl
theorem w132 : j132.wf 50 = true := by kernel_rfl
def Grw (f : FuncId) (a : List SV) (m : List Res) : Sx.Call := (FH.rd 156 (.two dPr dClk) (.one .bool) (fun _ => True) (fun y => seenB y.1 y.2.1) <|
  FH.rd 205 (.two dOne dClk) (.one .bool) (fun _ => True) (fun y => seenB y.1 y.2.1) <|
  FH.rd 208 (.two dClk dClk) (.one .bool) (fun _ => True) (fun y => withB y.1 y.2.1) <|
  FH.rd 204 (.three dOne dPr dClk) (.one dRd) (fun y => 0 ≤ y.2.1.a ∧ y.2.1.a < 6 ∧ 0 ≤ y.1.a ∧ y.1.a < 6) (fun y => alsoO y.1 y.2.1 y.2.2.1) <|
  FH.rd 207 (.three dClk dPr dClk) (.one dRd) (fun y => 0 ≤ y.2.1.a ∧ y.2.1.a < 6) (fun y => .inr (setC y.1 y.2.1.a y.2.1.b)) FH.none) f a m
theorem Grw_eq (f : FuncId) (a : List SV) (m : List Res) : Grw f a m = (FH.rd 156 (.two dPr dClk) (.one .bool) (fun _ => True) (fun y => seenB y.1 y.2.1) <|
  FH.rd 205 (.two dOne dClk) (.one .bool) (fun _ => True) (fun y => seenB y.1 y.2.1) <|
  FH.rd 208 (.two dClk dClk) (.one .bool) (fun _ => True) (fun y => withB y.1 y.2.1) <|
  FH.rd 204 (.three dOne dPr dClk) (.one dRd) (fun y => 0 ≤ y.2.1.a ∧ y.2.1.a < 6 ∧ 0 ≤ y.1.a ∧ y.1.a < 6) (fun y => alsoO y.1 y.2.1 y.2.2.1) <|
  FH.rd 207 (.three dClk dPr dClk) (.one dRd) (fun y => 0 ≤ y.2.1.a ∧ y.2.1.a < 6) (fun y => .inr (setC y.1 y.2.1.a y.2.1.b)) FH.none) f a m := nr rfl
theorem Grw_ok : FHOK Try.prog Grw := FH.rd_ok (by kernel_rfl) (fun y _ => f_Seen y.1 y.2.1) <| FH.rd_ok (by kernel_rfl) (fun y _ => f_oneKnown y.1 y.2.1) <| FH.rd_ok (by kernel_rfl) (fun y _ => f_manyKnown y.1 y.2.1) <|
  FH.rd_ok (by kernel_rfl) (fun y h => f_oneAlso y.1 y.2.1 y.2.2.1 h.1 h.2.1 h.2.2.1 h.2.2.2) <| FH.rd_ok (by kernel_rfl) (fun y h => f_manyAlso y.1 y.2.2.1 y.2.1 h.1 h.2) FH.none_ok
theorem f_reads (s : Cl) (e : Pr) (c : Clk) (hs : okC s) (h1 : 0 ≤ e.a) (h2 : e.a < 6) :
    FnOK Try.prog 131 [.ptr 0 [] 0, dPr.emb e, dClk.emb c] [.blk 177 (dCl.emb s)] (.int .i64 (rdK s e c)) [.blk 177 (dCl.emb (rdS s e c))] := by
  refine fn_walkF c131 w131 Grw_ok rfl ?_
  unfold j131
  obtain ⟨w, r, sl⟩ := s
  obtain ⟨hs1, hs2, hs3⟩ := hs
  simp only at hs1 hs2 hs3
  have hw : IntKind.i64.wrap (sl + 1) = sl + 1 := IntWalk.i64_in _ (by omega)
  cases r with
  | inl p =>
    simp only at hs3
    obtain ⟨h3, h4⟩ := hs3
    unfold rdS rdK
    simp only
    by_cases hq : p.a = e.a ∧ p.b = e.b
    · have hd : (decide (p.a = e.a) && decide (p.b = e.b)) = true := by simpa using hq
      rw [if_pos hq, if_pos hq]
      simp only [go_sem, ↓reduceIte, Nat.reduceAdd, Nat.reduceMul, Nat.reduceSub, Nat.reduceLT, Nat.reduceLeDiff, Nat.reduceEqDiff, Int.reduceToNat, Int.reduceEq, Int.reduceLT, Int.reduceLE, reduceCtorEq, Grw_eq, tszC, tszE, tszM, hd]
    · have hd : (decide (p.a = e.a) && decide (p.b = e.b)) = false := by simpa using hq
      rw [if_neg hq, if_neg hq]
      by_cases hp : seenB p c = true
      · rw [if_pos hp]
        have hal : alsoO p e c = .inl e := if_pos hp
        simp only [go_sem, ↓reduceIte, Nat.reduceAdd, Nat.reduceMul, Nat.reduceSub, Nat.reduceLT, Nat.reduceLeDiff, Nat.reduceEqDiff, Int.reduceToNat, Int.reduceEq, Int.reduceLT, Int.reduceLE, reduceCtorEq, Grw_eq, tszC, tszE, tszM, hd, hp, hal, h1, h2, h3, h4]
        exact ⟨fun h => by rw [if_neg (by rw [h]; simp)], fun h => by rw [if_pos h]⟩
      · rw [if_neg hp]
        have hal : alsoO p e c = .inr (setC (setC (fun _ => 0) p.a p.b) e.a e.b) := if_neg hp
        simp only [go_sem, ↓reduceIte, Nat.reduceAdd, Nat.reduceMul, Nat.reduceSub, Nat.reduceLT, Nat.reduceLeDiff, Nat.reduceEqDiff, Int.reduceToNat, Int.reduceEq, Int.reduceLT, Int.reduceLE, reduceCtorEq, Grw_eq, tszC, tszE, tszM, hd, hal, h1, h2, h3, h4, hw]
        exact ⟨fun h => by rw [if_neg (by rw [h]; simp)], fun h => by rw [if_pos h]⟩
  | inr d =>
    unfold rdS rdK
    simp only
    simp only [go_sem, ↓reduceIte, Nat.reduceAdd, Nat.reduceMul, Nat.reduceSub, Nat.reduceLT, Nat.reduceLeDiff, Nat.reduceEqDiff, Int.reduceToNat, Int.reduceEq, Int.reduceLT, Int.reduceLE, reduceCtorEq, Grw_eq, tszC, tszE, tszM, h1, h2]
    exact ⟨fun h => by rw [if_neg (by rw [h]; simp)], fun h => by rw [if_pos h]⟩
theorem f_writes (s : Cl) (e : Pr) (c : Clk) :
    FnOK Try.prog 132 [.ptr 0 [] 0, dPr.emb e, dClk.emb c] [.blk 177 (dCl.emb s)] (.int .i64 (wrK s e c)) [.blk 177 (dCl.emb (wrS s e))] := by
  refine fn_walkF c132 w132 Grw_ok rfl ?_
  unfold j132
  obtain ⟨w, r, sl⟩ := s
  unfold wrS wrK
  simp only
  by_cases hq : w.a = e.a ∧ w.b = e.b
  · have hd : (decide (w.a = e.a) && decide (w.b = e.b)) = true := by simpa using hq
    rw [if_pos hq, if_pos hq]
    cases r with
    | inl p =>
      simp only [go_sem, ↓reduceIte, Nat.reduceAdd, Nat.reduceMul, Nat.reduceSub, Nat.reduceLT, Nat.reduceLeDiff, Nat.reduceEqDiff, Int.reduceToNat, Int.reduceEq, Int.reduceLT, Int.reduceLE, reduceCtorEq, Grw_eq, tszC, tszE, tszM, hd]
    | inr d =>
      simp only [go_sem, ↓reduceIte, Nat.reduceAdd, Nat.reduceMul, Nat.reduceSub, Nat.reduceLT, Nat.reduceLeDiff, Nat.reduceEqDiff, Int.reduceToNat, Int.reduceEq, Int.reduceLT, Int.reduceLE, reduceCtorEq, Grw_eq, tszC, tszE, tszM, hd]
  · have hd : (decide (w.a = e.a) && decide (w.b = e.b)) = false := by simpa using hq
    rw [if_neg hq, if_neg hq]
    unfold knownB
    cases r with
    | inl p =>
      simp only
      simp only [go_sem, ↓reduceIte, Nat.reduceAdd, Nat.reduceMul, Nat.reduceSub, Nat.reduceLT, Nat.reduceLeDiff, Nat.reduceEqDiff, Int.reduceToNat, Int.reduceEq, Int.reduceLT, Int.reduceLE, reduceCtorEq, Grw_eq, tszC, tszE, tszM, hd]
      exact ⟨fun h => by rw [if_pos h], fun h => ⟨fun h2 => by rw [if_neg (by rw [h]; simp), if_pos h2], fun h2 => by rw [if_neg (by rw [h]; simp), if_neg (by rw [h2]; simp)]⟩⟩
    | inr d =>
      simp only
      simp only [go_sem, ↓reduceIte, Nat.reduceAdd, Nat.reduceMul, Nat.reduceSub, Nat.reduceLT, Nat.reduceLeDiff, Nat.reduceEqDiff, Int.reduceToNat, Int.reduceEq, Int.reduceLT, Int.reduceLE, reduceCtorEq, Grw_eq, tszC, tszE, tszM, hd]
      exact ⟨fun h => by rw [if_pos h], fun h => ⟨fun h2 => by rw [if_neg (by rw [h]; simp), if_pos h2], fun h2 => by rw [if_neg (by rw [h]; simp), if_neg (by rw [h2]; simp)]⟩⟩

def j97 : JC :=
  (.seq (.ops <|
  eo 4 (.box 35 (.t 1)) <|
  eo 5 (.box 166 (.t 2)) <|
  qo 6 (.mv (I 0)) <|
  .nil)
  (.seq (.ops <|
  eo 10 (.load 6 true (.t 5)) <|
  qo 11 (.fa 1 1 (.t 4)) <|
  eo 12 (.load 1 false (.t 11)) <|
  eo 13 (.call 130 [(.t 10), (.t 12)]) <|
  .prune [13, 4, 0, 5] <|
  qo 9 (.mv (.t 13)) <|
  qo 14 (.ext 0 (.t 9)) <|
  qo 15 (.ext 1 (.t 9)) <|
  eo 7 (.alloc 173 (.agg [(.int .i64 0), (.int .i64 0)])) <|
  en (.store 2 (.t 7) (.t 14)) <|
  qo 8 (.mv (.t 15)) <|
  .nil)
  (.prune [4, 0, 7, 5] (.seq (.seq (.ops <|
  qo 16 (.fa 0 0 (.t 4)) <|
  eo 17 (.load 1 false (.t 16)) <|
  qo 18 (.cmp .eql (.t 17) (I 1)) <|
  .nil)
  (.cond (.t 18)
  (.seq (.ops <|
  .prune [0, 7, 5] <|
  qo 19 (.mv (.t 0)) <|
  eo 20 (.load 2 true (.t 7)) <|
  eo 21 (.load 6 true (.t 5)) <|
  eo 22 (.call 131 [(.t 19), (.t 20), (.t 21)]) <|
  qo 6 (.mv (.t 22)) <|
  .nil)
  .ret)
  .skip))
  (.prune [0, 7, 5] (.seq (.ops <|
  qo 23 (.mv (.t 0)) <|
  eo 24 (.load 2 true (.t 7)) <|
  eo 25 (.load 6 true (.t 5)) <|
  eo 26 (.call 132 [(.t 23), (.t 24), (.t 25)]) <|
  qo 6 (.mv (.t 26)) <|
  .nil)
  .ret))))))
theorem c97 : fnIs Try.prog qall 97 = some (j97.flat, [.tmp 6], 27) := by kernel_rfl
theorem w97 : j97.wf 27 = true := by kernel_rfl

def j94 : JC :=
  (.seq (.ops <|
  qo 0 (.mv (.c .nilp)) <|
  .nil)
  (.seq (.ops <|
  qo 1 (.bld (.agg [(.agg [(.int .i64 0), (.int .i64 0)])]) []) <|
  qo 2 (.mkif 214 (.t 1)) <|
  qo 3 (.bld (.agg [(.agg [(.int .i64 0), (.int .i64 0)]), .nili, (.int .i64 0)]) [([.fld 1], 2, 1, (.t 2))]) <|
  eo 4 (.box 177 (.t 3)) <|
  qo 0 (.mv (.t 4)) <|
  .nil)
  .ret))
theorem c94 : fnIs Try.prog qall 94 = some (j94.flat, [.tmp 0], 5) := by kernel_rfl
theorem w94 : j94.wf 5 = true := by kernel_rfl
def epN (c : Clk) (t : Int) : Pr := ⟨t, c t.toNat⟩
def accS (s : Cl) (e : Ev) (c : Clk) : Cl := if e.kind = 1 then rdS s (epN c e.thr) c else wrS s (epN c e.thr)
def accK (s : Cl) (e : Ev) (c : Clk) : Int := if e.kind = 1 then rdK s (epN c e.thr) c else wrK s (epN c e.thr) c
def Gac (f : FuncId) (a : List SV) (m : List Res) : Sx.Call := (FH.rd 130 (.two dClk .int) (.two dPr .int) (fun _ => True) (fun y => ofF y.1 y.2.1) <|
  FH.mt 131 177 dCl (.two dPr dClk) (.one .int) (fun s y => okC s ∧ 0 ≤ y.1.a ∧ y.1.a < 6) (fun s y => rdK s y.1 y.2.1) (fun s y => rdS s y.1 y.2.1) <|
  FH.mt 132 177 dCl (.two dPr dClk) (.one .int) (fun _ _ => True) (fun s y => wrK s y.1 y.2.1) (fun s y => wrS s y.1) FH.none) f a m
theorem Gac_eq (f : FuncId) (a : List SV) (m : List Res) : Gac f a m = (FH.rd 130 (.two dClk .int) (.two dPr .int) (fun _ => True) (fun y => ofF y.1 y.2.1) <|
  FH.mt 131 177 dCl (.two dPr dClk) (.one .int) (fun s y => okC s ∧ 0 ≤ y.1.a ∧ y.1.a < 6) (fun s y => rdK s y.1 y.2.1) (fun s y => rdS s y.1 y.2.1) <|
  FH.mt 132 177 dCl (.two dPr dClk) (.one .int) (fun _ _ => True) (fun s y => wrK s y.1 y.2.1) (fun s y => wrS s y.1) FH.none) f a m := nr rfl
theorem Gac_ok : FHOK Try.prog Gac := FH.rd_ok (by kernel_rfl) (fun y _ => f_Of y.1 y.2.1) <|
  FH.mt_ok (by kernel_rfl) (fun s y h => f_reads s y.1 y.2.1 h.1 h.2.1 h.2.2) <| FH.mt_ok (by kernel_rfl) (fun s y _ => f_writes s y.1 y.2.1) FH.none_ok
theorem f_Access (s : Cl) (e : Ev) (c : Clk) (hs : okC s) (h1 : 0 ≤ e.thr) (h2 : e.thr < 6) :
    FnOK Try.prog 97 [.ptr 0 [] 0, dEv.emb e, dClk.emb c] [.blk 177 (dCl.emb s)] (.int .i64 (accK s e c)) [.blk 177 (dCl.emb (accS s e c))] := by
  refine fn_walkF c97 w97 Gac_ok rfl ?_
  unfold j97
  have ho : ofF c e.thr = (epN c e.thr, 0) := by unfold ofF; rw [if_pos ((isThr_iff _).2 ⟨h1, h2⟩)]; rfl
  have ha : (epN c e.thr).a = e.thr := rfl
  have hb : (epN c e.thr).b = c e.thr.toNat := rfl
  unfold accS accK
  by_cases hk : e.kind = 1
  · rw [if_pos hk, if_pos hk]
    simp only [go_sem, ↓reduceIte, Nat.reduceAdd, Nat.reduceMul, Nat.reduceSub, Nat.reduceLT, Nat.reduceLeDiff, Nat.reduceEqDiff, Int.reduceToNat, Int.reduceEq, Int.reduceLT, Int.reduceLE, reduceCtorEq, Gac_eq, tszC, tszE, tszM, ho, hk, hs, h1, h2, ha]
    exact ⟨rfl, rfl⟩
  · rw [if_neg hk, if_neg hk]
    simp only [go_sem, ↓reduceIte, Nat.reduceAdd, Nat.reduceMul, Nat.reduceSub, Nat.reduceLT, Nat.reduceLeDiff, Nat.reduceEqDiff, Int.reduceToNat, Int.reduceEq, Int.reduceLT, Int.reduceLE, reduceCtorEq, Gac_eq, tszC, tszE, tszM, ho, hk]
def cl0 : Cl := ⟨⟨0, 0⟩, .inl ⟨0, 0⟩, 0⟩
theorem f_NewCell : FnOK Try.prog 94 [] [] (.ptr 0 [] 0) [.blk 177 (dCl.emb cl0)] := by
  refine fn_walkF c94 w94 FH.none_ok rfl ?_
  unfold j94
  simp only [go_sem, ↓reduceIte, Nat.reduceAdd, Nat.reduceMul, Nat.reduceSub, Nat.reduceLT, Nat.reduceLeDiff, Nat.reduceEqDiff, Int.reduceToNat, Int.reduceEq, Int.reduceLT, Int.reduceLE, reduceCtorEq, tszC, tszE, tszM]
  rfl
end Go.Proofs.Ytgcbhanfhnianaa.Fa
end
section
set_option linter.unusedSimpArgs false
set_option linter.unusedVariables false
set_option maxRecDepth 100000
open Go Go.Sx Go.Proofs
namespace Go.Proofs.Ytgcbhanfhnianaa.Fa
open Go.Proofs.Ytgcbhanfhnianaa.D Go.Proofs.Ytgcbhanfhnianaa.Tr Go.Proofs.Ytgcbhanfhnianaa.C Go.Proofs.Ytgcbhanfhnianaa.Fu
def j52_1 : JC :=
  (.seq (.ops <|
  qo 26 (.cmp .lss (.t 25) (I 8)) <|
  .nil)
  (.seq (.cond (.t 26)
  .skip
  (.exit 0))
  (.seq (.block 1 (.seq (.ops <|
  qo 27 (.mv (.t 25)) <|
  qo 8 (.mv (.t 27)) <|
  .nil)
  (.ops <|
  qo 28 (.mv (.t 8)) <|
  .prune [7, 28, 25, 0] <|
  eo 29 (.call 94 []) <|
  qo 30 (.ia 8 1 (.t 7) (.t 28)) <|
  en (.store 1 (.t 30) (.t 29)) <|
  .nil)))
  (.prune [25, 7, 0] (.ops <|
  qo 31 (.ar .add (.t 25) (I 1)) <|
  qo 25 (.mv (.t 31)) <|
  .nil)))))
def j52_2 : JC :=
  (.seq (.ops <|
  qo 36 (.cmp .lss (.t 35) (.t 34)) <|
  .nil)
  (.seq (.cond (.t 36)
  .skip
  (.exit 2))
  (.seq (.block 3 (.seq (.ops <|
  qo 37 (.mv (.t 35)) <|
  qo 38 (.is 3 (.t 33) (.t 35)) <|
  eo 39 (.load 3 true (.t 38)) <|
  eo 12 (.alloc 35 (.agg [(.int .i64 0), (.int .i64 0), (.int .i64 0)])) <|
  qo 11 (.mv (.t 37)) <|
  en (.store 3 (.t 12) (.t 39)) <|
  .nil)
  (.prune [12, 10, 35, 34, 33, 7, 9, 11] (.seq (.ops <|
  qo 40 (.fa 0 0 (.t 12)) <|
  eo 41 (.load 1 false (.t 40)) <|
  qo 42 (.cmp .neq (.t 41) (I 1)) <|
  qo 43 (.mv (.t 42)) <|
  .prune [43, 12, 10, 35, 34, 33, 7, 9, 11] <|
  .sc false 47 43 (qo 44 (.fa 0 0 (.t 12)) <|
  eo 45 (.load 1 false (.t 44)) <|
  qo 46 (.cmp .neq (.t 45) (I 2)) <|
  .nil) (.t 46) <|
  .nil)
  (.prune [47, 10, 12, 35, 34, 33, 7, 9, 11] (.cond (.t 47)
  (.ops <|
  qo 48 (.mv (.t 10)) <|
  eo 49 (.load 3 true (.t 12)) <|
  eo 50 (.call 96 [(.t 48), (.t 49)]) <|
  .nil)
  (.seq (.dops <|
  qo 51 (.fa 2 2 (.t 12)) <|
  eo 52 (.load 1 false (.t 51)) <|
  qo 53 (.ia 8 1 (.t 7) (.t 52)) <|
  .prune [53, 12, 10, 9, 11, 35, 34, 33, 7] <|
  eo 54 (.load 1 false (.t 53)) <|
  eo 55 (.load 3 true (.t 12)) <|
  qo 56 (.mv (.t 10)) <|
  qo 57 (.fa 1 1 (.t 12)) <|
  eo 58 (.load 1 false (.t 57)) <|
  qo 59 (.nck (.t 56)) <|
  .prune [59, 58, 54, 55, 9, 11, 12, 35, 34, 33, 10, 7] <|
  qo 60 (.fa 0 0 (.t 59)) <|
  qo 61 (.ia 6 6 (.t 60) (.t 58)) <|
  .prune [61, 54, 55, 9, 11, 12, 35, 34, 33, 10, 7] <|
  eo 62 (.load 6 true (.t 61)) <|
  eo 63 (.call 97 [(.t 54), (.t 55), (.t 62)]) <|
  qo 13 (.mv (.t 63)) <|
  .nil)
  (.prune [13, 9, 11, 12, 35, 34, 33, 10, 7] (.seq (.ops <|
  qo 64 (.mv (.t 13)) <|
  qo 65 (.cmp .neq (.t 64) (I 0)) <|
  .nil)
  (.prune [65, 9, 11, 12, 13, 35, 34, 33, 10, 7] (.cond (.t 65)
  (.ops <|
  qo 66 (.mv (.t 9)) <|
  qo 67 (.mv (.t 11)) <|
  .prune [12, 13, 67, 66, 35, 34, 33, 10, 7] <|
  qo 68 (.fa 2 2 (.t 12)) <|
  eo 69 (.load 1 false (.t 68)) <|
  qo 70 (.mv (.t 13)) <|
  .prune [67, 69, 70, 66, 35, 34, 33, 10, 7] <|
  qo 71 (.bld (.agg [(.int .i64 0), (.int .i64 0), (.int .i64 0)]) [([.fld 0], 0, 1, (.t 67)), ([.fld 1], 1, 1, (.t 69)), ([.fld 2], 2, 1, (.t 70))]) <|
  .prune [71, 66, 35, 34, 33, 10, 7] <|
  eo 72 (.bsl 47 3 1 (.agg [(.int .i64 0), (.int .i64 0), (.int .i64 0)]) [(0, (.t 71))]) <|
  eo 73 (.app 47 3 24 (.t 66) (.t 72)) <|
  qo 9 (.mv (.t 73)) <|
  .nil)
  .skip)))))))))))
  (.prune [35, 34, 33, 10, 7, 9] (.ops <|
  qo 74 (.ar .add (.t 35) (I 1)) <|
  qo 35 (.mv (.t 74)) <|
  .nil)))))
def j52_3 : JC :=
  (.seq (.ops <|
  qo 77 (.cmp .lss (.t 76) (I 8)) <|
  .nil)
  (.seq (.cond (.t 77)
  .skip
  (.exit 4))
  (.seq (.block 5 (.seq (.ops <|
  qo 78 (.ix 8 1 false (.t 75) (.t 76)) <|
  qo 16 (.mv (.t 78)) <|
  .nil)
  (.ops <|
  qo 79 (.mv (.t 14)) <|
  .prune [16, 79, 76, 75, 9] <|
  qo 80 (.mv (.t 16)) <|
  qo 81 (.nck (.t 80)) <|
  qo 82 (.fa 2 3 (.t 81)) <|
  .prune [82, 79, 76, 75, 9] <|
  eo 83 (.load 1 false (.t 82)) <|
  qo 84 (.ar .add (.t 79) (.t 83)) <|
  qo 14 (.mv (.t 84)) <|
  .nil)))
  (.prune [76, 75, 14, 9] (.ops <|
  qo 85 (.ar .add (.t 76) (I 1)) <|
  qo 76 (.mv (.t 85)) <|
  .nil)))))
def j52_4 : JC :=
  (.prune [9, 14] (.seq (.ops <|
  qo 86 (.mv (.t 9)) <|
  qo 87 (.mv (.t 14)) <|
  qo 2 (.mv (.t 86)) <|
  qo 3 (.mv (.t 87)) <|
  qo 4 (.mv (I 0)) <|
  .nil)
  (.vecs 2 47 3 .ret)))
def j52_5 : JC :=
  (.prune [7, 9] (.seq (.ops <|
  qo 14 (.mv (I 0)) <|
  .nil)
  (.seq (.seq (.ops <|
  eo 75 (.load 8 true (.t 7)) <|
  qo 76 (.mv (I 0)) <|
  .nil)
  (.block 4 (.loop [75, 9] [76, 14] j52_3)))
  j52_4)))
def j52_6 : JC :=
  (.prune [0, 7] (.seq (.ops <|
  qo 9 (.mv (.c .nils)) <|
  .nil)
  (.seq (.ops <|
  eo 32 (.call 95 []) <|
  qo 10 (.mv (.t 32)) <|
  .nil)
  (.seq (.seq (.ops <|
  qo 33 (.mv (.t 0)) <|
  qo 34 (.len (.t 33)) <|
  qo 35 (.mv (I 0)) <|
  .nil)
  (.block 2 (.vecs 9 47 3 (.loop [34, 33, 10, 7] [35, 9] j52_2))))
  j52_5))))
def j52 : JC :=
  (.seq (.ops <|
  qo 2 (.mv (.c .nils)) <|
  qo 3 (.mv (I 0)) <|
  qo 4 (.mv (I 0)) <|
  .nil)
  (.seq (.seq (.ops <|
  qo 18 (.mv (.t 0)) <|
  eo 19 (.call 59 [(.t 18)]) <|
  qo 17 (.mv (.t 19)) <|
  qo 20 (.ext 0 (.t 17)) <|
  .prune [17, 20, 0] <|
  qo 21 (.ext 1 (.t 17)) <|
  qo 5 (.mv (.t 20)) <|
  qo 6 (.mv (.t 21)) <|
  .nil)
  (.prune [6, 0] (.seq (.ops <|
  qo 22 (.mv (.t 6)) <|
  qo 23 (.cmp .neq (.t 22) (I 0)) <|
  .nil)
  (.cond (.t 23)
  (.seq (.ops <|
  qo 24 (.mv (.t 6)) <|
  qo 2 (.mv (.c .nils)) <|
  qo 3 (.mv (I 0)) <|
  qo 4 (.mv (.t 24)) <|
  .nil)
  (.vecs 2 47 3 .ret))
  .skip))))
  (.prune [0] (.seq (.ops <|
  eo 7 (.alloc 160 (.arr 8 1 fun _ => .nilp)) <|
  .nil)
  (.seq (.seq (.ops <|
  qo 25 (.mv (I 0)) <|
  .nil)
  (.block 0 (.loop [7, 0] [25] j52_1)))
  j52_6)))))
theorem c52 : fnIs Try.prog (qbut [97]) 52 = some (j52.flat, [.tmp 2, .tmp 3, .tmp 4], 88) := by kernel_rfl
theorem w52 : j52.wf 88 = true := by kernel_rfl
def runX (l : List Ev) : Nat → Nat → Cl
  | 0, _ => cl0
  | i + 1, x => if isAcc (l.getD i dEv.dft) = true then (if x = (l.getD i dEv.dft).obj.toNat then accS (runX l i x) (l.getD i dEv.dft) ((runK l i).thr (l.getD i dEv.dft).thr.toNat) else runX l i x) else runX l i x
def flagX (l : List Ev) (i : Nat) : Int := if isAcc (l.getD i dEv.dft) = true then accK (runX l i (l.getD i dEv.dft).obj.toNat) (l.getD i dEv.dft) ((runK l i).thr (l.getD i dEv.dft).thr.toNat) else 0
def runXL (l : List Ev) : Nat → List Fl
  | 0 => []
  | i + 1 => runXL l i ++ if flagX l i = 0 then [] else [⟨i, (l.getD i dEv.dft).obj, flagX l i⟩]
theorem runXL_len {l : List Ev} : ∀ i, (runXL l i).length ≤ i
  | 0 => Nat.le_refl _
  | i + 1 => by
    have := runXL_len (l := l) i
    rw [runXL, List.length_append]
    split <;> simp <;> omega
theorem acc_ok {s : Cl} {e : Ev} {c : Clk} {n : Int} (hs : okC s) (hn : s.slow ≤ n) (hn2 : n < 1000) (h1 : 0 ≤ e.thr) (h2 : e.thr < 6) : okC (accS s e c) ∧ (accS s e c).slow ≤ n + 1 := by
  obtain ⟨w, r, sl⟩ := s
  obtain ⟨a1, a2, a3⟩ := hs
  simp only at a1 a2 a3 hn
  unfold accS
  split
  · unfold rdS
    cases r with
    | inl p =>
      simp only
      split
      · exact ⟨⟨a1, a2, a3⟩, by simp only; omega⟩
      · split
        · exact ⟨⟨a1, a2, ⟨h1, h2⟩⟩, by simp only; omega⟩
        · exact ⟨⟨by simp only; omega, by simp only; omega, trivial⟩, by simp only; omega⟩
    | inr d => exact ⟨⟨a1, a2, trivial⟩, by simp only; omega⟩
  · unfold wrS
    split
    · exact ⟨⟨a1, a2, a3⟩, by simp only; omega⟩
    · cases r with
      | inl p => exact ⟨⟨a1, a2, a3⟩, by simp only; omega⟩
      | inr d => exact ⟨⟨a1, a2, by simp⟩, by simp only; omega⟩
theorem runX_ok {l : List Ev} (hok : (checkR l).2 = 0) : ∀ i, i ≤ l.length → ∀ x, okC (runX l i x) ∧ (runX l i x).slow ≤ i
  | 0, _, x => ⟨⟨Int.le_refl _, by show (0 : Int) ≤ 1000; omega, by show (0 : Int) ≤ 0 ∧ (0 : Int) < 6; omega⟩, Int.le_refl _⟩
  | i + 1, h, x => by
    obtain ⟨h1, h2⟩ := runX_ok hok i (by omega) x
    obtain ⟨b1, b2, b3, b4⟩ := (isEv_iff _).1 (ok_isEv hok i (by omega))
    have hl := ok_len hok
    unfold runX
    split
    · split
      · have := acc_ok (c := (runK l i).thr (l.getD i dEv.dft).thr.toNat) h1 h2 (by omega) b1 b2
        exact ⟨this.1, by have := this.2; omega⟩
      · exact ⟨h1, by omega⟩
    · exact ⟨h1, by omega⟩
def pf (n : Nat) : Nat → SV := fun i => if i < n then .ptr (i + 1) [] 0 else .nilp
theorem pf_zero : (fun _ : Nat => SV.nilp) = pf 0 := by funext i; simp [pf]
theorem pf_upd (n : Nat) : updS (pf n) n (.ptr (n + 1) [] 0) = pf (n + 1) := by
  funext k
  unfold updS pf
  by_cases h : k = n
  · subst h; simp
  · rw [if_neg h]
    by_cases h2 : k < n
    · rw [if_pos h2, if_pos (by omega)]
    · rw [if_neg h2, if_neg (by omega)]
theorem pf_at {n i : Nat} (h : i < n) : pf n i = .ptr (i + 1) [] 0 := by simp [pf, h]
theorem pf_ren (n N : Nat) (h : n + 1 ≤ N) : ren (ltI N) (.arr 8 1 (pf n)) = .arr 8 1 (pf n) := by
  simp only [Sx.ren]
  congr 1
  funext i
  unfold pf
  split
  · simp only [Sx.ren, renI, ltI]
    rw [if_pos (by omega)]
  · rfl
theorem cl_emb (s : Cl) : dCl.emb s = .agg [dPr.emb s.wr, dRd.emb s.rd, .int .i64 s.slow] := nr rfl
theorem wd_rd (r : Pr ⊕ Clk) : wd (dRd.emb r) = 1 := by cases r <;> rfl
@[reducible] def cb (s : Cl) : Res := .blk 177 (dCl.emb s)
def reps : Nat → List Res
  | 0 => []
  | 1 => [cb cl0]
  | 2 => [cb cl0, cb cl0]
  | 3 => [cb cl0, cb cl0, cb cl0]
  | 4 => [cb cl0, cb cl0, cb cl0, cb cl0]
  | 5 => [cb cl0, cb cl0, cb cl0, cb cl0, cb cl0]
  | 6 => [cb cl0, cb cl0, cb cl0, cb cl0, cb cl0, cb cl0]
  | 7 => [cb cl0, cb cl0, cb cl0, cb cl0, cb cl0, cb cl0, cb cl0]
  | 8 => [cb cl0, cb cl0, cb cl0, cb cl0, cb cl0, cb cl0, cb cl0, cb cl0]
  | _ => []
theorem reps_0 : reps 0 = [] := rfl
theorem reps_1 : reps 1 = [cb cl0] := rfl
theorem reps_2 : reps 2 = [cb cl0, cb cl0] := rfl
theorem reps_3 : reps 3 = [cb cl0, cb cl0, cb cl0] := rfl
theorem reps_4 : reps 4 = [cb cl0, cb cl0, cb cl0, cb cl0] := rfl
theorem reps_5 : reps 5 = [cb cl0, cb cl0, cb cl0, cb cl0, cb cl0] := rfl
theorem reps_6 : reps 6 = [cb cl0, cb cl0, cb cl0, cb cl0, cb cl0, cb cl0] := rfl
theorem reps_7 : reps 7 = [cb cl0, cb cl0, cb cl0, cb cl0, cb cl0, cb cl0, cb cl0] := rfl
theorem reps_8 : reps 8 = [cb cl0, cb cl0, cb cl0, cb cl0, cb cl0, cb cl0, cb cl0, cb cl0] := rfl
theorem wd_pf (n i : Nat) : wd (pf n i) = 1 := by
  unfold pf; split <;> rfl
theorem agg_pf (n i : Nat) : (pf n i).isAgg = false := by
  unfold pf; split <;> rfl
theorem pf_fun (n N : Nat) (h : n + 1 ≤ N) : (fun k => ren (ltI N) (pf n k)) = pf n := by
  have := pf_ren n N h
  simp only [Sx.ren] at this
  injection this
theorem pf_kill : (fun k => ren (ltI 11) (kill 10 (pf 8 k))) = pf 8 := by
  funext k
  unfold pf
  split
  · simp only [Sx.kill, Sx.ren, renI, ltI]
    rw [if_pos (by omega)]
  · rfl
theorem reps_len {x : Nat} (h : x ≤ 8) : (reps x).length = x ∧ ∀ y ∈ reps x, y = cb cl0 := by
  have hxs : x = 0 ∨ x = 1 ∨ x = 2 ∨ x = 3 ∨ x = 4 ∨ x = 5 ∨ x = 6 ∨ x = 7 ∨ x = 8 := by omega
  rcases hxs with rfl | rfl | rfl | rfl | rfl | rfl | rfl | rfl | rfl <;> exact ⟨rfl, by simp [reps]⟩
theorem fin_reps {x : Nat} (h : x ≤ 8) : Res.blk 160 (.arr 8 1 fun k => ren (ltI ((reps x).length + 1)) (pf x k)) :: List.map (renR (ltI ((reps x).length + 1))) (List.take (reps x).length (reps x)) = Res.blk 160 (.arr 8 1 (pf x)) :: reps x := by
  obtain ⟨h1, h2⟩ := reps_len h
  rw [pf_fun x _ (by omega), List.take_length]
  congr 1
  conv => rhs; rw [← List.map_id (reps x)]
  apply List.map_congr_left
  intro y hy
  rw [h2 y hy]
  simp only [cb, renR, dCl.ren, id]
theorem plR_cell (s : Cl) : PlR (.blk 177 (dCl.emb s)) := fun r => by
  obtain ⟨w, q, sl⟩ := s
  rw [show renR r (.blk 177 (dCl.emb ⟨w, q, sl⟩)) = .blk 177 (dCl.emb ⟨w, q, sl⟩) by simp only [renR, dCl.ren]]
  show NoH _
  cases q with
  | inl p =>
    rw [cl_one]
    exact noH_agg (by intro x hx; simp only [List.mem_cons, List.not_mem_nil, or_false] at hx; rcases hx with rfl | rfl | rfl <;> first | exact noH_int _ _ | exact noH_agg (by intro x hx; simp only [List.mem_cons, List.not_mem_nil, or_false] at hx; rcases hx with rfl | rfl <;> exact noH_int _ _) | exact noH_iface (noH_agg (by intro x hx; simp only [List.mem_cons, List.not_mem_nil, or_false] at hx; subst hx; exact noH_agg (by intro x hx; simp only [List.mem_cons, List.not_mem_nil, or_false] at hx; rcases hx with rfl | rfl <;> exact noH_int _ _))))
  | inr d =>
    rw [cl_many]
    exact noH_agg (by intro x hx; simp only [List.mem_cons, List.not_mem_nil, or_false] at hx; rcases hx with rfl | rfl | rfl <;> first | exact noH_int _ _ | exact noH_agg (by intro x hx; simp only [List.mem_cons, List.not_mem_nil, or_false] at hx; rcases hx with rfl | rfl <;> exact noH_int _ _) | exact noH_iface (noH_arr fun _ _ => noH_int _ _))
def Gfr (f : FuncId) (a : List SV) (m : List Res) : Sx.Call := (FH.rd 59 (.one dEs) (.two .int .int) (fun _ => True) (fun y => (playedF y.1).2) <|
  FH.mk 94 .nil (fun _ => True) (fun _ => .ptr 0 [] 0) (fun _ => [.blk 177 (dCl.emb cl0)]) <|
  FH.mk 95 .nil (fun _ => True) (fun _ => .ptr 0 [] 0) (fun _ => [.blk 171 (dKp.emb (newK 6))]) <|
  FH.mt 96 171 dKp (.one dEv) DR.unit (fun _ y => isEv y.1 = true) (fun _ _ => ()) (fun k y => syncK k y.1) <|
  FH.mt 97 177 dCl (.two dEv dClk) (.one .int) (fun s y => okC s ∧ 0 ≤ y.1.thr ∧ y.1.thr < 6) (fun s y => accK s y.1 y.2.1) (fun s y => accS s y.1 y.2.1) FH.none) f a m
theorem Gfr_eq (f : FuncId) (a : List SV) (m : List Res) : Gfr f a m = (FH.rd 59 (.one dEs) (.two .int .int) (fun _ => True) (fun y => (playedF y.1).2) <|
  FH.mk 94 .nil (fun _ => True) (fun _ => .ptr 0 [] 0) (fun _ => [.blk 177 (dCl.emb cl0)]) <|
  FH.mk 95 .nil (fun _ => True) (fun _ => .ptr 0 [] 0) (fun _ => [.blk 171 (dKp.emb (newK 6))]) <|
  FH.mt 96 171 dKp (.one dEv) DR.unit (fun _ y => isEv y.1 = true) (fun _ _ => ()) (fun k y => syncK k y.1) <|
  FH.mt 97 177 dCl (.two dEv dClk) (.one .int) (fun s y => okC s ∧ 0 ≤ y.1.thr ∧ y.1.thr < 6) (fun s y => accK s y.1 y.2.1) (fun s y => accS s y.1 y.2.1) FH.none) f a m := nr rfl
theorem Gfr_ok : FHOK Try.prog Gfr := FH.rd_ok (by kernel_rfl) (fun y _ => f_Check y.1) <|
  FH.mk_ok (by kernel_rfl) (fun _ _ => plainM (pv_ptr _ _ _) ⟨plR_cell _, trivial⟩) (fun _ _ => f_NewCell) <|
  FH.mk_ok (by kernel_rfl) (fun _ _ => plainM (pv_ptr _ _ _) ⟨plR_blk _ dKp _, trivial⟩) (fun _ _ => f_New) <|
  FH.mt_ok (by kernel_rfl) (fun k y h => f_Sync k y.1 h) <| FH.mt_ok (by kernel_rfl) (fun s y h => f_Access s y.1 y.2.1 h.1 h.2.1 h.2.2) FH.none_ok
def slowTo (f : Nat → Cl) : Nat → Int
  | 0 => 0
  | k + 1 => slowTo f k + (f k).slow
theorem tszP : tsz Try.prog 160 = some (8, true) := by kernel_rfl
theorem f_run (l : List Ev) (hok : (checkR l).2 = 0) : FnOK Try.prog 52 [dEs.emb l] [] (.tup [.vec 0 (runXL l l.length).length, .int .i64 (slowTo (runX l l.length) 8), .int .i64 0]) [.vec 47 3 ((runXL l l.length).map dFl.emb)] := by
  have hl := ok_len hok
  have he : (playedF l).2.2 = 0 := by rw [err_same]; exact hok
  refine fn_walkF c52 w52 Gfr_ok rfl ?_
  unfold j52
  simp only [go_sem, ↓reduceIte, Nat.reduceAdd, Nat.reduceMul, Nat.reduceSub, Nat.reduceLT, Nat.reduceLeDiff, Nat.reduceEqDiff, Int.reduceToNat, Int.reduceEq, Int.reduceLT, Int.reduceLE, reduceCtorEq, Gfr_eq, he, pf_zero]
  refine loopF Nat (fun x => [.int .i64 x]) (fun x => .blk 160 (.arr 8 1 (pf x)) :: reps x) (fun x => x ≤ 8) (fun x => 8 - x) 0 (by omega) ?_ rfl ?_
  · simp only [go_sem, ↓reduceIte, Nat.reduceAdd, Nat.reduceMul, Nat.reduceSub, Nat.reduceLT, Nat.reduceLeDiff, Nat.reduceEqDiff, Int.reduceToNat, Int.reduceEq, Int.reduceLT, Int.reduceLE, reduceCtorEq]
  intro x hx
  by_cases h8 : x < 8
  · have hxs : x = 0 ∨ x = 1 ∨ x = 2 ∨ x = 3 ∨ x = 4 ∨ x = 5 ∨ x = 6 ∨ x = 7 := by omega
    rcases hxs with rfl | rfl | rfl | rfl | rfl | rfl | rfl | rfl
    · unfold j52_1
      simp only [go_sem, ↓reduceIte, Nat.reduceAdd, Nat.reduceMul, Nat.reduceSub, Nat.reduceLT, Nat.reduceLeDiff, Nat.reduceEqDiff, Int.reduceToNat, Int.reduceEq, Int.reduceLT, Int.reduceLE, reduceCtorEq, Gfr_eq, reps_0, reps_1, reps_2, reps_3, reps_4, reps_5, reps_6, reps_7, reps_8, pf_upd, wd_pf, agg_pf]
      exact ⟨1, by omega, by omega, IntWalk.i64_in _ (by omega), fin_reps (x := 1) (by omega)⟩
    · unfold j52_1
      simp only [go_sem, ↓reduceIte, Nat.reduceAdd, Nat.reduceMul, Nat.reduceSub, Nat.reduceLT, Nat.reduceLeDiff, Nat.reduceEqDiff, Int.reduceToNat, Int.reduceEq, Int.reduceLT, Int.reduceLE, reduceCtorEq, Gfr_eq, reps_0, reps_1, reps_2, reps_3, reps_4, reps_5, reps_6, reps_7, reps_8, pf_upd, wd_pf, agg_pf]
      exact ⟨2, by omega, by omega, IntWalk.i64_in _ (by omega), fin_reps (x := 2) (by omega)⟩
    · unfold j52_1
      simp only [go_sem, ↓reduceIte, Nat.reduceAdd, Nat.reduceMul, Nat.reduceSub, Nat.reduceLT, Nat.reduceLeDiff, Nat.reduceEqDiff, Int.reduceToNat, Int.reduceEq, Int.reduceLT, Int.reduceLE, reduceCtorEq, Gfr_eq, reps_0, reps_1, reps_2, reps_3, reps_4, reps_5, reps_6, reps_7, reps_8, pf_upd, wd_pf, agg_pf]
      exact ⟨3, by omega, by omega, IntWalk.i64_in _ (by omega), fin_reps (x := 3) (by omega)⟩
    · unfold j52_1
      simp only [go_sem, ↓reduceIte, Nat.reduceAdd, Nat.reduceMul, Nat.reduceSub, Nat.reduceLT, Nat.reduceLeDiff, Nat.reduceEqDiff, Int.reduceToNat, Int.reduceEq, Int.reduceLT, Int.reduceLE, reduceCtorEq, Gfr_eq, reps_0, reps_1, reps_2, reps_3, reps_4, reps_5, reps_6, reps_7, reps_8, pf_upd, wd_pf, agg_pf]
      exact ⟨4, by omega, by omega, IntWalk.i64_in _ (by omega), fin_reps (x := 4) (by omega)⟩
    · unfold j52_1
      simp only [go_sem, ↓reduceIte, Nat.reduceAdd, Nat.reduceMul, Nat.reduceSub, Nat.reduceLT, Nat.reduceLeDiff, Nat.reduceEqDiff, Int.reduceToNat, Int.reduceEq, Int.reduceLT, Int.reduceLE, reduceCtorEq, Gfr_eq, reps_0, reps_1, reps_2, reps_3, reps_4, reps_5, reps_6, reps_7, reps_8, pf_upd, wd_pf, agg_pf]
      exact ⟨5, by omega, by omega, IntWalk.i64_in _ (by omega), fin_reps (x := 5) (by omega)⟩
    · unfold j52_1
      simp only [go_sem, ↓reduceIte, Nat.reduceAdd, Nat.reduceMul, Nat.reduceSub, Nat.reduceLT, Nat.reduceLeDiff, Nat.reduceEqDiff, Int.reduceToNat, Int.reduceEq, Int.reduceLT, Int.reduceLE, reduceCtorEq, Gfr_eq, reps_0, reps_1, reps_2, reps_3, reps_4, reps_5, reps_6, reps_7, reps_8, pf_upd, wd_pf, agg_pf]
      exact ⟨6, by omega, by omega, IntWalk.i64_in _ (by omega), fin_reps (x := 6) (by omega)⟩
    · unfold j52_1
      simp only [go_sem, ↓reduceIte, Nat.reduceAdd, Nat.reduceMul, Nat.reduceSub, Nat.reduceLT, Nat.reduceLeDiff, Nat.reduceEqDiff, Int.reduceToNat, Int.reduceEq, Int.reduceLT, Int.reduceLE, reduceCtorEq, Gfr_eq, reps_0, reps_1, reps_2, reps_3, reps_4, reps_5, reps_6, reps_7, reps_8, pf_upd, wd_pf, agg_pf]
      exact ⟨7, by omega, by omega, IntWalk.i64_in _ (by omega), fin_reps (x := 7) (by omega)⟩
    · unfold j52_1
      simp only [go_sem, ↓reduceIte, Nat.reduceAdd, Nat.reduceMul, Nat.reduceSub, Nat.reduceLT, Nat.reduceLeDiff, Nat.reduceEqDiff, Int.reduceToNat, Int.reduceEq, Int.reduceLT, Int.reduceLE, reduceCtorEq, Gfr_eq, reps_0, reps_1, reps_2, reps_3, reps_4, reps_5, reps_6, reps_7, reps_8, pf_upd, wd_pf, agg_pf]
      exact ⟨8, by omega, by omega, IntWalk.i64_in _ (by omega), fin_reps (x := 8) (by omega)⟩
  · have e : x = 8 := by omega
    subst e
    unfold j52_1
    simp only [go_sem, ↓reduceIte, Nat.reduceAdd, Nat.reduceMul, Nat.reduceSub, Nat.reduceLT, Nat.reduceLeDiff, Nat.reduceEqDiff, Int.reduceToNat, Int.reduceEq, Int.reduceLT, Int.reduceLE, reduceCtorEq, reps_0, reps_1, reps_2, reps_3, reps_4, reps_5, reps_6, reps_7, reps_8]
    unfold j52_6
    simp only [go_sem, ↓reduceIte, Nat.reduceAdd, Nat.reduceMul, Nat.reduceSub, Nat.reduceLT, Nat.reduceLeDiff, Nat.reduceEqDiff, Int.reduceToNat, Int.reduceEq, Int.reduceLT, Int.reduceLE, reduceCtorEq, Gfr_eq, reps_0, reps_1, reps_2, reps_3, reps_4, reps_5, reps_6, reps_7, reps_8]
    refine loopF Nat (fun i => [.int .i64 i, .vec 10 (runXL l i).length]) (fun i => [.blk 160 (.arr 8 1 (pf 8)), cb (runX l i 0), cb (runX l i 1), cb (runX l i 2), cb (runX l i 3), cb (runX l i 4), cb (runX l i 5), cb (runX l i 6), cb (runX l i 7), .blk 171 (dKp.emb (runK l i)), .vec 47 3 ((runXL l i).map dFl.emb)]) (fun i => i ≤ l.length) (fun i => l.length - i) 0 (by omega) ?_ rfl ?_
    · simp only [go_sem, ↓reduceIte, Nat.reduceAdd, Nat.reduceMul, Nat.reduceSub, Nat.reduceLT, Nat.reduceLeDiff, Nat.reduceEqDiff, Int.reduceToNat, Int.reduceEq, Int.reduceLT, Int.reduceLE, reduceCtorEq]
      rfl
    intro i hi
    by_cases h1 : i < l.length
    · have h1' : (i : Int) < l.length := by omega
      have hw : IntKind.i64.wrap ((i : Int) + 1) = ((i + 1 : Nat) : Int) := IntWalk.i64_in _ (by omega)
      have hev := ok_isEv hok i h1
      obtain ⟨b1, b2, b3, b4⟩ := (isEv_iff _).1 hev
      obtain ⟨t, ht, ht6⟩ : ∃ t : Nat, (l.getD i dEv.dft).thr = t ∧ t < 6 := ⟨(l.getD i dEv.dft).thr.toNat, by omega, by omega⟩
      obtain ⟨o, ho⟩ : ∃ o : Nat, (l.getD i dEv.dft).obj = o := ⟨(l.getD i dEv.dft).obj.toNat, by omega⟩
      have hlen := runXL_len (l := l) i
      have hcl := runX_ok hok i (by omega)
      cases ha : isAcc (l.getD i dEv.dft) with
      | false =>
        have ha' := ha
        simp only [isAcc, Bool.or_eq_false_iff, decide_eq_false_iff_not] at ha'
        have k1 := ha'.1
        have k2 := ha'.2
        have hf : flagX l i = 0 := by rw [flagX, if_neg (by rw [ha]; simp)]
        unfold j52_2
        simp only [go_sem, ↓reduceIte, Nat.reduceAdd, Nat.reduceMul, Nat.reduceSub, Nat.reduceLT, Nat.reduceLeDiff, Nat.reduceEqDiff, Int.reduceToNat, Int.reduceEq, Int.reduceLT, Int.reduceLE, reduceCtorEq, Gfr_eq, h1, h1', hw, k1, k2, hev]
        have hrx : runX l (i + 1) = runX l i := by funext x; rw [runX, if_neg (by rw [ha]; simp)]
        have hrk : runK l (i + 1) = syncK (runK l i) (l.getD i dEv.dft) := by rw [runK, if_neg (by rw [ha]; simp)]
        have hrl : runXL l (i + 1) = runXL l i := by rw [runXL, if_pos hf, List.append_nil]
        exact ⟨by omega, i + 1, by omega, by omega, ⟨rfl, by rw [hrl]⟩, by rw [hrx, hrk, hrl, pf_fun 8 11 (by omega)]⟩
      | true =>
        have ho8 : o < 8 := by
          have : many (l.getD i dEv.dft).kind = 8 := by
            simp only [isAcc, Bool.or_eq_true, decide_eq_true_eq] at ha
            simp only [many, if_pos ha]
          omega
        have hnk : (!decide ((l.getD i dEv.dft).kind = 1) && !decide ((l.getD i dEv.dft).kind = 2)) = false := by
          simp only [isAcc, Bool.or_eq_true, decide_eq_true_eq] at ha
          rcases ha with ha | ha <;> rw [ha] <;> decide
        have hfl : flagX l i = accK (runX l i o) (l.getD i dEv.dft) ((runK l i).thr t) := by rw [flagX, if_pos ha, ht, ho, Int.toNat_natCast, Int.toNat_natCast]
        have hee : (⟨(l.getD i dEv.dft).kind, (t : Int), (o : Int)⟩ : Ev) = l.getD i dEv.dft := by rw [← ht, ← ho]
        have hrx : ∀ x, runX l (i + 1) x = if x = o then accS (runX l i o) (l.getD i dEv.dft) ((runK l i).thr t) else runX l i x := by
          intro x
          rw [runX, if_pos ha, ht, ho, Int.toNat_natCast, Int.toNat_natCast]
          by_cases e : x = o
          · subst e; rfl
          · rw [if_neg e, if_neg e]
        have hrk : runK l (i + 1) = runK l i := by rw [runK, if_pos ha]
        have hoc := (hcl o).1
        have hos : o = 0 ∨ o = 1 ∨ o = 2 ∨ o = 3 ∨ o = 4 ∨ o = 5 ∨ o = 6 ∨ o = 7 := by omega
        have hrl : flagX l i = 0 → runXL l (i + 1) = runXL l i := fun hf => by rw [runXL, if_pos hf, List.append_nil]
        have hrl2 : ¬ flagX l i = 0 → runXL l (i + 1) = runXL l i ++ [⟨i, (l.getD i dEv.dft).obj, flagX l i⟩] := fun hf => by rw [runXL, if_neg hf]
        rcases hos with rfl | rfl | rfl | rfl | rfl | rfl | rfl | rfl
        · have ho' : (l.getD i dEv.dft).obj = 0 := ho
          have hee' : (⟨(l.getD i dEv.dft).kind, (t : Int), (0 : Int)⟩ : Ev) = l.getD i dEv.dft := hee
          have r0 : runX l (i + 1) 0 = accS (runX l i 0) (l.getD i dEv.dft) ((runK l i).thr t) := by rw [hrx, if_pos rfl]
          have r1 : runX l (i + 1) 1 = runX l i 1 := by rw [hrx, if_neg (by omega)]
          have r2 : runX l (i + 1) 2 = runX l i 2 := by rw [hrx, if_neg (by omega)]
          have r3 : runX l (i + 1) 3 = runX l i 3 := by rw [hrx, if_neg (by omega)]
          have r4 : runX l (i + 1) 4 = runX l i 4 := by rw [hrx, if_neg (by omega)]
          have r5 : runX l (i + 1) 5 = runX l i 5 := by rw [hrx, if_neg (by omega)]
          have r6 : runX l (i + 1) 6 = runX l i 6 := by rw [hrx, if_neg (by omega)]
          have r7 : runX l (i + 1) 7 = runX l i 7 := by rw [hrx, if_neg (by omega)]
          unfold j52_2
          simp only [go_sem, ↓reduceIte, Nat.reduceAdd, Nat.reduceMul, Nat.reduceSub, Nat.reduceLT, Nat.reduceLeDiff, Nat.reduceEqDiff, Int.reduceToNat, Int.reduceEq, Int.reduceLT, Int.reduceLE, reduceCtorEq, Gfr_eq, h1, h1', hw, hnk, hev, ht, ho', ht6, hee', hoc, hfl.symm, pf_at]
          refine ⟨by omega, ⟨by omega, by omega⟩, ⟨by omega, by omega⟩, fun hf => ⟨by omega, i + 1, by omega, by omega, ⟨rfl, by rw [hrl2 hf, List.length_append]; rfl⟩, ?_⟩, fun hf => ⟨i + 1, by omega, by omega, ⟨rfl, by rw [hrl hf]⟩, ?_⟩⟩
          · rw [hrl2 hf, hrk, pf_kill, List.map_append, ho', r0, r1, r2, r3, r4, r5, r6, r7]
            rfl
          · rw [hrl hf, hrk, pf_fun 8 11 (by omega), r0, r1, r2, r3, r4, r5, r6, r7]
        · have ho' : (l.getD i dEv.dft).obj = 1 := ho
          have hee' : (⟨(l.getD i dEv.dft).kind, (t : Int), (1 : Int)⟩ : Ev) = l.getD i dEv.dft := hee
          have r0 : runX l (i + 1) 0 = runX l i 0 := by rw [hrx, if_neg (by omega)]
          have r1 : runX l (i + 1) 1 = accS (runX l i 1) (l.getD i dEv.dft) ((runK l i).thr t) := by rw [hrx, if_pos rfl]
          have r2 : runX l (i + 1) 2 = runX l i 2 := by rw [hrx, if_neg (by omega)]
          have r3 : runX l (i + 1) 3 = runX l i 3 := by rw [hrx, if_neg (by omega)]
          have r4 : runX l (i + 1) 4 = runX l i 4 := by rw [hrx, if_neg (by omega)]
          have r5 : runX l (i + 1) 5 = runX l i 5 := by rw [hrx, if_neg (by omega)]
          have r6 : runX l (i + 1) 6 = runX l i 6 := by rw [hrx, if_neg (by omega)]
          have r7 : runX l (i + 1) 7 = runX l i 7 := by rw [hrx, if_neg (by omega)]
          unfold j52_2
          simp only [go_sem, ↓reduceIte, Nat.reduceAdd, Nat.reduceMul, Nat.reduceSub, Nat.reduceLT, Nat.reduceLeDiff, Nat.reduceEqDiff, Int.reduceToNat, Int.reduceEq, Int.reduceLT, Int.reduceLE, reduceCtorEq, Gfr_eq, h1, h1', hw, hnk, hev, ht, ho', ht6, hee', hoc, hfl.symm, pf_at]
          refine ⟨by omega, ⟨by omega, by omega⟩, ⟨by omega, by omega⟩, fun hf => ⟨by omega, i + 1, by omega, by omega, ⟨rfl, by rw [hrl2 hf, List.length_append]; rfl⟩, ?_⟩, fun hf => ⟨i + 1, by omega, by omega, ⟨rfl, by rw [hrl hf]⟩, ?_⟩⟩
          · rw [hrl2 hf, hrk, pf_kill, List.map_append, ho', r0, r1, r2, r3, r4, r5, r6, r7]
            rfl
          · rw [hrl hf, hrk, pf_fun 8 11 (by omega), r0, r1, r2, r3, r4, r5, r6, r7]
        · have ho' : (l.getD i dEv.dft).obj = 2 := ho
          have hee' : (⟨(l.getD i dEv.dft).kind, (t : Int), (2 : Int)⟩ : Ev) = l.getD i dEv.dft := hee
          have r0 : runX l (i + 1) 0 = runX l i 0 := by rw [hrx, if_neg (by omega)]
          have r1 : runX l (i + 1) 1 = runX l i 1 := by rw [hrx, if_neg (by omega)]
          have r2 : runX l (i + 1) 2 = accS (runX l i 2) (l.getD i dEv.dft) ((runK l i).thr t) := by rw [hrx, if_pos rfl]
          have r3 : runX l (i + 1) 3 = runX l i 3 := by rw [hrx, if_neg (by omega)]
          have r4 : runX l (i + 1) 4 = runX l i 4 := by rw [hrx, if_neg (by omega)]
          have r5 : runX l (i + 1) 5 = runX l i 5 := by rw [hrx, if_neg (by omega)]
          have r6 : runX l (i + 1) 6 = runX l i 6 := by rw [hrx, if_neg (by omega)]
          have r7 : runX l (i + 1) 7 = runX l i 7 := by rw [hrx, if_neg (by omega)]
          unfold j52_2
          simp only [go_sem, ↓reduceIte, Nat.reduceAdd, Nat.reduceMul, Nat.reduceSub, Nat.reduceLT, Nat.reduceLeDiff, Nat.reduceEqDiff, Int.reduceToNat, Int.reduceEq, Int.reduceLT, Int.reduceLE, reduceCtorEq, Gfr_eq, h1, h1', hw, hnk, hev, ht, ho', ht6, hee', hoc, hfl.symm, pf_at]
          refine ⟨by omega, ⟨by omega, by omega⟩, ⟨by omega, by omega⟩, fun hf => ⟨by omega, i + 1, by omega, by omega, ⟨rfl, by rw [hrl2 hf, List.length_append]; rfl⟩, ?_⟩, fun hf => ⟨i + 1, by omega, by omega, ⟨rfl, by rw [hrl hf]⟩, ?_⟩⟩
          · rw [hrl2 hf, hrk, pf_kill, List.map_append, ho', r0, r1, r2, r3, r4, r5, r6, r7]
            rfl
          · rw [hrl hf, hrk, pf_fun 8 11 (by omega), r0, r1, r2, r3, r4, r5, r6, r7]
        · have ho' : (l.getD i dEv.dft).obj = 3 := ho
          have hee' : (⟨(l.getD i dEv.dft).kind, (t : Int), (3 : Int)⟩ : Ev) = l.getD i dEv.dft := hee
          have r0 : runX l (i + 1) 0 = runX l i 0 := by rw [hrx, if_neg (by omega)]
          have r1 : runX l (i + 1) 1 = runX l i 1 := by rw [hrx, if_neg (by omega)]
          have r2 : runX l (i + 1) 2 = runX l i 2 := by rw [hrx, if_neg (by omega)]
          have r3 : runX l (i + 1) 3 = accS (runX l i 3) (l.getD i dEv.dft) ((runK l i).thr t) := by rw [hrx, if_pos rfl]
          have r4 : runX l (i + 1) 4 = runX l i 4 := by rw [hrx, if_neg (by omega)]
          have r5 : runX l (i + 1) 5 = runX l i 5 := by rw [hrx, if_neg (by omega)]
          have r6 : runX l (i + 1) 6 = runX l i 6 := by rw [hrx, if_neg (by omega)]
          have r7 : runX l (i + 1) 7 = runX l i 7 := by rw [hrx, if_neg (by omega)]
          unfold j52_2
          simp only [go_sem, ↓reduceIte, Nat.reduceAdd, Nat.reduceMul, Nat.reduceSub, Nat.reduceLT, Nat.reduceLeDiff, Nat.reduceEqDiff, Int.reduceToNat, Int.reduceEq, Int.reduceLT, Int.reduceLE, reduceCtorEq, Gfr_eq, h1, h1', hw, hnk, hev, ht, ho', ht6, hee', hoc, hfl.symm, pf_at]
          refine ⟨by omega, ⟨by omega, by omega⟩, ⟨by omega, by omega⟩, fun hf => ⟨by omega, i + 1, by omega, by omega, ⟨rfl, by rw [hrl2 hf, List.length_append]; rfl⟩, ?_⟩, fun hf => ⟨i + 1, by omega, by omega, ⟨rfl, by rw [hrl hf]⟩, ?_⟩⟩
          · rw [hrl2 hf, hrk, pf_kill, List.map_append, ho', r0, r1, r2, r3, r4, r5, r6, r7]
            rfl
          · rw [hrl hf, hrk, pf_fun 8 11 (by omega), r0, r1, r2, r3, r4, r5, r6, r7]
        · have ho' : (l.getD i dEv.dft).obj = 4 := ho
          have hee' : (⟨(l.getD i dEv.dft).kind, (t : Int), (4 : Int)⟩ : Ev) = l.getD i dEv.dft := hee
          have r0 : runX l (i + 1) 0 = runX l i 0 := by rw [hrx, if_neg (by omega)]
          have r1 : runX l (i + 1) 1 = runX l i 1 := by rw [hrx, if_neg (by omega)]
          have r2 : runX l (i + 1) 2 = runX l i 2 := by rw [hrx, if_neg (by omega)]
          have r3 : runX l (i + 1) 3 = runX l i 3 := by rw [hrx, if_neg (by omega)]
          have r4 : runX l (i + 1) 4 = accS (runX l i 4) (l.getD i dEv.dft) ((runK l i).thr t) := by rw [hrx, if_pos rfl]
          have r5 : runX l (i + 1) 5 = runX l i 5 := by rw [hrx, if_neg (by omega)]
          have r6 : runX l (i + 1) 6 = runX l i 6 := by rw [hrx, if_neg (by omega)]
          have r7 : runX l (i + 1) 7 = runX l i 7 := by rw [hrx, if_neg (by omega)]
          unfold j52_2
          simp only [go_sem, ↓reduceIte, Nat.reduceAdd, Nat.reduceMul, Nat.reduceSub, Nat.reduceLT, Nat.reduceLeDiff, Nat.reduceEqDiff, Int.reduceToNat, Int.reduceEq, Int.reduceLT, Int.reduceLE, reduceCtorEq, Gfr_eq, h1, h1', hw, hnk, hev, ht, ho', ht6, hee', hoc, hfl.symm, pf_at]
          refine ⟨by omega, ⟨by omega, by omega⟩, ⟨by omega, by omega⟩, fun hf => ⟨by omega, i + 1, by omega, by omega, ⟨rfl, by rw [hrl2 hf, List.length_append]; rfl⟩, ?_⟩, fun hf => ⟨i + 1, by omega, by omega, ⟨rfl, by rw [hrl hf]⟩, ?_⟩⟩
          · rw [hrl2 hf, hrk, pf_kill, List.map_append, ho', r0, r1, r2, r3, r4, r5, r6, r7]
            rfl
          · rw [hrl hf, hrk, pf_fun 8 11 (by omega), r0, r1, r2, r3, r4, r5, r6, r7]
        · have ho' : (l.getD i dEv.dft).obj = 5 := ho
          have hee' : (⟨(l.getD i dEv.dft).kind, (t : Int), (5 : Int)⟩ : Ev) = l.getD i dEv.dft := hee
          have r0 : runX l (i + 1) 0 = runX l i 0 := by rw [hrx, if_neg (by omega)]
          have r1 : runX l (i + 1) 1 = runX l i 1 := by rw [hrx, if_neg (by omega)]
          have r2 : runX l (i + 1) 2 = runX l i 2 := by rw [hrx, if_neg (by omega)]
          have r3 : runX l (i + 1) 3 = runX l i 3 := by rw [hrx, if_neg (by omega)]
          have r4 : runX l (i + 1) 4 = runX l i 4 := by rw [hrx, if_neg (by omega)]
          have r5 : runX l (i + 1) 5 = accS (runX l i 5) (l.getD i dEv.dft) ((runK l i).thr t) := by rw [hrx, if_pos rfl]
          have r6 : runX l (i + 1) 6 = runX l i 6 := by rw [hrx, if_neg (by omega)]
          have r7 : runX l (i + 1) 7 = runX l i 7 := by rw [hrx, if_neg (by omega)]
          unfold j52_2
          simp only [go_sem, ↓reduceIte, Nat.reduceAdd, Nat.reduceMul, Nat.reduceSub, Nat.reduceLT, Nat.reduceLeDiff, Nat.reduceEqDiff, Int.reduceToNat, Int.reduceEq, Int.reduceLT, Int.reduceLE, reduceCtorEq, Gfr_eq, h1, h1', hw, hnk, hev, ht, ho', ht6, hee', hoc, hfl.symm, pf_at]
          refine ⟨by omega, ⟨by omega, by omega⟩, ⟨by omega, by omega⟩, fun hf => ⟨by omega, i + 1, by omega, by omega, ⟨rfl, by rw [hrl2 hf, List.length_append]; rfl⟩, ?_⟩, fun hf => ⟨i + 1, by omega, by omega, ⟨rfl, by rw [hrl hf]⟩, ?_⟩⟩
          · rw [hrl2 hf, hrk, pf_kill, List.map_append, ho', r0, r1, r2, r3, r4, r5, r6, r7]
            rfl
          · rw [hrl hf, hrk, pf_fun 8 11 (by omega), r0, r1, r2, r3, r4, r5, r6, r7]
        · have ho' : (l.getD i dEv.dft).obj = 6 := ho
          have hee' : (⟨(l.getD i dEv.dft).kind, (t : Int), (6 : Int)⟩ : Ev) = l.getD i dEv.dft := hee
          have r0 : runX l (i + 1) 0 = runX l i 0 := by rw [hrx, if_neg (by omega)]
          have r1 : runX l (i + 1) 1 = runX l i 1 := by rw [hrx, if_neg (by omega)]
          have r2 : runX l (i + 1) 2 = runX l i 2 := by rw [hrx, if_neg (by omega)]
          have r3 : runX l (i + 1) 3 = runX l i 3 := by rw [hrx, if_neg (by omega)]
          have r4 : runX l (i + 1) 4 = runX l i 4 := by rw [hrx, if_neg (by omega)]
          have r5 : runX l (i + 1) 5 = runX l i 5 := by rw [hrx, if_neg (by omega)]
          have r6 : runX l (i + 1) 6 = accS (runX l i 6) (l.getD i dEv.dft) ((runK l i).thr t) := by rw [hrx, if_pos rfl]
          have r7 : runX l (i + 1) 7 = runX l i 7 := by rw [hrx, if_neg (by omega)]
          unfold j52_2
          simp only [go_sem, ↓reduceIte, Nat.reduceAdd, Nat.reduceMul, Nat.reduceSub, Nat.reduceLT, Nat.reduceLeDiff, Nat.reduceEqDiff, Int.reduceToNat, Int.reduceEq, Int.reduceLT, Int.reduceLE, reduceCtorEq, Gfr_eq, h1, h1', hw, hnk, hev, ht, ho', ht6, hee', hoc, hfl.symm, pf_at]
          refine ⟨by omega, ⟨by omega, by omega⟩, ⟨by omega, by omega⟩, fun hf => ⟨by omega, i + 1, by omega, by omega, ⟨rfl, by rw [hrl2 hf, List.length_append]; rfl⟩, ?_⟩, fun hf => ⟨i + 1, by omega, by omega, ⟨rfl, by rw [hrl hf]⟩, ?_⟩⟩
          · rw [hrl2 hf, hrk, pf_kill, List.map_append, ho', r0, r1, r2, r3, r4, r5, r6, r7]
            rfl
          · rw [hrl hf, hrk, pf_fun 8 11 (by omega), r0, r1, r2, r3, r4, r5, r6, r7]
        · have ho' : (l.getD i dEv.dft).obj = 7 := ho
          have hee' : (⟨(l.getD i dEv.dft).kind, (t : Int), (7 : Int)⟩ : Ev) = l.getD i dEv.dft := hee
          have r0 : runX l (i + 1) 0 = runX l i 0 := by rw [hrx, if_neg (by omega)]
          have r1 : runX l (i + 1) 1 = runX l i 1 := by rw [hrx, if_neg (by omega)]
          have r2 : runX l (i + 1) 2 = runX l i 2 := by rw [hrx, if_neg (by omega)]
          have r3 : runX l (i + 1) 3 = runX l i 3 := by rw [hrx, if_neg (by omega)]
          have r4 : runX l (i + 1) 4 = runX l i 4 := by rw [hrx, if_neg (by omega)]
          have r5 : runX l (i + 1) 5 = runX l i 5 := by rw [hrx, if_neg (by omega)]
          have r6 : runX l (i + 1) 6 = runX l i 6 := by rw [hrx, if_neg (by omega)]
          have r7 : runX l (i + 1) 7 = accS (runX l i 7) (l.getD i dEv.dft) ((runK l i).thr t) := by rw [hrx, if_pos rfl]
          unfold j52_2
          simp only [go_sem, ↓reduceIte, Nat.reduceAdd, Nat.reduceMul, Nat.reduceSub, Nat.reduceLT, Nat.reduceLeDiff, Nat.reduceEqDiff, Int.reduceToNat, Int.reduceEq, Int.reduceLT, Int.reduceLE, reduceCtorEq, Gfr_eq, h1, h1', hw, hnk, hev, ht, ho', ht6, hee', hoc, hfl.symm, pf_at]
          refine ⟨by omega, ⟨by omega, by omega⟩, ⟨by omega, by omega⟩, fun hf => ⟨by omega, i + 1, by omega, by omega, ⟨rfl, by rw [hrl2 hf, List.length_append]; rfl⟩, ?_⟩, fun hf => ⟨i + 1, by omega, by omega, ⟨rfl, by rw [hrl hf]⟩, ?_⟩⟩
          · rw [hrl2 hf, hrk, pf_kill, List.map_append, ho', r0, r1, r2, r3, r4, r5, r6, r7]
            rfl
          · rw [hrl hf, hrk, pf_fun 8 11 (by omega), r0, r1, r2, r3, r4, r5, r6, r7]
    · have h1' : ¬ (i : Int) < l.length := by omega
      have e : i = l.length := by omega
      subst e
      unfold j52_2
      simp only [go_sem, ↓reduceIte, Nat.reduceAdd, Nat.reduceMul, Nat.reduceSub, Nat.reduceLT, Nat.reduceLeDiff, Nat.reduceEqDiff, Int.reduceToNat, Int.reduceEq, Int.reduceLT, Int.reduceLE, reduceCtorEq, h1']
      unfold j52_5
      simp only [go_sem, ↓reduceIte, Nat.reduceAdd, Nat.reduceMul, Nat.reduceSub, Nat.reduceLT, Nat.reduceLeDiff, Nat.reduceEqDiff, Int.reduceToNat, Int.reduceEq, Int.reduceLT, Int.reduceLE, reduceCtorEq, tszP]
      have hc := runX_ok hok l.length (Nat.le_refl _)
      refine loopF Nat (fun k => [.int .i64 k, .int .i64 (slowTo (runX l l.length) k)]) (fun _ => [.blk 160 (.arr 8 1 (pf 8)), cb (runX l l.length 0), cb (runX l l.length 1), cb (runX l l.length 2), cb (runX l l.length 3), cb (runX l l.length 4), cb (runX l l.length 5), cb (runX l l.length 6), cb (runX l l.length 7), .blk 171 (dKp.emb (runK l l.length)), .vec 47 3 ((runXL l l.length).map dFl.emb)]) (fun k => k ≤ 8) (fun k => 8 - k) 0 (by omega) ?_ ?_ ?_
      · simp only [go_sem, ↓reduceIte, Nat.reduceAdd, Nat.reduceMul, Nat.reduceSub, Nat.reduceLT, Nat.reduceLeDiff, Nat.reduceEqDiff, Int.reduceToNat, Int.reduceEq, Int.reduceLT, Int.reduceLE, reduceCtorEq]
        rfl
      · rfl
      intro k hk
      have hb : ∀ x, 0 ≤ slowTo (runX l l.length) x ∧ slowTo (runX l l.length) x ≤ x * 80 := by
        intro x
        induction x with
        | zero => exact ⟨Int.le_refl _, Int.le_refl _⟩
        | succ x ih =>
          have h1 := (hc x).2
          have h2 := (hc x).1.1
          rw [slowTo]
          push_cast
          omega
      have hv : ∀ x, x < 8 → IntKind.i64.wrap (slowTo (runX l l.length) x + (runX l l.length x).slow) = slowTo (runX l l.length) (x + 1) := by
        intro x hx
        have h1 := hb (x + 1)
        rw [slowTo] at h1 ⊢
        push_cast at h1
        exact IntWalk.i64_in _ (by omega)
      by_cases h8 : k < 8
      · have hks : k = 0 ∨ k = 1 ∨ k = 2 ∨ k = 3 ∨ k = 4 ∨ k = 5 ∨ k = 6 ∨ k = 7 := by omega
        rcases hks with rfl | rfl | rfl | rfl | rfl | rfl | rfl | rfl
        · unfold j52_3
          simp only [go_sem, ↓reduceIte, Nat.reduceAdd, Nat.reduceMul, Nat.reduceSub, Nat.reduceLT, Nat.reduceLeDiff, Nat.reduceEqDiff, Int.reduceToNat, Int.reduceEq, Int.reduceLT, Int.reduceLE, reduceCtorEq, pf_at, cl_emb, wd_rd]
          exact ⟨1, by omega, by omega, ⟨IntWalk.i64_in _ (by omega), hv 0 (by omega)⟩, by rw [pf_fun 8 11 (by omega)], by rw [pf_fun 8 11 (by omega)]; rfl⟩
        · unfold j52_3
          simp only [go_sem, ↓reduceIte, Nat.reduceAdd, Nat.reduceMul, Nat.reduceSub, Nat.reduceLT, Nat.reduceLeDiff, Nat.reduceEqDiff, Int.reduceToNat, Int.reduceEq, Int.reduceLT, Int.reduceLE, reduceCtorEq, pf_at, cl_emb, wd_rd]
          exact ⟨2, by omega, by omega, ⟨IntWalk.i64_in _ (by omega), hv 1 (by omega)⟩, by rw [pf_fun 8 11 (by omega)], by rw [pf_fun 8 11 (by omega)]; rfl⟩
        · unfold j52_3
          simp only [go_sem, ↓reduceIte, Nat.reduceAdd, Nat.reduceMul, Nat.reduceSub, Nat.reduceLT, Nat.reduceLeDiff, Nat.reduceEqDiff, Int.reduceToNat, Int.reduceEq, Int.reduceLT, Int.reduceLE, reduceCtorEq, pf_at, cl_emb, wd_rd]
          exact ⟨3, by omega, by omega, ⟨IntWalk.i64_in _ (by omega), hv 2 (by omega)⟩, by rw [pf_fun 8 11 (by omega)], by rw [pf_fun 8 11 (by omega)]; rfl⟩
        · unfold j52_3
          simp only [go_sem, ↓reduceIte, Nat.reduceAdd, Nat.reduceMul, Nat.reduceSub, Nat.reduceLT, Nat.reduceLeDiff, Nat.reduceEqDiff, Int.reduceToNat, Int.reduceEq, Int.reduceLT, Int.reduceLE, reduceCtorEq, pf_at, cl_emb, wd_rd]
          exact ⟨4, by omega, by omega, ⟨IntWalk.i64_in _ (by omega), hv 3 (by omega)⟩, by rw [pf_fun 8 11 (by omega)], by rw [pf_fun 8 11 (by omega)]; rfl⟩
        · unfold j52_3
          simp only [go_sem, ↓reduceIte, Nat.reduceAdd, Nat.reduceMul, Nat.reduceSub, Nat.reduceLT, Nat.reduceLeDiff, Nat.reduceEqDiff, Int.reduceToNat, Int.reduceEq, Int.reduceLT, Int.reduceLE, reduceCtorEq, pf_at, cl_emb, wd_rd]
          exact ⟨5, by omega, by omega, ⟨IntWalk.i64_in _ (by omega), hv 4 (by omega)⟩, by rw [pf_fun 8 11 (by omega)], by rw [pf_fun 8 11 (by omega)]; rfl⟩
        · unfold j52_3
          simp only [go_sem, ↓reduceIte, Nat.reduceAdd, Nat.reduceMul, Nat.reduceSub, Nat.reduceLT, Nat.reduceLeDiff, Nat.reduceEqDiff, Int.reduceToNat, Int.reduceEq, Int.reduceLT, Int.reduceLE, reduceCtorEq, pf_at, cl_emb, wd_rd]
          exact ⟨6, by omega, by omega, ⟨IntWalk.i64_in _ (by omega), hv 5 (by omega)⟩, by rw [pf_fun 8 11 (by omega)], by rw [pf_fun 8 11 (by omega)]; rfl⟩
        · unfold j52_3
          simp only [go_sem, ↓reduceIte, Nat.reduceAdd, Nat.reduceMul, Nat.reduceSub, Nat.reduceLT, Nat.reduceLeDiff, Nat.reduceEqDiff, Int.reduceToNat, Int.reduceEq, Int.reduceLT, Int.reduceLE, reduceCtorEq, pf_at, cl_emb, wd_rd]
          exact ⟨7, by omega, by omega, ⟨IntWalk.i64_in _ (by omega), hv 6 (by omega)⟩, by rw [pf_fun 8 11 (by omega)], by rw [pf_fun 8 11 (by omega)]; rfl⟩
        · unfold j52_3
          simp only [go_sem, ↓reduceIte, Nat.reduceAdd, Nat.reduceMul, Nat.reduceSub, Nat.reduceLT, Nat.reduceLeDiff, Nat.reduceEqDiff, Int.reduceToNat, Int.reduceEq, Int.reduceLT, Int.reduceLE, reduceCtorEq, pf_at, cl_emb, wd_rd]
          exact ⟨8, by omega, by omega, ⟨IntWalk.i64_in _ (by omega), hv 7 (by omega)⟩, by rw [pf_fun 8 11 (by omega)], by rw [pf_fun 8 11 (by omega)]; rfl⟩
      · have e : k = 8 := by omega
        subst e
        unfold j52_3
        simp only [go_sem, ↓reduceIte, Nat.reduceAdd, Nat.reduceMul, Nat.reduceSub, Nat.reduceLT, Nat.reduceLeDiff, Nat.reduceEqDiff, Int.reduceToNat, Int.reduceEq, Int.reduceLT, Int.reduceLE, reduceCtorEq]
        unfold j52_4
        simp only [go_sem, ↓reduceIte, Nat.reduceAdd, Nat.reduceMul, Nat.reduceSub, Nat.reduceLT, Nat.reduceLeDiff, Nat.reduceEqDiff, Int.reduceToNat, Int.reduceEq, Int.reduceLT, Int.reduceLE, reduceCtorEq]
end Go.Proofs.Ytgcbhanfhnianaa.Fa
end
