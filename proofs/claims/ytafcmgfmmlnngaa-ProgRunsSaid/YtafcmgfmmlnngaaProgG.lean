/- A program that runs: the reference. Conditions: none. -/
import Derived.Test.YtafcmgfmmlnngaaProgE
import Derived.Test.YtafcmgfmmlnngaaCpy
import Derived.Test.YtafcmgfmmlnngaaSx32
set_option linter.unusedSimpArgs false
set_option linter.unusedVariables false
set_option maxRecDepth 100000
open Go Go.Sx Go.Proofs
namespace Go.Proofs.Ytafcmgfmmlnngaa.D
structure Pg where
  p : List (List PO)
  at' : Nat → Int
  l : Option (List Ev)
  en : En
  last : Option (List Int)
def dPg : DT Pg := (DT.st (DL.cons dProg (DL.cons (DT.arr 6 1 DT.int) (DL.cons (DT.slo 3 dEv) (DL.cons dEn (DL.cons (DT.slo 1 DT.int) DL.nil)))))).iso (fun x => ⟨x.1, x.2.1, x.2.2.1, x.2.2.2.1, x.2.2.2.2.1⟩) (fun g => (g.p, g.at', g.l, g.en, g.last, ())) (fun _ => rfl) (fun _ => rfl)
theorem pg_emb (g : Pg) : dPg.emb g = .agg [dProg.emb g.p, .arr 6 1 fun i => .int .i64 (g.at' i), (DT.slo 3 dEv).emb g.l, dEn.emb g.en, (DT.slo 1 DT.int).emb g.last] := nr rfl
theorem pg_decV (m : List Res) (a b c d e : SV) : dPg.decV m (.agg [a, b, c, d, e]) = ⟨dProg.decV m a, (DT.arr 6 1 DT.int).decV m b, (DT.slo 3 dEv).decV m c, dEn.decV m d, (DT.slo 1 DT.int).decV m e⟩ := nr rfl
theorem pg_decP (m : List Res) (a b c d e : SV) : dPg.decP m (.agg [a, b, c, d, e]) = (dProg.decP m a ∧ (DT.arr 6 1 DT.int).decP m b ∧ (DT.slo 3 dEv).decP m c ∧ dEn.decP m d ∧ (DT.slo 1 DT.int).decP m e) := nr (by
  show (_ ∧ _ ∧ _ ∧ _ ∧ _ ∧ True) = _
  simp only [and_true])
theorem pg_eta (g : Pg) : (⟨g.p, g.at', g.l, g.en, g.last⟩ : Pg) = g := nr rfl
attribute [go_sem] pg_emb pg_decV pg_decP pg_eta
abbrev dPgR := DT.ref dPg
end Go.Proofs.Ytafcmgfmmlnngaa.D
namespace Go.Proofs.Ytafcmgfmmlnngaa.Rn
open Go.Proofs.Ytafcmgfmmlnngaa.D Go.Proofs.Ytafcmgfmmlnngaa.Pg Go.Proofs.Ytafcmgfmmlnngaa.Tr Go.Proofs.Ytafcmgfmmlnngaa.Cp

def j69 : JC :=
  (.seq (.ops <|
  eo 2 (.box 89 (.t 0)) <|
  qo 4 (.mv (B false)) <|
  .nil)
  (.seq (.dops <|
  qo 5 (.mv (.t 1)) <|
  qo 6 (.fa 1 1 (.t 2)) <|
  qo 7 (.ia 6 1 (.t 6) (.t 5)) <|
  eo 8 (.load 1 false (.t 7)) <|
  qo 9 (.fa 0 0 (.t 2)) <|
  .prune [9, 1, 8] <|
  eo 10 (.load 1 false (.t 9)) <|
  qo 11 (.mv (.t 1)) <|
  qo 12 (.is 1 (.t 10) (.t 11)) <|
  eo 13 (.load 1 false (.t 12)) <|
  .prune [13, 8] <|
  qo 14 (.len (.t 13)) <|
  qo 15 (.cmp .eql (.t 8) (.t 14)) <|
  qo 4 (.mv (.t 15)) <|
  .nil)
  .ret))
theorem c69 : fnIs Try.prog qall 69 = some (j69.flat, [.tmp 4], 16) := by kernel_rfl
theorem w69 : j69.wf 16 = true := by kernel_rfl
abbrev gl (g : Pg) : List Ev := g.l.getD []
abbrev gt (g : Pg) : List Int := g.last.getD []
def overB (g : Pg) (t : Int) : Bool := decide (g.at' t.toNat = ((g.p.getD t.toNat []).length : Int))
theorem f_over (g : Pg) (t : Int) (h : 0 ≤ t ∧ t < 6 ∧ t < g.p.length) : FnOK Try.prog 69 [dPg.emb g, .int .i64 t] [] (.bool (overB g t)) [] := by
  refine fn_walkF c69 w69 FH.none_ok rfl ?_
  unfold j69
  simp only [go_sem, ↓reduceIte, Nat.reduceAdd, Nat.reduceMul, Nat.reduceSub, Nat.reduceLT, Nat.reduceLeDiff, Nat.reduceEqDiff, Int.reduceToNat, Int.reduceEq, Int.reduceLT, Int.reduceLE, reduceCtorEq]
  exact ⟨⟨h.1, h.2.1⟩, ⟨by omega, by omega⟩, rfl⟩
def opG (g : Pg) (t : Int) : PO := (g.p.getD t.toNat []).getD (g.at' t.toNat).toNat dOp.dft
def canG (g : Pg) (t : Int) : Bool := if t < 0 ∨ (g.p.length : Int) ≤ t then false else if begB (gl g) t = false then false else if overB g t = true then false else
  if (opG g t).kind = 4 then decide (Tr.ownR (gl g) (opG g t).obj < 0) else
  if (opG g t).kind = 7 then decide ((opG g t).obj < g.p.length) && !decide ((opG g t).obj = t) && begB (gl g) (opG g t).obj && overB g (opG g t).obj else true

def j44 : JC :=
  (.seq (.ops <|
  eo 2 (.box 89 (.t 0)) <|
  qo 4 (.mv (B false)) <|
  .nil)
  (.seq (.seq (.ops <|
  qo 6 (.mv (.t 1)) <|
  qo 7 (.fa 0 0 (.t 2)) <|
  eo 8 (.load 1 false (.t 7)) <|
  qo 9 (.len (.t 8)) <|
  qo 10 (.ar .sub (.t 9) (I 1)) <|
  .prune [6, 10, 2, 1] <|
  eo 11 (.call 67 [(.t 6), (I 0), (.t 10)]) <|
  qo 12 (.mv (.t 11)) <|
  .sc true 18 12 (qo 13 (.fa 2 7 (.t 2)) <|
  eo 14 (.load 1 false (.t 13)) <|
  qo 15 (.mv (.t 1)) <|
  eo 16 (.call 68 [(.t 14), (.t 15)]) <|
  qo 17 (.nt (.t 16)) <|
  .nil) (.t 17) <|
  .prune [18, 2, 1] <|
  qo 19 (.mv (.t 18)) <|
  .sc true 23 19 (eo 20 (.load 29 true (.t 2)) <|
  qo 21 (.mv (.t 1)) <|
  eo 22 (.call 69 [(.t 20), (.t 21)]) <|
  .nil) (.t 22) <|
  .nil)
  (.prune [23, 2, 1] (.cond (.t 23)
  (.seq (.ops <|
  qo 4 (.mv (B false)) <|
  .nil)
  .ret)
  .skip)))
  (.prune [2, 1] (.seq (.dops <|
  qo 24 (.fa 0 0 (.t 2)) <|
  eo 25 (.load 1 false (.t 24)) <|
  qo 26 (.mv (.t 1)) <|
  qo 27 (.is 1 (.t 25) (.t 26)) <|
  eo 28 (.load 1 false (.t 27)) <|
  qo 29 (.mv (.t 1)) <|
  qo 30 (.fa 1 1 (.t 2)) <|
  qo 31 (.ia 6 1 (.t 30) (.t 29)) <|
  .prune [31, 28, 25, 24, 27, 2, 1] <|
  eo 32 (.load 1 false (.t 31)) <|
  qo 33 (.is 3 (.t 28) (.t 32)) <|
  eo 34 (.load 3 true (.t 33)) <|
  eo 5 (.alloc 95 (.agg [(.int .i64 0), (.int .i64 0), (.int .i64 0)])) <|
  en (.again 1 false (.t 24) 25) <|
  .prune [28, 27, 32, 31, 34, 33, 5, 2, 1] <|
  en (.again 1 false (.t 27) 28) <|
  .prune [32, 31, 34, 33, 5, 2, 1] <|
  en (.again 1 false (.t 31) 32) <|
  en (.again 3 true (.t 33) 34) <|
  en (.store 3 (.t 5) (.t 34)) <|
  .nil)
  (.prune [5, 2, 1] (.seq (.seq (.ops <|
  qo 35 (.fa 0 0 (.t 5)) <|
  eo 36 (.load 1 false (.t 35)) <|
  .nil)
  (.block 0 (.seq (.ops <|
  qo 38 (.cmp .eql (.t 36) (I 4)) <|
  qo 37 (.mv (.t 38)) <|
  .nil)
  (.cond (.t 37)
  (.seq (.ops <|
  .prune [2, 5] <|
  qo 39 (.fa 2 7 (.t 2)) <|
  eo 40 (.load 1 false (.t 39)) <|
  qo 41 (.fa 1 1 (.t 5)) <|
  eo 42 (.load 1 false (.t 41)) <|
  eo 43 (.call 70 [(.t 40), (.t 42)]) <|
  qo 44 (.cmp .lss (.t 43) (I 0)) <|
  qo 4 (.mv (.t 44)) <|
  .nil)
  .ret)
  (.seq (.ops <|
  qo 46 (.cmp .eql (.t 36) (I 7)) <|
  qo 45 (.mv (.t 46)) <|
  .nil)
  (.cond (.t 45)
  (.seq (.ops <|
  .prune [5, 2, 1] <|
  qo 47 (.fa 1 1 (.t 5)) <|
  eo 48 (.load 1 false (.t 47)) <|
  qo 49 (.fa 0 0 (.t 2)) <|
  eo 50 (.load 1 false (.t 49)) <|
  qo 51 (.len (.t 50)) <|
  .prune [48, 51, 5, 1, 2] <|
  qo 52 (.cmp .lss (.t 48) (.t 51)) <|
  qo 53 (.mv (.t 52)) <|
  .prune [53, 5, 1, 2] <|
  .sc false 58 53 (qo 54 (.fa 1 1 (.t 5)) <|
  eo 55 (.load 1 false (.t 54)) <|
  qo 56 (.mv (.t 1)) <|
  qo 57 (.cmp .neq (.t 55) (.t 56)) <|
  .nil) (.t 57) <|
  qo 59 (.mv (.t 58)) <|
  .sc false 65 59 (qo 60 (.fa 2 7 (.t 2)) <|
  eo 61 (.load 1 false (.t 60)) <|
  qo 62 (.fa 1 1 (.t 5)) <|
  eo 63 (.load 1 false (.t 62)) <|
  eo 64 (.call 68 [(.t 61), (.t 63)]) <|
  .nil) (.t 64) <|
  .prune [65, 2, 5] <|
  qo 66 (.mv (.t 65)) <|
  .sc false 71 66 (eo 67 (.load 29 true (.t 2)) <|
  qo 68 (.fa 1 1 (.t 5)) <|
  eo 69 (.load 1 false (.t 68)) <|
  eo 70 (.call 69 [(.t 67), (.t 69)]) <|
  .nil) (.t 70) <|
  qo 4 (.mv (.t 71)) <|
  .nil)
  .ret)
  .skip))))))
  (.prune [] (.seq (.ops <|
  qo 4 (.mv (B true)) <|
  .nil)
  .ret))))))))
theorem c44 : fnIs Try.prog qall 44 = some (j44.flat, [.tmp 4], 72) := by kernel_rfl
theorem w44 : j44.wf 72 = true := by kernel_rfl
def Gcg (f : FuncId) (a : List SV) (m : List Res) : Sx.Call := (FH.rd 67 (.three .int .int .int) (.one .bool) (fun _ => True) (fun y => Tr.outB y.1 y.2.1 y.2.2.1) <| FH.rd 68 (.two dEs .int) (.one .bool) (fun _ => True) (fun y => begB y.1 y.2.1) <|
  FH.rd 70 (.two dEs .int) (.one .int) (fun _ => True) (fun y => Tr.ownR y.1 y.2.1) <| FH.rd 69 (.two dPg .int) (.one .bool) (fun y => 0 ≤ y.2.1 ∧ y.2.1 < 6 ∧ y.2.1 < y.1.p.length) (fun y => overB y.1 y.2.1) FH.none) f a m
theorem Gcg_eq (f : FuncId) (a : List SV) (m : List Res) : Gcg f a m = (FH.rd 67 (.three .int .int .int) (.one .bool) (fun _ => True) (fun y => Tr.outB y.1 y.2.1 y.2.2.1) <| FH.rd 68 (.two dEs .int) (.one .bool) (fun _ => True) (fun y => begB y.1 y.2.1) <|
  FH.rd 70 (.two dEs .int) (.one .int) (fun _ => True) (fun y => Tr.ownR y.1 y.2.1) <| FH.rd 69 (.two dPg .int) (.one .bool) (fun y => 0 ≤ y.2.1 ∧ y.2.1 < 6 ∧ y.2.1 < y.1.p.length) (fun y => overB y.1 y.2.1) FH.none) f a m := nr rfl
theorem Gcg_ok : FHOK Try.prog Gcg := FH.rd_ok (by kernel_rfl) (fun y _ => Tr.f_outside y.1 y.2.1 y.2.2.1) <| FH.rd_ok (by kernel_rfl) (fun y _ => f_begun y.1 y.2.1) <|
  FH.rd_ok (by kernel_rfl) (fun y _ => f_owner y.1 y.2.1) <| FH.rd_ok (by kernel_rfl) (fun y h => f_over y.1 y.2.1 h) FH.none_ok
theorem f_CanG (g : Pg) (t : Int) (h : Fit g.p g.at') (hp : progC badP g.p = 0) : FnOK Try.prog 44 [dPg.emb g, .int .i64 t] [] (.bool (canG g t)) [] := by
  refine fn_walkF c44 w44 Gcg_ok rfl ?_
  unfold j44
  have hn := h.n
  have hw : IntKind.i64.wrap ((g.p.length : Int) - 1) = (g.p.length : Int) - 1 := IntWalk.i64_in _ (by omega)
  simp only [go_sem, ↓reduceIte, Nat.reduceAdd, Nat.reduceMul, Nat.reduceSub, Nat.reduceLT, Nat.reduceLeDiff, Nat.reduceEqDiff, Int.reduceToNat, Int.reduceEq, Int.reduceLT, Int.reduceLE, reduceCtorEq, Gcg_eq, hw]
  have ho : 0 ≤ t → t < g.p.length → overB g t = false → 0 ≤ g.at' t.toNat ∧ g.at' t.toNat < ((g.p.getD t.toNat []).length : Int) := fun h1 h2 h3 => by
    have := h.at0 t.toNat (by omega)
    simp only [overB, decide_eq_false_iff_not] at h3
    omega
  have ob : ∀ t : Int, Tr.outB t 0 ((g.p.length : Int) - 1) = decide (t < 0 ∨ (g.p.length : Int) ≤ t) := fun t => by
    rw [Bool.eq_iff_iff]; simp only [Tr.outB, Bool.or_eq_true, decide_eq_true_eq]; omega
  have b7 : bnd 7 = 6 := by decide
  rw [ob]
  by_cases h1 : t < 0 ∨ (g.p.length : Int) ≤ t
  · simp only [h1, decide_true, Bool.true_or, Bool.true_eq_false, false_implies, true_and, canG, if_true, forall_const, and_true]
    done
  simp only [h1, decide_false, Bool.false_or, canG, if_false]
  cases h2 : begB (g.l.getD []) t with
  | false => simp
  | true =>
    simp only [Bool.not_true, Bool.false_or, if_false, Bool.true_eq_false, reduceCtorEq]
    cases h3 : overB g t with
    | true =>
      simp
      omega
    | false =>
      have h4 := ho (by omega) (by omega) h3
      have hob := op_ok hp (n := t.toNat) (i := (g.at' t.toNat).toNat) (by omega) (by omega)
      simp only [opG, forall_const, Bool.false_eq_true, false_implies, true_and, if_false]
      obtain ⟨o, eo⟩ : ∃ o, (g.p.getD t.toNat []).getD (g.at' t.toNat).toNat dOp.dft = o := ⟨_, rfl⟩
      simp only [eo] at hob ⊢
      refine ⟨by omega, ⟨by omega, by omega⟩, ⟨by omega, by omega⟩, h4, fun k4 => by rw [if_pos k4], fun k4 => ⟨fun k7 => ⟨fun q => ?_, ?_⟩, fun k7 => ?_⟩⟩
      · simp only [Bool.and_eq_true, decide_eq_true_eq] at q
        rw [k7, b7] at hob
        omega
      · rw [if_neg k4, if_pos k7]
      · rw [if_neg k4, if_neg k7]
def kindM (k : Int) : Int := if k = 1 then 1 else if k = 2 then 2 else if k = 4 then 3 else if k = 5 then 4 else if k = 6 then 5 else if k = 7 then 6 else if k = 8 then 7 else if k = 9 then 8 else 0
theorem kind_map (k : Int) : obI (mpFind (.int .i64) (.int .i64 k) (mpPut (.int .i64) (.int .i64 9) (.int .i64 8) (mpPut (.int .i64) (.int .i64 8) (.int .i64 7) (mpPut (.int .i64) (.int .i64 7) (.int .i64 6) (mpPut (.int .i64) (.int .i64 6) (.int .i64 5) (mpPut (.int .i64) (.int .i64 5) (.int .i64 4) (mpPut (.int .i64) (.int .i64 4) (.int .i64 3) (mpPut (.int .i64) (.int .i64 2) (.int .i64 2) (mpPut (.int .i64) (.int .i64 1) (.int .i64 1) []))))))))) = kindM k := by
  have e : (mpPut (.int .i64) (.int .i64 9) (.int .i64 8) (mpPut (.int .i64) (.int .i64 8) (.int .i64 7) (mpPut (.int .i64) (.int .i64 7) (.int .i64 6) (mpPut (.int .i64) (.int .i64 6) (.int .i64 5) (mpPut (.int .i64) (.int .i64 5) (.int .i64 4) (mpPut (.int .i64) (.int .i64 4) (.int .i64 3) (mpPut (.int .i64) (.int .i64 2) (.int .i64 2) (mpPut (.int .i64) (.int .i64 1) (.int .i64 1) [])))))))) = [(.int .i64 1, .int .i64 1), (.int .i64 2, .int .i64 2), (.int .i64 4, .int .i64 3), (.int .i64 5, .int .i64 4), (.int .i64 6, .int .i64 5), (.int .i64 7, .int .i64 6), (.int .i64 8, .int .i64 7), (.int .i64 9, .int .i64 8)] := by
    simp [mpPut, eqV]
  rw [e]
  simp only [mpFind, eqV, kindM, decide_eq_true_eq]
  (repeat' split) <;> rfl
def evG (g : Pg) (t : Nat) (o : PO) : Int := if o.kind = 5 then (if Tr.ownR (gl g) o.obj = t then 4 else 0) else if o.kind = 6 then (if (g.p.length : Int) ≤ o.obj ∨ begB (gl g) o.obj = true then 0 else 5) else kindM o.kind
def stepG (g : Pg) (t : Nat) (o : PO) : Pg := ⟨g.p, upd g.at' t (g.at' t + 1), if evG g t o = 0 then g.l else some (gl g ++ [⟨evG g t o, t, o.obj⟩]), enF g.en t o, some (gt g ++ [(t : Int)])⟩

def j45 : JC :=
  (.seq (.ops <|
  eo 2 (.box 89 (.t 0)) <|
  eo 4 (.alloc 89 (.agg [.nils, (.arr 6 1 fun _ => (.int .i64 0)), .nils, (.agg [(.arr 8 1 fun _ => (.int .i64 0)), (.arr 4 1 fun _ => (.int .i64 0)), (.arr 6 1 fun _ => (.int .i64 0)), (.bool false), (.bool false)]), .nils])) <|
  .nil)
  (.seq (.dops <|
  qo 7 (.fa 0 0 (.t 2)) <|
  eo 8 (.load 1 false (.t 7)) <|
  qo 9 (.mv (.t 1)) <|
  qo 10 (.is 1 (.t 8) (.t 9)) <|
  eo 11 (.load 1 false (.t 10)) <|
  qo 12 (.mv (.t 1)) <|
  qo 13 (.fa 1 1 (.t 2)) <|
  qo 14 (.ia 6 1 (.t 13) (.t 12)) <|
  eo 15 (.load 1 false (.t 14)) <|
  qo 16 (.is 3 (.t 11) (.t 15)) <|
  eo 17 (.load 3 true (.t 16)) <|
  eo 5 (.alloc 95 (.agg [(.int .i64 0), (.int .i64 0), (.int .i64 0)])) <|
  en (.again 1 false (.t 7) 8) <|
  .prune [11, 10, 15, 14, 17, 16, 5, 1, 2, 4] <|
  en (.again 1 false (.t 10) 11) <|
  .prune [15, 14, 17, 16, 5, 1, 2, 4] <|
  en (.again 1 false (.t 14) 15) <|
  en (.again 3 true (.t 16) 17) <|
  en (.store 3 (.t 5) (.t 17)) <|
  .nil)
  (.prune [1, 2, 5, 4] (.seq (.ops <|
  qo 18 (.mv (.t 1)) <|
  qo 19 (.fa 1 1 (.t 2)) <|
  qo 20 (.ia 6 1 (.t 19) (.t 18)) <|
  eo 21 (.load 1 false (.t 20)) <|
  qo 22 (.ar .add (.t 21) (I 1)) <|
  .prune [2, 18, 22, 5, 1, 4] <|
  qo 23 (.fa 1 1 (.t 2)) <|
  qo 24 (.ia 6 1 (.t 23) (.t 18)) <|
  en (.store 1 (.t 24) (.t 22)) <|
  .nil)
  (.prune [5, 1, 2, 4] (.seq (.ops <|
  eo 25 (.mop (.make (.int .i64) (.int .i64)) []) <|
  en (.mop (.put (.int .i64) (.int .i64)) [(.t 25), (I 1), (I 1)]) <|
  en (.mop (.put (.int .i64) (.int .i64)) [(.t 25), (I 2), (I 2)]) <|
  en (.mop (.put (.int .i64) (.int .i64)) [(.t 25), (I 4), (I 3)]) <|
  .prune [25, 5, 1, 2, 4] <|
  en (.mop (.put (.int .i64) (.int .i64)) [(.t 25), (I 5), (I 4)]) <|
  en (.mop (.put (.int .i64) (.int .i64)) [(.t 25), (I 6), (I 5)]) <|
  en (.mop (.put (.int .i64) (.int .i64)) [(.t 25), (I 7), (I 6)]) <|
  .prune [25, 5, 1, 2, 4] <|
  en (.mop (.put (.int .i64) (.int .i64)) [(.t 25), (I 8), (I 7)]) <|
  en (.mop (.put (.int .i64) (.int .i64)) [(.t 25), (I 9), (I 8)]) <|
  qo 26 (.mv (.t 25)) <|
  .prune [5, 26, 1, 2, 4] <|
  qo 27 (.fa 0 0 (.t 5)) <|
  eo 28 (.load 1 false (.t 27)) <|
  eo 29 (.mop (.get (.int .i64) (.int .i64) (.int .i64 0) false) [(.t 26), (.t 28)]) <|
  qo 6 (.mv (.t 29)) <|
  .nil)
  (.prune [5, 1, 2, 6, 4] (.seq (.seq (.ops <|
  qo 30 (.fa 0 0 (.t 5)) <|
  eo 31 (.load 1 false (.t 30)) <|
  .nil)
  (.block 0 (.seq (.ops <|
  qo 33 (.cmp .eql (.t 31) (I 1)) <|
  qo 32 (.mv (.t 33)) <|
  .nil)
  (.cond (.t 32)
  (.ops <|
  .prune [1, 5, 2, 6, 4] <|
  qo 34 (.mv (.t 1)) <|
  qo 35 (.fa 1 1 (.t 5)) <|
  eo 36 (.load 1 false (.t 35)) <|
  qo 37 (.fa 3 8 (.t 2)) <|
  qo 38 (.fa 0 0 (.t 37)) <|
  qo 39 (.ia 8 1 (.t 38) (.t 36)) <|
  .prune [39, 2, 34, 6, 1, 5, 4] <|
  eo 40 (.load 1 false (.t 39)) <|
  qo 41 (.fa 3 8 (.t 2)) <|
  qo 42 (.fa 2 12 (.t 41)) <|
  qo 43 (.ia 6 1 (.t 42) (.t 34)) <|
  en (.store 1 (.t 43) (.t 40)) <|
  .nil)
  (.seq (.ops <|
  qo 45 (.cmp .eql (.t 31) (I 2)) <|
  qo 44 (.mv (.t 45)) <|
  .nil)
  (.prune [44, 5, 1, 2, 6, 4, 31] (.cond (.t 44)
  (.dops <|
  qo 46 (.fa 1 1 (.t 5)) <|
  eo 47 (.load 1 false (.t 46)) <|
  .prune [1, 2, 47, 6, 5, 4] <|
  qo 48 (.mv (.t 1)) <|
  qo 49 (.fa 3 8 (.t 2)) <|
  qo 50 (.fa 2 12 (.t 49)) <|
  qo 51 (.ia 6 1 (.t 50) (.t 48)) <|
  .prune [51, 2, 47, 6, 1, 5, 4] <|
  eo 52 (.load 1 false (.t 51)) <|
  qo 53 (.fa 3 8 (.t 2)) <|
  qo 54 (.fa 0 0 (.t 53)) <|
  qo 55 (.ia 8 1 (.t 54) (.t 47)) <|
  en (.store 1 (.t 55) (.t 52)) <|
  .nil)
  (.seq (.ops <|
  qo 57 (.cmp .eql (.t 31) (I 3)) <|
  qo 56 (.mv (.t 57)) <|
  .nil)
  (.cond (.t 56)
  (.dops <|
  .prune [1, 2, 5, 6, 4] <|
  qo 58 (.mv (.t 1)) <|
  qo 59 (.fa 3 8 (.t 2)) <|
  qo 60 (.fa 2 12 (.t 59)) <|
  qo 61 (.ia 6 1 (.t 60) (.t 58)) <|
  eo 62 (.load 1 false (.t 61)) <|
  .prune [5, 62, 2, 58, 6, 1, 4] <|
  qo 63 (.fa 2 2 (.t 5)) <|
  eo 64 (.load 1 false (.t 63)) <|
  qo 65 (.ar .add (.t 62) (.t 64)) <|
  .prune [2, 58, 65, 6, 1, 5, 4] <|
  qo 66 (.fa 3 8 (.t 2)) <|
  qo 67 (.fa 2 12 (.t 66)) <|
  qo 68 (.ia 6 1 (.t 67) (.t 58)) <|
  en (.store 1 (.t 68) (.t 65)) <|
  .nil)
  (.seq (.ops <|
  qo 70 (.cmp .eql (.t 31) (I 5)) <|
  qo 69 (.mv (.t 70)) <|
  .nil)
  (.prune [69, 2, 5, 1, 4, 6, 31] (.cond (.t 69)
  (.seq (.ops <|
  qo 71 (.fa 2 7 (.t 2)) <|
  eo 72 (.load 1 false (.t 71)) <|
  .prune [5, 72, 1, 2, 4, 6] <|
  qo 73 (.fa 1 1 (.t 5)) <|
  eo 74 (.load 1 false (.t 73)) <|
  eo 75 (.call 70 [(.t 72), (.t 74)]) <|
  qo 76 (.mv (.t 1)) <|
  qo 77 (.cmp .neq (.t 75) (.t 76)) <|
  .nil)
  (.prune [77, 2, 1, 5, 4, 6] (.cond (.t 77)
  (.ops <|
  qo 6 (.mv (I 0)) <|
  .nil)
  .skip)))
  (.seq (.ops <|
  qo 79 (.cmp .eql (.t 31) (I 6)) <|
  qo 78 (.mv (.t 79)) <|
  .nil)
  (.cond (.t 78)
  (.seq (.ops <|
  .prune [5, 2, 1, 4, 6] <|
  qo 80 (.fa 1 1 (.t 5)) <|
  eo 81 (.load 1 false (.t 80)) <|
  qo 82 (.fa 0 0 (.t 2)) <|
  eo 83 (.load 1 false (.t 82)) <|
  qo 84 (.len (.t 83)) <|
  .prune [81, 84, 2, 5, 1, 4, 6] <|
  qo 85 (.cmp .geq (.t 81) (.t 84)) <|
  qo 86 (.mv (.t 85)) <|
  .prune [86, 2, 5, 1, 4, 6] <|
  .sc true 92 86 (qo 87 (.fa 2 7 (.t 2)) <|
  eo 88 (.load 1 false (.t 87)) <|
  qo 89 (.fa 1 1 (.t 5)) <|
  eo 90 (.load 1 false (.t 89)) <|
  eo 91 (.call 68 [(.t 88), (.t 90)]) <|
  .nil) (.t 91) <|
  .nil)
  (.prune [92, 2, 1, 5, 4, 6] (.cond (.t 92)
  (.ops <|
  qo 6 (.mv (I 0)) <|
  .nil)
  .skip)))
  (.seq (.ops <|
  qo 94 (.cmp .eql (.t 31) (I 8)) <|
  qo 93 (.mv (.t 94)) <|
  .nil)
  (.prune [93, 1, 5, 2, 6, 4, 31] (.cond (.t 93)
  (.ops <|
  qo 95 (.mv (.t 1)) <|
  qo 96 (.fa 1 1 (.t 5)) <|
  eo 97 (.load 1 false (.t 96)) <|
  .prune [2, 97, 95, 6, 1, 5, 4] <|
  qo 98 (.fa 3 8 (.t 2)) <|
  qo 99 (.fa 1 8 (.t 98)) <|
  qo 100 (.ia 4 1 (.t 99) (.t 97)) <|
  .prune [100, 2, 95, 6, 1, 5, 4] <|
  eo 101 (.load 1 false (.t 100)) <|
  qo 102 (.fa 3 8 (.t 2)) <|
  qo 103 (.fa 2 12 (.t 102)) <|
  qo 104 (.ia 6 1 (.t 103) (.t 95)) <|
  en (.store 1 (.t 104) (.t 101)) <|
  .nil)
  (.seq (.ops <|
  qo 106 (.cmp .eql (.t 31) (I 9)) <|
  qo 105 (.mv (.t 106)) <|
  .nil)
  (.cond (.t 105)
  (.dops <|
  .prune [5, 1, 2, 6, 4] <|
  qo 107 (.fa 1 1 (.t 5)) <|
  eo 108 (.load 1 false (.t 107)) <|
  qo 109 (.mv (.t 1)) <|
  qo 110 (.fa 3 8 (.t 2)) <|
  qo 111 (.fa 2 12 (.t 110)) <|
  qo 112 (.ia 6 1 (.t 111) (.t 109)) <|
  .prune [112, 2, 108, 6, 1, 5, 4] <|
  eo 113 (.load 1 false (.t 112)) <|
  qo 114 (.fa 3 8 (.t 2)) <|
  qo 115 (.fa 1 8 (.t 114)) <|
  qo 116 (.ia 4 1 (.t 115) (.t 108)) <|
  en (.store 1 (.t 116) (.t 113)) <|
  .nil)
  .skip)))))))))))))))))))
  (.prune [6, 2, 1, 5, 4] (.seq (.seq (.ops <|
  qo 117 (.mv (.t 6)) <|
  qo 118 (.cmp .gtr (.t 117) (I 0)) <|
  .nil)
  (.cond (.t 118)
  (.dops <|
  qo 119 (.fa 2 7 (.t 2)) <|
  eo 120 (.load 1 false (.t 119)) <|
  .prune [6, 1, 5, 120, 2, 4] <|
  qo 122 (.mv (.t 6)) <|
  qo 123 (.mv (.t 1)) <|
  qo 124 (.fa 1 1 (.t 5)) <|
  eo 125 (.load 1 false (.t 124)) <|
  qo 126 (.bld (.agg [(.int .i64 0), (.int .i64 0), (.int .i64 0)]) [([.fld 0], 0, 1, (.t 122)), ([.fld 1], 1, 1, (.t 123)), ([.fld 2], 2, 1, (.t 125))]) <|
  .prune [126, 120, 125, 124, 2, 1, 4] <|
  eo 127 (.qbsl 35 3 1 (.agg [(.int .i64 0), (.int .i64 0), (.int .i64 0)]) [(0, (.t 126))]) <|
  eo 121 (.call 60 [(.t 120)]) <|
  en (.again 1 false (.t 124) 125) <|
  .prune [121, 127, 2, 1, 4] <|
  eo 128 (.app 35 3 24 (.t 121) (.t 127)) <|
  qo 129 (.fa 2 7 (.t 2)) <|
  en (.store 1 (.t 129) (.t 128)) <|
  .nil)
  .skip))
  (.prune [2, 1, 4] (.seq (.ops <|
  qo 130 (.fa 4 28 (.t 2)) <|
  eo 131 (.load 1 false (.t 130)) <|
  eo 132 (.call 71 [(.t 131)]) <|
  qo 133 (.mv (.t 1)) <|
  .prune [133, 132, 2, 4] <|
  eo 134 (.bsl 3 1 1 (.int .i64 0) [(0, (.t 133))]) <|
  eo 135 (.app 3 1 8 (.t 132) (.t 134)) <|
  qo 136 (.fa 4 28 (.t 2)) <|
  en (.store 1 (.t 136) (.t 135)) <|
  .nil)
  (.prune [2, 4] (.seq (.ops <|
  eo 137 (.load 29 true (.t 2)) <|
  en (.store 29 (.t 4) (.t 137)) <|
  .nil)
  (.frz 4 dPgR.frz .ret)))))))))))))))
theorem c45 : fnIs Try.prog (qbut [60]) 45 = some (j45.flat, [.cell 4 89], 138) := by kernel_rfl
theorem w45 : j45.wf 138 = true := by kernel_rfl
def Gsg (f : FuncId) (a : List SV) (m : List Res) : Sx.Call := (FH.rd 68 (.two dEs .int) (.one .bool) (fun _ => True) (fun y => begB y.1 y.2.1) <|
  FH.rd 70 (.two dEs .int) (.one .int) (fun _ => True) (fun y => Tr.ownR y.1 y.2.1) <|
  FH.mk 60 (.one dEs) (fun y => y.1.length ≤ 1000000) (fun y => .vec 0 y.1.length) (fun y => [.vec 35 3 (y.1.map dEv.emb)]) <|
  FH.mk 71 (.one dIs) (fun y => y.1.length ≤ 1000000) (fun y => .vec 0 y.1.length) (fun y => [.vec 3 1 (y.1.map DT.int.emb)]) FH.none) f a m
theorem Gsg_eq (f : FuncId) (a : List SV) (m : List Res) : Gsg f a m = (FH.rd 68 (.two dEs .int) (.one .bool) (fun _ => True) (fun y => begB y.1 y.2.1) <|
  FH.rd 70 (.two dEs .int) (.one .int) (fun _ => True) (fun y => Tr.ownR y.1 y.2.1) <|
  FH.mk 60 (.one dEs) (fun y => y.1.length ≤ 1000000) (fun y => .vec 0 y.1.length) (fun y => [.vec 35 3 (y.1.map dEv.emb)]) <|
  FH.mk 71 (.one dIs) (fun y => y.1.length ≤ 1000000) (fun y => .vec 0 y.1.length) (fun y => [.vec 3 1 (y.1.map DT.int.emb)]) FH.none) f a m := nr rfl
theorem Gsg_ok : FHOK Try.prog Gsg := FH.rd_ok (by kernel_rfl) (fun y _ => f_begun y.1 y.2.1) <|
  FH.rd_ok (by kernel_rfl) (fun y _ => f_owner y.1 y.2.1) <|
  FH.mk_ok (by kernel_rfl) (fun y _ => plainM (pv_vec _ _) ⟨plR_vec _ _ dEv _, trivial⟩) (fun y h => f_CopyEv y.1 h) <|
  FH.mk_ok (by kernel_rfl) (fun y _ => plainM (pv_vec _ _) ⟨plR_vec _ _ DT.int _, trivial⟩) (fun y h => f_CopyInt y.1 h) FH.none_ok
theorem tszPg : tsz Try.prog 89 = some (29, true) := by kernel_rfl
theorem stepG_1 (g : Pg) (n : Nat) (h : Fit g.p g.at') (hp : progC badP g.p = 0) (hn : n < g.p.length) (ha : g.at' n < ((g.p.getD n []).length : Int)) (hl : (gl g).length ≤ 1000) (ht : (gt g).length ≤ 1000) (k : ((g.p.getD n []).getD (g.at' n).toNat dOp.dft).kind = 1) : FnOK Try.prog 45 [dPg.emb g, .int .i64 n] [] (dPg.emb (stepG g n (opG g n))) [] := by
  have ho := op_ok hp hn (i := (g.at' n).toNat) (by have := h.at0 n hn; omega)
  have hn6 := h.n
  have ha0 := h.at0 n hn
  have hg := (good_of hp hn).1
  have hw1 : IntKind.i64.wrap (g.at' n + 1) = g.at' n + 1 := IntWalk.i64_in _ (by omega)
  have h16' : (n : Int) < 6 := by omega
  have h17' : (n : Int) < g.p.length := by omega
  refine fn_walkF c45 w45 Gsg_ok rfl ?_
  unfold j45
  have km1 : kindM 1 = 1 := rfl
  have km2 : kindM 2 = 2 := rfl
  have km3 : kindM 3 = 0 := rfl
  have km4 : kindM 4 = 3 := rfl
  have km5 : kindM 5 = 4 := rfl
  have km6 : kindM 6 = 5 := rfl
  have km7 : kindM 7 = 6 := rfl
  have km8 : kindM 8 = 7 := rfl
  have km9 : kindM 9 = 8 := rfl
  unfold gl at hl
  unfold gt at ht
  rw [k, show bnd 1 = 8 by decide] at ho
  simp only [go_sem, ↓reduceIte, Nat.reduceAdd, Nat.reduceMul, Nat.reduceSub, Nat.reduceLT, Nat.reduceLeDiff, Nat.reduceEqDiff, Int.reduceToNat, Int.reduceEq, Int.reduceLT, Int.reduceLE, reduceCtorEq, Gsg_eq, hw1, h16', tszPg, kind_map, k, stepG, evG, opG, enF, upd_eq, List.range_zero, List.map_nil, List.nil_append, gl, gt, Int.toNat_natCast, km1, km2, km3, km4, km5, km6, km7, km8, km9]
  omega
theorem stepG_2 (g : Pg) (n : Nat) (h : Fit g.p g.at') (hp : progC badP g.p = 0) (hn : n < g.p.length) (ha : g.at' n < ((g.p.getD n []).length : Int)) (hl : (gl g).length ≤ 1000) (ht : (gt g).length ≤ 1000) (k : ((g.p.getD n []).getD (g.at' n).toNat dOp.dft).kind = 2) : FnOK Try.prog 45 [dPg.emb g, .int .i64 n] [] (dPg.emb (stepG g n (opG g n))) [] := by
  have ho := op_ok hp hn (i := (g.at' n).toNat) (by have := h.at0 n hn; omega)
  have hn6 := h.n
  have ha0 := h.at0 n hn
  have hg := (good_of hp hn).1
  have hw1 : IntKind.i64.wrap (g.at' n + 1) = g.at' n + 1 := IntWalk.i64_in _ (by omega)
  have h16' : (n : Int) < 6 := by omega
  have h17' : (n : Int) < g.p.length := by omega
  refine fn_walkF c45 w45 Gsg_ok rfl ?_
  unfold j45
  have km1 : kindM 1 = 1 := rfl
  have km2 : kindM 2 = 2 := rfl
  have km3 : kindM 3 = 0 := rfl
  have km4 : kindM 4 = 3 := rfl
  have km5 : kindM 5 = 4 := rfl
  have km6 : kindM 6 = 5 := rfl
  have km7 : kindM 7 = 6 := rfl
  have km8 : kindM 8 = 7 := rfl
  have km9 : kindM 9 = 8 := rfl
  unfold gl at hl
  unfold gt at ht
  rw [k, show bnd 2 = 8 by decide] at ho
  simp only [go_sem, ↓reduceIte, Nat.reduceAdd, Nat.reduceMul, Nat.reduceSub, Nat.reduceLT, Nat.reduceLeDiff, Nat.reduceEqDiff, Int.reduceToNat, Int.reduceEq, Int.reduceLT, Int.reduceLE, reduceCtorEq, Gsg_eq, hw1, h16', tszPg, kind_map, k, stepG, evG, opG, enF, upd_eq, List.range_zero, List.map_nil, List.nil_append, gl, gt, Int.toNat_natCast, km1, km2, km3, km4, km5, km6, km7, km8, km9]
  omega
theorem stepG_3 (g : Pg) (n : Nat) (h : Fit g.p g.at') (hp : progC badP g.p = 0) (hn : n < g.p.length) (ha : g.at' n < ((g.p.getD n []).length : Int)) (hl : (gl g).length ≤ 1000) (ht : (gt g).length ≤ 1000) (k : ((g.p.getD n []).getD (g.at' n).toNat dOp.dft).kind = 3) : FnOK Try.prog 45 [dPg.emb g, .int .i64 n] [] (dPg.emb (stepG g n (opG g n))) [] := by
  have ho := op_ok hp hn (i := (g.at' n).toNat) (by have := h.at0 n hn; omega)
  have hn6 := h.n
  have ha0 := h.at0 n hn
  have hg := (good_of hp hn).1
  have hw1 : IntKind.i64.wrap (g.at' n + 1) = g.at' n + 1 := IntWalk.i64_in _ (by omega)
  have h16' : (n : Int) < 6 := by omega
  have h17' : (n : Int) < g.p.length := by omega
  refine fn_walkF c45 w45 Gsg_ok rfl ?_
  unfold j45
  have km1 : kindM 1 = 1 := rfl
  have km2 : kindM 2 = 2 := rfl
  have km3 : kindM 3 = 0 := rfl
  have km4 : kindM 4 = 3 := rfl
  have km5 : kindM 5 = 4 := rfl
  have km6 : kindM 6 = 5 := rfl
  have km7 : kindM 7 = 6 := rfl
  have km8 : kindM 8 = 7 := rfl
  have km9 : kindM 9 = 8 := rfl
  unfold gl at hl
  unfold gt at ht
  simp only [go_sem, ↓reduceIte, Nat.reduceAdd, Nat.reduceMul, Nat.reduceSub, Nat.reduceLT, Nat.reduceLeDiff, Nat.reduceEqDiff, Int.reduceToNat, Int.reduceEq, Int.reduceLT, Int.reduceLE, reduceCtorEq, Gsg_eq, hw1, h16', tszPg, kind_map, k, stepG, evG, opG, enF, upd_eq, List.range_zero, List.map_nil, List.nil_append, gl, gt, Int.toNat_natCast, km1, km2, km3, km4, km5, km6, km7, km8, km9]
  omega
theorem stepG_4 (g : Pg) (n : Nat) (h : Fit g.p g.at') (hp : progC badP g.p = 0) (hn : n < g.p.length) (ha : g.at' n < ((g.p.getD n []).length : Int)) (hl : (gl g).length ≤ 1000) (ht : (gt g).length ≤ 1000) (k : ((g.p.getD n []).getD (g.at' n).toNat dOp.dft).kind = 4) : FnOK Try.prog 45 [dPg.emb g, .int .i64 n] [] (dPg.emb (stepG g n (opG g n))) [] := by
  have ho := op_ok hp hn (i := (g.at' n).toNat) (by have := h.at0 n hn; omega)
  have hn6 := h.n
  have ha0 := h.at0 n hn
  have hg := (good_of hp hn).1
  have hw1 : IntKind.i64.wrap (g.at' n + 1) = g.at' n + 1 := IntWalk.i64_in _ (by omega)
  have h16' : (n : Int) < 6 := by omega
  have h17' : (n : Int) < g.p.length := by omega
  refine fn_walkF c45 w45 Gsg_ok rfl ?_
  unfold j45
  have km1 : kindM 1 = 1 := rfl
  have km2 : kindM 2 = 2 := rfl
  have km3 : kindM 3 = 0 := rfl
  have km4 : kindM 4 = 3 := rfl
  have km5 : kindM 5 = 4 := rfl
  have km6 : kindM 6 = 5 := rfl
  have km7 : kindM 7 = 6 := rfl
  have km8 : kindM 8 = 7 := rfl
  have km9 : kindM 9 = 8 := rfl
  unfold gl at hl
  unfold gt at ht
  simp only [go_sem, ↓reduceIte, Nat.reduceAdd, Nat.reduceMul, Nat.reduceSub, Nat.reduceLT, Nat.reduceLeDiff, Nat.reduceEqDiff, Int.reduceToNat, Int.reduceEq, Int.reduceLT, Int.reduceLE, reduceCtorEq, Gsg_eq, hw1, h16', tszPg, kind_map, k, stepG, evG, opG, enF, upd_eq, List.range_zero, List.map_nil, List.nil_append, gl, gt, Int.toNat_natCast, km1, km2, km3, km4, km5, km6, km7, km8, km9]
  omega
theorem stepG_5 (g : Pg) (n : Nat) (h : Fit g.p g.at') (hp : progC badP g.p = 0) (hn : n < g.p.length) (ha : g.at' n < ((g.p.getD n []).length : Int)) (hl : (gl g).length ≤ 1000) (ht : (gt g).length ≤ 1000) (k : ((g.p.getD n []).getD (g.at' n).toNat dOp.dft).kind = 5) : FnOK Try.prog 45 [dPg.emb g, .int .i64 n] [] (dPg.emb (stepG g n (opG g n))) [] := by
  have ho := op_ok hp hn (i := (g.at' n).toNat) (by have := h.at0 n hn; omega)
  have hn6 := h.n
  have ha0 := h.at0 n hn
  have hg := (good_of hp hn).1
  have hw1 : IntKind.i64.wrap (g.at' n + 1) = g.at' n + 1 := IntWalk.i64_in _ (by omega)
  have h16' : (n : Int) < 6 := by omega
  have h17' : (n : Int) < g.p.length := by omega
  refine fn_walkF c45 w45 Gsg_ok rfl ?_
  unfold j45
  have km1 : kindM 1 = 1 := rfl
  have km2 : kindM 2 = 2 := rfl
  have km3 : kindM 3 = 0 := rfl
  have km4 : kindM 4 = 3 := rfl
  have km5 : kindM 5 = 4 := rfl
  have km6 : kindM 6 = 5 := rfl
  have km7 : kindM 7 = 6 := rfl
  have km8 : kindM 8 = 7 := rfl
  have km9 : kindM 9 = 8 := rfl
  unfold gl at hl
  unfold gt at ht
  by_cases c : Tr.ownR (g.l.getD []) ((g.p.getD n []).getD (g.at' n).toNat dOp.dft).obj = n
  · simp only [go_sem, ↓reduceIte, Nat.reduceAdd, Nat.reduceMul, Nat.reduceSub, Nat.reduceLT, Nat.reduceLeDiff, Nat.reduceEqDiff, Int.reduceToNat, Int.reduceEq, Int.reduceLT, Int.reduceLE, reduceCtorEq, Gsg_eq, hw1, h16', tszPg, kind_map, k, stepG, evG, opG, enF, upd_eq, List.range_zero, List.map_nil, List.nil_append, gl, gt, Int.toNat_natCast, km1, km2, km3, km4, km5, km6, km7, km8, km9, c]
    omega
  · simp only [go_sem, ↓reduceIte, Nat.reduceAdd, Nat.reduceMul, Nat.reduceSub, Nat.reduceLT, Nat.reduceLeDiff, Nat.reduceEqDiff, Int.reduceToNat, Int.reduceEq, Int.reduceLT, Int.reduceLE, reduceCtorEq, Gsg_eq, hw1, h16', tszPg, kind_map, k, stepG, evG, opG, enF, upd_eq, List.range_zero, List.map_nil, List.nil_append, gl, gt, Int.toNat_natCast, km1, km2, km3, km4, km5, km6, km7, km8, km9, c]
    omega
theorem stepG_6 (g : Pg) (n : Nat) (h : Fit g.p g.at') (hp : progC badP g.p = 0) (hn : n < g.p.length) (ha : g.at' n < ((g.p.getD n []).length : Int)) (hl : (gl g).length ≤ 1000) (ht : (gt g).length ≤ 1000) (k : ((g.p.getD n []).getD (g.at' n).toNat dOp.dft).kind = 6) : FnOK Try.prog 45 [dPg.emb g, .int .i64 n] [] (dPg.emb (stepG g n (opG g n))) [] := by
  have ho := op_ok hp hn (i := (g.at' n).toNat) (by have := h.at0 n hn; omega)
  have hn6 := h.n
  have ha0 := h.at0 n hn
  have hg := (good_of hp hn).1
  have hw1 : IntKind.i64.wrap (g.at' n + 1) = g.at' n + 1 := IntWalk.i64_in _ (by omega)
  have h16' : (n : Int) < 6 := by omega
  have h17' : (n : Int) < g.p.length := by omega
  refine fn_walkF c45 w45 Gsg_ok rfl ?_
  unfold j45
  have km1 : kindM 1 = 1 := rfl
  have km2 : kindM 2 = 2 := rfl
  have km3 : kindM 3 = 0 := rfl
  have km4 : kindM 4 = 3 := rfl
  have km5 : kindM 5 = 4 := rfl
  have km6 : kindM 6 = 5 := rfl
  have km7 : kindM 7 = 6 := rfl
  have km8 : kindM 8 = 7 := rfl
  have km9 : kindM 9 = 8 := rfl
  unfold gl at hl
  unfold gt at ht
  rw [k, show bnd 6 = 6 by decide] at ho
  by_cases c : (g.p.length : Int) ≤ ((g.p.getD n []).getD (g.at' n).toNat dOp.dft).obj
  · simp only [go_sem, ↓reduceIte, Nat.reduceAdd, Nat.reduceMul, Nat.reduceSub, Nat.reduceLT, Nat.reduceLeDiff, Nat.reduceEqDiff, Int.reduceToNat, Int.reduceEq, Int.reduceLT, Int.reduceLE, reduceCtorEq, Gsg_eq, hw1, h16', tszPg, kind_map, k, stepG, evG, opG, enF, upd_eq, List.range_zero, List.map_nil, List.nil_append, gl, gt, Int.toNat_natCast, km1, km2, km3, km4, km5, km6, km7, km8, km9, c, decide_true, Bool.true_or, true_or]
    omega
  · cases c2 : begB (g.l.getD []) ((g.p.getD n []).getD (g.at' n).toNat dOp.dft).obj with
    | true =>
      simp only [go_sem, ↓reduceIte, Nat.reduceAdd, Nat.reduceMul, Nat.reduceSub, Nat.reduceLT, Nat.reduceLeDiff, Nat.reduceEqDiff, Int.reduceToNat, Int.reduceEq, Int.reduceLT, Int.reduceLE, reduceCtorEq, Gsg_eq, hw1, h16', tszPg, kind_map, k, stepG, evG, opG, enF, upd_eq, List.range_zero, List.map_nil, List.nil_append, gl, gt, Int.toNat_natCast, km1, km2, km3, km4, km5, km6, km7, km8, km9, c, c2, decide_false, Bool.false_or, or_true]
      omega
    | false =>
      simp only [go_sem, ↓reduceIte, Nat.reduceAdd, Nat.reduceMul, Nat.reduceSub, Nat.reduceLT, Nat.reduceLeDiff, Nat.reduceEqDiff, Int.reduceToNat, Int.reduceEq, Int.reduceLT, Int.reduceLE, reduceCtorEq, Gsg_eq, hw1, h16', tszPg, kind_map, k, stepG, evG, opG, enF, upd_eq, List.range_zero, List.map_nil, List.nil_append, gl, gt, Int.toNat_natCast, km1, km2, km3, km4, km5, km6, km7, km8, km9, c, c2, decide_false, Bool.false_or, or_false]
      omega
theorem stepG_7 (g : Pg) (n : Nat) (h : Fit g.p g.at') (hp : progC badP g.p = 0) (hn : n < g.p.length) (ha : g.at' n < ((g.p.getD n []).length : Int)) (hl : (gl g).length ≤ 1000) (ht : (gt g).length ≤ 1000) (k : ((g.p.getD n []).getD (g.at' n).toNat dOp.dft).kind = 7) : FnOK Try.prog 45 [dPg.emb g, .int .i64 n] [] (dPg.emb (stepG g n (opG g n))) [] := by
  have ho := op_ok hp hn (i := (g.at' n).toNat) (by have := h.at0 n hn; omega)
  have hn6 := h.n
  have ha0 := h.at0 n hn
  have hg := (good_of hp hn).1
  have hw1 : IntKind.i64.wrap (g.at' n + 1) = g.at' n + 1 := IntWalk.i64_in _ (by omega)
  have h16' : (n : Int) < 6 := by omega
  have h17' : (n : Int) < g.p.length := by omega
  refine fn_walkF c45 w45 Gsg_ok rfl ?_
  unfold j45
  have km1 : kindM 1 = 1 := rfl
  have km2 : kindM 2 = 2 := rfl
  have km3 : kindM 3 = 0 := rfl
  have km4 : kindM 4 = 3 := rfl
  have km5 : kindM 5 = 4 := rfl
  have km6 : kindM 6 = 5 := rfl
  have km7 : kindM 7 = 6 := rfl
  have km8 : kindM 8 = 7 := rfl
  have km9 : kindM 9 = 8 := rfl
  unfold gl at hl
  unfold gt at ht
  simp only [go_sem, ↓reduceIte, Nat.reduceAdd, Nat.reduceMul, Nat.reduceSub, Nat.reduceLT, Nat.reduceLeDiff, Nat.reduceEqDiff, Int.reduceToNat, Int.reduceEq, Int.reduceLT, Int.reduceLE, reduceCtorEq, Gsg_eq, hw1, h16', tszPg, kind_map, k, stepG, evG, opG, enF, upd_eq, List.range_zero, List.map_nil, List.nil_append, gl, gt, Int.toNat_natCast, km1, km2, km3, km4, km5, km6, km7, km8, km9]
  omega
theorem stepG_8 (g : Pg) (n : Nat) (h : Fit g.p g.at') (hp : progC badP g.p = 0) (hn : n < g.p.length) (ha : g.at' n < ((g.p.getD n []).length : Int)) (hl : (gl g).length ≤ 1000) (ht : (gt g).length ≤ 1000) (k : ((g.p.getD n []).getD (g.at' n).toNat dOp.dft).kind = 8) : FnOK Try.prog 45 [dPg.emb g, .int .i64 n] [] (dPg.emb (stepG g n (opG g n))) [] := by
  have ho := op_ok hp hn (i := (g.at' n).toNat) (by have := h.at0 n hn; omega)
  have hn6 := h.n
  have ha0 := h.at0 n hn
  have hg := (good_of hp hn).1
  have hw1 : IntKind.i64.wrap (g.at' n + 1) = g.at' n + 1 := IntWalk.i64_in _ (by omega)
  have h16' : (n : Int) < 6 := by omega
  have h17' : (n : Int) < g.p.length := by omega
  refine fn_walkF c45 w45 Gsg_ok rfl ?_
  unfold j45
  have km1 : kindM 1 = 1 := rfl
  have km2 : kindM 2 = 2 := rfl
  have km3 : kindM 3 = 0 := rfl
  have km4 : kindM 4 = 3 := rfl
  have km5 : kindM 5 = 4 := rfl
  have km6 : kindM 6 = 5 := rfl
  have km7 : kindM 7 = 6 := rfl
  have km8 : kindM 8 = 7 := rfl
  have km9 : kindM 9 = 8 := rfl
  unfold gl at hl
  unfold gt at ht
  rw [k, show bnd 8 = 4 by decide] at ho
  simp only [go_sem, ↓reduceIte, Nat.reduceAdd, Nat.reduceMul, Nat.reduceSub, Nat.reduceLT, Nat.reduceLeDiff, Nat.reduceEqDiff, Int.reduceToNat, Int.reduceEq, Int.reduceLT, Int.reduceLE, reduceCtorEq, Gsg_eq, hw1, h16', tszPg, kind_map, k, stepG, evG, opG, enF, upd_eq, List.range_zero, List.map_nil, List.nil_append, gl, gt, Int.toNat_natCast, km1, km2, km3, km4, km5, km6, km7, km8, km9]
  omega
theorem stepG_9 (g : Pg) (n : Nat) (h : Fit g.p g.at') (hp : progC badP g.p = 0) (hn : n < g.p.length) (ha : g.at' n < ((g.p.getD n []).length : Int)) (hl : (gl g).length ≤ 1000) (ht : (gt g).length ≤ 1000) (k : ((g.p.getD n []).getD (g.at' n).toNat dOp.dft).kind = 9) : FnOK Try.prog 45 [dPg.emb g, .int .i64 n] [] (dPg.emb (stepG g n (opG g n))) [] := by
  have ho := op_ok hp hn (i := (g.at' n).toNat) (by have := h.at0 n hn; omega)
  have hn6 := h.n
  have ha0 := h.at0 n hn
  have hg := (good_of hp hn).1
  have hw1 : IntKind.i64.wrap (g.at' n + 1) = g.at' n + 1 := IntWalk.i64_in _ (by omega)
  have h16' : (n : Int) < 6 := by omega
  have h17' : (n : Int) < g.p.length := by omega
  refine fn_walkF c45 w45 Gsg_ok rfl ?_
  unfold j45
  have km1 : kindM 1 = 1 := rfl
  have km2 : kindM 2 = 2 := rfl
  have km3 : kindM 3 = 0 := rfl
  have km4 : kindM 4 = 3 := rfl
  have km5 : kindM 5 = 4 := rfl
  have km6 : kindM 6 = 5 := rfl
  have km7 : kindM 7 = 6 := rfl
  have km8 : kindM 8 = 7 := rfl
  have km9 : kindM 9 = 8 := rfl
  unfold gl at hl
  unfold gt at ht
  rw [k, show bnd 9 = 4 by decide] at ho
  simp only [go_sem, ↓reduceIte, Nat.reduceAdd, Nat.reduceMul, Nat.reduceSub, Nat.reduceLT, Nat.reduceLeDiff, Nat.reduceEqDiff, Int.reduceToNat, Int.reduceEq, Int.reduceLT, Int.reduceLE, reduceCtorEq, Gsg_eq, hw1, h16', tszPg, kind_map, k, stepG, evG, opG, enF, upd_eq, List.range_zero, List.map_nil, List.nil_append, gl, gt, Int.toNat_natCast, km1, km2, km3, km4, km5, km6, km7, km8, km9]
  omega
theorem f_StepG (g : Pg) (n : Nat) (h : Fit g.p g.at') (hp : progC badP g.p = 0) (hn : n < g.p.length) (ha : g.at' n < ((g.p.getD n []).length : Int)) (hl : (gl g).length ≤ 1000) (ht : (gt g).length ≤ 1000) :
    FnOK Try.prog 45 [dPg.emb g, .int .i64 n] [] (dPg.emb (stepG g n (opG g n))) [] := by
  have ho := op_ok hp hn (i := (g.at' n).toNat) (by have := h.at0 n hn; omega)
  rcases bnd_kind ho with k | k | k | k | k | k | k | k | k
  · exact stepG_1 g n h hp hn ha hl ht k
  · exact stepG_2 g n h hp hn ha hl ht k
  · exact stepG_3 g n h hp hn ha hl ht k
  · exact stepG_4 g n h hp hn ha hl ht k
  · exact stepG_5 g n h hp hn ha hl ht k
  · exact stepG_6 g n h hp hn ha hl ht k
  · exact stepG_7 g n h hp hn ha hl ht k
  · exact stepG_8 g n h hp hn ha hl ht k
  · exact stepG_9 g n h hp hn ha hl ht k
end Go.Proofs.Ytafcmgfmmlnngaa.Rn
