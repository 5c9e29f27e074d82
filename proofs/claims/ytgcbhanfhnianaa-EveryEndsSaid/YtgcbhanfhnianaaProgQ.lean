/- States of a program that runs: what the package prog makes of them. Conditions: none. -/
import Derived.Test.YtgcbhanfhnianaaProgC
import Derived.Test.YtgcbhanfhnianaaTraceR
import Derived.Test.YtgcbhanfhnianaaBase
import Derived.Test.YtgcbhanfhnianaaRows
import Derived.WalkKit
import Derived.Test.YtgcbhanfhnianaaCpy
import Derived.Test.YtgcbhanfhnianaaSx32
section
set_option linter.unusedSimpArgs false
set_option linter.unusedVariables false
set_option maxRecDepth 100000
open Go Go.Sx Go.Proofs
namespace Go.Proofs.Ytgcbhanfhnianaa.D
structure En where
  mem : Nat → Int
  vols : Nat → Int
  has : Nat → Int
  done : Bool
  stuck : Bool
abbrev tEn : TT := .st [.arr 8 1 (.int .i64), .arr 4 1 (.int .i64), .arr 6 1 (.int .i64), .bool, .bool]
def dEn : DT En := (DT.ofTT tEn).iso (fun x => ⟨x.1, x.2.1, x.2.2.1, x.2.2.2.1, x.2.2.2.2.1⟩) (fun e => (e.mem, e.vols, e.has, e.done, e.stuck, ())) (fun _ => rfl) (fun _ => rfl)
instance : Flat dEn := (Flat.ofTT rfl).iso
theorem en_emb (e : En) : dEn.emb e = .agg [.arr 8 1 fun i => .int .i64 (e.mem i), .arr 4 1 fun i => .int .i64 (e.vols i), .arr 6 1 fun i => .int .i64 (e.has i), .bool e.done, .bool e.stuck] := nr rfl
theorem en_decV (m : List Res) (f g h : Nat → Int) (a b : Bool) : dEn.decV m (.agg [.arr 8 1 fun i => .int .i64 (f i), .arr 4 1 fun i => .int .i64 (g i), .arr 6 1 fun i => .int .i64 (h i), .bool a, .bool b]) = ⟨f, g, h, a, b⟩ := nr rfl
theorem en_decP (m : List Res) (f g h : Nat → Int) (a b : Bool) : dEn.decP m (.agg [.arr 8 1 fun i => .int .i64 (f i), .arr 4 1 fun i => .int .i64 (g i), .arr 6 1 fun i => .int .i64 (h i), .bool a, .bool b]) = True := eq_true ⟨⟨rfl, rfl, fun _ _ => rfl⟩, ⟨rfl, rfl, fun _ _ => rfl⟩, ⟨rfl, rfl, fun _ _ => rfl⟩, trivial, trivial, trivial⟩
theorem en_eta (e : En) : (⟨e.mem, e.vols, e.has, e.done, e.stuck⟩ : En) = e := nr rfl
attribute [go_sem] en_emb en_decV en_decP en_eta
structure Sta where
  en : En
  at' : Nat → Int
  begun : Nat → Bool
  owner : Nat → Int
def dSta : DT Sta := (DT.ofTT (.st [tEn, .arr 6 1 (.int .i64), .arr 6 1 .bool, .arr 5 1 (.int .i64)])).iso (fun x => ⟨⟨x.1.1, x.1.2.1, x.1.2.2.1, x.1.2.2.2.1, x.1.2.2.2.2.1⟩, x.2.1, x.2.2.1, x.2.2.2.1⟩) (fun s => ((s.en.mem, s.en.vols, s.en.has, s.en.done, s.en.stuck, ()), s.at', s.begun, s.owner, ())) (fun _ => rfl) (fun _ => rfl)
instance : Flat dSta := (Flat.ofTT rfl).iso
theorem sta_emb (s : Sta) : dSta.emb s = .agg [.agg [.arr 8 1 fun i => .int .i64 (s.en.mem i), .arr 4 1 fun i => .int .i64 (s.en.vols i), .arr 6 1 fun i => .int .i64 (s.en.has i), .bool s.en.done, .bool s.en.stuck], .arr 6 1 fun i => .int .i64 (s.at' i), .arr 6 1 fun i => .bool (s.begun i), .arr 5 1 fun i => .int .i64 (s.owner i)] := nr rfl
theorem sta_decV (m : List Res) (f g h k o : Nat → Int) (a b : Bool) (l : Nat → Bool) : dSta.decV m (.agg [.agg [.arr 8 1 fun i => .int .i64 (f i), .arr 4 1 fun i => .int .i64 (g i), .arr 6 1 fun i => .int .i64 (h i), .bool a, .bool b], .arr 6 1 fun i => .int .i64 (k i), .arr 6 1 fun i => .bool (l i), .arr 5 1 fun i => .int .i64 (o i)]) = ⟨⟨f, g, h, a, b⟩, k, l, o⟩ := nr rfl
theorem sta_decP (m : List Res) (f g h k o : Nat → Int) (a b : Bool) (l : Nat → Bool) : dSta.decP m (.agg [.agg [.arr 8 1 fun i => .int .i64 (f i), .arr 4 1 fun i => .int .i64 (g i), .arr 6 1 fun i => .int .i64 (h i), .bool a, .bool b], .arr 6 1 fun i => .int .i64 (k i), .arr 6 1 fun i => .bool (l i), .arr 5 1 fun i => .int .i64 (o i)]) = True := eq_true ⟨⟨⟨rfl, rfl, fun _ _ => rfl⟩, ⟨rfl, rfl, fun _ _ => rfl⟩, ⟨rfl, rfl, fun _ _ => rfl⟩, trivial, trivial, trivial⟩, ⟨rfl, rfl, fun _ _ => rfl⟩, ⟨rfl, rfl, fun _ _ => trivial⟩, ⟨rfl, rfl, fun _ _ => rfl⟩, trivial⟩
theorem sta_eta (s : Sta) : (⟨⟨s.en.mem, s.en.vols, s.en.has, s.en.done, s.en.stuck⟩, s.at', s.begun, s.owner⟩ : Sta) = s := nr rfl
theorem sta_eta2 (s : Sta) : (⟨s.en, s.at', s.begun, s.owner⟩ : Sta) = s := nr rfl
attribute [go_sem] sta_emb sta_decV sta_decP sta_eta sta_eta2
end Go.Proofs.Ytgcbhanfhnianaa.D
namespace Go.Proofs.Ytgcbhanfhnianaa.Rn
open Go.Proofs.Ytgcbhanfhnianaa.D Go.Proofs.Ytgcbhanfhnianaa.Pg Go.Proofs.Ytgcbhanfhnianaa.Tr

def j89 : JC :=
  (.seq (.ops <|
  qo 6 (.mv (.c .nilp)) <|
  .nil)
  (.seq (.seq (.dops <|
  qo 7 (.mv (.t 2)) <|
  qo 8 (.cmp .lss (.t 7) (I 0)) <|
  qo 9 (.mv (.t 8)) <|
  .sc true 14 9 (qo 10 (.mv (.t 2)) <|
  qo 11 (.mv (.t 1)) <|
  qo 12 (.len (.t 11)) <|
  qo 13 (.cmp .geq (.t 10) (.t 12)) <|
  .nil) (.t 13) <|
  qo 15 (.mv (.t 14)) <|
  .sc true 23 15 (qo 16 (.mv (.t 0)) <|
  qo 17 (.mv (.t 2)) <|
  qo 18 (.nck (.t 16)) <|
  qo 19 (.fa 2 26 (.t 18)) <|
  qo 20 (.ia 6 1 (.t 19) (.t 17)) <|
  eo 21 (.load 1 false (.t 20)) <|
  qo 22 (.nt (.t 21)) <|
  .nil) (.t 22) <|
  .prune [23, 0, 2, 1] <|
  qo 24 (.mv (.t 23)) <|
  .sc true 37 24 (qo 25 (.mv (.t 0)) <|
  qo 26 (.mv (.t 2)) <|
  qo 27 (.nck (.t 25)) <|
  qo 28 (.fa 1 20 (.t 27)) <|
  qo 29 (.ia 6 1 (.t 28) (.t 26)) <|
  eo 30 (.load 1 false (.t 29)) <|
  qo 31 (.mv (.t 1)) <|
  qo 32 (.mv (.t 2)) <|
  qo 33 (.is 1 (.t 31) (.t 32)) <|
  eo 34 (.load 1 false (.t 33)) <|
  qo 35 (.len (.t 34)) <|
  qo 36 (.cmp .eql (.t 30) (.t 35)) <|
  .nil) (.t 36) <|
  .nil)
  (.prune [37, 1, 2, 0] (.cond (.t 37)
  (.seq (.ops <|
  qo 6 (.mv (.c .nilp)) <|
  .nil)
  .ret)
  .skip)))
  (.prune [1, 2, 0] (.seq (.dops <|
  qo 38 (.mv (.t 1)) <|
  qo 39 (.mv (.t 2)) <|
  qo 40 (.is 1 (.t 38) (.t 39)) <|
  eo 41 (.load 1 false (.t 40)) <|
  .prune [0, 2, 41] <|
  qo 42 (.mv (.t 0)) <|
  qo 43 (.mv (.t 2)) <|
  qo 44 (.nck (.t 42)) <|
  qo 45 (.fa 1 20 (.t 44)) <|
  .prune [45, 43, 41] <|
  qo 46 (.ia 6 1 (.t 45) (.t 43)) <|
  eo 47 (.load 1 false (.t 46)) <|
  qo 48 (.is 3 (.t 41) (.t 47)) <|
  qo 6 (.mv (.t 48)) <|
  .nil)
  .ret))))
theorem c89 : fnIs Try.prog qall 89 = some (j89.flat, [.tmp 6], 49) := by kernel_rfl
theorem w89 : j89.wf 49 = true := by kernel_rfl
structure Fit (p : List (List PO)) (at' : Nat → Int) : Prop where
  n : p.length ≤ 6
  at0 : ∀ t : Nat, t < p.length → 0 ≤ at' t ∧ at' t ≤ (p.getD t []).length
def nextF (s : Sta) (p : List (List PO)) (t : Int) : Option (List PO × Nat) :=
  if t < 0 ∨ (p.length : Int) ≤ t then none else if s.begun t.toNat = false then none else if s.at' t.toNat = (p.getD t.toNat []).length then none else some (p.getD t.toNat [], (s.at' t.toNat).toNat)
abbrev dNx : DP (Option (List PO × Nat)) := DP.opt (DT.eptr 3 dOp)
theorem f_next (s : Sta) (p : List (List PO)) (t : Int) (h : Fit p s.at') : FnOK Try.prog 89 [.ptr 0 [] 0, dProg.emb p, .int .i64 t] [.blk 84 (dSta.emb s)] (dNx.emb (nextF s p t)) [.blk 84 (dSta.emb s)] := by
  refine fn_walkF c89 w89 FH.none_ok rfl ?_
  unfold j89
  simp only [go_sem, ↓reduceIte, Nat.reduceAdd, Nat.reduceMul, Nat.reduceSub, Nat.reduceLT, Nat.reduceLeDiff, Nat.reduceEqDiff, Int.reduceToNat, Int.reduceEq, Int.reduceLT, Int.reduceLE, reduceCtorEq]
  have hn := h.n
  have hb : ∀ a b c d : Bool, (a || b || c || d) = true → a = true ∨ b = true ∨ c = true ∨ d = true := by decide
  have hf : ∀ a b c d : Bool, (a || b || c || d) = false → a = false ∧ b = false ∧ c = false ∧ d = false := by decide
  refine ⟨fun h1 => ?_, fun h1 => ?_, fun h1 => ?_, fun h1 => ?_⟩
  · simp only [Bool.or_eq_false_iff, decide_eq_false_iff_not] at h1
    omega
  · simp only [Bool.or_eq_false_iff, decide_eq_false_iff_not] at h1
    omega
  · unfold nextF
    by_cases ht : t < 0 ∨ (p.length : Int) ≤ t
    · rw [if_pos ht]; rfl
    · rw [if_neg ht]
      simp only [show decide (t < 0) = false by simp; omega, show decide ((p.length : Int) ≤ t) = false by simp; omega, Bool.false_or, Bool.or_eq_true, Bool.not_eq_true', decide_eq_true_eq] at h1
      rcases h1 with h1 | h1
      · rw [if_pos h1]; rfl
      · rw [if_pos h1]; split <;> rfl
  · obtain ⟨g1, g2, g3, g4⟩ := hf _ _ _ _ h1
    simp only [decide_eq_false_iff_not, Bool.not_eq_false'] at g1 g2 g3 g4
    have ha := h.at0 t.toNat (by omega)
    rw [nextF, if_neg (by omega), if_neg (by rw [g3]; simp), if_neg g4]
    exact ⟨⟨by omega, by omega⟩, ⟨by omega, by omega⟩, ⟨by omega, by omega⟩, rfl⟩
theorem next_some {s : Sta} {p : List (List PO)} {t : Int} {l : List PO} {i : Nat} (hf : Fit p s.at') (h : nextF s p t = some (l, i)) : ∃ n : Nat, t = n ∧ n < p.length ∧ s.begun n = true ∧ l = p.getD n [] ∧ s.at' n = i ∧ i < l.length := by
  unfold nextF at h
  split at h
  · cases h
  rename_i h1
  split at h
  · cases h
  rename_i h2
  split at h
  · cases h
  rename_i h3
  simp only [Option.some.injEq, Prod.mk.injEq] at h
  obtain ⟨rfl, rfl⟩ := h
  have ha := hf.at0 t.toNat (by omega)
  exact ⟨t.toNat, by omega, by omega, by simpa using h2, rfl, by omega, by omega⟩
theorem op_ok {p : List (List PO)} (hp : progC badP p = 0) {n i : Nat} (hn : n < p.length) (hi : i < (p.getD n []).length) : 0 ≤ ((p.getD n []).getD i dOp.dft).obj ∧ ((p.getD n []).getD i dOp.dft).obj < bnd ((p.getD n []).getD i dOp.dft).kind := by
  have := (good_of hp hn).2 i hi
  simp only [badP, Bool.or_eq_false_iff, decide_eq_false_iff_not] at this
  omega
def canF (s : Sta) (p : List (List PO)) (t : Int) : Bool := match nextF s p t with
  | none => false
  | some (l, i) => if (l.getD i dOp.dft).kind = 4 then decide (s.owner (l.getD i dOp.dft).obj.toNat = 0) else
    if (l.getD i dOp.dft).kind = 7 then decide ((l.getD i dOp.dft).obj < p.length) && !decide ((l.getD i dOp.dft).obj = t) && s.begun (l.getD i dOp.dft).obj.toNat && decide (s.at' (l.getD i dOp.dft).obj.toNat = (p.getD (l.getD i dOp.dft).obj.toNat []).length) else true

def j44 : JC :=
  (.seq (.ops <|
  qo 6 (.mv (B false)) <|
  .nil)
  (.seq (.ops <|
  qo 8 (.mv (.t 0)) <|
  qo 9 (.mv (.t 1)) <|
  qo 10 (.mv (.t 2)) <|
  eo 11 (.call 89 [(.t 8), (.t 9), (.t 10)]) <|
  qo 7 (.mv (.t 11)) <|
  .nil)
  (.seq (.block 0 (.seq (.ops <|
  qo 13 (.mv (.t 7)) <|
  qo 14 (.pnil false (.t 13)) <|
  qo 12 (.mv (.t 14)) <|
  .nil)
  (.cond (.t 12)
  (.seq (.ops <|
  qo 6 (.mv (B false)) <|
  .nil)
  .ret)
  (.seq (.ops <|
  .prune [7, 0, 1, 2] <|
  qo 16 (.mv (.t 7)) <|
  qo 17 (.nck (.t 16)) <|
  qo 18 (.fa 0 0 (.t 17)) <|
  eo 19 (.load 1 false (.t 18)) <|
  qo 20 (.cmp .eql (.t 19) (I 4)) <|
  qo 15 (.mv (.t 20)) <|
  .nil)
  (.prune [15, 0, 7, 1, 2] (.cond (.t 15)
  (.seq (.dops <|
  qo 21 (.mv (.t 0)) <|
  qo 22 (.mv (.t 7)) <|
  .prune [22, 21] <|
  qo 23 (.nck (.t 22)) <|
  qo 24 (.fa 1 1 (.t 23)) <|
  eo 25 (.load 1 false (.t 24)) <|
  qo 26 (.nck (.t 21)) <|
  qo 27 (.fa 3 32 (.t 26)) <|
  .prune [27, 25] <|
  qo 28 (.ia 5 1 (.t 27) (.t 25)) <|
  eo 29 (.load 1 false (.t 28)) <|
  qo 30 (.cmp .eql (.t 29) (I 0)) <|
  qo 6 (.mv (.t 30)) <|
  .nil)
  .ret)
  (.seq (.ops <|
  qo 32 (.mv (.t 7)) <|
  qo 33 (.nck (.t 32)) <|
  qo 34 (.fa 0 0 (.t 33)) <|
  .prune [34, 7, 1, 2, 0] <|
  eo 35 (.load 1 false (.t 34)) <|
  qo 36 (.cmp .eql (.t 35) (I 7)) <|
  qo 31 (.mv (.t 36)) <|
  .nil)
  (.prune [31, 7, 1, 2, 0] (.cond (.t 31)
  (.seq (.dops <|
  qo 37 (.mv (.t 7)) <|
  qo 38 (.nck (.t 37)) <|
  qo 39 (.fa 1 1 (.t 38)) <|
  .prune [39, 1, 7, 2, 0] <|
  eo 40 (.load 1 false (.t 39)) <|
  qo 41 (.mv (.t 1)) <|
  qo 42 (.len (.t 41)) <|
  qo 43 (.cmp .lss (.t 40) (.t 42)) <|
  .prune [43, 7, 2, 0, 1] <|
  qo 44 (.mv (.t 43)) <|
  .sc false 51 44 (qo 45 (.mv (.t 7)) <|
  qo 46 (.nck (.t 45)) <|
  qo 47 (.fa 1 1 (.t 46)) <|
  eo 48 (.load 1 false (.t 47)) <|
  qo 49 (.mv (.t 2)) <|
  qo 50 (.cmp .neq (.t 48) (.t 49)) <|
  .nil) (.t 50) <|
  .prune [51, 0, 7, 1] <|
  qo 52 (.mv (.t 51)) <|
  .sc false 62 52 (qo 53 (.mv (.t 0)) <|
  qo 54 (.mv (.t 7)) <|
  qo 55 (.nck (.t 54)) <|
  qo 56 (.fa 1 1 (.t 55)) <|
  eo 57 (.load 1 false (.t 56)) <|
  qo 58 (.nck (.t 53)) <|
  qo 59 (.fa 2 26 (.t 58)) <|
  qo 60 (.ia 6 1 (.t 59) (.t 57)) <|
  eo 61 (.load 1 false (.t 60)) <|
  .nil) (.t 61) <|
  qo 63 (.mv (.t 62)) <|
  .prune [63, 0, 7, 1] <|
  .sc false 82 63 (qo 64 (.mv (.t 0)) <|
  qo 65 (.mv (.t 7)) <|
  qo 66 (.nck (.t 65)) <|
  qo 67 (.fa 1 1 (.t 66)) <|
  eo 68 (.load 1 false (.t 67)) <|
  qo 69 (.nck (.t 64)) <|
  qo 70 (.fa 1 20 (.t 69)) <|
  qo 71 (.ia 6 1 (.t 70) (.t 68)) <|
  eo 72 (.load 1 false (.t 71)) <|
  qo 73 (.mv (.t 1)) <|
  qo 74 (.mv (.t 7)) <|
  qo 75 (.nck (.t 74)) <|
  qo 76 (.fa 1 1 (.t 75)) <|
  eo 77 (.load 1 false (.t 76)) <|
  qo 78 (.is 1 (.t 73) (.t 77)) <|
  eo 79 (.load 1 false (.t 78)) <|
  qo 80 (.len (.t 79)) <|
  qo 81 (.cmp .eql (.t 72) (.t 80)) <|
  .nil) (.t 81) <|
  qo 6 (.mv (.t 82)) <|
  .nil)
  .ret)
  .skip)))))))))
  (.prune [] (.seq (.ops <|
  qo 6 (.mv (B true)) <|
  .nil)
  .ret)))))
theorem c44 : fnIs Try.prog qall 44 = some (j44.flat, [.tmp 6], 83) := by kernel_rfl
theorem w44 : j44.wf 83 = true := by kernel_rfl
def Gn (f : FuncId) (a : List SV) (m : List Res) : Sx.Call := (FH.mz 89 84 dSta (.two dProg .int) dNx (fun s y => Fit y.1 s.at') (fun s y => nextF s y.1 y.2.1) (fun s _ => s) FH.none) f a m
theorem Gn_eq (f : FuncId) (a : List SV) (m : List Res) : Gn f a m = (FH.mz 89 84 dSta (.two dProg .int) dNx (fun s y => Fit y.1 s.at') (fun s y => nextF s y.1 y.2.1) (fun s _ => s) FH.none) f a m := nr rfl
theorem Gn_ok : FHOK Try.prog Gn := FH.mz_ok (by kernel_rfl) (fun s y h => f_next s y.1 y.2.1 h) FH.none_ok
theorem f_Can (s : Sta) (p : List (List PO)) (t : Int) (h : Fit p s.at') (hp : progC badP p = 0) : FnOK Try.prog 44 [.ptr 0 [] 0, dProg.emb p, .int .i64 t] [.blk 84 (dSta.emb s)] (.bool (canF s p t)) [.blk 84 (dSta.emb s)] := by
  refine fn_walkF c44 w44 Gn_ok rfl ?_
  unfold j44
  unfold canF
  cases hx : nextF s p t with
  | none =>
    simp only [go_sem, ↓reduceIte, Nat.reduceAdd, Nat.reduceMul, Nat.reduceSub, Nat.reduceLT, Nat.reduceLeDiff, Nat.reduceEqDiff, Int.reduceToNat, Int.reduceEq, Int.reduceLT, Int.reduceLE, reduceCtorEq, Gn_eq, hx]
    exact h
  | some y =>
    obtain ⟨l, i⟩ := y
    obtain ⟨n, rfl, h1, h2, h3, h4, h5⟩ := next_some h hx
    have ho := op_ok hp h1 (i := i) (by rw [← h3]; exact h5)
    rw [← h3] at ho
    simp only [go_sem, ↓reduceIte, Nat.reduceAdd, Nat.reduceMul, Nat.reduceSub, Nat.reduceLT, Nat.reduceLeDiff, Nat.reduceEqDiff, Int.reduceToNat, Int.reduceEq, Int.reduceLT, Int.reduceLE, reduceCtorEq, Gn_eq, hx]
    have hn := h.n
    have b4 : bnd 4 = 5 := by decide
    have b7 : bnd 7 = 6 := by decide
    generalize l.getD i dOp.dft = o at ho ⊢
    refine ⟨h, fun k4 => ?_, fun k4 => ⟨fun k7 => ⟨fun q => ?_, fun q => ?_, ?_⟩, fun k7 => ?_⟩⟩
    · rw [k4, b4] at ho
      exact ⟨ho, by rw [if_pos k4]⟩
    · rw [k7, b7] at ho; exact ho
    · rw [k7, b7] at ho
      simp only [Bool.and_eq_true, decide_eq_true_eq] at q
      exact ⟨ho, ho.1, q.1.1⟩
    · rw [if_neg k4, if_pos k7]
    · rw [if_neg k4, if_neg k7]
def evK (s : Sta) (p : List (List PO)) (t : Nat) (o : PO) : Int :=
  if o.kind = 1 then 1 else if o.kind = 2 then 2 else if o.kind = 3 then 0 else if o.kind = 4 then 3 else
  if o.kind = 5 then (if s.owner o.obj.toNat = (t : Int) + 1 then 4 else 0) else if o.kind = 6 then (if o.obj < p.length ∧ s.begun o.obj.toNat = false then 5 else 0) else
  if o.kind = 7 then 6 else if o.kind = 8 then 7 else if o.kind = 9 then 8 else 0
def evE (k : Int) (t : Nat) (o : PO) : Ev := if k = 0 then ⟨0, 0, 0⟩ else ⟨k, t, o.obj⟩
def enF (e : En) (t : Nat) (o : PO) : En :=
  if o.kind = 1 then { e with has := upd e.has t (e.mem o.obj.toNat) } else if o.kind = 2 then { e with mem := upd e.mem o.obj.toNat (e.has t) } else
  if o.kind = 3 then { e with has := upd e.has t (IntKind.i64.wrap (e.has t + o.n)) } else if o.kind = 8 then { e with has := upd e.has t (e.vols o.obj.toNat) } else
  if o.kind = 9 then { e with vols := upd e.vols o.obj.toNat (e.has t) } else e
def stF (s : Sta) (p : List (List PO)) (t : Nat) (o : PO) : Sta := ⟨enF s.en t o, upd s.at' t (s.at' t + 1), if o.kind = 6 ∧ o.obj < p.length ∧ s.begun o.obj.toNat = false then upd s.begun o.obj.toNat true else s.begun,
  if o.kind = 4 then upd s.owner o.obj.toNat (t + 1) else if o.kind = 5 ∧ s.owner o.obj.toNat = (t : Int) + 1 then upd s.owner o.obj.toNat 0 else s.owner⟩
theorem tszEv : tsz Try.prog 35 = some (3, true) := by kernel_rfl

def j90 : JC :=
  (.seq (.ops <|
  eo 4 (.alloc 35 (.agg [(.int .i64 0), (.int .i64 0), (.int .i64 0)])) <|
  qo 5 (.mv (B false)) <|
  .nil)
  (.seq (.dops <|
  qo 6 (.mv (.t 0)) <|
  eo 7 (.load 1 false (.t 1)) <|
  eo 8 (.load 1 false (.t 2)) <|
  qo 9 (.nck (.t 8)) <|
  qo 10 (.fa 1 1 (.t 9)) <|
  .prune [10, 6, 7, 4] <|
  eo 11 (.load 1 false (.t 10)) <|
  qo 12 (.bld (.agg [(.int .i64 0), (.int .i64 0), (.int .i64 0)]) [([.fld 0], 0, 1, (.t 6)), ([.fld 1], 1, 1, (.t 7)), ([.fld 2], 2, 1, (.t 11))]) <|
  en (.store 3 (.t 4) (.t 12)) <|
  qo 5 (.mv (B true)) <|
  .nil)
  .ret))
theorem c90 : fnIs Try.prog qall 90 = some (j90.flat, [.cell 4 35, .tmp 5], 13) := by kernel_rfl
theorem w90 : j90.wf 13 = true := by kernel_rfl
theorem f_Step1 (k : Int) (t : Nat) (l : List PO) (i : Nat) : FnOK Try.prog 90 [.int .i64 k, .ref (.int .i64 t) [] 0, .ref ((DT.eptr 3 dOp).emb (l, i)) [] 0] [] (.tup [dEv.emb ⟨k, t, (l.getD i dOp.dft).obj⟩, .bool true]) [] := by
  refine fn_walkF c90 w90 FH.none_ok rfl ?_
  unfold j90
  simp only [go_sem, ↓reduceIte, Nat.reduceAdd, Nat.reduceMul, Nat.reduceSub, Nat.reduceLT, Nat.reduceLeDiff, Nat.reduceEqDiff, Int.reduceToNat, Int.reduceEq, Int.reduceLT, Int.reduceLE, reduceCtorEq, tszEv]
theorem upd_eq {α : Type} (f : Nat → α) (i : Nat) (x : α) : upd f i x = fun k => if k = i then x else f k := rfl
theorem bnd_kind {k o : Int} (h : 0 ≤ o ∧ o < bnd k) : k = 1 ∨ k = 2 ∨ k = 3 ∨ k = 4 ∨ k = 5 ∨ k = 6 ∨ k = 7 ∨ k = 8 ∨ k = 9 := by
  unfold bnd at h
  split at h <;> omega

def j45 : JC :=
  (.seq (.ops <|
  eo 5 (.box 3 (.t 2)) <|
  eo 6 (.alloc 35 (.agg [(.int .i64 0), (.int .i64 0), (.int .i64 0)])) <|
  qo 7 (.mv (B false)) <|
  .nil)
  (.seq (.ops <|
  qo 11 (.mv (.t 0)) <|
  qo 12 (.mv (.t 1)) <|
  eo 13 (.load 1 false (.t 5)) <|
  eo 14 (.call 89 [(.t 11), (.t 12), (.t 13)]) <|
  eo 8 (.alloc 152 .nilp) <|
  en (.store 1 (.t 8) (.t 14)) <|
  .nil)
  (.seq (.dops <|
  .prune [0, 5, 8, 6, 1] <|
  qo 15 (.mv (.t 0)) <|
  eo 16 (.load 1 false (.t 5)) <|
  qo 17 (.nck (.t 15)) <|
  qo 18 (.fa 1 20 (.t 17)) <|
  qo 19 (.ia 6 1 (.t 18) (.t 16)) <|
  eo 20 (.load 1 false (.t 19)) <|
  .prune [20, 15, 16, 0, 5, 8, 6, 1] <|
  qo 21 (.ar .add (.t 20) (I 1)) <|
  qo 22 (.nck (.t 15)) <|
  qo 23 (.fa 1 20 (.t 22)) <|
  qo 24 (.ia 6 1 (.t 23) (.t 16)) <|
  en (.store 1 (.t 24) (.t 21)) <|
  .nil)
  (.prune [0, 5, 8, 6, 1] (.seq (.ops <|
  qo 25 (.mv (.t 0)) <|
  qo 26 (.nck (.t 25)) <|
  qo 27 (.fa 0 0 (.t 26)) <|
  qo 9 (.mv (.t 27)) <|
  .nil)
  (.seq (.ops <|
  qo 28 (.mkfn 90 [(.t 5), (.t 8)]) <|
  qo 10 (.mv (.t 28)) <|
  .nil)
  (.prune [8, 9, 5, 10, 6, 0, 1] (.seq (.seq (.ops <|
  eo 29 (.load 1 false (.t 8)) <|
  qo 30 (.nck (.t 29)) <|
  qo 31 (.fa 0 0 (.t 30)) <|
  eo 32 (.load 1 false (.t 31)) <|
  .nil)
  (.prune [32, 9, 5, 8, 10, 6, 0, 1] (.block 0 (.seq (.ops <|
  qo 34 (.cmp .eql (.t 32) (I 1)) <|
  qo 33 (.mv (.t 34)) <|
  .nil)
  (.prune [33, 9, 5, 8, 10, 6, 32, 0, 1] (.cond (.t 33)
  (.seq (.dops <|
  .prune [9, 5, 8, 10, 6] <|
  qo 35 (.mv (.t 9)) <|
  eo 36 (.load 1 false (.t 5)) <|
  qo 37 (.mv (.t 9)) <|
  eo 38 (.load 1 false (.t 8)) <|
  .prune [38, 37, 35, 36, 10, 6] <|
  qo 39 (.nck (.t 38)) <|
  qo 40 (.fa 1 1 (.t 39)) <|
  eo 41 (.load 1 false (.t 40)) <|
  .prune [37, 41, 35, 36, 10, 6] <|
  qo 42 (.nck (.t 37)) <|
  qo 43 (.fa 0 0 (.t 42)) <|
  qo 44 (.ia 8 1 (.t 43) (.t 41)) <|
  .prune [44, 35, 36, 10, 6] <|
  eo 45 (.load 1 false (.t 44)) <|
  qo 46 (.nck (.t 35)) <|
  qo 47 (.fa 2 12 (.t 46)) <|
  qo 48 (.ia 6 1 (.t 47) (.t 36)) <|
  en (.store 1 (.t 48) (.t 45)) <|
  .nil)
  (.prune [10, 6] (.seq (.ops <|
  qo 49 (.mv (.t 10)) <|
  eo 50 (.callv (.t 49) [(I 1)]) <|
  qo 51 (.ext 0 (.t 50)) <|
  qo 52 (.ext 1 (.t 50)) <|
  en (.store 3 (.t 6) (.t 51)) <|
  qo 7 (.mv (.t 52)) <|
  .nil)
  .ret)))
  (.seq (.ops <|
  qo 54 (.cmp .eql (.t 32) (I 2)) <|
  qo 53 (.mv (.t 54)) <|
  .nil)
  (.prune [53, 9, 8, 5, 10, 6, 32, 0, 1] (.cond (.t 53)
  (.seq (.dops <|
  .prune [9, 8, 5, 10, 6] <|
  qo 55 (.mv (.t 9)) <|
  eo 56 (.load 1 false (.t 8)) <|
  qo 57 (.nck (.t 56)) <|
  qo 58 (.fa 1 1 (.t 57)) <|
  .prune [58, 9, 5, 55, 10, 6] <|
  eo 59 (.load 1 false (.t 58)) <|
  qo 60 (.mv (.t 9)) <|
  eo 61 (.load 1 false (.t 5)) <|
  .prune [60, 61, 55, 59, 10, 6] <|
  qo 62 (.nck (.t 60)) <|
  qo 63 (.fa 2 12 (.t 62)) <|
  qo 64 (.ia 6 1 (.t 63) (.t 61)) <|
  .prune [64, 55, 59, 10, 6] <|
  eo 65 (.load 1 false (.t 64)) <|
  qo 66 (.nck (.t 55)) <|
  qo 67 (.fa 0 0 (.t 66)) <|
  qo 68 (.ia 8 1 (.t 67) (.t 59)) <|
  en (.store 1 (.t 68) (.t 65)) <|
  .nil)
  (.prune [10, 6] (.seq (.ops <|
  qo 69 (.mv (.t 10)) <|
  eo 70 (.callv (.t 69) [(I 2)]) <|
  qo 71 (.ext 0 (.t 70)) <|
  qo 72 (.ext 1 (.t 70)) <|
  en (.store 3 (.t 6) (.t 71)) <|
  qo 7 (.mv (.t 72)) <|
  .nil)
  .ret)))
  (.seq (.ops <|
  qo 74 (.cmp .eql (.t 32) (I 3)) <|
  qo 73 (.mv (.t 74)) <|
  .nil)
  (.prune [73, 9, 5, 8, 6, 32, 0, 10, 1] (.cond (.t 73)
  (.dops <|
  .prune [9, 5, 8, 6] <|
  qo 75 (.mv (.t 9)) <|
  eo 76 (.load 1 false (.t 5)) <|
  qo 77 (.nck (.t 75)) <|
  qo 78 (.fa 2 12 (.t 77)) <|
  .prune [78, 76, 8, 75, 6] <|
  qo 79 (.ia 6 1 (.t 78) (.t 76)) <|
  eo 80 (.load 1 false (.t 79)) <|
  eo 81 (.load 1 false (.t 8)) <|
  .prune [81, 80, 75, 76, 6] <|
  qo 82 (.nck (.t 81)) <|
  qo 83 (.fa 2 2 (.t 82)) <|
  eo 84 (.load 1 false (.t 83)) <|
  .prune [80, 84, 75, 76, 6] <|
  qo 85 (.ar .add (.t 80) (.t 84)) <|
  qo 86 (.nck (.t 75)) <|
  .prune [86, 76, 85, 6] <|
  qo 87 (.fa 2 12 (.t 86)) <|
  qo 88 (.ia 6 1 (.t 87) (.t 76)) <|
  en (.store 1 (.t 88) (.t 85)) <|
  .nil)
  (.seq (.ops <|
  qo 90 (.cmp .eql (.t 32) (I 4)) <|
  qo 89 (.mv (.t 90)) <|
  .nil)
  (.prune [89, 0, 8, 5, 10, 6, 32, 1, 9] (.cond (.t 89)
  (.seq (.dops <|
  .prune [0, 8, 5, 10, 6] <|
  qo 91 (.mv (.t 0)) <|
  eo 92 (.load 1 false (.t 8)) <|
  qo 93 (.nck (.t 92)) <|
  .prune [93, 5, 91, 10, 6] <|
  qo 94 (.fa 1 1 (.t 93)) <|
  eo 95 (.load 1 false (.t 94)) <|
  eo 96 (.load 1 false (.t 5)) <|
  .prune [96, 91, 95, 10, 6] <|
  qo 97 (.ar .add (.t 96) (I 1)) <|
  qo 98 (.nck (.t 91)) <|
  qo 99 (.fa 3 32 (.t 98)) <|
  qo 100 (.ia 5 1 (.t 99) (.t 95)) <|
  en (.store 1 (.t 100) (.t 97)) <|
  .nil)
  (.prune [10, 6] (.seq (.ops <|
  qo 101 (.mv (.t 10)) <|
  eo 102 (.callv (.t 101) [(I 3)]) <|
  qo 103 (.ext 0 (.t 102)) <|
  qo 104 (.ext 1 (.t 102)) <|
  en (.store 3 (.t 6) (.t 103)) <|
  qo 7 (.mv (.t 104)) <|
  .nil)
  .ret)))
  (.seq (.ops <|
  qo 106 (.cmp .eql (.t 32) (I 5)) <|
  qo 105 (.mv (.t 106)) <|
  .nil)
  (.prune [105, 0, 8, 5, 10, 6, 32, 1, 9] (.cond (.t 105)
  (.seq (.dops <|
  .prune [0, 8, 5, 10, 6] <|
  qo 107 (.mv (.t 0)) <|
  eo 108 (.load 1 false (.t 8)) <|
  qo 109 (.nck (.t 108)) <|
  qo 110 (.fa 1 1 (.t 109)) <|
  eo 111 (.load 1 false (.t 110)) <|
  .prune [107, 111, 5, 0, 8, 10, 6] <|
  qo 112 (.nck (.t 107)) <|
  qo 113 (.fa 3 32 (.t 112)) <|
  qo 114 (.ia 5 1 (.t 113) (.t 111)) <|
  .prune [114, 5, 0, 8, 10, 6] <|
  eo 115 (.load 1 false (.t 114)) <|
  eo 116 (.load 1 false (.t 5)) <|
  qo 117 (.ar .add (.t 116) (I 1)) <|
  qo 118 (.cmp .eql (.t 115) (.t 117)) <|
  .nil)
  (.prune [118, 0, 8, 10, 6] (.cond (.t 118)
  (.seq (.dops <|
  qo 119 (.mv (.t 0)) <|
  eo 120 (.load 1 false (.t 8)) <|
  .prune [120, 119, 10, 6] <|
  qo 121 (.nck (.t 120)) <|
  qo 122 (.fa 1 1 (.t 121)) <|
  eo 123 (.load 1 false (.t 122)) <|
  .prune [119, 123, 10, 6] <|
  qo 124 (.nck (.t 119)) <|
  qo 125 (.fa 3 32 (.t 124)) <|
  qo 126 (.ia 5 1 (.t 125) (.t 123)) <|
  en (.store 1 (.t 126) (I 0)) <|
  .nil)
  (.prune [10, 6] (.seq (.ops <|
  qo 127 (.mv (.t 10)) <|
  eo 128 (.callv (.t 127) [(I 4)]) <|
  qo 129 (.ext 0 (.t 128)) <|
  qo 130 (.ext 1 (.t 128)) <|
  en (.store 3 (.t 6) (.t 129)) <|
  qo 7 (.mv (.t 130)) <|
  .nil)
  .ret)))
  .skip)))
  (.seq (.ops <|
  qo 132 (.cmp .eql (.t 32) (I 6)) <|
  qo 131 (.mv (.t 132)) <|
  .nil)
  (.prune [131, 8, 1, 0, 10, 6, 32, 9, 5] (.cond (.t 131)
  (.seq (.dops <|
  .prune [8, 1, 0, 10, 6] <|
  eo 133 (.load 1 false (.t 8)) <|
  qo 134 (.nck (.t 133)) <|
  qo 135 (.fa 1 1 (.t 134)) <|
  eo 136 (.load 1 false (.t 135)) <|
  .prune [1, 136, 0, 8, 10, 6] <|
  qo 137 (.mv (.t 1)) <|
  qo 138 (.len (.t 137)) <|
  qo 139 (.cmp .lss (.t 136) (.t 138)) <|
  .prune [139, 0, 8, 10, 6] <|
  qo 140 (.mv (.t 139)) <|
  .sc false 151 140 (qo 141 (.mv (.t 0)) <|
  eo 142 (.load 1 false (.t 8)) <|
  qo 143 (.nck (.t 142)) <|
  qo 144 (.fa 1 1 (.t 143)) <|
  eo 145 (.load 1 false (.t 144)) <|
  qo 146 (.nck (.t 141)) <|
  qo 147 (.fa 2 26 (.t 146)) <|
  qo 148 (.ia 6 1 (.t 147) (.t 145)) <|
  eo 149 (.load 1 false (.t 148)) <|
  qo 150 (.nt (.t 149)) <|
  .nil) (.t 150) <|
  .nil)
  (.prune [151, 0, 8, 10, 6] (.cond (.t 151)
  (.seq (.dops <|
  qo 152 (.mv (.t 0)) <|
  eo 153 (.load 1 false (.t 8)) <|
  .prune [153, 152, 10, 6] <|
  qo 154 (.nck (.t 153)) <|
  qo 155 (.fa 1 1 (.t 154)) <|
  eo 156 (.load 1 false (.t 155)) <|
  .prune [152, 156, 10, 6] <|
  qo 157 (.nck (.t 152)) <|
  qo 158 (.fa 2 26 (.t 157)) <|
  qo 159 (.ia 6 1 (.t 158) (.t 156)) <|
  en (.store 1 (.t 159) (B true)) <|
  .nil)
  (.prune [10, 6] (.seq (.ops <|
  qo 160 (.mv (.t 10)) <|
  eo 161 (.callv (.t 160) [(I 5)]) <|
  qo 162 (.ext 0 (.t 161)) <|
  qo 163 (.ext 1 (.t 161)) <|
  en (.store 3 (.t 6) (.t 162)) <|
  qo 7 (.mv (.t 163)) <|
  .nil)
  .ret)))
  .skip)))
  (.seq (.ops <|
  qo 165 (.cmp .eql (.t 32) (I 7)) <|
  qo 164 (.mv (.t 165)) <|
  .nil)
  (.prune [164, 10, 6, 32, 9, 5, 8] (.cond (.t 164)
  (.seq (.ops <|
  .prune [10, 6] <|
  qo 166 (.mv (.t 10)) <|
  eo 167 (.callv (.t 166) [(I 6)]) <|
  qo 168 (.ext 0 (.t 167)) <|
  qo 169 (.ext 1 (.t 167)) <|
  en (.store 3 (.t 6) (.t 168)) <|
  qo 7 (.mv (.t 169)) <|
  .nil)
  .ret)
  (.seq (.ops <|
  qo 171 (.cmp .eql (.t 32) (I 8)) <|
  qo 170 (.mv (.t 171)) <|
  .nil)
  (.cond (.t 170)
  (.seq (.dops <|
  .prune [9, 5, 8, 10, 6] <|
  qo 172 (.mv (.t 9)) <|
  eo 173 (.load 1 false (.t 5)) <|
  qo 174 (.mv (.t 9)) <|
  eo 175 (.load 1 false (.t 8)) <|
  .prune [175, 174, 172, 173, 10, 6] <|
  qo 176 (.nck (.t 175)) <|
  qo 177 (.fa 1 1 (.t 176)) <|
  eo 178 (.load 1 false (.t 177)) <|
  .prune [174, 178, 172, 173, 10, 6] <|
  qo 179 (.nck (.t 174)) <|
  qo 180 (.fa 1 8 (.t 179)) <|
  qo 181 (.ia 4 1 (.t 180) (.t 178)) <|
  .prune [181, 172, 173, 10, 6] <|
  eo 182 (.load 1 false (.t 181)) <|
  qo 183 (.nck (.t 172)) <|
  qo 184 (.fa 2 12 (.t 183)) <|
  qo 185 (.ia 6 1 (.t 184) (.t 173)) <|
  en (.store 1 (.t 185) (.t 182)) <|
  .nil)
  (.prune [10, 6] (.seq (.ops <|
  qo 186 (.mv (.t 10)) <|
  eo 187 (.callv (.t 186) [(I 7)]) <|
  qo 188 (.ext 0 (.t 187)) <|
  qo 189 (.ext 1 (.t 187)) <|
  en (.store 3 (.t 6) (.t 188)) <|
  qo 7 (.mv (.t 189)) <|
  .nil)
  .ret)))
  (.seq (.ops <|
  qo 191 (.cmp .eql (.t 32) (I 9)) <|
  qo 190 (.mv (.t 191)) <|
  .nil)
  (.prune [190, 9, 8, 5, 10, 6] (.cond (.t 190)
  (.seq (.dops <|
  qo 192 (.mv (.t 9)) <|
  eo 193 (.load 1 false (.t 8)) <|
  qo 194 (.nck (.t 193)) <|
  .prune [194, 9, 5, 192, 10, 6] <|
  qo 195 (.fa 1 1 (.t 194)) <|
  eo 196 (.load 1 false (.t 195)) <|
  qo 197 (.mv (.t 9)) <|
  .prune [5, 197, 192, 196, 10, 6] <|
  eo 198 (.load 1 false (.t 5)) <|
  qo 199 (.nck (.t 197)) <|
  qo 200 (.fa 2 12 (.t 199)) <|
  .prune [200, 198, 192, 196, 10, 6] <|
  qo 201 (.ia 6 1 (.t 200) (.t 198)) <|
  eo 202 (.load 1 false (.t 201)) <|
  .prune [192, 196, 202, 10, 6] <|
  qo 203 (.nck (.t 192)) <|
  qo 204 (.fa 1 8 (.t 203)) <|
  qo 205 (.ia 4 1 (.t 204) (.t 196)) <|
  en (.store 1 (.t 205) (.t 202)) <|
  .nil)
  (.prune [10, 6] (.seq (.ops <|
  qo 206 (.mv (.t 10)) <|
  eo 207 (.callv (.t 206) [(I 8)]) <|
  qo 208 (.ext 0 (.t 207)) <|
  qo 209 (.ext 1 (.t 207)) <|
  en (.store 3 (.t 6) (.t 208)) <|
  qo 7 (.mv (.t 209)) <|
  .nil)
  .ret)))
  .skip)))))))))))))))))))))))))))))
  (.prune [6] (.seq (.ops <|
  qo 210 (.bld (.agg [(.int .i64 0), (.int .i64 0), (.int .i64 0)]) []) <|
  en (.store 3 (.t 6) (.t 210)) <|
  qo 7 (.mv (B false)) <|
  .nil)
  .ret))))))))))
theorem c45 : fnIs Try.prog qall 45 = some (j45.flat, [.cell 6 35, .tmp 7], 211) := by kernel_rfl
theorem w45 : j45.wf 211 = true := by kernel_rfl
def Gs (f : FuncId) (a : List SV) (m : List Res) : Sx.Call := (FH.mz 89 84 dSta (.two dProg .int) dNx (fun s y => Fit y.1 s.at') (fun s y => nextF s y.1 y.2.1) (fun s _ => s) <|
  FH.rd 90 (.three .int (DT.ref .int) (DT.ref (DT.eptr 3 dOp))) (.two dEv .bool) (fun y => 0 ≤ y.2.1) (fun y => (⟨y.1, y.2.1, (y.2.2.1.1.getD y.2.2.1.2 dOp.dft).obj⟩, true)) FH.none) f a m
theorem Gs_eq (f : FuncId) (a : List SV) (m : List Res) : Gs f a m = (FH.mz 89 84 dSta (.two dProg .int) dNx (fun s y => Fit y.1 s.at') (fun s y => nextF s y.1 y.2.1) (fun s _ => s) <|
  FH.rd 90 (.three .int (DT.ref .int) (DT.ref (DT.eptr 3 dOp))) (.two dEv .bool) (fun y => 0 ≤ y.2.1) (fun y => (⟨y.1, y.2.1, (y.2.2.1.1.getD y.2.2.1.2 dOp.dft).obj⟩, true)) FH.none) f a m := nr rfl
theorem Gs_ok : FHOK Try.prog Gs := FH.mz_ok (by kernel_rfl) (fun s y h => f_next s y.1 y.2.1 h) <| FH.rd_ok (by kernel_rfl) (fun y h => by
  have := f_Step1 y.1 y.2.1.toNat y.2.2.1.1 y.2.2.1.2
  rw [show ((y.2.1.toNat : Nat) : Int) = y.2.1 by omega] at this
  exact this) FH.none_ok
theorem f_Step (s : Sta) (p : List (List PO)) (n : Nat) (l : List PO) (i : Nat) (h : Fit p s.at') (hp : progC badP p = 0) (hx : nextF s p n = some (l, i)) :
    FnOK Try.prog 45 [.ptr 0 [] 0, dProg.emb p, .int .i64 n] [.blk 84 (dSta.emb s)] (.tup [dEv.emb (evE (evK s p n (l.getD i dOp.dft)) n (l.getD i dOp.dft)), .bool (!decide (evK s p n (l.getD i dOp.dft) = 0))]) [.blk 84 (dSta.emb (stF s p n (l.getD i dOp.dft)))] := by
  obtain ⟨n', hn', h1, h2, h3, h4, h5⟩ := next_some h hx
  obtain rfl : n = n' := by omega
  have ho := op_ok hp h1 (i := i) (by rw [← h3]; exact h5)
  rw [← h3] at ho
  have hn := h.n
  have ha := h.at0 n h1
  have hg := (good_of hp h1).1
  have hw1 : IntKind.i64.wrap (s.at' n + 1) = s.at' n + 1 := IntWalk.i64_in _ (by omega)
  have hwn : IntKind.i64.wrap ((n : Int) + 1) = (n : Int) + 1 := IntWalk.i64_in _ (by omega)
  have h16 : n < 6 := by omega
  have h16' : (n : Int) < 6 := by omega
  refine fn_walkF c45 w45 Gs_ok rfl ?_
  unfold j45
  have b1 : bnd 1 = 8 := by decide
  have b2 : bnd 2 = 8 := by decide
  have b4 : bnd 4 = 5 := by decide
  have b5 : bnd 5 = 5 := by decide
  have b6 : bnd 6 = 6 := by decide
  have b8 : bnd 8 = 4 := by decide
  have b9 : bnd 9 = 4 := by decide
  rcases bnd_kind ho with k | k | k | k | k | k | k | k | k
  · simp only [go_sem, ↓reduceIte, Nat.reduceAdd, Nat.reduceMul, Nat.reduceSub, Nat.reduceLT, Nat.reduceLeDiff, Nat.reduceEqDiff, Int.reduceToNat, Int.reduceEq, Int.reduceLT, Int.reduceLE, reduceCtorEq, Gs_eq, hx, hw1, hwn, k, h16', stF, enF, evK, evE, upd_eq, tszEv, false_and, true_and]
    rw [k, b1] at ho
    exact ⟨h, by omega⟩
  · simp only [go_sem, ↓reduceIte, Nat.reduceAdd, Nat.reduceMul, Nat.reduceSub, Nat.reduceLT, Nat.reduceLeDiff, Nat.reduceEqDiff, Int.reduceToNat, Int.reduceEq, Int.reduceLT, Int.reduceLE, reduceCtorEq, Gs_eq, hx, hw1, hwn, k, h16', stF, enF, evK, evE, upd_eq, tszEv, false_and, true_and]
    rw [k, b2] at ho
    exact ⟨h, by omega⟩
  · simp only [go_sem, ↓reduceIte, Nat.reduceAdd, Nat.reduceMul, Nat.reduceSub, Nat.reduceLT, Nat.reduceLeDiff, Nat.reduceEqDiff, Int.reduceToNat, Int.reduceEq, Int.reduceLT, Int.reduceLE, reduceCtorEq, Gs_eq, hx, hw1, hwn, k, h16', stF, enF, evK, evE, upd_eq, tszEv, false_and, true_and]
    exact ⟨h, by omega⟩
  · simp only [go_sem, ↓reduceIte, Nat.reduceAdd, Nat.reduceMul, Nat.reduceSub, Nat.reduceLT, Nat.reduceLeDiff, Nat.reduceEqDiff, Int.reduceToNat, Int.reduceEq, Int.reduceLT, Int.reduceLE, reduceCtorEq, Gs_eq, hx, hw1, hwn, k, h16', stF, enF, evK, evE, upd_eq, tszEv, false_and, true_and]
    rw [k, b4] at ho
    exact ⟨h, by omega⟩
  · by_cases c : s.owner (l.getD i dOp.dft).obj.toNat = (n : Int) + 1
    · simp only [go_sem, ↓reduceIte, Nat.reduceAdd, Nat.reduceMul, Nat.reduceSub, Nat.reduceLT, Nat.reduceLeDiff, Nat.reduceEqDiff, Int.reduceToNat, Int.reduceEq, Int.reduceLT, Int.reduceLE, reduceCtorEq, Gs_eq, hx, hw1, hwn, k, h16', stF, enF, evK, evE, upd_eq, tszEv, false_and, true_and, c]
      rw [k, b5] at ho
      exact ⟨h, by omega⟩
    · simp only [go_sem, ↓reduceIte, Nat.reduceAdd, Nat.reduceMul, Nat.reduceSub, Nat.reduceLT, Nat.reduceLeDiff, Nat.reduceEqDiff, Int.reduceToNat, Int.reduceEq, Int.reduceLT, Int.reduceLE, reduceCtorEq, Gs_eq, hx, hw1, hwn, k, h16', stF, enF, evK, evE, upd_eq, tszEv, false_and, true_and, c]
      rw [k, b5] at ho
      exact ⟨h, by omega⟩
  · by_cases c : (l.getD i dOp.dft).obj < p.length
    · cases c2 : s.begun (l.getD i dOp.dft).obj.toNat with
      | true =>
        simp only [go_sem, ↓reduceIte, Nat.reduceAdd, Nat.reduceMul, Nat.reduceSub, Nat.reduceLT, Nat.reduceLeDiff, Nat.reduceEqDiff, Int.reduceToNat, Int.reduceEq, Int.reduceLT, Int.reduceLE, reduceCtorEq, Gs_eq, hx, hw1, hwn, k, h16', stF, enF, evK, evE, upd_eq, tszEv, false_and, true_and, c, c2]
        rw [k, b6] at ho
        exact ⟨h, by omega⟩
      | false =>
        simp only [go_sem, ↓reduceIte, Nat.reduceAdd, Nat.reduceMul, Nat.reduceSub, Nat.reduceLT, Nat.reduceLeDiff, Nat.reduceEqDiff, Int.reduceToNat, Int.reduceEq, Int.reduceLT, Int.reduceLE, reduceCtorEq, Gs_eq, hx, hw1, hwn, k, h16', stF, enF, evK, evE, upd_eq, tszEv, false_and, true_and, c, c2]
        rw [k, b6] at ho
        exact ⟨h, by omega⟩
    · simp only [go_sem, ↓reduceIte, Nat.reduceAdd, Nat.reduceMul, Nat.reduceSub, Nat.reduceLT, Nat.reduceLeDiff, Nat.reduceEqDiff, Int.reduceToNat, Int.reduceEq, Int.reduceLT, Int.reduceLE, reduceCtorEq, Gs_eq, hx, hw1, hwn, k, h16', stF, enF, evK, evE, upd_eq, tszEv, false_and, true_and, c, and_false]
      rw [k, b6] at ho
      exact ⟨h, by omega⟩
  · simp only [go_sem, ↓reduceIte, Nat.reduceAdd, Nat.reduceMul, Nat.reduceSub, Nat.reduceLT, Nat.reduceLeDiff, Nat.reduceEqDiff, Int.reduceToNat, Int.reduceEq, Int.reduceLT, Int.reduceLE, reduceCtorEq, Gs_eq, hx, hw1, hwn, k, h16', stF, enF, evK, evE, upd_eq, tszEv, false_and, true_and]
    exact ⟨h, by omega⟩
  · simp only [go_sem, ↓reduceIte, Nat.reduceAdd, Nat.reduceMul, Nat.reduceSub, Nat.reduceLT, Nat.reduceLeDiff, Nat.reduceEqDiff, Int.reduceToNat, Int.reduceEq, Int.reduceLT, Int.reduceLE, reduceCtorEq, Gs_eq, hx, hw1, hwn, k, h16', stF, enF, evK, evE, upd_eq, tszEv, false_and, true_and]
    rw [k, b8] at ho
    exact ⟨h, by omega⟩
  · simp only [go_sem, ↓reduceIte, Nat.reduceAdd, Nat.reduceMul, Nat.reduceSub, Nat.reduceLT, Nat.reduceLeDiff, Nat.reduceEqDiff, Int.reduceToNat, Int.reduceEq, Int.reduceLT, Int.reduceLE, reduceCtorEq, Gs_eq, hx, hw1, hwn, k, h16', stF, enF, evK, evE, upd_eq, tszEv, false_and, true_and]
    rw [k, b9] at ho
    exact ⟨h, by omega⟩
end Go.Proofs.Ytgcbhanfhnianaa.Rn
end
section
set_option linter.unusedSimpArgs false
set_option linter.unusedVariables false
set_option maxRecDepth 100000
open Go Go.Sx Go.Proofs
namespace Go.Proofs.Ytgcbhanfhnianaa.Rn
open Go.Proofs.Ytgcbhanfhnianaa.D Go.Proofs.Ytgcbhanfhnianaa.Pg Go.Proofs.Ytgcbhanfhnianaa.Tr
def doneB (s : Sta) (p : List (List PO)) : Nat → Bool
  | 0 => true
  | n + 1 => doneB s p n && (nextF s p n).isNone
def stuckB (s : Sta) (p : List (List PO)) : Nat → Bool
  | 0 => true
  | n + 1 => stuckB s p n && !canF s p n
def endF' (s : Sta) (p : List (List PO)) : En := { s.en with done := doneB s p p.length, stuck := stuckB s p p.length && !doneB s p p.length }
theorem tszEn : tsz Try.prog 28 = some (20, true) := by kernel_rfl
def j46_1 : JC :=
  (.seq (.ops <|
  qo 16 (.cmp .lss (.t 15) (.t 14)) <|
  .nil)
  (.seq (.cond (.t 16)
  .skip
  (.exit 0))
  (.seq (.block 1 (.seq (.ops <|
  qo 17 (.mv (.t 15)) <|
  qo 6 (.mv (.t 17)) <|
  .nil)
  (.seq (.seq (.ops <|
  qo 18 (.mv (.t 0)) <|
  qo 19 (.mv (.t 1)) <|
  qo 20 (.mv (.t 6)) <|
  eo 21 (.call 89 [(.t 18), (.t 19), (.t 20)]) <|
  qo 22 (.pnil true (.t 21)) <|
  .nil)
  (.prune [22, 5, 0, 1, 6, 15, 14, 4] (.cond (.t 22)
  (.ops <|
  qo 23 (.fa 3 18 (.t 5)) <|
  en (.store 1 (.t 23) (B false)) <|
  .nil)
  .skip)))
  (.prune [0, 1, 6, 5, 15, 14, 4] (.seq (.ops <|
  qo 24 (.mv (.t 0)) <|
  qo 25 (.mv (.t 1)) <|
  qo 26 (.mv (.t 6)) <|
  eo 27 (.call 44 [(.t 24), (.t 25), (.t 26)]) <|
  .nil)
  (.prune [27, 5, 15, 14, 0, 1, 4] (.cond (.t 27)
  (.ops <|
  qo 28 (.fa 4 19 (.t 5)) <|
  en (.store 1 (.t 28) (B false)) <|
  .nil)
  .skip)))))))
  (.prune [15, 14, 0, 1, 5, 4] (.ops <|
  qo 29 (.ar .add (.t 15) (I 1)) <|
  qo 15 (.mv (.t 29)) <|
  .nil)))))
def j46_2 : JC :=
  (.prune [5, 4] (.seq (.ops <|
  qo 30 (.fa 4 19 (.t 5)) <|
  eo 31 (.load 1 false (.t 30)) <|
  qo 32 (.mv (.t 31)) <|
  .sc false 36 32 (qo 33 (.fa 3 18 (.t 5)) <|
  eo 34 (.load 1 false (.t 33)) <|
  qo 35 (.nt (.t 34)) <|
  .nil) (.t 35) <|
  qo 37 (.fa 4 19 (.t 5)) <|
  en (.store 1 (.t 37) (.t 36)) <|
  .nil)
  (.prune [5, 4] (.seq (.ops <|
  eo 38 (.load 20 true (.t 5)) <|
  en (.store 20 (.t 4) (.t 38)) <|
  .nil)
  .ret))))
def j46 : JC :=
  (.seq (.ops <|
  eo 4 (.alloc 28 (.agg [(.arr 8 1 fun _ => (.int .i64 0)), (.arr 4 1 fun _ => (.int .i64 0)), (.arr 6 1 fun _ => (.int .i64 0)), (.bool false), (.bool false)])) <|
  .nil)
  (.seq (.ops <|
  qo 7 (.mv (.t 0)) <|
  qo 8 (.nck (.t 7)) <|
  qo 9 (.fa 0 0 (.t 8)) <|
  eo 10 (.load 20 true (.t 9)) <|
  eo 5 (.alloc 28 (.agg [(.arr 8 1 fun _ => (.int .i64 0)), (.arr 4 1 fun _ => (.int .i64 0)), (.arr 6 1 fun _ => (.int .i64 0)), (.bool false), (.bool false)])) <|
  en (.store 20 (.t 5) (.t 10)) <|
  .nil)
  (.seq (.ops <|
  .prune [5, 1, 0, 4] <|
  qo 11 (.fa 3 18 (.t 5)) <|
  en (.store 1 (.t 11) (B true)) <|
  qo 12 (.fa 4 19 (.t 5)) <|
  en (.store 1 (.t 12) (B true)) <|
  .nil)
  (.prune [1, 0, 5, 4] (.seq (.seq (.ops <|
  qo 13 (.mv (.t 1)) <|
  qo 14 (.len (.t 13)) <|
  qo 15 (.mv (I 0)) <|
  .nil)
  (.block 0 (.loop [14, 0, 1, 5, 4] [15] j46_1)))
  j46_2)))))
theorem c46 : fnIs Try.prog qall 46 = some (j46.flat, [.cell 4 28], 39) := by kernel_rfl
theorem w46 : j46.wf 39 = true := by kernel_rfl
def Ge (f : FuncId) (a : List SV) (m : List Res) : Sx.Call := (FH.mz 89 84 dSta (.two dProg .int) dNx (fun s y => Fit y.1 s.at') (fun s y => nextF s y.1 y.2.1) (fun s _ => s) <|
  FH.mt 44 84 dSta (.two dProg .int) (.one .bool) (fun s y => Fit y.1 s.at' ∧ progC badP y.1 = 0) (fun s y => canF s y.1 y.2.1) (fun s _ => s) FH.none) f a m
theorem Ge_eq (f : FuncId) (a : List SV) (m : List Res) : Ge f a m = (FH.mz 89 84 dSta (.two dProg .int) dNx (fun s y => Fit y.1 s.at') (fun s y => nextF s y.1 y.2.1) (fun s _ => s) <|
  FH.mt 44 84 dSta (.two dProg .int) (.one .bool) (fun s y => Fit y.1 s.at' ∧ progC badP y.1 = 0) (fun s y => canF s y.1 y.2.1) (fun s _ => s) FH.none) f a m := nr rfl
theorem Ge_ok : FHOK Try.prog Ge := FH.mz_ok (by kernel_rfl) (fun s y h => f_next s y.1 y.2.1 h) <| FH.mt_ok (by kernel_rfl) (fun s y h => f_Can s y.1 y.2.1 h.1 h.2) FH.none_ok
theorem f_Ended (s : Sta) (p : List (List PO)) (h : Fit p s.at') (hp : progC badP p = 0) : FnOK Try.prog 46 [.ptr 0 [] 0, dProg.emb p] [.blk 84 (dSta.emb s)] (dEn.emb (endF' s p)) [.blk 84 (dSta.emb s)] := by
  refine fn_walkF c46 w46 Ge_ok rfl ?_
  unfold j46
  simp only [go_sem, ↓reduceIte, Nat.reduceAdd, Nat.reduceMul, Nat.reduceSub, Nat.reduceLT, Nat.reduceLeDiff, Nat.reduceEqDiff, Int.reduceToNat, Int.reduceEq, Int.reduceLT, Int.reduceLE, reduceCtorEq]
  have hn := h.n
  refine loopF Nat (fun i => [.int .i64 i]) (fun i => [.blk 84 (dSta.emb s), .blk 28 (dEn.emb ⟨fun _ => 0, fun _ => 0, fun _ => 0, false, false⟩), .blk 28 (dEn.emb { s.en with done := doneB s p i, stuck := stuckB s p i })]) (fun i => i ≤ p.length) (fun i => p.length - i) 0 (by omega) ?_ rfl ?_
  · simp only [go_sem, ↓reduceIte, Nat.reduceAdd, Nat.reduceMul, Nat.reduceSub, Nat.reduceLT, Nat.reduceLeDiff, Nat.reduceEqDiff, Int.reduceToNat, Int.reduceEq, Int.reduceLT, Int.reduceLE, reduceCtorEq]
  intro i hi
  by_cases h1 : i < p.length
  · have h1' : (i : Int) < p.length := by omega
    have hw : IntKind.i64.wrap ((i : Int) + 1) = ((i + 1 : Nat) : Int) := IntWalk.i64_in _ (by omega)
    have hd : doneB s p (i + 1) = (doneB s p i && (nextF s p i).isNone) := rfl
    have hs : stuckB s p (i + 1) = (stuckB s p i && !canF s p i) := rfl
    cases hx : nextF s p i with
    | none =>
      rw [hx] at hd
      cases hc : canF s p i with
      | true =>
        rw [hc] at hs
        unfold j46_1
        simp only [go_sem, ↓reduceIte, Nat.reduceAdd, Nat.reduceMul, Nat.reduceSub, Nat.reduceLT, Nat.reduceLeDiff, Nat.reduceEqDiff, Int.reduceToNat, Int.reduceEq, Int.reduceLT, Int.reduceLE, reduceCtorEq, Ge_eq, h1, h1', hx, hc, hw]
        exact ⟨h, ⟨h, hp⟩, i + 1, by omega, by omega, rfl, by rw [hd, hs]; simp⟩
      | false =>
        rw [hc] at hs
        unfold j46_1
        simp only [go_sem, ↓reduceIte, Nat.reduceAdd, Nat.reduceMul, Nat.reduceSub, Nat.reduceLT, Nat.reduceLeDiff, Nat.reduceEqDiff, Int.reduceToNat, Int.reduceEq, Int.reduceLT, Int.reduceLE, reduceCtorEq, Ge_eq, h1, h1', hx, hc, hw]
        exact ⟨h, ⟨h, hp⟩, i + 1, by omega, by omega, rfl, by rw [hd, hs]; simp⟩
    | some y =>
      obtain ⟨l, k⟩ := y
      rw [hx] at hd
      cases hc : canF s p i with
      | true =>
        rw [hc] at hs
        unfold j46_1
        simp only [go_sem, ↓reduceIte, Nat.reduceAdd, Nat.reduceMul, Nat.reduceSub, Nat.reduceLT, Nat.reduceLeDiff, Nat.reduceEqDiff, Int.reduceToNat, Int.reduceEq, Int.reduceLT, Int.reduceLE, reduceCtorEq, Ge_eq, h1, h1', hx, hc, hw]
        exact ⟨h, ⟨h, hp⟩, i + 1, by omega, by omega, rfl, by rw [hd, hs]; simp⟩
      | false =>
        rw [hc] at hs
        unfold j46_1
        simp only [go_sem, ↓reduceIte, Nat.reduceAdd, Nat.reduceMul, Nat.reduceSub, Nat.reduceLT, Nat.reduceLeDiff, Nat.reduceEqDiff, Int.reduceToNat, Int.reduceEq, Int.reduceLT, Int.reduceLE, reduceCtorEq, Ge_eq, h1, h1', hx, hc, hw]
        exact ⟨h, ⟨h, hp⟩, i + 1, by omega, by omega, rfl, by rw [hd, hs]; simp⟩
  · have h1' : ¬ (i : Int) < p.length := by omega
    have e : i = p.length := by omega
    subst e
    unfold j46_1
    simp only [go_sem, ↓reduceIte, Nat.reduceAdd, Nat.reduceMul, Nat.reduceSub, Nat.reduceLT, Nat.reduceLeDiff, Nat.reduceEqDiff, Int.reduceToNat, Int.reduceEq, Int.reduceLT, Int.reduceLE, reduceCtorEq, h1']
    unfold j46_2
    simp only [go_sem, ↓reduceIte, Nat.reduceAdd, Nat.reduceMul, Nat.reduceSub, Nat.reduceLT, Nat.reduceLeDiff, Nat.reduceEqDiff, Int.reduceToNat, Int.reduceEq, Int.reduceLT, Int.reduceLE, reduceCtorEq, tszEn, endF']
def firstS : Sta := ⟨⟨fun _ => 0, fun _ => 0, fun _ => 0, false, false⟩, fun _ => 0, upd (fun _ => false) 0 true, fun _ => 0⟩
theorem tszSt : tsz Try.prog 84 = some (37, true) := by kernel_rfl

def j43 : JC :=
  (.seq (.ops <|
  eo 0 (.alloc 84 (.agg [(.agg [(.arr 8 1 fun _ => (.int .i64 0)), (.arr 4 1 fun _ => (.int .i64 0)), (.arr 6 1 fun _ => (.int .i64 0)), (.bool false), (.bool false)]), (.arr 6 1 fun _ => (.int .i64 0)), (.arr 6 1 fun _ => (.bool false)), (.arr 5 1 fun _ => (.int .i64 0))])) <|
  .nil)
  (.seq (.ops <|
  eo 1 (.alloc 84 (.agg [(.agg [(.arr 8 1 fun _ => (.int .i64 0)), (.arr 4 1 fun _ => (.int .i64 0)), (.arr 6 1 fun _ => (.int .i64 0)), (.bool false), (.bool false)]), (.arr 6 1 fun _ => (.int .i64 0)), (.arr 6 1 fun _ => (.bool false)), (.arr 5 1 fun _ => (.int .i64 0))])) <|
  .nil)
  (.seq (.ops <|
  qo 2 (.fa 2 26 (.t 1)) <|
  qo 3 (.ia 6 1 (.t 2) (I 0)) <|
  en (.store 1 (.t 3) (B true)) <|
  .nil)
  (.seq (.ops <|
  eo 4 (.load 37 true (.t 1)) <|
  en (.store 37 (.t 0) (.t 4)) <|
  .nil)
  .ret))))
theorem c43 : fnIs Try.prog qall 43 = some (j43.flat, [.cell 0 84], 5) := by kernel_rfl
theorem w43 : j43.wf 5 = true := by kernel_rfl
theorem f_First : FnOK Try.prog 43 [] [] (dSta.emb firstS) [] := by
  refine fn_walkF c43 w43 FH.none_ok rfl ?_
  unfold j43
  simp only [go_sem, ↓reduceIte, Nat.reduceAdd, Nat.reduceMul, Nat.reduceSub, Nat.reduceLT, Nat.reduceLeDiff, Nat.reduceEqDiff, Int.reduceToNat, Int.reduceEq, Int.reduceLT, Int.reduceLE, reduceCtorEq, tszSt, firstS, upd_eq]
def pickS (p : List (List PO)) (s : Sta) (t : Int) : Sta := match nextF s p t with
  | none => s
  | some (l, i) => if canF s p t = true then stF s p t.toNat (l.getD i dOp.dft) else s
def pickE (p : List (List PO)) (s : Sta) (t : Int) : List Ev := match nextF s p t with
  | none => []
  | some (l, i) => if canF s p t = true ∧ evK s p t.toNat (l.getD i dOp.dft) ≠ 0 then [evE (evK s p t.toNat (l.getD i dOp.dft)) t.toNat (l.getD i dOp.dft)] else []
def runS (p : List (List PO)) (picks : List Int) : Nat → Sta
  | 0 => firstS
  | i + 1 => pickS p (runS p picks i) (picks.getD i 0)
def runE (p : List (List PO)) (picks : List Int) : Nat → List Ev
  | 0 => []
  | i + 1 => runE p picks i ++ pickE p (runS p picks i) (picks.getD i 0)
theorem fit_first {p : List (List PO)} (hp : progC badP p = 0) : Fit p firstS.at' := by
  unfold progC at hp
  split at hp
  · cases hp
  rename_i h
  refine ⟨by omega, fun t ht => ⟨by show (0 : Int) ≤ 0; omega, by show (0 : Int) ≤ _; omega⟩⟩
theorem fit_pick {p : List (List PO)} {s : Sta} (h : Fit p s.at') (t : Int) : Fit p (pickS p s t).at' := by
  unfold pickS
  split
  · exact h
  · rename_i l i hx
    split
    · obtain ⟨n, rfl, h1, h2, h3, h4, h5⟩ := next_some h hx
      refine ⟨h.n, fun k hk => ?_⟩
      have := h.at0 k hk
      show 0 ≤ Tr.upd s.at' n (s.at' n + 1) k ∧ Tr.upd s.at' n (s.at' n + 1) k ≤ _
      unfold Tr.upd
      split
      · rename_i e; subst e; rw [h3] at h5; omega
      · exact this
    · exact h
theorem fit_run {p : List (List PO)} (hp : progC badP p = 0) {picks : List Int} : ∀ i, Fit p (runS p picks i).at'
  | 0 => fit_first hp
  | i + 1 => fit_pick (fit_run hp i) _
def zeroEn : En := ⟨fun _ => 0, fun _ => 0, fun _ => 0, false, false⟩
end Go.Proofs.Ytgcbhanfhnianaa.Rn
end
section
set_option linter.unusedSimpArgs false
set_option linter.unusedVariables false
set_option maxRecDepth 100000
open Go Go.Sx Go.Proofs
namespace Go.Proofs.Ytgcbhanfhnianaa.D
structure Pg where
  p : List (List PO)
  at' : Nat → Int
  l : Option (List Ev)
  en : En
  last : Option (List Int)
def dPg : DT Pg := (DT.st (DL.cons dProg (DL.cons (DT.arr 6 1 DT.int) (DL.cons (DT.slo 3 dEv) (DL.cons dEn (DL.cons (DT.slo 1 DT.int) DL.nil)))))).iso (fun x => ⟨x.1, x.2.1, x.2.2.1, x.2.2.2.1, x.2.2.2.2.1⟩) (fun g => (g.p, g.at', g.l, g.en, g.last, ())) (fun _ => rfl) (fun _ => rfl)
theorem pg_emb (g : Pg) : dPg.emb g = .agg [dProg.emb g.p, .arr 6 1 fun i => .int .i64 (g.at' i), (DT.slo 3 dEv).emb g.l, dEn.emb g.en, (DT.slo 1 DT.int).emb g.last] := nr rfl
theorem pg_decV (m : List Res) (a b c d e : SV) : dPg.decV m (.agg [a, b, c, d, e]) = ⟨dProg.decV m a, (DT.arr 6 1 DT.int).decV m b, (DT.slo 3 dEv).decV m c, dEn.decV m d, (DT.slo 1 DT.int).decV m e⟩ := nr rfl
theorem pg_decP (m : List Res) (a b c d e : SV) : dPg.decP m (.agg [a, b, c, d, e]) = (dProg.decP m a ∧ (DT.arr 6 1 DT.int).decP m b ∧ (DT.slo 3 dEv).decP m c ∧ dEn.decP m d ∧ (DT.slo 1 DT.int).decP m e) := nr (by
  show (_ ∧ _ ∧ _ ∧ _ ∧ _ ∧ True) = _
  simp only [and_true])
theorem pg_eta (g : Pg) : (⟨g.p, g.at', g.l, g.en, g.last⟩ : Pg) = g := nr rfl
attribute [go_sem] pg_emb pg_decV pg_decP pg_eta
abbrev dPgR := DT.ref dPg
end Go.Proofs.Ytgcbhanfhnianaa.D
namespace Go.Proofs.Ytgcbhanfhnianaa.Rn
open Go.Proofs.Ytgcbhanfhnianaa.D Go.Proofs.Ytgcbhanfhnianaa.Pg Go.Proofs.Ytgcbhanfhnianaa.Tr Go.Proofs.Ytgcbhanfhnianaa.Cp

def j92 : JC :=
  (.seq (.ops <|
  eo 2 (.box 91 (.t 0)) <|
  qo 4 (.mv (B false)) <|
  .nil)
  (.seq (.dops <|
  qo 5 (.mv (.t 1)) <|
  qo 6 (.fa 1 1 (.t 2)) <|
  qo 7 (.ia 6 1 (.t 6) (.t 5)) <|
  eo 8 (.load 1 false (.t 7)) <|
  qo 9 (.fa 0 0 (.t 2)) <|
  .prune [9, 1, 8] <|
  eo 10 (.load 1 false (.t 9)) <|
  qo 11 (.mv (.t 1)) <|
  qo 12 (.is 1 (.t 10) (.t 11)) <|
  eo 13 (.load 1 false (.t 12)) <|
  .prune [13, 8] <|
  qo 14 (.len (.t 13)) <|
  qo 15 (.cmp .eql (.t 8) (.t 14)) <|
  qo 4 (.mv (.t 15)) <|
  .nil)
  .ret))
theorem c92 : fnIs Try.prog qall 92 = some (j92.flat, [.tmp 4], 16) := by kernel_rfl
theorem w92 : j92.wf 16 = true := by kernel_rfl
abbrev gl (g : Pg) : List Ev := g.l.getD []
abbrev gt (g : Pg) : List Int := g.last.getD []
def overB (g : Pg) (t : Int) : Bool := decide (g.at' t.toNat = ((g.p.getD t.toNat []).length : Int))
theorem f_over (g : Pg) (t : Int) (h : 0 ≤ t ∧ t < 6 ∧ t < g.p.length) : FnOK Try.prog 92 [dPg.emb g, .int .i64 t] [] (.bool (overB g t)) [] := by
  refine fn_walkF c92 w92 FH.none_ok rfl ?_
  unfold j92
  simp only [go_sem, ↓reduceIte, Nat.reduceAdd, Nat.reduceMul, Nat.reduceSub, Nat.reduceLT, Nat.reduceLeDiff, Nat.reduceEqDiff, Int.reduceToNat, Int.reduceEq, Int.reduceLT, Int.reduceLE, reduceCtorEq]
  exact ⟨⟨h.1, h.2.1⟩, ⟨by omega, by omega⟩, rfl⟩
def opG (g : Pg) (t : Int) : PO := (g.p.getD t.toNat []).getD (g.at' t.toNat).toNat dOp.dft
def canG (g : Pg) (t : Int) : Bool := if t < 0 ∨ (g.p.length : Int) ≤ t then false else if begB (gl g) t = false then false else if overB g t = true then false else
  if (opG g t).kind = 4 then decide (Tr.ownR (gl g) (opG g t).obj < 0) else
  if (opG g t).kind = 7 then decide ((opG g t).obj < g.p.length) && !decide ((opG g t).obj = t) && begB (gl g) (opG g t).obj && overB g (opG g t).obj else true

def j48 : JC :=
  (.seq (.ops <|
  eo 2 (.box 91 (.t 0)) <|
  qo 4 (.mv (B false)) <|
  .nil)
  (.seq (.seq (.ops <|
  qo 6 (.mv (.t 1)) <|
  qo 7 (.fa 0 0 (.t 2)) <|
  eo 8 (.load 1 false (.t 7)) <|
  qo 9 (.len (.t 8)) <|
  qo 10 (.ar .sub (.t 9) (I 1)) <|
  .prune [6, 10, 2, 1] <|
  eo 11 (.call 91 [(.t 6), (I 0), (.t 10)]) <|
  qo 12 (.mv (.t 11)) <|
  .sc true 18 12 (qo 13 (.fa 2 7 (.t 2)) <|
  eo 14 (.load 1 false (.t 13)) <|
  qo 15 (.mv (.t 1)) <|
  eo 16 (.call 61 [(.t 14), (.t 15)]) <|
  qo 17 (.nt (.t 16)) <|
  .nil) (.t 17) <|
  .prune [18, 2, 1] <|
  qo 19 (.mv (.t 18)) <|
  .sc true 23 19 (eo 20 (.load 29 true (.t 2)) <|
  qo 21 (.mv (.t 1)) <|
  eo 22 (.call 92 [(.t 20), (.t 21)]) <|
  .nil) (.t 22) <|
  .nil)
  (.prune [23, 2, 1] (.cond (.t 23)
  (.seq (.ops <|
  qo 4 (.mv (B false)) <|
  .nil)
  .ret)
  .skip)))
  (.prune [2, 1] (.seq (.dops <|
  qo 24 (.fa 0 0 (.t 2)) <|
  eo 25 (.load 1 false (.t 24)) <|
  qo 26 (.mv (.t 1)) <|
  qo 27 (.is 1 (.t 25) (.t 26)) <|
  eo 28 (.load 1 false (.t 27)) <|
  qo 29 (.mv (.t 1)) <|
  qo 30 (.fa 1 1 (.t 2)) <|
  qo 31 (.ia 6 1 (.t 30) (.t 29)) <|
  .prune [31, 28, 25, 24, 27, 2, 1] <|
  eo 32 (.load 1 false (.t 31)) <|
  qo 33 (.is 3 (.t 28) (.t 32)) <|
  eo 34 (.load 3 true (.t 33)) <|
  eo 5 (.alloc 97 (.agg [(.int .i64 0), (.int .i64 0), (.int .i64 0)])) <|
  en (.again 1 false (.t 24) 25) <|
  .prune [28, 27, 32, 31, 34, 33, 5, 2, 1] <|
  en (.again 1 false (.t 27) 28) <|
  .prune [32, 31, 34, 33, 5, 2, 1] <|
  en (.again 1 false (.t 31) 32) <|
  en (.again 3 true (.t 33) 34) <|
  en (.store 3 (.t 5) (.t 34)) <|
  .nil)
  (.prune [5, 2, 1] (.seq (.seq (.ops <|
  qo 35 (.fa 0 0 (.t 5)) <|
  eo 36 (.load 1 false (.t 35)) <|
  .nil)
  (.block 0 (.seq (.ops <|
  qo 38 (.cmp .eql (.t 36) (I 4)) <|
  qo 37 (.mv (.t 38)) <|
  .nil)
  (.cond (.t 37)
  (.seq (.ops <|
  .prune [2, 5] <|
  qo 39 (.fa 2 7 (.t 2)) <|
  eo 40 (.load 1 false (.t 39)) <|
  qo 41 (.fa 1 1 (.t 5)) <|
  eo 42 (.load 1 false (.t 41)) <|
  eo 43 (.call 63 [(.t 40), (.t 42)]) <|
  qo 44 (.cmp .lss (.t 43) (I 0)) <|
  qo 4 (.mv (.t 44)) <|
  .nil)
  .ret)
  (.seq (.ops <|
  qo 46 (.cmp .eql (.t 36) (I 7)) <|
  qo 45 (.mv (.t 46)) <|
  .nil)
  (.cond (.t 45)
  (.seq (.ops <|
  .prune [5, 2, 1] <|
  qo 47 (.fa 1 1 (.t 5)) <|
  eo 48 (.load 1 false (.t 47)) <|
  qo 49 (.fa 0 0 (.t 2)) <|
  eo 50 (.load 1 false (.t 49)) <|
  qo 51 (.len (.t 50)) <|
  .prune [48, 51, 5, 1, 2] <|
  qo 52 (.cmp .lss (.t 48) (.t 51)) <|
  qo 53 (.mv (.t 52)) <|
  .prune [53, 5, 1, 2] <|
  .sc false 58 53 (qo 54 (.fa 1 1 (.t 5)) <|
  eo 55 (.load 1 false (.t 54)) <|
  qo 56 (.mv (.t 1)) <|
  qo 57 (.cmp .neq (.t 55) (.t 56)) <|
  .nil) (.t 57) <|
  qo 59 (.mv (.t 58)) <|
  .sc false 65 59 (qo 60 (.fa 2 7 (.t 2)) <|
  eo 61 (.load 1 false (.t 60)) <|
  qo 62 (.fa 1 1 (.t 5)) <|
  eo 63 (.load 1 false (.t 62)) <|
  eo 64 (.call 61 [(.t 61), (.t 63)]) <|
  .nil) (.t 64) <|
  .prune [65, 2, 5] <|
  qo 66 (.mv (.t 65)) <|
  .sc false 71 66 (eo 67 (.load 29 true (.t 2)) <|
  qo 68 (.fa 1 1 (.t 5)) <|
  eo 69 (.load 1 false (.t 68)) <|
  eo 70 (.call 92 [(.t 67), (.t 69)]) <|
  .nil) (.t 70) <|
  qo 4 (.mv (.t 71)) <|
  .nil)
  .ret)
  .skip))))))
  (.prune [] (.seq (.ops <|
  qo 4 (.mv (B true)) <|
  .nil)
  .ret))))))))
theorem c48 : fnIs Try.prog qall 48 = some (j48.flat, [.tmp 4], 72) := by kernel_rfl
theorem w48 : j48.wf 72 = true := by kernel_rfl
def Gcg (f : FuncId) (a : List SV) (m : List Res) : Sx.Call := (FH.rd 91 (.three .int .int .int) (.one .bool) (fun _ => True) (fun y => Tr.outB y.1 y.2.1 y.2.2.1) <| FH.rd 61 (.two dEs .int) (.one .bool) (fun _ => True) (fun y => begB y.1 y.2.1) <|
  FH.rd 63 (.two dEs .int) (.one .int) (fun _ => True) (fun y => Tr.ownR y.1 y.2.1) <| FH.rd 92 (.two dPg .int) (.one .bool) (fun y => 0 ≤ y.2.1 ∧ y.2.1 < 6 ∧ y.2.1 < y.1.p.length) (fun y => overB y.1 y.2.1) FH.none) f a m
theorem Gcg_eq (f : FuncId) (a : List SV) (m : List Res) : Gcg f a m = (FH.rd 91 (.three .int .int .int) (.one .bool) (fun _ => True) (fun y => Tr.outB y.1 y.2.1 y.2.2.1) <| FH.rd 61 (.two dEs .int) (.one .bool) (fun _ => True) (fun y => begB y.1 y.2.1) <|
  FH.rd 63 (.two dEs .int) (.one .int) (fun _ => True) (fun y => Tr.ownR y.1 y.2.1) <| FH.rd 92 (.two dPg .int) (.one .bool) (fun y => 0 ≤ y.2.1 ∧ y.2.1 < 6 ∧ y.2.1 < y.1.p.length) (fun y => overB y.1 y.2.1) FH.none) f a m := nr rfl
theorem Gcg_ok : FHOK Try.prog Gcg := FH.rd_ok (by kernel_rfl) (fun y _ => Tr.f_outside y.1 y.2.1 y.2.2.1) <| FH.rd_ok (by kernel_rfl) (fun y _ => f_begun y.1 y.2.1) <|
  FH.rd_ok (by kernel_rfl) (fun y _ => f_owner y.1 y.2.1) <| FH.rd_ok (by kernel_rfl) (fun y h => f_over y.1 y.2.1 h) FH.none_ok
theorem f_CanG (g : Pg) (t : Int) (h : Fit g.p g.at') (hp : progC badP g.p = 0) : FnOK Try.prog 48 [dPg.emb g, .int .i64 t] [] (.bool (canG g t)) [] := by
  refine fn_walkF c48 w48 Gcg_ok rfl ?_
  unfold j48
  have hn := h.n
  have hw : IntKind.i64.wrap ((g.p.length : Int) - 1) = (g.p.length : Int) - 1 := IntWalk.i64_in _ (by omega)
  simp only [go_sem, ↓reduceIte, Nat.reduceAdd, Nat.reduceMul, Nat.reduceSub, Nat.reduceLT, Nat.reduceLeDiff, Nat.reduceEqDiff, Int.reduceToNat, Int.reduceEq, Int.reduceLT, Int.reduceLE, reduceCtorEq, Gcg_eq, hw]
  have ho : 0 ≤ t → t < g.p.length → overB g t = false → 0 ≤ g.at' t.toNat ∧ g.at' t.toNat < ((g.p.getD t.toNat []).length : Int) := fun h1 h2 h3 => by
    have := h.at0 t.toNat (by omega)
    simp only [overB, decide_eq_false_iff_not] at h3
    omega
  have ob : ∀ t : Int, Tr.outB t 0 ((g.p.length : Int) - 1) = decide (t < 0 ∨ (g.p.length : Int) ≤ t) := fun t => by
    rw [Bool.eq_iff_iff]; simp only [Tr.outB, Bool.or_eq_true, decide_eq_true_eq]; omega
  have b7 : bnd 7 = 6 := by decide
  rw [ob]
  by_cases h1 : t < 0 ∨ (g.p.length : Int) ≤ t
  · simp only [h1, decide_true, Bool.true_or, Bool.true_eq_false, false_implies, true_and, canG, if_true, forall_const, and_true]
    done
  simp only [h1, decide_false, Bool.false_or, canG, if_false]
  cases h2 : begB (g.l.getD []) t with
  | false => simp
  | true =>
    simp only [Bool.not_true, Bool.false_or, if_false, Bool.true_eq_false, reduceCtorEq]
    cases h3 : overB g t with
    | true =>
      simp
      omega
    | false =>
      have h4 := ho (by omega) (by omega) h3
      have hob := op_ok hp (n := t.toNat) (i := (g.at' t.toNat).toNat) (by omega) (by omega)
      simp only [opG, forall_const, Bool.false_eq_true, false_implies, true_and, if_false]
      obtain ⟨o, eo⟩ : ∃ o, (g.p.getD t.toNat []).getD (g.at' t.toNat).toNat dOp.dft = o := ⟨_, rfl⟩
      simp only [eo] at hob ⊢
      refine ⟨by omega, ⟨by omega, by omega⟩, ⟨by omega, by omega⟩, h4, fun k4 => by rw [if_pos k4], fun k4 => ⟨fun k7 => ⟨fun q => ?_, ?_⟩, fun k7 => ?_⟩⟩
      · simp only [Bool.and_eq_true, decide_eq_true_eq] at q
        rw [k7, b7] at hob
        omega
      · rw [if_neg k4, if_pos k7]
      · rw [if_neg k4, if_neg k7]
def kindM (k : Int) : Int := if k = 1 then 1 else if k = 2 then 2 else if k = 4 then 3 else if k = 5 then 4 else if k = 6 then 5 else if k = 7 then 6 else if k = 8 then 7 else if k = 9 then 8 else 0
theorem kind_map (k : Int) : obI (mpFind (.int .i64) (.int .i64 k) (mpPut (.int .i64) (.int .i64 9) (.int .i64 8) (mpPut (.int .i64) (.int .i64 8) (.int .i64 7) (mpPut (.int .i64) (.int .i64 7) (.int .i64 6) (mpPut (.int .i64) (.int .i64 6) (.int .i64 5) (mpPut (.int .i64) (.int .i64 5) (.int .i64 4) (mpPut (.int .i64) (.int .i64 4) (.int .i64 3) (mpPut (.int .i64) (.int .i64 2) (.int .i64 2) (mpPut (.int .i64) (.int .i64 1) (.int .i64 1) []))))))))) = kindM k := by
  have e : (mpPut (.int .i64) (.int .i64 9) (.int .i64 8) (mpPut (.int .i64) (.int .i64 8) (.int .i64 7) (mpPut (.int .i64) (.int .i64 7) (.int .i64 6) (mpPut (.int .i64) (.int .i64 6) (.int .i64 5) (mpPut (.int .i64) (.int .i64 5) (.int .i64 4) (mpPut (.int .i64) (.int .i64 4) (.int .i64 3) (mpPut (.int .i64) (.int .i64 2) (.int .i64 2) (mpPut (.int .i64) (.int .i64 1) (.int .i64 1) [])))))))) = [(.int .i64 1, .int .i64 1), (.int .i64 2, .int .i64 2), (.int .i64 4, .int .i64 3), (.int .i64 5, .int .i64 4), (.int .i64 6, .int .i64 5), (.int .i64 7, .int .i64 6), (.int .i64 8, .int .i64 7), (.int .i64 9, .int .i64 8)] := by
    simp [mpPut, eqV]
  rw [e]
  simp only [mpFind, eqV, kindM, decide_eq_true_eq]
  (repeat' split) <;> rfl
def evG (g : Pg) (t : Nat) (o : PO) : Int := if o.kind = 5 then (if Tr.ownR (gl g) o.obj = t then 4 else 0) else if o.kind = 6 then (if (g.p.length : Int) ≤ o.obj ∨ begB (gl g) o.obj = true then 0 else 5) else kindM o.kind
def stepG (g : Pg) (t : Nat) (o : PO) : Pg := ⟨g.p, upd g.at' t (g.at' t + 1), if evG g t o = 0 then g.l else some (gl g ++ [⟨evG g t o, t, o.obj⟩]), enF g.en t o, some (gt g ++ [(t : Int)])⟩

def j49 : JC :=
  (.seq (.ops <|
  eo 2 (.box 91 (.t 0)) <|
  eo 4 (.alloc 91 (.agg [.nils, (.arr 6 1 fun _ => (.int .i64 0)), .nils, (.agg [(.arr 8 1 fun _ => (.int .i64 0)), (.arr 4 1 fun _ => (.int .i64 0)), (.arr 6 1 fun _ => (.int .i64 0)), (.bool false), (.bool false)]), .nils])) <|
  .nil)
  (.seq (.dops <|
  qo 7 (.fa 0 0 (.t 2)) <|
  eo 8 (.load 1 false (.t 7)) <|
  qo 9 (.mv (.t 1)) <|
  qo 10 (.is 1 (.t 8) (.t 9)) <|
  eo 11 (.load 1 false (.t 10)) <|
  qo 12 (.mv (.t 1)) <|
  qo 13 (.fa 1 1 (.t 2)) <|
  qo 14 (.ia 6 1 (.t 13) (.t 12)) <|
  eo 15 (.load 1 false (.t 14)) <|
  qo 16 (.is 3 (.t 11) (.t 15)) <|
  eo 17 (.load 3 true (.t 16)) <|
  eo 5 (.alloc 97 (.agg [(.int .i64 0), (.int .i64 0), (.int .i64 0)])) <|
  en (.again 1 false (.t 7) 8) <|
  .prune [11, 10, 15, 14, 17, 16, 5, 1, 2, 4] <|
  en (.again 1 false (.t 10) 11) <|
  .prune [15, 14, 17, 16, 5, 1, 2, 4] <|
  en (.again 1 false (.t 14) 15) <|
  en (.again 3 true (.t 16) 17) <|
  en (.store 3 (.t 5) (.t 17)) <|
  .nil)
  (.prune [1, 2, 5, 4] (.seq (.ops <|
  qo 18 (.mv (.t 1)) <|
  qo 19 (.fa 1 1 (.t 2)) <|
  qo 20 (.ia 6 1 (.t 19) (.t 18)) <|
  eo 21 (.load 1 false (.t 20)) <|
  qo 22 (.ar .add (.t 21) (I 1)) <|
  .prune [2, 18, 22, 5, 1, 4] <|
  qo 23 (.fa 1 1 (.t 2)) <|
  qo 24 (.ia 6 1 (.t 23) (.t 18)) <|
  en (.store 1 (.t 24) (.t 22)) <|
  .nil)
  (.prune [5, 1, 2, 4] (.seq (.ops <|
  eo 25 (.mop (.make (.int .i64) (.int .i64)) []) <|
  en (.mop (.put (.int .i64) (.int .i64)) [(.t 25), (I 1), (I 1)]) <|
  en (.mop (.put (.int .i64) (.int .i64)) [(.t 25), (I 2), (I 2)]) <|
  en (.mop (.put (.int .i64) (.int .i64)) [(.t 25), (I 4), (I 3)]) <|
  .prune [25, 5, 1, 2, 4] <|
  en (.mop (.put (.int .i64) (.int .i64)) [(.t 25), (I 5), (I 4)]) <|
  en (.mop (.put (.int .i64) (.int .i64)) [(.t 25), (I 6), (I 5)]) <|
  en (.mop (.put (.int .i64) (.int .i64)) [(.t 25), (I 7), (I 6)]) <|
  .prune [25, 5, 1, 2, 4] <|
  en (.mop (.put (.int .i64) (.int .i64)) [(.t 25), (I 8), (I 7)]) <|
  en (.mop (.put (.int .i64) (.int .i64)) [(.t 25), (I 9), (I 8)]) <|
  qo 26 (.mv (.t 25)) <|
  .prune [5, 26, 1, 2, 4] <|
  qo 27 (.fa 0 0 (.t 5)) <|
  eo 28 (.load 1 false (.t 27)) <|
  eo 29 (.mop (.get (.int .i64) (.int .i64) (.int .i64 0) false) [(.t 26), (.t 28)]) <|
  qo 6 (.mv (.t 29)) <|
  .nil)
  (.prune [5, 1, 2, 6, 4] (.seq (.seq (.ops <|
  qo 30 (.fa 0 0 (.t 5)) <|
  eo 31 (.load 1 false (.t 30)) <|
  .nil)
  (.block 0 (.seq (.ops <|
  qo 33 (.cmp .eql (.t 31) (I 1)) <|
  qo 32 (.mv (.t 33)) <|
  .nil)
  (.cond (.t 32)
  (.ops <|
  .prune [1, 5, 2, 6, 4] <|
  qo 34 (.mv (.t 1)) <|
  qo 35 (.fa 1 1 (.t 5)) <|
  eo 36 (.load 1 false (.t 35)) <|
  qo 37 (.fa 3 8 (.t 2)) <|
  qo 38 (.fa 0 0 (.t 37)) <|
  qo 39 (.ia 8 1 (.t 38) (.t 36)) <|
  .prune [39, 2, 34, 6, 1, 5, 4] <|
  eo 40 (.load 1 false (.t 39)) <|
  qo 41 (.fa 3 8 (.t 2)) <|
  qo 42 (.fa 2 12 (.t 41)) <|
  qo 43 (.ia 6 1 (.t 42) (.t 34)) <|
  en (.store 1 (.t 43) (.t 40)) <|
  .nil)
  (.seq (.ops <|
  qo 45 (.cmp .eql (.t 31) (I 2)) <|
  qo 44 (.mv (.t 45)) <|
  .nil)
  (.prune [44, 5, 1, 2, 6, 4, 31] (.cond (.t 44)
  (.dops <|
  qo 46 (.fa 1 1 (.t 5)) <|
  eo 47 (.load 1 false (.t 46)) <|
  .prune [1, 2, 47, 6, 5, 4] <|
  qo 48 (.mv (.t 1)) <|
  qo 49 (.fa 3 8 (.t 2)) <|
  qo 50 (.fa 2 12 (.t 49)) <|
  qo 51 (.ia 6 1 (.t 50) (.t 48)) <|
  .prune [51, 2, 47, 6, 1, 5, 4] <|
  eo 52 (.load 1 false (.t 51)) <|
  qo 53 (.fa 3 8 (.t 2)) <|
  qo 54 (.fa 0 0 (.t 53)) <|
  qo 55 (.ia 8 1 (.t 54) (.t 47)) <|
  en (.store 1 (.t 55) (.t 52)) <|
  .nil)
  (.seq (.ops <|
  qo 57 (.cmp .eql (.t 31) (I 3)) <|
  qo 56 (.mv (.t 57)) <|
  .nil)
  (.cond (.t 56)
  (.dops <|
  .prune [1, 2, 5, 6, 4] <|
  qo 58 (.mv (.t 1)) <|
  qo 59 (.fa 3 8 (.t 2)) <|
  qo 60 (.fa 2 12 (.t 59)) <|
  qo 61 (.ia 6 1 (.t 60) (.t 58)) <|
  eo 62 (.load 1 false (.t 61)) <|
  .prune [5, 62, 2, 58, 6, 1, 4] <|
  qo 63 (.fa 2 2 (.t 5)) <|
  eo 64 (.load 1 false (.t 63)) <|
  qo 65 (.ar .add (.t 62) (.t 64)) <|
  .prune [2, 58, 65, 6, 1, 5, 4] <|
  qo 66 (.fa 3 8 (.t 2)) <|
  qo 67 (.fa 2 12 (.t 66)) <|
  qo 68 (.ia 6 1 (.t 67) (.t 58)) <|
  en (.store 1 (.t 68) (.t 65)) <|
  .nil)
  (.seq (.ops <|
  qo 70 (.cmp .eql (.t 31) (I 5)) <|
  qo 69 (.mv (.t 70)) <|
  .nil)
  (.prune [69, 2, 5, 1, 4, 6, 31] (.cond (.t 69)
  (.seq (.ops <|
  qo 71 (.fa 2 7 (.t 2)) <|
  eo 72 (.load 1 false (.t 71)) <|
  .prune [5, 72, 1, 2, 4, 6] <|
  qo 73 (.fa 1 1 (.t 5)) <|
  eo 74 (.load 1 false (.t 73)) <|
  eo 75 (.call 63 [(.t 72), (.t 74)]) <|
  qo 76 (.mv (.t 1)) <|
  qo 77 (.cmp .neq (.t 75) (.t 76)) <|
  .nil)
  (.prune [77, 2, 1, 5, 4, 6] (.cond (.t 77)
  (.ops <|
  qo 6 (.mv (I 0)) <|
  .nil)
  .skip)))
  (.seq (.ops <|
  qo 79 (.cmp .eql (.t 31) (I 6)) <|
  qo 78 (.mv (.t 79)) <|
  .nil)
  (.cond (.t 78)
  (.seq (.ops <|
  .prune [5, 2, 1, 4, 6] <|
  qo 80 (.fa 1 1 (.t 5)) <|
  eo 81 (.load 1 false (.t 80)) <|
  qo 82 (.fa 0 0 (.t 2)) <|
  eo 83 (.load 1 false (.t 82)) <|
  qo 84 (.len (.t 83)) <|
  .prune [81, 84, 2, 5, 1, 4, 6] <|
  qo 85 (.cmp .geq (.t 81) (.t 84)) <|
  qo 86 (.mv (.t 85)) <|
  .prune [86, 2, 5, 1, 4, 6] <|
  .sc true 92 86 (qo 87 (.fa 2 7 (.t 2)) <|
  eo 88 (.load 1 false (.t 87)) <|
  qo 89 (.fa 1 1 (.t 5)) <|
  eo 90 (.load 1 false (.t 89)) <|
  eo 91 (.call 61 [(.t 88), (.t 90)]) <|
  .nil) (.t 91) <|
  .nil)
  (.prune [92, 2, 1, 5, 4, 6] (.cond (.t 92)
  (.ops <|
  qo 6 (.mv (I 0)) <|
  .nil)
  .skip)))
  (.seq (.ops <|
  qo 94 (.cmp .eql (.t 31) (I 8)) <|
  qo 93 (.mv (.t 94)) <|
  .nil)
  (.prune [93, 1, 5, 2, 6, 4, 31] (.cond (.t 93)
  (.ops <|
  qo 95 (.mv (.t 1)) <|
  qo 96 (.fa 1 1 (.t 5)) <|
  eo 97 (.load 1 false (.t 96)) <|
  .prune [2, 97, 95, 6, 1, 5, 4] <|
  qo 98 (.fa 3 8 (.t 2)) <|
  qo 99 (.fa 1 8 (.t 98)) <|
  qo 100 (.ia 4 1 (.t 99) (.t 97)) <|
  .prune [100, 2, 95, 6, 1, 5, 4] <|
  eo 101 (.load 1 false (.t 100)) <|
  qo 102 (.fa 3 8 (.t 2)) <|
  qo 103 (.fa 2 12 (.t 102)) <|
  qo 104 (.ia 6 1 (.t 103) (.t 95)) <|
  en (.store 1 (.t 104) (.t 101)) <|
  .nil)
  (.seq (.ops <|
  qo 106 (.cmp .eql (.t 31) (I 9)) <|
  qo 105 (.mv (.t 106)) <|
  .nil)
  (.cond (.t 105)
  (.dops <|
  .prune [5, 1, 2, 6, 4] <|
  qo 107 (.fa 1 1 (.t 5)) <|
  eo 108 (.load 1 false (.t 107)) <|
  qo 109 (.mv (.t 1)) <|
  qo 110 (.fa 3 8 (.t 2)) <|
  qo 111 (.fa 2 12 (.t 110)) <|
  qo 112 (.ia 6 1 (.t 111) (.t 109)) <|
  .prune [112, 2, 108, 6, 1, 5, 4] <|
  eo 113 (.load 1 false (.t 112)) <|
  qo 114 (.fa 3 8 (.t 2)) <|
  qo 115 (.fa 1 8 (.t 114)) <|
  qo 116 (.ia 4 1 (.t 115) (.t 108)) <|
  en (.store 1 (.t 116) (.t 113)) <|
  .nil)
  .skip)))))))))))))))))))
  (.prune [6, 2, 1, 5, 4] (.seq (.seq (.ops <|
  qo 117 (.mv (.t 6)) <|
  qo 118 (.cmp .gtr (.t 117) (I 0)) <|
  .nil)
  (.cond (.t 118)
  (.dops <|
  qo 119 (.fa 2 7 (.t 2)) <|
  eo 120 (.load 1 false (.t 119)) <|
  .prune [6, 1, 5, 120, 2, 4] <|
  qo 122 (.mv (.t 6)) <|
  qo 123 (.mv (.t 1)) <|
  qo 124 (.fa 1 1 (.t 5)) <|
  eo 125 (.load 1 false (.t 124)) <|
  qo 126 (.bld (.agg [(.int .i64 0), (.int .i64 0), (.int .i64 0)]) [([.fld 0], 0, 1, (.t 122)), ([.fld 1], 1, 1, (.t 123)), ([.fld 2], 2, 1, (.t 125))]) <|
  .prune [126, 120, 125, 124, 2, 1, 4] <|
  eo 127 (.qbsl 35 3 1 (.agg [(.int .i64 0), (.int .i64 0), (.int .i64 0)]) [(0, (.t 126))]) <|
  eo 121 (.call 37 [(.t 120)]) <|
  en (.again 1 false (.t 124) 125) <|
  .prune [121, 127, 2, 1, 4] <|
  eo 128 (.app 35 3 24 (.t 121) (.t 127)) <|
  qo 129 (.fa 2 7 (.t 2)) <|
  en (.store 1 (.t 129) (.t 128)) <|
  .nil)
  .skip))
  (.prune [2, 1, 4] (.seq (.ops <|
  qo 130 (.fa 4 28 (.t 2)) <|
  eo 131 (.load 1 false (.t 130)) <|
  eo 132 (.call 93 [(.t 131)]) <|
  qo 133 (.mv (.t 1)) <|
  .prune [133, 132, 2, 4] <|
  eo 134 (.bsl 3 1 1 (.int .i64 0) [(0, (.t 133))]) <|
  eo 135 (.app 3 1 8 (.t 132) (.t 134)) <|
  qo 136 (.fa 4 28 (.t 2)) <|
  en (.store 1 (.t 136) (.t 135)) <|
  .nil)
  (.prune [2, 4] (.seq (.ops <|
  eo 137 (.load 29 true (.t 2)) <|
  en (.store 29 (.t 4) (.t 137)) <|
  .nil)
  (.frz 4 dPgR.frz .ret)))))))))))))))
theorem c49 : fnIs Try.prog (qbut [37]) 49 = some (j49.flat, [.cell 4 91], 138) := by kernel_rfl
theorem w49 : j49.wf 138 = true := by kernel_rfl
def Gsg (f : FuncId) (a : List SV) (m : List Res) : Sx.Call := (FH.rd 61 (.two dEs .int) (.one .bool) (fun _ => True) (fun y => begB y.1 y.2.1) <|
  FH.rd 63 (.two dEs .int) (.one .int) (fun _ => True) (fun y => Tr.ownR y.1 y.2.1) <|
  FH.mk 37 (.one dEs) (fun y => y.1.length ≤ 1000000) (fun y => .vec 0 y.1.length) (fun y => [.vec 35 3 (y.1.map dEv.emb)]) <|
  FH.mk 93 (.one dIs) (fun y => y.1.length ≤ 1000000) (fun y => .vec 0 y.1.length) (fun y => [.vec 3 1 (y.1.map DT.int.emb)]) FH.none) f a m
theorem Gsg_eq (f : FuncId) (a : List SV) (m : List Res) : Gsg f a m = (FH.rd 61 (.two dEs .int) (.one .bool) (fun _ => True) (fun y => begB y.1 y.2.1) <|
  FH.rd 63 (.two dEs .int) (.one .int) (fun _ => True) (fun y => Tr.ownR y.1 y.2.1) <|
  FH.mk 37 (.one dEs) (fun y => y.1.length ≤ 1000000) (fun y => .vec 0 y.1.length) (fun y => [.vec 35 3 (y.1.map dEv.emb)]) <|
  FH.mk 93 (.one dIs) (fun y => y.1.length ≤ 1000000) (fun y => .vec 0 y.1.length) (fun y => [.vec 3 1 (y.1.map DT.int.emb)]) FH.none) f a m := nr rfl
theorem Gsg_ok : FHOK Try.prog Gsg := FH.rd_ok (by kernel_rfl) (fun y _ => f_begun y.1 y.2.1) <|
  FH.rd_ok (by kernel_rfl) (fun y _ => f_owner y.1 y.2.1) <|
  FH.mk_ok (by kernel_rfl) (fun y _ => plainM (pv_vec _ _) ⟨plR_vec _ _ dEv _, trivial⟩) (fun y h => f_CopyEv y.1 h) <|
  FH.mk_ok (by kernel_rfl) (fun y _ => plainM (pv_vec _ _) ⟨plR_vec _ _ DT.int _, trivial⟩) (fun y h => f_CopyInt y.1 h) FH.none_ok
theorem tszPg : tsz Try.prog 91 = some (29, true) := by kernel_rfl
theorem stepG_1 (g : Pg) (n : Nat) (h : Fit g.p g.at') (hp : progC badP g.p = 0) (hn : n < g.p.length) (ha : g.at' n < ((g.p.getD n []).length : Int)) (hl : (gl g).length ≤ 1000) (ht : (gt g).length ≤ 1000) (k : ((g.p.getD n []).getD (g.at' n).toNat dOp.dft).kind = 1) : FnOK Try.prog 49 [dPg.emb g, .int .i64 n] [] (dPg.emb (stepG g n (opG g n))) [] := by
  have ho := op_ok hp hn (i := (g.at' n).toNat) (by have := h.at0 n hn; omega)
  have hn6 := h.n
  have ha0 := h.at0 n hn
  have hg := (good_of hp hn).1
  have hw1 : IntKind.i64.wrap (g.at' n + 1) = g.at' n + 1 := IntWalk.i64_in _ (by omega)
  have h16' : (n : Int) < 6 := by omega
  have h17' : (n : Int) < g.p.length := by omega
  refine fn_walkF c49 w49 Gsg_ok rfl ?_
  unfold j49
  have km1 : kindM 1 = 1 := rfl
  have km2 : kindM 2 = 2 := rfl
  have km3 : kindM 3 = 0 := rfl
  have km4 : kindM 4 = 3 := rfl
  have km5 : kindM 5 = 4 := rfl
  have km6 : kindM 6 = 5 := rfl
  have km7 : kindM 7 = 6 := rfl
  have km8 : kindM 8 = 7 := rfl
  have km9 : kindM 9 = 8 := rfl
  unfold gl at hl
  unfold gt at ht
  rw [k, show bnd 1 = 8 by decide] at ho
  simp only [go_sem, ↓reduceIte, Nat.reduceAdd, Nat.reduceMul, Nat.reduceSub, Nat.reduceLT, Nat.reduceLeDiff, Nat.reduceEqDiff, Int.reduceToNat, Int.reduceEq, Int.reduceLT, Int.reduceLE, reduceCtorEq, Gsg_eq, hw1, h16', tszPg, kind_map, k, stepG, evG, opG, enF, upd_eq, List.range_zero, List.map_nil, List.nil_append, gl, gt, Int.toNat_natCast, km1, km2, km3, km4, km5, km6, km7, km8, km9]
  omega
theorem stepG_2 (g : Pg) (n : Nat) (h : Fit g.p g.at') (hp : progC badP g.p = 0) (hn : n < g.p.length) (ha : g.at' n < ((g.p.getD n []).length : Int)) (hl : (gl g).length ≤ 1000) (ht : (gt g).length ≤ 1000) (k : ((g.p.getD n []).getD (g.at' n).toNat dOp.dft).kind = 2) : FnOK Try.prog 49 [dPg.emb g, .int .i64 n] [] (dPg.emb (stepG g n (opG g n))) [] := by
  have ho := op_ok hp hn (i := (g.at' n).toNat) (by have := h.at0 n hn; omega)
  have hn6 := h.n
  have ha0 := h.at0 n hn
  have hg := (good_of hp hn).1
  have hw1 : IntKind.i64.wrap (g.at' n + 1) = g.at' n + 1 := IntWalk.i64_in _ (by omega)
  have h16' : (n : Int) < 6 := by omega
  have h17' : (n : Int) < g.p.length := by omega
  refine fn_walkF c49 w49 Gsg_ok rfl ?_
  unfold j49
  have km1 : kindM 1 = 1 := rfl
  have km2 : kindM 2 = 2 := rfl
  have km3 : kindM 3 = 0 := rfl
  have km4 : kindM 4 = 3 := rfl
  have km5 : kindM 5 = 4 := rfl
  have km6 : kindM 6 = 5 := rfl
  have km7 : kindM 7 = 6 := rfl
  have km8 : kindM 8 = 7 := rfl
  have km9 : kindM 9 = 8 := rfl
  unfold gl at hl
  unfold gt at ht
  rw [k, show bnd 2 = 8 by decide] at ho
  simp only [go_sem, ↓reduceIte, Nat.reduceAdd, Nat.reduceMul, Nat.reduceSub, Nat.reduceLT, Nat.reduceLeDiff, Nat.reduceEqDiff, Int.reduceToNat, Int.reduceEq, Int.reduceLT, Int.reduceLE, reduceCtorEq, Gsg_eq, hw1, h16', tszPg, kind_map, k, stepG, evG, opG, enF, upd_eq, List.range_zero, List.map_nil, List.nil_append, gl, gt, Int.toNat_natCast, km1, km2, km3, km4, km5, km6, km7, km8, km9]
  omega
theorem stepG_3 (g : Pg) (n : Nat) (h : Fit g.p g.at') (hp : progC badP g.p = 0) (hn : n < g.p.length) (ha : g.at' n < ((g.p.getD n []).length : Int)) (hl : (gl g).length ≤ 1000) (ht : (gt g).length ≤ 1000) (k : ((g.p.getD n []).getD (g.at' n).toNat dOp.dft).kind = 3) : FnOK Try.prog 49 [dPg.emb g, .int .i64 n] [] (dPg.emb (stepG g n (opG g n))) [] := by
  have ho := op_ok hp hn (i := (g.at' n).toNat) (by have := h.at0 n hn; omega)
  have hn6 := h.n
  have ha0 := h.at0 n hn
  have hg := (good_of hp hn).1
  have hw1 : IntKind.i64.wrap (g.at' n + 1) = g.at' n + 1 := IntWalk.i64_in _ (by omega)
  have h16' : (n : Int) < 6 := by omega
  have h17' : (n : Int) < g.p.length := by omega
  refine fn_walkF c49 w49 Gsg_ok rfl ?_
  unfold j49
  have km1 : kindM 1 = 1 := rfl
  have km2 : kindM 2 = 2 := rfl
  have km3 : kindM 3 = 0 := rfl
  have km4 : kindM 4 = 3 := rfl
  have km5 : kindM 5 = 4 := rfl
  have km6 : kindM 6 = 5 := rfl
  have km7 : kindM 7 = 6 := rfl
  have km8 : kindM 8 = 7 := rfl
  have km9 : kindM 9 = 8 := rfl
  unfold gl at hl
  unfold gt at ht
  simp only [go_sem, ↓reduceIte, Nat.reduceAdd, Nat.reduceMul, Nat.reduceSub, Nat.reduceLT, Nat.reduceLeDiff, Nat.reduceEqDiff, Int.reduceToNat, Int.reduceEq, Int.reduceLT, Int.reduceLE, reduceCtorEq, Gsg_eq, hw1, h16', tszPg, kind_map, k, stepG, evG, opG, enF, upd_eq, List.range_zero, List.map_nil, List.nil_append, gl, gt, Int.toNat_natCast, km1, km2, km3, km4, km5, km6, km7, km8, km9]
  omega
theorem stepG_4 (g : Pg) (n : Nat) (h : Fit g.p g.at') (hp : progC badP g.p = 0) (hn : n < g.p.length) (ha : g.at' n < ((g.p.getD n []).length : Int)) (hl : (gl g).length ≤ 1000) (ht : (gt g).length ≤ 1000) (k : ((g.p.getD n []).getD (g.at' n).toNat dOp.dft).kind = 4) : FnOK Try.prog 49 [dPg.emb g, .int .i64 n] [] (dPg.emb (stepG g n (opG g n))) [] := by
  have ho := op_ok hp hn (i := (g.at' n).toNat) (by have := h.at0 n hn; omega)
  have hn6 := h.n
  have ha0 := h.at0 n hn
  have hg := (good_of hp hn).1
  have hw1 : IntKind.i64.wrap (g.at' n + 1) = g.at' n + 1 := IntWalk.i64_in _ (by omega)
  have h16' : (n : Int) < 6 := by omega
  have h17' : (n : Int) < g.p.length := by omega
  refine fn_walkF c49 w49 Gsg_ok rfl ?_
  unfold j49
  have km1 : kindM 1 = 1 := rfl
  have km2 : kindM 2 = 2 := rfl
  have km3 : kindM 3 = 0 := rfl
  have km4 : kindM 4 = 3 := rfl
  have km5 : kindM 5 = 4 := rfl
  have km6 : kindM 6 = 5 := rfl
  have km7 : kindM 7 = 6 := rfl
  have km8 : kindM 8 = 7 := rfl
  have km9 : kindM 9 = 8 := rfl
  unfold gl at hl
  unfold gt at ht
  simp only [go_sem, ↓reduceIte, Nat.reduceAdd, Nat.reduceMul, Nat.reduceSub, Nat.reduceLT, Nat.reduceLeDiff, Nat.reduceEqDiff, Int.reduceToNat, Int.reduceEq, Int.reduceLT, Int.reduceLE, reduceCtorEq, Gsg_eq, hw1, h16', tszPg, kind_map, k, stepG, evG, opG, enF, upd_eq, List.range_zero, List.map_nil, List.nil_append, gl, gt, Int.toNat_natCast, km1, km2, km3, km4, km5, km6, km7, km8, km9]
  omega
theorem stepG_5 (g : Pg) (n : Nat) (h : Fit g.p g.at') (hp : progC badP g.p = 0) (hn : n < g.p.length) (ha : g.at' n < ((g.p.getD n []).length : Int)) (hl : (gl g).length ≤ 1000) (ht : (gt g).length ≤ 1000) (k : ((g.p.getD n []).getD (g.at' n).toNat dOp.dft).kind = 5) : FnOK Try.prog 49 [dPg.emb g, .int .i64 n] [] (dPg.emb (stepG g n (opG g n))) [] := by
  have ho := op_ok hp hn (i := (g.at' n).toNat) (by have := h.at0 n hn; omega)
  have hn6 := h.n
  have ha0 := h.at0 n hn
  have hg := (good_of hp hn).1
  have hw1 : IntKind.i64.wrap (g.at' n + 1) = g.at' n + 1 := IntWalk.i64_in _ (by omega)
  have h16' : (n : Int) < 6 := by omega
  have h17' : (n : Int) < g.p.length := by omega
  refine fn_walkF c49 w49 Gsg_ok rfl ?_
  unfold j49
  have km1 : kindM 1 = 1 := rfl
  have km2 : kindM 2 = 2 := rfl
  have km3 : kindM 3 = 0 := rfl
  have km4 : kindM 4 = 3 := rfl
  have km5 : kindM 5 = 4 := rfl
  have km6 : kindM 6 = 5 := rfl
  have km7 : kindM 7 = 6 := rfl
  have km8 : kindM 8 = 7 := rfl
  have km9 : kindM 9 = 8 := rfl
  unfold gl at hl
  unfold gt at ht
  by_cases c : Tr.ownR (g.l.getD []) ((g.p.getD n []).getD (g.at' n).toNat dOp.dft).obj = n
  · simp only [go_sem, ↓reduceIte, Nat.reduceAdd, Nat.reduceMul, Nat.reduceSub, Nat.reduceLT, Nat.reduceLeDiff, Nat.reduceEqDiff, Int.reduceToNat, Int.reduceEq, Int.reduceLT, Int.reduceLE, reduceCtorEq, Gsg_eq, hw1, h16', tszPg, kind_map, k, stepG, evG, opG, enF, upd_eq, List.range_zero, List.map_nil, List.nil_append, gl, gt, Int.toNat_natCast, km1, km2, km3, km4, km5, km6, km7, km8, km9, c]
    omega
  · simp only [go_sem, ↓reduceIte, Nat.reduceAdd, Nat.reduceMul, Nat.reduceSub, Nat.reduceLT, Nat.reduceLeDiff, Nat.reduceEqDiff, Int.reduceToNat, Int.reduceEq, Int.reduceLT, Int.reduceLE, reduceCtorEq, Gsg_eq, hw1, h16', tszPg, kind_map, k, stepG, evG, opG, enF, upd_eq, List.range_zero, List.map_nil, List.nil_append, gl, gt, Int.toNat_natCast, km1, km2, km3, km4, km5, km6, km7, km8, km9, c]
    omega
theorem stepG_6 (g : Pg) (n : Nat) (h : Fit g.p g.at') (hp : progC badP g.p = 0) (hn : n < g.p.length) (ha : g.at' n < ((g.p.getD n []).length : Int)) (hl : (gl g).length ≤ 1000) (ht : (gt g).length ≤ 1000) (k : ((g.p.getD n []).getD (g.at' n).toNat dOp.dft).kind = 6) : FnOK Try.prog 49 [dPg.emb g, .int .i64 n] [] (dPg.emb (stepG g n (opG g n))) [] := by
  have ho := op_ok hp hn (i := (g.at' n).toNat) (by have := h.at0 n hn; omega)
  have hn6 := h.n
  have ha0 := h.at0 n hn
  have hg := (good_of hp hn).1
  have hw1 : IntKind.i64.wrap (g.at' n + 1) = g.at' n + 1 := IntWalk.i64_in _ (by omega)
  have h16' : (n : Int) < 6 := by omega
  have h17' : (n : Int) < g.p.length := by omega
  refine fn_walkF c49 w49 Gsg_ok rfl ?_
  unfold j49
  have km1 : kindM 1 = 1 := rfl
  have km2 : kindM 2 = 2 := rfl
  have km3 : kindM 3 = 0 := rfl
  have km4 : kindM 4 = 3 := rfl
  have km5 : kindM 5 = 4 := rfl
  have km6 : kindM 6 = 5 := rfl
  have km7 : kindM 7 = 6 := rfl
  have km8 : kindM 8 = 7 := rfl
  have km9 : kindM 9 = 8 := rfl
  unfold gl at hl
  unfold gt at ht
  rw [k, show bnd 6 = 6 by decide] at ho
  by_cases c : (g.p.length : Int) ≤ ((g.p.getD n []).getD (g.at' n).toNat dOp.dft).obj
  · simp only [go_sem, ↓reduceIte, Nat.reduceAdd, Nat.reduceMul, Nat.reduceSub, Nat.reduceLT, Nat.reduceLeDiff, Nat.reduceEqDiff, Int.reduceToNat, Int.reduceEq, Int.reduceLT, Int.reduceLE, reduceCtorEq, Gsg_eq, hw1, h16', tszPg, kind_map, k, stepG, evG, opG, enF, upd_eq, List.range_zero, List.map_nil, List.nil_append, gl, gt, Int.toNat_natCast, km1, km2, km3, km4, km5, km6, km7, km8, km9, c, decide_true, Bool.true_or, true_or]
    omega
  · cases c2 : begB (g.l.getD []) ((g.p.getD n []).getD (g.at' n).toNat dOp.dft).obj with
    | true =>
      simp only [go_sem, ↓reduceIte, Nat.reduceAdd, Nat.reduceMul, Nat.reduceSub, Nat.reduceLT, Nat.reduceLeDiff, Nat.reduceEqDiff, Int.reduceToNat, Int.reduceEq, Int.reduceLT, Int.reduceLE, reduceCtorEq, Gsg_eq, hw1, h16', tszPg, kind_map, k, stepG, evG, opG, enF, upd_eq, List.range_zero, List.map_nil, List.nil_append, gl, gt, Int.toNat_natCast, km1, km2, km3, km4, km5, km6, km7, km8, km9, c, c2, decide_false, Bool.false_or, or_true]
      omega
    | false =>
      simp only [go_sem, ↓reduceIte, Nat.reduceAdd, Nat.reduceMul, Nat.reduceSub, Nat.reduceLT, Nat.reduceLeDiff, Nat.reduceEqDiff, Int.reduceToNat, Int.reduceEq, Int.reduceLT, Int.reduceLE, reduceCtorEq, Gsg_eq, hw1, h16', tszPg, kind_map, k, stepG, evG, opG, enF, upd_eq, List.range_zero, List.map_nil, List.nil_append, gl, gt, Int.toNat_natCast, km1, km2, km3, km4, km5, km6, km7, km8, km9, c, c2, decide_false, Bool.false_or, or_false]
      omega
theorem stepG_7 (g : Pg) (n : Nat) (h : Fit g.p g.at') (hp : progC badP g.p = 0) (hn : n < g.p.length) (ha : g.at' n < ((g.p.getD n []).length : Int)) (hl : (gl g).length ≤ 1000) (ht : (gt g).length ≤ 1000) (k : ((g.p.getD n []).getD (g.at' n).toNat dOp.dft).kind = 7) : FnOK Try.prog 49 [dPg.emb g, .int .i64 n] [] (dPg.emb (stepG g n (opG g n))) [] := by
  have ho := op_ok hp hn (i := (g.at' n).toNat) (by have := h.at0 n hn; omega)
  have hn6 := h.n
  have ha0 := h.at0 n hn
  have hg := (good_of hp hn).1
  have hw1 : IntKind.i64.wrap (g.at' n + 1) = g.at' n + 1 := IntWalk.i64_in _ (by omega)
  have h16' : (n : Int) < 6 := by omega
  have h17' : (n : Int) < g.p.length := by omega
  refine fn_walkF c49 w49 Gsg_ok rfl ?_
  unfold j49
  have km1 : kindM 1 = 1 := rfl
  have km2 : kindM 2 = 2 := rfl
  have km3 : kindM 3 = 0 := rfl
  have km4 : kindM 4 = 3 := rfl
  have km5 : kindM 5 = 4 := rfl
  have km6 : kindM 6 = 5 := rfl
  have km7 : kindM 7 = 6 := rfl
  have km8 : kindM 8 = 7 := rfl
  have km9 : kindM 9 = 8 := rfl
  unfold gl at hl
  unfold gt at ht
  simp only [go_sem, ↓reduceIte, Nat.reduceAdd, Nat.reduceMul, Nat.reduceSub, Nat.reduceLT, Nat.reduceLeDiff, Nat.reduceEqDiff, Int.reduceToNat, Int.reduceEq, Int.reduceLT, Int.reduceLE, reduceCtorEq, Gsg_eq, hw1, h16', tszPg, kind_map, k, stepG, evG, opG, enF, upd_eq, List.range_zero, List.map_nil, List.nil_append, gl, gt, Int.toNat_natCast, km1, km2, km3, km4, km5, km6, km7, km8, km9]
  omega
theorem stepG_8 (g : Pg) (n : Nat) (h : Fit g.p g.at') (hp : progC badP g.p = 0) (hn : n < g.p.length) (ha : g.at' n < ((g.p.getD n []).length : Int)) (hl : (gl g).length ≤ 1000) (ht : (gt g).length ≤ 1000) (k : ((g.p.getD n []).getD (g.at' n).toNat dOp.dft).kind = 8) : FnOK Try.prog 49 [dPg.emb g, .int .i64 n] [] (dPg.emb (stepG g n (opG g n))) [] := by
  have ho := op_ok hp hn (i := (g.at' n).toNat) (by have := h.at0 n hn; omega)
  have hn6 := h.n
  have ha0 := h.at0 n hn
  have hg := (good_of hp hn).1
  have hw1 : IntKind.i64.wrap (g.at' n + 1) = g.at' n + 1 := IntWalk.i64_in _ (by omega)
  have h16' : (n : Int) < 6 := by omega
  have h17' : (n : Int) < g.p.length := by omega
  refine fn_walkF c49 w49 Gsg_ok rfl ?_
  unfold j49
  have km1 : kindM 1 = 1 := rfl
  have km2 : kindM 2 = 2 := rfl
  have km3 : kindM 3 = 0 := rfl
  have km4 : kindM 4 = 3 := rfl
  have km5 : kindM 5 = 4 := rfl
  have km6 : kindM 6 = 5 := rfl
  have km7 : kindM 7 = 6 := rfl
  have km8 : kindM 8 = 7 := rfl
  have km9 : kindM 9 = 8 := rfl
  unfold gl at hl
  unfold gt at ht
  rw [k, show bnd 8 = 4 by decide] at ho
  simp only [go_sem, ↓reduceIte, Nat.reduceAdd, Nat.reduceMul, Nat.reduceSub, Nat.reduceLT, Nat.reduceLeDiff, Nat.reduceEqDiff, Int.reduceToNat, Int.reduceEq, Int.reduceLT, Int.reduceLE, reduceCtorEq, Gsg_eq, hw1, h16', tszPg, kind_map, k, stepG, evG, opG, enF, upd_eq, List.range_zero, List.map_nil, List.nil_append, gl, gt, Int.toNat_natCast, km1, km2, km3, km4, km5, km6, km7, km8, km9]
  omega
theorem stepG_9 (g : Pg) (n : Nat) (h : Fit g.p g.at') (hp : progC badP g.p = 0) (hn : n < g.p.length) (ha : g.at' n < ((g.p.getD n []).length : Int)) (hl : (gl g).length ≤ 1000) (ht : (gt g).length ≤ 1000) (k : ((g.p.getD n []).getD (g.at' n).toNat dOp.dft).kind = 9) : FnOK Try.prog 49 [dPg.emb g, .int .i64 n] [] (dPg.emb (stepG g n (opG g n))) [] := by
  have ho := op_ok hp hn (i := (g.at' n).toNat) (by have := h.at0 n hn; omega)
  have hn6 := h.n
  have ha0 := h.at0 n hn
  have hg := (good_of hp hn).1
  have hw1 : IntKind.i64.wrap (g.at' n + 1) = g.at' n + 1 := IntWalk.i64_in _ (by omega)
  have h16' : (n : Int) < 6 := by omega
  have h17' : (n : Int) < g.p.length := by omega
  refine fn_walkF c49 w49 Gsg_ok rfl ?_
  unfold j49
  have km1 : kindM 1 = 1 := rfl
  have km2 : kindM 2 = 2 := rfl
  have km3 : kindM 3 = 0 := rfl
  have km4 : kindM 4 = 3 := rfl
  have km5 : kindM 5 = 4 := rfl
  have km6 : kindM 6 = 5 := rfl
  have km7 : kindM 7 = 6 := rfl
  have km8 : kindM 8 = 7 := rfl
  have km9 : kindM 9 = 8 := rfl
  unfold gl at hl
  unfold gt at ht
  rw [k, show bnd 9 = 4 by decide] at ho
  simp only [go_sem, ↓reduceIte, Nat.reduceAdd, Nat.reduceMul, Nat.reduceSub, Nat.reduceLT, Nat.reduceLeDiff, Nat.reduceEqDiff, Int.reduceToNat, Int.reduceEq, Int.reduceLT, Int.reduceLE, reduceCtorEq, Gsg_eq, hw1, h16', tszPg, kind_map, k, stepG, evG, opG, enF, upd_eq, List.range_zero, List.map_nil, List.nil_append, gl, gt, Int.toNat_natCast, km1, km2, km3, km4, km5, km6, km7, km8, km9]
  omega
theorem f_StepG (g : Pg) (n : Nat) (h : Fit g.p g.at') (hp : progC badP g.p = 0) (hn : n < g.p.length) (ha : g.at' n < ((g.p.getD n []).length : Int)) (hl : (gl g).length ≤ 1000) (ht : (gt g).length ≤ 1000) :
    FnOK Try.prog 49 [dPg.emb g, .int .i64 n] [] (dPg.emb (stepG g n (opG g n))) [] := by
  have ho := op_ok hp hn (i := (g.at' n).toNat) (by have := h.at0 n hn; omega)
  rcases bnd_kind ho with k | k | k | k | k | k | k | k | k
  · exact stepG_1 g n h hp hn ha hl ht k
  · exact stepG_2 g n h hp hn ha hl ht k
  · exact stepG_3 g n h hp hn ha hl ht k
  · exact stepG_4 g n h hp hn ha hl ht k
  · exact stepG_5 g n h hp hn ha hl ht k
  · exact stepG_6 g n h hp hn ha hl ht k
  · exact stepG_7 g n h hp hn ha hl ht k
  · exact stepG_8 g n h hp hn ha hl ht k
  · exact stepG_9 g n h hp hn ha hl ht k
end Go.Proofs.Ytgcbhanfhnianaa.Rn
end
section
set_option linter.unusedSimpArgs false
set_option linter.unusedVariables false
set_option maxRecDepth 100000
open Go Go.Sx Go.Proofs
namespace Go.Proofs.Ytgcbhanfhnianaa.Rn
open Go.Proofs.Ytgcbhanfhnianaa.D Go.Proofs.Ytgcbhanfhnianaa.Pg Go.Proofs.Ytgcbhanfhnianaa.Tr Go.Proofs.Ytgcbhanfhnianaa.Cp
def leftB (g : Pg) : Nat → Bool
  | 0 => false
  | n + 1 => leftB g n || (begB (gl g) n && !overB g n)
def canA (g : Pg) : Nat → Bool
  | 0 => false
  | n + 1 => canA g n || canG g n
def endG (g : Pg) : En := { g.en with done := !leftB g g.p.length, stuck := leftB g g.p.length && !canA g g.p.length }
def j50_1 : JC :=
  (.seq (.ops <|
  qo 13 (.cmp .lss (.t 12) (.t 11)) <|
  .nil)
  (.seq (.cond (.t 13)
  .skip
  (.exit 0))
  (.seq (.block 1 (.seq (.ops <|
  qo 14 (.mv (.t 12)) <|
  qo 6 (.mv (.t 14)) <|
  .nil)
  (.prune [4, 1, 6, 5, 12, 11, 3, 2] (.seq (.ops <|
  qo 15 (.mv (.t 4)) <|
  qo 16 (.mv (.t 15)) <|
  .sc true 27 16 (qo 17 (.fa 2 7 (.t 1)) <|
  eo 18 (.load 1 false (.t 17)) <|
  qo 19 (.mv (.t 6)) <|
  eo 20 (.call 61 [(.t 18), (.t 19)]) <|
  qo 21 (.mv (.t 20)) <|
  .sc false 26 21 (eo 22 (.load 29 true (.t 1)) <|
  qo 23 (.mv (.t 6)) <|
  eo 24 (.call 92 [(.t 22), (.t 23)]) <|
  qo 25 (.nt (.t 24)) <|
  .nil) (.t 25) <|
  .nil) (.t 26) <|
  qo 4 (.mv (.t 27)) <|
  .nil)
  (.prune [5, 1, 6, 12, 11, 4, 3, 2] (.ops <|
  qo 28 (.mv (.t 5)) <|
  qo 29 (.mv (.t 28)) <|
  .sc true 33 29 (eo 30 (.load 29 true (.t 1)) <|
  qo 31 (.mv (.t 6)) <|
  eo 32 (.call 48 [(.t 30), (.t 31)]) <|
  .nil) (.t 32) <|
  qo 5 (.mv (.t 33)) <|
  .nil))))))
  (.prune [12, 11, 4, 1, 5, 3, 2] (.ops <|
  qo 34 (.ar .add (.t 12) (I 1)) <|
  qo 12 (.mv (.t 34)) <|
  .nil)))))
def j50_2 : JC :=
  (.prune [4, 5, 3, 2] (.seq (.ops <|
  qo 35 (.mv (.t 4)) <|
  qo 36 (.nt (.t 35)) <|
  qo 37 (.mv (.t 4)) <|
  qo 38 (.mv (.t 37)) <|
  .prune [38, 5, 3, 36, 2] <|
  .sc false 41 38 (qo 39 (.mv (.t 5)) <|
  qo 40 (.nt (.t 39)) <|
  .nil) (.t 40) <|
  qo 42 (.fa 3 18 (.t 3)) <|
  en (.store 1 (.t 42) (.t 36)) <|
  qo 43 (.fa 4 19 (.t 3)) <|
  en (.store 1 (.t 43) (.t 41)) <|
  .nil)
  (.prune [3, 2] (.seq (.ops <|
  eo 44 (.load 20 true (.t 3)) <|
  en (.store 20 (.t 2) (.t 44)) <|
  .nil)
  .ret))))
def j50 : JC :=
  (.seq (.ops <|
  eo 1 (.box 91 (.t 0)) <|
  eo 2 (.alloc 28 (.agg [(.arr 8 1 fun _ => (.int .i64 0)), (.arr 4 1 fun _ => (.int .i64 0)), (.arr 6 1 fun _ => (.int .i64 0)), (.bool false), (.bool false)])) <|
  .nil)
  (.seq (.ops <|
  qo 7 (.fa 3 8 (.t 1)) <|
  eo 8 (.load 20 true (.t 7)) <|
  eo 3 (.alloc 28 (.agg [(.arr 8 1 fun _ => (.int .i64 0)), (.arr 4 1 fun _ => (.int .i64 0)), (.arr 6 1 fun _ => (.int .i64 0)), (.bool false), (.bool false)])) <|
  en (.store 20 (.t 3) (.t 8)) <|
  .nil)
  (.seq (.ops <|
  qo 4 (.mv (B false)) <|
  qo 5 (.mv (B false)) <|
  .nil)
  (.seq (.seq (.ops <|
  .prune [1, 4, 5, 3, 2] <|
  qo 9 (.fa 0 0 (.t 1)) <|
  eo 10 (.load 1 false (.t 9)) <|
  qo 11 (.len (.t 10)) <|
  qo 12 (.mv (I 0)) <|
  .nil)
  (.prune [12, 11, 4, 1, 5, 3, 2] (.block 0 (.loop [11, 1, 3, 2] [12, 4, 5] j50_1))))
  j50_2))))
theorem c50 : fnIs Try.prog qall 50 = some (j50.flat, [.cell 2 28], 45) := by kernel_rfl
theorem w50 : j50.wf 45 = true := by kernel_rfl
def Geg (f : FuncId) (a : List SV) (m : List Res) : Sx.Call := (FH.rd 61 (.two dEs .int) (.one .bool) (fun _ => True) (fun y => begB y.1 y.2.1) <|
  FH.rd 92 (.two dPg .int) (.one .bool) (fun y => 0 ≤ y.2.1 ∧ y.2.1 < 6 ∧ y.2.1 < y.1.p.length) (fun y => overB y.1 y.2.1) <|
  FH.rd 48 (.two dPg .int) (.one .bool) (fun y => Fit y.1.p y.1.at' ∧ progC badP y.1.p = 0) (fun y => canG y.1 y.2.1) FH.none) f a m
theorem Geg_eq (f : FuncId) (a : List SV) (m : List Res) : Geg f a m = (FH.rd 61 (.two dEs .int) (.one .bool) (fun _ => True) (fun y => begB y.1 y.2.1) <|
  FH.rd 92 (.two dPg .int) (.one .bool) (fun y => 0 ≤ y.2.1 ∧ y.2.1 < 6 ∧ y.2.1 < y.1.p.length) (fun y => overB y.1 y.2.1) <|
  FH.rd 48 (.two dPg .int) (.one .bool) (fun y => Fit y.1.p y.1.at' ∧ progC badP y.1.p = 0) (fun y => canG y.1 y.2.1) FH.none) f a m := nr rfl
theorem Geg_ok : FHOK Try.prog Geg := FH.rd_ok (by kernel_rfl) (fun y _ => f_begun y.1 y.2.1) <| FH.rd_ok (by kernel_rfl) (fun y h => f_over y.1 y.2.1 h) <| FH.rd_ok (by kernel_rfl) (fun y h => f_CanG y.1 y.2.1 h.1 h.2) FH.none_ok
theorem f_EndedG (g : Pg) (h : Fit g.p g.at') (hp : progC badP g.p = 0) : FnOK Try.prog 50 [dPg.emb g] [] (dEn.emb (endG g)) [] := by
  refine fn_walkF c50 w50 Geg_ok rfl ?_
  unfold j50
  simp only [go_sem, ↓reduceIte, Nat.reduceAdd, Nat.reduceMul, Nat.reduceSub, Nat.reduceLT, Nat.reduceLeDiff, Nat.reduceEqDiff, Int.reduceToNat, Int.reduceEq, Int.reduceLT, Int.reduceLE, reduceCtorEq]
  have hn := h.n
  refine loopF Nat (fun i => [.int .i64 i, .bool (leftB g i), .bool (canA g i)]) (fun i => [.blk 91 (dPg.emb g), .blk 28 (dEn.emb zeroEn), .blk 28 (dEn.emb g.en)]) (fun i => i ≤ g.p.length) (fun i => g.p.length - i) 0 (by omega) ?_ rfl ?_
  · simp only [go_sem, ↓reduceIte, Nat.reduceAdd, Nat.reduceMul, Nat.reduceSub, Nat.reduceLT, Nat.reduceLeDiff, Nat.reduceEqDiff, Int.reduceToNat, Int.reduceEq, Int.reduceLT, Int.reduceLE, reduceCtorEq]
    exact ⟨rfl, rfl⟩
  intro i hi
  by_cases h1 : i < g.p.length
  · have h1' : (i : Int) < g.p.length := by omega
    have h6 : (i : Int) < 6 := by omega
    have hw : IntKind.i64.wrap ((i : Int) + 1) = ((i + 1 : Nat) : Int) := IntWalk.i64_in _ (by omega)
    have hd : leftB g (i + 1) = (leftB g i || (begB (gl g) i && !overB g i)) := rfl
    have hs : canA g (i + 1) = (canA g i || canG g i) := rfl
    rw [gl] at hd
    unfold j50_1
    simp only [go_sem, ↓reduceIte, Nat.reduceAdd, Nat.reduceMul, Nat.reduceSub, Nat.reduceLT, Nat.reduceLeDiff, Nat.reduceEqDiff, Int.reduceToNat, Int.reduceEq, Int.reduceLT, Int.reduceLE, reduceCtorEq, Geg_eq, h1, h1', h6, hw]
    exact ⟨fun _ _ => by omega, fun _ => ⟨h, hp⟩, i + 1, by omega, by omega, rfl, hd.symm, hs.symm⟩
  · have h1' : ¬ (i : Int) < g.p.length := by omega
    have e : i = g.p.length := by omega
    subst e
    unfold j50_1
    simp only [go_sem, ↓reduceIte, Nat.reduceAdd, Nat.reduceMul, Nat.reduceSub, Nat.reduceLT, Nat.reduceLeDiff, Nat.reduceEqDiff, Int.reduceToNat, Int.reduceEq, Int.reduceLT, Int.reduceLE, reduceCtorEq, h1']
    unfold j50_2
    simp only [go_sem, ↓reduceIte, Nat.reduceAdd, Nat.reduceMul, Nat.reduceSub, Nat.reduceLT, Nat.reduceLeDiff, Nat.reduceEqDiff, Int.reduceToNat, Int.reduceEq, Int.reduceLT, Int.reduceLE, reduceCtorEq, tszEn, endG, zeroEn]
def firstG (p : List (List PO)) : Pg := ⟨p, fun _ => 0, none, zeroEn, none⟩
def pickG (g : Pg) (t : Int) : Pg := if canG g t = true then stepG g t.toNat (opG g t) else g
def runG (p : List (List PO)) (picks : List Int) : Nat → Pg
  | 0 => firstG p
  | i + 1 => pickG (runG p picks i) (picks.getD i 0)
theorem canG_some {g : Pg} {t : Int} (hf : Fit g.p g.at') (h : canG g t = true) : ∃ n : Nat, t = n ∧ n < g.p.length ∧ begB (gl g) n = true ∧ g.at' n < ((g.p.getD n []).length : Int) := by
  unfold canG at h
  split at h
  · cases h
  rename_i h1
  split at h
  · cases h
  rename_i h2
  split at h
  · cases h
  rename_i h3
  have ha := hf.at0 t.toNat (by omega)
  simp only [overB, decide_eq_true_eq] at h3
  refine ⟨t.toNat, by omega, by omega, ?_, by omega⟩
  rw [show ((t.toNat : Nat) : Int) = t by omega]
  simpa using h2
theorem runG_ok {p : List (List PO)} (hp : progC badP p = 0) {picks : List Int} : ∀ i, (runG p picks i).p = p ∧ Fit p (runG p picks i).at' ∧ (gl (runG p picks i)).length ≤ i ∧ (gt (runG p picks i)).length ≤ i
  | 0 => ⟨rfl, fit_first hp, Nat.le_refl _, Nat.le_refl _⟩
  | i + 1 => by
    obtain ⟨h1, h2, h3, h4⟩ := runG_ok hp (picks := picks) i
    rw [runG, pickG]
    split
    · rename_i hc
      generalize runG p picks i = g at *
      subst h1
      obtain ⟨n, hn, k1, k2, k3⟩ := canG_some h2 hc
      rw [hn]
      refine ⟨rfl, ?_, ?_, ?_⟩
      · refine ⟨h2.n, fun k hk => ?_⟩
        have := h2.at0 k hk
        show 0 ≤ Tr.upd _ _ _ k ∧ Tr.upd _ _ _ k ≤ _
        unfold Tr.upd
        split
        · rename_i e; subst e; rw [Int.toNat_natCast]; omega
        · exact this
      · show (gl (stepG _ _ _)).length ≤ i + 1
        unfold gl at h3
        unfold stepG gl
        simp only
        split
        · exact Nat.le_succ_of_le h3
        · simp only [Option.getD_some, List.length_append, List.length_cons, List.length_nil]; omega
      · show (Option.getD (some _) []).length ≤ i + 1
        simp only [Option.getD_some, List.length_append, List.length_cons, List.length_nil]; omega
    · exact ⟨h1, h2, by omega, by omega⟩
end Go.Proofs.Ytgcbhanfhnianaa.Rn
end
section
set_option linter.unusedSimpArgs false
set_option linter.unusedVariables false
set_option maxRecDepth 100000
open Go Go.Sx Go.Proofs
namespace Go.Proofs.Ytgcbhanfhnianaa.Rn
open Go.Proofs.Ytgcbhanfhnianaa.D Go.Proofs.Ytgcbhanfhnianaa.Pg Go.Proofs.Ytgcbhanfhnianaa.Tr
structure Same (p : List (List PO)) (s : Sta) (g : Pg) : Prop where
  p : g.p = p
  at' : s.at' = g.at'
  en : s.en = g.en
  begun : ∀ t : Nat, s.begun t = begB (gl g) t
  owner : ∀ k : Nat, s.owner k = Tr.ownR (gl g) k + 1
  pos : ∀ k : Nat, 0 ≤ s.owner k
theorem beg_add (l : List Ev) (e : Ev) (t : Int) : begB (l ++ [e]) t = (begB l t || (decide (e.kind = 5) && decide (e.obj = t))) := by
  simp only [begB, didB, List.any_append, List.any_cons, List.any_nil, Bool.or_false, Bool.or_assoc]
theorem own_add (l : List Ev) (e : Ev) (k : Int) : Tr.ownR (l ++ [e]) k = ownS k (Tr.ownR l k) e := by
  simp only [Tr.ownR, List.foldl_append, List.foldl_cons, List.foldl_nil]
theorem next_none {s : Sta} {p : List (List PO)} {t : Int} : nextF s p t = none ↔ t < 0 ∨ (p.length : Int) ≤ t ∨ s.begun t.toNat = false ∨ s.at' t.toNat = ((p.getD t.toNat []).length : Int) := by
  unfold nextF
  split
  · rename_i h; constructor
    · intro _; omega
    · intro _; rfl
  · rename_i h1
    split
    · rename_i h; simp [h]
    · rename_i h2
      split
      · rename_i h; simp [h]
      · rename_i h3
        constructor
        · intro h; cases h
        · rintro (h | h | h | h) <;> first | omega | exact absurd h h2 | exact absurd h h3
theorem can_same {p : List (List PO)} {s : Sta} {g : Pg} (hp : progC badP p = 0) (hf : Fit p s.at') (h : Same p s g) (t : Int) : canF s p t = canG g t := by
  have e : g.p = p := h.p
  unfold canF canG
  rw [e]
  cases hx : nextF s p t with
  | none =>
    simp only
    have := next_none.1 hx
    by_cases h1 : t < 0 ∨ (p.length : Int) ≤ t
    · rw [if_pos h1]
    rw [if_neg h1]
    by_cases h2 : begB (gl g) t = false
    · rw [if_pos h2]
    rw [if_neg h2]
    rw [if_pos]
    rcases this with h3 | h3 | h3 | h3
    · omega
    · omega
    · rw [h.begun, show ((t.toNat : Nat) : Int) = t by omega] at h3; exact absurd h3 h2
    · rw [overB, decide_eq_true_eq, e, ← h.at']; exact h3
  | some y =>
    obtain ⟨l, i⟩ := y
    obtain ⟨n, rfl, h1, h2, h3, h4, h5⟩ := next_some hf hx
    have ho := op_ok hp h1 (i := i) (by rw [← h3]; exact h5)
    rw [← h3] at ho
    have eo : opG g n = l.getD i dOp.dft := by
      rw [opG, e, Int.toNat_natCast, ← h.at', h4, Int.toNat_natCast, h3]
    rw [if_neg (by omega), if_neg (by rw [← h.begun, h2]; simp), if_neg (by
      rw [overB, decide_eq_true_eq, e, ← h.at', Int.toNat_natCast, h4, ← h3]; omega), eo]
    simp only
    have b4 : bnd 4 = 5 := by decide
    have b7 : bnd 7 = 6 := by decide
    by_cases k4 : (l.getD i dOp.dft).kind = 4
    · rw [if_pos k4, if_pos k4]
      have h6 := h.owner (l.getD i dOp.dft).obj.toNat
      have h7 := h.pos (l.getD i dOp.dft).obj.toNat
      rw [show (((l.getD i dOp.dft).obj.toNat : Nat) : Int) = (l.getD i dOp.dft).obj by omega] at h6
      rw [Bool.eq_iff_iff, decide_eq_true_eq, decide_eq_true_eq]; omega
    rw [if_neg k4, if_neg k4]
    by_cases k7 : (l.getD i dOp.dft).kind = 7
    · rw [if_pos k7, if_pos k7, overB, e, ← h.at', h.begun, show (((l.getD i dOp.dft).obj.toNat : Nat) : Int) = (l.getD i dOp.dft).obj by omega]
    · rw [if_neg k7, if_neg k7]
theorem ev_same {p : List (List PO)} {s : Sta} {g : Pg} (h : Same p s g) (n : Nat) {o : PO} (ho : 0 ≤ o.obj ∧ o.obj < bnd o.kind) : evK s p n o = evG g n o := by
  have h6 := h.owner o.obj.toNat
  have h8 := h.begun o.obj.toNat
  rw [show ((o.obj.toNat : Nat) : Int) = o.obj by omega] at h6 h8
  have hb := bnd_kind ho
  unfold evK evG kindM
  rw [h6, h8, h.p]
  rcases hb with k | k | k | k | k | k | k | k | k <;> simp only [k, Int.reduceEq, if_true, if_false]
  · by_cases c : Tr.ownR (gl g) o.obj = n
    · rw [if_pos c, if_pos (by omega)]
    · rw [if_neg c, if_neg (by omega)]
  · cases c : begB (gl g) o.obj with
    | true => rw [if_neg (by simp), if_pos (.inr rfl)]
    | false =>
      by_cases c2 : o.obj < p.length
      · rw [if_pos ⟨c2, rfl⟩, if_neg (by simp; omega)]
      · rw [if_neg (by simp [c2]), if_pos (.inl (by omega))]
theorem step_same {p : List (List PO)} {s : Sta} {g : Pg} (h : Same p s g) (n : Nat) {o : PO} (ho : 0 ≤ o.obj ∧ o.obj < bnd o.kind) : Same p (stF s p n o) (stepG g n o) := by
  have he := ev_same h n ho
  have h6 := h.owner o.obj.toNat
  have h8 := h.begun o.obj.toNat
  rw [show ((o.obj.toNat : Nat) : Int) = o.obj by omega] at h6 h8
  have hb := bnd_kind ho
  have hl : gl (stepG g n o) = if evK s p n o = 0 then gl g else gl g ++ [⟨evK s p n o, n, o.obj⟩] := by
    rw [he]; unfold gl stepG; simp only; split <;> rfl
  refine ⟨h.p, ?_, ?_, fun t => ?_, fun k => ?_, fun k => ?_⟩
  · show Tr.upd s.at' n (s.at' n + 1) = Tr.upd g.at' n (g.at' n + 1)
    rw [h.at']
  · show enF s.en n o = enF g.en n o
    rw [h.en]
  · have key : begB (gl (stepG g n o)) t = (begB (gl g) t || (decide (evK s p n o = 5) && decide (o.obj = t))) := by
      rw [hl]
      split
      · rename_i h0; rw [h0]; simp
      · exact beg_add _ _ _
    rw [key, ← h.begun]
    show (if o.kind = 6 ∧ o.obj < p.length ∧ s.begun o.obj.toNat = false then Tr.upd s.begun o.obj.toNat true else s.begun) t = _
    have k5 : evK s p n o = 5 ↔ (o.kind = 6 ∧ o.obj < p.length ∧ s.begun o.obj.toNat = false) := by
      unfold evK
      rcases hb with k | k | k | k | k | k | k | k | k <;> simp only [k, Int.reduceEq, if_true, if_false, false_and, true_and, iff_false] <;> try (split <;> simp_all <;> done)
    by_cases c : o.kind = 6 ∧ o.obj < p.length ∧ s.begun o.obj.toNat = false
    · rw [if_pos c, decide_eq_true (k5.2 c), Bool.true_and]
      unfold Tr.upd
      by_cases c2 : t = o.obj.toNat
      · rw [if_pos c2, decide_eq_true (by omega), Bool.or_true]
      · rw [if_neg c2, decide_eq_false (by omega), Bool.or_false]
    · rw [if_neg c, decide_eq_false (fun q => c (k5.1 q)), Bool.false_and, Bool.or_false]
  · have key : Tr.ownR (gl (stepG g n o)) k = if evK s p n o = 0 then Tr.ownR (gl g) k else ownS k (Tr.ownR (gl g) k) ⟨evK s p n o, n, o.obj⟩ := by
      rw [hl]
      split
      · rfl
      · exact own_add _ _ _
    rw [key]
    have hk := h.owner k
    show (if o.kind = 4 then Tr.upd s.owner o.obj.toNat (n + 1) else if o.kind = 5 ∧ s.owner o.obj.toNat = (n : Int) + 1 then Tr.upd s.owner o.obj.toNat 0 else s.owner) k = _
    unfold evK
    have c1 : k = o.obj.toNat ↔ o.obj = k := by omega
    by_cases c : s.owner o.obj.toNat = (n : Int) + 1
    all_goals (rcases hb with q | q | q | q | q | q | q | q | q <;> simp only [q, c, Int.reduceEq, if_true, if_false, false_and, true_and, and_false, and_true, ownS, Tr.upd, c1])
    all_goals (repeat' split)
    all_goals (first | omega | (rename_i r; cases r))
  · show 0 ≤ (if o.kind = 4 then Tr.upd s.owner o.obj.toNat (n + 1) else if o.kind = 5 ∧ s.owner o.obj.toNat = (n : Int) + 1 then Tr.upd s.owner o.obj.toNat 0 else s.owner) k
    have := h.pos k
    unfold Tr.upd
    repeat' split
    all_goals (try dsimp only; try split)
    all_goals omega
theorem pick_same {p : List (List PO)} {s : Sta} {g : Pg} (hp : progC badP p = 0) (hf : Fit p s.at') (h : Same p s g) (t : Int) : Same p (pickS p s t) (pickG g t) ∧ gl (pickG g t) = gl g ++ pickE p s t := by
  have hc := can_same hp hf h t
  unfold pickS pickE pickG
  rw [← hc]
  cases hx : nextF s p t with
  | none =>
    have : canF s p t = false := by rw [canF, hx]
    rw [this, if_neg (by simp)]
    exact ⟨h, (List.append_nil _).symm⟩
  | some y =>
    obtain ⟨l, i⟩ := y
    obtain ⟨n, rfl, h1, h2, h3, h4, h5⟩ := next_some hf hx
    have ho := op_ok hp h1 (i := i) (by rw [← h3]; exact h5)
    rw [← h3] at ho
    have eo : opG g n = l.getD i dOp.dft := by
      rw [opG, h.p, Int.toNat_natCast, ← h.at', h4, Int.toNat_natCast, h3]
    simp only [Int.toNat_natCast, eo]
    by_cases c : canF s p n = true
    · rw [if_pos c, if_pos c]
      refine ⟨step_same h n ho, ?_⟩
      have he := ev_same h n ho
      show (if evG g n (l.getD i dOp.dft) = 0 then g.l else some (gl g ++ [⟨evG g n (l.getD i dOp.dft), n, (l.getD i dOp.dft).obj⟩])).getD [] = _
      rw [← he]
      by_cases c2 : evK s p n (l.getD i dOp.dft) = 0
      · rw [if_pos c2, if_neg (fun q => q.2 c2), List.append_nil]
      · rw [if_neg c2, if_pos ⟨c, c2⟩, evE, if_neg c2]; rfl
    · rw [if_neg c, if_neg c, if_neg (fun q => c q.1), List.append_nil]
      exact ⟨h, rfl⟩
theorem run_same {p : List (List PO)} (hp : progC badP p = 0) {picks : List Int} : ∀ i, Same p (runS p picks i) (runG p picks i) ∧ gl (runG p picks i) = runE p picks i
  | 0 => ⟨⟨rfl, rfl, rfl, fun t => by
      show Tr.upd (fun _ => false) 0 true t = _
      unfold Tr.upd begB
      by_cases c : t = 0
      · subst c; rfl
      · rw [if_neg c, decide_eq_false (by omega)]; rfl, fun _ => rfl, fun _ => Int.le_refl _⟩, rfl⟩
  | i + 1 => by
    obtain ⟨h1, h2⟩ := run_same hp (picks := picks) i
    obtain ⟨h3, h4⟩ := pick_same hp (fit_run hp i) h1 (picks.getD i 0)
    exact ⟨h3, by rw [runG, h4, h2]; rfl⟩
theorem left_same {p : List (List PO)} {s : Sta} {g : Pg} (h : Same p s g) : ∀ n, n ≤ p.length → doneB s p n = !leftB g n
  | 0, _ => rfl
  | n + 1, hn => by
    rw [doneB, leftB, left_same h n (by omega), Bool.not_or]
    congr 1
    have e : overB g n = decide (s.at' n = ((p.getD n []).length : Int)) := by rw [overB, h.p, ← h.at', Int.toNat_natCast]
    rw [Bool.eq_iff_iff, Option.isNone_iff_eq_none, next_none, e, ← h.begun]
    simp only [Int.toNat_natCast]
    cases s.begun n <;> simp <;> omega
theorem can_all {p : List (List PO)} {s : Sta} {g : Pg} (hp : progC badP p = 0) (hf : Fit p s.at') (h : Same p s g) : ∀ n, stuckB s p n = !canA g n
  | 0 => rfl
  | n + 1 => by rw [stuckB, canA, can_all hp hf h n, can_same hp hf h, Bool.not_or]
end Go.Proofs.Ytgcbhanfhnianaa.Rn
end
