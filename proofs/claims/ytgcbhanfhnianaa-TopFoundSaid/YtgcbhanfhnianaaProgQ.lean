/- States of a program that runs: what the package prog makes of them. Conditions: none. -/
import Derived.Test.YtgcbhanfhnianaaProgC
import Derived.Test.YtgcbhanfhnianaaTraceR
import Derived.Test.YtgcbhanfhnianaaEqs
import Derived.Test.YtgcbhanfhnianaaCpy
import Derived.Test.YtgcbhanfhnianaaSx32
section
set_option linter.unusedSimpArgs false
set_option linter.unusedVariables false
set_option maxRecDepth 100000
open Go Go.Sx Go.Proofs
namespace Go.Proofs.Ytgcbhanfhnianaa.D
structure En where
  mem : Nat → Int
  vols : Nat → Int
  has : Nat → Int
  done : Bool
  stuck : Bool
abbrev tEn : TT := .st [.arr 8 1 (.int .i64), .arr 4 1 (.int .i64), .arr 6 1 (.int .i64), .bool, .bool]
def dEn : DT En := (DT.ofTT tEn).iso (fun x => ⟨x.1, x.2.1, x.2.2.1, x.2.2.2.1, x.2.2.2.2.1⟩) (fun e => (e.mem, e.vols, e.has, e.done, e.stuck, ())) (fun _ => rfl) (fun _ => rfl)
instance : Flat dEn := (Flat.ofTT rfl).iso
theorem en_emb (e : En) : dEn.emb e = .agg [.arr 8 1 fun i => .int .i64 (e.mem i), .arr 4 1 fun i => .int .i64 (e.vols i), .arr 6 1 fun i => .int .i64 (e.has i), .bool e.done, .bool e.stuck] := nr rfl
theorem en_decV (m : List Res) (f g h : Nat → Int) (a b : Bool) : dEn.decV m (.agg [.arr 8 1 fun i => .int .i64 (f i), .arr 4 1 fun i => .int .i64 (g i), .arr 6 1 fun i => .int .i64 (h i), .bool a, .bool b]) = ⟨f, g, h, a, b⟩ := nr rfl
theorem en_decP (m : List Res) (f g h : Nat → Int) (a b : Bool) : dEn.decP m (.agg [.arr 8 1 fun i => .int .i64 (f i), .arr 4 1 fun i => .int .i64 (g i), .arr 6 1 fun i => .int .i64 (h i), .bool a, .bool b]) = True := eq_true ⟨⟨rfl, rfl, fun _ _ => rfl⟩, ⟨rfl, rfl, fun _ _ => rfl⟩, ⟨rfl, rfl, fun _ _ => rfl⟩, trivial, trivial, trivial⟩
theorem en_eta (e : En) : (⟨e.mem, e.vols, e.has, e.done, e.stuck⟩ : En) = e := nr rfl
attribute [go_sem] en_emb en_decV en_decP en_eta
structure Sta where
  en : En
  at' : Nat → Int
  begun : Nat → Bool
  owner : Nat → Int
def dSta : DT Sta := (DT.ofTT (.st [tEn, .arr 6 1 (.int .i64), .arr 6 1 .bool, .arr 5 1 (.int .i64)])).iso (fun x => ⟨⟨x.1.1, x.1.2.1, x.1.2.2.1, x.1.2.2.2.1, x.1.2.2.2.2.1⟩, x.2.1, x.2.2.1, x.2.2.2.1⟩) (fun s => ((s.en.mem, s.en.vols, s.en.has, s.en.done, s.en.stuck, ()), s.at', s.begun, s.owner, ())) (fun _ => rfl) (fun _ => rfl)
instance : Flat dSta := (Flat.ofTT rfl).iso
theorem sta_emb (s : Sta) : dSta.emb s = .agg [.agg [.arr 8 1 fun i => .int .i64 (s.en.mem i), .arr 4 1 fun i => .int .i64 (s.en.vols i), .arr 6 1 fun i => .int .i64 (s.en.has i), .bool s.en.done, .bool s.en.stuck], .arr 6 1 fun i => .int .i64 (s.at' i), .arr 6 1 fun i => .bool (s.begun i), .arr 5 1 fun i => .int .i64 (s.owner i)] := nr rfl
theorem sta_decV (m : List Res) (f g h k o : Nat → Int) (a b : Bool) (l : Nat → Bool) : dSta.decV m (.agg [.agg [.arr 8 1 fun i => .int .i64 (f i), .arr 4 1 fun i => .int .i64 (g i), .arr 6 1 fun i => .int .i64 (h i), .bool a, .bool b], .arr 6 1 fun i => .int .i64 (k i), .arr 6 1 fun i => .bool (l i), .arr 5 1 fun i => .int .i64 (o i)]) = ⟨⟨f, g, h, a, b⟩, k, l, o⟩ := nr rfl
theorem sta_decP (m : List Res) (f g h k o : Nat → Int) (a b : Bool) (l : Nat → Bool) : dSta.decP m (.agg [.agg [.arr 8 1 fun i => .int .i64 (f i), .arr 4 1 fun i => .int .i64 (g i), .arr 6 1 fun i => .int .i64 (h i), .bool a, .bool b], .arr 6 1 fun i => .int .i64 (k i), .arr 6 1 fun i => .bool (l i), .arr 5 1 fun i => .int .i64 (o i)]) = True := eq_true ⟨⟨⟨rfl, rfl, fun _ _ => rfl⟩, ⟨rfl, rfl, fun _ _ => rfl⟩, ⟨rfl, rfl, fun _ _ => rfl⟩, trivial, trivial, trivial⟩, ⟨rfl, rfl, fun _ _ => rfl⟩, ⟨rfl, rfl, fun _ _ => trivial⟩, ⟨rfl, rfl, fun _ _ => rfl⟩, trivial⟩
theorem sta_eta (s : Sta) : (⟨⟨s.en.mem, s.en.vols, s.en.has, s.en.done, s.en.stuck⟩, s.at', s.begun, s.owner⟩ : Sta) = s := nr rfl
theorem sta_eta2 (s : Sta) : (⟨s.en, s.at', s.begun, s.owner⟩ : Sta) = s := nr rfl
attribute [go_sem] sta_emb sta_decV sta_decP sta_eta sta_eta2
end Go.Proofs.Ytgcbhanfhnianaa.D
namespace Go.Proofs.Ytgcbhanfhnianaa.Rn
open Go.Proofs.Ytgcbhanfhnianaa.D Go.Proofs.Ytgcbhanfhnianaa.Pg Go.Proofs.Ytgcbhanfhnianaa.Tr

def j89 : JC :=
  (.seq (.ops <|
  qo 6 (.mv (.c .nilp)) <|
  .nil)
  (.seq (.seq (.dops <|
  qo 7 (.mv (.t 2)) <|
  qo 8 (.cmp .lss (.t 7) (I 0)) <|
  qo 9 (.mv (.t 8)) <|
  .sc true 14 9 (qo 10 (.mv (.t 2)) <|
  qo 11 (.mv (.t 1)) <|
  qo 12 (.len (.t 11)) <|
  qo 13 (.cmp .geq (.t 10) (.t 12)) <|
  .nil) (.t 13) <|
  qo 15 (.mv (.t 14)) <|
  .sc true 23 15 (qo 16 (.mv (.t 0)) <|
  qo 17 (.mv (.t 2)) <|
  qo 18 (.nck (.t 16)) <|
  qo 19 (.fa 2 26 (.t 18)) <|
  qo 20 (.ia 6 1 (.t 19) (.t 17)) <|
  eo 21 (.load 1 false (.t 20)) <|
  qo 22 (.nt (.t 21)) <|
  .nil) (.t 22) <|
  .prune [23, 0, 2, 1] <|
  qo 24 (.mv (.t 23)) <|
  .sc true 37 24 (qo 25 (.mv (.t 0)) <|
  qo 26 (.mv (.t 2)) <|
  qo 27 (.nck (.t 25)) <|
  qo 28 (.fa 1 20 (.t 27)) <|
  qo 29 (.ia 6 1 (.t 28) (.t 26)) <|
  eo 30 (.load 1 false (.t 29)) <|
  qo 31 (.mv (.t 1)) <|
  qo 32 (.mv (.t 2)) <|
  qo 33 (.is 1 (.t 31) (.t 32)) <|
  eo 34 (.load 1 false (.t 33)) <|
  qo 35 (.len (.t 34)) <|
  qo 36 (.cmp .eql (.t 30) (.t 35)) <|
  .nil) (.t 36) <|
  .nil)
  (.prune [37, 1, 2, 0] (.cond (.t 37)
  (.seq (.ops <|
  qo 6 (.mv (.c .nilp)) <|
  .nil)
  .ret)
  .skip)))
  (.prune [1, 2, 0] (.seq (.dops <|
  qo 38 (.mv (.t 1)) <|
  qo 39 (.mv (.t 2)) <|
  qo 40 (.is 1 (.t 38) (.t 39)) <|
  eo 41 (.load 1 false (.t 40)) <|
  .prune [0, 2, 41] <|
  qo 42 (.mv (.t 0)) <|
  qo 43 (.mv (.t 2)) <|
  qo 44 (.nck (.t 42)) <|
  qo 45 (.fa 1 20 (.t 44)) <|
  .prune [45, 43, 41] <|
  qo 46 (.ia 6 1 (.t 45) (.t 43)) <|
  eo 47 (.load 1 false (.t 46)) <|
  qo 48 (.is 3 (.t 41) (.t 47)) <|
  qo 6 (.mv (.t 48)) <|
  .nil)
  .ret))))
theorem c89 : fnIs Try.prog qall 89 = some (j89.flat, [.tmp 6], 49) := by kernel_rfl
theorem w89 : j89.wf 49 = true := by kernel_rfl
structure Fit (p : List (List PO)) (at' : Nat → Int) : Prop where
  n : p.length ≤ 6
  at0 : ∀ t : Nat, t < p.length → 0 ≤ at' t ∧ at' t ≤ (p.getD t []).length
def nextF (s : Sta) (p : List (List PO)) (t : Int) : Option (List PO × Nat) :=
  if t < 0 ∨ (p.length : Int) ≤ t then none else if s.begun t.toNat = false then none else if s.at' t.toNat = (p.getD t.toNat []).length then none else some (p.getD t.toNat [], (s.at' t.toNat).toNat)
abbrev dNx : DP (Option (List PO × Nat)) := DP.opt (DT.eptr 3 dOp)
theorem f_next (s : Sta) (p : List (List PO)) (t : Int) (h : Fit p s.at') : FnOK Try.prog 89 [.ptr 0 [] 0, dProg.emb p, .int .i64 t] [.blk 84 (dSta.emb s)] (dNx.emb (nextF s p t)) [.blk 84 (dSta.emb s)] := by
  refine fn_walkF c89 w89 FH.none_ok rfl ?_
  unfold j89
  simp only [go_sem, ↓reduceIte, Nat.reduceAdd, Nat.reduceMul, Nat.reduceSub, Nat.reduceLT, Nat.reduceLeDiff, Nat.reduceEqDiff, Int.reduceToNat, Int.reduceEq, Int.reduceLT, Int.reduceLE, reduceCtorEq]
  have hn := h.n
  have hb : ∀ a b c d : Bool, (a || b || c || d) = true → a = true ∨ b = true ∨ c = true ∨ d = true := by decide
  have hf : ∀ a b c d : Bool, (a || b || c || d) = false → a = false ∧ b = false ∧ c = false ∧ d = false := by decide
  refine ⟨fun h1 => ?_, fun h1 => ?_, fun h1 => ?_, fun h1 => ?_⟩
  · simp only [Bool.or_eq_false_iff, decide_eq_false_iff_not] at h1
    omega
  · simp only [Bool.or_eq_false_iff, decide_eq_false_iff_not] at h1
    omega
  · unfold nextF
    by_cases ht : t < 0 ∨ (p.length : Int) ≤ t
    · rw [if_pos ht]; rfl
    · rw [if_neg ht]
      simp only [show decide (t < 0) = false by simp; omega, show decide ((p.length : Int) ≤ t) = false by simp; omega, Bool.false_or, Bool.or_eq_true, Bool.not_eq_true', decide_eq_true_eq] at h1
      rcases h1 with h1 | h1
      · rw [if_pos h1]; rfl
      · rw [if_pos h1]; split <;> rfl
  · obtain ⟨g1, g2, g3, g4⟩ := hf _ _ _ _ h1
    simp only [decide_eq_false_iff_not, Bool.not_eq_false'] at g1 g2 g3 g4
    have ha := h.at0 t.toNat (by omega)
    rw [nextF, if_neg (by omega), if_neg (by rw [g3]; simp), if_neg g4]
    exact ⟨⟨by omega, by omega⟩, ⟨by omega, by omega⟩, ⟨by omega, by omega⟩, rfl⟩
theorem next_some {s : Sta} {p : List (List PO)} {t : Int} {l : List PO} {i : Nat} (hf : Fit p s.at') (h : nextF s p t = some (l, i)) : ∃ n : Nat, t = n ∧ n < p.length ∧ s.begun n = true ∧ l = p.getD n [] ∧ s.at' n = i ∧ i < l.length := by
  unfold nextF at h
  split at h
  · cases h
  rename_i h1
  split at h
  · cases h
  rename_i h2
  split at h
  · cases h
  rename_i h3
  simp only [Option.some.injEq, Prod.mk.injEq] at h
  obtain ⟨rfl, rfl⟩ := h
  have ha := hf.at0 t.toNat (by omega)
  exact ⟨t.toNat, by omega, by omega, by simpa using h2, rfl, by omega, by omega⟩
theorem op_ok {p : List (List PO)} (hp : progC badP p = 0) {n i : Nat} (hn : n < p.length) (hi : i < (p.getD n []).length) : 0 ≤ ((p.getD n []).getD i dOp.dft).obj ∧ ((p.getD n []).getD i dOp.dft).obj < bnd ((p.getD n []).getD i dOp.dft).kind := by
  have := (good_of hp hn).2 i hi
  simp only [badP, Bool.or_eq_false_iff, decide_eq_false_iff_not] at this
  omega
def canF (s : Sta) (p : List (List PO)) (t : Int) : Bool := match nextF s p t with
  | none => false
  | some (l, i) => if (l.getD i dOp.dft).kind = 4 then decide (s.owner (l.getD i dOp.dft).obj.toNat = 0) else
    if (l.getD i dOp.dft).kind = 7 then decide ((l.getD i dOp.dft).obj < p.length) && !decide ((l.getD i dOp.dft).obj = t) && s.begun (l.getD i dOp.dft).obj.toNat && decide (s.at' (l.getD i dOp.dft).obj.toNat = (p.getD (l.getD i dOp.dft).obj.toNat []).length) else true

def j44 : JC :=
  (.seq (.ops <|
  qo 6 (.mv (B false)) <|
  .nil)
  (.seq (.ops <|
  qo 8 (.mv (.t 0)) <|
  qo 9 (.mv (.t 1)) <|
  qo 10 (.mv (.t 2)) <|
  eo 11 (.call 89 [(.t 8), (.t 9), (.t 10)]) <|
  qo 7 (.mv (.t 11)) <|
  .nil)
  (.seq (.block 0 (.seq (.ops <|
  qo 13 (.mv (.t 7)) <|
  qo 14 (.pnil false (.t 13)) <|
  qo 12 (.mv (.t 14)) <|
  .nil)
  (.cond (.t 12)
  (.seq (.ops <|
  qo 6 (.mv (B false)) <|
  .nil)
  .ret)
  (.seq (.ops <|
  .prune [7, 0, 1, 2] <|
  qo 16 (.mv (.t 7)) <|
  qo 17 (.nck (.t 16)) <|
  qo 18 (.fa 0 0 (.t 17)) <|
  eo 19 (.load 1 false (.t 18)) <|
  qo 20 (.cmp .eql (.t 19) (I 4)) <|
  qo 15 (.mv (.t 20)) <|
  .nil)
  (.prune [15, 0, 7, 1, 2] (.cond (.t 15)
  (.seq (.dops <|
  qo 21 (.mv (.t 0)) <|
  qo 22 (.mv (.t 7)) <|
  .prune [22, 21] <|
  qo 23 (.nck (.t 22)) <|
  qo 24 (.fa 1 1 (.t 23)) <|
  eo 25 (.load 1 false (.t 24)) <|
  qo 26 (.nck (.t 21)) <|
  qo 27 (.fa 3 32 (.t 26)) <|
  .prune [27, 25] <|
  qo 28 (.ia 5 1 (.t 27) (.t 25)) <|
  eo 29 (.load 1 false (.t 28)) <|
  qo 30 (.cmp .eql (.t 29) (I 0)) <|
  qo 6 (.mv (.t 30)) <|
  .nil)
  .ret)
  (.seq (.ops <|
  qo 32 (.mv (.t 7)) <|
  qo 33 (.nck (.t 32)) <|
  qo 34 (.fa 0 0 (.t 33)) <|
  .prune [34, 7, 1, 2, 0] <|
  eo 35 (.load 1 false (.t 34)) <|
  qo 36 (.cmp .eql (.t 35) (I 7)) <|
  qo 31 (.mv (.t 36)) <|
  .nil)
  (.prune [31, 7, 1, 2, 0] (.cond (.t 31)
  (.seq (.dops <|
  qo 37 (.mv (.t 7)) <|
  qo 38 (.nck (.t 37)) <|
  qo 39 (.fa 1 1 (.t 38)) <|
  .prune [39, 1, 7, 2, 0] <|
  eo 40 (.load 1 false (.t 39)) <|
  qo 41 (.mv (.t 1)) <|
  qo 42 (.len (.t 41)) <|
  qo 43 (.cmp .lss (.t 40) (.t 42)) <|
  .prune [43, 7, 2, 0, 1] <|
  qo 44 (.mv (.t 43)) <|
  .sc false 51 44 (qo 45 (.mv (.t 7)) <|
  qo 46 (.nck (.t 45)) <|
  qo 47 (.fa 1 1 (.t 46)) <|
  eo 48 (.load 1 false (.t 47)) <|
  qo 49 (.mv (.t 2)) <|
  qo 50 (.cmp .neq (.t 48) (.t 49)) <|
  .nil) (.t 50) <|
  .prune [51, 0, 7, 1] <|
  qo 52 (.mv (.t 51)) <|
  .sc false 62 52 (qo 53 (.mv (.t 0)) <|
  qo 54 (.mv (.t 7)) <|
  qo 55 (.nck (.t 54)) <|
  qo 56 (.fa 1 1 (.t 55)) <|
  eo 57 (.load 1 false (.t 56)) <|
  qo 58 (.nck (.t 53)) <|
  qo 59 (.fa 2 26 (.t 58)) <|
  qo 60 (.ia 6 1 (.t 59) (.t 57)) <|
  eo 61 (.load 1 false (.t 60)) <|
  .nil) (.t 61) <|
  qo 63 (.mv (.t 62)) <|
  .prune [63, 0, 7, 1] <|
  .sc false 82 63 (qo 64 (.mv (.t 0)) <|
  qo 65 (.mv (.t 7)) <|
  qo 66 (.nck (.t 65)) <|
  qo 67 (.fa 1 1 (.t 66)) <|
  eo 68 (.load 1 false (.t 67)) <|
  qo 69 (.nck (.t 64)) <|
  qo 70 (.fa 1 20 (.t 69)) <|
  qo 71 (.ia 6 1 (.t 70) (.t 68)) <|
  eo 72 (.load 1 false (.t 71)) <|
  qo 73 (.mv (.t 1)) <|
  qo 74 (.mv (.t 7)) <|
  qo 75 (.nck (.t 74)) <|
  qo 76 (.fa 1 1 (.t 75)) <|
  eo 77 (.load 1 false (.t 76)) <|
  qo 78 (.is 1 (.t 73) (.t 77)) <|
  eo 79 (.load 1 false (.t 78)) <|
  qo 80 (.len (.t 79)) <|
  qo 81 (.cmp .eql (.t 72) (.t 80)) <|
  .nil) (.t 81) <|
  qo 6 (.mv (.t 82)) <|
  .nil)
  .ret)
  .skip)))))))))
  (.prune [] (.seq (.ops <|
  qo 6 (.mv (B true)) <|
  .nil)
  .ret)))))
theorem c44 : fnIs Try.prog qall 44 = some (j44.flat, [.tmp 6], 83) := by kernel_rfl
theorem w44 : j44.wf 83 = true := by kernel_rfl
def Gn (f : FuncId) (a : List SV) (m : List Res) : Sx.Call := (FH.mz 89 84 dSta (.two dProg .int) dNx (fun s y => Fit y.1 s.at') (fun s y => nextF s y.1 y.2.1) (fun s _ => s) FH.none) f a m
theorem Gn_eq (f : FuncId) (a : List SV) (m : List Res) : Gn f a m = (FH.mz 89 84 dSta (.two dProg .int) dNx (fun s y => Fit y.1 s.at') (fun s y => nextF s y.1 y.2.1) (fun s _ => s) FH.none) f a m := nr rfl
theorem Gn_ok : FHOK Try.prog Gn := FH.mz_ok (by kernel_rfl) (fun s y h => f_next s y.1 y.2.1 h) FH.none_ok
theorem f_Can (s : Sta) (p : List (List PO)) (t : Int) (h : Fit p s.at') (hp : progC badP p = 0) : FnOK Try.prog 44 [.ptr 0 [] 0, dProg.emb p, .int .i64 t] [.blk 84 (dSta.emb s)] (.bool (canF s p t)) [.blk 84 (dSta.emb s)] := by
  refine fn_walkF c44 w44 Gn_ok rfl ?_
  unfold j44
  unfold canF
  cases hx : nextF s p t with
  | none =>
    simp only [go_sem, ↓reduceIte, Nat.reduceAdd, Nat.reduceMul, Nat.reduceSub, Nat.reduceLT, Nat.reduceLeDiff, Nat.reduceEqDiff, Int.reduceToNat, Int.reduceEq, Int.reduceLT, Int.reduceLE, reduceCtorEq, Gn_eq, hx]
    exact h
  | some y =>
    obtain ⟨l, i⟩ := y
    obtain ⟨n, rfl, h1, h2, h3, h4, h5⟩ := next_some h hx
    have ho := op_ok hp h1 (i := i) (by rw [← h3]; exact h5)
    rw [← h3] at ho
    simp only [go_sem, ↓reduceIte, Nat.reduceAdd, Nat.reduceMul, Nat.reduceSub, Nat.reduceLT, Nat.reduceLeDiff, Nat.reduceEqDiff, Int.reduceToNat, Int.reduceEq, Int.reduceLT, Int.reduceLE, reduceCtorEq, Gn_eq, hx]
    have hn := h.n
    have b4 : bnd 4 = 5 := by decide
    have b7 : bnd 7 = 6 := by decide
    generalize l.getD i dOp.dft = o at ho ⊢
    refine ⟨h, fun k4 => ?_, fun k4 => ⟨fun k7 => ⟨fun q => ?_, fun q => ?_, ?_⟩, fun k7 => ?_⟩⟩
    · rw [k4, b4] at ho
      exact ⟨ho, by rw [if_pos k4]⟩
    · rw [k7, b7] at ho; exact ho
    · rw [k7, b7] at ho
      simp only [Bool.and_eq_true, decide_eq_true_eq] at q
      exact ⟨ho, ho.1, q.1.1⟩
    · rw [if_neg k4, if_pos k7]
    · rw [if_neg k4, if_neg k7]
def evK (s : Sta) (p : List (List PO)) (t : Nat) (o : PO) : Int :=
  if o.kind = 1 then 1 else if o.kind = 2 then 2 else if o.kind = 3 then 0 else if o.kind = 4 then 3 else
  if o.kind = 5 then (if s.owner o.obj.toNat = (t : Int) + 1 then 4 else 0) else if o.kind = 6 then (if o.obj < p.length ∧ s.begun o.obj.toNat = false then 5 else 0) else
  if o.kind = 7 then 6 else if o.kind = 8 then 7 else if o.kind = 9 then 8 else 0
def evE (k : Int) (t : Nat) (o : PO) : Ev := if k = 0 then ⟨0, 0, 0⟩ else ⟨k, t, o.obj⟩
def enF (e : En) (t : Nat) (o : PO) : En :=
  if o.kind = 1 then { e with has := upd e.has t (e.mem o.obj.toNat) } else if o.kind = 2 then { e with mem := upd e.mem o.obj.toNat (e.has t) } else
  if o.kind = 3 then { e with has := upd e.has t (IntKind.i64.wrap (e.has t + o.n)) } else if o.kind = 8 then { e with has := upd e.has t (e.vols o.obj.toNat) } else
  if o.kind = 9 then { e with vols := upd e.vols o.obj.toNat (e.has t) } else e
def stF (s : Sta) (p : List (List PO)) (t : Nat) (o : PO) : Sta := ⟨enF s.en t o, upd s.at' t (s.at' t + 1), if o.kind = 6 ∧ o.obj < p.length ∧ s.begun o.obj.toNat = false then upd s.begun o.obj.toNat true else s.begun,
  if o.kind = 4 then upd s.owner o.obj.toNat (t + 1) else if o.kind = 5 ∧ s.owner o.obj.toNat = (t : Int) + 1 then upd s.owner o.obj.toNat 0 else s.owner⟩
theorem tszEv : tsz Try.prog 35 = some (3, true) := by kernel_rfl

def j90 : JC :=
  (.seq (.ops <|
  eo 4 (.alloc 35 (.agg [(.int .i64 0), (.int .i64 0), (.int .i64 0)])) <|
  qo 5 (.mv (B false)) <|
  .nil)
  (.seq (.dops <|
  qo 6 (.mv (.t 0)) <|
  eo 7 (.load 1 false (.t 1)) <|
  eo 8 (.load 1 false (.t 2)) <|
  qo 9 (.nck (.t 8)) <|
  qo 10 (.fa 1 1 (.t 9)) <|
  .prune [10, 6, 7, 4] <|
  eo 11 (.load 1 false (.t 10)) <|
  qo 12 (.bld (.agg [(.int .i64 0), (.int .i64 0), (.int .i64 0)]) [([.fld 0], 0, 1, (.t 6)), ([.fld 1], 1, 1, (.t 7)), ([.fld 2], 2, 1, (.t 11))]) <|
  en (.store 3 (.t 4) (.t 12)) <|
  qo 5 (.mv (B true)) <|
  .nil)
  .ret))
theorem c90 : fnIs Try.prog qall 90 = some (j90.flat, [.cell 4 35, .tmp 5], 13) := by kernel_rfl
theorem w90 : j90.wf 13 = true := by kernel_rfl
theorem f_Step1 (k : Int) (t : Nat) (l : List PO) (i : Nat) : FnOK Try.prog 90 [.int .i64 k, .ref (.int .i64 t) [] 0, .ref ((DT.eptr 3 dOp).emb (l, i)) [] 0] [] (.tup [dEv.emb ⟨k, t, (l.getD i dOp.dft).obj⟩, .bool true]) [] := by
  refine fn_walkF c90 w90 FH.none_ok rfl ?_
  unfold j90
  simp only [go_sem, ↓reduceIte, Nat.reduceAdd, Nat.reduceMul, Nat.reduceSub, Nat.reduceLT, Nat.reduceLeDiff, Nat.reduceEqDiff, Int.reduceToNat, Int.reduceEq, Int.reduceLT, Int.reduceLE, reduceCtorEq, tszEv]
theorem upd_eq {α : Type} (f : Nat → α) (i : Nat) (x : α) : upd f i x = fun k => if k = i then x else f k := rfl
theorem bnd_kind {k o : Int} (h : 0 ≤ o ∧ o < bnd k) : k = 1 ∨ k = 2 ∨ k = 3 ∨ k = 4 ∨ k = 5 ∨ k = 6 ∨ k = 7 ∨ k = 8 ∨ k = 9 := by
  unfold bnd at h
  split at h <;> omega

def j45 : JC :=
  (.seq (.ops <|
  eo 5 (.box 3 (.t 2)) <|
  eo 6 (.alloc 35 (.agg [(.int .i64 0), (.int .i64 0), (.int .i64 0)])) <|
  qo 7 (.mv (B false)) <|
  .nil)
  (.seq (.ops <|
  qo 11 (.mv (.t 0)) <|
  qo 12 (.mv (.t 1)) <|
  eo 13 (.load 1 false (.t 5)) <|
  eo 14 (.call 89 [(.t 11), (.t 12), (.t 13)]) <|
  eo 8 (.alloc 152 .nilp) <|
  en (.store 1 (.t 8) (.t 14)) <|
  .nil)
  (.seq (.dops <|
  .prune [0, 5, 8, 6, 1] <|
  qo 15 (.mv (.t 0)) <|
  eo 16 (.load 1 false (.t 5)) <|
  qo 17 (.nck (.t 15)) <|
  qo 18 (.fa 1 20 (.t 17)) <|
  qo 19 (.ia 6 1 (.t 18) (.t 16)) <|
  eo 20 (.load 1 false (.t 19)) <|
  .prune [20, 15, 16, 0, 5, 8, 6, 1] <|
  qo 21 (.ar .add (.t 20) (I 1)) <|
  qo 22 (.nck (.t 15)) <|
  qo 23 (.fa 1 20 (.t 22)) <|
  qo 24 (.ia 6 1 (.t 23) (.t 16)) <|
  en (.store 1 (.t 24) (.t 21)) <|
  .nil)
  (.prune [0, 5, 8, 6, 1] (.seq (.ops <|
  qo 25 (.mv (.t 0)) <|
  qo 26 (.nck (.t 25)) <|
  qo 27 (.fa 0 0 (.t 26)) <|
  qo 9 (.mv (.t 27)) <|
  .nil)
  (.seq (.ops <|
  qo 28 (.mkfn 90 [(.t 5), (.t 8)]) <|
  qo 10 (.mv (.t 28)) <|
  .nil)
  (.prune [8, 9, 5, 10, 6, 0, 1] (.seq (.seq (.ops <|
  eo 29 (.load 1 false (.t 8)) <|
  qo 30 (.nck (.t 29)) <|
  qo 31 (.fa 0 0 (.t 30)) <|
  eo 32 (.load 1 false (.t 31)) <|
  .nil)
  (.prune [32, 9, 5, 8, 10, 6, 0, 1] (.block 0 (.seq (.ops <|
  qo 34 (.cmp .eql (.t 32) (I 1)) <|
  qo 33 (.mv (.t 34)) <|
  .nil)
  (.prune [33, 9, 5, 8, 10, 6, 32, 0, 1] (.cond (.t 33)
  (.seq (.dops <|
  .prune [9, 5, 8, 10, 6] <|
  qo 35 (.mv (.t 9)) <|
  eo 36 (.load 1 false (.t 5)) <|
  qo 37 (.mv (.t 9)) <|
  eo 38 (.load 1 false (.t 8)) <|
  .prune [38, 37, 35, 36, 10, 6] <|
  qo 39 (.nck (.t 38)) <|
  qo 40 (.fa 1 1 (.t 39)) <|
  eo 41 (.load 1 false (.t 40)) <|
  .prune [37, 41, 35, 36, 10, 6] <|
  qo 42 (.nck (.t 37)) <|
  qo 43 (.fa 0 0 (.t 42)) <|
  qo 44 (.ia 8 1 (.t 43) (.t 41)) <|
  .prune [44, 35, 36, 10, 6] <|
  eo 45 (.load 1 false (.t 44)) <|
  qo 46 (.nck (.t 35)) <|
  qo 47 (.fa 2 12 (.t 46)) <|
  qo 48 (.ia 6 1 (.t 47) (.t 36)) <|
  en (.store 1 (.t 48) (.t 45)) <|
  .nil)
  (.prune [10, 6] (.seq (.ops <|
  qo 49 (.mv (.t 10)) <|
  eo 50 (.callv (.t 49) [(I 1)]) <|
  qo 51 (.ext 0 (.t 50)) <|
  qo 52 (.ext 1 (.t 50)) <|
  en (.store 3 (.t 6) (.t 51)) <|
  qo 7 (.mv (.t 52)) <|
  .nil)
  .ret)))
  (.seq (.ops <|
  qo 54 (.cmp .eql (.t 32) (I 2)) <|
  qo 53 (.mv (.t 54)) <|
  .nil)
  (.prune [53, 9, 8, 5, 10, 6, 32, 0, 1] (.cond (.t 53)
  (.seq (.dops <|
  .prune [9, 8, 5, 10, 6] <|
  qo 55 (.mv (.t 9)) <|
  eo 56 (.load 1 false (.t 8)) <|
  qo 57 (.nck (.t 56)) <|
  qo 58 (.fa 1 1 (.t 57)) <|
  .prune [58, 9, 5, 55, 10, 6] <|
  eo 59 (.load 1 false (.t 58)) <|
  qo 60 (.mv (.t 9)) <|
  eo 61 (.load 1 false (.t 5)) <|
  .prune [60, 61, 55, 59, 10, 6] <|
  qo 62 (.nck (.t 60)) <|
  qo 63 (.fa 2 12 (.t 62)) <|
  qo 64 (.ia 6 1 (.t 63) (.t 61)) <|
  .prune [64, 55, 59, 10, 6] <|
  eo 65 (.load 1 false (.t 64)) <|
  qo 66 (.nck (.t 55)) <|
  qo 67 (.fa 0 0 (.t 66)) <|
  qo 68 (.ia 8 1 (.t 67) (.t 59)) <|
  en (.store 1 (.t 68) (.t 65)) <|
  .nil)
  (.prune [10, 6] (.seq (.ops <|
  qo 69 (.mv (.t 10)) <|
  eo 70 (.callv (.t 69) [(I 2)]) <|
  qo 71 (.ext 0 (.t 70)) <|
  qo 72 (.ext 1 (.t 70)) <|
  en (.store 3 (.t 6) (.t 71)) <|
  qo 7 (.mv (.t 72)) <|
  .nil)
  .ret)))
  (.seq (.ops <|
  qo 74 (.cmp .eql (.t 32) (I 3)) <|
  qo 73 (.mv (.t 74)) <|
  .nil)
  (.prune [73, 9, 5, 8, 6, 32, 0, 10, 1] (.cond (.t 73)
  (.dops <|
  .prune [9, 5, 8, 6] <|
  qo 75 (.mv (.t 9)) <|
  eo 76 (.load 1 false (.t 5)) <|
  qo 77 (.nck (.t 75)) <|
  qo 78 (.fa 2 12 (.t 77)) <|
  .prune [78, 76, 8, 75, 6] <|
  qo 79 (.ia 6 1 (.t 78) (.t 76)) <|
  eo 80 (.load 1 false (.t 79)) <|
  eo 81 (.load 1 false (.t 8)) <|
  .prune [81, 80, 75, 76, 6] <|
  qo 82 (.nck (.t 81)) <|
  qo 83 (.fa 2 2 (.t 82)) <|
  eo 84 (.load 1 false (.t 83)) <|
  .prune [80, 84, 75, 76, 6] <|
  qo 85 (.ar .add (.t 80) (.t 84)) <|
  qo 86 (.nck (.t 75)) <|
  .prune [86, 76, 85, 6] <|
  qo 87 (.fa 2 12 (.t 86)) <|
  qo 88 (.ia 6 1 (.t 87) (.t 76)) <|
  en (.store 1 (.t 88) (.t 85)) <|
  .nil)
  (.seq (.ops <|
  qo 90 (.cmp .eql (.t 32) (I 4)) <|
  qo 89 (.mv (.t 90)) <|
  .nil)
  (.prune [89, 0, 8, 5, 10, 6, 32, 1, 9] (.cond (.t 89)
  (.seq (.dops <|
  .prune [0, 8, 5, 10, 6] <|
  qo 91 (.mv (.t 0)) <|
  eo 92 (.load 1 false (.t 8)) <|
  qo 93 (.nck (.t 92)) <|
  .prune [93, 5, 91, 10, 6] <|
  qo 94 (.fa 1 1 (.t 93)) <|
  eo 95 (.load 1 false (.t 94)) <|
  eo 96 (.load 1 false (.t 5)) <|
  .prune [96, 91, 95, 10, 6] <|
  qo 97 (.ar .add (.t 96) (I 1)) <|
  qo 98 (.nck (.t 91)) <|
  qo 99 (.fa 3 32 (.t 98)) <|
  qo 100 (.ia 5 1 (.t 99) (.t 95)) <|
  en (.store 1 (.t 100) (.t 97)) <|
  .nil)
  (.prune [10, 6] (.seq (.ops <|
  qo 101 (.mv (.t 10)) <|
  eo 102 (.callv (.t 101) [(I 3)]) <|
  qo 103 (.ext 0 (.t 102)) <|
  qo 104 (.ext 1 (.t 102)) <|
  en (.store 3 (.t 6) (.t 103)) <|
  qo 7 (.mv (.t 104)) <|
  .nil)
  .ret)))
  (.seq (.ops <|
  qo 106 (.cmp .eql (.t 32) (I 5)) <|
  qo 105 (.mv (.t 106)) <|
  .nil)
  (.prune [105, 0, 8, 5, 10, 6, 32, 1, 9] (.cond (.t 105)
  (.seq (.dops <|
  .prune [0, 8, 5, 10, 6] <|
  qo 107 (.mv (.t 0)) <|
  eo 108 (.load 1 false (.t 8)) <|
  qo 109 (.nck (.t 108)) <|
  qo 110 (.fa 1 1 (.t 109)) <|
  eo 111 (.load 1 false (.t 110)) <|
  .prune [107, 111, 5, 0, 8, 10, 6] <|
  qo 112 (.nck (.t 107)) <|
  qo 113 (.fa 3 32 (.t 112)) <|
  qo 114 (.ia 5 1 (.t 113) (.t 111)) <|
  .prune [114, 5, 0, 8, 10, 6] <|
  eo 115 (.load 1 false (.t 114)) <|
  eo 116 (.load 1 false (.t 5)) <|
  qo 117 (.ar .add (.t 116) (I 1)) <|
  qo 118 (.cmp .eql (.t 115) (.t 117)) <|
  .nil)
  (.prune [118, 0, 8, 10, 6] (.cond (.t 118)
  (.seq (.dops <|
  qo 119 (.mv (.t 0)) <|
  eo 120 (.load 1 false (.t 8)) <|
  .prune [120, 119, 10, 6] <|
  qo 121 (.nck (.t 120)) <|
  qo 122 (.fa 1 1 (.t 121)) <|
  eo 123 (.load 1 false (.t 122)) <|
  .prune [119, 123, 10, 6] <|
  qo 124 (.nck (.t 119)) <|
  qo 125 (.fa 3 32 (.t 124)) <|
  qo 126 (.ia 5 1 (.t 125) (.t 123)) <|
  en (.store 1 (.t 126) (I 0)) <|
  .nil)
  (.prune [10, 6] (.seq (.ops <|
  qo 127 (.mv (.t 10)) <|
  eo 128 (.callv (.t 127) [(I 4)]) <|
  qo 129 (.ext 0 (.t 128)) <|
  qo 130 (.ext 1 (.t 128)) <|
  en (.store 3 (.t 6) (.t 129)) <|
  qo 7 (.mv (.t 130)) <|
  .nil)
  .ret)))
  .skip)))
  (.seq (.ops <|
  qo 132 (.cmp .eql (.t 32) (I 6)) <|
  qo 131 (.mv (.t 132)) <|
  .nil)
  (.prune [131, 8, 1, 0, 10, 6, 32, 9, 5] (.cond (.t 131)
  (.seq (.dops <|
  .prune [8, 1, 0, 10, 6] <|
  eo 133 (.load 1 false (.t 8)) <|
  qo 134 (.nck (.t 133)) <|
  qo 135 (.fa 1 1 (.t 134)) <|
  eo 136 (.load 1 false (.t 135)) <|
  .prune [1, 136, 0, 8, 10, 6] <|
  qo 137 (.mv (.t 1)) <|
  qo 138 (.len (.t 137)) <|
  qo 139 (.cmp .lss (.t 136) (.t 138)) <|
  .prune [139, 0, 8, 10, 6] <|
  qo 140 (.mv (.t 139)) <|
  .sc false 151 140 (qo 141 (.mv (.t 0)) <|
  eo 142 (.load 1 false (.t 8)) <|
  qo 143 (.nck (.t 142)) <|
  qo 144 (.fa 1 1 (.t 143)) <|
  eo 145 (.load 1 false (.t 144)) <|
  qo 146 (.nck (.t 141)) <|
  qo 147 (.fa 2 26 (.t 146)) <|
  qo 148 (.ia 6 1 (.t 147) (.t 145)) <|
  eo 149 (.load 1 false (.t 148)) <|
  qo 150 (.nt (.t 149)) <|
  .nil) (.t 150) <|
  .nil)
  (.prune [151, 0, 8, 10, 6] (.cond (.t 151)
  (.seq (.dops <|
  qo 152 (.mv (.t 0)) <|
  eo 153 (.load 1 false (.t 8)) <|
  .prune [153, 152, 10, 6] <|
  qo 154 (.nck (.t 153)) <|
  qo 155 (.fa 1 1 (.t 154)) <|
  eo 156 (.load 1 false (.t 155)) <|
  .prune [152, 156, 10, 6] <|
  qo 157 (.nck (.t 152)) <|
  qo 158 (.fa 2 26 (.t 157)) <|
  qo 159 (.ia 6 1 (.t 158) (.t 156)) <|
  en (.store 1 (.t 159) (B true)) <|
  .nil)
  (.prune [10, 6] (.seq (.ops <|
  qo 160 (.mv (.t 10)) <|
  eo 161 (.callv (.t 160) [(I 5)]) <|
  qo 162 (.ext 0 (.t 161)) <|
  qo 163 (.ext 1 (.t 161)) <|
  en (.store 3 (.t 6) (.t 162)) <|
  qo 7 (.mv (.t 163)) <|
  .nil)
  .ret)))
  .skip)))
  (.seq (.ops <|
  qo 165 (.cmp .eql (.t 32) (I 7)) <|
  qo 164 (.mv (.t 165)) <|
  .nil)
  (.prune [164, 10, 6, 32, 9, 5, 8] (.cond (.t 164)
  (.seq (.ops <|
  .prune [10, 6] <|
  qo 166 (.mv (.t 10)) <|
  eo 167 (.callv (.t 166) [(I 6)]) <|
  qo 168 (.ext 0 (.t 167)) <|
  qo 169 (.ext 1 (.t 167)) <|
  en (.store 3 (.t 6) (.t 168)) <|
  qo 7 (.mv (.t 169)) <|
  .nil)
  .ret)
  (.seq (.ops <|
  qo 171 (.cmp .eql (.t 32) (I 8)) <|
  qo 170 (.mv (.t 171)) <|
  .nil)
  (.cond (.t 170)
  (.seq (.dops <|
  .prune [9, 5, 8, 10, 6] <|
  qo 172 (.mv (.t 9)) <|
  eo 173 (.load 1 false (.t 5)) <|
  qo 174 (.mv (.t 9)) <|
  eo 175 (.load 1 false (.t 8)) <|
  .prune [175, 174, 172, 173, 10, 6] <|
  qo 176 (.nck (.t 175)) <|
  qo 177 (.fa 1 1 (.t 176)) <|
  eo 178 (.load 1 false (.t 177)) <|
  .prune [174, 178, 172, 173, 10, 6] <|
  qo 179 (.nck (.t 174)) <|
  qo 180 (.fa 1 8 (.t 179)) <|
  qo 181 (.ia 4 1 (.t 180) (.t 178)) <|
  .prune [181, 172, 173, 10, 6] <|
  eo 182 (.load 1 false (.t 181)) <|
  qo 183 (.nck (.t 172)) <|
  qo 184 (.fa 2 12 (.t 183)) <|
  qo 185 (.ia 6 1 (.t 184) (.t 173)) <|
  en (.store 1 (.t 185) (.t 182)) <|
  .nil)
  (.prune [10, 6] (.seq (.ops <|
  qo 186 (.mv (.t 10)) <|
  eo 187 (.callv (.t 186) [(I 7)]) <|
  qo 188 (.ext 0 (.t 187)) <|
  qo 189 (.ext 1 (.t 187)) <|
  en (.store 3 (.t 6) (.t 188)) <|
  qo 7 (.mv (.t 189)) <|
  .nil)
  .ret)))
  (.seq (.ops <|
  qo 191 (.cmp .eql (.t 32) (I 9)) <|
  qo 190 (.mv (.t 191)) <|
  .nil)
  (.prune [190, 9, 8, 5, 10, 6] (.cond (.t 190)
  (.seq (.dops <|
  qo 192 (.mv (.t 9)) <|
  eo 193 (.load 1 false (.t 8)) <|
  qo 194 (.nck (.t 193)) <|
  .prune [194, 9, 5, 192, 10, 6] <|
  qo 195 (.fa 1 1 (.t 194)) <|
  eo 196 (.load 1 false (.t 195)) <|
  qo 197 (.mv (.t 9)) <|
  .prune [5, 197, 192, 196, 10, 6] <|
  eo 198 (.load 1 false (.t 5)) <|
  qo 199 (.nck (.t 197)) <|
  qo 200 (.fa 2 12 (.t 199)) <|
  .prune [200, 198, 192, 196, 10, 6] <|
  qo 201 (.ia 6 1 (.t 200) (.t 198)) <|
  eo 202 (.load 1 false (.t 201)) <|
  .prune [192, 196, 202, 10, 6] <|
  qo 203 (.nck (.t 192)) <|
  qo 204 (.fa 1 8 (.t 203)) <|
  qo 205 (.ia 4 1 (.t 204) (.t 196)) <|
  en (.store 1 (.t 205) (.t 202)) <|
  .nil)
  (.prune [10, 6] (.seq (.ops <|
  qo 206 (.mv (.t 10)) <|
  eo 207 (.callv (.t 206) [(I 8)]) <|
  qo 208 (.ext 0 (.t 207)) <|
  qo 209 (.ext 1 (.t 207)) <|
  en (.store 3 (.t 6) (.t 208)) <|
  qo 7 (.mv (.t 209)) <|
  .nil)
  .ret)))
  .skip)))))))))))))))))))))))))))))
  (.prune [6] (.seq (.ops <|
  qo 210 (.bld (.agg [(.int .i64 0), (.int .i64 0), (.int .i64 0)]) []) <|
  en (.store 3 (.t 6) (.t 210)) <|
  qo 7 (.mv (B false)) <|
  .nil)
  .ret))))))))))
theorem c45 : fnIs Try.prog qall 45 = some (j45.flat, [.cell 6 35, .tmp 7], 211) := by kernel_rfl
theorem w45 : j45.wf 211 = true := by kernel_rfl
def Gs (f : FuncId) (a : List SV) (m : List Res) : Sx.Call := (FH.mz 89 84 dSta (.two dProg .int) dNx (fun s y => Fit y.1 s.at') (fun s y => nextF s y.1 y.2.1) (fun s _ => s) <|
  FH.rd 90 (.three .int (DT.ref .int) (DT.ref (DT.eptr 3 dOp))) (.two dEv .bool) (fun y => 0 ≤ y.2.1) (fun y => (⟨y.1, y.2.1, (y.2.2.1.1.getD y.2.2.1.2 dOp.dft).obj⟩, true)) FH.none) f a m
theorem Gs_eq (f : FuncId) (a : List SV) (m : List Res) : Gs f a m = (FH.mz 89 84 dSta (.two dProg .int) dNx (fun s y => Fit y.1 s.at') (fun s y => nextF s y.1 y.2.1) (fun s _ => s) <|
  FH.rd 90 (.three .int (DT.ref .int) (DT.ref (DT.eptr 3 dOp))) (.two dEv .bool) (fun y => 0 ≤ y.2.1) (fun y => (⟨y.1, y.2.1, (y.2.2.1.1.getD y.2.2.1.2 dOp.dft).obj⟩, true)) FH.none) f a m := nr rfl
theorem Gs_ok : FHOK Try.prog Gs := FH.mz_ok (by kernel_rfl) (fun s y h => f_next s y.1 y.2.1 h) <| FH.rd_ok (by kernel_rfl) (fun y h => by
  have := f_Step1 y.1 y.2.1.toNat y.2.2.1.1 y.2.2.1.2
  rw [show ((y.2.1.toNat : Nat) : Int) = y.2.1 by omega] at this
  exact this) FH.none_ok
theorem f_Step (s : Sta) (p : List (List PO)) (n : Nat) (l : List PO) (i : Nat) (h : Fit p s.at') (hp : progC badP p = 0) (hx : nextF s p n = some (l, i)) :
    FnOK Try.prog 45 [.ptr 0 [] 0, dProg.emb p, .int .i64 n] [.blk 84 (dSta.emb s)] (.tup [dEv.emb (evE (evK s p n (l.getD i dOp.dft)) n (l.getD i dOp.dft)), .bool (!decide (evK s p n (l.getD i dOp.dft) = 0))]) [.blk 84 (dSta.emb (stF s p n (l.getD i dOp.dft)))] := by
  obtain ⟨n', hn', h1, h2, h3, h4, h5⟩ := next_some h hx
  obtain rfl : n = n' := by omega
  have ho := op_ok hp h1 (i := i) (by rw [← h3]; exact h5)
  rw [← h3] at ho
  have hn := h.n
  have ha := h.at0 n h1
  have hg := (good_of hp h1).1
  have hw1 : IntKind.i64.wrap (s.at' n + 1) = s.at' n + 1 := IntWalk.i64_in _ (by omega)
  have hwn : IntKind.i64.wrap ((n : Int) + 1) = (n : Int) + 1 := IntWalk.i64_in _ (by omega)
  have h16 : n < 6 := by omega
  have h16' : (n : Int) < 6 := by omega
  refine fn_walkF c45 w45 Gs_ok rfl ?_
  unfold j45
  have b1 : bnd 1 = 8 := by decide
  have b2 : bnd 2 = 8 := by decide
  have b4 : bnd 4 = 5 := by decide
  have b5 : bnd 5 = 5 := by decide
  have b6 : bnd 6 = 6 := by decide
  have b8 : bnd 8 = 4 := by decide
  have b9 : bnd 9 = 4 := by decide
  rcases bnd_kind ho with k | k | k | k | k | k | k | k | k
  · simp only [go_sem, ↓reduceIte, Nat.reduceAdd, Nat.reduceMul, Nat.reduceSub, Nat.reduceLT, Nat.reduceLeDiff, Nat.reduceEqDiff, Int.reduceToNat, Int.reduceEq, Int.reduceLT, Int.reduceLE, reduceCtorEq, Gs_eq, hx, hw1, hwn, k, h16', stF, enF, evK, evE, upd_eq, tszEv, false_and, true_and]
    rw [k, b1] at ho
    exact ⟨h, by omega⟩
  · simp only [go_sem, ↓reduceIte, Nat.reduceAdd, Nat.reduceMul, Nat.reduceSub, Nat.reduceLT, Nat.reduceLeDiff, Nat.reduceEqDiff, Int.reduceToNat, Int.reduceEq, Int.reduceLT, Int.reduceLE, reduceCtorEq, Gs_eq, hx, hw1, hwn, k, h16', stF, enF, evK, evE, upd_eq, tszEv, false_and, true_and]
    rw [k, b2] at ho
    exact ⟨h, by omega⟩
  · simp only [go_sem, ↓reduceIte, Nat.reduceAdd, Nat.reduceMul, Nat.reduceSub, Nat.reduceLT, Nat.reduceLeDiff, Nat.reduceEqDiff, Int.reduceToNat, Int.reduceEq, Int.reduceLT, Int.reduceLE, reduceCtorEq, Gs_eq, hx, hw1, hwn, k, h16', stF, enF, evK, evE, upd_eq, tszEv, false_and, true_and]
    exact ⟨h, by omega⟩
  · simp only [go_sem, ↓reduceIte, Nat.reduceAdd, Nat.reduceMul, Nat.reduceSub, Nat.reduceLT, Nat.reduceLeDiff, Nat.reduceEqDiff, Int.reduceToNat, Int.reduceEq, Int.reduceLT, Int.reduceLE, reduceCtorEq, Gs_eq, hx, hw1, hwn, k, h16', stF, enF, evK, evE, upd_eq, tszEv, false_and, true_and]
    rw [k, b4] at ho
    exact ⟨h, by omega⟩
  · by_cases c : s.owner (l.getD i dOp.dft).obj.toNat = (n : Int) + 1
    · simp only [go_sem, ↓reduceIte, Nat.reduceAdd, Nat.reduceMul, Nat.reduceSub, Nat.reduceLT, Nat.reduceLeDiff, Nat.reduceEqDiff, Int.reduceToNat, Int.reduceEq, Int.reduceLT, Int.reduceLE, reduceCtorEq, Gs_eq, hx, hw1, hwn, k, h16', stF, enF, evK, evE, upd_eq, tszEv, false_and, true_and, c]
      rw [k, b5] at ho
      exact ⟨h, by omega⟩
    · simp only [go_sem, ↓reduceIte, Nat.reduceAdd, Nat.reduceMul, Nat.reduceSub, Nat.reduceLT, Nat.reduceLeDiff, Nat.reduceEqDiff, Int.reduceToNat, Int.reduceEq, Int.reduceLT, Int.reduceLE, reduceCtorEq, Gs_eq, hx, hw1, hwn, k, h16', stF, enF, evK, evE, upd_eq, tszEv, false_and, true_and, c]
      rw [k, b5] at ho
      exact ⟨h, by omega⟩
  · by_cases c : (l.getD i dOp.dft).obj < p.length
    · cases c2 : s.begun (l.getD i dOp.dft).obj.toNat with
      | true =>
        simp only [go_sem, ↓reduceIte, Nat.reduceAdd, Nat.reduceMul, Nat.reduceSub, Nat.reduceLT, Nat.reduceLeDiff, Nat.reduceEqDiff, Int.reduceToNat, Int.reduceEq, Int.reduceLT, Int.reduceLE, reduceCtorEq, Gs_eq, hx, hw1, hwn, k, h16', stF, enF, evK, evE, upd_eq, tszEv, false_and, true_and, c, c2]
        rw [k, b6] at ho
        exact ⟨h, by omega⟩
      | false =>
        simp only [go_sem, ↓reduceIte, Nat.reduceAdd, Nat.reduceMul, Nat.reduceSub, Nat.reduceLT, Nat.reduceLeDiff, Nat.reduceEqDiff, Int.reduceToNat, Int.reduceEq, Int.reduceLT, Int.reduceLE, reduceCtorEq, Gs_eq, hx, hw1, hwn, k, h16', stF, enF, evK, evE, upd_eq, tszEv, false_and, true_and, c, c2]
        rw [k, b6] at ho
        exact ⟨h, by omega⟩
    · simp only [go_sem, ↓reduceIte, Nat.reduceAdd, Nat.reduceMul, Nat.reduceSub, Nat.reduceLT, Nat.reduceLeDiff, Nat.reduceEqDiff, Int.reduceToNat, Int.reduceEq, Int.reduceLT, Int.reduceLE, reduceCtorEq, Gs_eq, hx, hw1, hwn, k, h16', stF, enF, evK, evE, upd_eq, tszEv, false_and, true_and, c, and_false]
      rw [k, b6] at ho
      exact ⟨h, by omega⟩
  · simp only [go_sem, ↓reduceIte, Nat.reduceAdd, Nat.reduceMul, Nat.reduceSub, Nat.reduceLT, Nat.reduceLeDiff, Nat.reduceEqDiff, Int.reduceToNat, Int.reduceEq, Int.reduceLT, Int.reduceLE, reduceCtorEq, Gs_eq, hx, hw1, hwn, k, h16', stF, enF, evK, evE, upd_eq, tszEv, false_and, true_and]
    exact ⟨h, by omega⟩
  · simp only [go_sem, ↓reduceIte, Nat.reduceAdd, Nat.reduceMul, Nat.reduceSub, Nat.reduceLT, Nat.reduceLeDiff, Nat.reduceEqDiff, Int.reduceToNat, Int.reduceEq, Int.reduceLT, Int.reduceLE, reduceCtorEq, Gs_eq, hx, hw1, hwn, k, h16', stF, enF, evK, evE, upd_eq, tszEv, false_and, true_and]
    rw [k, b8] at ho
    exact ⟨h, by omega⟩
  · simp only [go_sem, ↓reduceIte, Nat.reduceAdd, Nat.reduceMul, Nat.reduceSub, Nat.reduceLT, Nat.reduceLeDiff, Nat.reduceEqDiff, Int.reduceToNat, Int.reduceEq, Int.reduceLT, Int.reduceLE, reduceCtorEq, Gs_eq, hx, hw1, hwn, k, h16', stF, enF, evK, evE, upd_eq, tszEv, false_and, true_and]
    rw [k, b9] at ho
    exact ⟨h, by omega⟩
end Go.Proofs.Ytgcbhanfhnianaa.Rn
end
section
set_option linter.unusedSimpArgs false
set_option linter.unusedVariables false
set_option maxRecDepth 100000
open Go Go.Sx Go.Proofs
namespace Go.Proofs.Ytgcbhanfhnianaa.Rn
open Go.Proofs.Ytgcbhanfhnianaa.D Go.Proofs.Ytgcbhanfhnianaa.Pg Go.Proofs.Ytgcbhanfhnianaa.Tr
def doneB (s : Sta) (p : List (List PO)) : Nat → Bool
  | 0 => true
  | n + 1 => doneB s p n && (nextF s p n).isNone
def stuckB (s : Sta) (p : List (List PO)) : Nat → Bool
  | 0 => true
  | n + 1 => stuckB s p n && !canF s p n
def endF' (s : Sta) (p : List (List PO)) : En := { s.en with done := doneB s p p.length, stuck := stuckB s p p.length && !doneB s p p.length }
theorem tszEn : tsz Try.prog 28 = some (20, true) := by kernel_rfl
def j46_1 : JC :=
  (.seq (.ops <|
  qo 16 (.cmp .lss (.t 15) (.t 14)) <|
  .nil)
  (.seq (.cond (.t 16)
  .skip
  (.exit 0))
  (.seq (.block 1 (.seq (.ops <|
  qo 17 (.mv (.t 15)) <|
  qo 6 (.mv (.t 17)) <|
  .nil)
  (.seq (.seq (.ops <|
  qo 18 (.mv (.t 0)) <|
  qo 19 (.mv (.t 1)) <|
  qo 20 (.mv (.t 6)) <|
  eo 21 (.call 89 [(.t 18), (.t 19), (.t 20)]) <|
  qo 22 (.pnil true (.t 21)) <|
  .nil)
  (.prune [22, 5, 0, 1, 6, 15, 14, 4] (.cond (.t 22)
  (.ops <|
  qo 23 (.fa 3 18 (.t 5)) <|
  en (.store 1 (.t 23) (B false)) <|
  .nil)
  .skip)))
  (.prune [0, 1, 6, 5, 15, 14, 4] (.seq (.ops <|
  qo 24 (.mv (.t 0)) <|
  qo 25 (.mv (.t 1)) <|
  qo 26 (.mv (.t 6)) <|
  eo 27 (.call 44 [(.t 24), (.t 25), (.t 26)]) <|
  .nil)
  (.prune [27, 5, 15, 14, 0, 1, 4] (.cond (.t 27)
  (.ops <|
  qo 28 (.fa 4 19 (.t 5)) <|
  en (.store 1 (.t 28) (B false)) <|
  .nil)
  .skip)))))))
  (.prune [15, 14, 0, 1, 5, 4] (.ops <|
  qo 29 (.ar .add (.t 15) (I 1)) <|
  qo 15 (.mv (.t 29)) <|
  .nil)))))
def j46_2 : JC :=
  (.prune [5, 4] (.seq (.ops <|
  qo 30 (.fa 4 19 (.t 5)) <|
  eo 31 (.load 1 false (.t 30)) <|
  qo 32 (.mv (.t 31)) <|
  .sc false 36 32 (qo 33 (.fa 3 18 (.t 5)) <|
  eo 34 (.load 1 false (.t 33)) <|
  qo 35 (.nt (.t 34)) <|
  .nil) (.t 35) <|
  qo 37 (.fa 4 19 (.t 5)) <|
  en (.store 1 (.t 37) (.t 36)) <|
  .nil)
  (.prune [5, 4] (.seq (.ops <|
  eo 38 (.load 20 true (.t 5)) <|
  en (.store 20 (.t 4) (.t 38)) <|
  .nil)
  .ret))))
def j46 : JC :=
  (.seq (.ops <|
  eo 4 (.alloc 28 (.agg [(.arr 8 1 fun _ => (.int .i64 0)), (.arr 4 1 fun _ => (.int .i64 0)), (.arr 6 1 fun _ => (.int .i64 0)), (.bool false), (.bool false)])) <|
  .nil)
  (.seq (.ops <|
  qo 7 (.mv (.t 0)) <|
  qo 8 (.nck (.t 7)) <|
  qo 9 (.fa 0 0 (.t 8)) <|
  eo 10 (.load 20 true (.t 9)) <|
  eo 5 (.alloc 28 (.agg [(.arr 8 1 fun _ => (.int .i64 0)), (.arr 4 1 fun _ => (.int .i64 0)), (.arr 6 1 fun _ => (.int .i64 0)), (.bool false), (.bool false)])) <|
  en (.store 20 (.t 5) (.t 10)) <|
  .nil)
  (.seq (.ops <|
  .prune [5, 1, 0, 4] <|
  qo 11 (.fa 3 18 (.t 5)) <|
  en (.store 1 (.t 11) (B true)) <|
  qo 12 (.fa 4 19 (.t 5)) <|
  en (.store 1 (.t 12) (B true)) <|
  .nil)
  (.prune [1, 0, 5, 4] (.seq (.seq (.ops <|
  qo 13 (.mv (.t 1)) <|
  qo 14 (.len (.t 13)) <|
  qo 15 (.mv (I 0)) <|
  .nil)
  (.block 0 (.loop [14, 0, 1, 5, 4] [15] j46_1)))
  j46_2)))))
theorem c46 : fnIs Try.prog qall 46 = some (j46.flat, [.cell 4 28], 39) := by kernel_rfl
theorem w46 : j46.wf 39 = true := by kernel_rfl
def Ge (f : FuncId) (a : List SV) (m : List Res) : Sx.Call := (FH.mz 89 84 dSta (.two dProg .int) dNx (fun s y => Fit y.1 s.at') (fun s y => nextF s y.1 y.2.1) (fun s _ => s) <|
  FH.mt 44 84 dSta (.two dProg .int) (.one .bool) (fun s y => Fit y.1 s.at' ∧ progC badP y.1 = 0) (fun s y => canF s y.1 y.2.1) (fun s _ => s) FH.none) f a m
theorem Ge_eq (f : FuncId) (a : List SV) (m : List Res) : Ge f a m = (FH.mz 89 84 dSta (.two dProg .int) dNx (fun s y => Fit y.1 s.at') (fun s y => nextF s y.1 y.2.1) (fun s _ => s) <|
  FH.mt 44 84 dSta (.two dProg .int) (.one .bool) (fun s y => Fit y.1 s.at' ∧ progC badP y.1 = 0) (fun s y => canF s y.1 y.2.1) (fun s _ => s) FH.none) f a m := nr rfl
theorem Ge_ok : FHOK Try.prog Ge := FH.mz_ok (by kernel_rfl) (fun s y h => f_next s y.1 y.2.1 h) <| FH.mt_ok (by kernel_rfl) (fun s y h => f_Can s y.1 y.2.1 h.1 h.2) FH.none_ok
theorem f_Ended (s : Sta) (p : List (List PO)) (h : Fit p s.at') (hp : progC badP p = 0) : FnOK Try.prog 46 [.ptr 0 [] 0, dProg.emb p] [.blk 84 (dSta.emb s)] (dEn.emb (endF' s p)) [.blk 84 (dSta.emb s)] := by
  refine fn_walkF c46 w46 Ge_ok rfl ?_
  unfold j46
  simp only [go_sem, ↓reduceIte, Nat.reduceAdd, Nat.reduceMul, Nat.reduceSub, Nat.reduceLT, Nat.reduceLeDiff, Nat.reduceEqDiff, Int.reduceToNat, Int.reduceEq, Int.reduceLT, Int.reduceLE, reduceCtorEq]
  have hn := h.n
  refine loopF Nat (fun i => [.int .i64 i]) (fun i => [.blk 84 (dSta.emb s), .blk 28 (dEn.emb ⟨fun _ => 0, fun _ => 0, fun _ => 0, false, false⟩), .blk 28 (dEn.emb { s.en with done := doneB s p i, stuck := stuckB s p i })]) (fun i => i ≤ p.length) (fun i => p.length - i) 0 (by omega) ?_ rfl ?_
  · simp only [go_sem, ↓reduceIte, Nat.reduceAdd, Nat.reduceMul, Nat.reduceSub, Nat.reduceLT, Nat.reduceLeDiff, Nat.reduceEqDiff, Int.reduceToNat, Int.reduceEq, Int.reduceLT, Int.reduceLE, reduceCtorEq]
  intro i hi
  by_cases h1 : i < p.length
  · have h1' : (i : Int) < p.length := by omega
    have hw : IntKind.i64.wrap ((i : Int) + 1) = ((i + 1 : Nat) : Int) := IntWalk.i64_in _ (by omega)
    have hd : doneB s p (i + 1) = (doneB s p i && (nextF s p i).isNone) := rfl
    have hs : stuckB s p (i + 1) = (stuckB s p i && !canF s p i) := rfl
    cases hx : nextF s p i with
    | none =>
      rw [hx] at hd
      cases hc : canF s p i with
      | true =>
        rw [hc] at hs
        unfold j46_1
        simp only [go_sem, ↓reduceIte, Nat.reduceAdd, Nat.reduceMul, Nat.reduceSub, Nat.reduceLT, Nat.reduceLeDiff, Nat.reduceEqDiff, Int.reduceToNat, Int.reduceEq, Int.reduceLT, Int.reduceLE, reduceCtorEq, Ge_eq, h1, h1', hx, hc, hw]
        exact ⟨h, ⟨h, hp⟩, i + 1, by omega, by omega, rfl, by rw [hd, hs]; simp⟩
      | false =>
        rw [hc] at hs
        unfold j46_1
        simp only [go_sem, ↓reduceIte, Nat.reduceAdd, Nat.reduceMul, Nat.reduceSub, Nat.reduceLT, Nat.reduceLeDiff, Nat.reduceEqDiff, Int.reduceToNat, Int.reduceEq, Int.reduceLT, Int.reduceLE, reduceCtorEq, Ge_eq, h1, h1', hx, hc, hw]
        exact ⟨h, ⟨h, hp⟩, i + 1, by omega, by omega, rfl, by rw [hd, hs]; simp⟩
    | some y =>
      obtain ⟨l, k⟩ := y
      rw [hx] at hd
      cases hc : canF s p i with
      | true =>
        rw [hc] at hs
        unfold j46_1
        simp only [go_sem, ↓reduceIte, Nat.reduceAdd, Nat.reduceMul, Nat.reduceSub, Nat.reduceLT, Nat.reduceLeDiff, Nat.reduceEqDiff, Int.reduceToNat, Int.reduceEq, Int.reduceLT, Int.reduceLE, reduceCtorEq, Ge_eq, h1, h1', hx, hc, hw]
        exact ⟨h, ⟨h, hp⟩, i + 1, by omega, by omega, rfl, by rw [hd, hs]; simp⟩
      | false =>
        rw [hc] at hs
        unfold j46_1
        simp only [go_sem, ↓reduceIte, Nat.reduceAdd, Nat.reduceMul, Nat.reduceSub, Nat.reduceLT, Nat.reduceLeDiff, Nat.reduceEqDiff, Int.reduceToNat, Int.reduceEq, Int.reduceLT, Int.reduceLE, reduceCtorEq, Ge_eq, h1, h1', hx, hc, hw]
        exact ⟨h, ⟨h, hp⟩, i + 1, by omega, by omega, rfl, by rw [hd, hs]; simp⟩
  · have h1' : ¬ (i : Int) < p.length := by omega
    have e : i = p.length := by omega
    subst e
    unfold j46_1
    simp only [go_sem, ↓reduceIte, Nat.reduceAdd, Nat.reduceMul, Nat.reduceSub, Nat.reduceLT, Nat.reduceLeDiff, Nat.reduceEqDiff, Int.reduceToNat, Int.reduceEq, Int.reduceLT, Int.reduceLE, reduceCtorEq, h1']
    unfold j46_2
    simp only [go_sem, ↓reduceIte, Nat.reduceAdd, Nat.reduceMul, Nat.reduceSub, Nat.reduceLT, Nat.reduceLeDiff, Nat.reduceEqDiff, Int.reduceToNat, Int.reduceEq, Int.reduceLT, Int.reduceLE, reduceCtorEq, tszEn, endF']
def firstS : Sta := ⟨⟨fun _ => 0, fun _ => 0, fun _ => 0, false, false⟩, fun _ => 0, upd (fun _ => false) 0 true, fun _ => 0⟩
theorem tszSt : tsz Try.prog 84 = some (37, true) := by kernel_rfl

def j43 : JC :=
  (.seq (.ops <|
  eo 0 (.alloc 84 (.agg [(.agg [(.arr 8 1 fun _ => (.int .i64 0)), (.arr 4 1 fun _ => (.int .i64 0)), (.arr 6 1 fun _ => (.int .i64 0)), (.bool false), (.bool false)]), (.arr 6 1 fun _ => (.int .i64 0)), (.arr 6 1 fun _ => (.bool false)), (.arr 5 1 fun _ => (.int .i64 0))])) <|
  .nil)
  (.seq (.ops <|
  eo 1 (.alloc 84 (.agg [(.agg [(.arr 8 1 fun _ => (.int .i64 0)), (.arr 4 1 fun _ => (.int .i64 0)), (.arr 6 1 fun _ => (.int .i64 0)), (.bool false), (.bool false)]), (.arr 6 1 fun _ => (.int .i64 0)), (.arr 6 1 fun _ => (.bool false)), (.arr 5 1 fun _ => (.int .i64 0))])) <|
  .nil)
  (.seq (.ops <|
  qo 2 (.fa 2 26 (.t 1)) <|
  qo 3 (.ia 6 1 (.t 2) (I 0)) <|
  en (.store 1 (.t 3) (B true)) <|
  .nil)
  (.seq (.ops <|
  eo 4 (.load 37 true (.t 1)) <|
  en (.store 37 (.t 0) (.t 4)) <|
  .nil)
  .ret))))
theorem c43 : fnIs Try.prog qall 43 = some (j43.flat, [.cell 0 84], 5) := by kernel_rfl
theorem w43 : j43.wf 5 = true := by kernel_rfl
theorem f_First : FnOK Try.prog 43 [] [] (dSta.emb firstS) [] := by
  refine fn_walkF c43 w43 FH.none_ok rfl ?_
  unfold j43
  simp only [go_sem, ↓reduceIte, Nat.reduceAdd, Nat.reduceMul, Nat.reduceSub, Nat.reduceLT, Nat.reduceLeDiff, Nat.reduceEqDiff, Int.reduceToNat, Int.reduceEq, Int.reduceLT, Int.reduceLE, reduceCtorEq, tszSt, firstS, upd_eq]
def pickS (p : List (List PO)) (s : Sta) (t : Int) : Sta := match nextF s p t with
  | none => s
  | some (l, i) => if canF s p t = true then stF s p t.toNat (l.getD i dOp.dft) else s
def pickE (p : List (List PO)) (s : Sta) (t : Int) : List Ev := match nextF s p t with
  | none => []
  | some (l, i) => if canF s p t = true ∧ evK s p t.toNat (l.getD i dOp.dft) ≠ 0 then [evE (evK s p t.toNat (l.getD i dOp.dft)) t.toNat (l.getD i dOp.dft)] else []
def runS (p : List (List PO)) (picks : List Int) : Nat → Sta
  | 0 => firstS
  | i + 1 => pickS p (runS p picks i) (picks.getD i 0)
def runE (p : List (List PO)) (picks : List Int) : Nat → List Ev
  | 0 => []
  | i + 1 => runE p picks i ++ pickE p (runS p picks i) (picks.getD i 0)
theorem fit_first {p : List (List PO)} (hp : progC badP p = 0) : Fit p firstS.at' := by
  unfold progC at hp
  split at hp
  · cases hp
  rename_i h
  refine ⟨by omega, fun t ht => ⟨by show (0 : Int) ≤ 0; omega, by show (0 : Int) ≤ _; omega⟩⟩
theorem fit_pick {p : List (List PO)} {s : Sta} (h : Fit p s.at') (t : Int) : Fit p (pickS p s t).at' := by
  unfold pickS
  split
  · exact h
  · rename_i l i hx
    split
    · obtain ⟨n, rfl, h1, h2, h3, h4, h5⟩ := next_some h hx
      refine ⟨h.n, fun k hk => ?_⟩
      have := h.at0 k hk
      show 0 ≤ Tr.upd s.at' n (s.at' n + 1) k ∧ Tr.upd s.at' n (s.at' n + 1) k ≤ _
      unfold Tr.upd
      split
      · rename_i e; subst e; rw [h3] at h5; omega
      · exact this
    · exact h
theorem fit_run {p : List (List PO)} (hp : progC badP p = 0) {picks : List Int} : ∀ i, Fit p (runS p picks i).at'
  | 0 => fit_first hp
  | i + 1 => fit_pick (fit_run hp i) _
theorem runE_len {p : List (List PO)} {picks : List Int} : ∀ i, (runE p picks i).length ≤ i
  | 0 => Nat.le_refl _
  | i + 1 => by
    have := runE_len (p := p) (picks := picks) i
    rw [runE, List.length_append]
    unfold pickE
    split
    · simp; omega
    · split <;> simp <;> omega
def zeroEn : En := ⟨fun _ => 0, fun _ => 0, fun _ => 0, false, false⟩
def runF (p : List (List PO)) (picks : List Int) : En × List Ev × Int :=
  if progC badP p ≠ 0 then (zeroEn, [], progC badP p) else if 100 < picks.length then (zeroEn, [], 2) else (endF' (runS p picks picks.length) p, runE p picks picks.length, 0)
def j12_1 : JC :=
  (.seq (.ops <|
  qo 31 (.cmp .lss (.t 30) (.t 29)) <|
  .nil)
  (.seq (.cond (.t 31)
  .skip
  (.exit 0))
  (.seq (.block 1 (.seq (.ops <|
  qo 32 (.is 1 (.t 28) (.t 30)) <|
  eo 33 (.load 1 false (.t 32)) <|
  qo 11 (.mv (.t 33)) <|
  .nil)
  (.prune [0, 11, 8, 30, 29, 28, 9, 4] (.seq (.seq (.ops <|
  qo 34 (.mv (.t 0)) <|
  qo 35 (.mv (.t 11)) <|
  eo 36 (.call 44 [(.t 8), (.t 34), (.t 35)]) <|
  qo 37 (.nt (.t 36)) <|
  .nil)
  (.cond (.t 37)
  (.exit 1)
  .skip))
  (.prune [0, 11, 8, 9, 30, 29, 28, 4] (.seq (.ops <|
  qo 39 (.mv (.t 0)) <|
  qo 40 (.mv (.t 11)) <|
  eo 41 (.call 45 [(.t 8), (.t 39), (.t 40)]) <|
  .prune [41, 9, 30, 29, 28, 0, 8, 4] <|
  qo 38 (.mv (.t 41)) <|
  qo 42 (.ext 0 (.t 38)) <|
  qo 43 (.ext 1 (.t 38)) <|
  eo 12 (.alloc 35 (.agg [(.int .i64 0), (.int .i64 0), (.int .i64 0)])) <|
  en (.store 3 (.t 12) (.t 42)) <|
  qo 13 (.mv (.t 43)) <|
  .nil)
  (.prune [13, 9, 12, 30, 29, 28, 0, 8, 4] (.seq (.ops <|
  qo 44 (.mv (.t 13)) <|
  .nil)
  (.prune [44, 9, 12, 30, 29, 28, 0, 8, 4] (.cond (.t 44)
  (.ops <|
  qo 45 (.mv (.t 9)) <|
  eo 46 (.load 3 true (.t 12)) <|
  .prune [46, 45, 30, 29, 28, 0, 8, 4] <|
  eo 47 (.bsl 35 3 1 (.agg [(.int .i64 0), (.int .i64 0), (.int .i64 0)]) [(0, (.t 46))]) <|
  eo 48 (.app 35 3 24 (.t 45) (.t 47)) <|
  qo 9 (.mv (.t 48)) <|
  .nil)
  .skip))))))))))
  (.prune [30, 29, 28, 0, 8, 9, 4] (.ops <|
  qo 49 (.ar .add (.t 30) (I 1)) <|
  qo 30 (.mv (.t 49)) <|
  .nil)))))
def j12_2 : JC :=
  (.prune [0, 8, 9, 4] (.seq (.ops <|
  qo 50 (.mv (.t 0)) <|
  eo 51 (.call 46 [(.t 8), (.t 50)]) <|
  qo 52 (.mv (.t 9)) <|
  .prune [4, 51, 52] <|
  en (.store 20 (.t 4) (.t 51)) <|
  qo 5 (.mv (.t 52)) <|
  qo 6 (.mv (I 0)) <|
  .nil)
  (.vecs 5 35 3 .ret)))
def j12 : JC :=
  (.seq (.ops <|
  eo 4 (.alloc 28 (.agg [(.arr 8 1 fun _ => (.int .i64 0)), (.arr 4 1 fun _ => (.int .i64 0)), (.arr 6 1 fun _ => (.int .i64 0)), (.bool false), (.bool false)])) <|
  qo 5 (.mv (.c .nils)) <|
  qo 6 (.mv (I 0)) <|
  .nil)
  (.seq (.ops <|
  qo 14 (.mv (.t 0)) <|
  eo 15 (.call 15 [(.t 14)]) <|
  qo 7 (.mv (.t 15)) <|
  .nil)
  (.seq (.seq (.ops <|
  qo 16 (.mv (.t 7)) <|
  qo 17 (.cmp .eql (.t 16) (I 0)) <|
  .prune [17, 1, 4, 0, 7] <|
  qo 18 (.mv (.t 17)) <|
  .sc false 22 18 (qo 19 (.mv (.t 1)) <|
  qo 20 (.len (.t 19)) <|
  qo 21 (.cmp .gtr (.t 20) (I 100)) <|
  .nil) (.t 21) <|
  .nil)
  (.prune [22, 4, 1, 0, 7] (.cond (.t 22)
  (.ops <|
  qo 7 (.mv (I 2)) <|
  .nil)
  .skip)))
  (.prune [7, 4, 1, 0] (.seq (.seq (.ops <|
  qo 23 (.mv (.t 7)) <|
  qo 24 (.cmp .neq (.t 23) (I 0)) <|
  .nil)
  (.cond (.t 24)
  (.seq (.ops <|
  qo 25 (.bld (.agg [(.arr 8 1 fun _ => (.int .i64 0)), (.arr 4 1 fun _ => (.int .i64 0)), (.arr 6 1 fun _ => (.int .i64 0)), (.bool false), (.bool false)]) []) <|
  .prune [7, 4, 25] <|
  qo 26 (.mv (.t 7)) <|
  en (.store 20 (.t 4) (.t 25)) <|
  qo 5 (.mv (.c .nils)) <|
  qo 6 (.mv (.t 26)) <|
  .nil)
  (.vecs 5 35 3 .ret))
  .skip))
  (.prune [1, 0, 4] (.seq (.ops <|
  eo 27 (.call 43 []) <|
  eo 8 (.alloc 84 (.agg [(.agg [(.arr 8 1 fun _ => (.int .i64 0)), (.arr 4 1 fun _ => (.int .i64 0)), (.arr 6 1 fun _ => (.int .i64 0)), (.bool false), (.bool false)]), (.arr 6 1 fun _ => (.int .i64 0)), (.arr 6 1 fun _ => (.bool false)), (.arr 5 1 fun _ => (.int .i64 0))])) <|
  en (.store 37 (.t 8) (.t 27)) <|
  .nil)
  (.seq (.ops <|
  qo 9 (.mv (.c .nils)) <|
  .nil)
  (.seq (.seq (.ops <|
  qo 28 (.mv (.t 1)) <|
  qo 29 (.len (.t 28)) <|
  qo 30 (.mv (I 0)) <|
  .nil)
  (.prune [30, 29, 28, 0, 8, 9, 4] (.block 0 (.vecs 9 35 3 (.loop [29, 28, 0, 8, 4] [30, 9] j12_1)))))
  j12_2)))))))))
theorem c12 : fnIs Try.prog qall 12 = some (j12.flat, [.cell 4 28, .tmp 5, .tmp 6], 53) := by kernel_rfl
theorem w12 : j12.wf 53 = true := by kernel_rfl
def Gr (f : FuncId) (a : List SV) (m : List Res) : Sx.Call := (FH.rd 15 (.one dProg) (.one .int) (fun _ => True) (fun y => progC badP y.1) <| FH.rd 43 .nil (.one dSta) (fun _ => True) (fun _ => firstS) <|
  FH.mt 44 84 dSta (.two dProg .int) (.one .bool) (fun s y => Fit y.1 s.at' ∧ progC badP y.1 = 0) (fun s y => canF s y.1 y.2.1) (fun s _ => s) <|
  FH.mt 45 84 dSta (.two dProg .int) (.two dEv .bool) (fun s y => Fit y.1 s.at' ∧ progC badP y.1 = 0 ∧ (nextF s y.1 y.2.1).isSome = true) (fun s y => match nextF s y.1 y.2.1 with
    | none => (⟨0, 0, 0⟩, false)
    | some (l, i) => (evE (evK s y.1 y.2.1.toNat (l.getD i dOp.dft)) y.2.1.toNat (l.getD i dOp.dft), !decide (evK s y.1 y.2.1.toNat (l.getD i dOp.dft) = 0))) (fun s y => match nextF s y.1 y.2.1 with
    | none => s
    | some (l, i) => stF s y.1 y.2.1.toNat (l.getD i dOp.dft)) <|
  FH.mt 46 84 dSta (.one dProg) (.one dEn) (fun s y => Fit y.1 s.at' ∧ progC badP y.1 = 0) (fun s y => endF' s y.1) (fun s _ => s) FH.none) f a m
theorem Gr_eq (f : FuncId) (a : List SV) (m : List Res) : Gr f a m = (FH.rd 15 (.one dProg) (.one .int) (fun _ => True) (fun y => progC badP y.1) <| FH.rd 43 .nil (.one dSta) (fun _ => True) (fun _ => firstS) <|
  FH.mt 44 84 dSta (.two dProg .int) (.one .bool) (fun s y => Fit y.1 s.at' ∧ progC badP y.1 = 0) (fun s y => canF s y.1 y.2.1) (fun s _ => s) <|
  FH.mt 45 84 dSta (.two dProg .int) (.two dEv .bool) (fun s y => Fit y.1 s.at' ∧ progC badP y.1 = 0 ∧ (nextF s y.1 y.2.1).isSome = true) (fun s y => match nextF s y.1 y.2.1 with
    | none => (⟨0, 0, 0⟩, false)
    | some (l, i) => (evE (evK s y.1 y.2.1.toNat (l.getD i dOp.dft)) y.2.1.toNat (l.getD i dOp.dft), !decide (evK s y.1 y.2.1.toNat (l.getD i dOp.dft) = 0))) (fun s y => match nextF s y.1 y.2.1 with
    | none => s
    | some (l, i) => stF s y.1 y.2.1.toNat (l.getD i dOp.dft)) <|
  FH.mt 46 84 dSta (.one dProg) (.one dEn) (fun s y => Fit y.1 s.at' ∧ progC badP y.1 = 0) (fun s y => endF' s y.1) (fun s _ => s) FH.none) f a m := nr rfl
theorem Gr_ok : FHOK Try.prog Gr := FH.rd_ok (by kernel_rfl) (fun y _ => f_Check y.1) <| FH.rd_ok (by kernel_rfl) (fun _ _ => f_First) <| FH.mt_ok (by kernel_rfl) (fun s y h => f_Can s y.1 y.2.1 h.1 h.2) <|
  FH.mt_ok (by kernel_rfl) (fun s y h => by
    obtain ⟨p, t, u⟩ := y
    obtain ⟨h1, h2, h3⟩ := h
    simp only at h1 h2 h3
    cases hx : nextF s p t with
    | none => rw [hx] at h3; cases h3
    | some y =>
      obtain ⟨l, i⟩ := y
      obtain ⟨n, rfl, _⟩ := next_some h1 hx
      have := f_Step s p n l i h1 h2 hx
      simp only [hx, Int.toNat_natCast]
      exact this) <| FH.mt_ok (by kernel_rfl) (fun s y h => f_Ended s y.1 h.1 h.2) FH.none_ok
theorem f_Run (p : List (List PO)) (picks : List Int) : FnOK Try.prog 12 [dProg.emb p, dIs.emb picks] [] (.tup [dEn.emb (runF p picks).1, .vec 0 (runF p picks).2.1.length, .int .i64 (runF p picks).2.2]) [.vec 35 3 ((runF p picks).2.1.map dEv.emb)] := by
  refine fn_walkF c12 w12 Gr_ok rfl ?_
  unfold j12
  by_cases hp : progC badP p = 0
  · by_cases h1 : 100 < picks.length
    · have h1' : (100 : Int) < picks.length := by omega
      have e : runF p picks = (zeroEn, [], 2) := by rw [runF, if_neg (by simp [hp]), if_pos h1]
      rw [e]
      simp only [go_sem, ↓reduceIte, Nat.reduceAdd, Nat.reduceMul, Nat.reduceSub, Nat.reduceLT, Nat.reduceLeDiff, Nat.reduceEqDiff, Int.reduceToNat, Int.reduceEq, Int.reduceLT, Int.reduceLE, reduceCtorEq, Gr_eq, hp, h1', tszEn, zeroEn]
    · have h1' : ¬ (100 : Int) < picks.length := by omega
      have e : runF p picks = (endF' (runS p picks picks.length) p, runE p picks picks.length, 0) := by rw [runF, if_neg (by simp [hp]), if_neg h1]
      rw [e]
      simp only [go_sem, ↓reduceIte, Nat.reduceAdd, Nat.reduceMul, Nat.reduceSub, Nat.reduceLT, Nat.reduceLeDiff, Nat.reduceEqDiff, Int.reduceToNat, Int.reduceEq, Int.reduceLT, Int.reduceLE, reduceCtorEq, Gr_eq, hp, h1']
      refine loopF Nat (fun i => [.int .i64 i, .vec 2 (runE p picks i).length]) (fun i => [.blk 28 (dEn.emb zeroEn), .blk 84 (dSta.emb (runS p picks i)), .vec 35 3 ((runE p picks i).map dEv.emb)]) (fun i => i ≤ picks.length) (fun i => picks.length - i) 0 (by omega) ?_ rfl ?_
      · simp only [go_sem, ↓reduceIte, Nat.reduceAdd, Nat.reduceMul, Nat.reduceSub, Nat.reduceLT, Nat.reduceLeDiff, Nat.reduceEqDiff, Int.reduceToNat, Int.reduceEq, Int.reduceLT, Int.reduceLE, reduceCtorEq]
        rfl
      intro i hi
      have hf := fit_run hp (picks := picks) i
      by_cases h2 : i < picks.length
      · have h2' : (i : Int) < picks.length := by omega
        have hw : IntKind.i64.wrap ((i : Int) + 1) = ((i + 1 : Nat) : Int) := IntWalk.i64_in _ (by omega)
        have hl := runE_len (p := p) (picks := picks) i
        have es : runS p picks (i + 1) = pickS p (runS p picks i) (picks.getD i 0) := rfl
        have ee : runE p picks (i + 1) = runE p picks i ++ pickE p (runS p picks i) (picks.getD i 0) := rfl
        obtain ⟨t, ht⟩ : ∃ t, picks.getD i 0 = t := ⟨_, rfl⟩
        rw [ht] at es ee
        cases hc : canF (runS p picks i) p t with
        | false =>
          have q1 : pickS p (runS p picks i) t = runS p picks i := by
            unfold pickS
            split
            · rfl
            · rw [hc, if_neg (by simp)]
          have q2 : pickE p (runS p picks i) t = [] := by
            unfold pickE
            split
            · rfl
            · rw [hc, if_neg (by simp)]
          rw [q1] at es
          rw [q2, List.append_nil] at ee
          clear q1 q2
          generalize runS p picks i = s at *
          generalize runE p picks i = out at *
          unfold j12_1
          simp only [go_sem, ↓reduceIte, Nat.reduceAdd, Nat.reduceMul, Nat.reduceSub, Nat.reduceLT, Nat.reduceLeDiff, Nat.reduceEqDiff, Int.reduceToNat, Int.reduceEq, Int.reduceLT, Int.reduceLE, reduceCtorEq, Gr_eq, h2, h2', ht, hc, hw]
          exact ⟨by omega, ⟨hf, hp⟩, i + 1, by omega, by omega, ⟨rfl, by rw [ee]⟩, by rw [es, ee]⟩
        | true =>
          cases hx : nextF (runS p picks i) p t with
          | none => rw [canF, hx] at hc; cases hc
          | some y =>
            obtain ⟨l, k⟩ := y
            have q1 : pickS p (runS p picks i) t = stF (runS p picks i) p t.toNat (l.getD k dOp.dft) := by
              simp only [pickS, hx, hc, if_true]
            rw [q1] at es
            clear q1
            by_cases hk : evK (runS p picks i) p t.toNat (l.getD k dOp.dft) = 0
            · have q2 : pickE p (runS p picks i) t = [] := by simp only [pickE, hx, hc, hk]; simp
              rw [q2, List.append_nil] at ee
              clear q2
              generalize runS p picks i = s at *
              generalize runE p picks i = out at *
              unfold j12_1
              simp only [go_sem, ↓reduceIte, Nat.reduceAdd, Nat.reduceMul, Nat.reduceSub, Nat.reduceLT, Nat.reduceLeDiff, Nat.reduceEqDiff, Int.reduceToNat, Int.reduceEq, Int.reduceLT, Int.reduceLE, reduceCtorEq, Gr_eq, h2, h2', ht, hc, hx, hw, hk]
              exact ⟨by omega, ⟨hf, hp⟩, ⟨hf, hp, rfl⟩, i + 1, by omega, by omega, ⟨rfl, by rw [ee]⟩, by rw [es, ee]⟩
            · have q2 : pickE p (runS p picks i) t = [evE (evK (runS p picks i) p t.toNat (l.getD k dOp.dft)) t.toNat (l.getD k dOp.dft)] := by
                simp only [pickE, hx, hc, ne_eq, hk, not_false_eq_true, and_self, if_true]
              rw [q2] at ee
              clear q2
              generalize runS p picks i = s at *
              generalize runE p picks i = out at *
              unfold j12_1
              simp only [go_sem, ↓reduceIte, Nat.reduceAdd, Nat.reduceMul, Nat.reduceSub, Nat.reduceLT, Nat.reduceLeDiff, Nat.reduceEqDiff, Int.reduceToNat, Int.reduceEq, Int.reduceLT, Int.reduceLE, reduceCtorEq, Gr_eq, h2, h2', ht, hc, hx, hw, hk]
              exact ⟨by omega, ⟨hf, hp⟩, ⟨hf, hp, rfl⟩, by omega, i + 1, by omega, by omega, ⟨rfl, by rw [ee]; simp⟩, by rw [es, ee]; simp [ev_emb]⟩
      · have h2' : ¬ (i : Int) < picks.length := by omega
        have e : i = picks.length := by omega
        subst e
        unfold j12_1
        simp only [go_sem, ↓reduceIte, Nat.reduceAdd, Nat.reduceMul, Nat.reduceSub, Nat.reduceLT, Nat.reduceLeDiff, Nat.reduceEqDiff, Int.reduceToNat, Int.reduceEq, Int.reduceLT, Int.reduceLE, reduceCtorEq, h2']
        unfold j12_2
        simp only [go_sem, ↓reduceIte, Nat.reduceAdd, Nat.reduceMul, Nat.reduceSub, Nat.reduceLT, Nat.reduceLeDiff, Nat.reduceEqDiff, Int.reduceToNat, Int.reduceEq, Int.reduceLT, Int.reduceLE, reduceCtorEq, Gr_eq, tszEn]
        exact ⟨hf, hp⟩
  · have e : runF p picks = (zeroEn, [], progC badP p) := by rw [runF, if_pos (by simp [hp])]
    rw [e]
    simp only [go_sem, ↓reduceIte, Nat.reduceAdd, Nat.reduceMul, Nat.reduceSub, Nat.reduceLT, Nat.reduceLeDiff, Nat.reduceEqDiff, Int.reduceToNat, Int.reduceEq, Int.reduceLT, Int.reduceLE, reduceCtorEq, Gr_eq, hp, tszEn, zeroEn]
end Go.Proofs.Ytgcbhanfhnianaa.Rn
end
section
set_option linter.unusedSimpArgs false
set_option linter.unusedVariables false
set_option maxRecDepth 100000
open Go Go.Sx Go.Proofs
namespace Go.Proofs.Ytgcbhanfhnianaa.D
structure Pg where
  p : List (List PO)
  at' : Nat → Int
  l : Option (List Ev)
  en : En
  last : Option (List Int)
theorem pg_eta (g : Pg) : (⟨g.p, g.at', g.l, g.en, g.last⟩ : Pg) = g := nr rfl
attribute [go_sem] pg_eta
end Go.Proofs.Ytgcbhanfhnianaa.D
namespace Go.Proofs.Ytgcbhanfhnianaa.Rn
open Go.Proofs.Ytgcbhanfhnianaa.D Go.Proofs.Ytgcbhanfhnianaa.Pg Go.Proofs.Ytgcbhanfhnianaa.Tr Go.Proofs.Ytgcbhanfhnianaa.Cp

abbrev gl (g : Pg) : List Ev := g.l.getD []
abbrev gt (g : Pg) : List Int := g.last.getD []
def overB (g : Pg) (t : Int) : Bool := decide (g.at' t.toNat = ((g.p.getD t.toNat []).length : Int))
def opG (g : Pg) (t : Int) : PO := (g.p.getD t.toNat []).getD (g.at' t.toNat).toNat dOp.dft
def canG (g : Pg) (t : Int) : Bool := if t < 0 ∨ (g.p.length : Int) ≤ t then false else if begB (gl g) t = false then false else if overB g t = true then false else
  if (opG g t).kind = 4 then decide (Tr.ownR (gl g) (opG g t).obj < 0) else
  if (opG g t).kind = 7 then decide ((opG g t).obj < g.p.length) && !decide ((opG g t).obj = t) && begB (gl g) (opG g t).obj && overB g (opG g t).obj else true

def kindM (k : Int) : Int := if k = 1 then 1 else if k = 2 then 2 else if k = 4 then 3 else if k = 5 then 4 else if k = 6 then 5 else if k = 7 then 6 else if k = 8 then 7 else if k = 9 then 8 else 0
def evG (g : Pg) (t : Nat) (o : PO) : Int := if o.kind = 5 then (if Tr.ownR (gl g) o.obj = t then 4 else 0) else if o.kind = 6 then (if (g.p.length : Int) ≤ o.obj ∨ begB (gl g) o.obj = true then 0 else 5) else kindM o.kind
def stepG (g : Pg) (t : Nat) (o : PO) : Pg := ⟨g.p, upd g.at' t (g.at' t + 1), if evG g t o = 0 then g.l else some (gl g ++ [⟨evG g t o, t, o.obj⟩]), enF g.en t o, some (gt g ++ [(t : Int)])⟩

end Go.Proofs.Ytgcbhanfhnianaa.Rn
end
section
set_option linter.unusedSimpArgs false
set_option linter.unusedVariables false
set_option maxRecDepth 100000
open Go Go.Sx Go.Proofs
namespace Go.Proofs.Ytgcbhanfhnianaa.Rn
open Go.Proofs.Ytgcbhanfhnianaa.D Go.Proofs.Ytgcbhanfhnianaa.Pg Go.Proofs.Ytgcbhanfhnianaa.Tr Go.Proofs.Ytgcbhanfhnianaa.Cp
def firstG (p : List (List PO)) : Pg := ⟨p, fun _ => 0, none, zeroEn, none⟩
def pickG (g : Pg) (t : Int) : Pg := if canG g t = true then stepG g t.toNat (opG g t) else g
def runG (p : List (List PO)) (picks : List Int) : Nat → Pg
  | 0 => firstG p
  | i + 1 => pickG (runG p picks i) (picks.getD i 0)
end Go.Proofs.Ytgcbhanfhnianaa.Rn
end
section
set_option linter.unusedSimpArgs false
set_option linter.unusedVariables false
set_option maxRecDepth 100000
open Go Go.Sx Go.Proofs
namespace Go.Proofs.Ytgcbhanfhnianaa.Rn
open Go.Proofs.Ytgcbhanfhnianaa.D Go.Proofs.Ytgcbhanfhnianaa.Pg Go.Proofs.Ytgcbhanfhnianaa.Tr
structure Same (p : List (List PO)) (s : Sta) (g : Pg) : Prop where
  p : g.p = p
  at' : s.at' = g.at'
  en : s.en = g.en
  begun : ∀ t : Nat, s.begun t = begB (gl g) t
  owner : ∀ k : Nat, s.owner k = Tr.ownR (gl g) k + 1
  pos : ∀ k : Nat, 0 ≤ s.owner k
theorem beg_add (l : List Ev) (e : Ev) (t : Int) : begB (l ++ [e]) t = (begB l t || (decide (e.kind = 5) && decide (e.obj = t))) := by
  simp only [begB, didB, List.any_append, List.any_cons, List.any_nil, Bool.or_false, Bool.or_assoc]
theorem own_add (l : List Ev) (e : Ev) (k : Int) : Tr.ownR (l ++ [e]) k = ownS k (Tr.ownR l k) e := by
  simp only [Tr.ownR, List.foldl_append, List.foldl_cons, List.foldl_nil]
theorem next_none {s : Sta} {p : List (List PO)} {t : Int} : nextF s p t = none ↔ t < 0 ∨ (p.length : Int) ≤ t ∨ s.begun t.toNat = false ∨ s.at' t.toNat = ((p.getD t.toNat []).length : Int) := by
  unfold nextF
  split
  · rename_i h; constructor
    · intro _; omega
    · intro _; rfl
  · rename_i h1
    split
    · rename_i h; simp [h]
    · rename_i h2
      split
      · rename_i h; simp [h]
      · rename_i h3
        constructor
        · intro h; cases h
        · rintro (h | h | h | h) <;> first | omega | exact absurd h h2 | exact absurd h h3
theorem can_same {p : List (List PO)} {s : Sta} {g : Pg} (hp : progC badP p = 0) (hf : Fit p s.at') (h : Same p s g) (t : Int) : canF s p t = canG g t := by
  have e : g.p = p := h.p
  unfold canF canG
  rw [e]
  cases hx : nextF s p t with
  | none =>
    simp only
    have := next_none.1 hx
    by_cases h1 : t < 0 ∨ (p.length : Int) ≤ t
    · rw [if_pos h1]
    rw [if_neg h1]
    by_cases h2 : begB (gl g) t = false
    · rw [if_pos h2]
    rw [if_neg h2]
    rw [if_pos]
    rcases this with h3 | h3 | h3 | h3
    · omega
    · omega
    · rw [h.begun, show ((t.toNat : Nat) : Int) = t by omega] at h3; exact absurd h3 h2
    · rw [overB, decide_eq_true_eq, e, ← h.at']; exact h3
  | some y =>
    obtain ⟨l, i⟩ := y
    obtain ⟨n, rfl, h1, h2, h3, h4, h5⟩ := next_some hf hx
    have ho := op_ok hp h1 (i := i) (by rw [← h3]; exact h5)
    rw [← h3] at ho
    have eo : opG g n = l.getD i dOp.dft := by
      rw [opG, e, Int.toNat_natCast, ← h.at', h4, Int.toNat_natCast, h3]
    rw [if_neg (by omega), if_neg (by rw [← h.begun, h2]; simp), if_neg (by
      rw [overB, decide_eq_true_eq, e, ← h.at', Int.toNat_natCast, h4, ← h3]; omega), eo]
    simp only
    have b4 : bnd 4 = 5 := by decide
    have b7 : bnd 7 = 6 := by decide
    by_cases k4 : (l.getD i dOp.dft).kind = 4
    · rw [if_pos k4, if_pos k4]
      have h6 := h.owner (l.getD i dOp.dft).obj.toNat
      have h7 := h.pos (l.getD i dOp.dft).obj.toNat
      rw [show (((l.getD i dOp.dft).obj.toNat : Nat) : Int) = (l.getD i dOp.dft).obj by omega] at h6
      rw [Bool.eq_iff_iff, decide_eq_true_eq, decide_eq_true_eq]; omega
    rw [if_neg k4, if_neg k4]
    by_cases k7 : (l.getD i dOp.dft).kind = 7
    · rw [if_pos k7, if_pos k7, overB, e, ← h.at', h.begun, show (((l.getD i dOp.dft).obj.toNat : Nat) : Int) = (l.getD i dOp.dft).obj by omega]
    · rw [if_neg k7, if_neg k7]
theorem ev_same {p : List (List PO)} {s : Sta} {g : Pg} (h : Same p s g) (n : Nat) {o : PO} (ho : 0 ≤ o.obj ∧ o.obj < bnd o.kind) : evK s p n o = evG g n o := by
  have h6 := h.owner o.obj.toNat
  have h8 := h.begun o.obj.toNat
  rw [show ((o.obj.toNat : Nat) : Int) = o.obj by omega] at h6 h8
  have hb := bnd_kind ho
  unfold evK evG kindM
  rw [h6, h8, h.p]
  rcases hb with k | k | k | k | k | k | k | k | k <;> simp only [k, Int.reduceEq, if_true, if_false]
  · by_cases c : Tr.ownR (gl g) o.obj = n
    · rw [if_pos c, if_pos (by omega)]
    · rw [if_neg c, if_neg (by omega)]
  · cases c : begB (gl g) o.obj with
    | true => rw [if_neg (by simp), if_pos (.inr rfl)]
    | false =>
      by_cases c2 : o.obj < p.length
      · rw [if_pos ⟨c2, rfl⟩, if_neg (by simp; omega)]
      · rw [if_neg (by simp [c2]), if_pos (.inl (by omega))]
theorem step_same {p : List (List PO)} {s : Sta} {g : Pg} (h : Same p s g) (n : Nat) {o : PO} (ho : 0 ≤ o.obj ∧ o.obj < bnd o.kind) : Same p (stF s p n o) (stepG g n o) := by
  have he := ev_same h n ho
  have h6 := h.owner o.obj.toNat
  have h8 := h.begun o.obj.toNat
  rw [show ((o.obj.toNat : Nat) : Int) = o.obj by omega] at h6 h8
  have hb := bnd_kind ho
  have hl : gl (stepG g n o) = if evK s p n o = 0 then gl g else gl g ++ [⟨evK s p n o, n, o.obj⟩] := by
    rw [he]; unfold gl stepG; simp only; split <;> rfl
  refine ⟨h.p, ?_, ?_, fun t => ?_, fun k => ?_, fun k => ?_⟩
  · show Tr.upd s.at' n (s.at' n + 1) = Tr.upd g.at' n (g.at' n + 1)
    rw [h.at']
  · show enF s.en n o = enF g.en n o
    rw [h.en]
  · have key : begB (gl (stepG g n o)) t = (begB (gl g) t || (decide (evK s p n o = 5) && decide (o.obj = t))) := by
      rw [hl]
      split
      · rename_i h0; rw [h0]; simp
      · exact beg_add _ _ _
    rw [key, ← h.begun]
    show (if o.kind = 6 ∧ o.obj < p.length ∧ s.begun o.obj.toNat = false then Tr.upd s.begun o.obj.toNat true else s.begun) t = _
    have k5 : evK s p n o = 5 ↔ (o.kind = 6 ∧ o.obj < p.length ∧ s.begun o.obj.toNat = false) := by
      unfold evK
      rcases hb with k | k | k | k | k | k | k | k | k <;> simp only [k, Int.reduceEq, if_true, if_false, false_and, true_and, iff_false] <;> try (split <;> simp_all <;> done)
    by_cases c : o.kind = 6 ∧ o.obj < p.length ∧ s.begun o.obj.toNat = false
    · rw [if_pos c, decide_eq_true (k5.2 c), Bool.true_and]
      unfold Tr.upd
      by_cases c2 : t = o.obj.toNat
      · rw [if_pos c2, decide_eq_true (by omega), Bool.or_true]
      · rw [if_neg c2, decide_eq_false (by omega), Bool.or_false]
    · rw [if_neg c, decide_eq_false (fun q => c (k5.1 q)), Bool.false_and, Bool.or_false]
  · have key : Tr.ownR (gl (stepG g n o)) k = if evK s p n o = 0 then Tr.ownR (gl g) k else ownS k (Tr.ownR (gl g) k) ⟨evK s p n o, n, o.obj⟩ := by
      rw [hl]
      split
      · rfl
      · exact own_add _ _ _
    rw [key]
    have hk := h.owner k
    show (if o.kind = 4 then Tr.upd s.owner o.obj.toNat (n + 1) else if o.kind = 5 ∧ s.owner o.obj.toNat = (n : Int) + 1 then Tr.upd s.owner o.obj.toNat 0 else s.owner) k = _
    unfold evK
    have c1 : k = o.obj.toNat ↔ o.obj = k := by omega
    by_cases c : s.owner o.obj.toNat = (n : Int) + 1
    all_goals (rcases hb with q | q | q | q | q | q | q | q | q <;> simp only [q, c, Int.reduceEq, if_true, if_false, false_and, true_and, and_false, and_true, ownS, Tr.upd, c1])
    all_goals (repeat' split)
    all_goals (first | omega | (rename_i r; cases r))
  · show 0 ≤ (if o.kind = 4 then Tr.upd s.owner o.obj.toNat (n + 1) else if o.kind = 5 ∧ s.owner o.obj.toNat = (n : Int) + 1 then Tr.upd s.owner o.obj.toNat 0 else s.owner) k
    have := h.pos k
    unfold Tr.upd
    repeat' split
    all_goals (try dsimp only; try split)
    all_goals omega
theorem pick_same {p : List (List PO)} {s : Sta} {g : Pg} (hp : progC badP p = 0) (hf : Fit p s.at') (h : Same p s g) (t : Int) : Same p (pickS p s t) (pickG g t) ∧ gl (pickG g t) = gl g ++ pickE p s t := by
  have hc := can_same hp hf h t
  unfold pickS pickE pickG
  rw [← hc]
  cases hx : nextF s p t with
  | none =>
    have : canF s p t = false := by rw [canF, hx]
    rw [this, if_neg (by simp)]
    exact ⟨h, (List.append_nil _).symm⟩
  | some y =>
    obtain ⟨l, i⟩ := y
    obtain ⟨n, rfl, h1, h2, h3, h4, h5⟩ := next_some hf hx
    have ho := op_ok hp h1 (i := i) (by rw [← h3]; exact h5)
    rw [← h3] at ho
    have eo : opG g n = l.getD i dOp.dft := by
      rw [opG, h.p, Int.toNat_natCast, ← h.at', h4, Int.toNat_natCast, h3]
    simp only [Int.toNat_natCast, eo]
    by_cases c : canF s p n = true
    · rw [if_pos c, if_pos c]
      refine ⟨step_same h n ho, ?_⟩
      have he := ev_same h n ho
      show (if evG g n (l.getD i dOp.dft) = 0 then g.l else some (gl g ++ [⟨evG g n (l.getD i dOp.dft), n, (l.getD i dOp.dft).obj⟩])).getD [] = _
      rw [← he]
      by_cases c2 : evK s p n (l.getD i dOp.dft) = 0
      · rw [if_pos c2, if_neg (fun q => q.2 c2), List.append_nil]
      · rw [if_neg c2, if_pos ⟨c, c2⟩, evE, if_neg c2]; rfl
    · rw [if_neg c, if_neg c, if_neg (fun q => c q.1), List.append_nil]
      exact ⟨h, rfl⟩
theorem run_same {p : List (List PO)} (hp : progC badP p = 0) {picks : List Int} : ∀ i, Same p (runS p picks i) (runG p picks i) ∧ gl (runG p picks i) = runE p picks i
  | 0 => ⟨⟨rfl, rfl, rfl, fun t => by
      show Tr.upd (fun _ => false) 0 true t = _
      unfold Tr.upd begB
      by_cases c : t = 0
      · subst c; rfl
      · rw [if_neg c, decide_eq_false (by omega)]; rfl, fun _ => rfl, fun _ => Int.le_refl _⟩, rfl⟩
  | i + 1 => by
    obtain ⟨h1, h2⟩ := run_same hp (picks := picks) i
    obtain ⟨h3, h4⟩ := pick_same hp (fit_run hp i) h1 (picks.getD i 0)
    exact ⟨h3, by rw [runG, h4, h2]; rfl⟩
end Go.Proofs.Ytgcbhanfhnianaa.Rn
end
