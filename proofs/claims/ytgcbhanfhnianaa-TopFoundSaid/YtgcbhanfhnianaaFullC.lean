/- The package full: clocks, cells. Conditions: none. -/
import Derived.Test.YtgcbhanfhnianaaClockJ
import Derived.Test.YtgcbhanfhnianaaTraceR
set_option linter.unusedSimpArgs false
set_option linter.unusedVariables false
set_option maxRecDepth 100000
open Go Go.Sx Go.Proofs
namespace Go.Proofs.Ytgcbhanfhnianaa.Fu
open Go.Proofs.Ytgcbhanfhnianaa.D Go.Proofs.Ytgcbhanfhnianaa.Tr Go.Proofs.Ytgcbhanfhnianaa.C
structure Vr where
  rd : Nat → Clk
  wr : Nat → Clk
def dVr : DT Vr := (DT.ofTT (.arr 8 12 (.st [.arr 6 1 (.int .i64), .arr 6 1 (.int .i64)]))).iso (fun x => ⟨fun i => (x i).1, fun i => (x i).2.1⟩) (fun v i => (v.rd i, v.wr i, ())) (fun _ => rfl) (fun _ => rfl)
instance : Flat dVr := (Flat.ofTT rfl).iso
theorem vr_emb (v : Vr) : dVr.emb v = .arr 8 12 fun i => .agg [.arr 6 1 fun j => .int .i64 (v.rd i j), .arr 6 1 fun j => .int .i64 (v.wr i j)] := nr rfl
theorem vr_decV (m : List Res) (f g : Nat → Nat → Int) : dVr.decV m (.arr 8 12 fun i => .agg [.arr 6 1 fun j => .int .i64 (f i j), .arr 6 1 fun j => .int .i64 (g i j)]) = ⟨f, g⟩ := nr rfl
theorem vr_decP (m : List Res) (f g : Nat → Nat → Int) : dVr.decP m (.arr 8 12 fun i => .agg [.arr 6 1 fun j => .int .i64 (f i j), .arr 6 1 fun j => .int .i64 (g i j)]) = True := eq_true ⟨rfl, rfl, fun _ _ => ⟨⟨rfl, rfl, fun _ _ => rfl⟩, ⟨rfl, rfl, fun _ _ => rfl⟩, trivial⟩⟩
theorem vr_eta (v : Vr) : (⟨v.rd, v.wr⟩ : Vr) = v := nr rfl
attribute [go_sem] vr_emb vr_decV vr_decP vr_eta
theorem upd_vr (f g : Nat → Nat → Int) (i : Nat) (a b : Nat → Int) : updS (fun k => SV.agg [.arr 6 1 fun j => .int .i64 (f k j), .arr 6 1 fun j => .int .i64 (g k j)]) i (.agg [.arr 6 1 fun j => .int .i64 (a j), .arr 6 1 fun j => .int .i64 (b j)]) = fun k => SV.agg [.arr 6 1 fun j => .int .i64 (if k = i then a j else f k j), .arr 6 1 fun j => .int .i64 (if k = i then b j else g k j)] := by
  funext k; unfold updS; split <;> rfl
def newK (n : Nat) : Kp := ⟨fun t u => if t < n ∧ u = t then 1 else 0, fun _ _ => 0, fun _ _ => 0⟩
theorem newK_at {n k j : Nat} : (if k = n then if j = n then 1 else (newK n).thr n j else (newK n).thr k j) = (newK (n + 1)).thr k j := by
  simp only [newK]
  by_cases h : k = n
  · subst h; by_cases h2 : j = k <;> simp [h2]
  · simp [h, show (k < n + 1) ↔ k < n by omega]
def j95_1 : JC :=
  (.seq (.ops <|
  qo 6 (.cmp .lss (.t 5) (I 6)) <|
  .nil)
  (.seq (.cond (.t 6)
  .skip
  (.exit 0))
  (.seq (.block 1 (.seq (.ops <|
  qo 7 (.mv (.t 5)) <|
  qo 2 (.mv (.t 7)) <|
  .nil)
  (.ops <|
  qo 8 (.mv (.t 1)) <|
  qo 9 (.mv (.t 2)) <|
  qo 10 (.mv (.t 2)) <|
  .prune [8, 9, 10, 5, 1] <|
  qo 11 (.nck (.t 8)) <|
  qo 12 (.fa 0 0 (.t 11)) <|
  qo 13 (.ia 6 6 (.t 12) (.t 9)) <|
  qo 14 (.ia 6 1 (.t 13) (.t 10)) <|
  en (.store 1 (.t 14) (I 1)) <|
  .nil)))
  (.prune [5, 1] (.ops <|
  qo 15 (.ar .add (.t 5) (I 1)) <|
  qo 5 (.mv (.t 15)) <|
  .nil)))))
def j95_2 : JC :=
  (.prune [1] (.seq (.ops <|
  qo 16 (.mv (.t 1)) <|
  qo 0 (.mv (.t 16)) <|
  .nil)
  .ret))
def j95 : JC :=
  (.seq (.ops <|
  qo 0 (.mv (.c .nilp)) <|
  .nil)
  (.seq (.ops <|
  qo 3 (.bld (.agg [(.arr 6 6 fun _ => (.arr 6 1 fun _ => (.int .i64 0))), (.arr 5 6 fun _ => (.arr 6 1 fun _ => (.int .i64 0))), (.arr 4 6 fun _ => (.arr 6 1 fun _ => (.int .i64 0)))]) []) <|
  eo 4 (.box 171 (.t 3)) <|
  qo 1 (.mv (.t 4)) <|
  .nil)
  (.seq (.seq (.ops <|
  qo 5 (.mv (I 0)) <|
  .nil)
  (.block 0 (.loop [1] [5] j95_1)))
  j95_2)))
theorem c95 : fnIs Try.prog qall 95 = some (j95.flat, [.tmp 0], 17) := by kernel_rfl
theorem w95 : j95.wf 17 = true := by kernel_rfl
theorem f_New : FnOK Try.prog 95 [] [] (.ptr 0 [] 0) [.blk 171 (dKp.emb (newK 6))] := by
  refine fn_walkF c95 w95 FH.none_ok rfl ?_
  unfold j95
  simp only [go_sem, ↓reduceIte, Nat.reduceAdd, Nat.reduceMul, Nat.reduceSub, Nat.reduceLT, Nat.reduceLeDiff, Nat.reduceEqDiff, Int.reduceToNat, Int.reduceEq, Int.reduceLT, Int.reduceLE, reduceCtorEq]
  refine loopF Nat (fun i => [.int .i64 i]) (fun i => [.blk 171 (dKp.emb (newK i))]) (fun i => i ≤ 6) (fun i => 6 - i) 0 (by omega) ?_ ?_ ?_
  · simp only [go_sem, ↓reduceIte, Nat.reduceAdd, Nat.reduceMul, Nat.reduceSub, Nat.reduceLT, Nat.reduceLeDiff, Nat.reduceEqDiff, Int.reduceToNat, Int.reduceEq, Int.reduceLT, Int.reduceLE, reduceCtorEq]
  · simp [newK]
    rfl
  intro i hi
  by_cases h1 : i < 6
  · have h1' : (i : Int) < 6 := by omega
    have hw : IntKind.i64.wrap ((i : Int) + 1) = ((i + 1 : Nat) : Int) := IntWalk.i64_in _ (by omega)
    unfold j95_1
    simp only [go_sem, ↓reduceIte, Nat.reduceAdd, Nat.reduceMul, Nat.reduceSub, Nat.reduceLT, Nat.reduceLeDiff, Nat.reduceEqDiff, Int.reduceToNat, Int.reduceEq, Int.reduceLT, Int.reduceLE, reduceCtorEq, h1, h1', hw]
    exact ⟨by omega, by omega, i + 1, by omega, by omega, rfl, by simp only [newK_at]; rfl⟩
  · have e : i = 6 := by omega
    subst e
    unfold j95_1
    simp only [go_sem, ↓reduceIte, Nat.reduceAdd, Nat.reduceMul, Nat.reduceSub, Nat.reduceLT, Nat.reduceLeDiff, Nat.reduceEqDiff, Int.reduceToNat, Int.reduceEq, Int.reduceLT, Int.reduceLE, reduceCtorEq]
    unfold j95_2
    simp only [go_sem, ↓reduceIte, Nat.reduceAdd, Nat.reduceMul, Nat.reduceSub, Nat.reduceLT, Nat.reduceLeDiff, Nat.reduceEqDiff, Int.reduceToNat, Int.reduceEq, Int.reduceLT, Int.reduceLE, reduceCtorEq]

def j175 : JC :=
  (.seq (.ops <|
  eo 2 (.box 166 (.t 0)) <|
  eo 3 (.box 166 (.t 1)) <|
  qo 4 (.mv (B false)) <|
  .nil)
  (.seq (.dops <|
  eo 5 (.load 6 true (.t 2)) <|
  eo 6 (.load 6 true (.t 3)) <|
  eo 7 (.qcall 129 [(.t 5), (.t 6)]) <|
  eo 8 (.load 6 true (.t 3)) <|
  qo 9 (.aeq false (.arr 6 1 (.int .i64)) (.t 7) (.t 8)) <|
  qo 4 (.mv (.t 9)) <|
  .nil)
  .ret))
theorem c175 : fnIs Try.prog qall 175 = some (j175.flat, [.tmp 4], 10) := by kernel_rfl
theorem w175 : j175.wf 10 = true := by kernel_rfl
def withB (a b : Clk) : Bool := (List.range 6).all fun i => decide (joinC a b i = b i)
def Gwi (f : FuncId) (a : List SV) (m : List Res) : Sx.Call := (FH.rd 129 (.two dClk dClk) (.one dClk) (fun _ => True) (fun y => joinC y.1 y.2.1) FH.none) f a m
theorem Gwi_eq (f : FuncId) (a : List SV) (m : List Res) : Gwi f a m = (FH.rd 129 (.two dClk dClk) (.one dClk) (fun _ => True) (fun y => joinC y.1 y.2.1) FH.none) f a m := nr rfl
theorem Gwi_ok : FHOK Try.prog Gwi := FH.rd_ok (by kernel_rfl) (fun y _ => f_Join y.1 y.2.1) FH.none_ok
theorem f_Within (a b : Clk) : FnOK Try.prog 175 [dClk.emb a, dClk.emb b] [] (.bool (withB a b)) [] := by
  refine fn_walkF c175 w175 Gwi_ok rfl ?_
  unfold j175
  simp only [go_sem, ↓reduceIte, Nat.reduceAdd, Nat.reduceMul, Nat.reduceSub, Nat.reduceLT, Nat.reduceLeDiff, Nat.reduceEqDiff, Int.reduceToNat, Int.reduceEq, Int.reduceLT, Int.reduceLE, reduceCtorEq, Gwi_eq, tszC]
  rfl
def upC (f : Nat → Clk) (i : Nat) (c : Clk) : Nat → Clk := fun k j => if k = i then c j else f k j
def inC (f : Nat → Clk) (t : Nat) : Nat → Clk := fun k j => if k = t then (if j = t then IntKind.i64.wrap (f t t + 1) else f t j) else f k j
def syncK (k : Kp) (e : Ev) : Kp :=
  if e.kind = 3 then ⟨upC k.thr e.thr.toNat (joinC (k.thr e.thr.toNat) (k.lk e.obj.toNat)), k.lk, k.vl⟩ else
  if e.kind = 4 then ⟨inC k.thr e.thr.toNat, upC k.lk e.obj.toNat (k.thr e.thr.toNat), k.vl⟩ else
  if e.kind = 5 then ⟨inC (upC k.thr e.obj.toNat (joinC (k.thr e.obj.toNat) (k.thr e.thr.toNat))) e.thr.toNat, k.lk, k.vl⟩ else
  if e.kind = 6 then ⟨upC k.thr e.thr.toNat (joinC (k.thr e.thr.toNat) (k.thr e.obj.toNat)), k.lk, k.vl⟩ else
  if e.kind = 7 then ⟨upC k.thr e.thr.toNat (joinC (k.thr e.thr.toNat) (k.vl e.obj.toNat)), k.lk, k.vl⟩ else
  if e.kind = 8 then ⟨inC k.thr e.thr.toNat, k.lk, upC k.vl e.obj.toNat (joinC (k.vl e.obj.toNat) (k.thr e.thr.toNat))⟩ else k

def j96 : JC :=
  (.seq (.ops <|
  eo 3 (.box 35 (.t 1)) <|
  .nil)
  (.seq (.dops <|
  qo 5 (.mv (.t 0)) <|
  qo 6 (.fa 1 1 (.t 3)) <|
  eo 7 (.load 1 false (.t 6)) <|
  qo 8 (.nck (.t 5)) <|
  qo 9 (.fa 0 0 (.t 8)) <|
  qo 10 (.ia 6 6 (.t 9) (.t 7)) <|
  qo 4 (.mv (.t 10)) <|
  .nil)
  (.seq (.ops <|
  qo 11 (.fa 0 0 (.t 3)) <|
  eo 12 (.load 1 false (.t 11)) <|
  .nil)
  (.prune [12, 4, 0, 3] (.block 0 (.seq (.ops <|
  qo 14 (.cmp .eql (.t 12) (I 3)) <|
  qo 13 (.mv (.t 14)) <|
  .nil)
  (.cond (.t 13)
  (.dops <|
  qo 15 (.mv (.t 4)) <|
  .prune [4, 0, 3, 15] <|
  qo 16 (.mv (.t 4)) <|
  qo 17 (.nck (.t 16)) <|
  eo 18 (.load 6 true (.t 17)) <|
  .prune [0, 3, 18, 15] <|
  qo 19 (.mv (.t 0)) <|
  qo 20 (.fa 2 2 (.t 3)) <|
  eo 21 (.load 1 false (.t 20)) <|
  .prune [19, 21, 18, 15] <|
  qo 22 (.nck (.t 19)) <|
  qo 23 (.fa 1 36 (.t 22)) <|
  qo 24 (.ia 5 6 (.t 23) (.t 21)) <|
  .prune [24, 18, 15] <|
  eo 25 (.load 6 true (.t 24)) <|
  eo 26 (.qcall 129 [(.t 18), (.t 25)]) <|
  qo 27 (.nck (.t 15)) <|
  en (.store 6 (.t 27) (.t 26)) <|
  .nil)
  (.seq (.ops <|
  qo 29 (.cmp .eql (.t 12) (I 4)) <|
  qo 28 (.mv (.t 29)) <|
  .nil)
  (.cond (.t 28)
  (.seq (.dops <|
  .prune [0, 3, 4] <|
  qo 30 (.mv (.t 0)) <|
  qo 31 (.fa 2 2 (.t 3)) <|
  eo 32 (.load 1 false (.t 31)) <|
  qo 33 (.mv (.t 4)) <|
  qo 34 (.nck (.t 33)) <|
  .prune [34, 30, 32, 4, 3] <|
  eo 35 (.load 6 true (.t 34)) <|
  qo 36 (.nck (.t 30)) <|
  qo 37 (.fa 1 36 (.t 36)) <|
  qo 38 (.ia 5 6 (.t 37) (.t 32)) <|
  en (.store 6 (.t 38) (.t 35)) <|
  .nil)
  (.prune [4, 3] (.dops <|
  qo 39 (.mv (.t 4)) <|
  qo 40 (.fa 1 1 (.t 3)) <|
  eo 41 (.load 1 false (.t 40)) <|
  qo 42 (.nck (.t 39)) <|
  qo 43 (.ia 6 1 (.t 42) (.t 41)) <|
  .prune [43, 39, 41] <|
  eo 44 (.load 1 false (.t 43)) <|
  qo 45 (.ar .add (.t 44) (I 1)) <|
  qo 46 (.nck (.t 39)) <|
  qo 47 (.ia 6 1 (.t 46) (.t 41)) <|
  en (.store 1 (.t 47) (.t 45)) <|
  .nil)))
  (.seq (.ops <|
  qo 49 (.cmp .eql (.t 12) (I 5)) <|
  qo 48 (.mv (.t 49)) <|
  .nil)
  (.prune [48, 0, 3, 4, 12] (.cond (.t 48)
  (.seq (.dops <|
  qo 50 (.mv (.t 0)) <|
  qo 51 (.fa 2 2 (.t 3)) <|
  eo 52 (.load 1 false (.t 51)) <|
  .prune [0, 3, 4, 50, 52] <|
  qo 53 (.mv (.t 0)) <|
  qo 54 (.fa 2 2 (.t 3)) <|
  eo 55 (.load 1 false (.t 54)) <|
  qo 56 (.nck (.t 53)) <|
  .prune [56, 55, 4, 50, 52, 3] <|
  qo 57 (.fa 0 0 (.t 56)) <|
  qo 58 (.ia 6 6 (.t 57) (.t 55)) <|
  .prune [58, 4, 50, 52, 3] <|
  eo 59 (.load 6 true (.t 58)) <|
  qo 60 (.mv (.t 4)) <|
  qo 61 (.nck (.t 60)) <|
  eo 62 (.load 6 true (.t 61)) <|
  .prune [59, 62, 50, 52, 4, 3] <|
  eo 63 (.qcall 129 [(.t 59), (.t 62)]) <|
  qo 64 (.nck (.t 50)) <|
  .prune [64, 52, 63, 4, 3] <|
  qo 65 (.fa 0 0 (.t 64)) <|
  qo 66 (.ia 6 6 (.t 65) (.t 52)) <|
  en (.store 6 (.t 66) (.t 63)) <|
  .nil)
  (.prune [4, 3] (.dops <|
  qo 67 (.mv (.t 4)) <|
  qo 68 (.fa 1 1 (.t 3)) <|
  eo 69 (.load 1 false (.t 68)) <|
  qo 70 (.nck (.t 67)) <|
  qo 71 (.ia 6 1 (.t 70) (.t 69)) <|
  .prune [71, 67, 69] <|
  eo 72 (.load 1 false (.t 71)) <|
  qo 73 (.ar .add (.t 72) (I 1)) <|
  qo 74 (.nck (.t 67)) <|
  qo 75 (.ia 6 1 (.t 74) (.t 69)) <|
  en (.store 1 (.t 75) (.t 73)) <|
  .nil)))
  (.seq (.ops <|
  qo 77 (.cmp .eql (.t 12) (I 6)) <|
  qo 76 (.mv (.t 77)) <|
  .nil)
  (.cond (.t 76)
  (.dops <|
  .prune [4, 0, 3] <|
  qo 78 (.mv (.t 4)) <|
  qo 79 (.mv (.t 4)) <|
  qo 80 (.nck (.t 79)) <|
  eo 81 (.load 6 true (.t 80)) <|
  .prune [0, 3, 81, 78] <|
  qo 82 (.mv (.t 0)) <|
  qo 83 (.fa 2 2 (.t 3)) <|
  eo 84 (.load 1 false (.t 83)) <|
  .prune [82, 84, 81, 78] <|
  qo 85 (.nck (.t 82)) <|
  qo 86 (.fa 0 0 (.t 85)) <|
  qo 87 (.ia 6 6 (.t 86) (.t 84)) <|
  .prune [87, 81, 78] <|
  eo 88 (.load 6 true (.t 87)) <|
  eo 89 (.qcall 129 [(.t 81), (.t 88)]) <|
  qo 90 (.nck (.t 78)) <|
  en (.store 6 (.t 90) (.t 89)) <|
  .nil)
  (.seq (.ops <|
  qo 92 (.cmp .eql (.t 12) (I 7)) <|
  qo 91 (.mv (.t 92)) <|
  .nil)
  (.cond (.t 91)
  (.dops <|
  .prune [4, 0, 3] <|
  qo 93 (.mv (.t 4)) <|
  qo 94 (.mv (.t 4)) <|
  qo 95 (.nck (.t 94)) <|
  eo 96 (.load 6 true (.t 95)) <|
  .prune [0, 3, 96, 93] <|
  qo 97 (.mv (.t 0)) <|
  qo 98 (.fa 2 2 (.t 3)) <|
  eo 99 (.load 1 false (.t 98)) <|
  .prune [97, 99, 96, 93] <|
  qo 100 (.nck (.t 97)) <|
  qo 101 (.fa 2 66 (.t 100)) <|
  qo 102 (.ia 4 6 (.t 101) (.t 99)) <|
  .prune [102, 96, 93] <|
  eo 103 (.load 6 true (.t 102)) <|
  eo 104 (.qcall 129 [(.t 96), (.t 103)]) <|
  qo 105 (.nck (.t 93)) <|
  en (.store 6 (.t 105) (.t 104)) <|
  .nil)
  (.seq (.ops <|
  qo 107 (.cmp .eql (.t 12) (I 8)) <|
  qo 106 (.mv (.t 107)) <|
  .nil)
  (.prune [106, 0, 3, 4] (.cond (.t 106)
  (.seq (.dops <|
  qo 108 (.mv (.t 0)) <|
  qo 109 (.fa 2 2 (.t 3)) <|
  eo 110 (.load 1 false (.t 109)) <|
  qo 111 (.mv (.t 0)) <|
  .prune [3, 111, 4, 108, 110] <|
  qo 112 (.fa 2 2 (.t 3)) <|
  eo 113 (.load 1 false (.t 112)) <|
  qo 114 (.nck (.t 111)) <|
  qo 115 (.fa 2 66 (.t 114)) <|
  .prune [115, 113, 4, 108, 110, 3] <|
  qo 116 (.ia 4 6 (.t 115) (.t 113)) <|
  eo 117 (.load 6 true (.t 116)) <|
  .prune [4, 117, 108, 110, 3] <|
  qo 118 (.mv (.t 4)) <|
  qo 119 (.nck (.t 118)) <|
  eo 120 (.load 6 true (.t 119)) <|
  eo 121 (.qcall 129 [(.t 117), (.t 120)]) <|
  .prune [108, 110, 121, 4, 3] <|
  qo 122 (.nck (.t 108)) <|
  qo 123 (.fa 2 66 (.t 122)) <|
  qo 124 (.ia 4 6 (.t 123) (.t 110)) <|
  en (.store 6 (.t 124) (.t 121)) <|
  .nil)
  (.prune [4, 3] (.dops <|
  qo 125 (.mv (.t 4)) <|
  qo 126 (.fa 1 1 (.t 3)) <|
  eo 127 (.load 1 false (.t 126)) <|
  qo 128 (.nck (.t 125)) <|
  qo 129 (.ia 6 1 (.t 128) (.t 127)) <|
  .prune [129, 125, 127] <|
  eo 130 (.load 1 false (.t 129)) <|
  qo 131 (.ar .add (.t 130) (I 1)) <|
  qo 132 (.nck (.t 125)) <|
  qo 133 (.ia 6 1 (.t 132) (.t 127)) <|
  en (.store 1 (.t 133) (.t 131)) <|
  .nil)))
  .skip)))))))))))))))))))
theorem c96 : fnIs Try.prog qall 96 = some (j96.flat, [], 134) := by kernel_rfl
theorem w96 : j96.wf 134 = true := by kernel_rfl
theorem f_Sync (k : Kp) (e : Ev) (he : isEv e = true) : FnOK Try.prog 96 [.ptr 0 [] 0, dEv.emb e] [.blk 171 (dKp.emb k)] (.tup []) [.blk 171 (dKp.emb (syncK k e))] := by
  refine fn_walkF c96 w96 Gwi_ok rfl ?_
  unfold j96
  obtain ⟨b1, b2, b3, b4⟩ := (isEv_iff e).1 he
  obtain ⟨t, ht, ht6⟩ : ∃ t : Nat, e.thr = t ∧ t < 6 := ⟨e.thr.toNat, by omega, by omega⟩
  obtain ⟨o, ho⟩ : ∃ o : Nat, e.obj = o := ⟨e.obj.toNat, by omega⟩
  unfold syncK
  by_cases k3 : e.kind = 3
  · have b5 : o < 5 := by have : e.obj < 5 := by simpa [many, k3] using b4
                          omega
    simp only [go_sem, ↓reduceIte, Nat.reduceAdd, Nat.reduceMul, Nat.reduceSub, Nat.reduceLT, Nat.reduceLeDiff, Nat.reduceEqDiff, Int.reduceToNat, Int.reduceEq, Int.reduceLT, Int.reduceLE, reduceCtorEq, Gwi_eq, tszC, k3, ht, ho, ht6, b5]
    exact ⟨by omega, by omega, rfl⟩
  by_cases k4 : e.kind = 4
  · have b5 : o < 5 := by have : e.obj < 5 := by simpa [many, k4] using b4
                          omega
    simp only [go_sem, ↓reduceIte, Nat.reduceAdd, Nat.reduceMul, Nat.reduceSub, Nat.reduceLT, Nat.reduceLeDiff, Nat.reduceEqDiff, Int.reduceToNat, Int.reduceEq, Int.reduceLT, Int.reduceLE, reduceCtorEq, Gwi_eq, tszC, k4, ht, ho, ht6, b5]
    exact ⟨by omega, by omega, by omega, by omega, rfl⟩
  by_cases k5 : e.kind = 5
  · have b5 : o < 6 := by have : e.obj < 6 := by simpa [many, k5] using b4
                          omega
    simp only [go_sem, ↓reduceIte, Nat.reduceAdd, Nat.reduceMul, Nat.reduceSub, Nat.reduceLT, Nat.reduceLeDiff, Nat.reduceEqDiff, Int.reduceToNat, Int.reduceEq, Int.reduceLT, Int.reduceLE, reduceCtorEq, Gwi_eq, tszC, k5, ht, ho, ht6, b5]
    exact ⟨by omega, by omega, by omega, by omega, by omega, rfl⟩
  by_cases k6 : e.kind = 6
  · have b5 : o < 6 := by have : e.obj < 6 := by simpa [many, k6] using b4
                          omega
    simp only [go_sem, ↓reduceIte, Nat.reduceAdd, Nat.reduceMul, Nat.reduceSub, Nat.reduceLT, Nat.reduceLeDiff, Nat.reduceEqDiff, Int.reduceToNat, Int.reduceEq, Int.reduceLT, Int.reduceLE, reduceCtorEq, Gwi_eq, tszC, k6, ht, ho, ht6, b5]
    exact ⟨by omega, by omega, rfl⟩
  by_cases k7 : e.kind = 7
  · have b5 : o < 4 := by have : e.obj < 4 := by simpa [many, k7] using b4
                          omega
    simp only [go_sem, ↓reduceIte, Nat.reduceAdd, Nat.reduceMul, Nat.reduceSub, Nat.reduceLT, Nat.reduceLeDiff, Nat.reduceEqDiff, Int.reduceToNat, Int.reduceEq, Int.reduceLT, Int.reduceLE, reduceCtorEq, Gwi_eq, tszC, k7, ht, ho, ht6, b5]
    exact ⟨by omega, by omega, rfl⟩
  by_cases k8 : e.kind = 8
  · have b5 : o < 4 := by have : e.obj < 4 := by simpa [many, k8] using b4
                          omega
    simp only [go_sem, ↓reduceIte, Nat.reduceAdd, Nat.reduceMul, Nat.reduceSub, Nat.reduceLT, Nat.reduceLeDiff, Nat.reduceEqDiff, Int.reduceToNat, Int.reduceEq, Int.reduceLT, Int.reduceLE, reduceCtorEq, Gwi_eq, tszC, k8, ht, ho, ht6, b5]
    exact ⟨by omega, by omega, by omega, by omega, by omega, rfl⟩
  simp only [go_sem, ↓reduceIte, Nat.reduceAdd, Nat.reduceMul, Nat.reduceSub, Nat.reduceLT, Nat.reduceLeDiff, Nat.reduceEqDiff, Int.reduceToNat, Int.reduceEq, Int.reduceLT, Int.reduceLE, reduceCtorEq, Gwi_eq, tszC, k3, k4, k5, k6, k7, k8, ht, ho, ht6]
  omega
def seC (f : Nat → Clk) (x t : Nat) (v : Int) : Nat → Clk := fun k j => if k = x then (if j = t then v else f x j) else f k j
theorem same_at (f : Nat → Clk) {k x j : Nat} : (if k = x then f x j else f k j) = f k j := by
  split
  · rename_i h; rw [h]
  · rfl
def accF (v : Vr) (x : Nat) (e : Ev) (c : Clk) : Int :=
  if e.kind = 1 then (if withB (v.wr x) c = true then 0 else 2) else if withB (v.wr x) c = true then (if withB (v.rd x) c = true then 0 else 3) else 1
def accV (v : Vr) (x : Nat) (e : Ev) (c : Clk) : Vr :=
  if e.kind = 1 then ⟨seC v.rd x e.thr.toNat (c e.thr.toNat), v.wr⟩ else ⟨v.rd, seC v.wr x e.thr.toNat (c e.thr.toNat)⟩

def j152 : JC :=
  (.seq (.ops <|
  eo 4 (.box 35 (.t 1)) <|
  eo 5 (.box 166 (.t 2)) <|
  qo 6 (.mv (I 0)) <|
  .nil)
  (.seq (.dops <|
  qo 8 (.mv (.t 0)) <|
  qo 9 (.nck (.t 8)) <|
  qo 10 (.fa 1 6 (.t 9)) <|
  eo 11 (.load 6 true (.t 10)) <|
  eo 12 (.load 6 true (.t 5)) <|
  eo 13 (.qcall 175 [(.t 11), (.t 12)]) <|
  qo 14 (.nt (.t 13)) <|
  qo 7 (.mv (.t 14)) <|
  .nil)
  (.prune [4, 7, 0, 5, 6] (.seq (.seq (.ops <|
  qo 15 (.fa 0 0 (.t 4)) <|
  eo 16 (.load 1 false (.t 15)) <|
  qo 17 (.cmp .eql (.t 16) (I 1)) <|
  .nil)
  (.cond (.t 17)
  (.seq (.seq (.ops <|
  qo 18 (.mv (.t 7)) <|
  .nil)
  (.cond (.t 18)
  (.ops <|
  qo 6 (.mv (I 2)) <|
  .nil)
  .skip))
  (.prune [0, 4, 5, 6] (.seq (.dops <|
  qo 19 (.mv (.t 0)) <|
  qo 20 (.fa 1 1 (.t 4)) <|
  eo 21 (.load 1 false (.t 20)) <|
  qo 22 (.fa 1 1 (.t 4)) <|
  .prune [22, 5, 19, 21, 6] <|
  eo 23 (.load 1 false (.t 22)) <|
  qo 24 (.ia 6 1 (.t 5) (.t 23)) <|
  .prune [24, 19, 21, 6] <|
  eo 25 (.load 1 false (.t 24)) <|
  qo 26 (.nck (.t 19)) <|
  qo 27 (.fa 0 0 (.t 26)) <|
  qo 28 (.ia 6 1 (.t 27) (.t 21)) <|
  en (.store 1 (.t 28) (.t 25)) <|
  .nil)
  (.prune [6] (.seq (.ops <|
  qo 29 (.mv (.t 6)) <|
  qo 6 (.mv (.t 29)) <|
  .nil)
  .ret)))))
  .skip))
  (.prune [7, 0, 4, 5, 6] (.seq (.block 0 (.seq (.ops <|
  qo 31 (.mv (.t 7)) <|
  qo 30 (.mv (.t 31)) <|
  .nil)
  (.cond (.t 30)
  (.ops <|
  qo 6 (.mv (I 1)) <|
  .nil)
  (.seq (.dops <|
  .prune [0, 5, 4, 6] <|
  qo 33 (.mv (.t 0)) <|
  qo 34 (.nck (.t 33)) <|
  qo 35 (.fa 0 0 (.t 34)) <|
  eo 36 (.load 6 true (.t 35)) <|
  .prune [5, 36, 0, 4, 6] <|
  eo 37 (.load 6 true (.t 5)) <|
  eo 38 (.qcall 175 [(.t 36), (.t 37)]) <|
  qo 39 (.nt (.t 38)) <|
  qo 32 (.mv (.t 39)) <|
  .nil)
  (.prune [32, 0, 4, 5, 6] (.cond (.t 32)
  (.ops <|
  qo 6 (.mv (I 3)) <|
  .nil)
  .skip))))))
  (.prune [0, 4, 5, 6] (.seq (.dops <|
  qo 40 (.mv (.t 0)) <|
  qo 41 (.fa 1 1 (.t 4)) <|
  eo 42 (.load 1 false (.t 41)) <|
  qo 43 (.fa 1 1 (.t 4)) <|
  .prune [43, 5, 40, 42, 6] <|
  eo 44 (.load 1 false (.t 43)) <|
  qo 45 (.ia 6 1 (.t 5) (.t 44)) <|
  .prune [45, 40, 42, 6] <|
  eo 46 (.load 1 false (.t 45)) <|
  qo 47 (.nck (.t 40)) <|
  qo 48 (.fa 1 6 (.t 47)) <|
  qo 49 (.ia 6 1 (.t 48) (.t 42)) <|
  en (.store 1 (.t 49) (.t 46)) <|
  .nil)
  (.prune [6] (.seq (.ops <|
  qo 50 (.mv (.t 6)) <|
  qo 6 (.mv (.t 50)) <|
  .nil)
  .ret))))))))))
theorem c152 : fnIs Try.prog qall 152 = some (j152.flat, [.tmp 6], 51) := by kernel_rfl
theorem w152 : j152.wf 51 = true := by kernel_rfl
def Gac (f : FuncId) (a : List SV) (m : List Res) : Sx.Call := (FH.rd 175 (.two dClk dClk) (.one .bool) (fun _ => True) (fun y => withB y.1 y.2.1) FH.none) f a m
theorem Gac_eq (f : FuncId) (a : List SV) (m : List Res) : Gac f a m = (FH.rd 175 (.two dClk dClk) (.one .bool) (fun _ => True) (fun y => withB y.1 y.2.1) FH.none) f a m := nr rfl
theorem Gac_ok : FHOK Try.prog Gac := FH.rd_ok (by kernel_rfl) (fun y _ => f_Within y.1 y.2.1) FH.none_ok
theorem f_access (v : Vr) (x : Nat) (e : Ev) (c : Clk) (hx : x < 8) (he : isEv e = true) : FnOK Try.prog 152 [.ptr 0 [.idx x 8] (x * 12), dEv.emb e, dClk.emb c] [.blk 210 (dVr.emb v)] (.int .i64 (accF v x e c)) [.blk 210 (dVr.emb (accV v x e c))] := by
  refine fn_walkF c152 w152 Gac_ok rfl ?_
  unfold j152
  obtain ⟨b1, b2, b3, b4⟩ := (isEv_iff e).1 he
  obtain ⟨t, ht, ht6⟩ : ∃ t : Nat, e.thr = t ∧ t < 6 := ⟨e.thr.toNat, by omega, by omega⟩
  unfold accF accV
  by_cases k1 : e.kind = 1
  · cases hw : withB (v.wr x) c with
    | true =>
      simp only [go_sem, ↓reduceIte, Nat.reduceAdd, Nat.reduceMul, Nat.reduceSub, Nat.reduceLT, Nat.reduceLeDiff, Nat.reduceEqDiff, Int.reduceToNat, Int.reduceEq, Int.reduceLT, Int.reduceLE, reduceCtorEq, Gac_eq, tszC, k1, ht, ht6, hx, hw, upd_vr]
      exact ⟨by omega, by omega, by simp only [same_at v.wr]; rfl⟩
    | false =>
      simp only [go_sem, ↓reduceIte, Nat.reduceAdd, Nat.reduceMul, Nat.reduceSub, Nat.reduceLT, Nat.reduceLeDiff, Nat.reduceEqDiff, Int.reduceToNat, Int.reduceEq, Int.reduceLT, Int.reduceLE, reduceCtorEq, Gac_eq, tszC, k1, ht, ht6, hx, hw, upd_vr]
      exact ⟨by omega, by omega, by simp only [same_at v.wr]; rfl⟩
  · cases hw : withB (v.wr x) c with
    | true =>
      cases hr : withB (v.rd x) c with
      | true =>
        simp only [go_sem, ↓reduceIte, Nat.reduceAdd, Nat.reduceMul, Nat.reduceSub, Nat.reduceLT, Nat.reduceLeDiff, Nat.reduceEqDiff, Int.reduceToNat, Int.reduceEq, Int.reduceLT, Int.reduceLE, reduceCtorEq, Gac_eq, tszC, k1, ht, ht6, hx, hw, hr, upd_vr]
        exact ⟨by omega, by omega, by simp only [same_at v.rd]; rfl⟩
      | false =>
        simp only [go_sem, ↓reduceIte, Nat.reduceAdd, Nat.reduceMul, Nat.reduceSub, Nat.reduceLT, Nat.reduceLeDiff, Nat.reduceEqDiff, Int.reduceToNat, Int.reduceEq, Int.reduceLT, Int.reduceLE, reduceCtorEq, Gac_eq, tszC, k1, ht, ht6, hx, hw, hr, upd_vr]
        exact ⟨by omega, by omega, by simp only [same_at v.rd]; rfl⟩
    | false =>
      simp only [go_sem, ↓reduceIte, Nat.reduceAdd, Nat.reduceMul, Nat.reduceSub, Nat.reduceLT, Nat.reduceLeDiff, Nat.reduceEqDiff, Int.reduceToNat, Int.reduceEq, Int.reduceLT, Int.reduceLE, reduceCtorEq, Gac_eq, tszC, k1, ht, ht6, hx, hw, upd_vr]
      exact ⟨by omega, by omega, by simp only [same_at v.rd]; rfl⟩
theorem tszV : tsz Try.prog 210 = some (96, true) := by kernel_rfl
def isAcc (e : Ev) : Bool := decide (e.kind = 1) || decide (e.kind = 2)
def runK (l : List Ev) : Nat → Kp
  | 0 => newK 6
  | i + 1 => if isAcc (l.getD i dEv.dft) = true then runK l i else syncK (runK l i) (l.getD i dEv.dft)
def runV (l : List Ev) : Nat → Vr
  | 0 => ⟨fun _ _ => 0, fun _ _ => 0⟩
  | i + 1 => if isAcc (l.getD i dEv.dft) = true then accV (runV l i) (l.getD i dEv.dft).obj.toNat (l.getD i dEv.dft) ((runK l i).thr (l.getD i dEv.dft).thr.toNat) else runV l i
def flagOf (l : List Ev) (i : Nat) : Int := if isAcc (l.getD i dEv.dft) = true then accF (runV l i) (l.getD i dEv.dft).obj.toNat (l.getD i dEv.dft) ((runK l i).thr (l.getD i dEv.dft).thr.toNat) else 0
def runL (l : List Ev) : Nat → List Fl
  | 0 => []
  | i + 1 => runL l i ++ if flagOf l i = 0 then [] else [⟨i, (l.getD i dEv.dft).obj, flagOf l i⟩]
theorem runL_len {l : List Ev} : ∀ i, (runL l i).length ≤ i
  | 0 => Nat.le_refl _
  | i + 1 => by
    have := runL_len (l := l) i
    rw [runL, List.length_append]
    split <;> simp <;> omega
def j128_1 : JC :=
  (.seq (.ops <|
  qo 12 (.cmp .lss (.t 11) (.t 10)) <|
  .nil)
  (.seq (.cond (.t 12)
  .skip
  (.exit 0))
  (.seq (.block 1 (.seq (.ops <|
  qo 13 (.mv (.t 11)) <|
  qo 14 (.is 3 (.t 9) (.t 11)) <|
  eo 15 (.load 3 true (.t 14)) <|
  eo 6 (.alloc 35 (.agg [(.int .i64 0), (.int .i64 0), (.int .i64 0)])) <|
  qo 5 (.mv (.t 13)) <|
  en (.store 3 (.t 6) (.t 15)) <|
  .nil)
  (.prune [6, 4, 11, 10, 9, 3, 2, 5] (.seq (.seq (.ops <|
  qo 16 (.fa 0 0 (.t 6)) <|
  eo 17 (.load 1 false (.t 16)) <|
  qo 18 (.cmp .neq (.t 17) (I 1)) <|
  qo 19 (.mv (.t 18)) <|
  .prune [19, 6, 4, 11, 10, 9, 3, 2, 5] <|
  .sc false 23 19 (qo 20 (.fa 0 0 (.t 6)) <|
  eo 21 (.load 1 false (.t 20)) <|
  qo 22 (.cmp .neq (.t 21) (I 2)) <|
  .nil) (.t 22) <|
  .nil)
  (.prune [23, 4, 6, 11, 10, 9, 3, 2, 5] (.cond (.t 23)
  (.seq (.ops <|
  qo 24 (.mv (.t 4)) <|
  eo 25 (.load 3 true (.t 6)) <|
  eo 26 (.call 96 [(.t 24), (.t 25)]) <|
  .nil)
  (.exit 1))
  .skip)))
  (.prune [6, 3, 4, 2, 5, 11, 10, 9] (.seq (.dops <|
  qo 27 (.fa 2 2 (.t 6)) <|
  eo 28 (.load 1 false (.t 27)) <|
  qo 29 (.ia 8 12 (.t 3) (.t 28)) <|
  eo 30 (.load 3 true (.t 6)) <|
  qo 31 (.mv (.t 4)) <|
  qo 32 (.fa 1 1 (.t 6)) <|
  eo 33 (.load 1 false (.t 32)) <|
  .prune [31, 33, 29, 30, 2, 5, 6, 11, 10, 9, 4, 3] <|
  qo 34 (.nck (.t 31)) <|
  qo 35 (.fa 0 0 (.t 34)) <|
  qo 36 (.ia 6 6 (.t 35) (.t 33)) <|
  .prune [36, 29, 30, 2, 5, 6, 11, 10, 9, 4, 3] <|
  eo 37 (.load 6 true (.t 36)) <|
  eo 38 (.call 152 [(.t 29), (.t 30), (.t 37)]) <|
  qo 7 (.mv (.t 38)) <|
  .nil)
  (.prune [7, 2, 5, 6, 11, 10, 9, 4, 3] (.seq (.ops <|
  qo 39 (.mv (.t 7)) <|
  qo 40 (.cmp .neq (.t 39) (I 0)) <|
  .nil)
  (.prune [40, 2, 5, 6, 7, 11, 10, 9, 4, 3] (.cond (.t 40)
  (.ops <|
  qo 41 (.mv (.t 2)) <|
  qo 42 (.mv (.t 5)) <|
  .prune [6, 7, 42, 41, 11, 10, 9, 4, 3] <|
  qo 43 (.fa 2 2 (.t 6)) <|
  eo 44 (.load 1 false (.t 43)) <|
  qo 45 (.mv (.t 7)) <|
  .prune [42, 44, 45, 41, 11, 10, 9, 4, 3] <|
  qo 46 (.bld (.agg [(.int .i64 0), (.int .i64 0), (.int .i64 0)]) [([.fld 0], 0, 1, (.t 42)), ([.fld 1], 1, 1, (.t 44)), ([.fld 2], 2, 1, (.t 45))]) <|
  .prune [46, 41, 11, 10, 9, 4, 3] <|
  eo 47 (.bsl 47 3 1 (.agg [(.int .i64 0), (.int .i64 0), (.int .i64 0)]) [(0, (.t 46))]) <|
  eo 48 (.app 47 3 24 (.t 41) (.t 47)) <|
  qo 2 (.mv (.t 48)) <|
  .nil)
  .skip))))))))))
  (.prune [11, 10, 9, 4, 3, 2] (.ops <|
  qo 49 (.ar .add (.t 11) (I 1)) <|
  qo 11 (.mv (.t 49)) <|
  .nil)))))
def j128_2 : JC :=
  (.prune [2, 3] (.seq (.dops <|
  qo 50 (.mv (.t 2)) <|
  eo 51 (.load 96 true (.t 3)) <|
  qo 2 (.mv (.t 50)) <|
  en (.store 96 (.t 3) (.t 51)) <|
  .nil)
  (.vecs 2 47 3 .ret)))
def j128 : JC :=
  (.seq (.ops <|
  qo 2 (.mv (.c .nils)) <|
  eo 3 (.alloc 210 (.arr 8 12 fun _ => (.agg [(.arr 6 1 fun _ => (.int .i64 0)), (.arr 6 1 fun _ => (.int .i64 0))]))) <|
  .nil)
  (.seq (.ops <|
  eo 8 (.call 95 []) <|
  qo 4 (.mv (.t 8)) <|
  .nil)
  (.seq (.seq (.ops <|
  qo 9 (.mv (.t 0)) <|
  qo 10 (.len (.t 9)) <|
  qo 11 (.mv (I 0)) <|
  .nil)
  (.block 0 (.vecs 2 47 3 (.loop [10, 9, 4, 3] [11, 2] j128_1))))
  j128_2)))
theorem c128 : fnIs Try.prog (qbut [152]) 128 = some (j128.flat, [.tmp 2, .cell 3 210], 52) := by kernel_rfl
theorem w128 : j128.wf 52 = true := by kernel_rfl
def Grn (f : FuncId) (a : List SV) (m : List Res) : Sx.Call := (FH.mk 95 .nil (fun _ => True) (fun _ => .ptr 0 [] 0) (fun _ => [.blk 171 (dKp.emb (newK 6))]) <|
  FH.mt 96 171 dKp (.one dEv) DR.unit (fun _ y => isEv y.1 = true) (fun _ _ => ()) (fun k y => syncK k y.1) <|
  FH.mp 152 210 8 12 dVr (.two dEv dClk) (.one .int) (fun _ x y => x < 8 ∧ isEv y.1 = true) (fun v x y => accF v x y.1 y.2.1) (fun v x y => accV v x y.1 y.2.1) FH.none) f a m
theorem Grn_eq (f : FuncId) (a : List SV) (m : List Res) : Grn f a m = (FH.mk 95 .nil (fun _ => True) (fun _ => .ptr 0 [] 0) (fun _ => [.blk 171 (dKp.emb (newK 6))]) <|
  FH.mt 96 171 dKp (.one dEv) DR.unit (fun _ y => isEv y.1 = true) (fun _ _ => ()) (fun k y => syncK k y.1) <|
  FH.mp 152 210 8 12 dVr (.two dEv dClk) (.one .int) (fun _ x y => x < 8 ∧ isEv y.1 = true) (fun v x y => accF v x y.1 y.2.1) (fun v x y => accV v x y.1 y.2.1) FH.none) f a m := nr rfl
theorem Grn_ok : FHOK Try.prog Grn := FH.mk_ok (by kernel_rfl) (fun _ _ => plainM (pv_ptr _ _ _) ⟨plR_blk _ dKp _, trivial⟩) (fun _ _ => f_New) <|
  FH.mt_ok (by kernel_rfl) (fun k y h => f_Sync k y.1 h) <| FH.mp_ok (by kernel_rfl) (fun v x y h => f_access v x y.1 y.2.1 h.1 h.2) FH.none_ok
theorem f_run (l : List Ev) (hok : (checkR l).2 = 0) : FnOK Try.prog 128 [dEs.emb l] [] (.tup [.vec 0 (runL l l.length).length, dVr.emb (runV l l.length)]) [.vec 47 3 ((runL l l.length).map dFl.emb)] := by
  have hl := ok_len hok
  refine fn_walkF c128 w128 Grn_ok rfl ?_
  unfold j128
  simp only [go_sem, ↓reduceIte, Nat.reduceAdd, Nat.reduceMul, Nat.reduceSub, Nat.reduceLT, Nat.reduceLeDiff, Nat.reduceEqDiff, Int.reduceToNat, Int.reduceEq, Int.reduceLT, Int.reduceLE, reduceCtorEq, Grn_eq]
  refine loopF Nat (fun i => [.int .i64 i, .vec 2 (runL l i).length]) (fun i => [.blk 210 (dVr.emb (runV l i)), .blk 171 (dKp.emb (runK l i)), .vec 47 3 ((runL l i).map dFl.emb)]) (fun i => i ≤ l.length) (fun i => l.length - i) 0 (by omega) ?_ rfl ?_
  · simp only [go_sem, ↓reduceIte, Nat.reduceAdd, Nat.reduceMul, Nat.reduceSub, Nat.reduceLT, Nat.reduceLeDiff, Nat.reduceEqDiff, Int.reduceToNat, Int.reduceEq, Int.reduceLT, Int.reduceLE, reduceCtorEq]
    rfl
  intro i hi
  by_cases h1 : i < l.length
  · have h1' : (i : Int) < l.length := by omega
    have hw : IntKind.i64.wrap ((i : Int) + 1) = ((i + 1 : Nat) : Int) := IntWalk.i64_in _ (by omega)
    have he := ok_isEv hok i h1
    obtain ⟨b1, b2, b3, b4⟩ := (isEv_iff _).1 he
    obtain ⟨t, ht, ht6⟩ : ∃ t : Nat, (l.getD i dEv.dft).thr = t ∧ t < 6 := ⟨(l.getD i dEv.dft).thr.toNat, by omega, by omega⟩
    obtain ⟨o, ho⟩ : ∃ o : Nat, (l.getD i dEv.dft).obj = o := ⟨(l.getD i dEv.dft).obj.toNat, by omega⟩
    have hlen := runL_len (l := l) i
    cases ha : isAcc (l.getD i dEv.dft) with
    | false =>
      have ha' := ha
      simp only [isAcc, Bool.or_eq_false_iff, decide_eq_false_iff_not] at ha'
      have k1 := ha'.1
      have k2 := ha'.2
      have hf : flagOf l i = 0 := by rw [flagOf, if_neg (by rw [ha]; simp)]
      unfold j128_1
      simp only [go_sem, ↓reduceIte, Nat.reduceAdd, Nat.reduceMul, Nat.reduceSub, Nat.reduceLT, Nat.reduceLeDiff, Nat.reduceEqDiff, Int.reduceToNat, Int.reduceEq, Int.reduceLT, Int.reduceLE, reduceCtorEq, Grn_eq, h1, h1', hw, k1, k2, he]
      have hrv : runV l (i + 1) = runV l i := by rw [runV, if_neg (by rw [ha]; simp)]
      have hrk : runK l (i + 1) = syncK (runK l i) (l.getD i dEv.dft) := by rw [runK, if_neg (by rw [ha]; simp)]
      have hrl : runL l (i + 1) = runL l i := by rw [runL, if_pos hf, List.append_nil]
      exact ⟨by omega, i + 1, by omega, by omega, ⟨rfl, by rw [hrl]⟩, by rw [hrv, hrk, hrl]⟩
    | true =>
      have ho8 : o < 8 := by
        have : many (l.getD i dEv.dft).kind = 8 := by
          simp only [isAcc, Bool.or_eq_true, decide_eq_true_eq] at ha
          simp only [many, if_pos ha]
        omega
      have hnk : (!decide ((l.getD i dEv.dft).kind = 1) && !decide ((l.getD i dEv.dft).kind = 2)) = false := by
        simp only [isAcc, Bool.or_eq_true, decide_eq_true_eq] at ha
        rcases ha with ha | ha <;> rw [ha] <;> decide
      have hfl : flagOf l i = accF (runV l i) o (l.getD i dEv.dft) ((runK l i).thr t) := by rw [flagOf, if_pos ha, ht, ho, Int.toNat_natCast, Int.toNat_natCast]
      have hev : (⟨(l.getD i dEv.dft).kind, (t : Int), (o : Int)⟩ : Ev) = l.getD i dEv.dft := by rw [← ht, ← ho]
      have hav : accV (runV l i) o (l.getD i dEv.dft) ((runK l i).thr t) = runV l (i + 1) := by rw [runV, if_pos ha, ht, ho, Int.toNat_natCast, Int.toNat_natCast]
      have hrk : runK l (i + 1) = runK l i := by rw [runK, if_pos ha]
      by_cases hf : flagOf l i = 0
      · unfold j128_1
        simp only [go_sem, ↓reduceIte, Nat.reduceAdd, Nat.reduceMul, Nat.reduceSub, Nat.reduceLT, Nat.reduceLeDiff, Nat.reduceEqDiff, Int.reduceToNat, Int.reduceEq, Int.reduceLT, Int.reduceLE, reduceCtorEq, Grn_eq, h1, h1', hw, hnk, he, ht, ho, ht6, ho8, hev, hav, hfl.symm, hf]
        have hrl : runL l (i + 1) = runL l i := by rw [runL, if_pos hf, List.append_nil]
        exact ⟨by omega, by omega, by omega, i + 1, by omega, by omega, ⟨rfl, by rw [hrl]⟩, by rw [hrk, hrl]⟩
      · unfold j128_1
        simp only [go_sem, ↓reduceIte, Nat.reduceAdd, Nat.reduceMul, Nat.reduceSub, Nat.reduceLT, Nat.reduceLeDiff, Nat.reduceEqDiff, Int.reduceToNat, Int.reduceEq, Int.reduceLT, Int.reduceLE, reduceCtorEq, Grn_eq, h1, h1', hw, hnk, he, ht, ho, ht6, ho8, hev, hav, hfl.symm, hf]
        have hrl : runL l (i + 1) = runL l i ++ [⟨i, o, flagOf l i⟩] := by rw [runL, if_neg hf, ho]
        exact ⟨by omega, by omega, by omega, by omega, i + 1, by omega, by omega, ⟨rfl, by rw [hrl, List.length_append]; rfl⟩, by rw [hrk, hrl, List.map_append]; rfl⟩
  · have h1' : ¬ (i : Int) < l.length := by omega
    have e : i = l.length := by omega
    subst e
    unfold j128_1
    simp only [go_sem, ↓reduceIte, Nat.reduceAdd, Nat.reduceMul, Nat.reduceSub, Nat.reduceLT, Nat.reduceLeDiff, Nat.reduceEqDiff, Int.reduceToNat, Int.reduceEq, Int.reduceLT, Int.reduceLE, reduceCtorEq, h1']
    unfold j128_2
    simp only [go_sem, ↓reduceIte, Nat.reduceAdd, Nat.reduceMul, Nat.reduceSub, Nat.reduceLT, Nat.reduceLeDiff, Nat.reduceEqDiff, Int.reduceToNat, Int.reduceEq, Int.reduceLT, Int.reduceLE, reduceCtorEq, tszV]
def runF (l : List Ev) : List Fl := if (playedF l).2.2 = 0 then runL l l.length else []

def j88 : JC :=
  (.seq (.ops <|
  qo 2 (.mv (.c .nils)) <|
  qo 3 (.mv (I 0)) <|
  .nil)
  (.seq (.seq (.ops <|
  qo 9 (.mv (.t 0)) <|
  eo 10 (.call 59 [(.t 9)]) <|
  qo 8 (.mv (.t 10)) <|
  qo 11 (.ext 0 (.t 8)) <|
  qo 12 (.ext 1 (.t 8)) <|
  qo 4 (.mv (.t 11)) <|
  qo 5 (.mv (.t 12)) <|
  .nil)
  (.seq (.ops <|
  qo 13 (.mv (.t 5)) <|
  qo 14 (.cmp .neq (.t 13) (I 0)) <|
  .nil)
  (.prune [14, 5, 0] (.cond (.t 14)
  (.seq (.ops <|
  qo 15 (.mv (.t 5)) <|
  qo 2 (.mv (.c .nils)) <|
  qo 3 (.mv (.t 15)) <|
  .nil)
  (.vecs 2 47 3 .ret))
  .skip))))
  (.prune [0] (.seq (.ops <|
  qo 17 (.mv (.t 0)) <|
  eo 18 (.call 128 [(.t 17)]) <|
  qo 16 (.mv (.t 18)) <|
  qo 19 (.ext 0 (.t 16)) <|
  qo 20 (.ext 1 (.t 16)) <|
  eo 7 (.alloc 210 (.arr 8 12 fun _ => (.agg [(.arr 6 1 fun _ => (.int .i64 0)), (.arr 6 1 fun _ => (.int .i64 0))]))) <|
  qo 6 (.mv (.t 19)) <|
  en (.store 96 (.t 7) (.t 20)) <|
  .nil)
  (.seq (.ops <|
  .prune [6] <|
  qo 21 (.mv (.t 6)) <|
  qo 2 (.mv (.t 21)) <|
  qo 3 (.mv (I 0)) <|
  .nil)
  (.vecs 2 47 3 .ret))))))
theorem c88 : fnIs Try.prog qall 88 = some (j88.flat, [.tmp 2, .tmp 3], 22) := by kernel_rfl
theorem w88 : j88.wf 22 = true := by kernel_rfl
def Gfr (f : FuncId) (a : List SV) (m : List Res) : Sx.Call := (FH.rd 59 (.one dEs) (.two .int .int) (fun _ => True) (fun y => (playedF y.1).2) <|
  FH.mk 128 (.one dEs) (fun y => (checkR y.1).2 = 0) (fun y => .tup [.vec 0 (runL y.1 y.1.length).length, dVr.emb (runV y.1 y.1.length)]) (fun y => [.vec 47 3 ((runL y.1 y.1.length).map dFl.emb)]) FH.none) f a m
theorem Gfr_eq (f : FuncId) (a : List SV) (m : List Res) : Gfr f a m = (FH.rd 59 (.one dEs) (.two .int .int) (fun _ => True) (fun y => (playedF y.1).2) <|
  FH.mk 128 (.one dEs) (fun y => (checkR y.1).2 = 0) (fun y => .tup [.vec 0 (runL y.1 y.1.length).length, dVr.emb (runV y.1 y.1.length)]) (fun y => [.vec 47 3 ((runL y.1 y.1.length).map dFl.emb)]) FH.none) f a m := nr rfl
theorem Gfr_ok : FHOK Try.prog Gfr := FH.rd_ok (by kernel_rfl) (fun y _ => f_Check y.1) <|
  FH.mk_ok (by kernel_rfl) (fun y _ => plainM (pv_tup ⟨plV_vec _ _, plV_emb dVr _, trivial⟩) ⟨plR_vec _ _ dFl _, trivial⟩) (fun y h => f_run y.1 h) FH.none_ok
theorem f_Run (l : List Ev) : FnOK Try.prog 88 [dEs.emb l] [] (.tup [.vec 0 (runF l).length, .int .i64 (playedF l).2.2]) [.vec 47 3 ((runF l).map dFl.emb)] := by
  refine fn_walkF c88 w88 Gfr_ok rfl ?_
  unfold j88
  by_cases h0 : (playedF l).2.2 = 0
  · have h1 : (checkR l).2 = 0 := by rw [← played_check]; exact h0
    have hr : runF l = runL l l.length := by rw [runF, if_pos h0]
    rw [hr]
    simp only [go_sem, ↓reduceIte, Nat.reduceAdd, Nat.reduceMul, Nat.reduceSub, Nat.reduceLT, Nat.reduceLeDiff, Nat.reduceEqDiff, Int.reduceToNat, Int.reduceEq, Int.reduceLT, Int.reduceLE, reduceCtorEq, Gfr_eq, h0, h1, tszV]
  · have hr : runF l = [] := by rw [runF, if_neg h0]
    rw [hr]
    simp only [go_sem, ↓reduceIte, Nat.reduceAdd, Nat.reduceMul, Nat.reduceSub, Nat.reduceLT, Nat.reduceLeDiff, Nat.reduceEqDiff, Int.reduceToNat, Int.reduceEq, Int.reduceLT, Int.reduceLE, reduceCtorEq, Gfr_eq, h0, tszV]
end Go.Proofs.Ytgcbhanfhnianaa.Fu
