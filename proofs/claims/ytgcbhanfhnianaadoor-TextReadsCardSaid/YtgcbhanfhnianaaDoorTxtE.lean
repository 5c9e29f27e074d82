/- The event of a line. Conditions: none. -/
import Derived.Test.YtgcbhanfhnianaaDoorTxtL
import Derived.Test.YtgcbhanfhnianaaDoorSx42
set_option linter.unusedSimpArgs false
set_option linter.unusedVariables false
set_option maxRecDepth 100000
open Go Go.Sx Go.Proofs
namespace Go.Proofs.YtgcbhanfhnianaaDoor.Tx
open Go.Proofs.YtgcbhanfhnianaaDoor.D Go.Proofs.YtgcbhanfhnianaaDoor.Tr
theorem dig_inj {a b : Nat} (ha : a < 10) (hb : b < 10) (h : UInt8.ofNat (48 + a) = UInt8.ofNat (48 + b)) : a = b := by
  have := congrArg UInt8.toNat h
  simp only [UInt8.toNat_ofNat'] at this
  omega
theorem line_is {e : Ev} (h : isEv e = true) : lineB e = 116 :: UInt8.ofNat (48 + e.thr.toNat) :: 32 :: (wordB e.kind ++ 32 :: (lettB e.kind ++ [UInt8.ofNat (48 + e.obj.toNat)])) := by
  obtain ⟨h1, h2, h3, h4⟩ := (isEv_iff e).1 h
  have hm := many_le e.kind
  have d1 := dig_len (n := e.thr.toNat) (by omega)
  have d2 := dig_len (n := e.obj.toNat) (by omega)
  rw [lineB, d1, d2]
  simp
/-- A line tells its event. -/
theorem line_inj {e e' : Ev} (h : isEv e = true) (h' : isEv e' = true) (hl : lineB e = lineB e') : e = e' := by
  rw [line_is h, line_is h'] at hl
  obtain ⟨h1, h2, h3, h4⟩ := (isEv_iff e).1 h
  obtain ⟨g1, g2, g3, g4⟩ := (isEv_iff e').1 h'
  have hm := many_le e.kind
  have hm' := many_le e'.kind
  have hk := kind_is h
  have hk' := kind_is h'
  simp only [List.cons.injEq, true_and] at hl
  obtain ⟨ht, hr⟩ := hl
  have et := dig_inj (by omega) (by omega) ht
  have ko : e.kind = e'.kind ∧ UInt8.ofNat (48 + e.obj.toNat) = UInt8.ofNat (48 + e'.obj.toNat) := by
    rcases hk with k | k | k | k | k | k | k | k <;> rcases hk' with k' | k' | k' | k' | k' | k' | k' | k' <;> rw [k, k'] at hr ⊢ <;> simp [wordB, lettB] at hr ⊢ <;> exact hr
  have eo := dig_inj (by omega) (by omega) ko.2
  obtain ⟨a, b, c⟩ := e
  obtain ⟨a', b', c'⟩ := e'
  simp only at et eo ko h1 h3 g1 g3
  obtain ⟨rfl, _⟩ := ko
  obtain rfl : b = b' := by omega
  obtain rfl : c = c' := by omega
  rfl
def allE : List Ev := (List.range 8).flatMap fun (k : Nat) => (List.range 6).flatMap fun (t : Nat) => (List.range 8).map fun (o : Nat) => (⟨(k : Int) + 1, t, o⟩ : Ev)
def hitE (s : By) (e : Ev) : Bool := isEv e && decide (lineB e = s)
def eventF (s : By) : Ev × Int := match allE.find? (hitE s) with
  | some e => (e, 0)
  | none => (⟨0, 0, 0⟩, 3)
theorem mem_allE {e : Ev} (h : isEv e = true) : e ∈ allE := by
  obtain ⟨h1, h2, h3, h4⟩ := (isEv_iff e).1 h
  have hm := many_le e.kind
  have hk := kind_is h
  refine List.mem_flatMap.2 ⟨(e.kind - 1).toNat, List.mem_range.2 (by omega), List.mem_flatMap.2 ⟨e.thr.toNat, List.mem_range.2 (by omega), List.mem_map.2 ⟨e.obj.toNat, List.mem_range.2 (by omega), ?_⟩⟩⟩
  obtain ⟨a, b, c⟩ := e
  simp only at h1 h3 hk ⊢
  rw [show (((a - 1).toNat : Nat) : Int) + 1 = a by omega, show ((b.toNat : Nat) : Int) = b by omega, show ((c.toNat : Nat) : Int) = c by omega]
theorem event_hit {e : Ev} {s : By} (h : isEv e = true) (hl : lineB e = s) : eventF s = (e, 0) := by
  unfold eventF
  cases hf : allE.find? (hitE s) with
  | none =>
    have := List.find?_eq_none.1 hf e (mem_allE h)
    simp [hitE, h, hl] at this
  | some e' =>
    have := List.find?_some hf
    simp only [hitE, Bool.and_eq_true, decide_eq_true_eq] at this
    rw [line_inj this.1 h (this.2.trans hl.symm)]
theorem event_none {s : By} (h : ∀ e, isEv e = true → lineB e ≠ s) : eventF s = (⟨0, 0, 0⟩, 3) := by
  unfold eventF
  cases hf : allE.find? (hitE s) with
  | none => rfl
  | some e' =>
    have := List.find?_some hf
    simp only [hitE, Bool.and_eq_true, decide_eq_true_eq] at this
    exact absurd this.2 (h e' this.1)
def j12_1 : JC :=
  (.seq (.ops <|
  qo 18 (.cmp .lss (.t 17) (I 8)) <|
  .nil)
  (.seq (.cond (.t 18)
  .skip
  (.exit 4))
  (.seq (.block 5 (.seq (.ops <|
  qo 19 (.mv (.t 17)) <|
  qo 6 (.mv (.t 19)) <|
  .nil)
  (.seq (.ops <|
  qo 20 (.mv (.t 4)) <|
  qo 21 (.mv (.t 5)) <|
  qo 22 (.mv (.t 6)) <|
  .prune [20, 21, 22, 0, 2, 17, 4, 5, 14] <|
  qo 23 (.bld (.agg [(.int .i64 0), (.int .i64 0), (.int .i64 0)]) [([.fld 0], 0, 1, (.t 20)), ([.fld 1], 1, 1, (.t 21)), ([.fld 2], 2, 1, (.t 22))]) <|
  eo 7 (.alloc 29 (.agg [(.int .i64 0), (.int .i64 0), (.int .i64 0)])) <|
  en (.store 3 (.t 7) (.t 23)) <|
  .nil)
  (.prune [7, 0, 2, 17, 4, 5, 14] (.seq (.ops <|
  eo 25 (.load 3 true (.t 7)) <|
  eo 26 (.call 10 [(.t 25)]) <|
  qo 24 (.mv (.t 26)) <|
  qo 27 (.ext 0 (.t 24)) <|
  qo 28 (.ext 1 (.t 24)) <|
  qo 8 (.mv (.t 27)) <|
  qo 9 (.mv (.t 28)) <|
  .nil)
  (.prune [9, 8, 0, 7, 2, 17, 4, 5, 14] (.seq (.ops <|
  qo 29 (.mv (.t 9)) <|
  qo 30 (.cmp .eql (.t 29) (I 0)) <|
  qo 31 (.mv (.t 30)) <|
  .prune [31, 8, 0, 7, 2, 17, 4, 5, 14] <|
  .sc false 35 31 (qo 32 (.mv (.t 8)) <|
  qo 33 (.mv (.t 0)) <|
  qo 34 (.seq false (.t 32) (.t 33)) <|
  .nil) (.t 34) <|
  .nil)
  (.prune [35, 7, 2, 17, 4, 5, 0, 14] (.cond (.t 35)
  (.seq (.ops <|
  .prune [7, 2] <|
  eo 36 (.load 3 true (.t 7)) <|
  en (.store 3 (.t 2) (.t 36)) <|
  qo 3 (.mv (I 0)) <|
  .nil)
  .ret)
  .skip)))))))))
  (.prune [17, 4, 5, 0, 2, 14] (.ops <|
  qo 37 (.ar .add (.t 17) (I 1)) <|
  qo 17 (.mv (.t 37)) <|
  .nil)))))
def j12_2 : JC :=
  (.prune [14, 4, 0, 2] (.ops <|
  qo 38 (.ar .add (.t 14) (I 1)) <|
  qo 14 (.mv (.t 38)) <|
  .nil))
def j12_3 : JC :=
  (.seq (.ops <|
  qo 15 (.cmp .lss (.t 14) (I 6)) <|
  .nil)
  (.seq (.cond (.t 15)
  .skip
  (.exit 2))
  (.seq (.block 3 (.seq (.ops <|
  qo 16 (.mv (.t 14)) <|
  qo 5 (.mv (.t 16)) <|
  .nil)
  (.seq (.ops <|
  qo 17 (.mv (I 0)) <|
  .nil)
  (.block 4 (.loop [4, 5, 0, 2, 14] [17] j12_1)))))
  j12_2)))
def j12_4 : JC :=
  (.prune [4, 0, 2] (.ops <|
  qo 12 (.mv (.t 4)) <|
  qo 13 (.ar .add (.t 12) (I 1)) <|
  qo 4 (.mv (.t 13)) <|
  .nil))
def j12_5 : JC :=
  (.seq (.seq (.ops <|
  qo 10 (.mv (.t 4)) <|
  qo 11 (.cmp .leq (.t 10) (I 8)) <|
  .nil)
  (.cond (.t 11)
  .skip
  (.exit 0)))
  (.seq (.block 1 (.seq (.ops <|
  qo 14 (.mv (I 0)) <|
  .nil)
  (.block 2 (.loop [4, 0, 2] [14] j12_3))))
  j12_4))
def j12_6 : JC :=
  (.prune [2] (.seq (.ops <|
  qo 39 (.bld (.agg [(.int .i64 0), (.int .i64 0), (.int .i64 0)]) []) <|
  en (.store 3 (.t 2) (.t 39)) <|
  qo 3 (.mv (I 3)) <|
  .nil)
  .ret))
def j12 : JC :=
  (.seq (.ops <|
  eo 2 (.alloc 29 (.agg [(.int .i64 0), (.int .i64 0), (.int .i64 0)])) <|
  qo 3 (.mv (I 0)) <|
  .nil)
  (.seq (.seq (.ops <|
  qo 4 (.mv (I 1)) <|
  .nil)
  (.block 0 (.loop [0, 2] [4] j12_5)))
  j12_6))
theorem c12 : fnIs Tryd.prog qall 12 = some (j12.flat, [.cell 2 29, .tmp 3], 40) := by kernel_rfl
theorem w12 : j12.wf 40 = true := by kernel_rfl
def Gev (f : FuncId) (a : List SV) (m : List Res) : Sx.Call := (FH.rd 10 (.one dEv) (.two .str .int) (fun _ => True) (fun y => lineF y.1) FH.none) f a m
theorem Gev_eq (f : FuncId) (a : List SV) (m : List Res) : Gev f a m = (FH.rd 10 (.one dEv) (.two .str .int) (fun _ => True) (fun y => lineF y.1) FH.none) f a m := nr rfl
theorem Gev_ok : FHOK Tryd.prog Gev := FH.rd_ok (by kernel_rfl) (fun y _ => f_RLine y.1) FH.none_ok
theorem tszEv : tsz Tryd.prog 29 = some (3, true) := by kernel_rfl
abbrev zE : Ev := ⟨0, 0, 0⟩
theorem hit_line {e : Ev} {s : By} : (decide ((lineF e).2 = 0) && decide ((lineF e).1 = s)) = true ↔ isEv e = true ∧ lineB e = s := by
  unfold lineF
  cases h : isEv e <;> simp
theorem f_EventOf (s : By) : FnOK Tryd.prog 12 [.str s] [] (.tup [dEv.emb (eventF s).1, .int .i64 (eventF s).2]) [] := by
  refine fn_walkF c12 w12 Gev_ok rfl ?_
  unfold j12
  simp only [go_sem, ↓reduceIte, Nat.reduceAdd, Nat.reduceMul, Nat.reduceSub, Nat.reduceLT, Nat.reduceLeDiff, Nat.reduceEqDiff, Int.reduceToNat, Int.reduceEq, Int.reduceLT, Int.reduceLE, reduceCtorEq]
  refine loopF Nat (fun k => [.int .i64 k]) (fun _ => [.blk 29 (dEv.emb zE)]) (fun k => 1 ≤ k ∧ k ≤ 9 ∧ ∀ e, isEv e = true → lineB e = s → (k : Int) ≤ e.kind) (fun k => 9 - k) 1 ⟨by omega, by omega, fun e he _ => by have := kind_is he; omega⟩ ?_ ?_ ?_
  · simp only [go_sem, ↓reduceIte, Nat.reduceAdd, Nat.reduceMul, Nat.reduceSub, Nat.reduceLT, Nat.reduceLeDiff, Nat.reduceEqDiff, Int.reduceToNat, Int.reduceEq, Int.reduceLT, Int.reduceLE, reduceCtorEq]
  · rfl
  rintro k ⟨hk1, hk9, hk⟩
  by_cases h8 : k ≤ 8
  · have h8' : (k : Int) ≤ 8 := by omega
    unfold j12_5
    simp only [go_sem, ↓reduceIte, Nat.reduceAdd, Nat.reduceMul, Nat.reduceSub, Nat.reduceLT, Nat.reduceLeDiff, Nat.reduceEqDiff, Int.reduceToNat, Int.reduceEq, Int.reduceLT, Int.reduceLE, reduceCtorEq, h8']
    refine loopF Nat (fun t => [.int .i64 t]) (fun _ => [.blk 29 (dEv.emb zE)]) (fun t => t ≤ 6 ∧ ∀ e, isEv e = true → lineB e = s → e.kind = k → (t : Int) ≤ e.thr) (fun t => 6 - t) 0 ⟨by omega, fun e he _ _ => ((isEv_iff e).1 he).1⟩ ?_ ?_ ?_
    · simp only [go_sem, ↓reduceIte, Nat.reduceAdd, Nat.reduceMul, Nat.reduceSub, Nat.reduceLT, Nat.reduceLeDiff, Nat.reduceEqDiff, Int.reduceToNat, Int.reduceEq, Int.reduceLT, Int.reduceLE, reduceCtorEq]
    · rfl
    rintro t ⟨ht6, ht⟩
    by_cases h6 : t < 6
    · have h6' : (t : Int) < 6 := by omega
      unfold j12_3
      simp only [go_sem, ↓reduceIte, Nat.reduceAdd, Nat.reduceMul, Nat.reduceSub, Nat.reduceLT, Nat.reduceLeDiff, Nat.reduceEqDiff, Int.reduceToNat, Int.reduceEq, Int.reduceLT, Int.reduceLE, reduceCtorEq, h6']
      refine loopF Nat (fun o => [.int .i64 o]) (fun _ => [.blk 29 (dEv.emb zE)]) (fun o => o ≤ 8 ∧ ∀ e, isEv e = true → lineB e = s → e.kind = k → e.thr = t → (o : Int) ≤ e.obj) (fun o => 8 - o) 0 ⟨by omega, fun e he _ _ _ => ((isEv_iff e).1 he).2.2.1⟩ ?_ ?_ ?_
      · simp only [go_sem, ↓reduceIte, Nat.reduceAdd, Nat.reduceMul, Nat.reduceSub, Nat.reduceLT, Nat.reduceLeDiff, Nat.reduceEqDiff, Int.reduceToNat, Int.reduceEq, Int.reduceLT, Int.reduceLE, reduceCtorEq]
      · rfl
      rintro o ⟨ho8, ho⟩
      by_cases h7 : o < 8
      · have h7' : (o : Int) < 8 := by omega
        unfold j12_1
        simp only [go_sem, ↓reduceIte, Nat.reduceAdd, Nat.reduceMul, Nat.reduceSub, Nat.reduceLT, Nat.reduceLeDiff, Nat.reduceEqDiff, Int.reduceToNat, Int.reduceEq, Int.reduceLT, Int.reduceLE, reduceCtorEq, Gev_eq, tszEv, h7']
        refine ⟨fun hc => ?_, fun hc => ?_⟩
        · obtain ⟨he, hl⟩ := hit_line.1 hc
          rw [event_hit he hl]
        · refine ⟨o + 1, ⟨by omega, fun e he hl e1 e2 => ?_⟩, by omega, IntWalk.i64_in _ (by omega)⟩
          have := ho e he hl e1 e2
          refine Decidable.byContradiction fun hn => ?_
          obtain ⟨a, b, c⟩ := e
          simp only at e1 e2 this hn
          obtain rfl := e1
          obtain rfl := e2
          obtain rfl : c = o := by omega
          rw [hit_line.2 ⟨he, hl⟩] at hc
          cases hc
      · have h7' : ¬ (o : Int) < 8 := by omega
        unfold j12_1
        simp only [go_sem, ↓reduceIte, Nat.reduceAdd, Nat.reduceMul, Nat.reduceSub, Nat.reduceLT, Nat.reduceLeDiff, Nat.reduceEqDiff, Int.reduceToNat, Int.reduceEq, Int.reduceLT, Int.reduceLE, reduceCtorEq, Gev_eq, h7']
        unfold j12_2
        simp only [go_sem, ↓reduceIte, Nat.reduceAdd, Nat.reduceMul, Nat.reduceSub, Nat.reduceLT, Nat.reduceLeDiff, Nat.reduceEqDiff, Int.reduceToNat, Int.reduceEq, Int.reduceLT, Int.reduceLE, reduceCtorEq, Gev_eq]
        refine ⟨t + 1, ⟨by omega, fun e he hl e1 => ?_⟩, by omega, IntWalk.i64_in _ (by omega)⟩
        have a1 := ht e he hl e1
        obtain ⟨g1, g2, g3, g4⟩ := (isEv_iff e).1 he
        have hm := many_le e.kind
        refine Decidable.byContradiction fun hn => ?_
        have := ho e he hl e1 (by omega)
        omega
    · have h6' : ¬ (t : Int) < 6 := by omega
      unfold j12_3
      simp only [go_sem, ↓reduceIte, Nat.reduceAdd, Nat.reduceMul, Nat.reduceSub, Nat.reduceLT, Nat.reduceLeDiff, Nat.reduceEqDiff, Int.reduceToNat, Int.reduceEq, Int.reduceLT, Int.reduceLE, reduceCtorEq, h6']
      unfold j12_4
      simp only [go_sem, ↓reduceIte, Nat.reduceAdd, Nat.reduceMul, Nat.reduceSub, Nat.reduceLT, Nat.reduceLeDiff, Nat.reduceEqDiff, Int.reduceToNat, Int.reduceEq, Int.reduceLT, Int.reduceLE, reduceCtorEq]
      refine ⟨k + 1, ⟨by omega, by omega, fun e he hl => ?_⟩, by omega, IntWalk.i64_in _ (by omega)⟩
      have a1 := hk e he hl
      obtain ⟨g1, g2, g3, g4⟩ := (isEv_iff e).1 he
      refine Decidable.byContradiction fun hn => ?_
      have := ht e he hl (by omega)
      omega
  · have h8' : ¬ (k : Int) ≤ 8 := by omega
    unfold j12_5
    simp only [go_sem, ↓reduceIte, Nat.reduceAdd, Nat.reduceMul, Nat.reduceSub, Nat.reduceLT, Nat.reduceLeDiff, Nat.reduceEqDiff, Int.reduceToNat, Int.reduceEq, Int.reduceLT, Int.reduceLE, reduceCtorEq, h8']
    unfold j12_6
    simp only [go_sem, ↓reduceIte, Nat.reduceAdd, Nat.reduceMul, Nat.reduceSub, Nat.reduceLT, Nat.reduceLeDiff, Nat.reduceEqDiff, Int.reduceToNat, Int.reduceEq, Int.reduceLT, Int.reduceLE, reduceCtorEq, tszEv]
    rw [event_none fun e he hl => by have := hk e he hl; have := kind_is he; omega]
end Go.Proofs.YtgcbhanfhnianaaDoor.Tx
