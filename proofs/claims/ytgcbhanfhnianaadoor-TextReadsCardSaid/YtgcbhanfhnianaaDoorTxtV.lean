/- The event of a line, as text tells it. Conditions: the line is shorter than the library's Split bears. -/
import Derived.Test.YtgcbhanfhnianaaDoorTxtE
set_option linter.unusedSimpArgs false
set_option linter.unusedVariables false
set_option maxRecDepth 100000
open Go Go.Sx Go.Proofs
namespace Go.Proofs.YtgcbhanfhnianaaDoor.Tx
open Go.Proofs.YtgcbhanfhnianaaDoor.D Go.Proofs.YtgcbhanfhnianaaDoor.Tr
theorem splitK_cons (b : UInt8) (l : By) (c : UInt8) : ∀ n : Nat, Lib.splitK [c] 0 (n + 1) (b :: l) = if b = c then [] :: Lib.splitK [c] 0 n l else (b :: (Lib.splitK [c] 0 (n + 1) l).headD []) :: (Lib.splitK [c] 0 (n + 1) l).tail := by
  intro n
  rw [Lib.splitK, Lib.splitK, Lib.index_one, Lib.index_one, Lib.indexByte]
  by_cases h : b = c
  · subst h
    simp
  · have ge := Lib.indexByte_ge l c
    have hb : (b == c) = false := by simpa using h
    rw [hb, if_neg h]
    simp only [Bool.false_eq_true, if_false, Nat.add_zero, List.length_singleton]
    by_cases h2 : Lib.indexByte l c = -1
    · simp [h2]
    · have h3 : (Lib.indexByte l c == -1) = false := by simpa using h2
      have h4 : (Lib.indexByte l c + 1 == -1) = false := by simp; omega
      rw [h3]
      simp only [Bool.false_eq_true, if_false, h4, List.headD_cons, List.tail_cons]
      rw [show (Lib.indexByte l c + 1).toNat = (Lib.indexByte l c).toNat + 1 by omega, List.take_succ_cons, List.drop_succ_cons]
theorem splitL_nil (c : UInt8) : splitL [] c = [[]] := by
  rw [splitL, Lib.split, Lib.count_one]
  rfl
theorem splitL_cons (b : UInt8) (l : By) (c : UInt8) : splitL (b :: l) c = if b = c then [] :: splitL l c else (b :: (splitL l c).headD []) :: (splitL l c).tail := by
  rw [splitL, splitL, Lib.split, Lib.split, Lib.count_one, Lib.count_one, List.count_cons]
  by_cases h : b = c
  · subst h
    rw [beq_self_eq_true, if_pos rfl, if_pos rfl, splitK_cons, if_pos rfl]
  · have hb : (b == c) = false := by simpa using h
    rw [hb, if_neg h]
    simp only [Bool.false_eq_true, if_false, Nat.add_zero]
    cases hc : l.count c with
    | zero => rfl
    | succ n => rw [splitK_cons, if_neg h]
theorem ofNat_ne {n : Nat} (h : n < 10) : ¬ UInt8.ofNat (48 + n) = 32 := fun e => by
  have := congrArg UInt8.toNat e
  simp only [UInt8.toNat_ofNat'] at this
  rw [show UInt8.toNat 32 = 32 from rfl] at this
  omega
/-- A line's pieces. -/
theorem split_line {e : Ev} (h : isEv e = true) : splitL (lineB e) 32 = [[116, UInt8.ofNat (48 + e.thr.toNat)], wordB e.kind, lettB e.kind ++ [UInt8.ofNat (48 + e.obj.toNat)]] := by
  rw [line_is h]
  obtain ⟨h1, h2, h3, h4⟩ := (isEv_iff e).1 h
  have hm := many_le e.kind
  have n1 := ofNat_ne (n := e.thr.toNat) (by omega)
  have n2 := ofNat_ne (n := e.obj.toNat) (by omega)
  generalize UInt8.ofNat (48 + e.thr.toNat) = a at n1 ⊢
  generalize UInt8.ofNat (48 + e.obj.toNat) = b at n2 ⊢
  rcases kind_is h with k | k | k | k | k | k | k | k <;> rw [k] <;> simp [wordB, lettB, splitL_cons, splitL_nil, n1, n2]
theorem wordM_at {q : Nat} (h : q < 8) : wordM.getD q (.junk, .junk) = (.int .i64 ((q : Int) + 1), .agg [.str (wordB ((q : Int) + 1)), .str (lettB ((q : Int) + 1))]) := by
  have : q = 0 ∨ q = 1 ∨ q = 2 ∨ q = 3 ∨ q = 4 ∨ q = 5 ∨ q = 6 ∨ q = 7 := by omega
  rcases this with rfl | rfl | rfl | rfl | rfl | rfl | rfl | rfl <;> rfl
def evQ (s : By) (q : Nat) : Ev := ⟨(q : Int) + 1, ((((splitL s 32).getD 0 []).getD 1 0).toNat : Int) - 48, ((((splitL s 32).getD 2 []).getD 1 0).toNat : Int) - 48⟩
def hitQ (s : By) (q : Nat) : Bool := decide (wordB ((q : Int) + 1) = (splitL s 32).getD 1 []) && decide ((lineF (evQ s q)).2 = 0) && decide ((lineF (evQ s q)).1 = s)
theorem hw48 (b : UInt8) : IntKind.i64.wrap (IntKind.i64.wrap (b.toNat : Int) - 48) = (b.toNat : Int) - 48 := by
  have := b.toNat_lt
  rw [IntWalk.i64_in (b.toNat : Int) (by omega), IntWalk.i64_in _ (by omega)]
theorem dig_back {n : Int} (h0 : 0 ≤ n) (h1 : n < 10) : ((UInt8.ofNat (48 + n.toNat)).toNat : Int) - 48 = n := by
  simp only [UInt8.toNat_ofNat']
  omega
theorem hit_of {e : Ev} {s : By} (h : isEv e = true) (hl : lineB e = s) : hitQ s (e.kind - 1).toNat = true := by
  obtain ⟨h1, h2, h3, h4⟩ := (isEv_iff e).1 h
  have hm := many_le e.kind
  have hk := kind_is h
  have hs : splitL s 32 = [[116, UInt8.ofNat (48 + e.thr.toNat)], wordB e.kind, lettB e.kind ++ [UInt8.ofNat (48 + e.obj.toNat)]] := by rw [← hl]; exact split_line h
  have hw := (word_len e.kind).2
  have ek : (((e.kind - 1).toNat : Nat) : Int) + 1 = e.kind := by omega
  have ee : evQ s (e.kind - 1).toNat = e := by
    unfold evQ
    rw [hs, ek]
    obtain ⟨x, hx⟩ := List.length_eq_one_iff.1 hw
    rw [hx]
    simp only [List.getD_cons_zero, List.getD_cons_succ, List.singleton_append]
    rw [dig_back h1 (by omega), dig_back h3 (by omega)]
  have hl' : (lineF e).2 = 0 ∧ (lineF e).1 = s := by rw [lineF, if_pos h]; exact ⟨rfl, hl⟩
  rw [hitQ, ee, hl'.1, hl'.2, hs, ek]
  simp
def j11_1 : JC :=
  (.ops <|
  qo 12 (.mv (.t 4)) <|
  qo 13 (.len (.t 12)) <|
  .prune [13, 4, 2, 0] <|
  qo 14 (.cmp .eql (.t 13) (I 3)) <|
  qo 15 (.mv (.t 14)) <|
  .sc false 21 15 (qo 16 (.mv (.t 4)) <|
  qo 17 (.is 1 (.t 16) (I 0)) <|
  eo 18 (.load 1 false (.t 17)) <|
  qo 19 (.lens (.t 18)) <|
  qo 20 (.cmp .eql (.t 19) (I 2)) <|
  .nil) (.t 20) <|
  .prune [21, 4, 2, 0] <|
  qo 22 (.mv (.t 21)) <|
  .sc false 28 22 (qo 23 (.mv (.t 4)) <|
  qo 24 (.is 1 (.t 23) (I 2)) <|
  eo 25 (.load 1 false (.t 24)) <|
  qo 26 (.lens (.t 25)) <|
  qo 27 (.cmp .eql (.t 26) (I 2)) <|
  .nil) (.t 27) <|
  .nil)
def j11_2 : JC :=
  (.seq (.dops <|
  .prune [5, 4, 6, 0, 2, 30] <|
  qo 36 (.mv (.t 5)) <|
  qo 37 (.mv (.t 4)) <|
  qo 38 (.is 1 (.t 37) (I 0)) <|
  eo 39 (.load 1 false (.t 38)) <|
  qo 40 (.sx (.t 39) (I 1)) <|
  qo 41 (.conv .i64 (.t 40)) <|
  .prune [41, 4, 36, 39, 38, 6, 0, 2, 30] <|
  qo 42 (.ar .sub (.t 41) (I 48)) <|
  qo 43 (.mv (.t 4)) <|
  qo 44 (.is 1 (.t 43) (I 2)) <|
  eo 45 (.load 1 false (.t 44)) <|
  qo 46 (.sx (.t 45) (I 1)) <|
  qo 47 (.conv .i64 (.t 46)) <|
  .prune [47, 36, 42, 39, 38, 45, 44, 6, 4, 0, 2, 30] <|
  qo 48 (.ar .sub (.t 47) (I 48)) <|
  qo 49 (.bld (.agg [(.int .i64 0), (.int .i64 0), (.int .i64 0)]) [([.fld 0], 0, 1, (.t 36)), ([.fld 1], 1, 1, (.t 42)), ([.fld 2], 2, 1, (.t 48))]) <|
  .prune [39, 38, 45, 44, 49, 6, 4, 0, 2, 30] <|
  eo 7 (.alloc 29 (.agg [(.int .i64 0), (.int .i64 0), (.int .i64 0)])) <|
  en (.again 1 false (.t 38) 39) <|
  en (.again 1 false (.t 44) 45) <|
  en (.store 3 (.t 7) (.t 49)) <|
  .nil)
  (.prune [7, 6, 4, 0, 2, 30] (.seq (.ops <|
  eo 51 (.load 3 true (.t 7)) <|
  eo 52 (.call 9 [(.t 51)]) <|
  qo 50 (.mv (.t 52)) <|
  qo 53 (.ext 0 (.t 50)) <|
  qo 54 (.ext 1 (.t 50)) <|
  qo 8 (.mv (.t 53)) <|
  qo 9 (.mv (.t 54)) <|
  .nil)
  (.prune [6, 4, 9, 8, 0, 7, 2, 30] (.seq (.dops <|
  qo 55 (.fa 0 0 (.t 6)) <|
  eo 56 (.load 1 false (.t 55)) <|
  qo 57 (.mv (.t 4)) <|
  qo 58 (.is 1 (.t 57) (I 1)) <|
  .prune [58, 56, 9, 8, 0, 7, 2, 4, 30] <|
  eo 59 (.load 1 false (.t 58)) <|
  qo 60 (.seq false (.t 56) (.t 59)) <|
  .prune [60, 9, 8, 0, 7, 2, 4, 30] <|
  qo 61 (.mv (.t 60)) <|
  .sc false 64 61 (qo 62 (.mv (.t 9)) <|
  qo 63 (.cmp .eql (.t 62) (I 0)) <|
  .nil) (.t 63) <|
  .prune [64, 8, 0, 7, 2, 4, 30] <|
  qo 65 (.mv (.t 64)) <|
  .sc false 69 65 (qo 66 (.mv (.t 8)) <|
  qo 67 (.mv (.t 0)) <|
  qo 68 (.seq false (.t 66) (.t 67)) <|
  .nil) (.t 68) <|
  .nil)
  (.prune [69, 7, 2, 4, 0, 30] (.cond (.t 69)
  (.seq (.ops <|
  eo 70 (.load 3 true (.t 7)) <|
  en (.store 3 (.t 2) (.t 70)) <|
  qo 3 (.mv (I 0)) <|
  .nil)
  .ret)
  .skip)))))))
def j11 : ZC :=
  (.seq (.leaf (.ops <|
  eo 2 (.alloc 29 (.agg [(.int .i64 0), (.int .i64 0), (.int .i64 0)])) <|
  qo 3 (.mv (I 0)) <|
  .nil))
  (.seq (.leaf (.ops <|
  qo 10 (.mv (.t 0)) <|
  eo 11 (.call 25 [(.t 10), (.c (.str [32]))]) <|
  qo 4 (.mv (.t 11)) <|
  .nil))
  (.seq (.seq (.leaf j11_1)
  (.prune [28, 2, 4, 0] (.cond (.t 28)
  (.rmap (eo 29 (.call 20 []) <|
  .nil) (.t 29) 30 0 31 32 1 33 (
  qo 34 (.ext 0 (.t 33)) <|
  qo 35 (.ext 1 (.t 33)) <|
  eo 6 (.alloc 45 (.agg [(.str []), (.str [])])) <|
  qo 5 (.mv (.t 34)) <|
  en (.store 2 (.t 6) (.t 35)) <|
  .nil) [2, 4, 0] [] j11_2)
  (.leaf .skip))))
  (.prune [2] (.leaf (.seq (.ops <|
  qo 71 (.bld (.agg [(.int .i64 0), (.int .i64 0), (.int .i64 0)]) []) <|
  en (.store 3 (.t 2) (.t 71)) <|
  qo 3 (.mv (I 3)) <|
  .nil)
  .ret))))))
theorem c11 : fnZ Tryd.prog qall 11 j11 = some (j11.flat, [.cell 2 29, .tmp 3], 72) := by kernel_rfl
theorem w11 : j11.wf 72 = true := by kernel_rfl
def Gve (f : FuncId) (a : List SV) (m : List Res) : Sx.Call := (FH.pz 25 (.two .str .str) (DP.one (DT.list 1 DT.str)) (fun y => y.1.length < 4294967281 ∧ y.2.1.length = 1) (fun y => splitL y.1 (y.2.1.getD 0 0)) <|
  FH.mn 20 (.map 0) [.mp (.int .i64) (.st [.str, .str]) wordM] <|
  FH.rd 9 (.one dEv) (.two .str .int) (fun _ => True) (fun y => lineF y.1) FH.none) f a m
theorem Gve_eq (f : FuncId) (a : List SV) (m : List Res) : Gve f a m = (FH.pz 25 (.two .str .str) (DP.one (DT.list 1 DT.str)) (fun y => y.1.length < 4294967281 ∧ y.2.1.length = 1) (fun y => splitL y.1 (y.2.1.getD 0 0)) <|
  FH.mn 20 (.map 0) [.mp (.int .i64) (.st [.str, .str]) wordM] <|
  FH.rd 9 (.one dEv) (.two .str .int) (fun _ => True) (fun y => lineF y.1) FH.none) f a m := nr rfl
theorem Gve_ok : FHOK Tryd.prog Gve := FH.pz_ok (by kernel_rfl) (fun y h => by
  obtain ⟨s, b, u⟩ := y
  obtain ⟨h1, h2⟩ := h
  simp only at h1 h2
  match b, h2 with
  | [c], _ => exact (f_Split s c h1).holdL) <| FH.mn_ok (by kernel_rfl) f_words <| FH.rd_ok (by kernel_rfl) (fun y _ => f_Line y.1) FH.none_ok
theorem f_Event (s : By) (hs : s.length < 4294967281) : FnOK Tryd.prog 11 [.str s] [] (.tup [dEv.emb (eventF s).1, .int .i64 (eventF s).2]) [] := by
  refine fn_walkZ c11 w11 Gve_ok rfl ?_
  unfold j11
  simp only [go_sem, ↓reduceIte, Nat.reduceAdd, Nat.reduceMul, Nat.reduceSub, Nat.reduceLT, Nat.reduceLeDiff, Nat.reduceEqDiff, Int.reduceToNat, Int.reduceEq, Int.reduceLT, Int.reduceLE, reduceCtorEq, Gve_eq, List.length_singleton, List.getD_cons_zero, hs]
  have hnone : ((splitL s 32).length ≠ 3 ∨ ((splitL s 32).getD 0 []).length ≠ 2 ∨ ((splitL s 32).getD 2 []).length ≠ 2) → eventF s = (zE, 3) := fun hc => event_none fun e he hl => by
    rw [← hl, split_line he] at hc
    have := word_len e.kind
    simp [this.2] at hc
  unfold j11_1
  by_cases h3 : (splitL s 32).length = 3
  · by_cases h1 : ((splitL s 32).getD 0 []).length = 2
    · by_cases h2 : ((splitL s 32).getD 2 []).length = 2
      · have h1' : ((splitL s 32).getD 0 DT.str.dft).length = 2 := h1
        have h2' : ((splitL s 32).getD 2 DT.str.dft).length = 2 := h2
        simp only [go_sem, ↓reduceIte, Nat.reduceAdd, Nat.reduceMul, Nat.reduceSub, Nat.reduceLT, Nat.reduceLeDiff, Nat.reduceEqDiff, Int.reduceToNat, Int.reduceEq, Int.reduceLT, Int.reduceLE, reduceCtorEq, Gve_eq, h3, h1', h2']
        refine rmapF Unit (fun _ => []) (fun _ => [.blk 29 (dEv.emb zE), .dead]) (fun ds _ => ∀ d, d ∈ ds → hitQ s d = false) () (fun _ h => by cases h) trivial rfl ?_ ?_
        · intro ds u q hd _ _ hq _ iv
          rw [wordM_at hq]
          unfold j11_2
          simp only [go_sem, ↓reduceIte, Nat.reduceAdd, Nat.reduceMul, Nat.reduceSub, Nat.reduceLT, Nat.reduceLeDiff, Nat.reduceEqDiff, Int.reduceToNat, Int.reduceEq, Int.reduceLT, Int.reduceLE, reduceCtorEq, Gve_eq, h3, h1', h2', tszEv]
          simp only [hw48]
          refine ⟨fun hc => ?_, fun hc => ⟨(), fun d hd' => ?_⟩⟩
          · have hc : hitQ s q = true := hc
            simp only [hitQ, Bool.and_eq_true, decide_eq_true_eq] at hc
            obtain ⟨⟨_, g2⟩, g3⟩ := hc
            obtain ⟨he, hl⟩ := (hit_line (e := evQ s q) (s := s)).1 (by rw [g2, g3]; simp)
            rw [event_hit he hl]
            rfl
          · rcases List.mem_append.1 hd' with g | g
            · exact hd d g
            · rw [List.mem_singleton.1 g]; exact hc
        · intro ds u hd _ hdl hall
          simp only [go_sem, ↓reduceIte, Nat.reduceAdd, Nat.reduceMul, Nat.reduceSub, Nat.reduceLT, Nat.reduceLeDiff, Nat.reduceEqDiff, Int.reduceToNat, Int.reduceEq, Int.reduceLT, Int.reduceLE, reduceCtorEq, Gve_eq, tszEv]
          rw [event_none fun e he hl => by
            have hk := kind_is he
            have hq : (e.kind - 1).toNat < 8 := by omega
            have := hd _ (hall _ hq)
            rw [hit_of he hl] at this
            cases this]
      · have h1' : ((splitL s 32).getD 0 DT.str.dft).length = 2 := h1
        have h2' : ¬ (((splitL s 32).getD 2 DT.str.dft).length : Int) = 2 := fun e => h2 (by
          have : ((splitL s 32).getD 2 []).length = 2 := Int.ofNat_inj.1 e
          exact this)
        have hn := hnone (.inr (.inr h2))
        simp only [go_sem, ↓reduceIte, Nat.reduceAdd, Nat.reduceMul, Nat.reduceSub, Nat.reduceLT, Nat.reduceLeDiff, Nat.reduceEqDiff, Int.reduceToNat, Int.reduceEq, Int.reduceLT, Int.reduceLE, reduceCtorEq, Gve_eq, h3, h1', h2', hn, tszEv]
    · have h1' : ¬ (((splitL s 32).getD 0 DT.str.dft).length : Int) = 2 := fun e => h1 (by
        have : ((splitL s 32).getD 0 []).length = 2 := Int.ofNat_inj.1 e
        exact this)
      have hn := hnone (.inr (.inl h1))
      simp only [go_sem, ↓reduceIte, Nat.reduceAdd, Nat.reduceMul, Nat.reduceSub, Nat.reduceLT, Nat.reduceLeDiff, Nat.reduceEqDiff, Int.reduceToNat, Int.reduceEq, Int.reduceLT, Int.reduceLE, reduceCtorEq, Gve_eq, h3, h1', hn, tszEv]
  · have hn := hnone (.inl h3)
    have h3' : ¬ ((splitL s 32).length : Int) = 3 := by omega
    simp only [go_sem, ↓reduceIte, Nat.reduceAdd, Nat.reduceMul, Nat.reduceSub, Nat.reduceLT, Nat.reduceLeDiff, Nat.reduceEqDiff, Int.reduceToNat, Int.reduceEq, Int.reduceLT, Int.reduceLE, reduceCtorEq, Gve_eq, h3', hn, tszEv]
end Go.Proofs.YtgcbhanfhnianaaDoor.Tx
