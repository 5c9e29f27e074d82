/- The package guard: run. Conditions: none. -/
import Derived.Test.YtafcmgfmmlnngaaGuardC
import Derived.Test.YtafcmgfmmlnngaaTraceR
import Derived.Test.YtafcmgfmmlnngaaSx37
set_option linter.unusedSimpArgs false
set_option linter.unusedVariables false
set_option maxRecDepth 100000
open Go Go.Sx Go.Proofs
namespace Go.Proofs.Ytafcmgfmmlnngaa.Gu
open Go.Proofs.Ytafcmgfmmlnngaa.D Go.Proofs.Ytafcmgfmmlnngaa.Tr
/-- The locks of each thread, behind so many events. -/
def HS (l : List Ev) : Nat → Nat → Int
  | 0 => fun _ => 0
  | i + 1 => takesH (HS l i) (l.getD i dEv.dft)
def gInit (n : Nat) : Gs := ⟨fun _ => 0, fun _ => 0, fun k => if k < n then 31 else 0⟩
def stepR (s : Gs × List Fl) (i : Nat) (e : Ev) (locks : Int) : Gs × List Fl :=
  let g := accF ⟨s.1.st e.obj.toNat, s.1.th e.obj.toNat, s.1.lk e.obj.toNat⟩ e locks
  (⟨fun k => if k = e.obj.toNat then g.st else s.1.st k, fun k => if k = e.obj.toNat then g.th else s.1.th k, fun k => if k = e.obj.toNat then g.lk else s.1.lk k⟩, if g.st = 3 ∧ g.lk = 0 then s.2 ++ [⟨i, e.obj, 0⟩] else s.2)
def RS (l : List Ev) : Nat → Gs × List Fl
  | 0 => (gInit 8, [])
  | i + 1 => if isAcc (l.getD i dEv.dft) then stepR (RS l i) i (l.getD i dEv.dft) (HS l (i + 1) (l.getD i dEv.dft).thr.toNat) else RS l i
theorem RS_len (l : List Ev) : ∀ i, (RS l i).2.length ≤ i
  | 0 => Nat.le_refl _
  | i + 1 => by
    have := RS_len l i
    simp only [RS]
    split
    · simp only [stepR]
      split
      · simp; omega
      · omega
    · omega
/-- The iterator's code. -/
def y83_yl : YC := .yl (eo 15 (.load 3 true (.t 5)) <| eo 16 (.call 85 [(.t 15)]) <| qo 17 (.mv (.t 16)) <| .nil) 17 [17, 8, 7, 6, 3, 0]
  (qo 18 (.mv (.t 0)) <| qo 19 (.mv (.t 4)) <| qo 20 (.fa 1 1 (.t 5)) <| eo 21 (.load 1 false (.t 20)) <| qo 22 (.ia 6 1 (.t 3) (.t 21)) <| eo 23 (.load 1 false (.t 22)) <| .nil) 24 (.t 18) [.t 19, .t 23] 25 26
def y83_1 : YC := .seq (.jc (.ops <| qo 9 (.cmp .lss (.t 8) (.t 7)) <| .nil)) (.seq (.jc (.cond (.t 9) .skip (.exit 0))) (.seq
  (.block 1 (.seq (.jc (.ops <| qo 10 (.mv (.t 8)) <| qo 11 (.is 3 (.t 6) (.t 8)) <| eo 12 (.load 3 true (.t 11)) <| eo 5 (.alloc 35 (.agg [(.int .i64 0), (.int .i64 0), (.int .i64 0)])) <| qo 4 (.mv (.t 10)) <| en (.store 3 (.t 5) (.t 12)) <| .nil))
    (.prune [5, 3, 0, 4, 8, 7, 6] (.seq (.jc (.ops <| eo 13 (.load 3 true (.t 5)) <| eo 14 (.call 84 [(.t 3), (.t 13)]) <| .nil))
    (.seq y83_yl (.jc (.cond (.t 26) .ret .skip)))))))
  (.prune [8, 7, 6, 3, 0] (.jc (.ops <| qo 27 (.ar .add (.t 8) (I 1)) <| qo 8 (.mv (.t 27)) <| .nil)))))
def y83 : YC := .seq (.jc (.ops <| eo 3 (.alloc 142 (.arr 6 1 fun _ => (.int .i64 0))) <| .nil)) (.seq (.jc (.ops <| eo 6 (.load 1 false (.t 1)) <| qo 7 (.len (.t 6)) <| qo 8 (.mv (I 0)) <| .nil)) (.block 0 (.loop [7, 6, 3, 0] [8] y83_1)))
theorem cy83 : fnIs Try.prog qall 83 = some (y83.flat, [], 28) := by kernel_rfl
theorem wy83 : y83.wf 28 = true := by kernel_rfl
def Gy (f : FuncId) (a : List SV) (m : List Res) : Sx.Call := (FH.rd 85 (.one dEv) (.one .bool) (fun _ => True) (fun y => isAcc y.1) <| FH.mt 84 142 dHd (.one dEv) DR.unit (fun _ y => isEv y.1 = true) (fun _ _ => ()) (fun h y => takesH h y.1) FH.none) f a m
theorem Gy_eq (f : FuncId) (a : List SV) (m : List Res) : Gy f a m = (FH.rd 85 (.one dEv) (.one .bool) (fun _ => True) (fun y => isAcc y.1) <| FH.mt 84 142 dHd (.one dEv) DR.unit (fun _ y => isEv y.1 = true) (fun _ _ => ()) (fun h y => takesH h y.1) FH.none) f a m := nr rfl
theorem Gy_ok : FHOK Try.prog Gy := FH.rd_ok (by kernel_rfl) (fun y _ => f_isAcc y.1) <| FH.mt_ok (by kernel_rfl) (fun h y hp => f_takes h y.1 hp) FH.none_ok
def j48_1 : JC :=
  (.seq (.ops <|
  qo 21 (.cmp .lss (.t 20) (I 8)) <|
  .nil)
  (.seq (.cond (.t 21)
  .skip
  (.exit 0))
  (.seq (.block 1 (.seq (.ops <|
  qo 22 (.mv (.t 20)) <|
  qo 7 (.mv (.t 22)) <|
  .nil)
  (.ops <|
  qo 23 (.mv (.t 7)) <|
  .prune [2, 23, 20, 1, 3] <|
  qo 24 (.ia 8 3 (.t 2) (.t 23)) <|
  qo 25 (.fa 2 2 (.t 24)) <|
  en (.store 1 (.t 25) (I 31)) <|
  .nil)))
  (.prune [20, 2, 1, 3] (.ops <|
  qo 26 (.ar .add (.t 20) (I 1)) <|
  qo 20 (.mv (.t 26)) <|
  .nil)))))
def j48_2 : JC :=
  (.seq (.ops <|
  qo 8 (.mv (.t 29)) <|
  .nil)
  (.ops <|
  qo 9 (.mv (.t 30)) <|
  .nil))
def j48_3 : JC :=
  (.block 3 (.seq (.ops <|
  eo 31 (.load 1 false (.t 1)) <|
  qo 32 (.mv (.t 8)) <|
  qo 33 (.is 3 (.t 31) (.t 32)) <|
  qo 34 (.fa 2 2 (.t 33)) <|
  eo 35 (.load 1 false (.t 34)) <|
  qo 10 (.mv (.t 35)) <|
  .nil)
  (.seq (.dops <|
  qo 36 (.mv (.t 10)) <|
  qo 37 (.mv (.t 10)) <|
  qo 38 (.ia 8 3 (.t 2) (.t 37)) <|
  eo 39 (.load 3 true (.t 38)) <|
  eo 40 (.load 1 false (.t 1)) <|
  .prune [8, 40, 9, 39, 2, 36, 10, 3] <|
  qo 41 (.mv (.t 8)) <|
  qo 42 (.is 3 (.t 40) (.t 41)) <|
  eo 43 (.load 3 true (.t 42)) <|
  .prune [9, 39, 43, 2, 36, 10, 3, 8] <|
  qo 44 (.mv (.t 9)) <|
  eo 45 (.qcall 72 [(.t 39), (.t 43), (.t 44)]) <|
  qo 46 (.ia 8 3 (.t 2) (.t 36)) <|
  en (.store 3 (.t 46) (.t 45)) <|
  .nil)
  (.prune [10, 2, 3, 8] (.seq (.ops <|
  qo 47 (.mv (.t 10)) <|
  qo 48 (.ia 8 3 (.t 2) (.t 47)) <|
  qo 49 (.fa 0 0 (.t 48)) <|
  eo 50 (.load 1 false (.t 49)) <|
  .prune [50, 10, 2, 3, 8] <|
  qo 51 (.cmp .eql (.t 50) (I 3)) <|
  qo 52 (.mv (.t 51)) <|
  .sc false 58 52 (qo 53 (.mv (.t 10)) <|
  qo 54 (.ia 8 3 (.t 2) (.t 53)) <|
  qo 55 (.fa 2 2 (.t 54)) <|
  eo 56 (.load 1 false (.t 55)) <|
  qo 57 (.cmp .eql (.t 56) (I 0)) <|
  .nil) (.t 57) <|
  .nil)
  (.prune [58, 3, 8, 10] (.cond (.t 58)
  (.ops <|
  eo 59 (.load 1 false (.t 3)) <|
  qo 60 (.mv (.t 8)) <|
  qo 61 (.mv (.t 10)) <|
  .prune [60, 61, 59, 3] <|
  qo 62 (.bld (.agg [(.int .i64 0), (.int .i64 0), (.int .i64 0)]) [([.fld 0], 0, 1, (.t 60)), ([.fld 1], 1, 1, (.t 61))]) <|
  eo 63 (.bsl 60 3 1 (.agg [(.int .i64 0), (.int .i64 0), (.int .i64 0)]) [(0, (.t 62))]) <|
  eo 64 (.app 60 3 24 (.t 59) (.t 63)) <|
  en (.store 1 (.t 3) (.t 64)) <|
  .nil)
  .skip)))))))
def j48 : XC :=
  (.seq (.ops <|
  eo 1 (.box 29 (.t 0)) <|
  eo 2 (.alloc 40 (.arr 8 3 fun _ => (.agg [(.int .i64 0), (.int .i64 0), (.int .i64 0)]))) <|
  eo 3 (.alloc 45 .nils) <|
  qo 4 (.mv (I 0)) <|
  .nil)
  (.seq (.seq (.ops <|
  eo 12 (.load 1 false (.t 1)) <|
  eo 13 (.call 51 [(.t 12)]) <|
  qo 11 (.mv (.t 13)) <|
  .prune [11, 2, 3, 1] <|
  qo 14 (.ext 0 (.t 11)) <|
  qo 15 (.ext 1 (.t 11)) <|
  qo 5 (.mv (.t 14)) <|
  qo 6 (.mv (.t 15)) <|
  .nil)
  (.prune [6, 2, 3, 1] (.seq (.ops <|
  qo 16 (.mv (.t 6)) <|
  qo 17 (.cmp .neq (.t 16) (I 0)) <|
  .nil)
  (.cond (.t 17)
  (.seq (.ops <|
  eo 18 (.load 24 true (.t 2)) <|
  .prune [6, 2, 18, 3] <|
  qo 19 (.mv (.t 6)) <|
  en (.store 24 (.t 2) (.t 18)) <|
  en (.store 1 (.t 3) (.c .nils)) <|
  qo 4 (.mv (.t 19)) <|
  .nil)
  .ret)
  .skip))))
  (.prune [2, 1, 3] (.seq (.seq (.ops <|
  qo 20 (.mv (I 0)) <|
  .nil)
  (.block 0 (.loop [2, 1, 3] [20] j48_1)))
  (.prune [1, 2, 3] (.rf (.ops <|
  eo 27 (.load 1 false (.t 1)) <|
  eo 28 (.call 56 [(.t 27)]) <|
  .nil)
  2 28 [29, 30] j48_2 j48_3 (some (3, 60, 3)) [2, 3, 1]
  (.seq (.dops <|
  eo 65 (.load 24 true (.t 2)) <|
  eo 66 (.load 1 false (.t 3)) <|
  en (.store 24 (.t 2) (.t 65)) <|
  en (.again 1 false (.t 3) 66) <|
  en (.store 1 (.t 3) (.t 66)) <|
  qo 4 (.mv (I 0)) <|
  .nil)
  .ret)))))))
theorem c48 : fnX Try.prog qall 48 = some (j48.flat, [.cell 2 40, .cell 3 45, .tmp 4], 67) := by kernel_rfl
theorem w48 : j48.wf 67 = true := by kernel_rfl
def Gr (f : FuncId) (a : List SV) (m : List Res) : Sx.Call := (FH.rd 51 (.one dEs) (.two .int .int) (fun _ => True) (fun y => (playedF y.1).2) <| FH.nw 56 (.one dEs) (fun _ => True) (fun _ => .fn 83 [.ptr 0 [] 0]) (fun y => [.blk 29 (dEs.emb y.1)]) <|
  FH.rd 72 (.three dGd dEv .int) (.one dGd) (fun _ => True) (fun y => accF y.1 y.2.1 y.2.2.1) FH.none) f a m
theorem Gr_eq (f : FuncId) (a : List SV) (m : List Res) : Gr f a m = (FH.rd 51 (.one dEs) (.two .int .int) (fun _ => True) (fun y => (playedF y.1).2) <| FH.nw 56 (.one dEs) (fun _ => True) (fun _ => .fn 83 [.ptr 0 [] 0]) (fun y => [.blk 29 (dEs.emb y.1)]) <|
  FH.rd 72 (.three dGd dEv .int) (.one dGd) (fun _ => True) (fun y => accF y.1 y.2.1 y.2.2.1) FH.none) f a m := nr rfl
theorem Gr_ok : FHOK Try.prog Gr := FH.rd_ok (by kernel_rfl) (fun y _ => f_Check y.1) <| FH.nw_ok (by kernel_rfl) (fun y _ => f_accesses y.1) <| FH.rd_ok (by kernel_rfl) (fun y _ => f_access y.1 y.2.1 y.2.2.1) FH.none_ok
theorem w48_2 : j48_2.wf 67 = true := by kernel_rfl
theorem w48_3 : j48_3.wf 67 = true := by kernel_rfl
abbrev Mr (l : List Ev) (s : Gs × List Fl) : List Res := [.blk 29 (dEs.emb l), .blk 40 (dGs.emb s.1), .blk 45 (.vec 4 s.2.length), .blk 29 (dEs.emb l), .vec 60 3 (s.2.map dFl.emb)]
theorem gInit_st {n k : Nat} : (if k = n then (gInit n).st n else (gInit n).st k) = (gInit (n + 1)).st k := by split <;> rfl
theorem gInit_th {n k : Nat} : (if k = n then (gInit n).th n else (gInit n).th k) = (gInit (n + 1)).th k := by split <;> rfl
theorem gInit_lk {n k : Nat} : (if k = n then (31 : Int) else (gInit n).lk k) = (gInit (n + 1)).lk k := by
  simp only [gInit]
  by_cases h : k = n
  · subst h; simp
  · simp [h, show (k < n + 1) ↔ k < n by omega]
theorem tszFls : tsz Try.prog 45 = some (1, false) := by kernel_rfl
theorem f_run_bad (l : List Ev) (h : ¬ (playedF l).2.2 = 0) : FnOK Try.prog 48 [dEs.emb l] [] (.tup [dGs.emb (gInit 0), .nils, .int .i64 (playedF l).2.2]) [] := by
  refine fn_walkX c48 w48 Gr_ok rfl ?_
  unfold j48
  simp only [go_sem, ↓reduceIte, Nat.reduceAdd, Nat.reduceMul, Nat.reduceSub, Nat.reduceLT, Nat.reduceLeDiff, Nat.reduceEqDiff, Int.reduceToNat, Int.reduceEq, Int.reduceLT, Int.reduceLE, reduceCtorEq, Gr_eq, h, tszGs, tszFls, gInit]
theorem body_run (l : List Ev) (s : Gs × List Fl) (i : Nat) (locks : Int) (hh : Nat → Int) (hi : i < l.length) (he : isEv (l.getD i dEv.dft) = true) (ha : isAcc (l.getD i dEv.dft) = true) (hs : s.2.length ≤ 80) :
    Yrel Gr j48_2 j48_3 [29, 30] (Fr.put 1 (SV.ptr 0 [] 0) (Fr.put 2 (SV.ptr 1 [] 0) (Fr.put 3 (SV.ptr 2 [] 0) Fr.nil))) [.int .i64 i, .int .i64 locks] (Mr l s ++ [.blk 142 (dHd.emb hh), .blk 35 (dEv.emb (l.getD i dEv.dft))])
      (Mr l (stepR s i (l.getD i dEv.dft) locks) ++ [.blk 142 (dHd.emb hh), .blk 35 (dEv.emb (l.getD i dEv.dft))]) := by
  generalize hE : l.getD i dEv.dft = e at *
  obtain ⟨b1, b2, b3, b4⟩ := (isEv_iff e).1 he
  have b5 : e.obj < 8 := by
    simp only [isAcc, Bool.or_eq_true, decide_eq_true_eq] at ha
    rcases ha with h | h <;> simpa [many, h] using b4
  obtain ⟨x, hx, hx8⟩ : ∃ x : Nat, e.obj = x ∧ x < 8 := ⟨e.obj.toNat, by omega, by omega⟩
  have hi' : (i : Int) < l.length := by omega
  refine ⟨rfl, ?_⟩
  unfold j48_2
  simp only [go_sem, ↓reduceIte, Nat.reduceAdd, Nat.reduceMul, Nat.reduceSub, Nat.reduceLT, Nat.reduceLeDiff, Nat.reduceEqDiff, Int.reduceToNat, Int.reduceEq, Int.reduceLT, Int.reduceLE, reduceCtorEq, Mr]
  unfold j48_3
  obtain ⟨ek, et, eo⟩ := e
  simp only at hx
  subst hx
  simp only [go_sem, ↓reduceIte, Nat.reduceAdd, Nat.reduceMul, Nat.reduceSub, Nat.reduceLT, Nat.reduceLeDiff, Nat.reduceEqDiff, Int.reduceToNat, Int.reduceEq, Int.reduceLT, Int.reduceLE, reduceCtorEq, Gr_eq, Mr, hE, hx8, hi, hi', upd_gs]
  refine ⟨by omega, ⟨by omega, by omega⟩, by omega, ⟨by omega, by omega⟩, ⟨by omega, by omega⟩, fun _ => ⟨by omega, by omega⟩, fun h => ⟨by omega, ?_⟩, fun h => ?_⟩
  · simp only [Bool.and_eq_true, decide_eq_true_eq] at h
    simp only [stepR, Int.toNat_natCast]
    rw [if_pos h]
    simp only [go_sem, ↓reduceIte, Nat.reduceAdd, Nat.reduceMul, Nat.reduceSub, Nat.reduceLT, Nat.reduceLeDiff, Nat.reduceEqDiff, Int.reduceToNat, Int.reduceEq, Int.reduceLT, Int.reduceLE, reduceCtorEq, List.length_append]
  · simp only [Bool.and_eq_false_iff, decide_eq_false_iff_not] at h
    simp only [stepR, Int.toNat_natCast]
    rw [if_neg (fun hc => by rcases h with h | h <;> simp [hc.1, hc.2] at h)]
theorem it_run (l : List Ev) (h : (playedF l).2.2 = 0) : ITok Try.prog qall 67 [29, 30] j48_2.flat j48_3.flat
    (Fr.put 28 (SV.fn 83 [SV.ptr 3 [] 0])
      (Fr.put 27 (SV.lst 3 dEv.dft dEv.emb l)
        (Fr.put 1 (SV.ptr 0 [] 0) (Fr.put 2 (SV.ptr 1 [] 0) (Fr.put 3 (SV.ptr 2 [] 0) Fr.nil)))))
    83 [SV.ptr 3 [] 0] (Mr l (RS l 0)) (Mr l (RS l l.length)) := by
  have hok : (checkR l).2 = 0 := by rw [← played_check]; exact h
  refine it_ok cy83 wy83 Gy_ok Gr_ok w48_2 w48_3 rfl rfl (ks := [1, 2, 3]) ?_ fun yv => ?_
  · simp only [go_sem, ↓reduceIte, Nat.reduceAdd, Nat.reduceMul, Nat.reduceSub, Nat.reduceLT, Nat.reduceLeDiff, Nat.reduceEqDiff, Int.reduceToNat, Int.reduceEq, Int.reduceLT, Int.reduceLE, reduceCtorEq]
  unfold y83
  simp only [go_sem, ↓reduceIte, Nat.reduceAdd, Nat.reduceMul, Nat.reduceSub, Nat.reduceLT, Nat.reduceLeDiff, Nat.reduceEqDiff, Int.reduceToNat, Int.reduceEq, Int.reduceLT, Int.reduceLE, reduceCtorEq, Gy_eq, Mr]
  refine yloopF Nat (fun i => [.int .i64 i]) (fun i => Mr l (RS l i) ++ [.blk 142 (dHd.emb (HS l i))]) (fun i => i ≤ l.length) (fun i => l.length - i) 0 (by omega) ?_ ?_ ?_
  · simp only [go_sem, ↓reduceIte, Nat.reduceAdd, Nat.reduceMul, Nat.reduceSub, Nat.reduceLT, Nat.reduceLeDiff, Nat.reduceEqDiff, Int.reduceToNat, Int.reduceEq, Int.reduceLT, Int.reduceLE, reduceCtorEq]
  · simp only [go_sem, ↓reduceIte, Nat.reduceAdd, Nat.reduceMul, Nat.reduceSub, Nat.reduceLT, Nat.reduceLeDiff, Nat.reduceEqDiff, Int.reduceToNat, Int.reduceEq, Int.reduceLT, Int.reduceLE, reduceCtorEq, HS, Mr]
  intro i hi
  by_cases h1 : i < l.length
  · have h1' : (i : Int) < l.length := by omega
    have h8 := ok_len hok
    have hw : IntKind.i64.wrap ((i : Int) + 1) = ((i + 1 : Nat) : Int) := IntWalk.i64_in _ (by omega)
    have hev := ok_isEv hok i h1
    unfold y83_1 y83_yl
    simp only [go_sem, ↓reduceIte, Nat.reduceAdd, Nat.reduceMul, Nat.reduceSub, Nat.reduceLT, Nat.reduceLeDiff, Nat.reduceEqDiff, Int.reduceToNat, Int.reduceEq, Int.reduceLT, Int.reduceLE, reduceCtorEq, Gy_eq, Mr, h1, h1', hw, hev]
    have hb : (l.getD i dEv.dft).thr.toNat < 6 ∧ 0 ≤ (l.getD i dEv.dft).thr ∧ (l.getD i dEv.dft).thr < 6 := by
      have := (isEv_iff _).1 hev
      omega
    refine ⟨by omega, fun h2 => ⟨i + 1, by omega, by omega, rfl, ?_⟩, fun h2 => ⟨h2, h2, h2, h2, h2, ⟨hb.2.1, hb.2.2⟩, h2, h2, ?_⟩⟩
    · simp only [RS, h2, HS]
      rfl
    · have hy := body_run l (RS l i) i (HS l (i + 1) (l.getD i dEv.dft).thr.toNat) (HS l (i + 1)) h1 hev h2 (by have := RS_len l i; omega)
      refine ⟨_, hy, i + 1, by omega, by omega, rfl, ?_⟩
      have e1 : RS l (i + 1) = stepR (RS l i) i (l.getD i dEv.dft) (HS l (i + 1) (l.getD i dEv.dft).thr.toNat) := by simp only [RS, h2, if_true]
      rw [← e1]
      simp only [go_sem, ↓reduceIte, Nat.reduceAdd, Nat.reduceMul, Nat.reduceSub, Nat.reduceLT, Nat.reduceLeDiff, Nat.reduceEqDiff, Int.reduceToNat, Int.reduceEq, Int.reduceLT, Int.reduceLE, reduceCtorEq, Mr]
  · have h1' : ¬ (i : Int) < l.length := by omega
    have e : i = l.length := by omega
    unfold y83_1
    simp only [go_sem, ↓reduceIte, Nat.reduceAdd, Nat.reduceMul, Nat.reduceSub, Nat.reduceLT, Nat.reduceLeDiff, Nat.reduceEqDiff, Int.reduceToNat, Int.reduceEq, Int.reduceLT, Int.reduceLE, reduceCtorEq, Gy_eq, Mr, h1']
    subst e
    refine ⟨trivial, [], ?_⟩
    simp only [go_sem, ↓reduceIte, Nat.reduceAdd, Nat.reduceMul, Nat.reduceSub, Nat.reduceLT, Nat.reduceLeDiff, Nat.reduceEqDiff, Int.reduceToNat, Int.reduceEq, Int.reduceLT, Int.reduceLE, reduceCtorEq]
theorem f_run (l : List Ev) (h : (playedF l).2.2 = 0) : FnOK Try.prog 48 [dEs.emb l] [] (.tup [dGs.emb (RS l l.length).1, .vec 0 (RS l l.length).2.length, .int .i64 0]) [.vec 60 3 ((RS l l.length).2.map dFl.emb)] := by
  refine fn_walkX c48 w48 Gr_ok rfl ?_
  unfold j48
  simp only [go_sem, ↓reduceIte, Nat.reduceAdd, Nat.reduceMul, Nat.reduceSub, Nat.reduceLT, Nat.reduceLeDiff, Nat.reduceEqDiff, Int.reduceToNat, Int.reduceEq, Int.reduceLT, Int.reduceLE, reduceCtorEq, Gr_eq, h]
  refine loopF Nat (fun i => [.int .i64 i]) (fun i => [.blk 29 (dEs.emb l), .blk 40 (dGs.emb (gInit i)), .blk 45 .nils]) (fun i => i ≤ 8) (fun i => 8 - i) 0 (by omega) ?_ ?_ ?_
  · simp only [go_sem, ↓reduceIte, Nat.reduceAdd, Nat.reduceMul, Nat.reduceSub, Nat.reduceLT, Nat.reduceLeDiff, Nat.reduceEqDiff, Int.reduceToNat, Int.reduceEq, Int.reduceLT, Int.reduceLE, reduceCtorEq]
  · simp only [go_sem, ↓reduceIte, Nat.reduceAdd, Nat.reduceMul, Nat.reduceSub, Nat.reduceLT, Nat.reduceLeDiff, Nat.reduceEqDiff, Int.reduceToNat, Int.reduceEq, Int.reduceLT, Int.reduceLE, reduceCtorEq, gInit]
  intro i hi
  by_cases h1 : i < 8
  · have h1' : (i : Int) < 8 := by omega
    have hw : IntKind.i64.wrap ((i : Int) + 1) = ((i + 1 : Nat) : Int) := IntWalk.i64_in _ (by omega)
    unfold j48_1
    simp only [go_sem, ↓reduceIte, Nat.reduceAdd, Nat.reduceMul, Nat.reduceSub, Nat.reduceLT, Nat.reduceLeDiff, Nat.reduceEqDiff, Int.reduceToNat, Int.reduceEq, Int.reduceLT, Int.reduceLE, reduceCtorEq, h1, h1', hw, upd_gs]
    exact ⟨by omega, i + 1, by omega, by omega, rfl, by simp only [gInit_st, gInit_th, gInit_lk]⟩
  · have e : i = 8 := by omega
    subst e
    unfold j48_1
    simp only [go_sem, ↓reduceIte, Nat.reduceAdd, Nat.reduceMul, Nat.reduceSub, Nat.reduceLT, Nat.reduceLeDiff, Nat.reduceEqDiff, Int.reduceToNat, Int.reduceEq, Int.reduceLT, Int.reduceLE, reduceCtorEq, Gr_eq]
    refine rfK_use (m2 := Mr l (RS l 0)) (m1 := Mr l (RS l l.length)) (fun K h => h) rfl (by kernel_rfl) ?_ ?_ ?_ ?_
    · simp only [go_sem, ↓reduceIte, Nat.reduceAdd, Nat.reduceMul, Nat.reduceSub, Nat.reduceLT, Nat.reduceLeDiff, Nat.reduceEqDiff, Int.reduceToNat, Int.reduceEq, Int.reduceLT, Int.reduceLE, reduceCtorEq]
    · simp only [go_sem, ↓reduceIte, Nat.reduceAdd, Nat.reduceMul, Nat.reduceSub, Nat.reduceLT, Nat.reduceLeDiff, Nat.reduceEqDiff, Int.reduceToNat, Int.reduceEq, Int.reduceLT, Int.reduceLE, reduceCtorEq]
    · exact it_run l h
    · simp only [go_sem, ↓reduceIte, Nat.reduceAdd, Nat.reduceMul, Nat.reduceSub, Nat.reduceLT, Nat.reduceLeDiff, Nat.reduceEqDiff, Int.reduceToNat, Int.reduceEq, Int.reduceLT, Int.reduceLE, reduceCtorEq, tszGs, tszFls]
end Go.Proofs.Ytafcmgfmmlnngaa.Gu
