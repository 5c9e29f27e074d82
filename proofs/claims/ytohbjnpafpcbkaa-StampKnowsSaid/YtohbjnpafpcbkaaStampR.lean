/- Stamps, and its reference. Conditions: none. -/
import Derived.Test.YtohbjnpafpcbkaaStamp
import Derived.Test.YtohbjnpafpcbkaaOrderB
set_option linter.unusedSimpArgs false
set_option linter.unusedVariables false
set_option maxRecDepth 100000
open Go Go.Sx Go.Proofs
namespace Go.Proofs.Ytohbjnpafpcbkaa.St
open Go.Proofs.Ytohbjnpafpcbkaa.D Go.Proofs.Ytohbjnpafpcbkaa.Tr Go.Proofs.Ytohbjnpafpcbkaa.C Go.Proofs.Ytohbjnpafpcbkaa.Ah
def zeroK : Kp := ⟨fun _ _ => 0, fun _ _ => 0, fun _ _ => 0⟩
/-- The keeper behind the first i events; the clocks that it told. -/
def kAt (l : List Ev) : Nat → Kp
  | 0 => zeroK
  | i + 1 => takeK (kAt l i) (l.getD i dEv.dft)
def stL (l : List Ev) (n : Nat) : List Clk := tb n fun i => nowC (kAt l i) (l.getD i dEv.dft)
def stampsF (l : List Ev) : List Clk := if (playedF l).2.2 = 0 then stL l l.length else []
def j38_1 : JC :=
  (.seq (.ops <|
  qo 23 (.cmp .lss (.t 22) (.t 21)) <|
  .nil)
  (.seq (.cond (.t 23)
  .skip
  (.exit 0))
  (.seq (.block 1 (.seq (.ops <|
  qo 24 (.is 3 (.t 20) (.t 22)) <|
  eo 25 (.load 3 true (.t 24)) <|
  eo 9 (.alloc 54 (.agg [(.int .i64 0), (.int .i64 0), (.int .i64 0)])) <|
  en (.store 3 (.t 9) (.t 25)) <|
  .nil)
  (.prune [7, 6, 9, 22, 21, 20] (.ops <|
  qo 26 (.mv (.t 7)) <|
  qo 27 (.mv (.t 6)) <|
  eo 28 (.load 3 true (.t 9)) <|
  eo 29 (.call 69 [(.t 27), (.t 28)]) <|
  .prune [29, 26, 22, 21, 20, 6] <|
  eo 30 (.bsl 68 6 1 (.arr 6 1 fun _ => (.int .i64 0)) [(0, (.t 29))]) <|
  eo 31 (.app 68 6 48 (.t 26) (.t 30)) <|
  qo 7 (.mv (.t 31)) <|
  .nil))))
  (.prune [22, 21, 20, 7, 6] (.ops <|
  qo 32 (.ar .add (.t 22) (I 1)) <|
  qo 22 (.mv (.t 32)) <|
  .nil)))))
def j38_2 : JC :=
  (.prune [7] (.seq (.ops <|
  qo 33 (.mv (.t 7)) <|
  qo 2 (.mv (.t 33)) <|
  qo 3 (.mv (I 0)) <|
  .nil)
  (.vecs 2 68 6 .ret)))
def j38 : JC :=
  (.seq (.ops <|
  qo 2 (.mv (.c .nils)) <|
  qo 3 (.mv (I 0)) <|
  .nil)
  (.seq (.seq (.ops <|
  qo 11 (.mv (.t 0)) <|
  eo 12 (.call 17 [(.t 11)]) <|
  qo 10 (.mv (.t 12)) <|
  qo 13 (.ext 0 (.t 10)) <|
  qo 14 (.ext 1 (.t 10)) <|
  qo 4 (.mv (.t 13)) <|
  qo 5 (.mv (.t 14)) <|
  .nil)
  (.seq (.ops <|
  qo 15 (.mv (.t 5)) <|
  qo 16 (.cmp .neq (.t 15) (I 0)) <|
  .nil)
  (.prune [16, 5, 0] (.cond (.t 16)
  (.seq (.ops <|
  qo 17 (.mv (.t 5)) <|
  qo 2 (.mv (.c .nils)) <|
  qo 3 (.mv (.t 17)) <|
  .nil)
  (.vecs 2 68 6 .ret))
  .skip))))
  (.prune [0] (.seq (.ops <|
  qo 18 (.bld (.agg [(.arr 6 6 fun _ => (.arr 6 1 fun _ => (.int .i64 0))), (.arr 5 6 fun _ => (.arr 6 1 fun _ => (.int .i64 0))), (.arr 4 6 fun _ => (.arr 6 1 fun _ => (.int .i64 0)))]) []) <|
  eo 19 (.box 118 (.t 18)) <|
  qo 6 (.mv (.t 19)) <|
  .nil)
  (.seq (.ops <|
  qo 7 (.mv (.c .nils)) <|
  .nil)
  (.seq (.seq (.ops <|
  qo 20 (.mv (.t 0)) <|
  qo 21 (.len (.t 20)) <|
  qo 22 (.mv (I 0)) <|
  .nil)
  (.block 0 (.vecs 7 68 6 (.loop [21, 20, 6] [22, 7] j38_1))))
  j38_2))))))
theorem c38 : fnIs Try.prog qall 38 = some (j38.flat, [.tmp 2, .tmp 3], 34) := by kernel_rfl
theorem w38 : j38.wf 34 = true := by kernel_rfl
def Gst (f : FuncId) (a : List SV) (m : List Res) : Sx.Call := (FH.rd 17 (.one dEs) (.two .int .int) (fun _ => True) (fun y => (playedF y.1).2) <|
  FH.mt 69 118 dKp (.one dEv) (.one dClk) (fun _ y => isEv y.1 = true) (fun k y => nowC k y.1) (fun k y => takeK k y.1) FH.none) f a m
theorem Gst_eq (f : FuncId) (a : List SV) (m : List Res) : Gst f a m = (FH.rd 17 (.one dEs) (.two .int .int) (fun _ => True) (fun y => (playedF y.1).2) <|
  FH.mt 69 118 dKp (.one dEv) (.one dClk) (fun _ y => isEv y.1 = true) (fun k y => nowC k y.1) (fun k y => takeK k y.1) FH.none) f a m := nr rfl
theorem Gst_ok : FHOK Try.prog Gst := FH.rd_ok (by kernel_rfl) (fun y _ => f_Check y.1) <| FH.mt_ok (by kernel_rfl) (fun k y h => f_takesK k y.1 h) FH.none_ok
theorem f_Stamps (l : List Ev) : FnOK Try.prog 38 [dEs.emb l] [] (.tup [.vec 0 (stampsF l).length, .int .i64 (playedF l).2.2]) [.vec 68 6 ((stampsF l).map dClk.emb)] := by
  refine fn_walkF c38 w38 Gst_ok rfl ?_
  unfold j38
  simp only [go_sem, ↓reduceIte, Nat.reduceAdd, Nat.reduceMul, Nat.reduceSub, Nat.reduceLT, Nat.reduceLeDiff, Nat.reduceEqDiff, Int.reduceToNat, Int.reduceEq, Int.reduceLT, Int.reduceLE, reduceCtorEq, Gst_eq]
  refine ⟨fun h => by simp [stampsF, h], fun h => ?_⟩
  have h' : (checkR l).2 = 0 := by rw [← played_check]; exact h
  have hl := ok_len h'
  rw [stampsF, if_pos h, h]
  refine loopF Nat (fun i => [.int .i64 i, .vec 1 (stL l i).length]) (fun i => [.blk 118 (dKp.emb (kAt l i)), .vec 68 6 ((stL l i).map dClk.emb)]) (fun i => i ≤ l.length) (fun i => l.length - i) 0 (by omega) ?_ rfl ?_
  · simp only [go_sem, ↓reduceIte, Nat.reduceAdd, Nat.reduceMul, Nat.reduceSub, Nat.reduceLT, Nat.reduceLeDiff, Nat.reduceEqDiff, Int.reduceToNat, Int.reduceEq, Int.reduceLT, Int.reduceLE, reduceCtorEq]
    rfl
  intro i hi
  by_cases h1 : i < l.length
  · have h1' : (i : Int) < l.length := by omega
    have he := ok_isEv h' i h1
    unfold j38_1
    simp only [go_sem, ↓reduceIte, Nat.reduceAdd, Nat.reduceMul, Nat.reduceSub, Nat.reduceLT, Nat.reduceLeDiff, Nat.reduceEqDiff, Int.reduceToNat, Int.reduceEq, Int.reduceLT, Int.reduceLE, reduceCtorEq, Gst_eq, h1, h1', he]
    have e1 : stL l (i + 1) = stL l i ++ [nowC (kAt l i) (l.getD i dEv.dft)] := tb_snoc
    have e2 : (stL l i).length = i := tb_len
    refine ⟨by omega, by omega, i + 1, by omega, by omega, ⟨IntWalk.i64_in _ (by omega), by rw [e1, List.length_append]; rfl⟩, ?_⟩
    rw [e1, List.map_append]
    rfl
  · have h1' : ¬ (i : Int) < l.length := by omega
    unfold j38_1
    simp only [go_sem, ↓reduceIte, Nat.reduceAdd, Nat.reduceMul, Nat.reduceSub, Nat.reduceLT, Nat.reduceLeDiff, Nat.reduceEqDiff, Int.reduceToNat, Int.reduceEq, Int.reduceLT, Int.reduceLE, reduceCtorEq, h1']
    unfold j38_2
    simp only [go_sem, ↓reduceIte, Nat.reduceAdd, Nat.reduceMul, Nat.reduceSub, Nat.reduceLT, Nat.reduceLeDiff, Nat.reduceEqDiff, Int.reduceToNat, Int.reduceEq, Int.reduceLT, Int.reduceLE, reduceCtorEq]
    rw [show i = l.length by omega]
    exact ⟨rfl, rfl⟩
/-- Of the first n places: how many are in a set, and of a thread. -/
def cw (l : List Ev) (S : Nat → Bool) (u : Nat) : Nat → Int
  | 0 => 0
  | i + 1 => if S i = true ∧ (l.getD i dEv.dft).thr.toNat = u then IntKind.i64.wrap (cw l S u i + 1) else cw l S u i
def setR (l : List Ev) (j : Nat) : Nat → Bool := fun i => decide (i = j) || aheadR l i j
/-- The reference's table, told as far as (j, i). -/
def stR (l : List Ev) (j i : Nat) : List Clk := tb l.length fun a u => if a < j then cw l (setR l a) u l.length else if a = j then cw l (setR l a) u i else 0
def rstampsF (l : List Ev) : List Clk := tb l.length fun a u => cw l (setR l a) u l.length
def j40_1 : JC :=
  (.seq (.ops <|
  qo 20 (.cmp .lss (.t 19) (.t 18)) <|
  .nil)
  (.seq (.cond (.t 20)
  .skip
  (.exit 2))
  (.seq (.block 3 (.seq (.ops <|
  qo 21 (.mv (.t 19)) <|
  qo 6 (.mv (.t 21)) <|
  .nil)
  (.prune [6, 5, 3, 4, 0, 19, 18, 14, 13] (.seq (.ops <|
  qo 22 (.mv (.t 6)) <|
  qo 23 (.mv (.t 5)) <|
  qo 24 (.cmp .eql (.t 22) (.t 23)) <|
  qo 25 (.mv (.t 24)) <|
  .prune [25, 3, 6, 5, 4, 0, 19, 18, 14, 13] <|
  .sc true 33 25 (qo 26 (.mv (.t 3)) <|
  qo 27 (.mv (.t 6)) <|
  qo 28 (.is 1 (.t 26) (.t 27)) <|
  eo 29 (.load 1 false (.t 28)) <|
  qo 30 (.mv (.t 5)) <|
  qo 31 (.is 1 (.t 29) (.t 30)) <|
  eo 32 (.load 1 false (.t 31)) <|
  .nil) (.t 32) <|
  .nil)
  (.prune [33, 4, 5, 0, 6, 19, 18, 3, 14, 13] (.cond (.t 33)
  (.dops <|
  qo 34 (.mv (.t 4)) <|
  qo 35 (.mv (.t 5)) <|
  qo 36 (.mv (.t 0)) <|
  qo 37 (.mv (.t 6)) <|
  qo 38 (.is 3 (.t 36) (.t 37)) <|
  .prune [38, 34, 35, 19, 18, 5, 3, 4, 0, 14, 13] <|
  qo 39 (.fa 1 1 (.t 38)) <|
  eo 40 (.load 1 false (.t 39)) <|
  qo 41 (.is 6 (.t 34) (.t 35)) <|
  qo 42 (.ia 6 1 (.t 41) (.t 40)) <|
  .prune [42, 34, 35, 40, 19, 18, 5, 3, 4, 0, 14, 13] <|
  eo 43 (.load 1 false (.t 42)) <|
  qo 44 (.ar .add (.t 43) (I 1)) <|
  qo 45 (.is 6 (.t 34) (.t 35)) <|
  qo 46 (.ia 6 1 (.t 45) (.t 40)) <|
  en (.store 1 (.t 46) (.t 44)) <|
  .nil)
  .skip))))))
  (.prune [19, 18, 5, 3, 4, 0, 14, 13] (.ops <|
  qo 47 (.ar .add (.t 19) (I 1)) <|
  qo 19 (.mv (.t 47)) <|
  .nil)))))
def j40_2 : JC :=
  (.prune [14, 13, 0, 3, 4] (.ops <|
  qo 48 (.ar .add (.t 14) (I 1)) <|
  qo 14 (.mv (.t 48)) <|
  .nil))
def j40_3 : JC :=
  (.seq (.ops <|
  qo 15 (.cmp .lss (.t 14) (.t 13)) <|
  .nil)
  (.seq (.cond (.t 15)
  .skip
  (.exit 0))
  (.seq (.block 1 (.seq (.ops <|
  qo 16 (.mv (.t 14)) <|
  qo 5 (.mv (.t 16)) <|
  .nil)
  (.seq (.ops <|
  qo 17 (.mv (.t 0)) <|
  qo 18 (.len (.t 17)) <|
  qo 19 (.mv (I 0)) <|
  .nil)
  (.prune [19, 18, 5, 3, 4, 0, 14, 13] (.block 2 (.loop [18, 5, 3, 4, 0, 14, 13] [19] j40_1))))))
  j40_2)))
def j40_4 : JC :=
  (.prune [4] (.seq (.ops <|
  qo 49 (.mv (.t 4)) <|
  qo 2 (.mv (.t 49)) <|
  .nil)
  (.vecs 2 68 6 (.frz 2 dClks.frz .ret))))
def j40 : JC :=
  (.seq (.ops <|
  qo 2 (.mv (.c .nils)) <|
  .nil)
  (.seq (.ops <|
  qo 7 (.mv (.t 0)) <|
  eo 8 (.call 45 [(.t 7)]) <|
  qo 3 (.mv (.t 8)) <|
  .nil)
  (.seq (.ops <|
  qo 9 (.mv (.t 0)) <|
  qo 10 (.len (.t 9)) <|
  eo 11 (.mks 68 6 48 (.arr 6 1 fun _ => (.int .i64 0)) (.t 10) (.t 10)) <|
  qo 4 (.mv (.t 11)) <|
  .nil)
  (.seq (.seq (.ops <|
  .prune [0, 3, 4] <|
  qo 12 (.mv (.t 0)) <|
  qo 13 (.len (.t 12)) <|
  qo 14 (.mv (I 0)) <|
  .nil)
  (.prune [14, 13, 0, 3, 4] (.block 0 (.loop [13, 0, 3, 4] [14] j40_3))))
  j40_4))))
theorem c40 : fnIs Try.prog qall 40 = some (j40.flat, [.tmp 2], 50) := by kernel_rfl
theorem w40 : j40.wf 50 = true := by kernel_rfl
def Grs (f : FuncId) (a : List SV) (m : List Res) : Sx.Call := (FH.pz 45 (.one dEs) (.one dRows) (fun y => y.1.length ≤ 1000) (fun y => rowsOf y.1.length (aheadR y.1)) FH.none) f a m
theorem Grs_eq (f : FuncId) (a : List SV) (m : List Res) : Grs f a m = (FH.pz 45 (.one dEs) (.one dRows) (fun y => y.1.length ≤ 1000) (fun y => rowsOf y.1.length (aheadR y.1)) FH.none) f a m := nr rfl
theorem Grs_ok : FHOK Try.prog Grs := FH.pz_ok (by kernel_rfl) (fun y h => f_RAhead y.1 h) FH.none_ok
theorem f_RStamps (l : List Ev) (hok : (checkR l).2 = 0) : FnOK Try.prog 40 [dEs.emb l] [] (dClks.emb (rstampsF l)) [] := by
  have hl := ok_len hok
  refine fn_walkF c40 w40 Grs_ok rfl ?_
  unfold j40
  simp only [go_sem, ↓reduceIte, Nat.reduceAdd, Nat.reduceMul, Nat.reduceSub, Nat.reduceLT, Nat.reduceLeDiff, Nat.reduceEqDiff, Int.reduceToNat, Int.reduceEq, Int.reduceLT, Int.reduceLE, reduceCtorEq, Grs_eq]
  refine ⟨by omega, ⟨by omega, by omega⟩, ?_⟩
  refine loopF Nat (fun j => [.int .i64 j]) (fun j => [.vec 68 6 ((stR l j 0).map dClk.emb)]) (fun j => j ≤ l.length) (fun j => l.length - j) 0 (by omega) ?_ ?_ ?_
  · simp only [go_sem, ↓reduceIte, Nat.reduceAdd, Nat.reduceMul, Nat.reduceSub, Nat.reduceLT, Nat.reduceLeDiff, Nat.reduceEqDiff, Int.reduceToNat, Int.reduceEq, Int.reduceLT, Int.reduceLE, reduceCtorEq]
  · have e : (stR l 0 0).map dClk.emb = List.replicate l.length (.arr 6 1 fun _ => .int .i64 0) := by
      rw [tb_replicate, stR, tb_map]
      refine tb_congr fun a ha => ?_
      rw [clk_emb]
      congr 1
      funext u
      by_cases e : a = 0
      · simp [e, cw]
      · simp [e]
    rw [e]
  intro j hj
  by_cases h1 : j < l.length
  · have h1' : (j : Int) < l.length := by omega
    unfold j40_3
    simp only [go_sem, ↓reduceIte, Nat.reduceAdd, Nat.reduceMul, Nat.reduceSub, Nat.reduceLT, Nat.reduceLeDiff, Nat.reduceEqDiff, Int.reduceToNat, Int.reduceEq, Int.reduceLT, Int.reduceLE, reduceCtorEq, h1']
    refine loopF Nat (fun i => [.int .i64 i]) (fun i => [.vec 68 6 ((stR l j i).map dClk.emb)]) (fun i => i ≤ l.length) (fun i => l.length - i) 0 (by omega) ?_ rfl ?_
    · simp only [go_sem, ↓reduceIte, Nat.reduceAdd, Nat.reduceMul, Nat.reduceSub, Nat.reduceLT, Nat.reduceLeDiff, Nat.reduceEqDiff, Int.reduceToNat, Int.reduceEq, Int.reduceLT, Int.reduceLE, reduceCtorEq]
    intro i hi
    by_cases h2 : i < l.length
    · have h2' : (i : Int) < l.length := by omega
      obtain ⟨b1, b2, b3, b4⟩ := (isEv_iff _).1 (ok_isEv hok i h2)
      have hlen : (stR l j i).length = l.length := tb_len
      have hg := clk_getD (l := stR l j i) (i := j) (by rw [hlen]; exact h1)
      have hij : (decide ((i : Int) = (j : Int)) || aheadR l i j) = setR l j i := by rw [setR]; congr 1; exact decide_eq_decide.2 (by omega)
      unfold j40_1
      simp only [go_sem, ↓reduceIte, Nat.reduceAdd, Nat.reduceMul, Nat.reduceSub, Nat.reduceLT, Nat.reduceLeDiff, Nat.reduceEqDiff, Int.reduceToNat, Int.reduceEq, Int.reduceLT, Int.reduceLE, reduceCtorEq, h1, h2, h1', h2', rows_len, rows_row h2, rows_at h2 h1, hlen, hg, clk_set, b1, b2]
      have hgj : (stR l j i).getD j dClk.dft = fun u => cw l (setR l j) u i := by
        rw [stR, tb_getD h1]; funext u; simp
      rw [hij, hgj]
      refine ⟨fun _ => ⟨by omega, by omega⟩, fun h3 => ⟨by omega, by omega, by omega, i + 1, by omega, by omega, IntWalk.i64_in _ (by omega), ?_⟩, fun h3 => ⟨i + 1, by omega, by omega, IntWalk.i64_in _ (by omega), ?_⟩⟩
      · have e : ((stR l j i).set j fun u => if u = (l.getD i dEv.dft).thr.toNat then IntKind.i64.wrap (cw l (setR l j) (l.getD i dEv.dft).thr.toNat i + 1) else cw l (setR l j) u i) = stR l j (i + 1) := by
          unfold stR
          rw [tb_set]
          refine tb_congr fun a ha => ?_
          by_cases e : a = j
          · subst e
            funext u
            by_cases e2 : u = (l.getD i dEv.dft).thr.toNat
            · subst e2; simp [cw, h3]
            · have e3 : ¬ (l.getD i dEv.dft).thr.toNat = u := fun h => e2 h.symm
              simp only [if_true, Nat.lt_irrefl, if_false, e2, cw, e3, and_false]
          · simp [e]
        rw [e]
      · have e : stR l j i = stR l j (i + 1) := by
          unfold stR
          refine tb_congr fun a ha => ?_
          funext u
          by_cases e : a = j
          · subst e
            simp [cw, h3]
          · simp [e]
        rw [e]
    · have h2' : ¬ (i : Int) < l.length := by omega
      unfold j40_1
      simp only [go_sem, ↓reduceIte, Nat.reduceAdd, Nat.reduceMul, Nat.reduceSub, Nat.reduceLT, Nat.reduceLeDiff, Nat.reduceEqDiff, Int.reduceToNat, Int.reduceEq, Int.reduceLT, Int.reduceLE, reduceCtorEq, h2']
      unfold j40_2
      simp only [go_sem, ↓reduceIte, Nat.reduceAdd, Nat.reduceMul, Nat.reduceSub, Nat.reduceLT, Nat.reduceLeDiff, Nat.reduceEqDiff, Int.reduceToNat, Int.reduceEq, Int.reduceLT, Int.reduceLE, reduceCtorEq]
      refine ⟨j + 1, by omega, by omega, IntWalk.i64_in _ (by omega), ?_⟩
      have ei : i = l.length := by omega
      subst ei
      have e : stR l j l.length = stR l (j + 1) 0 := by
        unfold stR
        refine tb_congr fun a ha => ?_
        funext u
        by_cases e : a = j
        · subst e; simp
        · by_cases e2 : a < j
          · simp [e2, show a < j + 1 by omega]
          · simp [e2, e, show ¬ a < j + 1 by omega, cw]
      rw [e]
  · have h1' : ¬ (j : Int) < l.length := by omega
    unfold j40_3
    simp only [go_sem, ↓reduceIte, Nat.reduceAdd, Nat.reduceMul, Nat.reduceSub, Nat.reduceLT, Nat.reduceLeDiff, Nat.reduceEqDiff, Int.reduceToNat, Int.reduceEq, Int.reduceLT, Int.reduceLE, reduceCtorEq, h1']
    unfold j40_4
    simp only [go_sem, ↓reduceIte, Nat.reduceAdd, Nat.reduceMul, Nat.reduceSub, Nat.reduceLT, Nat.reduceLeDiff, Nat.reduceEqDiff, Int.reduceToNat, Int.reduceEq, Int.reduceLT, Int.reduceLE, reduceCtorEq]
    have ej : j = l.length := by omega
    subst ej
    have e : stR l l.length 0 = rstampsF l := by
      unfold stR rstampsF
      refine tb_congr fun a ha => ?_
      funext u
      simp [ha]
    rw [e]
end Go.Proofs.Ytohbjnpafpcbkaa.St
