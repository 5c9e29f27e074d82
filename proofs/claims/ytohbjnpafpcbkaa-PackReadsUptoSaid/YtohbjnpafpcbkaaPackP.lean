/- The package pack: Pack; and its reference. Conditions: none. -/
import Derived.Test.YtohbjnpafpcbkaaTraceR
set_option linter.unusedSimpArgs false
set_option linter.unusedVariables false
set_option maxRecDepth 100000
open Go Go.Sx Go.Proofs
namespace Go.Proofs.Ytohbjnpafpcbkaa.Pk
open Go.Proofs.Ytohbjnpafpcbkaa.D Go.Proofs.Ytohbjnpafpcbkaa.Tr
abbrev dBs : DT (List Int) := DT.list 1 DT.byte
def addW (n c : Int) : Int := IntKind.i64.wrap (n + IntKind.i64.wrap c)
def sumW (bs : List Int) : Int := bs.foldl addW 0
def u8 (n : Int) : Int := IntKind.u8.wrap n
def hiB (n : Int) : Int := u8 (n.fdiv (2 ^ (min 8 64)))
def j66_1 : JC :=
  (.seq (.ops <|
  qo 9 (.cmp .lss (.t 8) (.t 7)) <|
  .nil)
  (.seq (.cond (.t 9)
  .skip
  (.exit 0))
  (.seq (.block 1 (.seq (.ops <|
  qo 10 (.is 1 (.t 6) (.t 8)) <|
  eo 11 (.load 1 false (.t 10)) <|
  qo 5 (.mv (.t 11)) <|
  .nil)
  (.ops <|
  .prune [3, 5, 8, 7, 6] <|
  qo 12 (.mv (.t 3)) <|
  qo 13 (.mv (.t 5)) <|
  qo 14 (.conv .i64 (.t 13)) <|
  qo 15 (.ar .add (.t 12) (.t 14)) <|
  qo 3 (.mv (.t 15)) <|
  .nil)))
  (.prune [8, 7, 6, 3] (.ops <|
  qo 16 (.ar .add (.t 8) (I 1)) <|
  qo 8 (.mv (.t 16)) <|
  .nil)))))
def j66_2 : JC :=
  (.prune [3] (.seq (.ops <|
  qo 17 (.mv (.t 3)) <|
  qo 18 (.ar .shr (.t 17) (.c (.int .u64 8))) <|
  qo 19 (.conv .u8 (.t 18)) <|
  qo 20 (.mv (.t 3)) <|
  qo 21 (.conv .u8 (.t 20)) <|
  eo 22 (.bsl 5 1 2 (.int .u8 0) [(0, (.t 19)), (1, (.t 21))]) <|
  qo 2 (.mv (.t 22)) <|
  .nil)
  (.vecs 2 5 1 .ret)))
def j66 : JC :=
  (.seq (.ops <|
  qo 2 (.mv (.c .nils)) <|
  .nil)
  (.seq (.ops <|
  qo 3 (.mv (I 0)) <|
  .nil)
  (.seq (.seq (.ops <|
  qo 6 (.mv (.t 0)) <|
  qo 7 (.len (.t 6)) <|
  qo 8 (.mv (I 0)) <|
  .nil)
  (.block 0 (.loop [7, 6] [8, 3] j66_1)))
  j66_2)))
theorem c66 : fnIs Try.prog qall 66 = some (j66.flat, [.tmp 2], 23) := by kernel_rfl
theorem w66 : j66.wf 23 = true := by kernel_rfl
theorem f_sum (bs : List Int) : FnOK Try.prog 66 [dBs.emb bs] [] (.vec 0 2) [.vec 5 1 [.int .u8 (hiB (sumW bs)), .int .u8 (u8 (sumW bs))]] := by
  refine fn_len fun hB => fn_walkF c66 w66 FH.none_ok rfl ?_
  simp only [go_sem, ↓reduceIte, Nat.reduceAdd, Nat.reduceMul, Nat.reduceSub, Nat.reduceLT, Nat.reduceLeDiff, Nat.reduceEqDiff, Int.reduceToNat, Int.reduceEq, Int.reduceLT, Int.reduceLE, reduceCtorEq] at hB
  unfold j66
  simp only [go_sem, ↓reduceIte, Nat.reduceAdd, Nat.reduceMul, Nat.reduceSub, Nat.reduceLT, Nat.reduceLeDiff, Nat.reduceEqDiff, Int.reduceToNat, Int.reduceEq, Int.reduceLT, Int.reduceLE, reduceCtorEq]
  refine loopF Nat (fun i => [.int .i64 i, .int .i64 (sumW (bs.take i))]) (fun i => []) (fun i => i ≤ bs.length) (fun i => bs.length - i) 0 (by omega) ?_ rfl ?_
  · simp only [go_sem, ↓reduceIte, Nat.reduceAdd, Nat.reduceMul, Nat.reduceSub, Nat.reduceLT, Nat.reduceLeDiff, Nat.reduceEqDiff, Int.reduceToNat, Int.reduceEq, Int.reduceLT, Int.reduceLE, reduceCtorEq]
    rfl
  intro i hi
  by_cases h1 : i < bs.length
  · have h1' : (i : Int) < bs.length := by omega
    have hw : IntKind.i64.wrap ((i : Int) + 1) = ((i + 1 : Nat) : Int) := IntWalk.i64_in _ (by omega)
    have hs : sumW (bs.take (i + 1)) = addW (sumW (bs.take i)) (bs.getD i 0) := by rw [take_getD 0 h1, sumW, List.foldl_append]; rfl
    unfold j66_1
    simp only [go_sem, ↓reduceIte, Nat.reduceAdd, Nat.reduceMul, Nat.reduceSub, Nat.reduceLT, Nat.reduceLeDiff, Nat.reduceEqDiff, Int.reduceToNat, Int.reduceEq, Int.reduceLT, Int.reduceLE, reduceCtorEq, h1, h1', hw]
    exact ⟨by omega, i + 1, by omega, by omega, rfl, by rw [hs]; rfl⟩
  · have h1' : ¬ (i : Int) < bs.length := by omega
    have e : i = bs.length := by omega
    unfold j66_1
    simp only [go_sem, ↓reduceIte, Nat.reduceAdd, Nat.reduceMul, Nat.reduceSub, Nat.reduceLT, Nat.reduceLeDiff, Nat.reduceEqDiff, Int.reduceToNat, Int.reduceEq, Int.reduceLT, Int.reduceLE, reduceCtorEq, h1']
    subst e
    unfold j66_2
    simp only [go_sem, ↓reduceIte, Nat.reduceAdd, Nat.reduceMul, Nat.reduceSub, Nat.reduceLT, Nat.reduceLeDiff, Nat.reduceEqDiff, Int.reduceToNat, Int.reduceEq, Int.reduceLT, Int.reduceLE, reduceCtorEq, List.take_length]
    rfl
def chrB (n : Int) : UInt8 := UInt8.ofNat (u8 n).toNat

def j67 : JC :=
  (.seq (.ops <|
  qo 2 (.mv (.c (.str []))) <|
  .nil)
  (.seq (.ops <|
  qo 3 (.mv (.t 0)) <|
  qo 4 (.conv .u8 (.t 3)) <|
  eo 5 (.bsl 5 1 1 (.int .u8 0) [(0, (.t 4))]) <|
  eo 6 (.mop .strb [(.t 5)]) <|
  qo 2 (.mv (.t 6)) <|
  .nil)
  .ret))
theorem c67 : fnIs Try.prog qall 67 = some (j67.flat, [.tmp 2], 7) := by kernel_rfl
theorem w67 : j67.wf 7 = true := by kernel_rfl
theorem f_chr (n : Int) : FnOK Try.prog 67 [.int .i64 n] [] (.str [chrB n]) [] := by
  refine fn_walkF c67 w67 FH.none_ok rfl ?_
  unfold j67
  simp only [go_sem, ↓reduceIte, Nat.reduceAdd, Nat.reduceMul, Nat.reduceSub, Nat.reduceLT, Nat.reduceLeDiff, Nat.reduceEqDiff, Int.reduceToNat, Int.reduceEq, Int.reduceLT, Int.reduceLE, reduceCtorEq]
  rfl
def j68_1 : JC :=
  (.seq (.ops <|
  qo 8 (.cmp .lss (.t 7) (.t 6)) <|
  .nil)
  (.seq (.cond (.t 8)
  .skip
  (.exit 0))
  (.seq (.block 1 (.seq (.ops <|
  qo 9 (.mv (.t 7)) <|
  qo 4 (.mv (.t 9)) <|
  .nil)
  (.ops <|
  qo 10 (.mv (.t 3)) <|
  .prune [0, 4, 10, 7, 6] <|
  qo 11 (.mv (.t 0)) <|
  qo 12 (.mv (.t 4)) <|
  qo 13 (.sx (.t 11) (.t 12)) <|
  .prune [13, 10, 7, 6, 0] <|
  qo 14 (.conv .i64 (.t 13)) <|
  qo 15 (.ar .add (.t 10) (.t 14)) <|
  qo 3 (.mv (.t 15)) <|
  .nil)))
  (.prune [7, 6, 3, 0] (.ops <|
  qo 16 (.ar .add (.t 7) (I 1)) <|
  qo 7 (.mv (.t 16)) <|
  .nil)))))
def j68_2 : JC :=
  (.prune [3] (.seq (.ops <|
  qo 17 (.mv (.t 3)) <|
  qo 2 (.mv (.t 17)) <|
  .nil)
  .ret))
def j68 : JC :=
  (.seq (.ops <|
  qo 2 (.mv (I 0)) <|
  .nil)
  (.seq (.ops <|
  qo 3 (.mv (I 0)) <|
  .nil)
  (.seq (.seq (.ops <|
  qo 5 (.mv (.t 0)) <|
  qo 6 (.lens (.t 5)) <|
  qo 7 (.mv (I 0)) <|
  .nil)
  (.block 0 (.loop [6, 0] [7, 3] j68_1)))
  j68_2)))
theorem c68 : fnIs Try.prog qall 68 = some (j68.flat, [.tmp 2], 18) := by kernel_rfl
theorem w68 : j68.wf 18 = true := by kernel_rfl
theorem f_sumOf (s : List UInt8) (hB : s.length ≤ 9223372036854775807) : FnOK Try.prog 68 [.str s] [] (.int .i64 (sumW (s.map fun b => (b.toNat : Int)))) [] := by
  refine fn_walkF c68 w68 FH.none_ok rfl ?_
  unfold j68
  simp only [go_sem, ↓reduceIte, Nat.reduceAdd, Nat.reduceMul, Nat.reduceSub, Nat.reduceLT, Nat.reduceLeDiff, Nat.reduceEqDiff, Int.reduceToNat, Int.reduceEq, Int.reduceLT, Int.reduceLE, reduceCtorEq]
  refine loopF Nat (fun i => [.int .i64 i, .int .i64 (sumW ((s.take i).map fun b => (b.toNat : Int)))]) (fun i => []) (fun i => i ≤ s.length) (fun i => s.length - i) 0 (by omega) ?_ rfl ?_
  · simp only [go_sem, ↓reduceIte, Nat.reduceAdd, Nat.reduceMul, Nat.reduceSub, Nat.reduceLT, Nat.reduceLeDiff, Nat.reduceEqDiff, Int.reduceToNat, Int.reduceEq, Int.reduceLT, Int.reduceLE, reduceCtorEq]
    rfl
  intro i hi
  by_cases h1 : i < s.length
  · have h1' : (i : Int) < s.length := by omega
    have hw : IntKind.i64.wrap ((i : Int) + 1) = ((i + 1 : Nat) : Int) := IntWalk.i64_in _ (by omega)
    have hs : sumW ((s.take (i + 1)).map fun b => (b.toNat : Int)) = addW (sumW ((s.take i).map fun b => (b.toNat : Int))) ((s.getD i 0).toNat : Int) := by rw [take_getD 0 h1, List.map_append, sumW, List.foldl_append]; rfl
    unfold j68_1
    simp only [go_sem, ↓reduceIte, Nat.reduceAdd, Nat.reduceMul, Nat.reduceSub, Nat.reduceLT, Nat.reduceLeDiff, Nat.reduceEqDiff, Int.reduceToNat, Int.reduceEq, Int.reduceLT, Int.reduceLE, reduceCtorEq, h1, h1', hw]
    exact ⟨by omega, i + 1, by omega, by omega, rfl, by rw [hs]; rfl⟩
  · have h1' : ¬ (i : Int) < s.length := by omega
    have e : i = s.length := by omega
    unfold j68_1
    simp only [go_sem, ↓reduceIte, Nat.reduceAdd, Nat.reduceMul, Nat.reduceSub, Nat.reduceLT, Nat.reduceLeDiff, Nat.reduceEqDiff, Int.reduceToNat, Int.reduceEq, Int.reduceLT, Int.reduceLE, reduceCtorEq, h1']
    subst e
    unfold j68_2
    simp only [go_sem, ↓reduceIte, Nat.reduceAdd, Nat.reduceMul, Nat.reduceSub, Nat.reduceLT, Nat.reduceLeDiff, Nat.reduceEqDiff, Int.reduceToNat, Int.reduceEq, Int.reduceLT, Int.reduceLE, reduceCtorEq, List.take_length]
/-- The bytes of an event, as the code and as the reference make them. -/
def evB (e : Ev) : List Int := [u8 (bitOr .i64 (IntKind.i64.wrap (e.thr * 2 ^ (min 3 64))) (IntKind.i64.wrap (e.kind - 1))), u8 e.obj]
def evR (e : Ev) : List UInt8 := [chrB (IntKind.i64.wrap (IntKind.i64.wrap (IntKind.i64.wrap (8 * e.thr) + e.kind) - 1)), chrB e.obj]
def bytesP (l : List Ev) (i : Nat) : List Int := [68, u8 l.length] ++ (l.take i).flatMap evB
def bytesR (l : List Ev) (i : Nat) : List UInt8 := [68, chrB l.length] ++ (l.take i).flatMap evR
theorem bytesP_len (l : List Ev) (i : Nat) (hi : i ≤ l.length) : (bytesP l i).length = 2 + 2 * i := by
  have : ∀ r : List Ev, (r.flatMap evB).length = 2 * r.length := by
    intro r; induction r with
    | nil => rfl
    | cons e r ih => simp only [List.flatMap_cons, List.length_append, ih, evB, List.length_cons, List.length_nil]; omega
  simp [bytesP, this, List.length_take]; omega
theorem bytesR_len (l : List Ev) (i : Nat) (hi : i ≤ l.length) : (bytesR l i).length = 2 + 2 * i := by
  have : ∀ r : List Ev, (r.flatMap evR).length = 2 * r.length := by
    intro r; induction r with
    | nil => rfl
    | cons e r ih => simp only [List.flatMap_cons, List.length_append, ih, evR, List.length_cons, List.length_nil]; omega
  simp [bytesR, this, List.length_take]; omega
theorem bytesP_succ {l : List Ev} {i : Nat} (hi : i < l.length) : bytesP l (i + 1) = bytesP l i ++ evB (l.getD i dEv.dft) := by
  rw [bytesP, take_getD dEv.dft hi, List.flatMap_append, bytesP]; simp
theorem bytesR_succ {l : List Ev} {i : Nat} (hi : i < l.length) : bytesR l (i + 1) = bytesR l i ++ evR (l.getD i dEv.dft) := by
  rw [bytesR, take_getD dEv.dft hi, List.flatMap_append, bytesR]; simp
def strOf (bs : List Int) : List UInt8 := bs.map fun n => UInt8.ofNat n.toNat
def packB (l : List Ev) : List Int := bytesP l l.length ++ [hiB (sumW (bytesP l l.length)), u8 (sumW (bytesP l l.length))]
def packF (l : List Ev) : List UInt8 × Int := if (playedF l).2.2 = 0 then (strOf (packB l), 0) else ([], (playedF l).2.2)
def j33_1 : JC :=
  (.seq (.ops <|
  qo 24 (.cmp .lss (.t 23) (.t 22)) <|
  .nil)
  (.seq (.cond (.t 24)
  .skip
  (.exit 0))
  (.seq (.block 1 (.seq (.ops <|
  qo 25 (.is 3 (.t 21) (.t 23)) <|
  eo 26 (.load 3 true (.t 25)) <|
  eo 8 (.alloc 54 (.agg [(.int .i64 0), (.int .i64 0), (.int .i64 0)])) <|
  en (.store 3 (.t 8) (.t 26)) <|
  .nil)
  (.ops <|
  .prune [6, 8, 23, 22, 21] <|
  qo 27 (.mv (.t 6)) <|
  qo 28 (.fa 1 1 (.t 8)) <|
  eo 29 (.load 1 false (.t 28)) <|
  qo 30 (.ar .shl (.t 29) (.c (.int .u64 3))) <|
  .prune [8, 30, 27, 23, 22, 21] <|
  qo 31 (.fa 0 0 (.t 8)) <|
  eo 32 (.load 1 false (.t 31)) <|
  qo 33 (.ar .sub (.t 32) (I 1)) <|
  qo 34 (.ar .or (.t 30) (.t 33)) <|
  .prune [34, 8, 27, 23, 22, 21] <|
  qo 35 (.conv .u8 (.t 34)) <|
  qo 36 (.fa 2 2 (.t 8)) <|
  eo 37 (.load 1 false (.t 36)) <|
  .prune [37, 35, 27, 23, 22, 21] <|
  qo 38 (.conv .u8 (.t 37)) <|
  eo 39 (.bsl 5 1 2 (.int .u8 0) [(0, (.t 35)), (1, (.t 38))]) <|
  eo 40 (.app 5 1 1 (.t 27) (.t 39)) <|
  qo 6 (.mv (.t 40)) <|
  .nil)))
  (.prune [23, 22, 21, 6] (.ops <|
  qo 41 (.ar .add (.t 23) (I 1)) <|
  qo 23 (.mv (.t 41)) <|
  .nil)))))
def j33_2 : JC :=
  (.prune [6] (.seq (.ops <|
  qo 42 (.mv (.t 6)) <|
  qo 43 (.mv (.t 6)) <|
  eo 44 (.call 66 [(.t 43)]) <|
  eo 45 (.app 5 1 1 (.t 42) (.t 44)) <|
  eo 46 (.mop .strb [(.t 45)]) <|
  qo 2 (.mv (.t 46)) <|
  qo 3 (.mv (I 0)) <|
  .nil)
  .ret))
def j33 : JC :=
  (.seq (.ops <|
  qo 2 (.mv (.c (.str []))) <|
  qo 3 (.mv (I 0)) <|
  .nil)
  (.seq (.seq (.ops <|
  qo 10 (.mv (.t 0)) <|
  eo 11 (.call 17 [(.t 10)]) <|
  qo 9 (.mv (.t 11)) <|
  qo 12 (.ext 0 (.t 9)) <|
  qo 13 (.ext 1 (.t 9)) <|
  qo 4 (.mv (.t 12)) <|
  qo 5 (.mv (.t 13)) <|
  .nil)
  (.seq (.ops <|
  qo 14 (.mv (.t 5)) <|
  qo 15 (.cmp .neq (.t 14) (I 0)) <|
  .nil)
  (.prune [15, 5, 0] (.cond (.t 15)
  (.seq (.ops <|
  qo 16 (.mv (.t 5)) <|
  qo 2 (.mv (.c (.str []))) <|
  qo 3 (.mv (.t 16)) <|
  .nil)
  .ret)
  .skip))))
  (.prune [0] (.seq (.ops <|
  qo 17 (.mv (.t 0)) <|
  qo 18 (.len (.t 17)) <|
  qo 19 (.conv .u8 (.t 18)) <|
  eo 20 (.bsl 5 1 2 (.int .u8 0) [(0, (.c (.int .u8 68))), (1, (.t 19))]) <|
  qo 6 (.mv (.t 20)) <|
  .nil)
  (.seq (.seq (.ops <|
  qo 21 (.mv (.t 0)) <|
  qo 22 (.len (.t 21)) <|
  qo 23 (.mv (I 0)) <|
  .nil)
  (.block 0 (.vecs 6 5 1 (.loop [22, 21] [23, 6] j33_1))))
  j33_2)))))
theorem c33 : fnIs Try.prog qall 33 = some (j33.flat, [.tmp 2, .tmp 3], 47) := by kernel_rfl
theorem w33 : j33.wf 47 = true := by kernel_rfl
def Gp (f : FuncId) (a : List SV) (m : List Res) : Sx.Call := (FH.rd 17 (.one dEs) (.two .int .int) (fun _ => True) (fun y => (playedF y.1).2) <|
  FH.mk 66 (.one dBs) (fun _ => True) (fun _ => .vec 0 2) (fun y => [.vec 5 1 [.int .u8 (hiB (sumW y.1)), .int .u8 (u8 (sumW y.1))]]) FH.none) f a m
theorem Gp_eq (f : FuncId) (a : List SV) (m : List Res) : Gp f a m = (FH.rd 17 (.one dEs) (.two .int .int) (fun _ => True) (fun y => (playedF y.1).2) <|
  FH.mk 66 (.one dBs) (fun _ => True) (fun _ => .vec 0 2) (fun y => [.vec 5 1 [.int .u8 (hiB (sumW y.1)), .int .u8 (u8 (sumW y.1))]]) FH.none) f a m := nr rfl
theorem Gp_ok : FHOK Try.prog Gp := FH.rd_ok (by kernel_rfl) (fun y _ => f_Check y.1) <|
  FH.mk_ok (by kernel_rfl) (fun y _ => plainM (pv_vec _ _) ⟨plR_vec _ _ DT.byte [hiB (sumW y.1), u8 (sumW y.1)], trivial⟩) (fun y _ => f_sum y.1) FH.none_ok
theorem f_Pack (l : List Ev) : FnOK Try.prog 33 [dEs.emb l] [] (.tup [.str (packF l).1, .int .i64 (packF l).2]) [] := by
  refine fn_walkF c33 w33 Gp_ok rfl ?_
  unfold j33
  by_cases h : (playedF l).2.2 = 0
  · have hok : (checkR l).2 = 0 := by rw [← played_check]; exact h
    have hr : packF l = (strOf (packB l), 0) := by rw [packF, if_pos h]
    have h8 := ok_len hok
    simp only [go_sem, ↓reduceIte, Nat.reduceAdd, Nat.reduceMul, Nat.reduceSub, Nat.reduceLT, Nat.reduceLeDiff, Nat.reduceEqDiff, Int.reduceToNat, Int.reduceEq, Int.reduceLT, Int.reduceLE, reduceCtorEq, Gp_eq, h, hr]
    refine loopF Nat (fun i => [.int .i64 i, .vec 0 (bytesP l i).length]) (fun i => [.vec 5 1 ((bytesP l i).map DT.byte.emb)]) (fun i => i ≤ l.length) (fun i => l.length - i) 0 (by omega) ?_ ?_ ?_
    · simp only [go_sem, ↓reduceIte, Nat.reduceAdd, Nat.reduceMul, Nat.reduceSub, Nat.reduceLT, Nat.reduceLeDiff, Nat.reduceEqDiff, Int.reduceToNat, Int.reduceEq, Int.reduceLT, Int.reduceLE, reduceCtorEq]
      rfl
    · rfl
    intro i hi
    by_cases h1 : i < l.length
    · have h1' : (i : Int) < l.length := by omega
      have hw : IntKind.i64.wrap ((i : Int) + 1) = ((i + 1 : Nat) : Int) := IntWalk.i64_in _ (by omega)
      have hb := bytesP_len l i hi
      have hs := bytesP_succ h1
      unfold j33_1
      simp only [go_sem, ↓reduceIte, Nat.reduceAdd, Nat.reduceMul, Nat.reduceSub, Nat.reduceLT, Nat.reduceLeDiff, Nat.reduceEqDiff, Int.reduceToNat, Int.reduceEq, Int.reduceLT, Int.reduceLE, reduceCtorEq, Gp_eq, h1, h1', hw]
      exact ⟨by omega, by omega, i + 1, by omega, by omega, ⟨rfl, by rw [hs, List.length_append]; rfl⟩, by rw [hs, List.map_append]; rfl⟩
    · have h1' : ¬ (i : Int) < l.length := by omega
      have e : i = l.length := by omega
      unfold j33_1
      simp only [go_sem, ↓reduceIte, Nat.reduceAdd, Nat.reduceMul, Nat.reduceSub, Nat.reduceLT, Nat.reduceLeDiff, Nat.reduceEqDiff, Int.reduceToNat, Int.reduceEq, Int.reduceLT, Int.reduceLE, reduceCtorEq, h1']
      subst e
      unfold j33_2
      simp only [go_sem, ↓reduceIte, Nat.reduceAdd, Nat.reduceMul, Nat.reduceSub, Nat.reduceLT, Nat.reduceLeDiff, Nat.reduceEqDiff, Int.reduceToNat, Int.reduceEq, Int.reduceLT, Int.reduceLE, reduceCtorEq, Gp_eq, hr]
      have hb := bytesP_len l l.length (Nat.le_refl _)
      have e : (bytesP l l.length).map DT.byte.emb ++ [SV.int .u8 (hiB (sumW (bytesP l l.length))), SV.int .u8 (u8 (sumW (bytesP l l.length)))] = (packB l).map DT.byte.emb := by rw [packB, List.map_append]; rfl
      rw [e, W.bytesOf_emb]
      exact ⟨by omega, rfl⟩
  · have hr : packF l = ([], (playedF l).2.2) := by rw [packF, if_neg h]
    simp only [go_sem, ↓reduceIte, Nat.reduceAdd, Nat.reduceMul, Nat.reduceSub, Nat.reduceLT, Nat.reduceLeDiff, Nat.reduceEqDiff, Int.reduceToNat, Int.reduceEq, Int.reduceLT, Int.reduceLE, reduceCtorEq, Gp_eq, h, hr]
def Gc' : FH := FH.rd 16 (.one dEs) (.one .int) (fun _ => True) (fun y => (checkR y.1).2) <| FH.rd 67 (.one .int) (.one .str) (fun _ => True) (fun y => [chrB y.1]) <|
  FH.rd 68 (.one .str) (.one .int) (fun y => y.1.length ≤ 9223372036854775807) (fun y => sumW (y.1.map fun b => (b.toNat : Int))) FH.none
theorem Gc'_ok : FHOK Try.prog Gc' := FH.rd_ok (by kernel_rfl) (fun y _ => f_May y.1) <| FH.rd_ok (by kernel_rfl) (fun y _ => f_chr y.1) <| FH.rd_ok (by kernel_rfl) (fun y h => f_sumOf y.1 h) FH.none_ok
def sumR (l : List Ev) : Int := sumW ((bytesR l l.length).map fun b => (b.toNat : Int))
def packR (l : List Ev) : List UInt8 := bytesR l l.length ++ [chrB ((IntKind.i64.wrap ((sumR l).tdiv 256)).tmod 256)] ++ [chrB ((sumR l).tmod 256)]
def rpackF (l : List Ev) : List UInt8 × Int := if (checkR l).2 = 0 then (packR l, 0) else ([], (checkR l).2)
def j34_1 : JC :=
  (.seq (.ops <|
  qo 21 (.cmp .lss (.t 20) (.t 19)) <|
  .nil)
  (.seq (.cond (.t 21)
  .skip
  (.exit 0))
  (.seq (.block 1 (.seq (.ops <|
  qo 22 (.is 3 (.t 18) (.t 20)) <|
  eo 23 (.load 3 true (.t 22)) <|
  eo 7 (.alloc 54 (.agg [(.int .i64 0), (.int .i64 0), (.int .i64 0)])) <|
  en (.store 3 (.t 7) (.t 23)) <|
  .nil)
  (.dops <|
  .prune [5, 7, 20, 19, 18] <|
  qo 24 (.mv (.t 5)) <|
  qo 25 (.fa 1 1 (.t 7)) <|
  eo 26 (.load 1 false (.t 25)) <|
  qo 27 (.ar .mul (I 8) (.t 26)) <|
  .prune [7, 27, 24, 20, 19, 18] <|
  qo 28 (.fa 0 0 (.t 7)) <|
  eo 29 (.load 1 false (.t 28)) <|
  qo 30 (.ar .add (.t 27) (.t 29)) <|
  .prune [30, 7, 24, 20, 19, 18] <|
  qo 31 (.ar .sub (.t 30) (I 1)) <|
  eo 32 (.qcall 67 [(.t 31)]) <|
  qo 33 (.fa 2 2 (.t 7)) <|
  .prune [33, 32, 24, 20, 19, 18] <|
  eo 34 (.load 1 false (.t 33)) <|
  eo 35 (.qcall 67 [(.t 34)]) <|
  qo 36 (.cat (.t 32) (.t 35)) <|
  qo 37 (.cat (.t 24) (.t 36)) <|
  qo 5 (.mv (.t 37)) <|
  .nil)))
  (.prune [20, 19, 18, 5] (.ops <|
  qo 38 (.ar .add (.t 20) (I 1)) <|
  qo 20 (.mv (.t 38)) <|
  .nil)))))
def j34_2 : JC :=
  (.prune [5] (.seq (.ops <|
  qo 39 (.mv (.t 5)) <|
  eo 40 (.call 68 [(.t 39)]) <|
  qo 8 (.mv (.t 40)) <|
  .nil)
  (.seq (.ops <|
  qo 41 (.mv (.t 5)) <|
  qo 42 (.mv (.t 8)) <|
  qo 43 (.ar .quo (.t 42) (I 256)) <|
  .prune [43, 41, 8] <|
  qo 44 (.ar .rem (.t 43) (I 256)) <|
  eo 45 (.call 67 [(.t 44)]) <|
  qo 46 (.cat (.t 41) (.t 45)) <|
  qo 47 (.mv (.t 8)) <|
  .prune [47, 46] <|
  qo 48 (.ar .rem (.t 47) (I 256)) <|
  eo 49 (.call 67 [(.t 48)]) <|
  qo 50 (.cat (.t 46) (.t 49)) <|
  qo 2 (.mv (.t 50)) <|
  qo 3 (.mv (I 0)) <|
  .nil)
  .ret)))
def j34 : JC :=
  (.seq (.ops <|
  qo 2 (.mv (.c (.str []))) <|
  qo 3 (.mv (I 0)) <|
  .nil)
  (.seq (.seq (.ops <|
  qo 9 (.mv (.t 0)) <|
  eo 10 (.call 16 [(.t 9)]) <|
  qo 4 (.mv (.t 10)) <|
  .nil)
  (.seq (.ops <|
  qo 11 (.mv (.t 4)) <|
  qo 12 (.cmp .neq (.t 11) (I 0)) <|
  .nil)
  (.cond (.t 12)
  (.seq (.ops <|
  .prune [4] <|
  qo 13 (.mv (.t 4)) <|
  qo 2 (.mv (.c (.str []))) <|
  qo 3 (.mv (.t 13)) <|
  .nil)
  .ret)
  .skip)))
  (.prune [0] (.seq (.ops <|
  qo 14 (.mv (.t 0)) <|
  qo 15 (.len (.t 14)) <|
  eo 16 (.call 67 [(.t 15)]) <|
  qo 17 (.cat (.c (.str [68])) (.t 16)) <|
  qo 5 (.mv (.t 17)) <|
  .nil)
  (.seq (.seq (.ops <|
  qo 18 (.mv (.t 0)) <|
  qo 19 (.len (.t 18)) <|
  qo 20 (.mv (I 0)) <|
  .nil)
  (.block 0 (.loop [19, 18] [20, 5] j34_1)))
  j34_2)))))
theorem c34 : fnIs Try.prog qall 34 = some (j34.flat, [.tmp 2, .tmp 3], 51) := by kernel_rfl
theorem w34 : j34.wf 51 = true := by kernel_rfl
theorem f_RPack (l : List Ev) : FnOK Try.prog 34 [dEs.emb l] [] (.tup [.str (rpackF l).1, .int .i64 (rpackF l).2]) [] := by
  refine fn_walkF c34 w34 Gc'_ok rfl ?_
  unfold j34
  by_cases h : (checkR l).2 = 0
  · have hr : rpackF l = (packR l, 0) := by rw [rpackF, if_pos h]
    have h8 := ok_len h
    simp only [go_sem, ↓reduceIte, Nat.reduceAdd, Nat.reduceMul, Nat.reduceSub, Nat.reduceLT, Nat.reduceLeDiff, Nat.reduceEqDiff, Int.reduceToNat, Int.reduceEq, Int.reduceLT, Int.reduceLE, reduceCtorEq, Gc', h, hr]
    refine loopF Nat (fun i => [.int .i64 i, .str (bytesR l i)]) (fun i => []) (fun i => i ≤ l.length) (fun i => l.length - i) 0 (by omega) ?_ rfl ?_
    · simp only [go_sem, ↓reduceIte, Nat.reduceAdd, Nat.reduceMul, Nat.reduceSub, Nat.reduceLT, Nat.reduceLeDiff, Nat.reduceEqDiff, Int.reduceToNat, Int.reduceEq, Int.reduceLT, Int.reduceLE, reduceCtorEq]
      rfl
    intro i hi
    by_cases h1 : i < l.length
    · have h1' : (i : Int) < l.length := by omega
      have hw : IntKind.i64.wrap ((i : Int) + 1) = ((i + 1 : Nat) : Int) := IntWalk.i64_in _ (by omega)
      have hb := bytesR_len l i hi
      have hs := bytesR_succ h1
      unfold j34_1
      simp only [go_sem, ↓reduceIte, Nat.reduceAdd, Nat.reduceMul, Nat.reduceSub, Nat.reduceLT, Nat.reduceLeDiff, Nat.reduceEqDiff, Int.reduceToNat, Int.reduceEq, Int.reduceLT, Int.reduceLE, reduceCtorEq, Gc', h1, h1', hw]
      exact ⟨by omega, by omega, i + 1, by omega, by omega, rfl, by rw [hs]; rfl⟩
    · have h1' : ¬ (i : Int) < l.length := by omega
      have e : i = l.length := by omega
      unfold j34_1
      simp only [go_sem, ↓reduceIte, Nat.reduceAdd, Nat.reduceMul, Nat.reduceSub, Nat.reduceLT, Nat.reduceLeDiff, Nat.reduceEqDiff, Int.reduceToNat, Int.reduceEq, Int.reduceLT, Int.reduceLE, reduceCtorEq, h1']
      subst e
      unfold j34_2
      simp only [go_sem, ↓reduceIte, Nat.reduceAdd, Nat.reduceMul, Nat.reduceSub, Nat.reduceLT, Nat.reduceLeDiff, Nat.reduceEqDiff, Int.reduceToNat, Int.reduceEq, Int.reduceLT, Int.reduceLE, reduceCtorEq, Gc', hr]
      have hb := bytesR_len l l.length (Nat.le_refl _)
      refine ⟨by omega, by omega, by rw [List.length_append]; simp only [List.length_cons, List.length_nil]; omega, ?_⟩
      rw [packR, List.append_assoc]
      rfl
  · have hr : rpackF l = ([], (checkR l).2) := by rw [rpackF, if_neg h]
    simp only [go_sem, ↓reduceIte, Nat.reduceAdd, Nat.reduceMul, Nat.reduceSub, Nat.reduceLT, Nat.reduceLeDiff, Nat.reduceEqDiff, Int.reduceToNat, Int.reduceEq, Int.reduceLT, Int.reduceLE, reduceCtorEq, Gc', h, hr]
def j35_1 : JC :=
  (.seq (.seq (.ops <|
  qo 30 (.mv (.t 6)) <|
  qo 31 (.ar .add (.t 30) (I 1)) <|
  qo 32 (.mv (.t 4)) <|
  qo 33 (.len (.t 32)) <|
  qo 34 (.cmp .lss (.t 31) (.t 33)) <|
  .nil)
  (.cond (.t 34)
  .skip
  (.exit 0)))
  (.seq (.block 1 (.dops <|
  .prune [5, 4, 6, 0] <|
  qo 37 (.mv (.t 5)) <|
  qo 38 (.mv (.t 4)) <|
  qo 39 (.mv (.t 6)) <|
  qo 40 (.is 1 (.t 38) (.t 39)) <|
  .prune [40, 4, 6, 37, 0] <|
  eo 41 (.load 1 false (.t 40)) <|
  qo 42 (.ar .and (.t 41) (.c (.int .u8 7))) <|
  qo 43 (.conv .i64 (.t 42)) <|
  .prune [43, 4, 6, 37, 0] <|
  qo 44 (.ar .add (.t 43) (I 1)) <|
  qo 45 (.mv (.t 4)) <|
  qo 46 (.mv (.t 6)) <|
  qo 47 (.is 1 (.t 45) (.t 46)) <|
  .prune [47, 4, 6, 44, 37, 0] <|
  eo 48 (.load 1 false (.t 47)) <|
  qo 49 (.ar .shr (.t 48) (.c (.int .u64 3))) <|
  qo 50 (.conv .i64 (.t 49)) <|
  .prune [4, 6, 44, 50, 37, 0] <|
  qo 51 (.mv (.t 4)) <|
  qo 52 (.mv (.t 6)) <|
  qo 53 (.ar .add (.t 52) (I 1)) <|
  qo 54 (.is 1 (.t 51) (.t 53)) <|
  .prune [54, 44, 50, 37, 6, 4, 0] <|
  eo 55 (.load 1 false (.t 54)) <|
  qo 56 (.conv .i64 (.t 55)) <|
  qo 57 (.bld (.agg [(.int .i64 0), (.int .i64 0), (.int .i64 0)]) [([.fld 0], 0, 1, (.t 44)), ([.fld 1], 1, 1, (.t 50)), ([.fld 2], 2, 1, (.t 56))]) <|
  .prune [57, 37, 6, 4, 0] <|
  eo 58 (.qbsl 54 3 1 (.agg [(.int .i64 0), (.int .i64 0), (.int .i64 0)]) [(0, (.t 57))]) <|
  eo 59 (.app 54 3 24 (.t 37) (.t 58)) <|
  qo 5 (.mv (.t 59)) <|
  .nil))
  (.prune [6, 4, 5, 0] (.ops <|
  qo 35 (.mv (.t 6)) <|
  qo 36 (.ar .add (.t 35) (I 2)) <|
  qo 6 (.mv (.t 36)) <|
  .nil))))
def j35_2 : JC :=
  (.prune [5, 0] (.seq (.seq (.ops <|
  qo 61 (.mv (.t 5)) <|
  eo 62 (.call 33 [(.t 61)]) <|
  qo 60 (.mv (.t 62)) <|
  qo 63 (.ext 0 (.t 60)) <|
  qo 64 (.ext 1 (.t 60)) <|
  qo 7 (.mv (.t 63)) <|
  qo 8 (.mv (.t 64)) <|
  .nil)
  (.seq (.ops <|
  .prune [8, 7, 0, 5] <|
  qo 65 (.mv (.t 8)) <|
  qo 66 (.cmp .neq (.t 65) (I 0)) <|
  qo 67 (.mv (.t 66)) <|
  .prune [67, 7, 0, 5] <|
  .sc true 71 67 (qo 68 (.mv (.t 7)) <|
  qo 69 (.mv (.t 0)) <|
  qo 70 (.seq true (.t 68) (.t 69)) <|
  .nil) (.t 70) <|
  .nil)
  (.prune [71, 5] (.cond (.t 71)
  (.seq (.ops <|
  qo 2 (.mv (.c .nils)) <|
  qo 3 (.mv (I 5)) <|
  .nil)
  (.vecs 2 54 3 .ret))
  .skip))))
  (.prune [5] (.seq (.ops <|
  qo 72 (.mv (.t 5)) <|
  qo 2 (.mv (.t 72)) <|
  qo 3 (.mv (I 0)) <|
  .nil)
  (.vecs 2 54 3 .ret)))))
def j35 : JC :=
  (.seq (.ops <|
  qo 2 (.mv (.c .nils)) <|
  qo 3 (.mv (I 0)) <|
  .nil)
  (.seq (.seq (.ops <|
  qo 9 (.mv (.t 0)) <|
  qo 10 (.lens (.t 9)) <|
  qo 11 (.cmp .lss (.t 10) (I 4)) <|
  .nil)
  (.cond (.t 11)
  (.seq (.ops <|
  qo 2 (.mv (.c .nils)) <|
  qo 3 (.mv (I 4)) <|
  .nil)
  (.vecs 2 54 3 .ret))
  .skip))
  (.seq (.ops <|
  .prune [0] <|
  qo 12 (.mv (.t 0)) <|
  qo 13 (.mv (.t 0)) <|
  qo 14 (.lens (.t 13)) <|
  qo 15 (.ar .sub (.t 14) (I 2)) <|
  qo 16 (.ssl (.t 12) none (some (.t 15))) <|
  eo 17 (.mop .bstr [(.t 16)]) <|
  qo 4 (.mv (.t 17)) <|
  .nil)
  (.prune [4, 0] (.seq (.seq (.dops <|
  qo 18 (.mv (.t 4)) <|
  qo 19 (.mv (.t 4)) <|
  qo 20 (.len (.t 19)) <|
  qo 21 (.mv (.t 4)) <|
  qo 22 (.len (.t 21)) <|
  qo 23 (.slc 1 (.t 18) none (some (.t 20)) (some (.t 22))) <|
  .prune [4, 23, 0] <|
  qo 24 (.mv (.t 4)) <|
  eo 25 (.call 66 [(.t 24)]) <|
  eo 26 (.app 5 1 1 (.t 23) (.t 25)) <|
  eo 27 (.mop .strb [(.t 26)]) <|
  qo 28 (.mv (.t 0)) <|
  qo 29 (.seq true (.t 27) (.t 28)) <|
  .nil)
  (.prune [29, 4, 0] (.cond (.t 29)
  (.seq (.ops <|
  qo 2 (.mv (.c .nils)) <|
  qo 3 (.mv (I 6)) <|
  .nil)
  (.vecs 2 54 3 .ret))
  .skip)))
  (.prune [4, 0] (.seq (.ops <|
  qo 5 (.mv (.c .nils)) <|
  .nil)
  (.seq (.seq (.ops <|
  qo 6 (.mv (I 2)) <|
  .nil)
  (.block 0 (.vecs 5 54 3 (.loop [4, 0] [6, 5] j35_1))))
  j35_2))))))))
theorem c35 : fnIs Try.prog (quiet2 (qbut [66])) 35 = some (j35.flat, [.tmp 2, .tmp 3], 73) := by kernel_rfl
theorem w35 : j35.wf 73 = true := by kernel_rfl
theorem f_Read0 : FnOK Try.prog 35 [.str []] [] (.tup [.vec 0 0, .int .i64 4]) [.vec 54 3 []] := by
  refine fn_walkF c35 w35 FH.none_ok rfl ?_
  unfold j35
  simp only [go_sem, ↓reduceIte, Nat.reduceAdd, Nat.reduceMul, Nat.reduceSub, Nat.reduceLT, Nat.reduceLeDiff, Nat.reduceEqDiff, Int.reduceToNat, Int.reduceEq, Int.reduceLT, Int.reduceLE, reduceCtorEq]
/-! ### Both agree -/
theorem byte_back (n : Int) (h : 0 ≤ n ∧ n < 256) : (((UInt8.ofNat n.toNat).toNat : Nat) : Int) = n := by
  simp only [UInt8.toNat_ofNat']
  omega
theorem u8_in (n : Int) : 0 ≤ u8 n ∧ u8 n < 256 := by
  unfold u8
  rw [IntKind.wrap_u8]; omega
theorem u8_nat (n : Nat) : u8 n = ((n % 256 : Nat) : Int) := by
  unfold u8
  rw [IntKind.wrap_u8]; omega
theorem ev_agr : ∀ t, t < 6 → ∀ k, k < 8 → bitOr .i64 (IntKind.i64.wrap (((t : Nat) : Int) * 2 ^ (min 3 64))) (IntKind.i64.wrap ((((k + 1 : Nat)) : Int) - 1)) = IntKind.i64.wrap (IntKind.i64.wrap (IntKind.i64.wrap (8 * (t : Nat)) + ((k + 1 : Nat))) - 1) := by decide
theorem strOf_app (a b : List Int) : strOf (a ++ b) = strOf a ++ strOf b := by simp [strOf]
theorem evB_str {e : Ev} (h : isEv e = true) : strOf (evB e) = evR e := by
  obtain ⟨b1, b2, b3, b4⟩ := (isEv_iff e).1 h
  have hk : 1 ≤ e.kind ∧ e.kind ≤ 8 := by
    unfold many at b4
    split at b4 <;> first | omega | (split at b4 <;> first | omega | (split at b4 <;> first | omega | (split at b4 <;> omega)))
  have := ev_agr e.thr.toNat (by omega) (e.kind.toNat - 1) (by omega)
  have e1 : ((e.thr.toNat : Nat) : Int) = e.thr := by omega
  have e2 : ((e.kind.toNat - 1 + 1 : Nat) : Int) = e.kind := by omega
  rw [e1, e2] at this
  simp only [evB, evR, strOf, List.map_cons, List.map_nil, chrB, this]
theorem flat_str : ∀ (r : List Ev), (∀ e ∈ r, isEv e = true) → strOf (r.flatMap evB) = r.flatMap evR
  | [], _ => rfl
  | e :: r, h => by
    rw [List.flatMap_cons, List.flatMap_cons, strOf_app, evB_str (h e (by simp)), flat_str r (fun x hx => h x (by simp [hx]))]
theorem ok_mem {l : List Ev} (hok : (checkR l).2 = 0) : ∀ e ∈ l, isEv e = true := by
  intro e he
  obtain ⟨i, hi⟩ := List.getElem?_of_mem he
  have hlt := (List.getElem?_eq_some_iff.1 hi).1
  have := ok_isEv hok i hlt
  rwa [List.getD, hi] at this
theorem bytes_str {l : List Ev} (hok : (checkR l).2 = 0) : strOf (bytesP l l.length) = bytesR l l.length := by
  rw [bytesP, bytesR, strOf_app, List.take_length, flat_str l (ok_mem hok)]
  rfl
theorem bytes_in (l : List Ev) (i : Nat) : ∀ n ∈ bytesP l i, 0 ≤ n ∧ n < 256 := by
  intro n hn
  simp only [bytesP, List.mem_append, List.mem_cons, List.not_mem_nil, or_false, List.mem_flatMap] at hn
  rcases hn with (rfl | rfl) | ⟨e, _, he⟩
  · omega
  · exact u8_in _
  · simp only [evB, List.mem_cons, List.not_mem_nil, or_false] at he
    rcases he with rfl | rfl <;> exact u8_in _
theorem back_all : ∀ (bs : List Int), (∀ n ∈ bs, 0 ≤ n ∧ n < 256) → (strOf bs).map (fun b => (b.toNat : Int)) = bs
  | [], _ => rfl
  | n :: r, h => by
    have ih := back_all r (fun x hx => h x (by simp [hx]))
    simp only [strOf, List.map_cons] at ih ⊢
    rw [byte_back n (h n (by simp)), ih]
theorem sum_nat : ∀ (bs : List Int) (a : Nat), (∀ n ∈ bs, 0 ≤ n ∧ n < 256) → a + 256 * bs.length ≤ 1000000 → ∃ s : Nat, bs.foldl addW a = s ∧ s ≤ a + 256 * bs.length
  | [], a, _, _ => ⟨a, rfl, by simp⟩
  | n :: r, a, h, hb => by
    have hn := h n (by simp)
    simp only [List.length_cons] at hb
    have e : addW a n = ((a + n.toNat : Nat) : Int) := by
      unfold addW
      rw [IntWalk.i64_in n (by omega), IntWalk.i64_in _ (by omega)]
      omega
    obtain ⟨s, h1, h2⟩ := sum_nat r (a + n.toNat) (fun x hx => h x (by simp [hx])) (by omega)
    exact ⟨s, by rw [List.foldl_cons, e, h1], by simp only [List.length_cons]; omega⟩
theorem pack_agr {l : List Ev} (hok : (checkR l).2 = 0) : strOf (packB l) = packR l := by
  have h8 := ok_len hok
  have hb := bytesP_len l l.length (Nat.le_refl _)
  have e1 : sumR l = sumW (bytesP l l.length) := by
    rw [sumR, ← bytes_str hok, back_all _ (bytes_in l _)]
  obtain ⟨s, h1, h2⟩ := sum_nat (bytesP l l.length) 0 (bytes_in l _) (by omega)
  have h1' : sumW (bytesP l l.length) = (s : Nat) := h1
  rw [packB, packR, strOf_app, bytes_str hok, e1, h1', List.append_assoc]
  congr 1
  have d1 : ((s : Nat) : Int).tdiv 256 = ((s / 256 : Nat) : Int) := by
    rw [Int.tdiv_eq_ediv_of_nonneg (by omega)]; omega
  have d2 : ((s : Nat) : Int).fdiv (2 ^ (min 8 64)) = ((s / 256 : Nat) : Int) := by
    rw [Int.fdiv_eq_ediv_of_nonneg _ (by decide)]
    show ((s : Nat) : Int) / 256 = _
    omega
  have d3 : ∀ n : Nat, ((n : Nat) : Int).tmod 256 = ((n % 256 : Nat) : Int) := by
    intro n; rw [Int.tmod_eq_emod_of_nonneg (by omega)]; omega
  rw [d1, IntWalk.i64_in _ (by omega), d3, d3]
  simp only [strOf, List.map_cons, List.map_nil, hiB, chrB, d2, u8_nat, Nat.mod_mod, List.cons_append, List.nil_append]
theorem packs (l : List Ev) : packF l = rpackF l := by
  by_cases h : (checkR l).2 = 0
  · have hp : (playedF l).2.2 = 0 := by rw [err_same]; exact h
    rw [packF, rpackF, if_pos hp, if_pos h, pack_agr h]
  · have hp : ¬ (playedF l).2.2 = 0 := by rw [err_same]; exact h
    rw [packF, rpackF, if_neg hp, if_neg h, err_same]
end Go.Proofs.Ytohbjnpafpcbkaa.Pk
