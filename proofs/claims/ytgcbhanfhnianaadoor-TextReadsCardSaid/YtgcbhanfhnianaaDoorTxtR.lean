/- A text read as a trace, by the program and by the reference. Conditions: none. -/
import Derived.Test.YtgcbhanfhnianaaDoorTxtV
import Derived.Test.YtgcbhanfhnianaaDoorTraceR
set_option linter.unusedSimpArgs false
set_option linter.unusedVariables false
set_option maxRecDepth 100000
open Go Go.Sx Go.Proofs
namespace Go.Proofs.YtgcbhanfhnianaaDoor.Tx
open Go.Proofs.YtgcbhanfhnianaaDoor.D Go.Proofs.YtgcbhanfhnianaaDoor.Tr
theorem cut_cons (b : UInt8) (l : By) (c : UInt8) : cutL (b :: l) c = if b = c then ([], l, true) else (b :: (cutL l c).1, (cutL l c).2) := by
  have ge := Lib.indexByte_ge l c
  unfold cutL
  rw [Lib.indexByte]
  by_cases h : b = c
  · subst h
    simp
  · have hb : (b == c) = false := by simpa using h
    rw [hb, if_neg h]
    simp only [Bool.false_eq_true, if_false]
    by_cases h2 : Lib.indexByte l c = -1
    · have h3 : (Lib.indexByte l c == -1) = true := by simpa using h2
      rw [h3, h2]
      simp
    · have h3 : (Lib.indexByte l c == -1) = false := by simpa using h2
      rw [h3]
      simp only [Bool.false_eq_true, if_false]
      rw [if_pos (by omega), if_pos (by omega), show (Lib.indexByte l c + 1).toNat = (Lib.indexByte l c).toNat + 1 by omega, List.take_succ_cons, List.drop_succ_cons]
/-- What Split tells is what Cut tells, again and again. -/
theorem split_cut (c : UInt8) : ∀ s : By, splitL s c = (cutL s c).1 :: (if (cutL s c).2.2 = true then splitL (cutL s c).2.1 c else [])
  | [] => by rw [splitL_nil]; rfl
  | b :: l => by
    rw [splitL_cons, cut_cons]
    by_cases h : b = c
    · rw [if_pos h, if_pos h]; simp
    · rw [if_neg h, if_neg h]
      have ih := split_cut c l
      rw [ih]
      simp only [List.headD_cons, List.tail_cons]
theorem cut_len (s : By) (c : UInt8) : (cutL s c).2.1.length ≤ s.length := by
  unfold cutL
  split
  · simp
  · simp
theorem piece_len (c : UInt8) : ∀ (s : By) (p : By), p ∈ splitL s c → p.length ≤ s.length
  | [], p, h => by
    rw [splitL_nil] at h
    rw [List.mem_singleton.1 h]
    simp
  | b :: l, p, h => by
    rw [splitL_cons] at h
    split at h
    · rcases List.mem_cons.1 h with rfl | h
      · simp
      · have := piece_len c l p h
        simp only [List.length_cons]; omega
    · rw [split_cut] at h
      simp only [List.headD_cons, List.tail_cons] at h
      rcases List.mem_cons.1 h with rfl | h
      · have := piece_len c l (cutL l c).1 (by rw [split_cut]; exact List.mem_cons_self)
        simp only [List.length_cons]; omega
      · have := piece_len c l p (by rw [split_cut]; exact List.mem_cons_of_mem _ h)
        simp only [List.length_cons]; omega
def piecesT (s : By) : List By := if s = [] then [] else splitL s 10
def scanP : List By → Int → Option (Int × Int)
  | [], _ => none
  | p :: r, n => if (eventF p).2 = 0 then scanP r (n + 1) else some (n + 1, (eventF p).2)
def evT (p : By) : Ev := (eventF p).1
def readF (s : By) : List Ev × Int × Int :=
  if 2000 < s.length then ([], 0, 2) else
  match scanP (piecesT s) 0 with
  | some (n, e) => ([], n, e)
  | none => if (checkR ((piecesT s).map evT)).2 = 0 then ((piecesT s).map evT, 0, 0) else ([], 0, (checkR ((piecesT s).map evT)).2)
theorem pieces_len {s : By} (h : s.length ≤ 2000) : (piecesT s).length ≤ 2001 := by
  unfold piecesT
  split
  · simp
  · rw [split_len]
    have := List.count_le_length (a := (10 : UInt8)) (l := s)
    omega
theorem pieces_at {s : By} {i : Nat} (h : i < (piecesT s).length) : ((piecesT s).getD i []).length ≤ s.length := by
  have hm : (piecesT s).getD i [] ∈ piecesT s := by
    rw [List.getD, List.getElem?_eq_getElem h]
    exact List.getElem_mem _
  unfold piecesT at hm ⊢
  split at hm
  · cases hm
  · rename_i h0
    rw [if_neg h0]
    exact piece_len 10 s _ hm
theorem scan_drop {L : List By} {i : Nat} (h : i < L.length) : scanP (L.drop i) i = if (eventF (L.getD i [])).2 = 0 then scanP (L.drop (i + 1)) ((i + 1 : Nat) : Int) else some ((i : Int) + 1, (eventF (L.getD i [])).2) := by
  rw [drop_getD [] h, scanP]
  split <;> simp_all
def j13_1 : JC :=
  (.seq (.ops <|
  qo 23 (.cmp .lss (.t 22) (.t 21)) <|
  .nil)
  (.seq (.cond (.t 23)
  .skip
  (.exit 1))
  (.seq (.block 2 (.seq (.ops <|
  qo 24 (.mv (.t 22)) <|
  qo 25 (.is 1 (.t 20) (.t 22)) <|
  eo 26 (.load 1 false (.t 25)) <|
  qo 6 (.mv (.t 24)) <|
  qo 7 (.mv (.t 26)) <|
  .nil)
  (.prune [7, 6, 5, 22, 21, 20] (.seq (.ops <|
  qo 28 (.mv (.t 7)) <|
  eo 29 (.call 11 [(.t 28)]) <|
  qo 27 (.mv (.t 29)) <|
  .prune [27, 6, 5, 22, 21, 20] <|
  qo 30 (.ext 0 (.t 27)) <|
  qo 31 (.ext 1 (.t 27)) <|
  eo 8 (.alloc 29 (.agg [(.int .i64 0), (.int .i64 0), (.int .i64 0)])) <|
  en (.store 3 (.t 8) (.t 30)) <|
  qo 9 (.mv (.t 31)) <|
  .nil)
  (.prune [9, 6, 5, 8, 22, 21, 20] (.seq (.seq (.ops <|
  qo 32 (.mv (.t 9)) <|
  qo 33 (.cmp .neq (.t 32) (I 0)) <|
  .nil)
  (.cond (.t 33)
  (.seq (.ops <|
  .prune [6, 9] <|
  qo 34 (.mv (.t 6)) <|
  qo 35 (.ar .add (.t 34) (I 1)) <|
  qo 36 (.mv (.t 9)) <|
  qo 2 (.mv (.c .nils)) <|
  qo 3 (.mv (.t 35)) <|
  qo 4 (.mv (.t 36)) <|
  .nil)
  (.vecs 2 29 3 .ret))
  .skip))
  (.prune [5, 8, 22, 21, 20] (.ops <|
  qo 37 (.mv (.t 5)) <|
  eo 38 (.load 3 true (.t 8)) <|
  eo 39 (.bsl 29 3 1 (.agg [(.int .i64 0), (.int .i64 0), (.int .i64 0)]) [(0, (.t 38))]) <|
  eo 40 (.app 29 3 24 (.t 37) (.t 39)) <|
  qo 5 (.mv (.t 40)) <|
  .nil))))))))
  (.prune [22, 21, 20, 5] (.ops <|
  qo 41 (.ar .add (.t 22) (I 1)) <|
  qo 22 (.mv (.t 41)) <|
  .nil)))))
def j13_2 : JC :=
  (.prune [5] (.seq (.seq (.ops <|
  qo 43 (.mv (.t 5)) <|
  eo 44 (.call 16 [(.t 43)]) <|
  qo 42 (.mv (.t 44)) <|
  qo 45 (.ext 0 (.t 42)) <|
  qo 46 (.ext 1 (.t 42)) <|
  qo 10 (.mv (.t 45)) <|
  qo 11 (.mv (.t 46)) <|
  .nil)
  (.seq (.ops <|
  qo 47 (.mv (.t 11)) <|
  qo 48 (.cmp .neq (.t 47) (I 0)) <|
  .nil)
  (.prune [48, 11, 5] (.cond (.t 48)
  (.seq (.ops <|
  qo 49 (.mv (.t 11)) <|
  qo 2 (.mv (.c .nils)) <|
  qo 3 (.mv (I 0)) <|
  qo 4 (.mv (.t 49)) <|
  .nil)
  (.vecs 2 29 3 .ret))
  .skip))))
  (.prune [5] (.seq (.ops <|
  qo 50 (.mv (.t 5)) <|
  qo 2 (.mv (.t 50)) <|
  qo 3 (.mv (I 0)) <|
  qo 4 (.mv (I 0)) <|
  .nil)
  (.vecs 2 29 3 .ret)))))
def j13 : JC :=
  (.seq (.ops <|
  qo 2 (.mv (.c .nils)) <|
  qo 3 (.mv (I 0)) <|
  qo 4 (.mv (I 0)) <|
  .nil)
  (.seq (.block 0 (.seq (.ops <|
  qo 13 (.mv (.t 0)) <|
  qo 14 (.lens (.t 13)) <|
  qo 15 (.cmp .gtr (.t 14) (I 2000)) <|
  qo 12 (.mv (.t 15)) <|
  .nil)
  (.cond (.t 12)
  (.seq (.ops <|
  .prune [] <|
  qo 2 (.mv (.c .nils)) <|
  qo 3 (.mv (I 0)) <|
  qo 4 (.mv (I 2)) <|
  .nil)
  (.vecs 2 29 3 .ret))
  (.seq (.ops <|
  .prune [0] <|
  qo 17 (.mv (.t 0)) <|
  qo 18 (.seq false (.t 17) (.c (.str []))) <|
  qo 16 (.mv (.t 18)) <|
  .nil)
  (.prune [16, 0] (.cond (.t 16)
  (.seq (.ops <|
  qo 2 (.mv (.c .nils)) <|
  qo 3 (.mv (I 0)) <|
  qo 4 (.mv (I 0)) <|
  .nil)
  (.vecs 2 29 3 .ret))
  .skip))))))
  (.prune [0] (.seq (.ops <|
  qo 5 (.mv (.c .nils)) <|
  .nil)
  (.seq (.seq (.ops <|
  qo 19 (.mv (.t 0)) <|
  eo 20 (.call 25 [(.t 19), (.c (.str [10]))]) <|
  qo 21 (.len (.t 20)) <|
  qo 22 (.mv (I 0)) <|
  .nil)
  (.block 1 (.vecs 5 29 3 (.loop [21, 20] [22, 5] j13_1))))
  j13_2)))))
theorem c13 : fnIs Tryd.prog qall 13 = some (j13.flat, [.tmp 2, .tmp 3, .tmp 4], 51) := by kernel_rfl
theorem w13 : j13.wf 51 = true := by kernel_rfl
def Gre (f : FuncId) (a : List SV) (m : List Res) : Sx.Call := (FH.pz 25 (.two .str .str) (DP.one (DT.list 1 DT.str)) (fun y => y.1.length < 4294967281 ∧ y.2.1.length = 1) (fun y => splitL y.1 (y.2.1.getD 0 0)) <|
  FH.rd 11 (.one .str) (.two dEv .int) (fun y => y.1.length < 4294967281) (fun y => eventF y.1) <|
  FH.rd 16 (.one dEs) (.two .int .int) (fun _ => True) (fun y => (playedF y.1).2) FH.none) f a m
theorem Gre_eq (f : FuncId) (a : List SV) (m : List Res) : Gre f a m = (FH.pz 25 (.two .str .str) (DP.one (DT.list 1 DT.str)) (fun y => y.1.length < 4294967281 ∧ y.2.1.length = 1) (fun y => splitL y.1 (y.2.1.getD 0 0)) <|
  FH.rd 11 (.one .str) (.two dEv .int) (fun y => y.1.length < 4294967281) (fun y => eventF y.1) <|
  FH.rd 16 (.one dEs) (.two .int .int) (fun _ => True) (fun y => (playedF y.1).2) FH.none) f a m := nr rfl
theorem Gre_ok : FHOK Tryd.prog Gre := FH.pz_ok (by kernel_rfl) (fun y h => by
  obtain ⟨s, b, u⟩ := y
  obtain ⟨h1, h2⟩ := h
  simp only at h1 h2
  match b, h2 with
  | [c], _ => exact (f_Split s c h1).holdL) <| FH.rd_ok (by kernel_rfl) (fun y h => f_Event y.1 h) <| FH.rd_ok (by kernel_rfl) (fun y _ => f_Check y.1) FH.none_ok
theorem f_Read (s : By) : FnOK Tryd.prog 13 [.str s] [] (.tup [.vec 0 (readF s).1.length, .int .i64 (readF s).2.1, .int .i64 (readF s).2.2]) [.vec 29 3 ((readF s).1.map dEv.emb)] := by
  refine fn_walkF c13 w13 Gre_ok rfl ?_
  unfold j13
  by_cases h2 : 2000 < s.length
  · have h2' : (s.length : Int) > 2000 := by omega
    rw [readF, if_pos h2]
    simp only [go_sem, ↓reduceIte, Nat.reduceAdd, Nat.reduceMul, Nat.reduceSub, Nat.reduceLT, Nat.reduceLeDiff, Nat.reduceEqDiff, Int.reduceToNat, Int.reduceEq, Int.reduceLT, Int.reduceLE, reduceCtorEq, Gre_eq, h2']
  have h2' : ¬ (s.length : Int) > 2000 := by omega
  by_cases h0 : s = []
  · subst h0
    have e0 : (checkR []).2 = 0 := rfl
    rw [readF, if_neg h2]
    simp only [go_sem, ↓reduceIte, Nat.reduceAdd, Nat.reduceMul, Nat.reduceSub, Nat.reduceLT, Nat.reduceLeDiff, Nat.reduceEqDiff, Int.reduceToNat, Int.reduceEq, Int.reduceLT, Int.reduceLE, reduceCtorEq, Gre_eq, piecesT, scanP, e0]
  have hp : piecesT s = splitL s 10 := by rw [piecesT, if_neg h0]
  have hl : (splitL s 10).length ≤ 2001 := by rw [← hp]; exact pieces_len (by omega)
  have hs : s.length < 4294967281 := by omega
  have he : (playedF ((piecesT s).map evT)).2.2 = (checkR ((piecesT s).map evT)).2 := err_same
  simp only [go_sem, ↓reduceIte, Nat.reduceAdd, Nat.reduceMul, Nat.reduceSub, Nat.reduceLT, Nat.reduceLeDiff, Nat.reduceEqDiff, Int.reduceToNat, Int.reduceEq, Int.reduceLT, Int.reduceLE, reduceCtorEq, Gre_eq, h2', h0, hs, List.length_singleton, List.getD_cons_zero]
  have hpl : ∀ i, i < (splitL s 10).length → ((splitL s 10).getD i []).length < 4294967281 := fun i hi => by
    rw [← hp] at hi ⊢
    have := pieces_at hi
    omega
  have hr : readF s = match scanP (splitL s 10) 0 with
      | some (n, e) => ([], n, e)
      | none => if (checkR ((splitL s 10).map evT)).2 = 0 then ((splitL s 10).map evT, 0, 0) else ([], 0, (checkR ((splitL s 10).map evT)).2) := by rw [readF, if_neg h2, hp]
  rw [hr]
  rw [hp] at he
  generalize splitL s 10 = L at hl hpl he ⊢
  clear hr hp
  refine loopF Nat (fun i => [.int .i64 i, .vec 0 ((L.take i).map evT).length]) (fun i => [.vec 29 3 (((L.take i).map evT).map dEv.emb)]) (fun i => i ≤ L.length ∧ scanP L 0 = scanP (L.drop i) i) (fun i => L.length - i) 0 ⟨by omega, rfl⟩ ?_ rfl ?_
  · simp only [go_sem, ↓reduceIte, Nat.reduceAdd, Nat.reduceMul, Nat.reduceSub, Nat.reduceLT, Nat.reduceLeDiff, Nat.reduceEqDiff, Int.reduceToNat, Int.reduceEq, Int.reduceLT, Int.reduceLE, reduceCtorEq]
  rintro i ⟨hi, hsc⟩
  by_cases h1 : i < L.length
  · have h1' : (i : Int) < L.length := by omega
    have hq := hpl i h1
    have hq' : (L.getD i DT.str.dft).length < 4294967281 := hq
    have hd := scan_drop h1
    have hw : IntKind.i64.wrap ((i : Int) + 1) = (i : Int) + 1 := IntWalk.i64_in _ (by omega)
    have hm := List.length_take_of_le hi
    unfold j13_1
    by_cases h3 : (eventF (L.getD i [])).2 = 0
    · rw [if_pos h3] at hd
      have h3' : (eventF (L.getD i DT.str.dft)).2 = 0 := h3
      simp only [go_sem, ↓reduceIte, Nat.reduceAdd, Nat.reduceMul, Nat.reduceSub, Nat.reduceLT, Nat.reduceLeDiff, Nat.reduceEqDiff, Int.reduceToNat, Int.reduceEq, Int.reduceLT, Int.reduceLE, reduceCtorEq, Gre_eq, h1, h1', hq', h3', hw]
      refine ⟨by omega, by omega, i + 1, ⟨h1, by rw [hsc, hd]⟩, by omega, ⟨rfl, by rw [hm, List.length_take_of_le h1]⟩, ?_⟩
      rw [take_getD DT.str.dft h1, List.map_append, List.map_append]
      rfl
    · rw [if_neg h3] at hd
      have h3' : ¬ (eventF (L.getD i DT.str.dft)).2 = 0 := h3
      rw [hsc, hd]
      simp only [go_sem, ↓reduceIte, Nat.reduceAdd, Nat.reduceMul, Nat.reduceSub, Nat.reduceLT, Nat.reduceLeDiff, Nat.reduceEqDiff, Int.reduceToNat, Int.reduceEq, Int.reduceLT, Int.reduceLE, reduceCtorEq, Gre_eq, h1, h1', hq', h3', hw]
      exact ⟨by omega, rfl⟩
  · have h1' : ¬ (i : Int) < L.length := by omega
    obtain rfl : i = L.length := by omega
    have hd : scanP L 0 = none := by rw [hsc, List.drop_length]; rfl
    rw [hd, List.take_length]
    unfold j13_1
    simp only [go_sem, ↓reduceIte, Nat.reduceAdd, Nat.reduceMul, Nat.reduceSub, Nat.reduceLT, Nat.reduceLeDiff, Nat.reduceEqDiff, Int.reduceToNat, Int.reduceEq, Int.reduceLT, Int.reduceLE, reduceCtorEq, Gre_eq, h1']
    unfold j13_2
    by_cases h4 : (checkR (L.map evT)).2 = 0
    · simp only [go_sem, ↓reduceIte, Nat.reduceAdd, Nat.reduceMul, Nat.reduceSub, Nat.reduceLT, Nat.reduceLeDiff, Nat.reduceEqDiff, Int.reduceToNat, Int.reduceEq, Int.reduceLT, Int.reduceLE, reduceCtorEq, Gre_eq, he, h4]

    · simp only [go_sem, ↓reduceIte, Nat.reduceAdd, Nat.reduceMul, Nat.reduceSub, Nat.reduceLT, Nat.reduceLeDiff, Nat.reduceEqDiff, Int.reduceToNat, Int.reduceEq, Int.reduceLT, Int.reduceLE, reduceCtorEq, Gre_eq, he, h4]

def j14_1 : JC :=
  (.seq (.seq (.ops <|
  qo 19 (.mv (.t 8)) <|
  .nil)
  (.cond (.t 19)
  .skip
  (.exit 0)))
  (.block 1 (.seq (.ops <|
  qo 9 (.mv (.c (.str []))) <|
  .nil)
  (.seq (.ops <|
  qo 21 (.mv (.t 7)) <|
  .prune [21, 6, 5] <|
  eo 22 (.call 26 [(.t 21), (.c (.str [10]))]) <|
  qo 20 (.mv (.t 22)) <|
  qo 23 (.ext 0 (.t 20)) <|
  qo 24 (.ext 1 (.t 20)) <|
  qo 25 (.ext 2 (.t 20)) <|
  .prune [23, 24, 25, 6, 5] <|
  qo 9 (.mv (.t 23)) <|
  qo 7 (.mv (.t 24)) <|
  qo 8 (.mv (.t 25)) <|
  .nil)
  (.prune [6, 9, 5, 8, 7] (.seq (.ops <|
  qo 26 (.mv (.t 6)) <|
  qo 27 (.ar .add (.t 26) (I 1)) <|
  qo 6 (.mv (.t 27)) <|
  .nil)
  (.seq (.ops <|
  .prune [9, 6, 5, 8, 7] <|
  qo 29 (.mv (.t 9)) <|
  eo 30 (.call 12 [(.t 29)]) <|
  qo 28 (.mv (.t 30)) <|
  .prune [28, 6, 5, 8, 7] <|
  qo 31 (.ext 0 (.t 28)) <|
  qo 32 (.ext 1 (.t 28)) <|
  eo 10 (.alloc 29 (.agg [(.int .i64 0), (.int .i64 0), (.int .i64 0)])) <|
  en (.store 3 (.t 10) (.t 31)) <|
  qo 11 (.mv (.t 32)) <|
  .nil)
  (.prune [11, 6, 5, 10, 8, 7] (.seq (.seq (.ops <|
  qo 33 (.mv (.t 11)) <|
  qo 34 (.cmp .neq (.t 33) (I 0)) <|
  .nil)
  (.cond (.t 34)
  (.seq (.ops <|
  .prune [6, 11] <|
  qo 35 (.mv (.t 6)) <|
  qo 36 (.mv (.t 11)) <|
  qo 2 (.mv (.c .nils)) <|
  qo 3 (.mv (.t 35)) <|
  qo 4 (.mv (.t 36)) <|
  .nil)
  (.vecs 2 29 3 .ret))
  .skip))
  (.prune [5, 10, 8, 7, 6] (.ops <|
  qo 37 (.mv (.t 5)) <|
  eo 38 (.load 3 true (.t 10)) <|
  eo 39 (.bsl 29 3 1 (.agg [(.int .i64 0), (.int .i64 0), (.int .i64 0)]) [(0, (.t 38))]) <|
  eo 40 (.app 29 3 24 (.t 37) (.t 39)) <|
  qo 5 (.mv (.t 40)) <|
  .nil)))))))))))
def j14_2 : JC :=
  (.prune [5] (.seq (.seq (.ops <|
  qo 41 (.mv (.t 5)) <|
  eo 42 (.call 18 [(.t 41)]) <|
  qo 12 (.mv (.t 42)) <|
  .nil)
  (.seq (.ops <|
  qo 43 (.mv (.t 12)) <|
  qo 44 (.cmp .neq (.t 43) (I 0)) <|
  .nil)
  (.cond (.t 44)
  (.seq (.ops <|
  qo 45 (.mv (.t 12)) <|
  .prune [45] <|
  qo 2 (.mv (.c .nils)) <|
  qo 3 (.mv (I 0)) <|
  qo 4 (.mv (.t 45)) <|
  .nil)
  (.vecs 2 29 3 .ret))
  .skip)))
  (.prune [5] (.seq (.ops <|
  qo 46 (.mv (.t 5)) <|
  qo 2 (.mv (.t 46)) <|
  qo 3 (.mv (I 0)) <|
  qo 4 (.mv (I 0)) <|
  .nil)
  (.vecs 2 29 3 .ret)))))
def j14 : JC :=
  (.seq (.ops <|
  qo 2 (.mv (.c .nils)) <|
  qo 3 (.mv (I 0)) <|
  qo 4 (.mv (I 0)) <|
  .nil)
  (.seq (.seq (.ops <|
  qo 13 (.mv (.t 0)) <|
  qo 14 (.lens (.t 13)) <|
  qo 15 (.cmp .gtr (.t 14) (I 2000)) <|
  .nil)
  (.cond (.t 15)
  (.seq (.ops <|
  qo 2 (.mv (.c .nils)) <|
  qo 3 (.mv (I 0)) <|
  qo 4 (.mv (I 2)) <|
  .nil)
  (.vecs 2 29 3 .ret))
  .skip))
  (.seq (.ops <|
  qo 5 (.mv (.c .nils)) <|
  .nil)
  (.prune [0, 5] (.seq (.ops <|
  qo 6 (.mv (I 0)) <|
  .nil)
  (.seq (.seq (.ops <|
  qo 16 (.mv (.t 0)) <|
  qo 17 (.mv (.t 0)) <|
  qo 18 (.seq true (.t 17) (.c (.str []))) <|
  qo 7 (.mv (.t 16)) <|
  qo 8 (.mv (.t 18)) <|
  .nil)
  (.block 0 (.vecs 5 29 3 (.loop [] [8, 7, 6, 5] j14_1))))
  j14_2))))))
theorem c14 : fnIs Tryd.prog qall 14 = some (j14.flat, [.tmp 2, .tmp 3, .tmp 4], 47) := by kernel_rfl
theorem w14 : j14.wf 47 = true := by kernel_rfl
def Grr (f : FuncId) (a : List SV) (m : List Res) : Sx.Call := (FH.rd 26 (.two .str .str) (.three .str .str .bool) (fun y => y.1.length ≤ 1048576 ∧ y.2.1.length = 1) (fun y => cutL y.1 (y.2.1.getD 0 0)) <|
  FH.rd 12 (.one .str) (.two dEv .int) (fun _ => True) (fun y => eventF y.1) <|
  FH.rd 18 (.one dEs) (.one .int) (fun _ => True) (fun y => (checkR y.1).2) FH.none) f a m
theorem Grr_eq (f : FuncId) (a : List SV) (m : List Res) : Grr f a m = (FH.rd 26 (.two .str .str) (.three .str .str .bool) (fun y => y.1.length ≤ 1048576 ∧ y.2.1.length = 1) (fun y => cutL y.1 (y.2.1.getD 0 0)) <|
  FH.rd 12 (.one .str) (.two dEv .int) (fun _ => True) (fun y => eventF y.1) <|
  FH.rd 18 (.one dEs) (.one .int) (fun _ => True) (fun y => (checkR y.1).2) FH.none) f a m := nr rfl
theorem Grr_ok : FHOK Tryd.prog Grr := FH.rd_ok (by kernel_rfl) (fun y h => by
  obtain ⟨s, b, u⟩ := y
  obtain ⟨h1, h2⟩ := h
  simp only at h1 h2
  match b, h2 with
  | [c], _ => exact f_Cut s c h1) <| FH.rd_ok (by kernel_rfl) (fun y _ => f_EventOf y.1) <| FH.rd_ok (by kernel_rfl) (fun y _ => f_May y.1) FH.none_ok
theorem f_TextRead (s : By) : FnOK Tryd.prog 14 [.str s] [] (.tup [.vec 0 (readF s).1.length, .int .i64 (readF s).2.1, .int .i64 (readF s).2.2]) [.vec 29 3 ((readF s).1.map dEv.emb)] := by
  refine fn_walkF c14 w14 Grr_ok rfl ?_
  unfold j14
  by_cases h2 : 2000 < s.length
  · have h2' : (s.length : Int) > 2000 := by omega
    rw [readF, if_pos h2]
    simp only [go_sem, ↓reduceIte, Nat.reduceAdd, Nat.reduceMul, Nat.reduceSub, Nat.reduceLT, Nat.reduceLeDiff, Nat.reduceEqDiff, Int.reduceToNat, Int.reduceEq, Int.reduceLT, Int.reduceLE, reduceCtorEq, Grr_eq, h2']
  have h2' : ¬ (s.length : Int) > 2000 := by omega
  have hl := pieces_len (s := s) (by omega)
  have hr : readF s = match scanP (piecesT s) 0 with
      | some (n, e) => ([], n, e)
      | none => if (checkR ((piecesT s).map evT)).2 = 0 then ((piecesT s).map evT, 0, 0) else ([], 0, (checkR ((piecesT s).map evT)).2) := by rw [readF, if_neg h2]
  have hp : s ≠ [] → piecesT s = splitL s 10 := fun h0 => by rw [piecesT, if_neg h0]
  have hp0 : s = [] → piecesT s = [] := fun h0 => by rw [piecesT, if_pos h0]
  rw [hr]
  generalize piecesT s = L at hl hp hp0 ⊢
  clear hr
  simp only [go_sem, ↓reduceIte, Nat.reduceAdd, Nat.reduceMul, Nat.reduceSub, Nat.reduceLT, Nat.reduceLeDiff, Nat.reduceEqDiff, Int.reduceToNat, Int.reduceEq, Int.reduceLT, Int.reduceLE, reduceCtorEq, Grr_eq, h2']
  have hne : ∀ r : By, (splitL r 10).length ≠ 0 := fun r => by rw [split_len]; omega
  refine loopF (Nat × By) (fun x => [.bool (decide (x.1 < L.length)), .str x.2, .int .i64 x.1, .vec 0 ((L.take x.1).map evT).length]) (fun x => [.vec 29 3 (((L.take x.1).map evT).map dEv.emb)])
    (fun x => x.1 ≤ L.length ∧ x.2.length ≤ 2000 ∧ (x.1 < L.length → splitL x.2 10 = L.drop x.1) ∧ scanP L 0 = scanP (L.drop x.1) x.1) (fun x => L.length - x.1) (0, s) ⟨by simp only; omega, by simp only; omega, fun h => ?_, rfl⟩ ?_ rfl ?_
  · by_cases h0 : s = []
    · rw [hp0 h0] at h; cases h
    · rw [hp h0]; rfl
  · simp only [go_sem, ↓reduceIte, Nat.reduceAdd, Nat.reduceMul, Nat.reduceSub, Nat.reduceLT, Nat.reduceLeDiff, Nat.reduceEqDiff, Int.reduceToNat, Int.reduceEq, Int.reduceLT, Int.reduceLE, reduceCtorEq]
    by_cases h0 : s = []
    · simp [hp0 h0, h0]
    · have := hne s
      rw [hp h0]
      simp [h0]
      omega
  rintro ⟨i, r⟩ ⟨hi, hrl, hd, hsc⟩
  simp only at hi hrl hd hsc
  by_cases h1 : i < L.length
  · have hsp := hd h1
    rw [split_cut, drop_getD [] h1] at hsp
    obtain ⟨hp1, hp2⟩ := List.cons.inj hsp
    have hdr := scan_drop h1
    have hw : IntKind.i64.wrap ((i : Int) + 1) = (i : Int) + 1 := IntWalk.i64_in _ (by omega)
    have hm := List.length_take_of_le hi
    have hcl := cut_len r 10
    have hr8 : r.length ≤ 1048576 := by omega
    have hmore : (cutL r 10).2.2 = decide (i + 1 < L.length) := by
      by_cases h : (cutL r 10).2.2 = true
      · rw [if_pos h] at hp2
        have := hne (cutL r 10).2.1
        rw [hp2, List.length_drop] at this
        rw [h]
        exact (decide_eq_true (by omega)).symm
      · rw [if_neg h] at hp2
        have := congrArg List.length hp2
        rw [List.length_drop, List.length_nil] at this
        rw [Bool.not_eq_true _ |>.mp h]
        exact (decide_eq_false (by omega)).symm
    unfold j14_1
    by_cases h3 : (eventF (L.getD i [])).2 = 0
    · rw [if_pos h3] at hdr
      have h3' : (eventF (cutL r 10).1).2 = 0 := by rw [hp1]; exact h3
      simp only [go_sem, ↓reduceIte, Nat.reduceAdd, Nat.reduceMul, Nat.reduceSub, Nat.reduceLT, Nat.reduceLeDiff, Nat.reduceEqDiff, Int.reduceToNat, Int.reduceEq, Int.reduceLT, Int.reduceLE, reduceCtorEq, Grr_eq, h1, hr8, h3', hw, hmore, List.length_singleton, List.getD_cons_zero]
      refine ⟨by omega, (i + 1, (cutL r 10).2.1), ⟨h1, by simp only; omega, fun h => ?_, by rw [hsc, hdr]⟩, by simp only; omega, ⟨rfl, rfl, rfl, by rw [hm, List.length_take_of_le h1]⟩, ?_⟩
      · simp only at h ⊢
        rw [hmore, if_pos (decide_eq_true h)] at hp2
        exact hp2
      · rw [take_getD DT.str.dft h1, List.map_append, List.map_append, hp1]
        rfl
    · rw [if_neg h3] at hdr
      have h3' : ¬ (eventF (cutL r 10).1).2 = 0 := by rw [hp1]; exact h3
      rw [hsc, hdr]
      simp only [go_sem, ↓reduceIte, Nat.reduceAdd, Nat.reduceMul, Nat.reduceSub, Nat.reduceLT, Nat.reduceLeDiff, Nat.reduceEqDiff, Int.reduceToNat, Int.reduceEq, Int.reduceLT, Int.reduceLE, reduceCtorEq, Grr_eq, h1, hr8, h3', hw, hmore, List.length_singleton, List.getD_cons_zero]
      rw [hp1]
  · obtain rfl : i = L.length := by omega
    have hdn : scanP L 0 = none := by rw [hsc, List.drop_length]; rfl
    rw [hdn, List.take_length]
    unfold j14_1
    simp only [go_sem, ↓reduceIte, Nat.reduceAdd, Nat.reduceMul, Nat.reduceSub, Nat.reduceLT, Nat.reduceLeDiff, Nat.reduceEqDiff, Int.reduceToNat, Int.reduceEq, Int.reduceLT, Int.reduceLE, reduceCtorEq, Grr_eq, Nat.lt_irrefl]
    unfold j14_2
    by_cases h4 : (checkR (L.map evT)).2 = 0
    · simp only [go_sem, ↓reduceIte, Nat.reduceAdd, Nat.reduceMul, Nat.reduceSub, Nat.reduceLT, Nat.reduceLeDiff, Nat.reduceEqDiff, Int.reduceToNat, Int.reduceEq, Int.reduceLT, Int.reduceLE, reduceCtorEq, Grr_eq, h4]

    · simp only [go_sem, ↓reduceIte, Nat.reduceAdd, Nat.reduceMul, Nat.reduceSub, Nat.reduceLT, Nat.reduceLeDiff, Nat.reduceEqDiff, Int.reduceToNat, Int.reduceEq, Int.reduceLT, Int.reduceLE, reduceCtorEq, Grr_eq, h4]

end Go.Proofs.YtgcbhanfhnianaaDoor.Tx
