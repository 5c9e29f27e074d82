/- The reference of ring: rows, Ring. Conditions: none. -/
import Derived.Test.YtmddnblbfmlgoaaRingA
import Derived.Test.YtmddnblbfmlgoaaMr
import Derived.Test.YtmddnblbfmlgoaaProgC
set_option linter.unusedSimpArgs false
set_option linter.unusedVariables false
set_option maxRecDepth 100000
open Go Go.Sx Go.Proofs
namespace Go.Proofs.Ytmddnblbfmlgoaa.Rg
open Go.Proofs.Ytmddnblbfmlgoaa.D Go.Proofs.Ytmddnblbfmlgoaa.Hs Go.Proofs.Ytmddnblbfmlgoaa.Cp Go.Proofs.Ytmddnblbfmlgoaa.Mr Go.Proofs.Ytmddnblbfmlgoaa.Pg
abbrev dRI : DT (List (List Int)) := DT.list 1 (DT.list 1 DT.int)
def rowK (r : List Int) : Nat → List (List Int)
  | 0 => []
  | k + 1 => rowK r k ++ if hasI r k = true then [] else [r ++ [(k : Int)]]
def rowsTo (L : List (List Int)) : Nat → List (List Int)
  | 0 => []
  | i + 1 => rowsTo L i ++ rowK (L.getD i []) 5
def rowsR : Nat → List (List Int)
  | 0 => [[]]
  | n + 1 => rowsTo (rowsR n) (rowsR n).length
theorem rowK_len {r : List Int} : ∀ k, (rowK r k).length ≤ k
  | 0 => Nat.le_refl _
  | k + 1 => by
    have := rowK_len (r := r) k
    rw [rowK, List.length_append]
    split <;> simp <;> omega
theorem rowsTo_len {L : List (List Int)} : ∀ i, (rowsTo L i).length ≤ i * 5
  | 0 => Nat.le_refl _
  | i + 1 => by
    have h1 := rowsTo_len (L := L) i
    have h2 := rowK_len (r := L.getD i []) 5
    rw [rowsTo, List.length_append]
    omega
theorem rowsR_len : ∀ n, n ≤ 5 → (rowsR n).length ≤ 5 ^ n
  | 0, _ => Nat.le_refl _
  | n + 1, h => by
    have h1 := rowsR_len n (by omega)
    have h2 := rowsTo_len (L := rowsR n) (rowsR n).length
    rw [rowsR, Nat.pow_succ]
    exact Nat.le_trans h2 (Nat.mul_le_mul_right 5 h1)
theorem rowsR_len' {n : Nat} (h : n ≤ 5) : (rowsR n).length ≤ 3125 := Nat.le_trans (rowsR_len n h) (Nat.le_trans (Nat.pow_le_pow_right (by omega) h) (by decide))
theorem rowK_of {r x : List Int} : ∀ {k : Nat}, x ∈ rowK r k → ∃ j : Nat, j < k ∧ x = r ++ [(j : Int)]
  | 0, h => by cases h
  | k + 1, h => by
    rw [rowK, List.mem_append] at h
    rcases h with h | h
    · obtain ⟨j, hj, e⟩ := rowK_of h
      exact ⟨j, by omega, e⟩
    · split at h
      · cases h
      · simp only [List.mem_cons, List.not_mem_nil, or_false] at h
        exact ⟨k, by omega, h⟩
theorem rowsTo_of {L : List (List Int)} {x : List Int} : ∀ {i : Nat}, i ≤ L.length → x ∈ rowsTo L i → ∃ r, r ∈ L ∧ ∃ j : Nat, j < 5 ∧ x = r ++ [(j : Int)]
  | 0, _, h => by cases h
  | i + 1, hi, h => by
    rw [rowsTo, List.mem_append] at h
    rcases h with h | h
    · exact rowsTo_of (by omega) h
    · exact ⟨L.getD i [], getD_mem (by omega), rowK_of h⟩
theorem rowsR_of : ∀ {n : Nat} {x : List Int}, x ∈ rowsR n → x.length = n ∧ okRow x
  | 0, x, h => by
    simp only [rowsR, List.mem_cons, List.not_mem_nil, or_false] at h
    subst h
    exact ⟨rfl, fun y hy => by cases hy⟩
  | n + 1, x, h => by
    obtain ⟨r, hr, j, hj, rfl⟩ := rowsTo_of (Nat.le_refl _) h
    obtain ⟨h1, h2⟩ := rowsR_of hr
    refine ⟨by simp [h1], fun y hy => ?_⟩
    rcases List.mem_append.1 hy with hy | hy
    · exact h2 y hy
    · simp only [List.mem_cons, List.not_mem_nil, or_false] at hy; omega
def j58_1 : JC :=
  (.seq (.ops <|
  qo 19 (.cmp .lss (.t 18) (I 5)) <|
  .nil)
  (.seq (.cond (.t 19)
  .skip
  (.exit 2))
  (.seq (.block 3 (.seq (.ops <|
  qo 20 (.mv (.t 18)) <|
  qo 6 (.mv (.t 20)) <|
  .nil)
  (.seq (.ops <|
  qo 21 (.mv (.t 5)) <|
  qo 22 (.mv (.t 6)) <|
  eo 23 (.call 63 [(.t 21), (.t 22)]) <|
  qo 24 (.nt (.t 23)) <|
  .nil)
  (.prune [24, 3, 5, 6, 18, 14, 13, 12] (.cond (.t 24)
  (.ops <|
  qo 25 (.mv (.t 3)) <|
  qo 26 (.mv (.t 5)) <|
  eo 27 (.call 64 [(.t 26)]) <|
  .prune [6, 27, 25, 18, 5, 14, 13, 12] <|
  qo 28 (.mv (.t 6)) <|
  eo 29 (.bsl 3 1 1 (.int .i64 0) [(0, (.t 28))]) <|
  eo 30 (.app 3 1 8 (.t 27) (.t 29)) <|
  .prune [30, 25, 18, 5, 14, 13, 12] <|
  eo 31 (.bsl 24 1 1 .nils [(0, (.t 30))]) <|
  eo 32 (.app 24 1 24 (.t 25) (.t 31)) <|
  qo 3 (.mv (.t 32)) <|
  .nil)
  .skip)))))
  (.prune [18, 5, 3, 14, 13, 12] (.ops <|
  qo 33 (.ar .add (.t 18) (I 1)) <|
  qo 18 (.mv (.t 33)) <|
  .nil)))))
def j58_2 : JC :=
  (.prune [14, 13, 12, 3] (.ops <|
  qo 34 (.ar .add (.t 14) (I 1)) <|
  qo 14 (.mv (.t 34)) <|
  .nil))
def j58_3 : JC :=
  (.seq (.ops <|
  qo 15 (.cmp .lss (.t 14) (.t 13)) <|
  .nil)
  (.seq (.cond (.t 15)
  .skip
  (.exit 0))
  (.seq (.block 1 (.seq (.ops <|
  qo 16 (.is 1 (.t 12) (.t 14)) <|
  eo 17 (.load 1 false (.t 16)) <|
  qo 5 (.mv (.t 17)) <|
  .nil)
  (.seq (.ops <|
  qo 18 (.mv (I 0)) <|
  .nil)
  (.block 2 (.vecs 3 24 1 (.loop [5, 14, 13, 12] [18, 3] j58_1))))))
  j58_2)))
def j58_4 : JC :=
  (.prune [3] (.seq (.ops <|
  qo 35 (.mv (.t 3)) <|
  qo 2 (.mv (.t 35)) <|
  .nil)
  (.vecs 2 24 1 (.frz 2 dRI.frz .ret))))
def j58 : JC :=
  (.seq (.ops <|
  qo 2 (.mv (.c .nils)) <|
  .nil)
  (.seq (.seq (.ops <|
  qo 7 (.mv (.t 0)) <|
  qo 8 (.cmp .eql (.t 7) (I 0)) <|
  .nil)
  (.cond (.t 8)
  (.seq (.ops <|
  eo 9 (.bsl 24 1 1 .nils [(0, (.c .nils))]) <|
  qo 2 (.mv (.t 9)) <|
  .nil)
  (.vecs 2 24 1 (.frz 2 dRI.frz .ret)))
  .skip))
  (.seq (.ops <|
  qo 3 (.mv (.c .nils)) <|
  .nil)
  (.seq (.seq (.ops <|
  qo 10 (.mv (.t 0)) <|
  .prune [10, 3] <|
  qo 11 (.ar .sub (.t 10) (I 1)) <|
  eo 12 (.call 58 [(.t 11)]) <|
  qo 13 (.len (.t 12)) <|
  qo 14 (.mv (I 0)) <|
  .nil)
  (.prune [14, 13, 12, 3] (.block 0 (.vecs 3 24 1 (.loop [13, 12] [14, 3] j58_3)))))
  j58_4))))
theorem c58 : fnIs Try.prog qall 58 = some (j58.flat, [.tmp 2], 36) := by kernel_rfl
theorem w58 : j58.wf 36 = true := by kernel_rfl
def Grw (n : Nat) : FH := FH.rd 63 (.two dIs .int) (.one .bool) (fun _ => True) (fun y => hasI y.1 y.2.1) <|
  FH.mk 64 (.one dIs) (fun y => y.1.length ≤ 1000000) (fun y => .vec 0 y.1.length) (fun y => [.vec 3 1 (y.1.map DT.int.emb)]) <|
  FH.pz 58 (.one .int) (.one dRI) (fun y => y.1 = n) (fun _ => rowsR n) FH.none
theorem Grw_eq (n : Nat) (f : FuncId) (a : List SV) (m : List Res) : Grw n f a m = (FH.rd 63 (.two dIs .int) (.one .bool) (fun _ => True) (fun y => hasI y.1 y.2.1) <|
  FH.mk 64 (.one dIs) (fun y => y.1.length ≤ 1000000) (fun y => .vec 0 y.1.length) (fun y => [.vec 3 1 (y.1.map DT.int.emb)]) <|
  FH.pz 58 (.one .int) (.one dRI) (fun y => y.1 = n) (fun _ => rowsR n) FH.none) f a m := nr rfl
theorem f_rows : ∀ (n : Nat), n ≤ 5 → FnOK Try.prog 58 [.int .i64 n] [] (dRI.emb (rowsR n)) []
  | 0, _ => by
    refine fn_walkF c58 w58 FH.none_ok rfl ?_
    unfold j58
    simp only [go_sem, ↓reduceIte, Nat.reduceAdd, Nat.reduceMul, Nat.reduceSub, Nat.reduceLT, Nat.reduceLeDiff, Nat.reduceEqDiff, Int.reduceToNat, Int.reduceEq, Int.reduceLT, Int.reduceLE, reduceCtorEq]
    rfl
  | n + 1, hn => by
    have ih := f_rows n (by omega)
    have hok : FHOK Try.prog (Grw n) := FH.rd_ok (by kernel_rfl) (fun y _ => f_HasInt y.1 y.2.1) <|
      FH.mk_ok (by kernel_rfl) (fun y _ => plainM (pv_vec _ _) ⟨plR_vec _ _ DT.int _, trivial⟩) (fun y h => f_CopyInt y.1 h) <|
      FH.pz_ok (by kernel_rfl) (fun y h => by
        obtain ⟨m, u⟩ := y
        simp only at h
        subst h
        exact ih) FH.none_ok
    refine fn_walkF c58 w58 hok rfl ?_
    have e1 : ¬ ((n + 1 : Nat) : Int) = 0 := by omega
    have e2 : IntKind.i64.wrap (((n + 1 : Nat) : Int) - 1) = (n : Int) := by rw [IntWalk.i64_in _ (by omega)]; omega
    unfold j58
    simp only [go_sem, ↓reduceIte, Nat.reduceAdd, Nat.reduceMul, Nat.reduceSub, Nat.reduceLT, Nat.reduceLeDiff, Nat.reduceEqDiff, Int.reduceToNat, Int.reduceEq, Int.reduceLT, Int.reduceLE, reduceCtorEq, Grw_eq, e1, e2]
    have hlen := rowsR_len' (show n ≤ 5 by omega)
    rw [mr_start (U := 3) (w := 1) (d := DT.int)]
    refine loopF Nat (fun i => [.int .i64 i, .vec 0 (rowsTo (rowsR n) i).length]) (fun i => mr 24 3 1 DT.int (rowsTo (rowsR n) i)) (fun i => i ≤ (rowsR n).length) (fun i => (rowsR n).length - i) 0 (by omega) ?_ rfl ?_
    · simp only [go_sem, ↓reduceIte, Nat.reduceAdd, Nat.reduceMul, Nat.reduceSub, Nat.reduceLT, Nat.reduceLeDiff, Nat.reduceEqDiff, Int.reduceToNat, Int.reduceEq, Int.reduceLT, Int.reduceLE, reduceCtorEq]
      rfl
    intro i hi
    by_cases h1 : i < (rowsR n).length
    · have h1' : (i : Int) < (rowsR n).length := by omega
      have hw : IntKind.i64.wrap ((i : Int) + 1) = ((i + 1 : Nat) : Int) := IntWalk.i64_in _ (by omega)
      have hl1 := rowsTo_len (L := rowsR n) i
      have hr := (rowsR_of (getD_mem (l := rowsR n) (d := []) h1)).1
      unfold j58_3
      simp only [go_sem, ↓reduceIte, Nat.reduceAdd, Nat.reduceMul, Nat.reduceSub, Nat.reduceLT, Nat.reduceLeDiff, Nat.reduceEqDiff, Int.reduceToNat, Int.reduceEq, Int.reduceLT, Int.reduceLE, reduceCtorEq, h1, h1', mr_len]
      refine ⟨by omega, ?_⟩
      generalize hrr : (rowsR n).getD i [] = r at hr
      generalize hLL : rowsTo (rowsR n) i = L at hl1
      have hnext : rowsTo (rowsR n) (i + 1) = L ++ rowK r 5 := by rw [rowsTo, hLL, hrr]
      refine loopF Nat (fun k => [.int .i64 k, .vec 0 (L ++ rowK r k).length]) (fun k => mr 24 3 1 DT.int (L ++ rowK r k)) (fun k => k ≤ 5) (fun k => 5 - k) 0 (by omega) ?_ ?_ ?_
      · simp only [go_sem, ↓reduceIte, Nat.reduceAdd, Nat.reduceMul, Nat.reduceSub, Nat.reduceLT, Nat.reduceLeDiff, Nat.reduceEqDiff, Int.reduceToNat, Int.reduceEq, Int.reduceLT, Int.reduceLE, reduceCtorEq]
        simp [rowK]
      · simp [rowK]
      intro k hk
      by_cases h2 : k < 5
      · have h2' : (k : Int) < 5 := by omega
        have hwk : IntKind.i64.wrap ((k : Int) + 1) = ((k + 1 : Nat) : Int) := IntWalk.i64_in _ (by omega)
        have hl2 := rowK_len (r := r) k
        have hl3 : (L ++ rowK r k).length ≤ 20000 := by rw [List.length_append]; omega
        cases hh : hasI r k with
        | true =>
          have hn : L ++ rowK r (k + 1) = L ++ rowK r k := by rw [rowK, if_pos hh, List.append_nil]
          unfold j58_1
          simp only [go_sem, ↓reduceIte, Nat.reduceAdd, Nat.reduceMul, Nat.reduceSub, Nat.reduceLT, Nat.reduceLeDiff, Nat.reduceEqDiff, Int.reduceToNat, Int.reduceEq, Int.reduceLT, Int.reduceLE, reduceCtorEq, Grw_eq, h2, h2', hwk, hh]
          refine ⟨k + 1, by omega, by omega, Nat.zero_le _, ⟨rfl, ?_⟩, ?_⟩
          · rw [hn, mr_len]; simp
          · rw [hn]; exact mr_trim' mr_len
        | false =>
          have hn : L ++ rowK r (k + 1) = (L ++ rowK r k) ++ [r ++ [(k : Int)]] := by rw [rowK, if_neg (by rw [hh]; simp), List.append_assoc]
          generalize hM : L ++ rowK r k = M at hn hl3
          unfold j58_1
          simp only [go_sem, ↓reduceIte, Nat.reduceAdd, Nat.reduceMul, Nat.reduceSub, Nat.reduceLT, Nat.reduceLeDiff, Nat.reduceEqDiff, Int.reduceToNat, Int.reduceEq, Int.reduceLT, Int.reduceLE, reduceCtorEq, Grw_eq, h2, h2', hwk, hh, mr_len, List.length_append, mr_at0, mr_new_at, mr_new_at2, mr_new_at3, mr_new_set, mr_kill0, mr_kill1, mr_killtb]
          have hnl := congrArg List.length hn
          rw [List.length_append, List.length_append] at hnl
          simp only [List.length_cons, List.length_nil] at hnl
          have e3 : List.map DT.int.emb r ++ [SV.int .i64 k] = (r ++ [(k : Int)]).map DT.int.emb := by simp [int_emb]
          refine ⟨by omega, by omega, by omega, k + 1, by omega, by omega, ⟨rfl, by rw [hnl]⟩, ?_⟩
          rw [e3, mr_more (by simp), hn]
          exact mr_trim (by rw [List.length_append]; simp only [List.length_cons, List.length_nil]; omega) _
      · have e : k = 5 := by omega
        subst e
        unfold j58_1
        simp only [go_sem, ↓reduceIte, Nat.reduceAdd, Nat.reduceMul, Nat.reduceSub, Nat.reduceLT, Nat.reduceLeDiff, Nat.reduceEqDiff, Int.reduceToNat, Int.reduceEq, Int.reduceLT, Int.reduceLE, reduceCtorEq]
        unfold j58_2
        simp only [go_sem, ↓reduceIte, Nat.reduceAdd, Nat.reduceMul, Nat.reduceSub, Nat.reduceLT, Nat.reduceLeDiff, Nat.reduceEqDiff, Int.reduceToNat, Int.reduceEq, Int.reduceLT, Int.reduceLE, reduceCtorEq, mr_len]
        refine ⟨i + 1, by omega, by omega, ⟨hw, by rw [hnext]⟩, ?_⟩
        rw [hnext]
        exact mr_trim' (by omega)
    · have h1' : ¬ (i : Int) < (rowsR n).length := by omega
      have e : i = (rowsR n).length := by omega
      subst e
      unfold j58_3
      simp only [go_sem, ↓reduceIte, Nat.reduceAdd, Nat.reduceMul, Nat.reduceSub, Nat.reduceLT, Nat.reduceLeDiff, Nat.reduceEqDiff, Int.reduceToNat, Int.reduceEq, Int.reduceLT, Int.reduceLE, reduceCtorEq, h1']
      unfold j58_4
      simp only [go_sem, ↓reduceIte, Nat.reduceAdd, Nat.reduceMul, Nat.reduceSub, Nat.reduceLT, Nat.reduceLeDiff, Nat.reduceEqDiff, Int.reduceToNat, Int.reduceEq, Int.reduceLT, Int.reduceLE, reduceCtorEq, mr_at0']
      exact ⟨mr_decP, by rw [mr_decV]; rfl⟩
/-- Whether a row is a ring: its first i edges. -/
def edgeB (p : List Pr) (r : List Int) (many : Nat) (i : Nat) : Bool := hasP p ⟨r.getD i 0, r.getD ((i + 1) % many) 0⟩
def edgesB (p : List Pr) (r : List Int) (many : Nat) : Nat → Bool
  | 0 => true
  | i + 1 => edgesB p r many i && edgeB p r many i
def firstR (f : List Int → Bool) : List (List Int) → Option (List Int)
  | [] => none
  | r :: L => if f r = true then some r else firstR f L
def refRing (p : List Pr) : Option (List Int) := scan (fun m => firstR (fun r => edgesB p r (m + 1) (m + 1)) (rowsR (m + 1))) 0 5
def badRR (x : Pr) : Bool := outB x.a 0 4 || outB x.b 0 4
def j36_1 : JC :=
  (.seq (.ops <|
  qo 15 (.cmp .lss (.t 14) (.t 13)) <|
  .nil)
  (.seq (.cond (.t 15)
  .skip
  (.exit 0))
  (.seq (.block 1 (.seq (.ops <|
  qo 16 (.is 2 (.t 12) (.t 14)) <|
  eo 17 (.load 2 true (.t 16)) <|
  eo 5 (.alloc 53 (.agg [(.int .i64 0), (.int .i64 0)])) <|
  en (.store 2 (.t 5) (.t 17)) <|
  .nil)
  (.seq (.ops <|
  .prune [5, 14, 13, 12, 0] <|
  qo 18 (.fa 0 0 (.t 5)) <|
  eo 19 (.load 1 false (.t 18)) <|
  eo 20 (.call 45 [(.t 19), (I 0), (I 4)]) <|
  qo 21 (.mv (.t 20)) <|
  .prune [21, 5, 14, 13, 12, 0] <|
  .sc true 25 21 (qo 22 (.fa 1 1 (.t 5)) <|
  eo 23 (.load 1 false (.t 22)) <|
  eo 24 (.call 45 [(.t 23), (I 0), (I 4)]) <|
  .nil) (.t 24) <|
  .nil)
  (.prune [25, 14, 13, 12, 0] (.cond (.t 25)
  (.seq (.ops <|
  qo 2 (.mv (.c .nils)) <|
  qo 3 (.mv (I 1)) <|
  .nil)
  .ret)
  .skip)))))
  (.prune [14, 13, 12, 0] (.ops <|
  qo 26 (.ar .add (.t 14) (I 1)) <|
  qo 14 (.mv (.t 26)) <|
  .nil)))))
def j36_2 : JC :=
  (.seq (.ops <|
  qo 41 (.cmp .lss (.t 40) (.t 39)) <|
  .nil)
  (.prune [41, 40, 38, 9, 0, 8, 6, 39, 34, 33, 32] (.seq (.cond (.t 41)
  .skip
  (.exit 6))
  (.prune [40, 38, 9, 0, 8, 6, 39, 34, 33, 32] (.seq (.block 7 (.seq (.ops <|
  qo 42 (.mv (.t 40)) <|
  qo 43 (.is 1 (.t 38) (.t 40)) <|
  eo 44 (.load 1 false (.t 43)) <|
  qo 10 (.mv (.t 42)) <|
  qo 11 (.mv (.t 44)) <|
  .nil)
  (.prune [9, 0, 11, 8, 10, 6, 40, 39, 38, 34, 33, 32] (.ops <|
  qo 45 (.mv (.t 9)) <|
  qo 46 (.mv (.t 45)) <|
  .sc false 58 46 (qo 47 (.mv (.t 0)) <|
  qo 48 (.mv (.t 11)) <|
  qo 49 (.mv (.t 8)) <|
  qo 50 (.mv (.t 10)) <|
  qo 51 (.ar .add (.t 50) (I 1)) <|
  qo 52 (.mv (.t 6)) <|
  qo 53 (.ar .rem (.t 51) (.t 52)) <|
  qo 54 (.is 1 (.t 49) (.t 53)) <|
  eo 55 (.load 1 false (.t 54)) <|
  qo 56 (.bld (.agg [(.int .i64 0), (.int .i64 0)]) [([.fld 0], 0, 1, (.t 48)), ([.fld 1], 1, 1, (.t 55))]) <|
  eo 57 (.call 59 [(.t 47), (.t 56)]) <|
  .nil) (.t 57) <|
  qo 9 (.mv (.t 58)) <|
  .nil))))
  (.prune [40, 39, 38, 9, 0, 8, 6, 34, 33, 32] (.ops <|
  qo 59 (.ar .add (.t 40) (I 1)) <|
  qo 40 (.mv (.t 59)) <|
  .nil)))))))
def j36_3 : JC :=
  (.prune [9, 8, 34, 33, 32, 0, 6] (.seq (.ops <|
  qo 60 (.mv (.t 9)) <|
  .nil)
  (.cond (.t 60)
  (.seq (.ops <|
  .prune [8] <|
  qo 61 (.mv (.t 8)) <|
  qo 2 (.mv (.t 61)) <|
  qo 3 (.mv (I 0)) <|
  .nil)
  .ret)
  .skip)))
def j36_4 : JC :=
  (.prune [34, 33, 32, 0, 6] (.ops <|
  qo 62 (.ar .add (.t 34) (I 1)) <|
  qo 34 (.mv (.t 62)) <|
  .nil))
def j36_5 : JC :=
  (.seq (.ops <|
  qo 35 (.cmp .lss (.t 34) (.t 33)) <|
  .nil)
  (.seq (.cond (.t 35)
  .skip
  (.exit 4))
  (.seq (.block 5 (.seq (.ops <|
  qo 36 (.is 1 (.t 32) (.t 34)) <|
  eo 37 (.load 1 false (.t 36)) <|
  qo 8 (.mv (.t 37)) <|
  .nil)
  (.seq (.ops <|
  qo 9 (.mv (B true)) <|
  .nil)
  (.prune [8, 9, 0, 6, 34, 33, 32] (.seq (.seq (.ops <|
  qo 38 (.mv (.t 8)) <|
  qo 39 (.len (.t 38)) <|
  qo 40 (.mv (I 0)) <|
  .nil)
  (.prune [40, 39, 38, 9, 0, 8, 6, 34, 33, 32] (.block 6 (.loop [39, 38, 0, 8, 6, 34, 33, 32] [40, 9] j36_2))))
  j36_3)))))
  j36_4)))
def j36_6 : JC :=
  (.prune [6, 0] (.ops <|
  qo 29 (.mv (.t 6)) <|
  qo 30 (.ar .add (.t 29) (I 1)) <|
  qo 6 (.mv (.t 30)) <|
  .nil))
def j36_7 : JC :=
  (.seq (.seq (.ops <|
  qo 27 (.mv (.t 6)) <|
  qo 28 (.cmp .leq (.t 27) (I 5)) <|
  .nil)
  (.cond (.t 28)
  .skip
  (.exit 2)))
  (.seq (.block 3 (.seq (.ops <|
  qo 31 (.mv (.t 6)) <|
  eo 32 (.call 58 [(.t 31)]) <|
  qo 33 (.len (.t 32)) <|
  qo 34 (.mv (I 0)) <|
  .nil)
  (.block 4 (.loop [33, 32, 0, 6] [34] j36_5))))
  j36_6))
def j36_8 : JC :=
  (.prune [] (.seq (.ops <|
  qo 2 (.mv (.c .nils)) <|
  qo 3 (.mv (I 0)) <|
  .nil)
  .ret))
def j36_9 : JC :=
  (.prune [0] (.seq (.seq (.ops <|
  qo 6 (.mv (I 1)) <|
  .nil)
  (.block 2 (.loop [0] [6] j36_7)))
  j36_8))
def j36 : JC :=
  (.seq (.ops <|
  qo 2 (.mv (.c .nils)) <|
  qo 3 (.mv (I 0)) <|
  .nil)
  (.seq (.seq (.ops <|
  qo 12 (.mv (.t 0)) <|
  qo 13 (.len (.t 12)) <|
  qo 14 (.mv (I 0)) <|
  .nil)
  (.block 0 (.loop [13, 12, 0] [14] j36_1)))
  j36_9))
theorem c36 : fnIs Try.prog qall 36 = some (j36.flat, [.tmp 2, .tmp 3], 63) := by kernel_rfl
theorem w36 : j36.wf 63 = true := by kernel_rfl
def Grr (f : FuncId) (a : List SV) (m : List Res) : Sx.Call := (FH.rd 45 (.three .int .int .int) (.one .bool) (fun _ => True) (fun y => outB y.1 y.2.1 y.2.2.1) <|
  FH.rd 59 (.two dPrs dPr) (.one .bool) (fun _ => True) (fun y => hasP y.1 y.2.1) <|
  FH.pz 58 (.one .int) (.one dRI) (fun y => 0 ≤ y.1 ∧ y.1 ≤ 5) (fun y => rowsR y.1.toNat) FH.none) f a m
theorem Grr_eq (f : FuncId) (a : List SV) (m : List Res) : Grr f a m = (FH.rd 45 (.three .int .int .int) (.one .bool) (fun _ => True) (fun y => outB y.1 y.2.1 y.2.2.1) <|
  FH.rd 59 (.two dPrs dPr) (.one .bool) (fun _ => True) (fun y => hasP y.1 y.2.1) <|
  FH.pz 58 (.one .int) (.one dRI) (fun y => 0 ≤ y.1 ∧ y.1 ≤ 5) (fun y => rowsR y.1.toNat) FH.none) f a m := nr rfl
theorem Grr_ok : FHOK Try.prog Grr := FH.rd_ok (by kernel_rfl) (fun y _ => f_outside y.1 y.2.1 y.2.2.1) <| FH.rd_ok (by kernel_rfl) (fun y _ => f_HasPr y.1 y.2.1) <|
  FH.pz_ok (by kernel_rfl) (fun y h => by
    obtain ⟨n, u⟩ := y
    obtain ⟨h1, h2⟩ := h
    simp only at h1 h2
    have := f_rows n.toNat (by omega)
    rw [show ((n.toNat : Nat) : Int) = n by omega] at this
    exact this) FH.none_ok
def rrRing (p : List Pr) : Option (List Int) := if p.any badRR = true then none else refRing p
def rrErr (p : List Pr) : Int := if p.any badRR = true then 1 else 0
theorem f_RRing (p : List Pr) : FnOK Try.prog 36 [dPrs.emb p] [] (.tup [dNil.emb (rrRing p), .int .i64 (rrErr p)]) [] := by
  refine fn_len fun hB => fn_walkF c36 w36 Grr_ok rfl ?_
  simp only [go_sem, ↓reduceIte, Nat.reduceAdd, Nat.reduceMul, Nat.reduceSub, Nat.reduceLT, Nat.reduceLeDiff, Nat.reduceEqDiff, Int.reduceToNat, Int.reduceEq, Int.reduceLT, Int.reduceLE, reduceCtorEq] at hB
  unfold j36
  simp only [go_sem, ↓reduceIte, Nat.reduceAdd, Nat.reduceMul, Nat.reduceSub, Nat.reduceLT, Nat.reduceLeDiff, Nat.reduceEqDiff, Int.reduceToNat, Int.reduceEq, Int.reduceLT, Int.reduceLE, reduceCtorEq]
  refine loopF Nat (fun i => [.int .i64 i]) (fun _ => []) (fun i => i ≤ p.length ∧ (p.take i).any badRR = false) (fun i => p.length - i) 0 ⟨by omega, rfl⟩ ?_ rfl ?_
  · simp only [go_sem, ↓reduceIte, Nat.reduceAdd, Nat.reduceMul, Nat.reduceSub, Nat.reduceLT, Nat.reduceLeDiff, Nat.reduceEqDiff, Int.reduceToNat, Int.reduceEq, Int.reduceLT, Int.reduceLE, reduceCtorEq]
  rintro i ⟨hi, hi2⟩
  by_cases h1 : i < p.length
  · have h1' : (i : Int) < p.length := by omega
    have hw : IntKind.i64.wrap ((i : Int) + 1) = ((i + 1 : Nat) : Int) := IntWalk.i64_in _ (by omega)
    cases hb : badRR (p.getD i dPr.dft) with
    | true =>
      have hb' := hb
      unfold badRR at hb'
      unfold j36_1
      simp only [go_sem, ↓reduceIte, Nat.reduceAdd, Nat.reduceMul, Nat.reduceSub, Nat.reduceLT, Nat.reduceLeDiff, Nat.reduceEqDiff, Int.reduceToNat, Int.reduceEq, Int.reduceLT, Int.reduceLE, reduceCtorEq, Grr_eq, h1, h1', hw, hb']
      have hany : p.any badRR = true := any_of h1 hb
      rw [rrRing, rrErr, if_pos hany, if_pos hany]
      exact ⟨by omega, rfl⟩
    | false =>
      have hb' := hb
      unfold badRR at hb'
      unfold j36_1
      simp only [go_sem, ↓reduceIte, Nat.reduceAdd, Nat.reduceMul, Nat.reduceSub, Nat.reduceLT, Nat.reduceLeDiff, Nat.reduceEqDiff, Int.reduceToNat, Int.reduceEq, Int.reduceLT, Int.reduceLE, reduceCtorEq, Grr_eq, h1, h1', hw, hb']
      refine ⟨by omega, i + 1, ⟨by omega, ?_⟩, by omega, rfl⟩
      rw [any_take dPr.dft _ h1 hi2, hb]
  · have hall : p.any badRR = false := by
      have e : i = p.length := by omega
      subst e
      rwa [List.take_length] at hi2
    have h1' : ¬ (i : Int) < p.length := by omega
    clear hi2
    rw [rrRing, rrErr, if_neg (by rw [hall]; simp), if_neg (by rw [hall]; simp)]
    unfold j36_1
    simp only [go_sem, ↓reduceIte, Nat.reduceAdd, Nat.reduceMul, Nat.reduceSub, Nat.reduceLT, Nat.reduceLeDiff, Nat.reduceEqDiff, Int.reduceToNat, Int.reduceEq, Int.reduceLT, Int.reduceLE, reduceCtorEq, h1']
    unfold j36_9
    simp only [go_sem, ↓reduceIte, Nat.reduceAdd, Nat.reduceMul, Nat.reduceSub, Nat.reduceLT, Nat.reduceLeDiff, Nat.reduceEqDiff, Int.reduceToNat, Int.reduceEq, Int.reduceLT, Int.reduceLE, reduceCtorEq]
    generalize hF : (fun m => firstR (fun r => edgesB p r (m + 1) (m + 1)) (rowsR (m + 1))) = F
    have hG : refRing p = scan F 0 5 := by rw [← hF]; rfl
    rw [hG]
    refine loopF Nat (fun m => [.int .i64 ((m + 1 : Nat) : Int)]) (fun _ => []) (fun m => m ≤ 5 ∧ scan F 0 5 = scan F m (5 - m)) (fun m => 5 - m) 0 ⟨by omega, rfl⟩ ?_ rfl ?_
    · simp only [go_sem, ↓reduceIte, Nat.reduceAdd, Nat.reduceMul, Nat.reduceSub, Nat.reduceLT, Nat.reduceLeDiff, Nat.reduceEqDiff, Int.reduceToNat, Int.reduceEq, Int.reduceLT, Int.reduceLE, reduceCtorEq]
    rintro m ⟨hm, hinv⟩
    by_cases h2 : m < 5
    · have h2' : ((m + 1 : Nat) : Int) ≤ 5 := by omega
      have hwm : IntKind.i64.wrap (((m + 1 : Nat) : Int) + 1) = ((m + 1 + 1 : Nat) : Int) := IntWalk.i64_in _ (by omega)
      have hst : scan F 0 5 = match F m with | some r => some r | none => scan F (m + 1) (5 - (m + 1)) := by
        rw [hinv, show 5 - m = (5 - (m + 1)) + 1 by omega, scan]; cases F m <;> rfl
      have hFm : F m = firstR (fun r => edgesB p r (m + 1) (m + 1)) (rowsR (m + 1)) := by rw [← hF]
      have hlen := rowsR_len' (show m + 1 ≤ 5 by omega)
      have hmem : ∀ r, r ∈ rowsR (m + 1) → r.length = m + 1 := fun r hr => (rowsR_of hr).1
      unfold j36_7
      simp only [go_sem, ↓reduceIte, Nat.reduceAdd, Nat.reduceMul, Nat.reduceSub, Nat.reduceLT, Nat.reduceLeDiff, Nat.reduceEqDiff, Int.reduceToNat, Int.reduceEq, Int.reduceLT, Int.reduceLE, reduceCtorEq, Grr_eq, h2, h2']
      refine ⟨by omega, ?_⟩
      generalize rowsR (m + 1) = L at hFm hlen hmem
      refine loopF Nat (fun i => [.int .i64 i]) (fun _ => []) (fun i => i ≤ L.length ∧ F m = firstR (fun r => edgesB p r (m + 1) (m + 1)) (L.drop i)) (fun i => L.length - i) 0 ⟨by omega, hFm⟩ ?_ rfl ?_
      · simp only [go_sem, ↓reduceIte, Nat.reduceAdd, Nat.reduceMul, Nat.reduceSub, Nat.reduceLT, Nat.reduceLeDiff, Nat.reduceEqDiff, Int.reduceToNat, Int.reduceEq, Int.reduceLT, Int.reduceLE, reduceCtorEq]
      rintro i ⟨hi, hinv2⟩
      by_cases h3 : i < L.length
      · have h3' : (i : Int) < L.length := by omega
        have hwi : IntKind.i64.wrap ((i : Int) + 1) = ((i + 1 : Nat) : Int) := IntWalk.i64_in _ (by omega)
        rw [drop_getD [] h3, firstR] at hinv2
        have hrl := hmem _ (getD_mem (d := []) h3)
        unfold j36_5
        simp only [go_sem, ↓reduceIte, Nat.reduceAdd, Nat.reduceMul, Nat.reduceSub, Nat.reduceLT, Nat.reduceLeDiff, Nat.reduceEqDiff, Int.reduceToNat, Int.reduceEq, Int.reduceLT, Int.reduceLE, reduceCtorEq, h3, h3']
        refine ⟨by omega, ?_⟩
        generalize hr : L.getD i [] = r at hinv2 hrl
        refine loopF Nat (fun k => [.int .i64 k, .bool (edgesB p r (m + 1) k)]) (fun _ => []) (fun k => k ≤ m + 1) (fun k => m + 1 - k) 0 (by omega) ?_ rfl ?_
        · simp only [go_sem, ↓reduceIte, Nat.reduceAdd, Nat.reduceMul, Nat.reduceSub, Nat.reduceLT, Nat.reduceLeDiff, Nat.reduceEqDiff, Int.reduceToNat, Int.reduceEq, Int.reduceLT, Int.reduceLE, reduceCtorEq]
          rfl
        intro k hk
        by_cases h4 : k < m + 1
        · have h4' : (k : Int) < r.length := by omega
          have hwk : IntKind.i64.wrap ((k : Int) + 1) = ((k + 1 : Nat) : Int) := IntWalk.i64_in _ (by omega)
          unfold j36_2
          have htm : (((k + 1 : Nat) : Int)).tmod ((m + 1 : Nat) : Int) = (((k + 1) % (m + 1) : Nat) : Int) := rfl
          have hml := Nat.mod_lt (k + 1) (show 0 < m + 1 by omega)
          simp only [go_sem, ↓reduceIte, Nat.reduceAdd, Nat.reduceMul, Nat.reduceSub, Nat.reduceLT, Nat.reduceLeDiff, Nat.reduceEqDiff, Int.reduceToNat, Int.reduceEq, Int.reduceLT, Int.reduceLE, reduceCtorEq, Grr_eq, h4, h4', hwk, htm]
          exact ⟨by omega, fun _ => ⟨by omega, by omega, by omega⟩, k + 1, by omega, by omega, rfl, rfl⟩
        · have h4' : ¬ (k : Int) < r.length := by omega
          have e : k = m + 1 := by omega
          subst e
          cases he : edgesB p r (m + 1) (m + 1) with
          | true =>
            have hs : scan F 0 5 = some r := by rw [hst, hinv2, if_pos he]
            unfold j36_2
            simp only [go_sem, ↓reduceIte, Nat.reduceAdd, Nat.reduceMul, Nat.reduceSub, Nat.reduceLT, Nat.reduceLeDiff, Nat.reduceEqDiff, Int.reduceToNat, Int.reduceEq, Int.reduceLT, Int.reduceLE, reduceCtorEq, h4', he]
            unfold j36_3
            simp only [go_sem, ↓reduceIte, Nat.reduceAdd, Nat.reduceMul, Nat.reduceSub, Nat.reduceLT, Nat.reduceLeDiff, Nat.reduceEqDiff, Int.reduceToNat, Int.reduceEq, Int.reduceLT, Int.reduceLE, reduceCtorEq, hs]
                      | false =>
            have hs : F m = firstR (fun r => edgesB p r (m + 1) (m + 1)) (L.drop (i + 1)) := by rw [hinv2, if_neg (by rw [he]; simp)]
            unfold j36_2
            simp only [go_sem, ↓reduceIte, Nat.reduceAdd, Nat.reduceMul, Nat.reduceSub, Nat.reduceLT, Nat.reduceLeDiff, Nat.reduceEqDiff, Int.reduceToNat, Int.reduceEq, Int.reduceLT, Int.reduceLE, reduceCtorEq, h4', he]
            unfold j36_3
            simp only [go_sem, ↓reduceIte, Nat.reduceAdd, Nat.reduceMul, Nat.reduceSub, Nat.reduceLT, Nat.reduceLeDiff, Nat.reduceEqDiff, Int.reduceToNat, Int.reduceEq, Int.reduceLT, Int.reduceLE, reduceCtorEq]
            unfold j36_4
            simp only [go_sem, ↓reduceIte, Nat.reduceAdd, Nat.reduceMul, Nat.reduceSub, Nat.reduceLT, Nat.reduceLeDiff, Nat.reduceEqDiff, Int.reduceToNat, Int.reduceEq, Int.reduceLT, Int.reduceLE, reduceCtorEq, hwi]
            exact ⟨i + 1, ⟨by omega, hs⟩, by omega, rfl⟩
      · have h3' : ¬ (i : Int) < L.length := by omega
        rw [List.drop_eq_nil_of_le (by omega), firstR] at hinv2
        unfold j36_5
        simp only [go_sem, ↓reduceIte, Nat.reduceAdd, Nat.reduceMul, Nat.reduceSub, Nat.reduceLT, Nat.reduceLeDiff, Nat.reduceEqDiff, Int.reduceToNat, Int.reduceEq, Int.reduceLT, Int.reduceLE, reduceCtorEq, h3']
        unfold j36_6
        simp only [go_sem, ↓reduceIte, Nat.reduceAdd, Nat.reduceMul, Nat.reduceSub, Nat.reduceLT, Nat.reduceLeDiff, Nat.reduceEqDiff, Int.reduceToNat, Int.reduceEq, Int.reduceLT, Int.reduceLE, reduceCtorEq, hwm]
        exact ⟨m + 1, ⟨by omega, by rw [hst, hinv2]⟩, by omega, rfl⟩
    · have e : m = 5 := by omega
      subst e
      unfold j36_7
      simp only [go_sem, ↓reduceIte, Nat.reduceAdd, Nat.reduceMul, Nat.reduceSub, Nat.reduceLT, Nat.reduceLeDiff, Nat.reduceEqDiff, Int.reduceToNat, Int.reduceEq, Int.reduceLT, Int.reduceLE, reduceCtorEq]
      unfold j36_8
      simp only [go_sem, ↓reduceIte, Nat.reduceAdd, Nat.reduceMul, Nat.reduceSub, Nat.reduceLT, Nat.reduceLeDiff, Nat.reduceEqDiff, Int.reduceToNat, Int.reduceEq, Int.reduceLT, Int.reduceLE, reduceCtorEq]
      rw [hinv]; rfl
end Go.Proofs.Ytmddnblbfmlgoaa.Rg
