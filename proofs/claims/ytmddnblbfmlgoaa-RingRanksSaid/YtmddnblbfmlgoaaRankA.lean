/- The rank of each lock: ring.Rank, and its reference. Conditions: none. -/
import Derived.Test.YtmddnblbfmlgoaaRankM
import Derived.Test.YtmddnblbfmlgoaaEqs
set_option linter.unusedSimpArgs false
set_option linter.unusedVariables false
set_option maxRecDepth 100000
open Go Go.Sx Go.Proofs
namespace Go.Proofs.Ytmddnblbfmlgoaa.Rg
open Go.Proofs.Ytmddnblbfmlgoaa.D Go.Proofs.Ytmddnblbfmlgoaa.Hs Go.Proofs.Ytmddnblbfmlgoaa.Pg
def j42_1 : JC :=
  (.seq (.ops <|
  qo 35 (.cmp .lss (.t 34) (I 5)) <|
  .nil)
  (.seq (.cond (.t 35)
  .skip
  (.exit 4))
  (.seq (.block 5 (.seq (.ops <|
  qo 36 (.mv (.t 34)) <|
  qo 37 (.ix 5 1 false (.t 33) (.t 34)) <|
  qo 9 (.mv (.t 36)) <|
  qo 10 (.mv (.t 37)) <|
  .nil)
  (.prune [10, 6, 9, 7, 34, 33, 27, 25, 23, 4] (.seq (.ops <|
  qo 38 (.mv (.t 10)) <|
  .nil)
  (.prune [38, 6, 9, 7, 34, 33, 27, 25, 23, 4] (.cond (.t 38)
  (.dops <|
  qo 39 (.mv (.t 6)) <|
  qo 40 (.mv (.t 9)) <|
  qo 41 (.mv (.t 6)) <|
  qo 42 (.mv (.t 9)) <|
  qo 43 (.is 1 (.t 41) (.t 42)) <|
  .prune [43, 6, 7, 39, 40, 34, 33, 27, 25, 23, 4] <|
  eo 44 (.load 1 false (.t 43)) <|
  qo 45 (.mv (.t 6)) <|
  qo 46 (.mv (.t 7)) <|
  qo 47 (.is 1 (.t 45) (.t 46)) <|
  .prune [47, 44, 39, 40, 34, 33, 6, 7, 27, 25, 23, 4] <|
  eo 48 (.load 1 false (.t 47)) <|
  qo 49 (.ar .add (.t 48) (I 1)) <|
  qo 50 (.mx (.t 44) (.t 49)) <|
  qo 51 (.is 1 (.t 39) (.t 40)) <|
  en (.store 1 (.t 51) (.t 50)) <|
  .nil)
  .skip))))))
  (.prune [34, 33, 6, 7, 27, 25, 23, 4] (.ops <|
  qo 52 (.ar .add (.t 34) (I 1)) <|
  qo 34 (.mv (.t 52)) <|
  .nil)))))
def j42_2 : JC :=
  (.prune [27, 25, 6, 23, 4] (.ops <|
  qo 53 (.ar .add (.t 27) (I 1)) <|
  qo 27 (.mv (.t 53)) <|
  .nil))
def j42_3 : JC :=
  (.seq (.ops <|
  qo 28 (.cmp .lss (.t 27) (I 5)) <|
  .nil)
  (.seq (.cond (.t 28)
  .skip
  (.exit 2))
  (.seq (.block 3 (.seq (.dops <|
  qo 29 (.mv (.t 27)) <|
  qo 30 (.nck (.t 25)) <|
  qo 31 (.ia 5 5 (.t 30) (.t 27)) <|
  eo 32 (.load 5 true (.t 31)) <|
  eo 8 (.alloc 77 (.arr 5 1 fun _ => (.bool false))) <|
  en (.again 5 true (.t 31) 32) <|
  qo 7 (.mv (.t 29)) <|
  en (.store 5 (.t 8) (.t 32)) <|
  .nil)
  (.prune [8, 6, 7, 27, 25, 23, 4] (.seq (.ops <|
  eo 33 (.load 5 true (.t 8)) <|
  qo 34 (.mv (I 0)) <|
  .nil)
  (.block 4 (.loop [33, 6, 7, 27, 25, 23, 4] [34] j42_1))))))
  j42_2)))
def j42_4 : JC :=
  (.prune [23, 4, 6] (.ops <|
  qo 54 (.ar .add (.t 23) (I 1)) <|
  qo 23 (.mv (.t 54)) <|
  .nil))
def j42_5 : JC :=
  (.seq (.ops <|
  qo 24 (.cmp .lss (.t 23) (I 5)) <|
  .nil)
  (.seq (.cond (.t 24)
  .skip
  (.exit 0))
  (.seq (.block 1 (.seq (.ops <|
  qo 25 (.mv (.t 4)) <|
  qo 26 (.nck (.t 25)) <|
  qo 27 (.mv (I 0)) <|
  .nil)
  (.block 2 (.loop [25, 6, 23, 4] [27] j42_3))))
  j42_4)))
def j42_6 : JC :=
  (.prune [6] (.seq (.ops <|
  qo 55 (.mv (.t 6)) <|
  qo 2 (.mv (.t 55)) <|
  qo 3 (.mv (I 0)) <|
  .nil)
  (.vecs 2 3 1 .ret)))
def j42 : JC :=
  (.seq (.ops <|
  qo 2 (.mv (.c .nils)) <|
  qo 3 (.mv (I 0)) <|
  .nil)
  (.seq (.ops <|
  qo 12 (.mv (.t 0)) <|
  eo 13 (.call 56 [(.t 12)]) <|
  qo 11 (.mv (.t 13)) <|
  qo 14 (.ext 0 (.t 11)) <|
  qo 15 (.ext 1 (.t 11)) <|
  qo 4 (.mv (.t 14)) <|
  qo 5 (.mv (.t 15)) <|
  .nil)
  (.seq (.seq (.ops <|
  qo 16 (.mv (.t 5)) <|
  qo 17 (.cmp .neq (.t 16) (I 0)) <|
  .nil)
  (.prune [17, 5, 4] (.cond (.t 17)
  (.seq (.ops <|
  qo 18 (.mv (.t 5)) <|
  qo 2 (.mv (.c .nils)) <|
  qo 3 (.mv (.t 18)) <|
  .nil)
  (.vecs 2 3 1 .ret))
  .skip)))
  (.frz 4 dG.ref.frz <| .prune [4] (.seq (.seq (.ops <|
  qo 19 (.mv (.t 4)) <|
  eo 20 (.call 57 [(.t 19)]) <|
  qo 21 (.snil true (.t 20)) <|
  .nil)
  (.cond (.t 21)
  (.seq (.ops <|
  qo 2 (.mv (.c .nils)) <|
  qo 3 (.mv (I 5)) <|
  .nil)
  (.vecs 2 3 1 .ret))
  .skip))
  (.seq (.ops <|
  eo 22 (.mks 3 1 8 (.int .i64 0) (I 5) (I 5)) <|
  qo 6 (.mv (.t 22)) <|
  .nil)
  (.seq (.seq (.ops <|
  qo 23 (.mv (I 0)) <|
  .nil)
  (.block 0 (.loop [4, 6] [23] j42_5)))
  j42_6)))))))
theorem c42 : fnIs Try.prog qall 42 = some (j42.flat, [.tmp 2, .tmp 3], 56) := by kernel_rfl
theorem w42 : j42.wf 56 = true := by kernel_rfl
theorem ints_getD {o : List Int} {i : Nat} (h : i < o.length) : (o.map DT.int.emb).getD i .junk = .int .i64 (o.getD i 0) := by simp [List.getD, h, int_emb]
theorem ints_set (o : List Int) (i : Nat) (x : Int) : (o.map DT.int.emb).set i (.int .i64 x) = (o.set i x).map DT.int.emb := by rw [List.map_set]; rfl
theorem ring_len {g : Gr} {r : List Int} (h : ringG g = some r) : 0 < r.length := by
  obtain ⟨m, hm⟩ := scan_some h
  obtain ⟨k, hk⟩ := scan_some hm
  have := longF_len hk
  simp only [List.length_cons, List.length_nil] at this; omega
theorem mx_eq (q : List Int) (a b : Nat) : q.set b (if q.getD b 0 < q.getD a 0 + 1 then q.getD a 0 + 1 else q.getD b 0) = q.set b (max (q.getD b 0) (q.getD a 0 + 1)) := by
  congr 1
  split <;> omega
theorem mx_eq2 (q : List Int) (b : Nat) (x : Int) : q.set b (if q.getD b 0 < x then x else q.getD b 0) = q.set b (max (q.getD b 0) x) := by
  congr 1
  split <;> omega
def rankF (p : List Pr) : List Int × Int := if p.any badPr = true then ([], 1) else if ringG (gOf p) = none then (rankN (gOf p) 5, 0) else ([], 5)
def Grk (f : FuncId) (a : List SV) (m : List Res) : Sx.Call := (FH.mk 56 (.one dPrs) (fun _ => True) (fun y => readV y.1) (fun y => readM 96 y.1) <| FH.pz 57 (.one (DT.ref dG)) dNil (fun _ => True) (fun y => ringG y.1) FH.none) f a m
theorem Grk_eq (f : FuncId) (a : List SV) (m : List Res) : Grk f a m = (FH.mk 56 (.one dPrs) (fun _ => True) (fun y => readV y.1) (fun y => readM 96 y.1) <| FH.pz 57 (.one (DT.ref dG)) dNil (fun _ => True) (fun y => ringG y.1) FH.none) f a m := nr rfl
theorem Grk_ok : FHOK Try.prog Grk := FH.mk_ok (by kernel_rfl) (fun y _ => read_plain _ y.1) (fun y _ => f_read y.1) <| FH.pz_ok (by kernel_rfl) (fun y _ => f_ring y.1) FH.none_ok
theorem f_Rank (p : List Pr) : FnOK Try.prog 42 [dPrs.emb p] [] (.tup [.vec 0 (rankF p).1.length, .int .i64 (rankF p).2]) [.vec 3 1 ((rankF p).1.map DT.int.emb)] := by
  refine fn_walkF c42 w42 Grk_ok rfl ?_
  unfold j42
  by_cases h : p.any badPr = true
  · have e1 : readV p = .tup [.nilp, .int .i64 1] := by rw [readV, if_pos h]
    have e2 : ∀ T, readM T p = [] := fun T => by rw [readM, if_pos h]
    have e3 : rankF p = ([], 1) := by rw [rankF, if_pos h]
    simp only [go_sem, ↓reduceIte, Nat.reduceAdd, Nat.reduceMul, Nat.reduceSub, Nat.reduceLT, Nat.reduceLeDiff, Nat.reduceEqDiff, Int.reduceToNat, Int.reduceEq, Int.reduceLT, Int.reduceLE, reduceCtorEq, Grk_eq, e1, e2, e3]
  · have e1 : readV p = .tup [.ptr 0 [] 0, .int .i64 0] := by rw [readV, if_neg h]
    have e2 : ∀ T, readM T p = [.blk T (dG.emb (gOf p))] := fun T => by rw [readM, if_neg h]
    cases hr : ringG (gOf p) with
    | some r =>
      have hrl : ¬ r.length = 0 := by
        have := ring_len hr; omega
      have e3 : rankF p = ([], 5) := by rw [rankF, if_neg h, if_neg (by rw [hr]; simp)]
      simp only [go_sem, ↓reduceIte, Nat.reduceAdd, Nat.reduceMul, Nat.reduceSub, Nat.reduceLT, Nat.reduceLeDiff, Nat.reduceEqDiff, Int.reduceToNat, Int.reduceEq, Int.reduceLT, Int.reduceLE, reduceCtorEq, Grk_eq, e1, e2, hr, hrl, e3]
    | none =>
      have e3 : rankF p = (rankN (gOf p) 5, 0) := by rw [rankF, if_neg h, if_pos hr]
      rw [e3]
      simp only [go_sem, ↓reduceIte, Nat.reduceAdd, Nat.reduceMul, Nat.reduceSub, Nat.reduceLT, Nat.reduceLeDiff, Nat.reduceEqDiff, Int.reduceToNat, Int.reduceEq, Int.reduceLT, Int.reduceLE, reduceCtorEq, Grk_eq, e1, e2, hr]
      have hbd : ∀ o, Sound (gOf p) o → ∀ k, k < 5 → 0 ≤ o.getD k 0 ∧ o.getD k 0 ≤ 4 := fun o ho k hk => by
        obtain ⟨n, hn, hl⟩ := ho.2 k hk
        have := leads_le hr hl
        omega
      generalize gOf p = g at hbd
      refine ⟨by omega, ?_⟩
      refine loopF Nat (fun i => [.int .i64 i]) (fun i => [.dead, .vec 3 1 ((rankN g i).map DT.int.emb)]) (fun i => i ≤ 5) (fun i => 5 - i) 0 (by omega) ?_ rfl ?_
      · simp only [go_sem, ↓reduceIte, Nat.reduceAdd, Nat.reduceMul, Nat.reduceSub, Nat.reduceLT, Nat.reduceLeDiff, Nat.reduceEqDiff, Int.reduceToNat, Int.reduceEq, Int.reduceLT, Int.reduceLE, reduceCtorEq]
      intro i hi
      have hw : IntKind.i64.wrap ((i : Int) + 1) = ((i + 1 : Nat) : Int) := IntWalk.i64_in _ (by omega)
      unfold j42_5
      simp only [go_sem, ↓reduceIte, Nat.reduceAdd, Nat.reduceMul, Nat.reduceSub, Nat.reduceLT, Nat.reduceLeDiff, Nat.reduceEqDiff, Int.reduceToNat, Int.reduceEq, Int.reduceLT, Int.reduceLE, reduceCtorEq]
      refine ⟨fun h1 => ?_, fun h1 => ?_⟩
      · refine loopF Nat (fun a => [.int .i64 a]) (fun a => [.dead, .vec 3 1 ((roundN g (rankN g i) a).map DT.int.emb)]) (fun a => a ≤ 5) (fun a => 5 - a) 0 (by omega) ?_ rfl ?_
        · simp only [go_sem, ↓reduceIte, Nat.reduceAdd, Nat.reduceMul, Nat.reduceSub, Nat.reduceLT, Nat.reduceLeDiff, Nat.reduceEqDiff, Int.reduceToNat, Int.reduceEq, Int.reduceLT, Int.reduceLE, reduceCtorEq]
        intro a ha
        have hwa : IntKind.i64.wrap ((a : Int) + 1) = ((a + 1 : Nat) : Int) := IntWalk.i64_in _ (by omega)
        unfold j42_3
        simp only [go_sem, ↓reduceIte, Nat.reduceAdd, Nat.reduceMul, Nat.reduceSub, Nat.reduceLT, Nat.reduceLeDiff, Nat.reduceEqDiff, Int.reduceToNat, Int.reduceEq, Int.reduceLT, Int.reduceLE, reduceCtorEq]
        refine ⟨fun h2 => ?_, fun h2 => ?_⟩
        · have hso := (sound_round (sound_rank (g := g) i) ha).1
          have hrn : roundN g (rankN g i) (a + 1) = rowN g (roundN g (rankN g i) a) a 5 := rfl
          generalize roundN g (rankN g i) a = o at hso hrn
          refine ⟨by omega, ?_⟩
          refine loopF Nat (fun b => [.int .i64 b]) (fun b => [.dead, .vec 3 1 ((rowN g o a b).map DT.int.emb), .blk 77 (.arr 5 1 fun j => .bool (g a j))]) (fun b => b ≤ 5) (fun b => 5 - b) 0 (by omega) ?_ rfl ?_
          · simp only [go_sem, ↓reduceIte, Nat.reduceAdd, Nat.reduceMul, Nat.reduceSub, Nat.reduceLT, Nat.reduceLeDiff, Nat.reduceEqDiff, Int.reduceToNat, Int.reduceEq, Int.reduceLT, Int.reduceLE, reduceCtorEq]
          intro b hb
          have hwb : IntKind.i64.wrap ((b : Int) + 1) = ((b + 1 : Nat) : Int) := IntWalk.i64_in _ (by omega)
          have hs := (sound_row (a := a) (by omega) hso hb).1
          have hq5 : b = 5 → rowN g o a 5 = rowN g o a b := fun e => by rw [e]
          have hst : rowN g o a (b + 1) = stepR g (rowN g o a b) a b := rfl
          generalize rowN g o a b = q at hs hst hq5
          have hql := hs.1
          by_cases h3 : b < 5
          · have h3' : (b : Int) < 5 := by omega
            have ha5 : a < q.length := by omega
            have hb5 : b < q.length := by omega
            have ha5' : (a : Int) < q.length := by omega
            have hb5' : (b : Int) < q.length := by omega
            have hqa := hbd q hs a (by omega)
            have hwq : IntKind.i64.wrap (q.getD a 0 + 1) = q.getD a 0 + 1 := IntWalk.i64_in _ (by omega)
            unfold j42_1
            simp only [go_sem, ↓reduceIte, Nat.reduceAdd, Nat.reduceMul, Nat.reduceSub, Nat.reduceLT, Nat.reduceLeDiff, Nat.reduceEqDiff, Int.reduceToNat, Int.reduceEq, Int.reduceLT, Int.reduceLE, reduceCtorEq, h3, h3', ha5, hb5, ha5', hb5', hwb, hwq, ints_getD ha5, ints_getD hb5, ints_set]
            refine ⟨by omega, fun h4 => ⟨by omega, ⟨by omega, by omega⟩, by omega, b + 1, by omega, by omega, rfl, ?_⟩, fun h4 => ⟨b + 1, by omega, by omega, rfl, ?_⟩⟩
            · rw [hst, stepR, if_pos h4, mx_eq]
            · rw [hst, stepR, if_neg (by rw [h4]; simp)]
          · have e : b = 5 := by omega
            subst e
            unfold j42_1
            simp only [go_sem, ↓reduceIte, Nat.reduceAdd, Nat.reduceMul, Nat.reduceSub, Nat.reduceLT, Nat.reduceLeDiff, Nat.reduceEqDiff, Int.reduceToNat, Int.reduceEq, Int.reduceLT, Int.reduceLE, reduceCtorEq]
            unfold j42_2
            simp only [go_sem, ↓reduceIte, Nat.reduceAdd, Nat.reduceMul, Nat.reduceSub, Nat.reduceLT, Nat.reduceLeDiff, Nat.reduceEqDiff, Int.reduceToNat, Int.reduceEq, Int.reduceLT, Int.reduceLE, reduceCtorEq, hwa]
            exact ⟨a + 1, by omega, by omega, rfl, by rw [hrn, hq5 rfl]⟩
        · have e : a = 5 := by omega
          subst e
          unfold j42_4
          simp only [go_sem, ↓reduceIte, Nat.reduceAdd, Nat.reduceMul, Nat.reduceSub, Nat.reduceLT, Nat.reduceLeDiff, Nat.reduceEqDiff, Int.reduceToNat, Int.reduceEq, Int.reduceLT, Int.reduceLE, reduceCtorEq, hw]
          exact ⟨i + 1, by omega, by omega, rfl, rfl⟩
      · have e : i = 5 := by omega
        subst e
        have hl := (sound_rank (g := g) 5).1
        unfold j42_6
        simp only [go_sem, ↓reduceIte, Nat.reduceAdd, Nat.reduceMul, Nat.reduceSub, Nat.reduceLT, Nat.reduceLeDiff, Nat.reduceEqDiff, Int.reduceToNat, Int.reduceEq, Int.reduceLT, Int.reduceLE, reduceCtorEq, hl]
def j43_1 : JC :=
  (.seq (.seq (.ops <|
  qo 35 (.mv (.t 11)) <|
  qo 36 (.mv (.t 7)) <|
  qo 37 (.cmp .lss (.t 35) (.t 36)) <|
  .nil)
  (.cond (.t 37)
  .skip
  (.exit 4)))
  (.prune [10, 0, 9, 11, 7, 6, 31, 30, 29] (.seq (.block 5 (.dops <|
  qo 40 (.mv (.t 10)) <|
  qo 41 (.mv (.t 40)) <|
  .sc false 54 41 (qo 42 (.mv (.t 0)) <|
  qo 43 (.mv (.t 9)) <|
  qo 44 (.mv (.t 11)) <|
  qo 45 (.ar .sub (.t 44) (I 1)) <|
  qo 46 (.is 1 (.t 43) (.t 45)) <|
  eo 47 (.load 1 false (.t 46)) <|
  qo 48 (.mv (.t 9)) <|
  qo 49 (.mv (.t 11)) <|
  qo 50 (.is 1 (.t 48) (.t 49)) <|
  eo 51 (.load 1 false (.t 50)) <|
  qo 52 (.bld (.agg [(.int .i64 0), (.int .i64 0)]) [([.fld 0], 0, 1, (.t 47)), ([.fld 1], 1, 1, (.t 51))]) <|
  eo 53 (.qcall 59 [(.t 42), (.t 52)]) <|
  .nil) (.t 53) <|
  qo 10 (.mv (.t 54)) <|
  .nil))
  (.prune [11, 7, 10, 0, 9, 6, 31, 30, 29] (.ops <|
  qo 38 (.mv (.t 11)) <|
  qo 39 (.ar .add (.t 38) (I 1)) <|
  qo 11 (.mv (.t 39)) <|
  .nil)))))
def j43_2 : JC :=
  (.prune [10, 6, 9, 7, 31, 30, 29, 0] (.seq (.ops <|
  qo 55 (.mv (.t 10)) <|
  .nil)
  (.cond (.t 55)
  (.dops <|
  qo 56 (.mv (.t 6)) <|
  qo 57 (.mv (.t 9)) <|
  qo 58 (.mv (.t 7)) <|
  qo 59 (.ar .sub (.t 58) (I 1)) <|
  .prune [57, 59, 6, 9, 7, 56, 31, 30, 29, 0] <|
  qo 60 (.is 1 (.t 57) (.t 59)) <|
  eo 61 (.load 1 false (.t 60)) <|
  .prune [6, 9, 7, 56, 61, 31, 30, 29, 0] <|
  qo 62 (.mv (.t 6)) <|
  qo 63 (.mv (.t 9)) <|
  qo 64 (.mv (.t 7)) <|
  qo 65 (.ar .sub (.t 64) (I 1)) <|
  qo 66 (.is 1 (.t 63) (.t 65)) <|
  .prune [66, 62, 7, 56, 61, 31, 30, 29, 0, 6] <|
  eo 67 (.load 1 false (.t 66)) <|
  qo 68 (.is 1 (.t 62) (.t 67)) <|
  .prune [68, 7, 56, 61, 31, 30, 29, 0, 6] <|
  eo 69 (.load 1 false (.t 68)) <|
  qo 70 (.mv (.t 7)) <|
  qo 71 (.ar .sub (.t 70) (I 1)) <|
  qo 72 (.mx (.t 69) (.t 71)) <|
  qo 73 (.is 1 (.t 56) (.t 61)) <|
  en (.store 1 (.t 73) (.t 72)) <|
  .nil)
  .skip)))
def j43_3 : JC :=
  (.prune [31, 30, 29, 7, 0, 6] (.ops <|
  qo 74 (.ar .add (.t 31) (I 1)) <|
  qo 31 (.mv (.t 74)) <|
  .nil))
def j43_4 : JC :=
  (.seq (.ops <|
  qo 32 (.cmp .lss (.t 31) (.t 30)) <|
  .nil)
  (.seq (.cond (.t 32)
  .skip
  (.exit 2))
  (.seq (.block 3 (.seq (.ops <|
  qo 33 (.is 1 (.t 29) (.t 31)) <|
  eo 34 (.load 1 false (.t 33)) <|
  qo 9 (.mv (.t 34)) <|
  .nil)
  (.prune [7, 0, 9, 6, 31, 30, 29] (.seq (.ops <|
  qo 10 (.mv (B true)) <|
  .nil)
  (.seq (.seq (.ops <|
  qo 11 (.mv (I 1)) <|
  .nil)
  (.block 4 (.loop [7, 0, 9, 6, 31, 30, 29] [11, 10] j43_1)))
  j43_2)))))
  j43_3)))
def j43_5 : JC :=
  (.prune [7, 0, 6] (.ops <|
  qo 26 (.mv (.t 7)) <|
  qo 27 (.ar .add (.t 26) (I 1)) <|
  qo 7 (.mv (.t 27)) <|
  .nil))
def j43_6 : JC :=
  (.seq (.seq (.ops <|
  qo 24 (.mv (.t 7)) <|
  qo 25 (.cmp .leq (.t 24) (I 5)) <|
  .nil)
  (.cond (.t 25)
  .skip
  (.exit 0)))
  (.seq (.block 1 (.seq (.ops <|
  qo 28 (.mv (.t 7)) <|
  eo 29 (.call 58 [(.t 28)]) <|
  qo 30 (.len (.t 29)) <|
  qo 31 (.mv (I 0)) <|
  .nil)
  (.block 2 (.loop [30, 29, 7, 0, 6] [31] j43_4))))
  j43_5))
def j43_7 : JC :=
  (.prune [6] (.seq (.ops <|
  qo 75 (.mv (.t 6)) <|
  qo 2 (.mv (.t 75)) <|
  qo 3 (.mv (I 0)) <|
  .nil)
  (.vecs 2 3 1 .ret)))
def j43 : JC :=
  (.seq (.ops <|
  qo 2 (.mv (.c .nils)) <|
  qo 3 (.mv (I 0)) <|
  .nil)
  (.seq (.ops <|
  qo 13 (.mv (.t 0)) <|
  eo 14 (.call 36 [(.t 13)]) <|
  qo 12 (.mv (.t 14)) <|
  qo 15 (.ext 0 (.t 12)) <|
  qo 16 (.ext 1 (.t 12)) <|
  qo 4 (.mv (.t 15)) <|
  qo 5 (.mv (.t 16)) <|
  .nil)
  (.seq (.seq (.ops <|
  qo 17 (.mv (.t 5)) <|
  qo 18 (.cmp .neq (.t 17) (I 0)) <|
  .nil)
  (.prune [18, 5, 4, 0] (.cond (.t 18)
  (.seq (.ops <|
  qo 19 (.mv (.t 5)) <|
  qo 2 (.mv (.c .nils)) <|
  qo 3 (.mv (.t 19)) <|
  .nil)
  (.vecs 2 3 1 .ret))
  .skip)))
  (.prune [4, 0] (.seq (.seq (.ops <|
  qo 20 (.mv (.t 4)) <|
  qo 21 (.len (.t 20)) <|
  qo 22 (.cmp .gtr (.t 21) (I 0)) <|
  .nil)
  (.cond (.t 22)
  (.seq (.ops <|
  qo 2 (.mv (.c .nils)) <|
  qo 3 (.mv (I 5)) <|
  .nil)
  (.vecs 2 3 1 .ret))
  .skip))
  (.seq (.ops <|
  eo 23 (.mks 3 1 8 (.int .i64 0) (I 5) (I 5)) <|
  qo 6 (.mv (.t 23)) <|
  .nil)
  (.seq (.seq (.ops <|
  qo 7 (.mv (I 1)) <|
  .nil)
  (.prune [7, 0, 6] (.block 0 (.loop [0, 6] [7] j43_6))))
  j43_7)))))))
theorem c43 : fnIs Try.prog qall 43 = some (j43.flat, [.tmp 2, .tmp 3], 76) := by kernel_rfl
theorem w43 : j43.wf 76 = true := by kernel_rfl
def dNI : DP (Option (List Int) × Int) := ⟨fun y => .tup [dNil.emb y.1, .int .i64 y.2], fun r y => by simp only [Sx.ren, renL, dNil.ren]⟩
theorem dni_emb (o : Option (List Int)) (e : Int) : dNI.emb (o, e) = .tup [dNil.emb o, .int .i64 e] := nr rfl
def Grr2 (f : FuncId) (a : List SV) (m : List Res) : Sx.Call := (FH.pz 36 (.one dPrs) dNI (fun _ => True) (fun y => (rrRing y.1, rrErr y.1)) <| FH.rd 59 (.two dPrs dPr) (.one .bool) (fun _ => True) (fun y => hasP y.1 y.2.1) <|
  FH.pz 58 (.one .int) (.one dRI) (fun y => 0 ≤ y.1 ∧ y.1 ≤ 5) (fun y => rowsR y.1.toNat) FH.none) f a m
theorem Grr2_eq (f : FuncId) (a : List SV) (m : List Res) : Grr2 f a m = (FH.pz 36 (.one dPrs) dNI (fun _ => True) (fun y => (rrRing y.1, rrErr y.1)) <| FH.rd 59 (.two dPrs dPr) (.one .bool) (fun _ => True) (fun y => hasP y.1 y.2.1) <|
  FH.pz 58 (.one .int) (.one dRI) (fun y => 0 ≤ y.1 ∧ y.1 ≤ 5) (fun y => rowsR y.1.toNat) FH.none) f a m := nr rfl
theorem Grr2_ok : FHOK Try.prog Grr2 := FH.pz_ok (by kernel_rfl) (fun y _ => f_RRing y.1) <| FH.rd_ok (by kernel_rfl) (fun y _ => f_HasPr y.1 y.2.1) <|
  FH.pz_ok (by kernel_rfl) (fun y h => by
    obtain ⟨n, u⟩ := y
    obtain ⟨h1, h2⟩ := h
    simp only at h1 h2
    have := f_rows n.toNat (by omega)
    rw [show ((n.toNat : Nat) : Int) = n by omega] at this
    exact this) FH.none_ok
def rrankF (p : List Pr) : List Int × Int := if rrErr p = 0 then if rrRing p = none then (refRankN p 5, 0) else ([], 5) else ([], rrErr p)
theorem f_RRank (p : List Pr) : FnOK Try.prog 43 [dPrs.emb p] [] (.tup [.vec 0 (rrankF p).1.length, .int .i64 (rrankF p).2]) [.vec 3 1 ((rrankF p).1.map DT.int.emb)] := by
  refine fn_walkF c43 w43 Grr2_ok rfl ?_
  unfold j43
  by_cases h : rrErr p = 0
  · cases hr : rrRing p with
    | some r =>
      have hrl : ¬ r.length = 0 := by
        obtain ⟨k1, k2⟩ := ring_same p
        rw [k1, rRing] at hr
        split at hr
        · cases hr
        · have := ring_len hr; omega
      have hrl' : (0 : Int) < r.length := by omega
      have e3 : rrankF p = ([], 5) := by rw [rrankF, if_pos h, if_neg (by rw [hr]; simp)]
      simp only [go_sem, ↓reduceIte, Nat.reduceAdd, Nat.reduceMul, Nat.reduceSub, Nat.reduceLT, Nat.reduceLeDiff, Nat.reduceEqDiff, Int.reduceToNat, Int.reduceEq, Int.reduceLT, Int.reduceLE, reduceCtorEq, Grr2_eq, dni_emb, h, hr, hrl, hrl', e3]
    | none =>
      have e3 : rrankF p = (refRankN p 5, 0) := by rw [rrankF, if_pos h, if_pos hr]
      rw [e3]
      simp only [go_sem, ↓reduceIte, Nat.reduceAdd, Nat.reduceMul, Nat.reduceSub, Nat.reduceLT, Nat.reduceLeDiff, Nat.reduceEqDiff, Int.reduceToNat, Int.reduceEq, Int.reduceLT, Int.reduceLE, reduceCtorEq, Grr2_eq, dni_emb, h, hr]
      refine ⟨by omega, ?_⟩
      refine loopF Nat (fun m => [.int .i64 ((m + 1 : Nat) : Int)]) (fun m => [.vec 3 1 ((refRankN p m).map DT.int.emb)]) (fun m => m ≤ 5) (fun m => 5 - m) 0 (by omega) ?_ rfl ?_
      · simp only [go_sem, ↓reduceIte, Nat.reduceAdd, Nat.reduceMul, Nat.reduceSub, Nat.reduceLT, Nat.reduceLeDiff, Nat.reduceEqDiff, Int.reduceToNat, Int.reduceEq, Int.reduceLT, Int.reduceLE, reduceCtorEq]
      intro m hm
      have hwm : IntKind.i64.wrap (((m + 1 : Nat) : Int) + 1) = ((m + 1 + 1 : Nat) : Int) := IntWalk.i64_in _ (by omega)
      have hwm1 : IntKind.i64.wrap (((m + 1 : Nat) : Int) - 1) = (m : Int) := by rw [IntWalk.i64_in _ (by omega)]; omega
      have hso := (ref_rank (p := p) m).1
      by_cases h2 : m < 5
      · have h2' : ((m + 1 : Nat) : Int) ≤ 5 := by omega
        have hlen := rowsR_len' (show m + 1 ≤ 5 by omega)
        have hro : refRankN p (m + 1) = refRows p m (refRankN p m) (rowsR (m + 1)) := rfl
        have hmem : ∀ r, r ∈ rowsR (m + 1) → r.length = m + 1 ∧ okRow r := fun r hr => rowsR_of hr
        have hst : ∀ o r, Sound (gOf p) o → r ∈ rowsR (m + 1) → Sound (gOf p) (refStep p m o r) := fun o r ho hr => (ref_step ho hr).1
        unfold j43_6
        simp only [go_sem, ↓reduceIte, Nat.reduceAdd, Nat.reduceMul, Nat.reduceSub, Nat.reduceLT, Nat.reduceLeDiff, Nat.reduceEqDiff, Int.reduceToNat, Int.reduceEq, Int.reduceLT, Int.reduceLE, reduceCtorEq, Grr2_eq, h2']
        refine ⟨by omega, ?_⟩
        generalize rowsR (m + 1) = L at hlen hro hmem hst
        have hrows : ∀ i, i ≤ L.length → Sound (gOf p) (refRows p m (refRankN p m) (L.take i)) := by
          intro i
          induction i with
          | zero => intro _; exact hso
          | succ i ih =>
            intro hi
            have := hst _ _ (ih (by omega)) (getD_mem (l := L) (i := i) (d := []) (by omega))
            rwa [refRows, take_getD [] (show i < L.length by omega), List.foldl_append, List.foldl_cons, List.foldl_nil]
        refine loopF Nat (fun i => [.int .i64 i]) (fun i => [.vec 3 1 ((refRows p m (refRankN p m) (L.take i)).map DT.int.emb)]) (fun i => i ≤ L.length) (fun i => L.length - i) 0 (by omega) ?_ rfl ?_
        · simp only [go_sem, ↓reduceIte, Nat.reduceAdd, Nat.reduceMul, Nat.reduceSub, Nat.reduceLT, Nat.reduceLeDiff, Nat.reduceEqDiff, Int.reduceToNat, Int.reduceEq, Int.reduceLT, Int.reduceLE, reduceCtorEq]
        intro i hi
        have hs := hrows i hi
        by_cases h3 : i < L.length
        · have h3' : (i : Int) < L.length := by omega
          have hwi : IntKind.i64.wrap ((i : Int) + 1) = ((i + 1 : Nat) : Int) := IntWalk.i64_in _ (by omega)
          have hnx : refRows p m (refRankN p m) (L.take (i + 1)) = refStep p m (refRows p m (refRankN p m) (L.take i)) (L.getD i []) := by
            rw [refRows, take_getD [] h3, List.foldl_append, List.foldl_cons, List.foldl_nil]; rfl
          obtain ⟨hrl, hrk⟩ := hmem _ (getD_mem (d := []) h3)
          generalize refRows p m (refRankN p m) (L.take i) = o at hs hnx
          unfold j43_4
          simp only [go_sem, ↓reduceIte, Nat.reduceAdd, Nat.reduceMul, Nat.reduceSub, Nat.reduceLT, Nat.reduceLeDiff, Nat.reduceEqDiff, Int.reduceToNat, Int.reduceEq, Int.reduceLT, Int.reduceLE, reduceCtorEq, h3, h3']
          refine ⟨by omega, ?_⟩
          generalize hr2 : L.getD i [] = r at hnx hrl hrk
          refine loopF Nat (fun k => [.int .i64 ((k + 1 : Nat) : Int), .bool (pathOkB p r k)]) (fun _ => [.vec 3 1 (o.map DT.int.emb)]) (fun k => k ≤ m) (fun k => m - k) 0 (by omega) ?_ rfl ?_
          · simp only [go_sem, ↓reduceIte, Nat.reduceAdd, Nat.reduceMul, Nat.reduceSub, Nat.reduceLT, Nat.reduceLeDiff, Nat.reduceEqDiff, Int.reduceToNat, Int.reduceEq, Int.reduceLT, Int.reduceLE, reduceCtorEq]
            rfl
          intro k hk
          by_cases h4 : k < m
          · have h4' : ((k + 1 : Nat) : Int) < ((m + 1 : Nat) : Int) := by omega
            have hwk : IntKind.i64.wrap (((k + 1 : Nat) : Int) + 1) = ((k + 1 + 1 : Nat) : Int) := IntWalk.i64_in _ (by omega)
            have hwk1 : IntKind.i64.wrap (((k + 1 : Nat) : Int) - 1) = (k : Int) := by rw [IntWalk.i64_in _ (by omega)]; omega
            unfold j43_1
            simp only [go_sem, ↓reduceIte, Nat.reduceAdd, Nat.reduceMul, Nat.reduceSub, Nat.reduceLT, Nat.reduceLeDiff, Nat.reduceEqDiff, Int.reduceToNat, Int.reduceEq, Int.reduceLT, Int.reduceLE, reduceCtorEq, Grr2_eq, h4', hwk, hwk1]
            exact ⟨fun _ => ⟨⟨by omega, by omega⟩, by omega, by omega⟩, k + 1, by omega, by omega, rfl, rfl⟩
          · have e : k = m := by omega
            subst e
            have h4' : ¬ ((k + 1 : Nat) : Int) < ((k + 1 : Nat) : Int) := by omega
            have hx := hrk _ (getD_mem (l := r) (i := k) (d := 0) (by omega))
            have hol := hs.1
            unfold j43_1
            simp only [go_sem, ↓reduceIte, Nat.reduceAdd, Nat.reduceMul, Nat.reduceSub, Nat.reduceLT, Nat.reduceLeDiff, Nat.reduceEqDiff, Int.reduceToNat, Int.reduceEq, Int.reduceLT, Int.reduceLE, reduceCtorEq, h4']
            unfold j43_2
            cases hp : pathOkB p r k with
            | true =>
              rw [refStep, if_pos hp] at hnx
              have hxl : (r.getD k 0).toNat < o.length := by omega
              simp only [go_sem, ↓reduceIte, Nat.reduceAdd, Nat.reduceMul, Nat.reduceSub, Nat.reduceLT, Nat.reduceLeDiff, Nat.reduceEqDiff, Int.reduceToNat, Int.reduceEq, Int.reduceLT, Int.reduceLE, reduceCtorEq, hwm1, ints_getD hxl, ints_set, hp]
              refine ⟨⟨by omega, by omega⟩, ⟨by omega, by omega⟩, hx, hxl, hx, hxl, ?_⟩
              unfold j43_3
              simp only [go_sem, ↓reduceIte, Nat.reduceAdd, Nat.reduceMul, Nat.reduceSub, Nat.reduceLT, Nat.reduceLeDiff, Nat.reduceEqDiff, Int.reduceToNat, Int.reduceEq, Int.reduceLT, Int.reduceLE, reduceCtorEq, hwi]
              refine ⟨i + 1, by omega, by omega, rfl, ?_⟩
              rw [hnx, mx_eq2]
            | false =>
              rw [refStep, if_neg (by rw [hp]; simp)] at hnx
              simp only [go_sem, ↓reduceIte, Nat.reduceAdd, Nat.reduceMul, Nat.reduceSub, Nat.reduceLT, Nat.reduceLeDiff, Nat.reduceEqDiff, Int.reduceToNat, Int.reduceEq, Int.reduceLT, Int.reduceLE, reduceCtorEq, hp]
              unfold j43_3
              simp only [go_sem, ↓reduceIte, Nat.reduceAdd, Nat.reduceMul, Nat.reduceSub, Nat.reduceLT, Nat.reduceLeDiff, Nat.reduceEqDiff, Int.reduceToNat, Int.reduceEq, Int.reduceLT, Int.reduceLE, reduceCtorEq, hwi]
              exact ⟨i + 1, by omega, by omega, rfl, by rw [hnx]⟩
        · have e : i = L.length := by omega
          subst e
          have h3' : ¬ (L.length : Int) < L.length := by omega
          rw [List.take_length] at hs ⊢
          unfold j43_4
          simp only [go_sem, ↓reduceIte, Nat.reduceAdd, Nat.reduceMul, Nat.reduceSub, Nat.reduceLT, Nat.reduceLeDiff, Nat.reduceEqDiff, Int.reduceToNat, Int.reduceEq, Int.reduceLT, Int.reduceLE, reduceCtorEq, h3']
          unfold j43_5
          simp only [go_sem, ↓reduceIte, Nat.reduceAdd, Nat.reduceMul, Nat.reduceSub, Nat.reduceLT, Nat.reduceLeDiff, Nat.reduceEqDiff, Int.reduceToNat, Int.reduceEq, Int.reduceLT, Int.reduceLE, reduceCtorEq, hwm]
          exact ⟨m + 1, by omega, by omega, rfl, by rw [hro]⟩
      · have e : m = 5 := by omega
        subst e
        have hl := hso.1
        unfold j43_6
        simp only [go_sem, ↓reduceIte, Nat.reduceAdd, Nat.reduceMul, Nat.reduceSub, Nat.reduceLT, Nat.reduceLeDiff, Nat.reduceEqDiff, Int.reduceToNat, Int.reduceEq, Int.reduceLT, Int.reduceLE, reduceCtorEq]
        unfold j43_7
        simp only [go_sem, ↓reduceIte, Nat.reduceAdd, Nat.reduceMul, Nat.reduceSub, Nat.reduceLT, Nat.reduceLeDiff, Nat.reduceEqDiff, Int.reduceToNat, Int.reduceEq, Int.reduceLT, Int.reduceLE, reduceCtorEq, hl]
  · have e3 : rrankF p = ([], rrErr p) := by rw [rrankF, if_neg h]
    simp only [go_sem, ↓reduceIte, Nat.reduceAdd, Nat.reduceMul, Nat.reduceSub, Nat.reduceLT, Nat.reduceLeDiff, Nat.reduceEqDiff, Int.reduceToNat, Int.reduceEq, Int.reduceLT, Int.reduceLE, reduceCtorEq, Grr2_eq, dni_emb, h, e3]
end Go.Proofs.Ytmddnblbfmlgoaa.Rg
