/- The reference's PackRead. Conditions: the string is at most 1048576 long. -/
import Derived.Test.YtohbjnpafpcbkaaPackQ
set_option linter.unusedSimpArgs false
set_option linter.unusedVariables false
set_option maxRecDepth 100000
open Go Go.Sx Go.Proofs
namespace Go.Proofs.Ytohbjnpafpcbkaa.Pk
open Go.Proofs.Ytohbjnpafpcbkaa.D Go.Proofs.Ytohbjnpafpcbkaa.Tr
def j36_1 : JC :=
  (.seq (.seq (.ops <|
  qo 37 (.mv (.t 6)) <|
  qo 38 (.lens (.t 37)) <|
  qo 39 (.cmp .gtr (.t 38) (I 1)) <|
  .nil)
  (.cond (.t 39)
  .skip
  (.exit 0)))
  (.seq (.block 1 (.dops <|
  qo 42 (.mv (.t 5)) <|
  .prune [6, 42, 0] <|
  qo 43 (.mv (.t 6)) <|
  qo 44 (.sx (.t 43) (I 0)) <|
  qo 45 (.conv .i64 (.t 44)) <|
  qo 46 (.ar .rem (.t 45) (I 8)) <|
  .prune [46, 6, 42, 0] <|
  qo 47 (.ar .add (.t 46) (I 1)) <|
  qo 48 (.mv (.t 6)) <|
  qo 49 (.sx (.t 48) (I 0)) <|
  qo 50 (.conv .i64 (.t 49)) <|
  .prune [50, 6, 47, 42, 0] <|
  qo 51 (.ar .quo (.t 50) (I 8)) <|
  qo 52 (.mv (.t 6)) <|
  qo 53 (.sx (.t 52) (I 1)) <|
  qo 54 (.conv .i64 (.t 53)) <|
  .prune [47, 51, 54, 42, 6, 0] <|
  qo 55 (.bld (.agg [(.int .i64 0), (.int .i64 0), (.int .i64 0)]) [([.fld 0], 0, 1, (.t 47)), ([.fld 1], 1, 1, (.t 51)), ([.fld 2], 2, 1, (.t 54))]) <|
  .prune [55, 42, 6, 0] <|
  eo 56 (.qbsl 54 3 1 (.agg [(.int .i64 0), (.int .i64 0), (.int .i64 0)]) [(0, (.t 55))]) <|
  eo 57 (.app 54 3 24 (.t 42) (.t 56)) <|
  qo 5 (.mv (.t 57)) <|
  .nil))
  (.prune [6, 5, 0] (.ops <|
  qo 40 (.mv (.t 6)) <|
  qo 41 (.ssl (.t 40) (some (I 2)) none) <|
  qo 6 (.mv (.t 41)) <|
  .nil))))
def j36_2 : JC :=
  (.prune [5, 0] (.seq (.seq (.ops <|
  qo 59 (.mv (.t 5)) <|
  eo 60 (.call 34 [(.t 59)]) <|
  qo 58 (.mv (.t 60)) <|
  qo 61 (.ext 0 (.t 58)) <|
  qo 62 (.ext 1 (.t 58)) <|
  qo 7 (.mv (.t 61)) <|
  qo 8 (.mv (.t 62)) <|
  .nil)
  (.seq (.ops <|
  .prune [8, 7, 0, 5] <|
  qo 63 (.mv (.t 8)) <|
  qo 64 (.cmp .neq (.t 63) (I 0)) <|
  qo 65 (.mv (.t 64)) <|
  .prune [65, 7, 0, 5] <|
  .sc true 69 65 (qo 66 (.mv (.t 7)) <|
  qo 67 (.mv (.t 0)) <|
  qo 68 (.seq true (.t 66) (.t 67)) <|
  .nil) (.t 68) <|
  .nil)
  (.prune [69, 5] (.cond (.t 69)
  (.seq (.ops <|
  qo 2 (.mv (.c .nils)) <|
  qo 3 (.mv (I 5)) <|
  .nil)
  (.vecs 2 54 3 .ret))
  .skip))))
  (.prune [5] (.seq (.ops <|
  qo 70 (.mv (.t 5)) <|
  qo 2 (.mv (.t 70)) <|
  qo 3 (.mv (I 0)) <|
  .nil)
  (.vecs 2 54 3 .ret)))))
def j36 : JC :=
  (.seq (.ops <|
  qo 2 (.mv (.c .nils)) <|
  qo 3 (.mv (I 0)) <|
  .nil)
  (.seq (.seq (.ops <|
  qo 9 (.mv (.t 0)) <|
  qo 10 (.lens (.t 9)) <|
  qo 11 (.cmp .lss (.t 10) (I 4)) <|
  .nil)
  (.cond (.t 11)
  (.seq (.ops <|
  qo 2 (.mv (.c .nils)) <|
  qo 3 (.mv (I 4)) <|
  .nil)
  (.vecs 2 54 3 .ret))
  .skip))
  (.seq (.ops <|
  .prune [0] <|
  qo 12 (.mv (.t 0)) <|
  qo 13 (.mv (.t 0)) <|
  qo 14 (.lens (.t 13)) <|
  qo 15 (.ar .sub (.t 14) (I 2)) <|
  qo 16 (.ssl (.t 12) none (some (.t 15))) <|
  eo 17 (.call 68 [(.t 16)]) <|
  qo 4 (.mv (.t 17)) <|
  .nil)
  (.prune [0, 4] (.seq (.seq (.dops <|
  qo 18 (.mv (.t 0)) <|
  qo 19 (.mv (.t 0)) <|
  qo 20 (.lens (.t 19)) <|
  qo 21 (.ar .sub (.t 20) (I 2)) <|
  qo 22 (.ssl (.t 18) (some (.t 21)) none) <|
  .prune [4, 22, 0] <|
  qo 23 (.mv (.t 4)) <|
  qo 24 (.ar .quo (.t 23) (I 256)) <|
  qo 25 (.ar .rem (.t 24) (I 256)) <|
  eo 26 (.qcall 67 [(.t 25)]) <|
  .prune [4, 26, 22, 0] <|
  qo 27 (.mv (.t 4)) <|
  qo 28 (.ar .rem (.t 27) (I 256)) <|
  eo 29 (.qcall 67 [(.t 28)]) <|
  qo 30 (.cat (.t 26) (.t 29)) <|
  qo 31 (.seq true (.t 22) (.t 30)) <|
  .nil)
  (.prune [31, 0] (.cond (.t 31)
  (.seq (.ops <|
  qo 2 (.mv (.c .nils)) <|
  qo 3 (.mv (I 6)) <|
  .nil)
  (.vecs 2 54 3 .ret))
  .skip)))
  (.prune [0] (.seq (.ops <|
  qo 5 (.mv (.c .nils)) <|
  .nil)
  (.seq (.seq (.ops <|
  qo 32 (.mv (.t 0)) <|
  qo 33 (.mv (.t 0)) <|
  qo 34 (.lens (.t 33)) <|
  qo 35 (.ar .sub (.t 34) (I 2)) <|
  qo 36 (.ssl (.t 32) (some (I 2)) (some (.t 35))) <|
  qo 6 (.mv (.t 36)) <|
  .nil)
  (.block 0 (.vecs 5 54 3 (.loop [0] [6, 5] j36_1))))
  j36_2))))))))
theorem c36 : fnIs Try.prog (quiet2 qall) 36 = some (j36.flat, [.tmp 2, .tmp 3], 71) := by kernel_rfl
theorem w36 : j36.wf 71 = true := by kernel_rfl
def Gs (f : FuncId) (a : List SV) (m : List Res) : Sx.Call := (FH.rd 68 (.one .str) (.one .int) (fun y => y.1.length ≤ 9223372036854775807) (fun y => sumW (toI y.1)) <|
  FH.rd 67 (.one .int) (.one .str) (fun _ => True) (fun y => [chrB y.1]) <|
  FH.rd 34 (.one dEs) (.two .str .int) (fun _ => True) (fun y => rpackF y.1) FH.none) f a m
theorem Gs_eq (f : FuncId) (a : List SV) (m : List Res) : Gs f a m = (FH.rd 68 (.one .str) (.one .int) (fun y => y.1.length ≤ 9223372036854775807) (fun y => sumW (toI y.1)) <|
  FH.rd 67 (.one .int) (.one .str) (fun _ => True) (fun y => [chrB y.1]) <|
  FH.rd 34 (.one dEs) (.two .str .int) (fun _ => True) (fun y => rpackF y.1) FH.none) f a m := nr rfl
theorem Gs_ok : FHOK Try.prog Gs := FH.rd_ok (by kernel_rfl) (fun y h => f_sumOf y.1 h) <| FH.rd_ok (by kernel_rfl) (fun y _ => f_chr y.1) <| FH.rd_ok (by kernel_rfl) (fun y _ => f_RPack y.1) FH.none_ok
def evD (a b : UInt8) : Ev := ⟨IntKind.i64.wrap ((IntKind.i64.wrap (a.toNat : Int)).tmod 8 + 1), IntKind.i64.wrap ((IntKind.i64.wrap (a.toNat : Int)).tdiv 8), IntKind.i64.wrap (b.toNat : Int)⟩
def evsD (b : List UInt8) : Nat → List Ev
  | 0 => []
  | k + 1 => evsD b k ++ [evD (b.getD (2 + 2 * k) 0) (b.getD (2 + 2 * k + 1) 0)]
theorem evsD_len (b : List UInt8) : ∀ k, (evsD b k).length = k
  | 0 => rfl
  | k + 1 => by simp [evsD, evsD_len b k]
def outD (s : List UInt8) : List Ev := evsD (mainC s) ((s.length - 4) / 2)
def tailD (s : List UInt8) : List UInt8 := [chrB ((IntKind.i64.wrap ((sumW (toI (mainC s))).tdiv 256)).tmod 256), chrB ((sumW (toI (mainC s))).tmod 256)]
def rreadF (s : List UInt8) : List Ev × Int :=
  if s.length < 4 then ([], 4) else if ¬ s.drop (s.length - 2) = tailD s then ([], 6)
  else if ¬ (rpackF (outD s)).2 = 0 ∨ ¬ (rpackF (outD s)).1 = s then ([], 5) else (outD s, 0)
theorem f_RPackRead (s : List UInt8) (hB : s.length ≤ big) : FnOK Try.prog 36 [.str s] [] (.tup [.vec 0 (rreadF s).1.length, .int .i64 (rreadF s).2]) [.vec 54 3 ((rreadF s).1.map dEv.emb)] := by
  refine fn_walkF c36 w36 Gs_ok rfl ?_
  unfold j36
  unfold big at hB
  by_cases h4 : s.length < 4
  · have h4' : (s.length : Int) < 4 := by omega
    have hr : rreadF s = ([], 4) := by rw [rreadF, if_pos h4]
    rw [hr]
    simp only [go_sem, ↓reduceIte, Nat.reduceAdd, Nat.reduceMul, Nat.reduceSub, Nat.reduceLT, Nat.reduceLeDiff, Nat.reduceEqDiff, Int.reduceToNat, Int.reduceEq, Int.reduceLT, Int.reduceLE, reduceCtorEq, Gs_eq, h4']
  have h4' : ¬ (s.length : Int) < 4 := by omega
  have hw2 : IntKind.i64.wrap ((s.length : Int) - 2) = ((s.length - 2 : Nat) : Int) := by rw [IntWalk.i64_in _ (by omega)]; omega
  obtain ⟨b, hb⟩ : ∃ b, List.take (s.length - 2) s = b := ⟨_, rfl⟩
  have hbl : b.length = s.length - 2 := by rw [← hb]; simp
  have hm : mainC s = b := hb
  simp only [go_sem, ↓reduceIte, Nat.reduceAdd, Nat.reduceMul, Nat.reduceSub, Nat.reduceLT, Nat.reduceLeDiff, Nat.reduceEqDiff, Int.reduceToNat, Int.reduceEq, Int.reduceLT, Int.reduceLE, reduceCtorEq, Gs_eq, h4', hw2, hb, List.take_length]
  refine ⟨by omega, ⟨by omega, by omega⟩, by omega, by omega, ⟨by omega, by omega⟩, fun hne => ?_, fun heq => ?_⟩
  · have hr : rreadF s = ([], 6) := by rw [rreadF, if_neg h4, tailD, hm, if_pos hne]
    rw [hr]
    exact ⟨rfl, rfl⟩
  refine ⟨by omega, ⟨by omega, by omega⟩, ?_⟩
  refine loopF Nat (fun k => [.str (b.drop (2 + 2 * k)), .vec 0 k]) (fun k => [.vec 54 3 ((evsD b k).map dEv.emb)]) (fun k => k ≤ (s.length - 4) / 2) (fun k => (s.length - 4) / 2 - k) 0 (by omega) ?_ rfl ?_
  · simp only [go_sem, ↓reduceIte, Nat.reduceAdd, Nat.reduceMul, Nat.reduceSub, Nat.reduceLT, Nat.reduceLeDiff, Nat.reduceEqDiff, Int.reduceToNat, Int.reduceEq, Int.reduceLT, Int.reduceLE, reduceCtorEq]
  intro k hk
  by_cases h1 : k < (s.length - 4) / 2
  · have h1' : 1 < ((b.drop (2 + 2 * k)).length : Int) := by rw [List.length_drop]; omega
    unfold j36_1
    have hd0 : (b.drop (2 + 2 * k)).getD 0 0 = b.getD (2 + 2 * k) 0 := by simp [List.getD]
    have hd1 : (b.drop (2 + 2 * k)).getD 1 0 = b.getD (2 + 2 * k + 1) 0 := by simp [List.getD]
    have hdd : List.drop 2 (List.take (List.drop (2 + 2 * k) b).length (List.drop (2 + 2 * k) b)) = b.drop (2 + 2 * (k + 1)) := by
      rw [List.take_length, List.drop_drop]
      congr 1
    have hg := List.length_drop (i := 2 + 2 * k) (l := b)
    simp only [go_sem, ↓reduceIte, Nat.reduceAdd, Nat.reduceMul, Nat.reduceSub, Nat.reduceLT, Nat.reduceLeDiff, Nat.reduceEqDiff, Int.reduceToNat, Int.reduceEq, Int.reduceLT, Int.reduceLE, reduceCtorEq, Gs_eq, h1', List.range_zero, hd0, hd1, hdd]
    have hl := evsD_len b k
    refine ⟨by omega, by omega, by omega, ⟨by omega, by omega⟩, k + 1, by omega, by omega, ⟨rfl, by rw [hl]⟩, ?_⟩
    simp only [selM, memAt, List.map_cons, List.map_nil, List.getD_cons_zero, List.getD_cons_succ, List.take_succ_cons, List.take_zero, W.renR_vec, dt_renL]
    exact congrArg (fun z => [Res.vec 54 3 z]) (Eq.trans (congrArg (fun z => renL (ltI 1) (renL (selI [1]) z)) (Eq.trans rfl (List.map_append (f := dEv.emb) (l₁ := evsD b k) (l₂ := [evD (b.getD (2 + 2 * k) 0) (b.getD (2 + 2 * k + 1) 0)])).symm)) ((congrArg _ (dt_renL _ _ _)).trans (dt_renL _ _ _)))
  · have h1' : ¬ 1 < ((b.drop (2 + 2 * k)).length : Int) := by rw [List.length_drop]; omega
    have e : k = (s.length - 4) / 2 := by omega
    unfold j36_1
    simp only [go_sem, ↓reduceIte, Nat.reduceAdd, Nat.reduceMul, Nat.reduceSub, Nat.reduceLT, Nat.reduceLeDiff, Nat.reduceEqDiff, Int.reduceToNat, Int.reduceEq, Int.reduceLT, Int.reduceLE, reduceCtorEq, Gs_eq, h1']
    unfold j36_2
    simp only [go_sem, ↓reduceIte, Nat.reduceAdd, Nat.reduceMul, Nat.reduceSub, Nat.reduceLT, Nat.reduceLeDiff, Nat.reduceEqDiff, Int.reduceToNat, Int.reduceEq, Int.reduceLT, Int.reduceLE, reduceCtorEq, Gs_eq]
    have ho : outD s = evsD b k := by rw [outD, hm, e]
    have hl := evsD_len b k
    have hr : rreadF s = if ¬ (rpackF (evsD b k)).2 = 0 ∨ ¬ (rpackF (evsD b k)).1 = s then ([], 5) else (evsD b k, 0) := by rw [rreadF, if_neg h4, tailD, hm, if_neg (fun h => h heq), ho]
    rw [hr]
    refine ⟨fun h => ?_, fun h => ?_⟩
    · simp only [Bool.or_eq_true, Bool.not_eq_true', decide_eq_false_iff_not] at h
      rw [if_pos h]
      exact ⟨rfl, rfl⟩
    · simp only [Bool.or_eq_false_iff, Bool.not_eq_false', decide_eq_true_iff] at h
      rw [if_neg (by rw [h.1, h.2]; simp)]
      exact ⟨by rw [hl], rfl⟩
end Go.Proofs.Ytohbjnpafpcbkaa.Pk
