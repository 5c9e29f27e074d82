/- The package pack: Read. Conditions: the string is at most 1048576 long. -/
import Derived.Test.YtohbjnpafpcbkaaPackP
set_option linter.unusedSimpArgs false
set_option linter.unusedVariables false
set_option maxRecDepth 100000
open Go Go.Sx Go.Proofs
namespace Go.Proofs.Ytohbjnpafpcbkaa.Pk
open Go.Proofs.Ytohbjnpafpcbkaa.D Go.Proofs.Ytohbjnpafpcbkaa.Tr
abbrev big : Nat := 1048576
def toI (s : List UInt8) : List Int := s.map fun b => (b.toNat : Int)
/-- An event, out of two bytes: as the code, as the reference. -/
def evC (a b : UInt8) : Ev := ⟨IntKind.i64.wrap (IntKind.i64.wrap (bitAnd .u8 (a.toNat : Int) 7) + 1), IntKind.i64.wrap ((a.toNat : Int).fdiv (2 ^ (min 3 8))), IntKind.i64.wrap (b.toNat : Int)⟩
def evsC (b : List UInt8) : Nat → List Ev
  | 0 => []
  | k + 1 => evsC b k ++ [evC (b.getD (2 + 2 * k) 0) (b.getD (2 + 2 * k + 1) 0)]
theorem evsC_len (b : List UInt8) : ∀ k, (evsC b k).length = k
  | 0 => rfl
  | k + 1 => by simp [evsC, evsC_len b k]
def mainC (s : List UInt8) : List UInt8 := s.take (s.length - 2)
def outC (s : List UInt8) : List Ev := evsC (mainC s) ((s.length - 4) / 2)
def readF (s : List UInt8) : List Ev × Int :=
  if s.length < 4 then ([], 4) else if ¬ mainC s ++ [chrB ((sumW (toI (mainC s))).fdiv (2 ^ (min 8 64))), chrB (sumW (toI (mainC s)))] = s then ([], 6)
  else if ¬ (packF (outC s)).2 = 0 ∨ ¬ (packF (outC s)).1 = s then ([], 5) else (outC s, 0)
def Gq (f : FuncId) (a : List SV) (m : List Res) : Sx.Call := (FH.mk 66 (.one dBs) (fun _ => True) (fun _ => .vec 0 2) (fun y => [.vec 5 1 [.int .u8 (hiB (sumW y.1)), .int .u8 (u8 (sumW y.1))]]) <|
  FH.rd 33 (.one dEs) (.two .str .int) (fun _ => True) (fun y => packF y.1) FH.none) f a m
theorem Gq_eq (f : FuncId) (a : List SV) (m : List Res) : Gq f a m = (FH.mk 66 (.one dBs) (fun _ => True) (fun _ => .vec 0 2) (fun y => [.vec 5 1 [.int .u8 (hiB (sumW y.1)), .int .u8 (u8 (sumW y.1))]]) <|
  FH.rd 33 (.one dEs) (.two .str .int) (fun _ => True) (fun y => packF y.1) FH.none) f a m := nr rfl
theorem Gq_ok : FHOK Try.prog Gq := FH.mk_ok (by kernel_rfl) (fun y _ => plainM (pv_vec _ _) ⟨plR_vec _ _ DT.byte [hiB (sumW y.1), u8 (sumW y.1)], trivial⟩) (fun y _ => f_sum y.1) <| FH.rd_ok (by kernel_rfl) (fun y _ => f_Pack y.1) FH.none_ok
theorem f_Read (s : List UInt8) (hB : s.length ≤ big) : FnOK Try.prog 35 [.str s] [] (.tup [.vec 0 (readF s).1.length, .int .i64 (readF s).2]) [.vec 54 3 ((readF s).1.map dEv.emb)] := by
  refine fn_walkF c35 w35 Gq_ok rfl ?_
  unfold j35
  unfold big at hB
  by_cases h4 : s.length < 4
  · have h4' : (s.length : Int) < 4 := by omega
    have hr : readF s = ([], 4) := by rw [readF, if_pos h4]
    rw [hr]
    simp only [go_sem, ↓reduceIte, Nat.reduceAdd, Nat.reduceMul, Nat.reduceSub, Nat.reduceLT, Nat.reduceLeDiff, Nat.reduceEqDiff, Int.reduceToNat, Int.reduceEq, Int.reduceLT, Int.reduceLE, reduceCtorEq, Gq_eq, h4']
  have h4' : ¬ (s.length : Int) < 4 := by omega
  have hw2 : IntKind.i64.wrap ((s.length : Int) - 2) = ((s.length - 2 : Nat) : Int) := by rw [IntWalk.i64_in _ (by omega)]; omega
  obtain ⟨b, hb⟩ : ∃ b, List.take (s.length - 2) s = b := ⟨_, rfl⟩
  have hbl : b.length = s.length - 2 := by rw [← hb]; simp
  have hm : mainC s = b := hb
  simp only [go_sem, ↓reduceIte, Nat.reduceAdd, Nat.reduceMul, Nat.reduceSub, Nat.reduceLT, Nat.reduceLeDiff, Nat.reduceEqDiff, Int.reduceToNat, Int.reduceEq, Int.reduceLT, Int.reduceLE, reduceCtorEq, Gq_eq, h4', hw2, hb, List.take_length]
  have hby : bytesOf (List.map (fun b => SV.int .u8 (b.toNat : Int)) b ++ [SV.int .u8 (hiB (sumW (toI b))), SV.int .u8 (u8 (sumW (toI b)))]) = some (b ++ [chrB ((sumW (toI b)).fdiv (2 ^ (min 8 64))), chrB (sumW (toI b))]) :=
    W.bytesOf_app _ _ _ _ (W.bytesOf_u8 b) rfl
  refine ⟨by omega, ⟨by omega, by omega⟩, by omega, rfl, by omega, by omega, ⟨by omega, by omega⟩, by omega, ?_⟩
  have hti : (List.map (fun (y : UInt8) => (y.toNat : Int)) b) = toI b := rfl
  rw [hti]
  generalize hA : [SV.int .u8 (hiB (sumW (toI b))), SV.int .u8 (u8 (sumW (toI b)))] = A at hby ⊢
  rw [hby]
  simp only
  refine ⟨fun hne => ?_, fun heq => ?_⟩
  · have hr : readF s = ([], 6) := by rw [readF, if_neg h4, hm, if_pos hne]
    rw [hr]
    exact ⟨rfl, rfl⟩
  obtain ⟨aa, haa⟩ : ∃ aa : List Int, A = aa.map DT.byte.emb := ⟨[_, _], hA.symm⟩
  obtain ⟨bb, hbb⟩ : ∃ bb : List Int, List.map (fun b => SV.int .u8 (b.toNat : Int)) b ++ A = bb.map DT.byte.emb := ⟨toI b ++ aa, by rw [haa, List.map_append, toI, List.map_map]; rfl⟩
  rw [hbb, haa]
  clear hby hA hbb haa
  refine loopF Nat (fun k => [.int .i64 (2 + 2 * (k : Nat) : Nat), .vec 2 k]) (fun k => [.vec 5 1 (aa.map DT.byte.emb), .vec 5 1 (bb.map DT.byte.emb), .vec 54 3 ((evsC b k).map dEv.emb)]) (fun k => k ≤ (s.length - 4) / 2) (fun k => (s.length - 4) / 2 - k) 0 (by omega) ?_ ?_ ?_
  · simp only [go_sem, ↓reduceIte, Nat.reduceAdd, Nat.reduceMul, Nat.reduceSub, Nat.reduceLT, Nat.reduceLeDiff, Nat.reduceEqDiff, Int.reduceToNat, Int.reduceEq, Int.reduceLT, Int.reduceLE, reduceCtorEq]
  · simp only [go_sem, ↓reduceIte, Nat.reduceAdd, Nat.reduceMul, Nat.reduceSub, Nat.reduceLT, Nat.reduceLeDiff, Nat.reduceEqDiff, Int.reduceToNat, Int.reduceEq, Int.reduceLT, Int.reduceLE, reduceCtorEq, evsC]
  intro k hk
  have hw1 : IntKind.i64.wrap (((2 + 2 * k : Nat) : Int) + 1) = ((2 + 2 * k + 1 : Nat) : Int) := IntWalk.i64_in _ (by omega)
  have hw3 : IntKind.i64.wrap (((2 + 2 * k : Nat) : Int) + 2) = ((2 + 2 * (k + 1) : Nat) : Int) := by rw [IntWalk.i64_in _ (by omega)]; omega
  by_cases h1 : k < (s.length - 4) / 2
  · have h1' : ((2 + 2 * k + 1 : Nat) : Int) < b.length := by omega
    unfold j35_1
    simp only [go_sem, ↓reduceIte, Nat.reduceAdd, Nat.reduceMul, Nat.reduceSub, Nat.reduceLT, Nat.reduceLeDiff, Nat.reduceEqDiff, Int.reduceToNat, Int.reduceEq, Int.reduceLT, Int.reduceLE, reduceCtorEq, Gq_eq, h1', hw1, hw3, List.range_zero]
    have hl := evsC_len b k
    refine ⟨by omega, by omega, by omega, by omega, k + 1, by omega, by omega, ⟨rfl, by rw [hl]⟩, ?_⟩
    simp only [selM, memAt, List.map_cons, List.map_nil, List.getD_cons_zero, List.getD_cons_succ, List.take_succ_cons, List.take_zero, W.renR_vec, dt_renL]
    exact congrArg (fun z => [Res.vec 5 1 (List.map DT.byte.emb aa), Res.vec 5 1 (List.map DT.byte.emb bb), Res.vec 54 3 z]) (Eq.trans (congrArg (fun z => renL (ltI 3) (renL (selI [0, 1, 3]) z)) (Eq.trans rfl (List.map_append (f := dEv.emb) (l₁ := evsC b k) (l₂ := [evC (b.getD (2 + 2 * k) 0) (b.getD (2 + 2 * k + 1) 0)])).symm)) ((congrArg _ (dt_renL _ _ _)).trans (dt_renL _ _ _)))
  · have h1' : ¬ ((2 + 2 * k + 1 : Nat) : Int) < b.length := by omega
    have e : k = (s.length - 4) / 2 := by omega
    unfold j35_1
    simp only [go_sem, ↓reduceIte, Nat.reduceAdd, Nat.reduceMul, Nat.reduceSub, Nat.reduceLT, Nat.reduceLeDiff, Nat.reduceEqDiff, Int.reduceToNat, Int.reduceEq, Int.reduceLT, Int.reduceLE, reduceCtorEq, Gq_eq, h1', hw1]
    unfold j35_2
    simp only [go_sem, ↓reduceIte, Nat.reduceAdd, Nat.reduceMul, Nat.reduceSub, Nat.reduceLT, Nat.reduceLeDiff, Nat.reduceEqDiff, Int.reduceToNat, Int.reduceEq, Int.reduceLT, Int.reduceLE, reduceCtorEq, Gq_eq]
    have ho : outC s = evsC b k := by rw [outC, hm, e]
    have hl := evsC_len b k
    have hr : readF s = if ¬ (packF (evsC b k)).2 = 0 ∨ ¬ (packF (evsC b k)).1 = s then ([], 5) else (evsC b k, 0) := by rw [readF, if_neg h4, hm, if_neg (fun h => h heq), ho]
    rw [hr]
    refine ⟨fun h => ?_, fun h => ?_⟩
    · simp only [Bool.or_eq_true, Bool.not_eq_true', decide_eq_false_iff_not] at h
      rw [if_pos h]
      exact ⟨rfl, rfl⟩
    · simp only [Bool.or_eq_false_iff, Bool.not_eq_false', decide_eq_true_iff] at h
      rw [if_neg (by rw [h.1, h.2]; simp)]
      exact ⟨by rw [hl], rfl⟩
end Go.Proofs.Ytohbjnpafpcbkaa.Pk
