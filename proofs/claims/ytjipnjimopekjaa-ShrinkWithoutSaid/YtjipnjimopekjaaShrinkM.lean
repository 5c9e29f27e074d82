/- The fewest events with a race, as the program finds them. Conditions: none. -/
import Derived.Test.YtjipnjimopekjaaShrinkA
import Derived.Test.YtjipnjimopekjaaRaceS
import Derived.Test.YtjipnjimopekjaaSecR
set_option linter.unusedSimpArgs false
set_option linter.unusedVariables false
set_option maxRecDepth 100000
open Go Go.Sx Go.Proofs
namespace Go.Proofs.Ytjipnjimopekjaa.Sk
open Go.Proofs.Ytjipnjimopekjaa.D Go.Proofs.Ytjipnjimopekjaa.Tr Go.Proofs.Ytjipnjimopekjaa.Cp Go.Proofs.Ytjipnjimopekjaa.Rc

def j87 : JC :=
  (.seq (.ops <|
  qo 2 (.mv (B false)) <|
  .nil)
  (.seq (.ops <|
  qo 6 (.mv (.t 0)) <|
  eo 7 (.call 23 [(.t 6)]) <|
  qo 5 (.mv (.t 7)) <|
  qo 8 (.ext 0 (.t 5)) <|
  qo 9 (.ext 1 (.t 5)) <|
  qo 3 (.mv (.t 8)) <|
  qo 4 (.mv (.t 9)) <|
  .nil)
  (.seq (.ops <|
  .prune [3] <|
  qo 10 (.mv (.t 3)) <|
  qo 11 (.len (.t 10)) <|
  qo 12 (.cmp .gtr (.t 11) (I 0)) <|
  qo 2 (.mv (.t 12)) <|
  .nil)
  .ret)))
theorem c87 : fnIs Try.prog qall 87 = some (j87.flat, [.tmp 2], 13) := by kernel_rfl
theorem w87 : j87.wf 13 = true := by kernel_rfl
def Grs (f : FuncId) (a : List SV) (m : List Res) : Sx.Call := (FH.mk 23 (.one dEs) (fun _ => True) (fun y => .tup [.vec 0 (tellF (fun r => r.b) y.1).length, .int .i64 (playedF y.1).2.2]) (fun y => [.vec 3 1 ((tellF (fun r => r.b) y.1).map DT.int.emb)]) FH.none) f a m
theorem Grs_eq (f : FuncId) (a : List SV) (m : List Res) : Grs f a m = (FH.mk 23 (.one dEs) (fun _ => True) (fun y => .tup [.vec 0 (tellF (fun r => r.b) y.1).length, .int .i64 (playedF y.1).2.2]) (fun y => [.vec 3 1 ((tellF (fun r => r.b) y.1).map DT.int.emb)]) FH.none) f a m := nr rfl
theorem Grs_ok : FHOK Try.prog Grs := FH.mk_ok (by kernel_rfl) (fun y _ => plainM (pv_tup ⟨plV_vec _ _, plV_int _ _, trivial⟩) ⟨plR_vec _ _ DT.int _, trivial⟩) (fun y _ => f_Seconds y.1) FH.none_ok
/-- Has it a race? -/
def racy (l : List Ev) : Bool := decide (0 < (racesF l).length)
theorem tell_secs {l : List Ev} (hok : (checkR l).2 = 0) : tellF (fun r => r.b) l = secsR l := by
  have hp : (playedF l).2.2 = 0 := by rw [err_same]; exact hok
  rw [tellF, if_pos hp, SortP.compact_sorted secs_in]
  rfl
theorem secs_pos {l : List Ev} : 0 < (secsR l).length ↔ 0 < (racesF l).length := by
  rw [List.length_pos_iff_exists_mem, List.length_pos_iff_exists_mem]
  constructor
  · rintro ⟨x, hx⟩
    rw [secsR, SortP.mem_upTo] at hx
    obtain ⟨r, hr, _⟩ := List.mem_map.1 hx.1
    exact ⟨r, hr⟩
  · rintro ⟨r, hr⟩
    have hm : r.b ∈ (racesF l).map fun r => r.b := List.mem_map.2 ⟨r, hr, rfl⟩
    have := secs_in _ hm
    exact ⟨r.b, by rw [secsR, SortP.mem_upTo]; exact ⟨hm, this⟩⟩
theorem f_races (l : List Ev) (hok : (checkR l).2 = 0) : FnOK Try.prog 87 [dEs.emb l] [] (.bool (racy l)) [] := by
  refine fn_walkF c87 w87 Grs_ok rfl ?_
  unfold j87
  simp only [go_sem, ↓reduceIte, Nat.reduceAdd, Nat.reduceMul, Nat.reduceSub, Nat.reduceLT, Nat.reduceLeDiff, Nat.reduceEqDiff, Int.reduceToNat, Int.reduceEq, Int.reduceLT, Int.reduceLE, reduceCtorEq, Grs_eq]
  rw [tell_secs hok]
  unfold racy
  have := secs_pos (l := l)
  have e : (0 < ((secsR l).length : Int)) ↔ 0 < (racesF l).length := by omega
  exact decide_eq_decide.2 e
def j88_1 : JC :=
  (.seq (.seq (.ops <|
  qo 8 (.mv (.t 5)) <|
  qo 9 (.mv (.t 0)) <|
  qo 10 (.len (.t 9)) <|
  qo 11 (.cmp .lss (.t 8) (.t 10)) <|
  .nil)
  (.cond (.t 11)
  .skip
  (.exit 0)))
  (.block 1 (.seq (.seq (.ops <|
  .prune [0, 5, 4] <|
  qo 13 (.mv (.t 0)) <|
  qo 14 (.mv (.t 5)) <|
  eo 15 (.call 91 [(.t 13), (.t 14)]) <|
  qo 12 (.mv (.t 15)) <|
  .prune [12, 5, 0, 4] <|
  qo 16 (.ext 0 (.t 12)) <|
  qo 17 (.ext 1 (.t 12)) <|
  qo 6 (.mv (.t 16)) <|
  qo 7 (.mv (.t 17)) <|
  .nil)
  (.frz 6 dEs.frz <| .prune [7, 6, 5, 0, 4] (.seq (.ops <|
  qo 18 (.mv (.t 7)) <|
  qo 19 (.mv (.t 18)) <|
  .sc false 22 19 (qo 20 (.mv (.t 6)) <|
  eo 21 (.call 87 [(.t 20)]) <|
  .nil) (.t 21) <|
  .nil)
  (.prune [22, 6, 5, 0, 4] (.cond (.t 22)
  (.seq (.ops <|
  qo 23 (.mv (.t 6)) <|
  qo 0 (.mv (.t 23)) <|
  qo 4 (.mv (B true)) <|
  .nil)
  (.exit 1))
  .skip)))))
  (.prune [5, 0, 4] (.ops <|
  qo 24 (.mv (.t 5)) <|
  qo 25 (.ar .add (.t 24) (I 1)) <|
  qo 5 (.mv (.t 25)) <|
  .nil)))))
def j88_2 : JC :=
  (.prune [0, 4] (.seq (.ops <|
  qo 26 (.mv (.t 0)) <|
  qo 27 (.mv (.t 4)) <|
  qo 2 (.mv (.t 26)) <|
  qo 3 (.mv (.t 27)) <|
  .nil)
  .ret))
def j88 : JC :=
  (.seq (.ops <|
  qo 2 (.mv (.c .nils)) <|
  qo 3 (.mv (B false)) <|
  .nil)
  (.seq (.ops <|
  qo 4 (.mv (B false)) <|
  .nil)
  (.seq (.seq (.ops <|
  qo 5 (.mv (I 0)) <|
  .nil)
  (.block 0 (.loop [] [5, 0, 4] j88_1)))
  j88_2)))
theorem c88 : fnIs Try.prog qall 88 = some (j88.flat, [.tmp 2, .tmp 3], 28) := by kernel_rfl
theorem w88 : j88.wf 28 = true := by kernel_rfl
def good (x : List Ev) : Bool := decide ((checkR x).2 = 0) && racy x
/-- A pass over all places. -/
def passF : Nat → Nat → List Ev → Bool → List Ev × Bool
  | 0, _, L, b => (L, b)
  | n + 1, i, L, b => if good (cut L i) = true then passF n i (cut L i) true else passF n (i + 1) L b
theorem passF_spec : ∀ (n i : Nat) (L : List Ev) (b : Bool), i + n = L.length → (passF n i L b).1.length ≤ L.length ∧ ((passF n i L b).2 = true → b = true ∨ (passF n i L b).1.length < L.length)
  | 0, i, L, b, _ => ⟨Nat.le_refl _, fun h => .inl h⟩
  | n + 1, i, L, b, h => by
    rw [passF]
    split
    · have hc := cut_len (l := L) (i := i) (by omega)
      have := passF_spec n i (cut L i) true (by omega)
      exact ⟨by omega, fun _ => .inr (by omega)⟩
    · exact passF_spec n (i + 1) L b (by omega)
def Gpa (f : FuncId) (a : List SV) (m : List Res) : Sx.Call := (FH.mk 91 (.two dEs .int) (fun y => y.1.length ≤ 1000 ∧ 0 ≤ y.2.1 ∧ y.2.1 < y.1.length) (fun y => .tup [.vec 0 (y.1.length - 1), .bool (decide ((checkR (cut y.1 y.2.1.toNat)).2 = 0))]) (fun y => [.vec 26 3 ((cut y.1 y.2.1.toNat).map dEv.emb)]) <|
  FH.rd 87 (.one dEs) (.one .bool) (fun y => (checkR y.1).2 = 0) (fun y => racy y.1) FH.none) f a m
theorem Gpa_eq (f : FuncId) (a : List SV) (m : List Res) : Gpa f a m = (FH.mk 91 (.two dEs .int) (fun y => y.1.length ≤ 1000 ∧ 0 ≤ y.2.1 ∧ y.2.1 < y.1.length) (fun y => .tup [.vec 0 (y.1.length - 1), .bool (decide ((checkR (cut y.1 y.2.1.toNat)).2 = 0))]) (fun y => [.vec 26 3 ((cut y.1 y.2.1.toNat).map dEv.emb)]) <|
  FH.rd 87 (.one dEs) (.one .bool) (fun y => (checkR y.1).2 = 0) (fun y => racy y.1) FH.none) f a m := nr rfl
theorem Gpa_ok : FHOK Try.prog Gpa := FH.mk_ok (by kernel_rfl) (fun y _ => plainM (pv_tup ⟨plV_vec _ _, plV_bool _, trivial⟩) ⟨plR_vec _ _ dEv _, trivial⟩) (fun y h => by
    have := f_left y.1 y.2.1.toNat h.1 (by omega)
    rwa [Int.toNat_of_nonneg h.2.1] at this) <| FH.rd_ok (by kernel_rfl) (fun y h => f_races y.1 h) FH.none_ok
theorem f_pass (l : List Ev) (hl : l.length ≤ 100) : FnOK Try.prog 88 [dEs.emb l] [] (.tup [dEs.emb (passF l.length 0 l false).1, .bool (passF l.length 0 l false).2]) [] := by
  refine fn_walkF c88 w88 Gpa_ok rfl ?_
  unfold j88
  simp only [go_sem, ↓reduceIte, Nat.reduceAdd, Nat.reduceMul, Nat.reduceSub, Nat.reduceLT, Nat.reduceLeDiff, Nat.reduceEqDiff, Int.reduceToNat, Int.reduceEq, Int.reduceLT, Int.reduceLE, reduceCtorEq, Gpa_eq]
  refine loopF (Nat × List Ev × Bool) (fun s => [.int .i64 s.1, dEs.emb s.2.1, .bool s.2.2]) (fun _ => []) (fun s => s.1 ≤ s.2.1.length ∧ s.2.1.length ≤ 100 ∧ passF (s.2.1.length - s.1) s.1 s.2.1 s.2.2 = passF l.length 0 l false) (fun s => s.2.1.length - s.1) (0, l, false) ⟨by simp, hl, by simp⟩ ?_ rfl ?_
  · simp only [go_sem, ↓reduceIte, Nat.reduceAdd, Nat.reduceMul, Nat.reduceSub, Nat.reduceLT, Nat.reduceLeDiff, Nat.reduceEqDiff, Int.reduceToNat, Int.reduceEq, Int.reduceLT, Int.reduceLE, reduceCtorEq]
  rintro ⟨i, L, b⟩ ⟨hi, hL, hp⟩
  simp only at hi hL hp
  by_cases h1 : i < L.length
  · have h1' : (i : Int) < L.length := by omega
    have h1000 : L.length ≤ 1000 := by omega
    have h0 : 0 ≤ (i : Int) := by omega
    unfold j88_1
    simp only [go_sem, ↓reduceIte, Nat.reduceAdd, Nat.reduceMul, Nat.reduceSub, Nat.reduceLT, Nat.reduceLeDiff, Nat.reduceEqDiff, Int.reduceToNat, Int.reduceEq, Int.reduceLT, Int.reduceLE, reduceCtorEq, Gpa_eq, h1, h1', h1000, h0]
    rw [show L.length - i = (L.length - (i + 1)) + 1 by omega, passF] at hp
    have hc := cut_len h1
    refine ⟨fun h => h, fun h => ⟨(i, cut L i, true), ⟨?_, ?_, ?_⟩, ?_, rfl, rfl, rfl⟩, fun h => ⟨(i + 1, L, b), ⟨h1, hL, ?_⟩, ?_, IntWalk.i64_in _ (by omega), rfl, rfl⟩⟩
    · simp only; omega
    · simp only; omega
    · simp only
      rw [if_pos (show good (cut L i) = true from h)] at hp
      rw [← hp, hc]
      congr 1; omega
    · simp only; omega
    · rw [if_neg (by show ¬ good (cut L i) = true; unfold good; rw [h]; simp)] at hp
      exact hp
    · simp only; omega
  · have h1' : ¬ (i : Int) < L.length := by omega
    unfold j88_1
    simp only [go_sem, ↓reduceIte, Nat.reduceAdd, Nat.reduceMul, Nat.reduceSub, Nat.reduceLT, Nat.reduceLeDiff, Nat.reduceEqDiff, Int.reduceToNat, Int.reduceEq, Int.reduceLT, Int.reduceLE, reduceCtorEq, h1']
    unfold j88_2
    simp only [go_sem, ↓reduceIte, Nat.reduceAdd, Nat.reduceMul, Nat.reduceSub, Nat.reduceLT, Nat.reduceLeDiff, Nat.reduceEqDiff, Int.reduceToNat, Int.reduceEq, Int.reduceLT, Int.reduceLE, reduceCtorEq]
    rw [show L.length - i = 0 by omega, passF] at hp
    rw [← hp]
/-- Passes until nothing is left out. -/
def minF (L : List Ev) : List Ev := if h : (passF L.length 0 L false).2 = true then minF (passF L.length 0 L false).1 else (passF L.length 0 L false).1
termination_by L.length
decreasing_by
  have := (passF_spec L.length 0 L false (by omega)).2 h
  simp only [Bool.false_eq_true, false_or] at this
  exact this
theorem minF_yes {L : List Ev} (h : (passF L.length 0 L false).2 = true) : minF L = minF (passF L.length 0 L false).1 := by rw [minF, dif_pos h]
theorem minF_no {L : List Ev} (h : ¬ (passF L.length 0 L false).2 = true) : minF L = (passF L.length 0 L false).1 := by rw [minF, dif_neg h]
theorem min_step {L M : List Ev} (hM : M.length ≤ 100) (hm : (if true = true then minF M else M) = minF L) :
    ∃ j : Bool × List Ev, (j.2.length ≤ 100 ∧ (if j.1 = true then minF j.2 else j.2) = minF L) ∧ (if j.1 = true then j.2.length + 1 else 0) < M.length + 1 ∧ (passF M.length 0 M false).2 = j.1 ∧ SV.lst 3 dEv.dft dEv.emb (passF M.length 0 M false).1 = SV.lst 3 dEv.dft dEv.emb j.2 := by
  have hs := passF_spec M.length 0 M false (by omega)
  rw [if_pos rfl] at hm
  refine ⟨((passF M.length 0 M false).2, (passF M.length 0 M false).1), ⟨by simp only; omega, ?_⟩, ?_, rfl, rfl⟩
  · simp only
    by_cases h : (passF M.length 0 M false).2 = true
    · rw [if_pos h, ← minF_yes h, hm]
    · rw [if_neg h, ← minF_no h, hm]
  · simp only
    split
    · rename_i h
      have := hs.2 h
      simp only [Bool.false_eq_true, false_or] at this
      omega
    · omega
abbrev dOEs : DT (Option (List Ev)) := DT.slo 3 dEv
/-- What Min tells. -/
def minO (o : Option (List Ev)) : Option (List Ev) × Int :=
  if (checkR (o.getD [])).2 = 0 then (if racy (o.getD []) = true then (some (minF (o.getD [])), 0) else (none, 7)) else (none, (checkR (o.getD [])).2)
def j36_1 : JC :=
  (.seq (.seq (.ops <|
  qo 20 (.mv (.t 6)) <|
  .nil)
  (.cond (.t 20)
  .skip
  (.exit 0)))
  (.block 1 (.ops <|
  qo 22 (.mv (.t 0)) <|
  eo 23 (.call 88 [(.t 22)]) <|
  qo 21 (.mv (.t 23)) <|
  qo 24 (.ext 0 (.t 21)) <|
  .prune [21, 24] <|
  qo 25 (.ext 1 (.t 21)) <|
  qo 0 (.mv (.t 24)) <|
  qo 6 (.mv (.t 25)) <|
  .nil)))
def j36_2 : JC :=
  (.prune [0] (.seq (.ops <|
  qo 26 (.mv (.t 0)) <|
  qo 2 (.mv (.t 26)) <|
  qo 3 (.mv (I 0)) <|
  .nil)
  .ret))
def j36 : JC :=
  (.seq (.ops <|
  qo 2 (.mv (.c .nils)) <|
  qo 3 (.mv (I 0)) <|
  .nil)
  (.seq (.seq (.ops <|
  qo 8 (.mv (.t 0)) <|
  eo 9 (.call 44 [(.t 8)]) <|
  qo 7 (.mv (.t 9)) <|
  qo 10 (.ext 0 (.t 7)) <|
  qo 11 (.ext 1 (.t 7)) <|
  qo 4 (.mv (.t 10)) <|
  qo 5 (.mv (.t 11)) <|
  .nil)
  (.seq (.ops <|
  qo 12 (.mv (.t 5)) <|
  qo 13 (.cmp .neq (.t 12) (I 0)) <|
  .nil)
  (.prune [13, 5, 0] (.cond (.t 13)
  (.seq (.ops <|
  qo 14 (.mv (.t 5)) <|
  qo 2 (.mv (.c .nils)) <|
  qo 3 (.mv (.t 14)) <|
  .nil)
  .ret)
  .skip))))
  (.prune [0] (.seq (.seq (.ops <|
  qo 15 (.mv (.t 0)) <|
  eo 16 (.call 87 [(.t 15)]) <|
  qo 17 (.nt (.t 16)) <|
  .nil)
  (.cond (.t 17)
  (.seq (.ops <|
  qo 2 (.mv (.c .nils)) <|
  qo 3 (.mv (I 7)) <|
  .nil)
  .ret)
  .skip))
  (.seq (.ops <|
  qo 18 (.mv (.t 0)) <|
  eo 19 (.call 54 [(.t 18)]) <|
  qo 0 (.mv (.t 19)) <|
  .nil)
  (.seq (.seq (.ops <|
  qo 6 (.mv (B true)) <|
  .nil)
  (.frz 0 dEs.frz <| .prune [6, 0] (.block 0 (.loop [] [6, 0] j36_1))))
  j36_2))))))
theorem c36 : fnIs Try.prog qall 36 = some (j36.flat, [.tmp 2, .tmp 3], 27) := by kernel_rfl
theorem w36 : j36.wf 27 = true := by kernel_rfl
def Gmi (f : FuncId) (a : List SV) (m : List Res) : Sx.Call := (FH.rd 44 (.one dEs) (.two .int .int) (fun _ => True) (fun y => (playedF y.1).2) <|
  FH.rd 87 (.one dEs) (.one .bool) (fun y => (checkR y.1).2 = 0) (fun y => racy y.1) <|
  FH.mk 54 (.one dEs) (fun y => y.1.length ≤ 1000000) (fun y => .vec 0 y.1.length) (fun y => [.vec 26 3 (y.1.map dEv.emb)]) <|
  FH.pz 88 (.one dEs) (DP.two dEs .bool) (fun y => y.1.length ≤ 100) (fun y => passF y.1.length 0 y.1 false) FH.none) f a m
theorem Gmi_eq (f : FuncId) (a : List SV) (m : List Res) : Gmi f a m = (FH.rd 44 (.one dEs) (.two .int .int) (fun _ => True) (fun y => (playedF y.1).2) <|
  FH.rd 87 (.one dEs) (.one .bool) (fun y => (checkR y.1).2 = 0) (fun y => racy y.1) <|
  FH.mk 54 (.one dEs) (fun y => y.1.length ≤ 1000000) (fun y => .vec 0 y.1.length) (fun y => [.vec 26 3 (y.1.map dEv.emb)]) <|
  FH.pz 88 (.one dEs) (DP.two dEs .bool) (fun y => y.1.length ≤ 100) (fun y => passF y.1.length 0 y.1 false) FH.none) f a m := nr rfl
theorem Gmi_ok : FHOK Try.prog Gmi := FH.rd_ok (by kernel_rfl) (fun y _ => f_Check y.1) <| FH.rd_ok (by kernel_rfl) (fun y h => f_races y.1 h) <|
  FH.mk_ok (by kernel_rfl) (fun y _ => plainM (pv_vec _ _) ⟨plR_vec _ _ dEv _, trivial⟩) (fun y h => f_CloneEv y.1 h) <|
  FH.pz_ok (by kernel_rfl) (fun y h => f_pass y.1 h) FH.none_ok
theorem f_Min (o : Option (List Ev)) : FnOK Try.prog 36 [dOEs.emb o] [] (.tup [dOEs.emb (minO o).1, .int .i64 (minO o).2]) [] := by
  refine fn_walkF c36 w36 Gmi_ok rfl ?_
  unfold j36
  have he : (playedF (o.getD [])).2.2 = (checkR (o.getD [])).2 := err_same
  unfold minO
  by_cases h : (checkR (o.getD [])).2 = 0
  · have hl := ok_len h
    rw [if_pos h]
    by_cases hr : racy (o.getD []) = true
    · rw [if_pos hr]
      have h6 : (o.getD []).length ≤ 1000000 := by omega
      generalize hL : o.getD [] = L at h hl hr he h6 ⊢
      simp only [go_sem, ↓reduceIte, Nat.reduceAdd, Nat.reduceMul, Nat.reduceSub, Nat.reduceLT, Nat.reduceLeDiff, Nat.reduceEqDiff, Int.reduceToNat, Int.reduceEq, Int.reduceLT, Int.reduceLE, reduceCtorEq, Gmi_eq, he, h, hr, h6, hL]
      refine loopF (Bool × List Ev) (fun s => [.bool s.1, dEs.emb s.2]) (fun _ => [.dead]) (fun s => s.2.length ≤ 100 ∧ (if s.1 = true then minF s.2 else s.2) = minF L) (fun s => if s.1 = true then s.2.length + 1 else 0) (true, L) ⟨by simp only; omega, rfl⟩ ?_ rfl ?_
      · simp only [go_sem, ↓reduceIte, Nat.reduceAdd, Nat.reduceMul, Nat.reduceSub, Nat.reduceLT, Nat.reduceLeDiff, Nat.reduceEqDiff, Int.reduceToNat, Int.reduceEq, Int.reduceLT, Int.reduceLE, reduceCtorEq]
      rintro ⟨b, M⟩ ⟨hM, hm⟩
      simp only at hM hm
      cases b with
      | true =>
        unfold j36_1
        simp only [go_sem, ↓reduceIte, Nat.reduceAdd, Nat.reduceMul, Nat.reduceSub, Nat.reduceLT, Nat.reduceLeDiff, Nat.reduceEqDiff, Int.reduceToNat, Int.reduceEq, Int.reduceLT, Int.reduceLE, reduceCtorEq, Gmi_eq, hM]
        exact min_step hM hm
      | false =>
        unfold j36_1
        simp only [go_sem, ↓reduceIte, Nat.reduceAdd, Nat.reduceMul, Nat.reduceSub, Nat.reduceLT, Nat.reduceLeDiff, Nat.reduceEqDiff, Int.reduceToNat, Int.reduceEq, Int.reduceLT, Int.reduceLE, reduceCtorEq]
        unfold j36_2
        simp only [go_sem, ↓reduceIte, Nat.reduceAdd, Nat.reduceMul, Nat.reduceSub, Nat.reduceLT, Nat.reduceLeDiff, Nat.reduceEqDiff, Int.reduceToNat, Int.reduceEq, Int.reduceLT, Int.reduceLE, reduceCtorEq]
        rw [← hm]
        rfl
    · rw [if_neg hr]
      have hr' : racy (o.getD []) = false := by simpa using hr
      simp only [go_sem, ↓reduceIte, Nat.reduceAdd, Nat.reduceMul, Nat.reduceSub, Nat.reduceLT, Nat.reduceLeDiff, Nat.reduceEqDiff, Int.reduceToNat, Int.reduceEq, Int.reduceLT, Int.reduceLE, reduceCtorEq, Gmi_eq, he, h, hr']
  · rw [if_neg h]
    simp only [go_sem, ↓reduceIte, Nat.reduceAdd, Nat.reduceMul, Nat.reduceSub, Nat.reduceLT, Nat.reduceLeDiff, Nat.reduceEqDiff, Int.reduceToNat, Int.reduceEq, Int.reduceLT, Int.reduceLE, reduceCtorEq, Gmi_eq, he, h]
def j37_1 : JC :=
  (.seq (.seq (.ops <|
  qo 7 (.mv (.t 4)) <|
  qo 8 (.mv (.t 0)) <|
  qo 9 (.len (.t 8)) <|
  qo 10 (.cmp .lss (.t 7) (.t 9)) <|
  .nil)
  (.cond (.t 10)
  .skip
  (.exit 2)))
  (.seq (.block 3 (.seq (.dops <|
  .prune [0, 4, 3] <|
  qo 13 (.mv (.t 0)) <|
  qo 14 (.mv (.t 4)) <|
  qo 15 (.slc 3 (.t 13) none (some (.t 14)) none) <|
  eo 16 (.call 38 [(.t 15)]) <|
  .prune [0, 4, 16, 3] <|
  qo 17 (.mv (.t 0)) <|
  qo 18 (.mv (.t 4)) <|
  qo 19 (.ar .add (.t 18) (I 1)) <|
  qo 20 (.slc 3 (.t 17) (some (.t 19)) none none) <|
  eo 21 (.app 26 3 24 (.t 16) (.t 20)) <|
  qo 5 (.mv (.t 21)) <|
  .nil)
  (.frz 5 dEs.frz <| .prune [5, 4, 0, 3] (.seq (.ops <|
  qo 22 (.mv (.t 5)) <|
  eo 23 (.call 21 [(.t 22)]) <|
  qo 24 (.cmp .eql (.t 23) (I 0)) <|
  qo 25 (.mv (.t 24)) <|
  .prune [25, 5, 4, 0, 3] <|
  .sc false 30 25 (qo 26 (.mv (.t 5)) <|
  eo 27 (.call 29 [(.t 26)]) <|
  qo 28 (.len (.t 27)) <|
  qo 29 (.cmp .gtr (.t 28) (I 0)) <|
  .nil) (.t 29) <|
  .nil)
  (.prune [30, 5, 4, 0, 3] (.cond (.t 30)
  (.seq (.ops <|
  qo 31 (.mv (.t 5)) <|
  qo 0 (.mv (.t 31)) <|
  qo 3 (.mv (B true)) <|
  .nil)
  (.ops <|
  .prune [4, 0, 3] <|
  qo 32 (.mv (.t 4)) <|
  qo 33 (.ar .sub (.t 32) (I 1)) <|
  qo 4 (.mv (.t 33)) <|
  .nil))
  .skip))))))
  (.prune [4, 0, 3] (.ops <|
  qo 11 (.mv (.t 4)) <|
  qo 12 (.ar .add (.t 11) (I 1)) <|
  qo 4 (.mv (.t 12)) <|
  .nil))))
def j37_2 : JC :=
  (.seq (.seq (.ops <|
  qo 6 (.mv (.t 3)) <|
  .nil)
  (.cond (.t 6)
  .skip
  (.exit 0)))
  (.block 1 (.seq (.ops <|
  qo 3 (.mv (B false)) <|
  .nil)
  (.seq (.ops <|
  qo 4 (.mv (I 0)) <|
  .nil)
  (.block 2 (.vecs 0 26 3 (.loop [] [4, 0, 3] j37_1)))))))
def j37_3 : JC :=
  (.prune [0] (.seq (.ops <|
  qo 34 (.mv (.t 0)) <|
  qo 2 (.mv (.t 34)) <|
  .nil)
  (.vecs 2 26 3 .ret)))
def j37 : JC :=
  (.seq (.ops <|
  qo 2 (.mv (.c .nils)) <|
  .nil)
  (.seq (.seq (.ops <|
  qo 3 (.mv (B true)) <|
  .nil)
  (.block 0 (.vecs 0 26 3 (.loop [] [3, 0] j37_2))))
  j37_3))
theorem c37 : fnIs Try.prog (qbut [38]) 37 = some (j37.flat, [.tmp 2], 35) := by kernel_rfl
theorem w37 : j37.wf 35 = true := by kernel_rfl
def Grm (f : FuncId) (a : List SV) (m : List Res) : Sx.Call := (FH.mk 38 (.one dEs) (fun y => y.1.length ≤ 1000000) (fun y => .vec 0 y.1.length) (fun y => [.vec 26 3 (y.1.map dEv.emb)]) <|
  FH.rd 21 (.one dEs) (.one .int) (fun _ => True) (fun y => (checkR y.1).2) <|
  FH.pz 29 (.one dEs) (DP.one dRcs) (fun y => (checkR y.1).2 = 0) (fun y => racesF y.1) FH.none) f a m
theorem Grm_eq (f : FuncId) (a : List SV) (m : List Res) : Grm f a m = (FH.mk 38 (.one dEs) (fun y => y.1.length ≤ 1000000) (fun y => .vec 0 y.1.length) (fun y => [.vec 26 3 (y.1.map dEv.emb)]) <|
  FH.rd 21 (.one dEs) (.one .int) (fun _ => True) (fun y => (checkR y.1).2) <|
  FH.pz 29 (.one dEs) (DP.one dRcs) (fun y => (checkR y.1).2 = 0) (fun y => racesF y.1) FH.none) f a m := nr rfl
theorem Grm_ok : FHOK Try.prog Grm := FH.mk_ok (by kernel_rfl) (fun y _ => plainM (pv_vec _ _) ⟨plR_vec _ _ dEv _, trivial⟩) (fun y h => f_CopyEv y.1 h) <| FH.rd_ok (by kernel_rfl) (fun y _ => f_May y.1) <|
  FH.pz_ok (by kernel_rfl) (fun y h => (f_RRaces y.1 h).holdL) FH.none_ok
theorem f_RMin (l : List Ev) (hl : l.length ≤ 100) : FnOK Try.prog 37 [dEs.emb l] [] (dEs.emb (minF l)) [] := by
  refine fn_walkF c37 w37 Grm_ok rfl ?_
  unfold j37
  simp only [go_sem, ↓reduceIte, Nat.reduceAdd, Nat.reduceMul, Nat.reduceSub, Nat.reduceLT, Nat.reduceLeDiff, Nat.reduceEqDiff, Int.reduceToNat, Int.reduceEq, Int.reduceLT, Int.reduceLE, reduceCtorEq, Grm_eq]
  refine loopF (Bool × List Ev) (fun s => [.bool s.1, dEs.emb s.2]) (fun _ => []) (fun s => s.2.length ≤ 100 ∧ (if s.1 = true then minF s.2 else s.2) = minF l) (fun s => if s.1 = true then s.2.length + 1 else 0) (true, l) ⟨hl, rfl⟩ ?_ rfl ?_
  · simp only [go_sem, ↓reduceIte, Nat.reduceAdd, Nat.reduceMul, Nat.reduceSub, Nat.reduceLT, Nat.reduceLeDiff, Nat.reduceEqDiff, Int.reduceToNat, Int.reduceEq, Int.reduceLT, Int.reduceLE, reduceCtorEq]
  rintro ⟨b, M⟩ ⟨hM, hm⟩
  simp only at hM hm
  cases b with
  | true =>
    unfold j37_2
    simp only [go_sem, ↓reduceIte, Nat.reduceAdd, Nat.reduceMul, Nat.reduceSub, Nat.reduceLT, Nat.reduceLeDiff, Nat.reduceEqDiff, Int.reduceToNat, Int.reduceEq, Int.reduceLT, Int.reduceLE, reduceCtorEq, Grm_eq]
    refine loopF (Nat × List Ev × Bool) (fun s => [.int .i64 s.1, dEs.emb s.2.1, .bool s.2.2]) (fun _ => []) (fun s => s.1 ≤ s.2.1.length ∧ s.2.1.length ≤ 100 ∧ passF (s.2.1.length - s.1) s.1 s.2.1 s.2.2 = passF M.length 0 M false) (fun s => s.2.1.length - s.1) (0, M, false) ⟨by simp, hM, by simp⟩ ?_ rfl ?_
    · simp only [go_sem, ↓reduceIte, Nat.reduceAdd, Nat.reduceMul, Nat.reduceSub, Nat.reduceLT, Nat.reduceLeDiff, Nat.reduceEqDiff, Int.reduceToNat, Int.reduceEq, Int.reduceLT, Int.reduceLE, reduceCtorEq]
    rintro ⟨i, L, c⟩ ⟨hi, hL, hp⟩
    simp only at hi hL hp
    by_cases h1 : i < L.length
    · have h1' : (i : Int) < L.length := by omega
      have h0 : 0 ≤ (i : Int) := by omega
      have hw : IntKind.i64.wrap ((i : Int) + 1) = ((i + 1 : Nat) : Int) := IntWalk.i64_in _ (by omega)
      unfold j37_1
      simp only [go_sem, ↓reduceIte, Nat.reduceAdd, Nat.reduceMul, Nat.reduceSub, Nat.reduceLT, Nat.reduceLeDiff, Nat.reduceEqDiff, Int.reduceToNat, Int.reduceEq, Int.reduceLT, Int.reduceLE, reduceCtorEq, Grm_eq, h1, h1', h0, hw]
      have hcut : L.take i ++ (L.take L.length).drop (i + 1) = cut L i := by rw [List.take_length]; rfl
      have hc := cut_len h1
      have hrc : decide (0 < ((racesF (cut L i)).length : Int)) = racy (cut L i) := by
        unfold racy
        rw [decide_eq_decide]
        omega
      have hww : IntKind.i64.wrap (IntKind.i64.wrap ((i : Int) - 1) + 1) = (i : Int) := by
        rw [IntWalk.i64_in ((i : Int) - 1) (by omega), IntWalk.i64_in _ (by omega)]; omega
      rw [hcut, hrc, hww]
      rw [show L.length - i = (L.length - (i + 1)) + 1 by omega, passF] at hp
      refine ⟨⟨by omega, by omega⟩, by rw [List.length_take]; omega, by omega, ⟨by omega, by omega⟩, ?_, fun h => h, fun h => ⟨(i, cut L i, true), ⟨?_, ?_, ?_⟩, ?_, rfl, rfl, rfl⟩, fun h => ⟨(i + 1, L, c), ⟨h1, hL, ?_⟩, ?_, rfl, rfl, rfl⟩⟩
      · rw [List.length_take, List.length_drop, List.length_take]; omega
      · simp only; omega
      · simp only; omega
      · simp only
        rw [if_pos (show good (cut L i) = true from h)] at hp
        rw [← hp, hc]
        congr 1; omega
      · simp only; omega
      · rw [if_neg (by show ¬ good (cut L i) = true; unfold good; rw [h]; simp)] at hp
        exact hp
      · simp only; omega
    · have h1' : ¬ (i : Int) < L.length := by omega
      unfold j37_1
      simp only [go_sem, ↓reduceIte, Nat.reduceAdd, Nat.reduceMul, Nat.reduceSub, Nat.reduceLT, Nat.reduceLeDiff, Nat.reduceEqDiff, Int.reduceToNat, Int.reduceEq, Int.reduceLT, Int.reduceLE, reduceCtorEq, h1']
      rw [show L.length - i = 0 by omega, passF] at hp
      obtain ⟨j, q1, q2, q3, q4⟩ := min_step hM hm
      rw [← hp] at q3 q4
      exact ⟨j, q1, q2, q3, q4⟩
  | false =>
    unfold j37_2
    simp only [go_sem, ↓reduceIte, Nat.reduceAdd, Nat.reduceMul, Nat.reduceSub, Nat.reduceLT, Nat.reduceLeDiff, Nat.reduceEqDiff, Int.reduceToNat, Int.reduceEq, Int.reduceLT, Int.reduceLE, reduceCtorEq]
    unfold j37_3
    simp only [go_sem, ↓reduceIte, Nat.reduceAdd, Nat.reduceMul, Nat.reduceSub, Nat.reduceLT, Nat.reduceLeDiff, Nat.reduceEqDiff, Int.reduceToNat, Int.reduceEq, Int.reduceLT, Int.reduceLE, reduceCtorEq]
    rw [← hm]
    rfl
end Go.Proofs.Ytjipnjimopekjaa.Sk
