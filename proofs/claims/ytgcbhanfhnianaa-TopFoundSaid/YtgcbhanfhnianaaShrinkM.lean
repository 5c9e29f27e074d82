/- A trace without an event. Conditions: none. -/
import Derived.Test.YtgcbhanfhnianaaTraceR
import Derived.Test.YtgcbhanfhnianaaCpy
import Derived.Test.YtgcbhanfhnianaaShDel
import Derived.Test.YtgcbhanfhnianaaRaceS
import Derived.Test.YtgcbhanfhnianaaSecR
section
set_option linter.unusedSimpArgs false
set_option linter.unusedVariables false
set_option maxRecDepth 100000
open Go Go.Sx Go.Proofs
namespace Go.Proofs.Ytgcbhanfhnianaa.Sk
open Go.Proofs.Ytgcbhanfhnianaa.D Go.Proofs.Ytgcbhanfhnianaa.Tr Go.Proofs.Ytgcbhanfhnianaa.Cp
theorem ev_cells : OneCells dEv := by
  intro x ε cs h
  rw [ev_emb] at h
  simp only [SatC, SatL] at h
  obtain ⟨a, b, rfl, rfl, c, d, rfl, rfl, e, f, rfl, rfl, rfl⟩ := h
  intro v hv
  simp only [List.mem_append, List.mem_cons, List.not_mem_nil, or_false] at hv
  rcases hv with rfl | rfl | rfl <;> rfl

def j127 : JC :=
  (.seq (.ops <|
  qo 4 (.mv (.c .nils)) <|
  qo 5 (.mv (B false)) <|
  .nil)
  (.seq (.ops <|
  qo 8 (.mv (.t 0)) <|
  eo 9 (.call 66 [(.t 8)]) <|
  qo 10 (.mv (.t 1)) <|
  qo 11 (.mv (.t 1)) <|
  qo 12 (.ar .add (.t 11) (I 1)) <|
  eo 13 (.call 151 [(.t 9), (.t 10), (.t 12)]) <|
  qo 0 (.mv (.t 13)) <|
  .nil)
  (.seq (.ops <|
  .prune [0] <|
  qo 15 (.mv (.t 0)) <|
  eo 16 (.call 59 [(.t 15)]) <|
  qo 14 (.mv (.t 16)) <|
  qo 17 (.ext 0 (.t 14)) <|
  qo 18 (.ext 1 (.t 14)) <|
  qo 6 (.mv (.t 17)) <|
  qo 7 (.mv (.t 18)) <|
  .nil)
  (.prune [0, 7] (.seq (.ops <|
  qo 19 (.mv (.t 0)) <|
  qo 20 (.mv (.t 7)) <|
  qo 21 (.cmp .eql (.t 20) (I 0)) <|
  qo 4 (.mv (.t 19)) <|
  qo 5 (.mv (.t 21)) <|
  .nil)
  .ret)))))
theorem c127 : fnIs Try.prog qall 127 = some (j127.flat, [.tmp 4, .tmp 5], 22) := by kernel_rfl
theorem w127 : j127.wf 22 = true := by kernel_rfl
def Gle (f : FuncId) (a : List SV) (m : List Res) : Sx.Call := (FH.mk 66 (.one dEs) (fun y => y.1.length ≤ 1000000) (fun y => .vec 0 y.1.length) (fun y => [.vec 35 3 (y.1.map dEv.emb)]) <|
  FH.de 151 dEv 3 <| FH.rd 59 (.one dEs) (.two .int .int) (fun _ => True) (fun y => (playedF y.1).2) FH.none) f a m
theorem Gle_eq (f : FuncId) (a : List SV) (m : List Res) : Gle f a m = (FH.mk 66 (.one dEs) (fun y => y.1.length ≤ 1000000) (fun y => .vec 0 y.1.length) (fun y => [.vec 35 3 (y.1.map dEv.emb)]) <|
  FH.de 151 dEv 3 <| FH.rd 59 (.one dEs) (.two .int .int) (fun _ => True) (fun y => (playedF y.1).2) FH.none) f a m := nr rfl
theorem Gle_ok : FHOK Try.prog Gle := FH.mk_ok (by kernel_rfl) (fun y _ => plainM (pv_vec _ _) ⟨plR_vec _ _ dEv _, trivial⟩) (fun y h => f_CloneEv y.1 h) <|
  FH.de_ok Sh.dels3 ev_cells (by decide) <| FH.rd_ok (by kernel_rfl) (fun y _ => f_Check y.1) FH.none_ok
def cut (l : List Ev) (i : Nat) : List Ev := delL l i (i + 1)
theorem cut_len {l : List Ev} {i : Nat} (hi : i < l.length) : (cut l i).length = l.length - 1 := by
  rw [cut, delL_length (by omega) (by omega)]; omega
theorem f_left (l : List Ev) (i : Nat) (hl : l.length ≤ 1000) (hi : i < l.length) : FnOK Try.prog 127 [dEs.emb l, .int .i64 i] [] (.tup [.vec 0 (l.length - 1), .bool (decide ((checkR (cut l i)).2 = 0))]) [.vec 35 3 ((cut l i).map dEv.emb)] := by
  have hw : IntKind.i64.wrap ((i : Int) + 1) = ((i + 1 : Nat) : Int) := IntWalk.i64_in _ (by omega)
  refine fn_walkF c127 w127 Gle_ok rfl ?_
  unfold j127
  simp only [go_sem, ↓reduceIte, Nat.reduceAdd, Nat.reduceMul, Nat.reduceSub, Nat.reduceLT, Nat.reduceLeDiff, Nat.reduceEqDiff, Int.reduceToNat, Int.reduceEq, Int.reduceLT, Int.reduceLE, reduceCtorEq, Gle_eq, hw]
  have he : (playedF (delL l i (i + 1))).2.2 = (checkR (cut l i)).2 := by rw [played_check]; rfl
  rw [he, show i + 1 - i = 1 by omega]
  exact ⟨by omega, by omega, rfl, rfl⟩
end Go.Proofs.Ytgcbhanfhnianaa.Sk
end
section
set_option linter.unusedSimpArgs false
set_option linter.unusedVariables false
set_option maxRecDepth 100000
open Go Go.Sx Go.Proofs
namespace Go.Proofs.Ytgcbhanfhnianaa.Sk
open Go.Proofs.Ytgcbhanfhnianaa.D Go.Proofs.Ytgcbhanfhnianaa.Tr Go.Proofs.Ytgcbhanfhnianaa.Cp Go.Proofs.Ytgcbhanfhnianaa.Rc

def j82 : JC :=
  (.seq (.ops <|
  qo 2 (.mv (B false)) <|
  .nil)
  (.seq (.ops <|
  qo 6 (.mv (.t 0)) <|
  eo 7 (.call 26 [(.t 6)]) <|
  qo 5 (.mv (.t 7)) <|
  qo 8 (.ext 0 (.t 5)) <|
  qo 9 (.ext 1 (.t 5)) <|
  qo 3 (.mv (.t 8)) <|
  qo 4 (.mv (.t 9)) <|
  .nil)
  (.seq (.ops <|
  .prune [3] <|
  qo 10 (.mv (.t 3)) <|
  qo 11 (.len (.t 10)) <|
  qo 12 (.cmp .gtr (.t 11) (I 0)) <|
  qo 2 (.mv (.t 12)) <|
  .nil)
  .ret)))
theorem c82 : fnIs Try.prog qall 82 = some (j82.flat, [.tmp 2], 13) := by kernel_rfl
theorem w82 : j82.wf 13 = true := by kernel_rfl
def Grs (f : FuncId) (a : List SV) (m : List Res) : Sx.Call := (FH.mk 26 (.one dEs) (fun _ => True) (fun y => .tup [.vec 0 (tellF (fun r => r.b) y.1).length, .int .i64 (playedF y.1).2.2]) (fun y => [.vec 3 1 ((tellF (fun r => r.b) y.1).map DT.int.emb)]) FH.none) f a m
theorem Grs_eq (f : FuncId) (a : List SV) (m : List Res) : Grs f a m = (FH.mk 26 (.one dEs) (fun _ => True) (fun y => .tup [.vec 0 (tellF (fun r => r.b) y.1).length, .int .i64 (playedF y.1).2.2]) (fun y => [.vec 3 1 ((tellF (fun r => r.b) y.1).map DT.int.emb)]) FH.none) f a m := nr rfl
theorem Grs_ok : FHOK Try.prog Grs := FH.mk_ok (by kernel_rfl) (fun y _ => plainM (pv_tup ⟨plV_vec _ _, plV_int _ _, trivial⟩) ⟨plR_vec _ _ DT.int _, trivial⟩) (fun y _ => f_Seconds y.1) FH.none_ok
def racy (l : List Ev) : Bool := decide (0 < (racesF l).length)
theorem tell_secs {l : List Ev} (hok : (checkR l).2 = 0) : tellF (fun r => r.b) l = secsR l := by
  have hp : (playedF l).2.2 = 0 := by rw [err_same]; exact hok
  rw [tellF, if_pos hp, SortP.compact_sorted secs_in]
  rfl
theorem secs_pos {l : List Ev} : 0 < (secsR l).length ↔ 0 < (racesF l).length := by
  rw [List.length_pos_iff_exists_mem, List.length_pos_iff_exists_mem]
  constructor
  · rintro ⟨x, hx⟩
    rw [secsR, SortP.mem_upTo] at hx
    obtain ⟨r, hr, _⟩ := List.mem_map.1 hx.1
    exact ⟨r, hr⟩
  · rintro ⟨r, hr⟩
    have hm : r.b ∈ (racesF l).map fun r => r.b := List.mem_map.2 ⟨r, hr, rfl⟩
    have := secs_in _ hm
    exact ⟨r.b, by rw [secsR, SortP.mem_upTo]; exact ⟨hm, this⟩⟩
theorem f_races (l : List Ev) (hok : (checkR l).2 = 0) : FnOK Try.prog 82 [dEs.emb l] [] (.bool (racy l)) [] := by
  refine fn_walkF c82 w82 Grs_ok rfl ?_
  unfold j82
  simp only [go_sem, ↓reduceIte, Nat.reduceAdd, Nat.reduceMul, Nat.reduceSub, Nat.reduceLT, Nat.reduceLeDiff, Nat.reduceEqDiff, Int.reduceToNat, Int.reduceEq, Int.reduceLT, Int.reduceLE, reduceCtorEq, Grs_eq]
  rw [tell_secs hok]
  unfold racy
  have := secs_pos (l := l)
  have e : (0 < ((secsR l).length : Int)) ↔ 0 < (racesF l).length := by omega
  exact decide_eq_decide.2 e
def j83_1 : JC :=
  (.seq (.seq (.ops <|
  qo 8 (.mv (.t 5)) <|
  qo 9 (.mv (.t 0)) <|
  qo 10 (.len (.t 9)) <|
  qo 11 (.cmp .lss (.t 8) (.t 10)) <|
  .nil)
  (.cond (.t 11)
  .skip
  (.exit 0)))
  (.block 1 (.seq (.seq (.ops <|
  .prune [0, 5, 4] <|
  qo 13 (.mv (.t 0)) <|
  qo 14 (.mv (.t 5)) <|
  eo 15 (.call 127 [(.t 13), (.t 14)]) <|
  qo 12 (.mv (.t 15)) <|
  .prune [12, 5, 0, 4] <|
  qo 16 (.ext 0 (.t 12)) <|
  qo 17 (.ext 1 (.t 12)) <|
  qo 6 (.mv (.t 16)) <|
  qo 7 (.mv (.t 17)) <|
  .nil)
  (.frz 6 dEs.frz <| .prune [7, 6, 5, 0, 4] (.seq (.ops <|
  qo 18 (.mv (.t 7)) <|
  qo 19 (.mv (.t 18)) <|
  .sc false 22 19 (qo 20 (.mv (.t 6)) <|
  eo 21 (.call 82 [(.t 20)]) <|
  .nil) (.t 21) <|
  .nil)
  (.prune [22, 6, 5, 0, 4] (.cond (.t 22)
  (.seq (.ops <|
  qo 23 (.mv (.t 6)) <|
  qo 0 (.mv (.t 23)) <|
  qo 4 (.mv (B true)) <|
  .nil)
  (.exit 1))
  .skip)))))
  (.prune [5, 0, 4] (.ops <|
  qo 24 (.mv (.t 5)) <|
  qo 25 (.ar .add (.t 24) (I 1)) <|
  qo 5 (.mv (.t 25)) <|
  .nil)))))
def j83_2 : JC :=
  (.prune [0, 4] (.seq (.ops <|
  qo 26 (.mv (.t 0)) <|
  qo 27 (.mv (.t 4)) <|
  qo 2 (.mv (.t 26)) <|
  qo 3 (.mv (.t 27)) <|
  .nil)
  .ret))
def j83 : JC :=
  (.seq (.ops <|
  qo 2 (.mv (.c .nils)) <|
  qo 3 (.mv (B false)) <|
  .nil)
  (.seq (.ops <|
  qo 4 (.mv (B false)) <|
  .nil)
  (.seq (.seq (.ops <|
  qo 5 (.mv (I 0)) <|
  .nil)
  (.block 0 (.loop [] [5, 0, 4] j83_1)))
  j83_2)))
theorem c83 : fnIs Try.prog qall 83 = some (j83.flat, [.tmp 2, .tmp 3], 28) := by kernel_rfl
theorem w83 : j83.wf 28 = true := by kernel_rfl
def good (x : List Ev) : Bool := decide ((checkR x).2 = 0) && racy x
def passF : Nat → Nat → List Ev → Bool → List Ev × Bool
  | 0, _, L, b => (L, b)
  | n + 1, i, L, b => if good (cut L i) = true then passF n i (cut L i) true else passF n (i + 1) L b
theorem passF_spec : ∀ (n i : Nat) (L : List Ev) (b : Bool), i + n = L.length → (passF n i L b).1.length ≤ L.length ∧ ((passF n i L b).2 = true → b = true ∨ (passF n i L b).1.length < L.length)
  | 0, i, L, b, _ => ⟨Nat.le_refl _, fun h => .inl h⟩
  | n + 1, i, L, b, h => by
    rw [passF]
    split
    · have hc := cut_len (l := L) (i := i) (by omega)
      have := passF_spec n i (cut L i) true (by omega)
      exact ⟨by omega, fun _ => .inr (by omega)⟩
    · exact passF_spec n (i + 1) L b (by omega)
def Gpa (f : FuncId) (a : List SV) (m : List Res) : Sx.Call := (FH.mk 127 (.two dEs .int) (fun y => y.1.length ≤ 1000 ∧ 0 ≤ y.2.1 ∧ y.2.1 < y.1.length) (fun y => .tup [.vec 0 (y.1.length - 1), .bool (decide ((checkR (cut y.1 y.2.1.toNat)).2 = 0))]) (fun y => [.vec 35 3 ((cut y.1 y.2.1.toNat).map dEv.emb)]) <|
  FH.rd 82 (.one dEs) (.one .bool) (fun y => (checkR y.1).2 = 0) (fun y => racy y.1) FH.none) f a m
theorem Gpa_eq (f : FuncId) (a : List SV) (m : List Res) : Gpa f a m = (FH.mk 127 (.two dEs .int) (fun y => y.1.length ≤ 1000 ∧ 0 ≤ y.2.1 ∧ y.2.1 < y.1.length) (fun y => .tup [.vec 0 (y.1.length - 1), .bool (decide ((checkR (cut y.1 y.2.1.toNat)).2 = 0))]) (fun y => [.vec 35 3 ((cut y.1 y.2.1.toNat).map dEv.emb)]) <|
  FH.rd 82 (.one dEs) (.one .bool) (fun y => (checkR y.1).2 = 0) (fun y => racy y.1) FH.none) f a m := nr rfl
theorem Gpa_ok : FHOK Try.prog Gpa := FH.mk_ok (by kernel_rfl) (fun y _ => plainM (pv_tup ⟨plV_vec _ _, plV_bool _, trivial⟩) ⟨plR_vec _ _ dEv _, trivial⟩) (fun y h => by
    have := f_left y.1 y.2.1.toNat h.1 (by omega)
    rwa [Int.toNat_of_nonneg h.2.1] at this) <| FH.rd_ok (by kernel_rfl) (fun y h => f_races y.1 h) FH.none_ok
theorem f_pass (l : List Ev) (hl : l.length ≤ 100) : FnOK Try.prog 83 [dEs.emb l] [] (.tup [dEs.emb (passF l.length 0 l false).1, .bool (passF l.length 0 l false).2]) [] := by
  refine fn_walkF c83 w83 Gpa_ok rfl ?_
  unfold j83
  simp only [go_sem, ↓reduceIte, Nat.reduceAdd, Nat.reduceMul, Nat.reduceSub, Nat.reduceLT, Nat.reduceLeDiff, Nat.reduceEqDiff, Int.reduceToNat, Int.reduceEq, Int.reduceLT, Int.reduceLE, reduceCtorEq, Gpa_eq]
  refine loopF (Nat × List Ev × Bool) (fun s => [.int .i64 s.1, dEs.emb s.2.1, .bool s.2.2]) (fun _ => []) (fun s => s.1 ≤ s.2.1.length ∧ s.2.1.length ≤ 100 ∧ passF (s.2.1.length - s.1) s.1 s.2.1 s.2.2 = passF l.length 0 l false) (fun s => s.2.1.length - s.1) (0, l, false) ⟨by simp, hl, by simp⟩ ?_ rfl ?_
  · simp only [go_sem, ↓reduceIte, Nat.reduceAdd, Nat.reduceMul, Nat.reduceSub, Nat.reduceLT, Nat.reduceLeDiff, Nat.reduceEqDiff, Int.reduceToNat, Int.reduceEq, Int.reduceLT, Int.reduceLE, reduceCtorEq]
  rintro ⟨i, L, b⟩ ⟨hi, hL, hp⟩
  simp only at hi hL hp
  by_cases h1 : i < L.length
  · have h1' : (i : Int) < L.length := by omega
    have h1000 : L.length ≤ 1000 := by omega
    have h0 : 0 ≤ (i : Int) := by omega
    unfold j83_1
    simp only [go_sem, ↓reduceIte, Nat.reduceAdd, Nat.reduceMul, Nat.reduceSub, Nat.reduceLT, Nat.reduceLeDiff, Nat.reduceEqDiff, Int.reduceToNat, Int.reduceEq, Int.reduceLT, Int.reduceLE, reduceCtorEq, Gpa_eq, h1, h1', h1000, h0]
    rw [show L.length - i = (L.length - (i + 1)) + 1 by omega, passF] at hp
    have hc := cut_len h1
    refine ⟨fun h => h, fun h => ⟨(i, cut L i, true), ⟨?_, ?_, ?_⟩, ?_, rfl, rfl, rfl⟩, fun h => ⟨(i + 1, L, b), ⟨h1, hL, ?_⟩, ?_, IntWalk.i64_in _ (by omega), rfl, rfl⟩⟩
    · simp only; omega
    · simp only; omega
    · simp only
      rw [if_pos (show good (cut L i) = true from h)] at hp
      rw [← hp, hc]
      congr 1; omega
    · simp only; omega
    · rw [if_neg (by show ¬ good (cut L i) = true; unfold good; rw [h]; simp)] at hp
      exact hp
    · simp only; omega
  · have h1' : ¬ (i : Int) < L.length := by omega
    unfold j83_1
    simp only [go_sem, ↓reduceIte, Nat.reduceAdd, Nat.reduceMul, Nat.reduceSub, Nat.reduceLT, Nat.reduceLeDiff, Nat.reduceEqDiff, Int.reduceToNat, Int.reduceEq, Int.reduceLT, Int.reduceLE, reduceCtorEq, h1']
    unfold j83_2
    simp only [go_sem, ↓reduceIte, Nat.reduceAdd, Nat.reduceMul, Nat.reduceSub, Nat.reduceLT, Nat.reduceLeDiff, Nat.reduceEqDiff, Int.reduceToNat, Int.reduceEq, Int.reduceLT, Int.reduceLE, reduceCtorEq]
    rw [show L.length - i = 0 by omega, passF] at hp
    rw [← hp]
def minF (L : List Ev) : List Ev := if h : (passF L.length 0 L false).2 = true then minF (passF L.length 0 L false).1 else (passF L.length 0 L false).1
termination_by L.length
decreasing_by
  have := (passF_spec L.length 0 L false (by omega)).2 h
  simp only [Bool.false_eq_true, false_or] at this
  exact this
theorem minF_yes {L : List Ev} (h : (passF L.length 0 L false).2 = true) : minF L = minF (passF L.length 0 L false).1 := by rw [minF, dif_pos h]
theorem minF_no {L : List Ev} (h : ¬ (passF L.length 0 L false).2 = true) : minF L = (passF L.length 0 L false).1 := by rw [minF, dif_neg h]
theorem min_step {L M : List Ev} (hM : M.length ≤ 100) (hm : (if true = true then minF M else M) = minF L) :
    ∃ j : Bool × List Ev, (j.2.length ≤ 100 ∧ (if j.1 = true then minF j.2 else j.2) = minF L) ∧ (if j.1 = true then j.2.length + 1 else 0) < M.length + 1 ∧ (passF M.length 0 M false).2 = j.1 ∧ SV.lst 3 dEv.dft dEv.emb (passF M.length 0 M false).1 = SV.lst 3 dEv.dft dEv.emb j.2 := by
  have hs := passF_spec M.length 0 M false (by omega)
  rw [if_pos rfl] at hm
  refine ⟨((passF M.length 0 M false).2, (passF M.length 0 M false).1), ⟨by simp only; omega, ?_⟩, ?_, rfl, rfl⟩
  · simp only
    by_cases h : (passF M.length 0 M false).2 = true
    · rw [if_pos h, ← minF_yes h, hm]
    · rw [if_neg h, ← minF_no h, hm]
  · simp only
    split
    · rename_i h
      have := hs.2 h
      simp only [Bool.false_eq_true, false_or] at this
      omega
    · omega
abbrev dOEs : DT (Option (List Ev)) := DT.slo 3 dEv
def minO (o : Option (List Ev)) : Option (List Ev) × Int :=
  if (checkR (o.getD [])).2 = 0 then (if racy (o.getD []) = true then (some (minF (o.getD [])), 0) else (none, 7)) else (none, (checkR (o.getD [])).2)
def j34_1 : JC :=
  (.seq (.seq (.ops <|
  qo 20 (.mv (.t 6)) <|
  .nil)
  (.cond (.t 20)
  .skip
  (.exit 0)))
  (.block 1 (.ops <|
  qo 22 (.mv (.t 0)) <|
  eo 23 (.call 83 [(.t 22)]) <|
  qo 21 (.mv (.t 23)) <|
  qo 24 (.ext 0 (.t 21)) <|
  .prune [21, 24] <|
  qo 25 (.ext 1 (.t 21)) <|
  qo 0 (.mv (.t 24)) <|
  qo 6 (.mv (.t 25)) <|
  .nil)))
def j34_2 : JC :=
  (.prune [0] (.seq (.ops <|
  qo 26 (.mv (.t 0)) <|
  qo 2 (.mv (.t 26)) <|
  qo 3 (.mv (I 0)) <|
  .nil)
  .ret))
def j34 : JC :=
  (.seq (.ops <|
  qo 2 (.mv (.c .nils)) <|
  qo 3 (.mv (I 0)) <|
  .nil)
  (.seq (.seq (.ops <|
  qo 8 (.mv (.t 0)) <|
  eo 9 (.call 59 [(.t 8)]) <|
  qo 7 (.mv (.t 9)) <|
  qo 10 (.ext 0 (.t 7)) <|
  qo 11 (.ext 1 (.t 7)) <|
  qo 4 (.mv (.t 10)) <|
  qo 5 (.mv (.t 11)) <|
  .nil)
  (.seq (.ops <|
  qo 12 (.mv (.t 5)) <|
  qo 13 (.cmp .neq (.t 12) (I 0)) <|
  .nil)
  (.prune [13, 5, 0] (.cond (.t 13)
  (.seq (.ops <|
  qo 14 (.mv (.t 5)) <|
  qo 2 (.mv (.c .nils)) <|
  qo 3 (.mv (.t 14)) <|
  .nil)
  .ret)
  .skip))))
  (.prune [0] (.seq (.seq (.ops <|
  qo 15 (.mv (.t 0)) <|
  eo 16 (.call 82 [(.t 15)]) <|
  qo 17 (.nt (.t 16)) <|
  .nil)
  (.cond (.t 17)
  (.seq (.ops <|
  qo 2 (.mv (.c .nils)) <|
  qo 3 (.mv (I 7)) <|
  .nil)
  .ret)
  .skip))
  (.seq (.ops <|
  qo 18 (.mv (.t 0)) <|
  eo 19 (.call 66 [(.t 18)]) <|
  qo 0 (.mv (.t 19)) <|
  .nil)
  (.seq (.seq (.ops <|
  qo 6 (.mv (B true)) <|
  .nil)
  (.frz 0 dEs.frz <| .prune [6, 0] (.block 0 (.loop [] [6, 0] j34_1))))
  j34_2))))))
theorem c34 : fnIs Try.prog qall 34 = some (j34.flat, [.tmp 2, .tmp 3], 27) := by kernel_rfl
theorem w34 : j34.wf 27 = true := by kernel_rfl
def Gmi (f : FuncId) (a : List SV) (m : List Res) : Sx.Call := (FH.rd 59 (.one dEs) (.two .int .int) (fun _ => True) (fun y => (playedF y.1).2) <|
  FH.rd 82 (.one dEs) (.one .bool) (fun y => (checkR y.1).2 = 0) (fun y => racy y.1) <|
  FH.mk 66 (.one dEs) (fun y => y.1.length ≤ 1000000) (fun y => .vec 0 y.1.length) (fun y => [.vec 35 3 (y.1.map dEv.emb)]) <|
  FH.pz 83 (.one dEs) (DP.two dEs .bool) (fun y => y.1.length ≤ 100) (fun y => passF y.1.length 0 y.1 false) FH.none) f a m
theorem Gmi_eq (f : FuncId) (a : List SV) (m : List Res) : Gmi f a m = (FH.rd 59 (.one dEs) (.two .int .int) (fun _ => True) (fun y => (playedF y.1).2) <|
  FH.rd 82 (.one dEs) (.one .bool) (fun y => (checkR y.1).2 = 0) (fun y => racy y.1) <|
  FH.mk 66 (.one dEs) (fun y => y.1.length ≤ 1000000) (fun y => .vec 0 y.1.length) (fun y => [.vec 35 3 (y.1.map dEv.emb)]) <|
  FH.pz 83 (.one dEs) (DP.two dEs .bool) (fun y => y.1.length ≤ 100) (fun y => passF y.1.length 0 y.1 false) FH.none) f a m := nr rfl
theorem Gmi_ok : FHOK Try.prog Gmi := FH.rd_ok (by kernel_rfl) (fun y _ => f_Check y.1) <| FH.rd_ok (by kernel_rfl) (fun y h => f_races y.1 h) <|
  FH.mk_ok (by kernel_rfl) (fun y _ => plainM (pv_vec _ _) ⟨plR_vec _ _ dEv _, trivial⟩) (fun y h => f_CloneEv y.1 h) <|
  FH.pz_ok (by kernel_rfl) (fun y h => f_pass y.1 h) FH.none_ok
theorem f_Min (o : Option (List Ev)) : FnOK Try.prog 34 [dOEs.emb o] [] (.tup [dOEs.emb (minO o).1, .int .i64 (minO o).2]) [] := by
  refine fn_walkF c34 w34 Gmi_ok rfl ?_
  unfold j34
  have he : (playedF (o.getD [])).2.2 = (checkR (o.getD [])).2 := err_same
  unfold minO
  by_cases h : (checkR (o.getD [])).2 = 0
  · have hl := ok_len h
    rw [if_pos h]
    by_cases hr : racy (o.getD []) = true
    · rw [if_pos hr]
      have h6 : (o.getD []).length ≤ 1000000 := by omega
      generalize hL : o.getD [] = L at h hl hr he h6 ⊢
      simp only [go_sem, ↓reduceIte, Nat.reduceAdd, Nat.reduceMul, Nat.reduceSub, Nat.reduceLT, Nat.reduceLeDiff, Nat.reduceEqDiff, Int.reduceToNat, Int.reduceEq, Int.reduceLT, Int.reduceLE, reduceCtorEq, Gmi_eq, he, h, hr, h6, hL]
      refine loopF (Bool × List Ev) (fun s => [.bool s.1, dEs.emb s.2]) (fun _ => [.dead]) (fun s => s.2.length ≤ 100 ∧ (if s.1 = true then minF s.2 else s.2) = minF L) (fun s => if s.1 = true then s.2.length + 1 else 0) (true, L) ⟨by simp only; omega, rfl⟩ ?_ rfl ?_
      · simp only [go_sem, ↓reduceIte, Nat.reduceAdd, Nat.reduceMul, Nat.reduceSub, Nat.reduceLT, Nat.reduceLeDiff, Nat.reduceEqDiff, Int.reduceToNat, Int.reduceEq, Int.reduceLT, Int.reduceLE, reduceCtorEq]
      rintro ⟨b, M⟩ ⟨hM, hm⟩
      simp only at hM hm
      cases b with
      | true =>
        unfold j34_1
        simp only [go_sem, ↓reduceIte, Nat.reduceAdd, Nat.reduceMul, Nat.reduceSub, Nat.reduceLT, Nat.reduceLeDiff, Nat.reduceEqDiff, Int.reduceToNat, Int.reduceEq, Int.reduceLT, Int.reduceLE, reduceCtorEq, Gmi_eq, hM]
        exact min_step hM hm
      | false =>
        unfold j34_1
        simp only [go_sem, ↓reduceIte, Nat.reduceAdd, Nat.reduceMul, Nat.reduceSub, Nat.reduceLT, Nat.reduceLeDiff, Nat.reduceEqDiff, Int.reduceToNat, Int.reduceEq, Int.reduceLT, Int.reduceLE, reduceCtorEq]
        unfold j34_2
        simp only [go_sem, ↓reduceIte, Nat.reduceAdd, Nat.reduceMul, Nat.reduceSub, Nat.reduceLT, Nat.reduceLeDiff, Nat.reduceEqDiff, Int.reduceToNat, Int.reduceEq, Int.reduceLT, Int.reduceLE, reduceCtorEq]
        rw [← hm]
        rfl
    · rw [if_neg hr]
      have hr' : racy (o.getD []) = false := by simpa using hr
      simp only [go_sem, ↓reduceIte, Nat.reduceAdd, Nat.reduceMul, Nat.reduceSub, Nat.reduceLT, Nat.reduceLeDiff, Nat.reduceEqDiff, Int.reduceToNat, Int.reduceEq, Int.reduceLT, Int.reduceLE, reduceCtorEq, Gmi_eq, he, h, hr']
  · rw [if_neg h]
    simp only [go_sem, ↓reduceIte, Nat.reduceAdd, Nat.reduceMul, Nat.reduceSub, Nat.reduceLT, Nat.reduceLeDiff, Nat.reduceEqDiff, Int.reduceToNat, Int.reduceEq, Int.reduceLT, Int.reduceLE, reduceCtorEq, Gmi_eq, he, h]
end Go.Proofs.Ytgcbhanfhnianaa.Sk
end
