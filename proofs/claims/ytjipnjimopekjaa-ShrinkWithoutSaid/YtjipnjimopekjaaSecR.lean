/- The reference's seconds. Conditions: none. -/
import Derived.Test.YtjipnjimopekjaaRacesR
import Derived.Test.YtjipnjimopekjaaHasI
import Derived.Test.YtjipnjimopekjaaSortP
set_option linter.unusedSimpArgs false
set_option linter.unusedVariables false
set_option maxRecDepth 100000
open Go Go.Sx Go.Proofs
namespace Go.Proofs.Ytjipnjimopekjaa.Rc
open Go.Proofs.Ytjipnjimopekjaa.D Go.Proofs.Ytjipnjimopekjaa.Tr Go.Proofs.Ytjipnjimopekjaa.Ah Go.Proofs.Ytjipnjimopekjaa.Ps Go.Proofs.Ytjipnjimopekjaa.Od Go.Proofs.Ytjipnjimopekjaa.St Go.Proofs.Ytjipnjimopekjaa.Hs
def midS (R : List Rc) (f : Rc → Int) (j k : Nat) : List Int := SortP.upTo (R.map f) j ++ if (R.take k).any (fun r => decide (f r = (j : Int))) = true then [(j : Int)] else []
theorem midS_zero (R : List Rc) (f : Rc → Int) (j : Nat) : midS R f j 0 = SortP.upTo (R.map f) j := by simp [midS]
theorem midS_has (R : List Rc) (f : Rc → Int) (j k : Nat) : hasI (midS R f j k) j = (R.take k).any (fun r => decide (f r = (j : Int))) := by
  rw [Bool.eq_iff_iff, hasI_iff, midS, List.mem_append, SortP.mem_upTo]
  constructor
  · rintro (h | h)
    · omega
    · split at h
      · assumption
      · cases h
  · intro h
    right
    rw [if_pos h]; exact List.mem_singleton.2 rfl
theorem midS_end (R : List Rc) (f : Rc → Int) (j : Nat) : midS R f j R.length = SortP.upTo (R.map f) (j + 1) := by
  rw [midS, SortP.upTo, List.take_length, List.any_map]
  rfl
theorem midS_step {R : List Rc} {f : Rc → Int} {j k : Nat} (hk : k < R.length) : midS R f j (k + 1) = midS R f j k ++ if (decide (f (R.getD k dRc.dft) = (j : Int)) && !hasI (midS R f j k) j) = true then [(j : Int)] else [] := by
  rw [midS_has]
  unfold midS
  rw [take_getD dRc.dft hk, List.any_append, List.append_assoc]
  congr 1
  cases (R.take k).any fun r => decide (f r = (j : Int)) <;> simp
theorem midS_len (R : List Rc) (f : Rc → Int) (j k : Nat) : (midS R f j k).length ≤ j + 1 := by
  have := SortP.upTo_len (zs := R.map f) j
  rw [midS, List.length_append]
  split <;> simp <;> omega
theorem rc_getD' {l : List Rc} {i : Nat} (h : i < l.length) : (l.map dRc.emb).getD i .junk = .agg [.int .i64 (l.getD i dRc.dft).a, .int .i64 (l.getD i dRc.dft).b, .int .i64 (l.getD i dRc.dft).var, .int .i64 (l.getD i dRc.dft).kind] := by
  simp [List.getD, h, rc_emb]
def secsR (l : List Ev) : List Int := SortP.upTo ((racesF l).map fun r => r.b) l.length
def j26_1 : JC :=
  (.seq (.ops <|
  qo 18 (.cmp .lss (.t 17) (.t 16)) <|
  .nil)
  (.seq (.cond (.t 18)
  .skip
  (.exit 2))
  (.seq (.block 3 (.seq (.ops <|
  qo 19 (.is 4 (.t 15) (.t 17)) <|
  eo 20 (.load 4 true (.t 19)) <|
  eo 7 (.alloc 58 (.agg [(.int .i64 0), (.int .i64 0), (.int .i64 0), (.int .i64 0)])) <|
  en (.store 4 (.t 7) (.t 20)) <|
  .nil)
  (.prune [7, 5, 3, 17, 16, 15, 12, 11, 4] (.seq (.ops <|
  qo 21 (.fa 1 1 (.t 7)) <|
  eo 22 (.load 1 false (.t 21)) <|
  qo 23 (.mv (.t 5)) <|
  qo 24 (.cmp .eql (.t 22) (.t 23)) <|
  .prune [24, 3, 5, 17, 16, 15, 12, 11, 4] <|
  qo 25 (.mv (.t 24)) <|
  .sc false 30 25 (qo 26 (.mv (.t 3)) <|
  qo 27 (.mv (.t 5)) <|
  eo 28 (.call 30 [(.t 26), (.t 27)]) <|
  qo 29 (.nt (.t 28)) <|
  .nil) (.t 29) <|
  .nil)
  (.prune [30, 3, 5, 17, 16, 15, 12, 11, 4] (.cond (.t 30)
  (.ops <|
  qo 31 (.mv (.t 3)) <|
  qo 32 (.mv (.t 5)) <|
  eo 33 (.bsl 3 1 1 (.int .i64 0) [(0, (.t 32))]) <|
  eo 34 (.app 3 1 8 (.t 31) (.t 33)) <|
  qo 3 (.mv (.t 34)) <|
  .nil)
  .skip))))))
  (.prune [17, 16, 15, 5, 3, 12, 11, 4] (.ops <|
  qo 35 (.ar .add (.t 17) (I 1)) <|
  qo 17 (.mv (.t 35)) <|
  .nil)))))
def j26_2 : JC :=
  (.prune [12, 11, 4, 3] (.ops <|
  qo 36 (.ar .add (.t 12) (I 1)) <|
  qo 12 (.mv (.t 36)) <|
  .nil))
def j26_3 : JC :=
  (.seq (.ops <|
  qo 13 (.cmp .lss (.t 12) (.t 11)) <|
  .nil)
  (.seq (.cond (.t 13)
  .skip
  (.exit 0))
  (.seq (.block 1 (.seq (.ops <|
  qo 14 (.mv (.t 12)) <|
  qo 5 (.mv (.t 14)) <|
  .nil)
  (.seq (.ops <|
  qo 15 (.mv (.t 4)) <|
  qo 16 (.len (.t 15)) <|
  qo 17 (.mv (I 0)) <|
  .nil)
  (.prune [17, 16, 15, 5, 3, 12, 11, 4] (.block 2 (.vecs 3 3 1 (.loop [16, 15, 5, 12, 11, 4] [17, 3] j26_1)))))))
  j26_2)))
def j26_4 : JC :=
  (.prune [3] (.seq (.ops <|
  qo 37 (.mv (.t 3)) <|
  qo 2 (.mv (.t 37)) <|
  .nil)
  (.vecs 2 3 1 .ret)))
def j26 : JC :=
  (.seq (.ops <|
  qo 2 (.mv (.c .nils)) <|
  .nil)
  (.seq (.ops <|
  qo 3 (.mv (.c .nils)) <|
  .nil)
  (.seq (.ops <|
  qo 8 (.mv (.t 0)) <|
  eo 9 (.call 29 [(.t 8)]) <|
  qo 4 (.mv (.t 9)) <|
  .nil)
  (.seq (.seq (.ops <|
  qo 10 (.mv (.t 0)) <|
  qo 11 (.len (.t 10)) <|
  qo 12 (.mv (I 0)) <|
  .nil)
  (.block 0 (.vecs 3 3 1 (.loop [11, 4] [12, 3] j26_3))))
  j26_4))))
theorem c26 : fnIs Try.prog qall 26 = some (j26.flat, [.tmp 2], 38) := by kernel_rfl
theorem w26 : j26.wf 38 = true := by kernel_rfl
def Gsc (f : FuncId) (a : List SV) (m : List Res) : Sx.Call := (FH.mk 29 (.one dEs) (fun y => (checkR y.1).2 = 0) (fun y => .vec 0 (racesF y.1).length) (fun y => [.vec 58 4 ((racesF y.1).map dRc.emb)]) <| FH.rd 30 (.two dIs .int) (.one .bool) (fun _ => True) (fun y => hasI y.1 y.2.1) FH.none) f a m
theorem Gsc_eq (f : FuncId) (a : List SV) (m : List Res) : Gsc f a m = (FH.mk 29 (.one dEs) (fun y => (checkR y.1).2 = 0) (fun y => .vec 0 (racesF y.1).length) (fun y => [.vec 58 4 ((racesF y.1).map dRc.emb)]) <| FH.rd 30 (.two dIs .int) (.one .bool) (fun _ => True) (fun y => hasI y.1 y.2.1) FH.none) f a m := nr rfl
theorem Gsc_ok : FHOK Try.prog Gsc := FH.mk_ok (by kernel_rfl) (fun y _ => plainM (pv_vec _ _) ⟨plR_vec _ _ dRc _, trivial⟩) (fun y h => f_RRaces y.1 h) <| FH.rd_ok (by kernel_rfl) (fun y _ => f_HasInt y.1 y.2.1) FH.none_ok
theorem f_RSeconds (l : List Ev) (hok : (checkR l).2 = 0) : FnOK Try.prog 26 [dEs.emb l] [] (.vec 0 (secsR l).length) [.vec 3 1 ((secsR l).map DT.int.emb)] := by
  have hl := ok_len hok
  refine fn_walkF c26 w26 Gsc_ok rfl ?_
  unfold j26
  have hRl : (racesF l).length ≤ 6400 := Nat.le_trans (allC_len (l := l) l.length) (Nat.mul_le_mul (show l.length ≤ 80 by omega) (show l.length ≤ 80 by omega))
  rw [secsR]
  simp only [go_sem, ↓reduceIte, Nat.reduceAdd, Nat.reduceMul, Nat.reduceSub, Nat.reduceLT, Nat.reduceLeDiff, Nat.reduceEqDiff, Int.reduceToNat, Int.reduceEq, Int.reduceLT, Int.reduceLE, reduceCtorEq, Gsc_eq, hok]
  generalize racesF l = R at hRl ⊢
  refine loopF Nat (fun i => [.int .i64 i, .vec 1 (SortP.upTo (R.map fun r => r.b) i).length]) (fun i => [.vec 58 4 (R.map dRc.emb), .vec 3 1 ((SortP.upTo (R.map fun r => r.b) i).map DT.int.emb)]) (fun i => i ≤ l.length) (fun i => l.length - i) 0 (by omega) ?_ rfl ?_
  · simp only [go_sem, ↓reduceIte, Nat.reduceAdd, Nat.reduceMul, Nat.reduceSub, Nat.reduceLT, Nat.reduceLeDiff, Nat.reduceEqDiff, Int.reduceToNat, Int.reduceEq, Int.reduceLT, Int.reduceLE, reduceCtorEq]
    rfl
  intro j hj
  by_cases h1 : j < l.length
  · have h1' : (j : Int) < l.length := by omega
    unfold j26_3
    simp only [go_sem, ↓reduceIte, Nat.reduceAdd, Nat.reduceMul, Nat.reduceSub, Nat.reduceLT, Nat.reduceLeDiff, Nat.reduceEqDiff, Int.reduceToNat, Int.reduceEq, Int.reduceLT, Int.reduceLE, reduceCtorEq, h1, h1']
    refine loopF Nat (fun k => [.int .i64 k, .vec 1 (midS R (fun r => r.b) j k).length]) (fun k => [.vec 58 4 (R.map dRc.emb), .vec 3 1 ((midS R (fun r => r.b) j k).map DT.int.emb)]) (fun k => k ≤ R.length) (fun k => R.length - k) 0 (by omega) ?_ ?_ ?_
    · simp only [go_sem, ↓reduceIte, Nat.reduceAdd, Nat.reduceMul, Nat.reduceSub, Nat.reduceLT, Nat.reduceLeDiff, Nat.reduceEqDiff, Int.reduceToNat, Int.reduceEq, Int.reduceLT, Int.reduceLE, reduceCtorEq]
      simp [midS_zero]
    · simp [midS_zero]
    intro k hk
    by_cases h2 : k < R.length
    · have h2' : (k : Int) < R.length := by omega
      have hw : IntKind.i64.wrap ((k : Int) + 1) = ((k + 1 : Nat) : Int) := IntWalk.i64_in _ (by omega)
      have hml := midS_len R (fun r => r.b) j k
      have hms := midS_step (R := R) (f := fun r => r.b) (j := j) h2
      unfold j26_1
      simp only [go_sem, ↓reduceIte, Nat.reduceAdd, Nat.reduceMul, Nat.reduceSub, Nat.reduceLT, Nat.reduceLeDiff, Nat.reduceEqDiff, Int.reduceToNat, Int.reduceEq, Int.reduceLT, Int.reduceLE, reduceCtorEq, Gsc_eq, h2, h2', rc_getD' h2]
      refine ⟨by omega, fun h => ⟨by omega, k + 1, by omega, by omega, ⟨hw, ?_⟩, ?_⟩, fun h => ⟨k + 1, by omega, by omega, ⟨hw, ?_⟩, ?_⟩⟩
      · rw [hms, if_pos h, List.length_append]; rfl
      · rw [hms, if_pos h, List.map_append]; rfl
      · rw [hms, if_neg (by rw [h]; simp), List.append_nil]
      · rw [hms, if_neg (by rw [h]; simp), List.append_nil]
    · have h2' : ¬ (k : Int) < R.length := by omega
      have e : k = R.length := by omega
      subst e
      unfold j26_1
      simp only [go_sem, ↓reduceIte, Nat.reduceAdd, Nat.reduceMul, Nat.reduceSub, Nat.reduceLT, Nat.reduceLeDiff, Nat.reduceEqDiff, Int.reduceToNat, Int.reduceEq, Int.reduceLT, Int.reduceLE, reduceCtorEq, h2']
      unfold j26_2
      simp only [go_sem, ↓reduceIte, Nat.reduceAdd, Nat.reduceMul, Nat.reduceSub, Nat.reduceLT, Nat.reduceLeDiff, Nat.reduceEqDiff, Int.reduceToNat, Int.reduceEq, Int.reduceLT, Int.reduceLE, reduceCtorEq]
      rw [midS_end]
      exact ⟨j + 1, by omega, by omega, ⟨IntWalk.i64_in _ (by omega), rfl⟩, rfl⟩
  · have h1' : ¬ (j : Int) < l.length := by omega
    have e : j = l.length := by omega
    subst e
    unfold j26_3
    simp only [go_sem, ↓reduceIte, Nat.reduceAdd, Nat.reduceMul, Nat.reduceSub, Nat.reduceLT, Nat.reduceLeDiff, Nat.reduceEqDiff, Int.reduceToNat, Int.reduceEq, Int.reduceLT, Int.reduceLE, reduceCtorEq, h1']
    unfold j26_4
    simp only [go_sem, ↓reduceIte, Nat.reduceAdd, Nat.reduceMul, Nat.reduceSub, Nat.reduceLT, Nat.reduceLeDiff, Nat.reduceEqDiff, Int.reduceToNat, Int.reduceEq, Int.reduceLT, Int.reduceLE, reduceCtorEq]
theorem rowC_has {l : List Ev} {i : Nat} {r : Rc} : ∀ {n : Nat}, r ∈ rowC l i n → ∃ j, j < n ∧ noRace l i j (l.getD i dEv.dft) (l.getD j dEv.dft) = false ∧ r = ⟨i, j, (l.getD i dEv.dft).obj, rkind (l.getD i dEv.dft) (l.getD j dEv.dft)⟩
  | 0, h => by simp [rowC] at h
  | n + 1, h => by
    rw [rowC, List.mem_append] at h
    rcases h with h | h
    · obtain ⟨j, h1, h2, h3⟩ := rowC_has h
      exact ⟨j, by omega, h2, h3⟩
    · split at h
      · cases h
      · rename_i hn
        simp only [List.mem_cons, List.not_mem_nil, or_false] at h
        exact ⟨n, Nat.lt_succ_self _, by simpa using hn, h⟩
theorem allC_has {l : List Ev} {r : Rc} : ∀ {n : Nat}, r ∈ allC l n → ∃ i, i < n ∧ r ∈ rowC l i l.length
  | 0, h => by simp [allC] at h
  | n + 1, h => by
    rw [allC, List.mem_append] at h
    rcases h with h | h
    · obtain ⟨i, h1, h2⟩ := allC_has h
      exact ⟨i, by omega, h2⟩
    · exact ⟨n, Nat.lt_succ_self _, h⟩
/-- Where a race lies. -/
theorem race_at {l : List Ev} {r : Rc} (h : r ∈ racesF l) : ∃ i j : Nat, i < l.length ∧ j < l.length ∧ r.b = j ∧ r.var = (l.getD i dEv.dft).obj ∧ noRace l i j (l.getD i dEv.dft) (l.getD j dEv.dft) = false := by
  obtain ⟨i, hi, h2⟩ := allC_has h
  obtain ⟨j, hj, h3, h4⟩ := rowC_has h2
  subst h4
  exact ⟨i, j, hi, hj, rfl, rfl, h3⟩
theorem secs_in {l : List Ev} : ∀ z ∈ (racesF l).map (fun r => r.b), 0 ≤ z ∧ z < (l.length : Int) := by
  intro z hz
  obtain ⟨r, hr, rfl⟩ := List.mem_map.1 hz
  obtain ⟨i, j, hi, hj, h1, h2⟩ := race_at hr
  simp only [h1]
  omega
/-- A race's variable. -/
theorem vars_in {l : List Ev} (hok : (checkR l).2 = 0) : ∀ z ∈ (racesF l).map (fun r => r.var), 0 ≤ z ∧ z < ((8 : Nat) : Int) := by
  intro z hz
  obtain ⟨r, hr, rfl⟩ := List.mem_map.1 hz
  obtain ⟨i, j, hi, hj, h1, h2, h3⟩ := race_at hr
  obtain ⟨b1, b2, b3, b4⟩ := (isEv_iff _).1 (ok_isEv hok i hi)
  simp only [h2]
  unfold many at b4
  unfold noRace at h3
  simp only [Bool.or_eq_false_iff, decide_eq_false_iff_not] at h3
  have hk : (l.getD i dEv.dft).kind ≤ 2 := by omega
  split at b4
  · omega
  · split at b4
    · omega
    · split at b4
      · omega
      · split at b4 <;> omega
end Go.Proofs.Ytjipnjimopekjaa.Rc
