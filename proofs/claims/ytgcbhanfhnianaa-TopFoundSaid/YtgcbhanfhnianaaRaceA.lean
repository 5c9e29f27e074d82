/- All races, as the program tells them. Conditions: none. -/
import Derived.Test.YtgcbhanfhnianaaOrderBf
import Derived.Test.YtgcbhanfhnianaaRacesR
import Derived.Test.YtgcbhanfhnianaaMapP
set_option linter.unusedSimpArgs false
set_option linter.unusedVariables false
set_option maxRecDepth 100000
open Go Go.Sx Go.Proofs
namespace Go.Proofs.Ytgcbhanfhnianaa.Rc
open Go.Proofs.Ytgcbhanfhnianaa.D Go.Proofs.Ytgcbhanfhnianaa.Tr Go.Proofs.Ytgcbhanfhnianaa.Ah Go.Proofs.Ytgcbhanfhnianaa.Ps Go.Proofs.Ytgcbhanfhnianaa.Od

def j70 : JC :=
  (.seq (.ops <|
  eo 1 (.box 35 (.t 0)) <|
  qo 2 (.mv (B false)) <|
  .nil)
  (.seq (.ops <|
  qo 3 (.fa 0 0 (.t 1)) <|
  eo 4 (.load 1 false (.t 3)) <|
  qo 5 (.cmp .eql (.t 4) (I 1)) <|
  qo 6 (.mv (.t 5)) <|
  .sc true 10 6 (qo 7 (.fa 0 0 (.t 1)) <|
  eo 8 (.load 1 false (.t 7)) <|
  qo 9 (.cmp .eql (.t 8) (I 2)) <|
  .nil) (.t 9) <|
  qo 2 (.mv (.t 10)) <|
  .nil)
  .ret))
theorem c70 : fnIs Try.prog qall 70 = some (j70.flat, [.tmp 2], 11) := by kernel_rfl
theorem w70 : j70.wf 11 = true := by kernel_rfl

def j71 : JC :=
  (.seq (.ops <|
  eo 2 (.box 35 (.t 0)) <|
  eo 3 (.box 35 (.t 1)) <|
  qo 4 (.mv (I 0)) <|
  .nil)
  (.seq (.block 0 (.seq (.ops <|
  qo 6 (.fa 0 0 (.t 2)) <|
  eo 7 (.load 1 false (.t 6)) <|
  qo 8 (.cmp .eql (.t 7) (I 2)) <|
  qo 9 (.mv (.t 8)) <|
  .prune [9, 3, 2] <|
  .sc false 13 9 (qo 10 (.fa 0 0 (.t 3)) <|
  eo 11 (.load 1 false (.t 10)) <|
  qo 12 (.cmp .eql (.t 11) (I 2)) <|
  .nil) (.t 12) <|
  qo 5 (.mv (.t 13)) <|
  .nil)
  (.prune [5, 2, 3] (.cond (.t 5)
  (.seq (.ops <|
  qo 4 (.mv (I 1)) <|
  .nil)
  .ret)
  (.seq (.ops <|
  qo 15 (.fa 0 0 (.t 2)) <|
  eo 16 (.load 1 false (.t 15)) <|
  qo 17 (.cmp .eql (.t 16) (I 2)) <|
  qo 14 (.mv (.t 17)) <|
  .nil)
  (.cond (.t 14)
  (.seq (.ops <|
  qo 4 (.mv (I 2)) <|
  .nil)
  .ret)
  (.seq (.ops <|
  .prune [3] <|
  qo 19 (.fa 0 0 (.t 3)) <|
  eo 20 (.load 1 false (.t 19)) <|
  qo 21 (.cmp .eql (.t 20) (I 2)) <|
  qo 18 (.mv (.t 21)) <|
  .nil)
  (.prune [18] (.cond (.t 18)
  (.seq (.ops <|
  qo 4 (.mv (I 3)) <|
  .nil)
  .ret)
  .skip)))))))))
  (.prune [] (.seq (.ops <|
  qo 4 (.mv (I 0)) <|
  .nil)
  .ret))))
theorem c71 : fnIs Try.prog qall 71 = some (j71.flat, [.tmp 4], 22) := by kernel_rfl
theorem w71 : j71.wf 22 = true := by kernel_rfl
def j27_1 : JC :=
  (.seq (.ops <|
  qo 27 (.cmp .lss (.t 26) (.t 25)) <|
  .nil)
  (.seq (.cond (.t 27)
  .skip
  (.exit 0))
  (.seq (.block 1 (.seq (.ops <|
  qo 28 (.is 2 (.t 24) (.t 26)) <|
  eo 29 (.load 2 true (.t 28)) <|
  eo 8 (.alloc 133 (.agg [(.int .i64 0), (.int .i64 0)])) <|
  en (.store 2 (.t 8) (.t 29)) <|
  .nil)
  (.prune [6, 8, 26, 25, 24, 0] (.ops <|
  qo 30 (.mv (.t 6)) <|
  eo 31 (.load 2 true (.t 8)) <|
  en (.mop (.put (.st [(.int .i64), (.int .i64)]) .bool) [(.t 30), (.t 31), (B true)]) <|
  .nil))))
  (.prune [26, 25, 24, 6, 0] (.ops <|
  qo 32 (.ar .add (.t 26) (I 1)) <|
  qo 26 (.mv (.t 32)) <|
  .nil)))))
def j27_2 : JC :=
  (.seq (.seq (.ops <|
  qo 42 (.mv (.t 12)) <|
  qo 43 (.mv (.t 0)) <|
  qo 44 (.len (.t 43)) <|
  qo 45 (.cmp .lss (.t 42) (.t 44)) <|
  .nil)
  (.cond (.t 45)
  .skip
  (.exit 4)))
  (.prune [0, 12, 11, 6, 10, 9, 35, 34, 33] (.seq (.block 5 (.seq (.ops <|
  qo 48 (.mv (.t 0)) <|
  qo 49 (.mv (.t 12)) <|
  qo 50 (.is 3 (.t 48) (.t 49)) <|
  eo 51 (.load 3 true (.t 50)) <|
  eo 13 (.alloc 35 (.agg [(.int .i64 0), (.int .i64 0), (.int .i64 0)])) <|
  en (.store 3 (.t 13) (.t 51)) <|
  .nil)
  (.prune [11, 13, 6, 10, 12, 0, 9, 35, 34, 33] (.seq (.seq (.ops <|
  eo 52 (.load 3 true (.t 11)) <|
  eo 53 (.call 70 [(.t 52)]) <|
  qo 54 (.nt (.t 53)) <|
  qo 55 (.mv (.t 54)) <|
  .prune [55, 13, 11, 6, 10, 12, 0, 9, 35, 34, 33] <|
  .sc true 59 55 (eo 56 (.load 3 true (.t 13)) <|
  eo 57 (.call 70 [(.t 56)]) <|
  qo 58 (.nt (.t 57)) <|
  .nil) (.t 58) <|
  qo 60 (.mv (.t 59)) <|
  .sc true 66 60 (qo 61 (.fa 2 2 (.t 11)) <|
  eo 62 (.load 1 false (.t 61)) <|
  qo 63 (.fa 2 2 (.t 13)) <|
  eo 64 (.load 1 false (.t 63)) <|
  qo 65 (.cmp .neq (.t 62) (.t 64)) <|
  .nil) (.t 65) <|
  .prune [66, 6, 10, 12, 0, 11, 9, 35, 34, 33, 13] <|
  qo 67 (.mv (.t 66)) <|
  .sc true 73 67 (qo 68 (.mv (.t 6)) <|
  qo 69 (.mv (.t 10)) <|
  qo 70 (.mv (.t 12)) <|
  qo 71 (.bld (.agg [(.int .i64 0), (.int .i64 0)]) [([.fld 0], 0, 1, (.t 69)), ([.fld 1], 1, 1, (.t 70))]) <|
  eo 72 (.mop (.get (.st [(.int .i64), (.int .i64)]) .bool (.bool false) false) [(.t 68), (.t 71)]) <|
  .nil) (.t 72) <|
  .nil)
  (.cond (.t 73)
  (.exit 5)
  .skip))
  (.prune [11, 13, 9, 10, 12, 0, 6, 35, 34, 33] (.seq (.ops <|
  eo 74 (.load 3 true (.t 11)) <|
  eo 75 (.load 3 true (.t 13)) <|
  eo 76 (.call 71 [(.t 74), (.t 75)]) <|
  qo 14 (.mv (.t 76)) <|
  .nil)
  (.prune [14, 9, 10, 12, 11, 0, 6, 35, 34, 33] (.seq (.ops <|
  qo 77 (.mv (.t 14)) <|
  qo 78 (.cmp .neq (.t 77) (I 0)) <|
  .nil)
  (.prune [78, 9, 10, 12, 11, 14, 0, 6, 35, 34, 33] (.cond (.t 78)
  (.ops <|
  qo 79 (.mv (.t 9)) <|
  qo 80 (.mv (.t 10)) <|
  qo 81 (.mv (.t 12)) <|
  qo 82 (.fa 2 2 (.t 11)) <|
  eo 83 (.load 1 false (.t 82)) <|
  .prune [14, 80, 81, 83, 79, 12, 0, 11, 6, 10, 35, 34, 33] <|
  qo 84 (.mv (.t 14)) <|
  qo 85 (.bld (.agg [(.int .i64 0), (.int .i64 0), (.int .i64 0), (.int .i64 0)]) [([.fld 0], 0, 1, (.t 80)), ([.fld 1], 1, 1, (.t 81)), ([.fld 2], 2, 1, (.t 83)), ([.fld 3], 3, 1, (.t 84))]) <|
  .prune [85, 79, 12, 0, 11, 6, 10, 35, 34, 33] <|
  eo 86 (.bsl 126 4 1 (.agg [(.int .i64 0), (.int .i64 0), (.int .i64 0), (.int .i64 0)]) [(0, (.t 85))]) <|
  eo 87 (.app 126 4 32 (.t 79) (.t 86)) <|
  qo 9 (.mv (.t 87)) <|
  .nil)
  .skip))))))))))
  (.prune [12, 0, 11, 6, 10, 9, 35, 34, 33] (.ops <|
  qo 46 (.mv (.t 12)) <|
  qo 47 (.ar .add (.t 46) (I 1)) <|
  qo 12 (.mv (.t 47)) <|
  .nil)))))
def j27_3 : JC :=
  (.prune [35, 34, 33, 0, 6, 9] (.ops <|
  qo 88 (.ar .add (.t 35) (I 1)) <|
  qo 35 (.mv (.t 88)) <|
  .nil))
def j27_4 : JC :=
  (.seq (.ops <|
  qo 36 (.cmp .lss (.t 35) (.t 34)) <|
  .nil)
  (.seq (.cond (.t 36)
  .skip
  (.exit 2))
  (.seq (.block 3 (.seq (.ops <|
  qo 37 (.mv (.t 35)) <|
  qo 38 (.is 3 (.t 33) (.t 35)) <|
  eo 39 (.load 3 true (.t 38)) <|
  eo 11 (.alloc 35 (.agg [(.int .i64 0), (.int .i64 0), (.int .i64 0)])) <|
  qo 10 (.mv (.t 37)) <|
  en (.store 3 (.t 11) (.t 39)) <|
  .nil)
  (.prune [10, 0, 11, 6, 9, 35, 34, 33] (.seq (.ops <|
  qo 40 (.mv (.t 10)) <|
  qo 41 (.ar .add (.t 40) (I 1)) <|
  qo 12 (.mv (.t 41)) <|
  .nil)
  (.prune [12, 0, 11, 6, 10, 9, 35, 34, 33] (.block 4 (.vecs 9 126 4 (.loop [0, 11, 6, 10, 35, 34, 33] [12, 9] j27_2))))))))
  j27_3)))
def j27_5 : JC :=
  (.prune [9] (.seq (.ops <|
  qo 89 (.mv (.t 9)) <|
  qo 2 (.mv (.t 89)) <|
  qo 3 (.mv (I 0)) <|
  .nil)
  (.vecs 2 126 4 .ret)))
def j27_6 : JC :=
  (.prune [0, 6] (.seq (.ops <|
  qo 9 (.mv (.c .nils)) <|
  .nil)
  (.seq (.seq (.ops <|
  qo 33 (.mv (.t 0)) <|
  qo 34 (.len (.t 33)) <|
  qo 35 (.mv (I 0)) <|
  .nil)
  (.block 2 (.vecs 9 126 4 (.loop [34, 33, 0, 6] [35, 9] j27_4))))
  j27_5)))
def j27 : JC :=
  (.seq (.ops <|
  qo 2 (.mv (.c .nils)) <|
  qo 3 (.mv (I 0)) <|
  .nil)
  (.seq (.ops <|
  qo 16 (.mv (.t 0)) <|
  eo 17 (.call 69 [(.t 16)]) <|
  qo 15 (.mv (.t 17)) <|
  qo 18 (.ext 0 (.t 15)) <|
  qo 19 (.ext 1 (.t 15)) <|
  qo 4 (.mv (.t 18)) <|
  qo 5 (.mv (.t 19)) <|
  .nil)
  (.seq (.seq (.ops <|
  qo 20 (.mv (.t 5)) <|
  qo 21 (.cmp .neq (.t 20) (I 0)) <|
  .nil)
  (.prune [21, 5, 4, 0] (.cond (.t 21)
  (.seq (.ops <|
  qo 22 (.mv (.t 5)) <|
  qo 2 (.mv (.c .nils)) <|
  qo 3 (.mv (.t 22)) <|
  .nil)
  (.vecs 2 126 4 .ret))
  .skip)))
  (.prune [4, 0] (.seq (.ops <|
  eo 23 (.mop (.make (.st [(.int .i64), (.int .i64)]) .bool) []) <|
  qo 6 (.mv (.t 23)) <|
  .nil)
  (.seq (.seq (.ops <|
  qo 24 (.mv (.t 4)) <|
  qo 25 (.len (.t 24)) <|
  qo 26 (.mv (I 0)) <|
  .nil)
  (.block 0 (.loop [25, 24, 6, 0] [26] j27_1)))
  j27_6))))))
theorem c27 : fnIs Try.prog qall 27 = some (j27.flat, [.tmp 2, .tmp 3], 90) := by kernel_rfl
theorem w27 : j27.wf 90 = true := by kernel_rfl
def accB (e : Ev) : Bool := decide (e.kind = 1) || decide (e.kind = 2)
theorem f_isAccess (e : Ev) : FnOK Try.prog 70 [dEv.emb e] [] (.bool (accB e)) [] := by
  refine fn_walkF c70 w70 FH.none_ok rfl ?_
  unfold j70
  simp only [go_sem, ↓reduceIte, Nat.reduceAdd, Nat.reduceMul, Nat.reduceSub, Nat.reduceLT, Nat.reduceLeDiff, Nat.reduceEqDiff, Int.reduceToNat, Int.reduceEq, Int.reduceLT, Int.reduceLE, reduceCtorEq]
  rfl
def kindP (a b : Ev) : Int := if a.kind = 2 ∧ b.kind = 2 then 1 else if a.kind = 2 then 2 else if b.kind = 2 then 3 else 0
theorem f_kindOf (a b : Ev) : FnOK Try.prog 71 [dEv.emb a, dEv.emb b] [] (.int .i64 (kindP a b)) [] := by
  refine fn_walkF c71 w71 FH.none_ok rfl ?_
  unfold j71
  simp only [go_sem, ↓reduceIte, Nat.reduceAdd, Nat.reduceMul, Nat.reduceSub, Nat.reduceLT, Nat.reduceLeDiff, Nat.reduceEqDiff, Int.reduceToNat, Int.reduceEq, Int.reduceLT, Int.reduceLE, reduceCtorEq]
  unfold kindP
  refine ⟨fun h => ?_, fun h => ⟨fun h2 => ?_, fun h2 => ⟨fun h3 => ?_, fun h3 => ?_⟩⟩⟩ <;> simp_all
theorem skip_iff {l : List Ev} (hok : (checkR l).2 = 0) {i j : Nat} (hij : i < j) (hj : j < l.length) :
    (!accB (l.getD i dEv.dft) || !accB (l.getD j dEv.dft) || !decide ((l.getD i dEv.dft).obj = (l.getD j dEv.dft).obj) || aheadR l i j) = false → noRace l i j (l.getD i dEv.dft) (l.getD j dEv.dft) = decide (kindP (l.getD i dEv.dft) (l.getD j dEv.dft) = 0) ∧ (kindP (l.getD i dEv.dft) (l.getD j dEv.dft) ≠ 0 → kindP (l.getD i dEv.dft) (l.getD j dEv.dft) = rkind (l.getD i dEv.dft) (l.getD j dEv.dft)) := by
  intro h
  simp only [Bool.or_eq_false_iff, Bool.not_eq_false', accB, Bool.or_eq_true, decide_eq_true_eq] at h
  obtain ⟨⟨⟨h1, h2⟩, h3⟩, h4⟩ := h
  have hw : ∀ x y : Int, (x = 1 ∨ x = 2) → (y = 1 ∨ y = 2) → IntKind.i64.wrap (x + y) = x + y := fun x y hx hy => IntWalk.i64_in _ (by omega)
  unfold noRace kindP rkind
  rw [hw _ _ h1 h2, h4, h3]
  generalize l.getD i dEv.dft = a at h1 ⊢
  generalize l.getD j dEv.dft = b at h2 ⊢
  rcases h1 with h1 | h1 <;> rcases h2 with h2 | h2 <;> simp [h1, h2, show ¬ (j : Int) ≤ i by omega]
theorem skipped {l : List Ev} (hok : (checkR l).2 = 0) {i j : Nat} (hij : i < j) (hj : j < l.length) (h : (!accB (l.getD i dEv.dft) || !accB (l.getD j dEv.dft) || !decide ((l.getD i dEv.dft).obj = (l.getD j dEv.dft).obj) || aheadR l i j) = true) :
    noRace l i j (l.getD i dEv.dft) (l.getD j dEv.dft) = true := by
  have k : ∀ t, t < l.length → 1 ≤ (l.getD t dEv.dft).kind := fun t ht => by
    obtain ⟨b1, b2, b3, b4⟩ := (isEv_iff _).1 (ok_isEv hok t ht)
    unfold many at b4
    split at b4
    · omega
    · split at b4
      · omega
      · split at b4
        · omega
        · split at b4 <;> omega
  have k1 := k i (by omega)
  have k2 := k j hj
  simp only [accB, Bool.or_eq_true, Bool.not_eq_true', Bool.or_eq_false_iff, decide_eq_false_iff_not] at h
  unfold noRace
  simp only [Bool.or_eq_true, decide_eq_true_eq, Bool.not_eq_true', decide_eq_false_iff_not]
  rcases h with ((h | h) | h) | h
  · exact .inl (.inl (.inl (.inl (.inr (by omega)))))
  · exact .inl (.inl (.inl (.inr (by omega))))
  · exact .inl (.inl (.inr h))
  · exact .inr h
theorem rowC_step {l : List Ev} {i j : Nat} : rowC l i (j + 1) = rowC l i j ++ if noRace l i j (l.getD i dEv.dft) (l.getD j dEv.dft) = true then [] else [⟨i, j, (l.getD i dEv.dft).obj, rkind (l.getD i dEv.dft) (l.getD j dEv.dft)⟩] := rfl
theorem rowC_low {l : List Ev} {i : Nat} : ∀ j, j ≤ i + 1 → rowC l i j = []
  | 0, _ => rfl
  | j + 1, h => by
    rw [rowC_step, rowC_low j (by omega), if_pos]
    · rfl
    · simp only [noRace, show (j : Int) ≤ i by omega, decide_true, Bool.true_or]
theorem mem_rowP {p : Nat → Nat → Bool} {i : Nat} {x : Pr} : ∀ j, x ∈ rowP p i j ↔ ∃ k, k < j ∧ p i k = true ∧ x = ⟨i, k⟩
  | 0 => by simp [rowP]
  | j + 1 => by
    rw [rowP, List.mem_append, mem_rowP j]
    constructor
    · rintro (⟨k, h1, h2⟩ | h)
      · exact ⟨k, by omega, h2⟩
      · split at h
        · rename_i hp
          exact ⟨j, by omega, hp, List.mem_singleton.1 h⟩
        · cases h
    · rintro ⟨k, h1, h2, h3⟩
      by_cases e : k = j
      · subst e; right; rw [if_pos h2]; exact List.mem_singleton.2 h3
      · exact .inl ⟨k, by omega, h2, h3⟩
theorem mem_allP {p : Nat → Nat → Bool} {n : Nat} {x : Pr} : ∀ i, x ∈ allP p n i ↔ ∃ a b, a < i ∧ b < n ∧ p a b = true ∧ x = ⟨a, b⟩
  | 0 => by simp [allP]
  | i + 1 => by
    rw [allP, List.mem_append, mem_allP i, mem_rowP]
    constructor
    · rintro (⟨a, b, h1, h2⟩ | ⟨k, h1, h2⟩)
      · exact ⟨a, b, by omega, h2⟩
      · exact ⟨i, k, by omega, h1, h2⟩
    · rintro ⟨a, b, h1, h2, h3, h4⟩
      by_cases e : a = i
      · subst e; exact .inr ⟨b, h2, h3, h4⟩
      · exact .inl ⟨a, b, by omega, h2, h3, h4⟩
def allF (l : List Ev) : List Rc := if (playedF l).2.2 = 0 then racesF l else []
def Gra (f : FuncId) (a : List SV) (m : List Res) : Sx.Call := (FH.mk 69 (.one dEs) (fun _ => True) (fun y => .tup [.vec 0 (directF y.1 (befP y.1)).length, .int .i64 (playedF y.1).2.2]) (fun y => [.vec 133 2 ((directF y.1 (befP y.1)).map dPr.emb)]) <|
  FH.rd 70 (.one dEv) (.one .bool) (fun _ => True) (fun y => accB y.1) <| FH.rd 71 (.two dEv dEv) (.one .int) (fun _ => True) (fun y => kindP y.1 y.2.1) FH.none) f a m
theorem Gra_eq (f : FuncId) (a : List SV) (m : List Res) : Gra f a m = (FH.mk 69 (.one dEs) (fun _ => True) (fun y => .tup [.vec 0 (directF y.1 (befP y.1)).length, .int .i64 (playedF y.1).2.2]) (fun y => [.vec 133 2 ((directF y.1 (befP y.1)).map dPr.emb)]) <|
  FH.rd 70 (.one dEv) (.one .bool) (fun _ => True) (fun y => accB y.1) <| FH.rd 71 (.two dEv dEv) (.one .int) (fun _ => True) (fun y => kindP y.1 y.2.1) FH.none) f a m := nr rfl
theorem Gra_ok : FHOK Try.prog Gra := FH.mk_ok (by kernel_rfl) (fun y _ => plainM (pv_tup ⟨plV_vec _ _, plV_int _ _, trivial⟩) ⟨plR_vec _ _ dPr _, trivial⟩) (fun y _ => f_Before y.1) <|
  FH.rd_ok (by kernel_rfl) (fun y _ => f_isAccess y.1) <| FH.rd_ok (by kernel_rfl) (fun y _ => f_kindOf y.1 y.2.1) FH.none_ok
theorem pr_getD {l : List Pr} {i : Nat} (h : i < l.length) : (l.map dPr.emb).getD i .junk = .agg [.int .i64 (l.getD i dPr.dft).a, .int .i64 (l.getD i dPr.dft).b] := by
  simp [List.getD, h, pr_emb]
theorem f_All (l : List Ev) : FnOK Try.prog 27 [dEs.emb l] [] (.tup [.vec 0 (allF l).length, .int .i64 (playedF l).2.2]) [.vec 126 4 ((allF l).map dRc.emb)] := by
  refine fn_walkF c27 w27 Gra_ok rfl ?_
  unfold j27
  by_cases h : (playedF l).2.2 = 0
  · have hok : (checkR l).2 = 0 := by rw [← err_same]; exact h
    have hl := ok_len hok
    have hB : directF l (befP l) = allP (aheadR l) l.length l.length := by rw [directF, if_pos h]; exact bef_pairs l
    have hBl := allP_len (aheadR l) l.length l.length
    have hll : l.length * l.length ≤ 80 * 80 := Nat.mul_le_mul (by omega) (by omega)
    have hmem : ∀ a b : Nat, a < l.length → b < l.length → ((⟨a, b⟩ : Pr) ∈ allP (aheadR l) l.length l.length ↔ aheadR l a b = true) := fun a b ha hb => by
      rw [mem_allP]
      constructor
      · rintro ⟨a', b', _, _, h3, h4⟩
        injection h4 with e1 e2
        rw [show a = a' by omega, show b = b' by omega]; exact h3
      · intro h3; exact ⟨a, b, ha, hb, h3, rfl⟩
    rw [allF, if_pos h]
    simp only [go_sem, ↓reduceIte, Nat.reduceAdd, Nat.reduceMul, Nat.reduceSub, Nat.reduceLT, Nat.reduceLeDiff, Nat.reduceEqDiff, Int.reduceToNat, Int.reduceEq, Int.reduceLT, Int.reduceLE, reduceCtorEq, Gra_eq, h, hB]
    generalize allP (aheadR l) l.length l.length = B at hBl hmem ⊢
    refine loopF (Nat × List Pr) (fun i => [.int .i64 i.1]) (fun i => [.vec 133 2 (B.map dPr.emb), .mp (.st [.int .i64, .int .i64]) .bool (setM dPr i.2)])
      (fun i => i.1 ≤ B.length ∧ ∀ p, p ∈ i.2 ↔ p ∈ B.take i.1) (fun i => B.length - i.1) (0, []) ⟨by simp, fun p => by simp⟩ ?_ rfl ?_
    · simp only [go_sem, ↓reduceIte, Nat.reduceAdd, Nat.reduceMul, Nat.reduceSub, Nat.reduceLT, Nat.reduceLeDiff, Nat.reduceEqDiff, Int.reduceToNat, Int.reduceEq, Int.reduceLT, Int.reduceLE, reduceCtorEq]
    rintro ⟨i, L⟩ ⟨hi, hinv⟩
    simp only at hi hinv
    by_cases h1 : i < B.length
    · have h1' : (i : Int) < B.length := by omega
      unfold j27_1
      simp only [go_sem, ↓reduceIte, Nat.reduceAdd, Nat.reduceMul, Nat.reduceSub, Nat.reduceLT, Nat.reduceLeDiff, Nat.reduceEqDiff, Int.reduceToNat, Int.reduceEq, Int.reduceLT, Int.reduceLE, reduceCtorEq, h1, h1', pr_getD h1]
      refine ⟨by omega, (i + 1, insM (B.getD i dPr.dft) L), ⟨by omega, fun p => ?_⟩, by omega, IntWalk.i64_in _ (by omega), rfl⟩
      rw [mem_insM, hinv, take_getD dPr.dft h1]; simp [or_comm]
    · have h1' : ¬ (i : Int) < B.length := by omega
      have e : i = B.length := by omega
      subst e
      rw [List.take_length] at hinv
      unfold j27_1
      simp only [go_sem, ↓reduceIte, Nat.reduceAdd, Nat.reduceMul, Nat.reduceSub, Nat.reduceLT, Nat.reduceLeDiff, Nat.reduceEqDiff, Int.reduceToNat, Int.reduceEq, Int.reduceLT, Int.reduceLE, reduceCtorEq, h1']
      unfold j27_6
      simp only [go_sem, ↓reduceIte, Nat.reduceAdd, Nat.reduceMul, Nat.reduceSub, Nat.reduceLT, Nat.reduceLeDiff, Nat.reduceEqDiff, Int.reduceToNat, Int.reduceEq, Int.reduceLT, Int.reduceLE, reduceCtorEq]
      have hq : ∀ a b : Nat, a < l.length → b < l.length → decide ((⟨a, b⟩ : Pr) ∈ L) = aheadR l a b := fun a b ha hb => by
        rw [Bool.eq_iff_iff, decide_eq_true_eq, hinv, hmem a b ha hb]
      refine loopF Nat (fun i => [.int .i64 i, .vec 2 (allC l i).length]) (fun i => [.vec 133 2 (B.map dPr.emb), .mp (.st [.int .i64, .int .i64]) .bool (setM dPr L), .vec 126 4 ((allC l i).map dRc.emb)]) (fun i => i ≤ l.length) (fun i => l.length - i) 0 (by omega) ?_ rfl ?_
      · simp only [go_sem, ↓reduceIte, Nat.reduceAdd, Nat.reduceMul, Nat.reduceSub, Nat.reduceLT, Nat.reduceLeDiff, Nat.reduceEqDiff, Int.reduceToNat, Int.reduceEq, Int.reduceLT, Int.reduceLE, reduceCtorEq]
        rfl
      intro i hi
      by_cases h1 : i < l.length
      · have h1' : (i : Int) < l.length := by omega
        have hw : IntKind.i64.wrap ((i : Int) + 1) = ((i + 1 : Nat) : Int) := IntWalk.i64_in _ (by omega)
        have hl1 := allC_len (l := l) i
        have hil : i * l.length ≤ 80 * 80 := Nat.mul_le_mul (by omega) (by omega)
        unfold j27_4
        simp only [go_sem, ↓reduceIte, Nat.reduceAdd, Nat.reduceMul, Nat.reduceSub, Nat.reduceLT, Nat.reduceLeDiff, Nat.reduceEqDiff, Int.reduceToNat, Int.reduceEq, Int.reduceLT, Int.reduceLE, reduceCtorEq, h1, h1', hw]
        refine ⟨by omega, ?_⟩
        refine loopF Nat (fun j => [.int .i64 j, .vec 2 (allC l i ++ rowC l i j).length]) (fun j => [.vec 133 2 (B.map dPr.emb), .mp (.st [.int .i64, .int .i64]) .bool (setM dPr L), .vec 126 4 ((allC l i ++ rowC l i j).map dRc.emb), .blk 35 (dEv.emb (l.getD i dEv.dft))]) (fun j => i + 1 ≤ j ∧ j ≤ l.length) (fun j => l.length - j) (i + 1) (by omega) ?_ ?_ ?_
        · simp only [go_sem, ↓reduceIte, Nat.reduceAdd, Nat.reduceMul, Nat.reduceSub, Nat.reduceLT, Nat.reduceLeDiff, Nat.reduceEqDiff, Int.reduceToNat, Int.reduceEq, Int.reduceLT, Int.reduceLE, reduceCtorEq]
          simp [rowC_low (l := l) (i + 1) (Nat.le_refl _)]
        · simp [rowC_low (l := l) (i + 1) (Nat.le_refl _), ev_emb]
        intro j hj
        by_cases h2 : j < l.length
        · have h2' : (j : Int) < l.length := by omega
          have hwj : IntKind.i64.wrap ((j : Int) + 1) = ((j + 1 : Nat) : Int) := IntWalk.i64_in _ (by omega)
          have hl2 := rowC_len (l := l) (i := i) j
          unfold j27_2
          simp only [go_sem, ↓reduceIte, Nat.reduceAdd, Nat.reduceMul, Nat.reduceSub, Nat.reduceLT, Nat.reduceLeDiff, Nat.reduceEqDiff, Int.reduceToNat, Int.reduceEq, Int.reduceLT, Int.reduceLE, reduceCtorEq, Gra_eq, h1, h1', h2, h2', hwj, hq i j h1 h2]
          have fit : ((allC l i).length + (rowC l i j).length + 1) * 32 ≤ 140737488355328 := by omega
          have hk := skip_iff hok (i := i) (j := j) (by omega) h2
          refine ⟨by omega, fun h3 => ?_, fun h3 => ⟨fun h4 => ?_, fun h4 => ?_⟩⟩
          · have e : rowC l i (j + 1) = rowC l i j := by rw [rowC_step, if_pos (skipped hok (by omega) h2 h3), List.append_nil]
            exact ⟨j + 1, by omega, by omega, ⟨rfl, by rw [e]⟩, by rw [e]⟩
          · obtain ⟨k1, k2⟩ := hk h3
            have e : rowC l i (j + 1) = rowC l i j ++ [⟨i, j, (l.getD i dEv.dft).obj, kindP (l.getD i dEv.dft) (l.getD j dEv.dft)⟩] := by
              rw [rowC_step, k1, if_neg (by simpa using h4), k2 h4]
            exact ⟨by simpa only [List.length_append, List.length_map] using fit, j + 1, by omega, by omega, ⟨rfl, by rw [e]; simp [Nat.add_assoc]⟩, by rw [e, List.map_append]; rfl⟩
          · obtain ⟨k1, k2⟩ := hk h3
            have e : rowC l i (j + 1) = rowC l i j := by rw [rowC_step, k1, if_pos (by simpa using h4), List.append_nil]
            exact ⟨j + 1, by omega, by omega, ⟨rfl, by rw [e]⟩, by rw [e]⟩
        · have h2' : ¬ (j : Int) < l.length := by omega
          have e : j = l.length := by omega
          subst e
          unfold j27_2
          simp only [go_sem, ↓reduceIte, Nat.reduceAdd, Nat.reduceMul, Nat.reduceSub, Nat.reduceLT, Nat.reduceLeDiff, Nat.reduceEqDiff, Int.reduceToNat, Int.reduceEq, Int.reduceLT, Int.reduceLE, reduceCtorEq, h2']
          unfold j27_3
          simp only [go_sem, ↓reduceIte, Nat.reduceAdd, Nat.reduceMul, Nat.reduceSub, Nat.reduceLT, Nat.reduceLeDiff, Nat.reduceEqDiff, Int.reduceToNat, Int.reduceEq, Int.reduceLT, Int.reduceLE, reduceCtorEq, hw]
          exact ⟨i + 1, by omega, by omega, ⟨rfl, rfl⟩, by rw [allC, List.map_append]⟩
      · have h1' : ¬ (i : Int) < l.length := by omega
        have e : i = l.length := by omega
        subst e
        unfold j27_4
        simp only [go_sem, ↓reduceIte, Nat.reduceAdd, Nat.reduceMul, Nat.reduceSub, Nat.reduceLT, Nat.reduceLeDiff, Nat.reduceEqDiff, Int.reduceToNat, Int.reduceEq, Int.reduceLT, Int.reduceLE, reduceCtorEq, h1']
        unfold j27_5
        simp only [go_sem, ↓reduceIte, Nat.reduceAdd, Nat.reduceMul, Nat.reduceSub, Nat.reduceLT, Nat.reduceLeDiff, Nat.reduceEqDiff, Int.reduceToNat, Int.reduceEq, Int.reduceLT, Int.reduceLE, reduceCtorEq]
        rw [h]
        exact ⟨rfl, rfl⟩
  · simp only [go_sem, ↓reduceIte, Nat.reduceAdd, Nat.reduceMul, Nat.reduceSub, Nat.reduceLT, Nat.reduceLeDiff, Nat.reduceEqDiff, Int.reduceToNat, Int.reduceEq, Int.reduceLT, Int.reduceLE, reduceCtorEq, Gra_eq, h]
    simp [allF, h]
end Go.Proofs.Ytgcbhanfhnianaa.Rc
