/- ring: read, longer, ring, Ring. Conditions: none. -/
import Derived.Test.YtmddnblbfmlgoaaHas
import Derived.Test.YtmddnblbfmlgoaaCpy
set_option linter.unusedSimpArgs false
set_option linter.unusedVariables false
set_option maxRecDepth 100000
open Go Go.Sx Go.Proofs
namespace Go.Proofs.Ytmddnblbfmlgoaa.Rg
open Go.Proofs.Ytmddnblbfmlgoaa.D Go.Proofs.Ytmddnblbfmlgoaa.Hs Go.Proofs.Ytmddnblbfmlgoaa.Cp
abbrev Gr := Nat → Nat → Bool
def dG : DT Gr := DT.arr 5 5 (DT.arr 5 1 DT.bool)
instance : Flat dG := inferInstanceAs (Flat (DT.arr 5 5 (DT.arr 5 1 DT.bool)))
theorem g_emb (f : Gr) : dG.emb f = .arr 5 5 fun i => .arr 5 1 fun j => .bool (f i j) := nr rfl
theorem g_decV (m : List Res) (f : Gr) : dG.decV m (.arr 5 5 fun i => .arr 5 1 fun j => .bool (f i j)) = f := nr rfl
theorem g_decP (m : List Res) (f : Gr) : dG.decP m (.arr 5 5 fun i => .arr 5 1 fun j => .bool (f i j)) = True := eq_true ⟨rfl, rfl, fun _ _ => ⟨rfl, rfl, fun _ _ => trivial⟩⟩
attribute [go_sem] g_emb g_decV g_decP
theorem upd_row (n w : Nat) (f : Nat → Nat → Bool) (i : Nat) (g : Nat → Bool) : updS (fun k => SV.arr n w fun j => .bool (f k j)) i (.arr n w fun j => .bool (g j)) = fun k => SV.arr n w fun j => .bool (if k = i then g j else f k j) := by
  funext k; unfold updS; split <;> rfl
theorem upd_row' (n w n' w' : Nat) (f : Nat → Nat → Bool) (i : Nat) (g : Nat → Bool) : updS (fun k => SV.arr n w fun j => .bool (f k j)) i (.arr n w fun j => .bool (g j)) = fun k => SV.arr n w fun j => .bool (if k = i then g j else f k j) := upd_row n w f i g
def badPr (x : Pr) : Bool := decide (x.a < 0) || decide (5 ≤ x.a) || decide (x.b < 0) || decide (5 ≤ x.b)
def gOf (p : List Pr) : Gr := fun a b => hasP p ⟨a, b⟩
def readV (p : List Pr) : SV := if p.any badPr = true then .tup [.nilp, .int .i64 1] else .tup [.ptr 0 [] 0, .int .i64 0]
def readM (T : TypeId) (p : List Pr) : List Res := if p.any badPr = true then [] else [.blk T (dG.emb (gOf p))]
theorem gOf_step {p : List Pr} {i a b : Nat} (hi : i < p.length) (ha : (p.getD i dPr.dft).a = a) (hb : (p.getD i dPr.dft).b = b) (u v : Nat) : (if u = a then if v = b then true else gOf (p.take i) a v else gOf (p.take i) u v) = gOf (p.take (i + 1)) u v := by
  simp only [gOf, hasP, take_getD dPr.dft hi, List.any_append, List.any_cons, List.any_nil, Bool.or_false, ha, hb]
  by_cases h1 : u = a
  · subst h1
    by_cases h2 : v = b
    · subst h2; simp
    · simp [h2, show ¬ (v : Int) = (b : Int) by omega]
  · simp [h1, show ¬ (u : Int) = (a : Int) by omega]
def j56_1 : JC :=
  (.seq (.ops <|
  qo 12 (.cmp .lss (.t 11) (.t 10)) <|
  .nil)
  (.seq (.cond (.t 12)
  .skip
  (.exit 0))
  (.seq (.block 1 (.seq (.ops <|
  qo 13 (.is 2 (.t 9) (.t 11)) <|
  eo 14 (.load 2 true (.t 13)) <|
  eo 6 (.alloc 53 (.agg [(.int .i64 0), (.int .i64 0)])) <|
  en (.store 2 (.t 6) (.t 14)) <|
  .nil)
  (.seq (.seq (.ops <|
  .prune [6, 4, 11, 10, 9] <|
  qo 15 (.fa 0 0 (.t 6)) <|
  eo 16 (.load 1 false (.t 15)) <|
  qo 17 (.cmp .lss (.t 16) (I 0)) <|
  qo 18 (.mv (.t 17)) <|
  .prune [18, 6, 4, 11, 10, 9] <|
  .sc true 22 18 (qo 19 (.fa 0 0 (.t 6)) <|
  eo 20 (.load 1 false (.t 19)) <|
  qo 21 (.cmp .geq (.t 20) (I 5)) <|
  .nil) (.t 21) <|
  qo 23 (.mv (.t 22)) <|
  .sc true 27 23 (qo 24 (.fa 1 1 (.t 6)) <|
  eo 25 (.load 1 false (.t 24)) <|
  qo 26 (.cmp .lss (.t 25) (I 0)) <|
  .nil) (.t 26) <|
  .prune [27, 6, 4, 11, 10, 9] <|
  qo 28 (.mv (.t 27)) <|
  .sc true 32 28 (qo 29 (.fa 1 1 (.t 6)) <|
  eo 30 (.load 1 false (.t 29)) <|
  qo 31 (.cmp .geq (.t 30) (I 5)) <|
  .nil) (.t 31) <|
  .nil)
  (.prune [32, 4, 6, 11, 10, 9] (.cond (.t 32)
  (.seq (.ops <|
  qo 2 (.mv (.c .nilp)) <|
  qo 3 (.mv (I 1)) <|
  .nil)
  .ret)
  .skip)))
  (.prune [4, 6, 11, 10, 9] (.dops <|
  qo 33 (.mv (.t 4)) <|
  qo 34 (.fa 0 0 (.t 6)) <|
  eo 35 (.load 1 false (.t 34)) <|
  qo 36 (.fa 1 1 (.t 6)) <|
  eo 37 (.load 1 false (.t 36)) <|
  .prune [33, 35, 37, 11, 10, 9, 4] <|
  qo 38 (.nck (.t 33)) <|
  qo 39 (.ia 5 5 (.t 38) (.t 35)) <|
  qo 40 (.ia 5 1 (.t 39) (.t 37)) <|
  en (.store 1 (.t 40) (B true)) <|
  .nil)))))
  (.prune [11, 10, 9, 4] (.ops <|
  qo 41 (.ar .add (.t 11) (I 1)) <|
  qo 11 (.mv (.t 41)) <|
  .nil)))))
def j56_2 : JC :=
  (.prune [4] (.seq (.ops <|
  qo 42 (.mv (.t 4)) <|
  qo 2 (.mv (.t 42)) <|
  qo 3 (.mv (I 0)) <|
  .nil)
  .ret))
def j56 : JC :=
  (.seq (.ops <|
  qo 2 (.mv (.c .nilp)) <|
  qo 3 (.mv (I 0)) <|
  .nil)
  (.seq (.ops <|
  qo 7 (.bld (.arr 5 5 fun _ => (.arr 5 1 fun _ => (.bool false))) []) <|
  eo 8 (.box 96 (.t 7)) <|
  qo 4 (.mv (.t 8)) <|
  .nil)
  (.seq (.seq (.ops <|
  qo 9 (.mv (.t 0)) <|
  qo 10 (.len (.t 9)) <|
  qo 11 (.mv (I 0)) <|
  .nil)
  (.block 0 (.loop [10, 9, 4] [11] j56_1)))
  j56_2)))
theorem c56 : fnIs Try.prog qall 56 = some (j56.flat, [.tmp 2, .tmp 3], 43) := by kernel_rfl
theorem w56 : j56.wf 43 = true := by kernel_rfl
theorem f_read (p : List Pr) : FnOK Try.prog 56 [dPrs.emb p] [] (readV p) (readM 96 p) := by
  refine fn_len fun hB => fn_walkF c56 w56 FH.none_ok rfl ?_
  simp only [go_sem, ↓reduceIte, Nat.reduceAdd, Nat.reduceMul, Nat.reduceSub, Nat.reduceLT, Nat.reduceLeDiff, Nat.reduceEqDiff, Int.reduceToNat, Int.reduceEq, Int.reduceLT, Int.reduceLE, reduceCtorEq] at hB
  unfold j56
  simp only [go_sem, ↓reduceIte, Nat.reduceAdd, Nat.reduceMul, Nat.reduceSub, Nat.reduceLT, Nat.reduceLeDiff, Nat.reduceEqDiff, Int.reduceToNat, Int.reduceEq, Int.reduceLT, Int.reduceLE, reduceCtorEq]
  refine loopF Nat (fun i => [.int .i64 i]) (fun i => [.blk 96 (dG.emb (gOf (p.take i)))]) (fun i => i ≤ p.length ∧ (p.take i).any badPr = false) (fun i => p.length - i) 0 ⟨by omega, rfl⟩ ?_ ?_ ?_
  · simp only [go_sem, ↓reduceIte, Nat.reduceAdd, Nat.reduceMul, Nat.reduceSub, Nat.reduceLT, Nat.reduceLeDiff, Nat.reduceEqDiff, Int.reduceToNat, Int.reduceEq, Int.reduceLT, Int.reduceLE, reduceCtorEq]
  · rfl
  rintro i ⟨hi, hi2⟩
  by_cases h1 : i < p.length
  · have h1' : (i : Int) < p.length := by omega
    have hw : IntKind.i64.wrap ((i : Int) + 1) = ((i + 1 : Nat) : Int) := IntWalk.i64_in _ (by omega)
    cases hb : badPr (p.getD i dPr.dft) with
    | true =>
      have hb' := hb
      unfold badPr at hb'
      unfold j56_1
      simp only [go_sem, ↓reduceIte, Nat.reduceAdd, Nat.reduceMul, Nat.reduceSub, Nat.reduceLT, Nat.reduceLeDiff, Nat.reduceEqDiff, Int.reduceToNat, Int.reduceEq, Int.reduceLT, Int.reduceLE, reduceCtorEq, h1, h1', hw, hb']
      have hany : p.any badPr = true := any_of h1 hb
      exact ⟨by omega, by rw [readV, if_pos hany], by rw [readM, if_pos hany]⟩
    | false =>
      have hb' := hb
      unfold badPr at hb'
      obtain ⟨a, b, ha, hb2, ha5, hb5⟩ : ∃ a b : Nat, (p.getD i dPr.dft).a = a ∧ (p.getD i dPr.dft).b = b ∧ a < 5 ∧ b < 5 := by
        simp only [Bool.or_eq_false_iff, decide_eq_false_iff_not] at hb'
        exact ⟨(p.getD i dPr.dft).a.toNat, (p.getD i dPr.dft).b.toNat, by omega, by omega, by omega, by omega⟩
      rw [ha, hb2] at hb'
      unfold j56_1
      simp only [go_sem, ↓reduceIte, Nat.reduceAdd, Nat.reduceMul, Nat.reduceSub, Nat.reduceLT, Nat.reduceLeDiff, Nat.reduceEqDiff, Int.reduceToNat, Int.reduceEq, Int.reduceLT, Int.reduceLE, reduceCtorEq, h1, h1', hw, ha, hb2, hb', ha5, hb5, upd_row, gOf_step h1 ha hb2]
      refine ⟨by omega, ⟨by omega, by omega⟩, ⟨by omega, by omega⟩, i + 1, ⟨by omega, ?_⟩, by omega, rfl, rfl⟩
      rw [any_take dPr.dft _ h1 hi2, hb]
  · have h1' : ¬ (i : Int) < p.length := by omega
    have e : i = p.length := by omega
    subst e
    unfold j56_1
    simp only [go_sem, ↓reduceIte, Nat.reduceAdd, Nat.reduceMul, Nat.reduceSub, Nat.reduceLT, Nat.reduceLeDiff, Nat.reduceEqDiff, Int.reduceToNat, Int.reduceEq, Int.reduceLT, Int.reduceLE, reduceCtorEq, h1']
    unfold j56_2
    simp only [go_sem, ↓reduceIte, Nat.reduceAdd, Nat.reduceMul, Nat.reduceSub, Nat.reduceLT, Nat.reduceLeDiff, Nat.reduceEqDiff, Int.reduceToNat, Int.reduceEq, Int.reduceLT, Int.reduceLE, reduceCtorEq]
    rw [List.take_length] at hi2 ⊢
    exact ⟨by rw [readV, if_neg (by rw [hi2]; simp)], by rw [readM, if_neg (by rw [hi2]; simp)]; rfl⟩
/-- The first that is, of some tries. -/
def scan {α : Type} (f : Nat → Option α) : Nat → Nat → Option α
  | _, 0 => none
  | k, n + 1 => match f k with
    | some r => some r
    | none => scan f (k + 1) n
def gI (g : Gr) (x y : Int) : Bool := g x.toNat y.toNat
def longF (g : Gr) : Nat → List Int → Option (List Int)
  | 0, row => if gI g (row.getD (row.length - 1) 0) (row.getD 0 0) = true then some row else none
  | n + 1, row => scan (fun k => if (gI g (row.getD (row.length - 1) 0) k && !hasI row k) = true then longF g n (row ++ [(k : Int)]) else none) 0 5
theorem scan_some {α : Type} {f : Nat → Option α} {r : α} : ∀ {n k : Nat}, scan f k n = some r → ∃ k, f k = some r
  | 0, _, h => by cases h
  | n + 1, k, h => by
    rw [scan] at h
    cases hf : f k with
    | some r' => rw [hf] at h; exact ⟨k, by rw [hf]; exact h⟩
    | none => rw [hf] at h; exact scan_some h
theorem longF_len {g : Gr} : ∀ {n : Nat} {row r : List Int}, longF g n row = some r → r.length = row.length + n
  | 0, row, r, h => by
    rw [longF] at h
    split at h
    · cases h; rfl
    · cases h
  | n + 1, row, r, h => by
    rw [longF] at h
    obtain ⟨k, hk⟩ := scan_some h
    split at hk
    · have := longF_len hk
      rw [List.length_append] at this
      simp only [List.length_cons, List.length_nil] at this
      omega
    · cases hk
def dNil : DP (Option (List Int)) := ⟨fun | none => .nils | some l => dIs.emb l, fun r y => by cases y with | none => rfl | some l => exact dIs.ren r l⟩
theorem dnil_none : dNil.emb none = .nils := nr rfl
theorem dnil_some (l : List Int) : dNil.emb (some l) = dIs.emb l := nr rfl
attribute [go_sem] dnil_none dnil_some
abbrev okRow (row : List Int) : Prop := ∀ x, x ∈ row → 0 ≤ x ∧ x < 5
def j62_1 : JC :=
  (.seq (.ops <|
  qo 37 (.cmp .lss (.t 36) (I 5)) <|
  .nil)
  (.seq (.cond (.t 37)
  .skip
  (.exit 0))
  (.seq (.block 1 (.seq (.ops <|
  qo 38 (.mv (.t 36)) <|
  qo 39 (.ix 5 1 false (.t 35) (.t 36)) <|
  qo 8 (.mv (.t 38)) <|
  qo 9 (.mv (.t 39)) <|
  .nil)
  (.prune [9, 1, 8, 36, 35, 0, 2] (.seq (.seq (.ops <|
  qo 40 (.mv (.t 9)) <|
  qo 41 (.nt (.t 40)) <|
  qo 42 (.mv (.t 41)) <|
  .prune [42, 1, 8, 36, 35, 0, 2] <|
  .sc true 46 42 (qo 43 (.mv (.t 1)) <|
  qo 44 (.mv (.t 8)) <|
  eo 45 (.call 71 [(.t 43), (.t 44)]) <|
  .nil) (.t 45) <|
  .nil)
  (.cond (.t 46)
  (.exit 1)
  .skip))
  (.prune [0, 1, 8, 2, 36, 35] (.seq (.ops <|
  qo 47 (.mv (.t 0)) <|
  qo 48 (.mv (.t 1)) <|
  eo 49 (.call 72 [(.t 48)]) <|
  qo 50 (.mv (.t 8)) <|
  eo 51 (.bsl 3 1 1 (.int .i64 0) [(0, (.t 50))]) <|
  .prune [49, 51, 2, 47, 36, 35, 1, 0] <|
  eo 52 (.app 3 1 8 (.t 49) (.t 51)) <|
  qo 53 (.mv (.t 2)) <|
  eo 54 (.call 62 [(.t 47), (.t 52), (.t 53)]) <|
  qo 10 (.mv (.t 54)) <|
  .nil)
  (.prune [10, 36, 35, 1, 0, 2] (.seq (.ops <|
  qo 55 (.mv (.t 10)) <|
  qo 56 (.snil true (.t 55)) <|
  .nil)
  (.cond (.t 56)
  (.seq (.ops <|
  qo 57 (.mv (.t 10)) <|
  qo 6 (.mv (.t 57)) <|
  .nil)
  .ret)
  .skip)))))))))
  (.prune [36, 35, 1, 0, 2] (.ops <|
  qo 58 (.ar .add (.t 36) (I 1)) <|
  qo 36 (.mv (.t 58)) <|
  .nil)))))
def j62_2 : JC :=
  (.prune [] (.seq (.ops <|
  qo 6 (.mv (.c .nils)) <|
  .nil)
  .ret))
def j62 : JC :=
  (.seq (.ops <|
  qo 6 (.mv (.c .nils)) <|
  .nil)
  (.seq (.ops <|
  qo 11 (.mv (.t 1)) <|
  qo 12 (.mv (.t 1)) <|
  qo 13 (.len (.t 12)) <|
  qo 14 (.ar .sub (.t 13) (I 1)) <|
  qo 15 (.is 1 (.t 11) (.t 14)) <|
  eo 16 (.load 1 false (.t 15)) <|
  qo 7 (.mv (.t 16)) <|
  .nil)
  (.seq (.seq (.ops <|
  .prune [1, 2, 0, 7] <|
  qo 17 (.mv (.t 1)) <|
  qo 18 (.len (.t 17)) <|
  qo 19 (.mv (.t 2)) <|
  qo 20 (.cmp .eql (.t 18) (.t 19)) <|
  .nil)
  (.prune [20, 0, 7, 1, 2] (.cond (.t 20)
  (.seq (.seq (.dops <|
  qo 21 (.mv (.t 0)) <|
  qo 22 (.mv (.t 7)) <|
  .prune [1, 21, 22] <|
  qo 23 (.mv (.t 1)) <|
  qo 24 (.is 1 (.t 23) (I 0)) <|
  eo 25 (.load 1 false (.t 24)) <|
  qo 26 (.nck (.t 21)) <|
  .prune [26, 22, 25, 1] <|
  qo 27 (.ia 5 5 (.t 26) (.t 22)) <|
  qo 28 (.ia 5 1 (.t 27) (.t 25)) <|
  eo 29 (.load 1 false (.t 28)) <|
  .nil)
  (.prune [29, 1] (.cond (.t 29)
  (.seq (.ops <|
  qo 30 (.mv (.t 1)) <|
  qo 6 (.mv (.t 30)) <|
  .nil)
  .ret)
  .skip)))
  (.prune [] (.seq (.ops <|
  qo 6 (.mv (.c .nils)) <|
  .nil)
  .ret)))
  .skip)))
  (.prune [0, 7, 1, 2] (.seq (.seq (.ops <|
  qo 31 (.mv (.t 0)) <|
  qo 32 (.mv (.t 7)) <|
  qo 33 (.nck (.t 31)) <|
  qo 34 (.ia 5 5 (.t 33) (.t 32)) <|
  eo 35 (.load 5 true (.t 34)) <|
  qo 36 (.mv (I 0)) <|
  .nil)
  (.prune [36, 35, 1, 0, 2] (.block 0 (.loop [35, 1, 0, 2] [36] j62_1))))
  j62_2)))))
theorem c62 : fnIs Try.prog qall 62 = some (j62.flat, [.tmp 6], 59) := by kernel_rfl
theorem w62 : j62.wf 59 = true := by kernel_rfl
def Glo (g : Gr) (n many : Nat) : FH := FH.rd 71 (.two dIs .int) (.one .bool) (fun _ => True) (fun y => hasI y.1 y.2.1) <|
  FH.mk 72 (.one dIs) (fun y => y.1.length ≤ 1000000) (fun y => .vec 0 y.1.length) (fun y => [.vec 3 1 (y.1.map DT.int.emb)]) <|
  FH.fz 62 (.three (DT.ref dG) dIs .int) dNil (fun y => y.1 = g ∧ y.2.1.length + n = many ∧ 1 ≤ y.2.1.length ∧ okRow y.2.1 ∧ y.2.2.1 = many) (fun y => longF g n y.2.1) FH.none
theorem Glo_eq (g : Gr) (n many : Nat) (f : FuncId) (a : List SV) (m : List Res) : Glo g n many f a m = (FH.rd 71 (.two dIs .int) (.one .bool) (fun _ => True) (fun y => hasI y.1 y.2.1) <|
  FH.mk 72 (.one dIs) (fun y => y.1.length ≤ 1000000) (fun y => .vec 0 y.1.length) (fun y => [.vec 3 1 (y.1.map DT.int.emb)]) <|
  FH.fz 62 (.three (DT.ref dG) dIs .int) dNil (fun y => y.1 = g ∧ y.2.1.length + n = many ∧ 1 ≤ y.2.1.length ∧ okRow y.2.1 ∧ y.2.2.1 = many) (fun y => longF g n y.2.1) FH.none) f a m := nr rfl
theorem f_longer (g : Gr) (many : Nat) (hm : many ≤ 5) : ∀ (n : Nat) (row : List Int), row.length + n = many → 1 ≤ row.length → okRow row →
    FnOK Try.prog 62 [.ref (dG.emb g) [] 0, dIs.emb row, .int .i64 many] [] (dNil.emb (longF g n row)) []
  | 0, row, hl, h1, hr => by
    refine fn_walkF c62 w62 FH.none_ok rfl ?_
    obtain ⟨a, ha, ha5⟩ : ∃ a : Nat, row.getD (row.length - 1) 0 = a ∧ a < 5 := by
      have := hr _ (getD_mem (l := row) (i := row.length - 1) (d := 0) (by omega))
      exact ⟨(row.getD (row.length - 1) 0).toNat, by omega, by omega⟩
    obtain ⟨b, hb, hb5⟩ : ∃ b : Nat, row.getD 0 0 = b ∧ b < 5 := by
      have := hr _ (getD_mem (l := row) (i := 0) (d := 0) (by omega))
      exact ⟨(row.getD 0 0).toNat, by omega, by omega⟩
    have hw : IntKind.i64.wrap ((row.length : Int) - 1) = ((row.length - 1 : Nat) : Int) := by
      rw [IntWalk.i64_in _ (by omega)]; omega
    have e1 : row.length - 1 < row.length := by omega
    have e1' : ((row.length - 1 : Nat) : Int) < row.length := by omega
    obtain rfl : many = row.length := by omega
    have e0 : 0 < row.length := by omega
    have e0' : (0 : Int) < row.length := by omega
    rw [longF, ha, hb, gI, Int.toNat_natCast, Int.toNat_natCast]
    unfold j62
    cases hg : g a b with
    | true =>
      simp only [go_sem, ↓reduceIte, Nat.reduceAdd, Nat.reduceMul, Nat.reduceSub, Nat.reduceLT, Nat.reduceLeDiff, Nat.reduceEqDiff, Int.reduceToNat, Int.reduceEq, Int.reduceLT, Int.reduceLE, reduceCtorEq, hw, e1, e1', ha, hb, ha5, hb5, e0, e0', hg]
      exact ⟨by omega, ⟨by omega, by omega⟩, ⟨by omega, by omega⟩⟩
    | false =>
      simp only [go_sem, ↓reduceIte, Nat.reduceAdd, Nat.reduceMul, Nat.reduceSub, Nat.reduceLT, Nat.reduceLeDiff, Nat.reduceEqDiff, Int.reduceToNat, Int.reduceEq, Int.reduceLT, Int.reduceLE, reduceCtorEq, hw, e1, e1', ha, hb, ha5, hb5, e0, e0', hg]
      exact ⟨by omega, ⟨by omega, by omega⟩, ⟨by omega, by omega⟩⟩
  | n + 1, row, hl, h1, hr => by
    have ih := f_longer g many hm n
    have hok : FHOK Try.prog (Glo g n many) := FH.rd_ok (by kernel_rfl) (fun y _ => f_ContainsI y.1 y.2.1) <|
      FH.mk_ok (by kernel_rfl) (fun y _ => plainM (pv_vec _ _) ⟨plR_vec _ _ DT.int _, trivial⟩) (fun y h => f_CloneInt y.1 h) <|
      FH.fz_ok (by kernel_rfl) (fun y h => by
        obtain ⟨g', row', m', u⟩ := y
        obtain ⟨h1, h2, h3, h4, h5⟩ := h
        simp only at h1 h2 h3 h4 h5
        subst h1; subst h5
        exact ih row' h2 h3 h4) FH.none_ok
    refine fn_walkF c62 w62 hok rfl ?_
    obtain ⟨a, ha, ha5⟩ : ∃ a : Nat, row.getD (row.length - 1) 0 = a ∧ a < 5 := by
      have := hr _ (getD_mem (l := row) (i := row.length - 1) (d := 0) (by omega))
      exact ⟨(row.getD (row.length - 1) 0).toNat, by omega, by omega⟩
    have hw : IntKind.i64.wrap ((row.length : Int) - 1) = ((row.length - 1 : Nat) : Int) := by
      rw [IntWalk.i64_in _ (by omega)]; omega
    have e1 : row.length - 1 < row.length := by omega
    have e1' : ((row.length - 1 : Nat) : Int) < row.length := by omega
    have e2 : ¬ (row.length : Int) = many := by omega
    unfold j62
    simp only [go_sem, ↓reduceIte, Nat.reduceAdd, Nat.reduceMul, Nat.reduceSub, Nat.reduceLT, Nat.reduceLeDiff, Nat.reduceEqDiff, Int.reduceToNat, Int.reduceEq, Int.reduceLT, Int.reduceLE, reduceCtorEq, hw, e1, e1', ha, ha5, e2]
    refine ⟨by omega, ⟨by omega, by omega⟩, ?_⟩
    generalize hf : (fun k : Nat => if (gI g (row.getD (row.length - 1) 0) k && !hasI row k) = true then longF g n (row ++ [(k : Int)]) else none) = f
    have hL : longF g (n + 1) row = scan f 0 5 := by rw [longF, hf]
    rw [hL]
    refine loopF Nat (fun k => [.int .i64 k]) (fun _ => []) (fun k => k ≤ 5 ∧ scan f 0 5 = scan f k (5 - k)) (fun k => 5 - k) 0 ⟨by omega, rfl⟩ ?_ rfl ?_
    · simp only [go_sem, ↓reduceIte, Nat.reduceAdd, Nat.reduceMul, Nat.reduceSub, Nat.reduceLT, Nat.reduceLeDiff, Nat.reduceEqDiff, Int.reduceToNat, Int.reduceEq, Int.reduceLT, Int.reduceLE, reduceCtorEq]
    rintro k ⟨hk, hinv⟩
    by_cases h3 : k < 5
    · have h3' : (k : Int) < 5 := by omega
      have hwk : IntKind.i64.wrap ((k : Int) + 1) = ((k + 1 : Nat) : Int) := IntWalk.i64_in _ (by omega)
      have hst : scan f 0 5 = match f k with | some r => some r | none => scan f (k + 1) (5 - (k + 1)) := by
        rw [hinv, show 5 - k = (5 - (k + 1)) + 1 by omega, scan]; cases f k <;> rfl
      have hfk : f k = if (g a k && !hasI row k) = true then longF g n (row ++ [(k : Int)]) else none := by rw [← hf]; simp only [ha, gI, Int.toNat_natCast]
      have hskip : (g a k && !hasI row k) = false → scan f 0 5 = scan f (k + 1) (5 - (k + 1)) := fun h => by rw [hst, hfk, if_neg (by rw [h]; simp)]
      have hal : (row ++ [(k : Int)]).length + n = many := by rw [List.length_append]; simp only [List.length_cons, List.length_nil]; omega
      have hal1 : 1 ≤ (row ++ [(k : Int)]).length := by rw [List.length_append]; simp only [List.length_cons, List.length_nil]; omega
      have hao : okRow (row ++ [(k : Int)]) := by
        intro x hx
        rcases List.mem_append.1 hx with hx | hx
        · exact hr x hx
        · simp only [List.mem_cons, List.not_mem_nil, or_false] at hx; omega
      cases hgk : g a k with
      | false =>
        have hs := hskip (by rw [hgk]; rfl)
        unfold j62_1
        simp only [go_sem, ↓reduceIte, Nat.reduceAdd, Nat.reduceMul, Nat.reduceSub, Nat.reduceLT, Nat.reduceLeDiff, Nat.reduceEqDiff, Int.reduceToNat, Int.reduceEq, Int.reduceLT, Int.reduceLE, reduceCtorEq, Glo_eq, h3, h3', hwk, hgk]
        exact ⟨by omega, k + 1, ⟨by omega, hs⟩, by omega, rfl⟩
      | true =>
        cases hh : hasI row k with
        | true =>
          have hs := hskip (by rw [hgk, hh]; rfl)
          unfold j62_1
          simp only [go_sem, ↓reduceIte, Nat.reduceAdd, Nat.reduceMul, Nat.reduceSub, Nat.reduceLT, Nat.reduceLeDiff, Nat.reduceEqDiff, Int.reduceToNat, Int.reduceEq, Int.reduceLT, Int.reduceLE, reduceCtorEq, Glo_eq, h3, h3', hwk, hgk, hh]
          exact ⟨by omega, k + 1, ⟨by omega, hs⟩, by omega, rfl⟩
        | false =>
          cases hr : longF g n (row ++ [(k : Int)]) with
          | none =>
            have hs : scan f 0 5 = scan f (k + 1) (5 - (k + 1)) := by rw [hst, hfk, hr]; simp
            unfold j62_1
            simp only [go_sem, ↓reduceIte, Nat.reduceAdd, Nat.reduceMul, Nat.reduceSub, Nat.reduceLT, Nat.reduceLeDiff, Nat.reduceEqDiff, Int.reduceToNat, Int.reduceEq, Int.reduceLT, Int.reduceLE, reduceCtorEq, Glo_eq, h3, h3', hwk, hgk, hh, hr]
            exact ⟨by omega, by omega, by omega, ⟨hal, hal1, hao⟩, k + 1, ⟨by omega, hs⟩, by omega, rfl⟩
          | some r =>
            have hs : scan f 0 5 = some r := by rw [hst, hfk, hr, hgk, hh]; rfl
            have hrl : ¬ r.length = 0 := by have := longF_len hr; rw [List.length_append] at this; omega
            unfold j62_1
            simp only [go_sem, ↓reduceIte, Nat.reduceAdd, Nat.reduceMul, Nat.reduceSub, Nat.reduceLT, Nat.reduceLeDiff, Nat.reduceEqDiff, Int.reduceToNat, Int.reduceEq, Int.reduceLT, Int.reduceLE, reduceCtorEq, Glo_eq, h3, h3', hwk, hgk, hh, hr, hrl, hs]
            exact ⟨by omega, by omega, by omega, hal, hal1, hao⟩
    · have e : k = 5 := by omega
      subst e
      unfold j62_1
      simp only [go_sem, ↓reduceIte, Nat.reduceAdd, Nat.reduceMul, Nat.reduceSub, Nat.reduceLT, Nat.reduceLeDiff, Nat.reduceEqDiff, Int.reduceToNat, Int.reduceEq, Int.reduceLT, Int.reduceLE, reduceCtorEq]
      unfold j62_2
      simp only [go_sem, ↓reduceIte, Nat.reduceAdd, Nat.reduceMul, Nat.reduceSub, Nat.reduceLT, Nat.reduceLeDiff, Nat.reduceEqDiff, Int.reduceToNat, Int.reduceEq, Int.reduceLT, Int.reduceLE, reduceCtorEq]
      rw [hinv]; rfl
def ringG (g : Gr) : Option (List Int) := scan (fun m => scan (fun k => longF g m [(k : Int)]) 0 5) 0 5
def j57_1 : JC :=
  (.seq (.ops <|
  qo 11 (.cmp .lss (.t 10) (I 5)) <|
  .nil)
  (.seq (.cond (.t 11)
  .skip
  (.exit 2))
  (.seq (.block 3 (.seq (.ops <|
  qo 12 (.mv (.t 10)) <|
  qo 4 (.mv (.t 12)) <|
  .nil)
  (.seq (.ops <|
  qo 13 (.mv (.t 0)) <|
  qo 14 (.mv (.t 4)) <|
  .prune [14, 3, 13, 10, 0] <|
  eo 15 (.bsl 3 1 1 (.int .i64 0) [(0, (.t 14))]) <|
  qo 16 (.mv (.t 3)) <|
  eo 17 (.call 62 [(.t 13), (.t 15), (.t 16)]) <|
  qo 5 (.mv (.t 17)) <|
  .nil)
  (.prune [5, 10, 0, 3] (.seq (.ops <|
  qo 18 (.mv (.t 5)) <|
  qo 19 (.snil true (.t 18)) <|
  .nil)
  (.cond (.t 19)
  (.seq (.ops <|
  qo 20 (.mv (.t 5)) <|
  qo 2 (.mv (.t 20)) <|
  .nil)
  .ret)
  .skip))))))
  (.prune [10, 0, 3] (.ops <|
  qo 21 (.ar .add (.t 10) (I 1)) <|
  qo 10 (.mv (.t 21)) <|
  .nil)))))
def j57_2 : JC :=
  (.prune [3, 0] (.ops <|
  qo 8 (.mv (.t 3)) <|
  qo 9 (.ar .add (.t 8) (I 1)) <|
  qo 3 (.mv (.t 9)) <|
  .nil))
def j57_3 : JC :=
  (.seq (.seq (.ops <|
  qo 6 (.mv (.t 3)) <|
  qo 7 (.cmp .leq (.t 6) (I 5)) <|
  .nil)
  (.cond (.t 7)
  .skip
  (.exit 0)))
  (.seq (.block 1 (.seq (.ops <|
  qo 10 (.mv (I 0)) <|
  .nil)
  (.block 2 (.loop [0, 3] [10] j57_1))))
  j57_2))
def j57_4 : JC :=
  (.prune [] (.seq (.ops <|
  qo 2 (.mv (.c .nils)) <|
  .nil)
  .ret))
def j57 : JC :=
  (.seq (.ops <|
  qo 2 (.mv (.c .nils)) <|
  .nil)
  (.seq (.seq (.ops <|
  qo 3 (.mv (I 1)) <|
  .nil)
  (.block 0 (.loop [0] [3] j57_3)))
  j57_4))
theorem c57 : fnIs Try.prog qall 57 = some (j57.flat, [.tmp 2], 22) := by kernel_rfl
theorem w57 : j57.wf 22 = true := by kernel_rfl
def Grg (f : FuncId) (a : List SV) (m : List Res) : Sx.Call := (FH.fz 62 (.three (DT.ref dG) dIs .int) dNil (fun y => y.2.2.1 ≤ 5 ∧ y.2.1.length ≤ y.2.2.1 ∧ 1 ≤ y.2.1.length ∧ okRow y.2.1) (fun y => longF y.1 (y.2.2.1.toNat - y.2.1.length) y.2.1) FH.none) f a m
theorem Grg_eq (f : FuncId) (a : List SV) (m : List Res) : Grg f a m = (FH.fz 62 (.three (DT.ref dG) dIs .int) dNil (fun y => y.2.2.1 ≤ 5 ∧ y.2.1.length ≤ y.2.2.1 ∧ 1 ≤ y.2.1.length ∧ okRow y.2.1) (fun y => longF y.1 (y.2.2.1.toNat - y.2.1.length) y.2.1) FH.none) f a m := nr rfl
theorem Grg_ok : FHOK Try.prog Grg := FH.fz_ok (by kernel_rfl) (fun y h => by
        obtain ⟨g, row, m, u⟩ := y
        obtain ⟨h1, h2, h3, h4⟩ := h
        simp only at h1 h2 h3 h4
        have := f_longer g m.toNat (by omega) (m.toNat - row.length) row (by omega) h3 h4
        rw [show ((m.toNat : Nat) : Int) = m by omega] at this
        exact this) FH.none_ok
theorem f_ring (g : Gr) : FnOK Try.prog 57 [.ref (dG.emb g) [] 0] [] (dNil.emb (ringG g)) [] := by
  refine fn_walkF c57 w57 Grg_ok rfl ?_
  unfold j57
  simp only [go_sem, ↓reduceIte, Nat.reduceAdd, Nat.reduceMul, Nat.reduceSub, Nat.reduceLT, Nat.reduceLeDiff, Nat.reduceEqDiff, Int.reduceToNat, Int.reduceEq, Int.reduceLT, Int.reduceLE, reduceCtorEq]
  generalize hF : (fun m => scan (fun k => longF g m [((k : Nat) : Int)]) 0 5) = F
  have hG : ringG g = scan F 0 5 := by rw [← hF]; rfl
  rw [hG]
  refine loopF Nat (fun m => [.int .i64 ((m + 1 : Nat) : Int)]) (fun _ => []) (fun m => m ≤ 5 ∧ scan F 0 5 = scan F m (5 - m)) (fun m => 5 - m) 0 ⟨by omega, rfl⟩ ?_ rfl ?_
  · simp only [go_sem, ↓reduceIte, Nat.reduceAdd, Nat.reduceMul, Nat.reduceSub, Nat.reduceLT, Nat.reduceLeDiff, Nat.reduceEqDiff, Int.reduceToNat, Int.reduceEq, Int.reduceLT, Int.reduceLE, reduceCtorEq]
  rintro m ⟨hm, hinv⟩
  by_cases h1 : m < 5
  · have h1' : ((m + 1 : Nat) : Int) ≤ 5 := by omega
    have hwm : IntKind.i64.wrap (((m + 1 : Nat) : Int) + 1) = ((m + 1 + 1 : Nat) : Int) := IntWalk.i64_in _ (by omega)
    have hst : scan F 0 5 = match F m with | some r => some r | none => scan F (m + 1) (5 - (m + 1)) := by
      rw [hinv, show 5 - m = (5 - (m + 1)) + 1 by omega, scan]; cases F m <;> rfl
    have hFm : F m = scan (fun k => longF g m [((k : Nat) : Int)]) 0 5 := by rw [← hF]
    generalize hf : (fun k => longF g m [((k : Nat) : Int)]) = f at hFm
    unfold j57_3
    simp only [go_sem, ↓reduceIte, Nat.reduceAdd, Nat.reduceMul, Nat.reduceSub, Nat.reduceLT, Nat.reduceLeDiff, Nat.reduceEqDiff, Int.reduceToNat, Int.reduceEq, Int.reduceLT, Int.reduceLE, reduceCtorEq, h1, h1']
    refine loopF Nat (fun k => [.int .i64 k]) (fun _ => []) (fun k => k ≤ 5 ∧ F m = scan f k (5 - k)) (fun k => 5 - k) 0 ⟨by omega, hFm⟩ ?_ rfl ?_
    · simp only [go_sem, ↓reduceIte, Nat.reduceAdd, Nat.reduceMul, Nat.reduceSub, Nat.reduceLT, Nat.reduceLeDiff, Nat.reduceEqDiff, Int.reduceToNat, Int.reduceEq, Int.reduceLT, Int.reduceLE, reduceCtorEq]
    rintro k ⟨hk, hinv2⟩
    by_cases h3 : k < 5
    · have h3' : (k : Int) < 5 := by omega
      have hwk : IntKind.i64.wrap ((k : Int) + 1) = ((k + 1 : Nat) : Int) := IntWalk.i64_in _ (by omega)
      have hst2 : F m = match f k with | some r => some r | none => scan f (k + 1) (5 - (k + 1)) := by
        rw [hinv2, show 5 - k = (5 - (k + 1)) + 1 by omega, scan]; cases f k <;> rfl
      have hfk : f k = longF g m [(k : Int)] := by rw [← hf]
      have hao : okRow [(k : Int)] := by
        intro x hx
        simp only [List.mem_cons, List.not_mem_nil, or_false] at hx; omega
      cases hr : longF g m [(k : Int)] with
      | none =>
        have hs : F m = scan f (k + 1) (5 - (k + 1)) := by rw [hst2, hfk, hr]
        unfold j57_1
        simp only [go_sem, ↓reduceIte, Nat.reduceAdd, Nat.reduceMul, Nat.reduceSub, Nat.reduceLT, Nat.reduceLeDiff, Nat.reduceEqDiff, Int.reduceToNat, Int.reduceEq, Int.reduceLT, Int.reduceLE, reduceCtorEq, Grg_eq, h3, h3', hwk, Nat.add_sub_cancel, hr]
        exact ⟨⟨by omega, by omega, hao⟩, k + 1, ⟨by omega, hs⟩, by omega, rfl⟩
      | some r =>
        have hs : scan F 0 5 = some r := by rw [hst, hst2, hfk, hr]
        have hrl : ¬ r.length = 0 := by have := longF_len hr; simp only [List.length_cons, List.length_nil] at this; omega
        unfold j57_1
        simp only [go_sem, ↓reduceIte, Nat.reduceAdd, Nat.reduceMul, Nat.reduceSub, Nat.reduceLT, Nat.reduceLeDiff, Nat.reduceEqDiff, Int.reduceToNat, Int.reduceEq, Int.reduceLT, Int.reduceLE, reduceCtorEq, Grg_eq, h3, h3', hwk, Nat.add_sub_cancel, hr, hrl, hs]
        exact ⟨by omega, by omega, hao⟩
    · have e : k = 5 := by omega
      subst e
      unfold j57_1
      simp only [go_sem, ↓reduceIte, Nat.reduceAdd, Nat.reduceMul, Nat.reduceSub, Nat.reduceLT, Nat.reduceLeDiff, Nat.reduceEqDiff, Int.reduceToNat, Int.reduceEq, Int.reduceLT, Int.reduceLE, reduceCtorEq]
      unfold j57_2
      simp only [go_sem, ↓reduceIte, Nat.reduceAdd, Nat.reduceMul, Nat.reduceSub, Nat.reduceLT, Nat.reduceLeDiff, Nat.reduceEqDiff, Int.reduceToNat, Int.reduceEq, Int.reduceLT, Int.reduceLE, reduceCtorEq, hwm]
      exact ⟨m + 1, ⟨by omega, by rw [hst, hinv2]; rfl⟩, by omega, rfl⟩
  · have e : m = 5 := by omega
    subst e
    unfold j57_3
    simp only [go_sem, ↓reduceIte, Nat.reduceAdd, Nat.reduceMul, Nat.reduceSub, Nat.reduceLT, Nat.reduceLeDiff, Nat.reduceEqDiff, Int.reduceToNat, Int.reduceEq, Int.reduceLT, Int.reduceLE, reduceCtorEq]
    unfold j57_4
    simp only [go_sem, ↓reduceIte, Nat.reduceAdd, Nat.reduceMul, Nat.reduceSub, Nat.reduceLT, Nat.reduceLeDiff, Nat.reduceEqDiff, Int.reduceToNat, Int.reduceEq, Int.reduceLT, Int.reduceLE, reduceCtorEq]
    rw [hinv]; rfl

def j35 : JC :=
  (.seq (.ops <|
  qo 2 (.mv (.c .nils)) <|
  qo 3 (.mv (I 0)) <|
  .nil)
  (.seq (.ops <|
  qo 7 (.mv (.t 0)) <|
  eo 8 (.call 56 [(.t 7)]) <|
  qo 6 (.mv (.t 8)) <|
  qo 9 (.ext 0 (.t 6)) <|
  qo 10 (.ext 1 (.t 6)) <|
  qo 4 (.mv (.t 9)) <|
  qo 5 (.mv (.t 10)) <|
  .nil)
  (.seq (.seq (.ops <|
  qo 11 (.mv (.t 5)) <|
  qo 12 (.cmp .neq (.t 11) (I 0)) <|
  .nil)
  (.prune [12, 5, 4] (.cond (.t 12)
  (.seq (.ops <|
  qo 13 (.mv (.t 5)) <|
  qo 2 (.mv (.c .nils)) <|
  qo 3 (.mv (.t 13)) <|
  .nil)
  .ret)
  .skip)))
  (.prune [4] (.seq (.ops <|
  qo 14 (.mv (.t 4)) <|
  eo 15 (.call 57 [(.t 14)]) <|
  qo 2 (.mv (.t 15)) <|
  qo 3 (.mv (I 0)) <|
  .nil)
  .ret)))))
theorem c35 : fnIs Try.prog qall 35 = some (j35.flat, [.tmp 2, .tmp 3], 16) := by kernel_rfl
theorem w35 : j35.wf 16 = true := by kernel_rfl
def rRing (p : List Pr) : Option (List Int) := if p.any badPr = true then none else ringG (gOf p)
def rErr (p : List Pr) : Int := if p.any badPr = true then 1 else 0
def Grn (f : FuncId) (a : List SV) (m : List Res) : Sx.Call := (FH.mk 56 (.one dPrs) (fun _ => True) (fun y => readV y.1) (fun y => readM 96 y.1) <| FH.fz 57 (.one (DT.ref dG)) dNil (fun _ => True) (fun y => ringG y.1) FH.none) f a m
theorem Grn_eq (f : FuncId) (a : List SV) (m : List Res) : Grn f a m = (FH.mk 56 (.one dPrs) (fun _ => True) (fun y => readV y.1) (fun y => readM 96 y.1) <| FH.fz 57 (.one (DT.ref dG)) dNil (fun _ => True) (fun y => ringG y.1) FH.none) f a m := nr rfl
theorem read_plain (T : TypeId) (p : List Pr) : PlainM (readV p) (readM T p) := by
  unfold readV readM
  split
  · exact plainM (pv_tup ⟨plV_nilp, plV_int _ _, trivial⟩) trivial
  · exact plainM (pv_tup ⟨plV_ptr _ _ _, plV_int _ _, trivial⟩) ⟨plR_blk _ dG _, trivial⟩
theorem Grn_ok : FHOK Try.prog Grn := FH.mk_ok (by kernel_rfl) (fun y _ => read_plain _ y.1) (fun y _ => f_read y.1) <| FH.fz_ok (by kernel_rfl) (fun y _ => f_ring y.1) FH.none_ok
theorem f_Ring (p : List Pr) : FnOK Try.prog 35 [dPrs.emb p] [] (.tup [dNil.emb (rRing p), .int .i64 (rErr p)]) [] := by
  refine fn_walkF c35 w35 Grn_ok rfl ?_
  unfold j35
  unfold rRing rErr
  by_cases h : p.any badPr = true
  · have e1 : readV p = .tup [.nilp, .int .i64 1] := by rw [readV, if_pos h]
    have e2 : ∀ T, readM T p = [] := fun T => by rw [readM, if_pos h]
    simp only [go_sem, ↓reduceIte, Nat.reduceAdd, Nat.reduceMul, Nat.reduceSub, Nat.reduceLT, Nat.reduceLeDiff, Nat.reduceEqDiff, Int.reduceToNat, Int.reduceEq, Int.reduceLT, Int.reduceLE, reduceCtorEq, Grn_eq, e1, e2, h]
  · have e1 : readV p = .tup [.ptr 0 [] 0, .int .i64 0] := by rw [readV, if_neg h]
    have e2 : ∀ T, readM T p = [.blk T (dG.emb (gOf p))] := fun T => by rw [readM, if_neg h]
    cases hr : ringG (gOf p) with
    | none => simp only [go_sem, ↓reduceIte, Nat.reduceAdd, Nat.reduceMul, Nat.reduceSub, Nat.reduceLT, Nat.reduceLeDiff, Nat.reduceEqDiff, Int.reduceToNat, Int.reduceEq, Int.reduceLT, Int.reduceLE, reduceCtorEq, Grn_eq, e1, e2, h, hr]
    | some r => simp only [go_sem, ↓reduceIte, Nat.reduceAdd, Nat.reduceMul, Nat.reduceSub, Nat.reduceLT, Nat.reduceLeDiff, Nat.reduceEqDiff, Int.reduceToNat, Int.reduceEq, Int.reduceLT, Int.reduceLE, reduceCtorEq, Grn_eq, e1, e2, h, hr]
end Go.Proofs.Ytmddnblbfmlgoaa.Rg
