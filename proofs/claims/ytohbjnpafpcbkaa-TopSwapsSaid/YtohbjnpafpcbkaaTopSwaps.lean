/- THE LAW 'TopSwaps' HANDS BACK TRUE, AND WHAT IT READS STANDS AS IT DID: FOR EVERY START. Conditions: none. -/
import Derived.Test.YtohbjnpafpcbkaaTopW
import Derived.Test.YtohbjnpafpcbkaaTopZ
import Derived.Test.YtohbjnpafpcbkaaSwapS
import Derived.WalkKit
import Derived.ProofKit
import Derived.OpenShut
set_option linter.unusedSimpArgs false
set_option linter.unusedVariables false
set_option maxRecDepth 100000
open Go Go.Sx Go.Proofs Go.ChangeShapes Go.WideShapes Go.ChangeAt Go.RowKit
namespace Go.Proofs.Ytohbjnpafpcbkaa.TopSwaps
open Go.Proofs.Ytohbjnpafpcbkaa.D Go.Proofs.Ytohbjnpafpcbkaa.Tr Go.Proofs.Ytohbjnpafpcbkaa.Fu Go.Proofs.Ytohbjnpafpcbkaa.Sw Go.Proofs.Ytohbjnpafpcbkaa.Rc Go.Proofs.Ytohbjnpafpcbkaa.Tp

def j22 : JC :=
  (.seq (.ops <|
  qo 4 (.mv (I 0)) <|
  .nil)
  (.seq (.ops <|
  qo 6 (.mv (.t 0)) <|
  qo 7 (.mv (.t 1)) <|
  qo 8 (.ar .rem (.t 6) (.t 7)) <|
  qo 5 (.mv (.t 8)) <|
  .nil)
  (.seq (.seq (.ops <|
  qo 9 (.mv (.t 5)) <|
  qo 10 (.cmp .lss (.t 9) (I 0)) <|
  .nil)
  (.cond (.t 10)
  (.ops <|
  .prune [5, 1] <|
  qo 11 (.mv (.t 5)) <|
  qo 12 (.mv (.t 1)) <|
  qo 13 (.ar .add (.t 11) (.t 12)) <|
  qo 5 (.mv (.t 13)) <|
  .nil)
  .skip))
  (.prune [5] (.seq (.ops <|
  qo 14 (.mv (.t 5)) <|
  qo 4 (.mv (.t 14)) <|
  .nil)
  .ret)))))
theorem c22 : fnIs Try.prog qall 22 = some (j22.flat, [.tmp 4], 15) := by kernel_rfl
theorem w22 : j22.wf 15 = true := by kernel_rfl
def restI (n m : Int) : Int := if n.tmod m < 0 then IntKind.i64.wrap (n.tmod m + m) else n.tmod m
theorem f_Rest (n m : Int) (h : m ≠ 0) : FnOK Try.prog 22 [.int .i64 n, .int .i64 m] [] (.int .i64 (restI n m)) [] := by
  refine fn_walkF c22 w22 FH.none_ok rfl ?_
  unfold j22
  simp only [go_sem, ↓reduceIte, Nat.reduceAdd, Nat.reduceMul, Nat.reduceSub, Nat.reduceLT, Nat.reduceLeDiff, Nat.reduceEqDiff, Int.reduceToNat, Int.reduceEq, Int.reduceLT, Int.reduceLE, reduceCtorEq]
  refine ⟨h, fun h1 => ?_, fun h1 => ?_⟩
  · rw [restI, if_pos h1]
  · rw [restI, if_neg h1]
/-- What is left when neighbours have changed places again and again. -/
def idxM (m : List Ev) (k : Int) : Int := restI k (if 1 < (m.length : Int) - 1 then (m.length : Int) - 1 else 1)
def oneS (m : List Ev) (k : Int) : List Ev := if (swapF m (idxM m k)).2 = 0 then (swapF m (idxM m k)).1 else m
def manyS (l : List Ev) (a : List Int) : Nat → List Ev
  | 0 => l
  | n + 1 => oneS (manyS l a n) (a.getD n 0)
theorem swapL_eqv {m : List Ev} {i : Nat} (hi : i + 1 < m.length) (h : apartB (m.getD i dEv.dft) (m.getD (i + 1) dEv.dft) = true) : Eqv m (swapL m i) := by
  obtain ⟨xs, a, b, ys, rfl, rfl⟩ : ∃ xs a b ys, m = xs ++ a :: b :: ys ∧ xs.length = i := by
    refine ⟨m.take i, m.getD i dEv.dft, m.getD (i + 1) dEv.dft, m.drop (i + 2), ?_, by simp; omega⟩
    have h1 := split_at (l := m) (show i < m.length by omega)
    rw [drop_getD dEv.dft hi] at h1
    exact h1
  have ga : (xs ++ a :: b :: ys).getD xs.length dEv.dft = a := by simp [List.getD]
  have gb : (xs ++ a :: b :: ys).getD (xs.length + 1) dEv.dft = b := by simp [List.getD, List.getElem?_append_right (show xs.length ≤ xs.length + 1 by omega)]
  rw [ga, gb] at h
  have e : swapL (xs ++ a :: b :: ys) xs.length = xs ++ b :: a :: ys := by
    unfold swapL
    rw [ga, gb, List.set_append_right _ _ (Nat.le_refl _), Nat.sub_self, List.set_cons_zero, List.set_append_right _ _ (by omega), Nat.add_sub_cancel_left, List.set_cons_succ, List.set_cons_zero]
  rw [e]
  exact .swap xs ys h
theorem oneS_eqv (m : List Ev) (k : Int) : Eqv m (oneS m k) := by
  unfold oneS
  split
  · rename_i h
    unfold swapF at h ⊢
    split at h
    · rename_i h1; exact absurd h h1
    · rename_i h1
      rw [if_neg h1]
      split at h
      · cases h
      · rename_i h2
        rw [if_neg h2]
        split at h
        · cases h
        · rename_i h3
          rw [if_neg h3]
          exact swapL_eqv (by omega) (by simpa using h3)
  · exact .refl _
theorem manyS_eqv (l : List Ev) (a : List Int) : ∀ n, Eqv l (manyS l a n)
  | 0 => .refl _
  | n + 1 => .trans (manyS_eqv l a n) (oneS_eqv _ _)
theorem eqv_len {l m : List Ev} (h : Eqv l m) : l.length = m.length := by
  induction h with
  | refl l => rfl
  | swap xs ys _ => simp
  | trans _ _ h1 h2 => exact h1.trans h2
def j4_1 : JC :=
  (.seq (.ops <|
  qo 29 (.cmp .lss (.t 28) (.t 27)) <|
  .nil)
  (.seq (.cond (.t 29)
  .skip
  (.exit 0))
  (.seq (.block 1 (.seq (.ops <|
  qo 30 (.is 1 (.t 26) (.t 28)) <|
  eo 31 (.load 1 false (.t 30)) <|
  qo 9 (.mv (.t 31)) <|
  .nil)
  (.seq (.ops <|
  .prune [7, 9, 28, 27, 26, 0] <|
  qo 33 (.mv (.t 7)) <|
  qo 34 (.mv (.t 9)) <|
  qo 35 (.mv (.t 7)) <|
  qo 36 (.len (.t 35)) <|
  qo 37 (.ar .sub (.t 36) (I 1)) <|
  .prune [37, 34, 33, 28, 27, 26, 0, 7] <|
  qo 38 (.mx (I 1) (.t 37)) <|
  eo 39 (.call 22 [(.t 34), (.t 38)]) <|
  .prune [33, 39, 28, 27, 26, 0, 7] <|
  eo 40 (.call 21 [(.t 33), (.t 39)]) <|
  qo 32 (.mv (.t 40)) <|
  .prune [32, 28, 27, 26, 0, 7] <|
  qo 41 (.ext 0 (.t 32)) <|
  qo 42 (.ext 1 (.t 32)) <|
  qo 10 (.mv (.t 41)) <|
  qo 11 (.mv (.t 42)) <|
  .nil)
  (.frz 10 dEs.frz <| .prune [11, 10, 28, 27, 26, 0, 7] (.seq (.ops <|
  qo 43 (.mv (.t 11)) <|
  qo 44 (.cmp .eql (.t 43) (I 0)) <|
  .nil)
  (.cond (.t 44)
  (.ops <|
  qo 45 (.mv (.t 10)) <|
  qo 7 (.mv (.t 45)) <|
  .nil)
  .skip))))))
  (.prune [28, 27, 26, 7, 0] (.ops <|
  qo 46 (.ar .add (.t 28) (I 1)) <|
  qo 28 (.mv (.t 46)) <|
  .nil)))))
def j4_2 : JC :=
  (.seq (.ops <|
  qo 53 (.mv (.t 13)) <|
  eo 54 (.mop .mlen [(.t 53)]) <|
  qo 55 (.mv (.t 14)) <|
  eo 56 (.mop .mlen [(.t 55)]) <|
  qo 57 (.cmp .neq (.t 54) (.t 56)) <|
  .prune [57, 7, 0, 13, 14] <|
  qo 58 (.mv (.t 57)) <|
  .sc true 64 58 (qo 59 (.mv (.t 7)) <|
  qo 60 (.len (.t 59)) <|
  qo 61 (.mv (.t 0)) <|
  qo 62 (.len (.t 61)) <|
  qo 63 (.cmp .neq (.t 60) (.t 62)) <|
  .nil) (.t 63) <|
  .nil)
  (.prune [64, 13, 14] (.cond (.t 64)
  (.seq (.ops <|
  qo 4 (.mv (B false)) <|
  .nil)
  .ret)
  .skip)))
def j4_3 : JC :=
  (.seq (.ops <|
  qo 71 (.mv (.t 14)) <|
  .prune [15, 71, 14, 66] <|
  eo 72 (.load 4 true (.t 15)) <|
  eo 73 (.mop (.get (.arr 2 2 (.st [(.int .i64), (.int .i64)])) .bool (.bool false) false) [(.t 71), (.t 72)]) <|
  qo 74 (.nt (.t 73)) <|
  .nil)
  (.prune [74, 14, 66] (.cond (.t 74)
  (.seq (.ops <|
  qo 4 (.mv (B false)) <|
  .nil)
  .ret)
  .skip)))
def j4 : ZC :=
  (.seq (.leaf (.ops <|
  qo 4 (.mv (B false)) <|
  .nil))
  (.seq (.leaf (.seq (.ops <|
  eo 16 (.call 20 []) <|
  qo 17 (.nt (.t 16)) <|
  .nil)
  (.cond (.t 17)
  (.seq (.ops <|
  qo 4 (.mv (B false)) <|
  .nil)
  .ret)
  .skip)))
  (.seq (.leaf (.ops <|
  qo 19 (.mv (.t 0)) <|
  eo 20 (.call 17 [(.t 19)]) <|
  qo 18 (.mv (.t 20)) <|
  .prune [18, 0, 1] <|
  qo 21 (.ext 0 (.t 18)) <|
  qo 22 (.ext 1 (.t 18)) <|
  qo 5 (.mv (.t 21)) <|
  qo 6 (.mv (.t 22)) <|
  .nil))
  (.prune [6, 0, 1] (.seq (.leaf (.seq (.ops <|
  qo 23 (.mv (.t 6)) <|
  qo 24 (.cmp .neq (.t 23) (I 0)) <|
  .nil)
  (.cond (.t 24)
  (.seq (.ops <|
  qo 4 (.mv (B true)) <|
  .nil)
  .ret)
  .skip)))
  (.seq (.leaf (.ops <|
  qo 25 (.mv (.t 0)) <|
  qo 7 (.mv (.t 25)) <|
  .nil))
  (.seq (.leaf (.seq (.ops <|
  .prune [1, 7, 0] <|
  qo 26 (.mv (.t 1)) <|
  qo 27 (.len (.t 26)) <|
  qo 28 (.mv (I 0)) <|
  .nil)
  (.prune [28, 27, 26, 7, 0] (.block 0 (.loop [27, 26, 0] [28, 7] j4_1)))))
  (.prune [0, 7] (.seq (.leaf (.ops <|
  qo 12 (.mv (.c (.fn 23 []))) <|
  .nil))
  (.seq (.leaf (.ops <|
  qo 47 (.mv (.t 12)) <|
  qo 48 (.mv (.t 0)) <|
  eo 49 (.callv (.t 47) [(.t 48)]) <|
  qo 50 (.mv (.t 12)) <|
  .prune [7, 50, 49, 0] <|
  qo 51 (.mv (.t 7)) <|
  eo 52 (.callv (.t 50) [(.t 51)]) <|
  qo 13 (.mv (.t 49)) <|
  qo 14 (.mv (.t 52)) <|
  .nil))
  (.prune [13, 14, 7, 0] (.seq (.leaf j4_2)
  (.prune [13, 14] (.seq (.rmap (qo 65 (.mv (.t 13)) <|
  .nil) (.t 65) 66 2 67 68 3 69 (
  qo 70 (.ext 0 (.t 69)) <|
  eo 15 (.alloc 46 (.arr 2 2 fun _ => (.agg [(.int .i64 0), (.int .i64 0)]))) <|
  en (.store 4 (.t 15) (.t 70)) <|
  .nil) [14] [] j4_3)
  (.leaf (.seq (.ops <|
  qo 4 (.mv (B true)) <|
  .nil)
  .ret))))))))))))))))
theorem c4 : fnZ Try.prog qall 4 j4 = some (j4.flat, [.tmp 4], 75) := by kernel_rfl
theorem w4 : j4.wf 75 = true := by kernel_rfl
def G (f : FuncId) (a : List SV) (m : List Res) : Sx.Call := (FH.rd 20 .nil (.one .bool) (fun _ => True) (fun _ => true) <|
  FH.rd 17 (.one dEs) (.two .int .int) (fun _ => True) (fun y => (playedF y.1).2) <|
  FH.rd 22 (.two .int .int) (.one .int) (fun y => y.2.1 ≠ 0) (fun y => restI y.1 y.2.1) <|
  FH.mk 21 (.two dEs .int) (fun _ => True) (fun y => .tup [.vec 0 (swapF y.1 y.2.1).1.length, .int .i64 (swapF y.1 y.2.1).2]) (fun y => [.vec 54 3 ((swapF y.1 y.2.1).1.map dEv.emb)]) <|
  FH.mk 23 (.one dEs) (fun y => (checkR y.1).2 = 0) (fun _ => .map 0) (fun y => [.mp esK .bool (setK (raL y.1))]) FH.none) f a m
theorem G_eq (f : FuncId) (a : List SV) (m : List Res) : G f a m = (FH.rd 20 .nil (.one .bool) (fun _ => True) (fun _ => true) <|
  FH.rd 17 (.one dEs) (.two .int .int) (fun _ => True) (fun y => (playedF y.1).2) <|
  FH.rd 22 (.two .int .int) (.one .int) (fun y => y.2.1 ≠ 0) (fun y => restI y.1 y.2.1) <|
  FH.mk 21 (.two dEs .int) (fun _ => True) (fun y => .tup [.vec 0 (swapF y.1 y.2.1).1.length, .int .i64 (swapF y.1 y.2.1).2]) (fun y => [.vec 54 3 ((swapF y.1 y.2.1).1.map dEv.emb)]) <|
  FH.mk 23 (.one dEs) (fun y => (checkR y.1).2 = 0) (fun _ => .map 0) (fun y => [.mp esK .bool (setK (raL y.1))]) FH.none) f a m := nr rfl
theorem G_ok : FHOK Try.prog G := FH.rd_ok (by kernel_rfl) (fun _ _ => f_works) <| FH.rd_ok (by kernel_rfl) (fun y _ => f_Check y.1) <| FH.rd_ok (by kernel_rfl) (fun y h => f_Rest y.1 y.2.1 h) <|
  FH.mk_ok (by kernel_rfl) (fun y _ => plainM (pv_tup ⟨plV_vec _ _, plV_int _ _, trivial⟩) ⟨plR_vec _ _ dEv _, trivial⟩) (fun y _ => f_Swap y.1 y.2.1) <|
  FH.mk_ok (by kernel_rfl) (fun y _ => plainM (pv_map _) ⟨plR_mp _ _ _, trivial⟩) (fun y h => f_raced y.1 h) FH.none_ok
theorem f_law (l : List Ev) (a : List Int) : FnOK Try.prog 4 [dEs.emb l, dIs.emb a] [] (.bool true) [] := by
  refine fn_len fun hB => fn_walkZ c4 w4 G_ok rfl ?_
  simp only [go_sem, ↓reduceIte, Nat.reduceAdd, Nat.reduceMul, Nat.reduceSub, Nat.reduceLT, Nat.reduceLeDiff, Nat.reduceEqDiff, Int.reduceToNat, Int.reduceEq, Int.reduceLT, Int.reduceLE, reduceCtorEq] at hB
  unfold j4
  by_cases h : (playedF l).2.2 = 0
  · have hok : (checkR l).2 = 0 := by rw [← err_same]; exact h
    have hl := ok_len hok
    simp only [go_sem, ↓reduceIte, Nat.reduceAdd, Nat.reduceMul, Nat.reduceSub, Nat.reduceLT, Nat.reduceLeDiff, Nat.reduceEqDiff, Int.reduceToNat, Int.reduceEq, Int.reduceLT, Int.reduceLE, reduceCtorEq, G_eq, h]
    refine loopF Nat (fun i => [.int .i64 i, dEs.emb (manyS l a i)]) (fun _ => []) (fun i => i ≤ a.length) (fun i => a.length - i) 0 (by omega) ?_ rfl ?_
    · simp only [go_sem, ↓reduceIte, Nat.reduceAdd, Nat.reduceMul, Nat.reduceSub, Nat.reduceLT, Nat.reduceLeDiff, Nat.reduceEqDiff, Int.reduceToNat, Int.reduceEq, Int.reduceLT, Int.reduceLE, reduceCtorEq]
      rfl
    intro i hi
    have hm := manyS_eqv l a i
    have hml := eqv_len hm
    have hmk := eqv_check hm hok
    by_cases h1 : i < a.length
    · have h1' : (i : Int) < a.length := by omega
      have hw : IntKind.i64.wrap (((manyS l a i).length : Int) - 1) = ((manyS l a i).length : Int) - 1 := IntWalk.i64_in _ (by omega)
      unfold j4_1
      simp only [go_sem, ↓reduceIte, Nat.reduceAdd, Nat.reduceMul, Nat.reduceSub, Nat.reduceLT, Nat.reduceLeDiff, Nat.reduceEqDiff, Int.reduceToNat, Int.reduceEq, Int.reduceLT, Int.reduceLE, reduceCtorEq, G_eq, h1, h1', hw]
      refine ⟨by omega, by split <;> omega, fun hz => ⟨i + 1, by omega, by omega, IntWalk.i64_in _ (by omega), ?_⟩, fun hz => ⟨i + 1, by omega, by omega, IntWalk.i64_in _ (by omega), ?_⟩⟩
      · have hz : (swapF (manyS l a i) (idxM (manyS l a i) (a.getD i 0))).2 = 0 := hz
        rw [manyS, oneS, if_pos hz]; rfl
      · have hz : ¬ (swapF (manyS l a i) (idxM (manyS l a i) (a.getD i 0))).2 = 0 := hz
        rw [manyS, oneS, if_neg hz]
    · have h1' : ¬ (i : Int) < a.length := by omega
      have e : i = a.length := by omega
      subst e
      generalize manyS l a a.length = m at hm hml hmk ⊢
      unfold j4_1
      simp only [go_sem, ↓reduceIte, Nat.reduceAdd, Nat.reduceMul, Nat.reduceSub, Nat.reduceLT, Nat.reduceLeDiff, Nat.reduceEqDiff, Int.reduceToNat, Int.reduceEq, Int.reduceLT, Int.reduceLE, reduceCtorEq, G_eq, h1']
      have hmem : ∀ x, x ∈ raL l ↔ x ∈ raL m := fun x => by rw [raL_mem hok, raL_mem hmk, eqv_races hm]
      have hlen : (raL l).length = (raL m).length := ((List.perm_ext_iff_of_nodup (raN_nodup l _) (raN_nodup m _)).2 hmem).length_eq
      refine ⟨hok, hmk, ?_⟩
      unfold j4_2
      simp only [go_sem, ↓reduceIte, Nat.reduceAdd, Nat.reduceMul, Nat.reduceSub, Nat.reduceLT, Nat.reduceLeDiff, Nat.reduceEqDiff, Int.reduceToNat, Int.reduceEq, Int.reduceLT, Int.reduceLE, reduceCtorEq, G_eq, setK_len, hlen, hml]
      refine rmapF Unit (fun _ => []) (fun _ => [.dead, .mp esK .bool (setK (raL m))]) (fun _ _ => True) () trivial trivial rfl ?_ ?_
      · intro ds s q _ _ _ hq _ iv
        rw [setK_len] at hq
        have hx := (hmem ((raL l).getD q (dPr.dft, dPr.dft))).1 (by
          rw [show (raL l).getD q (dPr.dft, dPr.dft) = (raL l)[q] by simp [List.getD, hq]]
          exact List.getElem_mem ..)
        rw [setK_at hq]
        unfold j4_3
        simp only [go_sem, ↓reduceIte, Nat.reduceAdd, Nat.reduceMul, Nat.reduceSub, Nat.reduceLT, Nat.reduceLeDiff, Nat.reduceEqDiff, Int.reduceToNat, Int.reduceEq, Int.reduceLT, Int.reduceLE, reduceCtorEq, G_eq, setK_has, hx]
        refine ⟨⟨rfl, rfl⟩, ⟨rfl, rfl⟩, rfl, ⟨rfl, rfl, fun k hk => ?_⟩, (), trivial⟩
        have : k = 0 ∨ k = 1 := by omega
        rcases this with rfl | rfl
        · exact ⟨rfl, rfl, trivial⟩
        · exact ⟨rfl, rfl, trivial⟩
      · intro ds s _ _ _ _
        simp only [go_sem, ↓reduceIte, Nat.reduceAdd, Nat.reduceMul, Nat.reduceSub, Nat.reduceLT, Nat.reduceLeDiff, Nat.reduceEqDiff, Int.reduceToNat, Int.reduceEq, Int.reduceLT, Int.reduceLE, reduceCtorEq, G_eq]
  · simp only [go_sem, ↓reduceIte, Nat.reduceAdd, Nat.reduceMul, Nat.reduceSub, Nat.reduceLT, Nat.reduceLeDiff, Nat.reduceEqDiff, Int.reduceToNat, Int.reduceEq, Int.reduceLT, Int.reduceLE, reduceCtorEq, G_eq, h]
abbrev A : DA (List Ev × List Int × Unit) := .two dEs dIs
abbrev Ts : List TT := [.sl 3 (.st [.int .i64, .int .i64, .int .i64]), .sl 1 (.int .i64)]
theorem lawP (y : DenL Ts) : A.decP [] (embL Ts y) := ⟨⟨rfl, fun _ _ => ⟨rfl, rfl, rfl, trivial⟩⟩, ⟨rfl, fun _ _ => rfl⟩, trivial⟩
theorem law (y : DenL Ts) (_ : okDL Ts y) : FnOK Try.prog 4 (A.emb (A.decV [] (embL Ts y))) [] (.bool true) [] := f_law _ _
theorem own : ownKnob Try.prog.godebug = none := by kernel_rfl
theorem laid : laidOutB Try.prog = true := by kernel_rfl
theorem lifted (os : Os) (started : os.Started) (H : Type) (enc : TypeId × Value → H) :
    ReturnsInHanded {} Try.checked os 4 .any (Rows.topSwapsSpec.pre6 enc Try.prog Try.f4 Rows.topSwapsRow.domain false) (Rows.topSwapsSpec.post enc Try.prog Try.f4 false true false false) := by
  refine returnsInHanded_of_change (C := Try.checked) own started (by kernel_rfl) Try.func4
    (ChangeSpec.witness6 (enc := enc) (C := Try.checked) false ⟨#[], #[.slice none 0 0, .slice none 0 0], []⟩ 8 (by kernel_rfl) (by kernel_rfl) (by kernel_rfl) (by kernel_rfl)) ?_
  intro W base args ds gs before hval0 hW hcnd _
  have hW' := hW
  obtain ⟨p, q, hA, hV, rfl, hfz, hnd⟩ := hW
  obtain ⟨rfl, rfl⟩ := trodVars_none hV
  obtain ⟨y, hs, hok⟩ := open_args Ts (by kernel_rfl) hA (fun j t v h1 h2 => hval0 j t v (by simpa using h1) (by simpa using h2))
  obtain ⟨d1, d2, rfl⟩ := len_two (trod_len hA)
  refine (law_run (law y hok) W (vs := args.toList) (satA_conv (A := A) (lawP y) hs)).mono fun e W' ⟨he, hb⟩ => ?_
  subst he
  exact ⟨_, rfl, row_close laid (by kernel_rfl) (by kernel_rfl) Try.underlying4 rfl hW' hb rfl⟩
theorem holds : Rows.TopSwapsSaid :=
  OpenClaim.holds_of_wide 4 Try.f4 rfl rfl rfl rfl rfl rfl rfl ⟨rfl, rfl, rfl, rfl, rfl⟩ rfl rfl rfl rfl rfl (by kernel_rfl) Try.func4 (by kernel_rfl)
    (of_decide_eq_true (by kernel_rfl)) (by unfold Func.isWrapper; first | (rw [if_pos (by decide +kernel)]; kernel_rfl) | (rw [if_neg (by decide +kernel)]; exact ⟨rfl, rfl⟩))
    (fun os started H enc _ => lifted os started H enc)
#print axioms holds
end Go.Proofs.Ytohbjnpafpcbkaa.TopSwaps
