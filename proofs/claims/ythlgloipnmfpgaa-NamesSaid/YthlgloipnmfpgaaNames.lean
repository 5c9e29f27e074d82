/-
  THE LAW 'Names' HANDS BACK TRUE, AND WHAT IT READS STANDS AS IT DID: FOR EVERY START. Conditions: none.
  The walk is by the symbolic layer (the texts Sx1 to Sx18); the code 'c3', 'c15' is printed by program off the translated functions and held against them by the kernel.
-/
import Derived.Test.YthlgloipnmfpgaaSx18
import Derived.Test.YthlgloipnmfpgaaRows
import Derived.WalkKit
import Derived.ProofKit
import Derived.OpenShut
set_option linter.unusedSimpArgs false
set_option maxRecDepth 100000
open Go Go.Sx Go.Proofs Go.ChangeShapes Go.WideShapes Go.ChangeAt Go.RowKit
namespace Go.Proofs.Ythlgloipnmfpgaa.Names
theorem c15 : fnIs Try.prog qall 15 = some ((.seq (.ops [q 4 (.mv (B false))])
  (.seq (.seq (.ops [q 7 (.mv (.t 0)), q 8 (.len (.t 7)), q 9 (.mv (.t 1)), q 10 (.len (.t 9)), q 11 (.cmp .neq (.t 8) (.t 10))])
  (.cond (.t 11) (.seq (.ops [q 4 (.mv (B false))])
  .ret) .skip))
  (.seq (.seq (.ops [q 12 (.mv (.t 0)), q 13 (.len (.t 12)), q 14 (.mv (I 0))])
  (.block 0 (.loop (.seq (.ops [q 15 (.cmp .lss (.t 14) (.t 13))])
  (.seq (.cond (.t 15) .skip (.exit 0))
  (.seq (.block 1 (.seq (.ops [q 16 (.mv (.t 14)), q 17 (.is 1 (.t 12) (.t 14)), r 18 (.load 1 false (.t 17)), q 5 (.mv (.t 16)), q 6 (.mv (.t 18))])
  (.seq (.ops [q 19 (.mv (.t 6)), q 20 (.mv (.t 1)), q 21 (.mv (.t 5)), q 22 (.is 1 (.t 20) (.t 21)), r 23 (.load 1 false (.t 22)), q 24 (.cmp .neq (.t 19) (.t 23))])
  (.cond (.t 24) (.seq (.ops [q 4 (.mv (B false))])
  .ret) .skip))))
  (.ops [q 25 (.ar .add (.t 14) (I 1)), q 14 (.mv (.t 25))])))))))
  (.seq (.ops [q 4 (.mv (B true))])
  .ret)))), [.tmp 4], 26) := by kernel_rfl
theorem f15 (xs ys : List Int) : FnOK Try.prog 15 [.lst 1 0 (SV.int .i64) xs, .lst 1 0 (SV.int .i64) ys] [] (.bool (xs == ys)) [] := by
  refine fn_len fun hB => fn_walk0 c15 noHook_ok ?_
  simp only [go_sem, Nat.reduceAdd, Nat.reduceMul, Nat.reduceSub, Nat.reduceLT, Nat.reduceEqDiff, Int.reduceToNat, reduceCtorEq] at hB
  simp only [go_sem, Nat.reduceAdd, Nat.reduceMul, Nat.reduceSub, Nat.reduceLT, Nat.reduceEqDiff, Int.reduceToNat, reduceCtorEq]
  refine ⟨fun h => ?_, fun h => swp_loop Nat (fun i => [(14, .int .i64 i)]) (fun _ => []) (fun i => i ≤ xs.length ∧ xs.take i = ys.take i) (fun i => xs.length - i) 0 (by simp) ?_ rfl ?_⟩
  · symm
    simp only [beq_eq_false_iff_ne]
    intro e; subst e; exact h rfl
  · simp only [go_sem, Nat.reduceAdd, Nat.reduceMul, Nat.reduceSub, Nat.reduceLT, Nat.reduceEqDiff, Int.reduceToNat, reduceCtorEq]
  · intro i hok
    simp only [go_sem, Nat.reduceAdd, Nat.reduceMul, Nat.reduceSub, Nat.reduceLT, Nat.reduceEqDiff, Int.reduceToNat, reduceCtorEq]
    have hi : i ≤ xs.length := hok.1
    have ht : xs.take i = ys.take i := hok.2
    clear hok
    refine ⟨fun h1 => ?_, fun h1 => ?_⟩
    · have hx : i < xs.length := by omega
      have hy : i < ys.length := by omega
      refine ⟨⟨by omega, h1⟩, ⟨by omega, by omega⟩, fun h2 => ?_, fun h2 => ?_⟩
      · symm
        simp only [beq_eq_false_iff_ne]
        intro e; subst e; exact h2 rfl
      · refine ⟨i + 1, ⟨by omega, ?_⟩, by omega, Weak.le ?_ rfl⟩
        · rw [List.take_add_one, List.take_add_one, ht]
          simp [List.getD, hx, hy] at h2
          simp [hx, hy, h2]
        · simp only [go_sem, Nat.reduceAdd, Nat.reduceMul, Nat.reduceSub, Nat.reduceLT, Nat.reduceEqDiff, Int.reduceToNat, reduceCtorEq]
          have e : IntKind.i64.wrap ((i : Int) + 1) = (i : Int) + 1 := IntWalk.i64_in _ (by omega)
          rw [e]; simp
    · symm
      have e : i = xs.length := by omega
      subst e
      rw [beq_iff_eq]
      have := ht
      rw [List.take_length] at this
      rw [this]
      exact List.take_of_length_le (by omega)

def L1 : List Int := [6, 8, 5, 4, 80, 1000000, 2000, 12, 1000, 100, 8, 40, 60, 200]
def L2 : List Int := [1, 2, 3, 4, 5, 6, 7, 8, 0, 1, 2, 3, 1, 2, 3, 0, 1, 2, 3, 1, 2, 3, 4, 5, 6, 7, 8, 9]
theorem c3 : fnIs Try.prog qall 3 = some ((.seq (.ops [q 0 (.mv (B false))])
  (.seq (.ops [r 6 (.bsl 22 1 12 (.int .i64 0) [(0, (I 0)), (1, (I 1)), (2, (I 2)), (3, (I 3)), (4, (I 4)), (5, (I 5)), (6, (I 6)), (7, (I 7)), (8, (I 8)), (9, (I 9)), (10, (I 10)), (11, (I 11))]), q 1 (.mv (.t 6))])
  (.seq (.seq (.ops [q 7 (.mv (.t 1)), q 8 (.len (.t 7)), q 9 (.mv (I 0))])
  (.block 0 (.loop (.seq (.ops [q 10 (.cmp .lss (.t 9) (.t 8))])
  (.seq (.cond (.t 10) .skip (.exit 0))
  (.seq (.block 1 (.seq (.ops [q 11 (.mv (.t 9)), q 12 (.is 1 (.t 7) (.t 9)), r 13 (.load 1 false (.t 12)), q 2 (.mv (.t 11)), q 3 (.mv (.t 13))])
  (.seq (.ops [q 14 (.mv (.t 3)), q 15 (.mv (.t 2)), q 16 (.cmp .neq (.t 14) (.t 15))])
  (.cond (.t 16) (.seq (.ops [q 0 (.mv (B false))])
  .ret) .skip))))
  (.ops [q 17 (.ar .add (.t 9) (I 1)), q 9 (.mv (.t 17))])))))))
  (.seq (.ops [r 18 (.bsl 3 1 14 (.int .i64 0) [(0, (I 6)), (1, (I 8)), (2, (I 5)), (3, (I 4)), (4, (I 80)), (5, (I 1000000)), (6, (I 2000)), (7, (I 12)), (8, (I 1000)), (9, (I 100)), (10, (I 8)), (11, (I 40)), (12, (I 60)), (13, (I 200))]), q 4 (.mv (.t 18))])
  (.seq (.ops [r 19 (.bsl 3 1 28 (.int .i64 0) [(0, (I 1)), (1, (I 2)), (2, (I 3)), (3, (I 4)), (4, (I 5)), (5, (I 6)), (6, (I 7)), (7, (I 8)), (8, (I 0)), (9, (I 1)), (10, (I 2)), (11, (I 3)), (12, (I 1)), (13, (I 2)), (14, (I 3)), (15, (I 0)), (16, (I 1)), (17, (I 2)), (18, (I 3)), (19, (I 1)), (20, (I 2)), (21, (I 3)), (22, (I 4)), (23, (I 5)), (24, (I 6)), (25, (I 7)), (26, (I 8)), (27, (I 9))]), q 5 (.mv (.t 19))])
  (.seq (.ops [q 20 (.mv (.t 4)), r 21 (.bsl 3 1 14 (.int .i64 0) [(0, (I 6)), (1, (I 8)), (2, (I 5)), (3, (I 4)), (4, (I 80)), (5, (I 1000000)), (6, (I 2000)), (7, (I 12)), (8, (I 1000)), (9, (I 100)), (10, (I 8)), (11, (I 40)), (12, (I 60)), (13, (I 200))]), r 22 (.call 15 [(.t 20), (.t 21)]), q 23 (.mv (.t 22)), g 24 23 true (.mv (.t 5)), ge 25 23 true (.bsl 3 1 28 (.int .i64 0) [(0, (I 1)), (1, (I 2)), (2, (I 3)), (3, (I 4)), (4, (I 5)), (5, (I 6)), (6, (I 7)), (7, (I 8)), (8, (I 0)), (9, (I 1)), (10, (I 2)), (11, (I 3)), (12, (I 1)), (13, (I 2)), (14, (I 3)), (15, (I 0)), (16, (I 1)), (17, (I 2)), (18, (I 3)), (19, (I 1)), (20, (I 2)), (21, (I 3)), (22, (I 4)), (23, (I 5)), (24, (I 6)), (25, (I 7)), (26, (I 8)), (27, (I 9))]), ge 26 23 true (.call 15 [(.t 24), (.t 25)]), q 27 (.pick (.t 23) (.t 26) (B false)), q 0 (.mv (.t 27))])
  .ret)))))), [.tmp 0], 28) := by kernel_rfl
def Γ3 : Hook := Hook.ro 15 (fun i : List Int × List Int => [.lst 1 (0 : Int) (SV.int .i64) i.1, .lst 1 (0 : Int) (SV.int .i64) i.2]) (fun i => .bool (i.1 == i.2)) (fun _ => True) noHook
theorem Γ3_ok : HookOK Try.prog Γ3 := Hook.ro_ok (by kernel_rfl) (fun i _ => f15 i.1 i.2) (fun i => plain_bool _) noHook_ok
theorem f3 : FnOK Try.prog 3 [] [] (.bool true) [] := by
  refine fn_walk0 c3 Γ3_ok ?_
  simp only [go_sem, Nat.reduceAdd, Nat.reduceMul, Nat.reduceSub, Nat.reduceLT, Nat.reduceEqDiff, Int.reduceToNat, reduceCtorEq]
  refine swp_loop Nat (fun i => [(9, .int .i64 i)]) (fun _ => _) (fun i => i ≤ 12) (fun i => 12 - i) 0 (by simp) ?_ rfl ?_
  · simp only [go_sem, Nat.reduceAdd, Nat.reduceMul, Nat.reduceSub, Nat.reduceLT, Nat.reduceEqDiff, Int.reduceToNat, reduceCtorEq]
  · intro i hi
    simp only [go_sem, Γ3, Nat.reduceAdd, Nat.reduceMul, Nat.reduceSub, Nat.reduceLT, Nat.reduceEqDiff, Int.reduceToNat, reduceCtorEq]
    generalize hL : [SV.int IntKind.i64 0, SV.int IntKind.i64 1, SV.int IntKind.i64 2, SV.int IntKind.i64 3, SV.int IntKind.i64 4, SV.int IntKind.i64 5, SV.int IntKind.i64 6, SV.int IntKind.i64 7, SV.int IntKind.i64 8, SV.int IntKind.i64 9, SV.int IntKind.i64 10, SV.int IntKind.i64 11] = L
    have hg : ∀ j, j < 12 → L.getD j .junk = .int .i64 j := by
      intro j hj
      subst hL
      rcases (by omega : j = 0 ∨ j = 1 ∨ j = 2 ∨ j = 3 ∨ j = 4 ∨ j = 5 ∨ j = 6 ∨ j = 7 ∨ j = 8 ∨ j = 9 ∨ j = 10 ∨ j = 11) with rfl | rfl | rfl | rfl | rfl | rfl | rfl | rfl | rfl | rfl | rfl | rfl <;> rfl
    refine ⟨fun h1 => ?_, fun h1 => ?_⟩
    · have h2 : i < 12 := by omega
      rw [hg i h2]
      simp only [go_sem, Nat.reduceAdd, Nat.reduceMul, Nat.reduceSub, Nat.reduceLT, Nat.reduceEqDiff, Int.reduceToNat, reduceCtorEq]
      refine ⟨⟨by omega, by omega⟩, h2, i + 1, by omega, by omega, Weak.le ?_ rfl⟩
      have e : IntKind.i64.wrap ((i : Int) + 1) = (i : Int) + 1 := IntWalk.i64_in _ (by omega)
      rw [e]; simp only [go_sem, Nat.reduceAdd, Nat.reduceMul, Nat.reduceSub, Nat.reduceLT, Nat.reduceEqDiff, Int.reduceToNat, reduceCtorEq]; simp
    · refine ⟨(L1, L1), ⟨ro_ints rfl, ro_ints rfl, trivial⟩, fun _ => ?_, fun h => absurd h (by decide)⟩
      exact ⟨(L2, L2), ⟨ro_ints rfl, ro_ints rfl, trivial⟩, by decide⟩

theorem own : ownKnob Try.prog.godebug = none := by kernel_rfl
theorem laid : laidOutB Try.prog = true := by kernel_rfl
theorem lifted3 (os : Os) (started : os.Started) (H : Type) (enc : TypeId × Value → H) :
    ReturnsInHanded {} Try.checked os 3 .any (Rows.namesSpec.pre6 enc Try.prog Try.f3 Rows.namesRow.domain false) (Rows.namesSpec.post enc Try.prog Try.f3 false true false false) := by
  refine returnsInHanded_of_change (C := Try.checked) own started (by kernel_rfl) Try.func3
    (ChangeSpec.witness6 (enc := enc) (C := Try.checked) false ⟨#[], #[], []⟩ 8 (by kernel_rfl) (by kernel_rfl) (by kernel_rfl) (by kernel_rfl)) ?_
  intro W base args ds gs before hval0 hW hcnd _
  have hW' := hW
  obtain ⟨p, q, hA, hV, rfl, hfz, hnd⟩ := hW
  rw [Try.params3] at hA
  obtain ⟨rfl, rfl, rfl⟩ := trodAll_none hA
  obtain ⟨rfl, rfl⟩ := trodVars_none hV
  refine (law_run f3 W (vs := []) rfl).mono fun e W' ⟨he, hb⟩ => ?_
  subst he
  exact ⟨_, rfl, row_close laid (by kernel_rfl) (by kernel_rfl) Try.underlying4 rfl hW' hb rfl⟩
theorem holds3 : Rows.NamesSaid :=
  OpenClaim.holds_of_wide 3 Try.f3 rfl rfl rfl rfl rfl rfl rfl ⟨rfl, rfl, rfl, rfl, rfl⟩ rfl rfl rfl rfl rfl (by kernel_rfl) Try.func3 (by kernel_rfl)
    (of_decide_eq_true (by kernel_rfl)) (by unfold Func.isWrapper; first | (rw [if_pos (by decide +kernel)]; kernel_rfl) | (rw [if_neg (by decide +kernel)]; exact ⟨rfl, rfl⟩))
    (fun os started H enc _ => lifted3 os started H enc)
#print axioms holds3
end Go.Proofs.Ythlgloipnmfpgaa.Names
