/- THE LAW 'EveryRaces' HANDS BACK TRUE, AND WHAT IT READS STANDS AS IT DID: FOR EVERY START. Conditions: none. -/
import Derived.Test.YtgcbhanfhnianaaEvP
import Derived.Test.YtgcbhanfhnianaaEqs
import Derived.WalkKit
import Derived.ProofKit
import Derived.OpenShut
set_option linter.unusedSimpArgs false
set_option linter.unusedVariables false
set_option maxRecDepth 100000
open Go Go.Sx Go.Proofs Go.ChangeShapes Go.WideShapes Go.ChangeAt Go.RowKit
namespace Go.Proofs.Ytgcbhanfhnianaa.EveryRaces
open Go.Proofs.Ytgcbhanfhnianaa.D Go.Proofs.Ytgcbhanfhnianaa.Pg Go.Proofs.Ytgcbhanfhnianaa.Tr Go.Proofs.Ytgcbhanfhnianaa.Rn Go.Proofs.Ytgcbhanfhnianaa.Ev Go.Proofs.Ytgcbhanfhnianaa.Eqs

def j30 : JC :=
  (.seq (.ops <|
  eo 1 (.box 22 (.t 0)) <|
  qo 2 (.mv (.c .nils)) <|
  qo 3 (.mv (I 0)) <|
  .nil)
  (.seq (.seq (.ops <|
  eo 6 (.load 1 false (.t 1)) <|
  eo 7 (.call 73 [(.t 6)]) <|
  qo 4 (.mv (.t 7)) <|
  .nil)
  (.seq (.ops <|
  qo 8 (.mv (.t 4)) <|
  qo 9 (.cmp .neq (.t 8) (I 0)) <|
  .nil)
  (.cond (.t 9)
  (.seq (.ops <|
  .prune [4] <|
  qo 10 (.mv (.t 4)) <|
  qo 2 (.mv (.c .nils)) <|
  qo 3 (.mv (.t 10)) <|
  .nil)
  .ret)
  .skip)))
  (.prune [1] (.seq (.ops <|
  eo 5 (.alloc 62 .nils) <|
  .nil)
  (.seq (.ops <|
  eo 11 (.load 1 false (.t 1)) <|
  qo 12 (.mkfn 75 [(.t 1), (.t 5)]) <|
  eo 13 (.call 74 [(.t 11), (.t 12)]) <|
  .nil)
  (.seq (.ops <|
  eo 14 (.load 1 false (.t 5)) <|
  eo 15 (.call 77 [(.t 14), (.c (.fn 78 []))]) <|
  .nil)
  (.seq (.ops <|
  .prune [5] <|
  eo 16 (.load 1 false (.t 5)) <|
  qo 2 (.mv (.t 16)) <|
  qo 3 (.mv (I 0)) <|
  .nil)
  .ret)))))))
theorem c30 : fnIs Try.prog qall 30 = some (j30.flat, [.tmp 2, .tmp 3], 17) := by kernel_rfl
theorem w30 : j30.wf 17 = true := by kernel_rfl

def j10 : JC :=
  (.seq (.ops <|
  qo 2 (.mv (B false)) <|
  .nil)
  (.seq (.ops <|
  qo 12 (.mv (.t 0)) <|
  eo 13 (.call 40 [(.t 12)]) <|
  qo 11 (.mv (.t 13)) <|
  qo 14 (.ext 0 (.t 11)) <|
  qo 15 (.ext 1 (.t 11)) <|
  qo 16 (.ext 2 (.t 11)) <|
  .prune [14, 15, 16, 0] <|
  qo 3 (.mv (.t 14)) <|
  qo 4 (.mv (.t 15)) <|
  qo 5 (.mv (.t 16)) <|
  .nil)
  (.prune [0, 5, 3, 4] (.seq (.ops <|
  eo 18 (.call 30 [(.c .nils)]) <|
  qo 17 (.mv (.t 18)) <|
  qo 19 (.ext 0 (.t 17)) <|
  qo 20 (.ext 1 (.t 17)) <|
  qo 6 (.mv (.t 19)) <|
  qo 7 (.mv (.t 20)) <|
  .nil)
  (.prune [0, 5, 3, 4, 7] (.seq (.seq (.ops <|
  qo 21 (.mv (.t 0)) <|
  eo 22 (.call 31 [(.t 21)]) <|
  qo 8 (.mv (.t 22)) <|
  .nil)
  (.seq (.ops <|
  qo 23 (.mv (.t 8)) <|
  qo 24 (.cmp .neq (.t 23) (I 0)) <|
  .prune [24, 5, 3, 4, 8, 7, 0] <|
  qo 25 (.mv (.t 24)) <|
  .sc true 28 25 (qo 26 (.mv (.t 5)) <|
  qo 27 (.cmp .neq (.t 26) (I 0)) <|
  .nil) (.t 27) <|
  .nil)
  (.prune [28, 3, 4, 5, 8, 7, 0] (.cond (.t 28)
  (.seq (.ops <|
  qo 29 (.mv (.t 3)) <|
  .prune [29, 4, 5, 8, 7] <|
  qo 30 (.nt (.t 29)) <|
  qo 31 (.mv (.t 30)) <|
  .sc false 35 31 (qo 32 (.mv (.t 4)) <|
  qo 33 (.len (.t 32)) <|
  qo 34 (.cmp .eql (.t 33) (I 0)) <|
  .nil) (.t 34) <|
  .prune [35, 5, 8, 7] <|
  qo 36 (.mv (.t 35)) <|
  .sc false 40 36 (qo 37 (.mv (.t 5)) <|
  qo 38 (.mv (.t 8)) <|
  qo 39 (.cmp .eql (.t 37) (.t 38)) <|
  .nil) (.t 39) <|
  qo 41 (.mv (.t 40)) <|
  .prune [41, 7] <|
  .sc false 44 41 (qo 42 (.mv (.t 7)) <|
  qo 43 (.cmp .eql (.t 42) (I 2)) <|
  .nil) (.t 43) <|
  qo 2 (.mv (.t 44)) <|
  .nil)
  .ret)
  .skip))))
  (.prune [0, 3, 4, 7] (.seq (.ops <|
  qo 46 (.mv (.t 0)) <|
  eo 47 (.call 41 [(.t 46)]) <|
  qo 45 (.mv (.t 47)) <|
  .prune [45, 3, 4, 7] <|
  qo 48 (.ext 0 (.t 45)) <|
  qo 49 (.ext 1 (.t 45)) <|
  qo 9 (.mv (.t 48)) <|
  qo 10 (.mv (.t 49)) <|
  .nil)
  (.prune [3, 9, 4, 10, 7] (.seq (.ops <|
  qo 50 (.mv (.t 3)) <|
  qo 51 (.mv (.t 9)) <|
  qo 52 (.beq false (.t 50) (.t 51)) <|
  .prune [52, 4, 10, 7] <|
  qo 53 (.mv (.t 52)) <|
  .sc false 57 53 (qo 54 (.mv (.t 4)) <|
  qo 55 (.mv (.t 10)) <|
  eo 56 (.call 28 [(.t 54), (.t 55)]) <|
  .nil) (.t 56) <|
  qo 58 (.mv (.t 57)) <|
  .prune [58, 7] <|
  .sc false 61 58 (qo 59 (.mv (.t 7)) <|
  qo 60 (.cmp .eql (.t 59) (I 2)) <|
  .nil) (.t 60) <|
  qo 2 (.mv (.t 61)) <|
  .nil)
  .ret))))))))))
theorem c10 : fnIs Try.prog qall 10 = some (j10.flat, [.tmp 2], 62) := by kernel_rfl
theorem w10 : j10.wf 62 = true := by kernel_rfl
def Gen (f : FuncId) (a : List SV) (m : List Res) : Sx.Call := (FH.rd 73 (.one dProg) (.one .int) (fun _ => True) (fun y => echF y.1) FH.none) f a m
theorem Gen_eq (f : FuncId) (a : List SV) (m : List Res) : Gen f a m = (FH.rd 73 (.one dProg) (.one .int) (fun _ => True) (fun y => echF y.1) FH.none) f a m := nr rfl
theorem Gen_ok : FHOK Try.prog Gen := FH.rd_ok (by kernel_rfl) (fun y _ => f_check y.1) FH.none_ok
theorem ech_nil : echF [] = 2 := by decide
theorem f_EndsNil : FnOK Try.prog 30 [dProg.emb []] [] (.tup [.nils, .int .i64 2]) [] := by
  refine fn_walkF c30 w30 Gen_ok rfl ?_
  unfold j30
  simp only [go_sem, ↓reduceIte, Nat.reduceAdd, Nat.reduceMul, Nat.reduceSub, Nat.reduceLT, Nat.reduceLeDiff, Nat.reduceEqDiff, Int.reduceToNat, Int.reduceEq, Int.reduceLT, Int.reduceLE, reduceCtorEq, Gen_eq, ech_nil]
def G (f : FuncId) (a : List SV) (m : List Res) : Sx.Call := (FH.pz 40 (.one dProg) (DP.three DT.bool dBe DT.int) (fun _ => True) (fun y => ((racesB y.1).isSome, racesB y.1, echF y.1)) <|
  FH.mk 30 (.one dProg) (fun y => y.1 = []) (fun _ => .tup [.nils, .int .i64 2]) (fun _ => []) <|
  FH.rd 31 (.one dProg) (.one .int) (fun _ => True) (fun y => echF y.1) <|
  FH.pz 41 (.one dProg) (DP.two DT.bool dBe) (fun y => echF y.1 = 0) (fun y => dfsB y.1) <|
  FH.rd 28 (.two dIs dIs) (.one .bool) (fun _ => True) (fun y => eqBy ef_EqInt y.1 y.2.1) FH.none) f a m
theorem G_eq (f : FuncId) (a : List SV) (m : List Res) : G f a m = (FH.pz 40 (.one dProg) (DP.three DT.bool dBe DT.int) (fun _ => True) (fun y => ((racesB y.1).isSome, racesB y.1, echF y.1)) <|
  FH.mk 30 (.one dProg) (fun y => y.1 = []) (fun _ => .tup [.nils, .int .i64 2]) (fun _ => []) <|
  FH.rd 31 (.one dProg) (.one .int) (fun _ => True) (fun y => echF y.1) <|
  FH.pz 41 (.one dProg) (DP.two DT.bool dBe) (fun y => echF y.1 = 0) (fun y => dfsB y.1) <|
  FH.rd 28 (.two dIs dIs) (.one .bool) (fun _ => True) (fun y => eqBy ef_EqInt y.1 y.2.1) FH.none) f a m := nr rfl
theorem G_ok : FHOK Try.prog G := FH.pz_ok (by kernel_rfl) (fun y _ => f_Races y.1) <| FH.mk_ok (by kernel_rfl) (fun _ _ => plainM (pv_tup ⟨plV_nils, plV_int _ _, trivial⟩) trivial) (fun y h => by rw [show y = ([], ()) by cases y; cases h; rfl]; exact f_EndsNil) <|
  FH.rd_ok (by kernel_rfl) (fun y _ => f_REvCheck y.1) <| FH.pz_ok (by kernel_rfl) (fun y h => f_REvery (ech_ok h).1 (ech_ok h).2) <|
  FH.rd_ok (by kernel_rfl) (fun y _ => f_EqInt y.1 y.2.1) FH.none_ok
theorem f_law (p : List (List PO)) : FnOK Try.prog 10 [dProg.emb p] [] (.bool true) [] := by
  refine fn_walkF c10 w10 G_ok rfl ?_
  unfold j10
  by_cases hc : echF p = 0
  · obtain ⟨e1, e2⟩ := both_same hc
    simp only [go_sem, ↓reduceIte, Nat.reduceAdd, Nat.reduceMul, Nat.reduceSub, Nat.reduceLT, Nat.reduceLeDiff, Nat.reduceEqDiff, Int.reduceToNat, Int.reduceEq, Int.reduceLT, Int.reduceLE, reduceCtorEq, G_eq, hc, e1]
    rw [e2, eqBy_refl (by simp [ef_EqInt])]
    simp
  · have e : racesB p = none := if_neg hc
    simp only [go_sem, ↓reduceIte, Nat.reduceAdd, Nat.reduceMul, Nat.reduceSub, Nat.reduceLT, Nat.reduceLeDiff, Nat.reduceEqDiff, Int.reduceToNat, Int.reduceEq, Int.reduceLT, Int.reduceLE, reduceCtorEq, G_eq, hc, e]
    rfl
abbrev A : DA (List (List PO) × Unit) := .one dProg
abbrev Ts : List TT := [.sl 1 (.sl 3 (.st [.int .i64, .int .i64, .int .i64]))]
theorem lawP (y : DenL Ts) : A.decP [] (embL Ts y) := ⟨⟨rfl, fun _ _ => ⟨rfl, fun _ _ => ⟨rfl, rfl, rfl, trivial⟩⟩⟩, trivial⟩
theorem law (y : DenL Ts) (_ : okDL Ts y) : FnOK Try.prog 10 (A.emb (A.decV [] (embL Ts y))) [] (.bool true) [] := f_law _
theorem own : ownKnob Try.prog.godebug = none := by kernel_rfl
theorem laid : laidOutB Try.prog = true := by kernel_rfl
theorem lifted (os : Os) (started : os.Started) (H : Type) (enc : TypeId × Value → H) :
    ReturnsInHanded {} Try.checked os 10 .any (Rows.everyRacesSpec.pre6 enc Try.prog Try.f10 Rows.everyRacesRow.domain false) (Rows.everyRacesSpec.post enc Try.prog Try.f10 false true false false) := by
  refine returnsInHanded_of_change (C := Try.checked) own started (by kernel_rfl) Try.func10
    (ChangeSpec.witness6 (enc := enc) (C := Try.checked) false ⟨#[], #[.slice none 0 0], []⟩ 8 (by kernel_rfl) (by kernel_rfl) (by kernel_rfl) (by kernel_rfl)) ?_
  intro W base args ds gs before hval0 hW hcnd _
  have hW' := hW
  obtain ⟨p, q, hA, hV, rfl, hfz, hnd⟩ := hW
  obtain ⟨rfl, rfl⟩ := trodVars_none hV
  obtain ⟨y, hs, hok⟩ := open_args Ts (by kernel_rfl) hA (fun j t v h1 h2 => hval0 j t v (by simpa using h1) (by simpa using h2))
  obtain ⟨d1, rfl⟩ := len_one (trod_len hA)
  refine (law_run (law y hok) W (vs := args.toList) (satA_conv (A := A) (lawP y) hs)).mono fun e W' ⟨he, hb⟩ => ?_
  subst he
  exact ⟨_, rfl, row_close laid (by kernel_rfl) (by kernel_rfl) Try.underlying4 rfl hW' hb rfl⟩
theorem holds : Rows.EveryRacesSaid :=
  OpenClaim.holds_of_wide 10 Try.f10 rfl rfl rfl rfl rfl rfl rfl ⟨rfl, rfl, rfl, rfl, rfl⟩ rfl rfl rfl rfl rfl (by kernel_rfl) Try.func10 (by kernel_rfl)
    (of_decide_eq_true (by kernel_rfl)) (by unfold Func.isWrapper; first | (rw [if_pos (by decide +kernel)]; kernel_rfl) | (rw [if_neg (by decide +kernel)]; exact ⟨rfl, rfl⟩))
    (fun os started H enc _ => lifted os started H enc)
#print axioms holds
end Go.Proofs.Ytgcbhanfhnianaa.EveryRaces
