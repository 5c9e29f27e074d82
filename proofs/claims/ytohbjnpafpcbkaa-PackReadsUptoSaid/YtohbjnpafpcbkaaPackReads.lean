/- THE LAW 'PackReads' HANDS BACK TRUE, AND WHAT IT READS STANDS AS IT DID: WHERE IT IS OF BULK AT MOST 1048576. -/
import Derived.Test.YtohbjnpafpcbkaaPackT
import Derived.Test.YtohbjnpafpcbkaaEqs
import Derived.WalkKit
import Derived.ProofKit
import Derived.OpenShut
import Derived.JoinedCond
set_option linter.unusedSimpArgs false
set_option linter.unusedVariables false
set_option maxRecDepth 100000
open Go Go.Sx Go.Proofs Go.ChangeShapes Go.WideShapes Go.ChangeAt Go.RowKit
namespace Go.Proofs.Ytohbjnpafpcbkaa.PackReads
open Go.Proofs.Ytohbjnpafpcbkaa.D Go.Proofs.Ytohbjnpafpcbkaa.Tr Go.Proofs.Ytohbjnpafpcbkaa.Pk Go.Proofs.Ytohbjnpafpcbkaa.Eqs

def j8 : JC :=
  (.seq (.ops <|
  qo 2 (.mv (B false)) <|
  .nil)
  (.seq (.ops <|
  qo 10 (.mv (.t 0)) <|
  eo 11 (.call 35 [(.t 10)]) <|
  qo 9 (.mv (.t 11)) <|
  qo 12 (.ext 0 (.t 9)) <|
  qo 13 (.ext 1 (.t 9)) <|
  qo 3 (.mv (.t 12)) <|
  qo 4 (.mv (.t 13)) <|
  .nil)
  (.seq (.ops <|
  .prune [0, 3, 4] <|
  qo 15 (.mv (.t 0)) <|
  eo 16 (.call 36 [(.t 15)]) <|
  qo 14 (.mv (.t 16)) <|
  qo 17 (.ext 0 (.t 14)) <|
  .prune [14, 17, 3, 4] <|
  qo 18 (.ext 1 (.t 14)) <|
  qo 5 (.mv (.t 17)) <|
  qo 6 (.mv (.t 18)) <|
  .nil)
  (.prune [3, 5, 4, 6] (.seq (.ops <|
  eo 20 (.call 35 [(.c (.str []))]) <|
  qo 19 (.mv (.t 20)) <|
  qo 21 (.ext 0 (.t 19)) <|
  qo 22 (.ext 1 (.t 19)) <|
  qo 7 (.mv (.t 21)) <|
  qo 8 (.mv (.t 22)) <|
  .nil)
  (.prune [3, 5, 4, 6, 8] (.seq (.ops <|
  qo 23 (.mv (.t 3)) <|
  qo 24 (.mv (.t 5)) <|
  eo 25 (.call 37 [(.t 23), (.t 24)]) <|
  .prune [25, 4, 6, 8] <|
  qo 26 (.mv (.t 25)) <|
  .sc false 30 26 (qo 27 (.mv (.t 4)) <|
  qo 28 (.mv (.t 6)) <|
  qo 29 (.cmp .eql (.t 27) (.t 28)) <|
  .nil) (.t 29) <|
  qo 31 (.mv (.t 30)) <|
  .prune [31, 8] <|
  .sc false 34 31 (qo 32 (.mv (.t 8)) <|
  qo 33 (.cmp .eql (.t 32) (I 4)) <|
  .nil) (.t 33) <|
  qo 2 (.mv (.t 34)) <|
  .nil)
  .ret)))))))
theorem c8 : fnIs Try.prog qall 8 = some (j8.flat, [.tmp 2], 35) := by kernel_rfl
theorem w8 : j8.wf 35 = true := by kernel_rfl
def G (f : FuncId) (a : List SV) (m : List Res) : Sx.Call := (FH.mk 35 (.one .str) (fun y => y.1.length ≤ 1048576) (fun y => .tup [.vec 0 (readF y.1).1.length, .int .i64 (readF y.1).2]) (fun y => [.vec 54 3 ((readF y.1).1.map dEv.emb)]) <|
  FH.mk 36 (.one .str) (fun y => y.1.length ≤ 1048576) (fun y => .tup [.vec 0 (rreadF y.1).1.length, .int .i64 (rreadF y.1).2]) (fun y => [.vec 54 3 ((rreadF y.1).1.map dEv.emb)]) <|
  FH.rd 37 (.two dEs dEs) (.one .bool) (fun _ => True) (fun y => eqBy ef_EqEvent y.1 y.2.1) FH.none) f a m
theorem G_eq (f : FuncId) (a : List SV) (m : List Res) : G f a m = (FH.mk 35 (.one .str) (fun y => y.1.length ≤ 1048576) (fun y => .tup [.vec 0 (readF y.1).1.length, .int .i64 (readF y.1).2]) (fun y => [.vec 54 3 ((readF y.1).1.map dEv.emb)]) <|
  FH.mk 36 (.one .str) (fun y => y.1.length ≤ 1048576) (fun y => .tup [.vec 0 (rreadF y.1).1.length, .int .i64 (rreadF y.1).2]) (fun y => [.vec 54 3 ((rreadF y.1).1.map dEv.emb)]) <|
  FH.rd 37 (.two dEs dEs) (.one .bool) (fun _ => True) (fun y => eqBy ef_EqEvent y.1 y.2.1) FH.none) f a m := nr rfl
theorem G_ok : FHOK Try.prog G := FH.mk_ok (by kernel_rfl) (fun y _ => plainM (pv_tup ⟨plV_vec _ _, plV_int _ _, trivial⟩) ⟨plR_vec _ _ dEv _, trivial⟩) (fun y h => f_Read y.1 h) <|
  FH.mk_ok (by kernel_rfl) (fun y _ => plainM (pv_tup ⟨plV_vec _ _, plV_int _ _, trivial⟩) ⟨plR_vec _ _ dEv _, trivial⟩) (fun y h => f_RPackRead y.1 h) <|
  FH.rd_ok (by kernel_rfl) (fun y _ => f_EqEvent y.1 y.2.1) FH.none_ok
theorem law (s : List UInt8) (h : s.length ≤ 1048576) : FnOK Try.prog 8 [.str s] [] (.bool true) [] := by
  refine fn_walkF c8 w8 G_ok rfl ?_
  unfold j8
  have e1 := reads s h
  have e2 : (readF []).2 = 4 := rfl
  simp only [go_sem, ↓reduceIte, Nat.reduceAdd, Nat.reduceMul, Nat.reduceSub, Nat.reduceLT, Nat.reduceLeDiff, Nat.reduceEqDiff, Int.reduceToNat, Int.reduceEq, Int.reduceLT, Int.reduceLE, reduceCtorEq, G_eq, h, e1, e2]
  exact eqBy_refl (by simp [ef_EqEvent]) _
theorem own : ownKnob Try.prog.godebug = none := by kernel_rfl
theorem laid : laidOutB Try.prog = true := by kernel_rfl
theorem open_str {H : Type} {enc : TypeId × Value → H} {W w' : World} {base : Nat} {spare : Nat → Bool} {t : TypeId} {vs : List Value} {ds : List (DataW H)} {ps : List MemPlace} (ht : ttB Try.prog t .str = true)
    (h : DataW.TrodAll enc Try.prog W 0 spare true [t] vs ds ps) (hv : ∀ (j : Nat) t' v, [t][j]? = some t' → vs[j]? = some v → Value.okWide Try.prog w' .any base t' v) : ∃ s : List UInt8, SatA [.str s] (ε0 W) vs ∧ ds = [.lit (.string s)] := by
  obtain ⟨v, r, rfl⟩ : ∃ v r, vs = v :: r := by
    cases vs with
    | nil => cases ds <;> cases h
    | cons v r => exact ⟨v, r, rfl⟩
  obtain ⟨d, q, rfl⟩ : ∃ d q, ds = d :: q := by
    cases ds with
    | nil => cases h
    | cons d q => exact ⟨d, q, rfl⟩
  obtain ⟨p, q', ⟨fuel, h1⟩, h2, _⟩ := h
  have hu : Try.prog.underlying t = some .string := by
    simp only [ttB] at ht
    split at ht <;> first | assumption | cases ht
  obtain ⟨b, hc, hd, _⟩ := DataW.trod_string hu h1
  have hb := boxed_of (T := .str) (y := (show Den TT.str from b.data.toList)) ht (hv 0 t v rfl rfl)
  cases r with
  | cons _ _ => cases q <;> cases h2
  | nil =>
    cases q with
    | cons _ _ => cases h2
    | nil =>
      refine ⟨b.data.toList, ?_, by rw [(Prod.mk.inj hd).1]⟩
      simp only [SatA]
      exact ⟨v.cells.toList, [], congrArg (fun z => [z]) hb, by simp only [SatC]; exact hc, rfl⟩
theorem lifted (os : Os) (started : os.Started) (H : Type) (enc : TypeId × Value → H) (F : Stop.Interp) :
    ReturnsInHanded {} Try.checked os 8 .any ((Rows.OpenSpec.upto Rows.packReadsSpec).pre6 enc Try.prog Try.f8 Rows.packReadsUptoRow.domain false) (((Rows.OpenSpec.upto Rows.packReadsSpec).at F).post enc Try.prog Try.f8 false true false false) := by
  refine returnsInHanded_of_cond (C := Try.checked) (k := Rows.uptoSmall) rfl own started (by kernel_rfl) Try.func8
    (OpenSpec.witness (enc := enc) (C := Try.checked) (k := Rows.uptoSmall) rfl false ⟨#[], #[.string ⟨#[]⟩], []⟩ 8 (by kernel_rfl) (by kernel_rfl) (by kernel_rfl) (x := ([.lit (.string [])], [], [])) (by kernel_rfl) (by kernel_rfl) (by kernel_rfl)) ?_
  intro W base args ds gs before hval0 hW hcnd hk _
  have hW' := hW
  obtain ⟨p, q, hA, hV, rfl, hfz, hnd⟩ := hW
  obtain ⟨rfl, rfl⟩ := trodVars_none hV
  obtain ⟨s, hs, rfl⟩ := open_str (by kernel_rfl) hA (fun j t v h1 h2 => hval0 j t v (by simpa using h1) (by simpa using h2))
  have hl : s.length ≤ 1048576 := by
    have := of_decide_eq_true hk
    simp only [List.append_nil, Rows.uptoBulkAll, Rows.uptoBulk] at this
    omega
  refine (law_run (law s hl) W (vs := args.toList) hs).mono fun e W' ⟨he, hb⟩ => ?_
  subst he
  exact ⟨_, rfl, row_close laid (by kernel_rfl) (by kernel_rfl) Try.underlying4 rfl hW' hb rfl⟩
theorem holds : Rows.PackReadsUptoSaid :=
  OpenClaim.holds_of_cond 8 Try.f8 rfl rfl rfl rfl rfl rfl rfl ⟨rfl, rfl, rfl, rfl, rfl⟩ rfl rfl rfl rfl rfl (by kernel_rfl) Try.func8 (by kernel_rfl)
    (of_decide_eq_true (by kernel_rfl)) (by unfold Func.isWrapper; first | (rw [if_pos (by decide +kernel)]; kernel_rfl) | (rw [if_neg (by decide +kernel)]; exact ⟨rfl, rfl⟩))
    (fun os started H enc _ F => lifted os started H enc F)
#print axioms holds
end Go.Proofs.Ytohbjnpafpcbkaa.PackReads
