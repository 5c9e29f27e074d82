/- THE LAW 'TextReads' HANDS BACK TRUE, AND WHAT IT READS STANDS AS IT DID: FOR EVERY START. Conditions: five tables of Go's library hold what the program's text lays (the row lists them; the given tie). -/
import Derived.Test.YtgcbhanfhnianaaDoorTxtR
import Derived.Test.YtgcbhanfhnianaaDoorEqs
import Derived.Test.YtgcbhanfhnianaaDoorCards
import Derived.Test.YtgcbhanfhnianaaDoorTie
import Derived.WalkKit
import Derived.ProofKit
import Derived.OpenShut
import Derived.Deep.DeepHandedRow
import Derived.LaidMore
set_option linter.unusedSimpArgs false
set_option linter.unusedVariables false
set_option maxRecDepth 100000
open Go Go.Sx Go.Proofs Go.ChangeShapes Go.WideShapes Go.ChangeAt Go.RowKit
namespace Go.Proofs.YtgcbhanfhnianaaDoor.TextReads
open Go.Proofs.YtgcbhanfhnianaaDoor.D Go.Proofs.YtgcbhanfhnianaaDoor.Tr Go.Proofs.YtgcbhanfhnianaaDoor.Tx Go.Proofs.YtgcbhanfhnianaaDoor.Eqs

def j5 : JC :=
  (.seq (.ops <|
  qo 2 (.mv (B false)) <|
  .nil)
  (.seq (.ops <|
  qo 13 (.mv (.t 0)) <|
  eo 14 (.call 13 [(.t 13)]) <|
  qo 12 (.mv (.t 14)) <|
  qo 15 (.ext 0 (.t 12)) <|
  qo 16 (.ext 1 (.t 12)) <|
  qo 17 (.ext 2 (.t 12)) <|
  .prune [15, 16, 17, 0] <|
  qo 3 (.mv (.t 15)) <|
  qo 4 (.mv (.t 16)) <|
  qo 5 (.mv (.t 17)) <|
  .nil)
  (.prune [0, 3, 4, 5] (.seq (.ops <|
  qo 19 (.mv (.t 0)) <|
  eo 20 (.call 14 [(.t 19)]) <|
  qo 18 (.mv (.t 20)) <|
  .prune [18, 3, 4, 5] <|
  qo 21 (.ext 0 (.t 18)) <|
  qo 22 (.ext 1 (.t 18)) <|
  qo 23 (.ext 2 (.t 18)) <|
  qo 6 (.mv (.t 21)) <|
  qo 7 (.mv (.t 22)) <|
  qo 8 (.mv (.t 23)) <|
  .nil)
  (.prune [3, 6, 4, 7, 5, 8] (.seq (.ops <|
  eo 25 (.call 13 [(.c (.str [120]))]) <|
  qo 24 (.mv (.t 25)) <|
  qo 26 (.ext 0 (.t 24)) <|
  qo 27 (.ext 1 (.t 24)) <|
  qo 28 (.ext 2 (.t 24)) <|
  qo 9 (.mv (.t 26)) <|
  qo 10 (.mv (.t 27)) <|
  qo 11 (.mv (.t 28)) <|
  .nil)
  (.prune [3, 6, 4, 7, 5, 8, 10, 11] (.seq (.ops <|
  qo 29 (.mv (.t 3)) <|
  qo 30 (.mv (.t 6)) <|
  eo 31 (.call 15 [(.t 29), (.t 30)]) <|
  .prune [31, 4, 7, 5, 8, 10, 11] <|
  qo 32 (.mv (.t 31)) <|
  .sc false 36 32 (qo 33 (.mv (.t 4)) <|
  qo 34 (.mv (.t 7)) <|
  qo 35 (.cmp .eql (.t 33) (.t 34)) <|
  .nil) (.t 35) <|
  .prune [36, 5, 8, 10, 11] <|
  qo 37 (.mv (.t 36)) <|
  .sc false 41 37 (qo 38 (.mv (.t 5)) <|
  qo 39 (.mv (.t 8)) <|
  qo 40 (.cmp .eql (.t 38) (.t 39)) <|
  .nil) (.t 40) <|
  .prune [41, 10, 11] <|
  qo 42 (.mv (.t 41)) <|
  .sc false 45 42 (qo 43 (.mv (.t 10)) <|
  qo 44 (.cmp .eql (.t 43) (I 1)) <|
  .nil) (.t 44) <|
  qo 46 (.mv (.t 45)) <|
  .sc false 49 46 (qo 47 (.mv (.t 11)) <|
  qo 48 (.cmp .eql (.t 47) (I 3)) <|
  .nil) (.t 48) <|
  qo 2 (.mv (.t 49)) <|
  .nil)
  .ret))))))))
theorem c5 : fnIs Tryd.prog qall 5 = some (j5.flat, [.tmp 2], 50) := by kernel_rfl
theorem w5 : j5.wf 50 = true := by kernel_rfl
def G (f : FuncId) (a : List SV) (m : List Res) : Sx.Call := (FH.mk 13 (.one .str) (fun _ => True) (fun y => .tup [.vec 0 (readF y.1).1.length, .int .i64 (readF y.1).2.1, .int .i64 (readF y.1).2.2]) (fun y => [.vec 29 3 ((readF y.1).1.map dEv.emb)]) <|
  FH.mk 14 (.one .str) (fun _ => True) (fun y => .tup [.vec 0 (readF y.1).1.length, .int .i64 (readF y.1).2.1, .int .i64 (readF y.1).2.2]) (fun y => [.vec 29 3 ((readF y.1).1.map dEv.emb)]) <|
  FH.rd 15 (.two dEs dEs) (.one .bool) (fun _ => True) (fun y => eqBy ef_EqEvent y.1 y.2.1) FH.none) f a m
theorem G_eq (f : FuncId) (a : List SV) (m : List Res) : G f a m = (FH.mk 13 (.one .str) (fun _ => True) (fun y => .tup [.vec 0 (readF y.1).1.length, .int .i64 (readF y.1).2.1, .int .i64 (readF y.1).2.2]) (fun y => [.vec 29 3 ((readF y.1).1.map dEv.emb)]) <|
  FH.mk 14 (.one .str) (fun _ => True) (fun y => .tup [.vec 0 (readF y.1).1.length, .int .i64 (readF y.1).2.1, .int .i64 (readF y.1).2.2]) (fun y => [.vec 29 3 ((readF y.1).1.map dEv.emb)]) <|
  FH.rd 15 (.two dEs dEs) (.one .bool) (fun _ => True) (fun y => eqBy ef_EqEvent y.1 y.2.1) FH.none) f a m := nr rfl
theorem G_ok : FHOK Tryd.prog G := FH.mk_ok (by kernel_rfl) (fun y _ => plainM (pv_tup ⟨plV_vec _ _, plV_int _ _, plV_int _ _, trivial⟩) ⟨plR_vec _ _ dEv _, trivial⟩) (fun y _ => f_Read y.1) <|
  FH.mk_ok (by kernel_rfl) (fun y _ => plainM (pv_tup ⟨plV_vec _ _, plV_int _ _, plV_int _ _, trivial⟩) ⟨plR_vec _ _ dEv _, trivial⟩) (fun y _ => f_TextRead y.1) <|
  FH.rd_ok (by kernel_rfl) (fun y _ => f_EqEvent y.1 y.2.1) FH.none_ok
theorem x_split : splitL [120] 10 = [[120]] := by rw [splitL_cons, splitL_nil, if_neg (by decide)]; rfl
theorem x_event : eventF [120] = (⟨0, 0, 0⟩, 3) := event_none fun e he hl => by
  rw [line_is he] at hl
  cases hl
theorem x_read : readF [120] = ([], 1, 3) := by
  rw [readF, if_neg (by decide), piecesT, if_neg (by decide), x_split, scanP, x_event]
  rfl
theorem f_law (s : By) : FnOK Tryd.prog 5 [.str s] [] (.bool true) [] := by
  refine fn_walkF c5 w5 G_ok rfl ?_
  unfold j5
  have e2 : (readF [120]).2.1 = 1 := by rw [x_read]
  have e3 : (readF [120]).2.2 = 3 := by rw [x_read]
  have e1 : (readF [120]).1 = [] := by rw [x_read]
  simp only [go_sem, ↓reduceIte, Nat.reduceAdd, Nat.reduceMul, Nat.reduceSub, Nat.reduceLT, Nat.reduceLeDiff, Nat.reduceEqDiff, Int.reduceToNat, Int.reduceEq, Int.reduceLT, Int.reduceLE, reduceCtorEq, G_eq, e1, e2, e3]
  exact eqBy_refl (by simp [ef_EqEvent]) _
abbrev A : DA (By × Unit) := .one .str
abbrev Ts : List TT := [.str]
theorem lawP (y : DenL Ts) : A.decP [] (embL Ts y) := ⟨trivial, trivial⟩
theorem law (y : DenL Ts) (_ : okDL Ts y) : FnOK Tryd.prog 5 (A.emb (A.decV [] (embL Ts y))) [] (.bool true) [] := f_law _
def litV : Lit → Value
  | .int k n => .int k n
  | _ => .bool false
def cells1 : DataW Unit → List Value
  | .lit l => [litV l]
  | _ => []
def cells2 : DataW Unit → List Value
  | .lit l => [litV l]
  | .agg l => l.flatMap cells1
  | _ => []
def cellsD : DataW Unit → Array Value
  | .agg l => (l.flatMap cells2).toArray
  | _ => #[]
theorem own : ownKnob Tryd.prog.godebug = none := by kernel_rfl
theorem laid : laidOutB Tryd.prog = true := by kernel_rfl
noncomputable def laidWorld (os : Os) : World :=
  { World.holding Tryd.prog os ⟨#[], #[], []⟩ with heap := ((((((World.holding Tryd.prog os ⟨#[], #[], []⟩).heap.modify 4 fun | .cells _ t frozen => .cells (cellsD Rows.laid_math_bits_deBruijn32tab) t frozen | o => o).modify 5 fun | .cells _ t frozen => .cells (cellsD Rows.laid_math_bits_deBruijn64tab) t frozen | o => o).modify 1 fun | .cells _ t frozen => .cells (cellsD Rows.laid_internal_strconv_uint64pow10) t frozen | o => o).modify 3 fun | .cells _ t frozen => .cells (cellsD Rows.laid_unicode_utf8_acceptRanges) t frozen | o => o).modify 2 fun | .cells _ t frozen => .cells (cellsD Rows.laid_unicode_utf8_first) t frozen | o => o) }
theorem laid_met (os : Os) : laidMet Tryd.prog Rows.textReadsRow.laid ((laidWorld os).forCall (fun _ _ => 0) ⟨#[], #[.string ⟨#[]⟩], []⟩).memory :=
  laidMet_of_run' 8 (by kernel_rfl) (by kernel_rfl)
theorem reads (os : Os) {H : Type} (enc : TypeId × Value → H) : ∃ places, DataW.whole enc Tryd.prog ((laidWorld os).forCall (fun _ _ => 0) ⟨#[], #[.string ⟨#[]⟩], []⟩).memory Tryd.f5.params.toList Rows.textReadsSpec.vars false (#[.string ⟨#[]⟩] : Array Value).toList 8 = some ([.lit (.string [])], [], places) :=
  ⟨[], by kernel_rfl⟩
theorem lifted (os : Os) (started : os.Started) (H : Type) (enc : TypeId × Value → H) (F : Stop.Interp) :
    ReturnsInHanded {} Tryd.checked os 5 .any ((OpenSpec.ofChange Rows.textReadsSpec).preRow enc Tryd.prog Tryd.f5 Rows.textReadsRow.domain false Rows.textReadsRow.laid) (((OpenSpec.ofChange Rows.textReadsSpec).at F).post enc Tryd.prog Tryd.f5 false true false false) := by
  obtain ⟨places, hx⟩ := reads os enc
  refine returnsInHanded_of_row (C := Tryd.checked) (s := OpenSpec.ofChange Rows.textReadsSpec) own started (by kernel_rfl) Tryd.func5
    (witness_row_at (enc := enc) (C := Tryd.checked) false (laidWorld os) #[.string ⟨#[]⟩] rfl (by kernel_rfl) (by kernel_rfl) (by kernel_rfl)
      (OpenSpec.preRow_of_cond 8 hx (by kernel_rfl) (fun k hk => by cases hk) (by kernel_rfl) (laid_met os))) ?_
  intro W base args ds gs before hval0 hW _ hcnd _ hL _ _
  have hW' := hW
  obtain ⟨p, q, hA, hV, rfl, hfz, hnd⟩ := hW
  obtain ⟨rfl, rfl⟩ := trodVars_none hV
  obtain ⟨y, hs, hok⟩ := open_args Ts (by kernel_rfl) hA (fun j t v h1 h2 => hval0 j t v (by simpa using h1) (by simpa using h2))
  
  obtain ⟨d1, rfl⟩ := len_one (trod_len hA)
  refine (law_run (law y hok) W (vs := args.toList) (satA_conv (A := A) (lawP y) hs)).mono fun e W' ⟨he, hb⟩ => ?_
  subst he
  exact ⟨_, rfl, row_close laid (by kernel_rfl) (by kernel_rfl) Tryd.underlying4 rfl hW' hb rfl⟩
theorem said : Rows.TextReadsSaid :=
  OpenClaim.holds_of_cond 5 Tryd.f5 rfl rfl rfl rfl rfl rfl rfl ⟨rfl, rfl, rfl, rfl, rfl⟩ rfl rfl rfl rfl rfl (by kernel_rfl) Tryd.func5 (by kernel_rfl)
    (of_decide_eq_true (by kernel_rfl)) (by unfold Func.isWrapper; first | (rw [if_pos (by decide +kernel)]; kernel_rfl) | (rw [if_neg (by decide +kernel)]; exact ⟨rfl, rfl⟩))
    (fun os started H enc _ F => by rw [OpenClaim.pre_eq_preRow]; exact lifted os started H enc F)
theorem plain (f : FuncId) (fn : Func) (hf : Tryd.pinned.checked.prog.funcNamed "deadheat/deadheatlaw.TextReads" = some f) (hfn : Tryd.pinned.checked.prog.funcs[f]? = some fn) :
    false = Tryd.pinned.checked.prog.looks [] ∧ ∀ (j : Nat) t, fn.params[j]? = some t → Tryd.pinned.checked.prog.wantsStandIn t = false := by
  obtain rfl : f = 5 := Option.some.inj ((show Tryd.prog.funcNamed "deadheat/deadheatlaw.TextReads" = some 5 by kernel_rfl).symm.trans hf) |>.symm
  obtain rfl : fn = Tryd.f5 := (Option.some.inj (Tryd.func5.symm.trans hfn)).symm
  refine ⟨by kernel_rfl, fun j t ht => ?_⟩
  rw [Tryd.params5] at ht
  have hm := Array.mem_of_getElem? ht
  simp only [List.mem_toArray, List.mem_cons, List.not_mem_nil, or_false] at hm
  subst hm; exact (show Tryd.prog.wantsStandIn 9 = false by kernel_rfl)
theorem holds : Rows.TextReadsCardSaid :=
  Claim7.holds_tied_plain_at .later [] _ _ _ _ said (fun _ h => by cases h) (by kernel_rfl) (fun _ h => by cases h) textReads_row_tie rfl ⟨rfl, rfl⟩ (by kernel_rfl) rfl plain (by kernel_rfl)
#print axioms holds
end Go.Proofs.YtgcbhanfhnianaaDoor.TextReads
