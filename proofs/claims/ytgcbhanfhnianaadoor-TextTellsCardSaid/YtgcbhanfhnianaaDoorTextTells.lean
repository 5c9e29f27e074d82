/- THE LAW 'TextTells' HANDS BACK TRUE, AND WHAT IT READS STANDS AS IT DID: FOR EVERY START. Conditions: three tables of Go's library hold what the program's text lays (the row lists them; the given tie). -/
import Derived.Test.YtgcbhanfhnianaaDoorTxtL
import Derived.Test.YtgcbhanfhnianaaDoorCards
import Derived.Test.YtgcbhanfhnianaaDoorTie
import Derived.WalkKit
import Derived.ProofKit
import Derived.OpenShut
import Derived.Deep.DeepHandedRow
import Derived.LaidMore
set_option linter.unusedSimpArgs false
set_option linter.unusedVariables false
set_option maxRecDepth 100000
open Go Go.Sx Go.Proofs Go.ChangeShapes Go.WideShapes Go.ChangeAt Go.RowKit
namespace Go.Proofs.YtgcbhanfhnianaaDoor.TextTells
open Go.Proofs.YtgcbhanfhnianaaDoor.D Go.Proofs.YtgcbhanfhnianaaDoor.Tr Go.Proofs.YtgcbhanfhnianaaDoor.Tx

def j8 : JC :=
  (.seq (.ops <|
  qo 0 (.mv (.c .nils)) <|
  .nil)
  (.seq (.ops <|
  qo 1 (.bld (.agg [(.int .i64 0), (.int .i64 0), (.int .i64 0)]) []) <|
  eo 2 (.bsl 29 3 1 (.agg [(.int .i64 0), (.int .i64 0), (.int .i64 0)]) [(0, (.t 1))]) <|
  qo 0 (.mv (.t 2)) <|
  .nil)
  (.vecs 0 29 3 .ret)))
theorem c8 : fnIs Tryd.prog qall 8 = some (j8.flat, [.tmp 0], 3) := by kernel_rfl
theorem w8 : j8.wf 3 = true := by kernel_rfl

def j3 : JC :=
  (.seq (.ops <|
  qo 2 (.mv (B false)) <|
  .nil)
  (.seq (.ops <|
  qo 10 (.mv (.t 0)) <|
  eo 11 (.call 6 [(.t 10)]) <|
  qo 9 (.mv (.t 11)) <|
  qo 12 (.ext 0 (.t 9)) <|
  qo 13 (.ext 1 (.t 9)) <|
  qo 3 (.mv (.t 12)) <|
  qo 4 (.mv (.t 13)) <|
  .nil)
  (.seq (.ops <|
  .prune [0, 3, 4] <|
  qo 15 (.mv (.t 0)) <|
  eo 16 (.call 7 [(.t 15)]) <|
  qo 14 (.mv (.t 16)) <|
  qo 17 (.ext 0 (.t 14)) <|
  .prune [14, 17, 3, 4] <|
  qo 18 (.ext 1 (.t 14)) <|
  qo 5 (.mv (.t 17)) <|
  qo 6 (.mv (.t 18)) <|
  .nil)
  (.prune [3, 5, 4, 6] (.seq (.ops <|
  eo 20 (.call 8 []) <|
  eo 21 (.call 6 [(.t 20)]) <|
  qo 19 (.mv (.t 21)) <|
  qo 22 (.ext 0 (.t 19)) <|
  qo 23 (.ext 1 (.t 19)) <|
  qo 7 (.mv (.t 22)) <|
  qo 8 (.mv (.t 23)) <|
  .nil)
  (.prune [3, 5, 4, 6, 8] (.seq (.ops <|
  qo 24 (.mv (.t 3)) <|
  qo 25 (.mv (.t 5)) <|
  qo 26 (.seq false (.t 24) (.t 25)) <|
  .prune [26, 4, 6, 8] <|
  qo 27 (.mv (.t 26)) <|
  .sc false 31 27 (qo 28 (.mv (.t 4)) <|
  qo 29 (.mv (.t 6)) <|
  qo 30 (.cmp .eql (.t 28) (.t 29)) <|
  .nil) (.t 30) <|
  qo 32 (.mv (.t 31)) <|
  .prune [32, 8] <|
  .sc false 35 32 (qo 33 (.mv (.t 8)) <|
  qo 34 (.cmp .eql (.t 33) (I 1)) <|
  .nil) (.t 34) <|
  qo 2 (.mv (.t 35)) <|
  .nil)
  .ret)))))))
theorem c3 : fnIs Tryd.prog qall 3 = some (j3.flat, [.tmp 2], 36) := by kernel_rfl
theorem w3 : j3.wf 36 = true := by kernel_rfl
theorem f_wrong : FnOK Tryd.prog 8 [] [] (.vec 0 ([⟨0, 0, 0⟩] : List Ev).length) [.vec 29 3 (([⟨0, 0, 0⟩] : List Ev).map dEv.emb)] := by
  refine fn_walkF c8 w8 FH.none_ok rfl ?_
  unfold j8
  simp only [go_sem, ↓reduceIte, Nat.reduceAdd, Nat.reduceMul, Nat.reduceSub, Nat.reduceLT, Nat.reduceLeDiff, Nat.reduceEqDiff, Int.reduceToNat, Int.reduceEq, Int.reduceLT, Int.reduceLE, reduceCtorEq]
def G (f : FuncId) (a : List SV) (m : List Res) : Sx.Call := (FH.rd 6 (.one dEs) (.two .str .int) (fun _ => True) (fun y => textF y.1) <|
  FH.rd 7 (.one dEs) (.two .str .int) (fun _ => True) (fun y => textF y.1) <|
  FH.pz 8 .nil (DP.one dEs) (fun _ => True) (fun _ => [⟨0, 0, 0⟩]) FH.none) f a m
theorem G_eq (f : FuncId) (a : List SV) (m : List Res) : G f a m = (FH.rd 6 (.one dEs) (.two .str .int) (fun _ => True) (fun y => textF y.1) <|
  FH.rd 7 (.one dEs) (.two .str .int) (fun _ => True) (fun y => textF y.1) <|
  FH.pz 8 .nil (DP.one dEs) (fun _ => True) (fun _ => [⟨0, 0, 0⟩]) FH.none) f a m := nr rfl
theorem G_ok : FHOK Tryd.prog G := FH.rd_ok (by kernel_rfl) (fun y _ => f_Text y.1) <| FH.rd_ok (by kernel_rfl) (fun y _ => f_RText y.1) <| FH.pz_ok (by kernel_rfl) (fun _ _ => f_wrong.holdL) FH.none_ok
theorem w_err : (textF [⟨0, 0, 0⟩]).2 = 1 := by kernel_rfl
theorem f_law (l : List Ev) : FnOK Tryd.prog 3 [dEs.emb l] [] (.bool true) [] := by
  refine fn_walkF c3 w3 G_ok rfl ?_
  unfold j3
  simp only [go_sem, ↓reduceIte, Nat.reduceAdd, Nat.reduceMul, Nat.reduceSub, Nat.reduceLT, Nat.reduceLeDiff, Nat.reduceEqDiff, Int.reduceToNat, Int.reduceEq, Int.reduceLT, Int.reduceLE, reduceCtorEq, G_eq, w_err]
abbrev A : DA (List Ev × Unit) := .one dEs
abbrev Ts : List TT := [.sl 3 (.st [.int .i64, .int .i64, .int .i64])]
theorem lawP (y : DenL Ts) : A.decP [] (embL Ts y) := ⟨⟨rfl, fun _ _ => ⟨rfl, rfl, rfl, trivial⟩⟩, trivial⟩
theorem law (y : DenL Ts) (_ : okDL Ts y) : FnOK Tryd.prog 3 (A.emb (A.decV [] (embL Ts y))) [] (.bool true) [] := f_law _
def litV : Lit → Value
  | .int k n => .int k n
  | _ => .bool false
def cells1 : DataW Unit → List Value
  | .lit l => [litV l]
  | _ => []
def cells2 : DataW Unit → List Value
  | .lit l => [litV l]
  | .agg l => l.flatMap cells1
  | _ => []
def cellsD : DataW Unit → Array Value
  | .agg l => (l.flatMap cells2).toArray
  | _ => #[]
theorem own : ownKnob Tryd.prog.godebug = none := by kernel_rfl
theorem laid : laidOutB Tryd.prog = true := by kernel_rfl
noncomputable def laidWorld (os : Os) : World :=
  { World.holding Tryd.prog os ⟨#[], #[], []⟩ with heap := ((((World.holding Tryd.prog os ⟨#[], #[], []⟩).heap.modify 4 fun | .cells _ t frozen => .cells (cellsD Rows.laid_math_bits_deBruijn32tab) t frozen | o => o).modify 5 fun | .cells _ t frozen => .cells (cellsD Rows.laid_math_bits_deBruijn64tab) t frozen | o => o).modify 1 fun | .cells _ t frozen => .cells (cellsD Rows.laid_internal_strconv_uint64pow10) t frozen | o => o) }
theorem laid_met (os : Os) : laidMet Tryd.prog Rows.textTellsRow.laid ((laidWorld os).forCall (fun _ _ => 0) ⟨#[], #[.slice none 0 0], []⟩).memory :=
  laidMet_of_run' 8 (by kernel_rfl) (by kernel_rfl)
theorem reads (os : Os) {H : Type} (enc : TypeId × Value → H) : ∃ places, DataW.whole enc Tryd.prog ((laidWorld os).forCall (fun _ _ => 0) ⟨#[], #[.slice none 0 0], []⟩).memory Tryd.f3.params.toList Rows.textTellsSpec.vars false (#[.slice none 0 0] : Array Value).toList 8 = some ([.nil], [], places) :=
  ⟨[], by kernel_rfl⟩
theorem lifted (os : Os) (started : os.Started) (H : Type) (enc : TypeId × Value → H) (F : Stop.Interp) :
    ReturnsInHanded {} Tryd.checked os 3 .any ((OpenSpec.ofChange Rows.textTellsSpec).preRow enc Tryd.prog Tryd.f3 Rows.textTellsRow.domain false Rows.textTellsRow.laid) (((OpenSpec.ofChange Rows.textTellsSpec).at F).post enc Tryd.prog Tryd.f3 false true false false) := by
  obtain ⟨places, hx⟩ := reads os enc
  refine returnsInHanded_of_row (C := Tryd.checked) (s := OpenSpec.ofChange Rows.textTellsSpec) own started (by kernel_rfl) Tryd.func3
    (witness_row_at (enc := enc) (C := Tryd.checked) false (laidWorld os) #[.slice none 0 0] rfl (by kernel_rfl) (by kernel_rfl) (by kernel_rfl)
      (OpenSpec.preRow_of_cond 8 hx (by kernel_rfl) (fun k hk => by cases hk) (by kernel_rfl) (laid_met os))) ?_
  intro W base args ds gs before hval0 hW _ hcnd _ hL _ _
  have hW' := hW
  obtain ⟨p, q, hA, hV, rfl, hfz, hnd⟩ := hW
  obtain ⟨rfl, rfl⟩ := trodVars_none hV
  obtain ⟨y, hs, hok⟩ := open_args Ts (by kernel_rfl) hA (fun j t v h1 h2 => hval0 j t v (by simpa using h1) (by simpa using h2))
  obtain ⟨d1, rfl⟩ := len_one (trod_len hA)
  refine (law_run (law y hok) W (vs := args.toList) (satA_conv (A := A) (lawP y) hs)).mono fun e W' ⟨he, hb⟩ => ?_
  subst he
  exact ⟨_, rfl, row_close laid (by kernel_rfl) (by kernel_rfl) Tryd.underlying4 rfl hW' hb rfl⟩
theorem said : Rows.TextTellsSaid :=
  OpenClaim.holds_of_cond 3 Tryd.f3 rfl rfl rfl rfl rfl rfl rfl ⟨rfl, rfl, rfl, rfl, rfl⟩ rfl rfl rfl rfl rfl (by kernel_rfl) Tryd.func3 (by kernel_rfl)
    (of_decide_eq_true (by kernel_rfl)) (by unfold Func.isWrapper; first | (rw [if_pos (by decide +kernel)]; kernel_rfl) | (rw [if_neg (by decide +kernel)]; exact ⟨rfl, rfl⟩))
    (fun os started H enc _ F => by rw [OpenClaim.pre_eq_preRow]; exact lifted os started H enc F)
theorem plain (f : FuncId) (fn : Func) (hf : Tryd.pinned.checked.prog.funcNamed "deadheat/deadheatlaw.TextTells" = some f) (hfn : Tryd.pinned.checked.prog.funcs[f]? = some fn) :
    false = Tryd.pinned.checked.prog.looks [] ∧ ∀ (j : Nat) t, fn.params[j]? = some t → Tryd.pinned.checked.prog.wantsStandIn t = false := by
  obtain rfl : f = 3 := Option.some.inj ((show Tryd.prog.funcNamed "deadheat/deadheatlaw.TextTells" = some 3 by kernel_rfl).symm.trans hf) |>.symm
  obtain rfl : fn = Tryd.f3 := (Option.some.inj (Tryd.func3.symm.trans hfn)).symm
  refine ⟨by kernel_rfl, fun j t ht => ?_⟩
  rw [Tryd.params3] at ht
  have hm := Array.mem_of_getElem? ht
  simp only [List.mem_toArray, List.mem_cons, List.not_mem_nil, or_false] at hm
  subst hm; exact (show Tryd.prog.wantsStandIn 22 = false by kernel_rfl)
theorem holds : Rows.TextTellsCardSaid :=
  Claim7.holds_tied_plain_at .later [] _ _ _ _ said (fun _ h => by cases h) (by kernel_rfl) (fun _ h => by cases h) textTells_row_tie rfl ⟨rfl, rfl⟩ (by kernel_rfl) rfl plain (by kernel_rfl)
#print axioms holds
end Go.Proofs.YtgcbhanfhnianaaDoor.TextTells
