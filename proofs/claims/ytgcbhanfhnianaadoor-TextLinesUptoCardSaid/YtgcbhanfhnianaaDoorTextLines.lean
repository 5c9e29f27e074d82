/- THE LAW 'TextLines' HANDS BACK TRUE, AND WHAT IT READS STANDS AS IT DID: WHERE IT IS OF BULK AT MOST 1048576. Conditions: five tables of Go's library hold what the program's text lays (the row lists them; the given tie). -/
import Derived.Test.YtgcbhanfhnianaaDoorTxtV
import Derived.Test.YtgcbhanfhnianaaDoorCards
import Derived.Test.YtgcbhanfhnianaaDoorTie
import Derived.WalkKit
import Derived.ProofKit
import Derived.OpenShut
import Derived.Deep.DeepHandedRow
import Derived.LaidMore
import Derived.JoinedCond
set_option linter.unusedSimpArgs false
set_option linter.unusedVariables false
set_option maxRecDepth 100000
open Go Go.Sx Go.Proofs Go.ChangeShapes Go.WideShapes Go.ChangeAt Go.RowKit
namespace Go.Proofs.YtgcbhanfhnianaaDoor.TextLines
open Go.Proofs.YtgcbhanfhnianaaDoor.D Go.Proofs.YtgcbhanfhnianaaDoor.Tr Go.Proofs.YtgcbhanfhnianaaDoor.Tx

def j4 : JC :=
  (.seq (.ops <|
  eo 2 (.box 29 (.t 0)) <|
  qo 4 (.mv (B false)) <|
  .nil)
  (.seq (.ops <|
  eo 14 (.load 3 true (.t 2)) <|
  eo 15 (.call 9 [(.t 14)]) <|
  qo 13 (.mv (.t 15)) <|
  qo 16 (.ext 0 (.t 13)) <|
  qo 17 (.ext 1 (.t 13)) <|
  qo 5 (.mv (.t 16)) <|
  qo 6 (.mv (.t 17)) <|
  .nil)
  (.seq (.ops <|
  .prune [2, 1, 5, 6] <|
  eo 19 (.load 3 true (.t 2)) <|
  eo 20 (.call 10 [(.t 19)]) <|
  qo 18 (.mv (.t 20)) <|
  .prune [18, 1, 5, 6] <|
  qo 21 (.ext 0 (.t 18)) <|
  qo 22 (.ext 1 (.t 18)) <|
  qo 7 (.mv (.t 21)) <|
  qo 8 (.mv (.t 22)) <|
  .nil)
  (.prune [1, 5, 7, 6, 8] (.seq (.ops <|
  qo 24 (.mv (.t 1)) <|
  eo 25 (.call 11 [(.t 24)]) <|
  qo 23 (.mv (.t 25)) <|
  qo 26 (.ext 0 (.t 23)) <|
  qo 27 (.ext 1 (.t 23)) <|
  .prune [26, 27, 1, 5, 7, 6, 8] <|
  eo 9 (.alloc 29 (.agg [(.int .i64 0), (.int .i64 0), (.int .i64 0)])) <|
  en (.store 3 (.t 9) (.t 26)) <|
  qo 10 (.mv (.t 27)) <|
  .nil)
  (.prune [1, 5, 7, 6, 8, 9, 10] (.seq (.ops <|
  qo 29 (.mv (.t 1)) <|
  eo 30 (.call 12 [(.t 29)]) <|
  qo 28 (.mv (.t 30)) <|
  .prune [28, 5, 7, 6, 8, 9, 10] <|
  qo 31 (.ext 0 (.t 28)) <|
  qo 32 (.ext 1 (.t 28)) <|
  eo 11 (.alloc 29 (.agg [(.int .i64 0), (.int .i64 0), (.int .i64 0)])) <|
  en (.store 3 (.t 11) (.t 31)) <|
  qo 12 (.mv (.t 32)) <|
  .nil)
  (.prune [5, 7, 6, 8, 9, 11, 10, 12] (.seq (.ops <|
  qo 33 (.mv (.t 5)) <|
  qo 34 (.mv (.t 7)) <|
  qo 35 (.seq false (.t 33) (.t 34)) <|
  .prune [35, 6, 8, 9, 11, 10, 12] <|
  qo 36 (.mv (.t 35)) <|
  .sc false 40 36 (qo 37 (.mv (.t 6)) <|
  qo 38 (.mv (.t 8)) <|
  qo 39 (.cmp .eql (.t 37) (.t 38)) <|
  .nil) (.t 39) <|
  .prune [40, 9, 11, 10, 12] <|
  qo 41 (.mv (.t 40)) <|
  .sc false 45 41 (eo 42 (.load 3 true (.t 9)) <|
  eo 43 (.load 3 true (.t 11)) <|
  qo 44 (.aeq false (.st [(.int .i64), (.int .i64), (.int .i64)]) (.t 42) (.t 43)) <|
  .nil) (.t 44) <|
  .prune [45, 10, 12] <|
  qo 46 (.mv (.t 45)) <|
  .sc false 50 46 (qo 47 (.mv (.t 10)) <|
  qo 48 (.mv (.t 12)) <|
  qo 49 (.cmp .eql (.t 47) (.t 48)) <|
  .nil) (.t 49) <|
  qo 4 (.mv (.t 50)) <|
  .nil)
  .ret)))))))))
theorem c4 : fnIs Tryd.prog qall 4 = some (j4.flat, [.tmp 4], 51) := by kernel_rfl
theorem w4 : j4.wf 51 = true := by kernel_rfl
def G (f : FuncId) (a : List SV) (m : List Res) : Sx.Call := (FH.rd 9 (.one dEv) (.two .str .int) (fun _ => True) (fun y => lineF y.1) <|
  FH.rd 10 (.one dEv) (.two .str .int) (fun _ => True) (fun y => lineF y.1) <|
  FH.rd 11 (.one .str) (.two dEv .int) (fun y => y.1.length < 4294967281) (fun y => eventF y.1) <|
  FH.rd 12 (.one .str) (.two dEv .int) (fun _ => True) (fun y => eventF y.1) FH.none) f a m
theorem G_eq (f : FuncId) (a : List SV) (m : List Res) : G f a m = (FH.rd 9 (.one dEv) (.two .str .int) (fun _ => True) (fun y => lineF y.1) <|
  FH.rd 10 (.one dEv) (.two .str .int) (fun _ => True) (fun y => lineF y.1) <|
  FH.rd 11 (.one .str) (.two dEv .int) (fun y => y.1.length < 4294967281) (fun y => eventF y.1) <|
  FH.rd 12 (.one .str) (.two dEv .int) (fun _ => True) (fun y => eventF y.1) FH.none) f a m := nr rfl
theorem G_ok : FHOK Tryd.prog G := FH.rd_ok (by kernel_rfl) (fun y _ => f_Line y.1) <| FH.rd_ok (by kernel_rfl) (fun y _ => f_RLine y.1) <|
  FH.rd_ok (by kernel_rfl) (fun y h => f_Event y.1 h) <| FH.rd_ok (by kernel_rfl) (fun y _ => f_EventOf y.1) FH.none_ok
theorem f_law (e : Ev) (s : By) (h : s.length ≤ 1048576) : FnOK Tryd.prog 4 [dEv.emb e, .str s] [] (.bool true) [] := by
  refine fn_walkF c4 w4 G_ok rfl ?_
  unfold j4
  have h1 : s.length < 4294967281 := by omega
  simp only [go_sem, ↓reduceIte, Nat.reduceAdd, Nat.reduceMul, Nat.reduceSub, Nat.reduceLT, Nat.reduceLeDiff, Nat.reduceEqDiff, Int.reduceToNat, Int.reduceEq, Int.reduceLT, Int.reduceLE, reduceCtorEq, G_eq, h1]
abbrev A : DA (Ev × By × Unit) := .two dEv .str
abbrev Ts : List TT := [.st [.int .i64, .int .i64, .int .i64], .str]
theorem lawP (y : DenL Ts) : A.decP [] (embL Ts y) := ⟨⟨rfl, rfl, rfl, trivial⟩, trivial, trivial⟩
theorem law (y : DenL Ts) (_ : okDL Ts y) (h : y.2.1.length ≤ 1048576) : FnOK Tryd.prog 4 (A.emb (A.decV [] (embL Ts y))) [] (.bool true) [] := f_law _ _ h
theorem small {H : Type} {enc : TypeId × Value → H} {W : World} {spare : Nat → Bool} {vs : List Value} {ds : List (DataW H)} {ps : List MemPlace} (h : DataW.TrodAll enc Tryd.prog W 0 spare true [29, 9] vs ds ps)
    (y : DenL Ts) (hs : SatA (embL Ts y) (ε0 W) vs) (hk : Rows.uptoBulkAll ds ≤ 1048576) : y.2.1.length ≤ 1048576 := by
  obtain ⟨e, s, u⟩ := y
  obtain ⟨c1, t1, rfl, k1, c2, t2, rfl, k2, k3⟩ := hs
  have k3 : t2 = [] := k3
  subst k3
  have k2 : c2 = [.string ⟨s.toArray⟩] := k2
  subst k2
  match ds, h with
  | [d1, d2], ⟨p1, q1, h1, ⟨p2, q2, ⟨fuel, h2⟩, h3, _⟩, _⟩ =>
    obtain ⟨b, hc, hd, _⟩ := DataW.trod_string (show Tryd.prog.underlying 9 = some .string by kernel_rfl) h2
    have hb : b = ⟨s.toArray⟩ := by
      have := (List.cons.inj hc).1
      cases this
      rfl
    have hd := (Prod.mk.inj hd).1
    subst hd
    subst hb
    simp only [Rows.uptoBulkAll, Rows.uptoBulk] at hk
    show s.length ≤ 1048576
    omega
def litV : Lit → Value
  | .int k n => .int k n
  | _ => .bool false
def cells1 : DataW Unit → List Value
  | .lit l => [litV l]
  | _ => []
def cells2 : DataW Unit → List Value
  | .lit l => [litV l]
  | .agg l => l.flatMap cells1
  | _ => []
def cellsD : DataW Unit → Array Value
  | .agg l => (l.flatMap cells2).toArray
  | _ => #[]
theorem own : ownKnob Tryd.prog.godebug = none := by kernel_rfl
theorem laid : laidOutB Tryd.prog = true := by kernel_rfl
noncomputable def laidWorld (os : Os) : World :=
  { World.holding Tryd.prog os ⟨#[], #[], []⟩ with heap := ((((((World.holding Tryd.prog os ⟨#[], #[], []⟩).heap.modify 4 fun | .cells _ t frozen => .cells (cellsD Rows.laid_math_bits_deBruijn32tab) t frozen | o => o).modify 5 fun | .cells _ t frozen => .cells (cellsD Rows.laid_math_bits_deBruijn64tab) t frozen | o => o).modify 1 fun | .cells _ t frozen => .cells (cellsD Rows.laid_internal_strconv_uint64pow10) t frozen | o => o).modify 3 fun | .cells _ t frozen => .cells (cellsD Rows.laid_unicode_utf8_acceptRanges) t frozen | o => o).modify 2 fun | .cells _ t frozen => .cells (cellsD Rows.laid_unicode_utf8_first) t frozen | o => o) }
theorem laid_met (os : Os) : laidMet Tryd.prog Rows.textLinesUptoRow.laid ((laidWorld os).forCall (fun _ _ => 0) ⟨#[], #[.agg #[.int .i64 0, .int .i64 0, .int .i64 0], .string ⟨#[]⟩], []⟩).memory :=
  laidMet_of_run' 8 (by kernel_rfl) (by kernel_rfl)
theorem reads (os : Os) {H : Type} (enc : TypeId × Value → H) : ∃ places, DataW.whole enc Tryd.prog ((laidWorld os).forCall (fun _ _ => 0) ⟨#[], #[.agg #[.int .i64 0, .int .i64 0, .int .i64 0], .string ⟨#[]⟩], []⟩).memory Tryd.f4.params.toList Rows.textLinesSpec.vars false (#[.agg #[.int .i64 0, .int .i64 0, .int .i64 0], .string ⟨#[]⟩] : Array Value).toList 8 = some ([.agg [.lit (.int .i64 0), .lit (.int .i64 0), .lit (.int .i64 0)], .lit (.string [])], [], places) :=
  ⟨[], by kernel_rfl⟩
theorem lifted (os : Os) (started : os.Started) (H : Type) (enc : TypeId × Value → H) (F : Stop.Interp) :
    ReturnsInHanded {} Tryd.checked os 4 .any ((Rows.OpenSpec.upto Rows.textLinesSpec).preRow enc Tryd.prog Tryd.f4 Rows.textLinesUptoRow.domain false Rows.textLinesUptoRow.laid) (((Rows.OpenSpec.upto Rows.textLinesSpec).at F).post enc Tryd.prog Tryd.f4 false true false false) := by
  obtain ⟨places, hx⟩ := reads os enc
  refine returnsInHanded_of_row (C := Tryd.checked) (s := Rows.OpenSpec.upto Rows.textLinesSpec) own started (by kernel_rfl) Tryd.func4
    (witness_row_at (enc := enc) (C := Tryd.checked) false (laidWorld os) #[.agg #[.int .i64 0, .int .i64 0, .int .i64 0], .string ⟨#[]⟩] rfl (by kernel_rfl) (by kernel_rfl) (by kernel_rfl)
      (OpenSpec.preRow_of_cond 8 hx (by kernel_rfl) (fun k hk => by cases hk; kernel_rfl) (by kernel_rfl) (laid_met os))) ?_
  intro W base args ds gs before hval0 hW _ hcnd _ hL _ _
  have hW' := hW
  obtain ⟨p, q, hA, hV, rfl, hfz, hnd⟩ := hW
  obtain ⟨rfl, rfl⟩ := trodVars_none hV
  obtain ⟨y, hs, hok⟩ := open_args Ts (by kernel_rfl) hA (fun j t v h1 h2 => hval0 j t v (by simpa using h1) (by simpa using h2))
  have hk := small hA y hs (by simpa using of_decide_eq_true (hcnd _ rfl))
  obtain ⟨d1, d2, rfl⟩ := len_two (trod_len hA)
  refine (law_run (law y hok hk) W (vs := args.toList) (satA_conv (A := A) (lawP y) hs)).mono fun e W' ⟨he, hb⟩ => ?_
  subst he
  exact ⟨_, rfl, row_close laid (by kernel_rfl) (by kernel_rfl) Tryd.underlying4 rfl hW' hb rfl⟩
theorem said : Rows.TextLinesUptoSaid :=
  OpenClaim.holds_of_cond 4 Tryd.f4 rfl rfl rfl rfl rfl rfl rfl ⟨rfl, rfl, rfl, rfl, rfl⟩ rfl rfl rfl rfl rfl (by kernel_rfl) Tryd.func4 (by kernel_rfl)
    (of_decide_eq_true (by kernel_rfl)) (by unfold Func.isWrapper; first | (rw [if_pos (by decide +kernel)]; kernel_rfl) | (rw [if_neg (by decide +kernel)]; exact ⟨rfl, rfl⟩))
    (fun os started H enc _ F => by rw [OpenClaim.pre_eq_preRow]; exact lifted os started H enc F)
theorem plain (f : FuncId) (fn : Func) (hf : Tryd.pinned.checked.prog.funcNamed "deadheat/deadheatlaw.TextLines" = some f) (hfn : Tryd.pinned.checked.prog.funcs[f]? = some fn) :
    false = Tryd.pinned.checked.prog.looks [] ∧ ∀ (j : Nat) t, fn.params[j]? = some t → Tryd.pinned.checked.prog.wantsStandIn t = false := by
  obtain rfl : f = 4 := Option.some.inj ((show Tryd.prog.funcNamed "deadheat/deadheatlaw.TextLines" = some 4 by kernel_rfl).symm.trans hf) |>.symm
  obtain rfl : fn = Tryd.f4 := (Option.some.inj (Tryd.func4.symm.trans hfn)).symm
  refine ⟨by kernel_rfl, fun j t ht => ?_⟩
  rw [Tryd.params4] at ht
  have hm := Array.mem_of_getElem? ht
  simp only [List.mem_toArray, List.mem_cons, List.not_mem_nil, or_false] at hm
  rcases hm with rfl | rfl
  · exact (show Tryd.prog.wantsStandIn 29 = false by kernel_rfl)
  · exact (show Tryd.prog.wantsStandIn 9 = false by kernel_rfl)
theorem holds : Rows.TextLinesUptoCardSaid :=
  Claim7.holds_tied_plain_at .later [] _ _ _ _ said (fun _ h => by cases h) (by kernel_rfl) (fun _ h => by cases h) textLinesUpto_row_tie rfl ⟨rfl, rfl⟩ (by kernel_rfl) rfl plain (by kernel_rfl)
#print axioms holds
end Go.Proofs.YtgcbhanfhnianaaDoor.TextLines
