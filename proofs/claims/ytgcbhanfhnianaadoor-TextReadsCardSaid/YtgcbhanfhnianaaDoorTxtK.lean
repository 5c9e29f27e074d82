/- The library's functions that text comes to, in the layer's words. Conditions: none. -/
import Derived.Test.YtgcbhanfhnianaaDoorShStr
import Derived.Test.YtgcbhanfhnianaaDoorBase
import Derived.Test.YtgcbhanfhnianaaDoorSx46
set_option linter.unusedSimpArgs false
set_option linter.unusedVariables false
set_option maxRecDepth 100000
open Go Go.Sx Go.Proofs
namespace Go.Proofs.YtgcbhanfhnianaaDoor.Tx
open Go.Proofs.YtgcbhanfhnianaaDoor.D
abbrev By := List UInt8
theorem f_FormatInt (i : Nat) (hi : i < 100) : FnOK Tryd.prog 43 [.int .i64 i, .int .i64 10] [] (.str (Lib.decDigits i)) [] := by
  refine fn_below fun ε w vs g hs => ?_
  obtain ⟨c1, t1, rfl, k1, c2, t2, rfl, k2, k3⟩ := hs
  simp only [SatC] at k1 k2
  subst k1; subst k2
  have k3 : t2 = [] := k3
  subst k3
  refine (Any.internal_strconv_FormatInt_10_small Sh.laysFmt i hi w).mono fun e w' ⟨he, hw⟩ => ?_
  subst hw
  exact ⟨⟨_, he, _, rfl, rfl⟩, Go.RowKit.Below.refl _ _⟩
theorem f_Index (s : By) (c : UInt8) : FnOK Tryd.prog 47 [.str s, .str [c]] [] (.int .i64 (Lib.indexByte s c)) [] := by
  refine fn_below fun ε w vs g hs => ?_
  obtain ⟨c1, t1, rfl, k1, c2, t2, rfl, k2, k3⟩ := hs
  simp only [SatC] at k1 k2
  subst k1; subst k2
  have k3 : t2 = [] := k3
  subst k3
  refine (Any.stringslite_Index_one Sh.laysIndex ⟨s.toArray⟩ c w).mono fun e w' ⟨he, hw⟩ => ?_
  subst hw
  exact ⟨⟨_, he, _, rfl, rfl⟩, Go.RowKit.Below.refl _ _⟩
def splitL (s : By) (c : UInt8) : List By := Lib.split s [c]
theorem hi9 : (Tryd.prog.info? 9).map (fun i => (i.zero, i.size, i.bytes)) = some (some (.string ByteArray.empty), 1, 16) := by kernel_rfl
theorem split_len (s : By) (c : UInt8) : (splitL s c).length = s.count c + 1 := by
  have h := Lib.splitB_all ⟨#[c]⟩ (Nat.le_refl 1) 0 _ ⟨s.toArray⟩ rfl
  have e := Lib.splitB_data ⟨#[c]⟩ 0 (Lib.countB ⟨s.toArray⟩ ⟨#[c]⟩) ⟨s.toArray⟩
  have hc : Lib.countB ⟨s.toArray⟩ ⟨#[c]⟩ = s.count c := Lib.count_one c s
  rw [hc] at h e
  have : (Lib.splitK [c] 0 (s.count c) s).length = s.count c + 1 := by
    rw [← h]
    have := congrArg List.length e
    rw [List.length_map] at this
    exact this.symm
  rw [splitL, Lib.split, Lib.count_one]
  exact this
theorem f_genSplit (s : By) (c : UInt8) (hs : s.length < 4294967281) : FnOK Tryd.prog 36 [.str s, .str [c], .int .i64 0, .int .i64 (-1)] [] (.vec 0 (splitL s c).length) [.vec 9 1 ((splitL s c).map DT.str.emb)] := by
  have hl : ((splitL s c).map DT.str.emb).length = (splitL s c).length := List.length_map _
  rw [← hl]
  refine fn_slice fun ε w vs g hs' => ?_
  obtain ⟨c1, t1, rfl, k1, c2, t2, rfl, k2, c3, t3, rfl, k3, c4, t4, rfl, k4, k5⟩ := hs'
  simp only [SatC] at k1 k2 k3 k4
  subst k1; subst k2; subst k3; subst k4
  have k5 : t4 = [] := k5
  subst k5
  have hc : Lib.countB ⟨s.toArray⟩ ⟨#[c]⟩ = s.count c := Lib.count_one c s
  have hcl : s.count c ≤ s.length := List.count_le_length
  have core := Any.strings_genSplit_core (P := Tryd.prog) (ρ := Sh.laysSplit_ren) { Sh.laysSplit with } hi9 ⟨s.toArray⟩ ⟨#[c]⟩ 0 (-1) (s.count c + 1) w hs (Nat.le_refl 1) (Nat.zero_le _)
    (fun x cs _ => by
      have h := Any.strings_Index_one (P := Tryd.prog) (ρ := Sh.laysSplit_ren) { Sh.laysSplit with } x c (w.alloc (.cells cs (Sh.laysSplit_ren.t 9)))
      have e : Lib.indexB x ⟨#[c]⟩ = Lib.indexByte x.data.toList c := Lib.index_one _ _
      rw [e]; exact h)
    (by
      rw [hc]
      have h := Any.strings_Count_one (P := Tryd.prog) (ρ := Sh.laysSplit_ren) { Sh.laysSplit with } ⟨s.toArray⟩ c w
      exact h)
    (by decide) (by decide) (by
      rw [if_pos (by decide), hc]
      show ((s.count c + 1 : Nat) : Int) = min ((s.count c : Int) + 1) ((s.length : Int) + 1)
      omega)
  rw [Nat.add_sub_cancel] at core
  have hsp := Lib.splitB_all ⟨#[c]⟩ (Nat.le_refl 1) 0 _ ⟨s.toArray⟩ rfl
  rw [hc] at hsp
  have e2 : Lib.cellsOf (Lib.splitB ⟨#[c]⟩ 0 (s.count c) ⟨s.toArray⟩) (s.count c + 1) = ((Lib.splitB ⟨#[c]⟩ 0 (s.count c) ⟨s.toArray⟩).map Value.string).toArray := by rw [← hsp]; exact Lib.cellsOf_full _
  have hdat := Lib.splitB_data ⟨#[c]⟩ 0 (s.count c) ⟨s.toArray⟩
  have hS : splitL s c = (Lib.splitB ⟨#[c]⟩ 0 (s.count c) ⟨s.toArray⟩).map (·.data.toList) := by
    rw [hdat, splitL, Lib.split, Lib.count_one]
  rw [e2] at core
  generalize Lib.splitB ⟨#[c]⟩ 0 (s.count c) ⟨s.toArray⟩ = B at core hS hsp
  refine ⟨B.map Value.string, ⟨by rw [hl, hS]; simp, by rw [hl, split_len]; unfold maxLen; omega, fun j hj => ?_⟩, core.mono fun e w' ⟨he, hw⟩ => ⟨?_, hw⟩⟩
  · rw [hl, hS, List.length_map] at hj
    have e1 : ((splitL s c).map DT.str.emb).getD j .junk = .str (B[j].data.toList) := by
      rw [hS]
      simp [List.getD, hj, str_emb]
    rw [e1]
    simp only [SatC, Nat.mul_one]
    have : sub (B.map Value.string) j 1 = [Value.string B[j]] := by
      unfold sub
      rw [List.drop_eq_getElem_cons (by simpa using hj)]
      simp
    rw [this, Lib.mk_data]
  · rw [he, hl, hS, List.length_map, hsp]

def j25 : JC :=
  (.seq (.ops <|
  qo 4 (.mv (.c .nils)) <|
  .nil)
  (.seq (.ops <|
  qo 5 (.mv (.t 0)) <|
  qo 6 (.mv (.t 1)) <|
  eo 7 (.call 36 [(.t 5), (.t 6), (I 0), (I (-1))]) <|
  qo 4 (.mv (.t 7)) <|
  .nil)
  .ret))
theorem c25 : fnIs Tryd.prog qall 25 = some (j25.flat, [.tmp 4], 8) := by kernel_rfl
theorem w25 : j25.wf 8 = true := by kernel_rfl
def Gsp (f : FuncId) (a : List SV) (m : List Res) : Sx.Call := (FH.mk 36 (.cons .str (.cons .str (.cons .int (.cons .int .nil)))) (fun y => y.1.length < 4294967281 ∧ y.2.1.length = 1 ∧ y.2.2.1 = 0 ∧ y.2.2.2.1 = -1) (fun y => .vec 0 (splitL y.1 (y.2.1.getD 0 0)).length) (fun y => [.vec 9 1 ((splitL y.1 (y.2.1.getD 0 0)).map DT.str.emb)]) FH.none) f a m
theorem Gsp_eq (f : FuncId) (a : List SV) (m : List Res) : Gsp f a m = (FH.mk 36 (.cons .str (.cons .str (.cons .int (.cons .int .nil)))) (fun y => y.1.length < 4294967281 ∧ y.2.1.length = 1 ∧ y.2.2.1 = 0 ∧ y.2.2.2.1 = -1) (fun y => .vec 0 (splitL y.1 (y.2.1.getD 0 0)).length) (fun y => [.vec 9 1 ((splitL y.1 (y.2.1.getD 0 0)).map DT.str.emb)]) FH.none) f a m := nr rfl
theorem Gsp_ok : FHOK Tryd.prog Gsp := FH.mk_ok (by kernel_rfl) (fun y _ => plainM (pv_vec _ _) ⟨plR_vec _ _ DT.str _, trivial⟩) (fun y h => by
  obtain ⟨s, b, i, j, u⟩ := y
  obtain ⟨h1, h2, h3, h4⟩ := h
  simp only at h1 h2 h3 h4
  subst h3; subst h4
  match b, h2 with
  | [c], _ => exact f_genSplit s c h1) FH.none_ok
theorem f_Split (s : By) (c : UInt8) (hs : s.length < 4294967281) : FnOK Tryd.prog 25 [.str s, .str [c]] [] (.vec 0 (splitL s c).length) [.vec 9 1 ((splitL s c).map DT.str.emb)] := by
  refine fn_walkF c25 w25 Gsp_ok rfl ?_
  unfold j25
  simp only [go_sem, ↓reduceIte, Nat.reduceAdd, Nat.reduceMul, Nat.reduceSub, Nat.reduceLT, Nat.reduceLeDiff, Nat.reduceEqDiff, Int.reduceToNat, Int.reduceEq, Int.reduceLT, Int.reduceLE, reduceCtorEq, Gsp_eq, List.length_singleton, List.getD_cons_zero, hs]
/-- Before the first c, behind it, and whether there is one. -/
def cutL (s : By) (c : UInt8) : By × By × Bool := if 0 ≤ Lib.indexByte s c then (s.take (Lib.indexByte s c).toNat, s.drop ((Lib.indexByte s c).toNat + 1), true) else (s, [], false)

def j37 : JC :=
  (.seq (.ops <|
  qo 4 (.mv (.c (.str []))) <|
  qo 5 (.mv (.c (.str []))) <|
  qo 6 (.mv (B false)) <|
  .nil)
  (.seq (.seq (.ops <|
  qo 8 (.mv (.t 0)) <|
  qo 9 (.mv (.t 1)) <|
  eo 10 (.call 47 [(.t 8), (.t 9)]) <|
  qo 7 (.mv (.t 10)) <|
  .nil)
  (.seq (.ops <|
  qo 11 (.mv (.t 7)) <|
  qo 12 (.cmp .geq (.t 11) (I 0)) <|
  .nil)
  (.cond (.t 12)
  (.seq (.dops <|
  .prune [0, 7, 1] <|
  qo 13 (.mv (.t 0)) <|
  qo 14 (.mv (.t 7)) <|
  qo 15 (.ssl (.t 13) none (some (.t 14))) <|
  qo 16 (.mv (.t 0)) <|
  .prune [7, 1, 16, 15] <|
  qo 17 (.mv (.t 7)) <|
  qo 18 (.mv (.t 1)) <|
  qo 19 (.lens (.t 18)) <|
  .prune [17, 19, 16, 15] <|
  qo 20 (.ar .add (.t 17) (.t 19)) <|
  qo 21 (.ssl (.t 16) (some (.t 20)) none) <|
  qo 4 (.mv (.t 15)) <|
  qo 5 (.mv (.t 21)) <|
  qo 6 (.mv (B true)) <|
  .nil)
  .ret)
  .skip)))
  (.prune [0] (.seq (.ops <|
  qo 22 (.mv (.t 0)) <|
  qo 4 (.mv (.t 22)) <|
  qo 5 (.mv (.c (.str []))) <|
  qo 6 (.mv (B false)) <|
  .nil)
  .ret))))
theorem c37 : fnIs Tryd.prog qall 37 = some (j37.flat, [.tmp 4, .tmp 5, .tmp 6], 23) := by kernel_rfl
theorem w37 : j37.wf 23 = true := by kernel_rfl
def Gct (f : FuncId) (a : List SV) (m : List Res) : Sx.Call := (FH.rd 47 (.two .str .str) (.one .int) (fun y => y.2.1.length = 1) (fun y => Lib.indexByte y.1 (y.2.1.getD 0 0)) FH.none) f a m
theorem Gct_eq (f : FuncId) (a : List SV) (m : List Res) : Gct f a m = (FH.rd 47 (.two .str .str) (.one .int) (fun y => y.2.1.length = 1) (fun y => Lib.indexByte y.1 (y.2.1.getD 0 0)) FH.none) f a m := nr rfl
theorem Gct_ok : FHOK Tryd.prog Gct := FH.rd_ok (by kernel_rfl) (fun y h => by
  obtain ⟨s, b, u⟩ := y
  simp only at h
  match b, h with
  | [c], _ => exact f_Index s c) FH.none_ok
theorem index_lt : ∀ (s : By) (c : UInt8), 0 ≤ Lib.indexByte s c → Lib.indexByte s c < s.length
  | [], c, h => by simp [Lib.indexByte] at h
  | b :: l, c, h => by
    rw [Lib.indexByte] at h ⊢
    have ge := Lib.indexByte_ge l c
    split
    · simp
    · rename_i hb
      rw [if_neg hb] at h
      split at h
      · omega
      · rename_i hn
        rw [if_neg hn]
        have : Lib.indexByte l c ≠ -1 := by simpa using hn
        have := index_lt l c (by omega)
        simp only [List.length_cons]
        omega
theorem f_Cut0 (s : By) (c : UInt8) (hs : s.length ≤ 1048576) : FnOK Tryd.prog 37 [.str s, .str [c]] [] (.tup [.str (cutL s c).1, .str (cutL s c).2.1, .bool (cutL s c).2.2]) [] := by
  refine fn_walkF c37 w37 Gct_ok rfl ?_
  unfold j37
  simp only [go_sem, ↓reduceIte, Nat.reduceAdd, Nat.reduceMul, Nat.reduceSub, Nat.reduceLT, Nat.reduceLeDiff, Nat.reduceEqDiff, Int.reduceToNat, Int.reduceEq, Int.reduceLT, Int.reduceLE, reduceCtorEq, Gct_eq, List.length_singleton, List.getD_cons_zero, hs]
  refine ⟨fun h => ?_, fun h => ?_⟩
  · have hlt := index_lt s c h
    have hw : IntKind.i64.wrap (Lib.indexByte s c + 1) = Lib.indexByte s c + 1 := IntWalk.i64_in _ (by omega)
    rw [hw]
    refine ⟨h, by omega, by omega, by omega, ?_⟩
    rw [cutL, if_pos h, List.take_length, show (Lib.indexByte s c + 1).toNat = (Lib.indexByte s c).toNat + 1 by omega]
  · rw [cutL, if_neg h]

def j26 : JC :=
  (.seq (.ops <|
  qo 4 (.mv (.c (.str []))) <|
  qo 5 (.mv (.c (.str []))) <|
  qo 6 (.mv (B false)) <|
  .nil)
  (.seq (.ops <|
  qo 7 (.mv (.t 0)) <|
  qo 8 (.mv (.t 1)) <|
  eo 9 (.call 37 [(.t 7), (.t 8)]) <|
  qo 10 (.ext 0 (.t 9)) <|
  .prune [9, 10] <|
  qo 11 (.ext 1 (.t 9)) <|
  qo 12 (.ext 2 (.t 9)) <|
  qo 4 (.mv (.t 10)) <|
  qo 5 (.mv (.t 11)) <|
  qo 6 (.mv (.t 12)) <|
  .nil)
  .ret))
theorem c26 : fnIs Tryd.prog qall 26 = some (j26.flat, [.tmp 4, .tmp 5, .tmp 6], 13) := by kernel_rfl
theorem w26 : j26.wf 13 = true := by kernel_rfl
def Gcu (f : FuncId) (a : List SV) (m : List Res) : Sx.Call := (FH.rd 37 (.two .str .str) (.three .str .str .bool) (fun y => y.1.length ≤ 1048576 ∧ y.2.1.length = 1) (fun y => cutL y.1 (y.2.1.getD 0 0)) FH.none) f a m
theorem Gcu_eq (f : FuncId) (a : List SV) (m : List Res) : Gcu f a m = (FH.rd 37 (.two .str .str) (.three .str .str .bool) (fun y => y.1.length ≤ 1048576 ∧ y.2.1.length = 1) (fun y => cutL y.1 (y.2.1.getD 0 0)) FH.none) f a m := nr rfl
theorem Gcu_ok : FHOK Tryd.prog Gcu := FH.rd_ok (by kernel_rfl) (fun y h => by
  obtain ⟨s, b, u⟩ := y
  obtain ⟨h1, h2⟩ := h
  simp only at h1 h2
  match b, h2 with
  | [c], _ => exact f_Cut0 s c h1) FH.none_ok
theorem f_Cut (s : By) (c : UInt8) (hs : s.length ≤ 1048576) : FnOK Tryd.prog 26 [.str s, .str [c]] [] (.tup [.str (cutL s c).1, .str (cutL s c).2.1, .bool (cutL s c).2.2]) [] := by
  refine fn_walkF c26 w26 Gcu_ok rfl ?_
  unfold j26
  simp only [go_sem, ↓reduceIte, Nat.reduceAdd, Nat.reduceMul, Nat.reduceSub, Nat.reduceLT, Nat.reduceLeDiff, Nat.reduceEqDiff, Int.reduceToNat, Int.reduceEq, Int.reduceLT, Int.reduceLE, reduceCtorEq, Gcu_eq, List.length_singleton, List.getD_cons_zero, hs]

def j33 : JC :=
  (.seq (.ops <|
  qo 2 (.mv (.c (.str []))) <|
  .nil)
  (.seq (.ops <|
  qo 3 (.mv (.t 0)) <|
  eo 4 (.call 43 [(.t 3), (I 10)]) <|
  qo 2 (.mv (.t 4)) <|
  .nil)
  .ret))
theorem c33 : fnIs Tryd.prog qall 33 = some (j33.flat, [.tmp 2], 5) := by kernel_rfl
theorem w33 : j33.wf 5 = true := by kernel_rfl
def Gi1 (f : FuncId) (a : List SV) (m : List Res) : Sx.Call := (FH.rd 43 (.two .int .int) (.one .str) (fun y => 0 ≤ y.1 ∧ y.1 < 100 ∧ y.2.1 = 10) (fun y => Lib.decDigits y.1.toNat) FH.none) f a m
theorem Gi1_eq (f : FuncId) (a : List SV) (m : List Res) : Gi1 f a m = (FH.rd 43 (.two .int .int) (.one .str) (fun y => 0 ≤ y.1 ∧ y.1 < 100 ∧ y.2.1 = 10) (fun y => Lib.decDigits y.1.toNat) FH.none) f a m := nr rfl
theorem Gi1_ok : FHOK Tryd.prog Gi1 := FH.rd_ok (by kernel_rfl) (fun y h => by
  obtain ⟨i, b, u⟩ := y
  obtain ⟨h1, h2, h3⟩ := h
  simp only at h1 h2 h3
  subst h3
  have := f_FormatInt i.toNat (by omega)
  rwa [Int.toNat_of_nonneg h1] at this) FH.none_ok
theorem f_Itoa0 (i : Int) (h0 : 0 ≤ i) (h1 : i < 100) : FnOK Tryd.prog 33 [.int .i64 i] [] (.str (Lib.decDigits i.toNat)) [] := by
  refine fn_walkF c33 w33 Gi1_ok rfl ?_
  unfold j33
  simp only [go_sem, ↓reduceIte, Nat.reduceAdd, Nat.reduceMul, Nat.reduceSub, Nat.reduceLT, Nat.reduceLeDiff, Nat.reduceEqDiff, Int.reduceToNat, Int.reduceEq, Int.reduceLT, Int.reduceLE, reduceCtorEq, Gi1_eq, h0, h1]

def j21 : JC :=
  (.seq (.ops <|
  qo 2 (.mv (.c (.str []))) <|
  .nil)
  (.seq (.ops <|
  qo 3 (.mv (.t 0)) <|
  eo 4 (.call 33 [(.t 3)]) <|
  qo 2 (.mv (.t 4)) <|
  .nil)
  .ret))
theorem c21 : fnIs Tryd.prog qall 21 = some (j21.flat, [.tmp 2], 5) := by kernel_rfl
theorem w21 : j21.wf 5 = true := by kernel_rfl
def Gi2 (f : FuncId) (a : List SV) (m : List Res) : Sx.Call := (FH.rd 33 (.one .int) (.one .str) (fun y => 0 ≤ y.1 ∧ y.1 < 100) (fun y => Lib.decDigits y.1.toNat) FH.none) f a m
theorem Gi2_eq (f : FuncId) (a : List SV) (m : List Res) : Gi2 f a m = (FH.rd 33 (.one .int) (.one .str) (fun y => 0 ≤ y.1 ∧ y.1 < 100) (fun y => Lib.decDigits y.1.toNat) FH.none) f a m := nr rfl
theorem Gi2_ok : FHOK Tryd.prog Gi2 := FH.rd_ok (by kernel_rfl) (fun y h => f_Itoa0 y.1 h.1 h.2) FH.none_ok
theorem f_Itoa (i : Int) (h0 : 0 ≤ i) (h1 : i < 100) : FnOK Tryd.prog 21 [.int .i64 i] [] (.str (Lib.decDigits i.toNat)) [] := by
  refine fn_walkF c21 w21 Gi2_ok rfl ?_
  unfold j21
  simp only [go_sem, ↓reduceIte, Nat.reduceAdd, Nat.reduceMul, Nat.reduceSub, Nat.reduceLT, Nat.reduceLeDiff, Nat.reduceEqDiff, Int.reduceToNat, Int.reduceEq, Int.reduceLT, Int.reduceLE, reduceCtorEq, Gi2_eq, h0, h1]
end Go.Proofs.YtgcbhanfhnianaaDoor.Tx
