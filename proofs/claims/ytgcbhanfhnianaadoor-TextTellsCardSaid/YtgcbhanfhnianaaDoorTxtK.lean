/- The library's functions that text comes to, in the layer's words. Conditions: none. -/
import Derived.Test.YtgcbhanfhnianaaDoorShStr
import Derived.Test.YtgcbhanfhnianaaDoorBase
import Derived.Test.YtgcbhanfhnianaaDoorSx46
set_option linter.unusedSimpArgs false
set_option linter.unusedVariables false
set_option maxRecDepth 100000
open Go Go.Sx Go.Proofs
namespace Go.Proofs.YtgcbhanfhnianaaDoor.Tx
open Go.Proofs.YtgcbhanfhnianaaDoor.D
abbrev By := List UInt8
theorem extraJ : Go.Proofs.Builder.Extra Tryd.prog Sh.laysJoin_ren where
  sizeBuilder := by kernel_rfl
  liesBuilder := by kernel_rfl
  t5 := Tryd.underlying5
  a5 := Tryd.isAgg5
  z5 := Tryd.sizeOf5
  v5 := Tryd.zeroValue5
  infoByte := by kernel_rfl
  cellsByte := by kernel_rfl
  sizeByte := by kernel_rfl
  neB5 := by decide
theorem f_FormatInt (i : Nat) (hi : i < 100) : FnOK Tryd.prog 43 [.int .i64 i, .int .i64 10] [] (.str (Lib.decDigits i)) [] := by
  refine fn_below fun ε w vs g hs => ?_
  obtain ⟨c1, t1, rfl, k1, c2, t2, rfl, k2, k3⟩ := hs
  simp only [SatC] at k1 k2
  subst k1; subst k2
  have k3 : t2 = [] := k3
  subst k3
  refine (Any.internal_strconv_FormatInt_10_small Sh.laysFmt i hi w).mono fun e w' ⟨he, hw⟩ => ?_
  subst hw
  exact ⟨⟨_, he, _, rfl, rfl⟩, Go.RowKit.Below.refl _ _⟩
def j33 : JC :=
  (.seq (.ops <|
  qo 2 (.mv (.c (.str []))) <|
  .nil)
  (.seq (.ops <|
  qo 3 (.mv (.t 0)) <|
  eo 4 (.call 43 [(.t 3), (I 10)]) <|
  qo 2 (.mv (.t 4)) <|
  .nil)
  .ret))
theorem c33 : fnIs Tryd.prog qall 33 = some (j33.flat, [.tmp 2], 5) := by kernel_rfl
theorem w33 : j33.wf 5 = true := by kernel_rfl
def Gi1 (f : FuncId) (a : List SV) (m : List Res) : Sx.Call := (FH.rd 43 (.two .int .int) (.one .str) (fun y => 0 ≤ y.1 ∧ y.1 < 100 ∧ y.2.1 = 10) (fun y => Lib.decDigits y.1.toNat) FH.none) f a m
theorem Gi1_eq (f : FuncId) (a : List SV) (m : List Res) : Gi1 f a m = (FH.rd 43 (.two .int .int) (.one .str) (fun y => 0 ≤ y.1 ∧ y.1 < 100 ∧ y.2.1 = 10) (fun y => Lib.decDigits y.1.toNat) FH.none) f a m := nr rfl
theorem Gi1_ok : FHOK Tryd.prog Gi1 := FH.rd_ok (by kernel_rfl) (fun y h => by
  obtain ⟨i, b, u⟩ := y
  obtain ⟨h1, h2, h3⟩ := h
  simp only at h1 h2 h3
  subst h3
  have := f_FormatInt i.toNat (by omega)
  rwa [Int.toNat_of_nonneg h1] at this) FH.none_ok
theorem f_Itoa0 (i : Int) (h0 : 0 ≤ i) (h1 : i < 100) : FnOK Tryd.prog 33 [.int .i64 i] [] (.str (Lib.decDigits i.toNat)) [] := by
  refine fn_walkF c33 w33 Gi1_ok rfl ?_
  unfold j33
  simp only [go_sem, ↓reduceIte, Nat.reduceAdd, Nat.reduceMul, Nat.reduceSub, Nat.reduceLT, Nat.reduceLeDiff, Nat.reduceEqDiff, Int.reduceToNat, Int.reduceEq, Int.reduceLT, Int.reduceLE, reduceCtorEq, Gi1_eq, h0, h1]

def j21 : JC :=
  (.seq (.ops <|
  qo 2 (.mv (.c (.str []))) <|
  .nil)
  (.seq (.ops <|
  qo 3 (.mv (.t 0)) <|
  eo 4 (.call 33 [(.t 3)]) <|
  qo 2 (.mv (.t 4)) <|
  .nil)
  .ret))
theorem c21 : fnIs Tryd.prog qall 21 = some (j21.flat, [.tmp 2], 5) := by kernel_rfl
theorem w21 : j21.wf 5 = true := by kernel_rfl
def Gi2 (f : FuncId) (a : List SV) (m : List Res) : Sx.Call := (FH.rd 33 (.one .int) (.one .str) (fun y => 0 ≤ y.1 ∧ y.1 < 100) (fun y => Lib.decDigits y.1.toNat) FH.none) f a m
theorem Gi2_eq (f : FuncId) (a : List SV) (m : List Res) : Gi2 f a m = (FH.rd 33 (.one .int) (.one .str) (fun y => 0 ≤ y.1 ∧ y.1 < 100) (fun y => Lib.decDigits y.1.toNat) FH.none) f a m := nr rfl
theorem Gi2_ok : FHOK Tryd.prog Gi2 := FH.rd_ok (by kernel_rfl) (fun y h => f_Itoa0 y.1 h.1 h.2) FH.none_ok
theorem f_Itoa (i : Int) (h0 : 0 ≤ i) (h1 : i < 100) : FnOK Tryd.prog 21 [.int .i64 i] [] (.str (Lib.decDigits i.toNat)) [] := by
  refine fn_walkF c21 w21 Gi2_ok rfl ?_
  unfold j21
  simp only [go_sem, ↓reduceIte, Nat.reduceAdd, Nat.reduceMul, Nat.reduceSub, Nat.reduceLT, Nat.reduceLeDiff, Nat.reduceEqDiff, Int.reduceToNat, Int.reduceEq, Int.reduceLT, Int.reduceLE, reduceCtorEq, Gi2_eq, h0, h1]
theorem f_Join (xs : List By) (sep : By) (hl : (Lib.join xs sep).length ≤ 140737488355328) (hx : xs.length ≤ 1000000) : FnOK Tryd.prog 17 [(DT.list 1 DT.str).emb xs, .str sep] [] (.str (Lib.join xs sep)) [] := by
  refine fn_below fun ε w vs g hs => ?_
  obtain ⟨c1, t1, rfl, k1, c2, t2, rfl, k2, k3⟩ := hs
  simp only [SatC] at k2
  subst k2
  have k3 : t2 = [] := k3
  subst k3
  have k1 : SatC (.lst 1 [] DT.str.emb xs) ε c1 := k1
  simp only [SatC] at k1
  obtain ⟨ao, cap, rfl, q1, q2, q3, q4⟩ := k1
  have hmap : (xs.map fun x => (⟨x.toArray⟩ : ByteArray)).map (·.data.toList) = xs := by
    rw [List.map_map]
    conv => rhs; rw [← List.map_id xs]
    rfl
  have fin : ∀ {b o c : Nat}, Calls Tryd.prog 17 #[.slice (some ⟨b, o, none⟩) xs.length c, .string ⟨sep.toArray⟩] w (fun e w' => e = .returned (.string ⟨(Lib.join xs sep).toArray⟩) ∧ Go.RowKit.Below w.heap.size w w') → True := fun _ => trivial
  cases ao with
  | none =>
    have hz : xs = [] := List.length_eq_zero_iff.1 (by have := q3 rfl; omega)
    subst hz
    refine (Any.strings_Join_none (P := Tryd.prog) (ρ := Sh.laysJoin_ren) Sh.laysJoin extraJ none cap ⟨sep.toArray⟩ w).mono fun e w' ⟨he, hw⟩ => ?_
    subst hw
    refine ⟨⟨_, ?_, _, rfl, rfl⟩, Go.RowKit.Below.refl _ _⟩
    rw [he]
    rfl
  | some a =>
    cases xs with
    | nil =>
      refine (Any.strings_Join_none (P := Tryd.prog) (ρ := Sh.laysJoin_ren) Sh.laysJoin extraJ (some a) cap ⟨sep.toArray⟩ w).mono fun e w' ⟨he, hw⟩ => ?_
      subst hw
      refine ⟨⟨_, ?_, _, rfl, rfl⟩, Go.RowKit.Below.refl _ _⟩
      rw [he]
      rfl
    | cons x r =>
      obtain ⟨b, off, T, fz, cur, e0, hH, hsz, _⟩ := q4 0 (by simp)
      cases e0
      have hb := g.hv b _ hH
      have key := Any.strings_Join (P := Tryd.prog) (ρ := Sh.laysJoin_ren) Sh.laysJoin extraJ b off cap ((x :: r).map fun x => (⟨x.toArray⟩ : ByteArray)) ⟨sep.toArray⟩ w (fun j y hy => by
        have hj : j < (x :: r).length := by
          have := (List.getElem?_eq_some_iff.1 hy).1
          simpa using this
        obtain ⟨b', off', T', fz', cur', e1, hH', hsz', hc⟩ := q4 j hj
        cases e1
        rw [hH] at hH'
        cases hH'
        have e2 : (x :: r).getD j [] = (x :: r)[j] := by rw [List.getD, List.getElem?_eq_getElem hj]; rfl
        rw [e2] at hc
        have hc : sub cur.toList (off + j * 1) 1 = [.string ⟨((x :: r)[j]).toArray⟩] := hc
        have hy' : (⟨((x :: r)[j]).toArray⟩ : ByteArray) = y := by
          have := List.getElem?_eq_some_iff.1 hy
          obtain ⟨_, h⟩ := this
          rw [← h, List.getElem_map]
        rw [hy', Nat.mul_one] at hc
        have hcj : cur[off + j]? = some (.string y) := by
          have h2 := congrArg (fun l => l[0]?) hc
          simp only [sub_get, Nat.lt_one_iff, if_true, Nat.add_zero, List.getElem?_cons_zero] at h2
          simpa using h2
        simp [World.cell?, hb, hcj]) (by
          have := (Array.getElem?_eq_some_iff.1 hb).1
          exact this) (by simpa using (show (x :: r).length ≤ 140737488355328 by omega)) (by simpa using q1) (by rw [hmap]; exact hl)
      rw [hmap, List.length_map] at key
      exact key.mono fun e w' ⟨he, hw⟩ => ⟨⟨_, he, _, rfl, rfl⟩, hw⟩
end Go.Proofs.YtgcbhanfhnianaaDoor.Tx
