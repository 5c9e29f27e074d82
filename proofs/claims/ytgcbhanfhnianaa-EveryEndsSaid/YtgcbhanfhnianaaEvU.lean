/- All states that a program can come to, each once: the walk, and the visitor that looks for an end. Conditions: none. -/
import Derived.Test.YtgcbhanfhnianaaEvP
import Derived.Test.YtgcbhanfhnianaaProgQ
import Derived.Test.YtgcbhanfhnianaaSx45
section
set_option linter.unusedSimpArgs false
set_option linter.unusedVariables false
set_option maxRecDepth 100000
open Go Go.Sx Go.Proofs
namespace Go.Proofs.Ytgcbhanfhnianaa.Ev
open Go.Proofs.Ytgcbhanfhnianaa.D Go.Proofs.Ytgcbhanfhnianaa.Pg Go.Proofs.Ytgcbhanfhnianaa.Tr Go.Proofs.Ytgcbhanfhnianaa.Rn Go.Proofs.Ytgcbhanfhnianaa.Cp Go.Proofs.Ytgcbhanfhnianaa.Rc
abbrev esEn : ES := .st [.arr 8 1 (.int .i64), .arr 4 1 (.int .i64), .arr 6 1 (.int .i64), .bool, .bool]
abbrev esSt : ES := .st [.st [.arr 8 1 (.int .i64), .arr 4 1 (.int .i64), .arr 6 1 (.int .i64), .bool, .bool], .arr 6 1 (.int .i64), .arr 6 1 .bool, .arr 5 1 (.int .i64)]
def sameE (x y : En) : Bool := eqV esEn (dEn.emb x) (dEn.emb y)
def samS (x y : Sta) : Bool := eqV esSt (dSta.emb x) (dSta.emb y)
def setG (l : List Sta) : List (SV × SV) := l.map fun s => (dSta.emb s, .agg [])
theorem setG_find (s : Sta) : ∀ l : List Sta, mpFind esSt (dSta.emb s) (setG l) = if l.any (samS s) = true then some (.agg []) else none
  | [] => rfl
  | t :: l => by
    show (if eqV esSt (dSta.emb s) (dSta.emb t) = true then some (SV.agg []) else mpFind esSt (dSta.emb s) (setG l)) = _
    rw [setG_find s l, List.any_cons]
    show (if samS s t = true then _ else _) = _
    cases samS s t <;> simp
theorem setG_put (s : Sta) : ∀ l : List Sta, l.any (samS s) = false → mpPut esSt (dSta.emb s) (.agg []) (setG l) = setG (l ++ [s])
  | [], _ => rfl
  | t :: l, h => by
    rw [List.any_cons, Bool.or_eq_false_iff] at h
    show (if eqV esSt (dSta.emb s) (dSta.emb t) = true then _ else _) = _
    rw [if_neg (by rw [show eqV esSt (dSta.emb s) (dSta.emb t) = samS s t from rfl, h.1]; decide)]
    show _ :: mpPut esSt (dSta.emb s) (.agg []) (setG l) = _
    rw [setG_put s l h.2]
    rfl
/-! ### Calls of the visitor and of the walk, wherever what they are handed lies -/
theorem idx_nth : ∀ {is : List Nat} {k x : Nat}, is.Nodup → is[k]? = some x → is.idxOf x = k
  | [], k, x, _, h => by simp at h
  | a :: is, 0, x, hn, h => by
    have h : a = x := by simpa using h
    subst h; exact List.idxOf_cons_self
  | a :: is, k + 1, x, hn, h => by
    have h : is[k]? = some x := by simpa using h
    have hn := List.nodup_cons.1 hn
    have hx : x ∈ is := List.mem_of_getElem? h
    have hb : (a == x) = false := by simpa using fun e => hn.1 (by rw [e]; exact hx)
    rw [List.idxOf_cons, hb, idx_nth hn.2 h]; rfl
theorem sel_nth {is : List Nat} (hn : is.Nodup) {k x : Nat} (h : is[k]? = some x) : selI is x = some k := by
  unfold selI
  rw [if_pos (by simpa using List.mem_of_getElem? h), idx_nth hn h]
def decG (L : List (SV × SV)) : List Sta := L.map fun q => dSta.decV [] q.1
theorem decG_set (l : List Sta) : decG (setG l) = l := by
  unfold decG setG
  rw [List.map_map]
  conv => rhs; rw [← List.map_id l]
  exact List.map_congr_left fun y _ => dSta.vE _ _
structure PreF (p : List (List PO)) (n : Nat) (s : Sta) (pk : Option (List Int)) : Prop where
  fit : Fit p s.at'
  prog : progC badP p = 0
  fuel : manyL p < sumAt p s.at' + n
  pk : (pk.getD []).length + n ≤ 1000
theorem memAt_set_ne {m : List Res} {k i : Nat} {r : Res} (h : i ≠ k) : memAt (m.set k r) i = memAt m i := by
  unfold memAt
  simp only [List.getD_eq_getElem?_getD, List.getElem?_set]
  rw [if_neg (fun e => h e.symm)]
end Go.Proofs.Ytgcbhanfhnianaa.Ev
end
section
set_option linter.unusedSimpArgs false
set_option linter.unusedVariables false
set_option maxRecDepth 100000
open Go Go.Sx Go.Proofs
namespace Go.Proofs.Ytgcbhanfhnianaa.Ev
open Go.Proofs.Ytgcbhanfhnianaa.D Go.Proofs.Ytgcbhanfhnianaa.Pg Go.Proofs.Ytgcbhanfhnianaa.Tr Go.Proofs.Ytgcbhanfhnianaa.Rn Go.Proofs.Ytgcbhanfhnianaa.Cp Go.Proofs.Ytgcbhanfhnianaa.Rc
def j119_1 : JC :=
  (.seq (.ops <|
  qo 41 (.cmp .lss (.t 40) (.t 39)) <|
  .nil)
  (.seq (.cond (.t 41)
  .skip
  (.exit 0))
  (.seq (.block 1 (.seq (.ops <|
  qo 42 (.mv (.t 40)) <|
  qo 9 (.mv (.t 42)) <|
  .nil)
  (.seq (.seq (.ops <|
  qo 43 (.mv (.t 0)) <|
  qo 44 (.nck (.t 43)) <|
  .prune [44, 9, 4, 40, 39, 0, 2] <|
  qo 45 (.fa 0 0 (.t 44)) <|
  eo 46 (.load 1 false (.t 45)) <|
  qo 47 (.mv (.t 9)) <|
  eo 48 (.call 44 [(.t 4), (.t 46), (.t 47)]) <|
  qo 49 (.nt (.t 48)) <|
  .nil)
  (.cond (.t 49)
  (.exit 1)
  .skip))
  (.prune [4, 0, 9, 2, 40, 39] (.seq (.ops <|
  eo 50 (.load 37 true (.t 4)) <|
  eo 10 (.alloc 84 (.agg [(.agg [(.arr 8 1 fun _ => (.int .i64 0)), (.arr 4 1 fun _ => (.int .i64 0)), (.arr 6 1 fun _ => (.int .i64 0)), (.bool false), (.bool false)]), (.arr 6 1 fun _ => (.int .i64 0)), (.arr 6 1 fun _ => (.bool false)), (.arr 5 1 fun _ => (.int .i64 0))])) <|
  en (.store 37 (.t 10) (.t 50)) <|
  .nil)
  (.seq (.ops <|
  qo 51 (.mv (.t 0)) <|
  qo 52 (.nck (.t 51)) <|
  .prune [52, 9, 10, 0, 2, 40, 39, 4] <|
  qo 53 (.fa 0 0 (.t 52)) <|
  eo 54 (.load 1 false (.t 53)) <|
  qo 55 (.mv (.t 9)) <|
  eo 56 (.call 45 [(.t 10), (.t 54), (.t 55)]) <|
  .nil)
  (.prune [0, 10, 2, 9, 40, 39, 4] (.seq (.dops <|
  qo 57 (.mv (.t 0)) <|
  eo 58 (.load 37 true (.t 10)) <|
  qo 59 (.mv (.t 2)) <|
  eo 60 (.call 86 [(.t 59)]) <|
  en (.again 37 true (.t 10) 58) <|
  qo 61 (.mv (.t 9)) <|
  .prune [61, 60, 58, 10, 57, 40, 39, 0, 4, 2] <|
  eo 62 (.qbsl 3 1 1 (.int .i64 0) [(0, (.t 61))]) <|
  eo 63 (.app 3 1 8 (.t 60) (.t 62)) <|
  .prune [58, 10, 57, 63, 40, 39, 0, 4, 2] <|
  en (.again 37 true (.t 10) 58) <|
  eo 64 (.call 119 [(.t 57), (.t 58), (.t 63)]) <|
  qo 65 (.nt (.t 64)) <|
  .nil)
  (.prune [65, 40, 39, 0, 4, 2] (.cond (.t 65)
  (.seq (.ops <|
  qo 6 (.mv (B false)) <|
  .nil)
  .ret)
  .skip))))))))))
  (.prune [40, 39, 0, 4, 2] (.ops <|
  qo 66 (.ar .add (.t 40) (I 1)) <|
  qo 40 (.mv (.t 66)) <|
  .nil)))))
def j119_2 : JC :=
  (.prune [] (.seq (.ops <|
  qo 6 (.mv (B true)) <|
  .nil)
  .ret))
def j119 : JC :=
  (.seq (.ops <|
  eo 4 (.box 84 (.t 1)) <|
  qo 6 (.mv (B false)) <|
  .nil)
  (.seq (.seq (.dops <|
  qo 12 (.mv (.t 0)) <|
  qo 13 (.nck (.t 12)) <|
  qo 14 (.fa 1 1 (.t 13)) <|
  eo 15 (.load 1 false (.t 14)) <|
  eo 16 (.load 37 true (.t 4)) <|
  eo 17 (.mop (.get (.st [(.st [(.arr 8 1 (.int .i64)), (.arr 4 1 (.int .i64)), (.arr 6 1 (.int .i64)), .bool, .bool]), (.arr 6 1 (.int .i64)), (.arr 6 1 .bool), (.arr 5 1 (.int .i64))]) (.st []) (.agg []) true) [(.t 15), (.t 16)]) <|
  qo 11 (.mv (.t 17)) <|
  qo 18 (.ext 0 (.t 11)) <|
  qo 19 (.ext 1 (.t 11)) <|
  eo 7 (.alloc 106 (.agg [])) <|
  en (.again 1 false (.t 14) 15) <|
  .prune [16, 4, 17, 15, 7, 18, 19, 0, 2] <|
  en (.again 37 true (.t 4) 16) <|
  en (.magain (.get (.st [(.st [(.arr 8 1 (.int .i64)), (.arr 4 1 (.int .i64)), (.arr 6 1 (.int .i64)), .bool, .bool]), (.arr 6 1 (.int .i64)), (.arr 6 1 .bool), (.arr 5 1 (.int .i64))]) (.st []) (.agg []) true) [(.t 15), (.t 16)] 17) <|
  en (.store 0 (.t 7) (.t 18)) <|
  qo 8 (.mv (.t 19)) <|
  .nil)
  (.prune [8, 0, 4, 2] (.seq (.ops <|
  qo 20 (.mv (.t 8)) <|
  .nil)
  (.cond (.t 20)
  (.seq (.ops <|
  qo 6 (.mv (B true)) <|
  .nil)
  .ret)
  .skip))))
  (.prune [0, 4, 2] (.seq (.dops <|
  qo 21 (.mv (.t 0)) <|
  qo 22 (.nck (.t 21)) <|
  qo 23 (.fa 1 1 (.t 22)) <|
  eo 24 (.load 1 false (.t 23)) <|
  .prune [4, 24, 0, 2] <|
  eo 25 (.load 37 true (.t 4)) <|
  qo 26 (.bld (.agg []) []) <|
  en (.mop (.put (.st [(.st [(.arr 8 1 (.int .i64)), (.arr 4 1 (.int .i64)), (.arr 6 1 (.int .i64)), .bool, .bool]), (.arr 6 1 (.int .i64)), (.arr 6 1 .bool), (.arr 5 1 (.int .i64))]) (.st [])) [(.t 24), (.t 25), (.t 26)]) <|
  .nil)
  (.prune [0, 4, 2] (.seq (.seq (.dops <|
  qo 27 (.mv (.t 0)) <|
  qo 28 (.nck (.t 27)) <|
  qo 29 (.fa 2 2 (.t 28)) <|
  eo 30 (.load 1 false (.t 29)) <|
  .prune [4, 2, 30, 0] <|
  eo 31 (.load 37 true (.t 4)) <|
  qo 32 (.mv (.t 2)) <|
  eo 33 (.callv (.t 30) [(.t 31), (.t 32)]) <|
  qo 34 (.nt (.t 33)) <|
  .nil)
  (.prune [34, 0, 4, 2] (.cond (.t 34)
  (.seq (.ops <|
  qo 6 (.mv (B false)) <|
  .nil)
  .ret)
  .skip)))
  (.prune [0, 4, 2] (.seq (.seq (.ops <|
  qo 35 (.mv (.t 0)) <|
  qo 36 (.nck (.t 35)) <|
  qo 37 (.fa 0 0 (.t 36)) <|
  eo 38 (.load 1 false (.t 37)) <|
  qo 39 (.len (.t 38)) <|
  qo 40 (.mv (I 0)) <|
  .nil)
  (.block 0 (.loop [39, 0, 4, 2] [40] j119_1)))
  j119_2))))))))
theorem c119 : fnIs Try.prog (quiet2 (qbut [86, 119])) 119 = some (j119.flat, [.tmp 6], 67) := by kernel_rfl
theorem w119 : j119.wf 67 = true := by kernel_rfl
theorem f_CloneNil : FnOK Try.prog 86 [.nils] [] (.vec 0 0) [.vec 3 1 []] := by
  refine fn_walkF c86 w86 FH.none_ok rfl ?_
  unfold j86
  simp only [go_sem, ↓reduceIte, Nat.reduceAdd, Nat.reduceMul, Nat.reduceSub, Nat.reduceLT, Nat.reduceLeDiff, Nat.reduceEqDiff, Int.reduceToNat, Int.reduceEq, Int.reduceLT, Int.reduceLE, reduceCtorEq]
theorem PreF.next {p : List (List PO)} {n : Nat} {s : Sta} {pk : Option (List Int)} (h : PreF p (n + 1) s pk) {t : Nat} (hc : canF s p t = true) (ht : t < p.length) : PreF p n (pickS p s t) (some (pk.getD [] ++ [(t : Int)])) := by
  obtain ⟨l, i, hx⟩ := can_some hc
  have e : pickS p s t = stF s p t (l.getD i dOp.dft) := by rw [pickS, hx]; simp only [hc, if_true, Int.toNat_natCast]
  have h0 := h.fit.at0 t ht
  refine ⟨fit_pick h.fit t, h.prog, ?_, ?_⟩
  · have h1 := sum_upd s.at' t h0.1 p.length
    rw [if_pos ht] at h1
    have h2 : sumAt p (pickS p s t).at' = sumAt p s.at' + 1 := by
      rw [e]
      show sumAt p (Tr.upd s.at' t (s.at' t + 1)) = _
      rw [sumAt, h1]; rfl
    have := h.fuel
    rw [h2]; omega
  · have := h.pk
    simp only [Option.getD_some, List.length_append, List.length_singleton]
    omega
def j74 : JC :=
  (.seq (.ops <|
  qo 5 (.mv (.t 0)) <|
  eo 6 (.mop (.make (.st [(.st [(.arr 8 1 (.int .i64)), (.arr 4 1 (.int .i64)), (.arr 6 1 (.int .i64)), .bool, .bool]), (.arr 6 1 (.int .i64)), (.arr 6 1 .bool), (.arr 5 1 (.int .i64))]) (.st [])) []) <|
  qo 7 (.mv (.t 1)) <|
  qo 8 (.bld (.agg [.nils, .nilm, .nilf]) [([.fld 0], 0, 1, (.t 5)), ([.fld 1], 1, 1, (.t 6)), ([.fld 2], 2, 1, (.t 7))]) <|
  eo 9 (.box 198 (.t 8)) <|
  qo 4 (.mv (.t 9)) <|
  .nil)
  (.ops <|
  qo 10 (.mv (.t 4)) <|
  eo 11 (.call 43 []) <|
  eo 12 (.call 119 [(.t 10), (.t 11), (.c .nils)]) <|
  .nil))
theorem c74 : fnIs Try.prog qall 74 = some (j74.flat, [], 13) := by kernel_rfl
theorem w74 : j74.wf 13 = true := by kernel_rfl
theorem pre_first {p : List (List PO)} (hc : echF p = 0) : PreF p 12 firstS none := by
  obtain ⟨hp, h10⟩ := ech_ok hc
  have h0 := (root_ok hp).sum
  have h0 : sumAt p firstS.at' = 0 := h0
  exact ⟨(root_ok hp).fit, hp, by omega, by simp⟩
end Go.Proofs.Ytgcbhanfhnianaa.Ev
end
section
set_option linter.unusedSimpArgs false
set_option linter.unusedVariables false
set_option maxRecDepth 100000
open Go Go.Sx Go.Proofs
namespace Go.Proofs.Ytgcbhanfhnianaa.Ev
open Go.Proofs.Ytgcbhanfhnianaa.D Go.Proofs.Ytgcbhanfhnianaa.Pg Go.Proofs.Ytgcbhanfhnianaa.Tr Go.Proofs.Ytgcbhanfhnianaa.Rn Go.Proofs.Ytgcbhanfhnianaa.Cp Go.Proofs.Ytgcbhanfhnianaa.Rc

def Gvg (f : FuncId) (a : List SV) (m : List Res) : Sx.Call := (FH.rd 50 (.one dPg) (.one dEn) (fun y => Fit y.1.p y.1.at' ∧ progC badP y.1.p = 0) (fun y => endG y.1) FH.none) f a m
theorem Gvg_eq (f : FuncId) (a : List SV) (m : List Res) : Gvg f a m = (FH.rd 50 (.one dPg) (.one dEn) (fun y => Fit y.1.p y.1.at' ∧ progC badP y.1.p = 0) (fun y => endG y.1) FH.none) f a m := nr rfl
theorem Gvg_ok : FHOK Try.prog Gvg := FH.rd_ok (by kernel_rfl) (fun y h => f_EndedG y.1 h.1 h.2) FH.none_ok
end Go.Proofs.Ytgcbhanfhnianaa.Ev
end
section
set_option linter.unusedSimpArgs false
set_option linter.unusedVariables false
open Go Go.Sx Go.Proofs
namespace Go.Proofs.Ytgcbhanfhnianaa.Ev
open Go.Proofs.Ytgcbhanfhnianaa.D Go.Proofs.Ytgcbhanfhnianaa.Pg Go.Proofs.Ytgcbhanfhnianaa.Tr Go.Proofs.Ytgcbhanfhnianaa.Rn Go.Proofs.Ytgcbhanfhnianaa.Cp Go.Proofs.Ytgcbhanfhnianaa.Rc
structure Cn (s : Sta) : Prop where
  mem : ∀ i, 8 ≤ i → s.en.mem i = 0
  vols : ∀ i, 4 ≤ i → s.en.vols i = 0
  has : ∀ i, 6 ≤ i → s.en.has i = 0
  at' : ∀ i, 6 ≤ i → s.at' i = 0
  begun : ∀ i, 6 ≤ i → s.begun i = false
  owner : ∀ i, 5 ≤ i → s.owner i = 0
theorem ext_upto {α : Type} {f g : Nat → α} {n : Nat} {z : α} (h : ∀ i, i < n → f i = g i) (hf : ∀ i, n ≤ i → f i = z) (hg : ∀ i, n ≤ i → g i = z) : f = g := by
  funext i
  rcases Nat.lt_or_ge i n with hi | hi
  · exact h i hi
  · rw [hf i hi, hg i hi]
theorem samS_eq {s t : Sta} (h : samS s t = true) (hs : Cn s) (ht : Cn t) (h1 : s.en.done = t.en.done := by rfl) : s = t := by
  unfold samS at h
  rw [sta_emb, sta_emb] at h
  simp only [eqV, eqVL, Bool.and_eq_true, List.all_eq_true, List.mem_range, decide_eq_true_eq, beq_iff_eq] at h
  obtain ⟨⟨a1, a2, a3, a4, a5, _⟩, b1, b2, b3, _⟩ := h
  obtain ⟨⟨m, v, hh, d, st⟩, at1, bg, ow⟩ := s
  obtain ⟨⟨m', v', hh', d', st'⟩, at1', bg', ow'⟩ := t
  simp only at a1 a2 a3 a4 a5 b1 b2 b3
  obtain rfl := ext_upto a1 hs.mem ht.mem
  obtain rfl := ext_upto a2 hs.vols ht.vols
  obtain rfl := ext_upto a3 hs.has ht.has
  obtain rfl := ext_upto b1 hs.at' ht.at'
  obtain rfl := ext_upto b2 hs.begun ht.begun
  obtain rfl := ext_upto b3 hs.owner ht.owner
  subst a4; subst a5
  rfl
theorem Cn.first : Cn firstS := by
  refine ⟨fun _ _ => rfl, fun _ _ => rfl, fun _ _ => rfl, fun _ _ => rfl, fun i hi => ?_, fun _ _ => rfl⟩
  show Tr.upd (fun _ => false) 0 true i = false
  rw [Tr.upd, if_neg (by omega)]
theorem upd_out {α : Type} {f : Nat → α} {i k n : Nat} {x z : α} (hi : i < n) (hk : n ≤ k) (h : ∀ j, n ≤ j → f j = z) : Tr.upd f i x k = z := by
  rw [Tr.upd, if_neg (by omega), h k hk]
theorem Cn.step {p : List (List PO)} {s : Sta} (hp : progC badP p = 0) (hf : Fit p s.at') (h : Cn s) {t : Nat} {l : List PO} {i : Nat} (hx : nextF s p t = some (l, i)) : Cn (stF s p t (l.getD i dOp.dft)) := by
  obtain ⟨n, e, h1, h2, h3, h4, h5⟩ := next_some hf hx
  obtain rfl : t = n := by omega
  have ho := op_ok hp h1 (i := i) (by rw [← h3]; exact h5)
  rw [← h3] at ho
  have hn := hf.n
  generalize l.getD i dOp.dft = o at ho ⊢
  have ht : t < 6 := by omega
  have b1 : bnd 1 = 8 := by decide
  have b2 : bnd 2 = 8 := by decide
  have b4 : bnd 4 = 5 := by decide
  have b5 : bnd 5 = 5 := by decide
  have b6 : bnd 6 = 6 := by decide
  have b9 : bnd 9 = 4 := by decide
  refine ⟨fun i hi => ?_, fun i hi => ?_, fun i hi => ?_, fun i hi => upd_out ht hi h.at', fun i hi => ?_, fun i hi => ?_⟩
  · show (enF s.en t o).mem i = 0
    unfold enF
    split
    · exact h.mem i hi
    split
    · rename_i k; rw [k, b2] at ho; exact upd_out (by omega) hi h.mem
    split
    · exact h.mem i hi
    split
    · exact h.mem i hi
    split
    · exact h.mem i hi
    · exact h.mem i hi
  · show (enF s.en t o).vols i = 0
    unfold enF
    split
    · exact h.vols i hi
    split
    · exact h.vols i hi
    split
    · exact h.vols i hi
    split
    · exact h.vols i hi
    split
    · rename_i k; rw [k, b9] at ho; exact upd_out (by omega) hi h.vols
    · exact h.vols i hi
  · show (enF s.en t o).has i = 0
    unfold enF
    split
    · exact upd_out ht hi h.has
    split
    · exact h.has i hi
    split
    · exact upd_out ht hi h.has
    split
    · exact upd_out ht hi h.has
    split
    · exact h.has i hi
    · exact h.has i hi
  · show (if o.kind = 6 ∧ o.obj < p.length ∧ s.begun o.obj.toNat = false then Tr.upd s.begun o.obj.toNat true else s.begun) i = false
    split
    · rename_i k; rw [k.1, b6] at ho; exact upd_out (by omega) hi h.begun
    · exact h.begun i hi
  · show (if o.kind = 4 then Tr.upd s.owner o.obj.toNat (t + 1) else if o.kind = 5 ∧ s.owner o.obj.toNat = (t : Int) + 1 then Tr.upd s.owner o.obj.toNat 0 else s.owner) i = 0
    split
    · rename_i k; rw [k, b4] at ho; exact upd_out (by omega) hi h.owner
    · split
      · rename_i k; rw [k.1, b5] at ho; exact upd_out (by omega) hi h.owner
      · exact h.owner i hi
theorem Cn.pick {p : List (List PO)} {s : Sta} (hp : progC badP p = 0) (hf : Fit p s.at') (h : Cn s) {t : Nat} (hc : canF s p t = true) : Cn (pickS p s t) := by
  obtain ⟨l, i, hx⟩ := can_some hc
  have e : pickS p s t = stF s p t (l.getD i dOp.dft) := by rw [pickS, hx]; simp only [hc, if_true, Int.toNat_natCast]
  rw [e]
  exact h.step hp hf hx
theorem sum_pick {p : List (List PO)} {s : Sta} (hf : Fit p s.at') {t : Nat} (hc : canF s p t = true) (ht : t < p.length) : sumAt p (pickS p s t).at' = sumAt p s.at' + 1 := by
  obtain ⟨l, i, hx⟩ := can_some hc
  have e : pickS p s t = stF s p t (l.getD i dOp.dft) := by rw [pickS, hx]; simp only [hc, if_true, Int.toNat_natCast]
  have h1 := sum_upd s.at' t (hf.at0 t ht).1 p.length
  rw [if_pos ht] at h1
  rw [e]
  show sumAt p (Tr.upd s.at' t (s.at' t + 1)) = _
  rw [sumAt, h1]; rfl
abbrev stK (p : List (List PO)) (ks : Ks) : Sta := runS p ks ks.length
theorem stK_snoc (p : List (List PO)) (ks : Ks) (t : Int) : stK p (ks ++ [t]) = pickS p (stK p ks) t := (run_snoc p ks t).1
theorem end_eq {p : List (List PO)} {s : Sta} {g : Pg} (hp : progC badP p = 0) (hf : Fit p s.at') (h : Same p s g) : endG g = endF' s p := by
  unfold endF' endG
  rw [h.p, left_same h _ (Nat.le_refl _), can_all hp hf h, h.en, Bool.not_not]
  cases leftB g p.length <;> cases canA g p.length <;> rfl
end Go.Proofs.Ytgcbhanfhnianaa.Ev
end
