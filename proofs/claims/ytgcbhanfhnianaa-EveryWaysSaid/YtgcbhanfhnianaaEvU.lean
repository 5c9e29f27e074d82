/- All states that a program can come to, each once: the walk, and the visitor that looks for an end. Conditions: none. -/
import Derived.Test.YtgcbhanfhnianaaEvP
import Derived.Test.YtgcbhanfhnianaaProgQ
import Derived.Test.YtgcbhanfhnianaaSx45
section
set_option linter.unusedSimpArgs false
set_option linter.unusedVariables false
set_option maxRecDepth 100000
open Go Go.Sx Go.Proofs
namespace Go.Proofs.Ytgcbhanfhnianaa.Ev
open Go.Proofs.Ytgcbhanfhnianaa.D Go.Proofs.Ytgcbhanfhnianaa.Pg Go.Proofs.Ytgcbhanfhnianaa.Tr Go.Proofs.Ytgcbhanfhnianaa.Rn Go.Proofs.Ytgcbhanfhnianaa.Cp Go.Proofs.Ytgcbhanfhnianaa.Rc
abbrev esEn : ES := .st [.arr 8 1 (.int .i64), .arr 4 1 (.int .i64), .arr 6 1 (.int .i64), .bool, .bool]
abbrev esSt : ES := .st [.st [.arr 8 1 (.int .i64), .arr 4 1 (.int .i64), .arr 6 1 (.int .i64), .bool, .bool], .arr 6 1 (.int .i64), .arr 6 1 .bool, .arr 5 1 (.int .i64)]
def sameE (x y : En) : Bool := eqV esEn (dEn.emb x) (dEn.emb y)
def samS (x y : Sta) : Bool := eqV esSt (dSta.emb x) (dSta.emb y)
def setG (l : List Sta) : List (SV × SV) := l.map fun s => (dSta.emb s, .agg [])
theorem setG_find (s : Sta) : ∀ l : List Sta, mpFind esSt (dSta.emb s) (setG l) = if l.any (samS s) = true then some (.agg []) else none
  | [] => rfl
  | t :: l => by
    show (if eqV esSt (dSta.emb s) (dSta.emb t) = true then some (SV.agg []) else mpFind esSt (dSta.emb s) (setG l)) = _
    rw [setG_find s l, List.any_cons]
    show (if samS s t = true then _ else _) = _
    cases samS s t <;> simp
theorem setG_put (s : Sta) : ∀ l : List Sta, l.any (samS s) = false → mpPut esSt (dSta.emb s) (.agg []) (setG l) = setG (l ++ [s])
  | [], _ => rfl
  | t :: l, h => by
    rw [List.any_cons, Bool.or_eq_false_iff] at h
    show (if eqV esSt (dSta.emb s) (dSta.emb t) = true then _ else _) = _
    rw [if_neg (by rw [show eqV esSt (dSta.emb s) (dSta.emb t) = samS s t from rfl, h.1]; decide)]
    show _ :: mpPut esSt (dSta.emb s) (.agg []) (setG l) = _
    rw [setG_put s l h.2]
    rfl
def hitS (p : List (List PO)) (e : En) (s : Sta) : Bool := ((endF' s p).done || (endF' s p).stuck) && sameE (endF' s p) e
abbrev YS := Option (List Int) × Bool
def visF (p : List (List PO)) (e : En) (s : Sta) (pk : Option (List Int)) (st : YS) : YS := if hitS p e s = true then (pk, true) else st
abbrev FS := List Sta × YS
def fromF (p : List (List PO)) (e : En) : Nat → Sta → Option (List Int) → FS → Bool × FS
  | 0, _, _, st => (true, st)
  | n + 1, s, pk, st => if st.1.any (samS s) = true then (true, st) else
    if (visF p e s pk st.2).2 = true then (false, (st.1 ++ [s], visF p e s pk st.2)) else
    (List.range p.length).foldl (fun (r : Bool × FS) (t : Nat) => if r.1 = false then r else if canF s p t = true then fromF p e n (pickS p s t) (some (pk.getD [] ++ [(t : Int)])) r.2 else r) (true, (st.1 ++ [s], visF p e s pk st.2))
def wtF (p : List (List PO)) (e : En) (n : Nat) (s : Sta) (pk : Option (List Int)) (st : FS) (k : Nat) : Bool × FS :=
  (List.range k).foldl (fun (r : Bool × FS) (t : Nat) => if r.1 = false then r else if canF s p t = true then fromF p e n (pickS p s t) (some (pk.getD [] ++ [(t : Int)])) r.2 else r) (true, (st.1 ++ [s], visF p e s pk st.2))
theorem wtF_succ {p : List (List PO)} {e : En} {n : Nat} {s : Sta} {pk : Option (List Int)} {st : FS} (k : Nat) : wtF p e n s pk st (k + 1) = if (wtF p e n s pk st k).1 = false then wtF p e n s pk st k else if canF s p k = true then fromF p e n (pickS p s k) (some (pk.getD [] ++ [(k : Int)])) (wtF p e n s pk st k).2 else wtF p e n s pk st k := by
  rw [wtF, List.range_succ, List.foldl_append]; rfl
theorem wtF_stop {p : List (List PO)} {e : En} {n : Nat} {s : Sta} {pk : Option (List Int)} {st : FS} {k : Nat} (h : (wtF p e n s pk st k).1 = false) : ∀ d, wtF p e n s pk st (k + d) = wtF p e n s pk st k
  | 0 => rfl
  | d + 1 => by
    rw [← Nat.add_assoc, wtF_succ, wtF_stop h d, if_pos h]

def j84 : JC :=
  (.seq (.ops <|
  eo 6 (.box 84 (.t 0)) <|
  qo 8 (.mv (B false)) <|
  .nil)
  (.seq (.seq (.ops <|
  eo 10 (.load 1 false (.t 2)) <|
  eo 11 (.call 46 [(.t 6), (.t 10)]) <|
  eo 9 (.alloc 28 (.agg [(.arr 8 1 fun _ => (.int .i64 0)), (.arr 4 1 fun _ => (.int .i64 0)), (.arr 6 1 fun _ => (.int .i64 0)), (.bool false), (.bool false)])) <|
  en (.store 20 (.t 9) (.t 11)) <|
  .nil)
  (.seq (.ops <|
  qo 12 (.fa 3 18 (.t 9)) <|
  eo 13 (.load 1 false (.t 12)) <|
  qo 14 (.mv (.t 13)) <|
  .prune [14, 9, 3, 1, 4, 5] <|
  .sc true 17 14 (qo 15 (.fa 4 19 (.t 9)) <|
  eo 16 (.load 1 false (.t 15)) <|
  .nil) (.t 16) <|
  qo 18 (.mv (.t 17)) <|
  .sc false 22 18 (eo 19 (.load 20 true (.t 9)) <|
  eo 20 (.load 20 true (.t 3)) <|
  qo 21 (.aeq false (.st [(.arr 8 1 (.int .i64)), (.arr 4 1 (.int .i64)), (.arr 6 1 (.int .i64)), .bool, .bool]) (.t 19) (.t 20)) <|
  .nil) (.t 21) <|
  .nil)
  (.prune [22, 1, 4, 5] (.cond (.t 22)
  (.ops <|
  qo 23 (.mv (.t 1)) <|
  en (.store 1 (.t 4) (.t 23)) <|
  en (.store 1 (.t 5) (B true)) <|
  .nil)
  .skip))))
  (.prune [5] (.seq (.ops <|
  eo 24 (.load 1 false (.t 5)) <|
  qo 25 (.nt (.t 24)) <|
  qo 8 (.mv (.t 25)) <|
  .nil)
  .ret))))
theorem c84 : fnIs Try.prog qall 84 = some (j84.flat, [.tmp 8], 26) := by kernel_rfl
theorem w84 : j84.wf 26 = true := by kernel_rfl
def Gvi (f : FuncId) (a : List SV) (m : List Res) : Sx.Call := (FH.mt 46 84 dSta (.one dProg) (.one dEn) (fun s y => Fit y.1 s.at' ∧ progC badP y.1 = 0) (fun s y => endF' s y.1) (fun s _ => s) FH.none) f a m
theorem Gvi_eq (f : FuncId) (a : List SV) (m : List Res) : Gvi f a m = (FH.mt 46 84 dSta (.one dProg) (.one dEn) (fun s y => Fit y.1 s.at' ∧ progC badP y.1 = 0) (fun s y => endF' s y.1) (fun s _ => s) FH.none) f a m := nr rfl
theorem Gvi_ok : FHOK Try.prog Gvi := FH.mt_ok (by kernel_rfl) (fun s y h => f_Ended s y.1 h.1 h.2) FH.none_ok
/-- What the visitor holds. -/
def mV (p : List (List PO)) (e : En) (st : YS) : List Res := [.blk 22 (dProg.emb p), .blk 28 (dEn.emb e), .blk 23 (dBe.emb st.1), .blk 4 (.bool st.2)]
theorem f_Vis (p : List (List PO)) (e : En) (s : Sta) (pk : Option (List Int)) (st : YS) (h : Fit p s.at') (hp : progC badP p = 0) : FnOK Try.prog 84 [dSta.emb s, dBe.emb pk, .ptr 0 [] 0, .ptr 1 [] 0, .ptr 2 [] 0, .ptr 3 [] 0] (mV p e st)
    (.bool (!(visF p e s pk st).2)) (mV p e (visF p e s pk st)) := by
  unfold mV
  refine fn_walkF c84 w84 Gvi_ok rfl ?_
  unfold j84
  simp only [go_sem, ↓reduceIte, Nat.reduceAdd, Nat.reduceMul, Nat.reduceSub, Nat.reduceLT, Nat.reduceLeDiff, Nat.reduceEqDiff, Int.reduceToNat, Int.reduceEq, Int.reduceLT, Int.reduceLE, reduceCtorEq, Gvi_eq, List.range_zero, List.nil_append, List.map_nil, List.set_cons_succ, List.set_cons_zero, selM, selI_eq, selJ, List.map_cons, List.take_succ_cons, List.take_zero, memAt, List.getD_cons_zero, List.getD_cons_succ]
  refine ⟨⟨h, hp⟩, fun hh => ?_, fun hh => ?_⟩
  · have hs : hitS p e s = true := by
      unfold hitS sameE
      simp only [go_sem, ↓reduceIte, Nat.reduceAdd, Nat.reduceMul, Nat.reduceSub, Nat.reduceLT, Nat.reduceLeDiff, Nat.reduceEqDiff, Int.reduceToNat, Int.reduceEq, Int.reduceLT, Int.reduceLE, reduceCtorEq, List.range_zero, List.nil_append, List.map_nil, List.set_cons_succ, List.set_cons_zero, selM, selI_eq, selJ, List.map_cons, List.take_succ_cons, List.take_zero, memAt, List.getD_cons_zero, List.getD_cons_succ]
      exact hh
    rw [visF, if_pos hs]
    exact ⟨rfl, rfl⟩
  · have hs : hitS p e s = false := by
      unfold hitS sameE
      simp only [go_sem, ↓reduceIte, Nat.reduceAdd, Nat.reduceMul, Nat.reduceSub, Nat.reduceLT, Nat.reduceLeDiff, Nat.reduceEqDiff, Int.reduceToNat, Int.reduceEq, Int.reduceLT, Int.reduceLE, reduceCtorEq, List.range_zero, List.nil_append, List.map_nil, List.set_cons_succ, List.set_cons_zero, selM, selI_eq, selJ, List.map_cons, List.take_succ_cons, List.take_zero, memAt, List.getD_cons_zero, List.getD_cons_succ]
      exact hh
    rw [visF, if_neg (by rw [hs]; decide)]
    exact ⟨rfl, rfl⟩
/-! ### Calls of the visitor and of the walk, wherever what they are handed lies -/
def Hvi (p : List (List PO)) (e : En) (args : List SV) (m : List Res) : Sx.Call := match args with
  | [x, y, .ptr a pa oa, .ptr b pb ob, .ptr c pc oc, .ptr d pd od] => match memAt m a with
    | .blk Ta ca => match memAt m b with
      | .blk Tb cb => match memAt m c with
        | .blk Tc cc => match memAt m d with
          | .blk Td (.bool f) => .is (nd [a, b, c, d] ∧ (pa = [] ∧ oa = 0 ∧ Ta = 22 ∧ ca = dProg.emb p) ∧ (pb = [] ∧ ob = 0 ∧ Tb = 28 ∧ cb = dEn.emb e) ∧ (pc = [] ∧ oc = 0 ∧ Tc = 23 ∧ dBe.emb (dBe.decV [] cc) = cc) ∧ (pd = [] ∧ od = 0 ∧ Td = 4) ∧
              dSta.emb (dSta.decV [] x) = x ∧ dBe.emb (dBe.decV [] y) = y ∧ Fit p (dSta.decV [] x).at' ∧ progC badP p = 0) (.bool (!(visF p e (dSta.decV [] x) (dBe.decV [] y) (dBe.decV [] cc, f)).2))
              ((((m.set a (.blk 22 (dProg.emb p))).set b (.blk 28 (dEn.emb e))).set c (.blk 23 (dBe.emb (visF p e (dSta.decV [] x) (dBe.decV [] y) (dBe.decV [] cc, f)).1))).set d (.blk 4 (.bool (visF p e (dSta.decV [] x) (dBe.decV [] y) (dBe.decV [] cc, f)).2)))
          | _ => .no
        | _ => .no
      | _ => .no
    | _ => .no
  | _ => .no
theorem Hvi_at (p : List (List PO)) (e : En) (x y : SV) (a b c d : Nat) (pa pb pc pd : List Step) (oa ob oc od : Nat) (m : List Res) : Hvi p e [x, y, .ptr a pa oa, .ptr b pb ob, .ptr c pc oc, .ptr d pd od] m = (match memAt m a with
    | .blk Ta ca => match memAt m b with
      | .blk Tb cb => match memAt m c with
        | .blk Tc cc => match memAt m d with
          | .blk Td (.bool f) => .is (nd [a, b, c, d] ∧ (pa = [] ∧ oa = 0 ∧ Ta = 22 ∧ ca = dProg.emb p) ∧ (pb = [] ∧ ob = 0 ∧ Tb = 28 ∧ cb = dEn.emb e) ∧ (pc = [] ∧ oc = 0 ∧ Tc = 23 ∧ dBe.emb (dBe.decV [] cc) = cc) ∧ (pd = [] ∧ od = 0 ∧ Td = 4) ∧
              dSta.emb (dSta.decV [] x) = x ∧ dBe.emb (dBe.decV [] y) = y ∧ Fit p (dSta.decV [] x).at' ∧ progC badP p = 0) (.bool (!(visF p e (dSta.decV [] x) (dBe.decV [] y) (dBe.decV [] cc, f)).2))
              ((((m.set a (.blk 22 (dProg.emb p))).set b (.blk 28 (dEn.emb e))).set c (.blk 23 (dBe.emb (visF p e (dSta.decV [] x) (dBe.decV [] y) (dBe.decV [] cc, f)).1))).set d (.blk 4 (.bool (visF p e (dSta.decV [] x) (dBe.decV [] y) (dBe.decV [] cc, f)).2)))
          | _ => .no
        | _ => .no
      | _ => .no
    | _ => .no) := nr rfl
theorem idx_nth : ∀ {is : List Nat} {k x : Nat}, is.Nodup → is[k]? = some x → is.idxOf x = k
  | [], k, x, _, h => by simp at h
  | a :: is, 0, x, hn, h => by
    have h : a = x := by simpa using h
    subst h; exact List.idxOf_cons_self
  | a :: is, k + 1, x, hn, h => by
    have h : is[k]? = some x := by simpa using h
    have hn := List.nodup_cons.1 hn
    have hx : x ∈ is := List.mem_of_getElem? h
    have hb : (a == x) = false := by simpa using fun e => hn.1 (by rw [e]; exact hx)
    rw [List.idxOf_cons, hb, idx_nth hn.2 h]; rfl
theorem sel_nth {is : List Nat} (hn : is.Nodup) {k x : Nat} (h : is[k]? = some x) : selI is x = some k := by
  unfold selI
  rw [if_pos (by simpa using List.mem_of_getElem? h), idx_nth hn h]
theorem Hvi_ok (p : List (List PO)) (e : En) (args : List SV) (m : List Res) : (Hvi p e args m).OK Try.prog 84 args m := by
  unfold Hvi
  split
  · rename_i x y a pa oa b pb ob c pc oc d pd od
    split
    · rename_i Ta ca ha
      split
      · rename_i Tb cb hb
        split
        · rename_i Tc cc hc
          split
          · rename_i Td f hd
            rintro ⟨hnd, ⟨rfl, rfl, rfl, rfl⟩, ⟨rfl, rfl, rfl, rfl⟩, ⟨rfl, rfl, rfl, h3⟩, ⟨rfl, rfl, rfl⟩, h5, h6, h7, h8⟩
            refine ⟨by kernel_rfl, ?_⟩
            generalize hs : dSta.decV [] x = s at h5 h7 ⊢
            generalize hy : dBe.decV [] y = pk at h6 ⊢
            generalize hw : dBe.decV [] cc = w at h3 ⊢
            subst h5; subst h6; subst h3
            have hn := nd_ok hnd
            have s0 : selI [a, b, c, d] a = some 0 := sel_nth hn rfl
            have s1 : selI [a, b, c, d] b = some 1 := sel_nth hn rfl
            have s2 : selI [a, b, c, d] c = some 2 := sel_nth hn rfl
            have s3 : selI [a, b, c, d] d = some 3 := sel_nth hn rfl
            have key := call_of_fn (args := [dSta.emb s, dBe.emb pk, .ptr a [] 0, .ptr b [] 0, .ptr c [] 0, .ptr d [] 0]) (m := m) (f_Vis p e s pk (w, f) h7 h8) [a, b, c, d] hn (by simp [ha, hb, hc, hd, Res.isBlk])
              (by simp only [renL, dSta.ren, dBe.ren, Sx.ren, renI, s0, s1, s2, s3])
              (by simp only [selM, List.map_cons, List.map_nil, ha, hb, hc, hd, renR, dProg.ren, dEn.ren, dBe.ren, Sx.ren, mV]) (by simp [mV]) (by
                intro k hk
                simp only [List.length_cons, List.length_nil] at hk
                match k, hk with
                | 0, _ => rfl
                | 1, _ => rfl
                | 2, _ => rfl
                | 3, _ => rfl)
            have hmm : ∀ st : YS, mergeM [a, b, c, d] m (mV p e st) = (((m.set a (.blk 22 (dProg.emb p))).set b (.blk 28 (dEn.emb e))).set c (.blk 23 (dBe.emb st.1))).set d (.blk 4 (.bool st.2)) := by
              intro st
              simp [mergeM, memAt, renR, dProg.ren, dEn.ren, dBe.ren, mV, Sx.ren]
            rw [hmm] at key
            exact key
          · trivial
        · trivial
      · trivial
    · trivial
  · trivial
def decG (L : List (SV × SV)) : List Sta := L.map fun q => dSta.decV [] q.1
theorem decG_set (l : List Sta) : decG (setG l) = l := by
  unfold decG setG
  rw [List.map_map]
  conv => rhs; rw [← List.map_id l]
  exact List.map_congr_left fun y _ => dSta.vE _ _
def cW (p : List (List PO)) (i1 a b c d : Nat) : SV := .agg [dProg.emb p, .map i1, .fn 84 [.ptr a [] 0, .ptr b [] 0, .ptr c [] 0, .ptr d [] 0]]
def mF (p : List (List PO)) (e : En) (st : FS) : List Res := .blk 198 (cW p 1 2 3 4 5) :: .mp esSt (.st []) (setG st.1) :: mV p e st.2
structure PreF (p : List (List PO)) (n : Nat) (s : Sta) (pk : Option (List Int)) : Prop where
  fit : Fit p s.at'
  prog : progC badP p = 0
  fuel : manyL p < sumAt p s.at' + n
  pk : (pk.getD []).length + n ≤ 1000
/-- Memory behind the walk. -/
def setF (p : List (List PO)) (e : En) (i i1 a b c d : Nat) (m : List Res) (st : FS) : List Res :=
  (((((m.set i (.blk 198 (cW p i1 a b c d))).set i1 (.mp esSt (.st []) (setG st.1))).set a (.blk 22 (dProg.emb p))).set b (.blk 28 (dEn.emb e))).set c (.blk 23 (dBe.emb st.2.1))).set d (.blk 4 (.bool st.2.2))
def Hfr (p : List (List PO)) (e : En) (n : Nat) (args : List SV) (m : List Res) : Sx.Call := match args with
  | [.ptr i pi oi, x, y] => match memAt m i with
    | .blk T0 (.agg [a0, .map i1, .fn g [.ptr a pa oa, .ptr b pb ob, .ptr c pc oc, .ptr d pd od]]) => match memAt m i1 with
      | .mp ek ev L => match memAt m a with
        | .blk Ta ca => match memAt m b with
          | .blk Tb cb => match memAt m c with
            | .blk Tc cc => match memAt m d with
              | .blk Td (.bool f) => match y with
                | .vec k len => match memAt m k with
                  | .vec Tk w li => .is ((nd [i, i1, a, b, c, d] ∧ (T0 = 198 ∧ pi = [] ∧ oi = 0 ∧ g = 84 ∧ a0 = dProg.emb p) ∧ (ek = esSt ∧ ev = .st [] ∧ setG (decG L) = L) ∧ (pa = [] ∧ oa = 0 ∧ Ta = 22 ∧ ca = dProg.emb p) ∧ (pb = [] ∧ ob = 0 ∧ Tb = 28 ∧ cb = dEn.emb e) ∧
                      (pc = [] ∧ oc = 0 ∧ Tc = 23 ∧ dBe.emb (dBe.decV [] cc) = cc) ∧ (pd = [] ∧ od = 0 ∧ Td = 4) ∧ dSta.emb (dSta.decV [] x) = x) ∧ (w = 1 ∧ (li.map (DT.int.decV [])).map DT.int.emb = li ∧ len = li.length) ∧
                      PreF p n (dSta.decV [] x) (some (li.map (DT.int.decV [])))) (.bool (fromF p e n (dSta.decV [] x) (some (li.map (DT.int.decV []))) (decG L, dBe.decV [] cc, f)).1)
                      (setF p e i i1 a b c d (m.set k .dead) (fromF p e n (dSta.decV [] x) (some (li.map (DT.int.decV []))) (decG L, dBe.decV [] cc, f)).2)
                  | _ => .no
                | y => .is ((nd [i, i1, a, b, c, d] ∧ (T0 = 198 ∧ pi = [] ∧ oi = 0 ∧ g = 84 ∧ a0 = dProg.emb p) ∧ (ek = esSt ∧ ev = .st [] ∧ setG (decG L) = L) ∧ (pa = [] ∧ oa = 0 ∧ Ta = 22 ∧ ca = dProg.emb p) ∧ (pb = [] ∧ ob = 0 ∧ Tb = 28 ∧ cb = dEn.emb e) ∧
                      (pc = [] ∧ oc = 0 ∧ Tc = 23 ∧ dBe.emb (dBe.decV [] cc) = cc) ∧ (pd = [] ∧ od = 0 ∧ Td = 4) ∧ dSta.emb (dSta.decV [] x) = x) ∧ dBe.emb (dBe.decV [] y) = y ∧
                      PreF p n (dSta.decV [] x) (dBe.decV [] y)) (.bool (fromF p e n (dSta.decV [] x) (dBe.decV [] y) (decG L, dBe.decV [] cc, f)).1)
                      (setF p e i i1 a b c d m (fromF p e n (dSta.decV [] x) (dBe.decV [] y) (decG L, dBe.decV [] cc, f)).2)
              | _ => .no
            | _ => .no
          | _ => .no
        | _ => .no
      | _ => .no
    | _ => .no
  | _ => .no
theorem Hfr_at (p : List (List PO)) (e : En) (n i : Nat) (pi : List Step) (oi : Nat) (x y : SV) (m : List Res) : Hfr p e n [.ptr i pi oi, x, y] m = (match memAt m i with
    | .blk T0 (.agg [a0, .map i1, .fn g [.ptr a pa oa, .ptr b pb ob, .ptr c pc oc, .ptr d pd od]]) => match memAt m i1 with
      | .mp ek ev L => match memAt m a with
        | .blk Ta ca => match memAt m b with
          | .blk Tb cb => match memAt m c with
            | .blk Tc cc => match memAt m d with
              | .blk Td (.bool f) => match y with
                | .vec k len => match memAt m k with
                  | .vec Tk w li => .is ((nd [i, i1, a, b, c, d] ∧ (T0 = 198 ∧ pi = [] ∧ oi = 0 ∧ g = 84 ∧ a0 = dProg.emb p) ∧ (ek = esSt ∧ ev = .st [] ∧ setG (decG L) = L) ∧ (pa = [] ∧ oa = 0 ∧ Ta = 22 ∧ ca = dProg.emb p) ∧ (pb = [] ∧ ob = 0 ∧ Tb = 28 ∧ cb = dEn.emb e) ∧
                      (pc = [] ∧ oc = 0 ∧ Tc = 23 ∧ dBe.emb (dBe.decV [] cc) = cc) ∧ (pd = [] ∧ od = 0 ∧ Td = 4) ∧ dSta.emb (dSta.decV [] x) = x) ∧ (w = 1 ∧ (li.map (DT.int.decV [])).map DT.int.emb = li ∧ len = li.length) ∧
                      PreF p n (dSta.decV [] x) (some (li.map (DT.int.decV [])))) (.bool (fromF p e n (dSta.decV [] x) (some (li.map (DT.int.decV []))) (decG L, dBe.decV [] cc, f)).1)
                      (setF p e i i1 a b c d (m.set k .dead) (fromF p e n (dSta.decV [] x) (some (li.map (DT.int.decV []))) (decG L, dBe.decV [] cc, f)).2)
                  | _ => .no
                | y => .is ((nd [i, i1, a, b, c, d] ∧ (T0 = 198 ∧ pi = [] ∧ oi = 0 ∧ g = 84 ∧ a0 = dProg.emb p) ∧ (ek = esSt ∧ ev = .st [] ∧ setG (decG L) = L) ∧ (pa = [] ∧ oa = 0 ∧ Ta = 22 ∧ ca = dProg.emb p) ∧ (pb = [] ∧ ob = 0 ∧ Tb = 28 ∧ cb = dEn.emb e) ∧
                      (pc = [] ∧ oc = 0 ∧ Tc = 23 ∧ dBe.emb (dBe.decV [] cc) = cc) ∧ (pd = [] ∧ od = 0 ∧ Td = 4) ∧ dSta.emb (dSta.decV [] x) = x) ∧ dBe.emb (dBe.decV [] y) = y ∧
                      PreF p n (dSta.decV [] x) (dBe.decV [] y)) (.bool (fromF p e n (dSta.decV [] x) (dBe.decV [] y) (decG L, dBe.decV [] cc, f)).1)
                      (setF p e i i1 a b c d m (fromF p e n (dSta.decV [] x) (dBe.decV [] y) (decG L, dBe.decV [] cc, f)).2)
              | _ => .no
            | _ => .no
          | _ => .no
        | _ => .no
      | _ => .no
    | _ => .no) := nr rfl
theorem from_call {p : List (List PO)} {e : En} {n : Nat} (h : ∀ s pk st, PreF p n s pk → FnOK Try.prog 119 [.ptr 0 [] 0, dSta.emb s, dBe.emb pk] (mF p e st) (.bool (fromF p e n s pk st).1) (mF p e (fromF p e n s pk st).2))
    {m : List Res} {i i1 a b c d : Nat} (hnd : nd [i, i1, a, b, c, d]) {st : FS} (h0 : memAt m i = .blk 198 (cW p i1 a b c d)) (h1 : memAt m i1 = .mp esSt (.st []) (setG st.1)) (h2 : memAt m a = .blk 22 (dProg.emb p)) (h3 : memAt m b = .blk 28 (dEn.emb e))
    (h4 : memAt m c = .blk 23 (dBe.emb st.2.1)) (h5 : memAt m d = .blk 4 (.bool st.2.2)) (s : Sta) (pk : Option (List Int)) (hp : PreF p n s pk) : CallStep Try.prog 119 [.ptr i [] 0, dSta.emb s, dBe.emb pk] m (.bool (fromF p e n s pk st).1) (setF p e i i1 a b c d m (fromF p e n s pk st).2) := by
  have hn := nd_ok hnd
  have s0 : selI [i, i1, a, b, c, d] i = some 0 := sel_nth hn rfl
  have s1 : selI [i, i1, a, b, c, d] i1 = some 1 := sel_nth hn rfl
  have s2 : selI [i, i1, a, b, c, d] a = some 2 := sel_nth hn rfl
  have s3 : selI [i, i1, a, b, c, d] b = some 3 := sel_nth hn rfl
  have s4 : selI [i, i1, a, b, c, d] c = some 4 := sel_nth hn rfl
  have s5 : selI [i, i1, a, b, c, d] d = some 5 := sel_nth hn rfl
  have key := call_of_fn (args := [.ptr i [] 0, dSta.emb s, dBe.emb pk]) (m := m) (h s pk st hp) [i, i1, a, b, c, d] hn (by simp [h0, h1, h2, h3, h4, h5, Res.isBlk])
    (by simp only [renL, dSta.ren, dBe.ren, Sx.ren, renI, s0])
    (by simp only [selM, List.map_cons, List.map_nil, h0, h1, h2, h3, h4, h5, renR, dProg.ren, dEn.ren, dBe.ren, Sx.ren, renL, renI, mF, mV, cW, s1, s2, s3, s4, s5]) (by simp [mF, mV]) (by
      intro k hk
      simp only [List.length_cons, List.length_nil] at hk
      match k, hk with
      | 0, _ => rfl
      | 1, _ => rfl
      | 2, _ => rfl
      | 3, _ => rfl
      | 4, _ => rfl
      | 5, _ => rfl)
  have hmm : ∀ st : FS, mergeM [i, i1, a, b, c, d] m (mF p e st) = setF p e i i1 a b c d m st := by
    intro st
    simp [mergeM, memAt, renR, dProg.ren, dEn.ren, dBe.ren, mV, mF, cW, setF, Sx.ren, renL, renI, backI]
  rw [hmm] at key
  exact key
theorem memAt_set_ne {m : List Res} {k i : Nat} {r : Res} (h : i ≠ k) : memAt (m.set k r) i = memAt m i := by
  unfold memAt
  simp only [List.getD_eq_getElem?_getD, List.getElem?_set]
  rw [if_neg (fun e => h e.symm)]
theorem Hfr_ok {p : List (List PO)} {e : En} {n : Nat} (h : ∀ s pk st, PreF p n s pk → FnOK Try.prog 119 [.ptr 0 [] 0, dSta.emb s, dBe.emb pk] (mF p e st) (.bool (fromF p e n s pk st).1) (mF p e (fromF p e n s pk st).2))
    (args : List SV) (m : List Res) : (Hfr p e n args m).OK Try.prog 119 args m := by
  unfold Hfr
  split
  · rename_i i pi oi x y
    split
    · rename_i T0 a0 i1 g a pa oa b pb ob c pc oc d pd od hi
      split
      · rename_i ek ev L hi1
        split
        · rename_i Ta ca ha
          split
          · rename_i Tb cb hb
            split
            · rename_i Tc cc hc
              split
              · rename_i Td f hd
                split
                · rename_i k len
                  split
                  · rename_i Tk w li hk
                    rintro ⟨⟨hnd, ⟨rfl, rfl, rfl, rfl, rfl⟩, ⟨rfl, rfl, hL⟩, ⟨rfl, rfl, rfl, rfl⟩, ⟨rfl, rfl, rfl, rfl⟩, ⟨rfl, rfl, rfl, h3⟩, ⟨rfl, rfl, rfl⟩, h5⟩, ⟨rfl, hli, rfl⟩, hP⟩
                    refine ⟨by kernel_rfl, ?_⟩
                    generalize hs : dSta.decV [] x = s at h5 hP ⊢
                    generalize hw : dBe.decV [] cc = w at h3 ⊢
                    generalize hq : li.map (DT.int.decV []) = ql at hli hP ⊢
                    generalize hG : decG L = Gl at hL ⊢
                    subst h5; subst h3; subst hL; subst hli
                    have ne : ∀ j, j ∈ [i, i1, a, b, c, d] → j ≠ k := by
                      intro j hj e
                      subst e
                      simp only [List.mem_cons, List.not_mem_nil, or_false] at hj
                      rcases hj with e | e | e | e | e | e <;> subst e <;> simp_all
                    have key := from_call h (m := m.set k .dead) hnd (st := (Gl, w, f)) (by rw [memAt_set_ne (ne i (by simp)), hi]; rfl) (by rw [memAt_set_ne (ne i1 (by simp)), hi1]) (by rw [memAt_set_ne (ne a (by simp)), ha]) (by rw [memAt_set_ne (ne b (by simp)), hb]) (by rw [memAt_set_ne (ne c (by simp)), hc]) (by rw [memAt_set_ne (ne d (by simp)), hd]) s (some ql) hP
                    refine call_hold [k] key fun ε w vs gd hs => ?_
                    obtain ⟨c1, t1, rfl, k1, c2, t2, rfl, k2, c3, t3, rfl, k3, k4⟩ := hs
                    refine ⟨c1, _, rfl, k1.mono _ (frzK_le gd [k]), c2, _, rfl, k2.mono _ (frzK_le gd [k]), c3, _, rfl, ?_, k4⟩
                    exact hold_vec DT.int gd hk (by simp) k3
                  · trivial
                · rintro ⟨⟨hnd, ⟨rfl, rfl, rfl, rfl, rfl⟩, ⟨rfl, rfl, hL⟩, ⟨rfl, rfl, rfl, rfl⟩, ⟨rfl, rfl, rfl, rfl⟩, ⟨rfl, rfl, rfl, h3⟩, ⟨rfl, rfl, rfl⟩, h5⟩, hy, hP⟩
                  refine ⟨by kernel_rfl, ?_⟩
                  generalize hs : dSta.decV [] x = s at h5 hP ⊢
                  generalize hw : dBe.decV [] cc = w at h3 ⊢
                  generalize hq : dBe.decV [] y = ql at hy hP ⊢
                  generalize hG : decG L = Gl at hL ⊢
                  subst h5; subst h3; subst hL
                  rw [← hy]
                  exact from_call h hnd (st := (Gl, w, f)) hi hi1 ha hb hc hd s ql hP
              · trivial
            · trivial
          · trivial
        · trivial
      · trivial
    · trivial
  · trivial
end Go.Proofs.Ytgcbhanfhnianaa.Ev
end
section
set_option linter.unusedSimpArgs false
set_option linter.unusedVariables false
set_option maxRecDepth 100000
open Go Go.Sx Go.Proofs
namespace Go.Proofs.Ytgcbhanfhnianaa.Ev
open Go.Proofs.Ytgcbhanfhnianaa.D Go.Proofs.Ytgcbhanfhnianaa.Pg Go.Proofs.Ytgcbhanfhnianaa.Tr Go.Proofs.Ytgcbhanfhnianaa.Rn Go.Proofs.Ytgcbhanfhnianaa.Cp Go.Proofs.Ytgcbhanfhnianaa.Rc
def j119_1 : JC :=
  (.seq (.ops <|
  qo 41 (.cmp .lss (.t 40) (.t 39)) <|
  .nil)
  (.seq (.cond (.t 41)
  .skip
  (.exit 0))
  (.seq (.block 1 (.seq (.ops <|
  qo 42 (.mv (.t 40)) <|
  qo 9 (.mv (.t 42)) <|
  .nil)
  (.seq (.seq (.ops <|
  qo 43 (.mv (.t 0)) <|
  qo 44 (.nck (.t 43)) <|
  .prune [44, 9, 4, 40, 39, 0, 2] <|
  qo 45 (.fa 0 0 (.t 44)) <|
  eo 46 (.load 1 false (.t 45)) <|
  qo 47 (.mv (.t 9)) <|
  eo 48 (.call 44 [(.t 4), (.t 46), (.t 47)]) <|
  qo 49 (.nt (.t 48)) <|
  .nil)
  (.cond (.t 49)
  (.exit 1)
  .skip))
  (.prune [4, 0, 9, 2, 40, 39] (.seq (.ops <|
  eo 50 (.load 37 true (.t 4)) <|
  eo 10 (.alloc 84 (.agg [(.agg [(.arr 8 1 fun _ => (.int .i64 0)), (.arr 4 1 fun _ => (.int .i64 0)), (.arr 6 1 fun _ => (.int .i64 0)), (.bool false), (.bool false)]), (.arr 6 1 fun _ => (.int .i64 0)), (.arr 6 1 fun _ => (.bool false)), (.arr 5 1 fun _ => (.int .i64 0))])) <|
  en (.store 37 (.t 10) (.t 50)) <|
  .nil)
  (.seq (.ops <|
  qo 51 (.mv (.t 0)) <|
  qo 52 (.nck (.t 51)) <|
  .prune [52, 9, 10, 0, 2, 40, 39, 4] <|
  qo 53 (.fa 0 0 (.t 52)) <|
  eo 54 (.load 1 false (.t 53)) <|
  qo 55 (.mv (.t 9)) <|
  eo 56 (.call 45 [(.t 10), (.t 54), (.t 55)]) <|
  .nil)
  (.prune [0, 10, 2, 9, 40, 39, 4] (.seq (.dops <|
  qo 57 (.mv (.t 0)) <|
  eo 58 (.load 37 true (.t 10)) <|
  qo 59 (.mv (.t 2)) <|
  eo 60 (.call 86 [(.t 59)]) <|
  en (.again 37 true (.t 10) 58) <|
  qo 61 (.mv (.t 9)) <|
  .prune [61, 60, 58, 10, 57, 40, 39, 0, 4, 2] <|
  eo 62 (.qbsl 3 1 1 (.int .i64 0) [(0, (.t 61))]) <|
  eo 63 (.app 3 1 8 (.t 60) (.t 62)) <|
  .prune [58, 10, 57, 63, 40, 39, 0, 4, 2] <|
  en (.again 37 true (.t 10) 58) <|
  eo 64 (.call 119 [(.t 57), (.t 58), (.t 63)]) <|
  qo 65 (.nt (.t 64)) <|
  .nil)
  (.prune [65, 40, 39, 0, 4, 2] (.cond (.t 65)
  (.seq (.ops <|
  qo 6 (.mv (B false)) <|
  .nil)
  .ret)
  .skip))))))))))
  (.prune [40, 39, 0, 4, 2] (.ops <|
  qo 66 (.ar .add (.t 40) (I 1)) <|
  qo 40 (.mv (.t 66)) <|
  .nil)))))
def j119_2 : JC :=
  (.prune [] (.seq (.ops <|
  qo 6 (.mv (B true)) <|
  .nil)
  .ret))
def j119 : JC :=
  (.seq (.ops <|
  eo 4 (.box 84 (.t 1)) <|
  qo 6 (.mv (B false)) <|
  .nil)
  (.seq (.seq (.dops <|
  qo 12 (.mv (.t 0)) <|
  qo 13 (.nck (.t 12)) <|
  qo 14 (.fa 1 1 (.t 13)) <|
  eo 15 (.load 1 false (.t 14)) <|
  eo 16 (.load 37 true (.t 4)) <|
  eo 17 (.mop (.get (.st [(.st [(.arr 8 1 (.int .i64)), (.arr 4 1 (.int .i64)), (.arr 6 1 (.int .i64)), .bool, .bool]), (.arr 6 1 (.int .i64)), (.arr 6 1 .bool), (.arr 5 1 (.int .i64))]) (.st []) (.agg []) true) [(.t 15), (.t 16)]) <|
  qo 11 (.mv (.t 17)) <|
  qo 18 (.ext 0 (.t 11)) <|
  qo 19 (.ext 1 (.t 11)) <|
  eo 7 (.alloc 106 (.agg [])) <|
  en (.again 1 false (.t 14) 15) <|
  .prune [16, 4, 17, 15, 7, 18, 19, 0, 2] <|
  en (.again 37 true (.t 4) 16) <|
  en (.magain (.get (.st [(.st [(.arr 8 1 (.int .i64)), (.arr 4 1 (.int .i64)), (.arr 6 1 (.int .i64)), .bool, .bool]), (.arr 6 1 (.int .i64)), (.arr 6 1 .bool), (.arr 5 1 (.int .i64))]) (.st []) (.agg []) true) [(.t 15), (.t 16)] 17) <|
  en (.store 0 (.t 7) (.t 18)) <|
  qo 8 (.mv (.t 19)) <|
  .nil)
  (.prune [8, 0, 4, 2] (.seq (.ops <|
  qo 20 (.mv (.t 8)) <|
  .nil)
  (.cond (.t 20)
  (.seq (.ops <|
  qo 6 (.mv (B true)) <|
  .nil)
  .ret)
  .skip))))
  (.prune [0, 4, 2] (.seq (.dops <|
  qo 21 (.mv (.t 0)) <|
  qo 22 (.nck (.t 21)) <|
  qo 23 (.fa 1 1 (.t 22)) <|
  eo 24 (.load 1 false (.t 23)) <|
  .prune [4, 24, 0, 2] <|
  eo 25 (.load 37 true (.t 4)) <|
  qo 26 (.bld (.agg []) []) <|
  en (.mop (.put (.st [(.st [(.arr 8 1 (.int .i64)), (.arr 4 1 (.int .i64)), (.arr 6 1 (.int .i64)), .bool, .bool]), (.arr 6 1 (.int .i64)), (.arr 6 1 .bool), (.arr 5 1 (.int .i64))]) (.st [])) [(.t 24), (.t 25), (.t 26)]) <|
  .nil)
  (.prune [0, 4, 2] (.seq (.seq (.dops <|
  qo 27 (.mv (.t 0)) <|
  qo 28 (.nck (.t 27)) <|
  qo 29 (.fa 2 2 (.t 28)) <|
  eo 30 (.load 1 false (.t 29)) <|
  .prune [4, 2, 30, 0] <|
  eo 31 (.load 37 true (.t 4)) <|
  qo 32 (.mv (.t 2)) <|
  eo 33 (.callv (.t 30) [(.t 31), (.t 32)]) <|
  qo 34 (.nt (.t 33)) <|
  .nil)
  (.prune [34, 0, 4, 2] (.cond (.t 34)
  (.seq (.ops <|
  qo 6 (.mv (B false)) <|
  .nil)
  .ret)
  .skip)))
  (.prune [0, 4, 2] (.seq (.seq (.ops <|
  qo 35 (.mv (.t 0)) <|
  qo 36 (.nck (.t 35)) <|
  qo 37 (.fa 0 0 (.t 36)) <|
  eo 38 (.load 1 false (.t 37)) <|
  qo 39 (.len (.t 38)) <|
  qo 40 (.mv (I 0)) <|
  .nil)
  (.block 0 (.loop [39, 0, 4, 2] [40] j119_1)))
  j119_2))))))))
theorem c119 : fnIs Try.prog (quiet2 (qbut [86, 119])) 119 = some (j119.flat, [.tmp 6], 67) := by kernel_rfl
theorem w119 : j119.wf 67 = true := by kernel_rfl
theorem f_CloneNil : FnOK Try.prog 86 [.nils] [] (.vec 0 0) [.vec 3 1 []] := by
  refine fn_walkF c86 w86 FH.none_ok rfl ?_
  unfold j86
  simp only [go_sem, ↓reduceIte, Nat.reduceAdd, Nat.reduceMul, Nat.reduceSub, Nat.reduceLT, Nat.reduceLeDiff, Nat.reduceEqDiff, Int.reduceToNat, Int.reduceEq, Int.reduceLT, Int.reduceLE, reduceCtorEq]
def Gfr (p : List (List PO)) (e : En) (n : Nat) (f : FuncId) (a : List SV) (m : List Res) : Sx.Call := (FH.on 84 (Hvi p e) <|
  FH.mt 44 84 dSta (.two dProg .int) (.one .bool) (fun s y => Fit y.1 s.at' ∧ progC badP y.1 = 0) (fun s y => canF s y.1 y.2.1) (fun s _ => s) <|
  FH.mt 45 84 dSta (.two dProg .int) (.two dEv .bool) (fun s y => Fit y.1 s.at' ∧ progC badP y.1 = 0 ∧ canF s y.1 y.2.1 = true) (fun s y => match nextF s y.1 y.2.1 with
    | none => (⟨0, 0, 0⟩, false)
    | some (l, i) => (evE (evK s y.1 y.2.1.toNat (l.getD i dOp.dft)) y.2.1.toNat (l.getD i dOp.dft), !decide (evK s y.1 y.2.1.toNat (l.getD i dOp.dft) = 0))) (fun s y => pickS y.1 s y.2.1) <|
  FH.mk 86 (.one dBe) (fun y => (y.1.getD []).length ≤ 1000000) (fun y => .vec 0 (y.1.getD []).length) (fun y => [.vec 3 1 ((y.1.getD []).map DT.int.emb)]) <|
  FH.on 119 (Hfr p e n) FH.none) f a m
theorem Gfr_eq (p : List (List PO)) (e : En) (n : Nat) (f : FuncId) (a : List SV) (m : List Res) : Gfr p e n f a m = (FH.on 84 (Hvi p e) <|
  FH.mt 44 84 dSta (.two dProg .int) (.one .bool) (fun s y => Fit y.1 s.at' ∧ progC badP y.1 = 0) (fun s y => canF s y.1 y.2.1) (fun s _ => s) <|
  FH.mt 45 84 dSta (.two dProg .int) (.two dEv .bool) (fun s y => Fit y.1 s.at' ∧ progC badP y.1 = 0 ∧ canF s y.1 y.2.1 = true) (fun s y => match nextF s y.1 y.2.1 with
    | none => (⟨0, 0, 0⟩, false)
    | some (l, i) => (evE (evK s y.1 y.2.1.toNat (l.getD i dOp.dft)) y.2.1.toNat (l.getD i dOp.dft), !decide (evK s y.1 y.2.1.toNat (l.getD i dOp.dft) = 0))) (fun s y => pickS y.1 s y.2.1) <|
  FH.mk 86 (.one dBe) (fun y => (y.1.getD []).length ≤ 1000000) (fun y => .vec 0 (y.1.getD []).length) (fun y => [.vec 3 1 ((y.1.getD []).map DT.int.emb)]) <|
  FH.on 119 (Hfr p e n) FH.none) f a m := nr rfl
theorem Gfr_ok {p : List (List PO)} {e : En} {n : Nat} (h : ∀ s pk st, PreF p n s pk → FnOK Try.prog 119 [.ptr 0 [] 0, dSta.emb s, dBe.emb pk] (mF p e st) (.bool (fromF p e n s pk st).1) (mF p e (fromF p e n s pk st).2)) : FHOK Try.prog (Gfr p e n) :=
  FH.on_ok (Hvi_ok p e) <| FH.mt_ok (by kernel_rfl) (fun s y h => f_Can s y.1 y.2.1 h.1 h.2) <| FH.mt_ok (by kernel_rfl) (fun s y h => by
      obtain ⟨p, t, u⟩ := y
      obtain ⟨h1, h2, h3⟩ := h
      simp only at h1 h2 h3
      obtain ⟨l, i, hx⟩ := can_some h3
      obtain ⟨n, rfl, _⟩ := next_some h1 hx
      have := f_Step s p n l i h1 h2 hx
      have e : pickS p s n = stF s p n (l.getD i dOp.dft) := by rw [pickS, hx]; simp only [h3, if_true, Int.toNat_natCast]
      simp only [hx, Int.toNat_natCast, e]
      exact this) <|
  FH.mk_ok (by kernel_rfl) (fun y _ => plainM (pv_vec _ _) ⟨plR_vec _ _ DT.int _, trivial⟩) (fun y hy => by
      obtain ⟨y, u⟩ := y
      cases y with
      | none => exact f_CloneNil
      | some l => exact f_CloneInt l hy) <| FH.on_ok (Hfr_ok h) FH.none_ok
theorem PreF.next {p : List (List PO)} {n : Nat} {s : Sta} {pk : Option (List Int)} (h : PreF p (n + 1) s pk) {t : Nat} (hc : canF s p t = true) (ht : t < p.length) : PreF p n (pickS p s t) (some (pk.getD [] ++ [(t : Int)])) := by
  obtain ⟨l, i, hx⟩ := can_some hc
  have e : pickS p s t = stF s p t (l.getD i dOp.dft) := by rw [pickS, hx]; simp only [hc, if_true, Int.toNat_natCast]
  have h0 := h.fit.at0 t ht
  refine ⟨fit_pick h.fit t, h.prog, ?_, ?_⟩
  · have h1 := sum_upd s.at' t h0.1 p.length
    rw [if_pos ht] at h1
    have h2 : sumAt p (pickS p s t).at' = sumAt p s.at' + 1 := by
      rw [e]
      show sumAt p (Tr.upd s.at' t (s.at' t + 1)) = _
      rw [sumAt, h1]; rfl
    have := h.fuel
    rw [h2]; omega
  · have := h.pk
    simp only [Option.getD_some, List.length_append, List.length_singleton]
    omega
theorem f_from {p : List (List PO)} (e : En) : ∀ (n : Nat) (s : Sta) (pk : Option (List Int)) (st : FS), PreF p n s pk →
    FnOK Try.prog 119 [.ptr 0 [] 0, dSta.emb s, dBe.emb pk] (mF p e st) (.bool (fromF p e n s pk st).1) (mF p e (fromF p e n s pk st).2)
  | 0, s, pk, st, h => by
    have h1 := sum_le h.fit p.length (Nat.le_refl _)
    rw [List.take_length] at h1
    have h2 := h.fuel
    rw [sumAt] at h2
    omega
  | n + 1, s, pk, st, h => by
    have G_ok := Gfr_ok (p := p) (e := e) (n := n) (f_from e n)
    unfold mF mV
    refine fn_walkF c119 w119 G_ok rfl ?_
    unfold j119
    have hf := setG_find s st.1
    have hq := setG_put s st.1
    rw [sta_emb] at hf hq
    by_cases hs : st.1.any (samS s) = true
    · rw [if_pos hs] at hf
      simp only [go_sem, ↓reduceIte, Nat.reduceAdd, Nat.reduceMul, Nat.reduceSub, Nat.reduceLT, Nat.reduceLeDiff, Nat.reduceEqDiff, Int.reduceToNat, Int.reduceEq, Int.reduceLT, Int.reduceLE, reduceCtorEq, Gfr_eq, hf, cW, Option.getD_some, Option.getD_none, Option.isSome_some, Option.isSome_none, List.range_zero, List.nil_append, List.map_nil, List.set_cons_succ, List.set_cons_zero, selM, selI_eq, selJ, List.map_cons, List.take_succ_cons, List.take_zero, memAt, List.getD_cons_zero, List.getD_cons_succ]
      have e1 : fromF p e (n + 1) s pk st = (true, st) := by rw [fromF, if_pos hs]
      rw [e1]
      exact ⟨rfl, rfl⟩
    · rw [if_neg hs] at hf
      have hq := hq (by simpa using hs)
      simp only [go_sem, ↓reduceIte, Nat.reduceAdd, Nat.reduceMul, Nat.reduceSub, Nat.reduceLT, Nat.reduceLeDiff, Nat.reduceEqDiff, Int.reduceToNat, Int.reduceEq, Int.reduceLT, Int.reduceLE, reduceCtorEq, Gfr_eq, Hvi_at, Hfr_at, hf, hq, cW, Option.getD_some, Option.getD_none, Option.isSome_some, Option.isSome_none, List.range_zero, List.nil_append, List.map_nil, List.set_cons_succ, List.set_cons_zero, selM, selI_eq, selJ, List.map_cons, List.take_succ_cons, List.take_zero, memAt, List.getD_cons_zero, List.getD_cons_succ]
      have hv : visF p e s pk st.2 = visF p e s pk st.2 := rfl
      refine ⟨⟨h.fit, h.prog⟩, fun hv => ?_, fun hv => ?_⟩
      · have e1 : fromF p e (n + 1) s pk st = (false, (st.1 ++ [s], visF p e s pk st.2)) := by rw [fromF, if_neg hs, if_pos hv]
        rw [e1]
        exact ⟨rfl, rfl⟩
      have e1 : fromF p e (n + 1) s pk st = wtF p e n s pk st p.length := by rw [fromF, if_neg hs, if_neg (by rw [hv]; decide)]; rfl
      rw [e1]
      refine loopF Nat (fun t => [.int .i64 t]) (fun t => mF p e (wtF p e n s pk st t).2 ++ [.blk 84 (dSta.emb s), .blk 106 (.agg [])]) (fun t => t ≤ p.length ∧ (wtF p e n s pk st t).1 = true) (fun t => p.length - t) 0 ⟨by omega, rfl⟩ ?_ ?_ ?_
      · simp only [go_sem, ↓reduceIte, Nat.reduceAdd, Nat.reduceMul, Nat.reduceSub, Nat.reduceLT, Nat.reduceLeDiff, Nat.reduceEqDiff, Int.reduceToNat, Int.reduceEq, Int.reduceLT, Int.reduceLE, reduceCtorEq]
      · rfl
      rintro t ⟨ht, hok⟩
      have hn6 := h.fit.n
      by_cases qt : t < p.length
      · have qt' : (t : Int) < p.length := by omega
        have hsu := wtF_succ (p := p) (e := e) (n := n) (s := s) (pk := pk) (st := st) t
        rw [hok, if_neg (by decide)] at hsu
        cases hcan : canF s p t with
        | false =>
          rw [hcan, if_neg (by decide)] at hsu
          unfold j119_1
          simp only [go_sem, ↓reduceIte, Nat.reduceAdd, Nat.reduceMul, Nat.reduceSub, Nat.reduceLT, Nat.reduceLeDiff, Nat.reduceEqDiff, Int.reduceToNat, Int.reduceEq, Int.reduceLT, Int.reduceLE, reduceCtorEq, Gfr_eq, setF, mF, mV, cW, qt', hcan, List.range_zero, List.nil_append, List.map_nil, List.set_cons_succ, List.set_cons_zero, selM, selI_eq, selJ, List.map_cons, List.take_succ_cons, List.take_zero, memAt, List.getD_cons_zero, List.getD_cons_succ]
          exact ⟨⟨h.fit, h.prog⟩, t + 1, ⟨qt, by rw [hsu]; exact hok⟩, by omega, IntWalk.i64_in _ (by omega), by rw [hsu]⟩
        | true =>
          rw [hcan, if_pos rfl] at hsu
          have hP := h.next hcan qt
          have hst := wtF_stop (p := p) (e := e) (n := n) (s := s) (pk := pk) (st := st) (k := t + 1)
          have hend : (wtF p e n s pk st (t + 1)).1 = false → wtF p e n s pk st p.length = wtF p e n s pk st (t + 1) := fun hh => by
            have := hst hh (p.length - (t + 1))
            rwa [show t + 1 + (p.length - (t + 1)) = p.length by omega] at this
          unfold j119_1
          simp only [go_sem, ↓reduceIte, Nat.reduceAdd, Nat.reduceMul, Nat.reduceSub, Nat.reduceLT, Nat.reduceLeDiff, Nat.reduceEqDiff, Int.reduceToNat, Int.reduceEq, Int.reduceLT, Int.reduceLE, reduceCtorEq, Gfr_eq, setF, Hfr_at, mF, mV, cW, qt', hcan, decG_set, List.range_zero, List.nil_append, List.map_nil, List.set_cons_succ, List.set_cons_zero, selM, selI_eq, selJ, List.map_cons, List.take_succ_cons, List.take_zero, memAt, List.getD_cons_zero, List.getD_cons_succ]
          have hl := h.pk
          refine ⟨⟨h.fit, h.prog⟩, ⟨h.fit, h.prog⟩, by omega, by omega, ⟨by simp, hP⟩, fun hh => ?_, fun hh => ?_⟩
          · rw [hend (by rw [hsu]; exact hh), hsu]
            exact ⟨hh.symm, rfl⟩
          · exact ⟨t + 1, ⟨qt, by rw [hsu]; exact hh⟩, by omega, IntWalk.i64_in _ (by omega), by rw [hsu]⟩
      · have qt' : ¬ (t : Int) < p.length := by omega
        obtain rfl : t = p.length := by omega
        unfold j119_1
        simp only [go_sem, ↓reduceIte, Nat.reduceAdd, Nat.reduceMul, Nat.reduceSub, Nat.reduceLT, Nat.reduceLeDiff, Nat.reduceEqDiff, Int.reduceToNat, Int.reduceEq, Int.reduceLT, Int.reduceLE, reduceCtorEq, Gfr_eq, qt', mF, mV, cW, List.range_zero, List.nil_append, List.map_nil, List.set_cons_succ, List.set_cons_zero, selM, selI_eq, selJ, List.map_cons, List.take_succ_cons, List.take_zero, memAt, List.getD_cons_zero, List.getD_cons_succ]
        unfold j119_2
        simp only [go_sem, ↓reduceIte, Nat.reduceAdd, Nat.reduceMul, Nat.reduceSub, Nat.reduceLT, Nat.reduceLeDiff, Nat.reduceEqDiff, Int.reduceToNat, Int.reduceEq, Int.reduceLT, Int.reduceLE, reduceCtorEq, Gfr_eq, mF, mV, cW, hok, List.range_zero, List.nil_append, List.map_nil, List.set_cons_succ, List.set_cons_zero, selM, selI_eq, selJ, List.map_cons, List.take_succ_cons, List.take_zero, memAt, List.getD_cons_zero, List.getD_cons_succ]

def j74 : JC :=
  (.seq (.ops <|
  qo 5 (.mv (.t 0)) <|
  eo 6 (.mop (.make (.st [(.st [(.arr 8 1 (.int .i64)), (.arr 4 1 (.int .i64)), (.arr 6 1 (.int .i64)), .bool, .bool]), (.arr 6 1 (.int .i64)), (.arr 6 1 .bool), (.arr 5 1 (.int .i64))]) (.st [])) []) <|
  qo 7 (.mv (.t 1)) <|
  qo 8 (.bld (.agg [.nils, .nilm, .nilf]) [([.fld 0], 0, 1, (.t 5)), ([.fld 1], 1, 1, (.t 6)), ([.fld 2], 2, 1, (.t 7))]) <|
  eo 9 (.box 198 (.t 8)) <|
  qo 4 (.mv (.t 9)) <|
  .nil)
  (.ops <|
  qo 10 (.mv (.t 4)) <|
  eo 11 (.call 43 []) <|
  eo 12 (.call 119 [(.t 10), (.t 11), (.c .nils)]) <|
  .nil))
theorem c74 : fnIs Try.prog qall 74 = some (j74.flat, [], 13) := by kernel_rfl
theorem w74 : j74.wf 13 = true := by kernel_rfl
def Gwd (p : List (List PO)) (e : En) (f : FuncId) (a : List SV) (m : List Res) : Sx.Call := (FH.rd 43 .nil (.one dSta) (fun _ => True) (fun _ => firstS) <| FH.on 119 (Hfr p e 12) FH.none) f a m
theorem Gwd_eq (p : List (List PO)) (e : En) (f : FuncId) (a : List SV) (m : List Res) : Gwd p e f a m = (FH.rd 43 .nil (.one dSta) (fun _ => True) (fun _ => firstS) <| FH.on 119 (Hfr p e 12) FH.none) f a m := nr rfl
theorem Gwd_ok (p : List (List PO)) (e : En) : FHOK Try.prog (Gwd p e) := FH.rd_ok (by kernel_rfl) (fun _ _ => f_First) <| FH.on_ok (Hfr_ok (f_from e 12)) FH.none_ok
theorem pre_first {p : List (List PO)} (hc : echF p = 0) : PreF p 12 firstS none := by
  obtain ⟨hp, h10⟩ := ech_ok hc
  have h0 := (root_ok hp).sum
  have h0 : sumAt p firstS.at' = 0 := h0
  exact ⟨(root_ok hp).fit, hp, by omega, by simp⟩
def wayF (p : List (List PO)) (e : En) : YS := (fromF p e 12 firstS none ([], (none, false))).2.2
theorem f_walked {p : List (List PO)} (hc : echF p = 0) (e : En) : FnOK Try.prog 74 [dProg.emb p, .fn 84 [.ptr 0 [] 0, .ptr 1 [] 0, .ptr 2 [] 0, .ptr 3 [] 0]] (mV p e (none, false)) (.tup []) (mV p e (wayF p e)) := by
  have h0 := pre_first hc
  unfold mV wayF
  refine fn_walkF c74 w74 (Gwd_ok p e) rfl ?_
  unfold j74
  simp only [go_sem, ↓reduceIte, Nat.reduceAdd, Nat.reduceMul, Nat.reduceSub, Nat.reduceLT, Nat.reduceLeDiff, Nat.reduceEqDiff, Int.reduceToNat, Int.reduceEq, Int.reduceLT, Int.reduceLE, reduceCtorEq, Gwd_eq, setF, Hfr_at, mF, mV, cW, decG_set, List.range_zero, List.nil_append, List.map_nil, List.set_cons_succ, List.set_cons_zero, selM, selI_eq, selJ, List.map_cons, List.take_succ_cons, List.take_zero, memAt, List.getD_cons_zero, List.getD_cons_succ]
  exact ⟨⟨rfl, h0⟩, rfl⟩
def Hwd (p : List (List PO)) (e : En) (args : List SV) (m : List Res) : Sx.Call := match args with
  | [x, .fn g [.ptr a pa oa, .ptr b pb ob, .ptr c pc oc, .ptr d pd od]] => .is (nd [a, b, c, d] ∧ (x = dProg.emb p ∧ g = 84 ∧ echF p = 0) ∧ (pa = [] ∧ oa = 0 ∧ memAt m a = .blk 22 (dProg.emb p)) ∧ (pb = [] ∧ ob = 0 ∧ memAt m b = .blk 28 (dEn.emb e)) ∧ (pc = [] ∧ oc = 0 ∧ memAt m c = .blk 23 .nils) ∧
      (pd = [] ∧ od = 0 ∧ memAt m d = .blk 4 (.bool false))) (.tup []) ((((m.set a (.blk 22 (dProg.emb p))).set b (.blk 28 (dEn.emb e))).set c (.blk 23 (dBe.emb (wayF p e).1))).set d (.blk 4 (.bool (wayF p e).2)))
  | _ => .no
theorem Hwd_at (p : List (List PO)) (e : En) (x : SV) (g a b c d : Nat) (pa pb pc pd : List Step) (oa ob oc od : Nat) (m : List Res) : Hwd p e [x, .fn g [.ptr a pa oa, .ptr b pb ob, .ptr c pc oc, .ptr d pd od]] m = (.is (nd [a, b, c, d] ∧ (x = dProg.emb p ∧ g = 84 ∧ echF p = 0) ∧ (pa = [] ∧ oa = 0 ∧ memAt m a = .blk 22 (dProg.emb p)) ∧ (pb = [] ∧ ob = 0 ∧ memAt m b = .blk 28 (dEn.emb e)) ∧ (pc = [] ∧ oc = 0 ∧ memAt m c = .blk 23 .nils) ∧
      (pd = [] ∧ od = 0 ∧ memAt m d = .blk 4 (.bool false))) (.tup []) ((((m.set a (.blk 22 (dProg.emb p))).set b (.blk 28 (dEn.emb e))).set c (.blk 23 (dBe.emb (wayF p e).1))).set d (.blk 4 (.bool (wayF p e).2)))) := nr rfl
theorem Hwd_ok (p : List (List PO)) (e : En) (args : List SV) (m : List Res) : (Hwd p e args m).OK Try.prog 74 args m := by
  unfold Hwd
  split
  · rename_i x g a pa oa b pb ob c pc oc d pd od
    rintro ⟨hnd, ⟨rfl, rfl, hc⟩, ⟨rfl, rfl, h2⟩, ⟨rfl, rfl, h3⟩, ⟨rfl, rfl, h4⟩, ⟨rfl, rfl, h5⟩⟩
    refine ⟨by kernel_rfl, ?_⟩
    have hn := nd_ok hnd
    have s0 : selI [a, b, c, d] a = some 0 := sel_nth hn rfl
    have s1 : selI [a, b, c, d] b = some 1 := sel_nth hn rfl
    have s2 : selI [a, b, c, d] c = some 2 := sel_nth hn rfl
    have s3 : selI [a, b, c, d] d = some 3 := sel_nth hn rfl
    have key := call_of_fn (args := [dProg.emb p, .fn 84 [.ptr a [] 0, .ptr b [] 0, .ptr c [] 0, .ptr d [] 0]]) (m := m) (f_walked hc e) [a, b, c, d] hn (by simp [h2, h3, h4, h5, Res.isBlk])
      (by simp only [renL, dProg.ren, Sx.ren, renI, s0, s1, s2, s3])
      (by
        simp only [selM, List.map_cons, List.map_nil, h2, h3, h4, h5, renR, dProg.ren, dEn.ren, dBe.ren, Sx.ren, mV]
        rfl) (by simp [mV]) (by
        intro k hk
        simp only [List.length_cons, List.length_nil] at hk
        match k, hk with
        | 0, _ => rfl
        | 1, _ => rfl
        | 2, _ => rfl
        | 3, _ => rfl)
    have hmm : ∀ st : YS, mergeM [a, b, c, d] m (mV p e st) = (((m.set a (.blk 22 (dProg.emb p))).set b (.blk 28 (dEn.emb e))).set c (.blk 23 (dBe.emb st.1))).set d (.blk 4 (.bool st.2)) := by
      intro st
      simp [mergeM, memAt, renR, dProg.ren, dEn.ren, dBe.ren, mV, Sx.ren]
    rw [hmm] at key
    exact key
  · trivial

def j38 : JC :=
  (.seq (.ops <|
  eo 2 (.box 22 (.t 0)) <|
  eo 3 (.box 28 (.t 1)) <|
  qo 4 (.mv (.c .nils)) <|
  qo 5 (.mv (I 0)) <|
  .nil)
  (.seq (.seq (.ops <|
  eo 9 (.load 1 false (.t 2)) <|
  eo 10 (.call 73 [(.t 9)]) <|
  qo 6 (.mv (.t 10)) <|
  .nil)
  (.seq (.ops <|
  qo 11 (.mv (.t 6)) <|
  qo 12 (.cmp .neq (.t 11) (I 0)) <|
  .nil)
  (.cond (.t 12)
  (.seq (.ops <|
  .prune [6] <|
  qo 13 (.mv (.t 6)) <|
  qo 4 (.mv (.c .nils)) <|
  qo 5 (.mv (.t 13)) <|
  .nil)
  .ret)
  .skip)))
  (.prune [2, 3] (.seq (.ops <|
  eo 7 (.alloc 23 .nils) <|
  .nil)
  (.seq (.ops <|
  eo 8 (.alloc 4 (.bool false)) <|
  en (.store 1 (.t 8) (B false)) <|
  .nil)
  (.seq (.ops <|
  eo 14 (.load 1 false (.t 2)) <|
  qo 15 (.mkfn 84 [(.t 2), (.t 3), (.t 7), (.t 8)]) <|
  eo 16 (.call 74 [(.t 14), (.t 15)]) <|
  .nil)
  (.seq (.seq (.ops <|
  eo 17 (.load 1 false (.t 8)) <|
  qo 18 (.nt (.t 17)) <|
  .nil)
  (.prune [18, 7] (.cond (.t 18)
  (.seq (.ops <|
  qo 4 (.mv (.c .nils)) <|
  qo 5 (.mv (I 7)) <|
  .nil)
  .ret)
  .skip)))
  (.prune [7] (.seq (.ops <|
  eo 19 (.load 1 false (.t 7)) <|
  qo 4 (.mv (.t 19)) <|
  qo 5 (.mv (I 0)) <|
  .nil)
  .ret)))))))))
theorem c38 : fnIs Try.prog qall 38 = some (j38.flat, [.tmp 4, .tmp 5], 20) := by kernel_rfl
theorem w38 : j38.wf 20 = true := by kernel_rfl
def Gwy (p : List (List PO)) (e : En) (f : FuncId) (a : List SV) (m : List Res) : Sx.Call := (FH.rd 73 (.one dProg) (.one .int) (fun _ => True) (fun y => echF y.1) <| FH.on 74 (Hwd p e) FH.none) f a m
theorem Gwy_eq (p : List (List PO)) (e : En) (f : FuncId) (a : List SV) (m : List Res) : Gwy p e f a m = (FH.rd 73 (.one dProg) (.one .int) (fun _ => True) (fun y => echF y.1) <| FH.on 74 (Hwd p e) FH.none) f a m := nr rfl
theorem Gwy_ok (p : List (List PO)) (e : En) : FHOK Try.prog (Gwy p e) := FH.rd_ok (by kernel_rfl) (fun y _ => f_check y.1) <| FH.on_ok (Hwd_ok p e) FH.none_ok
/-- What Way tells. -/
def wayT (p : List (List PO)) (e : En) : Option (List Int) × Int := if echF p = 0 then (if (wayF p e).2 = true then ((wayF p e).1, 0) else (none, 7)) else (none, echF p)
theorem f_Way (p : List (List PO)) (e : En) : FnOK Try.prog 38 [dProg.emb p, dEn.emb e] [] (.tup [dBe.emb (wayT p e).1, .int .i64 (wayT p e).2]) [] := by
  refine fn_walkF c38 w38 (Gwy_ok p e) rfl ?_
  unfold j38
  unfold wayT
  by_cases hc : echF p = 0
  · rw [if_pos hc]
    cases hw : (wayF p e).2 with
    | false =>
      simp only [go_sem, ↓reduceIte, Nat.reduceAdd, Nat.reduceMul, Nat.reduceSub, Nat.reduceLT, Nat.reduceLeDiff, Nat.reduceEqDiff, Int.reduceToNat, Int.reduceEq, Int.reduceLT, Int.reduceLE, reduceCtorEq, Gwy_eq, Hwd_at, hc, hw, List.range_zero, List.nil_append, List.map_nil, List.set_cons_succ, List.set_cons_zero, selM, selI_eq, selJ, List.map_cons, List.take_succ_cons, List.take_zero, memAt, List.getD_cons_zero, List.getD_cons_succ]
    | true =>
      simp only [go_sem, ↓reduceIte, Nat.reduceAdd, Nat.reduceMul, Nat.reduceSub, Nat.reduceLT, Nat.reduceLeDiff, Nat.reduceEqDiff, Int.reduceToNat, Int.reduceEq, Int.reduceLT, Int.reduceLE, reduceCtorEq, Gwy_eq, Hwd_at, hc, hw, List.range_zero, List.nil_append, List.map_nil, List.set_cons_succ, List.set_cons_zero, selM, selI_eq, selJ, List.map_cons, List.take_succ_cons, List.take_zero, memAt, List.getD_cons_zero, List.getD_cons_succ]
  · rw [if_neg hc]
    simp only [go_sem, ↓reduceIte, Nat.reduceAdd, Nat.reduceMul, Nat.reduceSub, Nat.reduceLT, Nat.reduceLeDiff, Nat.reduceEqDiff, Int.reduceToNat, Int.reduceEq, Int.reduceLT, Int.reduceLE, reduceCtorEq, Gwy_eq, Hwd_at, hc, List.range_zero, List.nil_append, List.map_nil, List.set_cons_succ, List.set_cons_zero, selM, selI_eq, selJ, List.map_cons, List.take_succ_cons, List.take_zero, memAt, List.getD_cons_zero, List.getD_cons_succ]
end Go.Proofs.Ytgcbhanfhnianaa.Ev
end
section
set_option linter.unusedSimpArgs false
set_option linter.unusedVariables false
set_option maxRecDepth 100000
open Go Go.Sx Go.Proofs
namespace Go.Proofs.Ytgcbhanfhnianaa.Ev
open Go.Proofs.Ytgcbhanfhnianaa.D Go.Proofs.Ytgcbhanfhnianaa.Pg Go.Proofs.Ytgcbhanfhnianaa.Tr Go.Proofs.Ytgcbhanfhnianaa.Rn Go.Proofs.Ytgcbhanfhnianaa.Cp Go.Proofs.Ytgcbhanfhnianaa.Rc

def j85 : JC :=
  (.seq (.ops <|
  eo 4 (.box 91 (.t 0)) <|
  qo 5 (.mv (B false)) <|
  .nil)
  (.seq (.seq (.ops <|
  eo 7 (.load 29 true (.t 4)) <|
  eo 8 (.call 50 [(.t 7)]) <|
  eo 6 (.alloc 28 (.agg [(.arr 8 1 fun _ => (.int .i64 0)), (.arr 4 1 fun _ => (.int .i64 0)), (.arr 6 1 fun _ => (.int .i64 0)), (.bool false), (.bool false)])) <|
  en (.store 20 (.t 6) (.t 8)) <|
  .nil)
  (.seq (.ops <|
  eo 9 (.load 1 false (.t 1)) <|
  qo 10 (.nt (.t 9)) <|
  qo 11 (.mv (.t 10)) <|
  .prune [11, 6, 2, 4, 3, 1] <|
  .sc false 18 11 (qo 12 (.fa 3 18 (.t 6)) <|
  eo 13 (.load 1 false (.t 12)) <|
  qo 14 (.mv (.t 13)) <|
  .sc true 17 14 (qo 15 (.fa 4 19 (.t 6)) <|
  eo 16 (.load 1 false (.t 15)) <|
  .nil) (.t 16) <|
  .nil) (.t 17) <|
  qo 19 (.mv (.t 18)) <|
  .sc false 23 19 (eo 20 (.load 20 true (.t 6)) <|
  eo 21 (.load 20 true (.t 2)) <|
  qo 22 (.aeq false (.st [(.arr 8 1 (.int .i64)), (.arr 4 1 (.int .i64)), (.arr 6 1 (.int .i64)), .bool, .bool]) (.t 20) (.t 21)) <|
  .nil) (.t 22) <|
  .nil)
  (.prune [23, 4, 3, 1] (.cond (.t 23)
  (.ops <|
  qo 24 (.fa 4 28 (.t 4)) <|
  eo 25 (.load 1 false (.t 24)) <|
  en (.store 1 (.t 3) (.t 25)) <|
  en (.store 1 (.t 1) (B true)) <|
  .nil)
  .skip))))
  (.prune [1] (.seq (.ops <|
  eo 26 (.load 1 false (.t 1)) <|
  qo 27 (.nt (.t 26)) <|
  qo 5 (.mv (.t 27)) <|
  .nil)
  .ret))))
theorem c85 : fnIs Try.prog qall 85 = some (j85.flat, [.tmp 5], 28) := by kernel_rfl
theorem w85 : j85.wf 28 = true := by kernel_rfl
def hitG (e : En) (g : Pg) : Bool := ((endG g).done || (endG g).stuck) && sameE (endG g) e
def seeH (e : En) (g : Pg) (st : YS) : YS := if (!st.2 && hitG e g) = true then (g.last, true) else st
def Gvg (f : FuncId) (a : List SV) (m : List Res) : Sx.Call := (FH.rd 50 (.one dPg) (.one dEn) (fun y => Fit y.1.p y.1.at' ∧ progC badP y.1.p = 0) (fun y => endG y.1) FH.none) f a m
theorem Gvg_eq (f : FuncId) (a : List SV) (m : List Res) : Gvg f a m = (FH.rd 50 (.one dPg) (.one dEn) (fun y => Fit y.1.p y.1.at' ∧ progC badP y.1.p = 0) (fun y => endG y.1) FH.none) f a m := nr rfl
theorem Gvg_ok : FHOK Try.prog Gvg := FH.rd_ok (by kernel_rfl) (fun y h => f_EndedG y.1 h.1 h.2) FH.none_ok
def mU (e : En) (st : YS) : List Res := [.blk 4 (.bool st.2), .blk 28 (dEn.emb e), .blk 23 (dBe.emb st.1)]
theorem f_VisG (e : En) (g : Pg) (st : YS) (h : Fit g.p g.at') (hp : progC badP g.p = 0) : FnOK Try.prog 85 [dPg.emb g, .ptr 0 [] 0, .ptr 1 [] 0, .ptr 2 [] 0] (mU e st) (.bool (!(seeH e g st).2)) (mU e (seeH e g st)) := by
  unfold mU
  refine fn_walkF c85 w85 Gvg_ok rfl ?_
  unfold j85
  simp only [go_sem, ↓reduceIte, Nat.reduceAdd, Nat.reduceMul, Nat.reduceSub, Nat.reduceLT, Nat.reduceLeDiff, Nat.reduceEqDiff, Int.reduceToNat, Int.reduceEq, Int.reduceLT, Int.reduceLE, reduceCtorEq, Gvg_eq, List.range_zero, List.nil_append, List.map_nil, List.set_cons_succ, List.set_cons_zero, selM, selI_eq, selJ, List.map_cons, List.take_succ_cons, List.take_zero, memAt, List.getD_cons_zero, List.getD_cons_succ]
  refine ⟨⟨h, hp⟩, fun hh => ?_, fun hh => ?_⟩
  · have hs : (!st.2 && hitG e g) = true := by
      rw [hitG, ← Bool.and_assoc]
      unfold sameE
      simp only [go_sem, ↓reduceIte, Nat.reduceAdd, Nat.reduceMul, Nat.reduceSub, Nat.reduceLT, Nat.reduceLeDiff, Nat.reduceEqDiff, Int.reduceToNat, Int.reduceEq, Int.reduceLT, Int.reduceLE, reduceCtorEq, List.range_zero, List.nil_append, List.map_nil, List.set_cons_succ, List.set_cons_zero, selM, selI_eq, selJ, List.map_cons, List.take_succ_cons, List.take_zero, memAt, List.getD_cons_zero, List.getD_cons_succ]
      exact hh
    rw [seeH, if_pos hs]
    exact ⟨rfl, rfl⟩
  · have hs : (!st.2 && hitG e g) = false := by
      rw [hitG, ← Bool.and_assoc]
      unfold sameE
      simp only [go_sem, ↓reduceIte, Nat.reduceAdd, Nat.reduceMul, Nat.reduceSub, Nat.reduceLT, Nat.reduceLeDiff, Nat.reduceEqDiff, Int.reduceToNat, Int.reduceEq, Int.reduceLT, Int.reduceLE, reduceCtorEq, List.range_zero, List.nil_append, List.map_nil, List.set_cons_succ, List.set_cons_zero, selM, selI_eq, selJ, List.map_cons, List.take_succ_cons, List.take_zero, memAt, List.getD_cons_zero, List.getD_cons_succ]
      exact hh
    rw [seeH, if_neg (by rw [hs]; decide)]
    exact ⟨rfl, rfl⟩
def setU (e : En) (a b c : Nat) (m : List Res) (st : YS) : List Res := ((m.set a (.blk 4 (.bool st.2))).set b (.blk 28 (dEn.emb e))).set c (.blk 23 (dBe.emb st.1))
theorem mU_call {f : FuncId} {e : En} {args0 args : List SV} {st st' : YS} {res : SV} (hr : ∀ r, ren r res = res) (h : FnOK Try.prog f args0 (mU e st) res (mU e st')) {m : List Res} {a b c : Nat} (hnd : nd [a, b, c]) (ha : renL (selI [a, b, c]) args = args0)
    (h1 : memAt m a = .blk 4 (.bool st.2)) (h2 : memAt m b = .blk 28 (dEn.emb e)) (h3 : memAt m c = .blk 23 (dBe.emb st.1)) : CallStep Try.prog f args m res (setU e a b c m st') := by
  have hn := nd_ok hnd
  have key := call_of_fn (args := args) (m := m) h [a, b, c] hn (by simp [h1, h2, h3, Res.isBlk]) ha
    (by simp only [selM, List.map_cons, List.map_nil, h1, h2, h3, renR, dEn.ren, dBe.ren, Sx.ren, mU]) (by simp [mU]) (by
      intro k hk
      simp only [List.length_cons, List.length_nil] at hk
      match k, hk with
      | 0, _ => rfl
      | 1, _ => rfl
      | 2, _ => rfl)
  have hmm : mergeM [a, b, c] m (mU e st') = setU e a b c m st' := by simp [mergeM, memAt, renR, dEn.ren, dBe.ren, mU, setU, Sx.ren]
  rw [hmm, hr] at key
  exact key
def Hvg (e : En) (args : List SV) (m : List Res) : Sx.Call := match args with
  | [x, .ptr a pa oa, .ptr b pb ob, .ptr c pc oc] => match memAt m a with
    | .blk Ta (.bool f) => match memAt m c with
      | .blk Tc cc => .is (nd [a, b, c] ∧ (pa = [] ∧ oa = 0 ∧ Ta = 4) ∧ (pb = [] ∧ ob = 0 ∧ memAt m b = .blk 28 (dEn.emb e)) ∧ (pc = [] ∧ oc = 0 ∧ Tc = 23 ∧ dBe.emb (dBe.decV [] cc) = cc) ∧
          dPg.emb (dPg.decV [] x) = x ∧ Fit (dPg.decV [] x).p (dPg.decV [] x).at' ∧ progC badP (dPg.decV [] x).p = 0) (.bool (!(seeH e (dPg.decV [] x) (dBe.decV [] cc, f)).2)) (setU e a b c m (seeH e (dPg.decV [] x) (dBe.decV [] cc, f)))
      | _ => .no
    | _ => .no
  | _ => .no
theorem Hvg_at (e : En) (x : SV) (a b c : Nat) (pa pb pc : List Step) (oa ob oc : Nat) (m : List Res) : Hvg e [x, .ptr a pa oa, .ptr b pb ob, .ptr c pc oc] m = (match memAt m a with
    | .blk Ta (.bool f) => match memAt m c with
      | .blk Tc cc => .is (nd [a, b, c] ∧ (pa = [] ∧ oa = 0 ∧ Ta = 4) ∧ (pb = [] ∧ ob = 0 ∧ memAt m b = .blk 28 (dEn.emb e)) ∧ (pc = [] ∧ oc = 0 ∧ Tc = 23 ∧ dBe.emb (dBe.decV [] cc) = cc) ∧
          dPg.emb (dPg.decV [] x) = x ∧ Fit (dPg.decV [] x).p (dPg.decV [] x).at' ∧ progC badP (dPg.decV [] x).p = 0) (.bool (!(seeH e (dPg.decV [] x) (dBe.decV [] cc, f)).2)) (setU e a b c m (seeH e (dPg.decV [] x) (dBe.decV [] cc, f)))
      | _ => .no
    | _ => .no) := nr rfl
theorem Hvg_ok (e : En) (args : List SV) (m : List Res) : (Hvg e args m).OK Try.prog 85 args m := by
  unfold Hvg
  split
  · rename_i x a pa oa b pb ob c pc oc
    split
    · rename_i Ta f ha
      split
      · rename_i Tc cc hc
        rintro ⟨hnd, ⟨rfl, rfl, rfl⟩, ⟨rfl, rfl, hb⟩, ⟨rfl, rfl, rfl, h3⟩, h5, h6, h7⟩
        refine ⟨by kernel_rfl, ?_⟩
        generalize hs : dPg.decV [] x = g at h5 h6 h7 ⊢
        generalize hw : dBe.decV [] cc = w at h3 ⊢
        subst h5; subst h3
        have hn := nd_ok hnd
        have s0 : selI [a, b, c] a = some 0 := sel_nth hn rfl
        have s1 : selI [a, b, c] b = some 1 := sel_nth hn rfl
        have s2 : selI [a, b, c] c = some 2 := sel_nth hn rfl
        exact mU_call (st := (w, f)) (fun _ => by simp only [Sx.ren]) (f_VisG e g (w, f) h6 h7) hnd (by simp only [renL, dPg.ren, Sx.ren, renI, s0, s1, s2]) ha hb hc
      · trivial
    · trivial
  · trivial
def walkH (p : List (List PO)) (e : En) : Nat → Pg → YS → Bool × YS
  | 0, _, st => (true, st)
  | f + 1, g, st => if (seeH e g st).2 = true then (false, seeH e g st) else
    (List.range p.length).foldl (fun (r : Bool × YS) (t : Nat) => if r.1 = false then r else if canG g t = true then walkH p e f (Rn.stepG g t (opG g t)) r.2 else r) (true, seeH e g st)
def wtH (p : List (List PO)) (e : En) (n : Nat) (g : Pg) (st : YS) (k : Nat) : Bool × YS :=
  (List.range k).foldl (fun (r : Bool × YS) (t : Nat) => if r.1 = false then r else if canG g t = true then walkH p e n (Rn.stepG g t (opG g t)) r.2 else r) (true, seeH e g st)
theorem wtH_succ {p : List (List PO)} {e : En} {n : Nat} {g : Pg} {st : YS} (k : Nat) : wtH p e n g st (k + 1) = if (wtH p e n g st k).1 = false then wtH p e n g st k else if canG g k = true then walkH p e n (Rn.stepG g k (opG g k)) (wtH p e n g st k).2 else wtH p e n g st k := by
  rw [wtH, List.range_succ, List.foldl_append]; rfl
theorem wtH_stop {p : List (List PO)} {e : En} {n : Nat} {g : Pg} {st : YS} {k : Nat} (h : (wtH p e n g st k).1 = false) : ∀ d, wtH p e n g st (k + d) = wtH p e n g st k
  | 0 => rfl
  | d + 1 => by
    rw [← Nat.add_assoc, wtH_succ, wtH_stop h d, if_pos h]
def Hwg (p : List (List PO)) (e : En) (n : Nat) (args : List SV) (m : List Res) : Sx.Call := match args with
  | [x, .fn g0 [.ptr a pa oa, .ptr b pb ob, .ptr c pc oc]] => match memAt m a with
    | .blk Ta (.bool f) => match memAt m c with
      | .blk Tc cc => .is (nd [a, b, c] ∧ g0 = 85 ∧ (pa = [] ∧ oa = 0 ∧ Ta = 4) ∧ (pb = [] ∧ ob = 0 ∧ memAt m b = .blk 28 (dEn.emb e)) ∧ (pc = [] ∧ oc = 0 ∧ Tc = 23 ∧ dBe.emb (dBe.decV [] cc) = cc) ∧
          dPg.emb (dPg.decV [] x) = x ∧ ∃ ks, GOK p ks (dPg.decV [] x) ∧ manyL p < ks.length + n) (.bool (walkH p e n (dPg.decV [] x) (dBe.decV [] cc, f)).1) (setU e a b c m (walkH p e n (dPg.decV [] x) (dBe.decV [] cc, f)).2)
      | _ => .no
    | _ => .no
  | _ => .no
theorem Hwg_at (p : List (List PO)) (e : En) (n : Nat) (x : SV) (g0 a b c : Nat) (pa pb pc : List Step) (oa ob oc : Nat) (m : List Res) : Hwg p e n [x, .fn g0 [.ptr a pa oa, .ptr b pb ob, .ptr c pc oc]] m = (match memAt m a with
    | .blk Ta (.bool f) => match memAt m c with
      | .blk Tc cc => .is (nd [a, b, c] ∧ g0 = 85 ∧ (pa = [] ∧ oa = 0 ∧ Ta = 4) ∧ (pb = [] ∧ ob = 0 ∧ memAt m b = .blk 28 (dEn.emb e)) ∧ (pc = [] ∧ oc = 0 ∧ Tc = 23 ∧ dBe.emb (dBe.decV [] cc) = cc) ∧
          dPg.emb (dPg.decV [] x) = x ∧ ∃ ks, GOK p ks (dPg.decV [] x) ∧ manyL p < ks.length + n) (.bool (walkH p e n (dPg.decV [] x) (dBe.decV [] cc, f)).1) (setU e a b c m (walkH p e n (dPg.decV [] x) (dBe.decV [] cc, f)).2)
      | _ => .no
    | _ => .no) := nr rfl
theorem Hwg_ok {p : List (List PO)} {e : En} {n : Nat} (h : ∀ g ks st, GOK p ks g → manyL p < ks.length + n → FnOK Try.prog 79 [dPg.emb g, .fn 85 [.ptr 0 [] 0, .ptr 1 [] 0, .ptr 2 [] 0]] (mU e st) (.bool (walkH p e n g st).1) (mU e (walkH p e n g st).2))
    (args : List SV) (m : List Res) : (Hwg p e n args m).OK Try.prog 79 args m := by
  unfold Hwg
  split
  · rename_i x g0 a pa oa b pb ob c pc oc
    split
    · rename_i Ta f ha
      split
      · rename_i Tc cc hc
        rintro ⟨hnd, rfl, ⟨rfl, rfl, rfl⟩, ⟨rfl, rfl, hb⟩, ⟨rfl, rfl, rfl, h3⟩, h5, ks, h6, h7⟩
        refine ⟨by kernel_rfl, ?_⟩
        generalize hs : dPg.decV [] x = g at h5 h6 ⊢
        generalize hw : dBe.decV [] cc = w at h3 ⊢
        subst h5; subst h3
        have hn := nd_ok hnd
        have s0 : selI [a, b, c] a = some 0 := sel_nth hn rfl
        have s1 : selI [a, b, c] b = some 1 := sel_nth hn rfl
        have s2 : selI [a, b, c] c = some 2 := sel_nth hn rfl
        exact mU_call (st := (w, f)) (fun _ => by simp only [Sx.ren]) (h g ks (w, f) h6 h7) hnd (by simp only [renL, dPg.ren, Sx.ren, renI, s0, s1, s2]) ha hb hc
      · trivial
    · trivial
  · trivial
def Gwh (p : List (List PO)) (e : En) (n : Nat) (f : FuncId) (a : List SV) (m : List Res) : Sx.Call := (FH.on 85 (Hvg e) <|
  FH.rd 48 (.two dPg .int) (.one .bool) (fun y => Fit y.1.p y.1.at' ∧ progC badP y.1.p = 0) (fun y => canG y.1 y.2.1) <|
  FH.pz 49 (.two dPg .int) (DP.one dPg) (fun y => Fit y.1.p y.1.at' ∧ progC badP y.1.p = 0 ∧ 0 ≤ y.2.1 ∧ canG y.1 y.2.1 = true ∧ (gl y.1).length ≤ 1000 ∧ (gt y.1).length ≤ 1000) (fun y => Rn.stepG y.1 y.2.1.toNat (opG y.1 y.2.1)) <|
  FH.on 79 (Hwg p e n) FH.none) f a m
theorem Gwh_eq (p : List (List PO)) (e : En) (n : Nat) (f : FuncId) (a : List SV) (m : List Res) : Gwh p e n f a m = (FH.on 85 (Hvg e) <|
  FH.rd 48 (.two dPg .int) (.one .bool) (fun y => Fit y.1.p y.1.at' ∧ progC badP y.1.p = 0) (fun y => canG y.1 y.2.1) <|
  FH.pz 49 (.two dPg .int) (DP.one dPg) (fun y => Fit y.1.p y.1.at' ∧ progC badP y.1.p = 0 ∧ 0 ≤ y.2.1 ∧ canG y.1 y.2.1 = true ∧ (gl y.1).length ≤ 1000 ∧ (gt y.1).length ≤ 1000) (fun y => Rn.stepG y.1 y.2.1.toNat (opG y.1 y.2.1)) <|
  FH.on 79 (Hwg p e n) FH.none) f a m := nr rfl
theorem f_walkH {p : List (List PO)} (hp : progC badP p = 0) (h10 : manyL p ≤ 10) (e : En) : ∀ (n : Nat) (g : Pg) (ks : List Int) (st : YS), GOK p ks g → manyL p < ks.length + n →
    FnOK Try.prog 79 [dPg.emb g, .fn 85 [.ptr 0 [] 0, .ptr 1 [] 0, .ptr 2 [] 0]] (mU e st) (.bool (walkH p e n g st).1) (mU e (walkH p e n g st).2)
  | 0, g, ks, st, h, hm => by
    obtain ⟨_, a2, _, _⟩ := h.all hp
    have h1 := sum_le a2 p.length (Nat.le_refl _)
    rw [List.take_length] at h1
    have h2 := h.sum
    rw [sumAt] at h2
    omega
  | n + 1, g, ks, st, h, hm => by
    obtain ⟨a1, a2, a3, a4⟩ := h.all hp
    have hks : ks.length ≤ 10 := by
      have h1 := sum_le a2 p.length (Nat.le_refl _)
      rw [List.take_length] at h1
      have h2 := h.sum
      rw [sumAt] at h2
      omega
    have hl6 : g.p.length ≤ 6 := by rw [a1]; exact a2.n
    have G_ok : FHOK Try.prog (Gwh p e n) := FH.on_ok (Hvg_ok e) <|
      FH.rd_ok (by kernel_rfl) (fun y h => f_CanG y.1 y.2.1 h.1 h.2) <| FH.pz_ok (by kernel_rfl) (fun y h => by
        obtain ⟨b1, b2, b3, b4, b5, b6⟩ := h
        obtain ⟨k, e, c1, c2, c3⟩ := canG_some b1 b4
        have := f_StepG y.1 k b1 b2 c1 c3 b5 b6
        rw [e, Int.toNat_natCast]
        rw [← e] at this ⊢
        exact this) <|
      FH.on_ok (Hwg_ok fun g ks st h1 h2 => f_walkH hp h10 e n g ks st h1 h2) FH.none_ok
    unfold mU
    refine fn_walkF c79 w79 G_ok rfl ?_
    unfold j79
    simp only [go_sem, ↓reduceIte, Nat.reduceAdd, Nat.reduceMul, Nat.reduceSub, Nat.reduceLT, Nat.reduceLeDiff, Nat.reduceEqDiff, Int.reduceToNat, Int.reduceEq, Int.reduceLT, Int.reduceLE, reduceCtorEq, Gwh_eq, Hvg_at, Hwg_at, setU, List.range_zero, List.nil_append, List.map_nil, List.set_cons_succ, List.set_cons_zero, selM, selI_eq, selJ, List.map_cons, List.take_succ_cons, List.take_zero, memAt, List.getD_cons_zero, List.getD_cons_succ]
    have hfp : Fit g.p g.at' ∧ progC badP g.p = 0 := ⟨by rw [a1]; exact a2, by rw [a1]; exact hp⟩
    refine ⟨hfp, fun hv => ?_, fun hv => ?_⟩
    · have e1 : walkH p e (n + 1) g st = (false, seeH e g st) := by rw [walkH, if_pos hv]
      rw [e1]
      exact ⟨rfl, by rw [hv]⟩
    have e1 : walkH p e (n + 1) g st = wtH p e n g st p.length := by rw [walkH, if_neg (by rw [hv]; decide)]; rfl
    rw [e1]
    refine loopF Nat (fun t => [.int .i64 t]) (fun t => mU e (wtH p e n g st t).2 ++ [.blk 91 (dPg.emb g)]) (fun t => t ≤ p.length ∧ (wtH p e n g st t).1 = true) (fun t => p.length - t) 0 ⟨by omega, rfl⟩ ?_ ?_ ?_
    · simp only [go_sem, ↓reduceIte, Nat.reduceAdd, Nat.reduceMul, Nat.reduceSub, Nat.reduceLT, Nat.reduceLeDiff, Nat.reduceEqDiff, Int.reduceToNat, Int.reduceEq, Int.reduceLT, Int.reduceLE, reduceCtorEq]
    · rfl
    rintro t ⟨ht, hok⟩
    unfold j79_1
    have hgp : g.p.length = p.length := by rw [a1]
    by_cases qt : t < p.length
    · have qt' : (t : Int) < g.p.length := by omega
      have hsu := wtH_succ (p := p) (e := e) (n := n) (g := g) (st := st) t
      rw [hok, if_neg (by decide)] at hsu
      cases hcan : canG g t with
      | false =>
        rw [hcan, if_neg (by decide)] at hsu
        simp only [go_sem, ↓reduceIte, Nat.reduceAdd, Nat.reduceMul, Nat.reduceSub, Nat.reduceLT, Nat.reduceLeDiff, Nat.reduceEqDiff, Int.reduceToNat, Int.reduceEq, Int.reduceLT, Int.reduceLE, reduceCtorEq, Gwh_eq, Hvg_at, Hwg_at, setU, mU, qt', hcan, List.range_zero, List.nil_append, List.map_nil, List.set_cons_succ, List.set_cons_zero, selM, selI_eq, selJ, List.map_cons, List.take_succ_cons, List.take_zero, memAt, List.getD_cons_zero, List.getD_cons_succ]
        refine ⟨hfp, rfl, t + 1, ⟨qt, by rw [hsu]; exact hok⟩, by omega, IntWalk.i64_in _ (by omega), by rw [hsu]⟩
      | true =>
        rw [hcan, if_pos rfl] at hsu
        have hst := h.step hp hcan
        have hz := h.z
        have hend : (wtH p e n g st (t + 1)).1 = false → wtH p e n g st p.length = wtH p e n g st (t + 1) := fun hh => by
          have := wtH_stop hh (p.length - (t + 1))
          rwa [show t + 1 + (p.length - (t + 1)) = p.length by omega] at this
        simp only [go_sem, ↓reduceIte, Nat.reduceAdd, Nat.reduceMul, Nat.reduceSub, Nat.reduceLT, Nat.reduceLeDiff, Nat.reduceEqDiff, Int.reduceToNat, Int.reduceEq, Int.reduceLT, Int.reduceLE, reduceCtorEq, Gwh_eq, Hvg_at, Hwg_at, setU, mU, qt', hcan, Int.toNat_natCast, List.range_zero, List.nil_append, List.map_nil, List.set_cons_succ, List.set_cons_zero, selM, selI_eq, selJ, List.map_cons, List.take_succ_cons, List.take_zero, memAt, List.getD_cons_zero, List.getD_cons_succ]
        refine ⟨hfp, ⟨hfp.1, hfp.2, by omega, by omega, by rw [hz]; omega⟩, ⟨_, hst, by rw [List.length_append, List.length_singleton]; omega⟩, fun hh => ?_, fun hh => ?_⟩
        · rw [hend (by rw [hsu]; exact hh), hsu]
          exact ⟨hh.symm, rfl⟩
        · exact ⟨t + 1, ⟨qt, by rw [hsu]; exact hh⟩, by omega, IntWalk.i64_in _ (by omega), by rw [hsu]⟩
    · have qt' : ¬ (t : Int) < g.p.length := by omega
      obtain rfl : t = p.length := by omega
      simp only [go_sem, ↓reduceIte, Nat.reduceAdd, Nat.reduceMul, Nat.reduceSub, Nat.reduceLT, Nat.reduceLeDiff, Nat.reduceEqDiff, Int.reduceToNat, Int.reduceEq, Int.reduceLT, Int.reduceLE, reduceCtorEq, Gwh_eq, qt', mU, List.range_zero, List.nil_append, List.map_nil, List.set_cons_succ, List.set_cons_zero, selM, selI_eq, selJ, List.map_cons, List.take_succ_cons, List.take_zero, memAt, List.getD_cons_zero, List.getD_cons_succ]
      unfold j79_2
      simp only [go_sem, ↓reduceIte, Nat.reduceAdd, Nat.reduceMul, Nat.reduceSub, Nat.reduceLT, Nat.reduceLeDiff, Nat.reduceEqDiff, Int.reduceToNat, Int.reduceEq, Int.reduceLT, Int.reduceLE, reduceCtorEq, Gwh_eq, mU, hok, List.range_zero, List.nil_append, List.map_nil, List.set_cons_succ, List.set_cons_zero, selM, selI_eq, selJ, List.map_cons, List.take_succ_cons, List.take_zero, memAt, List.getD_cons_zero, List.getD_cons_succ]

def j39 : JC :=
  (.seq (.ops <|
  eo 3 (.box 28 (.t 1)) <|
  qo 4 (.mv (.c .nils)) <|
  qo 5 (.mv (B false)) <|
  .nil)
  (.seq (.ops <|
  eo 6 (.alloc 23 .nils) <|
  .nil)
  (.seq (.ops <|
  eo 7 (.alloc 4 (.bool false)) <|
  en (.store 1 (.t 7) (B false)) <|
  .nil)
  (.seq (.ops <|
  qo 8 (.mv (.t 0)) <|
  .prune [8, 7, 3, 6] <|
  qo 9 (.bld (.agg [.nils, (.arr 6 1 fun _ => (.int .i64 0)), .nils, (.agg [(.arr 8 1 fun _ => (.int .i64 0)), (.arr 4 1 fun _ => (.int .i64 0)), (.arr 6 1 fun _ => (.int .i64 0)), (.bool false), (.bool false)]), .nils]) [([.fld 0], 0, 1, (.t 8))]) <|
  qo 10 (.mkfn 85 [(.t 7), (.t 3), (.t 6)]) <|
  eo 11 (.call 79 [(.t 9), (.t 10)]) <|
  .nil)
  (.prune [6, 7] (.seq (.dops <|
  eo 12 (.load 1 false (.t 6)) <|
  eo 13 (.load 1 false (.t 7)) <|
  qo 4 (.mv (.t 12)) <|
  qo 5 (.mv (.t 13)) <|
  .nil)
  .ret))))))
theorem c39 : fnIs Try.prog qall 39 = some (j39.flat, [.tmp 4, .tmp 5], 14) := by kernel_rfl
theorem w39 : j39.wf 14 = true := by kernel_rfl
def wayH (p : List (List PO)) (e : En) : YS := (walkH p e 12 (firstG p) (none, false)).2
def Grw (p : List (List PO)) (e : En) (f : FuncId) (a : List SV) (m : List Res) : Sx.Call := (FH.on 79 (Hwg p e 12) FH.none) f a m
theorem Grw_eq (p : List (List PO)) (e : En) (f : FuncId) (a : List SV) (m : List Res) : Grw p e f a m = (FH.on 79 (Hwg p e 12) FH.none) f a m := nr rfl
theorem f_RWay {p : List (List PO)} (hp : progC badP p = 0) (h10 : manyL p ≤ 10) (e : En) : FnOK Try.prog 39 [dProg.emb p, dEn.emb e] [] (.tup [dBe.emb (wayH p e).1, .bool (wayH p e).2]) [] := by
  have G_ok : FHOK Try.prog (Grw p e) := FH.on_ok (Hwg_ok fun g ks st h1 h2 => f_walkH hp h10 e 12 g ks st h1 h2) FH.none_ok
  refine fn_walkF c39 w39 G_ok rfl ?_
  unfold j39
  simp only [go_sem, ↓reduceIte, Nat.reduceAdd, Nat.reduceMul, Nat.reduceSub, Nat.reduceLT, Nat.reduceLeDiff, Nat.reduceEqDiff, Int.reduceToNat, Int.reduceEq, Int.reduceLT, Int.reduceLE, reduceCtorEq, Grw_eq, Hwg_at, setU, List.range_zero, List.nil_append, List.map_nil, List.set_cons_succ, List.set_cons_zero, selM, selI_eq, selJ, List.map_cons, List.take_succ_cons, List.take_zero, memAt, List.getD_cons_zero, List.getD_cons_succ]
  refine ⟨⟨[], GOK.first hp, by simp only [List.length_nil]; omega⟩, ?_⟩
  rfl
end Go.Proofs.Ytgcbhanfhnianaa.Ev
end
section
set_option linter.unusedSimpArgs false
set_option linter.unusedVariables false
open Go Go.Sx Go.Proofs
namespace Go.Proofs.Ytgcbhanfhnianaa.Ev
open Go.Proofs.Ytgcbhanfhnianaa.D Go.Proofs.Ytgcbhanfhnianaa.Pg Go.Proofs.Ytgcbhanfhnianaa.Tr Go.Proofs.Ytgcbhanfhnianaa.Rn Go.Proofs.Ytgcbhanfhnianaa.Cp Go.Proofs.Ytgcbhanfhnianaa.Rc
/-- What lies outside is as at first. -/
structure Cn (s : Sta) : Prop where
  mem : ∀ i, 8 ≤ i → s.en.mem i = 0
  vols : ∀ i, 4 ≤ i → s.en.vols i = 0
  has : ∀ i, 6 ≤ i → s.en.has i = 0
  at' : ∀ i, 6 ≤ i → s.at' i = 0
  begun : ∀ i, 6 ≤ i → s.begun i = false
  owner : ∀ i, 5 ≤ i → s.owner i = 0
theorem ext_upto {α : Type} {f g : Nat → α} {n : Nat} {z : α} (h : ∀ i, i < n → f i = g i) (hf : ∀ i, n ≤ i → f i = z) (hg : ∀ i, n ≤ i → g i = z) : f = g := by
  funext i
  rcases Nat.lt_or_ge i n with hi | hi
  · exact h i hi
  · rw [hf i hi, hg i hi]
theorem samS_eq {s t : Sta} (h : samS s t = true) (hs : Cn s) (ht : Cn t) (h1 : s.en.done = t.en.done := by rfl) : s = t := by
  unfold samS at h
  rw [sta_emb, sta_emb] at h
  simp only [eqV, eqVL, Bool.and_eq_true, List.all_eq_true, List.mem_range, decide_eq_true_eq, beq_iff_eq] at h
  obtain ⟨⟨a1, a2, a3, a4, a5, _⟩, b1, b2, b3, _⟩ := h
  obtain ⟨⟨m, v, hh, d, st⟩, at1, bg, ow⟩ := s
  obtain ⟨⟨m', v', hh', d', st'⟩, at1', bg', ow'⟩ := t
  simp only at a1 a2 a3 a4 a5 b1 b2 b3
  obtain rfl := ext_upto a1 hs.mem ht.mem
  obtain rfl := ext_upto a2 hs.vols ht.vols
  obtain rfl := ext_upto a3 hs.has ht.has
  obtain rfl := ext_upto b1 hs.at' ht.at'
  obtain rfl := ext_upto b2 hs.begun ht.begun
  obtain rfl := ext_upto b3 hs.owner ht.owner
  subst a4; subst a5
  rfl
theorem Cn.first : Cn firstS := by
  refine ⟨fun _ _ => rfl, fun _ _ => rfl, fun _ _ => rfl, fun _ _ => rfl, fun i hi => ?_, fun _ _ => rfl⟩
  show Tr.upd (fun _ => false) 0 true i = false
  rw [Tr.upd, if_neg (by omega)]
theorem upd_out {α : Type} {f : Nat → α} {i k n : Nat} {x z : α} (hi : i < n) (hk : n ≤ k) (h : ∀ j, n ≤ j → f j = z) : Tr.upd f i x k = z := by
  rw [Tr.upd, if_neg (by omega), h k hk]
theorem Cn.step {p : List (List PO)} {s : Sta} (hp : progC badP p = 0) (hf : Fit p s.at') (h : Cn s) {t : Nat} {l : List PO} {i : Nat} (hx : nextF s p t = some (l, i)) : Cn (stF s p t (l.getD i dOp.dft)) := by
  obtain ⟨n, e, h1, h2, h3, h4, h5⟩ := next_some hf hx
  obtain rfl : t = n := by omega
  have ho := op_ok hp h1 (i := i) (by rw [← h3]; exact h5)
  rw [← h3] at ho
  have hn := hf.n
  generalize l.getD i dOp.dft = o at ho ⊢
  have ht : t < 6 := by omega
  have b1 : bnd 1 = 8 := by decide
  have b2 : bnd 2 = 8 := by decide
  have b4 : bnd 4 = 5 := by decide
  have b5 : bnd 5 = 5 := by decide
  have b6 : bnd 6 = 6 := by decide
  have b9 : bnd 9 = 4 := by decide
  refine ⟨fun i hi => ?_, fun i hi => ?_, fun i hi => ?_, fun i hi => upd_out ht hi h.at', fun i hi => ?_, fun i hi => ?_⟩
  · show (enF s.en t o).mem i = 0
    unfold enF
    split
    · exact h.mem i hi
    split
    · rename_i k; rw [k, b2] at ho; exact upd_out (by omega) hi h.mem
    split
    · exact h.mem i hi
    split
    · exact h.mem i hi
    split
    · exact h.mem i hi
    · exact h.mem i hi
  · show (enF s.en t o).vols i = 0
    unfold enF
    split
    · exact h.vols i hi
    split
    · exact h.vols i hi
    split
    · exact h.vols i hi
    split
    · exact h.vols i hi
    split
    · rename_i k; rw [k, b9] at ho; exact upd_out (by omega) hi h.vols
    · exact h.vols i hi
  · show (enF s.en t o).has i = 0
    unfold enF
    split
    · exact upd_out ht hi h.has
    split
    · exact h.has i hi
    split
    · exact upd_out ht hi h.has
    split
    · exact upd_out ht hi h.has
    split
    · exact h.has i hi
    · exact h.has i hi
  · show (if o.kind = 6 ∧ o.obj < p.length ∧ s.begun o.obj.toNat = false then Tr.upd s.begun o.obj.toNat true else s.begun) i = false
    split
    · rename_i k; rw [k.1, b6] at ho; exact upd_out (by omega) hi h.begun
    · exact h.begun i hi
  · show (if o.kind = 4 then Tr.upd s.owner o.obj.toNat (t + 1) else if o.kind = 5 ∧ s.owner o.obj.toNat = (t : Int) + 1 then Tr.upd s.owner o.obj.toNat 0 else s.owner) i = 0
    split
    · rename_i k; rw [k, b4] at ho; exact upd_out (by omega) hi h.owner
    · split
      · rename_i k; rw [k.1, b5] at ho; exact upd_out (by omega) hi h.owner
      · exact h.owner i hi
theorem Cn.pick {p : List (List PO)} {s : Sta} (hp : progC badP p = 0) (hf : Fit p s.at') (h : Cn s) {t : Nat} (hc : canF s p t = true) : Cn (pickS p s t) := by
  obtain ⟨l, i, hx⟩ := can_some hc
  have e : pickS p s t = stF s p t (l.getD i dOp.dft) := by rw [pickS, hx]; simp only [hc, if_true, Int.toNat_natCast]
  rw [e]
  exact h.step hp hf hx
theorem sum_pick {p : List (List PO)} {s : Sta} (hf : Fit p s.at') {t : Nat} (hc : canF s p t = true) (ht : t < p.length) : sumAt p (pickS p s t).at' = sumAt p s.at' + 1 := by
  obtain ⟨l, i, hx⟩ := can_some hc
  have e : pickS p s t = stF s p t (l.getD i dOp.dft) := by rw [pickS, hx]; simp only [hc, if_true, Int.toNat_natCast]
  have h1 := sum_upd s.at' t (hf.at0 t ht).1 p.length
  rw [if_pos ht] at h1
  rw [e]
  show sumAt p (Tr.upd s.at' t (s.at' t + 1)) = _
  rw [sumAt, h1]; rfl
/-- No end of this kind can come of it, within so many steps. -/
def noHit (p : List (List PO)) (e : En) : Nat → Sta → Prop
  | 0, _ => True
  | f + 1, s => hitS p e s = false ∧ ∀ t, t < p.length → canF s p t = true → noHit p e f (pickS p s t)
def clean (p : List (List PO)) (e : En) (s : Sta) : Prop := ∀ f, noHit p e f s
theorem clean_of {p : List (List PO)} {e : En} : ∀ (n : Nat) (s : Sta), Fit p s.at' → manyL p < sumAt p s.at' + n → noHit p e n s → clean p e s
  | 0, s, hf, hm, _, f => by
    have h1 := sum_le hf p.length (Nat.le_refl _)
    rw [List.take_length] at h1
    rw [sumAt] at hm
    omega
  | n + 1, s, hf, hm, h, 0 => trivial
  | n + 1, s, hf, hm, h, f + 1 => ⟨h.1, fun t ht hc => clean_of n (pickS p s t) (fit_pick hf t) (by rw [sum_pick hf hc ht]; omega) (h.2 t ht hc) f⟩
abbrev stK (p : List (List PO)) (ks : Ks) : Sta := runS p ks ks.length
/-- The first one, all runs gone through. -/
def firstK (p : List (List PO)) (e : En) : Nat → Ks → Option Ks
  | 0, _ => none
  | n + 1, ks => if hitS p e (stK p ks) = true then some ks else (List.range p.length).findSome? fun t : Nat => if canF (stK p ks) p t = true then firstK p e n (ks ++ [(t : Int)]) else none
theorem stK_snoc (p : List (List PO)) (ks : Ks) (t : Int) : stK p (ks ++ [t]) = pickS p (stK p ks) t := (run_snoc p ks t).1
theorem firstK_none {p : List (List PO)} {e : En} : ∀ (n : Nat) (ks : Ks), firstK p e n ks = none ↔ noHit p e n (stK p ks)
  | 0, _ => ⟨fun _ => trivial, fun _ => rfl⟩
  | n + 1, ks => by
    rw [firstK, noHit]
    cases hh : hitS p e (stK p ks) with
    | true => simp
    | false =>
      rw [if_neg (by decide), List.findSome?_eq_none_iff]
      simp only [List.mem_range, true_and]
      refine forall_congr' fun t => imp_congr_right fun ht => ?_
      by_cases hc : canF (stK p ks) p t = true
      · rw [if_pos hc, firstK_none n, stK_snoc]
        exact ⟨fun h _ => h, fun h => h hc⟩
      · rw [if_neg hc]
        exact ⟨fun _ h => absurd h hc, fun _ => rfl⟩
def preQ (p : List (List PO)) (e : En) (n : Nat) (ks : Ks) (k : Nat) : Option Ks := (List.range k).findSome? fun t : Nat => if canF (stK p ks) p t = true then firstK p e n (ks ++ [(t : Int)]) else none
theorem preQ_succ (p : List (List PO)) (e : En) (n : Nat) (ks : Ks) (k : Nat) : preQ p e n ks (k + 1) = (preQ p e n ks k).or (if canF (stK p ks) p k = true then firstK p e n (ks ++ [(k : Int)]) else none) := by
  unfold preQ
  rw [List.range_succ, List.findSome?_append]
  congr 1
  simp
/-- What a walk tells. -/
def Told (o : Option Ks) (ok : Bool) (st w : YS) : Prop := (o = none → ok = true ∧ st = w) ∧ ∀ z, o = some z → ok = false ∧ st.2 = true ∧ st.1.getD [] = z
theorem from_is {p : List (List PO)} (hp : progC badP p = 0) (e : En) (w : Option (List Int)) : ∀ (n : Nat) (ks : Ks) (pk : Option (List Int)) (seen : List Sta), pk.getD [] = ks → sumAt p (stK p ks).at' = ks.length → manyL p < ks.length + n → Cn (stK p ks) →
    (∀ t ∈ seen, Cn t ∧ (ks.length ≤ sumAt p t.at' → clean p e t)) → Told (firstK p e n ks) (fromF p e n (stK p ks) pk (seen, (w, false))).1 (fromF p e n (stK p ks) pk (seen, (w, false))).2.2 (w, false) ∧
      (firstK p e n ks = none → ∀ t ∈ (fromF p e n (stK p ks) pk (seen, (w, false))).2.1, Cn t ∧ (t ∈ seen ∨ clean p e t))
  | 0, ks, pk, seen, hpk, hsum, hm, hcn, hseen => by
    have hf := fit_run hp (picks := ks) ks.length
    have h1 := sum_le hf p.length (Nat.le_refl _)
    rw [List.take_length] at h1
    have h2 : sumAt p (runS p ks ks.length).at' = ks.length := hsum
    rw [sumAt] at h2
    omega
  | n + 1, ks, pk, seen, hpk, hsum, hm, hcn, hseen => by
    have hf : Fit p (stK p ks).at' := fit_run hp (picks := ks) ks.length
    by_cases hs : seen.any (samS (stK p ks)) = true
    · have e1 : fromF p e (n + 1) (stK p ks) pk (seen, (w, false)) = (true, (seen, (w, false))) := by rw [fromF, if_pos hs]
      rw [e1]
      obtain ⟨t, ht, hts⟩ := List.any_eq_true.1 hs
      obtain ⟨c1, c2⟩ := hseen t ht
      have et : stK p ks = t := by
        have hd : (stK p ks).en.done = t.en.done := by
          unfold samS at hts
          rw [sta_emb, sta_emb] at hts
          simp only [eqV, eqVL, Bool.and_eq_true, beq_iff_eq] at hts
          exact hts.1.2.2.2.1
        exact samS_eq hts hcn c1 hd
      have hcl : clean p e (stK p ks) := by rw [et]; exact c2 (by rw [← et, hsum]; exact Nat.le_refl _)
      have hnone : firstK p e (n + 1) ks = none := (firstK_none _ _).2 (hcl _)
      refine ⟨⟨fun _ => ⟨rfl, rfl⟩, fun z hz => ?_⟩, fun _ t ht => ⟨(hseen t ht).1, .inl ht⟩⟩
      rw [hnone] at hz; cases hz
    · by_cases hh : hitS p e (stK p ks) = true
      · have hv : visF p e (stK p ks) pk (w, false) = (pk, true) := by rw [visF, if_pos hh]
        have e1 : fromF p e (n + 1) (stK p ks) pk (seen, (w, false)) = (false, (seen ++ [stK p ks], (pk, true))) := by rw [fromF, if_neg hs, hv, if_pos rfl]
        have e2 : firstK p e (n + 1) ks = some ks := by rw [firstK, if_pos hh]
        rw [e1, e2]
        refine ⟨⟨fun h => (by cases h), fun z hz => ?_⟩, fun h => (by cases h)⟩
        cases hz
        exact ⟨rfl, rfl, hpk⟩
      · have hv : visF p e (stK p ks) pk (w, false) = (w, false) := by rw [visF, if_neg hh]
        have e1 : fromF p e (n + 1) (stK p ks) pk (seen, (w, false)) = wtF p e n (stK p ks) pk (seen, (w, false)) p.length := by rw [fromF, if_neg hs, hv, if_neg (by simp), wtF, hv]
        have e2 : firstK p e (n + 1) ks = preQ p e n ks p.length := by rw [firstK, if_neg hh]; rfl
        have key : ∀ k, k ≤ p.length → Told (preQ p e n ks k) (wtF p e n (stK p ks) pk (seen, (w, false)) k).1 (wtF p e n (stK p ks) pk (seen, (w, false)) k).2.2 (w, false) ∧
            (preQ p e n ks k = none → ∀ t ∈ (wtF p e n (stK p ks) pk (seen, (w, false)) k).2.1, Cn t ∧ (t ∈ seen ∨ t = stK p ks ∨ clean p e t)) := by
          intro k
          induction k with
          | zero =>
            intro _
            have e0 : wtF p e n (stK p ks) pk (seen, (w, false)) 0 = (true, (seen ++ [stK p ks], (w, false))) := by
              show (true, (seen ++ [stK p ks], visF p e (stK p ks) pk (w, false))) = _
              rw [hv]
            rw [e0]
            refine ⟨⟨fun _ => ⟨rfl, rfl⟩, fun z hz => (by cases hz)⟩, fun _ t ht => ?_⟩
            rcases List.mem_append.1 ht with ht | ht
            · exact ⟨(hseen t ht).1, .inl ht⟩
            · rw [List.mem_singleton] at ht
              subst ht
              exact ⟨hcn, .inr (.inl rfl)⟩
          | succ k ih =>
            intro hk
            obtain ⟨⟨i1, i2⟩, i3⟩ := ih (by omega)
            rw [wtF_succ, preQ_succ]
            cases hq : preQ p e n ks k with
            | some z =>
              obtain ⟨j1, j2, j3⟩ := i2 z hq
              rw [if_pos j1]
              refine ⟨⟨fun h => (by cases h), fun z' hz => ?_⟩, fun h => (by cases h)⟩
              have : z = z' := by simpa using hz
              subst this
              exact ⟨j1, j2, j3⟩
            | none =>
              obtain ⟨j1, j2⟩ := i1 hq
              have j3 := i3 hq
              have n1 : ¬ (wtF p e n (stK p ks) pk (seen, (w, false)) k).1 = false := by rw [j1]; decide
              rw [if_neg n1, Option.none_or]
              by_cases hc : canF (stK p ks) p k = true
              · rw [if_pos hc, if_pos hc]
                have hst := stK_snoc p ks (k : Int)
                generalize hW : wtF p e n (stK p ks) pk (seen, (w, false)) k = W at j1 j2 j3 ⊢
                obtain ⟨ok, sn, y⟩ := W
                simp only at j1 j2 j3
                subst j2
                have hl : (ks ++ [(k : Int)]).length = ks.length + 1 := by simp
                have hsum' : sumAt p (stK p (ks ++ [(k : Int)])).at' = (ks ++ [(k : Int)]).length := by rw [hst, sum_pick hf hc (by omega), hsum, hl]
                have hrec := from_is hp e w n (ks ++ [(k : Int)]) (some (pk.getD [] ++ [(k : Int)])) sn (by rw [Option.getD_some, hpk]) hsum' (by rw [hl]; omega) (by rw [hst]; exact hcn.pick hp hf hc) (fun t ht => by
                  obtain ⟨a1, a2⟩ := j3 t ht
                  refine ⟨a1, fun hle => ?_⟩
                  rw [hl] at hle
                  rcases a2 with a2 | a2 | a2
                  · exact (hseen t a2).2 (by omega)
                  · rw [a2, hsum] at hle; omega
                  · exact a2)
                rw [hst] at hrec
                refine ⟨hrec.1, fun hn t ht => ?_⟩
                obtain ⟨a1, a2⟩ := hrec.2 hn t ht
                rcases a2 with a2 | a2
                · exact j3 t a2
                · exact ⟨a1, .inr (.inr a2)⟩
              · rw [if_neg hc, if_neg hc]
                exact ⟨⟨fun _ => ⟨j1, j2⟩, fun z hz => (by cases hz)⟩, fun _ => j3⟩
        obtain ⟨k1, k2⟩ := key p.length (Nat.le_refl _)
        rw [e1, e2]
        refine ⟨k1, fun hn t ht => ?_⟩
        obtain ⟨a1, a2⟩ := k2 hn t ht
        refine ⟨a1, ?_⟩
        rcases a2 with a2 | a2 | a2
        · exact .inl a2
        · refine .inr ?_
          rw [a2]
          exact clean_of (n + 1) _ hf (by rw [hsum]; exact hm) ((firstK_none _ _).1 (by rw [e2]; exact hn))
        · exact .inr a2
theorem end_eq {p : List (List PO)} {s : Sta} {g : Pg} (hp : progC badP p = 0) (hf : Fit p s.at') (h : Same p s g) : endG g = endF' s p := by
  unfold endF' endG
  rw [h.p, left_same h _ (Nat.le_refl _), can_all hp hf h, h.en, Bool.not_not]
  cases leftB g p.length <;> cases canA g p.length <;> rfl
theorem walk_is {p : List (List PO)} (hp : progC badP p = 0) (e : En) (w : Option (List Int)) : ∀ (n : Nat) (ks : Ks) (g : Pg), GOK p ks g → Told (firstK p e n ks) (walkH p e n g (w, false)).1 (walkH p e n g (w, false)).2 (w, false)
  | 0, ks, g, h => ⟨fun _ => ⟨rfl, rfl⟩, fun z hz => (by cases hz)⟩
  | n + 1, ks, g, h => by
    have hf : Fit p (stK p ks).at' := fit_run hp (picks := ks) ks.length
    have hsm := (run_same hp (picks := ks) ks.length).1
    rw [← h.eq] at hsm
    have hE := end_eq hp hf hsm
    have hH : hitG e g = hitS p e (stK p ks) := by unfold hitG hitS; rw [hE]
    have hC : ∀ t : Nat, canG g t = canF (stK p ks) p t := fun t => (can_same hp hf hsm t).symm
    have hz : g.last.getD [] = ks := h.z
    by_cases hh : hitS p e (stK p ks) = true
    · have hv : seeH e g (w, false) = (g.last, true) := by rw [seeH, if_pos (by rw [hH, hh]; rfl)]
      have e1 : walkH p e (n + 1) g (w, false) = (false, (g.last, true)) := by rw [walkH, hv, if_pos rfl]
      have e2 : firstK p e (n + 1) ks = some ks := by rw [firstK, if_pos hh]
      rw [e1, e2]
      refine ⟨fun h => (by cases h), fun z hz' => ?_⟩
      cases hz'
      exact ⟨rfl, rfl, hz⟩
    · have hv : seeH e g (w, false) = (w, false) := by rw [seeH, if_neg (by rw [hH]; simpa using hh)]
      have e1 : walkH p e (n + 1) g (w, false) = wtH p e n g (w, false) p.length := by rw [walkH, hv, if_neg (by simp), wtH, hv]
      have e2 : firstK p e (n + 1) ks = preQ p e n ks p.length := by rw [firstK, if_neg hh]; rfl
      have key : ∀ k, k ≤ p.length → Told (preQ p e n ks k) (wtH p e n g (w, false) k).1 (wtH p e n g (w, false) k).2 (w, false) := by
        intro k
        induction k with
        | zero =>
          intro _
          have e0 : wtH p e n g (w, false) 0 = (true, (w, false)) := by
            show (true, seeH e g (w, false)) = _
            rw [hv]
          rw [e0]
          exact ⟨fun _ => ⟨rfl, rfl⟩, fun z hz => (by cases hz)⟩
        | succ k ih =>
          intro hk
          obtain ⟨i1, i2⟩ := ih (by omega)
          rw [wtH_succ, preQ_succ]
          cases hq : preQ p e n ks k with
          | some z =>
            obtain ⟨j1, j2, j3⟩ := i2 z hq
            rw [if_pos j1]
            refine ⟨fun h => (by cases h), fun z' hz => ?_⟩
            have : z = z' := by simpa using hz
            subst this
            exact ⟨j1, j2, j3⟩
          | none =>
            obtain ⟨j1, j2⟩ := i1 hq
            have n1 : ¬ (wtH p e n g (w, false) k).1 = false := by rw [j1]; decide
            rw [if_neg n1, Option.none_or, hC]
            by_cases hc : canF (stK p ks) p k = true
            · rw [if_pos hc, if_pos hc, j2]
              exact walk_is hp e w n (ks ++ [(k : Int)]) _ (h.step hp (by rw [hC]; exact hc))
            · rw [if_neg hc, if_neg hc]
              exact ⟨fun _ => ⟨j1, j2⟩, fun z hz => (by cases hz)⟩
      rw [e1, e2]
      exact key p.length (Nat.le_refl _)
/-- Both find the same way, or none. -/
theorem ways_same {p : List (List PO)} (hc : echF p = 0) (e : En) : (wayF p e).2 = (wayH p e).2 ∧ ((wayF p e).2 = true → (wayF p e).1.getD [] = (wayH p e).1.getD []) ∧ ((wayF p e).2 = false → (wayH p e).1 = none) := by
  obtain ⟨hp, h10⟩ := ech_ok hc
  have h0 : sumAt p (stK p []).at' = ([] : Ks).length := (root_ok hp).sum
  have hF := (from_is hp e none 12 [] none [] rfl h0 (by simp only [List.length_nil]; omega) Cn.first (fun t ht => by cases ht)).1
  have hG := walk_is hp e none 12 [] (firstG p) (GOK.first hp)
  have hF : Told (firstK p e 12 []) (fromF p e 12 firstS none ([], (none, false))).1 (wayF p e) (none, false) := hF
  have hG : Told (firstK p e 12 []) (walkH p e 12 (firstG p) (none, false)).1 (wayH p e) (none, false) := hG
  cases hq : firstK p e 12 [] with
  | none =>
    have a := (hF.1 hq).2
    have b := (hG.1 hq).2
    rw [a, b]
    exact ⟨rfl, fun h => (by cases h), fun _ => rfl⟩
  | some z =>
    obtain ⟨_, a1, a2⟩ := hF.2 z hq
    obtain ⟨_, b1, b2⟩ := hG.2 z hq
    rw [a1, b1, a2, b2]
    exact ⟨rfl, fun _ => rfl, fun h => (by cases h)⟩
end Go.Proofs.Ytgcbhanfhnianaa.Ev
end
