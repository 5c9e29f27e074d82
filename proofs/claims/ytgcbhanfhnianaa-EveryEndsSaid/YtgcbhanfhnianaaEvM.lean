/- The walk over all states, each once, with the visitor that notes ends: (*every.walk).from. Conditions: none. -/
import Derived.Test.YtgcbhanfhnianaaEvN
set_option linter.unusedSimpArgs false
set_option linter.unusedVariables false
set_option maxRecDepth 100000
open Go Go.Sx Go.Proofs
namespace Go.Proofs.Ytgcbhanfhnianaa.EvM
open Go.Proofs.Ytgcbhanfhnianaa.Ev
open Go.Proofs.Ytgcbhanfhnianaa.D Go.Proofs.Ytgcbhanfhnianaa.Pg Go.Proofs.Ytgcbhanfhnianaa.Tr Go.Proofs.Ytgcbhanfhnianaa.Rn Go.Proofs.Ytgcbhanfhnianaa.Cp Go.Proofs.Ytgcbhanfhnianaa.Rc
def Hfn (p : List (List PO)) (n : Nat) (args : List SV) (m : List Res) : Sx.Call := match args with
  | [.ptr i pi oi, x, y] => match memAt m i with
    | .blk T0 (.agg [a0, .map i1, .fn g [.ptr a pa oa, .ptr b pb ob]]) => match memAt m i1 with
      | .mp ek ev L => match memAt m a with
        | .blk Ta ca => match memAt m b with
          | .blk Tb (.vec k nn) => match memAt m k with
            | .vec Tk w li => match y with
              | .vec q len => match memAt m q with
                | .vec Tq wq lq => .is ((nd [i, i1, a, b, k, q] ∧ (T0 = 198 ∧ pi = [] ∧ oi = 0 ∧ g = 75 ∧ a0 = dProg.emb p) ∧ (ek = esSt ∧ ev = .st [] ∧ setG (decG L) = L) ∧ (pa = [] ∧ oa = 0 ∧ Ta = 22 ∧ ca = dProg.emb p) ∧ (pb = [] ∧ ob = 0 ∧ Tb = 62 ∧ nn = li.length) ∧
                    (Tk = 28 ∧ w = 20 ∧ (decL li).map dEn.emb = li ∧ li.length + 7 ^ n ≤ 100000000000) ∧ dSta.emb (dSta.decV [] x) = x) ∧ (wq = 1 ∧ (lq.map (DT.int.decV [])).map DT.int.emb = lq ∧ len = lq.length) ∧ PreF p n (dSta.decV [] x) (some (lq.map (DT.int.decV [])))) (.bool true)
                    (setQ p i i1 a b k (m.set q .dead) (fromN p n (dSta.decV [] x) (decG L, decL li)))
                | _ => .no
              | y => .is ((nd [i, i1, a, b, k] ∧ (T0 = 198 ∧ pi = [] ∧ oi = 0 ∧ g = 75 ∧ a0 = dProg.emb p) ∧ (ek = esSt ∧ ev = .st [] ∧ setG (decG L) = L) ∧ (pa = [] ∧ oa = 0 ∧ Ta = 22 ∧ ca = dProg.emb p) ∧ (pb = [] ∧ ob = 0 ∧ Tb = 62 ∧ nn = li.length) ∧
                    (Tk = 28 ∧ w = 20 ∧ (decL li).map dEn.emb = li ∧ li.length + 7 ^ n ≤ 100000000000) ∧ dSta.emb (dSta.decV [] x) = x) ∧ dBe.emb (dBe.decV [] y) = y ∧ PreF p n (dSta.decV [] x) (dBe.decV [] y)) (.bool true)
                    (setQ p i i1 a b k m (fromN p n (dSta.decV [] x) (decG L, decL li)))
            | _ => .no
          | _ => .no
        | _ => .no
      | _ => .no
    | _ => .no
  | _ => .no
theorem Hfn_at (p : List (List PO)) (n i : Nat) (pi : List Step) (oi : Nat) (x y : SV) (m : List Res) : Hfn p n [.ptr i pi oi, x, y] m = (match memAt m i with
    | .blk T0 (.agg [a0, .map i1, .fn g [.ptr a pa oa, .ptr b pb ob]]) => match memAt m i1 with
      | .mp ek ev L => match memAt m a with
        | .blk Ta ca => match memAt m b with
          | .blk Tb (.vec k nn) => match memAt m k with
            | .vec Tk w li => match y with
              | .vec q len => match memAt m q with
                | .vec Tq wq lq => .is ((nd [i, i1, a, b, k, q] ∧ (T0 = 198 ∧ pi = [] ∧ oi = 0 ∧ g = 75 ∧ a0 = dProg.emb p) ∧ (ek = esSt ∧ ev = .st [] ∧ setG (decG L) = L) ∧ (pa = [] ∧ oa = 0 ∧ Ta = 22 ∧ ca = dProg.emb p) ∧ (pb = [] ∧ ob = 0 ∧ Tb = 62 ∧ nn = li.length) ∧
                    (Tk = 28 ∧ w = 20 ∧ (decL li).map dEn.emb = li ∧ li.length + 7 ^ n ≤ 100000000000) ∧ dSta.emb (dSta.decV [] x) = x) ∧ (wq = 1 ∧ (lq.map (DT.int.decV [])).map DT.int.emb = lq ∧ len = lq.length) ∧ PreF p n (dSta.decV [] x) (some (lq.map (DT.int.decV [])))) (.bool true)
                    (setQ p i i1 a b k (m.set q .dead) (fromN p n (dSta.decV [] x) (decG L, decL li)))
                | _ => .no
              | y => .is ((nd [i, i1, a, b, k] ∧ (T0 = 198 ∧ pi = [] ∧ oi = 0 ∧ g = 75 ∧ a0 = dProg.emb p) ∧ (ek = esSt ∧ ev = .st [] ∧ setG (decG L) = L) ∧ (pa = [] ∧ oa = 0 ∧ Ta = 22 ∧ ca = dProg.emb p) ∧ (pb = [] ∧ ob = 0 ∧ Tb = 62 ∧ nn = li.length) ∧
                    (Tk = 28 ∧ w = 20 ∧ (decL li).map dEn.emb = li ∧ li.length + 7 ^ n ≤ 100000000000) ∧ dSta.emb (dSta.decV [] x) = x) ∧ dBe.emb (dBe.decV [] y) = y ∧ PreF p n (dSta.decV [] x) (dBe.decV [] y)) (.bool true)
                    (setQ p i i1 a b k m (fromN p n (dSta.decV [] x) (decG L, decL li)))
            | _ => .no
          | _ => .no
        | _ => .no
      | _ => .no
    | _ => .no) := nr rfl
theorem Hfn_ok {p : List (List PO)} {n : Nat} (h : SpecN p n) (args : List SV) (m : List Res) : (Hfn p n args m).OK Try.prog 119 args m := by
  unfold Hfn
  split
  · rename_i i pi oi x y
    split
    · rename_i T0 a0 i1 g a pa oa b pb ob hi
      split
      · rename_i ek ev L hi1
        split
        · rename_i Ta ca ha
          split
          · rename_i Tb k nn hb
            split
            · rename_i Tk w li hk
              split
              · rename_i q len
                split
                · rename_i Tq wq lq hq
                  rintro ⟨⟨hnd, ⟨rfl, rfl, rfl, rfl, rfl⟩, ⟨rfl, rfl, hL⟩, ⟨rfl, rfl, rfl, rfl⟩, ⟨rfl, rfl, rfl, rfl⟩, ⟨rfl, rfl, hli, hlen⟩, h5⟩, ⟨rfl, hlq, rfl⟩, hP⟩
                  refine ⟨by kernel_rfl, ?_⟩
                  generalize hs : dSta.decV [] x = s at h5 hP ⊢
                  generalize hqq : lq.map (DT.int.decV []) = ql at hlq hP ⊢
                  generalize hG : decG L = Gl at hL ⊢
                  generalize hE : decL li = El at hli ⊢
                  subst h5; subst hL; subst hlq; subst hli
                  rw [List.length_map] at hb hlen
                  have ne : ∀ j, j ∈ [i, i1, a, b, k] → j ≠ q := by
                    intro j hj e
                    subst e
                    have hnd' := nd_ok hnd
                    simp only [List.mem_cons, List.not_mem_nil, or_false] at hj
                    rcases hj with e | e | e | e | e <;> subst e <;> simp_all
                  have hnd5 : nd [i, i1, a, b, k] := by
                    simp only [nd, notIn] at hnd ⊢
                    simp_all
                  have key := fromN_call h (m := m.set q .dead) hnd5 (st := (Gl, El)) (by rw [memAt_set_ne (ne i (by simp)), hi]; rfl) (by rw [memAt_set_ne (ne i1 (by simp)), hi1]) (by rw [memAt_set_ne (ne a (by simp)), ha]) (by rw [memAt_set_ne (ne b (by simp)), hb]) (by rw [memAt_set_ne (ne k (by simp)), hk]) s (some ql) hP hlen
                  refine call_hold [q] key fun ε w vs gd hs => ?_
                  obtain ⟨c1, t1, rfl, k1, c2, t2, rfl, k2, c3, t3, rfl, k3, k4⟩ := hs
                  refine ⟨c1, _, rfl, k1.mono _ (frzK_le gd [q]), c2, _, rfl, k2.mono _ (frzK_le gd [q]), c3, _, rfl, ?_, k4⟩
                  exact hold_vec DT.int gd hq (by simp) k3
                · trivial
              · rintro ⟨⟨hnd, ⟨rfl, rfl, rfl, rfl, rfl⟩, ⟨rfl, rfl, hL⟩, ⟨rfl, rfl, rfl, rfl⟩, ⟨rfl, rfl, rfl, rfl⟩, ⟨rfl, rfl, hli, hlen⟩, h5⟩, hy, hP⟩
                refine ⟨by kernel_rfl, ?_⟩
                generalize hs : dSta.decV [] x = s at h5 hP ⊢
                generalize hqq : dBe.decV [] y = ql at hy hP ⊢
                generalize hG : decG L = Gl at hL ⊢
                generalize hE : decL li = El at hli ⊢
                subst h5; subst hL; subst hli
                rw [List.length_map] at hb hlen
                rw [← hy]
                exact fromN_call h hnd (st := (Gl, El)) hi hi1 ha hb hk s ql hP hlen
            · trivial
          · trivial
        · trivial
      · trivial
    · trivial
  · trivial
def j119_1 : JC :=
  (.seq (.ops <|
  qo 41 (.cmp .lss (.t 40) (.t 39)) <|
  .nil)
  (.seq (.cond (.t 41)
  .skip
  (.exit 0))
  (.seq (.block 1 (.seq (.ops <|
  qo 42 (.mv (.t 40)) <|
  qo 9 (.mv (.t 42)) <|
  .nil)
  (.seq (.seq (.ops <|
  qo 43 (.mv (.t 0)) <|
  qo 44 (.nck (.t 43)) <|
  .prune [44, 9, 4, 40, 39, 0, 2] <|
  qo 45 (.fa 0 0 (.t 44)) <|
  eo 46 (.load 1 false (.t 45)) <|
  qo 47 (.mv (.t 9)) <|
  eo 48 (.call 44 [(.t 4), (.t 46), (.t 47)]) <|
  qo 49 (.nt (.t 48)) <|
  .nil)
  (.cond (.t 49)
  (.exit 1)
  .skip))
  (.prune [4, 0, 9, 2, 40, 39] (.seq (.ops <|
  eo 50 (.load 37 true (.t 4)) <|
  eo 10 (.alloc 84 (.agg [(.agg [(.arr 8 1 fun _ => (.int .i64 0)), (.arr 4 1 fun _ => (.int .i64 0)), (.arr 6 1 fun _ => (.int .i64 0)), (.bool false), (.bool false)]), (.arr 6 1 fun _ => (.int .i64 0)), (.arr 6 1 fun _ => (.bool false)), (.arr 5 1 fun _ => (.int .i64 0))])) <|
  en (.store 37 (.t 10) (.t 50)) <|
  .nil)
  (.seq (.ops <|
  qo 51 (.mv (.t 0)) <|
  qo 52 (.nck (.t 51)) <|
  .prune [52, 9, 10, 0, 2, 40, 39, 4] <|
  qo 53 (.fa 0 0 (.t 52)) <|
  eo 54 (.load 1 false (.t 53)) <|
  qo 55 (.mv (.t 9)) <|
  eo 56 (.call 45 [(.t 10), (.t 54), (.t 55)]) <|
  .nil)
  (.prune [0, 10, 2, 9, 40, 39, 4] (.seq (.sel [5, 6, 11] (.dops <|
  qo 57 (.mv (.t 0)) <|
  eo 58 (.load 37 true (.t 10)) <|
  qo 59 (.mv (.t 2)) <|
  eo 60 (.call 86 [(.t 59)]) <|
  en (.again 37 true (.t 10) 58) <|
  qo 61 (.mv (.t 9)) <|
  .prune [61, 60, 58, 10, 57, 40, 39, 0, 4, 2] <|
  eo 62 (.qbsl 3 1 1 (.int .i64 0) [(0, (.t 61))]) <|
  eo 63 (.app 3 1 8 (.t 60) (.t 62)) <|
  .prune [58, 10, 57, 63, 40, 39, 0, 4, 2] <|
  en (.again 37 true (.t 10) 58) <|
  eo 64 (.call 119 [(.t 57), (.t 58), (.t 63)]) <|
  qo 65 (.nt (.t 64)) <|
  .nil))
  (.prune [65, 40, 39, 0, 4, 2] (.cond (.t 65)
  (.seq (.ops <|
  qo 6 (.mv (B false)) <|
  .nil)
  .ret)
  .skip))))))))))
  (.prune [40, 39, 0, 4, 2] (.ops <|
  qo 66 (.ar .add (.t 40) (I 1)) <|
  qo 40 (.mv (.t 66)) <|
  .nil)))))
def j119_2 : JC :=
  (.prune [] (.seq (.ops <|
  qo 6 (.mv (B true)) <|
  .nil)
  .ret))
def j119 : JC :=
  (.seq (.ops <|
  eo 4 (.box 84 (.t 1)) <|
  qo 6 (.mv (B false)) <|
  .nil)
  (.seq (.seq (.dops <|
  qo 12 (.mv (.t 0)) <|
  qo 13 (.nck (.t 12)) <|
  qo 14 (.fa 1 1 (.t 13)) <|
  eo 15 (.load 1 false (.t 14)) <|
  eo 16 (.load 37 true (.t 4)) <|
  eo 17 (.mop (.get (.st [(.st [(.arr 8 1 (.int .i64)), (.arr 4 1 (.int .i64)), (.arr 6 1 (.int .i64)), .bool, .bool]), (.arr 6 1 (.int .i64)), (.arr 6 1 .bool), (.arr 5 1 (.int .i64))]) (.st []) (.agg []) true) [(.t 15), (.t 16)]) <|
  qo 11 (.mv (.t 17)) <|
  qo 18 (.ext 0 (.t 11)) <|
  qo 19 (.ext 1 (.t 11)) <|
  eo 7 (.alloc 106 (.agg [])) <|
  en (.again 1 false (.t 14) 15) <|
  .prune [16, 4, 17, 15, 7, 18, 19, 0, 2] <|
  en (.again 37 true (.t 4) 16) <|
  en (.magain (.get (.st [(.st [(.arr 8 1 (.int .i64)), (.arr 4 1 (.int .i64)), (.arr 6 1 (.int .i64)), .bool, .bool]), (.arr 6 1 (.int .i64)), (.arr 6 1 .bool), (.arr 5 1 (.int .i64))]) (.st []) (.agg []) true) [(.t 15), (.t 16)] 17) <|
  en (.store 0 (.t 7) (.t 18)) <|
  qo 8 (.mv (.t 19)) <|
  .nil)
  (.prune [8, 0, 4, 2] (.seq (.ops <|
  qo 20 (.mv (.t 8)) <|
  .nil)
  (.cond (.t 20)
  (.seq (.ops <|
  qo 6 (.mv (B true)) <|
  .nil)
  .ret)
  .skip))))
  (.prune [0, 4, 2] (.seq (.dops <|
  qo 21 (.mv (.t 0)) <|
  qo 22 (.nck (.t 21)) <|
  qo 23 (.fa 1 1 (.t 22)) <|
  eo 24 (.load 1 false (.t 23)) <|
  .prune [4, 24, 0, 2] <|
  eo 25 (.load 37 true (.t 4)) <|
  qo 26 (.bld (.agg []) []) <|
  en (.mop (.put (.st [(.st [(.arr 8 1 (.int .i64)), (.arr 4 1 (.int .i64)), (.arr 6 1 (.int .i64)), .bool, .bool]), (.arr 6 1 (.int .i64)), (.arr 6 1 .bool), (.arr 5 1 (.int .i64))]) (.st [])) [(.t 24), (.t 25), (.t 26)]) <|
  .nil)
  (.prune [0, 4, 2] (.seq (.seq (.dops <|
  qo 27 (.mv (.t 0)) <|
  qo 28 (.nck (.t 27)) <|
  qo 29 (.fa 2 2 (.t 28)) <|
  eo 30 (.load 1 false (.t 29)) <|
  .prune [4, 2, 30, 0] <|
  eo 31 (.load 37 true (.t 4)) <|
  qo 32 (.mv (.t 2)) <|
  eo 33 (.callv (.t 30) [(.t 31), (.t 32)]) <|
  qo 34 (.nt (.t 33)) <|
  .nil)
  (.prune [34, 0, 4, 2] (.cond (.t 34)
  (.seq (.ops <|
  qo 6 (.mv (B false)) <|
  .nil)
  .ret)
  .skip)))
  (.prune [0, 4, 2] (.seq (.seq (.ops <|
  qo 35 (.mv (.t 0)) <|
  qo 36 (.nck (.t 35)) <|
  qo 37 (.fa 0 0 (.t 36)) <|
  eo 38 (.load 1 false (.t 37)) <|
  qo 39 (.len (.t 38)) <|
  qo 40 (.mv (I 0)) <|
  .nil)
  (.block 0 (.loop [39, 0, 4, 2] [40] j119_1)))
  j119_2))))))))
theorem c119 : fnIs Try.prog (quiet2 (qbut [86, 119])) 119 = some (j119.flat, [.tmp 6], 67) := by kernel_rfl
theorem w119 : j119.wf 67 = true := by kernel_rfl
def Gfn (p : List (List PO)) (n : Nat) (f : FuncId) (a : List SV) (m : List Res) : Sx.Call := (FH.on 75 (Hvs p) <|
  FH.mt 44 84 dSta (.two dProg .int) (.one .bool) (fun s y => Fit y.1 s.at' ∧ progC badP y.1 = 0) (fun s y => canF s y.1 y.2.1) (fun s _ => s) <|
  FH.mt 45 84 dSta (.two dProg .int) (.two dEv .bool) (fun s y => Fit y.1 s.at' ∧ progC badP y.1 = 0 ∧ canF s y.1 y.2.1 = true) (fun s y => match nextF s y.1 y.2.1 with
    | none => (⟨0, 0, 0⟩, false)
    | some (l, i) => (evE (evK s y.1 y.2.1.toNat (l.getD i dOp.dft)) y.2.1.toNat (l.getD i dOp.dft), !decide (evK s y.1 y.2.1.toNat (l.getD i dOp.dft) = 0))) (fun s y => pickS y.1 s y.2.1) <|
  FH.mk 86 (.one dBe) (fun y => (y.1.getD []).length ≤ 1000000) (fun y => .vec 0 (y.1.getD []).length) (fun y => [.vec 3 1 ((y.1.getD []).map DT.int.emb)]) <|
  FH.on 119 (Hfn p n) FH.none) f a m
theorem Gfn_eq (p : List (List PO)) (n : Nat) (f : FuncId) (a : List SV) (m : List Res) : Gfn p n f a m = (FH.on 75 (Hvs p) <|
  FH.mt 44 84 dSta (.two dProg .int) (.one .bool) (fun s y => Fit y.1 s.at' ∧ progC badP y.1 = 0) (fun s y => canF s y.1 y.2.1) (fun s _ => s) <|
  FH.mt 45 84 dSta (.two dProg .int) (.two dEv .bool) (fun s y => Fit y.1 s.at' ∧ progC badP y.1 = 0 ∧ canF s y.1 y.2.1 = true) (fun s y => match nextF s y.1 y.2.1 with
    | none => (⟨0, 0, 0⟩, false)
    | some (l, i) => (evE (evK s y.1 y.2.1.toNat (l.getD i dOp.dft)) y.2.1.toNat (l.getD i dOp.dft), !decide (evK s y.1 y.2.1.toNat (l.getD i dOp.dft) = 0))) (fun s y => pickS y.1 s y.2.1) <|
  FH.mk 86 (.one dBe) (fun y => (y.1.getD []).length ≤ 1000000) (fun y => .vec 0 (y.1.getD []).length) (fun y => [.vec 3 1 ((y.1.getD []).map DT.int.emb)]) <|
  FH.on 119 (Hfn p n) FH.none) f a m := nr rfl
theorem Gfn_ok {p : List (List PO)} {n : Nat} (h : SpecN p n) : FHOK Try.prog (Gfn p n) :=
  FH.on_ok (Hvs_ok p) <| FH.mt_ok (by kernel_rfl) (fun s y h => f_Can s y.1 y.2.1 h.1 h.2) <| FH.mt_ok (by kernel_rfl) (fun s y h => by
      obtain ⟨p, t, u⟩ := y
      obtain ⟨h1, h2, h3⟩ := h
      simp only at h1 h2 h3
      obtain ⟨l, i, hx⟩ := can_some h3
      obtain ⟨n, rfl, _⟩ := next_some h1 hx
      have := f_Step s p n l i h1 h2 hx
      have e : pickS p s n = stF s p n (l.getD i dOp.dft) := by rw [pickS, hx]; simp only [h3, if_true, Int.toNat_natCast]
      simp only [hx, Int.toNat_natCast, e]
      exact this) <|
  FH.mk_ok (by kernel_rfl) (fun y _ => plainM (pv_vec _ _) ⟨plR_vec _ _ DT.int _, trivial⟩) (fun y hy => by
      obtain ⟨y, u⟩ := y
      cases y with
      | none => exact f_CloneNil
      | some l => exact f_CloneInt l hy) <| FH.on_ok (Hfn_ok h) FH.none_ok
theorem f_fromN {p : List (List PO)} : ∀ n : Nat, SpecN p n
  | 0, s, pk, st, h, _ => by
    have h1 := sum_le h.fit p.length (Nat.le_refl _)
    rw [List.take_length] at h1
    have h2 := h.fuel
    rw [sumAt] at h2
    omega
  | n + 1, s, pk, st, h, hl => by
    have G_ok := Gfn_ok (p := p) (n := n) (f_fromN n)
    have hf := setG_find s st.1
    have hq := setG_put s st.1
    rw [sta_emb] at hf hq
    have h7 : 0 < 7 ^ n := Nat.pow_pos (by decide)
    rw [Nat.pow_succ] at hl
    by_cases hs : st.1.any (samS s) = true
    · rw [if_pos hs] at hf
      have e1 : fromN p (n + 1) s st = st := by rw [fromN, if_pos hs]
      have w0 : FnOK Try.prog 119 [.ptr 0 [] 0, dSta.emb s, dBe.emb pk] (mS p st) (.bool true) (mS p st) := by
        unfold mS
        refine fn_walkF c119 w119 G_ok rfl ?_
        unfold j119
        simp only [go_sem, ↓reduceIte, Nat.reduceAdd, Nat.reduceMul, Nat.reduceSub, Nat.reduceLT, Nat.reduceLeDiff, Nat.reduceEqDiff, Int.reduceToNat, Int.reduceEq, Int.reduceLT, Int.reduceLE, reduceCtorEq, Gfn_eq, hf, cN, Option.getD_some, Option.getD_none, Option.isSome_some, Option.isSome_none, List.range_zero, List.nil_append, List.map_nil, List.set_cons_succ, List.set_cons_zero, selM, selI_eq, selJ, List.map_cons, List.take_succ_cons, List.take_zero, memAt, List.getD_cons_zero, List.getD_cons_succ]
      have w1 := w0.moveV (k := 4) (T := 28) (wd := 20) (l := st.2.map dEn.emb) rfl
      rw [mS_move] at w1
      rw [e1]
      exact w1
    · rw [if_neg hs] at hf
      have hq := hq (by simpa using hs)
      have hlen : st.2.length ≤ 100000000000 := by omega
      unfold mS mS5
      refine fn_walkV [7] c119 w119 G_ok rfl ?_
      unfold j119
      simp only [go_sem, ↓reduceIte, Nat.reduceAdd, Nat.reduceMul, Nat.reduceSub, Nat.reduceLT, Nat.reduceLeDiff, Nat.reduceEqDiff, Int.reduceToNat, Int.reduceEq, Int.reduceLT, Int.reduceLE, reduceCtorEq, Gfn_eq, Hvs_at, Hfn_at, hf, hq, cN, setN, decL_map, hlen, Option.getD_some, Option.getD_none, Option.isSome_some, Option.isSome_none, List.range_zero, List.nil_append, List.map_nil, List.set_cons_succ, List.set_cons_zero, selM, selI_eq, selJ, List.map_cons, List.take_succ_cons, List.take_zero, memAt, List.getD_cons_zero, List.getD_cons_succ]
      refine ⟨⟨h.fit, h.prog⟩, ?_⟩
      have hn6 := h.fit.n
      have e1 : fromN p (n + 1) s st = wtN p n s st p.length := by rw [fromN, if_neg hs]; rfl
      rw [e1]
      refine loopF Nat (fun t => [.int .i64 t]) (fun t => [.blk 198 (cN p 1 2 3), .mp esSt (.st []) (setG (wtN p n s st t).1), .blk 22 (dProg.emb p), .blk 62 (.vec 7 (wtN p n s st t).2.length), .dead, .blk 84 (dSta.emb s), .blk 106 (.agg []), .vec 28 20 ((wtN p n s st t).2.map dEn.emb)]) (fun t => t ≤ p.length) (fun t => p.length - t) 0 (by omega) ?_ ?_ ?_
      · simp only [go_sem, ↓reduceIte, Nat.reduceAdd, Nat.reduceMul, Nat.reduceSub, Nat.reduceLT, Nat.reduceLeDiff, Nat.reduceEqDiff, Int.reduceToNat, Int.reduceEq, Int.reduceLT, Int.reduceLE, reduceCtorEq]
      · rfl
      intro t ht
      have hwl := wtN_len hn6 n s st (k := t) (by omega)
      by_cases qt : t < p.length
      · have qt' : (t : Int) < p.length := by omega
        have hsu := wtN_succ (p := p) (n := n) (s := s) (st := st) t
        cases hcan : canF s p t with
        | false =>
          rw [hcan, if_neg (by decide)] at hsu
          unfold j119_1
          simp only [go_sem, ↓reduceIte, Nat.reduceAdd, Nat.reduceMul, Nat.reduceSub, Nat.reduceLT, Nat.reduceLeDiff, Nat.reduceEqDiff, Int.reduceToNat, Int.reduceEq, Int.reduceLT, Int.reduceLE, reduceCtorEq, Gfn_eq, cN, qt', hcan, List.range_zero, List.nil_append, List.map_nil, List.set_cons_succ, List.set_cons_zero, selM, selI_eq, selJ, List.map_cons, List.take_succ_cons, List.take_zero, memAt, List.getD_cons_zero, List.getD_cons_succ]
          exact ⟨⟨h.fit, h.prog⟩, t + 1, qt, by omega, IntWalk.i64_in _ (by omega), by rw [hsu]⟩
        | true =>
          rw [hcan, if_pos rfl] at hsu
          have hP := h.next hcan qt
          have hl2 : (wtN p n s st t).2.length + 7 ^ n ≤ 100000000000 := by
            have : t * 7 ^ n ≤ 5 * 7 ^ n := Nat.mul_le_mul_right _ (by omega)
            omega
          unfold j119_1
          simp only [go_sem, ↓reduceIte, Nat.reduceAdd, Nat.reduceMul, Nat.reduceSub, Nat.reduceLT, Nat.reduceLeDiff, Nat.reduceEqDiff, Int.reduceToNat, Int.reduceEq, Int.reduceLT, Int.reduceLE, reduceCtorEq, Gfn_eq, Hfn_at, setQ, cN, qt', hcan, decG_set, decL_map, hl2, List.range_zero, List.nil_append, List.map_nil, List.set_cons_succ, List.set_cons_zero, selM, selI_eq, selJ, List.map_cons, List.take_succ_cons, List.take_zero, memAt, List.getD_cons_zero, List.getD_cons_succ]
          have hlp := h.pk
          exact ⟨⟨h.fit, h.prog⟩, ⟨h.fit, h.prog⟩, by omega, by omega, ⟨by simp, hP⟩, t + 1, qt, by omega, IntWalk.i64_in _ (by omega), by rw [hsu]⟩
      · have qt' : ¬ (t : Int) < p.length := by omega
        obtain rfl : t = p.length := by omega
        unfold j119_1
        simp only [go_sem, ↓reduceIte, Nat.reduceAdd, Nat.reduceMul, Nat.reduceSub, Nat.reduceLT, Nat.reduceLeDiff, Nat.reduceEqDiff, Int.reduceToNat, Int.reduceEq, Int.reduceLT, Int.reduceLE, reduceCtorEq, Gfn_eq, qt', cN, List.range_zero, List.nil_append, List.map_nil, List.set_cons_succ, List.set_cons_zero, selM, selI_eq, selJ, List.map_cons, List.take_succ_cons, List.take_zero, memAt, List.getD_cons_zero, List.getD_cons_succ]
        unfold j119_2
        simp only [go_sem, ↓reduceIte, Nat.reduceAdd, Nat.reduceMul, Nat.reduceSub, Nat.reduceLT, Nat.reduceLeDiff, Nat.reduceEqDiff, Int.reduceToNat, Int.reduceEq, Int.reduceLT, Int.reduceLE, reduceCtorEq, Gfn_eq, cN, List.range_zero, List.nil_append, List.map_nil, List.set_cons_succ, List.set_cons_zero, selM, selI_eq, selJ, List.map_cons, List.take_succ_cons, List.take_zero, memAt, List.getD_cons_zero, List.getD_cons_succ]
end Go.Proofs.Ytgcbhanfhnianaa.EvM
