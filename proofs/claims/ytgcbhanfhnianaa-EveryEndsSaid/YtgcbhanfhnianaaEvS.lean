/- The reference's ends: its walk over all runs with the closure that notes an end, and what is sorted in. Conditions: none. -/
import Derived.Test.YtgcbhanfhnianaaEvO
set_option linter.unusedSimpArgs false
set_option linter.unusedVariables false
set_option maxRecDepth 100000
open Go Go.Sx Go.Proofs
namespace Go.Proofs.Ytgcbhanfhnianaa.Ev
open Go.Proofs.Ytgcbhanfhnianaa.D Go.Proofs.Ytgcbhanfhnianaa.Pg Go.Proofs.Ytgcbhanfhnianaa.Tr Go.Proofs.Ytgcbhanfhnianaa.Rn Go.Proofs.Ytgcbhanfhnianaa.Cp Go.Proofs.Ytgcbhanfhnianaa.Rc

def j80 : JC :=
  (.seq (.ops <|
  eo 2 (.box 91 (.t 0)) <|
  qo 3 (.mv (B false)) <|
  .nil)
  (.seq (.seq (.ops <|
  eo 5 (.load 29 true (.t 2)) <|
  eo 6 (.call 50 [(.t 5)]) <|
  eo 4 (.alloc 28 (.agg [(.arr 8 1 fun _ => (.int .i64 0)), (.arr 4 1 fun _ => (.int .i64 0)), (.arr 6 1 fun _ => (.int .i64 0)), (.bool false), (.bool false)])) <|
  en (.store 20 (.t 4) (.t 6)) <|
  .nil)
  (.seq (.ops <|
  qo 7 (.fa 3 18 (.t 4)) <|
  .prune [7, 4, 1] <|
  eo 8 (.load 1 false (.t 7)) <|
  qo 9 (.mv (.t 8)) <|
  .sc true 12 9 (qo 10 (.fa 4 19 (.t 4)) <|
  eo 11 (.load 1 false (.t 10)) <|
  .nil) (.t 11) <|
  .nil)
  (.prune [12, 1, 4] (.cond (.t 12)
  (.ops <|
  eo 13 (.load 1 false (.t 1)) <|
  eo 14 (.load 20 true (.t 4)) <|
  en (.mop (.put (.st [(.arr 8 1 (.int .i64)), (.arr 4 1 (.int .i64)), (.arr 6 1 (.int .i64)), .bool, .bool]) .bool) [(.t 13), (.t 14), (B true)]) <|
  .nil)
  .skip))))
  (.prune [] (.seq (.ops <|
  qo 3 (.mv (B true)) <|
  .nil)
  .ret))))
theorem c80 : fnIs Try.prog qall 80 = some (j80.flat, [.tmp 3], 15) := by kernel_rfl
theorem w80 : j80.wf 15 = true := by kernel_rfl
def setE (l : List En) : List (SV × SV) := l.map fun e => (dEn.emb e, .bool true)
def decE (L : List (SV × SV)) : List En := L.map fun q => dEn.decV [] q.1
theorem decE_set (l : List En) : decE (setE l) = l := by
  unfold decE setE
  rw [List.map_map]
  conv => rhs; rw [← List.map_id l]
  exact List.map_congr_left fun y _ => dEn.vE _ _
def insE : List En → En → List En
  | [], e => [e]
  | t :: l, e => if sameE e t = true then e :: l else t :: insE l e
theorem setE_put (e : En) : ∀ l : List En, mpPut esEn (dEn.emb e) (.bool true) (setE l) = setE (insE l e)
  | [] => rfl
  | t :: l => by
    show (if sameE e t = true then _ else _ :: mpPut esEn (dEn.emb e) (.bool true) (setE l)) = _
    rw [setE_put e l, insE]
    split <;> rfl
def seeE (g : Pg) (l : List En) : List En := if ((endG g).done || (endG g).stuck) = true then insE l (endG g) else l
def mE (l : List En) : List Res := [.blk 141 (.map 1), .mp esEn .bool (setE l)]
theorem f_VisE (g : Pg) (l : List En) (h : Fit g.p g.at') (hp : progC badP g.p = 0) : FnOK Try.prog 80 [dPg.emb g, .ptr 0 [] 0] (mE l) (.bool true) (mE (seeE g l)) := by
  unfold mE
  refine fn_walkF c80 w80 Gvg_ok rfl ?_
  unfold j80
  have hq := setE_put (endG g) l
  rw [en_emb] at hq
  simp only [go_sem, ↓reduceIte, Nat.reduceAdd, Nat.reduceMul, Nat.reduceSub, Nat.reduceLT, Nat.reduceLeDiff, Nat.reduceEqDiff, Int.reduceToNat, Int.reduceEq, Int.reduceLT, Int.reduceLE, reduceCtorEq, Gvg_eq, hq, List.range_zero, List.nil_append, List.map_nil, List.set_cons_succ, List.set_cons_zero, selM, selI_eq, selJ, List.map_cons, List.take_succ_cons, List.take_zero, memAt, List.getD_cons_zero, List.getD_cons_succ]
  refine ⟨⟨h, hp⟩, fun hh => ?_, fun hh => ?_⟩
  · rw [seeE, if_pos hh]
  · rw [seeE, if_neg (by rw [hh]; decide)]
def setW (a b : Nat) (m : List Res) (l : List En) : List Res := (m.set a (.blk 141 (.map b))).set b (.mp esEn .bool (setE l))
theorem mE_call {f : FuncId} {args0 args : List SV} {l l' : List En} {res : SV} (hr : ∀ r, ren r res = res) (h : FnOK Try.prog f args0 (mE l) res (mE l')) {m : List Res} {a b : Nat} (hnd : nd [a, b]) (ha : renL (selI [a, b]) args = args0)
    (h1 : memAt m a = .blk 141 (.map b)) (h2 : memAt m b = .mp esEn .bool (setE l)) : CallStep Try.prog f args m res (setW a b m l') := by
  have hn := nd_ok hnd
  have s1 : selI [a, b] b = some 1 := sel_nth hn rfl
  have key := call_of_fn (args := args) (m := m) h [a, b] hn (by simp [h1, h2, Res.isBlk]) ha
    (by simp only [selM, List.map_cons, List.map_nil, h1, h2, renR, Sx.ren, renI, s1, mE]) (by simp [mE]) (by
      intro k hk
      simp only [List.length_cons, List.length_nil] at hk
      match k, hk with
      | 0, _ => rfl
      | 1, _ => rfl)
  have hmm : mergeM [a, b] m (mE l') = setW a b m l' := by simp [mergeM, memAt, renR, mE, setW, Sx.ren, renI, backI]
  rw [hmm, hr] at key
  exact key
def Hve (args : List SV) (m : List Res) : Sx.Call := match args with
  | [x, .ptr a pa oa] => match memAt m a with
    | .blk Ta (.map b) => match memAt m b with
      | .mp ek ev L => .is (nd [a, b] ∧ (pa = [] ∧ oa = 0 ∧ Ta = 141) ∧ (ek = esEn ∧ ev = .bool ∧ setE (decE L) = L) ∧ dPg.emb (dPg.decV [] x) = x ∧ Fit (dPg.decV [] x).p (dPg.decV [] x).at' ∧ progC badP (dPg.decV [] x).p = 0) (.bool true) (setW a b m (seeE (dPg.decV [] x) (decE L)))
      | _ => .no
    | _ => .no
  | _ => .no
theorem Hve_at (x : SV) (a : Nat) (pa : List Step) (oa : Nat) (m : List Res) : Hve [x, .ptr a pa oa] m = (match memAt m a with
    | .blk Ta (.map b) => match memAt m b with
      | .mp ek ev L => .is (nd [a, b] ∧ (pa = [] ∧ oa = 0 ∧ Ta = 141) ∧ (ek = esEn ∧ ev = .bool ∧ setE (decE L) = L) ∧ dPg.emb (dPg.decV [] x) = x ∧ Fit (dPg.decV [] x).p (dPg.decV [] x).at' ∧ progC badP (dPg.decV [] x).p = 0) (.bool true) (setW a b m (seeE (dPg.decV [] x) (decE L)))
      | _ => .no
    | _ => .no) := nr rfl
theorem Hve_ok (args : List SV) (m : List Res) : (Hve args m).OK Try.prog 80 args m := by
  unfold Hve
  split
  · rename_i x a pa oa
    split
    · rename_i Ta b ha
      split
      · rename_i ek ev L hb
        rintro ⟨hnd, ⟨rfl, rfl, rfl⟩, ⟨rfl, rfl, hL⟩, h5, h6, h7⟩
        refine ⟨by kernel_rfl, ?_⟩
        generalize hs : dPg.decV [] x = g at h5 h6 h7 ⊢
        generalize hG : decE L = l at hL ⊢
        subst h5; subst hL
        have hn := nd_ok hnd
        have s0 : selI [a, b] a = some 0 := sel_nth hn rfl
        exact mE_call (fun _ => by simp only [Sx.ren]) (f_VisE g l h6 h7) hnd (by simp only [renL, dPg.ren, Sx.ren, renI, s0]) ha hb
      · trivial
    · trivial
  · trivial
def walkE (p : List (List PO)) : Nat → Pg → List En → List En
  | 0, _, l => l
  | f + 1, g, l => (List.range p.length).foldl (fun (r : List En) (t : Nat) => if canG g t = true then walkE p f (Rn.stepG g t (opG g t)) r else r) (seeE g l)
def wtE (p : List (List PO)) (n : Nat) (g : Pg) (l : List En) (k : Nat) : List En :=
  (List.range k).foldl (fun (r : List En) (t : Nat) => if canG g t = true then walkE p n (Rn.stepG g t (opG g t)) r else r) (seeE g l)
theorem wtE_succ {p : List (List PO)} {n : Nat} {g : Pg} {l : List En} (k : Nat) : wtE p n g l (k + 1) = if canG g k = true then walkE p n (Rn.stepG g k (opG g k)) (wtE p n g l k) else wtE p n g l k := by
  rw [wtE, List.range_succ, List.foldl_append]; rfl
def Hwe (p : List (List PO)) (n : Nat) (args : List SV) (m : List Res) : Sx.Call := match args with
  | [x, .fn g0 [.ptr a pa oa]] => match memAt m a with
    | .blk Ta (.map b) => match memAt m b with
      | .mp ek ev L => .is (nd [a, b] ∧ g0 = 80 ∧ (pa = [] ∧ oa = 0 ∧ Ta = 141) ∧ (ek = esEn ∧ ev = .bool ∧ setE (decE L) = L) ∧ dPg.emb (dPg.decV [] x) = x ∧ ∃ ks, GOK p ks (dPg.decV [] x) ∧ manyL p < ks.length + n) (.bool true) (setW a b m (walkE p n (dPg.decV [] x) (decE L)))
      | _ => .no
    | _ => .no
  | _ => .no
theorem Hwe_at (p : List (List PO)) (n : Nat) (x : SV) (g0 a : Nat) (pa : List Step) (oa : Nat) (m : List Res) : Hwe p n [x, .fn g0 [.ptr a pa oa]] m = (match memAt m a with
    | .blk Ta (.map b) => match memAt m b with
      | .mp ek ev L => .is (nd [a, b] ∧ g0 = 80 ∧ (pa = [] ∧ oa = 0 ∧ Ta = 141) ∧ (ek = esEn ∧ ev = .bool ∧ setE (decE L) = L) ∧ dPg.emb (dPg.decV [] x) = x ∧ ∃ ks, GOK p ks (dPg.decV [] x) ∧ manyL p < ks.length + n) (.bool true) (setW a b m (walkE p n (dPg.decV [] x) (decE L)))
      | _ => .no
    | _ => .no) := nr rfl
theorem Hwe_ok {p : List (List PO)} {n : Nat} (h : ∀ g ks l, GOK p ks g → manyL p < ks.length + n → FnOK Try.prog 79 [dPg.emb g, .fn 80 [.ptr 0 [] 0]] (mE l) (.bool true) (mE (walkE p n g l)))
    (args : List SV) (m : List Res) : (Hwe p n args m).OK Try.prog 79 args m := by
  unfold Hwe
  split
  · rename_i x g0 a pa oa
    split
    · rename_i Ta b ha
      split
      · rename_i ek ev L hb
        rintro ⟨hnd, rfl, ⟨rfl, rfl, rfl⟩, ⟨rfl, rfl, hL⟩, h5, ks, h6, h7⟩
        refine ⟨by kernel_rfl, ?_⟩
        generalize hs : dPg.decV [] x = g at h5 h6 ⊢
        generalize hG : decE L = l at hL ⊢
        subst h5; subst hL
        have hn := nd_ok hnd
        have s0 : selI [a, b] a = some 0 := sel_nth hn rfl
        exact mE_call (fun _ => by simp only [Sx.ren]) (h g ks l h6 h7) hnd (by simp only [renL, dPg.ren, Sx.ren, renI, s0]) ha hb
      · trivial
    · trivial
  · trivial
def Gwe (p : List (List PO)) (n : Nat) (f : FuncId) (a : List SV) (m : List Res) : Sx.Call := (FH.on 80 Hve <|
  FH.rd 48 (.two dPg .int) (.one .bool) (fun y => Fit y.1.p y.1.at' ∧ progC badP y.1.p = 0) (fun y => canG y.1 y.2.1) <|
  FH.pz 49 (.two dPg .int) (DP.one dPg) (fun y => Fit y.1.p y.1.at' ∧ progC badP y.1.p = 0 ∧ 0 ≤ y.2.1 ∧ canG y.1 y.2.1 = true ∧ (gl y.1).length ≤ 1000 ∧ (gt y.1).length ≤ 1000) (fun y => Rn.stepG y.1 y.2.1.toNat (opG y.1 y.2.1)) <|
  FH.on 79 (Hwe p n) FH.none) f a m
theorem Gwe_eq (p : List (List PO)) (n : Nat) (f : FuncId) (a : List SV) (m : List Res) : Gwe p n f a m = (FH.on 80 Hve <|
  FH.rd 48 (.two dPg .int) (.one .bool) (fun y => Fit y.1.p y.1.at' ∧ progC badP y.1.p = 0) (fun y => canG y.1 y.2.1) <|
  FH.pz 49 (.two dPg .int) (DP.one dPg) (fun y => Fit y.1.p y.1.at' ∧ progC badP y.1.p = 0 ∧ 0 ≤ y.2.1 ∧ canG y.1 y.2.1 = true ∧ (gl y.1).length ≤ 1000 ∧ (gt y.1).length ≤ 1000) (fun y => Rn.stepG y.1 y.2.1.toNat (opG y.1 y.2.1)) <|
  FH.on 79 (Hwe p n) FH.none) f a m := nr rfl
theorem f_walkE {p : List (List PO)} (hp : progC badP p = 0) (h10 : manyL p ≤ 10) : ∀ (n : Nat) (g : Pg) (ks : List Int) (l : List En), GOK p ks g → manyL p < ks.length + n →
    FnOK Try.prog 79 [dPg.emb g, .fn 80 [.ptr 0 [] 0]] (mE l) (.bool true) (mE (walkE p n g l))
  | 0, g, ks, l, h, hm => by
    obtain ⟨_, a2, _, _⟩ := h.all hp
    have h1 := sum_le a2 p.length (Nat.le_refl _)
    rw [List.take_length] at h1
    have h2 := h.sum
    rw [sumAt] at h2
    omega
  | n + 1, g, ks, l, h, hm => by
    obtain ⟨a1, a2, a3, a4⟩ := h.all hp
    have hks : ks.length ≤ 10 := by
      have h1 := sum_le a2 p.length (Nat.le_refl _)
      rw [List.take_length] at h1
      have h2 := h.sum
      rw [sumAt] at h2
      omega
    have hl6 : g.p.length ≤ 6 := by rw [a1]; exact a2.n
    have G_ok : FHOK Try.prog (Gwe p n) := FH.on_ok Hve_ok <|
      FH.rd_ok (by kernel_rfl) (fun y h => f_CanG y.1 y.2.1 h.1 h.2) <| FH.pz_ok (by kernel_rfl) (fun y h => by
        obtain ⟨b1, b2, b3, b4, b5, b6⟩ := h
        obtain ⟨k, e, c1, c2, c3⟩ := canG_some b1 b4
        have := f_StepG y.1 k b1 b2 c1 c3 b5 b6
        rw [e, Int.toNat_natCast]
        rw [← e] at this ⊢
        exact this) <|
      FH.on_ok (Hwe_ok fun g ks l h1 h2 => f_walkE hp h10 n g ks l h1 h2) FH.none_ok
    unfold mE
    refine fn_walkF c79 w79 G_ok rfl ?_
    unfold j79
    simp only [go_sem, ↓reduceIte, Nat.reduceAdd, Nat.reduceMul, Nat.reduceSub, Nat.reduceLT, Nat.reduceLeDiff, Nat.reduceEqDiff, Int.reduceToNat, Int.reduceEq, Int.reduceLT, Int.reduceLE, reduceCtorEq, Gwe_eq, Hve_at, Hwe_at, setW, decE_set, List.range_zero, List.nil_append, List.map_nil, List.set_cons_succ, List.set_cons_zero, selM, selI_eq, selJ, List.map_cons, List.take_succ_cons, List.take_zero, memAt, List.getD_cons_zero, List.getD_cons_succ]
    have hfp : Fit g.p g.at' ∧ progC badP g.p = 0 := ⟨by rw [a1]; exact a2, by rw [a1]; exact hp⟩
    refine ⟨hfp, ?_⟩
    have e1 : walkE p (n + 1) g l = wtE p n g l p.length := rfl
    rw [e1]
    refine loopF Nat (fun t => [.int .i64 t]) (fun t => mE (wtE p n g l t) ++ [.blk 91 (dPg.emb g)]) (fun t => t ≤ p.length) (fun t => p.length - t) 0 (by omega) ?_ ?_ ?_
    · simp only [go_sem, ↓reduceIte, Nat.reduceAdd, Nat.reduceMul, Nat.reduceSub, Nat.reduceLT, Nat.reduceLeDiff, Nat.reduceEqDiff, Int.reduceToNat, Int.reduceEq, Int.reduceLT, Int.reduceLE, reduceCtorEq]
    · rfl
    intro t ht
    unfold j79_1
    have hgp : g.p.length = p.length := by rw [a1]
    by_cases qt : t < p.length
    · have qt' : (t : Int) < g.p.length := by omega
      have hsu := wtE_succ (p := p) (n := n) (g := g) (l := l) t
      cases hcan : canG g t with
      | false =>
        rw [hcan, if_neg (by decide)] at hsu
        simp only [go_sem, ↓reduceIte, Nat.reduceAdd, Nat.reduceMul, Nat.reduceSub, Nat.reduceLT, Nat.reduceLeDiff, Nat.reduceEqDiff, Int.reduceToNat, Int.reduceEq, Int.reduceLT, Int.reduceLE, reduceCtorEq, Gwe_eq, Hve_at, Hwe_at, setW, mE, decE_set, qt', hcan, List.range_zero, List.nil_append, List.map_nil, List.set_cons_succ, List.set_cons_zero, selM, selI_eq, selJ, List.map_cons, List.take_succ_cons, List.take_zero, memAt, List.getD_cons_zero, List.getD_cons_succ]
        refine ⟨hfp, rfl, t + 1, qt, by omega, IntWalk.i64_in _ (by omega), by rw [hsu]⟩
      | true =>
        rw [hcan, if_pos rfl] at hsu
        have hst := h.step hp hcan
        have hz := h.z
        simp only [go_sem, ↓reduceIte, Nat.reduceAdd, Nat.reduceMul, Nat.reduceSub, Nat.reduceLT, Nat.reduceLeDiff, Nat.reduceEqDiff, Int.reduceToNat, Int.reduceEq, Int.reduceLT, Int.reduceLE, reduceCtorEq, Gwe_eq, Hve_at, Hwe_at, setW, mE, decE_set, qt', hcan, Int.toNat_natCast, List.range_zero, List.nil_append, List.map_nil, List.set_cons_succ, List.set_cons_zero, selM, selI_eq, selJ, List.map_cons, List.take_succ_cons, List.take_zero, memAt, List.getD_cons_zero, List.getD_cons_succ]
        exact ⟨hfp, ⟨hfp.1, hfp.2, by omega, by omega, by rw [hz]; omega⟩, ⟨_, hst, by rw [List.length_append, List.length_singleton]; omega⟩, t + 1, qt, by omega, IntWalk.i64_in _ (by omega), by rw [hsu]⟩
    · have qt' : ¬ (t : Int) < g.p.length := by omega
      obtain rfl : t = p.length := by omega
      simp only [go_sem, ↓reduceIte, Nat.reduceAdd, Nat.reduceMul, Nat.reduceSub, Nat.reduceLT, Nat.reduceLeDiff, Nat.reduceEqDiff, Int.reduceToNat, Int.reduceEq, Int.reduceLT, Int.reduceLE, reduceCtorEq, Gwe_eq, qt', mE, List.range_zero, List.nil_append, List.map_nil, List.set_cons_succ, List.set_cons_zero, selM, selI_eq, selJ, List.map_cons, List.take_succ_cons, List.take_zero, memAt, List.getD_cons_zero, List.getD_cons_succ]
      unfold j79_2
      simp only [go_sem, ↓reduceIte, Nat.reduceAdd, Nat.reduceMul, Nat.reduceSub, Nat.reduceLT, Nat.reduceLeDiff, Nat.reduceEqDiff, Int.reduceToNat, Int.reduceEq, Int.reduceLT, Int.reduceLE, reduceCtorEq, Gwe_eq, mE, List.range_zero, List.nil_append, List.map_nil, List.set_cons_succ, List.set_cons_zero, selM, selI_eq, selJ, List.map_cons, List.take_succ_cons, List.take_zero, memAt, List.getD_cons_zero, List.getD_cons_succ]
end Go.Proofs.Ytgcbhanfhnianaa.Ev
