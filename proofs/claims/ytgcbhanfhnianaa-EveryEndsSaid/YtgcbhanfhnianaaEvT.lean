/- The reference's ends, sorted in one by one in any order. Conditions: none. -/
import Derived.Test.YtgcbhanfhnianaaEvS
set_option linter.unusedSimpArgs false
set_option linter.unusedVariables false
set_option maxRecDepth 100000
open Go Go.Sx Go.Proofs
namespace Go.Proofs.Ytgcbhanfhnianaa.Ev
open Go.Proofs.Ytgcbhanfhnianaa.D Go.Proofs.Ytgcbhanfhnianaa.Pg Go.Proofs.Ytgcbhanfhnianaa.Tr Go.Proofs.Ytgcbhanfhnianaa.Rn Go.Proofs.Ytgcbhanfhnianaa.Cp Go.Proofs.Ytgcbhanfhnianaa.Rc
theorem lessL_trans : ∀ {X Y Z : List Int} {a b c : Bool}, X.length = Y.length → Y.length = Z.length → lessL X Y (!a && b) = true → lessL Y Z (!b && c) = true → lessL X Z (!a && c) = true
  | [], [], [], a, b, c, _, _, h1, h2 => by cases a <;> cases b <;> cases c <;> simp_all [lessL]
  | x :: X, y :: Y, z :: Z, a, b, c, e1, e2, h1, h2 => by
    rw [lessL] at h1 h2 ⊢
    simp only [List.length_cons, Nat.add_right_cancel_iff] at e1 e2
    by_cases q1 : x = y
    · subst q1
      rw [if_pos rfl] at h1
      by_cases q2 : x = z
      · subst q2
        rw [if_pos rfl] at h2
        rw [if_pos rfl]
        exact lessL_trans e1 e2 h1 h2
      · rw [if_neg q2] at h2 ⊢
        exact h2
    · rw [if_neg q1] at h1
      have h1 := of_decide_eq_true h1
      by_cases q2 : y = z
      · subst q2
        rw [if_neg q1]
        exact decide_eq_true h1
      · rw [if_neg q2] at h2
        have h2 := of_decide_eq_true h2
        rw [if_neg (by omega)]
        exact decide_eq_true (by omega)
  | [], _ :: _, _, _, _, _, e1, _, _, _ => by cases e1
  | _ :: _, [], _, _, _, _, e1, _, _, _ => by cases e1
  | [], [], _ :: _, _, _, _, _, e2, _, _ => by cases e2
  | _ :: _, _ :: _, [], _, _, _, _, e2, _, _ => by cases e2
theorem lessL_irr : ∀ (X : List Int) (a : Bool), lessL X X (!a && a) = false
  | [], a => by cases a <;> rfl
  | x :: X, a => by rw [lessL, if_pos rfl]; exact lessL_irr X a
theorem lessE_trans {x y z : En} (h1 : lessE x y = true) (h2 : lessE y z = true) : lessE x z = true :=
  lessL_trans (by rw [catE_len, catE_len]) (by rw [catE_len, catE_len]) h1 h2
theorem lessE_irr (x : En) : lessE x x = false := lessL_irr _ _
theorem lessE_asymm {x y : En} (h : lessE x y = true) : lessE y x = false := by
  cases hh : lessE y x with
  | false => rfl
  | true => have := lessE_trans h hh; rw [lessE_irr] at this; cases this
abbrev Srt (l : List En) : Prop := l.Pairwise fun x y => lessE x y = true
theorem srt_unique : ∀ {l m : List En}, Srt l → Srt m → (∀ x, x ∈ l ↔ x ∈ m) → l = m
  | [], [], _, _, _ => rfl
  | [], b :: s, _, _, h => absurd ((h b).2 List.mem_cons_self) (by simp)
  | a :: r, [], _, _, h => absurd ((h a).1 List.mem_cons_self) (by simp)
  | a :: r, b :: s, h1, h2, h => by
    obtain ⟨p1, p2⟩ := List.pairwise_cons.1 h1
    obtain ⟨q1, q2⟩ := List.pairwise_cons.1 h2
    have e : a = b := by
      rcases List.mem_cons.1 ((h a).1 List.mem_cons_self) with e | e
      · exact e
      · rcases List.mem_cons.1 ((h b).2 List.mem_cons_self) with e' | e'
        · exact e'.symm
        · have := lessE_asymm (q1 a e)
          rw [p1 b e'] at this; cases this
    subst e
    rw [srt_unique p2 q2 fun x => ?_]
    constructor
    · intro hx
      rcases List.mem_cons.1 ((h x).1 (List.mem_cons_of_mem _ hx)) with e | e
      · subst e; have := p1 x hx; rw [lessE_irr] at this; cases this
      · exact e
    · intro hx
      rcases List.mem_cons.1 ((h x).2 (List.mem_cons_of_mem _ hx)) with e | e
      · subst e; have := q1 x hx; rw [lessE_irr] at this; cases this
      · exact e
theorem srt_ins {l : List En} {e : En} {k : Nat} (hs : Srt l) (hk : k ≤ l.length) (h1 : ∀ j, j < k → lessE (l.getD j dEn.dft) e = true) (h2 : k < l.length → lessE e (l.getD k dEn.dft) = true) : Srt (l.take k ++ e :: l.drop k) := by
  have hs' : Srt (l.take k ++ l.drop k) := by rw [List.take_append_drop]; exact hs
  obtain ⟨a1, a2, a3⟩ := List.pairwise_append.1 hs'
  have b1 : ∀ x ∈ l.take k, lessE x e = true := fun x hx => by
    obtain ⟨j, hj, rfl⟩ := List.getElem_of_mem hx
    have hj' : j < k := by rw [List.length_take] at hj; omega
    have := h1 j hj'
    rw [List.getD, List.getElem?_eq_getElem (by omega)] at this
    rw [List.getElem_take]
    exact this
  have b2 : ∀ x ∈ l.drop k, lessE e x = true := fun x hx => by
    have hkl : k < l.length := by
      rcases Nat.lt_or_ge k l.length with h | h
      · exact h
      · rw [List.drop_eq_nil_of_le h] at hx; cases hx
    have h3 := h2 hkl
    rw [drop_getD dEn.dft hkl] at hx a2
    rcases List.mem_cons.1 hx with rfl | hx
    · exact h3
    · exact lessE_trans h3 ((List.pairwise_cons.1 a2).1 x hx)
  refine List.pairwise_append.2 ⟨a1, List.pairwise_cons.2 ⟨b2, a2⟩, fun x hx y hy => ?_⟩
  rcases List.mem_cons.1 hy with rfl | hy
  · exact b1 x hx
  · exact a3 x hx y hy
def TotE (E : List En) : Prop := E.Nodup ∧ ∀ x ∈ E, ∀ y ∈ E, x ≠ y → lessE x y = true ∨ lessE y x = true
abbrev dEnds : DT (List En) := DT.list 20 dEn
def j33_1 : JC :=
  (.seq (.seq (.dops <|
  qo 18 (.mv (.t 6)) <|
  qo 19 (.mv (.t 4)) <|
  qo 20 (.len (.t 19)) <|
  qo 21 (.cmp .lss (.t 18) (.t 20)) <|
  .prune [21, 4, 6, 5, 13] <|
  qo 22 (.mv (.t 21)) <|
  .sc false 29 22 (qo 23 (.mv (.t 4)) <|
  qo 24 (.mv (.t 6)) <|
  qo 25 (.is 20 (.t 23) (.t 24)) <|
  eo 26 (.load 20 true (.t 25)) <|
  eo 27 (.load 20 true (.t 5)) <|
  eo 28 (.qcall 81 [(.t 26), (.t 27)]) <|
  .nil) (.t 28) <|
  .nil)
  (.cond (.t 29)
  .skip
  (.exit 2)))
  (.prune [6, 4, 5, 13] (.block 3 (.ops <|
  qo 30 (.mv (.t 6)) <|
  qo 31 (.ar .add (.t 30) (I 1)) <|
  qo 6 (.mv (.t 31)) <|
  .nil))))
def j33_2 : JC :=
  (.prune [4, 6, 5, 13] (.pfz 4 dEnds.frz (.dops <|
  qo 32 (.mv (.t 4)) <|
  qo 33 (.mv (.t 6)) <|
  qo 34 (.mv (.t 6)) <|
  qo 35 (.slc 20 (.t 32) none (some (.t 33)) (some (.t 34))) <|
  .prune [5, 4, 6, 35, 13] <|
  eo 36 (.load 20 true (.t 5)) <|
  eo 37 (.bsl 28 20 1 (.agg [(.arr 8 1 fun _ => (.int .i64 0)), (.arr 4 1 fun _ => (.int .i64 0)), (.arr 6 1 fun _ => (.int .i64 0)), (.bool false), (.bool false)]) [(0, (.t 36))]) <|
  qo 38 (.mv (.t 4)) <|
  .prune [6, 38, 37, 35, 13] <|
  qo 39 (.mv (.t 6)) <|
  qo 40 (.slc 20 (.t 38) (some (.t 39)) none none) <|
  .prune [37, 40, 35, 13] <|
  eo 41 (.app 28 20 152 (.t 37) (.t 40)) <|
  eo 42 (.app 28 20 152 (.t 35) (.t 41)) <|
  qo 4 (.mv (.t 42)) <|
  .nil)))
def j33_3 : JC :=
  (.seq (.ops <|
  qo 6 (.mv (I 0)) <|
  .nil)
  (.seq (.block 2 (.loop [4, 5, 13] [6] j33_1))
  j33_2))
def j33 : ZC :=
  (.seq (.leaf (.ops <|
  qo 2 (.mv (.c .nils)) <|
  .nil))
  (.seq (.leaf (.ops <|
  eo 7 (.mop (.make (.st [(.arr 8 1 (.int .i64)), (.arr 4 1 (.int .i64)), (.arr 6 1 (.int .i64)), .bool, .bool]) .bool) []) <|
  eo 3 (.alloc 141 .nilm) <|
  en (.store 1 (.t 3) (.t 7)) <|
  .nil))
  (.seq (.leaf (.ops <|
  qo 8 (.mv (.t 0)) <|
  qo 9 (.bld (.agg [.nils, (.arr 6 1 fun _ => (.int .i64 0)), .nils, (.agg [(.arr 8 1 fun _ => (.int .i64 0)), (.arr 4 1 fun _ => (.int .i64 0)), (.arr 6 1 fun _ => (.int .i64 0)), (.bool false), (.bool false)]), .nils]) [([.fld 0], 0, 1, (.t 8))]) <|
  qo 10 (.mkfn 80 [(.t 3)]) <|
  eo 11 (.call 79 [(.t 9), (.t 10)]) <|
  .nil))
  (.seq (.leaf (.pfz 4 dEnds.frz (.ops <|
  qo 4 (.mv (.c .nils)) <|
  .nil)))
  (.seq (.rmap (eo 12 (.load 1 false (.t 3)) <|
  .nil) (.t 12) 13 0 14 15 1 16 (
  qo 17 (.ext 0 (.t 16)) <|
  eo 5 (.alloc 28 (.agg [(.arr 8 1 fun _ => (.int .i64 0)), (.arr 4 1 fun _ => (.int .i64 0)), (.arr 6 1 fun _ => (.int .i64 0)), (.bool false), (.bool false)])) <|
  en (.store 20 (.t 5) (.t 17)) <|
  .nil) [] [4] j33_3)
  (.prune [4] (.leaf (.seq (.ops <|
  qo 43 (.mv (.t 4)) <|
  qo 2 (.mv (.t 43)) <|
  .nil)
  .ret))))))))
theorem c33 : fnZ Try.prog qall 33 j33 = some (j33.flat, [.tmp 2], 44) := by kernel_rfl
theorem w33 : j33.wf 44 = true := by kernel_rfl
def Gse (p : List (List PO)) (f : FuncId) (a : List SV) (m : List Res) : Sx.Call := (FH.rd 81 (.two dEn dEn) (.one .bool) (fun _ => True) (fun y => lessE y.1 y.2.1) <| FH.on 79 (Hwe p 12) FH.none) f a m
theorem Gse_eq (p : List (List PO)) (f : FuncId) (a : List SV) (m : List Res) : Gse p f a m = (FH.rd 81 (.two dEn dEn) (.one .bool) (fun _ => True) (fun y => lessE y.1 y.2.1) <| FH.on 79 (Hwe p 12) FH.none) f a m := nr rfl
def endsH (p : List (List PO)) : List En := walkE p 12 (firstG p) []
theorem setE_at {E : List En} {q : Nat} (h : q < E.length) : (setE E).getD q (.junk, .junk) = (dEn.emb (E.getD q dEn.dft), .bool true) := by
  simp [setE, List.getD, h]
theorem setE_len (E : List En) : (setE E).length = E.length := List.length_map _
theorem nodup_lt : ∀ (n : Nat) (ds : List Nat), ds.Nodup → (∀ d, d ∈ ds → d < n) → ds.length ≤ n
  | 0, [], _, _ => Nat.le_refl _
  | 0, d :: _, _, h => absurd (h d List.mem_cons_self) (Nat.not_lt_zero _)
  | n + 1, ds, hn, h => by
    have h1 := nodup_lt n (ds.erase n) (hn.erase n) fun d hd => by
      have a := h d (List.mem_of_mem_erase hd)
      have b : d ≠ n := fun e => by subst e; exact (hn.not_mem_erase) hd
      omega
    have h2 := List.length_erase (a := n) (l := ds)
    split at h2 <;> omega
theorem foldl_len {α : Type} {f : List α → Nat → List α} {B : Nat} (h : ∀ l t, (f l t).length ≤ l.length + B) : ∀ (ts : List Nat) (l : List α), (ts.foldl f l).length ≤ l.length + ts.length * B
  | [], l => by simp
  | t :: ts, l => by
    have h1 := foldl_len h ts (f l t)
    have h2 := h l t
    rw [List.foldl_cons, List.length_cons, Nat.succ_mul]
    omega
theorem insE_len : ∀ (l : List En) (e : En), (insE l e).length ≤ l.length + 1
  | [], e => by simp [insE]
  | t :: l, e => by
    rw [insE]
    split
    · simp
    · have := insE_len l e
      simp only [List.length_cons]; omega
theorem seeE_len (g : Pg) (l : List En) : (seeE g l).length ≤ l.length + 1 := by
  unfold seeE
  split
  · exact insE_len _ _
  · omega
theorem walkE_len {p : List (List PO)} (hp : p.length ≤ 6) : ∀ (n : Nat) (g : Pg) (l : List En), (walkE p n g l).length ≤ l.length + 7 ^ n
  | 0, g, l => by rw [walkE]; omega
  | n + 1, g, l => by
    rw [walkE]
    have h1 := foldl_len (f := fun (r : List En) (t : Nat) => if canG g t = true then walkE p n (Rn.stepG g t (opG g t)) r else r) (B := 7 ^ n) (fun r t => by
      split
      · exact walkE_len hp n _ r
      · exact Nat.le_add_right _ _) (List.range p.length) (seeE g l)
    have h2 := seeE_len g l
    rw [List.length_range] at h1
    have h3 : p.length * 7 ^ n ≤ 6 * 7 ^ n := Nat.mul_le_mul_right _ hp
    have h4 : 0 < 7 ^ n := Nat.pow_pos (by decide)
    rw [Nat.pow_succ]
    omega
theorem endsH_len {p : List (List PO)} (hp : p.length ≤ 6) : (endsH p).length ≤ 13841287201 := by
  have := walkE_len hp 12 (firstG p) []
  simpa [endsH] using this
theorem nodup_at {α : Type} : ∀ {l : List α}, l.Nodup → ∀ {i j : Nat} (hi : i < l.length) (hj : j < l.length), l[i] = l[j] → i = j
  | [], _, i, j, hi, _, _ => absurd hi (Nat.not_lt_zero _)
  | a :: l, h, 0, 0, _, _, _ => rfl
  | a :: l, h, 0, j + 1, _, hj, e => absurd (show a ∈ l by rw [show a = l[j]'(by simpa using hj) from e]; exact List.getElem_mem _) (List.nodup_cons.1 h).1
  | a :: l, h, i + 1, 0, hi, _, e => absurd (show a ∈ l by rw [show a = l[i]'(by simpa using hi) from e.symm]; exact List.getElem_mem _) (List.nodup_cons.1 h).1
  | a :: l, h, i + 1, j + 1, hi, hj, e => by rw [nodup_at (List.nodup_cons.1 h).2 (by simpa using hi) (by simpa using hj) e]
theorem f_REnds {p : List (List PO)} (hp : progC badP p = 0) (h10 : manyL p ≤ 10) (hT : TotE (endsH p)) {R : List En} (hR : Srt R) (hRm : ∀ x, x ∈ R ↔ x ∈ endsH p) : FnOK Try.prog 33 [dProg.emb p] [] (dEnds.emb R) [] := by
  have G_ok : FHOK Try.prog (Gse p) := FH.rd_ok (by kernel_rfl) (fun y _ => f_endLess y.1 y.2.1) <| FH.on_ok (Hwe_ok fun g ks l h1 h2 => f_walkE hp h10 12 g ks l h1 h2) FH.none_ok
  refine fn_walkZ c33 w33 G_ok rfl ?_
  unfold j33
  simp only [go_sem, ↓reduceIte, Nat.reduceAdd, Nat.reduceMul, Nat.reduceSub, Nat.reduceLT, Nat.reduceLeDiff, Nat.reduceEqDiff, Int.reduceToNat, Int.reduceEq, Int.reduceLT, Int.reduceLE, reduceCtorEq, Gse_eq, Hwe_at, setW, decE_set, List.range_zero, List.nil_append, List.map_nil, List.set_cons_succ, List.set_cons_zero, selM, selI_eq, selJ, List.map_cons, List.take_succ_cons, List.take_zero, memAt, List.getD_cons_zero, List.getD_cons_succ]
  have eW : walkE p 12 { p := p, at' := fun i => 0, l := none, en := { mem := fun i => 0, vols := fun i => 0, has := fun i => 0, done := false, stuck := false }, last := none } (decE []) = endsH p := rfl
  rw [eW]
  refine ⟨⟨rfl, [], GOK.first hp, by simp only [List.length_nil]; omega⟩, ?_⟩
  obtain ⟨hnd, htot⟩ := hT
  have hB := endsH_len (p := p) (Fit.n (root_ok hp).fit)
  generalize endsH p = E at hRm hnd htot hB ⊢
  refine rmapF (List En) (fun l => [dEnds.emb l]) (fun _ => [.dead, .blk 141 (.map 0)]) (fun ds l => Srt l ∧ (∀ x, x ∈ l ↔ ∃ d, d ∈ ds ∧ E.getD d dEn.dft = x) ∧ l.length = ds.length) [] ⟨List.Pairwise.nil, fun x => by simp, rfl⟩ ?_ rfl ?_ ?_
  · simp only [go_sem, ↓reduceIte, Nat.reduceAdd, Nat.reduceMul, Nat.reduceSub, Nat.reduceLT, Nat.reduceLeDiff, Nat.reduceEqDiff, Int.reduceToNat, Int.reduceEq, Int.reduceLT, Int.reduceLE, reduceCtorEq]
  · rintro ds l q ⟨h1, h2, h3⟩ hdn hdl hq hqn iv
    rw [setE_len] at hq
    rw [setE_at hq]
    have hlen : ds.length ≤ E.length := nodup_lt E.length ds hdn fun d hd => by have := hdl d hd; rwa [setE_len] at this
    generalize hx : E.getD q dEn.dft = x
    unfold j33_3
    simp only [go_sem, ↓reduceIte, Nat.reduceAdd, Nat.reduceMul, Nat.reduceSub, Nat.reduceLT, Nat.reduceLeDiff, Nat.reduceEqDiff, Int.reduceToNat, Int.reduceEq, Int.reduceLT, Int.reduceLE, reduceCtorEq, Gse_eq, List.range_zero, List.nil_append, List.map_nil, List.set_cons_succ, List.set_cons_zero, selM, selI_eq, selJ, List.map_cons, List.take_succ_cons, List.take_zero, memAt, List.getD_cons_zero, List.getD_cons_succ]
    refine loopF Nat (fun k => [.int .i64 k]) (fun _ => [.dead, .blk 141 (.map 0), .blk 28 (dEn.emb x)]) (fun k => k ≤ l.length ∧ ∀ j, j < k → lessE (l.getD j dEn.dft) x = true) (fun k => l.length - k) 0 ⟨by omega, fun j hj => by omega⟩ ?_ ?_ ?_
    · simp only [go_sem, ↓reduceIte, Nat.reduceAdd, Nat.reduceMul, Nat.reduceSub, Nat.reduceLT, Nat.reduceLeDiff, Nat.reduceEqDiff, Int.reduceToNat, Int.reduceEq, Int.reduceLT, Int.reduceLE, reduceCtorEq]
    · rfl
    rintro k ⟨hk, hless⟩
    have hfin : (k < l.length → lessE x (l.getD k dEn.dft) = true) → Srt (l.take k ++ x :: l.drop k) ∧ (∀ y, y ∈ l.take k ++ x :: l.drop k ↔ ∃ d, d ∈ ds ++ [q] ∧ E.getD d dEn.dft = y) ∧ (l.take k ++ x :: l.drop k).length = (ds ++ [q]).length := by
      intro hgt
      refine ⟨srt_ins h1 hk hless hgt, fun y => ?_, by simp only [List.length_append, List.length_cons, List.length_take, List.length_drop, List.length_nil]; omega⟩
      have hy : y ∈ l.take k ++ x :: l.drop k ↔ y ∈ l ∨ y = x := by
        conv => rhs; rw [← List.take_append_drop k l]
        simp only [List.mem_append, List.mem_cons]
        constructor
        · rintro (a | a | a)
          · exact .inl (.inl a)
          · exact .inr a
          · exact .inl (.inr a)
        · rintro ((a | a) | a)
          · exact .inl a
          · exact .inr (.inr a)
          · exact .inr (.inl a)
      rw [hy, h2]
      constructor
      · rintro (⟨d, hd, e⟩ | e)
        · exact ⟨d, List.mem_append_left _ hd, e⟩
        · exact ⟨q, List.mem_append_right _ List.mem_cons_self, hx.trans e.symm⟩
      · rintro ⟨d, hd, e⟩
        rcases List.mem_append.1 hd with hd | hd
        · exact .inl ⟨d, hd, e⟩
        · rw [List.mem_singleton.1 hd, hx] at e
          exact .inr e.symm
    have hne : ∀ y, y ∈ l → lessE y x = false → lessE x y = true := by
      intro y hy hf
      obtain ⟨d, hd, e⟩ := (h2 y).1 hy
      have hdE : d < E.length := by have := hdl d hd; rwa [setE_len] at this
      have g1 : E.getD d dEn.dft = E[d] := by rw [List.getD, List.getElem?_eq_getElem hdE]; rfl
      have g2 : E.getD q dEn.dft = E[q] := by rw [List.getD, List.getElem?_eq_getElem hq]; rfl
      have hyx : y ≠ x := by
        intro e2
        rw [← e, ← hx, g1, g2] at e2
        have := nodup_at hnd hdE hq e2
        subst this
        exact hqn hd
      rcases htot y (by rw [← e, g1]; exact List.getElem_mem _) x (by rw [← hx, g2]; exact List.getElem_mem _) hyx with h | h
      · rw [h] at hf; cases hf
      · exact h
    by_cases qk : k < l.length
    · have qk' : (k : Int) < l.length := by omega
      cases hcmp : lessE (l.getD k dEn.dft) x with
      | true =>
        unfold j33_1
        simp only [go_sem, ↓reduceIte, Nat.reduceAdd, Nat.reduceMul, Nat.reduceSub, Nat.reduceLT, Nat.reduceLeDiff, Nat.reduceEqDiff, Int.reduceToNat, Int.reduceEq, Int.reduceLT, Int.reduceLE, reduceCtorEq, Gse_eq, qk, qk', hcmp, List.range_zero, List.nil_append, List.map_nil, List.set_cons_succ, List.set_cons_zero, selM, selI_eq, selJ, List.map_cons, List.take_succ_cons, List.take_zero, memAt, List.getD_cons_zero, List.getD_cons_succ]
        refine ⟨by omega, k + 1, ⟨qk, fun j hj => ?_⟩, by omega, IntWalk.i64_in _ (by omega)⟩
        by_cases ej : j = k
        · rw [ej]; exact hcmp
        · exact hless j (by omega)
      | false =>
        have hfin := hfin fun _ => hne _ (by rw [List.getD, List.getElem?_eq_getElem qk]; exact List.getElem_mem _) hcmp
        unfold j33_1
        simp only [go_sem, ↓reduceIte, Nat.reduceAdd, Nat.reduceMul, Nat.reduceSub, Nat.reduceLT, Nat.reduceLeDiff, Nat.reduceEqDiff, Int.reduceToNat, Int.reduceEq, Int.reduceLT, Int.reduceLE, reduceCtorEq, Gse_eq, qk, qk', hcmp, List.range_zero, List.nil_append, List.map_nil, List.set_cons_succ, List.set_cons_zero, selM, selI_eq, selJ, List.map_cons, List.take_succ_cons, List.take_zero, memAt, List.getD_cons_zero, List.getD_cons_succ]
        unfold j33_2
        simp only [go_sem, ↓reduceIte, Nat.reduceAdd, Nat.reduceMul, Nat.reduceSub, Nat.reduceLT, Nat.reduceLeDiff, Nat.reduceEqDiff, Int.reduceToNat, Int.reduceEq, Int.reduceLT, Int.reduceLE, reduceCtorEq, Gse_eq, qk, qk', hcmp, List.range_zero, List.nil_append, List.map_nil, List.set_cons_succ, List.set_cons_zero, selM, selI_eq, selJ, List.map_cons, List.take_succ_cons, List.take_zero, memAt, List.getD_cons_zero, List.getD_cons_succ]
        rw [List.take_length]
        have d1 := List.length_drop (i := k) (l := l)
        have d2 := List.length_take_le k l
        exact ⟨by omega, rfl, by omega, by omega, ⟨by omega, by omega⟩, by omega, ⟨by omega, by omega⟩, by omega, by omega, _, hfin, rfl⟩
    · have qk' : ¬ (k : Int) < l.length := by omega
      have hfin := hfin fun h => absurd h qk
      unfold j33_1
      simp only [go_sem, ↓reduceIte, Nat.reduceAdd, Nat.reduceMul, Nat.reduceSub, Nat.reduceLT, Nat.reduceLeDiff, Nat.reduceEqDiff, Int.reduceToNat, Int.reduceEq, Int.reduceLT, Int.reduceLE, reduceCtorEq, Gse_eq, qk', List.range_zero, List.nil_append, List.map_nil, List.set_cons_succ, List.set_cons_zero, selM, selI_eq, selJ, List.map_cons, List.take_succ_cons, List.take_zero, memAt, List.getD_cons_zero, List.getD_cons_succ]
      unfold j33_2
      simp only [go_sem, ↓reduceIte, Nat.reduceAdd, Nat.reduceMul, Nat.reduceSub, Nat.reduceLT, Nat.reduceLeDiff, Nat.reduceEqDiff, Int.reduceToNat, Int.reduceEq, Int.reduceLT, Int.reduceLE, reduceCtorEq, Gse_eq, qk', List.range_zero, List.nil_append, List.map_nil, List.set_cons_succ, List.set_cons_zero, selM, selI_eq, selJ, List.map_cons, List.take_succ_cons, List.take_zero, memAt, List.getD_cons_zero, List.getD_cons_succ]
      rw [List.take_length]
      have d1 := List.length_drop (i := k) (l := l)
      have d2 := List.length_take_le k l
      exact ⟨rfl, by omega, by omega, ⟨by omega, by omega⟩, by omega, ⟨by omega, by omega⟩, by omega, by omega, _, hfin, rfl⟩
  · rintro ds l ⟨h1, h2, h3⟩ hdn hdl hall
    have hfin : l = R := srt_unique h1 hR fun x => by
      rw [h2, hRm]
      constructor
      · rintro ⟨d, hd, rfl⟩
        have := hdl d hd
        rw [setE_len] at this
        rw [List.getD, List.getElem?_eq_getElem this]
        exact List.getElem_mem _
      · intro hx
        obtain ⟨d, hd, rfl⟩ := List.getElem_of_mem hx
        refine ⟨d, hall d (by rw [setE_len]; exact hd), by rw [List.getD, List.getElem?_eq_getElem hd]; rfl⟩
    subst hfin
    simp only [go_sem, ↓reduceIte, Nat.reduceAdd, Nat.reduceMul, Nat.reduceSub, Nat.reduceLT, Nat.reduceLeDiff, Nat.reduceEqDiff, Int.reduceToNat, Int.reduceEq, Int.reduceLT, Int.reduceLE, reduceCtorEq]
end Go.Proofs.Ytgcbhanfhnianaa.Ev
