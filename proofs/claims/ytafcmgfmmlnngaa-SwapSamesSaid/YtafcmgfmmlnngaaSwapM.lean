/- The least of all orders, as the reference finds it. Conditions: none. -/
import Derived.Test.YtafcmgfmmlnngaaSwapL
set_option linter.unusedSimpArgs false
set_option linter.unusedVariables false
set_option maxRecDepth 100000
open Go Go.Sx Go.Proofs
namespace Go.Proofs.Ytafcmgfmmlnngaa.Sw
open Go.Proofs.Ytafcmgfmmlnngaa.D Go.Proofs.Ytafcmgfmmlnngaa.Tr Go.Proofs.Ytafcmgfmmlnngaa.Cp
def th (L : List Ev) (i : Nat) : Int := (L.getD i dEv.dft).thr
theorem bestK_spec {L : List Ev} : ∀ {n b : Nat}, bestK L n = some b → freeB L b = true ∧ ∀ i, i < n → freeB L i = true → (th L b < th L i ∨ (th L b = th L i ∧ b ≤ i))
  | 0, b, h => by cases h
  | n + 1, b, h => by
    rw [bestK] at h
    cases e : bestK L n with
    | none =>
      rw [e] at h
      simp only at h
      split at h
      · rename_i hf
        injection h with h; subst h
        refine ⟨hf, fun i hi hfi => ?_⟩
        by_cases hin : i = n
        · subst hin; exact .inr ⟨rfl, Nat.le_refl _⟩
        · exfalso
          have : ∀ {m}, bestK L m = none → ∀ i, i < m → freeB L i = true → False := by
            intro m
            induction m with
            | zero => intro _ i hi; omega
            | succ m ih =>
              intro hm i hi hfi
              rw [bestK] at hm
              cases e2 : bestK L m with
              | none =>
                rw [e2] at hm
                simp only at hm
                split at hm
                · cases hm
                · rename_i hnf
                  by_cases him : i = m
                  · subst him; exact hnf hfi
                  · exact ih e2 i (by omega) hfi
              | some b2 =>
                rw [e2] at hm
                simp only at hm
                split at hm <;> cases hm
          exact this e i (by omega) hfi
      · cases h
    | some b' =>
      rw [e] at h
      obtain ⟨h1, h2⟩ := bestK_spec e
      have hlt := bestK_lt e
      simp only at h
      split at h
      · rename_i hc
        injection h with h; subst h
        simp only [Bool.and_eq_true, decide_eq_true_eq] at hc
        have hc2 : th L n < th L b' := hc.2
        refine ⟨hc.1, fun i hi hfi => ?_⟩
        by_cases hin : i = n
        · subst hin; exact .inr ⟨rfl, Nat.le_refl _⟩
        · rcases h2 i (by omega) hfi with q | ⟨q, _⟩
          · exact .inl (by omega)
          · exact .inl (by omega)
      · rename_i hc
        injection h with h; subst h
        refine ⟨h1, fun i hi hfi => ?_⟩
        by_cases hin : i = n
        · subst hin
          have : ¬ th L i < th L b' := fun q => hc (by rw [hfi, Bool.true_and]; exact decide_eq_true q)
          by_cases q : th L b' = th L i
          · exact .inr ⟨q, by omega⟩
          · exact .inl (by omega)
        · exact h2 i (by omega) hfi
theorem pick_ref {L : List Ev} {i : Nat} (hi : i < L.length) (hf : freeB L i = true) (ht : ∀ j, j < i → th L j ≠ th L i) (hl : ∀ j, j < L.length → freeB L j = true → ¬ th L j < th L i) : pick L = i := by
  obtain ⟨h1, h2⟩ := pick_is (L := L) (by omega)
  obtain ⟨h3, h4⟩ := bestK_spec h1
  rcases h4 i hi hf with q | ⟨q1, q2⟩
  · exact absurd q (hl _ h2 h3)
  · rcases Nat.lt_or_ge (pick L) i with q | q
    · exact absurd q1 (ht _ q)
    · omega
theorem apart_thr {a b : Ev} (h : a.thr = b.thr) : apartB a b = false := by
  unfold apartB
  rw [if_pos (by simp [h])]
theorem free_first {L : List Ev} {i j : Nat} (hj : j < i) (hi : i < L.length) (h : th L j = th L i) : freeB L i = false := by
  have : ((L.take i).any fun x => !apartB x (L.getD i dEv.dft)) = true := by
    rw [List.any_eq_true]
    refine ⟨L.getD j dEv.dft, ?_, by rw [apart_thr h]; rfl⟩
    rw [List.mem_take_iff_getElem]
    exact ⟨j, by omega, by simp [List.getD, show j < L.length by omega]⟩
  unfold freeB
  rw [this]; rfl
theorem free_all {L : List Ev} {i : Nat} : ((L.take i).all fun x => apartR x (L.getD i dEv.dft)) = freeB L i := by
  unfold freeB
  rw [List.not_any_eq_all_not]
  congr 1
  funext x
  rw [apart_eq, Bool.not_not]
/-- No one of a thread below may be the first. -/
def noneB (L : List Ev) (t : Int) : Prop := ∀ j, j < L.length → freeB L j = true → ¬ th L j < t
theorem none_next {L : List Ev} {t i : Nat} (h : noneB L t) (hno : ∀ j, j < i → th L j ≠ t) (hi : i < L.length → th L i = t ∧ freeB L i = false) (hil : i ≤ L.length) : noneB L ((t + 1 : Nat) : Int) := by
  intro j hj hf hlt
  have h1 := h j hj hf
  have ht : th L j = t := by omega
  rcases Nat.lt_or_ge j i with q | q
  · exact hno j q ht
  · obtain ⟨q1, q2⟩ := hi (by omega)
    by_cases e : i = j
    · subst e; rw [q2] at hf; cases hf
    · rw [free_first (show i < j by omega) hj (by rw [q1, ht])] at hf; cases hf
theorem none_six {L : List Ev} (hL : 0 < L.length) (hth : ∀ e ∈ L, 0 ≤ e.thr ∧ e.thr < 6) (h : noneB L 6) : False := by
  have h0 : L.getD 0 dEv.dft ∈ L := by
    simp only [List.getD, List.getElem?_eq_getElem hL, Option.getD_some]
    exact List.getElem_mem _
  exact h 0 hL (by simp [freeB]) (hth _ h0).2
theorem vecsF_lit {υ : Type} (k : Nat) (T : TypeId) (w : Nat) (K : Fr → List Res → Prop) (τ : Fr) (m : List Res) (w' : Nat) (d : υ) (f : υ → SV) (l : List υ) : vecsF k T w K τ m (.lit w' d f l) = K τ m := rfl
def okT (l : List Ev) : Prop := ∀ e ∈ l, 0 ≤ e.thr ∧ e.thr < 6
theorem okT_cut {l : List Ev} {i : Nat} (h : okT l) : okT (cutE l i) := by
  intro e he
  unfold cutE delL at he
  rw [List.mem_append] at he
  rcases he with he | he
  · exact h e (List.mem_of_mem_take he)
  · exact h e (List.mem_of_mem_drop he)
def j33_1 : JC :=
  (.seq (.ops <|
  qo 31 (.cmp .lss (.t 30) (.t 29)) <|
  .nil)
  (.seq (.cond (.t 31)
  .skip
  (.exit 4))
  (.seq (.block 5 (.seq (.ops <|
  qo 32 (.is 3 (.t 28) (.t 30)) <|
  eo 33 (.load 3 true (.t 32)) <|
  eo 8 (.alloc 35 (.agg [(.int .i64 0), (.int .i64 0), (.int .i64 0)])) <|
  en (.store 3 (.t 8) (.t 33)) <|
  .nil)
  (.prune [6, 8, 5, 30, 29, 28, 0, 4, 12] (.ops <|
  qo 34 (.mv (.t 6)) <|
  qo 35 (.mv (.t 34)) <|
  .sc false 39 35 (eo 36 (.load 3 true (.t 8)) <|
  eo 37 (.load 3 true (.t 5)) <|
  eo 38 (.call 59 [(.t 36), (.t 37)]) <|
  .nil) (.t 38) <|
  qo 6 (.mv (.t 39)) <|
  .nil))))
  (.prune [30, 29, 28, 6, 5, 0, 4, 12] (.ops <|
  qo 40 (.ar .add (.t 30) (I 1)) <|
  qo 30 (.mv (.t 40)) <|
  .nil)))))
def j33_2 : JC :=
  (.frz 5 dEv.ref.frz <| .prune [6, 5, 0, 4, 12] (.seq (.seq (.ops <|
  qo 41 (.mv (.t 6)) <|
  .nil)
  (.cond (.t 41)
  (.seq (.dops <|
  eo 42 (.load 3 true (.t 5)) <|
  .prune [42, 0, 4, 5] <|
  eo 43 (.qbsl 35 3 1 (.agg [(.int .i64 0), (.int .i64 0), (.int .i64 0)]) [(0, (.t 42))]) <|
  qo 44 (.mv (.t 0)) <|
  qo 45 (.mv (.t 4)) <|
  qo 46 (.slc 3 (.t 44) none (some (.t 45)) none) <|
  qo 48 (.mv (.t 0)) <|
  .prune [4, 48, 46, 42, 5, 43] <|
  qo 49 (.mv (.t 4)) <|
  qo 50 (.ar .add (.t 49) (I 1)) <|
  qo 51 (.slc 3 (.t 48) (some (.t 50)) none none) <|
  .prune [46, 42, 5, 51, 43] <|
  eo 47 (.call 60 [(.t 46)]) <|
  en (.again 3 true (.t 5) 42) <|
  eo 52 (.app 35 3 24 (.t 47) (.t 51)) <|
  .prune [42, 5, 52, 43] <|
  en (.again 3 true (.t 5) 42) <|
  eo 53 (.call 33 [(.t 52)]) <|
  en (.again 3 true (.t 5) 42) <|
  eo 54 (.app 35 3 24 (.t 43) (.t 53)) <|
  qo 2 (.mv (.t 54)) <|
  .nil)
  (.vecs 2 35 3 (.frz 2 dEs.frz .ret)))
  .skip))
  (.exit 2)))
def j33_3 : JC :=
  (.prune [17, 16, 15, 3, 0, 12] (.ops <|
  qo 55 (.ar .add (.t 17) (I 1)) <|
  qo 17 (.mv (.t 55)) <|
  .nil))
def j33_4 : JC :=
  (.seq (.ops <|
  qo 18 (.cmp .lss (.t 17) (.t 16)) <|
  .nil)
  (.seq (.cond (.t 18)
  .skip
  (.exit 2))
  (.seq (.block 3 (.seq (.ops <|
  qo 19 (.mv (.t 17)) <|
  qo 20 (.is 3 (.t 15) (.t 17)) <|
  eo 21 (.load 3 true (.t 20)) <|
  eo 5 (.alloc 35 (.agg [(.int .i64 0), (.int .i64 0), (.int .i64 0)])) <|
  qo 4 (.mv (.t 19)) <|
  en (.store 3 (.t 5) (.t 21)) <|
  .nil)
  (.prune [5, 3, 17, 16, 15, 0, 12, 4] (.seq (.seq (.ops <|
  qo 22 (.fa 1 1 (.t 5)) <|
  eo 23 (.load 1 false (.t 22)) <|
  qo 24 (.mv (.t 3)) <|
  qo 25 (.cmp .neq (.t 23) (.t 24)) <|
  .nil)
  (.cond (.t 25)
  (.exit 3)
  .skip))
  (.prune [0, 4, 5, 12] (.seq (.ops <|
  qo 6 (.mv (B true)) <|
  .nil)
  (.seq (.seq (.ops <|
  qo 26 (.mv (.t 0)) <|
  qo 27 (.mv (.t 4)) <|
  qo 28 (.slc 3 (.t 26) none (some (.t 27)) none) <|
  qo 29 (.len (.t 28)) <|
  qo 30 (.mv (I 0)) <|
  .nil)
  (.prune [30, 29, 28, 6, 5, 0, 4, 12] (.block 4 (.loop [29, 28, 5, 0, 4, 12] [30, 6] j33_1))))
  j33_2)))))))
  j33_3)))
def j33_5 : JC :=
  (.prune [12, 0] (.ops <|
  qo 56 (.ar .add (.t 12) (I 1)) <|
  qo 12 (.mv (.t 56)) <|
  .nil))
def j33_6 : JC :=
  (.seq (.ops <|
  qo 13 (.cmp .lss (.t 12) (I 6)) <|
  .nil)
  (.seq (.cond (.t 13)
  .skip
  (.exit 0))
  (.seq (.block 1 (.seq (.ops <|
  qo 14 (.mv (.t 12)) <|
  qo 3 (.mv (.t 14)) <|
  .nil)
  (.seq (.ops <|
  qo 15 (.mv (.t 0)) <|
  qo 16 (.len (.t 15)) <|
  qo 17 (.mv (I 0)) <|
  .nil)
  (.block 2 (.loop [16, 15, 3, 0, 12] [17] j33_4)))))
  j33_5)))
def j33_7 : JC :=
  (.prune [] (.seq (.ops <|
  qo 2 (.mv (.c .nils)) <|
  .nil)
  (.vecs 2 35 3 (.frz 2 dEs.frz .ret))))
def j33 : JC :=
  (.seq (.ops <|
  qo 2 (.mv (.c .nils)) <|
  .nil)
  (.seq (.seq (.ops <|
  qo 9 (.mv (.t 0)) <|
  qo 10 (.len (.t 9)) <|
  qo 11 (.cmp .eql (.t 10) (I 0)) <|
  .nil)
  (.cond (.t 11)
  (.seq (.ops <|
  qo 2 (.mv (.c .nils)) <|
  .nil)
  (.vecs 2 35 3 (.frz 2 dEs.frz .ret)))
  .skip))
  (.seq (.seq (.ops <|
  qo 12 (.mv (I 0)) <|
  .nil)
  (.block 0 (.loop [0] [12] j33_6)))
  j33_7)))
theorem c33 : fnIs Try.prog (qbut [60, 33]) 33 = some (j33.flat, [.tmp 2], 57) := by kernel_rfl
theorem w33 : j33.wf 57 = true := by kernel_rfl
def Grl (n : Nat) (F : FuncId) (a : List SV) (m : List Res) : Sx.Call := (FH.rd 59 (.two dEv dEv) (.one .bool) (fun _ => True) (fun y => apartR y.1 y.2.1) <|
  FH.mk 60 (.one dEs) (fun y => y.1.length ≤ 1000000) (fun y => .vec 0 y.1.length) (fun y => [.vec 35 3 (y.1.map dEv.emb)]) <|
  FH.fz 33 (.one dEs) (DP.one dEs) (fun y => y.1.length < n ∧ okT y.1) (fun y => leastF y.1) FH.none) F a m
theorem Grl_eq (n : Nat) (F : FuncId) (a : List SV) (m : List Res) : Grl n F a m = (FH.rd 59 (.two dEv dEv) (.one .bool) (fun _ => True) (fun y => apartR y.1 y.2.1) <|
  FH.mk 60 (.one dEs) (fun y => y.1.length ≤ 1000000) (fun y => .vec 0 y.1.length) (fun y => [.vec 35 3 (y.1.map dEv.emb)]) <|
  FH.fz 33 (.one dEs) (DP.one dEs) (fun y => y.1.length < n ∧ okT y.1) (fun y => leastF y.1) FH.none) F a m := nr rfl
theorem Grl_ok {n : Nat} (h : ∀ l : List Ev, l.length < n → okT l → FnOK Try.prog 33 [dEs.emb l] [] (dEs.emb (leastF l)) []) : FHOK Try.prog (Grl n) :=
  FH.rd_ok (by kernel_rfl) (fun y _ => f_RApart y.1 y.2.1) <| FH.mk_ok (by kernel_rfl) (fun y _ => plainM (pv_vec _ _) ⟨plR_vec _ _ dEv _, trivial⟩) (fun y h => f_CopyEv y.1 h) <|
  FH.fz_ok (by kernel_rfl) (fun y hy => h y.1 hy.1 hy.2) FH.none_ok
theorem least_len : ∀ (n : Nat) (l : List Ev), l.length ≤ n → (leastF l).length = l.length
  | 0, l, h => by rw [least_nil (by omega)]; simp; omega
  | n + 1, l, h => by
    by_cases h0 : 0 < l.length
    · have hc := cutE_len (pick_is h0).2
      rw [least_cons h0, List.length_cons, least_len n _ (by omega)]; omega
    · rw [least_nil h0]; simp; omega
theorem f_RLeast : ∀ (n : Nat) (l : List Ev), l.length ≤ n → n ≤ 100 → okT l → FnOK Try.prog 33 [dEs.emb l] [] (dEs.emb (leastF l)) [] := by
  intro n
  induction n with
  | zero =>
    intro l hl _ ht
    refine fn_walkF c33 w33 (Grl_ok (n := 0) (fun l h => absurd h (Nat.not_lt_zero _))) rfl ?_
    unfold j33
    have h0 : l = [] := List.length_eq_zero_iff.1 (by omega)
    subst h0
    rw [least_nil (by simp)]
    simp only [go_sem, ↓reduceIte, Nat.reduceAdd, Nat.reduceMul, Nat.reduceSub, Nat.reduceLT, Nat.reduceLeDiff, Nat.reduceEqDiff, Int.reduceToNat, Int.reduceEq, Int.reduceLT, Int.reduceLE, reduceCtorEq, Grl_eq]
  | succ n ih =>
    intro L hl hn ht
    refine fn_walkF c33 w33 (Grl_ok (n := n + 1) (fun l h ho => ih l (by omega) (by omega) ho)) rfl ?_
    unfold j33
    by_cases hL : 0 < L.length
    · have hL' : ¬ (L.length : Int) = 0 := by omega
      simp only [go_sem, ↓reduceIte, Nat.reduceAdd, Nat.reduceMul, Nat.reduceSub, Nat.reduceLT, Nat.reduceLeDiff, Nat.reduceEqDiff, Int.reduceToNat, Int.reduceEq, Int.reduceLT, Int.reduceLE, reduceCtorEq, Grl_eq, hL']
      refine loopF Nat (fun t => [.int .i64 t]) (fun _ => []) (fun t => t ≤ 6 ∧ noneB L t) (fun t => 6 - t) 0 ⟨by omega, fun j hj hf hlt => by
        have : L.getD j dEv.dft ∈ L := by
          simp only [List.getD, List.getElem?_eq_getElem hj, Option.getD_some]
          exact List.getElem_mem _
        have := (ht _ this).1
        unfold th at hlt
        omega⟩ ?_ rfl ?_
      · simp only [go_sem, ↓reduceIte, Nat.reduceAdd, Nat.reduceMul, Nat.reduceSub, Nat.reduceLT, Nat.reduceLeDiff, Nat.reduceEqDiff, Int.reduceToNat, Int.reduceEq, Int.reduceLT, Int.reduceLE, reduceCtorEq]
      rintro t ⟨ht6, hno⟩
      by_cases h6 : t < 6
      · have h6' : (t : Int) < 6 := by omega
        have hwt : IntKind.i64.wrap ((t : Int) + 1) = ((t + 1 : Nat) : Int) := IntWalk.i64_in _ (by omega)
        unfold j33_6
        simp only [go_sem, ↓reduceIte, Nat.reduceAdd, Nat.reduceMul, Nat.reduceSub, Nat.reduceLT, Nat.reduceLeDiff, Nat.reduceEqDiff, Int.reduceToNat, Int.reduceEq, Int.reduceLT, Int.reduceLE, reduceCtorEq, Grl_eq, h6']
        refine loopF Nat (fun i => [.int .i64 i]) (fun _ => []) (fun i => i ≤ L.length ∧ ∀ j, j < i → th L j ≠ t) (fun i => L.length - i) 0 ⟨by omega, fun j hj => absurd hj (Nat.not_lt_zero _)⟩ ?_ rfl ?_
        · simp only [go_sem, ↓reduceIte, Nat.reduceAdd, Nat.reduceMul, Nat.reduceSub, Nat.reduceLT, Nat.reduceLeDiff, Nat.reduceEqDiff, Int.reduceToNat, Int.reduceEq, Int.reduceLT, Int.reduceLE, reduceCtorEq]
        rintro i ⟨hi, hne⟩
        by_cases h1 : i < L.length
        · have h1' : (i : Int) < L.length := by omega
          have hwi : IntKind.i64.wrap ((i : Int) + 1) = ((i + 1 : Nat) : Int) := IntWalk.i64_in _ (by omega)
          unfold j33_4
          by_cases hq : th L i = t
          · have hq' : (L.getD i dEv.dft).thr = (t : Int) := hq
            have hti : (L.take i).length = i := by rw [List.length_take]; omega
            simp only [go_sem, ↓reduceIte, Nat.reduceAdd, Nat.reduceMul, Nat.reduceSub, Nat.reduceLT, Nat.reduceLeDiff, Nat.reduceEqDiff, Int.reduceToNat, Int.reduceEq, Int.reduceLT, Int.reduceLE, reduceCtorEq, Grl_eq, h1, h1', hq', hi, hti]
            refine ⟨by omega, by omega, by omega, ?_⟩
            refine loopF Nat (fun k => [.int .i64 k, .bool ((L.take k).all fun x => apartR x (L.getD i dEv.dft))]) (fun k => [.blk 35 (dEv.emb (L.getD i dEv.dft))]) (fun k => k ≤ i) (fun k => i - k) 0 (by omega) ?_ ?_ ?_
            · simp only [go_sem, ↓reduceIte, Nat.reduceAdd, Nat.reduceMul, Nat.reduceSub, Nat.reduceLT, Nat.reduceLeDiff, Nat.reduceEqDiff, Int.reduceToNat, Int.reduceEq, Int.reduceLT, Int.reduceLE, reduceCtorEq]
            · rw [ev_emb, hq']
            intro k hk
            by_cases h2 : k < i
            · have h2' : (k : Int) < i := by omega
              have hwk : IntKind.i64.wrap ((k : Int) + 1) = ((k + 1 : Nat) : Int) := IntWalk.i64_in _ (by omega)
              have hkl : k < L.length := by omega
              have htk : (L.take i).getD k dEv.dft = L.getD k dEv.dft := by simp [List.getD, h2]
              unfold j33_1
              simp only [go_sem, ↓reduceIte, Nat.reduceAdd, Nat.reduceMul, Nat.reduceSub, Nat.reduceLT, Nat.reduceLeDiff, Nat.reduceEqDiff, Int.reduceToNat, Int.reduceEq, Int.reduceLT, Int.reduceLE, reduceCtorEq, Grl_eq, h2, h2', hti, htk]
              refine ⟨by omega, k + 1, by omega, by omega, hwk, ?_⟩
              rw [take_getD dEv.dft hkl, List.all_append]
              simp
            · have h2' : ¬ (k : Int) < i := by omega
              have e : k = i := by omega
              subst e
              unfold j33_1
              simp only [go_sem, ↓reduceIte, Nat.reduceAdd, Nat.reduceMul, Nat.reduceSub, Nat.reduceLT, Nat.reduceLeDiff, Nat.reduceEqDiff, Int.reduceToNat, Int.reduceEq, Int.reduceLT, Int.reduceLE, reduceCtorEq, h2', hti]
              unfold j33_2
              cases hf : freeB L k with
              | true =>
                have hwk : IntKind.i64.wrap ((k : Int) + 1) = ((k + 1 : Nat) : Int) := IntWalk.i64_in _ (by omega)
                have hcut : L.take k ++ (L.take L.length).drop (k + 1) = cutE L k := by rw [List.take_length]; rfl
                have hpk : pick L = k := pick_ref h1 hf (fun j hj => by rw [hq]; exact hne j hj) (fun j hj hfj => by rw [hq]; exact hno j hj hfj)
                have hcl := cutE_len h1
                have hlc : leastF L = L.getD k dEv.dft :: leastF (cutE L k) := by rw [least_cons hL, hpk]
                by_cases hem : (List.map dEv.emb (leastF (cutE L k))).isEmpty = true
                · simp only [go_sem, ↓reduceIte, Nat.reduceAdd, Nat.reduceMul, Nat.reduceSub, Nat.reduceLT, Nat.reduceLeDiff, Nat.reduceEqDiff, Int.reduceToNat, Int.reduceEq, Int.reduceLT, Int.reduceLE, reduceCtorEq, Grl_eq, hf, free_all, hwk, hcut, hem, vecsF_lit, List.range_zero]
                  have hnil : leastF (cutE L k) = [] := by simpa using hem
                  exact ⟨by omega, ⟨by omega, by omega⟩, by omega, ⟨by omega, by omega⟩, by rw [List.length_take]; omega, by rw [List.length_take, List.length_drop, List.length_take]; omega, ⟨by omega, okT_cut ht⟩, by rw [hlc, hnil]⟩
                · have hem' : (List.map dEv.emb (leastF (cutE L k))).isEmpty = false := by simpa using hem
                  simp only [go_sem, ↓reduceIte, Nat.reduceAdd, Nat.reduceMul, Nat.reduceSub, Nat.reduceLT, Nat.reduceLeDiff, Nat.reduceEqDiff, Int.reduceToNat, Int.reduceEq, Int.reduceLT, Int.reduceLE, reduceCtorEq, Grl_eq, hf, free_all, hwk, hcut, hem', vecsF_lit, List.range_zero]
                  have hll := least_len _ _ (Nat.le_refl (cutE L k).length)
                  exact ⟨by omega, ⟨by omega, by omega⟩, by omega, ⟨by omega, by omega⟩, by rw [List.length_take]; omega, by rw [List.length_take, List.length_drop, List.length_take]; omega, ⟨by omega, okT_cut ht⟩, by omega, by rw [hlc]⟩
              | false =>
                simp only [go_sem, ↓reduceIte, Nat.reduceAdd, Nat.reduceMul, Nat.reduceSub, Nat.reduceLT, Nat.reduceLeDiff, Nat.reduceEqDiff, Int.reduceToNat, Int.reduceEq, Int.reduceLT, Int.reduceLE, reduceCtorEq, Grl_eq, hf, free_all]
                unfold j33_5
                simp only [go_sem, ↓reduceIte, Nat.reduceAdd, Nat.reduceMul, Nat.reduceSub, Nat.reduceLT, Nat.reduceLeDiff, Nat.reduceEqDiff, Int.reduceToNat, Int.reduceEq, Int.reduceLT, Int.reduceLE, reduceCtorEq, hwt]
                exact ⟨t + 1, ⟨by omega, none_next (i := k) hno hne (fun _ => ⟨hq, hf⟩) hi⟩, by omega, rfl⟩
          · have hq' : ¬ (L.getD i dEv.dft).thr = (t : Int) := hq
            simp only [go_sem, ↓reduceIte, Nat.reduceAdd, Nat.reduceMul, Nat.reduceSub, Nat.reduceLT, Nat.reduceLeDiff, Nat.reduceEqDiff, Int.reduceToNat, Int.reduceEq, Int.reduceLT, Int.reduceLE, reduceCtorEq, Grl_eq, h1, h1', hq']
            unfold j33_3
            simp only [go_sem, ↓reduceIte, Nat.reduceAdd, Nat.reduceMul, Nat.reduceSub, Nat.reduceLT, Nat.reduceLeDiff, Nat.reduceEqDiff, Int.reduceToNat, Int.reduceEq, Int.reduceLT, Int.reduceLE, reduceCtorEq, hwi]
            refine ⟨by omega, i + 1, ⟨by omega, fun j hj => ?_⟩, by omega, rfl⟩
            by_cases e : j = i
            · subst e; exact hq
            · exact hne j (by omega)
        · have h1' : ¬ (i : Int) < L.length := by omega
          unfold j33_4
          simp only [go_sem, ↓reduceIte, Nat.reduceAdd, Nat.reduceMul, Nat.reduceSub, Nat.reduceLT, Nat.reduceLeDiff, Nat.reduceEqDiff, Int.reduceToNat, Int.reduceEq, Int.reduceLT, Int.reduceLE, reduceCtorEq, h1']
          unfold j33_5
          simp only [go_sem, ↓reduceIte, Nat.reduceAdd, Nat.reduceMul, Nat.reduceSub, Nat.reduceLT, Nat.reduceLeDiff, Nat.reduceEqDiff, Int.reduceToNat, Int.reduceEq, Int.reduceLT, Int.reduceLE, reduceCtorEq, hwt]
          exact ⟨t + 1, ⟨by omega, none_next (i := i) hno hne (fun q => absurd q h1) hi⟩, by omega, rfl⟩
      · have h6' : ¬ (t : Int) < 6 := by omega
        exact absurd (none_six hL ht (by rw [show ((6 : Int)) = (t : Int) by omega]; exact hno)) id
    · have h0 : L = [] := List.length_eq_zero_iff.1 (by omega)
      subst h0
      rw [least_nil (by simp)]
      simp only [go_sem, ↓reduceIte, Nat.reduceAdd, Nat.reduceMul, Nat.reduceSub, Nat.reduceLT, Nat.reduceLeDiff, Nat.reduceEqDiff, Int.reduceToNat, Int.reduceEq, Int.reduceLT, Int.reduceLE, reduceCtorEq, Grl_eq]
end Go.Proofs.Ytafcmgfmmlnngaa.Sw
