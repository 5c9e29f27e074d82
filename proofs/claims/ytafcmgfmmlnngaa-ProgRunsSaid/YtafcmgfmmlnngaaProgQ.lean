/- A program that runs: both agree. Conditions: none. -/
import Derived.Test.YtafcmgfmmlnngaaProgH
set_option linter.unusedSimpArgs false
set_option linter.unusedVariables false
set_option maxRecDepth 100000
open Go Go.Sx Go.Proofs
namespace Go.Proofs.Ytafcmgfmmlnngaa.Rn
open Go.Proofs.Ytafcmgfmmlnngaa.D Go.Proofs.Ytafcmgfmmlnngaa.Pg Go.Proofs.Ytafcmgfmmlnngaa.Tr
/-- The program's state and the reference's. -/
structure Same (p : List (List PO)) (s : Sta) (g : Pg) : Prop where
  p : g.p = p
  at' : s.at' = g.at'
  en : s.en = g.en
  begun : ∀ t : Nat, s.begun t = begB (gl g) t
  owner : ∀ k : Nat, s.owner k = Tr.ownR (gl g) k + 1
  pos : ∀ k : Nat, 0 ≤ s.owner k
theorem beg_add (l : List Ev) (e : Ev) (t : Int) : begB (l ++ [e]) t = (begB l t || (decide (e.kind = 5) && decide (e.obj = t))) := by
  simp only [begB, didB, List.any_append, List.any_cons, List.any_nil, Bool.or_false, Bool.or_assoc]
theorem own_add (l : List Ev) (e : Ev) (k : Int) : Tr.ownR (l ++ [e]) k = ownS k (Tr.ownR l k) e := by
  simp only [Tr.ownR, List.foldl_append, List.foldl_cons, List.foldl_nil]
theorem next_none {s : Sta} {p : List (List PO)} {t : Int} : nextF s p t = none ↔ t < 0 ∨ (p.length : Int) ≤ t ∨ s.begun t.toNat = false ∨ s.at' t.toNat = ((p.getD t.toNat []).length : Int) := by
  unfold nextF
  split
  · rename_i h; constructor
    · intro _; omega
    · intro _; rfl
  · rename_i h1
    split
    · rename_i h; simp [h]
    · rename_i h2
      split
      · rename_i h; simp [h]
      · rename_i h3
        constructor
        · intro h; cases h
        · rintro (h | h | h | h) <;> first | omega | exact absurd h h2 | exact absurd h h3
theorem can_same {p : List (List PO)} {s : Sta} {g : Pg} (hp : progC badP p = 0) (hf : Fit p s.at') (h : Same p s g) (t : Int) : canF s p t = canG g t := by
  have e : g.p = p := h.p
  unfold canF canG
  rw [e]
  cases hx : nextF s p t with
  | none =>
    simp only
    have := next_none.1 hx
    by_cases h1 : t < 0 ∨ (p.length : Int) ≤ t
    · rw [if_pos h1]
    rw [if_neg h1]
    by_cases h2 : begB (gl g) t = false
    · rw [if_pos h2]
    rw [if_neg h2]
    rw [if_pos]
    rcases this with h3 | h3 | h3 | h3
    · omega
    · omega
    · rw [h.begun, show ((t.toNat : Nat) : Int) = t by omega] at h3; exact absurd h3 h2
    · rw [overB, decide_eq_true_eq, e, ← h.at']; exact h3
  | some y =>
    obtain ⟨l, i⟩ := y
    obtain ⟨n, rfl, h1, h2, h3, h4, h5⟩ := next_some hf hx
    have ho := op_ok hp h1 (i := i) (by rw [← h3]; exact h5)
    rw [← h3] at ho
    have eo : opG g n = l.getD i dOp.dft := by
      rw [opG, e, Int.toNat_natCast, ← h.at', h4, Int.toNat_natCast, h3]
    rw [if_neg (by omega), if_neg (by rw [← h.begun, h2]; simp), if_neg (by
      rw [overB, decide_eq_true_eq, e, ← h.at', Int.toNat_natCast, h4, ← h3]; omega), eo]
    simp only
    have b4 : bnd 4 = 5 := by decide
    have b7 : bnd 7 = 6 := by decide
    by_cases k4 : (l.getD i dOp.dft).kind = 4
    · rw [if_pos k4, if_pos k4]
      have h6 := h.owner (l.getD i dOp.dft).obj.toNat
      have h7 := h.pos (l.getD i dOp.dft).obj.toNat
      rw [show (((l.getD i dOp.dft).obj.toNat : Nat) : Int) = (l.getD i dOp.dft).obj by omega] at h6
      rw [Bool.eq_iff_iff, decide_eq_true_eq, decide_eq_true_eq]; omega
    rw [if_neg k4, if_neg k4]
    by_cases k7 : (l.getD i dOp.dft).kind = 7
    · rw [if_pos k7, if_pos k7, overB, e, ← h.at', h.begun, show (((l.getD i dOp.dft).obj.toNat : Nat) : Int) = (l.getD i dOp.dft).obj by omega]
    · rw [if_neg k7, if_neg k7]
theorem ev_same {p : List (List PO)} {s : Sta} {g : Pg} (h : Same p s g) (n : Nat) {o : PO} (ho : 0 ≤ o.obj ∧ o.obj < bnd o.kind) : evK s p n o = evG g n o := by
  have h6 := h.owner o.obj.toNat
  have h8 := h.begun o.obj.toNat
  rw [show ((o.obj.toNat : Nat) : Int) = o.obj by omega] at h6 h8
  have hb := bnd_kind ho
  unfold evK evG kindM
  rw [h6, h8, h.p]
  rcases hb with k | k | k | k | k | k | k | k | k <;> simp only [k, Int.reduceEq, if_true, if_false]
  · by_cases c : Tr.ownR (gl g) o.obj = n
    · rw [if_pos c, if_pos (by omega)]
    · rw [if_neg c, if_neg (by omega)]
  · cases c : begB (gl g) o.obj with
    | true => rw [if_neg (by simp), if_pos (.inr rfl)]
    | false =>
      by_cases c2 : o.obj < p.length
      · rw [if_pos ⟨c2, rfl⟩, if_neg (by simp; omega)]
      · rw [if_neg (by simp [c2]), if_pos (.inl (by omega))]
theorem step_same {p : List (List PO)} {s : Sta} {g : Pg} (h : Same p s g) (n : Nat) {o : PO} (ho : 0 ≤ o.obj ∧ o.obj < bnd o.kind) : Same p (stF s p n o) (stepG g n o) := by
  have he := ev_same h n ho
  have h6 := h.owner o.obj.toNat
  have h8 := h.begun o.obj.toNat
  rw [show ((o.obj.toNat : Nat) : Int) = o.obj by omega] at h6 h8
  have hb := bnd_kind ho
  have hl : gl (stepG g n o) = if evK s p n o = 0 then gl g else gl g ++ [⟨evK s p n o, n, o.obj⟩] := by
    rw [he]; unfold gl stepG; simp only; split <;> rfl
  refine ⟨h.p, ?_, ?_, fun t => ?_, fun k => ?_, fun k => ?_⟩
  · show Tr.upd s.at' n (s.at' n + 1) = Tr.upd g.at' n (g.at' n + 1)
    rw [h.at']
  · show enF s.en n o = enF g.en n o
    rw [h.en]
  · have key : begB (gl (stepG g n o)) t = (begB (gl g) t || (decide (evK s p n o = 5) && decide (o.obj = t))) := by
      rw [hl]
      split
      · rename_i h0; rw [h0]; simp
      · exact beg_add _ _ _
    rw [key, ← h.begun]
    show (if o.kind = 6 ∧ o.obj < p.length ∧ s.begun o.obj.toNat = false then Tr.upd s.begun o.obj.toNat true else s.begun) t = _
    have k5 : evK s p n o = 5 ↔ (o.kind = 6 ∧ o.obj < p.length ∧ s.begun o.obj.toNat = false) := by
      unfold evK
      rcases hb with k | k | k | k | k | k | k | k | k <;> simp only [k, Int.reduceEq, if_true, if_false, false_and, true_and, iff_false] <;> try (split <;> simp_all <;> done)
    by_cases c : o.kind = 6 ∧ o.obj < p.length ∧ s.begun o.obj.toNat = false
    · rw [if_pos c, decide_eq_true (k5.2 c), Bool.true_and]
      unfold Tr.upd
      by_cases c2 : t = o.obj.toNat
      · rw [if_pos c2, decide_eq_true (by omega), Bool.or_true]
      · rw [if_neg c2, decide_eq_false (by omega), Bool.or_false]
    · rw [if_neg c, decide_eq_false (fun q => c (k5.1 q)), Bool.false_and, Bool.or_false]
  · have key : Tr.ownR (gl (stepG g n o)) k = if evK s p n o = 0 then Tr.ownR (gl g) k else ownS k (Tr.ownR (gl g) k) ⟨evK s p n o, n, o.obj⟩ := by
      rw [hl]
      split
      · rfl
      · exact own_add _ _ _
    rw [key]
    have hk := h.owner k
    show (if o.kind = 4 then Tr.upd s.owner o.obj.toNat (n + 1) else if o.kind = 5 ∧ s.owner o.obj.toNat = (n : Int) + 1 then Tr.upd s.owner o.obj.toNat 0 else s.owner) k = _
    unfold evK
    have c1 : k = o.obj.toNat ↔ o.obj = k := by omega
    by_cases c : s.owner o.obj.toNat = (n : Int) + 1
    all_goals (rcases hb with q | q | q | q | q | q | q | q | q <;> simp only [q, c, Int.reduceEq, if_true, if_false, false_and, true_and, and_false, and_true, ownS, Tr.upd, c1])
    all_goals (repeat' split)
    all_goals (first | omega | (rename_i r; cases r))
  · show 0 ≤ (if o.kind = 4 then Tr.upd s.owner o.obj.toNat (n + 1) else if o.kind = 5 ∧ s.owner o.obj.toNat = (n : Int) + 1 then Tr.upd s.owner o.obj.toNat 0 else s.owner) k
    have := h.pos k
    unfold Tr.upd
    repeat' split
    all_goals (try dsimp only; try split)
    all_goals omega
/-- Both go on alike. -/
theorem pick_same {p : List (List PO)} {s : Sta} {g : Pg} (hp : progC badP p = 0) (hf : Fit p s.at') (h : Same p s g) (t : Int) : Same p (pickS p s t) (pickG g t) ∧ gl (pickG g t) = gl g ++ pickE p s t := by
  have hc := can_same hp hf h t
  unfold pickS pickE pickG
  rw [← hc]
  cases hx : nextF s p t with
  | none =>
    have : canF s p t = false := by rw [canF, hx]
    rw [this, if_neg (by simp)]
    exact ⟨h, (List.append_nil _).symm⟩
  | some y =>
    obtain ⟨l, i⟩ := y
    obtain ⟨n, rfl, h1, h2, h3, h4, h5⟩ := next_some hf hx
    have ho := op_ok hp h1 (i := i) (by rw [← h3]; exact h5)
    rw [← h3] at ho
    have eo : opG g n = l.getD i dOp.dft := by
      rw [opG, h.p, Int.toNat_natCast, ← h.at', h4, Int.toNat_natCast, h3]
    simp only [Int.toNat_natCast, eo]
    by_cases c : canF s p n = true
    · rw [if_pos c, if_pos c]
      refine ⟨step_same h n ho, ?_⟩
      have he := ev_same h n ho
      show (if evG g n (l.getD i dOp.dft) = 0 then g.l else some (gl g ++ [⟨evG g n (l.getD i dOp.dft), n, (l.getD i dOp.dft).obj⟩])).getD [] = _
      rw [← he]
      by_cases c2 : evK s p n (l.getD i dOp.dft) = 0
      · rw [if_pos c2, if_neg (fun q => q.2 c2), List.append_nil]
      · rw [if_neg c2, if_pos ⟨c, c2⟩, evE, if_neg c2]; rfl
    · rw [if_neg c, if_neg c, if_neg (fun q => c q.1), List.append_nil]
      exact ⟨h, rfl⟩
theorem run_same {p : List (List PO)} (hp : progC badP p = 0) {picks : List Int} : ∀ i, Same p (runS p picks i) (runG p picks i) ∧ gl (runG p picks i) = runE p picks i
  | 0 => ⟨⟨rfl, rfl, rfl, fun t => by
      show Tr.upd (fun _ => false) 0 true t = _
      unfold Tr.upd begB
      by_cases c : t = 0
      · subst c; rfl
      · rw [if_neg c, decide_eq_false (by omega)]; rfl, fun _ => rfl, fun _ => Int.le_refl _⟩, rfl⟩
  | i + 1 => by
    obtain ⟨h1, h2⟩ := run_same hp (picks := picks) i
    obtain ⟨h3, h4⟩ := pick_same hp (fit_run hp i) h1 (picks.getD i 0)
    exact ⟨h3, by rw [runG, h4, h2]; rfl⟩
theorem left_same {p : List (List PO)} {s : Sta} {g : Pg} (h : Same p s g) : ∀ n, n ≤ p.length → doneB s p n = !leftB g n
  | 0, _ => rfl
  | n + 1, hn => by
    rw [doneB, leftB, left_same h n (by omega), Bool.not_or]
    congr 1
    have e : overB g n = decide (s.at' n = ((p.getD n []).length : Int)) := by rw [overB, h.p, ← h.at', Int.toNat_natCast]
    rw [Bool.eq_iff_iff, Option.isNone_iff_eq_none, next_none, e, ← h.begun]
    simp only [Int.toNat_natCast]
    cases s.begun n <;> simp <;> omega
theorem can_all {p : List (List PO)} {s : Sta} {g : Pg} (hp : progC badP p = 0) (hf : Fit p s.at') (h : Same p s g) : ∀ n, stuckB s p n = !canA g n
  | 0 => rfl
  | n + 1 => by rw [stuckB, canA, can_all hp hf h n, can_same hp hf h, Bool.not_or]
/-- **Both agree.** -/
theorem runs_same (p : List (List PO)) (picks : List Int) : (runF p picks).1 = (progR p picks).1 ∧ (runF p picks).2.1 = (progR p picks).2.1.getD [] ∧ (runF p picks).2.2 = (progR p picks).2.2 := by
  unfold runF progR
  by_cases hp : progC badP p = 0
  · have h0 : ¬ (progC badP p ≠ 0) := by simp [hp]
    simp only [if_neg h0]
    by_cases hc : 100 < picks.length
    · simp only [if_pos hc, Option.getD_none, and_self]
    · simp only [if_neg hc]
      obtain ⟨h1, h2⟩ := run_same hp (picks := picks) picks.length
      refine ⟨?_, h2.symm, trivial⟩
      show endF' _ _ = endG _
      unfold endF' endG
      rw [h1.p, left_same h1 _ (Nat.le_refl _), can_all hp (fit_run hp _) h1, h1.en, Bool.not_not]
      cases leftB (runG p picks picks.length) p.length <;> cases canA (runG p picks picks.length) p.length <;> rfl
  · rw [if_pos hp, if_pos hp]; exact ⟨rfl, rfl, rfl⟩
end Go.Proofs.Ytafcmgfmmlnngaa.Rn
