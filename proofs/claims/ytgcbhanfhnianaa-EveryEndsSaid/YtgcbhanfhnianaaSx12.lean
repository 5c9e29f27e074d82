import Derived.Test.YtgcbhanfhnianaaSx10
import Derived.Laws.AppendOwnNone
import Derived.Laws.BytesString
import Derived.Laws.IdiomStrings
/-! Sx, part 11: append. -/
set_option linter.unusedSimpArgs false
set_option linter.unusedVariables false
namespace Go.Sx
open Go

variable {P : Program}

theorem SatE.append {ε : Env} {w : Nat} {l l2 : List SV} {xs ys : List Value} (h : SatE ε w l xs) (h2 : SatE ε w l2 ys) : SatE ε w (l ++ l2) (xs ++ ys) := by
  refine ⟨by simp [h.1, h2.1, Nat.add_mul], fun j hj => ?_⟩
  have e1 := h.1
  have e2 := h2.1
  rw [List.length_append] at hj
  by_cases hjl : j < l.length
  · have := mul_le_len (w := w) hjl
    have hg : (l ++ l2).getD j .junk = l.getD j .junk := by simp [List.getD, List.getElem?_append_left hjl]
    rw [hg]
    have hs : sub (xs ++ ys) (j * w) w = sub xs (j * w) w := by
      apply List.ext_getElem?
      intro k
      rw [sub_get, sub_get]
      by_cases hk : k < w
      · rw [if_pos hk, if_pos hk, List.getElem?_append_left (by omega)]
      · rw [if_neg hk, if_neg hk]
    rw [hs]
    exact h.2 j hjl
  · have hg : (l ++ l2).getD j .junk = l2.getD (j - l.length) .junk := by simp [List.getD, List.getElem?_append_right (Nat.le_of_not_lt hjl)]
    rw [hg]
    have hjw : j * w = l.length * w + (j - l.length) * w := by rw [← Nat.add_mul]; congr 1; omega
    have hs : sub (xs ++ ys) (j * w) w = sub ys ((j - l.length) * w) w := by
      apply List.ext_getElem?
      intro k
      rw [sub_get, sub_get]
      by_cases hk : k < w
      · rw [if_pos hk, if_pos hk, List.getElem?_append_right (by omega)]
        congr 1; omega
      · rw [if_neg hk, if_neg hk]
    rw [hs]
    exact h2.2 _ (by omega)

theorem srcL_ok {m : List Res} {w : Nat} {x : SV} {l2 : List SV} (h : srcL m w x = some l2) {ε : Env} {W : World} (hg : Good ε m W) {v : Value} (hx : SatV ε x v) :
    ∃ ao c news, v = .slice ao l2.length c ∧ SatE ε w l2 news ∧ (ao = none → l2 = [] ∧ c = 0) ∧ (∀ a, ao = some a → ∀ j u, news[j]? = some u → W.cell? (a.add j) = some u) ∧ ∀ u ∈ news, u.oneCell' = true := by
  have red : ∃ y, srcL m w y = some l2 ∧ SatV ε y v ∧ (∀ {τ : Type} (w' : Nat) (d : τ) (f : τ → SV) (l : List τ), y ≠ .lit w' d f l) := by
    cases x
    case lit w' d f l => exact ⟨.lst w' d f l, by simpa only [srcL] using h, (lit_lst hx).1, by intro _ _ _ _ _ h; cases h⟩
    all_goals exact ⟨_, h, hx, by intro _ _ _ _ _ h; cases h⟩
  clear h hx
  obtain ⟨x, h, hx, hnl⟩ := red
  cases x <;> simp only [srcL] at h <;> try (cases h; done)
  case lit => exact absurd rfl (hnl _ _ _ _)
  case vec j n =>
    split at h <;> try (cases h; done)
    rename_i T w' l hm
    split at h <;> try (cases h; done)
    rename_i hw
    subst hw
    simp only [Option.some.injEq] at h; subst h
    obtain ⟨hj, _, rfl⟩ := sat_vec hx
    obtain ⟨xs, ho, hel⟩ : ResOK ε j W (.vec T w' l) := hm ▸ hg.res j
    have hE : SatE ε w' l xs := ⟨ho.1, hel⟩
    have hone : ∀ u ∈ xs, u.oneCell' = true := by
      intro u hu
      obtain ⟨i, hi, hm2⟩ := mem_pieces ho.1 hu
      exact SatC.one _ (hel i hi) u hm2
    have ho2 := ho
    obtain ⟨ol, ho⟩ := ho
    rcases ho with ⟨e, e2⟩ | ⟨g, cap, cur, e, _⟩
    · exact ⟨none, 0, xs, by rw [e, e2], hE, fun _ => ⟨List.eq_nil_of_length_eq_zero e2, rfl⟩, (fun _ hh => by cases hh), hone⟩
    · exact ⟨some ⟨g, 0, none⟩, cap, xs, e, hE, (fun hh => by cases hh), (fun a ha => by cases ha; exact ho2.cells (g := g) (by rw [e]; rfl)), hone⟩
  case lst τ w' d f l =>
    split at h <;> try (cases h; done)
    rename_i hw
    subst hw
    simp only [Option.some.injEq] at h; subst h
    obtain ⟨cs, h1, h2⟩ := hx
    simp only [SatC] at h1
    obtain ⟨ao, cap, rfl, h3, h4, h5, h6⟩ := h1
    have hv : v = .slice ao l.length cap := h2
    cases hl : l with
    | nil =>
      subst hl
      refine ⟨ao, cap, [], by simpa using hv, ⟨by simp, fun j hj => by simp at hj⟩, fun e => ⟨rfl, h5 e⟩, fun a _ j u hu => by simp at hu, by simp⟩
    | cons x0 r =>
      have hpos : 0 < l.length := by rw [hl]; simp
      rw [← hl]
      obtain ⟨b, off, T, fz, cur, rfl, g2, g3, g4⟩ := h6 0 hpos
      obtain ⟨b', off', T', fz', cur', e', g2', g3', g4'⟩ := h6 (l.length - 1) (by omega)
      simp only [Option.some.injEq, Addr.mk.injEq] at e'
      obtain ⟨rfl, rfl, _⟩ := e'
      rw [g2] at g2'
      simp only [Option.some.injEq, Obj.cells.injEq] at g2'
      obtain ⟨rfl, rfl, rfl⟩ := g2'
      have hbig : off + l.length * w' ≤ cur.size := by
        have : (l.length - 1) * w' + w' = l.length * w' := by rw [← Nat.succ_mul]; congr 1; omega
        omega
      have hsl : (sub cur.toList off (l.length * w')).length = l.length * w' := sub_length (by simpa using hbig)
      refine ⟨some ⟨b, off, none⟩, cap, sub cur.toList off (l.length * w'), by simpa using hv, ⟨by rw [hsl]; simp, fun j hj => ?_⟩, (fun hh => by cases hh), fun a ha j u hu => ?_, fun u hu => ?_⟩
      · simp only [List.length_map] at hj
        obtain ⟨b2, off2, T2, fz2, cur2, e2, k2, k3, k4⟩ := h6 j hj
        simp only [Option.some.injEq, Addr.mk.injEq] at e2
        obtain ⟨rfl, rfl, _⟩ := e2
        rw [g2] at k2
        simp only [Option.some.injEq, Obj.cells.injEq] at k2
        obtain ⟨rfl, rfl, rfl⟩ := k2
        rw [sub_sub (mul_le_len hj)]
        have : (l.map f).getD j .junk = f (l.getD j d) := by simp [List.getD, hj]
        rw [this]
        exact k4.mono _ (Env.cl_le ε)
      · cases ha
        rw [Addr.add_lit]
        rw [sub_get] at hu
        split at hu <;> try (cases hu; done)
        have hb := hg.hv b _ g2
        simp only [World.cell?, hb]
        simpa using hu
      · obtain ⟨i, hi, hm2⟩ := mem_pieces (n := l.length) (w := w') hsl hu
        obtain ⟨b2, off2, T2, fz2, cur2, e2, k2, k3, k4⟩ := h6 i hi
        simp only [Option.some.injEq, Addr.mk.injEq] at e2
        obtain ⟨rfl, rfl, _⟩ := e2
        rw [g2] at k2
        simp only [Option.some.injEq, Obj.cells.injEq] at k2
        obtain ⟨rfl, rfl, rfl⟩ := k2
        rw [sub_sub (mul_le_len hi)] at hm2
        exact SatC.one _ k4 u hm2
  case nils =>
    simp only [Option.some.injEq] at h; subst h
    have := sat_nils hx
    exact ⟨none, 0, [], this, ⟨by simp, fun j hj => by simp at hj⟩, fun _ => ⟨rfl, rfl⟩, (fun _ hh => by cases hh), by simp⟩

theorem run_app {E t ty : TypeId} {i : TypeInfo} {z : Value} {w by' : Nat} {W : World} (ht : P.underlying t = some (.slice E)) (hi : P.info? E = some i) (hz : i.zero = some z) (hw : i.size = w) (hby : i.bytes = by') (hzs : z.cells.size = w) (hw0 : 0 < w)
    {v : Value} {n : Nat} {xs : List Value} (hown : W.ownsRow 0 E w v n xs) {ao : Option Addr} {k c : Nat} {news : List Value} (hl : news.length = k * w) (hnone : ao = none → k = 0 ∧ c = 0)
    (hnews : ∀ a, ao = some a → ∀ j u, news[j]? = some u → W.cell? (a.add j) = some u) (h1 : ∀ u ∈ news, u.oneCell' = true) (h63 : n + k ≤ maxLen) (hbytes : (n + k) * by' ≤ 140737488355328) :
    ∃ v' W', (Builtin.append_ #[t, t] ty #[v, .slice ao k c]).run P W = .ok v' W' ∧ W'.ownsRow 0 E w v' (n + k) (xs ++ news) ∧ (W.grownBy W' v.ownBlock ∧ W.drawn ≤ W'.drawn) ∧ (v'.ownBlock = v.ownBlock ∨ ∀ b, v'.ownBlock = some b → W.heap.size ≤ b) := by
  cases ao with
  | none =>
    obtain ⟨rfl, rfl⟩ := hnone rfl
    have hn : news = [] := List.eq_nil_of_length_eq_zero (by simpa using hl)
    subst hn
    refine ⟨v, W, ?_, by simpa using hown, ⟨⟨rfl, rfl, rfl, Nat.le_refl _, fun _ _ _ => rfl⟩, Nat.le_refl _⟩, .inl rfl⟩
    rcases hown.2 with ⟨rfl, rfl⟩ | ⟨g, cap, cur, rfl, _, _, hle, _⟩
    · simp [Builtin.append_, run_underlying ht, sizeOf, typeInfo, hi, Builtin.lenOf, Builtin.firstCells]
    · simp [Builtin.append_, run_underlying ht, sizeOf, typeInfo, hi, Builtin.lenOf, Builtin.firstCells, hle, storeCells]
  | some a =>
    obtain ⟨v', W', hr, h2, h3, _⟩ := run_append_own (P := P) W 0 t ty E i z w by' ht hi hz hw hby hzs hw0 v n xs hown a k c news hl (hnews a rfl) h1 h63 hbytes (Nat.zero_le _)
    refine ⟨v', W', hr, h2, ?_⟩
    subst hw
    subst hby
    have hsmall : n + k ≤ 9223372036854775807 := by simp only [maxLen] at h63; omega
    rcases hown.2 with ⟨rfl, rfl⟩ | ⟨g, cap, cur, rfl, hbg, hg, hnc, hcm, hcs, htake⟩
    · by_cases hk : k = 0
      · subst hk
        have hn : news = [] := List.eq_nil_of_length_eq_zero (by simpa using hl)
        subst hn
        have : (Builtin.append_ #[t, t] ty #[.slice none 0 0, .slice (some a) 0 c]).run P W = .ok (.slice none 0 0) W := by
          simp [Builtin.append_, run_underlying ht, sizeOf, typeInfo, hi, Builtin.lenOf, Builtin.firstCells, loadCells, loadCellsFrom]
        rw [this] at hr
        injection hr with e1 e2
        refine ⟨⟨h3, by rw [← e2]; first | exact Nat.le_refl _ | exact Nat.le_succ _ | simp⟩, ?_⟩
        left; rw [← e1]
      · have := run_append_nil (P := P) W t ty E i z ht hi hz a k c news hl (hnews a rfl) (by omega) (by omega) (by simp only [Nat.zero_add] at hbytes; omega)
        rw [this] at hr
        injection hr with e1 e2
        refine ⟨⟨h3, by rw [← e2]; first | exact Nat.le_refl _ | exact Nat.le_succ _ | simp⟩, ?_⟩
        right
        intro b hb
        rw [← e1] at hb
        simp [Value.ownBlock] at hb
        omega
    · by_cases hroom : n + k ≤ cap
      · have hfit : n * i.size + news.length ≤ cur.size := by rw [hl, hcs, ← Nat.add_mul]; exact Nat.mul_le_mul_right _ hroom
        have := run_append_room (P := P) W t ty E i ht hi g n cap cur hg a k c news hl (hnews a rfl) h1 hroom hfit
        rw [this] at hr
        injection hr with e1 e2
        refine ⟨⟨h3, by rw [← e2]; first | exact Nat.le_refl _ | exact Nat.le_succ _ | simp⟩, ?_⟩
        left; rw [← e1]; rfl
      · have := run_append_grow (P := P) W t ty E i z ht hi hz ⟨g, 0, none⟩ n cap xs hown.1 (hown.cells (g := g) rfl) a k c news hl (hnews a rfl) (by omega) (by omega) (growslice_fits (by omega) hbytes)
        rw [this] at hr
        injection hr with e1 e2
        refine ⟨⟨h3, by rw [← e2]; first | exact Nat.le_refl _ | exact Nat.le_succ _ | simp⟩, ?_⟩
        right
        intro b hb
        rw [← e1] at hb
        simp [Value.ownBlock] at hb
        omega

section
variable {o : Oper} {σ : List SV} {m : List Res}

def compApp (P : Program) (t : TypeId) : Option (TypeId × Nat × Nat) :=
  match P.underlying t with
  | some (.slice E) => match P.info? E, zok P E with
    | some i, some z => if i.size = wd z ∧ 0 < i.size ∧ 0 < i.bytes then some (E, i.size, i.bytes) else none
    | _, _ => none
  | _ => none

theorem compApp_ok {t E : TypeId} {w by' : Nat} (h : compApp P t = some (E, w, by')) : P.underlying t = some (.slice E) ∧ ∃ i z, P.info? E = some i ∧ i.zero = some z ∧ i.size = w ∧ i.bytes = by' ∧ z.cells.size = w ∧ 0 < w ∧ 0 < by' := by
  unfold compApp at h
  split at h <;> try (cases h; done)
  rename_i E' hu
  split at h <;> try (cases h; done)
  rename_i i z h1 h2
  split at h <;> try (cases h; done)
  rename_i hc
  simp only [Option.some.injEq, Prod.mk.injEq] at h
  obtain ⟨rfl, rfl, rfl⟩ := h
  obtain ⟨i', v, e1, e2, e3⟩ := zok_ok h2
  rw [h1] at e1
  cases e1
  have := SatC.length _ (e3 ⟨0, fun _ => 0, fun _ => undef, fun _ => none⟩)
  exact ⟨hu, i, v, h1, e2, rfl, rfl, by rw [← Array.length_toList, this]; exact hc.1.symm, hc.2.1, hc.2.2⟩

def appK (σ : List SV) (m : List Res) (E : TypeId) (w by' : Nat) (s x : SV) (K : List SV → SV → List Res → Prop) : Prop :=
  match srcL m w x with
  | none => False
  | some l2 => match s with
    | .nils => l2.length * by' ≤ 140737488355328 ∧ K σ (.vec m.length l2.length) (m ++ [.vec E w l2])
    | .vec i _ => match memAt m i with
      | .vec E' w' l => (E' = E ∧ w' = w ∧ (l.length + l2.length) * by' ≤ 140737488355328) ∧
          K (killL i σ) (.vec i (l.length + l2.length)) ((m.map (killR i)).set i (.vec E w (killL i (l ++ l2))))
      | _ => False
    | _ => False

theorem estep_app {t : TypeId} {E : TypeId} {w by' : Nat} {s x : Operand} {s' x' : Opd} {K : List SV → SV → List Res → Prop}
    (ho : o.op = .call { callee := .builtin .append, args := #[s, x], argTypes := #[t, t] }) (ht : compApp P t = some (E, w, by')) (hs' : compO s = some s') (hx' : compO x = some x')
    (h : appK σ m E w by' (s'.ev σ) (x'.ev σ) K) : ∃ σ' sv m', K σ' sv m' ∧ EStep P o σ m σ' sv m' := by
  obtain ⟨hu, i, z, hi, hz, hsz, hby, hzs, hw0, hb0⟩ := compApp_ok ht
  have hrun : ∀ (a : Act) W, (execOp a.eval o).run P W = ((Builtin.append_ #[t, t] o.type #[a.eval s, a.eval x]).run P W).andThen fun v w => .ok (.value v) w := by
    intro a W
    simp [execOp, ho, resolve, invoke, builtin]
  have h63 : ∀ n : Nat, n * by' ≤ 140737488355328 → n ≤ maxLen := by
    intro n hn
    have : n ≤ n * by' := Nat.le_mul_of_pos_right _ hb0
    unfold maxLen; omega
  unfold appK at h
  split at h
  · exact h.elim
  · rename_i l2 hl2
    split at h
    · rename_i es
      refine ⟨_, _, _, h.2, fun β ε a W hI hs Q => ?_⟩
      obtain ⟨ao, c, news, e1, e2, e3, e4, e5⟩ := srcL_ok hl2 hI.good (compO_ok hx' hs)
      have e6 := sat_nils (es ▸ compO_ok hs' hs)
      obtain ⟨v', W', hr, g1, g2, g3⟩ := run_app (P := P) (ty := o.type) (W := W) hu hi hz hsz hby hzs hw0 (World.ownsRow_nil W 0 E w) e2.1 (fun hn => by obtain ⟨q1, q2⟩ := e3 hn; rw [q1]; exact ⟨rfl, q2⟩) e4 e5 (by rw [Nat.zero_add]; exact h63 _ h.1) (by rw [Nat.zero_add]; exact h.1)
      rw [Nat.zero_add, List.nil_append] at g1
      have g2' : W.grownBy W' none := g2.1
      unfold Oper.wp
      rw [hrun, e6, e1, hr, Result.andThen_ok, Oper.upon_value]
      refine ⟨v', ε.more 0 v', rfl, ?_, hs.mono (ε.le_more _ _), hI.more g2' g2.2 ?_ ?_⟩
      · refine ⟨[v'], ?_, rfl⟩
        simp only [SatC]
        have hvv : (ε.more 0 v').vv m.length = v' := by simp [Env.more, hI.good.n]
        refine ⟨by simp [Env.more, hI.good.n], ?_, by rw [hvv]⟩
        rw [hvv]
        rcases g1.2 with ⟨q1, q2⟩ | ⟨g, cap, cur, q, _, _, q4, _⟩
        · exact .inl ⟨q1, q2⟩
        · exact .inr ⟨g, cap, q, q4⟩
      · have hvv : (ε.more 0 v').vv m.length = v' := by simp [Env.more, hI.good.n]
        exact ⟨news, by rw [hvv]; exact g1, fun j hj => (e2.2 j hj).mono _ (ε.le_more _ _)⟩
      · intro b hb
        simp [ownR, Env.more, hI.good.n] at hb
        rcases g3 with g3 | g3
        · rw [g3] at hb; simp [Value.ownBlock] at hb
        · exact g3 b hb
    · rename_i i' n' es
      split at h <;> try (exact h.elim)
      rename_i E' w' l hm
      obtain ⟨⟨rfl, rfl, hb⟩, hK⟩ := h
      refine ⟨_, _, _, hK, fun β ε a W hI hs Q => ?_⟩
      obtain ⟨ao, c, news, e1, e2, e3, e4, e5⟩ := srcL_ok hl2 hI.good (compO_ok hx' hs)
      obtain ⟨hi', _, e6⟩ := sat_vec (es ▸ compO_ok hs' hs)
      obtain ⟨xs, hown, hel⟩ : ResOK ε i' W (.vec E' w' l) := hm ▸ hI.good.res i'
      obtain ⟨v', W', hr, g1, g2, g3⟩ := run_app (P := P) (ty := o.type) (W := W) hu hi hz hsz hby hzs hw0 hown e2.1 (fun hn => by obtain ⟨q1, q2⟩ := e3 hn; rw [q1]; exact ⟨rfl, q2⟩) e4 e5 (h63 _ hb) hb
      have hE : SatE ε w' (l ++ l2) (xs ++ news) := SatE.append ⟨hown.1, hel⟩ e2
      have hgr := hI.grown (v' := v') (l' := l ++ l2) (ys := xs ++ news) hm g2.1 g2.2 (by rw [List.length_append]; exact g1) g3 hE.2
      unfold Oper.wp
      rw [hrun, e6, e1, hr, Result.andThen_ok, Oper.upon_value]
      refine ⟨v', _, rfl, ?_, hs.kill hgr.2, hgr.1⟩
      refine ⟨[v'], ?_, rfl⟩
      simp only [SatC, if_true]
      refine ⟨hi', ?_, trivial⟩
      rcases g1.2 with ⟨q1, q2⟩ | ⟨g, cap, cur, q, _, _, q4, _⟩
      · exact .inl ⟨q1, q2⟩
      · exact .inr ⟨g, cap, q, q4⟩
    · exact h.elim
end


theorem Inv.drop {β : Base} {ε : Env} {m : List Res} {w : World} (h : Inv β ε m w) {i : Nat} (hi : (memAt m i).isVec = true) : Inv β ε (m.set i .dead) w := by
  have hil : i < m.length := by
    rcases Nat.lt_or_ge i m.length with hi' | hi'
    · exact hi'
    · rw [memAt_ge hi'] at hi; cases hi
  have hat : ∀ j, memAt (m.set i .dead) j = if j = i then .dead else memAt m j := by
    intro j
    unfold memAt
    rw [List.getD, List.getElem?_set]
    by_cases hj : i = j
    · subst hj; simp [hil]
    · rw [if_neg hj, if_neg (fun e => hj e.symm)]; rfl
  have hown : ∀ j b, ownR ε j (memAt (m.set i .dead) j) = some b → j ≠ i ∧ ownR ε j (memAt m j) = some b := by
    intro j b hb
    rw [hat] at hb
    by_cases hj : j = i
    · rw [if_pos hj] at hb; cases hb
    · rw [if_neg hj] at hb; exact ⟨hj, hb⟩
  refine ⟨⟨by simp [h.good.n], fun j => ?_, fun a b x hab h1 h2 => h.good.disj a b x hab (hown _ _ h1).2 (hown _ _ h2).2, fun a b hb => h.good.sep a b (hown _ _ hb).2, h.good.hv⟩, h.kept, fun a b hb => h.own a b (hown _ _ hb).2, h.n, h.blk, fun j hj hv => ?_⟩
  · rw [hat]
    by_cases hj : j = i
    · rw [if_pos hj]; trivial
    · rw [if_neg hj]; exact h.good.res j
  · rw [hat] at hv
    by_cases hji : j = i
    · rw [if_pos hji] at hv; cases hv
    · rw [if_neg hji] at hv; exact h.vv j hj hv

theorem Inv.more2 {β : Base} {ε : Env} {m : List Res} {w w' : World} (h : Inv β ε m w) {b : Nat} {v : Value} {r : Res} {row : Option Nat} (hg : w.grownBy w' row) (hd : w.drawn ≤ w'.drawn)
    (hrow : ∀ x, row = some x → (∀ i, ownR ε i (memAt m i) ≠ some x) ∧ ε.H x = none ∧ x < w.heap.size ∧ (β.B x ∨ β.w.heap.size ≤ x))
    (hres : ResOK (ε.more b v) m.length w' r) (hown : ∀ x, ownR (ε.more b v) m.length r = some x → w.heap.size ≤ x ∨ row = some x) :
    Inv β (ε.more b v) (m ++ [r]) w' := by
  have hn := h.good.n
  have hw : ∀ b, b < w.heap.size → row ≠ some b → w'.heap[b]? = w.heap[b]? := fun b hb hr => hg.block b hb (fun e => hr e.symm)
  have hle := ε.le_more b v
  have hownI : ∀ i, i < m.length → ownR (ε.more b v) i (memAt (m ++ [r]) i) = ownR ε i (memAt m i) := by
    intro i hi
    rw [memAt_append_lt hi]
    have hi' : i < ε.n := by omega
    cases memAt m i <;> simp [ownR, Env.more, Nat.ne_of_lt hi']
  have hcase : ∀ i x, ownR (ε.more b v) i (memAt (m ++ [r]) i) = some x → (i < m.length ∧ ownR ε i (memAt m i) = some x) ∨ (i = m.length ∧ (w.heap.size ≤ x ∨ row = some x)) := by
    intro i x hb
    rcases Nat.lt_trichotomy i m.length with hi | hi | hi
    · rw [hownI i hi] at hb; exact .inl ⟨hi, hb⟩
    · subst hi; rw [memAt_snoc] at hb; exact .inr ⟨rfl, hown x hb⟩
    · rw [memAt_ge (by simp; omega)] at hb; cases hb
  have hne : ∀ i x, ownR ε i (memAt m i) = some x → w'.heap[x]? = w.heap[x]? := fun i x hx => hw x (ownR_lt h.good hx) (fun e => (hrow x e).1 i hx)
  refine ⟨⟨by simp [Env.more, hn], fun i => ?_, fun i j x hij h1 h2 => ?_, fun i x hb => ?_, fun x o hb => ?_⟩, ⟨hg.os.trans h.kept.os, hg.tape.trans h.kept.tape, hg.output.trans h.kept.output, Nat.le_trans h.kept.size hg.size, ?_, h.kept.H, h.kept.fresh, Nat.le_trans h.kept.drawn hd⟩, fun i x hb => ?_, ?_, fun i hi => ?_, fun i hi hv => ?_⟩
  · rcases Nat.lt_trichotomy i m.length with hi | hi | hi
    · rw [memAt_append_lt hi]
      have hi' : i < ε.n := by omega
      have hr := h.good.res i
      cases hm : memAt m i with
      | dead => trivial
      | blk T c =>
        rw [hm] at hr
        obtain ⟨cs, h1, h2⟩ := hr
        exact ⟨cs, by rw [hle.blk i hi', hne i _ (by rw [hm]; rfl)]; exact h1, h2.mono c hle⟩
      | vec T wd l =>
        rw [hm] at hr
        obtain ⟨xs, h1, h2⟩ := hr
        refine ⟨xs, ?_, fun j hj => (h2 j hj).mono _ hle⟩
        rw [hle.vv i hi']
        refine ⟨h1.1, ?_⟩
        rcases h1.2 with hx | ⟨gg, cap, cur, e1, e2, e3, e4⟩
        · exact .inl hx
        · exact .inr ⟨gg, cap, cur, e1, e2, by rw [hne i gg (by rw [hm]; simp [ownR, e1, Value.ownBlock])]; exact e3, e4⟩
      | mp ek ev l =>
        rw [hm] at hr
        obtain ⟨es, cl, h1, h2⟩ := hr
        exact ⟨es, cl, by rw [hle.blk i hi', hne i _ (by rw [hm]; rfl)]; exact h1, h2⟩
    · subst hi; rw [memAt_snoc]; exact hres
    · rw [memAt_ge (by simp; omega)]; trivial
  · rcases hcase i x h1 with ⟨hi, h1'⟩ | ⟨hi, hb⟩ <;> rcases hcase j x h2 with ⟨hj, h2'⟩ | ⟨hj, hb2⟩
    · exact h.good.disj i j x hij h1' h2'
    · rcases hb2 with hb2 | hb2
      · have := ownR_lt h.good h1'; omega
      · exact (hrow x hb2).1 i h1'
    · rcases hb with hb | hb
      · have := ownR_lt h.good h2'; omega
      · exact (hrow x hb).1 j h2'
    · omega
  · rcases hcase i x hb with ⟨_, h1⟩ | ⟨_, h1 | h1⟩
    · exact h.good.sep i x h1
    · cases hh : ε.H x with
      | none => exact hh
      | some o => have := H_lt h.good hh; omega
    · exact (hrow x h1).2.1
  · rw [hw x (H_lt h.good hb) (fun e => by have h3 := (hrow x e).2.1; have hb' : ε.H x = some o := hb; rw [h3] at hb'; cases hb')]; exact h.good.hv x o hb
  · intro x hb hB
    rw [hw x (Nat.lt_of_lt_of_le hb h.kept.size) (fun e => by
      rcases (hrow x e).2.2.2 with q | q
      · exact hB q
      · omega)]
    exact h.kept.heap x hb hB
  · rcases hcase i x hb with ⟨_, h1⟩ | ⟨_, h1 | h1⟩
    · exact h.own i x h1
    · right; exact Nat.le_trans h.kept.size h1
    · exact (hrow x h1).2.2.2
  · have := h.n; simp [Env.more]; omega
  · have := h.n
    have e := h.blk i hi
    simp [Env.more]
    rw [if_neg (by omega)]; exact e
  · have hn' := h.n
    rw [memAt_append_lt (by omega)] at hv
    have e := h.vv i hi hv
    simp [Env.more]
    rw [if_neg (by omega)]; exact e


section
variable {o : Oper} {σ : List SV} {m : List Res}

def appM (m : List Res) (E : TypeId) (w by' : Nat) (s x : SV) (K : SV → List Res → Prop) : Prop :=
  match srcL m w x with
  | none => False
  | some l2 => match s with
    | .nils => l2.length * by' ≤ 140737488355328 ∧ K (.vec m.length l2.length) (m ++ [.vec E w l2])
    | .vec i _ => match memAt m i with
      | .vec E' w' l => (E' = E ∧ w' = w ∧ (l.length + l2.length) * by' ≤ 140737488355328) ∧
          K (.vec m.length (l.length + l2.length)) (m.set i .dead ++ [.vec E w (l ++ l2)])
      | _ => False
    | .lit w' d f l => if l2.isEmpty then w' = w ∧ K (.lit w' d f l) m else (w' = w ∧ (l.length + l2.length) * by' ≤ 140737488355328) ∧
        K (.vec m.length (l.length + l2.length)) (m ++ [.vec E w (l.map f ++ l2)])
    | _ => False
theorem run_app_full {E t ty : TypeId} {i : TypeInfo} {z : Value} {w by' : Nat} {W : World} (ht : P.underlying t = some (.slice E)) (hi : P.info? E = some i) (hz : i.zero = some z) (hw : i.size = w) (hby : i.bytes = by') (hzs : z.cells.size = w) (hw0 : 0 < w)
    {b : Addr} {n : Nat} {xs : List Value} (hlo : xs.length = n * w) (holds : ∀ j u, xs[j]? = some u → W.cell? (b.add j) = some u) {a : Addr} {k c : Nat} {news : List Value} (hl : news.length = k * w) (hk : 0 < k)
    (hnews : ∀ j u, news[j]? = some u → W.cell? (a.add j) = some u) (h63 : n + k ≤ maxLen) (hbytes : (n + k) * by' ≤ 140737488355328) :
    ∃ v' W', (Builtin.append_ #[t, t] ty #[.slice (some b) n n, .slice (some a) k c]).run P W = .ok v' W' ∧ W'.ownsRow 0 E w v' (n + k) (xs ++ news) ∧ (W.grownBy W' none ∧ W.drawn ≤ W'.drawn) ∧ ∀ b, v'.ownBlock = some b → W.heap.size ≤ b := by
  subst hw
  subst hby
  have hsmall : n + k ≤ 9223372036854775807 := by simp only [maxLen] at h63; omega
  have hlen : (xs ++ news).length = (n + k) * i.size := by rw [List.length_append, hlo, hl, Nat.add_mul]
  have hr := run_append_grow (P := P) W t ty E i z ht hi hz b n n xs hlo holds a k c news hl hnews (by omega) (by omega) (growslice_fits (by omega) hbytes)
  have hge := grownCap_ge W (n + k) n E
  have hcm : grownCap W (n + k) n E ≤ maxLen := grownCap_le_maxLen W (n + k) n E h63
  refine ⟨_, _, hr, ⟨hlen, .inr ⟨W.heap.size, _, _, rfl, Nat.zero_le _, heap_alloc_new W.drew _, hge, hcm, ?_, ?_⟩⟩, ⟨⟨rfl, rfl, rfl, by simp, fun j hj _ => Go.RowKit.Below.heap_alloc W.drew _ j hj⟩, Nat.le_succ _⟩, fun b hb => ?_⟩
  · simp only [Array.size_append, List.size_toArray, size_zeroCells, hzs, hlo, hl, ← Nat.add_mul]
    congr 1
    omega
  · simp only [Array.toList_append, List.append_assoc]
    rw [← List.append_assoc, ← hlen]
    exact List.take_left
  · simp only [Value.ownBlock, Option.some.injEq] at hb
    omega
theorem estep_appM {t : TypeId} {E : TypeId} {w by' : Nat} {s x : Operand} {s' x' : Opd} {K : SV → List Res → Prop}
    (ho : o.op = .call { callee := .builtin .append, args := #[s, x], argTypes := #[t, t] }) (ht : compApp P t = some (E, w, by')) (hs' : compO s = some s') (hx' : compO x = some x')
    (h : appM m E w by' (s'.ev σ) (x'.ev σ) K) : ∃ sv m', K sv m' ∧ EStepL P o σ m sv m' := by
  obtain ⟨hu, i, z, hi, hz, hsz, hby, hzs, hw0, hb0⟩ := compApp_ok ht
  have hrun : ∀ (a : Act) W, (execOp a.eval o).run P W = ((Builtin.append_ #[t, t] o.type #[a.eval s, a.eval x]).run P W).andThen fun v w => .ok (.value v) w := by
    intro a W
    simp [execOp, ho, resolve, invoke, builtin]
  have h63 : ∀ n : Nat, n * by' ≤ 140737488355328 → n ≤ maxLen := by
    intro n hn
    have : n ≤ n * by' := Nat.le_mul_of_pos_right _ hb0
    unfold maxLen; omega
  have hsat : ∀ {ε : Env} {v' : Value} {n : Nat} {ys : List Value} {W' : World}, ε.n = m.length → W'.ownsRow 0 E w v' n ys → SatV (ε.more 0 v') (.vec m.length n) v' := by
    intro ε v' n ys W' hn g1
    refine ⟨[v'], ?_, rfl⟩
    simp only [SatC]
    have hvv : (ε.more 0 v').vv m.length = v' := by simp [Env.more, hn]
    refine ⟨by simp [Env.more, hn], ?_, by rw [hvv]⟩
    rw [hvv]
    rcases g1.2 with ⟨q1, q2⟩ | ⟨g, cap, cur, q, _, _, q4, _⟩
    · exact .inl ⟨q1, q2⟩
    · exact .inr ⟨g, cap, q, q4⟩
  unfold appM at h
  split at h
  · exact h.elim
  · rename_i l2 hl2
    split at h
    · rename_i es
      refine ⟨_, _, h.2, fun β ε a W hI hs Q => ?_⟩
      obtain ⟨ao, c, news, e1, e2, e3, e4, e5⟩ := srcL_ok hl2 hI.good (compO_ok hx' hs)
      have e6 := sat_nils (es ▸ compO_ok hs' hs)
      obtain ⟨v', W', hr, g1, g2, g3⟩ := run_app (P := P) (ty := o.type) (W := W) hu hi hz hsz hby hzs hw0 (World.ownsRow_nil W 0 E w) e2.1 (fun hn => by obtain ⟨q1, q2⟩ := e3 hn; rw [q1]; exact ⟨rfl, q2⟩) e4 e5 (by rw [Nat.zero_add]; exact h63 _ h.1) (by rw [Nat.zero_add]; exact h.1)
      rw [Nat.zero_add, List.nil_append] at g1
      have g2' : W.grownBy W' none := g2.1
      unfold Oper.wp
      rw [hrun, e6, e1, hr, Result.andThen_ok, Oper.upon_value]
      refine ⟨v', ε.more 0 v', rfl, hsat hI.good.n g1, ε.le_more _ _, hI.more g2' g2.2 ?_ ?_⟩
      · have hvv : (ε.more 0 v').vv m.length = v' := by simp [Env.more, hI.good.n]
        exact ⟨news, by rw [hvv]; exact g1, fun j hj => (e2.2 j hj).mono _ (ε.le_more _ _)⟩
      · intro b hb
        simp [ownR, Env.more, hI.good.n] at hb
        rcases g3 with g3 | g3
        · rw [g3] at hb; simp [Value.ownBlock] at hb
        · exact g3 b hb
    · rename_i i' n' es
      split at h <;> try (exact h.elim)
      rename_i E' w' l hm
      obtain ⟨⟨rfl, rfl, hb⟩, hK⟩ := h
      refine ⟨_, _, hK, fun β ε a W hI hs Q => ?_⟩
      obtain ⟨ao, c, news, e1, e2, e3, e4, e5⟩ := srcL_ok hl2 hI.good (compO_ok hx' hs)
      obtain ⟨hi', _, e6⟩ := sat_vec (es ▸ compO_ok hs' hs)
      obtain ⟨xs, hown, hel⟩ : ResOK ε i' W (.vec E' w' l) := hm ▸ hI.good.res i'
      obtain ⟨v', W', hr, g1, g2, g3⟩ := run_app (P := P) (ty := o.type) (W := W) hu hi hz hsz hby hzs hw0 hown e2.1 (fun hn => by obtain ⟨q1, q2⟩ := e3 hn; rw [q1]; exact ⟨rfl, q2⟩) e4 e5 (h63 _ hb) hb
      have hE : SatE ε w' (l ++ l2) (xs ++ news) := SatE.append ⟨hown.1, hel⟩ e2
      have hoi : ownR ε i' (memAt m i') = (ε.vv i').ownBlock := by rw [hm]; rfl
      have hd := hI.drop (i := i') (by rw [hm]; rfl)
      have hil : i' < m.length := by rw [← hI.good.n]; exact hi'
      have hat : ∀ j, memAt (m.set i' .dead) j = if j = i' then .dead else memAt m j := by
        intro j
        unfold memAt
        rw [List.getD, List.getElem?_set]
        by_cases hj : i' = j
        · subst hj; simp [hil]
        · rw [if_neg hj, if_neg (fun e => hj e.symm)]; rfl
      have hlen : (m.set i' .dead).length = m.length := by simp
      have hmore := hd.more2 (b := 0) (v := v') (r := .vec E' w' (l ++ l2)) g2.1 g2.2 (fun x hx => by
        have hx' : ownR ε i' (memAt m i') = some x := by rw [hoi]; exact hx
        refine ⟨fun j hj => ?_, hI.good.sep i' x hx', ownR_lt hI.good hx', hI.own i' x hx'⟩
        rw [hat] at hj
        by_cases hji : j = i'
        · rw [if_pos hji] at hj; cases hj
        · rw [if_neg hji] at hj; exact hI.good.disj j i' x hji hj hx')
        (by
          have hvv : (ε.more 0 v').vv (m.set i' .dead).length = v' := by rw [hlen]; simp [Env.more, hI.good.n]
          exact ⟨xs ++ news, by rw [hvv, List.length_append]; exact g1, fun j hj => (hE.2 j hj).mono _ (ε.le_more _ _)⟩)
        (fun x hx => by
          have hvv : (ε.more 0 v').vv (m.set i' .dead).length = v' := by rw [hlen]; simp [Env.more, hI.good.n]
          simp only [ownR, hvv] at hx
          rcases g3 with g3 | g3
          · right; rw [← g3]; exact hx
          · left; exact g3 x hx)
      unfold Oper.wp
      rw [hrun, e6, e1, hr, Result.andThen_ok, Oper.upon_value]
      exact ⟨v', ε.more 0 v', rfl, hsat hI.good.n g1, ε.le_more _ _, hmore⟩
    · rename_i τ w' d f l es
      split at h
      · rename_i hem
        obtain ⟨rfl, hK⟩ := h
        refine ⟨_, _, hK, fun β ε a W hI hs Q => ?_⟩
        have hl0 : l2 = [] := by simpa using hem
        subst hl0
        obtain ⟨ao, c, news, e1, e2, e3, e4, e5⟩ := srcL_ok hl2 hI.good (compO_ok hx' hs)
        have hsv := es ▸ compO_ok hs' hs
        obtain ⟨q1, ao2, q2, q3⟩ := lit_lst hsv
        have hr : (Builtin.append_ #[t, t] o.type #[.slice ao2 l.length l.length, .slice ao 0 c]).run P W = .ok (.slice ao2 l.length l.length) W := by
          have hn : news = [] := List.eq_nil_of_length_eq_zero (by have := e2.1; simpa using this)
          cases ao with
          | none =>
            simp [Builtin.append_, run_underlying hu, sizeOf, typeInfo, hi, Builtin.lenOf, Builtin.firstCells, loadCells, loadCellsFrom, storeCells]
            cases ao2 <;> simp [storeCells]
          | some a =>
            simp [Builtin.append_, run_underlying hu, sizeOf, typeInfo, hi, Builtin.lenOf, Builtin.firstCells, loadCells, loadCellsFrom, storeCells]
            cases ao2 <;> simp [storeCells]
        unfold Oper.wp
        have e1' : a.eval x = .slice ao 0 c := e1
        rw [hrun, q2, e1', hr, Result.andThen_ok, Oper.upon_value]
        exact ⟨_, ε, rfl, q2 ▸ hsv, Env.Le.refl ε, hI⟩
      · rename_i hem
        obtain ⟨⟨rfl, hb⟩, hK⟩ := h
        refine ⟨_, _, hK, fun β ε a W hI hs Q => ?_⟩
        obtain ⟨ao, c, news, e1, e2, e3, e4, e5⟩ := srcL_ok hl2 hI.good (compO_ok hx' hs)
        have hsv := es ▸ compO_ok hs' hs
        obtain ⟨q1, ao2, q2, q3⟩ := lit_lst hsv
        obtain ⟨ao3, c3, olds, p1, p2, p3, p4, p5⟩ := srcL_ok (m := m) (w := w') (l2 := l.map f) (by simp [srcL]) hI.good q1
        rw [q2] at p1
        simp only [Value.slice.injEq, List.length_map] at p1
        obtain ⟨rfl, _, rfl⟩ := p1
        have hpos : 0 < l2.length := by
          cases l2 with
          | nil => exact absurd rfl hem
          | cons => simp
        have hE : SatE ε w' (l.map f ++ l2) (olds ++ news) := SatE.append p2 e2
        have key : ∃ v' W', (Builtin.append_ #[t, t] o.type #[.slice ao2 l.length l.length, .slice ao l2.length c]).run P W = .ok v' W' ∧ W'.ownsRow 0 E w' v' (l.length + l2.length) (olds ++ news) ∧ (W.grownBy W' none ∧ W.drawn ≤ W'.drawn) ∧ ∀ b, v'.ownBlock = some b → W.heap.size ≤ b := by
          cases ao with
          | none => obtain ⟨h1, _⟩ := e3 rfl; rw [h1] at hpos; simp at hpos
          | some ad =>
            cases ao2 with
            | some bd => exact run_app_full (P := P) hu hi hz hsz hby hzs hw0 (by have := p2.1; simpa using this) (fun j u hu => p4 bd rfl j u hu) e2.1 hpos (fun j u hu => e4 ad rfl j u hu) (h63 _ hb) hb
            | none =>
              have hl0 : l.length = 0 := q3 rfl
              have hol : olds = [] := List.eq_nil_of_length_eq_zero (by have := p2.1; simp [hl0] at this; simpa using this)
              obtain ⟨v', W', hr, g1, g2, g3⟩ := run_app (P := P) (ty := o.type) (W := W) hu hi hz hsz hby hzs hw0 (World.ownsRow_nil W 0 E w') e2.1 (fun hn => by cases hn) e4 e5 (by have := h63 _ hb; omega) (by rw [hl0] at hb; exact hb)
              rw [hl0, hol]
              refine ⟨v', W', hr, g1, g2, fun b hb => ?_⟩
              rcases g3 with g3 | g3
              · rw [g3] at hb; simp [Value.ownBlock] at hb
              · exact g3 b hb
        obtain ⟨v', W', hr, g1, g2, g3⟩ := key
        unfold Oper.wp
        rw [hrun, q2, e1, hr, Result.andThen_ok, Oper.upon_value]
        refine ⟨v', ε.more 0 v', rfl, hsat hI.good.n g1, ε.le_more _ _, hI.more g2.1 g2.2 ?_ ?_⟩
        · have hvv : (ε.more 0 v').vv m.length = v' := by simp [Env.more, hI.good.n]
          exact ⟨olds ++ news, by rw [hvv, List.length_append, List.length_map]; exact g1, fun j hj => (hE.2 j hj).mono _ (ε.le_more _ _)⟩
        · intro b hb
          simp [ownR, Env.more, hI.good.n] at hb
          exact g3 b hb
    · exact h.elim
end

end Go.Sx
/-! Sx, part 11m: maps. -/
set_option linter.unusedSimpArgs false
set_option linter.unusedVariables false
namespace Go.Sx
open Go

variable {P : Program}

/-! ### Keys -/
mutual
theorem eqV_cells : ∀ (e : ES) {x y : SV} {ε ε' : Env} {cs cs' : List Value}, esP e x → esP e y → SatC x ε cs → SatC y ε' cs' → eqV e x y = true → cs = cs'
  | .int k, x, y, ε, ε', cs, cs', hx, hy, sx, sy, h => by
    obtain ⟨a, rfl⟩ : ∃ a, x = .int k a := by cases x <;> simp_all [esP]
    obtain ⟨b, rfl⟩ : ∃ b, y = .int k b := by cases y <;> simp_all [esP]
    simp only [SatC] at sx sy
    simp only [eqV, decide_eq_true_eq] at h
    subst sx; subst sy; subst h; rfl
  | .bool, x, y, ε, ε', cs, cs', hx, hy, sx, sy, h => by
    obtain ⟨a, rfl⟩ : ∃ a, x = .bool a := by cases x <;> simp_all [esP]
    obtain ⟨b, rfl⟩ : ∃ b, y = .bool b := by cases y <;> simp_all [esP]
    simp only [SatC] at sx sy
    simp only [eqV, beq_iff_eq] at h
    subst sx; subst sy; subst h; rfl
  | .str, x, y, ε, ε', cs, cs', hx, hy, sx, sy, h => by
    obtain ⟨a, rfl⟩ : ∃ a, x = .str a := by cases x <;> simp_all [esP]
    obtain ⟨b, rfl⟩ : ∃ b, y = .str b := by cases y <;> simp_all [esP]
    simp only [SatC] at sx sy
    simp only [eqV, decide_eq_true_eq] at h
    subst sx; subst sy; subst h; rfl
  | .st l, x, y, ε, ε', cs, cs', hx, hy, sx, sy, h => by
    cases x <;> simp only [esP] at hx
    cases y <;> simp only [esP] at hy
    simp only [SatC] at sx sy
    simp only [eqV] at h
    exact eqVL_cells l hx hy sx sy h
  | .arr n w e, x, y, ε, ε', cs, cs', hx, hy, sx, sy, h => by
    cases x <;> simp only [esP] at hx
    cases y <;> simp only [esP] at hy
    rename_i n1 w1 f n2 w2 g
    obtain ⟨e1, e2, hx⟩ := hx
    obtain ⟨e3, e4, hy⟩ := hy
    subst e1; subst e2; subst e3; subst e4
    simp only [SatC] at sx sy
    simp only [eqV, List.all_eq_true, List.mem_range] at h
    have hp : ∀ i, i < n2 → sub cs (i * w2) w2 = sub cs' (i * w2) w2 := fun i hi => eqV_cells e (hx i hi) (hy i hi) (sx.2 i hi) (sy.2 i hi) (h i hi)
    rcases Nat.eq_zero_or_pos w2 with rfl | hw
    · have c1 : cs = [] := List.eq_nil_of_length_eq_zero (by simpa using sx.1)
      have c2 : cs' = [] := List.eq_nil_of_length_eq_zero (by simpa using sy.1)
      rw [c1, c2]
    · apply List.ext_getElem?
      intro k
      rcases Nat.lt_or_ge k (n2 * w2) with hk | hk
      · have hd : k / w2 < n2 := Nat.div_lt_of_lt_mul (by rw [Nat.mul_comm]; exact hk)
        have hm : k % w2 < w2 := Nat.mod_lt _ hw
        have := congrArg (fun l => l[k % w2]?) (hp (k / w2) hd)
        simp only [sub_get, if_pos hm] at this
        rwa [Nat.mul_comm, Nat.div_add_mod] at this
      · rw [List.getElem?_eq_none (by rw [sx.1]; exact hk), List.getElem?_eq_none (by rw [sy.1]; exact hk)]
theorem eqVL_cells : ∀ (l : List ES) {xs ys : List SV} {ε ε' : Env} {cs cs' : List Value}, esPL l xs → esPL l ys → SatL xs ε cs → SatL ys ε' cs' → eqVL l xs ys = true → cs = cs'
  | [], xs, ys, ε, ε', cs, cs', hx, hy, sx, sy, h => by
    cases xs <;> simp only [esPL] at hx
    cases ys <;> simp only [esPL] at hy
    simp only [SatL] at sx sy
    rw [sx, sy]
  | e :: l, xs, ys, ε, ε', cs, cs', hx, hy, sx, sy, h => by
    cases xs with
    | nil => simp only [esPL] at hx
    | cons x xs =>
      cases ys with
      | nil => simp only [esPL] at hy
      | cons y ys =>
        simp only [esPL] at hx hy
        simp only [SatL] at sx sy
        obtain ⟨a, b, rfl, s1, s2⟩ := sx
        obtain ⟨a', b', rfl, s1', s2'⟩ := sy
        simp only [eqVL, Bool.and_eq_true] at h
        rw [eqV_cells e hx.1 hy.1 s1 s1' h.1, eqVL_cells l hx.2 hy.2 s2 s2' h.2]
end

def plainV : Value → Prop
  | .bool _ | .int _ _ | .string _ => True
  | _ => False
mutual
theorem es_plain : ∀ (e : ES) {x : SV} {ε : Env} {cs : List Value}, esP e x → SatC x ε cs → ∀ v ∈ cs, plainV v
  | .int k, x, ε, cs, hx, sx, v, hv => by
    obtain ⟨a, rfl⟩ : ∃ a, x = .int k a := by cases x <;> simp_all [esP]
    simp only [SatC] at sx; subst sx
    rw [List.mem_singleton.1 hv]; trivial
  | .bool, x, ε, cs, hx, sx, v, hv => by
    obtain ⟨a, rfl⟩ : ∃ a, x = .bool a := by cases x <;> simp_all [esP]
    simp only [SatC] at sx; subst sx
    rw [List.mem_singleton.1 hv]; trivial
  | .str, x, ε, cs, hx, sx, v, hv => by
    obtain ⟨a, rfl⟩ : ∃ a, x = .str a := by cases x <;> simp_all [esP]
    simp only [SatC] at sx; subst sx
    rw [List.mem_singleton.1 hv]; trivial
  | .st l, x, ε, cs, hx, sx, v, hv => by
    cases x <;> simp only [esP] at hx
    simp only [SatC] at sx
    exact esL_plain l hx sx v hv
  | .arr n w e, x, ε, cs, hx, sx, v, hv => by
    cases x <;> simp only [esP] at hx
    obtain ⟨rfl, rfl, hx⟩ := hx
    simp only [SatC] at sx
    obtain ⟨i, hi, hm⟩ := mem_pieces sx.1 hv
    exact es_plain e (hx i hi) (sx.2 i hi) v hm
theorem esL_plain : ∀ (l : List ES) {xs : List SV} {ε : Env} {cs : List Value}, esPL l xs → SatL xs ε cs → ∀ v ∈ cs, plainV v
  | [], xs, ε, cs, hx, sx, v, hv => by
    cases xs <;> simp only [esPL] at hx
    simp only [SatL] at sx; subst sx; cases hv
  | e :: l, xs, ε, cs, hx, sx, v, hv => by
    cases xs with
    | nil => simp only [esPL] at hx
    | cons x xs =>
      simp only [esPL] at hx
      simp only [SatL] at sx
      obtain ⟨a, b, rfl, s1, s2⟩ := sx
      rcases List.mem_append.1 hv with h | h
      · exact es_plain e hx.1 s1 v h
      · exact esL_plain l hx.2 s2 v h
end

theorem plain_same {v : Value} (h : plainV v) (n : Nat) : Instr.sameBits n v v = true := by
  cases v <;> simp only [plainV] at h <;> simp [Instr.sameBits, MapKept.bytes_beq]

theorem es_stays {e : ES} {x : SV} {ε : Env} {cs : List Value} (hx : esP e x) (sx : SatC x ε cs) (w : World) : (Instr.keyThatStays (boxed x.isAgg cs) (boxed x.isAgg cs)).run P w = .ok (boxed x.isAgg cs) w := by
  have hp := es_plain e hx sx
  have : Instr.sameBits 10000 (boxed x.isAgg cs) (boxed x.isAgg cs) = true := by
    cases hag : x.isAgg with
    | true =>
      show Instr.sameBits (9999 + 1) (.agg cs.toArray) (.agg cs.toArray) = true
      simp only [Instr.sameBits, beq_self_eq_true, Bool.true_and, List.all_eq_true]
      intro p hp'
      obtain ⟨i, hi, e1⟩ := List.getElem_of_mem hp'
      simp only [List.getElem_zip] at e1
      subst e1
      exact plain_same (hp _ (List.getElem_mem _)) _
    | false =>
      have h1 := SatC.length _ sx
      rw [wd_scalar hag] at h1
      match cs, h1 with
      | [v], _ => exact plain_same (hp v (by simp)) _
  simp [Instr.keyThatStays, this]

theorem checkItems_ok {t' : TypeId} {e : ES} {w' : Nat} (ht : tsz P t' = some (w', aggE e)) {d : Nat} {cs : List Value} {n : Nat} (h1 : cs.length = n * w') (w : World) (em : Bool)
    (h0 : aggE e = false → w' = 1) (ih : ∀ i, i < n → (Instr.checkKey em d t' (boxed (aggE e) (sub cs (i * w') w'))).run P w = .ok () w) :
    ∀ is : List Nat, (∀ i ∈ is, i < n) → (forIn (m := Sem) is PUnit.unit (fun i _ => do Instr.checkKey em d t' (← part t' cs.toArray (i * (← sizeOf t'))); pure (ForInStep.yield PUnit.unit))).run P w = .ok PUnit.unit w
  | [], _ => by simp
  | i :: is, hi => by
    have hl := hi i (by simp)
    have hle := mul_le_len (w := w') hl
    have r := checkItems_ok ht h1 w em h0 ih is (fun j hj => hi j (by simp [hj]))
    simp only [List.forIn_cons, Sem.run_bind, run_sizeOf ht, Result.andThen_ok, run_part ht w cs (i * w') (by omega) h0, ih i hl, Sem.run_pure]
    exact r
mutual
theorem checkKey_ok : ∀ (e : ES) {t : TypeId} {d : Nat} {x : SV} {ε : Env} {cs : List Value} (w : World) (em : Bool), esB P t e = true → dE e ≤ d → esP e x → SatC x ε cs →
    (Instr.checkKey em d t (boxed (aggE e) cs)).run P w = .ok () w
  | .int k, t, d, x, ε, cs, w, em, hb, hd, hx, sx => by
    obtain ⟨a, rfl⟩ : ∃ a, x = .int k a := by cases x <;> simp_all [esP]
    simp only [SatC] at sx
    subst sx
    simp only [esB] at hb
    split at hb <;> try (cases hb; done)
    rename_i hu
    obtain ⟨d, rfl⟩ : ∃ d', d = d' + 1 := ⟨d - 1, by simp only [dE] at hd; omega⟩
    simp [boxed, aggE, Instr.checkKey, run_underlying hu]
  | .bool, t, d, x, ε, cs, w, em, hb, hd, hx, sx => by
    obtain ⟨a, rfl⟩ : ∃ a, x = .bool a := by cases x <;> simp_all [esP]
    simp only [SatC] at sx
    subst sx
    simp only [esB] at hb
    split at hb <;> try (cases hb; done)
    rename_i hu
    obtain ⟨d, rfl⟩ : ∃ d', d = d' + 1 := ⟨d - 1, by simp only [dE] at hd; omega⟩
    simp [boxed, aggE, Instr.checkKey, run_underlying hu]
  | .str, t, d, x, ε, cs, w, em, hb, hd, hx, sx => by
    obtain ⟨a, rfl⟩ : ∃ a, x = .str a := by cases x <;> simp_all [esP]
    simp only [SatC] at sx
    subst sx
    simp only [esB] at hb
    split at hb <;> try (cases hb; done)
    rename_i hu
    obtain ⟨d, rfl⟩ : ∃ d', d = d' + 1 := ⟨d - 1, by simp only [dE] at hd; omega⟩
    simp [boxed, aggE, Instr.checkKey, run_underlying hu]
  | .st l, t, d, x, ε, cs, w, em, hb, hd, hx, sx => by
    cases x <;> simp only [esP] at hx
    simp only [SatC] at sx
    simp only [esB] at hb
    split at hb <;> try (cases hb; done)
    rename_i fs hu
    simp only [Bool.and_eq_true, Bool.not_eq_true'] at hb
    simp only [dE] at hd
    obtain ⟨d, rfl⟩ : ∃ d', d = d' + 1 := ⟨d - 1, by omega⟩
    simp only [boxed, aggE, if_true, Instr.checkKey, Sem.run_bind, run_underlying hu, Result.andThen_ok]
    rw [← Array.forIn_toList]
    have := checkFields_ok l w em (d := d) (fs := fs.toList) (off := 0) (pre := []) hb.1 (by omega) hx sx rfl
    rw [List.nil_append] at this
    simp only [this, Result.andThen_ok, Sem.run_pure]
  | .arr n w' e, t, d, x, ε, cs, w, em, hb, hd, hx, sx => by
    cases x <;> simp only [esP] at hx
    obtain ⟨rfl, rfl, hx⟩ := hx
    simp only [SatC] at sx
    simp only [esB] at hb
    split at hb <;> try (cases hb; done)
    rename_i n' t' hu
    simp only [Bool.and_eq_true, decide_eq_true_eq] at hb
    obtain ⟨⟨⟨⟨rfl, h2⟩, h3⟩, h4⟩, h5⟩ := hb
    simp only [dE] at hd
    obtain ⟨d, rfl⟩ : ∃ d', d = d' + 1 := ⟨d - 1, by omega⟩
    simp only [boxed, aggE, if_true, Instr.checkKey, Sem.run_bind, run_underlying hu, Result.andThen_ok]
    simp only [Std.Legacy.Range.forIn_eq_forIn_range', Std.Legacy.Range.size, Nat.sub_zero, Nat.add_one_sub_one, Nat.div_one]
    have := checkItems_ok (P := P) h3 sx.1 w em (fun h => by rw [← h4]; exact aggE_w h) (fun j hj => checkKey_ok (d := d) e w em h5 (by omega) (hx j hj) (sx.2 j hj)) (List.range' 0 n') (fun j hj => by simpa [List.mem_range'] using hj)
    simp only [this, Result.andThen_ok, Sem.run_pure]
theorem checkFields_ok : ∀ (l : List ES) {xs : List SV} {ε : Env} {cs pre : List Value} (w : World) (em : Bool) {d : Nat} {fs : List Field} {off : Nat}, esBL P fs off l = true → dEL l ≤ d → esPL l xs → SatL xs ε cs → pre.length = off →
    (forIn (m := Sem) fs PUnit.unit (fun f _ => do
      if f.name ≠ "_" then do
        Instr.checkKey em d f.type (← part f.type (pre ++ cs).toArray f.offset)
        pure (ForInStep.yield PUnit.unit)
      else pure (ForInStep.yield PUnit.unit))).run P w = .ok PUnit.unit w
  | [], xs, ε, cs, pre, w, em, d, fs, off, hb, hd, hx, sx, hp => by
    cases fs with
    | nil => simp
    | cons => simp [esBL] at hb
  | e :: l, xs, ε, cs, pre, w, em, d, fs, off, hb, hd, hx, sx, hp => by
    cases fs with
    | nil => simp [esBL] at hb
    | cons f fs =>
      cases xs with
      | nil => simp only [esPL] at hx
      | cons x xs =>
        simp only [esPL] at hx
        simp only [SatL] at sx
        obtain ⟨a, b, rfl, s1, s2⟩ := sx
        simp only [esBL, Bool.and_eq_true, decide_eq_true_eq] at hb
        obtain ⟨⟨⟨⟨b1, b2⟩, b3⟩, b4⟩, b5⟩ := hb
        simp only [dEL] at hd
        have l1 : a.length = wE e := by rw [SatC.length _ s1, esP_wd hx.1]
        have q : sub (pre ++ (a ++ b)) off (wE e) = a := by
          simp only [sub]
          rw [List.drop_append_of_le_length (by omega), List.drop_of_length_le (by omega), List.nil_append, List.take_append_of_le_length (by omega), List.take_of_length_le (by omega)]
        have r := checkFields_ok l (pre := pre ++ a) w em (d := d) (fs := fs) b5 (by omega) hx.2 s2 (by simp; omega)
        have k := checkKey_ok e w em b4 (d := d) (by omega) hx.1 s1
        have p1 := run_part b3 w (pre ++ (a ++ b)) off (by simp; omega) (fun h => aggE_w h)
        rw [q] at p1
        rw [List.append_assoc] at r
        simp only [List.forIn_cons, b1, ne_eq, not_false_eq_true, if_true, Sem.run_bind, b2, p1, Result.andThen_ok, k, Sem.run_pure]
        exact r
end

/-! ### Entries -/
def mpIdx (e : ES) (k : SV) : List (SV × SV) → Option Nat
  | [] => none
  | p :: r => if eqV e k p.1 then some 0 else (mpIdx e k r).map (· + 1)
theorem mpIdx_find {e : ES} {k : SV} : ∀ (l : List (SV × SV)), mpFind e k l = (mpIdx e k l).bind fun j => (l[j]?).map (·.2)
  | [] => rfl
  | p :: r => by
    simp only [mpFind, mpIdx]
    split
    · rfl
    · rw [mpIdx_find r]
      cases mpIdx e k r <;> rfl
theorem mpIdx_put {e : ES} {k v : SV} : ∀ (l : List (SV × SV)), mpPut e k v l = match mpIdx e k l with
    | some j => l.set j (k, v)
    | none => l ++ [(k, v)]
  | [] => rfl
  | p :: r => by
    simp only [mpPut, mpIdx]
    split
    · rfl
    · rw [mpIdx_put r]
      cases mpIdx e k r <;> rfl
theorem mpIdx_ok {e : ES} {k : SV} : ∀ (l : List (SV × SV)) {j : Nat}, mpIdx e k l = some j → ∃ p, l[j]? = some p ∧ eqV e k p.1 = true
  | [], j, h => by cases h
  | p :: r, j, h => by
    simp only [mpIdx] at h
    split at h
    · rename_i hk
      cases h
      exact ⟨p, rfl, hk⟩
    · simp only [Option.map_eq_some_iff] at h
      obtain ⟨i, hi, rfl⟩ := h
      obtain ⟨q, h1, h2⟩ := mpIdx_ok r hi
      exact ⟨q, by simpa using h1, h2⟩
theorem EntsOK.len {ek ev : ES} : ∀ {l : List (SV × SV)} {es : List MapEntry}, EntsOK ek ev l es → es.length = l.length
  | [], [], _ => rfl
  | _ :: _, _ :: _, h => by simp [EntsOK.len h.2]
  | [], _ :: _, h => h.elim
  | _ :: _, [], h => h.elim
theorem EntsOK.at {ek ev : ES} : ∀ {l : List (SV × SV)} {es : List MapEntry}, EntsOK ek ev l es → ∀ {j : Nat} {p : SV × SV}, l[j]? = some p → ∃ e, es[j]? = some e ∧ EntOK ek ev p e
  | [], [], _, j, p, h => by simp at h
  | q :: l, e :: es, h, j, p, hp => by
    cases j with
    | zero =>
      simp only [List.getElem?_cons_zero, Option.some.injEq] at hp
      subst hp
      exact ⟨e, rfl, h.1⟩
    | succ j => simpa using EntsOK.at h.2 (by simpa using hp)
  | [], _ :: _, h, _, _, _ => h.elim
  | _ :: _, [], h, _, _, _ => h.elim
theorem EntsOK.push {ek ev : ES} {p : SV × SV} {e : MapEntry} (hp : EntOK ek ev p e) : ∀ {l : List (SV × SV)} {es : List MapEntry}, EntsOK ek ev l es → EntsOK ek ev (l ++ [p]) (es ++ [e])
  | [], [], _ => ⟨hp, trivial⟩
  | q :: l, e' :: es, h => ⟨h.1, EntsOK.push hp h.2⟩
  | [], _ :: _, h => h.elim
  | _ :: _, [], h => h.elim
theorem EntsOK.set {ek ev : ES} {p : SV × SV} {e : MapEntry} (hp : EntOK ek ev p e) : ∀ {l : List (SV × SV)} {es : List MapEntry} (j : Nat), EntsOK ek ev l es → EntsOK ek ev (l.set j p) (es.set j e)
  | [], [], _, _ => trivial
  | q :: l, e' :: es, 0, h => ⟨hp, h.2⟩
  | q :: l, e' :: es, j + 1, h => ⟨h.1, EntsOK.set hp j h.2⟩
  | [], _ :: _, _, h => h.elim
  | _ :: _, [], _, h => h.elim

def undIs (e : ES) (d : TypeDesc) : Prop := match e with
    | .int k => d = .int k
    | .bool => d = .bool
    | .str => d = .string
    | .st _ => ∃ fs, d = .struct fs
    | .arr .. => ∃ n t', d = .array n t'

theorem esB_und {t : TypeId} {e : ES} (h : esB P t e = true) : ∃ d, P.underlying t = some d ∧ undIs e d := by
  cases e <;> simp only [esB] at h <;> split at h <;> try (cases h; done)
  · rename_i hu
    simp only [decide_eq_true_eq] at h
    exact ⟨_, hu, by subst h; rfl⟩
  · rename_i hu; exact ⟨_, hu, rfl⟩
  · rename_i hu; exact ⟨_, hu, rfl⟩
  · rename_i hu; exact ⟨_, hu, _, rfl⟩
  · rename_i hu; exact ⟨_, hu, _, _, rfl⟩

theorem same_now {e : ES} {d : TypeDesc} (hd : undIs e d) (hag : aggE e = false) {x y : SV} {ε ε' : Env} {cs cs' : List Value} (hx : esP e x) (hy : esP e y) (sx : SatC x ε cs) (sy : SatC y ε' cs') :
    Instr.sameNow d (boxed false cs) (boxed false cs') = some (eqV e x y) := by
  cases e with
  | int k =>
    obtain ⟨a, rfl⟩ : ∃ a, x = .int k a := by cases x <;> simp_all [esP]
    obtain ⟨b, rfl⟩ : ∃ b, y = .int k b := by cases y <;> simp_all [esP]
    simp only [SatC] at sx sy
    subst sx; subst sy; subst hd
    simp only [boxed, Instr.sameNow, List.headD_cons, Bool.false_eq_true, if_false, if_true, eqV]
    congr 1
  | bool =>
    obtain ⟨a, rfl⟩ : ∃ a, x = .bool a := by cases x <;> simp_all [esP]
    obtain ⟨b, rfl⟩ : ∃ b, y = .bool b := by cases y <;> simp_all [esP]
    simp only [SatC] at sx sy
    subst sx; subst sy; subst hd
    rfl
  | str =>
    obtain ⟨a, rfl⟩ : ∃ a, x = .str a := by cases x <;> simp_all [esP]
    obtain ⟨b, rfl⟩ : ∃ b, y = .str b := by cases y <;> simp_all [esP]
    simp only [SatC] at sx sy
    subst sx; subst sy; subst hd
    have hq : ((⟨a.toArray⟩ : ByteArray) == ⟨b.toArray⟩) = decide (a = b) := by
      have k : ∀ x y : ByteArray, (x == y) = (x.data == y.data) := fun x y => by cases x; cases y; rfl
      rw [k]
      by_cases hab : a = b
      · subst hab; simp
      · simp [hab]
    simp only [boxed, Instr.sameNow, List.headD_cons, Bool.false_eq_true, if_false, eqV, hq]
  | st l => simp [aggE] at hag
  | arr n w e => simp [aggE] at hag

theorem findNow_ok {e : ES} {d : TypeDesc} (hd : undIs e d) (hag : aggE e = false) {ev : ES} {x : SV} {ε : Env} {cs : List Value} (hx : esP e x) (sx : SatC x ε cs) :
    ∀ {l : List (SV × SV)} {es : List MapEntry} (i : Nat), EntsOK e ev l es → Instr.findNow d (boxed false cs) es i = some ((mpIdx e x l).bind fun j => (es[j]?).map fun m => (i + j, m.val))
  | [], [], i, _ => rfl
  | p :: l, m :: es, i, h => by
    obtain ⟨h1, h2⟩ := h
    obtain ⟨cs', s1, s2⟩ := h1.kc
    have hpa : p.1.isAgg = false := by rw [esP_agg h1.k]; exact hag
    rw [hpa] at s2
    have hn := same_now hd hag hx h1.k sx s1
    rw [← s2] at hn
    simp only [Instr.findNow, hn, mpIdx]
    cases eqV e x p.1
    · simp only [Bool.false_eq_true, if_false]
      rw [findNow_ok hd hag hx sx (i + 1) h2]
      cases mpIdx e x l with
      | none => rfl
      | some j => simp [Nat.add_assoc, Nat.add_comm 1 j]
    · simp
  | [], _ :: _, _, h => h.elim
  | _ :: _, [], _, h => h.elim
theorem findAsking_ok {t : TypeId} {e : ES} (hb : esB P t e = true) (hd : dE e ≤ 10000) {ev : ES} {x : SV} {ε : Env} {cs : List Value} (hx : esP e x) (sx : SatC x ε cs) (w : World) :
    ∀ {l : List (SV × SV)} {es : List MapEntry} (i : Nat), EntsOK e ev l es → (Instr.findAsking t (boxed (aggE e) cs) es i).run P w = .ok ((mpIdx e x l).bind fun j => (es[j]?).map fun m => (i + j, m.val)) w
  | [], [], i, _ => by simp [Instr.findAsking, mpIdx]
  | p :: l, m :: es, i, h => by
    obtain ⟨h1, h2⟩ := h
    obtain ⟨cs', s1, s2⟩ := h1.kc
    rw [esP_agg h1.k] at s2
    have hq : (Op.equal t (boxed (aggE e) cs) m.key).run P w = .ok (eqV e x p.1) w := by
      rw [s2]
      exact equalIn_ok e w hb hd hx h1.k sx s1
    simp only [Instr.findAsking, Sem.run_bind, hq, Result.andThen_ok, mpIdx]
    cases eqV e x p.1
    · simp only [Bool.false_eq_true, if_false]
      rw [findAsking_ok hb hd hx sx w (i + 1) h2]
      cases mpIdx e x l with
      | none => rfl
      | some j => simp [Nat.add_assoc, Nat.add_comm 1 j]
    · simp
  | [], _ :: _, _, h => h.elim
  | _ :: _, [], _, h => h.elim
theorem findKey_ok {t : TypeId} {e : ES} (hb : esB P t e = true) (hd : dE e ≤ 10000) {ev : ES} {x : SV} {ε : Env} {cs : List Value} (hx : esP e x) (sx : SatC x ε cs) (w : World) {l : List (SV × SV)} {es : List MapEntry} (h : EntsOK e ev l es) :
    (Instr.findKey t (boxed (aggE e) cs) es).run P w = .ok ((mpIdx e x l).bind fun j => (es[j]?).map fun m => (j, m.val)) w := by
  obtain ⟨d, hu, hdd⟩ := esB_und hb
  cases hag : aggE e with
  | false =>
    have := findNow_ok hdd hag hx sx 0 h
    simp only [Instr.findKey, Sem.run_bind, run_underlying hu, Result.andThen_ok, this, Sem.run_pure, Nat.zero_add]
  | true =>
    have hask := findAsking_ok hb hd hx sx w 0 h
    rw [hag] at hask
    simp only [Nat.zero_add] at hask
    cases es with
    | nil =>
      cases l with
      | nil => simp [Instr.findKey, run_underlying hu, Instr.findNow, mpIdx]
      | cons => exact h.elim
    | cons m es =>
      have hs : Instr.sameNow d (boxed true cs) m.key = none := by
        cases e <;> simp [aggE] at hag
        · obtain ⟨fs, rfl⟩ := hdd; rfl
        · obtain ⟨n, t', rfl⟩ := hdd; rfl
      simp only [Instr.findKey, Sem.run_bind, run_underlying hu, Result.andThen_ok, Instr.findNow, hs]
      exact hask

/-! ### What maps there are -/
def zOK : ES → SV → Bool
  | .bool, .bool b => !b
  | .int k, .int k' n => decide (k' = k) && decide (n = 0)
  | .str, .str _ => true
  | .st [], .agg [] => true
  | .st [.str, .str], .agg [.str _, .str _] => true
  | _, _ => false
theorem zOK_ok {ev : ES} {z : SV} (h : zOK ev z = true) : esP ev z ∧ mpRes ev z none = z := by
  unfold zOK at h
  split at h <;> try (cases h; done)
  · simp only [Bool.not_eq_true'] at h; subst h; exact ⟨trivial, rfl⟩
  · simp only [Bool.and_eq_true, decide_eq_true_eq] at h
    obtain ⟨rfl, rfl⟩ := h
    exact ⟨rfl, rfl⟩
  · exact ⟨trivial, rfl⟩
  · exact ⟨trivial, rfl⟩
  · exact ⟨⟨trivial, trivial, trivial⟩, rfl⟩
theorem mpRes_some {ev : ES} {z v : SV} (h : esP ev v) : mpRes ev z (some v) = v := by
  cases ev <;> try rfl
  · cases v <;> simp only [esP] at h
    subst h; rfl
  · cases v <;> simp only [esP] at h
    rfl
def isAggV : Value → Bool
  | .agg _ => true
  | _ => false
theorem boxed_cells (v : Value) : v = boxed (isAggV v) v.cells.toList := by
  cases v <;> simp [boxed, isAggV, Value.cells]
def zbx (P : Program) (t : TypeId) (z : SV) : Bool := match P.info? t with
  | some i => match i.zero with
    | some v => isAggV v == z.isAgg
    | none => false
  | none => false
theorem zero_boxed {t : TypeId} {z : SV} (h : zok P t = some z) (hb : zbx P t z = true) : ∃ i v, P.info? t = some i ∧ i.zero = some v ∧ ∀ ε, ∃ cs, SatC z ε cs ∧ v = boxed z.isAgg cs := by
  obtain ⟨i, v, h1, h2, h3⟩ := zok_ok h
  refine ⟨i, v, h1, h2, fun ε => ⟨_, h3 ε, ?_⟩⟩
  simp only [zbx, h1, h2, beq_iff_eq] at hb
  rw [← hb]
  exact boxed_cells v
def mapTy (P : Program) (T : TypeId) : Option (ES × ES × SV) := match P.underlying T with
  | some (.map k e) => match esOf P 8 k, esOf P 8 e, zok P e with
    | some ek, some ev, some z => if esB P k ek && decide (dE ek ≤ 100) && zOK ev z && zbx P e z then some (ek, ev, z) else none
    | _, _, _ => none
  | _ => none
theorem mapTy_ok {T : TypeId} {ek ev : ES} {z : SV} (h : mapTy P T = some (ek, ev, z)) : ∃ k e, P.underlying T = some (.map k e) ∧ esB P k ek = true ∧ dE ek ≤ 100 ∧ zOK ev z = true ∧ zok P e = some z ∧ zbx P e z = true := by
  unfold mapTy at h
  split at h <;> try (cases h; done)
  rename_i k e hu
  split at h <;> try (cases h; done)
  rename_i ek' ev' z' h1 h2 h3
  split at h <;> try (cases h; done)
  rename_i hc
  simp only [Bool.and_eq_true, decide_eq_true_eq] at hc
  simp only [Option.some.injEq, Prod.mk.injEq] at h
  obtain ⟨rfl, rfl, rfl⟩ := h
  exact ⟨k, e, hu, hc.1.1.1, hc.1.1.2, hc.1.2, h3, hc.2⟩
def compM (P : Program) : Op → Option (MK × List Opd)
  | .makeMap T r => match mapTy P T with
    | some (ek, ev, _) => match r with
      | none => some (.make ek ev, [])
      | some r => (compO r).map fun r => (.make ek ev, [r])
    | none => none
  | .mapUpdate T x k v => compPut P T x k v
  | .insert T x k v => compPut P T x k v
  | .lookup T x k ok => match mapTy P T with
    | some (ek, ev, z) => match compO x, compO k with
      | some x, some k => some (.get ek ev z ok, [x, k])
      | _, _ => none
    | none => none
  | .convert t d x => match P.underlying t, P.underlying d with
    | some (.slice e), some .string => match P.underlying e with
      | some (.int .u8) => (compO x).map fun x => (.strb, [x])
      | _ => none
    | some .string, some (.slice e) => match P.underlying e with
      | some (.int .u8) => (compO x).map fun x => (.bstr, [x])
      | _ => none
    | _, _ => none
  | .call c => compLen P c
  | _ => none
where
 compLen (P : Program) (c : Call) : Option (MK × List Opd) := match c.callee, c.args.toList, c.argTypes.toList with
  | .builtin .len, [x], [t] => match P.underlying t with
    | some (.map _ _) => (compO x).map fun x => (.mlen, [x])
    | _ => none
  | _, _, _ => none
 compPut (P : Program) (T : TypeId) (x k v : Operand) : Option (MK × List Opd) := match mapTy P T with
  | some (ek, ev, _) => match compO x, compO k, compO v with
    | some x, some k, some v => some (.put ek ev, [x, k, v])
    | _, _, _ => none
  | none => none

theorem sat_map {ε : Env} {i : Nat} {v : Value} (h : SatV ε (.map i) v) : i < ε.n ∧ v = .map (some (ε.blk i)) := by
  obtain ⟨cs, h1, h2⟩ := h; simp only [SatC] at h1; obtain ⟨h1, h3⟩ := h1; subst h3; exact ⟨h1, h2⟩
theorem esP_val {e : ES} {x : SV} (h : esP e x) : x.isVal = true := by
  cases e <;> cases x <;> simp only [esP] at h <;> rfl
mutual
theorem es_nil : ∀ (e : ES) {x : SV} {ε : Env} {cs : List Value}, esP e x → SatC x ε cs → SatC x Env.nil cs
  | .int k, x, ε, cs, hx, sx => by cases x <;> simp only [esP] at hx; exact sx
  | .bool, x, ε, cs, hx, sx => by cases x <;> simp only [esP] at hx; exact sx
  | .str, x, ε, cs, hx, sx => by cases x <;> simp only [esP] at hx; exact sx
  | .st l, x, ε, cs, hx, sx => by
    cases x <;> simp only [esP] at hx
    simp only [SatC] at sx ⊢
    exact esL_nil l hx sx
  | .arr n w e, x, ε, cs, hx, sx => by
    cases x <;> simp only [esP] at hx
    obtain ⟨rfl, rfl, hx⟩ := hx
    simp only [SatC] at sx ⊢
    exact ⟨sx.1, fun i hi => es_nil e (hx i hi) (sx.2 i hi)⟩
theorem esL_nil : ∀ (l : List ES) {xs : List SV} {ε : Env} {cs : List Value}, esPL l xs → SatL xs ε cs → SatL xs Env.nil cs
  | [], xs, ε, cs, hx, sx => by
    cases xs <;> simp only [esPL] at hx
    exact sx
  | e :: l, xs, ε, cs, hx, sx => by
    cases xs with
    | nil => simp only [esPL] at hx
    | cons x xs =>
      simp only [esPL] at hx
      simp only [SatL] at sx ⊢
      obtain ⟨a, b, h1, h2, h3⟩ := sx
      exact ⟨a, b, h1, es_nil e hx.1 h2, esL_nil l hx.2 h3⟩
end

def SatC' (ε : Env) (x : SV) (v : Value) : Prop := ∃ cs, SatC x ε cs ∧ v = boxed x.isAgg cs
theorem Inv.setMp {β : Base} {ε : Env} {m : List Res} {w : World} (h : Inv β ε m w) {i : Nat} {ek ev : ES} {l l' : List (SV × SV)} {es : Array MapEntry} {clock : Nat} {o : Obj}
    (hm : memAt m i = .mp ek ev l) (hb : w.heap[ε.blk i]? = some o) (hl : EntsOK ek ev l' es.toList ∧ Stamps es.toList clock) :
    Inv β ε (m.set i (.mp ek ev l')) { w with heap := w.heap.setIfInBounds (ε.blk i) (.map es clock) } := by
  have hi : i < m.length := by
    rcases Nat.lt_or_ge i m.length with hi | hi
    · exact hi
    · rw [memAt_ge hi] at hm; cases hm
  generalize hw' : ({ w with heap := w.heap.setIfInBounds (ε.blk i) (.map es clock) } : World) = w'
  have hh : w'.heap = w.heap.setIfInBounds (ε.blk i) (.map es clock) := by rw [← hw']
  have hat : ∀ j, memAt (m.set i (.mp ek ev l')) j = if j = i then .mp ek ev l' else memAt m j := by
    intro j
    unfold memAt
    rw [List.getD, List.getElem?_set]
    by_cases hj : i = j
    · subst hj; simp [hi]
    · rw [if_neg hj, if_neg (fun e => hj e.symm)]; rfl
  have hown : ∀ j, ownR ε j (memAt (m.set i (.mp ek ev l')) j) = ownR ε j (memAt m j) := by
    intro j
    rw [hat]
    by_cases hj : j = i
    · subst hj; rw [if_pos rfl, hm]; rfl
    · rw [if_neg hj]
  have hoi : ownR ε i (memAt m i) = some (ε.blk i) := by rw [hm]; rfl
  have hoth : ∀ b, b ≠ ε.blk i → w'.heap[b]? = w.heap[b]? := fun b hb => by rw [hh]; simp [Ne.symm hb]
  have hsz : w'.heap.size = w.heap.size := by rw [hh]; simp
  have hlt : ε.blk i < w.heap.size := (Array.getElem?_eq_some_iff.1 hb).1
  refine ⟨⟨by simp [h.good.n], fun j => ?_, fun a b x hab h1 h2 => ?_, fun a b hb => ?_, fun b o hb => ?_⟩, ⟨by rw [← hw']; exact h.kept.os, by rw [← hw']; exact h.kept.tape, by rw [← hw']; exact h.kept.output, ?_, ?_, h.kept.H, h.kept.fresh, by rw [← hw']; exact h.kept.drawn⟩, fun a b hb => ?_, h.n, h.blk, fun j hj hv => h.vv j hj ?_⟩
  · rw [hat]
    by_cases hj : j = i
    · subst hj
      rw [if_pos rfl]
      exact ⟨es, clock, by rw [hh]; simp [hlt], hl⟩
    · rw [if_neg hj]
      have hr := h.good.res j
      cases hmj : memAt m j with
      | dead => trivial
      | blk T' c'' =>
        rw [hmj] at hr
        obtain ⟨cs'', h1, h2⟩ := hr
        refine ⟨cs'', ?_, h2⟩
        rw [hoth _ (fun e => h.good.disj j i (ε.blk j) hj (by rw [hmj]; rfl) (by rw [hoi, e]))]
        exact h1
      | vec T' wd l =>
        rw [hmj] at hr
        obtain ⟨xs, h1, h2⟩ := hr
        refine ⟨xs, ?_, h2⟩
        refine ⟨h1.1, ?_⟩
        rcases h1.2 with hx | ⟨gg, cap, cur, e1, e2, e3, e4⟩
        · exact .inl hx
        · refine .inr ⟨gg, cap, cur, e1, e2, ?_, e4⟩
          rw [hoth _ (fun e => h.good.disj j i gg hj (by rw [hmj]; simp [ownR, e1, Value.ownBlock]) (by rw [hoi, e]))]
          exact e3
      | mp ek ev l =>
        rw [hmj] at hr
        obtain ⟨es, cl, h1, h2⟩ := hr
        refine ⟨es, cl, ?_, h2⟩
        rw [hoth _ (fun e => h.good.disj j i (ε.blk j) hj (by rw [hmj]; rfl) (by rw [hoi, e]))]
        exact h1
  · rw [hown] at h1 h2; exact h.good.disj a b x hab h1 h2
  · rw [hown] at hb; exact h.good.sep a b hb
  · rw [hoth b (fun e => by have := h.good.sep i _ hoi; rw [e] at hb; rw [this] at hb; cases hb)]; exact h.good.hv b o hb
  · rw [hsz]; exact h.kept.size
  · intro b hb hB
    rw [hoth b (fun e => ?_)]
    · exact h.kept.heap b hb hB
    · rcases h.own i _ hoi with h' | h'
      · rw [e] at hB; exact hB h'
      · omega
  · rw [hown] at hb; exact h.own a b hb
  · rw [hat] at hv
    by_cases hji : j = i
    · subst hji; rw [hm]; rfl
    · rwa [if_neg hji] at hv

section
variable {o : Oper} {σ : List SV} {m : List Res}
theorem estep_mkm {T : TypeId} {ek ev : ES} (hrun : ∀ ε a w, SlotsOK ε σ a → (execOp a.eval o).run P w = .ok (.value (.map (some w.heap.size))) (w.alloc (.map #[] 0))) :
    EStepL P o σ m (.map m.length) (m ++ [.mp ek ev []]) := by
  intro β ε a w hi hs Q
  unfold Oper.wp
  rw [hrun ε a w hs, Oper.upon_value]
  have hbl : (ε.more w.heap.size undef).blk m.length = w.heap.size := by simp [Env.more, hi.good.n]
  refine ⟨_, ε.more w.heap.size undef, rfl, ⟨_, by simp only [SatC]; exact ⟨by simp [Env.more, hi.good.n], rfl⟩, ?_⟩, ε.le_more _ _, hi.more (World.grownBy_alloc _ _ _) (Nat.le_refl _) ⟨#[], 0, ?_, trivial, List.nodup_nil, fun e he => by cases he⟩ ?_⟩
  · simp [boxed, SV.isAgg, hbl]
  · rw [hbl]; exact heap_alloc_new w _
  · intro x hx
    simp only [ownR, hbl, Option.some.injEq] at hx
    omega
theorem stamps_push {es : List MapEntry} {cl : Nat} {e : MapEntry} (h : Stamps es cl) (he : e.born = cl) : Stamps (es ++ [e]) (cl + 1) := by
  refine ⟨?_, fun x hx => ?_⟩
  · rw [List.map_append, List.nodup_append]
    refine ⟨h.1, by simp, fun a ha b hb => ?_⟩
    obtain ⟨x, hx, rfl⟩ := List.mem_map.1 ha
    have := h.2 x hx
    simp only [List.map_cons, List.map_nil, List.mem_singleton] at hb
    omega
  · rcases List.mem_append.1 hx with hx | hx
    · have := h.2 x hx; omega
    · rw [List.mem_singleton.1 hx, he]; exact Nat.lt_succ_self _
theorem stamps_set {es : List MapEntry} {cl j : Nat} {e e' : MapEntry} (h : Stamps es cl) (hj : es[j]? = some e) (he : e'.born = e.born) : Stamps (es.set j e') cl := by
  obtain ⟨hlt, rfl⟩ := List.getElem?_eq_some_iff.1 hj
  have hm : (es.set j e').map (·.born) = es.map (·.born) := by
    rw [List.map_set, he]
    apply List.ext_getElem?
    intro q
    rw [List.getElem?_set]
    by_cases hq : j = q
    · subst hq; simp [hlt]
    · simp [hq]
  refine ⟨by rw [hm]; exact h.1, fun x hx => ?_⟩
  have : x.born ∈ (es.set j e').map (·.born) := List.mem_map_of_mem hx
  rw [hm] at this
  obtain ⟨y, hy, e1⟩ := List.mem_map.1 this
  rw [← e1]; exact h.2 y hy
theorem estep_put {T : TypeId} {ek ev : ES} {z : SV} {x k v : Operand} {x' k' v' : Opd} {i : Nat} {l : List (SV × SV)} (hT : mapTy P T = some (ek, ev, z)) (hrun : ∀ a : Act, execOp a.eval o = (do Instr.mapUpdate T (a.eval x) (a.eval k) (a.eval v); pure .skip))
    (hx : compO x = some x') (hk : compO k = some k') (hv : compO v = some v') (ex : x'.ev σ = .map i) (hm : memAt m i = .mp ek ev l) (hek : esP ek (k'.ev σ)) (hev : esP ev (v'.ev σ)) :
    EStepL P o σ m .junk (m.set i (.mp ek ev (mpPut ek (k'.ev σ) (v'.ev σ) l))) := by
  intro β ε a w hi hs Q
  obtain ⟨kt, et, hu, hb, hd, _, _⟩ := mapTy_ok hT
  obtain ⟨hin, e1⟩ := sat_map (ex ▸ compO_ok hx hs)
  obtain ⟨kc, sk, e2⟩ := sat_val (compO_ok hk hs) (esP_val hek)
  obtain ⟨vc, sv, e3⟩ := sat_val (compO_ok hv hs) (esP_val hev)
  obtain ⟨es, cl, hh, hE, hS⟩ : ResOK ε i w (.mp ek ev l) := hm ▸ hi.good.res i
  have hkag := esP_agg hek
  have hck := checkKey_ok (P := P) (d := 10000) ek w false hb (by omega) hek sk
  have hfk := findKey_ok (P := P) hb (by omega) hek sk w hE
  have hnew : EntOK ek ev (k'.ev σ, v'.ev σ) { key := boxed (k'.ev σ).isAgg kc, val := boxed (v'.ev σ).isAgg vc, born := cl } := ⟨hek, hev, ⟨kc, es_nil ek hek sk, rfl⟩, ⟨vc, es_nil ev hev sv, rfl⟩⟩
  rw [hkag] at e2
  have key : ∃ es' cl', (Instr.mapUpdate T (a.eval x) (a.eval k) (a.eval v)).run P w = .ok () { w with heap := w.heap.setIfInBounds (ε.blk i) (.map es' cl') } ∧ EntsOK ek ev (mpPut ek (k'.ev σ) (v'.ev σ) l) es'.toList ∧ Stamps es'.toList cl' := by
    rw [e1, e2, e3]
    cases hix : mpIdx ek (k'.ev σ) l with
    | none =>
      rw [hix] at hfk
      refine ⟨es.push { key := boxed (aggE ek) kc, val := boxed (v'.ev σ).isAgg vc, born := cl }, cl + 1, ?_, ?_⟩
      · simp only [Instr.mapUpdate, Sem.run_bind, run_underlying hu, Result.andThen_ok, MapKept.run_getObj_map hh, hck, hfk, Option.bind_none, MapKept.run_setObj_map _ hh]
      · rw [mpIdx_put, hix, Array.toList_push]
        rw [hkag] at hnew
        exact ⟨hE.push hnew, stamps_push hS rfl⟩
    | some j =>
      obtain ⟨p, hp, hpe⟩ := mpIdx_ok l hix
      obtain ⟨e, he, hee⟩ := hE.at hp
      rw [hix] at hfk
      have he' : es[j]? = some e := by simpa using he
      have hsame : e.key = boxed (aggE ek) kc := by
        obtain ⟨cs', s1, s2⟩ := hee.kc
        rw [s2, esP_agg hee.k, eqV_cells ek hek hee.k sk s1 hpe]
      have hst := es_stays (P := P) hek sk w
      rw [hkag] at hst
      refine ⟨es.modify j fun e => { e with key := boxed (aggE ek) kc, val := boxed (v'.ev σ).isAgg vc }, cl, ?_, ?_⟩
      · simp only [Instr.mapUpdate, Sem.run_bind, run_underlying hu, Result.andThen_ok, MapKept.run_getObj_map hh, hck, hfk, Option.bind_some, he, Option.map_some, he', Option.getD_some, hsame, hst, MapKept.run_setObj_map _ hh]
      · rw [mpIdx_put, hix]
        have hj : j < es.size := (Array.getElem?_eq_some_iff.1 he').1
        have : (es.modify j fun e => { e with key := boxed (aggE ek) kc, val := boxed (v'.ev σ).isAgg vc }).toList = es.toList.set j { key := boxed (aggE ek) kc, val := boxed (v'.ev σ).isAgg vc, born := e.born } := by
          apply List.ext_getElem?
          intro q
          rw [List.getElem?_set, Array.getElem?_toList, Array.getElem?_modify, Array.getElem?_toList]
          have hej : es[j] = e := by
            have := he'
            rw [Array.getElem?_eq_getElem hj] at this
            exact Option.some.inj this
          by_cases hq : j = q
          · subst hq; simp [hj, hej]
          · simp [hq]
        rw [this]
        refine ⟨hE.set ⟨hek, hev, ⟨kc, es_nil ek hek sk, ?_⟩, ⟨vc, es_nil ev hev sv, rfl⟩⟩ j, stamps_set hS he rfl⟩
        rw [hkag]
  obtain ⟨es', cl', hr, hE'⟩ := key
  unfold Oper.wp
  rw [hrun]
  simp only [Sem.run_bind, hr, Result.andThen_ok, Sem.run_pure]
  rw [Oper.upon_skip]
  exact ⟨_, ε, rfl, trivial, Env.Le.refl ε, hi.setMp hm hh hE'⟩
theorem estep_get {T : TypeId} {ek ev : ES} {z : SV} {ok : Bool} {x k : Operand} {x' k' : Opd} {i : Nat} {l : List (SV × SV)} (hT : mapTy P T = some (ek, ev, z)) (hrun : ∀ a : Act, execOp a.eval o = (do let v ← Instr.lookup T (a.eval x) (a.eval k) ok; pure (.value v)))
    (hx : compO x = some x') (hk : compO k = some k') (ex : x'.ev σ = .map i) (hm : memAt m i = .mp ek ev l) (hek : esP ek (k'.ev σ)) :
    EStepL P o σ m (if ok then .tup [mpRes ev z (mpFind ek (k'.ev σ) l), .bool (mpFind ek (k'.ev σ) l).isSome] else mpRes ev z (mpFind ek (k'.ev σ) l)) m := by
  intro β ε a w hi hs Q
  obtain ⟨kt, et, hu, hb, hd, hzo, hz, hzb⟩ := mapTy_ok hT
  obtain ⟨hz1, hz2⟩ := zOK_ok hzo
  obtain ⟨hin, e1⟩ := sat_map (ex ▸ compO_ok hx hs)
  obtain ⟨kc, sk, e2⟩ := sat_val (compO_ok hk hs) (esP_val hek)
  obtain ⟨es, cl, hh, hE, _⟩ : ResOK ε i w (.mp ek ev l) := hm ▸ hi.good.res i
  have hck := checkKey_ok (P := P) (d := 10000) ek w es.isEmpty hb (by omega) hek sk
  have hfk := findKey_ok (P := P) hb (by omega) hek sk w hE
  rw [esP_agg hek] at e2
  have key : ∃ (v : Value) (b : Bool), (Instr.lookup T (a.eval x) (a.eval k) ok).run P w = .ok (if ok then .tuple #[v, .bool b] else v) w ∧ SatC' ε (mpRes ev z (mpFind ek (k'.ev σ) l)) v ∧ b = (mpFind ek (k'.ev σ) l).isSome := by
    rw [e1, e2]
    cases hix : mpIdx ek (k'.ev σ) l with
    | none =>
      rw [hix] at hfk
      obtain ⟨inf, zv, i1, i2, i3⟩ := zero_boxed hz hzb
      have hrz : (zeroValue et).run P w = .ok zv w := by simp [zeroValue, typeInfo, i1, i2]
      refine ⟨zv, false, ?_, ?_, ?_⟩
      · simp only [Instr.lookup, Sem.run_bind, run_underlying hu, Result.andThen_ok, MapKept.run_getObj_map hh, Sem.run_pure, hck, hfk, Option.bind_none, hrz]
      · rw [mpIdx_find, hix, Option.bind_none, hz2]
        exact i3 ε
      · rw [mpIdx_find, hix]; rfl
    | some j =>
      obtain ⟨p, hp, hpe⟩ := mpIdx_ok l hix
      obtain ⟨e, he, hee⟩ := hE.at hp
      rw [hix] at hfk
      refine ⟨e.val, true, ?_, ?_, ?_⟩
      · simp only [Instr.lookup, Sem.run_bind, run_underlying hu, Result.andThen_ok, MapKept.run_getObj_map hh, Sem.run_pure, hck, hfk, Option.bind_some, he, Option.map_some]
      · rw [mpIdx_find, hix, Option.bind_some, hp, Option.map_some, mpRes_some hee.v]
        obtain ⟨vc, s1, s2⟩ := hee.vc
        exact ⟨vc, s1.mono _ (Env.nil_le ε), s2⟩
      · rw [mpIdx_find, hix, Option.bind_some, hp]; rfl
  obtain ⟨v, b, hr, ⟨vc, s1, s2⟩, hb'⟩ := key
  unfold Oper.wp
  rw [hrun]
  simp only [Sem.run_bind, hr, Result.andThen_ok, Sem.run_pure]
  rw [Oper.upon_value]
  refine ⟨_, ε, rfl, ?_, Env.Le.refl ε, hi⟩
  cases ok with
  | true =>
    simp only [if_true]
    refine ⟨[v, .bool b], ?_, rfl⟩
    simp only [SatA]
    exact ⟨vc, [.bool b], by rw [s2], s1, [.bool b], [], rfl, by rw [hb']; rfl, rfl⟩
  | false =>
    simp only [Bool.false_eq_true, if_false]
    rw [s2]
    exact satC_sat s1
theorem bytesOf_ok : ∀ {l : List SV} {bs : List UInt8}, bytesOf l = some bs → ∃ ns : List Int, l = ns.map (SV.int .u8) ∧ bs = ns.map fun n => UInt8.ofNat n.toNat
  | [], bs, h => by
    simp only [bytesOf, Option.some.injEq] at h
    subst h; exact ⟨[], rfl, rfl⟩
  | x :: r, bs, h => by
    unfold bytesOf at h
    split at h
    · rename_i e; cases e
    · rename_i n r' e
      cases e
      simp only [Option.map_eq_some_iff] at h
      obtain ⟨l, hl, rfl⟩ := h
      obtain ⟨ns, rfl, rfl⟩ := bytesOf_ok hl
      exact ⟨n :: ns, rfl, rfl⟩
    · cases h
theorem satE_bytes {ε : Env} : ∀ {ns : List Int} {xs : List Value}, SatE ε 1 (ns.map (SV.int .u8)) xs → xs = ns.map (Value.int .u8)
  | ns, xs, h => by
    apply List.ext_getElem?
    intro i
    have hl : xs.length = ns.length := by have := h.1; simpa using this
    by_cases hi : i < ns.length
    · have h2 := h.2 i (by simpa using hi)
      have e : (ns.map (SV.int .u8)).getD i .junk = .int .u8 ns[i] := by simp [List.getD, hi]
      rw [e] at h2
      simp only [SatC] at h2
      have h3 : (sub xs (i * 1) 1)[0]? = some (.int .u8 ns[i]) := by rw [h2]; rfl
      rw [sub_get, if_pos (by omega)] at h3
      simp only [Nat.mul_one, Nat.add_zero] at h3
      rw [h3]; simp [hi]
    · rw [List.getElem?_eq_none (by omega), List.getElem?_eq_none (by simpa using hi)]
theorem foldl_push : ∀ (ns : List Int) (r : ByteArray), ns.foldl (fun r n => r.push (UInt8.ofNat n.toNat)) r = ⟨r.data ++ (ns.map fun n => UInt8.ofNat n.toNat).toArray⟩
  | [], r => by simp
  | n :: ns, r => by
    simp only [List.foldl_cons]
    rw [foldl_push ns]
    simp [ByteArray.push]
theorem Inv.allocO {β : Base} {ε : Env} {m : List Res} {w : World} (h : Inv β ε m w) (o0 : Obj) :
    Inv β { ε with H := fun b => if b = w.heap.size then some o0 else ε.H b } m (w.alloc o0) ∧
    ε.Le { ε with H := fun b => if b = w.heap.size then some o0 else ε.H b } := by
  have hw : ∀ b, b < w.heap.size → (w.alloc o0).heap[b]? = w.heap[b]? := fun b hb => Go.RowKit.Below.heap_alloc w _ b hb
  have hH : ∀ b o, ε.H b = some o → (if b = w.heap.size then some o0 else ε.H b) = some o := by
    intro b o hb
    rw [if_neg (by have := H_lt h.good hb; omega)]; exact hb
  have hle : ε.Le { ε with H := fun b => if b = w.heap.size then some o0 else ε.H b } := ⟨Nat.le_refl _, fun _ _ => rfl, fun _ _ => rfl, hH⟩
  refine ⟨⟨h.good.grow hle h.good.n (fun _ _ => rfl) (fun _ _ => rfl) hw (fun b o hb => ?_) (fun i b hb => ?_), ⟨h.kept.os, h.kept.tape, h.kept.output, ?_, ?_, fun b o hb => hH b o (h.kept.H b o hb), fun b o hb => ?_, h.kept.drawn⟩, h.own, h.n, h.blk, h.vv⟩, hle⟩
  · simp only at hb
    by_cases e : b = w.heap.size
    · rw [if_pos e] at hb
      subst e
      rw [heap_alloc_new w]
      exact hb
    · rw [if_neg e] at hb
      rw [hw b (H_lt h.good hb)]; exact h.good.hv b o hb
  · have := ownR_lt h.good hb
    simp only
    rw [if_neg (by omega)]; exact h.good.sep i b hb
  · have := h.kept.size; simp; omega
  · intro b hb hB; rw [hw b (Nat.lt_of_lt_of_le hb h.kept.size)]; exact h.kept.heap b hb hB
  · simp only at hb
    by_cases e : b = w.heap.size
    · right; left; rw [e]; exact h.kept.size
    · rw [if_neg e] at hb; exact h.kept.fresh b o hb
theorem estep_bstr {t d e : TypeId} {x : Operand} {x' : Opd} {s : List UInt8} (ho : o.op = .convert t d x) (ht : P.underlying t = some .string) (hd : P.underlying d = some (.slice e)) (he : P.underlying e = some (.int .u8))
    (hx : compO x = some x') (hs' : x'.ev σ = .str s) (hb : s.length ≤ 140737488355328) : EStepL P o σ m (.lst 1 (0 : UInt8) (fun b => SV.int .u8 (b.toNat : Int)) s) m := by
  intro β ε a w hi hs Q
  have e1 := sat_str (hs' ▸ compO_ok hx hs)
  have hr0 := run_bytes_of_string (P := P) w t d e ⟨s.toArray⟩ ht hd he
  have hsz : (⟨s.toArray⟩ : ByteArray).size = s.length := by simp [ByteArray.size]
  rw [hsz] at hr0
  have hr : (execOp a.eval o).run P w = .ok (.value (.slice (some ⟨w.heap.size, 0, none⟩) s.length (grownCap w s.length 0 e))) (w.drew.alloc (.cells (bytesRow ⟨s.toArray⟩ (grownCap w s.length 0 e)) e ((bytesRow ⟨s.toArray⟩ (grownCap w s.length 0 e)).size, (bytesRow ⟨s.toArray⟩ (grownCap w s.length 0 e)).size + 1))) := by
    simp [execOp, ho, e1, hr0]
  obtain ⟨k1, k2⟩ := hi.drew.allocO (.cells (bytesRow ⟨s.toArray⟩ (grownCap w s.length 0 e)) e ((bytesRow ⟨s.toArray⟩ (grownCap w s.length 0 e)).size, (bytesRow ⟨s.toArray⟩ (grownCap w s.length 0 e)).size + 1))
  have hge := grownCap_ge w s.length 0 e
  unfold Oper.wp
  rw [hr, Oper.upon_value]
  refine ⟨_, _, rfl, ⟨[.slice (some ⟨w.heap.size, 0, none⟩) s.length (grownCap w s.length 0 e)], ?_, rfl⟩, k2, k1⟩
  simp only [SatC]
  refine ⟨some ⟨w.heap.size, 0, none⟩, grownCap w s.length 0 e, rfl, hge, grownCap_le_maxLen w s.length 0 e (by unfold maxLen; omega), (fun h => by cases h), fun i hi' => ?_⟩
  have hbs : (bytesRow ⟨s.toArray⟩ (grownCap w s.length 0 e)).size = grownCap w s.length 0 e := by
    simp [bytesRow, ByteArray.size]; omega
  refine ⟨w.heap.size, 0, e, ((bytesRow ⟨s.toArray⟩ (grownCap w s.length 0 e)).size, (bytesRow ⟨s.toArray⟩ (grownCap w s.length 0 e)).size + 1), bytesRow ⟨s.toArray⟩ (grownCap w s.length 0 e), rfl, if_pos rfl, by rw [hbs]; omega, ?_⟩
  apply List.ext_getElem?
  intro j
  rw [sub_get]
  by_cases hj : j < 1
  · rw [if_pos hj]
    have : j = 0 := by omega
    subst this
    simp only [Nat.zero_add, Nat.mul_one, Nat.add_zero, bytesRow, Array.toList_append, Array.toList_map]
    rw [List.getElem?_append_left (by simpa using hi')]
    simp [List.getD, hi']
  · rw [if_neg hj, List.getElem?_eq_none (by simp; omega)]
theorem estep_strb {t d e : TypeId} {x : Operand} {x' : Opd} {l : List SV} {bs : List UInt8} (ho : o.op = .convert t d x) (ht : P.underlying t = some (.slice e)) (hd : P.underlying d = some .string) (he : P.underlying e = some (.int .u8))
    (hx : compO x = some x') (hl : srcL m 1 (x'.ev σ) = some l) (hb : bytesOf l = some bs) : EStepL P o σ m (.str bs) m := by
  intro β ε a w hi hs Q
  obtain ⟨ns, rfl, rfl⟩ := bytesOf_ok hb
  obtain ⟨ao, c, news, e1, e2, e3, e4, e5⟩ := srcL_ok hl hi.good (compO_ok hx hs)
  have hnews := satE_bytes e2
  subst hnews
  have key : (convert t d (a.eval x)).run P w = .ok (.string ⟨(ns.map fun n => UInt8.ofNat n.toNat).toArray⟩) w := by
    rw [e1, run_convert_bytes_string w t d e ao _ c ht he hd]
    cases ao with
    | none =>
      obtain ⟨h1, rfl⟩ := e3 rfl
      simp only [List.map_eq_nil_iff] at h1
      subst h1
      rfl
    | some ad =>
      have hc := run_loadCells_list (P := P) w ad (ns.map (Value.int .u8)) (fun j v hj => e4 ad rfl j v hj)
      simp only [List.length_map] at hc ⊢
      rw [run_bytesToString w ad ns.length c ns hc, foldl_push]
      simp
  unfold Oper.wp
  have hr : (execOp a.eval o).run P w = .ok (.value (.string ⟨(ns.map fun n => UInt8.ofNat n.toNat).toArray⟩)) w := by
    simp [execOp, ho, key]
  rw [hr, Oper.upon_value]
  exact ⟨_, ε, rfl, ⟨[_], by simp only [SatC], rfl⟩, Env.Le.refl ε, hi⟩
theorem estep_mop {k : MK} {ys : List Opd} {K : SV → List Res → Prop} (hc : compM P o.op = some (k, ys)) (hv : (ys.map (·.ev σ)).all SV.isVal = true) (h : mopK m k (ys.map (·.ev σ)) K) :
    ∃ sv m', K sv m' ∧ EStepL P o σ m sv m' ∧ (k.eff = false → m' = m) := by
  have put : ∀ (T : TypeId) (x kk v : Operand), (∀ a : Act, execOp a.eval o = (do Instr.mapUpdate T (a.eval x) (a.eval kk) (a.eval v); pure .skip)) → compM.compPut P T x kk v = some (k, ys) → ∃ sv m', K sv m' ∧ EStepL P o σ m sv m' ∧ (k.eff = false → m' = m) := by
    intro T x kk v hrun hp
    unfold compM.compPut at hp
    split at hp <;> try (cases hp; done)
    rename_i ek ev z hT
    split at hp <;> try (cases hp; done)
    rename_i x' k' v' h1 h2 h3
    simp only [Option.some.injEq, Prod.mk.injEq] at hp
    obtain ⟨rfl, rfl⟩ := hp
    simp only [mopK, List.map_cons, List.map_nil] at h
    split at h
    · rename_i i key vv e0
      simp only [List.cons.injEq, and_true] at e0
      obtain ⟨e1, rfl, rfl⟩ := e0
      split at h
      · rename_i ek' ev' l hm
        obtain ⟨⟨rfl, rfl, hk, hvv⟩, hK⟩ := h
        exact ⟨_, _, hK, estep_put hT hrun h1 h2 h3 e1 hm hk hvv, fun hh => by cases hh⟩
      · exact h.elim
    · exact h.elim
  cases ho : o.op <;> rw [ho] at hc <;> simp only [compM] at hc <;> try (cases hc; done)
  case makeMap T r =>
    split at hc <;> try (cases hc; done)
    rename_i ek ev z hT
    split at hc
    · simp only [Option.some.injEq, Prod.mk.injEq] at hc
      obtain ⟨rfl, rfl⟩ := hc
      exact ⟨_, _, h, estep_mkm (T := T) (fun ε a w hs => by simp [execOp, ho, Instr.makeMap]), fun hh => by cases hh⟩
    · rename_i r
      simp only [Option.map_eq_some_iff] at hc
      obtain ⟨r', hr, hc⟩ := hc
      simp only [Prod.mk.injEq] at hc
      obtain ⟨rfl, rfl⟩ := hc
      simp only [mopK, List.map_cons, List.map_nil] at h
      split at h
      · rename_i e0; cases e0
      · rename_i k n e0
        simp only [List.cons.injEq, and_true] at e0
        obtain ⟨kt, et, hu, _⟩ := mapTy_ok hT
        exact ⟨_, _, h, estep_mkm (T := T) (fun ε a w hs => by
          have := sat_int (e0 ▸ compO_ok hr hs)
          simp [execOp, ho, Instr.makeMap, run_underlying hu, this, asInt, asIntOf]), fun hh => by cases hh⟩
      · exact h.elim
  case mapUpdate T x kk v => exact put T x kk v (fun a => by simp [execOp, ho]) hc
  case insert T x kk v => exact put T x kk v (fun a => by simp [execOp, ho]) hc
  case lookup T x kk ok =>
    split at hc <;> try (cases hc; done)
    rename_i ek ev z hT
    split at hc <;> try (cases hc; done)
    rename_i x' k' h1 h2
    simp only [Option.some.injEq, Prod.mk.injEq] at hc
    obtain ⟨rfl, rfl⟩ := hc
    simp only [mopK, List.map_cons, List.map_nil] at h
    split at h
    · rename_i i key e0
      simp only [List.cons.injEq, and_true] at e0
      obtain ⟨e1, rfl⟩ := e0
      split at h
      · rename_i ek' ev' l hm
        obtain ⟨⟨rfl, rfl, hk⟩, hK⟩ := h
        exact ⟨_, _, hK, estep_get hT (fun a => by simp [execOp, ho]) h1 h2 e1 hm hk, fun _ => rfl⟩
      · exact h.elim
    · exact h.elim
  case convert t d x =>
    split at hc
    · rename_i e h1 h2
      split at hc <;> try (cases hc; done)
      rename_i h3
      simp only [Option.map_eq_some_iff] at hc
      obtain ⟨x', hx, hc⟩ := hc
      simp only [Prod.mk.injEq] at hc
      obtain ⟨rfl, rfl⟩ := hc
      simp only [mopK, List.map_cons, List.map_nil] at h
      split at h
      · rename_i l hl
        split at h
        · rename_i bs hb
          exact ⟨_, _, h, estep_strb ho h1 h2 h3 hx hl hb, fun _ => rfl⟩
        · exact h.elim
      · exact h.elim
    · rename_i e h1 h2
      split at hc <;> try (cases hc; done)
      rename_i h3
      simp only [Option.map_eq_some_iff] at hc
      obtain ⟨x', hx, hc⟩ := hc
      simp only [Prod.mk.injEq] at hc
      obtain ⟨rfl, rfl⟩ := hc
      simp only [mopK, List.map_cons, List.map_nil] at h
      split at h
      · rename_i s e0
        simp only [List.cons.injEq, and_true] at e0
        exact ⟨_, _, h.2, estep_bstr ho h1 h2 h3 hx e0 h.1, fun _ => rfl⟩
      · exact h.elim
    · cases hc
  case call c =>
    unfold compM.compLen at hc
    cases c with
    | mk callee args argTypes =>
    simp only at hc
    split at hc <;> try (cases hc; done)
    rename_i x t ea et
    obtain rfl : args = #[x] := by apply Array.ext'; simpa using ea
    obtain rfl : argTypes = #[t] := by apply Array.ext'; simpa using et
    split at hc <;> try (cases hc; done)
    rename_i kt et hu
    simp only [Option.map_eq_some_iff] at hc
    obtain ⟨x', hx, hc⟩ := hc
    simp only [Prod.mk.injEq] at hc
    obtain ⟨rfl, rfl⟩ := hc
    simp only [mopK, List.map_cons, List.map_nil] at h
    split at h
    · rename_i i e0
      simp only [List.cons.injEq, and_true] at e0
      split at h
      · rename_i ek ev l hm
        refine ⟨_, _, h, fun β ε a w hi hs Q => ?_, fun _ => rfl⟩
        obtain ⟨hin, e1⟩ := sat_map (e0 ▸ compO_ok hx hs)
        obtain ⟨es, cl, hh, hE, _⟩ : ResOK ε i w (.mp ek ev l) := hm ▸ hi.good.res i
        have hl := hE.len
        have hrun : (execOp a.eval o).run P w = .ok (.value (.int .i64 l.length)) w := by
          simp only [Array.length_toList] at hl
          simp [execOp, ho, resolve, invoke, builtin, Builtin.len_, run_underlying hu, e1, goInt, MapKept.run_getObj_map hh, hl]
        unfold Oper.wp
        rw [hrun, Oper.upon_value]
        exact ⟨_, ε, rfl, ⟨[_], by simp only [SatC], rfl⟩, Env.Le.refl ε, hi⟩
      · exact h.elim
    · exact h.elim
end

end Go.Sx
/-! Sx, part 12: calls; make; the operations of a region one behind the other; code. -/
set_option linter.unusedSimpArgs false
set_option linter.unusedVariables false
namespace Go.Sx
open Go

variable {P : Program}

def okFn (P : Program) (f : FuncId) : Bool := match P.funcs[f]? with
  | some fn => fn.name != "runtime.NumGoroutine" && fn.body.isSome
  | none => false

theorem run_callFunc {f : FuncId} (h : okFn P f = true) (args : Array Value) (w : World) : (callFunc f args).run P w = .ok (.enter f args) w := by
  unfold okFn at h
  split at h
  · rename_i fn hf
    simp only [Bool.and_eq_true, bne_iff_ne, ne_eq, Option.isSome_iff_exists] at h
    obtain ⟨h1, b, h2⟩ := h
    simp [callFunc, hf, h1, h2]
  · cases h

def CallStep (P : Program) (f : FuncId) (args : List SV) (m : List Res) (sv : SV) (m' : List Res) : Prop :=
  ∀ β ε vs w, Inv β ε m w → SatA args ε vs → Calls P f vs.toArray w fun e w' => ∃ v ε', e = .returned v ∧ ε.Le ε' ∧ SatV ε' sv v ∧ Inv β ε' m' w'

def HookOK (P : Program) (Γ : Hook) : Prop := ∀ f args m K, Γ f args m K → okFn P f = true ∧ ∃ sv m', K sv m' ∧ CallStep P f args m sv m'

section
variable {o : Oper} {σ : List SV} {m : List Res}

theorem SatA.append {ε : Env} : ∀ {l1 l2 : List SV} {v1 v2 : List Value}, SatA l1 ε v1 → SatA l2 ε v2 → SatA (l1 ++ l2) ε (v1 ++ v2)
  | [], l2, v1, v2, h1, h2 => by simp only [SatA] at h1; subst h1; simpa using h2
  | x :: r, l2, v1, v2, h1, h2 => by
    simp only [SatA] at h1
    obtain ⟨cs, t, rfl, h3, h4⟩ := h1
    simp only [List.cons_append, SatA]
    exact ⟨cs, t ++ v2, rfl, h3, SatA.append h4 h2⟩

theorem estep_enter {Γ : Hook} (hΓ : HookOK P Γ) {f : FuncId} {args : List SV} {K : SV → List Res → Prop} (h : Γ f args m K)
    (hrun : ∀ ε a w, Good ε m w → SlotsOK ε σ a → ∃ vs, SatA args ε vs ∧ (okFn P f = true → (execOp a.eval o).run P w = .ok (.enter f vs.toArray) w)) :
    ∃ sv m', K sv m' ∧ EStepL P o σ m sv m' := by
  obtain ⟨hok, sv, m', hK, hc⟩ := hΓ f args m K h
  refine ⟨sv, m', hK, fun β ε a w hi hs Q => ?_⟩
  obtain ⟨vs, h1, h2⟩ := hrun ε a w hi.good hs
  unfold Oper.wp
  rw [h2 hok, Oper.upon_enter]
  refine (hc β ε vs w hi h1).mono fun e w' ⟨v, ε', he, hl, hv, hi'⟩ => ?_
  subst he
  exact ⟨v, ε', rfl, hv, hl, hi'⟩

theorem estep_call {Γ : Hook} (hΓ : HookOK P Γ) {f : FuncId} {args : Array Operand} {tys : Array TypeId} {ys : List Opd} {K : SV → List Res → Prop}
    (ho : o.op = .call { callee := .value (.func f), args, argTypes := tys }) (hy : args.toList.mapM compO = some ys) (hv : (ys.map (·.ev σ)).all SV.isVal = true)
    (h : Γ f (ys.map (·.ev σ)) m K) : ∃ sv m', K sv m' ∧ EStepL P o σ m sv m' := by
  refine estep_enter hΓ h fun ε a w hg hs => ⟨_, sat_caps hs args.toList ys hy hv, fun hok => ?_⟩
  have : (args.toList.map a.eval).toArray = args.map a.eval := by apply Array.ext'; simp
  simp [execOp, ho, resolve, Deferred.ofValue, invoke, Act.eval, run_callFunc hok]
  apply Array.ext'; simp

theorem estep_callv {Γ : Hook} (hΓ : HookOK P Γ) {x : Operand} {x' : Opd} {f : FuncId} {cap : List SV} {args : Array Operand} {tys : Array TypeId} {ys : List Opd} {K : SV → List Res → Prop}
    (ho : o.op = .call { callee := .value x, args, argTypes := tys }) (hx : compO x = some x') (hf : x'.ev σ = .fn f cap) (hy : args.toList.mapM compO = some ys) (hv : (ys.map (·.ev σ)).all SV.isVal = true)
    (h : Γ f (ys.map (·.ev σ) ++ cap) m K) : ∃ sv m', K sv m' ∧ EStepL P o σ m sv m' := by
  refine estep_enter hΓ h fun ε a w hg hs => ?_
  obtain ⟨cv, h1, h2⟩ := sat_fn (hf ▸ compO_ok hx hs)
  refine ⟨_, (sat_caps hs args.toList ys hy hv).append h1, fun hok => ?_⟩
  simp [execOp, ho, resolve, h2, Deferred.ofValue, invoke, run_callFunc hok]

def icOf (P : Program) (nm : String) (t : TypeId) : Option (TypeId × FuncId) := match P.info? t with
  | some i => match i.methods.find? (·.name == nm) with
    | some mth => match mth.func with
      | some (f, false) => if mth.path.isEmpty then (match P.underlying t with
        | some (.pointer _) => none
        | some _ => some (t, f)
        | none => none) else none
      | _ => none
    | none => none
  | none => none
def icTab (P : Program) (nm : String) : List (TypeId × FuncId) := (List.range P.types.size).filterMap (icOf P nm)
theorem tabF_mem {t : TypeId} {f : FuncId} : ∀ {l : List (TypeId × FuncId)}, tabF l t = some f → (t, f) ∈ l
  | [], h => by cases h
  | (u, x) :: r, h => by
    simp only [tabF] at h
    split at h
    · rename_i hu
      cases h; subst hu; exact List.mem_cons_self
    · exact List.mem_cons_of_mem _ (tabF_mem h)
theorem icTab_ok {nm : String} {t : TypeId} {f : FuncId} (h : tabF (icTab P nm) t = some f) : ∀ (v : Value) (n : Nat) (w : World), (method (n + 1) t v nm).run P w = .ok (f, v) w := by
  obtain ⟨u, _, hu⟩ := List.mem_filterMap.1 (tabF_mem h)
  unfold icOf at hu
  split at hu <;> try (cases hu; done)
  rename_i i hi
  split at hu <;> try (cases hu; done)
  rename_i mth hm
  split at hu <;> try (cases hu; done)
  rename_i f' hf
  split at hu <;> try (cases hu; done)
  rename_i hp
  split at hu <;> try (cases hu; done)
  rename_i d hnp hd
  simp only [Option.some.injEq, Prod.mk.injEq] at hu
  obtain ⟨rfl, rfl⟩ := hu
  intro v n w
  have hp' : mth.path.toList = [] := by simpa using hp
  have hrec : ∀ wr, (receiverAt u (.val v) false wr).run P w = .ok v w := by
    intro wr
    simp only [receiverAt, Sem.run_bind, run_underlying hd, Result.andThen_ok]
    cases d <;> first
      | exact absurd hd (hnp _)
      | rfl
  simp [method, run_info hi, hm, hp', follow, hf, hrec]
theorem recv_at (r : Value) (b : Array Value) : (#[r] ++ b)[0]? = some r := by
  rw [Array.getElem?_append_left (by simp)]
  rfl
theorem recv_rest (r : Value) (b : Array Value) : (#[r] ++ b).extract 1 (#[r] ++ b).size = b := by
  apply Array.ext'
  simp only [Array.toList_extract, Array.size_append]
  simp only [List.extract, Array.toList_append, List.size_toArray, List.length_cons, List.length_nil]
  rw [show (0 + 1 + b.size - 1) = b.toList.length by simp]
  exact List.take_length
theorem estep_icall {Γ : Hook} (hΓ : HookOK P Γ) {x : Operand} {nm : String} {x' : Opd} {t : TypeId} {v : SV} {f : FuncId} {args : Array Operand} {tys : Array TypeId} {ys : List Opd} {K : SV → List Res → Prop}
    (ho : o.op = .call { callee := .invoke x nm, args, argTypes := tys }) (hx : compO x = some x') (hf : x'.ev σ = .iface t v) (ht : tabF (icTab P nm) t = some f) (hy : args.toList.mapM compO = some ys) (hv : (ys.map (·.ev σ)).all SV.isVal = true)
    (h : Γ f (v :: ys.map (·.ev σ)) m K) : ∃ sv m', K sv m' ∧ EStepL P o σ m sv m' := by
  refine estep_enter hΓ h fun ε a w hg hs => ?_
  obtain ⟨xs, h1, h2⟩ := sat_iface (hf ▸ compO_ok hx hs)
  refine ⟨boxed v.isAgg xs :: _, by simp only [SatA]; exact ⟨xs, _, rfl, h1, sat_caps hs args.toList ys hy hv⟩, fun hok => ?_⟩
  have hm := icTab_ok ht (boxed v.isAgg xs) (P.types.size + 99) w
  simp only [execOp, ho, resolve, Sem.run_bind, Sem.run_pure, Result.andThen_ok, h2, invoke, recv_at, recv_rest, callMethod]
  simp [Made.depth, hm, run_callFunc hok]

theorem estep_mks {T E : TypeId} {w by' : Nat} {z : SV} {l c : Operand} {l' c' : Opd} {kl kc : IntKind} {nl nc : Int} (ho : o.op = .makeSlice T l c) (ht : compApp P T = some (E, w, by')) (hz' : zok P E = some z)
    (hl : compO l = some l') (hc : compO c = some c') (el : l'.ev σ = .int kl nl) (ec : c'.ev σ = .int kc nc) (h0 : 0 ≤ nl) (hlc : nl ≤ nc) (hb : nc * by' ≤ 140737488355328) :
    EStepL P o σ m (.vec m.length nl.toNat) (m ++ [.vec E w (List.replicate nl.toNat z)]) := by
  intro β ε a W hI hs Q
  obtain ⟨hu, i, zv, hi, hz, hsz, hby, hzs, hw0, hb0⟩ := compApp_ok ht
  obtain ⟨i2, v2, e1, e2, e3⟩ := zok_ok hz'
  rw [hi] at e1; cases e1
  rw [hz] at e2; cases e2
  have s1 := sat_int (el ▸ compO_ok hl hs)
  have s2 := sat_int (ec ▸ compO_ok hc hs)
  have hnc : nc ≤ 9223372036854775807 := by
    have : nc * 1 ≤ nc * by' := Int.mul_le_mul_of_nonneg_left (by omega) (by omega)
    omega
  have hr : (execOp a.eval o).run P W = .ok (.value (.slice (some ⟨W.heap.size, 0, none⟩) nl.toNat nc.toNat)) (W.alloc (.cells (madeCells zv.cells (nc.toNat * i.size)) E)) := by
    have := run_make (P := P) W T E i zv hu hi hz kl kc nl nc h0 hlc (by rw [hby, Int.mul_comm]; omega) hnc
    simp [execOp, ho, s1, s2, this]
  have hcm : nc.toNat ≤ maxLen := by unfold maxLen; omega
  subst hsz
  have hzl : zv.cells.toList.length = i.size := by simpa using hzs
  have hEz := satE_zero (n := nl.toNat) (e3 ε) hzl
  unfold Oper.wp
  rw [hr, Oper.upon_value]
  refine ⟨_, ε.more 0 (.slice (some ⟨W.heap.size, 0, none⟩) nl.toNat nc.toNat), rfl, ?_, ε.le_more _ _, hI.more (World.grownBy_alloc _ _ _) (Nat.le_refl _) ?_ ?_⟩
  · refine ⟨[.slice (some ⟨W.heap.size, 0, none⟩) nl.toNat nc.toNat], ?_, rfl⟩
    simp only [SatC]
    refine ⟨by simp [Env.more, hI.good.n], .inr ⟨W.heap.size, nc.toNat, ?_, by omega⟩, ?_⟩ <;> simp [Env.more, hI.good.n]
  · have hvv : (ε.more 0 (.slice (some ⟨W.heap.size, 0, none⟩) nl.toNat nc.toNat)).vv m.length = .slice (some ⟨W.heap.size, 0, none⟩) nl.toNat nc.toNat := by simp [Env.more, hI.good.n]
    refine ⟨_, ?_, fun j hj => (hEz.2 j hj).mono _ (ε.le_more _ _)⟩
    rw [hvv]
    refine ⟨hEz.1, .inr ⟨W.heap.size, nc.toNat, madeCells zv.cells (nc.toNat * i.size), by simp, Nat.zero_le _, heap_alloc_new W _, by simp; omega, hcm, by simp [madeCells], ?_⟩⟩
    have hle : nl.toNat * i.size ≤ nc.toNat * i.size := Nat.mul_le_mul_right _ (by omega)
    simp only [List.length_replicate]
    apply List.ext_getElem?
    intro k
    rw [List.getElem?_take]
    by_cases hk : k < nl.toNat * i.size
    · rw [if_pos hk]
      simp [madeCells, hk, show k < nc.toNat * i.size by omega]
    · rw [if_neg hk, List.getElem?_eq_none (by simp; omega)]
  · intro x hx
    simp [ownR, Env.more, hI.good.n, Value.ownBlock] at hx
    omega
end

inductive IO1 : Type 1 where
  | p (x : PIO)
  | e (x : EIO)

structure IOp : Type 1 where
  dst : Option Nat
  guard : Option (Nat × Bool)
  op : IO1

def compE (P : Program) : Op → Option EIO
  | .alloc T => (zok P T).map (.alloc T)
  | .box T x => (compO x).map (.box T)
  | .load T x => match compO x, tsz P T with
    | some x, some (n, ag) => some (.load n ag x)
    | _, _ => none
  | .store T x v => match compO x, compO v, tsz P T with
    | some x, some v, some (n, _) => some (.store n x v)
    | _, _, _ => none
  | .buildSlice T len parts => match P.underlying T with
    | some (.slice E) => match zok P E, tsz P E, compEls parts.toList with
      | some z, some (w, _), some ys => if wd z = w ∧ len * w ≤ 2 ^ 24 ∧ 0 < w then some (.bsl E w len z ys) else none
      | _, _, _ => none
    | _ => none
  | .makeSlice T l c => match compApp P T, compO l, compO c with
    | some (E, w, by'), some l, some c => match zok P E with
      | some z => some (.mks E w by' z l c)
      | none => none
    | _, _, _ => none
  | .call c => match compM P (.call c) with
    | some p => some (.mop p.1 p.2)
    | none => compC P c
  | op => (compM P op).map fun p => .mop p.1 p.2
where compC (P : Program) (c : Call) : Option EIO :=
  match c.callee with
  | .builtin .append => match c.args.toList, c.argTypes.toList with
    | [s, x], [t, t'] => if t' = t then match compApp P t, compO s, compO x with
        | some (E, w, by'), some s, some x => some (.app E w by' s x)
        | _, _, _ => none
      else none
    | _, _ => none
  | .value (.func f) => (c.args.toList.mapM compO).map (.call f)
  | .value x => match compO x, c.args.toList.mapM compO with
    | some x, some ys => some (.callv x ys)
    | _, _ => none
  | .invoke x nm => match compO x, c.args.toList.mapM compO with
    | some x, some ys => some (.icall (icTab P nm) x ys)
    | _, _ => none
  | _ => none

theorem compE_M {op : Op} {k : MK} {ys : List Opd} (h : compM P op = some (k, ys)) : compE P op = some (.mop k ys) := by
  cases op <;> simp only [compM] at h <;> try (cases h; done)
  all_goals simp only [compE, compM, h, Option.map_some]

def eopK (Γ : Hook) (σ : List SV) (m : List Res) (K : List SV → SV → List Res → Prop) : EIO → Prop
  | .alloc T z => K σ (.ptr m.length [] 0) (m ++ [.blk T z])
  | .box T x => (x.ev σ).isVal = true ∧ K σ (.ptr m.length [] 0) (m ++ [.blk T (x.ev σ)])
  | .load n ag x => peek m n ag (fun sv => K σ sv m) (x.ev σ)
  | .store n x v => poke m n (v.ev σ) (fun m' => K σ .junk m') (x.ev σ)
  | .bsl E w len z ys => bslParts σ w (List.replicate len z) ys fun l => K σ (.vec m.length len) (m ++ [.vec E w l])
  | .mks E w by' z l c => match l.ev σ, c.ev σ with
    | .int _ a, .int _ b => (0 ≤ a ∧ a ≤ b ∧ b * by' ≤ 140737488355328) ∧ K σ (.vec m.length a.toNat) (m ++ [.vec E w (List.replicate a.toNat z)])
    | _, _ => False
  | .app E w by' s x => appK σ m E w by' (s.ev σ) (x.ev σ) K
  | .call f ys => (ys.map (·.ev σ)).all SV.isVal = true ∧ Γ f (ys.map (·.ev σ)) m fun sv m' => K σ sv m'
  | .qcall f ys => (ys.map (·.ev σ)).all SV.isVal = true ∧ Γ f (ys.map (·.ev σ)) m fun sv m' => m' = m ∧ K σ sv m
  | .qtab l => K σ (.lst 1 (0 : Int) (SV.int .i64) l) m
  | .qbsl E w len z ys => bslParts σ w (List.replicate len z) ys fun l => datPL l ∧ K σ (qres w len l) m
  | .again n ag x d => (σ.getD d .junk).isVal = true ∧ peek m n ag (fun sv => sv = σ.getD d .junk ∧ K σ .junk m) (x.ev σ)
  | .magain k ys d => (σ.getD d .junk).isSet = true ∧ (ys.map (·.ev σ)).all SV.isVal = true ∧ mopK m k (ys.map (·.ev σ)) (fun sv m' => (sv = σ.getD d .junk ∧ m' = m) ∧ K σ .junk m)
  | .icall tab x ys => match x.ev σ with
    | .iface t v => match tabF tab t with
      | some f => (ys.map (·.ev σ)).all SV.isVal = true ∧ Γ f (v :: ys.map (·.ev σ)) m fun sv m' => K σ sv m'
      | none => False
    | _ => False
  | .callv x ys => match x.ev σ with
    | .fn f cap => (ys.map (·.ev σ)).all SV.isVal = true ∧ Γ f (ys.map (·.ev σ) ++ cap) m fun sv m' => K σ sv m'
    | _ => False
  | .mop k ys => (ys.map (·.ev σ)).all SV.isVal = true ∧ mopK m k (ys.map (·.ev σ)) fun sv m' => K σ sv m'

theorem eopK_sound {Γ : Hook} (hΓ : HookOK P Γ) {o : Oper} {σ : List SV} {m : List Res} {K : List SV → SV → List Res → Prop} {e : EIO} (he : compE P o.op = some e) (h : eopK Γ σ m K e) :
    ∃ σ' sv m', K σ' sv m' ∧ EStep P o σ m σ' sv m' := by
  cases hM : compM P o.op with
  | some p =>
    obtain ⟨k, ys⟩ := p
    rw [compE_M hM] at he
    cases he
    obtain ⟨sv, m', hK, hE, _⟩ := estep_mop (K := fun sv m' => K σ sv m') hM h.1 h.2
    exact ⟨_, _, _, hK, hE.step⟩
  | none =>
  cases ho : o.op <;> rw [ho] at he hM <;> simp only [compE, hM, Option.map_none] at he <;> try (cases he; done)
  case alloc T =>
    simp only [Option.map_eq_some_iff] at he
    obtain ⟨z, hz, rfl⟩ := he
    exact ⟨_, _, _, h, (estep_alloc ho hz).step⟩
  case box T x =>
    simp only [Option.map_eq_some_iff] at he
    obtain ⟨x', hx, rfl⟩ := he
    exact ⟨_, _, _, h.2, (estep_box ho hx h.1).step⟩
  case buildSlice T len parts =>
    split at he <;> try (cases he; done)
    rename_i E hu
    split at he <;> try (cases he; done)
    rename_i z w ag ys h1 h2 h3
    split at he <;> try (cases he; done)
    rename_i hc
    simp only [Option.some.injEq] at he; subst he
    obtain ⟨l, hK, hE⟩ := estep_bsl (m := m) (σ := σ) (K := fun l => K σ (SV.vec m.length len) (m ++ [Res.vec E w l])) ho hu h1 h2 hc.1 hc.2.1 hc.2.2 h3 h
    exact ⟨_, _, _, hK, hE.step⟩
  case load T x =>
    split at he <;> try (cases he; done)
    rename_i x' n ag hx ht
    simp only [Option.some.injEq] at he; subst he
    obtain ⟨sv, hK, hE⟩ := estep_load (K := fun sv => K σ sv m) ho hx ht h
    exact ⟨_, _, _, hK, hE.step⟩
  case store T x v =>
    split at he <;> try (cases he; done)
    rename_i x' v' n ag hx hv ht
    simp only [Option.some.injEq] at he; subst he
    obtain ⟨m', hK, hE⟩ := estep_store (K := fun m' => K σ .junk m') ho hx hv ht h
    exact ⟨_, _, _, hK, hE.step⟩
  case makeSlice T l c =>
    split at he <;> try (cases he; done)
    rename_i E w by' l' c' ht hl hc
    split at he <;> try (cases he; done)
    rename_i z hz
    simp only [Option.some.injEq] at he; subst he
    simp only [eopK] at h
    split at h
    · rename_i k1 a k2 b e1 e2
      exact ⟨_, _, _, h.2, (estep_mks ho ht hz hl hc e1 e2 h.1.1 h.1.2.1 h.1.2.2).step⟩
    · exact h.elim
  case call c =>
    cases c with
    | mk callee args tys =>
    simp only [compE.compC] at he
    split at he
    · rename_i ec
      split at he <;> try (cases he; done)
      rename_i s x t t' ea et
      split at he <;> try (cases he; done)
      rename_i htt
      subst htt
      split at he <;> try (cases he; done)
      rename_i E w by' s' x' h1 h2 h3
      simp only [Option.some.injEq] at he; subst he
      obtain rfl : args = #[s, x] := by apply Array.ext'; simpa using ea
      obtain rfl : tys = #[t', t'] := by apply Array.ext'; simpa using et
      exact estep_app ho h1 h2 h3 h
    · rename_i f ec
      simp only [Option.map_eq_some_iff] at he
      obtain ⟨ys, hy, rfl⟩ := he
      obtain ⟨sv, m', hK, hE⟩ := estep_call (K := fun sv m' => K σ sv m') hΓ ho hy h.1 h.2
      exact ⟨_, _, _, hK, hE.step⟩
    · rename_i x hne
      split at he <;> try (cases he; done)
      rename_i x' ys hx hy
      simp only [Option.some.injEq] at he; subst he
      simp only [eopK] at h
      split at h
      · rename_i f cap hf
        obtain ⟨sv, m', hK, hE⟩ := estep_callv (K := fun sv m' => K σ sv m') hΓ ho hx hf hy h.1 h.2
        exact ⟨_, _, _, hK, hE.step⟩
      · exact h.elim
    · rename_i x nm hcal
      split at he <;> try (cases he; done)
      rename_i x' ys hx hy
      simp only [Option.some.injEq] at he; subst he
      simp only [eopK] at h
      split at h
      · rename_i t v hf
        split at h
        · rename_i f hta
          obtain ⟨sv, m', hK, hE⟩ := estep_icall (K := fun sv m' => K σ sv m') hΓ ho hx hf hta hy h.1 h.2
          exact ⟨_, _, _, hK, hE.step⟩
        · exact h.elim
      · exact h.elim
    · cases he

end Go.Sx
