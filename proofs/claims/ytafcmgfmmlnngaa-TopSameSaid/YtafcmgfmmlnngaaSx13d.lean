import Derived.Test.YtafcmgfmmlnngaaSx13b
/-! Sx, part 13d: any order comes to the same. -/
set_option linter.unusedSimpArgs false
set_option linter.unusedVariables false
namespace Go.Sx
open Go

variable {P : Program}

def dsops (Γ : Hook) : List IOp → (List SV → List Res → Prop) → List SV → List Res → Prop
  | [], K, σ, m => K σ m
  | o :: r, K, σ, m => guardK o.guard σ (fun σ1 => dopK Γ σ1 m (fun sv m' => dsops Γ r K (putS o.dst sv σ1) m') o.op) (fun σ1 => dsops Γ r K (putS o.dst (.tup []) σ1) m)

def maskS (ss : List Nat) (σ : List SV) : List SV := (List.range σ.length).map fun k => if ss.contains k then σ.getD k .junk else .junk

theorem maskS_len (ss : List Nat) (σ : List SV) : (maskS ss σ).length = σ.length := by simp [maskS]
theorem maskS_at (ss : List Nat) (σ : List SV) (k : Nat) : (maskS ss σ).getD k .junk = if k ∈ ss then σ.getD k .junk else .junk := by
  by_cases hk : k < σ.length
  · simp [maskS, List.getD, hk]
  · simp [maskS, List.getD, hk]
theorem maskS_agree (ss : List Nat) (σ : List SV) : Agree ss σ (maskS ss σ) := fun k hk => by rw [maskS_at, if_pos hk]

/-- Is the operation to be done? -/
def Wants (g : Option (Nat × Bool)) (σ : List SV) (b : Bool) : Prop := match g with
  | none => b = true
  | some (s, want) => (∃ t, σ.getD s .junk = .bool t ∧ (t == want) = b) ∨ (σ.getD s .junk = .tup [] ∧ b = false)

def TStep (P : Program) (o : Oper) (io : IOp) (σ : List SV) (m : List Res) (sv : SV) (m' : List Res) : Prop :=
  (Wants io.guard σ true ∧ StepF P o (maskS io.sl σ) io.op m sv m') ∨ (Wants io.guard σ false ∧ sv = .tup [] ∧ m' = m)

/-- A load gives here what it gave. -/
def Late (c : IOp) (σ : List SV) (m : List Res) : Prop := ∀ n ag x d, c.op = .e (.again n ag x d) → Wants c.guard σ true → (σ.getD d .junk).isVal = true ∧ peek m n ag (fun sv => sv = σ.getD d .junk) (x.ev σ)
def Tr (P : Program) (rs : Nat → List IOp) : Nat → List (Oper × IOp) → List SV → List Res → List (SV × List Res) → List SV → List Res → Prop
  | _, [], σ, m, ts, σe, me => ts = [] ∧ σe = σ ∧ me = m
  | k, (o, io) :: r, σ, m, ts, σe, me => ∃ sv m' ts', ts = (sv, m') :: ts' ∧ TStep P o io σ m sv m' ∧ (∀ c ∈ rs k, Late c (putS io.dst sv σ) m') ∧ Tr P rs (k + 1) r (putS io.dst sv σ) m' ts' σe me

def compD (P : Program) (quiet : FuncId → Bool) (ops : Array Oper) (o : Oper) : Option IOp := (compOp P ops o).map fun io => { io with op := quieted quiet io.op }

theorem set_self {σ : List SV} {s : Nat} {b : Bool} (h : σ.getD s .junk = .bool b) : σ.set s (.bool b) = σ := by
  apply List.ext_getElem?
  intro k
  rw [List.getElem?_set]
  by_cases hk : s = k
  · subst hk
    rw [if_pos rfl]
    by_cases hs : s < σ.length
    · rw [if_pos hs]
      simp [List.getD, hs] at h
      simp [hs, h]
    · simp [List.getD, hs] at h
  · rw [if_neg hk]

/-- Behind each operation its rivals. -/
def augL (rs : Nat → List IOp) : Nat → List IOp → List IOp
  | _, [] => []
  | k, o :: r => o :: (rs k ++ augL rs (k + 1) r)
/-- Such an operation asks, and leaves all as it is. -/
def IsAgain (c : IOp) : Prop := c.dst = none ∧ ∃ n ag x d, c.op = .e (.again n ag x d)
theorem peek_two {m : List Res} {n : Nat} {ag : Bool} {A : SV → Prop} {B : Prop} {v : SV} (h : peek m n ag (fun sv => A sv ∧ B) v) : peek m n ag A v ∧ B := by
  cases v <;> simp only [peek] at h ⊢ <;> first
    | exact h.elim
    | exact ⟨⟨h.1, h.2.1⟩, h.2.2⟩
    | (split at h <;> first | exact h.elim | (rename_i hm; exact ⟨⟨h.1, h.2.1⟩, h.2.2⟩))
theorem late_of {Γ : Hook} : ∀ (cs : List IOp), (∀ c ∈ cs, IsAgain c) → ∀ {rest : List IOp} {K : List SV → List Res → Prop} {σ : List SV} {m : List Res}, dsops Γ (cs ++ rest) K σ m →
    (∀ c ∈ cs, Late c σ m) ∧ dsops Γ rest K σ m
  | [], _, rest, K, σ, m, h => ⟨fun c hc => (by cases hc), h⟩
  | c :: cs, hcs, rest, K, σ, m, h => by
    obtain ⟨hd, n, ag, x, d, ho⟩ := hcs c (List.mem_cons_self ..)
    obtain ⟨dst, g, op⟩ := c
    simp only at hd ho
    subst hd; subst ho
    have done : dopK Γ σ m (fun sv m' => dsops Γ (cs ++ rest) K σ m') (.e (.again n ag x d)) → (∀ c ∈ (⟨none, g, .e (.again n ag x d)⟩ : IOp) :: cs, Late c σ m) ∧ dsops Γ rest K σ m := by
      intro h
      obtain ⟨h1, h2⟩ := h
      obtain ⟨h3, h4⟩ := peek_two h2
      obtain ⟨k1, k2⟩ := late_of cs (fun c hc => hcs c (List.mem_cons_of_mem _ hc)) h4
      refine ⟨fun c hc => ?_, k2⟩
      rcases List.mem_cons.1 hc with rfl | hc
      · intro n' ag' x' d' he hw
        cases he
        exact ⟨h1, h3⟩
      · exact k1 c hc
    have skip : Wants g σ false → dsops Γ (cs ++ rest) K σ m → (∀ c ∈ (⟨none, g, .e (.again n ag x d)⟩ : IOp) :: cs, Late c σ m) ∧ dsops Γ rest K σ m := by
      intro hw h
      obtain ⟨k1, k2⟩ := late_of cs (fun c hc => hcs c (List.mem_cons_of_mem _ hc)) h
      refine ⟨fun c hc => ?_, k2⟩
      rcases List.mem_cons.1 hc with rfl | hc
      · intro n' ag' x' d' he hw'
        exfalso
        cases g with
        | none => cases (show true = false from hw.symm.trans rfl ▸ rfl)
        | some g =>
          obtain ⟨s, w⟩ := g
          rcases hw with ⟨t, e1, e2⟩ | ⟨e1, e2⟩ <;> rcases hw' with ⟨t', e3, e4⟩ | ⟨e3, e4⟩
          · rw [e1] at e3; cases e3; rw [e2] at e4; cases e4
          · cases e4
          · rw [e1] at e3; cases e3
          · cases e4
      · exact k1 c hc
    simp only [List.cons_append, dsops, putS] at h
    cases g with
    | none => exact done h
    | some g =>
      obtain ⟨s, want⟩ := g
      simp only [guardK] at h
      split at h
      · rename_i b hb
        by_cases hbw : b = want
        · subst hbw
          have h1 := h.1 rfl
          rw [set_self hb] at h1
          exact done h1
        · have hbn : b = !want := by cases b <;> cases want <;> first | rfl | exact absurd rfl hbw
          subst hbn
          have h1 := h.2 rfl
          rw [set_self hb] at h1
          exact skip (.inl ⟨_, hb, by cases want <;> rfl⟩) h1
      · rename_i hb
        exact skip (.inr ⟨hb, rfl⟩) h
      · exact h.elim
theorem tr_of {Γ : Hook} (hΓ : HookOK P Γ) {quiet : FuncId → Bool} {ops : Array Oper} {rs : Nat → List IOp} (hrs : ∀ k, ∀ c ∈ rs k, IsAgain c) : ∀ (l : List Oper) (ios : List IOp) (σ : List SV) (m : List Res) (K : List SV → List Res → Prop) (k : Nat), l.mapM (compD P quiet ops) = some ios → dsops Γ (augL rs k ios) K σ m →
    ∃ ts σe me, K σe me ∧ Tr P rs k (l.zip ios) σ m ts σe me
  | [], ios, σ, m, K, k, hc, h => by simp at hc; subst hc; exact ⟨[], σ, m, h, rfl, rfl, rfl⟩
  | o :: l, ios, σ, m, K, k, hc, h => by
    simp only [List.mapM_cons, bind, Option.pure_def] at hc
    obtain ⟨io, ho, hc⟩ := bind_some hc
    obtain ⟨ios', hc', hc⟩ := bind_some hc
    simp only [Option.some.injEq] at hc
    subst hc
    simp only [compD, Option.map_eq_some_iff] at ho
    obtain ⟨io0, ho0, rfl⟩ := ho
    simp only [compOp] at ho0
    split at ho0 <;> try (cases ho0; done)
    rename_i g x hg hx
    simp only [Option.some.injEq] at ho0; subst ho0
    simp only [augL, dsops] at h
    have go : dopK Γ σ m (fun sv m' => dsops Γ (rs k ++ augL rs (k + 1) ios') K (putS o.dst sv σ) m') (quieted quiet x) → Wants g σ true →
        ∃ ts σe me, K σe me ∧ Tr P rs k ((o, (⟨o.dst, g, quieted quiet x⟩ : IOp)) :: l.zip ios') σ m ts σe me := by
      intro h1 hw
      have h2 := dopK_eq (maskS_agree (IOp.sl ⟨o.dst, g, quieted quiet x⟩) σ) (fun k hk => by simp only [IOp.sl, List.mem_append]; exact .inr hk) h1
      obtain ⟨sv, m', hK, hF⟩ := dopK_sound hΓ hx h2
      obtain ⟨hl, hK⟩ := late_of _ (hrs k) hK
      obtain ⟨ts, σe, me, h3, h4⟩ := tr_of hΓ hrs l ios' _ _ K (k + 1) hc' hK
      exact ⟨(sv, m') :: ts, σe, me, h3, sv, m', ts, rfl, .inl ⟨hw, hF⟩, hl, h4⟩
    cases g with
    | none => exact go h rfl
    | some g =>
      obtain ⟨s, want⟩ := g
      simp only [guardK] at h
      split at h
      · rename_i b hb
        by_cases hbw : b = want
        · subst hbw
          have h1 := h.1 rfl
          rw [set_self hb] at h1
          exact go h1 (.inl ⟨b, hb, by simp⟩)
        · have hbn : b = !want := by cases b <;> cases want <;> first | rfl | exact absurd rfl hbw
          subst hbn
          have h1 := h.2 rfl
          rw [set_self hb] at h1
          obtain ⟨hl, h1⟩ := late_of _ (hrs k) h1
          obtain ⟨ts, σe, me, h3, h4⟩ := tr_of hΓ hrs l ios' _ _ K (k + 1) hc' h1
          exact ⟨(.tup [], m) :: ts, σe, me, h3, .tup [], m, ts, rfl, .inr ⟨.inl ⟨_, hb, by cases want <;> rfl⟩, rfl, rfl⟩, hl, h4⟩
      · rename_i hb
        obtain ⟨hl, h⟩ := late_of _ (hrs k) h
        obtain ⟨ts, σe, me, h3, h4⟩ := tr_of hΓ hrs l ios' _ _ K (k + 1) hc' h
        exact ⟨(.tup [], m) :: ts, σe, me, h3, .tup [], m, ts, rfl, .inr ⟨.inr ⟨hb, rfl⟩, rfl, rfl⟩, hl, h4⟩
      · exact h.elim

/-- The frame when just these operations have been done. -/
def ov (S : Nat → Bool) (V : Nat → SV) : List IOp → Nat → List SV → List SV
  | [], _, σ => σ
  | io :: r, k, σ => ov S V r (k + 1) (if S k then putS io.dst (V k) σ else σ)

theorem putS_len (d : Option Nat) (sv : SV) (σ : List SV) : (putS d sv σ).length = σ.length := by cases d <;> simp [putS]

theorem ov_len (S : Nat → Bool) (V : Nat → SV) : ∀ (ios : List IOp) (k : Nat) (σ : List SV), (ov S V ios k σ).length = σ.length
  | [], _, _ => rfl
  | io :: r, k, σ => by
    simp only [ov]
    rw [ov_len S V r]
    split
    · exact putS_len _ _ _
    · rfl

def dsts (ios : List IOp) : List Nat := ios.filterMap (·.dst)

theorem putS_at (d : Option Nat) (sv : SV) (σ : List SV) (x : Nat) : (putS d sv σ).getD x .junk = if d = some x ∧ x < σ.length then sv else σ.getD x .junk := by
  cases d with
  | none => simp [putS]
  | some d =>
    by_cases hx : d = x
    · subst hx
      by_cases hl : d < σ.length
      · simp [putS, List.getD, hl]
      · simp [putS, List.getD, hl]
    · simp [putS, List.getD, hx]

/-- A slot that nobody of these writes. -/
theorem ov_none (S : Nat → Bool) (V : Nat → SV) (x : Nat) : ∀ (ios : List IOp) (k : Nat) (σ : List SV), (∀ (j : Nat) (io : IOp), ios[j]? = some io → io.dst = some x → S (k + j) = false) → (ov S V ios k σ).getD x .junk = σ.getD x .junk
  | [], _, _, _ => rfl
  | io :: r, k, σ, h => by
    simp only [ov]
    rw [ov_none S V x r (k + 1) _ (fun j io' h1 h2 => by have := h (j + 1) io' (by simpa using h1) h2; rwa [show k + (j + 1) = k + 1 + j by omega] at this)]
    split
    · rename_i hs
      rw [putS_at, if_neg]
      intro hx
      have := h 0 io rfl hx.1
      rw [Nat.add_zero, hs] at this; cases this
    · rfl

theorem ov_some (S : Nat → Bool) (V : Nat → SV) (x : Nat) : ∀ (ios : List IOp) (k : Nat) (σ : List SV) (j : Nat) (io : IOp), (dsts ios).Nodup → ios[j]? = some io → io.dst = some x → S (k + j) = true → x < σ.length → (ov S V ios k σ).getD x .junk = V (k + j)
  | [], _, _, _, _, _, h, _, _, _ => by simp at h
  | i0 :: r, k, σ, 0, io, hn, h, hd, hs, hx => by
    simp only [List.getElem?_cons_zero, Option.some.injEq] at h
    subst h
    simp only [ov]
    rw [Nat.add_zero] at hs
    rw [if_pos hs, ov_none S V x r (k + 1) _ (fun j io' h1 h2 => ?_)]
    · rw [putS_at, if_pos ⟨hd, hx⟩]; rfl
    · exfalso
      simp only [dsts, List.filterMap_cons, hd] at hn
      have := (List.nodup_cons.1 hn).1
      exact this (List.mem_filterMap.2 ⟨io', List.mem_of_getElem? h1, h2⟩)
  | i0 :: r, k, σ, j + 1, io, hn, h, hd, hs, hx => by
    simp only [ov]
    have hn' : (dsts r).Nodup := by
      unfold dsts at hn ⊢
      rw [List.filterMap_cons] at hn
      split at hn
      · exact hn
      · exact (List.nodup_cons.1 hn).2
    rw [ov_some S V x r (k + 1) _ j io hn' (by simpa using h) hd (by rwa [show k + 1 + j = k + (j + 1) by omega]) (by split <;> first | (rw [putS_len]; exact hx) | exact hx)]
    congr 1; omega


/-! ### What precedes what -/
def msk1 (acc : List Nat) (s : Nat) (e : Edge) : Nat := if Region.binds .any e then s ||| (1 <<< e.on) ||| acc.getD e.on 0 else s
def msk (acc : List Nat) (o : Oper) : Nat := o.after.toList.foldl (msk1 acc) 0
def pres : List Oper → List Nat → List Nat
  | [], acc => acc
  | o :: r, acc => pres r (acc ++ [msk acc o])

theorem msk1_bit (acc : List Nat) : ∀ (es : List Edge) (s j : Nat), (es.foldl (msk1 acc) s).testBit j = true → s.testBit j = true ∨ ∃ e ∈ es, Region.binds .any e = true ∧ (e.on = j ∨ (acc.getD e.on 0).testBit j = true)
  | [], s, j, h => .inl h
  | e :: es, s, j, h => by
    simp only [List.foldl_cons] at h
    rcases msk1_bit acc es _ j h with h | ⟨e', h1, h2⟩
    · unfold msk1 at h
      split at h
      · rename_i hb
        simp only [Nat.testBit_or, Bool.or_eq_true] at h
        rcases h with (h | h) | h
        · exact .inl h
        · refine .inr ⟨e, by simp, hb, .inl ?_⟩
          rw [Nat.one_shiftLeft, Nat.testBit_two_pow] at h
          simpa using h
        · exact .inr ⟨e, by simp, hb, .inr h⟩
      · exact .inl h
    · exact .inr ⟨e', by simp [h1], h2⟩

/-- 'S' holds with each operation all that precede it. -/
def Closed (ops : List Oper) (S : Nat → Bool) : Prop := ∀ i o, ops[i]? = some o → S i = true → ∀ e ∈ o.after, Region.binds .any e = true → S e.on = true

theorem pres_ok {ops : List Oper} {S : Nat → Bool} (hS : Closed ops S) : ∀ (r : List Oper) (acc : List Nat), (∀ i, r[i]? = ops[acc.length + i]?) →
    (∀ i o, ops[i]? = some o → i < acc.length → (∀ e ∈ o.after, Region.binds .any e = true → S e.on = true) → ∀ j, (acc.getD i 0).testBit j = true → S j = true) →
    ∀ i o, ops[i]? = some o → i < acc.length + r.length → (∀ e ∈ o.after, Region.binds .any e = true → S e.on = true) → ∀ j, ((pres r acc).getD i 0).testBit j = true → S j = true
  | [], acc, _, hacc, i, o, ho, hi, hd, j, hj => hacc i o ho (by simpa using hi) hd j hj
  | o0 :: r, acc, hr, hacc, i, o, ho, hi, hd, j, hj => by
    refine pres_ok hS r (acc ++ [msk acc o0]) (fun k => by have := hr (k + 1); simpa [Nat.add_assoc, Nat.add_comm 1 k] using this) ?_ i o ho (by simp at hi ⊢; omega) hd j hj
    intro i' o' ho' hi' hd' j' hj'
    by_cases hlt : i' < acc.length
    · have : (acc ++ [msk acc o0]).getD i' 0 = acc.getD i' 0 := by simp [List.getD, List.getElem?_append_left hlt]
      rw [this] at hj'
      exact hacc i' o' ho' hlt hd' j' hj'
    · have he : i' = acc.length := by simp at hi'; omega
      subst he
      have : (acc ++ [msk acc o0]).getD acc.length 0 = msk acc o0 := by simp [List.getD]
      rw [this] at hj'
      have ho0 : o0 = o' := by
        have := hr 0
        simp only [List.getElem?_cons_zero, Nat.add_zero] at this
        rw [ho'] at this
        exact Option.some.inj this
      subst ho0
      rcases msk1_bit acc _ 0 j' hj' with h | ⟨e, h1, h2, h3⟩
      · simp at h
      · have hSe := hd' e (by simpa using h1) h2
        rcases h3 with h3 | h3
        · rw [← h3]; exact hSe
        · -- what precedes 'e.on'
          by_cases hel : e.on < acc.length
          · cases hoe : ops[e.on]? with
            | none =>
              exfalso
              have h4 : ops.length ≤ e.on := by simpa using hoe
              have h5 : acc.length < ops.length := (List.getElem?_eq_some_iff.1 ho').1
              omega
            | some oe => exact hacc e.on oe hoe hel (fun e2 he2 hb2 => hS e.on oe hoe hSe e2 he2 hb2) j' h3
          · have : acc.getD e.on 0 = 0 := by simp [List.getD, List.getElem?_eq_none (Nat.le_of_not_lt hel)]
            rw [this] at h3
            simp at h3

def conf0 (a b : IOp) : Bool :=
  (match a.dst with | some d => b.sl.contains d | none => false) || (match b.dst with | some d => a.sl.contains d | none => false)
def conf (a b : IOp) : Bool := conf0 a b || (a.op.eff && b.op.impure) || (a.op.impure && b.op.eff)
/-- A load, asked again. -/
def ldOf (io : IOp) : Option IOp := match io.op, io.dst with
  | .e (.load n ag x), some d => some ⟨none, io.guard, .e (.again n ag x d)⟩
  | _, _ => none
/-- Nobody from i to j writes these slots. -/
def clear (ios : List IOp) (sl : List Nat) (i j : Nat) : Bool := ios.zipIdx.all fun x => !(decide (i ≤ x.2) && decide (x.2 ≤ j)) || (match x.1.dst with
  | some d => !sl.contains d
  | none => true)
/-- A load that stands ahead of what writes. -/
def slack (ios : List IOp) (y x : IOp) (i j : Nat) : Bool := (ldOf y).isSome && x.op.eff && !conf0 y x && clear ios y.sl i j
/-- May the region be walked in the order of the text? -/
def chk (ops : List Oper) (ios : List IOp) : Bool :=
  let ps := pres ops []
  (ops.zipIdx.all fun x => x.1.after.toList.all fun e => !Region.binds .any e || decide (e.on < x.2)) &&
  decide (dsts ios).Nodup &&
  (ios.zipIdx.all fun x => ios.zipIdx.all fun y => !decide (y.2 < x.2) || !conf y.1 x.1 || (ps.getD x.2 0).testBit y.2 || slack ios y.1 x.1 y.2 x.2)
/-- The loads ahead of an operation that writes, that may come behind it. -/
def rivals (ops : List Oper) (ios : List IOp) (j : Nat) : List IOp :=
  if (ios[j]?.map (·.op.eff)).getD false then ios.zipIdx.filterMap fun x => if decide (x.2 < j) && !((pres ops []).getD j 0).testBit x.2 then ldOf x.1 else none else []
def aug (ops : List Oper) (ios : List IOp) : List IOp := augL (rivals ops ios) 0 ios

theorem ov_congr {S S' : Nat → Bool} {V : Nat → SV} : ∀ (ios : List IOp) (k : Nat) (σ : List SV), (∀ j, j < ios.length → S (k + j) = S' (k + j)) → ov S V ios k σ = ov S' V ios k σ
  | [], _, _, _ => rfl
  | io :: r, k, σ, h => by
    simp only [ov]
    have h0 := h 0 (by simp)
    rw [Nat.add_zero] at h0
    rw [h0]
    exact ov_congr r (k + 1) _ (fun j hj => by have := h (j + 1) (by simp; omega); rwa [show k + (j + 1) = k + 1 + j by omega] at this)

theorem ov_none_all {S : Nat → Bool} {V : Nat → SV} : ∀ (ios : List IOp) (k : Nat) (σ : List SV), (∀ j, j < ios.length → S (k + j) = false) → ov S V ios k σ = σ
  | [], _, _, _ => rfl
  | io :: r, k, σ, h => by
    simp only [ov]
    have h0 := h 0 (by simp)
    rw [Nat.add_zero] at h0
    rw [h0]
    exact ov_none_all r (k + 1) _ (fun j hj => by have := h (j + 1) (by simp; omega); rwa [show k + (j + 1) = k + 1 + j by omega] at this)

theorem tr_at {V : Nat → SV} {M : Nat → List Res} {rs : Nat → List IOp} : ∀ (l : List (Oper × IOp)) (k : Nat) (σ : List SV) (m : List Res) (ts : List (SV × List Res)) (σe : List SV) (me : List Res), Tr P rs k l σ m ts σe me → M k = m →
    (∀ j t, ts[j]? = some t → V (k + j) = t.1 ∧ M (k + j + 1) = t.2) →
    (∀ j o io, l[j]? = some (o, io) → TStep P o io (ov (fun i => decide (i < k + j)) V (l.map (·.2)) k σ) (M (k + j)) (V (k + j)) (M (k + j + 1)) ∧ ∀ c ∈ rs (k + j), Late c (ov (fun i => decide (i < k + j + 1)) V (l.map (·.2)) k σ) (M (k + j + 1))) ∧ σe = ov (fun _ => true) V (l.map (·.2)) k σ ∧ me = M (k + l.length)
  | [], k, σ, m, ts, σe, me, h, hM, hts => by
    obtain ⟨rfl, rfl, rfl⟩ := h
    exact ⟨fun j o io h => by simp at h, rfl, hM.symm⟩
  | (o, io) :: r, k, σ, m, ts, σe, me, h, hM, hts => by
    obtain ⟨sv, m', ts', rfl, hstep, hlate, htr⟩ := h
    obtain ⟨e1, e2⟩ := hts 0 (sv, m') rfl
    rw [Nat.add_zero] at e1 e2
    obtain ⟨i1, i2, i3⟩ := tr_at r (k + 1) (putS io.dst sv σ) m' ts' σe me htr e2 (fun j t ht => by have := hts (j + 1) t (by simpa using ht); rwa [show k + (j + 1) = k + 1 + j by omega] at this)
    refine ⟨fun j o' io' hj => ?_, ?_, by rw [i3]; simp only [List.length_cons]; rw [show k + 1 + r.length = k + (r.length + 1) by omega]⟩
    · cases j with
      | zero =>
        simp only [List.getElem?_cons_zero, Option.some.injEq, Prod.mk.injEq] at hj
        obtain ⟨rfl, rfl⟩ := hj
        refine ⟨?_, ?_⟩
        · rw [Nat.add_zero, ov_none_all _ _ _ (fun j _ => by simp), hM, e1, e2]
          exact hstep
        · rw [Nat.add_zero, e2]
          simp only [List.map_cons, ov]
          rw [if_pos (by simp), e1, ov_none_all _ _ _ (fun j _ => by simp)]
          exact hlate
      | succ j =>
        have := i1 j o' io' (by simpa using hj)
        rw [show k + 1 + j = k + (j + 1) by omega] at this
        simp only [List.map_cons, ov]
        rw [if_pos (by simp), if_pos (decide_eq_true (by omega)), e1]
        exact this
    · rw [i2]; simp only [List.map_cons, ov, if_true, e1]

/-- The memory behind the operations done so far. -/
def top (ios : List IOp) (S : Nat → Bool) : Nat → Nat
  | 0 => 0
  | k + 1 => if (ios[k]?.map (·.op.eff)).getD false && S k then k + 1 else top ios S k

theorem top_congr {ios : List IOp} {S S' : Nat → Bool} : ∀ n, (∀ k, k < n → (ios[k]?.map (·.op.eff)).getD false = true → S k = S' k) → top ios S n = top ios S' n
  | 0, _ => rfl
  | n + 1, h => by
    simp only [top]
    rw [top_congr n (fun k hk he => h k (by omega) he)]
    by_cases he : (ios[n]?.map (·.op.eff)).getD false = true
    · rw [h n (by omega) he]
    · simp only [Bool.not_eq_true] at he; simp [he]

/-- Beyond i nothing that writes has been done. -/
theorem top_cut {ios : List IOp} {S : Nat → Bool} {i : Nat} : ∀ n, i ≤ n → (∀ k, i ≤ k → k < n → (ios[k]?.map (·.op.eff)).getD false = true → S k = false) → top ios S n = top ios S i
  | 0, hi, _ => by have : i = 0 := by omega
                   subst this; rfl
  | n + 1, hi, h => by
    rcases Nat.eq_or_lt_of_le hi with e | hlt
    · rw [e]
    · simp only [top]
      rw [if_neg, top_cut n (by omega) (fun k h1 h2 h3 => h k h1 (by omega) h3)]
      intro hc
      simp only [Bool.and_eq_true] at hc
      have := h n (by omega) (by omega) hc.1
      rw [this] at hc; cases hc.2

end Go.Sx
