import Derived.Test.YtafcmgfmmlnngaaSx33
/-! Sx, part 34: what lasts from round to round; a round. -/
set_option linter.unusedVariables false
set_option linter.unusedSimpArgs false
namespace Go.Sx
open Go
variable {P : Program}
structure EnvP (ε ε' : Env) : Prop where
  n : ε.n ≤ ε'.n
  blk : ∀ i, i < ε.n → ε'.blk i = ε.blk i
  H : ∀ b o, ε.H b = some o → ε'.H b = some o
theorem EnvP.trans {a b c : Env} (h : EnvP a b) (k : EnvP b c) : EnvP a c :=
  ⟨Nat.le_trans h.n k.n, fun i hi => (k.blk i (Nat.lt_of_lt_of_le hi h.n)).trans (h.blk i hi), fun b o h' => k.H b o (h.H b o h')⟩
theorem EnvP.refl (ε : Env) : EnvP ε ε := ⟨Nat.le_refl _, fun _ _ => rfl, fun _ _ h => h⟩
theorem EnvP.cl {ε ε' : Env} (h : EnvP ε ε') : ε.cl.Le ε'.cl := ⟨Nat.le_refl _, fun _ hi => absurd hi (Nat.not_lt_zero _), fun _ hi => absurd hi (Nat.not_lt_zero _), h.H⟩
mutual
def pers : SV → Prop
  | .agg l => persL l
  | .fn _ l => persL l
  | .tup l => persL l
  | .arr .. => False
  | .iface .. => False
  | .vec .. => False
  | .vptr .. => False
  | _ => True
def persL : List SV → Prop
  | [] => True
  | x :: r => pers x ∧ persL r
end
mutual
theorem pers_sat : ∀ (x : SV) {ε ε' : Env} {cs : List Value}, pers x → EnvP ε ε' → SatC x ε cs → SatC x ε' cs
  | .int .., _, _, _, _, _, h => h
  | .bool .., _, _, _, _, _, h => h
  | .str .., _, _, _, _, _, h => h
  | .arr .., _, _, _, hp, _, _ => hp.elim
  | .agg l, _, _, _, hp, hl, h => by simp only [SatC] at h ⊢; exact persL_sat l hp hl h
  | .tup _, _, _, _, _, _, h => h
  | .lst w d f l, _, _, _, _, hl, h => by
    simp only [SatC] at h ⊢
    obtain ⟨ao, cap, h1, h2, h3, h4, h5⟩ := h
    refine ⟨ao, cap, h1, h2, h3, h4, fun i hi => ?_⟩
    obtain ⟨b, off, T, fz, cur, e1, e2, e3, e4⟩ := h5 i hi
    exact ⟨b, off, T, fz, cur, e1, hl.H _ _ e2, e3, SatC.mono (f (l.getD i d)) hl.cl e4⟩
  | .eptr w d f l i p o, _, _, _, _, hl, h => by
    simp only [SatC] at h ⊢
    obtain ⟨b, off, T, fz, cur, h1, h2, h3, h4, h5, h6⟩ := h
    exact ⟨b, off, T, fz, cur, h1, h2, hl.H _ _ h3, h4, h5, SatC.mono (f (l.getD i d)) hl.cl h6⟩
  | .ref c p o, _, _, _, _, hl, h => by
    simp only [SatC] at h ⊢
    obtain ⟨b, T, fz, cur, h1, h2, h3, h4⟩ := h
    exact ⟨b, T, fz, cur, h1, hl.H _ _ h2, h3, SatC.mono c hl.cl h4⟩
  | .ptr i p o, _, _, _, _, hl, h => by
    simp only [SatC] at h ⊢
    exact ⟨Nat.lt_of_lt_of_le h.1 hl.n, h.2.1, by rw [hl.blk i h.1]; exact h.2.2⟩
  | .vec .., _, _, _, hp, _, _ => hp.elim
  | .vptr .., _, _, _, hp, _, _ => hp.elim
  | .map i, _, _, _, _, hl, h => by
    simp only [SatC] at h ⊢
    exact ⟨Nat.lt_of_lt_of_le h.1 hl.n, by rw [hl.blk i h.1]; exact h.2⟩
  | .fn f cap, _, _, _, hp, hl, h => by
    simp only [SatC] at h ⊢
    obtain ⟨vs, h1, h2⟩ := h
    exact ⟨vs, persA_sat cap hp hl h1, h2⟩
  | .iface .., _, _, _, hp, _, _ => hp.elim
  | .nils, _, _, _, _, _, h => h
  | .nili, _, _, _, _, _, h => h
  | .nilf, _, _, _, _, _, h => h
  | .nilp, _, _, _, _, _, h => h
  | .nilm, _, _, _, _, _, h => h
  | .anyb, _, _, _, _, _, h => h
  | .raw _, _, _, _, _, _, h => h
  | .junk, _, _, _, _, _, h => h
theorem persL_sat : ∀ (l : List SV) {ε ε' : Env} {cs : List Value}, persL l → EnvP ε ε' → SatL l ε cs → SatL l ε' cs
  | [], _, _, _, _, _, h => h
  | x :: r, _, _, _, hp, hl, h => by
    simp only [SatL] at h ⊢
    obtain ⟨a, b, h1, h2, h3⟩ := h
    exact ⟨a, b, h1, pers_sat x hp.1 hl h2, persL_sat r hp.2 hl h3⟩
theorem persA_sat : ∀ (l : List SV) {ε ε' : Env} {vs : List Value}, persL l → EnvP ε ε' → SatA l ε vs → SatA l ε' vs
  | [], _, _, _, _, _, h => h
  | x :: r, _, _, _, hp, hl, h => by
    simp only [SatA] at h ⊢
    obtain ⟨cs, t, h1, h2, h3⟩ := h
    exact ⟨cs, t, h1, pers_sat x hp.1 hl h2, persA_sat r hp.2 hl h3⟩
end
theorem persV_sat {x : SV} {ε ε' : Env} {v : Value} (hp : pers x) (hl : EnvP ε ε') (h : SatV ε x v) : SatV ε' x v := by
  cases x
  case tup l => obtain ⟨vs, h1, h2⟩ := h; exact ⟨vs, persA_sat l hp hl h1, h2⟩
  case junk => trivial
  all_goals (obtain ⟨cs, h1, h2⟩ := h; exact ⟨cs, pers_sat _ hp hl h1, h2⟩)
def persF : Fr → Prop
  | .nil => True
  | .put _ x r => pers x ∧ persF r
  | .pick _ _ x r => pers x ∧ persF r
theorem pers_look {k : Nat} : ∀ {τ : Fr}, persF τ → pers (look k τ)
  | .nil, _ => trivial
  | .put j x r, h => by
    simp only [look]
    split
    · exact h.1
    · exact pers_look h.2
  | .pick s d x r, h => by
    simp only [look]
    split
    · exact h.1
    · split
      · trivial
      · exact pers_look h.2
theorem SlotsF.pers {n : Nat} {ε ε' : Env} {τ : Fr} {a : Act} (h : SlotsF n ε τ a) (hp : persF τ) (hl : EnvP ε ε') : SlotsF n ε' τ a := by
  have hv := h.sat
  obtain ⟨σ, h1, h2⟩ := h
  refine ⟨(List.range n).map (fun k => look k τ), ⟨by simp, fun k => ?_⟩, ⟨by simp; rw [← h2.1, h1.1], fun k => ?_⟩⟩
  · rcases h1.2 k with e | ⟨e1, e2⟩
    · exact .inl e
    · right
      refine ⟨e1, ?_⟩
      simp [List.getD, e1]
  · by_cases hk : k < n
    · have : ((List.range n).map (fun k => look k τ)).getD k .junk = look k τ := by simp [List.getD, hk]
      rw [this]
      exact persV_sat (pers_look hp) hl (hv k)
    · have : ((List.range n).map (fun k => look k τ)).getD k .junk = .junk := by simp [List.getD, hk]
      rw [this]; trivial

/-- A block that is none of the call's and that lay ahead. -/
structure Clear (β : Base) (l : Nat) : Prop where
  lt : l < β.w.heap.size
  B : ¬ β.B l
  H : β.ε.H l = none
theorem Inv.clear {β : Base} {ε : Env} {m : List Res} {w : World} (h : Inv β ε m w) {l : Nat} (c : Clear β l) : w.heap[l]? = β.w.heap[l]? ∧ (∀ i, ownR ε i (memAt m i) ≠ some l) ∧ ε.H l = none ∧ l < w.heap.size := by
  refine ⟨h.kept.heap l c.lt c.B, fun i e => ?_, ?_, Nat.lt_of_lt_of_le c.lt h.kept.size⟩
  · rcases h.own i l e with h' | h'
    · exact c.B h'
    · have := c.lt; omega
  · cases e : ε.H l with
    | none => rfl
    | some o =>
      rcases h.kept.fresh l o e with h' | h' | h'
      · rw [c.H] at h'; cases h'
      · have := c.lt; omega
      · exact absurd h' c.B
theorem Good.world {ε : Env} {m : List Res} {w W : World} (g : Good ε m w) (ho : ∀ i b, ownR ε i (memAt m i) = some b → W.heap[b]? = w.heap[b]?) (hH : ∀ b o, ε.H b = some o → W.heap[b]? = w.heap[b]?) : Good ε m W := by
  refine ⟨g.n, fun i => ?_, g.disj, g.sep, fun b o hb => (hH b o hb).trans (g.hv b o hb)⟩
  have hr := g.res i
  have ho := ho i
  cases hm : memAt m i with
  | dead => trivial
  | blk T c =>
    rw [hm] at hr ho
    obtain ⟨cs, h1, h2⟩ := hr
    exact ⟨cs, by rw [ho _ rfl]; exact h1, h2⟩
  | vec T wd l =>
    rw [hm] at hr ho
    obtain ⟨xs, h1, h2⟩ := hr
    refine ⟨xs, ⟨h1.1, ?_⟩, h2⟩
    rcases h1.2 with hx | ⟨gg, cap, cur, e1, e2, e3, e4⟩
    · exact .inl hx
    · exact .inr ⟨gg, cap, cur, e1, e2, by rw [ho gg (by simp [ownR, e1, Value.ownBlock])]; exact e3, e4⟩
  | mp ek ev l =>
    rw [hm] at hr ho
    obtain ⟨es, cl, h1, h2⟩ := hr
    exact ⟨es, cl, by rw [ho _ rfl]; exact h1, h2⟩
/-- Blocks turn that are none of the call's. -/
theorem Inv.world {β : Base} {ε : Env} {m : List Res} {w W : World} (h : Inv β ε m w) (h1 : W.os = w.os) (h2 : W.tape = w.tape) (h3 : W.output = w.output) (h4 : w.heap.size ≤ W.heap.size)
    (hb : ∀ b, b < w.heap.size → W.heap[b]? = w.heap[b]? ∨ (β.w.heap.size ≤ b ∧ (∀ i, ownR ε i (memAt m i) ≠ some b) ∧ ε.H b = none)) : Inv β ε m W := by
  refine ⟨h.good.world (fun i b e => ?_) (fun b o e => ?_), ⟨h1.trans h.kept.os, h2.trans h.kept.tape, h3.trans h.kept.output, Nat.le_trans h.kept.size h4, fun b hlt hB => ?_, h.kept.H, h.kept.fresh⟩, h.own, h.n, h.blk, h.vv⟩
  · rcases hb b (ownR_lt h.good e) with k | ⟨_, k, _⟩
    · exact k
    · exact absurd e (k i)
  · rcases hb b (H_lt h.good e) with k | ⟨_, _, k⟩
    · exact k
    · rw [e] at k; cases k
  · rcases hb b (Nat.lt_of_lt_of_le hlt h.kept.size) with k | ⟨k, _⟩
    · rw [k]; exact h.kept.heap b hlt hB
    · omega
def ownB (ε : Env) (m : List Res) : Nat → Prop := fun b => ∃ i, ownR ε i (memAt m i) = some b
/-- What has been kept on the way is kept. -/
theorem Inv.trans {β : Base} {ε ε' : Env} {m m' : List Res} {w w' : World} (h : Inv β ε m w) (k : Inv ⟨w, ε, ownB ε m⟩ ε' m' w') (hv : ∀ i, i < β.ε.n → (memAt m' i).isBlk = true → (memAt m i).isBlk = true) : Inv β ε' m' w' ∧ EnvP ε ε' := by
  have hB : ∀ b, b < β.w.heap.size → ¬ β.B b → ¬ ownB ε m b := by
    rintro b hlt hb ⟨i, hi⟩
    rcases h.own i b hi with h' | h'
    · exact hb h'
    · omega
  refine ⟨⟨k.good, ⟨k.kept.os.trans h.kept.os, k.kept.tape.trans h.kept.tape, k.kept.output.trans h.kept.output, Nat.le_trans h.kept.size k.kept.size, fun b hlt hb => ?_, fun b o e => k.kept.H b o (h.kept.H b o e), fun b o e => ?_⟩, fun i b e => ?_, Nat.le_trans h.n k.n, fun i hi => ?_, fun i hi hb => ?_⟩, ⟨k.n, k.blk, k.kept.H⟩⟩
  · exact (k.kept.heap b (Nat.lt_of_lt_of_le hlt h.kept.size) (hB b hlt hb)).trans (h.kept.heap b hlt hb)
  · have hs := h.kept.size
    rcases k.kept.fresh b o e with e1 | e1 | ⟨i, e1⟩
    · exact h.kept.fresh b o e1
    · exact .inr (.inl (Nat.le_trans hs e1))
    · rcases h.own i b e1 with e2 | e2
      · exact .inr (.inr e2)
      · exact .inr (.inl e2)
  · have hs := h.kept.size
    rcases k.own i b e with ⟨j, e1⟩ | e1
    · exact h.own j b e1
    · exact .inr (Nat.le_trans hs e1)
  · exact (k.blk i (Nat.lt_of_lt_of_le hi h.n)).trans (h.blk i hi)
  · exact (k.vv i (Nat.lt_of_lt_of_le hi h.n) hb).trans (h.vv i hi (hv i hi hb))
/-- All that is a block now was one. -/
def bkOK : List Res → List Res → Prop
  | x :: m, y :: m1 => (y.isBlk = true → x.isBlk = true) ∧ bkOK m m1
  | _, _ => True
theorem bkOK_at : ∀ {m m1 : List Res} {i : Nat}, bkOK m m1 → i < m.length → (memAt m1 i).isBlk = true → (memAt m i).isBlk = true
  | [], _, _, _, hi, _ => absurd hi (Nat.not_lt_zero _)
  | x :: m, [], i, _, _, h => by simp [memAt, Res.isBlk] at h
  | x :: m, y :: m1, 0, hb, _, h => hb.1 h
  | x :: m, y :: m1, i + 1, hb, hi, h => by
    have e1 : memAt (y :: m1) (i + 1) = memAt m1 i := rfl
    have e2 : memAt (x :: m) (i + 1) = memAt m i := rfl
    rw [e1] at h
    rw [e2]
    exact bkOK_at hb.2 (by simpa using hi) h
theorem bkOK_refl : ∀ m, bkOK m m
  | [] => trivial
  | _ :: m => ⟨id, bkOK_refl m⟩

def putsF : List Nat → List SV → Fr → Fr
  | k :: ks, x :: xs, τ => putsF ks xs (.put k x τ)
  | _, _, τ => τ
def intsOK : List SV → List Value → Prop
  | [], [] => True
  | .int k n :: xs, v :: vs => v = .int k n ∧ intsOK xs vs
  | _, _ => False
theorem SlotsF.putv {n : Nat} {ε : Env} {τ : Fr} {a : Act} (h : SlotsF n ε τ a) {k : Nat} (hk : k < n) {x : SV} {v : Value} (hx : SatV ε x v) : SlotsF n ε (.put k x τ) (a.put (some k) v) := by
  obtain ⟨σ, h1, h2⟩ := h
  exact ⟨σ.set k x, h1.put hk (Le.refl _), h2.put hx (some k)⟩
theorem SlotsF.puts {n : Nat} {ε : Env} : ∀ {ks : List Nat} {xs : List SV} {vs : List Value} {τ : Fr} {a : Act}, SlotsF n ε τ a → (∀ k ∈ ks, k < n) → xs.length = ks.length → intsOK xs vs →
    SlotsF n ε (putsF ks xs τ) { a with tmps := (ks.zip vs).foldl (fun t (p, v) => t.setIfInBounds p v) a.tmps }
  | [], xs, vs, τ, a, h, _, hl, hi => by
    cases xs with
    | nil => exact h
    | cons _ _ => simp at hl
  | k :: ks, [], vs, τ, a, h, _, hl, hi => by simp at hl
  | k :: ks, x :: xs, vs, τ, a, h, hk, hl, hi => by
    cases vs with
    | nil => cases x <;> exact hi.elim
    | cons v vs =>
      cases x with
      | int kk nn =>
        obtain ⟨rfl, hi⟩ := hi
        exact SlotsF.puts (a := a.put (some k) (.int kk nn)) (h.putv (hk k (by simp)) (show SatV ε (.int kk nn) _ from ⟨[.int kk nn], by simp only [SatC], rfl⟩)) (fun j hj => hk j (by simp [hj])) (by simpa using hl) hi
      | _ => exact hi.elim
theorem array_zip_foldl {ps : Array Nat} {vs : List Value} {t : Array Value} : (ps.zip vs.toArray).foldl (fun t (p, v) => t.setIfInBounds p v) t = (ps.toList.zip vs).foldl (fun t (p, v) => t.setIfInBounds p v) t := by
  rw [← Array.foldl_toList]
  simp

/-- **A round.** -/
theorem round_ok {Γ : FH} (hΓ : FHOK P Γ) {quiet : FuncId → Bool} {n : Nat} {jA jB : JC} {cA cB : Code} (hA : comp P quiet cA = some jA.flat) (wA : jA.wf n = true) (hB : comp P quiet cB = some jB.flat) (wB : jB.wf n = true)
    {β : Base} {l : Nat} {r : Loop} (hcl : Clear β l) (hrec : β.w.heap[l]? = some (.loop r)) (hst : r.state = .ready) (hpe : r.pending = none) (hass : r.assign = cA) (hbody : r.body = cB)
    {U : Fr} (hU : SlotsF n β.ε U { tmps := r.tmps, defers := [] }) (hp : persF U) {ps : List Nat} (hps : r.params.toList = ps) (hpn : ∀ k ∈ ps, k < n)
    {args : List SV} {m m1 : List Res} (hal : args.length = ps.length)
    (hw : jA.wp Γ m.length (fun e τ m' => e = .norm ∧ m' = m ∧ jB.wp Γ m.length (fun e τ' m'' => e = .norm ∧ m.length ≤ m1.length ∧ (m''.take m1.length).map (renR (ltI m1.length)) = m1 ∧ bkOK m m1) τ m') (putsF ps args U) m)
    {ε : Env} {w : World} {vs : List Value} (hI : Inv β ε m w) (hs : intsOK args vs) {rm : Nat} :
    YieldAt (Fw none) rm P l vs.toArray w (fun e w' => e = .returned (.bool true) ∧ ∃ ε', Inv β ε' m1 w' ∧ EnvP ε ε') := by
  obtain ⟨k1, k2, k3, k4⟩ := hI.clear hcl
  have hl0 : w.heap[l]? = some (.loop r) := k1.trans hrec
  have hlv : ∀ {xs : List SV} {vs : List Value}, intsOK xs vs → xs.length = vs.length := by
    intro xs
    induction xs with
    | nil => intro vs h; cases vs <;> first | rfl | exact h.elim
    | cons x xs ih =>
      intro vs h
      cases vs with
      | nil => cases x <;> exact h.elim
      | cons v vs => cases x <;> first | exact h.elim | simp [ih h.2]
  have hsz : vs.toArray.size = r.params.size := by
    have := hlv hs
    have h2 : r.params.size = ps.length := by rw [← hps]; simp
    simp only [List.size_toArray]; omega
  refine ⟨r.fn, _, r.assign, r.body, run_yield hl0 hsz, roundIn_of_wpIn trivial ?_⟩
  have hEP : EnvP β.ε ε := ⟨hI.n, hI.blk, hI.kept.H⟩
  have hsl := (hU.pers hp hEP).puts (vs := vs) hpn hal hs
  rw [hass, hbody, array_zip_foldl, hps]
  have hA0 : Inv ⟨w, ε, ownB ε m⟩ ε m w := Inv.start hI.good
  refine wpIn_mono (JC.soundIn (ro := some l) (rm := rm) hΓ (β := ⟨w, ε, ownB ε m⟩) (Nat.le_of_eq hI.good.n) (d := []) jA cA hA wA _ _ _ hw ε _ w hA0 hsl rfl) ?_
  rintro e a1 w1 ⟨ex, τ1, m', ε1, x1, ⟨rfl, rfl, hw2⟩, x3, x4, x5⟩
  cases e <;> simp only [ExRel] at x1
  have cA' : Clear ⟨w, ε, ownB ε m'⟩ l := ⟨k4, fun ⟨i, h⟩ => k2 i h, k3⟩
  obtain ⟨y1, y2, y3, y4⟩ := x3.clear cA'
  have hl1 : w1.heap[l]? = some (.loop r) := y1.trans hl0
  obtain ⟨hI1, hP1⟩ := hI.trans x3 (fun i hi h => h)
  refine ⟨_, run_beginRound hl1 hst, ?_⟩
  have g1 : Good ε1 m' (w1.putObj l (.loop { r with state := .busy })) := x3.good.world
    (fun i b h => World.putObj_heap_other (fun e => y2 i (e ▸ h))) (fun b o h => World.putObj_heap_other (fun e => by rw [e] at h; rw [y3] at h; cases h))
  have hB0 := Inv.start g1
  refine wpIn_mono (JC.soundIn (ro := some l) (rm := rm) hΓ (β := ⟨w1.putObj l (.loop { r with state := .busy }), ε1, ownB ε1 m'⟩) (Nat.le_of_eq g1.n) (d := []) jB cB hB wB _ _ _ hw2 ε1 _ _ hB0 x4 x5) ?_
  rintro e a2 w2 ⟨ex, τ2, m'', ε2, z1, ⟨rfl, hle, htr, hbk⟩, z3, z4, z5⟩
  cases e <;> simp only [ExRel] at z1
  obtain ⟨ε3, hI3, _⟩ := trim_ok z3 z4 (Nat.le_of_eq g1.n) hle rfl htr
  have cB' : Clear ⟨w1.putObj l (.loop { r with state := .busy }), ε1, ownB ε1 m'⟩ l := ⟨by simpa using y4, fun ⟨i, h⟩ => y2 i h, y3⟩
  obtain ⟨q1, q2, q3, q4⟩ := hI3.clear cB'
  have hl2 : w2.heap[l]? = some (.loop { r with state := .busy }) := q1.trans (World.putObj_heap_same y4)
  refine ⟨_, _, run_endRound none hl2, rfl, ε3, ?_, hP1.trans ⟨hI3.n, hI3.blk, hI3.kept.H⟩⟩
  have hr : ({ ({ r with state := .busy } : Loop) with state := if (none : Option Code).isNone then LoopState.ready else .done, pending := none } : Loop) = r := by
    cases r; simp only at hst hpe; subst hst; subst hpe; rfl
  rw [hr]
  have hoth : ∀ b, b ≠ l → (w2.putObj l (.loop r)).heap[b]? = w2.heap[b]? := fun b hb => World.putObj_heap_other hb
  have hsame : (w2.putObj l (.loop r)).heap[l]? = some (.loop r) := World.putObj_heap_same q4
  have g3 : Good ε3 m1 (w2.putObj l (.loop r)) := hI3.good.world
    (fun i b h => hoth b (fun e => q2 i (e ▸ h))) (fun b o h => hoth b (fun e => by rw [e] at h; rw [q3] at h; cases h))
  have hsz1 : (w1.putObj l (.loop { r with state := .busy })).heap.size = w1.heap.size := by simp
  have hsw := hI3.kept.size
  rw [show (Base.w ⟨w1.putObj l (.loop { r with state := .busy }), ε1, ownB ε1 m'⟩) = w1.putObj l (.loop { r with state := .busy }) from rfl, hsz1] at hsw
  refine ⟨g3, ⟨(show _ = _ from hI3.kept.os).trans hI1.kept.os, (show _ = _ from hI3.kept.tape).trans hI1.kept.tape, (show _ = _ from hI3.kept.output).trans hI1.kept.output, ?_, fun b hlt hb => ?_, fun b o e => hI3.kept.H b o (hI1.kept.H b o e), fun b o e => ?_⟩, fun i b e => ?_, Nat.le_trans hI1.n hI3.n, fun i hi => ?_, fun i hi hb => ?_⟩
  · have := hI1.kept.size
    simp only [World.putObj_size]; omega
  · by_cases e : b = l
    · subst e; rw [hsame, hrec]
    · rw [hoth b e]
      have hlt1 : b < w1.heap.size := Nat.lt_of_lt_of_le hlt hI1.kept.size
      have hk := hI3.kept.heap b (by show b < (w1.putObj l _).heap.size; simpa using hlt1) (fun ⟨i, hi⟩ => by
        rcases hI1.own i b hi with h' | h'
        · exact hb h'
        · omega)
      exact (hk.trans (World.putObj_heap_other e)).trans (hI1.kept.heap b hlt hb)
  · have hs1 := hI1.kept.size
    rcases hI3.kept.fresh b o e with e1 | e1 | ⟨i, e1⟩
    · exact hI1.kept.fresh b o e1
    · right; left
      have e1 : (w1.putObj l (.loop { r with state := .busy })).heap.size ≤ b := e1
      rw [hsz1] at e1; omega
    · rcases hI1.own i b e1 with e2 | e2
      · exact .inr (.inr e2)
      · exact .inr (.inl e2)
  · have hs1 := hI1.kept.size
    rcases hI3.own i b e with ⟨j, e1⟩ | e1
    · exact hI1.own j b e1
    · right
      have e1 : (w1.putObj l (.loop { r with state := .busy })).heap.size ≤ b := e1
      rw [hsz1] at e1; omega
  · exact (hI3.blk i (Nat.lt_of_lt_of_le hi hI1.n)).trans (hI1.blk i hi)
  · have hi1 : i < ε1.n := Nat.lt_of_lt_of_le hi hI1.n
    have hbm : (memAt m' i).isBlk = true := bkOK_at hbk (by have := g1.n; omega) hb
    exact (hI3.vv i hi1 hb).trans (hI1.vv i hi hbm)
end Go.Sx
