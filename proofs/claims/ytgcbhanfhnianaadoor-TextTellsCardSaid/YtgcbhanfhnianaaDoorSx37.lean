import Derived.Test.YtgcbhanfhnianaaDoorSx23
import Derived.RangeFuncSeq
import Derived.TacticsIn
import Derived.OrdersIn
import Derived.OwnWalkIn
import Derived.Sort.LoopGhostIn
import Derived.Test.YtgcbhanfhnianaaDoorSx32
/-! Sx, part 33: the walk within a round of a range over a function. -/
set_option linter.unusedVariables false
set_option linter.unusedSimpArgs false
namespace Go.Sx
open Go
variable {P : Program}
/-- No fence; the frame may be a round's. -/
abbrev Fw (ro : Option Nat) : Fence := { Fence.wide with round := ro }
end Go.Sx
/-! Sx, part 34: what lasts from round to round; a round. -/
set_option linter.unusedVariables false
set_option linter.unusedSimpArgs false
namespace Go.Sx
open Go
variable {P : Program}
structure EnvP (ε ε' : Env) : Prop where
  n : ε.n ≤ ε'.n
  blk : ∀ i, i < ε.n → ε'.blk i = ε.blk i
  H : ∀ b o, ε.H b = some o → ε'.H b = some o
theorem EnvP.trans {a b c : Env} (h : EnvP a b) (k : EnvP b c) : EnvP a c :=
  ⟨Nat.le_trans h.n k.n, fun i hi => (k.blk i (Nat.lt_of_lt_of_le hi h.n)).trans (h.blk i hi), fun b o h' => k.H b o (h.H b o h')⟩
theorem EnvP.refl (ε : Env) : EnvP ε ε := ⟨Nat.le_refl _, fun _ _ => rfl, fun _ _ h => h⟩
theorem EnvP.cl {ε ε' : Env} (h : EnvP ε ε') : ε.cl.Le ε'.cl := ⟨Nat.le_refl _, fun _ hi => absurd hi (Nat.not_lt_zero _), fun _ hi => absurd hi (Nat.not_lt_zero _), h.H⟩
mutual
def pers : SV → Prop
  | .agg l => persL l
  | .fn _ l => persL l
  | .tup l => persL l
  | .arr .. => False
  | .iface .. => False
  | .vec .. => False
  | .vptr .. => False
  | .pvec .. => False
  | _ => True
def persL : List SV → Prop
  | [] => True
  | x :: r => pers x ∧ persL r
end
mutual
theorem pers_sat : ∀ (x : SV) {ε ε' : Env} {cs : List Value}, pers x → EnvP ε ε' → SatC x ε cs → SatC x ε' cs
  | .int .., _, _, _, _, _, h => h
  | .bool .., _, _, _, _, _, h => h
  | .str .., _, _, _, _, _, h => h
  | .arr .., _, _, _, hp, _, _ => hp.elim
  | .agg l, _, _, _, hp, hl, h => by simp only [SatC] at h ⊢; exact persL_sat l hp hl h
  | .tup _, _, _, _, _, _, h => h
  | .lst w d f l, _, _, _, _, hl, h => by
    simp only [SatC] at h ⊢
    obtain ⟨ao, cap, h1, h2, h3, h4, h5⟩ := h
    refine ⟨ao, cap, h1, h2, h3, h4, fun i hi => ?_⟩
    obtain ⟨b, off, T, fz, cur, e1, e2, e3, e4⟩ := h5 i hi
    exact ⟨b, off, T, fz, cur, e1, hl.H _ _ e2, e3, SatC.mono (f (l.getD i d)) hl.cl e4⟩
  | .lit w d f l, _, _, _, _, hl, h => by
    simp only [SatC] at h ⊢
    obtain ⟨ao, h1, h3, h4, h5⟩ := h
    refine ⟨ao, h1, h3, h4, fun i hi => ?_⟩
    obtain ⟨b, off, T, fz, cur, e1, e2, e3, e4⟩ := h5 i hi
    exact ⟨b, off, T, fz, cur, e1, hl.H _ _ e2, e3, SatC.mono (f (l.getD i d)) hl.cl e4⟩
  | .eptr w d f l i p o, _, _, _, _, hl, h => by
    simp only [SatC] at h ⊢
    obtain ⟨b, off, T, fz, cur, h1, h2, h3, h4, h5, h6⟩ := h
    exact ⟨b, off, T, fz, cur, h1, h2, hl.H _ _ h3, h4, h5, SatC.mono (f (l.getD i d)) hl.cl h6⟩
  | .ref c p o, _, _, _, _, hl, h => by
    simp only [SatC] at h ⊢
    obtain ⟨b, T, fz, cur, h1, h2, h3, h4⟩ := h
    exact ⟨b, T, fz, cur, h1, hl.H _ _ h2, h3, SatC.mono c hl.cl h4⟩
  | .ptr i p o, _, _, _, _, hl, h => by
    simp only [SatC] at h ⊢
    exact ⟨Nat.lt_of_lt_of_le h.1 hl.n, h.2.1, by rw [hl.blk i h.1]; exact h.2.2⟩
  | .vec .., _, _, _, hp, _, _ => hp.elim
  | .vptr .., _, _, _, hp, _, _ => hp.elim
  | .pvec .., _, _, _, hp, _, _ => hp.elim
  | .map i, _, _, _, _, hl, h => by
    simp only [SatC] at h ⊢
    exact ⟨Nat.lt_of_lt_of_le h.1 hl.n, by rw [hl.blk i h.1]; exact h.2⟩
  | .fn f cap, _, _, _, hp, hl, h => by
    simp only [SatC] at h ⊢
    obtain ⟨vs, h1, h2⟩ := h
    exact ⟨vs, persA_sat cap hp hl h1, h2⟩
  | .iface .., _, _, _, hp, _, _ => hp.elim
  | .nils, _, _, _, _, _, h => h
  | .nili, _, _, _, _, _, h => h
  | .nilf, _, _, _, _, _, h => h
  | .nilp, _, _, _, _, _, h => h
  | .nilm, _, _, _, _, _, h => h
  | .anyb, _, _, _, _, _, h => h
  | .raw _, _, _, _, _, _, h => h
  | .junk, _, _, _, _, _, h => h
theorem persL_sat : ∀ (l : List SV) {ε ε' : Env} {cs : List Value}, persL l → EnvP ε ε' → SatL l ε cs → SatL l ε' cs
  | [], _, _, _, _, _, h => h
  | x :: r, _, _, _, hp, hl, h => by
    simp only [SatL] at h ⊢
    obtain ⟨a, b, h1, h2, h3⟩ := h
    exact ⟨a, b, h1, pers_sat x hp.1 hl h2, persL_sat r hp.2 hl h3⟩
theorem persA_sat : ∀ (l : List SV) {ε ε' : Env} {vs : List Value}, persL l → EnvP ε ε' → SatA l ε vs → SatA l ε' vs
  | [], _, _, _, _, _, h => h
  | x :: r, _, _, _, hp, hl, h => by
    simp only [SatA] at h ⊢
    obtain ⟨cs, t, h1, h2, h3⟩ := h
    exact ⟨cs, t, h1, pers_sat x hp.1 hl h2, persA_sat r hp.2 hl h3⟩
end
theorem persV_sat {x : SV} {ε ε' : Env} {v : Value} (hp : pers x) (hl : EnvP ε ε') (h : SatV ε x v) : SatV ε' x v := by
  cases x
  case tup l => obtain ⟨vs, h1, h2⟩ := h; exact ⟨vs, persA_sat l hp hl h1, h2⟩
  case junk => trivial
  all_goals (obtain ⟨cs, h1, h2⟩ := h; exact ⟨cs, pers_sat _ hp hl h1, h2⟩)
def persF : Fr → Prop
  | .nil => True
  | .put _ x r => pers x ∧ persF r
  | .pick _ _ x r => pers x ∧ persF r
theorem pers_look {k : Nat} : ∀ {τ : Fr}, persF τ → pers (look k τ)
  | .nil, _ => trivial
  | .put j x r, h => by
    simp only [look]
    split
    · exact h.1
    · exact pers_look h.2
  | .pick s d x r, h => by
    simp only [look]
    split
    · exact h.1
    · split
      · trivial
      · exact pers_look h.2
theorem SlotsF.pers {n : Nat} {ε ε' : Env} {τ : Fr} {a : Act} (h : SlotsF n ε τ a) (hp : persF τ) (hl : EnvP ε ε') : SlotsF n ε' τ a := by
  have hv := h.sat
  obtain ⟨σ, h1, h2⟩ := h
  refine ⟨(List.range n).map (fun k => look k τ), ⟨by simp, fun k => ?_⟩, ⟨by simp; rw [← h2.1, h1.1], fun k => ?_⟩⟩
  · rcases h1.2 k with e | ⟨e1, e2⟩
    · exact .inl e
    · right
      refine ⟨e1, ?_⟩
      simp [List.getD, e1]
  · by_cases hk : k < n
    · have : ((List.range n).map (fun k => look k τ)).getD k .junk = look k τ := by simp [List.getD, hk]
      rw [this]
      exact persV_sat (pers_look hp) hl (hv k)
    · have : ((List.range n).map (fun k => look k τ)).getD k .junk = .junk := by simp [List.getD, hk]
      rw [this]; trivial

/-- A block that is none of the call's and that lay ahead. -/
structure Clear (β : Base) (l : Nat) : Prop where
  lt : l < β.w.heap.size
  B : ¬ β.B l
  H : β.ε.H l = none
theorem Good.world {ε : Env} {m : List Res} {w W : World} (g : Good ε m w) (ho : ∀ i b, ownR ε i (memAt m i) = some b → W.heap[b]? = w.heap[b]?) (hH : ∀ b o, ε.H b = some o → W.heap[b]? = w.heap[b]?) : Good ε m W := by
  refine ⟨g.n, fun i => ?_, g.disj, g.sep, fun b o hb => (hH b o hb).trans (g.hv b o hb)⟩
  have hr := g.res i
  have ho := ho i
  cases hm : memAt m i with
  | dead => trivial
  | blk T c =>
    rw [hm] at hr ho
    obtain ⟨cs, h1, h2⟩ := hr
    exact ⟨cs, by rw [ho _ rfl]; exact h1, h2⟩
  | vec T wd l =>
    rw [hm] at hr ho
    obtain ⟨xs, h1, h2⟩ := hr
    refine ⟨xs, ⟨h1.1, ?_⟩, h2⟩
    rcases h1.2 with hx | ⟨gg, cap, cur, e1, e2, e3, e4⟩
    · exact .inl hx
    · exact .inr ⟨gg, cap, cur, e1, e2, by rw [ho gg (by simp [ownR, e1, Value.ownBlock])]; exact e3, e4⟩
  | mp ek ev l =>
    rw [hm] at hr ho
    obtain ⟨es, cl, h1, h2⟩ := hr
    exact ⟨es, cl, by rw [ho _ rfl]; exact h1, h2⟩
/-- Blocks turn that are none of the call's. -/
theorem Inv.world {β : Base} {ε : Env} {m : List Res} {w W : World} (h : Inv β ε m w) (h1 : W.os = w.os) (h2 : W.tape = w.tape) (h3 : W.output = w.output) (h4 : w.heap.size ≤ W.heap.size)
    (hb : ∀ b, b < w.heap.size → W.heap[b]? = w.heap[b]? ∨ (β.w.heap.size ≤ b ∧ (∀ i, ownR ε i (memAt m i) ≠ some b) ∧ ε.H b = none)) : Inv β ε m W := by
  refine ⟨h.good.world (fun i b e => ?_) (fun b o e => ?_), ⟨h1.trans h.kept.os, h2.trans h.kept.tape, h3.trans h.kept.output, Nat.le_trans h.kept.size h4, fun b hlt hB => ?_, h.kept.H, h.kept.fresh⟩, h.own, h.n, h.blk, h.vv⟩
  · rcases hb b (ownR_lt h.good e) with k | ⟨_, k, _⟩
    · exact k
    · exact absurd e (k i)
  · rcases hb b (H_lt h.good e) with k | ⟨_, _, k⟩
    · exact k
    · rw [e] at k; cases k
  · rcases hb b (Nat.lt_of_lt_of_le hlt h.kept.size) with k | ⟨k, _⟩
    · rw [k]; exact h.kept.heap b hlt hB
    · omega
def ownB (ε : Env) (m : List Res) : Nat → Prop := fun b => ∃ i, ownR ε i (memAt m i) = some b
/-- What has been kept on the way is kept. -/
theorem Inv.trans {β : Base} {ε ε' : Env} {m m' : List Res} {w w' : World} (h : Inv β ε m w) (k : Inv ⟨w, ε, ownB ε m⟩ ε' m' w') (hv : ∀ i, i < β.ε.n → (memAt m' i).isBlk = true → (memAt m i).isBlk = true) : Inv β ε' m' w' ∧ EnvP ε ε' := by
  have hB : ∀ b, b < β.w.heap.size → ¬ β.B b → ¬ ownB ε m b := by
    rintro b hlt hb ⟨i, hi⟩
    rcases h.own i b hi with h' | h'
    · exact hb h'
    · omega
  refine ⟨⟨k.good, ⟨k.kept.os.trans h.kept.os, k.kept.tape.trans h.kept.tape, k.kept.output.trans h.kept.output, Nat.le_trans h.kept.size k.kept.size, fun b hlt hb => ?_, fun b o e => k.kept.H b o (h.kept.H b o e), fun b o e => ?_⟩, fun i b e => ?_, Nat.le_trans h.n k.n, fun i hi => ?_, fun i hi hb => ?_⟩, ⟨k.n, k.blk, k.kept.H⟩⟩
  · exact (k.kept.heap b (Nat.lt_of_lt_of_le hlt h.kept.size) (hB b hlt hb)).trans (h.kept.heap b hlt hb)
  · have hs := h.kept.size
    rcases k.kept.fresh b o e with e1 | e1 | ⟨i, e1⟩
    · exact h.kept.fresh b o e1
    · exact .inr (.inl (Nat.le_trans hs e1))
    · rcases h.own i b e1 with e2 | e2
      · exact .inr (.inr e2)
      · exact .inr (.inl e2)
  · have hs := h.kept.size
    rcases k.own i b e with ⟨j, e1⟩ | e1
    · exact h.own j b e1
    · exact .inr (Nat.le_trans hs e1)
  · exact (k.blk i (Nat.lt_of_lt_of_le hi h.n)).trans (h.blk i hi)
  · exact (k.vv i (Nat.lt_of_lt_of_le hi h.n) hb).trans (h.vv i hi (hv i hi hb))
/-- All that is a block now was one. -/
def bkOK : List Res → List Res → Prop
  | x :: m, y :: m1 => (y.isBlk = true → x.isBlk = true) ∧ bkOK m m1
  | _, _ => True
end Go.Sx
/-! Sx, part 35: an iterator: code with one call of yield. -/
set_option linter.unusedVariables false
set_option linter.unusedSimpArgs false
namespace Go.Sx
open Go
variable {P : Program}
section
variable {ro : Option Nat} {rm n : Nat} {Γ : FH} {ops : Array Oper} {Q : Exit → Act → World → Prop} {β : Base} {d : List Deferred} {rest l : List Oper}
theorem SlotsF.bool {ε : Env} {τ : Fr} {a : Act} (hs : SlotsF n ε τ a) {s : Nat} {b : Bool} (h : look s τ = .bool b) {o : Oper} {want : Bool} (hg : compG ops o.guard = some (some (s, want))) : Region.wanted o (yielded ops a.tmps) = (b == want) := by
  obtain ⟨σ, h1, h2⟩ := hs
  exact wanted_ok h2 hg (le_eq (h1.le s) h (by intro h; cases h))
def gdOK (s : Nat) (ks : List Nat) (io : IOp) : Bool := (match io.guard with
  | some (s', true) => s' == s
  | _ => false) && (match io.dst with
  | some k => !ks.contains k
  | none => true)
end
def allInt : List SV → Bool
  | [] => true
  | .int .. :: r => allInt r
  | _ => false
/-- An iterator's code. -/
inductive YC : Type 1 where
  | jc (c : JC)
  | seq (a b : YC)
  | block (id : Nat) (c : YC)
  | loop (keep mod : List Nat) (c : YC)
  | prune (ks : List Nat) (c : YC)
  | yl (A : SL) (s : Nat) (ks : List Nat) (B : SL) (d : Nat) (x : Opd) (ys : List Opd) (c e : Nat)
def YC.flat : YC → IC
  | .jc c => c.flat
  | .seq a b => .seq a.flat b.flat
  | .block id c => .block id c.flat
  | .loop _ _ c => .loop c.flat
  | .prune _ c => c.flat
  | .yl A s _ B d x ys c e => .ops (A.flat none ++ (B.flat (some (s, true)) ++ [⟨some d, some (s, true), .e (.callv x ys)⟩, ⟨some c, some (s, true), .p (.nt (.t d))⟩, ⟨some e, none, .p (.pick (.t s) (.t c) (.c (.bool false)))⟩]))
def YC.wf (n : Nat) : YC → Bool
  | .jc c => c.wf n
  | .seq a b => a.wf n && b.wf n
  | .block _ c => c.wf n
  | .loop keep mod c => mod.all (fun k => decide (k < n)) && keep.all (fun k => decide (k < n)) && c.wf n
  | .prune _ c => c.wf n
  | .yl A s ks B d x ys c e => A.wf n && B.wf n && (B.flat (some (s, true))).all (gdOK s ks) && decide (d < n) && decide (c < n) && decide (e < n) && ks.contains s && !ks.contains d && !ks.contains c && !(d == c)
def YC.wp (Γ : FH) (Y : List SV → List Res → List Res → Prop) (yv : Value) (n0 : Nat) : YC → (Ex → Fr → List Res → Prop) → Fr → List Res → Prop
  | .jc c, Q, τ, m => c.wp Γ n0 Q τ m
  | .seq a b, Q, τ, m => a.wp Γ Y yv n0 (fun e τ' m' => match e with
    | .norm => b.wp Γ Y yv n0 Q τ' m'
    | e => Q e τ' m') τ m
  | .block id c, Q, τ, m => c.wp Γ Y yv n0 (fun e τ' m' => match e with
    | .exit i => if i = id then Q .norm τ' m' else Q (.exit i) τ' m'
    | e => Q e τ' m') τ m
  | .loop keep mod c, Q, τ, m => ∃ (ι : Type) (U : ι → List SV) (M : ι → List Res) (ok : ι → Prop) (μ : ι → Nat) (i : ι), ok i ∧ atF mod (U i) τ ∧ M i = m ∧
      ∀ i, ok i → c.wp Γ Y yv n0 (fun e τ' m' => match e with
        | .norm => ∃ j, ok j ∧ μ j < μ i ∧ n0 ≤ (M j).length ∧ atR (ltI (M j).length) mod (U j) τ' ∧ sameR (ltI (M j).length) τ τ' keep ∧ (m'.take (M j).length).map (renR (ltI (M j).length)) = M j
        | e => Q e τ' m') (ofF mod (U i) (keepF keep τ)) (M i)
  | .prune ks c, Q, τ, m => c.wp Γ Y yv n0 Q (keepF ks τ) m
  | .yl A s ks B d x ys c e, Q, τ, m => A.wp Γ false (fun τ m => match look s τ with
    | .bool b => (b = false → Q .norm (.put e (.bool false) (keepF ks τ)) m) ∧ (b = true → B.wpg Γ false s true (fun τ' m' => (persF (keepF ks τ') ∧ x.fv τ' = .raw yv ∧ allInt (ys.map (Opd.fv τ')) = true) ∧
        ∃ m'', Y (ys.map (Opd.fv τ')) m' m'' ∧ Q .norm (.put e (.bool false) (keepF ks τ')) m'') τ m)
    | _ => False) τ m
end Go.Sx
/-! Sx, part 36: a function that ranges over a function. -/
set_option linter.unusedVariables false
set_option linter.unusedSimpArgs false
namespace Go.Sx
open Go
variable {P : Program}
/-- What is asked of the function that is ranged over. -/
def ITok (P : Program) (quiet : FuncId → Bool) (n : Nat) (ps : List Nat) (A B : IC) (τ : Fr) (f : FuncId) (cap : List SV) (m m1 : List Res) : Prop :=
  ∀ (cA cB : Code), comp P quiet cA = some A → comp P quiet cB = some B → ∀ (l : Nat) (W : World) (ε : Env) (r : Loop), Good ε m W → Clear ⟨W, ε, ownB ε m⟩ l → W.heap[l]? = some (.loop r) → r.state = .ready → r.pending = none → r.assign = cA → r.body = cB →
    r.params.toList = ps → SlotsF n ε τ { tmps := r.tmps, defers := [] } → ∀ vs, SatA cap ε vs →
      CallsIn (Fw none) 0 P f (#[.func (.yield l) #[] #[]] ++ vs.toArray) W (fun e w' => (∃ v, e = .returned v) ∧ ∃ ε', Inv ⟨W, ε, ownB ε m⟩ ε' m1 w')
/-- A nil slice in a block becomes a slice of the call's own. -/
def vecB (vb : Option (Nat × Nat × Nat)) (τ : Fr) (m : List Res) (K : List Res → Prop) : Prop := match vb with
  | none => K m
  | some (k, E, wd) => match look k τ with
    | .ptr i _ _ => match memAt m i with
      | .blk T .nils => K (m.set i (.blk T (.vec m.length 0)) ++ [.vec E wd []])
      | _ => K m
    | _ => K m
inductive IX : Type 1 where
  | c (x : IC)
  | seq (a : IC) (b : IX)
  | rf (x : IC) (id g : Nat) (ps : List Nat) (A B z : IC)
inductive XC : Type 1 where
  | seq (a : JC) (b : XC)
  | prune (ks : List Nat) (b : XC)
  | rf (x : JC) (id g : Nat) (ps : List Nat) (A B : JC) (vb : Option (Nat × Nat × Nat)) (ks : List Nat) (z : JC)
def XC.flat : XC → IX
  | .seq a b => .seq a.flat b.flat
  | .prune _ b => b.flat
  | .rf x id g ps A B _ _ z => .rf x.flat id g ps A.flat B.flat z.flat
def XC.wf (n : Nat) : XC → Bool
  | .seq a b => a.wf n && b.wf n
  | .prune _ b => b.wf n
  | .rf x _ _ _ _ _ _ _ z => x.wf n && z.wf n
def XC.wp (P : Program) (quiet : FuncId → Bool) (n : Nat) (Γ : FH) (n0 : Nat) : XC → (Ex → Fr → List Res → Prop) → Fr → List Res → Prop
  | .seq a b, Q, τ, m => a.wp Γ n0 (fun e τ' m' => match e with
    | .norm => b.wp P quiet n Γ n0 Q τ' m'
    | e => Q e τ' m') τ m
  | .prune ks b, Q, τ, m => b.wp P quiet n Γ n0 Q (keepF ks τ) m
  | .rf x id g ps A B vb ks z, Q, τ, m => x.wp Γ n0 (fun e τ m => match e with
    | .norm => vecB vb τ m fun m => ∃ m1 f cap, (look g τ = .fn f cap ∧ okFn P f = true ∧ persF (keepF ks τ) ∧ bkOK m m1) ∧ ITok P quiet n ps A.flat B.flat τ f cap m m1 ∧ z.wp Γ m1.length Q (keepF ks τ) m1
    | e => Q e τ m) τ m
end Go.Sx
/-! Sx, part 37: words for functions that range over a function. -/
set_option linter.unusedVariables false
set_option linter.unusedSimpArgs false
namespace Go.Sx
open Go
variable {P : Program}
namespace W
theorem persF_nil : persF .nil = True := nr rfl
theorem persF_put (k : Nat) (x : SV) (r : Fr) : persF (.put k x r) = (pers x ∧ persF r) := nr rfl
theorem persF_pick (s d : Nat) (x : SV) (r : Fr) : persF (.pick s d x r) = (pers x ∧ persF r) := nr rfl
theorem pers_int (k : IntKind) (n : Int) : pers (.int k n) = True := nr (by simp [pers])
theorem pers_bool (b : Bool) : pers (.bool b) = True := nr (by simp [pers])
theorem pers_lst {τ : Type} (w : Nat) (d : τ) (f : τ → SV) (l : List τ) : pers (.lst w d f l) = True := nr (by simp [pers])
theorem pers_eptr {τ : Type} (w : Nat) (d : τ) (f : τ → SV) (l : List τ) (i : Nat) (p : List Step) (o : Nat) : pers (.eptr w d f l i p o) = True := nr (by simp [pers])
theorem pers_ref (c : SV) (p : List Step) (o : Nat) : pers (.ref c p o) = True := nr (by simp [pers])
theorem pers_ptr (i : Nat) (p : List Step) (o : Nat) : pers (.ptr i p o) = True := nr (by simp [pers])
theorem pers_raw (v : Value) : pers (.raw v) = True := nr (by simp [pers])
theorem pers_nils : pers .nils = True := nr (by simp [pers])
theorem pers_junk : pers .junk = True := nr (by simp [pers])
theorem pers_agg (l : List SV) : pers (.agg l) = persL l := nr (by simp [pers])
theorem pers_fn (f : FuncId) (l : List SV) : pers (.fn f l) = persL l := nr (by simp [pers])
theorem persL_nil : persL [] = True := nr (by simp [persL])
theorem persL_cons (x : SV) (l : List SV) : persL (x :: l) = (pers x ∧ persL l) := nr (by simp [persL])
theorem bkOK_nil (m : List Res) : bkOK [] m = True := nr (by simp [bkOK])
theorem bkOK_cons (x y : Res) (m m1 : List Res) : bkOK (x :: m) (y :: m1) = ((y.isBlk = true → x.isBlk = true) ∧ bkOK m m1) := nr rfl
theorem isBlk_blk (T : TypeId) (c : SV) : (Res.blk T c).isBlk = true := nr rfl
theorem isBlk_mp (ek ev : ES) (l : List (SV × SV)) : (Res.mp ek ev l).isBlk = true := nr rfl
theorem isBlk_vec (T : TypeId) (w : Nat) (l : List SV) : (Res.vec T w l).isBlk = false := nr rfl
theorem isBlk_dead : Res.dead.isBlk = false := nr rfl
theorem allInt_nil : allInt [] = true := nr rfl
theorem allInt_int (k : IntKind) (n : Int) (l : List SV) : allInt (.int k n :: l) = allInt l := nr rfl
theorem vecB_none (τ : Fr) (m : List Res) (K : List Res → Prop) : vecB none τ m K = K m := nr rfl
theorem ren_raw (r : Nat → Option Nat) (v : Value) : ren r (.raw v) = .raw v := nr (by simp [ren])
theorem kill_raw (i : Nat) (v : Value) : kill i (.raw v) = .raw v := nr (by simp [kill])
theorem isVal_raw (v : Value) : (SV.raw v).isVal = true := nr rfl
section
variable {quiet : FuncId → Bool} {n n0 : Nat} {Γ : FH} {Q : Ex → Fr → List Res → Prop} {τ : Fr} {m : List Res} {Y : List SV → List Res → List Res → Prop} {yv : Value}
theorem xc_seq {a : JC} {b : XC} : XC.wp P quiet n Γ n0 (.seq a b) Q τ m = a.wp Γ n0 (fun e τ' m' => match e with
    | .norm => b.wp P quiet n Γ n0 Q τ' m'
    | e => Q e τ' m') τ m := propext Iff.rfl
theorem xc_prune {ks : List Nat} {b : XC} : XC.wp P quiet n Γ n0 (.prune ks b) Q τ m = b.wp P quiet n Γ n0 Q (keepF ks τ) m := propext Iff.rfl
theorem yc_jc {c : JC} : YC.wp Γ Y yv n0 (.jc c) Q τ m = c.wp Γ n0 Q τ m := propext Iff.rfl
theorem yc_seq {a b : YC} : YC.wp Γ Y yv n0 (.seq a b) Q τ m = a.wp Γ Y yv n0 (fun e τ' m' => match e with
    | .norm => b.wp Γ Y yv n0 Q τ' m'
    | e => Q e τ' m') τ m := propext Iff.rfl
theorem yc_block {id : Nat} {c : YC} : YC.wp Γ Y yv n0 (.block id c) Q τ m = c.wp Γ Y yv n0 (fun e τ' m' => match e with
    | .exit i => if i = id then Q .norm τ' m' else Q (.exit i) τ' m'
    | e => Q e τ' m') τ m := propext Iff.rfl
theorem yc_prune {ks : List Nat} {c : YC} : YC.wp Γ Y yv n0 (.prune ks c) Q τ m = c.wp Γ Y yv n0 Q (keepF ks τ) m := propext Iff.rfl
theorem yc_yl {A B : SL} {s d c e : Nat} {ks : List Nat} {x : Opd} {ys : List Opd} : YC.wp Γ Y yv n0 (.yl A s ks B d x ys c e) Q τ m = A.wp Γ false (fun τ m => match look s τ with
    | .bool b => (b = false → Q .norm (.put e (.bool false) (keepF ks τ)) m) ∧ (b = true → B.wpg Γ false s true (fun τ' m' => (persF (keepF ks τ') ∧ x.fv τ' = .raw yv ∧ allInt (ys.map (Opd.fv τ')) = true) ∧
        ∃ m'', Y (ys.map (Opd.fv τ')) m' m'' ∧ Q .norm (.put e (.bool false) (keepF ks τ')) m'') τ m)
    | _ => False) τ m := propext Iff.rfl
theorem ycwp_congr {c : YC} {τ' : Fr} {m' : List Res} (h1 : wrp τ = τ') (h2 : wrp m = m') : YC.wp Γ Y yv n0 c Q τ m = YC.wp Γ Y yv n0 c Q τ' m' := by subst h1; subst h2; rfl
theorem xcwp_congr {c : XC} {τ' : Fr} {m' : List Res} (h1 : wrp τ = τ') (h2 : wrp m = m') : XC.wp P quiet n Γ n0 c Q τ m = XC.wp P quiet n Γ n0 c Q τ' m' := by subst h1; subst h2; rfl
end
end W
attribute [congr] W.ycwp_congr W.xcwp_congr
attribute [go_sem] W.persF_nil W.persF_put W.persF_pick W.pers_int W.pers_bool W.pers_lst W.pers_eptr W.pers_ref W.pers_ptr W.pers_raw W.pers_nils W.pers_junk W.pers_agg W.pers_fn W.persL_nil W.persL_cons W.bkOK_nil W.bkOK_cons W.isBlk_blk W.isBlk_vec W.isBlk_mp W.isBlk_dead W.allInt_nil W.allInt_int W.vecB_none W.isVal_raw W.ren_raw W.kill_raw W.xc_seq W.xc_prune W.yc_jc W.yc_seq W.yc_block W.yc_prune W.yc_yl
end Go.Sx
