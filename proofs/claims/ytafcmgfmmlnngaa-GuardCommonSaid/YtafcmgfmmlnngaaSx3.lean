import Derived.Test.YtafcmgfmmlnngaaSx2
/-! Sx, part 3: memory: what the call owns, what is never written, and what has been kept. -/
set_option linter.unusedSimpArgs false
set_option linter.unusedVariables false
namespace Go.Sx
open Go

/-- Shapes of what can be compared. -/
inductive ES where
  | int (k : IntKind)
  | bool
  | str
  | st (l : List ES)
  | arr (n w : Nat) (e : ES)
mutual
def esP : ES → SV → Prop
  | .int k, x => match x with
    | .int k' _ => k' = k
    | _ => False
  | .bool, x => match x with
    | .bool _ => True
    | _ => False
  | .str, x => match x with
    | .str _ => True
    | _ => False
  | .st l, x => match x with
    | .agg xs => esPL l xs
    | _ => False
  | .arr n w e, x => match x with
    | .arr n' w' f => n' = n ∧ w' = w ∧ ∀ i, i < n → esP e (f i)
    | _ => False
def esPL : List ES → List SV → Prop
  | [], xs => match xs with
    | [] => True
    | _ => False
  | e :: l, xs => match xs with
    | x :: xs => esP e x ∧ esPL l xs
    | [] => False
end

mutual
/-- Data: no address in it. -/
def datP : SV → Prop
  | .int .. => True
  | .bool _ => True
  | .str _ => True
  | .agg l => datPL l
  | .arr n _ f => ∀ i, i < n → datP (f i)
  | _ => False
def datPL : List SV → Prop
  | [] => True
  | x :: r => datP x ∧ datPL r
end
mutual
theorem dat_env : ∀ (x : SV) {ε ε' : Env} {cs : List Value}, datP x → SatC x ε cs → SatC x ε' cs
  | .int .., _, _, _, _, h => h
  | .bool .., _, _, _, _, h => h
  | .str .., _, _, _, _, h => h
  | .agg l, _, _, _, hd, h => by simp only [SatC] at h ⊢; exact datL_env l hd h
  | .arr n w f, _, _, _, hd, h => by
    simp only [SatC] at h ⊢
    exact ⟨h.1, fun i hi => dat_env (f i) (hd i hi) (h.2 i hi)⟩
  | .tup _, _, _, _, hd, _ => hd.elim
  | .lst .., _, _, _, hd, _ => hd.elim
  | .eptr .., _, _, _, hd, _ => hd.elim
  | .ref .., _, _, _, hd, _ => hd.elim
  | .ptr .., _, _, _, hd, _ => hd.elim
  | .vec .., _, _, _, hd, _ => hd.elim
  | .vptr .., _, _, _, hd, _ => hd.elim
  | .map .., _, _, _, hd, _ => hd.elim
  | .fn .., _, _, _, hd, _ => hd.elim
  | .iface .., _, _, _, hd, _ => hd.elim
  | .nils, _, _, _, hd, _ => hd.elim
  | .nili, _, _, _, hd, _ => hd.elim
  | .nilf, _, _, _, hd, _ => hd.elim
  | .nilp, _, _, _, hd, _ => hd.elim
  | .nilm, _, _, _, hd, _ => hd.elim
  | .anyb, _, _, _, hd, _ => hd.elim
  | .raw _, _, _, _, hd, _ => hd.elim
  | .junk, _, _, _, hd, _ => hd.elim
theorem datL_env : ∀ (l : List SV) {ε ε' : Env} {cs : List Value}, datPL l → SatL l ε cs → SatL l ε' cs
  | [], _, _, _, _, h => h
  | x :: r, _, _, _, hd, h => by
    simp only [SatL] at h ⊢
    obtain ⟨a, b, h1, h2, h3⟩ := h
    exact ⟨a, b, h1, dat_env x hd.1 h2, datL_env r hd.2 h3⟩
end
theorem datPL_at : ∀ {l : List SV} {i : Nat}, datPL l → i < l.length → datP (l.getD i .junk)
  | [], i, _, hi => absurd hi (Nat.not_lt_zero _)
  | x :: r, 0, h, _ => h.1
  | x :: r, i + 1, h, hi => by
    rw [List.getD_cons_succ]
    exact datPL_at h.2 (by simpa using hi)
/-- Nothing is known. -/
def Env.nil : Env := ⟨0, fun _ => 0, fun _ => undef, fun _ => none⟩
theorem Env.nil_le (ε : Env) : Env.nil.Le ε := ⟨Nat.zero_le _, fun _ h => absurd h (Nat.not_lt_zero _), fun _ h => absurd h (Nat.not_lt_zero _), fun _ _ h => by cases h⟩
/-- A map's entry: its key, its value. -/
structure EntOK (ek ev : ES) (p : SV × SV) (e : MapEntry) : Prop where
  k : esP ek p.1
  v : esP ev p.2
  kc : ∃ cs, SatC p.1 Env.nil cs ∧ e.key = boxed p.1.isAgg cs
  vc : ∃ cs, SatC p.2 Env.nil cs ∧ e.val = boxed p.2.isAgg cs
/-- A map's entries, in their order. -/
def EntsOK (ek ev : ES) : List (SV × SV) → List MapEntry → Prop
  | [], [] => True
  | p :: l, e :: es => EntOK ek ev p e ∧ EntsOK ek ev l es
  | _, _ => False

inductive Res : Type 1 where
  | dead
  | blk (T : TypeId) (c : SV)
  | vec (T : TypeId) (w : Nat) (l : List SV)
  | mp (ek ev : ES) (l : List (SV × SV))

def Res.isVec : Res → Bool
  | .vec .. => true
  | _ => false

def Res.isBlk : Res → Bool
  | .blk .. => true
  | _ => false

def ownR (ε : Env) (i : Nat) : Res → Option Nat
  | .dead => none
  | .blk .. => some (ε.blk i)
  | .vec .. => (ε.vv i).ownBlock
  | .mp .. => some (ε.blk i)

def ResOK (ε : Env) (i : Nat) (w : World) : Res → Prop
  | .dead => True
  | .blk T c => ∃ cs : List Value, w.heap[ε.blk i]? = some (.cells cs.toArray T (0, 0)) ∧ SatC c ε cs
  | .vec T wd l => ∃ xs, w.ownsRow 0 T wd (ε.vv i) l.length xs ∧ ∀ j, j < l.length → SatC (l.getD j .junk) ε (sub xs (j * wd) wd)
  | .mp ek ev l => ∃ (es : Array MapEntry) (clock : Nat), w.heap[ε.blk i]? = some (.map es clock) ∧ EntsOK ek ev l es.toList

def memAt (m : List Res) (i : Nat) : Res := m.getD i .dead

structure Good (ε : Env) (m : List Res) (w : World) : Prop where
  n : ε.n = m.length
  res : ∀ i, ResOK ε i w (memAt m i)
  disj : ∀ i j b, i ≠ j → ownR ε i (memAt m i) = some b → ownR ε j (memAt m j) ≠ some b
  sep : ∀ i b, ownR ε i (memAt m i) = some b → ε.H b = none
  hv : ∀ b o, ε.H b = some o → w.heap[b]? = some o

structure Kept (B : Nat → Prop) (ε : Env) (w : World) (ε' : Env) (w' : World) : Prop where
  os : w'.os = w.os
  tape : w'.tape = w.tape
  output : w'.output = w.output
  size : w.heap.size ≤ w'.heap.size
  heap : ∀ b, b < w.heap.size → ¬ B b → w'.heap[b]? = w.heap[b]?
  H : ∀ b o, ε.H b = some o → ε'.H b = some o
  fresh : ∀ b o, ε'.H b = some o → ε.H b = some o ∨ w.heap.size ≤ b ∨ B b

theorem Kept.refl (B : Nat → Prop) (ε : Env) (w : World) : Kept B ε w ε w := ⟨rfl, rfl, rfl, Nat.le_refl _, fun _ _ _ => rfl, fun _ _ h => h, fun _ _ h => .inl h⟩

/-- Where a call began. -/
structure Base where
  w : World
  ε : Env
  B : Nat → Prop

/-- The state in the midst of a call. -/
structure Inv (β : Base) (ε : Env) (m : List Res) (w : World) : Prop where
  good : Good ε m w
  kept : Kept β.B β.ε β.w ε w
  own : ∀ i b, ownR ε i (memAt m i) = some b → β.B b ∨ β.w.heap.size ≤ b
  n : β.ε.n ≤ ε.n
  blk : ∀ i, i < β.ε.n → ε.blk i = β.ε.blk i
  vv : ∀ i, i < β.ε.n → (memAt m i).isBlk = true → ε.vv i = β.ε.vv i

theorem ownR_lt {ε : Env} {m : List Res} {w : World} (g : Good ε m w) {i b : Nat} (h : ownR ε i (memAt m i) = some b) : b < w.heap.size := by
  have hr := g.res i
  cases hm : memAt m i with
  | dead => rw [hm] at h; cases h
  | blk T c =>
    rw [hm] at h hr
    simp only [ownR, Option.some.injEq] at h
    obtain ⟨cs, hc, _⟩ := hr
    subst h
    exact (Array.getElem?_eq_some_iff.1 hc).1
  | vec T wd l =>
    rw [hm] at h hr
    obtain ⟨xs, ho, _⟩ := hr
    exact (ho.lt b h).2
  | mp ek ev l =>
    rw [hm] at h hr
    simp only [ownR, Option.some.injEq] at h
    obtain ⟨es, cl, hc, _⟩ := hr
    subst h
    exact (Array.getElem?_eq_some_iff.1 hc).1

theorem H_lt {ε : Env} {m : List Res} {w : World} (g : Good ε m w) {b : Nat} {o : Obj} (h : ε.H b = some o) : b < w.heap.size :=
  (Array.getElem?_eq_some_iff.1 (g.hv b o h)).1

/-- A world that only grew: all that was good is good. -/
theorem Good.grow {ε ε' : Env} {m : List Res} {w w' : World} (g : Good ε m w) (hl : ε.Le ε') (hn : ε'.n = m.length)
    (hb : ∀ i, i < ε.n → ε'.blk i = ε.blk i) (hvv : ∀ i, i < ε.n → ε'.vv i = ε.vv i)
    (hw : ∀ b, b < w.heap.size → w'.heap[b]? = w.heap[b]?) (hH : ∀ b o, ε'.H b = some o → w'.heap[b]? = some o)
    (hsep : ∀ i b, ownR ε i (memAt m i) = some b → ε'.H b = none) : Good ε' m w' := by
  have hown : ∀ i, ownR ε' i (memAt m i) = ownR ε i (memAt m i) := by
    intro i
    rcases Nat.lt_or_ge i m.length with hi | hi
    · have hi' : i < ε.n := by rw [g.n]; exact hi
      cases hm : memAt m i with
      | dead => rfl
      | blk T c => simp [ownR, hb i hi']
      | vec T wd l => simp [ownR, hvv i hi']
      | mp ek ev l => simp [ownR, hb i hi']
    · have : memAt m i = .dead := by simp [memAt, List.getD, List.getElem?_eq_none hi]
      rw [this]; rfl
  refine ⟨hn, fun i => ?_, fun i j b hij h1 h2 => ?_, fun i b h => ?_, hH⟩
  · have hr := g.res i
    rcases Nat.lt_or_ge i m.length with hi | hi
    · have hi' : i < ε.n := by rw [g.n]; exact hi
      cases hm : memAt m i with
      | dead => trivial
      | blk T c =>
        rw [hm] at hr
        obtain ⟨cs, h1, h2⟩ := hr
        have hlt : ε.blk i < w.heap.size := (Array.getElem?_eq_some_iff.1 h1).1
        exact ⟨cs, by rw [hb i hi', hw _ hlt]; exact h1, h2.mono c hl⟩
      | vec T wd l =>
        rw [hm] at hr
        obtain ⟨xs, h1, h2⟩ := hr
        refine ⟨xs, ?_, fun j hj => (h2 j hj).mono _ hl⟩
        rw [hvv i hi']
        refine ⟨h1.1, ?_⟩
        rcases h1.2 with hx | ⟨gg, cap, cur, e1, e2, e3, e4⟩
        · exact .inl hx
        · exact .inr ⟨gg, cap, cur, e1, e2, by rw [hw _ (Array.getElem?_eq_some_iff.1 e3).1]; exact e3, e4⟩
      | mp ek ev l =>
        rw [hm] at hr
        obtain ⟨es, cl, h1, h2⟩ := hr
        exact ⟨es, cl, by rw [hb i hi', hw _ (Array.getElem?_eq_some_iff.1 h1).1]; exact h1, h2⟩
    · have : memAt m i = .dead := by simp [memAt, List.getD, List.getElem?_eq_none hi]
      rw [this]; trivial
  · rw [hown] at h1 h2; exact g.disj i j b hij h1 h2
  · rw [hown] at h; exact hsep i b h

/-- A draw turns nothing. -/
theorem Inv.drew {β : Base} {ε : Env} {m : List Res} {w : World} (h : Inv β ε m w) : Inv β ε m { w with drawn := w.drawn + 1 } :=
  ⟨h.good.grow (Env.Le.refl _) h.good.n (fun _ _ => rfl) (fun _ _ => rfl) (fun _ _ => rfl) h.good.hv h.good.sep,
   ⟨h.kept.os, h.kept.tape, h.kept.output, h.kept.size, h.kept.heap, h.kept.H, h.kept.fresh⟩, h.own, h.n, h.blk, h.vv⟩

/-- The environment with one thing more. -/
def Env.more (ε : Env) (b : Nat) (v : Value) : Env := { ε with n := ε.n + 1, blk := fun i => if i = ε.n then b else ε.blk i, vv := fun i => if i = ε.n then v else ε.vv i }

theorem Env.le_more (ε : Env) (b : Nat) (v : Value) : ε.Le (ε.more b v) :=
  ⟨Nat.le_succ _, fun i hi => by simp [Env.more, Nat.ne_of_lt hi], fun i hi => by simp [Env.more, Nat.ne_of_lt hi], fun _ _ h => h⟩

theorem memAt_append_lt {m : List Res} {r : List Res} {i : Nat} (h : i < m.length) : memAt (m ++ r) i = memAt m i := by
  simp [memAt, List.getD, List.getElem?_append_left h]

theorem memAt_snoc {m : List Res} {r : Res} : memAt (m ++ [r]) m.length = r := by simp [memAt]

theorem memAt_ge {m : List Res} {i : Nat} (h : m.length ≤ i) : memAt m i = .dead := by simp [memAt, List.getD, List.getElem?_eq_none h]

/-- A new block of cells becomes the call's own. -/
theorem Inv.alloc {β : Base} {ε : Env} {m : List Res} {w : World} (h : Inv β ε m w) {T : TypeId} {c : SV} {cs : List Value} (hc : SatC c ε cs) :
    Inv β (ε.more w.heap.size undef) (m ++ [.blk T c]) (w.alloc (.cells cs.toArray T)) := by
  have hn := h.good.n
  have hw : ∀ b, b < w.heap.size → (w.alloc (.cells cs.toArray T)).heap[b]? = w.heap[b]? := fun b hb => Go.RowKit.Below.heap_alloc w _ b hb
  have hle := ε.le_more w.heap.size undef
  have hown : ∀ i, i < m.length → ownR (ε.more w.heap.size undef) i (memAt (m ++ [.blk T c]) i) = ownR ε i (memAt m i) := by
    intro i hi
    rw [memAt_append_lt hi]
    have hi' : i < ε.n := by omega
    cases memAt m i <;> simp [ownR, Env.more, Nat.ne_of_lt hi']
  have hnew : ownR (ε.more w.heap.size undef) m.length (memAt (m ++ [.blk T c]) m.length) = some w.heap.size := by
    rw [memAt_snoc]; simp [ownR, Env.more, hn]
  have hcase : ∀ i b, ownR (ε.more w.heap.size undef) i (memAt (m ++ [.blk T c]) i) = some b → (i < m.length ∧ ownR ε i (memAt m i) = some b) ∨ (i = m.length ∧ b = w.heap.size) := by
    intro i b hb
    rcases Nat.lt_trichotomy i m.length with hi | hi | hi
    · rw [hown i hi] at hb; exact .inl ⟨hi, hb⟩
    · subst hi; rw [hnew] at hb; exact .inr ⟨rfl, (Option.some.inj hb).symm⟩
    · rw [memAt_ge (by simp; omega)] at hb; cases hb
  refine ⟨⟨by simp [Env.more, hn], fun i => ?_, fun i j b hij h1 h2 => ?_, fun i b hb => ?_, fun b o hb => ?_⟩, ⟨h.kept.os, h.kept.tape, h.kept.output, ?_, ?_, h.kept.H, h.kept.fresh⟩, fun i b hb => ?_, ?_, fun i hi => ?_, fun i hi hv => ?_⟩
  · rcases Nat.lt_trichotomy i m.length with hi | hi | hi
    · rw [memAt_append_lt hi]
      have hi' : i < ε.n := by omega
      have hr := h.good.res i
      cases hm : memAt m i with
      | dead => trivial
      | blk T' c' =>
        rw [hm] at hr
        obtain ⟨cs', h1, h2⟩ := hr
        have hb : (ε.more w.heap.size undef).blk i = ε.blk i := by simp [Env.more, Nat.ne_of_lt hi']
        exact ⟨cs', by rw [hb, hw _ (Array.getElem?_eq_some_iff.1 h1).1]; exact h1, h2.mono c' hle⟩
      | vec T' wd l =>
        rw [hm] at hr
        obtain ⟨xs, h1, h2⟩ := hr
        have hb : (ε.more w.heap.size undef).vv i = ε.vv i := by simp [Env.more, Nat.ne_of_lt hi']
        refine ⟨xs, ?_, fun j hj => (h2 j hj).mono _ hle⟩
        rw [hb]
        exact h1.alloc _
      | mp ek ev l =>
        rw [hm] at hr
        obtain ⟨es, cl, h1, h2⟩ := hr
        have hb : (ε.more w.heap.size undef).blk i = ε.blk i := by simp [Env.more, Nat.ne_of_lt hi']
        exact ⟨es, cl, by rw [hb, hw _ (Array.getElem?_eq_some_iff.1 h1).1]; exact h1, h2⟩
    · subst hi
      rw [memAt_snoc]
      refine ⟨cs, ?_, hc.mono c hle⟩
      have : (ε.more w.heap.size undef).blk m.length = w.heap.size := by simp [Env.more, hn]
      rw [this]
      exact heap_alloc_new w _
    · rw [memAt_ge (by simp; omega)]; trivial
  · rcases hcase i b h1 with ⟨hi, h1'⟩ | ⟨hi, hb⟩ <;> rcases hcase j b h2 with ⟨hj, h2'⟩ | ⟨hj, hb2⟩
    · exact h.good.disj i j b hij h1' h2'
    · have := ownR_lt h.good h1'; omega
    · have := ownR_lt h.good h2'; omega
    · omega
  · rcases hcase i b hb with ⟨_, h1⟩ | ⟨_, h1⟩
    · exact h.good.sep i b h1
    · subst h1
      cases hh : ε.H w.heap.size with
      | none => exact hh
      | some o => have := H_lt h.good hh; omega
  · rw [hw b (H_lt h.good hb)]; exact h.good.hv b o hb
  · have := h.kept.size; simp; omega
  · intro b hb hB; rw [hw b (Nat.lt_of_lt_of_le hb h.kept.size)]; exact h.kept.heap b hb hB
  · rcases hcase i b hb with ⟨_, h1⟩ | ⟨_, h1⟩
    · exact h.own i b h1
    · right; have := h.kept.size; omega
  · have := h.n; simp [Env.more]; omega
  · have := h.n
    have e := h.blk i hi
    simp [Env.more]
    rw [if_neg (by omega)]; exact e
  · have hn' := h.n
    rw [memAt_append_lt (by omega)] at hv
    have e := h.vv i hi hv
    simp [Env.more]
    rw [if_neg (by omega)]; exact e

/-- A block of the call's own is written. -/
theorem Inv.setBlk {β : Base} {ε : Env} {m : List Res} {w : World} (h : Inv β ε m w) {i : Nat} {T : TypeId} {c c' : SV} {cs' : List Value}
    (hm : memAt m i = .blk T c) (hc : SatC c' ε cs') :
    Inv β ε (m.set i (.blk T c')) (w.setRow (ε.blk i) cs'.toArray) := by
  have hi : i < m.length := by
    rcases Nat.lt_or_ge i m.length with hi | hi
    · exact hi
    · rw [memAt_ge hi] at hm; cases hm
  obtain ⟨cs, hcell, _⟩ : ResOK ε i w (.blk T c) := hm ▸ h.good.res i
  have hat : ∀ j, memAt (m.set i (.blk T c')) j = if j = i then .blk T c' else memAt m j := by
    intro j
    unfold memAt
    rw [List.getD, List.getElem?_set]
    by_cases hj : i = j
    · subst hj; simp [hi]
    · rw [if_neg hj, if_neg (fun e => hj e.symm)]; rfl
  have hown : ∀ j, ownR ε j (memAt (m.set i (.blk T c')) j) = ownR ε j (memAt m j) := by
    intro j
    rw [hat]
    by_cases hj : j = i
    · subst hj; rw [if_pos rfl, hm]; rfl
    · rw [if_neg hj]
  have hoi : ownR ε i (memAt m i) = some (ε.blk i) := by rw [hm]; rfl
  have hoth : ∀ b, b ≠ ε.blk i → (w.setRow (ε.blk i) cs'.toArray).heap[b]? = w.heap[b]? := fun b hb => setRow_other w _ b _ hb
  have hsz : (w.setRow (ε.blk i) cs'.toArray).heap.size = w.heap.size := by simp [World.setRow]
  refine ⟨⟨by simp [h.good.n], fun j => ?_, fun a b x hab h1 h2 => ?_, fun a b hb => ?_, fun b o hb => ?_⟩, ⟨h.kept.os, h.kept.tape, h.kept.output, ?_, ?_, h.kept.H, h.kept.fresh⟩, fun a b hb => ?_, h.n, h.blk, fun j hj hv => h.vv j hj ?_⟩
  · rw [hat]
    by_cases hj : j = i
    · subst hj
      rw [if_pos rfl]
      exact ⟨cs', setRow_heap w _ _ _ T _ hcell, hc⟩
    · rw [if_neg hj]
      have hr := h.good.res j
      cases hmj : memAt m j with
      | dead => trivial
      | blk T' c'' =>
        rw [hmj] at hr
        obtain ⟨cs'', h1, h2⟩ := hr
        refine ⟨cs'', ?_, h2⟩
        rw [hoth _ (fun e => h.good.disj j i (ε.blk j) hj (by rw [hmj]; rfl) (by rw [hoi, e]))]
        exact h1
      | vec T' wd l =>
        rw [hmj] at hr
        obtain ⟨xs, h1, h2⟩ := hr
        refine ⟨xs, ?_, h2⟩
        refine ⟨h1.1, ?_⟩
        rcases h1.2 with hx | ⟨gg, cap, cur, e1, e2, e3, e4⟩
        · exact .inl hx
        · refine .inr ⟨gg, cap, cur, e1, e2, ?_, e4⟩
          rw [hoth _ (fun e => h.good.disj j i gg hj (by rw [hmj]; simp [ownR, e1, Value.ownBlock]) (by rw [hoi, e]))]
          exact e3
      | mp ek ev l =>
        rw [hmj] at hr
        obtain ⟨es, cl, h1, h2⟩ := hr
        refine ⟨es, cl, ?_, h2⟩
        rw [hoth _ (fun e => h.good.disj j i (ε.blk j) hj (by rw [hmj]; rfl) (by rw [hoi, e]))]
        exact h1
  · rw [hown] at h1 h2; exact h.good.disj a b x hab h1 h2
  · rw [hown] at hb; exact h.good.sep a b hb
  · rw [hoth b (fun e => by have := h.good.sep i _ hoi; rw [e] at hb; rw [this] at hb; cases hb)]; exact h.good.hv b o hb
  · rw [hsz]; exact h.kept.size
  · intro b hb hB
    rw [hoth b (fun e => ?_)]
    · exact h.kept.heap b hb hB
    · rcases h.own i _ hoi with h' | h'
      · rw [e] at hB; exact hB h'
      · omega
  · rw [hown] at hb; exact h.own a b hb
  · rw [hat] at hv
    by_cases hji : j = i
    · subst hji; rw [hm]; rfl
    · rwa [if_neg hji] at hv

end Go.Sx
