import Derived.WalkKit
import Derived.Orders
/-! Sx, part 1: symbolic values, what they stand for, and how that is kept. -/
set_option linter.unusedSimpArgs false
set_option linter.unusedVariables false
namespace Go.Sx
open Go

inductive Step where
  | fld (k : Nat)
  | idx (i n : Nat)

inductive SV : Type 1 where
  | int (k : IntKind) (n : Int)
  | bool (b : Bool)
  | str (s : List UInt8)
  | arr (n w : Nat) (f : Nat → SV)
  | agg (l : List SV)
  | tup (l : List SV)
  | lst {τ : Type} (w : Nat) (d : τ) (f : τ → SV) (l : List τ)
  | lit {τ : Type} (w : Nat) (d : τ) (f : τ → SV) (l : List τ)
  | eptr {τ : Type} (w : Nat) (d : τ) (f : τ → SV) (l : List τ) (i : Nat) (p : List Step) (off : Nat)
  | ref (c : SV) (p : List Step) (off : Nat)
  | ptr (i : Nat) (p : List Step) (off : Nat)
  | vec (i n : Nat)
  | vptr (i j : Nat) (p : List Step) (off : Nat)
  | pvec (i n : Nat)
  | map (i : Nat)
  | fn (f : FuncId) (cap : List SV)
  | iface (t : TypeId) (x : SV)
  | nils
  | nili
  | nilf
  | nilp
  | nilm
  | anyb
  | raw (v : Value)
  | junk

structure Env where
  n : Nat
  blk : Nat → Nat
  vv : Nat → Value
  H : Nat → Option Obj

def Env.cl (ε : Env) : Env := { ε with n := 0 }

def SV.isAgg : SV → Bool
  | .arr .. | .agg _ => true
  | _ => false

def boxed (isAgg : Bool) (cs : List Value) : Value := if isAgg then .agg cs.toArray else cs.headD undef

def sub (cs : List Value) (a n : Nat) : List Value := (cs.drop a).take n

def pathOk : List Step → Prop
  | [] => True
  | .fld _ :: p => pathOk p
  | .idx i n :: p => i < n ∧ pathOk p

mutual
def SatC : SV → Env → List Value → Prop
  | .int k n, _, cs => cs = [.int k n]
  | .bool b, _, cs => cs = [.bool b]
  | .str s, _, cs => cs = [.string ⟨s.toArray⟩]
  | .arr n w f, ε, cs => cs.length = n * w ∧ ∀ i, i < n → SatC (f i) ε (sub cs (i * w) w)
  | .agg l, ε, cs => SatL l ε cs
  | .tup _, _, _ => False
  | .lst w d f l, ε, cs => ∃ ao cap, cs = [.slice ao l.length cap] ∧ l.length ≤ cap ∧ cap ≤ maxLen ∧ (ao = none → cap = 0) ∧
      ∀ i, i < l.length → ∃ b off T fz cur, ao = some ⟨b, off, none⟩ ∧ ε.H b = some (.cells cur T fz) ∧ off + i * w + w ≤ cur.size ∧
        SatC (f (l.getD i d)) ε.cl (sub cur.toList (off + i * w) w)
  | .lit w d f l, ε, cs => ∃ ao, cs = [.slice ao l.length l.length] ∧ l.length ≤ maxLen ∧ (ao = none → l.length = 0) ∧
      ∀ i, i < l.length → ∃ b off T fz cur, ao = some ⟨b, off, none⟩ ∧ ε.H b = some (.cells cur T fz) ∧ off + i * w + w ≤ cur.size ∧
        SatC (f (l.getD i d)) ε.cl (sub cur.toList (off + i * w) w)
  | .eptr w d f l i p o, ε, cs => ∃ b off T fz cur, cs = [.pointer (some ⟨b, off + i * w + o, none⟩)] ∧ i < l.length ∧ ε.H b = some (.cells cur T fz) ∧ pathOk p ∧
        off + i * w + w ≤ cur.size ∧ SatC (f (l.getD i d)) ε.cl (sub cur.toList (off + i * w) w)
  | .ref c p o, ε, cs => ∃ b T fz cur, cs = [.pointer (some ⟨b, o, none⟩)] ∧ ε.H b = some (.cells cur T fz) ∧ pathOk p ∧ SatC c ε.cl cur.toList
  | .ptr i p o, ε, cs => i < ε.n ∧ pathOk p ∧ cs = [.pointer (some ⟨ε.blk i, o, none⟩)]
  | .vec i n, ε, cs => i < ε.n ∧ (ε.vv i = .slice none 0 0 ∧ n = 0 ∨ ∃ b cap, ε.vv i = .slice (some ⟨b, 0, none⟩) n cap ∧ n ≤ cap) ∧ cs = [ε.vv i]
  | .pvec i n, ε, cs => i < ε.n ∧ ∃ ao n0 cap, ε.vv i = .slice ao n0 cap ∧ n ≤ n0 ∧ cs = [.slice ao n cap]
  | .vptr i j p o, ε, cs => i < ε.n ∧ pathOk p ∧ ∃ b cap n, ε.vv i = .slice (some ⟨b, 0, none⟩) n cap ∧ j < n ∧ cs = [.pointer (some ⟨b, o, none⟩)]
  | .map i, ε, cs => i < ε.n ∧ cs = [.map (some (ε.blk i))]
  | .fn f cap, ε, cs => ∃ vs, SatA cap ε vs ∧ cs = [.func (.func f) #[] vs.toArray]
  | .iface t x, ε, cs => ∃ xs, SatC x ε xs ∧ cs = [.iface t (boxed x.isAgg xs)]
  | .nils, _, cs => cs = [.slice none 0 0]
  | .nili, _, cs => cs = [.nilIface]
  | .nilf, _, cs => cs = [.nilFunc]
  | .nilp, _, cs => cs = [.pointer none]
  | .nilm, _, cs => cs = [.map none]
  | .anyb, _, cs => ∃ b : Bool, cs = [.bool b]
  | .raw v, _, cs => v.oneCell' = true ∧ cs = [v]
  | .junk, _, cs => ∃ v : Value, v.oneCell' = true ∧ cs = [v]
def SatL : List SV → Env → List Value → Prop
  | [], _, cs => cs = []
  | x :: r, ε, cs => ∃ a b, cs = a ++ b ∧ SatC x ε a ∧ SatL r ε b
def SatA : List SV → Env → List Value → Prop
  | [], _, vs => vs = []
  | x :: r, ε, vs => ∃ cs t, vs = boxed x.isAgg cs :: t ∧ SatC x ε cs ∧ SatA r ε t
end

def SatV (ε : Env) (x : SV) (v : Value) : Prop :=
  match x with
  | .tup l => ∃ vs, SatA l ε vs ∧ v = .tuple vs.toArray
  | .junk => True
  | x => ∃ cs, SatC x ε cs ∧ v = boxed x.isAgg cs

structure Env.Le (ε ε' : Env) : Prop where
  n : ε.n ≤ ε'.n
  blk : ∀ i, i < ε.n → ε'.blk i = ε.blk i
  vv : ∀ i, i < ε.n → ε'.vv i = ε.vv i
  H : ∀ b o, ε.H b = some o → ε'.H b = some o

theorem Env.Le.refl (ε : Env) : ε.Le ε := ⟨Nat.le_refl _, fun _ _ => rfl, fun _ _ => rfl, fun _ _ h => h⟩
theorem Env.Le.trans {a b c : Env} (h : a.Le b) (k : b.Le c) : a.Le c :=
  ⟨Nat.le_trans h.n k.n, fun i hi => (k.blk i (Nat.lt_of_lt_of_le hi h.n)).trans (h.blk i hi), fun i hi => (k.vv i (Nat.lt_of_lt_of_le hi h.n)).trans (h.vv i hi), fun b o h' => k.H b o (h.H b o h')⟩
theorem Env.Le.cl {ε ε' : Env} (h : ε.Le ε') : ε.cl.Le ε'.cl := ⟨Nat.le_refl _, fun _ hi => absurd hi (Nat.not_lt_zero _), fun _ hi => absurd hi (Nat.not_lt_zero _), h.H⟩

mutual
theorem SatC.mono : ∀ (c : SV) {ε ε' : Env} {cs : List Value}, ε.Le ε' → SatC c ε cs → SatC c ε' cs
  | .int .., _, _, _, _, h => h
  | .bool .., _, _, _, _, h => h
  | .str .., _, _, _, _, h => h
  | .arr n w f, _, _, _, hl, h => by
    simp only [SatC] at h ⊢
    exact ⟨h.1, fun i hi => SatC.mono (f i) hl (h.2 i hi)⟩
  | .agg l, _, _, _, hl, h => by simp only [SatC] at h ⊢; exact SatL.mono l hl h
  | .tup _, _, _, _, _, h => h
  | .lst w d f l, _, _, _, hl, h => by
    simp only [SatC] at h ⊢
    obtain ⟨ao, cap, h1, h2, h3, h4, h5⟩ := h
    refine ⟨ao, cap, h1, h2, h3, h4, fun i hi => ?_⟩
    obtain ⟨b, off, T, fz, cur, e1, e2, e3, e4⟩ := h5 i hi
    exact ⟨b, off, T, fz, cur, e1, hl.H _ _ e2, e3, SatC.mono (f (l.getD i d)) hl.cl e4⟩
  | .lit w d f l, _, _, _, hl, h => by
    simp only [SatC] at h ⊢
    obtain ⟨ao, h1, h3, h4, h5⟩ := h
    refine ⟨ao, h1, h3, h4, fun i hi => ?_⟩
    obtain ⟨b, off, T, fz, cur, e1, e2, e3, e4⟩ := h5 i hi
    exact ⟨b, off, T, fz, cur, e1, hl.H _ _ e2, e3, SatC.mono (f (l.getD i d)) hl.cl e4⟩
  | .eptr w d f l i p o, _, _, _, hl, h => by
    simp only [SatC] at h ⊢
    obtain ⟨b, off, T, fz, cur, h1, h2, h3, h4, h5, h6⟩ := h
    exact ⟨b, off, T, fz, cur, h1, h2, hl.H _ _ h3, h4, h5, SatC.mono (f (l.getD i d)) hl.cl h6⟩
  | .ref c p o, _, _, _, hl, h => by
    simp only [SatC] at h ⊢
    obtain ⟨b, T, fz, cur, h1, h2, h3, h4⟩ := h
    exact ⟨b, T, fz, cur, h1, hl.H _ _ h2, h3, SatC.mono c hl.cl h4⟩
  | .ptr i p o, _, _, _, hl, h => by
    simp only [SatC] at h ⊢
    exact ⟨Nat.lt_of_lt_of_le h.1 hl.n, h.2.1, by rw [hl.blk i h.1]; exact h.2.2⟩
  | .vec i n, _, _, _, hl, h => by
    simp only [SatC] at h ⊢
    exact ⟨Nat.lt_of_lt_of_le h.1 hl.n, by rw [hl.vv i h.1]; exact h.2⟩
  | .pvec i n, _, _, _, hl, h => by
    simp only [SatC] at h ⊢
    exact ⟨Nat.lt_of_lt_of_le h.1 hl.n, by rw [hl.vv i h.1]; exact h.2⟩
  | .vptr i j p o, _, _, _, hl, h => by
    simp only [SatC] at h ⊢
    exact ⟨Nat.lt_of_lt_of_le h.1 hl.n, h.2.1, by rw [hl.vv i h.1]; exact h.2.2⟩
  | .map i, _, _, _, hl, h => by
    simp only [SatC] at h ⊢
    exact ⟨Nat.lt_of_lt_of_le h.1 hl.n, by rw [hl.blk i h.1]; exact h.2⟩
  | .fn f cap, _, _, _, hl, h => by
    simp only [SatC] at h ⊢
    obtain ⟨vs, h1, h2⟩ := h
    exact ⟨vs, SatA.mono cap hl h1, h2⟩
  | .iface t x, _, _, _, hl, h => by
    simp only [SatC] at h ⊢
    obtain ⟨xs, h1, h2⟩ := h
    exact ⟨xs, SatC.mono x hl h1, h2⟩
  | .nils, _, _, _, _, h => h
  | .nili, _, _, _, _, h => h
  | .nilf, _, _, _, _, h => h
  | .nilp, _, _, _, _, h => h
  | .nilm, _, _, _, _, h => h
  | .anyb, _, _, _, _, h => h
  | .raw _, _, _, _, _, h => h
  | .junk, _, _, _, _, h => h
theorem SatL.mono : ∀ (l : List SV) {ε ε' : Env} {cs : List Value}, ε.Le ε' → SatL l ε cs → SatL l ε' cs
  | [], _, _, _, _, h => h
  | x :: r, _, _, _, hl, h => by
    simp only [SatL] at h ⊢
    obtain ⟨a, b, h1, h2, h3⟩ := h
    exact ⟨a, b, h1, SatC.mono x hl h2, SatL.mono r hl h3⟩
theorem SatA.mono : ∀ (l : List SV) {ε ε' : Env} {vs : List Value}, ε.Le ε' → SatA l ε vs → SatA l ε' vs
  | [], _, _, _, _, h => h
  | x :: r, _, _, _, hl, h => by
    simp only [SatA] at h ⊢
    obtain ⟨cs, t, h1, h2, h3⟩ := h
    exact ⟨cs, t, h1, SatC.mono x hl h2, SatA.mono r hl h3⟩
end

theorem SatV.mono {x : SV} {ε ε' : Env} {v : Value} (hl : ε.Le ε') (h : SatV ε x v) : SatV ε' x v := by
  cases x
  case tup l => obtain ⟨vs, h1, h2⟩ := h; exact ⟨vs, SatA.mono l hl h1, h2⟩
  case junk => trivial
  all_goals (obtain ⟨cs, h1, h2⟩ := h; exact ⟨cs, SatC.mono _ hl h1, h2⟩)

end Go.Sx
/-! Sx, part 2: paths into what a block holds. -/
set_option linter.unusedSimpArgs false
set_option linter.unusedVariables false
namespace Go.Sx
open Go

mutual
def wd : SV → Nat
  | .arr n w _ => n * w
  | .agg l => wds l
  | _ => 1
def wds : List SV → Nat
  | [] => 0
  | x :: r => wd x + wds r
end

theorem sub_length {cs : List Value} {a n : Nat} (h : a + n ≤ cs.length) : (sub cs a n).length = n := by
  simp [sub]; omega

theorem mul_le_len {i n w : Nat} (h : i < n) : i * w + w ≤ n * w := by
  have : (i + 1) * w ≤ n * w := Nat.mul_le_mul_right _ h
  rw [Nat.add_mul] at this; omega

mutual
theorem SatC.length : ∀ (c : SV) {ε : Env} {cs : List Value}, SatC c ε cs → cs.length = wd c
  | .arr n w f, _, _, h => by simp only [SatC] at h; simp only [wd]; exact h.1
  | .agg l, _, _, h => by simp only [SatC] at h; simp only [wd]; exact SatL.length l h
  | .tup _, _, _, h => by simp only [SatC] at h
  | .int .., _, _, h => by simp only [SatC] at h; subst h; rfl
  | .bool .., _, _, h => by simp only [SatC] at h; subst h; rfl
  | .str .., _, _, h => by simp only [SatC] at h; subst h; rfl
  | .lst .., _, _, h => by simp only [SatC] at h; obtain ⟨_, _, h, _⟩ := h; subst h; rfl
  | .lit .., _, _, h => by simp only [SatC] at h; obtain ⟨_, h, _⟩ := h; subst h; rfl
  | .eptr .., _, _, h => by simp only [SatC] at h; obtain ⟨_, _, _, _, _, h, _⟩ := h; subst h; rfl
  | .ref .., _, _, h => by simp only [SatC] at h; obtain ⟨_, _, _, _, h, _⟩ := h; subst h; rfl
  | .ptr .., _, _, h => by simp only [SatC] at h; obtain ⟨_, _, h⟩ := h; subst h; rfl
  | .vec .., _, _, h => by simp only [SatC] at h; obtain ⟨_, _, h⟩ := h; subst h; rfl
  | .vptr .., _, _, h => by simp only [SatC] at h; obtain ⟨_, _, _, _, _, _, _, h⟩ := h; subst h; rfl
  | .pvec .., _, _, h => by simp only [SatC] at h; obtain ⟨_, _, _, _, _, _, h⟩ := h; subst h; rfl
  | .map .., _, _, h => by simp only [SatC] at h; obtain ⟨_, h⟩ := h; subst h; rfl
  | .fn .., _, _, h => by simp only [SatC] at h; obtain ⟨_, _, h⟩ := h; subst h; rfl
  | .iface .., _, _, h => by simp only [SatC] at h; obtain ⟨_, _, h⟩ := h; subst h; rfl
  | .nils, _, _, h => by simp only [SatC] at h; subst h; rfl
  | .nili, _, _, h => by simp only [SatC] at h; subst h; rfl
  | .nilf, _, _, h => by simp only [SatC] at h; subst h; rfl
  | .nilp, _, _, h => by simp only [SatC] at h; subst h; rfl
  | .nilm, _, _, h => by simp only [SatC] at h; subst h; rfl
  | .anyb, _, _, h => by simp only [SatC] at h; obtain ⟨_, h⟩ := h; subst h; rfl
  | .raw .., _, _, h => by simp only [SatC] at h; obtain ⟨_, h⟩ := h; subst h; rfl
  | .junk, _, _, h => by simp only [SatC] at h; obtain ⟨_, _, h⟩ := h; subst h; rfl
theorem SatL.length : ∀ (l : List SV) {ε : Env} {cs : List Value}, SatL l ε cs → cs.length = wds l
  | [], _, _, h => by simp only [SatL] at h; subst h; rfl
  | x :: r, _, _, h => by
    simp only [SatL] at h
    obtain ⟨a, b, h1, h2, h3⟩ := h
    have e1 := SatC.length x h2
    have e2 := SatL.length r h3
    subst h1
    simp [wds, e1, e2]
end

theorem sub_get {cs : List Value} {a n j : Nat} : (sub cs a n)[j]? = if j < n then cs[a + j]? else none := by
  unfold sub
  rw [List.getElem?_take]
  split
  · rw [List.getElem?_drop]
  · rfl

theorem mem_pieces {n w : Nat} {cs : List Value} (hl : cs.length = n * w) {u : Value} (hu : u ∈ cs) : ∃ i, i < n ∧ u ∈ sub cs (i * w) w := by
  obtain ⟨j, hj, rfl⟩ := List.getElem_of_mem hu
  have hw : 0 < w := by
    rcases Nat.eq_zero_or_pos w with h | h
    · subst h; simp at hl; subst hl; simp at hj
    · exact h
  refine ⟨j / w, ?_, ?_⟩
  · rw [hl] at hj; exact Nat.div_lt_of_lt_mul (by rwa [Nat.mul_comm] at hj)
  · apply List.mem_of_getElem? (i := j % w)
    rw [sub_get, if_pos (Nat.mod_lt _ hw)]
    rw [Nat.mul_comm, Nat.div_add_mod]
    exact List.getElem?_eq_getElem hj

mutual
theorem SatC.one : ∀ (c : SV) {ε : Env} {cs : List Value}, SatC c ε cs → ∀ u ∈ cs, u.oneCell' = true
  | .arr n w f, _, cs, h => by
    simp only [SatC] at h
    intro u hu
    obtain ⟨i, hi, hm⟩ := mem_pieces h.1 hu
    exact SatC.one (f i) (h.2 i hi) u hm
  | .agg l, _, _, h => by simp only [SatC] at h; exact SatL.one l h
  | .tup _, _, _, h => by simp only [SatC] at h
  | .int .., _, _, h => by simp only [SatC] at h; subst h; simp [Value.oneCell']
  | .bool .., _, _, h => by simp only [SatC] at h; subst h; simp [Value.oneCell']
  | .str .., _, _, h => by simp only [SatC] at h; subst h; simp [Value.oneCell']
  | .lst .., _, _, h => by simp only [SatC] at h; obtain ⟨_, _, h, _⟩ := h; subst h; simp [Value.oneCell']
  | .lit .., _, _, h => by simp only [SatC] at h; obtain ⟨_, h, _⟩ := h; subst h; simp [Value.oneCell']
  | .eptr .., _, _, h => by simp only [SatC] at h; obtain ⟨_, _, _, _, _, h, _⟩ := h; subst h; simp [Value.oneCell']
  | .ref .., _, _, h => by simp only [SatC] at h; obtain ⟨_, _, _, _, h, _⟩ := h; subst h; simp [Value.oneCell']
  | .ptr .., _, _, h => by simp only [SatC] at h; obtain ⟨_, _, h⟩ := h; subst h; simp [Value.oneCell']
  | .vec .., _, _, h => by
    simp only [SatC] at h
    obtain ⟨_, e, h⟩ := h
    subst h
    rcases e with ⟨e, _⟩ | ⟨b, cap, e⟩ <;> simp [e, Value.oneCell']
  | .vptr .., _, _, h => by simp only [SatC] at h; obtain ⟨_, _, _, _, _, _, _, h⟩ := h; subst h; simp [Value.oneCell']
  | .pvec .., _, _, h => by simp only [SatC] at h; obtain ⟨_, _, _, _, _, _, h⟩ := h; subst h; simp [Value.oneCell']
  | .map .., _, _, h => by simp only [SatC] at h; obtain ⟨_, h⟩ := h; subst h; simp [Value.oneCell']
  | .fn .., _, _, h => by simp only [SatC] at h; obtain ⟨_, _, h⟩ := h; subst h; simp [Value.oneCell']
  | .iface .., _, _, h => by simp only [SatC] at h; obtain ⟨_, _, h⟩ := h; subst h; simp [Value.oneCell']
  | .nils, _, _, h => by simp only [SatC] at h; subst h; simp [Value.oneCell']
  | .nili, _, _, h => by simp only [SatC] at h; subst h; simp [Value.oneCell']
  | .nilf, _, _, h => by simp only [SatC] at h; subst h; simp [Value.oneCell']
  | .nilp, _, _, h => by simp only [SatC] at h; subst h; simp [Value.oneCell']
  | .nilm, _, _, h => by simp only [SatC] at h; subst h; simp [Value.oneCell']
  | .anyb, _, _, h => by simp only [SatC] at h; obtain ⟨_, h⟩ := h; subst h; simp [Value.oneCell']
  | .raw .., _, _, h => by simp only [SatC] at h; obtain ⟨e, h⟩ := h; subst h; simpa using e
  | .junk, _, _, h => by simp only [SatC] at h; obtain ⟨_, e, h⟩ := h; subst h; simpa using e
theorem SatL.one : ∀ (l : List SV) {ε : Env} {cs : List Value}, SatL l ε cs → ∀ u ∈ cs, u.oneCell' = true
  | [], _, _, h => by simp only [SatL] at h; subst h; simp
  | x :: r, _, _, h => by
    simp only [SatL] at h
    obtain ⟨a, b, h1, h2, h3⟩ := h
    subst h1
    intro u hu
    rcases List.mem_append.1 hu with hu | hu
    · exact SatC.one x h2 u hu
    · exact SatL.one r h3 u hu
end

def updS (f : Nat → SV) (i : Nat) (x : SV) : Nat → SV := fun j => if j = i then x else f j

def getP : SV → List Step → SV
  | c, [] => c
  | .agg l, .fld k :: p => getP (l.getD k .junk) p
  | .arr _ _ f, .idx i _ :: p => getP (f i) p
  | _, _ :: _ => .junk

def setP : SV → List Step → SV → SV
  | _, [], x => x
  | .agg l, .fld k :: p, x => .agg (l.set k (setP (l.getD k .junk) p x))
  | .arr n w f, .idx i _ :: p, x => .arr n w (updS f i (setP (f i) p x))
  | c, _ :: _, _ => c

def atP : SV → List Step → Nat → Nat → Prop
  | _, [], acc, o => o = acc
  | .agg l, .fld k :: p, acc, o => k < l.length ∧ atP (l.getD k .junk) p (acc + wds (l.take k)) o
  | .arr n w f, .idx i n' :: p, acc, o => n' = n ∧ atP (f i) p (acc + i * w) o
  | _, _ :: _, _, _ => False

theorem SatL.nth : ∀ (l : List SV) (k : Nat) {ε : Env} {cs : List Value}, SatL l ε cs → k < l.length →
    SatC (l.getD k .junk) ε (sub cs (wds (l.take k)) (wd (l.getD k .junk))) ∧ wds (l.take k) + wd (l.getD k .junk) ≤ cs.length
  | [], k, _, _, _, hk => absurd hk (Nat.not_lt_zero _)
  | x :: r, 0, ε, cs, h, _ => by
    simp only [SatL] at h
    obtain ⟨a, b, h1, h2, h3⟩ := h
    have e1 := SatC.length x h2
    subst h1
    simp only [List.take_zero, wds, List.getD_cons_zero, sub, List.drop_zero, ← e1, List.take_left]
    exact ⟨h2, by simp⟩
  | x :: r, k + 1, ε, cs, h, hk => by
    simp only [SatL] at h
    obtain ⟨a, b, h1, h2, h3⟩ := h
    have e1 := SatC.length x h2
    obtain ⟨i1, i2⟩ := SatL.nth r k h3 (by simpa using hk)
    subst h1
    simp only [List.take_succ_cons, wds, List.getD_cons_succ]
    refine ⟨?_, by rw [List.length_append]; omega⟩
    unfold sub at i1 ⊢
    rw [← e1, List.drop_append, List.drop_of_length_le (by omega)]
    simpa using i1

theorem sub_sub {cs : List Value} {a n b m : Nat} (h : b + m ≤ n) : sub (sub cs a n) b m = sub cs (a + b) m := by
  simp only [sub, List.drop_take, List.drop_drop, List.take_take]
  rw [Nat.min_eq_left (by omega)]

theorem SatC.get : ∀ (p : List Step) (c : SV) {ε : Env} {cs : List Value} (acc o : Nat), SatC c ε cs → pathOk p → atP c p acc o →
    acc ≤ o ∧ SatC (getP c p) ε (sub cs (o - acc) (wd (getP c p))) ∧ (o - acc) + wd (getP c p) ≤ cs.length
  | [], c, ε, cs, acc, o, h, _, ho => by
    have e := SatC.length c h
    simp only [atP] at ho; subst ho
    cases c <;> simp only [getP] <;> refine ⟨Nat.le_refl _, ?_, ?_⟩ <;> first
      | (simp only [Nat.sub_self, sub, List.drop_zero, ← e, List.take_length]; exact h)
      | (rw [← e]; omega)
  | .fld k :: p, .agg l, ε, cs, acc, o, h, hp, ho => by
    simp only [atP] at ho
    obtain ⟨hk, ho⟩ := ho
    simp only [SatC] at h
    obtain ⟨h1, h2⟩ := SatL.nth l k h hk
    simp only [pathOk] at hp
    obtain ⟨i1, i2, i3⟩ := SatC.get p (l.getD k .junk) _ o h1 hp ho
    have hlen := SatC.length _ h1
    simp only [getP]
    rw [hlen] at i3
    rw [sub_sub i3] at i2
    refine ⟨by omega, ?_, by omega⟩
    have : wds (l.take k) + (o - (acc + wds (l.take k))) = o - acc := by omega
    rw [this] at i2
    exact i2
  | .idx i n' :: p, .arr n w f, ε, cs, acc, o, h, hp, ho => by
    simp only [atP] at ho
    obtain ⟨hn, ho⟩ := ho
    subst hn
    simp only [SatC] at h
    simp only [pathOk] at hp
    obtain ⟨hl, hf⟩ := h
    have hw := mul_le_len (w := w) hp.1
    obtain ⟨i1, i2, i3⟩ := SatC.get p (f i) _ o (hf i hp.1) hp.2 ho
    have hs : (sub cs (i * w) w).length = w := sub_length (by omega)
    rw [hs] at i3
    rw [sub_sub i3] at i2
    simp only [getP]
    refine ⟨by omega, ?_, by omega⟩
    have : i * w + (o - (acc + i * w)) = o - acc := by omega
    rw [this] at i2
    exact i2
  | .fld k :: p, .arr .., _, _, _, _, _, _, ho => by simp only [atP] at ho
  | .idx .. :: p, .agg .., _, _, _, _, _, _, ho => by simp only [atP] at ho
  | _ :: _, .int .., _, _, _, _, _, _, ho => by simp only [atP] at ho
  | _ :: _, .bool .., _, _, _, _, _, _, ho => by simp only [atP] at ho
  | _ :: _, .str .., _, _, _, _, _, _, ho => by simp only [atP] at ho
  | _ :: _, .tup .., _, _, _, _, _, _, ho => by simp only [atP] at ho
  | _ :: _, .lst .., _, _, _, _, _, _, ho => by simp only [atP] at ho
  | _ :: _, .lit .., _, _, _, _, _, _, ho => by simp only [atP] at ho
  | _ :: _, .eptr .., _, _, _, _, _, _, ho => by simp only [atP] at ho
  | _ :: _, .ref .., _, _, _, _, _, _, ho => by simp only [atP] at ho
  | _ :: _, .ptr .., _, _, _, _, _, _, ho => by simp only [atP] at ho
  | _ :: _, .vec .., _, _, _, _, _, _, ho => by simp only [atP] at ho
  | _ :: _, .vptr .., _, _, _, _, _, _, ho => by simp only [atP] at ho
  | _ :: _, .pvec .., _, _, _, _, _, _, ho => by simp only [atP] at ho
  | _ :: _, .map .., _, _, _, _, _, _, ho => by simp only [atP] at ho
  | _ :: _, .fn .., _, _, _, _, _, _, ho => by simp only [atP] at ho
  | _ :: _, .iface .., _, _, _, _, _, _, ho => by simp only [atP] at ho
  | _ :: _, .nils, _, _, _, _, _, _, ho => by simp only [atP] at ho
  | _ :: _, .nili, _, _, _, _, _, _, ho => by simp only [atP] at ho
  | _ :: _, .nilf, _, _, _, _, _, _, ho => by simp only [atP] at ho
  | _ :: _, .nilp, _, _, _, _, _, _, ho => by simp only [atP] at ho
  | _ :: _, .nilm, _, _, _, _, _, _, ho => by simp only [atP] at ho
  | _ :: _, .anyb, _, _, _, _, _, _, ho => by simp only [atP] at ho
  | _ :: _, .raw .., _, _, _, _, _, _, ho => by simp only [atP] at ho
  | _ :: _, .junk, _, _, _, _, _, _, ho => by simp only [atP] at ho

theorem scalar_cells {c : SV} {ε : Env} {cs : List Value} (h : SatC c ε cs) : (boxed c.isAgg cs).cells = cs.toArray := by
  have h1 := SatC.one c h
  have h2 := SatC.length c h
  cases hc : c.isAgg with
  | true => rfl
  | false =>
    have h3 : wd c = 1 := by cases c <;> first | rfl | cases hc
    match cs, h2, h1 with
    | [v], _, h1 =>
      have := h1 v (by simp)
      simp only [boxed, Bool.false_eq_true, if_false, List.headD_cons]
      cases v <;> first | rfl | (simp [Value.oneCell'] at this)
    | [], h2, _ => rw [h3] at h2; cases h2
    | _ :: _ :: _, h2, _ => rw [h3] at h2; simp at h2

def splice (cs : List Value) (a : Nat) (xs : List Value) : List Value := cs.take a ++ xs ++ cs.drop (a + xs.length)

theorem splice_length {cs xs : List Value} {a : Nat} (h : a + xs.length ≤ cs.length) : (splice cs a xs).length = cs.length := by
  simp [splice]; omega

theorem splice_get {cs xs : List Value} {a j : Nat} (h : a + xs.length ≤ cs.length) :
    (splice cs a xs)[j]? = if a ≤ j ∧ j < a + xs.length then xs[j - a]? else cs[j]? := by
  unfold splice
  rw [List.append_assoc, List.getElem?_append]
  have hl : (cs.take a).length = a := by simp; omega
  rw [hl]
  by_cases h1 : j < a
  · rw [if_pos h1, if_neg (by omega), List.getElem?_take, if_pos h1]
  · rw [if_neg h1, List.getElem?_append]
    by_cases h2 : j < a + xs.length
    · rw [if_pos (by omega), if_pos ⟨by omega, h2⟩]
    · rw [if_neg (by omega), if_neg (by omega), List.getElem?_drop]
      congr 1; omega

theorem sub_splice_in {cs xs : List Value} {a n b : Nat} (h1 : a ≤ b) (h2 : b + xs.length ≤ a + n) (h3 : a + n ≤ cs.length) :
    sub (splice cs b xs) a n = splice (sub cs a n) (b - a) xs := by
  apply List.ext_getElem?
  intro j
  have hl : (sub cs a n).length = n := sub_length h3
  rw [sub_get, splice_get (by omega), splice_get (by omega), sub_get]
  by_cases hj : j < n
  · rw [if_pos hj, if_pos hj]
    by_cases hc : b ≤ a + j ∧ a + j < b + xs.length
    · rw [if_pos hc, if_pos (by omega)]; congr 1; omega
    · rw [if_neg hc, if_neg (by omega)]
  · rw [if_neg hj, if_neg hj, if_neg (by omega)]

theorem sub_splice_out {cs xs : List Value} {a n b : Nat} (h : b + xs.length ≤ a ∨ a + n ≤ b) (h3 : b + xs.length ≤ cs.length) :
    sub (splice cs b xs) a n = sub cs a n := by
  apply List.ext_getElem?
  intro j
  rw [sub_get, splice_get (by omega), sub_get]
  by_cases hj : j < n
  · rw [if_pos hj, if_pos hj, if_neg (by omega)]
  · rw [if_neg hj, if_neg hj]

theorem splice_splice {cs xs : List Value} {a n b : Nat} (h1 : a + n ≤ cs.length) (h2 : b + xs.length ≤ n) :
    splice cs a (splice (sub cs a n) b xs) = splice cs (a + b) xs := by
  have hs : (sub cs a n).length = n := sub_length h1
  have hl : (splice (sub cs a n) b xs).length = n := by rw [splice_length (by omega), hs]
  apply List.ext_getElem?
  intro j
  rw [splice_get (xs := splice (sub cs a n) b xs) (by omega), splice_get (cs := cs) (xs := xs) (by omega), hl]
  by_cases hj : a ≤ j ∧ j < a + n
  · rw [if_pos hj, splice_get (by omega), sub_get]
    by_cases hj2 : b ≤ j - a ∧ j - a < b + xs.length
    · rw [if_pos hj2, if_pos (by omega)]; congr 1; omega
    · rw [if_neg hj2, if_pos (show j - a < n by omega), if_neg (show ¬ (a + b ≤ j ∧ j < a + b + xs.length) by omega)]; congr 1; omega
  · rw [if_neg hj, if_neg (by omega)]

theorem SatL.setNth : ∀ (l : List SV) (k : Nat) {ε : Env} {cs xs : List Value} {x : SV} (_ : SatL l ε cs) (_ : k < l.length)
    (_ : SatC x ε xs) (_ : xs.length = wd (l.getD k .junk)), SatL (l.set k x) ε (splice cs (wds (l.take k)) xs)
  | [], k, _, _, _, _, _, hk, _, _ => absurd hk (Nat.not_lt_zero _)
  | y :: r, 0, ε, cs, xs, x, h, _, hx, hl => by
    simp only [SatL] at h
    obtain ⟨a, b, h1, h2, h3⟩ := h
    have e1 := SatC.length y h2
    subst h1
    simp only [List.getD_cons_zero] at hl
    simp only [List.set_cons_zero, SatL, List.take_zero, wds, splice, List.nil_append, Nat.zero_add, hl, ← e1, List.drop_left]
    exact ⟨xs, b, rfl, hx, h3⟩
  | y :: r, k + 1, ε, cs, xs, x, h, hk, hx, hl => by
    simp only [SatL] at h
    obtain ⟨a, b, h1, h2, h3⟩ := h
    have e1 := SatC.length y h2
    have ih := SatL.setNth r k h3 (by simpa using hk) hx (by simpa using hl)
    subst h1
    simp only [List.set_cons_succ, SatL, List.take_succ_cons, wds]
    refine ⟨a, _, ?_, h2, ih⟩
    simp only [splice, ← e1, List.take_append, List.drop_append, List.append_assoc]
    rw [List.take_of_length_le (by omega), List.drop_of_length_le (by omega)]
    simp [Nat.add_assoc]

theorem setP_wd : ∀ (p : List Step) (c x : SV) (acc o : Nat), atP c p acc o → wd x = wd (getP c p) → wd (setP c p x) = wd c := by
  intro p
  induction p with
  | nil => intro c x acc o _ h; cases c <;> simpa [setP, getP] using h
  | cons s p ih =>
    intro c x acc o ho h
    cases c <;> cases s <;> simp only [atP] at ho
    · simp [setP, wd]
    · rename_i l k
      simp only [getP] at h
      have := ih _ _ _ _ ho.2 h
      simp only [setP, wd]
      clear ih ho h
      revert k
      induction l with
      | nil => intro k _; simp
      | cons y r ihl =>
        intro k hk
        cases k with
        | zero => simp only [List.getD_cons_zero] at hk; simp [wds, hk]
        | succ k => simp only [List.getD_cons_succ] at hk; simp only [List.getD_cons_succ, List.set_cons_succ, wds, ihl k hk]

theorem SatC.set : ∀ (p : List Step) (c : SV) {ε : Env} {cs xs : List Value} {x : SV} (acc o : Nat), SatC c ε cs → pathOk p → atP c p acc o →
    SatC x ε xs → wd x = wd (getP c p) → SatC (setP c p x) ε (splice cs (o - acc) xs)
  | [], c, ε, cs, xs, x, acc, o, h, _, ho, hx, hw => by
    have e := SatC.length c h
    have e2 := SatC.length x hx
    have hw' : wd x = wd c := by cases c <;> simpa [getP] using hw
    simp only [atP] at ho; subst ho
    have : splice cs (o - o) xs = xs := by
      simp only [Nat.sub_self, splice, List.take_zero, List.nil_append, Nat.zero_add]
      rw [List.drop_of_length_le (by omega)]; simp
    rw [this]
    cases c <;> exact hx
  | .fld k :: p, .agg l, ε, cs, xs, x, acc, o, h, hp, ho, hx, hw => by
    simp only [atP] at ho
    obtain ⟨hk, ho⟩ := ho
    simp only [SatC] at h
    simp only [pathOk] at hp
    simp only [getP] at hw
    obtain ⟨h1, h2⟩ := SatL.nth l k h hk
    obtain ⟨i1, i2, i3⟩ := SatC.get p (l.getD k .junk) _ o h1 hp ho
    have ih := SatC.set p (l.getD k .junk) _ o h1 hp ho hx hw
    have hl1 := SatC.length _ h1
    have hl2 := SatC.length _ ih
    have hx2 := SatC.length x hx
    have hwd := setP_wd p (l.getD k .junk) x _ o ho hw
    have := SatL.setNth l k h hk ih (by rw [hl2, hwd])
    simp only [setP, SatC]
    have key := splice_splice (cs := cs) (xs := xs) (a := wds (l.take k)) (n := wd (l.getD k .junk)) (b := o - (acc + wds (l.take k))) (by omega) (by omega)
    rw [show wds (l.take k) + (o - (acc + wds (l.take k))) = o - acc by omega] at key
    rw [key] at this
    exact this
  | .idx i n' :: p, .arr n w f, ε, cs, xs, x, acc, o, h, hp, ho, hx, hw => by
    simp only [atP] at ho
    obtain ⟨hn, ho⟩ := ho
    subst hn
    simp only [SatC] at h
    simp only [pathOk] at hp
    simp only [getP] at hw
    obtain ⟨hl, hf⟩ := h
    have hwl := mul_le_len (w := w) hp.1
    obtain ⟨i1, i2, i3⟩ := SatC.get p (f i) _ o (hf i hp.1) hp.2 ho
    have ih := SatC.set p (f i) _ o (hf i hp.1) hp.2 ho hx hw
    have hs : (sub cs (i * w) w).length = w := sub_length (by omega)
    have hx2 := SatC.length x hx
    rw [hs] at i3
    simp only [setP, SatC]
    refine ⟨by rw [splice_length (by omega)]; exact hl, fun j hj => ?_⟩
    unfold updS
    by_cases hji : j = i
    · subst hji
      rw [if_pos rfl, sub_splice_in (by omega) (by omega) (by omega)]
      have : o - acc - j * w = o - (acc + j * w) := by omega
      rw [this]
      exact ih
    · rw [if_neg hji, sub_splice_out ?_ (by omega)]
      · exact hf j hj
      · rcases Nat.lt_or_gt_of_ne hji with hlt | hgt
        · right
          have := mul_le_len (w := w) hlt
          omega
        · left
          have := mul_le_len (w := w) hgt
          omega
  | .fld k :: p, .arr .., _, _, _, _, _, _, _, _, ho, _, _ => by simp only [atP] at ho
  | .idx .. :: p, .agg .., _, _, _, _, _, _, _, _, ho, _, _ => by simp only [atP] at ho
  | _ :: _, .int .., _, _, _, _, _, _, _, _, ho, _, _ => by simp only [atP] at ho
  | _ :: _, .bool .., _, _, _, _, _, _, _, _, ho, _, _ => by simp only [atP] at ho
  | _ :: _, .str .., _, _, _, _, _, _, _, _, ho, _, _ => by simp only [atP] at ho
  | _ :: _, .tup .., _, _, _, _, _, _, _, _, ho, _, _ => by simp only [atP] at ho
  | _ :: _, .lst .., _, _, _, _, _, _, _, _, ho, _, _ => by simp only [atP] at ho
  | _ :: _, .lit .., _, _, _, _, _, _, _, _, ho, _, _ => by simp only [atP] at ho
  | _ :: _, .eptr .., _, _, _, _, _, _, _, _, ho, _, _ => by simp only [atP] at ho
  | _ :: _, .ref .., _, _, _, _, _, _, _, _, ho, _, _ => by simp only [atP] at ho
  | _ :: _, .ptr .., _, _, _, _, _, _, _, _, ho, _, _ => by simp only [atP] at ho
  | _ :: _, .vec .., _, _, _, _, _, _, _, _, ho, _, _ => by simp only [atP] at ho
  | _ :: _, .vptr .., _, _, _, _, _, _, _, _, ho, _, _ => by simp only [atP] at ho
  | _ :: _, .pvec .., _, _, _, _, _, _, _, _, ho, _, _ => by simp only [atP] at ho
  | _ :: _, .map .., _, _, _, _, _, _, _, _, ho, _, _ => by simp only [atP] at ho
  | _ :: _, .fn .., _, _, _, _, _, _, _, _, ho, _, _ => by simp only [atP] at ho
  | _ :: _, .iface .., _, _, _, _, _, _, _, _, ho, _, _ => by simp only [atP] at ho
  | _ :: _, .nils, _, _, _, _, _, _, _, _, ho, _, _ => by simp only [atP] at ho
  | _ :: _, .nili, _, _, _, _, _, _, _, _, ho, _, _ => by simp only [atP] at ho
  | _ :: _, .nilf, _, _, _, _, _, _, _, _, ho, _, _ => by simp only [atP] at ho
  | _ :: _, .nilp, _, _, _, _, _, _, _, _, ho, _, _ => by simp only [atP] at ho
  | _ :: _, .nilm, _, _, _, _, _, _, _, _, ho, _, _ => by simp only [atP] at ho
  | _ :: _, .anyb, _, _, _, _, _, _, _, _, ho, _, _ => by simp only [atP] at ho
  | _ :: _, .raw .., _, _, _, _, _, _, _, _, ho, _, _ => by simp only [atP] at ho
  | _ :: _, .junk, _, _, _, _, _, _, _, _, ho, _, _ => by simp only [atP] at ho

end Go.Sx
/-! Sx, part 3: memory: what the call owns, what is never written, and what has been kept. -/
set_option linter.unusedSimpArgs false
set_option linter.unusedVariables false
namespace Go.Sx
open Go

inductive ES where
  | int (k : IntKind)
  | bool
  | str
  | st (l : List ES)
  | arr (n w : Nat) (e : ES)
mutual
def esP : ES → SV → Prop
  | .int k, x => match x with
    | .int k' _ => k' = k
    | _ => False
  | .bool, x => match x with
    | .bool _ => True
    | _ => False
  | .str, x => match x with
    | .str _ => True
    | _ => False
  | .st l, x => match x with
    | .agg xs => esPL l xs
    | _ => False
  | .arr n w e, x => match x with
    | .arr n' w' f => n' = n ∧ w' = w ∧ ∀ i, i < n → esP e (f i)
    | _ => False
def esPL : List ES → List SV → Prop
  | [], xs => match xs with
    | [] => True
    | _ => False
  | e :: l, xs => match xs with
    | x :: xs => esP e x ∧ esPL l xs
    | [] => False
end

mutual
def datP : SV → Prop
  | .int .. => True
  | .bool _ => True
  | .str _ => True
  | .agg l => datPL l
  | .arr n _ f => ∀ i, i < n → datP (f i)
  | _ => False
def datPL : List SV → Prop
  | [] => True
  | x :: r => datP x ∧ datPL r
end
mutual
theorem dat_env : ∀ (x : SV) {ε ε' : Env} {cs : List Value}, datP x → SatC x ε cs → SatC x ε' cs
  | .int .., _, _, _, _, h => h
  | .bool .., _, _, _, _, h => h
  | .str .., _, _, _, _, h => h
  | .agg l, _, _, _, hd, h => by simp only [SatC] at h ⊢; exact datL_env l hd h
  | .arr n w f, _, _, _, hd, h => by
    simp only [SatC] at h ⊢
    exact ⟨h.1, fun i hi => dat_env (f i) (hd i hi) (h.2 i hi)⟩
  | .tup _, _, _, _, hd, _ => hd.elim
  | .lst .., _, _, _, hd, _ => hd.elim
  | .lit .., _, _, _, hd, _ => hd.elim
  | .eptr .., _, _, _, hd, _ => hd.elim
  | .ref .., _, _, _, hd, _ => hd.elim
  | .ptr .., _, _, _, hd, _ => hd.elim
  | .vec .., _, _, _, hd, _ => hd.elim
  | .vptr .., _, _, _, hd, _ => hd.elim
  | .pvec .., _, _, _, hd, _ => hd.elim
  | .map .., _, _, _, hd, _ => hd.elim
  | .fn .., _, _, _, hd, _ => hd.elim
  | .iface .., _, _, _, hd, _ => hd.elim
  | .nils, _, _, _, hd, _ => hd.elim
  | .nili, _, _, _, hd, _ => hd.elim
  | .nilf, _, _, _, hd, _ => hd.elim
  | .nilp, _, _, _, hd, _ => hd.elim
  | .nilm, _, _, _, hd, _ => hd.elim
  | .anyb, _, _, _, hd, _ => hd.elim
  | .raw _, _, _, _, hd, _ => hd.elim
  | .junk, _, _, _, hd, _ => hd.elim
theorem datL_env : ∀ (l : List SV) {ε ε' : Env} {cs : List Value}, datPL l → SatL l ε cs → SatL l ε' cs
  | [], _, _, _, _, h => h
  | x :: r, _, _, _, hd, h => by
    simp only [SatL] at h ⊢
    obtain ⟨a, b, h1, h2, h3⟩ := h
    exact ⟨a, b, h1, dat_env x hd.1 h2, datL_env r hd.2 h3⟩
end
theorem datPL_at : ∀ {l : List SV} {i : Nat}, datPL l → i < l.length → datP (l.getD i .junk)
  | [], i, _, hi => absurd hi (Nat.not_lt_zero _)
  | x :: r, 0, h, _ => h.1
  | x :: r, i + 1, h, hi => by
    rw [List.getD_cons_succ]
    exact datPL_at h.2 (by simpa using hi)
def Env.nil : Env := ⟨0, fun _ => 0, fun _ => undef, fun _ => none⟩
theorem Env.nil_le (ε : Env) : Env.nil.Le ε := ⟨Nat.zero_le _, fun _ h => absurd h (Nat.not_lt_zero _), fun _ h => absurd h (Nat.not_lt_zero _), fun _ _ h => by cases h⟩
structure EntOK (ek ev : ES) (p : SV × SV) (e : MapEntry) : Prop where
  k : esP ek p.1
  v : esP ev p.2
  kc : ∃ cs, SatC p.1 Env.nil cs ∧ e.key = boxed p.1.isAgg cs
  vc : ∃ cs, SatC p.2 Env.nil cs ∧ e.val = boxed p.2.isAgg cs
def EntsOK (ek ev : ES) : List (SV × SV) → List MapEntry → Prop
  | [], [] => True
  | p :: l, e :: es => EntOK ek ev p e ∧ EntsOK ek ev l es
  | _, _ => False

def Stamps (es : List MapEntry) (clock : Nat) : Prop := (es.map (·.born)).Nodup ∧ ∀ e ∈ es, e.born < clock
inductive Res : Type 1 where
  | dead
  | blk (T : TypeId) (c : SV)
  | vec (T : TypeId) (w : Nat) (l : List SV)
  | mp (ek ev : ES) (l : List (SV × SV))

def Res.isVec : Res → Bool
  | .vec .. => true
  | _ => false

def Res.isBlk : Res → Bool
  | .blk .. => true
  | .mp .. => true
  | _ => false

def ownR (ε : Env) (i : Nat) : Res → Option Nat
  | .dead => none
  | .blk .. => some (ε.blk i)
  | .vec .. => (ε.vv i).ownBlock
  | .mp .. => some (ε.blk i)

def ResOK (ε : Env) (i : Nat) (w : World) : Res → Prop
  | .dead => True
  | .blk T c => ∃ cs : List Value, w.heap[ε.blk i]? = some (.cells cs.toArray T (0, 0)) ∧ SatC c ε cs
  | .vec T wd l => ∃ xs, w.ownsRow 0 T wd (ε.vv i) l.length xs ∧ ∀ j, j < l.length → SatC (l.getD j .junk) ε (sub xs (j * wd) wd)
  | .mp ek ev l => ∃ (es : Array MapEntry) (clock : Nat), w.heap[ε.blk i]? = some (.map es clock) ∧ EntsOK ek ev l es.toList ∧ Stamps es.toList clock

def memAt (m : List Res) (i : Nat) : Res := m.getD i .dead

structure Good (ε : Env) (m : List Res) (w : World) : Prop where
  n : ε.n = m.length
  res : ∀ i, ResOK ε i w (memAt m i)
  disj : ∀ i j b, i ≠ j → ownR ε i (memAt m i) = some b → ownR ε j (memAt m j) ≠ some b
  sep : ∀ i b, ownR ε i (memAt m i) = some b → ε.H b = none
  hv : ∀ b o, ε.H b = some o → w.heap[b]? = some o

structure Kept (B : Nat → Prop) (ε : Env) (w : World) (ε' : Env) (w' : World) : Prop where
  os : w'.os = w.os
  tape : w'.tape = w.tape
  output : w'.output = w.output
  size : w.heap.size ≤ w'.heap.size
  heap : ∀ b, b < w.heap.size → ¬ B b → w'.heap[b]? = w.heap[b]?
  H : ∀ b o, ε.H b = some o → ε'.H b = some o
  fresh : ∀ b o, ε'.H b = some o → ε.H b = some o ∨ w.heap.size ≤ b ∨ B b
  drawn : w.drawn ≤ w'.drawn

theorem Kept.refl (B : Nat → Prop) (ε : Env) (w : World) : Kept B ε w ε w := ⟨rfl, rfl, rfl, Nat.le_refl _, fun _ _ _ => rfl, fun _ _ h => h, fun _ _ h => .inl h, Nat.le_refl _⟩

structure Base where
  w : World
  ε : Env
  B : Nat → Prop

structure Inv (β : Base) (ε : Env) (m : List Res) (w : World) : Prop where
  good : Good ε m w
  kept : Kept β.B β.ε β.w ε w
  own : ∀ i b, ownR ε i (memAt m i) = some b → β.B b ∨ β.w.heap.size ≤ b
  n : β.ε.n ≤ ε.n
  blk : ∀ i, i < β.ε.n → ε.blk i = β.ε.blk i
  vv : ∀ i, i < β.ε.n → (memAt m i).isBlk = true → ε.vv i = β.ε.vv i

theorem ownR_lt {ε : Env} {m : List Res} {w : World} (g : Good ε m w) {i b : Nat} (h : ownR ε i (memAt m i) = some b) : b < w.heap.size := by
  have hr := g.res i
  cases hm : memAt m i with
  | dead => rw [hm] at h; cases h
  | blk T c =>
    rw [hm] at h hr
    simp only [ownR, Option.some.injEq] at h
    obtain ⟨cs, hc, _⟩ := hr
    subst h
    exact (Array.getElem?_eq_some_iff.1 hc).1
  | vec T wd l =>
    rw [hm] at h hr
    obtain ⟨xs, ho, _⟩ := hr
    exact (ho.lt b h).2
  | mp ek ev l =>
    rw [hm] at h hr
    simp only [ownR, Option.some.injEq] at h
    obtain ⟨es, cl, hc, _⟩ := hr
    subst h
    exact (Array.getElem?_eq_some_iff.1 hc).1

theorem H_lt {ε : Env} {m : List Res} {w : World} (g : Good ε m w) {b : Nat} {o : Obj} (h : ε.H b = some o) : b < w.heap.size :=
  (Array.getElem?_eq_some_iff.1 (g.hv b o h)).1

theorem Good.grow {ε ε' : Env} {m : List Res} {w w' : World} (g : Good ε m w) (hl : ε.Le ε') (hn : ε'.n = m.length)
    (hb : ∀ i, i < ε.n → ε'.blk i = ε.blk i) (hvv : ∀ i, i < ε.n → ε'.vv i = ε.vv i)
    (hw : ∀ b, b < w.heap.size → w'.heap[b]? = w.heap[b]?) (hH : ∀ b o, ε'.H b = some o → w'.heap[b]? = some o)
    (hsep : ∀ i b, ownR ε i (memAt m i) = some b → ε'.H b = none) : Good ε' m w' := by
  have hown : ∀ i, ownR ε' i (memAt m i) = ownR ε i (memAt m i) := by
    intro i
    rcases Nat.lt_or_ge i m.length with hi | hi
    · have hi' : i < ε.n := by rw [g.n]; exact hi
      cases hm : memAt m i with
      | dead => rfl
      | blk T c => simp [ownR, hb i hi']
      | vec T wd l => simp [ownR, hvv i hi']
      | mp ek ev l => simp [ownR, hb i hi']
    · have : memAt m i = .dead := by simp [memAt, List.getD, List.getElem?_eq_none hi]
      rw [this]; rfl
  refine ⟨hn, fun i => ?_, fun i j b hij h1 h2 => ?_, fun i b h => ?_, hH⟩
  · have hr := g.res i
    rcases Nat.lt_or_ge i m.length with hi | hi
    · have hi' : i < ε.n := by rw [g.n]; exact hi
      cases hm : memAt m i with
      | dead => trivial
      | blk T c =>
        rw [hm] at hr
        obtain ⟨cs, h1, h2⟩ := hr
        have hlt : ε.blk i < w.heap.size := (Array.getElem?_eq_some_iff.1 h1).1
        exact ⟨cs, by rw [hb i hi', hw _ hlt]; exact h1, h2.mono c hl⟩
      | vec T wd l =>
        rw [hm] at hr
        obtain ⟨xs, h1, h2⟩ := hr
        refine ⟨xs, ?_, fun j hj => (h2 j hj).mono _ hl⟩
        rw [hvv i hi']
        refine ⟨h1.1, ?_⟩
        rcases h1.2 with hx | ⟨gg, cap, cur, e1, e2, e3, e4⟩
        · exact .inl hx
        · exact .inr ⟨gg, cap, cur, e1, e2, by rw [hw _ (Array.getElem?_eq_some_iff.1 e3).1]; exact e3, e4⟩
      | mp ek ev l =>
        rw [hm] at hr
        obtain ⟨es, cl, h1, h2⟩ := hr
        exact ⟨es, cl, by rw [hb i hi', hw _ (Array.getElem?_eq_some_iff.1 h1).1]; exact h1, h2⟩
    · have : memAt m i = .dead := by simp [memAt, List.getD, List.getElem?_eq_none hi]
      rw [this]; trivial
  · rw [hown] at h1 h2; exact g.disj i j b hij h1 h2
  · rw [hown] at h; exact hsep i b h

theorem Inv.drew {β : Base} {ε : Env} {m : List Res} {w : World} (h : Inv β ε m w) : Inv β ε m { w with drawn := w.drawn + 1 } :=
  ⟨h.good.grow (Env.Le.refl _) h.good.n (fun _ _ => rfl) (fun _ _ => rfl) (fun _ _ => rfl) h.good.hv h.good.sep,
   ⟨h.kept.os, h.kept.tape, h.kept.output, h.kept.size, h.kept.heap, h.kept.H, h.kept.fresh, Nat.le_succ_of_le h.kept.drawn⟩, h.own, h.n, h.blk, h.vv⟩

def Env.more (ε : Env) (b : Nat) (v : Value) : Env := { ε with n := ε.n + 1, blk := fun i => if i = ε.n then b else ε.blk i, vv := fun i => if i = ε.n then v else ε.vv i }

theorem Env.le_more (ε : Env) (b : Nat) (v : Value) : ε.Le (ε.more b v) :=
  ⟨Nat.le_succ _, fun i hi => by simp [Env.more, Nat.ne_of_lt hi], fun i hi => by simp [Env.more, Nat.ne_of_lt hi], fun _ _ h => h⟩

theorem memAt_append_lt {m : List Res} {r : List Res} {i : Nat} (h : i < m.length) : memAt (m ++ r) i = memAt m i := by
  simp [memAt, List.getD, List.getElem?_append_left h]

theorem memAt_snoc {m : List Res} {r : Res} : memAt (m ++ [r]) m.length = r := by simp [memAt]

theorem memAt_ge {m : List Res} {i : Nat} (h : m.length ≤ i) : memAt m i = .dead := by simp [memAt, List.getD, List.getElem?_eq_none h]

theorem Inv.alloc {β : Base} {ε : Env} {m : List Res} {w : World} (h : Inv β ε m w) {T : TypeId} {c : SV} {cs : List Value} (hc : SatC c ε cs) :
    Inv β (ε.more w.heap.size undef) (m ++ [.blk T c]) (w.alloc (.cells cs.toArray T)) := by
  have hn := h.good.n
  have hw : ∀ b, b < w.heap.size → (w.alloc (.cells cs.toArray T)).heap[b]? = w.heap[b]? := fun b hb => Go.RowKit.Below.heap_alloc w _ b hb
  have hle := ε.le_more w.heap.size undef
  have hown : ∀ i, i < m.length → ownR (ε.more w.heap.size undef) i (memAt (m ++ [.blk T c]) i) = ownR ε i (memAt m i) := by
    intro i hi
    rw [memAt_append_lt hi]
    have hi' : i < ε.n := by omega
    cases memAt m i <;> simp [ownR, Env.more, Nat.ne_of_lt hi']
  have hnew : ownR (ε.more w.heap.size undef) m.length (memAt (m ++ [.blk T c]) m.length) = some w.heap.size := by
    rw [memAt_snoc]; simp [ownR, Env.more, hn]
  have hcase : ∀ i b, ownR (ε.more w.heap.size undef) i (memAt (m ++ [.blk T c]) i) = some b → (i < m.length ∧ ownR ε i (memAt m i) = some b) ∨ (i = m.length ∧ b = w.heap.size) := by
    intro i b hb
    rcases Nat.lt_trichotomy i m.length with hi | hi | hi
    · rw [hown i hi] at hb; exact .inl ⟨hi, hb⟩
    · subst hi; rw [hnew] at hb; exact .inr ⟨rfl, (Option.some.inj hb).symm⟩
    · rw [memAt_ge (by simp; omega)] at hb; cases hb
  refine ⟨⟨by simp [Env.more, hn], fun i => ?_, fun i j b hij h1 h2 => ?_, fun i b hb => ?_, fun b o hb => ?_⟩, ⟨h.kept.os, h.kept.tape, h.kept.output, ?_, ?_, h.kept.H, h.kept.fresh, h.kept.drawn⟩, fun i b hb => ?_, ?_, fun i hi => ?_, fun i hi hv => ?_⟩
  · rcases Nat.lt_trichotomy i m.length with hi | hi | hi
    · rw [memAt_append_lt hi]
      have hi' : i < ε.n := by omega
      have hr := h.good.res i
      cases hm : memAt m i with
      | dead => trivial
      | blk T' c' =>
        rw [hm] at hr
        obtain ⟨cs', h1, h2⟩ := hr
        have hb : (ε.more w.heap.size undef).blk i = ε.blk i := by simp [Env.more, Nat.ne_of_lt hi']
        exact ⟨cs', by rw [hb, hw _ (Array.getElem?_eq_some_iff.1 h1).1]; exact h1, h2.mono c' hle⟩
      | vec T' wd l =>
        rw [hm] at hr
        obtain ⟨xs, h1, h2⟩ := hr
        have hb : (ε.more w.heap.size undef).vv i = ε.vv i := by simp [Env.more, Nat.ne_of_lt hi']
        refine ⟨xs, ?_, fun j hj => (h2 j hj).mono _ hle⟩
        rw [hb]
        exact h1.alloc _
      | mp ek ev l =>
        rw [hm] at hr
        obtain ⟨es, cl, h1, h2⟩ := hr
        have hb : (ε.more w.heap.size undef).blk i = ε.blk i := by simp [Env.more, Nat.ne_of_lt hi']
        exact ⟨es, cl, by rw [hb, hw _ (Array.getElem?_eq_some_iff.1 h1).1]; exact h1, h2⟩
    · subst hi
      rw [memAt_snoc]
      refine ⟨cs, ?_, hc.mono c hle⟩
      have : (ε.more w.heap.size undef).blk m.length = w.heap.size := by simp [Env.more, hn]
      rw [this]
      exact heap_alloc_new w _
    · rw [memAt_ge (by simp; omega)]; trivial
  · rcases hcase i b h1 with ⟨hi, h1'⟩ | ⟨hi, hb⟩ <;> rcases hcase j b h2 with ⟨hj, h2'⟩ | ⟨hj, hb2⟩
    · exact h.good.disj i j b hij h1' h2'
    · have := ownR_lt h.good h1'; omega
    · have := ownR_lt h.good h2'; omega
    · omega
  · rcases hcase i b hb with ⟨_, h1⟩ | ⟨_, h1⟩
    · exact h.good.sep i b h1
    · subst h1
      cases hh : ε.H w.heap.size with
      | none => exact hh
      | some o => have := H_lt h.good hh; omega
  · rw [hw b (H_lt h.good hb)]; exact h.good.hv b o hb
  · have := h.kept.size; simp; omega
  · intro b hb hB; rw [hw b (Nat.lt_of_lt_of_le hb h.kept.size)]; exact h.kept.heap b hb hB
  · rcases hcase i b hb with ⟨_, h1⟩ | ⟨_, h1⟩
    · exact h.own i b h1
    · right; have := h.kept.size; omega
  · have := h.n; simp [Env.more]; omega
  · have := h.n
    have e := h.blk i hi
    simp [Env.more]
    rw [if_neg (by omega)]; exact e
  · have hn' := h.n
    rw [memAt_append_lt (by omega)] at hv
    have e := h.vv i hi hv
    simp [Env.more]
    rw [if_neg (by omega)]; exact e

theorem Inv.setBlk {β : Base} {ε : Env} {m : List Res} {w : World} (h : Inv β ε m w) {i : Nat} {T : TypeId} {c c' : SV} {cs' : List Value}
    (hm : memAt m i = .blk T c) (hc : SatC c' ε cs') :
    Inv β ε (m.set i (.blk T c')) (w.setRow (ε.blk i) cs'.toArray) := by
  have hi : i < m.length := by
    rcases Nat.lt_or_ge i m.length with hi | hi
    · exact hi
    · rw [memAt_ge hi] at hm; cases hm
  obtain ⟨cs, hcell, _⟩ : ResOK ε i w (.blk T c) := hm ▸ h.good.res i
  have hat : ∀ j, memAt (m.set i (.blk T c')) j = if j = i then .blk T c' else memAt m j := by
    intro j
    unfold memAt
    rw [List.getD, List.getElem?_set]
    by_cases hj : i = j
    · subst hj; simp [hi]
    · rw [if_neg hj, if_neg (fun e => hj e.symm)]; rfl
  have hown : ∀ j, ownR ε j (memAt (m.set i (.blk T c')) j) = ownR ε j (memAt m j) := by
    intro j
    rw [hat]
    by_cases hj : j = i
    · subst hj; rw [if_pos rfl, hm]; rfl
    · rw [if_neg hj]
  have hoi : ownR ε i (memAt m i) = some (ε.blk i) := by rw [hm]; rfl
  have hoth : ∀ b, b ≠ ε.blk i → (w.setRow (ε.blk i) cs'.toArray).heap[b]? = w.heap[b]? := fun b hb => setRow_other w _ b _ hb
  have hsz : (w.setRow (ε.blk i) cs'.toArray).heap.size = w.heap.size := by simp [World.setRow]
  refine ⟨⟨by simp [h.good.n], fun j => ?_, fun a b x hab h1 h2 => ?_, fun a b hb => ?_, fun b o hb => ?_⟩, ⟨h.kept.os, h.kept.tape, h.kept.output, ?_, ?_, h.kept.H, h.kept.fresh, h.kept.drawn⟩, fun a b hb => ?_, h.n, h.blk, fun j hj hv => h.vv j hj ?_⟩
  · rw [hat]
    by_cases hj : j = i
    · subst hj
      rw [if_pos rfl]
      exact ⟨cs', setRow_heap w _ _ _ T _ hcell, hc⟩
    · rw [if_neg hj]
      have hr := h.good.res j
      cases hmj : memAt m j with
      | dead => trivial
      | blk T' c'' =>
        rw [hmj] at hr
        obtain ⟨cs'', h1, h2⟩ := hr
        refine ⟨cs'', ?_, h2⟩
        rw [hoth _ (fun e => h.good.disj j i (ε.blk j) hj (by rw [hmj]; rfl) (by rw [hoi, e]))]
        exact h1
      | vec T' wd l =>
        rw [hmj] at hr
        obtain ⟨xs, h1, h2⟩ := hr
        refine ⟨xs, ?_, h2⟩
        refine ⟨h1.1, ?_⟩
        rcases h1.2 with hx | ⟨gg, cap, cur, e1, e2, e3, e4⟩
        · exact .inl hx
        · refine .inr ⟨gg, cap, cur, e1, e2, ?_, e4⟩
          rw [hoth _ (fun e => h.good.disj j i gg hj (by rw [hmj]; simp [ownR, e1, Value.ownBlock]) (by rw [hoi, e]))]
          exact e3
      | mp ek ev l =>
        rw [hmj] at hr
        obtain ⟨es, cl, h1, h2⟩ := hr
        refine ⟨es, cl, ?_, h2⟩
        rw [hoth _ (fun e => h.good.disj j i (ε.blk j) hj (by rw [hmj]; rfl) (by rw [hoi, e]))]
        exact h1
  · rw [hown] at h1 h2; exact h.good.disj a b x hab h1 h2
  · rw [hown] at hb; exact h.good.sep a b hb
  · rw [hoth b (fun e => by have := h.good.sep i _ hoi; rw [e] at hb; rw [this] at hb; cases hb)]; exact h.good.hv b o hb
  · rw [hsz]; exact h.kept.size
  · intro b hb hB
    rw [hoth b (fun e => ?_)]
    · exact h.kept.heap b hb hB
    · rcases h.own i _ hoi with h' | h'
      · rw [e] at hB; exact hB h'
      · omega
  · rw [hown] at hb; exact h.own a b hb
  · rw [hat] at hv
    by_cases hji : j = i
    · subst hji; rw [hm]; rfl
    · rwa [if_neg hji] at hv

end Go.Sx
