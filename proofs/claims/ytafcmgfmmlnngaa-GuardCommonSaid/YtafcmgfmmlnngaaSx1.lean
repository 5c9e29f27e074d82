import Derived.WalkKit
import Derived.Orders
/-! Sx, part 1: symbolic values, what they stand for, and how that is kept. -/
set_option linter.unusedSimpArgs false
set_option linter.unusedVariables false
namespace Go.Sx
open Go

inductive Step where
  | fld (k : Nat)
  | idx (i n : Nat)

inductive SV : Type 1 where
  | int (k : IntKind) (n : Int)
  | bool (b : Bool)
  | str (s : List UInt8)
  | arr (n w : Nat) (f : Nat → SV)
  | agg (l : List SV)
  | tup (l : List SV)
  | lst {τ : Type} (w : Nat) (d : τ) (f : τ → SV) (l : List τ)
  | eptr {τ : Type} (w : Nat) (d : τ) (f : τ → SV) (l : List τ) (i : Nat) (p : List Step) (off : Nat)
  | ref (c : SV) (p : List Step) (off : Nat)
  | ptr (i : Nat) (p : List Step) (off : Nat)
  | vec (i n : Nat)
  | vptr (i j : Nat) (p : List Step) (off : Nat)
  | map (i : Nat)
  | fn (f : FuncId) (cap : List SV)
  | iface (t : TypeId) (x : SV)
  | nils
  | nili
  | nilf
  | nilp
  | nilm
  | anyb
  | raw (v : Value)
  | junk

structure Env where
  n : Nat
  blk : Nat → Nat
  vv : Nat → Value
  H : Nat → Option Obj

def Env.cl (ε : Env) : Env := { ε with n := 0 }

def SV.isAgg : SV → Bool
  | .arr .. | .agg _ => true
  | _ => false

/-- The value that cells make. -/
def boxed (isAgg : Bool) (cs : List Value) : Value := if isAgg then .agg cs.toArray else cs.headD undef

def sub (cs : List Value) (a n : Nat) : List Value := (cs.drop a).take n

def pathOk : List Step → Prop
  | [] => True
  | .fld _ :: p => pathOk p
  | .idx i n :: p => i < n ∧ pathOk p

mutual
/-- The cells 'cs' hold what 'c' says. -/
def SatC : SV → Env → List Value → Prop
  | .int k n, _, cs => cs = [.int k n]
  | .bool b, _, cs => cs = [.bool b]
  | .str s, _, cs => cs = [.string ⟨s.toArray⟩]
  | .arr n w f, ε, cs => cs.length = n * w ∧ ∀ i, i < n → SatC (f i) ε (sub cs (i * w) w)
  | .agg l, ε, cs => SatL l ε cs
  | .tup _, _, _ => False
  | .lst w d f l, ε, cs => ∃ ao cap, cs = [.slice ao l.length cap] ∧ l.length ≤ cap ∧ cap ≤ maxLen ∧ (ao = none → cap = 0) ∧
      ∀ i, i < l.length → ∃ b off T fz cur, ao = some ⟨b, off, none⟩ ∧ ε.H b = some (.cells cur T fz) ∧ off + i * w + w ≤ cur.size ∧
        SatC (f (l.getD i d)) ε.cl (sub cur.toList (off + i * w) w)
  | .eptr w d f l i p o, ε, cs => ∃ b off T fz cur, cs = [.pointer (some ⟨b, off + i * w + o, none⟩)] ∧ i < l.length ∧ ε.H b = some (.cells cur T fz) ∧ pathOk p ∧
        off + i * w + w ≤ cur.size ∧ SatC (f (l.getD i d)) ε.cl (sub cur.toList (off + i * w) w)
  | .ref c p o, ε, cs => ∃ b T fz cur, cs = [.pointer (some ⟨b, o, none⟩)] ∧ ε.H b = some (.cells cur T fz) ∧ pathOk p ∧ SatC c ε.cl cur.toList
  | .ptr i p o, ε, cs => i < ε.n ∧ pathOk p ∧ cs = [.pointer (some ⟨ε.blk i, o, none⟩)]
  | .vec i n, ε, cs => i < ε.n ∧ (ε.vv i = .slice none 0 0 ∧ n = 0 ∨ ∃ b cap, ε.vv i = .slice (some ⟨b, 0, none⟩) n cap) ∧ cs = [ε.vv i]
  | .vptr i j p o, ε, cs => i < ε.n ∧ pathOk p ∧ ∃ b cap n, ε.vv i = .slice (some ⟨b, 0, none⟩) n cap ∧ j < n ∧ cs = [.pointer (some ⟨b, o, none⟩)]
  | .map i, ε, cs => i < ε.n ∧ cs = [.map (some (ε.blk i))]
  | .fn f cap, ε, cs => ∃ vs, SatA cap ε vs ∧ cs = [.func (.func f) #[] vs.toArray]
  | .iface t x, ε, cs => ∃ xs, SatC x ε xs ∧ cs = [.iface t (boxed x.isAgg xs)]
  | .nils, _, cs => cs = [.slice none 0 0]
  | .nili, _, cs => cs = [.nilIface]
  | .nilf, _, cs => cs = [.nilFunc]
  | .nilp, _, cs => cs = [.pointer none]
  | .nilm, _, cs => cs = [.map none]
  | .anyb, _, cs => ∃ b : Bool, cs = [.bool b]
  | .raw v, _, cs => v.oneCell' = true ∧ cs = [v]
  | .junk, _, cs => ∃ v : Value, v.oneCell' = true ∧ cs = [v]
/-- Cells one behind the other. -/
def SatL : List SV → Env → List Value → Prop
  | [], _, cs => cs = []
  | x :: r, ε, cs => ∃ a b, cs = a ++ b ∧ SatC x ε a ∧ SatL r ε b
/-- Values, one a symbol. -/
def SatA : List SV → Env → List Value → Prop
  | [], _, vs => vs = []
  | x :: r, ε, vs => ∃ cs t, vs = boxed x.isAgg cs :: t ∧ SatC x ε cs ∧ SatA r ε t
end

def SatV (ε : Env) (x : SV) (v : Value) : Prop :=
  match x with
  | .tup l => ∃ vs, SatA l ε vs ∧ v = .tuple vs.toArray
  | .junk => True
  | x => ∃ cs, SatC x ε cs ∧ v = boxed x.isAgg cs

structure Env.Le (ε ε' : Env) : Prop where
  n : ε.n ≤ ε'.n
  blk : ∀ i, i < ε.n → ε'.blk i = ε.blk i
  vv : ∀ i, i < ε.n → ε'.vv i = ε.vv i
  H : ∀ b o, ε.H b = some o → ε'.H b = some o

theorem Env.Le.refl (ε : Env) : ε.Le ε := ⟨Nat.le_refl _, fun _ _ => rfl, fun _ _ => rfl, fun _ _ h => h⟩
theorem Env.Le.trans {a b c : Env} (h : a.Le b) (k : b.Le c) : a.Le c :=
  ⟨Nat.le_trans h.n k.n, fun i hi => (k.blk i (Nat.lt_of_lt_of_le hi h.n)).trans (h.blk i hi), fun i hi => (k.vv i (Nat.lt_of_lt_of_le hi h.n)).trans (h.vv i hi), fun b o h' => k.H b o (h.H b o h')⟩
theorem Env.Le.cl {ε ε' : Env} (h : ε.Le ε') : ε.cl.Le ε'.cl := ⟨Nat.le_refl _, fun _ hi => absurd hi (Nat.not_lt_zero _), fun _ hi => absurd hi (Nat.not_lt_zero _), h.H⟩

mutual
theorem SatC.mono : ∀ (c : SV) {ε ε' : Env} {cs : List Value}, ε.Le ε' → SatC c ε cs → SatC c ε' cs
  | .int .., _, _, _, _, h => h
  | .bool .., _, _, _, _, h => h
  | .str .., _, _, _, _, h => h
  | .arr n w f, _, _, _, hl, h => by
    simp only [SatC] at h ⊢
    exact ⟨h.1, fun i hi => SatC.mono (f i) hl (h.2 i hi)⟩
  | .agg l, _, _, _, hl, h => by simp only [SatC] at h ⊢; exact SatL.mono l hl h
  | .tup _, _, _, _, _, h => h
  | .lst w d f l, _, _, _, hl, h => by
    simp only [SatC] at h ⊢
    obtain ⟨ao, cap, h1, h2, h3, h4, h5⟩ := h
    refine ⟨ao, cap, h1, h2, h3, h4, fun i hi => ?_⟩
    obtain ⟨b, off, T, fz, cur, e1, e2, e3, e4⟩ := h5 i hi
    exact ⟨b, off, T, fz, cur, e1, hl.H _ _ e2, e3, SatC.mono (f (l.getD i d)) hl.cl e4⟩
  | .eptr w d f l i p o, _, _, _, hl, h => by
    simp only [SatC] at h ⊢
    obtain ⟨b, off, T, fz, cur, h1, h2, h3, h4, h5, h6⟩ := h
    exact ⟨b, off, T, fz, cur, h1, h2, hl.H _ _ h3, h4, h5, SatC.mono (f (l.getD i d)) hl.cl h6⟩
  | .ref c p o, _, _, _, hl, h => by
    simp only [SatC] at h ⊢
    obtain ⟨b, T, fz, cur, h1, h2, h3, h4⟩ := h
    exact ⟨b, T, fz, cur, h1, hl.H _ _ h2, h3, SatC.mono c hl.cl h4⟩
  | .ptr i p o, _, _, _, hl, h => by
    simp only [SatC] at h ⊢
    exact ⟨Nat.lt_of_lt_of_le h.1 hl.n, h.2.1, by rw [hl.blk i h.1]; exact h.2.2⟩
  | .vec i n, _, _, _, hl, h => by
    simp only [SatC] at h ⊢
    exact ⟨Nat.lt_of_lt_of_le h.1 hl.n, by rw [hl.vv i h.1]; exact h.2⟩
  | .vptr i j p o, _, _, _, hl, h => by
    simp only [SatC] at h ⊢
    exact ⟨Nat.lt_of_lt_of_le h.1 hl.n, h.2.1, by rw [hl.vv i h.1]; exact h.2.2⟩
  | .map i, _, _, _, hl, h => by
    simp only [SatC] at h ⊢
    exact ⟨Nat.lt_of_lt_of_le h.1 hl.n, by rw [hl.blk i h.1]; exact h.2⟩
  | .fn f cap, _, _, _, hl, h => by
    simp only [SatC] at h ⊢
    obtain ⟨vs, h1, h2⟩ := h
    exact ⟨vs, SatA.mono cap hl h1, h2⟩
  | .iface t x, _, _, _, hl, h => by
    simp only [SatC] at h ⊢
    obtain ⟨xs, h1, h2⟩ := h
    exact ⟨xs, SatC.mono x hl h1, h2⟩
  | .nils, _, _, _, _, h => h
  | .nili, _, _, _, _, h => h
  | .nilf, _, _, _, _, h => h
  | .nilp, _, _, _, _, h => h
  | .nilm, _, _, _, _, h => h
  | .anyb, _, _, _, _, h => h
  | .raw _, _, _, _, _, h => h
  | .junk, _, _, _, _, h => h
theorem SatL.mono : ∀ (l : List SV) {ε ε' : Env} {cs : List Value}, ε.Le ε' → SatL l ε cs → SatL l ε' cs
  | [], _, _, _, _, h => h
  | x :: r, _, _, _, hl, h => by
    simp only [SatL] at h ⊢
    obtain ⟨a, b, h1, h2, h3⟩ := h
    exact ⟨a, b, h1, SatC.mono x hl h2, SatL.mono r hl h3⟩
theorem SatA.mono : ∀ (l : List SV) {ε ε' : Env} {vs : List Value}, ε.Le ε' → SatA l ε vs → SatA l ε' vs
  | [], _, _, _, _, h => h
  | x :: r, _, _, _, hl, h => by
    simp only [SatA] at h ⊢
    obtain ⟨cs, t, h1, h2, h3⟩ := h
    exact ⟨cs, t, h1, SatC.mono x hl h2, SatA.mono r hl h3⟩
end

theorem SatV.mono {x : SV} {ε ε' : Env} {v : Value} (hl : ε.Le ε') (h : SatV ε x v) : SatV ε' x v := by
  cases x
  case tup l => obtain ⟨vs, h1, h2⟩ := h; exact ⟨vs, SatA.mono l hl h1, h2⟩
  case junk => trivial
  all_goals (obtain ⟨cs, h1, h2⟩ := h; exact ⟨cs, SatC.mono _ hl h1, h2⟩)

end Go.Sx
