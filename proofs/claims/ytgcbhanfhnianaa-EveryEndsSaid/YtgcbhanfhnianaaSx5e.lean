import Derived.Test.YtgcbhanfhnianaaSx3
import Derived.WalkSpells
import Derived.DeepKeys
import Derived.Laws.Cover3
/-! Sx, part 4: operations that touch no memory. -/
set_option linter.unusedSimpArgs false
set_option linter.unusedVariables false
namespace Go.Sx
open Go

inductive Opd : Type 1 where
  | t (n : Nat)
  | c (x : SV)

def Opd.ev (σ : List SV) : Opd → SV
  | .t n => σ.getD n .junk
  | .c x => x

def SlotsOK (ε : Env) (σ : List SV) (a : Act) : Prop := σ.length = a.tmps.size ∧ ∀ k, SatV ε (σ.getD k .junk) (a.tmps.getD k undef)

def cstV : Value → Option SV
  | .bool b => some (.bool b)
  | .int k n => some (.int k n)
  | .string s => some (.str s.data.toList)
  | .slice none 0 0 => some .nils
  | .pointer none => some .nilp
  | .nilIface => some .nili
  | .nilFunc => some .nilf
  | .map none => some .nilm
  | _ => none

def compO : Operand → Option Opd
  | .tmp t => some (.t t)
  | .const v => (cstV v).map .c
  | .func f => some (.c (.fn f []))
  | .global _ => none

theorem cstV_ok {v : Value} {x : SV} (h : cstV v = some x) (ε : Env) : SatV ε x v := by
  unfold cstV at h
  split at h <;> cases h <;> first
    | exact ⟨_, rfl, rfl⟩
    | (refine ⟨_, rfl, ?_⟩; simp [boxed, SV.isAgg])

theorem compO_ok {x : Operand} {y : Opd} (h : compO x = some y) {ε : Env} {σ : List SV} {a : Act} (hs : SlotsOK ε σ a) : SatV ε (y.ev σ) (a.eval x) := by
  cases x with
  | tmp t => simp only [compO, Option.some.injEq] at h; subst h; exact hs.2 t
  | const v =>
    simp only [compO, Option.map_eq_some_iff] at h
    obtain ⟨sv, h1, rfl⟩ := h
    exact cstV_ok h1 ε
  | global g => simp [compO] at h
  | func f =>
    simp only [compO, Option.some.injEq] at h; subst h
    exact ⟨_, ⟨[], rfl, rfl⟩, rfl⟩

section inv
variable {ε : Env} {v : Value}
theorem sat_int {k : IntKind} {n : Int} (h : SatV ε (.int k n) v) : v = .int k n := by obtain ⟨cs, h1, h2⟩ := h; simp only [SatC] at h1; subst h1; exact h2
theorem sat_bool {b : Bool} (h : SatV ε (.bool b) v) : v = .bool b := by obtain ⟨cs, h1, h2⟩ := h; simp only [SatC] at h1; subst h1; exact h2
theorem sat_str {s : List UInt8} (h : SatV ε (.str s) v) : v = .string ⟨s.toArray⟩ := by obtain ⟨cs, h1, h2⟩ := h; simp only [SatC] at h1; subst h1; exact h2
theorem sat_nils (h : SatV ε .nils v) : v = .slice none 0 0 := by obtain ⟨cs, h1, h2⟩ := h; simp only [SatC] at h1; subst h1; exact h2
theorem sat_nilp (h : SatV ε .nilp v) : v = .pointer none := by obtain ⟨cs, h1, h2⟩ := h; simp only [SatC] at h1; subst h1; exact h2
theorem sat_ptr {i o : Nat} {p : List Step} (h : SatV ε (.ptr i p o) v) : i < ε.n ∧ pathOk p ∧ v = .pointer (some ⟨ε.blk i, o, none⟩) := by
  obtain ⟨cs, h1, h2⟩ := h; simp only [SatC] at h1; obtain ⟨h1, hp, h3⟩ := h1; subst h3; exact ⟨h1, hp, h2⟩
theorem sat_vec {i n : Nat} (h : SatV ε (.vec i n) v) : i < ε.n ∧ (ε.vv i = .slice none 0 0 ∧ n = 0 ∨ ∃ b cap, ε.vv i = .slice (some ⟨b, 0, none⟩) n cap ∧ n ≤ cap) ∧ v = ε.vv i := by
  obtain ⟨cs, h1, h2⟩ := h; simp only [SatC] at h1; obtain ⟨h1, hp, h3⟩ := h1; subst h3; exact ⟨h1, hp, h2⟩
theorem sat_vptr {i j o : Nat} {p : List Step} (h : SatV ε (.vptr i j p o) v) : i < ε.n ∧ pathOk p ∧ ∃ b cap n, ε.vv i = .slice (some ⟨b, 0, none⟩) n cap ∧ j < n ∧ v = .pointer (some ⟨b, o, none⟩) := by
  obtain ⟨cs, h1, h2⟩ := h; simp only [SatC] at h1
  obtain ⟨h1, hp, b, cap, n, h3, h4, h5⟩ := h1; subst h5; exact ⟨h1, hp, b, cap, n, h3, h4, h2⟩
theorem sat_agg {l : List SV} (h : SatV ε (.agg l) v) : ∃ cs, SatL l ε cs ∧ v = .agg cs.toArray := by
  obtain ⟨cs, h1, h2⟩ := h; simp only [SatC] at h1; exact ⟨cs, h1, h2⟩
theorem sat_arr {n w : Nat} {f : Nat → SV} (h : SatV ε (.arr n w f) v) : ∃ cs, SatC (.arr n w f) ε cs ∧ v = .agg cs.toArray := by
  obtain ⟨cs, h1, h2⟩ := h; exact ⟨cs, h1, h2⟩
theorem sat_tup {l : List SV} (h : SatV ε (.tup l) v) : ∃ vs, SatA l ε vs ∧ v = .tuple vs.toArray := h
theorem sat_fn {f : FuncId} {cap : List SV} (h : SatV ε (.fn f cap) v) : ∃ vs, SatA cap ε vs ∧ v = .func (.func f) #[] vs.toArray := by
  obtain ⟨cs, h1, h2⟩ := h; simp only [SatC] at h1; obtain ⟨vs, h3, h4⟩ := h1; subst h4; exact ⟨vs, h3, h2⟩
end inv

theorem satC_sat {ε : Env} {x : SV} {cs : List Value} (h : SatC x ε cs) : SatV ε x (boxed x.isAgg cs) := by
  cases x <;> first
    | trivial
    | exact ⟨cs, h, rfl⟩
    | (simp only [SatC] at h)

theorem mk_int {ε : Env} {k : IntKind} {n : Int} : SatV ε (.int k n) (.int k n) := ⟨_, rfl, rfl⟩
theorem mk_bool {ε : Env} {b : Bool} : SatV ε (.bool b) (.bool b) := ⟨_, rfl, rfl⟩
theorem mk_str {ε : Env} {s : List UInt8} : SatV ε (.str s) (.string ⟨s.toArray⟩) := ⟨_, rfl, rfl⟩

theorem SatA.nth : ∀ (l : List SV) (k : Nat) {ε : Env} {vs : List Value}, SatA l ε vs → k < l.length → ∃ v, vs[k]? = some v ∧ SatV ε (l.getD k .junk) v
  | [], k, _, _, _, hk => absurd hk (Nat.not_lt_zero _)
  | x :: r, 0, ε, vs, h, _ => by
    simp only [SatA] at h
    obtain ⟨cs, t, h1, h2, h3⟩ := h
    subst h1
    exact ⟨_, rfl, satC_sat h2⟩
  | x :: r, k + 1, ε, vs, h, hk => by
    simp only [SatA] at h
    obtain ⟨cs, t, h1, h2, h3⟩ := h
    subst h1
    obtain ⟨v, e1, e2⟩ := SatA.nth r k h3 (by simpa using hk)
    exact ⟨v, by simpa using e1, by simpa using e2⟩

inductive AOp where | add | sub | mul | quo | rem | and | or | xor | andNot | shl | shr
inductive COp where | eql | neq | lss | leq | gtr | geq

def AOp.of : BinOp → Option AOp
  | .add => some .add | .sub => some .sub | .mul => some .mul | .quo => some .quo | .rem => some .rem | .and => some .and | .or => some .or
  | .xor => some .xor | .andNot => some .andNot | .shl => some .shl | .shr => some .shr | _ => none

def COp.of : BinOp → Option COp
  | .eql => some .eql | .neq => some .neq | .lss => some .lss | .leq => some .leq | .gtr => some .gtr | .geq => some .geq | _ => none

def bitAnd (k : IntKind) (x y : Int) : Int := k.wrap (BitVec.ofInt k.bits x &&& BitVec.ofInt k.bits y).toNat
def bitOr (k : IntKind) (x y : Int) : Int := k.wrap (BitVec.ofInt k.bits x ||| BitVec.ofInt k.bits y).toNat
def bitXor (k : IntKind) (x y : Int) : Int := k.wrap (BitVec.ofInt k.bits x ^^^ BitVec.ofInt k.bits y).toNat
def bitAndNot (k : IntKind) (x y : Int) : Int := k.wrap (BitVec.ofInt k.bits x &&& ~~~ BitVec.ofInt k.bits y).toNat

def AOp.ev (k : IntKind) (a b : Int) (K : Int → Prop) : AOp → Prop
  | .add => K (k.wrap (a + b))
  | .sub => K (k.wrap (a - b))
  | .mul => K (k.wrap (a * b))
  | .quo => b ≠ 0 ∧ K (k.wrap (a.tdiv b))
  | .rem => b ≠ 0 ∧ K (a.tmod b)
  | .and => K (bitAnd k a b)
  | .or => K (bitOr k a b)
  | .xor => K (bitXor k a b)
  | .andNot => K (bitAndNot k a b)
  | .shl => 0 ≤ b ∧ K (k.wrap (a * 2 ^ (min b.toNat k.bits)))
  | .shr => 0 ≤ b ∧ K (a.fdiv (2 ^ (min b.toNat k.bits)))

def COp.ev (a b : Int) : COp → Bool
  | .eql => decide (a = b)
  | .neq => !decide (a = b)
  | .lss => decide (a < b)
  | .leq => decide (a ≤ b)
  | .gtr => decide (b < a)
  | .geq => decide (b ≤ a)

mutual
def eqV : ES → SV → SV → Bool
  | .int _, x, y => match x, y with
    | .int _ a, .int _ b => decide (a = b)
    | _, _ => false
  | .bool, x, y => match x, y with
    | .bool a, .bool b => a == b
    | _, _ => false
  | .str, x, y => match x, y with
    | .str a, .str b => decide (a = b)
    | _, _ => false
  | .st l, x, y => match x, y with
    | .agg xs, .agg ys => eqVL l xs ys
    | _, _ => false
  | .arr n _ e, x, y => match x, y with
    | .arr _ _ f, .arr _ _ g => (List.range n).all fun i => eqV e (f i) (g i)
    | _, _ => false
def eqVL : List ES → List SV → List SV → Bool
  | [], _, _ => true
  | e :: l, xs, ys => match xs, ys with
    | x :: xs, y :: ys => eqV e x y && eqVL l xs ys
    | _, _ => false
end
inductive MK : Type 1 where
  | make (ek ev : ES)
  | put (ek ev : ES)
  | get (ek ev : ES) (z : SV) (ok : Bool)
  | strb
  | bstr
  | mlen
def MK.eff : MK → Bool
  | .make .. | .put .. => true
  | .get .. => false
  | .strb => false
  | .bstr => false
  | .mlen => false
def mpFind (e : ES) (k : SV) : List (SV × SV) → Option SV
  | [] => none
  | p :: r => if eqV e k p.1 then some p.2 else mpFind e k r
def mpPut (e : ES) (k v : SV) : List (SV × SV) → List (SV × SV)
  | [] => [(k, v)]
  | p :: r => if eqV e k p.1 then (k, v) :: r else p :: mpPut e k v r
def obB : Option SV → Bool
  | some (.bool b) => b
  | _ => false
def obI : Option SV → Int
  | some (.int _ n) => n
  | _ => 0
def mpRes (ev : ES) (z : SV) (o : Option SV) : SV := match ev with
  | .bool => .bool (obB o)
  | .int k => .int k (obI o)
  | _ => o.getD z
def tabES : List (TypeId × ES) → TypeId → Option ES
  | [], _ => none
  | (u, e) :: r, t => if u = t then some e else tabES r t
inductive PIO : Type 1 where
  | mv (x : Opd)
  | pick (c x y : Opd)
  | ar (op : AOp) (x y : Opd)
  | cmp (op : COp) (x y : Opd)
  | beq (neg : Bool) (x y : Opd)
  | seq (neg : Bool) (x y : Opd)
  | cat (x y : Opd)
  | nt (x : Opd)
  | neg (x : Opd)
  | conv (k : IntKind) (x : Opd)
  | fa (k off : Nat) (x : Opd)
  | fld (k off sz : Nat) (ag : Bool) (x : Opd)
  | ia (n w : Nat) (x i : Opd)
  | is (w : Nat) (x i : Opd)
  | ix (n w : Nat) (ag : Bool) (x i : Opd)
  | sx (x i : Opd)
  | ext (k : Nat) (x : Opd)
  | bld (z : SV) (parts : List (List Step × Nat × Nat × Opd))
  | len (x : Opd)
  | lens (x : Opd)
  | mkfn (f : FuncId) (caps : List Opd)
  | nck (x : Opd)
  | mkif (t : TypeId) (x : Opd)
  | mx (x y : Opd)
  | mn (x y : Opd)
  | ssl (x : Opd) (lo hi : Option Opd)
  | slc (w : Nat) (x : Opd) (lo hi mx : Option Opd)
  | aeq (neg : Bool) (e : ES) (x y : Opd)
  | tas (t : TypeId) (z : SV) (x : Opd)
  | ieq (neg : Bool) (tab : List (TypeId × ES)) (x y : Opd)
  | snil (neg : Bool) (x : Opd)
  | pnil (neg : Bool) (x : Opd)
  | asl (n w : Nat) (x : Opd)


def AOp.kinds (k k' : IntKind) : AOp → Prop
  | .shl | .shr => True
  | _ => k' = k

def SV.isVal : SV → Bool
  | .tup _ | .junk => false
  | _ => true

def bldParts (σ : List SV) : SV → List (List Step × Nat × Nat × Opd) → (SV → Prop) → Prop
  | z, [], K => K z
  | z, (p, o, n, x) :: r, K => (pathOk p ∧ atP z p 0 o ∧ (x.ev σ).isVal = true ∧ wd (x.ev σ) = n ∧ wd (getP z p) = n) ∧ bldParts σ (setP z p (x.ev σ)) r K

def slLen : SV → Option Nat
  | .lst _ _ _ l => some l.length
  | .lit _ _ _ l => some l.length
  | .nils => some 0
  | .vec _ n => some n
  | _ => none

def stepTo (s : Step) (off : Nat) (K : SV → Prop) : SV → Prop
  | .ptr i p o => K (.ptr i (p ++ [s]) (o + off))
  | .eptr w d f l i p o => K (.eptr w d f l i (p ++ [s]) (o + off))
  | .vptr i j p o => K (.vptr i j (p ++ [s]) (o + off))
  | .ref c p o => K (.ref c (p ++ [s]) (o + off))
  | _ => False

def rng (n : Nat) : List Nat := List.range n
theorem rng_len (n : Nat) : (rng n).length = n := List.length_range
theorem rng_at {n i : Nat} (h : i < n) : (rng n).getD i 0 = i := by simp [rng, List.getD, h]

def popK (σ : List SV) (K : SV → Prop) : PIO → Prop
  | .mv x => K (x.ev σ)
  | .pick c x y => match c.ev σ with
    | .bool b => (b = true → K (x.ev σ)) ∧ (b = false → K (y.ev σ))
    | _ => False
  | .ar op x y => match x.ev σ, y.ev σ with
    | .int k a, .int k' b => op.kinds k k' ∧ op.ev k a b fun n => K (.int k n)
    | _, _ => False
  | .cmp op x y => match x.ev σ, y.ev σ with
    | .int k a, .int k' b => k' = k ∧ K (.bool (op.ev a b))
    | _, _ => False
  | .beq neg x y => match x.ev σ, y.ev σ with
    | .bool a, .bool b => K (.bool (if neg then a != b else a == b))
    | _, _ => False
  | .seq neg x y => match x.ev σ, y.ev σ with
    | .str a, .str b => K (.bool (if neg then !decide (a = b) else decide (a = b)))
    | _, _ => False
  | .cat x y => match x.ev σ, y.ev σ with
    | .str a, .str b => a.length + b.length ≤ 9223372036854775807 ∧ K (.str (a ++ b))
    | _, _ => False
  | .nt x => match x.ev σ with
    | .bool a => K (.bool (!a))
    | _ => False
  | .neg x => match x.ev σ with
    | .int k a => K (.int k (k.wrap (0 - a)))
    | _ => False
  | .conv k x => match x.ev σ with
    | .int _ a => K (.int k (k.wrap a))
    | _ => False
  | .fa k off x => stepTo (.fld k) off K (x.ev σ)
  | .fld k off sz ag x => match x.ev σ with
    | .agg l => (k < l.length ∧ wds (l.take k) = off ∧ wd (l.getD k .junk) = sz ∧ (l.getD k .junk).isAgg = ag) ∧ K (l.getD k .junk)
    | _ => False
  | .ia n w x i => match i.ev σ with
    | .int _ j => (0 ≤ j ∧ j < n) ∧ stepTo (.idx j.toNat n) (j.toNat * w) K (x.ev σ)
    | _ => False
  | .is w x i => match i.ev σ with
    | .int _ j => match x.ev σ with
      | .lst w' d f l => (0 ≤ j ∧ j < l.length) ∧ w' = w ∧ K (.eptr w d f l j.toNat [] 0)
      | .vec v n => (0 ≤ j ∧ j < n) ∧ K (.vptr v j.toNat [] (j.toNat * w))
      | _ => False
    | _ => False
  | .ix n w ag x i => match i.ev σ with
    | .int _ j => match x.ev σ with
      | .arr n' w' f => (0 ≤ j ∧ j < n) ∧ (n' = n ∧ w' = w ∧ (f j.toNat).isAgg = ag) ∧ K (f j.toNat)
      | _ => False
    | _ => False
  | .sx x i => match i.ev σ with
    | .int _ j => match x.ev σ with
      | .str s => (0 ≤ j ∧ j < s.length) ∧ K (.int .u8 (s.getD j.toNat 0).toNat)
      | _ => False
    | _ => False
  | .ext k x => match x.ev σ with
    | .tup l => k < l.length ∧ K (l.getD k .junk)
    | _ => False
  | .bld z parts => bldParts σ z parts fun z' => z'.isAgg = true ∧ K z'
  | .lens x => match x.ev σ with
    | .str s => K (.int .i64 s.length)
    | _ => False
  | .len x => match slLen (x.ev σ) with
    | some n => K (.int .i64 n)
    | none => False
  | .mkfn f caps => (caps.map (·.ev σ)).all SV.isVal = true ∧ K (.fn f (caps.map (·.ev σ)))
  | .nck x => match x.ev σ with
    | .ptr i p o => K (.ptr i p o)
    | .eptr w d f l i p o => K (.eptr w d f l i p o)
    | .vptr i j p o => K (.vptr i j p o)
    | .ref c p o => K (.ref c p o)
    | .fn f c => K (.fn f c)
    | _ => False
  | .mkif t x => (x.ev σ).isVal = true ∧ K (.iface t (x.ev σ))
  | .aeq neg e x y => (esP e (x.ev σ) ∧ esP e (y.ev σ)) ∧ K (.bool (if neg then !eqV e (x.ev σ) (y.ev σ) else eqV e (x.ev σ) (y.ev σ)))
  | .tas t z x => match x.ev σ with
    | .iface t' y => if t' = t then K (.tup [y, .bool true]) else K (.tup [z, .bool false])
    | _ => False
  | .ieq neg tab x y => match x.ev σ with
    | .iface t a => match y.ev σ with
      | .iface t' b => if t' = t then (match tabES tab t with
        | some e => (esP e a ∧ esP e b) ∧ K (.bool (if neg then !eqV e a b else eqV e a b))
        | none => False) else K (.bool neg)
      | _ => False
    | _ => False
  | .snil neg x => match slLen (x.ev σ) with
    | some n => match x.ev σ with
      | .nils => K (.bool (!neg))
      | _ => (decide (n = 0) = true → K .anyb) ∧ (decide (n = 0) = false → K (.bool neg))
    | none => False
  | .pnil neg x => match x.ev σ with
    | .nilp => K (.bool (!neg))
    | .ptr .. => K (.bool neg)
    | .eptr .. => K (.bool neg)
    | .vptr .. => K (.bool neg)
    | .ref .. => K (.bool neg)
    | _ => False
  | .mx x y => match x.ev σ, y.ev σ with
    | .int k a, .int k' b => k' = k ∧ K (.int k (if a < b then b else a))
    | _, _ => False
  | .mn x y => match x.ev σ, y.ev σ with
    | .int k a, .int k' b => k' = k ∧ K (.int k (if b < a then b else a))
    | _, _ => False
  | .ssl x lo hi => match x.ev σ with
    | .str s => bound 0 lo fun l => bound s.length hi fun h => (l ≤ h ∧ h ≤ s.length) ∧ K (.str ((s.take h).drop l))
    | _ => False
  | .slc w x lo hi mx => match mx, x.ev σ with
    | none, .lst w' d f l => w' = w ∧ bound 0 lo fun a => bound l.length hi fun b => (a ≤ b ∧ b ≤ l.length) ∧ K (.lst w d f ((l.take b).drop a))
    | some c, .lst w' d f l => (w' = w ∧ hi.isSome = true) ∧ bound 0 lo fun a => bound l.length hi fun b => bound 0 (some c) fun m => (a ≤ b ∧ b = m ∧ m ≤ l.length) ∧ K (.lit w d f ((l.take b).drop a))
    | none, .vec i n => bound 0 lo fun a => bound n hi fun b => (a = 0 ∧ b ≤ n) ∧ K (.pvec i b)
    | _, _ => False
  | .asl n w x => match x.ev σ with
    | .ref c p o => match getP c p with
      | .arr n' w' f => (n' = n ∧ w' = w ∧ n ≤ 1000000 ∧ atP c p 0 o) ∧ K (.lst w (0 : Nat) f (rng n))
      | _ => False
    | _ => False
where bound (d : Nat) (x : Option Opd) (K : Nat → Prop) : Prop := match x with
  | none => K d
  | some x => match x.ev σ with
    | .int _ j => 0 ≤ j ∧ K j.toNat
    | _ => False

end Go.Sx
/-! Sx, part 5: the translation of operations that touch no memory, and that it is right. -/
set_option linter.unusedSimpArgs false
set_option linter.unusedVariables false
namespace Go.Sx
open Go

variable {P : Program}

def isAggD : TypeDesc → Bool
  | .struct _ | .array _ _ => true
  | _ => false

def tsz (P : Program) (t : TypeId) : Option (Nat × Bool) :=
  match P.info? t, P.underlying t with
  | some i, some d => some (i.size, isAggD d)
  | _, _ => none

theorem run_isAgg {t : TypeId} {n : Nat} {ag : Bool} (h : tsz P t = some (n, ag)) (w : World) : (isAgg t).run P w = .ok ag w := by
  unfold tsz at h
  split at h
  · rename_i i d h1 h2
    simp only [Option.some.injEq, Prod.mk.injEq] at h
    obtain ⟨rfl, rfl⟩ := h
    simp only [isAgg, Sem.run_bind, run_underlying h2, Result.andThen_ok]
    cases d <;> rfl
  · cases h

theorem run_sizeOf {t : TypeId} {n : Nat} {ag : Bool} (h : tsz P t = some (n, ag)) (w : World) : (sizeOf t).run P w = .ok n w := by
  unfold tsz at h
  split at h
  · rename_i i d h1 h2
    simp only [Option.some.injEq, Prod.mk.injEq] at h
    obtain ⟨rfl, rfl⟩ := h
    simp [sizeOf, typeInfo, h1]
  · cases h

def PureRun (P : Program) (o : Oper) (ε : Env) (a : Act) (sv : SV) : Prop :=
  ∃ v, (∀ w, (execOp a.eval o).run P w = .ok (.value v) w) ∧ SatV ε sv v

def PureOK (P : Program) (o : Oper) (σ : List SV) (sv : SV) : Prop := ∀ ε a, SlotsOK ε σ a → PureRun P o ε a sv

section vals
variable {ε : Env}

theorem run_part {t : TypeId} {n : Nat} {ag : Bool} (h : tsz P t = some (n, ag)) (w : World) (cs : List Value) (off : Nat) (hl : off + n ≤ cs.length) (h1 : ag = false → n = 1) :
    (part t cs.toArray off).run P w = .ok (boxed ag (sub cs off n)) w := by
  simp only [part, Sem.run_bind, run_isAgg h, Result.andThen_ok]
  cases ag with
  | true =>
    simp only [if_true, Sem.run_bind, run_sizeOf h, Result.andThen_ok, Sem.run_pure, boxed]
    congr 2
    simp [sub, List.extract_eq_take_drop]
  | false =>
    have hn := h1 rfl
    subst hn
    have hlt : off < cs.length := by omega
    simp only [Bool.false_eq_true, if_false]
    have : cs.toArray[off]? = some cs[off] := by simp [hlt]
    rw [this]
    simp only [Sem.run_pure, boxed, Bool.false_eq_true, if_false]
    congr 1
    simp [sub, List.headD_eq_head?_getD, List.head?_take, List.head?_drop, hlt]
end vals

theorem wd_scalar {c : SV} (h : c.isAgg = false) : wd c = 1 := by cases c <;> first | rfl | cases h

theorem isAgg_wd {ε : Env} {c : SV} {cs : List Value} (h : SatC c ε cs) : SatV ε c (boxed c.isAgg cs) := satC_sat h

mutual
def cellsOf : SV → Option (List Value)
  | .int k n => some [.int k n]
  | .bool b => some [.bool b]
  | .str s => some [.string ⟨s.toArray⟩]
  | .nils => some [.slice none 0 0]
  | .nili => some [.nilIface]
  | .nilf => some [.nilFunc]
  | .nilp => some [.pointer none]
  | .nilm => some [.map none]
  | .arr n w f => match (List.range n).mapM fun i => cellsOf (f i) with
    | some css => if css.all (·.length == w) then some css.flatten else none
    | none => none
  | .agg l => cellsOfL l
  | _ => none
def cellsOfL : List SV → Option (List Value)
  | [] => some []
  | x :: r => match cellsOf x, cellsOfL r with
    | some a, some b => some (a ++ b)
    | _, _ => none
end

theorem flatten_sub : ∀ (css : List (List Value)) (w i : Nat), (∀ c ∈ css, c.length = w) → ∀ (hi : i < css.length), sub css.flatten (i * w) w = css[i]
  | [], _, _, _, hi => absurd hi (Nat.not_lt_zero _)
  | c :: r, w, 0, h, _ => by
    have hc := h c (by simp)
    simp [sub, ← hc]
  | c :: r, w, i + 1, h, hi => by
    have hc := h c (by simp)
    have ih := flatten_sub r w i (fun c hc => h c (by simp [hc])) (by simpa using hi)
    simp only [List.flatten_cons, List.getElem_cons_succ, ← ih]
    simp only [sub, Nat.add_mul, Nat.one_mul, List.drop_append, hc]
    rw [List.drop_of_length_le (by omega)]
    simp

theorem flatten_len : ∀ (css : List (List Value)) (w : Nat), (∀ c ∈ css, c.length = w) → css.flatten.length = css.length * w
  | [], _, _ => by simp
  | c :: r, w, h => by
    have hc := h c (by simp)
    have ih := flatten_len r w (fun c hc => h c (by simp [hc]))
    simp [hc, ih, Nat.add_mul, Nat.add_comm]

theorem mapM_get {α β : Type _} {f : α → Option β} : ∀ (l : List α) (r : List β), l.mapM f = some r → r.length = l.length ∧ ∀ i (h : i < l.length) (h' : i < r.length), f l[i] = some r[i]
  | [], r, h => by simp at h; subst h; simp
  | x :: l, r, h => by
    simp only [List.mapM_cons, bind, Option.pure_def] at h
    cases hx : f x with
    | none => rw [hx] at h; cases h
    | some y =>
      rw [hx] at h
      simp only [Option.bind] at h
      cases hl : l.mapM f with
      | none => rw [hl] at h; cases h
      | some ys =>
        rw [hl] at h
        simp only [Option.some.injEq] at h
        subst h
        obtain ⟨i1, i2⟩ := mapM_get l ys hl
        refine ⟨by simp [i1], fun i h h' => ?_⟩
        cases i with
        | zero => simpa using hx
        | succ i => simpa using i2 i (by simpa using h) (by simpa using h')

mutual
theorem cellsOf_ok : ∀ (c : SV) (cs : List Value) (ε : Env), cellsOf c = some cs → SatC c ε cs
  | .int .., _, _, h => by simp only [cellsOf, Option.some.injEq] at h; subst h; rfl
  | .bool .., _, _, h => by simp only [cellsOf, Option.some.injEq] at h; subst h; rfl
  | .str .., _, _, h => by simp only [cellsOf, Option.some.injEq] at h; subst h; rfl
  | .nils, _, _, h => by simp only [cellsOf, Option.some.injEq] at h; subst h; rfl
  | .nili, _, _, h => by simp only [cellsOf, Option.some.injEq] at h; subst h; rfl
  | .nilf, _, _, h => by simp only [cellsOf, Option.some.injEq] at h; subst h; rfl
  | .nilp, _, _, h => by simp only [cellsOf, Option.some.injEq] at h; subst h; rfl
  | .nilm, _, _, h => by simp only [cellsOf, Option.some.injEq] at h; subst h; rfl
  | .arr n w f, cs, ε, h => by
    simp only [cellsOf] at h
    split at h
    · rename_i css hm
      split at h
      · rename_i hw
        simp only [Option.some.injEq] at h
        subst h
        have hw' : ∀ c ∈ css, c.length = w := by simpa using hw
        obtain ⟨h1, h2⟩ := mapM_get _ _ hm
        simp only [List.length_range] at h1
        simp only [SatC]
        refine ⟨by rw [flatten_len css w hw', h1], fun i hi => ?_⟩
        rw [flatten_sub css w i hw' (by omega)]
        have := h2 i (by simpa using hi) (by omega)
        rw [List.getElem_range] at this
        exact cellsOf_ok (f i) _ ε this
      · cases h
    · cases h
  | .agg l, cs, ε, h => by simp only [cellsOf] at h; simp only [SatC]; exact cellsOfL_ok l cs ε h
  | .tup .., _, _, h => by simp only [cellsOf] at h; cases h
  | .anyb, _, _, h => by simp only [cellsOf] at h; cases h
  | .lst .., _, _, h => by simp only [cellsOf] at h; cases h
  | .lit .., _, _, h => by simp only [cellsOf] at h; cases h
  | .eptr .., _, _, h => by simp only [cellsOf] at h; cases h
  | .ref .., _, _, h => by simp only [cellsOf] at h; cases h
  | .ptr .., _, _, h => by simp only [cellsOf] at h; cases h
  | .vec .., _, _, h => by simp only [cellsOf] at h; cases h
  | .vptr .., _, _, h => by simp only [cellsOf] at h; cases h
  | .pvec .., _, _, h => by simp only [cellsOf] at h; cases h
  | .map .., _, _, h => by simp only [cellsOf] at h; cases h
  | .fn .., _, _, h => by simp only [cellsOf] at h; cases h
  | .iface .., _, _, h => by simp only [cellsOf] at h; cases h
  | .raw .., _, _, h => by simp only [cellsOf] at h; cases h
  | .junk, _, _, h => by simp only [cellsOf] at h; cases h
theorem cellsOfL_ok : ∀ (l : List SV) (cs : List Value) (ε : Env), cellsOfL l = some cs → SatL l ε cs
  | [], cs, _, h => by simp only [cellsOfL, Option.some.injEq] at h; subst h; rfl
  | x :: r, cs, ε, h => by
    simp only [cellsOfL] at h
    split at h
    · rename_i a b h1 h2
      simp only [Option.some.injEq] at h
      subst h
      exact ⟨a, b, rfl, cellsOf_ok x a ε h1, cellsOfL_ok r b ε h2⟩
    · cases h
end

def veq : Value → Value → Bool
  | .bool a, .bool b => a == b
  | .int k a, .int j b => k == j && a == b
  | .string a, .string b => a.data.toList == b.data.toList
  | .slice none 0 0, .slice none 0 0 => true
  | .nilIface, .nilIface => true
  | .nilFunc, .nilFunc => true
  | .pointer none, .pointer none => true
  | .map none, .map none => true
  | _, _ => false

theorem veq_ok {a b : Value} (h : veq a b = true) : a = b := by
  unfold veq at h
  split at h <;> first
    | rfl
    | (simp at h; subst h; rfl)
    | (simp at h; obtain ⟨rfl, rfl⟩ := h; rfl)
    | (cases h; done)
    | (rename_i x y
       simp at h
       cases x; cases y
       simp at h
       subst h; rfl)

def vseq : List Value → List Value → Bool
  | [], [] => true
  | a :: x, b :: y => veq a b && vseq x y
  | _, _ => false

theorem vseq_ok : ∀ {x y : List Value}, vseq x y = true → x = y
  | [], [], _ => rfl
  | a :: x, b :: y, h => by
    simp only [vseq, Bool.and_eq_true] at h
    rw [veq_ok h.1, vseq_ok h.2]
  | [], _ :: _, h => by cases h
  | _ :: _, [], h => by cases h

def zeroSV (P : Program) : Nat → TypeId → Option SV
  | 0, _ => none
  | fuel + 1, t => match P.underlying t with
    | some .bool => some (.bool false)
    | some (.int k) => some (.int k 0)
    | some .string => some (.str [])
    | some (.pointer _) => some .nilp
    | some (.slice _) => some .nils
    | some (.interface _) => some .nili
    | some (.func ..) => some .nilf
    | some (.map ..) => some .nilm
    | some (.struct fs) => (fs.toList.mapM fun f => zeroSV P fuel f.type).map .agg
    | some (.array n e) => (zeroSV P fuel e).map fun z => .arr n (wd z) fun _ => z
    | _ => none

def zok (P : Program) (t : TypeId) : Option SV :=
  match zeroSV P 8 t, P.info? t with
  | some z, some i => match i.zero, cellsOf z with
    | some v, some cs => if vseq cs v.cells.toList then some z else none
    | _, _ => none
  | _, _ => none

theorem zok_ok {t : TypeId} {z : SV} (h : zok P t = some z) : ∃ i v, P.info? t = some i ∧ i.zero = some v ∧ ∀ ε, SatC z ε v.cells.toList := by
  unfold zok at h
  split at h <;> try (cases h; done)
  rename_i z' i h1 h2
  split at h <;> try (cases h; done)
  rename_i v cs h3 h4
  split at h <;> try (cases h; done)
  rename_i hv
  simp only [Option.some.injEq] at h
  subst h
  refine ⟨i, v, h2, h3, fun ε => ?_⟩
  rw [← vseq_ok hv]
  exact cellsOf_ok _ _ _ h4

def compParts (f : Nat → Option (List Step × Nat × Nat)) : List (Nat × Operand) → Option (List (List Step × Nat × Nat × Opd))
  | [] => some []
  | (k, x) :: r => match f k, compO x, compParts f r with
    | some (p, o, n), some y, some ys => some ((p, o, n, y) :: ys)
    | _, _, _ => none

def placeS (P : Program) (fs : Array Field) (k : Nat) : Option (List Step × Nat × Nat) :=
  match fs[k]? with
  | some f => match P.info? f.type with
    | some i => some ([.fld k], f.offset, i.size)
    | none => none
  | none => none

def compBld (P : Program) (t : TypeId) (parts : Array (Nat × Operand)) : Option PIO :=
  match zok P t, P.underlying t with
  | some z, some (.struct fs) => if fs.toList.all fun f => (P.info? f.type).isSome then (compParts (placeS P fs) parts.toList).map (.bld z) else none
  | some z, some (.array n e) => match P.info? e with
    | some i => (compParts (fun k => some ([.idx k n], k * i.size, i.size)) parts.toList).map (.bld z)
    | none => none
  | _, _ => none

def compOO : Option Operand → Option (Option Opd)
  | none => some none
  | some x => (compO x).map some

def compB (P : Program) (c : Call) : Option PIO :=
  match c.callee, c.args.toList, c.argTypes.toList with
  | .builtin .len, [x], [t] => do
    let x ← compO x
    match P.underlying t with
    | some .string => pure (.lens x)
    | some (.slice _) => pure (.len x)
    | _ => none
  | .builtin .max, [x, y], [t, _] => do
    match P.underlying t with
    | some (.int _) => pure (.mx (← compO x) (← compO y))
    | _ => none
  | .builtin .min, [x, y], [t, _] => do
    match P.underlying t with
    | some (.int _) => pure (.mn (← compO x) (← compO y))
    | _ => none
  | _, _, _ => none

def esOf (P : Program) : Nat → TypeId → Option ES
  | 0, _ => none
  | fuel + 1, t => match P.underlying t with
    | some .bool => some .bool
    | some (.int k) => some (.int k)
    | some .string => some .str
    | some (.struct fs) => (fs.toList.mapM fun f => esOf P fuel f.type).map .st
    | some (.array n e) => match esOf P fuel e, P.info? e with
      | some z, some i => some (.arr n i.size z)
      | _, _ => none
    | _ => none
mutual
def wE : ES → Nat
  | .st l => wEL l
  | .arr n w _ => n * w
  | _ => 1
def wEL : List ES → Nat
  | [] => 0
  | e :: l => wE e + wEL l
end
def aggE : ES → Bool
  | .st _ => true
  | .arr .. => true
  | _ => false
mutual
def dE : ES → Nat
  | .st l => dEL l + 1
  | .arr _ _ e => dE e + 1
  | _ => 1
def dEL : List ES → Nat
  | [] => 0
  | e :: l => max (dE e) (dEL l)
end
mutual
def esB (P : Program) : TypeId → ES → Bool
  | t, .int k => match P.underlying t with
    | some (.int k') => decide (k' = k)
    | _ => false
  | t, .bool => match P.underlying t with
    | some .bool => true
    | _ => false
  | t, .str => match P.underlying t with
    | some .string => true
    | _ => false
  | t, .st l => match P.underlying t with
    | some (.struct fs) => esBL P fs.toList 0 l && !P.stoodInHeld t
    | _ => false
  | t, .arr n w e => match P.underlying t with
    | some (.array n' t') => decide (n' = n) && decide (P.cellsOf t' = w) && decide (tsz P t' = some (w, aggE e)) && decide (wE e = w) && esB P t' e
    | _ => false
def esBL (P : Program) : List Field → Nat → List ES → Bool
  | [], _, [] => true
  | f :: fs, off, e :: l => decide (f.name ≠ "_") && decide (f.offset = off) && decide (tsz P f.type = some (wE e, aggE e)) && esB P f.type e && esBL P fs (off + wE e) l
  | _, _, _ => false
end
def isNilC : Operand → Bool
  | .const (.slice none 0 0) => true
  | _ => false
def isNilP : Operand → Bool
  | .const (.pointer none) => true
  | _ => false
def compEq (P : Program) (neg : Bool) (t : TypeId) (x y : Opd) : Option PIO :=
  match esOf P 8 t with
  | some e => if esB P t e && aggE e && decide (dE e ≤ 100) && !P.eqGuardType P.depth t then some (.aeq neg e x y) else none
  | none => none
def ieqOf (P : Program) (t : TypeId) : Option (TypeId × ES) := match P.info? t with
  | some i => if i.methods.size = 0 || !i.comparable then none else match esOf P 8 t with
    | some e => if esB P t e && decide (dE e ≤ 100) then some (t, e) else none
    | none => none
  | none => none
def ieqTab (P : Program) : List (TypeId × ES) := (List.range P.types.size).filterMap (ieqOf P)
theorem ieqOf_ok {t u : TypeId} {e : ES} (h : ieqOf P u = some (t, e)) : esB P t e = true ∧ dE e ≤ 100 ∧ ∃ i, P.info? t = some i ∧ i.comparable = true := by
  unfold ieqOf at h
  split at h <;> try (cases h; done)
  rename_i i hi
  split at h <;> try (cases h; done)
  rename_i hc
  split at h <;> try (cases h; done)
  rename_i e' he
  split at h <;> try (cases h; done)
  rename_i hb
  simp only [Option.some.injEq, Prod.mk.injEq] at h
  obtain ⟨rfl, rfl⟩ := h
  simp only [Bool.and_eq_true, decide_eq_true_eq] at hb
  simp only [Bool.or_eq_true, not_or, Bool.not_eq_true, Bool.not_eq_false'] at hc
  exact ⟨hb.1, hb.2, i, hi, hc.2⟩
theorem tabES_mem {t : TypeId} {e : ES} : ∀ {l : List (TypeId × ES)}, tabES l t = some e → (t, e) ∈ l
  | [], h => by cases h
  | (u, x) :: r, h => by
    simp only [tabES] at h
    split at h
    · rename_i hu
      cases h; subst hu; exact List.mem_cons_self
    · exact List.mem_cons_of_mem _ (tabES_mem h)
theorem ieqTab_ok {t : TypeId} {e : ES} (h : tabES (ieqTab P) t = some e) : esB P t e = true ∧ dE e ≤ 100 ∧ ∃ i, P.info? t = some i ∧ i.comparable = true := by
  obtain ⟨u, _, hu⟩ := List.mem_filterMap.1 (tabES_mem h)
  exact ieqOf_ok hu
def zagg (P : Program) (t : TypeId) : Option SV := match zok P t, P.info? t with
  | some z, some i => match i.zero with
    | some (.agg _) => if z.isAgg then some z else none
    | _ => none
  | _, _ => none
theorem zagg_ok {t : TypeId} {z : SV} (h : zagg P t = some z) : z.isAgg = true ∧ ∃ i cs, P.info? t = some i ∧ i.zero = some (.agg cs) ∧ ∀ ε, SatC z ε cs.toList := by
  unfold zagg at h
  split at h <;> try (cases h; done)
  rename_i z' i h1 h2
  split at h <;> try (cases h; done)
  rename_i cs h3
  split at h <;> try (cases h; done)
  rename_i hz
  simp only [Option.some.injEq] at h
  subst h
  obtain ⟨i', v, e1, e2, e3⟩ := zok_ok h1
  rw [h2] at e1; cases e1
  rw [h3] at e2; cases e2
  exact ⟨hz, i, cs, h2, h3, e3⟩
def compP (P : Program) : Op → Option PIO
  | .move x | .assign x => (compO x).map .mv
  | .pick c x y => do pure (.pick (← compO c) (← compO x) (← compO y))
  | .binOp op t xo yo _ => do
    let x ← compO xo
    let y ← compO yo
    match P.underlying t with
    | some (.int _) =>
      match AOp.of op with
      | some o => pure (.ar o x y)
      | none => match COp.of op with
        | some o => pure (.cmp o x y)
        | none => none
    | some .bool => match op with
      | .eql => pure (.beq false x y)
      | .neq => pure (.beq true x y)
      | _ => none
    | some .string => match op with
      | .add => pure (.cat x y)
      | .eql => pure (.seq false x y)
      | .neq => pure (.seq true x y)
      | _ => none
    | some (.slice _) => match op with
      | .eql => if isNilC yo then pure (.snil false x) else none
      | .neq => if isNilC yo then pure (.snil true x) else none
      | _ => none
    | some (.pointer _) => match op with
      | .eql => if isNilP yo then pure (.pnil false x) else none
      | .neq => if isNilP yo then pure (.pnil true x) else none
      | _ => none
    | some (.struct _) | some (.array _ _) => match op with
      | .eql => compEq P false t x y
      | .neq => compEq P true t x y
      | _ => none
    | some (.interface _) => match op with
      | .eql => pure (.ieq false (ieqTab P) x y)
      | .neq => pure (.ieq true (ieqTab P) x y)
      | _ => none
    | _ => none
  | .unOp .not _ x => (compO x).map .nt
  | .unOp .neg _ x => (compO x).map .neg
  | .convert s d x => do
    let x ← compO x
    match P.underlying s, P.underlying d with
    | some (.int _), some (.int k) => pure (.conv k x)
    | _, _ => none
  | .fieldAddr s x k => do
    let x ← compO x
    match P.underlying s with
    | some (.struct fs) => match fs[k]? with
      | some f => match tsz P f.type with
        | some (n, _) => if n = 0 then none else pure (.fa k f.offset x)
        | none => none
      | none => none
    | _ => none
  | .field s x k => do
    let x ← compO x
    match P.underlying s with
    | some (.struct fs) => match fs[k]? with
      | some f => match tsz P f.type with
        | some (n, ag) => if ag = false ∧ n ≠ 1 then none else pure (.fld k f.offset n ag x)
        | none => none
      | none => none
    | _ => none
  | .indexAddr t x i => do
    let x ← compO x
    let i ← compO i
    match P.underlying t with
    | some (.array n e) => match tsz P e with
      | some (sz, _) => pure (.ia n sz x i)
      | none => none
    | some (.slice e) => match tsz P e with
      | some (sz, _) => pure (.is sz x i)
      | none => none
    | _ => none
  | .index t x i => do
    let x ← compO x
    let i ← compO i
    match P.underlying t with
    | some (.array n e) => match tsz P e with
      | some (sz, ag) => if ag = false ∧ sz ≠ 1 then none else pure (.ix n sz ag x i)
      | none => none
    | some .string => pure (.sx x i)
    | _ => none
  | .extract x k => (compO x).map (.ext k)
  | .makeFunc f first caps => match f, first.toList with
    | .func f, [] => (caps.toList.mapM compO).map (.mkfn f)
    | _, _ => none
  | .nilCheck x => (compO x).map .nck
  | .makeInterface t x => do
    let x ← compO x
    match P.underlying t with
    | some (.interface _) | none => none
    | _ => pure (.mkif t x)
  | .typeAssert x _ t ok => do
    let x ← compO x
    match P.underlying t with
    | some (.interface _) | none => none
    | _ => if ok then match zagg P t with
      | some z => pure (.tas t z x)
      | none => none else none
  | .call c => compB P c
  | .build t parts => compBld P t parts
  | .slice t x lo hi mx => do
    let x ← compO x
    let lo ← compOO lo
    let hi ← compOO hi
    let mx ← compOO mx
    match P.underlying t with
    | some .string => match mx with
      | none => pure (.ssl x lo hi)
      | some _ => none
    | some (.slice e) => match tsz P e with
      | some (n, _) => pure (.slc n x lo hi mx)
      | none => none
    | some (.array n e) => match lo, hi, mx with
      | none, none, none => match tsz P e with
        | some (w, _) => pure (.asl n w x)
        | none => none
      | _, _, _ => none
    | _ => none
  | _ => none

theorem bind_some {α β : Type _} {x : Option α} {f : α → Option β} {b : β} (h : x.bind f = some b) : ∃ a, x = some a ∧ f a = some b := by
  cases x with
  | none => cases h
  | some a => exact ⟨a, rfl, h⟩

theorem AOp.ev_run {k k' : IntKind} {a b : Int} {op : BinOp} {ao : AOp} (h : AOp.of op = some ao) (hk : ao.kinds k k') {K : Int → Prop} (hev : ao.ev k a b K) :
    ∃ n, K n ∧ ∀ w, (binOp op 0 (.int k a) (.int k' b)).run P w = .ok (.int k n) w := by
  cases op <;> simp only [AOp.of] at h <;> cases h <;> simp only [AOp.kinds] at hk <;> simp only [AOp.ev] at hev
  all_goals first
    | (subst hk; exact ⟨_, hev, fun w => by simp [binOp, Op.intArith, Op.intBits, bitAnd, bitOr, bitXor, bitAndNot]⟩)
    | (subst hk; exact ⟨_, hev.2, fun w => by simp [binOp, Op.intDiv, hev.1]⟩)
    | (exact ⟨_, hev.2, fun w => by simp [binOp, Op.shift, Int.not_lt.2 hev.1]⟩)

theorem binOp_int_t {op : BinOp} {t t' : TypeId} {k k' : IntKind} {a b : Int} : binOp op t (.int k a) (.int k' b) = binOp op t' (.int k a) (.int k' b) := by
  cases op <;> rfl

theorem COp.ev_run {k : IntKind} {a b : Int} {op : BinOp} {co : COp} (h : COp.of op = some co) (w : World) :
    (binOp op 0 (.int k a) (.int k b)).run P w = .ok (.bool (co.ev a b)) w := by
  cases op <;> simp only [COp.of] at h <;> cases h <;> simp [binOp, Op.intCmp, COp.ev, GT.gt, GE.ge] <;> first
    | rfl
    | (by_cases hab : a = b <;> simp [hab])

end Go.Sx
/-! Sx, part 5e: values are compared cell by cell. -/
set_option linter.unusedSimpArgs false
set_option linter.unusedVariables false
namespace Go.Sx
open Go
variable {P : Program}
theorem esP_agg : ∀ {e : ES} {x : SV}, esP e x → x.isAgg = aggE e := by
  intro e x h
  cases e <;> cases x <;> simp only [esP] at h <;> first
    | exact h.elim
    | rfl
mutual
theorem esP_wd : ∀ {e : ES} {x : SV}, esP e x → wd x = wE e
  | .int _, x, h => by cases x <;> simp only [esP] at h <;> rfl
  | .bool, x, h => by cases x <;> simp only [esP] at h <;> rfl
  | .str, x, h => by cases x <;> simp only [esP] at h <;> rfl
  | .st l, x, h => by
    cases x <;> simp only [esP] at h
    simp only [wd, wE]
    exact esPL_wd h
  | .arr n w e, x, h => by
    cases x <;> simp only [esP] at h
    obtain ⟨rfl, rfl, _⟩ := h
    rfl
theorem esPL_wd : ∀ {l : List ES} {xs : List SV}, esPL l xs → wds xs = wEL l
  | [], xs, h => by
    cases xs with
    | nil => rfl
    | cons => simp only [esPL] at h
  | e :: l, xs, h => by
    cases xs with
    | nil => simp only [esPL] at h
    | cons x xs =>
      simp only [esPL] at h
      simp only [wds, wEL]
      rw [esP_wd h.1, esPL_wd h.2]
end
theorem eqItems_ok {d : Nat} {t' : TypeId} {e : ES} {w' : Nat} (ht : tsz P t' = some (w', aggE e)) {f g : Nat → SV} {n : Nat} {cs cs' : List Value} (h1 : cs.length = n * w') (h2 : cs'.length = n * w') (w : World)
    (h0 : aggE e = false → w' = 1) (ih : ∀ i, i < n → (Op.equalIn d t' (boxed (aggE e) (sub cs (i * w') w')) (boxed (aggE e) (sub cs' (i * w') w'))).run P w = .ok (eqV e (f i) (g i)) w) :
    ∀ is : List Nat, (∀ i ∈ is, i < n) → (Op.eqItems d t' w' cs.toArray cs'.toArray is).run P w = .ok (is.all fun i => eqV e (f i) (g i)) w
  | [], _ => by simp [Op.eqItems]
  | i :: is, hi => by
    have hl := hi i (by simp)
    have hle := mul_le_len (w := w') hl
    have r := eqItems_ok ht h1 h2 w h0 ih is (fun j hj => hi j (by simp [hj]))
    simp only [Op.eqItems, Sem.run_bind, run_part ht w cs (i * w') (by omega) h0, run_part ht w cs' (i * w') (by omega) h0, Result.andThen_ok, ih i hl, List.all_cons]
    cases eqV e (f i) (g i)
    · simp
    · simpa using r
theorem aggE_w : ∀ {e : ES}, aggE e = false → wE e = 1 := by
  intro e h
  cases e <;> first | rfl | (simp [aggE] at h)
mutual
theorem equalIn_ok : ∀ (e : ES) {t : TypeId} {d : Nat} {x y : SV} {ε ε' : Env} {cs cs' : List Value} (w : World), esB P t e = true → dE e ≤ d → esP e x → esP e y → SatC x ε cs → SatC y ε' cs' →
    (Op.equalIn d t (boxed (aggE e) cs) (boxed (aggE e) cs')).run P w = .ok (eqV e x y) w
  | .int k, t, d, x, y, ε, ε', cs, cs', w, hb, hd, hx, hy, sx, sy => by
    obtain ⟨a, rfl⟩ : ∃ a, x = .int k a := by cases x <;> simp_all [esP]
    obtain ⟨b, rfl⟩ : ∃ b, y = .int k b := by cases y <;> simp_all [esP]
    simp only [SatC] at sx sy
    subst sx; subst sy
    simp only [esB] at hb
    split at hb <;> try (cases hb; done)
    rename_i hu
    obtain ⟨d, rfl⟩ : ∃ d', d = d' + 1 := ⟨d - 1, by simp only [dE] at hd; omega⟩
    by_cases hab : a = b <;> simp [boxed, aggE, Op.equalIn, run_underlying hu, eqV, hab]
  | .bool, t, d, x, y, ε, ε', cs, cs', w, hb, hd, hx, hy, sx, sy => by
    obtain ⟨a, rfl⟩ : ∃ a, x = .bool a := by cases x <;> simp_all [esP]
    obtain ⟨b, rfl⟩ : ∃ b, y = .bool b := by cases y <;> simp_all [esP]
    simp only [SatC] at sx sy
    subst sx; subst sy
    simp only [esB] at hb
    split at hb <;> try (cases hb; done)
    rename_i hu
    obtain ⟨d, rfl⟩ : ∃ d', d = d' + 1 := ⟨d - 1, by simp only [dE] at hd; omega⟩
    simp [boxed, aggE, Op.equalIn, run_underlying hu, eqV]
  | .str, t, d, x, y, ε, ε', cs, cs', w, hb, hd, hx, hy, sx, sy => by
    obtain ⟨a, rfl⟩ : ∃ a, x = .str a := by cases x <;> simp_all [esP]
    obtain ⟨b, rfl⟩ : ∃ b, y = .str b := by cases y <;> simp_all [esP]
    simp only [SatC] at sx sy
    subst sx; subst sy
    simp only [esB] at hb
    split at hb <;> try (cases hb; done)
    rename_i hu
    obtain ⟨d, rfl⟩ : ∃ d', d = d' + 1 := ⟨d - 1, by simp only [dE] at hd; omega⟩
    have hq : ((⟨a.toArray⟩ : ByteArray) == ⟨b.toArray⟩) = decide (a = b) := by
      have k : ∀ x y : ByteArray, (x == y) = (x.data == y.data) := fun x y => by cases x; cases y; rfl
      rw [k]
      by_cases hab : a = b
      · subst hab; simp
      · simp [hab]
    simp [boxed, aggE, Op.equalIn, run_underlying hu, eqV, hq]
  | .st l, t, d, x, y, ε, ε', cs, cs', w, hb, hd, hx, hy, sx, sy => by
    cases x <;> simp only [esP] at hx
    cases y <;> simp only [esP] at hy
    simp only [SatC] at sx sy
    simp only [esB] at hb
    split at hb <;> try (cases hb; done)
    rename_i fs hu
    simp only [Bool.and_eq_true, Bool.not_eq_true'] at hb
    simp only [dE] at hd
    obtain ⟨d, rfl⟩ : ∃ d', d = d' + 1 := ⟨d - 1, by omega⟩
    have hfs : P.fieldsOf t = fs := by simp [Program.fieldsOf, hu]
    simp only [boxed, aggE, if_true, eqV]
    rw [run_equalIn_struct w d t cs.toArray cs'.toArray (by rw [hfs]; exact hu) hb.2, hfs]
    have := eqFields_ok l w (d := d) (fs := fs.toList) (off := 0) (pre := []) (pre' := []) hb.1 (by omega) hx hy sx sy rfl rfl
    simpa using this
  | .arr n w' e, t, d, x, y, ε, ε', cs, cs', w, hb, hd, hx, hy, sx, sy => by
    cases x <;> simp only [esP] at hx
    cases y <;> simp only [esP] at hy
    obtain ⟨rfl, rfl, hx⟩ := hx
    obtain ⟨rfl, rfl, hy⟩ := hy
    simp only [SatC] at sx sy
    simp only [esB] at hb
    split at hb <;> try (cases hb; done)
    rename_i n' t' hu
    simp only [Bool.and_eq_true, decide_eq_true_eq] at hb
    obtain ⟨⟨⟨⟨rfl, h2⟩, h3⟩, h4⟩, h5⟩ := hb
    simp only [dE] at hd
    obtain ⟨d, rfl⟩ : ∃ d', d = d' + 1 := ⟨d - 1, by omega⟩
    simp only [boxed, aggE, if_true, eqV]
    have hi : ∃ i, P.info? t' = some i := by
      unfold tsz at h3
      split at h3 <;> first | exact ⟨_, by assumption⟩ | cases h3
    obtain ⟨i, hi⟩ := hi
    rw [run_equalIn_array w d cs.toArray cs'.toArray hu hi, h2]
    exact eqItems_ok h3 sx.1 sy.1 w (fun h => by rw [← h4]; exact aggE_w h) (fun j hj => equalIn_ok e w h5 (by omega) (hx j hj) (hy j hj) (sx.2 j hj) (sy.2 j hj)) _ (fun j hj => by simpa using hj)
theorem eqFields_ok : ∀ (l : List ES) {xs ys : List SV} {ε ε' : Env} {cs cs' pre pre' : List Value} (w : World) {d : Nat} {fs : List Field} {off : Nat}, esBL P fs off l = true → dEL l ≤ d → esPL l xs → esPL l ys → SatL xs ε cs → SatL ys ε' cs' → pre.length = off → pre'.length = off →
    (Op.eqFields d (pre ++ cs).toArray (pre' ++ cs').toArray fs).run P w = .ok (eqVL l xs ys) w
  | [], xs, ys, ε, ε', cs, cs', pre, pre', w, d, fs, off, hb, hd, hx, hy, sx, sy, hp, hp' => by
    cases fs with
    | nil => simp [Op.eqFields, eqVL]
    | cons => simp [esBL] at hb
  | e :: l, xs, ys, ε, ε', cs, cs', pre, pre', w, d, fs, off, hb, hd, hx, hy, sx, sy, hp, hp' => by
    cases fs with
    | nil => simp [esBL] at hb
    | cons f fs =>
      cases xs with
      | nil => simp only [esPL] at hx
      | cons x xs =>
        cases ys with
        | nil => simp only [esPL] at hy
        | cons y ys =>
          simp only [esPL] at hx hy
          simp only [SatL] at sx sy
          obtain ⟨a, b, rfl, s1, s2⟩ := sx
          obtain ⟨a', b', rfl, s1', s2'⟩ := sy
          simp only [esBL, Bool.and_eq_true, decide_eq_true_eq] at hb
          obtain ⟨⟨⟨⟨b1, b2⟩, b3⟩, b4⟩, b5⟩ := hb
          simp only [dEL] at hd
          have l1 : a.length = wE e := by rw [SatC.length _ s1, esP_wd hx.1]
          have l1' : a'.length = wE e := by rw [SatC.length _ s1', esP_wd hy.1]
          have q : sub (pre ++ (a ++ b)) off (wE e) = a := by
            simp only [sub]
            rw [List.drop_append_of_le_length (by omega), List.drop_of_length_le (by omega), List.nil_append, List.take_append_of_le_length (by omega), List.take_of_length_le (by omega)]
          have q' : sub (pre' ++ (a' ++ b')) off (wE e) = a' := by
            simp only [sub]
            rw [List.drop_append_of_le_length (by omega), List.drop_of_length_le (by omega), List.nil_append, List.take_append_of_le_length (by omega), List.take_of_length_le (by omega)]
          have r := eqFields_ok l (pre := pre ++ a) (pre' := pre' ++ a') w (d := d) (fs := fs) b5 (by omega) hx.2 hy.2 s2 s2' (by simp; omega) (by simp; omega)
          have k := equalIn_ok e w b4 (d := d) (by omega) hx.1 hy.1 s1 s1'
          have p1 := run_part b3 w (pre ++ (a ++ b)) off (by simp; omega) (fun h => aggE_w h)
          have p2 := run_part b3 w (pre' ++ (a' ++ b')) off (by simp; omega) (fun h => aggE_w h)
          rw [q] at p1
          rw [q'] at p2
          rw [List.append_assoc] at r
          rw [List.append_assoc] at r
          simp only [Op.eqFields, b1, ne_eq, not_false_eq_true, if_true, Sem.run_bind, b2, p1, p2, Result.andThen_ok, k, eqVL]
          cases eqV e x y
          · simp
          · simpa using r
end
theorem slLen_nil {x : SV} {n : Nat} (h : slLen x = some n) {ε : Env} {v : Value} (hs : SatV ε x v) : ∃ ao cap, v = .slice ao n cap ∧ (ao = none → n = 0) ∧ (x = .nils → ao = none) := by
  cases x <;> simp only [slLen, Option.some.injEq] at h <;> try (cases h; done)
  · subst h
    obtain ⟨cs, h1, h2⟩ := hs
    simp only [SatC] at h1
    obtain ⟨ao, cap, rfl, k1, _, k3, _⟩ := h1
    refine ⟨ao, cap, by rw [h2]; rfl, fun e => by have := k3 e; omega, fun e => by cases e⟩
  · subst h
    obtain ⟨cs, h1, h2⟩ := hs
    simp only [SatC] at h1
    obtain ⟨ao, rfl, _, k3, _⟩ := h1
    exact ⟨ao, _, by rw [h2]; rfl, k3, fun e => by cases e⟩
  · subst h
    obtain ⟨h1, h2, h3⟩ := sat_vec hs
    rcases h2 with ⟨e, rfl⟩ | ⟨b, cap, e, _⟩
    · exact ⟨none, 0, by rw [h3, e], fun _ => rfl, fun e => by cases e⟩
    · exact ⟨some _, cap, by rw [h3, e], fun e => by (cases e), fun e => by cases e⟩
  · subst h
    have := sat_nils hs
    exact ⟨none, 0, this, fun _ => rfl, fun _ => rfl⟩
end Go.Sx
