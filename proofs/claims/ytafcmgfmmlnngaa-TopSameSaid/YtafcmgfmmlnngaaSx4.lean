import Derived.Test.YtafcmgfmmlnngaaSx3
import Derived.WalkSpells
/-! Sx, part 4: operations that touch no memory. -/
set_option linter.unusedSimpArgs false
set_option linter.unusedVariables false
namespace Go.Sx
open Go

inductive Opd : Type 1 where
  | t (n : Nat)
  | c (x : SV)

def Opd.ev (σ : List SV) : Opd → SV
  | .t n => σ.getD n .junk
  | .c x => x

def SlotsOK (ε : Env) (σ : List SV) (a : Act) : Prop := σ.length = a.tmps.size ∧ ∀ k, SatV ε (σ.getD k .junk) (a.tmps.getD k undef)

def cstV : Value → Option SV
  | .bool b => some (.bool b)
  | .int k n => some (.int k n)
  | .string s => some (.str s.data.toList)
  | .slice none 0 0 => some .nils
  | .pointer none => some .nilp
  | .nilIface => some .nili
  | .nilFunc => some .nilf
  | .map none => some .nilm
  | _ => none

def compO : Operand → Option Opd
  | .tmp t => some (.t t)
  | .const v => (cstV v).map .c
  | .func f => some (.c (.fn f []))
  | .global _ => none

theorem cstV_ok {v : Value} {x : SV} (h : cstV v = some x) (ε : Env) : SatV ε x v := by
  unfold cstV at h
  split at h <;> cases h <;> first
    | exact ⟨_, rfl, rfl⟩
    | (refine ⟨_, rfl, ?_⟩; simp [boxed, SV.isAgg])

theorem compO_ok {x : Operand} {y : Opd} (h : compO x = some y) {ε : Env} {σ : List SV} {a : Act} (hs : SlotsOK ε σ a) : SatV ε (y.ev σ) (a.eval x) := by
  cases x with
  | tmp t => simp only [compO, Option.some.injEq] at h; subst h; exact hs.2 t
  | const v =>
    simp only [compO, Option.map_eq_some_iff] at h
    obtain ⟨sv, h1, rfl⟩ := h
    exact cstV_ok h1 ε
  | global g => simp [compO] at h
  | func f =>
    simp only [compO, Option.some.injEq] at h; subst h
    exact ⟨_, ⟨[], rfl, rfl⟩, rfl⟩

section inv
variable {ε : Env} {v : Value}
theorem sat_int {k : IntKind} {n : Int} (h : SatV ε (.int k n) v) : v = .int k n := by obtain ⟨cs, h1, h2⟩ := h; simp only [SatC] at h1; subst h1; exact h2
theorem sat_bool {b : Bool} (h : SatV ε (.bool b) v) : v = .bool b := by obtain ⟨cs, h1, h2⟩ := h; simp only [SatC] at h1; subst h1; exact h2
theorem sat_str {s : List UInt8} (h : SatV ε (.str s) v) : v = .string ⟨s.toArray⟩ := by obtain ⟨cs, h1, h2⟩ := h; simp only [SatC] at h1; subst h1; exact h2
theorem sat_nils (h : SatV ε .nils v) : v = .slice none 0 0 := by obtain ⟨cs, h1, h2⟩ := h; simp only [SatC] at h1; subst h1; exact h2
theorem sat_nilp (h : SatV ε .nilp v) : v = .pointer none := by obtain ⟨cs, h1, h2⟩ := h; simp only [SatC] at h1; subst h1; exact h2
theorem sat_ptr {i o : Nat} {p : List Step} (h : SatV ε (.ptr i p o) v) : i < ε.n ∧ pathOk p ∧ v = .pointer (some ⟨ε.blk i, o, none⟩) := by
  obtain ⟨cs, h1, h2⟩ := h; simp only [SatC] at h1; obtain ⟨h1, hp, h3⟩ := h1; subst h3; exact ⟨h1, hp, h2⟩
theorem sat_vec {i n : Nat} (h : SatV ε (.vec i n) v) : i < ε.n ∧ (ε.vv i = .slice none 0 0 ∧ n = 0 ∨ ∃ b cap, ε.vv i = .slice (some ⟨b, 0, none⟩) n cap ∧ n ≤ cap) ∧ v = ε.vv i := by
  obtain ⟨cs, h1, h2⟩ := h; simp only [SatC] at h1; obtain ⟨h1, hp, h3⟩ := h1; subst h3; exact ⟨h1, hp, h2⟩
theorem sat_vptr {i j o : Nat} {p : List Step} (h : SatV ε (.vptr i j p o) v) : i < ε.n ∧ pathOk p ∧ ∃ b cap n, ε.vv i = .slice (some ⟨b, 0, none⟩) n cap ∧ j < n ∧ v = .pointer (some ⟨b, o, none⟩) := by
  obtain ⟨cs, h1, h2⟩ := h; simp only [SatC] at h1
  obtain ⟨h1, hp, b, cap, n, h3, h4, h5⟩ := h1; subst h5; exact ⟨h1, hp, b, cap, n, h3, h4, h2⟩
theorem sat_agg {l : List SV} (h : SatV ε (.agg l) v) : ∃ cs, SatL l ε cs ∧ v = .agg cs.toArray := by
  obtain ⟨cs, h1, h2⟩ := h; simp only [SatC] at h1; exact ⟨cs, h1, h2⟩
theorem sat_arr {n w : Nat} {f : Nat → SV} (h : SatV ε (.arr n w f) v) : ∃ cs, SatC (.arr n w f) ε cs ∧ v = .agg cs.toArray := by
  obtain ⟨cs, h1, h2⟩ := h; exact ⟨cs, h1, h2⟩
theorem sat_tup {l : List SV} (h : SatV ε (.tup l) v) : ∃ vs, SatA l ε vs ∧ v = .tuple vs.toArray := h
theorem sat_fn {f : FuncId} {cap : List SV} (h : SatV ε (.fn f cap) v) : ∃ vs, SatA cap ε vs ∧ v = .func (.func f) #[] vs.toArray := by
  obtain ⟨cs, h1, h2⟩ := h; simp only [SatC] at h1; obtain ⟨vs, h3, h4⟩ := h1; subst h4; exact ⟨vs, h3, h2⟩
end inv

theorem satC_sat {ε : Env} {x : SV} {cs : List Value} (h : SatC x ε cs) : SatV ε x (boxed x.isAgg cs) := by
  cases x <;> first
    | trivial
    | exact ⟨cs, h, rfl⟩
    | (simp only [SatC] at h)

theorem mk_int {ε : Env} {k : IntKind} {n : Int} : SatV ε (.int k n) (.int k n) := ⟨_, rfl, rfl⟩
theorem mk_bool {ε : Env} {b : Bool} : SatV ε (.bool b) (.bool b) := ⟨_, rfl, rfl⟩
theorem mk_str {ε : Env} {s : List UInt8} : SatV ε (.str s) (.string ⟨s.toArray⟩) := ⟨_, rfl, rfl⟩

/-- The parts of a tuple. -/
theorem SatA.nth : ∀ (l : List SV) (k : Nat) {ε : Env} {vs : List Value}, SatA l ε vs → k < l.length → ∃ v, vs[k]? = some v ∧ SatV ε (l.getD k .junk) v
  | [], k, _, _, _, hk => absurd hk (Nat.not_lt_zero _)
  | x :: r, 0, ε, vs, h, _ => by
    simp only [SatA] at h
    obtain ⟨cs, t, h1, h2, h3⟩ := h
    subst h1
    exact ⟨_, rfl, satC_sat h2⟩
  | x :: r, k + 1, ε, vs, h, hk => by
    simp only [SatA] at h
    obtain ⟨cs, t, h1, h2, h3⟩ := h
    subst h1
    obtain ⟨v, e1, e2⟩ := SatA.nth r k h3 (by simpa using hk)
    exact ⟨v, by simpa using e1, by simpa using e2⟩

inductive AOp where | add | sub | mul | quo | rem | and | or | xor | andNot | shl | shr
inductive COp where | eql | neq | lss | leq | gtr | geq

def AOp.of : BinOp → Option AOp
  | .add => some .add | .sub => some .sub | .mul => some .mul | .quo => some .quo | .rem => some .rem | .and => some .and | .or => some .or
  | .xor => some .xor | .andNot => some .andNot | .shl => some .shl | .shr => some .shr | _ => none

def COp.of : BinOp → Option COp
  | .eql => some .eql | .neq => some .neq | .lss => some .lss | .leq => some .leq | .gtr => some .gtr | .geq => some .geq | _ => none

def bitAnd (k : IntKind) (x y : Int) : Int := k.wrap (BitVec.ofInt k.bits x &&& BitVec.ofInt k.bits y).toNat
def bitOr (k : IntKind) (x y : Int) : Int := k.wrap (BitVec.ofInt k.bits x ||| BitVec.ofInt k.bits y).toNat
def bitXor (k : IntKind) (x y : Int) : Int := k.wrap (BitVec.ofInt k.bits x ^^^ BitVec.ofInt k.bits y).toNat
def bitAndNot (k : IntKind) (x y : Int) : Int := k.wrap (BitVec.ofInt k.bits x &&& ~~~ BitVec.ofInt k.bits y).toNat

/-- Arithmetic: what must hold, and the number. -/
def AOp.ev (k : IntKind) (a b : Int) (K : Int → Prop) : AOp → Prop
  | .add => K (k.wrap (a + b))
  | .sub => K (k.wrap (a - b))
  | .mul => K (k.wrap (a * b))
  | .quo => b ≠ 0 ∧ K (k.wrap (a.tdiv b))
  | .rem => b ≠ 0 ∧ K (a.tmod b)
  | .and => K (bitAnd k a b)
  | .or => K (bitOr k a b)
  | .xor => K (bitXor k a b)
  | .andNot => K (bitAndNot k a b)
  | .shl => 0 ≤ b ∧ K (k.wrap (a * 2 ^ (min b.toNat k.bits)))
  | .shr => 0 ≤ b ∧ K (a.fdiv (2 ^ (min b.toNat k.bits)))

def COp.ev (a b : Int) : COp → Bool
  | .eql => decide (a = b)
  | .neq => !decide (a = b)
  | .lss => decide (a < b)
  | .leq => decide (a ≤ b)
  | .gtr => decide (b < a)
  | .geq => decide (b ≤ a)

mutual
def eqV : ES → SV → SV → Bool
  | .int _, x, y => match x, y with
    | .int _ a, .int _ b => decide (a = b)
    | _, _ => false
  | .bool, x, y => match x, y with
    | .bool a, .bool b => a == b
    | _, _ => false
  | .str, x, y => match x, y with
    | .str a, .str b => decide (a = b)
    | _, _ => false
  | .st l, x, y => match x, y with
    | .agg xs, .agg ys => eqVL l xs ys
    | _, _ => false
  | .arr n _ e, x, y => match x, y with
    | .arr _ _ f, .arr _ _ g => (List.range n).all fun i => eqV e (f i) (g i)
    | _, _ => false
def eqVL : List ES → List SV → List SV → Bool
  | [], _, _ => true
  | e :: l, xs, ys => match xs, ys with
    | x :: xs, y :: ys => eqV e x y && eqVL l xs ys
    | _, _ => false
end
/-- What is done with a map. -/
inductive MK : Type 1 where
  | make (ek ev : ES)
  | put (ek ev : ES)
  | get (ek ev : ES) (z : SV) (ok : Bool)
  | strb
  | bstr
  | mlen
def MK.eff : MK → Bool
  | .make .. | .put .. => true
  | .get .. => false
  | .strb => false
  | .bstr => false
  | .mlen => false
/-- What is found at a key: the first that is the same. -/
def mpFind (e : ES) (k : SV) : List (SV × SV) → Option SV
  | [] => none
  | p :: r => if eqV e k p.1 then some p.2 else mpFind e k r
def mpPut (e : ES) (k v : SV) : List (SV × SV) → List (SV × SV)
  | [] => [(k, v)]
  | p :: r => if eqV e k p.1 then (k, v) :: r else p :: mpPut e k v r
def obB : Option SV → Bool
  | some (.bool b) => b
  | _ => false
def obI : Option SV → Int
  | some (.int _ n) => n
  | _ => 0
def mpRes (ev : ES) (z : SV) (o : Option SV) : SV := match ev with
  | .bool => .bool (obB o)
  | .int k => .int k (obI o)
  | _ => o.getD z
/-- How values of a dynamic type are compared. -/
def tabES : List (TypeId × ES) → TypeId → Option ES
  | [], _ => none
  | (u, e) :: r, t => if u = t then some e else tabES r t
inductive PIO : Type 1 where
  | mv (x : Opd)
  | pick (c x y : Opd)
  | ar (op : AOp) (x y : Opd)
  | cmp (op : COp) (x y : Opd)
  | beq (neg : Bool) (x y : Opd)
  | seq (neg : Bool) (x y : Opd)
  | cat (x y : Opd)
  | nt (x : Opd)
  | neg (x : Opd)
  | conv (k : IntKind) (x : Opd)
  | fa (k off : Nat) (x : Opd)
  | fld (k off sz : Nat) (ag : Bool) (x : Opd)
  | ia (n w : Nat) (x i : Opd)
  | is (w : Nat) (x i : Opd)
  | ix (n w : Nat) (ag : Bool) (x i : Opd)
  | sx (x i : Opd)
  | ext (k : Nat) (x : Opd)
  | bld (z : SV) (parts : List (List Step × Nat × Nat × Opd))
  | len (x : Opd)
  | lens (x : Opd)
  | mkfn (f : FuncId) (caps : List Opd)
  | nck (x : Opd)
  | mkif (t : TypeId) (x : Opd)
  | mx (x y : Opd)
  | mn (x y : Opd)
  | ssl (x : Opd) (lo hi : Option Opd)
  | slc (w : Nat) (x : Opd) (lo hi mx : Option Opd)
  | aeq (neg : Bool) (e : ES) (x y : Opd)
  | tas (t : TypeId) (z : SV) (x : Opd)
  | ieq (neg : Bool) (tab : List (TypeId × ES)) (x y : Opd)
  | snil (neg : Bool) (x : Opd)
  | pnil (neg : Bool) (x : Opd)


def AOp.kinds (k k' : IntKind) : AOp → Prop
  | .shl | .shr => True
  | _ => k' = k

/-- It stands for a value. -/
def SV.isVal : SV → Bool
  | .tup _ | .junk => false
  | _ => true

/-- A part put into its place. -/
def bldParts (σ : List SV) : SV → List (List Step × Nat × Nat × Opd) → (SV → Prop) → Prop
  | z, [], K => K z
  | z, (p, o, n, x) :: r, K => (pathOk p ∧ atP z p 0 o ∧ (x.ev σ).isVal = true ∧ wd (x.ev σ) = n ∧ wd (getP z p) = n) ∧ bldParts σ (setP z p (x.ev σ)) r K

def slLen : SV → Option Nat
  | .lst _ _ _ l => some l.length
  | .lit _ _ _ l => some l.length
  | .nils => some 0
  | .vec _ n => some n
  | _ => none

/-- A pointer, one step further. -/
def stepTo (s : Step) (off : Nat) (K : SV → Prop) : SV → Prop
  | .ptr i p o => K (.ptr i (p ++ [s]) (o + off))
  | .eptr w d f l i p o => K (.eptr w d f l i (p ++ [s]) (o + off))
  | .vptr i j p o => K (.vptr i j (p ++ [s]) (o + off))
  | .ref c p o => K (.ref c (p ++ [s]) (o + off))
  | _ => False

def popK (σ : List SV) (K : SV → Prop) : PIO → Prop
  | .mv x => K (x.ev σ)
  | .pick c x y => match c.ev σ with
    | .bool b => (b = true → K (x.ev σ)) ∧ (b = false → K (y.ev σ))
    | _ => False
  | .ar op x y => match x.ev σ, y.ev σ with
    | .int k a, .int k' b => op.kinds k k' ∧ op.ev k a b fun n => K (.int k n)
    | _, _ => False
  | .cmp op x y => match x.ev σ, y.ev σ with
    | .int k a, .int k' b => k' = k ∧ K (.bool (op.ev a b))
    | _, _ => False
  | .beq neg x y => match x.ev σ, y.ev σ with
    | .bool a, .bool b => K (.bool (if neg then a != b else a == b))
    | _, _ => False
  | .seq neg x y => match x.ev σ, y.ev σ with
    | .str a, .str b => K (.bool (if neg then !decide (a = b) else decide (a = b)))
    | _, _ => False
  | .cat x y => match x.ev σ, y.ev σ with
    | .str a, .str b => a.length + b.length ≤ 9223372036854775807 ∧ K (.str (a ++ b))
    | _, _ => False
  | .nt x => match x.ev σ with
    | .bool a => K (.bool (!a))
    | _ => False
  | .neg x => match x.ev σ with
    | .int k a => K (.int k (k.wrap (0 - a)))
    | _ => False
  | .conv k x => match x.ev σ with
    | .int _ a => K (.int k (k.wrap a))
    | _ => False
  | .fa k off x => stepTo (.fld k) off K (x.ev σ)
  | .fld k off sz ag x => match x.ev σ with
    | .agg l => (k < l.length ∧ wds (l.take k) = off ∧ wd (l.getD k .junk) = sz ∧ (l.getD k .junk).isAgg = ag) ∧ K (l.getD k .junk)
    | _ => False
  | .ia n w x i => match i.ev σ with
    | .int _ j => (0 ≤ j ∧ j < n) ∧ stepTo (.idx j.toNat n) (j.toNat * w) K (x.ev σ)
    | _ => False
  | .is w x i => match i.ev σ with
    | .int _ j => match x.ev σ with
      | .lst w' d f l => (0 ≤ j ∧ j < l.length) ∧ w' = w ∧ K (.eptr w d f l j.toNat [] 0)
      | .vec v n => (0 ≤ j ∧ j < n) ∧ K (.vptr v j.toNat [] (j.toNat * w))
      | _ => False
    | _ => False
  | .ix n w ag x i => match i.ev σ with
    | .int _ j => match x.ev σ with
      | .arr n' w' f => (0 ≤ j ∧ j < n) ∧ (n' = n ∧ w' = w ∧ (f j.toNat).isAgg = ag) ∧ K (f j.toNat)
      | _ => False
    | _ => False
  | .sx x i => match i.ev σ with
    | .int _ j => match x.ev σ with
      | .str s => (0 ≤ j ∧ j < s.length) ∧ K (.int .u8 (s.getD j.toNat 0).toNat)
      | _ => False
    | _ => False
  | .ext k x => match x.ev σ with
    | .tup l => k < l.length ∧ K (l.getD k .junk)
    | _ => False
  | .bld z parts => bldParts σ z parts fun z' => z'.isAgg = true ∧ K z'
  | .lens x => match x.ev σ with
    | .str s => K (.int .i64 s.length)
    | _ => False
  | .len x => match slLen (x.ev σ) with
    | some n => K (.int .i64 n)
    | none => False
  | .mkfn f caps => (caps.map (·.ev σ)).all SV.isVal = true ∧ K (.fn f (caps.map (·.ev σ)))
  | .nck x => match x.ev σ with
    | .ptr i p o => K (.ptr i p o)
    | .eptr w d f l i p o => K (.eptr w d f l i p o)
    | .vptr i j p o => K (.vptr i j p o)
    | .ref c p o => K (.ref c p o)
    | .fn f c => K (.fn f c)
    | _ => False
  | .mkif t x => (x.ev σ).isVal = true ∧ K (.iface t (x.ev σ))
  | .aeq neg e x y => (esP e (x.ev σ) ∧ esP e (y.ev σ)) ∧ K (.bool (if neg then !eqV e (x.ev σ) (y.ev σ) else eqV e (x.ev σ) (y.ev σ)))
  | .tas t z x => match x.ev σ with
    | .iface t' y => if t' = t then K (.tup [y, .bool true]) else K (.tup [z, .bool false])
    | _ => False
  | .ieq neg tab x y => match x.ev σ with
    | .iface t a => match y.ev σ with
      | .iface t' b => if t' = t then (match tabES tab t with
        | some e => (esP e a ∧ esP e b) ∧ K (.bool (if neg then !eqV e a b else eqV e a b))
        | none => False) else K (.bool neg)
      | _ => False
    | _ => False
  | .snil neg x => match slLen (x.ev σ) with
    | some n => match x.ev σ with
      | .nils => K (.bool (!neg))
      | _ => (decide (n = 0) = true → K .anyb) ∧ (decide (n = 0) = false → K (.bool neg))
    | none => False
  | .pnil neg x => match x.ev σ with
    | .nilp => K (.bool (!neg))
    | .ptr .. => K (.bool neg)
    | .eptr .. => K (.bool neg)
    | .vptr .. => K (.bool neg)
    | .ref .. => K (.bool neg)
    | _ => False
  | .mx x y => match x.ev σ, y.ev σ with
    | .int k a, .int k' b => k' = k ∧ K (.int k (if a < b then b else a))
    | _, _ => False
  | .mn x y => match x.ev σ, y.ev σ with
    | .int k a, .int k' b => k' = k ∧ K (.int k (if b < a then b else a))
    | _, _ => False
  | .ssl x lo hi => match x.ev σ with
    | .str s => bound 0 lo fun l => bound s.length hi fun h => (l ≤ h ∧ h ≤ s.length) ∧ K (.str ((s.take h).drop l))
    | _ => False
  | .slc w x lo hi mx => match mx, x.ev σ with
    | none, .lst w' d f l => w' = w ∧ bound 0 lo fun a => bound l.length hi fun b => (a ≤ b ∧ b ≤ l.length) ∧ K (.lst w d f ((l.take b).drop a))
    | some c, .lst w' d f l => (w' = w ∧ hi.isSome = true) ∧ bound 0 lo fun a => bound l.length hi fun b => bound 0 (some c) fun m => (a ≤ b ∧ b = m ∧ m ≤ l.length) ∧ K (.lit w d f ((l.take b).drop a))
    | none, .vec i n => bound 0 lo fun a => bound n hi fun b => (a = 0 ∧ b ≤ n) ∧ K (.pvec i b)
    | _, _ => False
where bound (d : Nat) (x : Option Opd) (K : Nat → Prop) : Prop := match x with
  | none => K d
  | some x => match x.ev σ with
    | .int _ j => 0 ≤ j ∧ K j.toNat
    | _ => False

end Go.Sx
