import Derived.Test.YtafcmgfmmlnngaaSx4
/-! Sx, part 5: the translation of operations that touch no memory, and that it is right. -/
set_option linter.unusedSimpArgs false
set_option linter.unusedVariables false
namespace Go.Sx
open Go

variable {P : Program}

def isAggD : TypeDesc → Bool
  | .struct _ | .array _ _ => true
  | _ => false

/-- A type's cells, and whether its values are aggregates. -/
def tsz (P : Program) (t : TypeId) : Option (Nat × Bool) :=
  match P.info? t, P.underlying t with
  | some i, some d => some (i.size, isAggD d)
  | _, _ => none

theorem run_isAgg {t : TypeId} {n : Nat} {ag : Bool} (h : tsz P t = some (n, ag)) (w : World) : (isAgg t).run P w = .ok ag w := by
  unfold tsz at h
  split at h
  · rename_i i d h1 h2
    simp only [Option.some.injEq, Prod.mk.injEq] at h
    obtain ⟨rfl, rfl⟩ := h
    simp only [isAgg, Sem.run_bind, run_underlying h2, Result.andThen_ok]
    cases d <;> rfl
  · cases h

theorem run_sizeOf {t : TypeId} {n : Nat} {ag : Bool} (h : tsz P t = some (n, ag)) (w : World) : (sizeOf t).run P w = .ok n w := by
  unfold tsz at h
  split at h
  · rename_i i d h1 h2
    simp only [Option.some.injEq, Prod.mk.injEq] at h
    obtain ⟨rfl, rfl⟩ := h
    simp [sizeOf, typeInfo, h1]
  · cases h

/-- A value, whatever the world, and a symbol of it. -/
def PureRun (P : Program) (o : Oper) (ε : Env) (a : Act) (sv : SV) : Prop :=
  ∃ v, (∀ w, (execOp a.eval o).run P w = .ok (.value v) w) ∧ SatV ε sv v

def PureOK (P : Program) (o : Oper) (σ : List SV) (sv : SV) : Prop := ∀ ε a, SlotsOK ε σ a → PureRun P o ε a sv

section vals
variable {ε : Env}

theorem run_part {t : TypeId} {n : Nat} {ag : Bool} (h : tsz P t = some (n, ag)) (w : World) (cs : List Value) (off : Nat) (hl : off + n ≤ cs.length) (h1 : ag = false → n = 1) :
    (part t cs.toArray off).run P w = .ok (boxed ag (sub cs off n)) w := by
  simp only [part, Sem.run_bind, run_isAgg h, Result.andThen_ok]
  cases ag with
  | true =>
    simp only [if_true, Sem.run_bind, run_sizeOf h, Result.andThen_ok, Sem.run_pure, boxed]
    congr 2
    simp [sub, List.extract_eq_take_drop]
  | false =>
    have hn := h1 rfl
    subst hn
    have hlt : off < cs.length := by omega
    simp only [Bool.false_eq_true, if_false]
    have : cs.toArray[off]? = some cs[off] := by simp [hlt]
    rw [this]
    simp only [Sem.run_pure, boxed, Bool.false_eq_true, if_false]
    congr 1
    simp [sub, List.headD_eq_head?_getD, List.head?_take, List.head?_drop, hlt]
end vals

theorem wd_scalar {c : SV} (h : c.isAgg = false) : wd c = 1 := by cases c <;> first | rfl | cases h

theorem isAgg_wd {ε : Env} {c : SV} {cs : List Value} (h : SatC c ε cs) : SatV ε c (boxed c.isAgg cs) := satC_sat h

mutual
/-- The cells of a symbol that is wholly known. -/
def cellsOf : SV → Option (List Value)
  | .int k n => some [.int k n]
  | .bool b => some [.bool b]
  | .str s => some [.string ⟨s.toArray⟩]
  | .nils => some [.slice none 0 0]
  | .nili => some [.nilIface]
  | .nilf => some [.nilFunc]
  | .nilp => some [.pointer none]
  | .nilm => some [.map none]
  | .arr n w f => match (List.range n).mapM fun i => cellsOf (f i) with
    | some css => if css.all (·.length == w) then some css.flatten else none
    | none => none
  | .agg l => cellsOfL l
  | _ => none
def cellsOfL : List SV → Option (List Value)
  | [] => some []
  | x :: r => match cellsOf x, cellsOfL r with
    | some a, some b => some (a ++ b)
    | _, _ => none
end

theorem flatten_sub : ∀ (css : List (List Value)) (w i : Nat), (∀ c ∈ css, c.length = w) → ∀ (hi : i < css.length), sub css.flatten (i * w) w = css[i]
  | [], _, _, _, hi => absurd hi (Nat.not_lt_zero _)
  | c :: r, w, 0, h, _ => by
    have hc := h c (by simp)
    simp [sub, ← hc]
  | c :: r, w, i + 1, h, hi => by
    have hc := h c (by simp)
    have ih := flatten_sub r w i (fun c hc => h c (by simp [hc])) (by simpa using hi)
    simp only [List.flatten_cons, List.getElem_cons_succ, ← ih]
    simp only [sub, Nat.add_mul, Nat.one_mul, List.drop_append, hc]
    rw [List.drop_of_length_le (by omega)]
    simp

theorem flatten_len : ∀ (css : List (List Value)) (w : Nat), (∀ c ∈ css, c.length = w) → css.flatten.length = css.length * w
  | [], _, _ => by simp
  | c :: r, w, h => by
    have hc := h c (by simp)
    have ih := flatten_len r w (fun c hc => h c (by simp [hc]))
    simp [hc, ih, Nat.add_mul, Nat.add_comm]

theorem mapM_get {α β : Type _} {f : α → Option β} : ∀ (l : List α) (r : List β), l.mapM f = some r → r.length = l.length ∧ ∀ i (h : i < l.length) (h' : i < r.length), f l[i] = some r[i]
  | [], r, h => by simp at h; subst h; simp
  | x :: l, r, h => by
    simp only [List.mapM_cons, bind, Option.pure_def] at h
    cases hx : f x with
    | none => rw [hx] at h; cases h
    | some y =>
      rw [hx] at h
      simp only [Option.bind] at h
      cases hl : l.mapM f with
      | none => rw [hl] at h; cases h
      | some ys =>
        rw [hl] at h
        simp only [Option.some.injEq] at h
        subst h
        obtain ⟨i1, i2⟩ := mapM_get l ys hl
        refine ⟨by simp [i1], fun i h h' => ?_⟩
        cases i with
        | zero => simpa using hx
        | succ i => simpa using i2 i (by simpa using h) (by simpa using h')

mutual
theorem cellsOf_ok : ∀ (c : SV) (cs : List Value) (ε : Env), cellsOf c = some cs → SatC c ε cs
  | .int .., _, _, h => by simp only [cellsOf, Option.some.injEq] at h; subst h; rfl
  | .bool .., _, _, h => by simp only [cellsOf, Option.some.injEq] at h; subst h; rfl
  | .str .., _, _, h => by simp only [cellsOf, Option.some.injEq] at h; subst h; rfl
  | .nils, _, _, h => by simp only [cellsOf, Option.some.injEq] at h; subst h; rfl
  | .nili, _, _, h => by simp only [cellsOf, Option.some.injEq] at h; subst h; rfl
  | .nilf, _, _, h => by simp only [cellsOf, Option.some.injEq] at h; subst h; rfl
  | .nilp, _, _, h => by simp only [cellsOf, Option.some.injEq] at h; subst h; rfl
  | .nilm, _, _, h => by simp only [cellsOf, Option.some.injEq] at h; subst h; rfl
  | .arr n w f, cs, ε, h => by
    simp only [cellsOf] at h
    split at h
    · rename_i css hm
      split at h
      · rename_i hw
        simp only [Option.some.injEq] at h
        subst h
        have hw' : ∀ c ∈ css, c.length = w := by simpa using hw
        obtain ⟨h1, h2⟩ := mapM_get _ _ hm
        simp only [List.length_range] at h1
        simp only [SatC]
        refine ⟨by rw [flatten_len css w hw', h1], fun i hi => ?_⟩
        rw [flatten_sub css w i hw' (by omega)]
        have := h2 i (by simpa using hi) (by omega)
        rw [List.getElem_range] at this
        exact cellsOf_ok (f i) _ ε this
      · cases h
    · cases h
  | .agg l, cs, ε, h => by simp only [cellsOf] at h; simp only [SatC]; exact cellsOfL_ok l cs ε h
  | .tup .., _, _, h => by simp only [cellsOf] at h; cases h
  | .anyb, _, _, h => by simp only [cellsOf] at h; cases h
  | .lst .., _, _, h => by simp only [cellsOf] at h; cases h
  | .lit .., _, _, h => by simp only [cellsOf] at h; cases h
  | .eptr .., _, _, h => by simp only [cellsOf] at h; cases h
  | .ref .., _, _, h => by simp only [cellsOf] at h; cases h
  | .ptr .., _, _, h => by simp only [cellsOf] at h; cases h
  | .vec .., _, _, h => by simp only [cellsOf] at h; cases h
  | .vptr .., _, _, h => by simp only [cellsOf] at h; cases h
  | .pvec .., _, _, h => by simp only [cellsOf] at h; cases h
  | .map .., _, _, h => by simp only [cellsOf] at h; cases h
  | .fn .., _, _, h => by simp only [cellsOf] at h; cases h
  | .iface .., _, _, h => by simp only [cellsOf] at h; cases h
  | .raw .., _, _, h => by simp only [cellsOf] at h; cases h
  | .junk, _, _, h => by simp only [cellsOf] at h; cases h
theorem cellsOfL_ok : ∀ (l : List SV) (cs : List Value) (ε : Env), cellsOfL l = some cs → SatL l ε cs
  | [], cs, _, h => by simp only [cellsOfL, Option.some.injEq] at h; subst h; rfl
  | x :: r, cs, ε, h => by
    simp only [cellsOfL] at h
    split at h
    · rename_i a b h1 h2
      simp only [Option.some.injEq] at h
      subst h
      exact ⟨a, b, rfl, cellsOf_ok x a ε h1, cellsOfL_ok r b ε h2⟩
    · cases h
end

def veq : Value → Value → Bool
  | .bool a, .bool b => a == b
  | .int k a, .int j b => k == j && a == b
  | .string a, .string b => a.data.toList == b.data.toList
  | .slice none 0 0, .slice none 0 0 => true
  | .nilIface, .nilIface => true
  | .nilFunc, .nilFunc => true
  | .pointer none, .pointer none => true
  | .map none, .map none => true
  | _, _ => false

theorem veq_ok {a b : Value} (h : veq a b = true) : a = b := by
  unfold veq at h
  split at h <;> first
    | rfl
    | (simp at h; subst h; rfl)
    | (simp at h; obtain ⟨rfl, rfl⟩ := h; rfl)
    | (cases h; done)
    | (rename_i x y
       simp at h
       cases x; cases y
       simp at h
       subst h; rfl)

def vseq : List Value → List Value → Bool
  | [], [] => true
  | a :: x, b :: y => veq a b && vseq x y
  | _, _ => false

theorem vseq_ok : ∀ {x y : List Value}, vseq x y = true → x = y
  | [], [], _ => rfl
  | a :: x, b :: y, h => by
    simp only [vseq, Bool.and_eq_true] at h
    rw [veq_ok h.1, vseq_ok h.2]
  | [], _ :: _, h => by cases h
  | _ :: _, [], h => by cases h

/-- A type's zero value. -/
def zeroSV (P : Program) : Nat → TypeId → Option SV
  | 0, _ => none
  | fuel + 1, t => match P.underlying t with
    | some .bool => some (.bool false)
    | some (.int k) => some (.int k 0)
    | some .string => some (.str [])
    | some (.pointer _) => some .nilp
    | some (.slice _) => some .nils
    | some (.interface _) => some .nili
    | some (.func ..) => some .nilf
    | some (.map ..) => some .nilm
    | some (.struct fs) => (fs.toList.mapM fun f => zeroSV P fuel f.type).map .agg
    | some (.array n e) => (zeroSV P fuel e).map fun z => .arr n (wd z) fun _ => z
    | _ => none

def zok (P : Program) (t : TypeId) : Option SV :=
  match zeroSV P 8 t, P.info? t with
  | some z, some i => match i.zero, cellsOf z with
    | some v, some cs => if vseq cs v.cells.toList then some z else none
    | _, _ => none
  | _, _ => none

theorem zok_ok {t : TypeId} {z : SV} (h : zok P t = some z) : ∃ i v, P.info? t = some i ∧ i.zero = some v ∧ ∀ ε, SatC z ε v.cells.toList := by
  unfold zok at h
  split at h <;> try (cases h; done)
  rename_i z' i h1 h2
  split at h <;> try (cases h; done)
  rename_i v cs h3 h4
  split at h <;> try (cases h; done)
  rename_i hv
  simp only [Option.some.injEq] at h
  subst h
  refine ⟨i, v, h2, h3, fun ε => ?_⟩
  rw [← vseq_ok hv]
  exact cellsOf_ok _ _ _ h4

/-- The parts of a composite, each with its place. -/
def compParts (f : Nat → Option (List Step × Nat × Nat)) : List (Nat × Operand) → Option (List (List Step × Nat × Nat × Opd))
  | [] => some []
  | (k, x) :: r => match f k, compO x, compParts f r with
    | some (p, o, n), some y, some ys => some ((p, o, n, y) :: ys)
    | _, _, _ => none

def placeS (P : Program) (fs : Array Field) (k : Nat) : Option (List Step × Nat × Nat) :=
  match fs[k]? with
  | some f => match P.info? f.type with
    | some i => some ([.fld k], f.offset, i.size)
    | none => none
  | none => none

def compBld (P : Program) (t : TypeId) (parts : Array (Nat × Operand)) : Option PIO :=
  match zok P t, P.underlying t with
  | some z, some (.struct fs) => if fs.toList.all fun f => (P.info? f.type).isSome then (compParts (placeS P fs) parts.toList).map (.bld z) else none
  | some z, some (.array n e) => match P.info? e with
    | some i => (compParts (fun k => some ([.idx k n], k * i.size, i.size)) parts.toList).map (.bld z)
    | none => none
  | _, _ => none

def compOO : Option Operand → Option (Option Opd)
  | none => some none
  | some x => (compO x).map some

/-- The builtins that touch no memory. -/
def compB (P : Program) (c : Call) : Option PIO :=
  match c.callee, c.args.toList, c.argTypes.toList with
  | .builtin .len, [x], [t] => do
    let x ← compO x
    match P.underlying t with
    | some .string => pure (.lens x)
    | some (.slice _) => pure (.len x)
    | _ => none
  | .builtin .max, [x, y], [t, _] => do
    match P.underlying t with
    | some (.int _) => pure (.mx (← compO x) (← compO y))
    | _ => none
  | .builtin .min, [x, y], [t, _] => do
    match P.underlying t with
    | some (.int _) => pure (.mn (← compO x) (← compO y))
    | _ => none
  | _, _, _ => none

/-- A type's shape, if its values can be compared cell by cell. -/
def esOf (P : Program) : Nat → TypeId → Option ES
  | 0, _ => none
  | fuel + 1, t => match P.underlying t with
    | some .bool => some .bool
    | some (.int k) => some (.int k)
    | some .string => some .str
    | some (.struct fs) => (fs.toList.mapM fun f => esOf P fuel f.type).map .st
    | some (.array n e) => match esOf P fuel e, P.info? e with
      | some z, some i => some (.arr n i.size z)
      | _, _ => none
    | _ => none
mutual
def wE : ES → Nat
  | .st l => wEL l
  | .arr n w _ => n * w
  | _ => 1
def wEL : List ES → Nat
  | [] => 0
  | e :: l => wE e + wEL l
end
def aggE : ES → Bool
  | .st _ => true
  | .arr .. => true
  | _ => false
mutual
def dE : ES → Nat
  | .st l => dEL l + 1
  | .arr _ _ e => dE e + 1
  | _ => 1
def dEL : List ES → Nat
  | [] => 0
  | e :: l => max (dE e) (dEL l)
end
mutual
def esB (P : Program) : TypeId → ES → Bool
  | t, .int k => match P.underlying t with
    | some (.int k') => decide (k' = k)
    | _ => false
  | t, .bool => match P.underlying t with
    | some .bool => true
    | _ => false
  | t, .str => match P.underlying t with
    | some .string => true
    | _ => false
  | t, .st l => match P.underlying t with
    | some (.struct fs) => esBL P fs.toList 0 l && !P.stoodInHeld t
    | _ => false
  | t, .arr n w e => match P.underlying t with
    | some (.array n' t') => decide (n' = n) && decide (P.cellsOf t' = w) && decide (tsz P t' = some (w, aggE e)) && decide (wE e = w) && esB P t' e
    | _ => false
def esBL (P : Program) : List Field → Nat → List ES → Bool
  | [], _, [] => true
  | f :: fs, off, e :: l => decide (f.name ≠ "_") && decide (f.offset = off) && decide (tsz P f.type = some (wE e, aggE e)) && esB P f.type e && esBL P fs (off + wE e) l
  | _, _, _ => false
end
def isNilC : Operand → Bool
  | .const (.slice none 0 0) => true
  | _ => false
def isNilP : Operand → Bool
  | .const (.pointer none) => true
  | _ => false
def compEq (P : Program) (neg : Bool) (t : TypeId) (x y : Opd) : Option PIO :=
  match esOf P 8 t with
  | some e => if esB P t e && aggE e && decide (dE e ≤ 100) && !P.eqGuardType P.depth t then some (.aeq neg e x y) else none
  | none => none
/-- Types with methods whose values may be compared. -/
def ieqOf (P : Program) (t : TypeId) : Option (TypeId × ES) := match P.info? t with
  | some i => if i.methods.size = 0 || !i.comparable then none else match esOf P 8 t with
    | some e => if esB P t e && decide (dE e ≤ 100) then some (t, e) else none
    | none => none
  | none => none
def ieqTab (P : Program) : List (TypeId × ES) := (List.range P.types.size).filterMap (ieqOf P)
theorem ieqOf_ok {t u : TypeId} {e : ES} (h : ieqOf P u = some (t, e)) : esB P t e = true ∧ dE e ≤ 100 ∧ ∃ i, P.info? t = some i ∧ i.comparable = true := by
  unfold ieqOf at h
  split at h <;> try (cases h; done)
  rename_i i hi
  split at h <;> try (cases h; done)
  rename_i hc
  split at h <;> try (cases h; done)
  rename_i e' he
  split at h <;> try (cases h; done)
  rename_i hb
  simp only [Option.some.injEq, Prod.mk.injEq] at h
  obtain ⟨rfl, rfl⟩ := h
  simp only [Bool.and_eq_true, decide_eq_true_eq] at hb
  simp only [Bool.or_eq_true, not_or, Bool.not_eq_true, Bool.not_eq_false'] at hc
  exact ⟨hb.1, hb.2, i, hi, hc.2⟩
theorem tabES_mem {t : TypeId} {e : ES} : ∀ {l : List (TypeId × ES)}, tabES l t = some e → (t, e) ∈ l
  | [], h => by cases h
  | (u, x) :: r, h => by
    simp only [tabES] at h
    split at h
    · rename_i hu
      cases h; subst hu; exact List.mem_cons_self
    · exact List.mem_cons_of_mem _ (tabES_mem h)
theorem ieqTab_ok {t : TypeId} {e : ES} (h : tabES (ieqTab P) t = some e) : esB P t e = true ∧ dE e ≤ 100 ∧ ∃ i, P.info? t = some i ∧ i.comparable = true := by
  obtain ⟨u, _, hu⟩ := List.mem_filterMap.1 (tabES_mem h)
  exact ieqOf_ok hu
/-- The zero of an aggregate type. -/
def zagg (P : Program) (t : TypeId) : Option SV := match zok P t, P.info? t with
  | some z, some i => match i.zero with
    | some (.agg _) => if z.isAgg then some z else none
    | _ => none
  | _, _ => none
theorem zagg_ok {t : TypeId} {z : SV} (h : zagg P t = some z) : z.isAgg = true ∧ ∃ i cs, P.info? t = some i ∧ i.zero = some (.agg cs) ∧ ∀ ε, SatC z ε cs.toList := by
  unfold zagg at h
  split at h <;> try (cases h; done)
  rename_i z' i h1 h2
  split at h <;> try (cases h; done)
  rename_i cs h3
  split at h <;> try (cases h; done)
  rename_i hz
  simp only [Option.some.injEq] at h
  subst h
  obtain ⟨i', v, e1, e2, e3⟩ := zok_ok h1
  rw [h2] at e1; cases e1
  rw [h3] at e2; cases e2
  exact ⟨hz, i, cs, h2, h3, e3⟩
def compP (P : Program) : Op → Option PIO
  | .move x | .assign x => (compO x).map .mv
  | .pick c x y => do pure (.pick (← compO c) (← compO x) (← compO y))
  | .binOp op t xo yo _ => do
    let x ← compO xo
    let y ← compO yo
    match P.underlying t with
    | some (.int _) =>
      match AOp.of op with
      | some o => pure (.ar o x y)
      | none => match COp.of op with
        | some o => pure (.cmp o x y)
        | none => none
    | some .bool => match op with
      | .eql => pure (.beq false x y)
      | .neq => pure (.beq true x y)
      | _ => none
    | some .string => match op with
      | .add => pure (.cat x y)
      | .eql => pure (.seq false x y)
      | .neq => pure (.seq true x y)
      | _ => none
    | some (.slice _) => match op with
      | .eql => if isNilC yo then pure (.snil false x) else none
      | .neq => if isNilC yo then pure (.snil true x) else none
      | _ => none
    | some (.pointer _) => match op with
      | .eql => if isNilP yo then pure (.pnil false x) else none
      | .neq => if isNilP yo then pure (.pnil true x) else none
      | _ => none
    | some (.struct _) | some (.array _ _) => match op with
      | .eql => compEq P false t x y
      | .neq => compEq P true t x y
      | _ => none
    | some (.interface _) => match op with
      | .eql => pure (.ieq false (ieqTab P) x y)
      | .neq => pure (.ieq true (ieqTab P) x y)
      | _ => none
    | _ => none
  | .unOp .not _ x => (compO x).map .nt
  | .unOp .neg _ x => (compO x).map .neg
  | .convert s d x => do
    let x ← compO x
    match P.underlying s, P.underlying d with
    | some (.int _), some (.int k) => pure (.conv k x)
    | _, _ => none
  | .fieldAddr s x k => do
    let x ← compO x
    match P.underlying s with
    | some (.struct fs) => match fs[k]? with
      | some f => match tsz P f.type with
        | some (n, _) => if n = 0 then none else pure (.fa k f.offset x)
        | none => none
      | none => none
    | _ => none
  | .field s x k => do
    let x ← compO x
    match P.underlying s with
    | some (.struct fs) => match fs[k]? with
      | some f => match tsz P f.type with
        | some (n, ag) => if ag = false ∧ n ≠ 1 then none else pure (.fld k f.offset n ag x)
        | none => none
      | none => none
    | _ => none
  | .indexAddr t x i => do
    let x ← compO x
    let i ← compO i
    match P.underlying t with
    | some (.array n e) => match tsz P e with
      | some (sz, _) => pure (.ia n sz x i)
      | none => none
    | some (.slice e) => match tsz P e with
      | some (sz, _) => pure (.is sz x i)
      | none => none
    | _ => none
  | .index t x i => do
    let x ← compO x
    let i ← compO i
    match P.underlying t with
    | some (.array n e) => match tsz P e with
      | some (sz, ag) => if ag = false ∧ sz ≠ 1 then none else pure (.ix n sz ag x i)
      | none => none
    | some .string => pure (.sx x i)
    | _ => none
  | .extract x k => (compO x).map (.ext k)
  | .makeFunc f first caps => match f, first.toList with
    | .func f, [] => (caps.toList.mapM compO).map (.mkfn f)
    | _, _ => none
  | .nilCheck x => (compO x).map .nck
  | .makeInterface t x => do
    let x ← compO x
    match P.underlying t with
    | some (.interface _) | none => none
    | _ => pure (.mkif t x)
  | .typeAssert x _ t ok => do
    let x ← compO x
    match P.underlying t with
    | some (.interface _) | none => none
    | _ => if ok then match zagg P t with
      | some z => pure (.tas t z x)
      | none => none else none
  | .call c => compB P c
  | .build t parts => compBld P t parts
  | .slice t x lo hi mx => do
    let x ← compO x
    let lo ← compOO lo
    let hi ← compOO hi
    let mx ← compOO mx
    match P.underlying t with
    | some .string => match mx with
      | none => pure (.ssl x lo hi)
      | some _ => none
    | some (.slice e) => match tsz P e with
      | some (n, _) => pure (.slc n x lo hi mx)
      | none => none
    | _ => none
  | _ => none

theorem bind_some {α β : Type _} {x : Option α} {f : α → Option β} {b : β} (h : x.bind f = some b) : ∃ a, x = some a ∧ f a = some b := by
  cases x with
  | none => cases h
  | some a => exact ⟨a, rfl, h⟩

theorem AOp.ev_run {k k' : IntKind} {a b : Int} {op : BinOp} {ao : AOp} (h : AOp.of op = some ao) (hk : ao.kinds k k') {K : Int → Prop} (hev : ao.ev k a b K) :
    ∃ n, K n ∧ ∀ w, (binOp op 0 (.int k a) (.int k' b)).run P w = .ok (.int k n) w := by
  cases op <;> simp only [AOp.of] at h <;> cases h <;> simp only [AOp.kinds] at hk <;> simp only [AOp.ev] at hev
  all_goals first
    | (subst hk; exact ⟨_, hev, fun w => by simp [binOp, Op.intArith, Op.intBits, bitAnd, bitOr, bitXor, bitAndNot]⟩)
    | (subst hk; exact ⟨_, hev.2, fun w => by simp [binOp, Op.intDiv, hev.1]⟩)
    | (exact ⟨_, hev.2, fun w => by simp [binOp, Op.shift, Int.not_lt.2 hev.1]⟩)

theorem binOp_int_t {op : BinOp} {t t' : TypeId} {k k' : IntKind} {a b : Int} : binOp op t (.int k a) (.int k' b) = binOp op t' (.int k a) (.int k' b) := by
  cases op <;> rfl

theorem COp.ev_run {k : IntKind} {a b : Int} {op : BinOp} {co : COp} (h : COp.of op = some co) (w : World) :
    (binOp op 0 (.int k a) (.int k b)).run P w = .ok (.bool (co.ev a b)) w := by
  cases op <;> simp only [COp.of] at h <;> cases h <;> simp [binOp, Op.intCmp, COp.ev, GT.gt, GE.ge] <;> first
    | rfl
    | (by_cases hab : a = b <;> simp [hab])

end Go.Sx
