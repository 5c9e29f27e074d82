import Derived.Test.YtafcmgfmmlnngaaSx19
/-! Sx, part 20: frames as lists of what was written, newest first; answers. -/
set_option linter.unusedVariables false
set_option linter.unusedSimpArgs false
namespace Go.Sx
open Go
variable {P : Program}

/-- An equation that 'simp' is to keep as a step of its own. -/
theorem nr.{u} {α : Sort u} {a b : α} (h : a = b) : a = b := h
inductive Fr : Type 1 where
  | nil
  | put (k : Nat) (x : SV) (r : Fr)
  | pick (s d : Nat) (x : SV) (r : Fr)
def look (k : Nat) : Fr → SV
  | .nil => .junk
  | .put j x r => if k = j then x else look k r
  | .pick s d x r => if k = d then x else if s < k ∧ k < d then .junk else look k r
def Opd.fv (τ : Fr) : Opd → SV
  | .t n => look n τ
  | .c x => x
def keepF : List Nat → Fr → Fr
  | [], _ => .nil
  | k :: ks, τ => .put k (look k τ) (keepF ks τ)
def killF (i : Nat) : Fr → Fr
  | .nil => .nil
  | .put k x r => .put k (kill i x) (killF i r)
  | .pick s d x r => .pick s d (kill i x) (killF i r)
def putF (d : Option Nat) (x : SV) (τ : Fr) : Fr := match d with
  | none => τ
  | some d => .put d x τ
def ofF : List Nat → List SV → Fr → Fr
  | k :: ks, x :: xs, τ => .put k x (ofF ks xs τ)
  | _, _, τ => τ
def atF : List Nat → List SV → Fr → Prop
  | k :: ks, x :: xs, τ => look k τ = x ∧ atF ks xs τ
  | [], [], _ => True
  | _, _, _ => False
def sameF (τ τ' : Fr) : List Nat → Prop
  | [] => True
  | k :: ks => look k τ' = look k τ ∧ sameF τ τ' ks

/-- What is said of the slots of a frame of 'n'. -/
def Rep (n : Nat) (σ : List SV) (τ : Fr) : Prop := σ.length = n ∧ ∀ k, look k τ = .junk ∨ (k < n ∧ look k τ = σ.getD k .junk)
def Le (x y : SV) : Prop := x = .junk ∨ x = y
theorem Le.refl (x : SV) : Le x x := .inr rfl
theorem Rep.le {n : Nat} {σ : List SV} {τ : Fr} (h : Rep n σ τ) (k : Nat) : Le (look k τ) (σ.getD k .junk) := by
  rcases h.2 k with h | ⟨_, h⟩
  · exact .inl h
  · exact .inr h
theorem Rep.fv {n : Nat} {σ : List SV} {τ : Fr} (h : Rep n σ τ) (x : Opd) : Le (x.fv τ) (x.ev σ) := by
  cases x with
  | t k => exact h.le k
  | c x => exact .inr rfl
theorem Rep.put {n : Nat} {σ : List SV} {τ : Fr} (h : Rep n σ τ) {d : Nat} (hd : d < n) {x y : SV} (hx : Le x y) : Rep n (σ.set d y) (.put d x τ) := by
  refine ⟨by simp [h.1], fun k => ?_⟩
  simp only [look]
  by_cases hk : k = d
  · subst hk
    rw [if_pos rfl]
    rcases hx with hx | hx
    · exact .inl hx
    · right; refine ⟨hd, ?_⟩; rw [hx]; simp [List.getD, h.1, hd]
  · rw [if_neg hk]
    rcases h.2 k with h1 | ⟨h1, h2⟩
    · exact .inl h1
    · right; refine ⟨h1, ?_⟩
      rw [h2, List.getD, List.getD, List.getElem?_set, if_neg (fun e => hk e.symm)]
theorem Rep.putF {n : Nat} {σ : List SV} {τ : Fr} (h : Rep n σ τ) {d : Option Nat} (hd : ∀ k, d = some k → k < n) {x y : SV} (hx : Le x y) : Rep n (putS d y σ) (putF d x τ) := by
  cases d with
  | none => exact h
  | some d => exact h.put (hd d rfl) hx
theorem look_keep {k : Nat} {τ : Fr} : ∀ ks : List Nat, Le (look k (keepF ks τ)) (look k τ)
  | [] => .inl rfl
  | j :: ks => by
    simp only [keepF, look]
    by_cases h : k = j
    · subst h; rw [if_pos rfl]; exact .inr rfl
    · rw [if_neg h]; exact look_keep ks
theorem look_killF {i k : Nat} : ∀ τ : Fr, look k (killF i τ) = kill i (look k τ)
  | .nil => rfl
  | .put j x r => by
    simp only [killF, look]
    split
    · rfl
    · exact look_killF r
  | .pick s d x r => by
    simp only [killF, look]
    split
    · rfl
    · split
      · rfl
      · exact look_killF r
theorem Rep.kill {n i : Nat} {σ : List SV} {τ : Fr} (h : Rep n σ τ) : Rep n (killL i σ) (killF i τ) := by
  refine ⟨by rw [killL_length]; exact h.1, fun k => ?_⟩
  rw [look_killF, killL_getD]
  rcases h.2 k with h1 | ⟨h1, h2⟩
  · left; rw [h1]; rfl
  · exact .inr ⟨h1, by rw [h2]⟩

/-- What a walk answers: a condition; or a condition and a truth value. -/
structure Ans (α : Type) where
  bad : α
  need : Prop → α → α
  spl : Bool → α → α → α
def AP : Ans Prop := ⟨False, And, fun b x y => (b = true → x) ∧ (b = false → y)⟩
def AV : Ans (Prop × Bool) := ⟨(False, false), fun p x => (p ∧ x.1, x.2), fun b x y => ((b = true → x.1) ∧ (b = false → y.1), if b then x.2 else y.2)⟩
/-- A condition that is gathered on the way. -/
def AC : Ans (Prop → Prop) := ⟨fun _ => False, fun p x acc => x (acc ∧ p), fun b x y acc => (b = true → x acc) ∧ (b = false → y acc)⟩

section
variable {α : Type} (A : Ans α)
def AOp.evG (k : IntKind) (a b : Int) (K : Int → α) : AOp → α
  | .add => K (k.wrap (a + b))
  | .sub => K (k.wrap (a - b))
  | .mul => K (k.wrap (a * b))
  | .quo => A.need (b ≠ 0) (K (k.wrap (a.tdiv b)))
  | .rem => A.need (b ≠ 0) (K (a.tmod b))
  | .and => K (bitAnd k a b)
  | .or => K (bitOr k a b)
  | .xor => K (bitXor k a b)
  | .andNot => K (bitAndNot k a b)
  | .shl => A.need (0 ≤ b) (K (k.wrap (a * 2 ^ (min b.toNat k.bits))))
  | .shr => A.need (0 ≤ b) (K (a.fdiv (2 ^ (min b.toNat k.bits))))
def bldG (ev : Opd → SV) : SV → List (List Step × Nat × Nat × Opd) → (SV → α) → α
  | z, [], K => K z
  | z, (p, o, n, x) :: r, K => A.need (pathOk p ∧ atP z p 0 o ∧ (ev x).isVal = true ∧ wd (ev x) = n ∧ wd (getP z p) = n) (bldG ev (setP z p (ev x)) r K)
def stepG (s : Step) (off : Nat) (K : SV → α) : SV → α
  | .ptr i p o => K (.ptr i (p ++ [s]) (o + off))
  | .eptr w d f l i p o => K (.eptr w d f l i (p ++ [s]) (o + off))
  | .vptr i j p o => K (.vptr i j (p ++ [s]) (o + off))
  | .ref c p o => K (.ref c (p ++ [s]) (o + off))
  | _ => A.bad
def boundG (ev : Opd → SV) (d : Nat) (x : Option Opd) (K : Nat → α) : α := match x with
  | none => K d
  | some x => match ev x with
    | .int _ j => A.need (0 ≤ j) (K j.toNat)
    | _ => A.bad
def popG (ev : Opd → SV) (K : SV → α) : PIO → α
  | .mv x => K (ev x)
  | .pick c x y => match ev c with
    | .bool b => A.spl b (K (ev x)) (K (ev y))
    | _ => A.bad
  | .ar op x y => match ev x, ev y with
    | .int k a, .int k' b => A.need (op.kinds k k') (op.evG A k a b fun n => K (.int k n))
    | _, _ => A.bad
  | .cmp op x y => match ev x, ev y with
    | .int k a, .int k' b => A.need (k' = k) (K (.bool (op.ev a b)))
    | _, _ => A.bad
  | .beq neg x y => match ev x, ev y with
    | .bool a, .bool b => K (.bool (if neg then a != b else a == b))
    | _, _ => A.bad
  | .seq neg x y => match ev x, ev y with
    | .str a, .str b => K (.bool (if neg then !decide (a = b) else decide (a = b)))
    | _, _ => A.bad
  | .cat x y => match ev x, ev y with
    | .str a, .str b => A.need (a.length + b.length ≤ 9223372036854775807) (K (.str (a ++ b)))
    | _, _ => A.bad
  | .nt x => match ev x with
    | .bool a => K (.bool (!a))
    | _ => A.bad
  | .neg x => match ev x with
    | .int k a => K (.int k (k.wrap (0 - a)))
    | _ => A.bad
  | .conv k x => match ev x with
    | .int _ a => K (.int k (k.wrap a))
    | _ => A.bad
  | .fa k off x => stepG A (.fld k) off K (ev x)
  | .fld k off sz ag x => match ev x with
    | .agg l => A.need (k < l.length ∧ wds (l.take k) = off ∧ wd (l.getD k .junk) = sz ∧ (l.getD k .junk).isAgg = ag) (K (l.getD k .junk))
    | _ => A.bad
  | .ia n w x i => match ev i with
    | .int _ j => A.need (0 ≤ j ∧ j < n) (stepG A (.idx j.toNat n) (j.toNat * w) K (ev x))
    | _ => A.bad
  | .is w x i => match ev i with
    | .int _ j => match ev x with
      | .lst w' d f l => A.need (0 ≤ j ∧ j < l.length) (A.need (w' = w) (K (.eptr w d f l j.toNat [] 0)))
      | .vec v n => A.need (0 ≤ j ∧ j < n) (K (.vptr v j.toNat [] (j.toNat * w)))
      | _ => A.bad
    | _ => A.bad
  | .ix n w ag x i => match ev i with
    | .int _ j => match ev x with
      | .arr n' w' f => A.need (0 ≤ j ∧ j < n) (A.need (n' = n ∧ w' = w ∧ (f j.toNat).isAgg = ag) (K (f j.toNat)))
      | _ => A.bad
    | _ => A.bad
  | .sx x i => match ev i with
    | .int _ j => match ev x with
      | .str s => A.need (0 ≤ j ∧ j < s.length) (K (.int .u8 (s.getD j.toNat 0).toNat))
      | _ => A.bad
    | _ => A.bad
  | .ext k x => match ev x with
    | .tup l => A.need (k < l.length) (K (l.getD k .junk))
    | _ => A.bad
  | .bld z parts => bldG A ev z parts fun z' => A.need (z'.isAgg = true) (K z')
  | .lens x => match ev x with
    | .str s => K (.int .i64 s.length)
    | _ => A.bad
  | .len x => match slLen (ev x) with
    | some n => K (.int .i64 n)
    | none => A.bad
  | .mkfn f caps => A.need ((caps.map ev).all SV.isVal = true) (K (.fn f (caps.map ev)))
  | .nck x => match ev x with
    | .ptr i p o => K (.ptr i p o)
    | .eptr w d f l i p o => K (.eptr w d f l i p o)
    | .vptr i j p o => K (.vptr i j p o)
    | .ref c p o => K (.ref c p o)
    | .fn f c => K (.fn f c)
    | _ => A.bad
  | .mkif t x => A.need ((ev x).isVal = true) (K (.iface t (ev x)))
  | .aeq neg e x y => A.need (esP e (ev x) ∧ esP e (ev y)) (K (.bool (if neg then !eqV e (ev x) (ev y) else eqV e (ev x) (ev y))))
  | .snil neg x => match slLen (ev x) with
    | some n => match ev x with
      | .nils => K (.bool (!neg))
      | _ => A.spl (decide (n = 0)) (K .anyb) (K (.bool neg))
    | none => A.bad
  | .pnil neg x => match ev x with
    | .nilp => K (.bool (!neg))
    | .ptr .. => K (.bool neg)
    | .eptr .. => K (.bool neg)
    | .vptr .. => K (.bool neg)
    | .ref .. => K (.bool neg)
    | _ => A.bad
  | .mx x y => match ev x, ev y with
    | .int k a, .int k' b => A.need (k' = k) (K (.int k (if a < b then b else a)))
    | _, _ => A.bad
  | .mn x y => match ev x, ev y with
    | .int k a, .int k' b => A.need (k' = k) (K (.int k (if b < a then b else a)))
    | _, _ => A.bad
  | .ssl x lo hi => match ev x with
    | .str s => boundG A ev 0 lo fun l => boundG A ev s.length hi fun h => A.need (l ≤ h ∧ h ≤ s.length) (K (.str ((s.take h).drop l)))
    | _ => A.bad
  | .slc w x lo hi mx => match mx, ev x with
    | none, .lst w' d f l => A.need (w' = w) (boundG A ev 0 lo fun a => boundG A ev l.length hi fun b => A.need (a ≤ b ∧ b ≤ l.length) (K (.lst w d f ((l.take b).drop a))))
    | _, _ => A.bad
def peekG (m : List Res) (n : Nat) (ag : Bool) (K : SV → α) : SV → α
  | .ptr i p o => match memAt m i with
    | .blk _ c => A.need (atP c p 0 o ∧ wd (getP c p) = n ∧ (getP c p).isAgg = ag) (K (getP c p))
    | _ => A.bad
  | .eptr _ d f l i p o => A.need (atP (f (l.getD i d)) p 0 o ∧ wd (getP (f (l.getD i d)) p) = n ∧ (getP (f (l.getD i d)) p).isAgg = ag) (K (getP (f (l.getD i d)) p))
  | .vptr i j p o => match memAt m i with
    | .vec _ w l => A.need (j < l.length ∧ atP (l.getD j .junk) p (j * w) o ∧ wd (getP (l.getD j .junk) p) = n ∧ (getP (l.getD j .junk) p).isAgg = ag) (K (getP (l.getD j .junk) p))
    | _ => A.bad
  | .ref c p o => A.need (atP c p 0 o ∧ wd (getP c p) = n ∧ (getP c p).isAgg = ag) (K (getP c p))
  | _ => A.bad
end

section
variable {α : Type} (A : Ans α)
/-- A map is looked at. -/
def mopG (m : List Res) (k : MK) (xs : List SV) (K : SV → α) : α := match k with
  | .get ek ev z ok => match xs with
    | [.map i, key] => match memAt m i with
      | .mp ek' ev' l => A.need (ek' = ek ∧ ev' = ev ∧ esP ek key) (K (if ok then .tup [mpRes ev z (mpFind ek key l), .bool (mpFind ek key l).isSome] else mpRes ev z (mpFind ek key l)))
      | _ => A.bad
    | _ => A.bad
  | _ => A.bad
end
/-! ### The answer is right -/
structure AnsOK {α : Type} (A : Ans α) (good : α → Prop) (val : α → Bool) : Prop where
  bad : ¬ good A.bad
  need : ∀ p x, good (A.need p x) → p ∧ good x ∧ val (A.need p x) = val x
  spl : ∀ b x y, good (A.spl b x y) → good (if b then x else y) ∧ val (A.spl b x y) = val (if b then x else y)
theorem okP : AnsOK AP (fun a => a) (fun _ => false) := ⟨fun h => h, fun _ _ h => ⟨h.1, h.2, rfl⟩, fun b x y h => by cases b <;> exact ⟨by first | exact h.1 rfl | exact h.2 rfl, rfl⟩⟩
theorem okV : AnsOK AV (fun a => a.1) (fun a => a.2) := ⟨fun h => h, fun _ _ h => ⟨h.1, h.2, rfl⟩, fun b x y h => by cases b <;> exact ⟨by first | exact h.1 rfl | exact h.2 rfl, rfl⟩⟩
section
variable {α : Type} {A : Ans α} {good : α → Prop} {val : α → Bool}
def From (good : α → Prop) (val : α → Bool) (r : α) (K : SV → α) (σK : (SV → Prop) → Prop) : Prop := good r → ∃ sv, good (K sv) ∧ val r = val (K sv) ∧ σK fun sv' => Le sv sv'
theorem le_eq {x y c : SV} (h : Le x y) (e : x = c) (hc : c ≠ .junk) : y = c := by
  rcases h with h | h
  · exact absurd (e.symm.trans h) hc
  · exact h ▸ e
theorem le_val {x y : SV} (h : Le x y) (hv : x.isVal = true) : y = x := by
  rcases h with h | h
  · rw [h] at hv; cases hv
  · exact h.symm
theorem evs_val {ev : Opd → SV} {σ : List SV} (hev : ∀ x : Opd, Le (ev x) (x.ev σ)) : ∀ ys : List Opd, (ys.map ev).all SV.isVal = true → ys.map (·.ev σ) = ys.map ev
  | [], _ => rfl
  | y :: ys, h => by
    simp only [List.map_cons, List.all_cons, Bool.and_eq_true] at h ⊢
    rw [le_val (hev y) h.1, evs_val hev ys h.2]
theorem AOp.evG_ok (hA : AnsOK A good val) {k : IntKind} {a b : Int} {K : Int → α} (op : AOp) {r : α} (hr : op.evG A k a b K = r) (h : good r) : ∃ n, good (K n) ∧ val r = val (K n) ∧ op.ev k a b (· = n) := by
  subst hr
  cases op <;> simp only [AOp.evG, AOp.ev] at h ⊢ <;> first
    | exact ⟨_, h, rfl, rfl⟩
    | exact ⟨_, (hA.need _ _ h).2.1, (hA.need _ _ h).2.2, (hA.need _ _ h).1, rfl⟩
theorem AOp.ev_mono {k : IntKind} {a b : Int} {K K' : Int → Prop} (op : AOp) (hK : ∀ n, K n → K' n) (h : op.ev k a b K) : op.ev k a b K' := by
  cases op <;> simp only [AOp.ev] at h ⊢ <;> first
    | exact hK _ h
    | exact ⟨h.1, hK _ h.2⟩
theorem stepG_ok (hA : AnsOK A good val) {s : Step} {off : Nat} {K : SV → α} {x : SV} {r : α} (hr : stepG A s off K x = r) (h : good r) : x.isVal = true ∧ ∃ sv, good (K sv) ∧ val r = val (K sv) ∧ stepTo s off (Le sv) x := by
  subst hr
  cases x <;> simp only [stepG] at h ⊢ <;> first
    | exact absurd h hA.bad
    | exact ⟨rfl, _, h, rfl, .inr rfl⟩
theorem bldG_ok (hA : AnsOK A good val) {ev : Opd → SV} {σ : List SV} (hev : ∀ x : Opd, Le (ev x) (x.ev σ)) {K : SV → α} : ∀ (ps : List (List Step × Nat × Nat × Opd)) (z : SV) {r : α}, bldG A ev z ps K = r → good r → ∃ sv, good (K sv) ∧ val r = val (K sv) ∧ bldParts σ z ps (· = sv)
  | [], z, r, hr, h => by subst hr; exact ⟨_, h, rfl, rfl⟩
  | (p, o, n, x) :: ps, z, r, hr, h => by
    subst hr
    simp only [bldG] at h ⊢
    obtain ⟨h1, h2, h3⟩ := hA.need _ _ h
    obtain ⟨sv, k1, k2, k3⟩ := bldG_ok hA hev ps _ rfl h2
    have e := le_val (hev x) h1.2.2.1
    refine ⟨sv, k1, h3.trans k2, ?_⟩
    simp only [bldParts, e]
    exact ⟨h1, k3⟩
theorem bldParts_mono {σ : List SV} {K K' : SV → Prop} (hK : ∀ x, K x → K' x) : ∀ (ps : List (List Step × Nat × Nat × Opd)) (z : SV), bldParts σ z ps K → bldParts σ z ps K'
  | [], _, h => hK _ h
  | _ :: ps, _, h => ⟨h.1, bldParts_mono hK ps _ h.2⟩
theorem boundG_ok (hA : AnsOK A good val) {ev : Opd → SV} {σ : List SV} (hev : ∀ x : Opd, Le (ev x) (x.ev σ)) {d : Nat} {x : Option Opd} {K : Nat → α} {r : α} (hr : boundG A ev d x K = r) (h : good r) : ∃ n, good (K n) ∧ val r = val (K n) ∧ ∀ K' : Nat → Prop, K' n → popK.bound σ d x K' := by
  subst hr
  cases x with
  | none => exact ⟨_, h, rfl, fun _ h => h⟩
  | some x =>
    simp only [boundG] at h ⊢
    split at h
    · rename_i k j e
      have e' := le_eq (hev x) e (by intro h; cases h)
      obtain ⟨h1, h2, h3⟩ := hA.need _ _ h
      refine ⟨_, h2, h3, fun K' hK => ?_⟩
      simp only [popK.bound, e']
      exact ⟨h1, hK⟩
    · exact absurd h hA.bad
theorem popG_ok (hA : AnsOK A good val) {ev : Opd → SV} {σ : List SV} (hev : ∀ x : Opd, Le (ev x) (x.ev σ)) {K : SV → α} (p : PIO) {r : α} (hr : popG A ev K p = r) : From good val r K (fun K' => popK σ K' p) := by
  intro h
  have bad : ∀ {q : Prop}, good A.bad → q := fun h => absurd h hA.bad
  have two : ∀ {x y : Opd} {a b : SV}, ev x = a → ev y = b → a ≠ .junk → b ≠ .junk → x.ev σ = a ∧ y.ev σ = b := fun h1 h2 h3 h4 => ⟨le_eq (hev _) h1 h3, le_eq (hev _) h2 h4⟩
  have nj : ∀ {x c : SV}, x = c → c ≠ .junk → c ≠ .junk := fun _ h => h
  subst hr
  cases p with
  | mv x => exact ⟨_, h, rfl, hev x⟩
  | pick c x y =>
    simp only [popG] at h ⊢
    split at h
    · rename_i b e
      have e' := le_eq (hev c) e (by intro h; cases h)
      obtain ⟨h1, h2⟩ := hA.spl _ _ _ h
      cases b
      · exact ⟨_, h1, h2, by simpa [popK, e'] using hev y⟩
      · exact ⟨_, h1, h2, by simpa [popK, e'] using hev x⟩
    · exact bad h
  | ar op x y =>
    simp only [popG] at h ⊢
    split at h
    · rename_i k a k' b e1 e2
      obtain ⟨f1, f2⟩ := two e1 e2 (by intro h; cases h) (by intro h; cases h)
      obtain ⟨h1, h2, h3⟩ := hA.need _ _ h
      obtain ⟨n, k1, k2, k3⟩ := AOp.evG_ok hA op rfl h2
      refine ⟨_, k1, h3.trans k2, ?_⟩
      simp only [popK, f1, f2]
      exact ⟨h1, AOp.ev_mono op (fun m hm => by subst hm; exact .inr rfl) k3⟩
    · exact bad h
  | cmp op x y =>
    simp only [popG] at h ⊢
    split at h
    · rename_i k a k' b e1 e2
      obtain ⟨f1, f2⟩ := two e1 e2 (by intro h; cases h) (by intro h; cases h)
      obtain ⟨h1, h2, h3⟩ := hA.need _ _ h
      exact ⟨_, h2, h3, by simp only [popK, f1, f2]; exact ⟨h1, .inr rfl⟩⟩
    · exact bad h
  | beq neg x y =>
    simp only [popG] at h ⊢
    split at h
    · rename_i a b e1 e2
      obtain ⟨f1, f2⟩ := two e1 e2 (by intro h; cases h) (by intro h; cases h)
      exact ⟨_, h, rfl, by simp only [popK, f1, f2]; exact .inr rfl⟩
    · exact bad h
  | seq neg x y =>
    simp only [popG] at h ⊢
    split at h
    · rename_i a b e1 e2
      obtain ⟨f1, f2⟩ := two e1 e2 (by intro h; cases h) (by intro h; cases h)
      exact ⟨_, h, rfl, by simp only [popK, f1, f2]; exact .inr rfl⟩
    · exact bad h
  | cat x y =>
    simp only [popG] at h ⊢
    split at h
    · rename_i a b e1 e2
      obtain ⟨f1, f2⟩ := two e1 e2 (by intro h; cases h) (by intro h; cases h)
      obtain ⟨h1, h2, h3⟩ := hA.need _ _ h
      exact ⟨_, h2, h3, by simp only [popK, f1, f2]; exact ⟨h1, .inr rfl⟩⟩
    · exact bad h
  | nt x =>
    simp only [popG] at h ⊢
    split at h
    · rename_i a e1
      have f1 := le_eq (hev x) e1 (by intro h; cases h)
      exact ⟨_, h, rfl, by simp only [popK, f1]; exact .inr rfl⟩
    · exact bad h
  | neg x =>
    simp only [popG] at h ⊢
    split at h
    · rename_i k a e1
      have f1 := le_eq (hev x) e1 (by intro h; cases h)
      exact ⟨_, h, rfl, by simp only [popK, f1]; exact .inr rfl⟩
    · exact bad h
  | conv k x =>
    simp only [popG] at h ⊢
    split at h
    · rename_i k a e1
      have f1 := le_eq (hev x) e1 (by intro h; cases h)
      exact ⟨_, h, rfl, by simp only [popK, f1]; exact .inr rfl⟩
    · exact bad h
  | fa k off x =>
    simp only [popG] at h ⊢
    obtain ⟨hv, sv, k1, k2, k3⟩ := stepG_ok hA rfl h
    exact ⟨sv, k1, k2, by simp only [popK, le_val (hev x) hv]; exact k3⟩
  | fld k off sz ag x =>
    simp only [popG] at h ⊢
    split at h
    · rename_i l e1
      have f1 := le_eq (hev x) e1 (by intro h; cases h)
      obtain ⟨h1, h2, h3⟩ := hA.need _ _ h
      exact ⟨_, h2, h3, by simp only [popK, f1]; exact ⟨h1, .inr rfl⟩⟩
    · exact bad h
  | ia n w x i =>
    simp only [popG] at h ⊢
    split at h
    · rename_i k j e1
      have f1 := le_eq (hev i) e1 (by intro h; cases h)
      obtain ⟨h1, h2, h3⟩ := hA.need _ _ h
      obtain ⟨hv, sv, k1, k2, k3⟩ := stepG_ok hA rfl h2
      exact ⟨sv, k1, h3.trans k2, by simp only [popK, f1, le_val (hev x) hv]; exact ⟨h1, k3⟩⟩
    · exact bad h
  | «is» w x i =>
    simp only [popG] at h ⊢
    split at h
    · rename_i k j e1
      have f1 := le_eq (hev i) e1 (by intro h; cases h)
      split at h
      · rename_i e2
        have f2 := le_eq (hev x) e2 (by intro h; cases h)
        obtain ⟨h1, h2, h3⟩ := hA.need _ _ h
        obtain ⟨g1, g2, g3⟩ := hA.need _ _ h2
        exact ⟨_, g2, h3.trans g3, by simp only [popK, f1, f2]; exact ⟨h1, g1, .inr rfl⟩⟩
      · rename_i e2
        have f2 := le_eq (hev x) e2 (by intro h; cases h)
        obtain ⟨h1, h2, h3⟩ := hA.need _ _ h
        exact ⟨_, h2, h3, by simp only [popK, f1, f2]; exact ⟨h1, .inr rfl⟩⟩
      · exact bad h
    · exact bad h
  | ix n w ag x i =>
    simp only [popG] at h ⊢
    split at h
    · rename_i k j e1
      have f1 := le_eq (hev i) e1 (by intro h; cases h)
      split at h
      · rename_i e2
        have f2 := le_eq (hev x) e2 (by intro h; cases h)
        obtain ⟨h1, h2, h3⟩ := hA.need _ _ h
        obtain ⟨g1, g2, g3⟩ := hA.need _ _ h2
        exact ⟨_, g2, h3.trans g3, by simp only [popK, f1, f2]; exact ⟨h1, g1, .inr rfl⟩⟩
      · exact bad h
    · exact bad h
  | sx x i =>
    simp only [popG] at h ⊢
    split at h
    · rename_i k j e1
      have f1 := le_eq (hev i) e1 (by intro h; cases h)
      split at h
      · rename_i e2
        have f2 := le_eq (hev x) e2 (by intro h; cases h)
        obtain ⟨h1, h2, h3⟩ := hA.need _ _ h
        exact ⟨_, h2, h3, by simp only [popK, f1, f2]; exact ⟨h1, .inr rfl⟩⟩
      · exact bad h
    · exact bad h
  | ext k x =>
    simp only [popG] at h ⊢
    split at h
    · rename_i l e1
      have f1 := le_eq (hev x) e1 (by intro h; cases h)
      obtain ⟨h1, h2, h3⟩ := hA.need _ _ h
      exact ⟨_, h2, h3, by simp only [popK, f1]; exact ⟨h1, .inr rfl⟩⟩
    · exact bad h
  | bld z ps =>
    simp only [popG] at h ⊢
    obtain ⟨sv, k1, k2, k3⟩ := bldG_ok hA hev ps z rfl h
    obtain ⟨h1, h2, h3⟩ := hA.need _ _ k1
    exact ⟨_, h2, k2.trans h3, by simp only [popK]; exact bldParts_mono (fun x hx => by subst hx; exact ⟨h1, .inr rfl⟩) ps z k3⟩
  | lens x =>
    simp only [popG] at h ⊢
    split at h
    · rename_i s e1
      have f1 := le_eq (hev x) e1 (by intro h; cases h)
      exact ⟨_, h, rfl, by simp only [popK, f1]; exact .inr rfl⟩
    · exact bad h
  | len x =>
    simp only [popG] at h ⊢
    split at h
    · rename_i n e1
      have f1 : x.ev σ = ev x := by
        rcases hev x with e | e
        · rw [e] at e1; cases e1
        · exact e.symm
      exact ⟨_, h, rfl, by simp only [popK, f1, e1]; exact .inr rfl⟩
    · exact bad h
  | mkfn f caps =>
    simp only [popG] at h ⊢
    obtain ⟨h1, h2, h3⟩ := hA.need _ _ h
    exact ⟨_, h2, h3, by simp only [popK]; rw [evs_val hev caps h1]; exact ⟨h1, .inr rfl⟩⟩
  | nck x =>
    simp only [popG] at h ⊢
    split at h <;> first
      | exact bad h
      | (rename_i e1
         have f1 := le_eq (hev x) e1 (by intro h; cases h)
         exact ⟨_, h, rfl, by simp only [popK, f1]; exact .inr rfl⟩)
  | pnil neg x =>
    simp only [popG] at h ⊢
    split at h <;> first
      | exact bad h
      | (rename_i e1
         have f1 := le_eq (hev x) e1 (by intro h; cases h)
         exact ⟨_, h, rfl, by simp only [popK, f1]; exact .inr rfl⟩)
  | mkif t x =>
    simp only [popG] at h ⊢
    obtain ⟨h1, h2, h3⟩ := hA.need _ _ h
    exact ⟨_, h2, h3, by simp only [popK]; rw [le_val (hev x) h1]; exact ⟨h1, .inr rfl⟩⟩
  | aeq neg e x y =>
    simp only [popG] at h ⊢
    obtain ⟨h1, h2, h3⟩ := hA.need _ _ h
    have vv : ∀ {z : SV}, esP e z → z.isVal = true := by
      intro z hz
      cases e <;> cases z <;> simp only [esP] at hz <;> rfl
    have f1 := le_val (hev x) (vv h1.1)
    have f2 := le_val (hev y) (vv h1.2)
    exact ⟨_, h2, h3, by simp only [popK, f1, f2]; exact ⟨h1, .inr rfl⟩⟩
  | snil neg x =>
    simp only [popG] at h ⊢
    split at h
    · rename_i n e1
      have f1 : x.ev σ = ev x := by
        rcases hev x with e | e
        · rw [e] at e1; cases e1
        · exact e.symm
      split at h
      · rename_i e2
        refine ⟨_, h, rfl, ?_⟩
        simp only [popK, f1, e1, e2]
        exact .inr rfl
      · obtain ⟨h1, h2⟩ := hA.spl _ _ _ h
        rename_i hne
        have pk : ∀ K' : SV → Prop, ((decide (n = 0) = true → K' .anyb) ∧ (decide (n = 0) = false → K' (.bool neg))) → popK σ K' (.snil neg x) := by
          intro K' hK
          simp only [popK, f1, e1]
          first
            | exact hK
            | (split
               · rename_i e3; exact absurd e3 hne
               · exact hK)
        by_cases hn : n = 0
        · simp only [hn, decide_true, if_true] at h1 h2
          exact ⟨_, h1, by simpa [hn] using h2, pk _ ⟨fun _ => .inr rfl, fun e => by simp [hn] at e⟩⟩
        · simp only [hn, decide_false, Bool.false_eq_true, if_false] at h1 h2
          exact ⟨_, h1, by simpa [hn] using h2, pk _ ⟨fun e => by simp [hn] at e, fun _ => .inr rfl⟩⟩
    · exact bad h
  | mx x y =>
    simp only [popG] at h ⊢
    split at h
    · rename_i k a k' b e1 e2
      obtain ⟨f1, f2⟩ := two e1 e2 (by intro h; cases h) (by intro h; cases h)
      obtain ⟨h1, h2, h3⟩ := hA.need _ _ h
      exact ⟨_, h2, h3, by simp only [popK, f1, f2]; exact ⟨h1, .inr rfl⟩⟩
    · exact bad h
  | mn x y =>
    simp only [popG] at h ⊢
    split at h
    · rename_i k a k' b e1 e2
      obtain ⟨f1, f2⟩ := two e1 e2 (by intro h; cases h) (by intro h; cases h)
      obtain ⟨h1, h2, h3⟩ := hA.need _ _ h
      exact ⟨_, h2, h3, by simp only [popK, f1, f2]; exact ⟨h1, .inr rfl⟩⟩
    · exact bad h
  | ssl x lo hi =>
    simp only [popG] at h ⊢
    split at h
    · rename_i s e1
      have f1 := le_eq (hev x) e1 (by intro h; cases h)
      obtain ⟨a, h1, h2, h3⟩ := boundG_ok hA hev rfl h
      obtain ⟨b, g1, g2, g3⟩ := boundG_ok hA hev rfl h1
      obtain ⟨q1, q2, q3⟩ := hA.need _ _ g1
      exact ⟨_, q2, (h2.trans g2).trans q3, by simp only [popK, f1]; exact h3 _ (g3 _ ⟨q1, .inr rfl⟩)⟩
    · exact bad h
  | slc w x lo hi mx =>
    simp only [popG] at h ⊢
    split at h
    · rename_i w' d f l e1
      have f1 := le_eq (hev x) e1 (by intro h; cases h)
      obtain ⟨r1, r2, r3⟩ := hA.need _ _ h
      obtain ⟨a, h1, h2, h3⟩ := boundG_ok hA hev rfl r2
      obtain ⟨b, g1, g2, g3⟩ := boundG_ok hA hev rfl h1
      obtain ⟨q1, q2, q3⟩ := hA.need _ _ g1
      exact ⟨_, q2, ((r3.trans h2).trans g2).trans q3, by simp only [popK, f1]; exact ⟨r1, h3 _ (g3 _ ⟨q1, .inr rfl⟩)⟩⟩
    · exact bad h
theorem peekG_ok (hA : AnsOK A good val) {m : List Res} {n : Nat} {ag : Bool} {K : SV → α} {x : SV} {r : α} (hr : peekG A m n ag K x = r) (h : good r) : x.isVal = true ∧ ∃ sv, good (K sv) ∧ val r = val (K sv) ∧ peek m n ag (Le sv) x := by
  subst hr
  cases x <;> simp only [peekG, peek] at h ⊢ <;> first
    | exact absurd h hA.bad
    | exact ⟨rfl, _, (hA.need _ _ h).2.1, (hA.need _ _ h).2.2, (hA.need _ _ h).1, .inr rfl⟩
    | (split at h
       · rename_i e
         simp only [e]
         exact ⟨rfl, _, (hA.need _ _ h).2.1, (hA.need _ _ h).2.2, (hA.need _ _ h).1, .inr rfl⟩
       · exact absurd h hA.bad)
theorem mopG_ok (hA : AnsOK A good val) {m : List Res} {k : MK} {xs : List SV} {K : SV → α} {r : α} (hr : mopG A m k xs K = r) (h : good r) : ∃ sv, good (K sv) ∧ val r = val (K sv) ∧ ∀ K' : SV → List Res → Prop, K' sv m → mopK m k xs K' := by
  subst hr
  cases k <;> simp only [mopG, mopK] at h ⊢ <;> try (exact absurd h hA.bad)
  split at h
  · rename_i i key
    simp only
    split at h
    · rename_i e0
      obtain ⟨h1, h2, h3⟩ := hA.need _ _ h
      exact ⟨_, h2, h3, fun K' hK => by simp only [e0]; exact ⟨h1, hK⟩⟩
    · exact absurd h hA.bad
  · exact absurd h hA.bad
end
theorem mopK_mono {m : List Res} {k : MK} {xs : List SV} {K K' : SV → List Res → Prop} (hK : ∀ x m, K x m → K' x m) (h : mopK m k xs K) : mopK m k xs K' := by
  cases k <;> simp only [mopK] at h ⊢
  · split at h <;> first | exact hK _ _ h | exact h.elim
  · split at h
    · try simp only
      split at h
      · rename_i e0
        try rw [e0]
        exact ⟨h.1, hK _ _ h.2⟩
      · exact h.elim
    · exact h.elim
  · split at h
    · try simp only
      split at h
      · rename_i e0
        try rw [e0]
        exact ⟨h.1, hK _ _ h.2⟩
      · exact h.elim
    · exact h.elim
/-! ### Both ways to answer of a group agree -/
/-- What has been gathered on the way, and where it goes. -/
def RelC (F : Bool → Prop → Prop) (x : Prop → Prop) (y : Prop × Bool) : Prop := ∀ acc, x acc → ∃ g, F y.2 g ∧ (g → acc ∧ y.1)
section rel
variable {F : Bool → Prop → Prop}
theorem rel_bad {y : Prop × Bool} : RelC F AC.bad y := fun _ h => h.elim
theorem rel_need {p : Prop} {x : Prop → Prop} {y : Prop × Bool} (h : RelC F x y) : RelC F (AC.need p x) (AV.need p y) := fun acc hx => by
  obtain ⟨g, h1, h2⟩ := h _ hx
  exact ⟨g, h1, fun hg => ⟨(h2 hg).1.1, (h2 hg).1.2, (h2 hg).2⟩⟩
theorem rel_spl {b : Bool} {x x' : Prop → Prop} {y y' : Prop × Bool} (h : RelC F x y) (h' : RelC F x' y') : RelC F (AC.spl b x x') (AV.spl b y y') := fun acc hx => by
  cases b with
  | true =>
    obtain ⟨g, h1, h2⟩ := h _ (hx.1 rfl)
    exact ⟨g, h1, fun hg => ⟨(h2 hg).1, (⟨fun _ => (h2 hg).2, fun e => by cases e⟩ : (true = true → y.1) ∧ (true = false → y'.1))⟩⟩
  | false =>
    obtain ⟨g, h1, h2⟩ := h' _ (hx.2 rfl)
    exact ⟨g, h1, fun hg => ⟨(h2 hg).1, (⟨fun e => (by cases e), fun _ => (h2 hg).2⟩ : (false = true → y.1) ∧ (false = false → y'.1))⟩⟩
theorem rel_bld {ev : Opd → SV} {K : SV → Prop → Prop} {K' : SV → Prop × Bool} (hK : ∀ sv, RelC F (K sv) (K' sv)) : ∀ (ps : List (List Step × Nat × Nat × Opd)) (z : SV), RelC F (bldG AC ev z ps K) (bldG AV ev z ps K')
  | [], z => hK z
  | (p, o, n, x) :: r, z => rel_need (rel_bld hK r _)
theorem rel_bound {ev : Opd → SV} {d : Nat} {x : Option Opd} {K : Nat → Prop → Prop} {K' : Nat → Prop × Bool} (hK : ∀ n, RelC F (K n) (K' n)) : RelC F (boundG AC ev d x K) (boundG AV ev d x K') := by
  cases x with
  | none => exact hK d
  | some x =>
    simp only [boundG]
    split
    · exact rel_need (hK _)
    · exact rel_bad
theorem rel_step {s : Step} {off : Nat} {K : SV → Prop → Prop} {K' : SV → Prop × Bool} (hK : ∀ sv, RelC F (K sv) (K' sv)) (x : SV) : RelC F (stepG AC s off K x) (stepG AV s off K' x) := by
  cases x <;> simp only [stepG] <;> first | exact hK _ | exact rel_bad
theorem rel_peek {m : List Res} {n : Nat} {ag : Bool} {K : SV → Prop → Prop} {K' : SV → Prop × Bool} (hK : ∀ sv, RelC F (K sv) (K' sv)) (x : SV) : RelC F (peekG AC m n ag K x) (peekG AV m n ag K' x) := by
  cases x <;> simp only [peekG] <;> first
    | exact rel_bad
    | exact rel_need (hK _)
    | (split <;> first | exact rel_bad | exact rel_need (hK _))
theorem rel_mop {m : List Res} {k : MK} {xs : List SV} {K : SV → Prop → Prop} {K' : SV → Prop × Bool} (hK : ∀ sv, RelC F (K sv) (K' sv)) : RelC F (mopG AC m k xs K) (mopG AV m k xs K') := by
  cases k <;> simp only [mopG] <;> try (exact rel_bad)
  split
  · split
    · exact rel_need (hK _)
    · exact rel_bad
  · exact rel_bad
theorem rel_ar {k : IntKind} {a b : Int} {K : Int → Prop → Prop} {K' : Int → Prop × Bool} (hK : ∀ n, RelC F (K n) (K' n)) (op : AOp) : RelC F (op.evG AC k a b K) (op.evG AV k a b K') := by
  cases op <;> simp only [AOp.evG] <;> first | exact hK _ | exact rel_need (hK _)
theorem rel_pop {ev : Opd → SV} {K : SV → Prop → Prop} {K' : SV → Prop × Bool} (hK : ∀ sv, RelC F (K sv) (K' sv)) (p : PIO) : RelC F (popG AC ev K p) (popG AV ev K' p) := by
  cases p with
  | ar op x y =>
    simp only [popG]
    split
    · exact rel_need (rel_ar (fun n => hK _) op)
    · exact rel_bad
  | pick c x y =>
    simp only [popG]
    split
    · exact rel_spl (hK _) (hK _)
    · exact rel_bad
  | fa k off x => exact rel_step hK _
  | ia n w x i =>
    simp only [popG]
    split
    · exact rel_need (rel_step hK _)
    · exact rel_bad
  | bld z ps => exact rel_bld (fun sv => rel_need (hK _)) ps z
  | ssl x lo hi =>
    simp only [popG]
    split
    · exact rel_bound (fun l => rel_bound (fun h => rel_need (hK _)))
    · exact rel_bad
  | slc w x lo hi mx =>
    simp only [popG]
    split
    · exact rel_need (rel_bound (fun l => rel_bound (fun h => rel_need (hK _))))
    · exact rel_bad
  | snil neg x =>
    simp only [popG]
    split
    · split
      · exact hK _
      · exact rel_spl (hK _) (hK _)
    · exact rel_bad
  | _ =>
    simp only [popG]
    first
      | exact hK _
      | exact rel_need (hK _)
      | (split <;> first | exact hK _ | exact rel_need (hK _) | exact rel_bad | (split <;> first | exact rel_bad | exact rel_need (rel_need (hK _)) | exact rel_need (hK _)))
end rel
theorem stepTo_mono {s : Step} {off : Nat} {K K' : SV → Prop} (hK : ∀ x, K x → K' x) {x : SV} (h : stepTo s off K x) : stepTo s off K' x := by
  cases x <;> simp only [stepTo] at h ⊢ <;> exact hK _ h
theorem bound_mono {σ : List SV} {d : Nat} {x : Option Opd} {K K' : Nat → Prop} (hK : ∀ x, K x → K' x) (h : popK.bound σ d x K) : popK.bound σ d x K' := by
  cases x with
  | none => exact hK _ h
  | some x =>
    simp only [popK.bound] at h ⊢
    split at h
    · exact ⟨h.1, hK _ h.2⟩
    · exact h.elim
theorem peek_mono {m : List Res} {n : Nat} {ag : Bool} {K K' : SV → Prop} (hK : ∀ x, K x → K' x) {x : SV} (hh : peek m n ag K x) : peek m n ag K' x := by
  cases x <;> simp only [peek] at hh ⊢ <;> first
    | exact hh
    | exact ⟨hh.1, hK _ hh.2⟩
    | (split at hh <;> first | exact hh.elim | exact ⟨hh.1, hK _ hh.2⟩)
theorem popK_mono {σ : List SV} {K K' : SV → Prop} (hK : ∀ x, K x → K' x) {p : PIO} (h : popK σ K p) : popK σ K' p := by
  cases p <;> simp only [popK] at h ⊢
  case ar => split at h <;> first | exact h.elim | exact ⟨h.1, AOp.ev_mono _ (fun n hn => hK _ hn) h.2⟩
  case fa => exact stepTo_mono hK h
  case ia => split at h <;> first | exact h.elim | exact ⟨h.1, stepTo_mono hK h.2⟩
  case bld => exact bldParts_mono (fun x hx => ⟨hx.1, hK _ hx.2⟩) _ _ h
  case ssl => split at h <;> first | exact h.elim | exact bound_mono (fun a ha => bound_mono (fun b hb => ⟨hb.1, hK _ hb.2⟩) ha) h
  case slc => split at h <;> first | exact h.elim | exact ⟨h.1, bound_mono (fun a ha => bound_mono (fun b hb => ⟨hb.1, hK _ hb.2⟩) ha) h.2⟩
  case snil => split at h <;> first | exact h.elim | (split at h <;> first | exact hK _ h | exact ⟨fun e => hK _ (h.1 e), fun e => hK _ (h.2 e)⟩)
  case pick => split at h <;> first | exact h.elim | exact ⟨fun e => hK _ (h.1 e), fun e => hK _ (h.2 e)⟩
  all_goals first
    | exact hK _ h
    | exact ⟨h.1, hK _ h.2⟩
    | (split at h <;> first | exact h.elim | exact hK _ h | exact ⟨h.1, hK _ h.2⟩ | (split at h <;> first | exact h.elim | exact ⟨h.1, hK _ h.2⟩ | exact ⟨h.1, h.2.1, hK _ h.2.2⟩))
end Go.Sx
