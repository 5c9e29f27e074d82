import Derived.Test.YtgcbhanfhnianaaSx17
import Derived.Attr
import Derived.RowKit3
import Derived.ChangeArms
import Derived.OpenShut
/-! Sx, part 18: loops as they are walked; what closes a row; the words that 'simp only [go_sem]' takes. -/
set_option linter.unusedSimpArgs false
set_option linter.unusedVariables false
namespace Go.Sx
open Go

variable {P : Program}

section words
variable {Γ : Hook} {n0 : Nat} {Q : Ex → List SV → List Res → Prop} {σ : List SV} {m : List Res}
end words

/-! ### Loops -/
def wrO (l : List IOp) : List Nat := l.filterMap (·.dst)
def wr : IC → List Nat
  | .ops l => wrO l
  | .dops l => wrO l
  | .gops l d _ _ lo => wrO l ++ d :: wrO lo
  | .seq a b => wr a ++ wr b
  | .cond _ a b => wr a ++ wr b
  | .block _ c => wr c
  | .loop c => wr c
  | _ => []

def leS : List SV → List SV → Prop
  | [], [] => True
  | x :: a, y :: b => (x = .junk ∨ x = y) ∧ leS a b
  | _, _ => False

theorem leS_ok : ∀ {σ' σ : List SV}, leS σ' σ → σ'.length = σ.length ∧ ∀ k, σ'.getD k .junk = .junk ∨ σ'.getD k .junk = σ.getD k .junk
  | [], [], _ => ⟨rfl, fun k => .inl (by simp)⟩
  | x :: a, y :: b, h => by
    obtain ⟨h1, h2⟩ := leS_ok h.2
    refine ⟨by simp [h1], fun k => ?_⟩
    cases k with
    | zero => simpa using h.1
    | succ k => simpa using h2 k
  | [], _ :: _, h => h.elim
  | _ :: _, [], h => h.elim

theorem SlotsOK.le {ε : Env} {σ σ' : List SV} {a : Act} (h : SlotsOK ε σ a) (hl : leS σ' σ) : SlotsOK ε σ' a := by
  obtain ⟨h1, h2⟩ := leS_ok hl
  refine ⟨by rw [h1]; exact h.1, fun k => ?_⟩
  rcases h2 k with e | e <;> rw [e]
  · trivial
  · exact h.2 k

theorem Weak.of_le {σ σ' : List SV} {m : List Res} (h : leS σ' σ) : Weak σ m σ' m := fun _ ε _ _ hi hs => ⟨ε, hi, hs.le h⟩
theorem Weak.refl (σ : List SV) (m : List Res) : Weak σ m σ m := fun _ ε _ _ hi hs => ⟨ε, hi, hs⟩
theorem Weak.trans {σ σ' σ'' : List SV} {m m' m'' : List Res} (h : Weak σ m σ' m') (k : Weak σ' m' σ'' m'') : Weak σ m σ'' m'' := fun β ε a w hi hs => by
  obtain ⟨ε', h1, h2⟩ := h β ε a w hi hs
  exact k β ε' a w h1 h2

structure Hide {α β γ : Sort _} (x : α) (y : β) (z : γ) : Type where
theorem Weak.le {σ σ' : List SV} {m m' : List Res} (h : leS σ' σ) (hm : m' = m) : Weak σ m σ' m' := by subst hm; exact Weak.of_le h

/-! ### Where a body ends that leaves nothing -/
theorem resK_mono {σ : List SV} {m : List Res} {K K' : SV → Prop} (h : ∀ x, K x → K' x) : ∀ {rs : List ResultVar}, resK P σ m K rs → resK P σ m K' rs := by
  have hpk : ∀ {n : Nat} {ag : Bool} {K K' : SV → Prop} (_ : ∀ x, K x → K' x) {x : SV}, peek m n ag K x → peek m n ag K' x := by
    intro n ag K K' h x hh
    cases x <;> simp only [peek] at hh ⊢ <;> first
      | exact hh
      | exact ⟨hh.1, h _ hh.2⟩
      | (split at hh <;> first | exact hh.elim | exact ⟨hh.1, h _ hh.2⟩)
  have hgo : ∀ (l : List ResultVar) {K K' : List SV → Prop} (_ : ∀ x, K x → K' x), resK.go P σ m l K → resK.go P σ m l K' := by
    intro l
    induction l with
    | nil => intro K K' h hh; exact h _ hh
    | cons r l ih =>
      intro K K' h hh
      cases r with
      | tmp t => exact ⟨hh.1, ih (fun x hx => h _ hx) hh.2⟩
      | cell t T =>
        simp only [resK.go] at hh ⊢
        split at hh
        · exact hpk (fun x hx => ⟨hx.1, ih (fun y hy => h _ hy) hx.2⟩) hh
        · exact hh.elim
  intro rs hh
  match rs, hh with
  | [], hh => exact h _ hh
  | [.tmp t], hh => exact h _ hh
  | [.cell t T], hh =>
    simp only [resK] at hh ⊢
    split at hh
    · exact hpk h hh
    · exact hh.elim
  | .tmp t :: b :: l, hh => exact hgo (.tmp t :: b :: l) (K := fun xs => K (.tup xs)) (K' := fun xs => K' (.tup xs)) (fun x hx => h _ hx) (by simpa only [resK] using hh)
  | .cell t T :: b :: l, hh => exact hgo (.cell t T :: b :: l) (K := fun xs => K (.tup xs)) (K' := fun xs => K' (.tup xs)) (fun x hx => h _ hx) (by simpa only [resK] using hh)

/-! ### A callee that only reads -/
def Hook.ro (f : FuncId) {ι : Type} (A : ι → List SV) (R : ι → SV) (ok : ι → Prop) (Γ : Hook) : Hook := Γ.on f fun args m K => ∃ i, ok i ∧ RoA m args (A i) ∧ K (R i) m

def Hook.fn (f : FuncId) (F : List SV → Option SV) (Γ : Hook) : Hook := Γ.on f fun args m K => match F args with
  | some r => K r m
  | none => False

/-! ### How long what was handed in can be -/
mutual
def lenB : SV → Prop
  | .lst _ _ f l => l.length ≤ 9223372036854775807 ∧ ∀ x ∈ l, lenB (f x)
  | .agg l => lenBL l
  | .arr n _ f => ∀ i, i < n → lenB (f i)
  | .ref c _ _ => lenB c
  | _ => True
def lenBL : List SV → Prop
  | [] => True
  | x :: r => lenB x ∧ lenBL r
end

mutual
theorem lenB_ok : ∀ (x : SV) {ε : Env} {cs : List Value}, SatC x ε cs → lenB x
  | .lst w d f l, ε, cs, h => by
    simp only [SatC] at h
    obtain ⟨ao, cap, h1, h2, h3, h4, h5⟩ := h
    simp only [lenB]
    refine ⟨by unfold maxLen at h3; omega, fun x hx => ?_⟩
    obtain ⟨i, hi, hxi⟩ := List.getElem_of_mem hx
    obtain ⟨b, off, T, fz, cur, e1, e2, e3, e4⟩ := h5 i hi
    have e : l.getD i d = x := by simp [List.getD, hi, hxi]
    rw [e] at e4
    exact lenB_ok (f x) e4
  | .agg l, ε, cs, h => by simp only [SatC] at h; simp only [lenB]; exact lenBL_ok l h
  | .arr n w f, ε, cs, h => by simp only [SatC] at h; simp only [lenB]; exact fun i hi => lenB_ok (f i) (h.2 i hi)
  | .ref c p o, ε, cs, h => by
    simp only [SatC] at h
    obtain ⟨b, T, fz, cur, h1, h2, h3, h4⟩ := h
    simp only [lenB]
    exact lenB_ok c h4
  | .int .., _, _, _ => by simp only [lenB]
  | .bool .., _, _, _ => by simp only [lenB]
  | .str .., _, _, _ => by simp only [lenB]
  | .tup .., _, _, _ => by simp only [lenB]
  | .lit .., _, _, _ => by simp only [lenB]
  | .eptr .., _, _, _ => by simp only [lenB]
  | .ptr .., _, _, _ => by simp only [lenB]
  | .vec .., _, _, _ => by simp only [lenB]
  | .vptr .., _, _, _ => by simp only [lenB]
  | .pvec .., _, _, _ => by simp only [lenB]
  | .map .., _, _, _ => by simp only [lenB]
  | .fn .., _, _, _ => by simp only [lenB]
  | .iface .., _, _, _ => by simp only [lenB]
  | .nils, _, _, _ => by simp only [lenB]
  | .nili, _, _, _ => by simp only [lenB]
  | .nilf, _, _, _ => by simp only [lenB]
  | .nilp, _, _, _ => by simp only [lenB]
  | .nilm, _, _, _ => by simp only [lenB]
  | .anyb, _, _, _ => by simp only [lenB]
  | .raw .., _, _, _ => by simp only [lenB]
  | .junk, _, _, _ => by simp only [lenB]
theorem lenBL_ok : ∀ (l : List SV) {ε : Env} {cs : List Value}, SatL l ε cs → lenBL l
  | [], _, _, _ => by simp only [lenBL]
  | x :: l, ε, cs, h => by
    simp only [SatL] at h
    obtain ⟨a, b, h1, h2, h3⟩ := h
    simp only [lenBL]
    exact ⟨lenB_ok x h2, lenBL_ok l h3⟩
end

theorem lenA_ok : ∀ {l : List SV} {ε : Env} {vs : List Value}, SatA l ε vs → lenBL l
  | [], _, _, _ => by simp only [lenBL]
  | x :: l, ε, vs, h => by
    simp only [SatA] at h
    obtain ⟨cs, t, h1, h2, h3⟩ := h
    simp only [lenBL]
    exact ⟨lenB_ok x h2, lenA_ok h3⟩

theorem fn_len {f : FuncId} {args : List SV} {m0 m1 : List Res} {res : SV} (h : lenBL args → FnOK P f args m0 res m1) : FnOK P f args m0 res m1 := fun ε w vs hg hs => h (lenA_ok hs) ε w vs hg hs

/-! ### A row is closed -/
open Go.RowKit Go.ChangeShapes

def ε0 (W : World) : Env := ⟨0, fun _ => 0, fun _ => .nilFunc, fun b => W.heap[b]?⟩

theorem good_nil (W : World) : Good (ε0 W) [] W :=
  ⟨rfl, fun i => by rw [memAt_ge (Nat.zero_le _)]; trivial, (fun i j b _ h => by rw [memAt_ge (Nat.zero_le _)] at h; cases h), (fun i b h => by rw [memAt_ge (Nat.zero_le _)] at h; cases h), fun _ _ h => h⟩

theorem law_run {f : FuncId} {args : List SV} (h : FnOK P f args [] (.bool true) []) (W : World) {vs : List Value} (hs : SatA args (ε0 W) vs) : Calls P f vs.toArray W fun e W' => e = .returned (.bool true) ∧ Below W.heap.size W W' := by
  refine (h (ε0 W) W vs (good_nil W) hs).mono fun e W' ⟨v, ε', he, hv, hi⟩ => ?_
  subst he
  rw [sat_bool hv]
  refine ⟨rfl, ⟨hi.kept.os, hi.kept.tape, hi.kept.output, hi.kept.size, fun k hk => hi.kept.heap k hk ?_⟩⟩
  rintro ⟨i, hb⟩
  rw [memAt_ge (Nat.zero_le _)] at hb; cases hb

def readB (P : Program) (ts : List TypeId) : Bool := ts.all fun t => P.readableRec t && decide (t < P.types.size)

theorem trodAll_stays {H : Type} {enc : TypeId × Value → H} (hl : laidOutB P = true) {W W' : World} {sp' : Nat → Bool} (hb : Below W.heap.size W W') : ∀ {ts : List TypeId} {vs : List Value} {ds : List (DataW H)} {ps : List MemPlace},
    readB P ts = true → DataW.TrodAll enc P W 0 (fun _ => true) true ts vs ds ps → (∀ p ∈ ps, p.block < W.heap.size) → (∀ p ∈ ps, sp' p.block = true) → DataW.TrodAll enc P W' 0 sp' true ts vs ds ps
  | [], [], [], _, _, h, _, _ => h
  | t :: ts, v :: vs, d :: ds, ps, hr, h, hlt, hsp => by
    simp only [readB, List.all_cons, Bool.and_eq_true, decide_eq_true_eq] at hr
    obtain ⟨p, q, h1, h2, rfl⟩ := h
    exact ⟨p, q, WideElems.Trod_stays hl hr.1.1 hr.1.2 h1 (fun x hx => hb.same (hlt x (by simp [hx]))) (fun x hx => hsp x (by simp [hx])),
      trodAll_stays hl hb hr.2 h2 (fun x hx => hlt x (by simp [hx])) (fun x hx => hsp x (by simp [hx])), rfl⟩
  | [], [], _ :: _, _, _, h, _, _ => h.elim
  | [], _ :: _, _, _, _, h, _, _ => h.elim
  | _ :: _, [], _, _, _, h, _, _ => h.elim
  | _ :: _, _ :: _, [], _, _, h, _, _ => h.elim

theorem row_close {H : Type} {enc : TypeId × Value → H} {f : Func} {s : ChangeSpec} {apart fresh handsOn again : Bool} {W W' : World} {args : Array Value} {ds gs : List (DataW H)} {before : List MemPlace} {tb : TypeId}
    (hl : laidOutB P = true) (hr : readB P f.params.toList = true) (hrt : f.resultTypes = #[tb]) (htb : P.underlying tb = some .bool) (hv : s.vars = [])
    (hW : DataW.Whole enc P f.params.toList s.vars apart W args.toList ds gs before) (hb : Below W.heap.size W W')
    (hfn : s.fn H (ds ++ gs) = { results := [.lit (.bool true)], args := ds }) : s.post enc P f apart fresh handsOn again W args (.bool true) W' := by
  have hlt := hW.lt
  obtain ⟨pa, pv, hA, hV, rfl, hz, hn⟩ := hW
  rw [hv] at hV
  have hpv : pv = [] ∧ gs = [] := by
    cases gs with
    | nil => exact ⟨hV, rfl⟩
    | cons => exact hV.elim
  obtain ⟨rfl, rfl⟩ := hpv
  have hres : ∀ (b : Nat) (sp : Nat → Bool) (hd : Bool), DataW.TrodAll enc P W' b sp hd f.resultTypes.toList ((Value.bool true).resultList f.resultTypes.size) (s.fn H (ds ++ [])).results [] := by
    intro b sp hd
    rw [hrt, hfn]
    exact ⟨[], [], shut_bool htb true, rfl, rfl⟩
  have hargs : ∀ sp : Nat → Bool, (∀ p ∈ pa ++ [], sp p.block = true) → DataW.TrodAll enc P W' 0 sp true f.params.toList args.toList (s.fn H (ds ++ [])).args pa := by
    intro sp hsp
    rw [hfn]
    exact trodAll_stays hl hb hr hA (fun p hp => hlt p (by simp [hp])) (fun p hp => hsp p (by simp [hp]))
  have hvars : ∀ sp : Nat → Bool, DataW.TrodVars enc P W' sp s.vars (s.fn H (ds ++ [])).vars [] := by
    intro sp
    rw [hv, hfn]; rfl
  have hold : ∀ p ∈ pa ++ [], (fun b => decide (b < W.heap.size)) p.block = true := fun p hp => by simpa using hlt p hp
  refine ⟨ds, [], pa ++ [], [], pa, [], ⟨pa, [], hA, by rw [hv]; exact hV, rfl, hz, hn⟩, hres _ _ _, hargs _ hold, hvars _, World.keptBut_mono (fun p hp => ⟨hp, by simpa using hp⟩) (hb.frame _), fun _ => ?_⟩
  refine ⟨ok_one hrt rfl (okWide_bool_mk htb true), _, _, ([] ++ pa) ++ [], ⟨[] ++ pa, [], trodAll_append (hargs _ (fun _ _ => rfl)) (hres _ _ _), hvars _, rfl, ?_, ?_⟩, ?_⟩
  · intro b off hp
    have hp' : MemPlace.cell b off ∈ pa ++ [] := by simpa using hp
    rw [hb.frozen (hlt _ hp')]
    exact hz b off hp'
  · intro ha
    simpa using hn ha
  · intro p hp _
    simpa using hp

end Go.Sx
/-! Sx, part 19: what is handed in, opened by its type. -/
set_option linter.unusedSimpArgs false
set_option linter.unusedVariables false
namespace Go.Sx
open Go Go.ChangeShapes

variable {P : Program}

inductive TT where
  | int (k : IntKind)
  | bool
  | str
  | st (l : List TT)
  | arr (n w : Nat) (T : TT)
  | sl (w : Nat) (T : TT)
  | ref (T : TT)

mutual
@[reducible] def Den : TT → Type
  | .int _ => Int
  | .bool => Bool
  | .str => List UInt8
  | .st l => DenL l
  | .arr _ _ T => Nat → Den T
  | .sl _ T => List (Den T)
  | .ref T => Den T
@[reducible] def DenL : List TT → Type
  | [] => Unit
  | T :: l => Den T × DenL l
end

mutual
def dft : (T : TT) → Den T
  | .int _ => (0 : Int)
  | .bool => false
  | .str => ([] : List UInt8)
  | .st l => dftL l
  | .arr _ _ T => fun _ : Nat => dft T
  | .sl _ T => ([] : List (Den T))
  | .ref T => dft T
def dftL : (l : List TT) → DenL l
  | [] => ()
  | T :: l => (dft T, dftL l)
end

mutual
def emb : (T : TT) → Den T → SV
  | .int k, n => .int k n
  | .bool, b => .bool b
  | .str, s => .str s
  | .st l, x => .agg (embL l x)
  | .arr n w T, f => .arr n w fun i => emb T (f i)
  | .sl w T, l => .lst w (dft T) (emb T) l
  | .ref T, y => .ref (emb T y) [] 0
def embL : (l : List TT) → DenL l → List SV
  | [], _ => []
  | T :: l, x => emb T x.1 :: embL l x.2
end

mutual
def okD : (T : TT) → Den T → Prop
  | .int k, n => (Lit.int k n).wf = true
  | .bool, _ => True
  | .str, s => s.length ≤ 9223372036854775807
  | .st l, x => okDL l x
  | .arr n _ T, f => ∀ i, i < n → okD T (f i)
  | .sl _ T, l => l.length ≤ 9223372036854775807 ∧ ∀ x ∈ l, okD T x
  | .ref T, y => okD T y
def okDL : (l : List TT) → DenL l → Prop
  | [], _ => True
  | T :: l, x => okD T x.1 ∧ okDL l x.2
end

mutual
def wT : TT → Nat
  | .st l => wTL l
  | .arr n w _ => n * w
  | _ => 1
def wTL : List TT → Nat
  | [] => 0
  | T :: l => wT T + wTL l
end

mutual
def ttB (P : Program) : TypeId → TT → Bool
  | t, .int k => match P.underlying t with
    | some (.int k') => decide (k' = k)
    | _ => false
  | t, .bool => match P.underlying t with
    | some .bool => true
    | _ => false
  | t, .str => match P.underlying t with
    | some .string => true
    | _ => false
  | t, .st l => match P.underlying t with
    | some (.struct fs) => ttBL P fs.toList 0 l && decide (P.cellsOf t = wTL l)
    | _ => false
  | t, .arr n w T => match P.underlying t with
    | some (.array n' e) => decide (n' = n) && decide (P.cellsOf e = w) && decide (P.cellsOf t = n * w) && ttB P e T
    | _ => false
  | t, .sl w T => match P.underlying t with
    | some (.slice e) => decide (P.cellsOf e = w) && decide (1 ≤ w) && ttB P e T
    | _ => false
  | _, .ref _ => false
def ttBL (P : Program) : List Field → Nat → List TT → Bool
  | [], _, [] => true
  | f :: fs, off, T :: l => decide (f.offset = off) && decide (P.cellsOf f.type = wT T) && ttB P f.type T && ttBL P fs (off + wT T) l
  | _, _, _ => false
end

theorem mapM_range {α : Type} {f : Nat → Option α} : ∀ (n : Nat) (l : List α), (List.range n).mapM f = some l → l.length = n ∧ ∀ i, i < n → f i = l[i]? := by
  intro n l h
  have h1 := mapM_len h
  refine ⟨by simpa using h1, fun i hi => ?_⟩
  have := (mapM_at h i).1
  rw [List.getElem?_range hi] at this
  simpa using this

theorem cells_sub {W : World} {b off n : Nat} {sp : Option Nat} {cs : List Value} (hn : 1 ≤ n) (h : W.cells? 0 ⟨b, off, sp⟩ n = some cs) :
    sp = none ∧ ∃ cur T fz, W.heap[b]? = some (.cells cur T fz) ∧ off + n ≤ cur.size ∧ sub cur.toList off n = cs := by
  unfold World.cells? at h
  rw [if_pos (Nat.zero_le _)] at h
  obtain ⟨h1, h2⟩ := mapM_range n cs h
  have h0 := h2 0 (by omega)
  have hlt : 0 < cs.length := by omega
  rw [List.getElem?_eq_getElem hlt] at h0
  unfold World.cell? at h0
  simp only [Addr.add, if_true] at h0
  split at h0 <;> try (cases h0; done)
  rename_i cur T fz hb
  split at h0 <;> try (cases h0; done)
  rename_i hsp
  have hsp' : sp = none := by cases sp <;> simp_all
  subst hsp'
  have hcell : ∀ i, i < n → cur[off + i]? = cs[i]? := by
    intro i hi
    rw [← h2 i hi]
    unfold World.cell? Addr.add
    by_cases hi0 : i = 0
    · subst hi0; simp [hb]
    · simp [hi0, hb]
  refine ⟨rfl, cur, T, fz, hb, ?_, ?_⟩
  · have := hcell (n - 1) (by omega)
    have hl : n - 1 < cs.length := by omega
    rw [List.getElem?_eq_getElem hl] at this
    have := (Array.getElem?_eq_some_iff.1 this).1
    omega
  · apply List.ext_getElem?
    intro i
    unfold sub
    rw [List.getElem?_take]
    by_cases hi : i < n
    · rw [if_pos hi, List.getElem?_drop, ← hcell i hi]; simp
    · rw [if_neg hi, List.getElem?_eq_none (by omega)]

section
variable {H : Type} {enc : TypeId × Value → H} {W : World} {spare : Nat → Bool}

mutual
theorem open_T : ∀ (T : TT) {t : TypeId} {fuel : Nat} {cs : List Value} {x : DataW H × List MemPlace}, ttB P t T = true → DataW.trod enc P W 0 spare true fuel t cs = some x → ∃ y : Den T, SatC (emb T y) (ε0 W) cs ∧ okD T y
  | .int k, t, fuel, cs, x, ht, h => by
    simp only [ttB] at ht
    split at ht <;> try (cases ht; done)
    rename_i k' hu
    have : k' = k := by simpa using ht
    subst this
    cases fuel with
    | zero => simp [DataW.trod] at h
    | succ m =>
      unfold DataW.trod at h
      rw [hu] at h
      split at h <;> simp_all [emb, SatC, okD]
  | .bool, t, fuel, cs, x, ht, h => by
    simp only [ttB] at ht
    split at ht <;> try (cases ht; done)
    rename_i hu
    obtain ⟨b, hc, _⟩ := DataW.trod_bool hu h
    exact ⟨b, by simp only [emb, SatC]; exact hc, trivial⟩
  | .str, t, fuel, cs, x, ht, h => by
    simp only [ttB] at ht
    split at ht <;> try (cases ht; done)
    rename_i hu
    cases fuel with
    | zero => simp [DataW.trod] at h
    | succ m =>
      unfold DataW.trod at h
      rw [hu] at h
      split at h <;> try (simp_all; done)
      split at h <;> try (cases h; done)
      rename_i s _ hs
      refine ⟨s.data.toList, ?_, ?_⟩
      · simp only [emb, SatC]
      · simp only [okD]
        unfold maxLen at hs
        have e : s.data.toList.length = s.size := Array.length_toList
        rw [e]; omega
  | .st l, t, fuel, cs, x, ht, h => by
    simp only [ttB] at ht
    split at ht <;> try (cases ht; done)
    rename_i fs hu
    simp only [Bool.and_eq_true, decide_eq_true_eq] at ht
    obtain ⟨xs, n, _, _, hlen, hxl, hf⟩ := DataW.trod_struct hu h
    obtain ⟨y, h1, h2⟩ := open_L l (fs := fs.toList) (off := 0) (cs := cs) (fuel := n) ht.1 (by rw [hlen, ht.2]; omega) (fun i f hi => by
      have hi' : fs[i]? = some f := by simpa using hi
      have := hf i f hi'
      have hlt : i < xs.length := by rw [hxl]; exact (Array.getElem?_eq_some_iff.1 hi').1
      rw [List.getElem?_eq_getElem hlt] at this
      exact ⟨_, this⟩)
    exact ⟨y, by simp only [emb, SatC]; simpa using h1, by simp only [okD]; exact h2⟩
  | .arr n w T, t, fuel, cs, x, ht, h => by
    simp only [ttB] at ht
    split at ht <;> try (cases ht; done)
    rename_i n' e hu
    simp only [Bool.and_eq_true, decide_eq_true_eq] at ht
    obtain ⟨⟨⟨rfl, rfl⟩, h3⟩, h4⟩ := ht
    obtain ⟨xs, m, _, _, hlen, hxl, hf⟩ := DataW.trod_array hu h
    have key : ∀ i, i < n' → ∃ y : Den T, SatC (emb T y) (ε0 W) (sub cs (i * P.cellsOf e) (P.cellsOf e)) ∧ okD T y := by
      intro i hi
      have := hf i hi
      rw [List.getElem?_eq_getElem (by omega)] at this
      exact open_T T h4 this
    classical
    refine ⟨fun i => if hi : i < n' then Classical.choose (key i hi) else dft T, ?_, ?_⟩
    · simp only [emb, SatC]
      refine ⟨by rw [hlen, h3], fun i hi => ?_⟩
      simp only [hi, dite_true]
      exact (Classical.choose_spec (key i hi)).1
    · simp only [okD]
      intro i hi
      simp only [hi, dite_true]
      exact (Classical.choose_spec (key i hi)).2
  | .sl w T, t, fuel, cs, x, ht, h => by
    simp only [ttB] at ht
    split at ht <;> try (cases ht; done)
    rename_i e hu
    simp only [Bool.and_eq_true, decide_eq_true_eq] at ht
    obtain ⟨⟨rfl, hw⟩, h4⟩ := ht
    rcases DataW.trod_slice hu h with ⟨hc, _⟩ | ⟨a, len, cap, elems, rest, m, _, hc, _, _, hle, hcap, hel, hf, _, _⟩
    · refine ⟨[], ?_, ?_⟩
      · simp only [emb, SatC]
        exact ⟨none, 0, by simpa using hc, Nat.le_refl _, Nat.zero_le _, fun _ => rfl, fun i hi => absurd hi (Nat.not_lt_zero _)⟩
      · simp only [okD]; exact ⟨Nat.zero_le _, fun x hx => by cases hx⟩
    · obtain ⟨b, off, sp⟩ := a
      have key : ∀ i, i < len → ∃ (y : Den T) (cur : Array Value) (T' : TypeId) (fz : Nat × Nat), (i = 0 → sp = none) ∧ W.heap[b]? = some (.cells cur T' fz) ∧ off + i * P.cellsOf e + P.cellsOf e ≤ cur.size ∧ SatC (emb T y) (ε0 W) (sub cur.toList (off + i * P.cellsOf e) (P.cellsOf e)) ∧ okD T y := by
        intro i hi
        have hfi := hf i hi
        rw [List.getElem?_eq_getElem (by omega)] at hfi
        obtain ⟨cs', hcs, htr⟩ := Option.bind_eq_some_iff.1 hfi
        obtain ⟨y, k1, k2⟩ := open_T T h4 htr
        by_cases hi0 : i = 0
        · subst hi0
          rw [Nat.zero_mul] at hcs ⊢
          simp only [Addr.add, if_true] at hcs
          obtain ⟨hsp, cur, T', fz, q1, q2, q3⟩ := cells_sub hw hcs
          exact ⟨y, cur, T', fz, fun _ => hsp, q1, q2, by rw [Nat.add_zero, q3]; exact k1, k2⟩
        · have hne : i * P.cellsOf e ≠ 0 := Nat.mul_ne_zero hi0 (by omega)
          simp only [Addr.add, if_neg hne] at hcs
          obtain ⟨_, cur, T', fz, q1, q2, q3⟩ := cells_sub hw hcs
          exact ⟨y, cur, T', fz, fun h => absurd h hi0, q1, q2, by rw [q3]; exact k1, k2⟩
      classical
      let g : Nat → Den T := fun i => if hi : i < len then Classical.choose (key i hi) else dft T
      have hg : ∀ i (hi : i < len), ∃ (cur : Array Value) (T' : TypeId) (fz : Nat × Nat), (i = 0 → sp = none) ∧ W.heap[b]? = some (.cells cur T' fz) ∧ off + i * P.cellsOf e + P.cellsOf e ≤ cur.size ∧ SatC (emb T (g i)) (ε0 W) (sub cur.toList (off + i * P.cellsOf e) (P.cellsOf e)) ∧ okD T (g i) := by
        intro i hi
        have e : g i = Classical.choose (key i hi) := by simp [g, hi]
        rw [e]
        exact Classical.choose_spec (key i hi)
      refine ⟨(List.range len).map g, ?_, ?_⟩
      · simp only [emb, SatC]
        refine ⟨some ⟨b, off, sp⟩, cap, by simpa using hc, by simpa using hle, hcap, (fun h => by cases h), fun i hi => ?_⟩
        have hi' : i < len := by simpa using hi
        obtain ⟨cur, T', fz, q0, q1, q2, q3, _⟩ := hg i hi'
        obtain ⟨_, _, _, p0, _⟩ := hg 0 (by omega)
        refine ⟨b, off, T', fz, cur, by rw [p0 rfl], q1, q2, ?_⟩
        have e : ((List.range len).map g).getD i (dft T) = g i := by simp [List.getD, hi']
        rw [e]; exact q3
      · simp only [okD]
        refine ⟨by simp; unfold maxLen at hcap; omega, fun x hx => ?_⟩
        obtain ⟨i, hi, rfl⟩ := List.mem_map.1 hx
        have hi' : i < len := by simpa using hi
        obtain ⟨_, _, _, _, _, _, _, q⟩ := hg i hi'
        exact q
  | .ref T, t, fuel, cs, x, ht, h => by simp [ttB] at ht
theorem open_L : ∀ (l : List TT) {fs : List Field} {off : Nat} {cs : List Value} {fuel : Nat}, ttBL P fs off l = true → cs.length = off + wTL l →
    (∀ (i : Nat) (f : Field), fs[i]? = some f → ∃ x, DataW.trod enc P W 0 spare true fuel f.type ((cs.drop f.offset).take (P.cellsOf f.type)) = some x) → ∃ y : DenL l, SatL (embL l y) (ε0 W) (cs.drop off) ∧ okDL l y
  | [], fs, off, cs, fuel, ht, hl, hf => by
    refine ⟨(), ?_, by simp only [okDL]⟩
    simp only [embL, SatL]
    simp only [wTL] at hl
    exact List.drop_eq_nil_of_le (by omega)
  | T :: l, fs, off, cs, fuel, ht, hl, hf => by
    cases fs with
    | nil => simp [ttBL] at ht
    | cons f fs =>
      simp only [ttBL, Bool.and_eq_true, decide_eq_true_eq] at ht
      obtain ⟨⟨⟨h1, h2⟩, h3⟩, h4⟩ := ht
      simp only [wTL] at hl
      obtain ⟨x, hx⟩ := hf 0 f rfl
      obtain ⟨y, k1, k2⟩ := open_T T h3 hx
      obtain ⟨z, k3, k4⟩ := open_L l (fuel := fuel) (cs := cs) h4 (by omega) (fun i f' hi => hf (i + 1) f' (by simpa using hi))
      refine ⟨(y, z), ?_, by simp only [okDL]; exact ⟨k2, k4⟩⟩
      simp only [embL, SatL]
      rw [h1, h2] at k1
      refine ⟨_, _, ?_, k1, k3⟩
      rw [← List.drop_drop, List.take_append_drop]
end

def ttA (P : Program) : List TypeId → List TT → Bool
  | [], [] => true
  | t :: ts, T :: l => ttB P t T && ttA P ts l
  | _, _ => false

theorem boxed_of {T : TT} {t : TypeId} {v : Value} {w : World} {base : Nat} (ht : ttB P t T = true) (h : Value.okWide P w .any base t v) {y : Den T} : v = boxed (emb T y).isAgg v.cells.toList := by
  cases T with
  | st l =>
    simp only [ttB] at ht
    split at ht <;> try (cases ht; done)
    rename_i hu
    unfold Value.okWide at h
    rw [hu] at h
    obtain ⟨cs, rfl, _⟩ := h
    simp [emb, SV.isAgg, boxed, Value.cells]
  | arr n w' T =>
    simp only [ttB] at ht
    split at ht <;> try (cases ht; done)
    rename_i hu
    unfold Value.okWide at h
    rw [hu] at h
    obtain ⟨cs, rfl, _⟩ := h
    simp [emb, SV.isAgg, boxed, Value.cells]
  | ref T => simp [ttB] at ht
  | int k =>
    simp only [ttB] at ht
    split at ht <;> try (cases ht; done)
    rename_i hu
    unfold Value.okWide Cell.okWide Cell.ok at h
    rw [hu] at h
    cases v <;> simp_all [emb, SV.isAgg, boxed, Value.cells]
  | bool =>
    simp only [ttB] at ht
    split at ht <;> try (cases ht; done)
    rename_i hu
    unfold Value.okWide Cell.okWide Cell.ok at h
    rw [hu] at h
    cases v <;> simp_all [emb, SV.isAgg, boxed, Value.cells]
  | str =>
    simp only [ttB] at ht
    split at ht <;> try (cases ht; done)
    rename_i hu
    unfold Value.okWide Cell.okWide Cell.ok at h
    rw [hu] at h
    cases v <;> simp_all [emb, SV.isAgg, boxed, Value.cells]
  | sl w' T =>
    simp only [ttB] at ht
    split at ht <;> try (cases ht; done)
    rename_i hu
    unfold Value.okWide Cell.okWide Cell.ok at h
    rw [hu] at h
    cases v <;> simp_all [emb, SV.isAgg, boxed, Value.cells]

theorem trod_len {base : Nat} {held : Bool} : ∀ {ts : List TypeId} {vs : List Value} {ds : List (DataW H)} {ps : List MemPlace}, DataW.TrodAll enc P W base spare held ts vs ds ps → ds.length = ts.length
  | [], [], [], _, _ => rfl
  | _ :: ts, _ :: vs, _ :: ds, _, ⟨_, _, _, h, _⟩ => by simp [trod_len h]
  | [], [], _ :: _, _, h => by cases h
  | [], _ :: _, _, _, h => by cases h
  | _ :: _, [], _, _, h => by cases h
  | _ :: _, _ :: _, [], _, h => by cases h

theorem len_one {α : Type _} {l : List α} (h : l.length = 1) : ∃ a, l = [a] := by
  match l, h with
  | [a], _ => exact ⟨a, rfl⟩
theorem open_args {base : Nat} {w' : World} : ∀ (l : List TT) {ts : List TypeId} {vs : List Value} {ds : List (DataW H)} {ps : List MemPlace}, ttA P ts l = true → DataW.TrodAll enc P W 0 spare true ts vs ds ps →
    (∀ (j : Nat) t v, ts[j]? = some t → vs[j]? = some v → Value.okWide P w' .any base t v) → ∃ y : DenL l, SatA (embL l y) (ε0 W) vs ∧ okDL l y
  | [], [], [], [], _, _, _, _ => ⟨(), by simp only [embL, SatA], by simp only [okDL]⟩
  | T :: l, t :: ts, v :: vs, d :: ds, ps, ht, h, hv => by
    simp only [ttA, Bool.and_eq_true] at ht
    obtain ⟨p, q, ⟨fuel, h1⟩, h2, _⟩ := h
    obtain ⟨y, k1, k2⟩ := open_T T ht.1 h1
    obtain ⟨z, k3, k4⟩ := open_args l ht.2 h2 (fun j t v a b => hv (j + 1) t v (by simpa using a) (by simpa using b))
    refine ⟨(y, z), ?_, by simp only [okDL]; exact ⟨k2, k4⟩⟩
    simp only [embL, SatA]
    exact ⟨_, _, by rw [← boxed_of ht.1 (hv 0 t v rfl rfl)], k1, k3⟩
  | [], _ :: _, _, _, _, ht, _, _ => by simp [ttA] at ht
  | _ :: _, [], _, _, _, ht, _, _ => by simp [ttA] at ht
  | [], [], _ :: _, _, _, _, h, _ => by cases h
  | [], [], [], _ :: _, _, _, h, _ => by cases h
  | _ :: _, _ :: _, [], _, _, _, h, _ => by cases h
  | _ :: _, _ :: _, _ :: _, [], _, _, h, _ => by cases h
end

end Go.Sx
