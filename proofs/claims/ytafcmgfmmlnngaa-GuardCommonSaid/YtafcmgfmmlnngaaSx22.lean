import Derived.Test.YtafcmgfmmlnngaaSx21
import Derived.OwnWalk
/-! Sx, part 22: code over frames. -/
set_option linter.unusedVariables false
set_option linter.unusedSimpArgs false
namespace Go.Sx
open Go
variable {P : Program}
def renF (r : Nat → Option Nat) : Fr → Fr
  | .nil => .nil
  | .put k x t => .put k (ren r x) (renF r t)
  | .pick s d x t => .pick s d (ren r x) (renF r t)
theorem look_renF {r : Nat → Option Nat} {k : Nat} : ∀ τ : Fr, look k (renF r τ) = ren r (look k τ)
  | .nil => rfl
  | .put j x t => by
    simp only [renF, look]
    split
    · rfl
    · exact look_renF t
  | .pick s d x t => by
    simp only [renF, look]
    split
    · rfl
    · split
      · rfl
      · exact look_renF t
/-- How what is owned is held fast, for good. -/
structure Frz where
  dec : List Res → SV → SV
  P : List Res → SV → Prop
  ok : ∀ {ε : Env} {m : List Res} {w : World}, Good ε m w → ∀ {x : SV}, P m x → ∀ {cs : List Value}, SatC x ε cs → SatC (dec m x) (Sx.frz ε m w).cl cs
  agg : ∀ {m : List Res} {x : SV}, P m x → (dec m x).isAgg = x.isAgg
  val : ∀ {m : List Res} {x : SV}, P m x → x.isVal = true
inductive JC : Type 1 where
  | skip
  | ops (l : SL)
  | dops (l : SL)
  | seq (a b : JC)
  | cond (x : Opd) (a b : JC)
  | block (id : Nat) (c : JC)
  | loop (keep mod : List Nat) (c : JC)
  | exit (id : Nat)
  | ret
  | prune (ks : List Nat) (c : JC)
  | vecs (k : Nat) (T : TypeId) (w : Nat) (c : JC)
  | orc (s : Nat) (l : SL)
  | frz (k : Nat) (F : Frz) (c : JC)
def JC.flat : JC → IC
  | .skip => .skip
  | .ops l => .ops (l.flat none)
  | .dops l => .dops (l.flat none)
  | .seq a b => .seq a.flat b.flat
  | .cond x a b => .cond x a.flat b.flat
  | .block id c => .block id c.flat
  | .loop _ _ c => .loop c.flat
  | .exit id => .exit id
  | .ret => .ret
  | .prune _ c => c.flat
  | .vecs _ _ _ c => c.flat
  | .orc s l => .cond (.t s) .skip (.ops (l.flat none))
  | .frz _ _ c => c.flat
def JC.wf (n : Nat) : JC → Bool
  | .ops l | .dops l => l.wf n
  | .seq a b | .cond _ a b => a.wf n && b.wf n
  | .block _ c => c.wf n
  | .loop keep mod c => mod.all (fun k => decide (k < n)) && keep.all (fun k => decide (k < n)) && c.wf n
  | .prune _ c => c.wf n
  | .vecs k _ _ c => decide (k < n) && c.wf n
  | .orc s l => decide (s < n) && l.plain && l.wf n
  | .frz k _ c => decide (k < n) && c.wf n
  | _ => true
def tidyF (n0 : Nat) (m0 : List Res) (K : Fr → List Res → Prop) (τ : Fr) (m : List Res) : Prop :=
  if m.length = m0.length + 1 then match goneAt m0 m 0 with
    | some i => if n0 ≤ i then K (renF (selI ((List.range m0.length).set i m0.length)) τ) (selM ((List.range m0.length).set i m0.length) m) else K τ m
    | none => K τ m
  else K τ m
def vecsF (k : Nat) (T : TypeId) (w : Nat) (K : Fr → List Res → Prop) (τ : Fr) (m : List Res) : SV → Prop
  | .nils => K (.put k (.vec m.length 0) τ) (m ++ [.vec T w []])
  | _ => K τ m
def ltI (n : Nat) : Nat → Option Nat := fun i => if i < n then some i else none
def atR (r : Nat → Option Nat) : List Nat → List SV → Fr → Prop
  | k :: ks, x :: xs, τ => ren r (look k τ) = x ∧ atR r ks xs τ
  | [], [], _ => True
  | _, _, _ => False
def sameR (r : Nat → Option Nat) (τ τ' : Fr) : List Nat → Prop
  | [] => True
  | k :: ks => ren r (look k τ') = look k τ ∧ sameR r τ τ' ks
def JC.wp (Γ : FH) (n0 : Nat) : JC → (Ex → Fr → List Res → Prop) → Fr → List Res → Prop
  | .skip, Q, τ, m => Q .norm τ m
  | .ops l, Q, τ, m => l.wp Γ false (Q .norm) τ m
  | .dops l, Q, τ, m => l.wp Γ true (fun τ' m' => tidyF n0 m (Q .norm) τ' m') τ m
  | .seq a b, Q, τ, m => a.wp Γ n0 (fun e τ' m' => match e with
    | .norm => b.wp Γ n0 Q τ' m'
    | e => Q e τ' m') τ m
  | .cond x a b, Q, τ, m => match x.fv τ with
    | .bool t => (t = true → a.wp Γ n0 Q τ m) ∧ (t = false → b.wp Γ n0 Q τ m)
    | .anyb => a.wp Γ n0 Q τ m ∧ b.wp Γ n0 Q τ m
    | _ => False
  | .block id c, Q, τ, m => c.wp Γ n0 (fun e τ' m' => match e with
    | .exit i => if i = id then Q .norm τ' m' else Q (.exit i) τ' m'
    | e => Q e τ' m') τ m
  | .loop keep mod c, Q, τ, m => ∃ (ι : Type) (U : ι → List SV) (M : ι → List Res) (ok : ι → Prop) (μ : ι → Nat) (i : ι), ok i ∧ atF mod (U i) τ ∧ M i = m ∧
      ∀ i, ok i → c.wp Γ n0 (fun e τ' m' => match e with
        | .norm => ∃ j, ok j ∧ μ j < μ i ∧ n0 ≤ (M j).length ∧ atR (ltI (M j).length) mod (U j) τ' ∧ sameR (ltI (M j).length) τ τ' keep ∧ (m'.take (M j).length).map (renR (ltI (M j).length)) = M j
        | e => Q e τ' m') (ofF mod (U i) (keepF keep τ)) (M i)
  | .exit id, Q, τ, m => Q (.exit id) τ m
  | .ret, Q, τ, m => Q .ret τ m
  | .prune ks c, Q, τ, m => c.wp Γ n0 Q (keepF ks τ) m
  | .vecs k T w c, Q, τ, m => vecsF k T w (fun τ' m' => c.wp Γ n0 Q τ' m') τ m (look k τ)
  | .orc s l, Q, τ, m => match look s τ with
    | .bool b => l.vc Γ m (.t s) τ (fun q g => (b = false → g) ∧ Q .norm (.put s (.bool (b || q)) (junkF l.dsts τ)) m) True
    | _ => False
  | .frz k F c, Q, τ, m => F.P m (look k τ) ∧ c.wp Γ n0 Q (.put k (F.dec m (look k τ)) τ) (deads m)

def SlotsF (n : Nat) (ε : Env) (τ : Fr) (a : Act) : Prop := ∃ σ, Rep n σ τ ∧ SlotsOK ε σ a
theorem SlotsF.size {n : Nat} {ε : Env} {τ : Fr} {a : Act} (h : SlotsF n ε τ a) : a.tmps.size = n := by
  obtain ⟨σ, h1, h2⟩ := h
  rw [← h2.1, h1.1]
theorem SlotsF.sat {n : Nat} {ε : Env} {τ : Fr} {a : Act} (h : SlotsF n ε τ a) (k : Nat) : SatV ε (look k τ) (a.tmps.getD k undef) := by
  obtain ⟨σ, h1, h2⟩ := h
  rcases h1.2 k with h | ⟨_, h⟩
  · rw [h]; trivial
  · rw [h]; exact h2.2 k
theorem SlotsF.weak {n : Nat} {ε : Env} {τ τ' : Fr} {a : Act} (h : SlotsF n ε τ a) (hl : ∀ k, Le (look k τ') (look k τ)) : SlotsF n ε τ' a := by
  obtain ⟨σ, h1, h2⟩ := h
  refine ⟨σ, ⟨h1.1, fun k => ?_⟩, h2⟩
  rcases hl k with e | e
  · exact .inl e
  · rw [e]; exact h1.2 k
theorem look_of : ∀ {ks : List Nat} {xs : List SV} {τ τ' : Fr} (k : Nat), atF ks xs τ' → Le (look k τ) (look k τ') → Le (look k (ofF ks xs τ)) (look k τ')
  | [], [], _, _, _, _, h => h
  | j :: ks, x :: xs, τ, τ', k, ha, h => by
    simp only [ofF, look]
    by_cases e : k = j
    · subst e; rw [if_pos rfl]; exact .inr ha.1.symm
    · rw [if_neg e]; exact look_of k ha.2 h
  | [], _ :: _, _, _, _, ha, _ => ha.elim
  | _ :: _, [], _, _, _, ha, _ => ha.elim
theorem same_keep : ∀ {ks : List Nat} {τ τ' : Fr} (k : Nat), sameF τ τ' ks → Le (look k (keepF ks τ)) (look k τ')
  | [], _, _, _, _ => .inl rfl
  | j :: ks, τ, τ', k, h => by
    simp only [keepF, look]
    by_cases e : k = j
    · subst e; rw [if_pos rfl]; exact .inr h.1.symm
    · rw [if_neg e]; exact same_keep k h.2
theorem SlotsF.env {n : Nat} {ε ε' : Env} {τ : Fr} {a : Act} (h : SlotsF n ε τ a) (hl : ε.Le ε') : SlotsF n ε' τ a := by
  obtain ⟨σ, h1, h2⟩ := h
  exact ⟨σ, h1, h2.mono hl⟩
theorem vecs_ok {β : Base} {ε : Env} {m : List Res} {w : World} (h : Inv β ε m w) {n : Nat} {τ : Fr} {a : Act} (hs : SlotsF n ε τ a) {k : Nat} (hk : k < n) {T : TypeId} {wd' : Nat} {K : Fr → List Res → Prop} (hh : vecsF k T wd' K τ m (look k τ)) :
    ∃ ε' τ' m', K τ' m' ∧ Inv β ε' m' w ∧ SlotsF n ε' τ' a := by
  unfold vecsF at hh
  split at hh
  · rename_i e
    have hg : w.grownBy w none := World.grownBy.refl w none
    have hi := h.more (b := 0) (v := .slice none 0 0) (r := .vec T wd' []) hg ⟨[], ⟨by simp, .inl ⟨by simp [Env.more, h.good.n], rfl⟩⟩, fun j hj => absurd hj (Nat.not_lt_zero _)⟩ (by
      intro x hx
      simp [ownR, Env.more, h.good.n, Value.ownBlock] at hx)
    have hle := ε.le_more 0 (.slice none 0 0)
    refine ⟨_, _, _, hh, hi, ?_⟩
    obtain ⟨σ, h1, h2⟩ := hs
    have hv := h2.2 k
    have ek : σ.getD k .junk = .nils := le_eq (h1.le k) e (by intro h; cases h)
    rw [ek] at hv
    have hv' := sat_nils hv
    refine ⟨σ.set k (.vec m.length 0), h1.put hk (Le.refl _), ⟨by simp [h2.1], fun j => ?_⟩⟩
    by_cases ej : j = k
    · subst ej
      rw [getD_set_eq (by rw [h1.1]; exact hk), hv']
      refine ⟨[.slice none 0 0], ?_, rfl⟩
      simp only [SatC]
      refine ⟨by simp [Env.more, h.good.n], .inl ⟨by simp [Env.more, h.good.n], trivial⟩, by simp [Env.more, h.good.n]⟩
    · rw [getD_set_ne ej]
      exact (h2.2 j).mono hle
  · exact ⟨ε, τ, m, hh, h, hs⟩
theorem frz_ok {β : Base} {ε : Env} {m : List Res} {w : World} (h : Inv β ε m w) {n : Nat} {τ : Fr} {a : Act} (hs : SlotsF n ε τ a) {k : Nat} (hk : k < n) {F : Frz} (hP : F.P m (look k τ)) :
    ∃ ε', Inv β ε' (deads m) w ∧ SlotsF n ε' (.put k (F.dec m (look k τ)) τ) a := by
  refine ⟨_, h.freeze, ?_⟩
  have hle : ε.Le (Sx.frz ε m w) := ⟨Nat.le_refl _, fun _ _ => rfl, fun _ _ => rfl, frz_H h.good⟩
  obtain ⟨σ, h1, h2⟩ := hs
  have e := le_val (h1.le k) (F.val hP)
  obtain ⟨cs, k1, k2⟩ := sat_val (h2.2 k) (by rw [e]; exact F.val hP)
  rw [e] at k1 k2
  have k3 := F.ok h.good hP k1
  refine ⟨σ.set k (F.dec m (look k τ)), h1.put hk (Le.refl _), by simp [h2.1], fun j => ?_⟩
  by_cases ej : j = k
  · subst ej
    rw [getD_set_eq (by rw [h1.1]; exact hk), k2, ← F.agg hP]
    exact satC_sat (SatC.mono _ (Env.cl_le _) k3)
  · rw [getD_set_ne ej]
    exact (h2.2 j).mono hle
def EndsF (n : Nat) (β : Base) (d : List Deferred) (Q : Ex → Fr → List Res → Prop) (e : Exit) (a : Act) (w : World) : Prop :=
  ∃ ex τ m ε, ExRel e ex ∧ Q ex τ m ∧ Inv β ε m w ∧ SlotsF n ε τ a ∧ a.defers = d
theorem tidyF_ok {n0 n : Nat} {m0 m : List Res} {K : Fr → List Res → Prop} {τ : Fr} (h : tidyF n0 m0 K τ m) {β : Base} {ε : Env} {a : Act} {w : World} (hI : Inv β ε m w) (hs : SlotsF n ε τ a) (hb : β.ε.n ≤ n0) :
    ∃ τ' m' ε', K τ' m' ∧ Inv β ε' m' w ∧ SlotsF n ε' τ' a := by
  obtain ⟨σ, h1, h2⟩ := hs
  unfold tidyF at h
  split at h
  · rename_i hl
    split at h
    · rename_i i hg
      have hi := (goneAt_ge _ _ _ _ hg).2
      rw [Nat.zero_add] at hi
      split at h
      · rename_i hni
        refine ⟨_, _, _, h, hI.sel _ (range_set_nodup hi) (fun k hk => ?_), renL (selI ((List.range m0.length).set i m0.length)) σ, ?_, h2.ren (sel_ren _ ε)⟩
        · rw [List.getElem?_set, if_neg (by omega), List.getElem?_range]
          omega
        · refine ⟨by rw [renL_length]; exact h1.1, fun k => ?_⟩
          rw [look_renF, renL_getD]
          rcases h1.2 k with e | ⟨e1, e2⟩
          · left; rw [e]; rfl
          · exact .inr ⟨e1, by rw [e2]⟩
      · exact ⟨_, _, _, h, hI, σ, h1, h2⟩
    · exact ⟨_, _, _, h, hI, σ, h1, h2⟩
  · exact ⟨_, _, _, h, hI, σ, h1, h2⟩

section inv
variable {quiet : FuncId → Bool} {c : Code}
theorem comp_skip (h : comp P quiet c = some .skip) : c = .skip := by
  cases c <;> simp only [comp] at h <;> first
    | rfl
    | (cases h; done)
    | (split at h <;> first | (cases h; done) | (split at h <;> first | (cases h; done) | (split at h <;> first | (cases h; done) | (obtain ⟨_, h⟩ := compR_dops h; cases h; done))) | (simp only [Option.map_eq_some_iff] at h; obtain ⟨_, _, h⟩ := h; cases h))
    | (simp only [Option.map_eq_some_iff] at h; obtain ⟨_, _, h⟩ := h; cases h)
theorem comp_exit {i : Nat} (h : comp P quiet c = some (.exit i)) : c = .exit i := by
  cases c <;> simp only [comp] at h <;> first
    | (cases h; rfl; done)
    | (cases h; done)
    | (split at h <;> first | (cases h; done) | (split at h <;> first | (cases h; done) | (split at h <;> first | (cases h; done) | (obtain ⟨_, h⟩ := compR_dops h; cases h; done))) | (simp only [Option.map_eq_some_iff] at h; obtain ⟨_, _, h⟩ := h; cases h))
    | (simp only [Option.map_eq_some_iff] at h; obtain ⟨_, _, h⟩ := h; cases h)
theorem comp_ret (h : comp P quiet c = some .ret) : c = .ret := by
  cases c <;> simp only [comp] at h <;> first
    | rfl
    | (cases h; done)
    | (split at h <;> first | (cases h; done) | (split at h <;> first | (cases h; done) | (split at h <;> first | (cases h; done) | (obtain ⟨_, h⟩ := compR_dops h; cases h; done))) | (simp only [Option.map_eq_some_iff] at h; obtain ⟨_, _, h⟩ := h; cases h))
    | (simp only [Option.map_eq_some_iff] at h; obtain ⟨_, _, h⟩ := h; cases h)
theorem comp_seq {a b : IC} (h : comp P quiet c = some (.seq a b)) : ∃ x y, c = .seq x y ∧ comp P quiet x = some a ∧ comp P quiet y = some b := by
  cases c <;> simp only [comp] at h <;> first
    | (split at h <;> first
        | (cases h; exact ⟨_, _, rfl, by assumption, by assumption⟩)
        | (cases h; done)
        | (split at h <;> first | (cases h; done) | (split at h <;> first | (cases h; done) | (obtain ⟨_, h⟩ := compR_dops h; cases h; done)))
        | (simp only [Option.map_eq_some_iff] at h; obtain ⟨_, _, h⟩ := h; cases h))
    | (cases h; done)
    | (simp only [Option.map_eq_some_iff] at h; obtain ⟨_, _, h⟩ := h; cases h)
theorem comp_cond {x' : Opd} {a b : IC} (h : comp P quiet c = some (.cond x' a b)) : ∃ x y z, c = .cond x y z ∧ compO x = some x' ∧ comp P quiet y = some a ∧ comp P quiet z = some b := by
  cases c <;> simp only [comp] at h <;> first
    | (split at h <;> first
        | (cases h; exact ⟨_, _, _, rfl, by assumption, by assumption, by assumption⟩)
        | (cases h; done)
        | (split at h <;> first | (cases h; done) | (split at h <;> first | (cases h; done) | (obtain ⟨_, h⟩ := compR_dops h; cases h; done)))
        | (simp only [Option.map_eq_some_iff] at h; obtain ⟨_, _, h⟩ := h; cases h))
    | (cases h; done)
    | (simp only [Option.map_eq_some_iff] at h; obtain ⟨_, _, h⟩ := h; cases h)
theorem comp_block {id : Nat} {a : IC} (h : comp P quiet c = some (.block id a)) : ∃ x, c = .block id x ∧ comp P quiet x = some a := by
  cases c <;> simp only [comp] at h <;> first
    | (simp only [Option.map_eq_some_iff] at h; obtain ⟨_, h1, h⟩ := h; cases h; exact ⟨_, rfl, h1⟩)
    | (split at h <;> first
        | (cases h; done)
        | (split at h <;> first | (cases h; done) | (split at h <;> first | (cases h; done) | (obtain ⟨_, h⟩ := compR_dops h; cases h; done)))
        | (simp only [Option.map_eq_some_iff] at h; obtain ⟨_, _, h⟩ := h; cases h))
    | (cases h; done)
    | (simp only [Option.map_eq_some_iff] at h; obtain ⟨_, _, h⟩ := h; cases h)
theorem comp_loop {a : IC} (h : comp P quiet c = some (.loop a)) : ∃ x, c = .loop x ∧ comp P quiet x = some a := by
  cases c <;> simp only [comp] at h <;> first
    | (simp only [Option.map_eq_some_iff] at h; obtain ⟨_, h1, h⟩ := h; cases h; exact ⟨_, rfl, h1⟩)
    | (split at h <;> first
        | (cases h; done)
        | (split at h <;> first | (cases h; done) | (split at h <;> first | (cases h; done) | (obtain ⟨_, h⟩ := compR_dops h; cases h; done)))
        | (simp only [Option.map_eq_some_iff] at h; obtain ⟨_, _, h⟩ := h; cases h))
    | (cases h; done)
    | (simp only [Option.map_eq_some_iff] at h; obtain ⟨_, _, h⟩ := h; cases h)
theorem comp_ops {l : List IOp} (h : comp P quiet c = some (.ops l)) : ∃ id ops, c = .region id ops false ∧ ops.toList.mapM (compOp P ops) = some l := by
  cases c <;> simp only [comp] at h <;> first
    | (split at h
       · split at h <;> first | (cases h; done) | (split at h <;> first | (cases h; done) | (obtain ⟨_, h⟩ := compR_dops h; cases h; done))
       · rename_i hd
         simp only [Option.map_eq_some_iff] at h; obtain ⟨_, h1, h⟩ := h; cases h
         exact ⟨_, _, by simp only [Bool.not_eq_true] at hd; rw [hd], h1⟩)
    | (cases h; done)
    | (split at h <;> first
        | (cases h; done)
        | (split at h <;> first | (cases h; done) | (split at h <;> first | (cases h; done) | (obtain ⟨_, h⟩ := compR_dops h; cases h; done))))
    | (simp only [Option.map_eq_some_iff] at h; obtain ⟨_, _, h⟩ := h; cases h)
theorem comp_dops {l : List IOp} (h : comp P quiet c = some (.dops l)) : ∃ id ops, c = .region id ops true ∧ P.follows .mixedOrders = true ∧
    ((∃ l0, l = aug ops.toList l0 ∧ ops.toList.mapM (compD P quiet ops) = some l0 ∧ chk ops.toList l0 = true) ∨
     ∃ ord l0, l = aug (permOps ops ord).toList l0 ∧ permOk ops ord = true ∧ (permOps ops ord).toList.mapM (compD P (quiet2 quiet) (permOps ops ord)) = some l0 ∧ chk (permOps ops ord).toList l0 = true) := by
  cases c <;> simp only [comp] at h <;> first
    | (split at h
       · rename_i hd
         split at h <;> try (cases h; done)
         rename_i hi
         split at h
         · rename_i hk
           cases h
           simp only [Bool.and_eq_true] at hk
           exact ⟨_, _, by rw [hd], hk.2, .inl ⟨_, rfl, hi, hk.1⟩⟩
         · unfold compR at h
           split at h <;> try (cases h; done)
           split at h <;> try (cases h; done)
           rename_i hi2
           split at h <;> try (cases h; done)
           rename_i hk
           cases h
           simp only [Bool.and_eq_true] at hk
           exact ⟨_, _, by rw [hd], hk.2, .inr ⟨_, _, rfl, hk.1.1, hi2, hk.1.2⟩⟩
       · simp only [Option.map_eq_some_iff] at h; obtain ⟨_, _, h⟩ := h; cases h)
    | (cases h; done)
    | (split at h <;> first
        | (cases h; done)
        | (split at h <;> first | (cases h; done) | (split at h <;> first | (cases h; done) | (obtain ⟨_, h⟩ := compR_dops h; cases h; done))))
    | (simp only [Option.map_eq_some_iff] at h; obtain ⟨_, _, h⟩ := h; cases h)
end inv
theorem EndsF.mono {n : Nat} {β : Base} {d : List Deferred} {Q Q' : Ex → Fr → List Res → Prop} {e : Exit} {a : Act} {w : World} (h : ∀ ex σ m, Q ex σ m → Q' ex σ m) (hh : EndsF n β d Q e a w) : EndsF n β d Q' e a w := by
  obtain ⟨ex, σ, m, ε, h1, h2, h3⟩ := hh
  exact ⟨ex, σ, m, ε, h1, h _ _ _ h2, h3⟩
theorem selI_range (n : Nat) : selI (List.range n) = ltI n := by
  funext i
  unfold selI ltI
  by_cases h : i < n
  · have hc : (List.range n).contains i = true := by simpa using h
    rw [if_pos hc, if_pos h]
    have hn : (List.range n).Nodup := List.nodup_range
    have := hn.idxOf_getElem i (by simpa using h)
    rw [List.getElem_range] at this
    rw [this]
  · have hc : ¬ (List.range n).contains i = true := by simpa using h
    rw [if_neg hc, if_neg h]
theorem trim_ok {n0 n k : Nat} {m M : List Res} {τ : Fr} {β : Base} {ε : Env} {a : Act} {w : World} (hI : Inv β ε m w) (hs : SlotsF n ε τ a) (hb : β.ε.n ≤ n0) (hk : n0 ≤ k) (hM : M.length = k) (hm : (m.take k).map (renR (ltI k)) = M) :
    ∃ ε', Inv β ε' M w ∧ SlotsF n ε' (renF (ltI k) τ) a := by
  obtain ⟨σ, h1, h2⟩ := hs
  have hlen : k ≤ m.length := by
    have := congrArg List.length hm
    rw [List.length_map, List.length_take, hM] at this
    omega
  have hsel : selM (List.range k) m = M := by
    rw [← hm]
    unfold selM
    rw [selI_range]
    apply List.ext_getElem?
    intro i
    rw [List.getElem?_map, List.getElem?_map, List.getElem?_take]
    by_cases hi : i < k
    · rw [if_pos hi, List.getElem?_range hi]
      have : m[i]? = some (m[i]'(by omega)) := List.getElem?_eq_getElem _
      rw [this]
      simp [memAt, List.getD, this]
    · rw [if_neg hi, List.getElem?_eq_none (by simpa using hi)]
      rfl
  refine ⟨selE (List.range k) ε, hsel ▸ hI.sel _ List.nodup_range (fun i hi => List.getElem?_range (by omega)), renL (selI (List.range k)) σ, ⟨by rw [renL_length]; exact h1.1, fun j => ?_⟩, h2.ren (sel_ren _ ε)⟩
  rw [look_renF, renL_getD, ← selI_range]
  rcases h1.2 j with e | ⟨e1, e2⟩
  · left; rw [e]; rfl
  · exact .inr ⟨e1, by rw [e2]⟩
theorem look_ofR {r : Nat → Option Nat} : ∀ {ks : List Nat} {xs : List SV} {τ τ' : Fr} (k : Nat), atR r ks xs τ' → Le (look k τ) (look k (renF r τ')) → Le (look k (ofF ks xs τ)) (look k (renF r τ'))
  | [], [], _, _, _, _, h => h
  | j :: ks, x :: xs, τ, τ', k, ha, h => by
    simp only [ofF, look]
    by_cases e : k = j
    · subst e; rw [if_pos rfl, look_renF]; exact .inr ha.1.symm
    · rw [if_neg e]; exact look_ofR k ha.2 h
  | [], _ :: _, _, _, _, ha, _ => ha.elim
  | _ :: _, [], _, _, _, ha, _ => ha.elim
theorem same_keepR {r : Nat → Option Nat} : ∀ {ks : List Nat} {τ τ' : Fr} (k : Nat), sameR r τ τ' ks → Le (look k (keepF ks τ)) (look k (renF r τ'))
  | [], _, _, _, _ => .inl rfl
  | j :: ks, τ, τ', k, h => by
    simp only [keepF, look]
    by_cases e : k = j
    · subst e; rw [if_pos rfl, look_renF]; exact .inr h.1.symm
    · rw [if_neg e]; exact same_keepR k h.2
theorem JC.sound {Γ : FH} (hΓ : FHOK P Γ) {quiet : FuncId → Bool} {n0 n : Nat} {β : Base} (hb : β.ε.n ≤ n0) {d : List Deferred} : ∀ (jc : JC) (c : Code), comp P quiet c = some jc.flat → jc.wf n = true → ∀ (Q : Ex → Fr → List Res → Prop) (τ : Fr) (m : List Res), jc.wp Γ n0 Q τ m →
    ∀ ε a w, Inv β ε m w → SlotsF n ε τ a → a.defers = d → c.wp P (EndsF n β d Q) a w
  | .skip, c, hc, hw, Q, τ, m, h, ε, a, w, hi, hs, hd => by
    obtain rfl := comp_skip hc
    exact wp_skip ⟨.norm, τ, m, ε, trivial, h, hi, hs, hd⟩
  | .ops l, c, hc, hw, Q, τ, m, h, ε, a, w, hi, hs, hd => by
    obtain ⟨id, ops, rfl, hl⟩ := comp_ops hc
    obtain ⟨σ, h1, h2⟩ := hs
    have k := wp_ok l τ σ m (Q .norm) (fun σ' m' => ∃ τ', Rep n σ' τ' ∧ Q .norm τ' m') hw h1 h (fun σ' τ' m' hr hq => ⟨τ', hr, hq⟩)
    exact wp_region_list (sops_sound hΓ.hook _ _ σ m _ hl k (fun σ' m' ε' a' w' ⟨τ', hr, hq⟩ hi' hs' hd' => ⟨.norm, τ', m', ε', trivial, hq, hi', ⟨σ', hr, hs'⟩, hd'⟩) ε a w hi h2 hd)
  | .dops l, c, hc, hw, Q, τ, m, h, ε, a, w, hi, hs, hd => by
    obtain ⟨id, ops, rfl, hf, hcase⟩ := comp_dops hc
    obtain ⟨σ, h1, h2⟩ := hs
    have k := wp_ok l τ σ m _ (fun σ' m' => ∃ τ', Rep n σ' τ' ∧ tidyF n0 m (Q .norm) τ' m') hw h1 h (fun σ' τ' m' hr hq => ⟨τ', hr, hq⟩)
    have k : dsops _ (l.flat none) _ σ m := k
    have fin : ∀ σ' m' ε' a' w', (∃ τ', Rep n σ' τ' ∧ tidyF n0 m (Q .norm) τ' m') → Inv β ε' m' w' → SlotsOK ε' σ' a' → a'.defers = d → EndsF n β d Q .normal a' w' := by
      rintro σ' m' ε' a' w' ⟨τ', hr, hq⟩ hi' hs' hd'
      obtain ⟨τ2, m2, ε2, k1, k2, k3⟩ := tidyF_ok hq hi' ⟨σ', hr, hs'⟩ hb
      exact ⟨.norm, τ2, m2, ε2, trivial, k1, k2, k3, hd'⟩
    rcases hcase with ⟨l0, hl0, hl, hk⟩ | ⟨ord, l0, hl0, hpo, hl, hk⟩
    · rw [hl0] at k
      exact dops_sound hΓ.hook hf hl hk k (β := β) (d := d) fin hi h2 hd
    · rw [hl0] at k
      exact dops_sound2 hΓ.hook hf hpo hl hk k (β := β) (d := d) fin hi h2 hd
  | .seq x y, c, hc, hw, Q, τ, m, h, ε, a, w, hi, hs, hd => by
    obtain ⟨x', y', rfl, hx, hy⟩ := comp_seq hc
    simp only [JC.wf, Bool.and_eq_true] at hw
    simp only [JC.wp] at h
    refine wp_seq (Code.wp_mono (fun e a' w' he => ?_) (JC.sound hΓ hb x x' hx hw.1 _ τ m h ε a w hi hs hd))
    obtain ⟨ex, σ', m', ε', h1, h2, h3, h4, h5⟩ := he
    cases e <;> cases ex <;> simp only [ExRel] at h1
    · exact JC.sound hΓ hb y y' hy hw.2 Q σ' m' h2 ε' a' w' h3 h4 h5
    · exact ⟨_, σ', m', ε', by simp only [ExRel]; exact h1, h2, h3, h4, h5⟩
    · exact ⟨.ret, σ', m', ε', trivial, h2, h3, h4, h5⟩
  | .cond x y z, c, hc, hw, Q, τ, m, h, ε, a, w, hi, hs, hd => by
    obtain ⟨x', y', z', rfl, hx, hy, hz⟩ := comp_cond hc
    simp only [JC.wf, Bool.and_eq_true] at hw
    simp only [JC.wp] at h
    split at h
    · rename_i t ht
      obtain ⟨σ, h1, h2⟩ := hs
      have hv0 := compO_ok hx h2
      rw [le_eq (h1.fv x) ht (by intro h; cases h)] at hv0
      have hv := sat_bool hv0
      cases t with
      | true => exact wp_cond_true hv (JC.sound hΓ hb y y' hy hw.1 Q τ m (h.1 rfl) ε a w hi ⟨σ, h1, h2⟩ hd)
      | false => exact wp_cond_false hv (JC.sound hΓ hb z z' hz hw.2 Q τ m (h.2 rfl) ε a w hi ⟨σ, h1, h2⟩ hd)
    · rename_i ht
      obtain ⟨σ, h1, h2⟩ := hs
      have hv0 := compO_ok hx h2
      rw [le_eq (h1.fv x) ht (by intro h; cases h)] at hv0
      obtain ⟨cs, k1, hv⟩ := hv0
      simp only [SatC] at k1
      obtain ⟨t, rfl⟩ := k1
      cases t with
      | true => exact wp_cond_true hv (JC.sound hΓ hb y y' hy hw.1 Q τ m h.1 ε a w hi ⟨σ, h1, h2⟩ hd)
      | false => exact wp_cond_false hv (JC.sound hΓ hb z z' hz hw.2 Q τ m h.2 ε a w hi ⟨σ, h1, h2⟩ hd)
    · exact h.elim
  | .block id x, c, hc, hw, Q, τ, m, h, ε, a, w, hi, hs, hd => by
    obtain ⟨x', rfl, hx⟩ := comp_block hc
    simp only [JC.wp] at h
    refine wp_block (Code.wp_mono (fun e a' w' he => ?_) (JC.sound hΓ hb x x' hx hw _ τ m h ε a w hi hs hd))
    obtain ⟨ex, σ', m', ε', h1, h2, h3, h4, h5⟩ := he
    cases e <;> cases ex <;> simp only [ExRel] at h1
    · exact ⟨.norm, σ', m', ε', trivial, h2, h3, h4, h5⟩
    · subst h1
      simp only [Exit.inBlock]
      simp only at h2
      split
      · rename_i e1; rw [if_pos e1] at h2; exact ⟨.norm, σ', m', ε', trivial, h2, h3, h4, h5⟩
      · rename_i e1; rw [if_neg e1] at h2; exact ⟨.exit _, σ', m', ε', rfl, h2, h3, h4, h5⟩
    · exact ⟨.ret, σ', m', ε', trivial, h2, h3, h4, h5⟩
  | .loop keep mod x, c, hc, hw, Q, τ, m, h, ε, a, w, hi, hs, hd => by
    obtain ⟨x', rfl, hx⟩ := comp_loop hc
    simp only [JC.wf, Bool.and_eq_true] at hw
    simp only [JC.wp] at h
    obtain ⟨ι, U, M, ok, μ, i0, hok, hw0, hm0, hround⟩ := h
    have hs0 : SlotsF n ε (ofF mod (U i0) (keepF keep τ)) a := hs.weak fun k => look_of k hw0 (look_keep keep)
    refine wp_loop_ghost (fun n' a w => ∃ i ε, μ i = n' ∧ ok i ∧ Inv β ε (M i) w ∧ SlotsF n ε (ofF mod (U i) (keepF keep τ)) a ∧ a.defers = d) (μ i0) ⟨i0, ε, rfl, hok, hm0 ▸ hi, hs0, hd⟩ ?_
    rintro n' a w ⟨i, ε, rfl, hok', hi', hs', hd'⟩
    refine Code.wp_mono (fun e a' w' he => ?_) (JC.sound hΓ hb x x' hx hw.2 _ _ _ (hround i hok') ε a w hi' hs' hd')
    obtain ⟨ex, σ', m', ε', h1, h2, h3, h4, h5⟩ := he
    cases e <;> cases ex <;> simp only [ExRel] at h1
    · obtain ⟨j, hj1, hj2, hj0, hj3, hj4, hj5⟩ := h2
      obtain ⟨ε2, k1, k2⟩ := trim_ok h3 h4 hb hj0 rfl hj5
      exact ⟨μ j, hj2, j, ε2, rfl, hj1, k1, k2.weak fun k => look_ofR k hj3 (same_keepR k hj4), h5⟩
    · exact ⟨_, σ', m', ε', by simp only [ExRel]; exact h1, h2, h3, h4, h5⟩
    · exact ⟨.ret, σ', m', ε', trivial, h2, h3, h4, h5⟩
  | .exit id, c, hc, hw, Q, τ, m, h, ε, a, w, hi, hs, hd => by
    obtain rfl := comp_exit hc
    exact wp_exit ⟨.exit id, τ, m, ε, rfl, h, hi, hs, hd⟩
  | .ret, c, hc, hw, Q, τ, m, h, ε, a, w, hi, hs, hd => by
    obtain rfl := comp_ret hc
    exact wp_ret ⟨.ret, τ, m, ε, trivial, h, hi, hs, hd⟩
  | .prune ks x, c, hc, hw, Q, τ, m, h, ε, a, w, hi, hs, hd =>
    JC.sound hΓ hb x c hc hw Q _ m h ε a w hi (hs.weak fun k => look_keep ks) hd
  | .vecs k T wd' x, c, hc, hw, Q, τ, m, h, ε, a, w, hi, hs, hd => by
    simp only [JC.wf, Bool.and_eq_true, decide_eq_true_eq] at hw
    simp only [JC.wp] at h
    obtain ⟨ε', τ', m', h1, h2, h3⟩ := vecs_ok hi hs hw.1 h
    exact JC.sound hΓ hb x c hc hw.2 Q τ' m' h1 ε' a w h2 h3 hd
  | .frz k F x, c, hc, hw, Q, τ, m, h, ε, a, w, hi, hs, hd => by
    simp only [JC.wf, Bool.and_eq_true, decide_eq_true_eq] at hw
    obtain ⟨hP, h⟩ := h
    obtain ⟨ε', h2, h3⟩ := frz_ok hi hs hw.1 hP
    exact JC.sound hΓ hb x c hc hw.2 Q _ _ h ε' a w h2 h3 hd
  | .orc s l, c, hc, hw, Q, τ, m, h, ε, a, w, hi, hs, hd => by
    obtain ⟨x', y', z', rfl, hx, hy, hz⟩ := comp_cond hc
    obtain rfl := comp_skip hy
    obtain ⟨id, ops, rfl, hl⟩ := comp_ops hz
    simp only [JC.wf, Bool.and_eq_true, decide_eq_true_eq] at hw
    simp only [JC.wp] at h
    split at h
    · rename_i b e
      obtain ⟨σ, h1, h2⟩ := hs
      have hb : σ.getD s .junk = .bool b := le_eq (h1.le s) e (by intro h; cases h)
      have hv0 := compO_ok hx h2
      simp only [Opd.ev] at hv0
      rw [hb] at hv0
      have hv := sat_bool hv0
      replace h := vc_use h
      generalize he : l.vg Γ m (.t s) τ = pq at h
      obtain ⟨p, q⟩ := pq
      obtain ⟨g1, g2⟩ : (b = (!true) → p) ∧ Q .norm (.put s (.bool (if true = true then b || q else b && q)) (junkF l.dsts τ)) m := h
      have back : ∀ {σ' : List SV}, OutL l.dsts σ σ' → σ'.getD s .junk = .bool (b || q) → Rep n σ' (.put s (.bool (if true = true then b || q else b && q)) (junkF l.dsts τ)) := by
        intro σ' ho e
        have := (h1.junk ho).put hw.1.1 (Le.refl (.bool (b || q)))
        rw [show σ'.set s (.bool (b || q)) = σ' from ?_] at this
        · exact this
        · apply List.ext_getElem?
          intro j
          rw [List.getElem?_set]
          split
          · rename_i e'; subst e'
            have hlt : s < σ'.length := by rw [ho.1, h1.1]; exact hw.1.1
            rw [if_pos hlt]
            rw [List.getD, List.getElem?_eq_getElem hlt] at e
            rw [List.getElem?_eq_getElem hlt]
            exact congrArg some e.symm
          · rfl
      cases b with
      | true =>
        refine wp_cond_true hv (wp_skip ⟨.norm, _, m, ε, trivial, g2, hi, ⟨σ, back (OutL.refl ..) (by rw [hb]; simp), h2⟩, hd⟩)
      | false =>
        have k := vgn_ok l (.t s) τ σ (fun σ' m' => m' = m ∧ OutL l.dsts σ σ' ∧ σ'.getD s .junk = .bool q) hw.1.2 hw.2 h1 (by rw [he]; exact g1 rfl) (fun σ' ho e => ⟨rfl, ho, by rw [he] at e; exact e⟩)
        refine wp_cond_false hv (wp_region_list (sops_sound hΓ.hook _ _ σ m _ hl k (fun σ' m' ε' a' w' ⟨hm, ho, e⟩ hi' hs' hd' => ?_) ε a w hi h2 hd))
        subst hm
        exact ⟨.norm, _, m', ε', trivial, g2, hi', ⟨σ', back ho (by rw [e]; simp), hs'⟩, hd'⟩
    · exact h.elim
end Go.Sx
