import Derived.Test.YtgcbhanfhnianaaSx21f
import Derived.OwnWalk
/-! Sx, part 22: code over frames. -/
set_option linter.unusedVariables false
set_option linter.unusedSimpArgs false
namespace Go.Sx
open Go
variable {P : Program}
def renF (r : Nat → Option Nat) : Fr → Fr
  | .nil => .nil
  | .put k x t => .put k (ren r x) (renF r t)
  | .pick s d x t => .pick s d (ren r x) (renF r t)
theorem look_renF {r : Nat → Option Nat} {k : Nat} : ∀ τ : Fr, look k (renF r τ) = ren r (look k τ)
  | .nil => rfl
  | .put j x t => by
    simp only [renF, look]
    split
    · rfl
    · exact look_renF t
  | .pick s d x t => by
    simp only [renF, look]
    split
    · rfl
    · split
      · rfl
      · exact look_renF t
structure Frz where
  dec : List Res → SV → SV
  P : List Res → SV → Prop
  ok : ∀ {ε : Env} {m : List Res} {w : World}, Good ε m w → ∀ {x : SV}, P m x → ∀ {cs : List Value}, SatC x ε cs → SatC (dec m x) (Sx.frz ε m w).cl cs
  agg : ∀ {m : List Res} {x : SV}, P m x → (dec m x).isAgg = x.isAgg
  val : ∀ {m : List Res} {x : SV}, P m x → x.isVal = true
inductive JC : Type 1 where
  | skip
  | ops (l : SL)
  | dops (l : SL)
  | gops (l : SL) (d : Nat) (T : TypeId) (z : SV) (lo : SL)
  | seq (a b : JC)
  | cond (x : Opd) (a b : JC)
  | block (id : Nat) (c : JC)
  | loop (keep mod : List Nat) (c : JC)
  | exit (id : Nat)
  | ret
  | prune (ks : List Nat) (c : JC)
  | vecs (k : Nat) (T : TypeId) (w : Nat) (c : JC)
  | orc (s : Nat) (l : SL)
  | frz (k : Nat) (F : Frz) (c : JC)
  | sel (ks : List Nat) (c : JC)
  | frzv (k : Nat) (F : Frz) (c : JC)
  | frzb (k : Nat) (F : Frz) (c : JC)
  | pfz (k : Nat) (F : Frz) (c : JC)
def JC.flat : JC → IC
  | .skip => .skip
  | .ops l => .ops (l.flat none)
  | .dops l => .dops (l.flat none)
  | .gops l d T z lo => .gops (l.flat none) d T z (lo.flat none)
  | .seq a b => .seq a.flat b.flat
  | .cond x a b => .cond x a.flat b.flat
  | .block id c => .block id c.flat
  | .loop _ _ c => .loop c.flat
  | .exit id => .exit id
  | .ret => .ret
  | .prune _ c => c.flat
  | .vecs _ _ _ c => c.flat
  | .orc s l => .cond (.t s) .skip (.ops (l.flat none))
  | .frz _ _ c => c.flat
  | .sel _ c => c.flat
  | .frzv _ _ c => c.flat
  | .frzb _ _ c => c.flat
  | .pfz _ _ c => c.flat
def JC.wf (n : Nat) : JC → Bool
  | .ops l | .dops l => l.wf n
  | .gops l d _ _ lo => l.wf n && (lo.wf n && decide (d < n))
  | .seq a b | .cond _ a b => a.wf n && b.wf n
  | .block _ c => c.wf n
  | .loop keep mod c => mod.all (fun k => decide (k < n)) && keep.all (fun k => decide (k < n)) && c.wf n
  | .prune _ c => c.wf n
  | .vecs k _ _ c => decide (k < n) && c.wf n
  | .orc s l => decide (s < n) && l.plain && l.wf n
  | .frz k _ c => decide (k < n) && c.wf n
  | .sel _ c => c.wf n
  | .frzv k _ c => decide (k < n) && c.wf n
  | .pfz k _ c => decide (k < n) && c.wf n
  | .frzb _ _ c => c.wf n
  | _ => true
def notIn (k : Nat) : List Nat → Prop
  | [] => True
  | j :: r => k ≠ j ∧ notIn k r
def nd : List Nat → Prop
  | [] => True
  | k :: r => notIn k r ∧ nd r
theorem notIn_ok {k : Nat} : ∀ {l : List Nat}, notIn k l → k ∉ l
  | [], _, h => by cases h
  | j :: r, h, hm => by
    rcases List.mem_cons.1 hm with e | e
    · exact h.1 e
    · exact notIn_ok h.2 e
theorem nd_ok : ∀ {l : List Nat}, nd l → l.Nodup
  | [], _ => List.nodup_nil
  | _ :: _, h => List.nodup_cons.2 ⟨notIn_ok h.1, nd_ok h.2⟩
def selJ : List Nat → Nat → Nat → Option Nat
  | [], _, _ => none
  | k :: r, j, i => if i = k then some j else selJ r (j + 1) i
theorem selJ_at (i : Nat) : ∀ (ks : List Nat) (j : Nat), selJ ks j i = (selI ks i).map (· + j)
  | [], j => by simp [selJ, selI]
  | k :: r, j => by
    simp only [selJ]
    by_cases h : i = k
    · subst h; simp [selI]
    · rw [if_neg h, selJ_at i r (j + 1)]
      simp only [selI, List.contains_cons]
      have h' : (i == k) = false := by simpa using h
      simp only [h', Bool.false_or]
      split
      · rw [List.idxOf_cons]
        have : (k == i) = false := by simpa using (fun e => h e.symm)
        simp [this]; omega
      · rfl
theorem selI_eq (ks : List Nat) : selI ks = selJ ks 0 := by
  funext i
  rw [selJ_at]
  cases selI ks i <;> rfl
mutual
def idsV : SV → List Nat
  | .vec i _ => [i]
  | .ptr i _ _ => [i]
  | .vptr i _ _ _ => [i]
  | .pvec i _ => [i]
  | .map i => [i]
  | .agg l => idsL l
  | .tup l => idsL l
  | .fn _ l => idsL l
  | .iface _ x => idsV x
  | _ => []
def idsL : List SV → List Nat
  | [] => []
  | x :: r => idsV x ++ idsL r
end
def upto : Nat → Nat → List Nat
  | 0, _ => []
  | n + 1, k => k :: upto n (k + 1)
theorem upto_at : ∀ (n k i : Nat), i < n → (upto n k)[i]? = some (k + i)
  | n + 1, k, 0, _ => rfl
  | n + 1, k, i + 1, h => by
    simp only [upto, List.getElem?_cons_succ]
    rw [upto_at n (k + 1) i (by omega)]
    congr 1; omega
theorem upto_len : ∀ (n k : Nat), (upto n k).length = n
  | 0, _ => rfl
  | n + 1, k => by simp [upto, upto_len n]
def selF (n0 : Nat) (ks : List Nat) (K : Fr → List Res → Prop) (τ : Fr) (m : List Res) : Prop :=
  nd (upto n0 0 ++ ks) ∧ K (renF (selJ (upto n0 0 ++ ks) 0) τ) ((upto n0 0 ++ ks).map fun k => renR (selJ (upto n0 0 ++ ks) 0) (memAt m k))
def tidyF (n0 : Nat) (m0 : List Res) (K : Fr → List Res → Prop) (τ : Fr) (m : List Res) : Prop :=
  if m.length = m0.length + 1 then match goneAt m0 m 0 with
    | some i => if n0 ≤ i then K (renF (selI ((List.range m0.length).set i m0.length)) τ) (selM ((List.range m0.length).set i m0.length) m) else K τ m
    | none => K τ m
  else K τ m
def vecsF (k : Nat) (T : TypeId) (w : Nat) (K : Fr → List Res → Prop) (τ : Fr) (m : List Res) : SV → Prop
  | .nils => K (.put k (.vec m.length 0) τ) (m ++ [.vec T w []])
  | _ => K τ m
def ltI (n : Nat) : Nat → Option Nat := fun i => if i < n then some i else none
def atR (r : Nat → Option Nat) : List Nat → List SV → Fr → Prop
  | k :: ks, x :: xs, τ => ren r (look k τ) = x ∧ atR r ks xs τ
  | [], [], _ => True
  | _, _, _ => False
def sameR (r : Nat → Option Nat) (τ τ' : Fr) : List Nat → Prop
  | [] => True
  | k :: ks => ren r (look k τ') = look k τ ∧ sameR r τ τ' ks
def frzvF (k : Nat) (F : Frz) (K : Fr → List Res → Prop) (τ : Fr) (m : List Res) : Prop :=
  nd (idsV (look k τ)) ∧ F.P ((idsV (look k τ)).map fun i => renR (selJ (idsV (look k τ)) 0) (memAt m i)) (ren (selJ (idsV (look k τ)) 0) (look k τ)) ∧
    K (.put k (F.dec ((idsV (look k τ)).map fun i => renR (selJ (idsV (look k τ)) 0) (memAt m i)) (ren (selJ (idsV (look k τ)) 0) (look k τ))) τ) (killK (idsV (look k τ)) m)
def frzbG (b : Nat) (F : Frz) (K : List Res → Prop) (m : List Res) : Res → Prop
  | .blk T c => nd (b :: idsV c) ∧ F.P ((idsV c).map fun i => renR (selJ (idsV c) 0) (memAt m i)) (ren (selJ (idsV c) 0) c) ∧
      K ((killK (idsV c) m).set b (.blk T (F.dec ((idsV c).map fun i => renR (selJ (idsV c) 0) (memAt m i)) (ren (selJ (idsV c) 0) c))))
  | _ => False
def frzbF (k : Nat) (F : Frz) (K : List Res → Prop) (τ : Fr) (m : List Res) : Prop := match look k τ with
  | .ptr b [] 0 => frzbG b F K m (memAt m b)
  | _ => False
def JC.wp (Γ : FH) (n0 : Nat) : JC → (Ex → Fr → List Res → Prop) → Fr → List Res → Prop
  | .skip, Q, τ, m => Q .norm τ m
  | .ops l, Q, τ, m => l.wp Γ false (Q .norm) τ m
  | .dops l, Q, τ, m => l.wp Γ true (fun τ' m' => tidyF n0 m (Q .norm) τ' m') τ m
  | .gops l d T z lo, Q, τ, m => l.wp Γ true (fun τ' m' => lo.wp Γ false (fun τ2 m2 => tidyF n0 m (Q .norm) τ2 m2) (.put d (.ptr m'.length [] 0) τ') (m' ++ [.blk T z])) (.put d .junk τ) m
  | .seq a b, Q, τ, m => a.wp Γ n0 (fun e τ' m' => match e with
    | .norm => b.wp Γ n0 Q τ' m'
    | e => Q e τ' m') τ m
  | .cond x a b, Q, τ, m => match x.fv τ with
    | .bool t => (t = true → a.wp Γ n0 Q τ m) ∧ (t = false → b.wp Γ n0 Q τ m)
    | .anyb => a.wp Γ n0 Q τ m ∧ b.wp Γ n0 Q τ m
    | _ => False
  | .block id c, Q, τ, m => c.wp Γ n0 (fun e τ' m' => match e with
    | .exit i => if i = id then Q .norm τ' m' else Q (.exit i) τ' m'
    | e => Q e τ' m') τ m
  | .loop keep mod c, Q, τ, m => ∃ (ι : Type) (U : ι → List SV) (M : ι → List Res) (ok : ι → Prop) (μ : ι → Nat) (i : ι), ok i ∧ atF mod (U i) τ ∧ M i = m ∧
      ∀ i, ok i → c.wp Γ n0 (fun e τ' m' => match e with
        | .norm => ∃ j, ok j ∧ μ j < μ i ∧ n0 ≤ (M j).length ∧ atR (ltI (M j).length) mod (U j) τ' ∧ sameR (ltI (M j).length) τ τ' keep ∧ (m'.take (M j).length).map (renR (ltI (M j).length)) = M j
        | e => Q e τ' m') (ofF mod (U i) (keepF keep τ)) (M i)
  | .exit id, Q, τ, m => Q (.exit id) τ m
  | .ret, Q, τ, m => Q .ret τ m
  | .prune ks c, Q, τ, m => c.wp Γ n0 Q (keepF ks τ) m
  | .vecs k T w c, Q, τ, m => vecsF k T w (fun τ' m' => c.wp Γ n0 Q τ' m') τ m (look k τ)
  | .orc s l, Q, τ, m => match look s τ with
    | .bool b => l.vc Γ m (.t s) τ (fun q g => (b = false → g) ∧ Q .norm (.put s (.bool (b || q)) (junkF l.dsts τ)) m) True
    | _ => False
  | .frz k F c, Q, τ, m => F.P m (look k τ) ∧ c.wp Γ n0 Q (.put k (F.dec m (look k τ)) τ) (deads m)
  | .frzv k F c, Q, τ, m => frzvF k F (fun τ' m' => c.wp Γ n0 Q τ' m') τ m
  | .frzb k F c, Q, τ, m => frzbF k F (fun m' => c.wp Γ n0 Q τ m') τ m
  | .sel ks c, Q, τ, m => c.wp Γ n0 (fun e τ' m' => match e with
    | .norm => selF n0 ks (Q .norm) τ' m'
    | e => Q e τ' m') τ m
  | .pfz k F c, Q, τ, m => c.wp Γ n0 (fun e τ' m' => match e with
    | .norm => frzvF k F (Q .norm) τ' m'
    | e => Q e τ' m') τ m

def SlotsF (n : Nat) (ε : Env) (τ : Fr) (a : Act) : Prop := ∃ σ, Rep n σ τ ∧ SlotsOK ε σ a
theorem SlotsF.size {n : Nat} {ε : Env} {τ : Fr} {a : Act} (h : SlotsF n ε τ a) : a.tmps.size = n := by
  obtain ⟨σ, h1, h2⟩ := h
  rw [← h2.1, h1.1]
theorem SlotsF.sat {n : Nat} {ε : Env} {τ : Fr} {a : Act} (h : SlotsF n ε τ a) (k : Nat) : SatV ε (look k τ) (a.tmps.getD k undef) := by
  obtain ⟨σ, h1, h2⟩ := h
  rcases h1.2 k with h | ⟨_, h⟩
  · rw [h]; trivial
  · rw [h]; exact h2.2 k
theorem SlotsF.weak {n : Nat} {ε : Env} {τ τ' : Fr} {a : Act} (h : SlotsF n ε τ a) (hl : ∀ k, Le (look k τ') (look k τ)) : SlotsF n ε τ' a := by
  obtain ⟨σ, h1, h2⟩ := h
  refine ⟨σ, ⟨h1.1, fun k => ?_⟩, h2⟩
  rcases hl k with e | e
  · exact .inl e
  · rw [e]; exact h1.2 k
theorem look_of : ∀ {ks : List Nat} {xs : List SV} {τ τ' : Fr} (k : Nat), atF ks xs τ' → Le (look k τ) (look k τ') → Le (look k (ofF ks xs τ)) (look k τ')
  | [], [], _, _, _, _, h => h
  | j :: ks, x :: xs, τ, τ', k, ha, h => by
    simp only [ofF, look]
    by_cases e : k = j
    · subst e; rw [if_pos rfl]; exact .inr ha.1.symm
    · rw [if_neg e]; exact look_of k ha.2 h
  | [], _ :: _, _, _, _, ha, _ => ha.elim
  | _ :: _, [], _, _, _, ha, _ => ha.elim
theorem SlotsF.env {n : Nat} {ε ε' : Env} {τ : Fr} {a : Act} (h : SlotsF n ε τ a) (hl : ε.Le ε') : SlotsF n ε' τ a := by
  obtain ⟨σ, h1, h2⟩ := h
  exact ⟨σ, h1, h2.mono hl⟩
theorem vecs_ok {β : Base} {ε : Env} {m : List Res} {w : World} (h : Inv β ε m w) {n : Nat} {τ : Fr} {a : Act} (hs : SlotsF n ε τ a) {k : Nat} (hk : k < n) {T : TypeId} {wd' : Nat} {K : Fr → List Res → Prop} (hh : vecsF k T wd' K τ m (look k τ)) :
    ∃ ε' τ' m', K τ' m' ∧ Inv β ε' m' w ∧ SlotsF n ε' τ' a := by
  unfold vecsF at hh
  split at hh
  · rename_i e
    have hg : w.grownBy w none := World.grownBy.refl w none
    have hi := h.more (b := 0) (v := .slice none 0 0) (r := .vec T wd' []) hg (Nat.le_refl _) ⟨[], ⟨by simp, .inl ⟨by simp [Env.more, h.good.n], rfl⟩⟩, fun j hj => absurd hj (Nat.not_lt_zero _)⟩ (by
      intro x hx
      simp [ownR, Env.more, h.good.n, Value.ownBlock] at hx)
    have hle := ε.le_more 0 (.slice none 0 0)
    refine ⟨_, _, _, hh, hi, ?_⟩
    obtain ⟨σ, h1, h2⟩ := hs
    have hv := h2.2 k
    have ek : σ.getD k .junk = .nils := le_eq (h1.le k) e (by intro h; cases h)
    rw [ek] at hv
    have hv' := sat_nils hv
    refine ⟨σ.set k (.vec m.length 0), h1.put hk (Le.refl _), ⟨by simp [h2.1], fun j => ?_⟩⟩
    by_cases ej : j = k
    · subst ej
      rw [getD_set_eq (by rw [h1.1]; exact hk), hv']
      refine ⟨[.slice none 0 0], ?_, rfl⟩
      simp only [SatC]
      refine ⟨by simp [Env.more, h.good.n], .inl ⟨by simp [Env.more, h.good.n], trivial⟩, by simp [Env.more, h.good.n]⟩
    · rw [getD_set_ne ej]
      exact (h2.2 j).mono hle
  · exact ⟨ε, τ, m, hh, h, hs⟩
theorem frz_ok {β : Base} {ε : Env} {m : List Res} {w : World} (h : Inv β ε m w) {n : Nat} {τ : Fr} {a : Act} (hs : SlotsF n ε τ a) {k : Nat} (hk : k < n) {F : Frz} (hP : F.P m (look k τ)) :
    ∃ ε', Inv β ε' (deads m) w ∧ SlotsF n ε' (.put k (F.dec m (look k τ)) τ) a := by
  refine ⟨_, h.freeze, ?_⟩
  have hle : ε.Le (Sx.frz ε m w) := ⟨Nat.le_refl _, fun _ _ => rfl, fun _ _ => rfl, frz_H h.good⟩
  obtain ⟨σ, h1, h2⟩ := hs
  have e := le_val (h1.le k) (F.val hP)
  obtain ⟨cs, k1, k2⟩ := sat_val (h2.2 k) (by rw [e]; exact F.val hP)
  rw [e] at k1 k2
  have k3 := F.ok h.good hP k1
  refine ⟨σ.set k (F.dec m (look k τ)), h1.put hk (Le.refl _), by simp [h2.1], fun j => ?_⟩
  by_cases ej : j = k
  · subst ej
    rw [getD_set_eq (by rw [h1.1]; exact hk), k2, ← F.agg hP]
    exact satC_sat (SatC.mono _ (Env.cl_le _) k3)
  · rw [getD_set_ne ej]
    exact (h2.2 j).mono hle
theorem frzv_ok {β : Base} {ε : Env} {m : List Res} {w : World} (h : Inv β ε m w) {n : Nat} {τ : Fr} {a : Act} (hs : SlotsF n ε τ a) {k : Nat} (hk : k < n) {F : Frz} {K : Fr → List Res → Prop} (hh : frzvF k F K τ m) :
    ∃ ε' τ' m', K τ' m' ∧ Inv β ε' m' w ∧ SlotsF n ε' τ' a := by
  unfold frzvF at hh
  generalize hks : idsV (look k τ) = ks at hh
  obtain ⟨h1, h2, h3⟩ := hh
  have hn := nd_ok h1
  rw [← selI_eq] at h2 h3
  have hg := h.good.sel ks hn
  have hle := frzK_le h.good ks
  refine ⟨frzK ε m w ks, _, _, h3, h.freezeK ks, ?_⟩
  obtain ⟨σ, r1, r2⟩ := hs
  have hval := F.val h2
  have hx : (look k τ).isVal = true := by
    cases hl : look k τ <;> rw [hl] at hval <;> first | rfl | (simp [ren, SV.isVal] at hval)
  have e := le_val (r1.le k) hx
  obtain ⟨cs, k1, k2⟩ := sat_val (r2.2 k) (by rw [e]; exact hx)
  rw [e] at k1 k2
  have k3 := F.ok hg h2 (SatC.ren (selI ks) _ (sel_ren ks ε) k1)
  have k4 := SatC.mono _ (frzK_sel h.good hn) k3
  refine ⟨σ.set k (F.dec (selM ks m) (ren (selI ks) (look k τ))), r1.put hk (Le.refl _), by simp [r2.1], fun j => ?_⟩
  by_cases ej : j = k
  · subst ej
    rw [getD_set_eq (by rw [r1.1]; exact hk), k2]
    have ha : (look j τ).isAgg = (F.dec (selM ks m) (ren (selI ks) (look j τ))).isAgg := by
      refine Eq.trans ?_ (F.agg h2).symm
      cases hl : look j τ <;> rw [hl] at hval <;> first | rfl | (simp only [ren, renI] at hval ⊢; split at hval <;> first | rfl | (simp [SV.isVal] at hval))
    rw [ha]
    exact satC_sat k4
  · rw [getD_set_ne ej]
    exact (r2.2 j).mono hle
theorem frzb_ok {β : Base} {ε : Env} {m : List Res} {w : World} (h : Inv β ε m w) {n : Nat} {τ : Fr} {a : Act} (hs : SlotsF n ε τ a) {k : Nat} {F : Frz} {K : List Res → Prop} (hh : frzbF k F K τ m) :
    ∃ ε' m', K m' ∧ Inv β ε' m' w ∧ SlotsF n ε' τ a := by
  unfold frzbF at hh
  split at hh <;> try exact hh.elim
  rename_i b hb
  unfold frzbG at hh
  split at hh <;> try exact hh.elim
  rename_i T c hm
  generalize hks : idsV c = ks at hh
  obtain ⟨h1, h2, h3⟩ := hh
  obtain ⟨hbn, hn⟩ := List.nodup_cons.1 (nd_ok h1)
  rw [← selI_eq] at h2 h3
  have hg := h.good.sel ks hn
  have hle := frzK_le h.good ks
  have hm2 : memAt (killK ks m) b = .blk T c := by rw [killK_at, if_neg hbn]; exact hm
  refine ⟨frzK ε m w ks, _, h3, (h.freezeK ks).retell hm2 fun cs hcs => ?_, hs.env hle⟩
  have hr := h.good.res b
  rw [hm] at hr
  obtain ⟨cs0, g1, g2⟩ := hr
  have hcs : w.heap[ε.blk b]? = some (.cells cs.toArray T (0, 0)) := hcs
  rw [g1] at hcs
  simp only [Option.some.injEq, Obj.cells.injEq] at hcs
  have : cs0 = cs := by simpa using congrArg Array.toList hcs.1
  subst this
  exact SatC.mono _ (frzK_sel h.good hn) (F.ok hg h2 (SatC.ren (selI ks) _ (sel_ren ks ε) g2))
def EndsF (n : Nat) (β : Base) (d : List Deferred) (Q : Ex → Fr → List Res → Prop) (e : Exit) (a : Act) (w : World) : Prop :=
  ∃ ex τ m ε, ExRel e ex ∧ Q ex τ m ∧ Inv β ε m w ∧ SlotsF n ε τ a ∧ a.defers = d
theorem selF_ok {n0 n : Nat} {ks : List Nat} {m : List Res} {K : Fr → List Res → Prop} {τ : Fr} (h : selF n0 ks K τ m) {β : Base} {ε : Env} {a : Act} {w : World} (hI : Inv β ε m w) (hs : SlotsF n ε τ a) (hb : β.ε.n ≤ n0) :
    ∃ τ' m' ε', K τ' m' ∧ Inv β ε' m' w ∧ SlotsF n ε' τ' a := by
  obtain ⟨σ, h1, h2⟩ := hs
  obtain ⟨g1, g2⟩ := h
  rw [← selI_eq] at g2
  refine ⟨_, _, _, g2, hI.sel _ (nd_ok g1) (fun k hk => ?_), renL (selI (upto n0 0 ++ ks)) σ, ?_, h2.ren (sel_ren _ ε)⟩
  · rw [List.getElem?_append_left (by rw [upto_len]; omega), upto_at n0 0 k (by omega), Nat.zero_add]
  · refine ⟨by rw [renL_length]; exact h1.1, fun k => ?_⟩
    rw [look_renF, renL_getD]
    rcases h1.2 k with e | ⟨e1, e2⟩
    · left; rw [e]; rfl
    · exact .inr ⟨e1, by rw [e2]⟩
theorem tidyF_ok {n0 n : Nat} {m0 m : List Res} {K : Fr → List Res → Prop} {τ : Fr} (h : tidyF n0 m0 K τ m) {β : Base} {ε : Env} {a : Act} {w : World} (hI : Inv β ε m w) (hs : SlotsF n ε τ a) (hb : β.ε.n ≤ n0) :
    ∃ τ' m' ε', K τ' m' ∧ Inv β ε' m' w ∧ SlotsF n ε' τ' a := by
  obtain ⟨σ, h1, h2⟩ := hs
  unfold tidyF at h
  split at h
  · rename_i hl
    split at h
    · rename_i i hg
      have hi := (goneAt_ge _ _ _ _ hg).2
      rw [Nat.zero_add] at hi
      split at h
      · rename_i hni
        refine ⟨_, _, _, h, hI.sel _ (range_set_nodup hi) (fun k hk => ?_), renL (selI ((List.range m0.length).set i m0.length)) σ, ?_, h2.ren (sel_ren _ ε)⟩
        · rw [List.getElem?_set, if_neg (by omega), List.getElem?_range]
          omega
        · refine ⟨by rw [renL_length]; exact h1.1, fun k => ?_⟩
          rw [look_renF, renL_getD]
          rcases h1.2 k with e | ⟨e1, e2⟩
          · left; rw [e]; rfl
          · exact .inr ⟨e1, by rw [e2]⟩
      · exact ⟨_, _, _, h, hI, σ, h1, h2⟩
    · exact ⟨_, _, _, h, hI, σ, h1, h2⟩
  · exact ⟨_, _, _, h, hI, σ, h1, h2⟩

section inv
variable {quiet : FuncId → Bool} {c : Code}
theorem comp_skip (h : comp P quiet c = some .skip) : c = .skip := by
  cases c <;> simp only [comp] at h <;> first
    | rfl
    | (cases h; done)
    | (split at h <;> first | (cases h; done) | (split at h <;> first | (cases h; done) | (split at h <;> first | (cases h; done) | (rcases compR_dops h with ⟨_, h⟩ | ⟨_, _, _, _, _, h⟩ <;> cases h; done))) | (simp only [Option.map_eq_some_iff] at h; obtain ⟨_, _, h⟩ := h; cases h))
    | (simp only [Option.map_eq_some_iff] at h; obtain ⟨_, _, h⟩ := h; cases h)
theorem comp_exit {i : Nat} (h : comp P quiet c = some (.exit i)) : c = .exit i := by
  cases c <;> simp only [comp] at h <;> first
    | (cases h; rfl; done)
    | (cases h; done)
    | (split at h <;> first | (cases h; done) | (split at h <;> first | (cases h; done) | (split at h <;> first | (cases h; done) | (rcases compR_dops h with ⟨_, h⟩ | ⟨_, _, _, _, _, h⟩ <;> cases h; done))) | (simp only [Option.map_eq_some_iff] at h; obtain ⟨_, _, h⟩ := h; cases h))
    | (simp only [Option.map_eq_some_iff] at h; obtain ⟨_, _, h⟩ := h; cases h)
theorem comp_ret (h : comp P quiet c = some .ret) : c = .ret := by
  cases c <;> simp only [comp] at h <;> first
    | rfl
    | (cases h; done)
    | (split at h <;> first | (cases h; done) | (split at h <;> first | (cases h; done) | (split at h <;> first | (cases h; done) | (rcases compR_dops h with ⟨_, h⟩ | ⟨_, _, _, _, _, h⟩ <;> cases h; done))) | (simp only [Option.map_eq_some_iff] at h; obtain ⟨_, _, h⟩ := h; cases h))
    | (simp only [Option.map_eq_some_iff] at h; obtain ⟨_, _, h⟩ := h; cases h)
theorem comp_seq {a b : IC} (h : comp P quiet c = some (.seq a b)) : ∃ x y, c = .seq x y ∧ comp P quiet x = some a ∧ comp P quiet y = some b := by
  cases c <;> simp only [comp] at h <;> first
    | (split at h <;> first
        | (cases h; exact ⟨_, _, rfl, by assumption, by assumption⟩)
        | (cases h; done)
        | (split at h <;> first | (cases h; done) | (split at h <;> first | (cases h; done) | (rcases compR_dops h with ⟨_, h⟩ | ⟨_, _, _, _, _, h⟩ <;> cases h; done)))
        | (simp only [Option.map_eq_some_iff] at h; obtain ⟨_, _, h⟩ := h; cases h))
    | (cases h; done)
    | (simp only [Option.map_eq_some_iff] at h; obtain ⟨_, _, h⟩ := h; cases h)
theorem comp_cond {x' : Opd} {a b : IC} (h : comp P quiet c = some (.cond x' a b)) : ∃ x y z, c = .cond x y z ∧ compO x = some x' ∧ comp P quiet y = some a ∧ comp P quiet z = some b := by
  cases c <;> simp only [comp] at h <;> first
    | (split at h <;> first
        | (cases h; exact ⟨_, _, _, rfl, by assumption, by assumption, by assumption⟩)
        | (cases h; done)
        | (split at h <;> first | (cases h; done) | (split at h <;> first | (cases h; done) | (rcases compR_dops h with ⟨_, h⟩ | ⟨_, _, _, _, _, h⟩ <;> cases h; done)))
        | (simp only [Option.map_eq_some_iff] at h; obtain ⟨_, _, h⟩ := h; cases h))
    | (cases h; done)
    | (simp only [Option.map_eq_some_iff] at h; obtain ⟨_, _, h⟩ := h; cases h)
theorem comp_block {id : Nat} {a : IC} (h : comp P quiet c = some (.block id a)) : ∃ x, c = .block id x ∧ comp P quiet x = some a := by
  cases c <;> simp only [comp] at h <;> first
    | (simp only [Option.map_eq_some_iff] at h; obtain ⟨_, h1, h⟩ := h; cases h; exact ⟨_, rfl, h1⟩)
    | (split at h <;> first
        | (cases h; done)
        | (split at h <;> first | (cases h; done) | (split at h <;> first | (cases h; done) | (rcases compR_dops h with ⟨_, h⟩ | ⟨_, _, _, _, _, h⟩ <;> cases h; done)))
        | (simp only [Option.map_eq_some_iff] at h; obtain ⟨_, _, h⟩ := h; cases h))
    | (cases h; done)
    | (simp only [Option.map_eq_some_iff] at h; obtain ⟨_, _, h⟩ := h; cases h)
theorem comp_loop {a : IC} (h : comp P quiet c = some (.loop a)) : ∃ x, c = .loop x ∧ comp P quiet x = some a := by
  cases c <;> simp only [comp] at h <;> first
    | (simp only [Option.map_eq_some_iff] at h; obtain ⟨_, h1, h⟩ := h; cases h; exact ⟨_, rfl, h1⟩)
    | (split at h <;> first
        | (cases h; done)
        | (split at h <;> first | (cases h; done) | (split at h <;> first | (cases h; done) | (rcases compR_dops h with ⟨_, h⟩ | ⟨_, _, _, _, _, h⟩ <;> cases h; done)))
        | (simp only [Option.map_eq_some_iff] at h; obtain ⟨_, _, h⟩ := h; cases h))
    | (cases h; done)
    | (simp only [Option.map_eq_some_iff] at h; obtain ⟨_, _, h⟩ := h; cases h)
theorem comp_ops {l : List IOp} (h : comp P quiet c = some (.ops l)) : ∃ id ops, c = .region id ops false ∧ ops.toList.mapM (compOp P ops) = some l := by
  cases c <;> simp only [comp] at h <;> first
    | (split at h
       · split at h <;> first | (cases h; done) | (split at h <;> first | (cases h; done) | (rcases compR_dops h with ⟨_, h⟩ | ⟨_, _, _, _, _, h⟩ <;> cases h; done))
       · rename_i hd
         simp only [Option.map_eq_some_iff] at h; obtain ⟨_, h1, h⟩ := h; cases h
         exact ⟨_, _, by simp only [Bool.not_eq_true] at hd; rw [hd], h1⟩)
    | (cases h; done)
    | (split at h <;> first
        | (cases h; done)
        | (split at h <;> first | (cases h; done) | (split at h <;> first | (cases h; done) | (rcases compR_dops h with ⟨_, h⟩ | ⟨_, _, _, _, _, h⟩ <;> cases h; done))))
    | (simp only [Option.map_eq_some_iff] at h; obtain ⟨_, _, h⟩ := h; cases h)
theorem comp_dops {l : List IOp} (h : comp P quiet c = some (.dops l)) : ∃ id ops, c = .region id ops true ∧ P.follows .mixedOrders = true ∧
    ((∃ l0, l = aug ops.toList l0 ∧ ops.toList.mapM (compD P quiet ops) = some l0 ∧ chk ops.toList l0 = true) ∨
     ∃ ord l0, l = aug (permOps ops ord).toList l0 ∧ permOk ops ord = true ∧ (permOps ops ord).toList.mapM (compD P (quiet2 quiet) (permOps ops ord)) = some l0 ∧ chk (permOps ops ord).toList l0 = true) := by
  cases c <;> simp only [comp] at h <;> first
    | (split at h
       · rename_i hd
         split at h <;> try (cases h; done)
         rename_i hi
         split at h
         · rename_i hk
           cases h
           simp only [Bool.and_eq_true] at hk
           exact ⟨_, _, by rw [hd], hk.2, .inl ⟨_, rfl, hi, hk.1⟩⟩
         · unfold compR at h
           split at h <;> try (cases h; done)
           split at h <;> try (cases h; done)
           rename_i hi2
           split at h
           · rename_i hk
             cases h
             simp only [Bool.and_eq_true] at hk
             exact ⟨_, _, by rw [hd], hk.2, .inr ⟨_, _, rfl, hk.1.1, hi2, hk.1.2⟩⟩
           · split at h <;> try (cases h; done)
             split at h <;> cases h
       · simp only [Option.map_eq_some_iff] at h; obtain ⟨_, _, h⟩ := h; cases h)
    | (cases h; done)
    | (split at h <;> first
        | (cases h; done)
        | (split at h <;> first | (cases h; done) | (split at h <;> first | (cases h; done) | (rcases compR_dops h with ⟨_, h⟩ | ⟨_, _, _, _, _, h⟩ <;> cases h; done))))
    | (simp only [Option.map_eq_some_iff] at h; obtain ⟨_, _, h⟩ := h; cases h)
theorem comp_gops {l : List IOp} {d : Nat} {T : TypeId} {z : SV} {lo : List IOp} (h : comp P quiet c = some (.gops l d T z lo)) : ∃ id ops ord ios, c = .region id ops true ∧ P.follows .mixedOrders = true ∧ permOk ops ord = true ∧
    (permOps ops ord).toList.mapM (compD P (quiet2 quiet) (permOps ops ord)) = some ios ∧ compGh P (quiet2 quiet) (permOps ops ord) = some (l, d, T, z, lo) := by
  cases c <;> simp only [comp] at h <;> first
    | (split at h
       · rename_i hd
         split at h <;> try (cases h; done)
         split at h
         · cases h
         · unfold compR at h
           split at h <;> try (cases h; done)
           split at h <;> try (cases h; done)
           rename_i hi2
           split at h
           · cases h
           · split at h <;> try (cases h; done)
             rename_i hg
             split at h <;> try (cases h; done)
             rename_i hk
             cases h
             simp only [Bool.and_eq_true] at hk
             exact ⟨_, _, _, _, by rw [hd], hk.2, hk.1, hi2, hg⟩
       · simp only [Option.map_eq_some_iff] at h; obtain ⟨_, _, h⟩ := h; cases h)
    | (cases h; done)
    | (split at h <;> first
        | (cases h; done)
        | (split at h <;> first | (cases h; done) | (split at h <;> first | (cases h; done) | (rcases compR_dops h with ⟨_, h⟩ | ⟨_, _, _, _, _, h⟩ <;> cases h; done))))
    | (simp only [Option.map_eq_some_iff] at h; obtain ⟨_, _, h⟩ := h; cases h)
theorem gops_go {Γ : FH} {n0 n d : Nat} {T : TypeId} {z : SV} {l lo : SL} {Q : Ex → Fr → List Res → Prop} {τ : Fr} {m : List Res} {σ : List SV} (hw : l.wf n = true) (hw2 : lo.wf n = true) (hd : d < n) (hr : Rep n σ τ)
    (h : JC.wp Γ n0 (.gops l d T z lo) Q τ m) : dsops Γ.hook (l.flat none) (fun σ' m' => sops Γ.hook (lo.flat none) (fun σ2 m2 => ∃ τ2, Rep n σ2 τ2 ∧ tidyF n0 m (Q .norm) τ2 m2) (σ'.set d (.ptr m'.length [] 0)) (m' ++ [.blk T z])) (σ.set d .junk) m :=
  wp_ok (dr := true) l (.put d .junk τ) (σ.set d .junk) m _ _ hw (hr.put hd (Le.refl _)) h fun σ' τ' m' hr' hq =>
    wp_ok (dr := false) lo (.put d (.ptr m'.length [] 0) τ') _ _ _ _ hw2 (hr'.put hd (Le.refl _)) hq fun σ2 τ2 m2 hr2 hq2 => ⟨τ2, hr2, hq2⟩
end inv
theorem EndsF.mono {n : Nat} {β : Base} {d : List Deferred} {Q Q' : Ex → Fr → List Res → Prop} {e : Exit} {a : Act} {w : World} (h : ∀ ex σ m, Q ex σ m → Q' ex σ m) (hh : EndsF n β d Q e a w) : EndsF n β d Q' e a w := by
  obtain ⟨ex, σ, m, ε, h1, h2, h3⟩ := hh
  exact ⟨ex, σ, m, ε, h1, h _ _ _ h2, h3⟩
theorem selI_range (n : Nat) : selI (List.range n) = ltI n := by
  funext i
  unfold selI ltI
  by_cases h : i < n
  · have hc : (List.range n).contains i = true := by simpa using h
    rw [if_pos hc, if_pos h]
    have hn : (List.range n).Nodup := List.nodup_range
    have := hn.idxOf_getElem i (by simpa using h)
    rw [List.getElem_range] at this
    rw [this]
  · have hc : ¬ (List.range n).contains i = true := by simpa using h
    rw [if_neg hc, if_neg h]
theorem trim_ok {n0 n k : Nat} {m M : List Res} {τ : Fr} {β : Base} {ε : Env} {a : Act} {w : World} (hI : Inv β ε m w) (hs : SlotsF n ε τ a) (hb : β.ε.n ≤ n0) (hk : n0 ≤ k) (hM : M.length = k) (hm : (m.take k).map (renR (ltI k)) = M) :
    ∃ ε', Inv β ε' M w ∧ SlotsF n ε' (renF (ltI k) τ) a := by
  obtain ⟨σ, h1, h2⟩ := hs
  have hlen : k ≤ m.length := by
    have := congrArg List.length hm
    rw [List.length_map, List.length_take, hM] at this
    omega
  have hsel : selM (List.range k) m = M := by
    rw [← hm]
    unfold selM
    rw [selI_range]
    apply List.ext_getElem?
    intro i
    rw [List.getElem?_map, List.getElem?_map, List.getElem?_take]
    by_cases hi : i < k
    · rw [if_pos hi, List.getElem?_range hi]
      have : m[i]? = some (m[i]'(by omega)) := List.getElem?_eq_getElem _
      rw [this]
      simp [memAt, List.getD, this]
    · rw [if_neg hi, List.getElem?_eq_none (by simpa using hi)]
      rfl
  refine ⟨selE (List.range k) ε, hsel ▸ hI.sel _ List.nodup_range (fun i hi => List.getElem?_range (by omega)), renL (selI (List.range k)) σ, ⟨by rw [renL_length]; exact h1.1, fun j => ?_⟩, h2.ren (sel_ren _ ε)⟩
  rw [look_renF, renL_getD, ← selI_range]
  rcases h1.2 j with e | ⟨e1, e2⟩
  · left; rw [e]; rfl
  · exact .inr ⟨e1, by rw [e2]⟩
theorem look_ofR {r : Nat → Option Nat} : ∀ {ks : List Nat} {xs : List SV} {τ τ' : Fr} (k : Nat), atR r ks xs τ' → Le (look k τ) (look k (renF r τ')) → Le (look k (ofF ks xs τ)) (look k (renF r τ'))
  | [], [], _, _, _, _, h => h
  | j :: ks, x :: xs, τ, τ', k, ha, h => by
    simp only [ofF, look]
    by_cases e : k = j
    · subst e; rw [if_pos rfl, look_renF]; exact .inr ha.1.symm
    · rw [if_neg e]; exact look_ofR k ha.2 h
  | [], _ :: _, _, _, _, ha, _ => ha.elim
  | _ :: _, [], _, _, _, ha, _ => ha.elim
theorem same_keepR {r : Nat → Option Nat} : ∀ {ks : List Nat} {τ τ' : Fr} (k : Nat), sameR r τ τ' ks → Le (look k (keepF ks τ)) (look k (renF r τ'))
  | [], _, _, _, _ => .inl rfl
  | j :: ks, τ, τ', k, h => by
    simp only [keepF, look]
    by_cases e : k = j
    · subst e; rw [if_pos rfl, look_renF]; exact .inr h.1.symm
    · rw [if_neg e]; exact same_keepR k h.2
theorem JC.sound {Γ : FH} (hΓ : FHOK P Γ) {quiet : FuncId → Bool} {n0 n : Nat} {β : Base} (hb : β.ε.n ≤ n0) {d : List Deferred} : ∀ (jc : JC) (c : Code), comp P quiet c = some jc.flat → jc.wf n = true → ∀ (Q : Ex → Fr → List Res → Prop) (τ : Fr) (m : List Res), jc.wp Γ n0 Q τ m →
    ∀ ε a w, Inv β ε m w → SlotsF n ε τ a → a.defers = d → c.wp P (EndsF n β d Q) a w
  | .skip, c, hc, hw, Q, τ, m, h, ε, a, w, hi, hs, hd => by
    obtain rfl := comp_skip hc
    exact wp_skip ⟨.norm, τ, m, ε, trivial, h, hi, hs, hd⟩
  | .ops l, c, hc, hw, Q, τ, m, h, ε, a, w, hi, hs, hd => by
    obtain ⟨id, ops, rfl, hl⟩ := comp_ops hc
    obtain ⟨σ, h1, h2⟩ := hs
    have k := wp_ok l τ σ m (Q .norm) (fun σ' m' => ∃ τ', Rep n σ' τ' ∧ Q .norm τ' m') hw h1 h (fun σ' τ' m' hr hq => ⟨τ', hr, hq⟩)
    exact wp_region_list (sops_sound hΓ.hook _ _ σ m _ hl k (fun σ' m' ε' a' w' ⟨τ', hr, hq⟩ hi' hs' hd' => ⟨.norm, τ', m', ε', trivial, hq, hi', ⟨σ', hr, hs'⟩, hd'⟩) ε a w hi h2 hd)
  | .dops l, c, hc, hw, Q, τ, m, h, ε, a, w, hi, hs, hd => by
    obtain ⟨id, ops, rfl, hf, hcase⟩ := comp_dops hc
    obtain ⟨σ, h1, h2⟩ := hs
    have k := wp_ok l τ σ m _ (fun σ' m' => ∃ τ', Rep n σ' τ' ∧ tidyF n0 m (Q .norm) τ' m') hw h1 h (fun σ' τ' m' hr hq => ⟨τ', hr, hq⟩)
    have k : dsops _ (l.flat none) _ σ m := k
    have fin : ∀ σ' m' ε' a' w', (∃ τ', Rep n σ' τ' ∧ tidyF n0 m (Q .norm) τ' m') → Inv β ε' m' w' → SlotsOK ε' σ' a' → a'.defers = d → EndsF n β d Q .normal a' w' := by
      rintro σ' m' ε' a' w' ⟨τ', hr, hq⟩ hi' hs' hd'
      obtain ⟨τ2, m2, ε2, k1, k2, k3⟩ := tidyF_ok hq hi' ⟨σ', hr, hs'⟩ hb
      exact ⟨.norm, τ2, m2, ε2, trivial, k1, k2, k3, hd'⟩
    rcases hcase with ⟨l0, hl0, hl, hk⟩ | ⟨ord, l0, hl0, hpo, hl, hk⟩
    · rw [hl0] at k
      exact dops_sound hΓ.hook hf hl hk k (β := β) (d := d) fin hi h2 hd
    · rw [hl0] at k
      exact dops_sound2 hΓ.hook hf hpo hl hk k (β := β) (d := d) fin hi h2 hd
  | .gops l x T z lo, c, hc, hw, Q, τ, m, h, ε, a, w, hi, hs, hd => by
    obtain ⟨id, ops, ord, ios, rfl, hf, hpo, hi2, hg⟩ := comp_gops hc
    obtain ⟨σ, h1, h2⟩ := hs
    simp only [JC.wf, Bool.and_eq_true, decide_eq_true_eq] at hw
    refine gops_sound2 hΓ.hook hf hpo hg (β := β) (d0 := d) (by rw [h1.1]; exact hw.2.2) (gops_go hw.1 hw.2.1 hw.2.2 h1 h) ?_ hi h2 hd
    rintro σ' m' ε' a' w' ⟨τ', hr, hq⟩ hi' hs' hd'
    obtain ⟨τ2, m2, ε2, k1, k2, k3⟩ := tidyF_ok hq hi' ⟨σ', hr, hs'⟩ hb
    exact ⟨.norm, τ2, m2, ε2, trivial, k1, k2, k3, hd'⟩
  | .seq x y, c, hc, hw, Q, τ, m, h, ε, a, w, hi, hs, hd => by
    obtain ⟨x', y', rfl, hx, hy⟩ := comp_seq hc
    simp only [JC.wf, Bool.and_eq_true] at hw
    simp only [JC.wp] at h
    refine wp_seq (Code.wp_mono (fun e a' w' he => ?_) (JC.sound hΓ hb x x' hx hw.1 _ τ m h ε a w hi hs hd))
    obtain ⟨ex, σ', m', ε', h1, h2, h3, h4, h5⟩ := he
    cases e <;> cases ex <;> simp only [ExRel] at h1
    · exact JC.sound hΓ hb y y' hy hw.2 Q σ' m' h2 ε' a' w' h3 h4 h5
    · exact ⟨_, σ', m', ε', by simp only [ExRel]; exact h1, h2, h3, h4, h5⟩
    · exact ⟨.ret, σ', m', ε', trivial, h2, h3, h4, h5⟩
  | .cond x y z, c, hc, hw, Q, τ, m, h, ε, a, w, hi, hs, hd => by
    obtain ⟨x', y', z', rfl, hx, hy, hz⟩ := comp_cond hc
    simp only [JC.wf, Bool.and_eq_true] at hw
    simp only [JC.wp] at h
    split at h
    · rename_i t ht
      obtain ⟨σ, h1, h2⟩ := hs
      have hv0 := compO_ok hx h2
      rw [le_eq (h1.fv x) ht (by intro h; cases h)] at hv0
      have hv := sat_bool hv0
      cases t with
      | true => exact wp_cond_true hv (JC.sound hΓ hb y y' hy hw.1 Q τ m (h.1 rfl) ε a w hi ⟨σ, h1, h2⟩ hd)
      | false => exact wp_cond_false hv (JC.sound hΓ hb z z' hz hw.2 Q τ m (h.2 rfl) ε a w hi ⟨σ, h1, h2⟩ hd)
    · rename_i ht
      obtain ⟨σ, h1, h2⟩ := hs
      have hv0 := compO_ok hx h2
      rw [le_eq (h1.fv x) ht (by intro h; cases h)] at hv0
      obtain ⟨cs, k1, hv⟩ := hv0
      simp only [SatC] at k1
      obtain ⟨t, rfl⟩ := k1
      cases t with
      | true => exact wp_cond_true hv (JC.sound hΓ hb y y' hy hw.1 Q τ m h.1 ε a w hi ⟨σ, h1, h2⟩ hd)
      | false => exact wp_cond_false hv (JC.sound hΓ hb z z' hz hw.2 Q τ m h.2 ε a w hi ⟨σ, h1, h2⟩ hd)
    · exact h.elim
  | .block id x, c, hc, hw, Q, τ, m, h, ε, a, w, hi, hs, hd => by
    obtain ⟨x', rfl, hx⟩ := comp_block hc
    simp only [JC.wp] at h
    refine wp_block (Code.wp_mono (fun e a' w' he => ?_) (JC.sound hΓ hb x x' hx hw _ τ m h ε a w hi hs hd))
    obtain ⟨ex, σ', m', ε', h1, h2, h3, h4, h5⟩ := he
    cases e <;> cases ex <;> simp only [ExRel] at h1
    · exact ⟨.norm, σ', m', ε', trivial, h2, h3, h4, h5⟩
    · subst h1
      simp only [Exit.inBlock]
      simp only at h2
      split
      · rename_i e1; rw [if_pos e1] at h2; exact ⟨.norm, σ', m', ε', trivial, h2, h3, h4, h5⟩
      · rename_i e1; rw [if_neg e1] at h2; exact ⟨.exit _, σ', m', ε', rfl, h2, h3, h4, h5⟩
    · exact ⟨.ret, σ', m', ε', trivial, h2, h3, h4, h5⟩
  | .loop keep mod x, c, hc, hw, Q, τ, m, h, ε, a, w, hi, hs, hd => by
    obtain ⟨x', rfl, hx⟩ := comp_loop hc
    simp only [JC.wf, Bool.and_eq_true] at hw
    simp only [JC.wp] at h
    obtain ⟨ι, U, M, ok, μ, i0, hok, hw0, hm0, hround⟩ := h
    have hs0 : SlotsF n ε (ofF mod (U i0) (keepF keep τ)) a := hs.weak fun k => look_of k hw0 (look_keep keep)
    refine wp_loop_ghost (fun n' a w => ∃ i ε, μ i = n' ∧ ok i ∧ Inv β ε (M i) w ∧ SlotsF n ε (ofF mod (U i) (keepF keep τ)) a ∧ a.defers = d) (μ i0) ⟨i0, ε, rfl, hok, hm0 ▸ hi, hs0, hd⟩ ?_
    rintro n' a w ⟨i, ε, rfl, hok', hi', hs', hd'⟩
    refine Code.wp_mono (fun e a' w' he => ?_) (JC.sound hΓ hb x x' hx hw.2 _ _ _ (hround i hok') ε a w hi' hs' hd')
    obtain ⟨ex, σ', m', ε', h1, h2, h3, h4, h5⟩ := he
    cases e <;> cases ex <;> simp only [ExRel] at h1
    · obtain ⟨j, hj1, hj2, hj0, hj3, hj4, hj5⟩ := h2
      obtain ⟨ε2, k1, k2⟩ := trim_ok h3 h4 hb hj0 rfl hj5
      exact ⟨μ j, hj2, j, ε2, rfl, hj1, k1, k2.weak fun k => look_ofR k hj3 (same_keepR k hj4), h5⟩
    · exact ⟨_, σ', m', ε', by simp only [ExRel]; exact h1, h2, h3, h4, h5⟩
    · exact ⟨.ret, σ', m', ε', trivial, h2, h3, h4, h5⟩
  | .exit id, c, hc, hw, Q, τ, m, h, ε, a, w, hi, hs, hd => by
    obtain rfl := comp_exit hc
    exact wp_exit ⟨.exit id, τ, m, ε, rfl, h, hi, hs, hd⟩
  | .ret, c, hc, hw, Q, τ, m, h, ε, a, w, hi, hs, hd => by
    obtain rfl := comp_ret hc
    exact wp_ret ⟨.ret, τ, m, ε, trivial, h, hi, hs, hd⟩
  | .prune ks x, c, hc, hw, Q, τ, m, h, ε, a, w, hi, hs, hd =>
    JC.sound hΓ hb x c hc hw Q _ m h ε a w hi (hs.weak fun k => look_keep ks) hd
  | .vecs k T wd' x, c, hc, hw, Q, τ, m, h, ε, a, w, hi, hs, hd => by
    simp only [JC.wf, Bool.and_eq_true, decide_eq_true_eq] at hw
    simp only [JC.wp] at h
    obtain ⟨ε', τ', m', h1, h2, h3⟩ := vecs_ok hi hs hw.1 h
    exact JC.sound hΓ hb x c hc hw.2 Q τ' m' h1 ε' a w h2 h3 hd
  | .sel ks x, c, hc, hw, Q, τ, m, h, ε, a, w, hi, hs, hd => by
    simp only [JC.wp] at h
    refine Code.wp_mono (fun e a' w' he => ?_) (JC.sound hΓ hb x c hc hw _ τ m h ε a w hi hs hd)
    obtain ⟨ex, τ', m', ε', h1, h2, h3, h4, h5⟩ := he
    cases ex with
    | norm =>
      obtain ⟨τ2, m2, ε2, k1, k2, k3⟩ := selF_ok h2 h3 h4 hb
      exact ⟨.norm, τ2, m2, ε2, h1, k1, k2, k3, h5⟩
    | exit i => exact ⟨.exit i, τ', m', ε', h1, h2, h3, h4, h5⟩
    | ret => exact ⟨.ret, τ', m', ε', h1, h2, h3, h4, h5⟩
  | .pfz k F x, c, hc, hw, Q, τ, m, h, ε, a, w, hi, hs, hd => by
    simp only [JC.wf, Bool.and_eq_true, decide_eq_true_eq] at hw
    simp only [JC.wp] at h
    refine Code.wp_mono (fun e a' w' he => ?_) (JC.sound hΓ hb x c hc hw.2 _ τ m h ε a w hi hs hd)
    obtain ⟨ex, τ', m', ε', h1, h2, h3, h4, h5⟩ := he
    cases ex with
    | norm =>
      obtain ⟨ε2, τ2, m2, k1, k2, k3⟩ := frzv_ok h3 h4 hw.1 h2
      exact ⟨.norm, τ2, m2, ε2, h1, k1, k2, k3, h5⟩
    | exit i => exact ⟨.exit i, τ', m', ε', h1, h2, h3, h4, h5⟩
    | ret => exact ⟨.ret, τ', m', ε', h1, h2, h3, h4, h5⟩
  | .frz k F x, c, hc, hw, Q, τ, m, h, ε, a, w, hi, hs, hd => by
    simp only [JC.wf, Bool.and_eq_true, decide_eq_true_eq] at hw
    obtain ⟨hP, h⟩ := h
    obtain ⟨ε', h2, h3⟩ := frz_ok hi hs hw.1 hP
    exact JC.sound hΓ hb x c hc hw.2 Q _ _ h ε' a w h2 h3 hd
  | .frzv k F x, c, hc, hw, Q, τ, m, h, ε, a, w, hi, hs, hd => by
    simp only [JC.wf, Bool.and_eq_true, decide_eq_true_eq] at hw
    simp only [JC.wp] at h
    obtain ⟨ε', τ', m', h1, h2, h3⟩ := frzv_ok hi hs hw.1 h
    exact JC.sound hΓ hb x c hc hw.2 Q τ' m' h1 ε' a w h2 h3 hd
  | .frzb k F x, c, hc, hw, Q, τ, m, h, ε, a, w, hi, hs, hd => by
    simp only [JC.wp] at h
    obtain ⟨ε', m', h1, h2, h3⟩ := frzb_ok hi hs h
    exact JC.sound hΓ hb x c hc hw Q τ m' h1 ε' a w h2 h3 hd
  | .orc s l, c, hc, hw, Q, τ, m, h, ε, a, w, hi, hs, hd => by
    obtain ⟨x', y', z', rfl, hx, hy, hz⟩ := comp_cond hc
    obtain rfl := comp_skip hy
    obtain ⟨id, ops, rfl, hl⟩ := comp_ops hz
    simp only [JC.wf, Bool.and_eq_true, decide_eq_true_eq] at hw
    simp only [JC.wp] at h
    split at h
    · rename_i b e
      obtain ⟨σ, h1, h2⟩ := hs
      have hb : σ.getD s .junk = .bool b := le_eq (h1.le s) e (by intro h; cases h)
      have hv0 := compO_ok hx h2
      simp only [Opd.ev] at hv0
      rw [hb] at hv0
      have hv := sat_bool hv0
      replace h := vc_use h
      generalize he : l.vg Γ m (.t s) τ = pq at h
      obtain ⟨p, q⟩ := pq
      obtain ⟨g1, g2⟩ : (b = (!true) → p) ∧ Q .norm (.put s (.bool (if true = true then b || q else b && q)) (junkF l.dsts τ)) m := h
      have back : ∀ {σ' : List SV}, OutL l.dsts σ σ' → σ'.getD s .junk = .bool (b || q) → Rep n σ' (.put s (.bool (if true = true then b || q else b && q)) (junkF l.dsts τ)) := by
        intro σ' ho e
        have := (h1.junk ho).put hw.1.1 (Le.refl (.bool (b || q)))
        rw [show σ'.set s (.bool (b || q)) = σ' from ?_] at this
        · exact this
        · apply List.ext_getElem?
          intro j
          rw [List.getElem?_set]
          split
          · rename_i e'; subst e'
            have hlt : s < σ'.length := by rw [ho.1, h1.1]; exact hw.1.1
            rw [if_pos hlt]
            rw [List.getD, List.getElem?_eq_getElem hlt] at e
            rw [List.getElem?_eq_getElem hlt]
            exact congrArg some e.symm
          · rfl
      cases b with
      | true =>
        refine wp_cond_true hv (wp_skip ⟨.norm, _, m, ε, trivial, g2, hi, ⟨σ, back (OutL.refl ..) (by rw [hb]; simp), h2⟩, hd⟩)
      | false =>
        have k := vgn_ok l (.t s) τ σ (fun σ' m' => m' = m ∧ OutL l.dsts σ σ' ∧ σ'.getD s .junk = .bool q) hw.1.2 hw.2 h1 (by rw [he]; exact g1 rfl) (fun σ' ho e => ⟨rfl, ho, by rw [he] at e; exact e⟩)
        refine wp_cond_false hv (wp_region_list (sops_sound hΓ.hook _ _ σ m _ hl k (fun σ' m' ε' a' w' ⟨hm, ho, e⟩ hi' hs' hd' => ?_) ε a w hi h2 hd))
        subst hm
        exact ⟨.norm, _, m', ε', trivial, g2, hi', ⟨σ', back ho (by rw [e]; simp), hs'⟩, hd'⟩
    · exact h.elim
end Go.Sx
/-! Sx, part 23: functions, loops and callees over frames; the words that 'simp only [go_sem]' takes. -/
set_option linter.unusedVariables false
set_option linter.unusedSimpArgs false
namespace Go.Sx
open Go
variable {P : Program}
/-! ### Where a body ends -/
def resF (P : Program) (τ : Fr) (m : List Res) (K : SV → Prop) : List ResultVar → Prop
  | [] => K (.tup [])
  | [.tmp t] => (look t τ).isVal = true ∧ K (look t τ)
  | [.cell t T] => match tsz P T with
    | some (n, ag) => peek m n ag K (look t τ)
    | none => False
  | l => go l fun xs => K (.tup xs)
where go : List ResultVar → (List SV → Prop) → Prop
  | [], K => K []
  | .tmp t :: r, K => (look t τ).isVal = true ∧ go r fun xs => K (look t τ :: xs)
  | .cell t T :: r, K => match tsz P T with
    | some (n, ag) => peek m n ag (fun x => x.isVal = true ∧ go r fun xs => K (x :: xs)) (look t τ)
    | none => False
theorem peek_val {m : List Res} {n : Nat} {ag : Bool} {K : SV → Prop} {x : SV} (h : peek m n ag K x) : x.isVal = true := by
  cases x <;> simp only [peek] at h <;> first | exact h.elim | rfl
theorem resF_go {n : Nat} {σ : List SV} {τ : Fr} {m : List Res} (hr : Rep n σ τ) : ∀ {rs : List ResultVar} {K : List SV → Prop}, resF.go P τ m rs K → resK.go P σ m rs K
  | [], _, h => h
  | .tmp t :: r, K, h => by
    have e := le_val (hr.le t) h.1
    simp only [resK.go]
    rw [e]
    exact ⟨h.1, resF_go hr h.2⟩
  | .cell t T :: r, K, h => by
    simp only [resF.go, resK.go] at h ⊢
    cases ht : tsz P T with
    | none => rw [ht] at h; exact h.elim
    | some p =>
      rw [ht] at h
      simp only at h ⊢
      rw [le_val (hr.le t) (peek_val h)]
      exact peek_mono (fun x hx => ⟨hx.1, resF_go hr hx.2⟩) h
theorem resF_ok {n : Nat} {σ : List SV} {τ : Fr} {m : List Res} (hr : Rep n σ τ) {K : SV → Prop} : ∀ {rs : List ResultVar}, resF P τ m K rs → resK P σ m K rs
  | [], h => h
  | [.tmp t], h => by
    simp only [resK]
    rw [le_val (hr.le t) h.1]; exact h.2
  | [.cell t T], h => by
    simp only [resF, resK] at h ⊢
    cases ht : tsz P T with
    | none => rw [ht] at h; exact h.elim
    | some p =>
      rw [ht] at h
      simp only at h ⊢
      rw [le_val (hr.le t) (peek_val h)]; exact h
  | .tmp t :: b :: l, h => by
    simp only [resF, resK] at h ⊢
    exact resF_go hr (rs := .tmp t :: b :: l) (K := fun xs => K (.tup xs)) h
  | .cell t T :: b :: l, h => by
    simp only [resF, resK] at h ⊢
    exact resF_go hr (rs := .cell t T :: b :: l) (K := fun xs => K (.tup xs)) h
def packJ (ks : List Nat) (res : SV) (m1 : List Res) (m : List Res) (x : SV) : Prop :=
  nd ks ∧ ren (selJ ks 0) x = res ∧ ks.map (fun k => renR (selJ ks 0) (memAt m k)) = m1
def newIds (n0 : Nat) : List Nat → List Nat
  | [] => []
  | i :: r => if i < n0 then newIds n0 r else i :: newIds n0 r
def endF (rs : List ResultVar) (P : Program) (n0 : Nat) (res : SV) (m1 : List Res) (e : Ex) (τ : Fr) (m : List Res) : Prop := match e with
  | .exit _ => False
  | _ => resF P τ m (fun x => packJ (upto n0 0 ++ newIds n0 (idsV x)) res m1 m x) rs
theorem packJ_ok {n0 : Nat} {l : List Nat} {res : SV} {m1 m : List Res} {x : SV} (h : packJ (upto n0 0 ++ l) res m1 m x) : ∃ ks, packK ks n0 res m1 m x := by
  obtain ⟨h1, h2, h3⟩ := h
  refine ⟨_, ⟨nd_ok h1, fun i hi => ?_⟩, by rw [selI_eq]; exact h2, by unfold selM; rw [selI_eq]; exact h3⟩
  rw [List.getElem?_append_left (by rw [upto_len]; exact hi), upto_at n0 0 i hi, Nat.zero_add]
theorem endF_ok {n : Nat} {σ : List SV} {τ : Fr} {m : List Res} (hr : Rep n σ τ) {rs : List ResultVar} {n0 : Nat} {res : SV} {m1 : List Res} {e : Ex} (h : endF rs P n0 res m1 e τ m) : endK rs P n0 res m1 e σ m := by
  cases e with
  | exit i => exact h
  | norm =>
    have h : resF P τ m (fun x => packJ (upto n0 0 ++ newIds n0 (idsV x)) res m1 m x) rs := h
    exact resK_mono (fun x hx => packJ_ok hx) (resF_ok hr h)
  | ret =>
    have h : resF P τ m (fun x => packJ (upto n0 0 ++ newIds n0 (idsV x)) res m1 m x) rs := h
    exact resK_mono (fun x hx => packJ_ok hx) (resF_ok hr h)
def argF : Nat → List SV → Fr
  | _, [] => .nil
  | k, x :: r => .put k x (argF (k + 1) r)
theorem argF_at : ∀ (args : List SV) (j k : Nat), look k (argF j args) = .junk ∨ (j ≤ k ∧ k < j + args.length ∧ look k (argF j args) = args.getD (k - j) .junk)
  | [], j, k => .inl rfl
  | x :: r, j, k => by
    simp only [argF, look]
    by_cases h : k = j
    · subst h; rw [if_pos rfl]; right; exact ⟨Nat.le_refl _, by simp, by simp⟩
    · rw [if_neg h]
      rcases argF_at r (j + 1) k with h1 | ⟨h1, h2, h3⟩
      · exact .inl h1
      · right
        refine ⟨by omega, by simp; omega, ?_⟩
        rw [h3]
        have : k - j = (k - (j + 1)) + 1 := by omega
        rw [this, List.getD_cons_succ]
theorem argF_rep (args : List SV) (nt : Nat) (h : args.length ≤ nt) : Rep nt (args ++ List.replicate (nt - args.length) .junk) (argF 0 args) := by
  refine ⟨by simp; omega, fun k => ?_⟩
  rcases argF_at args 0 k with h1 | ⟨_, h2, h3⟩
  · exact .inl h1
  · right
    refine ⟨by omega, ?_⟩
    rw [h3, Nat.sub_zero, List.getD, List.getD, List.getElem?_append_left (by omega)]
theorem fn_walkF {quiet : FuncId → Bool} {f : FuncId} {jc : JC} {rs : List ResultVar} {nt : Nat} (hfn : fnIs P quiet f = some (jc.flat, rs, nt)) (hwf : jc.wf nt = true) {Γ : FH} (hΓ : FHOK P Γ) {args : List SV} {m0 m1 : List Res} {res : SV} (hn' : Nat.ble args.length nt = true)
    (h : jc.wp Γ m0.length (endF rs P m0.length res m1) (argF 0 args) m0) : FnOK P f args m0 res m1 := by
  have hn : args.length ≤ nt := Nat.le_of_ble_eq_true hn'
  obtain ⟨_, fn, c, hf, hb, hc, hrs, hnt⟩ := fnIs_ok hfn
  intro ε w vs hg hs
  have hlen : args.length = vs.length := (slots_start hs 0).1 |> fun h => by simpa using h
  refine calls_of_wp hf hb ?_
  have hi := Inv.start hg
  have hsl := slots_start hs (nt - args.length)
  have e : fn.ntmps - vs.toArray.size = nt - args.length := by simp; omega
  rw [e]
  refine Code.wp_mono (fun e a w' he => ?_) (JC.sound hΓ (Nat.le_of_eq hg.n) (d := []) jc c hc hwf _ _ _ h ε _ w hi ⟨_, argF_rep args nt hn, hsl⟩ rfl)
  obtain ⟨ex, τ', m', ε', h1, h2, h3, ⟨σ', hr, h4⟩, h5⟩ := he
  replace h2 := endF_ok hr h2
  have fin : ∀ (hres : resK P σ' m' (fun x => ∃ ks, packK ks m0.length res m1 m' x) rs), a.defers = [] ∧ ∃ v, (results fn a.tmps).run P w' = .ok v w' ∧
      ∃ v' ε'', Ending.returned v = .returned v' ∧ SatV ε'' res v' ∧ Inv ⟨w, ε, fun b => ∃ i, ownR ε i (memAt m0 i) = some b⟩ ε'' m1 w' := by
    intro hres
    obtain ⟨x, ⟨ks, ⟨k1, k2⟩, k3, k4⟩, hrun⟩ := resK_sound hrs hres
    obtain ⟨v, e1, e2⟩ := hrun ε' a w' h3.good h4
    refine ⟨h5, v, e1, v, selE ks ε', rfl, ?_, ?_⟩
    · rw [← k3]; exact e2.ren (sel_ren ks ε')
    · rw [← k4]; exact h3.sel ks k1 (fun i hi => k2 i (by rw [← hg.n]; exact hi))
  cases e <;> cases ex <;> simp only [ExRel] at h1
  · exact fin h2
  · exact h2.elim
  · exact fin h2

@[reducible] def qo (d : Nat) (x : PIO) (r : SL) : SL := .op (some d) (.p x) r
@[reducible] def eo (d : Nat) (x : EIO) (r : SL) : SL := .op (some d) (.e x) r
@[reducible] def en (x : EIO) (r : SL) : SL := .op none (.e x) r
/-! ### Words -/
section words
variable {Γ : FH} {n0 : Nat} {Q : Ex → Fr → List Res → Prop} {τ : Fr} {m : List Res}
theorem jc_skip : JC.wp Γ n0 .skip Q τ m = Q .norm τ m := propext Iff.rfl
theorem jc_ops {l : SL} : JC.wp Γ n0 (.ops l) Q τ m = l.wp Γ false (Q .norm) τ m := propext Iff.rfl
theorem jc_dops {l : SL} : JC.wp Γ n0 (.dops l) Q τ m = l.wp Γ true (fun τ' m' => tidyF n0 m (Q .norm) τ' m') τ m := propext Iff.rfl
theorem jc_gops {l : SL} {d : Nat} {T : TypeId} {z : SV} {lo : SL} : JC.wp Γ n0 (.gops l d T z lo) Q τ m = l.wp Γ true (fun τ' m' => lo.wp Γ false (fun τ2 m2 => tidyF n0 m (Q .norm) τ2 m2) (.put d (.ptr m'.length [] 0) τ') (m' ++ [.blk T z])) (.put d .junk τ) m := propext Iff.rfl
theorem jc_seq {a b : JC} : JC.wp Γ n0 (.seq a b) Q τ m = a.wp Γ n0 (fun e τ' m' => match e with
    | .norm => b.wp Γ n0 Q τ' m'
    | e => Q e τ' m') τ m := propext Iff.rfl
theorem jc_cond {x : Opd} {a b : JC} : JC.wp Γ n0 (.cond x a b) Q τ m = (match x.fv τ with
    | .bool t => (t = true → a.wp Γ n0 Q τ m) ∧ (t = false → b.wp Γ n0 Q τ m)
    | .anyb => a.wp Γ n0 Q τ m ∧ b.wp Γ n0 Q τ m
    | _ => False) := propext Iff.rfl
theorem jc_block {id : Nat} {c : JC} : JC.wp Γ n0 (.block id c) Q τ m = c.wp Γ n0 (fun e τ' m' => match e with
    | .exit i => if i = id then Q .norm τ' m' else Q (.exit i) τ' m'
    | e => Q e τ' m') τ m := propext Iff.rfl
theorem jc_exit {id : Nat} : JC.wp Γ n0 (.exit id) Q τ m = Q (.exit id) τ m := propext Iff.rfl
theorem jc_ret : JC.wp Γ n0 .ret Q τ m = Q .ret τ m := propext Iff.rfl
theorem jc_prune {ks : List Nat} {c : JC} : JC.wp Γ n0 (.prune ks c) Q τ m = c.wp Γ n0 Q (keepF ks τ) m := propext Iff.rfl
theorem jc_vecs {k : Nat} {T : TypeId} {w : Nat} {c : JC} : JC.wp Γ n0 (.vecs k T w c) Q τ m = vecsF k T w (fun τ' m' => c.wp Γ n0 Q τ' m') τ m (look k τ) := propext Iff.rfl
theorem jc_sel {ks : List Nat} {c : JC} : JC.wp Γ n0 (.sel ks c) Q τ m = c.wp Γ n0 (fun e τ' m' => match e with
    | .norm => selF n0 ks (Q .norm) τ' m'
    | e => Q e τ' m') τ m := propext Iff.rfl
theorem jc_frz {k : Nat} {F : Frz} {c : JC} : JC.wp Γ n0 (.frz k F c) Q τ m = (F.P m (look k τ) ∧ c.wp Γ n0 Q (.put k (F.dec m (look k τ)) τ) (deads m)) := propext Iff.rfl
theorem jc_pfz {k : Nat} {F : Frz} {c : JC} : JC.wp Γ n0 (.pfz k F c) Q τ m = c.wp Γ n0 (fun e τ' m' => match e with
    | .norm => frzvF k F (Q .norm) τ' m'
    | e => Q e τ' m') τ m := propext Iff.rfl
theorem jc_frzv {k : Nat} {F : Frz} {c : JC} : JC.wp Γ n0 (.frzv k F c) Q τ m = frzvF k F (fun τ' m' => c.wp Γ n0 Q τ' m') τ m := propext Iff.rfl
theorem jc_frzb {k : Nat} {F : Frz} {c : JC} : JC.wp Γ n0 (.frzb k F c) Q τ m = frzbF k F (fun m' => c.wp Γ n0 Q τ m') τ m := propext Iff.rfl
theorem jc_orc {s : Nat} {l : SL} : JC.wp Γ n0 (.orc s l) Q τ m = (match look s τ with
    | .bool b => l.vc Γ m (.t s) τ (fun q g => (b = false → g) ∧ Q .norm (.put s (.bool (b || q)) (junkF l.dsts τ)) m) True
    | _ => False) := propext Iff.rfl
def JC.wpL (Γ : FH) (n0 : Nat) (keep mod : List Nat) (c : JC) (Q : Ex → Fr → List Res → Prop) (_ : Hide Γ c Q) (τ : Fr) (m : List Res) : Prop := JC.wp Γ n0 (.loop keep mod c) Q τ m
theorem jc_waits {keep mod : List Nat} {c : JC} : JC.wp Γ n0 (.loop keep mod c) Q τ m = JC.wpL Γ n0 keep mod c Q ⟨⟩ τ m := propext Iff.rfl
theorem ap_need {p x : Prop} : AP.need p x = (p ∧ x) := propext Iff.rfl
theorem ap_bad : AP.bad = False := propext Iff.rfl
theorem ap_spl {b : Bool} {x y : Prop} : AP.spl b x y = ((b = true → x) ∧ (b = false → y)) := propext Iff.rfl
end words
theorem loopF {Γ : FH} {n0 : Nat} {keep mod : List Nat} {c : JC} {Q : Ex → Fr → List Res → Prop} {τ : Fr} {m : List Res} (ι : Type) (U : ι → List SV) (M : ι → List Res) (ok : ι → Prop) (μ : ι → Nat) (i0 : ι)
    (h0 : ok i0) (hσ : atF mod (U i0) τ) (hm : M i0 = m)
    (h : ∀ i, ok i → c.wp Γ n0 (fun e τ' m' => match e with
        | .norm => ∃ j, ok j ∧ μ j < μ i ∧ n0 ≤ (M j).length ∧ atR (ltI (M j).length) mod (U j) τ' ∧ sameR (ltI (M j).length) τ τ' keep ∧ (m'.take (M j).length).map (renR (ltI (M j).length)) = M j
        | e => Q e τ' m') (ofF mod (U i) (keepF keep τ)) (M i)) {hd : Hide Γ c Q} : JC.wpL Γ n0 keep mod c Q hd τ m :=
  ⟨ι, U, M, ok, μ, i0, h0, hσ, hm, h⟩
theorem eta_unit {α : Type} (x : α × Unit) : (x.1, ()) = x := nr rfl
theorem eta_pair {α β : Type} (x : α × β) : (x.1, x.2) = x := nr rfl
end Go.Sx
