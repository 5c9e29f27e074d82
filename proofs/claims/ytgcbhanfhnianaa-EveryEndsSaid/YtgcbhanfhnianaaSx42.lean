import Derived.Test.YtgcbhanfhnianaaSx41
import Derived.Maps.RangeRun
/-! Sx, part 42: a range over a map. -/
set_option linter.unusedVariables false
set_option linter.unusedSimpArgs false
namespace Go.Sx
open Go
open Go.ChangeMaps (setBlock)
variable {P : Program}
inductive ZI : Type 1 where
  | leaf (x : IC)
  | seq (a b : ZI)
  | cond (x : Opd) (a b : ZI)
  | block (id : Nat) (c : ZI)
  | rmap (l1 : List IOp) (x : Opd) (it out nx more nxt pair : Nat) (l2 : List IOp) (b : IC)
inductive ZC : Type 1 where
  | leaf (x : JC)
  | seq (a b : ZC)
  | cond (x : Opd) (a b : ZC)
  | block (id : Nat) (c : ZC)
  | prune (ks : List Nat) (c : ZC)
  | rmap (l1 : SL) (x : Opd) (it out nx more nxt pair : Nat) (l2 : SL) (keep mod : List Nat) (b : JC)
  | arrv (k n : Nat) (E : TypeId) (w : Nat) (c : ZC)
  | frzs (l : List (Nat × Frz)) (c : ZC)
def ZC.flat : ZC → ZI
  | .leaf x => .leaf x.flat
  | .seq a b => .seq a.flat b.flat
  | .cond x a b => .cond x a.flat b.flat
  | .block id c => .block id c.flat
  | .prune _ c => c.flat
  | .arrv _ _ _ _ c => c.flat
  | .frzs _ c => c.flat
  | .rmap l1 x it out nx more nxt pair l2 _ _ b => .rmap (l1.flat none) x it out nx more nxt pair (l2.flat none) b.flat
def ZC.wf (n : Nat) : ZC → Bool
  | .leaf x => x.wf n
  | .seq a b | .cond _ a b => a.wf n && b.wf n
  | .block _ c => c.wf n
  | .prune _ c => c.wf n
  | .arrv _ _ _ _ c => c.wf n
  | .frzs l c => l.all (fun p => decide (p.1 < n)) && c.wf n
  | .rmap l1 _ it _ nx more _ pair l2 keep mod b => l1.wf n && l2.wf n && decide (it < n) && decide (nx < n) && decide (more < n) && decide (pair < n) && !decide (it = nx) && !decide (it = more) && !decide (it = pair) && (keep ++ mod).all (fun k => !decide (k = nx) && !decide (k = more) && !decide (k = pair) && !decide (k = it)) && b.wf n
def rgOps (P : Program) (ops : Array Oper) : Option (List IOp × Opd × Nat) := match ops.toList.getLast? with
  | some o => match o.op, o.dst, o.guard with
    | .range T x, some it, none => match P.underlying T, compO x, ops.toList.dropLast.mapM (compOp P ops) with
      | some (.map _ _), some x, some l => some (l, x, it)
      | _, _, _ => none
    | _, _, _ => none
  | none => none
def nxOps (ops : Array Oper) : Option (Nat × Nat × Nat) := match ops.toList with
  | [o1, o2] => match o1.op, o1.dst, o1.guard with
    | .next (.tmp it) false, some nx, none => match o2.op, o2.dst, o2.guard with
      | .extract (.tmp a) 0, some more, none => if a = nx then some (it, nx, more) else none
      | _, _, _ => none
    | _, _, _ => none
  | _ => none
def enOps (P : Program) (ops : Array Oper) : Option (Nat × Nat × List IOp) := match ops.toList with
  | o :: r => match o.op, o.dst, o.guard with
    | .entry (.tmp it), some pair, none => (r.mapM (compOp P ops)).map fun l => (it, pair, l)
    | _, _, _ => none
  | _ => none
def ZC.comp (P : Program) (quiet : FuncId → Bool) : ZC → Code → Option ZI
  | .leaf _, c => (Sx.comp P quiet c).map .leaf
  | .seq a b, c => match c with
    | .seq x y => match a.comp P quiet x, b.comp P quiet y with
      | some x, some y => some (.seq x y)
      | _, _ => none
    | _ => none
  | .cond _ a b, c => match c with
    | .cond x y z => match compO x, a.comp P quiet y, b.comp P quiet z with
      | some x, some y, some z => some (.cond x y z)
      | _, _, _ => none
    | _ => none
  | .block _ a, c => match c with
    | .block id c => (a.comp P quiet c).map (.block id)
    | _ => none
  | .prune _ a, c => a.comp P quiet c
  | .arrv _ _ _ _ a, c => a.comp P quiet c
  | .frzs _ a, c => a.comp P quiet c
  | .rmap _ _ _ _ _ _ _ _ _ _ _ b, c => match c with
    | .seq (.region _ ops1 false) (.block out (.loop (.seq (.region _ ops2 false) (.seq (.cond (.tmp more') .skip (.exit out')) (.block nxt (.seq (.region _ ops3 false) y)))))) => match rgOps P ops1, nxOps ops2, enOps P ops3, Sx.comp P quiet y with
      | some (l1, x, it), some (it1, nx, more), some (it2, pair, l2), some y => if it1 = it ∧ it2 = it ∧ more' = more ∧ out' = out then some (.rmap l1 x it out nx more nxt pair l2 y) else none
      | _, _, _, _ => none
    | _ => none
def roundZ {ι : Type} (it : Nat) (keep mod : List Nat) (U : ι → List SV) (M : ι → List Res) (ok : List Nat → ι → Prop) (ds : List Nat) (q : Nat) (s : ι) (iv : Value) (τ τ' : Fr) (m' : List Res) : Prop :=
  ∃ s', ok (ds ++ [q]) s' ∧ (M s).length ≤ (M s').length ∧ look it τ' = .raw iv ∧ atR (ltI (M s').length) mod (U s') τ' ∧ sameR (ltI (M s').length) τ τ' keep ∧ (m'.take (M s').length).map (renR (ltI (M s').length)) = M s'
def arrvF (k n : Nat) (E : TypeId) (w : Nat) (K : List Res → Prop) (τ : Fr) (m : List Res) : Prop := match look k τ with
  | .ptr i [] 0 => match memAt m i with
    | .blk T (.arr n' w' f) => (n' = n ∧ w' = 1 ∧ ∀ j, j < n → f j = .nils) ∧ K (m.set i (.blk T (.arr n 1 fun j => if j < n then .vec (m.length + j) 0 else .junk)) ++ List.replicate n (.vec E w []))
    | _ => False
  | _ => False
def frzP (m : List Res) (τ : Fr) : List (Nat × Frz) → Prop
  | [] => True
  | p :: r => p.2.P m (look p.1 τ) ∧ frzP m τ r
def frzD (m : List Res) (τ : Fr) : List (Nat × Frz) → Fr → Fr
  | [], τ' => τ'
  | p :: r, τ' => .put p.1 (p.2.dec m (look p.1 τ)) (frzD m τ r τ')
def ZC.wp (Γ : FH) (n0 : Nat) : ZC → (Ex → Fr → List Res → Prop) → Fr → List Res → Prop
  | .leaf x, Q, τ, m => x.wp Γ n0 Q τ m
  | .seq a b, Q, τ, m => a.wp Γ n0 (fun e τ' m' => match e with
    | .norm => b.wp Γ n0 Q τ' m'
    | e => Q e τ' m') τ m
  | .cond x a b, Q, τ, m => match x.fv τ with
    | .bool t => (t = true → a.wp Γ n0 Q τ m) ∧ (t = false → b.wp Γ n0 Q τ m)
    | .anyb => a.wp Γ n0 Q τ m ∧ b.wp Γ n0 Q τ m
    | _ => False
  | .block id c, Q, τ, m => c.wp Γ n0 (fun e τ' m' => match e with
    | .exit i => if i = id then Q .norm τ' m' else Q (.exit i) τ' m'
    | e => Q e τ' m') τ m
  | .prune ks c, Q, τ, m => c.wp Γ n0 Q (keepF ks τ) m
  | .arrv k n E w c, Q, τ, m => arrvF k n E w (fun m' => c.wp Γ n0 Q τ m') τ m
  | .frzs l c, Q, τ, m => frzP m τ l ∧ c.wp Γ n0 Q (frzD m τ l τ) (deads m)
  | .rmap l1 x it out nx more nxt pair l2 keep mod b, Q, τ, m => l1.wp Γ false (fun τ m => match x.fv τ with
    | .map i => match memAt m i with
      | .mp ek ev l => ∃ (ι : Type) (U : ι → List SV) (M : ι → List Res) (ok : List Nat → ι → Prop) (s0 : ι), ok [] s0 ∧ atF mod (U s0) τ ∧ M s0 = m.set i .dead ∧
        (∀ ds s q, ok ds s → ds.Nodup → (∀ d, d ∈ ds → d < l.length) → q < l.length → q ∉ ds → ∀ iv : Value,
          l2.wp Γ false (fun τ' m' => b.wp Γ (M s).length (fun e τ' m' => match e with
            | .norm => roundZ it keep mod U M ok ds q s iv τ τ' m'
            | .exit k => if k = nxt then roundZ it keep mod U M ok ds q s iv τ τ' m' else if k = out then Q .norm τ' m' else Q (.exit k) τ' m'
            | .ret => Q .ret τ' m') τ' m') (.put pair (.tup [(l.getD q (.junk, .junk)).1, (l.getD q (.junk, .junk)).2]) (.put it (.raw iv) (ofF mod (U s) (keepF keep τ)))) (M s)) ∧
        (∀ ds s, ok ds s → ds.Nodup → (∀ d, d ∈ ds → d < l.length) → (∀ q, q < l.length → q ∈ ds) → Q .norm (ofF mod (U s) (keepF keep τ)) (M s))
      | _ => False
    | _ => False) τ m
/-! ### It is right -/
theorem SlotsF.putV {n : Nat} {ε : Env} {τ : Fr} {a : Act} (h : SlotsF n ε τ a) {k : Nat} (hk : k < n) {sv : SV} {v : Value} (hv : SatV ε sv v) : SlotsF n ε (.put k sv τ) (a.put (some k) v) := by
  obtain ⟨σ, h1, h2⟩ := h
  exact ⟨σ.set k sv, h1.put hk (Le.refl _), SlotsOK.put h2 hv (some k)⟩
theorem Inv.dead1 {β : Base} {ε : Env} {m : List Res} {w : World} (h : Inv β ε m w) (i : Nat) : Inv β ε (m.set i .dead) w := by
  have hat : ∀ j, memAt (m.set i .dead) j = .dead ∨ memAt (m.set i .dead) j = memAt m j := by
    intro j
    unfold memAt
    rw [List.getD, List.getElem?_set]
    by_cases hj : i = j
    · subst hj
      left
      by_cases hi : i < m.length <;> simp [hi]
    · rw [if_neg hj]; exact .inr rfl
  have hown : ∀ j b, ownR ε j (memAt (m.set i .dead) j) = some b → ownR ε j (memAt m j) = some b := by
    intro j b hb
    rcases hat j with e | e
    · rw [e] at hb; cases hb
    · rwa [e] at hb
  refine ⟨⟨by simp [h.good.n], fun j => ?_, fun a b x hab h1 h2 => h.good.disj a b x hab (hown a x h1) (hown b x h2), fun a b hb => h.good.sep a b (hown a b hb), h.good.hv⟩, h.kept, fun a b hb => h.own a b (hown a b hb), h.n, h.blk, fun j hj hv => h.vv j hj ?_⟩
  · rcases hat j with e | e
    · rw [e]; trivial
    · rw [e]; exact h.good.res j
  · rcases hat j with e | e
    · rw [e] at hv; cases hv
    · rwa [e] at hv
section steps
variable {w : World} {ops : Array Oper} {rest : List Oper} {o : Oper} {a : Act} {Q : Exit → Act → World → Prop}
theorem wpList_rangeZ (hg : o.guard = none) {T k e : TypeId} {x : Operand} (hop : o.op = Op.range T x) (hT : P.underlying T = some (.map k e)) {mb : Nat} {es : Array MapEntry} {cl : Nat} (hm : a.eval x = .map (some mb)) (hb : w.heap[mb]? = some (.map es cl))
    (hK : wpList P ops Q rest (a.put o.dst (.pointer (some ⟨w.heap.size, 0, none⟩))) (w.alloc (.mapIter (some mb) cl #[] cl))) : wpList P ops Q (o :: rest) a w := by
  refine wpList_plain hg fun K' hK' => ?_
  unfold Oper.wp
  simp [execOp, hop, hm, run_range_map w T k e mb es cl hT hb, Result.andThen]
  exact hK' _ _ hK
theorem wpList_nextZ (hg : o.guard = none) {it : Operand} (hop : o.op = Op.next it false) {r mb since c0 : Nat} {seen : Array Nat} {es : Array MapEntry} {cl : Nat} (hit : a.eval it = .pointer (some ⟨r, 0, none⟩))
    (hr : w.heap[r]? = some (.mapIter (some mb) since seen c0)) (hb : w.heap[mb]? = some (.map es cl)) (hold : ∀ x ∈ es.toList, x.born < since) (hsc : since ≤ c0)
    (h0 : (leftOf es seen).size = 0 → wpList P ops Q rest (a.put o.dst (.tuple #[.bool false])) w)
    (h1 : ∀ e ∈ (leftOf es seen).toList, ∀ w1 : World, (w1 = w ∨ w1 = w.drew) → wpList P ops Q rest (a.put o.dst (.tuple #[.bool true, e.key, e.val])) (setBlock w1 r (.mapIter (some mb) since (seen.push e.born) cl))) : wpList P ops Q (o :: rest) a w := by
  refine wpList_plain hg fun K' hK' => ?_
  unfold Oper.wp
  rcases run_next_at (P := P) w o.type r mb since c0 seen es cl hr hb hold hsc with ⟨k1, k2⟩ | ⟨e, he, w1, hw, k2⟩
  · simp [execOp, hop, hit, k2, Result.andThen]
    exact hK' _ _ (h0 k1)
  · simp [execOp, hop, hit, k2, Result.andThen]
    exact hK' _ _ (h1 e he w1 hw)
theorem wpList_entryZ (hg : o.guard = none) {it : Operand} (hop : o.op = Op.entry it) {r : Nat} {e : MapEntry} (hit : a.eval it = .pointer (some ⟨r, 0, none⟩)) (hrun : (Instr.entry (.pointer (some ⟨r, 0, none⟩))).run P w = .ok (.tuple #[e.key, e.val]) w)
    (hK : wpList P ops Q rest (a.put o.dst (.tuple #[e.key, e.val])) w) : wpList P ops Q (o :: rest) a w := by
  refine wpList_plain hg fun K' hK' => ?_
  unfold Oper.wp
  simp [execOp, hop, hit, hrun, Result.andThen]
  exact hK' _ _ hK
theorem wpList_extZ (hg : o.guard = none) {x : Operand} {i : Nat} (hop : o.op = Op.extract x i) {vs : Array Value} {v : Value} (hx : a.eval x = .tuple vs) (hv : vs[i]? = some v) (hK : wpList P ops Q rest (a.put o.dst v) w) : wpList P ops Q (o :: rest) a w := by
  refine wpList_plain hg fun K' hK' => ?_
  unfold Oper.wp
  simp [execOp, hop, hx, Instr.extract, hv, Result.andThen]
  exact hK' _ _ hK
end steps
theorem rgOps_ok {ops : Array Oper} {l : List IOp} {x : Opd} {it : Nat} (h : rgOps P ops = some (l, x, it)) : ∃ pre o T k e x', ops.toList = pre ++ [o] ∧ o.op = .range T x' ∧ o.dst = some it ∧ o.guard = none ∧ P.underlying T = some (.map k e) ∧ compO x' = some x ∧ pre.mapM (compOp P ops) = some l := by
  unfold rgOps at h
  split at h <;> try (cases h; done)
  rename_i o ho
  split at h <;> try (cases h; done)
  rename_i T x' it' h1 h2 h3
  split at h <;> try (cases h; done)
  rename_i k e x2 l2 g1 g2 g3
  simp only [Option.some.injEq, Prod.mk.injEq] at h
  obtain ⟨rfl, rfl, rfl⟩ := h
  refine ⟨ops.toList.dropLast, o, T, _, _, x', ?_, h1, h2, h3, g1, g2, g3⟩
  obtain ⟨ys, e⟩ := List.getLast?_eq_some_iff.1 ho
  rw [e]; simp
theorem nxOps_ok {ops : Array Oper} {it nx more : Nat} (h : nxOps ops = some (it, nx, more)) : ∃ o1 o2, ops.toList = [o1, o2] ∧ o1.op = .next (.tmp it) false ∧ o1.dst = some nx ∧ o1.guard = none ∧ o2.op = .extract (.tmp nx) 0 ∧ o2.dst = some more ∧ o2.guard = none := by
  unfold nxOps at h
  split at h <;> try (cases h; done)
  rename_i o1 o2 ho
  split at h <;> try (cases h; done)
  rename_i it' nx' h1 h2 h3
  split at h <;> try (cases h; done)
  rename_i a' more' g1 g2 g3
  split at h <;> try (cases h; done)
  rename_i e
  simp only [Option.some.injEq, Prod.mk.injEq] at h
  obtain ⟨rfl, rfl, rfl⟩ := h
  subst e
  exact ⟨o1, o2, ho, h1, h2, h3, g1, g2, g3⟩
theorem enOps_ok {ops : Array Oper} {it pair : Nat} {l : List IOp} (h : enOps P ops = some (it, pair, l)) : ∃ o r, ops.toList = o :: r ∧ o.op = .entry (.tmp it) ∧ o.dst = some pair ∧ o.guard = none ∧ r.mapM (compOp P ops) = some l := by
  unfold enOps at h
  split at h <;> try (cases h; done)
  rename_i o r ho
  split at h <;> try (cases h; done)
  rename_i it' pair' h1 h2 h3
  simp only [Option.map_eq_some_iff] at h
  obtain ⟨l', hl, h⟩ := h
  simp only [Prod.mk.injEq] at h
  obtain ⟨rfl, rfl, rfl⟩ := h
  exact ⟨o, r, ho, h1, h2, h3, hl⟩
theorem wpList_append {ops : Array Oper} {Q : Exit → Act → World → Prop} {β : Base} {Γ : Hook} (hΓ : HookOK P Γ) {d : List Deferred} {r : List Oper} : ∀ (l : List Oper) (ios : List IOp) (σ : List SV) (m : List Res) (K : List SV → List Res → Prop),
    l.mapM (compOp P ops) = some ios → sops Γ ios K σ m → (∀ σ' m' ε' a' w', K σ' m' → Inv β ε' m' w' → SlotsOK ε' σ' a' → a'.defers = d → wpList P ops Q r a' w') →
    ∀ ε a w, Inv β ε m w → SlotsOK ε σ a → a.defers = d → wpList P ops Q (l ++ r) a w
  | [], ios, σ, m, K, hc, h, hK, ε, a, w, hi, hs, hd => by
    simp at hc; subst hc
    exact hK σ m ε a w h hi hs hd
  | o :: l, ios, σ, m, K, hc, h, hK, ε, a, w, hi, hs, hd => by
    simp only [List.mapM_cons, bind, Option.pure_def] at hc
    obtain ⟨io, ho, hc⟩ := bind_some hc
    obtain ⟨ios', hc', hc⟩ := bind_some hc
    simp only [Option.some.injEq] at hc
    subst hc
    simp only [compOp] at ho
    split at ho <;> try (cases ho; done)
    rename_i g x hg hx
    simp only [Option.some.injEq] at ho; subst ho
    simp only [sops] at h
    have go : ∀ σ1, SlotsOK ε σ1 a → opK Γ σ1 m (fun σ' sv m' => sops Γ ios' K (putS o.dst sv σ') m') x → o.wp P a w (wpList P ops Q (l ++ r)) Q := by
      intro σ1 hs1 h1
      obtain ⟨σ', sv, m', h2, hE⟩ := opK_sound hΓ hx h1
      refine Oper.wp_mono ?_ (hE β ε a w hi hs1 Q)
      rintro a' w' ⟨v, ε', rfl, hv, hs', hi'⟩
      exact wpList_append hΓ l ios' _ _ K hc' h2 hK ε' _ w' hi' (hs'.put hv o.dst) (by rw [put_defers]; exact hd)
    rw [List.cons_append]
    cases g with
    | none =>
      have hgn : o.guard = none := by
        cases hog : o.guard with
        | none => rfl
        | some g => rw [hog] at hg; simp only [compG] at hg; split at hg <;> cases hg
      refine wpList_step fun K' hK' => ?_
      rw [if_pos (by simp [Region.wanted, hgn])]
      exact Oper.wp_mono (fun a w h => hK' a w h) (go σ hs h)
    | some g =>
      obtain ⟨s, want⟩ := g
      simp only [guardK] at h
      split at h
      · rename_i b hb
        have hw := wanted_ok hs hg hb
        refine wpList_step fun K' hK' => ?_
        rw [hw]
        by_cases hbw : b = want
        · subst hbw
          rw [if_pos (by simp)]
          exact Oper.wp_mono (fun a w h => hK' a w h) (go _ (hs.known hb) (h.1 rfl))
        · have hbn : b = !want := by cases b <;> cases want <;> first | rfl | exact absurd rfl hbw
          rw [if_neg (by simpa using hbw)]
          subst hbn
          have hs2 := hs.known hb
          exact hK' _ _ (wpList_append hΓ l ios' _ _ K hc' (h.2 rfl) hK ε _ w hi (SlotsOK.put (sv := .tup []) (v := undef) hs2 sat_undef o.dst) (by rw [put_defers]; exact hd))
      · rename_i hb
        have hw := wanted_undef hs hg hb
        refine wpList_step fun K' hK' => ?_
        rw [hw]
        rw [if_neg (by simp)]
        exact hK' _ _ (wpList_append hΓ l ios' _ _ K hc' h hK ε _ w hi (SlotsOK.put (sv := .tup []) (v := undef) hs sat_undef o.dst) (by rw [put_defers]; exact hd))
      · exact h.elim
theorem setBlock_at {w : World} {r : Nat} {o : Obj} : (setBlock w r o).os = w.os ∧ (setBlock w r o).tape = w.tape ∧ (setBlock w r o).output = w.output ∧ (setBlock w r o).heap.size = w.heap.size ∧ (∀ b, b ≠ r → (setBlock w r o).heap[b]? = w.heap[b]?) ∧ (r < w.heap.size → (setBlock w r o).heap[r]? = some o) := by
  refine ⟨rfl, rfl, rfl, by simp [setBlock], fun b hb => by simp [setBlock, Array.getElem?_setIfInBounds, Ne.symm hb], fun h => by simp [setBlock, h]⟩
theorem left_mem {es : Array MapEntry} {seen : Array Nat} {ds : List Nat} (hn : (es.toList.map (·.born)).Nodup) (hs : seen.toList = ds.map fun j => (es.toList.map (·.born)).getD j 0) (hd : ∀ d, d ∈ ds → d < es.size) {e : MapEntry} :
    e ∈ (leftOf es seen).toList ↔ ∃ q, q < es.size ∧ q ∉ ds ∧ es.toList[q]? = some e := by
  unfold leftOf
  rw [Array.toList_filter, List.mem_filter]
  have hsn : ∀ b, seen.contains b = true ↔ b ∈ seen.toList := fun b => by simp
  have hat : ∀ {q : Nat} {e : MapEntry}, es.toList[q]? = some e → (es.toList.map (·.born)).getD q 0 = e.born := fun {q e} h => by simp [List.getD, h]
  constructor
  · rintro ⟨h1, h2⟩
    obtain ⟨q, hq, rfl⟩ := List.mem_iff_getElem.1 h1
    refine ⟨q, by simpa using hq, fun hqd => ?_, List.getElem?_eq_getElem hq⟩
    have : seen.contains (es.toList[q]).born = true := by
      rw [hsn, hs]
      exact List.mem_map.2 ⟨q, hqd, hat (List.getElem?_eq_getElem hq)⟩
    simp only [this, Bool.not_true, Bool.false_eq_true] at h2
  · rintro ⟨q, h1, h2, h3⟩
    refine ⟨List.mem_of_getElem? h3, ?_⟩
    cases hc : seen.contains e.born with
    | false => rfl
    | true =>
      rw [hsn, hs] at hc
      obtain ⟨j, hj, e1⟩ := List.mem_map.1 hc
      have hjl := hd j hj
      have hjl' : j < (es.toList.map (·.born)).length := by simpa using hjl
      have hql' : q < (es.toList.map (·.born)).length := by simpa using h1
      have e2 : (es.toList.map (·.born))[j] = (es.toList.map (·.born))[q] := by
        have a1 : (es.toList.map (·.born)).getD j 0 = (es.toList.map (·.born))[j] := by simp only [List.getD, List.getElem?_eq_getElem hjl', Option.getD_some]
        have a2 : (es.toList.map (·.born)).getD q 0 = (es.toList.map (·.born))[q] := by simp only [List.getD, List.getElem?_eq_getElem hql', Option.getD_some]
        rw [← a1, ← a2, e1, hat h3]
      have := (List.getElem_inj hn).1 e2
      subst this
      exact absurd hj h2
theorem ents_at {ek ev : ES} {l : List (SV × SV)} {es : List MapEntry} (h : EntsOK ek ev l es) {q : Nat} {e : MapEntry} (he : es[q]? = some e) : q < l.length ∧ EntOK ek ev (l.getD q (.junk, .junk)) e := by
  have hlen := h.len
  have hq : q < es.length := (List.getElem?_eq_some_iff.1 he).1
  have hl : q < l.length := by omega
  obtain ⟨e', h1, h2⟩ := h.at (List.getElem?_eq_getElem hl)
  rw [he] at h1
  cases h1
  refine ⟨hl, ?_⟩
  rw [show l.getD q (.junk, .junk) = l[q] by simp [List.getD, hl]]
  exact h2
theorem ZC.comp_seq {quiet : FuncId → Bool} {a b : ZC} {c : Code} {z : ZI} (h : (ZC.seq a b).comp P quiet c = some z) : ∃ x y x' y', c = .seq x y ∧ a.comp P quiet x = some x' ∧ b.comp P quiet y = some y' ∧ z = .seq x' y' := by
  cases c <;> simp only [ZC.comp] at h <;> try (cases h; done)
  split at h <;> try (cases h; done)
  rename_i h1 h2
  cases h
  exact ⟨_, _, _, _, rfl, h1, h2, rfl⟩
theorem ZC.comp_cond {quiet : FuncId → Bool} {x0 : Opd} {a b : ZC} {c : Code} {z : ZI} (h : (ZC.cond x0 a b).comp P quiet c = some z) : ∃ x y w x' y' w', c = .cond x y w ∧ compO x = some x' ∧ a.comp P quiet y = some y' ∧ b.comp P quiet w = some w' ∧ z = .cond x' y' w' := by
  cases c <;> simp only [ZC.comp] at h <;> try (cases h; done)
  split at h <;> try (cases h; done)
  rename_i h1 h2 h3
  cases h
  exact ⟨_, _, _, _, _, _, rfl, h1, h2, h3, rfl⟩
theorem ZC.comp_block {quiet : FuncId → Bool} {id0 : Nat} {a : ZC} {c : Code} {z : ZI} (h : (ZC.block id0 a).comp P quiet c = some z) : ∃ id x x', c = .block id x ∧ a.comp P quiet x = some x' ∧ z = .block id x' := by
  cases c <;> simp only [ZC.comp] at h <;> try (cases h; done)
  simp only [Option.map_eq_some_iff] at h
  obtain ⟨x', h1, rfl⟩ := h
  exact ⟨_, _, _, rfl, h1, rfl⟩
theorem ZC.comp_rmap {quiet : FuncId → Bool} {l10 : SL} {x0 : Opd} {it0 out0 nx0 more0 nxt0 pair0 : Nat} {l20 : SL} {keep mod : List Nat} {b : JC} {c : Code} {z : ZI} (h : (ZC.rmap l10 x0 it0 out0 nx0 more0 nxt0 pair0 l20 keep mod b).comp P quiet c = some z) :
    ∃ i1 i2 i3 ops1 ops2 ops3 out nxt y l1 x it nx more pair l2 y', c = .seq (.region i1 ops1 false) (.block out (.loop (.seq (.region i2 ops2 false) (.seq (.cond (.tmp more) .skip (.exit out)) (.block nxt (.seq (.region i3 ops3 false) y)))))) ∧
      rgOps P ops1 = some (l1, x, it) ∧ nxOps ops2 = some (it, nx, more) ∧ enOps P ops3 = some (it, pair, l2) ∧ Sx.comp P quiet y = some y' ∧ z = .rmap l1 x it out nx more nxt pair l2 y' := by
  unfold ZC.comp at h
  split at h <;> try (cases h; done)
  split at h <;> try (cases h; done)
  rename_i h1 h2 h3 h4
  split at h <;> try (cases h; done)
  rename_i hc
  obtain ⟨rfl, rfl, rfl, rfl⟩ := hc
  cases h
  exact ⟨_, _, _, _, _, _, _, _, _, _, _, _, _, _, _, _, _, rfl, h1, h2, h3, h4, rfl⟩
structure Iter (β : Base) (ε : Env) (m : List Res) (w : World) (r mb cl : Nat) (es : Array MapEntry) (ds : List Nat) : Prop where
  it : ∃ seen c0, w.heap[r]? = some (.mapIter (some mb) cl seen c0) ∧ cl ≤ c0 ∧ seen.toList = ds.map fun j => (es.toList.map (·.born)).getD j 0
  map : w.heap[mb]? = some (.map es cl)
  r0 : β.w.heap.size ≤ r
  rc : Clear ⟨w, ε, ownB ε m⟩ r
  mc : Clear ⟨w, ε, ownB ε m⟩ mb
  ne : r ≠ mb
theorem look_not : ∀ {ks : List Nat} {xs : List SV} {τ : Fr} {k : Nat}, k ∉ ks → look k (ofF ks xs τ) = look k τ ∨ look k (ofF ks xs τ) = .junk
  | [], [], τ, k, _ => .inl rfl
  | [], _ :: _, τ, k, _ => by simp [ofF]
  | j :: ks, [], τ, k, _ => by simp [ofF]
  | j :: ks, x :: xs, τ, k, h => by
    simp only [ofF, look]
    rw [if_neg (fun e => h (by rw [e]; exact List.mem_cons_self ..))]
    exact look_not (fun e => h (List.mem_cons_of_mem _ e))
theorem look_keep_not : ∀ {ks : List Nat} {τ : Fr} {k : Nat}, k ∉ ks → look k (keepF ks τ) = .junk
  | [], τ, k, _ => rfl
  | j :: ks, τ, k, h => by
    simp only [keepF, look]
    rw [if_neg (fun e => h (by rw [e]; exact List.mem_cons_self ..))]
    exact look_keep_not (fun e => h (List.mem_cons_of_mem _ e))
theorem SlotsF.other {n : Nat} {ε : Env} {τ : Fr} {a : Act} (h : SlotsF n ε τ a) {k : Nat} (hk : look k τ = .junk) (v : Value) : SlotsF n ε τ (a.put (some k) v) := by
  obtain ⟨σ, h1, h2⟩ := h
  refine ⟨σ.set k .junk, ⟨by simp [h1.1], fun j => ?_⟩, SlotsOK.put (sv := .junk) (v := v) h2 trivial (some k)⟩
  by_cases e : j = k
  · subst e; exact .inl hk
  · rw [getD_set_ne e]; exact h1.2 j
def leftN (n : Nat) (ds : List Nat) : Nat := ((List.range n).filter fun i => !ds.contains i).length
theorem left_less {n q : Nat} {ds : List Nat} (hq : q < n) (hd : q ∉ ds) : leftN n (ds ++ [q]) < leftN n ds := by
  unfold leftN
  have e : (List.range n).filter (fun i => !(ds ++ [q]).contains i) = ((List.range n).filter fun i => !ds.contains i).filter fun i => !decide (i = q) := by
    rw [List.filter_filter]
    congr 1
    funext i
    by_cases h1 : i ∈ ds <;> by_cases h2 : i = q <;> simp [h1, h2]
  rw [e, List.length_filter_lt_length_iff_exists]
  exact ⟨q, by simp [hq, hd], by simp⟩
theorem rmap_rounds {Γ : FH} (hΓ : FHOK P Γ) {quiet : FuncId → Bool} {n : Nat} {β : Base} (hb : β.ε.n = 0) {d : List Deferred} {ops2 ops3 : Array Oper} {i2 i3 out nxt it nx more pair : Nat} {y : Code} {l2 : SL} {b : JC} {keep mod : List Nat} {ek ev : ES} {l : List (SV × SV)}
    (hn2 : nxOps ops2 = some (it, nx, more)) (hn3 : enOps P ops3 = some (it, pair, l2.flat none)) (hy : Sx.comp P quiet y = some b.flat) (hw2 : l2.wf n = true) (hwb : b.wf n = true) (hit : it < n) (hnx : nx < n) (hmo : more < n) (hpa : pair < n) (hne : it ≠ nx ∧ it ≠ more ∧ it ≠ pair)
    {Q : Ex → Fr → List Res → Prop} {τ : Fr} {ι : Type} {U : ι → List SV} {M : ι → List Res} {ok : List Nat → ι → Prop}
    (hround : ∀ ds s q, ok ds s → ds.Nodup → (∀ d, d ∈ ds → d < l.length) → q < l.length → q ∉ ds → ∀ iv : Value,
          l2.wp Γ false (fun τ' m' => b.wp Γ (M s).length (fun e τ' m' => match e with
            | .norm => roundZ it keep mod U M ok ds q s iv τ τ' m'
            | .exit k => if k = nxt then roundZ it keep mod U M ok ds q s iv τ τ' m' else if k = out then Q .norm τ' m' else Q (.exit k) τ' m'
            | .ret => Q .ret τ' m') τ' m') (.put pair (.tup [(l.getD q (.junk, .junk)).1, (l.getD q (.junk, .junk)).2]) (.put it (.raw iv) (ofF mod (U s) (keepF keep τ)))) (M s))
    (hend : ∀ ds s, ok ds s → ds.Nodup → (∀ d, d ∈ ds → d < l.length) → (∀ q, q < l.length → q ∈ ds) → Q .norm (ofF mod (U s) (keepF keep τ)) (M s))
    (hkm : ∀ k, k ∈ keep ++ mod → k ≠ nx ∧ k ≠ more ∧ k ≠ pair ∧ k ≠ it)
    {r mb cl : Nat} {es : Array MapEntry} (hE : EntsOK ek ev l es.toList) (hS : Stamps es.toList cl)
    {s0 : ι} (hok0 : ok [] s0) {ε : Env} {a : Act} {w : World} (hi : Inv β ε (M s0) w) (hI : Iter β ε (M s0) w r mb cl es []) (hs : SlotsF n ε (.put it (.raw (.pointer (some ⟨r, 0, none⟩))) (ofF mod (U s0) (keepF keep τ))) a) (hd : a.defers = d) :
    (Code.block out (.loop (.seq (.region i2 ops2 false) (.seq (.cond (.tmp more) .skip (.exit out)) (.block nxt (.seq (.region i3 ops3 false) y)))))).wp P (EndsF n β d Q) a w := by
  obtain ⟨o1, o2, ho2, p1, p2, p3, p4, p5, p6⟩ := nxOps_ok hn2
  obtain ⟨o3, r3, ho3, q1, q2, q3, q4⟩ := enOps_ok hn3
  have hlen := hE.len
  obtain ⟨iv, hiv⟩ : ∃ iv : Value, iv = .pointer (some ⟨r, 0, none⟩) := ⟨_, rfl⟩
  rw [← hiv] at hs
  have hemp : ∀ d, d ∈ ([] : List Nat) → d < l.length := fun _ h => by cases h
  refine wp_block (wp_loop_ghost (fun k a w => ∃ ds s ε, leftN l.length ds = k ∧ ok ds s ∧ ds.Nodup ∧ (∀ d, d ∈ ds → d < l.length) ∧ Inv β ε (M s) w ∧ Iter β ε (M s) w r mb cl es ds ∧ SlotsF n ε (.put it (.raw iv) (ofF mod (U s) (keepF keep τ))) a ∧ a.defers = d) (leftN l.length [])
    ⟨[], s0, ε, rfl, hok0, List.nodup_nil, hemp, hi, hI, hs, hd⟩ ?_)
  rintro k a w ⟨ds, s, ε, rfl, hok, hnd, hlt, hi, hI, hs, hd⟩
  obtain ⟨seen, c0, e1, e2, e3⟩ := hI.it
  have hitv : a.eval (.tmp it) = .pointer (some ⟨r, 0, none⟩) := by
    have := hs.sat it
    simp only [look, if_true] at this
    obtain ⟨cs, c1, c2⟩ := this
    simp only [SatC] at c1
    obtain ⟨_, rfl⟩ := c1
    rw [← hiv]; exact c2
  have jk : ∀ k, k = nx ∨ k = more ∨ k = pair → look k (Fr.put it (.raw iv) (ofF mod (U s) (keepF keep τ))) = .junk := fun k hk => by
    have hki : k ≠ it := by rintro rfl; rcases hk with h | h | h <;> simp_all
    have hnk : k ∉ keep := fun h => by have := hkm k (List.mem_append_left _ h); rcases hk with h | h | h <;> simp_all
    have hnm : k ∉ mod := fun h => by have := hkm k (List.mem_append_right _ h); rcases hk with h | h | h <;> simp_all
    simp only [look]
    rw [if_neg hki]
    rcases look_not (xs := U s) (τ := keepF keep τ) hnm with h | h
    · rw [h, look_keep_not hnk]
    · exact h
  have hnxs : nx < a.tmps.size := by rw [hs.size]; exact hnx
  have hmos : more < a.tmps.size := by rw [hs.size]; exact hmo
  have put_at : ∀ (a : Act) (k : Nat) (v : Value), k < a.tmps.size → (a.put (some k) v).eval (.tmp k) = v := fun a k v h => by
    simp [Act.put, Act.eval, h]
  have put_size : ∀ (a : Act) (k : Nat) (v : Value), (a.put (some k) v).tmps.size = a.tmps.size := fun a k v => by simp [Act.put]
  refine wp_seq (wp_region_list ?_)
  rw [ho2]
  refine wpList_nextZ p3 p1 hitv e1 hI.map (fun x hx => hS.2 x hx) e2 (fun h0 => ?_) (fun e he w1 hw1 => ?_)
  · rw [p2]
    refine wpList_extZ p6 p4 (put_at _ _ _ hnxs) (v := .bool false) rfl (wpList_nil ?_)
    rw [p5]
    have hmv := put_at (a.put (some nx) (.tuple #[.bool false])) more (.bool false) (by rw [put_size]; exact hmos)
    refine wp_seq (wp_cond_false hmv (wp_exit ?_))
    show Exit.inBlock out (EndsF n β d Q) (.exit out) _ _
    simp only [Exit.inBlock, if_true]
    have hall : ∀ q, q < l.length → q ∈ ds := fun q hq => by
      apply Classical.byContradiction
      intro hn
      have hqe : q < es.toList.length := by omega
      have hm : es.toList[q] ∈ (leftOf es seen).toList := (left_mem hS.1 e3 (fun d hd => by have := hlt d hd; simp only [Array.length_toList] at hlen; omega)).2 ⟨q, by simpa using hqe, hn, List.getElem?_eq_getElem hqe⟩
      have := List.length_pos_of_mem hm
      simp only [Array.length_toList] at this
      omega
    refine ⟨.norm, _, _, ε, trivial, hend ds s hok hnd hlt hall, hi, ?_, by rw [put_defers, put_defers]; exact hd⟩
    refine SlotsF.weak ((hs.other (jk nx (.inl rfl)) _).other (jk more (.inr (.inl rfl))) _) fun k => ?_
    simp only [look]
    by_cases hk : k = it
    · subst hk
      rw [if_pos rfl]
      left
      rcases look_not (xs := U s) (τ := keepF keep τ) (fun h => (hkm _ (List.mem_append_right _ h)).2.2.2 rfl) with h | h
      · rw [h, look_keep_not (fun h => (hkm _ (List.mem_append_left _ h)).2.2.2 rfl)]
      · exact h
    · rw [if_neg hk]; exact .inr rfl
  · rw [p2]
    refine wpList_extZ p6 p4 (put_at _ _ _ hnxs) (v := .bool true) rfl (wpList_nil ?_)
    rw [p5]
    have hmv := put_at (a.put (some nx) (.tuple #[.bool true, e.key, e.val])) more (.bool true) (by rw [put_size]; exact hmos)
    refine wp_seq (wp_cond_true hmv (wp_skip ?_))
    refine wp_block (wp_seq (wp_region_list ?_))
    rw [ho3]
    -- the world behind the step
    obtain ⟨q, hqs, hqd, hqe⟩ := (left_mem hS.1 e3 (fun d hd => by have := hlt d hd; simp only [Array.length_toList] at hlen; omega)).1 he
    have hql : q < l.length := by simp only [Array.length_toList] at hlen; omega
    obtain ⟨w2, hw2e⟩ : ∃ w2, w2 = setBlock w1 r (.mapIter (some mb) cl (seen.push e.born) cl) := ⟨_, rfl⟩
    have hw1e : w1.os = w.os ∧ w1.tape = w.tape ∧ w1.output = w.output ∧ w1.heap = w.heap := by rcases hw1 with rfl | rfl <;> exact ⟨rfl, rfl, rfl, rfl⟩
    have hw1d : w.drawn ≤ w1.drawn := by rcases hw1 with rfl | rfl <;> first | exact Nat.le_refl _ | exact Nat.le_succ _
    obtain ⟨z1, z2, z3, z4, z5, z6⟩ := @setBlock_at w1 r (.mapIter (some mb) cl (seen.push e.born) cl)
    rw [← hw2e] at z1 z2 z3 z4 z5 z6 ⊢
    rw [hw1e.2.2.2] at z4 z5 z6
    have hrlt := hI.rc.lt
    have hwr : w2.heap[r]? = some (.mapIter (some mb) cl (seen.push e.born) cl) := z6 hrlt
    have hwm : w2.heap[mb]? = some (.map es cl) := (z5 mb (Ne.symm hI.ne)).trans hI.map
    have hi2 : Inv β ε (M s) w2 := hi.world (z1.trans hw1e.1) (z2.trans hw1e.2.1) (z3.trans hw1e.2.2.1) (by omega) (by rw [hw2e]; exact hw1d) fun b hb => by
      by_cases hbr : b = r
      · subst hbr; exact .inr ⟨hI.r0, fun i h => hI.rc.B ⟨i, h⟩, hI.rc.H⟩
      · exact .inl (z5 b hbr)
    have hs2 : SlotsF n ε (.put it (.raw iv) (ofF mod (U s) (keepF keep τ))) ((a.put (some nx) (.tuple #[.bool true, e.key, e.val])).put (some more) (.bool true)) := (hs.other (jk nx (.inl rfl)) _).other (jk more (.inr (.inl rfl))) _
    have hit2 : ((a.put (some nx) (.tuple #[.bool true, e.key, e.val])).put (some more) (.bool true)).eval (.tmp it) = .pointer (some ⟨r, 0, none⟩) := by
      have := hs2.sat it
      simp only [look, if_true] at this
      obtain ⟨cs, c1, c2⟩ := this
      simp only [SatC] at c1
      obtain ⟨_, rfl⟩ := c1
      rw [← hiv]; exact c2
    refine wpList_entryZ q3 q1 hit2 (run_entry_at w2 r mb cl seen es cl e hwr hwm (List.mem_of_getElem? hqe) hS.1) ?_
    rw [q2]
    -- the pair
    obtain ⟨hql', hent⟩ := ents_at hE hqe
    obtain ⟨kc, k1, k2⟩ := hent.kc
    obtain ⟨vc, v1, v2⟩ := hent.vc
    have hpair : SatV ε (.tup [(l.getD q (.junk, .junk)).1, (l.getD q (.junk, .junk)).2]) (.tuple #[e.key, e.val]) := by
      refine ⟨[e.key, e.val], ?_, rfl⟩
      simp only [SatA]
      exact ⟨kc, [e.val], by rw [k2], k1.mono _ (Env.nil_le ε), vc, [], by rw [v2], v1.mono _ (Env.nil_le ε), rfl⟩
    have hs3 := hs2.putV hpa hpair
    obtain ⟨σ, h1, h2⟩ := hs3
    have hrd := hround ds s q hok hnd hlt hql hqd iv
    have k := wp_ok l2 _ σ (M s) _ (fun σ' m' => ∃ τ', Rep n σ' τ' ∧ b.wp Γ (M s).length (fun e τ' m' => match e with
            | .norm => roundZ it keep mod U M ok ds q s iv τ τ' m'
            | .exit k => if k = nxt then roundZ it keep mod U M ok ds q s iv τ τ' m' else if k = out then Q .norm τ' m' else Q (.exit k) τ' m'
            | .ret => Q .ret τ' m') τ' m') hw2 h1 hrd (fun σ' τ' m' hr hq => ⟨τ', hr, hq⟩)
    refine sops_sound (β := ⟨w2, ε, ownB ε (M s)⟩) hΓ.hook _ _ σ (M s) _ q4 k ?_ ε _ w2 (Inv.start hi2.good) h2 (by rw [put_defers, put_defers, put_defers])
    rintro σ' m' ε' a' w' ⟨τ', hr, hq⟩ hi' hs' hd'
    show y.wp P _ a' w'
    refine Code.wp_mono (fun ee a2 w3 hee => ?_) (JC.sound hΓ (β := ⟨w2, ε, ownB ε (M s)⟩) (n0 := (M s).length) (Nat.le_of_eq hi2.good.n) b y hy hwb _ τ' m' hq ε' a' w' hi' ⟨σ', hr, hs'⟩ hd')
    obtain ⟨ex, τ2, m2, ε2, x1, x2, x3, x4, x5⟩ := hee
    try rw [hd] at x5
    have hrlt' : r < w.heap.size := hrlt
    have hmlt' : mb < w.heap.size := hI.mc.lt
    have hcr : Clear ⟨w2, ε, ownB ε (M s)⟩ r := ⟨by show r < w2.heap.size; omega, hI.rc.B, hI.rc.H⟩
    have hcm : Clear ⟨w2, ε, ownB ε (M s)⟩ mb := ⟨by show mb < w2.heap.size; omega, hI.mc.B, hI.mc.H⟩
    have again : roundZ it keep mod U M ok ds q s iv τ τ2 m2 → ∃ n', n' < leftN l.length ds ∧ ∃ ds s ε, leftN l.length ds = n' ∧ ok ds s ∧ ds.Nodup ∧ (∀ d, d ∈ ds → d < l.length) ∧ Inv β ε (M s) w3 ∧ Iter β ε (M s) w3 r mb cl es ds ∧ SlotsF n ε (.put it (.raw iv) (ofF mod (U s) (keepF keep τ))) a2 ∧ a2.defers = d := by
      rintro ⟨s', r1, r2, r3, r4, r5, r6⟩
      obtain ⟨ε3, t1, t2⟩ := trim_ok x3 x4 (n0 := (M s).length) (Nat.le_of_eq hi2.good.n) r2 rfl r6
      obtain ⟨d1, d2, d3, d4⟩ := t1.clear hcr
      obtain ⟨f1, f2, f3, f4⟩ := t1.clear hcm
      refine ⟨_, left_less hql hqd, ds ++ [q], s', ε3, rfl, r1, ?_, ?_, (hi2.trans t1 (fun i hi' => by omega)).1, ⟨⟨seen.push e.born, cl, d1.trans hwr, Nat.le_refl _, ?_⟩, f1.trans hwm, hI.r0, ⟨d4, fun ⟨i, h⟩ => d2 i h, d3⟩, ⟨f4, fun ⟨i, h⟩ => f2 i h, f3⟩, hI.ne⟩, ?_, x5⟩
      · rw [List.nodup_append]
        exact ⟨hnd, by simp, fun x hx y hy => by rw [List.mem_singleton.1 hy]; rintro rfl; exact hqd hx⟩
      · intro x hx
        rcases List.mem_append.1 hx with h | h
        · exact hlt x h
        · rw [List.mem_singleton.1 h]; exact hql
      · rw [Array.toList_push, e3, List.map_append, List.map_cons, List.map_nil]
        congr 2
        simp [List.getD, hqe]
      · refine t2.weak fun k => ?_
        simp only [look]
        by_cases hk : k = it
        · subst hk
          rw [if_pos rfl, look_renF, r3]
          exact .inr rfl
        · rw [if_neg hk]
          exact look_ofR k r4 (same_keepR k r5)
    have back : Inv β ε2 m2 w3 := (hi2.trans x3 (fun i hi' => by omega)).1
    cases ee <;> cases ex <;> simp only [ExRel] at x1
    · exact again x2
    · subst x1
      simp only at x2
      simp only [Exit.then, Exit.inBlock]
      split
      · rename_i hk
        rw [if_pos hk] at x2
        exact again x2
      · rename_i hk
        rw [if_neg hk] at x2
        split
        · rename_i hk2
          rw [if_pos hk2] at x2
          exact ⟨.norm, τ2, m2, ε2, trivial, x2, back, x4, x5⟩
        · rename_i hk2
          rw [if_neg hk2] at x2
          exact ⟨.exit _, τ2, m2, ε2, rfl, x2, back, x4, x5⟩
    · exact ⟨.ret, τ2, m2, ε2, trivial, x2, back, x4, x5⟩
theorem Inv.vecsN {β : Base} (E : TypeId) (wd' : Nat) : ∀ (n : Nat) {ε : Env} {m : List Res} {w : World}, Inv β ε m w → ∃ ε', Inv β ε' (m ++ List.replicate n (.vec E wd' [])) w ∧ ε.Le ε' ∧ ε'.n = m.length + n ∧ ∀ j, j < n → ε'.vv (m.length + j) = .slice none 0 0
  | 0, ε, m, w, h => ⟨ε, by simpa using h, Env.Le.refl ε, by rw [h.good.n]; rfl, fun j hj => absurd hj (Nat.not_lt_zero _)⟩
  | n + 1, ε, m, w, h => by
    obtain ⟨ε1, h1, h2, h3, h4⟩ := Inv.vecsN E wd' n h
    have hg : w.grownBy w none := World.grownBy.refl w none
    have hn1 := h1.good.n
    have hlen : (m ++ List.replicate n (Res.vec E wd' [])).length = m.length + n := by simp
    have hi2 := h1.more (b := 0) (v := .slice none 0 0) (r := .vec E wd' []) hg (Nat.le_refl _) ⟨[], ⟨by simp, .inl ⟨by simp [Env.more, hn1], rfl⟩⟩, fun j hj => absurd hj (Nat.not_lt_zero _)⟩ (by
      intro x hx
      simp [ownR, Env.more, hn1, Value.ownBlock] at hx)
    have hle := ε1.le_more 0 (.slice none 0 0)
    refine ⟨_, by rw [List.replicate_succ', ← List.append_assoc]; exact hi2, h2.trans hle, by simp [Env.more, h3]; omega, fun j hj => ?_⟩
    by_cases e : j = n
    · subst e; simp [Env.more, h3]
    · have := h4 j (by omega)
      simp only [Env.more]
      rw [if_neg (by omega)]; exact this
theorem arrv_ok {k nn : Nat} {E : TypeId} {wd' : Nat} {τ : Fr} {m : List Res} {K : List Res → Prop} (hh : arrvF k nn E wd' K τ m) {β : Base} {ε : Env} {w : World} (h : Inv β ε m w) {n : Nat} {a : Act} (hs : SlotsF n ε τ a) : ∃ ε' m', K m' ∧ Inv β ε' m' w ∧ SlotsF n ε' τ a := by
  unfold arrvF at hh
  split at hh <;> try exact hh.elim
  rename_i i hk
  split at hh <;> try exact hh.elim
  rename_i T n' w' f hm
  obtain ⟨⟨rfl, rfl, hf⟩, hK⟩ := hh
  have hi : i < m.length := by
    rcases Nat.lt_or_ge i m.length with hi | hi
    · exact hi
    · rw [memAt_ge hi] at hm; cases hm
  obtain ⟨ε', h1, h2, h3, h4⟩ := Inv.vecsN E wd' n' h
  have hm2 : memAt (m ++ List.replicate n' (.vec E wd' [])) i = .blk T (.arr n' 1 f) := by rw [memAt_append_lt hi]; exact hm
  have h5 := h1.reBlk (c' := .arr n' 1 fun j => if j < n' then .vec (m.length + j) 0 else .junk) hm2 (fun cs hc => by
    simp only [SatC] at hc ⊢
    refine ⟨hc.1, fun j hj => ?_⟩
    rw [if_pos hj]
    simp only [SatC]
    have h6 := hc.2 j hj
    rw [hf j hj] at h6
    simp only [SatC] at h6
    have hv := h4 j hj
    exact ⟨by omega, .inl ⟨by rw [hv], trivial⟩, by rw [hv]; exact h6⟩)
  rw [List.set_append_left _ _ hi] at h5
  exact ⟨_, _, hK, h5, hs.env h2⟩
theorem frzs_ok {β : Base} {ε : Env} {m : List Res} {w : World} (h : Inv β ε m w) {n : Nat} {τ : Fr} {a : Act} (hs : SlotsF n ε τ a) : ∀ {l : List (Nat × Frz)}, l.all (fun p => decide (p.1 < n)) = true → frzP m τ l → SlotsF n (Sx.frz ε m w) (frzD m τ l τ) a
  | [], _, _ => hs.env ⟨Nat.le_refl _, fun _ _ => rfl, fun _ _ => rfl, frz_H h.good⟩
  | p :: r, hk, hP => by
    simp only [List.all_cons, Bool.and_eq_true, decide_eq_true_eq] at hk
    obtain ⟨σ', r1, r2⟩ := frzs_ok h hs hk.2 hP.2
    obtain ⟨σ, h1, h2⟩ := hs
    have e := le_val (h1.le p.1) (p.2.val hP.1)
    obtain ⟨cs, k1, k2⟩ := sat_val (h2.2 p.1) (by rw [e]; exact p.2.val hP.1)
    rw [e] at k1 k2
    have k3 := p.2.ok h.good hP.1 k1
    refine ⟨σ'.set p.1 (p.2.dec m (look p.1 τ)), r1.put hk.1 (Le.refl _), by simp [r2.1], fun j => ?_⟩
    by_cases ej : j = p.1
    · subst ej
      rw [getD_set_eq (by rw [r1.1]; exact hk.1), k2, ← p.2.agg hP.1]
      exact satC_sat (SatC.mono _ (Env.cl_le _) k3)
    · rw [getD_set_ne ej]
      exact r2.2 j
theorem ZC.sound {Γ : FH} (hΓ : FHOK P Γ) {quiet : FuncId → Bool} {n n0 : Nat} {β : Base} (hb : β.ε.n = 0) {d : List Deferred} : ∀ (zc : ZC) (c : Code), zc.comp P quiet c = some zc.flat → zc.wf n = true → ∀ (Q : Ex → Fr → List Res → Prop) (τ : Fr) (m : List Res), zc.wp Γ n0 Q τ m →
    ∀ ε a w, Inv β ε m w → SlotsF n ε τ a → a.defers = d → c.wp P (EndsF n β d Q) a w
  | .leaf x, c, hc, hw, Q, τ, m, h, ε, a, w, hi, hs, hd => by
    simp only [ZC.comp, ZC.flat, Option.map_eq_some_iff, ZI.leaf.injEq, exists_eq_right] at hc
    exact JC.sound hΓ (by omega) x c hc hw Q τ m h ε a w hi hs hd
  | .seq x y, c, hc, hw, Q, τ, m, h, ε, a, w, hi, hs, hd => by
    obtain ⟨x', y', x2, y2, rfl, hx, hy, e⟩ := ZC.comp_seq hc
    simp only [ZC.flat, ZI.seq.injEq] at e
    obtain ⟨rfl, rfl⟩ := e
    simp only [ZC.wf, Bool.and_eq_true] at hw
    simp only [ZC.wp] at h
    refine wp_seq (Code.wp_mono (fun e a' w' he => ?_) (ZC.sound hΓ hb x x' hx hw.1 _ τ m h ε a w hi hs hd))
    obtain ⟨ex, σ', m', ε', h1, h2, h3, h4, h5⟩ := he
    cases e <;> cases ex <;> simp only [ExRel] at h1
    · exact ZC.sound hΓ hb y y' hy hw.2 Q σ' m' h2 ε' a' w' h3 h4 h5
    · exact ⟨_, σ', m', ε', by simp only [ExRel]; exact h1, h2, h3, h4, h5⟩
    · exact ⟨.ret, σ', m', ε', trivial, h2, h3, h4, h5⟩
  | .cond x y z, c, hc, hw, Q, τ, m, h, ε, a, w, hi, hs, hd => by
    obtain ⟨x', y', z', x2, y2, z2, rfl, hx, hy, hz, e⟩ := ZC.comp_cond hc
    simp only [ZC.flat, ZI.cond.injEq] at e
    obtain ⟨rfl, rfl, rfl⟩ := e
    simp only [ZC.wf, Bool.and_eq_true] at hw
    simp only [ZC.wp] at h
    split at h
    · rename_i t ht
      obtain ⟨σ, h1, h2⟩ := hs
      have hv0 := compO_ok hx h2
      rw [le_eq (h1.fv x) ht (by intro h; cases h)] at hv0
      have hv := sat_bool hv0
      cases t with
      | true => exact wp_cond_true hv (ZC.sound hΓ hb y y' hy hw.1 Q τ m (h.1 rfl) ε a w hi ⟨σ, h1, h2⟩ hd)
      | false => exact wp_cond_false hv (ZC.sound hΓ hb z z' hz hw.2 Q τ m (h.2 rfl) ε a w hi ⟨σ, h1, h2⟩ hd)
    · rename_i ht
      obtain ⟨σ, h1, h2⟩ := hs
      have hv0 := compO_ok hx h2
      rw [le_eq (h1.fv x) ht (by intro h; cases h)] at hv0
      obtain ⟨cs, k1, hv⟩ := hv0
      simp only [SatC] at k1
      obtain ⟨t, rfl⟩ := k1
      cases t with
      | true => exact wp_cond_true hv (ZC.sound hΓ hb y y' hy hw.1 Q τ m h.1 ε a w hi ⟨σ, h1, h2⟩ hd)
      | false => exact wp_cond_false hv (ZC.sound hΓ hb z z' hz hw.2 Q τ m h.2 ε a w hi ⟨σ, h1, h2⟩ hd)
    · exact h.elim
  | .block id x, c, hc, hw, Q, τ, m, h, ε, a, w, hi, hs, hd => by
    obtain ⟨id', x', x2, rfl, hx, e⟩ := ZC.comp_block hc
    simp only [ZC.flat, ZI.block.injEq] at e
    obtain ⟨rfl, rfl⟩ := e
    simp only [ZC.wp] at h
    refine wp_block (Code.wp_mono (fun e a' w' he => ?_) (ZC.sound hΓ hb x x' hx hw _ τ m h ε a w hi hs hd))
    obtain ⟨ex, σ', m', ε', h1, h2, h3, h4, h5⟩ := he
    cases e <;> cases ex <;> simp only [ExRel] at h1
    · exact ⟨.norm, σ', m', ε', trivial, h2, h3, h4, h5⟩
    · subst h1
      simp only [Exit.inBlock]
      simp only at h2
      split
      · rename_i e1; rw [if_pos e1] at h2; exact ⟨.norm, σ', m', ε', trivial, h2, h3, h4, h5⟩
      · rename_i e1; rw [if_neg e1] at h2; exact ⟨.exit _, σ', m', ε', rfl, h2, h3, h4, h5⟩
    · exact ⟨.ret, σ', m', ε', trivial, h2, h3, h4, h5⟩
  | .prune ks x, c, hc, hw, Q, τ, m, h, ε, a, w, hi, hs, hd =>
    ZC.sound hΓ hb x c hc hw Q _ m h ε a w hi (hs.weak fun k => look_keep ks) hd
  | .frzs l x, c, hc, hw, Q, τ, m, h, ε, a, w, hi, hs, hd => by
    simp only [ZC.wf, Bool.and_eq_true] at hw
    obtain ⟨hP, h⟩ := h
    exact ZC.sound hΓ hb x c hc hw.2 Q _ _ h _ a w hi.freeze (frzs_ok hi hs hw.1 hP) hd
  | .arrv k nn E wd' x, c, hc, hw, Q, τ, m, h, ε, a, w, hi, hs, hd => by
    obtain ⟨ε', m', h1, h2, h3⟩ := arrv_ok h hi hs
    exact ZC.sound hΓ hb x c hc hw Q τ m' h1 ε' a w h2 h3 hd
  | .rmap l1 x it out nx more nxt pair l2 keep mod b, c, hc, hw, Q, τ, m, h, ε, a, w, hi, hs, hd => by
    obtain ⟨i1, i2, i3, ops1, ops2, ops3, out', nxt', y, l1', x', it', nx', more', pair', l2', y', rfl, hr1, hr2, hr3, hy, e⟩ := ZC.comp_rmap hc
    simp only [ZC.flat, ZI.rmap.injEq] at e
    obtain ⟨rfl, rfl, rfl, rfl, rfl, rfl, rfl, rfl, rfl, rfl⟩ := e
    simp only [ZC.wf, Bool.and_eq_true, decide_eq_true_eq, Bool.not_eq_true', decide_eq_false_iff_not] at hw
    obtain ⟨⟨⟨⟨⟨⟨⟨⟨⟨⟨w1, w2⟩, w3⟩, w4⟩, w5⟩, w6⟩, w7⟩, w8⟩, w9⟩, w10⟩, w11⟩ := hw
    obtain ⟨pre, o, T, kt, et, xo, p1, p2, p3, p4, p5, p6, p7⟩ := rgOps_ok hr1
    simp only [ZC.wp] at h
    obtain ⟨σ, h1, h2⟩ := hs
    have k := wp_ok l1 τ σ m _ (fun σ' m' => ∃ τ', Rep n σ' τ' ∧ (match x.fv τ' with
      | .map i => match memAt m' i with
        | .mp ek ev l => ∃ (ι : Type) (U : ι → List SV) (M : ι → List Res) (ok : List Nat → ι → Prop) (s0 : ι), ok [] s0 ∧ atF mod (U s0) τ' ∧ M s0 = m'.set i .dead ∧
          (∀ ds s q, ok ds s → ds.Nodup → (∀ d, d ∈ ds → d < l.length) → q < l.length → q ∉ ds → ∀ iv : Value,
            l2.wp Γ false (fun τ2 m2 => b.wp Γ (M s).length (fun e τ3 m3 => match e with
              | .norm => roundZ it keep mod U M ok ds q s iv τ' τ3 m3
              | .exit k => if k = nxt then roundZ it keep mod U M ok ds q s iv τ' τ3 m3 else if k = out then Q .norm τ3 m3 else Q (.exit k) τ3 m3
              | .ret => Q .ret τ3 m3) τ2 m2) (.put pair (.tup [(l.getD q (.junk, .junk)).1, (l.getD q (.junk, .junk)).2]) (.put it (.raw iv) (ofF mod (U s) (keepF keep τ')))) (M s)) ∧
          (∀ ds s, ok ds s → ds.Nodup → (∀ d, d ∈ ds → d < l.length) → (∀ q, q < l.length → q ∈ ds) → Q .norm (ofF mod (U s) (keepF keep τ')) (M s))
        | _ => False
      | _ => False)) w1 h1 h (fun σ' τ' m' hr hq => ⟨τ', hr, hq⟩)
    refine wp_seq (wp_region_list ?_)
    rw [p1]
    refine wpList_append hΓ.hook pre _ σ m _ p7 k ?_ ε a w hi h2 hd
    rintro σ' m' ε' a' w' ⟨τ', hr, hq⟩ hi' hs' hd'
    split at hq <;> try exact hq.elim
    rename_i i hx
    split at hq <;> try exact hq.elim
    rename_i ek ev l hm
    obtain ⟨ι, U, M, ok, s0, g1, g2, g3, g4, g5⟩ := hq
    have hxv := compO_ok p6 hs'
    rw [le_eq (hr.fv x) hx (by intro h; cases h)] at hxv
    obtain ⟨hin, ex⟩ := sat_map hxv
    obtain ⟨es, cl, hh, hE, hS⟩ : ResOK ε' i w' (.mp ek ev l) := hm ▸ hi'.good.res i
    have hown : ownR ε' i (memAt m' i) = some (ε'.blk i) := by rw [hm]; rfl
    have hlt := ownR_lt hi'.good hown
    refine wpList_rangeZ p4 p2 p5 ex hh (wpList_nil ?_)
    rw [p3]
    have hold : ∀ b, b < w'.heap.size → (w'.alloc (.mapIter (some (ε'.blk i)) cl #[] cl)).heap[b]? = w'.heap[b]? := fun b hb => Go.RowKit.Below.heap_alloc w' _ b hb
    have hi2 : Inv β ε' (M s0) (w'.alloc (.mapIter (some (ε'.blk i)) cl #[] cl)) := by
      rw [g3]
      exact (hi'.dead1 i).world rfl rfl rfl (by simp) (Nat.le_refl _) fun b hb => .inl (hold b hb)
    have hnot : ∀ j, ownR ε' j (memAt (m'.set i .dead) j) ≠ some (ε'.blk i) := fun j hj => by
      by_cases e : j = i
      · subst e
        have : memAt (m'.set j .dead) j = .dead := by
          unfold memAt
          rw [List.getD, List.getElem?_set]
          by_cases hl : j < m'.length <;> simp [hl]
        rw [this] at hj; cases hj
      · have : memAt (m'.set i .dead) j = memAt m' j := by
          unfold memAt
          rw [List.getD, List.getElem?_set, if_neg (fun h => e h.symm)]; rfl
        rw [this] at hj
        exact hi'.good.disj j i _ e hj hown
    have hnew : ∀ j, ownR ε' j (memAt (m'.set i .dead) j) ≠ some w'.heap.size := fun j hj => by
      have := ownR_lt ((hi'.dead1 i).good) hj
      omega
    have hHn : ε'.H w'.heap.size = none := by
      cases e : ε'.H w'.heap.size with
      | none => rfl
      | some o => have := H_lt hi'.good e; omega
    show (Code.block out _).wp P _ _ _
    refine rmap_rounds hΓ hb hr2 hr3 hy w2 w11 w3 w4 w5 w6 ⟨w7, w8, w9⟩ g4 g5 (fun k hk => ?_) hE hS g1 hi2 ⟨⟨#[], cl, heap_alloc_new w' _, Nat.le_refl _, rfl⟩, (hold _ hlt).trans hh, hi'.kept.size, ⟨by simp, by rw [g3]; exact fun ⟨j, h⟩ => hnew j h, hHn⟩, ⟨by simp; omega, by rw [g3]; exact fun ⟨j, h⟩ => hnot j h, hi'.good.sep i _ hown⟩, by omega⟩ ?_ ?_
    · have := List.all_eq_true.1 w10 k hk
      simp only [Bool.and_eq_true, Bool.not_eq_true', decide_eq_false_iff_not] at this
      exact ⟨this.1.1.1, this.1.1.2, this.1.2, this.2⟩
    · have hsF : SlotsF n ε' (ofF mod (U s0) (keepF keep τ')) a' := SlotsF.weak ⟨σ', hr, hs'⟩ fun k => look_of k g2 (look_keep keep)
      exact hsF.putV w3 ⟨[.pointer (some ⟨w'.heap.size, 0, none⟩)], by simp only [SatC]; exact ⟨rfl, trivial⟩, rfl⟩
    · rw [put_defers]; exact hd'
def fnZ (P : Program) (quiet : FuncId → Bool) (f : FuncId) (z : ZC) : Option (ZI × List ResultVar × Nat) := match P.funcs[f]? with
  | some fn => match fn.body with
    | some c => match z.comp P quiet c with
      | some ic => if fn.name != "runtime.NumGoroutine" then some (ic, fn.results.toList, fn.ntmps) else none
      | none => none
    | none => none
  | none => none
theorem fnZ_ok {quiet : FuncId → Bool} {f : FuncId} {z : ZC} {ic : ZI} {rs : List ResultVar} {nt : Nat} (h : fnZ P quiet f z = some (ic, rs, nt)) : okFn P f = true ∧ ∃ fn c, P.funcs[f]? = some fn ∧ fn.body = some c ∧ z.comp P quiet c = some ic ∧ fn.results.toList = rs ∧ fn.ntmps = nt := by
  unfold fnZ at h
  split at h <;> try (cases h; done)
  rename_i fn hf
  split at h <;> try (cases h; done)
  rename_i c hc
  split at h <;> try (cases h; done)
  rename_i ic' hic
  split at h <;> try (cases h; done)
  rename_i hn
  simp only [Option.some.injEq, Prod.mk.injEq] at h
  obtain ⟨rfl, rfl, rfl⟩ := h
  refine ⟨?_, fn, c, hf, hc, hic, rfl, rfl⟩
  unfold okFn
  rw [hf]
  simp only [Bool.and_eq_true]
  exact ⟨hn, by rw [hc]; rfl⟩
theorem fn_walkZ {quiet : FuncId → Bool} {f : FuncId} {zc : ZC} {rs : List ResultVar} {nt : Nat} (hfn : fnZ P quiet f zc = some (zc.flat, rs, nt)) (hwf : zc.wf nt = true) {Γ : FH} (hΓ : FHOK P Γ) {args : List SV} {m1 : List Res} {res : SV} (hn' : Nat.ble args.length nt = true)
    (h : zc.wp Γ 0 (endF rs P 0 res m1) (argF 0 args) []) : FnOK P f args [] res m1 := by
  have hn : args.length ≤ nt := Nat.le_of_ble_eq_true hn'
  obtain ⟨_, fn, c, hf, hb, hc, hrs, hnt⟩ := fnZ_ok hfn
  intro ε w vs hg hs
  have hlen : args.length = vs.length := (slots_start hs 0).1 |> fun h => by simpa using h
  refine calls_of_wp hf hb ?_
  have hi := Inv.start hg
  have hsl := slots_start hs (nt - args.length)
  have e : fn.ntmps - vs.toArray.size = nt - args.length := by simp; omega
  rw [e]
  refine Code.wp_mono (fun e a w' he => ?_) (ZC.sound hΓ (by simpa using hg.n) (d := []) zc c hc hwf _ _ _ h ε _ w hi ⟨_, argF_rep args nt hn, hsl⟩ rfl)
  obtain ⟨ex, τ', m', ε', h1, h2, h3, ⟨σ', hr, h4⟩, h5⟩ := he
  replace h2 := endF_ok hr h2
  have fin : ∀ (hres : resK P σ' m' (fun x => ∃ ks, packK ks 0 res m1 m' x) rs), a.defers = [] ∧ ∃ v, (results fn a.tmps).run P w' = .ok v w' ∧
      ∃ v' ε'', Ending.returned v = .returned v' ∧ SatV ε'' res v' ∧ Inv ⟨w, ε, fun b => ∃ i, ownR ε i (memAt [] i) = some b⟩ ε'' m1 w' := by
    intro hres
    obtain ⟨x, ⟨ks, ⟨k1, k2⟩, k3, k4⟩, hrun⟩ := resK_sound hrs hres
    obtain ⟨v, e1, e2⟩ := hrun ε' a w' h3.good h4
    refine ⟨h5, v, e1, v, selE ks ε', rfl, ?_, ?_⟩
    · rw [← k3]; exact e2.ren (sel_ren ks ε')
    · rw [← k4]; exact h3.sel ks k1 (fun i hi => k2 i (by have := hg.n; simp only [List.length_nil] at this; have hi : i < ε.n := hi; omega))
  cases e <;> cases ex <;> simp only [ExRel] at h1
  · exact fin h2
  · exact h2.elim
  · exact fin h2
section words
variable {Γ : FH} {n0 : Nat} {Q : Ex → Fr → List Res → Prop} {τ : Fr} {m : List Res}
theorem zc_leaf {x : JC} : ZC.wp Γ n0 (.leaf x) Q τ m = x.wp Γ n0 Q τ m := propext Iff.rfl
theorem zc_seq {a b : ZC} : ZC.wp Γ n0 (.seq a b) Q τ m = a.wp Γ n0 (fun e τ' m' => match e with
    | .norm => b.wp Γ n0 Q τ' m'
    | e => Q e τ' m') τ m := propext Iff.rfl
theorem zc_cond {x : Opd} {a b : ZC} : ZC.wp Γ n0 (.cond x a b) Q τ m = (match x.fv τ with
    | .bool t => (t = true → a.wp Γ n0 Q τ m) ∧ (t = false → b.wp Γ n0 Q τ m)
    | .anyb => a.wp Γ n0 Q τ m ∧ b.wp Γ n0 Q τ m
    | _ => False) := propext Iff.rfl
theorem zc_block {id : Nat} {c : ZC} : ZC.wp Γ n0 (.block id c) Q τ m = c.wp Γ n0 (fun e τ' m' => match e with
    | .exit i => if i = id then Q .norm τ' m' else Q (.exit i) τ' m'
    | e => Q e τ' m') τ m := propext Iff.rfl
theorem zc_prune {ks : List Nat} {c : ZC} : ZC.wp Γ n0 (.prune ks c) Q τ m = c.wp Γ n0 Q (keepF ks τ) m := propext Iff.rfl
theorem zc_frzs {l : List (Nat × Frz)} {c : ZC} : ZC.wp Γ n0 (.frzs l c) Q τ m = (frzP m τ l ∧ c.wp Γ n0 Q (frzD m τ l τ) (deads m)) := propext Iff.rfl
theorem zc_arrv {k n : Nat} {E : TypeId} {w : Nat} {c : ZC} : ZC.wp Γ n0 (.arrv k n E w c) Q τ m = arrvF k n E w (fun m' => c.wp Γ n0 Q τ m') τ m := propext Iff.rfl
def rmapW (Γ : FH) (it out nxt pair : Nat) (l2 : SL) (keep mod : List Nat) (b : JC) (Q : Ex → Fr → List Res → Prop) (τ : Fr) (m : List Res) (i : Nat) (l : List (SV × SV)) : Prop :=
  ∃ (ι : Type) (U : ι → List SV) (M : ι → List Res) (ok : List Nat → ι → Prop) (s0 : ι), ok [] s0 ∧ atF mod (U s0) τ ∧ M s0 = m.set i .dead ∧
        (∀ ds s q, ok ds s → ds.Nodup → (∀ d, d ∈ ds → d < l.length) → q < l.length → q ∉ ds → ∀ iv : Value,
          l2.wp Γ false (fun τ' m' => b.wp Γ (M s).length (fun e τ' m' => match e with
            | .norm => roundZ it keep mod U M ok ds q s iv τ τ' m'
            | .exit k => if k = nxt then roundZ it keep mod U M ok ds q s iv τ τ' m' else if k = out then Q .norm τ' m' else Q (.exit k) τ' m'
            | .ret => Q .ret τ' m') τ' m') (.put pair (.tup [(l.getD q (.junk, .junk)).1, (l.getD q (.junk, .junk)).2]) (.put it (.raw iv) (ofF mod (U s) (keepF keep τ)))) (M s)) ∧
        (∀ ds s, ok ds s → ds.Nodup → (∀ d, d ∈ ds → d < l.length) → (∀ q, q < l.length → q ∈ ds) → Q .norm (ofF mod (U s) (keepF keep τ)) (M s))
theorem zc_rmap {l1 : SL} {x : Opd} {it out nx more nxt pair : Nat} {l2 : SL} {keep mod : List Nat} {b : JC} : ZC.wp Γ n0 (.rmap l1 x it out nx more nxt pair l2 keep mod b) Q τ m = l1.wp Γ false (fun τ m => match x.fv τ with
    | .map i => match memAt m i with
      | .mp _ _ l => rmapW Γ it out nxt pair l2 keep mod b Q τ m i l
      | _ => False
    | _ => False) τ m := propext Iff.rfl
theorem rmapF {it out nxt pair : Nat} {l2 : SL} {keep mod : List Nat} {b : JC} {i : Nat} {l : List (SV × SV)} (ι : Type) (U : ι → List SV) (M : ι → List Res) (ok : List Nat → ι → Prop) (s0 : ι) (h0 : ok [] s0) (hσ : atF mod (U s0) τ) (hm : M s0 = m.set i .dead)
    (h : ∀ ds s q, ok ds s → ds.Nodup → (∀ d, d ∈ ds → d < l.length) → q < l.length → q ∉ ds → ∀ iv : Value,
          l2.wp Γ false (fun τ' m' => b.wp Γ (M s).length (fun e τ' m' => match e with
            | .norm => roundZ it keep mod U M ok ds q s iv τ τ' m'
            | .exit k => if k = nxt then roundZ it keep mod U M ok ds q s iv τ τ' m' else if k = out then Q .norm τ' m' else Q (.exit k) τ' m'
            | .ret => Q .ret τ' m') τ' m') (.put pair (.tup [(l.getD q (.junk, .junk)).1, (l.getD q (.junk, .junk)).2]) (.put it (.raw iv) (ofF mod (U s) (keepF keep τ)))) (M s))
    (he : ∀ ds s, ok ds s → ds.Nodup → (∀ d, d ∈ ds → d < l.length) → (∀ q, q < l.length → q ∈ ds) → Q .norm (ofF mod (U s) (keepF keep τ)) (M s)) : rmapW Γ it out nxt pair l2 keep mod b Q τ m i l := ⟨ι, U, M, ok, s0, h0, hσ, hm, h, he⟩
theorem zcwp_congr {c : ZC} {τ' : Fr} {m' : List Res} (h1 : W.wrp τ = τ') (h2 : W.wrp m = m') : ZC.wp Γ n0 c Q τ m = ZC.wp Γ n0 c Q τ' m' := by subst h1; subst h2; rfl
theorem rmapW_congr {it out nxt pair : Nat} {l2 : SL} {keep mod : List Nat} {b : JC} {i : Nat} {l l' : List (SV × SV)} {τ' : Fr} {m' : List Res} (h1 : W.wrp τ = τ') (h2 : W.wrp m = m') (h3 : W.wrp l = l') : rmapW Γ it out nxt pair l2 keep mod b Q τ m i l = rmapW Γ it out nxt pair l2 keep mod b Q τ' m' i l' := by subst h1; subst h2; subst h3; rfl
end words
attribute [congr] zcwp_congr rmapW_congr
theorem ren_raw (r : Nat → Option Nat) (v : Value) : ren r (.raw v) = .raw v := nr rfl
attribute [go_sem] roundZ ren_raw
attribute [go_sem] frzP frzD
attribute [go_sem ↓] zc_frzs arrvF zc_arrv zc_leaf zc_seq zc_cond zc_block zc_prune zc_rmap
end Go.Sx
