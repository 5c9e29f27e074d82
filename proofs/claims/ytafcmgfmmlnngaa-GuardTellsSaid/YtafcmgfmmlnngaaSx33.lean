import Derived.Test.YtafcmgfmmlnngaaSx23
import Derived.RangeFuncSeq
import Derived.TacticsIn
import Derived.OrdersIn
import Derived.OwnWalkIn
import Derived.Sort.LoopGhostIn
/-! Sx, part 33: the walk within a round of a range over a function. -/
set_option linter.unusedVariables false
set_option linter.unusedSimpArgs false
namespace Go.Sx
open Go
variable {P : Program}
/-- No fence; the frame may be a round's. -/
abbrev Fw (ro : Option Nat) : Fence := { Fence.wide with round := ro }
theorem Fw_none : Fw none = Fence.wide := rfl
theorem calls_fw {ro : Option Nat} {n : Nat} {f : FuncId} {args : Array Value} {w : World} {R : Ending → World → Prop} (h : Calls P f args w R) : CallsIn (Fw ro) n P f args w R :=
  (callsIn_wide (n := n)).2 h
theorem rows_fw {ro : Option Nat} {n : Nat} {row : String} {args : Array Value} {w : World} {R : Value → World → Prop} (h : Rows P row args w R) : RowsIn (Fw ro) n P row args w R :=
  fun c cs _ => let ⟨v, w', r, s⟩ := h c cs; ⟨v, w', r, stepsIn_wide.2 s⟩
theorem oper_in {ro : Option Nat} {n : Nat} {o : Oper} {a : Act} {w : World} {K : Act → World → Prop} {Q : Exit → Act → World → Prop} (hd : ∀ c, o.op ≠ .defer c) (h : o.wp P a w K Q) : o.wpIn (Fw ro) n P a w K Q := by
  refine ⟨fun _ _ => trivial, ?_⟩
  rw [Oper.semAt_eq _ _ _ hd]
  unfold Oper.wp at h
  generalize (execOp a.eval o).run P w = r at h ⊢
  cases r with
  | ok nx w' =>
    cases nx <;> simp only [Oper.upon] at h <;> simp only [Oper.uponIn] <;> first
      | exact h
      | exact ⟨(fun e => by cases e), calls_fw h⟩
      | exact ⟨(fun e => by cases e), rows_fw h⟩
  | halt x w' => cases x <;> simp only [Oper.upon] at h <;> simp only [Oper.uponIn] <;> exact h
theorem list_in {ro : Option Nat} {n : Nat} {ops : Array Oper} {Q : Exit → Act → World → Prop} (hL : ¬ LetsOut Q) : ∀ (l : List Oper) (a : Act) (w : World), (∀ o ∈ l, ∀ c, o.op ≠ .defer c) → wpList P ops Q l a w → wpListIn (Fw ro) n P ops Q l a w
  | [], a, w, _, h => h
  | o :: l, a, w, hd, h => by
    simp only [wpList, wpListIn] at h ⊢
    split
    · rename_i hw
      rw [if_pos hw] at h
      exact oper_in (hd o (by simp)) (Oper.wp_mono (fun a' w' h' => list_in hL l a' w' (fun o' ho' => hd o' (by simp [ho'])) h') (h.resolve_right fun e => hL e.2))
    · rename_i hw
      rw [if_neg hw] at h
      exact ⟨fun _ _ => trivial, list_in hL l _ _ (fun o' ho' => hd o' (by simp [ho'])) h⟩
theorem any_in {ro : Option Nat} {n : Nat} {ops : Array Oper} {md : Region.Mode} {Q : Exit → Act → World → Prop} (hL : ¬ LetsOut Q) (hd : ∀ o ∈ ops.toList, ∀ c, o.op ≠ .defer c) : ∀ (fuel : Nat) (listed : Array Bool) (a : Act) (w : World), wpAny P md ops Q fuel listed a w → wpAnyIn (Fw ro) n P md ops Q fuel listed a w
  | 0, listed, a, w, h => h
  | fuel + 1, listed, a, w, h => by
    simp only [wpAny, wpAnyIn] at h ⊢
    refine ⟨h.1, fun i hi => ?_⟩
    have h' := h.2 i hi
    unfold wpOp at h'
    unfold wpOpIn
    cases ho : ops[i]? with
    | none => rw [ho] at h'; exact any_in hL hd fuel _ _ _ h'
    | some o =>
      rw [ho] at h'
      simp only at h' ⊢
      have hm : o ∈ ops.toList := by
        rw [← Array.getElem?_toList] at ho
        exact List.mem_of_getElem? ho
      split
      · rename_i hw
        rw [if_pos hw] at h'
        exact oper_in (hd o hm) (Oper.wp_mono (fun a' w' h'' => any_in hL hd fuel _ a' w' h'') (h'.resolve_right fun e => hL e.2))
      · rename_i hw
        rw [if_neg hw] at h'
        exact ⟨fun _ _ => trivial, any_in hL hd fuel _ _ _ h'⟩
theorem compOp_nodefer {ops : Array Oper} {o : Oper} {io : IOp} (h : compOp P ops o = some io) : ∀ c, o.op ≠ .defer c := by
  intro c hc
  unfold compOp at h
  rw [hc] at h
  simp only [comp1, compP, compE, compM, Option.map_none] at h
  split at h <;> first | (cases h; done) | (rename_i e; simp at e)
theorem mapM_each {α β : Type _} {f : α → Option β} : ∀ {l : List α} {r : List β}, l.mapM f = some r → ∀ o ∈ l, ∃ y, f o = some y
  | [], _, _, o, ho => by cases ho
  | x :: l, r, h, o, ho => by
    rw [List.mapM_cons] at h
    obtain ⟨y, hy, h⟩ := bind_some h
    obtain ⟨ys, hys, h⟩ := bind_some h
    rcases List.mem_cons.1 ho with e | e
    · subst e; exact ⟨y, hy⟩
    · exact mapM_each hys o e
theorem ops_nodefer {ops : Array Oper} {r : List IOp} (h : ops.toList.mapM (compOp P ops) = some r) : ∀ o ∈ ops.toList, ∀ c, o.op ≠ .defer c := fun o ho => by
  obtain ⟨y, hy⟩ := mapM_each h o ho
  exact compOp_nodefer hy
theorem dops_nodefer {quiet : FuncId → Bool} {ops ops' : Array Oper} {r : List IOp} (h : ops.toList.mapM (compD P quiet ops') = some r) : ∀ o ∈ ops.toList, ∀ c, o.op ≠ .defer c := fun o ho => by
  obtain ⟨y, hy⟩ := mapM_each h o ho
  unfold compD at hy
  simp only [Option.map_eq_some_iff] at hy
  obtain ⟨z, hz, _⟩ := hy
  exact compOp_nodefer hz
theorem perm_nodefer {quiet : FuncId → Bool} {ops : Array Oper} {ord : List Nat} {r : List IOp} (hp : Perm ops ord) (h : (permOps ops ord).toList.mapM (compD P quiet (permOps ops ord)) = some r) : ∀ o ∈ ops.toList, ∀ c, o.op ≠ .defer c := by
  intro o ho
  obtain ⟨i, hi⟩ := List.getElem?_of_mem ho
  rw [Array.getElem?_toList] at hi
  have h1 := hp.at hi
  rw [← Array.getElem?_toList] at h1
  exact dops_nodefer h (renOp ord o) (List.mem_of_getElem? h1)
theorem dops_in {ro : Option Nat} {rm : Nat} {Γ : Hook} {quiet : FuncId → Bool} {id : Nat} {ops : Array Oper} {Q : Exit → Act → World → Prop} (hL : ¬ LetsOut Q) (hΓ : HookOK P Γ) (hmx : P.follows .mixedOrders = true) {β : Base} {d : List Deferred}
    {ios : List IOp} {σ : List SV} {m : List Res} {K : List SV → List Res → Prop} (hc : ops.toList.mapM (compD P quiet ops) = some ios) (hk : chk ops.toList ios = true) (h : dsops Γ (aug ops.toList ios) K σ m)
    (hQ : ∀ σ' m' ε' a' w', K σ' m' → Inv β ε' m' w' → SlotsOK ε' σ' a' → a'.defers = d → Q .normal a' w')
    {ε : Env} {a : Act} {w : World} (hI : Inv β ε m w) (hs : SlotsOK ε σ a) (hd : a.defers = d) : (Code.region id ops true).wpIn (Fw ro) rm P Q a w :=
  wpIn_region_any hmx (any_in hL (dops_nodefer hc) _ _ _ _ (dops_any hΓ hc hk h hQ hI hs hd))
theorem dops2_in {ro : Option Nat} {rm : Nat} {Γ : Hook} {quiet : FuncId → Bool} {id : Nat} {ops : Array Oper} {ord : List Nat} {Q : Exit → Act → World → Prop} (hL : ¬ LetsOut Q) (hΓ : HookOK P Γ) (hmx : P.follows .mixedOrders = true) {β : Base} {d : List Deferred}
    {ios : List IOp} {σ : List SV} {m : List Res} {K : List SV → List Res → Prop} (hpo : permOk ops ord = true) (hc : (permOps ops ord).toList.mapM (compD P (quiet2 quiet) (permOps ops ord)) = some ios) (hk : chk (permOps ops ord).toList ios = true)
    (h : dsops Γ (aug (permOps ops ord).toList ios) K σ m)
    (hQ : ∀ σ' m' ε' a' w', K σ' m' → Inv β ε' m' w' → SlotsOK ε' σ' a' → a'.defers = d → Q .normal a' w')
    {ε : Env} {a : Act} {w : World} (hI : Inv β ε m w) (hs : SlotsOK ε σ a) (hd : a.defers = d) : (Code.region id ops true).wpIn (Fw ro) rm P Q a w := by
  have hp := permOk_ok hpo
  refine wpIn_region_any hmx (any_in hL (perm_nodefer hp hc) _ _ _ _ (hp.any _ _ (Array.replicate ops.size false) a _ (by simp) (by simp) (fun j hj => ?_) ?_))
  · have hno : ∀ j, lst (Array.replicate ops.size false) j = false := by
      intro j
      simp only [lst, Array.getD_eq_getD_getElem?, Array.getElem?_replicate]
      split <;> rfl
    rw [hno, hno]
  · have := dops_any hΓ hc hk h hQ hI hs hd
    rwa [hp.size] at this
theorem endsF_in {n : Nat} {β : Base} {d : List Deferred} {Q : Ex → Fr → List Res → Prop} : ¬ LetsOut (EndsF n β d Q) := by
  rintro ⟨a, w, ex, τ, m, ε, h, _⟩
  cases ex <;> exact h
theorem wpI_mono {ro : Option Nat} {rm : Nat} {c : Code} {Q Q' : Exit → Act → World → Prop} {a : Act} {w : World} (hq : ∀ e a w, Q e a w → Q' e a w) (h : c.wpIn (Fw ro) rm P Q a w) : c.wpIn (Fw ro) rm P Q' a w := wpIn_mono h hq
theorem JC.soundIn {ro : Option Nat} {rm : Nat} {Γ : FH} (hΓ : FHOK P Γ) {quiet : FuncId → Bool} {n0 n : Nat} {β : Base} (hb : β.ε.n ≤ n0) {d : List Deferred} : ∀ (jc : JC) (c : Code), comp P quiet c = some jc.flat → jc.wf n = true → ∀ (Q : Ex → Fr → List Res → Prop) (τ : Fr) (m : List Res), jc.wp Γ n0 Q τ m →
    ∀ ε a w, Inv β ε m w → SlotsF n ε τ a → a.defers = d → c.wpIn (Fw ro) rm P (EndsF n β d Q) a w
  | .skip, c, hc, hw, Q, τ, m, h, ε, a, w, hi, hs, hd => by
    obtain rfl := comp_skip hc
    exact wpIn_skip ⟨.norm, τ, m, ε, trivial, h, hi, hs, hd⟩
  | .ops l, c, hc, hw, Q, τ, m, h, ε, a, w, hi, hs, hd => by
    obtain ⟨id, ops, rfl, hl⟩ := comp_ops hc
    obtain ⟨σ, h1, h2⟩ := hs
    have k := wp_ok l τ σ m (Q .norm) (fun σ' m' => ∃ τ', Rep n σ' τ' ∧ Q .norm τ' m') hw h1 h (fun σ' τ' m' hr hq => ⟨τ', hr, hq⟩)
    exact wpIn_region_list (list_in endsF_in _ _ _ (ops_nodefer hl) <| sops_sound hΓ.hook _ _ σ m _ hl k (fun σ' m' ε' a' w' ⟨τ', hr, hq⟩ hi' hs' hd' => ⟨.norm, τ', m', ε', trivial, hq, hi', ⟨σ', hr, hs'⟩, hd'⟩) ε a w hi h2 hd)
  | .dops l, c, hc, hw, Q, τ, m, h, ε, a, w, hi, hs, hd => by
    obtain ⟨id, ops, rfl, hf, hcase⟩ := comp_dops hc
    obtain ⟨σ, h1, h2⟩ := hs
    have k := wp_ok l τ σ m _ (fun σ' m' => ∃ τ', Rep n σ' τ' ∧ tidyF n0 m (Q .norm) τ' m') hw h1 h (fun σ' τ' m' hr hq => ⟨τ', hr, hq⟩)
    have k : dsops _ (l.flat none) _ σ m := k
    have fin : ∀ σ' m' ε' a' w', (∃ τ', Rep n σ' τ' ∧ tidyF n0 m (Q .norm) τ' m') → Inv β ε' m' w' → SlotsOK ε' σ' a' → a'.defers = d → EndsF n β d Q .normal a' w' := by
      rintro σ' m' ε' a' w' ⟨τ', hr, hq⟩ hi' hs' hd'
      obtain ⟨τ2, m2, ε2, k1, k2, k3⟩ := tidyF_ok hq hi' ⟨σ', hr, hs'⟩ hb
      exact ⟨.norm, τ2, m2, ε2, trivial, k1, k2, k3, hd'⟩
    rcases hcase with ⟨l0, hl0, hl, hk⟩ | ⟨ord, l0, hl0, hpo, hl, hk⟩
    · rw [hl0] at k
      exact dops_in endsF_in hΓ.hook hf hl hk k (β := β) (d := d) fin hi h2 hd
    · rw [hl0] at k
      exact dops2_in endsF_in hΓ.hook hf hpo hl hk k (β := β) (d := d) fin hi h2 hd
  | .seq x y, c, hc, hw, Q, τ, m, h, ε, a, w, hi, hs, hd => by
    obtain ⟨x', y', rfl, hx, hy⟩ := comp_seq hc
    simp only [JC.wf, Bool.and_eq_true] at hw
    simp only [JC.wp] at h
    refine wpIn_seq (wpI_mono (fun e a' w' he => ?_) (JC.soundIn hΓ hb x x' hx hw.1 _ τ m h ε a w hi hs hd))
    obtain ⟨ex, σ', m', ε', h1, h2, h3, h4, h5⟩ := he
    cases e <;> cases ex <;> simp only [ExRel] at h1
    · exact JC.soundIn hΓ hb y y' hy hw.2 Q σ' m' h2 ε' a' w' h3 h4 h5
    · exact ⟨_, σ', m', ε', by simp only [ExRel]; exact h1, h2, h3, h4, h5⟩
    · exact ⟨.ret, σ', m', ε', trivial, h2, h3, h4, h5⟩
  | .cond x y z, c, hc, hw, Q, τ, m, h, ε, a, w, hi, hs, hd => by
    obtain ⟨x', y', z', rfl, hx, hy, hz⟩ := comp_cond hc
    simp only [JC.wf, Bool.and_eq_true] at hw
    simp only [JC.wp] at h
    split at h
    · rename_i t ht
      obtain ⟨σ, h1, h2⟩ := hs
      have hv0 := compO_ok hx h2
      rw [le_eq (h1.fv x) ht (by intro h; cases h)] at hv0
      have hv := sat_bool hv0
      cases t with
      | true => exact wpIn_cond_true hv (JC.soundIn hΓ hb y y' hy hw.1 Q τ m (h.1 rfl) ε a w hi ⟨σ, h1, h2⟩ hd)
      | false => exact wpIn_cond_false hv (JC.soundIn hΓ hb z z' hz hw.2 Q τ m (h.2 rfl) ε a w hi ⟨σ, h1, h2⟩ hd)
    · rename_i ht
      obtain ⟨σ, h1, h2⟩ := hs
      have hv0 := compO_ok hx h2
      rw [le_eq (h1.fv x) ht (by intro h; cases h)] at hv0
      obtain ⟨cs, k1, hv⟩ := hv0
      simp only [SatC] at k1
      obtain ⟨t, rfl⟩ := k1
      cases t with
      | true => exact wpIn_cond_true hv (JC.soundIn hΓ hb y y' hy hw.1 Q τ m h.1 ε a w hi ⟨σ, h1, h2⟩ hd)
      | false => exact wpIn_cond_false hv (JC.soundIn hΓ hb z z' hz hw.2 Q τ m h.2 ε a w hi ⟨σ, h1, h2⟩ hd)
    · exact h.elim
  | .block id x, c, hc, hw, Q, τ, m, h, ε, a, w, hi, hs, hd => by
    obtain ⟨x', rfl, hx⟩ := comp_block hc
    simp only [JC.wp] at h
    refine wpIn_block (wpI_mono (fun e a' w' he => ?_) (JC.soundIn hΓ hb x x' hx hw _ τ m h ε a w hi hs hd))
    obtain ⟨ex, σ', m', ε', h1, h2, h3, h4, h5⟩ := he
    cases e <;> cases ex <;> simp only [ExRel] at h1
    · exact ⟨.norm, σ', m', ε', trivial, h2, h3, h4, h5⟩
    · subst h1
      simp only [Exit.inBlock]
      simp only at h2
      split
      · rename_i e1; rw [if_pos e1] at h2; exact ⟨.norm, σ', m', ε', trivial, h2, h3, h4, h5⟩
      · rename_i e1; rw [if_neg e1] at h2; exact ⟨.exit _, σ', m', ε', rfl, h2, h3, h4, h5⟩
    · exact ⟨.ret, σ', m', ε', trivial, h2, h3, h4, h5⟩
  | .loop keep mod x, c, hc, hw, Q, τ, m, h, ε, a, w, hi, hs, hd => by
    obtain ⟨x', rfl, hx⟩ := comp_loop hc
    simp only [JC.wf, Bool.and_eq_true] at hw
    simp only [JC.wp] at h
    obtain ⟨ι, U, M, ok, μ, i0, hok, hw0, hm0, hround⟩ := h
    have hs0 : SlotsF n ε (ofF mod (U i0) (keepF keep τ)) a := hs.weak fun k => look_of k hw0 (look_keep keep)
    refine wpIn_loop_ghost (fun n' a w => ∃ i ε, μ i = n' ∧ ok i ∧ Inv β ε (M i) w ∧ SlotsF n ε (ofF mod (U i) (keepF keep τ)) a ∧ a.defers = d) (μ i0) ⟨i0, ε, rfl, hok, hm0 ▸ hi, hs0, hd⟩ ?_
    rintro n' a w ⟨i, ε, rfl, hok', hi', hs', hd'⟩
    refine wpI_mono (fun e a' w' he => ?_) (JC.soundIn hΓ hb x x' hx hw.2 _ _ _ (hround i hok') ε a w hi' hs' hd')
    obtain ⟨ex, σ', m', ε', h1, h2, h3, h4, h5⟩ := he
    cases e <;> cases ex <;> simp only [ExRel] at h1
    · obtain ⟨j, hj1, hj2, hj0, hj3, hj4, hj5⟩ := h2
      obtain ⟨ε2, k1, k2⟩ := trim_ok h3 h4 hb hj0 rfl hj5
      exact ⟨μ j, hj2, j, ε2, rfl, hj1, k1, k2.weak fun k => look_ofR k hj3 (same_keepR k hj4), h5⟩
    · exact ⟨_, σ', m', ε', by simp only [ExRel]; exact h1, h2, h3, h4, h5⟩
    · exact ⟨.ret, σ', m', ε', trivial, h2, h3, h4, h5⟩
  | .exit id, c, hc, hw, Q, τ, m, h, ε, a, w, hi, hs, hd => by
    obtain rfl := comp_exit hc
    exact wpIn_exit ⟨.exit id, τ, m, ε, rfl, h, hi, hs, hd⟩
  | .ret, c, hc, hw, Q, τ, m, h, ε, a, w, hi, hs, hd => by
    obtain rfl := comp_ret hc
    exact wpIn_ret ⟨.ret, τ, m, ε, trivial, h, hi, hs, hd⟩
  | .prune ks x, c, hc, hw, Q, τ, m, h, ε, a, w, hi, hs, hd =>
    JC.soundIn hΓ hb x c hc hw Q _ m h ε a w hi (hs.weak fun k => look_keep ks) hd
  | .vecs k T wd' x, c, hc, hw, Q, τ, m, h, ε, a, w, hi, hs, hd => by
    simp only [JC.wf, Bool.and_eq_true, decide_eq_true_eq] at hw
    simp only [JC.wp] at h
    obtain ⟨ε', τ', m', h1, h2, h3⟩ := vecs_ok hi hs hw.1 h
    exact JC.soundIn hΓ hb x c hc hw.2 Q τ' m' h1 ε' a w h2 h3 hd
  | .frz k F x, c, hc, hw, Q, τ, m, h, ε, a, w, hi, hs, hd => by
    simp only [JC.wf, Bool.and_eq_true, decide_eq_true_eq] at hw
    obtain ⟨hP, h⟩ := h
    obtain ⟨ε', h2, h3⟩ := frz_ok hi hs hw.1 hP
    exact JC.soundIn hΓ hb x c hc hw.2 Q _ _ h ε' a w h2 h3 hd
  | .orc s l, c, hc, hw, Q, τ, m, h, ε, a, w, hi, hs, hd => by
    obtain ⟨x', y', z', rfl, hx, hy, hz⟩ := comp_cond hc
    obtain rfl := comp_skip hy
    obtain ⟨id, ops, rfl, hl⟩ := comp_ops hz
    simp only [JC.wf, Bool.and_eq_true, decide_eq_true_eq] at hw
    simp only [JC.wp] at h
    split at h
    · rename_i b e
      obtain ⟨σ, h1, h2⟩ := hs
      have hb : σ.getD s .junk = .bool b := le_eq (h1.le s) e (by intro h; cases h)
      have hv0 := compO_ok hx h2
      simp only [Opd.ev] at hv0
      rw [hb] at hv0
      have hv := sat_bool hv0
      replace h := vc_use h
      generalize he : l.vg Γ m (.t s) τ = pq at h
      obtain ⟨p, q⟩ := pq
      obtain ⟨g1, g2⟩ : (b = (!true) → p) ∧ Q .norm (.put s (.bool (if true = true then b || q else b && q)) (junkF l.dsts τ)) m := h
      have back : ∀ {σ' : List SV}, OutL l.dsts σ σ' → σ'.getD s .junk = .bool (b || q) → Rep n σ' (.put s (.bool (if true = true then b || q else b && q)) (junkF l.dsts τ)) := by
        intro σ' ho e
        have := (h1.junk ho).put hw.1.1 (Le.refl (.bool (b || q)))
        rw [show σ'.set s (.bool (b || q)) = σ' from ?_] at this
        · exact this
        · apply List.ext_getElem?
          intro j
          rw [List.getElem?_set]
          split
          · rename_i e'; subst e'
            have hlt : s < σ'.length := by rw [ho.1, h1.1]; exact hw.1.1
            rw [if_pos hlt]
            rw [List.getD, List.getElem?_eq_getElem hlt] at e
            rw [List.getElem?_eq_getElem hlt]
            exact congrArg some e.symm
          · rfl
      cases b with
      | true =>
        refine wpIn_cond_true hv (wpIn_skip ⟨.norm, _, m, ε, trivial, g2, hi, ⟨σ, back (OutL.refl ..) (by rw [hb]; simp), h2⟩, hd⟩)
      | false =>
        have k := vgn_ok l (.t s) τ σ (fun σ' m' => m' = m ∧ OutL l.dsts σ σ' ∧ σ'.getD s .junk = .bool q) hw.1.2 hw.2 h1 (by rw [he]; exact g1 rfl) (fun σ' ho e => ⟨rfl, ho, by rw [he] at e; exact e⟩)
        refine wpIn_cond_false hv (wpIn_region_list (list_in endsF_in _ _ _ (ops_nodefer hl) <| sops_sound hΓ.hook _ _ σ m _ hl k (fun σ' m' ε' a' w' ⟨hm, ho, e⟩ hi' hs' hd' => ?_) ε a w hi h2 hd))
        subst hm
        exact ⟨.norm, _, m', ε', trivial, g2, hi', ⟨σ', back ho (by rw [e]; simp), hs'⟩, hd'⟩
    · exact h.elim
end Go.Sx
