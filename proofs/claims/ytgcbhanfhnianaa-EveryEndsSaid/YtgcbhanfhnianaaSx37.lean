import Derived.Test.YtgcbhanfhnianaaSx23
import Derived.RangeFuncSeq
import Derived.TacticsIn
import Derived.OrdersIn
import Derived.OwnWalkIn
import Derived.Sort.LoopGhostIn
import Derived.Test.YtgcbhanfhnianaaSx32
/-! Sx, part 33: the walk within a round of a range over a function. -/
set_option linter.unusedVariables false
set_option linter.unusedSimpArgs false
namespace Go.Sx
open Go
variable {P : Program}
abbrev Fw (ro : Option Nat) : Fence := { Fence.wide with round := ro }
theorem calls_fw {ro : Option Nat} {n : Nat} {f : FuncId} {args : Array Value} {w : World} {R : Ending → World → Prop} (h : Calls P f args w R) : CallsIn (Fw ro) n P f args w R :=
  (callsIn_wide (n := n)).2 h
theorem rows_fw {ro : Option Nat} {n : Nat} {row : String} {args : Array Value} {w : World} {R : Value → World → Prop} (h : Rows P row args w R) : RowsIn (Fw ro) n P row args w R :=
  fun c cs _ => let ⟨v, w', r, s⟩ := h c cs; ⟨v, w', r, stepsIn_wide.2 s⟩
theorem oper_in {ro : Option Nat} {n : Nat} {o : Oper} {a : Act} {w : World} {K : Act → World → Prop} {Q : Exit → Act → World → Prop} (hd : ∀ c, o.op ≠ .defer c) (h : o.wp P a w K Q) : o.wpIn (Fw ro) n P a w K Q := by
  refine ⟨fun _ _ => trivial, ?_⟩
  rw [Oper.semAt_eq _ _ _ hd]
  unfold Oper.wp at h
  generalize (execOp a.eval o).run P w = r at h ⊢
  cases r with
  | ok nx w' =>
    cases nx <;> simp only [Oper.upon] at h <;> simp only [Oper.uponIn] <;> first
      | exact h
      | exact ⟨(fun e => by cases e), calls_fw h⟩
      | exact ⟨(fun e => by cases e), rows_fw h⟩
  | halt x w' => cases x <;> simp only [Oper.upon] at h <;> simp only [Oper.uponIn] <;> exact h
theorem list_in {ro : Option Nat} {n : Nat} {ops : Array Oper} {Q : Exit → Act → World → Prop} (hL : ¬ LetsOut Q) : ∀ (l : List Oper) (a : Act) (w : World), (∀ o ∈ l, ∀ c, o.op ≠ .defer c) → wpList P ops Q l a w → wpListIn (Fw ro) n P ops Q l a w
  | [], a, w, _, h => h
  | o :: l, a, w, hd, h => by
    simp only [wpList, wpListIn] at h ⊢
    split
    · rename_i hw
      rw [if_pos hw] at h
      exact oper_in (hd o (by simp)) (Oper.wp_mono (fun a' w' h' => list_in hL l a' w' (fun o' ho' => hd o' (by simp [ho'])) h') (h.resolve_right fun e => hL e.2))
    · rename_i hw
      rw [if_neg hw] at h
      exact ⟨fun _ _ => trivial, list_in hL l _ _ (fun o' ho' => hd o' (by simp [ho'])) h⟩
theorem any_in {ro : Option Nat} {n : Nat} {ops : Array Oper} {md : Region.Mode} {Q : Exit → Act → World → Prop} (hL : ¬ LetsOut Q) (hd : ∀ o ∈ ops.toList, ∀ c, o.op ≠ .defer c) : ∀ (fuel : Nat) (listed : Array Bool) (a : Act) (w : World), wpAny P md ops Q fuel listed a w → wpAnyIn (Fw ro) n P md ops Q fuel listed a w
  | 0, listed, a, w, h => h
  | fuel + 1, listed, a, w, h => by
    simp only [wpAny, wpAnyIn] at h ⊢
    refine ⟨h.1, fun i hi => ?_⟩
    have h' := h.2 i hi
    unfold wpOp at h'
    unfold wpOpIn
    cases ho : ops[i]? with
    | none => rw [ho] at h'; exact any_in hL hd fuel _ _ _ h'
    | some o =>
      rw [ho] at h'
      simp only at h' ⊢
      have hm : o ∈ ops.toList := by
        rw [← Array.getElem?_toList] at ho
        exact List.mem_of_getElem? ho
      split
      · rename_i hw
        rw [if_pos hw] at h'
        exact oper_in (hd o hm) (Oper.wp_mono (fun a' w' h'' => any_in hL hd fuel _ a' w' h'') (h'.resolve_right fun e => hL e.2))
      · rename_i hw
        rw [if_neg hw] at h'
        exact ⟨fun _ _ => trivial, any_in hL hd fuel _ _ _ h'⟩
theorem compOp_nodefer {ops : Array Oper} {o : Oper} {io : IOp} (h : compOp P ops o = some io) : ∀ c, o.op ≠ .defer c := by
  intro c hc
  unfold compOp at h
  rw [hc] at h
  simp only [comp1, compP, compE, compM, Option.map_none] at h
  split at h <;> first | (cases h; done) | (rename_i e; simp at e)
theorem mapM_each {α β : Type _} {f : α → Option β} : ∀ {l : List α} {r : List β}, l.mapM f = some r → ∀ o ∈ l, ∃ y, f o = some y
  | [], _, _, o, ho => by cases ho
  | x :: l, r, h, o, ho => by
    rw [List.mapM_cons] at h
    obtain ⟨y, hy, h⟩ := bind_some h
    obtain ⟨ys, hys, h⟩ := bind_some h
    rcases List.mem_cons.1 ho with e | e
    · subst e; exact ⟨y, hy⟩
    · exact mapM_each hys o e
theorem ops_nodefer {ops : Array Oper} {r : List IOp} (h : ops.toList.mapM (compOp P ops) = some r) : ∀ o ∈ ops.toList, ∀ c, o.op ≠ .defer c := fun o ho => by
  obtain ⟨y, hy⟩ := mapM_each h o ho
  exact compOp_nodefer hy
theorem dops_nodefer {quiet : FuncId → Bool} {ops ops' : Array Oper} {r : List IOp} (h : ops.toList.mapM (compD P quiet ops') = some r) : ∀ o ∈ ops.toList, ∀ c, o.op ≠ .defer c := fun o ho => by
  obtain ⟨y, hy⟩ := mapM_each h o ho
  unfold compD at hy
  simp only [Option.map_eq_some_iff] at hy
  obtain ⟨z, hz, _⟩ := hy
  exact compOp_nodefer hz
theorem perm_nodefer {quiet : FuncId → Bool} {ops : Array Oper} {ord : List Nat} {r : List IOp} (hp : Perm ops ord) (h : (permOps ops ord).toList.mapM (compD P quiet (permOps ops ord)) = some r) : ∀ o ∈ ops.toList, ∀ c, o.op ≠ .defer c := by
  intro o ho
  obtain ⟨i, hi⟩ := List.getElem?_of_mem ho
  rw [Array.getElem?_toList] at hi
  have h1 := hp.at hi
  rw [← Array.getElem?_toList] at h1
  exact dops_nodefer h (renOp ord o) (List.mem_of_getElem? h1)
theorem dops_in {ro : Option Nat} {rm : Nat} {Γ : Hook} {quiet : FuncId → Bool} {id : Nat} {ops : Array Oper} {Q : Exit → Act → World → Prop} (hL : ¬ LetsOut Q) (hΓ : HookOK P Γ) (hmx : P.follows .mixedOrders = true) {β : Base} {d : List Deferred}
    {ios : List IOp} {σ : List SV} {m : List Res} {K : List SV → List Res → Prop} (hc : ops.toList.mapM (compD P quiet ops) = some ios) (hk : chk ops.toList ios = true) (h : dsops Γ (aug ops.toList ios) K σ m)
    (hQ : ∀ σ' m' ε' a' w', K σ' m' → Inv β ε' m' w' → SlotsOK ε' σ' a' → a'.defers = d → Q .normal a' w')
    {ε : Env} {a : Act} {w : World} (hI : Inv β ε m w) (hs : SlotsOK ε σ a) (hd : a.defers = d) : (Code.region id ops true).wpIn (Fw ro) rm P Q a w :=
  wpIn_region_any hmx (any_in hL (dops_nodefer hc) _ _ _ _ (dops_any hΓ hc hk h hQ hI hs hd))
theorem dops2_in {ro : Option Nat} {rm : Nat} {Γ : Hook} {quiet : FuncId → Bool} {id : Nat} {ops : Array Oper} {ord : List Nat} {Q : Exit → Act → World → Prop} (hL : ¬ LetsOut Q) (hΓ : HookOK P Γ) (hmx : P.follows .mixedOrders = true) {β : Base} {d : List Deferred}
    {ios : List IOp} {σ : List SV} {m : List Res} {K : List SV → List Res → Prop} (hpo : permOk ops ord = true) (hc : (permOps ops ord).toList.mapM (compD P (quiet2 quiet) (permOps ops ord)) = some ios) (hk : chk (permOps ops ord).toList ios = true)
    (h : dsops Γ (aug (permOps ops ord).toList ios) K σ m)
    (hQ : ∀ σ' m' ε' a' w', K σ' m' → Inv β ε' m' w' → SlotsOK ε' σ' a' → a'.defers = d → Q .normal a' w')
    {ε : Env} {a : Act} {w : World} (hI : Inv β ε m w) (hs : SlotsOK ε σ a) (hd : a.defers = d) : (Code.region id ops true).wpIn (Fw ro) rm P Q a w := by
  have hp := permOk_ok hpo
  refine wpIn_region_any hmx (any_in hL (perm_nodefer hp hc) _ _ _ _ (hp.any _ _ (Array.replicate ops.size false) a _ (by simp) (by simp) (fun j hj => ?_) ?_))
  · have hno : ∀ j, lst (Array.replicate ops.size false) j = false := by
      intro j
      simp only [lst, Array.getD_eq_getD_getElem?, Array.getElem?_replicate]
      split <;> rfl
    rw [hno, hno]
  · have := dops_any hΓ hc hk h hQ hI hs hd
    rwa [hp.size] at this
theorem gops2_in {ro : Option Nat} {rm : Nat} {Γ : Hook} {quiet : FuncId → Bool} {id : Nat} {ops : Array Oper} {ord : List Nat} {Q : Exit → Act → World → Prop} (hL : ¬ LetsOut Q) (hΓ : HookOK P Γ) (hmx : P.follows .mixedOrders = true) {β : Base} {d0 : List Deferred}
    {ios l lo : List IOp} {d : Nat} {T : TypeId} {z : SV} {σ : List SV} {m : List Res} {K : List SV → List Res → Prop} (hpo : permOk ops ord = true) (hc : (permOps ops ord).toList.mapM (compD P (quiet2 quiet) (permOps ops ord)) = some ios) (hg : compGh P (quiet2 quiet) (permOps ops ord) = some (l, d, T, z, lo))
    (hdl : d < σ.length) (h : dsops Γ l (fun σ' m' => sops Γ lo K (σ'.set d (.ptr m'.length [] 0)) (m' ++ [.blk T z])) (σ.set d .junk) m)
    (hQ : ∀ σ' m' ε' a' w', K σ' m' → Inv β ε' m' w' → SlotsOK ε' σ' a' → a'.defers = d0 → Q .normal a' w')
    {ε : Env} {a : Act} {w : World} (hI : Inv β ε m w) (hs : SlotsOK ε σ a) (hd : a.defers = d0) : (Code.region id ops true).wpIn (Fw ro) rm P Q a w := by
  have hp := permOk_ok hpo
  refine wpIn_region_any hmx (any_in hL (perm_nodefer hp hc) _ _ _ _ (hp.any _ _ (Array.replicate ops.size false) a _ (by simp) (by simp) (fun j hj => ?_) ?_))
  · have hno : ∀ j, lst (Array.replicate ops.size false) j = false := by
      intro j
      simp only [lst, Array.getD_eq_getD_getElem?, Array.getElem?_replicate]
      split <;> rfl
    rw [hno, hno]
  · have := gops_any hΓ hg hdl h hQ hI hs hd
    rwa [hp.size] at this
theorem endsF_in {n : Nat} {β : Base} {d : List Deferred} {Q : Ex → Fr → List Res → Prop} : ¬ LetsOut (EndsF n β d Q) := by
  rintro ⟨a, w, ex, τ, m, ε, h, _⟩
  cases ex <;> exact h
theorem wpI_mono {ro : Option Nat} {rm : Nat} {c : Code} {Q Q' : Exit → Act → World → Prop} {a : Act} {w : World} (hq : ∀ e a w, Q e a w → Q' e a w) (h : c.wpIn (Fw ro) rm P Q a w) : c.wpIn (Fw ro) rm P Q' a w := wpIn_mono h hq
theorem JC.soundIn {ro : Option Nat} {rm : Nat} {Γ : FH} (hΓ : FHOK P Γ) {quiet : FuncId → Bool} {n0 n : Nat} {β : Base} (hb : β.ε.n ≤ n0) {d : List Deferred} : ∀ (jc : JC) (c : Code), comp P quiet c = some jc.flat → jc.wf n = true → ∀ (Q : Ex → Fr → List Res → Prop) (τ : Fr) (m : List Res), jc.wp Γ n0 Q τ m →
    ∀ ε a w, Inv β ε m w → SlotsF n ε τ a → a.defers = d → c.wpIn (Fw ro) rm P (EndsF n β d Q) a w
  | .skip, c, hc, hw, Q, τ, m, h, ε, a, w, hi, hs, hd => by
    obtain rfl := comp_skip hc
    exact wpIn_skip ⟨.norm, τ, m, ε, trivial, h, hi, hs, hd⟩
  | .ops l, c, hc, hw, Q, τ, m, h, ε, a, w, hi, hs, hd => by
    obtain ⟨id, ops, rfl, hl⟩ := comp_ops hc
    obtain ⟨σ, h1, h2⟩ := hs
    have k := wp_ok l τ σ m (Q .norm) (fun σ' m' => ∃ τ', Rep n σ' τ' ∧ Q .norm τ' m') hw h1 h (fun σ' τ' m' hr hq => ⟨τ', hr, hq⟩)
    exact wpIn_region_list (list_in endsF_in _ _ _ (ops_nodefer hl) <| sops_sound hΓ.hook _ _ σ m _ hl k (fun σ' m' ε' a' w' ⟨τ', hr, hq⟩ hi' hs' hd' => ⟨.norm, τ', m', ε', trivial, hq, hi', ⟨σ', hr, hs'⟩, hd'⟩) ε a w hi h2 hd)
  | .dops l, c, hc, hw, Q, τ, m, h, ε, a, w, hi, hs, hd => by
    obtain ⟨id, ops, rfl, hf, hcase⟩ := comp_dops hc
    obtain ⟨σ, h1, h2⟩ := hs
    have k := wp_ok l τ σ m _ (fun σ' m' => ∃ τ', Rep n σ' τ' ∧ tidyF n0 m (Q .norm) τ' m') hw h1 h (fun σ' τ' m' hr hq => ⟨τ', hr, hq⟩)
    have k : dsops _ (l.flat none) _ σ m := k
    have fin : ∀ σ' m' ε' a' w', (∃ τ', Rep n σ' τ' ∧ tidyF n0 m (Q .norm) τ' m') → Inv β ε' m' w' → SlotsOK ε' σ' a' → a'.defers = d → EndsF n β d Q .normal a' w' := by
      rintro σ' m' ε' a' w' ⟨τ', hr, hq⟩ hi' hs' hd'
      obtain ⟨τ2, m2, ε2, k1, k2, k3⟩ := tidyF_ok hq hi' ⟨σ', hr, hs'⟩ hb
      exact ⟨.norm, τ2, m2, ε2, trivial, k1, k2, k3, hd'⟩
    rcases hcase with ⟨l0, hl0, hl, hk⟩ | ⟨ord, l0, hl0, hpo, hl, hk⟩
    · rw [hl0] at k
      exact dops_in endsF_in hΓ.hook hf hl hk k (β := β) (d := d) fin hi h2 hd
    · rw [hl0] at k
      exact dops2_in endsF_in hΓ.hook hf hpo hl hk k (β := β) (d := d) fin hi h2 hd
  | .gops l x T z lo, c, hc, hw, Q, τ, m, h, ε, a, w, hi, hs, hd => by
    obtain ⟨id, ops, ord, ios, rfl, hf, hpo, hi2, hg⟩ := comp_gops hc
    obtain ⟨σ, h1, h2⟩ := hs
    simp only [JC.wf, Bool.and_eq_true, decide_eq_true_eq] at hw
    refine gops2_in endsF_in hΓ.hook hf hpo hi2 hg (β := β) (d0 := d) (by rw [h1.1]; exact hw.2.2) (gops_go hw.1 hw.2.1 hw.2.2 h1 h) ?_ hi h2 hd
    rintro σ' m' ε' a' w' ⟨τ', hr, hq⟩ hi' hs' hd'
    obtain ⟨τ2, m2, ε2, k1, k2, k3⟩ := tidyF_ok hq hi' ⟨σ', hr, hs'⟩ hb
    exact ⟨.norm, τ2, m2, ε2, trivial, k1, k2, k3, hd'⟩
  | .seq x y, c, hc, hw, Q, τ, m, h, ε, a, w, hi, hs, hd => by
    obtain ⟨x', y', rfl, hx, hy⟩ := comp_seq hc
    simp only [JC.wf, Bool.and_eq_true] at hw
    simp only [JC.wp] at h
    refine wpIn_seq (wpI_mono (fun e a' w' he => ?_) (JC.soundIn hΓ hb x x' hx hw.1 _ τ m h ε a w hi hs hd))
    obtain ⟨ex, σ', m', ε', h1, h2, h3, h4, h5⟩ := he
    cases e <;> cases ex <;> simp only [ExRel] at h1
    · exact JC.soundIn hΓ hb y y' hy hw.2 Q σ' m' h2 ε' a' w' h3 h4 h5
    · exact ⟨_, σ', m', ε', by simp only [ExRel]; exact h1, h2, h3, h4, h5⟩
    · exact ⟨.ret, σ', m', ε', trivial, h2, h3, h4, h5⟩
  | .cond x y z, c, hc, hw, Q, τ, m, h, ε, a, w, hi, hs, hd => by
    obtain ⟨x', y', z', rfl, hx, hy, hz⟩ := comp_cond hc
    simp only [JC.wf, Bool.and_eq_true] at hw
    simp only [JC.wp] at h
    split at h
    · rename_i t ht
      obtain ⟨σ, h1, h2⟩ := hs
      have hv0 := compO_ok hx h2
      rw [le_eq (h1.fv x) ht (by intro h; cases h)] at hv0
      have hv := sat_bool hv0
      cases t with
      | true => exact wpIn_cond_true hv (JC.soundIn hΓ hb y y' hy hw.1 Q τ m (h.1 rfl) ε a w hi ⟨σ, h1, h2⟩ hd)
      | false => exact wpIn_cond_false hv (JC.soundIn hΓ hb z z' hz hw.2 Q τ m (h.2 rfl) ε a w hi ⟨σ, h1, h2⟩ hd)
    · rename_i ht
      obtain ⟨σ, h1, h2⟩ := hs
      have hv0 := compO_ok hx h2
      rw [le_eq (h1.fv x) ht (by intro h; cases h)] at hv0
      obtain ⟨cs, k1, hv⟩ := hv0
      simp only [SatC] at k1
      obtain ⟨t, rfl⟩ := k1
      cases t with
      | true => exact wpIn_cond_true hv (JC.soundIn hΓ hb y y' hy hw.1 Q τ m h.1 ε a w hi ⟨σ, h1, h2⟩ hd)
      | false => exact wpIn_cond_false hv (JC.soundIn hΓ hb z z' hz hw.2 Q τ m h.2 ε a w hi ⟨σ, h1, h2⟩ hd)
    · exact h.elim
  | .block id x, c, hc, hw, Q, τ, m, h, ε, a, w, hi, hs, hd => by
    obtain ⟨x', rfl, hx⟩ := comp_block hc
    simp only [JC.wp] at h
    refine wpIn_block (wpI_mono (fun e a' w' he => ?_) (JC.soundIn hΓ hb x x' hx hw _ τ m h ε a w hi hs hd))
    obtain ⟨ex, σ', m', ε', h1, h2, h3, h4, h5⟩ := he
    cases e <;> cases ex <;> simp only [ExRel] at h1
    · exact ⟨.norm, σ', m', ε', trivial, h2, h3, h4, h5⟩
    · subst h1
      simp only [Exit.inBlock]
      simp only at h2
      split
      · rename_i e1; rw [if_pos e1] at h2; exact ⟨.norm, σ', m', ε', trivial, h2, h3, h4, h5⟩
      · rename_i e1; rw [if_neg e1] at h2; exact ⟨.exit _, σ', m', ε', rfl, h2, h3, h4, h5⟩
    · exact ⟨.ret, σ', m', ε', trivial, h2, h3, h4, h5⟩
  | .loop keep mod x, c, hc, hw, Q, τ, m, h, ε, a, w, hi, hs, hd => by
    obtain ⟨x', rfl, hx⟩ := comp_loop hc
    simp only [JC.wf, Bool.and_eq_true] at hw
    simp only [JC.wp] at h
    obtain ⟨ι, U, M, ok, μ, i0, hok, hw0, hm0, hround⟩ := h
    have hs0 : SlotsF n ε (ofF mod (U i0) (keepF keep τ)) a := hs.weak fun k => look_of k hw0 (look_keep keep)
    refine wpIn_loop_ghost (fun n' a w => ∃ i ε, μ i = n' ∧ ok i ∧ Inv β ε (M i) w ∧ SlotsF n ε (ofF mod (U i) (keepF keep τ)) a ∧ a.defers = d) (μ i0) ⟨i0, ε, rfl, hok, hm0 ▸ hi, hs0, hd⟩ ?_
    rintro n' a w ⟨i, ε, rfl, hok', hi', hs', hd'⟩
    refine wpI_mono (fun e a' w' he => ?_) (JC.soundIn hΓ hb x x' hx hw.2 _ _ _ (hround i hok') ε a w hi' hs' hd')
    obtain ⟨ex, σ', m', ε', h1, h2, h3, h4, h5⟩ := he
    cases e <;> cases ex <;> simp only [ExRel] at h1
    · obtain ⟨j, hj1, hj2, hj0, hj3, hj4, hj5⟩ := h2
      obtain ⟨ε2, k1, k2⟩ := trim_ok h3 h4 hb hj0 rfl hj5
      exact ⟨μ j, hj2, j, ε2, rfl, hj1, k1, k2.weak fun k => look_ofR k hj3 (same_keepR k hj4), h5⟩
    · exact ⟨_, σ', m', ε', by simp only [ExRel]; exact h1, h2, h3, h4, h5⟩
    · exact ⟨.ret, σ', m', ε', trivial, h2, h3, h4, h5⟩
  | .exit id, c, hc, hw, Q, τ, m, h, ε, a, w, hi, hs, hd => by
    obtain rfl := comp_exit hc
    exact wpIn_exit ⟨.exit id, τ, m, ε, rfl, h, hi, hs, hd⟩
  | .ret, c, hc, hw, Q, τ, m, h, ε, a, w, hi, hs, hd => by
    obtain rfl := comp_ret hc
    exact wpIn_ret ⟨.ret, τ, m, ε, trivial, h, hi, hs, hd⟩
  | .prune ks x, c, hc, hw, Q, τ, m, h, ε, a, w, hi, hs, hd =>
    JC.soundIn hΓ hb x c hc hw Q _ m h ε a w hi (hs.weak fun k => look_keep ks) hd
  | .vecs k T wd' x, c, hc, hw, Q, τ, m, h, ε, a, w, hi, hs, hd => by
    simp only [JC.wf, Bool.and_eq_true, decide_eq_true_eq] at hw
    simp only [JC.wp] at h
    obtain ⟨ε', τ', m', h1, h2, h3⟩ := vecs_ok hi hs hw.1 h
    exact JC.soundIn hΓ hb x c hc hw.2 Q τ' m' h1 ε' a w h2 h3 hd
  | .sel ks x, c, hc, hw, Q, τ, m, h, ε, a, w, hi, hs, hd => by
    simp only [JC.wp] at h
    refine wpI_mono (fun e a' w' he => ?_) (JC.soundIn hΓ hb x c hc hw _ τ m h ε a w hi hs hd)
    obtain ⟨ex, τ', m', ε', h1, h2, h3, h4, h5⟩ := he
    cases ex with
    | norm =>
      obtain ⟨τ2, m2, ε2, k1, k2, k3⟩ := selF_ok h2 h3 h4 hb
      exact ⟨.norm, τ2, m2, ε2, h1, k1, k2, k3, h5⟩
    | exit i => exact ⟨.exit i, τ', m', ε', h1, h2, h3, h4, h5⟩
    | ret => exact ⟨.ret, τ', m', ε', h1, h2, h3, h4, h5⟩
  | .pfz k F x, c, hc, hw, Q, τ, m, h, ε, a, w, hi, hs, hd => by
    simp only [JC.wf, Bool.and_eq_true, decide_eq_true_eq] at hw
    simp only [JC.wp] at h
    refine wpI_mono (fun e a' w' he => ?_) (JC.soundIn hΓ hb x c hc hw.2 _ τ m h ε a w hi hs hd)
    obtain ⟨ex, τ', m', ε', h1, h2, h3, h4, h5⟩ := he
    cases ex with
    | norm =>
      obtain ⟨ε2, τ2, m2, k1, k2, k3⟩ := frzv_ok h3 h4 hw.1 h2
      exact ⟨.norm, τ2, m2, ε2, h1, k1, k2, k3, h5⟩
    | exit i => exact ⟨.exit i, τ', m', ε', h1, h2, h3, h4, h5⟩
    | ret => exact ⟨.ret, τ', m', ε', h1, h2, h3, h4, h5⟩
  | .frzv k F x, c, hc, hw, Q, τ, m, h, ε, a, w, hi, hs, hd => by
    simp only [JC.wf, Bool.and_eq_true, decide_eq_true_eq] at hw
    simp only [JC.wp] at h
    obtain ⟨ε', τ', m', h1, h2, h3⟩ := frzv_ok hi hs hw.1 h
    exact JC.soundIn hΓ hb x c hc hw.2 Q τ' m' h1 ε' a w h2 h3 hd
  | .frzb k F x, c, hc, hw, Q, τ, m, h, ε, a, w, hi, hs, hd => by
    simp only [JC.wp] at h
    obtain ⟨ε', m', h1, h2, h3⟩ := frzb_ok hi hs h
    exact JC.soundIn hΓ hb x c hc hw Q τ m' h1 ε' a w h2 h3 hd
  | .frz k F x, c, hc, hw, Q, τ, m, h, ε, a, w, hi, hs, hd => by
    simp only [JC.wf, Bool.and_eq_true, decide_eq_true_eq] at hw
    obtain ⟨hP, h⟩ := h
    obtain ⟨ε', h2, h3⟩ := frz_ok hi hs hw.1 hP
    exact JC.soundIn hΓ hb x c hc hw.2 Q _ _ h ε' a w h2 h3 hd
  | .orc s l, c, hc, hw, Q, τ, m, h, ε, a, w, hi, hs, hd => by
    obtain ⟨x', y', z', rfl, hx, hy, hz⟩ := comp_cond hc
    obtain rfl := comp_skip hy
    obtain ⟨id, ops, rfl, hl⟩ := comp_ops hz
    simp only [JC.wf, Bool.and_eq_true, decide_eq_true_eq] at hw
    simp only [JC.wp] at h
    split at h
    · rename_i b e
      obtain ⟨σ, h1, h2⟩ := hs
      have hb : σ.getD s .junk = .bool b := le_eq (h1.le s) e (by intro h; cases h)
      have hv0 := compO_ok hx h2
      simp only [Opd.ev] at hv0
      rw [hb] at hv0
      have hv := sat_bool hv0
      replace h := vc_use h
      generalize he : l.vg Γ m (.t s) τ = pq at h
      obtain ⟨p, q⟩ := pq
      obtain ⟨g1, g2⟩ : (b = (!true) → p) ∧ Q .norm (.put s (.bool (if true = true then b || q else b && q)) (junkF l.dsts τ)) m := h
      have back : ∀ {σ' : List SV}, OutL l.dsts σ σ' → σ'.getD s .junk = .bool (b || q) → Rep n σ' (.put s (.bool (if true = true then b || q else b && q)) (junkF l.dsts τ)) := by
        intro σ' ho e
        have := (h1.junk ho).put hw.1.1 (Le.refl (.bool (b || q)))
        rw [show σ'.set s (.bool (b || q)) = σ' from ?_] at this
        · exact this
        · apply List.ext_getElem?
          intro j
          rw [List.getElem?_set]
          split
          · rename_i e'; subst e'
            have hlt : s < σ'.length := by rw [ho.1, h1.1]; exact hw.1.1
            rw [if_pos hlt]
            rw [List.getD, List.getElem?_eq_getElem hlt] at e
            rw [List.getElem?_eq_getElem hlt]
            exact congrArg some e.symm
          · rfl
      cases b with
      | true =>
        refine wpIn_cond_true hv (wpIn_skip ⟨.norm, _, m, ε, trivial, g2, hi, ⟨σ, back (OutL.refl ..) (by rw [hb]; simp), h2⟩, hd⟩)
      | false =>
        have k := vgn_ok l (.t s) τ σ (fun σ' m' => m' = m ∧ OutL l.dsts σ σ' ∧ σ'.getD s .junk = .bool q) hw.1.2 hw.2 h1 (by rw [he]; exact g1 rfl) (fun σ' ho e => ⟨rfl, ho, by rw [he] at e; exact e⟩)
        refine wpIn_cond_false hv (wpIn_region_list (list_in endsF_in _ _ _ (ops_nodefer hl) <| sops_sound hΓ.hook _ _ σ m _ hl k (fun σ' m' ε' a' w' ⟨hm, ho, e⟩ hi' hs' hd' => ?_) ε a w hi h2 hd))
        subst hm
        exact ⟨.norm, _, m', ε', trivial, g2, hi', ⟨σ', back ho (by rw [e]; simp), hs'⟩, hd'⟩
    · exact h.elim
end Go.Sx
/-! Sx, part 34: what lasts from round to round; a round. -/
set_option linter.unusedVariables false
set_option linter.unusedSimpArgs false
namespace Go.Sx
open Go
variable {P : Program}
structure EnvP (ε ε' : Env) : Prop where
  n : ε.n ≤ ε'.n
  blk : ∀ i, i < ε.n → ε'.blk i = ε.blk i
  H : ∀ b o, ε.H b = some o → ε'.H b = some o
theorem EnvP.trans {a b c : Env} (h : EnvP a b) (k : EnvP b c) : EnvP a c :=
  ⟨Nat.le_trans h.n k.n, fun i hi => (k.blk i (Nat.lt_of_lt_of_le hi h.n)).trans (h.blk i hi), fun b o h' => k.H b o (h.H b o h')⟩
theorem EnvP.refl (ε : Env) : EnvP ε ε := ⟨Nat.le_refl _, fun _ _ => rfl, fun _ _ h => h⟩
theorem EnvP.cl {ε ε' : Env} (h : EnvP ε ε') : ε.cl.Le ε'.cl := ⟨Nat.le_refl _, fun _ hi => absurd hi (Nat.not_lt_zero _), fun _ hi => absurd hi (Nat.not_lt_zero _), h.H⟩
mutual
def pers : SV → Prop
  | .agg l => persL l
  | .fn _ l => persL l
  | .tup l => persL l
  | .arr .. => False
  | .iface .. => False
  | .vec .. => False
  | .vptr .. => False
  | .pvec .. => False
  | _ => True
def persL : List SV → Prop
  | [] => True
  | x :: r => pers x ∧ persL r
end
mutual
theorem pers_sat : ∀ (x : SV) {ε ε' : Env} {cs : List Value}, pers x → EnvP ε ε' → SatC x ε cs → SatC x ε' cs
  | .int .., _, _, _, _, _, h => h
  | .bool .., _, _, _, _, _, h => h
  | .str .., _, _, _, _, _, h => h
  | .arr .., _, _, _, hp, _, _ => hp.elim
  | .agg l, _, _, _, hp, hl, h => by simp only [SatC] at h ⊢; exact persL_sat l hp hl h
  | .tup _, _, _, _, _, _, h => h
  | .lst w d f l, _, _, _, _, hl, h => by
    simp only [SatC] at h ⊢
    obtain ⟨ao, cap, h1, h2, h3, h4, h5⟩ := h
    refine ⟨ao, cap, h1, h2, h3, h4, fun i hi => ?_⟩
    obtain ⟨b, off, T, fz, cur, e1, e2, e3, e4⟩ := h5 i hi
    exact ⟨b, off, T, fz, cur, e1, hl.H _ _ e2, e3, SatC.mono (f (l.getD i d)) hl.cl e4⟩
  | .lit w d f l, _, _, _, _, hl, h => by
    simp only [SatC] at h ⊢
    obtain ⟨ao, h1, h3, h4, h5⟩ := h
    refine ⟨ao, h1, h3, h4, fun i hi => ?_⟩
    obtain ⟨b, off, T, fz, cur, e1, e2, e3, e4⟩ := h5 i hi
    exact ⟨b, off, T, fz, cur, e1, hl.H _ _ e2, e3, SatC.mono (f (l.getD i d)) hl.cl e4⟩
  | .eptr w d f l i p o, _, _, _, _, hl, h => by
    simp only [SatC] at h ⊢
    obtain ⟨b, off, T, fz, cur, h1, h2, h3, h4, h5, h6⟩ := h
    exact ⟨b, off, T, fz, cur, h1, h2, hl.H _ _ h3, h4, h5, SatC.mono (f (l.getD i d)) hl.cl h6⟩
  | .ref c p o, _, _, _, _, hl, h => by
    simp only [SatC] at h ⊢
    obtain ⟨b, T, fz, cur, h1, h2, h3, h4⟩ := h
    exact ⟨b, T, fz, cur, h1, hl.H _ _ h2, h3, SatC.mono c hl.cl h4⟩
  | .ptr i p o, _, _, _, _, hl, h => by
    simp only [SatC] at h ⊢
    exact ⟨Nat.lt_of_lt_of_le h.1 hl.n, h.2.1, by rw [hl.blk i h.1]; exact h.2.2⟩
  | .vec .., _, _, _, hp, _, _ => hp.elim
  | .vptr .., _, _, _, hp, _, _ => hp.elim
  | .pvec .., _, _, _, hp, _, _ => hp.elim
  | .map i, _, _, _, _, hl, h => by
    simp only [SatC] at h ⊢
    exact ⟨Nat.lt_of_lt_of_le h.1 hl.n, by rw [hl.blk i h.1]; exact h.2⟩
  | .fn f cap, _, _, _, hp, hl, h => by
    simp only [SatC] at h ⊢
    obtain ⟨vs, h1, h2⟩ := h
    exact ⟨vs, persA_sat cap hp hl h1, h2⟩
  | .iface .., _, _, _, hp, _, _ => hp.elim
  | .nils, _, _, _, _, _, h => h
  | .nili, _, _, _, _, _, h => h
  | .nilf, _, _, _, _, _, h => h
  | .nilp, _, _, _, _, _, h => h
  | .nilm, _, _, _, _, _, h => h
  | .anyb, _, _, _, _, _, h => h
  | .raw _, _, _, _, _, _, h => h
  | .junk, _, _, _, _, _, h => h
theorem persL_sat : ∀ (l : List SV) {ε ε' : Env} {cs : List Value}, persL l → EnvP ε ε' → SatL l ε cs → SatL l ε' cs
  | [], _, _, _, _, _, h => h
  | x :: r, _, _, _, hp, hl, h => by
    simp only [SatL] at h ⊢
    obtain ⟨a, b, h1, h2, h3⟩ := h
    exact ⟨a, b, h1, pers_sat x hp.1 hl h2, persL_sat r hp.2 hl h3⟩
theorem persA_sat : ∀ (l : List SV) {ε ε' : Env} {vs : List Value}, persL l → EnvP ε ε' → SatA l ε vs → SatA l ε' vs
  | [], _, _, _, _, _, h => h
  | x :: r, _, _, _, hp, hl, h => by
    simp only [SatA] at h ⊢
    obtain ⟨cs, t, h1, h2, h3⟩ := h
    exact ⟨cs, t, h1, pers_sat x hp.1 hl h2, persA_sat r hp.2 hl h3⟩
end
theorem persV_sat {x : SV} {ε ε' : Env} {v : Value} (hp : pers x) (hl : EnvP ε ε') (h : SatV ε x v) : SatV ε' x v := by
  cases x
  case tup l => obtain ⟨vs, h1, h2⟩ := h; exact ⟨vs, persA_sat l hp hl h1, h2⟩
  case junk => trivial
  all_goals (obtain ⟨cs, h1, h2⟩ := h; exact ⟨cs, pers_sat _ hp hl h1, h2⟩)
def persF : Fr → Prop
  | .nil => True
  | .put _ x r => pers x ∧ persF r
  | .pick _ _ x r => pers x ∧ persF r
theorem pers_look {k : Nat} : ∀ {τ : Fr}, persF τ → pers (look k τ)
  | .nil, _ => trivial
  | .put j x r, h => by
    simp only [look]
    split
    · exact h.1
    · exact pers_look h.2
  | .pick s d x r, h => by
    simp only [look]
    split
    · exact h.1
    · split
      · trivial
      · exact pers_look h.2
theorem SlotsF.pers {n : Nat} {ε ε' : Env} {τ : Fr} {a : Act} (h : SlotsF n ε τ a) (hp : persF τ) (hl : EnvP ε ε') : SlotsF n ε' τ a := by
  have hv := h.sat
  obtain ⟨σ, h1, h2⟩ := h
  refine ⟨(List.range n).map (fun k => look k τ), ⟨by simp, fun k => ?_⟩, ⟨by simp; rw [← h2.1, h1.1], fun k => ?_⟩⟩
  · rcases h1.2 k with e | ⟨e1, e2⟩
    · exact .inl e
    · right
      refine ⟨e1, ?_⟩
      simp [List.getD, e1]
  · by_cases hk : k < n
    · have : ((List.range n).map (fun k => look k τ)).getD k .junk = look k τ := by simp [List.getD, hk]
      rw [this]
      exact persV_sat (pers_look hp) hl (hv k)
    · have : ((List.range n).map (fun k => look k τ)).getD k .junk = .junk := by simp [List.getD, hk]
      rw [this]; trivial

structure Clear (β : Base) (l : Nat) : Prop where
  lt : l < β.w.heap.size
  B : ¬ β.B l
  H : β.ε.H l = none
theorem Inv.clear {β : Base} {ε : Env} {m : List Res} {w : World} (h : Inv β ε m w) {l : Nat} (c : Clear β l) : w.heap[l]? = β.w.heap[l]? ∧ (∀ i, ownR ε i (memAt m i) ≠ some l) ∧ ε.H l = none ∧ l < w.heap.size := by
  refine ⟨h.kept.heap l c.lt c.B, fun i e => ?_, ?_, Nat.lt_of_lt_of_le c.lt h.kept.size⟩
  · rcases h.own i l e with h' | h'
    · exact c.B h'
    · have := c.lt; omega
  · cases e : ε.H l with
    | none => rfl
    | some o =>
      rcases h.kept.fresh l o e with h' | h' | h'
      · rw [c.H] at h'; cases h'
      · have := c.lt; omega
      · exact absurd h' c.B
theorem Good.world {ε : Env} {m : List Res} {w W : World} (g : Good ε m w) (ho : ∀ i b, ownR ε i (memAt m i) = some b → W.heap[b]? = w.heap[b]?) (hH : ∀ b o, ε.H b = some o → W.heap[b]? = w.heap[b]?) : Good ε m W := by
  refine ⟨g.n, fun i => ?_, g.disj, g.sep, fun b o hb => (hH b o hb).trans (g.hv b o hb)⟩
  have hr := g.res i
  have ho := ho i
  cases hm : memAt m i with
  | dead => trivial
  | blk T c =>
    rw [hm] at hr ho
    obtain ⟨cs, h1, h2⟩ := hr
    exact ⟨cs, by rw [ho _ rfl]; exact h1, h2⟩
  | vec T wd l =>
    rw [hm] at hr ho
    obtain ⟨xs, h1, h2⟩ := hr
    refine ⟨xs, ⟨h1.1, ?_⟩, h2⟩
    rcases h1.2 with hx | ⟨gg, cap, cur, e1, e2, e3, e4⟩
    · exact .inl hx
    · exact .inr ⟨gg, cap, cur, e1, e2, by rw [ho gg (by simp [ownR, e1, Value.ownBlock])]; exact e3, e4⟩
  | mp ek ev l =>
    rw [hm] at hr ho
    obtain ⟨es, cl, h1, h2⟩ := hr
    exact ⟨es, cl, by rw [ho _ rfl]; exact h1, h2⟩
theorem Inv.world {β : Base} {ε : Env} {m : List Res} {w W : World} (h : Inv β ε m w) (h1 : W.os = w.os) (h2 : W.tape = w.tape) (h3 : W.output = w.output) (h4 : w.heap.size ≤ W.heap.size) (h5 : w.drawn ≤ W.drawn)
    (hb : ∀ b, b < w.heap.size → W.heap[b]? = w.heap[b]? ∨ (β.w.heap.size ≤ b ∧ (∀ i, ownR ε i (memAt m i) ≠ some b) ∧ ε.H b = none)) : Inv β ε m W := by
  refine ⟨h.good.world (fun i b e => ?_) (fun b o e => ?_), ⟨h1.trans h.kept.os, h2.trans h.kept.tape, h3.trans h.kept.output, Nat.le_trans h.kept.size h4, fun b hlt hB => ?_, h.kept.H, h.kept.fresh, Nat.le_trans h.kept.drawn h5⟩, h.own, h.n, h.blk, h.vv⟩
  · rcases hb b (ownR_lt h.good e) with k | ⟨_, k, _⟩
    · exact k
    · exact absurd e (k i)
  · rcases hb b (H_lt h.good e) with k | ⟨_, _, k⟩
    · exact k
    · rw [e] at k; cases k
  · rcases hb b (Nat.lt_of_lt_of_le hlt h.kept.size) with k | ⟨k, _⟩
    · rw [k]; exact h.kept.heap b hlt hB
    · omega
def ownB (ε : Env) (m : List Res) : Nat → Prop := fun b => ∃ i, ownR ε i (memAt m i) = some b
theorem Inv.trans {β : Base} {ε ε' : Env} {m m' : List Res} {w w' : World} (h : Inv β ε m w) (k : Inv ⟨w, ε, ownB ε m⟩ ε' m' w') (hv : ∀ i, i < β.ε.n → (memAt m' i).isBlk = true → (memAt m i).isBlk = true) : Inv β ε' m' w' ∧ EnvP ε ε' := by
  have hB : ∀ b, b < β.w.heap.size → ¬ β.B b → ¬ ownB ε m b := by
    rintro b hlt hb ⟨i, hi⟩
    rcases h.own i b hi with h' | h'
    · exact hb h'
    · omega
  refine ⟨⟨k.good, ⟨k.kept.os.trans h.kept.os, k.kept.tape.trans h.kept.tape, k.kept.output.trans h.kept.output, Nat.le_trans h.kept.size k.kept.size, fun b hlt hb => ?_, fun b o e => k.kept.H b o (h.kept.H b o e), fun b o e => ?_, Nat.le_trans h.kept.drawn k.kept.drawn⟩, fun i b e => ?_, Nat.le_trans h.n k.n, fun i hi => ?_, fun i hi hb => ?_⟩, ⟨k.n, k.blk, k.kept.H⟩⟩
  · exact (k.kept.heap b (Nat.lt_of_lt_of_le hlt h.kept.size) (hB b hlt hb)).trans (h.kept.heap b hlt hb)
  · have hs := h.kept.size
    rcases k.kept.fresh b o e with e1 | e1 | ⟨i, e1⟩
    · exact h.kept.fresh b o e1
    · exact .inr (.inl (Nat.le_trans hs e1))
    · rcases h.own i b e1 with e2 | e2
      · exact .inr (.inr e2)
      · exact .inr (.inl e2)
  · have hs := h.kept.size
    rcases k.own i b e with ⟨j, e1⟩ | e1
    · exact h.own j b e1
    · exact .inr (Nat.le_trans hs e1)
  · exact (k.blk i (Nat.lt_of_lt_of_le hi h.n)).trans (h.blk i hi)
  · exact (k.vv i (Nat.lt_of_lt_of_le hi h.n) hb).trans (h.vv i hi (hv i hi hb))
def bkOK : List Res → List Res → Prop
  | x :: m, y :: m1 => (y.isBlk = true → x.isBlk = true) ∧ bkOK m m1
  | _, _ => True
theorem bkOK_at : ∀ {m m1 : List Res} {i : Nat}, bkOK m m1 → i < m.length → (memAt m1 i).isBlk = true → (memAt m i).isBlk = true
  | [], _, _, _, hi, _ => absurd hi (Nat.not_lt_zero _)
  | x :: m, [], i, _, _, h => by simp [memAt, Res.isBlk] at h
  | x :: m, y :: m1, 0, hb, _, h => hb.1 h
  | x :: m, y :: m1, i + 1, hb, hi, h => by
    have e1 : memAt (y :: m1) (i + 1) = memAt m1 i := rfl
    have e2 : memAt (x :: m) (i + 1) = memAt m i := rfl
    rw [e1] at h
    rw [e2]
    exact bkOK_at hb.2 (by simpa using hi) h
def intsOK : List SV → List Value → Prop
  | [], [] => True
  | .int k n :: xs, v :: vs => v = .int k n ∧ intsOK xs vs
  | _, _ => False
theorem SlotsF.putv {n : Nat} {ε : Env} {τ : Fr} {a : Act} (h : SlotsF n ε τ a) {k : Nat} (hk : k < n) {x : SV} {v : Value} (hx : SatV ε x v) : SlotsF n ε (.put k x τ) (a.put (some k) v) := by
  obtain ⟨σ, h1, h2⟩ := h
  exact ⟨σ.set k x, h1.put hk (Le.refl _), h2.put hx (some k)⟩
end Go.Sx
/-! Sx, part 35: an iterator: code with one call of yield. -/
set_option linter.unusedVariables false
set_option linter.unusedSimpArgs false
namespace Go.Sx
open Go
variable {P : Program}
theorem sops_inC {ro : Option Nat} {rm : Nat} {Γ : Hook} (hΓ : HookOK P Γ) {ops : Array Oper} {Q : Exit → Act → World → Prop} {β : Base} {d : List Deferred} {rest : List Oper} : ∀ (l : List Oper) (ios : List IOp) (σ : List SV) (m : List Res) (K : List SV → List Res → Prop),
    l.mapM (compOp P ops) = some ios → sops Γ ios K σ m → (∀ σ' m' ε' a' w', K σ' m' → Inv β ε' m' w' → SlotsOK ε' σ' a' → a'.defers = d → wpListIn (Fw ro) rm P ops Q rest a' w') →
    ∀ ε a w, Inv β ε m w → SlotsOK ε σ a → a.defers = d → wpListIn (Fw ro) rm P ops Q (l ++ rest) a w
  | [], ios, σ, m, K, hc, h, hK, ε, a, w, hi, hs, hd => by
    simp at hc; subst hc
    exact hK σ m ε a w h hi hs hd
  | o :: l, ios, σ, m, K, hc, h, hK, ε, a, w, hi, hs, hd => by
    simp only [List.mapM_cons, bind, Option.pure_def] at hc
    obtain ⟨io, ho, hc⟩ := bind_some hc
    obtain ⟨ios', hc', hc⟩ := bind_some hc
    simp only [Option.some.injEq] at hc
    subst hc
    have hnd := compOp_nodefer ho
    simp only [compOp] at ho
    split at ho <;> try (cases ho; done)
    rename_i g x hg hx
    simp only [Option.some.injEq] at ho; subst ho
    simp only [sops] at h
    have go : ∀ σ1, SlotsOK ε σ1 a → opK Γ σ1 m (fun σ' sv m' => sops Γ ios' K (putS o.dst sv σ') m') x → o.wpIn (Fw ro) rm P a w (wpListIn (Fw ro) rm P ops Q (l ++ rest)) Q := by
      intro σ1 hs1 h1
      obtain ⟨σ', sv, m', h2, hE⟩ := opK_sound hΓ hx h1
      refine Oper.wpIn_mono ?_ (oper_in hnd (hE β ε a w hi hs1 Q))
      rintro a' w' ⟨v, ε', rfl, hv, hs', hi'⟩
      exact sops_inC hΓ l ios' _ _ K hc' h2 hK ε' _ w' hi' (hs'.put hv o.dst) (by rw [put_defers]; exact hd)
    simp only [List.cons_append, wpListIn]
    cases g with
    | none =>
      have hgn : o.guard = none := by
        cases hog : o.guard with
        | none => rfl
        | some g => rw [hog] at hg; simp only [compG] at hg; split at hg <;> cases hg
      rw [if_pos (by simp [Region.wanted, hgn])]
      exact go σ hs h
    | some g =>
      obtain ⟨s, want⟩ := g
      simp only [guardK] at h
      split at h
      · rename_i b hb
        have hw := wanted_ok hs hg hb
        rw [hw]
        by_cases hbw : b = want
        · subst hbw
          rw [if_pos (by simp)]
          exact go _ (hs.known hb) (h.1 rfl)
        · have hbn : b = !want := by cases b <;> cases want <;> first | rfl | exact absurd rfl hbw
          rw [if_neg (by simpa using hbw)]
          subst hbn
          have hs2 := hs.known hb
          exact ⟨fun _ _ => trivial, sops_inC hΓ l ios' _ _ K hc' (h.2 rfl) hK ε _ w hi (SlotsOK.put (sv := .tup []) (v := undef) hs2 sat_undef o.dst) (by rw [put_defers]; exact hd)⟩
      · rename_i hb
        have hw := wanted_undef hs hg hb
        rw [hw]
        rw [if_neg (by simp)]
        exact ⟨fun _ _ => trivial, sops_inC hΓ l ios' _ _ K hc' h hK ε _ w hi (SlotsOK.put (sv := .tup []) (v := undef) hs sat_undef o.dst) (by rw [put_defers]; exact hd)⟩
      · exact h.elim
theorem mapM_app {α β : Type _} {f : α → Option β} : ∀ {x y : List β} {l : List α}, l.mapM f = some (x ++ y) → ∃ l1 l2, l = l1 ++ l2 ∧ l1.mapM f = some x ∧ l2.mapM f = some y
  | [], y, l, h => ⟨[], l, rfl, by simp, h⟩
  | b :: x, y, [], h => by simp at h
  | b :: x, y, o :: l, h => by
    rw [List.mapM_cons] at h
    obtain ⟨b', hb, h⟩ := bind_some h
    obtain ⟨bs, hbs, h⟩ := bind_some h
    simp only [Option.pure_def, Option.some.injEq, List.cons_append, List.cons.injEq] at h
    obtain ⟨rfl, rfl⟩ := h
    obtain ⟨l1, l2, rfl, h1, h2⟩ := mapM_app hbs
    exact ⟨o :: l1, l2, rfl, by rw [List.mapM_cons, hb, h1]; rfl, h2⟩
section
variable {ro : Option Nat} {rm n : Nat} {Γ : FH} {ops : Array Oper} {Q : Exit → Act → World → Prop} {β : Base} {d : List Deferred} {rest l : List Oper}
theorem sl_inC (hΓ : FHOK P Γ) {A : SL} (hc : l.mapM (compOp P ops) = some (A.flat none)) (hw : A.wf n = true) {K : Fr → List Res → Prop} {τ : Fr} {m : List Res} (h : A.wp Γ false K τ m)
    (hK : ∀ τ' m' ε' a' w', K τ' m' → Inv β ε' m' w' → SlotsF n ε' τ' a' → a'.defers = d → wpListIn (Fw ro) rm P ops Q rest a' w') {ε : Env} {a : Act} {w : World} (hi : Inv β ε m w) (hs : SlotsF n ε τ a) (hd : a.defers = d) :
    wpListIn (Fw ro) rm P ops Q (l ++ rest) a w := by
  obtain ⟨σ, h1, h2⟩ := hs
  exact sops_inC hΓ.hook l _ σ m _ hc (wp_ok A τ σ m _ (fun σ' m' => ∃ τ', Rep n σ' τ' ∧ K τ' m') hw h1 h (fun σ' τ' m' hr hq => ⟨τ', hr, hq⟩))
    (fun σ' m' ε' a' w' ⟨τ', hr, hq⟩ hi' hs' hd' => hK τ' m' ε' a' w' hq hi' ⟨σ', hr, hs'⟩ hd') ε a w hi h2 hd
theorem slg_inC (hΓ : FHOK P Γ) {s : Nat} {A : SL} (hc : l.mapM (compOp P ops) = some (A.flat (some (s, true)))) (hw : A.wf n = true) {K : Fr → List Res → Prop} {τ : Fr} {m : List Res} (h : A.wpg Γ false s true K τ m)
    (hK : ∀ τ' m' ε' a' w', look s τ' = .bool true → K τ' m' → Inv β ε' m' w' → SlotsF n ε' τ' a' → a'.defers = d → wpListIn (Fw ro) rm P ops Q rest a' w') {ε : Env} {a : Act} {w : World} (hi : Inv β ε m w) (hs : SlotsF n ε τ a) (hd : a.defers = d) :
    wpListIn (Fw ro) rm P ops Q (l ++ rest) a w := by
  obtain ⟨σ, h1, h2⟩ := hs
  exact sops_inC hΓ.hook l _ σ m _ hc (wpg_ok (dr := false) A τ σ m _ (fun σ' m' => ∃ τ', Rep n σ' τ' ∧ look s τ' = .bool true ∧ K τ' m') hw h1 h (fun σ' τ' m' hr hl hq => ⟨τ', hr, hl, hq⟩))
    (fun σ' m' ε' a' w' ⟨τ', hr, hl, hq⟩ hi' hs' hd' => hK τ' m' ε' a' w' hl hq hi' ⟨σ', hr, hs'⟩ hd') ε a w hi h2 hd
theorem SlotsF.bool {ε : Env} {τ : Fr} {a : Act} (hs : SlotsF n ε τ a) {s : Nat} {b : Bool} (h : look s τ = .bool b) {o : Oper} {want : Bool} (hg : compG ops o.guard = some (some (s, want))) : Region.wanted o (yielded ops a.tmps) = (b == want) := by
  obtain ⟨σ, h1, h2⟩ := hs
  exact wanted_ok h2 hg (le_eq (h1.le s) h (by intro h; cases h))
theorem SlotsF.undef {ε : Env} {τ : Fr} {a : Act} (hs : SlotsF n ε τ a) {d : Option Nat} (h : ∀ k, d = some k → look k τ = .junk) : SlotsF n ε τ (a.put d Go.undef) := by
  obtain ⟨σ, h1, h2⟩ := hs
  refine ⟨putS d (.tup []) σ, ?_, h2.put sat_undef d⟩
  cases d with
  | none => exact h1
  | some k =>
    refine ⟨by simp [putS, h1.1], fun j => ?_⟩
    by_cases e : j = k
    · subst e; exact .inl (h j rfl)
    · rw [putS, getD_set_ne e]; exact h1.2 j
def gdOK (s : Nat) (ks : List Nat) (io : IOp) : Bool := (match io.guard with
  | some (s', true) => s' == s
  | _ => false) && (match io.dst with
  | some k => !ks.contains k
  | none => true)
theorem gdOK_ok {s : Nat} {ks : List Nat} {io : IOp} (h : gdOK s ks io = true) : io.guard = some (s, true) ∧ ∀ k, io.dst = some k → k ∉ ks := by
  unfold gdOK at h
  simp only [Bool.and_eq_true] at h
  obtain ⟨h1, h2⟩ := h
  constructor
  · split at h1
    · rename_i e; simp only [beq_iff_eq] at h1; rw [e, h1]
    · cases h1
  · intro k hk
    rw [hk] at h2
    simpa using h2
theorem look_keep_out {k : Nat} : ∀ {ks : List Nat} {τ : Fr}, k ∉ ks → look k (keepF ks τ) = .junk
  | [], _, _ => rfl
  | j :: ks, τ, h => by
    simp only [List.mem_cons, not_or] at h
    simp only [keepF, look, if_neg h.1]
    exact look_keep_out h.2
theorem look_keep_in {k : Nat} : ∀ {ks : List Nat} {τ : Fr}, k ∈ ks → look k (keepF ks τ) = look k τ
  | [], _, h => by cases h
  | j :: ks, τ, h => by
    simp only [keepF, look]
    by_cases e : k = j
    · subst e; rw [if_pos rfl]
    · rw [if_neg e]
      rcases List.mem_cons.1 h with h | h
      · exact absurd h e
      · exact look_keep_in h
theorem skip_inC {s : Nat} {ks : List Nat} (hks : s ∈ ks) {τ : Fr} (hb : look s τ = .bool false) {ε : Env} {w : World} : ∀ {l : List Oper} {ios : List IOp} {a : Act}, l.mapM (compOp P ops) = some ios → (∀ io ∈ ios, gdOK s ks io = true) → SlotsF n ε (keepF ks τ) a → a.defers = d →
    (∀ a', SlotsF n ε (keepF ks τ) a' → a'.defers = d → wpListIn (Fw ro) rm P ops Q rest a' w) → wpListIn (Fw ro) rm P ops Q (l ++ rest) a w
  | [], ios, a, hc, hg, hs, hd, hK => hK a hs hd
  | o :: l, ios, a, hc, hg, hs, hd, hK => by
    rw [List.mapM_cons] at hc
    obtain ⟨io, ho, hc⟩ := bind_some hc
    obtain ⟨ios', hc', hc⟩ := bind_some hc
    simp only [Option.pure_def, Option.some.injEq] at hc
    subst hc
    obtain ⟨g1, g2⟩ := gdOK_ok (hg io (by simp))
    simp only [compOp] at ho
    split at ho <;> try (cases ho; done)
    rename_i g x hg' hx
    simp only [Option.some.injEq] at ho; subst ho
    simp only at g1 g2
    subst g1
    simp only [List.cons_append, wpListIn]
    rw [hs.bool (by rw [look_keep_in hks]; exact hb) hg', if_neg (by simp)]
    exact ⟨fun _ _ => trivial, skip_inC hks hb hc' (fun io hio => hg io (by simp [hio])) (hs.undef fun k hk => look_keep_out (g2 k hk)) (by rw [put_defers]; exact hd) hK⟩
end
def allInt : List SV → Bool
  | [] => true
  | .int .. :: r => allInt r
  | _ => false
theorem allInt_ok : ∀ {xs : List SV} {ε : Env} {vs : List Value}, allInt xs = true → SatA xs ε vs → intsOK xs vs
  | [], _, vs, _, h => by simp only [SatA] at h; subst h; trivial
  | x :: xs, ε, vs, hx, h => by
    simp only [SatA] at h
    obtain ⟨cs, t, rfl, h2, h3⟩ := h
    cases x <;> first | (simp [allInt] at hx; done) | skip
    rename_i k n
    simp only [SatC] at h2
    subst h2
    exact ⟨rfl, allInt_ok hx h3⟩
theorem allInt_val : ∀ {xs : List SV}, allInt xs = true → xs.all SV.isVal = true
  | [], _ => rfl
  | x :: xs, hx => by
    cases x <;> first | (simp [allInt] at hx; done) | skip
    have := allInt_val (xs := xs) hx
    simp only [List.all_cons, Bool.and_eq_true]
    exact ⟨rfl, this⟩
inductive YC : Type 1 where
  | jc (c : JC)
  | seq (a b : YC)
  | block (id : Nat) (c : YC)
  | loop (keep mod : List Nat) (c : YC)
  | prune (ks : List Nat) (c : YC)
  | yl (A : SL) (s : Nat) (ks : List Nat) (B : SL) (d : Nat) (x : Opd) (ys : List Opd) (c e : Nat)
def YC.flat : YC → IC
  | .jc c => c.flat
  | .seq a b => .seq a.flat b.flat
  | .block id c => .block id c.flat
  | .loop _ _ c => .loop c.flat
  | .prune _ c => c.flat
  | .yl A s _ B d x ys c e => .ops (A.flat none ++ (B.flat (some (s, true)) ++ [⟨some d, some (s, true), .e (.callv x ys)⟩, ⟨some c, some (s, true), .p (.nt (.t d))⟩, ⟨some e, none, .p (.pick (.t s) (.t c) (.c (.bool false)))⟩]))
def YC.wf (n : Nat) : YC → Bool
  | .jc c => c.wf n
  | .seq a b => a.wf n && b.wf n
  | .block _ c => c.wf n
  | .loop keep mod c => mod.all (fun k => decide (k < n)) && keep.all (fun k => decide (k < n)) && c.wf n
  | .prune _ c => c.wf n
  | .yl A s ks B d x ys c e => A.wf n && B.wf n && (B.flat (some (s, true))).all (gdOK s ks) && decide (d < n) && decide (c < n) && decide (e < n) && ks.contains s && !ks.contains d && !ks.contains c && !(d == c)
def YC.wp (Γ : FH) (Y : List SV → List Res → List Res → Prop) (yv : Value) (n0 : Nat) : YC → (Ex → Fr → List Res → Prop) → Fr → List Res → Prop
  | .jc c, Q, τ, m => c.wp Γ n0 Q τ m
  | .seq a b, Q, τ, m => a.wp Γ Y yv n0 (fun e τ' m' => match e with
    | .norm => b.wp Γ Y yv n0 Q τ' m'
    | e => Q e τ' m') τ m
  | .block id c, Q, τ, m => c.wp Γ Y yv n0 (fun e τ' m' => match e with
    | .exit i => if i = id then Q .norm τ' m' else Q (.exit i) τ' m'
    | e => Q e τ' m') τ m
  | .loop keep mod c, Q, τ, m => ∃ (ι : Type) (U : ι → List SV) (M : ι → List Res) (ok : ι → Prop) (μ : ι → Nat) (i : ι), ok i ∧ atF mod (U i) τ ∧ M i = m ∧
      ∀ i, ok i → c.wp Γ Y yv n0 (fun e τ' m' => match e with
        | .norm => ∃ j, ok j ∧ μ j < μ i ∧ n0 ≤ (M j).length ∧ atR (ltI (M j).length) mod (U j) τ' ∧ sameR (ltI (M j).length) τ τ' keep ∧ (m'.take (M j).length).map (renR (ltI (M j).length)) = M j
        | e => Q e τ' m') (ofF mod (U i) (keepF keep τ)) (M i)
  | .prune ks c, Q, τ, m => c.wp Γ Y yv n0 Q (keepF ks τ) m
  | .yl A s ks B d x ys c e, Q, τ, m => A.wp Γ false (fun τ m => match look s τ with
    | .bool b => (b = false → Q .norm (.put e (.bool false) (keepF ks τ)) m) ∧ (b = true → B.wpg Γ false s true (fun τ' m' => (persF (keepF ks τ') ∧ x.fv τ' = .raw yv ∧ allInt (ys.map (Opd.fv τ')) = true) ∧
        ∃ m'', Y (ys.map (Opd.fv τ')) m' m'' ∧ Q .norm (.put e (.bool false) (keepF ks τ')) m'') τ m)
    | _ => False) τ m
theorem mapM_inv {α β : Type _} {f : α → Option β} {b : β} {bs : List β} : ∀ {l : List α}, l.mapM f = some (b :: bs) → ∃ o l', l = o :: l' ∧ f o = some b ∧ l'.mapM f = some bs
  | [], h => by simp at h
  | o :: l, h => by
    rw [List.mapM_cons] at h
    obtain ⟨b', hb, h⟩ := bind_some h
    obtain ⟨bs', hbs, h⟩ := bind_some h
    simp only [Option.pure_def, Option.some.injEq, List.cons.injEq] at h
    obtain ⟨rfl, rfl⟩ := h
    exact ⟨o, l, rfl, hb, hbs⟩
theorem mapM_none {α β : Type _} {f : α → Option β} : ∀ {l : List α}, l.mapM f = some [] → l = []
  | [], _ => rfl
  | o :: l, h => by
    rw [List.mapM_cons] at h
    obtain ⟨b', hb, h⟩ := bind_some h
    obtain ⟨bs', hbs, h⟩ := bind_some h
    simp at h
theorem pure_inC {ro : Option Nat} {rm n : Nat} {ops : Array Oper} {Q : Exit → Act → World → Prop} {d : List Deferred} {rest : List Oper} {o : Oper} {k : Nat} {g : Option (Nat × Bool)} {p : PIO} (ho : compOp P ops o = some ⟨some k, g, .p p⟩) (hk : k < n)
    {ε : Env} {τ : Fr} {a : Act} {w : World} (hs : SlotsF n ε τ a) (hg : g = none ∨ ∃ s, g = some (s, true) ∧ look s τ = .bool true) {v : SV} (hp : ∀ σ, Rep n σ τ → popK σ (fun sv => sv = v) p) (hd : a.defers = d)
    (hK : ∀ a', SlotsF n ε (.put k v τ) a' → a'.defers = d → wpListIn (Fw ro) rm P ops Q rest a' w) : wpListIn (Fw ro) rm P ops Q (o :: rest) a w := by
  have hnd := compOp_nodefer ho
  have hs0 := hs
  obtain ⟨σ, h1, h2⟩ := hs
  simp only [compOp] at ho
  split at ho <;> try (cases ho; done)
  rename_i g' x hg' hx
  simp only [Option.some.injEq, IOp.mk.injEq] at ho
  obtain ⟨e1, e2, e3⟩ := ho
  subst e2; subst e3
  have hpp : comp1 P o.op = some (.p p) := hx
  unfold comp1 at hpp
  split at hpp
  · rename_i p' hp'
    simp only [Option.some.injEq, IO1.p.injEq] at hpp
    subst hpp
    obtain ⟨sv, rfl, hpure⟩ := popK_sound hp' (hp σ h1)
    obtain ⟨v', hr, hv⟩ := hpure ε a h2
    simp only [wpListIn]
    rw [if_pos]
    · refine oper_in hnd ?_
      unfold Oper.wp
      rw [hr, Oper.upon_value, e1]
      exact hK _ (hs0.putv hk hv) (by rw [put_defers]; exact hd)
    · rcases hg with rfl | ⟨s, rfl, hl⟩
      · have hgn : o.guard = none := by
          cases hog : o.guard with
          | none => rfl
          | some g => rw [hog] at hg'; simp only [compG] at hg'; split at hg' <;> cases hg'
        simp [Region.wanted, hgn]
      · rw [hs0.bool hl hg']; rfl
  · simp only [Option.map_eq_some_iff] at hpp
    obtain ⟨_, _, hpp⟩ := hpp
    cases hpp
theorem callv_inv {o : Oper} {x : Opd} {ys : List Opd} (h : comp1 P o.op = some (.e (.callv x ys))) : ∃ x' args tys, o.op = .call { callee := .value x', args := args, argTypes := tys } ∧ compO x' = some x ∧ args.toList.mapM compO = some ys := by
  unfold comp1 at h
  split at h
  · cases h
  · simp only [Option.map_eq_some_iff] at h
    obtain ⟨e, he, h⟩ := h
    simp only [IO1.e.injEq] at h
    subst h
    cases ho : o.op <;> rw [ho] at he <;> simp only [compE] at he
    case call c =>
      cases c with
      | mk callee args tys =>
      split at he
      · cases he
      simp only [compE.compC] at he
      split at he
      · split at he <;> try (cases he; done)
        split at he <;> try (cases he; done)
        split at he <;> cases he
      · simp only [Option.map_eq_some_iff] at he
        obtain ⟨_, _, he⟩ := he
        cases he
      · rename_i x' hne
        split at he <;> try (cases he; done)
        rename_i x2 ys2 hx hy
        simp only [Option.some.injEq, EIO.callv.injEq] at he
        obtain ⟨rfl, rfl⟩ := he
        exact ⟨_, _, _, rfl, hx, hy⟩
      · split at he <;> cases he
      · cases he
    all_goals first
      | (cases he; done)
      | (simp only [Option.map_eq_some_iff] at he; obtain ⟨_, _, he⟩ := he; cases he)
      | (split at he <;> first | (cases he; done) | (split at he <;> first | (cases he; done) | (split at he <;> first | (cases he; done) | (split at he <;> cases he))))
theorem yl_sound {Γ : FH} (hΓ : FHOK P Γ) {rm n : Nat} {Y : List SV → List Res → List Res → Prop} {l : Nat} {β : Base} {d0 : List Deferred}
    (hY : ∀ args m m1, Y args m m1 → ∀ ε w vs, Inv β ε m w → intsOK args vs → YieldAt (Fw none) (rm - 1) P l vs.toArray w (fun e w' => e = .returned (.bool true) ∧ ∃ ε', Inv β ε' m1 w' ∧ EnvP ε ε'))
    {A : SL} {s : Nat} {ks : List Nat} {B : SL} {d : Nat} {x : Opd} {ys : List Opd} {c e : Nat} {ops : Array Oper} {id : Nat}
    (hc : ops.toList.mapM (compOp P ops) = some (A.flat none ++ (B.flat (some (s, true)) ++ [⟨some d, some (s, true), .e (.callv x ys)⟩, ⟨some c, some (s, true), .p (.nt (.t d))⟩, ⟨some e, none, .p (.pick (.t s) (.t c) (.c (.bool false)))⟩])))
    (hw : (YC.yl A s ks B d x ys c e).wf n = true) {n0 : Nat} {Q : Ex → Fr → List Res → Prop} {τ : Fr} {m : List Res} (h : (YC.yl A s ks B d x ys c e).wp Γ Y (.func (.yield l) #[] #[]) n0 Q τ m)
    {ε : Env} {a : Act} {w : World} (hi : Inv β ε m w) (hs : SlotsF n ε τ a) (hd : a.defers = d0) : (Code.region id ops false).wpIn (Fw none) rm P (EndsF n β d0 Q) a w := by
  simp only [YC.wf, Bool.and_eq_true, decide_eq_true_eq, List.contains_eq_mem, Bool.not_eq_true', decide_eq_false_iff_not, beq_eq_false_iff_ne, ne_eq] at hw
  obtain ⟨⟨⟨⟨⟨⟨⟨⟨⟨wA, wB⟩, wG⟩, hdn⟩, hcn⟩, hen⟩, hsk⟩, hdk⟩, hck⟩, hdc⟩ := hw
  obtain ⟨l1, l2, e0, h1, hc⟩ := mapM_app hc
  obtain ⟨l3, l4, rfl, h3, hc⟩ := mapM_app hc
  refine wpIn_region_list ?_
  rw [e0]
  simp only [YC.wp] at h
  refine sl_inC hΓ h1 wA h (fun τ1 m1 ε1 a1 w1 hk hi1 hs1 hd1 => ?_) hi hs hd
  obtain ⟨o1, l5, rfl, ho1, hc⟩ := mapM_inv hc
  obtain ⟨o2, l6, rfl, ho2, hc⟩ := mapM_inv hc
  obtain ⟨o3, l7, rfl, ho3, hc⟩ := mapM_inv hc
  obtain rfl := mapM_none hc
  have hcs : ¬ s = c := fun e => hck (e ▸ hsk)
  have hds : ¬ s = d := fun e => hdk (e ▸ hsk)
  split at hk
  · rename_i b hb
    cases b with
    | false =>
      have hq := hk.1 rfl
      have hsf : look s (keepF ks τ1) = .bool false := (look_keep_in hsk).trans hb
      refine skip_inC hsk hb h3 (fun io hio => List.all_eq_true.1 wG io hio) (hs1.weak fun k => look_keep ks) hd1 (fun a2 hs2 hd2 => ?_)
      have key : ∀ (o : Oper) (io : IOp) (k : Nat) (x : IO1) (a : Act) (rest : List Oper), compOp P ops o = some ⟨some k, some (s, true), x⟩ → k ∉ ks → SlotsF n ε1 (keepF ks τ1) a → a.defers = d0 →
          (∀ a', SlotsF n ε1 (keepF ks τ1) a' → a'.defers = d0 → wpListIn (Fw none) rm P ops (EndsF n β d0 Q) rest a' w1) → wpListIn (Fw none) rm P ops (EndsF n β d0 Q) (o :: rest) a w1 := by
        intro o io k x a rest ho hkk hs hd hK
        simp only [compOp] at ho
        split at ho <;> try (cases ho; done)
        rename_i g' x' hg' hx
        simp only [Option.some.injEq, IOp.mk.injEq] at ho
        obtain ⟨e1, e2, e3⟩ := ho
        subst e2
        simp only [wpListIn]
        rw [hs.bool hsf hg', if_neg (by simp)]
        exact ⟨fun _ _ => trivial, hK _ (hs.undef fun j hj => by rw [e1] at hj; cases hj; exact look_keep_out hkk) (by rw [put_defers]; exact hd)⟩
      refine key o1 ⟨none, none, .p (.mv (.t 0))⟩ d _ a2 _ ho1 hdk hs2 hd2 (fun a3 hs3 hd3 => ?_)
      refine key o2 ⟨none, none, .p (.mv (.t 0))⟩ c _ a3 _ ho2 hck hs3 hd3 (fun a4 hs4 hd4 => ?_)
      refine pure_inC ho3 hen hs4 (.inl rfl) (v := .bool false) (fun σ hr => ?_) hd4 (fun a5 hs5 hd5 => ⟨.norm, _, _, ε1, trivial, hq, hi1, hs5, hd5⟩)
      have : (Opd.t s).ev σ = .bool false := le_eq (hr.le s) hsf (by intro h; cases h)
      simp only [popK, this]
      simp [Opd.ev]
    | true =>
      refine slg_inC hΓ h3 wB (hk.2 rfl) (fun τ2 m2 ε2 a2 w2 hl2 hk2 hi2 hs2 hd2 => ?_) hi1 hs1 hd1
      obtain ⟨⟨hp, hx, hints⟩, m3, hym, hq⟩ := hk2
      have hY' := hY _ _ _ hym
      obtain ⟨σ, r1, r2⟩ := hs2
      have hs2 : SlotsF n ε2 τ2 a2 := ⟨σ, r1, r2⟩
      have hnd := compOp_nodefer ho1
      simp only [compOp] at ho1
      split at ho1 <;> try (cases ho1; done)
      rename_i g' x' hg' hx'
      simp only [Option.some.injEq, IOp.mk.injEq] at ho1
      obtain ⟨e1, e2, e3⟩ := ho1
      subst e2; subst e3
      obtain ⟨xo, args, tys, hop, hxo, hys⟩ := callv_inv hx'
      have hxe : x.ev σ = .raw (.func (.yield l) #[] #[]) := le_eq (r1.fv x) hx (by intro h; cases h)
      have hval : a2.eval xo = .func (.yield l) #[] #[] := by
        have := hxe ▸ compO_ok hxo r2
        obtain ⟨cs, q1, q2⟩ := this
        simp only [SatC] at q1
        rw [q1.2] at q2
        exact q2
      have hysv : ys.map (Opd.ev σ) = ys.map (Opd.fv τ2) := by
        refine List.map_congr_left fun y hy => ?_
        have hv : (Opd.fv τ2 y).isVal = true := by
          have := allInt_val hints
          rw [List.all_map, List.all_eq_true] at this
          exact this y hy
        exact le_val (r1.fv y) hv
      have hsa : SatA (ys.map (Opd.fv τ2)) ε2 (args.toList.map a2.eval) := by
        have := sat_caps r2 args.toList ys hys (by show (ys.map (Opd.ev σ)).all SV.isVal = true; rw [hysv]; exact allInt_val hints)
        rw [← hysv]; exact this
      obtain ⟨fn, tmps, assign, body, hyr, hround⟩ := hY' ε2 w2 _ hi2 (allInt_ok hints hsa)
      have hargs : (args.toList.map a2.eval).toArray = args.map a2.eval := by apply Array.ext'; simp
      have hrun : (execOp a2.eval o1).run P w2 = .ok (.round l fn tmps assign body) w2 := by
        rw [hargs] at hyr
        simp [execOp, hop, resolve, hval, Deferred.ofValue, invoke, hyr]
      rw [wpListIn, hs2.bool hl2 hg', if_pos (by rfl)]
      refine ⟨fun _ _ => trivial, ?_⟩
      rw [Oper.semAt_eq _ _ _ hnd, hrun, Oper.uponIn_round]
      refine ⟨fun e => (by cases e), hround.mono ?_⟩
      rintro er w3 ⟨rfl, ε3, hi3, hep⟩
      have hs3 : SlotsF n ε3 (keepF ks τ2) a2 := (hs2.weak fun k => look_keep ks).pers hp hep
      rw [e1]
      have hs4 : SlotsF n ε3 (.put d (.bool true) (keepF ks τ2)) (a2.put (some d) (.bool true)) := hs3.putv hdn (x := .bool true) ⟨[.bool true], by simp only [SatC], rfl⟩
      have hls : look s (keepF ks τ2) = .bool true := (look_keep_in hsk).trans hl2
      show wpListIn (Fw none) rm P ops (EndsF n β d0 Q) [o2, o3] (a2.put (some d) (.bool true)) w3
      refine pure_inC ho2 hcn hs4 (.inr ⟨s, rfl, by simp only [look, if_neg hds]; exact hls⟩) (v := .bool false) (d := d0) (fun σ hr => ?_) hd2 (fun a5 hs5 hd5 => ?_)
      · have : (Opd.t d).ev σ = .bool true := le_eq (hr.le d) (by simp [look]) (by intro h; cases h)
        simp only [popK, this]
        rfl
      refine pure_inC ho3 hen hs5 (.inl rfl) (v := .bool false) (fun σ hr => ?_) hd5 (fun a6 hs6 hd6 => ⟨.norm, _, _, ε3, trivial, hq, hi3, hs6.weak fun k => ?_, hd6⟩)
      · have h1 : (Opd.t s).ev σ = .bool true := le_eq (hr.le s) (by simp only [look, if_neg hcs, if_neg hds]; exact hls) (by intro h; cases h)
        have h2 : (Opd.t c).ev σ = .bool false := le_eq (hr.le c) (by simp [look]) (by intro h; cases h)
        simp only [popK, h1, h2]
        simp
      · simp only [look]
        split
        · exact .inr rfl
        · by_cases ec : k = c
          · subst ec; exact .inl (look_keep_out hck)
          · by_cases ed : k = d
            · subst ed; exact .inl (look_keep_out hdk)
            · rw [if_neg ec, if_neg ed]; exact .inr rfl
  · exact hk.elim
theorem YC.sound {rm : Nat} {Γ : FH} (hΓ : FHOK P Γ) {quiet : FuncId → Bool} {n0 n : Nat} {β : Base} (hb : β.ε.n ≤ n0) {d : List Deferred} {Y : List SV → List Res → List Res → Prop} {l : Nat}
    (hY : ∀ args m m1, Y args m m1 → ∀ ε w vs, Inv β ε m w → intsOK args vs → YieldAt (Fw none) (rm - 1) P l vs.toArray w (fun e w' => e = .returned (.bool true) ∧ ∃ ε', Inv β ε' m1 w' ∧ EnvP ε ε')) : ∀ (jc : YC) (c : Code), comp P quiet c = some jc.flat → jc.wf n = true → ∀ (Q : Ex → Fr → List Res → Prop) (τ : Fr) (m : List Res), jc.wp Γ Y (.func (.yield l) #[] #[]) n0 Q τ m →
    ∀ ε a w, Inv β ε m w → SlotsF n ε τ a → a.defers = d → c.wpIn (Fw none) rm P (EndsF n β d Q) a w
  | .jc x, c, hc, hw, Q, τ, m, h, ε, a, w, hi, hs, hd => JC.soundIn hΓ hb x c hc hw Q τ m h ε a w hi hs hd
  | .seq x y, c, hc, hw, Q, τ, m, h, ε, a, w, hi, hs, hd => by
    obtain ⟨x', y', rfl, hx, hy⟩ := comp_seq hc
    simp only [YC.wf, Bool.and_eq_true] at hw
    simp only [YC.wp] at h
    refine wpIn_seq (wpI_mono (fun e a' w' he => ?_) (YC.sound hΓ hb hY x x' hx hw.1 _ τ m h ε a w hi hs hd))
    obtain ⟨ex, σ', m', ε', h1, h2, h3, h4, h5⟩ := he
    cases e <;> cases ex <;> simp only [ExRel] at h1
    · exact YC.sound hΓ hb hY y y' hy hw.2 Q σ' m' h2 ε' a' w' h3 h4 h5
    · exact ⟨_, σ', m', ε', by simp only [ExRel]; exact h1, h2, h3, h4, h5⟩
    · exact ⟨.ret, σ', m', ε', trivial, h2, h3, h4, h5⟩
  | .block id x, c, hc, hw, Q, τ, m, h, ε, a, w, hi, hs, hd => by
    obtain ⟨x', rfl, hx⟩ := comp_block hc
    simp only [YC.wp] at h
    refine wpIn_block (wpI_mono (fun e a' w' he => ?_) (YC.sound hΓ hb hY x x' hx hw _ τ m h ε a w hi hs hd))
    obtain ⟨ex, σ', m', ε', h1, h2, h3, h4, h5⟩ := he
    cases e <;> cases ex <;> simp only [ExRel] at h1
    · exact ⟨.norm, σ', m', ε', trivial, h2, h3, h4, h5⟩
    · subst h1
      simp only [Exit.inBlock]
      simp only at h2
      split
      · rename_i e1; rw [if_pos e1] at h2; exact ⟨.norm, σ', m', ε', trivial, h2, h3, h4, h5⟩
      · rename_i e1; rw [if_neg e1] at h2; exact ⟨.exit _, σ', m', ε', rfl, h2, h3, h4, h5⟩
    · exact ⟨.ret, σ', m', ε', trivial, h2, h3, h4, h5⟩
  | .loop keep mod x, c, hc, hw, Q, τ, m, h, ε, a, w, hi, hs, hd => by
    obtain ⟨x', rfl, hx⟩ := comp_loop hc
    simp only [YC.wf, Bool.and_eq_true] at hw
    simp only [YC.wp] at h
    obtain ⟨ι, U, M, ok, μ, i0, hok, hw0, hm0, hround⟩ := h
    have hs0 : SlotsF n ε (ofF mod (U i0) (keepF keep τ)) a := hs.weak fun k => look_of k hw0 (look_keep keep)
    refine wpIn_loop_ghost (fun n' a w => ∃ i ε, μ i = n' ∧ ok i ∧ Inv β ε (M i) w ∧ SlotsF n ε (ofF mod (U i) (keepF keep τ)) a ∧ a.defers = d) (μ i0) ⟨i0, ε, rfl, hok, hm0 ▸ hi, hs0, hd⟩ ?_
    rintro n' a w ⟨i, ε, rfl, hok', hi', hs', hd'⟩
    refine wpI_mono (fun e a' w' he => ?_) (YC.sound hΓ hb hY x x' hx hw.2 _ _ _ (hround i hok') ε a w hi' hs' hd')
    obtain ⟨ex, σ', m', ε', h1, h2, h3, h4, h5⟩ := he
    cases e <;> cases ex <;> simp only [ExRel] at h1
    · obtain ⟨j, hj1, hj2, hj0, hj3, hj4, hj5⟩ := h2
      obtain ⟨ε2, k1, k2⟩ := trim_ok h3 h4 hb hj0 rfl hj5
      exact ⟨μ j, hj2, j, ε2, rfl, hj1, k1, k2.weak fun k => look_ofR k hj3 (same_keepR k hj4), h5⟩
    · exact ⟨_, σ', m', ε', by simp only [ExRel]; exact h1, h2, h3, h4, h5⟩
    · exact ⟨.ret, σ', m', ε', trivial, h2, h3, h4, h5⟩
  | .prune ks x, c, hc, hw, Q, τ, m, h, ε, a, w, hi, hs, hd =>
    YC.sound hΓ hb hY x c hc hw Q _ m h ε a w hi (hs.weak fun k => look_keep ks) hd
  | .yl A s ks B dd x ys cc e, c, hc, hw, Q, τ, m, h, ε, a, w, hi, hs, hd => by
    obtain ⟨id, ops, rfl, hl⟩ := comp_ops hc
    exact yl_sound hΓ hY hl hw (n0 := n0) h hi hs hd
end Go.Sx
/-! Sx, part 36: a function that ranges over a function. -/
set_option linter.unusedVariables false
set_option linter.unusedSimpArgs false
namespace Go.Sx
open Go
variable {P : Program}
def ITok (P : Program) (quiet : FuncId → Bool) (n : Nat) (ps : List Nat) (A B : IC) (τ : Fr) (f : FuncId) (cap : List SV) (m m1 : List Res) : Prop :=
  ∀ (cA cB : Code), comp P quiet cA = some A → comp P quiet cB = some B → ∀ (l : Nat) (W : World) (ε : Env) (r : Loop), Good ε m W → Clear ⟨W, ε, ownB ε m⟩ l → W.heap[l]? = some (.loop r) → r.state = .ready → r.pending = none → r.assign = cA → r.body = cB →
    r.params.toList = ps → SlotsF n ε τ { tmps := r.tmps, defers := [] } → ∀ vs, SatA cap ε vs →
      CallsIn (Fw none) 0 P f (#[.func (.yield l) #[] #[]] ++ vs.toArray) W (fun e w' => (∃ v, e = .returned v) ∧ ∃ ε', Inv ⟨W, ε, ownB ε m⟩ ε' m1 w')
theorem Inv.reBlk {β : Base} {ε : Env} {m : List Res} {w : World} (h : Inv β ε m w) {i : Nat} {T : TypeId} {c c' : SV} (hm : memAt m i = .blk T c) (hc : ∀ cs, SatC c ε cs → SatC c' ε cs) : Inv β ε (m.set i (.blk T c')) w := by
  have hi : i < m.length := by
    rcases Nat.lt_or_ge i m.length with hi | hi
    · exact hi
    · rw [memAt_ge hi] at hm; cases hm
  have hat : ∀ j, memAt (m.set i (.blk T c')) j = if j = i then .blk T c' else memAt m j := by
    intro j
    unfold memAt
    rw [List.getD, List.getElem?_set]
    by_cases hj : i = j
    · subst hj; simp [hi]
    · rw [if_neg hj, if_neg (fun e => hj e.symm)]; rfl
  have hown : ∀ j, ownR ε j (memAt (m.set i (.blk T c')) j) = ownR ε j (memAt m j) := by
    intro j
    rw [hat]
    by_cases hj : j = i
    · subst hj; rw [if_pos rfl, hm]; rfl
    · rw [if_neg hj]
  refine ⟨⟨by simp [h.good.n], fun j => ?_, fun a b x hab h1 h2 => ?_, fun a b hb => ?_, h.good.hv⟩, h.kept, fun a b hb => ?_, h.n, h.blk, fun j hj hv => h.vv j hj ?_⟩
  · rw [hat]
    by_cases hj : j = i
    · subst hj
      rw [if_pos rfl]
      have hr := h.good.res j
      rw [hm] at hr
      obtain ⟨cs, h1, h2⟩ := hr
      exact ⟨cs, h1, hc cs h2⟩
    · rw [if_neg hj]; exact h.good.res j
  · rw [hown] at h1 h2; exact h.good.disj a b x hab h1 h2
  · rw [hown] at hb; exact h.good.sep a b hb
  · rw [hown] at hb; exact h.own a b hb
  · rw [hat] at hv
    by_cases hji : j = i
    · subst hji; rw [hm]; rfl
    · rwa [if_neg hji] at hv
def vecB (vb : Option (Nat × Nat × Nat)) (τ : Fr) (m : List Res) (K : List Res → Prop) : Prop := match vb with
  | none => K m
  | some (k, E, wd) => match look k τ with
    | .ptr i _ _ => match memAt m i with
      | .blk T .nils => K (m.set i (.blk T (.vec m.length 0)) ++ [.vec E wd []])
      | _ => K m
    | _ => K m
theorem vecB_ok {vb : Option (Nat × Nat × Nat)} {τ : Fr} {m : List Res} {K : List Res → Prop} (hh : vecB vb τ m K) {β : Base} {ε : Env} {w : World} (h : Inv β ε m w) {n : Nat} {a : Act} (hs : SlotsF n ε τ a) : ∃ ε' m', K m' ∧ Inv β ε' m' w ∧ SlotsF n ε' τ a := by
  unfold vecB at hh
  split at hh
  · exact ⟨ε, m, hh, h, hs⟩
  · rename_i k E wd'
    split at hh
    · rename_i i p o hk
      split at hh
      · rename_i T hm
        have hi : i < m.length := by
          rcases Nat.lt_or_ge i m.length with hi | hi
          · exact hi
          · rw [memAt_ge hi] at hm; cases hm
        have hg : w.grownBy w none := World.grownBy.refl w none
        have hi2 := h.more (b := 0) (v := .slice none 0 0) (r := .vec E wd' []) hg (Nat.le_refl _) ⟨[], ⟨by simp, .inl ⟨by simp [Env.more, h.good.n], rfl⟩⟩, fun j hj => absurd hj (Nat.not_lt_zero _)⟩ (by
          intro x hx
          simp [ownR, Env.more, h.good.n, Value.ownBlock] at hx)
        have hle := ε.le_more 0 (.slice none 0 0)
        have hm2 : memAt (m ++ [.vec E wd' []]) i = .blk T .nils := by rw [memAt_append_lt hi]; exact hm
        have h3 := hi2.reBlk (c' := .vec m.length 0) hm2 (fun cs hc => by
          simp only [SatC] at hc ⊢
          subst hc
          exact ⟨by simp [Env.more, h.good.n], .inl ⟨by simp [Env.more, h.good.n], trivial⟩, by simp [Env.more, h.good.n]⟩)
        rw [List.set_append_left _ _ hi] at h3
        exact ⟨_, _, hh, h3, hs.env hle⟩
      · exact ⟨ε, m, hh, h, hs⟩
    · exact ⟨ε, m, hh, h, hs⟩
inductive IX : Type 1 where
  | c (x : IC)
  | seq (a : IC) (b : IX)
  | rf (x : IC) (id g : Nat) (ps : List Nat) (A B z : IC)
def compX (P : Program) (quiet : FuncId → Bool) : Code → Option IX
  | .seq (.seq x (.block id (.rangeFunc g ps A B))) y => match comp P quiet x, compO g, comp P quiet A, comp P quiet B, comp P quiet y with
    | some x, some (.t g), some A, some B, some y => some (.rf x id g ps.toList A B y)
    | _, _, _, _, _ => none
  | .seq x y => match comp P quiet x, compX P quiet y with
    | some x, some y => some (.seq x y)
    | _, _ => none
  | c => (comp P quiet c).map .c
inductive XC : Type 1 where
  | seq (a : JC) (b : XC)
  | prune (ks : List Nat) (b : XC)
  | rf (x : JC) (id g : Nat) (ps : List Nat) (A B : JC) (vb : Option (Nat × Nat × Nat)) (ks : List Nat) (z : JC)
def XC.flat : XC → IX
  | .seq a b => .seq a.flat b.flat
  | .prune _ b => b.flat
  | .rf x id g ps A B _ _ z => .rf x.flat id g ps A.flat B.flat z.flat
def XC.wf (n : Nat) : XC → Bool
  | .seq a b => a.wf n && b.wf n
  | .prune _ b => b.wf n
  | .rf x _ _ _ _ _ _ _ z => x.wf n && z.wf n
def XC.wp (P : Program) (quiet : FuncId → Bool) (n : Nat) (Γ : FH) (n0 : Nat) : XC → (Ex → Fr → List Res → Prop) → Fr → List Res → Prop
  | .seq a b, Q, τ, m => a.wp Γ n0 (fun e τ' m' => match e with
    | .norm => b.wp P quiet n Γ n0 Q τ' m'
    | e => Q e τ' m') τ m
  | .prune ks b, Q, τ, m => b.wp P quiet n Γ n0 Q (keepF ks τ) m
  | .rf x id g ps A B vb ks z, Q, τ, m => x.wp Γ n0 (fun e τ m => match e with
    | .norm => vecB vb τ m fun m => ∃ m1 f cap, (look g τ = .fn f cap ∧ okFn P f = true ∧ persF (keepF ks τ) ∧ bkOK m m1) ∧ ITok P quiet n ps A.flat B.flat τ f cap m m1 ∧ z.wp Γ m1.length Q (keepF ks τ) m1
    | e => Q e τ m) τ m
theorem compX_seq {quiet : FuncId → Bool} {c : Code} {a : IC} {b : IX} (h : compX P quiet c = some (.seq a b)) : ∃ x y, c = .seq x y ∧ comp P quiet x = some a ∧ compX P quiet y = some b := by
  unfold compX at h
  split at h
  · split at h <;> simp at h
  · split at h
    · rename_i h1 h2
      simp only [Option.some.injEq, IX.seq.injEq] at h
      obtain ⟨rfl, rfl⟩ := h
      exact ⟨_, _, rfl, h1, h2⟩
    · cases h
  · simp at h
theorem compX_rf {quiet : FuncId → Bool} {c : Code} {x : IC} {id g : Nat} {ps : List Nat} {A B z : IC} (h : compX P quiet c = some (.rf x id g ps A B z)) :
    ∃ cx g' ps' cA cB y, c = .seq (.seq cx (.block id (.rangeFunc g' ps' cA cB))) y ∧ comp P quiet cx = some x ∧ compO g' = some (.t g) ∧ ps'.toList = ps ∧ comp P quiet cA = some A ∧ comp P quiet cB = some B ∧ comp P quiet y = some z := by
  unfold compX at h
  split at h
  · split at h
    · rename_i h0 h1 h2 h3 h4
      simp only [Option.some.injEq, IX.rf.injEq] at h
      obtain ⟨rfl, rfl, rfl, rfl, rfl, rfl, rfl⟩ := h
      exact ⟨_, _, _, _, _, _, rfl, h0, h1, rfl, h2, h3, h4⟩
    · cases h
  · split at h <;> simp at h
  · simp at h
theorem Inv.of_own {β : Base} {ε : Env} {m : List Res} {w : World} (h : Inv β ε m w) (g : Good ε m w) : Inv ⟨w, ε, ownB ε m⟩ ε m w := Inv.start g
theorem rf_sound {quiet : FuncId → Bool} {n : Nat} {id gk : Nat} {g : Operand} {ps : Array Nat} {cA cB : Code} {A B : IC} (hgk : compO g = some (.t gk)) (hA : comp P quiet cA = some A) (hB : comp P quiet cB = some B)
    {τ : Fr} {f : FuncId} {cap : List SV} {m m1 : List Res} (hf : look gk τ = .fn f cap) (hok : okFn P f = true) (hbk : bkOK m m1) (hIT : ITok P quiet n ps.toList A B τ f cap m m1)
    {β : Base} {ε : Env} {a : Act} {w : World} (hi : Inv β ε m w) (hs : SlotsF n ε τ a) (hd : a.defers = []) :
    (Code.block id (.rangeFunc g ps cA cB)).wpIn (Fw none) 0 P (fun e a' w' => e = .normal ∧ ∃ D ε', a' = { a with defers := [{ target := .collected D, args := #[] }] } ∧ w'.heap[D]? = some (.deferred (some [])) ∧ β.w.heap.size ≤ D ∧
      Clear ⟨w', ε', ownB ε' m1⟩ D ∧ Inv β ε' m1 w' ∧ EnvP ε ε') a w := by
  have hs0 := hs
  obtain ⟨σ, r1, r2⟩ := hs
  have hev : Opd.ev σ (.t gk) = .fn f cap := le_eq (r1.le gk) hf (by intro h; cases h)
  obtain ⟨cv, c1, c2⟩ := sat_fn (hev ▸ compO_ok hgk r2)
  refine wpIn_block (wpIn_mono (Q := fun e a' w' => e = .normal ∧ ∃ D ε', a' = { a with defers := [{ target := .collected D, args := #[] }] } ∧ w'.heap[D]? = some (.deferred (some [])) ∧ β.w.heap.size ≤ D ∧
      Clear ⟨w', ε', ownB ε' m1⟩ D ∧ Inv β ε' m1 w' ∧ EnvP ε ε') (wpIn_rangeFunc ?_) (fun e a' w' ⟨h1, h2⟩ => by subst h1; exact ⟨rfl, h2⟩))
  intro fn hfn
  obtain ⟨rec, hrec⟩ : ∃ rec : Loop, rec = { state := .ready, pending := none, fn, tmps := a.tmps, params := ps, assign := cA, body := cB, defers := w.heap.size } := ⟨_, rfl⟩
  obtain ⟨W1, hW1⟩ : ∃ W1, (w.alloc (.deferred (some []))).alloc (.loop rec) = W1 := ⟨_, rfl⟩
  have hsz : W1.heap.size = w.heap.size + 2 := by rw [← hW1]; simp
  have hL1 : W1.heap[w.heap.size + 1]? = some (.loop rec) := by
    rw [← hW1]; have := World.alloc_heap_new (w.alloc (.deferred (some []))) (.loop rec); rwa [World.size_alloc] at this
  have hK1 : W1.heap[w.heap.size]? = some (.deferred (some [])) := by
    rw [← hW1]; exact (Go.RowKit.Below.heap_alloc _ _ _ (by simp)).trans (World.alloc_heap_new w _)
  have hold : ∀ b, b < w.heap.size → W1.heap[b]? = w.heap[b]? := by
    intro b hb
    rw [← hW1, Go.RowKit.Below.heap_alloc _ _ _ (by simp; omega), Go.RowKit.Below.heap_alloc _ _ _ hb]
  have hi1 : Inv β ε m W1 := hi.world (by rw [← hW1]; rfl) (by rw [← hW1]; rfl) (by rw [← hW1]; rfl) (by omega) (by rw [← hW1]; exact Nat.le_refl _) (fun b hb => .inl (hold b hb))
  have hclr : ∀ b, w.heap.size ≤ b → b < W1.heap.size → Clear ⟨W1, ε, ownB ε m⟩ b := by
    intro b h1 h2
    refine ⟨h2, ?_, ?_⟩
    · rintro ⟨i, e⟩
      have := ownR_lt hi.good e; omega
    · cases e : ε.H b with
      | none => rfl
      | some o => have := H_lt hi.good e; omega
  refine ⟨w.heap.size + 1, [{ target := .collected w.heap.size, args := #[] }], W1, { target := .fn (.func f) cv.toArray, args := #[.func (.yield (w.heap.size + 1)) #[] #[]] }, W1, f,
    #[.func (.yield (w.heap.size + 1)) #[] #[]] ++ cv.toArray, W1, ?_, ?_, fun _ _ => trivial, ?_, fun e => (by cases e), ?_⟩
  · rw [← hW1, hrec]; exact run_enterLoop_outer _ _ _ _ _
  · simp [resolve, c2, Deferred.ofValue]
    rfl
  · simp [invoke, run_callFunc hok]
  · refine (hIT cA cB hA hB (w.heap.size + 1) W1 ε rec hi1.good (hclr _ (by omega) (by omega)) hL1 (by rw [hrec]) (by rw [hrec]) (by rw [hrec]) (by rw [hrec]) (by rw [hrec]) (by rw [hrec]; exact ⟨σ, r1, r2⟩) cv c1).mono ?_
    rintro e w2 ⟨⟨v, rfl⟩, ε2, hi2⟩
    obtain ⟨q1, q2, q3, q4⟩ := hi2.clear (hclr (w.heap.size + 1) (by omega) (by omega))
    obtain ⟨d1, d2, d3, d4⟩ := hi2.clear (hclr w.heap.size (by omega) (by omega))
    have hl2 : w2.heap[w.heap.size + 1]? = some (.loop rec) := q1.trans hL1
    refine ⟨none, _, by have := run_endLoop (P := P) hl2 (by rw [hrec]; simp); rw [show rec.pending = none by rw [hrec]] at this; exact this, rfl, w.heap.size, ε2, ?_, ?_, hi.kept.size, ?_, ?_, ?_⟩
    · rw [hd]; rfl
    · rw [World.putObj_heap_other (by omega)]; exact d1.trans hK1
    · exact ⟨by simpa using d4, fun ⟨i, h⟩ => d2 i h, d3⟩
    · have hbs := hi.kept.size
      obtain ⟨t1, _⟩ := hi1.trans hi2 (fun i hi' h => bkOK_at hbk (by have := hi1.n; have := hi1.good.n; omega) h)
      refine t1.world rfl rfl rfl (by simp) (Nat.le_refl _) (fun b hb => ?_)
      by_cases e : b = w.heap.size + 1
      · right; subst e; exact ⟨by omega, q2, q3⟩
      · exact .inl (World.putObj_heap_other e)
    · exact ⟨hi2.n, hi2.blk, hi2.kept.H⟩
def EndsX (n : Nat) (β : Base) (Q : Ex → Fr → List Res → Prop) (e : Exit) (a : Act) (w : World) : Prop :=
  ∃ ex τ m ε, ExRel e ex ∧ Q ex τ m ∧ Inv β ε m w ∧ SlotsF n ε τ a ∧ (a.defers = [] ∨ ∃ D, a.defers = [{ target := .collected D, args := #[] }] ∧ w.heap[D]? = some (.deferred (some [])) ∧ β.w.heap.size ≤ D ∧ (∀ i, ownR ε i (memAt m i) ≠ some D) ∧ ε.H D = none)
theorem XC.sound {quiet : FuncId → Bool} {Γ : FH} (hΓ : FHOK P Γ) {n0 n : Nat} {β : Base} (hb : β.ε.n = 0) : ∀ (xc : XC) (c : Code), compX P quiet c = some xc.flat → xc.wf n = true → ∀ (Q : Ex → Fr → List Res → Prop) (τ : Fr) (m : List Res), xc.wp P quiet n Γ n0 Q τ m →
    ∀ ε a w, Inv β ε m w → SlotsF n ε τ a → a.defers = [] → c.wpIn (Fw none) 0 P (EndsX n β Q) a w
  | .seq x y, c, hc, hw, Q, τ, m, h, ε, a, w, hi, hs, hd => by
    obtain ⟨x', y', rfl, hx, hy⟩ := compX_seq hc
    simp only [XC.wf, Bool.and_eq_true] at hw
    simp only [XC.wp] at h
    refine wpIn_seq (wpI_mono (fun e a' w' he => ?_) (JC.soundIn (rm := 0) hΓ (by omega) x x' hx hw.1 _ τ m h ε a w hi hs hd))
    obtain ⟨ex, σ', m', ε', h1, h2, h3, h4, h5⟩ := he
    cases e <;> cases ex <;> simp only [ExRel] at h1
    · exact XC.sound hΓ hb y y' hy hw.2 Q σ' m' h2 ε' a' w' h3 h4 h5
    · exact ⟨_, σ', m', ε', by simp only [ExRel]; exact h1, h2, h3, h4, .inl h5⟩
    · exact ⟨.ret, σ', m', ε', trivial, h2, h3, h4, .inl h5⟩
  | .prune ks b, c, hc, hw, Q, τ, m, h, ε, a, w, hi, hs, hd => XC.sound hΓ hb b c hc hw Q _ m h ε a w hi (hs.weak fun k => look_keep ks) hd
  | .rf x id g ps A B vb ks z, c, hc, hw, Q, τ, m, h, ε, a, w, hi, hs, hd => by
    obtain ⟨cx, g', ps', cA, cB, y, rfl, h0, h1, h2, h3, h4, h5⟩ := compX_rf hc
    simp only [XC.wf, Bool.and_eq_true] at hw
    simp only [XC.wp] at h
    subst h2
    refine wpIn_seq (wpIn_seq (wpI_mono (fun e a' w' he => ?_) (JC.soundIn (rm := 0) hΓ (by omega) x cx h0 hw.1 _ τ m h ε a w hi hs hd)))
    obtain ⟨ex, τ, m, ε, g1, g2, hi, hs, hd⟩ := he
    cases e <;> cases ex <;> simp only [ExRel] at g1
    · obtain ⟨ε, m, ⟨m1, f, cap, ⟨k1, k2, k3, k4⟩, k5, k6⟩, hi, hs⟩ := vecB_ok g2 hi hs
      refine wpI_mono (fun e a'' w' he => ?_) (rf_sound (id := id) h1 h3 h4 k1 k2 k4 k5 hi hs hd)
      obtain ⟨rfl, D, ε1, rfl, q1, q2, q3, q4, q5⟩ := he
      have hs1 : SlotsF n ε1 (keepF ks τ) { a' with defers := [{ target := .collected D, args := #[] }] } := by
        obtain ⟨σ, r1, r2⟩ := (hs.weak fun k => look_keep ks).pers k3 q5
        exact ⟨σ, r1, r2⟩
      refine wpI_mono (fun e a' w'' he => ?_) (JC.soundIn (rm := 0) hΓ (β := ⟨w', ε1, ownB ε1 m1⟩) (Nat.le_of_eq q4.good.n) (d := [{ target := .collected D, args := #[] }]) z y h5 hw.2 _ _ _ k6 ε1 _ w' (q4.of_own q4.good) hs1 rfl)
      obtain ⟨ex, τ2, m2, ε2, e1, e2, e3, e4, e5⟩ := he
      obtain ⟨d1, d2, d3, d4⟩ := e3.clear q3
      exact ⟨ex, τ2, m2, ε2, e1, e2, (q4.trans e3 (fun i hi' => by omega)).1, e4, .inr ⟨D, e5, d1.trans q1, q2, d2, d3⟩⟩
    · exact ⟨_, τ, m, ε, by simp only [ExRel]; exact g1, g2, hi, hs, .inl hd⟩
    · exact ⟨.ret, τ, m, ε, trivial, g2, hi, hs, .inl hd⟩
end Go.Sx
/-! Sx, part 37: words for functions that range over a function. -/
set_option linter.unusedVariables false
set_option linter.unusedSimpArgs false
namespace Go.Sx
open Go
variable {P : Program}
namespace W
theorem persF_nil : persF .nil = True := nr rfl
theorem persF_put (k : Nat) (x : SV) (r : Fr) : persF (.put k x r) = (pers x ∧ persF r) := nr rfl
theorem persF_pick (s d : Nat) (x : SV) (r : Fr) : persF (.pick s d x r) = (pers x ∧ persF r) := nr rfl
theorem pers_int (k : IntKind) (n : Int) : pers (.int k n) = True := nr (by simp [pers])
theorem pers_bool (b : Bool) : pers (.bool b) = True := nr (by simp [pers])
theorem pers_lst {τ : Type} (w : Nat) (d : τ) (f : τ → SV) (l : List τ) : pers (.lst w d f l) = True := nr (by simp [pers])
theorem pers_eptr {τ : Type} (w : Nat) (d : τ) (f : τ → SV) (l : List τ) (i : Nat) (p : List Step) (o : Nat) : pers (.eptr w d f l i p o) = True := nr (by simp [pers])
theorem pers_ref (c : SV) (p : List Step) (o : Nat) : pers (.ref c p o) = True := nr (by simp [pers])
theorem pers_ptr (i : Nat) (p : List Step) (o : Nat) : pers (.ptr i p o) = True := nr (by simp [pers])
theorem pers_raw (v : Value) : pers (.raw v) = True := nr (by simp [pers])
theorem pers_nils : pers .nils = True := nr (by simp [pers])
theorem pers_junk : pers .junk = True := nr (by simp [pers])
theorem pers_agg (l : List SV) : pers (.agg l) = persL l := nr (by simp [pers])
theorem pers_fn (f : FuncId) (l : List SV) : pers (.fn f l) = persL l := nr (by simp [pers])
theorem persL_nil : persL [] = True := nr (by simp [persL])
theorem persL_cons (x : SV) (l : List SV) : persL (x :: l) = (pers x ∧ persL l) := nr (by simp [persL])
theorem bkOK_nil (m : List Res) : bkOK [] m = True := nr (by simp [bkOK])
theorem bkOK_cons (x y : Res) (m m1 : List Res) : bkOK (x :: m) (y :: m1) = ((y.isBlk = true → x.isBlk = true) ∧ bkOK m m1) := nr rfl
theorem isBlk_blk (T : TypeId) (c : SV) : (Res.blk T c).isBlk = true := nr rfl
theorem isBlk_mp (ek ev : ES) (l : List (SV × SV)) : (Res.mp ek ev l).isBlk = true := nr rfl
theorem isBlk_vec (T : TypeId) (w : Nat) (l : List SV) : (Res.vec T w l).isBlk = false := nr rfl
theorem isBlk_dead : Res.dead.isBlk = false := nr rfl
theorem allInt_nil : allInt [] = true := nr rfl
theorem allInt_int (k : IntKind) (n : Int) (l : List SV) : allInt (.int k n :: l) = allInt l := nr rfl
theorem vecB_none (τ : Fr) (m : List Res) (K : List Res → Prop) : vecB none τ m K = K m := nr rfl
theorem ren_raw (r : Nat → Option Nat) (v : Value) : ren r (.raw v) = .raw v := nr (by simp [ren])
theorem kill_raw (i : Nat) (v : Value) : kill i (.raw v) = .raw v := nr (by simp [kill])
theorem isVal_raw (v : Value) : (SV.raw v).isVal = true := nr rfl
section
variable {quiet : FuncId → Bool} {n n0 : Nat} {Γ : FH} {Q : Ex → Fr → List Res → Prop} {τ : Fr} {m : List Res} {Y : List SV → List Res → List Res → Prop} {yv : Value}
theorem xc_seq {a : JC} {b : XC} : XC.wp P quiet n Γ n0 (.seq a b) Q τ m = a.wp Γ n0 (fun e τ' m' => match e with
    | .norm => b.wp P quiet n Γ n0 Q τ' m'
    | e => Q e τ' m') τ m := propext Iff.rfl
theorem xc_prune {ks : List Nat} {b : XC} : XC.wp P quiet n Γ n0 (.prune ks b) Q τ m = b.wp P quiet n Γ n0 Q (keepF ks τ) m := propext Iff.rfl
theorem yc_jc {c : JC} : YC.wp Γ Y yv n0 (.jc c) Q τ m = c.wp Γ n0 Q τ m := propext Iff.rfl
theorem yc_seq {a b : YC} : YC.wp Γ Y yv n0 (.seq a b) Q τ m = a.wp Γ Y yv n0 (fun e τ' m' => match e with
    | .norm => b.wp Γ Y yv n0 Q τ' m'
    | e => Q e τ' m') τ m := propext Iff.rfl
theorem yc_block {id : Nat} {c : YC} : YC.wp Γ Y yv n0 (.block id c) Q τ m = c.wp Γ Y yv n0 (fun e τ' m' => match e with
    | .exit i => if i = id then Q .norm τ' m' else Q (.exit i) τ' m'
    | e => Q e τ' m') τ m := propext Iff.rfl
theorem yc_prune {ks : List Nat} {c : YC} : YC.wp Γ Y yv n0 (.prune ks c) Q τ m = c.wp Γ Y yv n0 Q (keepF ks τ) m := propext Iff.rfl
theorem yc_yl {A B : SL} {s d c e : Nat} {ks : List Nat} {x : Opd} {ys : List Opd} : YC.wp Γ Y yv n0 (.yl A s ks B d x ys c e) Q τ m = A.wp Γ false (fun τ m => match look s τ with
    | .bool b => (b = false → Q .norm (.put e (.bool false) (keepF ks τ)) m) ∧ (b = true → B.wpg Γ false s true (fun τ' m' => (persF (keepF ks τ') ∧ x.fv τ' = .raw yv ∧ allInt (ys.map (Opd.fv τ')) = true) ∧
        ∃ m'', Y (ys.map (Opd.fv τ')) m' m'' ∧ Q .norm (.put e (.bool false) (keepF ks τ')) m'') τ m)
    | _ => False) τ m := propext Iff.rfl
theorem ycwp_congr {c : YC} {τ' : Fr} {m' : List Res} (h1 : wrp τ = τ') (h2 : wrp m = m') : YC.wp Γ Y yv n0 c Q τ m = YC.wp Γ Y yv n0 c Q τ' m' := by subst h1; subst h2; rfl
theorem xcwp_congr {c : XC} {τ' : Fr} {m' : List Res} (h1 : wrp τ = τ') (h2 : wrp m = m') : XC.wp P quiet n Γ n0 c Q τ m = XC.wp P quiet n Γ n0 c Q τ' m' := by subst h1; subst h2; rfl
end
end W
attribute [congr] W.ycwp_congr W.xcwp_congr
attribute [go_sem] W.persF_nil W.persF_put W.persF_pick W.pers_int W.pers_bool W.pers_lst W.pers_eptr W.pers_ref W.pers_ptr W.pers_raw W.pers_nils W.pers_junk W.pers_agg W.pers_fn W.persL_nil W.persL_cons W.bkOK_nil W.bkOK_cons W.isBlk_blk W.isBlk_vec W.isBlk_mp W.isBlk_dead W.allInt_nil W.allInt_int W.vecB_none W.isVal_raw W.ren_raw W.kill_raw W.xc_seq W.xc_prune W.yc_jc W.yc_seq W.yc_block W.yc_prune W.yc_yl
end Go.Sx
