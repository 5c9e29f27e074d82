import Derived.Test.YtafcmgfmmlnngaaSx13r
import Derived.Test.YtafcmgfmmlnngaaSx13f
import Derived.Deep.LoopGhost
/-! Sx, part 13c: code. -/
set_option linter.unusedSimpArgs false
set_option linter.unusedVariables false
namespace Go.Sx
open Go

variable {P : Program}

/-- Code. -/
inductive IC : Type 1 where
  | skip
  | ops (l : List IOp)
  | dops (l : List IOp)
  | seq (a b : IC)
  | cond (x : Opd) (a b : IC)
  | block (id : Nat) (c : IC)
  | loop (c : IC)
  | exit (id : Nat)
  | ret

inductive Ex where
  | norm
  | exit (id : Nat)
  | ret

def ExRel : Exit → Ex → Prop
  | .normal, .norm => True
  | .exit i, .exit j => i = j
  | .ret, .ret => True
  | _, _ => False

/-- What is known may be known less well. -/
def Weak (σ : List SV) (m : List Res) (σ' : List SV) (m' : List Res) : Prop :=
  ∀ β ε a w, Inv β ε m w → SlotsOK ε σ a → ∃ ε', Inv β ε' m' w ∧ SlotsOK ε' σ' a

def swp (Γ : Hook) (n0 : Nat) : IC → (Ex → List SV → List Res → Prop) → List SV → List Res → Prop
  | .skip, Q, σ, m => Q .norm σ m
  | .ops l, Q, σ, m => sops Γ l (Q .norm) σ m
  | .dops l, Q, σ, m => dsops Γ l (fun σ' m' => tidyK n0 m (Q .norm) σ' m') σ m
  | .seq a b, Q, σ, m => swp Γ n0 a (fun e σ' m' => match e with
    | .norm => swp Γ n0 b Q σ' m'
    | e => Q e σ' m') σ m
  | .cond x a b, Q, σ, m => match x with
    | .t n => match σ.getD n .junk with
      | .bool t => (t = true → swp Γ n0 a Q (σ.set n (.bool true)) m) ∧ (t = false → swp Γ n0 b Q (σ.set n (.bool false)) m)
      | _ => False
    | .c (.bool true) => swp Γ n0 a Q σ m
    | .c (.bool false) => swp Γ n0 b Q σ m
    | _ => False
  | .block id c, Q, σ, m => swp Γ n0 c (fun e σ' m' => match e with
    | .exit i => if i = id then Q .norm σ' m' else Q (.exit i) σ' m'
    | e => Q e σ' m') σ m
  | .loop c, Q, σ, m => ∃ (ι : Type) (S : ι → List SV) (M : ι → List Res) (ok : ι → Prop) (μ : ι → Nat) (i : ι), ok i ∧ Weak σ m (S i) (M i) ∧
      ∀ i, ok i → swp Γ n0 c (fun e σ' m' => match e with
        | .norm => ∃ j, ok j ∧ μ j < μ i ∧ Weak σ' m' (S j) (M j)
        | e => Q e σ' m') (S i) (M i)
  | .exit id, Q, σ, m => Q (.exit id) σ m
  | .ret, Q, σ, m => Q .ret σ m


/-- A region that draws its order, in another order. -/
def compR (P : Program) (quiet : FuncId → Bool) (ops : Array Oper) : Option IC := match ops.toList.mapM (compD P (quiet2 quiet) ops) with
  | some ios0 => match (permOps ops (ordGo ops ios0 ops.size [])).toList.mapM (compD P (quiet2 quiet) (permOps ops (ordGo ops ios0 ops.size []))) with
    | some ios => if permOk ops (ordGo ops ios0 ops.size []) && chk (permOps ops (ordGo ops ios0 ops.size [])).toList ios && P.follows .mixedOrders then some (.dops (aug (permOps ops (ordGo ops ios0 ops.size [])).toList ios)) else none
    | none => none
  | none => none
theorem compR_dops {quiet : FuncId → Bool} {ops : Array Oper} {ic : IC} (h : compR P quiet ops = some ic) : ∃ l, ic = .dops l := by
  unfold compR at h
  split at h <;> try (cases h; done)
  split at h <;> try (cases h; done)
  split at h <;> try (cases h; done)
  exact ⟨_, (Option.some.inj h).symm⟩
def comp (P : Program) (quiet : FuncId → Bool) : Code → Option IC
  | .skip => some .skip
  | .region _ ops draw => if draw then match ops.toList.mapM (compD P quiet ops) with
      | some ios => if chk ops.toList ios && P.follows .mixedOrders then some (.dops (aug ops.toList ios)) else compR P quiet ops
      | none => none
    else (ops.toList.mapM (compOp P ops)).map .ops
  | .seq a b => match comp P quiet a, comp P quiet b with
    | some a, some b => some (.seq a b)
    | _, _ => none
  | .cond x a b => match compO x, comp P quiet a, comp P quiet b with
    | some x, some a, some b => some (.cond x a b)
    | _, _, _ => none
  | .block id c => (comp P quiet c).map (.block id)
  | .loop c => (comp P quiet c).map .loop
  | .exit id => some (.exit id)
  | .ret => some .ret
  | _ => none

/-- Where code may end. -/
def Ends (β : Base) (d : List Deferred) (Q : Ex → List SV → List Res → Prop) (e : Exit) (a : Act) (w : World) : Prop :=
  ∃ ex σ m ε, ExRel e ex ∧ Q ex σ m ∧ Inv β ε m w ∧ SlotsOK ε σ a ∧ a.defers = d

theorem Ends.mono {β : Base} {d : List Deferred} {Q Q' : Ex → List SV → List Res → Prop} {e : Exit} {a : Act} {w : World} (h : ∀ ex σ m, Q ex σ m → Q' ex σ m) (hh : Ends β d Q e a w) : Ends β d Q' e a w := by
  obtain ⟨ex, σ, m, ε, h1, h2, h3⟩ := hh
  exact ⟨ex, σ, m, ε, h1, h _ _ _ h2, h3⟩

theorem swp_sound {Γ : Hook} (hΓ : HookOK P Γ) {quiet : FuncId → Bool} {n0 : Nat} {β : Base} (hb : β.ε.n ≤ n0) {d : List Deferred} : ∀ (c : Code) (ic : IC), comp P quiet c = some ic → ∀ (Q : Ex → List SV → List Res → Prop) (σ : List SV) (m : List Res), swp Γ n0 ic Q σ m →
    ∀ ε a w, Inv β ε m w → SlotsOK ε σ a → a.defers = d → c.wp P (Ends β d Q) a w
  | .skip, ic, hc, Q, σ, m, h, ε, a, w, hi, hs, hd => by
    simp only [comp, Option.some.injEq] at hc; subst hc
    exact wp_skip ⟨.norm, σ, m, ε, trivial, h, hi, hs, hd⟩
  | .region id ops draw, ic, hc, Q, σ, m, h, ε, a, w, hi, hs, hd => by
    simp only [comp] at hc
    split at hc
    · rename_i hdr
      subst hdr
      split at hc <;> try (cases hc; done)
      rename_i ios hios
      split at hc
      · rename_i hck
        simp only [Bool.and_eq_true] at hck
        simp only [Option.some.injEq] at hc; subst hc
        simp only [swp] at h
        refine dops_sound hΓ hck.2 hios hck.1 h (β := β) (d := d) (fun σ' m' ε' a' w' hq hi' hs' hd' => ?_) hi hs hd
        obtain ⟨σ2, m2, ε2, k1, k2, k3⟩ := tidy_ok hq hi' hs' hb
        exact ⟨.norm, σ2, m2, ε2, trivial, k1, k2, k3, hd'⟩
      · unfold compR at hc
        split at hc <;> try (cases hc; done)
        rename_i ios0 _
        split at hc <;> try (cases hc; done)
        rename_i ios2 hios2
        split at hc <;> try (cases hc; done)
        rename_i hck
        simp only [Bool.and_eq_true] at hck
        simp only [Option.some.injEq] at hc; subst hc
        simp only [swp] at h
        refine dops_sound2 hΓ hck.2 hck.1.1 hios2 hck.1.2 h (β := β) (d := d) (fun σ' m' ε' a' w' hq hi' hs' hd' => ?_) hi hs hd
        obtain ⟨σ2, m2, ε2, k1, k2, k3⟩ := tidy_ok hq hi' hs' hb
        exact ⟨.norm, σ2, m2, ε2, trivial, k1, k2, k3, hd'⟩
    · rename_i hdr
      simp only [Option.map_eq_some_iff] at hc
      obtain ⟨ios, hios, rfl⟩ := hc
      have : draw = false := by simpa using hdr
      subst this
      exact wp_region_list (sops_sound hΓ _ ios σ m (Q .norm) hios h (fun σ' m' ε' a' w' hq hi' hs' hd' => ⟨.norm, σ', m', ε', trivial, hq, hi', hs', hd'⟩) ε a w hi hs hd)
  | .seq x y, ic, hc, Q, σ, m, h, ε, a, w, hi, hs, hd => by
    simp only [comp] at hc
    split at hc <;> try (cases hc; done)
    rename_i x' y' hx hy
    simp only [Option.some.injEq] at hc; subst hc
    simp only [swp] at h
    refine wp_seq (Code.wp_mono (fun e a' w' he => ?_) (swp_sound hΓ hb x x' hx _ σ m h ε a w hi hs hd))
    obtain ⟨ex, σ', m', ε', h1, h2, h3, h4, h5⟩ := he
    cases e <;> cases ex <;> simp only [ExRel] at h1
    · exact swp_sound hΓ hb y y' hy Q σ' m' h2 ε' a' w' h3 h4 h5
    · exact ⟨_, σ', m', ε', by simp only [ExRel]; exact h1, h2, h3, h4, h5⟩
    · exact ⟨.ret, σ', m', ε', trivial, h2, h3, h4, h5⟩
  | .cond x y z, ic, hc, Q, σ, m, h, ε, a, w, hi, hs, hd => by
    simp only [comp] at hc
    split at hc <;> try (cases hc; done)
    rename_i x' y' z' hx hy hz
    simp only [Option.some.injEq] at hc; subst hc
    simp only [swp] at h
    split at h
    · rename_i n
      split at h
      · rename_i t ht
        have hv0 := compO_ok hx hs
        simp only [Opd.ev] at hv0
        rw [ht] at hv0
        have hv := sat_bool hv0
        cases t with
        | true => exact wp_cond_true hv (swp_sound hΓ hb y y' hy Q _ m (h.1 rfl) ε a w hi (hs.known ht) hd)
        | false => exact wp_cond_false hv (swp_sound hΓ hb z z' hz Q _ m (h.2 rfl) ε a w hi (hs.known ht) hd)
      · exact h.elim
    · have hv := sat_bool (compO_ok hx hs : SatV ε (.bool true) _)
      exact wp_cond_true hv (swp_sound hΓ hb y y' hy Q _ m h ε a w hi hs hd)
    · have hv := sat_bool (compO_ok hx hs : SatV ε (.bool false) _)
      exact wp_cond_false hv (swp_sound hΓ hb z z' hz Q _ m h ε a w hi hs hd)
    · exact h.elim
  | .block id c, ic, hc, Q, σ, m, h, ε, a, w, hi, hs, hd => by
    simp only [comp, Option.map_eq_some_iff] at hc
    obtain ⟨c', hc', rfl⟩ := hc
    simp only [swp] at h
    refine wp_block (Code.wp_mono (fun e a' w' he => ?_) (swp_sound hΓ hb c c' hc' _ σ m h ε a w hi hs hd))
    obtain ⟨ex, σ', m', ε', h1, h2, h3, h4, h5⟩ := he
    cases e <;> cases ex <;> simp only [ExRel] at h1
    · exact ⟨.norm, σ', m', ε', trivial, h2, h3, h4, h5⟩
    · subst h1
      simp only [Exit.inBlock]
      simp only at h2
      split
      · rename_i e1; rw [if_pos e1] at h2; exact ⟨.norm, σ', m', ε', trivial, h2, h3, h4, h5⟩
      · rename_i e1; rw [if_neg e1] at h2; exact ⟨.exit _, σ', m', ε', rfl, h2, h3, h4, h5⟩
    · exact ⟨.ret, σ', m', ε', trivial, h2, h3, h4, h5⟩
  | .loop c, ic, hc, Q, σ, m, h, ε, a, w, hi, hs, hd => by
    simp only [comp, Option.map_eq_some_iff] at hc
    obtain ⟨c', hc', rfl⟩ := hc
    simp only [swp] at h
    obtain ⟨ι, S, M, ok, μ, i0, hok, hw0, hround⟩ := h
    obtain ⟨ε0, hi0, hs0⟩ := hw0 β ε a w hi hs
    refine wp_loop_ghost (fun n a w => ∃ i ε, μ i = n ∧ ok i ∧ Inv β ε (M i) w ∧ SlotsOK ε (S i) a ∧ a.defers = d) (μ i0) ⟨i0, ε0, rfl, hok, hi0, hs0, hd⟩ ?_
    rintro n a w ⟨i, ε, rfl, hok', hi', hs', hd'⟩
    refine Code.wp_mono (fun e a' w' he => ?_) (swp_sound hΓ hb c c' hc' _ _ _ (hround i hok') ε a w hi' hs' hd')
    obtain ⟨ex, σ', m', ε', h1, h2, h3, h4, h5⟩ := he
    cases e <;> cases ex <;> simp only [ExRel] at h1
    · obtain ⟨j, hj1, hj2, hj3⟩ := h2
      obtain ⟨ε2, k1, k2⟩ := hj3 β ε' a' w' h3 h4
      exact ⟨μ j, hj2, j, ε2, rfl, hj1, k1, k2, h5⟩
    · exact ⟨_, σ', m', ε', by simp only [ExRel]; exact h1, h2, h3, h4, h5⟩
    · exact ⟨.ret, σ', m', ε', trivial, h2, h3, h4, h5⟩
  | .exit id, ic, hc, Q, σ, m, h, ε, a, w, hi, hs, hd => by
    simp only [comp, Option.some.injEq] at hc; subst hc
    exact wp_exit ⟨.exit id, σ, m, ε, rfl, h, hi, hs, hd⟩
  | .ret, ic, hc, Q, σ, m, h, ε, a, w, hi, hs, hd => by
    simp only [comp, Option.some.injEq] at hc; subst hc
    exact wp_ret ⟨.ret, σ, m, ε, trivial, h, hi, hs, hd⟩
  | .rangeFunc .., ic, hc, _, _, _, _, _, _, _, _, _, _ => by simp only [comp] at hc; cases hc
  | .scope .., ic, hc, _, _, _, _, _, _, _, _, _, _ => by simp only [comp] at hc; cases hc
  | .label .., ic, hc, _, _, _, _, _, _, _, _, _, _ => by simp only [comp] at hc; cases hc
  | .goto .., ic, hc, _, _, _, _, _, _, _, _, _, _ => by simp only [comp] at hc; cases hc
  | .refuse .., ic, hc, _, _, _, _, _, _, _, _, _, _ => by simp only [comp] at hc; cases hc

end Go.Sx
