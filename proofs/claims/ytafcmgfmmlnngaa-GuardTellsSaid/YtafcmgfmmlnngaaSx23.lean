import Derived.Test.YtafcmgfmmlnngaaSx22
/-! Sx, part 23: functions, loops and callees over frames; the words that 'simp only [go_sem]' takes. -/
set_option linter.unusedVariables false
set_option linter.unusedSimpArgs false
namespace Go.Sx
open Go
variable {P : Program}
/-! ### Where a body ends -/
def resF (P : Program) (τ : Fr) (m : List Res) (K : SV → Prop) : List ResultVar → Prop
  | [] => K (.tup [])
  | [.tmp t] => (look t τ).isVal = true ∧ K (look t τ)
  | [.cell t T] => match tsz P T with
    | some (n, ag) => peek m n ag K (look t τ)
    | none => False
  | l => go l fun xs => K (.tup xs)
where go : List ResultVar → (List SV → Prop) → Prop
  | [], K => K []
  | .tmp t :: r, K => (look t τ).isVal = true ∧ go r fun xs => K (look t τ :: xs)
  | .cell t T :: r, K => match tsz P T with
    | some (n, ag) => peek m n ag (fun x => x.isVal = true ∧ go r fun xs => K (x :: xs)) (look t τ)
    | none => False
theorem peek_val {m : List Res} {n : Nat} {ag : Bool} {K : SV → Prop} {x : SV} (h : peek m n ag K x) : x.isVal = true := by
  cases x <;> simp only [peek] at h <;> first | exact h.elim | rfl
theorem resF_go {n : Nat} {σ : List SV} {τ : Fr} {m : List Res} (hr : Rep n σ τ) : ∀ {rs : List ResultVar} {K : List SV → Prop}, resF.go P τ m rs K → resK.go P σ m rs K
  | [], _, h => h
  | .tmp t :: r, K, h => by
    have e := le_val (hr.le t) h.1
    simp only [resK.go]
    rw [e]
    exact ⟨h.1, resF_go hr h.2⟩
  | .cell t T :: r, K, h => by
    simp only [resF.go, resK.go] at h ⊢
    cases ht : tsz P T with
    | none => rw [ht] at h; exact h.elim
    | some p =>
      rw [ht] at h
      simp only at h ⊢
      rw [le_val (hr.le t) (peek_val h)]
      exact peek_mono (fun x hx => ⟨hx.1, resF_go hr hx.2⟩) h
theorem resF_ok {n : Nat} {σ : List SV} {τ : Fr} {m : List Res} (hr : Rep n σ τ) {K : SV → Prop} : ∀ {rs : List ResultVar}, resF P τ m K rs → resK P σ m K rs
  | [], h => h
  | [.tmp t], h => by
    simp only [resK]
    rw [le_val (hr.le t) h.1]; exact h.2
  | [.cell t T], h => by
    simp only [resF, resK] at h ⊢
    cases ht : tsz P T with
    | none => rw [ht] at h; exact h.elim
    | some p =>
      rw [ht] at h
      simp only at h ⊢
      rw [le_val (hr.le t) (peek_val h)]; exact h
  | .tmp t :: b :: l, h => by
    simp only [resF, resK] at h ⊢
    exact resF_go hr (rs := .tmp t :: b :: l) (K := fun xs => K (.tup xs)) h
  | .cell t T :: b :: l, h => by
    simp only [resF, resK] at h ⊢
    exact resF_go hr (rs := .cell t T :: b :: l) (K := fun xs => K (.tup xs)) h
def notIn (k : Nat) : List Nat → Prop
  | [] => True
  | j :: r => k ≠ j ∧ notIn k r
def nd : List Nat → Prop
  | [] => True
  | k :: r => notIn k r ∧ nd r
theorem notIn_ok {k : Nat} : ∀ {l : List Nat}, notIn k l → k ∉ l
  | [], _, h => by cases h
  | j :: r, h, hm => by
    rcases List.mem_cons.1 hm with e | e
    · exact h.1 e
    · exact notIn_ok h.2 e
theorem nd_ok : ∀ {l : List Nat}, nd l → l.Nodup
  | [], _ => List.nodup_nil
  | _ :: _, h => List.nodup_cons.2 ⟨notIn_ok h.1, nd_ok h.2⟩
def selJ : List Nat → Nat → Nat → Option Nat
  | [], _, _ => none
  | k :: r, j, i => if i = k then some j else selJ r (j + 1) i
theorem selJ_at (i : Nat) : ∀ (ks : List Nat) (j : Nat), selJ ks j i = (selI ks i).map (· + j)
  | [], j => by simp [selJ, selI]
  | k :: r, j => by
    simp only [selJ]
    by_cases h : i = k
    · subst h; simp [selI]
    · rw [if_neg h, selJ_at i r (j + 1)]
      simp only [selI, List.contains_cons]
      have h' : (i == k) = false := by simpa using h
      simp only [h', Bool.false_or]
      split
      · rw [List.idxOf_cons]
        have : (k == i) = false := by simpa using (fun e => h e.symm)
        simp [this]; omega
      · rfl
theorem selI_eq (ks : List Nat) : selI ks = selJ ks 0 := by
  funext i
  rw [selJ_at]
  cases selI ks i <;> rfl
mutual
def idsV : SV → List Nat
  | .vec i _ => [i]
  | .ptr i _ _ => [i]
  | .vptr i _ _ _ => [i]
  | .map i => [i]
  | .agg l => idsL l
  | .tup l => idsL l
  | .fn _ l => idsL l
  | .iface _ x => idsV x
  | _ => []
def idsL : List SV → List Nat
  | [] => []
  | x :: r => idsV x ++ idsL r
end
def upto : Nat → Nat → List Nat
  | 0, _ => []
  | n + 1, k => k :: upto n (k + 1)
theorem upto_at : ∀ (n k i : Nat), i < n → (upto n k)[i]? = some (k + i)
  | n + 1, k, 0, _ => rfl
  | n + 1, k, i + 1, h => by
    simp only [upto, List.getElem?_cons_succ]
    rw [upto_at n (k + 1) i (by omega)]
    congr 1; omega
theorem upto_len : ∀ (n k : Nat), (upto n k).length = n
  | 0, _ => rfl
  | n + 1, k => by simp [upto, upto_len n]
/-- What is handed back: its new things, in the order in which the results name them. -/
def packJ (ks : List Nat) (res : SV) (m1 : List Res) (m : List Res) (x : SV) : Prop :=
  nd ks ∧ ren (selJ ks 0) x = res ∧ ks.map (fun k => renR (selJ ks 0) (memAt m k)) = m1
def newIds (n0 : Nat) : List Nat → List Nat
  | [] => []
  | i :: r => if i < n0 then newIds n0 r else i :: newIds n0 r
def endF (rs : List ResultVar) (P : Program) (n0 : Nat) (res : SV) (m1 : List Res) (e : Ex) (τ : Fr) (m : List Res) : Prop := match e with
  | .exit _ => False
  | _ => resF P τ m (fun x => packJ (upto n0 0 ++ newIds n0 (idsV x)) res m1 m x) rs
theorem packJ_ok {n0 : Nat} {l : List Nat} {res : SV} {m1 m : List Res} {x : SV} (h : packJ (upto n0 0 ++ l) res m1 m x) : ∃ ks, packK ks n0 res m1 m x := by
  obtain ⟨h1, h2, h3⟩ := h
  refine ⟨_, ⟨nd_ok h1, fun i hi => ?_⟩, by rw [selI_eq]; exact h2, by unfold selM; rw [selI_eq]; exact h3⟩
  rw [List.getElem?_append_left (by rw [upto_len]; exact hi), upto_at n0 0 i hi, Nat.zero_add]
theorem endF_ok {n : Nat} {σ : List SV} {τ : Fr} {m : List Res} (hr : Rep n σ τ) {rs : List ResultVar} {n0 : Nat} {res : SV} {m1 : List Res} {e : Ex} (h : endF rs P n0 res m1 e τ m) : endK rs P n0 res m1 e σ m := by
  cases e with
  | exit i => exact h
  | norm =>
    have h : resF P τ m (fun x => packJ (upto n0 0 ++ newIds n0 (idsV x)) res m1 m x) rs := h
    exact resK_mono (fun x hx => packJ_ok hx) (resF_ok hr h)
  | ret =>
    have h : resF P τ m (fun x => packJ (upto n0 0 ++ newIds n0 (idsV x)) res m1 m x) rs := h
    exact resK_mono (fun x hx => packJ_ok hx) (resF_ok hr h)
def argF : Nat → List SV → Fr
  | _, [] => .nil
  | k, x :: r => .put k x (argF (k + 1) r)
theorem argF_at : ∀ (args : List SV) (j k : Nat), look k (argF j args) = .junk ∨ (j ≤ k ∧ k < j + args.length ∧ look k (argF j args) = args.getD (k - j) .junk)
  | [], j, k => .inl rfl
  | x :: r, j, k => by
    simp only [argF, look]
    by_cases h : k = j
    · subst h; rw [if_pos rfl]; right; exact ⟨Nat.le_refl _, by simp, by simp⟩
    · rw [if_neg h]
      rcases argF_at r (j + 1) k with h1 | ⟨h1, h2, h3⟩
      · exact .inl h1
      · right
        refine ⟨by omega, by simp; omega, ?_⟩
        rw [h3]
        have : k - j = (k - (j + 1)) + 1 := by omega
        rw [this, List.getD_cons_succ]
theorem argF_rep (args : List SV) (nt : Nat) (h : args.length ≤ nt) : Rep nt (args ++ List.replicate (nt - args.length) .junk) (argF 0 args) := by
  refine ⟨by simp; omega, fun k => ?_⟩
  rcases argF_at args 0 k with h1 | ⟨_, h2, h3⟩
  · exact .inl h1
  · right
    refine ⟨by omega, ?_⟩
    rw [h3, Nat.sub_zero, List.getD, List.getD, List.getElem?_append_left (by omega)]
/-- **A function's contract.** -/
theorem fn_walkF {quiet : FuncId → Bool} {f : FuncId} {jc : JC} {rs : List ResultVar} {nt : Nat} (hfn : fnIs P quiet f = some (jc.flat, rs, nt)) (hwf : jc.wf nt = true) {Γ : FH} (hΓ : FHOK P Γ) {args : List SV} {m0 m1 : List Res} {res : SV} (hn' : Nat.ble args.length nt = true)
    (h : jc.wp Γ m0.length (endF rs P m0.length res m1) (argF 0 args) m0) : FnOK P f args m0 res m1 := by
  have hn : args.length ≤ nt := Nat.le_of_ble_eq_true hn'
  obtain ⟨_, fn, c, hf, hb, hc, hrs, hnt⟩ := fnIs_ok hfn
  intro ε w vs hg hs
  have hlen : args.length = vs.length := (slots_start hs 0).1 |> fun h => by simpa using h
  refine calls_of_wp hf hb ?_
  have hi := Inv.start hg
  have hsl := slots_start hs (nt - args.length)
  have e : fn.ntmps - vs.toArray.size = nt - args.length := by simp; omega
  rw [e]
  refine Code.wp_mono (fun e a w' he => ?_) (JC.sound hΓ (Nat.le_of_eq hg.n) (d := []) jc c hc hwf _ _ _ h ε _ w hi ⟨_, argF_rep args nt hn, hsl⟩ rfl)
  obtain ⟨ex, τ', m', ε', h1, h2, h3, ⟨σ', hr, h4⟩, h5⟩ := he
  replace h2 := endF_ok hr h2
  have fin : ∀ (hres : resK P σ' m' (fun x => ∃ ks, packK ks m0.length res m1 m' x) rs), a.defers = [] ∧ ∃ v, (results fn a.tmps).run P w' = .ok v w' ∧
      ∃ v' ε'', Ending.returned v = .returned v' ∧ SatV ε'' res v' ∧ Inv ⟨w, ε, fun b => ∃ i, ownR ε i (memAt m0 i) = some b⟩ ε'' m1 w' := by
    intro hres
    obtain ⟨x, ⟨ks, ⟨k1, k2⟩, k3, k4⟩, hrun⟩ := resK_sound hrs hres
    obtain ⟨v, e1, e2⟩ := hrun ε' a w' h3.good h4
    refine ⟨h5, v, e1, v, selE ks ε', rfl, ?_, ?_⟩
    · rw [← k3]; exact e2.ren (sel_ren ks ε')
    · rw [← k4]; exact h3.sel ks k1 (fun i hi => k2 i (by rw [← hg.n]; exact hi))
  cases e <;> cases ex <;> simp only [ExRel] at h1
  · exact fin h2
  · exact h2.elim
  · exact fin h2

@[reducible] def qo (d : Nat) (x : PIO) (r : SL) : SL := .op (some d) (.p x) r
@[reducible] def eo (d : Nat) (x : EIO) (r : SL) : SL := .op (some d) (.e x) r
@[reducible] def qn (x : PIO) (r : SL) : SL := .op none (.p x) r
@[reducible] def en (x : EIO) (r : SL) : SL := .op none (.e x) r
/-! ### Words -/
section words
variable {Γ : FH} {n0 : Nat} {Q : Ex → Fr → List Res → Prop} {τ : Fr} {m : List Res}
theorem jc_skip : JC.wp Γ n0 .skip Q τ m = Q .norm τ m := propext Iff.rfl
theorem jc_ops {l : SL} : JC.wp Γ n0 (.ops l) Q τ m = l.wp Γ false (Q .norm) τ m := propext Iff.rfl
theorem jc_dops {l : SL} : JC.wp Γ n0 (.dops l) Q τ m = l.wp Γ true (fun τ' m' => tidyF n0 m (Q .norm) τ' m') τ m := propext Iff.rfl
theorem jc_seq {a b : JC} : JC.wp Γ n0 (.seq a b) Q τ m = a.wp Γ n0 (fun e τ' m' => match e with
    | .norm => b.wp Γ n0 Q τ' m'
    | e => Q e τ' m') τ m := propext Iff.rfl
theorem jc_cond {x : Opd} {a b : JC} : JC.wp Γ n0 (.cond x a b) Q τ m = (match x.fv τ with
    | .bool t => (t = true → a.wp Γ n0 Q τ m) ∧ (t = false → b.wp Γ n0 Q τ m)
    | .anyb => a.wp Γ n0 Q τ m ∧ b.wp Γ n0 Q τ m
    | _ => False) := propext Iff.rfl
theorem jc_block {id : Nat} {c : JC} : JC.wp Γ n0 (.block id c) Q τ m = c.wp Γ n0 (fun e τ' m' => match e with
    | .exit i => if i = id then Q .norm τ' m' else Q (.exit i) τ' m'
    | e => Q e τ' m') τ m := propext Iff.rfl
theorem jc_exit {id : Nat} : JC.wp Γ n0 (.exit id) Q τ m = Q (.exit id) τ m := propext Iff.rfl
theorem jc_ret : JC.wp Γ n0 .ret Q τ m = Q .ret τ m := propext Iff.rfl
theorem jc_prune {ks : List Nat} {c : JC} : JC.wp Γ n0 (.prune ks c) Q τ m = c.wp Γ n0 Q (keepF ks τ) m := propext Iff.rfl
theorem jc_vecs {k : Nat} {T : TypeId} {w : Nat} {c : JC} : JC.wp Γ n0 (.vecs k T w c) Q τ m = vecsF k T w (fun τ' m' => c.wp Γ n0 Q τ' m') τ m (look k τ) := propext Iff.rfl
theorem jc_frz {k : Nat} {F : Frz} {c : JC} : JC.wp Γ n0 (.frz k F c) Q τ m = (F.P m (look k τ) ∧ c.wp Γ n0 Q (.put k (F.dec m (look k τ)) τ) (deads m)) := propext Iff.rfl
theorem jc_orc {s : Nat} {l : SL} : JC.wp Γ n0 (.orc s l) Q τ m = (match look s τ with
    | .bool b => l.vc Γ m (.t s) τ (fun q g => (b = false → g) ∧ Q .norm (.put s (.bool (b || q)) (junkF l.dsts τ)) m) True
    | _ => False) := propext Iff.rfl
def JC.wpL (Γ : FH) (n0 : Nat) (keep mod : List Nat) (c : JC) (Q : Ex → Fr → List Res → Prop) (_ : Hide Γ c Q) (τ : Fr) (m : List Res) : Prop := JC.wp Γ n0 (.loop keep mod c) Q τ m
theorem jc_waits {keep mod : List Nat} {c : JC} : JC.wp Γ n0 (.loop keep mod c) Q τ m = JC.wpL Γ n0 keep mod c Q ⟨⟩ τ m := propext Iff.rfl
theorem ap_need {p x : Prop} : AP.need p x = (p ∧ x) := propext Iff.rfl
theorem ap_bad : AP.bad = False := propext Iff.rfl
theorem ap_spl {b : Bool} {x y : Prop} : AP.spl b x y = ((b = true → x) ∧ (b = false → y)) := propext Iff.rfl
theorem av_need {p : Prop} {x : Prop × Bool} : AV.need p x = (match x with | (s, v) => (p ∧ s, v)) := rfl
theorem av_bad : AV.bad = (False, false) := rfl
theorem av_spl {b : Bool} {x y : Prop × Bool} : AV.spl b x y = (match x, y with | (s, v), (s', v') => ((b = true → s) ∧ (b = false → s'), if b then v else v')) := rfl
end words
/-- **A loop.** -/
theorem loopF {Γ : FH} {n0 : Nat} {keep mod : List Nat} {c : JC} {Q : Ex → Fr → List Res → Prop} {τ : Fr} {m : List Res} (ι : Type) (U : ι → List SV) (M : ι → List Res) (ok : ι → Prop) (μ : ι → Nat) (i0 : ι)
    (h0 : ok i0) (hσ : atF mod (U i0) τ) (hm : M i0 = m)
    (h : ∀ i, ok i → c.wp Γ n0 (fun e τ' m' => match e with
        | .norm => ∃ j, ok j ∧ μ j < μ i ∧ n0 ≤ (M j).length ∧ atR (ltI (M j).length) mod (U j) τ' ∧ sameR (ltI (M j).length) τ τ' keep ∧ (m'.take (M j).length).map (renR (ltI (M j).length)) = M j
        | e => Q e τ' m') (ofF mod (U i) (keepF keep τ)) (M i)) {hd : Hide Γ c Q} : JC.wpL Γ n0 keep mod c Q hd τ m :=
  ⟨ι, U, M, ok, μ, i0, h0, hσ, hm, h⟩
theorem eta_unit {α : Type} (x : α × Unit) : (x.1, ()) = x := nr rfl
theorem eta_pair {α β : Type} (x : α × β) : (x.1, x.2) = x := nr rfl
end Go.Sx
