import Derived.Test.YtafcmgfmmlnngaaSx36
import Derived.Test.YtafcmgfmmlnngaaSx32
/-! Sx, part 37: words for functions that range over a function. -/
set_option linter.unusedVariables false
set_option linter.unusedSimpArgs false
namespace Go.Sx
open Go
variable {P : Program}
/-- The range over a function waits. -/
def rfK (P : Program) (quiet : FuncId → Bool) (n : Nat) (Γ : FH) (g : Nat) (ps : List Nat) (A B : JC) (vb : Option (Nat × Nat × Nat)) (ks : List Nat) (z : JC) (Q : Ex → Fr → List Res → Prop) (_ : Hide Γ z Q) (τ : Fr) (m : List Res) : Prop :=
  vecB vb τ m fun m => ∃ m1 f cap, (look g τ = .fn f cap ∧ okFn P f = true ∧ persF (keepF ks τ) ∧ bkOK m m1) ∧ ITok P quiet n ps A.flat B.flat τ f cap m m1 ∧ z.wp Γ m1.length Q (keepF ks τ) m1
theorem rfK_use {quiet : FuncId → Bool} {n : Nat} {Γ : FH} {g : Nat} {ps : List Nat} {A B : JC} {vb : Option (Nat × Nat × Nat)} {ks : List Nat} {z : JC} {Q : Ex → Fr → List Res → Prop} {hd : Hide Γ z Q} {τ : Fr} {m m2 m1 : List Res} {f : FuncId} {cap : List SV}
    (hv : ∀ K : List Res → Prop, K m2 → vecB vb τ m K) (hf : look g τ = .fn f cap) (hok : okFn P f = true) (hp : persF (keepF ks τ)) (hbk : bkOK m2 m1) (hIT : ITok P quiet n ps A.flat B.flat τ f cap m2 m1) (hz : z.wp Γ m1.length Q (keepF ks τ) m1) : rfK P quiet n Γ g ps A B vb ks z Q hd τ m :=
  hv _ ⟨m1, f, cap, ⟨hf, hok, hp, hbk⟩, hIT, hz⟩
namespace W
theorem persF_nil : persF .nil = True := nr rfl
theorem persF_put (k : Nat) (x : SV) (r : Fr) : persF (.put k x r) = (pers x ∧ persF r) := nr rfl
theorem persF_pick (s d : Nat) (x : SV) (r : Fr) : persF (.pick s d x r) = (pers x ∧ persF r) := nr rfl
theorem pers_int (k : IntKind) (n : Int) : pers (.int k n) = True := nr (by simp [pers])
theorem pers_bool (b : Bool) : pers (.bool b) = True := nr (by simp [pers])
theorem pers_lst {τ : Type} (w : Nat) (d : τ) (f : τ → SV) (l : List τ) : pers (.lst w d f l) = True := nr (by simp [pers])
theorem pers_eptr {τ : Type} (w : Nat) (d : τ) (f : τ → SV) (l : List τ) (i : Nat) (p : List Step) (o : Nat) : pers (.eptr w d f l i p o) = True := nr (by simp [pers])
theorem pers_ref (c : SV) (p : List Step) (o : Nat) : pers (.ref c p o) = True := nr (by simp [pers])
theorem pers_ptr (i : Nat) (p : List Step) (o : Nat) : pers (.ptr i p o) = True := nr (by simp [pers])
theorem pers_raw (v : Value) : pers (.raw v) = True := nr (by simp [pers])
theorem pers_nils : pers .nils = True := nr (by simp [pers])
theorem pers_junk : pers .junk = True := nr (by simp [pers])
theorem pers_agg (l : List SV) : pers (.agg l) = persL l := nr (by simp [pers])
theorem pers_fn (f : FuncId) (l : List SV) : pers (.fn f l) = persL l := nr (by simp [pers])
theorem persL_nil : persL [] = True := nr (by simp [persL])
theorem persL_cons (x : SV) (l : List SV) : persL (x :: l) = (pers x ∧ persL l) := nr (by simp [persL])
theorem bkOK_nil (m : List Res) : bkOK [] m = True := nr (by simp [bkOK])
theorem bkOK_cons (x y : Res) (m m1 : List Res) : bkOK (x :: m) (y :: m1) = ((y.isBlk = true → x.isBlk = true) ∧ bkOK m m1) := nr rfl
theorem isBlk_blk (T : TypeId) (c : SV) : (Res.blk T c).isBlk = true := nr rfl
theorem isBlk_vec (T : TypeId) (w : Nat) (l : List SV) : (Res.vec T w l).isBlk = false := nr rfl
theorem isBlk_dead : Res.dead.isBlk = false := nr rfl
theorem allInt_nil : allInt [] = true := nr rfl
theorem allInt_int (k : IntKind) (n : Int) (l : List SV) : allInt (.int k n :: l) = allInt l := nr rfl
theorem putsF_nil (xs : List SV) (τ : Fr) : putsF [] xs τ = τ := nr (by simp [putsF])
theorem putsF_cons (k : Nat) (ks : List Nat) (x : SV) (xs : List SV) (τ : Fr) : putsF (k :: ks) (x :: xs) τ = putsF ks xs (.put k x τ) := nr rfl
theorem vecB_none (τ : Fr) (m : List Res) (K : List Res → Prop) : vecB none τ m K = K m := nr rfl
theorem ren_raw (r : Nat → Option Nat) (v : Value) : ren r (.raw v) = .raw v := nr (by simp [ren])
theorem kill_raw (i : Nat) (v : Value) : kill i (.raw v) = .raw v := nr (by simp [kill])
theorem isVal_raw (v : Value) : (SV.raw v).isVal = true := nr rfl
section
variable {quiet : FuncId → Bool} {n n0 : Nat} {Γ : FH} {Q : Ex → Fr → List Res → Prop} {τ : Fr} {m : List Res} {Y : List SV → List Res → List Res → Prop} {yv : Value}
theorem xc_seq {a : JC} {b : XC} : XC.wp P quiet n Γ n0 (.seq a b) Q τ m = a.wp Γ n0 (fun e τ' m' => match e with
    | .norm => b.wp P quiet n Γ n0 Q τ' m'
    | e => Q e τ' m') τ m := propext Iff.rfl
theorem xc_prune {ks : List Nat} {b : XC} : XC.wp P quiet n Γ n0 (.prune ks b) Q τ m = b.wp P quiet n Γ n0 Q (keepF ks τ) m := propext Iff.rfl
theorem xc_rf {x : JC} {id g : Nat} {ps : List Nat} {A B : JC} {vb : Option (Nat × Nat × Nat)} {ks : List Nat} {z : JC} : XC.wp P quiet n Γ n0 (.rf x id g ps A B vb ks z) Q τ m = x.wp Γ n0 (fun e τ m => match e with
    | .norm => rfK P quiet n Γ g ps A B vb ks z Q ⟨⟩ τ m
    | e => Q e τ m) τ m := propext Iff.rfl
theorem rfK_congr {g : Nat} {ps : List Nat} {A B : JC} {vb : Option (Nat × Nat × Nat)} {ks : List Nat} {z : JC} {hd : Hide Γ z Q} {τ' : Fr} {m' : List Res} (h1 : wrp τ = τ') (h2 : wrp m = m') : rfK P quiet n Γ g ps A B vb ks z Q hd τ m = rfK P quiet n Γ g ps A B vb ks z Q hd τ' m' := by subst h1; subst h2; rfl
theorem yc_jc {c : JC} : YC.wp Γ Y yv n0 (.jc c) Q τ m = c.wp Γ n0 Q τ m := propext Iff.rfl
theorem yc_seq {a b : YC} : YC.wp Γ Y yv n0 (.seq a b) Q τ m = a.wp Γ Y yv n0 (fun e τ' m' => match e with
    | .norm => b.wp Γ Y yv n0 Q τ' m'
    | e => Q e τ' m') τ m := propext Iff.rfl
theorem yc_block {id : Nat} {c : YC} : YC.wp Γ Y yv n0 (.block id c) Q τ m = c.wp Γ Y yv n0 (fun e τ' m' => match e with
    | .exit i => if i = id then Q .norm τ' m' else Q (.exit i) τ' m'
    | e => Q e τ' m') τ m := propext Iff.rfl
theorem yc_prune {ks : List Nat} {c : YC} : YC.wp Γ Y yv n0 (.prune ks c) Q τ m = c.wp Γ Y yv n0 Q (keepF ks τ) m := propext Iff.rfl
theorem yc_yl {A B : SL} {s d c e : Nat} {ks : List Nat} {x : Opd} {ys : List Opd} : YC.wp Γ Y yv n0 (.yl A s ks B d x ys c e) Q τ m = A.wp Γ false (fun τ m => match look s τ with
    | .bool b => (b = false → Q .norm (.put e (.bool false) (keepF ks τ)) m) ∧ (b = true → B.wpg Γ false s true (fun τ' m' => (persF (keepF ks τ') ∧ x.fv τ' = .raw yv ∧ allInt (ys.map (Opd.fv τ')) = true) ∧
        ∃ m'', Y (ys.map (Opd.fv τ')) m' m'' ∧ Q .norm (.put e (.bool false) (keepF ks τ')) m'') τ m)
    | _ => False) τ m := propext Iff.rfl
theorem ycwp_congr {c : YC} {τ' : Fr} {m' : List Res} (h1 : wrp τ = τ') (h2 : wrp m = m') : YC.wp Γ Y yv n0 c Q τ m = YC.wp Γ Y yv n0 c Q τ' m' := by subst h1; subst h2; rfl
theorem xcwp_congr {c : XC} {τ' : Fr} {m' : List Res} (h1 : wrp τ = τ') (h2 : wrp m = m') : XC.wp P quiet n Γ n0 c Q τ m = XC.wp P quiet n Γ n0 c Q τ' m' := by subst h1; subst h2; rfl
end
end W
attribute [congr] W.ycwp_congr W.xcwp_congr W.rfK_congr
attribute [go_sem] W.persF_nil W.persF_put W.persF_pick W.pers_int W.pers_bool W.pers_lst W.pers_eptr W.pers_ref W.pers_ptr W.pers_raw W.pers_nils W.pers_junk W.pers_agg W.pers_fn W.persL_nil W.persL_cons W.bkOK_nil W.bkOK_cons W.isBlk_blk W.isBlk_vec W.isBlk_dead W.allInt_nil W.allInt_int W.putsF_nil W.putsF_cons W.vecB_none W.isVal_raw W.ren_raw W.kill_raw W.xc_seq W.xc_prune W.xc_rf W.yc_jc W.yc_seq W.yc_block W.yc_prune W.yc_yl
/-- **An iterator's loop.** -/
theorem yloopF {Γ : FH} {Y : List SV → List Res → List Res → Prop} {yv : Value} {n0 : Nat} {keep mod : List Nat} {c : YC} {Q : Ex → Fr → List Res → Prop} {τ : Fr} {m : List Res} (ι : Type) (U : ι → List SV) (M : ι → List Res) (ok : ι → Prop) (μ : ι → Nat) (i0 : ι)
    (h0 : ok i0) (hσ : atF mod (U i0) τ) (hm : M i0 = m)
    (h : ∀ i, ok i → c.wp Γ Y yv n0 (fun e τ' m' => match e with
        | .norm => ∃ j, ok j ∧ μ j < μ i ∧ n0 ≤ (M j).length ∧ atR (ltI (M j).length) mod (U j) τ' ∧ sameR (ltI (M j).length) τ τ' keep ∧ (m'.take (M j).length).map (renR (ltI (M j).length)) = M j
        | e => Q e τ' m') (ofF mod (U i) (keepF keep τ)) (M i)) : YC.wp Γ Y yv n0 (.loop keep mod c) Q τ m :=
  ⟨ι, U, M, ok, μ, i0, h0, hσ, hm, h⟩
/-- A callee that makes new things out of what it is handed as it is. -/
def FH.nw (f : FuncId) {α : Type} (A : DA α) (pre : α → Prop) (F : α → SV) (M : α → List Res) (Γ : FH) : FH :=
  FH.on f (fun args m => .is (A.emb (A.decV [] args) = args ∧ pre (A.decV [] args)) (ren (shf m.length) (F (A.decV [] args))) (m ++ (M (A.decV [] args)).map (renR (shf m.length)))) Γ
theorem FH.nw_ok {f : FuncId} {α : Type} {A : DA α} {pre : α → Prop} {F : α → SV} {M : α → List Res} {Γ : FH} (hf : okFn P f = true) (h : ∀ y, pre y → FnOK P f (A.emb y) [] (F y) (M y)) (hΓ : FHOK P Γ) : FHOK P (FH.nw f A pre F M Γ) :=
  FH.on_ok (fun args m hp => ⟨hf, call_of_fn0 (h _ hp.2) (by have hh := A.ren (fun _ => Option.none) (A.decV [] args); rw [hp.1] at hh; exact hh.trans hp.1.symm)⟩) hΓ
theorem W.fh_nw (f : FuncId) {α : Type} (A : DA α) (pre : α → Prop) (F : α → SV) (M : α → List Res) (Γ : FH) (g : FuncId) (args : List SV) (m : List Res) : FH.nw f A pre F M Γ g args m = if g = f then .is (A.emb (A.decV [] args) = args ∧ pre (A.decV [] args)) (ren (shf m.length) (F (A.decV [] args))) (m ++ (M (A.decV [] args)).map (renR (shf m.length))) else Γ g args m := nr rfl
attribute [go_sem ↓] W.fh_nw
end Go.Sx
