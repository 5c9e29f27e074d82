/- A part of the proof of StripeRuns. Conditions: none. -/
import Derived.Test.YtpajfggdnobheaaSx21f
import Derived.OwnWalk
set_option linter.unusedVariables false
set_option linter.unusedSimpArgs false
section
namespace Go.Sx
open Go
variable {P:Program} {main:Bool} {Fz:Nat→Prop}
def renF (r:Nat→Option Nat):Fr→Fr
 | .nil=> .nil
 | .put k x t=> .put k (ren r x) (renF r t)
 | .pick s d x t=> .pick s d (ren r x) (renF r t)
theorem look_renF {r:Nat→Option Nat} {k:Nat}:∀ τ:Fr,look k (renF r τ)=ren r (look k τ)
 | .nil=>rfl
 | .put j x t=>by
  simp only [renF,look]
  split
  ·rfl
  ·exact look_renF t
 | .pick s d x t=>by
  simp only [renF,look]
  split
  ·rfl
  ·split
   ·rfl
   ·exact look_renF t
structure Frz where
 dec:List Res→SV→SV
 P:List Res→SV→Prop
 ok:∀ {ε:Env} {m:List Res} {w:World},Good ε m w→∀ {x:SV},P m x→∀ {cs:List Value},SatC x ε cs→SatC (dec m x) (Sx.frz ε m w).cl cs
 agg:∀ {m:List Res} {x:SV},P m x→(dec m x).isAgg=x.isAgg
 val:∀ {m:List Res} {x:SV},P m x→x.isVal=true
inductive JC:Type 1 where
 |skip
 |ops (l:SL)
 |dops (l:SL)
 |gops (l:SL) (d:Nat) (T:TypeId) (z:SV) (lo:SL)
 |seq (a b:JC)
 |cond (x:Opd) (a b:JC)
 |block (id:Nat) (c:JC)
 |loop (keep mod:List Nat) (c:JC)
 |exit (id:Nat)
 |ret
 |prune (ks:List Nat) (c:JC)
 |vecs (k:Nat) (T:TypeId) (w:Nat) (c:JC)
 |orc (s:Nat) (l:SL)
 |frz (k:Nat) (F:Frz) (c:JC)
 |sel (ks:List Nat) (c:JC)
 |frzv (k:Nat) (F:Frz) (c:JC)
 |frzb (k:Nat) (F:Frz) (c:JC)
 |pfz (k:Nat) (F:Frz) (c:JC)
def JC.flat:JC→IC
 | .skip=> .skip
 | .ops l=> .ops (l.flat none)
 | .dops l=> .dops (l.flat none)
 | .gops l d T z lo=> .gops (l.flat none) d T z (lo.flat none)
 | .seq a b=> .seq a.flat b.flat
 | .cond x a b=> .cond x a.flat b.flat
 | .block id c=> .block id c.flat
 | .loop _ _ c=> .loop c.flat
 | .exit id=> .exit id
 | .ret=> .ret
 | .prune _ c=>c.flat
 | .vecs _ _ _ c=>c.flat
 | .orc s l=> .cond (.t s) .skip (.ops (l.flat none))
 | .frz _ _ c=>c.flat
 | .sel _ c=>c.flat
 | .frzv _ _ c=>c.flat
 | .frzb _ _ c=>c.flat
 | .pfz _ _ c=>c.flat
def JC.wf (n:Nat):JC→Bool
 | .ops l| .dops l=>l.wf n
 | .gops l d _ _ lo=>l.wf n&&(lo.wf n&&decide (d<n))
 | .seq a b| .cond _ a b=>a.wf n&&b.wf n
 | .block _ c=>c.wf n
 | .loop keep mod c=>mod.all (fun k=>decide (k<n))&&keep.all (fun k=>decide (k<n))&&c.wf n
 | .prune _ c=>c.wf n
 | .vecs k _ _ c=>decide (k<n)&&c.wf n
 | .orc s l=>decide (s<n)&&l.plain&&l.wf n
 | .frz k _ c=>decide (k<n)&&c.wf n
 | .sel _ c=>c.wf n
 | .frzv k _ c=>decide (k<n)&&c.wf n
 | .pfz k _ c=>decide (k<n)&&c.wf n
 | .frzb _ _ c=>c.wf n
 |_=>true
def notIn (k:Nat):List Nat→Prop
 |[]=>True
 |j::r=>k≠j∧notIn k r
def nd:List Nat→Prop
 |[]=>True
 |k::r=>notIn k r∧nd r
theorem notIn_ok {k:Nat}:∀ {l:List Nat},notIn k l→k∉l
 |[],_,h=>by cases h
 |j::r,h,hm=>by
  rcases List.mem_cons.1 hm with e|e
  ·exact h.1 e
  ·exact notIn_ok h.2 e
theorem nd_ok:∀ {l:List Nat},nd l→l.Nodup
 |[],_=>List.nodup_nil
 |_::_,h=>List.nodup_cons.2 ⟨notIn_ok h.1,nd_ok h.2⟩
def selJ:List Nat→Nat→Nat→Option Nat
 |[],_,_=>none
 |k::r,j,i=>if i=k then some j else selJ r (j+1) i
theorem selJ_at (i:Nat):∀ (ks:List Nat) (j:Nat),selJ ks j i=(selI ks i).map (· +j)
 |[],j=>by simp [selJ,selI]
 |k::r,j=>by
  simp only [selJ]
  by_cases h:i=k
  ·subst h;simp [selI]
  ·rw [if_neg h,selJ_at i r (j+1)]
   simp only [selI,List.contains_cons]
   have h':(i==k)=false:=by simpa using h
   simp only [h',Bool.false_or]
   split
   ·rw [List.idxOf_cons]
    have:(k==i)=false:=by simpa using (fun e=>h e.symm)
    simp [this];omega
   ·rfl
theorem selI_eq (ks:List Nat):selI ks=selJ ks 0:=by
 funext i
 rw [selJ_at]
 cases selI ks i<;>rfl
mutual
def idsV:SV→List Nat
 | .vec i _=>[i]
 | .ptr i _ _=>[i]
 | .vptr i _ _ _=>[i]
 | .pvec i _=>[i]
 | .map i=>[i]
 | .agg l=>idsL l
 | .tup l=>idsL l
 | .fn _ l=>idsL l
 | .iface _ x=>idsV x
 |_=>[]
def idsL:List SV→List Nat
 |[]=>[]
 |x::r=>idsV x++idsL r
end
def upto:Nat→Nat→List Nat
 |0,_=>[]
 |n+1,k=>k::upto n (k+1)
theorem upto_at:∀ (n k i:Nat),i<n→(upto n k)[i]? =some (k+i)
 |n+1,k,0,_=>rfl
 |n+1,k,i+1,h=>by
  simp only [upto,List.getElem?_cons_succ]
  rw [upto_at n (k+1) i (by omega)]
  congr 1;omega
theorem upto_len:∀ (n k:Nat),(upto n k).length=n
 |0,_=>rfl
 |n+1,k=>by simp [upto,upto_len n]
def selF (n0:Nat) (ks:List Nat) (K:Fr→List Res→Prop) (τ:Fr) (m:List Res):Prop:=
 nd (upto n0 0++ks)∧K (renF (selJ (upto n0 0++ks) 0) τ) ((upto n0 0++ks).map fun k=>renR (selJ (upto n0 0++ks) 0) (memAt m k))
def tidyF (n0:Nat) (m0:List Res) (K:Fr→List Res→Prop) (τ:Fr) (m:List Res):Prop:=
 if m.length=m0.length+1 then match goneAt m0 m 0 with
  |some i=>if n0≤i then K (renF (selI ((List.range m0.length).set i m0.length)) τ) (selM ((List.range m0.length).set i m0.length) m) else K τ m
  |none=>K τ m
 else K τ m
def vecsF (k:Nat) (T:TypeId) (w:Nat) (K:Fr→List Res→Prop) (τ:Fr) (m:List Res):SV→Prop
 | .nils=>K (.put k (.vec m.length 0) τ) (m++[.vec T w []])
 |_=>K τ m
def ltI (n:Nat):Nat→Option Nat:=fun i=>if i<n then some i else none
def atR (r:Nat→Option Nat):List Nat→List SV→Fr→Prop
 |k::ks,x::xs,τ=>ren r (look k τ)=x∧atR r ks xs τ
 |[],[],_=>True
 |_,_,_=>False
def sameR (r:Nat→Option Nat) (τ τ':Fr):List Nat→Prop
 |[]=>True
 |k::ks=>ren r (look k τ')=look k τ∧sameR r τ τ' ks
def frzvF (k:Nat) (F:Frz) (K:Fr→List Res→Prop) (τ:Fr) (m:List Res):Prop:=
 nd (idsV (look k τ))∧F.P ((idsV (look k τ)).map fun i=>renR (selJ (idsV (look k τ)) 0) (memAt m i)) (ren (selJ (idsV (look k τ)) 0) (look k τ))∧
  K (.put k (F.dec ((idsV (look k τ)).map fun i=>renR (selJ (idsV (look k τ)) 0) (memAt m i)) (ren (selJ (idsV (look k τ)) 0) (look k τ))) τ) (killK (idsV (look k τ)) m)
def frzbG (b:Nat) (F:Frz) (K:List Res→Prop) (m:List Res):Res→Prop
 | .blk T c=>nd (b::idsV c)∧F.P ((idsV c).map fun i=>renR (selJ (idsV c) 0) (memAt m i)) (ren (selJ (idsV c) 0) c)∧
   K ((killK (idsV c) m).set b (.blk T (F.dec ((idsV c).map fun i=>renR (selJ (idsV c) 0) (memAt m i)) (ren (selJ (idsV c) 0) c))))
 |_=>False
def frzbF (k:Nat) (F:Frz) (K:List Res→Prop) (τ:Fr) (m:List Res):Prop:=match look k τ with
 | .ptr b [] 0=>frzbG b F K m (memAt m b)
 |_=>False
def JC.wp (Γ:FH) (n0:Nat):JC→(Ex→Fr→List Res→Prop)→Fr→List Res→Prop
 | .skip,Q,τ,m=>Q .norm τ m
 | .ops l,Q,τ,m=>l.wp Γ false (Q .norm) τ m
 | .dops l,Q,τ,m=>l.wp Γ true (fun τ' m'=>tidyF n0 m (Q .norm) τ' m') τ m
 | .gops l d T z lo,Q,τ,m=>l.wp Γ true (fun τ' m'=>lo.wp Γ false (fun τ2 m2=>tidyF n0 m (Q .norm) τ2 m2) (.put d (.ptr m'.length [] 0) τ') (m'++[.blk T z])) (.put d .junk τ) m
 | .seq a b,Q,τ,m=>a.wp Γ n0 (fun e τ' m'=>match e with
  | .norm=>b.wp Γ n0 Q τ' m'
  |e=>Q e τ' m') τ m
 | .cond x a b,Q,τ,m=>match x.fv τ with
  | .bool t=>(t=true→a.wp Γ n0 Q τ m)∧(t=false→b.wp Γ n0 Q τ m)
  | .anyb=>a.wp Γ n0 Q τ m∧b.wp Γ n0 Q τ m
  |_=>False
 | .block id c,Q,τ,m=>c.wp Γ n0 (fun e τ' m'=>match e with
  | .exit i=>if i=id then Q .norm τ' m' else Q (.exit i) τ' m'
  |e=>Q e τ' m') τ m
 | .loop keep mod c,Q,τ,m=> ∃ (ι:Type) (U:ι→List SV) (M:ι→List Res) (ok:ι→Prop) (μ:ι→Nat) (i:ι),ok i∧atF mod (U i) τ∧M i=m∧
   ∀ i,ok i→c.wp Γ n0 (fun e τ' m'=>match e with
    | .norm=> ∃ j,ok j∧μ j<μ i∧n0≤(M j).length∧atR (ltI (M j).length) mod (U j) τ'∧sameR (ltI (M j).length) τ τ' keep∧(m'.take (M j).length).map (renR (ltI (M j).length))=M j
    |e=>Q e τ' m') (ofF mod (U i) (keepF keep τ)) (M i)
 | .exit id,Q,τ,m=>Q (.exit id) τ m
 | .ret,Q,τ,m=>Q .ret τ m
 | .prune ks c,Q,τ,m=>c.wp Γ n0 Q (keepF ks τ) m
 | .vecs k T w c,Q,τ,m=>vecsF k T w (fun τ' m'=>c.wp Γ n0 Q τ' m') τ m (look k τ)
 | .orc s l,Q,τ,m=>match look s τ with
  | .bool b=>l.vc Γ m (.t s) τ (fun q g=>(b=false→g)∧Q .norm (.put s (.bool (b||q)) (junkF l.dsts τ)) m) True
  |_=>False
 | .frz k F c,Q,τ,m=>F.P m (look k τ)∧c.wp Γ n0 Q (.put k (F.dec m (look k τ)) τ) (deads m)
 | .frzv k F c,Q,τ,m=>frzvF k F (fun τ' m'=>c.wp Γ n0 Q τ' m') τ m
 | .frzb k F c,Q,τ,m=>frzbF k F (fun m'=>c.wp Γ n0 Q τ m') τ m
 | .sel ks c,Q,τ,m=>c.wp Γ n0 (fun e τ' m'=>match e with
  | .norm=>selF n0 ks (Q .norm) τ' m'
  |e=>Q e τ' m') τ m
 | .pfz k F c,Q,τ,m=>c.wp Γ n0 (fun e τ' m'=>match e with
  | .norm=>frzvF k F (Q .norm) τ' m'
  |e=>Q e τ' m') τ m
def SlotsF (n:Nat) (ε:Env) (τ:Fr) (a:Act):Prop:= ∃ σ,Rep n σ τ∧SlotsOK ε σ a
theorem SlotsF.size {n:Nat} {ε:Env} {τ:Fr} {a:Act} (h:SlotsF n ε τ a):a.tmps.size=n:=by
 obtain ⟨σ,h1,h2⟩:=h
 rw [← h2.1,h1.1]
theorem SlotsF.sat {n:Nat} {ε:Env} {τ:Fr} {a:Act} (h:SlotsF n ε τ a) (k:Nat):SatV ε (look k τ) (a.tmps.getD k undef):=by
 obtain ⟨σ,h1,h2⟩:=h
 rcases h1.2 k with h|⟨_,h⟩
 ·rw [h];trivial
 ·rw [h];exact h2.2 k
theorem SlotsF.weak {n:Nat} {ε:Env} {τ τ':Fr} {a:Act} (h:SlotsF n ε τ a) (hl:∀ k,Le (look k τ') (look k τ)):SlotsF n ε τ' a:=by
 obtain ⟨σ,h1,h2⟩:=h
 refine ⟨σ,⟨h1.1,fun k=> ?_⟩,h2⟩
 rcases hl k with e|e
 ·exact .inl e
 ·rw [e];exact h1.2 k
theorem look_of:∀ {ks:List Nat} {xs:List SV} {τ τ':Fr} (k:Nat),atF ks xs τ'→Le (look k τ) (look k τ')→Le (look k (ofF ks xs τ)) (look k τ')
 |[],[],_,_,_,_,h=>h
 |j::ks,x::xs,τ,τ',k,ha,h=>by
  simp only [ofF,look]
  by_cases e:k=j
  ·subst e;rw [if_pos rfl];exact .inr ha.1.symm
  ·rw [if_neg e];exact look_of k ha.2 h
 |[],_::_,_,_,_,ha,_=>ha.elim
 |_::_,[],_,_,_,ha,_=>ha.elim
theorem SlotsF.env {n:Nat} {ε ε':Env} {τ:Fr} {a:Act} (h:SlotsF n ε τ a) (hl:ε.Le ε'):SlotsF n ε' τ a:=by
 obtain ⟨σ,h1,h2⟩:=h
 exact ⟨σ,h1,h2.mono hl⟩
theorem vecs_ok {β:Base} {ε:Env} {m:List Res} {w:World} (h:Inv β ε m w) {n:Nat} {τ:Fr} {a:Act} (hs:SlotsF n ε τ a) {k:Nat} (hk:k<n) {T:TypeId} {wd':Nat} {K:Fr→List Res→Prop} (hh:vecsF k T wd' K τ m (look k τ)):
  ∃ ε' τ' m',K τ' m'∧Inv β ε' m' w∧SlotsF n ε' τ' a:=by
 unfold vecsF at hh
 split at hh
 ·rename_i e
  have hg:w.grownBy w none:=World.grownBy.refl w none
  have hi:=h.more (b:=0) (v:= .slice none 0 0) (r:= .vec T wd' []) hg (Nat.le_refl _) ⟨[], .of ⟨by simp, .inl ⟨by simp [Env.more,h.good.n],rfl⟩⟩,fun j hj=>absurd hj (Nat.not_lt_zero _)⟩ (by
   intro x hx
   simp [ownR,Env.more,h.good.n,Value.ownBlock] at hx)
  have hle:=ε.le_more 0 (.slice none 0 0)
  refine ⟨_,_,_,hh,hi,?_⟩
  obtain ⟨σ,h1,h2⟩:=hs
  have hv:=h2.2 k
  have ek:σ.getD k .junk= .nils:=le_eq (h1.le k) e (by intro h;cases h)
  rw [ek] at hv
  have hv':=sat_nils hv
  refine ⟨σ.set k (.vec m.length 0),h1.put hk (Le.refl _),⟨by simp [h2.1],fun j=> ?_⟩⟩
  by_cases ej:j=k
  ·subst ej
   rw [getD_set_eq (by rw [h1.1];exact hk),hv']
   refine ⟨[.slice none 0 0],?_,rfl⟩
   simp only [SatC]
   refine ⟨by simp [Env.more,h.good.n], .inl ⟨by simp [Env.more,h.good.n],trivial⟩,by simp [Env.more,h.good.n]⟩
  ·rw [getD_set_ne ej]
   exact (h2.2 j).mono hle
 ·exact ⟨ε,τ,m,hh,h,hs⟩
theorem frz_ok {β:Base} {ε:Env} {m:List Res} {w:World} (h:Inv β ε m w) {n:Nat} {τ:Fr} {a:Act} (hs:SlotsF n ε τ a) {k:Nat} (hk:k<n) {F:Frz} (hP:F.P m (look k τ)):
  ∃ ε',Inv β ε' (deads m) w∧SlotsF n ε' (.put k (F.dec m (look k τ)) τ) a:=by
 refine ⟨_,h.freeze,?_⟩
 have hle:ε.Le (Sx.frz ε m w):=⟨Nat.le_refl _,fun _ _=>rfl,fun _ _=>rfl,frz_H h.good⟩
 obtain ⟨σ,h1,h2⟩:=hs
 have e:=le_val (h1.le k) (F.val hP)
 obtain ⟨cs,k1,k2⟩:=sat_val (h2.2 k) (by rw [e];exact F.val hP)
 rw [e] at k1 k2
 have k3:=F.ok h.good hP k1
 refine ⟨σ.set k (F.dec m (look k τ)),h1.put hk (Le.refl _),by simp [h2.1],fun j=> ?_⟩
 by_cases ej:j=k
 ·subst ej
  rw [getD_set_eq (by rw [h1.1];exact hk),k2,← F.agg hP]
  exact satC_sat (SatC.mono _ (Env.cl_le _) k3)
 ·rw [getD_set_ne ej]
  exact (h2.2 j).mono hle
theorem frzv_ok {β:Base} {ε:Env} {m:List Res} {w:World} (h:Inv β ε m w) {n:Nat} {τ:Fr} {a:Act} (hs:SlotsF n ε τ a) {k:Nat} (hk:k<n) {F:Frz} {K:Fr→List Res→Prop} (hh:frzvF k F K τ m):
  ∃ ε' τ' m',K τ' m'∧Inv β ε' m' w∧SlotsF n ε' τ' a:=by
 unfold frzvF at hh
 generalize hks:idsV (look k τ)=ks at hh
 obtain ⟨h1,h2,h3⟩:=hh
 have hn:=nd_ok h1
 rw [← selI_eq] at h2 h3
 have hg:=h.good.sel ks hn
 have hle:=frzK_le h.good ks
 refine ⟨frzK ε m w ks,_,_,h3,h.freezeK ks,?_⟩
 obtain ⟨σ,r1,r2⟩:=hs
 have hval:=F.val h2
 have hx:(look k τ).isVal=true:=by
  cases hl:look k τ<;>rw [hl] at hval<;>first|rfl|(simp [ren,SV.isVal] at hval)
 have e:=le_val (r1.le k) hx
 obtain ⟨cs,k1,k2⟩:=sat_val (r2.2 k) (by rw [e];exact hx)
 rw [e] at k1 k2
 have k3:=F.ok hg h2 (SatC.ren (selI ks) _ (sel_ren ks ε) k1)
 have k4:=SatC.mono _ (frzK_sel h.good hn) k3
 refine ⟨σ.set k (F.dec (selM ks m) (ren (selI ks) (look k τ))),r1.put hk (Le.refl _),by simp [r2.1],fun j=> ?_⟩
 by_cases ej:j=k
 ·subst ej
  rw [getD_set_eq (by rw [r1.1];exact hk),k2]
  have ha:(look j τ).isAgg=(F.dec (selM ks m) (ren (selI ks) (look j τ))).isAgg:=by
   refine Eq.trans ?_ (F.agg h2).symm
   cases hl:look j τ<;>rw [hl] at hval<;>first|rfl|(simp only [ren,renI] at hval ⊢;split at hval<;>first|rfl|(simp [SV.isVal] at hval))
  rw [ha]
  exact satC_sat k4
 ·rw [getD_set_ne ej]
  exact (r2.2 j).mono hle
theorem frzb_ok {β:Base} {ε:Env} {m:List Res} {w:World} (h:Inv β ε m w) {n:Nat} {τ:Fr} {a:Act} (hs:SlotsF n ε τ a) {k:Nat} {F:Frz} {K:List Res→Prop} (hh:frzbF k F K τ m):
  ∃ ε' m',K m'∧Inv β ε' m' w∧SlotsF n ε' τ a:=by
 unfold frzbF at hh
 split at hh<;>try exact hh.elim
 rename_i b hb
 unfold frzbG at hh
 split at hh<;>try exact hh.elim
 rename_i T c hm
 generalize hks:idsV c=ks at hh
 obtain ⟨h1,h2,h3⟩:=hh
 obtain ⟨hbn,hn⟩:=List.nodup_cons.1 (nd_ok h1)
 rw [← selI_eq] at h2 h3
 have hg:=h.good.sel ks hn
 have hle:=frzK_le h.good ks
 have hm2:memAt (killK ks m) b= .blk T c:=by rw [killK_at,if_neg hbn];exact hm
 refine ⟨frzK ε m w ks,_,h3,(h.freezeK ks).retell hm2 fun cs hcs=> ?_,hs.env hle⟩
 have hr:=h.good.res b
 rw [hm] at hr
 obtain ⟨cs0,g1,g2⟩:=hr
 have hcs:w.heap[ε.blk b]? =some (.cells cs.toArray T (0,0)):=hcs
 rw [g1] at hcs
 simp only [Option.some.injEq,Obj.cells.injEq] at hcs
 have:cs0=cs:=by simpa using congrArg Array.toList hcs.1
 subst this
 exact SatC.mono _ (frzK_sel h.good hn) (F.ok hg h2 (SatC.ren (selI ks) _ (sel_ren ks ε) g2))
def EndsF (Fz:Nat→Prop) (n:Nat) (ρ:Root) (d:List Deferred) (Q:Ex→Fr→List Res→Prop) (e:Exit) (a:Act) (w:OW):Prop:=
 ∃ ex τ m ε,ExRel e ex∧Q ex τ m∧InvO Fz ρ ε m w∧SlotsF n ε τ a∧a.defers=d
theorem selF_ok {n0 n:Nat} {ks:List Nat} {m:List Res} {K:Fr→List Res→Prop} {τ:Fr} (h:selF n0 ks K τ m) {β:Base} {ε:Env} {a:Act} {w:World} (hI:Inv β ε m w) (hs:SlotsF n ε τ a) (hb:β.ε.n≤n0):
  ∃ τ' m' ε',K τ' m'∧Inv β ε' m' w∧SlotsF n ε' τ' a:=by
 obtain ⟨σ,h1,h2⟩:=hs
 obtain ⟨g1,g2⟩:=h
 rw [← selI_eq] at g2
 refine ⟨_,_,_,g2,hI.sel _ (nd_ok g1) (fun k hk=> ?_),renL (selI (upto n0 0++ks)) σ,?_,h2.ren (sel_ren _ ε)⟩
 ·rw [List.getElem?_append_left (by rw [upto_len];omega),upto_at n0 0 k (by omega),Nat.zero_add]
 ·refine ⟨by rw [renL_length];exact h1.1,fun k=> ?_⟩
  rw [look_renF,renL_getD]
  rcases h1.2 k with e|⟨e1,e2⟩
  ·left;rw [e];rfl
  ·exact .inr ⟨e1,by rw [e2]⟩
theorem tidyF_ok {n0 n:Nat} {m0 m:List Res} {K:Fr→List Res→Prop} {τ:Fr} (h:tidyF n0 m0 K τ m) {β:Base} {ε:Env} {a:Act} {w:World} (hI:Inv β ε m w) (hs:SlotsF n ε τ a) (hb:β.ε.n≤n0):
  ∃ τ' m' ε',K τ' m'∧Inv β ε' m' w∧SlotsF n ε' τ' a:=by
 obtain ⟨σ,h1,h2⟩:=hs
 unfold tidyF at h
 split at h
 ·rename_i hl
  split at h
  ·rename_i i hg
   have hi:=(goneAt_ge _ _ _ _ hg).2
   rw [Nat.zero_add] at hi
   split at h
   ·rename_i hni
    refine ⟨_,_,_,h,hI.sel _ (range_set_nodup hi) (fun k hk=> ?_),renL (selI ((List.range m0.length).set i m0.length)) σ,?_,h2.ren (sel_ren _ ε)⟩
    ·rw [List.getElem?_set,if_neg (by omega),List.getElem?_range]
     omega
    ·refine ⟨by rw [renL_length];exact h1.1,fun k=> ?_⟩
     rw [look_renF,renL_getD]
     rcases h1.2 k with e|⟨e1,e2⟩
     ·left;rw [e];rfl
     ·exact .inr ⟨e1,by rw [e2]⟩
   ·exact ⟨_,_,_,h,hI,σ,h1,h2⟩
  ·exact ⟨_,_,_,h,hI,σ,h1,h2⟩
 ·exact ⟨_,_,_,h,hI,σ,h1,h2⟩
section inv
variable {quiet:FuncId→Bool} {c:Code}
theorem comp_skip (h:comp P quiet c=some .skip):c= .skip:=by
 cases c<;>simp only [comp] at h<;>first
  |rfl
  |(cases h;done)
  |(split at h<;>first|(cases h;done)|(split at h<;>first|(cases h;done)|(split at h<;>first|(cases h;done)|(rcases compR_dops h with ⟨_,h⟩|⟨_,_,_,_,_,h⟩<;>cases h;done)))|(simp only [Option.map_eq_some_iff] at h;obtain ⟨_,_,h⟩:=h;cases h))
  |(simp only [Option.map_eq_some_iff] at h;obtain ⟨_,_,h⟩:=h;cases h)
theorem comp_exit {i:Nat} (h:comp P quiet c=some (.exit i)):c= .exit i:=by
 cases c<;>simp only [comp] at h<;>first
  |(cases h;rfl;done)
  |(cases h;done)
  |(split at h<;>first|(cases h;done)|(split at h<;>first|(cases h;done)|(split at h<;>first|(cases h;done)|(rcases compR_dops h with ⟨_,h⟩|⟨_,_,_,_,_,h⟩<;>cases h;done)))|(simp only [Option.map_eq_some_iff] at h;obtain ⟨_,_,h⟩:=h;cases h))
  |(simp only [Option.map_eq_some_iff] at h;obtain ⟨_,_,h⟩:=h;cases h)
theorem comp_ret (h:comp P quiet c=some .ret):c= .ret:=by
 cases c<;>simp only [comp] at h<;>first
  |rfl
  |(cases h;done)
  |(split at h<;>first|(cases h;done)|(split at h<;>first|(cases h;done)|(split at h<;>first|(cases h;done)|(rcases compR_dops h with ⟨_,h⟩|⟨_,_,_,_,_,h⟩<;>cases h;done)))|(simp only [Option.map_eq_some_iff] at h;obtain ⟨_,_,h⟩:=h;cases h))
  |(simp only [Option.map_eq_some_iff] at h;obtain ⟨_,_,h⟩:=h;cases h)
theorem comp_seq {a b:IC} (h:comp P quiet c=some (.seq a b)):∃ x y,c= .seq x y∧comp P quiet x=some a∧comp P quiet y=some b:=by
 cases c<;>simp only [comp] at h<;>first
  |(split at h<;>first
    |(cases h;exact ⟨_,_,rfl,by assumption,by assumption⟩)
    |(cases h;done)
    |(split at h<;>first|(cases h;done)|(split at h<;>first|(cases h;done)|(rcases compR_dops h with ⟨_,h⟩|⟨_,_,_,_,_,h⟩<;>cases h;done)))
    |(simp only [Option.map_eq_some_iff] at h;obtain ⟨_,_,h⟩:=h;cases h))
  |(cases h;done)
  |(simp only [Option.map_eq_some_iff] at h;obtain ⟨_,_,h⟩:=h;cases h)
theorem comp_cond {x':Opd} {a b:IC} (h:comp P quiet c=some (.cond x' a b)):∃ x y z,c= .cond x y z∧compO x=some x'∧comp P quiet y=some a∧comp P quiet z=some b:=by
 cases c<;>simp only [comp] at h<;>first
  |(split at h<;>first
    |(cases h;exact ⟨_,_,_,rfl,by assumption,by assumption,by assumption⟩)
    |(cases h;done)
    |(split at h<;>first|(cases h;done)|(split at h<;>first|(cases h;done)|(rcases compR_dops h with ⟨_,h⟩|⟨_,_,_,_,_,h⟩<;>cases h;done)))
    |(simp only [Option.map_eq_some_iff] at h;obtain ⟨_,_,h⟩:=h;cases h))
  |(cases h;done)
  |(simp only [Option.map_eq_some_iff] at h;obtain ⟨_,_,h⟩:=h;cases h)
theorem comp_block {id:Nat} {a:IC} (h:comp P quiet c=some (.block id a)):∃ x,c= .block id x∧comp P quiet x=some a:=by
 cases c<;>simp only [comp] at h<;>first
  |(simp only [Option.map_eq_some_iff] at h;obtain ⟨_,h1,h⟩:=h;cases h;exact ⟨_,rfl,h1⟩)
  |(split at h<;>first
    |(cases h;done)
    |(split at h<;>first|(cases h;done)|(split at h<;>first|(cases h;done)|(rcases compR_dops h with ⟨_,h⟩|⟨_,_,_,_,_,h⟩<;>cases h;done)))
    |(simp only [Option.map_eq_some_iff] at h;obtain ⟨_,_,h⟩:=h;cases h))
  |(cases h;done)
  |(simp only [Option.map_eq_some_iff] at h;obtain ⟨_,_,h⟩:=h;cases h)
theorem comp_loop {a:IC} (h:comp P quiet c=some (.loop a)):∃ x,c= .loop x∧comp P quiet x=some a:=by
 cases c<;>simp only [comp] at h<;>first
  |(simp only [Option.map_eq_some_iff] at h;obtain ⟨_,h1,h⟩:=h;cases h;exact ⟨_,rfl,h1⟩)
  |(split at h<;>first
    |(cases h;done)
    |(split at h<;>first|(cases h;done)|(split at h<;>first|(cases h;done)|(rcases compR_dops h with ⟨_,h⟩|⟨_,_,_,_,_,h⟩<;>cases h;done)))
    |(simp only [Option.map_eq_some_iff] at h;obtain ⟨_,_,h⟩:=h;cases h))
  |(cases h;done)
  |(simp only [Option.map_eq_some_iff] at h;obtain ⟨_,_,h⟩:=h;cases h)
theorem comp_ops {l:List IOp} (h:comp P quiet c=some (.ops l)):∃ id ops,c= .region id ops false∧ops.toList.mapM (compOp P ops)=some l:=by
 cases c<;>simp only [comp] at h<;>first
  |(split at h
    ·split at h<;>first|(cases h;done)|(split at h<;>first|(cases h;done)|(rcases compR_dops h with ⟨_,h⟩|⟨_,_,_,_,_,h⟩<;>cases h;done))
    ·rename_i hd
     simp only [Option.map_eq_some_iff] at h;obtain ⟨_,h1,h⟩:=h;cases h
     exact ⟨_,_,by simp only [Bool.not_eq_true] at hd;rw [hd],h1⟩)
  |(cases h;done)
  |(split at h<;>first
    |(cases h;done)
    |(split at h<;>first|(cases h;done)|(split at h<;>first|(cases h;done)|(rcases compR_dops h with ⟨_,h⟩|⟨_,_,_,_,_,h⟩<;>cases h;done))))
  |(simp only [Option.map_eq_some_iff] at h;obtain ⟨_,_,h⟩:=h;cases h)
theorem comp_dops {l:List IOp} (h:comp P quiet c=some (.dops l)):∃ id ops,c= .region id ops true∧P.follows .mixedOrders=true∧
  ((∃ l0,l=aug ops.toList l0∧ops.toList.mapM (compD P quiet ops)=some l0∧chk ops.toList l0=true)∨
   ∃ ord l0,l=aug (permOps ops ord).toList l0∧permOk ops ord=true∧(permOps ops ord).toList.mapM (compD P (quiet2 quiet) (permOps ops ord))=some l0∧chk (permOps ops ord).toList l0=true):=by
 cases c<;>simp only [comp] at h<;>first
  |(split at h
    ·rename_i hd
     split at h<;>try (cases h;done)
     rename_i hi
     split at h
     ·rename_i hk
      cases h
      simp only [Bool.and_eq_true] at hk
      exact ⟨_,_,by rw [hd],hk.2, .inl ⟨_,rfl,hi,hk.1⟩⟩
     ·unfold compR at h
      split at h<;>try (cases h;done)
      split at h<;>try (cases h;done)
      rename_i hi2
      split at h
      ·rename_i hk
       cases h
       simp only [Bool.and_eq_true] at hk
       exact ⟨_,_,by rw [hd],hk.2, .inr ⟨_,_,rfl,hk.1.1,hi2,hk.1.2⟩⟩
      ·split at h<;>try (cases h;done)
       split at h<;>cases h
    ·simp only [Option.map_eq_some_iff] at h;obtain ⟨_,_,h⟩:=h;cases h)
  |(cases h;done)
  |(split at h<;>first
    |(cases h;done)
    |(split at h<;>first|(cases h;done)|(split at h<;>first|(cases h;done)|(rcases compR_dops h with ⟨_,h⟩|⟨_,_,_,_,_,h⟩<;>cases h;done))))
  |(simp only [Option.map_eq_some_iff] at h;obtain ⟨_,_,h⟩:=h;cases h)
theorem comp_gops {l:List IOp} {d:Nat} {T:TypeId} {z:SV} {lo:List IOp} (h:comp P quiet c=some (.gops l d T z lo)):∃ id ops ord ios,c= .region id ops true∧P.follows .mixedOrders=true∧permOk ops ord=true∧
  (permOps ops ord).toList.mapM (compD P (quiet2 quiet) (permOps ops ord))=some ios∧compGh P (quiet2 quiet) (permOps ops ord)=some (l,d,T,z,lo):=by
 cases c<;>simp only [comp] at h<;>first
  |(split at h
    ·rename_i hd
     split at h<;>try (cases h;done)
     split at h
     ·cases h
     ·unfold compR at h
      split at h<;>try (cases h;done)
      split at h<;>try (cases h;done)
      rename_i hi2
      split at h
      ·cases h
      ·split at h<;>try (cases h;done)
       rename_i hg
       split at h<;>try (cases h;done)
       rename_i hk
       cases h
       simp only [Bool.and_eq_true] at hk
       exact ⟨_,_,_,_,by rw [hd],hk.2,hk.1,hi2,hg⟩
    ·simp only [Option.map_eq_some_iff] at h;obtain ⟨_,_,h⟩:=h;cases h)
  |(cases h;done)
  |(split at h<;>first
    |(cases h;done)
    |(split at h<;>first|(cases h;done)|(split at h<;>first|(cases h;done)|(rcases compR_dops h with ⟨_,h⟩|⟨_,_,_,_,_,h⟩<;>cases h;done))))
  |(simp only [Option.map_eq_some_iff] at h;obtain ⟨_,_,h⟩:=h;cases h)
theorem gops_go {Γ:FH} {n0 n d:Nat} {T:TypeId} {z:SV} {l lo:SL} {Q:Ex→Fr→List Res→Prop} {τ:Fr} {m:List Res} {σ:List SV} (hw:l.wf n=true) (hw2:lo.wf n=true) (hd:d<n) (hr:Rep n σ τ)
  (h:JC.wp Γ n0 (.gops l d T z lo) Q τ m):dsops Γ.hook (l.flat none) (fun σ' m'=>sops Γ.hook (lo.flat none) (fun σ2 m2=> ∃ τ2,Rep n σ2 τ2∧tidyF n0 m (Q .norm) τ2 m2) (σ'.set d (.ptr m'.length [] 0)) (m'++[.blk T z])) (σ.set d .junk) m:=
 wp_ok (dr:=true) l (.put d .junk τ) (σ.set d .junk) m _ _ hw (hr.put hd (Le.refl _)) h fun σ' τ' m' hr' hq=>
  wp_ok (dr:=false) lo (.put d (.ptr m'.length [] 0) τ') _ _ _ _ hw2 (hr'.put hd (Le.refl _)) hq fun σ2 τ2 m2 hr2 hq2=>⟨τ2,hr2,hq2⟩
end inv
theorem EndsF.mono {n:Nat} {ρ:Root} {d:List Deferred} {Q Q':Ex→Fr→List Res→Prop} {e:Exit} {a:Act} {w:OW} (h:∀ ex σ m,Q ex σ m→Q' ex σ m) (hh:EndsF Fz n ρ d Q e a w):EndsF Fz n ρ d Q' e a w:=by
 obtain ⟨ex,σ,m,ε,h1,h2,h3⟩:=hh
 exact ⟨ex,σ,m,ε,h1,h _ _ _ h2,h3⟩
theorem selI_range (n:Nat):selI (List.range n)=ltI n:=by
 funext i
 unfold selI ltI
 by_cases h:i<n
 ·have hc:(List.range n).contains i=true:=by simpa using h
  rw [if_pos hc,if_pos h]
  have hn:(List.range n).Nodup:=List.nodup_range
  have:=hn.idxOf_getElem i (by simpa using h)
  rw [List.getElem_range] at this
  rw [this]
 ·have hc:¬ (List.range n).contains i=true:=by simpa using h
  rw [if_neg hc,if_neg h]
theorem trim_ok {n0 n k:Nat} {m M:List Res} {τ:Fr} {β:Base} {ε:Env} {a:Act} {w:World} (hI:Inv β ε m w) (hs:SlotsF n ε τ a) (hb:β.ε.n≤n0) (hk:n0≤k) (hM:M.length=k) (hm:(m.take k).map (renR (ltI k))=M):
  ∃ ε',Inv β ε' M w∧SlotsF n ε' (renF (ltI k) τ) a:=by
 obtain ⟨σ,h1,h2⟩:=hs
 have hlen:k≤m.length:=by
  have:=congrArg List.length hm
  rw [List.length_map,List.length_take,hM] at this
  omega
 have hsel:selM (List.range k) m=M:=by
  rw [← hm]
  unfold selM
  rw [selI_range]
  apply List.ext_getElem?
  intro i
  rw [List.getElem?_map,List.getElem?_map,List.getElem?_take]
  by_cases hi:i<k
  ·rw [if_pos hi,List.getElem?_range hi]
   have:m[i]? =some (m[i]'(by omega)):=List.getElem?_eq_getElem _
   rw [this]
   simp [memAt,List.getD,this]
  ·rw [if_neg hi,List.getElem?_eq_none (by simpa using hi)]
   rfl
 refine ⟨selE (List.range k) ε,hsel▸hI.sel _ List.nodup_range (fun i hi=>List.getElem?_range (by omega)),renL (selI (List.range k)) σ,⟨by rw [renL_length];exact h1.1,fun j=> ?_⟩,h2.ren (sel_ren _ ε)⟩
 rw [look_renF,renL_getD,← selI_range]
 rcases h1.2 j with e|⟨e1,e2⟩
 ·left;rw [e];rfl
 ·exact .inr ⟨e1,by rw [e2]⟩
theorem look_ofR {r:Nat→Option Nat}:∀ {ks:List Nat} {xs:List SV} {τ τ':Fr} (k:Nat),atR r ks xs τ'→Le (look k τ) (look k (renF r τ'))→Le (look k (ofF ks xs τ)) (look k (renF r τ'))
 |[],[],_,_,_,_,h=>h
 |j::ks,x::xs,τ,τ',k,ha,h=>by
  simp only [ofF,look]
  by_cases e:k=j
  ·subst e;rw [if_pos rfl,look_renF];exact .inr ha.1.symm
  ·rw [if_neg e];exact look_ofR k ha.2 h
 |[],_::_,_,_,_,ha,_=>ha.elim
 |_::_,[],_,_,_,ha,_=>ha.elim
theorem same_keepR {r:Nat→Option Nat}:∀ {ks:List Nat} {τ τ':Fr} (k:Nat),sameR r τ τ' ks→Le (look k (keepF ks τ)) (look k (renF r τ'))
 |[],_,_,_,_=> .inl rfl
 |j::ks,τ,τ',k,h=>by
  simp only [keepF,look]
  by_cases e:k=j
  ·subst e;rw [if_pos rfl,look_renF];exact .inr h.1.symm
  ·rw [if_neg e];exact same_keepR k h.2
theorem JC.sound {Γ:FH} (hΓ:FHOK P main Fz Γ) {quiet:FuncId→Bool} {n0 n:Nat} {ρ:Root} {fn:FuncId} (hb:ρ.ε.n≤n0) {d:List Deferred}:∀ (jc:JC) (c:Code),comp P quiet c=some jc.flat→jc.wf n=true→∀ (Q:Ex→Fr→List Res→Prop) (τ:Fr) (m:List Res),jc.wp Γ n0 Q τ m→
  ∀ ε a w,InvO Fz ρ ε m w→SlotsF n ε τ a→a.defers=d→CodeQ P main Fz fn c (EndsF Fz n ρ d Q) a w
 | .skip,c,hc,hw,Q,τ,m,h,ε,a,w,hi,hs,hd=>by
  obtain rfl:=comp_skip hc
  exact wq_skip ⟨.norm,τ,m,ε,trivial,h,hi,hs,hd⟩
 | .ops l,c,hc,hw,Q,τ,m,h,ε,a,w,hi,hs,hd=>by
  obtain ⟨id,ops,rfl,hl⟩:=comp_ops hc
  obtain ⟨σ,h1,h2⟩:=hs
  have k:=wp_ok l τ σ m (Q .norm) (fun σ' m'=> ∃ τ',Rep n σ' τ'∧Q .norm τ' m') hw h1 h (fun σ' τ' m' hr hq=>⟨τ',hr,hq⟩)
  exact wq_region_list (sops_sound hΓ.hook _ _ σ m _ hl k (fun σ' m' ε' a' w' ⟨τ',hr,hq⟩ hi' hs' hd'=>⟨.norm,τ',m',ε',trivial,hq,hi',⟨σ',hr,hs'⟩,hd'⟩) ε a w hi h2 hd)
 | .dops l,c,hc,hw,Q,τ,m,h,ε,a,w,hi,hs,hd=>by
  obtain ⟨id,ops,rfl,hf,hcase⟩:=comp_dops hc
  obtain ⟨σ,h1,h2⟩:=hs
  have k:=wp_ok l τ σ m _ (fun σ' m'=> ∃ τ',Rep n σ' τ'∧tidyF n0 m (Q .norm) τ' m') hw h1 h (fun σ' τ' m' hr hq=>⟨τ',hr,hq⟩)
  have k:dsops _ (l.flat none) _ σ m:=k
  have fin:∀ σ' m' ε' a' w',(∃ τ',Rep n σ' τ'∧tidyF n0 m (Q .norm) τ' m')→InvO Fz ρ ε' m' w'→SlotsOK ε' σ' a'→a'.defers=d→EndsF Fz n ρ d Q .normal a' w':=by
   rintro σ' m' ε' a' w' ⟨τ',hr,hq⟩ hi' hs' hd'
   obtain ⟨τ2,m2,ε2,k1,k2,k3⟩:=tidyF_ok hq hi'.inv ⟨σ',hr,hs'⟩ hb
   exact ⟨.norm,τ2,m2,ε2,trivial,k1,hi'.same k2,k3,hd'⟩
  rcases hcase with ⟨l0,hl0,hl,hk⟩|⟨ord,l0,hl0,hpo,hl,hk⟩
  ·rw [hl0] at k
   exact dops_sound hΓ.hook hf hl hk k (ρ:=ρ) (d:=d) fin hi h2 hd
  ·rw [hl0] at k
   exact dops_sound2 hΓ.hook hf hpo hl hk k (ρ:=ρ) (d:=d) fin hi h2 hd
 | .gops l x T z lo,c,hc,hw,Q,τ,m,h,ε,a,w,hi,hs,hd=>by
  obtain ⟨id,ops,ord,ios,rfl,hf,hpo,hi2,hg⟩:=comp_gops hc
  obtain ⟨σ,h1,h2⟩:=hs
  simp only [JC.wf,Bool.and_eq_true,decide_eq_true_eq] at hw
  refine gops_sound2 hΓ.hook hf hpo hg (ρ:=ρ) (d0:=d) (by rw [h1.1];exact hw.2.2) (gops_go hw.1 hw.2.1 hw.2.2 h1 h) ?_ hi h2 hd
  rintro σ' m' ε' a' w' ⟨τ',hr,hq⟩ hi' hs' hd'
  obtain ⟨τ2,m2,ε2,k1,k2,k3⟩:=tidyF_ok hq hi'.inv ⟨σ',hr,hs'⟩ hb
  exact ⟨.norm,τ2,m2,ε2,trivial,k1,hi'.same k2,k3,hd'⟩
 | .seq x y,c,hc,hw,Q,τ,m,h,ε,a,w,hi,hs,hd=>by
  obtain ⟨x',y',rfl,hx,hy⟩:=comp_seq hc
  simp only [JC.wf,Bool.and_eq_true] at hw
  simp only [JC.wp] at h
  refine wq_seq (CodeQ.mono (fun e a' w' he=> ?_) (JC.sound hΓ hb x x' hx hw.1 _ τ m h ε a w hi hs hd))
  obtain ⟨ex,σ',m',ε',h1,h2,h3,h4,h5⟩:=he
  cases e<;>cases ex<;>simp only [ExRel] at h1
  ·exact JC.sound hΓ hb y y' hy hw.2 Q σ' m' h2 ε' a' w' h3 h4 h5
  ·exact ⟨_,σ',m',ε',by simp only [ExRel];exact h1,h2,h3,h4,h5⟩
  ·exact ⟨.ret,σ',m',ε',trivial,h2,h3,h4,h5⟩
 | .cond x y z,c,hc,hw,Q,τ,m,h,ε,a,w,hi,hs,hd=>by
  obtain ⟨x',y',z',rfl,hx,hy,hz⟩:=comp_cond hc
  simp only [JC.wf,Bool.and_eq_true] at hw
  simp only [JC.wp] at h
  split at h
  ·rename_i t ht
   obtain ⟨σ,h1,h2⟩:=hs
   have hv0:=compO_ok hx h2
   rw [le_eq (h1.fv x) ht (by intro h;cases h)] at hv0
   have hv:=sat_bool hv0
   cases t with
   |true=>exact wq_cond_true hv (JC.sound hΓ hb y y' hy hw.1 Q τ m (h.1 rfl) ε a w hi ⟨σ,h1,h2⟩ hd)
   |false=>exact wq_cond_false hv (JC.sound hΓ hb z z' hz hw.2 Q τ m (h.2 rfl) ε a w hi ⟨σ,h1,h2⟩ hd)
  ·rename_i ht
   obtain ⟨σ,h1,h2⟩:=hs
   have hv0:=compO_ok hx h2
   rw [le_eq (h1.fv x) ht (by intro h;cases h)] at hv0
   obtain ⟨cs,k1,hv⟩:=hv0
   simp only [SatC] at k1
   obtain ⟨t,rfl⟩:=k1
   cases t with
   |true=>exact wq_cond_true hv (JC.sound hΓ hb y y' hy hw.1 Q τ m h.1 ε a w hi ⟨σ,h1,h2⟩ hd)
   |false=>exact wq_cond_false hv (JC.sound hΓ hb z z' hz hw.2 Q τ m h.2 ε a w hi ⟨σ,h1,h2⟩ hd)
  ·exact h.elim
 | .block id x,c,hc,hw,Q,τ,m,h,ε,a,w,hi,hs,hd=>by
  obtain ⟨x',rfl,hx⟩:=comp_block hc
  simp only [JC.wp] at h
  refine wq_block (CodeQ.mono (fun e a' w' he=> ?_) (JC.sound hΓ hb x x' hx hw _ τ m h ε a w hi hs hd))
  obtain ⟨ex,σ',m',ε',h1,h2,h3,h4,h5⟩:=he
  cases e<;>cases ex<;>simp only [ExRel] at h1
  ·exact ⟨.norm,σ',m',ε',trivial,h2,h3,h4,h5⟩
  ·rename_i i1 i2
   subst h1
   simp only at h2 ⊢
   by_cases e1:i1=id
   ·rw [if_pos e1] at h2 ⊢;exact ⟨.norm,σ',m',ε',trivial,h2,h3,h4,h5⟩
   ·rw [if_neg e1] at h2 ⊢;exact ⟨.exit _,σ',m',ε',rfl,h2,h3,h4,h5⟩
  ·exact ⟨.ret,σ',m',ε',trivial,h2,h3,h4,h5⟩
 | .loop keep mod x,c,hc,hw,Q,τ,m,h,ε,a,w,hi,hs,hd=>by
  obtain ⟨x',rfl,hx⟩:=comp_loop hc
  simp only [JC.wf,Bool.and_eq_true] at hw
  simp only [JC.wp] at h
  obtain ⟨ι,U,M,ok,μ,i0,hok,hw0,hm0,hround⟩:=h
  have hs0:SlotsF n ε (ofF mod (U i0) (keepF keep τ)) a:=hs.weak fun k=>look_of k hw0 (look_keep keep)
  refine wq_loop (fun n' a w=> ∃ i ε,μ i=n'∧ok i∧InvO Fz ρ ε (M i) w∧SlotsF n ε (ofF mod (U i) (keepF keep τ)) a∧a.defers=d) (μ i0) ⟨i0,ε,rfl,hok,hm0▸hi,hs0,hd⟩ ?_
  rintro n' a w ⟨i,ε,rfl,hok',hi',hs',hd'⟩
  refine CodeQ.mono (fun e a' w' he=> ?_) (JC.sound hΓ hb x x' hx hw.2 _ _ _ (hround i hok') ε a w hi' hs' hd')
  obtain ⟨ex,σ',m',ε',h1,h2,h3,h4,h5⟩:=he
  cases e<;>cases ex<;>simp only [ExRel] at h1
  ·obtain ⟨j,hj1,hj2,hj0,hj3,hj4,hj5⟩:=h2
   obtain ⟨ε2,k1,k2⟩:=trim_ok h3.inv h4 hb hj0 rfl hj5
   exact ⟨μ j,hj2,j,ε2,rfl,hj1,h3.same k1,k2.weak fun k=>look_ofR k hj3 (same_keepR k hj4),h5⟩
  ·exact ⟨_,σ',m',ε',by simp only [ExRel];exact h1,h2,h3,h4,h5⟩
  ·exact ⟨.ret,σ',m',ε',trivial,h2,h3,h4,h5⟩
 | .exit id,c,hc,hw,Q,τ,m,h,ε,a,w,hi,hs,hd=>by
  obtain rfl:=comp_exit hc
  exact wq_exit ⟨.exit id,τ,m,ε,rfl,h,hi,hs,hd⟩
 | .ret,c,hc,hw,Q,τ,m,h,ε,a,w,hi,hs,hd=>by
  obtain rfl:=comp_ret hc
  exact wq_ret ⟨.ret,τ,m,ε,trivial,h,hi,hs,hd⟩
 | .prune ks x,c,hc,hw,Q,τ,m,h,ε,a,w,hi,hs,hd=>
  JC.sound hΓ hb x c hc hw Q _ m h ε a w hi (hs.weak fun k=>look_keep ks) hd
 | .vecs k T wd' x,c,hc,hw,Q,τ,m,h,ε,a,w,hi,hs,hd=>by
  simp only [JC.wf,Bool.and_eq_true,decide_eq_true_eq] at hw
  simp only [JC.wp] at h
  obtain ⟨ε',τ',m',h1,h2,h3⟩:=vecs_ok hi.inv hs hw.1 h
  exact JC.sound hΓ hb x c hc hw.2 Q τ' m' h1 ε' a w (hi.same h2) h3 hd
 | .sel ks x,c,hc,hw,Q,τ,m,h,ε,a,w,hi,hs,hd=>by
  simp only [JC.wp] at h
  refine CodeQ.mono (fun e a' w' he=> ?_) (JC.sound hΓ hb x c hc hw _ τ m h ε a w hi hs hd)
  obtain ⟨ex,τ',m',ε',h1,h2,h3,h4,h5⟩:=he
  cases ex with
  |norm=>
   obtain ⟨τ2,m2,ε2,k1,k2,k3⟩:=selF_ok h2 h3.inv h4 hb
   exact ⟨.norm,τ2,m2,ε2,h1,k1,h3.same k2,k3,h5⟩
  |exit i=>exact ⟨.exit i,τ',m',ε',h1,h2,h3,h4,h5⟩
  |ret=>exact ⟨.ret,τ',m',ε',h1,h2,h3,h4,h5⟩
 | .pfz k F x,c,hc,hw,Q,τ,m,h,ε,a,w,hi,hs,hd=>by
  simp only [JC.wf,Bool.and_eq_true,decide_eq_true_eq] at hw
  simp only [JC.wp] at h
  refine CodeQ.mono (fun e a' w' he=> ?_) (JC.sound hΓ hb x c hc hw.2 _ τ m h ε a w hi hs hd)
  obtain ⟨ex,τ',m',ε',h1,h2,h3,h4,h5⟩:=he
  cases ex with
  |norm=>
   obtain ⟨ε2,τ2,m2,k1,k2,k3⟩:=frzv_ok h3.inv h4 hw.1 h2
   exact ⟨.norm,τ2,m2,ε2,h1,k1,h3.same k2,k3,h5⟩
  |exit i=>exact ⟨.exit i,τ',m',ε',h1,h2,h3,h4,h5⟩
  |ret=>exact ⟨.ret,τ',m',ε',h1,h2,h3,h4,h5⟩
 | .frz k F x,c,hc,hw,Q,τ,m,h,ε,a,w,hi,hs,hd=>by
  simp only [JC.wf,Bool.and_eq_true,decide_eq_true_eq] at hw
  obtain ⟨hP,h⟩:=h
  obtain ⟨ε',h2,h3⟩:=frz_ok hi.inv hs hw.1 hP
  exact JC.sound hΓ hb x c hc hw.2 Q _ _ h ε' a w (hi.same h2) h3 hd
 | .frzv k F x,c,hc,hw,Q,τ,m,h,ε,a,w,hi,hs,hd=>by
  simp only [JC.wf,Bool.and_eq_true,decide_eq_true_eq] at hw
  simp only [JC.wp] at h
  obtain ⟨ε',τ',m',h1,h2,h3⟩:=frzv_ok hi.inv hs hw.1 h
  exact JC.sound hΓ hb x c hc hw.2 Q τ' m' h1 ε' a w (hi.same h2) h3 hd
 | .frzb k F x,c,hc,hw,Q,τ,m,h,ε,a,w,hi,hs,hd=>by
  simp only [JC.wp] at h
  obtain ⟨ε',m',h1,h2,h3⟩:=frzb_ok hi.inv hs h
  exact JC.sound hΓ hb x c hc hw Q τ m' h1 ε' a w (hi.same h2) h3 hd
 | .orc s l,c,hc,hw,Q,τ,m,h,ε,a,w,hi,hs,hd=>by
  obtain ⟨x',y',z',rfl,hx,hy,hz⟩:=comp_cond hc
  obtain rfl:=comp_skip hy
  obtain ⟨id,ops,rfl,hl⟩:=comp_ops hz
  simp only [JC.wf,Bool.and_eq_true,decide_eq_true_eq] at hw
  simp only [JC.wp] at h
  split at h
  ·rename_i b e
   obtain ⟨σ,h1,h2⟩:=hs
   have hb:σ.getD s .junk= .bool b:=le_eq (h1.le s) e (by intro h;cases h)
   have hv0:=compO_ok hx h2
   simp only [Opd.ev] at hv0
   rw [hb] at hv0
   have hv:=sat_bool hv0
   replace h:=vc_use h
   generalize he:l.vg Γ m (.t s) τ=pq at h
   obtain ⟨p,q⟩:=pq
   obtain ⟨g1,g2⟩:(b=(!true)→p)∧Q .norm (.put s (.bool (if true=true then b||q else b&&q)) (junkF l.dsts τ)) m:=h
   have back:∀ {σ':List SV},OutL l.dsts σ σ'→σ'.getD s .junk= .bool (b||q)→Rep n σ' (.put s (.bool (if true=true then b||q else b&&q)) (junkF l.dsts τ)):=by
    intro σ' ho e
    have:=(h1.junk ho).put hw.1.1 (Le.refl (.bool (b||q)))
    rw [show σ'.set s (.bool (b||q))=σ' from ?_] at this
    ·exact this
    ·apply List.ext_getElem?
     intro j
     rw [List.getElem?_set]
     split
     ·rename_i e';subst e'
      have hlt:s<σ'.length:=by rw [ho.1,h1.1];exact hw.1.1
      rw [if_pos hlt]
      rw [List.getD,List.getElem?_eq_getElem hlt] at e
      rw [List.getElem?_eq_getElem hlt]
      exact congrArg some e.symm
     ·rfl
   cases b with
   |true=>
    refine wq_cond_true hv (wq_skip ⟨.norm,_,m,ε,trivial,g2,hi,⟨σ,back (OutL.refl ..) (by rw [hb];simp),h2⟩,hd⟩)
   |false=>
    have k:=vgn_ok l (.t s) τ σ (fun σ' m'=>m'=m∧OutL l.dsts σ σ'∧σ'.getD s .junk= .bool q) hw.1.2 hw.2 h1 (by rw [he];exact g1 rfl) (fun σ' ho e=>⟨rfl,ho,by rw [he] at e;exact e⟩)
    refine wq_cond_false hv (wq_region_list (sops_sound hΓ.hook _ _ σ m _ hl k (fun σ' m' ε' a' w' ⟨hm,ho,e⟩ hi' hs' hd'=> ?_) ε a w hi h2 hd))
    subst hm
    exact ⟨.norm,_,m',ε',trivial,g2,hi',⟨σ',back ho (by rw [e];simp),hs'⟩,hd'⟩
  ·exact h.elim
end Go.Sx
end
section
namespace Go.Sx
open Go
variable {P:Program} {main:Bool} {Fz:Nat→Prop}
def resF (P:Program) (τ:Fr) (m:List Res) (K:SV→Prop):List ResultVar→Prop
 |[]=>K (.tup [])
 |[.tmp t]=>(look t τ).isVal=true∧K (look t τ)
 |[.cell t T]=>match tsz P T with
  |some (n,ag)=>peek m n ag K (look t τ)
  |none=>False
 |l=>go l fun xs=>K (.tup xs)
where go:List ResultVar→(List SV→Prop)→Prop
 |[],K=>K []
 | .tmp t::r,K=>(look t τ).isVal=true∧go r fun xs=>K (look t τ::xs)
 | .cell t T::r,K=>match tsz P T with
  |some (n,ag)=>peek m n ag (fun x=>x.isVal=true∧go r fun xs=>K (x::xs)) (look t τ)
  |none=>False
theorem peek_val {m:List Res} {n:Nat} {ag:Bool} {K:SV→Prop} {x:SV} (h:peek m n ag K x):x.isVal=true:=by
 cases x<;>simp only [peek] at h<;>first|exact h.elim|rfl
theorem resF_go {n:Nat} {σ:List SV} {τ:Fr} {m:List Res} (hr:Rep n σ τ):∀ {rs:List ResultVar} {K:List SV→Prop},resF.go P τ m rs K→resK.go P σ m rs K
 |[],_,h=>h
 | .tmp t::r,K,h=>by
  have e:=le_val (hr.le t) h.1
  simp only [resK.go]
  rw [e]
  exact ⟨h.1,resF_go hr h.2⟩
 | .cell t T::r,K,h=>by
  simp only [resF.go,resK.go] at h ⊢
  cases ht:tsz P T with
  |none=>rw [ht] at h;exact h.elim
  |some p=>
   rw [ht] at h
   simp only at h ⊢
   rw [le_val (hr.le t) (peek_val h)]
   exact peek_mono (fun x hx=>⟨hx.1,resF_go hr hx.2⟩) h
theorem resF_ok {n:Nat} {σ:List SV} {τ:Fr} {m:List Res} (hr:Rep n σ τ) {K:SV→Prop}:∀ {rs:List ResultVar},resF P τ m K rs→resK P σ m K rs
 |[],h=>h
 |[.tmp t],h=>by
  simp only [resK]
  rw [le_val (hr.le t) h.1];exact h.2
 |[.cell t T],h=>by
  simp only [resF,resK] at h ⊢
  cases ht:tsz P T with
  |none=>rw [ht] at h;exact h.elim
  |some p=>
   rw [ht] at h
   simp only at h ⊢
   rw [le_val (hr.le t) (peek_val h)];exact h
 | .tmp t::b::l,h=>by
  simp only [resF,resK] at h ⊢
  exact resF_go hr (rs:= .tmp t::b::l) (K:=fun xs=>K (.tup xs)) h
 | .cell t T::b::l,h=>by
  simp only [resF,resK] at h ⊢
  exact resF_go hr (rs:= .cell t T::b::l) (K:=fun xs=>K (.tup xs)) h
def packJ (ks:List Nat) (res:SV) (m1:List Res) (m:List Res) (x:SV):Prop:=
 nd ks∧ren (selJ ks 0) x=res∧ks.map (fun k=>renR (selJ ks 0) (memAt m k))=m1
def newIds (n0:Nat):List Nat→List Nat
 |[]=>[]
 |i::r=>if i<n0 then newIds n0 r else i::newIds n0 r
def endF (rs:List ResultVar) (P:Program) (n0:Nat) (res:SV) (m1:List Res) (e:Ex) (τ:Fr) (m:List Res):Prop:=match e with
 | .exit _=>False
 |_=>resF P τ m (fun x=>packJ (upto n0 0++newIds n0 (idsV x)) res m1 m x) rs
theorem packJ_ok {n0:Nat} {l:List Nat} {res:SV} {m1 m:List Res} {x:SV} (h:packJ (upto n0 0++l) res m1 m x):∃ ks,packK ks n0 res m1 m x:=by
 obtain ⟨h1,h2,h3⟩:=h
 refine ⟨_,⟨nd_ok h1,fun i hi=> ?_⟩,by rw [selI_eq];exact h2,by unfold selM;rw [selI_eq];exact h3⟩
 rw [List.getElem?_append_left (by rw [upto_len];exact hi),upto_at n0 0 i hi,Nat.zero_add]
theorem endF_ok {n:Nat} {σ:List SV} {τ:Fr} {m:List Res} (hr:Rep n σ τ) {rs:List ResultVar} {n0:Nat} {res:SV} {m1:List Res} {e:Ex} (h:endF rs P n0 res m1 e τ m):endK rs P n0 res m1 e σ m:=by
 cases e with
 |exit i=>exact h
 |norm=>
  have h:resF P τ m (fun x=>packJ (upto n0 0++newIds n0 (idsV x)) res m1 m x) rs:=h
  exact resK_mono (fun x hx=>packJ_ok hx) (resF_ok hr h)
 |ret=>
  have h:resF P τ m (fun x=>packJ (upto n0 0++newIds n0 (idsV x)) res m1 m x) rs:=h
  exact resK_mono (fun x hx=>packJ_ok hx) (resF_ok hr h)
def argF:Nat→List SV→Fr
 |_,[]=> .nil
 |k,x::r=> .put k x (argF (k+1) r)
theorem argF_at:∀ (args:List SV) (j k:Nat),look k (argF j args)= .junk∨(j≤k∧k<j+args.length∧look k (argF j args)=args.getD (k - j) .junk)
 |[],j,k=> .inl rfl
 |x::r,j,k=>by
  simp only [argF,look]
  by_cases h:k=j
  ·subst h;rw [if_pos rfl];right;exact ⟨Nat.le_refl _,by simp,by simp⟩
  ·rw [if_neg h]
   rcases argF_at r (j+1) k with h1|⟨h1,h2,h3⟩
   ·exact .inl h1
   ·right
    refine ⟨by omega,by simp;omega,?_⟩
    rw [h3]
    have:k - j=(k - (j+1))+1:=by omega
    rw [this,List.getD_cons_succ]
theorem argF_rep (args:List SV) (nt:Nat) (h:args.length≤nt):Rep nt (args++List.replicate (nt - args.length) .junk) (argF 0 args):=by
 refine ⟨by simp;omega,fun k=> ?_⟩
 rcases argF_at args 0 k with h1|⟨_,h2,h3⟩
 ·exact .inl h1
 ·right
  refine ⟨by omega,?_⟩
  rw [h3,Nat.sub_zero,List.getD,List.getD,List.getElem?_append_left (by omega)]
theorem fn_walkF {quiet:FuncId→Bool} {f:FuncId} {jc:JC} {rs:List ResultVar} {nt:Nat} (hfn:fnIs P quiet f=some (jc.flat,rs,nt)) (hwf:jc.wf nt=true) {Γ:FH} (hΓ:FHOK P main Fz Γ) {args:List SV} {m0 m1:List Res} {res:SV} (hn':Nat.ble args.length nt=true)
  (h:jc.wp Γ m0.length (endF rs P m0.length res m1) (argF 0 args) m0):FnOK P main Fz f args m0 res m1:=by
 have hn:args.length≤nt:=Nat.le_of_ble_eq_true hn'
 obtain ⟨_,fn,c,hf,hb,hc,hrs,hnt⟩:=fnIs_ok hfn
 intro ε x vs hg hs
 have hlen:args.length=vs.length:=(slots_start hs 0).1|>fun h=>by simpa using h
 refine callsq_of_wq hf hb ?_
 have hi:=InvO.start hg
 have hsl:=slots_start hs (nt - args.length)
 have e:fn.ntmps - vs.toArray.size=nt - args.length:=by simp;omega
 rw [e]
 refine CodeQ.mono (fun e a w' he=> ?_) (JC.sound (fn:=f) hΓ (Nat.le_of_eq hg.good.n) (d:=[]) jc c hc hwf _ _ _ h ε _ x hi ⟨_,argF_rep args nt hn,hsl⟩ rfl)
 obtain ⟨ex,τ',m',ε',h1,h2,h3,⟨σ',hr,h4⟩,h5⟩:=he
 replace h2:=endF_ok hr h2
 cases e<;>cases ex<;>simp only [ExRel] at h1
 ·exact fin_ok hrs hg h3 h4 h5 h2
 ·exact h2.elim
 ·exact fin_ok hrs hg h3 h4 h5 h2
@[reducible] def qo (d:Nat) (x:PIO) (r:SL):SL:= .op (some d) (.p x) r
@[reducible] def eo (d:Nat) (x:EIO) (r:SL):SL:= .op (some d) (.e x) r
@[reducible] def qn (x:PIO) (r:SL):SL:= .op none (.p x) r
@[reducible] def en (x:EIO) (r:SL):SL:= .op none (.e x) r
section words
variable {Γ:FH} {n0:Nat} {Q:Ex→Fr→List Res→Prop} {τ:Fr} {m:List Res}
theorem jc_skip:JC.wp Γ n0 .skip Q τ m=Q .norm τ m:=propext Iff.rfl
theorem jc_ops {l:SL}:JC.wp Γ n0 (.ops l) Q τ m=l.wp Γ false (Q .norm) τ m:=propext Iff.rfl
theorem jc_dops {l:SL}:JC.wp Γ n0 (.dops l) Q τ m=l.wp Γ true (fun τ' m'=>tidyF n0 m (Q .norm) τ' m') τ m:=propext Iff.rfl
theorem jc_gops {l:SL} {d:Nat} {T:TypeId} {z:SV} {lo:SL}:JC.wp Γ n0 (.gops l d T z lo) Q τ m=l.wp Γ true (fun τ' m'=>lo.wp Γ false (fun τ2 m2=>tidyF n0 m (Q .norm) τ2 m2) (.put d (.ptr m'.length [] 0) τ') (m'++[.blk T z])) (.put d .junk τ) m:=propext Iff.rfl
theorem jc_seq {a b:JC}:JC.wp Γ n0 (.seq a b) Q τ m=a.wp Γ n0 (fun e τ' m'=>match e with
  | .norm=>b.wp Γ n0 Q τ' m'
  |e=>Q e τ' m') τ m:=propext Iff.rfl
theorem jc_cond {x:Opd} {a b:JC}:JC.wp Γ n0 (.cond x a b) Q τ m=(match x.fv τ with
  | .bool t=>(t=true→a.wp Γ n0 Q τ m)∧(t=false→b.wp Γ n0 Q τ m)
  | .anyb=>a.wp Γ n0 Q τ m∧b.wp Γ n0 Q τ m
  |_=>False):=propext Iff.rfl
theorem jc_block {id:Nat} {c:JC}:JC.wp Γ n0 (.block id c) Q τ m=c.wp Γ n0 (fun e τ' m'=>match e with
  | .exit i=>if i=id then Q .norm τ' m' else Q (.exit i) τ' m'
  |e=>Q e τ' m') τ m:=propext Iff.rfl
theorem jc_exit {id:Nat}:JC.wp Γ n0 (.exit id) Q τ m=Q (.exit id) τ m:=propext Iff.rfl
theorem jc_ret:JC.wp Γ n0 .ret Q τ m=Q .ret τ m:=propext Iff.rfl
theorem jc_prune {ks:List Nat} {c:JC}:JC.wp Γ n0 (.prune ks c) Q τ m=c.wp Γ n0 Q (keepF ks τ) m:=propext Iff.rfl
theorem jc_vecs {k:Nat} {T:TypeId} {w:Nat} {c:JC}:JC.wp Γ n0 (.vecs k T w c) Q τ m=vecsF k T w (fun τ' m'=>c.wp Γ n0 Q τ' m') τ m (look k τ):=propext Iff.rfl
theorem jc_sel {ks:List Nat} {c:JC}:JC.wp Γ n0 (.sel ks c) Q τ m=c.wp Γ n0 (fun e τ' m'=>match e with
  | .norm=>selF n0 ks (Q .norm) τ' m'
  |e=>Q e τ' m') τ m:=propext Iff.rfl
theorem jc_frz {k:Nat} {F:Frz} {c:JC}:JC.wp Γ n0 (.frz k F c) Q τ m=(F.P m (look k τ)∧c.wp Γ n0 Q (.put k (F.dec m (look k τ)) τ) (deads m)):=propext Iff.rfl
theorem jc_pfz {k:Nat} {F:Frz} {c:JC}:JC.wp Γ n0 (.pfz k F c) Q τ m=c.wp Γ n0 (fun e τ' m'=>match e with
  | .norm=>frzvF k F (Q .norm) τ' m'
  |e=>Q e τ' m') τ m:=propext Iff.rfl
theorem jc_frzv {k:Nat} {F:Frz} {c:JC}:JC.wp Γ n0 (.frzv k F c) Q τ m=frzvF k F (fun τ' m'=>c.wp Γ n0 Q τ' m') τ m:=propext Iff.rfl
theorem jc_frzb {k:Nat} {F:Frz} {c:JC}:JC.wp Γ n0 (.frzb k F c) Q τ m=frzbF k F (fun m'=>c.wp Γ n0 Q τ m') τ m:=propext Iff.rfl
theorem jc_orc {s:Nat} {l:SL}:JC.wp Γ n0 (.orc s l) Q τ m=(match look s τ with
  | .bool b=>l.vc Γ m (.t s) τ (fun q g=>(b=false→g)∧Q .norm (.put s (.bool (b||q)) (junkF l.dsts τ)) m) True
  |_=>False):=propext Iff.rfl
def JC.wpL (Γ:FH) (n0:Nat) (keep mod:List Nat) (c:JC) (Q:Ex→Fr→List Res→Prop) (_:Hide Γ c Q) (τ:Fr) (m:List Res):Prop:=JC.wp Γ n0 (.loop keep mod c) Q τ m
theorem jc_waits {keep mod:List Nat} {c:JC}:JC.wp Γ n0 (.loop keep mod c) Q τ m=JC.wpL Γ n0 keep mod c Q ⟨⟩ τ m:=propext Iff.rfl
theorem ap_need {p x:Prop}:AP.need p x=(p∧x):=propext Iff.rfl
theorem ap_bad:AP.bad=False:=propext Iff.rfl
theorem ap_spl {b:Bool} {x y:Prop}:AP.spl b x y=((b=true→x)∧(b=false→y)):=propext Iff.rfl
end words
theorem loopF {Γ:FH} {n0:Nat} {keep mod:List Nat} {c:JC} {Q:Ex→Fr→List Res→Prop} {τ:Fr} {m:List Res} (ι:Type) (U:ι→List SV) (M:ι→List Res) (ok:ι→Prop) (μ:ι→Nat) (i0:ι)
  (h0:ok i0) (hσ:atF mod (U i0) τ) (hm:M i0=m)
  (h:∀ i,ok i→c.wp Γ n0 (fun e τ' m'=>match e with
    | .norm=> ∃ j,ok j∧μ j<μ i∧n0≤(M j).length∧atR (ltI (M j).length) mod (U j) τ'∧sameR (ltI (M j).length) τ τ' keep∧(m'.take (M j).length).map (renR (ltI (M j).length))=M j
    |e=>Q e τ' m') (ofF mod (U i) (keepF keep τ)) (M i)) {hd:Hide Γ c Q}:JC.wpL Γ n0 keep mod c Q hd τ m:=
 ⟨ι,U,M,ok,μ,i0,h0,hσ,hm,h⟩
theorem eta_unit {α:Type} (x:α×Unit):(x.1,())=x:=nr rfl
theorem eta_pair {α β:Type} (x:α×β):(x.1,x.2)=x:=nr rfl
end Go.Sx
end
section
namespace Go.Sx
open Go
variable {P:Program} {main:Bool} {Fz:Nat→Prop}
mutual
def decV:(T:TT)→List Res→SV→Den T
 | .int _,_,x=>match x with
  | .int _ n=>n
  |_=>(0:Int)
 | .bool,_,x=>match x with
  | .bool b=>b
  |_=>false
 | .str,_,x=>match x with
  | .str s=>s
  |_=>([]:List UInt8)
 | .st l,m,x=>match x with
  | .agg xs=>decVL l m xs
  |_=>dftL l
 | .arr _ _ T,m,x=>match x with
  | .arr _ _ f=>fun i:Nat=>decV T m (f i)
  |_=>fun _:Nat=>dft T
 | .sl _ T,m,x=>match x with
  | .lst _ _ f l=>l.map fun y=>decV T m (f y)
  | .vec i _=>match memAt m i with
   | .vec _ _ l=>l.map fun y=>decV T m y
   |_=>([]:List (Den T))
  |_=>([]:List (Den T))
 | .ref T,m,x=>match x with
  | .ref c _ _=>decV T m c
  | .ptr i _ _=>match memAt m i with
   | .blk _ c=>decV T m c
   |_=>dft T
  |_=>dft T
def decVL:(l:List TT)→List Res→List SV→DenL l
 |[],_,_=>()
 |T::l,m,xs=>match xs with
  |x::xs=>(decV T m x,decVL l m xs)
  |[]=>dftL (T::l)
end
mutual
def decP:(T:TT)→List Res→SV→Prop
 | .int k,_,x=>match x with
  | .int k' _=>k'=k
  |_=>False
 | .bool,_,x=>match x with
  | .bool _=>True
  |_=>False
 | .str,_,x=>match x with
  | .str _=>True
  |_=>False
 | .st l,m,x=>match x with
  | .agg xs=>decPL l m xs
  |_=>False
 | .arr n w T,m,x=>match x with
  | .arr n' w' f=>n'=n∧w'=w∧∀ i,i<n→decP T m (f i)
  |_=>False
 | .sl w T,m,x=>match x with
  | .lst w' _ f l=>w'=w∧∀ y∈l,decP T m (f y)
  | .vec i _=>match memAt m i with
   | .vec _ w' l=>w'=w∧∀ y∈l,decP T m y
   |_=>False
  | .nils=>True
  |_=>False
 | .ref T,m,x=>match x with
  | .ref c p o=>p=[]∧o=0∧decP T m c
  | .ptr i p o=>match memAt m i with
   | .blk _ c=>p=[]∧o=0∧decP T m c
   |_=>False
  |_=>False
def decPL:(l:List TT)→List Res→List SV→Prop
 |[],_,xs=>match xs with
  |[]=>True
  |_=>False
 |T::l,m,xs=>match xs with
  |x::xs=>decP T m x∧decPL l m xs
  |[]=>False
end
mutual
theorem decV_emb:∀ (T:TT) (m:List Res) (y:Den T),decV T m (emb T y)=y
 | .int _,_,_=>rfl
 | .bool,_,_=>rfl
 | .str,_,_=>rfl
 | .st l,m,y=>decVL_emb l m y
 | .arr _ _ T,m,f=>by
  simp only [emb,decV]
  funext i
  exact decV_emb T m (f i)
 | .sl _ T,m,l=>by
  simp only [emb,decV]
  have:(fun y=>decV T m (emb T y))=id:=by funext y;exact decV_emb T m y
  rw [this,List.map_id]
 | .ref T,m,y=>by
  simp only [emb,decV]
  exact decV_emb T m y
theorem decVL_emb:∀ (l:List TT) (m:List Res) (y:DenL l),decVL l m (embL l y)=y
 |[],_,_=>rfl
 |T::l,m,y=>by
  simp only [embL,decVL]
  rw [decV_emb T m y.1,decVL_emb l m y.2]
end
mutual
theorem decP_emb:∀ (T:TT) (m:List Res) (y:Den T),decP T m (emb T y)
 | .int _,_,_=>rfl
 | .bool,_,_=>trivial
 | .str,_,_=>trivial
 | .st l,m,y=>decPL_emb l m y
 | .arr _ _ T,m,f=>by
  simp only [emb,decP]
  exact ⟨trivial,trivial,fun i _=>decP_emb T m (f i)⟩
 | .sl _ T,m,l=>by
  simp only [emb,decP]
  exact ⟨trivial,fun y _=>decP_emb T m y⟩
 | .ref T,m,y=>by
  simp only [emb,decP]
  exact ⟨trivial,trivial,decP_emb T m y⟩
theorem decPL_emb:∀ (l:List TT) (m:List Res) (y:DenL l),decPL l m (embL l y)
 |[],_,_=>trivial
 |T::l,m,y=>⟨decP_emb T m y.1,decPL_emb l m y.2⟩
end
theorem dec_agg:∀ (T:TT) {m:List Res} {x:SV},decP T m x→(emb T (decV T m x)).isAgg=x.isAgg:=by
 intro T m x h
 cases T<;>cases x<;>simp only [decP] at h<;>first
  |exact h.elim
  |rfl
mutual
theorem dec_ok {ε:Env} {m:List Res} {w:World} (g:Good ε m w):∀ (T:TT) {x:SV},decP T m x→∀ {cs:List Value},SatC x ε cs→SatC (emb T (decV T m x)) (frz ε m w).cl cs
 | .int k,x,h,cs,hs=>by
  cases x<;>simp only [decP] at h
  subst h
  exact hs
 | .bool,x,h,cs,hs=>by
  cases x<;>simp only [decP] at h
  exact hs
 | .str,x,h,cs,hs=>by
  cases x<;>simp only [decP] at h
  exact hs
 | .st l,x,h,cs,hs=>by
  cases x<;>simp only [decP] at h
  simp only [SatC] at hs
  simp only [decV,emb,SatC]
  exact decL_ok g l h hs
 | .arr n wd' T,x,h,cs,hs=>by
  cases x<;>simp only [decP] at h
  obtain ⟨rfl,rfl,h⟩:=h
  simp only [SatC] at hs
  simp only [decV,emb,SatC]
  exact ⟨hs.1,fun i hi=>dec_ok g T (h i hi) (hs.2 i hi)⟩
 | .sl wd' T,x,h,cs,hs=>by
  have hcl:∀ {y:SV} {cs:List Value},SatC y ε.cl cs→SatC y ε cs:=fun h=>SatC.mono _ ε.cl_le h
  cases x with
  |lst w' d f l=>
   simp only [decP] at h
   obtain ⟨rfl,h⟩:=h
   simp only [SatC] at hs
   simp only [decV,emb,SatC]
   obtain ⟨ao,cap,h1,h2,h3,h4,h5⟩:=hs
   refine ⟨ao,cap,by rw [h1,List.length_map],by rw [List.length_map];exact h2,h3,h4,fun i hi=> ?_⟩
   rw [List.length_map] at hi
   obtain ⟨b,off,T',fz,cur,e1,e2,e3,e4⟩:=h5 i hi
   refine ⟨b,off,T',fz,cur,e1,frz_H g _ _ e2,e3,?_⟩
   have hx:l.getD i d=l[i]:=by simp [List.getD,hi]
   rw [hx] at e4
   have hy:(l.map fun y=>decV T m (f y)).getD i (dft T)=decV T m (f l[i]):=by simp [List.getD,hi]
   rw [hy]
   exact dec_ok g T (h _ (List.getElem_mem hi)) (hcl e4)
  |nils=>
   simp only [SatC] at hs
   subst hs
   simp only [decV,emb,SatC]
   exact ⟨none,0,rfl,Nat.le_refl _,Nat.zero_le _,fun _=>rfl,fun i hi=>absurd hi (Nat.not_lt_zero _)⟩
  |vec i n=>
   simp only [decP] at h
   cases hm:memAt m i with
   |vec E w' l=>
    rw [hm] at h
    obtain ⟨rfl,h⟩:=h
    simp only [decV,hm,emb,SatC]
    simp only [SatC] at hs
    obtain ⟨h1,hn,h3⟩:=hs
    have hr:=g.res i
    rw [hm] at hr
    obtain ⟨xs,⟨T0,hT0,e0,e1⟩,e2⟩:=hr
    rcases e1 with ⟨k1,k2⟩|⟨b,cap,cur,k1,k2,k3,k4,k5,k6,k7⟩
    ·refine ⟨none,0,by rw [h3,k1];simp [k2],by simp [k2],Nat.zero_le _,fun _=>rfl,fun j hj=> ?_⟩
     rw [List.length_map] at hj;omega
    ·refine ⟨some ⟨b,0,none⟩,cap,by rw [h3,k1,List.length_map],by rw [List.length_map];exact k4,k5,(fun h=>by cases h),fun j hj=> ?_⟩
     rw [List.length_map] at hj
     have hjl:j*w'+w'≤l.length*w':=by
      have:=Nat.mul_le_mul_right w' (show j+1≤l.length from hj)
      rw [Nat.succ_mul] at this;exact this
     have hcap:l.length*w'≤cap*w':=Nat.mul_le_mul_right _ k4
     refine ⟨b,0,T0,(0,0),cur,rfl,?_,by omega,?_⟩
     ·show (frz ε m w).H b=_
      rw [frz_own (i:=i) (by rw [hm];simp [ownR,k1,Value.ownBlock])];exact k3
     ·have hx:l.getD j .junk=l[j]:=by simp [List.getD,hj]
      have hy:(l.map fun y=>decV T m y).getD j (dft T)=decV T m l[j]:=by simp [List.getD,hj]
      rw [hy]
      have e3:=e2 j hj
      rw [hx] at e3
      have:=dec_ok g T (h _ (List.getElem_mem hj)) e3
      have hsu:sub cur.toList (0+j*w') w'=sub xs (j*w') w':=by
       rw [← k7]
       simp only [sub,Nat.zero_add]
       rw [List.drop_take,List.take_take]
       congr 1
       omega
      rw [hsu];exact this
   |dead=>rw [hm] at h;exact h.elim
   |blk T c=>rw [hm] at h;exact h.elim
   |mp ek ev l=>rw [hm] at h;exact h.elim
  |_=>exact h.elim
 | .ref T,x,h,cs,hs=>by
  have hcl:∀ {y:SV} {cs:List Value},SatC y ε.cl cs→SatC y ε cs:=fun h=>SatC.mono _ ε.cl_le h
  cases x with
  |ref c p o=>
   simp only [decP] at h
   obtain ⟨rfl,rfl,h⟩:=h
   simp only [SatC] at hs
   simp only [decV,emb,SatC]
   obtain ⟨b,T',fz,cur,h1,h2,h3,h4⟩:=hs
   exact ⟨b,T',fz,cur,h1,frz_H g _ _ h2,h3,dec_ok g T h (hcl h4)⟩
  |ptr i p o=>
   simp only [decP] at h
   cases hm:memAt m i with
   |blk T' c=>
    rw [hm] at h
    obtain ⟨rfl,rfl,h⟩:=h
    simp only [decV,hm,emb,SatC]
    simp only [SatC] at hs
    obtain ⟨h1,h2,h3⟩:=hs
    have hr:=g.res i
    rw [hm] at hr
    obtain ⟨cs',e1,e2⟩:=hr
    refine ⟨ε.blk i,T',(0,0),cs'.toArray,h3,?_,h2,dec_ok g T h e2⟩
    show (frz ε m w).H _=_
    rw [frz_own (i:=i) (by rw [hm];rfl)];exact e1
   |dead=>rw [hm] at h;exact h.elim
   |vec E w' l=>rw [hm] at h;exact h.elim
   |mp ek ev l=>rw [hm] at h;exact h.elim
  |_=>exact h.elim
theorem decL_ok {ε:Env} {m:List Res} {w:World} (g:Good ε m w):∀ (l:List TT) {xs:List SV},decPL l m xs→∀ {cs:List Value},SatL xs ε cs→SatL (embL l (decVL l m xs)) (frz ε m w).cl cs
 |[],xs,h,cs,hs=>by
  cases xs with
  |nil=>exact hs
  |cons=>exact h.elim
 |T::l,xs,h,cs,hs=>by
  cases xs with
  |nil=>exact h.elim
  |cons x xs=>
   obtain ⟨h1,h2⟩:=h
   simp only [SatL] at hs
   obtain ⟨a,b,e1,e2,e3⟩:=hs
   simp only [decVL,embL,SatL]
   exact ⟨a,b,e1,dec_ok g T h1 e2,decL_ok g l h2 e3⟩
end
def shf (n:Nat):Nat→Option Nat:=fun j=>some (n+j)
theorem backI_nil (n:Nat):backI [] n=shf n:=by funext j;simp [backI,shf]
theorem call_rd {f:FuncId} {args args0:List SV} {m m1:List Res} {res:SV} (h:FnOK P main Fz f args0 [] res m1) (ha:∀ ε w vs,Good ε m w→SatA args ε vs→SatA args0 (frz ε m w).cl vs)
  (hres:NoHV (ren (shf m.length) res)) (hm1:∀ x∈m1,ResNoH (renR (shf m.length) x)):
  CallStep P main Fz f args m (ren (shf m.length) res) (m++m1.map (renR (shf m.length))):=by
 rw [← backI_nil] at hres hm1 ⊢
 exact call_roG h ha hres hm1
mutual
def flatT:TT→Bool
 | .st l=>flatTL l
 | .arr _ _ T=>flatT T
 | .sl _ _=>false
 | .ref _=>false
 |_=>true
def flatTL:List TT→Bool
 |[]=>true
 |T::l=>flatT T&&flatTL l
end
mutual
theorem ren_emb:∀ (T:TT) (r:Nat→Option Nat) (y:Den T),ren r (emb T y)=emb T y
 | .int _,_,_=>rfl
 | .bool,_,_=>rfl
 | .str,_,_=>rfl
 | .st l,r,y=>by simp only [emb,ren];rw [ren_embL]
 | .arr _ _ T,r,f=>by simp only [emb,ren];congr;funext i;exact ren_emb T r (f i)
 | .sl _ T,_,_=>rfl
 | .ref T,_,_=>rfl
theorem ren_embL:∀ (l:List TT) (r:Nat→Option Nat) (y:DenL l),renL r (embL l y)=embL l y
 |[],_,_=>rfl
 |T::l,r,y=>by simp only [embL,renL];rw [ren_emb T r y.1,ren_embL l r y.2]
end
mutual
theorem kill_emb:∀ (T:TT) (i:Nat) (y:Den T),kill i (emb T y)=emb T y
 | .int _,_,_=>rfl
 | .bool,_,_=>rfl
 | .str,_,_=>rfl
 | .st l,i,y=>by simp only [emb,kill];rw [kill_embL]
 | .arr _ _ T,i,f=>by simp only [emb,kill];congr;funext j;exact kill_emb T i (f j)
 | .sl _ T,_,_=>rfl
 | .ref T,_,_=>rfl
theorem kill_embL:∀ (l:List TT) (i:Nat) (y:DenL l),killL i (embL l y)=embL l y
 |[],_,_=>rfl
 |T::l,i,y=>by simp only [embL,killL];rw [kill_emb T i y.1,kill_embL l i y.2]
end
theorem renL_map_emb (T:TT) (r:Nat→Option Nat) (l:List (Den T)):renL r (l.map (emb T))=l.map (emb T):=by
 induction l with
 |nil=>rfl
 |cons x l ih=>simp only [List.map_cons,renL];rw [ren_emb,ih]
theorem killL_map_emb (T:TT) (i:Nat) (l:List (Den T)):killL i (l.map (emb T))=l.map (emb T):=by
 induction l with
 |nil=>rfl
 |cons x l ih=>simp only [List.map_cons,killL];rw [kill_emb,ih]
theorem killL_append (i:Nat) (a b:List SV):killL i (a++b)=killL i a++killL i b:=by
 induction a with
 |nil=>rfl
 |cons x l ih=>simp only [List.cons_append,killL];rw [ih]
theorem renL_append (r:Nat→Option Nat) (a b:List SV):renL r (a++b)=renL r a++renL r b:=by
 induction a with
 |nil=>rfl
 |cons x l ih=>simp only [List.cons_append,renL];rw [ih]
theorem noH_emb:∀ (T:TT) (y:Den T),flatT T=true→NoH (emb T y)
 | .int k,y,_=>noH_int k y
 | .bool,y,_=>noH_bool y
 | .str,y,_=>noH_str y
 | .st l,y,h=>noH_agg (noL l y h)
 | .arr _ _ T,f,h=>noH_arr fun i _=>noH_emb T (f i) h
where noL:∀ (l:List TT) (y:DenL l),flatTL l=true→∀ x∈embL l y,NoH x
 |[],_,_,_,hx=>by cases hx
 |T::l,y,h,x,hx=>by
  simp only [flatTL,Bool.and_eq_true] at h
  simp only [embL,List.mem_cons] at hx
  rcases hx with rfl|hx
  ·exact noH_emb T y.1 h.1
  ·exact noL l y.2 h.2 x hx
theorem isVal_emb (T:TT) (y:Den T):(emb T y).isVal=true:=by cases T<;>rfl
inductive RT where
 |one (T:TT)
 |two (T U:TT)
 |three (T U V:TT)
@[reducible] def DenR:RT→Type
 | .one T=>Den T
 | .two T U=>Den T×Den U
 | .three T U V=>Den T×Den U×Den V
def embR:(R:RT)→DenR R→SV
 | .one T,y=>emb T y
 | .two T U,y=> .tup [emb T y.1,emb U y.2]
 | .three T U V,y=> .tup [emb T y.1,emb U y.2.1,emb V y.2.2]
def FH.fn (f:FuncId) (Ts:List TT) (R:RT) (pre:DenL Ts→Prop) (F:DenL Ts→DenR R) (Γ:FH):FH:=
 FH.on f (fun args m=> .ro (decPL Ts m args∧pre (decVL Ts m args)) (embR R (F (decVL Ts m args)))) Γ
end Go.Sx
end
section
namespace Go.Sx
open Go
variable {P:Program} {main:Bool} {Fz:Nat→Prop}
def allL.{u} {β:Type u} (l:List β) (p:β→Prop):Prop:= ∀ y∈l,p y
theorem allL_cons.{u} {β:Type u} (p:β→Prop) (x:β) (l:List β):allL (x::l) p=(p x∧allL l p):=by simp [allL]
theorem allL_nil.{u} {β:Type u} (p:β→Prop):allL ([]:List β) p=True:=by simp [allL]
theorem allL_app.{u} {β:Type u} (p:β→Prop) (a b:List β):allL (a++b) p=(allL a p∧allL b p):=by simp [allL,or_imp,forall_and]
theorem allL_map.{u,v} {β:Type u} {γ:Type v} (p:β→Prop) (f:γ→β) (l:List γ):allL (l.map f) p=allL l (fun y=>p (f y)):=by simp [allL]
theorem allL_true.{u} {β:Type u} (l:List β):allL l (fun _=>True)=True:=by simp [allL]
structure DT (α:Type) where
 dft:α
 emb:α→SV
 decV:List Res→SV→α
 decP:List Res→SV→Prop
 ok:∀ {ε:Env} {m:List Res} {w:World},Good ε m w→∀ {x:SV},decP m x→∀ {cs:List Value},SatC x ε cs→SatC (emb (decV m x)) (frz ε m w).cl cs
 agg:∀ {m:List Res} {x:SV},decP m x→(emb (decV m x)).isAgg=x.isAgg
 vE:∀ (m:List Res) (y:α),decV m (emb y)=y
 pE:∀ (m:List Res) (y:α),decP m (emb y)
 ren:∀ (r:Nat→Option Nat) (y:α),Sx.ren r (emb y)=emb y
 kill:∀ (i:Nat) (y:α),Sx.kill i (emb y)=emb y
 val:∀ y:α,(emb y).isVal=true
def DT.ofTT (T:TT):DT (Den T):=⟨Sx.dft T,Sx.emb T,Sx.decV T,Sx.decP T,fun g _ h _ hs=>dec_ok g T h hs,fun h=>dec_agg T h,decV_emb T,decP_emb T,ren_emb T,kill_emb T,isVal_emb T⟩
def DT.iso {α β:Type} (d:DT α) (f:α→β) (g:β→α) (h1:∀ x,f (g x)=x) (h2:∀ x,g (f x)=x):DT β:=
 ⟨f d.dft,fun y=>d.emb (g y),fun m x=>f (d.decV m x),d.decP,fun gd _ h _ hs=>by rw [h2];exact d.ok gd h hs,fun h=>by rw [h2];exact d.agg h,fun m y=>by rw [d.vE,h1],fun m y=>d.pE m _,fun r y=>d.ren r _,fun i y=>d.kill i _,fun y=>d.val _⟩
def DT.int:DT Int:=DT.ofTT (.int .i64)
def DT.byte:DT Int:=DT.ofTT (.int .u8)
def DT.bool:DT Bool:=DT.ofTT .bool
def DT.str:DT (List UInt8):=DT.ofTT .str
def DT.arr {α:Type} (n w:Nat) (d:DT α):DT (Nat→α) where
 dft:=fun _=>d.dft
 emb:=fun f=> .arr n w fun i=>d.emb (f i)
 decV:=fun m x=>match x with
  | .arr _ _ f=>fun i=>d.decV m (f i)
  |_=>fun _=>d.dft
 decP:=fun m x=>match x with
  | .arr n' w' f=>n'=n∧w'=w∧∀ i,i<n→d.decP m (f i)
  |_=>False
 ok:=fun {ε m w} g {x} h {cs} hs=>by
  cases x<;>simp only at h
  obtain ⟨rfl,rfl,h⟩:=h
  simp only [SatC] at hs ⊢
  exact ⟨hs.1,fun i hi=>d.ok g (h i hi) (hs.2 i hi)⟩
 agg:=fun {m x} h=>by cases x<;>first|exact h.elim|rfl
 vE:=fun m y=>by funext i;exact d.vE m (y i)
 pE:=fun m y=>⟨rfl,rfl,fun i _=>d.pE m (y i)⟩
 ren:=fun r y=>by simp only [Sx.ren];congr;funext i;exact d.ren r (y i)
 kill:=fun i y=>by simp only [Sx.kill];congr;funext j;exact d.kill i (y j)
 val:=fun y=>rfl
def DT.list {α:Type} (wd':Nat) (d:DT α):DT (List α) where
 dft:=[]
 emb:=fun l=> .lst wd' d.dft d.emb l
 decV:=fun m x=>match x with
  | .lst _ _ f l=>l.map fun y=>d.decV m (f y)
  | .lit _ _ f l=>l.map fun y=>d.decV m (f y)
  | .vec i _=>match memAt m i with
   | .vec _ _ l=>l.map fun y=>d.decV m y
   |_=>[]
  | .pvec i n=>match memAt m i with
   | .vec _ _ l=>(l.take n).map fun y=>d.decV m y
   |_=>[]
  |_=>[]
 decP:=fun m x=>match x with
  | .lst w' _ f l=>w'=wd'∧allL l fun y=>d.decP m (f y)
  | .lit w' _ f l=>w'=wd'∧allL l fun y=>d.decP m (f y)
  | .vec i _=>match memAt m i with
   | .vec _ w' l=>w'=wd'∧allL l fun y=>d.decP m y
   |_=>False
  | .pvec i n=>match memAt m i with
   | .vec _ w' l=>w'=wd'∧n≤l.length∧allL (l.take n) fun y=>d.decP m y
   |_=>False
  | .nils=>True
  |_=>False
 ok:=fun {ε m w} g {x} h {cs} hs=>by
  have hcl:∀ {y:SV} {cs:List Value},SatC y ε.cl cs→SatC y ε cs:=fun h=>SatC.mono _ ε.cl_le h
  cases x with
  |lst w' dd f l=>
   obtain ⟨rfl,h⟩:=h
   simp only [SatC] at hs ⊢
   obtain ⟨ao,cap,h1,h2,h3,h4,h5⟩:=hs
   refine ⟨ao,cap,by rw [h1,List.length_map],by rw [List.length_map];exact h2,h3,h4,fun i hi=> ?_⟩
   rw [List.length_map] at hi
   obtain ⟨b,off,T',fz,cur,e1,e2,e3,e4⟩:=h5 i hi
   refine ⟨b,off,T',fz,cur,e1,frz_H g _ _ e2,e3,?_⟩
   have hx:l.getD i dd=l[i]:=by simp [List.getD,hi]
   rw [hx] at e4
   have hy:(l.map fun y=>d.decV m (f y)).getD i d.dft=d.decV m (f l[i]):=by simp [List.getD,hi]
   rw [hy]
   exact d.ok g (h _ (List.getElem_mem hi)) (hcl e4)
  |lit w' dd f l=>
   obtain ⟨rfl,h⟩:=h
   simp only [SatC] at hs ⊢
   obtain ⟨ao,h1,h3,h4,h5⟩:=hs
   refine ⟨ao,l.length,by rw [h1,List.length_map],by rw [List.length_map];exact Nat.le_refl _,h3,h4,fun i hi=> ?_⟩
   rw [List.length_map] at hi
   obtain ⟨b,off,T',fz,cur,e1,e2,e3,e4⟩:=h5 i hi
   refine ⟨b,off,T',fz,cur,e1,frz_H g _ _ e2,e3,?_⟩
   have hx:l.getD i dd=l[i]:=by simp [List.getD,hi]
   rw [hx] at e4
   have hy:(l.map fun y=>d.decV m (f y)).getD i d.dft=d.decV m (f l[i]):=by simp [List.getD,hi]
   rw [hy]
   exact d.ok g (h _ (List.getElem_mem hi)) (hcl e4)
  |nils=>
   simp only [SatC] at hs ⊢
   subst hs
   exact ⟨none,0,rfl,Nat.le_refl _,Nat.zero_le _,fun _=>rfl,fun i hi=>absurd hi (Nat.not_lt_zero _)⟩
  |vec i n=>
   simp only at h ⊢
   cases hm:memAt m i with
   |vec E w' l=>
    rw [hm] at h
    obtain ⟨rfl,h⟩:=h
    simp only [SatC] at hs ⊢
    obtain ⟨h1,hn,h3⟩:=hs
    have hr:=g.res i
    rw [hm] at hr
    obtain ⟨xs,⟨T0,hT0,e0,e1⟩,e2⟩:=hr
    rcases e1 with ⟨k1,k2⟩|⟨b,cap,cur,k1,k2,k3,k4,k5,k6,k7⟩
    ·refine ⟨none,0,by rw [h3,k1];simp [k2],by simp [k2],Nat.zero_le _,fun _=>rfl,fun j hj=> ?_⟩
     rw [List.length_map] at hj;omega
    ·refine ⟨some ⟨b,0,none⟩,cap,by rw [h3,k1,List.length_map],by rw [List.length_map];exact k4,k5,(fun h=>by cases h),fun j hj=> ?_⟩
     rw [List.length_map] at hj
     have hjl:j*w'+w'≤l.length*w':=by
      have:=Nat.mul_le_mul_right w' (show j+1≤l.length from hj)
      rw [Nat.succ_mul] at this;exact this
     have hcap:l.length*w'≤cap*w':=Nat.mul_le_mul_right _ k4
     refine ⟨b,0,T0,(0,0),cur,rfl,?_,by omega,?_⟩
     ·show (frz ε m w).H b=_
      rw [frz_own (i:=i) (by rw [hm];simp [ownR,k1,Value.ownBlock])];exact k3
     ·have hx:l.getD j .junk=l[j]:=by simp [List.getD,hj]
      have hy:(l.map fun y=>d.decV m y).getD j d.dft=d.decV m l[j]:=by simp [List.getD,hj]
      rw [hy]
      have e3:=e2 j hj
      rw [hx] at e3
      have:=d.ok g (h _ (List.getElem_mem hj)) e3
      have hsu:sub cur.toList (0+j*w') w'=sub xs (j*w') w':=by
       rw [← k7]
       simp only [sub,Nat.zero_add]
       rw [List.drop_take,List.take_take]
       congr 1
       omega
      rw [hsu];exact this
   |dead=>rw [hm] at h;exact h.elim
   |blk T c=>rw [hm] at h;exact h.elim
   |mp ek ev l=>rw [hm] at h;exact h.elim
  |pvec i n=>
   simp only at h ⊢
   cases hm:memAt m i with
   |vec E w' l=>
    rw [hm] at h
    obtain ⟨rfl,hnl,h⟩:=h
    simp only [SatC] at hs ⊢
    obtain ⟨h1,ao,n0,cap0,hvv,hn0,h3⟩:=hs
    have hr:=g.res i
    rw [hm] at hr
    obtain ⟨xs,⟨T0,hT0,e0,e1⟩,e2⟩:=hr
    have hlt:(l.take n).length=n:=by rw [List.length_take];omega
    rcases e1 with ⟨k1,k2⟩|⟨b,cap,cur,k1,k2,k3,k4,k5,k6,k7⟩
    ·rw [hvv] at k1
     injection k1 with a1 a2 a3
     subst a1;subst a2;subst a3
     have:n=0:=by omega
     subst this
     refine ⟨none,0,by rw [h3];simp,by simp,Nat.zero_le _,fun _=>rfl,fun j hj=> ?_⟩
     rw [List.length_map,hlt] at hj;omega
    ·rw [hvv] at k1
     injection k1 with a1 a2 a3
     subst a1;subst a3
     refine ⟨some ⟨b,0,none⟩,cap0,by rw [h3,List.length_map,hlt],by rw [List.length_map,hlt];omega,k5,(fun h=>by cases h),fun j hj=> ?_⟩
     rw [List.length_map,hlt] at hj
     have hjl:j*w'+w'≤l.length*w':=by
      have:=Nat.mul_le_mul_right w' (show j+1≤l.length by omega)
      rw [Nat.succ_mul] at this;exact this
     have hcap:l.length*w'≤cap0*w':=Nat.mul_le_mul_right _ k4
     refine ⟨b,0,T0,(0,0),cur,rfl,?_,by omega,?_⟩
     ·show (frz ε m w).H b=_
      rw [frz_own (i:=i) (by rw [hm];simp [ownR,hvv,Value.ownBlock])];exact k3
     ·have hx:l.getD j .junk=l[j]:=by simp [List.getD,show j<l.length by omega]
      have hy:((l.take n).map fun y=>d.decV m y).getD j d.dft=d.decV m l[j]:=by simp [List.getD,hj,show j<l.length by omega]
      rw [hy]
      have e3:=e2 j (by omega)
      rw [hx] at e3
      have:=d.ok g (h _ (by rw [List.mem_take_iff_getElem];exact ⟨j,by omega,rfl⟩)) e3
      have hsu:sub cur.toList (0+j*w') w'=sub xs (j*w') w':=by
       rw [← k7]
       simp only [sub,Nat.zero_add]
       rw [List.drop_take,List.take_take]
       congr 1
       omega
      rw [hsu];exact this
   |dead=>rw [hm] at h;exact h.elim
   |blk T c=>rw [hm] at h;exact h.elim
   |mp ek ev l=>rw [hm] at h;exact h.elim
  |_=>exact h.elim
 agg:=fun {m x} h=>by cases x<;>first|exact h.elim|rfl
 vE:=fun m y=>by
  have:(fun y=>d.decV m (d.emb y))=id:=by funext y;exact d.vE m y
  simp only [this,List.map_id]
 pE:=fun m y=>⟨rfl,fun z _=>d.pE m z⟩
 ren:=fun r y=>rfl
 kill:=fun i y=>rfl
 val:=fun y=>rfl
def DT.ref {α:Type} (d:DT α):DT α where
 dft:=d.dft
 emb:=fun y=> .ref (d.emb y) [] 0
 decV:=fun m x=>match x with
  | .ref c _ _=>d.decV m c
  | .ptr i _ _=>match memAt m i with
   | .blk _ c=>d.decV m c
   |_=>d.dft
  |_=>d.dft
 decP:=fun m x=>match x with
  | .ref c p o=>p=[]∧o=0∧d.decP m c
  | .ptr i p o=>match memAt m i with
   | .blk _ c=>p=[]∧o=0∧d.decP m c
   |_=>False
  |_=>False
 ok:=fun {ε m w} g {x} h {cs} hs=>by
  have hcl:∀ {y:SV} {cs:List Value},SatC y ε.cl cs→SatC y ε cs:=fun h=>SatC.mono _ ε.cl_le h
  cases x with
  |ref c p o=>
   obtain ⟨rfl,rfl,h⟩:=h
   simp only [SatC] at hs ⊢
   obtain ⟨b,T',fz,cur,h1,h2,h3,h4⟩:=hs
   exact ⟨b,T',fz,cur,h1,frz_H g _ _ h2,h3,d.ok g h (hcl h4)⟩
  |ptr i p o=>
   simp only at h ⊢
   cases hm:memAt m i with
   |blk T' c=>
    rw [hm] at h
    obtain ⟨rfl,rfl,h⟩:=h
    simp only [SatC] at hs ⊢
    obtain ⟨h1,h2,h3⟩:=hs
    have hr:=g.res i
    rw [hm] at hr
    obtain ⟨cs',e1,e2⟩:=hr
    refine ⟨ε.blk i,T',(0,0),cs'.toArray,h3,?_,h2,d.ok g h e2⟩
    show (frz ε m w).H _=_
    rw [frz_own (i:=i) (by rw [hm];rfl)];exact e1
   |dead=>rw [hm] at h;exact h.elim
   |vec E w' l=>rw [hm] at h;exact h.elim
   |mp ek ev l=>rw [hm] at h;exact h.elim
  |_=>exact h.elim
 agg:=fun {m x} h=>by cases x<;>first|exact h.elim|rfl
 vE:=fun m y=>d.vE m y
 pE:=fun m y=>⟨rfl,rfl,d.pE m y⟩
 ren:=fun r y=>rfl
 kill:=fun i y=>rfl
 val:=fun y=>rfl
def DT.fnc:DT Nat where
 dft:=0
 emb:=fun f=> .fn f []
 decV:=fun m x=>match x with
  | .fn f []=>f
  |_=>0
 decP:=fun m x=>match x with
  | .fn _ []=>True
  |_=>False
 ok:=fun {ε m w} g {x} h {cs} hs=>by
  split at h
  ·simp only [SatC] at hs ⊢
   obtain ⟨vs,h1,h2⟩:=hs
   exact ⟨vs,h1,h2⟩
  ·exact h.elim
 agg:=fun {m x} h=>by
  split at h
  ·rfl
  ·exact h.elim
 vE:=fun m y=>rfl
 pE:=fun m y=>trivial
 ren:=fun r y=>rfl
 kill:=fun i y=>rfl
 val:=fun y=>rfl
structure DA (α:Type) where
 dft:α
 emb:α→List SV
 decV:List Res→List SV→α
 decP:List Res→List SV→Prop
 ok:∀ {ε:Env} {m:List Res} {w:World},Good ε m w→∀ {xs:List SV},decP m xs→∀ {vs:List Value},SatA xs ε vs→SatA (emb (decV m xs)) (frz ε m w).cl vs
 ren:∀ (r:Nat→Option Nat) (y:α),renL r (emb y)=emb y
 kill:∀ (i:Nat) (y:α),killL i (emb y)=emb y
 vE:∀ (m:List Res) (y:α),decV m (emb y)=y
 pE:∀ (m:List Res) (y:α),decP m (emb y)
def DA.nil:DA Unit:=⟨(),fun _=>[],fun _ _=>(),fun _ xs=>match xs with|[]=>True|_=>False,fun {ε m w} g {xs} h {vs} hs=>by
 cases xs with
 |nil=>exact hs
 |cons=>exact h.elim,fun _ _=>rfl,fun _ _=>rfl,fun _ _=>rfl,fun _ _=>trivial⟩
def DA.cons {α β:Type} (d:DT α) (r:DA β):DA (α×β) where
 dft:=(d.dft,r.dft)
 emb:=fun y=>d.emb y.1::r.emb y.2
 decV:=fun m xs=>match xs with
  |x::xs=>(d.decV m x,r.decV m xs)
  |[]=>(d.dft,r.dft)
 decP:=fun m xs=>match xs with
  |x::xs=>d.decP m x∧r.decP m xs
  |[]=>False
 ok:=fun {ε m w} g {xs} h {vs} hs=>by
  cases xs with
  |nil=>exact h.elim
  |cons x xs=>
   obtain ⟨h1,h2⟩:=h
   simp only [SatA] at hs ⊢
   obtain ⟨a,b,e1,e2,e3⟩:=hs
   exact ⟨a,b,by rw [d.agg h1];exact e1,d.ok g h1 e2,r.ok g h2 e3⟩
 ren:=fun s y=>by simp only [renL,d.ren,r.ren]
 kill:=fun s y=>by simp only [killL,d.kill,r.kill]
 vE:=fun m y=>by simp only [d.vE,r.vE]
 pE:=fun m y=>⟨d.pE m y.1,r.pE m y.2⟩
abbrev DA.one {α:Type} (a:DT α):DA (α×Unit):= .cons a .nil
abbrev DA.two {α β:Type} (a:DT α) (b:DT β):DA (α×β×Unit):= .cons a (.cons b .nil)
abbrev DA.three {α β γ:Type} (a:DT α) (b:DT β) (c:DT γ):DA (α×β×γ×Unit):= .cons a (.cons b (.cons c .nil))
abbrev DA.four {α β γ δ:Type} (a:DT α) (b:DT β) (c:DT γ) (d:DT δ):DA (α×β×γ×δ×Unit):= .cons a (.cons b (.cons c (.cons d .nil)))
def DT.clo {κ:Type} (f:FuncId) (A:DA κ):DT κ where
 dft:=A.dft
 emb:=fun k=> .fn f (A.emb k)
 decV:=fun m x=>match x with
  | .fn _ caps=>A.decV m caps
  |_=>A.dft
 decP:=fun m x=>match x with
  | .fn g caps=>g=f∧A.decP m caps
  |_=>False
 ok:=fun {ε m w} g {x} h {cs} hs=>by
  cases x with
  |fn g' caps=>
   obtain ⟨rfl,h⟩:=h
   simp only [SatC] at hs ⊢
   obtain ⟨vs,h1,h2⟩:=hs
   exact ⟨vs,A.ok g h h1,h2⟩
  |_=>exact h.elim
 agg:=fun {m x} h=>by cases x<;>first|exact h.elim|rfl
 vE:=fun m y=>A.vE m y
 pE:=fun m y=>⟨rfl,A.pE m y⟩
 ren:=fun r y=>by simp only [Sx.ren,A.ren]
 kill:=fun i y=>by simp only [Sx.kill,A.kill]
 val:=fun y=>rfl
structure DR (α:Type) where
 emb:α→SV
 ren:∀ (r:Nat→Option Nat) (y:α),Sx.ren r (emb y)=emb y
 noH:∀ y:α,NoHV (emb y)
class Flat {α:Type} (d:DT α):Prop where
 noH:∀ y:α,NoH (d.emb y)
instance:Flat DT.int:=⟨fun y=>noH_int _ y⟩
instance:Flat DT.byte:=⟨fun y=>noH_int _ y⟩
instance:Flat DT.bool:=⟨fun y=>noH_bool y⟩
instance:Flat DT.str:=⟨fun y=>noH_str y⟩
instance {α:Type} {n w:Nat} {d:DT α} [h:Flat d]:Flat (DT.arr n w d):=⟨fun y=>noH_arr fun i _=>h.noH (y i)⟩
theorem Flat.ofTT {T:TT} (h:flatT T=true):Flat (DT.ofTT T):=⟨fun y=>noH_emb T y h⟩
theorem Flat.iso {α β:Type} {d:DT α} (h:Flat d) {f:α→β} {g:β→α} {h1:∀ x,f (g x)=x} {h2:∀ x,g (f x)=x}:Flat (d.iso f g h1 h2):=⟨fun y=>h.noH (g y)⟩
def DR.unit:DR Unit:=⟨fun _=> .tup [],fun _ _=>rfl,fun _=>noHV_tup fun _ h=>by cases h⟩
def DR.one {α:Type} (d:DT α) [h:Flat d]:DR α:=⟨d.emb,d.ren,fun y=>(h.noH y).val (d.val y)⟩
def DR.two {α β:Type} (a:DT α) (b:DT β) [ha:Flat a] [hb:Flat b]:DR (α×β):=⟨fun y=> .tup [a.emb y.1,b.emb y.2],fun r y=>by simp only [Sx.ren,renL,a.ren,b.ren],fun y=>noHV_tup fun x hx=>by
 simp only [List.mem_cons,List.not_mem_nil,or_false] at hx
 rcases hx with rfl|rfl
 ·exact ha.noH _
 ·exact hb.noH _⟩
def DR.three {α β γ:Type} (a:DT α) (b:DT β) (c:DT γ) [ha:Flat a] [hb:Flat b] [hc:Flat c]:DR (α×β×γ):=⟨fun y=> .tup [a.emb y.1,b.emb y.2.1,c.emb y.2.2],fun r y=>by simp only [Sx.ren,renL,a.ren,b.ren,c.ren],fun y=>noHV_tup fun x hx=>by
 simp only [List.mem_cons,List.not_mem_nil,or_false] at hx
 rcases hx with rfl|rfl|rfl
 ·exact ha.noH _
 ·exact hb.noH _
 ·exact hc.noH _⟩
def FH.rd (f:FuncId) {α ρ:Type} (A:DA α) (R:DR ρ) (pre:α→Prop) (F:α→ρ) (Γ:FH):FH:=
 FH.on f (fun args m=> .ro (A.decP m args∧pre (A.decV m args)) (R.emb (F (A.decV m args)))) Γ
theorem FH.rd_ok {f:FuncId} {α ρ:Type} {A:DA α} {R:DR ρ} {pre:α→Prop} {F:α→ρ} {Γ:FH} (hf:okFn P f=true) (h:∀ y,pre y→FnOK P main Fz f (A.emb y) [] (R.emb (F y)) []) (hΓ:FHOK P main Fz Γ):FHOK P main Fz (FH.rd f A R pre F Γ):=
 FH.on_ok (fun args m hp=>⟨hf,by
  have:=call_rd (h _ hp.2) (fun ε w vs g hs=>A.ok g hp.1 hs) (by rw [R.ren];exact R.noH _) (fun _ h=>by cases h)
  rw [R.ren] at this
  simpa using this⟩) hΓ
def FH.mk (f:FuncId) {α:Type} (A:DA α) (pre:α→Prop) (F:α→SV) (M:α→List Res) (Γ:FH):FH:=
 FH.on f (fun args m=> .is (A.decP m args∧pre (A.decV m args)) (ren (shf m.length) (F (A.decV m args))) (m++(M (A.decV m args)).map (renR (shf m.length)))) Γ
def PlainM (x:SV) (M:List Res):Prop:= ∀ r,NoHV (ren r x)∧∀ y∈M,ResNoH (renR r y)
theorem FH.mk_ok {f:FuncId} {α:Type} {A:DA α} {pre:α→Prop} {F:α→SV} {M:α→List Res} {Γ:FH} (hf:okFn P f=true) (hR:∀ y,pre y→PlainM (F y) (M y)) (h:∀ y,pre y→FnOK P main Fz f (A.emb y) [] (F y) (M y)) (hΓ:FHOK P main Fz Γ):FHOK P main Fz (FH.mk f A pre F M Γ):=
 FH.on_ok (fun args m hp=>⟨hf,call_rd (h _ hp.2) (fun ε w vs g hs=>A.ok g hp.1 hs) (hR _ hp.2 _).1 (hR _ hp.2 _).2⟩) hΓ
def FH.mt (f:FuncId) {σ α ρ:Type} (T:TypeId) (d:DT σ) (A:DA α) (R:DR ρ) (pre:σ→α→Prop) (F:σ→α→ρ) (S:σ→α→σ) (Γ:FH):FH:=
 FH.on f (fun args m=>match args with
  |x::rest=>match x with
   | .ptr i p o=>match memAt m i with
    | .blk T' c=> .is (T'=T∧p=[]∧o=0∧d.emb (d.decV [] c)=c∧A.emb (A.decV [] rest)=rest∧pre (d.decV [] c) (A.decV [] rest)) (R.emb (F (d.decV [] c) (A.decV [] rest))) (m.set i (.blk T (d.emb (S (d.decV [] c) (A.decV [] rest)))))
    |_=> .no
   |_=> .no
  |[]=> .no) Γ
theorem FH.mt_ok {f:FuncId} {σ α ρ:Type} {T:TypeId} {d:DT σ} {A:DA α} {R:DR ρ} {pre:σ→α→Prop} {F:σ→α→ρ} {S:σ→α→σ} {Γ:FH} (hf:okFn P f=true)
  (h:∀ s y,pre s y→FnOK P main Fz f (.ptr 0 [] 0::A.emb y) [.blk T (d.emb s)] (R.emb (F s y)) [.blk T (d.emb (S s y))]) (hΓ:FHOK P main Fz Γ):FHOK P main Fz (FH.mt f T d A R pre F S Γ):=
 FH.on_ok (fun args m=>by
  cases args with
  |nil=>trivial
  |cons x rest=>
   cases x with
   |ptr i p o=>
    simp only
    cases hm:memAt m i with
    |dead=>trivial
    |vec T' w l=>trivial
    |mp ek ev l=>trivial
    |blk T' c=>
     rintro ⟨rfl,rfl,rfl,h1,h2,h3⟩
     refine ⟨hf,?_⟩
     generalize hs:d.decV [] c=s at h1 h3 ⊢
     generalize hy:A.decV [] rest=y at h2 h3 ⊢
     subst h1;subst h2
     have hi:i<m.length:=by
      rcases Nat.lt_or_ge i m.length with hi|hi
      ·exact hi
      ·rw [memAt_ge hi] at hm;cases hm
     have key:=call_of_fn (args:= .ptr i [] 0::A.emb y) (m:=m) (h s y h3) [i] (by simp) (by simp [hm,Res.isBlk]) (by simp only [renL,A.ren,Sx.ren,renI,selI,List.contains_cons,BEq.rfl,Bool.true_or,if_true,List.idxOf_cons_self])
      (by simp only [selM,List.map_cons,List.map_nil,hm,renR,d.ren]) (by simp) (by intro j hj;simp at hj;subst hj;rfl)
     rw [R.ren] at key
     have hmm:mergeM [i] m [.blk T' (d.emb (S s y))]=m.set i (.blk T' (d.emb (S s y))):=by
      simp [mergeM,memAt,renR,d.ren]
     rwa [hmm] at key
   |_=>trivial) hΓ
def DT.frz {α:Type} (d:DT α):Frz:=⟨fun m x=>d.emb (d.decV m x),fun m x=>d.decP m x∧x.isVal=true,fun g _ h _ hs=>d.ok g h.1 hs,fun h=>d.agg h.1,fun h=>h.2⟩
structure DP (α:Type) where
 emb:α→SV
 ren:∀ (r:Nat→Option Nat) (y:α),Sx.ren r (emb y)=emb y
def DP.one {α:Type} (d:DT α):DP α:=⟨d.emb,d.ren⟩
def DP.two {α β:Type} (a:DT α) (b:DT β):DP (α×β):=⟨fun y=> .tup [a.emb y.1,b.emb y.2],fun r y=>by simp only [Sx.ren,renL,a.ren,b.ren]⟩
def DP.three {α β γ:Type} (a:DT α) (b:DT β) (c:DT γ):DP (α×β×γ):=⟨fun y=> .tup [a.emb y.1,b.emb y.2.1,c.emb y.2.2],fun r y=>by simp only [Sx.ren,renL,a.ren,b.ren,c.ren]⟩
def FH.pz (f:FuncId) {α ρ:Type} (A:DA α) (R:DP ρ) (pre:α→Prop) (F:α→ρ) (Γ:FH):FH:=
 FH.on f (fun args m=> .ro (A.emb (A.decV [] args)=args∧pre (A.decV [] args)) (R.emb (F (A.decV [] args)))) Γ
theorem FH.pz_ok {f:FuncId} {α ρ:Type} {A:DA α} {R:DP ρ} {pre:α→Prop} {F:α→ρ} {Γ:FH} (hf:okFn P f=true) (h:∀ y,pre y→FnOK P main Fz f (A.emb y) [] (R.emb (F y)) []) (hΓ:FHOK P main Fz Γ):FHOK P main Fz (FH.pz f A R pre F Γ):=
 FH.on_ok (fun args m hp=>⟨hf,by
  have:=call_of_fn0 (m:=m) (args:=args) (h _ hp.2) (by rw [← hp.1];rw [A.vE];exact A.ren _ _)
  rw [R.ren] at this
  simpa using this⟩) hΓ
section words
variable {α:Type} {m:List Res}
theorem int_emb (n:Int):DT.int.emb n= .int .i64 n:=nr rfl
theorem byte_emb (n:Int):DT.byte.emb n= .int .u8 n:=nr rfl
theorem bool_emb (b:Bool):DT.bool.emb b= .bool b:=nr rfl
theorem str_emb (s:List UInt8):DT.str.emb s= .str s:=nr rfl
theorem int_decV (n:Int):DT.int.decV m (.int .i64 n)=n:=nr rfl
theorem byte_decV (n:Int):DT.byte.decV m (.int .u8 n)=n:=nr rfl
theorem bool_decV (b:Bool):DT.bool.decV m (.bool b)=b:=nr rfl
theorem str_decV (s:List UInt8):DT.str.decV m (.str s)=s:=nr rfl
theorem int_decP (n:Int):DT.int.decP m (.int .i64 n)=True:=eq_true rfl
theorem byte_decP (n:Int):DT.byte.decP m (.int .u8 n)=True:=eq_true rfl
theorem bool_decP (b:Bool):DT.bool.decP m (.bool b)=True:=eq_true trivial
theorem str_decP (s:List UInt8):DT.str.decP m (.str s)=True:=eq_true trivial
theorem dt_vE (d:DT α) (y:α):d.decV m (d.emb y)=y:=d.vE m y
theorem dt_pE (d:DT α) (y:α):d.decP m (d.emb y)=True:=eq_true (d.pE m y)
theorem dt_val (d:DT α) (y:α):(d.emb y).isVal=true:=d.val y
theorem dt_ren (d:DT α) (r) (y:α):ren r (d.emb y)=d.emb y:=d.ren r y
theorem dt_kill (d:DT α) (i) (y:α):kill i (d.emb y)=d.emb y:=d.kill i y
theorem dt_renL (d:DT α) (r) (l:List α):renL r (l.map d.emb)=l.map d.emb:=by
 induction l with
 |nil=>rfl
 |cons x l ih=>simp only [List.map_cons,renL];rw [d.ren,ih]
theorem dt_killL (d:DT α) (r) (l:List α):killL r (l.map d.emb)=l.map d.emb:=by
 induction l with
 |nil=>rfl
 |cons x l ih=>simp only [List.map_cons,killL];rw [d.kill,ih]
theorem arr_emb (n w:Nat) (d:DT α) (f:Nat→α):(DT.arr n w d).emb f= .arr n w fun i=>d.emb (f i):=nr rfl
theorem arr_decV (n w:Nat) (d:DT α) (n' w':Nat) (f:Nat→SV):(DT.arr n w d).decV m (.arr n' w' f)=fun i=>d.decV m (f i):=nr rfl
theorem arr_decP (n w:Nat) (d:DT α) (n' w':Nat) (f:Nat→SV):(DT.arr n w d).decP m (.arr n' w' f)=(n'=n∧w'=w∧∀ i,i<n→d.decP m (f i)):=nr rfl
theorem list_emb (w:Nat) (d:DT α) (l:List α):(DT.list w d).emb l= .lst w d.dft d.emb l:=nr rfl
theorem list_decV_lst {τ:Type} (w:Nat) (d:DT α) (w':Nat) (x:τ) (f:τ→SV) (l:List τ):(DT.list w d).decV m (.lst w' x f l)=l.map fun y=>d.decV m (f y):=nr rfl
theorem list_decP_lst {τ:Type} (w:Nat) (d:DT α) (w':Nat) (x:τ) (f:τ→SV) (l:List τ):(DT.list w d).decP m (.lst w' x f l)=(w'=w∧allL l fun y=>d.decP m (f y)):=nr rfl
theorem list_decV_nils (w:Nat) (d:DT α):(DT.list w d).decV m .nils=[]:=nr rfl
theorem list_decP_nils (w:Nat) (d:DT α):(DT.list w d).decP m .nils=True:=nr rfl
theorem list_decV_vec (w:Nat) (d:DT α) (i n:Nat):(DT.list w d).decV m (.vec i n)=(match memAt m i with
   | .vec _ _ l=>l.map fun y=>d.decV m y
   |_=>[]):=nr rfl
theorem list_decP_vec (w:Nat) (d:DT α) (i n:Nat):(DT.list w d).decP m (.vec i n)=(match memAt m i with
   | .vec _ w' l=>w'=w∧allL l fun y=>d.decP m y
   |_=>False):=nr rfl
theorem list_decV_lit (w w':Nat) (d:DT α) {τ:Type} (x:τ) (f:τ→SV) (l:List τ):(DT.list w d).decV m (.lit w' x f l)=l.map fun y=>d.decV m (f y):=nr rfl
theorem list_decP_lit (w w':Nat) (d:DT α) {τ:Type} (x:τ) (f:τ→SV) (l:List τ):(DT.list w d).decP m (.lit w' x f l)=(w'=w∧allL l fun y=>d.decP m (f y)):=nr rfl
theorem list_decV_pvec (w:Nat) (d:DT α) (i n:Nat):(DT.list w d).decV m (.pvec i n)=(match memAt m i with
   | .vec _ _ l=>(l.take n).map fun y=>d.decV m y
   |_=>[]):=nr rfl
theorem list_decP_pvec (w:Nat) (d:DT α) (i n:Nat):(DT.list w d).decP m (.pvec i n)=(match memAt m i with
   | .vec _ w' l=>w'=w∧n≤l.length∧allL (l.take n) fun y=>d.decP m y
   |_=>False):=nr rfl
theorem ref_emb (d:DT α) (y:α):d.ref.emb y= .ref (d.emb y) [] 0:=nr rfl
theorem ref_decV_ref (d:DT α) (c p o):d.ref.decV m (.ref c p o)=d.decV m c:=nr rfl
theorem ref_decP_ref (d:DT α) (c p o):d.ref.decP m (.ref c p o)=(p=[]∧o=0∧d.decP m c):=nr rfl
theorem ref_decV_ptr (d:DT α) (i p o):d.ref.decV m (.ptr i p o)=(match memAt m i with
   | .blk _ c=>d.decV m c
   |_=>d.dft):=nr rfl
theorem ref_decP_ptr (d:DT α) (i p o):d.ref.decP m (.ptr i p o)=(match memAt m i with
   | .blk _ c=>p=[]∧o=0∧d.decP m c
   |_=>False):=nr rfl
theorem noH_junk:NoH .junk:=fun _ _ _ _ _ _ h=>h
theorem fnc_emb (f:Nat):DT.fnc.emb f= .fn f []:=nr rfl
theorem fnc_decV (f:FuncId):DT.fnc.decV m (.fn f [])=f:=nr rfl
theorem fnc_decP (f:FuncId):DT.fnc.decP m (.fn f [])=True:=nr rfl
theorem da_vE (A:DA α) (y:α):A.decV m (A.emb y)=y:=A.vE m y
theorem da_pE (A:DA α) (y:α):A.decP m (A.emb y)=True:=eq_true (A.pE m y)
theorem da_ren (A:DA α) (r) (y:α):renL r (A.emb y)=A.emb y:=A.ren r y
theorem da_kill (A:DA α) (i) (y:α):killL i (A.emb y)=A.emb y:=A.kill i y
theorem clo_emb (f:FuncId) (A:DA α) (k:α):(DT.clo f A).emb k= .fn f (A.emb k):=nr rfl
theorem clo_decV (f g:FuncId) (A:DA α) (caps:List SV):(DT.clo f A).decV m (.fn g caps)=A.decV m caps:=nr rfl
theorem clo_decP (f g:FuncId) (A:DA α) (caps:List SV):(DT.clo f A).decP m (.fn g caps)=(g=f∧A.decP m caps):=rfl
theorem list_dft {α:Type} (w:Nat) (d:DT α):(DT.list w d).dft=[]:=nr rfl
theorem int_dft:DT.int.dft=0:=nr rfl
theorem bool_dft:DT.bool.dft=false:=nr rfl
theorem map_dec {α:Type} {m:List Res} (d:DT α) (l:List α):List.map (fun y=>d.decV m y) (l.map d.emb)=l:=by
 rw [List.map_map]
 have:(fun y=>d.decV m y)∘d.emb=id:=by funext y;exact d.vE m y
 rw [this,List.map_id]
theorem da_nilV:DA.nil.decV m []=():=nr rfl
theorem da_nilP:DA.nil.decP m []=True:=nr rfl
theorem da_consV {β:Type} (d:DT α) (r:DA β) (x xs):(DA.cons d r).decV m (x::xs)=(d.decV m x,r.decV m xs):=nr rfl
theorem da_consP {β:Type} (d:DT α) (r:DA β) (x xs):(DA.cons d r).decP m (x::xs)=(d.decP m x∧r.decP m xs):=nr rfl
theorem da_consE {β:Type} (d:DT α) (r:DA β) (y):(DA.cons d r).emb y=d.emb y.1::r.emb y.2:=nr rfl
theorem da_nilE (y):DA.nil.emb y=[]:=nr rfl
theorem dp_one (d:DT α) (y):(DP.one d).emb y=d.emb y:=nr rfl
theorem dp_two {β:Type} (a:DT α) (b:DT β) (y):(DP.two a b).emb y= .tup [a.emb y.1,b.emb y.2]:=nr rfl
theorem dp_three {β γ:Type} (a:DT α) (b:DT β) (c:DT γ) (y):(DP.three a b c).emb y= .tup [a.emb y.1,b.emb y.2.1,c.emb y.2.2]:=nr rfl
theorem frz_P (d:DT α) (x):(DT.frz d).P m x=(d.decP m x∧x.isVal=true):=rfl
theorem frz_dec (d:DT α) (x):(DT.frz d).dec m x=d.emb (d.decV m x):=nr rfl
theorem dr_unit (y):DR.unit.emb y= .tup []:=nr rfl
theorem dr_one (d:DT α) [Flat d] (y):(DR.one d).emb y=d.emb y:=nr rfl
theorem dr_two {β:Type} (a:DT α) (b:DT β) [Flat a] [Flat b] (y):(DR.two a b).emb y= .tup [a.emb y.1,b.emb y.2]:=nr rfl
theorem dr_three {β γ:Type} (a:DT α) (b:DT β) (c:DT γ) [Flat a] [Flat b] [Flat c] (y):(DR.three a b c).emb y= .tup [a.emb y.1,b.emb y.2.1,c.emb y.2.2]:=nr rfl
end words
end Go.Sx
end
section
namespace Go.Sx
open Go
variable {P:Program} {main:Bool} {Fz:Nat→Prop}
theorem frz_eps0 (W:World):(frz (ε0 W) [] W).cl=ε0 W:=by
 have h:(frz (ε0 W) [] W).H=(ε0 W).H:=by
  funext b
  show (open Classical in if ∃ i,ownR (ε0 W) i (memAt [] i)=some b then W.heap[b]? else (ε0 W).H b)=W.heap[b]?
  split<;>rfl
 show {frz (ε0 W) [] W with n:=0}=ε0 W
 simp only [ε0,frz] at h ⊢
 rw [h]
theorem satA_conv {α:Type} {A:DA α} {xs:List SV} {W:World} {vs:List Value} (hd:A.decP [] xs) (hs:SatA xs (ε0 W) vs) (hg:Glob (ε0 W).H:=by simp [Glob,globT,globE]):SatA (A.emb (A.decV [] xs)) (ε0 W) vs:=by
 have:=A.ok (good_nil W hg) hd hs
 rwa [frz_eps0] at this
def PlV (x:SV):Prop:= ∀ r,NoH (ren r x)
def PlVs:List SV→Prop
 |[]=>True
 |x::r=>PlV x∧PlVs r
def PlR (x:Res):Prop:= ∀ r,ResNoH (renR r x)
def PlRs:List Res→Prop
 |[]=>True
 |x::r=>PlR x∧PlRs r
theorem plV_vec (i n:Nat):PlV (.vec i n):=fun r=>by
 simp only [ren,renI]
 split
 ·exact noH_vec _ _
 ·exact noH_junk
theorem plV_int (k:IntKind) (n:Int):PlV (.int k n):=fun r=>noH_int k n
theorem PlVs.mem:∀ {l:List SV},PlVs l→∀ x∈l,PlV x
 |[],_,_,h=>by cases h
 |y::l,h,x,hx=>by
  rcases List.mem_cons.1 hx with e|e
  ·exact e▸h.1
  ·exact PlVs.mem h.2 x e
theorem PlRs.mem:∀ {l:List Res},PlRs l→∀ x∈l,PlR x
 |[],_,_,h=>by cases h
 |y::l,h,x,hx=>by
  rcases List.mem_cons.1 hx with e|e
  ·exact e▸h.1
  ·exact PlRs.mem h.2 x e
theorem renL_mem {r:Nat→Option Nat}:∀ {l:List SV} {x:SV},x∈renL r l→∃ y∈l,x=ren r y
 |[],_,h=>by simp [renL] at h
 |y::l,x,h=>by
  simp only [renL,List.mem_cons] at h
  rcases h with rfl|h
  ·exact ⟨y,by simp,rfl⟩
  ·obtain ⟨z,h1,h2⟩:=renL_mem h
   exact ⟨z,by simp [h1],h2⟩
theorem pv_tup {l:List SV} (h:PlVs l) (r):NoHV (ren r (.tup l)):=by
 simp only [ren]
 refine noHV_tup fun x hx=> ?_
 obtain ⟨y,h1,rfl⟩:=renL_mem hx
 exact h.mem y h1 r
theorem pv_ptr (i:Nat) (p:List Step) (o:Nat) (r):NoHV (ren r (.ptr i p o)):=by
 simp only [ren,renI]
 split
 ·exact (noH_ptr _ _ _).val rfl
 ·exact noHV_junk
theorem plR_vec {α:Type} (T:TypeId) (w:Nat) (d:DT α) [h:Flat d] (l:List α):PlR (.vec T w (l.map d.emb)):=fun r=>by
 simp only [renR,dt_renL,ResNoH]
 intro j hj
 rw [List.length_map] at hj
 have:(l.map d.emb).getD j .junk=d.emb l[j]:=by simp [List.getD,hj]
 rw [this]
 exact h.noH _
theorem plR_blk {α:Type} (T:TypeId) (d:DT α) [h:Flat d] (y:α):PlR (.blk T (d.emb y)):=fun r=>by
 simp only [renR,d.ren]
 exact h.noH y
theorem plainM {x:SV} {M:List Res} (h1:∀ r,NoHV (ren r x)) (h2:PlRs M):PlainM x M:=fun r=>⟨h1 r,fun y hy=>h2.mem y hy r⟩
end Go.Sx
end
