/- A part of the proof of StripeRuns. Conditions: none. -/
import Derived.Test.YtpajfggdnobheaaCo4
import Derived.Test.YtpajfggdnobheaaClockJ
set_option linter.unusedVariables false
set_option linter.unusedSimpArgs false
namespace Go.Sx
open Go Go.Conc
def XOK (X:Nat→Option Obj) (ε:Env) (m:List Res) (x:OW):Prop:= ∀ b o,X b=some o→x.w.heap[b]? =some o∧x.O b∧ε.H b=none∧∀ i,ownR ε i (memAt m i)≠some b
structure TS (F:Nat→Prop) (n:Nat) (d:List Deferred) (H0 X:Nat→Option Obj) (ε:Env) (τ:Fr) (m:List Res) (a:Act) (x:OW):Prop where
 g:GoodO F ε m x
 s:SlotsF n ε τ a
 d:a.defers=d
 x:XOK X ε m x
 h:∀ b o,H0 b=some o→ε.H b=some o
section
variable {P:Program} {main:Bool} {F:Nat→Prop} {ι:Type _} {S:Ses ι} {fn:FuncId} {n:Nat} {d:List Deferred} {H0 X:Nat→Option Obj} {ε:Env} {τ:Fr} {m:List Res} {a:Act} {x:OW} {s:ι}
theorem GoodO.rely (g:GoodO F ε m x) {w1:World} (hr:Rel x.O F x.w w1):GoodO F ε m ⟨w1,x.O⟩:=((InvO.start g).rely hr).goodO
theorem XOK.rely (h:XOK X ε m x) {w1:World} (hr:Rel x.O F x.w w1):XOK X ε m ⟨w1,x.O⟩:=fun b o hb=>by
 obtain ⟨h1,h2,h3,h4⟩:=h b o hb
 exact ⟨(hr.heap b (.inl h2)).trans h1,h2,h3,h4⟩
theorem TS.rely (h:TS F n d H0 X ε τ m a x) {w1:World} (hr:Rel x.O F x.w w1):TS F n d H0 X ε τ m a ⟨w1,x.O⟩:=⟨h.g.rely hr,h.s,h.d,h.x.rely hr,h.h⟩
theorem XOK.step (h:XOK X ε m x) (g:GoodO F ε m x) {ε':Env} {m':List Res} {x':OW} (h':InvO F (.at ε m x) ε' m' x'):XOK X ε' m' x':=fun b o hb=>by
 obtain ⟨h1,h2,h3,h4⟩:=h b o hb
 have hlt:b<x.w.heap.size:=(Array.getElem?_eq_some_iff.1 h1).1
 have hnB:¬ ((Root.at ε m x).B b∨(x'.O b∧(Root.at ε m x).w.heap.size≤b)):=by
  rintro (⟨i,hi⟩|⟨_,hi⟩)
  ·exact h4 i hi
  ·exact absurd hi (Nat.not_le_of_lt hlt)
 have hlt':b<x'.w.heap.size:=Nat.lt_of_lt_of_le hlt h'.size
 refine ⟨?_,h'.sub b h2,?_,fun i hi=> ?_⟩
 ·have:=h'.inv.kept.heap b (by simp only [Root.base,Root.mix,mixH_size];exact hlt') hnB
  rw [this]
  exact (mixH_in (.inl h2) hlt hlt').trans h1
 ·cases hh:ε'.H b with
  |none=>rfl
  |some o'=>
   rcases h'.inv.kept.fresh b o' hh with e|e|e
   ·have e:ε.H b=some o':=e
    rw [h3] at e;cases e
   ·simp only [Root.base,Root.mix,mixH_size] at e;omega
   ·exact absurd e hnB
 ·rcases h'.inv.own i b hi with e|e
  ·exact hnB e
  ·simp only [Root.base,Root.mix,mixH_size] at e;omega
theorem TS.inv (h:TS F n d H0 X ε τ m a x):InvO F (.at ε m x) ε m x:=InvO.start h.g
theorem TS.jc (h:TS F n d H0 X ε τ m a x) {Γ:FH} (hΓ:FHOK P main F Γ) {quiet:FuncId→Bool} {jc:JC} {c:Code} (hc:comp P quiet c=some jc.flat) (hw:jc.wf n=true) {Q:Ex→Fr→List Res→Prop} (hq:jc.wp Γ m.length Q τ m):
  CodeQ P main F fn c (fun e a' x'=> ∃ ex τ' m' ε',ExRel e ex∧Q ex τ' m'∧TS F n d H0 X ε' τ' m' a' x'∧∀ i,i<m.length→ε'.blk i=ε.blk i) a x:=
 CodeQ.mono (fun e a' x' he=>by
  obtain ⟨ex,τ',m',ε',h1,h2,h3,h4,h5⟩:=he
  exact ⟨ex,τ',m',ε',h1,h2,⟨h3.goodO,h4,h5,h.x.step h.g h3,fun b o hb=>h3.inv.kept.H b o (h.h b o hb)⟩,fun i hi=>h3.inv.blk i (by rw [show ((Root.at ε m x).base F x').ε.n=ε.n from rfl,h.g.good.n];exact hi)⟩)
  (JC.sound (fn:=fn) hΓ (ρ:= .at ε m x) (Nat.le_of_eq h.g.good.n) (d:=d) jc c hc hw Q τ m hq ε a x h.inv h.s h.d)
theorem TS.jct (h:TS F n d H0 X ε τ m a x) {Γ:FH} (hΓ:FHOK P main F Γ) {quiet:FuncId→Bool} {jc:JC} {c:Code} (hc:comp P quiet c=some jc.flat) (hw:jc.wf n=true) {Q:Ex→Fr→List Res→Prop} (hq:jc.wp Γ m.length Q τ m)
  {R:Exit→Act→ι→OW→Prop} (hR:∀ e ex τ' m' ε' a' x',ExRel e ex→Q ex τ' m'→TS F n d H0 X ε' τ' m' a' x'→(∀ i,i<m.length→ε'.blk i=ε.blk i)→R e a' s x'):CodeT P main F S fn c R a s x:=
 CodeQ.t ((h.jc hΓ hc hw hq).mono fun e a' x' ⟨ex,τ',m',ε',h1,h2,h3,h4⟩=>hR e ex τ' m' ε' a' x' h1 h2 h3 h4)
theorem TS.pre (h:TS F n d H0 X ε τ m a x) {Γ:FH} (hΓ:FHOK P main F Γ) {ops:Array Oper} {l1 l2:List Oper} {sl:SL} (hc:l1.mapM (compOp P ops)=some (sl.flat none)) (hw:sl.wf n=true) {K:Fr→List Res→Prop} (hk:sl.wp Γ false K τ m)
  {Q:Exit→Act→ι→OW→Prop} (hQ:∀ τ' m' ε' a' x',K τ' m'→TS F n d H0 X ε' τ' m' a' x'→(∀ i,i<m.length→ε'.blk i=ε.blk i)→wtList P main F S fn ops Q l2 a' s x'):wtList P main F S fn ops Q (l1++l2) a s x:=by
 obtain ⟨σ,h1,h2⟩:=h.s
 have k:=wp_ok sl τ σ m K (fun σ' m'=> ∃ τ',Rep n σ' τ'∧K τ' m') hw h1 hk (fun σ' τ' m' hr hq=>⟨τ',hr,hq⟩)
 exact sops_t hΓ.hook (ρ:= .at ε m x) (d:=d) l1 _ σ m _ hc k (fun σ' m' ε' a' x' ⟨τ',hr,hq⟩ hi' hs' hd'=>
  hQ τ' m' ε' a' x' hq ⟨hi'.goodO,⟨σ',hr,hs'⟩,hd',h.x.step h.g hi',fun b o hb=>hi'.inv.kept.H b o (h.h b o hb)⟩ fun i hi=>hi'.inv.blk i (by rw [show ((Root.at ε m x).base F x').ε.n=ε.n from rfl,h.g.good.n];exact hi)) ε a x h.inv h2 h.d
theorem TS.weak (h:TS F n d H0 X ε τ m a x) {τ':Fr} (hl:∀ k,Le (look k τ') (look k τ)):TS F n d H0 X ε τ' m a x:=⟨h.g,h.s.weak hl,h.d,h.x,h.h⟩
theorem TS.lessX (h:TS F n d H0 X ε τ m a x) {X':Nat→Option Obj} (hX:∀ b o,X' b=some o→X b=some o):TS F n d H0 X' ε τ m a x:=⟨h.g,h.s,h.d,fun b o hb=>h.x b o (hX b o hb),h.h⟩
theorem SlotsF.put {k:Nat} (h:SlotsF n ε τ a) (hk:k<n) {y:SV} {v:Value} (hv:SatV ε y v):SlotsF n ε (.put k y τ) (a.put (some k) v):=by
 obtain ⟨σ,h1,h2⟩:=h
 exact ⟨σ.set k y,h1.put hk (.refl y),h2.put hv (some k)⟩
theorem SlotsF.none (h:SlotsF n ε τ a) {v:Value}:SlotsF n ε τ (a.put none v):=h
theorem TS.put (h:TS F n d H0 X ε τ m a x) {k:Nat} (hk:k<n) {y:SV} {v:Value} (hv:SatV ε y v):TS F n d H0 X ε (.put k y τ) m (a.put (some k) v) x:=⟨h.g,h.s.put hk hv,h.d,h.x,h.h⟩
theorem TS.know (h:TS F n d H0 X ε τ m a x) {k:Nat} (hk:k<n) {y:SV} (hv:SatV ε y (a.tmps.getD k undef)):TS F n d H0 X ε (.put k y τ) m a x:=by
 refine ⟨h.g,?_,h.d,h.x,h.h⟩
 obtain ⟨σ,h1,h2⟩:=h.s
 refine ⟨σ.set k y,h1.put hk (.refl y),by simp [h2.1],fun j=> ?_⟩
 by_cases hj:j=k
 ·subst hj
  rw [getD_set_eq (by rw [h1.1];exact hk)]
  exact hv
 ·rw [getD_set_ne hj];exact h2.2 j
theorem GoodO.more (g:GoodO F ε m x) {O':Nat→Prop} (h1:∀ b,x.O b→O' b) (h2:∀ b,O' b→b<x.w.heap.size):GoodO F ε m ⟨x.w,O'⟩:=
 ⟨g.good,fun i b h=>h1 b (g.own i b h),fun b o h=>(g.H b o h).imp (h1 b) id,h2,g.Fl⟩
theorem TS.more (h:TS F n d H0 X ε τ m a x) {O':Nat→Prop} (h1:∀ b,x.O b→O' b) (h2:∀ b,O' b→b<x.w.heap.size):TS F n d H0 X ε τ m a ⟨x.w,O'⟩:=
 ⟨h.g.more h1 h2,h.s,h.d,fun b o hb=>by
  obtain ⟨k1,k2,k3,k4⟩:=h.x b o hb
  exact ⟨k1,h1 b k2,k3,k4⟩,h.h⟩
theorem TS.alloc (h:TS F n d H0 X ε τ m a x) (o:Obj):TS F n d H0 (fun b=>if b=x.w.heap.size then some o else X b) ε τ m a (OW.next x.O x.w (x.w.alloc o)):=by
 have hsz:(x.w.alloc o).heap.size=x.w.heap.size+1:=by simp
 have hr:Rel x.O F x.w (x.w.alloc o):=⟨rfl,rfl,rfl,by rw [hsz];omega,fun b hb=>Go.RowKit.Below.heap_alloc x.w o b (hb.elim (h.g.Ol b) (h.g.Fl b))⟩
 have h1:=(h.rely hr).more (O':=(OW.next x.O x.w (x.w.alloc o)).O) (fun b hb=> .inl hb) (fun b hb=>hb.elim (fun hb=>by have:=h.g.Ol b hb;simp only;rw [hsz];omega) fun hb=>hb.2)
 refine ⟨h1.g,h1.s,h1.d,fun b o' hb=> ?_,h.h⟩
 by_cases e:b=x.w.heap.size
 ·subst e
  rw [if_pos rfl] at hb
  cases hb
  refine ⟨heap_alloc_new x.w _, .inr ⟨Nat.le_refl _,by rw [hsz];omega⟩,?_,fun i hi=> ?_⟩
  ·cases hh:ε.H x.w.heap.size with
   |none=>rfl
   |some o'=>have:=H_lt h.g.good hh;omega
  ·have:=ownR_lt h.g.good hi;omega
 ·rw [if_neg e] at hb
  exact h1.x b o' hb
theorem TS.turn (h:TS F n d H0 X ε τ m a x) {r:Nat} {o o':Obj} (hX:X r=some o):TS F n d H0 (fun b=>if b=r then some o' else X b) ε τ m a ⟨{x.w with heap:=x.w.heap.setIfInBounds r o'},x.O⟩:=by
 obtain ⟨k1,k2,k3,k4⟩:=h.x r o hX
 have hlt:r<x.w.heap.size:=(Array.getElem?_eq_some_iff.1 k1).1
 have hne:∀ b,b≠r→({x.w with heap:=x.w.heap.setIfInBounds r o'}:World).heap[b]? =x.w.heap[b]? :=fun b hb=>Array.getElem?_setIfInBounds_ne (Ne.symm hb)
 refine ⟨⟨⟨h.g.good.n,fun i=>(h.g.good.res i).same fun b hb=>hne b fun e=>k4 i (e▸hb),h.g.good.disj,h.g.good.sep,fun b o hb=>by rw [hne b fun e=>by rw [e,k3] at hb;cases hb];exact h.g.good.hv b o hb,h.g.good.gl⟩,
  h.g.own,h.g.H,fun b hb=>by simpa using h.g.Ol b hb,fun b hb=>by simpa using h.g.Fl b hb⟩,h.s,h.d,fun b o1 hb=> ?_,h.h⟩
 by_cases e:b=r
 ·subst e
  rw [if_pos rfl] at hb
  cases hb
  exact ⟨by simp [hlt],k2,k3,k4⟩
 ·rw [if_neg e] at hb
  obtain ⟨j1,j2,j3,j4⟩:=h.x b o1 hb
  exact ⟨(hne b e).trans j1,j2,j3,j4⟩
theorem TS.take (h:TS F n d H0 X ε τ m a x) {r:Nat} {cs:List Value} {T:TypeId} (hX:X r=some (.cells cs.toArray T (0,0))) {c:SV} (hc:SatC c ε cs):
  TS F n d H0 (fun b=>if b=r then none else X b) (ε.more r undef) τ (m++[.blk T c]) a x:=by
 obtain ⟨k1,k2,k3,k4⟩:=h.x r _ hX
 have hn:=h.g.good.n
 have hle:=ε.le_more r undef
 have hown:∀ i,i<m.length→ownR (ε.more r undef) i (memAt (m++[.blk T c]) i)=ownR ε i (memAt m i):=by
  intro i hi
  rw [memAt_append_lt hi]
  have hi':i<ε.n:=by omega
  cases memAt m i<;>simp [ownR,Env.more,Nat.ne_of_lt hi']
 have hnew:ownR (ε.more r undef) m.length (memAt (m++[.blk T c]) m.length)=some r:=by
  rw [memAt_snoc];simp [ownR,Env.more,hn]
 have hcase:∀ i b,ownR (ε.more r undef) i (memAt (m++[.blk T c]) i)=some b→(i<m.length∧ownR ε i (memAt m i)=some b)∨(i=m.length∧b=r):=by
  intro i b hb
  rcases Nat.lt_trichotomy i m.length with hi|hi|hi
  ·rw [hown i hi] at hb;exact .inl ⟨hi,hb⟩
  ·subst hi;rw [hnew] at hb;exact .inr ⟨rfl,(Option.some.inj hb).symm⟩
  ·rw [memAt_ge (by simp;omega)] at hb;cases hb
 refine ⟨⟨⟨by simp [Env.more,hn],fun i=> ?_,fun i j b hij h1 h2=> ?_,fun i b hb=> ?_,h.g.good.hv,h.g.good.gl⟩,fun i b hb=> ?_,h.g.H,h.g.Ol,h.g.Fl⟩,h.s.env hle,h.d,fun b o hb=> ?_,h.h⟩
 ·rcases Nat.lt_trichotomy i m.length with hi|hi|hi
  ·have hr:=h.g.good.res i
   rw [memAt_append_lt hi]
   have hi':i<ε.n:=by omega
   cases hm:memAt m i with
   |dead=>trivial
   |blk T' c'=>
    rw [hm] at hr
    obtain ⟨cs',h1,h2⟩:=hr
    have hb:(ε.more r undef).blk i=ε.blk i:=by simp [Env.more,Nat.ne_of_lt hi']
    exact ⟨cs',by rw [hb];exact h1,h2.mono c' hle⟩
   |vec T' wd l=>
    rw [hm] at hr
    obtain ⟨xs,h1,h2⟩:=hr
    have hb:(ε.more r undef).vv i=ε.vv i:=by simp [Env.more,Nat.ne_of_lt hi']
    refine ⟨xs,?_,fun j hj=>(h2 j hj).mono _ hle⟩
    rw [hb];exact h1
   |mp ek ev l=>
    rw [hm] at hr
    obtain ⟨es,cl,h1,h2⟩:=hr
    have hb:(ε.more r undef).blk i=ε.blk i:=by simp [Env.more,Nat.ne_of_lt hi']
    exact ⟨es,cl,by rw [hb];exact h1,h2⟩
  ·subst hi
   rw [memAt_snoc]
   have:(ε.more r undef).blk m.length=r:=by simp [Env.more,hn]
   exact ⟨cs,by rw [this];exact k1,hc.mono c hle⟩
  ·rw [memAt_ge (by simp;omega)];trivial
 ·rcases hcase i b h1 with ⟨hi,h1'⟩|⟨hi,hb⟩<;>rcases hcase j b h2 with ⟨hj,h2'⟩|⟨hj,hb2⟩
  ·exact h.g.good.disj i j b hij h1' h2'
  ·exact k4 i (hb2▸h1')
  ·exact k4 j (hb▸h2')
  ·omega
 ·rcases hcase i b hb with ⟨_,h1⟩|⟨_,h1⟩
  ·exact h.g.good.sep i b h1
  ·subst h1;exact k3
 ·rcases hcase i b hb with ⟨_,h1⟩|⟨_,h1⟩
  ·exact h.g.own i b h1
  ·subst h1;exact k2
 ·by_cases e:b=r
  ·rw [if_pos e] at hb;cases hb
  ·rw [if_neg e] at hb
   obtain ⟨j1,j2,j3,j4⟩:=h.x b o hb
   refine ⟨j1,j2,j3,fun i hi=> ?_⟩
   rcases hcase i b hi with ⟨_,h1⟩|⟨_,h1⟩
   ·exact j4 i h1
   ·exact e h1
theorem more_blk {r:Nat} {v:Value} (g:Good ε m x.w):(ε.more r v).blk m.length=r:=by simp [Env.more,g.n]
theorem TS.aside (h:TS F n d H0 X ε τ m a x) {i:Nat} {T:TypeId} {c:SV} (hm:memAt m i= .blk T c):
  ∃ cs,SatC c ε cs∧TS F n d H0 (fun b=>if b=ε.blk i then some (.cells cs.toArray T (0,0)) else X b) ε τ (m.set i .dead) a x:=by
 have hi:i<m.length:=memAt_lt (by rw [hm];nofun)
 have hr:=h.g.good.res i
 rw [hm] at hr
 obtain ⟨cs,h1,h2⟩:=hr
 have hat:=memAt_set (m:=m) (.dead:Res) hi
 have hown:∀ j b,ownR ε j (memAt (m.set i .dead) j)=some b→j≠i∧ownR ε j (memAt m j)=some b:=by
  intro j b hb
  rw [hat] at hb
  split at hb
  ·cases hb
  ·rename_i e;exact ⟨e,hb⟩
 have hown0:ownR ε i (memAt m i)=some (ε.blk i):=by rw [hm];rfl
 refine ⟨cs,h2,⟨⟨by simp [h.g.good.n],fun j=> ?_,fun j k b hjk e1 e2=>h.g.good.disj j k b hjk (hown _ _ e1).2 (hown _ _ e2).2,fun j b hb=>h.g.good.sep j b (hown _ _ hb).2,h.g.good.hv,h.g.good.gl⟩,fun j b hb=>h.g.own j b (hown _ _ hb).2,h.g.H,h.g.Ol,h.g.Fl⟩,h.s,h.d,fun b o hb=> ?_,h.h⟩
 ·rw [hat]
  split
  ·trivial
  ·exact h.g.good.res j
 ·by_cases e:b=ε.blk i
  ·subst e
   rw [if_pos rfl] at hb
   cases hb
   refine ⟨h1,h.g.own i _ hown0,h.g.good.sep i _ hown0,fun j hj=> ?_⟩
   obtain ⟨e1,e2⟩:=hown j _ hj
   exact h.g.good.disj j i _ e1 e2 hown0
  ·rw [if_neg e] at hb
   obtain ⟨j1,j2,j3,j4⟩:=h.x b o hb
   exact ⟨j1,j2,j3,fun j hj=>j4 j (hown _ _ hj).2⟩
theorem TS.sel (h:TS F n d H0 X ε τ m a x) (is:List Nat) (hn:is.Nodup):TS F n d H0 X (selE is ε) (renF (selI is) τ) (selM is m) a x:=by
 have g:=h.inv.selO hn rfl
 refine ⟨g,?_,h.d,fun b o hb=> ?_,h.h⟩
 ·obtain ⟨σ,h1,h2⟩:=h.s
  refine ⟨renL (selI is) σ,⟨by rw [renL_length];exact h1.1,fun k=> ?_⟩,h2.ren (sel_ren _ ε)⟩
  rw [look_renF,renL_getD]
  rcases h1.2 k with e|⟨e1,e2⟩
  ·left;rw [e];rfl
  ·exact .inr ⟨e1,by rw [e2]⟩
 ·obtain ⟨j1,j2,j3,j4⟩:=h.x b o hb
  refine ⟨j1,j2,j3,fun j hj=> ?_⟩
  have hl:(selM is m).length=is.length:=by simp [selM]
  rcases Nat.lt_or_ge j is.length with h1|h1
  ·rw [selM_at h1,ownR_ren (ε:=ε) (ε':=selE is ε) (i:=is.getD j 0) rfl rfl] at hj
   exact j4 _ hj
  ·rw [memAt_ge (by omega)] at hj;cases hj
theorem TS.vec (h:TS F n d H0 X ε τ m a x) {T:TypeId} {w:Nat} {l:List SV} {v:Value} {xs:List Value} (ho:x.w.ownsRow 0 T w v l.length xs) (hl:∀ j,j<l.length→SatC (l.getD j .junk) ε (sub xs (j*w) w))
  (hb:∀ b,v.ownBlock=some b→x.O b∧ε.H b=none∧X b=none∧∀ i,ownR ε i (memAt m i)≠some b):
  TS F n d H0 X (ε.more 0 v) τ (m++[.vec T w l]) a x:=by
 have hn:=h.g.good.n
 have hle:=ε.le_more 0 v
 have hvv:(ε.more 0 v).vv m.length=v:=by simp [Env.more,hn]
 have hown:∀ i,i<m.length→ownR (ε.more 0 v) i (memAt (m++[.vec T w l]) i)=ownR ε i (memAt m i):=by
  intro i hi
  rw [memAt_append_lt hi]
  have hi':i<ε.n:=by omega
  cases memAt m i<;>simp [ownR,Env.more,Nat.ne_of_lt hi']
 have hcase:∀ i b,ownR (ε.more 0 v) i (memAt (m++[.vec T w l]) i)=some b→(i<m.length∧ownR ε i (memAt m i)=some b)∨(i=m.length∧v.ownBlock=some b):=by
  intro i b hb
  rcases Nat.lt_trichotomy i m.length with hi|hi|hi
  ·rw [hown i hi] at hb;exact .inl ⟨hi,hb⟩
  ·subst hi
   rw [memAt_snoc] at hb
   simp only [ownR,hvv] at hb
   exact .inr ⟨rfl,hb⟩
  ·rw [memAt_ge (by simp;omega)] at hb;cases hb
 refine ⟨⟨⟨by simp [Env.more,hn],fun i=> ?_,fun i j b hij h1 h2=> ?_,fun i b hb'=> ?_,h.g.good.hv,h.g.good.gl⟩,fun i b hb'=> ?_,h.g.H,h.g.Ol,h.g.Fl⟩,h.s.env hle,h.d,fun b o hb'=> ?_,h.h⟩
 ·rcases Nat.lt_trichotomy i m.length with hi|hi|hi
  ·have hr:=h.g.good.res i
   rw [memAt_append_lt hi]
   have hi':i<ε.n:=by omega
   cases hm:memAt m i with
   |dead=>trivial
   |blk T' c'=>
    rw [hm] at hr
    obtain ⟨cs',h1,h2⟩:=hr
    have e:(ε.more 0 v).blk i=ε.blk i:=by simp [Env.more,Nat.ne_of_lt hi']
    exact ⟨cs',by rw [e];exact h1,h2.mono c' hle⟩
   |vec T' wd l'=>
    rw [hm] at hr
    obtain ⟨xs',h1,h2⟩:=hr
    have e:(ε.more 0 v).vv i=ε.vv i:=by simp [Env.more,Nat.ne_of_lt hi']
    refine ⟨xs',?_,fun j hj=>(h2 j hj).mono _ hle⟩
    rw [e];exact h1
   |mp ek ev l'=>
    rw [hm] at hr
    obtain ⟨es,cl,h1,h2⟩:=hr
    have e:(ε.more 0 v).blk i=ε.blk i:=by simp [Env.more,Nat.ne_of_lt hi']
    exact ⟨es,cl,by rw [e];exact h1,h2⟩
  ·subst hi
   rw [memAt_snoc]
   exact ⟨xs,by rw [hvv];exact .of ho,fun j hj=>(hl j hj).mono _ hle⟩
  ·rw [memAt_ge (by simp;omega)];trivial
 ·rcases hcase i b h1 with ⟨hi,h1'⟩|⟨hi,hb1⟩<;>rcases hcase j b h2 with ⟨hj,h2'⟩|⟨hj,hb2⟩
  ·exact h.g.good.disj i j b hij h1' h2'
  ·exact (hb b hb2).2.2.2 i h1'
  ·exact (hb b hb1).2.2.2 j h2'
  ·omega
 ·rcases hcase i b hb' with ⟨_,h1⟩|⟨_,h1⟩
  ·exact h.g.good.sep i b h1
  ·exact (hb b h1).2.1
 ·rcases hcase i b hb' with ⟨_,h1⟩|⟨_,h1⟩
  ·exact h.g.own i b h1
  ·exact (hb b h1).1
 ·obtain ⟨j1,j2,j3,j4⟩:=h.x b o hb'
  refine ⟨j1,j2,j3,fun i hi=> ?_⟩
  rcases hcase i b hi with ⟨_,h1⟩|⟨_,h1⟩
  ·exact j4 i h1
  ·rw [(hb b h1).2.2.1] at hb';cases hb'
end
end Go.Sx
