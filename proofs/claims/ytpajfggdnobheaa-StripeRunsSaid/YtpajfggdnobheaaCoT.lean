/- A part of the proof of StripeRuns. Conditions: none. -/
import Derived.Test.YtpajfggdnobheaaCo1
import Derived.Conc.Know
import Derived.Test.YtpajfggdnobheaaSx10
set_option linter.unusedVariables false
set_option linter.unusedSimpArgs false
namespace Go.Sx
open Go Go.Conc
structure TI (F:Nat→Prop) (C:Nat→Prop) (O:Nat→Nat→Prop) (n:Nat) (t:Trace):Prop where
 wordless:Wordless t
 race:∀ said,¬ Race said t
 touch:∀ k a,touchAt t k=some a→∃ b,Loc.bk a.loc=some b∧b<n∧((F b∧a.write=false)∨(C b∧a.kind= .atomic)∨(¬ F b∧¬ C b∧∀ i,O i b→Knows t i k))
structure Apart (F:Nat→Prop) (C:Nat→Prop) (O:Nat→Nat→Prop) (n:Nat):Prop where
 Fl:∀ b,F b→b<n
 Cl:∀ b,C b→b<n∧¬ F b
 Ol:∀ i b,O i b→b<n∧¬ F b∧¬ C b
 two:∀ i j b,O i b→O j b→i=j
def growO (O:Nat→Nat→Prop) (i n n':Nat):Nat→Nat→Prop:=fun j b=>O j b∨(j=i∧n≤b∧b<n')
theorem growO_at (O:Nat→Nat→Prop) (i:Nat) (w w':World):growO O i w.heap.size w'.heap.size i=(OW.next (O i) w w').O:=by
 funext b
 simp [growO,OW.next]
theorem growO_ne (O:Nat→Nat→Prop) {i j n n':Nat} (h:j≠i):growO O i n n' j=O j:=by
 funext b
 simp [growO,h]
section
variable {F C:Nat→Prop} {O:Nat→Nat→Prop} {n n':Nat} {t:Trace}
theorem Apart.grow (h:Apart F C O n) {i:Nat} (hn:n≤n'):Apart F C (growO O i n n') n':=by
 refine ⟨fun b hb=>Nat.lt_of_lt_of_le (h.Fl b hb) hn,fun b hb=>⟨Nat.lt_of_lt_of_le (h.Cl b hb).1 hn,(h.Cl b hb).2⟩,fun j b hb=> ?_,fun j k b h1 h2=> ?_⟩
 ·rcases hb with hb|⟨_,h1,h2⟩
  ·exact ⟨Nat.lt_of_lt_of_le (h.Ol j b hb).1 hn,(h.Ol j b hb).2⟩
  ·exact ⟨h2,fun hf=>by have:=h.Fl b hf;omega,fun hc=>by have:=(h.Cl b hc).1;omega⟩
 ·rcases h1 with h1|⟨rfl,h1,_⟩<;>rcases h2 with h2|⟨rfl,h2,_⟩
  ·exact h.two j k b h1 h2
  ·have:=(h.Ol _ b h1).1;omega
  ·have:=(h.Ol _ b h2).1;omega
  ·rfl
theorem touch_ofEvent {e:Event} {b:Nat} (hs:e.sync=false) (hb:Loc.bk e.loc=some b):(MemAct.ofEvent e).touch? =some ⟨e.loc,e.write, .plain⟩:=by
 obtain ⟨loc,wr,sy⟩:=e
 simp only at hs hb
 subst hs
 cases loc<;>simp only [Loc.bk] at hb<;>first|(cases hb;done)|rfl|(cases wr<;>rfl)
theorem TI.step (h:TI F C O n t) (ha:Apart F C O n) {i:Nat} (hn:n≤n') {fn:FuncId} {pos:String} {es:Array Event} (he:∀ e∈es,EvOK (O i) F n n' e):TI F C (growO O i n n') n' (t++MemOp.ofEvents i fn pos es):=by
 have hg:∀ op∈MemOp.ofEvents i fn pos es,op.g=i∧∃ e∈es,op.act= .ofEvent e:=by
  intro op hop
  rw [ofEvents_eq] at hop
  obtain ⟨e,he,rfl⟩:=Array.mem_map.1 hop
  exact ⟨rfl,e,he,rfl⟩
 have hnew:∀ op∈MemOp.ofEvents i fn pos es,∀ b,op.act.touch? =some b→∃ c,Loc.bk b.loc=some c∧c<n'∧b.kind= .plain∧(O i c∨n≤c∨(F c∧b.write=false)):=by
  intro op hop b hb
  obtain ⟨_,e,hm,h2⟩:=hg op hop
  rw [h2] at hb
  rcases he e hm with ⟨h3,h4⟩|⟨mk,rfl,hk⟩
  ·cases hl:e.loc<;>rw [hl] at h4<;>simp only at h4
   all_goals
    rw [touch_ofEvent h3 (by rw [hl];rfl)] at hb
    cases hb
    exact ⟨_,by rw [hl];rfl,h4.1,rfl,h4.2⟩
  ·have:(MemAct.ofEvent ⟨.mark mk,false,true⟩).touch? =none:=hk.touch
   rw [this] at hb;cases hb
 refine ⟨h.wordless.append fun op hop m hm=> ?_,fun said=>noRace_append (h.race said) (fun op hop=>(hg op hop).1) fun k a hk op hop b hb hc=> ?_,fun k a hk=> ?_⟩
 ·obtain ⟨_,e,he',h2⟩:=hg op hop
  rw [h2] at hm
  rcases he e he' with ⟨h3,h4⟩|⟨mk,rfl,hk⟩
  ·cases hl:e.loc<;>rw [hl] at h4<;>simp only at h4
   all_goals
    obtain ⟨loc,wr,sy⟩:=e
    simp only at h3 hl
    subst h3 hl
    cases wr<;>cases hm
  ·cases hm;exact hk
 ·obtain ⟨c,h1,h2,h3,h4⟩:=hnew op hop b hb
  obtain ⟨c',g1,g2,g3⟩:=h.touch k a hk
  obtain ⟨e1,_,e2,e3⟩:=hc
  rw [e1,h1] at g1
  cases g1
  rcases h4 with h4|h4|⟨h4,h5⟩
  ·obtain ⟨_,k1,k2⟩:=ha.Ol i c h4
   rcases g3 with ⟨g3,_⟩|⟨g3,_⟩|⟨_,_,g3⟩
   ·exact absurd g3 k1
   ·exact absurd g3 k2
   ·exact g3 i h4
  ·omega
  ·rcases g3 with ⟨g3,g4⟩|⟨g3,_⟩|⟨g3,_⟩
   ·rw [g4,h5] at e2;rcases e2 with e2|e2<;>cases e2
   ·exact absurd h4 (ha.Cl c g3).2
   ·exact absurd h4 g3
 ·obtain ⟨x,hx,hxa⟩:=touch_of hk
  rcases getElem?_append_cases hx with ⟨hi,hx'⟩|⟨hi,hxu⟩
  ·obtain ⟨b,g1,g2,g3⟩:=h.touch k a (by rw [touchAt_of hx'];exact hxa)
   refine ⟨b,g1,Nat.lt_of_lt_of_le g2 hn,g3.imp id fun g3=>g3.imp id fun ⟨g4,g5,g6⟩=>⟨g4,g5,fun j hj=> ?_⟩⟩
   rcases hj with hj|⟨_,hj,_⟩
   ·exact (g6 j hj).app _
   ·omega
  ·obtain ⟨c,h1,h2,h3,h4⟩:=hnew x hxu a hxa
   have hown:Knows (t++MemOp.ofEvents i fn pos es) i k:=by
    have:=knows_own hx
    rwa [(hg x hxu).1] at this
   refine ⟨c,h1,h2,?_⟩
   have hag:=ha.grow (i:=i) hn
   rcases h4 with h4|h4|⟨h4,h5⟩
   ·exact .inr (.inr ⟨(ha.Ol i c h4).2.1,(ha.Ol i c h4).2.2,fun j hj=>(hag.two j i c hj (.inl h4))▸hown⟩)
   ·have hO:growO O i n n' i c:= .inr ⟨rfl,h4,h2⟩
    exact .inr (.inr ⟨(hag.Ol i c hO).2.1,(hag.Ol i c hO).2.2,fun j hj=>(hag.two j i c hj hO)▸hown⟩)
   ·exact .inl ⟨h4,h5⟩
theorem TI.quiet (h:TI F C O n t) {u:Trace} (hw:Wordless u) (hu:∀ op∈u,op.act.touch? =none):TI F C O n (t++u):=by
 refine ⟨h.wordless.append hw,fun said=> ?_,fun k a hk=> ?_⟩
 ·rintro ⟨i,j,hij,⟨a,b,ha,hb,hc⟩,n1,n2⟩
  obtain ⟨x,hx,hxa⟩:=touch_of ha
  obtain ⟨y,hy,hyb⟩:=touch_of hb
  rcases getElem?_append_cases hy with ⟨hj,hy'⟩|⟨_,hyu⟩
  ·have hi:i<t.size:=Nat.lt_trans hij hj
   have hx':t[i]? =some x:=by rw [← getElem?_append_old (u:=u) hi];exact hx
   exact h.race said ⟨i,j,hij,⟨a,b,by simp [Trace.act?,hx',hxa],by simp [Trace.act?,hy',hyb],hc⟩,fun e=>n1 (hb_app u e),fun e=>n2 (hb_app u e)⟩
  ·rw [hu y hyu] at hyb;cases hyb
 ·obtain ⟨x,hx,hxa⟩:=touch_of hk
  rcases getElem?_append_cases hx with ⟨hi,hx'⟩|⟨_,hxu⟩
  ·obtain ⟨b,g1,g2,g3⟩:=h.touch k a (by rw [touchAt_of hx'];exact hxa)
   exact ⟨b,g1,g2,g3.imp id fun g3=>g3.imp id fun ⟨g4,g5,g6⟩=>⟨g4,g5,fun j hj=>(g6 j hj).app _⟩⟩
  ·rw [hu x hxu] at hxa;cases hxa
theorem TI.sync (h:TI F C O n t) (ha:Apart F C O n) {i:Nat} {u:Trace} (hw:Wordless u) (hg:∀ op∈u,op.g=i) (hu:∀ op∈u,∀ a,op.act.touch? =some a→∃ b,Loc.bk a.loc=some b∧C b∧a.kind= .atomic):TI F C O n (t++u):=by
 refine ⟨h.wordless.append hw,fun said=>noRace_append (h.race said) hg fun k a hk op hop b hb hc=> ?_,fun k a hk=> ?_⟩
 ·exfalso
  obtain ⟨c,h1,h2,h3⟩:=hu op hop b hb
  obtain ⟨c',g1,g2,g3⟩:=h.touch k a hk
  obtain ⟨e1,_,e2,e3⟩:=hc
  rw [e1,h1] at g1
  cases g1
  rcases g3 with ⟨g3,_⟩|⟨_,g3⟩|⟨_,g3,_⟩
  ·exact (ha.Cl c h2).2 g3
  ·rw [g3,h3] at e3
   rcases e3 with e3|e3|⟨_,e3,_⟩<;>cases e3
  ·exact g3 h2
 ·obtain ⟨x,hx,hxa⟩:=touch_of hk
  rcases getElem?_append_cases hx with ⟨hi,hx'⟩|⟨_,hxu⟩
  ·obtain ⟨b,g1,g2,g3⟩:=h.touch k a (by rw [touchAt_of hx'];exact hxa)
   exact ⟨b,g1,g2,g3.imp id fun g3=>g3.imp id fun ⟨g4,g5,g6⟩=>⟨g4,g5,fun j hj=>(g6 j hj).app _⟩⟩
  ·obtain ⟨c,h1,h2,h3⟩:=hu x hxu a hxa
   exact ⟨c,h1,(ha.Cl c h2).1, .inr (.inl ⟨h2,h3⟩)⟩
theorem TI.chan (h:TI F C O n t):TI F (fun b=>C b∨b=n) O (n+1) t:=
 ⟨h.wordless,h.race,fun k a hk=>by
  obtain ⟨b,g1,g2,g3⟩:=h.touch k a hk
  exact ⟨b,g1,by omega,g3.imp id fun g3=>g3.imp (fun g=>⟨.inl g.1,g.2⟩) fun ⟨g4,g5,g6⟩=>⟨g4,fun hc=>hc.elim g5 fun e=>by omega,g6⟩⟩⟩
theorem Apart.mk1 (h:Apart F C O n):Apart F (fun b=>C b∨b=n) O (n+1):=
 ⟨fun b hb=>by have:=h.Fl b hb;omega,fun b hb=>hb.elim (fun hb=>⟨by have:=(h.Cl b hb).1;omega,(h.Cl b hb).2⟩) fun e=>⟨by omega,fun hf=>by have:=h.Fl b hf;omega⟩,
  fun i b hb=>⟨by have:=(h.Ol i b hb).1;omega,(h.Ol i b hb).2.1,fun hc=>hc.elim (h.Ol i b hb).2.2 fun e=>by have:=(h.Ol i b hb).1;omega⟩,h.two⟩
theorem TI.give (h:TI F C O n t) {O':Nat→Nat→Prop} (hO:∀ i b,O' i b→O i b∨∀ k a,touchAt t k=some a→Loc.bk a.loc=some b→Knows t i k):TI F C O' n t:=
 ⟨h.wordless,h.race,fun k a hk=>by
  obtain ⟨b,g1,g2,g3⟩:=h.touch k a hk
  exact ⟨b,g1,g2,g3.imp id fun g3=>g3.imp id fun ⟨g4,g5,g6⟩=>⟨g4,g5,fun j hj=>(hO j b hj).elim (g6 j) fun g=>g k a hk g1⟩⟩⟩
theorem knows_over {u:Trace} {i j c k p r q:Nat} {x y:MemOp} (hw:Wordless (t++u)) (hp:t.size≤p) (hx:(t++u)[p]? =some x) (hxg:x.g=i) (hxa:x.act= .send c k) (hy:(t++u)[r]? =some y) (hyg:y.g=j) (hya:y.act= .recvDone c k) (h:Knows t i q):Knows (t++u) j q:=by
 have h1:=h.hb_new hp hx hxg
 have h2:HappensBefore (t++u) p r:= .single (.inr ⟨.handOver (c:=c) (k:=k) (by rw [act?_of hx,hxa]) (by rw [act?_of hy,hya]),hw.heard hx,hw.heard hy⟩)
 exact ⟨r,y,hy,hyg, .inr (h1.trans h2)⟩
end
end Go.Sx
