/- A part of the proof of StripeRuns. Conditions: none. -/
import Derived.Test.YtpajfggdnobheaaCoS
set_option linter.unusedVariables false
set_option linter.unusedSimpArgs false
section
namespace Go.Sx
open Go Go.Conc
def Runs (n:Node) (g:Goroutine):Prop:= ∃ o,g= {n.g with status:= .running,offers:=o}
theorem Runs.status {n:Node} {g:Goroutine} (h:Runs n g):g.status= .running:=by
 obtain ⟨o,rfl⟩:=h;rfl
theorem Runs.stepG {P:Program} {n:Node} {g:Goroutine} (h:Runs n g) (main:Bool) (w:World):stepG P main g w=Go.stepG P main n.g w:=by
 obtain ⟨o,rfl⟩:=h;exact stepG_same rfl rfl rfl w
theorem Runs.frame {n:Node} {g:Goroutine} (h:Runs n g):g.frame=n.g.frame:=by
 obtain ⟨o,rfl⟩:=h;rfl
theorem Runs.self {n:Node} (h:n.g.status= .running):Runs n n.g:=⟨n.g.offers,by
 obtain ⟨m,S,g,x⟩:=n
 obtain ⟨f,c,s,d,o⟩:=g
 simp only at h
 subst h
 rfl⟩
structure Core (P:Program) (F C:Nat→Prop) (O:Nat→Nat→Prop) (nodes:List Node) (gs:Array Goroutine) (w:World) (t:Trace):Prop where
 ap:Apart F C O w.heap.size
 ti:TI F C O w.heap.size t
 op:∀ op∈t,op.g<gs.size
 sz:nodes.length=gs.size
 new:∀ i b,O i b→i<gs.size
 nd:∀ i n,nodes[i]? =some n→n.main=(i==0)∧n.x.O=O i∧Rel (O i) F n.x.w w∧n.walks P F
section
variable {P:Program} {F C:Nat→Prop} {O:Nat→Nat→Prop} {nodes:List Node} {gs:Array Goroutine} {w:World} {t:Trace} {sl:Option (Nat×Nat)}
theorem Rel.at (O F:Nat→Prop) (w:World) (d:Nat):Rel O F w (w.at d):=⟨rfl,rfl,rfl,Nat.le_refl _,fun _ _=>rfl⟩
theorem Core.at (h:Core P F C O nodes gs w t) (d:Nat):Core P F C O nodes gs (w.at d) t:=
 ⟨h.ap,h.ti,h.op,h.sz,h.new,fun i n hn=>by
  obtain ⟨h1,h2,h3,h4⟩:=h.nd i n hn
  exact ⟨h1,h2,h3.trans (Rel.at _ _ _ _),h4⟩⟩
theorem Core.own (h:Core P F C O nodes gs w t) {i:Nat} {n:Node} {g:Goroutine} (hn:nodes[i]? =some n) (hg:gs[i]? =some g) (hr:Runs n g) (hst:¬ n.stopped F):
  ∃ g' w' es n',runT P (crowd gs w sl) i=(.next (crowd ((gs.map (woken P g g' w')).setIfInBounds i g') w' sl),MemOp.ofEvents i g.frame.fn g.frame.place es)∧n'.g=g'∧n'.S=n.S∧Child P F n' n∧
   (∀ b,C b→w'.heap[b]? =w.heap[b]?)∧w.heap.size≤w'.heap.size∧
   Core P F C (growO O i w.heap.size w'.heap.size) (nodes.set i n') ((gs.map (woken P g g' w')).setIfInBounds i g') w' (t++MemOp.ofEvents i g.frame.fn g.frame.place es):=by
 obtain ⟨hm,hO,hrel,hw⟩:=h.nd i n hn
 have hil:i<nodes.length:=(List.getElem?_eq_some_iff.1 hn).1
 have hig:i<gs.size:=by rw [← h.sz];exact hil
 rcases hw.next (w1:=w) (hO▸hrel) with hs|⟨g',w',es,hrun,hstep,hgua,hwalk,hch⟩
 ·exact absurd hs hst
 rw [hO] at hgua hwalk hch
 rw [hm] at hstep hwalk hch
 have hstep':stepG P (i==0) g w= .go g' w' es:=by rw [hr.stepG];exact hstep
 refine ⟨g',w',es,⟨i==0,n.S,g',OW.next (O i) w w'⟩,runT_crowd_go hg hstep',rfl,rfl,hch,fun b hb=>hgua.heap b (h.ap.Cl b hb).1 fun ho=>(h.ap.Ol i b ho).2.2 hb,hgua.size,?_⟩
 refine ⟨h.ap.grow hgua.size,h.ti.step h.ap hgua.size hgua.evs,fun op hop=> ?_,by simp [h.sz],fun j b hb=> ?_,fun j n' hj=> ?_⟩
 ·simp only [Array.size_setIfInBounds,Array.size_map]
  rcases Array.mem_append.1 hop with hop|hop
  ·exact h.op op hop
  ·rw [ofEvents_eq] at hop
   obtain ⟨e,_,rfl⟩:=Array.mem_map.1 hop
   exact hig
 ·simp only [Array.size_setIfInBounds,Array.size_map]
  rcases hb with hb|⟨rfl,_⟩
  ·exact h.new j b hb
  ·exact hig
 ·rw [List.getElem?_set] at hj
  by_cases hij:i=j
  ·subst hij
   rw [if_pos rfl,if_pos hil] at hj
   cases hj
   refine ⟨rfl,(growO_at O i w w').symm,?_,hwalk⟩
   rw [growO_at]
   exact Rel.refl _ _ _
  ·rw [if_neg hij] at hj
   obtain ⟨k1,k2,k3,k4⟩:=h.nd j n' hj
   rw [growO_ne O (Ne.symm hij)]
   refine ⟨k1,k2,k3.trans ⟨hgua.os,hgua.tape,hgua.output,hgua.size,fun b hb=> ?_⟩,k4⟩
   rcases hb with hb|hb
   ·exact hgua.heap b (h.ap.Ol j b hb).1 fun ho=>hij (h.ap.two i j b ho hb)
   ·exact hgua.heap b (h.ap.Fl b hb) fun ho=>(h.ap.Ol i b ho).2.1 hb
theorem Core.stand (h:Core P F C O nodes gs w t) {gs':Array Goroutine} (hs:gs'.size=gs.size):Core P F C O nodes gs' w t:=
 ⟨h.ap,h.ti,by rw [hs];exact h.op,by rw [hs];exact h.sz,by rw [hs];exact h.new,h.nd⟩
structure Turns (C:Nat→Prop) (w w':World):Prop where
 os:w'.os=w.os
 tape:w'.tape=w.tape
 output:w'.output=w.output
 size:w'.heap.size=w.heap.size
 heap:∀ b,¬ C b→w'.heap[b]? =w.heap[b]?
theorem Turns.refl (C:Nat→Prop) (w:World):Turns C w w:=⟨rfl,rfl,rfl,rfl,fun _ _=>rfl⟩
theorem Turns.at {w':World} (h:Turns C w w') (d:Nat):Turns C w (w'.at d):=⟨h.os,h.tape,h.output,h.size,h.heap⟩
theorem Turns.set (w:World) {c:Nat} (hc:C c) (cap:Nat) (buf:Array Value) (cl:Bool) (s r:Nat) (tm:Bool):Turns C w (w.setChan c cap buf cl s r tm):=
 ⟨rfl,rfl,rfl,by simp [World.setChan],fun b hb=>by
  have:c≠b:=fun e=>hb (e▸hc)
  simp [World.setChan,Array.getElem?_setIfInBounds_ne this]⟩
theorem Turns.rel {w':World} (h:Turns C w w') (ap:Apart F C O w.heap.size) (i:Nat):Rel (O i) F w w':=
 ⟨h.os,h.tape,h.output,by rw [h.size];exact Nat.le_refl _,fun b hb=>h.heap b fun hc=>hb.elim (fun hb=>(ap.Ol i b hb).2.2 hc) fun hb=>(ap.Cl b hc).2 hb⟩
theorem Core.talk (h:Core P F C O nodes gs w t) {O':Nat→Nat→Prop} {w':World} (hw:Turns C w w') {gs':Array Goroutine} (hs:gs'.size=gs.size) {u:Trace} (hu:TI F C O w.heap.size (t++u)) (hug:∀ op∈u,op.g<gs.size)
  (hO:∀ i b,O' i b→O i b∨∀ k a,touchAt (t++u) k=some a→Loc.bk a.loc=some b→Knows (t++u) i k) (ap:Apart F C O' w.heap.size) (hnew:∀ i b,O' i b→i<gs.size) {nodes':List Node} (hsz:nodes'.length=nodes.length)
  (hn:∀ i n,nodes'[i]? =some n→(nodes[i]? =some n∧O' i=O i)∨(n.main=(i==0)∧n.x.O=O' i∧Rel (O' i) F n.x.w w'∧n.walks P F)):Core P F C O' nodes' gs' w' (t++u):=by
 refine ⟨by rw [hw.size];exact ap,by rw [hw.size];exact hu.give hO,fun op hop=> ?_,by rw [hsz,hs];exact h.sz,by rw [hs];exact hnew,fun i n hi=> ?_⟩
 ·rw [hs]
  exact (Array.mem_append.1 hop).elim (h.op op) (hug op)
 ·rcases hn i n hi with ⟨h1,h2⟩|h1
  ·obtain ⟨k1,k2,k3,k4⟩:=h.nd i n h1
   rw [h2]
   exact ⟨k1,k2,k3.trans (hw.rel h.ap i),k4⟩
  ·exact h1
theorem Core.chan (h:Core P F C O nodes gs w t) (o:Obj) {gs':Array Goroutine} (hs:gs'.size=gs.size) {i:Nat} {n':Node} (h1:n'.main=(i==0)) (h2:n'.x.O=O i) (h3:Rel (O i) F n'.x.w (w.alloc o)) (h4:n'.walks P F):
  Core P F (fun b=>C b∨b=w.heap.size) O (nodes.set i n') gs' (w.alloc o) t:=by
 have hsz:(w.alloc o).heap.size=w.heap.size+1:=by simp
 have hr:∀ j,Rel (O j) F w (w.alloc o):=fun j=>⟨rfl,rfl,rfl,by rw [hsz];omega,fun b hb=>Go.RowKit.Below.heap_alloc w o b (hb.elim (fun hb=>(h.ap.Ol j b hb).1) (h.ap.Fl b))⟩
 refine ⟨by rw [hsz];exact h.ap.mk1,by rw [hsz];exact h.ti.chan,by rw [hs];exact h.op,by rw [hs,List.length_set];exact h.sz,by rw [hs];exact h.new,fun j n hj=> ?_⟩
 rw [List.getElem?_set] at hj
 by_cases hij:i=j
 ·subst hij
  rw [if_pos rfl] at hj
  split at hj
  ·cases hj;exact ⟨h1,h2,h3,h4⟩
  ·cases hj
 ·rw [if_neg hij] at hj
  obtain ⟨k1,k2,k3,k4⟩:=h.nd j n hj
  exact ⟨k1,k2,k3.trans (hr j),k4⟩
theorem Core.born (h:Core P F C O nodes gs w t) {gs':Array Goroutine} (hs:gs'.size=gs.size+1) (h0:0<gs.size) {n' nc:Node} (h1:n'.main=true) (h2:n'.x.O=O 0) (h3:Rel (O 0) F n'.x.w w) (h4:n'.walks P F)
  (c1:nc.main=false) (c2:nc.x.O=fun _=>False) (c3:Rel (fun _=>False) F nc.x.w w) (c4:nc.walks P F) {u:Trace} (hw:Wordless u) (hu:∀ op∈u,op.act.touch? =none) (hg:∀ op∈u,op.g<gs.size+1):
  Core P F C O (nodes.set 0 n'++[nc]) gs' w (t++u):=by
 have hO:O gs.size=fun _=>False:=by
  funext b
  exact propext ⟨fun hb=>by have:=h.new _ b hb;omega,False.elim⟩
 refine ⟨h.ap,h.ti.quiet hw hu,fun op hop=> ?_,by simp [hs,h.sz],fun i b hb=>by rw [hs];have:=h.new i b hb;omega,fun i n hi=> ?_⟩
 ·rw [hs]
  rcases Array.mem_append.1 hop with hop|hop
  ·have:=h.op op hop;omega
  ·exact hg op hop
 ·rcases Nat.lt_or_ge i nodes.length with hil|hil
  ·rw [List.getElem?_append_left (by simpa using hil),List.getElem?_set] at hi
   by_cases e:0=i
   ·subst e
    rw [if_pos rfl,if_pos hil] at hi
    cases hi
    exact ⟨h1,h2,h3,h4⟩
   ·rw [if_neg e] at hi
    exact h.nd i n hi
  ·rw [List.getElem?_append_right (by simpa using hil)] at hi
   have hi0:i=nodes.length:=by
    rw [List.length_set] at hi
    have:=(List.getElem?_eq_some_iff.1 hi).1
    simp at this
    omega
   subst hi0
   simp only [List.length_set,Nat.sub_self,List.getElem?_cons_zero,Option.some.injEq] at hi
   subst hi
   rw [h.sz,hO]
   have:(gs.size==0)=false:=beq_eq_false_iff_ne.2 (by omega)
   exact ⟨by rw [c1,this],c2,c3,c4⟩
end
end Go.Sx
end
section
namespace Go.Sx
open Go Go.Conc
def fut (j:Nat):List MAct→List Value
 |[]=>[]
 | .send i v::r=>if i=j then v::fut j r else fut j r
 |_::r=>fut j r
def WF (Φ:Fan) (cap:Nat):Nat→Nat→Nat→List MAct→Prop
 |c,k,r,[]=>k=Φ.n∧r=Φ.n
 |c,k,r, .mk cap'::l=>((c=0∧cap'=0)∨(c=k+1∧cap'=cap))∧WF Φ cap (c+1) k r l
 |c,k,r, .go j::l=>(j=k∧c=k+2∧k<Φ.n∧MAct.close j∈l∧fut j l=Φ.msgs j∧(Φ.msgs j).length≤cap)∧WF Φ cap c (k+1) r l
 |c,k,r, .send j v::l=>(j<k∧MAct.close j∈l)∧WF Φ cap c k r l
 |c,k,r, .close j::l=>(j<k∧MAct.close j∉l∧fut j l=[])∧WF Φ cap c k r l
 |c,k,r, .recv::l=>(k=Φ.n∧r<Φ.n∧∀ j,MAct.close j∉l)∧WF Φ cap c k (r+1) l
inductive HSt where
 |hears (l:List Value)
 |tells
 |gone (q:Nat)
def wtA (Φ:Fan):List MAct→Nat
 |[]=>0
 | .go j::l=>4+(Φ.msgs j).length+wtA Φ l
 |_::l=>1+wtA Φ l
def HSt.wt:HSt→Nat
 | .hears l=>l.length+2
 | .tells=>1
 | .gone _=>0
def HSt.q:HSt→Nat
 | .gone q=>q
 |_=>0
def ParkR (P:Program) (F:Nat→Prop) (c:Nat) (n:Node) (g:Goroutine):Prop:=
 n.stopped F∧n.g.status= .running∧∃ z sh,g=parked n.g #[rcase c z] sh∧∀ w,stepG P n.main n.g w= .comm n.g #[rcase c z] true sh w #[]
def ParkS (P:Program) (F:Nat→Prop) (c:Nat) (v:Value) (n:Node) (g:Goroutine):Prop:=
 n.stopped F∧n.g.status= .running∧∃ z sh,g=parked n.g #[scase c v z] sh∧∀ w,stepG P n.main n.g w= .comm n.g #[scase c v z] true sh w #[]
structure FSt where
 acts:List MAct
 cs:List Nat
 got:List Nat
 hs:List HSt
 O:Nat→Nat→Prop
 nodes:List Node
section
variable (P:Program) (F:Nat→Prop) (Φ:Fan) (cap:Nat) (End:List Nat→Goroutine→OW→Prop)
structure MainOK (s:FSt) (n:Node) (g:Goroutine):Prop where
 ses:n.S=MainStop P F Φ End s.acts s.cs s.got
 st:Runs n g∨(∃ l c,s.acts= .recv::l∧s.cs[0]? =some c∧ParkR P F c n g)
def HandOK (s:FSt) (w:World) (t:Trace) (j:Nat) (n:Node) (g:Goroutine):Prop:=
 ∃ cin cout buf cl sn rc,s.cs[j+1]? =some cin∧s.cs[0]? =some cout∧w.heap[cin]? =some (.chan cap buf cl sn rc false)∧(cl=true↔MAct.close j∉s.acts)∧
  match s.hs[j]? with
  |some (.hears l)=>l=buf.toList++fut j s.acts∧l.length≤cap∧n.S=HandStop P F Φ cin cout j l∧(Runs n g∨(buf= #[]∧cl=false∧ParkR P F cin n g))
  |some .tells=>cl=true∧n.S=OutStop P Φ cout j∧(Runs n g∨∃ v,ParkS P F cout v n g)
  |some (.gone q)=>cl=true∧QuitsIn P q g∧∀ k op,t[k]? =some op→op.g=j+1→op.act.touch? ≠none→Knows t 0 k
  |none=>False
structure FM (s:FSt) (gs:Array Goroutine) (w:World) (t:Trace):Prop where
 core:Core P F (fun b=>b∈s.cs) s.O s.nodes gs w t
 nd:s.cs.Nodup
 wf:WF Φ cap s.cs.length s.hs.length s.got.length s.acts
 size:gs.size=s.hs.length+1
 back:∀ c,s.cs[0]? =some c→∃ sn,w.heap[c]? =some (.chan 0 #[] false sn sn false)
 next:∀ c,s.cs[s.hs.length+1]? =some c→w.heap[c]? =some (.chan cap #[] false 0 0 false)
 main:∀ n g,s.nodes[0]? =some n→gs[0]? =some g→MainOK P F Φ End s n g
 hand:∀ j n g,s.nodes[j+1]? =some n→gs[j+1]? =some g→HandOK P F Φ cap s w t j n g
 got:s.got.Nodup∧∀ j,j∈s.got↔∃ q,s.hs[j]? =some (.gone q)
 one:∀ c n g,s.cs[0]? =some c→s.nodes[0]? =some n→gs[0]? =some g→ParkR P F c n g→∀ j n' g' v,s.nodes[j+1]? =some n'→gs[j+1]? =some g'→¬ ParkS P F c v n' g'
end
section
variable {P:Program} {F:Nat→Prop} {Φ:Fan} {cap:Nat} {End:List Nat→Goroutine→OW→Prop} {s:FSt} {gs:Array Goroutine} {w:World} {t:Trace}
theorem FM.at (h:FM P F Φ cap End s gs w t) (d:Nat):FM P F Φ cap End s gs (w.at d) t:=
 ⟨h.core.at d,h.nd,h.wf,h.size,h.back,h.next,h.main,h.hand,h.got,h.one⟩
theorem ParkR.blocked {c:Nat} {n:Node} {g:Goroutine} (h:ParkR P F c n g):g.status= .blocked:=by
 obtain ⟨_,_,z,sh,rfl,_⟩:=h;rfl
theorem ParkS.blocked {c:Nat} {v:Value} {n:Node} {g:Goroutine} (h:ParkS P F c v n g):g.status= .blocked:=by
 obtain ⟨_,_,z,sh,rfl,_⟩:=h;rfl
theorem FM.awake (h:FM P F Φ cap End s gs w t):∀ g∈gs,awake g:=by
 intro g hg
 obtain ⟨i,hi,rfl⟩:=Array.mem_iff_getElem.1 hg
 have hgi:gs[i]? =some gs[i]:=Array.getElem?_eq_getElem hi
 have hn:s.nodes[i]? =some (s.nodes[i]'(by rw [h.core.sz];exact hi)):=List.getElem?_eq_getElem _
 cases i with
 |zero=>
  rcases (h.main _ _ hn hgi).st with hr|⟨_,_,_,_,hp⟩
  ·exact awake_of (.inl hr.status)
  ·exact awake_of (.inr (.inl hp.blocked))
 |succ j=>
  obtain ⟨cin,cout,buf,cl,sn,rc,_,_,_,_,hm⟩:=h.hand j _ _ hn hgi
  split at hm
  ·rcases hm.2.2.2 with hr|⟨_,_,hp⟩
   ·exact awake_of (.inl hr.status)
   ·exact awake_of (.inr (.inl hp.blocked))
  ·rcases hm.2.2 with hr|⟨_,hp⟩
   ·exact awake_of (.inl hr.status)
   ·exact awake_of (.inr (.inl hp.blocked))
  ·exact awake_of (hm.2.1.status.elim .inl fun h=> .inr (.inr h))
  ·exact hm.elim
theorem len_of_all:∀ (n:Nat) (l:List Nat),(∀ j,j<n→j∈l)→n≤l.length
 |0,_,_=>Nat.zero_le _
 |n+1,l,h=>by
  have hn:=h n (by omega)
  have h1:=len_of_all n (l.erase n) fun j hj=>(List.mem_erase_of_ne (by omega)).2 (h j (by omega))
  rw [List.length_erase_of_mem hn] at h1
  have:0<l.length:=List.length_pos_of_mem hn
  omega
theorem FM.someone (h:FM P F Φ cap End s gs w t):∃ (i:Nat) (g:Goroutine),gs[i]? =some g∧g.status= .running:=by
 have h0:0<gs.size:=by rw [h.size];omega
 have hg0:gs[0]? =some gs[0]:=Array.getElem?_eq_getElem h0
 have hn0:s.nodes[0]? =some (s.nodes[0]'(by rw [h.core.sz];exact h0)):=List.getElem?_eq_getElem _
 rcases (h.main _ _ hn0 hg0).st with hr|⟨l,c,ha,hc,hp⟩
 ·exact ⟨0,_,hg0,hr.status⟩
 have hwf:=h.wf
 rw [ha] at hwf
 obtain ⟨⟨hk,hlt,hcl⟩,_⟩:=hwf
 have hex:∃ j,j<s.hs.length∧j∉s.got:=by
  refine Classical.byContradiction fun hno=> ?_
  have:=len_of_all s.hs.length s.got fun j hj=>Classical.byContradiction fun hj'=>hno ⟨j,hj,hj'⟩
  omega
 obtain ⟨j,hj,hjg⟩:=hex
 have hjs:j+1<gs.size:=by rw [h.size];omega
 have hgj:gs[j+1]? =some gs[j+1]:=Array.getElem?_eq_getElem hjs
 have hnj:s.nodes[j+1]? =some (s.nodes[j+1]'(by rw [h.core.sz];exact hjs)):=List.getElem?_eq_getElem _
 have hshut:MAct.close j∉s.acts:=by
  rw [ha]
  intro hm
  rcases List.mem_cons.1 hm with hm|hm
  ·cases hm
  ·exact hcl j hm
 obtain ⟨cin,cout,buf,cl,sn,rc,h1,h2,h3,h4,hm⟩:=h.hand j _ _ hnj hgj
 have hclt:=h4.2 hshut
 split at hm
 ·rcases hm.2.2.2 with hr|⟨_,hcf,_⟩
  ·exact ⟨_,_,hgj,hr.status⟩
  ·rw [hclt] at hcf;cases hcf
 ·rcases hm.2.2 with hr|⟨v,hp'⟩
  ·exact ⟨_,_,hgj,hr.status⟩
  ·rw [h2] at hc
   cases hc
   exact absurd hp' (h.one _ _ _ h2 hn0 hg0 hp j _ _ v hnj hgj)
 ·rename_i q hq
  exact absurd ((h.got.2 j).2 ⟨q,hq⟩) hjg
 ·exact hm.elim
theorem HandOK.frame {j:Nat} {n:Node} {g:Goroutine} (h:HandOK P F Φ cap s w t j n g) {s':FSt} {w':World} {u:Trace} (hf:fut j s'.acts=fut j s.acts) (hcl:MAct.close j∈s'.acts↔MAct.close j∈s.acts) (hh:s'.hs[j]? =s.hs[j]?)
  (hc1:∀ c,s.cs[j+1]? =some c→s'.cs[j+1]? =some c) (hc0:∀ c,s.cs[0]? =some c→s'.cs[0]? =some c) (hw:∀ c,s.cs[j+1]? =some c→w'.heap[c]? =w.heap[c]?) (hu:∀ op∈u,op.g=j+1→op.act.touch? =none):HandOK P F Φ cap s' w' (t++u) j n g:=by
 obtain ⟨cin,cout,buf,cl,sn,rc,h1,h2,h3,h4,hm⟩:=h
 refine ⟨cin,cout,buf,cl,sn,rc,hc1 _ h1,hc0 _ h2,by rw [hw _ h1];exact h3,by rw [h4,hcl],?_⟩
 rw [hh,hf]
 split at hm
 ·exact hm
 ·exact hm
 ·refine ⟨hm.1,hm.2.1,fun k op hk hg ht=> ?_⟩
  rcases getElem?_append_cases hk with ⟨_,hk'⟩|⟨_,hku⟩
  ·exact (hm.2.2 k op hk' hg ht).app u
  ·exact absurd (hu op hku hg) ht
 ·exact hm
theorem FM.still (h:FM P F Φ cap End s gs w t) {w':World} (hw:∀ b,b∈s.cs→w'.heap[b]? =w.heap[b]?) (x x':Goroutine):gs.map (woken P x x' w')=gs:=by
 apply Array.ext_getElem?
 intro i
 rw [Array.getElem?_map]
 cases hgi:gs[i]? with
 |none=>rfl
 |some g=>
  simp only [Option.map_some,Option.some.injEq]
  have hi:i<gs.size:=(Array.getElem?_eq_some_iff.1 hgi).1
  have hn:s.nodes[i]? =some (s.nodes[i]'(by rw [h.core.sz];exact hi)):=List.getElem?_eq_getElem _
  have mem:∀ {k c:Nat},s.cs[k]? =some c→c∈s.cs:=fun hk=>List.mem_of_getElem? hk
  cases i with
  |zero=>
   rcases (h.main _ _ hn hgi).st with hr|⟨l,c,_,hc,hp⟩
   ·exact woken_running hr.status
   ·obtain ⟨sn,hb⟩:=h.back c hc
    obtain ⟨_,_,z,sh,rfl,_⟩:=hp
    exact woken_recv_open x x' (by rw [hw c (mem hc)];exact hb)
  |succ j=>
   obtain ⟨cin,cout,buf,cl,sn,rc,h1,h2,h3,h4,hm⟩:=h.hand j _ _ hn hgi
   split at hm
   ·rcases hm.2.2.2 with hr|⟨hb,hf,hp⟩
    ·exact woken_running hr.status
    ·obtain ⟨_,_,z,sh,rfl,_⟩:=hp
     subst hf
     exact woken_recv_open x x' (by rw [hw cin (mem h1)];exact h3)
   ·rcases hm.2.2 with hr|⟨v,hp⟩
    ·exact woken_running hr.status
    ·obtain ⟨sn',hb⟩:=h.back cout h2
     obtain ⟨_,_,z,sh,rfl,_⟩:=hp
     exact woken_send_open x x' (by rw [hw cout (mem h2)];exact hb)
   ·exact woken_quits hm.2.1
   ·exact hm.elim
theorem stop_running {n:Node} (hw:n.walks P F) (hS:∀ g x,n.S g x→g.status= .running):n.g.status= .running:=by
 cases hw with
 |stop h=>exact hS _ _ (h _ (Rel.refl _ _ _))
 |step nx wx ex hs h1 h2=>exact hs
theorem ofEvents_g {i:Nat} {fn:FuncId} {pos:String} {es:Array Event}:∀ op∈MemOp.ofEvents i fn pos es,op.g=i:=fun op hop=>by
 rw [ofEvents_eq] at hop
 obtain ⟨e,_,rfl⟩:=Array.mem_map.1 hop
 rfl
theorem FM.own (h:FM P F Φ cap End s gs w t) {sl:Option (Nat×Nat)} {i:Nat} {n:Node} {g:Goroutine} (hn:s.nodes[i]? =some n) (hg:gs[i]? =some g) (hr:Runs n g) (hst:¬ n.stopped F) (hS:∀ g x,n.S g x→g.status= .running)
  (hng:∀ j q,i=j+1→s.hs[j]? ≠some (.gone q)):
  ∃ g' w' n' O' ops,runT P (crowd gs w sl) i=(.next (crowd (gs.setIfInBounds i g') w' sl),ops)∧g'.status= .running∧Child P F n' n∧FM P F Φ cap End {s with O:=O',nodes:=s.nodes.set i n'} (gs.setIfInBounds i g') w' (t++ops):=by
 have hig:i<gs.size:=(Array.getElem?_eq_some_iff.1 hg).1
 have hin:i<s.nodes.length:=(List.getElem?_eq_some_iff.1 hn).1
 obtain ⟨g',w',es,n',h1,h2,h3,h4,h5,h6,h7⟩:=h.core.own (sl:=sl) hn hg hr hst
 rw [h.still h5] at h1 h7
 have hn':(s.nodes.set i n')[i]? =some n':=by simp [hin]
 have hrun:g'.status= .running:=by
  rw [← h2]
  exact stop_running (h7.nd i n' hn').2.2.2 (by rw [h3];exact hS)
 have hruns:Runs n' g':=by rw [← h2];exact Runs.self (by rw [h2];exact hrun)
 have mem:∀ {k c:Nat},s.cs[k]? =some c→c∈s.cs:=fun hk=>List.mem_of_getElem? hk
 have atn:∀ k m,(s.nodes.set i n')[k]? =some m→(k=i∧m=n')∨(k≠i∧s.nodes[k]? =some m):=by
  intro k m hk
  rw [List.getElem?_set] at hk
  by_cases e:i=k
  ·subst e
   rw [if_pos rfl,if_pos hin] at hk
   exact .inl ⟨rfl,(Option.some.inj hk).symm⟩
  ·rw [if_neg e] at hk
   exact .inr ⟨fun x=>e x.symm,hk⟩
 have atg:∀ k x,(gs.setIfInBounds i g')[k]? =some x→(k=i∧x=g')∨(k≠i∧gs[k]? =some x):=by
  intro k x hk
  by_cases e:i=k
  ·subst e
   rw [Array.getElem?_setIfInBounds_self_of_lt hig] at hk
   exact .inl ⟨rfl,(Option.some.inj hk).symm⟩
  ·rw [Array.getElem?_setIfInBounds_ne e] at hk
   exact .inr ⟨fun x=>e x.symm,hk⟩
 refine ⟨g',w',n',_,_,h1,hrun,h4,h7,h.nd,h.wf,by simp [h.size],fun c hc=> ?_,fun c hc=> ?_,fun m x hm hx=> ?_,fun j m x hm hx=> ?_,h.got,fun c m x hc hm hx hp j m' x' v hm' hx' hps=> ?_⟩
 ·rw [h5 c (mem hc)];exact h.back c hc
 ·rw [h5 c (mem hc)];exact h.next c hc
 ·rcases atn _ _ hm with ⟨e,rfl⟩|⟨e,hm⟩<;>rcases atg _ _ hx with ⟨e',rfl⟩|⟨e',hx⟩
  ·subst e
   exact ⟨h3.trans (h.main n g hn hg).ses, .inl hruns⟩
  ·exact absurd e e'
  ·exact absurd e' e
  ·have:=h.main m x hm hx
   exact ⟨this.ses,this.st⟩
 ·rcases atn _ _ hm with ⟨e,rfl⟩|⟨e,hm⟩<;>rcases atg _ _ hx with ⟨e',rfl⟩|⟨e',hx⟩
  ·subst e
   obtain ⟨cin,cout,buf,cl,sn,rc,k1,k2,k3,k4,km⟩:=h.hand j n g hn hg
   refine ⟨cin,cout,buf,cl,sn,rc,k1,k2,by rw [h5 cin (mem k1)];exact k3,k4,?_⟩
   split at km
   ·rename_i l hl
    simp only [hl]
    exact ⟨km.1,km.2.1,h3.trans km.2.2.1, .inl hruns⟩
   ·rename_i hl
    simp only [hl]
    exact ⟨km.1,h3.trans km.2.1, .inl hruns⟩
   ·rename_i q hq
    exact absurd hq (hng j q rfl)
   ·exact km.elim
  ·exact absurd e e'
  ·exact absurd e' e
  ·exact (h.hand j m x hm hx).frame rfl Iff.rfl rfl (fun _ h=>h) (fun _ h=>h) (fun c hc=>h5 c (mem hc)) fun op hop hgop=>absurd ((ofEvents_g op hop).symm.trans hgop) (fun e'=>e e'.symm)
 ·rcases atg _ _ hx with ⟨e,rfl⟩|⟨e,hx⟩
  ·rw [hp.blocked] at hrun;cases hrun
  ·rcases atg _ _ hx' with ⟨e',rfl⟩|⟨e',hx'⟩
   ·rw [hps.blocked] at hrun;cases hrun
   ·rcases atn _ _ hm with ⟨e1,_⟩|⟨_,hm⟩
    ·exact e e1
    ·rcases atn _ _ hm' with ⟨e2,_⟩|⟨_,hm'⟩
     ·exact e' e2
     ·exact h.one c m x hc hm hx hp j m' x' v hm' hx' hps
theorem nb {x:Goroutine} (h:x.status= .running∨x.status= .finished):x.status≠ .blocked:=by rcases h with e|e<;>rw [e]<;>nofun
theorem FM.offers (h:FM P F Φ cap End s gs w t) {k:Nat} {x:Goroutine} (hx:gs[k]? =some x):(x.status= .running∨x.status= .finished)∨(k=0∧∃ n c,s.nodes[0]? =some n∧s.cs[0]? =some c∧ParkR P F c n x)∨
  ∃ j n cin cout,k=j+1∧s.nodes[j+1]? =some n∧s.cs[j+1]? =some cin∧s.cs[0]? =some cout∧(ParkR P F cin n x∨∃ v,s.hs[j]? =some .tells∧ParkS P F cout v n x):=by
 have hi:k<gs.size:=(Array.getElem?_eq_some_iff.1 hx).1
 have hn:s.nodes[k]? =some (s.nodes[k]'(by rw [h.core.sz];exact hi)):=List.getElem?_eq_getElem _
 cases k with
 |zero=>
  rcases (h.main _ _ hn hx).st with hr|⟨l,c,_,hc,hp⟩
  ·left;exact .inl hr.status
  ·exact .inr (.inl ⟨rfl,_,c,hn,hc,hp⟩)
 |succ j=>
  obtain ⟨cin,cout,buf,cl,sn,rc,h1,h2,h3,h4,hm⟩:=h.hand j _ _ hn hx
  split at hm
  ·rcases hm.2.2.2 with hr|⟨_,_,hp⟩
   ·left;exact .inl hr.status
   ·exact .inr (.inr ⟨j,_,cin,cout,rfl,hn,h1,h2, .inl hp⟩)
  ·rename_i hl
   rcases hm.2.2 with hr|⟨v,hp⟩
   ·left;exact .inl hr.status
   ·exact .inr (.inr ⟨j,_,cin,cout,rfl,hn,h1,h2, .inr ⟨v,hl,hp⟩⟩)
  ·left
   exact hm.2.1.status
  ·exact hm.elim
theorem FM.noSend (h:FM P F Φ cap End s gs w t) {c:Nat} (hc:s.cs[0]? ≠some c) (i:Nat):partners (gs.setIfInBounds i ph) c true=[]:=by
 refine partners_nil fun k x hx=> ?_
 rcases getElem?_stand gs i k x hx with ⟨_,rfl⟩|⟨_,hx⟩
 ·exact offersAt_ph _ _
 rcases h.offers hx with hb|⟨_,n,c',_,_,_,_,z,sh,rfl,_⟩|⟨j,n,cin,cout,_,_,_,h2,⟨_,_,z,sh,rfl,_⟩|⟨v,_,_,_,z,sh,rfl,_⟩⟩
 ·exact offersAt_of_not_blocked (nb hb) _ _
 ·exact offersAt_parked_recv' ..
 ·exact offersAt_parked_recv' ..
 ·rw [offersAt_parked_send,if_neg]
  intro e;subst e;exact hc h2
theorem fut_nil {j:Nat}:∀ {acts:List MAct} {c k r:Nat},WF Φ cap c k r acts→j<k→MAct.close j∉acts→fut j acts=[]
 |[],_,_,_,_,_,_=>rfl
 | .mk _::l,_,_,_,h,hj,hc=>fut_nil (acts:=l) h.2 hj fun hm=>hc (List.mem_cons_of_mem _ hm)
 | .go _::l,_,_,_,h,hj,hc=>fut_nil (acts:=l) h.2 (by omega) fun hm=>hc (List.mem_cons_of_mem _ hm)
 | .send i v::l,_,_,_,h,hj,hc=>by
  have hne:i≠j:=fun e=>hc (List.mem_cons_of_mem _ (e▸h.1.2))
  rw [fut,if_neg hne]
  exact fut_nil (acts:=l) h.2 hj fun hm=>hc (List.mem_cons_of_mem _ hm)
 | .close _::l,_,_,_,h,hj,hc=>fut_nil (acts:=l) h.2 hj fun hm=>hc (List.mem_cons_of_mem _ hm)
 | .recv::l,_,_,_,h,hj,hc=>fut_nil (acts:=l) h.2 hj fun hm=>hc (List.mem_cons_of_mem _ hm)
theorem set_get {α:Type _} {l:List α} {i k:Nat} {a m:α} (hi:i<l.length) (hk:(l.set i a)[k]? =some m):(k=i∧m=a)∨(k≠i∧l[k]? =some m):=by
 rw [List.getElem?_set] at hk
 by_cases e:i=k
 ·subst e
  rw [if_pos rfl,if_pos hi] at hk
  exact .inl ⟨rfl,(Option.some.inj hk).symm⟩
 ·rw [if_neg e] at hk
  exact .inr ⟨fun x=>e x.symm,hk⟩
theorem aset_get {gs:Array Goroutine} {i k:Nat} {a x:Goroutine} (hi:i<gs.size) (hk:(gs.setIfInBounds i a)[k]? =some x):(k=i∧x=a)∨(k≠i∧gs[k]? =some x):=by
 by_cases e:i=k
 ·subst e
  rw [Array.getElem?_setIfInBounds_self_of_lt hi] at hk
  exact .inl ⟨rfl,(Option.some.inj hk).symm⟩
 ·rw [Array.getElem?_setIfInBounds_ne e] at hk
  exact .inr ⟨fun x=>e x.symm,hk⟩
theorem FM.turn (h:FM P F Φ cap End s gs w t) {j:Nat} {n n':Node} {g g':Goroutine} {st':HSt} {w':World} {u:Trace} {cin:Nat} (hn:s.nodes[j+1]? =some n) (hg:gs[j+1]? =some g) (hcin:s.cs[j+1]? =some cin)
  (hst:∀ q,s.hs[j]? ≠some (.gone q)) (hst':∀ q,st'≠ .gone q) (hjl:j<s.hs.length) (hw:Turns (fun b=>b∈s.cs) w w') (hwc:∀ c,c≠cin→w'.heap[c]? =w.heap[c]?)
  (hu:Wordless u) (hut:∀ op∈u,op.act.touch? =none) (hug:∀ op∈u,op.g<gs.size)
  (n1:n'.main=false) (n2:n'.x.O=s.O (j+1)) (n3:Rel (s.O (j+1)) F n'.x.w w') (n4:n'.walks P F)
  (hok:HandOK P F Φ cap {s with hs:=s.hs.set j st',nodes:=s.nodes.set (j+1) n'} w' (t++u) j n' g')
  (hone:∀ c n0 g0 v,s.cs[0]? =some c→s.nodes[0]? =some n0→gs[0]? =some g0→ParkR P F c n0 g0→¬ ParkS P F c v n' g'):
  FM P F Φ cap End {s with hs:=s.hs.set j st',nodes:=s.nodes.set (j+1) n'} (gs.setIfInBounds (j+1) g') w' (t++u):=by
 have hig:j+1<gs.size:=(Array.getElem?_eq_some_iff.1 hg).1
 have hin:j+1<s.nodes.length:=(List.getElem?_eq_some_iff.1 hn).1
 have hne:∀ k c,k≠j+1→s.cs[k]? =some c→c≠cin:=by
  intro k c hk hc e
  subst e
  have h1:=(List.getElem?_eq_some_iff.1 hc)
  have h2:=(List.getElem?_eq_some_iff.1 hcin)
  exact hk ((List.getElem_inj h.nd).1 (h1.2.trans h2.2.symm))
 have hcore:Core P F (fun b=>b∈s.cs) s.O (s.nodes.set (j+1) n') (gs.setIfInBounds (j+1) g') w' (t++u):=by
  refine h.core.talk hw (by simp) (h.core.ti.quiet hu hut) hug (fun i b hb=> .inl hb) h.core.ap h.core.new (by simp) fun i m hm=> ?_
  rcases set_get hin hm with ⟨rfl,rfl⟩|⟨_,hm⟩
  ·exact .inr ⟨n1,n2,n3,n4⟩
  ·exact .inl ⟨hm,rfl⟩
 refine ⟨hcore,h.nd,by simpa using h.wf,by simp [h.size],fun c hc=> ?_,fun c hc=> ?_,fun m x hm hx=> ?_,fun i m x hm hx=> ?_,⟨h.got.1,fun i=> ?_⟩,fun c m x hc hm hx hp i m' x' v hm' hx' hps=> ?_⟩
 ·rw [hwc c (hne 0 c (by omega) hc)];exact h.back c hc
 ·simp only [List.length_set] at hc
  rw [hwc c (hne _ c (by omega) hc)];exact h.next c hc
 ·rcases set_get hin hm with ⟨e,_⟩|⟨_,hm⟩
  ·omega
  ·rcases aset_get hig hx with ⟨e,_⟩|⟨_,hx⟩
   ·omega
   ·have:=h.main m x hm hx
    exact ⟨this.ses,this.st⟩
 ·rcases set_get hin hm with ⟨e,rfl⟩|⟨e,hm⟩<;>rcases aset_get hig hx with ⟨e',rfl⟩|⟨e',hx⟩
  ·have:i=j:=by omega
   subst this
   exact hok
  ·exact absurd e e'
  ·exact absurd e' e
  ·have hij:i≠j:=by omega
   exact (h.hand i m x hm hx).frame rfl Iff.rfl (by simp [List.getElem?_set,Ne.symm hij]) (fun _ h=>h) (fun _ h=>h) (fun c hc=>hwc c (hne _ c e hc)) fun op hop _=>hut op hop
 ·rw [h.got.2 i]
  by_cases hij:j=i
  ·subst hij
   simp only [List.getElem?_set,if_true,hjl]
   constructor
   ·rintro ⟨q,hq⟩;exact absurd hq (hst q)
   ·rintro ⟨q,hq⟩;exact absurd (Option.some.inj hq) (hst' q)
  ·simp [List.getElem?_set,hij]
 ·rcases set_get hin hm with ⟨e,_⟩|⟨_,hm0⟩
  ·omega
  rcases aset_get hig hx with ⟨e,_⟩|⟨_,hx0⟩
  ·omega
  rcases set_get hin hm' with ⟨e,rfl⟩|⟨e,hm'⟩<;>rcases aset_get hig hx' with ⟨e',rfl⟩|⟨e',hx'⟩
  ·exact hone c m x v hc hm0 hx0 hp hps
  ·exact absurd e e'
  ·exact absurd e' e
  ·exact h.one c m x hc hm0 hx0 hp i m' x' v hm' hx' hps
def Talk (P:Program) (size:Nat) (u:Trace):Prop:=Wordless u∧(∀ op∈u,op.act.touch? =none)∧∀ op∈u,op.g<size
theorem talk_list {size:Nat} {l:List MemOp} (h:∀ op∈l,op.act.touch? =none∧op.g<size∧∀ m,op.act≠ .mark m):Talk P size l.toArray:=
 ⟨fun op hop m hm=>absurd hm ((h op (by simpa using hop)).2.2 m),fun op hop=>(h op (by simpa using hop)).1,fun op hop=>(h op (by simpa using hop)).2.1⟩
theorem FM.hears (h:FM P F Φ cap End s gs w t) {sl:Option (Nat×Nat)} {j:Nat} {n:Node} {g:Goroutine} {l:List Value} (hn:s.nodes[j+1]? =some n) (hg:gs[j+1]? =some g) (hl:s.hs[j]? =some (.hears l)) (hr:Runs n g) (hst:n.stopped F):
  ∃ gs' w' ops st' n' g',runT P (crowd gs w sl) (j+1)=(.next (crowd gs' w' sl),ops)∧gs'=gs.setIfInBounds (j+1) g'∧FM P F Φ cap End {s with hs:=s.hs.set j st',nodes:=s.nodes.set (j+1) n'} gs' w' (t++ops)∧
   (st'.wt< (HSt.hears l).wt∨(st'= .hears l∧n'=n∧g'.status= .blocked)):=by
 obtain ⟨hm,hO,hrel,hwalk⟩:=h.core.nd _ n hn
 have hm:n.main=false:=hm
 have hig:j+1<gs.size:=(Array.getElem?_eq_some_iff.1 hg).1
 have hjl:j<s.hs.length:=(List.getElem?_eq_some_iff.1 hl).1
 obtain ⟨cin,cout,buf,cl,sn,rc,h1,h2,h3,h4,hk⟩:=h.hand j n g hn hg
 rw [hl] at hk
 simp only at hk
 obtain ⟨k1,k2,k3,k4⟩:=hk
 have hstop:=hst w (hO▸hrel)
 rw [k3] at hstop
 have hng:∀ q,s.hs[j]? ≠some (.gone q):=fun q e=>by rw [hl] at e;cases e
 have hcc:s.cs[0]? ≠some cin:=fun e=>by
  have e1:=(List.getElem?_eq_some_iff.1 e)
  have e2:=(List.getElem?_eq_some_iff.1 h1)
  have:=(List.getElem_inj h.nd).1 (e1.2.trans e2.2.symm)
  omega
 have hps:=h.noSend hcc (j+1)
 have hmem:cin∈s.cs:=List.mem_of_getElem? h1
 have hrun:n.g.status= .running:=stop_running hwalk fun g x hx=>by rw [k3] at hx;exact hx.running
 have park:∀ (z:Value) (sh:CommShape),(∀ w,stepG P false n.g w= .comm n.g #[rcase cin z] true sh w #[])→buf= #[]→cl=false→
   ∃ gs' w' ops st' n' g',runT P (crowd gs w sl) (j+1)=(.next (crowd gs' w' sl),ops)∧gs'=gs.setIfInBounds (j+1) g'∧FM P F Φ cap End {s with hs:=s.hs.set j st',nodes:=s.nodes.set (j+1) n'} gs' w' (t++ops)∧
    (st'.wt< (HSt.hears l).wt∨(st'= .hears l∧n'=n∧g'.status= .blocked)):=by
  intro z sh hstep hb hcl
  subst hb hcl
  have hs':stepG P (j+1==0) g w= .comm n.g #[rcase cin z] true sh w #[]:=by rw [hr.stepG];exact hstep w
  have hwt:=crowd_waits (sl:=sl) hg hs' (fun cc hcc'=>by
   simp only [List.mem_toArray,List.mem_singleton] at hcc'
   subst hcc'
   exact ways_recv_none h3 hps)
  refine ⟨_,w,_, .hears l,n,_,hwt,rfl,?_, .inr ⟨rfl,rfl,rfl⟩⟩
  have hp:ParkR P F cin n (parked n.g #[rcase cin z] sh):=⟨hst,hrun,z,sh,rfl,by rw [hm];exact hstep⟩
  refine h.turn hn hg h1 hng (fun q e=>by cases e) hjl (Turns.refl _ _) (fun _ _=>rfl) (fun op hop=>by simp [MemOp.ofEvents] at hop) (fun op hop=>by simp [MemOp.ofEvents] at hop) (fun op hop=>by simp [MemOp.ofEvents] at hop) hm hO (by rw [← hO];exact hO▸hrel) hwalk ?_ ?_
  ·refine ⟨cin,cout,#[],false,sn,rc,h1,h2,h3,h4,?_⟩
   simp only [List.getElem?_set,if_true,hjl]
   exact ⟨k1,k2,k3, .inr ⟨by trivial,by trivial,hp⟩⟩
  ·rintro c n0 g0 v _ _ _ _ ⟨_,_,z',sh',e,_⟩
   simp only [parked,Goroutine.mk.injEq,Option.some.injEq,Prod.mk.injEq] at e
   have:=e.2.2.2.2.1
   simp [rcase,scase] at this
 cases l with
 |nil=>
  obtain ⟨_,z,sh,hstep,_,hk2⟩:=hstop
  have hb:buf= #[]∧fut j s.acts=[]:=by
   have:=List.append_eq_nil_iff.1 k1.symm
   exact ⟨by simpa using this.1,this.2⟩
  cases hcl:cl with
  |false=>exact park z sh hstep hb.1 hcl
  |true=>
   obtain ⟨rfl,_⟩:=hb
   subst hcl
   have hs':stepG P (j+1==0) g w= .comm n.g #[rcase cin z] true sh w #[]:=by rw [hr.stepG];exact hstep w
   have hwt:=crowd_recv_closed (sl:=sl) hg hs' h3 hps
   refine ⟨_,w,_, .tells,⟨false,OutStop P Φ cout j,n.g.finishComm P #[rcase cin z] sh 0 z false,⟨w,s.O (j+1)⟩⟩,_,hwt,rfl,?_, .inl (by simp [HSt.wt])⟩
   obtain ⟨u1,u2,u3⟩:=talk_list (P:=P) (size:=gs.size) (l:=[{g:=j+1,fn:=n.g.frame.fn,pos:=n.g.frame.place,act:= .recvClosed cin}]) (by simp [MemAct.touch?];exact hig)
   have hwk:HandO P F Φ cout j (n.g.finishComm P #[rcase cin z] sh 0 z false) ⟨w,s.O (j+1)⟩:=by rw [← hO];exact hk2 rfl
   refine h.turn hn hg h1 hng (fun q e=>by cases e) hjl (Turns.refl _ _) (fun _ _=>rfl) (by simpa [MemOp.ofEvents] using u1) (by simpa [MemOp.ofEvents] using u2) (by simpa [MemOp.ofEvents] using u3) rfl rfl (Rel.refl _ _ _) hwk ?_ ?_
   ·refine ⟨cin,cout,#[],true,sn,rc,h1,h2,h3,h4,?_⟩
    simp only [List.getElem?_set,if_true,hjl]
    exact ⟨by trivial,by trivial, .inl (Runs.self rfl)⟩
   ·intro c n0 g0 v _ _ _ _ hp
    have:=hp.blocked
    cases this
 |cons m r=>
  obtain ⟨_,z,sh,hstep,hk2,_⟩:=hstop
  by_cases hb:buf= #[]
  ·cases hcl:cl with
   |false=>exact park z sh hstep hb hcl
   |true=>
    have:=fut_nil h.wf (j:=j) (by exact hjl) (h4.1 hcl)
    rw [hb,this] at k1
    cases k1
  ·have hpos:0<buf.size:=Array.size_pos_iff.2 hb
   have hs':stepG P (j+1==0) g w= .comm n.g #[rcase cin z] true sh w #[]:=by rw [hr.stepG];exact hstep w
   have hwt:=crowd_recv_buf (sl:=sl) hg hs' h3 hpos hps
   obtain ⟨bl,hbl⟩:∃ bl,buf.toList=bl:=⟨_,rfl⟩
   cases bl with
   |nil=>exact absurd (by simpa using hbl) hb
   |cons b0 bl=>
    rw [hbl] at k1
    simp only [List.cons_append,List.cons.injEq] at k1
    obtain ⟨rfl,k1⟩:=k1
    have hbuf:buf=(m::bl).toArray:=by rw [← hbl]
    subst hbuf
    have hv:((m::bl).toArray.getD 0 undef)=m:=rfl
    have hx:((m::bl).toArray.extract 1 (m::bl).toArray.size)=bl.toArray:=by
     apply Array.ext'
     simp
    rw [hv,hx] at hwt
    refine ⟨_,_,_, .hears r,⟨false,HandStop P F Φ cin cout j r,n.g.finishComm P #[rcase cin z] sh 0 m true,⟨w,s.O (j+1)⟩⟩,_,hwt,rfl,?_, .inl (by simp [HSt.wt])⟩
    obtain ⟨u1,u2,u3⟩:=talk_list (P:=P) (size:=gs.size) (l:=[{g:=j+1,fn:=n.g.frame.fn,pos:=n.g.frame.place,act:= .recv cin rc cap},{g:=j+1,fn:=n.g.frame.fn,pos:=n.g.frame.place,act:= .recvDone cin rc}]) (by simp [MemAct.touch?];exact hig)
    have hwk:HandS P F Φ cin cout j r (n.g.finishComm P #[rcase cin z] sh 0 m true) ⟨w,s.O (j+1)⟩:=by rw [← hO];exact hk2 m rfl rfl
    have hT:Turns (fun b=>b∈s.cs) w (w.setChan cin cap bl.toArray cl sn (rc+1) false):=Turns.set w hmem ..
    have hcl:cin<w.heap.size:=(Array.getElem?_eq_some_iff.1 h3).1
    refine h.turn hn hg h1 hng (fun q e=>by cases e) hjl hT (fun c hc=>by simp [World.setChan,Array.getElem?_setIfInBounds_ne (Ne.symm hc)]) (by simpa [MemOp.ofEvents] using u1) (by simpa [MemOp.ofEvents] using u2) (by simpa [MemOp.ofEvents] using u3) rfl rfl (hT.rel h.core.ap _) hwk ?_ ?_
    ·refine ⟨cin,cout,bl.toArray,cl,sn,rc+1,h1,h2,by simp [World.setChan,hcl],h4,?_⟩
     simp only [List.getElem?_set,if_true,hjl]
     exact ⟨by simpa using k1,by simp at k2;omega,by trivial, .inl (Runs.self rfl)⟩
    ·intro c n0 g0 v _ _ _ _ hp
     have:=hp.blocked
     cases this
theorem FM.noRecv (h:FM P F Φ cap End s gs w t) {c:Nat} (hc:s.cs[0]? =some c) (i:Nat) (h0:i=0∨∀ n g,s.nodes[0]? =some n→gs[0]? =some g→¬ ParkR P F c n g):partners (gs.setIfInBounds i ph) c false=[]:=by
 refine partners_nil fun k x hx=> ?_
 rcases getElem?_stand gs i k x hx with ⟨_,rfl⟩|⟨hki,hx⟩
 ·exact offersAt_ph _ _
 rcases h.offers hx with hb|⟨rfl,n,c',hn,hc',hp⟩|⟨j,n,cin,cout,_,_,h1,h2,⟨_,_,z,sh,rfl,_⟩|⟨v,_,_,_,z,sh,rfl,_⟩⟩
 ·exact offersAt_of_not_blocked (nb hb) _ _
 ·rw [hc] at hc'
  cases hc'
  rcases h0 with e|h0
  ·exact absurd e.symm hki
  ·exact absurd hp (h0 n x hn hx)
 ·rw [offersAt_parked_recv,if_neg]
  rintro rfl
  have e1:=(List.getElem?_eq_some_iff.1 hc)
  have e2:=(List.getElem?_eq_some_iff.1 h1)
  have:=(List.getElem_inj h.nd).1 (e1.2.trans e2.2.symm)
  omega
 ·exact offersAt_parked_send' ..
theorem FM.waits (h:FM P F Φ cap End s gs w t) {sl:Option (Nat×Nat)} {j:Nat} {n:Node} {g:Goroutine} (hn:s.nodes[j+1]? =some n) (hg:gs[j+1]? =some g) (hl:s.hs[j]? =some .tells) (hr:Runs n g) (hst:n.stopped F)
  (h0:∀ c n g,s.cs[0]? =some c→s.nodes[0]? =some n→gs[0]? =some g→¬ ParkR P F c n g):
  ∃ gs' ops g',runT P (crowd gs w sl) (j+1)=(.next (crowd gs' w sl),ops)∧gs'=gs.setIfInBounds (j+1) g'∧FM P F Φ cap End {s with hs:=s.hs.set j .tells,nodes:=s.nodes.set (j+1) n} gs' w (t++ops)∧g'.status= .blocked:=by
 obtain ⟨hm,hO,hrel,hwalk⟩:=h.core.nd _ n hn
 have hm:n.main=false:=hm
 have hjl:j<s.hs.length:=(List.getElem?_eq_some_iff.1 hl).1
 obtain ⟨cin,cout,buf,cl,sn,rc,h1,h2,h3,h4,hk⟩:=h.hand j n g hn hg
 rw [hl] at hk
 simp only at hk
 obtain ⟨k1,k3,k4⟩:=hk
 have hstop:=hst w (hO▸hrel)
 rw [k3] at hstop
 have hrun:n.g.status= .running:=stop_running hwalk fun g x hx=>by rw [k3] at hx;exact hx.running
 obtain ⟨v,B,hB,hout,_,z,sh,hstep,hk2⟩:=hstop
 obtain ⟨sn',hb⟩:=h.back cout h2
 have hs':stepG P (j+1==0) g w= .comm n.g #[scase cout v z] true sh w #[]:=by rw [hr.stepG];exact hstep w
 have hwt:=crowd_waits (sl:=sl) hg hs' (fun cc hcc'=>by
  simp only [List.mem_toArray,List.mem_singleton] at hcc'
  subst hcc'
  exact ways_send_none hb (Nat.zero_le _) (h.noRecv h2 (j+1) (.inr fun n g hn hg=>h0 cout n g h2 hn hg)))
 refine ⟨_,_,_,hwt,rfl,?_,rfl⟩
 refine h.turn hn hg h1 (fun q e=>by rw [hl] at e;cases e) (fun q e=>by cases e) hjl (Turns.refl _ _) (fun _ _=>rfl) (fun op hop=>by simp [MemOp.ofEvents] at hop) (fun op hop=>by simp [MemOp.ofEvents] at hop) (fun op hop=>by simp [MemOp.ofEvents] at hop) hm hO (by rw [← hO];exact hO▸hrel) hwalk ?_ ?_
 ·refine ⟨cin,cout,buf,cl,sn,rc,h1,h2,h3,h4,?_⟩
  simp only [List.getElem?_set,if_true,hjl]
  exact ⟨k1,k3, .inr ⟨v,hst,hrun,z,sh,rfl,by rw [hm];exact hstep⟩⟩
 ·intro c n0 g0 v' hc hn0 hg0 hp _
  exact h0 c n0 g0 hc hn0 hg0 hp
theorem FM.quits (h:FM P F Φ cap End s gs w t) {sl:Option (Nat×Nat)} {j q:Nat} {n:Node} {g:Goroutine} (hn:s.nodes[j+1]? =some n) (hg:gs[j+1]? =some g) (hl:s.hs[j]? =some (.gone q)) (hr:g.status= .running):
  ∃ gs' ops g' q',runT P (crowd gs w sl) (j+1)=(.next (crowd gs' w sl),ops)∧gs'=gs.setIfInBounds (j+1) g'∧(g'.status= .running∨g'.status= .finished)∧q'<q∧FM P F Φ cap End {s with hs:=s.hs.set j (.gone q')} gs' w (t++ops):=by
 have hjl:j<s.hs.length:=(List.getElem?_eq_some_iff.1 hl).1
 have hig:j+1<gs.size:=(Array.getElem?_eq_some_iff.1 hg).1
 obtain ⟨cin,cout,buf,cl,sn,rc,h1,h2,h3,h4,hk⟩:=h.hand j n g hn hg
 rw [hl] at hk
 simp only at hk
 obtain ⟨k1,k2,k3⟩:=hk
 cases q with
 |zero=>rw [show g.status= .finished from k2] at hr;cases hr
 |succ q=>
  rcases k2 with k2|⟨_,g',hstep,k2⟩
  ·rw [k2] at hr;cases hr
  have hrun:=runT_crowd_go (P:=P) (sl:=sl) hg (w:=w) (w':=w) (g':=g') (es:= #[]) (hstep w)
  rw [h.still (fun _ _=>rfl)] at hrun
  have hst:g'.status= .running∨g'.status= .finished:=k2.status
  have hnb:g'.status≠ .blocked:=by rcases hst with e|e<;>rw [e]<;>nofun
  have e0:t++MemOp.ofEvents (j+1) g.frame.fn g.frame.place #[]=t:=by simp [MemOp.ofEvents]
  refine ⟨_,_,g',q,hrun,rfl,hst,Nat.lt_succ_self _,?_⟩
  rw [e0]
  refine ⟨h.core.stand (by simp),h.nd,by simpa using h.wf,by simp [h.size],h.back,by simpa using h.next,fun m x hm hx=> ?_,fun i m x hm hx=> ?_,⟨h.got.1,fun i=> ?_⟩,fun c m x hc hm hx hp i m' x' v hm' hx' hps=> ?_⟩
  ·rcases aset_get hig hx with ⟨e,_⟩|⟨_,hx⟩
   ·omega
   ·have:=h.main m x hm hx
    exact ⟨this.ses,this.st⟩
  ·rcases aset_get hig hx with ⟨e,rfl⟩|⟨e,hx⟩
   ·have:i=j:=by omega
    subst this
    refine ⟨cin,cout,buf,cl,sn,rc,h1,h2,h3,h4,?_⟩
    simp only [List.getElem?_set,if_true,hjl]
    exact ⟨k1,k2,k3⟩
   ·have hij:i≠j:=by omega
    have:=(h.hand i m x hm hx).frame (s':= {s with hs:=s.hs.set j (.gone q)}) (w':=w) (u:= #[]) rfl Iff.rfl (by simp [List.getElem?_set,Ne.symm hij]) (fun _ h=>h) (fun _ h=>h) (fun _ _=>rfl) (fun op hop=>by simp at hop)
    simpa using this
  ·rw [h.got.2 i]
   by_cases hij:j=i
   ·subst hij
    simp only [List.getElem?_set,if_true,hjl]
    exact ⟨fun _=>⟨q,rfl⟩,fun _=>⟨q+1,hl⟩⟩
   ·simp [List.getElem?_set,hij]
  ·rcases aset_get hig hx with ⟨e,_⟩|⟨_,hx0⟩
   ·omega
   rcases aset_get hig hx' with ⟨e,rfl⟩|⟨_,hx'⟩
   ·exact hnb hps.blocked
   ·exact h.one c m x hc hm hx0 hp i m' x' v hm' hx' hps
theorem FM.main1 (h:FM P F Φ cap End s gs w t) {n n':Node} {g g':Goroutine} {acts':List MAct} {w':World} {u:Trace} (hn:s.nodes[0]? =some n) (hg:gs[0]? =some g) (hwf:WF Φ cap s.cs.length s.hs.length s.got.length acts')
  (hw:Turns (fun b=>b∈s.cs) w w') (hu:TI F (fun b=>b∈s.cs) s.O w.heap.size (t++u)) (hug:∀ op∈u,op.g<gs.size)
  (n1:n'.main=true) (n2:n'.x.O=s.O 0) (n3:Rel (s.O 0) F n'.x.w w') (n4:n'.walks P F) (n5:n'.S=MainStop P F Φ End acts' s.cs s.got) (hr:Runs n' g')
  (hback:∀ c,s.cs[0]? =some c→w'.heap[c]? =w.heap[c]?) (hnext:∀ c,s.cs[s.hs.length+1]? =some c→w'.heap[c]? =w.heap[c]?)
  (hhand:∀ j m x,s.nodes[j+1]? =some m→gs[j+1]? =some x→HandOK P F Φ cap {s with acts:=acts',nodes:=s.nodes.set 0 n'} w' (t++u) j m x):
  FM P F Φ cap End {s with acts:=acts',nodes:=s.nodes.set 0 n'} (gs.setIfInBounds 0 g') w' (t++u):=by
 have hig:0<gs.size:=(Array.getElem?_eq_some_iff.1 hg).1
 have hin:0<s.nodes.length:=(List.getElem?_eq_some_iff.1 hn).1
 have hcore:Core P F (fun b=>b∈s.cs) s.O (s.nodes.set 0 n') (gs.setIfInBounds 0 g') w' (t++u):=by
  refine h.core.talk hw (by simp) hu hug (fun i b hb=> .inl hb) h.core.ap h.core.new (by simp) fun i m hm=> ?_
  rcases set_get hin hm with ⟨rfl,rfl⟩|⟨_,hm⟩
  ·exact .inr ⟨n1,n2,n3,n4⟩
  ·exact .inl ⟨hm,rfl⟩
 refine ⟨hcore,h.nd,hwf,by simp [h.size],fun c hc=>by rw [hback c hc];exact h.back c hc,fun c hc=>by rw [hnext c hc];exact h.next c hc,fun m x hm hx=> ?_,fun i m x hm hx=> ?_,h.got,fun c m x hc hm hx hp=> ?_⟩
 ·rcases set_get hin hm with ⟨_,rfl⟩|⟨e,_⟩
  ·rcases aset_get hig hx with ⟨_,rfl⟩|⟨e,_⟩
   ·exact ⟨n5, .inl hr⟩
   ·exact absurd rfl e
  ·exact absurd rfl e
 ·rcases set_get hin hm with ⟨e,_⟩|⟨_,hm⟩
  ·omega
  rcases aset_get hig hx with ⟨e,_⟩|⟨_,hx⟩
  ·omega
  exact hhand i m x hm hx
 ·rcases aset_get hig hx with ⟨_,rfl⟩|⟨e,_⟩
  ·have:=hp.blocked
   rw [hr.status] at this;cases this
  ·exact absurd rfl e
theorem idx_eq {l:List Nat} (h:l.Nodup) {i j c:Nat} (hi:l[i]? =some c) (hj:l[j]? =some c):i=j:=by
 have e1:=(List.getElem?_eq_some_iff.1 hi)
 have e2:=(List.getElem?_eq_some_iff.1 hj)
 exact (List.getElem_inj h).1 (e1.2.trans e2.2.symm)
theorem FM.noRecvIn (h:FM P F Φ cap End s gs w t) {j c:Nat} (hc:s.cs[j+1]? =some c) (i:Nat) (h0:∀ n g,s.nodes[j+1]? =some n→gs[j+1]? =some g→¬ ParkR P F c n g):partners (gs.setIfInBounds i ph) c false=[]:=by
 refine partners_nil fun k x hx=> ?_
 rcases getElem?_stand gs i k x hx with ⟨_,rfl⟩|⟨hki,hx⟩
 ·exact offersAt_ph _ _
 rcases h.offers hx with hb|⟨rfl,n,c',hn,hc',⟨_,_,z,sh,rfl,_⟩⟩|⟨j',n,cin,cout,rfl,hn,h1,h2,hp|⟨v,_,_,_,z,sh,rfl,_⟩⟩
 ·exact offersAt_of_not_blocked (nb hb) _ _
 ·rw [offersAt_parked_recv,if_neg]
  rintro rfl
  have:=idx_eq h.nd hc' hc
  omega
 ·by_cases e:cin=c
  ·subst e
   have:=idx_eq h.nd h1 hc
   have:j'=j:=by omega
   subst this
   exact absurd hp (h0 n x hn hx)
  ·obtain ⟨_,_,z,sh,rfl,_⟩:=hp
   rw [offersAt_parked_recv,if_neg e]
 ·exact offersAt_parked_send' ..
theorem FM.sendsRoom (h:FM P F Φ cap End s gs w t) {sl:Option (Nat×Nat)} {n:Node} {g:Goroutine} {j:Nat} {v:Value} {l:List MAct} (hn:s.nodes[0]? =some n) (hg:gs[0]? =some g) (hr:Runs n g) (hst:n.stopped F) (ha:s.acts= .send j v::l)
  (h0:∀ c n g,s.cs[j+1]? =some c→s.nodes[j+1]? =some n→gs[j+1]? =some g→¬ ParkR P F c n g):
  ∃ gs' w' ops n' g',runT P (crowd gs w sl) 0=(.next (crowd gs' w' sl),ops)∧gs'=gs.setIfInBounds 0 g'∧g'.status= .running∧FM P F Φ cap End {s with acts:=l,nodes:=s.nodes.set 0 n'} gs' w' (t++ops):=by
 obtain ⟨hm,hO,hrel,hwalk⟩:=h.core.nd _ n hn
 have hm:n.main=true:=hm
 have hig:0<gs.size:=(Array.getElem?_eq_some_iff.1 hg).1
 have hstop:=hst w (hO▸hrel)
 rw [(h.main n g hn hg).ses,ha] at hstop
 obtain ⟨cin,h1,_,z,sh,hstep,hk⟩:=hstop
 have hwf:=h.wf
 rw [ha] at hwf
 obtain ⟨⟨hjk,hjc⟩,hwf⟩:=hwf
 have hjs:j+1<gs.size:=by rw [h.size];omega
 have hgj:gs[j+1]? =some gs[j+1]:=Array.getElem?_eq_getElem hjs
 have hnj:s.nodes[j+1]? =some (s.nodes[j+1]'(by rw [h.core.sz];exact hjs)):=List.getElem?_eq_getElem _
 obtain ⟨cin',cout,buf,cl,sn,rc,k1,k2,k3,k4,km⟩:=h.hand j _ _ hnj hgj
 rw [h1] at k1
 cases k1
 have hin:MAct.close j∈s.acts:=by rw [ha];exact List.mem_cons_of_mem _ hjc
 have hclf:cl=false:=by
  cases cl with
  |false=>rfl
  |true=>exact absurd hin (k4.1 rfl)
 subst hclf
 split at km
 case h_2=>cases km.1
 case h_3=>cases km.1
 case h_4=>exact km.elim
 rename_i lst hl
 obtain ⟨q1,q2,q3,q4⟩:=km
 have hf:fut j s.acts=v::fut j l:=by rw [ha];simp [fut]
 rw [hf] at q1
 have hroom:buf.size<cap:=by
  have:=congrArg List.length q1
  simp at this
  omega
 have hs':stepG P (0==0) g w= .comm n.g #[scase cin v z] true sh w #[]:=by rw [hr.stepG];exact hstep w
 have hwt:=crowd_send_room (sl:=sl) hg hs' k3 hroom (h.noRecvIn h1 0 fun n g hn hg=>h0 cin n g h1 hn hg)
 have hmem:cin∈s.cs:=List.mem_of_getElem? h1
 have hT:Turns (fun b=>b∈s.cs) w (w.setChan cin cap (buf.push v) false (sn+1) rc false):=Turns.set w hmem ..
 have hlt:cin<w.heap.size:=(Array.getElem?_eq_some_iff.1 k3).1
 have hoth:∀ k c,k≠j+1→s.cs[k]? =some c→(w.setChan cin cap (buf.push v) false (sn+1) rc false).heap[c]? =w.heap[c]? :=by
  intro k c hk hc
  have:cin≠c:=fun e=>by subst e;exact hk (idx_eq h.nd hc h1)
  simp [World.setChan,Array.getElem?_setIfInBounds_ne this]
 obtain ⟨u1,u2,u3⟩:=talk_list (P:=P) (size:=gs.size) (l:=[{g:=0,fn:=n.g.frame.fn,pos:=n.g.frame.place,act:= .send cin sn},{g:=0,fn:=n.g.frame.fn,pos:=n.g.frame.place,act:= .sendDone cin sn}]) (by simp [MemAct.touch?];exact hig)
 have hwk:Co P true F (MainStop P F Φ End l s.cs s.got) (n.g.finishComm P #[scase cin v z] sh 0 undef false) ⟨w,s.O 0⟩:=by rw [← hO];exact hk
 refine ⟨_,_,_,⟨true,MainStop P F Φ End l s.cs s.got,n.g.finishComm P #[scase cin v z] sh 0 undef false,⟨w,s.O 0⟩⟩,_,hwt,rfl,rfl,?_⟩
 refine h.main1 hn hg hwf hT (h.core.ti.quiet (by simpa [MemOp.ofEvents] using u1) (by simpa [MemOp.ofEvents] using u2)) (by simpa [MemOp.ofEvents] using u3) rfl rfl (hT.rel h.core.ap _) hwk rfl (Runs.self rfl) (fun c hc=>hoth 0 c (by omega) hc) (fun c hc=>hoth _ c (by omega) hc) fun i m x hm hx=> ?_
 by_cases hij:i=j
 ·subst hij
  rw [hnj] at hm;cases hm
  rw [hgj] at hx;cases hx
  refine ⟨cin,cout,buf.push v,false,sn+1,rc,h1,k2,by simp [World.setChan,hlt],?_,?_⟩
  ·simp;exact hjc
  ·simp only [hl]
   refine ⟨by rw [q1];simp,q2,q3,?_⟩
   rcases q4 with q4|⟨_,_,q4⟩
   ·exact .inl q4
   ·exact absurd q4 (h0 cin _ _ h1 hnj hgj)
 ·refine (h.hand i m x hm hx).frame ?_ ?_ rfl (fun _ h=>h) (fun _ h=>h) (fun c hc=>hoth _ c (by omega) hc) fun op hop _=> ?_
  ·rw [ha];simp [fut,Ne.symm hij]
  ·rw [ha];simp
  ·have:=u2 op (by simpa [MemOp.ofEvents] using hop)
   exact this
theorem FM.both (h:FM P F Φ cap End s gs w t) {j:Nat} {n n' m m':Node} {g g' x x':Goroutine} {acts':List MAct} {st':HSt} {w':World} {u:Trace} (hn:s.nodes[0]? =some n) (hg:gs[0]? =some g) (hm:s.nodes[j+1]? =some m) (hx:gs[j+1]? =some x)
  (hwf:WF Φ cap s.cs.length s.hs.length s.got.length acts') (hw:Turns (fun b=>b∈s.cs) w w') (hu:TI F (fun b=>b∈s.cs) s.O w.heap.size (t++u)) (hug:∀ op∈u,op.g<gs.size)
  (n1:n'.main=true) (n2:n'.x.O=s.O 0) (n3:Rel (s.O 0) F n'.x.w w') (n4:n'.walks P F) (n5:n'.S=MainStop P F Φ End acts' s.cs s.got) (hr:Runs n' g')
  (m1:m'.main=false) (m2:m'.x.O=s.O (j+1)) (m3:Rel (s.O (j+1)) F m'.x.w w') (m4:m'.walks P F) (hr':Runs m' x') (hst:∀ q,s.hs[j]? ≠some (.gone q)) (hst':∀ q,st'≠ .gone q) (hjl:j<s.hs.length)
  (hback:∀ c,s.cs[0]? =some c→w'.heap[c]? =w.heap[c]?) (hnext:∀ c,s.cs[s.hs.length+1]? =some c→w'.heap[c]? =w.heap[c]?)
  (hok:HandOK P F Φ cap {s with acts:=acts',hs:=s.hs.set j st',nodes:=(s.nodes.set (j+1) m').set 0 n'} w' (t++u) j m' x')
  (hhand:∀ i k y,i≠j→s.nodes[i+1]? =some k→gs[i+1]? =some y→HandOK P F Φ cap {s with acts:=acts',hs:=s.hs.set j st',nodes:=(s.nodes.set (j+1) m').set 0 n'} w' (t++u) i k y):
  FM P F Φ cap End {s with acts:=acts',hs:=s.hs.set j st',nodes:=(s.nodes.set (j+1) m').set 0 n'} ((gs.setIfInBounds (j+1) x').setIfInBounds 0 g') w' (t++u):=by
 have hig:0<gs.size:=(Array.getElem?_eq_some_iff.1 hg).1
 have hin:0<s.nodes.length:=(List.getElem?_eq_some_iff.1 hn).1
 have hig':j+1<gs.size:=(Array.getElem?_eq_some_iff.1 hx).1
 have hin':j+1<s.nodes.length:=(List.getElem?_eq_some_iff.1 hm).1
 have atn:∀ k a,((s.nodes.set (j+1) m').set 0 n')[k]? =some a→(k=0∧a=n')∨(k=j+1∧a=m')∨(k≠0∧k≠j+1∧s.nodes[k]? =some a):=by
  intro k a hk
  rcases set_get (by simpa using hin) hk with h1|⟨h1,hk⟩
  ·exact .inl h1
  ·rcases set_get hin' hk with h2|⟨h2,hk⟩
   ·exact .inr (.inl h2)
   ·exact .inr (.inr ⟨h1,h2,hk⟩)
 have atg:∀ k a,((gs.setIfInBounds (j+1) x').setIfInBounds 0 g')[k]? =some a→(k=0∧a=g')∨(k=j+1∧a=x')∨(k≠0∧k≠j+1∧gs[k]? =some a):=by
  intro k a hk
  rcases aset_get (by simpa using hig) hk with h1|⟨h1,hk⟩
  ·exact .inl h1
  ·rcases aset_get hig' hk with h2|⟨h2,hk⟩
   ·exact .inr (.inl h2)
   ·exact .inr (.inr ⟨h1,h2,hk⟩)
 have hcore:Core P F (fun b=>b∈s.cs) s.O ((s.nodes.set (j+1) m').set 0 n') ((gs.setIfInBounds (j+1) x').setIfInBounds 0 g') w' (t++u):=by
  refine h.core.talk hw (by simp) hu hug (fun i b hb=> .inl hb) h.core.ap h.core.new (by simp) fun i a ha=> ?_
  rcases atn i a ha with ⟨rfl,rfl⟩|⟨rfl,rfl⟩|⟨_,_,ha⟩
  ·exact .inr ⟨n1,n2,n3,n4⟩
  ·exact .inr ⟨m1,m2,m3,m4⟩
  ·exact .inl ⟨ha,rfl⟩
 refine ⟨hcore,h.nd,by simpa using hwf,by simp [h.size],fun c hc=>by rw [hback c hc];exact h.back c hc,fun c hc=> ?_,fun a y ha hy=> ?_,fun i a y ha hy=> ?_,⟨h.got.1,fun i=> ?_⟩,fun c a y hc ha hy hp=> ?_⟩
 ·simp only [List.length_set] at hc
  rw [hnext c hc];exact h.next c hc
 ·rcases atn _ _ ha with ⟨_,rfl⟩|⟨e,_⟩|⟨e,_⟩
  ·rcases atg _ _ hy with ⟨_,rfl⟩|⟨e,_⟩|⟨e,_⟩
   ·exact ⟨n5, .inl hr⟩
   ·omega
   ·exact absurd rfl e
  ·omega
  ·exact absurd rfl e
 ·rcases atn _ _ ha with ⟨e,_⟩|⟨e,rfl⟩|⟨_,e,ha⟩
  ·omega
  ·rcases atg _ _ hy with ⟨e',_⟩|⟨_,rfl⟩|⟨_,e',_⟩
   ·omega
   ·have:i=j:=by omega
    subst this
    exact hok
   ·exact absurd e e'
  ·rcases atg _ _ hy with ⟨e',_⟩|⟨e',_⟩|⟨_,_,hy⟩
   ·omega
   ·exact absurd e' e
   ·exact hhand i a y (by omega) ha hy
 ·rw [h.got.2 i]
  by_cases hij:j=i
  ·subst hij
   simp only [List.getElem?_set,if_true,hjl]
   constructor
   ·rintro ⟨q,hq⟩;exact absurd hq (hst q)
   ·rintro ⟨q,hq⟩;exact absurd (Option.some.inj hq) (hst' q)
  ·simp [List.getElem?_set,hij]
 ·rcases atg _ _ hy with ⟨_,rfl⟩|⟨e,_⟩|⟨e,_⟩
  ·have:=hp.blocked
   rw [hr.status] at this;cases this
  ·omega
  ·exact absurd rfl e
theorem FM.sendsMeet (h:FM P F Φ cap End s gs w t) {sl:Option (Nat×Nat)} {n m:Node} {g x:Goroutine} {j cin:Nat} {v:Value} {l:List MAct} (hn:s.nodes[0]? =some n) (hg:gs[0]? =some g) (hr:Runs n g) (hst:n.stopped F) (ha:s.acts= .send j v::l)
  (h1:s.cs[j+1]? =some cin) (hnj:s.nodes[j+1]? =some m) (hgj:gs[j+1]? =some x) (hp:ParkR P F cin m x):
  ∃ gs' w' ops n' m' g' x' st' lst,runT P (crowd gs w sl) 0=(.next (crowd gs' w' sl),ops)∧gs'=(gs.setIfInBounds (j+1) x').setIfInBounds 0 g'∧g'.status= .running∧x'.status= .running∧s.hs[j]? =some (.hears lst)∧st'.wt< (HSt.hears lst).wt∧
   FM P F Φ cap End {s with acts:=l,hs:=s.hs.set j st',nodes:=(s.nodes.set (j+1) m').set 0 n'} gs' w' (t++ops):=by
 obtain ⟨hm,hO,hrel,hwalk⟩:=h.core.nd _ n hn
 have hm:n.main=true:=hm
 obtain ⟨hm2,hO2,hrel2,hwalk2⟩:=h.core.nd _ m hnj
 have hm2:m.main=false:=hm2
 have hig:0<gs.size:=(Array.getElem?_eq_some_iff.1 hg).1
 have hig2:j+1<gs.size:=(Array.getElem?_eq_some_iff.1 hgj).1
 have hstop:=hst w (hO▸hrel)
 rw [(h.main n g hn hg).ses,ha] at hstop
 obtain ⟨cin',h1',_,z,sh,hstep,hk⟩:=hstop
 rw [h1] at h1'
 cases h1'
 have hwf:=h.wf
 rw [ha] at hwf
 obtain ⟨⟨hjk,hjc⟩,hwf⟩:=hwf
 obtain ⟨cin',cout,buf,cl,sn,rc,k1,k2,k3,k4,km⟩:=h.hand j _ _ hnj hgj
 rw [h1] at k1
 cases k1
 have hin:MAct.close j∈s.acts:=by rw [ha];exact List.mem_cons_of_mem _ hjc
 have hclf:cl=false:=by
  cases cl with
  |false=>rfl
  |true=>exact absurd hin (k4.1 rfl)
 subst hclf
 split at km
 case h_2=>cases km.1
 case h_3=>cases km.1
 case h_4=>exact km.elim
 rename_i lst hl
 obtain ⟨q1,q2,q3,q4⟩:=km
 have hb:buf= #[]:=by
  rcases q4 with q4|⟨q4,_⟩
  ·have:=q4.status
   rw [hp.blocked] at this;cases this
  ·exact q4
 subst hb
 have hf:fut j s.acts=v::fut j l:=by rw [ha];simp [fut]
 rw [hf] at q1
 simp only [List.nil_append] at q1
 subst q1
 obtain ⟨hstm,hrunm,zj,shj,rfl,hstepm⟩:=hp
 have hstop2:=hstm w (hO2▸hrel2)
 rw [q3] at hstop2
 obtain ⟨_,zj',shj',hstep',hk2,_⟩:=hstop2
 have he:=hstepm w
 rw [hm2,hstep' w] at he
 simp only [GStep.comm.injEq] at he
 obtain ⟨_,e1,_,e2,_⟩:=he
 have e1:zj'=zj:=by
  have:=congrArg (fun a:Array CommCase=>a.toList) e1
  simp [rcase] at this
  exact this
 subst e1 e2
 have hs':stepG P (0==0) g w= .comm n.g #[scase cin v z] true sh w #[]:=by rw [hr.stepG];exact hstep w
 have hpart:partners (gs.setIfInBounds 0 ph) cin false=[(j+1,0)]:=by
  rw [partners_one (j:=j+1) (g:=parked m.g #[rcase cin zj'] shj') (stand_get (by omega) hgj) fun k y hky hy=> ?_]
  ·rw [offersAt_parked_recv,if_pos rfl];rfl
  ·rcases getElem?_stand gs 0 k y hy with ⟨_,rfl⟩|⟨_,hy⟩
   ·exact offersAt_ph _ _
   rcases h.offers hy with hb|⟨rfl,n',c',hn',hc',⟨_,_,z',sh',rfl,_⟩⟩|⟨i,n',ci,co,rfl,hn',h1',h2',⟨_,_,z',sh',rfl,_⟩|⟨v',_,_,_,z',sh',rfl,_⟩⟩
   ·exact offersAt_of_not_blocked (nb hb) _ _
   ·rw [offersAt_parked_recv,if_neg]
    rintro rfl
    have:=idx_eq h.nd hc' h1
    omega
   ·rw [offersAt_parked_recv,if_neg]
    rintro rfl
    exact hky (idx_eq h.nd h1' h1)
   ·exact offersAt_parked_send' ..
 have hwt:=crowd_send_meets (sl:=sl) hg hs' k3 (by omega) hgj hpart
 have hmem:cin∈s.cs:=List.mem_of_getElem? h1
 have hT:Turns (fun b=>b∈s.cs) w (w.setChan cin cap #[] false (sn+1) (rc+1) false):=Turns.set w hmem ..
 have hlt:cin<w.heap.size:=(Array.getElem?_eq_some_iff.1 k3).1
 have hoth:∀ k c,k≠j+1→s.cs[k]? =some c→(w.setChan cin cap #[] false (sn+1) (rc+1) false).heap[c]? =w.heap[c]? :=by
  intro k c hk hc
  have:cin≠c:=fun e=>by subst e;exact hk (idx_eq h.nd hc h1)
  simp [World.setChan,Array.getElem?_setIfInBounds_ne this]
 obtain ⟨u1,u2,u3⟩:=talk_list (P:=P) (size:=gs.size) (l:=[{g:=0,fn:=n.g.frame.fn,pos:=n.g.frame.place,act:= .send cin sn},{g:=j+1,fn:=m.g.frame.fn,pos:=m.g.frame.place,act:= .recv cin rc cap},{g:=0,fn:=n.g.frame.fn,pos:=n.g.frame.place,act:= .sendDone cin sn},{g:=j+1,fn:=m.g.frame.fn,pos:=m.g.frame.place,act:= .recvDone cin rc}]) (by simp [MemAct.touch?];exact ⟨hig,hig2,hig,hig2⟩)
 have hwk:Co P true F (MainStop P F Φ End l s.cs s.got) (n.g.finishComm P #[scase cin v z] sh 0 undef false) ⟨w,s.O 0⟩:=by rw [← hO];exact hk
 have hwk2:HandS P F Φ cin cout j (fut j l) (m.g.finishComm P #[rcase cin zj'] shj' 0 v true) ⟨w,s.O (j+1)⟩:=by rw [← hO2];exact hk2 v rfl rfl
 have hjl:j<s.hs.length:=(List.getElem?_eq_some_iff.1 hl).1
 refine ⟨_,_,_,⟨true,MainStop P F Φ End l s.cs s.got,n.g.finishComm P #[scase cin v z] sh 0 undef false,⟨w,s.O 0⟩⟩,⟨false,HandStop P F Φ cin cout j (fut j l),m.g.finishComm P #[rcase cin zj'] shj' 0 v true,⟨w,s.O (j+1)⟩⟩,_,_, .hears (fut j l),_,hwt,rfl,rfl,rfl,hl,by simp [HSt.wt],?_⟩
 refine h.both hn hg hnj hgj hwf hT (h.core.ti.quiet (by simpa [MemOp.ofEvents] using u1) (by simpa [MemOp.ofEvents] using u2)) (by simpa [MemOp.ofEvents] using u3) rfl rfl (hT.rel h.core.ap _) hwk rfl (Runs.self rfl) rfl rfl (hT.rel h.core.ap _) hwk2 (Runs.self rfl) (fun q e=>by rw [hl] at e;cases e) (fun q e=>by cases e) hjl (fun c hc=>hoth 0 c (by omega) hc) (fun c hc=>hoth _ c (by omega) hc) ?_ fun i a y hij ha' hy=> ?_
 ·refine ⟨cin,cout,#[],false,sn+1,rc+1,h1,k2,by simp [World.setChan,hlt],?_,?_⟩
  ·simp;exact hjc
  ·simp only [List.getElem?_set,if_true,hjl]
   exact ⟨by simp,by simp at q2;omega,by trivial, .inl (Runs.self rfl)⟩
 ·refine (h.hand i a y ha' hy).frame ?_ ?_ (by simp [List.getElem?_set,Ne.symm hij]) (fun _ h=>h) (fun _ h=>h) (fun c hc=>hoth _ c (by omega) hc) fun op hop _=> ?_
  ·rw [ha];simp [fut,Ne.symm hij]
  ·rw [ha];simp
  ·exact u2 op (by simpa [MemOp.ofEvents] using hop)
theorem FM.mainWaits (h:FM P F Φ cap End s gs w t) {sl:Option (Nat×Nat)} {n:Node} {g:Goroutine} {l:List MAct} {cout:Nat} (hn:s.nodes[0]? =some n) (hg:gs[0]? =some g) (hr:Runs n g) (hst:n.stopped F) (ha:s.acts= .recv::l) (hc:s.cs[0]? =some cout)
  (h0:∀ j m x v,s.nodes[j+1]? =some m→gs[j+1]? =some x→¬ ParkS P F cout v m x):
  ∃ gs' ops g',runT P (crowd gs w sl) 0=(.next (crowd gs' w sl),ops)∧gs'=gs.setIfInBounds 0 g'∧g'.status= .blocked∧FM P F Φ cap End s gs' w (t++ops):=by
 obtain ⟨hm,hO,hrel,hwalk⟩:=h.core.nd _ n hn
 have hm:n.main=true:=hm
 have hig:0<gs.size:=(Array.getElem?_eq_some_iff.1 hg).1
 have hses:=(h.main n g hn hg).ses
 have hstop:=hst w (hO▸hrel)
 rw [hses,ha] at hstop
 obtain ⟨cout',hc',hrun,z,sh,hstep,_⟩:=hstop
 rw [hc] at hc'
 cases hc'
 obtain ⟨sn,hb⟩:=h.back cout hc
 have hpart:partners (gs.setIfInBounds 0 ph) cout true=[]:=by
  refine partners_nil fun k x hx=> ?_
  rcases getElem?_stand gs 0 k x hx with ⟨_,rfl⟩|⟨hki,hx⟩
  ·exact offersAt_ph _ _
  rcases h.offers hx with hb|⟨rfl,_⟩|⟨j,m,ci,co,rfl,hm',h1,h2,⟨_,_,z',sh',rfl,_⟩|⟨v,_,hp⟩⟩
  ·exact offersAt_of_not_blocked (nb hb) _ _
  ·exact absurd rfl hki
  ·exact offersAt_parked_recv' ..
  ·rw [hc] at h2
   cases h2
   exact absurd hp (h0 j m x v hm' hx)
 have hs':stepG P (0==0) g w= .comm n.g #[rcase cout z] true sh w #[]:=by rw [hr.stepG];exact hstep w
 have hwt:=crowd_waits (sl:=sl) hg hs' (fun cc hcc'=>by
  simp only [List.mem_toArray,List.mem_singleton] at hcc'
  subst hcc'
  exact ways_recv_none hb hpart)
 have e0:t++MemOp.ofEvents 0 g.frame.fn g.frame.place #[]=t:=by simp [MemOp.ofEvents]
 refine ⟨_,_,_,hwt,rfl,rfl,?_⟩
 rw [e0]
 have hp:ParkR P F cout n (parked n.g #[rcase cout z] sh):=⟨hst,hrun,z,sh,rfl,by rw [hm];exact hstep⟩
 refine ⟨h.core.stand (by simp),h.nd,h.wf,by simp [h.size],h.back,h.next,fun m x hm' hx=> ?_,fun i m x hm' hx=> ?_,h.got,fun c m x hc' hm' hx hp' j m2 x2 v hm2 hx2=> ?_⟩
 ·rcases aset_get hig hx with ⟨_,rfl⟩|⟨e,_⟩
  ·rw [hn] at hm'
   cases hm'
   exact ⟨hses, .inr ⟨l,cout,ha,hc,hp⟩⟩
  ·exact absurd rfl e
 ·rcases aset_get hig hx with ⟨e,_⟩|⟨_,hx⟩
  ·omega
  ·exact h.hand i m x hm' hx
 ·rcases aset_get hig hx2 with ⟨e,_⟩|⟨_,hx2⟩
  ·omega
  ·rw [hc] at hc'
   cases hc'
   exact h0 j m2 x2 v hm2 hx2
theorem FM.makes (h:FM P F Φ cap End s gs w t) (hE:∀ got g x,End got g x→g.status= .running) {sl:Option (Nat×Nat)} {n:Node} {g:Goroutine} {l:List MAct} {cap':Nat} (hn:s.nodes[0]? =some n) (hg:gs[0]? =some g) (hr:Runs n g) (hst:n.stopped F) (ha:s.acts= .mk cap'::l):
  ∃ gs' w' ops n' g',runT P (crowd gs w sl) 0=(.next (crowd gs' w' sl),ops)∧gs'=gs.setIfInBounds 0 g'∧g'.status= .running∧FM P F Φ cap End {s with acts:=l,cs:=s.cs++[w.heap.size],nodes:=s.nodes.set 0 n'} gs' w' (t++ops):=by
 obtain ⟨hm,hO,hrel,hwalk⟩:=h.core.nd _ n hn
 have hig:0<gs.size:=(Array.getElem?_eq_some_iff.1 hg).1
 have hin:0<s.nodes.length:=(List.getElem?_eq_some_iff.1 hn).1
 have hstop:=hst w (hO▸hrel)
 rw [(h.main n g hn hg).ses,ha] at hstop
 obtain ⟨_,g',hstep,hk⟩:=hstop
 have hwf:=h.wf
 rw [ha] at hwf
 obtain ⟨hcap,hwf⟩:=hwf
 have hs':stepG P (0==0) g w= .go g' (w.alloc (.chan cap' #[] false 0 0 false)) #[]:=by rw [hr.stepG];exact hstep
 have hrun:=runT_crowd_go (P:=P) (sl:=sl) hg hs'
 have hlt:∀ {k c:Nat},s.cs[k]? =some c→c<w.heap.size:=fun hk=>(h.core.ap.Cl _ (List.mem_of_getElem? hk)).1
 have hold:∀ c,c<w.heap.size→(w.alloc (.chan cap' #[] false 0 0 false)).heap[c]? =w.heap[c]? :=fun c hc=>Go.RowKit.Below.heap_alloc w _ c hc
 have hnew:(w.alloc (.chan cap' #[] false 0 0 false)).heap[w.heap.size]? =some (.chan cap' #[] false 0 0 false):=heap_alloc_new w _
 rw [h.still fun b hb=>hold b (h.core.ap.Cl b hb).1] at hrun
 have e0:t++MemOp.ofEvents 0 g.frame.fn g.frame.place #[]=t:=by simp [MemOp.ofEvents]
 have hwk:Co P true F (MainStop P F Φ End l (s.cs++[w.heap.size]) s.got) g' ⟨w.alloc (.chan cap' #[] false 0 0 false),s.O 0⟩:=by rw [← hO];exact hk
 have hgr:g'.status= .running:=stop_running (n:=⟨true,_,g',_⟩) hwk fun g x hx=>MainStop.running hE hx
 refine ⟨_,_,_,⟨true,MainStop P F Φ End l (s.cs++[w.heap.size]) s.got,g',⟨w.alloc (.chan cap' #[] false 0 0 false),s.O 0⟩⟩,g',hrun,rfl,hgr,?_⟩
 rw [e0]
 have hcore:=h.core.chan (.chan cap' #[] false 0 0 false) (gs':=gs.setIfInBounds 0 g') (by simp) (i:=0) (n':=⟨true,MainStop P F Φ End l (s.cs++[w.heap.size]) s.got,g',⟨w.alloc (.chan cap' #[] false 0 0 false),s.O 0⟩⟩) rfl rfl (Rel.refl _ _ _) hwk
 have hC:(fun b=>b∈s.cs∨b=w.heap.size)=fun b=>b∈s.cs++[w.heap.size]:=by
  funext b;simp
 rw [hC] at hcore
 have happ:∀ k c,s.cs[k]? =some c→(s.cs++[w.heap.size])[k]? =some c:=fun k c hk=>by
  rw [List.getElem?_append_left (List.getElem?_eq_some_iff.1 hk).1];exact hk
 have hat:∀ k c,(s.cs++[w.heap.size])[k]? =some c→s.cs[k]? =some c∨(k=s.cs.length∧c=w.heap.size):=by
  intro k c hk
  rcases Nat.lt_or_ge k s.cs.length with hl|hl
  ·rw [List.getElem?_append_left hl] at hk;exact .inl hk
  ·rw [List.getElem?_append_right hl] at hk
   have:k - s.cs.length=0:=by
    have:=(List.getElem?_eq_some_iff.1 hk).1
    simp at this
    omega
   rw [this] at hk
   exact .inr ⟨by omega,by simpa using hk.symm⟩
 refine ⟨hcore,?_,by simpa using hwf,by simp [h.size],fun c hc=> ?_,fun c hc=> ?_,fun m x hm' hx=> ?_,fun i m x hm' hx=> ?_,h.got,fun c m x hc hm' hx hp=> ?_⟩
 ·refine List.nodup_append.2 ⟨h.nd,by simp,fun a ha b hb=> ?_⟩
  simp only [List.mem_singleton] at hb
  subst hb
  have:=(h.core.ap.Cl a ha).1
  omega
 ·rcases hat 0 c hc with hc|⟨e,rfl⟩
  ·rw [hold c (hlt hc)];exact h.back c hc
  ·rcases hcap with ⟨_,rfl⟩|⟨hk,_⟩
   ·exact ⟨0,hnew⟩
   ·omega
 ·rcases hat _ c hc with hc|⟨e,rfl⟩
  ·rw [hold c (hlt hc)];exact h.next c hc
  ·rcases hcap with ⟨hk,_⟩|⟨_,rfl⟩
   ·simp only at e;omega
   ·exact hnew
 ·rcases set_get hin hm' with ⟨_,rfl⟩|⟨e,_⟩
  ·rcases aset_get hig hx with ⟨_,rfl⟩|⟨e,_⟩
   ·exact ⟨rfl, .inl (Runs.self hgr)⟩
   ·exact absurd rfl e
  ·exact absurd rfl e
 ·rcases set_get hin hm' with ⟨e,_⟩|⟨_,hm'⟩
  ·omega
  rcases aset_get hig hx with ⟨e,_⟩|⟨_,hx⟩
  ·omega
  have:=(h.hand i m x hm' hx).frame (s':= {s with acts:=l,cs:=s.cs++[w.heap.size],nodes:=s.nodes.set 0 ⟨true,MainStop P F Φ End l (s.cs++[w.heap.size]) s.got,g',⟨w.alloc (.chan cap' #[] false 0 0 false),s.O 0⟩⟩}) (w':=w.alloc (.chan cap' #[] false 0 0 false)) (u:= #[])
   (by rw [ha];simp [fut]) (by rw [ha];simp) rfl (fun c hc=>happ _ c hc) (fun c hc=>happ _ c hc) (fun c hc=>hold c (hlt hc)) (fun op hop=>by simp at hop)
  simpa using this
 ·rcases aset_get hig hx with ⟨_,rfl⟩|⟨e,_⟩
  ·have:=hp.blocked
   rw [hgr] at this;cases this
  ·exact absurd rfl e
theorem FM.starts (h:FM P F Φ cap End s gs w t) {sl:Option (Nat×Nat)} {n:Node} {g:Goroutine} {l:List MAct} {j:Nat} (hn:s.nodes[0]? =some n) (hg:gs[0]? =some g) (hr:Runs n g) (hst:n.stopped F) (ha:s.acts= .go j::l):
  ∃ gs' ops n' nc g' child,runT P (crowd gs w sl) 0=(.next (crowd gs' w sl),ops)∧gs'=(gs.setIfInBounds 0 g').push child∧g'.status= .running∧child.status= .running∧
   FM P F Φ cap End {s with acts:=l,hs:=s.hs++[.hears (Φ.msgs j)],nodes:=s.nodes.set 0 n'++[nc]} gs' w (t++ops):=by
 obtain ⟨hm,hO,hrel,hwalk⟩:=h.core.nd _ n hn
 have hig:0<gs.size:=(Array.getElem?_eq_some_iff.1 hg).1
 have hin:0<s.nodes.length:=(List.getElem?_eq_some_iff.1 hn).1
 have hstop:=hst w (hO▸hrel)
 rw [(h.main n g hn hg).ses,ha] at hstop
 obtain ⟨_,g',child,hstep,hgr,hcr,⟨cin,cout,h1,h2,hhand⟩,hk⟩:=hstop
 have hwf:=h.wf
 rw [ha] at hwf
 obtain ⟨⟨rfl,hc,hlt,hcl,hfut,hlen⟩,hwf⟩:=hwf
 have hs':stepG P (0==0) g w= .spawn g' child w #[]:=by rw [hr.stepG];exact hstep
 have hrun:=runT_crowd_spawn (P:=P) (sl:=sl) hg hs'
 have hwk:Co P true F (MainStop P F Φ End l s.cs s.got) g' ⟨w,s.O 0⟩:=by rw [← hO];exact hk
 refine ⟨_,_,⟨true,MainStop P F Φ End l s.cs s.got,g',⟨w,s.O 0⟩⟩,⟨false,HandStop P F Φ cin cout s.hs.length (Φ.msgs s.hs.length),child,⟨w,fun _=>False⟩⟩,g',child,hrun,rfl,hgr,hcr,?_⟩
 obtain ⟨u1,u2,u3⟩:=talk_list (P:=P) (size:=gs.size+1) (l:=[{g:=0,fn:=g.frame.fn,pos:=g.frame.place,act:= .go gs.size},{g:=gs.size,fn:=child.frame.fn,pos:=g.frame.place,act:= .start}]) (by simp [MemAct.touch?])
 have hcore:=h.core.born (gs':=(gs.setIfInBounds 0 g').push child) (by simp) hig (n':=⟨true,MainStop P F Φ End l s.cs s.got,g',⟨w,s.O 0⟩⟩) (nc:=⟨false,HandStop P F Φ cin cout s.hs.length (Φ.msgs s.hs.length),child,⟨w,fun _=>False⟩⟩) rfl rfl (Rel.refl _ _ _) hwk rfl rfl (Rel.refl _ _ _) hhand (u:=(MemOp.ofEvents 0 g.frame.fn g.frame.place #[]).push {g:=0,fn:=g.frame.fn,pos:=g.frame.place,act:= .go gs.size}|>.push {g:=gs.size,fn:=child.frame.fn,pos:=g.frame.place,act:= .start})
  (by simpa [MemOp.ofEvents] using u1) (by simpa [MemOp.ofEvents] using u2) (by simp [MemOp.ofEvents])
 have hsz:s.nodes.length=s.hs.length+1:=by rw [h.core.sz,h.size]
 have atn:∀ k a,(s.nodes.set 0 (⟨true,MainStop P F Φ End l s.cs s.got,g',⟨w,s.O 0⟩⟩:Node)++[⟨false,HandStop P F Φ cin cout s.hs.length (Φ.msgs s.hs.length),child,⟨w,fun _=>False⟩⟩])[k]? =some a→
   (k=0∧a=⟨true,MainStop P F Φ End l s.cs s.got,g',⟨w,s.O 0⟩⟩)∨(k=s.hs.length+1∧a=⟨false,HandStop P F Φ cin cout s.hs.length (Φ.msgs s.hs.length),child,⟨w,fun _=>False⟩⟩)∨(k≠0∧k<s.hs.length+1∧s.nodes[k]? =some a):=by
  intro k a hk
  rcases Nat.lt_or_ge k s.nodes.length with hl|hl
  ·rw [List.getElem?_append_left (by simpa using hl)] at hk
   rcases set_get hin hk with h1|⟨h1,hk⟩
   ·exact .inl h1
   ·exact .inr (.inr ⟨h1,by omega,hk⟩)
  ·rw [List.getElem?_append_right (by simpa using hl)] at hk
   have h0:k - (s.nodes.set 0 (⟨true,MainStop P F Φ End l s.cs s.got,g',⟨w,s.O 0⟩⟩:Node)).length=0:=by
    have:=(List.getElem?_eq_some_iff.1 hk).1
    simp at this ⊢
    omega
   rw [h0] at hk
   simp only [List.length_set] at h0
   exact .inr (.inl ⟨by omega,by simpa using hk.symm⟩)
 have atg:∀ k a,((gs.setIfInBounds 0 g').push child)[k]? =some a→(k=0∧a=g')∨(k=s.hs.length+1∧a=child)∨(k≠0∧k<s.hs.length+1∧gs[k]? =some a):=by
  intro k a hk
  rw [Array.getElem?_push] at hk
  split at hk
  ·rename_i e
   simp only [Array.size_setIfInBounds] at e
   have:=h.size
   exact .inr (.inl ⟨by omega,(Option.some.inj hk).symm⟩)
  ·rcases aset_get hig hk with h1|⟨h1,hk⟩
   ·exact .inl h1
   ·have:=(Array.getElem?_eq_some_iff.1 hk).1
    have:=h.size
    exact .inr (.inr ⟨h1,by omega,hk⟩)
 refine ⟨hcore,h.nd,by simpa using hwf,by simp [h.size],h.back,fun c hcc=> ?_,fun m x hm' hx=> ?_,fun i m x hm' hx=> ?_,⟨h.got.1,fun i=> ?_⟩,fun c m x hcc hm' hx hp=> ?_⟩
 ·have:=(List.getElem?_eq_some_iff.1 hcc).1
  simp at this
  omega
 ·rcases atn _ _ hm' with ⟨_,rfl⟩|⟨e,_⟩|⟨e,_⟩
  ·rcases atg _ _ hx with ⟨_,rfl⟩|⟨e,_⟩|⟨e,_⟩
   ·exact ⟨rfl, .inl (Runs.self hgr)⟩
   ·omega
   ·exact absurd rfl e
  ·omega
  ·exact absurd rfl e
 ·rcases atn _ _ hm' with ⟨e,_⟩|⟨e,rfl⟩|⟨_,e,hm'⟩
  ·omega
  ·rcases atg _ _ hx with ⟨e',_⟩|⟨_,rfl⟩|⟨_,e',_⟩
   ·omega
   ·have:i=s.hs.length:=by omega
    subst this
    refine ⟨cin,cout,#[],false,0,0,h1,h2,h.next cin h1,?_,?_⟩
    ·simp;exact hcl
    ·simp only [List.getElem?_append_right (Nat.le_refl _),Nat.sub_self,List.getElem?_cons_zero]
     exact ⟨by simpa using hfut.symm,hlen,by trivial, .inl (Runs.self hcr)⟩
   ·omega
  ·rcases atg _ _ hx with ⟨e',_⟩|⟨e',_⟩|⟨_,_,hx⟩
   ·omega
   ·omega
   ·refine (h.hand i m x hm' hx).frame (by rw [ha];simp [fut]) (by rw [ha];simp) (by rw [List.getElem?_append_left (by omega)]) (fun _ h=>h) (fun _ h=>h) (fun _ _=>rfl) fun op hop _=> ?_
    exact u2 op (by simpa [MemOp.ofEvents] using hop)
 ·rw [h.got.2 i]
  rcases Nat.lt_or_ge i s.hs.length with hl|hl
  ·rw [List.getElem?_append_left hl]
  ·rw [List.getElem?_append_right hl]
   constructor
   ·rintro ⟨q,hq⟩
    rw [List.getElem?_eq_none hl] at hq;cases hq
   ·rintro ⟨q,hq⟩
    have:=List.mem_of_getElem? hq
    simp at this
 ·rcases atg _ _ hx with ⟨_,rfl⟩|⟨e,_⟩|⟨e,_⟩
  ·have:=hp.blocked
   rw [hgr] at this;cases this
  ·omega
  ·exact absurd rfl e
theorem FM.closes (h:FM P F Φ cap End s gs w t) {sl:Option (Nat×Nat)} {n:Node} {g:Goroutine} {l:List MAct} {j:Nat} (hn:s.nodes[0]? =some n) (hg:gs[0]? =some g) (hr:Runs n g) (hst:n.stopped F) (ha:s.acts= .close j::l):
  ∃ gs' w' ops n' m st',runT P (crowd gs w sl) 0=(.next (crowd gs' w' sl),ops)∧s.hs[j]? =some st'∧FM P F Φ cap End {s with acts:=l,hs:=s.hs.set j st',nodes:=(s.nodes.set (j+1) m).set 0 n'} gs' w' (t++ops):=by
 obtain ⟨hm,hO,hrel,hwalk⟩:=h.core.nd _ n hn
 have hig:0<gs.size:=(Array.getElem?_eq_some_iff.1 hg).1
 have hstop:=hst w (hO▸hrel)
 rw [(h.main n g hn hg).ses,ha] at hstop
 obtain ⟨cin,h1,_,hmw,g',hgr,hstep,hk⟩:=hstop
 have hwf:=h.wf
 rw [ha] at hwf
 obtain ⟨⟨hjk,hjc,hjf⟩,hwf⟩:=hwf
 have hjs:j+1<gs.size:=by rw [h.size];omega
 have hgj:gs[j+1]? =some gs[j+1]:=Array.getElem?_eq_getElem hjs
 generalize hxe:gs[j+1]=x at hgj
 have hnj:s.nodes[j+1]? =some (s.nodes[j+1]'(by rw [h.core.sz];exact hjs)):=List.getElem?_eq_getElem _
 generalize (s.nodes[j+1]'(by rw [h.core.sz];exact hjs))=m at hnj
 obtain ⟨hm2,hO2,hrel2,hwalk2⟩:=h.core.nd _ m hnj
 have hm2:m.main=false:=hm2
 obtain ⟨cin',cout,buf,cl,sn,rc,k1,k2,k3,k4,km⟩:=h.hand j _ _ hnj hgj
 rw [h1] at k1
 cases k1
 have hclf:cl=false:=by
  cases cl with
  |false=>rfl
  |true=>exact absurd (by rw [ha];exact List.mem_cons_self) (k4.1 rfl)
 subst hclf
 split at km
 case h_2=>cases km.1
 case h_3=>cases km.1
 case h_4=>exact km.elim
 rename_i lst hl
 obtain ⟨q1,q2,q3,q4⟩:=km
 have hf:fut j s.acts=fut j l:=by rw [ha];simp [fut]
 have hs':stepG P (0==0) g w= .go g' (w.setChan cin cap buf true sn rc false) (closeEvents cin):=by rw [hr.stepG];exact hstep w cap buf sn rc false k3
 have hrun:=runT_crowd_go (P:=P) (sl:=sl) hg hs'
 have hmem:cin∈s.cs:=List.mem_of_getElem? h1
 have hlt:cin<w.heap.size:=(Array.getElem?_eq_some_iff.1 k3).1
 have hT:Turns (fun b=>b∈s.cs) w (w.setChan cin cap buf true sn rc false):=Turns.set w hmem ..
 have hoth:∀ k c,k≠j+1→s.cs[k]? =some c→(w.setChan cin cap buf true sn rc false).heap[c]? =w.heap[c]? :=by
  intro k c hk hc
  have:cin≠c:=fun e=>by subst e;exact hk (idx_eq h.nd hc h1)
  simp [World.setChan,Array.getElem?_setIfInBounds_ne this]
 have hnow:(w.setChan cin cap buf true sn rc false).heap[cin]? =some (.chan cap buf true sn rc false):=by simp [World.setChan,hlt]
 have hmw':mayWake P g=true:=by
  have:mayWake P g=mayWake P n.g:=by unfold mayWake;rw [hr.frame]
  rw [this];exact hmw
 obtain ⟨x',hx',hrx⟩:∃ x',woken P g g' (w.setChan cin cap buf true sn rc false) x=x'∧Runs m x':=by
  rcases q4 with q4|⟨_,_,q4⟩
  ·exact ⟨x,woken_running q4.status,q4⟩
  ·obtain ⟨_,_,z,sh,rfl,_⟩:=q4
   refine ⟨{m.g with status:= .running,offers:=some (#[rcase cin z],sh)},?_,⟨_,rfl⟩⟩
   simp [woken,hmw',hgr,Goroutine.again,parked,rcase,hnow]
 have hgs:(gs.map (woken P g g' (w.setChan cin cap buf true sn rc false))).setIfInBounds 0 g'=(gs.setIfInBounds (j+1) x').setIfInBounds 0 g':=by
  apply Array.ext_getElem?
  intro k
  by_cases hk0:0=k
  ·subst hk0
   rw [Array.getElem?_setIfInBounds_self_of_lt (by simpa using hig),Array.getElem?_setIfInBounds_self_of_lt (by simpa using hig)]
  rw [Array.getElem?_setIfInBounds_ne hk0,Array.getElem?_setIfInBounds_ne hk0,Array.getElem?_map]
  by_cases hkj:j+1=k
  ·subst hkj
   rw [Array.getElem?_setIfInBounds_self_of_lt hjs,hgj]
   simp [hx']
  ·rw [Array.getElem?_setIfInBounds_ne hkj]
   cases hy:gs[k]? with
   |none=>rfl
   |some y=>
    simp only [Option.map_some,Option.some.injEq]
    rcases h.offers hy with hb|⟨rfl,_⟩|⟨i,n',ci,co,rfl,hn',h1',h2',⟨_,_,z',sh',rfl,_⟩|⟨v',hl',_,_,z',sh',rfl,_⟩⟩
    ·unfold woken
     split
     ·exact again_running _ hb
     ·rfl
    ·exact absurd rfl hk0
    ·obtain ⟨cin2,cout2,buf2,cl2,sn2,rc2,r1,r2,r3,r4,rm⟩:=h.hand i _ _ hn' hy
     rw [h1'] at r1;cases r1
     split at rm
     ·rcases rm.2.2.2 with rr|⟨_,rr,_⟩
      ·have:=rr.status;cases this
      ·subst rr
       exact woken_recv_open g g' (by rw [hoth (i+1) ci (fun e=>hkj e.symm) h1'];exact r3)
     ·rcases rm.2.2 with rr|⟨_,_,_,_,_,e,_⟩
      ·have:=rr.status;cases this
      ·simp only [parked,Goroutine.mk.injEq,Option.some.injEq,Prod.mk.injEq] at e
       have:=e.2.2.2.2.1
       simp [rcase,scase] at this
     ·rcases rm.2.1.status with e|e<;>cases e
     ·exact rm.elim
    ·obtain ⟨sn',hb⟩:=h.back co h2'
     exact woken_send_open g g' (by rw [hoth 0 co (by omega) h2'];exact hb)
 rw [hgs] at hrun
 have hwk:Co P true F (MainStop P F Φ End l s.cs s.got) g' ⟨w,s.O 0⟩:=by rw [← hO];exact hk
 have hjl:j<s.hs.length:=(List.getElem?_eq_some_iff.1 hl).1
 have hops:∀ op∈MemOp.ofEvents 0 g.frame.fn g.frame.place (closeEvents cin),op.g=0∧(op.act= .access ⟨.obj cin,false,true⟩∨op.act= .close cin):=by
  intro op hop
  rw [ofEvents_eq] at hop
  obtain ⟨e,he,rfl⟩:=Array.mem_map.1 hop
  simp only [closeEvents,List.mem_toArray,List.mem_cons,List.not_mem_nil,or_false] at he
  rcases he with rfl|rfl
  ·exact ⟨rfl, .inl rfl⟩
  ·exact ⟨rfl, .inr rfl⟩
 refine ⟨_,_,_,⟨true,MainStop P F Φ End l s.cs s.got,g',⟨w,s.O 0⟩⟩,m, .hears lst,hrun,hl,?_⟩
 refine h.both hn hg hnj hgj hwf hT (h.core.ti.sync h.core.ap (i:=0) (fun op hop mk hmk=> ?_) (fun op hop=>(hops op hop).1) fun op hop a hta=> ?_) (fun op hop=>by rw [(hops op hop).1];exact hig) rfl rfl (hT.rel h.core.ap _) hwk rfl (Runs.self hgr) hm2 hO2 (hrel2.trans (hT.rel h.core.ap _)) hwalk2 hrx (fun q e=>by rw [hl] at e;cases e) (fun q e=>by cases e) hjl (fun c hc=>hoth 0 c (by omega) hc) (fun c hc=>hoth _ c (by omega) hc) ?_ fun i a y hij ha' hy=> ?_
 ·rcases (hops op hop).2 with e|e<;>rw [e] at hmk<;>cases hmk
 ·rcases (hops op hop).2 with e|e<;>rw [e] at hta<;>simp only [MemAct.touch?] at hta<;>cases hta
  exact ⟨cin,rfl,hmem,rfl⟩
 ·refine ⟨cin,cout,buf,true,sn,rc,h1,k2,hnow,?_,?_⟩
  ·simp;exact hjc
  ·simp only [List.getElem?_set,if_true,hjl]
   exact ⟨by rw [q1,hf],q2,q3, .inl hrx⟩
 ·refine (h.hand i a y ha' hy).frame ?_ ?_ (by simp [List.getElem?_set,Ne.symm hij]) (fun _ h=>h) (fun _ h=>h) (fun c hc=>hoth _ c (by omega) hc) fun op hop hgop=> ?_
  ·rw [ha];simp [fut]
  ·rw [ha];simp [hij]
  ·rw [(hops op hop).1] at hgop;omega
end
end Go.Sx
end
