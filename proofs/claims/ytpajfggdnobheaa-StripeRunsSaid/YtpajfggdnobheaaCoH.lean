/- A part of the proof of StripeRuns. Conditions: none. -/
import Derived.Test.YtpajfggdnobheaaCoF
set_option linter.unusedVariables false
set_option linter.unusedSimpArgs false
section
namespace Go.Sx
open Go Go.Conc
section
variable {P:Program} {F:Nat→Prop} {Φ:Fan} {cap:Nat} {End:List Nat→Goroutine→OW→Prop} {s:FSt} {gs:Array Goroutine} {w:World} {t:Trace}
def overO (O:Nat→Nat→Prop) (j:Nat) (B:Nat→Prop):Nat→Nat→Prop:=fun i b=>(i=0∧(O 0 b∨B b))∨(i≠0∧i≠j+1∧O i b)
theorem overO_0 (O:Nat→Nat→Prop) (j:Nat) (B:Nat→Prop):overO O j B 0=fun b=>O 0 b∨B b:=by
 funext b;simp [overO]
theorem overO_j (O:Nat→Nat→Prop) (j:Nat) (B:Nat→Prop):overO O j B (j+1)=fun _=>False:=by
 funext b;simp [overO]
theorem overO_ne (O:Nat→Nat→Prop) {i j:Nat} (B:Nat→Prop) (h0:i≠0) (hj:i≠j+1):overO O j B i=O i:=by
 funext b;simp [overO,h0,hj]
theorem FM.hands (h:FM P F Φ cap End s gs w t) {j:Nat} {n m:Node} {g x g' x':Goroutine} {l:List MAct} {cout sn q:Nat} {B:Nat→Prop} {w':World} {u:Trace} {gs':Array Goroutine} {a b:Nat} {e1 e2:MemOp}
  (hn:s.nodes[0]? =some n) (hg:gs[0]? =some g) (hm:s.nodes[j+1]? =some m) (hx:gs[j+1]? =some x) (ha:s.acts= .recv::l) (hl:s.hs[j]? =some .tells) (hc:s.cs[0]? =some cout)
  (hb:w.heap[cout]? =some (.chan 0 #[] false sn sn false)) (hw':∃ d,w'=(w.at d).setChan cout 0 #[] false (sn+1) (sn+1) false) (hB:∀ b,B b→s.O (j+1) b)
  (hu:Wordless u) (hut:∀ op∈u,op.act.touch? =none) (hug:∀ op∈u,op.g<gs.size)
  (ha1:t.size≤a) (ha2:(t++u)[a]? =some e1) (ha3:e1.g=j+1) (ha4:e1.act= .send cout sn) (hb2:(t++u)[b]? =some e2) (hb3:e2.g=0) (hb4:e2.act= .recvDone cout sn)
  (hgs:gs'.size=gs.size∧gs'[0]? =some g'∧gs'[j+1]? =some x'∧∀ k,k≠0→k≠j+1→gs'[k]? =gs[k]?)
  (hwk:Co P true F (MainStop P F Φ End l s.cs (s.got++[j])) g' ⟨w,fun b=>s.O 0 b∨B b⟩) (hr:g'.status= .running) (hq:QuitsIn P q x'):
  ∃ n' m',FM P F Φ cap End ⟨l,s.cs,s.got++[j],s.hs.set j (.gone q),overO s.O j B,(s.nodes.set (j+1) m').set 0 n'⟩ gs' w' (t++u):=by
 obtain ⟨d,rfl⟩:=hw'
 obtain ⟨z1,z2,z3,z4⟩:=hgs
 have hjl:j<s.hs.length:=(List.getElem?_eq_some_iff.1 hl).1
 have hin:0<s.nodes.length:=(List.getElem?_eq_some_iff.1 hn).1
 have hin':j+1<s.nodes.length:=(List.getElem?_eq_some_iff.1 hm).1
 have hmem:cout∈s.cs:=List.mem_of_getElem? hc
 have hlt:cout<w.heap.size:=(Array.getElem?_eq_some_iff.1 hb).1
 have hwf:=h.wf
 rw [ha] at hwf
 obtain ⟨⟨hk,hrl,hcl⟩,hwf⟩:=hwf
 have hT:Turns (fun b=>b∈s.cs) w ((w.at d).setChan cout 0 #[] false (sn+1) (sn+1) false):=by
  have:=Turns.set (w.at d) (C:=fun b=>b∈s.cs) hmem 0 #[] false (sn+1) (sn+1) false
  exact ⟨this.os,this.tape,this.output,this.size,this.heap⟩
 have hoth:∀ k c,k≠0→s.cs[k]? =some c→((w.at d).setChan cout 0 #[] false (sn+1) (sn+1) false).heap[c]? =w.heap[c]? :=by
  intro k c hk hc'
  have:cout≠c:=fun e=>by subst e;exact hk (idx_eq h.nd hc' hc)
  simp [World.setChan,Array.getElem?_setIfInBounds_ne this]
  rfl
 have over:∀ k,Knows t (j+1) k→Knows (t++u) 0 k:=fun k hk=>knows_over (h.core.ti.wordless.append hu) ha1 ha2 ha3 ha4 hb2 hb3 hb4 hk
 have hO:∀ i b,overO s.O j B i b→s.O i b∨(i=0∧B b):=by
  rintro i b (⟨rfl,h1|h1⟩|⟨_,_,h1⟩)
  ·exact .inl h1
  ·exact .inr ⟨rfl,h1⟩
  ·exact .inl h1
 have hap:Apart F (fun b=>b∈s.cs) (overO s.O j B) w.heap.size:=by
  refine ⟨h.core.ap.Fl,h.core.ap.Cl,fun i b hb=> ?_,fun i k b h1 h2=> ?_⟩
  ·rcases hO i b hb with hb|⟨_,hb⟩
   ·exact h.core.ap.Ol i b hb
   ·exact h.core.ap.Ol _ b (hB b hb)
  ·rcases h1 with ⟨rfl,h1|h1⟩|⟨e1,e1',h1⟩<;>rcases h2 with ⟨rfl,h2|h2⟩|⟨e2,e2',h2⟩
   ·rfl
   ·rfl
   ·exact h.core.ap.two _ _ b h1 h2
   ·rfl
   ·rfl
   ·exact absurd (h.core.ap.two _ _ b (hB b h1) h2).symm e2'
   ·exact h.core.ap.two _ _ b h1 h2
   ·exact absurd (h.core.ap.two _ _ b h1 (hB b h2)) e1'
   ·exact h.core.ap.two _ _ b h1 h2
 let n':Node:=⟨true,MainStop P F Φ End l s.cs (s.got++[j]),g',⟨w,fun b=>s.O 0 b∨B b⟩⟩
 let m':Node:=⟨false,fun _ _=>True,x',⟨w,fun _=>False⟩⟩
 have atn:∀ k a,((s.nodes.set (j+1) m').set 0 n')[k]? =some a→(k=0∧a=n')∨(k=j+1∧a=m')∨(k≠0∧k≠j+1∧s.nodes[k]? =some a):=by
  intro k a hk
  rcases set_get (by simpa using hin) hk with h1|⟨h1,hk⟩
  ·exact .inl h1
  ·rcases set_get hin' hk with h2|⟨h2,hk⟩
   ·exact .inr (.inl h2)
   ·exact .inr (.inr ⟨h1,h2,hk⟩)
 have atg:∀ k a,gs'[k]? =some a→(k=0∧a=g')∨(k=j+1∧a=x')∨(k≠0∧k≠j+1∧gs[k]? =some a):=by
  intro k a hk
  by_cases e:k=0
  ·subst e;rw [z2] at hk;exact .inl ⟨rfl,(Option.some.inj hk).symm⟩
  by_cases e':k=j+1
  ·subst e';rw [z3] at hk;exact .inr (.inl ⟨rfl,(Option.some.inj hk).symm⟩)
  rw [z4 k e e'] at hk
  exact .inr (.inr ⟨e,e',hk⟩)
 refine ⟨n',m',?_⟩
 have hcore:Core P F (fun b=>b∈s.cs) (overO s.O j B) ((s.nodes.set (j+1) m').set 0 n') gs' ((w.at d).setChan cout 0 #[] false (sn+1) (sn+1) false) (t++u):=by
  refine h.core.talk hT z1 (h.core.ti.quiet hu hut) hug (fun i b hb=> ?_) hap (fun i b hb=> ?_) (by simp) fun i a ha=> ?_
  ·rcases hO i b hb with h1|⟨rfl,h1⟩
   ·exact .inl h1
   ·refine .inr fun k a hka hbk=> ?_
    obtain ⟨op,hop,hopa⟩:=touch_of hka
    rcases getElem?_append_cases hop with ⟨_,hop'⟩|⟨_,hopu⟩
    ·obtain ⟨b',g1,g2,g3⟩:=h.core.ti.touch k a (by rw [touchAt_of hop'];exact hopa)
     rw [hbk] at g1
     cases g1
     obtain ⟨_,k1,k2⟩:=h.core.ap.Ol _ b (hB b h1)
     rcases g3 with ⟨g3,_⟩|⟨g3,_⟩|⟨_,_,g3⟩
     ·exact absurd g3 k1
     ·exact absurd g3 k2
     ·exact over k (g3 _ (hB b h1))
    ·rw [hut op hopu] at hopa;cases hopa
  ·rcases hO i b hb with h1|⟨rfl,h1⟩
   ·exact h.core.new i b h1
   ·have:=h.core.new _ b (hB b h1)
    omega
  ·rcases atn i a ha with ⟨rfl,rfl⟩|⟨rfl,rfl⟩|⟨e1,e2,ha⟩
   ·refine .inr ⟨rfl,(overO_0 _ _ _).symm,?_,hwk⟩
    rw [overO_0]
    refine ⟨hT.os,hT.tape,hT.output,Nat.le_of_eq hT.size.symm,fun b hb=>hT.heap b fun hc'=> ?_⟩
    rcases hb with (hb|hb)|hb
    ·exact (h.core.ap.Ol 0 b hb).2.2 hc'
    ·exact (h.core.ap.Ol _ b (hB b hb)).2.2 hc'
    ·exact (h.core.ap.Cl b hc').2 hb
   ·refine .inr ⟨by simp [m'],(overO_j _ _ _).symm,?_, .stop fun _ _=>trivial⟩
    rw [overO_j]
    exact ⟨hT.os,hT.tape,hT.output,Nat.le_of_eq hT.size.symm,fun b hb=>hT.heap b fun hc'=>hb.elim id fun hb=>(h.core.ap.Cl b hc').2 hb⟩
   ·exact .inl ⟨ha,overO_ne _ _ e1 e2⟩
 have hnew:((w.at d).setChan cout 0 #[] false (sn+1) (sn+1) false).heap[cout]? =some (.chan 0 #[] false (sn+1) (sn+1) false):=by
  have:cout< (w.at d).heap.size:=hlt
  simp [World.setChan,this]
 have hjg:j∉s.got:=fun hj=>by
  obtain ⟨q',hq'⟩:=(h.got.2 j).1 hj
  rw [hl] at hq';cases hq'
 refine ⟨hcore,h.nd,by simpa using hwf,by simp [z1,h.size],fun c hc'=> ?_,fun c hc'=> ?_,fun a y ha' hy=> ?_,fun i a y ha' hy=> ?_,⟨?_,fun i=> ?_⟩,fun c a y hc' ha' hy hp=> ?_⟩
 ·rw [hc] at hc';cases hc'
  exact ⟨_,hnew⟩
 ·simp only [List.length_set] at hc'
  rw [hoth _ c (by omega) hc'];exact h.next c hc'
 ·rcases atn _ _ ha' with ⟨_,rfl⟩|⟨e,_⟩|⟨e,_⟩
  ·rcases atg _ _ hy with ⟨_,rfl⟩|⟨e,_⟩|⟨e,_⟩
   ·exact ⟨rfl, .inl (Runs.self hr)⟩
   ·omega
   ·exact absurd rfl e
  ·omega
  ·exact absurd rfl e
 ·rcases atn _ _ ha' with ⟨e,_⟩|⟨e,rfl⟩|⟨_,e,ha'⟩
  ·omega
  ·rcases atg _ _ hy with ⟨e',_⟩|⟨_,rfl⟩|⟨_,e',_⟩
   ·omega
   ·have:i=j:=by omega
    subst this
    obtain ⟨cin,cout',buf,cl,sn',rc,k1,k2,k3,k4,km⟩:=h.hand i m x hm hx
    rw [hl] at km
    refine ⟨cin,cout',buf,cl,sn',rc,k1,k2,by rw [hoth (i+1) cin (by omega) k1];exact k3,?_,?_⟩
    ·rw [k4,ha];simp
    ·simp only [List.getElem?_set,if_true,hjl]
     refine ⟨km.1,hq,fun k op hop hopg hopt=> ?_⟩
     rcases getElem?_append_cases hop with ⟨_,hop'⟩|⟨_,hopu⟩
     ·have:=knows_own hop'
      rw [hopg] at this
      exact over k this
     ·exact absurd (hut op hopu) hopt
   ·exact absurd e e'
  ·rcases atg _ _ hy with ⟨e',_⟩|⟨e',_⟩|⟨_,_,hy⟩
   ·omega
   ·exact absurd e' e
   ·refine (h.hand i a y ha' hy).frame (by rw [ha];simp [fut]) (by rw [ha];simp) ?_ (fun _ h=>h) (fun _ h=>h) (fun c hc'=>hoth _ c (by omega) hc') fun op hop _=>hut op hop
    have hij:i≠j:=by omega
    simp [List.getElem?_set,Ne.symm hij]
 ·exact List.nodup_append.2 ⟨h.got.1,by simp,fun a ha' b hb' e=>by
   simp only [List.mem_singleton] at hb'
   subst hb' e
   exact hjg ha'⟩
 ·simp only [List.mem_append,List.mem_singleton,List.getElem?_set]
  by_cases hij:j=i
  ·subst hij
   simp [hjl]
  ·rw [h.got.2 i]
   simp [hij,Ne.symm hij]
 ·rcases atg _ _ hy with ⟨_,rfl⟩|⟨e,_⟩|⟨e,_⟩
  ·have:=hp.blocked
   rw [hr] at this;cases this
  ·omega
  ·exact absurd rfl e
theorem set_two {gs:Array Goroutine} {i j:Nat} (hij:i≠j) (hi:i<gs.size) (hj:j<gs.size) (x y:Goroutine):
  ((gs.setIfInBounds i x).setIfInBounds j y).size=gs.size∧((gs.setIfInBounds i x).setIfInBounds j y)[i]? =some x∧((gs.setIfInBounds i x).setIfInBounds j y)[j]? =some y∧∀ k,k≠i→k≠j→((gs.setIfInBounds i x).setIfInBounds j y)[k]? =gs[k]? :=by
 refine ⟨by simp,?_,?_,fun k h1 h2=> ?_⟩
 ·rw [Array.getElem?_setIfInBounds_ne (Ne.symm hij),Array.getElem?_setIfInBounds_self_of_lt hi]
 ·rw [Array.getElem?_setIfInBounds_self_of_lt (by simpa using hj)]
 ·rw [Array.getElem?_setIfInBounds_ne (Ne.symm h2),Array.getElem?_setIfInBounds_ne (Ne.symm h1)]
theorem FM.told (h:FM P F Φ cap End s gs w t) {j:Nat} {m:Node} (hm:s.nodes[j+1]? =some m) (hw:s.nodes[j+1]? =some m→Rel (s.O (j+1)) F m.x.w w∧m.x.O=s.O (j+1)) {cout:Nat} (hS:m.S=OutStop P Φ cout j) (hst:m.stopped F):
  ∃ v B,(∀ b,B b→s.O (j+1) b)∧Φ.Out j v B w∧SendAt P false cout v (HandE P) m.g:=by
 obtain ⟨h1,h2⟩:=hw hm
 have:=hst w (h2▸h1)
 rw [hS,h2] at this
 exact this
theorem FM.tellsMeet (h:FM P F Φ cap End s gs w t) {sl:Option (Nat×Nat)} {j:Nat} {n m:Node} {g x:Goroutine} {cout:Nat} (hm:s.nodes[j+1]? =some m) (hx:gs[j+1]? =some x) (hl:s.hs[j]? =some .tells) (hr:Runs m x) (hst:m.stopped F)
  (hc:s.cs[0]? =some cout) (hn:s.nodes[0]? =some n) (hg:gs[0]? =some g) (hp:ParkR P F cout n g) (hacts:∃ l,s.acts= .recv::l) (hE:∀ got g x,End got g x→g.status= .running):
  ∃ gs' w' ops n' m' q O' l,runT P (crowd gs w sl) (j+1)=(.next (crowd gs' w' sl),ops)∧s.acts= .recv::l∧
   FM P F Φ cap End ⟨l,s.cs,s.got++[j],s.hs.set j (.gone q),O',(s.nodes.set (j+1) m').set 0 n'⟩ gs' w' (t++ops):=by
 obtain ⟨l,ha⟩:=hacts
 obtain ⟨hm1,hO1,hrel1,hwalk1⟩:=h.core.nd _ m hm
 have hm1:m.main=false:=hm1
 obtain ⟨hm0,hO0,hrel0,hwalk0⟩:=h.core.nd _ n hn
 have hm0:n.main=true:=hm0
 have hig:0<gs.size:=(Array.getElem?_eq_some_iff.1 hg).1
 have hig1:j+1<gs.size:=(Array.getElem?_eq_some_iff.1 hx).1
 have hjl:j<s.hs.length:=(List.getElem?_eq_some_iff.1 hl).1
 obtain ⟨cin,cout',buf,cl,sn',rc,k1,k2,k3,k4,km⟩:=h.hand j m x hm hx
 rw [hc] at k2
 cases k2
 rw [hl] at km
 simp only at km
 obtain ⟨q1,q2,q3⟩:=km
 obtain ⟨v,B,hB,hout,_,z,sh,hstep,kk,hq⟩:=h.told hm (fun _=>⟨hrel1,hO1⟩) q2 hst
 obtain ⟨sn,hb⟩:=h.back cout hc
 obtain ⟨hstn,hrunn,z0,sh0,rfl,hstep0⟩:=hp
 have hstop0:=hstn w (hO0▸hrel0)
 rw [(h.main n _ hn hg).ses,ha] at hstop0
 obtain ⟨c',hc',_,z0',sh0',hstep0',hk0,_⟩:=hstop0
 rw [hc] at hc'
 cases hc'
 have he:=hstep0 w
 rw [hm0,hstep0' w] at he
 simp only [GStep.comm.injEq] at he
 obtain ⟨_,e1,_,e2,_⟩:=he
 have e1:z0'=z0:=by
  have:=congrArg (fun a:Array CommCase=>a.toList) e1
  simp [rcase] at this
  exact this
 subst e1 e2
 have hs':stepG P (j+1==0) x w= .comm m.g #[scase cout v z] true sh w #[]:=by rw [hr.stepG];exact hstep w
 have hpart:partners (gs.setIfInBounds (j+1) ph) cout false=[(0,0)]:=by
  rw [partners_one (j:=0) (g:=parked n.g #[rcase cout z0'] sh0') (stand_get (by omega) hg) fun k y hky hy=> ?_]
  ·rw [offersAt_parked_recv,if_pos rfl];rfl
  ·rcases getElem?_stand gs (j+1) k y hy with ⟨_,rfl⟩|⟨_,hy⟩
   ·exact offersAt_ph _ _
   rcases h.offers hy with hb|⟨rfl,_⟩|⟨i,n',ci,co,rfl,hn',h1',h2',⟨_,_,z',sh',rfl,_⟩|⟨v',_,_,_,z',sh',rfl,_⟩⟩
   ·exact offersAt_of_not_blocked (nb hb) _ _
   ·exact absurd rfl hky
   ·rw [offersAt_parked_recv,if_neg]
    rintro rfl
    have:=idx_eq h.nd h1' hc
    omega
   ·exact offersAt_parked_send' ..
 have hwt:=crowd_send_meets (sl:=sl) hx hs' hb (by omega) hg hpart
 obtain ⟨u1,u2,u3⟩:=talk_list (P:=P) (size:=gs.size) (l:=[{g:=j+1,fn:=m.g.frame.fn,pos:=m.g.frame.place,act:= .send cout sn},{g:=0,fn:=n.g.frame.fn,pos:=n.g.frame.place,act:= .recv cout sn 0},{g:=j+1,fn:=m.g.frame.fn,pos:=m.g.frame.place,act:= .sendDone cout sn},{g:=0,fn:=n.g.frame.fn,pos:=n.g.frame.place,act:= .recvDone cout sn}]) (by simp [MemAct.touch?];exact ⟨hig1,hig,hig1,hig⟩)
 have hwf:=h.wf
 rw [ha] at hwf
 obtain ⟨⟨hkn,hrl,hcl⟩,hwf⟩:=hwf
 have hjg:j∉s.got:=fun hj=>by
  obtain ⟨q',hq'⟩:=(h.got.2 j).1 hj
  rw [hl] at hq';cases hq'
 have hwk:Co P true F (MainStop P F Φ End l s.cs (s.got++[j])) (n.g.finishComm P #[rcase cout z0'] sh0' 0 v true) ⟨w,fun b=>s.O 0 b∨B b⟩:=by
  have:=hk0 v rfl j B w (by omega) hjg hout (by rw [hO0];exact Rel.refl _ _ _) fun b hb=>⟨(h.core.ap.Ol _ b (hB b hb)).1,fun ho=>by
   rw [hO0] at ho
   have:=h.core.ap.two _ _ b ho (hB b hb)
   omega,(h.core.ap.Ol _ b (hB b hb)).2.1⟩
  rw [hO0] at this
  exact this
 have hgr:(n.g.finishComm P #[rcase cout z0'] sh0' 0 v true).status= .running:=rfl
 obtain ⟨y1,y2,y3,y4⟩:=set_two (gs:=gs) (i:=0) (j:=j+1) (by omega) hig hig1 (n.g.finishComm P #[rcase cout z0'] sh0' 0 v true) (m.g.finishComm P #[scase cout v z] sh 0 undef false)
 obtain ⟨n',m',hF⟩:=h.hands (u:=MemOp.ofEvents (j+1) x.frame.fn x.frame.place #[]++ #[{g:=j+1,fn:=m.g.frame.fn,pos:=m.g.frame.place,act:= .send cout sn},{g:=0,fn:=n.g.frame.fn,pos:=n.g.frame.place,act:= .recv cout sn 0},{g:=j+1,fn:=m.g.frame.fn,pos:=m.g.frame.place,act:= .sendDone cout sn},{g:=0,fn:=n.g.frame.fn,pos:=n.g.frame.place,act:= .recvDone cout sn}])
  (a:=t.size) (b:=t.size+3) (e1:= {g:=j+1,fn:=m.g.frame.fn,pos:=m.g.frame.place,act:= .send cout sn}) (e2:= {g:=0,fn:=n.g.frame.fn,pos:=n.g.frame.place,act:= .recvDone cout sn})
  hn hg hm hx ha hl hc hb ⟨w.drawn,rfl⟩ hB (by simpa [MemOp.ofEvents] using u1) (by simpa [MemOp.ofEvents] using u2) (by simpa [MemOp.ofEvents] using u3) (Nat.le_refl _) (by simp [MemOp.ofEvents]) rfl rfl (by simp [MemOp.ofEvents]) rfl rfl ⟨y1,y2,y3,y4⟩ hwk hgr hq
 exact ⟨_,_,_,n',m',kk,_,l,hwt,ha,hF⟩
theorem FM.recvMeets (h:FM P F Φ cap End s gs w t) {sl:Option (Nat×Nat)} {n:Node} {g:Goroutine} {l:List MAct} {cout:Nat} (hn:s.nodes[0]? =some n) (hg:gs[0]? =some g) (hr:Runs n g) (hst:n.stopped F) (ha:s.acts= .recv::l) (hc:s.cs[0]? =some cout)
  (h0:∃ j m x v,s.nodes[j+1]? =some m∧gs[j+1]? =some x∧ParkS P F cout v m x):
  ∃ gs' w' ops j n' m' q O',runT P (crowd gs w sl) 0=(.next (crowd gs' w' sl),ops)∧s.hs[j]? =some .tells∧
   FM P F Φ cap End ⟨l,s.cs,s.got++[j],s.hs.set j (.gone q),O',(s.nodes.set (j+1) m').set 0 n'⟩ gs' w' (t++ops):=by
 obtain ⟨hm0,hO0,hrel0,hwalk0⟩:=h.core.nd _ n hn
 have hm0:n.main=true:=hm0
 have hig:0<gs.size:=(Array.getElem?_eq_some_iff.1 hg).1
 have hstop0:=hst w (hO0▸hrel0)
 rw [(h.main n _ hn hg).ses,ha] at hstop0
 obtain ⟨c',hc',_,z0,sh0,hstep0,hk0,_⟩:=hstop0
 rw [hc] at hc'
 cases hc'
 obtain ⟨sn,hb⟩:=h.back cout hc
 have hs':stepG P (0==0) g w= .comm n.g #[rcase cout z0] true sh0 w #[]:=by rw [hr.stepG];exact hstep0 w
 have hwho:∀ j k,(j,k)∈partners (gs.setIfInBounds 0 ph) cout true→k=0∧j≠0∧∃ i m v z sh,j=i+1∧s.nodes[i+1]? =some m∧s.hs[i]? =some .tells∧gs[i+1]? =some (parked m.g #[scase cout v z] sh)∧ParkS P F cout v m (parked m.g #[scase cout v z] sh):=by
  intro j k hjk
  obtain ⟨y,hy,hk⟩:=mem_partners.1 hjk
  rcases getElem?_stand gs 0 j y hy with ⟨_,rfl⟩|⟨hj0,hy⟩
  ·rw [offersAt_ph] at hk;cases hk
  rcases h.offers hy with hb|⟨rfl,_⟩|⟨i,m,ci,co,rfl,hm,h1,h2,⟨_,_,z',sh',rfl,_⟩|⟨v',hl',hps⟩⟩
  ·rw [offersAt_of_not_blocked (nb hb)] at hk;cases hk
  ·exact absurd rfl hj0
  ·rw [offersAt_parked_recv'] at hk;cases hk
  ·rw [hc] at h2
   cases h2
   have hps':=hps
   obtain ⟨_,_,z',sh',rfl,_⟩:=hps
   rw [offersAt_parked_send,if_pos rfl] at hk
   simp only [List.mem_singleton] at hk
   exact ⟨hk,by omega,i,m,v',z',sh',rfl,hm,hl',hy,hps'⟩
 have hne:partners (gs.setIfInBounds 0 ph) cout true≠[]:=by
  obtain ⟨j,m,x,v,hm,hx,_,_,z,sh,rfl,_⟩:=h0
  intro e
  have:(j+1,0)∈partners (gs.setIfInBounds 0 ph) cout true:=mem_partners.2 ⟨_,stand_get (by omega) hx,by rw [offersAt_parked_send,if_pos rfl];simp⟩
  rw [e] at this;cases this
 obtain ⟨j0,gj,vj,zj,shj,d,hj0,hgj,hwt⟩:=crowd_recv_meets_some (sl:=sl) hg hs' hb hne fun j k hjk=>by
  obtain ⟨e1,e2,i,m,v,z,sh,rfl,_,_,hy,_⟩:=hwho j k hjk
  exact ⟨e1,e2,m.g,v,z,sh,hy⟩
 rcases h.offers hgj with hbk|⟨rfl,_⟩|⟨j,m,ci,co,rfl,hm,h1,h2,⟨_,_,z',sh',e,_⟩|⟨v',hl,hps⟩⟩
 ·rcases hbk with e|e<;>cases e
 ·exact absurd rfl hj0
 ·simp only [parked,Goroutine.mk.injEq,Option.some.injEq,Prod.mk.injEq] at e
  have:=e.2.2.2.2.1
  simp [rcase,scase] at this
 rw [hc] at h2
 cases h2
 obtain ⟨hm1,hO1,hrel1,hwalk1⟩:=h.core.nd _ m hm
 have hm1:m.main=false:=hm1
 have hig1:j+1<gs.size:=(Array.getElem?_eq_some_iff.1 hgj).1
 obtain ⟨cin,cout',buf,cl,sn',rc,k1,k2,k3,k4,km⟩:=h.hand j m _ hm hgj
 rw [hc] at k2
 cases k2
 rw [hl] at km
 simp only at km
 obtain ⟨q1,q2,q3⟩:=km
 obtain ⟨hstm,hrunm,z',sh',e,hstepm⟩:=hps
 obtain ⟨v,B,hB,hout,_,z,sh,hstep,kk,hq⟩:=h.told hm (fun _=>⟨hrel1,hO1⟩) q2 hstm
 have he:=hstepm w
 rw [hm1,hstep w] at he
 simp only [GStep.comm.injEq] at he
 obtain ⟨_,e1,_,e2,_⟩:=he
 obtain ⟨rfl,rfl⟩:v=v'∧z=z':=by
  have:=congrArg (fun a:Array CommCase=>a.toList) e1
  simp [scase] at this
  exact this
 subst e2
 obtain ⟨rfl,rfl,rfl⟩:v=vj∧z=zj∧sh=shj:=by
  simp only [parked,Goroutine.mk.injEq,Option.some.injEq,Prod.mk.injEq] at e
  have e3:=e.2.2.2.2.1
  have:=congrArg (fun a:Array CommCase=>a.toList) e3
  simp [scase] at this
  exact ⟨this.1.symm,this.2.symm,e.2.2.2.2.2.symm⟩
 have hfin:gj.finishComm P #[scase cout v z] sh 0 undef false=m.g.finishComm P #[scase cout v z] sh 0 undef false:=by
  have:=congrArg (fun a:Goroutine=>a.finishComm P #[scase cout v z] sh 0 undef false) e
  simpa only [finishComm_parked] using this
 have hfr:gj.frame=m.g.frame:=by
  have:=congrArg (fun a:Goroutine=>a.frame) e
  exact this
 rw [hfin,hfr] at hwt
 obtain ⟨u1,u2,u3⟩:=talk_list (P:=P) (size:=gs.size) (l:=[{g:=j+1,fn:=m.g.frame.fn,pos:=m.g.frame.place,act:= .send cout sn},{g:=0,fn:=n.g.frame.fn,pos:=n.g.frame.place,act:= .recv cout sn 0},{g:=j+1,fn:=m.g.frame.fn,pos:=m.g.frame.place,act:= .sendDone cout sn},{g:=0,fn:=n.g.frame.fn,pos:=n.g.frame.place,act:= .recvDone cout sn}]) (by simp [MemAct.touch?];exact ⟨hig1,hig,hig1,hig⟩)
 have hwf:=h.wf
 rw [ha] at hwf
 obtain ⟨⟨hkn,hrl,hcl⟩,hwf⟩:=hwf
 have hjl:j<s.hs.length:=(List.getElem?_eq_some_iff.1 hl).1
 have hjg:j∉s.got:=fun hj=>by
  obtain ⟨q',hq'⟩:=(h.got.2 j).1 hj
  rw [hl] at hq';cases hq'
 have hwk:Co P true F (MainStop P F Φ End l s.cs (s.got++[j])) (n.g.finishComm P #[rcase cout z0] sh0 0 v true) ⟨w,fun b=>s.O 0 b∨B b⟩:=by
  have:=hk0 v rfl j B w (by omega) hjg hout (by rw [hO0];exact Rel.refl _ _ _) fun b hb=>⟨(h.core.ap.Ol _ b (hB b hb)).1,fun ho=>by
   rw [hO0] at ho
   have:=h.core.ap.two _ _ b ho (hB b hb)
   omega,(h.core.ap.Ol _ b (hB b hb)).2.1⟩
  rw [hO0] at this
  exact this
 have hgr:(n.g.finishComm P #[rcase cout z0] sh0 0 v true).status= .running:=rfl
 obtain ⟨y1,y2,y3,y4⟩:=set_two (gs:=gs) (i:=j+1) (j:=0) (by omega) hig1 hig (m.g.finishComm P #[scase cout v z] sh 0 undef false) (n.g.finishComm P #[rcase cout z0] sh0 0 v true)
 obtain ⟨n',m',hF⟩:=h.hands (u:=MemOp.ofEvents 0 g.frame.fn g.frame.place #[]++ #[{g:=j+1,fn:=m.g.frame.fn,pos:=m.g.frame.place,act:= .send cout sn},{g:=0,fn:=n.g.frame.fn,pos:=n.g.frame.place,act:= .recv cout sn 0},{g:=j+1,fn:=m.g.frame.fn,pos:=m.g.frame.place,act:= .sendDone cout sn},{g:=0,fn:=n.g.frame.fn,pos:=n.g.frame.place,act:= .recvDone cout sn}])
  (a:=t.size) (b:=t.size+3) (e1:= {g:=j+1,fn:=m.g.frame.fn,pos:=m.g.frame.place,act:= .send cout sn}) (e2:= {g:=0,fn:=n.g.frame.fn,pos:=n.g.frame.place,act:= .recvDone cout sn})
  hn hg hm hgj ha hl hc hb ⟨d,rfl⟩ hB (by simpa [MemOp.ofEvents] using u1) (by simpa [MemOp.ofEvents] using u2) (by simpa [MemOp.ofEvents] using u3) (Nat.le_refl _) (by simp [MemOp.ofEvents]) rfl rfl (by simp [MemOp.ofEvents]) rfl rfl ⟨y1,y3,y2,fun k h1 h2=>y4 k h2 h1⟩ hwk hgr hq
 exact ⟨_,_,_,j,n',m',kk,_,hwt,hl,hF⟩
end
end Go.Sx
end
section
namespace Go.Sx
open Go Go.Conc
def EndOK (P:Program) (F:Nat→Prop) (Post:Value→World→Prop):List Nat→Goroutine→OW→Prop:=fun _ g x=>
 g.status= .running∧∃ v es,stepG P true g x.w= .ended (.done v) x.w es∧(∀ e∈es,EvOK x.O F x.w.heap.size x.w.heap.size e)∧Post v x.w
theorem runT_end {P:Program} {gs:Array Goroutine} {w w':World} {sl:Option (Nat×Nat)} {i:Nat} {g:Goroutine} {o:Outcome} {es:Array Event} (hi:gs[i]? =some g) (h:stepG P (i==0) g w= .ended o w' es):
  runT P (crowd gs w sl) i=(.ended o w',MemOp.ofEvents i g.frame.fn g.frame.place es):=by
 obtain ⟨hlt,rfl⟩:=Array.getElem?_eq_some_iff.1 hi
 have hsw:=swapAt_of_lt hlt {(default:Goroutine) with status:= .finished}
 show runT P {world:=w,gs:=gs,rest:= {timers:= #[],alone:=none,slice:=sl}} i=_
 unfold runT
 simp only [hsw,h,GStep.es]
def FanLt (P:Program) (F:Nat→Prop):(Nat×Nat×List Node)→(Nat×Nat×List Node)→Prop:=fun a b=>
 a.1<b.1∨(a.1=b.1∧(a.2.1<b.2.1∨(a.2.1=b.2.1∧Near (Child P F) a.2.2 b.2.2∧Acc (Near (Child P F)) b.2.2)))
theorem fanLt_wf (P:Program) (F:Nat→Prop):WellFounded (FanLt P F):=by
 refine ⟨fun ⟨a,b,l⟩=> ?_⟩
 induction a using Nat.strongRecOn generalizing b l with
 |_ a iha=>
  induction b using Nat.strongRecOn generalizing l with
  |_ b ihb=>
   have key:∀ l,Acc (Near (Child P F)) l→Acc (FanLt P F) (a,b,l):=by
    intro l hl
    induction hl with
    |intro l _ ih=>
     refine ⟨_,fun ⟨a',b',l'⟩ h=> ?_⟩
     rcases h with h|⟨h1,h|⟨h2,h3,_⟩⟩
     ·exact iha a' h b' l'
     ·simp only at h1 h
      subst h1
      exact ihb b' h l'
     ·simp only at h1 h2 h3
      subst h1 h2
      exact ih l' h3
   by_cases hl:Acc (Near (Child P F)) l
   ·exact key l hl
   ·refine ⟨_,fun ⟨a',b',l'⟩ h=> ?_⟩
    rcases h with h|⟨h1,h|⟨h2,h3,h4⟩⟩
    ·exact iha a' h b' l'
    ·simp only at h1 h
     subst h1
     exact ihb b' h l'
    ·exact absurd h4 hl
def runsN (gs:Array Goroutine):Nat:=(gs.toList.map fun g=>if g.status= .running then 1 else 0).sum
def wtH (hs:List HSt):Nat:=(hs.map HSt.wt).sum
def qH (hs:List HSt):Nat:=(hs.map HSt.q).sum
theorem sum_set {α:Type _} (f:α→Nat):∀ {l:List α} {i:Nat} {a b:α},l[i]? =some a→((l.set i b).map f).sum+f a=(l.map f).sum+f b
 |[],_,_,_,h=>by simp at h
 |x::l,0,a,b,h=>by
  simp at h
  subst h
  simp;omega
 |x::l,i+1,a,b,h=>by
  simp only [List.getElem?_cons_succ] at h
  have:=sum_set f (b:=b) h
  simp only [List.set_cons_succ,List.map_cons,List.sum_cons]
  omega
theorem runsN_set {gs:Array Goroutine} {i:Nat} {g g':Goroutine} (h:gs[i]? =some g):runsN (gs.setIfInBounds i g')+(if g.status= .running then 1 else 0)=runsN gs+if g'.status= .running then 1 else 0:=by
 have h':gs.toList[i]? =some g:=by simpa using h
 have:=sum_set (fun g:Goroutine=>if g.status= .running then 1 else 0) (b:=g') h'
 unfold runsN
 simpa using this
theorem wtH_set {hs:List HSt} {j:Nat} {a b:HSt} (h:hs[j]? =some a):wtH (hs.set j b)+a.wt=wtH hs+b.wt:=sum_set HSt.wt h
theorem qH_set {hs:List HSt} {j:Nat} {a b:HSt} (h:hs[j]? =some a):qH (hs.set j b)+a.q=qH hs+b.q:=sum_set HSt.q h
theorem nodup_len:∀ (n:Nat) (l:List Nat),l.Nodup→(∀ x∈l,x<n)→l.length≤n
 |0,[],_,_=>Nat.le_refl _
 |0,x::l,_,h=>absurd (h x List.mem_cons_self) (Nat.not_lt_zero _)
 |n+1,l,hn,h=>by
  by_cases hm:n∈l
  ·have h1:=nodup_len n (l.erase n) (hn.erase n) fun x hx=>by
    have h2:=h x (List.mem_of_mem_erase hx)
    have h3:x≠n:=fun e=>by subst e;exact (List.Nodup.not_mem_erase hn) hx
    omega
   rw [List.length_erase_of_mem hm] at h1
   omega
  ·have:=nodup_len n l hn fun x hx=>by
    have h2:=h x hx
    have h3:x≠n:=fun e=>by subst e;exact hm hx
    omega
   omega
section
variable {P:Program} {F:Nat→Prop} {Φ:Fan} {cap:Nat} {Post:Value→World→Prop} {s:FSt} {gs:Array Goroutine} {w:World} {t:Trace}
def meas (Φ:Fan) (s:FSt) (gs:Array Goroutine):Nat×Nat×List Node:=(wtA Φ s.acts+wtH s.hs,runsN gs+qH s.hs,s.nodes)
theorem FM.fin (h:FM P F Φ cap (EndOK P F Post) s gs w t) {sl sl0:Option (Nat×Nat)} {w0:World} {n:Node} {g:Goroutine} (hn:s.nodes[0]? =some n) (hg:gs[0]? =some g) (hr:Runs n g) (hst:n.stopped F) (ha:s.acts=[]):
  ∃ o w' ops,runT P (crowd gs w sl) 0=(.ended o w',ops)∧Go.Conc.Good P Post (crowd gs w0 sl0) o w' (t++ops):=by
 obtain ⟨hm,hO,hrel,hwalk⟩:=h.core.nd _ n hn
 have hm:n.main=true:=hm
 have hig:0<gs.size:=(Array.getElem?_eq_some_iff.1 hg).1
 have hstop:=hst w (hO▸hrel)
 rw [(h.main n g hn hg).ses,ha] at hstop
 obtain ⟨_,v,es,hend,hes,hpost⟩:=hstop
 rw [hO] at hes
 have hs':stepG P (0==0) g w= .ended (.done v) w es:=by rw [hr.stepG];exact hend
 have hrun:=runT_end (sl:=sl) hg hs'
 have hwf:=h.wf
 rw [ha] at hwf
 obtain ⟨hk,hrl⟩:=hwf
 have hall:∀ j,j<s.hs.length→∃ q,s.hs[j]? =some (.gone q):=by
  intro j hj
  refine (h.got.2 j).1 (Classical.byContradiction fun hno=> ?_)
  have h1:s.got.length+1≤s.hs.length:=by
   have h2:(j::s.got).Nodup:=List.nodup_cons.2 ⟨hno,h.got.1⟩
   have h3:∀ x∈j::s.got,x<s.hs.length:=by
    intro x hx
    rcases List.mem_cons.1 hx with rfl|hx
    ·exact hj
    ·obtain ⟨q,hq⟩:=(h.got.2 x).1 hx
     exact (List.getElem?_eq_some_iff.1 hq).1
   exact nodup_len _ _ h2 h3
  omega
 have hgone:∀ j x,gs[j+1]? =some x→∃ q,QuitsIn P q x∧∀ k op,t[k]? =some op→op.g=j+1→op.act.touch? ≠none→Knows t 0 k:=by
  intro j x hx
  have hjs:j+1<gs.size:=(Array.getElem?_eq_some_iff.1 hx).1
  have hnj:s.nodes[j+1]? =some (s.nodes[j+1]'(by rw [h.core.sz];exact hjs)):=List.getElem?_eq_getElem _
  obtain ⟨cin,cout,buf,cl,sn,rc,k1,k2,k3,k4,km⟩:=h.hand j _ _ hnj hx
  obtain ⟨q,hq⟩:=hall j (by have:=h.size;omega)
  rw [hq] at km
  exact ⟨q,km.2⟩
 have hti:=h.core.ti.step h.core.ap (i:=0) (n':=w.heap.size) (Nat.le_refl _) (fn:=g.frame.fn) (pos:=g.frame.place) hes
 refine ⟨_,_,_,hrun,v,rfl,hpost,hti.race,fun i gi hgi hne hct=> ?_,⟨fun x hx=> ?_,rfl⟩,fun i x hx hne=> ?_⟩
 ·obtain ⟨x,hx,_⟩:=hct
  obtain ⟨op,hop,hopx⟩:=touch_of hx
  have hgop:op.g=gi:=by
   unfold Trace.g? at hgi
   rw [hop] at hgi
   exact Option.some.inj hgi
  rcases getElem?_append_cases hop with ⟨hi,hop'⟩|⟨_,hopu⟩
  ·have hlt:=h.core.op op (Array.mem_of_getElem? hop')
   obtain ⟨j,rfl⟩:∃ j,gi=j+1:=⟨gi - 1,by omega⟩
   obtain ⟨q,_,hkn⟩:=hgone j gs[j+1] (Array.getElem?_eq_getElem (by omega))
   obtain ⟨r,z,hz,hz0,hb⟩:=(hkn i op hop' hgop (by rw [hopx];simp)).app (MemOp.ofEvents 0 g.frame.fn g.frame.place es)
   refine ⟨r,by unfold Trace.g?;rw [hz];simp [hz0],?_⟩
   rcases hb with rfl|hb
   ·rw [hop] at hz
    cases hz
    omega
   ·exact hb
  ·have:=ofEvents_g op hopu
   omega
 ·obtain ⟨j,hj⟩:=List.mem_iff_getElem?.1 hx
  rw [List.getElem?_drop] at hj
  obtain ⟨q,hq,_⟩:=hgone j x (by rw [Nat.add_comm];simpa [crowd] using hj)
  exact ⟨_,hq.leaves⟩
 ·obtain ⟨j,rfl⟩:∃ j,i=j+1:=⟨i - 1,by omega⟩
  obtain ⟨q,hq,_⟩:=hgone j x hx
  have:(t++MemOp.ofEvents 0 g.frame.fn g.frame.place es).deaf (j+1) (t++MemOp.ofEvents 0 g.frame.fn g.frame.place es).size=0:=hti.wordless.deaf ..
  rw [this]
  exact ⟨q,hq.hears _ 0⟩
theorem FM.acc (h:FM P F Φ cap (EndOK P F Post) s gs w t):Acc (Near (Child P F)) s.nodes:=acc_list fun n hn=>by
 obtain ⟨i,hi⟩:=List.mem_iff_getElem?.1 hn
 exact (h.core.nd i n hi).2.2.2.acc
theorem FanLt.a {a b:Nat×Nat×List Node} (h:a.1<b.1):FanLt P F a b:= .inl h
theorem FM.ownLt (h:FM P F Φ cap (EndOK P F Post) s gs w t) {i:Nat} {n n':Node} {g g':Goroutine} {O':Nat→Nat→Prop} (hn:s.nodes[i]? =some n) (hg:gs[i]? =some g) (hr:g.status= .running) (hr':g'.status= .running) (hc:Child P F n' n):
  FanLt P F (meas Φ {s with O:=O',nodes:=s.nodes.set i n'} (gs.setIfInBounds i g')) (meas Φ s gs):=by
 refine .inr ⟨rfl, .inr ⟨?_,⟨i,n',n,hn,hc,rfl⟩,h.acc⟩⟩
 have:=runsN_set (g':=g') hg
 rw [hr,hr'] at this
 simp at this
 simp [meas,this]
theorem endOK_running:∀ got g x,EndOK P F Post got g x→g.status= .running:=fun _ _ _ h=>h.1
theorem FM.step (h:FM P F Φ cap (EndOK P F Post) s gs w t) (sl:Option (Nat×Nat)):
  (∃ o w' ops,stepT P (crowd gs w sl)=(.ended o w',ops)∧Go.Conc.Good P Post (crowd gs w sl) o w' (t++ops))∨
  ∃ gs' w' sl' ops s',stepT P (crowd gs w sl)=(.next (crowd gs' w' sl'),ops)∧FanLt P F (meas Φ s' gs') (meas Φ s gs)∧FM P F Φ cap (EndOK P F Post) s' gs' w' (t++ops):=by
 obtain ⟨i,g,d,sl',hi,hrun,hst⟩:=crowd_pick (P:=P) (w:=w) (sl:=sl) h.awake h.someone
 replace h:=h.at d
 have hig:i<gs.size:=(Array.getElem?_eq_some_iff.1 hi).1
 have hn:s.nodes[i]? =some (s.nodes[i]'(by rw [h.core.sz];exact hig)):=List.getElem?_eq_getElem _
 generalize (s.nodes[i]'(by rw [h.core.sz];exact hig))=n at hn
 have hw:=h.core.nd i n hn
 cases i with
 |zero=>
  have hm:=h.main n g hn hi
  have hr:Runs n g:=by
   rcases hm.st with hr|⟨_,_,_,_,hp⟩
   ·exact hr
   ·rw [hp.blocked] at hrun;cases hrun
  by_cases hs:n.stopped F
  case neg=>
   obtain ⟨g',w',n',O',ops,h1,h2,h3,h4⟩:=h.own (sl:=sl') hn hi hr hs (fun g x hx=>by rw [hm.ses] at hx;exact hx.running endOK_running) (fun j q e=>by cases e)
   exact .inr ⟨_,_,_,_,_,hst.trans h1,h.ownLt hn hi hrun h2 h3,h4⟩
  case pos=>
   cases ha:s.acts with
   |nil=>
    obtain ⟨o,w',ops,h1,h2⟩:=h.fin (sl:=sl') (sl0:=sl) (w0:=w) hn hi hr hs ha
    exact .inl ⟨o,w',ops,hst.trans h1,h2⟩
   |cons act l=>
    right
    cases act with
    |mk c=>
     obtain ⟨gs',w',ops,n',g',h1,h2,h3,h4⟩:=h.makes endOK_running (sl:=sl') hn hi hr hs ha
     exact ⟨_,_,_,_,_,hst.trans h1, .a (by simp [meas,ha,wtA]),h4⟩
    |go j=>
     obtain ⟨gs',ops,n',nc,g',child,h1,h2,h3,h4,h5⟩:=h.starts (sl:=sl') hn hi hr hs ha
     exact ⟨_,_,_,_,_,hst.trans h1, .a (by simp [meas,ha,wtA,wtH,HSt.wt];omega),h5⟩
    |send j v=>
     by_cases hp:∃ c m x,s.cs[j+1]? =some c∧s.nodes[j+1]? =some m∧gs[j+1]? =some x∧ParkR P F c m x
     ·obtain ⟨c,m,x,e1,e2,e3,e4⟩:=hp
      obtain ⟨gs',w',ops,n',m',g',x',st',lst,h1,h2,h3,h4,h5,h6,h7⟩:=h.sendsMeet (sl:=sl') hn hi hr hs ha e1 e2 e3 e4
      have:=wtH_set (b:=st') h5
      exact ⟨_,_,_,_,_,hst.trans h1, .a (by simp [meas,ha,wtA];omega),h7⟩
     ·obtain ⟨gs',w',ops,n',g',h1,h2,h3,h4⟩:=h.sendsRoom (sl:=sl') hn hi hr hs ha fun c m x e1 e2 e3 e4=>hp ⟨c,m,x,e1,e2,e3,e4⟩
      exact ⟨_,_,_,_,_,hst.trans h1, .a (by simp [meas,ha,wtA]),h4⟩
    |close j=>
     obtain ⟨gs',w',ops,n',m,st',h1,h2,h3⟩:=h.closes (sl:=sl') hn hi hr hs ha
     have:=wtH_set (b:=st') h2
     exact ⟨_,_,_,_,_,hst.trans h1, .a (by simp [meas,ha,wtA];omega),h3⟩
    |recv=>
     have hc:∃ c,s.cs[0]? =some c:=by
      have hstop:=hs (w.at d) (hw.2.1▸hw.2.2.1)
      rw [hm.ses,ha] at hstop
      obtain ⟨c,hc,_⟩:=hstop
      exact ⟨c,hc⟩
     obtain ⟨c,hc⟩:=hc
     by_cases hp:∃ j m x v,s.nodes[j+1]? =some m∧gs[j+1]? =some x∧ParkS P F c v m x
     ·obtain ⟨gs',w',ops,j,n',m',q,O',h1,h2,h3⟩:=h.recvMeets (sl:=sl') hn hi hr hs ha hc hp
      have:=wtH_set (b:= .gone q) h2
      exact ⟨_,_,_,_,_,hst.trans h1, .a (by simp [meas,ha,wtA];simp [HSt.wt] at this;omega),h3⟩
     ·obtain ⟨gs',ops,g',h1,rfl,h3,h4⟩:=h.mainWaits (sl:=sl') hn hi hr hs ha hc fun j m x v e1 e2 e3=>hp ⟨j,m,x,v,e1,e2,e3⟩
      have:=runsN_set (g':=g') hi
      rw [hrun,h3] at this
      simp at this
      exact ⟨_,_,_,_,_,hst.trans h1, .inr ⟨rfl, .inl (by simp [meas];omega)⟩,h4⟩
 |succ j=>
  right
  have hh:=h.hand j n g hn hi
  obtain ⟨cin,cout,buf,cl,sn,rc,k1,k2,k3,k4,km⟩:=hh
  split at km
  ·rename_i l hl
   have hr:Runs n g:=by
    rcases km.2.2.2 with hr|⟨_,_,hp⟩
    ·exact hr
    ·rw [hp.blocked] at hrun;cases hrun
   by_cases hs:n.stopped F
   ·obtain ⟨gs',w',ops,st',n',g',h1,rfl,h3,h4⟩:=h.hears (sl:=sl') hn hi hl hr hs
    refine ⟨_,_,_,_,_,hst.trans h1,?_,h3⟩
    have hs1:=wtH_set (b:=st') hl
    have hs2:=qH_set (b:=st') hl
    have hs3:=runsN_set (g':=g') hi
    rcases h4 with h4|⟨rfl,rfl,h4⟩
    ·exact .a (by simp [meas];omega)
    ·rw [hrun,h4] at hs3
     simp at hs3
     exact .inr ⟨by simp [meas];omega, .inl (by simp [meas];omega)⟩
   ·obtain ⟨g',w',n',O',ops,h1,h2,h3,h4⟩:=h.own (sl:=sl') hn hi hr hs (fun g x hx=>by rw [km.2.2.1] at hx;exact hx.running) (fun j' q e=>by
     have:j'=j:=by omega
     subst this
     rw [hl];simp)
    exact ⟨_,_,_,_,_,hst.trans h1,h.ownLt hn hi hrun h2 h3,h4⟩
  ·rename_i hl
   have hr:Runs n g:=by
    rcases km.2.2 with hr|⟨_,hp⟩
    ·exact hr
    ·rw [hp.blocked] at hrun;cases hrun
   by_cases hs:n.stopped F
   ·have hg0:gs[0]? =some (gs[0]'(by omega)):=Array.getElem?_eq_getElem _
    generalize (gs[0]'(by omega))=g0 at hg0
    have hn0:s.nodes[0]? =some (s.nodes[0]'(by rw [h.core.sz];omega)):=List.getElem?_eq_getElem _
    generalize (s.nodes[0]'(by rw [h.core.sz];omega))=n0 at hn0
    by_cases hp:ParkR P F cout n0 g0
    ·have hm:=h.main n0 g0 hn0 hg0
     have hacts:∃ l,s.acts= .recv::l:=by
      rcases hm.st with hr|⟨l,_,ha,_⟩
      ·have:=hr.status
       rw [hp.blocked] at this;cases this
      ·exact ⟨l,ha⟩
     obtain ⟨gs',w',ops,n',m',q,O',l,h1,ha,h3⟩:=h.tellsMeet (sl:=sl') hn hi hl hr hs k2 hn0 hg0 hp hacts endOK_running
     have:=wtH_set (b:= .gone q) hl
     exact ⟨_,_,_,_,_,hst.trans h1, .a (by simp [meas,ha,wtA];simp [HSt.wt] at this;omega),h3⟩
    ·obtain ⟨gs',ops,g',h1,rfl,h3,h4⟩:=h.waits (sl:=sl') hn hi hl hr hs fun c m x e1 e2 e3 e4=>by
      rw [k2] at e1;cases e1
      rw [hn0] at e2;cases e2
      rw [hg0] at e3;cases e3
      exact hp e4
     have hs1:=wtH_set (b:= .tells) hl
     have hs2:=qH_set (b:= .tells) hl
     have hs3:=runsN_set (g':=g') hi
     rw [hrun,h4] at hs3
     simp at hs3
     exact ⟨_,_,_,_,_,hst.trans h1, .inr ⟨by simp [meas];omega, .inl (by simp [meas];omega)⟩,h3⟩
   ·obtain ⟨g',w',n',O',ops,h1,h2,h3,h4⟩:=h.own (sl:=sl') hn hi hr hs (fun g x hx=>by rw [km.2.1] at hx;exact hx.running) (fun j' q e=>by
     have:j'=j:=by omega
     subst this
     rw [hl];simp)
    exact ⟨_,_,_,_,_,hst.trans h1,h.ownLt hn hi hrun h2 h3,h4⟩
  ·rename_i q hl
   obtain ⟨gs',ops,g',q',h1,rfl,h3,h4,h5⟩:=h.quits (sl:=sl') hn hi hl hrun
   have hs1:=wtH_set (b:= .gone q') hl
   have hs2:=qH_set (b:= .gone q') hl
   have hs3:=runsN_set (g':=g') hi
   simp [HSt.wt] at hs1
   simp [HSt.q] at hs2
   have hs4:(if g'.status= .running then 1 else 0)≤1:=by split<;>omega
   rw [hrun] at hs3
   simp at hs3
   exact ⟨_,_,_,_,_,hst.trans h1, .inr ⟨by simp [meas];omega, .inl (by simp [meas];omega)⟩,h5⟩
  ·exact km.elim
theorem FM.ends (h:FM P F Φ cap (EndOK P F Post) s gs w t) (sl:Option (Nat×Nat)):
  ∃ N last o w' t',runNT P (N+1) (crowd gs w sl) t=(.ended o w',t')∧runN P N (crowd gs w sl)= .next last∧Go.step P last= .ended o w'∧Go.Conc.Good P Post last o w' t':=by
 refine run_of_inv (fanLt_wf P F) (fun μ m t=> ∃ s gs w sl,m=crowd gs w sl∧μ=meas Φ s gs∧FM P F Φ cap (EndOK P F Post) s gs w t) (Go.Conc.Good P Post) ?_ _ _ _ ⟨s,gs,w,sl,rfl,rfl,h⟩
 rintro μ m t ⟨s,gs,w,sl,rfl,rfl,h⟩
 rcases h.step sl with ⟨o,w',ops,h1,h2⟩|⟨gs',w',sl',ops,s',h1,h2,h3⟩
 ·exact .inl ⟨o,w',ops,h1,h2⟩
 ·exact .inr ⟨_,_,_,h1,h2,s',gs',w',sl',rfl,rfl,h3⟩
end
end Go.Sx
end
