/- A part of TopPrecise's proof. -/
import Derived.Test.YtpajfggdnobheaaEa
import Derived.Conc.SmallLaws
import Derived.Conc.PipeGen
import Derived.Test.YtpajfggdnobheaaDa
import Derived.Test.YtpajfggdnobheaaRows
import Derived.WalkKit
import Derived.Sort.LotD5
import Derived.Sort.Lot0
import Derived.Sort.LotA
import Derived.Sort.LotB
import Derived.Sort.LotC
import Derived.Sort.LotD1
set_option linter.unusedVariables false
set_option linter.unusedSimpArgs false
open Option renaming map_eq_some_iff->z00,some.injEq->z0b,some.inj->z0u,pure_def->z0y,map_some->z1k,map_none->z1l
open Array renaming getElem?_eq_some_iff->z01,length_toList->z07,getElem?_setIfInBounds_ne->z08,replicate->z0d,getD_eq_getD_getElem?->z0o,getElem?_eq_getElem->z0p,size_setIfInBounds->z0s,getElem?_eq_none->z0v,getElem?_setIfInBounds_self_of_lt->z0w,toList_setIfInBounds->z18,getElem?_push->z1h,ext'->z1i
open Go.IntKind renaming i64->z02
open Int renaming natCast_nonneg->z03,ofNat_lt->z1e,ofNat_le->z1f,toNat_natCast->z1o
open List renaming map_cons->z04,mem_singleton->z05,getElem?_eq_some_iff->z06,getElem?_eq_getElem->z09,mem_map->z0a,contains_iff_mem->z0e,map_nil->z0f,mem_append->z0i,length_append->z0j,getElem?_cons_succ->z0k,length_cons->z0l,map_append->z0m,getD_cons_zero->z0n,range'->z0q,nodup_append->z0r,getD->z0t,mem_of_getElem?->z0x,append_nil->z14,mapM_cons->z19,getElem?_zip_eq_some->z1a,mem_cons->z1c,mem_iff_getElem?->z1d,set_cons_succ->z1j,getElem?_set->z1m,nodup_cons->z1p,length_nil->z1q,nodup_nil->z1s
open Nat renaming le_refl->z0c,zero_add->z0h,strongRecOn->z15,not_lt_zero->z16
open Bool renaming and_eq_true->z0g,or_eq_false_iff->z1g
open Go.IntWalk renaming i64_in->z0z
open Prod renaming mk.injEq->z1b
open Go.World renaming setChan->z1r
set_option maxRecDepth 100000
open Go Go.Sx Go.Proofs
namespace Go.Sx
open Go Go.Conc
section
variable {P:Program} {F:Nat->Prop} {Φ:Gl} {cap:Nat} {End:List Nat->Goroutine->OW->Prop} {s:FSt} {gs:Array Goroutine} {w:World} {t:Trace}
def zk(O:Nat->Nat->Prop)(j:Nat)(B:Nat->Prop):Nat->Nat->Prop:=λi b=>(i=0/\(O 0 b\/B b))\/(i≠0/\i≠j+1/\O i b)
theorem X7(O:Nat->Nat->Prop)(j:Nat)(B:Nat->Prop):zk O j B 0=λb=>O 0 b\/B b:=by
 funext b;simp[zk]
theorem X8(O:Nat->Nat->Prop)(j:Nat)(B:Nat->Prop):zk O j B (j+1)=λ_=>False:=by
 funext b;simp[zk]
theorem adF(O:Nat->Nat->Prop){i j:Nat}(B:Nat->Prop)(h0:i≠0)(hj:i≠j+1):zk O j B i=O i:=by
 funext b;simp[zk,h0,hj]
theorem FM.hands(h:FM P F Φ cap End s gs w t){j:Nat}{n m:Node}{g x g' x':Goroutine}{l:List fB}{cout sn q:Nat}{B:Nat->Prop}{w':World}{u:Trace}{gs':Array Goroutine}{a b:Nat}{e1 e2:MemOp}
  (hn:s.nodes[0]? =some n) (hg:gs[0]? =some g) (hm:s.nodes[j+1]? =some m) (hx:gs[j+1]? =some x) (ha:s.acts= .recv::l) (hl:s.hs[j]? =some .tells) (hc:s.cs[0]? =some cout)
  (hb:w.heap[cout]? =some (.chan 0 #[] false sn sn false)) (hw':∃ d,w'=(w.at d).setChan cout 0 #[] false (sn+1) (sn+1) false) (hB:∀ b,B b->s.O (j+1) b)
  (hu:Wordless u) (hut:∀ op∈u,op.act.touch? =none) (hug:∀ op∈u,op.g<gs.size)
  (ha1:t.size<=a) (ha2:(t++u)[a]? =some e1) (ha3:e1.g=j+1) (ha4:e1.act= .send cout sn) (hb2:(t++u)[b]? =some e2) (hb3:e2.g=0) (hb4:e2.act= .recvDone cout sn)
  (hgs:gs'.size=gs.size/\gs'[0]? =some g'/\gs'[j+1]? =some x'/\∀ k,k≠0->k≠j+1->gs'[k]? =gs[k]?)
  (hwk:Co P true F (aQ P F Φ End l s.cs (s.got++[j])) g' ⟨w,λb=>s.O 0 b\/B b⟩) (hr:g'.status= .running) (hq:QuitsIn P q x'):
  ∃ n' m',FM P F Φ cap End ⟨l,s.cs,s.got++[j],s.hs.set j (.gone q),zk s.O j B,(s.nodes.set (j+1) m').set 0 n'⟩ gs' w' (t++u):=by
 obtain⟨d,rfl⟩:=hw';obtain⟨z1,z2,z3,z4⟩:=hgs;have hjl:j<s.hs.length:=(z06.1 hl).1;have hin:0<s.nodes.length:=(z06.1 hn).1;have hin':j+1<s.nodes.length:=(z06.1 hm).1;have hmem:cout∈s.cs:=z0x hc;have hlt:cout<w.heap.size:=(z01.1 hb).1;have hwf:=h.wf;rw[ha] at hwf;obtain⟨⟨hk,hrl,hcl⟩,hwf⟩:=hwf;have hT:Turns (λb=>b∈s.cs) w ((w.at d).setChan cout 0 #[] false (sn+1) (sn+1) false):=by have:=Turns.set (w.at d) (C:=λb=>b∈s.cs) hmem 0 #[] false (sn+1) (sn+1) false;exact⟨this.os,this.tape,this.output,this.size,this.heap⟩
 have hoth:∀ k c,k≠0->s.cs[k]? =some c->((w.at d).setChan cout 0 #[] false (sn+1) (sn+1) false).heap[c]? =w.heap[c]? :=by
  intro k c hk hc';have:cout≠c:=λe=>by subst e;exact hk (idx_eq h.nd hc' hc)
  simp[z1r,z08 this];rfl
 have over:∀ k,Knows t (j+1) k->Knows (t++u) 0 k:=λk hk=>Vf (h.core.ti.wordless.append hu) ha1 ha2 ha3 ha4 hb2 hb3 hb4 hk;have hO:∀ i b,zk s.O j B i b->s.O i b\/(i=0/\B b):=by
  rintro i b (⟨rfl,h1|h1⟩|⟨_,_,h1⟩)
  ·exact .inl h1
  ·exact .inr ⟨rfl,h1⟩
  ·exact .inl h1
 have hap:Apart F (λb=>b∈s.cs) (zk s.O j B) w.heap.size:=by
  refine⟨h.core.ap.Fl,h.core.ap.Cl,λi b hb=> ?_,λi k b h1 h2=> ?_⟩
  ·rcases hO i b hb with hb|⟨_,hb⟩
   ·exact h.core.ap.Ol i b hb
   ·exact h.core.ap.Ol _ b (hB b hb)
  ·rcases h1 with⟨rfl,h1|h1⟩|⟨e1,e1',h1⟩<;>rcases h2 with⟨rfl,h2|h2⟩|⟨e2,e2',h2⟩
   ·rfl
   ·rfl
   ·exact h.core.ap.two _ _ b h1 h2
   ·rfl
   ·rfl
   ·exact absurd (h.core.ap.two _ _ b (hB b h1) h2).symm e2'
   ·exact h.core.ap.two _ _ b h1 h2
   ·exact absurd (h.core.ap.two _ _ b h1 (hB b h2)) e1'
   ·exact h.core.ap.two _ _ b h1 h2
 let n':Node:=⟨true,aQ P F Φ End l s.cs (s.got++[j]),g',⟨w,λb=>s.O 0 b\/B b⟩⟩
 let m':Node:=⟨false,λ_ _=>True,x',⟨w,λ_=>False⟩⟩
 have Vg:∀ k a,((s.nodes.set (j+1) m').set 0 n')[k]? =some a->(k=0/\a=n')\/(k=j+1/\a=m')\/(k≠0/\k≠j+1/\s.nodes[k]? =some a):=by
  intro k a hk;rcases iJ (by simpa using hin) hk with h1|⟨h1,hk⟩
  ·exact .inl h1
  ·rcases iJ hin' hk with h2|⟨h2,hk⟩
   ·exact .inr (.inl h2)
   ·exact .inr (.inr ⟨h1,h2,hk⟩)
 have MR:∀ k a,gs'[k]? =some a->(k=0/\a=g')\/(k=j+1/\a=x')\/(k≠0/\k≠j+1/\gs[k]? =some a):=by
  intro k a hk;by_cases e:k=0
  ·subst e;rw[z2] at hk;exact .inl ⟨rfl,(z0u hk).symm⟩
  by_cases e':k=j+1
  ·subst e';rw[z3] at hk;exact .inr (.inl ⟨rfl,(z0u hk).symm⟩)
  rw[z4 k e e'] at hk;exact .inr (.inr ⟨e,e',hk⟩)
 refine⟨n',m',?_⟩;have hcore:Core P F (λb=>b∈s.cs) (zk s.O j B) ((s.nodes.set (j+1) m').set 0 n') gs' ((w.at d).setChan cout 0 #[] false (sn+1) (sn+1) false) (t++u):=by
  refine h.core.talk hT z1 (h.core.ti.quiet hu hut) hug (λi b hb=> ?_) hap (λi b hb=> ?_) (by simp) λi a ha=> ?_
  ·rcases hO i b hb with h1|⟨rfl,h1⟩
   ·exact .inl h1
   ·refine .inr λk a hka hbk=> ?_;obtain⟨op,hop,amJ⟩:=touch_of hka;rcases getElem?_append_cases hop with⟨_,hop'⟩|⟨_,hopu⟩
    ·obtain⟨b',g1,g2,g3⟩:=h.core.ti.touch k a (by rw[touchAt_of hop'];exact amJ)
     rw[hbk] at g1;cases g1;obtain⟨_,k1,k2⟩:=h.core.ap.Ol _ b (hB b h1);rcases g3 with⟨g3,_⟩|⟨g3,_⟩|⟨_,_,g3⟩
     ·exact absurd g3 k1
     ·exact absurd g3 k2
     ·exact over k (g3 _ (hB b h1))
    ·rw[hut op hopu] at amJ;cases amJ
  ·rcases hO i b hb with h1|⟨rfl,h1⟩
   ·exact h.core.new i b h1
   ·have:=h.core.new _ b (hB b h1);omega
  ·rcases Vg i a ha with⟨rfl,rfl⟩|⟨rfl,rfl⟩|⟨e1,e2,ha⟩
   ·refine .inr ⟨rfl,(X7 _ _ _).symm,?_,hwk⟩;rw[X7];refine⟨hT.os,hT.tape,hT.output,Nat.le_of_eq hT.size.symm,λb hb=>hT.heap b λhc'=> ?_⟩;rcases hb with(hb|hb)|hb
    ·exact(h.core.ap.Ol 0 b hb).2.2 hc'
    ·exact(h.core.ap.Ol _ b (hB b hb)).2.2 hc'
    ·exact(h.core.ap.Cl b hc').2 hb
   ·refine .inr ⟨by simp[m'],(X8 _ _ _).symm,?_, .stop λ_ _=>trivial⟩
    rw[X8];exact⟨hT.os,hT.tape,hT.output,Nat.le_of_eq hT.size.symm,λb hb=>hT.heap b λhc'=>hb.elim id λhb=>(h.core.ap.Cl b hc').2 hb⟩
   ·exact .inl ⟨ha,adF _ _ e1 e2⟩
 have hnew:((w.at d).setChan cout 0 #[] false (sn+1) (sn+1) false).heap[cout]? =some (.chan 0 #[] false (sn+1) (sn+1) false):=by have:cout< (w.at d).heap.size:=hlt;simp[z1r,this]
 have hjg:j∉s.got:=λhj=>by obtain⟨q',hq'⟩:=(h.got.2 j).1 hj;rw[hl] at hq';cases hq'
 refine⟨hcore,h.nd,by simpa using hwf,by simp[z1,h.size],λc hc'=> ?_,λc hc'=> ?_,λa y ha' hy=> ?_,λi a y ha' hy=> ?_,⟨?_,λi=> ?_⟩,λc a y hc' ha' hy hp=> ?_⟩
 ·rw[hc] at hc';cases hc';exact⟨_,hnew⟩
 ·simp only[List.length_set] at hc';rw[hoth _ c (by omega) hc'];exact h.next c hc'
 ·rcases Vg _ _ ha' with⟨_,rfl⟩|⟨e,_⟩|⟨e,_⟩
  ·rcases MR _ _ hy with⟨_,rfl⟩|⟨e,_⟩|⟨e,_⟩
   ·exact⟨rfl, .inl (Runs.self hr)⟩
   ·omega
   ·exact absurd rfl e
  ·omega
  ·exact absurd rfl e
 ·rcases Vg _ _ ha' with⟨e,_⟩|⟨e,rfl⟩|⟨_,e,ha'⟩
  ·omega
  ·rcases MR _ _ hy with⟨e',_⟩|⟨_,rfl⟩|⟨_,e',_⟩
   ·omega
   ·have:i=j:=by omega
    subst this;obtain⟨cin,X9,buf,cl,sn',rc,k1,k2,k3,k4,km⟩:=h.hand i m x hm hx;rw[hl] at km;refine⟨cin,X9,buf,cl,sn',rc,k1,k2,by rw[hoth (i+1) cin (by omega) k1];exact k3,?_,?_⟩
    ·rw[k4,ha];simp
    ·simp only[z1m,if_true,hjl];refine⟨km.1,hq,λk op hop aq3 aq4=> ?_⟩;rcases getElem?_append_cases hop with⟨_,hop'⟩|⟨_,hopu⟩
     ·have:=knows_own hop';rw[aq3] at this;exact over k this
     ·exact absurd (hut op hopu) aq4
   ·exact absurd e e'
  ·rcases MR _ _ hy with⟨e',_⟩|⟨e',_⟩|⟨_,_,hy⟩
   ·omega
   ·exact absurd e' e
   ·refine(h.hand i a y ha' hy).frame (by rw[ha];simp[sK]) (by rw[ha];simp) ?_ (λ_ h=>h) (λ_ h=>h) (λc hc'=>hoth _ c (by omega) hc') λop hop _=>hut op hop
    have hij:i≠j:=by omega
    simp[Ne.symm hij]
 ·exact z0r.2 ⟨h.got.1,by simp,λa ha' b hb' e=>by simp only[z05] at hb';subst hb' e;exact hjg ha'⟩
 ·simp only[z0i,z05,z1m];by_cases hij:j=i
  ·subst hij;simp[hjl]
  ·rw[h.got.2 i];simp[hij,Ne.symm hij]
 ·rcases MR _ _ hy with⟨_,rfl⟩|⟨e,_⟩|⟨e,_⟩
  ·have:=hp.blocked;rw[hr] at this;cases this
  ·omega
  ·exact absurd rfl e
theorem Ya{gs:Array Goroutine}{i j:Nat}(hij:i≠j)(hi:i<gs.size)(hj:j<gs.size)(x y:Goroutine):
  ((gs.setIfInBounds i x).setIfInBounds j y).size=gs.size/\((gs.setIfInBounds i x).setIfInBounds j y)[i]? =some x/\((gs.setIfInBounds i x).setIfInBounds j y)[j]? =some y/\∀ k,k≠i->k≠j->((gs.setIfInBounds i x).setIfInBounds j y)[k]? =gs[k]? :=by
 refine⟨by simp,?_,?_,λk h1 h2=> ?_⟩
 ·rw[z08 (Ne.symm hij),z0w hi]
 ·rw[z0w (by simpa using hj)]
 ·rw[z08 (Ne.symm h2),z08 (Ne.symm h1)]
theorem FM.told(h:FM P F Φ cap End s gs w t){j:Nat}{m:Node}(hm:s.nodes[j+1]? =some m)(hw:s.nodes[j+1]? =some m->Rel (s.O (j+1)) F m.x.w w/\m.x.O=s.O (j+1)){cout:Nat}(hS:m.S=rQ P Φ cout j)(hst:m.stopped F):
  ∃ v B,(∀ b,B b->s.O (j+1) b)/\Φ.Out j v B w/\MV P false cout v (adG P) m.g:=by
 obtain⟨h1,h2⟩:=hw hm;have:=hst w (h2▸h1);rw[hS,h2] at this;exact this
theorem FM.aaP(h:FM P F Φ cap End s gs w t){sl:Option (Nat×Nat)}{j:Nat}{n m:Node}{g x:Goroutine}{cout:Nat}(hm:s.nodes[j+1]? =some m)(hx:gs[j+1]? =some x)(hl:s.hs[j]? =some .tells)(hr:Runs m x)(hst:m.stopped F)
  (hc:s.cs[0]? =some cout) (hn:s.nodes[0]? =some n) (hg:gs[0]? =some g) (hp:kV P F cout n g) (Qu:∃ l,s.acts= .recv::l) (hE:∀ got g x,End got g x->g.status= .running):
  ∃ gs' w' ops n' m' q O' l,runT P (crowd gs w sl) (j+1)=(.next (crowd gs' w' sl),ops)/\s.acts= .recv::l/\
   FM P F Φ cap End ⟨l,s.cs,s.got++[j],s.hs.set j (.gone q),O',(s.nodes.set (j+1) m').set 0 n'⟩ gs' w' (t++ops):=by
 obtain⟨l,ha⟩:=Qu;obtain⟨hm1,hO1,adH,amK⟩:=h.core.nd _ m hm;have hm1:m.main=false:=hm1;obtain⟨hm0,hO0,adI,amL⟩:=h.core.nd _ n hn;have hm0:n.main=true:=hm0;have hig:0<gs.size:=(z01.1 hg).1;have Vh:j+1<gs.size:=(z01.1 hx).1;have hjl:j<s.hs.length:=(z06.1 hl).1;obtain⟨cin,X9,buf,cl,sn',rc,k1,k2,k3,k4,km⟩:=h.hand j m x hm hx;rw[hc] at k2;cases k2;rw[hl] at km;simp only at km;obtain⟨q1,q2,q3⟩:=km;obtain⟨v,B,hB,hout,_,z,sh,hstep,kk,hq⟩:=h.told hm (λ_=>⟨adH,hO1⟩) q2 hst;obtain⟨sn,hb⟩:=h.back cout hc;obtain⟨aq6,ato,z0,sh0,rfl,Vj⟩:=hp;have Gn:=aq6 w (hO0▸adI);rw[(h.main n _ hn hg).Vk,ha] at Gn;obtain⟨c',hc',_,z0',aiV,aiW,hk0,_⟩:=Gn;rw[hc] at hc';cases hc';have he:=Vj w;rw[hm0,aiW w] at he;simp only[GStep.comm.injEq] at he;obtain⟨_,e1,_,e2,_⟩:=he;have e1:z0'=z0:=by have:=congrArg (λa:Array CommCase=>a.toList) e1;simp[rcase] at this;exact this
 subst e1 e2;have hs':stepG P (j+1==0) x w= .comm m.g #[scase cout v z] true sh w #[]:=by rw[hr.stepG];exact hstep w
 have hpart:partners (gs.setIfInBounds (j+1) ph) cout false=[(0,0)]:=by
  rw[partners_one (j:=0) (g:=parked n.g #[rcase cout z0'] aiV) (stand_get (by omega) hg) λk y hky hy=> ?_]
  ·rw[offersAt_parked_recv,if_pos rfl];rfl
  ·rcases getElem?_stand gs (j+1) k y hy with⟨_,rfl⟩|⟨_,hy⟩
   ·exact offersAt_ph _ _
   rcases h.offers hy with hb|⟨rfl,_⟩|⟨i,n',ci,co,rfl,hn',h1',h2',⟨_,_,z',sh',rfl,_⟩|⟨v',_,_,_,z',sh',rfl,_⟩⟩
   ·exact offersAt_of_not_blocked (nb hb) _ _
   ·exact absurd rfl hky
   ·rw[offersAt_parked_recv,if_neg];rintro rfl;have:=idx_eq h.nd h1' hc;omega
   ·exact offersAt_parked_send' ..
 have hwt:=crowd_send_meets (sl:=sl) hx hs' hb (by omega) hg hpart
 obtain⟨u1,u2,u3⟩:=lg (P:=P) (size:=gs.size) (l:=[{g:=j+1,fn:=m.g.frame.fn,pos:=m.g.frame.place,act:= .send cout sn},{g:=0,fn:=n.g.frame.fn,pos:=n.g.frame.place,act:= .recv cout sn 0},{g:=j+1,fn:=m.g.frame.fn,pos:=m.g.frame.place,act:= .sendDone cout sn},{g:=0,fn:=n.g.frame.fn,pos:=n.g.frame.place,act:= .recvDone cout sn}]) (by simp[MemAct.touch?];exact⟨Vh,hig,Vh,hig⟩)
 have hwf:=h.wf;rw[ha] at hwf;obtain⟨⟨hkn,hrl,hcl⟩,hwf⟩:=hwf;have hjg:j∉s.got:=λhj=>by obtain⟨q',hq'⟩:=(h.got.2 j).1 hj;rw[hl] at hq';cases hq'
 have hwk:Co P true F (aQ P F Φ End l s.cs (s.got++[j])) (n.g.finishComm P #[rcase cout z0'] aiV 0 v true) ⟨w,λb=>s.O 0 b\/B b⟩:=by
  have:=hk0 v rfl j B w (by omega) hjg hout (by rw[hO0];exact Rel.refl _ _ _) λb hb=>⟨(h.core.ap.Ol _ b (hB b hb)).1,λho=>by rw[hO0] at ho;have:=h.core.ap.two _ _ b ho (hB b hb);omega,(h.core.ap.Ol _ b (hB b hb)).2.1⟩
  rw[hO0] at this;exact this
 have hgr:(n.g.finishComm P #[rcase cout z0'] aiV 0 v true).status= .running:=rfl;obtain⟨y1,y2,y3,y4⟩:=Ya (gs:=gs) (i:=0) (j:=j+1) (by omega) hig Vh (n.g.finishComm P #[rcase cout z0'] aiV 0 v true) (m.g.finishComm P #[scase cout v z] sh 0 undef false)
 obtain⟨n',m',hF⟩:=h.hands (u:=MemOp.ofEvents (j+1) x.frame.fn x.frame.place #[]++ #[{g:=j+1,fn:=m.g.frame.fn,pos:=m.g.frame.place,act:= .send cout sn},{g:=0,fn:=n.g.frame.fn,pos:=n.g.frame.place,act:= .recv cout sn 0},{g:=j+1,fn:=m.g.frame.fn,pos:=m.g.frame.place,act:= .sendDone cout sn},{g:=0,fn:=n.g.frame.fn,pos:=n.g.frame.place,act:= .recvDone cout sn}])
  (a:=t.size) (b:=t.size+3) (e1:= {g:=j+1,fn:=m.g.frame.fn,pos:=m.g.frame.place,act:= .send cout sn}) (e2:= {g:=0,fn:=n.g.frame.fn,pos:=n.g.frame.place,act:= .recvDone cout sn})
  hn hg hm hx ha hl hc hb ⟨w.drawn,rfl⟩ hB (by simpa[MemOp.ofEvents] using u1) (by simpa[MemOp.ofEvents] using u2) (by simpa[MemOp.ofEvents] using u3) (z0c _) (by simp[MemOp.ofEvents]) rfl rfl (by simp[MemOp.ofEvents]) rfl rfl ⟨y1,y2,y3,y4⟩ hwk hgr hq
 exact⟨_,_,_,n',m',kk,_,l,hwt,ha,hF⟩
theorem FM.aaQ(h:FM P F Φ cap End s gs w t){sl:Option (Nat×Nat)}{n:Node}{g:Goroutine}{l:List fB}{cout:Nat}(hn:s.nodes[0]? =some n)(hg:gs[0]? =some g)(hr:Runs n g)(hst:n.stopped F)(ha:s.acts= .recv::l)(hc:s.cs[0]? =some cout)
  (h0:∃ j m x v,s.nodes[j+1]? =some m/\gs[j+1]? =some x/\zn P F cout v m x):
  ∃ gs' w' ops j n' m' q O',runT P (crowd gs w sl) 0=(.next (crowd gs' w' sl),ops)/\s.hs[j]? =some .tells/\
   FM P F Φ cap End ⟨l,s.cs,s.got++[j],s.hs.set j (.gone q),O',(s.nodes.set (j+1) m').set 0 n'⟩ gs' w' (t++ops):=by
 obtain⟨hm0,hO0,adI,amL⟩:=h.core.nd _ n hn;have hm0:n.main=true:=hm0;have hig:0<gs.size:=(z01.1 hg).1;have Gn:=hst w (hO0▸adI);rw[(h.main n _ hn hg).Vk,ha] at Gn;obtain⟨c',hc',_,z0,sh0,Vj,hk0,_⟩:=Gn;rw[hc] at hc';cases hc';obtain⟨sn,hb⟩:=h.back cout hc;have hs':stepG P (0==0) g w= .comm n.g #[rcase cout z0] true sh0 w #[]:=by rw[hr.stepG];exact Vj w
 have hwho:∀ j k,(j,k)∈partners (gs.setIfInBounds 0 ph) cout true->k=0/\j≠0/\∃ i m v z sh,j=i+1/\s.nodes[i+1]? =some m/\s.hs[i]? =some .tells/\gs[i+1]? =some (parked m.g #[scase cout v z] sh)/\zn P F cout v m (parked m.g #[scase cout v z] sh):=by
  intro j k hjk;obtain⟨y,hy,hk⟩:=mem_partners.1 hjk;rcases getElem?_stand gs 0 j y hy with⟨_,rfl⟩|⟨hj0,hy⟩
  ·rw[offersAt_ph] at hk;cases hk
  rcases h.offers hy with hb|⟨rfl,_⟩|⟨i,m,ci,co,rfl,hm,h1,h2,⟨_,_,z',sh',rfl,_⟩|⟨v',hl',hps⟩⟩
  ·rw[offersAt_of_not_blocked (nb hb)] at hk;cases hk
  ·exact absurd rfl hj0
  ·rw[offersAt_parked_recv'] at hk;cases hk
  ·rw[hc] at h2;cases h2;have aq7:=hps;obtain⟨_,_,z',sh',rfl,_⟩:=hps;rw[offersAt_parked_send,if_pos rfl] at hk;simp only[z05] at hk;exact⟨hk,by omega,i,m,v',z',sh',rfl,hm,hl',hy,aq7⟩
 have hne:partners (gs.setIfInBounds 0 ph) cout true≠[]:=by
  obtain⟨j,m,x,v,hm,hx,_,_,z,sh,rfl,_⟩:=h0;intro e;have:(j+1,0)∈partners (gs.setIfInBounds 0 ph) cout true:=mem_partners.2 ⟨_,stand_get (by omega) hx,by rw[offersAt_parked_send,if_pos rfl];simp⟩
  rw[e] at this;cases this
 obtain⟨j0,gj,vj,zj,shj,d,hj0,hgj,hwt⟩:=crowd_recv_meets_some (sl:=sl) hg hs' hb hne λj k hjk=>by obtain⟨e1,e2,i,m,v,z,sh,rfl,_,_,hy,_⟩:=hwho j k hjk;exact⟨e1,e2,m.g,v,z,sh,hy⟩
 rcases h.offers hgj with hbk|⟨rfl,_⟩|⟨j,m,ci,co,rfl,hm,h1,h2,⟨_,_,z',sh',e,_⟩|⟨v',hl,hps⟩⟩
 ·rcases hbk with e|e<;>cases e
 ·exact absurd rfl hj0
 ·simp only[parked,Goroutine.mk.injEq,z0b,z1b] at e;have:=e.2.2.2.2.1;simp[rcase,scase] at this
 rw[hc] at h2;cases h2;obtain⟨hm1,hO1,adH,amK⟩:=h.core.nd _ m hm;have hm1:m.main=false:=hm1;have Vh:j+1<gs.size:=(z01.1 hgj).1;obtain⟨cin,X9,buf,cl,sn',rc,k1,k2,k3,k4,km⟩:=h.hand j m _ hm hgj;rw[hc] at k2;cases k2;rw[hl] at km;simp only at km;obtain⟨q1,q2,q3⟩:=km;obtain⟨amM,apI,z',sh',e,Vl⟩:=hps;obtain⟨v,B,hB,hout,_,z,sh,hstep,kk,hq⟩:=h.told hm (λ_=>⟨adH,hO1⟩) q2 amM;have he:=Vl w;rw[hm1,hstep w] at he;simp only[GStep.comm.injEq] at he;obtain⟨_,e1,_,e2,_⟩:=he;obtain⟨rfl,rfl⟩:v=v'/\z=z':=by have:=congrArg (λa:Array CommCase=>a.toList) e1;simp[scase] at this;exact this
 subst e2;obtain⟨rfl,rfl,rfl⟩:v=vj/\z=zj/\sh=shj:=by simp only[parked,Goroutine.mk.injEq,z0b,z1b] at e;have e3:=e.2.2.2.2.1;have:=congrArg (λa:Array CommCase=>a.toList) e3;simp[scase] at this;exact⟨this.1.symm,this.2.symm,e.2.2.2.2.2.symm⟩
 have hfin:gj.finishComm P #[scase cout v z] sh 0 undef false=m.g.finishComm P #[scase cout v z] sh 0 undef false:=by have:=congrArg (λa:Goroutine=>a.finishComm P #[scase cout v z] sh 0 undef false) e;simpa only[finishComm_parked] using this
 have hfr:gj.frame=m.g.frame:=by have:=congrArg (λa:Goroutine=>a.frame) e;exact this
 rw[hfin,hfr] at hwt;obtain⟨u1,u2,u3⟩:=lg (P:=P) (size:=gs.size) (l:=[{g:=j+1,fn:=m.g.frame.fn,pos:=m.g.frame.place,act:= .send cout sn},{g:=0,fn:=n.g.frame.fn,pos:=n.g.frame.place,act:= .recv cout sn 0},{g:=j+1,fn:=m.g.frame.fn,pos:=m.g.frame.place,act:= .sendDone cout sn},{g:=0,fn:=n.g.frame.fn,pos:=n.g.frame.place,act:= .recvDone cout sn}]) (by simp[MemAct.touch?];exact⟨Vh,hig,Vh,hig⟩)
 have hwf:=h.wf;rw[ha] at hwf;obtain⟨⟨hkn,hrl,hcl⟩,hwf⟩:=hwf;have hjl:j<s.hs.length:=(z06.1 hl).1;have hjg:j∉s.got:=λhj=>by obtain⟨q',hq'⟩:=(h.got.2 j).1 hj;rw[hl] at hq';cases hq'
 have hwk:Co P true F (aQ P F Φ End l s.cs (s.got++[j])) (n.g.finishComm P #[rcase cout z0] sh0 0 v true) ⟨w,λb=>s.O 0 b\/B b⟩:=by
  have:=hk0 v rfl j B w (by omega) hjg hout (by rw[hO0];exact Rel.refl _ _ _) λb hb=>⟨(h.core.ap.Ol _ b (hB b hb)).1,λho=>by rw[hO0] at ho;have:=h.core.ap.two _ _ b ho (hB b hb);omega,(h.core.ap.Ol _ b (hB b hb)).2.1⟩
  rw[hO0] at this;exact this
 have hgr:(n.g.finishComm P #[rcase cout z0] sh0 0 v true).status= .running:=rfl;obtain⟨y1,y2,y3,y4⟩:=Ya (gs:=gs) (i:=j+1) (j:=0) (by omega) Vh hig (m.g.finishComm P #[scase cout v z] sh 0 undef false) (n.g.finishComm P #[rcase cout z0] sh0 0 v true)
 obtain⟨n',m',hF⟩:=h.hands (u:=MemOp.ofEvents 0 g.frame.fn g.frame.place #[]++ #[{g:=j+1,fn:=m.g.frame.fn,pos:=m.g.frame.place,act:= .send cout sn},{g:=0,fn:=n.g.frame.fn,pos:=n.g.frame.place,act:= .recv cout sn 0},{g:=j+1,fn:=m.g.frame.fn,pos:=m.g.frame.place,act:= .sendDone cout sn},{g:=0,fn:=n.g.frame.fn,pos:=n.g.frame.place,act:= .recvDone cout sn}])
  (a:=t.size) (b:=t.size+3) (e1:= {g:=j+1,fn:=m.g.frame.fn,pos:=m.g.frame.place,act:= .send cout sn}) (e2:= {g:=0,fn:=n.g.frame.fn,pos:=n.g.frame.place,act:= .recvDone cout sn})
  hn hg hm hgj ha hl hc hb ⟨d,rfl⟩ hB (by simpa[MemOp.ofEvents] using u1) (by simpa[MemOp.ofEvents] using u2) (by simpa[MemOp.ofEvents] using u3) (z0c _) (by simp[MemOp.ofEvents]) rfl rfl (by simp[MemOp.ofEvents]) rfl rfl ⟨y1,y3,y2,λk h1 h2=>y4 k h2 h1⟩ hwk hgr hq
 exact⟨_,_,_,j,n',m',kk,_,hwt,hl,hF⟩
end
end Go.Sx
namespace Go.Sx
open Go Go.Conc
def xC(P:Program)(F:Nat->Prop)(Post:Value->World->Prop):List Nat->Goroutine->OW->Prop:=λ_ g x=>
 g.status= .running/\∃ v es,stepG P true g x.w= .ended (.done v) x.w es/\(∀ e∈es,Iq x.O F x.w.heap.size x.w.heap.size e)/\Post v x.w
theorem aeQ{P:Program}{gs:Array Goroutine}{w w':World}{sl:Option (Nat×Nat)}{i:Nat}{g:Goroutine}{o:Outcome}{es:Array Event}(hi:gs[i]? =some g)(h:stepG P (i==0) g w= .ended o w' es):
  runT P (crowd gs w sl) i=(.ended o w',MemOp.ofEvents i g.frame.fn g.frame.place es):=by
 obtain⟨hlt,rfl⟩:=z01.1 hi;have hsw:=swapAt_of_lt hlt {(default:Goroutine) with status:= .finished};show runT P {world:=w,gs:=gs,rest:= {timers:= #[],alone:=none,slice:=sl}} i=_;unfold runT;simp only[hsw,h,GStep.es]
def KO(P:Program)(F:Nat->Prop):(Nat×Nat×List Node)->(Nat×Nat×List Node)->Prop:=λa b=>
 a.1<b.1\/(a.1=b.1/\(a.2.1<b.2.1\/(a.2.1=b.2.1/\Ru (Child P F) a.2.2 b.2.2/\Acc (Ru (Child P F)) b.2.2)))
theorem aeR(P:Program)(F:Nat->Prop):WellFounded (KO P F):=by
 refine⟨λ⟨a,b,l⟩=> ?_⟩
 induction a using z15 generalizing b l with
 |_ a iha=>
  induction b using z15 generalizing l with
  |_ b ihb=>
   have key:∀ l,Acc (Ru (Child P F)) l->Acc (KO P F) (a,b,l):=by
    intro l hl
    induction hl with
    |intro l _ ih=>
     refine⟨_,λ⟨a',b',l'⟩ h=> ?_⟩;rcases h with h|⟨h1,h|⟨h2,h3,_⟩⟩
     ·exact iha a' h b' l'
     ·simp only at h1 h;subst h1;exact ihb b' h l'
     ·simp only at h1 h2 h3;subst h1 h2;exact ih l' h3
   by_cases hl:Acc (Ru (Child P F)) l
   ·exact key l hl
   ·refine⟨_,λ⟨a',b',l'⟩ h=> ?_⟩;rcases h with h|⟨h1,h|⟨h2,h3,h4⟩⟩
    ·exact iha a' h b' l'
    ·simp only at h1 h;subst h1;exact ihb b' h l'
    ·exact absurd h4 hl
def Yz(gs:Array Goroutine):Nat:=(gs.toList.map λg=>if g.status= .running then 1 else 0).sum
def wtH(hs:List CG):Nat:=(hs.map CG.wt).sum
def qH(hs:List CG):Nat:=(hs.map CG.q).sum
theorem Fj{α:Type _}(f:α->Nat):∀ {l:List α} {i:Nat} {a b:α},l[i]? =some a->((l.set i b).map f).sum+f a=(l.map f).sum+f b
 |[],_,_,_,h=>by simp at h
 |x::l,0,a,b,h=>by
  simp at h;subst h;simp;omega
 |x::l,i+1,a,b,h=>by simp only[z0k] at h;have:=Fj f (b:=b) h;simp only[z1j,z04,List.sum_cons];omega
theorem ug{gs:Array Goroutine}{i:Nat}{g g':Goroutine}(h:gs[i]? =some g):Yz (gs.setIfInBounds i g')+(if g.status= .running then 1 else 0)=Yz gs+if g'.status= .running then 1 else 0:=by
 have h':gs.toList[i]? =some g:=by simpa using h
 have:=Fj (λg:Goroutine=>if g.status= .running then 1 else 0) (b:=g') h'
 unfold Yz;simpa using this
theorem uZ{hs:List CG}{j:Nat}{a b:CG}(h:hs[j]? =some a):wtH (hs.set j b)+a.wt=wtH hs+b.wt:=Fj CG.wt h
theorem WJ{hs:List CG}{j:Nat}{a b:CG}(h:hs[j]? =some a):qH (hs.set j b)+a.q=qH hs+b.q:=Fj CG.q h
theorem Dl:∀ (n:Nat) (l:List Nat),l.Nodup->(∀ x∈l,x<n)->l.length<=n
 |0,[],_,_=>z0c _
 |0,x::l,_,h=>absurd (h x List.mem_cons_self) (z16 _)
 |n+1,l,hn,h=>by
  by_cases hm:n∈l
  ·have h1:=Dl n (l.erase n) (hn.erase n) λx hx=>by
    have h2:=h x (List.mem_of_mem_erase hx);have h3:x≠n:=λe=>by subst e;exact(List.Nodup.not_mem_erase hn) hx
    omega
   rw[List.length_erase_of_mem hm] at h1;omega
  ·have:=Dl n l hn λx hx=>by
    have h2:=h x hx;have h3:x≠n:=λe=>by subst e;exact hm hx
    omega
   omega
section
variable {P:Program} {F:Nat->Prop} {Φ:Gl} {cap:Nat} {Post:Value->World->Prop} {s:FSt} {gs:Array Goroutine} {w:World} {t:Trace}
def meas(Φ:Gl)(s:FSt)(gs:Array Goroutine):Nat×Nat×List Node:=(wtA Φ s.acts+wtH s.hs,Yz gs+qH s.hs,s.nodes)
theorem FM.fin(h:FM P F Φ cap (xC P F Post) s gs w t){sl sl0:Option (Nat×Nat)}{w0:World}{n:Node}{g:Goroutine}(hn:s.nodes[0]? =some n)(hg:gs[0]? =some g)(hr:Runs n g)(hst:n.stopped F)(ha:s.acts=[]):
  ∃ o w' ops,runT P (crowd gs w sl) 0=(.ended o w',ops)/\Go.Conc.Good P Post (crowd gs w0 sl0) o w' (t++ops):=by
 obtain⟨hm,hO,hrel,hwalk⟩:=h.core.nd _ n hn;have hm:n.main=true:=hm;have hig:0<gs.size:=(z01.1 hg).1;have hstop:=hst w (hO▸hrel);rw[(h.main n g hn hg).Vk,ha] at hstop;obtain⟨_,v,es,hend,hes,hpost⟩:=hstop;rw[hO] at hes;have hs':stepG P (0==0) g w= .ended (.done v) w es:=by rw[hr.stepG];exact hend
 have hrun:=aeQ (sl:=sl) hg hs';have hwf:=h.wf;rw[ha] at hwf;obtain⟨hk,hrl⟩:=hwf;have hall:∀ j,j<s.hs.length->∃ q,s.hs[j]? =some (.gone q):=by
  intro j hj;refine(h.got.2 j).1 (Classical.byContradiction λhno=> ?_);have h1:s.got.length+1<=s.hs.length:=by
   have h2:(j::s.got).Nodup:=z1p.2 ⟨hno,h.got.1⟩;have h3:∀ x∈j::s.got,x<s.hs.length:=by
    intro x hx;rcases z1c.1 hx with rfl|hx
    ·exact hj
    ·obtain⟨q,hq⟩:=(h.got.2 x).1 hx;exact(z06.1 hq).1
   exact Dl _ _ h2 h3
  omega
 have aeS:∀ j x,gs[j+1]? =some x->∃ q,QuitsIn P q x/\∀ k op,t[k]? =some op->op.g=j+1->op.act.touch? ≠none->Knows t 0 k:=by
  intro j x hx;have hjs:j+1<gs.size:=(z01.1 hx).1;have Rw:s.nodes[j+1]? =some (s.nodes[j+1]'(by rw[h.core.sz];exact hjs)):=z09 _
  obtain⟨cin,cout,buf,cl,sn,rc,k1,k2,k3,k4,km⟩:=h.hand j _ _ Rw hx;obtain⟨q,hq⟩:=hall j (by have:=h.size;omega)
  rw[hq] at km;exact⟨q,km.2⟩
 have hti:=h.core.ti.step h.core.ap (i:=0) (n':=w.heap.size) (z0c _) (fn:=g.frame.fn) (pos:=g.frame.place) hes;refine⟨_,_,_,hrun,v,rfl,hpost,hti.race,λi gi hgi hne hct=> ?_,⟨λx hx=> ?_,rfl⟩,λi x hx hne=> ?_⟩
 ·obtain⟨x,hx,_⟩:=hct;obtain⟨op,hop,arU⟩:=touch_of hx;have aeT:op.g=gi:=by unfold Trace.g? at hgi;rw[hop] at hgi;exact z0u hgi
  rcases getElem?_append_cases hop with⟨hi,hop'⟩|⟨_,hopu⟩
  ·have hlt:=h.core.op op (Array.mem_of_getElem? hop');obtain⟨j,rfl⟩:∃ j,gi=j+1:=⟨gi - 1,by omega⟩
   obtain⟨q,_,hkn⟩:=aeS j gs[j+1] (z0p (by omega))
   obtain⟨r,z,hz,hz0,hb⟩:=(hkn i op hop' aeT (by rw[arU];simp)).app (MemOp.ofEvents 0 g.frame.fn g.frame.place es)
   refine⟨r,by unfold Trace.g?;rw[hz];simp[hz0],?_⟩
   rcases hb with rfl|hb
   ·rw[hop] at hz;cases hz;omega
   ·exact hb
  ·have:=ofEvents_g op hopu;omega
 ·obtain⟨j,hj⟩:=z1d.1 hx;rw[List.getElem?_drop] at hj;obtain⟨q,hq,_⟩:=aeS j x (by rw[Nat.add_comm];simpa[crowd] using hj)
  exact⟨_,hq.leaves⟩
 ·obtain⟨j,rfl⟩:∃ j,i=j+1:=⟨i - 1,by omega⟩
  obtain⟨q,hq,_⟩:=aeS j x hx;have:(t++MemOp.ofEvents 0 g.frame.fn g.frame.place es).deaf (j+1) (t++MemOp.ofEvents 0 g.frame.fn g.frame.place es).size=0:=hti.wordless.deaf ..;rw[this];exact⟨q,hq.hears _ 0⟩
theorem FM.acc(h:FM P F Φ cap (xC P F Post) s gs w t):Acc (Ru (Child P F)) s.nodes:=Ry λn hn=>by obtain⟨i,hi⟩:=z1d.1 hn;exact(h.core.nd i n hi).2.2.2.acc
theorem KO.a{a b:Nat×Nat×List Node}(h:a.1<b.1):KO P F a b:= .inl h
theorem FM.aeU(h:FM P F Φ cap (xC P F Post) s gs w t){i:Nat}{n n':Node}{g g':Goroutine}{O':Nat->Nat->Prop}(hn:s.nodes[i]? =some n)(hg:gs[i]? =some g)(hr:g.status= .running)(hr':g'.status= .running)(hc:Child P F n' n):
  KO P F (meas Φ {s with O:=O',nodes:=s.nodes.set i n'} (gs.setIfInBounds i g')) (meas Φ s gs):=by
 refine .inr ⟨rfl, .inr ⟨?_,⟨i,n',n,hn,hc,rfl⟩,h.acc⟩⟩;have:=ug (g':=g') hg;rw[hr,hr'] at this;simp at this;simp[meas,this]
theorem sZ:∀ got g x,xC P F Post got g x->g.status= .running:=λ_ _ _ h=>h.1
theorem FM.step(h:FM P F Φ cap (xC P F Post) s gs w t)(sl:Option (Nat×Nat)):
  (∃ o w' ops,stepT P (crowd gs w sl)=(.ended o w',ops)/\Go.Conc.Good P Post (crowd gs w sl) o w' (t++ops))\/
  ∃ gs' w' sl' ops s',stepT P (crowd gs w sl)=(.next (crowd gs' w' sl'),ops)/\KO P F (meas Φ s' gs') (meas Φ s gs)/\FM P F Φ cap (xC P F Post) s' gs' w' (t++ops):=by
 obtain⟨i,g,d,sl',hi,hrun,hst⟩:=crowd_pick (P:=P) (w:=w) (sl:=sl) h.awake h.someone;replace h:=h.at d;have hig:i<gs.size:=(z01.1 hi).1;have hn:s.nodes[i]? =some (s.nodes[i]'(by rw[h.core.sz];exact hig)):=z09 _
 generalize (s.nodes[i]'(by rw[h.core.sz];exact hig))=n at hn
 have hw:=h.core.nd i n hn;cases i with
 |zero=>
  have hm:=h.main n g hn hi;have hr:Runs n g:=by
   rcases hm.st with hr|⟨_,_,_,_,hp⟩
   ·exact hr
   ·rw[hp.blocked] at hrun;cases hrun
  by_cases hs:n.stopped F
  case neg=>
   obtain⟨g',w',n',O',ops,h1,h2,h3,h4⟩:=h.own (sl:=sl') hn hi hr hs (λg x hx=>by rw[hm.Vk] at hx;exact hx.running sZ) (λj q e=>by cases e)
   exact .inr ⟨_,_,_,_,_,hst.trans h1,h.aeU hn hi hrun h2 h3,h4⟩
  case pos=>
   cases ha:s.acts with
   |nil=>
    obtain⟨o,w',ops,h1,h2⟩:=h.fin (sl:=sl') (sl0:=sl) (w0:=w) hn hi hr hs ha;exact .inl ⟨o,w',ops,hst.trans h1,h2⟩
   |cons act l=>
    right;cases act with
    |mk c=>
     obtain⟨gs',w',ops,n',g',h1,h2,h3,h4⟩:=h.makes sZ (sl:=sl') hn hi hr hs ha;exact⟨_,_,_,_,_,hst.trans h1, .a (by simp[meas,ha,wtA]),h4⟩
    |go j=>
     obtain⟨gs',ops,n',nc,g',child,h1,h2,h3,h4,h5⟩:=h.starts (sl:=sl') hn hi hr hs ha;exact⟨_,_,_,_,_,hst.trans h1, .a (by simp[meas,ha,wtA,wtH,CG.wt];omega),h5⟩
    |send j v=>
     by_cases hp:∃ c m x,s.cs[j+1]? =some c/\s.nodes[j+1]? =some m/\gs[j+1]? =some x/\kV P F c m x
     ·obtain⟨c,m,x,e1,e2,e3,e4⟩:=hp;obtain⟨gs',w',ops,n',m',g',x',st',lst,h1,h2,h3,h4,h5,h6,h7⟩:=h.aa' (sl:=sl') hn hi hr hs ha e1 e2 e3 e4;have:=uZ (b:=st') h5;exact⟨_,_,_,_,_,hst.trans h1, .a (by simp[meas,ha,wtA];omega),h7⟩
     ·obtain⟨gs',w',ops,n',g',h1,h2,h3,h4⟩:=h.abb (sl:=sl') hn hi hr hs ha λc m x e1 e2 e3 e4=>hp ⟨c,m,x,e1,e2,e3,e4⟩;exact⟨_,_,_,_,_,hst.trans h1, .a (by simp[meas,ha,wtA]),h4⟩
    |close j=>
     obtain⟨gs',w',ops,n',m,st',h1,h2,h3⟩:=h.closes (sl:=sl') hn hi hr hs ha;have:=uZ (b:=st') h2;exact⟨_,_,_,_,_,hst.trans h1, .a (by simp[meas,ha,wtA];omega),h3⟩
    |recv=>
     have hc:∃ c,s.cs[0]? =some c:=by have hstop:=hs (w.at d) (hw.2.1▸hw.2.2.1);rw[hm.Vk,ha] at hstop;obtain⟨c,hc,_⟩:=hstop;exact⟨c,hc⟩
     obtain⟨c,hc⟩:=hc;by_cases hp:∃ j m x v,s.nodes[j+1]? =some m/\gs[j+1]? =some x/\zn P F c v m x
     ·obtain⟨gs',w',ops,j,n',m',q,O',h1,h2,h3⟩:=h.aaQ (sl:=sl') hn hi hr hs ha hc hp;have:=uZ (b:= .gone q) h2;exact⟨_,_,_,_,_,hst.trans h1, .a (by simp[meas,ha,wtA];simp[CG.wt] at this;omega),h3⟩
     ·obtain⟨gs',ops,g',h1,rfl,h3,h4⟩:=h.abd (sl:=sl') hn hi hr hs ha hc λj m x v e1 e2 e3=>hp ⟨j,m,x,v,e1,e2,e3⟩;have:=ug (g':=g') hi;rw[hrun,h3] at this;simp at this;exact⟨_,_,_,_,_,hst.trans h1, .inr ⟨rfl, .inl (by simp[meas];omega)⟩,h4⟩
 |succ j=>
  right;have hh:=h.hand j n g hn hi;obtain⟨cin,cout,buf,cl,sn,rc,k1,k2,k3,k4,km⟩:=hh;split at km
  ·rename_i l hl;have hr:Runs n g:=by
    rcases km.2.2.2 with hr|⟨_,_,hp⟩
    ·exact hr
    ·rw[hp.blocked] at hrun;cases hrun
   by_cases hs:n.stopped F
   ·obtain⟨gs',w',ops,st',n',g',h1,rfl,h3,h4⟩:=h.hears (sl:=sl') hn hi hl hr hs;refine⟨_,_,_,_,_,hst.trans h1,?_,h3⟩;have hs1:=uZ (b:=st') hl;have hs2:=WJ (b:=st') hl;have hs3:=ug (g':=g') hi;rcases h4 with h4|⟨rfl,rfl,h4⟩
    ·exact .a (by simp[meas];omega)
    ·rw[hrun,h4] at hs3;simp at hs3;exact .inr ⟨by simp[meas];omega, .inl (by simp[meas];omega)⟩
   ·obtain⟨g',w',n',O',ops,h1,h2,h3,h4⟩:=h.own (sl:=sl') hn hi hr hs (λg x hx=>by rw[km.2.2.1] at hx;exact hx.running) (λj' q e=>by
     have:j'=j:=by omega
     subst this;rw[hl];simp)
    exact⟨_,_,_,_,_,hst.trans h1,h.aeU hn hi hrun h2 h3,h4⟩
  ·rename_i hl;have hr:Runs n g:=by
    rcases km.2.2 with hr|⟨_,hp⟩
    ·exact hr
    ·rw[hp.blocked] at hrun;cases hrun
   by_cases hs:n.stopped F
   ·have hg0:gs[0]? =some (gs[0]'(by omega)):=z0p _
    generalize (gs[0]'(by omega))=g0 at hg0
    have hn0:s.nodes[0]? =some (s.nodes[0]'(by rw[h.core.sz];omega)):=z09 _
    generalize (s.nodes[0]'(by rw[h.core.sz];omega))=n0 at hn0
    by_cases hp:kV P F cout n0 g0
    ·have hm:=h.main n0 g0 hn0 hg0;have Qu:∃ l,s.acts= .recv::l:=by
      rcases hm.st with hr|⟨l,_,ha,_⟩
      ·have:=hr.status;rw[hp.blocked] at this;cases this
      ·exact⟨l,ha⟩
     obtain⟨gs',w',ops,n',m',q,O',l,h1,ha,h3⟩:=h.aaP (sl:=sl') hn hi hl hr hs k2 hn0 hg0 hp Qu sZ;have:=uZ (b:= .gone q) hl;exact⟨_,_,_,_,_,hst.trans h1, .a (by simp[meas,ha,wtA];simp[CG.wt] at this;omega),h3⟩
    ·obtain⟨gs',ops,g',h1,rfl,h3,h4⟩:=h.waits (sl:=sl') hn hi hl hr hs λc m x e1 e2 e3 e4=>by rw[k2] at e1;cases e1;rw[hn0] at e2;cases e2;rw[hg0] at e3;cases e3;exact hp e4
     have hs1:=uZ (b:= .tells) hl;have hs2:=WJ (b:= .tells) hl;have hs3:=ug (g':=g') hi;rw[hrun,h4] at hs3;simp at hs3;exact⟨_,_,_,_,_,hst.trans h1, .inr ⟨by simp[meas];omega, .inl (by simp[meas];omega)⟩,h3⟩
   ·obtain⟨g',w',n',O',ops,h1,h2,h3,h4⟩:=h.own (sl:=sl') hn hi hr hs (λg x hx=>by rw[km.2.1] at hx;exact hx.running) (λj' q e=>by
     have:j'=j:=by omega
     subst this;rw[hl];simp)
    exact⟨_,_,_,_,_,hst.trans h1,h.aeU hn hi hrun h2 h3,h4⟩
  ·rename_i q hl;obtain⟨gs',ops,g',q',h1,rfl,h3,h4,h5⟩:=h.quits (sl:=sl') hn hi hl hrun;have hs1:=uZ (b:= .gone q') hl;have hs2:=WJ (b:= .gone q') hl;have hs3:=ug (g':=g') hi;simp[CG.wt] at hs1;simp[CG.q] at hs2;have hs4:(if g'.status= .running then 1 else 0)<=1:=by split<;>omega
   rw[hrun] at hs3;simp at hs3;exact⟨_,_,_,_,_,hst.trans h1, .inr ⟨by simp[meas];omega, .inl (by simp[meas];omega)⟩,h5⟩
  ·exact km.elim
theorem FM.ends(h:FM P F Φ cap (xC P F Post) s gs w t)(sl:Option (Nat×Nat)):
  ∃ N last o w' t',runNT P (N+1) (crowd gs w sl) t=(.ended o w',t')/\runN P N (crowd gs w sl)= .next last/\Go.step P last= .ended o w'/\Go.Conc.Good P Post last o w' t':=by
 refine run_of_inv (aeR P F) (λμ m t=> ∃ s gs w sl,m=crowd gs w sl/\μ=meas Φ s gs/\FM P F Φ cap (xC P F Post) s gs w t) (Go.Conc.Good P Post) ?_ _ _ _ ⟨s,gs,w,sl,rfl,rfl,h⟩;rintro μ m t ⟨s,gs,w,sl,rfl,rfl,h⟩;rcases h.step sl with⟨o,w',ops,h1,h2⟩|⟨gs',w',sl',ops,s',h1,h2,h3⟩
 ·exact .inl ⟨o,w',ops,h1,h2⟩
 ·exact .inr ⟨_,_,_,h1,h2,s',gs',w',sl',rfl,rfl,h3⟩
end
end Go.Sx
namespace Go.Sx
open Go Go.Conc
section
variable {P:Program} {main:Bool} {F:Nat->Prop} {o:Oper} {a:Act}
theorem zI{T e:TypeId}{dir:ChanDir}{ch:Operand}{ok:Bool}{c:Nat}{z:Value}(ho:o.op= .recv T ch ok)(hc:a.eval ch= .chan (some c))(hT:P.underlying T=some (.chan dir e))(hz:∀ w,(zeroValue e).run P w= .ok z w)(he:∀ w,(zeroValue e).events P w #[]= #[])(w:World):
  (execOp a.eval o).run P w= .ok (.comm #[rcase c z] true (.recv ok)) w/\(execOp a.eval o).events P w #[]= #[]:=by
 unfold execOp;simp only[ho];constructor
 ·simp[run_underlying hT,hz,hc,rcase]
 ·simp[run_underlying hT,he,hc]
theorem GN{ch y:Operand}{c:Nat}{v:Value}(ho:o.op= .send ch y)(hc:a.eval ch= .chan (some c))(hv:a.eval y=v)(w:World):
  (execOp a.eval o).run P w= .ok (.comm #[scase c v (.tuple #[])] true .send) w/\(execOp a.eval o).events P w #[]= #[]:=by
 unfold execOp;simp only[ho];exact⟨by simp[hc,hv,scase],rfl⟩
section
variable {ops:Array Oper} {b:Frame} {k:List Item} {cs:List Frame} {i:Nat} {rest:List Nat}
theorem CX(ho:ops[i]? =some o)(v:Value):Go.Conc.served (G (b.at a (.inRegion ops (i::rest)::k)) cs) v=G (b.at (a.put o.dst v) (.inRegion ops rest::k)) cs:=by rw[served_G];simp[ho]
theorem CY(ho:ops[i]? =some o)(hw:Region.wanted o (yielded ops a.tmps)=true)(hk:b.kind≠ .early){c:Nat}{z:Value}{ok:Bool}(hr:∀ w,(execOp a.eval o).run P w= .ok (.comm #[rcase c z] true (.recv ok)) w/\(execOp a.eval o).events P w #[]= #[])
  {K:Value->Bool->Goroutine->Prop} (h1:∀ v,K v true (G (b.at (a.put o.dst (recvd ok v true)) (.inRegion ops rest::k)) cs)) (h2:K z false (G (b.at (a.put o.dst (recvd ok z false)) (.inRegion ops rest::k)) cs)):
  Nk P main c K (G (b.at a (.inRegion ops (i::rest)::k)) cs):=by
 refine⟨rfl,z, .recv ok,λw=>by rw[stepG_comm ho hw hk (hr w).1,listed_none (hr w).2],λv=> ?_,?_⟩
 ·rw[finishComm_recv,CX ho];exact h1 v
 ·rw[finishComm_recv,CX ho];exact h2
theorem Ku(ho:ops[i]? =some o)(hw:Region.wanted o (yielded ops a.tmps)=true)(hk:b.kind≠ .early){c:Nat}{v:Value}(hr:∀ w,(execOp a.eval o).run P w= .ok (.comm #[scase c v (.tuple #[])] true .send) w/\(execOp a.eval o).events P w #[]= #[])
  {K:Goroutine->Prop} (h:K (G (b.at (a.put o.dst undef) (.inRegion ops rest::k)) cs)):MV P main c v K (G (b.at a (.inRegion ops (i::rest)::k)) cs):=by
 refine⟨rfl, .tuple #[], .send,λw=>by rw[stepG_comm ho hw hk (hr w).1,listed_none (hr w).2],?_⟩
 rw[finishComm_send,CX ho];exact h
end
end
inductive HS where
 |hears (l:List Value)
 |tells
def kH(P:Program)(F:Nat->Prop)(Φ:Gl)(cin cout j:Nat):J9 HS
 | .hears l=>fV P F Φ cin cout j l
 | .tells=>rQ P Φ cout j
section
variable {P:Program} {F:Nat->Prop} {Φ:Gl} {cin cout j:Nat} {fn:FuncId} {o:Oper} {a:Act} {x:OW} {K:Act->HS->OW->Prop}
theorem adX{m:Value}{l:List Value}{z:Value}(hr:∀ w,(execOp a.eval o).run P w= .ok (.comm #[rcase cin z] true (.recv true)) w/\(execOp a.eval o).events P w #[]= #[])
  (h:∀ w1,Rel x.O F x.w w1->K (a.put o.dst (.tuple #[m, .bool true])) (.hears l) ⟨w1,x.O⟩):sQ P false F (kH P F Φ cin cout j) fn o a K (.hears (m::l)) x:=by
 intro ops b k cs i rest hb hk ho hw hc;refine .stop λw1 h1=> ?_;simp only[kH,fV];refine CY ho hw hk hr (λv _ hv=> ?_) λh=>by cases h
 subst hv;exact hc _ _ _ (h w1 h1)
theorem adY{z:Value}(hr:∀ w,(execOp a.eval o).run P w= .ok (.comm #[rcase cin z] true (.recv true)) w/\(execOp a.eval o).events P w #[]= #[])
  (h:∀ w1,Rel x.O F x.w w1->K (a.put o.dst (.tuple #[z, .bool false])) .tells ⟨w1,x.O⟩):sQ P false F (kH P F Φ cin cout j) fn o a K (.hears []) x:=by
 intro ops b k cs i rest hb hk ho hw hc;refine .stop λw1 h1=> ?_;simp only[kH,fV];exact CY ho hw hk hr (λv h=>by cases h) λ_=>hc _ _ _ (h w1 h1)
theorem adZ{v:Value}{B:Nat->Prop}(hr:∀ w,(execOp a.eval o).run P w= .ok (.comm #[scase cout v (.tuple #[])] true .send) w/\(execOp a.eval o).events P w #[]= #[])(hB:∀ b,B b->x.O b)(hout:∀ w1,Rel x.O F x.w w1->Φ.Out j v B w1){ops:Array Oper}{b:Frame}{k:List Item}{cs:List Frame}{i:Nat}{rest:List Nat}
  (hk:b.kind≠ .early) (ho:ops[i]? =some o) (hw:Region.wanted o (yielded ops a.tmps)=true) (hq:adG P (G (b.at (a.put o.dst undef) (.inRegion ops rest::k)) cs)):Co P false F (rQ P Φ cout j) (G (b.at a (.inRegion ops (i::rest)::k)) cs) x:=
 .stop λw1 h1=>⟨v,B,hB,hout w1 h1,Ku ho hw hk hr hq⟩
end
structure MS where
 acts:List fB
 cs:List Nat
 got:List Nat
def dL(P:Program)(F:Nat->Prop)(Φ:Gl)(End:List Nat->Goroutine->OW->Prop):J9 MS:=λs=>aQ P F Φ End s.acts s.cs s.got
section
variable {P:Program} {F:Nat->Prop} {Φ:Gl} {End:List Nat->Goroutine->OW->Prop} {fn:FuncId} {o:Oper} {a:Act} {x:OW} {K:Act->MS->OW->Prop} {l:List fB} {cs got:List Nat}
theorem amY{cap:Nat}(hr:∀ w,(execOp a.eval o).run P w= .ok (.value (.chan (some w.heap.size))) (w.alloc (.chan cap #[] false 0 0 false))/\(execOp a.eval o).events P w #[]= #[])
  (h:∀ w1,Rel x.O F x.w w1->K (a.put o.dst (.chan (some w1.heap.size))) ⟨l,cs++[w1.heap.size],got⟩ ⟨w1.alloc (.chan cap #[] false 0 0 false),x.O⟩):sQ P true F (dL P F Φ End) fn o a K ⟨.mk cap::l,cs,got⟩ x:=by
 intro ops b k cs' i rest hb hk ho hw hc;refine .stop λw1 h1=>⟨rfl,_,?_,hc _ _ _ (h w1 h1)⟩;rw[stepG_value ho hw hk (hr w1).1,listed_none (hr w1).2]
theorem amZ{j:Nat}{d:Deferred}{f:Fn}{c:Array Value}(hr:∀ w,(execOp a.eval o).run P w= .ok (.spawn d) w/\(execOp a.eval o).events P w #[]= #[])(hd:d.target= .fn f c)
  (hch:∀ w1,Rel x.O F x.w w1->∃ cin cout,cs[j+1]? =some cin/\cs[0]? =some cout/\Kv P F Φ cin cout j (Φ.msgs j) (born P d) ⟨w1,λ_=>False⟩) (h:∀ w1,Rel x.O F x.w w1->K (a.put o.dst undef) ⟨l,cs,got⟩ ⟨w1,x.O⟩):
  sQ P true F (dL P F Φ End) fn o a K ⟨.go j::l,cs,got⟩ x:=by
 intro ops b k cs' i rest hb hk ho hw hc;refine .stop λw1 h1=>⟨rfl,_,_,?_,rfl,rfl,hch w1 h1,hc _ _ _ (h w1 h1)⟩;rw[stepG_spawn ho hw hk (hr w1).1 hd,listed_none (hr w1).2]
theorem ajb{j c:Nat}{v:Value}(hc:cs[j+1]? =some c)(hr:∀ w,(execOp a.eval o).run P w= .ok (.comm #[scase c v (.tuple #[])] true .send) w/\(execOp a.eval o).events P w #[]= #[])
  (h:∀ w1,Rel x.O F x.w w1->K (a.put o.dst undef) ⟨l,cs,got⟩ ⟨w1,x.O⟩):sQ P true F (dL P F Φ End) fn o a K ⟨.send j v::l,cs,got⟩ x:=by
 intro ops b k cs' i rest hb hk ho hw hK;exact .stop λw1 h1=>⟨c,hc,Ku ho hw hk hr (hK _ _ _ (h w1 h1))⟩
theorem aaW{j c:Nat}{y:Operand}{ats:Array TypeId}(hc:cs[j+1]? =some c)(ho:o.op= .call {callee:= .builtin .close,args:= #[y],argTypes:=ats})(hy:a.eval y= .chan (some c))(hq:(P.funcs[fn]?).any (·.norace)=false)
  (h:∀ w1,Rel x.O F x.w w1->K (a.put o.dst (.tuple #[])) ⟨l,cs,got⟩ ⟨w1,x.O⟩):sQ P true F (dL P F Φ End) fn o a K ⟨.close j::l,cs,got⟩ x:=by
 intro ops b k cs' i rest hb hk ho' hw hK;refine .stop λw1 h1=>⟨c,hc,rfl,?_,_,rfl,λw cap buf s r tm hch=>stepG_close ho' hw hk ho hy hch (by rw[hb];exact hq),hK _ _ _ (h w1 h1)⟩
 simp[mayWake,G,Frame.at,ho',ho]
theorem ad1{c:Nat}{z:Value}(hc:cs[0]? =some c)(hr:∀ w,(execOp a.eval o).run P w= .ok (.comm #[rcase c z] true (.recv false)) w/\(execOp a.eval o).events P w #[]= #[])
  (h:∀ w1,Rel x.O F x.w w1->∀ v j B w',j<Φ.n->j∉got->Φ.Out j v B w'->Rel x.O F w1 w'->(∀ b,B b->b<w'.heap.size/\¬ x.O b/\¬ F b)->K (a.put o.dst v) ⟨l,cs,got++[j]⟩ ⟨w',λb=>x.O b\/B b⟩):
  sQ P true F (dL P F Φ End) fn o a K ⟨.recv::l,cs,got⟩ x:=by
 intro ops b k cs' i rest hb hk ho hw hK;refine .stop λw1 h1=>⟨c,hc,CY ho hw hk hr (λv _ j B w' e1 e2 e3 e4 e5=>hK _ _ _ (h w1 h1 v j B w' e1 e2 e3 e4 e5)) λh=>by cases h⟩
end
section
variable {P:Program} {F:Nat->Prop} {f:FuncId} {func:Func} {c:Code} {args:Array Value}
def base0(f:FuncId):Frame:= {base f with kind:= .deferred}
theorem QH{S:Goroutine->OW->Prop}{x:OW}(hf:P.funcs[f]? =some func)(hb:func.body=some c)(hn:(func.name== "runtime.NumGoroutine")=false){d:Deferred}(hd:d.target= .fn (.func f) #[])(ha:d.args=args)
  (h:Co P false F S (G ((base0 f).at {tmps:=args++z0d (func.ntmps - args.size) undef,defers:=[]} [.code c]) [{(born P d).frame with defers:=[]}]) x):Co P false F S (born P d) x:=by
 refine .idle rfl (g':=G ((base0 f).at {tmps:=args++z0d (func.ntmps - args.size) undef,defers:=[]} [.code c]) [{(born P d).frame with defers:=[]}]) (λw=> ?_) h;obtain⟨tg,ag⟩:=d;simp only at hd ha;subst hd ha;have h1:¬ func.name= "runtime.NumGoroutine" :=by simpa using hn
 simp[G,born,Go.stepG,unwind,callDeferred,Frame.at,base0,base,invoke,callFunc,hf,hb,h1,GStep.after,seen_none,Frame.enter]
theorem Vy(hf:P.funcs[f]? =some func)(hres:func.results= #[]){d:Deferred}{a:Act}(hd:a.defers=[]){ops:Array Oper}:QuitsIn P 4 (G ((base0 f).at a [.inRegion ops []]) [{(born P d).frame with defers:=[]}]):=by
 have hr:∀ w,(results func a.tmps).run P w= .ok (.tuple #[]) w:=λw=>results_none hres _ P w;have he:∀ w,(results func a.tmps).events P w #[]= #[]:=λw=>events_results_none hres _ _;refine .ctl rfl (λw=>stepG_region_end) (.ctl rfl (λw=>stepG_end) (.ctl (g':= {(born P d) with frame:= {(born P d).frame with defers:=[]}}) rfl (λw=> ?_) (.ctl (g':= {(born P d) with frame:= {(born P d).frame with defers:=[]},status:= .finished}) rfl (λw=> ?_) rfl)))
 ·simp[G,Go.stepG,unwind,doReturn,Frame.at,base0,base,hd,hf,hr,he,seen,GStep.after,born,goexitEntry]
 ·have e0:(default:Frame).todo=[]:=rfl;simp[Go.stepG,unwind,born,goexitEntry,Frame.catches,e0]
end
end Go.Sx
namespace Go.Sx
open Go Go.Conc
def wB(k:Nat):List (Int×Nat)->List MapEntry
 |[]=>[]
 |p::r=> {key:= .int .i64 p.1,val:= .pointer (some ⟨p.2,0,none⟩),born:=k}::wB (k+1) r
theorem KY:∀ (A:List (Int×Nat)) (k:Nat) (p:Int×Nat),wB k (A++[p])=wB k A++[{key:= .int .i64 p.1,val:= .pointer (some ⟨p.2,0,none⟩),born:=k+A.length}]
 |[],k,p=>rfl
 |q::A,k,p=>by simp only[List.cons_append,wB,KY A,z0l];rw[Nat.add_assoc,Nat.add_comm 1]
def kS(A:List (Int×Nat)):Obj:= .map (wB 0 A).toArray A.length
def lookA(A:List (Int×Nat))(v:Int):Option Nat:=(A.find? λp=>decide (p.1=v)).map (·.2)
theorem xJ(v:Int):∀ (A:List (Int×Nat)) (k i:Nat),∃ j,Instr.findNow (.int .i64) (.int .i64 v) (wB k A) i=some ((lookA A v).map λb=>(j, .pointer (some ⟨b,0,none⟩)))
 |[],k,i=>⟨0,rfl⟩
 |p::A,k,i=>by
  by_cases h:p.1=v
  ·refine⟨i,?_⟩;simp[wB,Instr.findNow,Instr.sameNow,h,lookA]
  ·obtain⟨j,hj⟩:=xJ v A (k+1) (i+1);refine⟨j,?_⟩;have h':(v==p.1)=false:=by simpa using λe=>h e.symm
   simp only[lookA] at hj;simp[wB,Instr.findNow,Instr.sameNow,h,h',lookA,hj]
section
variable {P:Program} {T kt et pt:TypeId} {w:World} {r:Nat} {A:List (Int×Nat)}
theorem Oc(hk:P.underlying kt=some (.int .i64))(v:Int)(em:Bool)(d:Nat):(Instr.checkKey em (d+1) kt (.int .i64 v)).run P w= .ok () w/\∀ es,(Instr.checkKey em (d+1) kt (.int .i64 v)).events P w es=es:=by
 constructor
 ·simp[Instr.checkKey,run_underlying hk]
 ·intro es;simp[Instr.checkKey,run_underlying hk]
theorem IZ(hr:w.heap[r]? =some (kS A)):(getObj r).run P w= .ok (kS A) w/\∀ es,(getObj r).events P w es=es.push ⟨.obj r,false,false⟩:=by
 have hr':w.heap[r]? =some (.map (wB 0 A).toArray A.length):=hr;constructor
 ·simp[getObj,Sem.run,hr',kS]
 ·intro es;unfold Sem.events getObj;rw[Sem.runT,hr'];rfl
theorem WW(hr:w.heap[r]? =some (kS A))(es:Array MapEntry)(c:Nat):(setObj r (.map es c)).run P w= .ok () {w with heap:=w.heap.setIfInBounds r (.map es c)}/\∀ evs,(setObj r (.map es c)).events P w evs=evs.push ⟨.obj r,true,false⟩:=by
 have hr':w.heap[r]? =some (.map (wB 0 A).toArray A.length):=hr;constructor
 ·simp[setObj,Sem.run,hr']
 ·intro evs;unfold Sem.events setObj;rw[Sem.runT,hr'];rfl
theorem abj(hT:P.underlying T=some (.map kt et))(hk:P.underlying kt=some (.int .i64))(hz:(zeroValue et).run P w= .ok (.pointer none) w)(hze:∀ es,(zeroValue et).events P w es=es)(hr:w.heap[r]? =some (kS A))(v:Int):
  (Instr.lookup T (.map (some r)) (.int .i64 v) false).run P w= .ok (.pointer ((lookA A v).map λb=>⟨b,0,none⟩)) w/\(Instr.lookup T (.map (some r)) (.int .i64 v) false).events P w #[]= #[⟨.obj r,false,false⟩]:=by
 obtain⟨j,hj⟩:=xJ v A 0 0;obtain⟨g1,g2⟩:=IZ (P:=P) hr;have c1:=λem=>(Oc (P:=P) (w:=w) hk v em 9999).1;have c2:=λem=>(Oc (P:=P) (w:=w) hk v em 9999).2;simp only[Nat.reduceAdd] at c1 c2;generalize hd:(10000:Nat)=d10 at c1 c2;unfold Instr.lookup;rw[hd];have e0:kS A= .map (wB 0 A).toArray A.length:=rfl;rw[e0] at g1;cases hl:lookA A v with
 |none=>
  rw[hl] at hj;simp only[z1l] at hj;constructor
  ·simp[run_underlying hT,g1,c1,run_underlying hk,Instr.findKey,hj,hz]
  ·simp[run_underlying hT,g1,g2,c1,c2,run_underlying hk,Instr.findKey,hj]
 |some b=>
  rw[hl] at hj;simp only[z1k] at hj;constructor
  ·simp[run_underlying hT,g1,c1,run_underlying hk,Instr.findKey,hj]
  ·simp[run_underlying hT,g1,g2,c1,c2,run_underlying hk,Instr.findKey,hj]
theorem aff(hT:P.underlying T=some (.map kt et))(hk:P.underlying kt=some (.int .i64))(hr:w.heap[r]? =some (kS A)){v:Int}{b:Nat}(hn:lookA A v=none):
  (Instr.mapUpdate T (.map (some r)) (.int .i64 v) (.pointer (some ⟨b,0,none⟩))).run P w= .ok () {w with heap:=w.heap.setIfInBounds r (kS (A++[(v,b)]))}/\
   (Instr.mapUpdate T (.map (some r)) (.int .i64 v) (.pointer (some ⟨b,0,none⟩))).events P w #[]= #[⟨.obj r,false,false⟩,⟨.obj r,true,false⟩]:=by
 obtain⟨j,hj⟩:=xJ v A 0 0;obtain⟨g1,g2⟩:=IZ (P:=P) hr;have c1:=λem=>(Oc (P:=P) (w:=w) hk v em 9999).1;have c2:=λem=>(Oc (P:=P) (w:=w) hk v em 9999).2;simp only[Nat.reduceAdd] at c1 c2;generalize hd:(10000:Nat)=d10 at c1 c2;unfold Instr.mapUpdate;rw[hd];have e0:kS A= .map (wB 0 A).toArray A.length:=rfl;have e1:kS (A++[(v,b)])= .map ((wB 0 A).toArray.push {key:= .int .i64 v,val:= .pointer (some ⟨b,0,none⟩),born:=A.length}) (A.length+1):=by simp[kS,KY]
 obtain⟨s1,s2⟩:=WW (P:=P) hr ((wB 0 A).toArray.push {key:= .int .i64 v,val:= .pointer (some ⟨b,0,none⟩),born:=A.length}) (A.length+1);rw[e1];rw[e0] at g1;rw[hn] at hj;simp only[z1l] at hj;have hl:(wB 0 A).toArray.toList=wB 0 A:=rfl;clear e0 e1 hr;generalize (wB 0 A).toArray=G at g1 s1 s2 hl ⊢;constructor
 ·simp[run_underlying hT,g1,c1,run_underlying hk,Instr.findKey,hj,s1,hl]
 ·simp[run_underlying hT,g1,g2,c1,c2,run_underlying hk,Instr.findKey,hj,s2,hl]
end
section
variable {P:Program} {main:Bool} {F:Nat->Prop} {fn:FuncId} {n:Nat} {d:List Deferred} {H0 X:Nat->Option Obj} {J:Env} {τ:Fr} {m:List ay} {a:Act} {x:OW} {o:Oper} {T kt et:TypeId}
theorem TS.mkMap(h:TS F n d H0 X J τ m a x)(ho:o.op= .makeMap T none):CB P main F fn o a (λa' x'=> ∃ r,a'=a.put o.dst (.map (some r))/\TS F n d H0 (λb=>if b=r then some (kS []) else X b) J τ m a x'/\X r=none) x:=by
 refine Bv λw1 hr=>⟨.map (some w1.heap.size),w1.alloc (kS []), .inl ?_,?_,w1.heap.size,rfl,(h.rely hr).alloc _,?_⟩
 ·unfold execOp;simp only[ho];simp[Instr.makeMap,kS,wB]
 ·have e:(execOp a.eval o).events P w1 #[]= #[]:=by unfold execOp;simp only[ho];simp[Instr.makeMap]
  rw[e];exact⟨rfl,rfl,rfl,by simp,λb hb _=>Go.RowKit.Below.heap_alloc w1 _ b hb,λe h=>by simp at h⟩
 ·cases hx:X w1.heap.size with
  |none=>rfl
  |some o'=>
   have:=((h.rely hr).x _ _ hx).1;have:=(z01.1 this).1;exact absurd this (Nat.lt_irrefl _)
theorem TS.aji(h:TS F n d H0 X J τ m a x){mo ko:Operand}(ho:o.op= .lookup T mo ko false)(hT:P.underlying T=some (.map kt et))(hk:P.underlying kt=some (.int .i64))(hz:∀ w,(zeroValue et).run P w= .ok (.pointer none) w){r:Nat}{v:Int}{A:List (Int×Nat)}
  (hm:a.eval mo= .map (some r)) (hv:a.eval ko= .int .i64 v) (hX:X r=some (kS A)):CB P main F fn o a (λa' x'=>a'=a.put o.dst (.pointer ((lookA A v).map λb=>⟨b,0,none⟩))/\TS F n d H0 X J τ m a x') x:=by
 refine Bv λw1 hr=>⟨.pointer ((lookA A v).map λb=>⟨b,0,none⟩),w1, .inl ?_,?_,rfl,by rw[OW.oz];exact h.rely hr⟩
 all_goals obtain⟨g1,g2⟩:=abj (P:=P) hT hk (hz w1) (λes=>events_zeroValue P w1 es et) ((h.rely hr).x _ _ hX).1 v
 ·unfold execOp;simp only[ho];simp[hm,hv,g1]
 ·have e:(execOp a.eval o).events P w1 #[]= #[⟨.obj r,false,false⟩]:=by unfold execOp;simp only[ho];simp[hm,hv,g2]
  rw[e];refine⟨rfl,rfl,rfl,z0c _,λ_ _ _=>rfl,λe he=> ?_⟩;simp at he;subst he;exact .inl ⟨rfl,(z01.1 ((h.rely hr).x _ _ hX).1).1, .inl ((h.rely hr).x _ _ hX).2.1⟩
theorem TS.am7(h:TS F n d H0 X J τ m a x){mo ko vo:Operand}(ho:o.op= .mapUpdate T mo ko vo)(hT:P.underlying T=some (.map kt et))(hk:P.underlying kt=some (.int .i64)){r b:Nat}{v:Int}{A:List (Int×Nat)}
  (hm:a.eval mo= .map (some r)) (hv:a.eval ko= .int .i64 v) (hb:a.eval vo= .pointer (some ⟨b,0,none⟩)) (hX:X r=some (kS A)) (hn:lookA A v=none):
  CB P main F fn o a (λa' x'=>a'=a.put o.dst undef/\TS F n d H0 (λc=>if c=r then some (kS (A++[(v,b)])) else X c) J τ m a x') x:=by
 refine Bv λw1 hr=>⟨undef,{w1 with heap:=w1.heap.setIfInBounds r (kS (A++[(v,b)]))}, .inr ⟨rfl,?_⟩,?_,rfl,?_⟩
 all_goals obtain⟨g1,g2⟩:=aff (P:=P) hT hk ((h.rely hr).x _ _ hX).1 (b:=b) hn
 ·unfold execOp;simp only[ho];simp[hm,hv,hb,g1]
 ·have e:(execOp a.eval o).events P w1 #[]= #[⟨.obj r,false,false⟩,⟨.obj r,true,false⟩]:=by unfold execOp;simp only[ho];simp[hm,hv,hb,g2]
  rw[e];have hO:=((h.rely hr).x _ _ hX).2.1;have hlt:=(z01.1 ((h.rely hr).x _ _ hX).1).1;refine⟨rfl,rfl,rfl,by simp,λc _ hc=>z08 λe=>by subst e;exact hc hO,λe he=> ?_⟩
  simp at he;rcases he with rfl|rfl<;>exact .inl ⟨rfl,by simpa using hlt, .inl hO⟩
 ·have:=(h.rely hr).turn (o':=kS (A++[(v,b)])) hX;have e:OW.next x.O w1 {w1 with heap:=w1.heap.setIfInBounds r (kS (A++[(v,b)]))}=⟨{w1 with heap:=w1.heap.setIfInBounds r (kS (A++[(v,b)]))},x.O⟩:=by
   unfold OW.next
   congr 1
   funext c
   exact propext ⟨λh=>h.elim id λh=>by simp at h;omega, .inl⟩
  rw[e];exact this
end
end Go.Sx
namespace Go.Sx
open Go Go.Conc
inductive StO:Type 1 where
 |recv (T:TypeId) (ch:aV) (ok:Bool)
 |send (ch y:aV)
 |go (f:FuncId) (ys:List aV)
 |mk (T:TypeId) (l:aV)
 |close (ch:aV)
 |Yo (T:TypeId)
 |Yp (T:TypeId) (m k:aV)
 |ajk (T:TypeId) (m k v:aV)
 |Yu (f:FuncId) (ys:List aV)
def dV(tf:FuncId->Bool):Op->Option StO
 | .recv T ch ok=>(aP ch).map (.recv T · ok)
 | .send ch y=>match aP ch,aP y with
  |some a,some b=>some (.send a b)
  |_,_=>none
 | .go c=>match c.callee with
  | .value (.func f)=>(c.args.toList.mapM aP).map (.go f)
  |_=>none
 | .makeChan T s=>(aP s).map (.mk T)
 | .call c=>match c.callee with
  | .builtin .close=>match c.args.toList with
   |[x]=>(aP x).map .close
   |_=>none
  | .value (.func f)=>if tf f then(c.args.toList.mapM aP).map (.Yu f) else none
  |_=>none
 | .makeMap T none=>some (.Yo T)
 | .lookup T m k false=>match aP m,aP k with
  |some a,some b=>some (.Yp T a b)
  |_,_=>none
 | .mapUpdate T m k v=>match aP m,aP k,aP v with
  |some a,some b,some c=>some (.ajk T a b c)
  |_,_,_=>none
 |_=>none
def RX(tf:FuncId->Bool):Code->Bool
 | .region _ ops _=>ops.toList.any λo=>(dV tf o.op).isSome
 | .seq a b| .cond _ a b=>RX tf a||RX tf b
 | .block _ c| .loop c=>RX tf c
 |_=>false
def ajS(tf:FuncId->Bool):List Oper->Option (List Oper×Oper×List Oper)
 |[]=>none
 |o::r=>if (dV tf o.op).isSome then some ([],o,r) else(ajS tf r).map λp=>(o::p.1,p.2.1,p.2.2)
theorem YH{tf:FuncId->Bool}:∀ {l l1 l2:List Oper} {o:Oper},ajS tf l=some (l1,o,l2)->l=l1++o::l2
 |[],_,_,_,h=>by cases h
 |x::r,l1,l2,o,h=>by
  simp only[ajS] at h;split at h
  ·cases h;rfl
  ·obtain⟨⟨p1,p2,p3⟩,h1,h2⟩:=z00.1 h;cases h2;rw[YH h1];rfl
inductive Q8:Type 1 where
 |plain (c:IC)
 |seq (a b:Q8)
 |cond (x:aV) (a b:Q8)
 |block (id:Nat) (c:Q8)
 |loop (c:Q8)
 |reg (pre:List dP) (dst:Option Nat) (s:StO) (post:List dP)
 |Q7 (pre:List dP) (s:StO)
def ajT(P:Program)(tf:FuncId->Bool)(ops:Array Oper):Option Q8:=match ajS tf ops.toList with
 |some (l1,o,l2)=>match l1.mapM (iV P ops),dV tf o.op,l2.mapM (iV P ops),o.guard with
  |some a,some s,some b,none=>some (.reg a o.dst s b)
  |_,_,_,_=>none
 |none=>none
def dummy(o:Oper):Oper:= {o with op:= .move (.const (.bool true)),dst:=none,guard:=none}
def eu(ops:Array Oper):Array Oper:=match ops.back? with
 |some o=>ops.pop.push (dummy o)
 |none=>ops
def Fv(ops:List Oper):Bool:=match (Oh ops [])[ops.length - 1]? with
 |some k=>(List.range (ops.length - 1)).all λj=>k.testBit j
 |none=>false
def YI(P:Program)(quiet:FuncId->Bool)(tf:FuncId->Bool)(ops:Array Oper):Option Q8:=match ops.back? with
 |some o=>match (eu ops).toList.mapM (pK P quiet (eu ops)),dV tf o.op,o.guard,o.dst with
  |some aT,some s,none,none=>if chk (eu ops).toList aT&&Fv (eu ops).toList&&P.follows .mixedOrders then some (.Q7 (aug (eu ops).toList aT) s) else none
  |_,_,_,_=>none
 |none=>none
def gq(P:Program)(quiet:FuncId->Bool)(tf:FuncId->Bool):Code->Option Q8
 | .seq a b=>if RX tf (.seq a b) then(match gq P quiet tf a,gq P quiet tf b with
   |some x,some y=>some (.seq x y)
   |_,_=>none) else(comp P quiet (.seq a b)).map .plain
 | .cond c a b=>if RX tf (.cond c a b) then(match aP c,gq P quiet tf a,gq P quiet tf b with
   |some z,some x,some y=>some (.cond z x y)
   |_,_,_=>none) else(comp P quiet (.cond c a b)).map .plain
 | .block id a=>if RX tf (.block id a) then(gq P quiet tf a).map (.block id) else(comp P quiet (.block id a)).map .plain
 | .loop a=>if RX tf (.loop a) then(gq P quiet tf a).map .loop else(comp P quiet (.loop a)).map .plain
 | .region id ops draw=>if RX tf (.region id ops draw) then(if draw then YI P (uI quiet) tf ops else ajT P tf ops) else(comp P quiet (.region id ops draw)).map .plain
 |c=>(comp P quiet c).map .plain
section inv
variable {P:Program} {quiet:FuncId->Bool} {tf:FuncId->Bool} {c:Code}
theorem rY{ops:Array Oper}{x:Q8}(h:ajT P tf ops=some x):∃ a d s b,x= .reg a d s b:=by
 unfold ajT at h;split at h<;>try (cases h;done)
 split at h<;>try (cases h;done)
 cases h;exact⟨_,_,_,_,rfl⟩
theorem mF{ops:Array Oper}{x:Q8}{q:FuncId->Bool}(h:YI P q tf ops=some x):∃ a s,x= .Q7 a s:=by
 unfold YI at h;split at h<;>try (cases h;done)
 split at h<;>try (cases h;done)
 split at h<;>try (cases h;done)
 cases h;exact⟨_,_,rfl⟩
theorem Q9{ic:IC}(h:gq P quiet tf c=some (.plain ic)):comp P quiet c=some ic:=by
 cases c<;>simp only[gq] at h
 all_goals first
  |(obtain⟨x,h1,h2⟩:=z00.1 h;cases h2;exact h1)
  |(split at h
    ·first
     |(split at h<;>first|cases h|(obtain⟨a,s,e⟩:=mF h;cases e)|(obtain⟨a,d,s,b,e⟩:=rY h;cases e))
     |(obtain⟨x,h1,h2⟩:=z00.1 h;cases h2)
    ·obtain⟨x,h1,h2⟩:=z00.1 h;cases h2;exact h1)
theorem yI{a b:Q8}(h:gq P quiet tf c=some (.seq a b)):∃ x y,c= .seq x y/\gq P quiet tf x=some a/\gq P quiet tf y=some b:=by
 cases c<;>simp only[gq] at h
 case seq x y=>
  split at h
  ·split at h<;>cases h;exact⟨_,_,rfl,by assumption,by assumption⟩
  ·obtain⟨x,h1,h2⟩:=z00.1 h;cases h2
 all_goals first
  |(obtain⟨x,h1,h2⟩:=z00.1 h;cases h2;done)
  |(split at h
    ·first
     |(split at h<;>first|cases h|(obtain⟨a,s,e⟩:=mF h;cases e)|(obtain⟨a,d,s,b,e⟩:=rY h;cases e))
     |(obtain⟨x,h1,h2⟩:=z00.1 h;cases h2)
    ·obtain⟨x,h1,h2⟩:=z00.1 h;cases h2)
theorem Wn{z:aV}{a b:Q8}(h:gq P quiet tf c=some (.cond z a b)):∃ w x y,c= .cond w x y/\aP w=some z/\gq P quiet tf x=some a/\gq P quiet tf y=some b:=by
 cases c<;>simp only[gq] at h
 case cond w x y=>
  split at h
  ·split at h<;>cases h;exact⟨_,_,_,rfl,by assumption,by assumption,by assumption⟩
  ·obtain⟨x,h1,h2⟩:=z00.1 h;cases h2
 all_goals first
  |(obtain⟨x,h1,h2⟩:=z00.1 h;cases h2;done)
  |(split at h
    ·first
     |(split at h<;>first|cases h|(obtain⟨a,s,e⟩:=mF h;cases e)|(obtain⟨a,d,s,b,e⟩:=rY h;cases e))
     |(obtain⟨x,h1,h2⟩:=z00.1 h;cases h2)
    ·obtain⟨x,h1,h2⟩:=z00.1 h;cases h2)
theorem Rf{id:Nat}{a:Q8}(h:gq P quiet tf c=some (.block id a)):∃ x,c= .block id x/\gq P quiet tf x=some a:=by
 cases c<;>simp only[gq] at h
 case block i x=>
  split at h
  ·obtain⟨x,h1,h2⟩:=z00.1 h;cases h2;exact⟨_,rfl,h1⟩
  ·obtain⟨x,h1,h2⟩:=z00.1 h;cases h2
 all_goals first
  |(obtain⟨x,h1,h2⟩:=z00.1 h;cases h2;done)
  |(split at h
    ·first
     |(split at h<;>first|cases h|(obtain⟨a,s,e⟩:=mF h;cases e)|(obtain⟨a,d,s,b,e⟩:=rY h;cases e))
     |(obtain⟨x,h1,h2⟩:=z00.1 h;cases h2)
    ·obtain⟨x,h1,h2⟩:=z00.1 h;cases h2)
theorem Wp{a:Q8}(h:gq P quiet tf c=some (.loop a)):∃ x,c= .loop x/\gq P quiet tf x=some a:=by
 cases c<;>simp only[gq] at h
 case loop x=>
  split at h
  ·obtain⟨x,h1,h2⟩:=z00.1 h;cases h2;exact⟨_,rfl,h1⟩
  ·obtain⟨x,h1,h2⟩:=z00.1 h;cases h2
 all_goals first
  |(obtain⟨x,h1,h2⟩:=z00.1 h;cases h2;done)
  |(split at h
    ·first
     |(split at h<;>first|cases h|(obtain⟨a,s,e⟩:=mF h;cases e)|(obtain⟨a,d,s,b,e⟩:=rY h;cases e))
     |(obtain⟨x,h1,h2⟩:=z00.1 h;cases h2)
    ·obtain⟨x,h1,h2⟩:=z00.1 h;cases h2)
theorem KL{pre post:List dP}{dst:Option Nat}{s:StO}(h:gq P quiet tf c=some (.reg pre dst s post)):∃ id ops l1 o l2,c= .region id ops false/\ops.toList=l1++o::l2/\l1.mapM (iV P ops)=some pre/\dV tf o.op=some s/\l2.mapM (iV P ops)=some post/\o.dst=dst/\o.guard=none:=by
 cases c<;>simp only[gq] at h
 case region id ops draw=>
  split at h
  ·split at h
   ·obtain⟨a,s,e⟩:=mF h;cases e
   ·rename_i hd;have hd:draw=false:=by simpa using hd
    subst hd;unfold ajT at h;split at h<;>try (cases h;done)
    rename_i l1 o l2 hs;split at h<;>try (cases h;done)
    rename_i e1 e2 e3 e4;cases h;exact⟨id,ops,l1,o,l2,rfl,YH hs,e1,e2,e3,rfl,e4⟩
  ·obtain⟨x,h1,h2⟩:=z00.1 h;cases h2
 all_goals first
  |(obtain⟨x,h1,h2⟩:=z00.1 h;cases h2;done)
  |(split at h
    ·first
     |(split at h<;>first|cases h|(obtain⟨a,s,e⟩:=mF h;cases e)|(obtain⟨a,d,s,b,e⟩:=rY h;cases e))
     |(obtain⟨x,h1,h2⟩:=z00.1 h;cases h2)
    ·obtain⟨x,h1,h2⟩:=z00.1 h;cases h2)
end inv
end Go.Sx
namespace Go.Sx
open Go Go.Conc
inductive TC:Type 1 where
 |jc (c:JC)
 |seq (a b:TC)
 |cond (x:aV) (a b:TC)
 |block (id:Nat) (c:TC)
 |loop (c:TC)
 |reg (pre:SL) (dst:Option Nat) (s:StO) (post:SL)
 |Q7 (pre:SL) (s:StO)
def TC.flat:TC->Q8
 | .jc c=> .plain c.flat
 | .seq a b=> .seq a.flat b.flat
 | .cond x a b=> .cond x a.flat b.flat
 | .block id c=> .block id c.flat
 | .loop c=> .loop c.flat
 | .reg pre dst s post=> .reg (pre.flat none) dst s (post.flat none)
 | .Q7 pre s=> .Q7 (pre.flat none) s
def tIs(P:Program)(quiet tf:FuncId->Bool)(f:FuncId):Option (Q8×List ResultVar×Nat×Bool):=match P.funcs[f]? with
 |some fn=>match fn.body with
  |some c=>match gq P quiet tf c with
   |some ic=>if fn.name != "runtime.NumGoroutine" then some (ic,fn.results.toList,fn.ntmps,fn.norace) else none
   |none=>none
  |none=>none
 |none=>none
theorem NW{P:Program}{quiet tf:FuncId->Bool}{f:FuncId}{ic:Q8}{rs:List ResultVar}{nt:Nat}{nr:Bool}(h:tIs P quiet tf f=some (ic,rs,nt,nr)):
  ∃ fn c,P.funcs[f]? =some fn/\fn.body=some c/\gq P quiet tf c=some ic/\fn.results.toList=rs/\fn.ntmps=nt/\(fn.name== "runtime.NumGoroutine")=false/\(P.funcs[f]?).any (·.norace)=nr/\qp P f=true:=by
 unfold tIs at h;split at h<;>try (cases h;done)
 rename_i fn hf;split at h<;>try (cases h;done)
 rename_i c hc;split at h<;>try (cases h;done)
 rename_i ic' hic;split at h<;>try (cases h;done)
 rename_i hn;simp only[z0b,z1b] at h;obtain⟨rfl,rfl,rfl,rfl⟩:=h;refine⟨fn,c,hf,hc,hic,rfl,rfl,by simpa using hn,by rw[hf];rfl,?_⟩
 unfold qp;rw[hf];simp only[z0g];exact⟨hn,by rw[hc];rfl⟩
section
variable {P:Program} {main:Bool} {F:Nat->Prop} {ι:Type _} {S:J9 ι} {quiet tf:FuncId->Bool} {fn:FuncId} {n:Nat} {d:List Deferred} {H0 X:Nat->Option Obj} {J:Env} {τ:Fr} {m:List ay} {a:Act} {x:OW} {s:ι} {Q Q':Exit->Act->ι->OW->Prop}
def TW(P:Program)(main:Bool)(F:Nat->Prop)(S:J9 ι)(quiet tf:FuncId->Bool)(fn:FuncId)(tc:TC)(Q:Exit->Act->ι->OW->Prop)(a:Act)(s:ι)(x:OW):Prop:= ∀ c,gq P quiet tf c=some tc.flat->kW P main F S fn c Q a s x
theorem TW.mono{tc:TC}(h:TW P main F S quiet tf fn tc Q a s x)(hq:∀ e a s x,Q e a s x->Q' e a s x):TW P main F S quiet tf fn tc Q' a s x:=λc hc=>(h c hc).mono hq
theorem Yq(h:TS F n d H0 X J τ m a x){Γ:FH}(hΓ:bQ P main F Γ){jc:JC}(hw:jc.wf n=true){K:Ex->Fr->List ay->Prop}(hq:jc.wp Γ m.length K τ m)
  (hR:∀ e ex τ' m' J' a' x',rU e ex->K ex τ' m'->TS F n d H0 X J' τ' m' a' x'->(∀ i,i<m.length->J'.blk i=J.blk i)->Q e a' s x'):TW P main F S quiet tf fn (.jc jc) Q a s x:=
 λc hc=>h.jct hΓ (Q9 hc) hw hq hR
theorem aX{p q:TC}(h:TW P main F S quiet tf fn p (λe a' s' x'=>match e with
  | .normal=>TW P main F S quiet tf fn q Q a' s' x'
  |e=>Q e a' s' x') a s x):TW P main F S quiet tf fn (.seq p q) Q a s x:=λc hc=>by
 obtain⟨y,z,rfl,h1,h2⟩:=yI hc;refine anz ((h y h1).mono λe a' s' x' hh=> ?_);cases e<;>first|exact hh z h2|exact hh
theorem TS.opd(h:TS F n d H0 X J τ m a x){y:Operand}{y':aV}(hy:aP y=some y'):bK J (y'.fv τ) (a.eval y):=by
 obtain⟨σ,h1,h2⟩:=h.s;have:=aB hy h2;rcases h1.fv y' with e|e
 ·rw[e];trivial
 ·rw[e];exact this
theorem TS.anA(h:TS F n d H0 X J τ m a x):∀ {ys:List Operand} {ys':List aV},ys.mapM aP=some ys'->((ys'.map (aV.fv τ)).all SV.isVal=true)->bT (ys'.map (aV.fv τ)) J (ys.map a.eval)
 |[],ys',hy,_=>by simp at hy;subst hy;rfl
 |y::ys,ys',hy,hv=>by
  simp only[z19,bind,z0y] at hy;obtain⟨y',h1,hy⟩:=bind_some hy;obtain⟨r,h2,hy⟩:=bind_some hy;simp only[z0b] at hy;subst hy;simp only[z04,List.all_cons,z0g] at hv;have h3:=h.opd h1;have h4:=h.anA h2 hv.2;simp only[z04];generalize y'.fv τ=sv at h3 hv;cases sv<;>first
   |(simp[SV.isVal] at hv;done)
   |(obtain⟨cs,e1,e2⟩:=h3;exact⟨cs,_,by rw[e2],e1,h4⟩)
theorem Fg{y:aV}{p q:TC}{t:Bool}(h:TS F n d H0 X J τ m a x)(hy:y.fv τ= .bool t)(hh:TW P main F S quiet tf fn (if t then p else q) Q a s x):TW P main F S quiet tf fn (.cond y p q) Q a s x:=λc hc=>by
 obtain⟨w,u,v,rfl,h0,h1,h2⟩:=Wn hc;have:=h.opd h0;rw[hy] at this;refine ajx (kG this) ?_;cases t
 ·exact hh _ h2
 ·exact hh _ h1
theorem jL{id:Nat}{p:TC}(h:TW P main F S quiet tf fn p (λe a' s' x'=>match e with
  | .exit i=>if i=id then Q .normal a' s' x' else Q (.exit i) a' s' x'
  |e=>Q e a' s' x') a s x):TW P main F S quiet tf fn (.block id p) Q a s x:=λc hc=>by
 obtain⟨y,rfl,h1⟩:=Rf hc;exact aex (h y h1)
theorem A8{p:TC}(I:Nat->Act->ι->OW->Prop)(k:Nat)(h0:I k a s x)
  (round:∀ k a s x,I k a s x->TW P main F S quiet tf fn p (λe a' s' x'=>match e with
   | .normal=> ∃ k',k'<k/\I k' a' s' x'
   |e=>Q e a' s' x') a s x):TW P main F S quiet tf fn (.loop p) Q a s x:=λc hc=>by
 obtain⟨y,rfl,h1⟩:=Wp hc;exact ajy I k h0 λk a s x hI=>round k a s x hI y h1
def Behind(P:Program)(main:Bool)(F:Nat->Prop)(S:J9 ι)(fn:FuncId)(post:SL)(Q:Exit->Act->ι->OW->Prop)(a:Act)(s:ι)(x:OW):Prop:= ∀ (ops:Array Oper) (l:List Oper),l.mapM (iV P ops)=some (post.flat none)->pY P main F S fn ops Q l a s x
theorem Behind.of(h:TS F n d H0 X J τ m a x){Γ:FH}(hΓ:bQ P main F Γ){post:SL}(hw:post.wf n=true){K:Fr->List ay->Prop}(hk:post.wp Γ false K τ m)
  (hQ:∀ τ' m' J' a' x',K τ' m'->TS F n d H0 X J' τ' m' a' x'->(∀ i,i<m.length->J'.blk i=J.blk i)->Q .normal a' s x'):Behind P main F S fn post Q a s x:=λops l hl=>by
 have:=h.pre hΓ (ops:=ops) (l2:=[]) (S:=S) (s:=s) (fn:=fn) (Q:=Q) hl hw hk λτ' m' J' a' x' k1 k2 k3=>Wq (hQ τ' m' J' a' x' k1 k2 k3)
 rwa [z14] at this
theorem am8(h:TS F n d H0 X J τ m a x){Γ:FH}(hΓ:bQ P main F Γ){pre post:SL}{dst:Option Nat}{so:StO}(hw:pre.wf n=true){K:Fr->List ay->Prop}(hk:pre.wp Γ false K τ m)
  (hop:∀ τ' m' J' a' x',K τ' m'->TS F n d H0 X J' τ' m' a' x'->(∀ i,i<m.length->J'.blk i=J.blk i)->∀ o:Oper,dV tf o.op=some so->o.dst=dst->sQ P main F S fn o a' (Behind P main F S fn post Q) s x'):
  TW P main F S quiet tf fn (.reg pre dst so post) Q a s x:=λc hc=>by
 obtain⟨id,ops,l1,o,l2,rfl,h1,h2,h3,h4,h5,h6⟩:=KL hc;refine Ik ?_;rw[h1];refine h.pre hΓ h2 hw hk λτ' m' J' a' x' k1 k2 k3=>rW ?_;rw[if_pos (by simp[Region.wanted,h6])]
 exact(hop τ' m' J' a' x' k1 k2 k3 o h3 h5).mono λa2 s2 x2 hb=>hb ops l2 h4
end
section inv
variable {tf:FuncId->Bool} {op:Op}
theorem zL{T:TypeId}{ch:aV}{ok:Bool}(h:dV tf op=some (.recv T ch ok)):∃ y,op= .recv T y ok/\aP y=some ch:=by
 unfold dV at h;split at h
 case h_1 T' y ok'=>
  obtain⟨z,h1,h2⟩:=z00.1 h;cases h2;exact⟨y,rfl,h1⟩
 all_goals first
  |(cases h;done)
  |(obtain⟨z,h1,h2⟩:=z00.1 h;cases h2;done)
  |(split at h<;>first|cases h|(obtain⟨z,h1,h2⟩:=z00.1 h;cases h2;done)|(split at h<;>first|cases h|(obtain⟨z,h1,h2⟩:=z00.1 h;cases h2)))
theorem Il{ch z:aV}(h:dV tf op=some (.send ch z)):∃ y w,op= .send y w/\aP y=some ch/\aP w=some z:=by
 unfold dV at h;split at h
 case h_2 y w=>
  split at h<;>cases h;exact⟨y,w,rfl,by assumption,by assumption⟩
 all_goals first
  |(cases h;done)
  |(obtain⟨z,h1,h2⟩:=z00.1 h;cases h2;done)
  |(split at h<;>first|cases h|(obtain⟨z,h1,h2⟩:=z00.1 h;cases h2;done)|(split at h<;>first|cases h|(obtain⟨z,h1,h2⟩:=z00.1 h;cases h2)))
theorem aey{f:FuncId}{ys:List aV}(h:dV tf op=some (.go f ys)):∃ c:Go.Call,op= .go c/\c.callee= .value (.func f)/\c.args.toList.mapM aP=some ys:=by
 unfold dV at h;split at h
 case h_3 c=>
  split at h
  ·rename_i hc;obtain⟨z,h1,h2⟩:=z00.1 h;cases h2;exact⟨c,rfl,hc,h1⟩
  ·cases h
 all_goals first
  |(cases h;done)
  |(obtain⟨z,h1,h2⟩:=z00.1 h;cases h2;done)
  |(split at h<;>first|cases h|(obtain⟨z,h1,h2⟩:=z00.1 h;cases h2;done)|(split at h<;>first|cases h|(obtain⟨z,h1,h2⟩:=z00.1 h;cases h2)))
theorem aez{T:TypeId}{l:aV}(h:dV tf op=some (.mk T l)):∃ y,op= .makeChan T y/\aP y=some l:=by
 unfold dV at h;split at h
 case h_4 T' y=>
  obtain⟨z,h1,h2⟩:=z00.1 h;cases h2;exact⟨y,rfl,h1⟩
 all_goals first
  |(cases h;done)
  |(obtain⟨z,h1,h2⟩:=z00.1 h;cases h2;done)
  |(split at h<;>first|cases h|(obtain⟨z,h1,h2⟩:=z00.1 h;cases h2;done)|(split at h<;>first|cases h|(obtain⟨z,h1,h2⟩:=z00.1 h;cases h2)))
theorem Rh{ch:aV}(h:dV tf op=some (.close ch)):∃ y ats,op= .call {callee:= .builtin .close,args:= #[y],argTypes:=ats}/\aP y=some ch:=by
 unfold dV at h;split at h
 case h_5 c=>
  obtain⟨ce,ar,at'⟩:=c;simp only at h;split at h
  ·split at h
   ·rename_i x hx;obtain⟨z,h1,h2⟩:=z00.1 h;cases h2;have:ar= #[x]:=by apply z1i;simpa using hx
    subst this;exact⟨x,at',rfl,h1⟩
   ·cases h
  ·split at h
   ·obtain⟨z,h1,h2⟩:=z00.1 h;cases h2
   ·cases h
  ·cases h
 all_goals first
  |(cases h;done)
  |(obtain⟨z,h1,h2⟩:=z00.1 h;cases h2;done)
  |(split at h<;>first|cases h|(obtain⟨z,h1,h2⟩:=z00.1 h;cases h2;done)|(split at h<;>first|cases h|(obtain⟨z,h1,h2⟩:=z00.1 h;cases h2)))
theorem Ri{f:FuncId}{ys:List aV}(h:dV tf op=some (.Yu f ys)):∃ c:Go.Call,op= .call c/\c.callee= .value (.func f)/\c.args.toList.mapM aP=some ys:=by
 unfold dV at h;split at h
 case h_5 c=>
  split at h
  ·split at h
   ·obtain⟨z,h1,h2⟩:=z00.1 h;cases h2
   ·cases h
  ·rename_i hc;split at h
   ·obtain⟨z,h1,h2⟩:=z00.1 h;cases h2;exact⟨c,rfl,hc,h1⟩
   ·cases h
  ·cases h
 all_goals first
  |(cases h;done)
  |(obtain⟨z,h1,h2⟩:=z00.1 h;cases h2;done)
  |(split at h<;>first|cases h|(obtain⟨z,h1,h2⟩:=z00.1 h;cases h2;done)|(split at h<;>first|cases h|(obtain⟨z,h1,h2⟩:=z00.1 h;cases h2)))
theorem QK{T:TypeId}(h:dV tf op=some (.Yo T)):op= .makeMap T none:=by
 unfold dV at h;split at h
 case h_6 T'=>cases h;rfl
 all_goals first
  |(cases h;done)
  |(obtain⟨z,h1,h2⟩:=z00.1 h;cases h2;done)
  |(split at h<;>first|cases h|(obtain⟨z,h1,h2⟩:=z00.1 h;cases h2;done)|(split at h<;>first|cases h|(obtain⟨z,h1,h2⟩:=z00.1 h;cases h2)))
theorem QL{T:TypeId}{p q:aV}(h:dV tf op=some (.Yp T p q)):∃ y w,op= .lookup T y w false/\aP y=some p/\aP w=some q:=by
 unfold dV at h;split at h
 case h_7 T' y w=>
  split at h<;>cases h;exact⟨y,w,rfl,by assumption,by assumption⟩
 all_goals first
  |(cases h;done)
  |(obtain⟨z,h1,h2⟩:=z00.1 h;cases h2;done)
  |(split at h<;>first|cases h|(obtain⟨z,h1,h2⟩:=z00.1 h;cases h2;done)|(split at h<;>first|cases h|(obtain⟨z,h1,h2⟩:=z00.1 h;cases h2)))
theorem VR{T:TypeId}{p q r:aV}(h:dV tf op=some (.ajk T p q r)):∃ y w v,op= .mapUpdate T y w v/\aP y=some p/\aP w=some q/\aP v=some r:=by
 unfold dV at h;split at h
 case h_8 T' y w v=>
  split at h<;>cases h;exact⟨y,w,v,rfl,by assumption,by assumption,by assumption⟩
 all_goals first
  |(cases h;done)
  |(obtain⟨z,h1,h2⟩:=z00.1 h;cases h2;done)
  |(split at h<;>first|cases h|(obtain⟨z,h1,h2⟩:=z00.1 h;cases h2;done)|(split at h<;>first|cases h|(obtain⟨z,h1,h2⟩:=z00.1 h;cases h2)))
end inv
end Go.Sx
namespace Go.Sx
open Go Go.Conc
section
variable {P:Program} {F:Nat->Prop} {Φ:Gl} {cin cout j:Nat} {tf:FuncId->Bool} {fn:FuncId} {n:Nat} {d:List Deferred} {H0 X:Nat->Option Obj} {J:Env} {τ:Fr} {m:List ay} {a:Act} {x:OW} {o:Oper}
theorem Ym{v w:Value}(h:bK J (.raw v) w):w=v:=by obtain⟨cs,h1,h2⟩:=h;simp only[ah] at h1;rw[h1.2] at h2;exact h2
theorem TS.raw(h:TS F n d H0 X J τ m a x){y:Operand}{y':aV}(hy:aP y=some y'){v:Value}(hv:y'.fv τ= .raw v):a.eval y=v:=by have:=h.opd hy;rw[hv] at this;exact Ym this
theorem TS.int(h:TS F n d H0 X J τ m a x){y:Operand}{y':aV}(hy:aP y=some y'){k:IntKind}{v:Int}(hv:y'.fv τ= .int k v):a.eval y= .int k v:=by have:=h.opd hy;rw[hv] at this;exact fG this
theorem VP{v:Value}(h:v.oneCell'=true):bK J (.raw v) v:=⟨[v],⟨h,rfl⟩,rfl⟩
theorem Kz{e:TypeId}{z:SV}(hz:VQ P e=some z):∃ v,(∀ w,(zeroValue e).run P w= .ok v w)/\∀ J,bK J (.cu [z, .bool false]) (.tuple #[v, .bool false]):=by
 obtain⟨h1,i,cs,h2,h3,h4⟩:=Yn hz;refine⟨.agg cs,λw=>by simp[zeroValue,typeInfo,h2,h3],λJ=>⟨[.agg cs, .bool false],⟨cs.toList,[.bool false],?_,h4 J,[.bool false],[],rfl,rfl,rfl⟩,rfl⟩⟩
 simp[boxed,h1]
theorem ajg(h:TS F n d H0 X J τ m a x){T e:TypeId}{dir:ChanDir}{ch:aV}{t:Nat}{z mS:SV}{mV:Value}{l:List Value}(ho:dV tf o.op=some (.recv T ch true))(hd:o.dst=some t)(hch:ch.fv τ= .raw (.chan (some cin)))(ht:t<n)
  (hT:P.underlying T=some (.chan dir e)) (hz:VQ P e=some z) (hm:bK J (.cu [mS, .bool true]) (.tuple #[mV, .bool true])):
  sQ P false F (kH P F Φ cin cout j) fn o a (λa2 s2 x2=>s2= .hears l/\TS F n d H0 X J (.put t (.cu [mS, .bool true]) τ) m a2 x2) (.hears (mV::l)) x:=by
 obtain⟨y,h1,h2⟩:=zL ho;obtain⟨v,h3,_⟩:=Kz hz;refine adX (zI h1 (h.raw h2 hch) hT h3 λw=>events_zeroValue P w #[] e) λw1 hr=>⟨rfl,?_⟩;rw[hd];exact(h.rely hr).put ht hm
theorem ajh(h:TS F n d H0 X J τ m a x){T e:TypeId}{dir:ChanDir}{ch:aV}{t:Nat}{z:SV}(ho:dV tf o.op=some (.recv T ch true))(hd:o.dst=some t)(hch:ch.fv τ= .raw (.chan (some cin)))(ht:t<n)
  (hT:P.underlying T=some (.chan dir e)) (hz:VQ P e=some z):
  sQ P false F (kH P F Φ cin cout j) fn o a (λa2 s2 x2=>s2= .tells/\TS F n d H0 X J (.put t (.cu [z, .bool false]) τ) m a2 x2) (.hears []) x:=by
 obtain⟨y,h1,h2⟩:=zL ho;obtain⟨v,h3,h4⟩:=Kz hz;refine adY (zI h1 (h.raw h2 hch) hT h3 λw=>events_zeroValue P w #[] e) λw1 hr=>⟨rfl,?_⟩;rw[hd];exact(h.rely hr).put ht (h4 J)
end
section
variable {P:Program} {main:Bool} {F:Nat->Prop} {ι:Type _} {S:J9 ι} {tf:FuncId->Bool} {fn:FuncId} {n:Nat} {d:List Deferred} {H0 X:Nat->Option Obj} {J:Env} {τ:Fr} {m:List ay} {a:Act} {x:OW} {s:ι} {o:Oper} {T kt et:TypeId}
theorem ad8(h:TS F n d H0 X J τ m a x){t:Nat}(ho:dV tf o.op=some (.Yo T))(hd:o.dst=some t)(ht:t<n):
  sQ P main F S fn o a (λa2 s2 x2=>s2=s/\∃ r,X r=none/\TS F n d H0 (λb=>if b=r then some (kS []) else X b) J (.put t (.raw (.map (some r))) τ) m a2 x2) s x:=by
 refine CB.t ((h.mkMap (QK ho)).mono λa2 x2 ⟨r,e,h2,h3⟩=>⟨rfl,r,h3,?_⟩);subst e;rw[hd];exact h2.put ht (VP rfl)
theorem ad9(h:TS F n d H0 X J τ m a x){t r:Nat}{p q:aV}{v:Int}{A:List (Int×Nat)}(ho:dV tf o.op=some (.Yp T p q))(hd:o.dst=some t)(ht:t<n)(hT:P.underlying T=some (.map kt et))(hk:P.underlying kt=some (.int .i64))(hz:∀ w,(zeroValue et).run P w= .ok (.pointer none) w)
  (hp:p.fv τ= .raw (.map (some r))) (hq:q.fv τ= .int .i64 v) (hX:X r=some (kS A)):
  sQ P main F S fn o a (λa2 s2 x2=>s2=s/\TS F n d H0 X J (.put t (match lookA A v with|some b=> .raw (.pointer (some ⟨b,0,none⟩))|none=> .lD) τ) m a2 x2) s x:=by
 obtain⟨y,w,h1,h2,h3⟩:=QL ho;refine CB.t ((h.aji h1 hT hk hz (h.raw h2 hp) (h.int h3 hq) hX).mono λa2 x2 ⟨e,h4⟩=>⟨rfl,?_⟩);subst e;rw[hd];cases lookA A v with
 |none=>exact h4.put ht ⟨_,rfl,rfl⟩
 |some b=>exact h4.put ht (VP rfl)
theorem ajj(h:TS F n d H0 X J τ m a x){r b:Nat}{p q u:aV}{v:Int}{A:List (Int×Nat)}(ho:dV tf o.op=some (.ajk T p q u))(hd:o.dst=none)(hT:P.underlying T=some (.map kt et))(hk:P.underlying kt=some (.int .i64))
  (hp:p.fv τ= .raw (.map (some r))) (hq:q.fv τ= .int .i64 v) (hu:∀ w,bK J (u.fv τ) w->w= .pointer (some ⟨b,0,none⟩)) (hX:X r=some (kS A)) (hn:lookA A v=none):
  sQ P main F S fn o a (λa2 s2 x2=>s2=s/\TS F n d H0 (λc=>if c=r then some (kS (A++[(v,b)])) else X c) J τ m a2 x2) s x:=by
 obtain⟨y,w,z,h1,h2,h3,h4⟩:=VR ho;refine CB.t ((h.am7 h1 hT hk (h.raw h2 hp) (h.int h3 hq) (hu _ (h.opd h4)) hX hn).mono λa2 x2 ⟨e,h5⟩=>⟨rfl,?_⟩);subst e;rw[hd];exact h5
end
section
variable {P:Program} {main:Bool} {F:Nat->Prop} {ι:Type _} {S:J9 ι} {quiet tf:FuncId->Bool} {fn:FuncId} {n:Nat} {d:List Deferred} {H0 X:Nat->Option Obj} {J:Env} {τ:Fr} {m:List ay} {a:Act} {x:OW} {s:ι} {Q:Exit->Act->ι->OW->Prop}
theorem aea:∀ {ks:List Nat} {xs:List SV} {τ':Fr} (k:Nat),X0 ks xs τ'->Le (look k (ig ks xs .nil)) (look k τ'):=λk h=>Nb k h (.inl rfl)
theorem TS.C9(h:TS F n d H0 X J τ m a x){ks:List Nat}{xs:List SV}(ha:X0 ks xs τ):TS F n d H0 X J (ig ks xs .nil) m a x:=h.weak λk=>aea k ha
def Got(E:Ex)(ks:List Nat)(xs:List SV)(M:List ay):Ex->Fr->List ay->Prop:=λex τ m=>ex=E/\X0 ks xs τ/\m=M
def Ny(ks:List Nat)(xs:List SV)(M:List ay):Fr->List ay->Prop:=λτ m=>X0 ks xs τ/\m=M
theorem bM(h:TS F n d H0 X J τ m a x){Γ:FH}(hΓ:bQ P main F Γ){jc:JC}(hw:jc.wf n=true)(ks:List Nat)(xs:List SV)(M:List ay)(hq:jc.wp Γ m.length (Got .norm ks xs M) τ m)
  (hR:∀ J' a' x',TS F n d H0 X J' (ig ks xs .nil) M a' x'->(∀ i,i<m.length->J'.blk i=J.blk i)->Q .normal a' s x'):TW P main F S quiet tf fn (.jc jc) Q a s x:=
 Yq h hΓ hw hq λe ex τ' m' J' a' x' h1 h2 h3 h4=>by obtain⟨rfl,h5,rfl⟩:=h2;cases e<;>simp only[rU] at h1;exact hR J' a' x' (h3.C9 h5) h4
theorem G5(h:TS F n d H0 X J τ m a x){Γ:FH}(hΓ:bQ P main F Γ){jc:JC}(hw:jc.wf n=true)(i:Nat)(ks:List Nat)(xs:List SV)(M:List ay)(hq:jc.wp Γ m.length (Got (.exit i) ks xs M) τ m)
  (hR:∀ J' a' x',TS F n d H0 X J' (ig ks xs .nil) M a' x'->(∀ i,i<m.length->J'.blk i=J.blk i)->Q (.exit i) a' s x'):TW P main F S quiet tf fn (.jc jc) Q a s x:=
 Yq h hΓ hw hq λe ex τ' m' J' a' x' h1 h2 h3 h4=>by obtain⟨rfl,h5,rfl⟩:=h2;cases e<;>simp only[rU] at h1;subst h1;exact hR J' a' x' (h3.C9 h5) h4
theorem Nv(h:TS F n d H0 X J τ m a x){Γ:FH}(hΓ:bQ P main F Γ){jc:JC}(hw:jc.wf n=true)(ks:List Nat)(xs:List SV)(M:List ay)(hq:jc.wp Γ m.length (Got .ret ks xs M) τ m)
  (hR:∀ J' a' x',TS F n d H0 X J' (ig ks xs .nil) M a' x'->(∀ i,i<m.length->J'.blk i=J.blk i)->Q .ret a' s x'):TW P main F S quiet tf fn (.jc jc) Q a s x:=
 Yq h hΓ hw hq λe ex τ' m' J' a' x' h1 h2 h3 h4=>by obtain⟨rfl,h5,rfl⟩:=h2;cases e<;>simp only[rU] at h1;exact hR J' a' x' (h3.C9 h5) h4
theorem jQ(h:TS F n d H0 X J τ m a x){Γ:FH}(hΓ:bQ P main F Γ){pre post:SL}{dst:Option Nat}{so:StO}(hw:pre.wf n=true)(ks:List Nat)(xs:List SV)(M:List ay)(hk:pre.wp Γ false (Ny ks xs M) τ m)
  (hop:∀ J' a' x',TS F n d H0 X J' (ig ks xs .nil) M a' x'->(∀ i,i<m.length->J'.blk i=J.blk i)->∀ o:Oper,dV tf o.op=some so->o.dst=dst->sQ P main F S fn o a' (Behind P main F S fn post Q) s x'):
  TW P main F S quiet tf fn (.reg pre dst so post) Q a s x:=
 am8 h hΓ hw hk λτ' m' J' a' x' h1 h2 h3=>by obtain⟨h5,rfl⟩:=h1;exact hop J' a' x' (h2.C9 h5) h3
theorem Behind.C9(h:TS F n d H0 X J τ m a x){Γ:FH}(hΓ:bQ P main F Γ){post:SL}(hw:post.wf n=true)(ks:List Nat)(xs:List SV)(M:List ay)(hk:post.wp Γ false (Ny ks xs M) τ m)
  (hQ:∀ J' a' x',TS F n d H0 X J' (ig ks xs .nil) M a' x'->(∀ i,i<m.length->J'.blk i=J.blk i)->Q .normal a' s x'):Behind P main F S fn post Q a s x:=
 Behind.of h hΓ hw hk λτ' m' J' a' x' h1 h2 h3=>by obtain⟨h5,rfl⟩:=h1;exact hQ J' a' x' (h2.C9 h5) h3
theorem got_eq{E:Ex}{ks:List Nat}{xs:List SV}{M:List ay}{ex:Ex}{τ:Fr}{m:List ay}:Got E ks xs M ex τ m=(ex=E/\X0 ks xs τ/\m=M):=nr rfl
theorem ajl{ks:List Nat}{xs:List SV}{M:List ay}{τ:Fr}{m:List ay}:Ny ks xs M τ m=(X0 ks xs τ/\m=M):=nr rfl
theorem aec(i:Nat)(v:Value):kill i (.raw v)= .raw v:=nr rfl
theorem aaZ(v:Value):(SV.raw v).isVal=true:=nr rfl
theorem am9(v:Value):wd (.raw v)=1:=nr rfl
theorem aa0(v:Value):(SV.raw v).isAgg=false:=nr rfl
attribute [go_sem] got_eq ajl aec aaZ am9 aa0
end
end Go.Sx
namespace Go.Sx
open Go Go.Conc
section
variable {P:Program} {main:Bool} {F:Nat->Prop} {ι:Type _} {S:J9 ι} {quiet tf:FuncId->Bool} {fn:FuncId} {n:Nat} {d:List Deferred} {H0 X:Nat->Option Obj} {J:Env} {τ:Fr} {m:List ay} {a:Act} {x:OW} {s:ι} {Q:Exit->Act->ι->OW->Prop}
theorem XG{p q:Code}{b:Frame}{k:List Item}{cs:List Frame}{Stop:Goroutine->OW->Prop}(hb:b.fn=fn)(hk:b.kind≠ .early)(hS:S s=Stop)(h:kW P main F S fn p Q a s x)
  (hq:∀ a' s' x',Q .normal a' s' x'->Co P main F (S s') (G (b.at a' (.code q::k)) cs) x') (hn:∀ e a' s' x',e≠ .normal->¬ Q e a' s' x'):Co P main F Stop (G (b.at a (.code (.seq p q)::k)) cs) x:=by
 subst hS;refine .idle rfl (λ_=>stepG_seq) (h b (.code q::k) cs hb hk λe a' s' x' hh=> ?_);cases e with
 |normal=>exact hq a' s' x' hh
 |exit i=>exact absurd hh (hn _ _ _ _ (by simp))
 |ret=>exact absurd hh (hn _ _ _ _ (by simp))
 |goto l=>exact absurd hh (hn _ _ _ _ (by simp))
 |panic c=>exact absurd hh (hn _ _ _ _ (by simp))
 |outgrown=>exact absurd hh (hn _ _ _ _ (by simp))
theorem FT{Γ:Hook}(hΓ:iI P main F Γ){ops:Array Oper}{ρ:Root}{d:List Deferred}{Stop:Goroutine->OW->Prop}{b:Frame}{k:List Item}{cs:List Frame}(hb:b.fn=fn)(hk:b.kind≠ .early){r:Nat}:∀ (l:List Oper) (aT:List dP) (σ:List SV) (m:List ay) (K:List SV->List ay->Prop) (i:Nat),
  (∀ j,j<l.length->ops[i+j]? =l[j]?)->l.mapM (iV P ops)=some aT->uP Γ aT K σ m->(∀ σ' m' J' a' x',K σ' m'->dh F ρ J' m' x'->aH J' σ' a'->a'.defers=d->Co P main F Stop (G (b.at a' (.inRegion ops (z0q (i+l.length) r)::k)) cs) x')->
  ∀ J a x,dh F ρ J m x->aH J σ a->a.defers=d->Co P main F Stop (G (b.at a (.inRegion ops (z0q i (l.length+r))::k)) cs) x
 |[],aT,σ,m,K,i,hat,hc,h,hK,J,a,w,hi,hs,hd=>by
  simp at hc;subst hc;have:=hK σ m J a w h hi hs hd;simpa using this
 |o::l,aT,σ,m,K,i,hat,hc,h,hK,J,a,w,hi,hs,hd=>by
  have aow:ops[i]? =some o:=by simpa using hat 0 (by simp)
  have hat':∀ j,j<l.length->ops[i+1+j]? =l[j]? :=λj hj=>by
   have:=hat (j+1) (by simpa using hj)
   rw[z0k] at this;rw[<- this];congr 1;omega
  simp only[z19,bind,z0y] at hc;obtain⟨io,ho,hc⟩:=bind_some hc;obtain⟨um,hc',hc⟩:=bind_some hc;simp only[z0b] at hc;subst hc;simp only[iV] at ho;split at ho<;>try (cases ho;done)
  rename_i g x hg hx;simp only[z0b] at ho;subst ho;simp only[uP] at h;have e:z0q i ((o::l).length+r)=i::z0q (i+1) (l.length+r):=by rw[z0l,show l.length+1+r=(l.length+r)+1 by omega,List.range'_succ]
  have e2:i+(o::l).length=i+1+l.length:=by simp;omega
  rw[e];rw[e2] at hK;have go:∀ K1,aH J K1 a->Region.wanted o (yielded ops a.tmps)=true->opK Γ K1 m (λσ' sv m'=>uP Γ um K (gV o.dst sv σ') m') x->Co P main F Stop (G (b.at a (.inRegion ops (i::z0q (i+1) (l.length+r))::k)) cs) w:=by intro K1 hs1 hw h1;obtain⟨σ',sv,m',h2,hE⟩:=DI hΓ hx h1;refine hE ρ J a w fn hi hs1 ops o b k cs Stop i _ ⟨o.after,o.guard,rfl⟩ hb hk aow hw ?_;rintro a' w' ⟨v,J',rfl,hv,hs',hi'⟩;exact FT hΓ hb hk l um _ _ K (i+1) hat' hc' h2 hK J' _ w' hi' (hs'.put hv o.dst) (by rw[put_defers];exact hd)
  cases g with
  |none=>
   have hgn:o.guard=none:=by
    cases hog:o.guard with
    |none=>rfl
    |some g=>rw[hog] at hg;simp only[vX] at hg;split at hg<;>cases hg
   exact go σ hs (by simp[Region.wanted,hgn]) h
  |some g=>
   obtain⟨s',want⟩:=g;simp only[qR] at h;split at h
   ·rename_i b' hb';have hw:=yR hs hg hb';by_cases hbw:b'=want
    ·subst hbw;exact go _ (hs.known hb') (by rw[hw];simp) (h.1 rfl)
    ·have hbn:b'= !want:=by cases b'<;>cases want<;>first|rfl|exact absurd rfl hbw
     subst hbn;have hs2:=hs.known hb';refine .idle rfl (λ_=>stepG_unwanted aow (by rw[hw];simp)) ?_
     exact FT hΓ hb hk l um _ _ K (i+1) hat' hc' (h.2 rfl) hK J _ w hi (aH.put (sv:= .cu []) (v:=undef) hs2 lM o.dst) (by rw[put_defers];exact hd)
   ·rename_i hb';have hw:=nV hs hg hb';refine .idle rfl (λ_=>stepG_unwanted aow hw) ?_;exact FT hΓ hb hk l um _ _ K (i+1) hat' hc' h hK J _ w hi (aH.put (sv:= .cu []) (v:=undef) hs lM o.dst) (by rw[put_defers];exact hd)
   ·exact h.elim
theorem TS.last(h:TS F n d H0 X J τ m a x){Γ:FH}(hΓ:bQ P main F Γ){pre:SL}{dst:Option Nat}{so:StO}{c:Code}(hc:gq P quiet tf c=some (Q8.reg (pre.flat none) dst so []))(hw:pre.wf n=true)(ks:List Nat)(xs:List SV)(M:List ay)(hk:pre.wp Γ false (Ny ks xs M) τ m)
  {b:Frame} {k:List Item} {cs:List Frame} {Stop:Goroutine->OW->Prop} (hb:b.fn=fn) (hke:b.kind≠ .early)
  (hop:∀ J' a' x',TS F n d H0 X J' (ig ks xs .nil) M a' x'->∀ (ops:Array Oper) (i:Nat) (o:Oper),ops[i]? =some o->Region.wanted o (yielded ops a'.tmps)=true->dV tf o.op=some so->o.dst=dst->Co P main F Stop (G (b.at a' (.inRegion ops [i]::k)) cs) x'):
  Co P main F Stop (G (b.at a (.code c::k)) cs) x:=by
 obtain⟨id,ops,l1,o,l2,rfl,h1,h2,h3,h4,h5,h6⟩:=KL hc;have hl2:l2=[]:=by
  cases l2 with
  |nil=>rfl
  |cons y r=>
   simp only[z19,bind,z0y] at h4;obtain⟨_,_,h4⟩:=bind_some h4;obtain⟨_,_,h4⟩:=bind_some h4;cases h4
 subst hl2;have hsz:ops.size=l1.length+1:=by have:=congrArg List.length h1;simpa using this
 have hget:∀ j:Nat,ops[j]? =(l1++[o])[j]? :=λj=>by rw[<- h1];simp
 refine .idle rfl (λ_=>stepG_region) ?_;rw[hsz,List.range_eq_range'];obtain⟨σ,s1,s2⟩:=h.s;have kk:=vV pre τ σ m (Ny ks xs M) (λσ' m'=> ∃ τ',Rep n σ' τ'/\Ny ks xs M τ' m') hw s1 hk (λσ' τ' m' hr hq=>⟨τ',hr,hq⟩);refine FT (fn:=fn) hΓ.hook (ρ:= .at J m x) (d:=d) hb hke (r:=1) l1 _ σ m _ 0 (λj hj=>by rw[z0h,hget,List.getElem?_append_left hj]) h2 kk (λσ' m' J' a' x' ⟨τ',hr,hq⟩ hi' hs' hd'=> ?_) J a x h.inv s2 h.d
 obtain⟨g1,rfl⟩:=hq;rw[z0h,show z0q l1.length 1=[l1.length] from rfl]
 exact hop J' a' x' (TS.C9 ⟨hi'.Ea,⟨σ',hr,hs'⟩,hd',h.x.step h.g hi',λb o hb=>hi'.inv.kept.H b o (h.h b o hb)⟩ g1) ops l1.length o (by rw[hget];simp) (by simp[Region.wanted,h6]) h3 h5
theorem fP.none{w:World}(hF:∀ b,F b->b<w.heap.size):fP F Env.nil [] ⟨w,λ_=>False⟩:=
 ⟨⟨rfl,λi=>by rw[show ak [] i= .dead from rfl];trivial,λi j b _ h=>(by cases h),λi b h=>(by cases h),λb o h=>(by cases h),⟨λp hp=>(by cases hp),λb hb=>(by cases hb)⟩⟩,λi b h=>(by cases h),λb o h=>(by cases h),λb h=>h.elim,hF⟩
end
end Go.Sx
section
set_option maxRecDepth 100000
open Go Go.Sx Go.Conc Go.Proofs
namespace Go.Proofs.Ytpajfggdnobheaa.Sp
variable {main:Bool} {Fz:Nat->Prop}
open D Tr C Fu Fa
def alN:JC:=(.ops<|oQ 5<|.nil)
def agu:JC:=(.ops<|o7 10 0<|.nil)
def agv:JC:=(qO 12 .skip (.exit 0))
def alO:JC:=(.ops<|oM 13 0 11<|eo 6 (.alloc 68 (.agg [(.int .i64 0),(.agg [(.int .i64 0),(.int .i64 0),(.int .i64 0)]),(.arr 6 1 λ_=>(.int .i64 0))]))<|oG 10 6 13<|.nil)
def agw:JC:=(.ops<|o7 19 7<|qo 20 (.Nw false (.t 19))<|.nil)
def alP:JC:=(.ops<|eo 21 (.call 43 [])<|o7 7 21<|.nil)
def agx:JC:=(qN (o7 27 7<|oD 28 1 1 6<|oC 29 3 28<|oD 30 2 4 6<|oC 31 6 30<|eo 32 (.call 44 [(.t 27),(.t 29),(.t 31)])<|o7 8 32<|.nil) (qN (o7 33 8<|qB 34 33 0<|.nil) (qO 34 (.ops<|qL [5,6,8,10,4,1]<|o7 35 5<|oD 36 0 0 6<|o9 37 1 36<|oD 38 1 1 6<|qL [38,8,37,35,10,4,1]<|oD 39 2 2 38<|o9 40 1 39<|o7 41 8<|qL [37,40,41,35,10,4,1]<|qo 42 (.AU (.agg [(.int .i64 0),(.int .i64 0),(.int .i64 0)]) [([.lQ 0],0,1,(.t 37)),([.lQ 1],1,1,(.t 40)),([.lQ 2],2,1,(.t 41))])<|qL [42,35,10,4,1]<|eo 43 (.Ia 32 3 1 (.agg [(.int .i64 0),(.int .i64 0),(.int .i64 0)]) [(0,(.t 42))])<|oV 44 32 3 24 35 43<|o7 5 44<|.nil) .skip)))
def LH:TC:=(.seq (.reg (.nil) (some 11) (.recv 116 (.t 10) true) (oM 12 1 11<|.nil)) (.seq (.jc agv) (.block 1 (.seq (.jc alO) (.seq (.reg (o7 14 4<|oD 15 1 1 6<|oD 16 2 2 15<|o9 17 1 16<|.nil) (some 18) (.Yp 118 (.t 14) (.t 17)) (o7 7 18<|.nil)) (.seq (.seq (.jc agw) (.cond (.t 20) (.seq (.jc alP) (.reg (o7 22 4<|oD 23 1 1 6<|oD 24 2 2 23<|o9 25 1 24<|o7 26 7<|.nil) none (.ajk 118 (.t 22) (.t 25) (.t 26)) (.nil))) (.jc .skip))) (.jc agx)))))))
def j20:TC:=(.seq (.reg (.nil) (some 9) (.Yo 118) (o7 4 9<|.nil)) (.seq (.jc alN) (.seq (.seq (.jc agu) (.block 0 (.loop LH))) (.reg (o7 45 1<|o7 46 5<|.nil) none (.send (.t 45) (.t 46)) (.nil)))))
theorem c20:tIs Try.prog bG (λf=>[6].contains f) 20=some (j20.flat,[],47,false):=by kernel_rfl
structure Ms where
 i:Nat
 e:Ev
 c:jH
def mS(x:Ms):SV:= .agg [.int .i64 x.i, .agg [.int .i64 x.e.kind, .int .i64 x.e.aK, .int .i64 x.e.obj], .arr 6 1 λj=> .int .i64 (x.c j)]
def mV(x:Ms):Value:= .agg #[.int .i64 x.i, .int .i64 x.e.kind, .int .i64 x.e.aK, .int .i64 x.e.obj, .int .i64 (x.c 0), .int .i64 (x.c 1), .int .i64 (x.c 2), .int .i64 (x.c 3), .int .i64 (x.c 4), .int .i64 (x.c 5)]
theorem aqs(J:Env)(x:Ms):bK J (.cu [mS x, .bool true]) (.tuple #[mV x, .bool true]):=by
 refine⟨[mV x, .bool true],⟨[.int .i64 x.i, .int .i64 x.e.kind, .int .i64 x.e.aK, .int .i64 x.e.obj, .int .i64 (x.c 0), .int .i64 (x.c 1), .int .i64 (x.c 2), .int .i64 (x.c 3), .int .i64 (x.c 4), .int .i64 (x.c 5)],[.bool true],rfl,?_,[.bool true],[],rfl,rfl,rfl⟩,rfl⟩;refine⟨[.int .i64 x.i],_,rfl,rfl,[.int .i64 x.e.kind, .int .i64 x.e.aK, .int .i64 x.e.obj],_,rfl,⟨[.int .i64 x.e.kind],_,rfl,rfl,[.int .i64 x.e.aK],_,rfl,rfl,[.int .i64 x.e.obj],_,rfl,rfl,rfl⟩,[.int .i64 (x.c 0), .int .i64 (x.c 1), .int .i64 (x.c 2), .int .i64 (x.c 3), .int .i64 (x.c 4), .int .i64 (x.c 5)],[],rfl,⟨rfl,λi hi=> ?_⟩,rfl⟩;have:i=0\/i=1\/i=2\/i=3\/i=4\/i=5:=by omega
 rcases this with rfl|rfl|rfl|rfl|rfl|rfl<;>rfl
def wK(f:Int->Cl)(x:Ms):Int->Cl:=λv=>if v=x.e.obj then wz (f v) x.e x.c else f v
def hK(f:Int->Cl)(x:Ms):Int:=H9 (f x.e.obj) x.e x.c
def PG(f:Int->Cl)(x:Ms):List Fl:=if hK f x=0 then[] else[⟨x.i,x.e.obj,hK f x⟩]
def uN:(Int->Cl)->List Ms->List Fl
 |_,[]=>[]
 |f,x::l=>PG f x++uN (wK f x) l
def okH:(Int->Cl)->List Ms->Prop
 |_,[]=>True
 |f,x::l=>okC (f x.e.obj)/\0<=x.e.aK/\x.e.aK<6/\okH (wK f x) l
theorem agy{s:Cl}{J J':Env}{cs:List Value}(h:ah (wu.aA s) J cs):ah (wu.aA s) J' cs:=by
 obtain⟨w,r,k⟩:=s;cases r with
 |inl p=>simp only[V5,ah,bV] at h ⊢;exact h
 |inr c=>simp only[NT,ah,bV] at h ⊢;exact h
def XA(r:Nat)(A:List (Int×Nat))(cs:Nat->List Value):Nat->Option Obj:=λb=>if b=r then some (kS A) else if (A.map (·.2)).contains b then some (.cells (cs b).toArray 152 (0,0)) else none
structure aqt(f:Int->Cl)(r:Nat)(A:List (Int×Nat))(cs:Nat->List Value):Prop where
 ks:(A.map (·.1)).Nodup
 bs:(A.map (·.2)).Nodup
 r:r∉A.map (·.2)
 at':∀ p∈A,ah (wu.aA (f p.1)) Env.nil (cs p.2)
 new:∀ v,v∉A.map (·.1)->f v=fK
def Ghd(f:FuncId)(a:List SV)(m:List ay):Sx.Call:=(FH.mk 43 .nil (λ_=>True) (λ_=> .ptr 0 [] 0) (λ_=>[.blk 152 (wu.aA fK)])<|
 FH.mt 44 152 wu (.two bP eP) (.one .int) (λs y=>okC s/\0<=y.1.aK/\y.1.aK<6) (λs y=>H9 s y.1 y.2.1) (λs y=>wz s y.1 y.2.1) FH.none) f a m
theorem agz:type_of% (nq Ghd.eq_1):=nq Ghd.eq_1
theorem agA:bQ Try.prog main Fz Ghd:=FH.ku (λ_ _=>jh (Gv _ _ _) ⟨QZ _,trivial⟩) (λ_ _=>KA)<|
 FH.zo (λs y h=>QY s y.1 y.2.1 h.1 h.2.1 h.2.2) FH.au
@[reducible] def Xj:FuncId->Bool:=λf=>[6].contains f
theorem aqu:VQ Try.prog 68=some (.agg [.int .i64 0, .agg [.int .i64 0, .int .i64 0, .int .i64 0], .arr 6 1 λ_=> .int .i64 0]):=by kernel_rfl
theorem aqv(w:World):(zeroValue 119).run Try.prog w= .ok (.pointer none) w:=by kernel_rfl
def abD(Fz:Nat->Prop)(cin cout:Nat)(tot:List Fl)(k:Nat)(a:Act)(s:HS)(x:OW):Prop:=
 ∃ (ms:List Ms) (f:Int->Cl) (fl:List Fl) (r:Nat) (A:List (Int×Nat)) (cs:Nat->List Value) (J:Env),s= .hears (ms.map mV)/\k=ms.length/\fl++uN f ms=tot/\okH f ms/\fl.length+ms.length<=1000/\aqt f r A cs/\
  TS Fz 47 [] (λ_=>none) (XA r A cs) J (Sx.ig [1,4,5,10] [.raw (.chan (some cout)), .raw (.map (some r)), .vec 0 fl.length, .raw (.chan (some cin))] .nil) [.vec 32 3 (fl.map dW.aA)] a x
def aks(Fz:Nat->Prop)(cout:Nat)(tot:List Fl)(a:Act)(s:HS)(x:OW):Prop:=
 ∃ (X:Nat->Option Obj) (J:Env),s= .tells/\TS Fz 47 [] (λ_=>none) X J (Sx.ig [1,5] [.raw (.chan (some cout)), .vec 0 tot.length] .nil) [.vec 32 3 (tot.map dW.aA)] a x
section
variable {Φ:Gl} {cin cout j:Nat} {tot:List Fl}
theorem abE(a:Act)(x:OW){fl:List Fl}{X:Nat->Option Obj}{r:Value}{J:Env}
  (hT:TS Fz 47 [] (λ_=>none) X J (Sx.ig [1,4,5,10] [.raw (.chan (some cout)), .raw r, .vec 0 fl.length, .raw (.chan (some cin))] .nil) [.vec 32 3 (fl.map dW.aA)] a x) {Q:Exit->Act->HS->OW->Prop} (hQ:∀ a' s' x',aks Fz cout fl a' s' x'->Q (.exit 0) a' s' x'):
  TW Try.prog false Fz (kH Try.prog Fz Φ cin cout j) bG Xj 20 LH Q a (.hears []) x:=by
 unfold LH;refine aX (jQ hT FH.au (by rfl) [1,5,10] [.raw (.chan (some cout)), .vec 0 fl.length, .raw (.chan (some cin))] [.vec 32 3 (fl.map dW.aA)] ?_ λJ1 a1 x1 h1 _ o ho hd=> ?_)
 ·simp only[go_sem,seval]
 refine sQ.mono ?_ (ajh h1 ho hd rfl (by decide) Try.underlying116 aqu)
 rintro a2 s2 x2 ⟨rfl,h2⟩;refine Behind.C9 h2 FH.au (by rfl) [1,5,12] [.raw (.chan (some cout)), .vec 0 fl.length, .bool false] [.vec 32 3 (fl.map dW.aA)] ?_ λε3 a3 x3 h3 _=> ?_
 ·simp only[go_sem,seval]
 refine aX (G5 h3 FH.au (by rfl) 0 [1,5] [.raw (.chan (some cout)), .vec 0 fl.length] [.vec 32 3 (fl.map dW.aA)] ?_ λε4 a4 x4 h4 _=>hQ _ _ _ ⟨_,_,rfl,h4⟩)
 unfold agv;simp only[go_sem,seval]
theorem XD{A:List (Int×Nat)}{v:Int}(h:lookA A v=none):v∉A.map (·.1):=by
 intro hm;obtain⟨p,hp,e⟩:=z0a.1 hm;have:A.find? (λp=>decide (p.1=v))=none:=by simpa[lookA] using h
 have:=List.find?_eq_none.1 this p hp;simp[e] at this
theorem XE{A:List (Int×Nat)}{v:Int}{b:Nat}(h:lookA A v=some b):(v,b)∈A:=by
 obtain⟨p,hp,e⟩:=z00.1 h;have h1:=List.mem_of_find?_eq_some hp;have h2:=List.find?_some hp;have h2:p.1=v:=by simpa using h2
 rw[<- h2,<- e];exact h1
theorem DY{α β:Type}{g:α->β}:∀ {l:List α},(l.map g).Nodup->∀ {p q:α},p∈l->q∈l->g p=g q->p=q
 |a::l,h,p,q,hp,hq,e=>by
  simp only[z04,z1p] at h;rcases z1c.1 hp with e1|hp'<;>rcases z1c.1 hq with e2|hq'
  ·rw[e1,e2]
  ·subst e1;exact absurd (z0a.2 ⟨q,hq',e.symm⟩) h.1
  ·subst e2;exact absurd (z0a.2 ⟨p,hp',e⟩) h.1
  ·exact DY h.2 hp' hq' e
theorem O5(r:Nat->Option Nat):∀ l:List Fl,dH r (l.map dW.aA)=l.map dW.aA
 |[]=>rfl
 |x::l=>by simp only[z04,dH,dW.ren,O5 r l]
theorem EH(a:Act)(x:OW){m:Ms}{ms:List Ms}{f:Int->Cl}{fl:List Fl}{r b:Nat}{A:List (Int×Nat)}{cs:Nat->List Value}{J:Env}{X:Nat->Option Obj}(htot:fl++uN f (m::ms)=tot)(hc:okC (f m.e.obj))(ht1:0<=m.e.aK)(ht2:m.e.aK<6)(hok:okH (wK f m) ms)(hlen:fl.length+(ms.length+1)<=1000)
  (hks:(A.map (·.1)).Nodup) (hbs:(A.map (·.2)).Nodup) (hr:r∉A.map (·.2)) (hat:∀ p∈A,p.2≠b->ah (wu.aA (f p.1)) Env.nil (cs p.2)) (hnew:∀ v,v∉A.map (·.1)->f v=fK) (hmem:(m.e.obj,b)∈A)
  (hXr:X r=some (kS A)) (hX:∀ p∈A,p.2≠b->X p.2=some (.cells (cs p.2).toArray 152 (0,0))) (hb:J.blk 2=b)
  (hT:TS Fz 47 [] (λ_=>none) X J (Sx.ig [1,4,5,6,7,10] [.raw (.chan (some cout)), .raw (.map (some r)), .vec 0 fl.length, .ptr 1 [] 0, .ptr 2 [] 0, .raw (.chan (some cin))] .nil) [.vec 32 3 (fl.map dW.aA), .blk 68 (mS m), .blk 152 (wu.aA (f m.e.obj))] a x) {Q:Exit->Act->HS->OW->Prop}
  (hQ:∀ a' s' x',abD Fz cin cout tot ms.length a' s' x'->Q .normal a' s' x'):
  TW Try.prog false Fz (kH Try.prog Fz Φ cin cout j) bG Xj 20 (.jc agx) Q a (.hears (ms.map mV)) x:=by
 have fin:∀ (J':Env) (a':Act) (x':OW) (tl:List ay),TS Fz 47 [] (λ_=>none) X J' (Sx.ig [1,4,5,10] [.raw (.chan (some cout)), .raw (.map (some r)), .vec 0 (fl++PG f m).length, .raw (.chan (some cin))] .nil) (.vec 32 3 ((fl++PG f m).map dW.aA):: .blk 68 (mS m):: .blk 152 (wu.aA (wz (f m.e.obj) m.e m.c))::tl) a' x'->J'.blk 2=b->Q .normal a' (.hears (ms.map mV)) x':=by
  intro J' a' x' tl h hb';obtain⟨cs',k1,k2⟩:=h.aside (i:=2) (T:=152) (c:=wu.aA (wz (f m.e.obj) m.e m.c)) rfl;have k3:=k2.sel [0] (by simp)
  refine hQ _ _ _ ⟨ms,wK f m,fl++PG f m,r,A,λc=>if c=b then cs' else cs c,kQ [0] J',rfl,rfl,by rw[<- htot,uN,List.append_assoc],hok,?_,⟨hks,hbs,hr,λp hp=> ?_,λv hv=> ?_⟩,?_⟩
  ·have:(PG f m).length<=1:=by unfold PG;split<;>simp
   rw[z0j];omega
  ·by_cases e:p.2=b
   ·have:p=(m.e.obj,b):=DY hbs hp hmem e;subst this;simp only[if_true,wK];exact agy k1
   ·rw[if_neg e];have hne:p.1≠m.e.obj:=λe2=>by have:=DY hks hp hmem e2;exact e (by rw[this])
    simp only[wK,if_neg hne];exact hat p hp e
  ·have hne:v≠m.e.obj:=λe=>hv (e▸z0a.2 ⟨_,hmem,rfl⟩);simp only[wK,if_neg hne];exact hnew v hv
  ·have e1:fJ [0] ((ay.vec 32 3 ((fl++PG f m).map dW.aA):: .blk 68 (mS m):: .blk 152 (wu.aA (wz (f m.e.obj) m.e m.c))::tl).set 2 .dead)=[.vec 32 3 ((fl++PG f m).map dW.aA)]:=by simp only[fJ,z04,z0f,z1j,List.set_cons_zero,ak,z0n,dR,O5]
   have e2:nM (fQ [0]) (Sx.ig [1,4,5,10] [.raw (.chan (some cout)), .raw (.map (some r)), .vec 0 (fl++PG f m).length, .raw (.chan (some cin))] .nil)=Sx.ig [1,4,5,10] [.raw (.chan (some cout)), .raw (.map (some r)), .vec 0 (fl++PG f m).length, .raw (.chan (some cin))] .nil:=by simp[Sx.ig,nM,Sx.ren,iD,fQ]
   rw[e1,e2] at k3;refine k3.akZ λc o hco=> ?_;have hbA:b∈A.map (·.2):=z0a.2 ⟨_,hmem,rfl⟩;have hrb:r≠b:=λe=>hr (e▸hbA);unfold XA at hco;rw[hb'];split at hco
   ·rename_i e;subst e;rw[if_neg hrb,hXr];exact hco
   ·split at hco
    ·rename_i hcc;obtain⟨p,hp,rfl⟩:=z0a.1 (z0e.1 hcc);by_cases e:p.2=b
     ·rw[if_pos e];simp only[if_pos e] at hco;exact hco
     ·rw[if_neg e,hX p hp e];simp only[if_neg e] at hco;exact hco
    ·cases hco
 have hfl:fl.length<=1000:=by omega
 refine Yq hT agA (by rfl) (K:=λex τ' m'=>ex= .norm/\X0 [1,4,5,10] [.raw (.chan (some cout)), .raw (.map (some r)), .vec 0 (fl++PG f m).length, .raw (.chan (some cin))] τ'/\∃ tl,m'= .vec 32 3 ((fl++PG f m).map dW.aA):: .blk 68 (mS m):: .blk 152 (wu.aA (wz (f m.e.obj) m.e m.c))::tl) ?_ λe ex τ' m' J' a' x' h1 h2 h3 h4=> ?_
 ·unfold agx;unfold mS;simp only[go_sem,seval,agz,hc,ht1,ht2];refine⟨λh=> ?_,λh=> ?_⟩
  ·have e:PG f m=[⟨m.i,m.e.obj,H9 (f m.e.obj) m.e m.c⟩]:=if_neg h;rw[e];exact⟨by omega,by rw[z0j];rfl,_,rfl⟩
  ·have e:PG f m=[]:=if_pos h;rw[e,z14];exact⟨rfl,[],by rw[z0f,z14]⟩
 ·obtain⟨rfl,h5,tl,rfl⟩:=h2;cases e<;>simp only[rU] at h1;exact fin J' a' x' tl (h3.C9 h5) ((h4 2 (by simp)).trans hb)
theorem XF(k:Nat)(a:Act)(s:HS)(x:OW)(h:abD Fz cin cout tot k a s x):
  TW Try.prog false Fz (kH Try.prog Fz Φ cin cout j) bG Xj 20 LH (λe a' s' x'=>match e with
   | .normal=> ∃ k',k'<k/\abD Fz cin cout tot k' a' s' x'
   | .exit 0=>aks Fz cout tot a' s' x'
   |_=>False) a s x:=by
 obtain⟨ms,f,fl,r,A,cs,J,rfl,rfl,htot,hok,hlen,hmap,hT⟩:=h;cases ms with
 |nil=>
  have e:fl=tot:=by rw[<- htot];simp[uN]
  subst e;exact abE a x hT λa' s' x' h=>h
 |cons m ms=>
  obtain⟨hc,ht1,ht2,hok⟩:=hok;unfold LH;refine aX (jQ hT FH.au (by rfl) [1,4,5,10] [.raw (.chan (some cout)), .raw (.map (some r)), .vec 0 fl.length, .raw (.chan (some cin))] [.vec 32 3 (fl.map dW.aA)] ?_ λJ1 a1 x1 h1 _ o ho hd=> ?_)
  ·simp only[go_sem,seval]
  refine sQ.mono ?_ (ajg h1 ho hd rfl (by decide) Try.underlying116 aqu (aqs J1 m))
  rintro a2 s2 x2 ⟨rfl,h2⟩;refine Behind.C9 h2 FH.au (by rfl) [1,4,5,10,11,12] [.raw (.chan (some cout)), .raw (.map (some r)), .vec 0 fl.length, .raw (.chan (some cin)), .cu [mS m, .bool true], .bool true] [.vec 32 3 (fl.map dW.aA)] ?_ λε3 a3 x3 h3 _=> ?_
  ·simp only[go_sem,seval]
  refine aX (bM h3 FH.au (by rfl) [1,4,5,10,11] [.raw (.chan (some cout)), .raw (.map (some r)), .vec 0 fl.length, .raw (.chan (some cin)), .cu [mS m, .bool true]] [.vec 32 3 (fl.map dW.aA)] ?_ λε4 a4 x4 h4 _=> ?_)
  ·unfold agv;simp only[go_sem,seval]
  refine jL (aX (bM h4 FH.au (by rfl) [1,4,5,6,10] [.raw (.chan (some cout)), .raw (.map (some r)), .vec 0 fl.length, .ptr 1 [] 0, .raw (.chan (some cin))] [.vec 32 3 (fl.map dW.aA), .blk 68 (mS m)] ?_ λε5 a5 x5 h5 _=> ?_))
  ·unfold alO;unfold mS;simp only[go_sem,seval]
  refine aX (jQ h5 FH.au (by rfl) [1,4,5,6,10,14,17] [.raw (.chan (some cout)), .raw (.map (some r)), .vec 0 fl.length, .ptr 1 [] 0, .raw (.chan (some cin)), .raw (.map (some r)), .int .i64 m.e.obj] [.vec 32 3 (fl.map dW.aA), .blk 68 (mS m)] ?_ λε6 a6 x6 h6 _ o ho hd=> ?_)
  ·unfold mS;simp only[go_sem,seval]
  have hXr:XA r A cs r=some (kS A):=if_pos rfl;refine sQ.mono ?_ (ad9 h6 ho hd (by decide) Try.underlying118 Try.underlying3 aqv rfl rfl hXr)
  rintro a7 s7 x7 ⟨rfl,h7⟩;have atz:abD Fz cin cout tot ms.length=abD Fz cin cout tot ms.length:=rfl;cases hl:lookA A m.e.obj with
  |some b=>
   have hm:=XE hl;rw[hl] at h7;refine Behind.C9 h7 FH.au (by rfl) [1,4,5,6,7,10] [.raw (.chan (some cout)), .raw (.map (some r)), .vec 0 fl.length, .ptr 1 [] 0, .raw (.pointer (some ⟨b,0,none⟩)), .raw (.chan (some cin))] [.vec 32 3 (fl.map dW.aA), .blk 68 (mS m)] ?_ λε8 a8 x8 h8 _=> ?_
   ·simp only[go_sem,seval]
   have hbA:b∈A.map (·.2):=z0a.2 ⟨_,hm,rfl⟩;have hXb:XA r A cs b=some (.cells (cs b).toArray 152 (0,0)):=by unfold XA;rw[if_neg (λe:b=r=>hmap.r (e▸hbA)),if_pos (z0e.2 hbA)]
   have hval:a8.tmps.getD 7 undef= .pointer (some ⟨b,0,none⟩):=Ym (h8.s.sat 7);have h9:=h8.take hXb (agy (hmap.at' _ hm):ah (wu.aA (f m.e.obj)) ε8 (cs b));have hblk:=adJ (v:=undef) (r:=b) h8.g.good;have h10:=h9.know (k:=7) (by decide) (y:= .ptr 2 [] 0) ⟨[.pointer (some ⟨b,0,none⟩)],⟨by rw[h9.g.good.n];simp,trivial,by rw[show(2:Nat)=[ay.vec 32 3 (fl.map dW.aA), .blk 68 (mS m)].length from rfl,hblk]⟩,hval⟩
   have h11:=h10.C9 (ks:=[1,4,5,6,7,10]) (xs:=[.raw (.chan (some cout)), .raw (.map (some r)), .vec 0 fl.length, .ptr 1 [] 0, .ptr 2 [] 0, .raw (.chan (some cin))]) (by simp only[go_sem,seval])
   refine aX (aX (bM h11 FH.au (by rfl) [1,4,5,6,7,10,20] [.raw (.chan (some cout)), .raw (.map (some r)), .vec 0 fl.length, .ptr 1 [] 0, .ptr 2 [] 0, .raw (.chan (some cin)), .bool false] ([.vec 32 3 (fl.map dW.aA), .blk 68 (mS m)]++[.blk 152 (wu.aA (f m.e.obj))]) ?_ λasO a12 x12 h12 aqx=> ?_))
   ·unfold agw;simp only[go_sem,seval]
   refine Fg h12 (t:=false) rfl ?_;refine bM h12 FH.au (by rfl) [1,4,5,6,7,10] [.raw (.chan (some cout)), .raw (.map (some r)), .vec 0 fl.length, .ptr 1 [] 0, .ptr 2 [] 0, .raw (.chan (some cin))] ([.vec 32 3 (fl.map dW.aA), .blk 68 (mS m)]++[.blk 152 (wu.aA (f m.e.obj))]) ?_ λasP a13 x13 h13 aqy=> ?_
   ·simp only[go_sem,seval]
   refine EH a13 x13 htot hc ht1 ht2 hok (by simpa using hlen) hmap.ks hmap.bs hmap.r (λp hp _=>hmap.at' p hp) hmap.new hm ?_ (λp hp hne=> ?_) ?_ h13 λa' s' x' h=>⟨ms.length,by simp,h⟩
   ·have hrb:¬ r=b:=λe:r=b=>hmap.r (e▸hbA);simp only[if_neg hrb];exact hXr
   ·have hpA:p.2∈A.map (·.2):=z0a.2 ⟨_,hp,rfl⟩;simp only[if_neg hne];unfold XA;rw[if_neg (λe:p.2=r=>hmap.r (e▸hpA)),if_pos (z0e.2 hpA)]
   ·rw[aqy 2 (by simp),aqx 2 (by simp)]
    exact hblk
  |none=>
   have hn:=XD hl;rw[hl] at h7;refine Behind.C9 h7 FH.au (by rfl) [1,4,5,6,7,10] [.raw (.chan (some cout)), .raw (.map (some r)), .vec 0 fl.length, .ptr 1 [] 0, .lD, .raw (.chan (some cin))] [.vec 32 3 (fl.map dW.aA), .blk 68 (mS m)] ?_ λε8 a8 x8 h8 _=> ?_
   ·simp only[go_sem,seval]
   refine aX (aX (bM h8 FH.au (by rfl) [1,4,5,6,7,10,20] [.raw (.chan (some cout)), .raw (.map (some r)), .vec 0 fl.length, .ptr 1 [] 0, .lD, .raw (.chan (some cin)), .bool true] [.vec 32 3 (fl.map dW.aA), .blk 68 (mS m)] ?_ λasO a12 x12 h12 aqx=> ?_))
   ·unfold agw;simp only[go_sem,seval]
   refine Fg h12 (t:=true) rfl ?_;refine aX (bM h12 agA (by rfl) [1,4,5,6,7,10] [.raw (.chan (some cout)), .raw (.map (some r)), .vec 0 fl.length, .ptr 1 [] 0, .ptr 2 [] 0, .raw (.chan (some cin))] [.vec 32 3 (fl.map dW.aA), .blk 68 (mS m), .blk 152 (wu.aA fK)] ?_ λasP a13 x13 h13 aqy=> ?_)
   ·unfold alP;simp only[go_sem,seval,agz]
   refine jQ h13 FH.au (by rfl) [1,4,5,6,7,10,22,25,26] [.raw (.chan (some cout)), .raw (.map (some r)), .vec 0 fl.length, .ptr 1 [] 0, .ptr 2 [] 0, .raw (.chan (some cin)), .raw (.map (some r)), .int .i64 m.e.obj, .ptr 2 [] 0] [.vec 32 3 (fl.map dW.aA), .blk 68 (mS m), .blk 152 (wu.aA fK)] ?_ λagB a14 x14 VY au1 o ho hd=> ?_
   ·unfold mS;simp only[go_sem,seval]
   refine sQ.mono ?_ (ajj (b:=agB.blk 2) VY ho hd Try.underlying118 Try.underlying3 rfl rfl (λw hw=>(yL hw).2.2) hXr hl);rintro a15 s15 x15 ⟨rfl,h15⟩;have hnb:∀ p∈A,p.2≠agB.blk 2:=λp hp e=>by
    have hpA:p.2∈A.map (·.2):=z0a.2 ⟨_,hp,rfl⟩;have hXp:XA r A cs p.2=some (.cells (cs p.2).toArray 152 (0,0)):=by unfold XA;rw[if_neg (λe:p.2=r=>hmap.r (e▸hpA)),if_pos (z0e.2 hpA)]
    exact(VY.x _ _ hXp).2.2.2 2 (by rw[e];rfl)
   have hrb:¬ r=agB.blk 2:=λe=>(VY.x _ _ hXr).2.2.2 2 (by rw[e];rfl)
   refine Behind.C9 h15 FH.au (by rfl) [1,4,5,6,7,10] [.raw (.chan (some cout)), .raw (.map (some r)), .vec 0 fl.length, .ptr 1 [] 0, .ptr 2 [] 0, .raw (.chan (some cin))] [.vec 32 3 (fl.map dW.aA), .blk 68 (mS m), .blk 152 (wu.aA (f m.e.obj))] ?_ λau3 a16 x16 h16 hb16=> ?_
   ·simp only[go_sem,seval,hmap.new _ hn]
   refine EH (A:=A++[(m.e.obj,agB.blk 2)]) (b:=agB.blk 2) (cs:=cs) a16 x16 htot hc ht1 ht2 hok (by simpa using hlen) ?_ ?_ ?_ (λp hp hne=> ?_) (λv hv=> ?_) (by simp) (if_pos rfl) (λp hp hne=> ?_) (hb16 2 (by simp)) h16 λa' s' x' h=>⟨ms.length,by simp,h⟩
   ·rw[z0m];exact z0r.2 ⟨hmap.ks,by simp,λv hv u hu e=>by simp only[z04,z0f,z05] at hu;subst hu e;exact hn hv⟩
   ·rw[z0m];exact z0r.2 ⟨hmap.bs,by simp,λv hv u hu e=>by simp only[z04,z0f,z05] at hu;subst hu e;obtain⟨p,hp,e⟩:=z0a.1 hv;exact hnb p hp e⟩
   ·rw[z0m];intro h;rcases z0i.1 h with h|h
    ·exact hmap.r h
    ·simp only[z04,z0f,z05] at h;exact hrb h
   ·rcases z0i.1 hp with hp|hp
    ·exact hmap.at' p hp
    ·simp only[z05] at hp;subst hp;exact absurd rfl hne
   ·exact hmap.new v λh=>hv (by rw[z0m];exact z0i.2 (.inl h))
   ·rcases z0i.1 hp with hp|hp
    ·have hpA:p.2∈A.map (·.2):=z0a.2 ⟨_,hp,rfl⟩;have hpr:¬ p.2=r:=λe=>hmap.r (e▸hpA);simp only[if_neg hpr];unfold XA;rw[if_neg hpr,if_pos (z0e.2 hpA)]
    ·simp only[z05] at hp;subst hp;exact absurd rfl hne
def akt(fls:List Fl)(v:Value)(B:Nat->Prop)(w:World):Prop:= ∃ xs,w.ownsRow 0 32 3 v (fls.map dW.aA).length xs/\(∀ k,k< (fls.map dW.aA).length->ah ((fls.map dW.aA).getD k .junk) Env.nil (sub xs (k*3) 3))/\∀ b,B b↔v.ownBlock=some b
theorem agC{l:List Fl}{k:Nat}{J J':Env}{cs:List Value}(hk:k< (l.map dW.aA).length)(h:ah ((l.map dW.aA).getD k .junk) J cs):ah ((l.map dW.aA).getD k .junk) J' cs:=by
 have hk':k<l.length:=by simpa using hk
 have e:(l.map dW.aA).getD k .junk=dW.aA l[k]:=by simp[z0t,hk']
 rw[e] at h ⊢;exact FP _ ⟨trivial,trivial,trivial,trivial⟩ h
theorem TS.out{n:Nat}{d:List Deferred}{H0 X:Nat->Option Obj}{J:Env}{τ:Fr}{a:Act}{x:OW}{fls:List Fl}(h:TS Fz n d H0 X J τ [.vec 32 3 (fls.map dW.aA)] a x):akt fls (J.vv 0) (λb=>(J.vv 0).ownBlock=some b) x.w:=by obtain⟨xs,h1,h2⟩:=h.g.good.res 0;exact⟨xs,h1.get (by decide),λk hk=>agC hk (h2 k hk),λb=>Iff.rfl⟩
theorem abG{w:World}{ms:List Ms}(hF:∀ b,Fz b->b<w.heap.size)(hok:okH (λ_=>fK) ms)(hlen:ms.length<=1000)(hout:∀ v B w,akt (uN (λ_=>fK) ms) v B w->Φ.Out j v B w){dd:Deferred}(hd:dd.target= .fn (.func 20) #[])(ha:dd.args= #[.chan (some cin), .chan (some cout)]):
  Kv Try.prog Fz Φ cin cout j (ms.map mV) (born Try.prog dd) ⟨w,λ_=>False⟩:=by
 obtain⟨func,body,hf,hb,hc,hrs,hnt,hname,hnr,_⟩:=NW c20;refine QH hf hb hname hd ha ?_;have hres:func.results= #[]:=by apply z1i;simpa using hrs
 generalize hcs:[({(born Try.prog dd).frame with defers:=[]}:Frame)]=cs;rw[hnt];have hT:TS Fz 47 [] (λ_=>none) (λ_=>none) Env.nil (Sx.ig [0,1] [.raw (.chan (some cin)), .raw (.chan (some cout))] .nil) [] {tmps:= #[.chan (some cin), .chan (some cout)]++z0d (47 - #[Value.chan (some cin), .chan (some cout)].size) undef,defers:=[]} ⟨w,λ_=>False⟩:=by have hsa:bT [.raw (.chan (some cin)), .raw (.chan (some cout))] Env.nil [.chan (some cin), .chan (some cout)]:=⟨[.chan (some cin)],_,rfl,⟨rfl,rfl⟩,[.chan (some cout)],[],rfl,⟨rfl,rfl⟩,rfl⟩;exact⟨fP.none hF,⟨_,BA [.raw (.chan (some cin)), .raw (.chan (some cout))] 47 (by simp),mG hsa _⟩,rfl,λb o h=>(by cases h),λb o h=>(by cases h)⟩
 have hC:gq Try.prog bG Xj body=some j20.flat:=hc;unfold j20 at hC;obtain⟨p1,q1,rfl,g1,g2⟩:=yI hC;obtain⟨p2,q2,rfl,g3,g4⟩:=yI g2;obtain⟨p3,q3,rfl,g5,g6⟩:=yI g4;have hS:kH Try.prog Fz Φ cin cout j (.hears (ms.map mV))=fV Try.prog Fz Φ cin cout j (ms.map mV):=rfl;refine XG (fn:=20) (Q:=λe a' s' x'=>e= .normal/\s'= .hears (ms.map mV)/\∃ J r,TS Fz 47 [] (λ_=>none) (XA r [] λ_=>[]) J (Sx.ig [0,1,4] [.raw (.chan (some cin)), .raw (.chan (some cout)), .raw (.map (some r))] .nil) [] a' x') rfl (by simp[base0]) hS ?_ ?_ (λe a' s' x' hne h=>hne h.1)
 ·refine jQ hT FH.au (by rfl) [0,1] [.raw (.chan (some cin)), .raw (.chan (some cout))] [] ?_ (λJ1 a1 x1 h1 _ o ho hd=> ?_) p1 g1
  ·simp only[go_sem,seval]
  refine sQ.mono ?_ (ad8 h1 ho hd (by decide))
  rintro a2 s2 x2 ⟨rfl,r,_,h2⟩;refine Behind.C9 h2 FH.au (by rfl) [0,1,4] [.raw (.chan (some cin)), .raw (.chan (some cout)), .raw (.map (some r))] [] ?_ λε3 a3 x3 h3 _=>⟨rfl,rfl,ε3,r,h3.akZ λb o hb=> ?_⟩
  ·simp only[go_sem,seval]
  ·unfold XA at hb;split at hb
   ·rename_i e;rw[if_pos e];exact hb
   ·simp at hb
 rintro a1 s1 x1 ⟨_,rfl,J1,r,h1⟩;refine XG (fn:=20) (Q:=λe a' s' x'=>e= .normal/\s'= .hears (ms.map mV)/\∃ J,TS Fz 47 [] (λ_=>none) (XA r [] λ_=>[]) J (Sx.ig [0,1,4,5] [.raw (.chan (some cin)), .raw (.chan (some cout)), .raw (.map (some r)), .vec 0 0] .nil) [.vec 32 3 []] a' x') rfl (by simp[base0]) hS ?_ ?_ (λe a' s' x' hne h=>hne h.1)
 ·refine bM h1 FH.au (by rfl) [0,1,4,5] [.raw (.chan (some cin)), .raw (.chan (some cout)), .raw (.map (some r)), .dO] [] ?_ (λJ2 a2 x2 h2 _=>⟨rfl,rfl,J2.more 0 (.slice none 0 0),?_⟩) p2 g3
  ·unfold alN;simp only[go_sem,seval]
  have h3:=h2.vec (T:=32) (w:=3) (l:=[]) (v:= .slice none 0 0) (xs:=[]) ⟨rfl, .inl ⟨rfl,rfl⟩⟩ (λj hj=>absurd hj (z16 _)) (λb hb=>by cases hb)
  have hval:a2.tmps.getD 5 undef= .slice none 0 0:=lY (h2.s.sat 5);have h4:=h3.know (k:=5) (by decide) (y:= .vec 0 0) ⟨[.slice none 0 0],⟨by rw[h3.g.good.n];simp, .inl ⟨by simp[Env.more,h2.g.good.n],rfl⟩,by simp[Env.more,h2.g.good.n]⟩,hval⟩
  exact h4.C9 (by simp only[go_sem,seval])
 rintro a2 s2 x2 ⟨_,rfl,J2,h2⟩;refine XG (fn:=20) (Q:=λe a' s' x'=>e= .normal/\aks Fz cout (uN (λ_=>fK) ms) a' s' x') rfl (by simp[base0]) hS ?_ ?_ (λe a' s' x' hne h=>hne h.1)
 ·have h0:TW Try.prog false Fz (kH Try.prog Fz Φ cin cout j) bG Xj 20 (.seq (.jc agu) (.block 0 (.loop LH))) (λe a' s' x'=>e= .normal/\aks Fz cout (uN (λ_=>fK) ms) a' s' x') a2 (.hears (ms.map mV)) x2:=by
   refine aX (bM h2 FH.au (by rfl) [1,4,5,10] [.raw (.chan (some cout)), .raw (.map (some r)), .vec 0 0, .raw (.chan (some cin))] [.vec 32 3 []] ?_ (λε3 a3 x3 h3 _=> ?_))
   ·unfold agu;simp only[go_sem,seval]
   refine jL (A8 (λk a s x=>abD Fz cin cout (uN (λ_=>fK) ms) k a s x) ms.length ?_ λk a s x hI=>(XF k a s x hI).mono λe a' s' x' hh=> ?_)
   ·exact⟨ms,λ_=>fK,[],r,[],λ_=>[],ε3,rfl,rfl,rfl,hok,by simpa using hlen,⟨z1s,z1s,by simp,λp hp=>(by cases hp),λ_ _=>rfl⟩,h3⟩
   ·cases e with
    |normal=>exact hh
    |exit i=>
     cases i with
     |zero=>exact⟨rfl,hh⟩
     |succ i=>exact hh.elim
    |ret=>exact hh.elim
    |goto l=>exact hh.elim
    |panic c=>exact hh.elim
    |outgrown=>exact hh.elim
  exact h0 p3 g5
 rintro a3 s3 x3 ⟨_,X3,ε3,rfl,h3⟩;refine h3.last (fn:=20) FH.au g6 (by rfl) [45,46] [.raw (.chan (some cout)), .vec 0 (uN (λ_=>fK) ms).length] [.vec 32 3 ((uN (λ_=>fK) ms).map dW.aA)] ?_ rfl (by simp[base0]) λε4 a4 x4 h4 ops i o hoi hw ho hd=> ?_
 ·simp only[go_sem,seval]
 obtain⟨y,z,e1,e2,e3⟩:=Il ho;have hv:a4.eval z=ε4.vv 0:=by have:=h4.opd e3;exact(kF this).2.2
 refine adZ (o:=o) (GN e1 (h4.raw e2 rfl) hv) (B:=λb=>(ε4.vv 0).ownBlock=some b) (λb hb=>h4.g.own 0 b hb) (λw1 hr=>hout _ _ _ (TS.out (h4.rely hr))) (by simp[base0]) hoi hw ⟨4,?_⟩
 rw[<- hcs];exact Vy hf hres (by rw[put_defers];exact h4.d)
end
end Go.Proofs.Ytpajfggdnobheaa.Sp
end
namespace Go.Sx
open Go Go.Conc
section
variable {P:Program} {main:Bool} {F:Nat->Prop} {ι:Type _} {S:J9 ι} {quiet tf:FuncId->Bool} {fn:FuncId} {n:Nat} {d:List Deferred} {H0 X:Nat->Option Obj} {J:Env} {τ:Fr} {m:List ay} {a:Act} {x:OW} {s:ι} {Q:Exit->Act->ι->OW->Prop}
theorem XB{c:Code}{pre:List dP}{so:StO}(h:gq P quiet tf c=some (.Q7 pre so)):∃ id ops o aT,c= .region id ops true/\ops.back? =some o/\(eu ops).toList.mapM (pK P (uI quiet) (eu ops))=some aT/\dV tf o.op=some so/\o.guard=none/\o.dst=none/\
  chk (eu ops).toList aT=true/\Fv (eu ops).toList=true/\P.follows .mixedOrders=true/\pre=aug (eu ops).toList aT:=by
 cases c<;>simp only[gq] at h
 case region id ops draw=>
  split at h
  ·split at h
   ·rename_i hd;subst hd;unfold YI at h;split at h<;>try (cases h;done)
    rename_i o ho;split at h<;>try (cases h;done)
    rename_i aT so' e1 e2 e3 e4;split at h<;>try (cases h;done)
    rename_i hc;simp only[z0g] at hc;cases h;exact⟨id,ops,o,aT,rfl,ho,e1,e2,e3,e4,hc.1.1,hc.1.2,hc.2,rfl⟩
   ·obtain⟨a,d,s,b,e⟩:=rY h;cases e
  ·obtain⟨x,h1,h2⟩:=z00.1 h;cases h2
 all_goals first
  |(obtain⟨x,h1,h2⟩:=z00.1 h;cases h2;done)
  |(split at h
    ·first
     |(split at h<;>first|cases h|(obtain⟨a,s,e⟩:=mF h;cases e)|(obtain⟨a,d,s,b,e⟩:=rY h;cases e))
     |(obtain⟨x,h1,h2⟩:=z00.1 h;cases h2)
    ·obtain⟨x,h1,h2⟩:=z00.1 h;cases h2)
theorem akp{ops:Array Oper}{o:Oper}(h:ops.back? =some o):(eu ops).size=ops.size/\0<ops.size/\ops[ops.size - 1]? =some o/\(eu ops)[ops.size - 1]? =some (dummy o)/\∀ j,j≠ops.size - 1->(eu ops)[j]? =ops[j]? :=by
 have h0:0<ops.size:=by
  rcases Nat.eq_zero_or_pos ops.size with e|e
  ·have:ops= #[]:=Array.size_eq_zero_iff.1 e;subst this;cases h
  ·exact e
 have hb:ops[ops.size - 1]? =some o:=by rw[<- h];exact(Array.back?_eq_getElem? ..).symm
 have e:eu ops=ops.pop.push (dummy o):=by unfold eu;rw[h]
 refine⟨by rw[e];simp;omega,h0,hb,?_,λj hj=> ?_⟩
 ·rw[e,z1h];simp
 ·rw[e,z1h];by_cases hj2:j<ops.size - 1
  ·rw[if_neg (by simp;omega)]
   simp[hj2]
  ·rw[if_neg (by simp;omega)]
   rw[z0v (by simp;omega),z0v (by omega)]
theorem akq{Γ:Hook}(hΓ:iI P main F Γ){ops:Array Oper}{o:Oper}(hb:ops.back? =some o)(hg:o.guard=none)(hdst:o.dst=none){quiet:FuncId->Bool}{aT:List dP}{σ:List SV}{V:Nat->SV}{M:Nat->List ay}(pl:Plan P main F quiet (eu ops) aT σ V M)(hl:Fv (eu ops).toList=true){ρ:Root}{d:List Deferred}
  (hop:∀ J a w,dh F ρ J (M aT.length) w->aH J (ov (λ_=>true) V aT 0 σ) a->a.defers=d->sQ P main F S fn o a (λa2 s2 x2=>Q .normal a2 s2 x2) s w):
  ∀ (fuel:Nat) (listed:Array Bool) (a:Act) (w:OW) (t:Nat),listed.size=ops.size->listed.toList.count false<=fuel->lst listed (ops.size - 1)=false->Closed (eu ops).toList (lst listed)->
   (∃ J,dh F ρ J (M (top aT (lst listed) aT.length)) w/\aH J (ov (lst listed) V aT 0 σ) a/\a.defers=d)->OY P main F S fn ops (Region.linearise.go .any ops fuel t listed []) Q a s w:=by
 obtain⟨d1,d2,d3,d4,d5⟩:=akp hb;have hafter:∀ (j:Nat) (o1 o2:Oper),ops[j]? =some o1->(eu ops)[j]? =some o2->o2.after=o1.after/\o2.dst=o1.dst/\o2.guard=o1.guard:=by
  intro j o1 o2 h1 h2;by_cases e:j=ops.size - 1
  ·subst e;rw[d3] at h1;cases h1;rw[d4] at h2;cases h2;exact⟨rfl,hdst.symm,hg.symm⟩
  ·rw[d5 j e,h1] at h2;cases h2;exact⟨rfl,rfl,rfl⟩
 have agd:∀ (j:Nat) (o1:Oper),ops[j]? =some o1->∃ o2,(eu ops)[j]? =some o2:=λj o1 h1=>by
  have:j< (eu ops).size:=by rw[d1];exact(z01.1 h1).1
  exact⟨_,z0p this⟩
 have aot:∀ (tm:Array Value),yielded (eu ops) tm=yielded ops tm:=by
  intro tm
  funext j
  unfold yielded;have:((eu ops)[j]?).bind (·.dst)=(ops[j]?).bind (·.dst):=by
   cases h1:ops[j]? with
   |none=>
    have:(eu ops)[j]? =none:=z0v (by rw[d1];exact Array.getElem?_eq_none_iff.1 h1)
    rw[this]
   |some o1=>
    obtain⟨o2,h2⟩:=agd j o1 h1;rw[h2];exact(hafter j o1 o2 h1 h2).2.1
  rw[this]
 have hlen:aT.length=ops.size:=by rw[pl.len,d1]
 intro fuel
 induction fuel with
 |zero=>
  intro listed a w t hsz hc hlast hcl hJ;exfalso;have hlt:ops.size - 1<listed.size:=by omega
  have:false∈listed.toList:=by
   have h1:listed.toList[ops.size - 1]? =some false:=by simp only[lst,z0o] at hlast;simp[hlt] at hlast ⊢;exact hlast
   exact z0x h1
  have:=List.count_pos_iff.2 this;omega
 |succ fuel ih=>
  intro listed a w t hsz hc hlast hcl hJ;simp only[Region.linearise.go];change OY P main F S fn ops (match (Region.ready .any ops listed)[t%(Region.ready .any ops listed).length]? with
   |some i=>Region.linearise.go .any ops fuel (t/(Region.ready .any ops listed).length) (listed.setIfInBounds i true) [i]
   |none=>[].reverse) Q a s w
  cases hi:(Region.ready .any ops listed)[t%(Region.ready .any ops listed).length]? with
  |none=>
   exfalso;have hnil:Region.ready .any ops listed=[]:=by
    cases hr:Region.ready .any ops listed with
    |nil=>rfl
    |cons y ys=>
     rw[hr] at hi;have hlt:t%(y::ys).length< (y::ys).length:=Nat.mod_lt _ (by simp)
     simp at hi;simp at hlt;omega
   have:=Tf hsz (λi o1 h1=>by
    have h1:ops[i]? =some o1:=by simpa using h1
    obtain⟨o2,h2⟩:=agd i o1 h1;rw[<- (hafter i o1 o2 h1 h2).1];exact(OZ pl.chk).1 i o2 (by simpa using h2)) hnil (ops.size - 1) (by omega)
   rw[hlast] at this;cases this
  |some i=>
   simp only[];rw[linearise_go_acc,List.reverse_singleton,List.singleton_append];have hm:=z0x hi;obtain⟨h0,o1,ho1,hall⟩:=mem_ready.1 hm;have hlt:i<ops.size:=(z01.1 ho1).1;obtain⟨o2,ho2⟩:=agd i o1 ho1;obtain⟨a1,a2,a3⟩:=hafter i o1 o2 ho1 ho2;rw[uH (by omega)] at h0
   obtain⟨J,h1,h2,h3⟩:=hJ;have hl0:listed.toList[i]? =some false:=by
    have:i<listed.size:=by omega
    simp only[z0o] at h0;simp[this] at h0 ⊢;exact h0
   by_cases e:i=ops.size - 1
   ·-- the stop:all else is done
    subst e;rw[d3] at ho1;cases ho1;rw[d4] at ho2;cases ho2;have hdone:∀ j,j<ops.size->j≠ops.size - 1->lst listed j=true:=by
     intro j hj hne;have hdl:(eu ops).toList.length=ops.size:=by rw[z07,d1]
     unfold Fv at hl;rw[hdl] at hl;split at hl
     ·rename_i k hk;have hb':=List.all_eq_true.1 hl j (by simp;omega)
      refine FC hcl (eu ops).toList [] (λi=>by simp) (λi o h hlt=>absurd hlt (z16 _)) (ops.size - 1) (dummy o) (by simpa using d4) (by simp only[z1q,z0h];omega) hall j ?_
      rw[z0t,hk];exact hb'
     ·cases hl
    have e1:top aT (lst listed) aT.length=top aT (λ_=>true) aT.length:=uo _ λk hk he=>by
     by_cases hke:k=ops.size - 1
     ·exfalso;subst hke;have mQ:aT[ops.size - 1]? =some (aT[ops.size - 1]'(by omega)):=by simp[show ops.size - 1<aT.length by omega]
      rw[mQ] at he;obtain⟨_,_,x0,hx0,hx1⟩:=pl.cmp _ _ _ d4 mQ;have:x0= .p (.mv (.c (.bool true))):=by simp[Ih,dummy,eF,aP,ajX] at hx0;exact hx0.symm
      subst this;simp only[z1k,Option.getD_some] at he;rw[hx1] at he;simp[eG,zf.eff] at he
     ·exact hdone k (by omega) hke
    have e2:ov (lst listed) V aT 0 σ=ov (λ_=>true) V aT 0 σ:=by
     have key:∀ (l:List dP) (k:Nat) (σ:List SV),(∀ j io,l[j]? =some io->(lst listed (k+j)=true\/io.dst=none))->ov (lst listed) V l k σ=ov (λ_=>true) V l k σ:=by
      intro l
      induction l with
      |nil=>intros;rfl
      |cons io l ihl=>
       intro k σ hh;simp only[ov];have ht:=ihl (k+1);rcases hh 0 io rfl with h|h
       ·rw[Nat.add_zero] at h;rw[h];exact ht _ λj BI hj=>by
         have:=hh (j+1) BI (by simpa using hj)
         rw[show k+(j+1)=k+1+j by omega] at this
         exact this
       ·have hp:∀ sv (σ:List SV),gV io.dst sv σ=σ:=λsv σ=>by rw[h];rfl
        simp only[hp,ite_self];exact ht _ λj BI hj=>by
         have:=hh (j+1) BI (by simpa using hj)
         rw[show k+(j+1)=k+1+j by omega] at this
         exact this
     refine key aT 0 σ λj io hj=> ?_;rw[z0h];by_cases hje:j=ops.size - 1
     ·right;subst hje;exact(pl.cmp _ _ _ d4 hj).1.trans (by rfl)
     ·left;exact hdone j (by have:=(z06.1 hj).1;omega) hje
    rw[e1,<- pl.Y5 _ (z0c _)] at h1;rw[e2] at h2;refine O1 d3 (by simp[Region.wanted,hg]) ((hop J a w h1 h2 h3).mono λa2 s2 x2 hq=> ?_)
    have hrest:Region.linearise.go .any ops fuel (t/(Region.ready .any ops listed).length) (listed.setIfInBounds (ops.size - 1) true) []=[]:=by
     cases fuel with
     |zero=>rfl
     |succ fuel=>
      simp only[Region.linearise.go];have hr:Region.ready .any ops (listed.setIfInBounds (ops.size - 1) true)=[]:=by
       cases hr:Region.ready .any ops (listed.setIfInBounds (ops.size - 1) true) with
       |nil=>rfl
       |cons y ys=>
        exfalso;have hy:y∈Region.ready .any ops (listed.setIfInBounds (ops.size - 1) true):=by rw[hr];simp
        obtain⟨h4,o3,h5,_⟩:=mem_ready.1 hy;have hylt:y<ops.size:=(z01.1 h5).1;rw[uH (by simp;omega)] at h4
        have h6:lst (listed.setIfInBounds (ops.size - 1) true) y=false:=h4;rw[rM (by omega)] at h6
        simp only[upd,z1g,decide_eq_false_iff_not] at h6;rw[hdone y hylt h6.2] at h6;cases h6.1
      change (match (Region.ready .any ops (listed.setIfInBounds (ops.size - 1) true))[_%(Region.ready .any ops (listed.setIfInBounds (ops.size - 1) true)).length]? with
       |some i=>_
       |none=>[].reverse)=[]
      rw[hr];rfl
    rw[hrest];exact Tj hq
   ·have asK:o2=o1:=by rw[d5 i e,ho1] at ho2;exact(z0u ho2).symm
    subst asK;have hstep:=Plan.step_ok (fn:=fn) hΓ pl hcl ho2 h0 (by rw[a1];exact hall) h1 h2
    have key:∀ a' w',(∃ J',dh F ρ J' (M (top aT (upd (lst listed) i) aT.length)) w'/\aH J' (ov (upd (lst listed) i) V aT 0 σ) a'/\∃ v,a'=a.put o2.dst v)->OY P main F S fn ops (Region.linearise.go .any ops fuel (t/(Region.ready .any ops listed).length) (listed.setIfInBounds i true) []) Q a' s w':=by
     rintro a' w' ⟨J',k1,k2,v',rfl⟩;refine ih _ _ w' _ (by simpa using hsz) ?_ ?_ ?_ ?_
     ·have:=count_set hl0;rw[z18];omega
     ·rw[rM (by omega)]
      simp only[upd,hlast,Bool.false_or,decide_eq_false_iff_not];exact λh=>e h.symm
     ·rw[rM (by omega)]
      exact hcl.upd (by simpa using ho2) (by rw[a1];exact hall)
     ·rw[rM (by omega)]
      exact⟨J',k1,k2,by rw[put_defers];exact h3⟩
    unfold EM at hstep;rw[ho2] at hstep;simp only at hstep;rw[aot] at hstep;split at hstep
    ·rename_i hw;exact O1 ho1 hw (CB.t (hstep.mono key))
    ·rename_i hw;exact LG ho1 (by simpa using hw) (key _ _ hstep)
theorem akr(h:TS F n d H0 X J τ m a x){Γ:FH}(hΓ:bQ P main F Γ){pre:SL}{so:StO}(hw:pre.wf n=true)(ks:List Nat)(xs:List SV)(M':List ay)(hk:pre.wp Γ true (Ny ks xs M') τ m)
  (hop:∀ J' a' x',TS F n d H0 X J' (ig ks xs .nil) M' a' x'->(∀ i,i<m.length->J'.blk i=J.blk i)->∀ o:Oper,dV tf o.op=some so->o.dst=none->sQ P main F S fn o a' (λa2 s2 x2=>Q .normal a2 s2 x2) s x'):
  TW P main F S quiet tf fn (.Q7 pre so) Q a s x:=λc hc=>by
 obtain⟨id,ops,o,aT,rfl,hb,hmap,hso,hg,hdst,asL,hl,hmx,hpre⟩:=XB hc;intro b k cs hbf hbk hcont;refine .go rfl λw1 h1=> ?_;rw[stepG_region_draw];refine⟨⟨rfl,rfl,rfl,z0c _,λ_ _ _=>rfl,λe h=>by simp at h⟩,?_⟩
 have e:OW.next x.O w1 {w1 with drawn:=w1.drawn+1}=⟨{w1 with drawn:=w1.drawn+1},x.O⟩:=by
  unfold OW.next
  congr 1
  funext c
  exact propext ⟨λh=>h.elim (λh=>h) λh=>absurd h.1 (by show ¬ (w1.heap.size<=c);have:=h.2;simp at this;omega), .inl⟩
 rw[e];have hT:TS F n d H0 X J τ m a ⟨{w1 with drawn:=w1.drawn+1},x.O⟩:=(h.rely h1).rely ⟨rfl,rfl,rfl,z0c _,λ_ _=>rfl⟩;generalize ({w1 with drawn:=w1.drawn+1}:World)=w2 at hT ⊢;obtain⟨σ,s1,s2⟩:=hT.s;have kk:=vV pre τ σ m (Ny ks xs M') (λσ' m'=> ∃ τ',Rep n σ' τ'/\Ny ks xs M' τ' m') hw s1 hk (λσ' τ' m' hr hq=>⟨τ',hr,hq⟩);have kk:iY _ (pre.flat none) _ σ m:=kk;rw[hpre] at kk;obtain⟨ts,σe,me,hK,htr⟩:=Sr hΓ.hook (rs:=xP (eu ops).toList aT) (BX _ _) (eu ops).toList aT σ m _ 0 hmap kk;have hlen:aT.length=(eu ops).size:=by rw[mapM_len hmap];simp
 obtain⟨V,hV⟩:∃ V:Nat->SV,∀ k,V k=(ts[k]?.map Prod.fst).getD SV.junk:=⟨_,λ_=>rfl⟩;obtain⟨M,hM0,hM⟩:∃ M:Nat->List ay,M 0=m/\∀ k,M (k+1)=(ts[k]?.map Prod.snd).getD m:=⟨λk=>Nat.casesOn k m λk=>(ts[k]?.map Prod.snd).getD m,rfl,λ_=>rfl⟩;obtain⟨t1,t2,t3⟩:=afz (V:=V) (M:=M) ((eu ops).toList.zip aT) 0 σ m ts σe me htr hM0 (λj t ht=>by rw[z0h,hV,hM];simp[ht])
 have hzl:((eu ops).toList.zip aT).length=aT.length:=by simp[hlen]
 have hzm:((eu ops).toList.zip aT).map (·.2)=aT:=by rw[List.map_snd_zip];simp[hlen]
 rw[hzm] at t1 t2;have pl:Plan P main F (uI quiet) (eu ops) aT σ V M:=by
  refine⟨hlen,λi o io ho mQ=> ?_,λi o io ho mQ=> ?_,asL,λj hj c hc'=> ?_⟩
  ·have:=(mapM_at hmap i).1;have ho':(eu ops).toList[i]? =some o:=by simpa using ho
   rw[ho',mQ] at this;simp only[Option.bind_some,pK,z00] at this;obtain⟨PK,h0,rfl⟩:=this;simp only[iV] at h0;split at h0<;>try (cases h0;done)
   rename_i g x hg hx;simp only[z0b] at h0;subst h0;exact⟨rfl,hg,x,hx,rfl⟩
  ·have:=t1 i o io (by
    have ho':(eu ops).toList[i]? =some o:=by simpa using ho
    rw[z1a];exact⟨ho',mQ⟩)
   rw[z0h] at this;exact this.1
  ·have ho':(eu ops).toList[j]? =some ((eu ops)[j]'(by rw[<- hlen];exact hj)):=by simp
   have mQ:aT[j]? =some aT[j]:=by simp[hj]
   have:=(t1 j _ _ (by rw[z1a];exact⟨ho',mQ⟩)).2
   rw[z0h] at this;exact this c hc'
 have hno:∀ j,lst (z0d ops.size false) j=false:=by intro j;simp only[lst,z0o,Array.getElem?_replicate];split<;>rfl
 have asM:∀ t,Region.schedule (P.follows .mixedOrders) ops t=Region.linearise.go .any ops ops.size t (z0d ops.size false) []:=λt=>by simp only[Region.schedule,hmx,Bool.true_or,if_true];rfl
 rw[asM];refine akq (Q:=Q) (s:=s) (S:=S) hΓ.hook hb hg hdst pl hl (ρ:= .at J m ⟨w2,x.O⟩) (d:=d) (λJ' a' w' k1 k2 k3=> ?_) ops.size _ a _ _ (by simp) (by simp) (hno _) (λi o _ hi=>by rw[hno] at hi;cases hi) ?_ b k cs hbf hbk hcont
 ·rw[hzl,z0h] at t3;obtain⟨τ',hr,hq⟩:=hK;have k1':dh F (.at J m ⟨w2,x.O⟩) J' me w':=by rw[t3];exact k1
  rw[<- t2] at k2;obtain⟨g1,rfl⟩:=hq;exact hop J' a' w' (TS.C9 ⟨k1'.Ea,⟨_,hr,k2⟩,k3,hT.x.step hT.g k1',λb o hb=>k1'.inv.kept.H b o (h.h b o hb)⟩ g1) (λi hi=>k1'.inv.blk i (by rw[show((Root.at J m ⟨w2,x.O⟩).base F w').J.n=J.n from rfl,h.g.good.n];exact hi)) o hso hdst
 ·have e1:top aT (lst (z0d ops.size false)) aT.length=0:=by rw[BK (i:=0) _ (Nat.zero_le _) (λk _ _ _=>hno k)];rfl
  rw[e1,mJ _ _ _ (λj _=>hno _),hM0];exact⟨J,hT.inv,s2,hT.d⟩
end
end Go.Sx
namespace Go.Sx
open Go Go.Conc
section
variable {P:Program} {F:Nat->Prop} {Φ:Gl} {End:List Nat->Goroutine->OW->Prop} {tf:FuncId->Bool} {fn:FuncId} {n:Nat} {d:List Deferred} {H0 X:Nat->Option Obj} {J:Env} {τ:Fr} {m:List ay} {a:Act} {x:OW} {o:Oper} {l:List fB} {cs got:List Nat}
theorem alx(h:TS F n d H0 X J τ m a x){T e:TypeId}{dir:ChanDir}{i:TypeInfo}{y:aV}{t cap:Nat}(ho:dV tf o.op=some (.mk T y))(hd:o.dst=some t)(ht:t<n)(hT:P.underlying T=some (.chan dir e))(hi:P.info? e=some i)(hy:y.fv τ= .int .i64 cap)
  (h63:(cap:Int)<=9223372036854775807) (hb:(i.bytes:Int)*cap<=281474976710544):
  sQ P true F (dL P F Φ End) fn o a (λa2 s2 x2=> ∃ c,s2=⟨l,cs++[c],got⟩/\TS F n d H0 X J (.put t (.raw (.chan (some c))) τ) m a2 x2) ⟨.mk cap::l,cs,got⟩ x:=by
 obtain⟨z,h1,h2⟩:=aez ho;have hz:=h.int h2 hy;have hr:∀ w,(execOp a.eval o).run P w= .ok (.value (.chan (some w.heap.size))) (w.alloc (.chan cap #[] false 0 0 false))/\(execOp a.eval o).events P w #[]= #[]:=λw=>by unfold execOp;simp only[h1];have k1:=run_makeChan (P:=P) (w:=w) hT hi .i64 cap h63 hb;have k2:=events_makeChan (P:=P) (w:=w) hT hi .i64 cap h63 hb #[];exact⟨by simp[hz,k1],by simp[hz,k2]⟩
 refine amY hr λw1 h3=>⟨w1.heap.size,rfl,?_⟩;rw[hd];have hsz:(w1.alloc (.chan cap #[] false 0 0 false)).heap.size=w1.heap.size+1:=by simp
 have h4:=h.rely h3;have hrel:Rel x.O F w1 (w1.alloc (.chan cap #[] false 0 0 false)):=⟨rfl,rfl,rfl,by rw[hsz];omega,λb hb=>Go.RowKit.Below.heap_alloc w1 _ b (hb.elim (h4.g.Ol b) (h4.g.Fl b))⟩
 exact(h4.rely hrel).put ht (VP rfl)
theorem aqe(h:TS F n d H0 X J τ m a x){f:FuncId}{ys:List aV}{j cin cout:Nat}(ho:dV tf o.op=some (.go f ys))(hd:o.dst=none)(hy:ys.map (aV.fv τ)=[.raw (.chan (some cin)), .raw (.chan (some cout))])
  (h1:cs[j+1]? =some cin) (h0:cs[0]? =some cout) (hch:∀ w1,Rel x.O F x.w w1->∀ dd:Deferred,dd.target= .fn (.func f) #[]->dd.args= #[.chan (some cin), .chan (some cout)]->Kv P F Φ cin cout j (Φ.msgs j) (born P dd) ⟨w1,λ_=>False⟩):
  sQ P true F (dL P F Φ End) fn o a (λa2 s2 x2=>s2=⟨l,cs,got⟩/\TS F n d H0 X J τ m a2 x2) ⟨.go j::l,cs,got⟩ x:=by
 obtain⟨c,e1,e2,e3⟩:=aey ho;have hargs:c.args.toList.map a.eval=[.chan (some cin), .chan (some cout)]:=by
  have:=h.anA e3 (by rw[hy];rfl)
  rw[hy] at this;obtain⟨cs1,t1,q1,q2,cs2,t2,q3,q4,q5⟩:=this;obtain⟨_,rfl⟩:=q2;obtain⟨_,rfl⟩:=q4;simp only[bT] at q5;subst q5 q3;exact q1
 have hargs':c.args.map a.eval= #[.chan (some cin), .chan (some cout)]:=by apply z1i;simpa using hargs
 have hr:∀ w,(execOp a.eval o).run P w= .ok (.spawn {target:= .fn (.func f) #[],args:= #[.chan (some cin), .chan (some cout)]}) w/\(execOp a.eval o).events P w #[]= #[]:=λw=>by unfold execOp;simp only[e1];have hf:a.eval (.func f)= .func (.func f) #[] #[]:=rfl;exact⟨by simp[resolve,e2,Deferred.ofValue,hf,hargs'],by simp[resolve,e2,Deferred.ofValue,hf,hargs']⟩
 refine amZ hr rfl (λw1 h3=>⟨cin,cout,h1,h0,hch w1 h3 _ rfl rfl⟩) λw1 h3=>⟨rfl,?_⟩;rw[hd];exact h.rely h3
theorem aob(h:TS F n d H0 X J τ m a x){p q:aV}{j c:Nat}{v:Value}(ho:dV tf o.op=some (.send p q))(hd:o.dst=none)(hp:p.fv τ= .raw (.chan (some c)))(hc:cs[j+1]? =some c)(hq:∀ w,bK J (q.fv τ) w->w=v):
  sQ P true F (dL P F Φ End) fn o a (λa2 s2 x2=>s2=⟨l,cs,got⟩/\TS F n d H0 X J τ m a2 x2) ⟨.send j v::l,cs,got⟩ x:=by
 obtain⟨y,z,e1,e2,e3⟩:=Il ho;refine ajb hc (GN e1 (h.raw e2 hp) (hq _ (h.opd e3))) λw1 h3=>⟨rfl,?_⟩;rw[hd];exact h.rely h3
theorem afD(h:TS F n d H0 X J τ m a x){p:aV}{j c:Nat}(ho:dV tf o.op=some (.close p))(hd:o.dst=none)(hp:p.fv τ= .raw (.chan (some c)))(hc:cs[j+1]? =some c)(hq:(P.funcs[fn]?).any (·.norace)=false):
  sQ P true F (dL P F Φ End) fn o a (λa2 s2 x2=>s2=⟨l,cs,got⟩/\TS F n d H0 X J τ m a2 x2) ⟨.close j::l,cs,got⟩ x:=by
 obtain⟨y,ats,e1,e2⟩:=Rh ho;refine aaW hc e1 (h.raw e2 hp) hq λw1 h3=>⟨rfl,?_⟩;rw[hd];exact h.rely h3
theorem aj6(h:TS F n d H0 X J τ m a x){T e:TypeId}{dir:ChanDir}{p:aV}{t c:Nat}{z:Value}(ho:dV tf o.op=some (.recv T p false))(hd:o.dst=some t)(ht:t<n)(hp:p.fv τ= .raw (.chan (some c)))(hc:cs[0]? =some c)(hT:P.underlying T=some (.chan dir e))(hz:∀ w,(zeroValue e).run P w= .ok z w)
  {K:SV->List ay->Nat->Prop} (hK:∀ (x':OW) (v:Value) (j:Nat) (B:Nat->Prop),j<Φ.n->j∉got->Φ.Out j v B x'.w->(∀ b,B b->x'.O b)->(∀ b,B b->J.H b=none/\X b=none/\∀ i,aS J i (ak m i)≠some b)->TS F n d H0 X J τ m a x'->∃ (J':Env) (y:SV) (m':List ay),K y m' j/\TS F n d H0 X J' τ m' a x'/\bK J' y v):
  sQ P true F (dL P F Φ End) fn o a (λa2 s2 x2=> ∃ j J' y m',j<Φ.n/\j∉got/\K y m' j/\s2=⟨l,cs,got++[j]⟩/\TS F n d H0 X J' (.put t y τ) m' a2 x2) ⟨.recv::l,cs,got⟩ x:=by
 obtain⟨y,e1,e2⟩:=zL ho;refine ad1 hc (zI e1 (h.raw e2 hp) hT hz λw=>events_zeroValue P w #[] e) λw1 h1 v j B w' k1 k2 k3 k4 k5=> ?_;have h2:=(h.rely h1).rely k4;have h3:=h2.more (O':=λb=>x.O b\/B b) (λb hb=> .inl hb) (λb hb=>hb.elim (h2.g.Ol b) λhb=>(k5 b hb).1);have side:∀ b,B b->J.H b=none/\X b=none/\∀ i,aS J i (ak m i)≠some b:=λb hb=>by
  refine⟨?_,?_,λi hi=>(k5 b hb).2.1 (h2.g.own i b hi)⟩
  ·cases hh:J.H b with
   |none=>rfl
   |some o'=>exact((h2.g.H b o' hh).elim (k5 b hb).2.1 (k5 b hb).2.2).elim
  ·cases hh:X b with
   |none=>rfl
   |some o'=>exact((k5 b hb).2.1 (h2.x b o' hh).2.1).elim
 obtain⟨J',y',m',g1,g2,g3⟩:=hK ⟨w',λb=>x.O b\/B b⟩ v j B k1 k2 k3 (λb hb=> .inr hb) side h3;refine⟨j,J',y',m',k1,k2,g1,rfl,?_⟩;rw[hd];exact g2.put ht g3
end
section
variable {P:Program} {main:Bool} {F:Nat->Prop} {ι:Type _} {S:J9 ι} {quiet tf:FuncId->Bool} {fn:FuncId}
def sS(P:Program)(main:Bool)(F:Nat->Prop)(S:J9 ι)(f:FuncId)(args:Array Value)(s:ι)(x:OW)(R:Value->ι->OW->Prop):Prop:=
 ∀ (cs:List Frame),(∀ v s' x' fr,R v s' x'->fr.fn=f->fr.mode= .returning->fr.defers=[]->fr.kind= .normal->
   (∃ fn,P.funcs[f]? =some fn/\∀ w1,Rel x'.O F x'.w w1->(results fn fr.tmps).run P w1= .ok v w1/\∀ e∈(results fn fr.tmps).events P w1 #[],Iq x'.O F w1.heap.size w1.heap.size e)->Co P main F (S s') (G fr cs) x')->
  Co P main F (S s) (G (Frame.enter P f args .normal) cs) x
theorem afE{o:Oper}{a:Act}{K:Act->ι->OW->Prop}{f:FuncId}{args:Array Value}{s:ι}{x:OW}(hr:∀ w,Rel x.O F x.w w->(execOp a.eval o).run P w= .ok (.enter f args) w/\(execOp a.eval o).events P w #[]= #[])
  (h:sS P main F S f args s x λv s' x'=>K (a.put o.dst v) s' x'):sQ P main F S fn o a K s x:=by
 intro ops b k cs i rest hb hk ho hw hc;refine .go rfl λw1 h1=> ?_;rw[stepG_enter ho hw hk (hr w1 h1).1];have e0:listed P b.fn a o w1= #[]:=by unfold listed;rw[(hr w1 h1).2];exact seen_none P _
 rw[e0];refine⟨Gua.idle ..,?_⟩;rw[OW.oz];refine Co.rely (x:=x) ?_ h1;refine h _ λv s' x' fr hK hfn hm hd hn ⟨fn',hf',hres⟩=> .go rfl λw2 h2=> ?_;rw[BL hm hd hn (hfn▸hf') (hres w2 h2).1];refine⟨⟨rfl,rfl,rfl,z0c _,λ_ _ _=>rfl,λe he=> ?_⟩,?_⟩
 ·rw[seen_def] at he;rcases seen_fold_sub _ _ _ _ _ he with h|h
  ·simp at h
  ·exact(hres w2 h2).2 e (by simpa using h)
 ·rw[OW.oz,Frame.finish_at,ho];exact(hc _ _ _ hK).rely h2
theorem Ld{f:FuncId}{func:Func}{c:Code}{args:Array Value}{s:ι}{x:OW}{R:Value->ι->OW->Prop}(hf:P.funcs[f]? =some func)(hb:func.body=some c)
  (h:kW P main F S f c (λe a' s' x'=>match e with
   | .normal| .ret=>a'.defers=[]/\∃ v,R v s' x'/\∀ w1,Rel x'.O F x'.w w1->(results func a'.tmps).run P w1= .ok v w1/\∀ e∈(results func a'.tmps).events P w1 #[],Iq x'.O F w1.heap.size w1.heap.size e
   |_=>False) {tmps:=args++z0d (func.ntmps - args.size) undef,defers:=[]} s x):sS P main F S f args s x R:=by
 intro cs hc;rw[enter_at args hf hb];refine h (base f) [] cs rfl (by simp[base]) λe a' s' x' q=> ?_
 have key:∀ (todo:List Item),(a'.defers=[]/\∃ v,R v s' x'/\∀ w1,Rel x'.O F x'.w w1->(results func a'.tmps).run P w1= .ok v w1/\∀ e∈(results func a'.tmps).events P w1 #[],Iq x'.O F w1.heap.size w1.heap.size e)->
   Co P main F (S s') (G {(base f).at a' todo with mode:= .returning} cs) x':=by
  rintro todo ⟨hd,v,hR,hres⟩;exact hc v s' x' _ hR rfl rfl hd rfl ⟨func,hf,hres⟩
 cases e with
 |normal=>exact .idle rfl (λ_=>stepG_end) (key [] q)
 |ret=>exact λtodo=>key todo q
 |exit id=>exact q.elim
 |goto l=>exact q.elim
 |panic ch=>exact q.elim
 |outgrown=>exact q.elim
end
end Go.Sx
section
set_option maxRecDepth 100000
open Go Go.Sx Go.Conc Go.Proofs
namespace Go.Proofs.Ytpajfggdnobheaa.Sp
variable {main:Bool} {Fz:Nat->Prop}
open D Tr C Fu Fa
def am0:JC:=(.ops<|oQ 4<|o8 5 0<|.nil)
def am1:JC:=(qN (o7 17 0<|oZ 18 17 1<|o7 19 18<|.sc true 22 19 (o7 20 0<|qJ 21 20 8<|.nil) (.t 21)<|.nil) (qO 22 (qN (oQ 4<|o8 5 1<|.nil) .ret) .skip))
def am2:JC:=(qN (o7 24 1<|oL 25 19 24<|o7 23 25<|oM 26 0 23<|oM 27 1 23<|o7 6 26<|o7 7 27<|.nil) (qN (o7 28 7<|qB 29 28 0<|.nil) (qO 29 (qN (qL [7]<|o7 30 7<|oQ 4<|o7 5 30<|.nil) .ret) .skip)))
def aqm:JC:=(.ops<|oQ 9<|.nil)
def aqn:JC:=(.ops<|o7 32 0<|o8 33 0<|.nil)
def aoV:JC:=(.ops<|oN 34 33 32<|.nil)
def aoW:JC:=(qO 34 .skip (.exit 0))
def aqN:JC:=(.ops<|o7 38 9<|o7 39 10<|eo 40 (.Ia 54 1 1 (.raw (.chan none)) [(0,(.t 39))])<|oV 41 54 1 8 38 40<|o7 9 41<|.nil)
def aqO:JC:=(.ops<|oI 44 33 1<|o7 33 44<|.nil)
def ahu:TC:=(.seq (.jc aoV) (.seq (.jc aoW) (.seq (.block 1 (.seq (.reg (o7 35 1<|oO 36 35<|.nil) (some 37) (.mk 54 (.t 36)) (o7 10 37<|.nil)) (.seq (.jc aqN) (.reg (o7 42 10<|o7 43 8<|.nil) none (.go 20 [(.t 42),(.t 43)]) (.nil))))) (.jc aqO))))
def alB:JC:=(.ops<|eo 45 (.call 21 [])<|o7 11 45<|.nil)
def alC:JC:=(.ops<|o7 46 1<|oO 47 46<|o8 48 0<|.nil)
def ahv:JC:=(.ops<|oN 49 48 47<|.nil)
def ahw:JC:=(qO 49 .skip (.exit 2))
def al0:JC:=(.ops<|o7 50 48<|oJ 51 3 46 48<|oC 52 3 51<|qK 13 59<|o7 12 50<|oG 3 13 52<|.nil)
def ahx:JC:=(.ops<|oD 53 0 0 13<|o9 54 1 53<|oH 55 54 1<|o7 56 55<|.sc true 60 56 (oD 57 0 0 13<|o9 58 1 57<|oH 59 58 2<|.nil) (.t 59)<|.nil)
def al1:JC:=(.ops<|o7 78 11<|oC 79 3 13<|qC 80 22 78 79<|.nil)
def ahy:JC:=(.ops<|oI 81 48 1<|o7 48 81<|.nil)
def ahz:TC:=(.seq (.jc ahv) (.seq (.jc ahw) (.seq (.block 3 (.seq (.jc al0) (.seq (.jc ahx) (.cond (.t 60) (.Q7 (o7 61 9<|oD 62 2 2 13<|o9 63 1 62<|o7 64 0<|qo 65 (.ar .rem (.t 63) (.t 64))<|oJ 66 1 61 65<|o9 67 1 66<|o7 68 12<|oC 69 3 13<|o7 70 11<|oD 71 1 1 13<|o9 72 1 71<|oP 73 70<|oD 74 0 0 73<|oK 75 6 6 74 72<|qL [75,68,69,67,48,47,46,9,0,11,8]<|oC 76 6 75<|qo 77 (.AU (.agg [(.int .i64 0),(.agg [(.int .i64 0),(.int .i64 0),(.int .i64 0)]),(.arr 6 1 λ_=>(.int .i64 0))]) [([.lQ 0],0,1,(.t 68)),([.lQ 1],1,3,(.t 69)),([.lQ 2],4,6,(.t 76))])<|qn (.mv (B true))<|.nil) (.send (.t 67) (.t 77))) (.jc al1))))) (.jc ahy))))
def alD:JC:=(.ops<|oQ 14<|.nil)
def alE:JC:=(.ops<|o7 82 9<|oO 83 82<|o8 84 0<|.nil)
def ahA:JC:=(.ops<|oN 85 84 83<|.nil)
def ahB:JC:=(qO 85 .skip (.exit 4))
def al2:JC:=(.ops<|oJ 86 1 82 84<|o9 87 1 86<|o7 16 87<|.nil)
def al3:JC:=(.ops<|oI 89 84 1<|o7 84 89<|.nil)
def ahC:TC:=(.seq (.jc ahA) (.seq (.jc ahB) (.seq (.block 5 (.seq (.jc al2) (.reg (o7 88 16<|.nil) none (.close (.t 88)) (.nil)))) (.jc al3))))
def alF:JC:=(.ops<|o7 90 9<|oO 91 90<|o8 92 0<|.nil)
def ahD:JC:=(.ops<|oN 93 92 91<|.nil)
def ahE:JC:=(qO 93 .skip (.exit 6))
def al4:JC:=(.ops<|oI 98 92 1<|o7 92 98<|.nil)
def ahF:TC:=(.seq (.jc ahD) (.seq (.jc ahE) (.seq (.block 7 (.reg (o7 94 14<|o7 95 8<|.nil) (some 96) (.recv 52 (.t 95) false) (oV 97 32 3 24 94 96<|o7 14 97<|.nil))) (.jc al4))))
def alG:JC:=(qN (o7 99 14<|eo 100 (.call 23 [(.t 99),(.c (.fn 24 []))])<|.nil) (qN (o7 101 14<|o7 4 101<|o8 5 0<|.nil) .ret))
def j6:TC:=(.seq (.jc am0) (.seq (.jc am1) (.seq (.jc am2) (.seq (.reg (.nil) (some 31) (.mk 52 (I 0)) (o7 8 31<|.nil)) (.seq (.jc aqm) (.seq (.seq (.jc aqn) (.block 0 (.loop ahu))) (.seq (.jc alB) (.seq (.seq (.jc alC) (.block 2 (.loop ahz))) (.seq (.jc alD) (.seq (.seq (.jc alE) (.block 4 (.loop ahC))) (.seq (.seq (.jc alF) (.block 6 (.loop ahF))) (.jc alG))))))))))))
theorem c6:tIs Try.prog bG (λf=>[6].contains f) 6=some (j6.flat,[.tmp 4, .tmp 5],102,false):=by kernel_rfl
def lW(l:List Ev)(i:Nat):Ms:=⟨i,l.getD i bP.bg,(runK l i).aK (l.getD i bP.bg).aK.toNat⟩
def allM(l:List Ev):Nat->List Ms
 |0=>[]
 |i+1=>allM l i++if cO (l.getD i bP.bg)=true then[lW l i] else[]
def Az(n j:Nat)(ms:List Ms):List Ms:=ms.filter λm=>decide (m.e.obj.toNat%n=j)
def wL(n:Nat)(l:List Ev)(j:Nat):List Fl:=uN (λ_=>fK) (Az n j (allM l l.length))
def AQ(n:Nat)(l:List Ev):Gl:=⟨n,λj=>(Az n j (allM l l.length)).map mV,λj=>akt (wL n l j)⟩
def goA(len:Nat):Nat->Nat->List fB
 |0,_=>[]
 |k+1,j=> .mk len:: .go j::goA len k (j+1)
def uF(n:Nat)(l:List Ev):Nat->Nat->List fB
 |0,_=>[]
 |k+1,i=>(if cO (l.getD i bP.bg)=true then[.send ((l.getD i bP.bg).obj.toNat%n) (mV (lW l i))] else[])++uF n l k (i+1)
def vY:Nat->Nat->List fB
 |0,_=>[]
 |k+1,j=> .close j::vY k (j+1)
def xZ(k:Nat):List fB:=List.replicate k .recv
def SQ(n:Nat)(l:List Ev):List fB:=uF n l l.length 0++(vY n 0++xZ n)
def QI(n:Nat)(l:List Ev):List fB:= .mk 0::(goA l.length n 0++SQ n l)
theorem aoX{J:Env}{x:Ms}{w:Value}(h:bK J (mS x) w):w=mV x:=by
 obtain⟨cs,h1,h2⟩:=h;obtain⟨a,r1,rfl,ha,b,r2,rfl,hb,c,r3,rfl,hc,hr⟩:=h1;obtain⟨b1,s1,rfl,hb1,b2,s2,rfl,hb2,b3,s3,rfl,hb3,hs⟩:=hb;simp only[ah] at ha hb1 hb2 hb3;simp only[bV] at hs hr;subst ha hb1 hb2 hb3 hs hr;obtain⟨hlen,hc⟩:=hc
 match c,hlen with
 |[c0,c1,c2,c3,c4,c5],_=>
  have e0:=hc 0 (by omega)
  have e1:=hc 1 (by omega)
  have e2:=hc 2 (by omega)
  have e3:=hc 3 (by omega)
  have e4:=hc 4 (by omega)
  have e5:=hc 5 (by omega)
  simp only[ah,sub] at e0 e1 e2 e3 e4 e5;simp at e0 e1 e2 e3 e4 e5;subst e0 e1 e2 e3 e4 e5;exact h2
@[reducible] def dI(c:Nat):SV:= .raw (.chan (some c))
section
variable {n:Nat} {l:List Ev} {End:List Nat->Goroutine->OW->Prop} {H0 X:Nat->Option Obj}
def GInv(Fz:Nat->Prop)(H0 X:Nat->Option Obj)(n:Nat)(l:List Ev)(rest:List fB)(k:Nat)(a:Act)(s:MS)(x:OW):Prop:=
 ∃ (j c0:Nat) (gy:List Nat) (J:Env),j+k=n/\gy.length=j/\s=⟨goA l.length k j++rest,c0::gy,[]⟩/\
  TS Fz 102 [] H0 X J (Sx.ig [0,1,8,9,32,33] [.int .i64 n,fD.aA l,dI c0, .vec 0 j, .int .i64 n, .int .i64 j] .nil) [.vec 54 1 (gy.map dI)] a x
theorem Ua(i:Nat):∀ gy:List Nat,dn i (gy.map dI)=gy.map dI
 |[]=>rfl
 |c::r=>by have:=Ua i r;simp only[z04,dn,dI,Sx.kill] at this ⊢;rw[this]
theorem FN(f:Nat->Option Nat):∀ gy:List Nat,dH f (gy.map dI)=gy.map dI
 |[]=>rfl
 |c::r=>by have:=FN f r;simp only[z04,dH,dI,Sx.ren] at this ⊢;rw[this]
theorem aoY:(Try.prog.info? 68).map (·.bytes)=some 80:=by kernel_rfl
theorem go_round(hn:n<=8)(hl:l.length<=1000)(hok:∀ j,j<n->okH (λ_=>fK) (Az n j (allM l l.length))/\(Az n j (allM l l.length)).length<=1000){rest:List fB}(k:Nat)(a:Act)(s:MS)(x:OW)(h:GInv Fz H0 X n l rest k a s x):
  TW Try.prog true Fz (dL Try.prog Fz (AQ n l) End) bG Xj 6 ahu (λe a' s' x'=>match e with
   | .normal=> ∃ k',k'<k/\GInv Fz H0 X n l rest k' a' s' x'
   | .exit 0=>GInv Fz H0 X n l rest 0 a' s' x'
   |_=>False) a s x:=by
 obtain⟨j,c0,gy,J,hjk,vN,rfl,hT⟩:=h;unfold ahu;cases k with
 |zero=>
  have hj:¬ (j:Int)<n:=by omega
  refine aX (bM hT FH.au (by rfl) [0,1,8,9,32,33,34] [.int .i64 n,fD.aA l,dI c0, .vec 0 j, .int .i64 n, .int .i64 j, .bool false] [.vec 54 1 (gy.map dI)] ?_ λJ1 a1 x1 h1 _=> ?_)
  ·unfold aoV;simp only[go_sem,seval,hj]
  refine aX (G5 h1 FH.au (by rfl) 0 [0,1,8,9,32,33] [.int .i64 n,fD.aA l,dI c0, .vec 0 j, .int .i64 n, .int .i64 j] [.vec 54 1 (gy.map dI)] ?_ λJ2 a2 x2 h2 _=>⟨j,c0,gy,J2,hjk,vN,rfl,h2⟩)
  unfold aoW;simp only[go_sem,seval]
 |succ k=>
  have hj:(j:Int)<n:=by omega
  have hw:z02.wrap ((j:Int)+1)=((j+1:Nat):Int):=aJ;refine aX (bM hT FH.au (by rfl) [0,1,8,9,32,33,34] [.int .i64 n,fD.aA l,dI c0, .vec 0 j, .int .i64 n, .int .i64 j, .bool true] [.vec 54 1 (gy.map dI)] ?_ λJ1 a1 x1 h1 _=> ?_)
  ·unfold aoV;simp only[go_sem,seval,hj]
  refine aX (bM h1 FH.au (by rfl) [0,1,8,9,32,33] [.int .i64 n,fD.aA l,dI c0, .vec 0 j, .int .i64 n, .int .i64 j] [.vec 54 1 (gy.map dI)] ?_ λJ2 a2 x2 h2 _=> ?_)
  ·unfold aoW;simp only[go_sem,seval]
  refine aX (jL (aX (jQ h2 FH.au (by rfl) [0,1,8,9,32,33,36] [.int .i64 n,fD.aA l,dI c0, .vec 0 j, .int .i64 n, .int .i64 j, .int .i64 l.length] [.vec 54 1 (gy.map dI)] ?_ λε3 a3 x3 h3 _ o ho hd=> ?_)))
  ·simp only[go_sem,seval]
  obtain⟨i68,ath,ati⟩:=z00.1 aoY;refine sQ.mono ?_ (alx (l:= .go j::(goA l.length k (j+1)++rest)) h3 ho hd (by decide) Try.underlying54 ath rfl (by omega) (by rw[ati];omega))
  rintro a4 s4 x4 ⟨c,rfl,h4⟩;refine Behind.C9 h4 FH.au (by rfl) [0,1,8,9,10,32,33] [.int .i64 n,fD.aA l,dI c0, .vec 0 j,dI c, .int .i64 n, .int .i64 j] [.vec 54 1 (gy.map dI)] ?_ λε5 a5 x5 h5 _=> ?_
  ·simp only[go_sem,seval]
  refine aX (bM h5 FH.au (by rfl) [0,1,8,9,10,32,33] [.int .i64 n,fD.aA l,dI c0, .vec 0 (j+1),dI c, .int .i64 n, .int .i64 j] [.vec 54 1 (gy.map dI++[dI c]), .vec 54 1 [dI c]] ?_ λε6 a6 x6 h6 _=> ?_)
  ·unfold aqN;simp only[go_sem,seval,vN,Ua];omega
  have h7:=h6.sel [0] (by simp)
  have e1:fJ [0] [ay.vec 54 1 (gy.map dI++[dI c]), .vec 54 1 [dI c]]=[.vec 54 1 ((gy++[c]).map dI)]:=by
   rw[show gy.map dI++[dI c]=(gy++[c]).map dI by simp]
   simp only[fJ,z04,z0f,ak,z0n,dR,FN]
  have e2:nM (fQ [0]) (Sx.ig [0,1,8,9,10,32,33] [.int .i64 n,fD.aA l,dI c0, .vec 0 (j+1),dI c, .int .i64 n, .int .i64 j] .nil)=Sx.ig [0,1,8,9,10,32,33] [.int .i64 n,fD.aA l,dI c0, .vec 0 (j+1),dI c, .int .i64 n, .int .i64 j] .nil:=by simp[Sx.ig,nM,Sx.ren,iD,fQ,fD.ren]
  rw[e1,e2] at h7;have hlen:(gy++[c]).length=j+1:=by simp[vN]
  refine jQ h7 FH.au (by rfl) [0,1,8,9,32,33,42,43] [.int .i64 n,fD.aA l,dI c0, .vec 0 (j+1), .int .i64 n, .int .i64 j,dI c,dI c0] [.vec 54 1 ((gy++[c]).map dI)] ?_ λε8 a8 x8 h8 _ o ho hd=> ?_
  ·simp only[go_sem,seval]
  refine sQ.mono ?_ (aqe (j:=j) (l:=goA l.length k (j+1)++rest) (cs:=c0::gy++[c]) h8 ho hd rfl (by simp[vN]) rfl λw1 hr dd hd1 hd2=> ?_)
  case refine_2=>
   obtain⟨k1,k2⟩:=hok j (by omega)
   exact abG (λb hb=>Nat.lt_of_lt_of_le (h8.g.Fl b hb) hr.size) k1 k2 (λv B w hh=>hh) hd1 hd2
  rintro a9 s9 x9 ⟨rfl,h9⟩;refine Behind.C9 h9 FH.au (by rfl) [0,1,8,9,32,33] [.int .i64 n,fD.aA l,dI c0, .vec 0 (j+1), .int .i64 n, .int .i64 j] [.vec 54 1 ((gy++[c]).map dI)] ?_ λavt a10 x10 h10 _=> ?_
  ·simp only[go_sem,seval]
  refine bM h10 FH.au (by rfl) [0,1,8,9,32,33] [.int .i64 n,fD.aA l,dI c0, .vec 0 (j+1), .int .i64 n, .int .i64 (j+1:Nat)] [.vec 54 1 ((gy++[c]).map dI)] ?_ λaoZ a11 x11 h11 _=>⟨k,by omega,j+1,c0,gy++[c],aoZ,by omega,hlen,rfl,h11⟩
  unfold aqO;simp only[go_sem,seval,hw]
def Gev(f:FuncId)(a:List SV)(m:List ay):Sx.Call:=(FH.mt 22 66 uX (.one bP) DR.unit (λ_ y=>yZ y.1=true) (λ_ _=>()) (λk y=>jD k y.1) FH.none) f a m
theorem ao0:type_of% (nq Gev.eq_1):=nq Gev.eq_1
theorem ao1:bQ Try.prog main Fz Gev:=FH.zo (λk y h=>V9 k y.1 h) FH.au
def abu(Fz:Nat->Prop)(H0 X:Nat->Option Obj)(n:Nat)(l:List Ev)(rest:List fB)(k:Nat)(a:Act)(s:MS)(x:OW):Prop:=
 ∃ (i c0:Nat) (gy:List Nat) (J:Env),i+k=l.length/\gy.length=n/\s=⟨uF n l k i++rest,c0::gy,[]⟩/\
  TS Fz 102 [] H0 X J (Sx.ig [0,8,9,11,46,47,48] [.int .i64 n,dI c0, .vec 0 n, .ptr 1 [] 0,fD.aA l, .int .i64 l.length, .int .i64 i] .nil) [.vec 54 1 (gy.map dI), .blk 66 (uX.aA (runK l i))] a x
theorem afV(h0:1<=n)(hn:n<=8)(hok:(bH l).2=0){rest:List fB}(k:Nat)(a:Act)(s:MS)(x:OW)(h:abu Fz H0 X n l rest k a s x):
  TW Try.prog true Fz (dL Try.prog Fz (AQ n l) End) bG Xj 6 ahz (λe a' s' x'=>match e with
   | .normal=> ∃ k',k'<k/\abu Fz H0 X n l rest k' a' s' x'
   | .exit 2=>abu Fz H0 X n l rest 0 a' s' x'
   |_=>False) a s x:=by
 obtain⟨i,c0,gy,J,hik,vN,rfl,hT⟩:=h;have hl:=jE hok;unfold ahz;cases k with
 |zero=>
  have hj:¬ (i:Int)<l.length:=by omega
  refine aX (bM hT FH.au (by rfl) [0,8,9,11,46,47,48,49] [.int .i64 n,dI c0, .vec 0 n, .ptr 1 [] 0,fD.aA l, .int .i64 l.length, .int .i64 i, .bool false] [.vec 54 1 (gy.map dI), .blk 66 (uX.aA (runK l i))] ?_ λJ1 a1 x1 h1 _=> ?_)
  ·unfold ahv;simp only[go_sem,seval,hj]
  refine aX (G5 h1 FH.au (by rfl) 2 [0,8,9,11,46,47,48] [.int .i64 n,dI c0, .vec 0 n, .ptr 1 [] 0,fD.aA l, .int .i64 l.length, .int .i64 i] [.vec 54 1 (gy.map dI), .blk 66 (uX.aA (runK l i))] ?_ λJ2 a2 x2 h2 _=>⟨i,c0,gy,J2,hik,vN,rfl,h2⟩)
  unfold ahw;simp only[go_sem,seval]
 |succ k=>
  have hi:i<l.length:=by omega
  have hj:(i:Int)<l.length:=by omega
  have hw:z02.wrap ((i:Int)+1)=((i+1:Nat):Int):=aJ;have hev:=uO hok i hi;obtain⟨b1,b2,b3,b4⟩:=(jl _).1 hev;obtain⟨t,ht,ht6⟩:∃ t:Nat,(l.getD i bP.bg).aK=t/\t<6:=⟨(l.getD i bP.bg).aK.toNat,by omega,by omega⟩
  obtain⟨o,ho⟩:∃ o:Nat,(l.getD i bP.bg).obj=o:=⟨(l.getD i bP.bg).obj.toNat,by omega⟩
  refine aX (bM hT FH.au (by rfl) [0,8,9,11,46,47,48,49] [.int .i64 n,dI c0, .vec 0 n, .ptr 1 [] 0,fD.aA l, .int .i64 l.length, .int .i64 i, .bool true] [.vec 54 1 (gy.map dI), .blk 66 (uX.aA (runK l i))] ?_ λJ1 a1 x1 h1 _=> ?_)
  ·unfold ahv;simp only[go_sem,seval,hj]
  refine aX (bM h1 FH.au (by rfl) [0,8,9,11,46,47,48] [.int .i64 n,dI c0, .vec 0 n, .ptr 1 [] 0,fD.aA l, .int .i64 l.length, .int .i64 i] [.vec 54 1 (gy.map dI), .blk 66 (uX.aA (runK l i))] ?_ λJ2 a2 x2 h2 _=> ?_)
  ·unfold ahw;simp only[go_sem,seval]
  refine aX (jL (aX (bM h2 FH.au (by rfl) [0,8,9,11,12,13,46,47,48] [.int .i64 n,dI c0, .vec 0 n, .ptr 1 [] 0, .int .i64 i, .ptr 2 [] 0,fD.aA l, .int .i64 l.length, .int .i64 i] [.vec 54 1 (gy.map dI), .blk 66 (uX.aA (runK l i)), .blk 59 (bP.aA (l.getD i bP.bg))] ?_ λε3 a3 x3 h3 _=> ?_)))
  ·unfold al0;simp only[go_sem,seval,hj];omega
  have next:∀ (J':Env) (a':Act) (s':MS) (x':OW),s'=⟨uF n l k (i+1)++rest,c0::gy,[]⟩->TS Fz 102 [] H0 X J' (Sx.ig [0,8,9,11,46,47,48] [.int .i64 n,dI c0, .vec 0 n, .ptr 1 [] 0,fD.aA l, .int .i64 l.length, .int .i64 i] .nil) [.vec 54 1 (gy.map dI), .blk 66 (uX.aA (runK l (i+1))), .blk 59 (bP.aA (l.getD i bP.bg))] a' x'->
    TW Try.prog true Fz (dL Try.prog Fz (AQ n l) End) bG Xj 6 (.jc ahy) (λe a' s' x'=>match e with
     | .normal=> ∃ k',k'<k+1/\abu Fz H0 X n l rest k' a' s' x'
     | .exit 2=>abu Fz H0 X n l rest 0 a' s' x'
     |_=>False) a' s' x':=by
   rintro J' a' s' x' rfl h';have h7:=h'.sel [0,1] (by simp)
   have e1:fJ [0,1] [ay.vec 54 1 (gy.map dI), .blk 66 (uX.aA (runK l (i+1))), .blk 59 (bP.aA (l.getD i bP.bg))]=[.vec 54 1 (gy.map dI), .blk 66 (uX.aA (runK l (i+1)))]:=by simp only[fJ,z04,z0f,ak,z0n,List.getD_cons_succ,dR,FN,uX.ren]
   have e2:nM (fQ [0,1]) (Sx.ig [0,8,9,11,46,47,48] [.int .i64 n,dI c0, .vec 0 n, .ptr 1 [] 0,fD.aA l, .int .i64 l.length, .int .i64 i] .nil)=Sx.ig [0,8,9,11,46,47,48] [.int .i64 n,dI c0, .vec 0 n, .ptr 1 [] 0,fD.aA l, .int .i64 l.length, .int .i64 i] .nil:=by simp[Sx.ig,nM,Sx.ren,iD,fQ,fD.ren,List.idxOf_cons]
   rw[e1,e2] at h7;refine bM h7 FH.au (by rfl) [0,8,9,11,46,47,48] [.int .i64 n,dI c0, .vec 0 n, .ptr 1 [] 0,fD.aA l, .int .i64 l.length, .int .i64 (i+1:Nat)] [.vec 54 1 (gy.map dI), .blk 66 (uX.aA (runK l (i+1)))] ?_ λaoZ a11 x11 h11 _=>⟨k,by omega,i+1,c0,gy,aoZ,by omega,vN,rfl,h11⟩
   unfold ahy;simp only[go_sem,seval,hw]
  cases ha:cO (l.getD i bP.bg) with
  |false=>
   have ha':=ha;simp only[cO,z1g,decide_eq_false_iff_not] at ha';have k1:=ha'.1;have k2:=ha'.2;have hrk:runK l (i+1)=jD (runK l i) (l.getD i bP.bg):=by rw[runK,if_neg (by rw[ha];simp)]
   refine aX (bM h3 FH.au (by rfl) [0,8,9,11,12,13,46,47,48,60] [.int .i64 n,dI c0, .vec 0 n, .ptr 1 [] 0, .int .i64 i, .ptr 2 [] 0,fD.aA l, .int .i64 l.length, .int .i64 i, .bool false] [.vec 54 1 (gy.map dI), .blk 66 (uX.aA (runK l i)), .blk 59 (bP.aA (l.getD i bP.bg))] ?_ λε4 a4 x4 h4 _=> ?_)
   ·unfold ahx;simp only[go_sem,seval,k1,k2]
   refine Fg h4 (t:=false) rfl ?_;refine bM h4 ao1 (by rfl) [0,8,9,11,46,47,48] [.int .i64 n,dI c0, .vec 0 n, .ptr 1 [] 0,fD.aA l, .int .i64 l.length, .int .i64 i] [.vec 54 1 (gy.map dI), .blk 66 (uX.aA (runK l (i+1))), .blk 59 (bP.aA (l.getD i bP.bg))] ?_ λε5 a5 x5 h5 _=>next ε5 a5 _ x5 ?_ h5
   ·rw[hrk];unfold al1;simp only[go_sem,seval,ao0,hev]
   ·rw[uF,if_neg (by rw[ha];simp),List.nil_append]
  |true=>
   have ha':=ha;simp only[cO,Bool.or_eq_true,decide_eq_true_eq] at ha';have hrk:runK l (i+1)=runK l i:=by rw[runK,if_pos ha]
   have atl:(decide ((l.getD i bP.bg).kind=1)||decide ((l.getD i bP.bg).kind=2))=true:=by rcases ha' with ha'|ha'<;>rw[ha']<;>decide
   refine aX (bM h3 FH.au (by rfl) [0,8,9,11,12,13,46,47,48,60] [.int .i64 n,dI c0, .vec 0 n, .ptr 1 [] 0, .int .i64 i, .ptr 2 [] 0,fD.aA l, .int .i64 l.length, .int .i64 i, .bool true] [.vec 54 1 (gy.map dI), .blk 66 (uX.aA (runK l i)), .blk 59 (bP.aA (l.getD i bP.bg))] ?_ λε4 a4 x4 h4 _=> ?_)
   ·unfold ahx;simp only[go_sem,seval,atl]
   refine Fg h4 (t:=true) rfl ?_;have atm:Int.tmod (o:Int) (n:Int)=((o%n:Nat):Int):=by simp[Int.tmod]
   have hlt:o%n<n:=Nat.mod_lt _ (by omega)
   have hget:(gy.map dI).getD (o%n) .junk=dI (gy.getD (o%n) 0):=by simp[z0t,vN,hlt]
   refine akr h4 FH.au (by rfl) [0,8,9,11,46,47,48,67,77] [.int .i64 n,dI c0, .vec 0 n, .ptr 1 [] 0,fD.aA l, .int .i64 l.length, .int .i64 i,dI (gy.getD (o%n) 0),mS (lW l i)] [.vec 54 1 (gy.map dI), .blk 66 (uX.aA (runK l i)), .blk 59 (bP.aA (l.getD i bP.bg))] ?_ λε5 a5 x5 h5 _ o5 ho5 hd5=> ?_
   ·unfold mS lW;simp only[go_sem,seval,ho,ht,atm,hget,vN];exact⟨by omega,⟨by omega,by omega⟩,hlt,by omega,by omega⟩
   ·have hs:uF n l (k+1) i++rest= .send (o%n) (mV (lW l i))::(uF n l k (i+1)++rest):=by rw[uF,if_pos ha,ho,z1o];rfl
    rw[hs];refine sQ.mono ?_ (aob (j:=o%n) (cs:=c0::gy) (v:=mV (lW l i)) h5 ho5 hd5 rfl (by rw[z0k,z0t,z09 (by omega)];rfl) λw hw=>aoX hw)
    rintro a6 s6 x6 ⟨e6,h6⟩;refine next ε5 a6 s6 x6 e6 ?_
    rw[hrk];exact h6.C9 (by simp only[go_sem,seval])
def aki(Fz:Nat->Prop)(H0 X:Nat->Option Obj)(n:Nat)(rest:List fB)(M:List ay)(k:Nat)(a:Act)(s:MS)(x:OW):Prop:=
 ∃ (j c0:Nat) (gy:List Nat) (J:Env),j+k=n/\gy.length=n/\s=⟨vY k j++rest,c0::gy,[]⟩/\
  TS Fz 102 [] H0 X J (Sx.ig [8,9,14,82,83,84] [dI c0, .vec 0 n, .vec 1 0, .vec 0 n, .int .i64 n, .int .i64 j] .nil) [.vec 54 1 (gy.map dI), .vec 32 3 []] a x
theorem afW(hn:n<=8){rest:List fB}{M:List ay}(k:Nat)(a:Act)(s:MS)(x:OW)(h:aki Fz H0 X n rest M k a s x):
  TW Try.prog true Fz (dL Try.prog Fz (AQ n l) End) bG Xj 6 ahC (λe a' s' x'=>match e with
   | .normal=> ∃ k',k'<k/\aki Fz H0 X n rest M k' a' s' x'
   | .exit 4=>aki Fz H0 X n rest M 0 a' s' x'
   |_=>False) a s x:=by
 obtain⟨j,c0,gy,J,hjk,vN,rfl,hT⟩:=h;unfold ahC;cases k with
 |zero=>
  have hj:¬ (j:Int)<n:=by omega
  refine aX (bM hT FH.au (by rfl) [8,9,14,82,83,84,85] [dI c0, .vec 0 n, .vec 1 0, .vec 0 n, .int .i64 n, .int .i64 j, .bool false] [.vec 54 1 (gy.map dI), .vec 32 3 []] ?_ λJ1 a1 x1 h1 _=> ?_)
  ·unfold ahA;simp only[go_sem,seval,hj]
  refine aX (G5 h1 FH.au (by rfl) 4 [8,9,14,82,83,84] [dI c0, .vec 0 n, .vec 1 0, .vec 0 n, .int .i64 n, .int .i64 j] [.vec 54 1 (gy.map dI), .vec 32 3 []] ?_ λJ2 a2 x2 h2 _=>⟨j,c0,gy,J2,hjk,vN,rfl,h2⟩)
  unfold ahB;simp only[go_sem,seval]
 |succ k=>
  have hj:(j:Int)<n:=by omega
  have hjn:j<n:=by omega
  have hw:z02.wrap ((j:Int)+1)=((j+1:Nat):Int):=aJ;have hget:(gy.map dI).getD j .junk=dI (gy.getD j 0):=by simp[z0t,vN,hjn]
  refine aX (bM hT FH.au (by rfl) [8,9,14,82,83,84,85] [dI c0, .vec 0 n, .vec 1 0, .vec 0 n, .int .i64 n, .int .i64 j, .bool true] [.vec 54 1 (gy.map dI), .vec 32 3 []] ?_ λJ1 a1 x1 h1 _=> ?_)
  ·unfold ahA;simp only[go_sem,seval,hj]
  refine aX (bM h1 FH.au (by rfl) [8,9,14,82,83,84] [dI c0, .vec 0 n, .vec 1 0, .vec 0 n, .int .i64 n, .int .i64 j] [.vec 54 1 (gy.map dI), .vec 32 3 []] ?_ λJ2 a2 x2 h2 _=> ?_)
  ·unfold ahB;simp only[go_sem,seval]
  refine aX (jL (aX (bM h2 FH.au (by rfl) [8,9,14,16,82,83,84] [dI c0, .vec 0 n, .vec 1 0,dI (gy.getD j 0), .vec 0 n, .int .i64 n, .int .i64 j] [.vec 54 1 (gy.map dI), .vec 32 3 []] ?_ λε3 a3 x3 h3 _=> ?_)))
  ·unfold al2;simp only[go_sem,seval,hj,hjn,vN,hget];omega
  refine jQ h3 FH.au (by rfl) [8,9,14,82,83,84,88] [dI c0, .vec 0 n, .vec 1 0, .vec 0 n, .int .i64 n, .int .i64 j,dI (gy.getD j 0)] [.vec 54 1 (gy.map dI), .vec 32 3 []] ?_ λε4 a4 x4 h4 _ o ho hd=> ?_
  ·simp only[go_sem,seval]
  obtain⟨_,_,_,_,_,_,_,_,hnr,_⟩:=NW c6;refine sQ.mono ?_ (afD (j:=j) (l:=vY k (j+1)++rest) (cs:=c0::gy) h4 ho hd rfl (by rw[z0k,z0t,z09 (by omega)];rfl) hnr)
  rintro a5 s5 x5 ⟨rfl,h5⟩;refine Behind.C9 h5 FH.au (by rfl) [8,9,14,82,83,84] [dI c0, .vec 0 n, .vec 1 0, .vec 0 n, .int .i64 n, .int .i64 j] [.vec 54 1 (gy.map dI), .vec 32 3 []] ?_ λε6 a6 x6 h6 _=> ?_
  ·simp only[go_sem,seval]
  refine bM h6 FH.au (by rfl) [8,9,14,82,83,84] [dI c0, .vec 0 n, .vec 1 0, .vec 0 n, .int .i64 n, .int .i64 (j+1:Nat)] [.vec 54 1 (gy.map dI), .vec 32 3 []] ?_ λε7 a7 x7 h7 _=>⟨k,by omega,j+1,c0,gy,ε7,by omega,vN,rfl,h7⟩
  unfold al3;simp only[go_sem,seval,hw]
theorem JL:∀ (ms:List Ms) (f:Int->Cl),(uN f ms).length<=ms.length
 |[],_=>z0c _
 |x::ms,f=>by
  have:=JL ms (wK f x);have h1:(PG f x).length<=1:=by unfold PG;split<;>simp
  rw[uN,z0j,z0l];omega
theorem OE(hlen:∀ j,(Az n j (allM l l.length)).length<=1000):∀ got:List Nat,(got.flatMap (wL n l)).length<=got.length*1000
 |[]=>by simp
 |g::r=>by have h1:=OE hlen r;have h2:=JL (Az n g (allM l l.length)) (λ_=>fK);have h3:=hlen g;rw[List.flatMap_cons,z0j,z0l];unfold wL;unfold wL at h1;omega
theorem Ub(i:Nat):∀ l:List Fl,dn i (l.map dW.aA)=l.map dW.aA
 |[]=>rfl
 |x::l=>by have:=Ub i l;simp only[z04,dn,this];rfl
def RInv(Fz:Nat->Prop)(H0 X:Nat->Option Obj)(n:Nat)(l:List Ev)(k:Nat)(a:Act)(s:MS)(x:OW):Prop:=
 ∃ (c0:Nat) (gy got:List Nat) (J:Env),got.length+k=n/\got.Nodup/\(∀ g∈got,g<n)/\s=⟨xZ k,c0::gy,got⟩/\
  TS Fz 102 [] H0 X J (Sx.ig [8,14,91,92] [dI c0, .vec 0 (got.flatMap (wL n l)).length, .int .i64 n, .int .i64 got.length] .nil) [.vec 32 3 ((got.flatMap (wL n l)).map dW.aA)] a x
theorem ao4(w:World):(zeroValue 23).run Try.prog w= .ok (.slice none 0 0) w:=by kernel_rfl
theorem afX(hn:n<=8)(hlen:∀ j,(Az n j (allM l l.length)).length<=1000)(k:Nat)(a:Act)(s:MS)(x:OW)(h:RInv Fz H0 X n l k a s x):
  TW Try.prog true Fz (dL Try.prog Fz (AQ n l) End) bG Xj 6 ahF (λe a' s' x'=>match e with
   | .normal=> ∃ k',k'<k/\RInv Fz H0 X n l k' a' s' x'
   | .exit 6=>RInv Fz H0 X n l 0 a' s' x'
   |_=>False) a s x:=by
 obtain⟨c0,gy,got,J,hgk,hnd,hgn,rfl,hT⟩:=h;unfold ahF;generalize hall:got.flatMap (wL n l)=all at hT;cases k with
 |zero=>
  have hj:¬ (got.length:Int)<n:=by omega
  refine aX (bM hT FH.au (by rfl) [8,14,91,92,93] [dI c0, .vec 0 all.length, .int .i64 n, .int .i64 got.length, .bool false] [.vec 32 3 (all.map dW.aA)] ?_ λJ1 a1 x1 h1 _=> ?_)
  ·unfold ahD;simp only[go_sem,seval,hj]
  refine aX (G5 h1 FH.au (by rfl) 6 [8,14,91,92] [dI c0, .vec 0 all.length, .int .i64 n, .int .i64 got.length] [.vec 32 3 (all.map dW.aA)] ?_ λJ2 a2 x2 h2 _=>⟨c0,gy,got,J2,hgk,hnd,hgn,rfl,by rw[hall];exact h2⟩)
  unfold ahE;simp only[go_sem,seval]
 |succ k=>
  have hj:(got.length:Int)<n:=by omega
  have hw:z02.wrap ((got.length:Int)+1)=((got.length+1:Nat):Int):=aJ;refine aX (bM hT FH.au (by rfl) [8,14,91,92,93] [dI c0, .vec 0 all.length, .int .i64 n, .int .i64 got.length, .bool true] [.vec 32 3 (all.map dW.aA)] ?_ λJ1 a1 x1 h1 _=> ?_)
  ·unfold ahD;simp only[go_sem,seval,hj]
  refine aX (bM h1 FH.au (by rfl) [8,14,91,92] [dI c0, .vec 0 all.length, .int .i64 n, .int .i64 got.length] [.vec 32 3 (all.map dW.aA)] ?_ λJ2 a2 x2 h2 _=> ?_)
  ·unfold ahE;simp only[go_sem,seval]
  refine aX (jL (jQ h2 FH.au (by rfl) [8,91,92,94,95] [dI c0, .int .i64 n, .int .i64 got.length, .vec 0 all.length,dI c0] [.vec 32 3 (all.map dW.aA)] ?_ λε3 a3 x3 h3 _ o ho hd=> ?_))
  ·simp only[go_sem,seval]
  refine sQ.mono ?_ (aj6 (cs:=c0::gy) (l:=xZ k) (K:=λy m' j=>y= .vec 1 (wL n l j).length/\m'=[.vec 32 3 (all.map dW.aA), .vec 32 3 ((wL n l j).map dW.aA)]) h3 ho hd (by decide) rfl rfl Try.underlying52 ao4 λx' v j B k1 k2 hout hBO hB hT'=> ?_)
  case refine_2=>
   obtain⟨xs,o1,o2,o3⟩:=(hout:akt (wL n l j) v B x'.w);have h4:=hT'.vec (T:=32) (w:=3) (l:=(wL n l j).map dW.aA) (v:=v) (xs:=xs) o1 (λk hk=>agC hk (o2 k hk)) (λb hb=>by have hBb:=(o3 b).2 hb;exact⟨hBO b hBb,hB b hBb⟩)
   refine⟨_,_,_,⟨rfl,rfl⟩,h4,⟨[v],?_,rfl⟩⟩;have hvv:(ε3.more 0 v).vv 1=v:=by
    have:(1:Nat)=ε3.n:=by rw[h3.g.good.n];rfl
    simp[Env.more,this]
   refine⟨by rw[h4.g.good.n];simp,?_,by rw[hvv]⟩
   rw[hvv];rcases o1.2 with⟨e1,e2⟩|⟨g,cap,cur,e1,_,_,e4,_⟩
   ·exact .inl ⟨e1,by simpa using e2⟩
   ·exact .inr ⟨g,cap,by rw[e1];simp,by simpa using e4⟩
  rintro a4 s4 x4 ⟨j,ε4,y,m',k1,k2,⟨rfl,rfl⟩,rfl,h4⟩;have hal:=OE (n:=n) (l:=l) hlen got;rw[hall] at hal;have hfj:(wL n l j).length<=1000:=Nat.le_trans (JL _ _) (hlen j);have hgl:got.length<=8:=by omega
  have hsz:(all.length+(wL n l j).length)*24<=140737488355328:=by omega
  refine Behind.C9 h4 FH.au (by rfl) [8,14,91,92] [dI c0, .vec 0 (all.length+(wL n l j).length), .int .i64 n, .int .i64 got.length] [.vec 32 3 ((all++wL n l j).map dW.aA), .vec 32 3 ((wL n l j).map dW.aA)] ?_ λε5 a5 x5 h5 _=> ?_
  ·simp only[go_sem,seval,Ub,z0m];exact hsz
  have h6:=h5.sel [0] (by simp)
  have e1:fJ [0] [ay.vec 32 3 ((all++wL n l j).map dW.aA), .vec 32 3 ((wL n l j).map dW.aA)]=[.vec 32 3 ((all++wL n l j).map dW.aA)]:=by simp only[fJ,z04,z0f,ak,z0n,dR,O5]
  have e2:nM (fQ [0]) (Sx.ig [8,14,91,92] [dI c0, .vec 0 (all.length+(wL n l j).length), .int .i64 n, .int .i64 got.length] .nil)=Sx.ig [8,14,91,92] [dI c0, .vec 0 (all.length+(wL n l j).length), .int .i64 n, .int .i64 got.length] .nil:=by simp[Sx.ig,nM,Sx.ren,iD,fQ]
  rw[e1,e2] at h6;have hall':(got++[j]).flatMap (wL n l)=all++wL n l j:=by rw[List.flatMap_append,hall];simp
  refine bM h6 FH.au (by rfl) [8,14,91,92] [dI c0, .vec 0 (all++wL n l j).length, .int .i64 n, .int .i64 (got++[j]).length] [.vec 32 3 ((all++wL n l j).map dW.aA)] ?_ λε7 a7 x7 h7 _=>⟨k,by omega,c0,gy,got++[j],ε7,by simp;omega,?_,λg hg=> ?_,rfl,by rw[hall'];exact h7⟩
  ·unfold al4;simp only[go_sem,seval,hw,z0j,z0l,z1q]
  ·exact z0r.2 ⟨hnd,by simp,λu hu v hv e=>by simp only[z05] at hv;subst hv e;exact k2 hu⟩
  ·rcases z0i.1 hg with hg|hg
   ·exact hgn g hg
   ·simp only[z05] at hg;subst hg;exact k1
end
end Go.Proofs.Ytpajfggdnobheaa.Sp
end
namespace Go.Proofs.Ytpajfggdnobheaa.rH
variable {main:Bool} {Fz:Nat->Prop}
open D
def j24:JC:=(qN (oU 2 32 0<|oU 3 32 1<|o8 4 0<|.nil) (qN (oD 5 0 0 2<|o9 6 1 5<|oD 7 0 0 3<|o9 8 1 7<|qo 9 (.ar .sub (.t 6) (.t 8))<|o7 4 9<|.nil) .ret))
def j121:JC:=(qN (o8 10 0<|o8 11 0<|.nil) (.seq (.seq (.aZ<|o7 12 4<|o7 13 0<|o7 14 2<|oJ 15 3 13 14<|oC 16 3 15<|o7 17 0<|o7 18 1<|oJ 19 3 17 18<|qL [19,12,16,3,2,1]<|oC 20 3 19<|eo 21 (.fO (.t 12) [(.t 16),(.t 20)])<|oZ 22 21 0<|.nil) (qM [22,3,2,1] (qO 22 (qN (o7 23 3<|oP 24 23<|o9 25 1 24<|qL [25,23,2,1]<|oI 26 25 1<|oP 27 23<|oG 1 27 26<|.nil) (qM [2,1] (qN (o7 28 2<|o7 29 1<|o7 10 28<|o7 11 29<|.nil) .ret))) .skip))) (qM [1,2] (qN (o7 30 1<|o7 31 2<|o7 10 30<|o7 11 31<|.nil) .ret))))
def j114:JC:=(qN (o8 12 0<|.nil) (qN (o7 14 0<|o7 15 1<|o7 16 2<|o7 17 4<|o7 18 5<|eo 19 (.call 121 [(.t 14),(.t 15),(.t 16),(.t 17),(.t 18)])<|o7 13 19<|qL [13,0,3,4,5]<|oM 20 0 13<|oM 21 1 13<|o7 1 20<|o7 2 21<|.nil) (qM [0,2,3,4,5,1] (qN (o7 23 0<|o7 24 2<|o7 25 3<|o7 26 4<|o7 27 5<|eo 28 (.call 121 [(.t 23),(.t 24),(.t 25),(.t 26),(.t 27)])<|qL [28,0,1,4,5]<|o7 22 28<|oM 29 0 22<|oM 30 1 22<|o7 2 29<|o7 3 30<|.nil) (qM [0,1,2,4,5] (qN (o7 32 0<|o7 33 1<|o7 34 2<|qL [4,5,32,33,34]<|o7 35 4<|o7 36 5<|eo 37 (.call 121 [(.t 32),(.t 33),(.t 34),(.t 35),(.t 36)])<|qL [37]<|o7 31 37<|oM 38 0 31<|oM 39 1 31<|o7 1 38<|o7 2 39<|.nil) (qM [2] (qN (o7 40 2<|o7 12 40<|.nil) .ret))))))))
def j113:JC:=(qN (o8 8 0<|.nil) (qN (o7 9 0<|o7 10 1<|qo 11 (.ar .sub (.t 10) (I 1))<|o7 12 1<|o7 13 1<|oI 14 13 1<|o7 15 2<|o7 16 3<|eo 17 (.call 114 [(.t 9),(.t 11),(.t 12),(.t 14),(.t 15),(.t 16)])<|o7 8 17<|.nil) .ret))
structure Fk where
 pos:Fin 1048576
 var:Int
 kind:Int
instance:Inhabited Fk:=⟨⟨0,0,0⟩⟩
def Fk.fl(y:Fk):Fl:=⟨y.pos.val,y.var,y.kind⟩
def AA(f:Fl):Fk:=⟨Fin.ofNat 1048576 f.at'.toNat,f.var,f.kind⟩
theorem ai'(y:Fk):AA y.fl=y:=by obtain⟨p,v,k⟩:=y;simp only[AA,Fk.fl,z1o,Fk.mk.injEq,and_true];exact Fin.ext (by simp[Fin.ofNat,Nat.mod_eq_of_lt p.isLt])
theorem AB{f:Fl}(h:0<=f.at'/\f.at'<1048576):(AA f).fl=f:=by obtain⟨p,v,k⟩:=f;simp only at h;simp only[AA,Fk.fl,Fl.mk.injEq,and_true];simp only[Fin.ofNat];omega
def wC:DT Fk where
 bg:=⟨0,0,0⟩
 aA y:=dW.aA y.fl
 aI m x:=AA (dW.aI m x)
 decP m x:=dW.decP m x/\0<=(dW.aI m x).at'/\(dW.aI m x).at'<1048576
 ok:=λg _ h _ hs=>by rw[AB h.2];exact dW.ok g h.1 hs
 agg:=λh=>dW.agg h.1
 vE m y:=by rw[dW.vE,ai']
 pE m y:=by refine⟨dW.pE m y.fl,?_⟩;rw[dW.vE];have:=y.pos.isLt;simp only[Fk.fl];omega
 ren r y:=dW.ren r y.fl
 kill i y:=dW.kill i y.fl
 val y:=dW.val y.fl
instance:Flat wC:=⟨λy=>(inferInstance:Flat dW).noH y.fl⟩
def lt(a b:Fk):Bool:=decide (a.pos.val<b.pos.val)
theorem amV(y:Fk):wC.aA y= .agg [.int .i64 y.pos.val, .int .i64 y.var, .int .i64 y.kind]:=nr rfl
theorem bn(y:Fk):wd (wC.aA y)=3:=nr rfl
theorem aU(y:Fk):(wC.aA y).isAgg=true:=nr rfl
attribute [go_sem] z07 z0s
abbrev TP:Nat:=32+1000000
abbrev mv(X:Array Fk):ay:= .vec TP 3 (X.toList.map wC.aA)
theorem rd{X:Array Fk}{k:Nat}(h:k<X.size):(X.toList.map wC.aA).getD k .junk=wC.aA X[k]! :=by
 rw[z0t,List.getElem?_map,z09 (by simpa using h)]
 simp[h]
theorem wr(X:Array Fk)(k:Nat)(y:Fk):(X.toList.map wC.aA).set k (wC.aA y)=(X.setIfInBounds k y).toList.map wC.aA:=by rw[z18,List.map_set]
theorem apM(a b:Fk):bC Try.prog main Fz 24 [wC.aA a,wC.aA b] [] (.int .i64 ((a.pos.val:Int) - b.pos.val)) []:=by have h1:=a.pos.isLt;have h2:=b.pos.isLt;have hw:z02.wrap ((a.pos.val:Int) - b.pos.val)=(a.pos.val:Int) - b.pos.val:=aJ;refine wkA j24 [.tmp 4] 10 FH.au rfl ?_;unfold j24;simp only[go_sem,seval,amV,hw]
def Gc(f:FuncId)(a:List SV)(m:List ay):Sx.Call:=(FH.rd 24 (.two wC wC) (.one .int) (λ_=>True) (λy=>(y.1.pos.val:Int) - y.2.1.pos.val) FH.none) f a m
theorem cZ:type_of% (nq Gc.eq_1):=nq Gc.eq_1
theorem lZ:bQ Try.prog main Fz Gc:=FH.dM (λy _=>apM y.1 y.2.1) FH.au
abbrev cF:SV:= .fn 24 []
theorem gB(a b:Fk):((a.pos.val:Int) - b.pos.val<0)=(lt a b=true):=by simp only[lt,decide_eq_true_eq,eq_iff_iff];omega
abbrev o2(s:List Fk)(a b:Int)(q:Int):Nat×Nat×Nat:=Sort.order2 lt s.toArray a.toNat b.toNat q.toNat
theorem Gz(X:Array Fk)(a b q:Nat)(ha:a<X.size)(hb:b<X.size)(hq:q<100):
  bC Try.prog main Fz 121 [.vec 0 X.size, .int .i64 a, .int .i64 b, .ptr 1 [] 0,cF] [mv X, .blk 3 (.int .i64 q)]
   (.cu [.int .i64 (Sort.order2 lt X a b q).1, .int .i64 (Sort.order2 lt X a b q).2.1]) [mv X, .blk 3 (.int .i64 (Sort.order2 lt X a b q).2.2)]:=by
 refine wkA j121 [.tmp 10, .tmp 11] 32 lZ rfl ?_;have hw:z02.wrap ((q:Int)+1)=((q+1:Nat):Int):=aJ;have ha':a<X.toList.length:=by simpa using ha
 have hb':b<X.toList.length:=by simpa using hb
 unfold j121;simp only[go_sem,seval,cZ,mv,rd ha,rd hb,bn,aU,hw];refine⟨⟨by omega,by omega⟩,hb',⟨by omega,by omega⟩,ha',λh=> ?_,λh=> ?_⟩
 ·rw[gB] at h;simp only[Sort.order2,h,if_true,and_self]
 ·rw[gB] at h;simp only[Sort.order2,h];exact⟨rfl,rfl⟩
theorem adU(X:Array Fk)(a b q:Nat):o2 X.toList a b q=Sort.order2 lt X a b q:=rfl
theorem wU{d:Array Fk}{a b:Nat}(ha:a<d.size)(hb:b<d.size)(q:Nat):(Sort.order2 lt d a b q).1<d.size/\(Sort.order2 lt d a b q).2.1<d.size/\(Sort.order2 lt d a b q).2.2<=q+1:=by
 unfold Sort.order2;split
 ·exact⟨hb,ha,z0c _⟩
 ·exact⟨ha,hb,Nat.le_succ _⟩
def o2P(s:List Fk)(y:Int×Int×Unit)(q:Int):Prop:=((0<=y.1/\y.1<s.length)/\0<=y.2.1/\y.2.1<s.length)/\0<=q/\q<100
def Go2(f:FuncId)(a:List SV)(m:List ay):Sx.Call:=(FH.sw 121 2 TP 3 wC 3 (.two .int .int) [cF] (.two .int .int) o2P (λs y q=>(((o2 s y.1 y.2.1 q).1:Int),((o2 s y.1 y.2.1 q).2.1:Int))) (λs y q=>((o2 s y.1 y.2.1 q).2.2:Int)) FH.none) f a m
theorem Vq:type_of% (nq Go2.eq_1):=nq Go2.eq_1
theorem aY{x:Int}(h:0<=x):∃ n:Nat,x=n:=⟨x.toNat,by omega⟩
theorem Vs:bQ Try.prog main Fz Go2:=FH.Kt (by decide) (by kernel_rfl) (λr=>rfl) (λs y q h=>by
 obtain⟨y1,y2,⟨⟩⟩:=y;obtain⟨⟨⟨h1,h2⟩,h3,h4⟩,h5,h6⟩:=h;simp only at h1 h2 h3 h4;obtain⟨a,rfl⟩:=aY h1;obtain⟨b,rfl⟩:=aY h3;obtain⟨c,rfl⟩:=aY h5;have:=Gz (main:=main) (Fz:=Fz) s.toArray a b c (by simpa using h2) (by simpa using h4) (by omega)
 exact this) FH.au
theorem GH(X:Array Fk)(a b c q:Nat)(ha:a<X.size)(hb:b<X.size)(hc:c<X.size)(hq:q<90):
  bC Try.prog main Fz 114 [.vec 0 X.size, .int .i64 a, .int .i64 b, .int .i64 c, .ptr 1 [] 0,cF] [mv X, .blk 3 (.int .i64 q)]
   (.int .i64 (Sort.median lt X a b c q).1) [mv X, .blk 3 (.int .i64 (Sort.median lt X a b c q).2)]:=by
 refine wkA j114 [.tmp 12] 41 Vs rfl ?_;unfold j114;simp only[go_sem,seval,Vq,mv];simp only[adU];have k1:=wU (d:=X) ha hb q;generalize hr1:Sort.order2 lt X a b q=r1 at k1;have k2:=wU (d:=X) k1.2.1 hc r1.2.2;generalize hr2:Sort.order2 lt X r1.2.1 c r1.2.2=r2 at k2;refine⟨⟨⟨⟨z03 _,by simpa using ha⟩,z03 _,by simpa using hb⟩,z03 _,by omega⟩,⟨⟨⟨z03 _,by simpa using k1.2.1⟩,z03 _,by simpa using hc⟩,z03 _,by omega⟩,⟨⟨⟨z03 _,by simpa using k1.1⟩,z03 _,by simpa using k2.1⟩,z03 _,by omega⟩,?_,?_⟩
 ·simp only[Sort.median,hr1,hr2]
 ·simp only[Sort.median,hr1,hr2]
def med(s:List Fk)(a b c q:Int):Nat×Nat:=Sort.median lt s.toArray a.toNat b.toNat c.toNat q.toNat
theorem GI(X:Array Fk)(a b c q:Nat):med X.toList a b c q=Sort.median lt X a b c q:=rfl
def Vt(s:List Fk)(y:Int×Int×Int×Unit)(q:Int):Prop:=((0<=y.1/\y.1<s.length)/\(0<=y.2.1/\y.2.1<s.length)/\0<=y.2.2.1/\y.2.2.1<s.length)/\0<=q/\q<90
def Vu(f:FuncId)(a:List SV)(m:List ay):Sx.Call:=(FH.sw 114 3 TP 3 wC 3 (.three .int .int .int) [cF] (.one .int) Vt (λs y q=>((med s y.1 y.2.1 y.2.2.1 q).1:Int)) (λs y q=>((med s y.1 y.2.1 y.2.2.1 q).2:Int)) FH.none) f a m
theorem Nc:type_of% (nq Vu.eq_1):=nq Vu.eq_1
theorem AO:bQ Try.prog main Fz Vu:=FH.Kt (by decide) (by kernel_rfl) (λr=>rfl) (λs y q h=>by
 obtain⟨y1,y2,y3,⟨⟩⟩:=y;obtain⟨⟨⟨h1,h2⟩,⟨h3,h4⟩,h7,h8⟩,h5,h6⟩:=h;simp only at h1 h2 h3 h4 h7 h8;obtain⟨a,rfl⟩:=aY h1;obtain⟨b,rfl⟩:=aY h3;obtain⟨e,rfl⟩:=aY h7;obtain⟨c,rfl⟩:=aY h5;have:=GH (main:=main) (Fz:=Fz) s.toArray a b e c (by simpa using h2) (by simpa using h4) (by simpa using h8) (by omega)
 exact this) FH.au
theorem CW(X:Array Fk)(a q:Nat)(ha:0<a)(hb:a+1<X.size)(hn:a<1000000)(hq:q<90):
  bC Try.prog main Fz 113 [.vec 0 X.size, .int .i64 a, .ptr 1 [] 0,cF] [mv X, .blk 3 (.int .i64 q)]
   (.int .i64 (Sort.medianAdjacent lt X a q).1) [mv X, .blk 3 (.int .i64 (Sort.medianAdjacent lt X a q).2)]:=by
 refine wkA j113 [.tmp 8] 18 AO rfl ?_;have hw:z02.wrap ((a:Int) - 1)=((a - 1:Nat):Int):=by rw[aJ];omega
 have hw2:z02.wrap ((a:Int)+1)=((a+1:Nat):Int):=aJ;unfold j113;simp only[go_sem,seval,Nc,mv,hw,hw2,GI];refine⟨⟨⟨⟨z03 _,?_⟩,⟨z03 _,?_⟩,z03 _,?_⟩,z03 _,by omega⟩,rfl,rfl⟩
 ·simp;omega
 ·simp;omega
 ·simp;omega
def mdA(s:List Fk)(a q:Int):Nat×Nat:=Sort.medianAdjacent lt s.toArray a.toNat q.toNat
theorem Vw(X:Array Fk)(a q:Nat):mdA X.toList a q=Sort.medianAdjacent lt X a q:=rfl
def adV(s:List Fk)(y:Int×Unit)(q:Int):Prop:=(0<y.1/\y.1+1<s.length)/\(0<=q/\q<90)/\y.1<1000000
def Gpv(f:FuncId)(a:List SV)(m:List ay):Sx.Call:=(FH.sw 113 1 TP 3 wC 3 (.one .int) [cF] (.one .int) adV (λs y q=>((mdA s y.1 q).1:Int)) (λs y q=>((mdA s y.1 q).2:Int))<|
 FH.sw 114 3 TP 3 wC 3 (.three .int .int .int) [cF] (.one .int) Vt (λs y q=>((med s y.1 y.2.1 y.2.2.1 q).1:Int)) (λs y q=>((med s y.1 y.2.1 y.2.2.1 q).2:Int)) FH.none) f a m
theorem GK:type_of% (nq Gpv.eq_1):=nq Gpv.eq_1
theorem Vx:bQ Try.prog main Fz Gpv:=FH.Kt (by decide) (by kernel_rfl) (λr=>rfl) (λs y q h=>by
 obtain⟨y1,⟨⟩⟩:=y;obtain⟨⟨h1,h2⟩,⟨h3,h4⟩,h5⟩:=h;simp only at h1 h2 h5;obtain⟨a,rfl⟩:=aY (Int.le_of_lt h1);obtain⟨c,rfl⟩:=aY h3;have:=CW (main:=main) (Fz:=Fz) s.toArray a c (by omega) (by simp;omega) (by omega) (by omega)
 exact this) AO
end Go.Proofs.Ytpajfggdnobheaa.rH
namespace Go.Proofs.Ytpajfggdnobheaa.rH
variable {main:Bool} {Fz:Nat->Prop}
open D
def j82:JC:=(qN (o8 8 0<|o8 9 0<|.nil) (qN (o7 15 2<|o7 16 1<|qo 17 (.ar .sub (.t 15) (.t 16))<|o7 10 17<|.nil) (qN (eo 11 (.alloc 3 (.int .i64 0))<|.nil) (qN (o7 18 1<|o7 19 10<|qo 20 (.ar .quo (.t 19) (I 4))<|qL [20,18,1,10,0,3,11]<|qo 21 (.ar .mul (.t 20) (I 1))<|qo 22 (.ar .add (.t 18) (.t 21))<|o7 12 22<|.nil) (qM [1,10,0,12,3,11] (qN (o7 23 1<|o7 24 10<|qo 25 (.ar .quo (.t 24) (I 4))<|qo 26 (.ar .mul (.t 25) (I 2))<|qo 27 (.ar .add (.t 23) (.t 26))<|o7 13 27<|.nil) (qM [1,10,0,12,3,11,13] (qN (o7 28 1<|o7 29 10<|qo 30 (.ar .quo (.t 29) (I 4))<|qo 31 (.ar .mul (.t 30) (I 3))<|qo 32 (.ar .add (.t 28) (.t 31))<|o7 14 32<|.nil) (qM [10,0,12,3,11,13,14] (.seq (qN (o7 33 10<|qo 34 (.cmp .geq (.t 33) (I 8))<|.nil) (qO 34 (.seq (qN (o7 35 10<|qo 36 (.cmp .geq (.t 35) (I 50))<|.nil) (qM [36,0,12,3,11,13,14] (qO 36 (qN (o7 37 0<|o7 38 12<|o7 39 3<|eo 40 (.call 113 [(.t 37),(.t 38),(.t 11),(.t 39)])<|o7 12 40<|.nil) (qM [0,13,3,11,14,12] (qN (o7 41 0<|o7 42 13<|o7 43 3<|eo 44 (.call 113 [(.t 41),(.t 42),(.t 11),(.t 43)])<|o7 13 44<|.nil) (qM [0,14,3,11,12,13] (.ops<|o7 45 0<|o7 46 14<|o7 47 3<|eo 48 (.call 113 [(.t 45),(.t 46),(.t 11),(.t 47)])<|o7 14 48<|.nil))))) .skip))) (qM [0,12,13,14,3,11] (.ops<|o7 49 0<|o7 50 12<|o7 51 13<|qL [14,3,49,50,51,11]<|o7 52 14<|o7 53 3<|eo 54 (.call 114 [(.t 49),(.t 50),(.t 51),(.t 52),(.t 11),(.t 53)])<|o7 13 54<|.nil))) .skip)) (qM [11,13] (qN (o9 55 1 11<|.nil) (.block 0 (qN (oH 58 55 0<|o7 57 58<|.nil) (qO 57 (qN (o7 59 13<|o7 8 59<|o8 9 1<|.nil) .ret) (qN (oH 61 55 12<|o7 60 61<|.nil) (qO 60 (qN (qL [13]<|o7 62 13<|o7 8 62<|o8 9 2<|.nil) .ret) (qN (qL [13]<|o7 56 13<|o7 8 56<|o8 9 0<|.nil) .ret))))))))))))))))))
def ak4:JC:=(.seq (qN (o7 13 8<|o7 14 9<|oN 15 13 14<|.nil) (qO 15 .skip (.exit 0))) (.block 1 (.seq (.aZ<|o7 16 0<|qL [8,0,9,16]<|o7 17 8<|o7 18 0<|o7 19 9<|o7 20 0<|o7 21 9<|oJ 22 3 20 21<|oC 23 3 22<|qL [0,8,16,17,23,18,19,9]<|o7 24 0<|o7 25 8<|oJ 26 3 24 25<|oC 27 3 26<|qL [16,17,23,18,19,27,8,9,0]<|oJ 28 3 16 17<|oG 3 28 23<|oJ 29 3 18 19<|oG 3 29 27<|.nil) (qM [8,9,0] (qN (o7 30 8<|oI 31 30 1<|o7 8 31<|.nil) (.ops<|o7 32 9<|qo 33 (.ar .sub (.t 32) (I 1))<|o7 9 33<|.nil))))))
def j83:JC:=(qN (o7 10 1<|o7 8 10<|.nil) (qN (o7 11 2<|qo 12 (.ar .sub (.t 11) (I 1))<|o7 9 12<|.nil) (.block 0 (.loop [0] [8,9] ak4))))
def dZ:Sort.Hint->Int
 | .unknown=>0
 | .increasing=>1
 | .decreasing=>2
theorem zO{d:Array Fk}{a b c:Nat}(ha:a<d.size)(hb:b<d.size)(hc:c<d.size)(q:Nat):(Sort.median lt d a b c q).1<d.size/\(Sort.median lt d a b c q).2<=q+3:=by have k1:=wU (d:=d) ha hb q;have k2:=wU (d:=d) k1.2.1 hc (Sort.order2 lt d a b q).2.2;have k3:=wU (d:=d) k1.1 k2.1 (Sort.order2 lt d (Sort.order2 lt d a b q).2.1 c (Sort.order2 lt d a b q).2.2).2.2;exact⟨k3.2.1,by unfold Sort.median;simp only;omega⟩
def fZ(r:Nat×Nat):Nat×Sort.Hint:=(r.1,if r.2=0 then .increasing else if r.2=12 then .decreasing else .unknown)
theorem xk(r:Nat×Nat):((r.2:Int)=0->SV.cu [.int .i64 r.1, .int .i64 1]= .cu [.int .i64 (fZ r).1, .int .i64 (dZ (fZ r).2)])/\
  (¬ (r.2:Int)=0->((r.2:Int)=12->SV.cu [.int .i64 r.1, .int .i64 2]= .cu [.int .i64 (fZ r).1, .int .i64 (dZ (fZ r).2)])/\
  (¬ (r.2:Int)=12->SV.cu [.int .i64 r.1, .int .i64 0]= .cu [.int .i64 (fZ r).1, .int .i64 (dZ (fZ r).2)])):=by
 refine⟨λh=> ?_,λh=>⟨λh2=> ?_,λh2=> ?_⟩⟩
 ·rw[fZ,if_pos (by omega)];rfl
 ·rw[fZ,if_neg (by omega),if_pos (by omega)];rfl
 ·rw[fZ,if_neg (by omega),if_neg (by omega)];rfl
theorem NP(X:Array Fk)(a b:Nat)(hab:a<b)(hb:b<=X.size)(hX:X.size<1000000):
  bC Try.prog main Fz 82 [.vec 0 X.size, .int .i64 a, .int .i64 b,cF] [mv X]
   (.cu [.int .i64 (Sort.choosePivot lt X a b).1, .int .i64 (dZ (Sort.choosePivot lt X a b).2)]) [mv X]:=by
 refine wkA j82 [.tmp 8, .tmp 9] 63 Vx rfl ?_;obtain⟨l,hl⟩:∃ l:Nat,l=b - a:=⟨_,rfl⟩;have w1:z02.wrap ((b:Int) - a)=(l:Int):=by rw[aJ];omega
 have q4:(l:Int).tdiv 4=((l/4:Nat):Int):=rfl;have wq:z02.wrap ((l/4:Nat):Int)=((l/4:Nat):Int):=aJ;obtain⟨i,hi⟩:∃ i:Nat,i=a+l/4*1:=⟨_,rfl⟩;obtain⟨j,hj⟩:∃ i:Nat,i=a+l/4*2:=⟨_,rfl⟩;obtain⟨k,hk⟩:∃ i:Nat,i=a+l/4*3:=⟨_,rfl⟩;have m1:z02.wrap ((a:Int)+z02.wrap (((l/4:Nat):Int)*1))=(i:Int):=by rw[z0z ((((l/4:Nat):Int)*1)) (by omega),aJ];omega
 have m2:z02.wrap ((a:Int)+z02.wrap (((l/4:Nat):Int)*2))=(j:Int):=by rw[z0z ((((l/4:Nat):Int)*2)) (by omega),aJ];omega
 have m3:z02.wrap ((a:Int)+z02.wrap (((l/4:Nat):Int)*3))=(k:Int):=by rw[z0z ((((l/4:Nat):Int)*3)) (by omega),aJ];omega
 have z1:mdA X.toList (i:Int) 0=Sort.medianAdjacent lt X i 0:=rfl;have z2:med X.toList (i:Int) j k 0=Sort.median lt X i j k 0:=rfl;have p1:∀ u q:Nat,0<u->u+1<X.size->q<90->adV X.toList ((u:Int),()) (q:Int):=λu q h1 h2 h3=>⟨⟨by simp only;omega,by simp only[z07];omega⟩,⟨by omega,by omega⟩,by simp only;omega⟩
 have p2:∀ u v x q:Nat,u<X.size->v<X.size->x<X.size->q<90->Vt X.toList ((u:Int),(v:Int),(x:Int),()) (q:Int):=λu v x q h1 h2 h3 h4=>⟨⟨⟨by simp only;omega,by simp only[z07];omega⟩,⟨by simp only;omega,by simp only[z07];omega⟩,by simp only;omega,by simp only[z07];omega⟩,by omega,by omega⟩
 have sw:∀ q:Nat,(∀ R:Prop,((q:Int)=0->R)↔(q=0->R))/\∀ R:Prop,((q:Int)=12->R)↔(q=12->R):=λq=>⟨λR=>by constructor<;>intro h e<;>exact h (by omega),λR=>by constructor<;>intro h e<;>exact h (by omega)⟩
 by_cases h8:8<=l
 ·have h8':(8:Int)<=l:=by omega
  by_cases h50:50<=l
  ·have xq:(50:Int)<=l:=by omega
   unfold j82;simp only[go_sem,seval,GK,mv,w1,q4,wq,m1,m2,m3,h8',xq,z1,Vw,GI];have k1:=zO (d:=X) (a:=i - 1) (b:=i) (c:=i+1) (by omega) (by omega) (by omega) 0
   change (Sort.medianAdjacent lt X i 0).1<_/\(Sort.medianAdjacent lt X i 0).2<=_ at k1;have hc:Sort.choosePivot lt X a b=fZ (Sort.median lt X (Sort.medianAdjacent lt X i 0).1 (Sort.medianAdjacent lt X j (Sort.medianAdjacent lt X i 0).2).1 (Sort.medianAdjacent lt X k (Sort.medianAdjacent lt X j (Sort.medianAdjacent lt X i 0).2).2).1 (Sort.medianAdjacent lt X k (Sort.medianAdjacent lt X j (Sort.medianAdjacent lt X i 0).2).2).2):=by unfold Sort.choosePivot fZ;rw[<- hl];simp only[<- hi,<- hj,<- hk,ge_iff_le,if_pos h8,if_pos h50]
   rw[hc];generalize hr1:Sort.medianAdjacent lt X i 0=r1 at k1 ⊢;have k2:=zO (d:=X) (a:=j - 1) (b:=j) (c:=j+1) (by omega) (by omega) (by omega) r1.2
   change (Sort.medianAdjacent lt X j r1.2).1<_/\(Sort.medianAdjacent lt X j r1.2).2<=_ at k2;generalize hr2:Sort.medianAdjacent lt X j r1.2=r2 at k2 ⊢;have k3:=zO (d:=X) (a:=k - 1) (b:=k) (c:=k+1) (by omega) (by omega) (by omega) r2.2
   change (Sort.medianAdjacent lt X k r2.2).1<_/\(Sort.medianAdjacent lt X k r2.2).2<=_ at k3;generalize hr3:Sort.medianAdjacent lt X k r2.2=r3 at k3 ⊢;exact⟨p1 i 0 (by omega) (by omega) (by omega),p1 j _ (by omega) (by omega) (by omega),p1 k _ (by omega) (by omega) (by omega),p2 _ _ _ _ k1.1 k2.1 k3.1 (by omega),xk _⟩
  ·have xq:¬ (50:Int)<=l:=by omega
   unfold j82;simp only[go_sem,seval,GK,mv,w1,q4,wq,m1,m2,m3,h8',xq,z2];have hc:Sort.choosePivot lt X a b=fZ (Sort.median lt X i j k 0):=by unfold Sort.choosePivot fZ;rw[<- hl];simp only[<- hi,<- hj,<- hk,ge_iff_le,if_pos h8,if_neg h50]
   rw[hc];exact⟨p2 i j k 0 (by omega) (by omega) (by omega) (by omega),xk _⟩
 ·have h8':¬ (8:Int)<=l:=by omega
  unfold j82;simp only[go_sem,seval,mv,w1,q4,wq,m1,m2,m3,h8'];have hc:Sort.choosePivot lt X a b=fZ (j,0):=by unfold Sort.choosePivot fZ;rw[<- hl];simp only[<- hi,<- hj,<- hk,ge_iff_le,if_neg h8]
  rw[hc];rfl
theorem bf(X:Array Fk)(i j:Nat):(X.setIfInBounds i X[j]!).setIfInBounds j X[i]! =Sort.swp X i j:=rfl
theorem wdz{Z:Array Fk}{k:Nat}(h:k<Z.size):wd ((Z.toList.map wC.aA).getD k .junk)=3:=by rw[rd h];rfl
theorem aeh(X:Array Fk)(a b:Nat)(hab:a<b)(hb:b<=X.size)(hX:X.size<1000000):
  bC Try.prog main Fz 83 [.vec 0 X.size, .int .i64 a, .int .i64 b,cF] [mv X]
   (.cu []) [mv (Sort.reverseRange X a b)]:=by
 refine wkA j83 [] 34 FH.au rfl ?_;have w1:z02.wrap ((b:Int) - 1)=((b - 1:Nat):Int):=by rw[aJ];omega
 unfold j83;simp only[go_sem,seval,mv,w1];refine bU (Nat×Nat×Array Fk) (λs=>[.int .i64 s.1, .int .i64 s.2.1]) (λs=>[mv s.2.2]) (λs=>s.2.1<b/\s.2.2.size=X.size/\Sort.reverseLoop s.1 s.2.1 s.2.2=Sort.reverseRange X a b) (λs=>s.2.1 - s.1) (a,b - 1,X) ⟨by simp only;omega,rfl,rfl⟩ ?_ rfl ?_
 ·simp only[go_sem,seval]
 rintro⟨i,j,Y⟩ ⟨h1,h2,h3⟩;simp only at h1 h2 h3;have hl:Y.toList.length=X.toList.length:=by simpa using h2
 unfold ak4;by_cases h:i<j
 ·have h':(i:Int)<j:=by omega
  have w2:z02.wrap ((i:Int)+1)=((i+1:Nat):Int):=aJ;have w3:z02.wrap ((j:Int) - 1)=((j - 1:Nat):Int):=by rw[aJ];omega
  have hi:i<Y.size:=by omega
  have hj:j<Y.size:=by omega
  simp only[go_sem,seval,h',mv,rd hi,rd hj,wr,bn,aU,bf,w2,w3,z07,z0s];refine⟨⟨by omega,by omega⟩,hj,⟨by omega,by omega⟩,hi,⟨by omega,by omega⟩,hi,⟨by omega,by omega⟩,⟨hj,wdz (by simpa using hj)⟩,(i+1,j - 1,Sort.swp Y i j),⟨by simp only;omega,by simpa[Sort.swp] using h2,?_⟩,by simp only;omega,⟨rfl,rfl⟩,rfl⟩
  rw[<- h3,Sort.reverseLoop.eq_def i j,if_pos h]
 ·have h':¬ (i:Int)<j:=by omega
  simp only[go_sem,seval,h',mv];rw[<- h3,Sort.reverseLoop.eq_def i j,if_neg h]
end Go.Proofs.Ytpajfggdnobheaa.rH
namespace Go.Proofs.Ytpajfggdnobheaa.rH
variable {main:Bool} {Fz:Nat->Prop}
open D
def aeM:JC:=(.seq (.seq (.aZ<|o7 18 9<|o7 19 1<|qo 20 (.cmp .gtr (.t 18) (.t 19))<|o7 21 20<|qL [21,3,0,9,1,8,2]<|.sc false 34 21 (o7 22 3<|o7 23 0<|o7 24 9<|oJ 25 3 23 24<|oC 26 3 25<|o7 27 0<|o7 28 9<|qo 29 (.ar .sub (.t 28) (I 1))<|oJ 30 3 27 29<|oC 31 3 30<|eo 32 (.fO (.t 22) [(.t 26),(.t 31)])<|oZ 33 32 0<|.nil) (.t 33)<|.nil) (qO 34 .skip (.exit 2))) (qM [0,9,1,3,8,2] (.seq (.block 3 (.aZ<|o7 37 0<|o7 38 9<|o7 39 0<|o7 40 9<|qo 41 (.ar .sub (.t 40) (I 1))<|o7 42 0<|o7 43 9<|qo 44 (.ar .sub (.t 43) (I 1))<|oJ 45 3 42 44<|qL [45,0,9,37,38,39,41,1,3,8,2]<|oC 46 3 45<|o7 47 0<|o7 48 9<|oJ 49 3 47 48<|qL [49,37,38,46,39,41,9,1,3,0,8,2]<|oC 50 3 49<|oJ 51 3 37 38<|qL [51,46,39,41,50,9,1,3,0,8,2]<|oG 3 51 46<|oJ 52 3 39 41<|oG 3 52 50<|.nil)) (qM [9,1,3,0,8,2] (.ops<|o7 35 9<|qo 36 (.ar .sub (.t 35) (I 1))<|o7 9 36<|.nil)))))
def aeN:JC:=(qM [8,2,1,3,0] (.ops<|o7 15 8<|oI 16 15 1<|o7 8 16<|.nil))
def alf:JC:=(.seq (qN (o7 12 8<|o7 13 2<|oN 14 12 13<|.nil) (qO 14 .skip (.exit 0))) (.seq (.block 1 (qN (o7 17 8<|o7 9 17<|.nil) (qM [9,1,3,0,8,2] (.block 2 (.loop [1,3,0,8,2] [9] aeM))))) aeN))
def j79:JC:=(qN (o7 10 1<|oI 11 10 1<|o7 8 11<|.nil) (.block 0 (.loop [2,1,3,0] [8] alf)))
def NY:JC:=(.block 1 (qN (o7 13 10<|qo 14 (.ar .mul (I 2) (.t 13))<|oI 15 14 1<|o7 11 15<|.nil) (.seq (qN (qL [11,2,4,0,3,10]<|o7 16 11<|o7 17 2<|qo 18 (.cmp .geq (.t 16) (.t 17))<|.nil) (qO 18 (.exit 0) .skip)) (qM [11,2,4,0,3,10] (.seq (.seq (.aZ<|o7 19 11<|oI 20 19 1<|o7 21 2<|oN 22 20 21<|qL [22,4,0,3,11,10,2]<|o7 23 22<|.sc false 40 23 (o7 24 4<|o7 25 0<|o7 26 3<|o7 27 11<|qo 28 (.ar .add (.t 26) (.t 27))<|oJ 29 3 25 28<|oC 30 3 29<|o7 31 0<|o7 32 3<|o7 33 11<|qo 34 (.ar .add (.t 32) (.t 33))<|oI 35 34 1<|oJ 36 3 31 35<|oC 37 3 36<|eo 38 (.fO (.t 24) [(.t 30),(.t 37)])<|oZ 39 38 0<|.nil) (.t 39)<|.nil) (qM [40,11,4,0,3,10,2] (qO 40 (.ops<|o7 41 11<|oI 42 41 1<|o7 11 42<|.nil) .skip))) (qM [4,0,3,10,11,2] (.seq (.seq (.aZ<|o7 43 4<|o7 44 0<|o7 45 3<|o7 46 10<|qo 47 (.ar .add (.t 45) (.t 46))<|oJ 48 3 44 47<|qL [48,0,3,11,43,10,2,4]<|oC 49 3 48<|o7 50 0<|o7 51 3<|o7 52 11<|qo 53 (.ar .add (.t 51) (.t 52))<|qL [50,53,43,49,0,3,10,11,2,4]<|oJ 54 3 50 53<|oC 55 3 54<|qL [43,49,55,0,3,10,11,2,4]<|eo 56 (.fO (.t 43) [(.t 49),(.t 55)])<|oZ 57 56 0<|qE 58 57<|.nil) (qO 58 .ret .skip)) (qM [0,3,10,11,2,4] (.seq (.aZ<|o7 59 0<|o7 60 3<|o7 61 10<|qo 62 (.ar .add (.t 60) (.t 61))<|o7 63 0<|o7 64 3<|o7 65 11<|qo 66 (.ar .add (.t 64) (.t 65))<|qL [0,3,11,10,59,62,63,66,2,4]<|o7 67 0<|o7 68 3<|o7 69 11<|qo 70 (.ar .add (.t 68) (.t 69))<|oJ 71 3 67 70<|qL [71,0,3,10,59,62,63,66,11,2,4]<|oC 72 3 71<|o7 73 0<|o7 74 3<|o7 75 10<|qo 76 (.ar .add (.t 74) (.t 75))<|qL [73,76,59,62,72,63,66,11,2,4,0,3]<|oJ 77 3 73 76<|oC 78 3 77<|qL [59,62,72,63,66,78,11,2,4,0,3]<|oJ 79 3 59 62<|oG 3 79 72<|oJ 80 3 63 66<|oG 3 80 78<|.nil) (qM [11,2,4,0,3] (.ops<|o7 81 11<|o7 10 81<|.nil)))))))))))
def j110:JC:=(qN (o7 12 1<|o7 10 12<|.nil) (.block 0 (.loop [2,4,0,3] [10] NY)))
def alg:JC:=(.seq (qN (o7 20 11<|qo 21 (.cmp .geq (.t 20) (I 0))<|.nil) (qO 21 .skip (.exit 0))) (.seq (.block 1 (.ops<|o7 24 0<|o7 25 11<|o7 26 10<|o7 27 8<|o7 28 3<|eo 29 (.call 110 [(.t 24),(.t 25),(.t 26),(.t 27),(.t 28)])<|.nil)) (qM [11,0,10,8,3,9] (.ops<|o7 22 11<|qo 23 (.ar .sub (.t 22) (I 1))<|o7 11 23<|.nil))))
def aeO:JC:=(.seq (qN (o7 32 12<|qo 33 (.cmp .geq (.t 32) (I 0))<|.nil) (qO 33 .skip (.exit 2))) (.seq (.block 3 (.seq (.aZ<|o7 36 0<|o7 37 8<|o7 38 0<|o7 39 8<|o7 40 12<|qo 41 (.ar .add (.t 39) (.t 40))<|qL [0,8,12,36,37,38,41,9,3]<|o7 42 0<|o7 43 8<|o7 44 12<|qo 45 (.ar .add (.t 43) (.t 44))<|oJ 46 3 42 45<|qL [46,0,8,36,37,38,41,9,12,3]<|oC 47 3 46<|o7 48 0<|o7 49 8<|oJ 50 3 48 49<|qL [50,36,37,47,38,41,0,9,12,8,3]<|oC 51 3 50<|oJ 52 3 36 37<|qL [52,47,38,41,51,0,9,12,8,3]<|oG 3 52 47<|oJ 53 3 38 41<|oG 3 53 51<|.nil) (qM [0,9,12,8,3] (.ops<|o7 54 0<|o7 55 9<|o7 56 12<|o7 57 8<|o7 58 3<|eo 59 (.call 110 [(.t 54),(.t 55),(.t 56),(.t 57),(.t 58)])<|.nil)))) (qM [12,0,8,9,3] (.ops<|o7 34 12<|qo 35 (.ar .sub (.t 34) (I 1))<|o7 12 35<|.nil))))
def alh:JC:=(qM [10,0,8,9,3] (qN (o7 30 10<|qo 31 (.ar .sub (.t 30) (I 1))<|o7 12 31<|.nil) (.block 2 (.loop [0,8,9,3] [12] aeO))))
def j80:JC:=(qN (o7 13 1<|o7 8 13<|.nil) (qN (o8 9 0<|.nil) (qN (o7 14 2<|o7 15 1<|qo 16 (.ar .sub (.t 14) (.t 15))<|o7 10 16<|.nil) (.seq (qN (o7 17 10<|qo 18 (.ar .sub (.t 17) (I 1))<|qo 19 (.ar .quo (.t 18) (I 2))<|o7 11 19<|.nil) (qM [11,0,10,8,3,9] (.block 0 (.loop [0,10,8,3,9] [11] alg)))) alh))))
theorem swp_size(X:Array Fk)(i j:Nat):(Sort.swp X i j).size=X.size:=by simp[Sort.swp]
theorem aeg(X:Array Fk)(a b:Nat)(hb:b<=X.size)(hX:X.size<1000000)(ha:a<=b):
  bC Try.prog main Fz 79 [.vec 0 X.size, .int .i64 a, .int .i64 b,cF] [mv X]
   (.cu []) [mv (Sort.insertionSort lt X a b)]:=by
 refine wkA j79 [] 53 lZ rfl ?_;have w1:z02.wrap ((a:Int)+1)=((a+1:Nat):Int):=aJ;unfold j79;simp only[go_sem,seval,mv,w1];refine bU (Nat×Array Fk) (λs=>[.int .i64 s.1]) (λs=>[mv s.2]) (λs=>a<s.1/\s.1<=b+1/\s.2.size=X.size/\Sort.insOuter lt a b s.1 s.2=Sort.insertionSort lt X a b) (λs=>b+1 - s.1) (a+1,X) ⟨by simp only;omega,by simp only;omega,rfl,rfl⟩ ?_ rfl ?_
 ·simp only[go_sem,seval]
 rintro⟨i,Y⟩ ⟨h0,h1,h2,h3⟩;simp only at h0 h1 h2 h3;unfold alf;by_cases h:i<b
 ·have h':(i:Int)<b:=by omega
  simp only[go_sem,seval,h',mv];refine bU (Nat×Array Fk) (λs=>[.int .i64 s.1]) (λs=>[mv s.2]) (λs=>a<=s.1/\s.1<=i/\s.2.size=X.size/\Sort.insInner lt a s.1 s.2=Sort.insInner lt a i Y) (λs=>s.1) (i,Y) ⟨by simp only;omega,by simp only;omega,h2,rfl⟩ ?_ rfl ?_
  ·simp only[go_sem,seval]
  rintro⟨j,Z⟩ ⟨k0,k1,k2,k3⟩;simp only at k0 k1 k2 k3;have w2:z02.wrap ((i:Int)+1)=((i+1:Nat):Int):=aJ;have w3:z02.wrap ((j:Int) - 1)=((j:Int) - 1):=aJ;by_cases hj:a<j
  ·obtain⟨q,rfl⟩:∃ q,j=q+1:=⟨j - 1,by omega⟩
   have hj':((a:Int)< ((q+1:Nat):Int))=True:=by simp;omega
   have e1:(((q+1:Nat):Int) - 1)=(q:Int):=by omega
   rw[e1] at w3;have r1:q+1<Z.size:=by omega
   have r0:q<Z.size:=by omega
   unfold aeM;simp only[go_sem,seval,hj',w3,e1,mv,cZ,rd r1,rd r0,wr,bn,aU,bf,gB,z07,z0s];refine⟨⟨⟨⟨⟨by omega,by omega⟩,r1⟩,by omega,by omega⟩,r0⟩,λhc=>⟨⟨by omega,by omega⟩,r0,⟨by omega,by omega⟩,r1,⟨by omega,by omega⟩,r1,⟨by omega,by omega⟩,⟨r0,wdz (by simpa using r0)⟩,(q,Sort.swp Z (q+1) q),⟨by simp only;omega,by simp only;omega,by rw[swp_size];exact k2,?_⟩,by simp only;omega,rfl,rfl⟩,λhc=> ?_⟩
   ·rw[<- k3,Sort.insInner,if_pos (by simp only[z0g,decide_eq_true_eq];exact⟨hj,hc⟩)]
   ·unfold aeN;simp only[go_sem,seval,w2];refine⟨(i+1,Z),⟨by simp only;omega,by simp only;omega,k2,?_⟩,by simp only;omega,rfl,rfl⟩
    rw[<- h3,Sort.insOuter.eq_def lt a b i,if_pos h,<- k3,Sort.insInner,if_neg (by simp only[z0g,decide_eq_true_eq];exact λx=>hc x.2)]
  ·have hj':((a:Int)< (j:Int))=False:=by simp;omega
   have r1:j<Z.size:=by omega
   have r0:j - 1<Z.size:=by omega
   have e1:(z02.wrap ((j:Int) - 1)).toNat=j - 1:=by rw[w3];omega
   unfold aeM;simp only[go_sem,seval,hj',cZ,mv,rd r1,rd r0,e1,bn,aU];unfold aeN;simp only[go_sem,seval,w2];refine⟨(i+1,Z),⟨by simp only;omega,by simp only;omega,k2,?_⟩,by simp only;omega,rfl,rfl⟩
   rw[<- h3,Sort.insOuter.eq_def lt a b i,if_pos h,<- k3];cases j with
   |zero=>rfl
   |succ q=>rw[Sort.insInner,if_neg (by simp only[z0g,decide_eq_true_eq];exact λx=>hj x.1)]
 ·have h':¬ (i:Int)<b:=by omega
  simp only[go_sem,seval,h',mv];rw[<- h3,Sort.insOuter.eq_def,if_neg h]
theorem Ns{x:Bool}(h:¬ x=true):(!x)=true:=by cases x<;>simp_all
theorem Nu{x:Bool}(h:x=true):¬ (!x)=true:=by cases x<;>simp_all
theorem ab{p:Prop}[Decidable p]{x:Bool}(h1:p)(h2:x=true):(decide p&&x)=true:=by simp[h1,h2]
theorem WC{p:Prop}[Decidable p]{x:Bool}(h:¬ p):¬ (decide p&&x)=true:=by simp[h]
theorem WE{p:Prop}[Decidable p]{x:Bool}(h:¬ x=true):¬ (decide p&&x)=true:=by simp[h]
theorem WG(X:Array Fk)(lo hi first:Nat)(hf:first+hi<=X.size)(hX:X.size<1000000)(hlo:lo<1000000):
  bC Try.prog main Fz 110 [.vec 0 X.size, .int .i64 lo, .int .i64 hi, .int .i64 first,cF] [mv X]
   (.cu []) [mv (Sort.siftDown lt hi first lo X)]:=by
 refine wkA j110 [] 82 lZ rfl ?_;unfold j110;simp only[go_sem,seval,mv];refine bU (Nat×Array Fk) (λs=>[.int .i64 s.1]) (λs=>[mv s.2]) (λs=>s.1<1000000/\s.2.size=X.size/\Sort.siftDown lt hi first s.1 s.2=Sort.siftDown lt hi first lo X) (λs=>1000000 - s.1) (lo,X) ⟨hlo,rfl,rfl⟩ ?_ rfl ?_
 ·simp only[go_sem,seval]
 rintro⟨root,Z⟩ ⟨h0,h1,h2⟩;simp only at h0 h1 h2;have m1:z02.wrap (2*(root:Int))=2*(root:Int):=aJ;obtain⟨c,hc⟩:∃ c,c=2*root+1:=⟨_,rfl⟩;have m2:z02.wrap (2*(root:Int)+1)=(c:Int):=by rw[aJ];omega
 have m3:z02.wrap ((c:Int)+1)=((c+1:Nat):Int):=aJ;have m4:z02.wrap ((first:Int)+c)=((first+c:Nat):Int):=aJ
 have m5:z02.wrap (((first+c:Nat):Int)+1)=((first+c+1:Nat):Int):=aJ
 have m6:z02.wrap ((first:Int)+root)=((first+root:Nat):Int):=aJ
 have m7:z02.wrap ((first:Int)+((c+1:Nat):Int))=((first+c+1:Nat):Int):=aJ
 by_cases hch:hi<=c
 ·unfold NY;simp only[go_sem,seval,m1,m2,hch,mv,z1f];rw[<- h2,Sort.siftDown.eq_def,dif_pos (by omega)]
 have rc:first+c<X.size:=by omega
 have rr:first+root<X.size:=by omega
 have Dk:¬ 2*root+1≥hi:=by omega
 by_cases hc2:c+1<hi
 ·have rc1:first+c+1<X.size:=by omega
  unfold NY;simp only[go_sem,seval,m1,m2,m3,m4,m5,m6,m7,hch,hc2,cZ,mv,rd,rc,rr,rc1,wr,bn,aU,bf,gB,h1,z1e,z1f,z03];subst hc;refine⟨λhA=>⟨λhB=> ?_,λhB=>⟨(2*root+1+1,Sort.swp Z (first+root) (first+(2*root+1)+1)),⟨by simp only;omega,by rw[swp_size];exact h1,?_⟩,by simp only;omega,rfl,rfl⟩⟩,λhA=>⟨λhB=> ?_,λhB=>⟨(2*root+1,Sort.swp Z (first+root) (first+(2*root+1))),⟨by simp only;omega,by rw[swp_size];exact h1,?_⟩,by simp only;omega,rfl,rfl⟩⟩⟩
  ·rw[<- h2,Sort.siftDown.eq_def lt hi first root,dif_neg Dk,if_pos (ab hc2 hA)]
   exact(congrArg (λz:Array Fk=>[mv z]) (if_pos (Ns hB))).symm
  ·rw[<- h2,Sort.siftDown.eq_def lt hi first root,dif_neg Dk,if_pos (ab hc2 hA)]
   rw[if_neg (Nu (show lt Z[first+root]! Z[first+(2*root+2)]! =true from hB)),dif_pos (show 2*root+2<hi from hc2)]
   rfl
  ·rw[<- h2,Sort.siftDown.eq_def lt hi first root,dif_neg Dk,if_neg (WE hA),if_pos (Ns hB)]
  ·rw[<- h2,Sort.siftDown.eq_def lt hi first root,dif_neg Dk,if_neg (WE hA),if_neg (Nu hB)]
 ·unfold NY;simp only[go_sem,seval,m1,m2,m3,m4,m5,m6,hch,hc2,cZ,mv,rd,rc,rr,wr,bn,aU,bf,gB,h1,z1e,z1f,z03];subst hc;refine⟨λhB=> ?_,λhB=>⟨(2*root+1,Sort.swp Z (first+root) (first+(2*root+1))),⟨by simp only;omega,by rw[swp_size];exact h1,?_⟩,by simp only;omega,rfl,rfl⟩⟩
  ·rw[<- h2,Sort.siftDown.eq_def lt hi first root,dif_neg Dk,if_neg (WC hc2),if_pos (Ns hB)]
  ·rw[<- h2,Sort.siftDown.eq_def lt hi first root,dif_neg Dk,if_neg (WC hc2),if_neg (Nu hB)]
def aeP(s:List Fk)(y:Int×Int×Int×Nat×Unit):Prop:=0<=y.1/\0<=y.2.1/\0<=y.2.2.1/\y.2.2.1+y.2.1<=s.length/\s.length<1000000/\y.1<1000000/\y.2.2.2.1=24
def WH(s:List Fk)(y:Int×Int×Int×Nat×Unit):List Fk:=(Sort.siftDown lt y.2.1.toNat y.2.2.1.toNat y.1.toNat s.toArray).toList
theorem NZ(X:Array Fk)(lo hi first c:Nat):WH X.toList ((lo:Int),(hi:Int),(first:Int),c,())=(Sort.siftDown lt hi first lo X).toList:=rfl
theorem Bf{X:Array Fk}{lo hi first:Nat}(hf:first+hi<=X.size)(hX:X.size<1000000)(hlo:lo<1000000):aeP X.toList ((lo:Int),(hi:Int),(first:Int),24,()):=by refine⟨z03 _,z03 _,z03 _,?_,?_,?_,rfl⟩<;>simp only[z07]<;>omega
def Ghp(f:FuncId)(a:List SV)(m:List ay):Sx.Call:=(FH.sv 110 TP 3 wC (.four .int .int .int .NK) .unit aeP (λ_ _=>()) WH FH.none) f a m
theorem Ip:type_of% (nq Ghp.eq_1):=nq Ghp.eq_1
theorem WI:bQ Try.prog main Fz Ghp:=FH.jf (by decide) (by kernel_rfl) (λs y h=>by
 obtain⟨y1,y2,y3,y4,⟨⟩⟩:=y;obtain⟨h1,h2,h3,h4,h5,h6,h7⟩:=h;simp only at h1 h2 h3 h4 h5 h6 h7;obtain⟨a,rfl⟩:=aY h1;obtain⟨b,rfl⟩:=aY h2;obtain⟨c,rfl⟩:=aY h3;subst h7;have:=WG (main:=main) (Fz:=Fz) s.toArray a b c (by simp;omega) (by simp;omega) (by omega)
 exact this) FH.au
theorem sift_size(hi first root:Nat)(X:Array Fk):(Sort.siftDown lt hi first root X).size=X.size:=by
 induction h:hi - root using z15 generalizing root X with
 |ind n ih=>
  subst h;rw[Sort.siftDown.eq_def]
  repeat' split
  all_goals first|rfl|(rw[ih _ (by omega) _ _ rfl,swp_size])
theorem VU(X:Array Fk)(a b:Nat)(hb:b<=X.size)(hX:X.size<1000000)(ha:a<b):
  bC Try.prog main Fz 80 [.vec 0 X.size, .int .i64 a, .int .i64 b,cF] [mv X]
   (.cu []) [mv (Sort.heapSort lt X a b)]:=by
 refine wkA j80 [] 60 WI rfl ?_;obtain⟨l,hl⟩:∃ l,l=b - a:=⟨_,rfl⟩;have w1:z02.wrap ((b:Int) - a)=(l:Int):=by rw[aJ];omega
 have w2:z02.wrap ((l:Int) - 1)=((l - 1:Nat):Int):=by rw[aJ];omega
 have w3:(((l - 1:Nat):Int)).tdiv 2=(((l - 1)/2:Nat):Int):=rfl;have w4:z02.wrap ((((l - 1)/2:Nat):Int))=(((l - 1)/2:Nat):Int):=aJ;unfold j80;simp only[go_sem,seval,mv,w1,w2,w3,w4];refine bU (Nat×Array Fk) (λs=>[.int .i64 ((s.1:Int) - 1)]) (λs=>[mv s.2]) (λs=>s.1<=l/\s.2.size=X.size/\Sort.heapBuild lt l a s.1 s.2=Sort.heapBuild lt l a ((l - 1)/2+1) X) (λs=>s.1) ((l - 1)/2+1,X) ⟨by simp only;omega,rfl,rfl⟩ ?_ rfl ?_
 ·simp only[go_sem,seval];omega
 rintro⟨k,Z⟩ ⟨h0,h1,h2⟩;simp only at h0 h1 h2;unfold alg;cases k with
 |succ k=>
  have e1:(((k+1:Nat):Int) - 1)=(k:Int):=by omega
  have w5:z02.wrap ((k:Int) - 1)=(k:Int) - 1:=aJ;simp only[go_sem,seval,e1,w5,Ip,mv,NZ,z03];refine⟨⟨h1.symm,Bf (by omega) (by omega) (by omega)⟩,(k,Sort.siftDown lt l a k Z),⟨by simp only;omega,by rw[sift_size];exact h1,?_⟩,by simp only;omega,rfl,rfl⟩
  rw[<- h2,Sort.heapBuild]
 |zero=>
  have e1:(((0:Nat):Int) - 1)=(-1:Int):=by omega
  simp only[go_sem,seval];unfold alh;simp only[go_sem,seval,w2];refine bU (Nat×Array Fk) (λs=>[.int .i64 ((s.1:Int) - 1)]) (λs=>[mv s.2]) (λs=>s.1<=l/\s.2.size=X.size/\Sort.heapPop lt a s.1 s.2=Sort.heapSort lt X a b) (λs=>s.1) (l,Z) ⟨by simp only;omega,h1,?_⟩ ?_ rfl ?_
  ·rw[Sort.heapBuild] at h2;rw[h2,Sort.heapSort,<- hl]
  ·simp only[go_sem,seval];omega
  rintro⟨k,Y⟩ ⟨h3,h4,h5⟩;simp only at h3 h4 h5;cases k with
  |succ k=>
   have e1:(((k+1:Nat):Int) - 1)=(k:Int):=by omega
   have w5:z02.wrap ((k:Int) - 1)=(k:Int) - 1:=aJ;have w6:z02.wrap ((a:Int)+k)=((a+k:Nat):Int):=aJ;have r1:a<X.size:=by omega
   have r2:a+k<X.size:=by omega
   have z0:∀ Q:Array Fk,WH Q.toList (0,(k:Int),(a:Int),24,())=(Sort.siftDown lt k a 0 Q).toList:=λQ=>rfl;unfold aeO;simp only[go_sem,seval,e1,w5,w6,Ip,mv,z0,rd,r1,r2,wr,bn,aU,bf,h4,z1e,z03];refine⟨⟨by rw[swp_size,h4],Bf (lo:=0) (by rw[swp_size];omega) (by rw[swp_size];omega) (by omega)⟩,(k,Sort.siftDown lt k a 0 (Sort.swp Y a (a+k))),⟨by simp only;omega,by rw[sift_size,swp_size];exact h4,?_⟩,by simp only;omega,rfl,rfl⟩
   rw[<- h5,Sort.heapPop]
  |zero=>
   have e1:(((0:Nat):Int) - 1)=(-1:Int):=by omega
   unfold aeO;simp only[go_sem,seval];rw[<- h5,Sort.heapPop]
end Go.Proofs.Ytpajfggdnobheaa.rH
