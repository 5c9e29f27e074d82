/- A part of the proof of StripeRuns. Conditions: none. -/
import Derived.Test.YtpajfggdnobheaaCo15
import Derived.Test.YtpajfggdnobheaaCoH
set_option linter.unusedVariables false
set_option linter.unusedSimpArgs false
namespace Go.Sx
open Go Go.Conc Go.RowKit
def ioW (w:World):Os×Tape×Array (Nat×ByteArray):=(w.os,w.tape,w.output)
theorem Rel.io {O F:Nat→Prop} {w w1:World} (h:Rel O F w w1):ioW w1=ioW w:=by
 unfold ioW;rw [h.os,h.tape,h.output]
theorem Gua.io {O F:Nat→Prop} {w w1:World} {es:Array Event} (h:Gua O F w w1 es):ioW w1=ioW w:=by
 unfold ioW;rw [h.os,h.tape,h.output]
section
variable {P:Program} {main:Bool} {F:Nat→Prop} {S S':Goroutine→OW→Prop}
theorem Co.mono (hs:∀ g' x',S g' x'→S' g' x') {g:Goroutine} {x:OW} (h:Co P main F S g x):Co P main F S' g x:=by
 induction h with
 |stop h=>exact .stop fun w1 hr=>hs _ _ (h w1 hr)
 |step nx wx ex hs1 h1 h2 ih=>exact .step nx wx ex hs1 h1 ih
theorem Co.io (io0:Os×Tape×Array (Nat×ByteArray)) (hs:∀ g' x',ioW x'.w=io0→S g' x'→S' g' x') {g:Goroutine} {x:OW} (h:Co P main F S g x) (hio:ioW x.w=io0):Co P main F S' g x:=by
 induction h with
 |stop h=>exact .stop fun w1 hr=>hs _ _ (hr.io.trans hio) (h w1 hr)
 |step nx wx ex hs1 h1 h2 ih=>exact .step nx wx ex hs1 h1 fun w1 hr=>ih w1 hr (((h1 w1 hr).2.io.trans hr.io).trans hio)
variable {Φ:Fan} {End:List Nat→Goroutine→OW→Prop}
theorem MainStop.mono {End':List Nat→Goroutine→OW→Prop} (he:∀ got g x,End got g x→End' got g x):∀ (acts:List MAct) (cs got:List Nat) (g:Goroutine) (x:OW),MainStop P F Φ End acts cs got g x→MainStop P F Φ End' acts cs got g x
 |[],cs,got,g,x,h=>he got g x h
 | .mk cap::r,cs,got,g,x,h=>by
  obtain ⟨h1,g',h2,h3⟩:=h
  exact ⟨h1,g',h2,h3.mono fun g x hs=>MainStop.mono he r _ _ g x hs⟩
 | .go j::r,cs,got,g,x,h=>by
  obtain ⟨h1,g',child,h2,h3,h4,h5,h6⟩:=h
  exact ⟨h1,g',child,h2,h3,h4,h5,h6.mono fun g x hs=>MainStop.mono he r _ _ g x hs⟩
 | .send j v::r,cs,got,g,x,h=>by
  obtain ⟨c,h1,h2,z,sh,h3,h4⟩:=h
  exact ⟨c,h1,h2,z,sh,h3,h4.mono fun g x hs=>MainStop.mono he r _ _ g x hs⟩
 | .close j::r,cs,got,g,x,h=>by
  obtain ⟨c,h1,h2,h3,g',h4,h5,h6⟩:=h
  exact ⟨c,h1,h2,h3,g',h4,h5,h6.mono fun g x hs=>MainStop.mono he r _ _ g x hs⟩
 | .recv::r,cs,got,g,x,h=>by
  obtain ⟨c,h1,h2,z,sh,h3,h4,h5⟩:=h
  exact ⟨c,h1,h2,z,sh,h3,fun v ok j B w' a b c d e=>(h4 v ok j B w' a b c d e).mono fun g x hs=>MainStop.mono he r _ _ g x hs,fun ok=>by cases ok⟩
theorem MainStop.io (io0:Os×Tape×Array (Nat×ByteArray)):∀ (acts:List MAct) (cs got:List Nat) (g:Goroutine) (x:OW),ioW x.w=io0→MainStop P F Φ End acts cs got g x→MainStop P F Φ (fun got g x=>End got g x∧ioW x.w=io0) acts cs got g x
 |[],cs,got,g,x,hio,h=>⟨h,hio⟩
 | .mk cap::r,cs,got,g,x,hio,h=>by
  obtain ⟨h1,g',h2,h3⟩:=h
  exact ⟨h1,g',h2,h3.io io0 (fun g x hi hs=>MainStop.io io0 r _ _ g x hi hs) hio⟩
 | .go j::r,cs,got,g,x,hio,h=>by
  obtain ⟨h1,g',child,h2,h3,h4,h5,h6⟩:=h
  exact ⟨h1,g',child,h2,h3,h4,h5,h6.io io0 (fun g x hi hs=>MainStop.io io0 r _ _ g x hi hs) hio⟩
 | .send j v::r,cs,got,g,x,hio,h=>by
  obtain ⟨c,h1,h2,z,sh,h3,h4⟩:=h
  exact ⟨c,h1,h2,z,sh,h3,h4.io io0 (fun g x hi hs=>MainStop.io io0 r _ _ g x hi hs) hio⟩
 | .close j::r,cs,got,g,x,hio,h=>by
  obtain ⟨c,h1,h2,h3,g',h4,h5,h6⟩:=h
  exact ⟨c,h1,h2,h3,g',h4,h5,h6.io io0 (fun g x hi hs=>MainStop.io io0 r _ _ g x hi hs) hio⟩
 | .recv::r,cs,got,g,x,hio,h=>by
  obtain ⟨c,h1,h2,z,sh,h3,h4,h5⟩:=h
  exact ⟨c,h1,h2,z,sh,h3,fun v ok j B w' a b c d e=>(h4 v ok j B w' a b c d e).io io0 (fun g x hi hs=>MainStop.io io0 r _ _ g x hi hs) (d.io.trans hio),fun ok=>by cases ok⟩
end
section
variable {P:Program} {F:Nat→Prop} {Φ:Fan} {cap:Nat} {End:List Nat→Goroutine→OW→Prop} {acts:List MAct}
theorem stepG_over {f:Func} {fr:Frame} {v:Value} {w:World} (hm:fr.mode= .returning) (hd:fr.defers=[]) (hn:fr.kind= .normal) (hf:P.funcs[fr.fn]? =some f) (hi:P.inits.idxOf? fr.fn=none) (hr:(results f fr.tmps).run P w= .ok v w):
  Go.stepG P true (G fr []) w= .ended (.done v) w (seen P fr.fn ((results f fr.tmps).events P w #[])):=by
 simp [G,Go.stepG,unwind,doReturn,hm,hn,hd,hf,hi,hr,GStep.after]
theorem FM.init {g:Goroutine} {w:World} (hF:∀ b,F b↔b<w.heap.size) (hs:g.status= .running) (hwf:WF Φ cap 0 0 0 acts) (h:Co P true F (MainStop P F Φ End acts [] []) g ⟨w,fun _=>False⟩):
  FM P F Φ cap End ⟨acts,[],[],[],fun _ _=>False,[⟨true,MainStop P F Φ End acts [] [],g,⟨w,fun _=>False⟩⟩]⟩ #[g] w #[]:=by
 have hn0:∀ (i:Nat) (n:Node),[(⟨true,MainStop P F Φ End acts [] [],g,⟨w,fun _=>False⟩⟩:Node)][i]? =some n→i=0∧n=⟨true,MainStop P F Φ End acts [] [],g,⟨w,fun _=>False⟩⟩:=fun i n h=>by
  cases i with
  |zero=>exact ⟨rfl,(Option.some.inj h).symm⟩
  |succ i=>simp at h
 refine ⟨⟨⟨fun b hb=>(hF b).1 hb,fun b hb=>by simp at hb,fun i b hb=>hb.elim,fun i j b hb=>hb.elim⟩,⟨?_,?_,fun k a hk=> ?_⟩,fun op hop=>by simp at hop,rfl,fun i b hb=>hb.elim,fun i n hn=> ?_⟩,List.nodup_nil,hwf,rfl,fun c hc=>by simp at hc,fun c hc=>by simp at hc,fun n g' hn hg=> ?_,fun j n g' hn=> ?_,⟨List.nodup_nil,fun j=>by simp⟩,fun c n g' hc=>by simp at hc⟩
 ·intro op hop
  simp at hop
 ·rintro said ⟨i,j,_,⟨a,b,h1,_⟩,_⟩
  simp [Trace.act?] at h1
 ·simp [touchAt,Trace.act?] at hk
 ·obtain ⟨rfl,rfl⟩:=hn0 i n hn
  exact ⟨rfl,rfl,Rel.refl _ _ _,h⟩
 ·obtain ⟨_,rfl⟩:=hn0 0 n hn
  obtain rfl:g=g':=by simpa using hg
  exact ⟨rfl, .inl (Runs.self hs)⟩
 ·obtain ⟨h0,_⟩:=hn0 _ n hn
  omega
end
theorem callst_one {P:Program} {main:Bool} {F:Nat→Prop} {ι:Type _} {S:Ses ι} {quiet tf:FuncId→Bool} {ε:Env} {m:List Res} {x:OW} {s:ι} {f:FuncId} {tc:TC} {t1 nt:Nat} {nr:Bool} (hc:tIs P quiet tf f=some (tc.flat,[.tmp t1],nt,nr)) {args:List SV} {vs:List Value} (hg:GoodO F ε m x) (ha:SatA args ε vs) (hl:args.length≤nt)
  {K:SV→ι→Prop}
  (h:∀ a,TS F nt [] ε.H (fun _=>none) ε (argF 0 args) m a x→TW P main F S quiet tf f tc (fun e a' s' x'=>e= .ret∧∃ ε' y1 m',K y1 s'∧TS F nt [] ε.H (fun _=>none) ε' (ofF [t1] [y1] .nil) m' a' x') a s x):
  CallsT P main F S f vs.toArray s x (fun v s' x'=> ∃ ε' y1 m',K y1 s'∧GoodO F ε' m' x'∧(∀ b o,ε.H b=some o→ε'.H b=some o)∧SatV ε' y1 v):=by
 obtain ⟨func,body,hf,hb,hcc,hrs,hnt,hname,_,_⟩:=tIs_ok hc
 have hlen:args.length=vs.length:=by
  clear h hl hc
  induction args generalizing vs with
  |nil=>simp only [SatA] at ha;subst ha;rfl
  |cons y r ih=>simp only [SatA] at ha;obtain ⟨cs,t,rfl,_,h2⟩:=ha;simp [ih h2]
 refine callst_of hf hb ?_
 have hT:TS F nt [] ε.H (fun _=>none) ε (argF 0 args) m {tmps:=vs.toArray++Array.replicate (func.ntmps - vs.toArray.size) undef,defers:=[]} x:=by
  refine ⟨hg,⟨_,argF_rep args nt hl,?_⟩,rfl,fun b o hb=>(by cases hb),fun _ _ h=>h⟩
  have:=slots_start ha (nt - args.length)
  rw [hnt,show vs.toArray.size=args.length by simp [hlen]]
  exact this
 refine (h _ hT body hcc).mono fun e a' s' x' hh=> ?_
 obtain ⟨rfl,ε',y1,m',hK,hT'⟩:=hh
 refine ⟨hT'.d,a'.tmps.getD t1 undef,⟨ε',y1,m',hK,hT'.g,hT'.h,?_⟩,fun w1 hw=> ?_⟩
 ·have e1:=hT'.s.sat t1
  have l1:look t1 (ofF [t1] [y1] .nil)=y1:=by simp [ofF,look]
  rw [l1] at e1
  exact e1
 ·have hm:([ResultVar.tmp t1].mapM (resV a'.tmps)).run P w1= .ok [a'.tmps.getD t1 undef] w1:=rfl
  refine ⟨run_results hrs hm,fun e he=> ?_⟩
  rw [ev_results hrs hm] at he
  simp [List.mapM_cons,resV] at he
theorem fan_law {P:Program} {Φ:Fan} {cap:Nat} {acts:List MAct} {f:FuncId} {args:Array Value} {W:World} (hi:P.inits.idxOf? f=none) (hwf:WF Φ cap 0 0 0 acts)
  (h:∀ End,CallsT P true (fun b=>b<W.heap.size) (mainSes P (fun b=>b<W.heap.size) Φ End) f args ⟨acts,[],[]⟩ ⟨W,fun _=>False⟩ (fun v s' x'=>s'.acts=[]∧v= .bool true∧(∀ b,b<W.heap.size→x'.w.heap[b]? =W.heap[b]?)∧W.heap.size≤x'.w.heap.size)):
  ∃ N last o w' t',runNT P (N+1) (solo (G (Frame.enter P f args .normal) []) W) #[]=(.ended o w',t')∧runN P N (solo (G (Frame.enter P f args .normal) []) W)= .next last∧
   Go.step P last= .ended o w'∧Go.Conc.Good P (fun v w'=>v= .bool true∧Below W.heap.size W w') last o w' t':=by
 let F:Nat→Prop:=fun b=>b<W.heap.size
 let Post0:Value→World→Prop:=fun v w'=>v= .bool true∧(∀ b,b<W.heap.size→w'.heap[b]? =W.heap[b]?)∧W.heap.size≤w'.heap.size
 let End0:List Nat→Goroutine→OW→Prop:=EndOK P F Post0
 have hco:Co P true F (MainStop P F Φ End0 acts [] []) (G (Frame.enter P f args .normal) []) ⟨W,fun _=>False⟩:=by
  refine h End0 [] fun v s' x' fr hR hfn hm hd hn ⟨func,hf,hres⟩=> .stop fun w1 hr=> ?_
  obtain ⟨hacts,rfl,hheap,hsz⟩:=hR
  show MainStop P F Φ End0 s'.acts s'.cs s'.got _ _
  rw [hacts]
  refine ⟨rfl, .bool true,seen P fr.fn ((results func fr.tmps).events P w1 #[]),stepG_over hm hd hn (hfn▸hf) (hfn▸hi) (hres w1 hr).1,fun e he=> ?_,rfl,fun b hb=> ?_,Nat.le_trans hsz hr.size⟩
  ·rw [seen_def] at he
   rcases seen_fold_sub _ _ _ _ _ he with h1|h1
   ·simp at h1
   ·exact (hres w1 hr).2 e (by simpa using h1)
  ·rw [hr.heap b (.inr hb)];exact hheap b hb
 have hco2:Co P true F (MainStop P F Φ (fun got g x=>End0 got g x∧ioW x.w=ioW W) acts [] []) (G (Frame.enter P f args .normal) []) ⟨W,fun _=>False⟩:=
  hco.io (ioW W) (fun g x hio hs=>MainStop.io (ioW W) acts [] [] g x hio hs) rfl
 have hco3:Co P true F (MainStop P F Φ (EndOK P F fun v w'=>v= .bool true∧Below W.heap.size W w') acts [] []) (G (Frame.enter P f args .normal) []) ⟨W,fun _=>False⟩:=by
  have e:∀ got g x,End0 got g x∧ioW x.w=ioW W→EndOK P F (fun v w'=>v= .bool true∧Below W.heap.size W w') got g x:=by
   rintro got g x ⟨⟨h1,v,es,h2,h3,rfl,h5,h6⟩,hio⟩
   refine ⟨h1,_,es,h2,h3,rfl,?_⟩
   unfold ioW at hio
   simp only [Prod.mk.injEq] at hio
   exact ⟨hio.1,hio.2.1,hio.2.2,h6,h5⟩
  exact hco2.mono fun g x hs=>MainStop.mono e acts [] [] g x hs
 exact (FM.init (fun b=>Iff.rfl) rfl hwf hco3).ends none
end Go.Sx
