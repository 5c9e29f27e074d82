/- A part of the proof of StripeRuns. Conditions: none. -/
import Derived.Test.YtpajfggdnobheaaCo5
import Derived.Test.YtpajfggdnobheaaCoH
import Derived.Conc.SmallLaws
import Derived.Conc.PipeGen
set_option linter.unusedVariables false
set_option linter.unusedSimpArgs false
section
namespace Go.Sx
open Go Go.Conc
section
variable {P:Program} {main:Bool} {F:Nat→Prop} {o:Oper} {a:Act}
theorem run_recvOp {T e:TypeId} {dir:ChanDir} {ch:Operand} {ok:Bool} {c:Nat} {z:Value} (ho:o.op= .recv T ch ok) (hc:a.eval ch= .chan (some c)) (hT:P.underlying T=some (.chan dir e)) (hz:∀ w,(zeroValue e).run P w= .ok z w) (he:∀ w,(zeroValue e).events P w #[]= #[]) (w:World):
  (execOp a.eval o).run P w= .ok (.comm #[rcase c z] true (.recv ok)) w∧(execOp a.eval o).events P w #[]= #[]:=by
 unfold execOp
 simp only [ho]
 constructor
 ·simp [run_underlying hT,hz,hc,rcase]
 ·simp [run_underlying hT,hz,he,hc,rcase]
theorem run_sendOp {ch y:Operand} {c:Nat} {v:Value} (ho:o.op= .send ch y) (hc:a.eval ch= .chan (some c)) (hv:a.eval y=v) (w:World):
  (execOp a.eval o).run P w= .ok (.comm #[scase c v (.tuple #[])] true .send) w∧(execOp a.eval o).events P w #[]= #[]:=by
 unfold execOp
 simp only [ho]
 exact ⟨by simp [hc,hv,scase],rfl⟩
section
variable {ops:Array Oper} {b:Frame} {k:List Item} {cs:List Frame} {i:Nat} {rest:List Nat}
theorem served_op (ho:ops[i]? =some o) (v:Value):Go.Conc.served (G (b.at a (.inRegion ops (i::rest)::k)) cs) v=G (b.at (a.put o.dst v) (.inRegion ops rest::k)) cs:=by
 rw [served_G]
 simp [ho]
theorem recvAt_op (ho:ops[i]? =some o) (hw:Region.wanted o (yielded ops a.tmps)=true) (hk:b.kind≠ .early) {c:Nat} {z:Value} {ok:Bool} (hr:∀ w,(execOp a.eval o).run P w= .ok (.comm #[rcase c z] true (.recv ok)) w∧(execOp a.eval o).events P w #[]= #[])
  {K:Value→Bool→Goroutine→Prop} (h1:∀ v,K v true (G (b.at (a.put o.dst (recvd ok v true)) (.inRegion ops rest::k)) cs)) (h2:K z false (G (b.at (a.put o.dst (recvd ok z false)) (.inRegion ops rest::k)) cs)):
  RecvAt P main c K (G (b.at a (.inRegion ops (i::rest)::k)) cs):=by
 refine ⟨rfl,z, .recv ok,fun w=>by rw [stepG_comm ho hw hk (hr w).1,listed_none (hr w).2],fun v=> ?_,?_⟩
 ·rw [finishComm_recv,served_op ho];exact h1 v
 ·rw [finishComm_recv,served_op ho];exact h2
theorem sendAt_op (ho:ops[i]? =some o) (hw:Region.wanted o (yielded ops a.tmps)=true) (hk:b.kind≠ .early) {c:Nat} {v:Value} (hr:∀ w,(execOp a.eval o).run P w= .ok (.comm #[scase c v (.tuple #[])] true .send) w∧(execOp a.eval o).events P w #[]= #[])
  {K:Goroutine→Prop} (h:K (G (b.at (a.put o.dst undef) (.inRegion ops rest::k)) cs)):SendAt P main c v K (G (b.at a (.inRegion ops (i::rest)::k)) cs):=by
 refine ⟨rfl, .tuple #[], .send,fun w=>by rw [stepG_comm ho hw hk (hr w).1,listed_none (hr w).2],?_⟩
 rw [finishComm_send,served_op ho];exact h
end
end
inductive HS where
 |hears (l:List Value)
 |tells
def handSes (P:Program) (F:Nat→Prop) (Φ:Fan) (cin cout j:Nat):Ses HS
 | .hears l=>HandStop P F Φ cin cout j l
 | .tells=>OutStop P Φ cout j
section
variable {P:Program} {F:Nat→Prop} {Φ:Fan} {cin cout j:Nat} {fn:FuncId} {o:Oper} {a:Act} {x:OW} {K:Act→HS→OW→Prop}
theorem opt_hear {m:Value} {l:List Value} {z:Value} (hr:∀ w,(execOp a.eval o).run P w= .ok (.comm #[rcase cin z] true (.recv true)) w∧(execOp a.eval o).events P w #[]= #[])
  (h:∀ w1,Rel x.O F x.w w1→K (a.put o.dst (.tuple #[m, .bool true])) (.hears l) ⟨w1,x.O⟩):OpT P false F (handSes P F Φ cin cout j) fn o a K (.hears (m::l)) x:=by
 intro ops b k cs i rest hb hk ho hw hc
 refine .stop fun w1 h1=> ?_
 simp only [handSes,HandStop]
 refine recvAt_op ho hw hk hr (fun v _ hv=> ?_) fun h=>by cases h
 subst hv
 exact hc _ _ _ (h w1 h1)
theorem opt_shut {z:Value} (hr:∀ w,(execOp a.eval o).run P w= .ok (.comm #[rcase cin z] true (.recv true)) w∧(execOp a.eval o).events P w #[]= #[])
  (h:∀ w1,Rel x.O F x.w w1→K (a.put o.dst (.tuple #[z, .bool false])) .tells ⟨w1,x.O⟩):OpT P false F (handSes P F Φ cin cout j) fn o a K (.hears []) x:=by
 intro ops b k cs i rest hb hk ho hw hc
 refine .stop fun w1 h1=> ?_
 simp only [handSes,HandStop]
 exact recvAt_op ho hw hk hr (fun v h=>by cases h) fun _=>hc _ _ _ (h w1 h1)
theorem opt_tell {v:Value} {B:Nat→Prop} (hr:∀ w,(execOp a.eval o).run P w= .ok (.comm #[scase cout v (.tuple #[])] true .send) w∧(execOp a.eval o).events P w #[]= #[]) (hB:∀ b,B b→x.O b) (hout:∀ w1,Rel x.O F x.w w1→Φ.Out j v B w1) {ops:Array Oper} {b:Frame} {k:List Item} {cs:List Frame} {i:Nat} {rest:List Nat}
  (hk:b.kind≠ .early) (ho:ops[i]? =some o) (hw:Region.wanted o (yielded ops a.tmps)=true) (hq:HandE P (G (b.at (a.put o.dst undef) (.inRegion ops rest::k)) cs)):Co P false F (OutStop P Φ cout j) (G (b.at a (.inRegion ops (i::rest)::k)) cs) x:=
 .stop fun w1 h1=>⟨v,B,hB,hout w1 h1,sendAt_op ho hw hk hr hq⟩
end
structure MS where
 acts:List MAct
 cs:List Nat
 got:List Nat
def mainSes (P:Program) (F:Nat→Prop) (Φ:Fan) (End:List Nat→Goroutine→OW→Prop):Ses MS:=fun s=>MainStop P F Φ End s.acts s.cs s.got
section
variable {P:Program} {F:Nat→Prop} {Φ:Fan} {End:List Nat→Goroutine→OW→Prop} {fn:FuncId} {o:Oper} {a:Act} {x:OW} {K:Act→MS→OW→Prop} {l:List MAct} {cs got:List Nat}
theorem opt_mk {cap:Nat} (hr:∀ w,(execOp a.eval o).run P w= .ok (.value (.chan (some w.heap.size))) (w.alloc (.chan cap #[] false 0 0 false))∧(execOp a.eval o).events P w #[]= #[])
  (h:∀ w1,Rel x.O F x.w w1→K (a.put o.dst (.chan (some w1.heap.size))) ⟨l,cs++[w1.heap.size],got⟩ ⟨w1.alloc (.chan cap #[] false 0 0 false),x.O⟩):OpT P true F (mainSes P F Φ End) fn o a K ⟨.mk cap::l,cs,got⟩ x:=by
 intro ops b k cs' i rest hb hk ho hw hc
 refine .stop fun w1 h1=>⟨rfl,_,?_,hc _ _ _ (h w1 h1)⟩
 rw [stepG_value ho hw hk (hr w1).1,listed_none (hr w1).2]
theorem opt_go {j:Nat} {d:Deferred} {f:Fn} {c:Array Value} (hr:∀ w,(execOp a.eval o).run P w= .ok (.spawn d) w∧(execOp a.eval o).events P w #[]= #[]) (hd:d.target= .fn f c)
  (hch:∀ w1,Rel x.O F x.w w1→∃ cin cout,cs[j+1]? =some cin∧cs[0]? =some cout∧HandS P F Φ cin cout j (Φ.msgs j) (born P d) ⟨w1,fun _=>False⟩) (h:∀ w1,Rel x.O F x.w w1→K (a.put o.dst undef) ⟨l,cs,got⟩ ⟨w1,x.O⟩):
  OpT P true F (mainSes P F Φ End) fn o a K ⟨.go j::l,cs,got⟩ x:=by
 intro ops b k cs' i rest hb hk ho hw hc
 refine .stop fun w1 h1=>⟨rfl,_,_,?_,rfl,rfl,hch w1 h1,hc _ _ _ (h w1 h1)⟩
 rw [stepG_spawn ho hw hk (hr w1).1 hd,listed_none (hr w1).2]
theorem opt_say {j c:Nat} {v:Value} (hc:cs[j+1]? =some c) (hr:∀ w,(execOp a.eval o).run P w= .ok (.comm #[scase c v (.tuple #[])] true .send) w∧(execOp a.eval o).events P w #[]= #[])
  (h:∀ w1,Rel x.O F x.w w1→K (a.put o.dst undef) ⟨l,cs,got⟩ ⟨w1,x.O⟩):OpT P true F (mainSes P F Φ End) fn o a K ⟨.send j v::l,cs,got⟩ x:=by
 intro ops b k cs' i rest hb hk ho hw hK
 exact .stop fun w1 h1=>⟨c,hc,sendAt_op ho hw hk hr (hK _ _ _ (h w1 h1))⟩
theorem opt_shutd {j c:Nat} {y:Operand} {ats:Array TypeId} (hc:cs[j+1]? =some c) (ho:o.op= .call {callee:= .builtin .close,args:= #[y],argTypes:=ats}) (hy:a.eval y= .chan (some c)) (hq:(P.funcs[fn]?).any (·.norace)=false)
  (h:∀ w1,Rel x.O F x.w w1→K (a.put o.dst (.tuple #[])) ⟨l,cs,got⟩ ⟨w1,x.O⟩):OpT P true F (mainSes P F Φ End) fn o a K ⟨.close j::l,cs,got⟩ x:=by
 intro ops b k cs' i rest hb hk ho' hw hK
 refine .stop fun w1 h1=>⟨c,hc,rfl,?_,_,rfl,fun w cap buf s r tm hch=>stepG_close ho' hw hk ho hy hch (by rw [hb];exact hq),hK _ _ _ (h w1 h1)⟩
 simp [mayWake,G,Frame.at,ho',ho]
theorem opt_recv {c:Nat} {z:Value} (hc:cs[0]? =some c) (hr:∀ w,(execOp a.eval o).run P w= .ok (.comm #[rcase c z] true (.recv false)) w∧(execOp a.eval o).events P w #[]= #[])
  (h:∀ w1,Rel x.O F x.w w1→∀ v j B w',j<Φ.n→j∉got→Φ.Out j v B w'→Rel x.O F w1 w'→(∀ b,B b→b<w'.heap.size∧¬ x.O b∧¬ F b)→K (a.put o.dst v) ⟨l,cs,got++[j]⟩ ⟨w',fun b=>x.O b∨B b⟩):
  OpT P true F (mainSes P F Φ End) fn o a K ⟨.recv::l,cs,got⟩ x:=by
 intro ops b k cs' i rest hb hk ho hw hK
 refine .stop fun w1 h1=>⟨c,hc,recvAt_op ho hw hk hr (fun v _ j B w' e1 e2 e3 e4 e5=>hK _ _ _ (h w1 h1 v j B w' e1 e2 e3 e4 e5)) fun h=>by cases h⟩
end
section
variable {P:Program} {F:Nat→Prop} {f:FuncId} {func:Func} {c:Code} {args:Array Value}
def base0 (f:FuncId):Frame:= {base f with kind:= .deferred}
theorem born_starts {S:Goroutine→OW→Prop} {x:OW} (hf:P.funcs[f]? =some func) (hb:func.body=some c) (hn:(func.name== "runtime.NumGoroutine")=false) {d:Deferred} (hd:d.target= .fn (.func f) #[]) (ha:d.args=args)
  (h:Co P false F S (G ((base0 f).at {tmps:=args++Array.replicate (func.ntmps - args.size) undef,defers:=[]} [.code c]) [{(born P d).frame with defers:=[]}]) x):Co P false F S (born P d) x:=by
 refine .idle rfl (g':=G ((base0 f).at {tmps:=args++Array.replicate (func.ntmps - args.size) undef,defers:=[]} [.code c]) [{(born P d).frame with defers:=[]}]) (fun w=> ?_) h
 obtain ⟨tg,ag⟩:=d
 simp only at hd ha
 subst hd ha
 have h1:¬ func.name= "runtime.NumGoroutine" :=by simpa using hn
 simp [G,born,Go.stepG,unwind,callDeferred,Frame.at,base0,base,invoke,callFunc,hf,hb,hn,h1,GStep.after,seen_none,Frame.enter]
theorem born_quits (hf:P.funcs[f]? =some func) (hres:func.results= #[]) {d:Deferred} {a:Act} (hd:a.defers=[]) {ops:Array Oper}:QuitsIn P 4 (G ((base0 f).at a [.inRegion ops []]) [{(born P d).frame with defers:=[]}]):=by
 have hr:∀ w,(results func a.tmps).run P w= .ok (.tuple #[]) w:=fun w=>results_none hres _ P w
 have he:∀ w,(results func a.tmps).events P w #[]= #[]:=fun w=>events_results_none hres _ _
 refine .ctl rfl (fun w=>stepG_region_end) (.ctl rfl (fun w=>stepG_end) (.ctl (g':= {(born P d) with frame:= {(born P d).frame with defers:=[]}}) rfl (fun w=> ?_) (.ctl (g':= {(born P d) with frame:= {(born P d).frame with defers:=[]},status:= .finished}) rfl (fun w=> ?_) rfl)))
 ·simp [G,Go.stepG,unwind,doReturn,Frame.at,base0,base,hd,hf,hr,he,seen,GStep.after,born,goexitEntry]
 ·have e0:(default:Frame).todo=[]:=rfl
  simp [G,Go.stepG,unwind,Frame.at,born,goexitEntry,Frame.catches,e0]
end
end Go.Sx
end
section
namespace Go.Sx
open Go Go.Conc
def entF (k:Nat):List (Int×Nat)→List MapEntry
 |[]=>[]
 |p::r=> {key:= .int .i64 p.1,val:= .pointer (some ⟨p.2,0,none⟩),born:=k}::entF (k+1) r
theorem entF_snoc:∀ (A:List (Int×Nat)) (k:Nat) (p:Int×Nat),entF k (A++[p])=entF k A++[{key:= .int .i64 p.1,val:= .pointer (some ⟨p.2,0,none⟩),born:=k+A.length}]
 |[],k,p=>rfl
 |q::A,k,p=>by
  simp only [List.cons_append,entF,entF_snoc A,List.length_cons]
  rw [Nat.add_assoc,Nat.add_comm 1]
def mapO (A:List (Int×Nat)):Obj:= .map (entF 0 A).toArray A.length
def lookA (A:List (Int×Nat)) (v:Int):Option Nat:=(A.find? fun p=>decide (p.1=v)).map (·.2)
theorem findNow_ent (v:Int):∀ (A:List (Int×Nat)) (k i:Nat),∃ j,Instr.findNow (.int .i64) (.int .i64 v) (entF k A) i=some ((lookA A v).map fun b=>(j, .pointer (some ⟨b,0,none⟩)))
 |[],k,i=>⟨0,rfl⟩
 |p::A,k,i=>by
  by_cases h:p.1=v
  ·refine ⟨i,?_⟩
   simp [entF,Instr.findNow,Instr.sameNow,h,lookA]
  ·obtain ⟨j,hj⟩:=findNow_ent v A (k+1) (i+1)
   refine ⟨j,?_⟩
   have h':(v==p.1)=false:=by simpa using fun e=>h e.symm
   simp only [lookA] at hj
   simp [entF,Instr.findNow,Instr.sameNow,h,h',lookA,hj]
section
variable {P:Program} {T kt et pt:TypeId} {w:World} {r:Nat} {A:List (Int×Nat)}
theorem ck_int (hk:P.underlying kt=some (.int .i64)) (v:Int) (em:Bool) (d:Nat):(Instr.checkKey em (d+1) kt (.int .i64 v)).run P w= .ok () w∧∀ es,(Instr.checkKey em (d+1) kt (.int .i64 v)).events P w es=es:=by
 constructor
 ·simp [Instr.checkKey,run_underlying hk]
 ·intro es;simp [Instr.checkKey,run_underlying hk]
theorem run_getMap (hr:w.heap[r]? =some (mapO A)):(getObj r).run P w= .ok (mapO A) w∧∀ es,(getObj r).events P w es=es.push ⟨.obj r,false,false⟩:=by
 have hr':w.heap[r]? =some (.map (entF 0 A).toArray A.length):=hr
 constructor
 ·simp [getObj,Sem.run,hr',mapO]
 ·intro es
  unfold Sem.events getObj
  rw [Sem.runT,hr']
  rfl
theorem run_setMap (hr:w.heap[r]? =some (mapO A)) (es:Array MapEntry) (c:Nat):(setObj r (.map es c)).run P w= .ok () {w with heap:=w.heap.setIfInBounds r (.map es c)}∧∀ evs,(setObj r (.map es c)).events P w evs=evs.push ⟨.obj r,true,false⟩:=by
 have hr':w.heap[r]? =some (.map (entF 0 A).toArray A.length):=hr
 constructor
 ·simp [setObj,Sem.run,hr']
 ·intro evs
  unfold Sem.events setObj
  rw [Sem.runT,hr']
  rfl
theorem run_lookA (hT:P.underlying T=some (.map kt et)) (hk:P.underlying kt=some (.int .i64)) (hz:(zeroValue et).run P w= .ok (.pointer none) w) (hze:∀ es,(zeroValue et).events P w es=es) (hr:w.heap[r]? =some (mapO A)) (v:Int):
  (Instr.lookup T (.map (some r)) (.int .i64 v) false).run P w= .ok (.pointer ((lookA A v).map fun b=>⟨b,0,none⟩)) w∧(Instr.lookup T (.map (some r)) (.int .i64 v) false).events P w #[]= #[⟨.obj r,false,false⟩]:=by
 obtain ⟨j,hj⟩:=findNow_ent v A 0 0
 obtain ⟨g1,g2⟩:=run_getMap (P:=P) hr
 have c1:=fun em=>(ck_int (P:=P) (w:=w) hk v em 9999).1
 have c2:=fun em=>(ck_int (P:=P) (w:=w) hk v em 9999).2
 simp only [Nat.reduceAdd] at c1 c2
 generalize hd:(10000:Nat)=d10 at c1 c2
 unfold Instr.lookup
 rw [hd]
 have e0:mapO A= .map (entF 0 A).toArray A.length:=rfl
 rw [e0] at g1
 cases hl:lookA A v with
 |none=>
  rw [hl] at hj
  simp only [Option.map_none] at hj
  constructor
  ·simp [run_underlying hT,g1,c1,run_underlying hk,Instr.findKey,hj,hz]
  ·simp [run_underlying hT,g1,g2,c1,c2,run_underlying hk,Instr.findKey,hj,hz,hze]
 |some b=>
  rw [hl] at hj
  simp only [Option.map_some] at hj
  constructor
  ·simp [run_underlying hT,g1,c1,run_underlying hk,Instr.findKey,hj]
  ·simp [run_underlying hT,g1,g2,c1,c2,run_underlying hk,Instr.findKey,hj]
theorem run_putA (hT:P.underlying T=some (.map kt et)) (hk:P.underlying kt=some (.int .i64)) (hr:w.heap[r]? =some (mapO A)) {v:Int} {b:Nat} (hn:lookA A v=none):
  (Instr.mapUpdate T (.map (some r)) (.int .i64 v) (.pointer (some ⟨b,0,none⟩))).run P w= .ok () {w with heap:=w.heap.setIfInBounds r (mapO (A++[(v,b)]))}∧
   (Instr.mapUpdate T (.map (some r)) (.int .i64 v) (.pointer (some ⟨b,0,none⟩))).events P w #[]= #[⟨.obj r,false,false⟩,⟨.obj r,true,false⟩]:=by
 obtain ⟨j,hj⟩:=findNow_ent v A 0 0
 obtain ⟨g1,g2⟩:=run_getMap (P:=P) hr
 have c1:=fun em=>(ck_int (P:=P) (w:=w) hk v em 9999).1
 have c2:=fun em=>(ck_int (P:=P) (w:=w) hk v em 9999).2
 simp only [Nat.reduceAdd] at c1 c2
 generalize hd:(10000:Nat)=d10 at c1 c2
 unfold Instr.mapUpdate
 rw [hd]
 have e0:mapO A= .map (entF 0 A).toArray A.length:=rfl
 have e1:mapO (A++[(v,b)])= .map ((entF 0 A).toArray.push {key:= .int .i64 v,val:= .pointer (some ⟨b,0,none⟩),born:=A.length}) (A.length+1):=by
  simp [mapO,entF_snoc]
 obtain ⟨s1,s2⟩:=run_setMap (P:=P) hr ((entF 0 A).toArray.push {key:= .int .i64 v,val:= .pointer (some ⟨b,0,none⟩),born:=A.length}) (A.length+1)
 rw [e1]
 rw [e0] at g1
 rw [hn] at hj
 simp only [Option.map_none] at hj
 have hl:(entF 0 A).toArray.toList=entF 0 A:=rfl
 clear e0 e1 hr
 generalize (entF 0 A).toArray=G at g1 s1 s2 hl ⊢
 constructor
 ·simp [run_underlying hT,g1,c1,run_underlying hk,Instr.findKey,hj,s1,hl]
 ·simp [run_underlying hT,g1,g2,c1,c2,run_underlying hk,Instr.findKey,hj,s1,s2,hl]
end
section
variable {P:Program} {main:Bool} {F:Nat→Prop} {fn:FuncId} {n:Nat} {d:List Deferred} {H0 X:Nat→Option Obj} {ε:Env} {τ:Fr} {m:List Res} {a:Act} {x:OW} {o:Oper} {T kt et:TypeId}
theorem TS.mkMap (h:TS F n d H0 X ε τ m a x) (ho:o.op= .makeMap T none):OpQ P main F fn o a (fun a' x'=> ∃ r,a'=a.put o.dst (.map (some r))∧TS F n d H0 (fun b=>if b=r then some (mapO []) else X b) ε τ m a x'∧X r=none) x:=by
 refine opq_run fun w1 hr=>⟨.map (some w1.heap.size),w1.alloc (mapO []), .inl ?_,?_,w1.heap.size,rfl,(h.rely hr).alloc _,?_⟩
 ·unfold execOp
  simp only [ho]
  simp [Instr.makeMap,mapO,entF]
 ·have e:(execOp a.eval o).events P w1 #[]= #[]:=by
   unfold execOp
   simp only [ho]
   simp [Instr.makeMap]
  rw [e]
  exact ⟨rfl,rfl,rfl,by simp,fun b hb _=>Go.RowKit.Below.heap_alloc w1 _ b hb,fun e h=>by simp at h⟩
 ·cases hx:X w1.heap.size with
  |none=>rfl
  |some o'=>
   have:=((h.rely hr).x _ _ hx).1
   have:=(Array.getElem?_eq_some_iff.1 this).1
   exact absurd this (Nat.lt_irrefl _)
theorem TS.lookMap (h:TS F n d H0 X ε τ m a x) {mo ko:Operand} (ho:o.op= .lookup T mo ko false) (hT:P.underlying T=some (.map kt et)) (hk:P.underlying kt=some (.int .i64)) (hz:∀ w,(zeroValue et).run P w= .ok (.pointer none) w) {r:Nat} {v:Int} {A:List (Int×Nat)}
  (hm:a.eval mo= .map (some r)) (hv:a.eval ko= .int .i64 v) (hX:X r=some (mapO A)):OpQ P main F fn o a (fun a' x'=>a'=a.put o.dst (.pointer ((lookA A v).map fun b=>⟨b,0,none⟩))∧TS F n d H0 X ε τ m a x') x:=by
 refine opq_run fun w1 hr=>⟨.pointer ((lookA A v).map fun b=>⟨b,0,none⟩),w1, .inl ?_,?_,rfl,by rw [OW.next_idle];exact h.rely hr⟩
 all_goals obtain ⟨g1,g2⟩:=run_lookA (P:=P) hT hk (hz w1) (fun es=>events_zeroValue P w1 es et) ((h.rely hr).x _ _ hX).1 v
 ·unfold execOp
  simp only [ho]
  simp [hm,hv,g1]
 ·have e:(execOp a.eval o).events P w1 #[]= #[⟨.obj r,false,false⟩]:=by
   unfold execOp
   simp only [ho]
   simp [hm,hv,g1,g2]
  rw [e]
  refine ⟨rfl,rfl,rfl,Nat.le_refl _,fun _ _ _=>rfl,fun e he=> ?_⟩
  simp at he
  subst he
  exact .inl ⟨rfl,(Array.getElem?_eq_some_iff.1 ((h.rely hr).x _ _ hX).1).1, .inl ((h.rely hr).x _ _ hX).2.1⟩
theorem TS.putMap (h:TS F n d H0 X ε τ m a x) {mo ko vo:Operand} (ho:o.op= .mapUpdate T mo ko vo) (hT:P.underlying T=some (.map kt et)) (hk:P.underlying kt=some (.int .i64)) {r b:Nat} {v:Int} {A:List (Int×Nat)}
  (hm:a.eval mo= .map (some r)) (hv:a.eval ko= .int .i64 v) (hb:a.eval vo= .pointer (some ⟨b,0,none⟩)) (hX:X r=some (mapO A)) (hn:lookA A v=none):
  OpQ P main F fn o a (fun a' x'=>a'=a.put o.dst undef∧TS F n d H0 (fun c=>if c=r then some (mapO (A++[(v,b)])) else X c) ε τ m a x') x:=by
 refine opq_run fun w1 hr=>⟨undef,{w1 with heap:=w1.heap.setIfInBounds r (mapO (A++[(v,b)]))}, .inr ⟨rfl,?_⟩,?_,rfl,?_⟩
 all_goals obtain ⟨g1,g2⟩:=run_putA (P:=P) hT hk ((h.rely hr).x _ _ hX).1 (b:=b) hn
 ·unfold execOp
  simp only [ho]
  simp [hm,hv,hb,g1]
 ·have e:(execOp a.eval o).events P w1 #[]= #[⟨.obj r,false,false⟩,⟨.obj r,true,false⟩]:=by
   unfold execOp
   simp only [ho]
   simp [hm,hv,hb,g1,g2]
  rw [e]
  have hO:=((h.rely hr).x _ _ hX).2.1
  have hlt:=(Array.getElem?_eq_some_iff.1 ((h.rely hr).x _ _ hX).1).1
  refine ⟨rfl,rfl,rfl,by simp,fun c _ hc=>Array.getElem?_setIfInBounds_ne fun e=>by subst e;exact hc hO,fun e he=> ?_⟩
  simp at he
  rcases he with rfl|rfl<;>exact .inl ⟨rfl,by simpa using hlt, .inl hO⟩
 ·have:=(h.rely hr).turn (o':=mapO (A++[(v,b)])) hX
  have e:OW.next x.O w1 {w1 with heap:=w1.heap.setIfInBounds r (mapO (A++[(v,b)]))}=⟨{w1 with heap:=w1.heap.setIfInBounds r (mapO (A++[(v,b)]))},x.O⟩:=by
   unfold OW.next
   congr 1
   funext c
   exact propext ⟨fun h=>h.elim id fun h=>by simp at h;omega, .inl⟩
  rw [e]
  exact this
end
end Go.Sx
end
section
namespace Go.Sx
open Go Go.Conc
inductive StO:Type 1 where
 |recv (T:TypeId) (ch:Opd) (ok:Bool)
 |send (ch y:Opd)
 |go (f:FuncId) (ys:List Opd)
 |mk (T:TypeId) (l:Opd)
 |close (ch:Opd)
 |mkmap (T:TypeId)
 |lookm (T:TypeId) (m k:Opd)
 |putm (T:TypeId) (m k v:Opd)
 |tcall (f:FuncId) (ys:List Opd)
def compS (tf:FuncId→Bool):Op→Option StO
 | .recv T ch ok=>(compO ch).map (.recv T · ok)
 | .send ch y=>match compO ch,compO y with
  |some a,some b=>some (.send a b)
  |_,_=>none
 | .go c=>match c.callee with
  | .value (.func f)=>(c.args.toList.mapM compO).map (.go f)
  |_=>none
 | .makeChan T s=>(compO s).map (.mk T)
 | .call c=>match c.callee with
  | .builtin .close=>match c.args.toList with
   |[x]=>(compO x).map .close
   |_=>none
  | .value (.func f)=>if tf f then (c.args.toList.mapM compO).map (.tcall f) else none
  |_=>none
 | .makeMap T none=>some (.mkmap T)
 | .lookup T m k false=>match compO m,compO k with
  |some a,some b=>some (.lookm T a b)
  |_,_=>none
 | .mapUpdate T m k v=>match compO m,compO k,compO v with
  |some a,some b,some c=>some (.putm T a b c)
  |_,_,_=>none
 |_=>none
def hasS (tf:FuncId→Bool):Code→Bool
 | .region _ ops _=>ops.toList.any fun o=>(compS tf o.op).isSome
 | .seq a b| .cond _ a b=>hasS tf a||hasS tf b
 | .block _ c| .loop c=>hasS tf c
 |_=>false
def splS (tf:FuncId→Bool):List Oper→Option (List Oper×Oper×List Oper)
 |[]=>none
 |o::r=>if (compS tf o.op).isSome then some ([],o,r) else (splS tf r).map fun p=>(o::p.1,p.2.1,p.2.2)
theorem splS_ok {tf:FuncId→Bool}:∀ {l l1 l2:List Oper} {o:Oper},splS tf l=some (l1,o,l2)→l=l1++o::l2
 |[],_,_,_,h=>by cases h
 |x::r,l1,l2,o,h=>by
  simp only [splS] at h
  split at h
  ·cases h;rfl
  ·obtain ⟨⟨p1,p2,p3⟩,h1,h2⟩:=Option.map_eq_some_iff.1 h
   cases h2
   rw [splS_ok h1];rfl
inductive TIC:Type 1 where
 |plain (c:IC)
 |seq (a b:TIC)
 |cond (x:Opd) (a b:TIC)
 |block (id:Nat) (c:TIC)
 |loop (c:TIC)
 |reg (pre:List IOp) (dst:Option Nat) (s:StO) (post:List IOp)
 |dreg (pre:List IOp) (s:StO)
def regS (P:Program) (tf:FuncId→Bool) (ops:Array Oper):Option TIC:=match splS tf ops.toList with
 |some (l1,o,l2)=>match l1.mapM (compOp P ops),compS tf o.op,l2.mapM (compOp P ops),o.guard with
  |some a,some s,some b,none=>some (.reg a o.dst s b)
  |_,_,_,_=>none
 |none=>none
def dummy (o:Oper):Oper:= {o with op:= .move (.const (.bool true)),dst:=none,guard:=none}
def dops' (ops:Array Oper):Array Oper:=match ops.back? with
 |some o=>ops.pop.push (dummy o)
 |none=>ops
def lastAll (ops:List Oper):Bool:=match (pres ops [])[ops.length - 1]? with
 |some k=>(List.range (ops.length - 1)).all fun j=>k.testBit j
 |none=>false
def dregS (P:Program) (quiet:FuncId→Bool) (tf:FuncId→Bool) (ops:Array Oper):Option TIC:=match ops.back? with
 |some o=>match (dops' ops).toList.mapM (compD P quiet (dops' ops)),compS tf o.op,o.guard,o.dst with
  |some ios,some s,none,none=>if chk (dops' ops).toList ios&&lastAll (dops' ops).toList&&P.follows .mixedOrders then some (.dreg (aug (dops' ops).toList ios) s) else none
  |_,_,_,_=>none
 |none=>none
def compT (P:Program) (quiet:FuncId→Bool) (tf:FuncId→Bool):Code→Option TIC
 | .seq a b=>if hasS tf (.seq a b) then (match compT P quiet tf a,compT P quiet tf b with
   |some x,some y=>some (.seq x y)
   |_,_=>none) else (comp P quiet (.seq a b)).map .plain
 | .cond c a b=>if hasS tf (.cond c a b) then (match compO c,compT P quiet tf a,compT P quiet tf b with
   |some z,some x,some y=>some (.cond z x y)
   |_,_,_=>none) else (comp P quiet (.cond c a b)).map .plain
 | .block id a=>if hasS tf (.block id a) then (compT P quiet tf a).map (.block id) else (comp P quiet (.block id a)).map .plain
 | .loop a=>if hasS tf (.loop a) then (compT P quiet tf a).map .loop else (comp P quiet (.loop a)).map .plain
 | .region id ops draw=>if hasS tf (.region id ops draw) then (if draw then dregS P (quiet2 quiet) tf ops else regS P tf ops) else (comp P quiet (.region id ops draw)).map .plain
 |c=>(comp P quiet c).map .plain
section inv
variable {P:Program} {quiet:FuncId→Bool} {tf:FuncId→Bool} {c:Code}
theorem not_reg {ops:Array Oper} {x:TIC} (h:regS P tf ops=some x):∃ a d s b,x= .reg a d s b:=by
 unfold regS at h
 split at h<;>try (cases h;done)
 split at h<;>try (cases h;done)
 cases h
 exact ⟨_,_,_,_,rfl⟩
theorem not_dreg {ops:Array Oper} {x:TIC} {q:FuncId→Bool} (h:dregS P q tf ops=some x):∃ a s,x= .dreg a s:=by
 unfold dregS at h
 split at h<;>try (cases h;done)
 split at h<;>try (cases h;done)
 split at h<;>try (cases h;done)
 cases h
 exact ⟨_,_,rfl⟩
theorem compT_plain {ic:IC} (h:compT P quiet tf c=some (.plain ic)):comp P quiet c=some ic:=by
 cases c<;>simp only [compT] at h
 all_goals first
  |(obtain ⟨x,h1,h2⟩:=Option.map_eq_some_iff.1 h;cases h2;exact h1)
  |(split at h
    ·first
     |(split at h<;>first|cases h|(obtain ⟨a,s,e⟩:=not_dreg h;cases e)|(obtain ⟨a,d,s,b,e⟩:=not_reg h;cases e))
     |(obtain ⟨x,h1,h2⟩:=Option.map_eq_some_iff.1 h;cases h2)
    ·obtain ⟨x,h1,h2⟩:=Option.map_eq_some_iff.1 h
     cases h2;exact h1)
theorem compT_seq {a b:TIC} (h:compT P quiet tf c=some (.seq a b)):∃ x y,c= .seq x y∧compT P quiet tf x=some a∧compT P quiet tf y=some b:=by
 cases c<;>simp only [compT] at h
 case seq x y=>
  split at h
  ·split at h<;>cases h
   exact ⟨_,_,rfl,by assumption,by assumption⟩
  ·obtain ⟨x,h1,h2⟩:=Option.map_eq_some_iff.1 h;cases h2
 all_goals first
  |(obtain ⟨x,h1,h2⟩:=Option.map_eq_some_iff.1 h;cases h2;done)
  |(split at h
    ·first
     |(split at h<;>first|cases h|(obtain ⟨a,s,e⟩:=not_dreg h;cases e)|(obtain ⟨a,d,s,b,e⟩:=not_reg h;cases e))
     |(obtain ⟨x,h1,h2⟩:=Option.map_eq_some_iff.1 h;cases h2)
    ·obtain ⟨x,h1,h2⟩:=Option.map_eq_some_iff.1 h
     cases h2)
theorem compT_cond {z:Opd} {a b:TIC} (h:compT P quiet tf c=some (.cond z a b)):∃ w x y,c= .cond w x y∧compO w=some z∧compT P quiet tf x=some a∧compT P quiet tf y=some b:=by
 cases c<;>simp only [compT] at h
 case cond w x y=>
  split at h
  ·split at h<;>cases h
   exact ⟨_,_,_,rfl,by assumption,by assumption,by assumption⟩
  ·obtain ⟨x,h1,h2⟩:=Option.map_eq_some_iff.1 h;cases h2
 all_goals first
  |(obtain ⟨x,h1,h2⟩:=Option.map_eq_some_iff.1 h;cases h2;done)
  |(split at h
    ·first
     |(split at h<;>first|cases h|(obtain ⟨a,s,e⟩:=not_dreg h;cases e)|(obtain ⟨a,d,s,b,e⟩:=not_reg h;cases e))
     |(obtain ⟨x,h1,h2⟩:=Option.map_eq_some_iff.1 h;cases h2)
    ·obtain ⟨x,h1,h2⟩:=Option.map_eq_some_iff.1 h
     cases h2)
theorem compT_block {id:Nat} {a:TIC} (h:compT P quiet tf c=some (.block id a)):∃ x,c= .block id x∧compT P quiet tf x=some a:=by
 cases c<;>simp only [compT] at h
 case block i x=>
  split at h
  ·obtain ⟨x,h1,h2⟩:=Option.map_eq_some_iff.1 h
   cases h2
   exact ⟨_,rfl,h1⟩
  ·obtain ⟨x,h1,h2⟩:=Option.map_eq_some_iff.1 h;cases h2
 all_goals first
  |(obtain ⟨x,h1,h2⟩:=Option.map_eq_some_iff.1 h;cases h2;done)
  |(split at h
    ·first
     |(split at h<;>first|cases h|(obtain ⟨a,s,e⟩:=not_dreg h;cases e)|(obtain ⟨a,d,s,b,e⟩:=not_reg h;cases e))
     |(obtain ⟨x,h1,h2⟩:=Option.map_eq_some_iff.1 h;cases h2)
    ·obtain ⟨x,h1,h2⟩:=Option.map_eq_some_iff.1 h
     cases h2)
theorem compT_loop {a:TIC} (h:compT P quiet tf c=some (.loop a)):∃ x,c= .loop x∧compT P quiet tf x=some a:=by
 cases c<;>simp only [compT] at h
 case loop x=>
  split at h
  ·obtain ⟨x,h1,h2⟩:=Option.map_eq_some_iff.1 h
   cases h2
   exact ⟨_,rfl,h1⟩
  ·obtain ⟨x,h1,h2⟩:=Option.map_eq_some_iff.1 h;cases h2
 all_goals first
  |(obtain ⟨x,h1,h2⟩:=Option.map_eq_some_iff.1 h;cases h2;done)
  |(split at h
    ·first
     |(split at h<;>first|cases h|(obtain ⟨a,s,e⟩:=not_dreg h;cases e)|(obtain ⟨a,d,s,b,e⟩:=not_reg h;cases e))
     |(obtain ⟨x,h1,h2⟩:=Option.map_eq_some_iff.1 h;cases h2)
    ·obtain ⟨x,h1,h2⟩:=Option.map_eq_some_iff.1 h
     cases h2)
theorem compT_reg {pre post:List IOp} {dst:Option Nat} {s:StO} (h:compT P quiet tf c=some (.reg pre dst s post)):∃ id ops l1 o l2,c= .region id ops false∧ops.toList=l1++o::l2∧l1.mapM (compOp P ops)=some pre∧compS tf o.op=some s∧l2.mapM (compOp P ops)=some post∧o.dst=dst∧o.guard=none:=by
 cases c<;>simp only [compT] at h
 case region id ops draw=>
  split at h
  ·split at h
   ·obtain ⟨a,s,e⟩:=not_dreg h;cases e
   ·rename_i hd
    have hd:draw=false:=by simpa using hd
    subst hd
    unfold regS at h
    split at h<;>try (cases h;done)
    rename_i l1 o l2 hs
    split at h<;>try (cases h;done)
    rename_i e1 e2 e3 e4
    cases h
    exact ⟨id,ops,l1,o,l2,rfl,splS_ok hs,e1,e2,e3,rfl,e4⟩
  ·obtain ⟨x,h1,h2⟩:=Option.map_eq_some_iff.1 h;cases h2
 all_goals first
  |(obtain ⟨x,h1,h2⟩:=Option.map_eq_some_iff.1 h;cases h2;done)
  |(split at h
    ·first
     |(split at h<;>first|cases h|(obtain ⟨a,s,e⟩:=not_dreg h;cases e)|(obtain ⟨a,d,s,b,e⟩:=not_reg h;cases e))
     |(obtain ⟨x,h1,h2⟩:=Option.map_eq_some_iff.1 h;cases h2)
    ·obtain ⟨x,h1,h2⟩:=Option.map_eq_some_iff.1 h
     cases h2)
end inv
end Go.Sx
end
section
namespace Go.Sx
open Go Go.Conc
inductive TC:Type 1 where
 |jc (c:JC)
 |seq (a b:TC)
 |cond (x:Opd) (a b:TC)
 |block (id:Nat) (c:TC)
 |loop (c:TC)
 |reg (pre:SL) (dst:Option Nat) (s:StO) (post:SL)
 |dreg (pre:SL) (s:StO)
def TC.flat:TC→TIC
 | .jc c=> .plain c.flat
 | .seq a b=> .seq a.flat b.flat
 | .cond x a b=> .cond x a.flat b.flat
 | .block id c=> .block id c.flat
 | .loop c=> .loop c.flat
 | .reg pre dst s post=> .reg (pre.flat none) dst s (post.flat none)
 | .dreg pre s=> .dreg (pre.flat none) s
def tIs (P:Program) (quiet tf:FuncId→Bool) (f:FuncId):Option (TIC×List ResultVar×Nat×Bool):=match P.funcs[f]? with
 |some fn=>match fn.body with
  |some c=>match compT P quiet tf c with
   |some ic=>if fn.name != "runtime.NumGoroutine" then some (ic,fn.results.toList,fn.ntmps,fn.norace) else none
   |none=>none
  |none=>none
 |none=>none
theorem tIs_ok {P:Program} {quiet tf:FuncId→Bool} {f:FuncId} {ic:TIC} {rs:List ResultVar} {nt:Nat} {nr:Bool} (h:tIs P quiet tf f=some (ic,rs,nt,nr)):
  ∃ fn c,P.funcs[f]? =some fn∧fn.body=some c∧compT P quiet tf c=some ic∧fn.results.toList=rs∧fn.ntmps=nt∧(fn.name== "runtime.NumGoroutine")=false∧(P.funcs[f]?).any (·.norace)=nr∧okFn P f=true:=by
 unfold tIs at h
 split at h<;>try (cases h;done)
 rename_i fn hf
 split at h<;>try (cases h;done)
 rename_i c hc
 split at h<;>try (cases h;done)
 rename_i ic' hic
 split at h<;>try (cases h;done)
 rename_i hn
 simp only [Option.some.injEq,Prod.mk.injEq] at h
 obtain ⟨rfl,rfl,rfl,rfl⟩:=h
 refine ⟨fn,c,hf,hc,hic,rfl,rfl,by simpa using hn,by rw [hf];rfl,?_⟩
 unfold okFn
 rw [hf]
 simp only [Bool.and_eq_true]
 exact ⟨hn,by rw [hc];rfl⟩
section
variable {P:Program} {main:Bool} {F:Nat→Prop} {ι:Type _} {S:Ses ι} {quiet tf:FuncId→Bool} {fn:FuncId} {n:Nat} {d:List Deferred} {H0 X:Nat→Option Obj} {ε:Env} {τ:Fr} {m:List Res} {a:Act} {x:OW} {s:ι} {Q Q':Exit→Act→ι→OW→Prop}
def TW (P:Program) (main:Bool) (F:Nat→Prop) (S:Ses ι) (quiet tf:FuncId→Bool) (fn:FuncId) (tc:TC) (Q:Exit→Act→ι→OW→Prop) (a:Act) (s:ι) (x:OW):Prop:= ∀ c,compT P quiet tf c=some tc.flat→CodeT P main F S fn c Q a s x
theorem TW.mono {tc:TC} (h:TW P main F S quiet tf fn tc Q a s x) (hq:∀ e a s x,Q e a s x→Q' e a s x):TW P main F S quiet tf fn tc Q' a s x:=fun c hc=>(h c hc).mono hq
theorem tw_jc (h:TS F n d H0 X ε τ m a x) {Γ:FH} (hΓ:FHOK P main F Γ) {jc:JC} (hw:jc.wf n=true) {K:Ex→Fr→List Res→Prop} (hq:jc.wp Γ m.length K τ m)
  (hR:∀ e ex τ' m' ε' a' x',ExRel e ex→K ex τ' m'→TS F n d H0 X ε' τ' m' a' x'→(∀ i,i<m.length→ε'.blk i=ε.blk i)→Q e a' s x'):TW P main F S quiet tf fn (.jc jc) Q a s x:=
 fun c hc=>h.jct hΓ (compT_plain hc) hw hq hR
theorem tw_seq {p q:TC} (h:TW P main F S quiet tf fn p (fun e a' s' x'=>match e with
  | .normal=>TW P main F S quiet tf fn q Q a' s' x'
  |e=>Q e a' s' x') a s x):TW P main F S quiet tf fn (.seq p q) Q a s x:=fun c hc=>by
 obtain ⟨y,z,rfl,h1,h2⟩:=compT_seq hc
 refine wt_seq ((h y h1).mono fun e a' s' x' hh=> ?_)
 cases e<;>first|exact hh z h2|exact hh
theorem TS.opd (h:TS F n d H0 X ε τ m a x) {y:Operand} {y':Opd} (hy:compO y=some y'):SatV ε (y'.fv τ) (a.eval y):=by
 obtain ⟨σ,h1,h2⟩:=h.s
 have:=compO_ok hy h2
 rcases h1.fv y' with e|e
 ·rw [e];trivial
 ·rw [e];exact this
theorem TS.opds (h:TS F n d H0 X ε τ m a x):∀ {ys:List Operand} {ys':List Opd},ys.mapM compO=some ys'→((ys'.map (Opd.fv τ)).all SV.isVal=true)→SatA (ys'.map (Opd.fv τ)) ε (ys.map a.eval)
 |[],ys',hy,_=>by simp at hy;subst hy;rfl
 |y::ys,ys',hy,hv=>by
  simp only [List.mapM_cons,bind,Option.pure_def] at hy
  obtain ⟨y',h1,hy⟩:=bind_some hy
  obtain ⟨r,h2,hy⟩:=bind_some hy
  simp only [Option.some.injEq] at hy
  subst hy
  simp only [List.map_cons,List.all_cons,Bool.and_eq_true] at hv
  have h3:=h.opd h1
  have h4:=h.opds h2 hv.2
  simp only [List.map_cons]
  generalize y'.fv τ=sv at h3 hv
  cases sv<;>first
   |(simp [SV.isVal] at hv;done)
   |(obtain ⟨cs,e1,e2⟩:=h3;exact ⟨cs,_,by rw [e2],e1,h4⟩)
theorem tw_cond {y:Opd} {p q:TC} {t:Bool} (h:TS F n d H0 X ε τ m a x) (hy:y.fv τ= .bool t) (hh:TW P main F S quiet tf fn (if t then p else q) Q a s x):TW P main F S quiet tf fn (.cond y p q) Q a s x:=fun c hc=>by
 obtain ⟨w,u,v,rfl,h0,h1,h2⟩:=compT_cond hc
 have:=h.opd h0
 rw [hy] at this
 refine wt_cond (sat_bool this) ?_
 cases t
 ·exact hh _ h2
 ·exact hh _ h1
theorem tw_block {id:Nat} {p:TC} (h:TW P main F S quiet tf fn p (fun e a' s' x'=>match e with
  | .exit i=>if i=id then Q .normal a' s' x' else Q (.exit i) a' s' x'
  |e=>Q e a' s' x') a s x):TW P main F S quiet tf fn (.block id p) Q a s x:=fun c hc=>by
 obtain ⟨y,rfl,h1⟩:=compT_block hc
 exact wt_block (h y h1)
theorem tw_loop {p:TC} (I:Nat→Act→ι→OW→Prop) (k:Nat) (h0:I k a s x)
  (round:∀ k a s x,I k a s x→TW P main F S quiet tf fn p (fun e a' s' x'=>match e with
   | .normal=> ∃ k',k'<k∧I k' a' s' x'
   |e=>Q e a' s' x') a s x):TW P main F S quiet tf fn (.loop p) Q a s x:=fun c hc=>by
 obtain ⟨y,rfl,h1⟩:=compT_loop hc
 exact wt_loop I k h0 fun k a s x hI=>round k a s x hI y h1
def Behind (P:Program) (main:Bool) (F:Nat→Prop) (S:Ses ι) (fn:FuncId) (post:SL) (Q:Exit→Act→ι→OW→Prop) (a:Act) (s:ι) (x:OW):Prop:= ∀ (ops:Array Oper) (l:List Oper),l.mapM (compOp P ops)=some (post.flat none)→wtList P main F S fn ops Q l a s x
theorem Behind.of (h:TS F n d H0 X ε τ m a x) {Γ:FH} (hΓ:FHOK P main F Γ) {post:SL} (hw:post.wf n=true) {K:Fr→List Res→Prop} (hk:post.wp Γ false K τ m)
  (hQ:∀ τ' m' ε' a' x',K τ' m'→TS F n d H0 X ε' τ' m' a' x'→(∀ i,i<m.length→ε'.blk i=ε.blk i)→Q .normal a' s x'):Behind P main F S fn post Q a s x:=fun ops l hl=>by
 have:=h.pre hΓ (ops:=ops) (l2:=[]) (S:=S) (s:=s) (fn:=fn) (Q:=Q) hl hw hk fun τ' m' ε' a' x' k1 k2 k3=>wtList_nil (hQ τ' m' ε' a' x' k1 k2 k3)
 rwa [List.append_nil] at this
theorem tw_reg (h:TS F n d H0 X ε τ m a x) {Γ:FH} (hΓ:FHOK P main F Γ) {pre post:SL} {dst:Option Nat} {so:StO} (hw:pre.wf n=true) {K:Fr→List Res→Prop} (hk:pre.wp Γ false K τ m)
  (hop:∀ τ' m' ε' a' x',K τ' m'→TS F n d H0 X ε' τ' m' a' x'→(∀ i,i<m.length→ε'.blk i=ε.blk i)→∀ o:Oper,compS tf o.op=some so→o.dst=dst→OpT P main F S fn o a' (Behind P main F S fn post Q) s x'):
  TW P main F S quiet tf fn (.reg pre dst so post) Q a s x:=fun c hc=>by
 obtain ⟨id,ops,l1,o,l2,rfl,h1,h2,h3,h4,h5,h6⟩:=compT_reg hc
 refine wt_region_list ?_
 rw [h1]
 refine h.pre hΓ h2 hw hk fun τ' m' ε' a' x' k1 k2 k3=>wtList_cons ?_
 rw [if_pos (by simp [Region.wanted,h6])]
 exact (hop τ' m' ε' a' x' k1 k2 k3 o h3 h5).mono fun a2 s2 x2 hb=>hb ops l2 h4
end
section inv
variable {tf:FuncId→Bool} {op:Op}
theorem compS_recv {T:TypeId} {ch:Opd} {ok:Bool} (h:compS tf op=some (.recv T ch ok)):∃ y,op= .recv T y ok∧compO y=some ch:=by
 unfold compS at h
 split at h
 case h_1 T' y ok'=>
  obtain ⟨z,h1,h2⟩:=Option.map_eq_some_iff.1 h
  cases h2
  exact ⟨y,rfl,h1⟩
 all_goals first
  |(cases h;done)
  |(obtain ⟨z,h1,h2⟩:=Option.map_eq_some_iff.1 h;cases h2;done)
  |(split at h<;>first|cases h|(obtain ⟨z,h1,h2⟩:=Option.map_eq_some_iff.1 h;cases h2;done)|(split at h<;>first|cases h|(obtain ⟨z,h1,h2⟩:=Option.map_eq_some_iff.1 h;cases h2)))
theorem compS_send {ch z:Opd} (h:compS tf op=some (.send ch z)):∃ y w,op= .send y w∧compO y=some ch∧compO w=some z:=by
 unfold compS at h
 split at h
 case h_2 y w=>
  split at h<;>cases h
  exact ⟨y,w,rfl,by assumption,by assumption⟩
 all_goals first
  |(cases h;done)
  |(obtain ⟨z,h1,h2⟩:=Option.map_eq_some_iff.1 h;cases h2;done)
  |(split at h<;>first|cases h|(obtain ⟨z,h1,h2⟩:=Option.map_eq_some_iff.1 h;cases h2;done)|(split at h<;>first|cases h|(obtain ⟨z,h1,h2⟩:=Option.map_eq_some_iff.1 h;cases h2)))
theorem compS_go {f:FuncId} {ys:List Opd} (h:compS tf op=some (.go f ys)):∃ c:Go.Call,op= .go c∧c.callee= .value (.func f)∧c.args.toList.mapM compO=some ys:=by
 unfold compS at h
 split at h
 case h_3 c=>
  split at h
  ·rename_i hc
   obtain ⟨z,h1,h2⟩:=Option.map_eq_some_iff.1 h
   cases h2
   exact ⟨c,rfl,hc,h1⟩
  ·cases h
 all_goals first
  |(cases h;done)
  |(obtain ⟨z,h1,h2⟩:=Option.map_eq_some_iff.1 h;cases h2;done)
  |(split at h<;>first|cases h|(obtain ⟨z,h1,h2⟩:=Option.map_eq_some_iff.1 h;cases h2;done)|(split at h<;>first|cases h|(obtain ⟨z,h1,h2⟩:=Option.map_eq_some_iff.1 h;cases h2)))
theorem compS_mk {T:TypeId} {l:Opd} (h:compS tf op=some (.mk T l)):∃ y,op= .makeChan T y∧compO y=some l:=by
 unfold compS at h
 split at h
 case h_4 T' y=>
  obtain ⟨z,h1,h2⟩:=Option.map_eq_some_iff.1 h
  cases h2
  exact ⟨y,rfl,h1⟩
 all_goals first
  |(cases h;done)
  |(obtain ⟨z,h1,h2⟩:=Option.map_eq_some_iff.1 h;cases h2;done)
  |(split at h<;>first|cases h|(obtain ⟨z,h1,h2⟩:=Option.map_eq_some_iff.1 h;cases h2;done)|(split at h<;>first|cases h|(obtain ⟨z,h1,h2⟩:=Option.map_eq_some_iff.1 h;cases h2)))
theorem compS_close {ch:Opd} (h:compS tf op=some (.close ch)):∃ y ats,op= .call {callee:= .builtin .close,args:= #[y],argTypes:=ats}∧compO y=some ch:=by
 unfold compS at h
 split at h
 case h_5 c=>
  obtain ⟨ce,ar,at'⟩:=c
  simp only at h
  split at h
  ·split at h
   ·rename_i x hx
    obtain ⟨z,h1,h2⟩:=Option.map_eq_some_iff.1 h
    cases h2
    have:ar= #[x]:=by
     apply Array.ext'
     simpa using hx
    subst this
    exact ⟨x,at',rfl,h1⟩
   ·cases h
  ·split at h
   ·obtain ⟨z,h1,h2⟩:=Option.map_eq_some_iff.1 h;cases h2
   ·cases h
  ·cases h
 all_goals first
  |(cases h;done)
  |(obtain ⟨z,h1,h2⟩:=Option.map_eq_some_iff.1 h;cases h2;done)
  |(split at h<;>first|cases h|(obtain ⟨z,h1,h2⟩:=Option.map_eq_some_iff.1 h;cases h2;done)|(split at h<;>first|cases h|(obtain ⟨z,h1,h2⟩:=Option.map_eq_some_iff.1 h;cases h2)))
theorem compS_tcall {f:FuncId} {ys:List Opd} (h:compS tf op=some (.tcall f ys)):∃ c:Go.Call,op= .call c∧c.callee= .value (.func f)∧c.args.toList.mapM compO=some ys:=by
 unfold compS at h
 split at h
 case h_5 c=>
  split at h
  ·split at h
   ·obtain ⟨z,h1,h2⟩:=Option.map_eq_some_iff.1 h;cases h2
   ·cases h
  ·rename_i hc
   split at h
   ·obtain ⟨z,h1,h2⟩:=Option.map_eq_some_iff.1 h
    cases h2
    exact ⟨c,rfl,hc,h1⟩
   ·cases h
  ·cases h
 all_goals first
  |(cases h;done)
  |(obtain ⟨z,h1,h2⟩:=Option.map_eq_some_iff.1 h;cases h2;done)
  |(split at h<;>first|cases h|(obtain ⟨z,h1,h2⟩:=Option.map_eq_some_iff.1 h;cases h2;done)|(split at h<;>first|cases h|(obtain ⟨z,h1,h2⟩:=Option.map_eq_some_iff.1 h;cases h2)))
theorem compS_mkmap {T:TypeId} (h:compS tf op=some (.mkmap T)):op= .makeMap T none:=by
 unfold compS at h
 split at h
 case h_6 T'=>cases h;rfl
 all_goals first
  |(cases h;done)
  |(obtain ⟨z,h1,h2⟩:=Option.map_eq_some_iff.1 h;cases h2;done)
  |(split at h<;>first|cases h|(obtain ⟨z,h1,h2⟩:=Option.map_eq_some_iff.1 h;cases h2;done)|(split at h<;>first|cases h|(obtain ⟨z,h1,h2⟩:=Option.map_eq_some_iff.1 h;cases h2)))
theorem compS_lookm {T:TypeId} {p q:Opd} (h:compS tf op=some (.lookm T p q)):∃ y w,op= .lookup T y w false∧compO y=some p∧compO w=some q:=by
 unfold compS at h
 split at h
 case h_7 T' y w=>
  split at h<;>cases h
  exact ⟨y,w,rfl,by assumption,by assumption⟩
 all_goals first
  |(cases h;done)
  |(obtain ⟨z,h1,h2⟩:=Option.map_eq_some_iff.1 h;cases h2;done)
  |(split at h<;>first|cases h|(obtain ⟨z,h1,h2⟩:=Option.map_eq_some_iff.1 h;cases h2;done)|(split at h<;>first|cases h|(obtain ⟨z,h1,h2⟩:=Option.map_eq_some_iff.1 h;cases h2)))
theorem compS_putm {T:TypeId} {p q r:Opd} (h:compS tf op=some (.putm T p q r)):∃ y w v,op= .mapUpdate T y w v∧compO y=some p∧compO w=some q∧compO v=some r:=by
 unfold compS at h
 split at h
 case h_8 T' y w v=>
  split at h<;>cases h
  exact ⟨y,w,v,rfl,by assumption,by assumption,by assumption⟩
 all_goals first
  |(cases h;done)
  |(obtain ⟨z,h1,h2⟩:=Option.map_eq_some_iff.1 h;cases h2;done)
  |(split at h<;>first|cases h|(obtain ⟨z,h1,h2⟩:=Option.map_eq_some_iff.1 h;cases h2;done)|(split at h<;>first|cases h|(obtain ⟨z,h1,h2⟩:=Option.map_eq_some_iff.1 h;cases h2)))
end inv
end Go.Sx
end
section
namespace Go.Sx
open Go Go.Conc
section
variable {P:Program} {F:Nat→Prop} {Φ:Fan} {cin cout j:Nat} {tf:FuncId→Bool} {fn:FuncId} {n:Nat} {d:List Deferred} {H0 X:Nat→Option Obj} {ε:Env} {τ:Fr} {m:List Res} {a:Act} {x:OW} {o:Oper}
theorem raw_sat {v w:Value} (h:SatV ε (.raw v) w):w=v:=by
 obtain ⟨cs,h1,h2⟩:=h
 simp only [SatC] at h1
 rw [h1.2] at h2
 exact h2
theorem TS.raw (h:TS F n d H0 X ε τ m a x) {y:Operand} {y':Opd} (hy:compO y=some y') {v:Value} (hv:y'.fv τ= .raw v):a.eval y=v:=by
 have:=h.opd hy
 rw [hv] at this
 exact raw_sat this
theorem TS.int (h:TS F n d H0 X ε τ m a x) {y:Operand} {y':Opd} (hy:compO y=some y') {k:IntKind} {v:Int} (hv:y'.fv τ= .int k v):a.eval y= .int k v:=by
 have:=h.opd hy
 rw [hv] at this
 exact sat_int this
theorem mk_raw {v:Value} (h:v.oneCell'=true):SatV ε (.raw v) v:=⟨[v],⟨h,rfl⟩,rfl⟩
theorem zero_pair {e:TypeId} {z:SV} (hz:zagg P e=some z):∃ v,(∀ w,(zeroValue e).run P w= .ok v w)∧∀ ε,SatV ε (.tup [z, .bool false]) (.tuple #[v, .bool false]):=by
 obtain ⟨h1,i,cs,h2,h3,h4⟩:=zagg_ok hz
 refine ⟨.agg cs,fun w=>by simp [zeroValue,typeInfo,h2,h3],fun ε=>⟨[.agg cs, .bool false],⟨cs.toList,[.bool false],?_,h4 ε,[.bool false],[],rfl,rfl,rfl⟩,rfl⟩⟩
 simp [boxed,h1]
theorem ts_hear (h:TS F n d H0 X ε τ m a x) {T e:TypeId} {dir:ChanDir} {ch:Opd} {t:Nat} {z mS:SV} {mV:Value} {l:List Value} (ho:compS tf o.op=some (.recv T ch true)) (hd:o.dst=some t) (hch:ch.fv τ= .raw (.chan (some cin))) (ht:t<n)
  (hT:P.underlying T=some (.chan dir e)) (hz:zagg P e=some z) (hm:SatV ε (.tup [mS, .bool true]) (.tuple #[mV, .bool true])):
  OpT P false F (handSes P F Φ cin cout j) fn o a (fun a2 s2 x2=>s2= .hears l∧TS F n d H0 X ε (.put t (.tup [mS, .bool true]) τ) m a2 x2) (.hears (mV::l)) x:=by
 obtain ⟨y,h1,h2⟩:=compS_recv ho
 obtain ⟨v,h3,_⟩:=zero_pair hz
 refine opt_hear (run_recvOp h1 (h.raw h2 hch) hT h3 fun w=>events_zeroValue P w #[] e) fun w1 hr=>⟨rfl,?_⟩
 rw [hd]
 exact (h.rely hr).put ht hm
theorem ts_shut (h:TS F n d H0 X ε τ m a x) {T e:TypeId} {dir:ChanDir} {ch:Opd} {t:Nat} {z:SV} (ho:compS tf o.op=some (.recv T ch true)) (hd:o.dst=some t) (hch:ch.fv τ= .raw (.chan (some cin))) (ht:t<n)
  (hT:P.underlying T=some (.chan dir e)) (hz:zagg P e=some z):
  OpT P false F (handSes P F Φ cin cout j) fn o a (fun a2 s2 x2=>s2= .tells∧TS F n d H0 X ε (.put t (.tup [z, .bool false]) τ) m a2 x2) (.hears []) x:=by
 obtain ⟨y,h1,h2⟩:=compS_recv ho
 obtain ⟨v,h3,h4⟩:=zero_pair hz
 refine opt_shut (run_recvOp h1 (h.raw h2 hch) hT h3 fun w=>events_zeroValue P w #[] e) fun w1 hr=>⟨rfl,?_⟩
 rw [hd]
 exact (h.rely hr).put ht (h4 ε)
end
section
variable {P:Program} {main:Bool} {F:Nat→Prop} {ι:Type _} {S:Ses ι} {tf:FuncId→Bool} {fn:FuncId} {n:Nat} {d:List Deferred} {H0 X:Nat→Option Obj} {ε:Env} {τ:Fr} {m:List Res} {a:Act} {x:OW} {s:ι} {o:Oper} {T kt et:TypeId}
theorem ts_mkmap (h:TS F n d H0 X ε τ m a x) {t:Nat} (ho:compS tf o.op=some (.mkmap T)) (hd:o.dst=some t) (ht:t<n):
  OpT P main F S fn o a (fun a2 s2 x2=>s2=s∧∃ r,X r=none∧TS F n d H0 (fun b=>if b=r then some (mapO []) else X b) ε (.put t (.raw (.map (some r))) τ) m a2 x2) s x:=by
 refine OpQ.t ((h.mkMap (compS_mkmap ho)).mono fun a2 x2 ⟨r,e,h2,h3⟩=>⟨rfl,r,h3,?_⟩)
 subst e
 rw [hd]
 exact h2.put ht (mk_raw rfl)
theorem ts_lookm (h:TS F n d H0 X ε τ m a x) {t r:Nat} {p q:Opd} {v:Int} {A:List (Int×Nat)} (ho:compS tf o.op=some (.lookm T p q)) (hd:o.dst=some t) (ht:t<n) (hT:P.underlying T=some (.map kt et)) (hk:P.underlying kt=some (.int .i64)) (hz:∀ w,(zeroValue et).run P w= .ok (.pointer none) w)
  (hp:p.fv τ= .raw (.map (some r))) (hq:q.fv τ= .int .i64 v) (hX:X r=some (mapO A)):
  OpT P main F S fn o a (fun a2 s2 x2=>s2=s∧TS F n d H0 X ε (.put t (match lookA A v with|some b=> .raw (.pointer (some ⟨b,0,none⟩))|none=> .nilp) τ) m a2 x2) s x:=by
 obtain ⟨y,w,h1,h2,h3⟩:=compS_lookm ho
 refine OpQ.t ((h.lookMap h1 hT hk hz (h.raw h2 hp) (h.int h3 hq) hX).mono fun a2 x2 ⟨e,h4⟩=>⟨rfl,?_⟩)
 subst e
 rw [hd]
 cases lookA A v with
 |none=>exact h4.put ht ⟨_,rfl,rfl⟩
 |some b=>exact h4.put ht (mk_raw rfl)
theorem ts_putm (h:TS F n d H0 X ε τ m a x) {r b:Nat} {p q u:Opd} {v:Int} {A:List (Int×Nat)} (ho:compS tf o.op=some (.putm T p q u)) (hd:o.dst=none) (hT:P.underlying T=some (.map kt et)) (hk:P.underlying kt=some (.int .i64))
  (hp:p.fv τ= .raw (.map (some r))) (hq:q.fv τ= .int .i64 v) (hu:∀ w,SatV ε (u.fv τ) w→w= .pointer (some ⟨b,0,none⟩)) (hX:X r=some (mapO A)) (hn:lookA A v=none):
  OpT P main F S fn o a (fun a2 s2 x2=>s2=s∧TS F n d H0 (fun c=>if c=r then some (mapO (A++[(v,b)])) else X c) ε τ m a2 x2) s x:=by
 obtain ⟨y,w,z,h1,h2,h3,h4⟩:=compS_putm ho
 refine OpQ.t ((h.putMap h1 hT hk (h.raw h2 hp) (h.int h3 hq) (hu _ (h.opd h4)) hX hn).mono fun a2 x2 ⟨e,h5⟩=>⟨rfl,?_⟩)
 subst e
 rw [hd]
 exact h5
end
section
variable {P:Program} {main:Bool} {F:Nat→Prop} {ι:Type _} {S:Ses ι} {quiet tf:FuncId→Bool} {fn:FuncId} {n:Nat} {d:List Deferred} {H0 X:Nat→Option Obj} {ε:Env} {τ:Fr} {m:List Res} {a:Act} {x:OW} {s:ι} {Q:Exit→Act→ι→OW→Prop}
theorem look_ofN:∀ {ks:List Nat} {xs:List SV} {τ':Fr} (k:Nat),atF ks xs τ'→Le (look k (ofF ks xs .nil)) (look k τ'):=fun k h=>look_of k h (.inl rfl)
theorem TS.ofN (h:TS F n d H0 X ε τ m a x) {ks:List Nat} {xs:List SV} (ha:atF ks xs τ):TS F n d H0 X ε (ofF ks xs .nil) m a x:=h.weak fun k=>look_ofN k ha
def Got (E:Ex) (ks:List Nat) (xs:List SV) (M:List Res):Ex→Fr→List Res→Prop:=fun ex τ m=>ex=E∧atF ks xs τ∧m=M
def GotN (ks:List Nat) (xs:List SV) (M:List Res):Fr→List Res→Prop:=fun τ m=>atF ks xs τ∧m=M
theorem tw_jcN (h:TS F n d H0 X ε τ m a x) {Γ:FH} (hΓ:FHOK P main F Γ) {jc:JC} (hw:jc.wf n=true) (ks:List Nat) (xs:List SV) (M:List Res) (hq:jc.wp Γ m.length (Got .norm ks xs M) τ m)
  (hR:∀ ε' a' x',TS F n d H0 X ε' (ofF ks xs .nil) M a' x'→(∀ i,i<m.length→ε'.blk i=ε.blk i)→Q .normal a' s x'):TW P main F S quiet tf fn (.jc jc) Q a s x:=
 tw_jc h hΓ hw hq fun e ex τ' m' ε' a' x' h1 h2 h3 h4=>by
  obtain ⟨rfl,h5,rfl⟩:=h2
  cases e<;>simp only [ExRel] at h1
  exact hR ε' a' x' (h3.ofN h5) h4
theorem tw_jcX (h:TS F n d H0 X ε τ m a x) {Γ:FH} (hΓ:FHOK P main F Γ) {jc:JC} (hw:jc.wf n=true) (i:Nat) (ks:List Nat) (xs:List SV) (M:List Res) (hq:jc.wp Γ m.length (Got (.exit i) ks xs M) τ m)
  (hR:∀ ε' a' x',TS F n d H0 X ε' (ofF ks xs .nil) M a' x'→(∀ i,i<m.length→ε'.blk i=ε.blk i)→Q (.exit i) a' s x'):TW P main F S quiet tf fn (.jc jc) Q a s x:=
 tw_jc h hΓ hw hq fun e ex τ' m' ε' a' x' h1 h2 h3 h4=>by
  obtain ⟨rfl,h5,rfl⟩:=h2
  cases e<;>simp only [ExRel] at h1
  subst h1
  exact hR ε' a' x' (h3.ofN h5) h4
theorem tw_jcR (h:TS F n d H0 X ε τ m a x) {Γ:FH} (hΓ:FHOK P main F Γ) {jc:JC} (hw:jc.wf n=true) (ks:List Nat) (xs:List SV) (M:List Res) (hq:jc.wp Γ m.length (Got .ret ks xs M) τ m)
  (hR:∀ ε' a' x',TS F n d H0 X ε' (ofF ks xs .nil) M a' x'→(∀ i,i<m.length→ε'.blk i=ε.blk i)→Q .ret a' s x'):TW P main F S quiet tf fn (.jc jc) Q a s x:=
 tw_jc h hΓ hw hq fun e ex τ' m' ε' a' x' h1 h2 h3 h4=>by
  obtain ⟨rfl,h5,rfl⟩:=h2
  cases e<;>simp only [ExRel] at h1
  exact hR ε' a' x' (h3.ofN h5) h4
theorem tw_regN (h:TS F n d H0 X ε τ m a x) {Γ:FH} (hΓ:FHOK P main F Γ) {pre post:SL} {dst:Option Nat} {so:StO} (hw:pre.wf n=true) (ks:List Nat) (xs:List SV) (M:List Res) (hk:pre.wp Γ false (GotN ks xs M) τ m)
  (hop:∀ ε' a' x',TS F n d H0 X ε' (ofF ks xs .nil) M a' x'→(∀ i,i<m.length→ε'.blk i=ε.blk i)→∀ o:Oper,compS tf o.op=some so→o.dst=dst→OpT P main F S fn o a' (Behind P main F S fn post Q) s x'):
  TW P main F S quiet tf fn (.reg pre dst so post) Q a s x:=
 tw_reg h hΓ hw hk fun τ' m' ε' a' x' h1 h2 h3=>by
  obtain ⟨h5,rfl⟩:=h1
  exact hop ε' a' x' (h2.ofN h5) h3
theorem Behind.ofN (h:TS F n d H0 X ε τ m a x) {Γ:FH} (hΓ:FHOK P main F Γ) {post:SL} (hw:post.wf n=true) (ks:List Nat) (xs:List SV) (M:List Res) (hk:post.wp Γ false (GotN ks xs M) τ m)
  (hQ:∀ ε' a' x',TS F n d H0 X ε' (ofF ks xs .nil) M a' x'→(∀ i,i<m.length→ε'.blk i=ε.blk i)→Q .normal a' s x'):Behind P main F S fn post Q a s x:=
 Behind.of h hΓ hw hk fun τ' m' ε' a' x' h1 h2 h3=>by
  obtain ⟨h5,rfl⟩:=h1
  exact hQ ε' a' x' (h2.ofN h5) h3
theorem got_eq {E:Ex} {ks:List Nat} {xs:List SV} {M:List Res} {ex:Ex} {τ:Fr} {m:List Res}:Got E ks xs M ex τ m=(ex=E∧atF ks xs τ∧m=M):=nr rfl
theorem gotN_eq {ks:List Nat} {xs:List SV} {M:List Res} {τ:Fr} {m:List Res}:GotN ks xs M τ m=(atF ks xs τ∧m=M):=nr rfl
theorem kill_raw (i:Nat) (v:Value):kill i (.raw v)= .raw v:=nr rfl
theorem ren_raw (r:Nat→Option Nat) (v:Value):ren r (.raw v)= .raw v:=nr rfl
theorem isVal_raw (v:Value):(SV.raw v).isVal=true:=nr rfl
theorem wd_raw (v:Value):wd (.raw v)=1:=nr rfl
theorem isAgg_raw (v:Value):(SV.raw v).isAgg=false:=nr rfl
attribute [go_sem] got_eq gotN_eq kill_raw ren_raw isVal_raw wd_raw isAgg_raw
end
end Go.Sx
end
section
namespace Go.Sx
open Go Go.Conc
section
variable {P:Program} {main:Bool} {F:Nat→Prop} {ι:Type _} {S:Ses ι} {quiet tf:FuncId→Bool} {fn:FuncId} {n:Nat} {d:List Deferred} {H0 X:Nat→Option Obj} {ε:Env} {τ:Fr} {m:List Res} {a:Act} {x:OW} {s:ι} {Q:Exit→Act→ι→OW→Prop}
theorem co_seq {p q:Code} {b:Frame} {k:List Item} {cs:List Frame} {Stop:Goroutine→OW→Prop} (hb:b.fn=fn) (hk:b.kind≠ .early) (hS:S s=Stop) (h:CodeT P main F S fn p Q a s x)
  (hq:∀ a' s' x',Q .normal a' s' x'→Co P main F (S s') (G (b.at a' (.code q::k)) cs) x') (hn:∀ e a' s' x',e≠ .normal→¬ Q e a' s' x'):Co P main F Stop (G (b.at a (.code (.seq p q)::k)) cs) x:=by
 subst hS
 refine .idle rfl (fun _=>stepG_seq) (h b (.code q::k) cs hb hk fun e a' s' x' hh=> ?_)
 cases e with
 |normal=>exact hq a' s' x' hh
 |exit i=>exact absurd hh (hn _ _ _ _ (by simp))
 |ret=>exact absurd hh (hn _ _ _ _ (by simp))
 |goto l=>exact absurd hh (hn _ _ _ _ (by simp))
 |panic c=>exact absurd hh (hn _ _ _ _ (by simp))
 |outgrown=>exact absurd hh (hn _ _ _ _ (by simp))
theorem sops_co {Γ:Hook} (hΓ:HookOK P main F Γ) {ops:Array Oper} {ρ:Root} {d:List Deferred} {Stop:Goroutine→OW→Prop} {b:Frame} {k:List Item} {cs:List Frame} (hb:b.fn=fn) (hk:b.kind≠ .early) {r:Nat}:∀ (l:List Oper) (ios:List IOp) (σ:List SV) (m:List Res) (K:List SV→List Res→Prop) (i:Nat),
  (∀ j,j<l.length→ops[i+j]? =l[j]?)→l.mapM (compOp P ops)=some ios→sops Γ ios K σ m→(∀ σ' m' ε' a' x',K σ' m'→InvO F ρ ε' m' x'→SlotsOK ε' σ' a'→a'.defers=d→Co P main F Stop (G (b.at a' (.inRegion ops (List.range' (i+l.length) r)::k)) cs) x')→
  ∀ ε a x,InvO F ρ ε m x→SlotsOK ε σ a→a.defers=d→Co P main F Stop (G (b.at a (.inRegion ops (List.range' i (l.length+r))::k)) cs) x
 |[],ios,σ,m,K,i,hat,hc,h,hK,ε,a,w,hi,hs,hd=>by
  simp at hc;subst hc
  have:=hK σ m ε a w h hi hs hd
  simpa using this
 |o::l,ios,σ,m,K,i,hat,hc,h,hK,ε,a,w,hi,hs,hd=>by
  have hoat:ops[i]? =some o:=by simpa using hat 0 (by simp)
  have hat':∀ j,j<l.length→ops[i+1+j]? =l[j]? :=fun j hj=>by
   have:=hat (j+1) (by simpa using hj)
   rw [List.getElem?_cons_succ] at this
   rw [← this];congr 1;omega
  simp only [List.mapM_cons,bind,Option.pure_def] at hc
  obtain ⟨io,ho,hc⟩:=bind_some hc
  obtain ⟨ios',hc',hc⟩:=bind_some hc
  simp only [Option.some.injEq] at hc
  subst hc
  simp only [compOp] at ho
  split at ho<;>try (cases ho;done)
  rename_i g x hg hx
  simp only [Option.some.injEq] at ho;subst ho
  simp only [sops] at h
  have e:List.range' i ((o::l).length+r)=i::List.range' (i+1) (l.length+r):=by
   rw [List.length_cons,show l.length+1+r=(l.length+r)+1 by omega,List.range'_succ]
  have e2:i+(o::l).length=i+1+l.length:=by simp;omega
  rw [e]
  rw [e2] at hK
  have go:∀ σ1,SlotsOK ε σ1 a→Region.wanted o (yielded ops a.tmps)=true→opK Γ σ1 m (fun σ' sv m'=>sops Γ ios' K (putS o.dst sv σ') m') x→Co P main F Stop (G (b.at a (.inRegion ops (i::List.range' (i+1) (l.length+r))::k)) cs) w:=by
   intro σ1 hs1 hw h1
   obtain ⟨σ',sv,m',h2,hE⟩:=opK_sound hΓ hx h1
   refine hE ρ ε a w fn hi hs1 ops o b k cs Stop i _ ⟨o.after,o.guard,rfl⟩ hb hk hoat hw ?_
   rintro a' w' ⟨v,ε',rfl,hv,hs',hi'⟩
   exact sops_co hΓ hb hk l ios' _ _ K (i+1) hat' hc' h2 hK ε' _ w' hi' (hs'.put hv o.dst) (by rw [put_defers];exact hd)
  cases g with
  |none=>
   have hgn:o.guard=none:=by
    cases hog:o.guard with
    |none=>rfl
    |some g=>rw [hog] at hg;simp only [compG] at hg;split at hg<;>cases hg
   exact go σ hs (by simp [Region.wanted,hgn]) h
  |some g=>
   obtain ⟨s',want⟩:=g
   simp only [guardK] at h
   split at h
   ·rename_i b' hb'
    have hw:=wanted_ok hs hg hb'
    by_cases hbw:b'=want
    ·subst hbw
     exact go _ (hs.known hb') (by rw [hw];simp) (h.1 rfl)
    ·have hbn:b'= !want:=by cases b'<;>cases want<;>first|rfl|exact absurd rfl hbw
     subst hbn
     have hs2:=hs.known hb'
     refine .idle rfl (fun _=>stepG_unwanted hoat (by rw [hw];simp)) ?_
     exact sops_co hΓ hb hk l ios' _ _ K (i+1) hat' hc' (h.2 rfl) hK ε _ w hi (SlotsOK.put (sv:= .tup []) (v:=undef) hs2 sat_undef o.dst) (by rw [put_defers];exact hd)
   ·rename_i hb'
    have hw:=wanted_undef hs hg hb'
    refine .idle rfl (fun _=>stepG_unwanted hoat hw) ?_
    exact sops_co hΓ hb hk l ios' _ _ K (i+1) hat' hc' h hK ε _ w hi (SlotsOK.put (sv:= .tup []) (v:=undef) hs sat_undef o.dst) (by rw [put_defers];exact hd)
   ·exact h.elim
theorem TS.last (h:TS F n d H0 X ε τ m a x) {Γ:FH} (hΓ:FHOK P main F Γ) {pre:SL} {dst:Option Nat} {so:StO} {c:Code} (hc:compT P quiet tf c=some (TIC.reg (pre.flat none) dst so [])) (hw:pre.wf n=true) (ks:List Nat) (xs:List SV) (M:List Res) (hk:pre.wp Γ false (GotN ks xs M) τ m)
  {b:Frame} {k:List Item} {cs:List Frame} {Stop:Goroutine→OW→Prop} (hb:b.fn=fn) (hke:b.kind≠ .early)
  (hop:∀ ε' a' x',TS F n d H0 X ε' (ofF ks xs .nil) M a' x'→∀ (ops:Array Oper) (i:Nat) (o:Oper),ops[i]? =some o→Region.wanted o (yielded ops a'.tmps)=true→compS tf o.op=some so→o.dst=dst→Co P main F Stop (G (b.at a' (.inRegion ops [i]::k)) cs) x'):
  Co P main F Stop (G (b.at a (.code c::k)) cs) x:=by
 obtain ⟨id,ops,l1,o,l2,rfl,h1,h2,h3,h4,h5,h6⟩:=compT_reg hc
 have hl2:l2=[]:=by
  cases l2 with
  |nil=>rfl
  |cons y r=>
   simp only [List.mapM_cons,bind,Option.pure_def] at h4
   obtain ⟨_,_,h4⟩:=bind_some h4
   obtain ⟨_,_,h4⟩:=bind_some h4
   cases h4
 subst hl2
 have hsz:ops.size=l1.length+1:=by
  have:=congrArg List.length h1
  simpa using this
 have hget:∀ j:Nat,ops[j]? =(l1++[o])[j]? :=fun j=>by rw [← h1];simp
 refine .idle rfl (fun _=>stepG_region) ?_
 rw [hsz,List.range_eq_range']
 obtain ⟨σ,s1,s2⟩:=h.s
 have kk:=wp_ok pre τ σ m (GotN ks xs M) (fun σ' m'=> ∃ τ',Rep n σ' τ'∧GotN ks xs M τ' m') hw s1 hk (fun σ' τ' m' hr hq=>⟨τ',hr,hq⟩)
 refine sops_co (fn:=fn) hΓ.hook (ρ:= .at ε m x) (d:=d) hb hke (r:=1) l1 _ σ m _ 0 (fun j hj=>by rw [Nat.zero_add,hget,List.getElem?_append_left hj]) h2 kk (fun σ' m' ε' a' x' ⟨τ',hr,hq⟩ hi' hs' hd'=> ?_) ε a x h.inv s2 h.d
 obtain ⟨g1,rfl⟩:=hq
 rw [Nat.zero_add,show List.range' l1.length 1=[l1.length] from rfl]
 exact hop ε' a' x' (TS.ofN ⟨hi'.goodO,⟨σ',hr,hs'⟩,hd',h.x.step h.g hi',fun b o hb=>hi'.inv.kept.H b o (h.h b o hb)⟩ g1) ops l1.length o (by rw [hget];simp) (by simp [Region.wanted,h6]) h3 h5
theorem GoodO.none {w:World} (hF:∀ b,F b→b<w.heap.size):GoodO F Env.nil [] ⟨w,fun _=>False⟩:=
 ⟨⟨rfl,fun i=>by rw [show memAt [] i= .dead from rfl];trivial,fun i j b _ h=>(by cases h),fun i b h=>(by cases h),fun b o h=>(by cases h),⟨fun p hp=>(by cases hp),fun b hb=>(by cases hb)⟩⟩,fun i b h=>(by cases h),fun b o h=>(by cases h),fun b h=>h.elim,hF⟩
end
end Go.Sx
end
