/- A part of the proof of StripeRuns. Conditions: none. -/
import Derived.Test.YtpajfggdnobheaaCo1
import Derived.Test.YtpajfggdnobheaaSx11m
set_option linter.unusedVariables false
set_option linter.unusedSimpArgs false
section
namespace Go.Sx
open Go
structure Root where
 w:World
 O:Nat→Prop
 ε:Env
 B:Nat→Prop
open Classical in
noncomputable def mixH (K:Nat→Prop) (h0 h:Array Obj):Array Obj:=h.mapIdx fun b o=>if K b then (h0[b]?).getD o else o
theorem mixH_size {K:Nat→Prop} {h0 h:Array Obj}:(mixH K h0 h).size=h.size:=by simp [mixH]
theorem mixH_in {K:Nat→Prop} {h0 h:Array Obj} {b:Nat} (hk:K b) (h1:b<h0.size) (h2:b<h.size):(mixH K h0 h)[b]? =h0[b]? :=by
 simp [mixH,hk,h1,h2]
theorem mixH_out {K:Nat→Prop} {h0 h:Array Obj} {b:Nat} (hk:¬ K b):(mixH K h0 h)[b]? =h[b]? :=by
 simp only [mixH,Array.getElem?_mapIdx,if_neg hk]
 cases h[b]? <;>rfl
noncomputable def Root.mix (ρ:Root) (F:Nat→Prop) (w:World):World:= {w with heap:=mixH (fun b=>ρ.O b∨F b) ρ.w.heap w.heap}
noncomputable def Root.base (ρ:Root) (F:Nat→Prop) (x:OW):Base:=⟨ρ.mix F x.w,ρ.ε,fun b=>ρ.B b∨(x.O b∧ρ.w.heap.size≤b)⟩
structure RootOK (F:Nat→Prop) (ρ:Root):Prop where
 Ol:∀ b,ρ.O b→b<ρ.w.heap.size
 Fl:∀ b,F b→b<ρ.w.heap.size
 BO:∀ b,ρ.B b→ρ.O b
 HO:∀ b o,ρ.ε.H b=some o→ρ.O b∨F b
structure InvO (F:Nat→Prop) (ρ:Root) (ε:Env) (m:List Res) (x:OW):Prop where
 rt:RootOK F ρ
 inv:Inv (ρ.base F x) ε m x.w
 sub:∀ b,ρ.O b→x.O b
 new:∀ b,x.O b→ρ.O b∨ρ.w.heap.size≤b
 lt:∀ b,x.O b→b<x.w.heap.size
 size:ρ.w.heap.size≤x.w.heap.size
 os:x.w.os=ρ.w.os
 tape:x.w.tape=ρ.w.tape
 output:x.w.output=ρ.w.output
section
variable {F:Nat→Prop} {ρ:Root} {ε ε':Env} {m m':List Res} {x:OW}
theorem InvO.same (h:InvO F ρ ε m x) (h':Inv (ρ.base F x) ε' m' x.w):InvO F ρ ε' m' x:=⟨h.rt,h',h.sub,h.new,h.lt,h.size,h.os,h.tape,h.output⟩
theorem InvO.own (h:InvO F ρ ε m x) {i b:Nat} (hb:ownR ε i (memAt m i)=some b):x.O b:=by
 rcases h.inv.own i b hb with hb'|hb'
 ·exact hb'.elim (fun hb'=>h.sub b (h.rt.BO b hb')) fun hb'=>hb'.1
 ·have:=ownR_lt h.inv.good hb
  simp only [Root.base,Root.mix,mixH_size] at hb'
  omega
theorem InvO.frz (h:InvO F ρ ε m x) {b:Nat} {o:Obj} (hb:ε.H b=some o):x.O b∨F b:=by
 rcases h.inv.kept.fresh b o hb with hb'|hb'|hb'
 ·exact (h.rt.HO b o hb').imp (h.sub b) id
 ·have:=H_lt h.inv.good hb
  simp only [Root.base,Root.mix,mixH_size] at hb'
  omega
 ·exact .inl (hb'.elim (fun hb'=>h.sub b (h.rt.BO b hb')) fun hb'=>hb'.1)
theorem Inv.move {β β':Base} {w w':World} (h:Inv β ε m w) (hε:β'.ε=β.ε) (ho:∀ i b,ownR ε i (memAt m i)=some b→w'.heap[b]? =w.heap[b]?) (hH:∀ b o,ε.H b=some o→w'.heap[b]? =w.heap[b]?)
  (hk:Kept β'.B β'.ε β'.w ε w') (hO:∀ i b,ownR ε i (memAt m i)=some b→β'.B b∨β'.w.heap.size≤b):Inv β' ε m w':=
 ⟨⟨h.good.n,fun i=>(h.good.res i).same (ho i),h.good.disj,h.good.sep,fun b o hb=>(hH b o hb).trans (h.good.hv b o hb),h.good.gl⟩,hk,hO,by rw [hε];exact h.n,by rw [hε];exact h.blk,by rw [hε];exact h.vv⟩
theorem InvO.rely (h:InvO F ρ ε m x) {w1:World} (hr:Rel x.O F x.w w1):InvO F ρ ε m ⟨w1,x.O⟩:=by
 refine ⟨h.rt,?_,h.sub,h.new,fun b hb=>Nat.lt_of_lt_of_le (h.lt b hb) hr.size,Nat.le_trans h.size hr.size,hr.os.trans h.os,hr.tape.trans h.tape,hr.output.trans h.output⟩
 refine h.inv.move rfl (fun i b hb=>hr.heap b (.inl (h.own hb))) (fun b o hb=>hr.heap b (h.frz hb)) ⟨rfl,rfl,rfl,by simp [Root.base,Root.mix,mixH_size],fun b hb hB=> ?_,h.inv.kept.H,fun b o hb=> ?_,fun _=>Nat.le_refl _⟩ fun i b hb=> ?_
 ·simp only [Root.base,Root.mix,mixH_size] at hb hB ⊢
  by_cases hk:ρ.O b∨F b
  ·have hlt:b<ρ.w.heap.size:=hk.elim (h.rt.Ol b) (h.rt.Fl b)
   rw [mixH_in hk hlt hb]
   have h2:=h.inv.kept.heap b (by simp only [Root.base,Root.mix,mixH_size];exact Nat.lt_of_lt_of_le hlt h.size) hB
   rw [hr.heap b (hk.imp (h.sub b) id),h2]
   exact mixH_in hk hlt (Nat.lt_of_lt_of_le hlt h.size)
  ·rw [mixH_out hk]
 ·rcases h.inv.kept.fresh b o hb with hb'|hb'|hb'
  ·exact .inl hb'
  ·have:=H_lt h.inv.good hb
   simp only [Root.base,Root.mix,mixH_size] at hb'
   omega
  ·exact .inr (.inr hb')
 ·rcases h.inv.own i b hb with hb'|hb'
  ·exact .inl hb'
  ·have:=ownR_lt h.inv.good hb
   simp only [Root.base,Root.mix,mixH_size] at hb'
   omega
theorem InvO.step (h:InvO F ρ ε m x) {w':World} (h':Inv (ρ.base F x) ε' m' w'):InvO F ρ ε' m' (OW.next x.O x.w w')∧∀ es,EvIn ε m x.w w' es→Gua x.O F x.w w' es:=by
 have hsz:x.w.heap.size≤w'.heap.size:=by have:=h'.kept.size;simpa only [Root.base,Root.mix,mixH_size] using this
 have hbase:∀ b,b<x.w.heap.size→¬ (ρ.B b∨(x.O b∧ρ.w.heap.size≤b))→w'.heap[b]? =x.w.heap[b]? :=fun b hb hB=>by
  have h1:=h'.kept.heap b (by simp only [Root.base,Root.mix,mixH_size];exact hb) hB
  have h2:=h.inv.kept.heap b (by simp only [Root.base,Root.mix,mixH_size];exact hb) hB
  exact h1.trans h2.symm
 refine ⟨⟨h.rt,?_,fun b hb=> .inl (h.sub b hb),fun b hb=>hb.elim (h.new b) fun hb=> .inr (Nat.le_trans h.size hb.1),fun b hb=>hb.elim (fun hb=>Nat.lt_of_lt_of_le (h.lt b hb) hsz) fun hb=>hb.2,Nat.le_trans h.size hsz,
  h'.kept.os.trans h.os,h'.kept.tape.trans h.tape,h'.kept.output.trans h.output⟩,fun es he=>⟨h'.kept.os,h'.kept.tape,h'.kept.output,hsz,fun b hb hO=> ?_,fun e he'=> ?_⟩⟩
 ·refine h'.move rfl (fun _ _ _=>rfl) (fun _ _ _=>rfl) ⟨rfl,rfl,rfl,by simp [Root.base,Root.mix,mixH_size,OW.next],fun b hb hB=> ?_,h'.kept.H,fun b o hb=> ?_,fun _=>Nat.le_refl _⟩ fun i b hb=> ?_
  ·simp only [Root.base,Root.mix,mixH_size,OW.next] at hb hB ⊢
   by_cases hk:ρ.O b∨F b
   ·have hlt:b<ρ.w.heap.size:=hk.elim (h.rt.Ol b) (h.rt.Fl b)
    rw [mixH_in hk hlt hb]
    have h2:=h'.kept.heap b (by simp only [Root.base,Root.mix,mixH_size];exact Nat.lt_of_lt_of_le hlt h.size) (by
     rintro (hb'|hb')
     ·exact hB (.inl hb')
     ·omega)
    rw [h2]
    exact mixH_in hk hlt (Nat.lt_of_lt_of_le hlt h.size)
   ·rw [mixH_out hk]
  ·rcases h'.kept.fresh b o hb with hb'|hb'|hb'
   ·exact .inl hb'
   ·have:=H_lt h'.good hb
    simp only [Root.base,Root.mix,mixH_size] at hb'
    exact .inr (.inr (.inr ⟨.inr ⟨hb',this⟩,Nat.le_trans h.size hb'⟩))
   ·exact .inr (.inr (hb'.imp id fun hb'=>⟨.inl hb'.1,hb'.2⟩))
  ·rcases h'.own i b hb with hb'|hb'
   ·exact .inl (hb'.imp id fun hb'=>⟨.inl hb'.1,hb'.2⟩)
   ·have:=ownR_lt h'.good hb
    simp only [Root.base,Root.mix,mixH_size] at hb'
    exact .inl (.inr ⟨.inr ⟨hb',this⟩,Nat.le_trans h.size hb'⟩)
 ·exact hbase b hb fun hB=>hB.elim (fun hB=>hO (h.sub b (h.rt.BO b hB))) fun hB=>hO hB.1
 ·rcases he e he' with ⟨h1,b,h2,h3⟩|⟨mk,rfl,hn⟩
  ·refine .inl ⟨h1,?_⟩
   have key:b<w'.heap.size∧(x.O b∨x.w.heap.size≤b∨(F b∧e.write=false)):=by
    rcases h3 with (⟨i,hi⟩|hb)|⟨⟨o,hb⟩,hw⟩
    ·exact ⟨Nat.lt_of_lt_of_le (ownR_lt h.inv.good hi) hsz, .inl (h.own hi)⟩
    ·exact ⟨hb.2, .inr (.inl hb.1)⟩
    ·exact ⟨Nat.lt_of_lt_of_le (H_lt h.inv.good hb) hsz,(h.frz hb).imp id fun hf=> .inr ⟨hf,hw⟩⟩
   cases hl:e.loc<;>rw [hl] at h2<;>simp only [Loc.bk,Option.some.injEq] at h2<;>try (cases h2;done)
   all_goals (subst h2;exact key)
  ·exact .inr ⟨mk,rfl,hn⟩
end
def EStepO (P:Program) (main:Bool) (F:Nat→Prop) (o:Oper) (σ:List SV) (m:List Res) (σ':List SV) (sv:SV) (m':List Res):Prop:=
 ∀ ρ ε a x fn,InvO F ρ ε m x→SlotsOK ε σ a→OpQ P main F fn o a (fun a' x'=> ∃ v ε',a'=a.put o.dst v∧SatV ε' sv v∧SlotsOK ε' σ' a∧InvO F ρ ε' m' x') x
def EStepC (P:Program) (main:Bool) (F:Nat→Prop) (o:Oper) (σ:List SV) (m:List Res) (sv:SV) (m':List Res):Prop:=
 ∀ ρ ε a x fn,InvO F ρ ε m x→SlotsOK ε σ a→OpQ P main F fn o a (fun a' x'=> ∃ v ε',a'=a.put o.dst v∧SatV ε' sv v∧ε.Le ε'∧InvO F ρ ε' m' x') x
section
variable {P:Program} {main:Bool} {F:Nat→Prop} {o:Oper} {σ σ':List SV} {m m':List Res} {sv:SV}
theorem EStepC.step (h:EStepC P main F o σ m sv m'):EStepO P main F o σ m σ sv m':=fun ρ ε a x fn hi hs=>
 (h ρ ε a x fn hi hs).mono fun a' x' ⟨v,ε',h1,h2,h3,h4⟩=>⟨v,ε',h1,h2,hs.mono h3,h4⟩
theorem EStepR.up (h:EStepR P o σ m σ' sv m'):EStepO P main F o σ m σ' sv m':=fun ρ ε a x fn hi hs=>opq_run fun w1 hr=>by
 obtain ⟨v,w',ε',h1,h2,h3,h4,h5⟩:=h _ ε a w1 (hi.rely hr).inv hs
 obtain ⟨k1,k2⟩:=(hi.rely hr).step h4
 exact ⟨v,w',h1,k2 _ h5,v,ε',rfl,h2,h3,k1⟩
theorem EStepL.up (h:EStepL P o σ m sv m'):EStepC P main F o σ m sv m':=fun ρ ε a x fn hi hs=>opq_run fun w1 hr=>by
 obtain ⟨v,w',ε',h1,h2,h3,h4,h5⟩:=h _ ε a w1 (hi.rely hr).inv hs
 obtain ⟨k1,k2⟩:=(hi.rely hr).step h4
 exact ⟨v,w',h1,k2 _ h5,v,ε',rfl,h2,h3,k1⟩
end
section
variable {P:Program} {main:Bool} {F:Nat→Prop} {fn:FuncId} {ops:Array Oper} {Q:Exit→Act→OW→Prop}
def wqOp (P:Program) (main:Bool) (F:Nat→Prop) (fn:FuncId) (ops:Array Oper) (i:Nat) (K:Act→OW→Prop) (a:Act) (x:OW):Prop:=
 match ops[i]? with
 |none=>K a x
 |some o=>if Region.wanted o (yielded ops a.tmps) then OpQ P main F fn o a K x else K (a.put o.dst undef) x
theorem wqOp_mono {i:Nat} {a:Act} {x:OW} {K K':Act→OW→Prop} (h:∀ a x,K a x→K' a x) (hh:wqOp P main F fn ops i K a x):wqOp P main F fn ops i K' a x:=by
 unfold wqOp at*
 split
 ·exact h _ _ (by simpa [*] using hh)
 ·rename_i o ho
  simp only [ho] at hh
  split
  ·rename_i hw;simp only [hw,if_true] at hh;exact hh.mono h
  ·rename_i hw;simp only [hw] at hh;exact h _ _ hh
def wqAny (P:Program) (main:Bool) (F:Nat→Prop) (fn:FuncId) (ops:Array Oper) (Q:Exit→Act→OW→Prop):Nat→Array Bool→Act→OW→Prop
 |0,listed,a,x=>Region.ready .any ops listed=[]∧Q .normal a x
 |fuel+1,listed,a,x=>
  (Region.ready .any ops listed=[]→Q .normal a x)∧
  ∀ i∈Region.ready .any ops listed,wqOp P main F fn ops i (wqAny P main F fn ops Q fuel (listed.setIfInBounds i true)) a x
theorem opsq_of_op {i:Nat} {rest:List Nat} {a:Act} {x:OW} {o:Oper} (ho:ops[i]? =some o) (h:wqOp P main F fn ops i (fun a x=>OpsQ P main F fn ops rest Q a x) a x):OpsQ P main F fn ops (i::rest) Q a x:=by
 unfold wqOp at h
 rw [ho] at h
 simp only at h
 split at h
 ·rename_i hw;exact opsq_op ho hw h
 ·rename_i hw;exact opsq_skip ho (by simpa using hw) h
theorem wqAny_sound:∀ (fuel t:Nat) (listed:Array Bool) (a:Act) (x:OW),wqAny P main F fn ops Q fuel listed a x→
  OpsQ P main F fn ops (Region.linearise.go .any ops fuel t listed []) Q a x:=by
 intro fuel
 induction fuel with
 |zero=>intro t listed a w h;exact opsq_nil h.2
 |succ fuel ih=>
  intro t listed a w h
  obtain ⟨h₀,h₁⟩:=h
  simp only [Region.linearise.go]
  change OpsQ P main F fn ops (match (Region.ready .any ops listed)[t%(Region.ready .any ops listed).length]? with
   |some i=>Region.linearise.go .any ops fuel (t/(Region.ready .any ops listed).length) (listed.setIfInBounds i true) [i]
   |none=>[].reverse) Q a w
  cases hi:(Region.ready .any ops listed)[t%(Region.ready .any ops listed).length]? with
  |none=>
   have hnil:Region.ready .any ops listed=[]:=by
    cases hr:Region.ready .any ops listed with
    |nil=>rfl
    |cons x xs=>
     rw [hr] at hi
     have hlt:t%(x::xs).length< (x::xs).length:=Nat.mod_lt _ (by simp)
     simp at hi
     simp at hlt
     omega
   exact opsq_nil (h₀ hnil)
  |some i=>
   simp only []
   rw [linearise_go_acc,List.reverse_singleton,List.singleton_append]
   have hm:=List.mem_of_getElem? hi
   obtain ⟨_,o,ho,_⟩:=mem_ready.1 hm
   exact opsq_of_op ho (wqOp_mono (fun a w=>ih _ _ a w) (h₁ i hm))
theorem wq_region_any {id:Nat} {a:Act} {x:OW} (hm:P.follows .mixedOrders=true)
  (h:∀ w1,Rel x.O F x.w w1→wqAny P main F fn ops Q ops.size (Array.replicate ops.size false) a ⟨{w1 with drawn:=w1.drawn+1},x.O⟩):CodeQ P main F fn (.region id ops true) Q a x:=
 wq_draw fun w1 h1 t=>by
  simp only [Region.schedule,hm,Bool.true_or,if_true]
  exact wqAny_sound ops.size t _ a _ (h w1 h1)
theorem InvO.drew {ρ:Root} {ε:Env} {m:List Res} {x:OW} (h:InvO F ρ ε m x):InvO F ρ ε m ⟨{x.w with drawn:=x.w.drawn+1},x.O⟩:=
 h.rely ⟨rfl,rfl,rfl,Nat.le_refl _,fun _ _=>rfl⟩
end
end Go.Sx
end
section
namespace Go.Sx
open Go
variable {P:Program}
def okFn (P:Program) (f:FuncId):Bool:=match P.funcs[f]? with
 |some fn=>fn.name != "runtime.NumGoroutine" &&fn.body.isSome
 |none=>false
theorem run_callFunc {f:FuncId} (h:okFn P f=true) (args:Array Value) (w:World):(callFunc f args).run P w= .ok (.enter f args) w:=by
 unfold okFn at h
 split at h
 ·rename_i fn hf
  simp only [Bool.and_eq_true,bne_iff_ne,ne_eq,Option.isSome_iff_exists] at h
  obtain ⟨h1,b,h2⟩:=h
  simp [callFunc,hf,h1,h2]
 ·cases h
theorem ev_callFunc {f:FuncId} (h:okFn P f=true) (args:Array Value) (w:World) (es:Array Event):(callFunc f args).events P w es=es:=by
 unfold okFn at h
 split at h
 ·rename_i fn hf
  simp only [Bool.and_eq_true,bne_iff_ne,ne_eq,Option.isSome_iff_exists] at h
  obtain ⟨h1,b,h2⟩:=h
  simp [callFunc,hf,h1,h2]
 ·cases h
variable {main:Bool} {F:Nat→Prop}
def CallStep (P:Program) (main:Bool) (F:Nat→Prop) (f:FuncId) (args:List SV) (m:List Res) (sv:SV) (m':List Res):Prop:=
 ∀ ρ ε vs x,InvO F ρ ε m x→SatA args ε vs→CallsQ P main F f vs.toArray x fun v x'=> ∃ ε',ε.Le ε'∧SatV ε' sv v∧InvO F ρ ε' m' x'
def HookOK (P:Program) (main:Bool) (F:Nat→Prop) (Γ:Hook):Prop:= ∀ f args m K,Γ f args m K→okFn P f=true∧∃ sv m',K sv m'∧CallStep P main F f args m sv m'
section
variable {o:Oper} {σ:List SV} {m:List Res}
theorem SatA.append {ε:Env}:∀ {l1 l2:List SV} {v1 v2:List Value},SatA l1 ε v1→SatA l2 ε v2→SatA (l1++l2) ε (v1++v2)
 |[],l2,v1,v2,h1,h2=>by simp only [SatA] at h1;subst h1;simpa using h2
 |x::r,l2,v1,v2,h1,h2=>by
  simp only [SatA] at h1
  obtain ⟨cs,t,rfl,h3,h4⟩:=h1
  simp only [List.cons_append,SatA]
  exact ⟨cs,t++v2,rfl,h3,SatA.append h4 h2⟩
theorem estep_enter {Γ:Hook} (hΓ:HookOK P main F Γ) {f:FuncId} {args:List SV} {K:SV→List Res→Prop} (h:Γ f args m K)
  (hrun:∀ ε a,SlotsOK ε σ a→∃ vs,SatA args ε vs∧(okFn P f=true→∀ w,(execOp a.eval o).run P w= .ok (.enter f vs.toArray) w∧(execOp a.eval o).events P w #[]= #[])):
  ∃ sv m',K sv m'∧EStepC P main F o σ m sv m':=by
 obtain ⟨hok,sv,m',hK,hc⟩:=hΓ f args m K h
 refine ⟨sv,m',hK,fun ρ ε a x fn hi hs=> ?_⟩
 obtain ⟨vs,h1,h2⟩:=hrun ε a hs
 exact opq_call (fun w _=>h2 hok w) ((hc ρ ε vs x hi h1).mono fun v x' ⟨ε',hl,hv,hi'⟩=>⟨v,ε',rfl,hv,hl,hi'⟩)
theorem estep_call {Γ:Hook} (hΓ:HookOK P main F Γ) {f:FuncId} {args:Array Operand} {tys:Array TypeId} {ys:List Opd} {K:SV→List Res→Prop}
  (ho:o.op= .call {callee:= .value (.func f),args,argTypes:=tys}) (hy:args.toList.mapM compO=some ys) (hv:(ys.map (·.ev σ)).all SV.isVal=true)
  (h:Γ f (ys.map (·.ev σ)) m K):∃ sv m',K sv m'∧EStepC P main F o σ m sv m':=by
 refine estep_enter hΓ h fun ε a hs=>⟨_,sat_caps hs args.toList ys hy hv,fun hok w=> ?_⟩
 have:(args.toList.map a.eval).toArray=args.map a.eval:=by apply Array.ext';simp
 refine ⟨?_,by simp [execOp,ho,resolve,Deferred.ofValue,invoke,Act.eval,ev_callFunc hok]⟩
 simp [execOp,ho,resolve,Deferred.ofValue,invoke,Act.eval,run_callFunc hok]
 apply Array.ext';simp
theorem estep_callv {Γ:Hook} (hΓ:HookOK P main F Γ) {x:Operand} {x':Opd} {f:FuncId} {cap:List SV} {args:Array Operand} {tys:Array TypeId} {ys:List Opd} {K:SV→List Res→Prop}
  (ho:o.op= .call {callee:= .value x,args,argTypes:=tys}) (hx:compO x=some x') (hf:x'.ev σ= .fn f cap) (hy:args.toList.mapM compO=some ys) (hv:(ys.map (·.ev σ)).all SV.isVal=true)
  (h:Γ f (ys.map (·.ev σ)++cap) m K):∃ sv m',K sv m'∧EStepC P main F o σ m sv m':=by
 refine estep_enter hΓ h fun ε a hs=> ?_
 obtain ⟨cv,h1,h2⟩:=sat_fn (hf▸compO_ok hx hs)
 refine ⟨_,(sat_caps hs args.toList ys hy hv).append h1,fun hok w=> ?_⟩
 simp [execOp,ho,resolve,h2,Deferred.ofValue,invoke,run_callFunc hok,ev_callFunc hok]
def icOf (P:Program) (nm:String) (t:TypeId):Option (TypeId×FuncId):=match P.info? t with
 |some i=>match i.methods.find? (·.name==nm) with
  |some mth=>match mth.func with
   |some (f,false)=>if mth.path.isEmpty then (match P.underlying t with
    |some (.pointer _)=>none
    |some _=>some (t,f)
    |none=>none) else none
   |_=>none
  |none=>none
 |none=>none
def icTab (P:Program) (nm:String):List (TypeId×FuncId):=(List.range P.types.size).filterMap (icOf P nm)
theorem tabF_mem {t:TypeId} {f:FuncId}:∀ {l:List (TypeId×FuncId)},tabF l t=some f→(t,f)∈l
 |[],h=>by cases h
 |(u,x)::r,h=>by
  simp only [tabF] at h
  split at h
  ·rename_i hu
   cases h;subst hu;exact List.mem_cons_self
  ·exact List.mem_cons_of_mem _ (tabF_mem h)
theorem icTab_ok {nm:String} {t:TypeId} {f:FuncId} (h:tabF (icTab P nm) t=some f):∀ (v:Value) (n:Nat) (w:World),(method (n+1) t v nm).run P w= .ok (f,v) w∧∀ es,(method (n+1) t v nm).events P w es=es:=by
 obtain ⟨u,_,hu⟩:=List.mem_filterMap.1 (tabF_mem h)
 unfold icOf at hu
 split at hu<;>try (cases hu;done)
 rename_i i hi
 split at hu<;>try (cases hu;done)
 rename_i mth hm
 split at hu<;>try (cases hu;done)
 rename_i f' hf
 split at hu<;>try (cases hu;done)
 rename_i hp
 split at hu<;>try (cases hu;done)
 rename_i d hnp hd
 simp only [Option.some.injEq,Prod.mk.injEq] at hu
 obtain ⟨rfl,rfl⟩:=hu
 intro v n w
 have hp':mth.path.toList=[]:=by simpa using hp
 have hrec:∀ wr,(receiverAt u (.val v) false wr).run P w= .ok v w:=by
  intro wr
  simp only [receiverAt,Sem.run_bind,run_underlying hd,Result.andThen_ok]
  cases d<;>first
   |exact absurd hd (hnp _)
   |rfl
 have hre:∀ wr es,(receiverAt u (.val v) false wr).events P w es=es:=by
  intro wr es
  simp only [receiverAt,Sem.events_bind,events_underlying,run_underlying hd,Result.evThen_ok]
  cases d<;>first
   |exact absurd hd (hnp _)
   |rfl
 exact ⟨by simp [method,run_info hi,hm,hp',follow,hf,hrec],fun es=>by simp [method,run_info hi,hm,hp',follow,hf,hrec,hre]⟩
theorem recv_at (r:Value) (b:Array Value):(#[r]++b)[0]? =some r:=by
 rw [Array.getElem?_append_left (by simp)]
 rfl
theorem recv_rest (r:Value) (b:Array Value):(#[r]++b).extract 1 (#[r]++b).size=b:=by
 apply Array.ext'
 simp only [Array.toList_extract,Array.size_append]
 simp only [List.extract,Array.toList_append,List.size_toArray,List.length_cons,List.length_nil]
 rw [show (0+1+b.size - 1)=b.toList.length by simp]
 exact List.take_length
theorem estep_icall {Γ:Hook} (hΓ:HookOK P main F Γ) {x:Operand} {nm:String} {x':Opd} {t:TypeId} {v:SV} {f:FuncId} {args:Array Operand} {tys:Array TypeId} {ys:List Opd} {K:SV→List Res→Prop}
  (ho:o.op= .call {callee:= .invoke x nm,args,argTypes:=tys}) (hx:compO x=some x') (hf:x'.ev σ= .iface t v) (ht:tabF (icTab P nm) t=some f) (hy:args.toList.mapM compO=some ys) (hv:(ys.map (·.ev σ)).all SV.isVal=true)
  (h:Γ f (v::ys.map (·.ev σ)) m K):∃ sv m',K sv m'∧EStepC P main F o σ m sv m':=by
 refine estep_enter hΓ h fun ε a hs=> ?_
 obtain ⟨xs,h1,h2⟩:=sat_iface (hf▸compO_ok hx hs)
 refine ⟨boxed v.isAgg xs::_,by simp only [SatA];exact ⟨xs,_,rfl,h1,sat_caps hs args.toList ys hy hv⟩,fun hok w=> ?_⟩
 obtain ⟨hm,hme⟩:=icTab_ok ht (boxed v.isAgg xs) (P.types.size+99) w
 simp only [execOp,ho,resolve,Sem.run_bind,Sem.run_pure,Result.andThen_ok,Sem.events_bind,Sem.events_pure,Result.evThen_ok,h2,invoke,recv_at,recv_rest,callMethod]
 simp [Made.depth,hm,hme,run_callFunc hok,ev_callFunc hok]
theorem estep_mks {T E:TypeId} {w by':Nat} {z:SV} {l c:Operand} {l' c':Opd} {kl kc:IntKind} {nl nc:Int} (ho:o.op= .makeSlice T l c) (ht:compApp P T=some (E,w,by')) (hz':zok P E=some z)
  (hl:compO l=some l') (hc:compO c=some c') (el:l'.ev σ= .int kl nl) (ec:c'.ev σ= .int kc nc) (h0:0≤nl) (hlc:nl≤nc) (hb:nc*by'≤140737488355328):
  EStepL P o σ m (.vec m.length nl.toNat) (m++[.vec E w (List.replicate nl.toNat z)]):=by
 intro β ε a W hI hs
 obtain ⟨hu,i,zv,hi,hz,hsz,hby,hzs,hw0,hb0⟩:=compApp_ok ht
 obtain ⟨i2,v2,e1,e2,e3⟩:=zok_ok hz'
 rw [hi] at e1;cases e1
 rw [hz] at e2;cases e2
 have s1:=sat_int (el▸compO_ok hl hs)
 have s2:=sat_int (ec▸compO_ok hc hs)
 have hnc:nc≤9223372036854775807:=by
  have:nc*1≤nc*by':=Int.mul_le_mul_of_nonneg_left (by omega) (by omega)
  omega
 have hr:(execOp a.eval o).run P W= .ok (.value (.slice (some ⟨W.heap.size,0,none⟩) nl.toNat nc.toNat)) (W.alloc (.cells (madeCells zv.cells (nc.toNat*i.size)) E)):=by
  have:=run_make (P:=P) W T E i zv hu hi hz kl kc nl nc h0 hlc (by rw [hby,Int.mul_comm];omega) hnc
  simp [execOp,ho,s1,s2,this]
 have hcm:nc.toNat≤maxLen:=by unfold maxLen;omega
 subst hsz
 have hzl:zv.cells.toList.length=i.size:=by simpa using hzs
 have hEz:=satE_zero (n:=nl.toNat) (e3 ε) hzl
 refine ⟨_,_,ε.more 0 (.slice (some ⟨W.heap.size,0,none⟩) nl.toNat nc.toNat), .inl hr,?_,ε.le_more _ _,hI.more (World.grownBy_alloc _ _ _) (Nat.le_refl _) ?_ ?_, .nil ?_⟩
 ·refine ⟨[.slice (some ⟨W.heap.size,0,none⟩) nl.toNat nc.toNat],?_,rfl⟩
  simp only [SatC]
  refine ⟨by simp [Env.more,hI.good.n], .inr ⟨W.heap.size,nc.toNat,?_,by omega⟩,?_⟩<;>simp [Env.more,hI.good.n]
 ·have hvv:(ε.more 0 (.slice (some ⟨W.heap.size,0,none⟩) nl.toNat nc.toNat)).vv m.length= .slice (some ⟨W.heap.size,0,none⟩) nl.toNat nc.toNat:=by simp [Env.more,hI.good.n]
  refine ⟨_,?_,fun j hj=>(hEz.2 j hj).mono _ (ε.le_more _ _)⟩
  rw [hvv]
  refine .of ⟨hEz.1, .inr ⟨W.heap.size,nc.toNat,madeCells zv.cells (nc.toNat*i.size),by simp,Nat.zero_le _,heap_alloc_new W _,by simp;omega,hcm,by simp [madeCells],?_⟩⟩
  have hle:nl.toNat*i.size≤nc.toNat*i.size:=Nat.mul_le_mul_right _ (by omega)
  simp only [List.length_replicate]
  apply List.ext_getElem?
  intro k
  rw [List.getElem?_take]
  by_cases hk:k<nl.toNat*i.size
  ·rw [if_pos hk]
   simp [madeCells,hk,show k<nc.toNat*i.size by omega]
  ·rw [if_neg hk,List.getElem?_eq_none (by simp;omega)]
 ·intro x hx
  simp [ownR,Env.more,hI.good.n,Value.ownBlock] at hx
  omega
 ·have hroom:nc.toNat*by'≤140737488355328:=by
   have:((nc.toNat*by':Nat):Int)≤140737488355328:=by rw [Int.natCast_mul,Int.toNat_of_nonneg (by omega)];exact hb
   omega
  have:=Conc.events_make (P:=P) W T E i zv hu hi hz kl kc nl nc h0 hlc (by rw [hby,Int.mul_comm];omega) hnc (by rw [hby];exact hroom) #[]
  simp [execOp,ho,s1,s2,this]
end
inductive IO1:Type 1 where
 |p (x:PIO)
 |e (x:EIO)
structure IOp:Type 1 where
 dst:Option Nat
 guard:Option (Nat×Bool)
 op:IO1
def compE (P:Program):Op→Option EIO
 | .alloc T=>(zok P T).map (.alloc T)
 | .box T x=>(compO x).map (.box T)
 | .load T x=>match compO x,tsz P T with
  |some x,some (n,ag)=>some (.load n ag x)
  |_,_=>none
 | .store T x v=>match compO x,compO v,tsz P T with
  |some x,some v,some (n,_)=>some (.store n x v)
  |_,_,_=>none
 | .buildSlice T len parts=>match P.underlying T with
  |some (.slice E)=>match zok P E,tsz P E,compEls parts.toList with
   |some z,some (w,_),some ys=>if wd z=w∧len*w≤2^24∧0<w then some (.bsl E w len z ys) else none
   |_,_,_=>none
  |_=>none
 | .makeSlice T l c=>match compApp P T,compO l,compO c with
  |some (E,w,by'),some l,some c=>match zok P E with
   |some z=>some (.mks E w by' z l c)
   |none=>none
  |_,_,_=>none
 | .call c=>match compM P (.call c) with
  |some p=>some (.mop p.1 p.2)
  |none=>compC P c
 |op=>(compM P op).map fun p=> .mop p.1 p.2
where compC (P:Program) (c:Call):Option EIO:=
 match c.callee with
 | .builtin .append=>match c.args.toList,c.argTypes.toList with
  |[s,x],[t,t']=>if t'=t then match compApp P t,compO s,compO x with
    |some (E,w,by'),some s,some x=>some (.app E w by' s x)
    |_,_,_=>none
   else none
  |_,_=>none
 | .value (.func f)=>(c.args.toList.mapM compO).map (.call f)
 | .value x=>match compO x,c.args.toList.mapM compO with
  |some x,some ys=>some (.callv x ys)
  |_,_=>none
 | .invoke x nm=>match compO x,c.args.toList.mapM compO with
  |some x,some ys=>some (.icall (icTab P nm) x ys)
  |_,_=>none
 |_=>none
theorem compE_M {op:Op} {k:MK} {ys:List Opd} (h:compM P op=some (k,ys)):compE P op=some (.mop k ys):=by
 cases op<;>simp only [compM] at h<;>try (cases h;done)
 all_goals simp only [compE,compM,h,Option.map_some]
def eopK (Γ:Hook) (σ:List SV) (m:List Res) (K:List SV→SV→List Res→Prop):EIO→Prop
 | .alloc T z=>K σ (.ptr m.length [] 0) (m++[.blk T z])
 | .box T x=>(x.ev σ).isVal=true∧K σ (.ptr m.length [] 0) (m++[.blk T (x.ev σ)])
 | .load n ag x=>peek m n ag (fun sv=>K σ sv m) (x.ev σ)
 | .store n x v=>poke m n (v.ev σ) (fun m'=>K σ .junk m') (x.ev σ)
 | .bsl E w len z ys=>bslParts σ w (List.replicate len z) ys fun l=>K σ (.vec m.length len) (m++[.vec E w l])
 | .mks E w by' z l c=>match l.ev σ,c.ev σ with
  | .int _ a, .int _ b=>(0≤a∧a≤b∧b*by'≤140737488355328)∧K σ (.vec m.length a.toNat) (m++[.vec E w (List.replicate a.toNat z)])
  |_,_=>False
 | .app E w by' s x=>appK σ m E w by' (s.ev σ) (x.ev σ) K
 | .call f ys=>(ys.map (·.ev σ)).all SV.isVal=true∧Γ f (ys.map (·.ev σ)) m fun sv m'=>K σ sv m'
 | .qcall f ys=>(ys.map (·.ev σ)).all SV.isVal=true∧Γ f (ys.map (·.ev σ)) m fun sv m'=>m'=m∧K σ sv m
 | .qtab l=>K σ (.lst 1 (0:Int) (SV.int .i64) l) m
 | .qbsl E w len z ys=>bslParts σ w (List.replicate len z) ys fun l=>datPL l∧K σ (qres w len l) m
 | .again n ag x d=>(σ.getD d .junk).isVal=true∧peek m n ag (fun sv=>sv=σ.getD d .junk∧K σ .junk m) (x.ev σ)
 | .magain k ys d=>(σ.getD d .junk).isSet=true∧(ys.map (·.ev σ)).all SV.isVal=true∧mopK m k (ys.map (·.ev σ)) (fun sv m'=>(sv=σ.getD d .junk∧m'=m)∧K σ .junk m)
 | .icall tab x ys=>match x.ev σ with
  | .iface t v=>match tabF tab t with
   |some f=>(ys.map (·.ev σ)).all SV.isVal=true∧Γ f (v::ys.map (·.ev σ)) m fun sv m'=>K σ sv m'
   |none=>False
  |_=>False
 | .callv x ys=>match x.ev σ with
  | .fn f cap=>(ys.map (·.ev σ)).all SV.isVal=true∧Γ f (ys.map (·.ev σ)++cap) m fun sv m'=>K σ sv m'
  |_=>False
 | .mop k ys=>(ys.map (·.ev σ)).all SV.isVal=true∧mopK m k (ys.map (·.ev σ)) fun sv m'=>K σ sv m'
theorem eopK_sound {Γ:Hook} (hΓ:HookOK P main F Γ) {o:Oper} {σ:List SV} {m:List Res} {K:List SV→SV→List Res→Prop} {e:EIO} (he:compE P o.op=some e) (h:eopK Γ σ m K e):
  ∃ σ' sv m',K σ' sv m'∧EStepO P main F o σ m σ' sv m':=by
 cases hM:compM P o.op with
 |some p=>
  obtain ⟨k,ys⟩:=p
  rw [compE_M hM] at he
  cases he
  obtain ⟨sv,m',hK,hE,_⟩:=estep_mop (K:=fun sv m'=>K σ sv m') hM h.1 h.2
  exact ⟨_,_,_,hK,hE.up.step⟩
 |none=>
 cases ho:o.op<;>rw [ho] at he hM<;>simp only [compE,hM,Option.map_none] at he<;>try (cases he;done)
 case alloc T=>
  simp only [Option.map_eq_some_iff] at he
  obtain ⟨z,hz,rfl⟩:=he
  exact ⟨_,_,_,h,(estep_alloc ho hz).up.step⟩
 case box T x=>
  simp only [Option.map_eq_some_iff] at he
  obtain ⟨x',hx,rfl⟩:=he
  exact ⟨_,_,_,h.2,(estep_box ho hx h.1).up.step⟩
 case buildSlice T len parts=>
  split at he<;>try (cases he;done)
  rename_i E hu
  split at he<;>try (cases he;done)
  rename_i z w ag ys h1 h2 h3
  split at he<;>try (cases he;done)
  rename_i hc
  simp only [Option.some.injEq] at he;subst he
  obtain ⟨l,hK,hE⟩:=estep_bsl (m:=m) (σ:=σ) (K:=fun l=>K σ (SV.vec m.length len) (m++[Res.vec E w l])) ho hu h1 h2 hc.1 hc.2.1 hc.2.2 h3 h
  exact ⟨_,_,_,hK,hE.up.step⟩
 case load T x=>
  split at he<;>try (cases he;done)
  rename_i x' n ag hx ht
  simp only [Option.some.injEq] at he;subst he
  obtain ⟨sv,hK,hE⟩:=estep_load (K:=fun sv=>K σ sv m) ho hx ht h
  exact ⟨_,_,_,hK,hE.up.step⟩
 case store T x v=>
  split at he<;>try (cases he;done)
  rename_i x' v' n ag hx hv ht
  simp only [Option.some.injEq] at he;subst he
  obtain ⟨m',hK,hE⟩:=estep_store (K:=fun m'=>K σ .junk m') ho hx hv ht h
  exact ⟨_,_,_,hK,hE.up.step⟩
 case makeSlice T l c=>
  split at he<;>try (cases he;done)
  rename_i E w by' l' c' ht hl hc
  split at he<;>try (cases he;done)
  rename_i z hz
  simp only [Option.some.injEq] at he;subst he
  simp only [eopK] at h
  split at h
  ·rename_i k1 a k2 b e1 e2
   exact ⟨_,_,_,h.2,(estep_mks ho ht hz hl hc e1 e2 h.1.1 h.1.2.1 h.1.2.2).up.step⟩
  ·exact h.elim
 case call c=>
  cases c with
  |mk callee args tys=>
  simp only [compE.compC] at he
  split at he
  ·rename_i ec
   split at he<;>try (cases he;done)
   rename_i s x t t' ea et
   split at he<;>try (cases he;done)
   rename_i htt
   subst htt
   split at he<;>try (cases he;done)
   rename_i E w by' s' x' h1 h2 h3
   simp only [Option.some.injEq] at he;subst he
   obtain rfl:args= #[s,x]:=by apply Array.ext';simpa using ea
   obtain rfl:tys= #[t',t']:=by apply Array.ext';simpa using et
   obtain ⟨σ',sv,m',hK,hE⟩:=estep_app ho h1 h2 h3 h
   exact ⟨σ',sv,m',hK,hE.up⟩
  ·rename_i f ec
   simp only [Option.map_eq_some_iff] at he
   obtain ⟨ys,hy,rfl⟩:=he
   obtain ⟨sv,m',hK,hE⟩:=estep_call (K:=fun sv m'=>K σ sv m') hΓ ho hy h.1 h.2
   exact ⟨_,_,_,hK,hE.step⟩
  ·rename_i x hne
   split at he<;>try (cases he;done)
   rename_i x' ys hx hy
   simp only [Option.some.injEq] at he;subst he
   simp only [eopK] at h
   split at h
   ·rename_i f cap hf
    obtain ⟨sv,m',hK,hE⟩:=estep_callv (K:=fun sv m'=>K σ sv m') hΓ ho hx hf hy h.1 h.2
    exact ⟨_,_,_,hK,hE.step⟩
   ·exact h.elim
  ·rename_i x nm hcal
   split at he<;>try (cases he;done)
   rename_i x' ys hx hy
   simp only [Option.some.injEq] at he;subst he
   simp only [eopK] at h
   split at h
   ·rename_i t v hf
    split at h
    ·rename_i f hta
     obtain ⟨sv,m',hK,hE⟩:=estep_icall (K:=fun sv m'=>K σ sv m') hΓ ho hx hf hta hy h.1 h.2
     exact ⟨_,_,_,hK,hE.step⟩
    ·exact h.elim
   ·exact h.elim
  ·cases he
end Go.Sx
end
section
namespace Go.Sx
open Go
variable {P:Program} {main:Bool} {F:Nat→Prop}
def guardK (g:Option (Nat×Bool)) (σ:List SV) (A B:List SV→Prop):Prop:=
 match g with
 |none=>A σ
 |some (s,want)=>match σ.getD s .junk with
  | .bool b=>(b=want→A (σ.set s (.bool want)))∧(b=(!want)→B (σ.set s (.bool (!want))))
  | .tup []=>B σ
  |_=>False
def opK (Γ:Hook) (σ:List SV) (m:List Res) (K:List SV→SV→List Res→Prop):IO1→Prop
 | .p p=>popK σ (fun sv=>K σ sv m) p
 | .e e=>eopK Γ σ m K e
def putS (d:Option Nat) (sv:SV) (σ:List SV):List SV:=match d with
 |none=>σ
 |some d=>σ.set d sv
def sops (Γ:Hook):List IOp→(List SV→List Res→Prop)→List SV→List Res→Prop
 |[],K,σ,m=>K σ m
 |o::r,K,σ,m=>guardK o.guard σ (fun σ1=>opK Γ σ1 m (fun σ' sv m'=>sops Γ r K (putS o.dst sv σ') m') o.op) (fun σ1=>sops Γ r K (putS o.dst (.tup []) σ1) m)
def compG (ops:Array Oper):Option (Nat×Bool)→Option (Option (Nat×Bool))
 |none=>some none
 |some (j,want)=>match (ops[j]?).bind (·.dst) with
  |some d=>some (some (d,want))
  |none=>none
def comp1 (P:Program) (o:Op):Option IO1:=match compP P o with
 |some p=>some (.p p)
 |none=>(compE P o).map .e
def compOp (P:Program) (ops:Array Oper) (o:Oper):Option IOp:=match compG ops o.guard,comp1 P o.op with
 |some g,some x=>some ⟨o.dst,g,x⟩
 |_,_=>none
theorem SlotsOK.put {ε:Env} {σ:List SV} {a:Act} {sv:SV} {v:Value} (h:SlotsOK ε σ a) (hv:SatV ε sv v) (d:Option Nat):SlotsOK ε (putS d sv σ) (a.put d v):=by
 cases d with
 |none=>exact h
 |some d=>
  refine ⟨by simp [putS,Act.put,h.1],fun k=> ?_⟩
  have h1:=h.1
  simp only [putS,Act.put]
  by_cases hk:d=k
  ·subst hk
   by_cases hd:d<σ.length
   ·have hd':d<a.tmps.size:=by omega
    have e1:(σ.set d sv).getD d .junk=sv:=by simp [List.getD,hd]
    have e2:(a.tmps.setIfInBounds d v).getD d undef=v:=by simp [Array.getD,hd']
    rw [e1,e2];exact hv
   ·have e1:(σ.set d sv).getD d .junk= .junk:=by simp [List.getD,hd]
    rw [e1];trivial
  ·have e1:(σ.set d sv).getD k .junk=σ.getD k .junk:=by simp [List.getD,hk]
   have e2:(a.tmps.setIfInBounds d v).getD k undef=a.tmps.getD k undef:=by
    simp only [Array.getD_eq_getD_getElem?,Array.getElem?_setIfInBounds,if_neg hk]
   rw [e1,e2];exact h.2 k
theorem put_defers (a:Act) (d:Option Nat) (v:Value):(a.put d v).defers=a.defers:=by cases d<;>rfl
theorem SlotsOK.known {ε:Env} {σ:List SV} {a:Act} (h:SlotsOK ε σ a) {s:Nat} {b:Bool} (hb:σ.getD s .junk= .bool b):SlotsOK ε (σ.set s (.bool b)) a:=by
 refine ⟨by simp [h.1],fun k=> ?_⟩
 by_cases hk:s=k
 ·subst hk
  have:(σ.set s (.bool b)).getD s .junk=σ.getD s .junk∨(σ.set s (.bool b)).getD s .junk= .junk:=by
   by_cases hs:s<σ.length
   ·left;rw [hb];simp [List.getD,hs]
   ·right;simp [List.getD,hs]
  rcases this with e|e<;>rw [e]
  ·exact h.2 s
  ·trivial
 ·have:(σ.set s (.bool b)).getD k .junk=σ.getD k .junk:=by simp [List.getD,hk]
  rw [this];exact h.2 k
theorem wanted_ok {ops:Array Oper} {o:Oper} {a:Act} {ε:Env} {σ:List SV} (h:SlotsOK ε σ a) {s:Nat} {want b:Bool} (hg:compG ops o.guard=some (some (s,want))) (hb:σ.getD s .junk= .bool b):
  Region.wanted o (yielded ops a.tmps)=(b==want):=by
 cases ho:o.guard with
 |none=>rw [ho] at hg;simp [compG] at hg
 |some g=>
  obtain ⟨j,w'⟩:=g
  rw [ho] at hg
  simp only [compG] at hg
  split at hg<;>try (cases hg;done)
  rename_i d hd
  simp only [Option.some.injEq,Prod.mk.injEq] at hg
  obtain ⟨rfl,rfl⟩:=hg
  have:=sat_bool (hb▸h.2 d)
  have h2:a.tmps[d]? =some (.bool b):=by
   rw [Array.getD_eq_getD_getElem?] at this
   cases hh:a.tmps[d]? with
   |none=>rw [hh] at this;simp [undef] at this
   |some v=>rw [hh] at this;simpa using this
  simp only [Region.wanted,ho,yielded,hd,Option.bind_some,h2]
  cases b<;>cases w'<;>rfl
theorem sat_undef {ε:Env}:SatV ε (.tup []) undef:=⟨[],by simp only [SatA],rfl⟩
theorem wanted_undef {ops:Array Oper} {o:Oper} {a:Act} {ε:Env} {σ:List SV} (h:SlotsOK ε σ a) {s:Nat} {want:Bool} (hg:compG ops o.guard=some (some (s,want))) (hb:σ.getD s .junk= .tup []):
  Region.wanted o (yielded ops a.tmps)=false:=by
 cases ho:o.guard with
 |none=>rw [ho] at hg;simp [compG] at hg
 |some g=>
  obtain ⟨j,w'⟩:=g
  rw [ho] at hg
  simp only [compG] at hg
  split at hg<;>try (cases hg;done)
  rename_i d hd
  simp only [Option.some.injEq,Prod.mk.injEq] at hg
  obtain ⟨rfl,rfl⟩:=hg
  obtain ⟨vs,h1,this⟩:=sat_tup (hb▸h.2 d)
  simp only [SatA] at h1
  subst h1
  simp only [Region.wanted,ho,yielded,hd,Option.bind_some]
  rw [Array.getD_eq_getD_getElem?] at this
  cases hh:a.tmps[d]? with
  |none=>rfl
  |some v=>
   rw [hh] at this
   simp only [Option.getD_some] at this
   subst this
   rfl
theorem pure_estepL {o:Oper} {σ:List SV} {m:List Res} {sv:SV} (h:PureOK P o σ sv):EStepL P o σ m sv m:=by
 intro β ε a w hi hs
 obtain ⟨v,hr,hv⟩:=h ε a hs
 exact ⟨v,w,ε, .inl (hr w).1,hv,Env.Le.refl ε,hi, .nil (hr w).2⟩
theorem opK_sound {Γ:Hook} (hΓ:HookOK P main F Γ) {o:Oper} {σ:List SV} {m:List Res} {K:List SV→SV→List Res→Prop} {x:IO1} (hx:comp1 P o.op=some x) (h:opK Γ σ m K x):
  ∃ σ' sv m',K σ' sv m'∧EStepO P main F o σ m σ' sv m':=by
 unfold comp1 at hx
 split at hx
 ·rename_i p hp
  simp only [Option.some.injEq] at hx;subst hx
  obtain ⟨sv,hK,hpure⟩:=popK_sound (K:=fun sv=>K σ sv m) hp h
  exact ⟨_,_,_,hK,(pure_estepL hpure).up.step⟩
 ·simp only [Option.map_eq_some_iff] at hx
  obtain ⟨e,he,rfl⟩:=hx
  exact eopK_sound hΓ he h
theorem sops_sound {Γ:Hook} (hΓ:HookOK P main F Γ) {fn:FuncId} {ops:Array Oper} {Q:Exit→Act→OW→Prop} {ρ:Root} {d:List Deferred}:∀ (l:List Oper) (ios:List IOp) (σ:List SV) (m:List Res) (K:List SV→List Res→Prop),
  l.mapM (compOp P ops)=some ios→sops Γ ios K σ m→(∀ σ' m' ε' a' x',K σ' m'→InvO F ρ ε' m' x'→SlotsOK ε' σ' a'→a'.defers=d→Q .normal a' x')→
  ∀ ε a x,InvO F ρ ε m x→SlotsOK ε σ a→a.defers=d→wqList P main F fn ops Q l a x
 |[],ios,σ,m,K,hc,h,hK,ε,a,w,hi,hs,hd=>by
  simp at hc;subst hc
  exact wqList_nil (hK σ m ε a w h hi hs hd)
 |o::l,ios,σ,m,K,hc,h,hK,ε,a,w,hi,hs,hd=>by
  simp only [List.mapM_cons,bind,Option.pure_def] at hc
  obtain ⟨io,ho,hc⟩:=bind_some hc
  obtain ⟨ios',hc',hc⟩:=bind_some hc
  simp only [Option.some.injEq] at hc
  subst hc
  simp only [compOp] at ho
  split at ho<;>try (cases ho;done)
  rename_i g x hg hx
  simp only [Option.some.injEq] at ho;subst ho
  simp only [sops] at h
  have go:∀ σ1,SlotsOK ε σ1 a→opK Γ σ1 m (fun σ' sv m'=>sops Γ ios' K (putS o.dst sv σ') m') x→OpQ P main F fn o a (wqList P main F fn ops Q l) w:=by
   intro σ1 hs1 h1
   obtain ⟨σ',sv,m',h2,hE⟩:=opK_sound hΓ hx h1
   refine OpQ.mono ?_ (hE ρ ε a w fn hi hs1)
   rintro a' w' ⟨v,ε',rfl,hv,hs',hi'⟩
   exact sops_sound hΓ l ios' _ _ K hc' h2 hK ε' _ w' hi' (hs'.put hv o.dst) (by rw [put_defers];exact hd)
  cases g with
  |none=>
   have hgn:o.guard=none:=by
    cases hog:o.guard with
    |none=>rfl
    |some g=>rw [hog] at hg;simp only [compG] at hg;split at hg<;>cases hg
   refine wqList_cons ?_
   rw [if_pos (by simp [Region.wanted,hgn])]
   exact go σ hs h
  |some g=>
   obtain ⟨s,want⟩:=g
   simp only [guardK] at h
   split at h
   ·rename_i b hb
    have hw:=wanted_ok hs hg hb
    refine wqList_cons ?_
    rw [hw]
    by_cases hbw:b=want
    ·subst hbw
     rw [if_pos (by simp)]
     exact go _ (hs.known hb) (h.1 rfl)
    ·have hbn:b= !want:=by cases b<;>cases want<;>first|rfl|exact absurd rfl hbw
     rw [if_neg (by simpa using hbw)]
     subst hbn
     have hs2:=hs.known hb
     exact sops_sound hΓ l ios' _ _ K hc' (h.2 rfl) hK ε _ w hi (SlotsOK.put (sv:= .tup []) (v:=undef) hs2 sat_undef o.dst) (by rw [put_defers];exact hd)
   ·rename_i hb
    have hw:=wanted_undef hs hg hb
    refine wqList_cons ?_
    rw [hw]
    rw [if_neg (by simp)]
    exact sops_sound hΓ l ios' _ _ K hc' h hK ε _ w hi (SlotsOK.put (sv:= .tup []) (v:=undef) hs sat_undef o.dst) (by rw [put_defers];exact hd)
   ·exact h.elim
end Go.Sx
end
section
namespace Go.Sx
open Go
variable {P:Program} {main:Bool} {F:Nat→Prop}
def Opd.sl:Opd→List Nat
 | .t n=>[n]
 | .c _=>[]
def optS:Option Opd→List Nat
 |none=>[]
 |some x=>x.sl
def PIO.sl:PIO→List Nat
 | .mv x| .nt x| .neg x| .conv _ x| .fa _ _ x| .fld _ _ _ _ x| .ext _ x| .len x| .lens x| .nck x| .mkif _ x| .snil _ x| .pnil _ x| .tas _ _ x| .asl _ _ x=>x.sl
 | .pick c x y=>c.sl++x.sl++y.sl
 | .ar _ x y| .cmp _ x y| .beq _ x y| .seq _ x y| .cat x y| .ia _ _ x y| .is _ x y| .ix _ _ _ x y| .sx x y| .mx x y| .mn x y| .aeq _ _ x y| .ieq _ _ x y=>x.sl++y.sl
 | .bld _ ps=>ps.flatMap fun p=>p.2.2.2.sl
 | .mkfn _ c=>c.flatMap Opd.sl
 | .ssl x lo hi=>x.sl++optS lo++optS hi
 | .slc _ x lo hi m3=>x.sl++optS lo++optS hi++optS m3
def EIO.sl:EIO→List Nat
 | .alloc _ _=>[]
 | .box _ x| .load _ _ x=>x.sl
 | .store _ x v=>x.sl++v.sl
 | .bsl _ _ _ _ ps=>ps.flatMap fun p=>p.2.sl
 | .mks _ _ _ _ l c=>l.sl++c.sl
 | .app _ _ _ s x=>s.sl++x.sl
 | .call _ ys| .qcall _ ys=>ys.flatMap Opd.sl
 | .callv x ys=>x.sl++ys.flatMap Opd.sl
 | .icall _ x ys=>x.sl++ys.flatMap Opd.sl
 | .qtab _=>[]
 | .qbsl _ _ _ _ ps=>ps.flatMap fun p=>p.2.sl
 | .again _ _ x d=>d::x.sl
 | .magain _ ys d=>d::ys.flatMap Opd.sl
 | .mop _ ys=>ys.flatMap Opd.sl
def IO1.sl:IO1→List Nat
 | .p x=>x.sl
 | .e x=>x.sl
def IOp.sl (o:IOp):List Nat:=(match o.guard with|none=>[]|some (s,_)=>[s])++o.op.sl
def Agree (ss:List Nat) (σ σ':List SV):Prop:= ∀ k∈ss,σ'.getD k .junk=σ.getD k .junk
theorem Agree.ev {ss:List Nat} {σ σ':List SV} (h:Agree ss σ σ') {x:Opd} (hx:∀ k∈x.sl,k∈ss):x.ev σ'=x.ev σ:=by
 cases x with
 |t n=>exact h n (hx n (by simp [Opd.sl]))
 |c v=>rfl
theorem evs_eq {ss:List Nat} {σ σ':List SV} (h:Agree ss σ σ'):∀ (ys:List Opd),(∀ k∈ys.flatMap Opd.sl,k∈ss)→ys.map (·.ev σ')=ys.map (·.ev σ)
 |[],_=>rfl
 |y::ys,hk=>by
  simp only [List.map_cons]
  rw [h.ev (x:=y) (fun k hk'=>hk k (by simp [hk'])),evs_eq h ys (fun k hk'=>hk k (by simp only [List.flatMap_cons,List.mem_append];exact .inr hk'))]
theorem bld_eq {ss:List Nat} {σ σ':List SV} (h:Agree ss σ σ') {K:SV→Prop}:∀ (ps:List (List Step×Nat×Nat×Opd)) (z:SV),(∀ k∈ps.flatMap fun p=>p.2.2.2.sl,k∈ss)→bldParts σ' z ps K=bldParts σ z ps K
 |[],_,_=>rfl
 |(p,o,n,x)::r,z,hk=>by
  have e:=h.ev (x:=x) (fun k hk'=>hk k (by simp [hk']))
  simp only [bldParts,e]
  rw [bld_eq h r _ (fun k hk'=>hk k (by simp only [List.flatMap_cons,List.mem_append];exact .inr hk'))]
theorem bsl_eq {ss:List Nat} {σ σ':List SV} (h:Agree ss σ σ') {w:Nat} {K:List SV→Prop}:∀ (ps:List (Nat×Opd)) (z:List SV),(∀ k∈ps.flatMap fun p=>p.2.sl,k∈ss)→bslParts σ' w z ps K=bslParts σ w z ps K
 |[],_,_=>rfl
 |(k0,x)::r,z,hk=>by
  have e:=h.ev (x:=x) (fun k hk'=>hk k (by simp [hk']))
  simp only [bslParts,e]
  rw [bsl_eq h r _ (fun k hk'=>hk k (by simp only [List.flatMap_cons,List.mem_append];exact .inr hk'))]
theorem bound_eq {ss:List Nat} {σ σ':List SV} (h:Agree ss σ σ') {d:Nat} {x:Option Opd} {K:Nat→Prop} (hx:∀ k∈optS x,k∈ss):popK.bound σ' d x K=popK.bound σ d x K:=by
 cases x with
 |none=>rfl
 |some x=>simp only [popK.bound,h.ev (x:=x) hx]
theorem popK_eq {ss:List Nat} {σ σ':List SV} (h:Agree ss σ σ') {K:SV→Prop} {p:PIO} (hp:∀ k∈p.sl,k∈ss):popK σ' K p=popK σ K p:=by
 cases p with
 |bld z ps=>simp only [popK];exact bld_eq h ps z hp
 |mkfn f c=>simp only [popK,evs_eq h c hp]
 |pick c x y=>
  simp only [PIO.sl,List.mem_append] at hp
  simp only [popK,h.ev (x:=c) (fun k hk=>hp k (.inl (.inl hk))),h.ev (x:=x) (fun k hk=>hp k (.inl (.inr hk))),h.ev (x:=y) (fun k hk=>hp k (.inr hk))]
 |ssl x lo hi=>
  simp only [PIO.sl,List.mem_append] at hp
  simp only [popK,h.ev (x:=x) (fun k hk=>hp k (.inl (.inl hk))),bound_eq h (x:=lo) (fun k hk=>hp k (.inl (.inr hk))),bound_eq h (x:=hi) (fun k hk=>hp k (.inr hk))]
 |slc w x lo hi m3=>
  simp only [PIO.sl,List.mem_append] at hp
  simp only [popK,h.ev (x:=x) (fun k hk=>hp k (.inl (.inl (.inl hk)))),bound_eq h (x:=lo) (fun k hk=>hp k (.inl (.inl (.inr hk)))),bound_eq h (x:=hi) (fun k hk=>hp k (.inl (.inr hk)))]
  cases m3 with
  |none=>cases Opd.ev σ x<;>rfl
  |some c=>
   have hc:∀ (d:Nat) (K:Nat→Prop),popK.bound σ' d (some c) K=popK.bound σ d (some c) K:=fun d K=>bound_eq h (x:=some c) (fun k hk=>hp k (.inr hk))
   cases Opd.ev σ x<;>first|rfl|simp only [hc]
 |ar o x y|cmp o x y|beq o x y|seq o x y|cat x y|ia _ _ x y|is _ x y|ix _ _ _ x y|sx x y|mx x y|mn x y|aeq _ _ x y|ieq _ _ x y=>
  simp only [PIO.sl,List.mem_append] at hp
  simp only [popK,h.ev (x:=x) (fun k hk=>hp k (.inl hk)),h.ev (x:=y) (fun k hk=>hp k (.inr hk))]
 |mv x|nt x|neg x|conv _ x|fa _ _ x|fld _ _ _ _ x|ext _ x|len x|lens x|nck x|mkif _ x|snil _ x|pnil _ x|tas _ _ x|asl _ _ x=>
  simp only [popK,h.ev (x:=x) hp]
def dopK (Γ:Hook) (σ:List SV) (m:List Res) (K:SV→List Res→Prop):IO1→Prop
 | .p p=>popK σ (fun sv=>K sv m) p
 | .e (.app E w by' s x)=>appM m E w by' (s.ev σ) (x.ev σ) K
 | .e e=>eopK Γ σ m (fun _ sv m'=>K sv m') e
theorem eopK_eq {Γ:Hook} {ss:List Nat} {σ σ':List SV} (h:Agree ss σ σ') {m:List Res} {K:SV→List Res→Prop} {e:EIO} (hp:∀ k∈e.sl,k∈ss) (hd:dopK Γ σ m K (.e e)):dopK Γ σ' m K (.e e):=by
 cases e with
 |alloc T z=>exact hd
 |box T x=>simp only [dopK,eopK,h.ev (x:=x) hp] at hd ⊢;exact hd
 |load n ag x=>simp only [dopK,eopK,h.ev (x:=x) hp] at hd ⊢;exact hd
 |store n x v=>
  simp only [EIO.sl,List.mem_append] at hp
  simp only [dopK,eopK,h.ev (x:=x) (fun k hk=>hp k (.inl hk)),h.ev (x:=v) (fun k hk=>hp k (.inr hk))] at hd ⊢;exact hd
 |bsl E w len z ps=>simp only [dopK,eopK] at hd ⊢;rw [bsl_eq h ps _ hp];exact hd
 |mks E w b z x y=>
  simp only [EIO.sl,List.mem_append] at hp
  simp only [dopK,eopK,h.ev (x:=x) (fun k hk=>hp k (.inl hk)),h.ev (x:=y) (fun k hk=>hp k (.inr hk))] at hd ⊢;exact hd
 |app E w b x y=>
  simp only [EIO.sl,List.mem_append] at hp
  simp only [dopK,h.ev (x:=x) (fun k hk=>hp k (.inl hk)),h.ev (x:=y) (fun k hk=>hp k (.inr hk))] at hd ⊢
  exact hd
 |call f ys=>simp only [dopK,eopK,evs_eq h ys hp] at hd ⊢;exact hd
 |qcall f ys=>simp only [dopK,eopK,evs_eq h ys hp] at hd ⊢;exact hd
 |qtab l=>exact hd
 |qbsl E w len z ps=>simp only [dopK,eopK] at hd ⊢;rw [bsl_eq h ps _ hp];exact hd
 |mop k ys=>simp only [dopK,eopK,evs_eq h ys hp] at hd ⊢;exact hd
 |again n ag x d=>
  have hd':σ'.getD d .junk=σ.getD d .junk:=h d (hp d (by simp [EIO.sl]))
  simp only [dopK,eopK,h.ev (x:=x) (fun k hk=>hp k (by simp only [EIO.sl,List.mem_cons];exact .inr hk)),hd'] at hd ⊢;exact hd
 |magain k ys d=>
  have hd':σ'.getD d .junk=σ.getD d .junk:=h d (hp d (by simp [EIO.sl]))
  simp only [dopK,eopK,evs_eq h ys (fun k hk=>hp k (by simp only [EIO.sl,List.mem_cons];exact .inr hk)),hd'] at hd ⊢;exact hd
 |callv x ys=>
  simp only [EIO.sl,List.mem_append] at hp
  simp only [dopK,eopK,h.ev (x:=x) (fun k hk=>hp k (.inl hk)),evs_eq h ys (fun k hk=>hp k (.inr hk))] at hd ⊢;exact hd
 |icall tab x ys=>
  simp only [EIO.sl,List.mem_append] at hp
  simp only [dopK,eopK,h.ev (x:=x) (fun k hk=>hp k (.inl hk)),evs_eq h ys (fun k hk=>hp k (.inr hk))] at hd ⊢;exact hd
theorem dopK_eq {Γ:Hook} {ss:List Nat} {σ σ':List SV} (h:Agree ss σ σ') {m:List Res} {K:SV→List Res→Prop} {x:IO1} (hp:∀ k∈x.sl,k∈ss) (hd:dopK Γ σ m K x):dopK Γ σ' m K x:=by
 cases x with
 |p p=>simp only [dopK] at hd ⊢;rw [popK_eq h hp];exact hd
 |e e=>exact eopK_eq h hp hd
def qmode (quiet:FuncId→Bool):Bool:= !quiet 999999999
def quieted (quiet:FuncId→Bool):IO1→IO1
 | .e (.call f ys)=>if quiet f then .e (.qcall f ys) else .e (.call f ys)
 | .e (.bsl E w len z ys)=>match tabOf 0 ys with
  |some l=>if w=1∧len=l.length then .e (.qtab l) else if qmode quiet then .e (.qbsl E w len z ys) else .e (.bsl E w len z ys)
  |none=>if qmode quiet then .e (.qbsl E w len z ys) else .e (.bsl E w len z ys)
 |x=>x
def IO1.impure:IO1→Bool
 | .p _=>false
 | .e (.qtab ..)=>false
 | .e (.qbsl ..)=>false
 | .e _=>true
def IO1.eff:IO1→Bool
 | .p _=>false
 | .e (.load ..)=>false
 | .e (.qcall ..)=>false
 | .e (.qtab ..)=>false
 | .e (.qbsl ..)=>false
 | .e (.again ..)=>false
 | .e (.magain ..)=>false
 | .e (.mop k _)=>k.eff
 | .e _=>true
def StepF (P:Program) (main:Bool) (F:Nat→Prop) (o:Oper) (σ:List SV) (x:IO1) (m:List Res) (sv:SV) (m':List Res):Prop:=
 (x.impure=false→∀ m2,EStepC P main F o σ m2 sv m2)∧EStepC P main F o σ m sv m'∧(x.eff=false→m'=m)
theorem pure_estep {o:Oper} {σ:List SV} {m:List Res} {sv:SV} (h:PureOK P o σ sv):EStepC P main F o σ m sv m:=(pure_estepL h).up
theorem dopK_sound {Γ:Hook} (hΓ:HookOK P main F Γ) {quiet:FuncId→Bool} {o:Oper} {σ:List SV} {m:List Res} {K:SV→List Res→Prop} {x:IO1} (hx:comp1 P o.op=some x) (h:dopK Γ σ m K (quieted quiet x)):
  ∃ sv m',K sv m'∧StepF P main F o σ (quieted quiet x) m sv m':=by
 unfold comp1 at hx
 split at hx
 ·rename_i p hp
  simp only [Option.some.injEq] at hx;subst hx
  obtain ⟨sv,hK,hpure⟩:=popK_sound (K:=fun sv=>K sv m) hp h
  exact ⟨sv,m,hK,fun _ m2=>pure_estep hpure,pure_estep hpure,fun _=>rfl⟩
 ·simp only [Option.map_eq_some_iff] at hx
  obtain ⟨e,he,rfl⟩:=hx
  cases hM:compM P o.op with
  |some p=>
   obtain ⟨k,ys⟩:=p
   rw [compE_M hM] at he
   cases he
   obtain ⟨sv,m',hK,hE,hq⟩:=estep_mop (K:=K) hM h.1 h.2
   exact ⟨_,_,hK,(fun hh=>by cases hh),hE.up,hq⟩
  |none=>
  cases ho:o.op<;>rw [ho] at he hM<;>simp only [compE,hM,Option.map_none] at he<;>try (cases he;done)
  case alloc T=>
   simp only [Option.map_eq_some_iff] at he
   obtain ⟨z,hz,rfl⟩:=he
   exact ⟨_,_,h,(fun hh=>by cases hh),(estep_alloc ho hz).up,(fun hh=>by cases hh)⟩
  case box T x=>
   simp only [Option.map_eq_some_iff] at he
   obtain ⟨x',hx,rfl⟩:=he
   exact ⟨_,_,h.2,(fun hh=>by cases hh),(estep_box ho hx h.1).up,(fun hh=>by cases hh)⟩
  case buildSlice T len parts=>
   split at he<;>try (cases he;done)
   rename_i E hu
   split at he<;>try (cases he;done)
   rename_i z w ag ys h1 h2 h3
   split at he<;>try (cases he;done)
   rename_i hc
   simp only [Option.some.injEq] at he;subst he
   have plain:(quieted quiet (.e (.bsl E w len z ys))= .e (.bsl E w len z ys)∨quieted quiet (.e (.bsl E w len z ys))= .e (.qbsl E w len z ys))→∃ sv m',K sv m'∧StepF P main F o σ (quieted quiet (.e (.bsl E w len z ys))) m sv m':=by
    intro hq
    rcases hq with hq|hq
    ·rw [hq] at h ⊢
     obtain ⟨l,hK,hE⟩:=estep_bsl (m:=m) (σ:=σ) (K:=fun l=>K (SV.vec m.length len) (m++[Res.vec E w l])) ho hu h1 h2 hc.1 hc.2.1 hc.2.2 h3 h
     exact ⟨_,_,hK,(fun hh=>by cases hh),hE.up,(fun hh=>by cases hh)⟩
    ·rw [hq] at h ⊢
     obtain ⟨sv,hK,hE⟩:=estep_qbsl (σ:=σ) (K:=fun sv=>K sv m) ho hu h1 h2 hc.1 hc.2.1 hc.2.2 h3 h
     exact ⟨_,_,hK,fun _ m2=>(hE m2).up,(hE m).up,fun _=>rfl⟩
   have two:∀ x:IO1,(if qmode quiet then IO1.e (.qbsl E w len z ys) else x)=x∨(if qmode quiet then IO1.e (.qbsl E w len z ys) else x)=IO1.e (.qbsl E w len z ys):=fun x=>by
    cases qmode quiet<;>simp
   cases htab:tabOf 0 ys with
   |none=>exact plain (by simp only [quieted,htab];exact two _)
   |some l=>
    by_cases hwl:w=1∧len=l.length
    ·have hq:quieted quiet (.e (.bsl E w len z ys))= .e (.qtab l):=by simp only [quieted,htab,if_pos hwl]
     rw [hq] at h ⊢
     obtain ⟨rfl,hll⟩:=hwl
     exact ⟨_,_,h,fun _ m2=>(estep_tab ho hu h1 h2 hc.1 hc.2.1 h3 htab hll).up,(estep_tab ho hu h1 h2 hc.1 hc.2.1 h3 htab hll).up,fun _=>rfl⟩
    ·exact plain (by simp only [quieted,htab,if_neg hwl];exact two _)
  case load T x=>
   split at he<;>try (cases he;done)
   rename_i x' n ag hx ht
   simp only [Option.some.injEq] at he;subst he
   obtain ⟨sv,hK,hE⟩:=estep_load (K:=fun sv=>K sv m) ho hx ht h
   exact ⟨_,_,hK,(fun hh=>by cases hh),hE.up,fun _=>rfl⟩
  case store T x v=>
   split at he<;>try (cases he;done)
   rename_i x' v' n ag hx hv ht
   simp only [Option.some.injEq] at he;subst he
   obtain ⟨m',hK,hE⟩:=estep_store (K:=fun m'=>K .junk m') ho hx hv ht h
   exact ⟨_,_,hK,(fun hh=>by cases hh),hE.up,(fun hh=>by cases hh)⟩
  case makeSlice T l c=>
   split at he<;>try (cases he;done)
   rename_i E w by' l' c' ht hl hc
   split at he<;>try (cases he;done)
   rename_i z hz
   simp only [Option.some.injEq] at he;subst he
   simp only [quieted,dopK,eopK] at h
   split at h
   ·rename_i k1 a k2 b e1 e2
    exact ⟨_,_,h.2,(fun hh=>by cases hh),(estep_mks ho ht hz hl hc e1 e2 h.1.1 h.1.2.1 h.1.2.2).up,(fun hh=>by cases hh)⟩
   ·exact h.elim
  case call c=>
   cases c with
   |mk callee args tys=>
   simp only [compE.compC] at he
   split at he
   ·rename_i ec
    split at he<;>try (cases he;done)
    rename_i s x t t' ea et
    split at he<;>try (cases he;done)
    rename_i htt
    subst htt
    split at he<;>try (cases he;done)
    rename_i E w by' s' x' h1 h2 h3
    simp only [Option.some.injEq] at he;subst he
    obtain rfl:args= #[s,x]:=by apply Array.ext';simpa using ea
    obtain rfl:tys= #[t',t']:=by apply Array.ext';simpa using et
    simp only [quieted,dopK] at h
    obtain ⟨sv,m',hK,hE⟩:=estep_appM ho h1 h2 h3 h
    exact ⟨_,_,hK,(fun hh=>by cases hh),hE.up,(fun hh=>by cases hh)⟩
   ·rename_i cc f
    simp only [Option.map_eq_some_iff] at he
    obtain ⟨ys,hy,rfl⟩:=he
    simp only [quieted] at h ⊢
    cases hq:quiet f with
    |false=>
     rw [hq] at h
     obtain ⟨sv,m',hK,hE⟩:=estep_call hΓ ho hy h.1 h.2
     exact ⟨_,_,hK,(fun hh=>by cases hh),hE,(fun hh=>by cases hh)⟩
    |true=>
     rw [hq] at h
     obtain ⟨sv,m',⟨rfl,hK⟩,hE⟩:=estep_call (K:=fun sv m'=>m'=m∧K sv m) hΓ ho hy h.1 h.2
     exact ⟨_,_,hK,(fun hh=>by cases hh),hE,fun _=>rfl⟩
   ·rename_i x hne
    split at he<;>try (cases he;done)
    rename_i x' ys hx hy
    simp only [Option.some.injEq] at he;subst he
    simp only [quieted,dopK,eopK] at h
    split at h
    ·rename_i f cap hf
     obtain ⟨sv,m',hK,hE⟩:=estep_callv hΓ ho hx hf hy h.1 h.2
     exact ⟨_,_,hK,(fun hh=>by cases hh),hE,(fun hh=>by cases hh)⟩
    ·exact h.elim
   ·rename_i x nm hcal
    split at he<;>try (cases he;done)
    rename_i x' ys hx hy
    simp only [Option.some.injEq] at he;subst he
    simp only [quieted,dopK,eopK] at h
    split at h
    ·rename_i t v hf
     split at h
     ·rename_i f hta
      obtain ⟨sv,m',hK,hE⟩:=estep_icall hΓ ho hx hf hta hy h.1 h.2
      exact ⟨_,_,hK,(fun hh=>by cases hh),hE,(fun hh=>by cases hh)⟩
     ·exact h.elim
    ·exact h.elim
   ·cases he
end Go.Sx
end
section
namespace Go.Sx
open Go
variable {P:Program} {main:Bool} {F:Nat→Prop}
def dsops (Γ:Hook):List IOp→(List SV→List Res→Prop)→List SV→List Res→Prop
 |[],K,σ,m=>K σ m
 |o::r,K,σ,m=>guardK o.guard σ (fun σ1=>dopK Γ σ1 m (fun sv m'=>dsops Γ r K (putS o.dst sv σ1) m') o.op) (fun σ1=>dsops Γ r K (putS o.dst (.tup []) σ1) m)
def maskS (ss:List Nat) (σ:List SV):List SV:=(List.range σ.length).map fun k=>if ss.contains k then σ.getD k .junk else .junk
theorem maskS_len (ss:List Nat) (σ:List SV):(maskS ss σ).length=σ.length:=by simp [maskS]
theorem maskS_at (ss:List Nat) (σ:List SV) (k:Nat):(maskS ss σ).getD k .junk=if k∈ss then σ.getD k .junk else .junk:=by
 by_cases hk:k<σ.length
 ·simp [maskS,List.getD,hk]
 ·simp [maskS,List.getD,hk]
theorem maskS_agree (ss:List Nat) (σ:List SV):Agree ss σ (maskS ss σ):=fun k hk=>by rw [maskS_at,if_pos hk]
def Wants (g:Option (Nat×Bool)) (σ:List SV) (b:Bool):Prop:=match g with
 |none=>b=true
 |some (s,want)=>(∃ t,σ.getD s .junk= .bool t∧(t==want)=b)∨(σ.getD s .junk= .tup []∧b=false)
def TStep (P:Program) (main:Bool) (F:Nat→Prop) (o:Oper) (io:IOp) (σ:List SV) (m:List Res) (sv:SV) (m':List Res):Prop:=
 (Wants io.guard σ true∧StepF P main F o (maskS io.sl σ) io.op m sv m')∨(Wants io.guard σ false∧sv= .tup []∧m'=m)
def Late (c:IOp) (σ:List SV) (m:List Res):Prop:=(∀ n ag x d,c.op= .e (.again n ag x d)→Wants c.guard σ true→(σ.getD d .junk).isVal=true∧peek m n ag (fun sv=>sv=σ.getD d .junk) (x.ev σ))∧
 ∀ k ys d,c.op= .e (.magain k ys d)→Wants c.guard σ true→(σ.getD d .junk).isSet=true∧(ys.map (·.ev σ)).all SV.isVal=true∧mopK m k (ys.map (·.ev σ)) fun sv m'=>sv=σ.getD d .junk∧m'=m
def Tr (P:Program) (main:Bool) (F:Nat→Prop) (rs:Nat→List IOp):Nat→List (Oper×IOp)→List SV→List Res→List (SV×List Res)→List SV→List Res→Prop
 |_,[],σ,m,ts,σe,me=>ts=[]∧σe=σ∧me=m
 |k,(o,io)::r,σ,m,ts,σe,me=> ∃ sv m' ts',ts=(sv,m')::ts'∧TStep P main F o io σ m sv m'∧(∀ c∈rs k,Late c (putS io.dst sv σ) m')∧Tr P main F rs (k+1) r (putS io.dst sv σ) m' ts' σe me
def compD (P:Program) (quiet:FuncId→Bool) (ops:Array Oper) (o:Oper):Option IOp:=(compOp P ops o).map fun io=> {io with op:=quieted quiet io.op}
theorem set_self {σ:List SV} {s:Nat} {b:Bool} (h:σ.getD s .junk= .bool b):σ.set s (.bool b)=σ:=by
 apply List.ext_getElem?
 intro k
 rw [List.getElem?_set]
 by_cases hk:s=k
 ·subst hk
  rw [if_pos rfl]
  by_cases hs:s<σ.length
  ·rw [if_pos hs]
   simp [List.getD,hs] at h
   simp [hs,h]
  ·simp [List.getD,hs] at h
 ·rw [if_neg hk]
def augL (rs:Nat→List IOp):Nat→List IOp→List IOp
 |_,[]=>[]
 |k,o::r=>o::(rs k++augL rs (k+1) r)
def IsAgain (c:IOp):Prop:=c.dst=none∧((∃ n ag x d,c.op= .e (.again n ag x d))∨∃ k ys d,c.op= .e (.magain k ys d))
theorem mopK_two {m:List Res} {k:MK} {xs:List SV} {A:SV→List Res→Prop} {B:Prop} (h:mopK m k xs fun sv m'=>A sv m'∧B):mopK m k xs A∧B:=by
 cases k<;>simp only [mopK] at h ⊢ <;>repeat' (first|exact h.elim|exact ⟨h.1,h.2⟩|exact ⟨⟨h.1,h.2.1⟩,h.2.2⟩|split at h)
theorem peek_two {m:List Res} {n:Nat} {ag:Bool} {A:SV→Prop} {B:Prop} {v:SV} (h:peek m n ag (fun sv=>A sv∧B) v):peek m n ag A v∧B:=by
 cases v<;>simp only [peek] at h ⊢ <;>first
  |exact h.elim
  |exact ⟨⟨h.1,h.2.1⟩,h.2.2⟩
  |(split at h<;>first|exact h.elim|(rename_i hm;exact ⟨⟨h.1,h.2.1⟩,h.2.2⟩))
theorem late_of {Γ:Hook}:∀ (cs:List IOp),(∀ c∈cs,IsAgain c)→∀ {rest:List IOp} {K:List SV→List Res→Prop} {σ:List SV} {m:List Res},dsops Γ (cs++rest) K σ m→
  (∀ c∈cs,Late c σ m)∧dsops Γ rest K σ m
 |[],_,rest,K,σ,m,h=>⟨fun c hc=>(by cases hc),h⟩
 |c::cs,hcs,rest,K,σ,m,h=>by
  obtain ⟨hd,ho⟩:=hcs c (List.mem_cons_self ..)
  obtain ⟨dst,g,op⟩:=c
  simp only at hd ho
  subst hd
  have done:dopK Γ σ m (fun sv m'=>dsops Γ (cs++rest) K σ m') op→(∀ c∈(⟨none,g,op⟩:IOp)::cs,Late c σ m)∧dsops Γ rest K σ m:=by
   intro h
   rcases ho with ⟨n,ag,x,d,rfl⟩|⟨k,ys,d,rfl⟩
   ·obtain ⟨h1,h2⟩:=h
    obtain ⟨h3,h4⟩:=peek_two h2
    obtain ⟨k1,k2⟩:=late_of cs (fun c hc=>hcs c (List.mem_cons_of_mem _ hc)) h4
    refine ⟨fun c hc=> ?_,k2⟩
    rcases List.mem_cons.1 hc with rfl|hc
    ·refine ⟨fun n' ag' x' d' he hw=> ?_,fun k ys d he=>by cases he⟩
     cases he
     exact ⟨h1,h3⟩
    ·exact k1 c hc
   ·obtain ⟨h1,h0,h2⟩:=h
    obtain ⟨h3,h4⟩:=mopK_two h2
    obtain ⟨k1,k2⟩:=late_of cs (fun c hc=>hcs c (List.mem_cons_of_mem _ hc)) h4
    refine ⟨fun c hc=> ?_,k2⟩
    rcases List.mem_cons.1 hc with rfl|hc
    ·refine ⟨fun n' ag' x' d' he=>(by cases he),fun k ys d he hw=> ?_⟩
     cases he
     exact ⟨h1,h0,h3⟩
    ·exact k1 c hc
  have skip:Wants g σ false→dsops Γ (cs++rest) K σ m→(∀ c∈(⟨none,g,op⟩:IOp)::cs,Late c σ m)∧dsops Γ rest K σ m:=by
   intro hw h
   obtain ⟨k1,k2⟩:=late_of cs (fun c hc=>hcs c (List.mem_cons_of_mem _ hc)) h
   refine ⟨fun c hc=> ?_,k2⟩
   rcases List.mem_cons.1 hc with rfl|hc
   ·have no:¬ Wants g σ true:=by
     intro hw'
     cases g with
     |none=>cases (show true=false from hw.symm.trans rfl▸rfl)
     |some g=>
      obtain ⟨s,w⟩:=g
      rcases hw with ⟨t,e1,e2⟩|⟨e1,e2⟩<;>rcases hw' with ⟨t',e3,e4⟩|⟨e3,e4⟩
      ·rw [e1] at e3;cases e3;rw [e2] at e4;cases e4
      ·cases e4
      ·rw [e1] at e3;cases e3
      ·cases e4
    exact ⟨fun _ _ _ _ _ hw'=>(no hw').elim,fun _ _ _ _ hw'=>(no hw').elim⟩
   ·exact k1 c hc
  simp only [List.cons_append,dsops,putS] at h
  cases g with
  |none=>exact done h
  |some g=>
   obtain ⟨s,want⟩:=g
   simp only [guardK] at h
   split at h
   ·rename_i b hb
    by_cases hbw:b=want
    ·subst hbw
     have h1:=h.1 rfl
     rw [set_self hb] at h1
     exact done h1
    ·have hbn:b= !want:=by cases b<;>cases want<;>first|rfl|exact absurd rfl hbw
     subst hbn
     have h1:=h.2 rfl
     rw [set_self hb] at h1
     exact skip (.inl ⟨_,hb,by cases want<;>rfl⟩) h1
   ·rename_i hb
    exact skip (.inr ⟨hb,rfl⟩) h
   ·exact h.elim
theorem tr_of {Γ:Hook} (hΓ:HookOK P main F Γ) {quiet:FuncId→Bool} {ops:Array Oper} {rs:Nat→List IOp} (hrs:∀ k,∀ c∈rs k,IsAgain c):∀ (l:List Oper) (ios:List IOp) (σ:List SV) (m:List Res) (K:List SV→List Res→Prop) (k:Nat),l.mapM (compD P quiet ops)=some ios→dsops Γ (augL rs k ios) K σ m→
  ∃ ts σe me,K σe me∧Tr P main F rs k (l.zip ios) σ m ts σe me
 |[],ios,σ,m,K,k,hc,h=>by simp at hc;subst hc;exact ⟨[],σ,m,h,rfl,rfl,rfl⟩
 |o::l,ios,σ,m,K,k,hc,h=>by
  simp only [List.mapM_cons,bind,Option.pure_def] at hc
  obtain ⟨io,ho,hc⟩:=bind_some hc
  obtain ⟨ios',hc',hc⟩:=bind_some hc
  simp only [Option.some.injEq] at hc
  subst hc
  simp only [compD,Option.map_eq_some_iff] at ho
  obtain ⟨io0,ho0,rfl⟩:=ho
  simp only [compOp] at ho0
  split at ho0<;>try (cases ho0;done)
  rename_i g x hg hx
  simp only [Option.some.injEq] at ho0;subst ho0
  simp only [augL,dsops] at h
  have go:dopK Γ σ m (fun sv m'=>dsops Γ (rs k++augL rs (k+1) ios') K (putS o.dst sv σ) m') (quieted quiet x)→Wants g σ true→
    ∃ ts σe me,K σe me∧Tr P main F rs k ((o,(⟨o.dst,g,quieted quiet x⟩:IOp))::l.zip ios') σ m ts σe me:=by
   intro h1 hw
   have h2:=dopK_eq (maskS_agree (IOp.sl ⟨o.dst,g,quieted quiet x⟩) σ) (fun k hk=>by simp only [IOp.sl,List.mem_append];exact .inr hk) h1
   obtain ⟨sv,m',hK,hF⟩:=dopK_sound hΓ hx h2
   obtain ⟨hl,hK⟩:=late_of _ (hrs k) hK
   obtain ⟨ts,σe,me,h3,h4⟩:=tr_of hΓ hrs l ios' _ _ K (k+1) hc' hK
   exact ⟨(sv,m')::ts,σe,me,h3,sv,m',ts,rfl, .inl ⟨hw,hF⟩,hl,h4⟩
  cases g with
  |none=>exact go h rfl
  |some g=>
   obtain ⟨s,want⟩:=g
   simp only [guardK] at h
   split at h
   ·rename_i b hb
    by_cases hbw:b=want
    ·subst hbw
     have h1:=h.1 rfl
     rw [set_self hb] at h1
     exact go h1 (.inl ⟨b,hb,by simp⟩)
    ·have hbn:b= !want:=by cases b<;>cases want<;>first|rfl|exact absurd rfl hbw
     subst hbn
     have h1:=h.2 rfl
     rw [set_self hb] at h1
     obtain ⟨hl,h1⟩:=late_of _ (hrs k) h1
     obtain ⟨ts,σe,me,h3,h4⟩:=tr_of hΓ hrs l ios' _ _ K (k+1) hc' h1
     exact ⟨(.tup [],m)::ts,σe,me,h3, .tup [],m,ts,rfl, .inr ⟨.inl ⟨_,hb,by cases want<;>rfl⟩,rfl,rfl⟩,hl,h4⟩
   ·rename_i hb
    obtain ⟨hl,h⟩:=late_of _ (hrs k) h
    obtain ⟨ts,σe,me,h3,h4⟩:=tr_of hΓ hrs l ios' _ _ K (k+1) hc' h
    exact ⟨(.tup [],m)::ts,σe,me,h3, .tup [],m,ts,rfl, .inr ⟨.inr ⟨hb,rfl⟩,rfl,rfl⟩,hl,h4⟩
   ·exact h.elim
def ov (S:Nat→Bool) (V:Nat→SV):List IOp→Nat→List SV→List SV
 |[],_,σ=>σ
 |io::r,k,σ=>ov S V r (k+1) (if S k then putS io.dst (V k) σ else σ)
theorem putS_len (d:Option Nat) (sv:SV) (σ:List SV):(putS d sv σ).length=σ.length:=by cases d<;>simp [putS]
theorem ov_len (S:Nat→Bool) (V:Nat→SV):∀ (ios:List IOp) (k:Nat) (σ:List SV),(ov S V ios k σ).length=σ.length
 |[],_,_=>rfl
 |io::r,k,σ=>by
  simp only [ov]
  rw [ov_len S V r]
  split
  ·exact putS_len _ _ _
  ·rfl
def dsts (ios:List IOp):List Nat:=ios.filterMap (·.dst)
theorem putS_at (d:Option Nat) (sv:SV) (σ:List SV) (x:Nat):(putS d sv σ).getD x .junk=if d=some x∧x<σ.length then sv else σ.getD x .junk:=by
 cases d with
 |none=>simp [putS]
 |some d=>
  by_cases hx:d=x
  ·subst hx
   by_cases hl:d<σ.length
   ·simp [putS,List.getD,hl]
   ·simp [putS,List.getD,hl]
  ·simp [putS,List.getD,hx]
theorem ov_none (S:Nat→Bool) (V:Nat→SV) (x:Nat):∀ (ios:List IOp) (k:Nat) (σ:List SV),(∀ (j:Nat) (io:IOp),ios[j]? =some io→io.dst=some x→S (k+j)=false)→(ov S V ios k σ).getD x .junk=σ.getD x .junk
 |[],_,_,_=>rfl
 |io::r,k,σ,h=>by
  simp only [ov]
  rw [ov_none S V x r (k+1) _ (fun j io' h1 h2=>by have:=h (j+1) io' (by simpa using h1) h2;rwa [show k+(j+1)=k+1+j by omega] at this)]
  split
  ·rename_i hs
   rw [putS_at,if_neg]
   intro hx
   have:=h 0 io rfl hx.1
   rw [Nat.add_zero,hs] at this;cases this
  ·rfl
theorem ov_some (S:Nat→Bool) (V:Nat→SV) (x:Nat):∀ (ios:List IOp) (k:Nat) (σ:List SV) (j:Nat) (io:IOp),(dsts ios).Nodup→ios[j]? =some io→io.dst=some x→S (k+j)=true→x<σ.length→(ov S V ios k σ).getD x .junk=V (k+j)
 |[],_,_,_,_,_,h,_,_,_=>by simp at h
 |i0::r,k,σ,0,io,hn,h,hd,hs,hx=>by
  simp only [List.getElem?_cons_zero,Option.some.injEq] at h
  subst h
  simp only [ov]
  rw [Nat.add_zero] at hs
  rw [if_pos hs,ov_none S V x r (k+1) _ (fun j io' h1 h2=> ?_)]
  ·rw [putS_at,if_pos ⟨hd,hx⟩];rfl
  ·exfalso
   simp only [dsts,List.filterMap_cons,hd] at hn
   have:=(List.nodup_cons.1 hn).1
   exact this (List.mem_filterMap.2 ⟨io',List.mem_of_getElem? h1,h2⟩)
 |i0::r,k,σ,j+1,io,hn,h,hd,hs,hx=>by
  simp only [ov]
  have hn':(dsts r).Nodup:=by
   unfold dsts at hn ⊢
   rw [List.filterMap_cons] at hn
   split at hn
   ·exact hn
   ·exact (List.nodup_cons.1 hn).2
  rw [ov_some S V x r (k+1) _ j io hn' (by simpa using h) hd (by rwa [show k+1+j=k+(j+1) by omega]) (by split<;>first|(rw [putS_len];exact hx)|exact hx)]
  congr 1;omega
def msk1 (acc:List Nat) (s:Nat) (e:Edge):Nat:=if Region.binds .any e then s|||(1<<<e.on)|||acc.getD e.on 0 else s
def msk (acc:List Nat) (o:Oper):Nat:=o.after.toList.foldl (msk1 acc) 0
def pres:List Oper→List Nat→List Nat
 |[],acc=>acc
 |o::r,acc=>pres r (acc++[msk acc o])
theorem msk1_bit (acc:List Nat):∀ (es:List Edge) (s j:Nat),(es.foldl (msk1 acc) s).testBit j=true→s.testBit j=true∨∃ e∈es,Region.binds .any e=true∧(e.on=j∨(acc.getD e.on 0).testBit j=true)
 |[],s,j,h=> .inl h
 |e::es,s,j,h=>by
  simp only [List.foldl_cons] at h
  rcases msk1_bit acc es _ j h with h|⟨e',h1,h2⟩
  ·unfold msk1 at h
   split at h
   ·rename_i hb
    simp only [Nat.testBit_or,Bool.or_eq_true] at h
    rcases h with (h|h)|h
    ·exact .inl h
    ·refine .inr ⟨e,by simp,hb, .inl ?_⟩
     rw [Nat.one_shiftLeft,Nat.testBit_two_pow] at h
     simpa using h
    ·exact .inr ⟨e,by simp,hb, .inr h⟩
   ·exact .inl h
  ·exact .inr ⟨e',by simp [h1],h2⟩
def Closed (ops:List Oper) (S:Nat→Bool):Prop:= ∀ i o,ops[i]? =some o→S i=true→∀ e∈o.after,Region.binds .any e=true→S e.on=true
theorem pres_ok {ops:List Oper} {S:Nat→Bool} (hS:Closed ops S):∀ (r:List Oper) (acc:List Nat),(∀ i,r[i]? =ops[acc.length+i]?)→
  (∀ i o,ops[i]? =some o→i<acc.length→(∀ e∈o.after,Region.binds .any e=true→S e.on=true)→∀ j,(acc.getD i 0).testBit j=true→S j=true)→
  ∀ i o,ops[i]? =some o→i<acc.length+r.length→(∀ e∈o.after,Region.binds .any e=true→S e.on=true)→∀ j,((pres r acc).getD i 0).testBit j=true→S j=true
 |[],acc,_,hacc,i,o,ho,hi,hd,j,hj=>hacc i o ho (by simpa using hi) hd j hj
 |o0::r,acc,hr,hacc,i,o,ho,hi,hd,j,hj=>by
  refine pres_ok hS r (acc++[msk acc o0]) (fun k=>by have:=hr (k+1);simpa [Nat.add_assoc,Nat.add_comm 1 k] using this) ?_ i o ho (by simp at hi ⊢;omega) hd j hj
  intro i' o' ho' hi' hd' j' hj'
  by_cases hlt:i'<acc.length
  ·have:(acc++[msk acc o0]).getD i' 0=acc.getD i' 0:=by simp [List.getD,List.getElem?_append_left hlt]
   rw [this] at hj'
   exact hacc i' o' ho' hlt hd' j' hj'
  ·have he:i'=acc.length:=by simp at hi';omega
   subst he
   have:(acc++[msk acc o0]).getD acc.length 0=msk acc o0:=by simp [List.getD]
   rw [this] at hj'
   have ho0:o0=o':=by
    have:=hr 0
    simp only [List.getElem?_cons_zero,Nat.add_zero] at this
    rw [ho'] at this
    exact Option.some.inj this
   subst ho0
   rcases msk1_bit acc _ 0 j' hj' with h|⟨e,h1,h2,h3⟩
   ·simp at h
   ·have hSe:=hd' e (by simpa using h1) h2
    rcases h3 with h3|h3
    ·rw [← h3];exact hSe
    ·-- what precedes 'e.on'
     by_cases hel:e.on<acc.length
     ·cases hoe:ops[e.on]? with
      |none=>
       exfalso
       have h4:ops.length≤e.on:=by simpa using hoe
       have h5:acc.length<ops.length:=(List.getElem?_eq_some_iff.1 ho').1
       omega
      |some oe=>exact hacc e.on oe hoe hel (fun e2 he2 hb2=>hS e.on oe hoe hSe e2 he2 hb2) j' h3
     ·have:acc.getD e.on 0=0:=by simp [List.getD,List.getElem?_eq_none (Nat.le_of_not_lt hel)]
      rw [this] at h3
      simp at h3
def conf0 (a b:IOp):Bool:=
 (match a.dst with|some d=>b.sl.contains d|none=>false)||(match b.dst with|some d=>a.sl.contains d|none=>false)
def conf (a b:IOp):Bool:=conf0 a b||(a.op.eff&&b.op.impure)||(a.op.impure&&b.op.eff)
def ldOf (io:IOp):Option IOp:=match io.op,io.dst with
 | .e (.load n ag x),some d=>some ⟨none,io.guard, .e (.again n ag x d)⟩
 | .e (.mop (.get ek ev z ok) ys),some d=>some ⟨none,io.guard, .e (.magain (.get ek ev z ok) ys d)⟩
 |_,_=>none
def clear (ios:List IOp) (sl:List Nat) (i j:Nat):Bool:=ios.zipIdx.all fun x=> !(decide (i≤x.2)&&decide (x.2≤j))||(match x.1.dst with
 |some d=> !sl.contains d
 |none=>true)
def slack (ios:List IOp) (y x:IOp) (i j:Nat):Bool:=(ldOf y).isSome&&x.op.eff&& !conf0 y x&&clear ios y.sl i j
def chk (ops:List Oper) (ios:List IOp):Bool:=
 let ps:=pres ops []
 (ops.zipIdx.all fun x=>x.1.after.toList.all fun e=> !Region.binds .any e||decide (e.on<x.2))&&
 decide (dsts ios).Nodup&&
 (ios.zipIdx.all fun x=>ios.zipIdx.all fun y=> !decide (y.2<x.2)|| !conf y.1 x.1||(ps.getD x.2 0).testBit y.2||slack ios y.1 x.1 y.2 x.2)
def rivals (ops:List Oper) (ios:List IOp) (j:Nat):List IOp:=
 if (ios[j]?.map (·.op.eff)).getD false then ios.zipIdx.filterMap fun x=>if decide (x.2<j)&& !((pres ops []).getD j 0).testBit x.2 then ldOf x.1 else none else []
def aug (ops:List Oper) (ios:List IOp):List IOp:=augL (rivals ops ios) 0 ios
theorem ov_congr {S S':Nat→Bool} {V:Nat→SV}:∀ (ios:List IOp) (k:Nat) (σ:List SV),(∀ j,j<ios.length→S (k+j)=S' (k+j))→ov S V ios k σ=ov S' V ios k σ
 |[],_,_,_=>rfl
 |io::r,k,σ,h=>by
  simp only [ov]
  have h0:=h 0 (by simp)
  rw [Nat.add_zero] at h0
  rw [h0]
  exact ov_congr r (k+1) _ (fun j hj=>by have:=h (j+1) (by simp;omega);rwa [show k+(j+1)=k+1+j by omega] at this)
theorem ov_none_all {S:Nat→Bool} {V:Nat→SV}:∀ (ios:List IOp) (k:Nat) (σ:List SV),(∀ j,j<ios.length→S (k+j)=false)→ov S V ios k σ=σ
 |[],_,_,_=>rfl
 |io::r,k,σ,h=>by
  simp only [ov]
  have h0:=h 0 (by simp)
  rw [Nat.add_zero] at h0
  rw [h0]
  exact ov_none_all r (k+1) _ (fun j hj=>by have:=h (j+1) (by simp;omega);rwa [show k+(j+1)=k+1+j by omega] at this)
theorem tr_at {V:Nat→SV} {M:Nat→List Res} {rs:Nat→List IOp}:∀ (l:List (Oper×IOp)) (k:Nat) (σ:List SV) (m:List Res) (ts:List (SV×List Res)) (σe:List SV) (me:List Res),Tr P main F rs k l σ m ts σe me→M k=m→
  (∀ j t,ts[j]? =some t→V (k+j)=t.1∧M (k+j+1)=t.2)→
  (∀ j o io,l[j]? =some (o,io)→TStep P main F o io (ov (fun i=>decide (i<k+j)) V (l.map (·.2)) k σ) (M (k+j)) (V (k+j)) (M (k+j+1))∧∀ c∈rs (k+j),Late c (ov (fun i=>decide (i<k+j+1)) V (l.map (·.2)) k σ) (M (k+j+1)))∧σe=ov (fun _=>true) V (l.map (·.2)) k σ∧me=M (k+l.length)
 |[],k,σ,m,ts,σe,me,h,hM,hts=>by
  obtain ⟨rfl,rfl,rfl⟩:=h
  exact ⟨fun j o io h=>by simp at h,rfl,hM.symm⟩
 |(o,io)::r,k,σ,m,ts,σe,me,h,hM,hts=>by
  obtain ⟨sv,m',ts',rfl,hstep,hlate,htr⟩:=h
  obtain ⟨e1,e2⟩:=hts 0 (sv,m') rfl
  rw [Nat.add_zero] at e1 e2
  obtain ⟨i1,i2,i3⟩:=tr_at r (k+1) (putS io.dst sv σ) m' ts' σe me htr e2 (fun j t ht=>by have:=hts (j+1) t (by simpa using ht);rwa [show k+(j+1)=k+1+j by omega] at this)
  refine ⟨fun j o' io' hj=> ?_,?_,by rw [i3];simp only [List.length_cons];rw [show k+1+r.length=k+(r.length+1) by omega]⟩
  ·cases j with
   |zero=>
    simp only [List.getElem?_cons_zero,Option.some.injEq,Prod.mk.injEq] at hj
    obtain ⟨rfl,rfl⟩:=hj
    refine ⟨?_,?_⟩
    ·rw [Nat.add_zero,ov_none_all _ _ _ (fun j _=>by simp),hM,e1,e2]
     exact hstep
    ·rw [Nat.add_zero,e2]
     simp only [List.map_cons,ov]
     rw [if_pos (by simp),e1,ov_none_all _ _ _ (fun j _=>by simp)]
     exact hlate
   |succ j=>
    have:=i1 j o' io' (by simpa using hj)
    rw [show k+1+j=k+(j+1) by omega] at this
    simp only [List.map_cons,ov]
    rw [if_pos (by simp),if_pos (decide_eq_true (by omega)),e1]
    exact this
  ·rw [i2];simp only [List.map_cons,ov,if_true,e1]
def top (ios:List IOp) (S:Nat→Bool):Nat→Nat
 |0=>0
 |k+1=>if (ios[k]?.map (·.op.eff)).getD false&&S k then k+1 else top ios S k
theorem top_congr {ios:List IOp} {S S':Nat→Bool}:∀ n,(∀ k,k<n→(ios[k]?.map (·.op.eff)).getD false=true→S k=S' k)→top ios S n=top ios S' n
 |0,_=>rfl
 |n+1,h=>by
  simp only [top]
  rw [top_congr n (fun k hk he=>h k (by omega) he)]
  by_cases he:(ios[n]?.map (·.op.eff)).getD false=true
  ·rw [h n (by omega) he]
  ·simp only [Bool.not_eq_true] at he;simp [he]
theorem top_cut {ios:List IOp} {S:Nat→Bool} {i:Nat}:∀ n,i≤n→(∀ k,i≤k→k<n→(ios[k]?.map (·.op.eff)).getD false=true→S k=false)→top ios S n=top ios S i
 |0,hi,_=>by
          have:i=0:=by omega
          subst this;rfl
 |n+1,hi,h=>by
  rcases Nat.eq_or_lt_of_le hi with e|hlt
  ·rw [e]
  ·simp only [top]
   rw [if_neg,top_cut n (by omega) (fun k h1 h2 h3=>h k h1 (by omega) h3)]
   intro hc
   simp only [Bool.and_eq_true] at hc
   have:=h n (by omega) (by omega) hc.1
   rw [this] at hc;cases hc.2
end Go.Sx
end
