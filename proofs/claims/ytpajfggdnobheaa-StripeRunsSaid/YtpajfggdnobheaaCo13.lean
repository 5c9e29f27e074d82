/- A part of the proof of StripeRuns. Conditions: none. -/
import Derived.Test.YtpajfggdnobheaaCo11
set_option linter.unusedVariables false
set_option linter.unusedSimpArgs false
section
namespace Go.Sx
open Go Go.Conc
section
variable {P:Program} {main:Bool} {F:Nat→Prop} {ι:Type _} {S:Ses ι} {quiet tf:FuncId→Bool} {fn:FuncId} {n:Nat} {d:List Deferred} {H0 X:Nat→Option Obj} {ε:Env} {τ:Fr} {m:List Res} {a:Act} {x:OW} {s:ι} {Q:Exit→Act→ι→OW→Prop}
theorem compT_dreg {c:Code} {pre:List IOp} {so:StO} (h:compT P quiet tf c=some (.dreg pre so)):∃ id ops o ios,c= .region id ops true∧ops.back? =some o∧(dops' ops).toList.mapM (compD P (quiet2 quiet) (dops' ops))=some ios∧compS tf o.op=some so∧o.guard=none∧o.dst=none∧
  chk (dops' ops).toList ios=true∧lastAll (dops' ops).toList=true∧P.follows .mixedOrders=true∧pre=aug (dops' ops).toList ios:=by
 cases c<;>simp only [compT] at h
 case region id ops draw=>
  split at h
  ·split at h
   ·rename_i hd
    subst hd
    unfold dregS at h
    split at h<;>try (cases h;done)
    rename_i o ho
    split at h<;>try (cases h;done)
    rename_i ios so' e1 e2 e3 e4
    split at h<;>try (cases h;done)
    rename_i hc
    simp only [Bool.and_eq_true] at hc
    cases h
    exact ⟨id,ops,o,ios,rfl,ho,e1,e2,e3,e4,hc.1.1,hc.1.2,hc.2,rfl⟩
   ·obtain ⟨a,d,s,b,e⟩:=not_reg h;cases e
  ·obtain ⟨x,h1,h2⟩:=Option.map_eq_some_iff.1 h;cases h2
 all_goals first
  |(obtain ⟨x,h1,h2⟩:=Option.map_eq_some_iff.1 h;cases h2;done)
  |(split at h
    ·first
     |(split at h<;>first|cases h|(obtain ⟨a,s,e⟩:=not_dreg h;cases e)|(obtain ⟨a,d,s,b,e⟩:=not_reg h;cases e))
     |(obtain ⟨x,h1,h2⟩:=Option.map_eq_some_iff.1 h;cases h2)
    ·obtain ⟨x,h1,h2⟩:=Option.map_eq_some_iff.1 h
     cases h2)
theorem dops_at {ops:Array Oper} {o:Oper} (h:ops.back? =some o):(dops' ops).size=ops.size∧0<ops.size∧ops[ops.size - 1]? =some o∧(dops' ops)[ops.size - 1]? =some (dummy o)∧∀ j,j≠ops.size - 1→(dops' ops)[j]? =ops[j]? :=by
 have h0:0<ops.size:=by
  rcases Nat.eq_zero_or_pos ops.size with e|e
  ·have:ops= #[]:=Array.size_eq_zero_iff.1 e
   subst this
   cases h
  ·exact e
 have hb:ops[ops.size - 1]? =some o:=by rw [← h];exact (Array.back?_eq_getElem? ..).symm
 have e:dops' ops=ops.pop.push (dummy o):=by unfold dops';rw [h]
 refine ⟨by rw [e];simp;omega,h0,hb,?_,fun j hj=> ?_⟩
 ·rw [e,Array.getElem?_push];simp
 ·rw [e,Array.getElem?_push]
  by_cases hj2:j<ops.size - 1
  ·rw [if_neg (by simp;omega)]
   simp [Array.getElem?_pop,hj2]
  ·rw [if_neg (by simp;omega)]
   rw [Array.getElem?_eq_none (by simp;omega),Array.getElem?_eq_none (by omega)]
theorem dreg_go {Γ:Hook} (hΓ:HookOK P main F Γ) {ops:Array Oper} {o:Oper} (hb:ops.back? =some o) (hg:o.guard=none) (hdst:o.dst=none) {quiet:FuncId→Bool} {ios:List IOp} {σ:List SV} {V:Nat→SV} {M:Nat→List Res} (pl:Plan P main F quiet (dops' ops) ios σ V M) (hl:lastAll (dops' ops).toList=true) {ρ:Root} {d:List Deferred}
  (hop:∀ ε a w,InvO F ρ ε (M ios.length) w→SlotsOK ε (ov (fun _=>true) V ios 0 σ) a→a.defers=d→OpT P main F S fn o a (fun a2 s2 x2=>Q .normal a2 s2 x2) s w):
  ∀ (fuel:Nat) (listed:Array Bool) (a:Act) (w:OW) (t:Nat),listed.size=ops.size→listed.toList.count false≤fuel→lst listed (ops.size - 1)=false→Closed (dops' ops).toList (lst listed)→
   (∃ ε,InvO F ρ ε (M (top ios (lst listed) ios.length)) w∧SlotsOK ε (ov (lst listed) V ios 0 σ) a∧a.defers=d)→OpsT P main F S fn ops (Region.linearise.go .any ops fuel t listed []) Q a s w:=by
 obtain ⟨d1,d2,d3,d4,d5⟩:=dops_at hb
 have hafter:∀ (j:Nat) (o1 o2:Oper),ops[j]? =some o1→(dops' ops)[j]? =some o2→o2.after=o1.after∧o2.dst=o1.dst∧o2.guard=o1.guard:=by
  intro j o1 o2 h1 h2
  by_cases e:j=ops.size - 1
  ·subst e
   rw [d3] at h1;cases h1
   rw [d4] at h2;cases h2
   exact ⟨rfl,hdst.symm,hg.symm⟩
  ·rw [d5 j e,h1] at h2
   cases h2
   exact ⟨rfl,rfl,rfl⟩
 have hpair:∀ (j:Nat) (o1:Oper),ops[j]? =some o1→∃ o2,(dops' ops)[j]? =some o2:=fun j o1 h1=>by
  have:j< (dops' ops).size:=by rw [d1];exact (Array.getElem?_eq_some_iff.1 h1).1
  exact ⟨_,Array.getElem?_eq_getElem this⟩
 have hyield:∀ (tm:Array Value),yielded (dops' ops) tm=yielded ops tm:=by
  intro tm
  funext j
  unfold yielded
  have:((dops' ops)[j]?).bind (·.dst)=(ops[j]?).bind (·.dst):=by
   cases h1:ops[j]? with
   |none=>
    have:(dops' ops)[j]? =none:=Array.getElem?_eq_none (by rw [d1];exact Array.getElem?_eq_none_iff.1 h1)
    rw [this]
   |some o1=>
    obtain ⟨o2,h2⟩:=hpair j o1 h1
    rw [h2]
    exact (hafter j o1 o2 h1 h2).2.1
  rw [this]
 have hlen:ios.length=ops.size:=by rw [pl.len,d1]
 intro fuel
 induction fuel with
 |zero=>
  intro listed a w t hsz hc hlast hcl hJ
  exfalso
  have hlt:ops.size - 1<listed.size:=by omega
  have:false∈listed.toList:=by
   have h1:listed.toList[ops.size - 1]? =some false:=by
    simp only [lst,Array.getD_eq_getD_getElem?] at hlast
    simp [hlt] at hlast ⊢;exact hlast
   exact List.mem_of_getElem? h1
  have:=List.count_pos_iff.2 this
  omega
 |succ fuel ih=>
  intro listed a w t hsz hc hlast hcl hJ
  simp only [Region.linearise.go]
  change OpsT P main F S fn ops (match (Region.ready .any ops listed)[t%(Region.ready .any ops listed).length]? with
   |some i=>Region.linearise.go .any ops fuel (t/(Region.ready .any ops listed).length) (listed.setIfInBounds i true) [i]
   |none=>[].reverse) Q a s w
  cases hi:(Region.ready .any ops listed)[t%(Region.ready .any ops listed).length]? with
  |none=>
   exfalso
   have hnil:Region.ready .any ops listed=[]:=by
    cases hr:Region.ready .any ops listed with
    |nil=>rfl
    |cons y ys=>
     rw [hr] at hi
     have hlt:t%(y::ys).length< (y::ys).length:=Nat.mod_lt _ (by simp)
     simp at hi
     simp at hlt
     omega
   have:=done_all hsz (fun i o1 h1=>by
    have h1:ops[i]? =some o1:=by simpa using h1
    obtain ⟨o2,h2⟩:=hpair i o1 h1
    rw [← (hafter i o1 o2 h1 h2).1]
    exact (chk_ok pl.chk).1 i o2 (by simpa using h2)) hnil (ops.size - 1) (by omega)
   rw [hlast] at this;cases this
  |some i=>
   simp only []
   rw [linearise_go_acc,List.reverse_singleton,List.singleton_append]
   have hm:=List.mem_of_getElem? hi
   obtain ⟨h0,o1,ho1,hall⟩:=mem_ready.1 hm
   have hlt:i<ops.size:=(Array.getElem?_eq_some_iff.1 ho1).1
   obtain ⟨o2,ho2⟩:=hpair i o1 ho1
   obtain ⟨a1,a2,a3⟩:=hafter i o1 o2 ho1 ho2
   rw [getD_tf (by omega)] at h0
   obtain ⟨ε,h1,h2,h3⟩:=hJ
   have hl0:listed.toList[i]? =some false:=by
    have:i<listed.size:=by omega
    simp only [Array.getD_eq_getD_getElem?] at h0
    simp [this] at h0 ⊢;exact h0
   by_cases e:i=ops.size - 1
   ·-- the stop:all else is done
    subst e
    rw [d3] at ho1;cases ho1
    rw [d4] at ho2;cases ho2
    have hdone:∀ j,j<ops.size→j≠ops.size - 1→lst listed j=true:=by
     intro j hj hne
     have hdl:(dops' ops).toList.length=ops.size:=by rw [Array.length_toList,d1]
     unfold lastAll at hl
     rw [hdl] at hl
     split at hl
     ·rename_i k hk
      have hb':=List.all_eq_true.1 hl j (by simp;omega)
      refine pres_ok hcl (dops' ops).toList [] (fun i=>by simp) (fun i o h hlt=>absurd hlt (Nat.not_lt_zero _)) (ops.size - 1) (dummy o) (by simpa using d4) (by simp only [List.length_nil,Nat.zero_add];omega) hall j ?_
      rw [List.getD,hk];exact hb'
     ·cases hl
    have e1:top ios (lst listed) ios.length=top ios (fun _=>true) ios.length:=top_congr _ fun k hk he=>by
     by_cases hke:k=ops.size - 1
     ·exfalso
      subst hke
      have hio:ios[ops.size - 1]? =some (ios[ops.size - 1]'(by omega)):=by simp [show ops.size - 1<ios.length by omega]
      rw [hio] at he
      obtain ⟨_,_,x0,hx0,hx1⟩:=pl.cmp _ _ _ d4 hio
      have:x0= .p (.mv (.c (.bool true))):=by
       simp [comp1,dummy,compP,compO,cstV] at hx0
       exact hx0.symm
      subst this
      simp only [Option.map_some,Option.getD_some] at he
      rw [hx1] at he
      simp [quieted,IO1.eff] at he
     ·exact hdone k (by omega) hke
    have e2:ov (lst listed) V ios 0 σ=ov (fun _=>true) V ios 0 σ:=by
     have key:∀ (l:List IOp) (k:Nat) (σ:List SV),(∀ j io,l[j]? =some io→(lst listed (k+j)=true∨io.dst=none))→ov (lst listed) V l k σ=ov (fun _=>true) V l k σ:=by
      intro l
      induction l with
      |nil=>intros;rfl
      |cons io l ihl=>
       intro k σ hh
       simp only [ov]
       have ht:=ihl (k+1)
       rcases hh 0 io rfl with h|h
       ·rw [Nat.add_zero] at h
        rw [h]
        exact ht _ fun j io' hj=>by
         have:=hh (j+1) io' (by simpa using hj)
         rw [show k+(j+1)=k+1+j by omega] at this
         exact this
       ·have hp:∀ sv (σ:List SV),putS io.dst sv σ=σ:=fun sv σ=>by rw [h];rfl
        simp only [hp,ite_self]
        exact ht _ fun j io' hj=>by
         have:=hh (j+1) io' (by simpa using hj)
         rw [show k+(j+1)=k+1+j by omega] at this
         exact this
     refine key ios 0 σ fun j io hj=> ?_
     rw [Nat.zero_add]
     by_cases hje:j=ops.size - 1
     ·right
      subst hje
      exact (pl.cmp _ _ _ d4 hj).1.trans (by rfl)
     ·left
      exact hdone j (by have:=(List.getElem?_eq_some_iff.1 hj).1;omega) hje
    rw [e1,← pl.top_M _ (Nat.le_refl _)] at h1
    rw [e2] at h2
    refine opst_op d3 (by simp [Region.wanted,hg]) ((hop ε a w h1 h2 h3).mono fun a2 s2 x2 hq=> ?_)
    have hrest:Region.linearise.go .any ops fuel (t/(Region.ready .any ops listed).length) (listed.setIfInBounds (ops.size - 1) true) []=[]:=by
     cases fuel with
     |zero=>rfl
     |succ fuel=>
      simp only [Region.linearise.go]
      have hr:Region.ready .any ops (listed.setIfInBounds (ops.size - 1) true)=[]:=by
       cases hr:Region.ready .any ops (listed.setIfInBounds (ops.size - 1) true) with
       |nil=>rfl
       |cons y ys=>
        exfalso
        have hy:y∈Region.ready .any ops (listed.setIfInBounds (ops.size - 1) true):=by rw [hr];simp
        obtain ⟨h4,o3,h5,_⟩:=mem_ready.1 hy
        have hylt:y<ops.size:=(Array.getElem?_eq_some_iff.1 h5).1
        rw [getD_tf (by simp;omega)] at h4
        have h6:lst (listed.setIfInBounds (ops.size - 1) true) y=false:=h4
        rw [lst_set (by omega)] at h6
        simp only [upd,Bool.or_eq_false_iff,decide_eq_false_iff_not] at h6
        rw [hdone y hylt h6.2] at h6
        cases h6.1
      change (match (Region.ready .any ops (listed.setIfInBounds (ops.size - 1) true))[_%(Region.ready .any ops (listed.setIfInBounds (ops.size - 1) true)).length]? with
       |some i=>_
       |none=>[].reverse)=[]
      rw [hr];rfl
    rw [hrest]
    exact opst_nil hq
   ·have ho12:o2=o1:=by
     rw [d5 i e,ho1] at ho2;exact (Option.some.inj ho2).symm
    subst ho12
    have hstep:=Plan.step_ok (fn:=fn) hΓ pl hcl ho2 h0 (by rw [a1];exact hall) h1 h2
    have key:∀ a' w',(∃ ε',InvO F ρ ε' (M (top ios (upd (lst listed) i) ios.length)) w'∧SlotsOK ε' (ov (upd (lst listed) i) V ios 0 σ) a'∧∃ v,a'=a.put o2.dst v)→OpsT P main F S fn ops (Region.linearise.go .any ops fuel (t/(Region.ready .any ops listed).length) (listed.setIfInBounds i true) []) Q a' s w':=by
     rintro a' w' ⟨ε',k1,k2,v',rfl⟩
     refine ih _ _ w' _ (by simpa using hsz) ?_ ?_ ?_ ?_
     ·have:=count_set hl0
      rw [Array.toList_setIfInBounds];omega
     ·rw [lst_set (by omega)]
      simp only [upd,hlast,Bool.false_or,decide_eq_false_iff_not]
      exact fun h=>e h.symm
     ·rw [lst_set (by omega)]
      exact hcl.upd (by simpa using ho2) (by rw [a1];exact hall)
     ·rw [lst_set (by omega)]
      exact ⟨ε',k1,k2,by rw [put_defers];exact h3⟩
    unfold wqOp at hstep
    rw [ho2] at hstep
    simp only at hstep
    rw [hyield] at hstep
    split at hstep
    ·rename_i hw
     exact opst_op ho1 hw (OpQ.t (hstep.mono key))
    ·rename_i hw
     exact opst_skip ho1 (by simpa using hw) (key _ _ hstep)
theorem tw_dreg (h:TS F n d H0 X ε τ m a x) {Γ:FH} (hΓ:FHOK P main F Γ) {pre:SL} {so:StO} (hw:pre.wf n=true) (ks:List Nat) (xs:List SV) (M':List Res) (hk:pre.wp Γ true (GotN ks xs M') τ m)
  (hop:∀ ε' a' x',TS F n d H0 X ε' (ofF ks xs .nil) M' a' x'→(∀ i,i<m.length→ε'.blk i=ε.blk i)→∀ o:Oper,compS tf o.op=some so→o.dst=none→OpT P main F S fn o a' (fun a2 s2 x2=>Q .normal a2 s2 x2) s x'):
  TW P main F S quiet tf fn (.dreg pre so) Q a s x:=fun c hc=>by
 obtain ⟨id,ops,o,ios,rfl,hb,hmap,hso,hg,hdst,hchk,hl,hmx,hpre⟩:=compT_dreg hc
 intro b k cs hbf hbk hcont
 refine .go rfl fun w1 h1=> ?_
 rw [stepG_region_draw]
 refine ⟨⟨rfl,rfl,rfl,Nat.le_refl _,fun _ _ _=>rfl,fun e h=>by simp at h⟩,?_⟩
 have e:OW.next x.O w1 {w1 with drawn:=w1.drawn+1}=⟨{w1 with drawn:=w1.drawn+1},x.O⟩:=by
  unfold OW.next
  congr 1
  funext c
  exact propext ⟨fun h=>h.elim (fun h=>h) fun h=>absurd h.1 (by show ¬ (w1.heap.size≤c);have:=h.2;simp at this;omega), .inl⟩
 rw [e]
 have hT:TS F n d H0 X ε τ m a ⟨{w1 with drawn:=w1.drawn+1},x.O⟩:=(h.rely h1).rely ⟨rfl,rfl,rfl,Nat.le_refl _,fun _ _=>rfl⟩
 generalize ({w1 with drawn:=w1.drawn+1}:World)=w2 at hT ⊢
 obtain ⟨σ,s1,s2⟩:=hT.s
 have kk:=wp_ok pre τ σ m (GotN ks xs M') (fun σ' m'=> ∃ τ',Rep n σ' τ'∧GotN ks xs M' τ' m') hw s1 hk (fun σ' τ' m' hr hq=>⟨τ',hr,hq⟩)
 have kk:dsops _ (pre.flat none) _ σ m:=kk
 rw [hpre] at kk
 obtain ⟨ts,σe,me,hK,htr⟩:=tr_of hΓ.hook (rs:=rivals (dops' ops).toList ios) (rivals_again _ _) (dops' ops).toList ios σ m _ 0 hmap kk
 have hlen:ios.length=(dops' ops).size:=by rw [mapM_len hmap];simp
 obtain ⟨V,hV⟩:∃ V:Nat→SV,∀ k,V k=(ts[k]?.map Prod.fst).getD SV.junk:=⟨_,fun _=>rfl⟩
 obtain ⟨M,hM0,hM⟩:∃ M:Nat→List Res,M 0=m∧∀ k,M (k+1)=(ts[k]?.map Prod.snd).getD m:=⟨fun k=>Nat.casesOn k m fun k=>(ts[k]?.map Prod.snd).getD m,rfl,fun _=>rfl⟩
 obtain ⟨t1,t2,t3⟩:=tr_at (V:=V) (M:=M) ((dops' ops).toList.zip ios) 0 σ m ts σe me htr hM0 (fun j t ht=>by rw [Nat.zero_add,hV,hM];simp [ht])
 have hzl:((dops' ops).toList.zip ios).length=ios.length:=by simp [hlen]
 have hzm:((dops' ops).toList.zip ios).map (·.2)=ios:=by
  rw [List.map_snd_zip];simp [hlen]
 rw [hzm] at t1 t2
 have pl:Plan P main F (quiet2 quiet) (dops' ops) ios σ V M:=by
  refine ⟨hlen,fun i o io ho hio=> ?_,fun i o io ho hio=> ?_,hchk,fun j hj c hc'=> ?_⟩
  ·have:=(mapM_at hmap i).1
   have ho':(dops' ops).toList[i]? =some o:=by simpa using ho
   rw [ho',hio] at this
   simp only [Option.bind_some,compD,Option.map_eq_some_iff] at this
   obtain ⟨io0,h0,rfl⟩:=this
   simp only [compOp] at h0
   split at h0<;>try (cases h0;done)
   rename_i g x hg hx
   simp only [Option.some.injEq] at h0;subst h0
   exact ⟨rfl,hg,x,hx,rfl⟩
  ·have:=t1 i o io (by
    have ho':(dops' ops).toList[i]? =some o:=by simpa using ho
    rw [List.getElem?_zip_eq_some];exact ⟨ho',hio⟩)
   rw [Nat.zero_add] at this
   exact this.1
  ·have ho':(dops' ops).toList[j]? =some ((dops' ops)[j]'(by rw [← hlen];exact hj)):=by simp
   have hio:ios[j]? =some ios[j]:=by simp [hj]
   have:=(t1 j _ _ (by rw [List.getElem?_zip_eq_some];exact ⟨ho',hio⟩)).2
   rw [Nat.zero_add] at this
   exact this c hc'
 have hno:∀ j,lst (Array.replicate ops.size false) j=false:=by
  intro j
  simp only [lst,Array.getD_eq_getD_getElem?,Array.getElem?_replicate]
  split<;>rfl
 have hsch:∀ t,Region.schedule (P.follows .mixedOrders) ops t=Region.linearise.go .any ops ops.size t (Array.replicate ops.size false) []:=fun t=>by
  simp only [Region.schedule,hmx,Bool.true_or,if_true]
  rfl
 rw [hsch]
 refine dreg_go (Q:=Q) (s:=s) (S:=S) hΓ.hook hb hg hdst pl hl (ρ:= .at ε m ⟨w2,x.O⟩) (d:=d) (fun ε' a' w' k1 k2 k3=> ?_) ops.size _ a _ _ (by simp) (by simp) (hno _) (fun i o _ hi=>by rw [hno] at hi;cases hi) ?_ b k cs hbf hbk hcont
 ·rw [hzl,Nat.zero_add] at t3
  obtain ⟨τ',hr,hq⟩:=hK
  have k1':InvO F (.at ε m ⟨w2,x.O⟩) ε' me w':=by rw [t3];exact k1
  rw [← t2] at k2
  obtain ⟨g1,rfl⟩:=hq
  exact hop ε' a' w' (TS.ofN ⟨k1'.goodO,⟨_,hr,k2⟩,k3,hT.x.step hT.g k1',fun b o hb=>k1'.inv.kept.H b o (h.h b o hb)⟩ g1) (fun i hi=>k1'.inv.blk i (by rw [show ((Root.at ε m ⟨w2,x.O⟩).base F w').ε.n=ε.n from rfl,h.g.good.n];exact hi)) o hso hdst
 ·have e1:top ios (lst (Array.replicate ops.size false)) ios.length=0:=by
   rw [top_cut (i:=0) _ (Nat.zero_le _) (fun k _ _ _=>hno k)];rfl
  rw [e1,ov_none_all _ _ _ (fun j _=>hno _),hM0]
  exact ⟨ε,hT.inv,s2,hT.d⟩
end
end Go.Sx
end
section
namespace Go.Sx
open Go Go.Conc
section
variable {P:Program} {F:Nat→Prop} {Φ:Fan} {End:List Nat→Goroutine→OW→Prop} {tf:FuncId→Bool} {fn:FuncId} {n:Nat} {d:List Deferred} {H0 X:Nat→Option Obj} {ε:Env} {τ:Fr} {m:List Res} {a:Act} {x:OW} {o:Oper} {l:List MAct} {cs got:List Nat}
theorem ts_mk (h:TS F n d H0 X ε τ m a x) {T e:TypeId} {dir:ChanDir} {i:TypeInfo} {y:Opd} {t cap:Nat} (ho:compS tf o.op=some (.mk T y)) (hd:o.dst=some t) (ht:t<n) (hT:P.underlying T=some (.chan dir e)) (hi:P.info? e=some i) (hy:y.fv τ= .int .i64 cap)
  (h63:(cap:Int)≤9223372036854775807) (hb:(i.bytes:Int)*cap≤281474976710544):
  OpT P true F (mainSes P F Φ End) fn o a (fun a2 s2 x2=> ∃ c,s2=⟨l,cs++[c],got⟩∧TS F n d H0 X ε (.put t (.raw (.chan (some c))) τ) m a2 x2) ⟨.mk cap::l,cs,got⟩ x:=by
 obtain ⟨z,h1,h2⟩:=compS_mk ho
 have hz:=h.int h2 hy
 have hr:∀ w,(execOp a.eval o).run P w= .ok (.value (.chan (some w.heap.size))) (w.alloc (.chan cap #[] false 0 0 false))∧(execOp a.eval o).events P w #[]= #[]:=fun w=>by
  unfold execOp
  simp only [h1]
  have k1:=run_makeChan (P:=P) (w:=w) hT hi .i64 cap h63 hb
  have k2:=events_makeChan (P:=P) (w:=w) hT hi .i64 cap h63 hb #[]
  exact ⟨by simp [hz,k1],by simp [hz,k1,k2]⟩
 refine opt_mk hr fun w1 h3=>⟨w1.heap.size,rfl,?_⟩
 rw [hd]
 have hsz:(w1.alloc (.chan cap #[] false 0 0 false)).heap.size=w1.heap.size+1:=by simp
 have h4:=h.rely h3
 have hrel:Rel x.O F w1 (w1.alloc (.chan cap #[] false 0 0 false)):=⟨rfl,rfl,rfl,by rw [hsz];omega,fun b hb=>Go.RowKit.Below.heap_alloc w1 _ b (hb.elim (h4.g.Ol b) (h4.g.Fl b))⟩
 exact (h4.rely hrel).put ht (mk_raw rfl)
theorem ts_go (h:TS F n d H0 X ε τ m a x) {f:FuncId} {ys:List Opd} {j cin cout:Nat} (ho:compS tf o.op=some (.go f ys)) (hd:o.dst=none) (hy:ys.map (Opd.fv τ)=[.raw (.chan (some cin)), .raw (.chan (some cout))])
  (h1:cs[j+1]? =some cin) (h0:cs[0]? =some cout) (hch:∀ w1,Rel x.O F x.w w1→∀ dd:Deferred,dd.target= .fn (.func f) #[]→dd.args= #[.chan (some cin), .chan (some cout)]→HandS P F Φ cin cout j (Φ.msgs j) (born P dd) ⟨w1,fun _=>False⟩):
  OpT P true F (mainSes P F Φ End) fn o a (fun a2 s2 x2=>s2=⟨l,cs,got⟩∧TS F n d H0 X ε τ m a2 x2) ⟨.go j::l,cs,got⟩ x:=by
 obtain ⟨c,e1,e2,e3⟩:=compS_go ho
 have hargs:c.args.toList.map a.eval=[.chan (some cin), .chan (some cout)]:=by
  have:=h.opds e3 (by rw [hy];rfl)
  rw [hy] at this
  obtain ⟨cs1,t1,q1,q2,cs2,t2,q3,q4,q5⟩:=this
  obtain ⟨_,rfl⟩:=q2
  obtain ⟨_,rfl⟩:=q4
  simp only [SatA] at q5
  subst q5 q3
  exact q1
 have hargs':c.args.map a.eval= #[.chan (some cin), .chan (some cout)]:=by
  apply Array.ext'
  simpa using hargs
 have hr:∀ w,(execOp a.eval o).run P w= .ok (.spawn {target:= .fn (.func f) #[],args:= #[.chan (some cin), .chan (some cout)]}) w∧(execOp a.eval o).events P w #[]= #[]:=fun w=>by
  unfold execOp
  simp only [e1]
  have hf:a.eval (.func f)= .func (.func f) #[] #[]:=rfl
  exact ⟨by simp [resolve,e2,Deferred.ofValue,hf,hargs'],by simp [resolve,e2,Deferred.ofValue,hf,hargs']⟩
 refine opt_go hr rfl (fun w1 h3=>⟨cin,cout,h1,h0,hch w1 h3 _ rfl rfl⟩) fun w1 h3=>⟨rfl,?_⟩
 rw [hd]
 exact h.rely h3
theorem ts_say (h:TS F n d H0 X ε τ m a x) {p q:Opd} {j c:Nat} {v:Value} (ho:compS tf o.op=some (.send p q)) (hd:o.dst=none) (hp:p.fv τ= .raw (.chan (some c))) (hc:cs[j+1]? =some c) (hq:∀ w,SatV ε (q.fv τ) w→w=v):
  OpT P true F (mainSes P F Φ End) fn o a (fun a2 s2 x2=>s2=⟨l,cs,got⟩∧TS F n d H0 X ε τ m a2 x2) ⟨.send j v::l,cs,got⟩ x:=by
 obtain ⟨y,z,e1,e2,e3⟩:=compS_send ho
 refine opt_say hc (run_sendOp e1 (h.raw e2 hp) (hq _ (h.opd e3))) fun w1 h3=>⟨rfl,?_⟩
 rw [hd]
 exact h.rely h3
theorem ts_close (h:TS F n d H0 X ε τ m a x) {p:Opd} {j c:Nat} (ho:compS tf o.op=some (.close p)) (hd:o.dst=none) (hp:p.fv τ= .raw (.chan (some c))) (hc:cs[j+1]? =some c) (hq:(P.funcs[fn]?).any (·.norace)=false):
  OpT P true F (mainSes P F Φ End) fn o a (fun a2 s2 x2=>s2=⟨l,cs,got⟩∧TS F n d H0 X ε τ m a2 x2) ⟨.close j::l,cs,got⟩ x:=by
 obtain ⟨y,ats,e1,e2⟩:=compS_close ho
 refine opt_shutd hc e1 (h.raw e2 hp) hq fun w1 h3=>⟨rfl,?_⟩
 rw [hd]
 exact h.rely h3
theorem ts_recv (h:TS F n d H0 X ε τ m a x) {T e:TypeId} {dir:ChanDir} {p:Opd} {t c:Nat} {z:Value} (ho:compS tf o.op=some (.recv T p false)) (hd:o.dst=some t) (ht:t<n) (hp:p.fv τ= .raw (.chan (some c))) (hc:cs[0]? =some c) (hT:P.underlying T=some (.chan dir e)) (hz:∀ w,(zeroValue e).run P w= .ok z w)
  {K:SV→List Res→Nat→Prop} (hK:∀ (x':OW) (v:Value) (j:Nat) (B:Nat→Prop),j<Φ.n→j∉got→Φ.Out j v B x'.w→(∀ b,B b→x'.O b)→(∀ b,B b→ε.H b=none∧X b=none∧∀ i,ownR ε i (memAt m i)≠some b)→TS F n d H0 X ε τ m a x'→∃ (ε':Env) (y:SV) (m':List Res),K y m' j∧TS F n d H0 X ε' τ m' a x'∧SatV ε' y v):
  OpT P true F (mainSes P F Φ End) fn o a (fun a2 s2 x2=> ∃ j ε' y m',j<Φ.n∧j∉got∧K y m' j∧s2=⟨l,cs,got++[j]⟩∧TS F n d H0 X ε' (.put t y τ) m' a2 x2) ⟨.recv::l,cs,got⟩ x:=by
 obtain ⟨y,e1,e2⟩:=compS_recv ho
 refine opt_recv hc (run_recvOp e1 (h.raw e2 hp) hT hz fun w=>events_zeroValue P w #[] e) fun w1 h1 v j B w' k1 k2 k3 k4 k5=> ?_
 have h2:=(h.rely h1).rely k4
 have h3:=h2.more (O':=fun b=>x.O b∨B b) (fun b hb=> .inl hb) (fun b hb=>hb.elim (h2.g.Ol b) fun hb=>(k5 b hb).1)
 have side:∀ b,B b→ε.H b=none∧X b=none∧∀ i,ownR ε i (memAt m i)≠some b:=fun b hb=>by
  refine ⟨?_,?_,fun i hi=>(k5 b hb).2.1 (h2.g.own i b hi)⟩
  ·cases hh:ε.H b with
   |none=>rfl
   |some o'=>exact ((h2.g.H b o' hh).elim (k5 b hb).2.1 (k5 b hb).2.2).elim
  ·cases hh:X b with
   |none=>rfl
   |some o'=>exact ((k5 b hb).2.1 (h2.x b o' hh).2.1).elim
 obtain ⟨ε',y',m',g1,g2,g3⟩:=hK ⟨w',fun b=>x.O b∨B b⟩ v j B k1 k2 k3 (fun b hb=> .inr hb) side h3
 refine ⟨j,ε',y',m',k1,k2,g1,rfl,?_⟩
 rw [hd]
 exact g2.put ht g3
end
section
variable {P:Program} {main:Bool} {F:Nat→Prop} {ι:Type _} {S:Ses ι} {quiet tf:FuncId→Bool} {fn:FuncId}
def CallsT (P:Program) (main:Bool) (F:Nat→Prop) (S:Ses ι) (f:FuncId) (args:Array Value) (s:ι) (x:OW) (R:Value→ι→OW→Prop):Prop:=
 ∀ (cs:List Frame),(∀ v s' x' fr,R v s' x'→fr.fn=f→fr.mode= .returning→fr.defers=[]→fr.kind= .normal→
   (∃ fn,P.funcs[f]? =some fn∧∀ w1,Rel x'.O F x'.w w1→(results fn fr.tmps).run P w1= .ok v w1∧∀ e∈(results fn fr.tmps).events P w1 #[],EvOK x'.O F w1.heap.size w1.heap.size e)→Co P main F (S s') (G fr cs) x')→
  Co P main F (S s) (G (Frame.enter P f args .normal) cs) x
theorem opt_call {o:Oper} {a:Act} {K:Act→ι→OW→Prop} {f:FuncId} {args:Array Value} {s:ι} {x:OW} (hr:∀ w,Rel x.O F x.w w→(execOp a.eval o).run P w= .ok (.enter f args) w∧(execOp a.eval o).events P w #[]= #[])
  (h:CallsT P main F S f args s x fun v s' x'=>K (a.put o.dst v) s' x'):OpT P main F S fn o a K s x:=by
 intro ops b k cs i rest hb hk ho hw hc
 refine .go rfl fun w1 h1=> ?_
 rw [stepG_enter ho hw hk (hr w1 h1).1]
 have e0:listed P b.fn a o w1= #[]:=by
  unfold listed;rw [(hr w1 h1).2];exact seen_none P _
 rw [e0]
 refine ⟨Gua.idle ..,?_⟩
 rw [OW.next_idle]
 refine Co.rely (x:=x) ?_ h1
 refine h _ fun v s' x' fr hK hfn hm hd hn ⟨fn',hf',hres⟩=> .go rfl fun w2 h2=> ?_
 rw [stepG_leaveE hm hd hn (hfn▸hf') (hres w2 h2).1]
 refine ⟨⟨rfl,rfl,rfl,Nat.le_refl _,fun _ _ _=>rfl,fun e he=> ?_⟩,?_⟩
 ·rw [seen_def] at he
  rcases seen_fold_sub _ _ _ _ _ he with h|h
  ·simp at h
  ·exact (hres w2 h2).2 e (by simpa using h)
 ·rw [OW.next_idle,Frame.finish_at,ho]
  exact (hc _ _ _ hK).rely h2
theorem callst_of {f:FuncId} {func:Func} {c:Code} {args:Array Value} {s:ι} {x:OW} {R:Value→ι→OW→Prop} (hf:P.funcs[f]? =some func) (hb:func.body=some c)
  (h:CodeT P main F S f c (fun e a' s' x'=>match e with
   | .normal| .ret=>a'.defers=[]∧∃ v,R v s' x'∧∀ w1,Rel x'.O F x'.w w1→(results func a'.tmps).run P w1= .ok v w1∧∀ e∈(results func a'.tmps).events P w1 #[],EvOK x'.O F w1.heap.size w1.heap.size e
   |_=>False) {tmps:=args++Array.replicate (func.ntmps - args.size) undef,defers:=[]} s x):CallsT P main F S f args s x R:=by
 intro cs hc
 rw [enter_at args hf hb]
 refine h (base f) [] cs rfl (by simp [base]) fun e a' s' x' q=> ?_
 have key:∀ (todo:List Item),(a'.defers=[]∧∃ v,R v s' x'∧∀ w1,Rel x'.O F x'.w w1→(results func a'.tmps).run P w1= .ok v w1∧∀ e∈(results func a'.tmps).events P w1 #[],EvOK x'.O F w1.heap.size w1.heap.size e)→
   Co P main F (S s') (G {(base f).at a' todo with mode:= .returning} cs) x':=by
  rintro todo ⟨hd,v,hR,hres⟩
  exact hc v s' x' _ hR rfl rfl hd rfl ⟨func,hf,hres⟩
 cases e with
 |normal=>exact .idle rfl (fun _=>stepG_end) (key [] q)
 |ret=>exact fun todo=>key todo q
 |exit id=>exact q.elim
 |goto l=>exact q.elim
 |panic ch=>exact q.elim
 |outgrown=>exact q.elim
end
end Go.Sx
end
