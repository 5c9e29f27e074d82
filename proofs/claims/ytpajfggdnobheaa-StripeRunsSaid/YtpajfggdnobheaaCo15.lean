/- A part of the proof of StripeRuns. Conditions: none. -/
import Derived.Test.YtpajfggdnobheaaCo14
set_option linter.unusedVariables false
set_option linter.unusedSimpArgs false
namespace Go.Sx
open Go
section
variable {P:Program} {main:Bool} {F:Nat→Prop} {ι:Type _} {S:Ses ι} {quiet tf:FuncId→Bool} {fn:FuncId} {n:Nat} {d:List Deferred} {H0:Nat→Option Obj} {ε:Env} {τ:Fr} {m:List Res} {a:Act} {x:OW} {s:ι}
theorem slots_of {ε':Env} {τ':Fr} (hs:a.tmps.size=n) (hb:∀ k,n≤k→look k τ'= .junk) (hx:∀ k,k<n→SatV ε' (look k τ') (a.tmps.getD k undef)):SlotsF n ε' τ' a:=by
 have hg:∀ k,((List.range n).map fun k=>look k τ').getD k .junk=if k<n then look k τ' else .junk:=fun k=>by
  rw [List.getD,List.getElem?_map]
  by_cases hk:k<n
  ·rw [List.getElem?_range hk,if_pos hk];rfl
  ·rw [List.getElem?_eq_none (by simpa using hk),if_neg hk];rfl
 refine ⟨(List.range n).map fun k=>look k τ',⟨by simp,fun k=> ?_⟩,by simp [hs],fun k=> ?_⟩
 ·rcases Nat.lt_or_ge k n with hk|hk
  ·exact .inr ⟨hk,by rw [hg,if_pos hk]⟩
  ·exact .inl (hb k hk)
 ·rw [hg]
  split
  ·rename_i hk;exact hx k hk
  ·trivial
theorem TS.frz (h:TS F n d H0 (fun _=>none) ε τ m a x) {τ':Fr} (hb:∀ k,n≤k→look k τ'= .junk) (hx:∀ k,k<n→SatV (Sx.frz ε m x.w).cl (look k τ') (a.tmps.getD k undef)):TS F n d H0 (fun _=>none) (Sx.frz ε m x.w).cl τ' [] a x:=by
 have hH:∀ b o,(Sx.frz ε m x.w).H b=some o→((∃ i,ownR ε i (memAt m i)=some b)∧x.w.heap[b]? =some o)∨ε.H b=some o:=fun b o hb=>by
  unfold Sx.frz at hb
  simp only at hb
  split at hb
  ·rename_i hh;exact .inl ⟨hh,hb⟩
  ·exact .inr hb
 have hg:Good (Sx.frz ε m x.w).cl [] x.w:=by
  refine ⟨rfl,fun i=>by rw [memAt_ge (Nat.zero_le _)];trivial,fun i j b _ h1=>(by rw [memAt_ge (Nat.zero_le _)] at h1;cases h1),fun i b h1=>(by rw [memAt_ge (Nat.zero_le _)] at h1;cases h1),fun b o hb=> ?_,?_⟩
  ·rcases hH b o hb with h1|h1
   ·exact h1.2
   ·exact h.g.good.hv b o h1
  ·exact h.g.good.gl.mono (frz_H h.g.good)
 refine ⟨⟨hg,fun i b h1=>(by rw [memAt_ge (Nat.zero_le _)] at h1;cases h1),fun b o hb=> ?_,h.g.Ol,h.g.Fl⟩,slots_of h.s.size hb hx,h.d,fun b o hb=>(by cases hb),fun b o hb=>frz_H h.g.good _ _ (h.h b o hb)⟩
 rcases hH b o hb with ⟨⟨i,h1⟩,_⟩|h1
 ·exact .inl (h.g.own i b h1)
 ·exact h.g.H b o h1
theorem callst_two {f:FuncId} {tc:TC} {t1 t2 nt:Nat} {nr:Bool} (hc:tIs P quiet tf f=some (tc.flat,[.tmp t1, .tmp t2],nt,nr)) {args:List SV} {vs:List Value} (hg:GoodO F ε m x) (ha:SatA args ε vs) (hl:args.length≤nt)
  {K:SV→SV→List Res→ι→Prop} (hv:∀ y1 y2 m' s',K y1 y2 m' s'→y1.isVal=true∧y2.isVal=true)
  (h:∀ a,TS F nt [] ε.H (fun _=>none) ε (argF 0 args) m a x→TW P main F S quiet tf f tc (fun e a' s' x'=>e= .ret∧∃ ε' y1 y2 m',K y1 y2 m' s'∧TS F nt [] ε.H (fun _=>none) ε' (ofF [t1,t2] [y1,y2] .nil) m' a' x') a s x) (ht:t1≠t2):
  CallsT P main F S f vs.toArray s x (fun v s' x'=> ∃ ε' y1 y2 m',K y1 y2 m' s'∧GoodO F ε' m' x'∧(∀ b o,ε.H b=some o→ε'.H b=some o)∧SatV ε' (.tup [y1,y2]) v):=by
 obtain ⟨func,body,hf,hb,hcc,hrs,hnt,hname,_,_⟩:=tIs_ok hc
 have hlen:args.length=vs.length:=by
  clear h hl hc
  induction args generalizing vs with
  |nil=>simp only [SatA] at ha;subst ha;rfl
  |cons y r ih=>simp only [SatA] at ha;obtain ⟨cs,t,rfl,_,h2⟩:=ha;simp [ih h2]
 refine callst_of hf hb ?_
 have hT:TS F nt [] ε.H (fun _=>none) ε (argF 0 args) m {tmps:=vs.toArray++Array.replicate (func.ntmps - vs.toArray.size) undef,defers:=[]} x:=by
  refine ⟨hg,⟨_,argF_rep args nt hl,?_⟩,rfl,fun b o hb=>(by cases hb),fun _ _ h=>h⟩
  have:=slots_start ha (nt - args.length)
  rw [hnt,show vs.toArray.size=args.length by simp [hlen]]
  exact this
 refine (h _ hT body hcc).mono fun e a' s' x' hh=> ?_
 obtain ⟨rfl,ε',y1,y2,m',hK,hT'⟩:=hh
 obtain ⟨k1,k2⟩:=hv _ _ _ _ hK
 refine ⟨hT'.d, .tuple #[a'.tmps.getD t1 undef,a'.tmps.getD t2 undef],⟨ε',y1,y2,m',hK,hT'.g,hT'.h,?_⟩,fun w1 hw=> ?_⟩
 ·have e1:=hT'.s.sat t1
  have e2:=hT'.s.sat t2
  have l1:look t1 (ofF [t1,t2] [y1,y2] .nil)=y1:=by simp [ofF,look]
  have l2:look t2 (ofF [t1,t2] [y1,y2] .nil)=y2:=by simp [ofF,look,Ne.symm ht]
  rw [l1] at e1
  rw [l2] at e2
  obtain ⟨c1,g1,g2⟩:=sat_val e1 k1
  obtain ⟨c2,g3,g4⟩:=sat_val e2 k2
  exact ⟨[_,_],⟨c1,_,by rw [g2],g1,c2,_,by rw [g4],g3,rfl⟩,rfl⟩
 ·have hm:([ResultVar.tmp t1, .tmp t2].mapM (resV a'.tmps)).run P w1= .ok [a'.tmps.getD t1 undef,a'.tmps.getD t2 undef] w1:=rfl
  refine ⟨run_results hrs hm,fun e he=> ?_⟩
  rw [ev_results hrs hm] at he
  simp [List.mapM_cons,resV] at he
theorem ts_call {o:Oper} {f:FuncId} {ys:List Opd} {t:Nat} (h:TS F n d H0 (fun _=>none) ε τ [] a x) (ho:compS tf o.op=some (.tcall f ys)) (hok:okFn P f=true) (hd:o.dst=some t) (ht:t<n) (hv:(ys.map (Opd.fv τ)).all SV.isVal=true) {K:SV→SV→List Res→ι→Prop}
  (hcall:∀ vs:List Value,SatA (ys.map (Opd.fv τ)) ε vs→CallsT P main F S f vs.toArray s x (fun v s' x'=> ∃ ε' y1 y2 m',K y1 y2 m' s'∧GoodO F ε' m' x'∧(∀ b o,ε.H b=some o→ε'.H b=some o)∧SatV ε' (.tup [y1,y2]) v)):
  OpT P main F S fn o a (fun a2 s2 x2=> ∃ ε' y1 y2 m',K y1 y2 m' s2∧TS F n d H0 (fun _=>none) ε' (.put t (.tup [y1,y2]) τ) m' a2 x2) s x:=by
 obtain ⟨c,e1,e2,e3⟩:=compS_tcall ho
 have hs:=h.opds e3 hv
 refine opt_call (f:=f) (args:=(c.args.toList.map a.eval).toArray) (fun w _=> ?_) ?_
 ·have:(c.args.toList.map a.eval).toArray=c.args.map a.eval:=by apply Array.ext';simp
  refine ⟨?_,by simp [execOp,e1,e2,resolve,Deferred.ofValue,invoke,Act.eval,ev_callFunc hok]⟩
  simp [execOp,e1,e2,resolve,Deferred.ofValue,invoke,Act.eval,run_callFunc hok]
  apply Array.ext';simp
 intro cs hc
 refine hcall _ hs cs fun v s' x' fr hK h1 h2 h3 h4 h5=> ?_
 obtain ⟨ε',y1,y2,m',k1,k2,k3,k4⟩:=hK
 refine hc v s' x' fr ⟨ε',y1,y2,m',k1,?_⟩ h1 h2 h3 h4 h5
 have hn:ε.n=0:=h.g.good.n
 have hle:ε.Le ε':=⟨by omega,fun i hi=>by omega,fun i hi=>by omega,k3⟩
 have h':TS F n d H0 (fun _=>none) ε' τ m' a x':=⟨k2,(let ⟨σ,q1,q2⟩:=h.s;⟨σ,q1,q2.1,fun k=>(q2.2 k).mono hle⟩),h.d,fun b o hb=>(by cases hb),fun b o hb=>k3 b o (h.h b o hb)⟩
 rw [hd]
 exact h'.put ht k4
end
end Go.Sx
