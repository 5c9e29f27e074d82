/- A part of the proof of StripeRuns. Conditions: none. -/
import Derived.Test.YtpajfggdnobheaaSx13d
import Derived.Orders
set_option linter.unusedVariables false
set_option linter.unusedSimpArgs false
section
namespace Go.Sx
open Go
variable {P:Program} {main:Bool} {F:Nat→Prop}
theorem SlotsOK.same {ε:Env} {σ σ':List SV} {a:Act} (h:SlotsOK ε σ a) (hl:σ'.length=σ.length) (hg:∀ k,σ'.getD k .junk=σ.getD k .junk):SlotsOK ε σ' a:=
 ⟨by rw [hl];exact h.1,fun k=>by rw [hg k];exact h.2 k⟩
theorem ov_at_congr {S S':Nat→Bool} {V:Nat→SV} {ios:List IOp} {σ:List SV} {x:Nat} (hn:(dsts ios).Nodup) (h:∀ (j:Nat) (io:IOp),ios[j]? =some io→io.dst=some x→S j=S' j):
  (ov S V ios 0 σ).getD x .junk=(ov S' V ios 0 σ).getD x .junk:=by
 by_cases hx:x<σ.length
 ·by_cases he:∃ (j:Nat) (io:IOp),ios[j]? =some io∧io.dst=some x
  ·obtain ⟨j,io,h1,h2⟩:=he
   have uniq:∀ (j':Nat) (io':IOp),ios[j']? =some io'→io'.dst=some x→S j'=S' j':=h
   cases hs:S j with
   |true=>
    have hs':S' j=true:=by rw [← h j io h1 h2];exact hs
    rw [ov_some S V x ios 0 σ j io hn h1 h2 (by simpa using hs) hx,ov_some S' V x ios 0 σ j io hn h1 h2 (by simpa using hs') hx]
   |false=>
    have hone:∀ (j':Nat) (io':IOp),ios[j']? =some io'→io'.dst=some x→j'=j:=dst_uniq hn h1 h2
    have hs':S' j=false:=by rw [← h j io h1 h2];exact hs
    rw [ov_none S V x ios 0 σ (fun j' io' a b=>by rw [Nat.zero_add,hone j' io' a b];exact hs),ov_none S' V x ios 0 σ (fun j' io' a b=>by rw [Nat.zero_add,hone j' io' a b];exact hs')]
  ·rw [ov_none S V x ios 0 σ (fun j' io' a b=>absurd ⟨j',io',a,b⟩ he),ov_none S' V x ios 0 σ (fun j' io' a b=>absurd ⟨j',io',a,b⟩ he)]
 ·have e1:(ov S V ios 0 σ).getD x .junk= .junk:=by simp [List.getD,ov_len,hx]
  have e2:(ov S' V ios 0 σ).getD x .junk= .junk:=by simp [List.getD,ov_len,hx]
  rw [e1,e2]
where
 dst_uniq {x:Nat}:∀ {ios:List IOp} {j:Nat} {io:IOp},(dsts ios).Nodup→ios[j]? =some io→io.dst=some x→∀ (j':Nat) (io':IOp),ios[j']? =some io'→io'.dst=some x→j'=j
  |[],_,_,_,h,_,_,_,_,_=>by simp at h
  |i0::r,j,io,hn,h,hd,j',io',h',hd'=>by
   have hn':(dsts r).Nodup:=by
    unfold dsts at hn ⊢
    rw [List.filterMap_cons] at hn
    split at hn
    ·exact hn
    ·exact (List.nodup_cons.1 hn).2
   have h0:i0.dst=some x→∀ (k:Nat) (io2:IOp),r[k]? =some io2→io2.dst=some x→False:=by
    intro e k io2 h1 h2
    simp only [dsts,List.filterMap_cons,e] at hn
    exact (List.nodup_cons.1 hn).1 (List.mem_filterMap.2 ⟨io2,List.mem_of_getElem? h1,h2⟩)
   cases j with
   |zero=>
    simp only [List.getElem?_cons_zero,Option.some.injEq] at h;subst h
    cases j' with
    |zero=>rfl
    |succ j'=>exact (h0 hd j' io' (by simpa using h') hd').elim
   |succ j=>
    cases j' with
    |zero=>
     simp only [List.getElem?_cons_zero,Option.some.injEq] at h';subst h'
     exact (h0 hd' j io (by simpa using h) hd).elim
    |succ j'=>
     have:=dst_uniq hn' (by simpa using h) hd j' io' (by simpa using h') hd'
     omega
theorem mapM_at.{u1,u2} {α:Type u1} {β:Type u2} {f:α→Option β}:∀ {l:List α} {l':List β},l.mapM f=some l'→∀ i:Nat,(l[i]?).bind f=l'[i]? ∧(l[i]?.isSome=l'[i]?.isSome)
 |[],l',h,i=>by simp at h;subst h;simp
 |x::l,l',h,i=>by
  simp only [List.mapM_cons,bind,Option.pure_def] at h
  obtain ⟨y,hy,h⟩:=bind_some h
  obtain ⟨r,hr,h⟩:=bind_some h
  simp only [Option.some.injEq] at h;subst h
  cases i with
  |zero=>simp [hy]
  |succ i=>simpa using mapM_at hr i
theorem mapM_len.{u1,u2} {α:Type u1} {β:Type u2} {f:α→Option β}:∀ {l:List α} {l':List β},l.mapM f=some l'→l'.length=l.length
 |[],l',h=>by simp at h;subst h;simp
 |x::l,l',h=>by
  simp only [List.mapM_cons,bind,Option.pure_def] at h
  obtain ⟨y,hy,h⟩:=bind_some h
  obtain ⟨r,hr,h⟩:=bind_some h
  simp only [Option.some.injEq] at h;subst h
  simp [mapM_len hr]
theorem chk_ok {ops:List Oper} {ios:List IOp} (h:chk ops ios=true):
  (∀ (i:Nat) (o:Oper),ops[i]? =some o→∀ e∈o.after,Region.binds .any e=true→e.on<i)∧(dsts ios).Nodup∧
  (∀ (i j:Nat) (x y:IOp),ios[i]? =some x→ios[j]? =some y→j<i→conf y x=true→((pres ops []).getD i 0).testBit j=true∨slack ios y x j i=true):=by
 simp only [chk,Bool.and_eq_true,List.all_eq_true,decide_eq_true_eq,Bool.or_eq_true,Bool.not_eq_true',decide_eq_false_iff_not] at h
 obtain ⟨⟨h1,h2⟩,h3⟩:=h
 refine ⟨fun i o ho e he hb=> ?_,h2,fun i j x y hx hy hlt hc=> ?_⟩
 ·have hm:(o,i)∈ops.zipIdx:=by rw [List.mem_zipIdx_iff_getElem?];exact ho
  rcases h1 (o,i) hm e (by simpa using he) with h|h
  ·rw [hb] at h;cases h
  ·exact h
 ·have hm:(x,i)∈ios.zipIdx:=by rw [List.mem_zipIdx_iff_getElem?];exact hx
  have hm2:(y,j)∈ios.zipIdx:=by rw [List.mem_zipIdx_iff_getElem?];exact hy
  rcases h3 (x,i) hm (y,j) hm2 with ((h|h)|h)|h
  ·exact absurd hlt h
  ·rw [hc] at h;cases h
  ·exact .inl h
  ·exact .inr h
structure Plan (P:Program) (main:Bool) (F:Nat→Prop) (quiet:FuncId→Bool) (ops:Array Oper) (ios:List IOp) (σ:List SV) (V:Nat→SV) (M:Nat→List Res):Prop where
 len:ios.length=ops.size
 cmp:∀ (i:Nat) (o:Oper) (io:IOp),ops[i]? =some o→ios[i]? =some io→io.dst=o.dst∧compG ops o.guard=some io.guard∧∃ x0,comp1 P o.op=some x0∧io.op=quieted quiet x0
 step:∀ (i:Nat) (o:Oper) (io:IOp),ops[i]? =some o→ios[i]? =some io→TStep P main F o io (ov (fun j=>decide (j<i)) V ios 0 σ) (M i) (V i) (M (i+1))
 chk:chk ops.toList ios=true
 late:∀ j,j<ios.length→∀ c∈rivals ops.toList ios j,Late c (ov (fun k=>decide (k<j+1)) V ios 0 σ) (M (j+1))
variable {quiet:FuncId→Bool} {ops:Array Oper} {ios:List IOp} {σ:List SV} {V:Nat→SV} {M:Nat→List Res}
theorem Plan.top_M (pl:Plan P main F quiet ops ios σ V M):∀ i,i≤ios.length→M i=M (top ios (fun _=>true) i)
 |0,_=>rfl
 |i+1,h=>by
  simp only [top]
  split
  ·rfl
  ·rename_i he
   have hi:i<ios.length:=h
   have h1:ios[i]? =some ios[i]:=by simp [hi]
   have h2:ops[i]? =some (ops[i]'(by rw [← pl.len];exact hi)):=by simp
   rw [h1] at he
   have heff:ios[i].op.eff=false:=by simpa using he
   have:M (i+1)=M i:=by
    rcases pl.step i _ _ h2 h1 with ⟨_,_,_,h5⟩|⟨_,_,h5⟩
    ·exact h5 heff
    ·exact h5
   rw [this,pl.top_M i (Nat.le_of_succ_le h)]
theorem ready_lt {listed:Array Bool} {i:Nat} (h:i∈Region.ready .any ops listed):i<ops.size:=by
 obtain ⟨_,o,ho,_⟩:=mem_ready.1 h
 exact (Array.getElem?_eq_some_iff.1 ho).1
theorem conf0_symm (a b:IOp):conf0 a b=conf0 b a:=by
 unfold conf0
 rw [Bool.or_comm]
theorem conf_symm (a b:IOp):conf a b=conf b a:=by
 have tb:∀ p q r:Bool,(p||q||r)=(p||r||q):=by decide
 unfold conf
 rw [conf0_symm,tb,Bool.and_comm a.op.impure,Bool.and_comm a.op.eff]
theorem Plan.before (pl:Plan P main F quiet ops ios σ V M) {S:Nat→Bool} (hS:Closed ops.toList S) {i j:Nat} (hj:j<ops.size) (hs:S j=true) (hb:((pres ops.toList []).getD j 0).testBit i=true):S i=true:=by
 have hoj:ops.toList[j]? =some ops[j]:=by simp [hj]
 exact pres_ok hS ops.toList [] (fun k=>by simp) (fun k o' _ hk=>absurd hk (Nat.not_lt_zero _)) j _ hoj (by simpa using hj) (fun e he hb=>hS j _ hoj hs e he hb) i hb
theorem Plan.agree (pl:Plan P main F quiet ops ios σ V M) {S:Nat→Bool} (hS:Closed ops.toList S) {i:Nat} {o:Oper} {io:IOp} (ho:ops[i]? =some o) (hio:ios[i]? =some io)
  (hi:S i=false) (hr:∀ e∈o.after,Region.binds .any e=true→S e.on=true):
  (∀ (j:Nat) (y:IOp),ios[j]? =some y→conf y io=true→j≠i→(j<i→slack ios y io j i=false)→(i<j→slack ios io y i j=false)→S j=decide (j<i)):=by
 obtain ⟨c1,c2,c3⟩:=chk_ok pl.chk
 have hob:∀ (k:Nat) (o:Oper),ops.toList[k]? =some o→k< ([]:List Nat).length+ops.toList.length:=fun k o h=>by
  have:=(List.getElem?_eq_some_iff.1 h).1;simpa using this
 intro j y hy hc1 hji hsl1 hsl2
 have ho':ops.toList[i]? =some o:=by simpa using ho
 rcases Nat.lt_or_ge j i with hlt|hge
 ·rw [decide_eq_true hlt]
  rcases c3 i j io y hio hy hlt hc1 with hb|hb
  ·exact pres_ok hS ops.toList [] (fun k=>by simp) (fun k o' _ hk=>absurd hk (Nat.not_lt_zero _)) i o ho' (hob i o ho') hr j hb
  ·rw [hsl1 hlt] at hb;cases hb
 ·have hgt:i<j:=by omega
  rw [decide_eq_false (by omega)]
  have hc2:conf io y=true:=by rw [conf_symm];exact hc1
  rcases c3 j i y io hy hio hgt hc2 with hb|hb
  ·cases hs:S j with
   |false=>rfl
   |true=>
    exfalso
    have hj:j<ops.size:=by rw [← pl.len];exact (List.getElem?_eq_some_iff.1 hy).1
    have:=pl.before hS hj hs hb
    rw [hi] at this;cases this
  ·rw [hsl2 hgt] at hb;cases hb
theorem conf0_dst {y io:IOp} {x:Nat} (hy:y.dst=some x) (hx:x∈io.sl):conf0 y io=true:=by
 simp [conf0,hy,hx]
theorem slack_conf0 {y x:IOp} {i j:Nat} (h:conf0 y x=true):slack ios y x i j=false:=by simp [slack,h]
theorem slack_eff {y x:IOp} {i j:Nat} (h:y.op.eff=true):slack ios y x i j=false:=by
 have:ldOf y=none:=by
  unfold ldOf
  split
  ·rename_i e _;rw [e] at h;cases h
  ·rename_i e _;rw [e] at h;cases h
  ·rfl
 simp [slack,this]
theorem slack_ld {y x:IOp} {i j:Nat} (h:ldOf y=none):slack ios y x i j=false:=by simp [slack,h]
theorem top_spec {ios:List IOp} {S:Nat→Bool}:∀ n,top ios S n=0∨∃ k,k<n∧top ios S n=k+1∧(ios[k]?.map (·.op.eff)).getD false=true∧S k=true
 |0=> .inl rfl
 |n+1=>by
  simp only [top]
  split
  ·rename_i h
   simp only [Bool.and_eq_true] at h
   exact .inr ⟨n,Nat.lt_succ_self _,rfl,h.1,h.2⟩
  ·rcases top_spec (ios:=ios) (S:=S) n with h|⟨k,h1,h2⟩
   ·exact .inl h
   ·exact .inr ⟨k,Nat.lt_succ_of_lt h1,h2⟩
theorem top_ge {ios:List IOp} {S:Nat→Bool} {k:Nat} (he:(ios[k]?.map (·.op.eff)).getD false=true) (hs:S k=true):∀ n,k<n→k+1≤top ios S n
 |0,h=>by omega
 |n+1,h=>by
  simp only [top]
  split
  ·omega
  ·rename_i hc
   by_cases e:k=n
   ·subst e;rw [he,hs] at hc;exact absurd rfl hc
   ·exact top_ge he hs n (by omega)
theorem peek_and {m:List Res} {n:Nat} {ag:Bool} {a:SV} {B:Prop} (hB:B) {v:SV} (h:peek m n ag (fun sv=>sv=a) v):peek m n ag (fun sv=>sv=a∧B) v:=by
 cases v<;>simp only [peek] at h ⊢ <;>first
  |exact h.elim
  |exact ⟨h.1,h.2,hB⟩
  |(split at h<;>first|exact h.elim|exact ⟨h.1,h.2,hB⟩)
theorem clear_ok {ios:List IOp} {sl:List Nat} {i j:Nat} (hij:i≤j) (h:clear ios sl i j=true) {k:Nat} {y:IOp} {x:Nat} (hy:ios[k]? =some y) (hd:y.dst=some x) (hx:x∈sl):decide (k<i)=decide (k<j+1):=by
 simp only [clear,List.all_eq_true] at h
 have:=h (y,k) (by rw [List.mem_zipIdx_iff_getElem?];exact hy)
 simp only [hd,Bool.or_eq_true,Bool.not_eq_true',Bool.and_eq_false_iff,decide_eq_false_iff_not] at this
 rcases this with h|h
 ·rw [decide_eq_decide];omega
 ·rw [List.contains_eq_mem,decide_eq_false_iff_not] at h
  exact absurd hx h
def upd (S:Nat→Bool) (i:Nat):Nat→Bool:=fun j=>S j||decide (j=i)
theorem Closed.upd {L:List Oper} {S:Nat→Bool} (hS:Closed L S) {i:Nat} {o:Oper} (ho:L[i]? =some o) (hr:∀ e∈o.after,Region.binds .any e=true→S e.on=true):Closed L (upd S i):=by
 intro j o' ho' hj e he hb
 simp only [Sx.upd,Bool.or_eq_true,decide_eq_true_eq] at hj ⊢
 rcases hj with hj|rfl
 ·exact .inl (hS j o' ho' hj e he hb)
 ·rw [ho] at ho';cases ho'
  exact .inl (hr e he hb)
theorem SlotsOK.mask {ε:Env} {σ σ1:List SV} {a:Act} {ss:List Nat} (h:SlotsOK ε σ a) (hl:σ1.length=σ.length) (hg:∀ k∈ss,σ.getD k .junk=σ1.getD k .junk):SlotsOK ε (maskS ss σ1) a:=by
 refine ⟨by rw [maskS_len,hl];exact h.1,fun k=> ?_⟩
 rw [maskS_at]
 split
 ·rename_i hk
  rw [← hg k hk];exact h.2 k
 ·trivial
theorem Plan.step_ok {Γ:Hook} (hΓ:HookOK P main F Γ) (pl:Plan P main F quiet ops ios σ V M) {S:Nat→Bool} (hS:Closed ops.toList S) {i:Nat} {o:Oper} (ho:ops[i]? =some o) (hi:S i=false)
  (hr:∀ e∈o.after,Region.binds .any e=true→S e.on=true) {ρ:Root} {fn:FuncId} {ε:Env} {a:Act} {w:OW}
  (hI:InvO F ρ ε (M (top ios S ios.length)) w) (hs:SlotsOK ε (ov S V ios 0 σ) a):
  wqOp P main F fn ops i (fun a' w'=> ∃ ε',InvO F ρ ε' (M (top ios (upd S i) ios.length)) w'∧SlotsOK ε' (ov (upd S i) V ios 0 σ) a'∧∃ v,a'=a.put o.dst v) a w:=by
 have hlt:i<ios.length:=by rw [pl.len];exact (Array.getElem?_eq_some_iff.1 ho).1
 have hio:ios[i]? =some ios[i]:=by simp [hlt]
 generalize ios[i]=io at hio
 obtain ⟨c1,c2,c3⟩:=chk_ok pl.chk
 have hag:=pl.agree hS ho hio hi hr
 obtain ⟨hd,hg,hx0⟩:=pl.cmp i o io ho hio
 have hops:∀ x∈io.sl,(ov S V ios 0 σ).getD x .junk=(ov (fun j=>decide (j<i)) V ios 0 σ).getD x .junk:=by
  intro x hx
  refine ov_at_congr c2 fun j y hy hdy=> ?_
  by_cases hji:j=i
  ·subst hji;rw [hi];simp
  ·have h0:=conf0_dst hdy hx
   exact hag j y hy (by simp [conf,h0]) hji (fun _=>slack_conf0 h0) (fun _=>slack_conf0 (by rw [conf0_symm];exact h0))
 have hlow:io.op.impure=true→top ios S i=top ios (fun _=>true) i:=by
  intro him
  refine top_congr _ fun k hk he=> ?_
  have hk':ios[k]? =some (ios[k]'(by omega)):=by simp [show k<ios.length by omega]
  rw [hk'] at he
  have he:(ios[k]'(by omega)).op.eff=true:=by simpa using he
  rw [hag k _ hk' (by simp [conf,he,him]) (by omega) (fun _=>slack_eff he) (fun h=>by omega),decide_eq_true hk]
 have hmem:io.op.impure=true→(∀ k,i≤k→k<ios.length→(ios[k]?.map (·.op.eff)).getD false=true→S k=false)→M (top ios S ios.length)=M i:=by
  intro him hno
  rw [pl.top_M i (Nat.le_of_lt hlt),top_cut _ (Nat.le_of_lt hlt) hno,hlow him]
 have hnone:io.op.impure=true→ldOf io=none→∀ k,i≤k→k<ios.length→(ios[k]?.map (·.op.eff)).getD false=true→S k=false:=by
  intro him hld k hk1 hk2 he
  have hk:ios[k]? =some ios[k]:=by simp [hk2]
  rw [hk] at he
  have he:ios[k].op.eff=true:=by simpa using he
  by_cases hki:k=i
  ·subst hki;exact hi
  ·rw [hag k _ hk (by simp [conf,he,him]) hki (fun h=>by omega) (fun _=>slack_ld hld),decide_eq_false (by omega)]
 have hupd:∀ j,j≠i→S j=upd S i j:=fun j h=>by simp [Sx.upd,h]
 have hupi:upd S i i=true:=by simp [Sx.upd]
 have htopn:io.op.eff=false→top ios (upd S i) ios.length=top ios S ios.length:=by
  intro he
  refine top_congr _ fun k hk hek=> ?_
  by_cases hki:k=i
  ·subst hki;rw [hio] at hek;simp [he] at hek
  ·exact (hupd k hki).symm
 have htope:io.op.eff=true→top ios (upd S i) ios.length=i+1:=by
  intro he
  have him:io.op.impure=true:=by
   cases hx:io.op with
   |p x=>rw [hx] at he;cases he
   |e x=>rw [hx] at he;cases x<;>first|rfl|cases he
  have e1:top ios (upd S i) ios.length=top ios (upd S i) (i+1):=by
   refine top_cut _ hlt fun k hk1 hk2 hek=> ?_
   have hk:ios[k]? =some ios[k]:=by simp [hk2]
   rw [hk] at hek
   have hek:ios[k].op.eff=true:=by simpa using hek
   rw [← hupd k (by omega),hag k _ hk (by simp [conf,hek,him]) (by omega) (fun h=>by omega) (fun _=>slack_eff he),decide_eq_false (by omega)]
  rw [e1]
  simp only [top]
  rw [hio,hupi]
  simp [he]
 have hput:∀ {ε':Env} {v:Value},SlotsOK ε' (ov S V ios 0 σ) a→SatV ε' (V i) v→SlotsOK ε' (ov (upd S i) V ios 0 σ) (a.put o.dst v):=by
  intro ε' v h1 h2
  refine SlotsOK.same (h1.put h2 o.dst) (by rw [putS_len,ov_len,ov_len]) fun k=> ?_
  rw [putS_at]
  by_cases hk:o.dst=some k
  ·by_cases hkl:k< (ov S V ios 0 σ).length
   ·rw [if_pos ⟨hk,hkl⟩]
    have:=ov_some (upd S i) V k ios 0 σ i io c2 hio (by rw [hd];exact hk) (by rw [Nat.zero_add];exact hupi) (by rw [ov_len] at hkl;exact hkl)
    rwa [Nat.zero_add] at this
   ·rw [if_neg (fun h=>hkl h.2)]
    rw [ov_len] at hkl
    simp [List.getD,ov_len,hkl]
  ·rw [if_neg (fun h=>hk h.1)]
   refine ov_at_congr c2 fun j y hy hdy=> ?_
   have:j≠i:=by
    intro e;subst e
    rw [hio] at hy;cases hy
    rw [hd] at hdy;exact hk hdy
   exact (hupd j this).symm
 have hsm:SlotsOK ε (maskS io.sl (ov (fun j=>decide (j<i)) V ios 0 σ)) a:=hs.mask (by rw [ov_len,ov_len]) hops
 have hwant:∀ b,Wants io.guard (ov (fun j=>decide (j<i)) V ios 0 σ) b→Region.wanted o (yielded ops a.tmps)=b:=by
  intro b hb
  cases hgi:io.guard with
  |none=>
   rw [hgi] at hb hg
   have hgn:o.guard=none:=by
    cases hog:o.guard with
    |none=>rfl
    |some g=>rw [hog] at hg;simp only [compG] at hg;split at hg<;>cases hg
   rw [show b=true from hb]
   simp [Region.wanted,hgn]
  |some g=>
   obtain ⟨s,want⟩:=g
   rw [hgi] at hb hg
   have hsl:s∈io.sl:=by simp [IOp.sl,hgi]
   rcases hb with ⟨t,e1,e2⟩|⟨e1,rfl⟩
   ·rw [← hops s hsl] at e1
    rw [wanted_ok hs hg e1];exact e2
   ·rw [← hops s hsl] at e1
    exact wanted_undef hs hg e1
 unfold wqOp
 rw [ho]
 simp only
 rcases pl.step i o io ho hio with ⟨hw,h1,h2,h3⟩|⟨hw,h1,h2⟩
 ·rw [if_pos (hwant _ hw)]
  cases him:io.op.impure with
  |false=>
   have heff:io.op.eff=false:=by
    cases hx:io.op with
    |p x=>rfl
    |e x=>rw [hx] at him;cases x<;>first|rfl|cases him
   refine OpQ.mono ?_ (h1 him _ ρ ε a w fn hI hsm)
   rintro a' w' ⟨v,ε',rfl,hv,hle,hI'⟩
   exact ⟨ε',by rw [htopn heff];exact hI',hput (hs.mono hle) hv,v,rfl⟩
  |true=>
   have hstep:∃ m',EStepC P main F o (maskS io.sl (ov (fun j=>decide (j<i)) V ios 0 σ)) (M (top ios S ios.length)) (V i) m'∧(io.op.eff=true→m'=M (i+1))∧(io.op.eff=false→m'=M (top ios S ios.length)):=by
    by_cases hno:∀ k,i≤k→k<ios.length→(ios[k]?.map (·.op.eff)).getD false=true→S k=false
    ·rw [hmem him hno]
     exact ⟨_,h2,fun _=>rfl,fun he=>h3 he⟩
    ·have hld:ldOf io≠none:=fun e=>hno (hnone him e)
     obtain ⟨d,op',hdst,hldc,hcase⟩:∃ d op',io.dst=some d∧ldOf io=some ⟨none,io.guard,op'⟩∧((∃ n ag x,io.op= .e (.load n ag x)∧op'= .e (.again n ag x d))∨∃ k ys,io.op= .e (.mop k ys)∧k.eff=false∧op'= .e (.magain k ys d)):=by
      unfold ldOf at hld ⊢
      split at hld
      ·rename_i n ag x d e1 e2;exact ⟨d,_,e2,rfl, .inl ⟨n,ag,x,e1,rfl⟩⟩
      ·rename_i ek ev z ok ys d e1 e2;exact ⟨d,_,e2,rfl, .inr ⟨_,ys,e1,rfl,rfl⟩⟩
      ·exact absurd rfl hld
     have heff:io.op.eff=false:=by
      rcases hcase with ⟨_,_,_,h,_⟩|⟨k,_,h,he,_⟩
      ·rw [h];rfl
      ·rw [h];exact he
     simp only [Classical.not_forall] at hno
     obtain ⟨k0,hk0,hk0l,hk0e,hk0s⟩:=hno
     simp only [Bool.not_eq_false] at hk0s
     have hge:=top_ge (S:=S) hk0e hk0s ios.length hk0l
     rcases top_spec (ios:=ios) (S:=S) ios.length with ht|⟨k,hkl,ht,hke,hks⟩
     ·omega
     have hik:i<k:=by
      have:i≠k:=fun e=>by subst e;rw [hi] at hks;cases hks
      omega
     have hk:ios[k]? =some ios[k]:=by simp [hkl]
     have hke':ios[k].op.eff=true:=by rw [hk] at hke;simpa using hke
     have hnb:((pres ops.toList []).getD k 0).testBit i=false:=by
      cases hb:((pres ops.toList []).getD k 0).testBit i with
      |false=>rfl
      |true=>
       have:=pl.before hS (by rw [← pl.len];exact hkl) hks hb
       rw [hi] at this;cases this
     have hriv:(⟨none,io.guard,op'⟩:IOp)∈rivals ops.toList ios k:=by
      unfold rivals
      rw [if_pos hke]
      refine List.mem_filterMap.2 ⟨(io,i),by rw [List.mem_zipIdx_iff_getElem?];exact hio,?_⟩
      simp only [hik,decide_true,hnb,Bool.not_false,Bool.and_self,if_true]
      exact hldc
     have hclear:clear ios io.sl i k=true:=by
      have hcf:conf io ios[k]=true:=by simp [conf,hke',him]
      rcases c3 k i ios[k] io hk hio hik hcf with h|h
      ·rw [hnb] at h;cases h
      ·simp only [slack,Bool.and_eq_true] at h;exact h.2
     have hagr:∀ s∈io.sl,(ov (fun j=>decide (j<k+1)) V ios 0 σ).getD s .junk=(ov (fun j=>decide (j<i)) V ios 0 σ).getD s .junk:=by
      intro s hs'
      exact (ov_at_congr c2 fun j y hy hdy=>clear_ok (Nat.le_of_lt hik) hclear hy hdy hs').symm
     have hwk:Wants io.guard (ov (fun j=>decide (j<k+1)) V ios 0 σ) true:=by
      cases hgi:io.guard with
      |none=>rfl
      |some g=>
       obtain ⟨s,want⟩:=g
       rw [hgi] at hw
       have hsl:s∈io.sl:=by simp [IOp.sl,hgi]
       rcases hw with ⟨t,e1,e2⟩|⟨e1,e2⟩
       ·exact .inl ⟨t,by rw [hagr s hsl];exact e1,e2⟩
       ·exact .inr ⟨by rw [hagr s hsl];exact e1,e2⟩
     obtain ⟨x0,hx1,hx2⟩:=hx0
     have hvi:(ov (fun j=>decide (j<k+1)) V ios 0 σ).getD d .junk≠ .junk→(ov (fun j=>decide (j<k+1)) V ios 0 σ).getD d .junk=V i:=by
      intro l1
      have hdl:d<σ.length:=by
       refine Nat.lt_of_not_le fun hle=> ?_
       have:(ov (fun j=>decide (j<k+1)) V ios 0 σ).getD d .junk= .junk:=by simp [List.getD,ov_len,hle]
       exact l1 this
      have:=ov_some (fun j=>decide (j<k+1)) V d ios 0 σ i io c2 hio hdst (by simp;omega) hdl
      rwa [Nat.zero_add] at this
     have hxe:∀ x:Opd,(∀ s∈x.sl,s∈io.sl)→x.ev (maskS io.sl (ov (fun j=>decide (j<i)) V ios 0 σ))=x.ev (ov (fun j=>decide (j<k+1)) V ios 0 σ):=by
      intro x hsub
      cases x with
      |t q=>
       have hq:q∈io.sl:=hsub q (by simp [Opd.sl])
       simp only [Opd.ev,maskS_at,if_pos hq]
       exact (hagr q hq).symm
      |c v=>rfl
     have hdk:dopK Γ (maskS io.sl (ov (fun j=>decide (j<i)) V ios 0 σ)) (M (k+1)) (fun sv m'=>sv=V i∧m'=M (k+1)) (quieted quiet x0):=by
      rcases hcase with ⟨n,ag,x,hop,rfl⟩|⟨kk,ys,hop,_,rfl⟩
      ·obtain ⟨l1,l2⟩:=(pl.late k hkl _ hriv).1 n ag x d rfl hwk
       rw [hvi (fun e=>by rw [e] at l1;cases l1)] at l2
       rw [← hx2,hop]
       simp only [dopK,eopK,hxe x (fun s hs'=>by simp only [IOp.sl,hop,List.mem_append];exact .inr hs')]
       exact peek_and (B:=True) trivial l2
      ·obtain ⟨l1,l0,l2⟩:=(pl.late k hkl _ hriv).2 kk ys d rfl hwk
       rw [hvi (fun e=>by rw [e] at l1;cases l1)] at l2
       have hys:ys.map (·.ev (maskS io.sl (ov (fun j=>decide (j<i)) V ios 0 σ)))=ys.map (·.ev (ov (fun j=>decide (j<k+1)) V ios 0 σ)):=by
        refine List.map_congr_left fun y hy=>hxe y fun s hs'=> ?_
        simp only [IOp.sl,hop,List.mem_append]
        exact .inr (List.mem_flatMap.2 ⟨y,hy,hs'⟩)
       rw [← hx2,hop]
       simp only [dopK,eopK,hys]
       exact ⟨l0,l2⟩
     obtain ⟨sv,m',⟨rfl,rfl⟩,hF⟩:=dopK_sound hΓ hx1 hdk
     rw [ht]
     exact ⟨_,hF.2.1,⟨fun he=>(by rw [heff] at he;cases he),fun _=>rfl⟩⟩
   obtain ⟨m',hst,he1,he2⟩:=hstep
   refine OpQ.mono ?_ (hst ρ ε a w fn hI hsm)
   rintro a' w' ⟨v,ε',rfl,hv,hle,hI'⟩
   refine ⟨ε',?_,hput (hs.mono hle) hv,v,rfl⟩
   cases heff:io.op.eff with
   |true=>rw [htope heff,← he1 heff];exact hI'
   |false=>rw [htopn heff,← he2 heff];exact hI'
 ·rw [hwant _ hw]
  simp only [Bool.false_eq_true,if_false]
  refine ⟨ε,?_,hput hs (by rw [h1];exact sat_undef),_,rfl⟩
  cases heff:io.op.eff with
  |true=>
   have him:io.op.impure=true:=by
    cases hx:io.op with
    |p x=>rw [hx] at heff;cases heff
    |e x=>rw [hx] at heff;cases x<;>first|rfl|cases heff
   have hld:ldOf io=none:=by
    unfold ldOf
    split
    ·rename_i e _;rw [e] at heff;cases heff
    ·rename_i e _;rw [e] at heff;cases heff
    ·rfl
   rw [htope heff,h2,← hmem him (hnone him hld)];exact hI
  |false=>rw [htopn heff];exact hI
def lst (listed:Array Bool):Nat→Bool:=fun j=>listed.getD j false
theorem lst_set {listed:Array Bool} {i:Nat} (h:i<listed.size):lst (listed.setIfInBounds i true)=upd (lst listed) i:=by
 funext j
 simp only [lst,upd]
 by_cases hj:j=i
 ·subst hj;simp [Array.getD_eq_getD_getElem?,h]
 ·rw [Array.getD_eq_getD_getElem?,Array.getElem?_setIfInBounds,if_neg (Ne.symm hj),← Array.getD_eq_getD_getElem?];simp [hj]
theorem getD_tf {listed:Array Bool} {j:Nat} (h:j<listed.size):listed.getD j true=listed.getD j false:=by
 simp [Array.getD_eq_getD_getElem?,h]
theorem done_all {listed:Array Bool} (hsz:listed.size=ops.size) (hb:∀ (i:Nat) (o:Oper),ops.toList[i]? =some o→∀ e∈o.after,Region.binds .any e=true→e.on<i)
  (h:Region.ready .any ops listed=[]):∀ i,i<ops.size→lst listed i=true:=by
 intro i
 induction i using Nat.strongRecOn with
 |_ i ih=>
  intro hi
  cases hl:lst listed i with
  |true=>rfl
  |false=>
   exfalso
   have:i∈Region.ready .any ops listed:=by
    refine mem_ready.2 ⟨by rw [getD_tf (by omega)];exact hl,ops[i],by simp [hi],fun e he hbi=> ?_⟩
    have hlt:=hb i ops[i] (by simp [hi]) e he hbi
    exact ih e.on hlt (by omega)
   rw [h] at this;simp at this
theorem count_set {l:List Bool}:∀ {i:Nat},l[i]? =some false→(l.set i true).count false+1=l.count false:=by
 induction l with
 |nil=>intro i h;simp at h
 |cons b l ih=>
  intro i h
  cases i with
  |zero=>simp at h;subst h;simp
  |succ i=>
   have:=ih (i:=i) (by simpa using h)
   simp only [List.set_cons_succ,List.count_cons]
   omega
theorem Plan.any_ok {Γ:Hook} (hΓ:HookOK P main F Γ) (pl:Plan P main F quiet ops ios σ V M) {ρ:Root} {fn:FuncId} {d:List Deferred} {Q:Exit→Act→OW→Prop}
  (hQ:∀ ε a w,InvO F ρ ε (M ios.length) w→SlotsOK ε (ov (fun _=>true) V ios 0 σ) a→a.defers=d→Q .normal a w):
  ∀ (fuel:Nat) (listed:Array Bool) (a:Act) (w:OW),listed.size=ops.size→listed.toList.count false≤fuel→Closed ops.toList (lst listed)→
   (∃ ε,InvO F ρ ε (M (top ios (lst listed) ios.length)) w∧SlotsOK ε (ov (lst listed) V ios 0 σ) a∧a.defers=d)→wqAny P main F fn ops Q fuel listed a w:=by
 have fin:∀ (listed:Array Bool) (a:Act) (w:OW),listed.size=ops.size→Region.ready .any ops listed=[]→
   (∃ ε,InvO F ρ ε (M (top ios (lst listed) ios.length)) w∧SlotsOK ε (ov (lst listed) V ios 0 σ) a∧a.defers=d)→Q .normal a w:=by
  rintro listed a w hsz hr ⟨ε,h1,h2,h3⟩
  have hall:=done_all hsz (chk_ok pl.chk).1 hr
  have e1:top ios (lst listed) ios.length=top ios (fun _=>true) ios.length:=top_congr _ fun k hk _=>hall k (by rw [← pl.len];exact hk)
  have e2:ov (lst listed) V ios 0 σ=ov (fun _=>true) V ios 0 σ:=ov_congr ios 0 σ fun j hj=>by rw [Nat.zero_add];exact hall j (by rw [← pl.len];exact hj)
  rw [e1,← pl.top_M _ (Nat.le_refl _)] at h1
  rw [e2] at h2
  exact hQ ε a w h1 h2 h3
 intro fuel
 induction fuel with
 |zero=>
  intro listed a w hsz hc hcl hJ
  have hr:Region.ready .any ops listed=[]:=by
   cases hr:Region.ready .any ops listed with
   |nil=>rfl
   |cons j r=>
    exfalso
    have hj:j∈Region.ready .any ops listed:=by rw [hr];simp
    have hlt:=ready_lt hj
    have h0:=(mem_ready.1 hj).1
    rw [getD_tf (by omega)] at h0
    have:false∈listed.toList:=by
     have h1:listed.toList[j]? =some false:=by
      have:j<listed.size:=by omega
      simp only [Array.getD_eq_getD_getElem?] at h0
      simp [this] at h0 ⊢;exact h0
     exact List.mem_of_getElem? h1
    have:=List.count_pos_iff.2 this
    omega
  exact ⟨hr,fin listed a w hsz hr hJ⟩
 |succ fuel ih=>
  intro listed a w hsz hc hcl hJ
  refine ⟨fun hr=>fin listed a w hsz hr hJ,fun i hi=> ?_⟩
  obtain ⟨ε,h1,h2,h3⟩:=hJ
  have hlt:=ready_lt hi
  obtain ⟨h0,o,ho,hall⟩:=mem_ready.1 hi
  rw [getD_tf (by omega)] at h0
  refine wqOp_mono ?_ (Plan.step_ok hΓ pl hcl ho h0 hall h1 h2)
  rintro a' w' ⟨ε',k1,k2,v',rfl⟩
  have hl0:listed.toList[i]? =some false:=by
   have:i<listed.size:=by omega
   simp only [Array.getD_eq_getD_getElem?] at h0
   simp [this] at h0 ⊢;exact h0
  refine ih _ _ w' (by simpa using hsz) ?_ ?_ ?_
  ·have:=count_set hl0
   rw [Array.toList_setIfInBounds];omega
  ·rw [lst_set (by omega)]
   exact hcl.upd (by simpa using ho) hall
  ·rw [lst_set (by omega)]
   exact ⟨ε',k1,k2,by rw [put_defers];exact h3⟩
theorem rivals_again (ops:List Oper) (ios:List IOp) (k:Nat):∀ c∈rivals ops ios k,IsAgain c:=by
 intro c hc
 unfold rivals at hc
 split at hc
 ·obtain ⟨x,_,hx⟩:=List.mem_filterMap.1 hc
  split at hx
  ·unfold ldOf at hx
   split at hx
   ·cases hx;exact ⟨rfl, .inl ⟨_,_,_,_,rfl⟩⟩
   ·cases hx;exact ⟨rfl, .inr ⟨_,_,_,rfl⟩⟩
   ·cases hx
  ·cases hx
 ·cases hc
theorem dops_any {Γ:Hook} (hΓ:HookOK P main F Γ) {quiet:FuncId→Bool} {ops:Array Oper} {fn:FuncId} {Q:Exit→Act→OW→Prop} {ρ:Root} {d:List Deferred}
  {ios:List IOp} {σ:List SV} {m:List Res} {K:List SV→List Res→Prop} (hc:ops.toList.mapM (compD P quiet ops)=some ios) (hk:chk ops.toList ios=true) (h:dsops Γ (aug ops.toList ios) K σ m)
  (hQ:∀ σ' m' ε' a' w',K σ' m'→InvO F ρ ε' m' w'→SlotsOK ε' σ' a'→a'.defers=d→Q .normal a' w')
  {ε:Env} {a:Act} {w:OW} (hI:InvO F ρ ε m w) (hs:SlotsOK ε σ a) (hd:a.defers=d):wqAny P main F fn ops Q ops.size (Array.replicate ops.size false) a w:=by
 obtain ⟨ts,σe,me,hK,htr⟩:=tr_of hΓ (rs:=rivals ops.toList ios) (rivals_again _ _) ops.toList ios σ m K 0 hc h
 have hlen:ios.length=ops.size:=by rw [mapM_len hc];simp
 obtain ⟨V,hV⟩:∃ V:Nat→SV,∀ k,V k=(ts[k]?.map Prod.fst).getD SV.junk:=⟨_,fun _=>rfl⟩
 obtain ⟨M,hM0,hM⟩:∃ M:Nat→List Res,M 0=m∧∀ k,M (k+1)=(ts[k]?.map Prod.snd).getD m:=⟨fun k=>Nat.casesOn k m fun k=>(ts[k]?.map Prod.snd).getD m,rfl,fun _=>rfl⟩
 obtain ⟨t1,t2,t3⟩:=tr_at (V:=V) (M:=M) (ops.toList.zip ios) 0 σ m ts σe me htr hM0 (fun j t ht=>by rw [Nat.zero_add,hV,hM];simp [ht])
 have hzl:(ops.toList.zip ios).length=ios.length:=by simp [hlen]
 have hzm:(ops.toList.zip ios).map (·.2)=ios:=by
  rw [List.map_snd_zip];simp [hlen]
 rw [hzm] at t1 t2
 have pl:Plan P main F quiet ops ios σ V M:=by
  refine ⟨hlen,fun i o io ho hio=> ?_,fun i o io ho hio=> ?_,hk,fun j hj c hc'=> ?_⟩
  ·have:=(mapM_at hc i).1
   have ho':ops.toList[i]? =some o:=by simpa using ho
   rw [ho',hio] at this
   simp only [Option.bind_some,compD,Option.map_eq_some_iff] at this
   obtain ⟨io0,h0,rfl⟩:=this
   simp only [compOp] at h0
   split at h0<;>try (cases h0;done)
   rename_i g x hg hx
   simp only [Option.some.injEq] at h0;subst h0
   exact ⟨rfl,hg,x,hx,rfl⟩
  ·have:=t1 i o io (by
    have ho':ops.toList[i]? =some o:=by simpa using ho
    rw [List.getElem?_zip_eq_some];exact ⟨ho',hio⟩)
   rw [Nat.zero_add] at this
   exact this.1
  ·have ho':ops.toList[j]? =some (ops[j]'(by rw [← hlen];exact hj)):=by simp
   have hio:ios[j]? =some ios[j]:=by simp [hj]
   have:=(t1 j _ _ (by rw [List.getElem?_zip_eq_some];exact ⟨ho',hio⟩)).2
   rw [Nat.zero_add] at this
   exact this c hc'
 refine Plan.any_ok hΓ pl (ρ:=ρ) (d:=d) (fun ε' a' w' k1 k2 k3=> ?_) ops.size _ a _ (by simp) ?_ ?_ ?_
 ·rw [hzl,Nat.zero_add] at t3
  exact hQ _ _ ε' a' w' hK (by rw [t3];exact k1) (by rw [t2];exact k2) k3
 ·simp
 ·intro i o _ hi
  simp [lst,Array.getD_eq_getD_getElem?,Array.getElem?_replicate] at hi
  split at hi<;>cases hi
 ·have hno:∀ j,lst (Array.replicate ops.size false) j=false:=by
   intro j
   simp only [lst,Array.getD_eq_getD_getElem?,Array.getElem?_replicate]
   split<;>rfl
  have e1:top ios (lst (Array.replicate ops.size false)) ios.length=0:=by
   rw [top_cut (i:=0) _ (Nat.zero_le _) (fun k _ _ _=>hno k)];rfl
  rw [e1,ov_none_all _ _ _ (fun j _=>hno _),hM0]
  exact ⟨ε,hI,hs,hd⟩
theorem dops_sound {Γ:Hook} (hΓ:HookOK P main F Γ) (hmx:P.follows .mixedOrders=true) {quiet:FuncId→Bool} {id:Nat} {ops:Array Oper} {fn:FuncId} {Q:Exit→Act→OW→Prop} {ρ:Root} {d:List Deferred}
  {ios:List IOp} {σ:List SV} {m:List Res} {K:List SV→List Res→Prop} (hc:ops.toList.mapM (compD P quiet ops)=some ios) (hk:chk ops.toList ios=true) (h:dsops Γ (aug ops.toList ios) K σ m)
  (hQ:∀ σ' m' ε' a' w',K σ' m'→InvO F ρ ε' m' w'→SlotsOK ε' σ' a'→a'.defers=d→Q .normal a' w')
  {ε:Env} {a:Act} {w:OW} (hI:InvO F ρ ε m w) (hs:SlotsOK ε σ a) (hd:a.defers=d):CodeQ P main F fn (.region id ops true) Q a w:=
 wq_region_any hmx fun w1 h1=>dops_any hΓ hc hk h hQ (hI.rely h1).drew hs hd
end Go.Sx
end
section
namespace Go.Sx
open Go
variable {P:Program}
def renI (r:Nat→Option Nat) (i:Nat) (f:Nat→SV):SV:=match r i with
 |some j=>f j
 |none=> .junk
mutual
def ren (r:Nat→Option Nat):SV→SV
 | .vec j n=>renI r j fun k=> .vec k n
 | .pvec j n=>renI r j fun k=> .pvec k n
 | .vptr j a p o=>renI r j fun k=> .vptr k a p o
 | .ptr j p o=>renI r j fun k=> .ptr k p o
 | .map j=>renI r j .map
 | .arr n w f=> .arr n w fun k=>ren r (f k)
 | .agg l=> .agg (renL r l)
 | .tup l=> .tup (renL r l)
 | .fn f l=> .fn f (renL r l)
 | .iface t x=> .iface t (ren r x)
 |c=>c
def renL (r:Nat→Option Nat):List SV→List SV
 |[]=>[]
 |x::l=>ren r x::renL r l
end
def renR (r:Nat→Option Nat):Res→Res
 | .dead=> .dead
 | .blk T c=> .blk T (ren r c)
 | .vec T w l=> .vec T w (renL r l)
 | .mp ek ev l=> .mp ek ev l
structure RenOK (r:Nat→Option Nat) (ε ε':Env):Prop where
 ids:∀ i,i<ε.n→∀ j,r i=some j→j<ε'.n∧ε'.blk j=ε.blk i∧ε'.vv j=ε.vv i
 H:∀ b o,ε.H b=some o→ε'.H b=some o
theorem RenOK.cl {r:Nat→Option Nat} {ε ε':Env} (h:RenOK r ε ε'):ε.cl.Le ε'.cl:=⟨Nat.le_refl _,fun _ hi=>absurd hi (Nat.not_lt_zero _),fun _ hi=>absurd hi (Nat.not_lt_zero _),h.H⟩
theorem renL_length (r:Nat→Option Nat):∀ l:List SV,(renL r l).length=l.length
 |[]=>rfl
 |_::l=>by simp [renL,renL_length r l]
theorem renL_getD (r:Nat→Option Nat):∀ (l:List SV) (j:Nat),(renL r l).getD j .junk=ren r (l.getD j .junk)
 |[],j=>by simp [renL,ren]
 |x::l,0=>by simp [renL]
 |x::l,j+1=>by simp only [renL,List.getD_cons_succ];exact renL_getD r l j
theorem ren_isAgg (r:Nat→Option Nat) (c:SV):(ren r c).isAgg=c.isAgg:=by
 cases c<;>simp only [ren,renI]<;>first|rfl|(split<;>rfl)
theorem junkOf {c:SV} {ε ε':Env} {cs:List Value} (h:SatC c ε cs) (hc:wd c=1):SatC .junk ε' cs:=by
 have h1:=SatC.length c h
 rw [hc] at h1
 match cs,h1 with
 |[v],_=>simp only [SatC];exact ⟨v,SatC.one c h v (by simp),rfl⟩
mutual
theorem SatC.ren (r:Nat→Option Nat):∀ (c:SV) {ε ε':Env} {cs:List Value},RenOK r ε ε'→SatC c ε cs→SatC (ren r c) ε' cs
 | .int ..,_,_,_,_,h=>h
 | .bool ..,_,_,_,_,h=>h
 | .str ..,_,_,_,_,h=>h
 | .arr n w f,_,_,_,hl,h=>by
  simp only [Sx.ren,SatC] at h ⊢
  exact ⟨h.1,fun j hj=>SatC.ren r (f j) hl (h.2 j hj)⟩
 | .agg l,_,_,_,hl,h=>by simp only [Sx.ren,SatC] at h ⊢;exact SatL.ren r l hl h
 | .tup _,_,_,_,_,h=>by simp only [SatC] at h
 | .lst w d f l,_,_,_,hl,h=>by
  simp only [Sx.ren,SatC] at h ⊢
  obtain ⟨ao,cap,h1,h2,h3,h4,h5⟩:=h
  refine ⟨ao,cap,h1,h2,h3,h4,fun i hi=> ?_⟩
  obtain ⟨b,off,T,fz,cur,e1,e2,e3,e4⟩:=h5 i hi
  exact ⟨b,off,T,fz,cur,e1,hl.H _ _ e2,e3,SatC.mono (f (l.getD i d)) hl.cl e4⟩
 | .lit w d f l,_,_,_,hl,h=>by
  simp only [Sx.ren,SatC] at h ⊢
  obtain ⟨ao,h1,h3,h4,h5⟩:=h
  refine ⟨ao,h1,h3,h4,fun i hi=> ?_⟩
  obtain ⟨b,off,T,fz,cur,e1,e2,e3,e4⟩:=h5 i hi
  exact ⟨b,off,T,fz,cur,e1,hl.H _ _ e2,e3,SatC.mono (f (l.getD i d)) hl.cl e4⟩
 | .eptr w d f l i p o,_,_,_,hl,h=>by
  simp only [Sx.ren,SatC] at h ⊢
  obtain ⟨b,off,T,fz,cur,h1,h2,h3,h4,h5,h6⟩:=h
  exact ⟨b,off,T,fz,cur,h1,h2,hl.H _ _ h3,h4,h5,SatC.mono (f (l.getD i d)) hl.cl h6⟩
 | .ref c p o,_,_,_,hl,h=>by
  simp only [Sx.ren,SatC] at h ⊢
  obtain ⟨b,T,fz,cur,h1,h2,h3,h4⟩:=h
  exact ⟨b,T,fz,cur,h1,hl.H _ _ h2,h3,SatC.mono c hl.cl h4⟩
 | .ptr j p o,_,_,_,hl,h=>by
  simp only [Sx.ren,renI]
  split
  ·rename_i k hk
   simp only [SatC] at h ⊢
   obtain ⟨i1,i2,i3⟩:=hl.ids j h.1 k hk
   exact ⟨i1,h.2.1,by rw [i2];exact h.2.2⟩
  ·exact junkOf h rfl
 | .vec j n,_,_,_,hl,h=>by
  simp only [Sx.ren,renI]
  split
  ·rename_i k hk
   simp only [SatC] at h ⊢
   obtain ⟨i1,i2,i3⟩:=hl.ids j h.1 k hk
   exact ⟨i1,by rw [i3];exact h.2⟩
  ·exact junkOf h rfl
 | .pvec j n,_,_,_,hl,h=>by
  simp only [Sx.ren,renI]
  split
  ·rename_i k hk
   simp only [SatC] at h ⊢
   obtain ⟨i1,i2,i3⟩:=hl.ids j h.1 k hk
   exact ⟨i1,by rw [i3];exact h.2⟩
  ·exact junkOf h rfl
 | .vptr j a p o,_,_,_,hl,h=>by
  simp only [Sx.ren,renI]
  split
  ·rename_i k hk
   simp only [SatC] at h ⊢
   obtain ⟨i1,i2,i3⟩:=hl.ids j h.1 k hk
   exact ⟨i1,h.2.1,by rw [i3];exact h.2.2⟩
  ·exact junkOf h rfl
 | .map j,_,_,_,hl,h=>by
  simp only [Sx.ren,renI]
  split
  ·rename_i k hk
   simp only [SatC] at h ⊢
   obtain ⟨i1,i2,i3⟩:=hl.ids j h.1 k hk
   exact ⟨i1,by rw [i2];exact h.2⟩
  ·exact junkOf h rfl
 | .fn f cap,_,_,_,hl,h=>by
  simp only [Sx.ren,SatC] at h ⊢
  obtain ⟨vs,h1,h2⟩:=h
  exact ⟨vs,SatA.ren r cap hl h1,h2⟩
 | .iface t x,_,_,_,hl,h=>by
  simp only [Sx.ren,SatC,ren_isAgg] at h ⊢
  obtain ⟨xs,h1,h2⟩:=h
  exact ⟨xs,SatC.ren r x hl h1,h2⟩
 | .nils,_,_,_,_,h=>h
 | .nili,_,_,_,_,h=>h
 | .nilf,_,_,_,_,h=>h
 | .nilp,_,_,_,_,h=>h
 | .nilm,_,_,_,_,h=>h
 | .anyb,_,_,_,_,h=>h
 | .raw _,_,_,_,_,h=>h
 | .junk,_,_,_,_,h=>h
theorem SatL.ren (r:Nat→Option Nat):∀ (l:List SV) {ε ε':Env} {cs:List Value},RenOK r ε ε'→SatL l ε cs→SatL (renL r l) ε' cs
 |[],_,_,_,_,h=>h
 |x::l,_,_,_,hl,h=>by
  simp only [renL,SatL] at h ⊢
  obtain ⟨a,b,h1,h2,h3⟩:=h
  exact ⟨a,b,h1,SatC.ren r x hl h2,SatL.ren r l hl h3⟩
theorem SatA.ren (r:Nat→Option Nat):∀ (l:List SV) {ε ε':Env} {vs:List Value},RenOK r ε ε'→SatA l ε vs→SatA (renL r l) ε' vs
 |[],_,_,_,_,h=>h
 |x::l,_,_,_,hl,h=>by
  simp only [renL,SatA,ren_isAgg] at h ⊢
  obtain ⟨cs,t,h1,h2,h3⟩:=h
  exact ⟨cs,t,h1,SatC.ren r x hl h2,SatA.ren r l hl h3⟩
end
theorem SatV.ren {r:Nat→Option Nat} {x:SV} {ε ε':Env} {v:Value} (hl:RenOK r ε ε') (h:SatV ε x v):SatV ε' (Sx.ren r x) v:=by
 by_cases hv:x.isVal=true
 ·obtain ⟨cs,h1,h2⟩:=sat_val h hv
  have h3:=satC_sat (SatC.ren r x hl h1)
  rw [ren_isAgg] at h3
  rw [h2];exact h3
 ·cases x<;>first
   |exact absurd rfl hv
   |(obtain ⟨vs,h1,h2⟩:=h;exact ⟨vs,SatA.ren r _ hl h1,h2⟩)
   |trivial
theorem SlotsOK.ren {r:Nat→Option Nat} {ε ε':Env} {σ:List SV} {a:Act} (hl:RenOK r ε ε') (h:SlotsOK ε σ a):SlotsOK ε' (renL r σ) a:=
 ⟨by rw [renL_length];exact h.1,fun k=>by rw [renL_getD];exact (h.2 k).ren hl⟩
theorem ResOK.ren {r:Nat→Option Nat} {ε ε':Env} {w:World} {i j:Nat} {x:Res} (hl:RenOK r ε ε') (hb:ε'.blk j=ε.blk i) (hv:ε'.vv j=ε.vv i) (h:ResOK ε i w x):ResOK ε' j w (renR r x):=by
 cases x with
 |dead=>trivial
 |blk T c=>
  obtain ⟨cs,h1,h2⟩:=h
  exact ⟨cs,by rw [hb];exact h1,SatC.ren r c hl h2⟩
 |vec T w' l=>
  obtain ⟨xs,h1,h2⟩:=h
  refine ⟨xs,by rw [renL_length,hv];exact h1,fun k hk=> ?_⟩
  rw [renL_length] at hk
  rw [renL_getD]
  exact SatC.ren r _ hl (h2 k hk)
 |mp ek ev l=>
  obtain ⟨es,cl,h1,h2⟩:=h
  exact ⟨es,cl,by rw [hb];exact h1,h2⟩
theorem ownR_ren {r:Nat→Option Nat} {ε ε':Env} {i j:Nat} {x:Res} (hb:ε'.blk j=ε.blk i) (hv:ε'.vv j=ε.vv i):ownR ε' j (renR r x)=ownR ε i x:=by
 cases x<;>simp [renR,ownR,hb,hv]
def selE (ks:List Nat) (ε:Env):Env:= {n:=ks.length,blk:=fun j=>ε.blk (ks.getD j 0),vv:=fun j=>ε.vv (ks.getD j 0),H:=ε.H}
def selI (ks:List Nat) (i:Nat):Option Nat:=if ks.contains i then some (ks.idxOf i) else none
def selM (ks:List Nat) (m:List Res):List Res:=ks.map fun k=>renR (selI ks) (memAt m k)
theorem sel_ren (ks:List Nat) (ε:Env):RenOK (selI ks) ε (selE ks ε):=by
 refine ⟨fun i _ j hj=> ?_,fun _ _ h=>h⟩
 unfold selI at hj
 split at hj<;>try (cases hj;done)
 rename_i hc
 have hm:i∈ks:=by simpa using hc
 simp only [Option.some.injEq] at hj
 subst hj
 have hlt:=List.idxOf_lt_length_of_mem hm
 have:ks.getD (ks.idxOf i) 0=i:=by simp [List.getD,hlt]
 exact ⟨hlt,by simp only [selE,this],by simp only [selE,this]⟩
theorem selM_at {ks:List Nat} {m:List Res} {j:Nat} (h:j<ks.length):memAt (selM ks m) j=renR (selI ks) (memAt m (ks.getD j 0)):=by
 simp [memAt,selM,List.getD,h]
theorem Good.sel {ε:Env} {m:List Res} {w:World} (g:Good ε m w) (ks:List Nat) (hn:ks.Nodup):Good (selE ks ε) (selM ks m) w:=by
 have hown:∀ j,j<ks.length→ownR (selE ks ε) j (memAt (selM ks m) j)=ownR ε (ks.getD j 0) (memAt m (ks.getD j 0)):=fun j hj=>by rw [selM_at hj];exact ownR_ren rfl rfl
 have hlen:(selM ks m).length=ks.length:=by simp [selM]
 have hcase:∀ j b,ownR (selE ks ε) j (memAt (selM ks m) j)=some b→j<ks.length∧ownR ε (ks.getD j 0) (memAt m (ks.getD j 0))=some b:=by
  intro j b hb
  rcases Nat.lt_or_ge j ks.length with hj|hj
  ·exact ⟨hj,by rw [← hown j hj];exact hb⟩
  ·rw [memAt_ge (by omega)] at hb;cases hb
 refine ⟨by simp [selE,selM],fun j=> ?_,fun i j b hij h1 h2=> ?_,fun i b hb=> ?_,fun b o hb=>g.hv b o hb,g.gl⟩
 ·rcases Nat.lt_or_ge j ks.length with hj|hj
  ·rw [selM_at hj]
   exact ResOK.ren (sel_ren ks ε) rfl rfl (g.res _)
  ·rw [memAt_ge (by omega)];trivial
 ·obtain ⟨hi,h1'⟩:=hcase i b h1
  obtain ⟨hj,h2'⟩:=hcase j b h2
  refine g.disj _ _ b (fun e=>hij ?_) h1' h2'
  have e1:ks.getD i 0=ks[i]:=by simp [List.getD,hi]
  have e2:ks.getD j 0=ks[j]:=by simp [List.getD,hj]
  rw [e1,e2] at e
  have hp:=List.pairwise_iff_getElem.1 hn
  rcases Nat.lt_trichotomy i j with h|h|h
  ·exact absurd e (hp i j hi hj h)
  ·exact h
  ·exact absurd e.symm (hp j i hj hi h)
 ·exact g.sep _ b (hcase i b hb).2
theorem Inv.sel {β:Base} {ε:Env} {m:List Res} {w:World} (h:Inv β ε m w) (ks:List Nat) (hn:ks.Nodup) (h0:∀ i,i<β.ε.n→ks[i]? =some i):Inv β (selE ks ε) (selM ks m) w:=by
 have hlen:(selM ks m).length=ks.length:=by simp [selM]
 refine ⟨h.good.sel ks hn,⟨h.kept.os,h.kept.tape,h.kept.output,h.kept.size,h.kept.heap,h.kept.H,h.kept.fresh,h.kept.drawn⟩,fun i b hb=> ?_,?_,fun i hi=> ?_,fun i hi hv=> ?_⟩
 ·rcases Nat.lt_or_ge i ks.length with hi|hi
  ·rw [selM_at hi,ownR_ren (ε:=ε) (ε':=selE ks ε) (i:=ks.getD i 0) (j:=i) rfl rfl] at hb;exact h.own _ b hb
  ·rw [memAt_ge (by omega)] at hb;cases hb
 ·rcases Nat.eq_zero_or_pos β.ε.n with hz|hz
  ·omega
  ·have:=h0 (β.ε.n - 1) (by omega)
   have hlt:=(List.getElem?_eq_some_iff.1 this).1
   show β.ε.n≤ks.length
   omega
 ·have:=h0 i hi
  have:ks.getD i 0=i:=by simp [List.getD,this]
  show ε.blk (ks.getD i 0)=_
  rw [this];exact h.blk i hi
 ·have h1:=h0 i hi
  have hlt:=(List.getElem?_eq_some_iff.1 h1).1
  have:ks.getD i 0=i:=by simp [List.getD,h1]
  rw [selM_at hlt,this] at hv
  show ε.vv (ks.getD i 0)=_
  rw [this]
  refine h.vv i hi ?_
  cases hmj:memAt m i<;>rw [hmj] at hv<;>first|rfl|exact hv
def goneAt:List Res→List Res→Nat→Option Nat
 |x::m,y::m',k=>match x,y with
  | .dead,_=>goneAt m m' (k+1)
  |_, .dead=>some k
  |_,_=>goneAt m m' (k+1)
 |_,_,_=>none
theorem goneAt_ge:∀ (m m':List Res) (k i:Nat),goneAt m m' k=some i→k≤i∧i<k+m.length
 |[],_,_,_,h=>by simp [goneAt] at h
 |_::_,[],_,_,h=>by simp [goneAt] at h
 |x::m,y::m',k,i,h=>by
  simp only [goneAt] at h
  have go:goneAt m m' (k+1)=some i→k≤i∧i<k+(x::m).length:=fun h=>by
   have:=goneAt_ge m m' (k+1) i h
   simp only [List.length_cons];omega
  split at h
  ·exact go h
  ·simp only [Option.some.injEq] at h;subst h
   simp only [List.length_cons];omega
  ·exact go h
def tidyK (n0:Nat) (m0:List Res) (K:List SV→List Res→Prop) (σ:List SV) (m:List Res):Prop:=
 if m.length=m0.length+1 then match goneAt m0 m 0 with
  |some i=>if n0≤i then K (renL (selI ((List.range m0.length).set i m0.length)) σ) (selM ((List.range m0.length).set i m0.length) m) else K σ m
  |none=>K σ m
 else K σ m
theorem range_set_nodup {n i:Nat} (_:i<n):((List.range n).set i n).Nodup:=by
 refine List.pairwise_iff_getElem.2 fun a b ha hb hab=> ?_
 simp only [List.length_set,List.length_range] at ha hb
 simp only [List.getElem_set,List.getElem_range]
 split<;>split<;>omega
end Go.Sx
end
