/- A part of the proof of StripeRuns. Conditions: none. -/
import Derived.Test.YtpajfggdnobheaaSx13r
set_option linter.unusedVariables false
set_option linter.unusedSimpArgs false
section
namespace Go.Sx
open Go
variable {P:Program} {main:Bool} {F:Nat→Prop}
def renOp (ord:List Nat) (o:Oper):Oper:= {o with after:=o.after.map fun e=> {e with on:=ord.idxOf e.on},guard:=o.guard.map fun g=>(ord.idxOf g.1,g.2)}
def permOps (ops:Array Oper) (ord:List Nat):Array Oper:=(ord.map fun i=>renOp ord (ops.getD i default)).toArray
def permOk (ops:Array Oper) (ord:List Nat):Bool:=
 decide (ord.length=ops.size)&&decide ord.Nodup&&ord.all (fun i=>decide (i<ops.size))&&(List.range ops.size).all (fun i=>ord.contains i)&&
 ops.toList.all fun o=>o.after.toList.all (fun e=>decide (e.on<ops.size))&&(match o.guard with
  |none=>true
  |some g=>decide (g.1<ops.size))
structure Perm (ops:Array Oper) (ord:List Nat):Prop where
 len:ord.length=ops.size
 nd:ord.Nodup
 lt:∀ i∈ord,i<ops.size
 all:∀ i,i<ops.size→i∈ord
 on:∀ o∈ops.toList,∀ e∈o.after,e.on<ops.size
 gd:∀ o∈ops.toList,∀ g,o.guard=some g→g.1<ops.size
theorem permOk_ok {ops:Array Oper} {ord:List Nat} (h:permOk ops ord=true):Perm ops ord:=by
 simp only [permOk,Bool.and_eq_true,decide_eq_true_eq,List.all_eq_true,List.mem_range,List.contains_eq_mem] at h
 obtain ⟨⟨⟨⟨h1,h2⟩,h3⟩,h4⟩,h5⟩:=h
 refine ⟨h1,h2,h3,h4,fun o ho e he=>(h5 o ho).1 e (by simpa using he),fun o ho g hg=> ?_⟩
 have:=(h5 o ho).2
 rw [hg] at this
 simpa using this
section
variable {ops:Array Oper} {ord:List Nat} (hp:Perm ops ord)
include hp
theorem Perm.size:(permOps ops ord).size=ops.size:=by simp [permOps,hp.len]
theorem Perm.pos {i:Nat} (h:i<ops.size):ord.idxOf i<ops.size:=by
 rw [← hp.len];exact List.idxOf_lt_length_iff.2 (hp.all i h)
theorem Perm.back {i:Nat} (h:i<ops.size):ord[ord.idxOf i]? =some i:=by
 have hl:=hp.pos h
 rw [← hp.len] at hl
 rw [List.getElem?_eq_getElem hl]
 exact congrArg some (List.getElem_idxOf hl)
theorem Perm.inj {i j:Nat} (hi:i<ops.size) (hj:j<ops.size) (h:ord.idxOf i=ord.idxOf j):i=j:=by
 have h1:=hp.back hi
 rw [h,hp.back hj] at h1
 exact (Option.some.inj h1).symm
theorem Perm.turn {k:Nat} (h:k<ops.size):∃ i,i<ops.size∧ord.idxOf i=k:=by
 have hk:k<ord.length:=by rw [hp.len];exact h
 refine ⟨ord[k],hp.lt _ (List.getElem_mem hk),?_⟩
 exact hp.nd.idxOf_getElem k hk
theorem Perm.at {i:Nat} {o:Oper} (ho:ops[i]? =some o):(permOps ops ord)[ord.idxOf i]? =some (renOp ord o):=by
 have hi:i<ops.size:=(Array.getElem?_eq_some_iff.1 ho).1
 have hb:=hp.back hi
 simp only [permOps,List.getElem?_toArray,List.getElem?_map,hb,Option.map_some,Array.getD_eq_getD_getElem?,ho,Option.getD_some]
theorem Perm.ready {i:Nat} (hi:i<ops.size) {listed listed':Array Bool} (hs:listed.size=ops.size) (hs':listed'.size=ops.size) (hl:∀ j,j<ops.size→lst listed' (ord.idxOf j)=lst listed j):
  ord.idxOf i∈Region.ready .any (permOps ops ord) listed'↔i∈Region.ready .any ops listed:=by
 have hpi:=hp.pos hi
 rw [mem_ready,mem_ready,getD_tf (by omega),getD_tf (by omega)]
 have e0:listed'.getD (ord.idxOf i) false=listed.getD i false:=hl i hi
 rw [e0]
 have ho:ops[i]? =some ops[i]:=by simp [hi]
 have hmem:ops[i]∈ops.toList:=by simp
 constructor
 ·rintro ⟨h1,o',ho',h2⟩
  rw [hp.at ho] at ho'
  cases ho'
  refine ⟨h1,_,ho,fun e he hb=> ?_⟩
  have:=h2 {e with on:=ord.idxOf e.on} (by
   simp only [renOp,Array.mem_map]
   exact ⟨e,he,rfl⟩) hb
  have hh:=hl e.on (hp.on _ hmem e he)
  exact hh.symm.trans this
 ·rintro ⟨h1,o,ho2,h2⟩
  rw [ho] at ho2
  cases ho2
  refine ⟨h1,_,hp.at ho,fun e he hb=> ?_⟩
  simp only [renOp,Array.mem_map] at he
  obtain ⟨e0',he0,rfl⟩:=he
  have hh:=hl e0'.on (hp.on _ hmem e0' he0)
  exact hh.trans (h2 e0' he0 hb)
theorem Perm.none {listed listed':Array Bool} (hs:listed.size=ops.size) (hs':listed'.size=ops.size) (hl:∀ j,j<ops.size→lst listed' (ord.idxOf j)=lst listed j)
  (h:Region.ready .any ops listed=[]):Region.ready .any (permOps ops ord) listed'=[]:=by
 refine List.eq_nil_iff_forall_not_mem.2 fun k hk=> ?_
 have hlt:=ready_lt hk
 rw [hp.size] at hlt
 obtain ⟨i,hi,rfl⟩:=hp.turn hlt
 have:=(hp.ready hi hs hs' hl).1 hk
 rw [h] at this;cases this
theorem Perm.wanted {o:Oper} (ho:o∈ops.toList) (tmps:Array Value):Region.wanted (renOp ord o) (yielded (permOps ops ord) tmps)=Region.wanted o (yielded ops tmps):=by
 cases hg:o.guard with
 |none=>simp [Region.wanted,renOp,hg]
 |some g=>
  obtain ⟨j,w⟩:=g
  have hj:=hp.gd o ho _ hg
  have hoj:ops[j]? =some ops[j]:=by simp [show j<ops.size from hj]
  have e:yielded (permOps ops ord) tmps (ord.idxOf j)=yielded ops tmps j:=by
   simp only [yielded,hp.at hoj,hoj,Option.bind_some]
   rfl
  simp only [Region.wanted,renOp,hg,Option.map_some,e]
theorem Perm.op {fn:FuncId} {i:Nat} (hi:i<ops.size) {K K':Act→OW→Prop} (hK:∀ a w,K a w→K' a w) {a:Act} {w:OW} (h:wqOp P main F fn (permOps ops ord) (ord.idxOf i) K a w):wqOp P main F fn ops i K' a w:=by
 have ho:ops[i]? =some ops[i]:=by simp [hi]
 refine wqOp_mono hK ?_
 unfold wqOp at h ⊢
 rw [hp.at ho] at h
 rw [ho]
 simp only at h ⊢
 rw [hp.wanted (by simp)] at h
 split at h
 ·rename_i hw
  rw [if_pos hw]
  exact h.ren
 ·rename_i hw
  rw [if_neg hw]
  exact h
theorem Perm.any {fn:FuncId} {Q:Exit→Act→OW→Prop}:∀ (fuel:Nat) (listed listed':Array Bool) (a:Act) (w:OW),listed.size=ops.size→listed'.size=ops.size→(∀ j,j<ops.size→lst listed' (ord.idxOf j)=lst listed j)→
  wqAny P main F fn (permOps ops ord) Q fuel listed' a w→wqAny P main F fn ops Q fuel listed a w
 |0,listed,listed',a,w,hs,hs',hl,h=>by
  refine ⟨?_,h.2⟩
  refine List.eq_nil_iff_forall_not_mem.2 fun i hi=> ?_
  have:=(hp.ready (ready_lt hi) hs hs' hl).2 hi
  rw [h.1] at this;cases this
 |fuel+1,listed,listed',a,w,hs,hs',hl,h=>by
  refine ⟨fun hr=>h.1 (hp.none hs hs' hl hr),fun i hi=> ?_⟩
  have hlt:=ready_lt hi
  have h2:=h.2 _ ((hp.ready hlt hs hs' hl).2 hi)
  refine hp.op hlt (fun a w hh=> ?_) h2
  refine Perm.any fuel _ _ a w (by simpa using hs) (by simpa using hs') (fun j hj=> ?_) hh
  have hpi:=hp.pos hlt
  rw [lst_set (by omega),lst_set (by omega)]
  simp only [Sx.upd,hl j hj]
  congr 1
  rw [decide_eq_decide]
  exact ⟨fun e=>hp.inj hj hlt e,fun e=>by rw [e]⟩
end
def ordGo (ops:Array Oper) (ios:List IOp):Nat→List Nat→List Nat
 |0,acc=>acc.reverse
 |f+1,acc=>
  let rs:=(List.range ops.size).filter fun i=> !acc.contains i&&((ops[i]?).map fun o=>o.after.toList.all fun e=> !Region.binds .any e||acc.contains e.on).getD false
  match (rs.find? fun i=> !((ios[i]?).map (·.op.eff)).getD true)<|>rs.head? with
  |some i=>ordGo ops ios f (i::acc)
  |none=>acc.reverse
def quiet2 (quiet:FuncId→Bool):FuncId→Bool:=fun f=>quiet f&&f !=999999999
theorem dops_sound2 {Γ:Hook} (hΓ:HookOK P main F Γ) (hmx:P.follows .mixedOrders=true) {quiet:FuncId→Bool} {id:Nat} {ops:Array Oper} {ord:List Nat} {fn:FuncId} {Q:Exit→Act→OW→Prop} {ρ:Root} {d:List Deferred}
  {ios:List IOp} {σ:List SV} {m:List Res} {K:List SV→List Res→Prop} (hpo:permOk ops ord=true) (hc:(permOps ops ord).toList.mapM (compD P quiet (permOps ops ord))=some ios) (hk:chk (permOps ops ord).toList ios=true)
  (h:dsops Γ (aug (permOps ops ord).toList ios) K σ m)
  (hQ:∀ σ' m' ε' a' w',K σ' m'→InvO F ρ ε' m' w'→SlotsOK ε' σ' a'→a'.defers=d→Q .normal a' w')
  {ε:Env} {a:Act} {w:OW} (hI:InvO F ρ ε m w) (hs:SlotsOK ε σ a) (hd:a.defers=d):CodeQ P main F fn (.region id ops true) Q a w:=by
 have hp:=permOk_ok hpo
 refine wq_region_any hmx fun w1 h1=>(hp.any _ _ (Array.replicate ops.size false) a _ (by simp) (by simp) (fun j hj=> ?_) ?_)
 ·have hno:∀ j,lst (Array.replicate ops.size false) j=false:=by
   intro j
   simp only [lst,Array.getD_eq_getD_getElem?,Array.getElem?_replicate]
   split<;>rfl
  rw [hno,hno]
 ·have:=dops_any (fn:=fn) hΓ hc hk h hQ (hI.rely h1).drew hs hd
  rwa [hp.size] at this
end Go.Sx
end
section
namespace Go.Sx
open Go
variable {P:Program} {main:Bool} {F:Nat→Prop}
def compGh (P:Program) (quiet:FuncId→Bool) (ops:Array Oper):Option (List IOp×Nat×TypeId×SV×List IOp):=none
theorem gops_sound2 {Γ:Hook} (hΓ:HookOK P main F Γ) (hmx:P.follows .mixedOrders=true) {quiet:FuncId→Bool} {id:Nat} {ops:Array Oper} {ord:List Nat} {l:List IOp} {d:Nat} {T:TypeId} {z:SV} {lo:List IOp} (hpo:permOk ops ord=true) (hc:compGh P quiet (permOps ops ord)=some (l,d,T,z,lo)) {fn:FuncId} {Q:Exit→Act→OW→Prop} {ρ:Root} {d0:List Deferred}
  {σ:List SV} {m:List Res} {K:List SV→List Res→Prop} (hdl:d<σ.length) (h:dsops Γ l (fun σ' m'=>sops Γ lo K (σ'.set d (.ptr m'.length [] 0)) (m'++[.blk T z])) (σ.set d .junk) m)
  (hQ:∀ σ' m' ε' a' w',K σ' m'→InvO F ρ ε' m' w'→SlotsOK ε' σ' a'→a'.defers=d0→Q .normal a' w')
  {ε:Env} {a:Act} {w:OW} (hI:InvO F ρ ε m w) (hs:SlotsOK ε σ a) (hd:a.defers=d0):CodeQ P main F fn (.region id ops true) Q a w:=by cases hc
end Go.Sx
end
