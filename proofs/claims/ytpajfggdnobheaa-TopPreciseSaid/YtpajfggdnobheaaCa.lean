/- A part of TopPrecise's proof. -/
import Derived.Test.YtpajfggdnobheaaBa
import Derived.Attr
import Derived.RowKit3
import Derived.ChangeArms
import Derived.OpenShut
import Derived.OwnWalk
set_option linter.unusedVariables false
set_option linter.unusedSimpArgs false
open Bool renaming and_eq_true->z00,false_eq_true->z1c
open Option renaming map_eq_some_iff->z01,some.injEq->z0g,some.inj->z0p,map_some->z1d
open List renaming getD->z02,getElem?_eq_getElem->z03,replicate->z04,range->z05,getElem?_append_right->z08,getElem?_set->z0a,getElem?_append_left->z0e,getElem?_map->z0i,getElem?_range->z0j,getD_eq_getElem?_getD->z0m,nodup_nil->z0r,mapM_cons->z0s,ext_getElem?->z0u,eq_nil_iff_forall_not_mem->z0v,nodup_cons->z0w,length_set->z0x,getElem?_replicate->z14,getElem?_eq_none->z18,getD_cons_succ->z19,getElem?_take->z1a,getElem?_drop->z1b,nodup_range->z1f,cons_append->z1g,all_eq_true->z1h,mem_append->z1i,idxOf_cons->z1j,foldl_cons->z1k,take_take->z1p,mem_cons->z1r,all_cons->z1s
open Nat renaming lt_or_ge->z06,le_refl->z07,not_lt_zero->z09,zero_le->z0c,le_trans->z0d,lt_of_lt_of_le->z0f,zero_add->z16,not_lt->z1e,min_eq_left->z1o
open Go.Value renaming okWide->z0b,ownBlock->z0h,cells->z0n
open Array renaming getD_eq_getD_getElem?->z0k,getElem?_eq_some_iff->z0l,replicate->z0q,mapM_eq_mapM_toList->z0y,mem_map->z1q
open Classical renaming choose_spec->z0o,choose->z0t
open Go.World renaming grownBy->z0z
open Go.Sem renaming run_pure->z15,events_pure->z1l,events_bind->z1m
namespace Go.Sx
open Go
variable {P:Program} {main:Bool} {F:Nat->Prop}
def renOp(ord:List Nat)(o:Oper):Oper:= {o with after:=o.after.map λe=> {e with on:=ord.idxOf e.on},guard:=o.guard.map λg=>(ord.idxOf g.1,g.2)}
def dF(ops:Array Oper)(ord:List Nat):Array Oper:=(ord.map λi=>renOp ord (ops.getD i default)).toArray
def wF(ops:Array Oper)(ord:List Nat):Bool:=
 decide (ord.length=ops.size)&&decide ord.Nodup&&ord.all (λi=>decide (i<ops.size))&&(z05 ops.size).all (λi=>ord.contains i)&&
 ops.toList.all λo=>o.after.toList.all (λe=>decide (e.on<ops.size))&&(match o.guard with
  |none=>true
  |some g=>decide (g.1<ops.size))
structure Perm(ops:Array Oper)(ord:List Nat):Prop where
 len:ord.length=ops.size
 nd:ord.Nodup
 lt:∀ i∈ord,i<ops.size
 all:∀ i,i<ops.size->i∈ord
 on:∀ o∈ops.toList,∀ e∈o.after,e.on<ops.size
 gd:∀ o∈ops.toList,∀ g,o.guard=some g->g.1<ops.size
theorem Zn{ops:Array Oper}{ord:List Nat}(h:wF ops ord=true):Perm ops ord:=by
 simp only[wF,z00,decide_eq_true_eq,z1h,List.mem_range,List.contains_eq_mem] at h;obtain⟨⟨⟨⟨h1,h2⟩,h3⟩,h4⟩,h5⟩:=h;refine⟨h1,h2,h3,h4,λo ho e he=>(h5 o ho).1 e (by simpa using he),λo ho g hg=> ?_⟩
 have:=(h5 o ho).2;rw[hg] at this;simpa using this
section
variable {ops:Array Oper} {ord:List Nat} (hp:Perm ops ord)
include hp
theorem Perm.size:(dF ops ord).size=ops.size:=by simp[dF,hp.len]
theorem Perm.pos{i:Nat}(h:i<ops.size):ord.idxOf i<ops.size:=by rw[<- hp.len];exact List.idxOf_lt_length_iff.2 (hp.all i h)
theorem Perm.back{i:Nat}(h:i<ops.size):ord[ord.idxOf i]? =some i:=by have hl:=hp.pos h;rw[<- hp.len] at hl;rw[z03 hl];exact congrArg some (List.getElem_idxOf hl)
theorem Perm.inj{i j:Nat}(hi:i<ops.size)(hj:j<ops.size)(h:ord.idxOf i=ord.idxOf j):i=j:=by have h1:=hp.back hi;rw[h,hp.back hj] at h1;exact(z0p h1).symm
theorem Perm.turn{k:Nat}(h:k<ops.size):∃ i,i<ops.size/\ord.idxOf i=k:=by
 have hk:k<ord.length:=by rw[hp.len];exact h
 refine⟨ord[k],hp.lt _ (List.getElem_mem hk),?_⟩;exact hp.nd.idxOf_getElem k hk
theorem Perm.at{i:Nat}{o:Oper}(ho:ops[i]? =some o):(dF ops ord)[ord.idxOf i]? =some (renOp ord o):=by have hi:i<ops.size:=(z0l.1 ho).1;have hb:=hp.back hi;simp only[dF,List.getElem?_toArray,z0i,hb,z1d,z0k,ho,Option.getD_some]
theorem Perm.ready{i:Nat}(hi:i<ops.size){listed listed':Array Bool}(hs:listed.size=ops.size)(hs':listed'.size=ops.size)(hl:∀ j,j<ops.size->lst listed' (ord.idxOf j)=lst listed j):
  ord.idxOf i∈Region.ready .any (dF ops ord) listed'↔i∈Region.ready .any ops listed:=by
 have hpi:=hp.pos hi;rw[mem_ready,mem_ready,uH (by omega),uH (by omega)]
 have e0:listed'.getD (ord.idxOf i) false=listed.getD i false:=hl i hi;rw[e0];have ho:ops[i]? =some ops[i]:=by simp[hi]
 have hmem:ops[i]∈ops.toList:=by simp
 constructor
 ·rintro⟨h1,o',ho',h2⟩;rw[hp.at ho] at ho';cases ho';refine⟨h1,_,ho,λe he hb=> ?_⟩;have:=h2 {e with on:=ord.idxOf e.on} (by simp only[renOp,z1q];exact⟨e,he,rfl⟩) hb
  have hh:=hl e.on (hp.on _ hmem e he);exact hh.symm.trans this
 ·rintro⟨h1,o,ho2,h2⟩;rw[ho] at ho2;cases ho2;refine⟨h1,_,hp.at ho,λe he hb=> ?_⟩;simp only[renOp,z1q] at he;obtain⟨e0',he0,rfl⟩:=he;have hh:=hl e0'.on (hp.on _ hmem e0' he0);exact hh.trans (h2 e0' he0 hb)
theorem Perm.none{listed listed':Array Bool}(hs:listed.size=ops.size)(hs':listed'.size=ops.size)(hl:∀ j,j<ops.size->lst listed' (ord.idxOf j)=lst listed j)
  (h:Region.ready .any ops listed=[]):Region.ready .any (dF ops ord) listed'=[]:=by
 refine z0v.2 λk hk=> ?_;have hlt:=wG hk;rw[hp.size] at hlt;obtain⟨i,hi,rfl⟩:=hp.turn hlt;have:=(hp.ready hi hs hs' hl).1 hk;rw[h] at this;cases this
theorem Perm.wanted{o:Oper}(ho:o∈ops.toList)(tmps:Array Value):Region.wanted (renOp ord o) (yielded (dF ops ord) tmps)=Region.wanted o (yielded ops tmps):=by
 cases hg:o.guard with
 |none=>simp[Region.wanted,renOp,hg]
 |some g=>
  obtain⟨j,w⟩:=g;have hj:=hp.gd o ho _ hg;have hoj:ops[j]? =some ops[j]:=by simp[show j<ops.size from hj]
  have e:yielded (dF ops ord) tmps (ord.idxOf j)=yielded ops tmps j:=by simp only[yielded,hp.at hoj,hoj,Option.bind_some];rfl
  simp only[Region.wanted,renOp,hg,z1d,e]
theorem Perm.op{fn:FuncId}{i:Nat}(hi:i<ops.size){K K':Act->OW->Prop}(hK:∀ a w,K a w->K' a w){a:Act}{w:OW}(h:EM P main F fn (dF ops ord) (ord.idxOf i) K a w):EM P main F fn ops i K' a w:=by
 have ho:ops[i]? =some ops[i]:=by simp[hi]
 refine CJ hK ?_;unfold EM at h ⊢;rw[hp.at ho] at h;rw[ho];simp only at h ⊢;rw[hp.wanted (by simp)] at h
 split at h
 ·rename_i hw;rw[if_pos hw];exact h.ren
 ·rename_i hw;rw[if_neg hw];exact h
theorem Perm.any{fn:FuncId}{Q:Exit->Act->OW->Prop}:∀ (fuel:Nat) (listed listed':Array Bool) (a:Act) (w:OW),listed.size=ops.size->listed'.size=ops.size->(∀ j,j<ops.size->lst listed' (ord.idxOf j)=lst listed j)->
  FW P main F fn (dF ops ord) Q fuel listed' a w->FW P main F fn ops Q fuel listed a w
 |0,listed,listed',a,w,hs,hs',hl,h=>by
  refine⟨?_,h.2⟩;refine z0v.2 λi hi=> ?_;have:=(hp.ready (wG hi) hs hs' hl).2 hi;rw[h.1] at this;cases this
 |fuel+1,listed,listed',a,w,hs,hs',hl,h=>by
  refine⟨λhr=>h.1 (hp.none hs hs' hl hr),λi hi=> ?_⟩;have hlt:=wG hi;have h2:=h.2 _ ((hp.ready hlt hs hs' hl).2 hi);refine hp.op hlt (λa w hh=> ?_) h2;refine Perm.any fuel _ _ a w (by simpa using hs) (by simpa using hs') (λj hj=> ?_) hh
  have hpi:=hp.pos hlt;rw[rM (by omega),rM (by omega)]
  simp only[Sx.upd,hl j hj]
  congr 1
  rw[decide_eq_decide];exact⟨λe=>hp.inj hj hlt e,λe=>by rw[e]⟩
end
def D6(ops:Array Oper)(aT:List dP):Nat->List Nat->List Nat
 |0,acc=>acc.reverse
 |f+1,acc=>
  let rs:=(z05 ops.size).filter λi=> !acc.contains i&&((ops[i]?).map λo=>o.after.toList.all λe=> !Region.binds .any e||acc.contains e.on).getD false
  match (rs.find? λi=> !((aT[i]?).map (·.op.eff)).getD true)<|>rs.head? with
  |some i=>D6 ops aT f (i::acc)
  |none=>acc.reverse
def uI(quiet:FuncId->Bool):FuncId->Bool:=λf=>quiet f&&f !=999999999
theorem PL{Γ:Hook}(hΓ:iI P main F Γ)(hmx:P.follows .mixedOrders=true){quiet:FuncId->Bool}{id:Nat}{ops:Array Oper}{ord:List Nat}{fn:FuncId}{Q:Exit->Act->OW->Prop}{ρ:Root}{d:List Deferred}
  {aT:List dP} {σ:List SV} {m:List ay} {K:List SV->List ay->Prop} (hpo:wF ops ord=true) (hc:(dF ops ord).toList.mapM (pK P quiet (dF ops ord))=some aT) (hk:chk (dF ops ord).toList aT=true)
  (h:iY Γ (aug (dF ops ord).toList aT) K σ m)
  (hQ:∀ σ' m' J' a' w',K σ' m'->dh F ρ J' m' w'->aH J' σ' a'->a'.defers=d->Q .normal a' w')
  {J:Env} {a:Act} {w:OW} (hI:dh F ρ J m w) (hs:aH J σ a) (hd:a.defers=d):dQ P main F fn (.region id ops true) Q a w:=by
 have hp:=Zn hpo;refine y8 hmx λw1 h1=>(hp.any _ _ (z0q ops.size false) a _ (by simp) (by simp) (λj hj=> ?_) ?_)
 ·have hno:∀ j,lst (z0q ops.size false) j=false:=by intro j;simp only[lst,z0k,Array.getElem?_replicate];split<;>rfl
  rw[hno,hno]
 ·have:=PN (fn:=fn) hΓ hc hk h hQ (hI.rely h1).drew hs hd
  rwa [hp.size] at this
end Go.Sx
namespace Go.Sx
open Go
variable {P:Program} {main:Bool} {F:Nat->Prop}
def Vo(P:Program)(quiet:FuncId->Bool)(ops:Array Oper):Option (List dP×Nat×TypeId×SV×List dP):=none
theorem QF{Γ:Hook}(hΓ:iI P main F Γ)(hmx:P.follows .mixedOrders=true){quiet:FuncId->Bool}{id:Nat}{ops:Array Oper}{ord:List Nat}{l:List dP}{d:Nat}{T:TypeId}{z:SV}{lo:List dP}(hpo:wF ops ord=true)(hc:Vo P quiet (dF ops ord)=some (l,d,T,z,lo)){fn:FuncId}{Q:Exit->Act->OW->Prop}{ρ:Root}{d0:List Deferred}
  {σ:List SV} {m:List ay} {K:List SV->List ay->Prop} (hdl:d<σ.length) (h:iY Γ l (λσ' m'=>uP Γ lo K (σ'.set d (.ptr m'.length [] 0)) (m'++[.blk T z])) (σ.set d .junk) m)
  (hQ:∀ σ' m' J' a' w',K σ' m'->dh F ρ J' m' w'->aH J' σ' a'->a'.defers=d0->Q .normal a' w')
  {J:Env} {a:Act} {w:OW} (hI:dh F ρ J m w) (hs:aH J σ a) (hd:a.defers=d0):dQ P main F fn (.region id ops true) Q a w:=by cases hc
end Go.Sx
namespace Go.Sx
open Go
variable {P:Program} {main:Bool} {F:Nat->Prop}
inductive IC:Type 1 where
 |skip
 |ops (l:List dP)
 |aZ (l:List dP)
 |JX (l:List dP) (d:Nat) (T:TypeId) (z:SV) (lo:List dP)
 |seq (a b:IC)
 |cond (x:aV) (a b:IC)
 |block (id:Nat) (c:IC)
 |loop (c:IC)
 |exit (id:Nat)
 |ret
inductive Ex where
 |norm
 |exit (id:Nat)
 |ret
def rU:Exit->Ex->Prop
 | .normal, .norm=>True
 | .exit i, .exit j=>i=j
 | .ret, .ret=>True
 |_,_=>False
def QD(P:Program)(quiet:FuncId->Bool)(ops:Array Oper):Option IC:=match ops.toList.mapM (pK P (uI quiet) ops) with
 |some XW=>match (dF ops (D6 ops XW ops.size [])).toList.mapM (pK P (uI quiet) (dF ops (D6 ops XW ops.size []))) with
  |some aT=>if wF ops (D6 ops XW ops.size [])&&chk (dF ops (D6 ops XW ops.size [])).toList aT&&P.follows .mixedOrders then some (.aZ (aug (dF ops (D6 ops XW ops.size [])).toList aT)) else
   match Vo P (uI quiet) (dF ops (D6 ops XW ops.size [])) with
   |some (l,d,T,z,lo)=>if wF ops (D6 ops XW ops.size [])&&P.follows .mixedOrders then some (.JX l d T z lo) else none
   |none=>none
  |none=>none
 |none=>none
theorem fU{quiet:FuncId->Bool}{ops:Array Oper}{ic:IC}(h:QD P quiet ops=some ic):(∃ l,ic= .aZ l)\/∃ l d T z lo,ic= .JX l d T z lo:=by
 unfold QD at h;split at h<;>try (cases h;done)
 split at h<;>try (cases h;done)
 split at h
 ·exact .inl ⟨_,(z0p h).symm⟩
 ·split at h<;>try (cases h;done)
  split at h<;>try (cases h;done)
  exact .inr ⟨_,_,_,_,_,(z0p h).symm⟩
def comp(P:Program)(quiet:FuncId->Bool):Code->Option IC
 | .skip=>some .skip
 | .region _ ops draw=>if draw then match ops.toList.mapM (pK P quiet ops) with
   |some aT=>if chk ops.toList aT&&P.follows .mixedOrders then some (.aZ (aug ops.toList aT)) else QD P quiet ops
   |none=>none
  else(ops.toList.mapM (iV P ops)).map .ops
 | .seq a b=>match comp P quiet a,comp P quiet b with
  |some a,some b=>some (.seq a b)
  |_,_=>none
 | .cond x a b=>match aP x,comp P quiet a,comp P quiet b with
  |some x,some a,some b=>some (.cond x a b)
  |_,_,_=>none
 | .block id c=>(comp P quiet c).map (.block id)
 | .loop c=>(comp P quiet c).map .loop
 | .exit id=>some (.exit id)
 | .ret=>some .ret
 |_=>none
end Go.Sx
namespace Go.Sx
open Go
variable {P:Program} {main:Bool} {F:Nat->Prop}
structure fP(F:Nat->Prop)(J:Env)(m:List ay)(x:OW):Prop where
 good:Good J m x.w
 own:∀ i b,aS J i (ak m i)=some b->x.O b
 H:∀ b o,J.H b=some o->x.O b\/F b
 Ol:∀ b,x.O b->b<x.w.heap.size
 Fl:∀ b,F b->b<x.w.heap.size
def Root.at(J:Env)(m:List ay)(x:OW):Root:=⟨x.w,x.O,J,λb=> ∃ i,aS J i (ak m i)=some b⟩
def bC(P:Program)(main:Bool)(F:Nat->Prop)(f:FuncId)(args:List SV)(m0:List ay)(res:SV)(m1:List ay):Prop:=
 ∀ J x vs,fP F J m0 x->bT args J vs->yc P main F f vs.toArray x λv x'=> ∃ J',bK J' res v/\dh F (.at J m0 x) J' m1 x'
theorem dh.start{J:Env}{m:List ay}{x:OW}(g:fP F J m x):dh F (.at J m x) J m x:=by
 refine⟨⟨g.Ol,g.Fl,λb ⟨i,h⟩=>g.own i b h,g.H⟩,?_,λ_ h=>h,λb h=> .inl h,g.Ol,z07 _,rfl,rfl,rfl⟩;refine⟨g.good,⟨rfl,rfl,rfl,by simp[Root.base,Root.mix,bJ,Root.at],λb hb hB=> ?_,λ_ _ h=>h,λ_ _ h=> .inl h,λ_=>z07 _⟩,λi b h=> .inl (.inl ⟨i,h⟩),z07 _,λ_ _=>rfl,λ_ _ _=>rfl⟩
 simp only[Root.base,Root.mix,bJ,Root.at] at hb ⊢;by_cases hk:x.O b\/F b
 ·rw[nK hk hb hb]
 ·rw[BD hk]
theorem dh.Ea{ρ:Root}{J:Env}{m:List ay}{x:OW}(h:dh F ρ J m x):fP F J m x:=
 ⟨h.inv.good,λ_ _ hb=>h.own hb,λ_ _ hb=>h.jZ hb,h.lt,λb hb=>z0f (h.rt.Fl b hb) h.size⟩
theorem mG{J:Env}:∀ {args:List SV} {vs:List Value} (_:bT args J vs) (n:Nat),aH J (args++z04 n .junk) {tmps:=vs.toArray++z0q n undef,defers:=[]}:=by
 intro args vs h n;have hl:∀ {args:List SV} {vs:List Value},bT args J vs->args.length=vs.length/\∀ k,k<args.length->bK J (args.getD k .junk) (vs.getD k undef):=by
  intro args
  induction args with
  |nil=>intro vs h;simp only[bT] at h;subst h;exact⟨rfl,λk hk=>absurd hk (z09 _)⟩
  |cons x r ih=>
   intro vs h;simp only[bT] at h;obtain⟨cs,t,rfl,h2,h3⟩:=h;obtain⟨i1,i2⟩:=ih h3;refine⟨by simp[i1],λk hk=> ?_⟩
   cases k with
   |zero=>exact gJ h2
   |succ k=>simp only[z19];exact i2 k (by simpa using hk)
 obtain⟨h1,h2⟩:=hl h;refine⟨by simp[h1],λk=> ?_⟩
 by_cases hk:k<args.length
 ·have e1:(args++z04 n SV.junk).getD k .junk=args.getD k .junk:=by simp[z02,z0e hk]
  have e2:(vs.toArray++z0q n undef).getD k undef=vs.getD k undef:=by
   rw[z0k,Array.getElem?_append_left (by simp;omega)]
   simp[z02]
  rw[e1,e2];exact h2 k hk
 ·have e1:(args++z04 n SV.junk).getD k .junk= .junk:=by simp only[z02,z08 (Nat.le_of_not_lt hk)];rw[z14];split<;>rfl
  rw[e1];trivial
def qW(P:Program)(σ:List SV)(m:List ay)(K:SV->Prop):List ResultVar->Prop
 |[]=>K (.cu [])
 |[.tmp t]=>K (σ.getD t .junk)
 |[.cell t T]=>match rP P T with
  |some (n,ag)=>peek m n ag K (σ.getD t .junk)
  |none=>False
 |l=>go l λxs=>K (.cu xs)
where go:List ResultVar->(List SV->Prop)->Prop
 |[],K=>K []
 | .tmp t::r,K=>(σ.getD t .junk).isVal=true/\go r λxs=>K (σ.getD t .junk::xs)
 | .cell t T::r,K=>match rP P T with
  |some (n,ag)=>peek m n ag (λx=>x.isVal=true/\go r λxs=>K (x::xs)) (σ.getD t .junk)
  |none=>False
end Go.Sx
namespace Go.Sx
open Go
variable {P:Program} {main:Bool} {F:Nat->Prop}
def jd(is:List Nat)(n:Nat)(j:Nat):Option Nat:=if j<is.length then is[j]? else some (n+(j - is.length))
def eH(is:List Nat)(m:List ay)(m1:List ay):List ay:=
 (is.zipIdx.foldl (λ(acc:List ay) x=>acc.set x.1 (dR (jd is m.length) (ak m1 x.2))) m)++(m1.drop is.length).map (dR (jd is m.length))
theorem tK(r:Nat->ay):∀ (l:List (Nat×Nat)) (m:List ay),(l.foldl (λ(acc:List ay) x=>acc.set x.1 (r x.2)) m).length=m.length
 |[],_=>rfl
 |x::l,m=>by simp only[z1k];rw[tK r l];simp
theorem BR(r:Nat->ay):∀ (is:List Nat) (k:Nat) (m:List ay) (_:is.Nodup) (_:∀ i∈is,i<m.length) (i:Nat),
  ak ((is.zipIdx k).foldl (λ(acc:List ay) x=>acc.set x.1 (r x.2)) m) i=if i∈is then r (k+is.idxOf i) else ak m i
 |[],k,m,_,_,i=>by simp
 |a::is,k,m,hn,hlt,i=>by
  simp only[List.zipIdx_cons,z1k];have hn':=z0w.1 hn;rw[BR r is (k+1) _ hn'.2 (λj hj=>by rw[z0x];exact hlt j (by simp[hj])) i]
  by_cases hi:i∈is
  ·rw[if_pos hi,if_pos (by simp[hi])]
   have:i≠a:=λe=>hn'.1 (e▸hi);have he:(a::is).idxOf i=is.idxOf i+1:=by
    rw[z1j];have:(a==i)=false:=by simpa using λe=>this e.symm
    rw[this];rfl
   rw[he]
   congr 1;omega
  ·rw[if_neg hi];by_cases hia:i=a
   ·subst hia;rw[if_pos (by simp),List.idxOf_cons_self,Nat.add_zero]
    have:=hlt i (by simp)
    simp[ak,this]
   ·rw[if_neg (by simp[hi,hia])]
    unfold ak;simp only[z0m,z0a];rw[if_neg (λe=>hia e.symm)]
theorem afZ{is:List Nat}{m m1:List ay}(hn:is.Nodup)(hlt:∀ i∈is,i<m.length)(i:Nat):
  ak (eH is m m1) i=if i∈is then dR (jd is m.length) (ak m1 (is.idxOf i)) else if i<m.length then ak m i else
   dR (jd is m.length) (ak m1 (is.length+(i - m.length))):=by
 have hlen:=tK (λk=>dR (jd is m.length) (ak m1 k)) is.zipIdx m;unfold eH;rcases z06 i m.length with hi|hi
 ·rw[bD (by rw[hlen];exact hi),BR (λk=>dR (jd is m.length) (ak m1 k)) is 0 m hn hlt i]
  simp[hi]
 ·have hni:i∉is:=λh=>by have:=hlt i h;omega
  rw[if_neg hni,if_neg (by omega)]
  have e1:∀ (l1 l2:List ay),l1.length=m.length->ak (l1++l2) i=ak l2 (i - m.length):=by intro l1 l2 hl1;unfold ak;rw[z02,z08 (by omega),hl1];rfl
  rw[e1 _ _ hlen];unfold ak;rw[z02,z0i,z1b,z02];cases m1[is.length+(i - m.length)]? <;>rfl
theorem OH{is:List Nat}{m m1:List ay}:(eH is m m1).length=m.length+(m1.length - is.length):=by have hlen:=tK (λk=>dR (jd is m.length) (ak m1 k)) is.zipIdx m;simp[eH,hlen]
theorem abw{m m0 m1:List ay}{res:SV}(is:List Nat)(hn:is.Nodup)(hb:∀ i∈is,(ak m i).qw=true)
  (hm:fJ is m=m0) (hl:is.length<=m1.length) (Xt:∀ j,j<is.length->(ak m1 j).qw=true) {β:Base} {J J':Env} {w w':World} (hi:Inv β J m w) {N:Nat->Prop} (hNo:∀ i b,aS J i (ak m i)=some b->¬ N b) (hNH:∀ b o,J.H b=some o->¬ N b)
  (hi':Inv ⟨w,kQ is J,λb=>(∃ i,aS (kQ is J) i (ak m0 i)=some b)\/N b⟩ J' m1 w'):
  ∃ J2,J.Le J2/\(∀ v,bK J' res v->bK J2 (ren (jd is m.length) res) v)/\Inv {β with B:=λb=>β.B b\/N b} J2 (eH is m m1) w':=by
 have hlt:∀ i∈is,i<m.length:=by
  intro i h;rcases z06 i m.length with h'|h'
  ·exact h'
  ·have:=hb i h;rw[bI h'] at this;cases this
 have hg:=hi.good.sel is hn;rw[hm] at hg;have akj:∀ j,j<is.length->aS (kQ is J) j (ak m0 j)=aS J (is.getD j 0) (ak m (is.getD j 0)):=by intro j hj;rw[<- hm,rV hj];exact lX rfl rfl
 have asC:m0.length=is.length:=by rw[<- hm];simp[fJ]
 have aqo:=hi'.good.n;have YU:∀ b,((∃ i,aS (kQ is J) i (ak m0 i)=some b)\/N b)->(∃ i,i∈is/\aS J i (ak m i)=some b)\/N b:=by
  rintro b (⟨j,hj⟩|hN)
  case inr=>exact .inr hN
  left;rcases z06 j is.length with h1|h1
  ·rw[akj j h1] at hj;refine⟨is.getD j 0,?_,hj⟩;simp[z02,h1]
  ·rw[bI (by omega)] at hj;cases hj
 let J2:Env:= {n:=J.n+(m1.length - is.length),blk:=λi=>if i<J.n then J.blk i else J'.blk (is.length+(i - J.n)),vv:=λi=>if i<J.n then J.vv i else J'.vv (is.length+(i - J.n)),H:=J'.H}
 have hn2:=hi.good.n;have hle:J.Le J2:=⟨Nat.le_add_right _ _,λi hi=>by simp[J2,hi],λi hi=>by simp[J2,hi],hi'.kept.H⟩
 have hblk':∀ j,j<is.length->J'.blk j=J.blk (is.getD j 0):=λj hj=>hi'.blk j (by show j<is.length;exact hj)
 have aon:∀ j,j<is.length->is.getD j 0<m.length:=λj hj=>hlt _ (by simp[z02,hj])
 have aoo:∀ j,j<is.length->J'.vv j=J.vv (is.getD j 0):=λj hj=>hi'.vv j (by show j<is.length;exact hj) (Xt j hj)
 have hidx:∀ i,i∈is->is.idxOf i<is.length/\is.getD (is.idxOf i) 0=i:=by intro i hi;have hlt:=List.idxOf_lt_length_of_mem hi;exact⟨hlt,by simp[z02,hlt]⟩
 have e2b:∀ i,i<m.length->J2.blk i=J.blk i:=λi hi=>by simp[J2,hn2,hi]
 have e2v:∀ i,i<m.length->J2.vv i=J.vv i:=λi hi=>by simp[J2,hn2,hi]
 have aop:∀ i,m.length<=i->J2.blk i=J'.blk (is.length+(i - m.length)):=λi hi=>by simp[J2,hn2,z1e.2 hi]
 have aoq:∀ i,m.length<=i->J2.vv i=J'.vv (is.length+(i - m.length)):=λi hi=>by simp[J2,hn2,z1e.2 hi]
 have aeC:zC (jd is m.length) J' J2:=by
  refine⟨λj hj i hji=> ?_,λ_ _ h=>h⟩;unfold jd at hji;rw[aqo] at hj;split at hji
  ·rename_i hjl;have hg2:is.getD j 0=i:=by simp[z02,hji]
   have hil:i<m.length:=by rw[<- hg2];exact aon j hjl
   exact⟨by simp only[J2];omega,by rw[e2b i hil,hblk' j hjl,hg2],by rw[e2v i hil,aoo j hjl,hg2]⟩
  ·rename_i hjl;simp only[z0g] at hji;subst hji;have:is.length+(m.length+(j - is.length) - m.length)=j:=by omega
   exact⟨by simp only[J2];omega,by rw[aop _ (by omega),this],by rw[aoq _ (by omega),this]⟩
 have hat:=afZ (m1:=m1) hn hlt;have hA:∀ i,i∈is->aS J2 i (ak (eH is m m1) i)=aS J' (is.idxOf i) (ak m1 (is.idxOf i)):=by intro i hi;obtain⟨h1,h2⟩:=hidx i hi;rw[hat,if_pos hi];exact lX (by rw[e2b i (hlt i hi),hblk' _ h1,h2]) (by rw[e2v i (hlt i hi),aoo _ h1,h2])
 have hB:∀ i,i∉is->i<m.length->aS J2 i (ak (eH is m m1) i)=aS J i (ak m i):=by intro i hi hil;rw[hat,if_neg hi,if_pos hil];cases ak m i<;>simp[aS,e2b i hil,e2v i hil]
 have hC:∀ i,m.length<=i->aS J2 i (ak (eH is m m1) i)=aS J' (is.length+(i - m.length)) (ak m1 (is.length+(i - m.length))):=by
  intro i hi;have hni:i∉is:=λh=>by have:=hlt i h;omega
  rw[hat,if_neg hni,if_neg (by omega)]
  exact lX (aop i hi) (aoq i hi)
 have af0:∀ j b,aS J' j (ak m1 j)=some b->(∃ i,i∈is/\aS J i (ak m i)=some b)\/(w.heap.size<=b\/N b):=by
  intro j b hb;rcases hi'.own j b hb with h1|h1
  ·exact(YU b h1).imp id .inr
  ·exact .inr (.inl h1)
 have hcase:∀ i b,aS J2 i (ak (eH is m m1) i)=some b->(∃ j,aS J' j (ak m1 j)=some b/\((i∈is/\j=is.idxOf i)\/(m.length<=i/\j=is.length+(i - m.length))))\/(i∉is/\i<m.length/\aS J i (ak m i)=some b):=by
  intro i b hb;by_cases hi:i∈is
  ·rw[hA i hi] at hb;exact .inl ⟨_,hb, .inl ⟨hi,rfl⟩⟩
  ·rcases z06 i m.length with hil|hil
   ·rw[hB i hi hil] at hb;exact .inr ⟨hi,hil,hb⟩
   ·rw[hC i hil] at hb;exact .inl ⟨_,hb, .inr ⟨hil,rfl⟩⟩
 have hsame:∀ b,b<w.heap.size->(∀ i,i∈is->aS J i (ak m i)≠some b)->¬ N b->w'.heap[b]? =w.heap[b]? :=by
  intro b hb hno hN;refine hi'.kept.heap b hb (λhBb=> ?_);rcases YU b hBb with⟨i,h1,h2⟩|h
  ·exact hno i h1 h2
  ·exact hN h
 have hinv:Inv {β with B:=λb=>β.B b\/N b} J2 (eH is m m1) w':=by
  refine⟨⟨by rw[OH];simp[J2,hn2],λi=> ?_,λi j b hij h1 h2=> ?_,λi b hb=> ?_,λb o hb=>hi'.good.hv b o hb,hi'.good.gl⟩,
   ⟨hi'.kept.os.trans hi.kept.os,hi'.kept.tape.trans hi.kept.tape,hi'.kept.output.trans hi.kept.output,z0d hi.kept.size hi'.kept.size,λb hb hB2=> ?_,λb o hb=>hi'.kept.H b o (hi.kept.H b o hb),λb o hb=> ?_,λe=>z0d (hi.kept.drawn e) (hi'.kept.drawn e)⟩,
   λi b hb=> ?_,z0d hi.n (by simp only[J2];omega),λi hi2=> ?_,λi hi2 hv2=> ?_⟩
  ·by_cases him:i∈is
   ·obtain⟨h1,h2⟩:=hidx i him;rw[hat,if_pos him];exact fH.ren aeC (by rw[e2b i (hlt i him),hblk' _ h1,h2]) (by rw[e2v i (hlt i him),aoo _ h1,h2]) (hi'.good.res _)
   ·rcases z06 i m.length with hil|hil
    ·rw[hat,if_neg him,if_pos hil];have hr:=hi.good.res i;have hne:∀ b,aS J i (ak m i)=some b->w'.heap[b]? =w.heap[b]? :=λb hb=>
      hsame b (dw hi.good hb) (λi2 h1 h2=>hi.good.jY i i2 b (λe=>him (e▸h1)) hb h2) (hNo i b hb)
     cases hmi:ak m i with
     |dead=>trivial
     |blk T c=>
      rw[hmi] at hr;obtain⟨cs,h1,h2⟩:=hr;exact⟨cs,by rw[e2b i hil,hne _ (by rw[hmi];rfl)];exact h1,h2.mono c hle⟩
     |vec T w2 l=>
      rw[hmi] at hr;obtain⟨xs,⟨T0,hT0,h1⟩,h2⟩:=hr;refine⟨xs,⟨T0,hT0,?_⟩,λk hk=>(h2 k hk).mono _ hle⟩;rw[e2v i hil];refine⟨h1.1,?_⟩;rcases h1.2 with hx|⟨gg,cap,cur,q1,q2,q3,q4⟩
      ·exact .inl hx
      ·exact .inr ⟨gg,cap,cur,q1,q2,by rw[hne gg (by rw[hmi];simp[aS,q1,z0h])];exact q3,q4⟩
     |mp ek ev l=>
      rw[hmi] at hr;obtain⟨es,cl,h1,h2⟩:=hr;exact⟨es,cl,by rw[e2b i hil,hne _ (by rw[hmi];rfl)];exact h1,h2⟩
    ·rw[hat,if_neg him,if_neg (by omega)]
     exact fH.ren aeC (aop i hil) (aoq i hil) (hi'.good.res _)
  ·rcases hcase i b h1 with⟨a,ha,hai⟩|⟨hi1,hi2,hi3⟩<;>rcases hcase j b h2 with⟨c,hc,hcj⟩|⟨hj1,hj2,hj3⟩
   ·refine hi'.good.jY a c b (λe=>hij ?_) ha hc;subst e;rcases hai with⟨q1,q2⟩|⟨q1,q2⟩<;>rcases hcj with⟨q3,q4⟩|⟨q3,q4⟩
    ·rw[<- (hidx i q1).2,<- (hidx j q3).2,<- q2,<- q4]
    ·have:=(hidx i q1).1;omega
    ·have:=(hidx j q3).1;omega
    ·omega
   ·rcases af0 a b ha with⟨i2,q1,q2⟩|q
    ·exact hi.good.jY i2 j b (λe=>hj1 (e▸q1)) q2 hj3
    ·exact q.elim (λq=>by have:=dw hi.good hj3;omega) λq=>hNo _ _ hj3 q
   ·rcases af0 c b hc with⟨i2,q1,q2⟩|q
    ·exact hi.good.jY i2 i b (λe=>hi1 (e▸q1)) q2 hi3
    ·exact q.elim (λq=>by have:=dw hi.good hi3;omega) λq=>hNo _ _ hi3 q
   ·exact hi.good.jY i j b hij hi3 hj3
  ·rcases hcase i b hb with⟨a,ha,_⟩|⟨hi1,hi2,hi3⟩
   ·exact hi'.good.sep a b ha
   ·cases hh:J'.H b with
    |none=>rfl
    |some o=>
     rcases hi'.kept.fresh b o hh with q|q|q
     ·have q':J.H b=some o:=q;have:=hi.good.sep i b hi3;rw[this] at q';cases q'
     ·have:=dw hi.good hi3;have q':w.heap.size<=b:=q;omega
     ·rcases YU b q with⟨i2,q1,q2⟩|q
      ·exact absurd hi3 (hi.good.jY i2 i b (λe=>hi1 (e▸q1)) q2)
      ·exact absurd q (hNo _ _ hi3)
  ·rw[hsame b (z0f hb hi.kept.size) (λi h1 h2=>by
    rcases hi.own i b h2 with q|q
    ·exact hB2 (.inl q)
    ·have hb':b<β.w.heap.size:=hb;omega) λh=>hB2 (.inr h)]
   exact hi.kept.heap b hb λh=>hB2 (.inl h)
  ·rcases hi'.kept.fresh b o hb with q|q|q
   ·exact(hi.kept.fresh b o q).imp id λh=>h.imp id .inl
   ·exact .inr (.inl (z0d hi.kept.size q))
   ·rcases YU b q with⟨i,_,q2⟩|q
    ·rcases hi.own i b q2 with q|q
     ·exact .inr (.inr (.inl q))
     ·exact .inr (.inl q)
    ·exact .inr (.inr (.inr q))
  ·rcases hcase i b hb with⟨a,ha,_⟩|⟨_,_,hi3⟩
   ·rcases af0 a b ha with⟨i2,_,q2⟩|q
    ·exact(hi.own i2 b q2).imp .inl id
    ·exact q.elim (λq=> .inr (z0d hi.kept.size q)) λq=> .inl (.inr q)
   ·exact(hi.own i b hi3).imp .inl id
  ·have:=hi.n;have asD:i<β.J.n:=hi2;rw[e2b i (by omega)];exact hi.blk i hi2
  ·have:=hi.n;have asD:i<β.J.n:=hi2;rw[e2v i (by omega)]
   refine hi.vv i hi2 ?_;by_cases him:i∈is
   ·exact hb i him
   ·rw[hat,if_neg him,if_pos (by omega)] at hv2;exact hv2
 exact⟨J2,hle,λv hv=>hv.ren aeC,hinv⟩
theorem GL{m m0 m1:List ay}{res:SV}(is:List Nat)(hn:is.Nodup)(hb:∀ i∈is,(ak m i).qw=true)
  (hm:fJ is m=m0) (hl:is.length<=m1.length) (Xt:∀ j,j<is.length->(ak m1 j).qw=true) {ρ:Root} {J J':Env} {x x':OW} (hi:dh F ρ J m x)
  (hi':dh F (.at (kQ is J) m0 x) J' m1 x'):∃ J2,J.Le J2/\(∀ v,bK J' res v->bK J2 (ren (jd is m.length) res) v)/\dh F ρ J2 (eH is m m1) x':=by
 have hw:=hi.rely (w1:=(Root.at (kQ is J) m0 x).mix F x'.w) ⟨hi'.os,hi'.tape,hi'.output,by simp only[Root.mix,bJ];exact hi'.size,λb hb=>nK hb (hb.elim (hi.lt b) (hi.Ea.Fl b)) (z0f (hb.elim (hi.lt b) (hi.Ea.Fl b)) hi'.size)⟩
 obtain⟨J2,h1,h2,h3⟩:=abw (res:=res) is hn hb hm hl Xt hw.inv (N:=λb=>x'.O b/\x.w.heap.size<=b) (λi b hb hN=>by have:=dw hi.inv.good hb;omega) (λb o hb hN=>by have:=wo hi.inv.good hb;omega) hi'.inv
 refine⟨J2,h1,h2,hi.rt,?_,λb hb=>hi'.sub b (hi.sub b hb),λb hb=>(hi'.new b hb).elim (hi.new b) λh=> .inr (z0d hi.size h),hi'.lt,z0d hi.size hi'.size,hi'.os.trans hi.os,hi'.tape.trans hi.tape,hi'.output.trans hi.output⟩;have hsz:ρ.w.heap.size<=x.w.heap.size:=hi.size;have hBB:∀ b,((ρ.base F ⟨(Root.at (kQ is J) m0 x).mix F x'.w,x.O⟩).B b\/(x'.O b/\x.w.heap.size<=b))->(ρ.base F x').B b:=by
  rintro b ((hb|hb)|hb)
  ·exact .inl hb
  ·exact .inr ⟨hi'.sub b hb.1,hb.2⟩
  ·exact .inr ⟨hb.1,z0d hsz hb.2⟩
 refine h3.move rfl (λ_ _ _=>rfl) (λ_ _ _=>rfl) ⟨rfl,rfl,rfl,by simp[Root.base,Root.mix,bJ],λb hb hB=> ?_,h3.kept.H,λb o hb=> ?_,λ_=>z07 _⟩ λi b hb=> ?_
 ·simp only[Root.base,Root.mix,bJ] at hb ⊢;by_cases hk:ρ.O b\/F b
  ·have hlt:b<ρ.w.heap.size:=hk.elim (hi.rt.Ol b) (hi.rt.Fl b);rw[nK hk hlt hb];have h4:=h3.kept.heap b (by simp only[Root.base,Root.mix,bJ];exact hb) (λh=>hB (hBB b h))
   rw[h4];exact nK hk hlt (by simp only[Root.mix,bJ];exact hb)
  ·rw[BD hk]
 ·rcases h3.kept.fresh b o hb with h|h|h
  ·exact .inl h
  ·have:=wo h3.good hb;simp only[Root.base,Root.mix,bJ] at h;omega
  ·exact .inr (.inr (hBB b h))
 ·rcases h3.own i b hb with h|h
  ·exact .inl (hBB b h)
  ·have:=dw h3.good hb;simp only[Root.base,Root.mix,bJ] at h;omega
theorem dh.amO{ρ:Root}{J:Env}{m m0:List ay}{x:OW}{is:List Nat}(hi:dh F ρ J m x)(hn:is.Nodup)(hm:fJ is m=m0):fP F (kQ is J) m0 x:=by
 have hg:=hi.inv.good.sel is hn;rw[hm] at hg;refine⟨hg,λj b hj=> ?_,λb o h=>hi.jZ h,hi.lt,hi.Ea.Fl⟩;have asC:m0.length=is.length:=by rw[<- hm];simp[fJ]
 rcases z06 j is.length with h1|h1
 ·rw[<- hm,rV h1,lX (J:=J) (J':=kQ is J) (i:=is.getD j 0) rfl rfl] at hj;exact hi.own hj
 ·rw[bI (by omega)] at hj;cases hj
theorem abx{f:FuncId}{nH:List SV}{m m0 m1:List ay}{res:SV}(h:bC P main F f nH m0 res m1)(is:List Nat)(hn:is.Nodup)(hb:∀ i∈is,(ak m i).qw=true)
  (hm:fJ is m=m0) (hl:is.length<=m1.length) (Xt:∀ j,j<is.length->(ak m1 j).qw=true) {ρ:Root} {J:Env} {vs:List Value} {x:OW} (hi:dh F ρ J m x) (hs':bT nH (kQ is J) vs):
  yc P main F f vs.toArray x λv x'=> ∃ J',J.Le J'/\bK J' (ren (jd is m.length) res) v/\dh F ρ J' (eH is m m1) x':=
 (h _ _ _ (hi.amO hn hm) hs').mono λv x' ⟨J',hv,hi'⟩=>by obtain⟨J2,h1,h2,h3⟩:=GL (res:=res) is hn hb hm hl Xt hi hi';exact⟨J2,h1,h2 v hv,h3⟩
theorem lG{f:FuncId}{args nH:List SV}{m m0 m1:List ay}{res:SV}(h:bC P main F f nH m0 res m1)(is:List Nat)(hn:is.Nodup)(hb:∀ i∈is,(ak m i).qw=true)
  (ha:dH (fQ is) args=nH) (hm:fJ is m=m0) (hl:is.length<=m1.length) (Xt:∀ j,j<is.length->(ak m1 j).qw=true):qh P main F f args m (ren (jd is m.length) res) (eH is m m1):=by
 intro ρ J vs x hi hs;have hs':=bT.ren (fQ is) args (nN is J) hs;rw[ha] at hs';exact abx h is hn hb hm hl Xt hi hs'
theorem SS{f:FuncId}{args nH:List SV}{m m1:List ay}{res:SV}(h:bC P main F f nH [] res m1)(ha:dH (λ_=>none) args=nH):
  qh P main F f args m (ren (λj=>some (m.length+j)) res) (m++m1.map (dR λj=>some (m.length+j))):=by
 have:=lG (m:=m) h [] z0r (λ_ h=>by cases h) (by rw[show fQ []=λ_=>none from funext λi=>by simp[fQ]];exact ha) rfl (z0c _) (λ_ h=>by cases h)
 have e:(jd [] m.length)=λj=>some (m.length+j):=by funext j;simp[jd]
 rw[e] at this;have e2:eH [] m m1=m++m1.map (dR λj=>some (m.length+j)):=by simp[eH,e]
 rw[e2] at this;exact this
def afm(ks:List Nat)(n0:Nat)(res:SV)(m1:List ay)(m:List ay)(x:SV):Prop:=
 (ks.Nodup/\∀ i,i<n0->ks[i]? =some i)/\ren (fQ ks) x=res/\fJ ks m=m1
def resV(tmps:Array Value):ResultVar->Sem Value
 | .tmp t=>pure (tmps.getD t undef)
 | .cell b t=>do loadVar t (<- asAddr (tmps.getD b undef))
def aqp:List Value->Value
 |[v]=>v
 |vs=> .tuple vs.toArray
theorem mO{fn:Func}{tmps:Array Value}{w:World}{rs:List ResultVar}(hrs:fn.results.toList=rs){vs:List Value}
  (h:(rs.mapM (resV tmps)).run P w= .ok vs w):(results fn tmps).run P w= .ok (aqp vs) w:=by
 have e:results fn tmps=(do let vs <- fn.results.mapM (resV tmps);pure (if h:vs.size=1 then vs[0] else .tuple vs)):=by
  unfold results
  congr 1
 rw[e,z0y,hrs];simp only[Sem.run_bind,Sem.run_map,h,Result.andThen_ok,z15]
 congr 1
 match vs with
 |[]=>rfl
 |[v]=>rfl
 |v::u::r=>simp[aqp]
theorem rE{fn:Func}{tmps:Array Value}{w:World}{es:Array Event}{rs:List ResultVar}(hrs:fn.results.toList=rs){vs:List Value}
  (h:(rs.mapM (resV tmps)).run P w= .ok vs w):(results fn tmps).events P w es=(rs.mapM (resV tmps)).events P w es:=by
 have e:results fn tmps=(do let vs <- fn.results.mapM (resV tmps);pure (if h:vs.size=1 then vs[0] else .tuple vs)):=by
  unfold results
  congr 1
 rw[e,z0y,hrs];simp only[z1m,Sem.run_map,h,Result.andThen_ok,Sem.events_map,Result.evThen_ok,z1l]
def Same(J:Env)(m:List ay)(w w1:World):Prop:=(∀ i b,aS J i (ak m i)=some b->w1.heap[b]? =w.heap[b]?)/\∀ b o,J.H b=some o->w1.heap[b]? =w.heap[b]?
def EvR(J:Env)(m:List ay)(es:Array Event):Prop:=Ls (λb=>(∃ i,aS J i (ak m i)=some b)\/∃ o,J.H b=some o) (λ_=>False) es
theorem res_one{σ:List SV}{m:List ay}{r:ResultVar}{K:SV->Prop}
  (h:match r with
   | .tmp t=>K (σ.getD t .junk)
   | .cell t T=>match rP P T with
    |some (n,ag)=>peek m n ag K (σ.getD t .junk)
    |none=>False):∃ x,K x/\∀ J a w,Good J m w->aH J σ a->∃ v,bK J x v/\∀ w1,Same J m w w1->(resV a.tmps r).run P w1= .ok v w1/\∀ es,EvR J m es->EvR J m ((resV a.tmps r).events P w1 es):=by
 cases r with
 |tmp t=>exact⟨_,h,λJ a w hg hs=>⟨_,hs.2 t,λ_ _=>⟨rfl,λ_ h=>h⟩⟩⟩
 |cell t T=>
  simp only at h;split at h
  ·rename_i n ag ht;obtain⟨c,hK,hag,hone,hh⟩:=YB h;refine⟨c,hK,λJ a w hg hs=> ?_⟩;obtain⟨b,off,cur,T',fz,e1,e2,e3,e4,e5⟩:=hh J w _ hg (hs.2 t);refine⟨_,hag▸gJ e4,λw1 hw1=> ?_⟩;have e2':w1.heap[b]? =some (.cells cur T' fz):=by
    rw[<- e2];rcases e5 with⟨i,hi⟩|⟨o,ho⟩
    ·exact hw1.1 i b hi
    ·exact hw1.2 b o ho
   refine⟨by simp only[resV,Sem.run_bind,e1,asAddr,z15,Result.andThen_ok,Ep ht hone w1 e2' e3],λes hes=> ?_⟩
   have:(resV a.tmps (.cell t T)).events P w1 es=(loadVar T ⟨b,off,none⟩).events P w1 es:=by simp only[resV,z1m,e1,asAddr,z15,z1l,Result.evThen_ok]
   rw[this];exact Ir ht hone w1 e2' e3 hes (.inr e5)
  ·exact h.elim
theorem af2{σ:List SV}{m:List ay}:∀ {rs:List ResultVar} {K:List SV->Prop},qW.go P σ m rs K->∃ xs,K xs/\∀ J a w,Good J m w->aH J σ a->∃ vs,bT xs J vs/\vs.length=rs.length/\∀ w1,Same J m w w1->(rs.mapM (resV a.tmps)).run P w1= .ok vs w1/\∀ es,EvR J m es->EvR J m ((rs.mapM (resV a.tmps)).events P w1 es)
 |[],K,h=>⟨[],h,λ_ _ _ _ _=>⟨[],rfl,rfl,λ_ _=>⟨rfl,λ_ h=>h⟩⟩⟩
 |r::rs,K,h=>by
  have h':∃ x,(x.isVal=true/\qW.go P σ m rs λxs=>K (x::xs))/\∀ J a w,Good J m w->aH J σ a->∃ v,bK J x v/\∀ w1,Same J m w w1->(resV a.tmps r).run P w1= .ok v w1/\∀ es,EvR J m es->EvR J m ((resV a.tmps r).events P w1 es):=by apply res_one;cases r<;>simp only[qW.go] at h<;>exact h
  obtain⟨x,⟨hx,hgo⟩,hrun⟩:=h';obtain⟨xs,hK,hrun2⟩:=af2 hgo;refine⟨x::xs,hK,λJ a w hg hs=> ?_⟩;obtain⟨v,e2,e1⟩:=hrun J a w hg hs;obtain⟨vs,e4,e5,e3⟩:=hrun2 J a w hg hs;obtain⟨cs,e6,e7⟩:=fF e2 hx;refine⟨v::vs,?_,by simp[e5],λw1 hw1=> ?_⟩
  ·simp only[bT];exact⟨cs,vs,by rw[e7],e6,e4⟩
  ·obtain⟨k1,k2⟩:=e1 w1 hw1;obtain⟨k3,k4⟩:=e3 w1 hw1;refine⟨by simp[z0s,k1,k3],λes hes=> ?_⟩
   have:((r::rs).mapM (resV a.tmps)).events P w1 es=(rs.mapM (resV a.tmps)).events P w1 ((resV a.tmps r).events P w1 es):=by simp[z0s,k1]
   rw[this];exact k4 _ (k2 _ hes)
theorem Xu{σ:List SV}{m:List ay}{K:SV->Prop}{fn:Func}{rs:List ResultVar}(hrs:fn.results.toList=rs)(h:qW P σ m K rs):
  ∃ x,K x/\∀ J a w,Good J m w->aH J σ a->∃ v,bK J x v/\∀ w1,Same J m w w1->(results fn a.tmps).run P w1= .ok v w1/\EvR J m ((results fn a.tmps).events P w1 #[]):=by
 have one:∀ (r:ResultVar),rs=[r]->(match r with
   | .tmp t=>K (σ.getD t .junk)
   | .cell t T=>match rP P T with
    |some (n,ag)=>peek m n ag K (σ.getD t .junk)
    |none=>False)->∃ x,K x/\∀ J a w,Good J m w->aH J σ a->∃ v,bK J x v/\∀ w1,Same J m w w1->(results fn a.tmps).run P w1= .ok v w1/\EvR J m ((results fn a.tmps).events P w1 #[]):=by
  rintro r rfl h;obtain⟨x,hK,hrun⟩:=res_one (P:=P) (σ:=σ) (m:=m) (r:=r) h;refine⟨x,hK,λJ a w hg hs=> ?_⟩;obtain⟨v,e2,e1⟩:=hrun J a w hg hs;refine⟨v,e2,λw1 hw1=> ?_⟩;obtain⟨k1,k2⟩:=e1 w1 hw1;have h1:([r].mapM (resV a.tmps)).run P w1= .ok [v] w1:=by simp[z0s,k1]
  refine⟨mO hrs (vs:=[v]) h1,?_⟩;rw[rE hrs h1];have:([r].mapM (resV a.tmps)).events P w1 #[]=(resV a.tmps r).events P w1 #[]:=by simp[z0s]
  rw[this];exact k2 _ (Ls.nil _ _)
 match rs,hrs,h,one with
 |[],hrs,h,_=>exact⟨_,h,λJ a w hg hs=>⟨_,⟨[],rfl,rfl⟩,λw1 hw1=>⟨mO hrs (vs:=[]) rfl,by rw[rE hrs (vs:=[]) rfl];exact Ls.nil _ _⟩⟩⟩
 |[.tmp t],hrs,h,one=>exact one _ rfl h
 |[.cell t T],hrs,h,one=>exact one _ rfl h
 |r1::r2::rs,hrs,h,_=>
  have h':qW.go P σ m (r1::r2::rs) λxs=>K (.cu xs):=by cases r1<;>exact h
  obtain⟨xs,hK,hrun⟩:=af2 h';refine⟨_,hK,λJ a w hg hs=> ?_⟩;obtain⟨vs,e2,e3,e1⟩:=hrun J a w hg hs;refine⟨_,⟨vs,e2,?_⟩,λw1 hw1=>⟨mO hrs (e1 w1 hw1).1,?_⟩⟩
  ·match vs,e3 with
   |v::u::vs,_=>rfl
  ·rw[rE hrs (e1 w1 hw1).1];exact(e1 w1 hw1).2 _ (Ls.nil _ _)
theorem dh.alJ{ρ:Root}{J:Env}{m:List ay}{x:OW}(h:dh F ρ J m x){w1:World}(hr:Rel x.O F x.w w1):Same J m x.w w1:=⟨λi b hb=>hr.heap b (.inl (h.own hb)),λb o hb=>hr.heap b (h.jZ hb)⟩
theorem dh.evR{ρ:Root}{J:Env}{m:List ay}{x:OW}(h:dh F ρ J m x){w1:World}(hr:Rel x.O F x.w w1){es:Array Event}(he:EvR J m es):∀ e∈es,Iq x.O F w1.heap.size w1.heap.size e:=λe hm=>by
 rcases he e hm with⟨h1,b,h2,h3⟩|⟨mk,rfl,hn⟩
 ·refine .inl ⟨h1,?_⟩;have key:b<w1.heap.size/\(x.O b\/w1.heap.size<=b\/(F b/\e.write=false)):=by
   rcases h3 with h3|⟨⟨i,hi⟩|⟨o,hb⟩,hw⟩
   ·exact h3.elim
   ·exact⟨z0f (dw h.inv.good hi) hr.size, .inl (h.own hi)⟩
   ·exact⟨z0f (wo h.inv.good hb) hr.size,(h.jZ hb).imp id λhf=> .inr ⟨hf,hw⟩⟩
  cases hl:e.loc<;>rw[hl] at h2<;>simp only[Loc.bk,z0g] at h2<;>try (cases h2;done)
  all_goals (subst h2;exact key)
 ·exact .inr ⟨mk,rfl,hn⟩
def ar4(rs:List ResultVar)(P:Program)(n0:Nat)(res:SV)(m1:List ay)(e:Ex)(σ:List SV)(m:List ay):Prop:=match e with
 | .exit _=>False
 |_=>qW P σ m (λx=> ∃ ks,afm ks n0 res m1 m x) rs
theorem afn{fn:Func}{rs:List ResultVar}(hrs:fn.results.toList=rs){J J':Env}{m0 m' m1:List ay}{res:SV}{σ':List SV}{x x':OW}{a:Act}(hg:fP F J m0 x)(h3:dh F (.at J m0 x) J' m' x')(h4:aH J' σ' a)(h5:a.defers=[])
  (hres:qW P σ' m' (λy=> ∃ ks,afm ks m0.length res m1 m' y) rs):a.defers=[]/\∃ v,(∃ aqr,bK aqr res v/\dh F (.at J m0 x) aqr m1 x')/\∀ w1,Rel x'.O F x'.w w1->(results fn a.tmps).run P w1= .ok v w1/\∀ e∈(results fn a.tmps).events P w1 #[],Iq x'.O F w1.heap.size w1.heap.size e:=by
 obtain⟨y,⟨ks,⟨k1,k2⟩,k3,k4⟩,hrun⟩:=Xu hrs hres;obtain⟨v,e2,e1⟩:=hrun J' a x'.w h3.inv.good h4;refine⟨h5,v,⟨kQ ks J',?_,?_⟩,λw1 hr=>⟨(e1 w1 (h3.alJ hr)).1,h3.evR hr (e1 w1 (h3.alJ hr)).2⟩⟩
 ·rw[<- k3];exact e2.ren (nN ks J')
 ·rw[<- k4];exact h3.same (h3.inv.sel ks k1 (λi hi=>k2 i (by rw[<- hg.good.n];exact hi)))
end Go.Sx
namespace Go.Sx
open Go
variable {P:Program} {main:Bool} {F:Nat->Prop}
def bW(P:Program)(quiet:FuncId->Bool)(f:FuncId):Option (IC×List ResultVar×Nat):=match P.funcs[f]? with
 |some fn=>match fn.body with
  |some c=>match comp P quiet c with
   |some ic=>if fn.name != "runtime.NumGoroutine" then some (ic,fn.results.toList,fn.ntmps) else none
   |none=>none
  |none=>none
 |none=>none
theorem ajV{quiet:FuncId->Bool}{f:FuncId}{ic:IC}{rs:List ResultVar}{nt:Nat}(h:bW P quiet f=some (ic,rs,nt)):qp P f=true/\∃ fn c,P.funcs[f]? =some fn/\fn.body=some c/\comp P quiet c=some ic/\fn.results.toList=rs/\fn.ntmps=nt:=by
 unfold bW at h;split at h<;>try (cases h;done)
 rename_i fn hf;split at h<;>try (cases h;done)
 rename_i c hc;split at h<;>try (cases h;done)
 rename_i ic' hic;split at h<;>try (cases h;done)
 rename_i hn;simp only[z0g,Prod.mk.injEq] at h;obtain⟨rfl,rfl,rfl⟩:=h;refine⟨?_,fn,c,hf,hc,hic,rfl,rfl⟩;unfold qp;rw[hf];simp only[z00];exact⟨hn,by rw[hc];rfl⟩
def bG:FuncId->Bool:=λ_=>true
def apW(l:List FuncId):FuncId->Bool:=λf=> !l.contains f
@[reducible] def I(n:Int):aV:= .c (.int .i64 n)
@[reducible] def B(b:Bool):aV:= .c (.bool b)
end Go.Sx
namespace Go.Sx
open Go
variable {P:Program} {main:Bool} {F:Nat->Prop}
noncomputable def jZ(J:Env)(m:List ay)(w:World):Env:=
 {J with H:=λb=>open Classical in if ∃ i,aS J i (ak m i)=some b then w.heap[b]? else J.H b}
def jk(m:List ay):List ay:=m.map λ_=> .dead
theorem l7(m:List ay)(i:Nat):ak (jk m) i= .dead:=by unfold ak jk;rw[z02,z0i];cases m[i]? <;>rfl
theorem uS{J:Env}{m:List ay}{w:World}{i b:Nat}(h:aS J i (ak m i)=some b):(jZ J m w).H b=w.heap[b]? :=by unfold jZ;simp only;rw[if_pos ⟨i,h⟩]
theorem wP{J:Env}{m:List ay}{w:World}(g:Good J m w):∀ b o,J.H b=some o->(jZ J m w).H b=some o:=by
 intro b o h;unfold jZ;simp only;split
 ·rename_i hh;obtain⟨i,hi⟩:=hh;rw[g.sep i b hi] at h;cases h
 ·exact h
theorem Inv.freeze{β:Base}{J:Env}{m:List ay}{w:World}(h:Inv β J m w):Inv β (jZ J m w) (jk m) w:=by
 have g:=h.good;refine⟨⟨by simp[jZ,jk];exact g.n,(λi=>by rw[l7];trivial),(λi j b _ h1=>by rw[l7] at h1;cases h1),(λi b h1=>by rw[l7] at h1;cases h1),λb o hb=> ?_,g.gl.mono (wP g)⟩,
  ⟨h.kept.os,h.kept.tape,h.kept.output,h.kept.size,h.kept.heap,λb o hb=>wP g b o (h.kept.H b o hb),λb o hb=> ?_,h.kept.drawn⟩,(λi b h1=>by rw[l7] at h1;cases h1),h.n,h.blk,(λi _ hv=>by rw[l7] at hv;cases hv)⟩
 ·unfold jZ at hb;simp only at hb;split at hb
  ·exact hb
  ·exact g.hv b o hb
 ·unfold jZ at hb;simp only at hb;split at hb
  ·rename_i hh;obtain⟨i,hi⟩:=hh;rcases h.own i b hi with h1|h1
   ·exact .inr (.inr h1)
   ·exact .inr (.inl h1)
  ·exact h.kept.fresh b o hb
def Gs(x:SV):Prop:= ∀ J J' cs,J'.n=J.n->J'.blk=J.blk->J'.vv=J.vv->ah x J cs->ah x J' cs
def Gu(x:SV):Prop:= ∀ J J' v,J'.n=J.n->J'.blk=J.blk->J'.vv=J.vv->bK J x v->bK J' x v
def sN:ay->Prop
 | .dead=>True
 | .blk _ c=>Gs c
 | .vec _ _ l=> ∀ j,j<l.length->Gs (l.getD j .junk)
 | .mp .. =>True
theorem iZ(k n):Gs (.int k n):=λ_ _ _ _ _ _ h=>h
theorem QG(b):Gs (.bool b):=λ_ _ _ _ _ _ h=>h
theorem Yg(b):Gs (.str b):=λ_ _ _ _ _ _ h=>h
theorem Yb(i n):Gs (.vec i n):=λJ J' cs h1 h2 h3 h=>by simp only[ah] at h ⊢;rw[h1,h3];exact h
theorem MX(i p o):Gs (.ptr i p o):=λJ J' cs h1 h2 h3 h=>by simp only[ah] at h ⊢;rw[h1,h2];exact h
theorem uT{l:List SV}(h:∀ x∈l,Gs x):Gs (.agg l):=by
 intro J J' cs h1 h2 h3 hc;simp only[ah] at hc ⊢
 induction l generalizing cs with
 |nil=>exact hc
 |cons x r ih=>
  simp only[bV] at hc ⊢;obtain⟨a,b,e1,e2,e3⟩:=hc;exact⟨a,b,e1,h x (by simp) J J' a h1 h2 h3 e2,ih (λy hy=>h y (by simp[hy])) _ e3⟩
theorem Nh{n w:Nat}{f:Nat->SV}(h:∀ i,i<n->Gs (f i)):Gs (.arr n w f):=by intro J J' cs h1 h2 h3 hc;simp only[ah] at hc ⊢;exact⟨hc.1,λi hi=>h i hi J J' _ h1 h2 h3 (hc.2 i hi)⟩
theorem Gs.val{x:SV}(h:Gs x)(hv:x.isVal=true):Gu x:=by intro J J' v h1 h2 h3 hs;obtain⟨cs,e1,e2⟩:=fF hs hv;rw[e2];exact gJ (h J J' cs h1 h2 h3 e1)
theorem ari{l:List SV}(h:∀ x∈l,Gs x){J J':Env}(h1:J'.n=J.n)(h2:J'.blk=J.blk)(h3:J'.vv=J.vv):∀ {vs},bT l J vs->bT l J' vs:=by
 induction l with
 |nil=>intro vs hs;exact hs
 |cons x r ih=>
  intro vs hs;simp only[bT] at hs ⊢;obtain⟨cs,t,e1,e2,e3⟩:=hs;exact⟨cs,t,e1,h x (by simp) J J' cs h1 h2 h3 e2,ih (λy hy=>h y (by simp[hy])) e3⟩
theorem wM{l:List SV}(h:∀ x∈l,Gs x):Gu (.cu l):=by intro J J' v h1 h2 h3 ⟨vs,e1,e2⟩;exact⟨vs,ari h h1 h2 h3 e1,e2⟩
theorem CU:Gu .junk:=λ_ _ _ _ _ _ _=>trivial
theorem sN.ok{J J':Env}{w:World}{i:Nat}{x:ay}(hx:sN x)(h1:J'.n=J.n)(h2:J'.blk=J.blk)(h3:J'.vv=J.vv)(h:fH J i w x):fH J' i w x:=by
 cases x with
 |dead=>trivial
 |blk T c=>
  obtain⟨cs,e1,e2⟩:=h;exact⟨cs,by rw[h2];exact e1,hx J J' cs h1 h2 h3 e2⟩
 |vec T w' l=>
  obtain⟨xs,e1,e2⟩:=h;exact⟨xs,by rw[h3];exact e1,λj hj=>hx j hj J J' _ h1 h2 h3 (e2 j hj)⟩
 |mp ek ev l=>
  obtain⟨es,cl,e1,e2⟩:=h;exact⟨es,cl,by rw[h2];exact e1,e2⟩
noncomputable def thaw(J:Env)(m:List ay)(J':Env):Env:=
 {J' with H:=λb=>open Classical in if ∃ i,aS J i (ak m i)=some b then none else J'.H b}
theorem Inv.thaw{β0 β:Base}{J J':Env}{m new:List ay}{w w':World}(h:Inv β0 J m w)(hε:β0.J=β.J)(hO:∀ i b,aS J i (ak m i)=some b->β.B b\/β.w.heap.size<=b)(hle:(jZ J m w).Le J')(h':Inv β J' (jk m++new) w')(hnew:∀ x∈new,sN x):
  Inv β (Sx.thaw J m J') (m++new) w'/\J.Le (Sx.thaw J m J'):=by
 have g:=h.good;have g':=h'.good;have hn:J.n=m.length:=g.n;have hdl:(jk m).length=m.length:=by simp[jk]
 have ak1:∀ i,m.length<=i->ak (m++new) i=ak (jk m++new) i:=by intro i hi;simp only[ak,z02];rw[z08 hi,z08 (by rw[hdl];exact hi),hdl]
 have hold:∀ i,i<m.length->ak (m++new) i=ak m i:=λi hi=>bD hi;have eb:∀ i,i<m.length->(Sx.thaw J m J').blk i=J.blk i:=λi hi=>hle.blk i (by show i<J.n;omega)
 have ev:∀ i,i<m.length->(Sx.thaw J m J').vv i=J.vv i:=λi hi=>hle.vv i (by show i<J.n;omega)
 have eo:∀ i,i<m.length->aS (Sx.thaw J m J') i (ak (m++new) i)=aS J i (ak m i):=by intro i hi;rw[hold i hi];cases ak m i<;>simp[aS,eb i hi,ev i hi]
 have en:∀ i,m.length<=i->aS (Sx.thaw J m J') i (ak (m++new) i)=aS J' i (ak (jk m++new) i):=by intro i hi;rw[ak1 i hi];rfl
 have Nj:∀ i b,aS J i (ak m i)=some b->w'.heap[b]? =w.heap[b]? :=by
  intro i b hb;cases hw:w.heap[b]? with
  |none=>
   have:=dw g hb;simp at hw;omega
  |some o=>exact g'.hv b o (hle.H b o (by rw[uS hb];exact hw))
 have hle2:J.Le (Sx.thaw J m J'):=by
  refine⟨hle.n,λi hi=>hle.blk i hi,λi hi=>hle.vv i hi,λb o hb=> ?_⟩;unfold Sx.thaw;simp only;split
  ·rename_i hh;obtain⟨i,hi⟩:=hh;rw[g.sep i b hi] at hb;cases hb
  ·exact hle.H b o (wP g b o hb)
 refine⟨⟨⟨?_,λi=> ?_,λi j b hij h1 h2=> ?_,λi b hb=> ?_,λb o hb=> ?_,h.good.gl.mono hle2.H⟩,⟨h'.kept.os,h'.kept.tape,h'.kept.output,h'.kept.size,h'.kept.heap,λb o hb=>hle2.H b o (h.kept.H b o (by rw[hε];exact hb)),λb o hb=> ?_,h'.kept.drawn⟩,λi b hb=> ?_,?_,λi hi=> ?_,λi hi hv=> ?_⟩,hle2⟩
 ·have:=g'.n;simp only[List.length_append,hdl] at this ⊢;exact this
 ·rcases z06 i m.length with hi|hi
  ·rw[hold i hi];have hr:=g.res i;cases hm:ak m i with
   |dead=>trivial
   |blk T c=>
    rw[hm] at hr;obtain⟨cs,e1,e2⟩:=hr;exact⟨cs,by rw[eb i hi,Nj i _ (by rw[hm];rfl)];exact e1,ah.mono c hle2 e2⟩
   |vec T wd l=>
    rw[hm] at hr;obtain⟨xs,⟨T0,hT0,e0,e1⟩,e2⟩:=hr;refine⟨xs,⟨T0,hT0,e0,?_⟩,λj hj=>ah.mono _ hle2 (e2 j hj)⟩;rw[ev i hi];rcases e1 with e1|⟨b,cap,cur,k1,k2,k3,k4,k5,k6,k7⟩
    ·exact .inl e1
    ·exact .inr ⟨b,cap,cur,k1,k2,by rw[Nj i b (by rw[hm];simp[aS,k1,z0h])];exact k3,k4,k5,k6,k7⟩
   |mp ek ev l=>
    rw[hm] at hr;obtain⟨es,cl,e1,e2⟩:=hr;exact⟨es,cl,by rw[eb i hi,Nj i _ (by rw[hm];rfl)];exact e1,e2⟩
  ·rw[ak1 i hi];have hx:sN (ak (jk m++new) i):=by
    simp only[ak,z02];rw[z08 (by rw[hdl];exact hi),hdl]
    cases hh:new[i - m.length]? with
    |none=>trivial
    |some x=>exact hnew x (List.mem_of_getElem? hh)
   exact sN.ok (J:=J') hx rfl rfl rfl (g'.res i)
 ·have key:∀ i j,i<m.length->m.length<=j->aS J i (ak m i)=some b->aS J' j (ak (jk m++new) j)=some b->False:=by
   intro i j _ _ h1 h2;have e1:=g'.sep j b h2;have hb:=dw g h1;have e2:(jZ J m w).H b=some w.heap[b]:=by rw[uS h1];simp[hb]
   rw[hle.H b _ e2] at e1;cases e1
  rcases z06 i m.length with hi|hi<;>rcases z06 j m.length with hj|hj
  ·rw[eo i hi] at h1;rw[eo j hj] at h2;exact g.jY i j b hij h1 h2
  ·rw[eo i hi] at h1;rw[en j hj] at h2;exact key i j hi hj h1 h2
  ·rw[en i hi] at h1;rw[eo j hj] at h2;exact key j i hj hi h2 h1
  ·rw[en i hi] at h1;rw[en j hj] at h2;exact g'.jY i j b hij h1 h2
 ·unfold Sx.thaw;simp only;split
  ·rfl
  ·rcases z06 i m.length with hi|hi
   ·rename_i hh;rw[eo i hi] at hb;exact absurd ⟨i,hb⟩ hh
   ·rw[en i hi] at hb;exact g'.sep i b hb
 ·unfold Sx.thaw at hb;simp only at hb;split at hb
  ·cases hb
  ·exact g'.hv b o hb
 ·unfold Sx.thaw at hb;simp only at hb;split at hb
  ·cases hb
  ·exact h'.kept.fresh b o hb
 ·rcases z06 i m.length with hi|hi
  ·rw[eo i hi] at hb;exact hO i b hb
  ·rw[en i hi] at hb;exact h'.own i b hb
 ·exact h'.n
 ·exact h'.blk i hi
 ·rw[<- hε] at hi ⊢;have him:i<m.length:=by have:=h.n;omega
  rw[hold i him] at hv;rw[ev i him];exact h.vv i hi hv
theorem adW{f:FuncId}{args nH:List SV}{m m1:List ay}{res:SV}(h:bC P main F f nH [] res m1)(ha:∀ J w vs,Good J m w->bT args J vs->bT nH (jZ J m w).cl vs)
  (hres:Gu (ren (jd [] m.length) res)) (hm1:∀ x∈m1,sN (dR (jd [] m.length) x)):
  qh P main F f args m (ren (jd [] m.length) res) (m++m1.map (dR (jd [] m.length))):=by
 intro ρ J vs x hi hs;have hs':bT nH (kQ [] (jZ J m x.w)) vs:=bT.mono nH (J:=(jZ J m x.w).cl) ⟨z07 _,λ_ h=>absurd h (z09 _),λ_ h=>absurd h (z09 _),λ_ _ h=>h⟩ (ha _ _ _ hi.inv.good hs);have hdl:(jk m).length=m.length:=by simp[jk]
 have hf:dh F ρ (jZ J m x.w) (jk m) x:=hi.same hi.inv.freeze;refine(h _ _ _ (hf.amO (m0:=[]) z0r rfl) hs').mono λv x' ⟨J',hv,hi'⟩=> ?_;obtain⟨J2,hle,hvv,hi2⟩:=GL (res:=res) (m:=jk m) (m0:=[]) [] z0r (λi h=>by cases h) rfl (z0c _) (λj hj=>absurd hj (z09 _)) hf hi'
 have hv:=hvv v hv;have hmm:eH [] (jk m) m1=jk m++m1.map (dR (jd [] m.length)):=by simp[eH,hdl]
 rw[hmm] at hi2;rw[hdl] at hv;obtain⟨k1,k2⟩:=Inv.thaw hi.inv (β:=ρ.base F x') rfl (λi b hb=>by
   rcases hi.inv.own i b hb with h|h
   ·exact .inl (h.imp id λh=>⟨hi'.sub b h.1,h.2⟩)
   ·have:=dw hi.inv.good hb;simp only[Root.base,Root.mix,bJ] at h;omega) hle hi2.inv (by
  intro x hx;obtain⟨y,hy,rfl⟩:=List.mem_map.1 hx;exact hm1 y hy)
 exact⟨_,k2,hres J2 _ v rfl rfl rfl hv,hi2.same k1⟩
end Go.Sx
namespace Go.Sx
open Go
variable {P:Program} {main:Bool} {Fz:Nat->Prop}
section words
variable {Γ:Hook} {n0:Nat} {Q:Ex->List SV->List ay->Prop} {σ:List SV} {m:List ay}
end words
structure Hide{α β γ:Sort _}(x:α)(y:β)(z:γ):Type where
theorem La{σ:List SV}{m:List ay}{K K':SV->Prop}(h:∀ x,K x->K' x):∀ {rs:List ResultVar},qW P σ m K rs->qW P σ m K' rs:=by
 have hpk:∀ {n:Nat} {ag:Bool} {K K':SV->Prop} (_:∀ x,K x->K' x) {x:SV},peek m n ag K x->peek m n ag K' x:=by
  intro n ag K K' h x hh;cases x<;>simp only[peek] at hh ⊢ <;>first
   |exact hh
   |exact⟨hh.1,h _ hh.2⟩
   |(split at hh<;>first|exact hh.elim|exact⟨hh.1,h _ hh.2⟩)
 have hgo:∀ (l:List ResultVar) {K K':List SV->Prop} (_:∀ x,K x->K' x),qW.go P σ m l K->qW.go P σ m l K':=by
  intro l
  induction l with
  |nil=>intro K K' h hh;exact h _ hh
  |cons r l ih=>
   intro K K' h hh;cases r with
   |tmp t=>exact⟨hh.1,ih (λx hx=>h _ hx) hh.2⟩
   |cell t T=>
    simp only[qW.go] at hh ⊢;split at hh
    ·exact hpk (λx hx=>⟨hx.1,ih (λy hy=>h _ hy) hx.2⟩) hh
    ·exact hh.elim
 intro rs hh
 match rs,hh with
 |[],hh=>exact h _ hh
 |[.tmp t],hh=>exact h _ hh
 |[.cell t T],hh=>
  simp only[qW] at hh ⊢;split at hh
  ·exact hpk h hh
  ·exact hh.elim
 | .tmp t::b::l,hh=>exact hgo (.tmp t::b::l) (K:=λxs=>K (.cu xs)) (K':=λxs=>K' (.cu xs)) (λx hx=>h _ hx) (by simpa only[qW] using hh)
 | .cell t T::b::l,hh=>exact hgo (.cell t T::b::l) (K:=λxs=>K (.cu xs)) (K':=λxs=>K' (.cu xs)) (λx hx=>h _ hx) (by simpa only[qW] using hh)
mutual
def iq:SV->Prop
 | .lst _ _ f l=>l.length<=9223372036854775807/\∀ x∈l,iq (f x)
 | .agg l=>pX l
 | .arr n _ f=> ∀ i,i<n->iq (f i)
 | .ref c _ _=>iq c
 |_=>True
def pX:List SV->Prop
 |[]=>True
 |x::r=>iq x/\pX r
end
mutual
theorem BU:∀ (x:SV) {J:Env} {cs:List Value},ah x J cs->iq x
 | .lst w d f l,J,cs,h=>by
  simp only[ah] at h;obtain⟨ao,cap,h1,h2,h3,h4,h5⟩:=h;simp only[iq];refine⟨by unfold maxLen at h3;omega,λx hx=> ?_⟩
  obtain⟨i,hi,hxi⟩:=List.getElem_of_mem hx;obtain⟨b,off,T,fz,cur,e1,e2,e3,e4⟩:=h5 i hi;have e:l.getD i d=x:=by simp[z02,hi,hxi]
  rw[e] at e4;exact BU (f x) e4
 | .agg l,J,cs,h=>by simp only[ah] at h;simp only[iq];exact SX l h
 | .arr n w f,J,cs,h=>by simp only[ah] at h;simp only[iq];exact λi hi=>BU (f i) (h.2 i hi)
 | .ref c p o,J,cs,h=>by
  simp only[ah] at h;obtain⟨b,T,fz,cur,h1,h2,h3,h4⟩:=h;simp only[iq];exact BU c h4
 | .int ..,_,_,_=>by simp only[iq]
 | .bool ..,_,_,_=>by simp only[iq]
 | .str ..,_,_,_=>by simp only[iq]
 | .cu ..,_,_,_=>by simp only[iq]
 | .lit ..,_,_,_=>by simp only[iq]
 | .jX ..,_,_,_=>by simp only[iq]
 | .ptr ..,_,_,_=>by simp only[iq]
 | .vec ..,_,_,_=>by simp only[iq]
 | .iR ..,_,_,_=>by simp only[iq]
 | .kZ ..,_,_,_=>by simp only[iq]
 | .kC ..,_,_,_=>by simp only[iq]
 | .map ..,_,_,_=>by simp only[iq]
 | .fn ..,_,_,_=>by simp only[iq]
 | .iface ..,_,_,_=>by simp only[iq]
 | .dO,_,_,_=>by simp only[iq]
 | .mX,_,_,_=>by simp only[iq]
 | .y5,_,_,_=>by simp only[iq]
 | .lD,_,_,_=>by simp only[iq]
 | .Ba,_,_,_=>by simp only[iq]
 | .zH,_,_,_=>by simp only[iq]
 | .raw ..,_,_,_=>by simp only[iq]
 | .junk,_,_,_=>by simp only[iq]
theorem SX:∀ (l:List SV) {J:Env} {cs:List Value},bV l J cs->pX l
 |[],_,_,_=>by simp only[pX]
 |x::l,J,cs,h=>by simp only[bV] at h;obtain⟨a,b,h1,h2,h3⟩:=h;simp only[pX];exact⟨BU x h2,SX l h3⟩
end
theorem YV:∀ {l:List SV} {J:Env} {vs:List Value},bT l J vs->pX l
 |[],_,_,_=>by simp only[pX]
 |x::l,J,vs,h=>by simp only[bT] at h;obtain⟨cs,t,h1,h2,h3⟩:=h;simp only[pX];exact⟨BU x h2,YV h3⟩
theorem MQ{f:FuncId}{args:List SV}{m0 m1:List ay}{res:SV}(h:pX args->bC P main Fz f args m0 res m1):bC P main Fz f args m0 res m1:=λJ w vs hg hs=>h (YV hs) J w vs hg hs
open Go.RowKit Go.ChangeShapes
def J0(W:World):Env:=⟨0,λ_=>0,λ_=> .nilFunc,λb=>W.heap[b]?⟩
theorem Qv(W:World)(hg:Glob (J0 W).H):Good (J0 W) [] W:=
 ⟨rfl,λi=>by rw[bI (z0c _)];trivial,(λi j b _ h=>by rw[bI (z0c _)] at h;cases h),(λi b h=>by rw[bI (z0c _)] at h;cases h),λ_ _ h=>h,hg⟩
def readB(P:Program)(ts:List TypeId):Bool:=ts.all λt=>P.readableRec t&&decide (t<P.types.size)
theorem zD{H:Type}{enc:TypeId×Value->H}(hl:laidOutB P=true){W W':World}{sp':Nat->Bool}(hb:Below W.heap.size W W'):∀ {ts:List TypeId} {vs:List Value} {ds:List (DataW H)} {ps:List MemPlace},
  readB P ts=true->DataW.TrodAll enc P W 0 (λ_=>true) true ts vs ds ps->(∀ p∈ps,p.block<W.heap.size)->(∀ p∈ps,sp' p.block=true)->DataW.TrodAll enc P W' 0 sp' true ts vs ds ps
 |[],[],[],_,_,h,_,_=>h
 |t::ts,v::vs,d::ds,ps,hr,h,hlt,hsp=>by
  simp only[readB,z1s,z00,decide_eq_true_eq] at hr;obtain⟨p,q,h1,h2,rfl⟩:=h;exact⟨p,q,WideElems.Trod_stays hl hr.1.1 hr.1.2 h1 (λx hx=>hb.same (hlt x (by simp[hx]))) (λx hx=>hsp x (by simp[hx])),
   zD hl hb hr.2 h2 (λx hx=>hlt x (by simp[hx])) (λx hx=>hsp x (by simp[hx])),rfl⟩
 |[],[],_::_,_,_,h,_,_=>h.elim
 |[],_::_,_,_,_,h,_,_=>h.elim
 |_::_,[],_,_,_,h,_,_=>h.elim
 |_::_,_::_,[],_,_,h,_,_=>h.elim
theorem aa6{H:Type}{enc:TypeId×Value->H}{f:Func}{s:ChangeSpec}{apart fresh handsOn again:Bool}{W W':World}{args:Array Value}{ds gs:List (DataW H)}{before:List MemPlace}{tb:TypeId}
  (hl:laidOutB P=true) (hr:readB P f.params.toList=true) (hrt:f.resultTypes= #[tb]) (htb:P.underlying tb=some .bool) (hv:s.vars=[])
  (hW:DataW.Whole enc P f.params.toList s.vars apart W args.toList ds gs before) (hb:Below W.heap.size W W')
  (hfn:s.fn H (ds++gs)= {results:=[.lit (.bool true)],args:=ds}):s.post enc P f apart fresh handsOn again W args (.bool true) W':=by
 have hlt:=hW.lt;obtain⟨pa,pv,hA,hV,rfl,hz,hn⟩:=hW;rw[hv] at hV;have hpv:pv=[]/\gs=[]:=by
  cases gs with
  |nil=>exact⟨hV,rfl⟩
  |cons=>exact hV.elim
 obtain⟨rfl,rfl⟩:=hpv;have hres:∀ (b:Nat) (sp:Nat->Bool) (hd:Bool),DataW.TrodAll enc P W' b sp hd f.resultTypes.toList ((Value.bool true).resultList f.resultTypes.size) (s.fn H (ds++[])).results []:=by intro b sp hd;rw[hrt,hfn];exact⟨[],[],shut_bool htb true,rfl,rfl⟩
 have hargs:∀ sp:Nat->Bool,(∀ p∈pa++[],sp p.block=true)->DataW.TrodAll enc P W' 0 sp true f.params.toList args.toList (s.fn H (ds++[])).args pa:=by intro sp hsp;rw[hfn];exact zD hl hb hr hA (λp hp=>hlt p (by simp[hp])) (λp hp=>hsp p (by simp[hp]))
 have hvars:∀ sp:Nat->Bool,DataW.TrodVars enc P W' sp s.vars (s.fn H (ds++[])).vars []:=by intro sp;rw[hv,hfn];rfl
 have hold:∀ p∈pa++[],(λb=>decide (b<W.heap.size)) p.block=true:=λp hp=>by simpa using hlt p hp
 refine⟨ds,[],pa++[],[],pa,[],⟨pa,[],hA,by rw[hv];exact hV,rfl,hz,hn⟩,hres _ _ _,hargs _ hold,hvars _,World.keptBut_mono (λp hp=>⟨hp,by simpa using hp⟩) (hb.frame _),λ_=> ?_⟩
 refine⟨ok_one hrt rfl (okWide_bool_mk htb true),_,_,([]++pa)++[],⟨[]++pa,[],trodAll_append (hargs _ (λ_ _=>rfl)) (hres _ _ _),hvars _,rfl,?_,?_⟩,?_⟩
 ·intro b off hp;have hp':MemPlace.cell b off∈pa++[]:=by simpa using hp
  rw[hb.frozen (hlt _ hp')];exact hz b off hp'
 ·intro ha;simpa using hn ha
 ·intro p hp _;simpa using hp
end Go.Sx
namespace Go.Sx
open Go Go.ChangeShapes
variable {P:Program}
inductive TT where
 |int (k:IntKind)
 |bool
 |str
 |st (l:List TT)
 |arr (n w:Nat) (T:TT)
 |sl (w:Nat) (T:TT)
 |ref (T:TT)
mutual
@[reducible] def Den:TT->Type
 | .int _=>Int
 | .bool=>Bool
 | .str=>List UInt8
 | .st l=>Bc l
 | .arr _ _ T=>Nat->Den T
 | .sl _ T=>List (Den T)
 | .ref T=>Den T
@[reducible] def Bc:List TT->Type
 |[]=>Unit
 |T::l=>Den T×Bc l
end
mutual
def bg:(T:TT)->Den T
 | .int _=>(0:Int)
 | .bool=>false
 | .str=>([]:List UInt8)
 | .st l=>akl l
 | .arr _ _ T=>λ_:Nat=>bg T
 | .sl _ T=>([]:List (Den T))
 | .ref T=>bg T
def akl:(l:List TT)->Bc l
 |[]=>()
 |T::l=>(bg T,akl l)
end
mutual
def aA:(T:TT)->Den T->SV
 | .int k,n=> .int k n
 | .bool,b=> .bool b
 | .str,s=> .str s
 | .st l,x=> .agg (rJ l x)
 | .arr n w T,f=> .arr n w λi=>aA T (f i)
 | .sl w T,l=> .lst w (bg T) (aA T) l
 | .ref T,y=> .ref (aA T y) [] 0
def rJ:(l:List TT)->Bc l->List SV
 |[],_=>[]
 |T::l,x=>aA T x.1::rJ l x.2
end
mutual
def okD:(T:TT)->Den T->Prop
 | .int k,n=>(Lit.int k n).wf=true
 | .bool,_=>True
 | .str,s=>s.length<=9223372036854775807
 | .st l,x=>TQ l x
 | .arr n _ T,f=> ∀ i,i<n->okD T (f i)
 | .sl _ T,l=>l.length<=9223372036854775807/\∀ x∈l,okD T x
 | .ref T,y=>okD T y
def TQ:(l:List TT)->Bc l->Prop
 |[],_=>True
 |T::l,x=>okD T x.1/\TQ l x.2
end
mutual
def wT:TT->Nat
 | .st l=>wTL l
 | .arr n w _=>n*w
 |_=>1
def wTL:List TT->Nat
 |[]=>0
 |T::l=>wT T+wTL l
end
mutual
def LW(P:Program):TypeId->TT->Bool
 |t, .int k=>match P.underlying t with
  |some (.int k')=>decide (k'=k)
  |_=>false
 |t, .bool=>match P.underlying t with
  |some .bool=>true
  |_=>false
 |t, .str=>match P.underlying t with
  |some .string=>true
  |_=>false
 |t, .st l=>match P.underlying t with
  |some (.struct fs)=>ahg P fs.toList 0 l&&decide (P.cellsOf t=wTL l)
  |_=>false
 |t, .arr n w T=>match P.underlying t with
  |some (.array n' e)=>decide (n'=n)&&decide (P.cellsOf e=w)&&decide (P.cellsOf t=n*w)&&LW P e T
  |_=>false
 |t, .sl w T=>match P.underlying t with
  |some (.slice e)=>decide (P.cellsOf e=w)&&decide (1<=w)&&LW P e T
  |_=>false
 |_, .ref _=>false
def ahg(P:Program):List Field->Nat->List TT->Bool
 |[],_,[]=>true
 |f::fs,off,T::l=>decide (f.offset=off)&&decide (P.cellsOf f.type=wT T)&&LW P f.type T&&ahg P fs (off+wT T) l
 |_,_,_=>false
end
theorem XY{α:Type}{f:Nat->Option α}:∀ (n:Nat) (l:List α),(z05 n).mapM f=some l->l.length=n/\∀ i,i<n->f i=l[i]? :=by
 intro n l h;have h1:=mapM_len h;refine⟨by simpa using h1,λi hi=> ?_⟩
 have:=(mapM_at h i).1;rw[z0j hi] at this;simpa using this
theorem LX{W:World}{b off n:Nat}{sp:Option Nat}{cs:List Value}(hn:1<=n)(h:W.cells? 0 ⟨b,off,sp⟩ n=some cs):
  sp=none/\∃ cur T fz,W.heap[b]? =some (.cells cur T fz)/\off+n<=cur.size/\sub cur.toList off n=cs:=by
 unfold World.cells? at h;rw[if_pos (z0c _)] at h;obtain⟨h1,h2⟩:=XY n cs h;have h0:=h2 0 (by omega)
 have hlt:0<cs.length:=by omega
 rw[z03 hlt] at h0;unfold World.cell? at h0;simp only[Addr.add,if_true] at h0;split at h0<;>try (cases h0;done)
 rename_i cur T fz hb;split at h0<;>try (cases h0;done)
 rename_i hsp;have hsp':sp=none:=by cases sp<;>simp_all
 subst hsp';have hcell:∀ i,i<n->cur[off+i]? =cs[i]? :=by
  intro i hi;rw[<- h2 i hi];unfold World.cell? Addr.add;by_cases hi0:i=0
  ·subst hi0;simp[hb]
  ·simp[hi0,hb]
 refine⟨rfl,cur,T,fz,hb,?_,?_⟩
 ·have:=hcell (n - 1) (by omega)
  have hl:n - 1<cs.length:=by omega
  rw[z03 hl] at this;have:=(z0l.1 this).1;omega
 ·apply z0u;intro i;unfold sub;rw[z1a];by_cases hi:i<n
  ·rw[if_pos hi,z1b,<- hcell i hi];simp
  ·rw[if_neg hi,z18 (by omega)]
section
variable {H:Type} {enc:TypeId×Value->H} {W:World} {spare:Nat->Bool}
mutual
theorem PD:∀ (T:TT) {t:TypeId} {fuel:Nat} {cs:List Value} {x:DataW H×List MemPlace},LW P t T=true->DataW.trod enc P W 0 spare true fuel t cs=some x->∃ y:Den T,ah (aA T y) (J0 W) cs/\okD T y
 | .int k,t,fuel,cs,x,ht,h=>by
  simp only[LW] at ht;split at ht<;>try (cases ht;done)
  rename_i k' hu;have:k'=k:=by simpa using ht
  subst this;cases fuel with
  |zero=>simp[DataW.trod] at h
  |succ m=>
   unfold DataW.trod at h;rw[hu] at h;split at h<;>simp_all [aA,ah,okD]
 | .bool,t,fuel,cs,x,ht,h=>by
  simp only[LW] at ht;split at ht<;>try (cases ht;done)
  rename_i hu;obtain⟨b,hc,_⟩:=DataW.trod_bool hu h;exact⟨b,by simp only[aA,ah];exact hc,trivial⟩
 | .str,t,fuel,cs,x,ht,h=>by
  simp only[LW] at ht;split at ht<;>try (cases ht;done)
  rename_i hu;cases fuel with
  |zero=>simp[DataW.trod] at h
  |succ m=>
   unfold DataW.trod at h;rw[hu] at h;split at h<;>try (simp_all;done)
   split at h<;>try (cases h;done)
   rename_i s _ hs;refine⟨s.data.toList,?_,?_⟩
   ·simp only[aA,ah]
   ·simp only[okD];unfold maxLen at hs;have e:s.data.toList.length=s.size:=Array.length_toList;rw[e];omega
 | .st l,t,fuel,cs,x,ht,h=>by
  simp only[LW] at ht;split at ht<;>try (cases ht;done)
  rename_i fs hu;simp only[z00,decide_eq_true_eq] at ht;obtain⟨xs,n,_,_,hlen,hxl,hf⟩:=DataW.trod_struct hu h;obtain⟨y,h1,h2⟩:=ahh l (fs:=fs.toList) (off:=0) (cs:=cs) (fuel:=n) ht.1 (by rw[hlen,ht.2];omega) (λi f hi=>by
   have hi':fs[i]? =some f:=by simpa using hi
   have:=hf i f hi';have hlt:i<xs.length:=by rw[hxl];exact(z0l.1 hi').1
   rw[z03 hlt] at this;exact⟨_,this⟩)
  exact⟨y,by simp only[aA,ah];simpa using h1,by simp only[okD];exact h2⟩
 | .arr n w T,t,fuel,cs,x,ht,h=>by
  simp only[LW] at ht;split at ht<;>try (cases ht;done)
  rename_i n' e hu;simp only[z00,decide_eq_true_eq] at ht;obtain⟨⟨⟨rfl,rfl⟩,h3⟩,h4⟩:=ht;obtain⟨xs,m,_,_,hlen,hxl,hf⟩:=DataW.trod_array hu h;have key:∀ i,i<n'->∃ y:Den T,ah (aA T y) (J0 W) (sub cs (i*P.cellsOf e) (P.cellsOf e))/\okD T y:=by
   intro i hi;have:=hf i hi;rw[z03 (by omega)] at this
   exact PD T h4 this
  classical
  refine⟨λi=>if hi:i<n' then z0t (key i hi) else bg T,?_,?_⟩
  ·simp only[aA,ah];refine⟨by rw[hlen,h3],λi hi=> ?_⟩
   simp only[hi,dite_true];exact(z0o (key i hi)).1
  ·simp only[okD];intro i hi;simp only[hi,dite_true];exact(z0o (key i hi)).2
 | .sl w T,t,fuel,cs,x,ht,h=>by
  simp only[LW] at ht;split at ht<;>try (cases ht;done)
  rename_i e hu;simp only[z00,decide_eq_true_eq] at ht;obtain⟨⟨rfl,hw⟩,h4⟩:=ht;rcases DataW.trod_slice hu h with⟨hc,_⟩|⟨a,len,cap,elems,rest,m,_,hc,_,_,hle,hcap,hel,hf,_,_⟩
  ·refine⟨[],?_,?_⟩
   ·simp only[aA,ah];exact⟨none,0,by simpa using hc,z07 _,z0c _,λ_=>rfl,λi hi=>absurd hi (z09 _)⟩
   ·simp only[okD];exact⟨z0c _,λx hx=>by cases hx⟩
  ·obtain⟨b,off,sp⟩:=a;have key:∀ i,i<len->∃ (y:Den T) (cur:Array Value) (T':TypeId) (fz:Nat×Nat),(i=0->sp=none)/\W.heap[b]? =some (.cells cur T' fz)/\off+i*P.cellsOf e+P.cellsOf e<=cur.size/\ah (aA T y) (J0 W) (sub cur.toList (off+i*P.cellsOf e) (P.cellsOf e))/\okD T y:=by
    intro i hi;have hfi:=hf i hi;rw[z03 (by omega)] at hfi
    obtain⟨cs',hcs,htr⟩:=Option.bind_eq_some_iff.1 hfi;obtain⟨y,k1,k2⟩:=PD T h4 htr;by_cases hi0:i=0
    ·subst hi0;rw[Nat.zero_mul] at hcs ⊢;simp only[Addr.add,if_true] at hcs;obtain⟨hsp,cur,T',fz,q1,q2,q3⟩:=LX hw hcs;exact⟨y,cur,T',fz,λ_=>hsp,q1,q2,by rw[Nat.add_zero,q3];exact k1,k2⟩
    ·have hne:i*P.cellsOf e≠0:=Nat.mul_ne_zero hi0 (by omega)
     simp only[Addr.add,if_neg hne] at hcs;obtain⟨_,cur,T',fz,q1,q2,q3⟩:=LX hw hcs;exact⟨y,cur,T',fz,λh=>absurd h hi0,q1,q2,by rw[q3];exact k1,k2⟩
   classical
   let g:Nat->Den T:=λi=>if hi:i<len then z0t (key i hi) else bg T
   have hg:∀ i (hi:i<len),∃ (cur:Array Value) (T':TypeId) (fz:Nat×Nat),(i=0->sp=none)/\W.heap[b]? =some (.cells cur T' fz)/\off+i*P.cellsOf e+P.cellsOf e<=cur.size/\ah (aA T (g i)) (J0 W) (sub cur.toList (off+i*P.cellsOf e) (P.cellsOf e))/\okD T (g i):=by
    intro i hi;have e:g i=z0t (key i hi):=by simp[g,hi]
    rw[e];exact z0o (key i hi)
   refine⟨(z05 len).map g,?_,?_⟩
   ·simp only[aA,ah];refine⟨some ⟨b,off,sp⟩,cap,by simpa using hc,by simpa using hle,hcap,(λh=>by cases h),λi hi=> ?_⟩
    have hi':i<len:=by simpa using hi
    obtain⟨cur,T',fz,q0,q1,q2,q3,_⟩:=hg i hi';obtain⟨_,_,_,p0,_⟩:=hg 0 (by omega)
    refine⟨b,off,T',fz,cur,by rw[p0 rfl],q1,q2,?_⟩
    have e:((z05 len).map g).getD i (bg T)=g i:=by simp[z02,hi']
    rw[e];exact q3
   ·simp only[okD];refine⟨by simp;unfold maxLen at hcap;omega,λx hx=> ?_⟩
    obtain⟨i,hi,rfl⟩:=List.mem_map.1 hx;have hi':i<len:=by simpa using hi
    obtain⟨_,_,_,_,_,_,_,q⟩:=hg i hi';exact q
 | .ref T,t,fuel,cs,x,ht,h=>by simp[LW] at ht
theorem ahh:∀ (l:List TT) {fs:List Field} {off:Nat} {cs:List Value} {fuel:Nat},ahg P fs off l=true->cs.length=off+wTL l->
  (∀ (i:Nat) (f:Field),fs[i]? =some f->∃ x,DataW.trod enc P W 0 spare true fuel f.type ((cs.drop f.offset).take (P.cellsOf f.type))=some x)->∃ y:Bc l,bV (rJ l y) (J0 W) (cs.drop off)/\TQ l y
 |[],fs,off,cs,fuel,ht,hl,hf=>by
  refine⟨(),?_,by simp only[TQ]⟩
  simp only[rJ,bV];simp only[wTL] at hl;exact List.drop_eq_nil_of_le (by omega)
 |T::l,fs,off,cs,fuel,ht,hl,hf=>by
  cases fs with
  |nil=>simp[ahg] at ht
  |cons f fs=>
   simp only[ahg,z00,decide_eq_true_eq] at ht;obtain⟨⟨⟨h1,h2⟩,h3⟩,h4⟩:=ht;simp only[wTL] at hl;obtain⟨x,hx⟩:=hf 0 f rfl;obtain⟨y,k1,k2⟩:=PD T h3 hx;obtain⟨z,k3,k4⟩:=ahh l (fuel:=fuel) (cs:=cs) h4 (by omega) (λi f' hi=>hf (i+1) f' (by simpa using hi))
   refine⟨(y,z),?_,by simp only[TQ];exact⟨k2,k4⟩⟩
   simp only[rJ,bV];rw[h1,h2] at k1;refine⟨_,_,?_,k1,k3⟩;rw[<- List.drop_drop,List.take_append_drop]
end
def ttA(P:Program):List TypeId->List TT->Bool
 |[],[]=>true
 |t::ts,T::l=>LW P t T&&ttA P ts l
 |_,_=>false
theorem ahi{T:TT}{t:TypeId}{v:Value}{w:World}{base:Nat}(ht:LW P t T=true)(h:z0b P w .any base t v){y:Den T}:v=boxed (aA T y).isAgg v.cells.toList:=by
 cases T with
 |st l=>
  simp only[LW] at ht;split at ht<;>try (cases ht;done)
  rename_i hu;unfold z0b at h;rw[hu] at h;obtain⟨cs,rfl,_⟩:=h;simp[aA,SV.isAgg,boxed,z0n]
 |arr n w' T=>
  simp only[LW] at ht;split at ht<;>try (cases ht;done)
  rename_i hu;unfold z0b at h;rw[hu] at h;obtain⟨cs,rfl,_⟩:=h;simp[aA,SV.isAgg,boxed,z0n]
 |ref T=>simp[LW] at ht
 |int k=>
  simp only[LW] at ht;split at ht<;>try (cases ht;done)
  rename_i hu;unfold z0b Cell.okWide Cell.ok at h;rw[hu] at h;cases v<;>simp_all [aA,SV.isAgg,boxed,z0n]
 |bool=>
  simp only[LW] at ht;split at ht<;>try (cases ht;done)
  rename_i hu;unfold z0b Cell.okWide Cell.ok at h;rw[hu] at h;cases v<;>simp_all [aA,SV.isAgg,boxed,z0n]
 |str=>
  simp only[LW] at ht;split at ht<;>try (cases ht;done)
  rename_i hu;unfold z0b Cell.okWide Cell.ok at h;rw[hu] at h;cases v<;>simp_all [aA,SV.isAgg,boxed,z0n]
 |sl w' T=>
  simp only[LW] at ht;split at ht<;>try (cases ht;done)
  rename_i hu;unfold z0b Cell.okWide Cell.ok at h;rw[hu] at h;cases v<;>simp_all [aA,SV.isAgg,boxed,z0n]
theorem Rn{base:Nat}{held:Bool}:∀ {ts:List TypeId} {vs:List Value} {ds:List (DataW H)} {ps:List MemPlace},DataW.TrodAll enc P W base spare held ts vs ds ps->ds.length=ts.length
 |[],[],[],_,_=>rfl
 |_::ts,_::vs,_::ds,_,⟨_,_,_,h,_⟩=>by simp[Rn h]
 |[],[],_::_,_,h=>by cases h
 |[],_::_,_,_,h=>by cases h
 |_::_,[],_,_,h=>by cases h
 |_::_,_::_,[],_,h=>by cases h
theorem ajD{α:Type _}{l:List α}(h:l.length=2):∃ a b,l=[a,b]:=by
 match l,h with
 |[a,b],_=>exact⟨a,b,rfl⟩
theorem KN{base:Nat}{w':World}:∀ (l:List TT) {ts:List TypeId} {vs:List Value} {ds:List (DataW H)} {ps:List MemPlace},ttA P ts l=true->DataW.TrodAll enc P W 0 spare true ts vs ds ps->
  (∀ (j:Nat) t v,ts[j]? =some t->vs[j]? =some v->z0b P w' .any base t v)->∃ y:Bc l,bT (rJ l y) (J0 W) vs/\TQ l y
 |[],[],[],[],_,_,_,_=>⟨(),by simp only[rJ,bT],by simp only[TQ]⟩
 |T::l,t::ts,v::vs,d::ds,ps,ht,h,hv=>by
  simp only[ttA,z00] at ht;obtain⟨p,q,⟨fuel,h1⟩,h2,_⟩:=h;obtain⟨y,k1,k2⟩:=PD T ht.1 h1;obtain⟨z,k3,k4⟩:=KN l ht.2 h2 (λj t v a b=>hv (j+1) t v (by simpa using a) (by simpa using b))
  refine⟨(y,z),?_,by simp only[TQ];exact⟨k2,k4⟩⟩
  simp only[rJ,bT];exact⟨_,_,by rw[<- ahi ht.1 (hv 0 t v rfl rfl)],k1,k3⟩
 |[],_::_,_,_,_,ht,_,_=>by simp[ttA] at ht
 |_::_,[],_,_,_,ht,_,_=>by simp[ttA] at ht
 |[],[],_::_,_,_,_,h,_=>by cases h
 |[],[],[],_::_,_,_,h,_=>by cases h
 |_::_,_::_,[],_,_,_,h,_=>by cases h
 |_::_,_::_,_::_,[],_,_,h,_=>by cases h
end
end Go.Sx
namespace Go.Sx
open Go
variable {P:Program}
theorem nr.{u}{α:Sort u}{a b:α}(h:a=b):a=b:=h
theorem nq{A:Sort _}{B:Sort _}{C:Sort _}{E:Sort _}{F G:A->B->C->E}(h:∀ a b c,F a b c=G a b c)(a:A)(b:B)(c:C):F a b c=G a b c:=nr (h a b c)
inductive Fr:Type 1 where
 |nil
 |put (k:Nat) (x:SV) (r:Fr)
 |pick (s d:Nat) (x:SV) (r:Fr)
def look(k:Nat):Fr->SV
 | .nil=> .junk
 | .put j x r=>if k=j then x else look k r
 | .pick s d x r=>if k=d then x else if s<k/\k<d then .junk else look k r
def aV.fv(τ:Fr):aV->SV
 | .t n=>look n τ
 | .c x=>x
def jI:List Nat->Fr->Fr
 |[],_=> .nil
 |k::ks,τ=> .put k (look k τ) (jI ks τ)
def y9(i:Nat):Fr->Fr
 | .nil=> .nil
 | .put k x r=> .put k (kill i x) (y9 i r)
 | .pick s d x r=> .pick s d (kill i x) (y9 i r)
def wJ(d:Option Nat)(x:SV)(τ:Fr):Fr:=match d with
 |none=>τ
 |some d=> .put d x τ
def ig:List Nat->List SV->Fr->Fr
 |k::ks,x::xs,τ=> .put k x (ig ks xs τ)
 |_,_,τ=>τ
def X0:List Nat->List SV->Fr->Prop
 |k::ks,x::xs,τ=>look k τ=x/\X0 ks xs τ
 |[],[],_=>True
 |_,_,_=>False
def Rep(n:Nat)(σ:List SV)(τ:Fr):Prop:=σ.length=n/\∀ k,look k τ= .junk\/(k<n/\look k τ=σ.getD k .junk)
def Le(x y:SV):Prop:=x= .junk\/x=y
theorem Le.refl(x:SV):Le x x:= .inr rfl
theorem Rep.le{n:Nat}{σ:List SV}{τ:Fr}(h:Rep n σ τ)(k:Nat):Le (look k τ) (σ.getD k .junk):=by
 rcases h.2 k with h|⟨_,h⟩
 ·exact .inl h
 ·exact .inr h
theorem Rep.fv{n:Nat}{σ:List SV}{τ:Fr}(h:Rep n σ τ)(x:aV):Le (x.fv τ) (x.ev σ):=by
 cases x with
 |t k=>exact h.le k
 |c x=>exact .inr rfl
theorem Rep.put{n:Nat}{σ:List SV}{τ:Fr}(h:Rep n σ τ){d:Nat}(hd:d<n){x y:SV}(hx:Le x y):Rep n (σ.set d y) (.put d x τ):=by
 refine⟨by simp[h.1],λk=> ?_⟩
 simp only[look];by_cases hk:k=d
 ·subst hk;rw[if_pos rfl];rcases hx with hx|hx
  ·exact .inl hx
  ·right;refine⟨hd,?_⟩;rw[hx];simp[z02,h.1,hd]
 ·rw[if_neg hk];rcases h.2 k with h1|⟨h1,h2⟩
  ·exact .inl h1
  ·right;refine⟨h1,?_⟩;rw[h2,z02,z02,z0a,if_neg (λe=>hk e.symm)]
theorem Rep.wJ{n:Nat}{σ:List SV}{τ:Fr}(h:Rep n σ τ){d:Option Nat}(hd:∀ k,d=some k->k<n){x y:SV}(hx:Le x y):Rep n (gV d y σ) (wJ d x τ):=by
 cases d with
 |none=>exact h
 |some d=>exact h.put (hd d rfl) hx
theorem yG{k:Nat}{τ:Fr}:∀ ks:List Nat,Le (look k (jI ks τ)) (look k τ)
 |[]=> .inl rfl
 |j::ks=>by
  simp only[jI,look];by_cases h:k=j
  ·subst h;rw[if_pos rfl];exact .inr rfl
  ·rw[if_neg h];exact yG ks
theorem zJ{i k:Nat}:∀ τ:Fr,look k (y9 i τ)=kill i (look k τ)
 | .nil=>rfl
 | .put j x r=>by
  simp only[y9,look];split
  ·rfl
  ·exact zJ r
 | .pick s d x r=>by
  simp only[y9,look];split
  ·rfl
  ·split
   ·rfl
   ·exact zJ r
theorem Rep.kill{n i:Nat}{σ:List SV}{τ:Fr}(h:Rep n σ τ):Rep n (dn i σ) (y9 i τ):=by
 refine⟨by rw[iK];exact h.1,λk=> ?_⟩
 rw[zJ,qj];rcases h.2 k with h1|⟨h1,h2⟩
 ·left;rw[h1];rfl
 ·exact .inr ⟨h1,by rw[h2]⟩
structure Ans(α:Type) where
 bad:α
 need:Prop->α->α
 spl:Bool->α->α->α
def AP:Ans Prop:=⟨False,And,λb x y=>(b=true->x)/\(b=false->y)⟩
def AV:Ans (Prop×Bool):=⟨(False,false),λp x=>(p/\x.1,x.2),λb x y=>((b=true->x.1)/\(b=false->y.1),if b then x.2 else y.2)⟩
def AC:Ans (Prop->Prop):=⟨λ_=>False,λp x acc=>x (acc/\p),λb x y acc=>(b=true->x acc)/\(b=false->y acc)⟩
section
variable {α:Type} (A:Ans α)
def uK.evG(k:IntKind)(a b:Int)(K:Int->α):uK->α
 | .add=>K (k.wrap (a+b))
 | .sub=>K (k.wrap (a - b))
 | .mul=>K (k.wrap (a*b))
 | .quo=>A.need (b≠0) (K (k.wrap (a.tdiv b)))
 | .rem=>A.need (b≠0) (K (a.tmod b))
 | .and=>K (uU k a b)
 | .or=>K (ad5 k a b)
 | .xor=>K (zK k a b)
 | .andNot=>K (CZ k a b)
 | .shl=>A.need (0<=b) (K (k.wrap (a*2^(min b.toNat k.bits))))
 | .shr=>A.need (0<=b) (K (a.fdiv (2^(min b.toNat k.bits))))
def Ve(ev:aV->SV):SV->List (List Step×Nat×Nat×aV)->(SV->α)->α
 |z,[],K=>K z
 |z,(p,o,n,x)::r,K=>A.need (fM p/\gI z p 0 o/\(ev x).isVal=true/\wd (ev x)=n/\wd (dG z p)=n) (Ve ev (rG z p (ev x)) r K)
def stpG(s:Step)(off:Nat)(K:SV->α):SV->α
 | .ptr i p o=>K (.ptr i (p++[s]) (o+off))
 | .jX w d f l i p o=>K (.jX w d f l i (p++[s]) (o+off))
 | .iR i j p o=>K (.iR i j (p++[s]) (o+off))
 | .ref c p o=>K (.ref c (p++[s]) (o+off))
 |_=>A.bad
def jR(ev:aV->SV)(d:Nat)(x:Option aV)(K:Nat->α):α:=match x with
 |none=>K d
 |some x=>match ev x with
  | .int _ j=>A.need (0<=j) (K j.toNat)
  |_=>A.bad
def eY(ev:aV->SV)(K:SV->α):vT->α
 | .mv x=>K (ev x)
 | .pick c x y=>match ev c with
  | .bool b=>A.spl b (K (ev x)) (K (ev y))
  |_=>A.bad
 | .ar op x y=>match ev x,ev y with
  | .int k a, .int k' b=>A.need (op.kinds k k') (op.evG A k a b λn=>K (.int k n))
  |_,_=>A.bad
 | .cmp op x y=>match ev x,ev y with
  | .int k a, .int k' b=>A.need (k'=k) (K (.bool (op.ev a b)))
  |_,_=>A.bad
 | .beq neg x y=>match ev x,ev y with
  | .bool a, .bool b=>K (.bool (if neg then a !=b else a==b))
  |_,_=>A.bad
 | .seq neg x y=>match ev x,ev y with
  | .str a, .str b=>K (.bool (if neg then !decide (a=b) else decide (a=b)))
  |_,_=>A.bad
 | .cat x y=>match ev x,ev y with
  | .str a, .str b=>A.need (a.length+b.length<=9223372036854775807) (K (.str (a++b)))
  |_,_=>A.bad
 | .nt x=>match ev x with
  | .bool a=>K (.bool (!a))
  |_=>A.bad
 | .neg x=>match ev x with
  | .int k a=>K (.int k (k.wrap (0 - a)))
  |_=>A.bad
 | .conv k x=>match ev x with
  | .int _ a=>K (.int k (k.wrap a))
  |_=>A.bad
 | .fa k off x=>stpG A (.lQ k) off K (ev x)
 | .lQ k off sz ag x=>match ev x with
  | .agg l=>A.need (k<l.length/\Aq (l.take k)=off/\wd (l.getD k .junk)=sz/\(l.getD k .junk).isAgg=ag) (K (l.getD k .junk))
  |_=>A.bad
 | .ia n w x i=>match ev i with
  | .int _ j=>A.need (0<=j/\j<n) (stpG A (.idx j.toNat n) (j.toNat*w) K (ev x))
  |_=>A.bad
 | .is w x i=>match ev i with
  | .int _ j=>match ev x with
   | .lst w' d f l=>A.need (0<=j/\j<l.length) (A.need (w'=w) (K (.jX w d f l j.toNat [] 0)))
   | .vec v n=>A.need (0<=j/\j<n) (K (.iR v j.toNat [] (j.toNat*w)))
   | .kC v a n=>A.need (0<=j/\j<n) (A.need (w=1) (K (.iR v (a+j.toNat) [] ((a+j.toNat)*w))))
   |_=>A.bad
  |_=>A.bad
 | .ix n w ag x i=>match ev i with
  | .int _ j=>match ev x with
   | .arr n' w' f=>A.need (0<=j/\j<n) (A.need (n'=n/\w'=w/\(f j.toNat).isAgg=ag) (K (f j.toNat)))
   |_=>A.bad
  |_=>A.bad
 | .sx x i=>match ev i with
  | .int _ j=>match ev x with
   | .str s=>A.need (0<=j/\j<s.length) (K (.int .u8 (s.getD j.toNat 0).toNat))
   |_=>A.bad
  |_=>A.bad
 | .ext k x=>match ev x with
  | .cu l=>A.need (k<l.length) (K (l.getD k .junk))
  |_=>A.bad
 | .AU z parts=>Ve A ev z parts λz'=>A.need (z'.isAgg=true) (K z')
 | .lens x=>match ev x with
  | .str s=>K (.int .i64 s.length)
  |_=>A.bad
 | .len x=>match wI (ev x) with
  |some n=>K (.int .i64 n)
  |none=>A.bad
 | .PS f caps=>A.need ((caps.map ev).all SV.isVal=true) (K (.fn f (caps.map ev)))
 | .nck x=>match ev x with
  | .ptr i p o=>K (.ptr i p o)
  | .jX w d f l i p o=>K (.jX w d f l i p o)
  | .iR i j p o=>K (.iR i j p o)
  | .ref c p o=>K (.ref c p o)
  | .fn f c=>K (.fn f c)
  |_=>A.bad
 | .ER t x=>A.need ((ev x).isVal=true) (K (.iface t (ev x)))
 | .aeq neg e x y=>A.need (fA e (ev x)/\fA e (ev y)) (K (.bool (if neg then !nG e (ev x) (ev y) else nG e (ev x) (ev y))))
 | .tas t z x=>match ev x with
  | .iface t' y=>if t'=t then K (.cu [y, .bool true]) else K (.cu [z, .bool false])
  |_=>A.bad
 | .ieq neg tab x y=>match ev x with
  | .iface t a=>match ev y with
   | .iface t' b=>if t'=t then(match D9 tab t with
    |some e=>A.need (fA e a/\fA e b) (K (.bool (if neg then !nG e a b else nG e a b)))
    |none=>A.bad) else K (.bool neg)
   | .mX=>K (.bool neg)
   |_=>A.bad
  | .mX=>match ev y with
   | .iface _ _=>K (.bool neg)
   | .mX=>match y with
    | .c _=>K (.bool (!neg))
    |_=>A.bad
   |_=>A.bad
  |_=>A.bad
 | .GY neg x=>match wI (ev x) with
  |some n=>match ev x with
   | .dO=>K (.bool (!neg))
   |_=>A.spl (decide (n=0)) (K .zH) (K (.bool neg))
  |none=>A.bad
 | .Nw neg x=>match ev x with
  | .lD=>K (.bool (!neg))
  | .ptr .. =>K (.bool neg)
  | .jX .. =>K (.bool neg)
  | .iR .. =>K (.bool neg)
  | .ref .. =>K (.bool neg)
  |_=>A.bad
 | .mx x y=>match ev x,ev y with
  | .int k a, .int k' b=>A.need (k'=k) (K (.int k (if a<b then b else a)))
  |_,_=>A.bad
 | .mn x y=>match ev x,ev y with
  | .int k a, .int k' b=>A.need (k'=k) (K (.int k (if b<a then b else a)))
  |_,_=>A.bad
 | .ssl x lo hi=>match ev x with
  | .str s=>jR A ev 0 lo λl=>jR A ev s.length hi λh=>A.need (l<=h/\h<=s.length) (K (.str ((s.take h).drop l)))
  |_=>A.bad
 | .slc w x lo hi mx=>match mx,ev x with
  |none, .lst w' d f l=>A.need (w'=w) (jR A ev 0 lo λa=>jR A ev l.length hi λb=>A.need (a<=b/\b<=l.length) (K (.lst w d f ((l.take b).drop a))))
  |some c, .lst w' d f l=>A.need (w'=w/\hi.isSome=true) (jR A ev 0 lo λa=>jR A ev l.length hi λb=>jR A ev 0 (some c) λm=>A.need (a<=b/\b=m/\m<=l.length) (K (.lit w d f ((l.take b).drop a))))
  |none, .vec i n=>jR A ev 0 lo λa=>jR A ev n hi λb=>A.need ((a=0\/a<n/\b=n/\w=1)/\b<=n) (K (if a=0 then .kZ i b else .kC i a (n - a)))
  |_,_=>A.bad
 | .asl n w x=>match ev x with
  | .ref c p o=>match dG c p with
   | .arr n' w' f=>A.need (n'=n/\w'=w/\n<=1000000/\gI c p 0 o) (K (.lst w (0:Nat) f (rng n)))
   |_=>A.bad
  | .jX _ d f l i p o=>match f (l.getD i d) with
   | .arr n' w' g=>A.need (n'=n/\w'=w/\n<=1000000/\p=[]/\o=0) (K (.lst w (0:Nat) g (rng n)))
   |_=>A.bad
  |_=>A.bad
def kU(m:List ay)(n:Nat)(ag:Bool)(K:SV->α):SV->α
 | .ptr i p o=>match ak m i with
  | .blk _ c=>A.need (gI c p 0 o/\wd (dG c p)=n/\(dG c p).isAgg=ag) (K (dG c p))
  |_=>A.bad
 | .jX _ d f l i p o=>A.need (gI (f (l.getD i d)) p 0 o/\wd (dG (f (l.getD i d)) p)=n/\(dG (f (l.getD i d)) p).isAgg=ag) (K (dG (f (l.getD i d)) p))
 | .iR i j p o=>match ak m i with
  | .vec _ w l=>A.need (j<l.length/\gI (l.getD j .junk) p (j*w) o/\wd (dG (l.getD j .junk) p)=n/\(dG (l.getD j .junk) p).isAgg=ag) (K (dG (l.getD j .junk) p))
  |_=>A.bad
 | .ref c p o=>A.need (gI c p 0 o/\wd (dG c p)=n/\(dG c p).isAgg=ag) (K (dG c p))
 |_=>A.bad
end
section
variable {α:Type} (A:Ans α)
def F6(m:List ay)(k:MK)(xs:List SV)(K:SV->α):α:=match k with
 | .get ek ev z ok=>match xs with
  |[.map i,key]=>match ak m i with
   | .mp ek' ev' l=>A.need (ek'=ek/\ev'=ev/\fA ek key) (K (if ok then .cu [vU ev z (gQ ek key l), .bool (gQ ek key l).isSome] else vU ev z (gQ ek key l)))
   |_=>A.bad
  |_=>A.bad
 |_=>A.bad
end
structure AX{α:Type}(A:Ans α)(good:α->Prop)(val:α->Bool):Prop where
 bad:¬ good A.bad
 need:∀ p x,good (A.need p x)->p/\good x/\val (A.need p x)=val x
 spl:∀ b x y,good (A.spl b x y)->good (if b then x else y)/\val (A.spl b x y)=val (if b then x else y)
theorem okP:AX AP (λa=>a) (λ_=>false):=⟨λh=>h,λ_ _ h=>⟨h.1,h.2,rfl⟩,λb x y h=>by cases b<;>exact⟨by first|exact h.1 rfl|exact h.2 rfl,rfl⟩⟩
theorem okV:AX AV (λa=>a.1) (λa=>a.2):=⟨λh=>h,λ_ _ h=>⟨h.1,h.2,rfl⟩,λb x y h=>by cases b<;>exact⟨by first|exact h.1 rfl|exact h.2 rfl,rfl⟩⟩
section
variable {α:Type} {A:Ans α} {good:α->Prop} {val:α->Bool}
def From(good:α->Prop)(val:α->Bool)(r:α)(K:SV->α)(σK:(SV->Prop)->Prop):Prop:=good r->∃ sv,good (K sv)/\val r=val (K sv)/\σK λsv'=>Le sv sv'
theorem le_eq{x y c:SV}(h:Le x y)(e:x=c)(hc:c≠ .junk):y=c:=by
 rcases h with h|h
 ·exact absurd (e.symm.trans h) hc
 ·exact h▸e
theorem fE{x y:SV}(h:Le x y)(hv:x.isVal=true):y=x:=by
 rcases h with h|h
 ·rw[h] at hv;cases hv
 ·exact h.symm
theorem jP{ev:aV->SV}{σ:List SV}(hev:∀ x:aV,Le (ev x) (x.ev σ)):∀ ys:List aV,(ys.map ev).all SV.isVal=true->ys.map (·.ev σ)=ys.map ev
 |[],_=>rfl
 |y::ys,h=>by simp only[List.map_cons,z1s,z00] at h ⊢;rw[fE (hev y) h.1,jP hev ys h.2]
theorem uK.am4(hA:AX A good val){k:IntKind}{a b:Int}{K:Int->α}(op:uK){r:α}(hr:op.evG A k a b K=r)(h:good r):∃ n,good (K n)/\val r=val (K n)/\op.ev k a b (· =n):=by
 subst hr;cases op<;>simp only[uK.evG,uK.ev] at h ⊢ <;>first
  |exact⟨_,h,rfl,rfl⟩
  |exact⟨_,(hA.need _ _ h).2.1,(hA.need _ _ h).2.2,(hA.need _ _ h).1,rfl⟩
theorem uK.Yh{k:IntKind}{a b:Int}{K K':Int->Prop}(op:uK)(hK:∀ n,K n->K' n)(h:op.ev k a b K):op.ev k a b K':=by
 cases op<;>simp only[uK.ev] at h ⊢ <;>first
  |exact hK _ h
  |exact⟨h.1,hK _ h.2⟩
theorem QJ(hA:AX A good val){s:Step}{off:Nat}{K:SV->α}{x:SV}{r:α}(hr:stpG A s off K x=r)(h:good r):x.isVal=true/\∃ sv,good (K sv)/\val r=val (K sv)/\wV s off (Le sv) x:=by
 subst hr;cases x<;>simp only[stpG] at h ⊢ <;>first
  |exact absurd h hA.bad
  |exact⟨rfl,_,h,rfl, .inr rfl⟩
theorem Yi(hA:AX A good val){ev:aV->SV}{σ:List SV}(hev:∀ x:aV,Le (ev x) (x.ev σ)){K:SV->α}:∀ (ps:List (List Step×Nat×Nat×aV)) (z:SV) {r:α},Ve A ev z ps K=r->good r->∃ sv,good (K sv)/\val r=val (K sv)/\gK σ z ps (· =sv)
 |[],z,r,hr,h=>by subst hr;exact⟨_,h,rfl,rfl⟩
 |(p,o,n,x)::ps,z,r,hr,h=>by subst hr;simp only[Ve] at h ⊢;obtain⟨h1,h2,h3⟩:=hA.need _ _ h;obtain⟨sv,k1,k2,k3⟩:=Yi hA hev ps _ rfl h2;have e:=fE (hev x) h1.2.2.1;refine⟨sv,k1,h3.trans k2,?_⟩;simp only[gK,e];exact⟨h1,k3⟩
theorem sU{σ:List SV}{K K':SV->Prop}(hK:∀ x,K x->K' x):∀ (ps:List (List Step×Nat×Nat×aV)) (z:SV),gK σ z ps K->gK σ z ps K'
 |[],_,h=>hK _ h
 |_::ps,_,h=>⟨h.1,sU hK ps _ h.2⟩
theorem jy(hA:AX A good val){ev:aV->SV}{σ:List SV}(hev:∀ x:aV,Le (ev x) (x.ev σ)){d:Nat}{x:Option aV}{K:Nat->α}{r:α}(hr:jR A ev d x K=r)(h:good r):∃ n,good (K n)/\val r=val (K n)/\∀ K':Nat->Prop,K' n->aW.bound σ d x K':=by
 subst hr;cases x with
 |none=>exact⟨_,h,rfl,λ_ h=>h⟩
 |some x=>
  simp only[jR] at h ⊢;split at h
  ·rename_i k j e;have e':=le_eq (hev x) e (by intro h;cases h)
   obtain⟨h1,h2,h3⟩:=hA.need _ _ h;refine⟨_,h2,h3,λK' hK=> ?_⟩;simp only[aW.bound,e'];exact⟨h1,hK⟩
  ·exact absurd h hA.bad
theorem Yj(hA:AX A good val){ev:aV->SV}{σ:List SV}(hev:∀ x:aV,Le (ev x) (x.ev σ)){K:SV->α}(p:vT){r:α}(hr:eY A ev K p=r):From good val r K (λK'=>aW σ K' p):=by
 intro h;have bad:∀ {q:Prop},good A.bad->q:=λh=>absurd h hA.bad;have two:∀ {x y:aV} {a b:SV},ev x=a->ev y=b->a≠ .junk->b≠ .junk->x.ev σ=a/\y.ev σ=b:=λh1 h2 h3 h4=>⟨le_eq (hev _) h1 h3,le_eq (hev _) h2 h4⟩;have nj:∀ {x c:SV},x=c->c≠ .junk->c≠ .junk:=λ_ h=>h;subst hr;cases p with
 |mv x=>exact⟨_,h,rfl,hev x⟩
 |pick c x y=>
  simp only[eY] at h ⊢;split at h
  ·rename_i b e;have e':=le_eq (hev c) e (by intro h;cases h)
   obtain⟨h1,h2⟩:=hA.spl _ _ _ h;cases b
   ·exact⟨_,h1,h2,by simpa[aW,e'] using hev y⟩
   ·exact⟨_,h1,h2,by simpa[aW,e'] using hev x⟩
  ·exact bad h
 |ar op x y=>
  simp only[eY] at h ⊢;split at h
  ·rename_i k a k' b e1 e2;obtain⟨f1,f2⟩:=two e1 e2 (by intro h;cases h) (by intro h;cases h)
   obtain⟨h1,h2,h3⟩:=hA.need _ _ h;obtain⟨n,k1,k2,k3⟩:=uK.am4 hA op rfl h2;refine⟨_,k1,h3.trans k2,?_⟩;simp only[aW,f1,f2];exact⟨h1,uK.Yh op (λm hm=>by subst hm;exact .inr rfl) k3⟩
  ·exact bad h
 |cmp op x y=>
  simp only[eY] at h ⊢;split at h
  ·rename_i k a k' b e1 e2;obtain⟨f1,f2⟩:=two e1 e2 (by intro h;cases h) (by intro h;cases h)
   obtain⟨h1,h2,h3⟩:=hA.need _ _ h;exact⟨_,h2,h3,by simp only[aW,f1,f2];exact⟨h1, .inr rfl⟩⟩
  ·exact bad h
 |beq neg x y=>
  simp only[eY] at h ⊢;split at h
  ·rename_i a b e1 e2;obtain⟨f1,f2⟩:=two e1 e2 (by intro h;cases h) (by intro h;cases h)
   exact⟨_,h,rfl,by simp only[aW,f1,f2];exact .inr rfl⟩
  ·exact bad h
 |seq neg x y=>
  simp only[eY] at h ⊢;split at h
  ·rename_i a b e1 e2;obtain⟨f1,f2⟩:=two e1 e2 (by intro h;cases h) (by intro h;cases h)
   exact⟨_,h,rfl,by simp only[aW,f1,f2];exact .inr rfl⟩
  ·exact bad h
 |cat x y=>
  simp only[eY] at h ⊢;split at h
  ·rename_i a b e1 e2;obtain⟨f1,f2⟩:=two e1 e2 (by intro h;cases h) (by intro h;cases h)
   obtain⟨h1,h2,h3⟩:=hA.need _ _ h;exact⟨_,h2,h3,by simp only[aW,f1,f2];exact⟨h1, .inr rfl⟩⟩
  ·exact bad h
 |nt x=>
  simp only[eY] at h ⊢;split at h
  ·rename_i a e1;have f1:=le_eq (hev x) e1 (by intro h;cases h)
   exact⟨_,h,rfl,by simp only[aW,f1];exact .inr rfl⟩
  ·exact bad h
 |neg x=>
  simp only[eY] at h ⊢;split at h
  ·rename_i k a e1;have f1:=le_eq (hev x) e1 (by intro h;cases h)
   exact⟨_,h,rfl,by simp only[aW,f1];exact .inr rfl⟩
  ·exact bad h
 |conv k x=>
  simp only[eY] at h ⊢;split at h
  ·rename_i k a e1;have f1:=le_eq (hev x) e1 (by intro h;cases h)
   exact⟨_,h,rfl,by simp only[aW,f1];exact .inr rfl⟩
  ·exact bad h
 |fa k off x=>
  simp only[eY] at h ⊢;obtain⟨hv,sv,k1,k2,k3⟩:=QJ hA rfl h;exact⟨sv,k1,k2,by simp only[aW,fE (hev x) hv];exact k3⟩
 |lQ k off sz ag x=>
  simp only[eY] at h ⊢;split at h
  ·rename_i l e1;have f1:=le_eq (hev x) e1 (by intro h;cases h)
   obtain⟨h1,h2,h3⟩:=hA.need _ _ h;exact⟨_,h2,h3,by simp only[aW,f1];exact⟨h1, .inr rfl⟩⟩
  ·exact bad h
 |ia n w x i=>
  simp only[eY] at h ⊢;split at h
  ·rename_i k j e1;have f1:=le_eq (hev i) e1 (by intro h;cases h)
   obtain⟨h1,h2,h3⟩:=hA.need _ _ h;obtain⟨hv,sv,k1,k2,k3⟩:=QJ hA rfl h2;exact⟨sv,k1,h3.trans k2,by simp only[aW,f1,fE (hev x) hv];exact⟨h1,k3⟩⟩
  ·exact bad h
 |«is» w x i=>
  simp only[eY] at h ⊢;split at h
  ·rename_i k j e1;have f1:=le_eq (hev i) e1 (by intro h;cases h)
   split at h
   ·rename_i e2;have f2:=le_eq (hev x) e2 (by intro h;cases h)
    obtain⟨h1,h2,h3⟩:=hA.need _ _ h;obtain⟨g1,g2,g3⟩:=hA.need _ _ h2;exact⟨_,g2,h3.trans g3,by simp only[aW,f1,f2];exact⟨h1,g1, .inr rfl⟩⟩
   ·rename_i e2;have f2:=le_eq (hev x) e2 (by intro h;cases h)
    obtain⟨h1,h2,h3⟩:=hA.need _ _ h;exact⟨_,h2,h3,by simp only[aW,f1,f2];exact⟨h1, .inr rfl⟩⟩
   ·rename_i e2;have f2:=le_eq (hev x) e2 (by intro h;cases h)
    obtain⟨h1,h2,h3⟩:=hA.need _ _ h;obtain⟨g1,g2,g3⟩:=hA.need _ _ h2;exact⟨_,g2,h3.trans g3,by simp only[aW,f1,f2];exact⟨h1,g1, .inr rfl⟩⟩
   ·exact bad h
  ·exact bad h
 |ix n w ag x i=>
  simp only[eY] at h ⊢;split at h
  ·rename_i k j e1;have f1:=le_eq (hev i) e1 (by intro h;cases h)
   split at h
   ·rename_i e2;have f2:=le_eq (hev x) e2 (by intro h;cases h)
    obtain⟨h1,h2,h3⟩:=hA.need _ _ h;obtain⟨g1,g2,g3⟩:=hA.need _ _ h2;exact⟨_,g2,h3.trans g3,by simp only[aW,f1,f2];exact⟨h1,g1, .inr rfl⟩⟩
   ·exact bad h
  ·exact bad h
 |sx x i=>
  simp only[eY] at h ⊢;split at h
  ·rename_i k j e1;have f1:=le_eq (hev i) e1 (by intro h;cases h)
   split at h
   ·rename_i e2;have f2:=le_eq (hev x) e2 (by intro h;cases h)
    obtain⟨h1,h2,h3⟩:=hA.need _ _ h;exact⟨_,h2,h3,by simp only[aW,f1,f2];exact⟨h1, .inr rfl⟩⟩
   ·exact bad h
  ·exact bad h
 |ext k x=>
  simp only[eY] at h ⊢;split at h
  ·rename_i l e1;have f1:=le_eq (hev x) e1 (by intro h;cases h)
   obtain⟨h1,h2,h3⟩:=hA.need _ _ h;exact⟨_,h2,h3,by simp only[aW,f1];exact⟨h1, .inr rfl⟩⟩
  ·exact bad h
 |AU z ps=>
  simp only[eY] at h ⊢;obtain⟨sv,k1,k2,k3⟩:=Yi hA hev ps z rfl h;obtain⟨h1,h2,h3⟩:=hA.need _ _ k1;exact⟨_,h2,k2.trans h3,by simp only[aW];exact sU (λx hx=>by subst hx;exact⟨h1, .inr rfl⟩) ps z k3⟩
 |lens x=>
  simp only[eY] at h ⊢;split at h
  ·rename_i s e1;have f1:=le_eq (hev x) e1 (by intro h;cases h)
   exact⟨_,h,rfl,by simp only[aW,f1];exact .inr rfl⟩
  ·exact bad h
 |len x=>
  simp only[eY] at h ⊢;split at h
  ·rename_i n e1;have f1:x.ev σ=ev x:=by
    rcases hev x with e|e
    ·rw[e] at e1;cases e1
    ·exact e.symm
   exact⟨_,h,rfl,by simp only[aW,f1,e1];exact .inr rfl⟩
  ·exact bad h
 |PS f caps=>
  simp only[eY] at h ⊢;obtain⟨h1,h2,h3⟩:=hA.need _ _ h;exact⟨_,h2,h3,by simp only[aW];rw[jP hev caps h1];exact⟨h1, .inr rfl⟩⟩
 |nck x=>
  simp only[eY] at h ⊢;split at h<;>first
   |exact bad h
   |(rename_i e1
     have f1:=le_eq (hev x) e1 (by intro h;cases h)
     exact⟨_,h,rfl,by simp only[aW,f1];exact .inr rfl⟩)
 |Nw neg x=>
  simp only[eY] at h ⊢;split at h<;>first
   |exact bad h
   |(rename_i e1
     have f1:=le_eq (hev x) e1 (by intro h;cases h)
     exact⟨_,h,rfl,by simp only[aW,f1];exact .inr rfl⟩)
 |ER t x=>
  simp only[eY] at h ⊢;obtain⟨h1,h2,h3⟩:=hA.need _ _ h;exact⟨_,h2,h3,by simp only[aW];rw[fE (hev x) h1];exact⟨h1, .inr rfl⟩⟩
 |aeq neg e x y=>
  simp only[eY] at h ⊢;obtain⟨h1,h2,h3⟩:=hA.need _ _ h;have vv:∀ {z:SV},fA e z->z.isVal=true:=by intro z hz;cases e<;>cases z<;>simp only[fA] at hz<;>rfl
  have f1:=fE (hev x) (vv h1.1);have f2:=fE (hev y) (vv h1.2);exact⟨_,h2,h3,by simp only[aW,f1,f2];exact⟨h1, .inr rfl⟩⟩
 |tas t z x=>
  simp only[eY] at h ⊢;split at h
  ·rename_i t' y e1;have f1:=le_eq (hev x) e1 (by intro h;cases h)
   by_cases he:t'=t
   ·rw[if_pos he] at h ⊢;exact⟨_,h,rfl,by simp only[aW,f1,if_pos he];exact .inr rfl⟩
   ·rw[if_neg he] at h ⊢;exact⟨_,h,rfl,by simp only[aW,f1,if_neg he];exact .inr rfl⟩
  ·exact bad h
 |ieq neg tab x y=>
  simp only[eY] at h ⊢;split at h
  ·rename_i t a e1;have f1:=le_eq (hev x) e1 (by intro h;cases h)
   split at h
   ·rename_i t' b e2;have f2:=le_eq (hev y) e2 (by intro h;cases h)
    by_cases he:t'=t
    ·rw[if_pos he] at h ⊢;cases hta:D9 tab t with
     |some e=>
      rw[hta] at h;simp only at h ⊢;obtain⟨q1,q2,q3⟩:=hA.need _ _ h;exact⟨_,q2,q3,by simp only[aW,f1,f2,if_pos he,hta];exact⟨q1, .inr rfl⟩⟩
     |none=>rw[hta] at h;exact bad h
    ·rw[if_neg he] at h ⊢;exact⟨_,h,rfl,by simp only[aW,f1,f2,if_neg he];exact .inr rfl⟩
   ·rename_i e2;have f2:=le_eq (hev y) e2 (by intro h;cases h)
    exact⟨_,h,rfl,by simp only[aW,f1,f2];exact .inr rfl⟩
   ·exact bad h
  ·rename_i e1;have f1:=le_eq (hev x) e1 (by intro h;cases h)
   split at h
   ·rename_i e2;have f2:=le_eq (hev y) e2 (by intro h;cases h)
    exact⟨_,h,rfl,by simp only[aW,f1,f2];exact .inr rfl⟩
   ·rename_i e2;have f2:=le_eq (hev y) e2 (by intro h;cases h)
    split at h
    ·exact⟨_,h,rfl,by simp only[aW,f1,f2];exact .inr rfl⟩
    ·exact bad h
   ·exact bad h
  ·exact bad h
 |GY neg x=>
  simp only[eY] at h ⊢;split at h
  ·rename_i n e1;have f1:x.ev σ=ev x:=by
    rcases hev x with e|e
    ·rw[e] at e1;cases e1
    ·exact e.symm
   split at h
   ·rename_i e2;refine⟨_,h,rfl,?_⟩;simp only[aW,f1,e2];exact .inr rfl
   ·obtain⟨h1,h2⟩:=hA.spl _ _ _ h;rename_i hne;have pk:∀ K':SV->Prop,((decide (n=0)=true->K' .zH)/\(decide (n=0)=false->K' (.bool neg)))->aW σ K' (.GY neg x):=by
     intro K' hK;simp only[aW,f1,e1]
     first
      |exact hK
      |(split
        ·rename_i e3;exact absurd e3 hne
        ·exact hK)
    by_cases hn:n=0
    ·simp only[hn,decide_true,if_true] at h1 h2;exact⟨_,h1,by simpa[hn] using h2,pk _ ⟨λ_=> .inr rfl,λe=>by simp[hn] at e⟩⟩
    ·simp only[hn,decide_false,z1c,if_false] at h1 h2;exact⟨_,h1,by simpa[hn] using h2,pk _ ⟨λe=>by simp[hn] at e,λ_=> .inr rfl⟩⟩
  ·exact bad h
 |mx x y=>
  simp only[eY] at h ⊢;split at h
  ·rename_i k a k' b e1 e2;obtain⟨f1,f2⟩:=two e1 e2 (by intro h;cases h) (by intro h;cases h)
   obtain⟨h1,h2,h3⟩:=hA.need _ _ h;exact⟨_,h2,h3,by simp only[aW,f1,f2];exact⟨h1, .inr rfl⟩⟩
  ·exact bad h
 |mn x y=>
  simp only[eY] at h ⊢;split at h
  ·rename_i k a k' b e1 e2;obtain⟨f1,f2⟩:=two e1 e2 (by intro h;cases h) (by intro h;cases h)
   obtain⟨h1,h2,h3⟩:=hA.need _ _ h;exact⟨_,h2,h3,by simp only[aW,f1,f2];exact⟨h1, .inr rfl⟩⟩
  ·exact bad h
 |ssl x lo hi=>
  simp only[eY] at h ⊢;split at h
  ·rename_i s e1;have f1:=le_eq (hev x) e1 (by intro h;cases h)
   obtain⟨a,h1,h2,h3⟩:=jy hA hev rfl h;obtain⟨b,g1,g2,g3⟩:=jy hA hev rfl h1;obtain⟨q1,q2,q3⟩:=hA.need _ _ g1;exact⟨_,q2,(h2.trans g2).trans q3,by simp only[aW,f1];exact h3 _ (g3 _ ⟨q1, .inr rfl⟩)⟩
  ·exact bad h
 |slc w x lo hi mx=>
  simp only[eY] at h ⊢;split at h
  ·rename_i w' d f l e1;have f1:=le_eq (hev x) e1 (by intro h;cases h)
   obtain⟨r1,r2,r3⟩:=hA.need _ _ h;obtain⟨a,h1,h2,h3⟩:=jy hA hev rfl r2;obtain⟨b,g1,g2,g3⟩:=jy hA hev rfl h1;obtain⟨q1,q2,q3⟩:=hA.need _ _ g1;exact⟨_,q2,((r3.trans h2).trans g2).trans q3,by simp only[aW,f1];exact⟨r1,h3 _ (g3 _ ⟨q1, .inr rfl⟩)⟩⟩
  ·rename_i c w' d f l e1;have f1:=le_eq (hev x) e1 (by intro h;cases h)
   obtain⟨r1,r2,r3⟩:=hA.need _ _ h;obtain⟨a,h1,h2,h3⟩:=jy hA hev rfl r2;obtain⟨b,g1,g2,g3⟩:=jy hA hev rfl h1;obtain⟨e,j1,j2,j3⟩:=jy hA hev rfl g1;obtain⟨q1,q2,q3⟩:=hA.need _ _ j1;exact⟨_,q2,(((r3.trans h2).trans g2).trans j2).trans q3,by simp only[aW,f1];exact⟨r1,h3 _ (g3 _ (j3 _ ⟨q1, .inr rfl⟩))⟩⟩
  ·rename_i i n e1;have f1:=le_eq (hev x) e1 (by intro h;cases h)
   obtain⟨a,h1,h2,h3⟩:=jy hA hev rfl h;obtain⟨b,g1,g2,g3⟩:=jy hA hev rfl h1;obtain⟨q1,q2,q3⟩:=hA.need _ _ g1;exact⟨_,q2,(h2.trans g2).trans q3,by simp only[aW,f1];exact h3 _ (g3 _ ⟨q1, .inr rfl⟩)⟩
  ·exact bad h
 |asl n w x=>
  simp only[eY] at h ⊢;split at h
  ·rename_i c p o e1;have f1:=le_eq (hev x) e1 (by intro h;cases h)
   split at h
   ·rename_i n' w' f e2;obtain⟨q1,q2,q3⟩:=hA.need _ _ h;exact⟨_,q2,q3,by simp only[aW,f1,e2];exact⟨q1, .inr rfl⟩⟩
   ·exact bad h
  ·rename_i w0 d f l i p o e1;have f1:=le_eq (hev x) e1 (by intro h;cases h)
   split at h
   ·rename_i n' w' g e2;obtain⟨q1,q2,q3⟩:=hA.need _ _ h;exact⟨_,q2,q3,by simp only[aW,f1,e2];exact⟨q1, .inr rfl⟩⟩
   ·exact bad h
  ·exact bad h
theorem GZ(hA:AX A good val){m:List ay}{n:Nat}{ag:Bool}{K:SV->α}{x:SV}{r:α}(hr:kU A m n ag K x=r)(h:good r):x.isVal=true/\∃ sv,good (K sv)/\val r=val (K sv)/\peek m n ag (Le sv) x:=by
 subst hr;cases x<;>simp only[kU,peek] at h ⊢ <;>first
  |exact absurd h hA.bad
  |exact⟨rfl,_,(hA.need _ _ h).2.1,(hA.need _ _ h).2.2,(hA.need _ _ h).1, .inr rfl⟩
  |(split at h
    ·rename_i e;simp only[e];exact⟨rfl,_,(hA.need _ _ h).2.1,(hA.need _ _ h).2.2,(hA.need _ _ h).1, .inr rfl⟩
    ·exact absurd h hA.bad)
theorem ajd(hA:AX A good val){m:List ay}{k:MK}{xs:List SV}{K:SV->α}{r:α}(hr:F6 A m k xs K=r)(h:good r):∃ sv,good (K sv)/\val r=val (K sv)/\∀ K':SV->List ay->Prop,K' sv m->pR m k xs K':=by
 subst hr;cases k<;>simp only[F6,pR] at h ⊢ <;>try (exact absurd h hA.bad)
 ·split at h
  ·rename_i i key;simp only;split at h
   ·rename_i e0;obtain⟨h1,h2,h3⟩:=hA.need _ _ h;exact⟨_,h2,h3,λK' hK=>by simp only[e0];exact⟨h1,hK⟩⟩
   ·exact absurd h hA.bad
  ·exact absurd h hA.bad
end
theorem Kw{m:List ay}{k:MK}{xs:List SV}{K K':SV->List ay->Prop}(hK:∀ x m,K x m->K' x m)(h:pR m k xs K):pR m k xs K':=by
 cases k<;>simp only[pR] at h ⊢
 ·split at h<;>first|exact hK _ _ h|exact h.elim
 ·split at h
  ·try simp only
   split at h
   ·rename_i e0
    try rw[e0]
    exact⟨h.1,hK _ _ h.2⟩
   ·exact h.elim
  ·exact h.elim
 ·split at h
  ·try simp only
   split at h
   ·rename_i e0
    try rw[e0]
    exact⟨h.1,hK _ _ h.2⟩
   ·exact h.elim
  ·exact h.elim
 ·split at h
  ·try simp only
   split at h
   ·rename_i e0
    try rw[e0]
    exact⟨h.1,hK _ _ h.2⟩
   ·exact h.elim
  ·exact h.elim
def mZ(F:Bool->Prop->Prop)(x:Prop->Prop)(y:Prop×Bool):Prop:= ∀ acc,x acc->∃ g,F y.2 g/\(g->acc/\y.1)
section rel
variable {F:Bool->Prop->Prop}
theorem dA{y:Prop×Bool}:mZ F AC.bad y:=λ_ h=>h.elim
theorem bZ{p:Prop}{x:Prop->Prop}{y:Prop×Bool}(h:mZ F x y):mZ F (AC.need p x) (AV.need p y):=λacc hx=>by obtain⟨g,h1,h2⟩:=h _ hx;exact⟨g,h1,λhg=>⟨(h2 hg).1.1,(h2 hg).1.2,(h2 hg).2⟩⟩
theorem Yk{b:Bool}{x x':Prop->Prop}{y y':Prop×Bool}(h:mZ F x y)(h':mZ F x' y'):mZ F (AC.spl b x x') (AV.spl b y y'):=λacc hx=>by
 cases b with
 |true=>
  obtain⟨g,h1,h2⟩:=h _ (hx.1 rfl);exact⟨g,h1,λhg=>⟨(h2 hg).1,(⟨λ_=>(h2 hg).2,λe=>by cases e⟩:(true=true->y.1)/\(true=false->y'.1))⟩⟩
 |false=>
  obtain⟨g,h1,h2⟩:=h' _ (hx.2 rfl);exact⟨g,h1,λhg=>⟨(h2 hg).1,(⟨λe=>(by cases e),λ_=>(h2 hg).2⟩:(false=true->y.1)/\(false=false->y'.1))⟩⟩
theorem Yl{ev:aV->SV}{K:SV->Prop->Prop}{K':SV->Prop×Bool}(hK:∀ sv,mZ F (K sv) (K' sv)):∀ (ps:List (List Step×Nat×Nat×aV)) (z:SV),mZ F (Ve AC ev z ps K) (Ve AV ev z ps K')
 |[],z=>hK z
 |(p,o,n,x)::r,z=>bZ (Yl hK r _)
theorem jA{ev:aV->SV}{d:Nat}{x:Option aV}{K:Nat->Prop->Prop}{K':Nat->Prop×Bool}(hK:∀ n,mZ F (K n) (K' n)):mZ F (jR AC ev d x K) (jR AV ev d x K'):=by
 cases x with
 |none=>exact hK d
 |some x=>
  simp only[jR];split
  ·exact bZ (hK _)
  ·exact dA
theorem rel_step{s:Step}{off:Nat}{K:SV->Prop->Prop}{K':SV->Prop×Bool}(hK:∀ sv,mZ F (K sv) (K' sv))(x:SV):mZ F (stpG AC s off K x) (stpG AV s off K' x):=by cases x<;>simp only[stpG]<;>first|exact hK _|exact dA
theorem ad7{m:List ay}{n:Nat}{ag:Bool}{K:SV->Prop->Prop}{K':SV->Prop×Bool}(hK:∀ sv,mZ F (K sv) (K' sv))(x:SV):mZ F (kU AC m n ag K x) (kU AV m n ag K' x):=by
 cases x<;>simp only[kU]<;>first
  |exact dA
  |exact bZ (hK _)
  |(split<;>first|exact dA|exact bZ (hK _))
theorem aje{m:List ay}{k:MK}{xs:List SV}{K:SV->Prop->Prop}{K':SV->Prop×Bool}(hK:∀ sv,mZ F (K sv) (K' sv)):mZ F (F6 AC m k xs K) (F6 AV m k xs K'):=by
 cases k<;>simp only[F6]<;>try (exact dA)
 ·split
  ·split
   ·exact bZ (hK _)
   ·exact dA
  ·exact dA
theorem am5{k:IntKind}{a b:Int}{K:Int->Prop->Prop}{K':Int->Prop×Bool}(hK:∀ n,mZ F (K n) (K' n))(op:uK):mZ F (op.evG AC k a b K) (op.evG AV k a b K'):=by cases op<;>simp only[uK.evG]<;>first|exact hK _|exact bZ (hK _)
theorem ajf{ev:aV->SV}{K:SV->Prop->Prop}{K':SV->Prop×Bool}(hK:∀ sv,mZ F (K sv) (K' sv))(p:vT):mZ F (eY AC ev K p) (eY AV ev K' p):=by
 cases p with
 |ar op x y=>
  simp only[eY];split
  ·exact bZ (am5 (λn=>hK _) op)
  ·exact dA
 |pick c x y=>
  simp only[eY];split
  ·exact Yk (hK _) (hK _)
  ·exact dA
 |fa k off x=>exact rel_step hK _
 |ia n w x i=>
  simp only[eY];split
  ·exact bZ (rel_step hK _)
  ·exact dA
 |AU z ps=>exact Yl (λsv=>bZ (hK _)) ps z
 |ssl x lo hi=>
  simp only[eY];split
  ·exact jA (λl=>jA (λh=>bZ (hK _)))
  ·exact dA
 |slc w x lo hi mx=>
  simp only[eY];split
  ·exact bZ (jA (λl=>jA (λh=>bZ (hK _))))
  ·exact bZ (jA (λl=>jA (λh=>jA (λc=>bZ (hK _)))))
  ·exact jA (λl=>jA (λh=>bZ (hK _)))
  ·exact dA
 |asl n w x=>
  simp only[eY];split
  ·split
   ·exact bZ (hK _)
   ·exact dA
  ·split
   ·exact bZ (hK _)
   ·exact dA
  ·exact dA
 |tas t z x=>
  simp only[eY];split
  ·split<;>exact hK _
  ·exact dA
 |ieq neg tab x y=>
  simp only[eY];split
  ·split
   ·split
    ·split
     ·exact bZ (hK _)
     ·exact dA
    ·exact hK _
   ·exact hK _
   ·exact dA
  ·split
   ·exact hK _
   ·split
    ·exact hK _
    ·exact dA
   ·exact dA
  ·exact dA
 |GY neg x=>
  simp only[eY];split
  ·split
   ·exact hK _
   ·exact Yk (hK _) (hK _)
  ·exact dA
 |_=>
  simp only[eY]
  first
   |exact hK _
   |exact bZ (hK _)
   |(split<;>first|exact hK _|exact bZ (hK _)|exact dA|(split<;>first|exact dA|exact bZ (bZ (hK _))|exact bZ (hK _)))
end rel
theorem Ec{s:Step}{off:Nat}{K K':SV->Prop}(hK:∀ x,K x->K' x){x:SV}(h:wV s off K x):wV s off K' x:=by cases x<;>simp only[wV] at h ⊢ <;>exact hK _ h
theorem iL{σ:List SV}{d:Nat}{x:Option aV}{K K':Nat->Prop}(hK:∀ x,K x->K' x)(h:aW.bound σ d x K):aW.bound σ d x K':=by
 cases x with
 |none=>exact hK _ h
 |some x=>
  simp only[aW.bound] at h ⊢;split at h
  ·exact⟨h.1,hK _ h.2⟩
  ·exact h.elim
theorem yH{m:List ay}{n:Nat}{ag:Bool}{K K':SV->Prop}(hK:∀ x,K x->K' x){x:SV}(hh:peek m n ag K x):peek m n ag K' x:=by
 cases x<;>simp only[peek] at hh ⊢ <;>first
  |exact hh
  |exact⟨hh.1,hK _ hh.2⟩
  |(split at hh<;>first|exact hh.elim|exact⟨hh.1,hK _ hh.2⟩)
theorem Ky{σ:List SV}{K K':SV->Prop}(hK:∀ x,K x->K' x){p:vT}(h:aW σ K p):aW σ K' p:=by
 cases p<;>simp only[aW] at h ⊢
 case ar=>split at h<;>first|exact h.elim|exact⟨h.1,uK.Yh _ (λn hn=>hK _ hn) h.2⟩
 case fa=>exact Ec hK h
 case ia=>split at h<;>first|exact h.elim|exact⟨h.1,Ec hK h.2⟩
 case AU=>exact sU (λx hx=>⟨hx.1,hK _ hx.2⟩) _ _ h
 case ssl=>split at h<;>first|exact h.elim|exact iL (λa ha=>iL (λb hb=>⟨hb.1,hK _ hb.2⟩) ha) h
 case asl=>
  split at h<;>try (exact h.elim)
  all_goals (split at h<;>first|exact h.elim|exact⟨h.1,hK _ h.2⟩)
 case slc=>split at h<;>first|exact h.elim|exact iL (λa ha=>iL (λb hb=>⟨hb.1,hK _ hb.2⟩) ha) h|exact⟨h.1,iL (λa ha=>iL (λb hb=>⟨hb.1,hK _ hb.2⟩) ha) h.2⟩|exact⟨h.1,iL (λa ha=>iL (λb hb=>iL (λc hc=>⟨hc.1,hK _ hc.2⟩) hb) ha) h.2⟩
 case tas=>
  split at h<;>try (exact h.elim)
  split at h
  ·rename_i he;rw[if_pos he];exact hK _ h
  ·rename_i he;rw[if_neg he];exact hK _ h
 case ieq=>
  split at h<;>try (exact h.elim)
  ·split at h<;>try (exact h.elim)
   ·split at h
    ·rename_i he;rw[if_pos he];split at h<;>try (exact h.elim)
     exact⟨h.1,hK _ h.2⟩
    ·rename_i he;rw[if_neg he];exact hK _ h
   ·exact hK _ h
  ·split at h<;>first|exact h.elim|exact hK _ h|(split at h<;>first|exact h.elim|exact hK _ h)
 case GY=>split at h<;>first|exact h.elim|(split at h<;>first|exact hK _ h|exact⟨λe=>hK _ (h.1 e),λe=>hK _ (h.2 e)⟩)
 case pick=>split at h<;>first|exact h.elim|exact⟨λe=>hK _ (h.1 e),λe=>hK _ (h.2 e)⟩
 all_goals first
  |exact hK _ h
  |exact⟨h.1,hK _ h.2⟩
  |(split at h<;>first|exact h.elim|exact hK _ h|exact⟨h.1,hK _ h.2⟩|(split at h<;>first|exact h.elim|exact⟨h.1,hK _ h.2⟩|exact⟨h.1,h.2.1,hK _ h.2.2⟩))
end Go.Sx
namespace Go.Sx
open Go
variable {P:Program} {main:Bool} {Fz:Nat->Prop}
inductive Call:Type 1 where
 |no
 |ro (p:Prop) (r:SV)
 |is (p:Prop) (r:SV) (m':List ay)
abbrev FH:=FuncId->List SV->List ay->Call
def Call.hook(c:Call)(m:List ay)(K:SV->List ay->Prop):Prop:=match c with
 | .no=>False
 | .ro p r=>p/\K r m
 | .is p r m'=>p/\K r m'
def FH.hook(Γ:FH):Hook:=λf args m K=>(Γ f args m).hook m K
def Call.OK(P:Program)(main:Bool)(Fz:Nat->Prop)(f:FuncId)(args:List SV)(m:List ay):Call->Prop
 | .no=>True
 | .ro p r=>p->qp P f=true/\qh P main Fz f args m r m
 | .is p r m'=>p->qp P f=true/\qh P main Fz f args m r m'
def bQ(P:Program)(main:Bool)(Fz:Nat->Prop)(Γ:FH):Prop:= ∀ f args m,(Γ f args m).OK P main Fz f args m
theorem bQ.hook{Γ:FH}(h:bQ P main Fz Γ):iI P main Fz Γ.hook:=by
 intro f args m K hh;have:=h f args m;unfold FH.hook at hh;cases hc:Γ f args m with
 |no=>rw[hc] at hh;exact hh.elim
 |ro p r=>rw[hc] at hh this;obtain⟨h1,h2⟩:=this hh.1;exact⟨h1,r,m,hh.2,h2⟩
 |«is» p r m'=>rw[hc] at hh this;obtain⟨h1,h2⟩:=this hh.1;exact⟨h1,r,m',hh.2,h2⟩
def FH.none:FH:=λ_ _ _=> .no
theorem FH.au:bQ P main Fz FH.none:=λ_ _ _=>trivial
def FH.on(f:FuncId)(H:List SV->List ay->Call)(Γ:FH):FH:=λg args m=>if g=f then H args m else Γ g args m
theorem FH.Eo{f:FuncId}{H:List SV->List ay->Call}{Γ:FH}(hH:∀ args m,(H args m).OK P main Fz f args m)(hΓ:bQ P main Fz Γ):bQ P main Fz (FH.on f H Γ):=by
 intro g args m;unfold FH.on;split
 ·rename_i h;subst h;exact hH args m
 ·exact hΓ g args m
inductive SL:Type 1 where
 |nil
 |op (d:Option Nat) (x:zf) (r:SL)
 |sc (or:Bool) (d s:Nat) (l:SL) (y:aV) (r:SL)
 |WS (or:Bool) (d s:Nat) (l:SL) (y:aV) (r:SL)
 |prune (ks:List Nat) (r:SL)
def SL.flat(g:Option (Nat×Bool)):SL->List dP
 | .nil=>[]
 | .op d x r=>⟨d,g,x⟩::r.flat g
 | .sc or d s l y r=>l.flat (some (s,!or))++⟨some d,g, .p (.pick (.t s) (if or then .c (.bool true) else y) (if or then y else .c (.bool false)))⟩::r.flat g
 | .WS or d s l y r=>l.flat (some (s,!or))++⟨some d,g, .p (.pick (.t s) (if or then .c (.bool true) else y) (if or then y else .c (.bool false)))⟩::r.flat g
 | .prune _ r=>r.flat g
def SL.Uc(s d:Nat):SL->List Nat->Bool
 | .nil,_=>true
 | .op d' _ r,acc=>(match d' with
  |some k=>decide (s<k)&&decide (k<d)&&r.Uc s d (k::acc)
  |none=>false)
 | .sc _ d' s' l _ r,acc=>decide (s<d')&&decide (d'<d)&&decide (s<s')&&acc.contains s'&&acc.all (λk=> !(decide (s'<k)&&decide (k<d')))&&l.Uc s' d' []&&r.Uc s d (d'::acc)
 | .WS ..,_=>false
 | .prune _ r,acc=>r.Uc s d acc
def SL.wf(n:Nat):SL->Bool
 | .nil=>true
 | .op d _ r=>(match d with
  |some k=>decide (k<n)
  |none=>true)&&r.wf n
 | .sc _ d s l _ r=>decide (d<n)&&l.Uc s d []&&r.wf n
 | .WS _ d _ l _ r=>decide (d<n)&&l.wf n&&r.wf n
 | .prune _ r=>r.wf n
def RI(c:Call)(K:SV->Prop×Bool):Prop×Bool:=match c with
 | .ro p r=>AV.need p (K r)
 |_=>AV.bad
def vop(Γ:FH)(m:List ay)(τ:Fr)(K:SV->Prop×Bool):zf->Prop×Bool
 | .p p=>eY AV (aV.fv τ) K p
 | .e (.load n ag x)=>kU AV m n ag K (x.fv τ)
 | .e (.call f ys)=>AV.need ((ys.map (aV.fv τ)).all SV.isVal=true) (RI (Γ f (ys.map (aV.fv τ)) m) K)
 | .e (.nD f ys)=>AV.need ((ys.map (aV.fv τ)).all SV.isVal=true) (RI (Γ f (ys.map (aV.fv τ)) m) K)
 | .e (.ET l)=>K (.lst 1 (0:Int) (SV.int .i64) l)
 | .e (.L9 k ys)=>AV.need ((ys.map (aV.fv τ)).all SV.isVal=true) (F6 AV m k (ys.map (aV.fv τ)) K)
 | .e (.fO x ys)=>match x.fv τ with
  | .fn f cap=>AV.need ((ys.map (aV.fv τ)).all SV.isVal=true) (RI (Γ f (ys.map (aV.fv τ)++cap) m) K)
  |_=>AV.bad
 |_=>AV.bad
def scG{α:Type}(A:Ans α)(or b:Bool)(K:Bool->α):Prop×Bool->α
 |(p,q)=>A.need (b=(!or)->p) (K (if or then b||q else b&&q))
def SL.vg(Γ:FH)(m:List ay):SL->aV->Fr->Prop×Bool
 | .nil,y,τ=>match y.fv τ with
  | .bool b=>(True,b)
  |_=>AV.bad
 | .op d x r,y,τ=>vop Γ m τ (λsv=>r.vg Γ m y (wJ d sv τ)) x
 | .sc or d s l y' r,y,τ=>match look s τ with
  | .bool b=>scG AV or b (λv=>r.vg Γ m y (.pick s d (.bool v) τ)) (l.vg Γ m y' τ)
  |_=>AV.bad
 | .WS ..,_,_=>AV.bad
 | .prune ks r,y,τ=>r.vg Γ m y (jI ks τ)
def zh(c:Call)(K:SV->Prop->Prop):Prop->Prop:=match c with
 | .ro p r=>AC.need p (K r)
 |_=>AC.bad
def JO(Γ:FH)(m:List ay)(τ:Fr)(K:SV->Prop->Prop):zf->Prop->Prop
 | .p p=>eY AC (aV.fv τ) K p
 | .e e=>match e with
  | .load n ag x=>kU AC m n ag K (x.fv τ)
  | .call f ys=>AC.need ((ys.map (aV.fv τ)).all SV.isVal=true) (zh (Γ f (ys.map (aV.fv τ)) m) K)
  | .nD f ys=>AC.need ((ys.map (aV.fv τ)).all SV.isVal=true) (zh (Γ f (ys.map (aV.fv τ)) m) K)
  | .ET l=>K (.lst 1 (0:Int) (SV.int .i64) l)
  | .L9 k ys=>AC.need ((ys.map (aV.fv τ)).all SV.isVal=true) (F6 AC m k (ys.map (aV.fv τ)) K)
  | .fO x ys=>match x.fv τ with
   | .fn f cap=>AC.need ((ys.map (aV.fv τ)).all SV.isVal=true) (zh (Γ f (ys.map (aV.fv τ)++cap) m) K)
   |_=>AC.bad
  |_=>AC.bad
def SL.vc(Γ:FH)(m:List ay):SL->aV->Fr->(Bool->Prop->Prop)->Prop->Prop
 | .nil,y,τ,K,acc=>match y.fv τ with
  | .bool b=>K b acc
  |_=>False
 | .op d x r,y,τ,K,acc=>JO Γ m τ (λsv acc'=>r.vc Γ m y (wJ d sv τ) K acc') x acc
 | .sc or d s l y' r,y,τ,K,acc=>match look s τ with
  | .bool b=>l.vc Γ m y' τ (λq g=>r.vc Γ m y (.pick s d (.bool (if or then b||q else b&&q)) τ) K (acc/\(b=(!or)->g))) True
  |_=>False
 | .WS ..,_,_,_,_=>False
 | .prune ks r,y,τ,K,acc=>r.vc Γ m y (jI ks τ) K acc
theorem RJ{F:Bool->Prop->Prop}{K:SV->Prop->Prop}{K':SV->Prop×Bool}(hK:∀ sv,mZ F (K sv) (K' sv))(c:Call):mZ F (zh c K) (RI c K'):=by
 cases c with
 |ro p r=>exact bZ (hK _)
 |no=>exact dA
 |«is» p r m=>exact dA
theorem ajN{F:Bool->Prop->Prop}{Γ:FH}{m:List ay}{τ:Fr}{K:SV->Prop->Prop}{K':SV->Prop×Bool}(hK:∀ sv,mZ F (K sv) (K' sv))(x:zf):mZ F (JO Γ m τ K x) (vop Γ m τ K' x):=by
 cases x with
 |p p=>exact ajf hK p
 |e e=>
  cases e<;>simp only[JO,vop]<;>first
   |exact dA
   |exact hK _
   |exact ad7 hK _
   |exact bZ (RJ hK _)
   |exact bZ (aje hK)
   |(split<;>first|exact dA|exact bZ (RJ hK _))
theorem IU{Γ:FH}{m:List ay}:∀ (l:SL) (y:aV) (τ:Fr) (F:Bool->Prop->Prop),mZ F (l.vc Γ m y τ F) (l.vg Γ m y τ)
 | .nil,y,τ,F=>by
  intro acc h;simp only[SL.vc,SL.vg] at h ⊢;split at h
  ·exact⟨acc,h,λg=>⟨g,trivial⟩⟩
  ·exact h.elim
 | .op d x r,y,τ,F=>ajN (λsv=>IU r y (wJ d sv τ) F) x
 | .sc or d s l y' r,y,τ,F=>by
  intro acc h;simp only[SL.vc,SL.vg] at h ⊢;split at h
  ·rename_i b e;obtain⟨g,h1,h2⟩:=IU l y' τ _ True h;generalize l.vg Γ m y' τ=pq at h1 h2;obtain⟨p,q⟩:=pq;obtain⟨g2,h3,h4⟩:=IU r y _ F _ h1;exact⟨g2,h3,λhg=>⟨(h4 hg).1.1,λhb=>(h2 ((h4 hg).1.2 hb)).2,(h4 hg).2⟩⟩
  ·exact h.elim
 | .WS ..,y,τ,F=>by intro acc h;exact h.elim
 | .prune ks r,y,τ,F=>IU r y (jI ks τ) F
theorem adS{Γ:FH}{m:List ay}{l:SL}{y:aV}{τ:Fr}{B:Prop}{X:Bool->Prop}(h:l.vc Γ m y τ (λq g=>(B->g)/\X q) True):(B->(l.vg Γ m y τ).1)/\X (l.vg Γ m y τ).2:=by obtain⟨g,h1,h2⟩:=IU l y τ _ True h;exact⟨λhb=>(h2 (h1.1 hb)).2,h1.2⟩
def aaF(ev:aV->SV)(w:Nat):List SV->List (Nat×aV)->(List SV->Prop)->Prop
 |l,[],K=>K l
 |l,(k,x)::r,K=>(k<l.length/\(ev x).isVal=true/\wd (ev x)=w)/\aaF ev w (l.set k (ev x)) r K
def opF(Γ:FH)(dr:Bool)(τ:Fr)(m:List ay)(K:Fr->SV->List ay->Prop):zf->Prop
 | .p p=>eY AP (aV.fv τ) (λsv=>K τ sv m) p
 | .e (.alloc T z)=>K τ (.ptr m.length [] 0) (m++[.blk T z])
 | .e (.box T x)=>(x.fv τ).isVal=true/\K τ (.ptr m.length [] 0) (m++[.blk T (x.fv τ)])
 | .e (.load n ag x)=>kU AP m n ag (λsv=>K τ sv m) (x.fv τ)
 | .e (.store n x v)=>F5 m n (v.fv τ) (λm'=>K τ .junk m') (x.fv τ)
 | .e (.Ia E w len z ys)=>aaF (aV.fv τ) w (z04 len z) ys λl=>K τ (.vec m.length len) (m++[.vec E w l])
 | .e (.mks E w by' z l c)=>match l.fv τ,c.fv τ with
  | .int _ a, .int _ b=>(0<=a/\a<=b/\b*by'<=140737488355328)/\K τ (.vec m.length a.toNat) (m++[.vec E w (z04 a.toNat z)])
  |_,_=>False
 | .e (.app E w by' s x)=>if dr then Ql m E w by' (s.fv τ) (x.fv τ) (λsv m'=>K τ sv m') else
  match FY m w (x.fv τ) with
  |none=>False
  |some l2=>match s.fv τ with
   | .dO=>l2.length*by'<=140737488355328/\K τ (.vec m.length l2.length) (m++[.vec E w l2])
   | .vec i _=>match ak m i with
    | .vec E' w' l=>((E'=E/\E<1000000)/\w'=w/\(l.length+l2.length)*by'<=140737488355328)/\
      K (y9 i τ) (.vec i (l.length+l2.length)) ((m.map (wH i)).set i (.vec E w (dn i (l++l2))))
    |_=>False
   |_=>False
 | .e (.call f ys)=>(ys.map (aV.fv τ)).all SV.isVal=true/\(Γ f (ys.map (aV.fv τ)) m).hook m (λsv m'=>K τ sv m')
 | .e (.nD f ys)=>(ys.map (aV.fv τ)).all SV.isVal=true/\(match Γ f (ys.map (aV.fv τ)) m with
  | .ro p r=>p/\K τ r m
  |_=>False)
 | .e (.ET l)=>K τ (.lst 1 (0:Int) (SV.int .i64) l) m
 | .e (.Dj E w len z ys)=>aaF (aV.fv τ) w (z04 len z) ys λl=>Au l/\K τ (Vd w len l) m
 | .e (.L9 k ys)=>(ys.map (aV.fv τ)).all SV.isVal=true/\pR m k (ys.map (aV.fv τ)) (λsv m'=>K τ sv m')
 | .e (.again n ag x d)=>(look d τ).isVal=true/\kU AP m n ag (λsv=>sv=look d τ/\K τ .junk m) (x.fv τ)
 | .e (.sW k ys d)=>(look d τ).isSet=true/\(ys.map (aV.fv τ)).all SV.isVal=true/\pR m k (ys.map (aV.fv τ)) (λsv m'=>(sv=look d τ/\m'=m)/\K τ .junk m)
 | .e (.Ed tab x ys)=>match x.fv τ with
  | .iface t v=>match Qk tab t with
   |some f=>(ys.map (aV.fv τ)).all SV.isVal=true/\(Γ f (v::ys.map (aV.fv τ)) m).hook m (λsv m'=>K τ sv m')
   |none=>False
  |_=>False
 | .e (.fO x ys)=>match x.fv τ with
  | .fn f cap=>(ys.map (aV.fv τ)).all SV.isVal=true/\(Γ f (ys.map (aV.fv τ)++cap) m).hook m (λsv m'=>K τ sv m')
  |_=>False
def SL.wpg(Γ:FH)(dr:Bool)(s:Nat)(want:Bool):SL->(Fr->List ay->Prop)->Fr->List ay->Prop
 | .nil,K,τ,m=>look s τ= .bool want/\K τ m
 | .op d x r,K,τ,m=>look s τ= .bool want/\opF Γ dr τ m (λτ' sv m'=>r.wpg Γ dr s want K (wJ d sv τ') m') x
 | .sc ..,_,_,_=>False
 | .WS ..,_,_,_=>False
 | .prune ks r,K,τ,m=>r.wpg Γ dr s want K (jI ks τ) m
def SL.wp(Γ:FH)(dr:Bool):SL->(Fr->List ay->Prop)->Fr->List ay->Prop
 | .nil,K,τ,m=>K τ m
 | .op d x r,K,τ,m=>opF Γ dr τ m (λτ' sv m'=>r.wp Γ dr K (wJ d sv τ') m') x
 | .sc or d s l y r,K,τ,m=>match look s τ with
  | .bool b=>l.vc Γ m y τ (λq g=>(b=(!or)->g)/\r.wp Γ dr K (.pick s d (.bool (if or then b||q else b&&q)) τ) m) True
  |_=>False
 | .WS or d s l y r,K,τ,m=>match look s τ with
  | .bool b=>if b=or then l.Uc s d []=true/\r.wp Γ dr K (.pick s d (.bool or) τ) m else l.wpg Γ dr s (!or) (λτ' m'=>match y.fv τ' with
   | .bool q=>r.wp Γ dr K (.pick s d (.bool q) τ') m'
   |_=>False) τ m
  |_=>False
 | .prune ks r,K,τ,m=>r.wp Γ dr K (jI ks τ) m
theorem Et{Γ:Hook}:∀ (l1 l2:List dP) (K:List SV->List ay->Prop) (σ:List SV) (m:List ay),uP Γ (l1++l2) K σ m=uP Γ l1 (λσ' m'=>uP Γ l2 K σ' m') σ m
 |[],_,_,_,_=>rfl
 |o::l1,l2,K,σ,m=>by simp only[z1g,uP,Et l1 l2]
theorem Bo{Γ:Hook}:∀ (l1 l2:List dP) (K:List SV->List ay->Prop) (σ:List SV) (m:List ay),iY Γ (l1++l2) K σ m=iY Γ l1 (λσ' m'=>iY Γ l2 K σ' m') σ m
 |[],_,_,_,_=>rfl
 |o::l1,l2,K,σ,m=>by simp only[z1g,iY,Bo l1 l2]
def tC(dr:Bool)(Γ:Hook)(l:List dP)(K:List SV->List ay->Prop)(σ:List SV)(m:List ay):Prop:=if dr then iY Γ l K σ m else uP Γ l K σ m
theorem rX{dr:Bool}{Γ:Hook}(l1 l2:List dP)(K:List SV->List ay->Prop)(σ:List SV)(m:List ay):tC dr Γ (l1++l2) K σ m=tC dr Γ l1 (λσ' m'=>tC dr Γ l2 K σ' m') σ m:=by
 cases dr
 ·exact Et l1 l2 K σ m
 ·exact Bo l1 l2 K σ m
theorem Bq{dr:Bool}{Γ:Hook}{K:List SV->List ay->Prop}{σ:List SV}{m:List ay}:tC dr Γ [] K σ m=K σ m:=by cases dr<;>rfl
def xop(dr:Bool)(Γ:Hook)(σ:List SV)(m:List ay)(K:List SV->SV->List ay->Prop)(x:zf):Prop:=if dr then jq Γ σ m (λsv m'=>K σ sv m') x else opK Γ σ m K x
theorem KU{dr:Bool}{Γ:Hook}{o:dP}{r:List dP}{K:List SV->List ay->Prop}{σ:List SV}{m:List ay}:
  tC dr Γ (o::r) K σ m=qR o.guard σ (λK1=>xop dr Γ K1 m (λσ' sv m'=>tC dr Γ r K (gV o.dst sv σ') m') o.op) (λK1=>tC dr Γ r K (gV o.dst (.cu []) K1) m):=by
 cases dr<;>rfl
def Met(g:Option (Nat×Bool))(σ:List SV):Prop:=match g with
 |none=>True
 |some (s,want)=>σ.getD s .junk= .bool want
def KW(g:Option (Nat×Bool))(σ:List SV):Prop:=match g with
 |none=>False
 |some (s,want)=>σ.getD s .junk= .bool (!want)\/σ.getD s .junk= .cu []
theorem mD{dr:Bool}{Γ:Hook}{o:dP}{r:List dP}{K:List SV->List ay->Prop}{σ:List SV}{m:List ay}(hm:Met o.guard σ)
  (h:xop dr Γ σ m (λσ' sv m'=>tC dr Γ r K (gV o.dst sv σ') m') o.op):tC dr Γ (o::r) K σ m:=by
 rw[KU];cases hg:o.guard with
 |none=>exact h
 |some g=>
  obtain⟨s,want⟩:=g;rw[hg] at hm;have hm:σ.getD s .junk= .bool want:=hm;simp only[qR,hm];exact⟨λ_=>by rw[set_self hm];exact h,λe=>absurd e (by cases want<;>simp)⟩
theorem IV{dr:Bool}{Γ:Hook}{o:dP}{r:List dP}{K:List SV->List ay->Prop}{σ:List SV}{m:List ay}(hm:KW o.guard σ)
  (h:tC dr Γ r K (gV o.dst (.cu []) σ) m):tC dr Γ (o::r) K σ m:=by
 rw[KU];cases hg:o.guard with
 |none=>rw[hg] at hm;exact hm.elim
 |some g=>
  obtain⟨s,want⟩:=g;rw[hg] at hm;rcases hm with hm|hm
  ·simp only[qR,hm];exact⟨λe=>absurd e (by cases want<;>simp),λ_=>by rw[set_self hm];exact h⟩
  ·simp only[qR,hm];exact h
def Out(s d:Nat)(σ σ':List SV):Prop:=σ'.length=σ.length/\∀ k,¬ (s<k/\k<d)->σ'.getD k .junk=σ.getD k .junk
theorem Out.refl(s d:Nat)(σ:List SV):Out s d σ σ:=⟨rfl,λ_ _=>rfl⟩
theorem Out.trans{s d:Nat}{σ σ' ae5:List SV}(h:Out s d σ σ')(k:Out s d σ' ae5):Out s d σ ae5:=⟨k.1.trans h.1,λi hi=>(k.2 i hi).trans (h.2 i hi)⟩
theorem getD_set_ne{σ:List SV}{a b:Nat}{x:SV}(h:b≠a):(σ.set a x).getD b .junk=σ.getD b .junk:=by rw[z02,z02,z0a,if_neg (λe=>h e.symm)]
theorem iE{σ:List SV}{a:Nat}{x:SV}(h:a<σ.length):(σ.set a x).getD a .junk=x:=by simp[z02,h]
theorem Out.set{s d:Nat}{σ:List SV}{k:Nat}{x:SV}(h:s<k/\k<d):Out s d σ (σ.set k x):=
 ⟨by simp,λi hi=>getD_set_ne (λe=>hi (e▸h))⟩
theorem Out.wider{s d s' d':Nat}{σ σ':List SV}(h:Out s' d' σ σ')(hs:s<=s')(hd:d'<=d):Out s d σ σ':=⟨h.1,λk hk=>h.2 k (λe=>hk ⟨by omega,by omega⟩)⟩
theorem vF{dr:Bool}{Γ:Hook}{m:List ay}:∀ (l:SL) (s d:Nat) (want:Bool) (acc:List Nat) (σ:List SV) (K:List SV->List ay->Prop),l.Uc s d acc=true->d<=σ.length->KW (some (s,want)) σ->(∀ k∈acc,σ.getD k .junk= .cu [])->
  (∀ σ',Out s d σ σ'->K σ' m)->tC dr Γ (l.flat (some (s,want))) K σ m
 | .nil,s,d,want,acc,σ,K,_,_,_,_,hK=>by rw[SL.flat,Bq];exact hK σ (Out.refl ..)
 | .op d' x r,s,d,want,acc,σ,K,hw,hn,hu,ha,hK=>by
  cases d' with
  |none=>simp[SL.Uc] at hw
  |some k=>
   simp only[SL.Uc,z00,decide_eq_true_eq] at hw;obtain⟨⟨h1,h2⟩,h3⟩:=hw;rw[SL.flat];refine IV hu ?_;have hs:(σ.set k (.cu [])).getD s .junk=σ.getD s .junk:=getD_set_ne (by omega)
   refine vF r s d want (k::acc) (σ.set k (.cu [])) K h3 (by simpa using hn) (by simp only[KW,hs];exact hu) (λj hj=> ?_) λσ' h=>hK σ' ((Out.set ⟨h1,h2⟩).trans h)
   by_cases e:j=k
   ·subst e;exact iE (by omega)
   ·rw[getD_set_ne e];exact ha j (by simpa[e] using hj)
 | .sc or d' s' l y r,s,d,want,acc,σ,K,hw,hn,hu,ha,hK=>by
  simp only[SL.Uc,z00,decide_eq_true_eq] at hw;obtain⟨⟨⟨⟨⟨⟨h1,h2⟩,h0⟩,h3⟩,h6⟩,h4⟩,h5⟩:=hw;rw[SL.flat,rX];have hs':σ.getD s' .junk= .cu []:=ha s' (by simpa using h3)
  refine vF l s' d' (!or) [] σ _ h4 (by omega) (.inr hs') (λk hk=>by cases hk) λK1 ho=> ?_
  have ho':Out s d σ K1:=ho.wider (by omega) (by omega)
  have hu':KW (some (s,want)) K1:=by simp only[KW];rw[ho'.2 s (by omega)];exact hu
  refine IV hu' ?_;have hs:(K1.set d' (.cu [])).getD s .junk=K1.getD s .junk:=getD_set_ne (by omega)
  refine vF r s d want (d'::acc) (K1.set d' (.cu [])) K h5 (by simp[ho.1];omega) (by simp only[KW,hs];exact hu') (λj hj=> ?_) λσ' h=>hK σ' ((ho'.trans (Out.set ⟨h1,h2⟩)).trans h)
  by_cases e:j=d'
  ·subst e;exact iE (by rw[ho.1];omega)
  ·rw[getD_set_ne e];have hj':j∈acc:=by simpa[e] using hj
   have:=z1h.1 h6 j hj';simp only[Bool.not_eq_true',Bool.and_eq_false_iff,decide_eq_false_iff_not] at this;rw[ho.2 j (by omega)]
   exact ha j hj'
 | .WS ..,s,d,want,acc,σ,K,hw,hn,hu,ha,hK=>by simp[SL.Uc] at hw
 | .prune _ r,s,d,want,acc,σ,K,hw,hn,hu,ha,hK=>vF r s d want acc σ K hw hn hu ha hK
theorem Rep.prune{n:Nat}{σ:List SV}{τ:Fr}(h:Rep n σ τ)(ks:List Nat):Rep n σ (jI ks τ):=by
 refine⟨h.1,λk=> ?_⟩;rcases yG (k:=k) (τ:=τ) ks with e|e
 ·exact .inl e
 ·rw[e];exact h.2 k
theorem uh{dr:Bool}{Γ:Hook}{σ:List SV}{m:List ay}{K:List SV->SV->List ay->Prop}{p:vT}(h:aW σ (λsv=>K σ sv m) p):xop dr Γ σ m K (.p p):=by cases dr<;>exact h
theorem RN{dr:Bool}{Γ:Hook}{σ:List SV}{m:List ay}{K:List SV->SV->List ay->Prop}{n:Nat}{ag:Bool}{x:aV}(h:peek m n ag (λsv=>K σ sv m) (x.ev σ)):xop dr Γ σ m K (.e (.load n ag x)):=by cases dr<;>exact h
theorem RP{dr:Bool}{Γ:Hook}{σ:List SV}{m:List ay}{K:List SV->SV->List ay->Prop}{f:FuncId}{ys:List aV}(h1:(ys.map (·.ev σ)).all SV.isVal=true)(h:Γ f (ys.map (·.ev σ)) m λsv m'=>K σ sv m'):xop dr Γ σ m K (.e (.call f ys)):=by cases dr<;>exact⟨h1,h⟩
theorem KX{dr:Bool}{Γ:Hook}{σ:List SV}{m:List ay}{K:List SV->SV->List ay->Prop}{f:FuncId}{ys:List aV}(h1:(ys.map (·.ev σ)).all SV.isVal=true)(h:Γ f (ys.map (·.ev σ)) m λsv m'=>m'=m/\K σ sv m):xop dr Γ σ m K (.e (.nD f ys)):=by cases dr<;>exact⟨h1,h⟩
theorem IW{Γ:FH}{f:FuncId}{args:List SV}{m:List ay}{K:SV->Prop×Bool}{r:Prop×Bool}(hr:RI (Γ f args m) K=r)(h:r.1):∃ sv,(K sv).1/\r.2=(K sv).2/\(∀ K':SV->List ay->Prop,K' sv m->Γ.hook f args m K'):=by
 subst hr;cases hc:Γ f args m with
 |no=>rw[hc] at h;exact h.elim
 |ro p x=>
  rw[hc] at h;refine⟨x,h.2,rfl,λK' hK=> ?_⟩;unfold FH.hook;rw[hc];exact⟨h.1,hK⟩
 |«is» p x m'=>rw[hc] at h;exact h.elim
theorem ae6{dr:Bool}{Γ:FH}{n:Nat}{m:List ay}{τ:Fr}{σ:List SV}(hr:Rep n σ τ){K:SV->Prop×Bool}(x:zf)(h:(vop Γ m τ K x).1):
  ∃ sv,(K sv).1/\(vop Γ m τ K x).2=(K sv).2/\∀ K':List SV->SV->List ay->Prop,(∀ sv',Le sv sv'->K' σ sv' m)->xop dr Γ.hook σ m K' x:=by
 have hev:∀ x:aV,Le (x.fv τ) (x.ev σ):=hr.fv;cases x with
 |p p=>
  obtain⟨sv,h1,h2,h3⟩:=Yj okV hev p rfl h;exact⟨sv,h1,h2,λK' hK=>uh (Ky (λx hx=>hK x hx) h3)⟩
 |e e=>
  cases e with
  |load n ag x=>
   obtain⟨hv,sv,h1,h2,h3⟩:=GZ okV rfl h;refine⟨sv,h1,h2,λK' hK=>RN ?_⟩;rw[fE (hev x) hv];exact yH (λx hx=>hK x hx) h3
  |call f ys=>
   obtain⟨h0,h1,h2⟩:=okV.need _ _ h;obtain⟨sv,k1,k2,k3⟩:=IW rfl h1;have he:=jP hev ys h0;refine⟨sv,k1,h2.trans k2,λK' hK=>RP (by rw[he];exact h0) ?_⟩
   rw[he];exact k3 _ (hK sv (Le.refl _))
  |nD f ys=>
   obtain⟨h0,h1,h2⟩:=okV.need _ _ h;obtain⟨sv,k1,k2,k3⟩:=IW rfl h1;have he:=jP hev ys h0;refine⟨sv,k1,h2.trans k2,λK' hK=>KX (by rw[he];exact h0) ?_⟩
   rw[he];exact k3 _ ⟨rfl,hK sv (Le.refl _)⟩
  |ET l=>exact⟨_,h,rfl,λK' hK=>by cases dr<;>exact hK _ (Le.refl _)⟩
  |L9 k ys=>
   obtain⟨h0,h1,h2⟩:=okV.need _ _ h;obtain⟨sv,k1,k2,k3⟩:=ajd okV rfl h1;have he:=jP hev ys h0;refine⟨sv,k1,h2.trans k2,λK' hK=> ?_⟩;have k:=k3 (λsv m'=>K' σ sv m') (hK sv (Le.refl _));rw[<- he] at k h0;cases dr<;>exact⟨h0,k⟩
  |fO x ys=>
   simp only[vop] at h ⊢;split at h
   ·rename_i f cap e1;have f1:=le_eq (hev x) e1 (by intro h;cases h)
    obtain⟨h0,h1,h2⟩:=okV.need _ _ h;obtain⟨sv,k1,k2,k3⟩:=IW rfl h1;have he:=jP hev ys h0;refine⟨sv,k1,h2.trans k2,λK' hK=> ?_⟩;have k:FH.hook Γ f (ys.map (·.ev σ)++cap) m λsv m'=>K' σ sv m':=by rw[he];exact k3 _ (hK sv (Le.refl _))
    have h1:(ys.map (·.ev σ)).all SV.isVal=true:=by rw[he];exact h0
    cases dr<;>simp only[xop,opK,jq,kT,f1]<;>exact⟨h1,k⟩
   ·exact h.elim
  |_=>exact h.elim
theorem Rep.pick{n:Nat}{σ σ':List SV}{τ:Fr}(h:Rep n σ τ){s d:Nat}(hd:d<n)(ho:Out s d σ σ'){x:SV}:Rep n (σ'.set d x) (.pick s d x τ):=by
 refine⟨by simp[ho.1,h.1],λk=> ?_⟩
 simp only[look];by_cases hk:k=d
 ·subst hk;rw[if_pos rfl];exact .inr ⟨hd,(iE (by rw[ho.1,h.1];exact hd)).symm⟩
 ·rw[if_neg hk];by_cases hb:s<k/\k<d
  ·rw[if_pos hb];exact .inl rfl
  ·rw[if_neg hb,getD_set_ne hk,ho.2 k hb];exact h.2 k
theorem RQ{dr:Bool}{Γ:FH}{n:Nat}{m:List ay}:∀ (l:SL) (s d:Nat) (want:Bool) (acc:List Nat) (y:aV) (τ:Fr) (σ:List SV) (K:List SV->List ay->Prop),l.Uc s d acc=true->d<=n->Rep n σ τ->σ.getD s .junk= .bool want->
  (l.vg Γ m y τ).1->(∀ σ',Out s d σ σ'->y.ev σ'= .bool (l.vg Γ m y τ).2->K σ' m)->tC dr Γ.hook (l.flat (some (s,want))) K σ m
 | .nil,s,d,want,acc,y,τ,σ,K,_,_,hr,_,h,hK=>by
  rw[SL.flat,Bq];simp only[SL.vg] at h hK;split at h
  ·rename_i b e;exact hK σ (Out.refl ..) (by rw[e];exact le_eq (hr.fv y) e (by intro h;cases h))
  ·exact h.elim
 | .op d' x r,s,d,want,acc,y,τ,σ,K,hw,hn,hr,hs,h,hK=>by
  cases d' with
  |none=>simp[SL.Uc] at hw
  |some k=>
   simp only[SL.Uc,z00,decide_eq_true_eq] at hw;obtain⟨⟨h1,h2⟩,h3⟩:=hw;rw[SL.flat];simp only[SL.vg] at h hK;obtain⟨sv,g1,g2,g3⟩:=ae6 (dr:=dr) hr x h;refine mD hs (g3 _ λsv' hle=> ?_);refine RQ r s d want (k::acc) y (wJ (some k) sv τ) (σ.set k sv') K h3 hn (hr.put (by omega) hle) (by rw[getD_set_ne (by omega)];exact hs) g1 λσ' ho e=> ?_
   exact hK σ' ((Out.set ⟨h1,h2⟩).trans ho) (by rw[e,g2])
 | .sc or d' s' l y' r,s,d,want,acc,y,τ,σ,K,hw,hn,hr,hs,h,hK=>by
  simp only[SL.Uc,z00,decide_eq_true_eq] at hw;obtain⟨⟨⟨⟨⟨⟨h1,h2⟩,h0⟩,h3⟩,h6⟩,h4⟩,h5⟩:=hw;rw[SL.flat,rX];simp only[SL.vg] at h hK;split at h
  ·rename_i b e;simp only[e] at hK;have hb:σ.getD s' .junk= .bool b:=le_eq (hr.le s') e (by intro h;cases h)
   generalize he:l.vg Γ m y' τ=pq at h hK;obtain⟨p,q⟩:=pq;simp only[scG] at h hK;obtain⟨g1,g2⟩:(b=(!or)->p)/\(r.vg Γ m y (.pick s' d' (.bool (if or=true then b||q else b&&q)) τ)).1:=h
   have fin:∀ K1,Out s' d' σ K1->K1.getD s' .junk= .bool b/\(b=(!or)->y'.ev K1= .bool q)->
     tC dr Γ.hook (⟨some d',some (s,want), .p (.pick (.t s') (if or then .c (.bool true) else y') (if or then y' else .c (.bool false)))⟩::r.flat (some (s,want))) K K1 m:=by
    rintro K1 ho ⟨hs1,hy⟩;have ho':Out s d σ K1:=ho.wider (by omega) (by omega)
    refine mD (show K1.getD s .junk= .bool want by rw[ho'.2 s (by omega)];exact hs) (uh ?_)
    have key:K=K:=rfl;have next:tC dr Γ.hook (r.flat (some (s,want))) K (K1.set d' (.bool (if or=true then b||q else b&&q))) m:=by
     refine RQ r s d want (d'::acc) y (.pick s' d' (.bool (if or=true then b||q else b&&q)) τ) _ K h5 hn (hr.pick (by omega) ho) ?_ g2 λσ' ho2 e2=> ?_
     ·rw[getD_set_ne (by omega),ho'.2 s (by omega)];exact hs
     ·exact hK σ' ((ho'.trans (Out.set ⟨h1,h2⟩)).trans ho2) e2
    have hs1':aV.ev K1 (.t s')= .bool b:=hs1;simp only[aW,hs1'];cases or<;>cases b
    ·simpa[gV,aV.ev] using next
    ·simpa[gV,hy rfl] using next
    ·simpa[gV,hy rfl] using next
    ·simpa[gV,aV.ev] using next
   by_cases hbo:b=(!or)
   ·refine RQ l s' d' (!or) [] y' τ σ _ h4 (by omega) hr (by rw[hb,hbo]) (by rw[he];exact g1 hbo) λK1 ho e1=> ?_
    rw[he] at e1;exact fin K1 ho ⟨by rw[ho.2 s' (by omega)];exact hb,λ_=>e1⟩
   ·have anN:b=or:=by cases b<;>cases or<;>first|rfl|exact absurd rfl hbo
    refine vF l s' d' (!or) [] σ _ h4 (by rw[hr.1];omega) (.inl (by rw[hb,anN];simp)) (λk hk=>by cases hk) λK1 ho=> ?_
    exact fin K1 ho ⟨by rw[ho.2 s' (by omega)];exact hb,λe=>absurd e hbo⟩
  ·exact h.elim
 | .WS ..,s,d,want,acc,y,τ,σ,K,hw,hn,hr,hs,h,hK=>by simp[SL.Uc] at hw
 | .prune ks r,s,d,want,acc,y,τ,σ,K,hw,hn,hr,hs,h,hK=>RQ r s d want acc y _ σ K hw hn (hr.prune ks) hs h hK
theorem Ob{ev:aV->SV}{σ:List SV}(hev:∀ x:aV,Le (ev x) (x.ev σ)){w:Nat}{K:List SV->Prop}:∀ (ys:List (Nat×aV)) (l:List SV),aaF ev w l ys K->dJ σ w l ys K
 |[],_,h=>h
 |(k,x)::ys,l,h=>by simp only[aaF] at h;have e:=fE (hev x) h.1.2.1;simp only[dJ,e];exact⟨h.1,Ob hev ys _ h.2⟩
theorem abf{m:List ay}{n:Nat}{v:SV}{K K':List ay->Prop}(hK:∀ x,K x->K' x){x:SV}(hh:F5 m n v K x):x.isVal=true/\v.isVal=true/\F5 m n v K' x:=by
 cases x<;>simp only[F5] at hh ⊢ <;>first
  |exact hh.elim
  |(split at hh<;>first|exact hh.elim|exact⟨rfl,hh.1.2.2.2,hh.1,hK _ hh.2⟩|exact⟨rfl,hh.1.2.2.2.2,hh.1,hK _ hh.2⟩)
theorem Dw{c:Call}{m:List ay}{K K':SV->List ay->Prop}(hK:∀ x m,K x m->K' x m)(h:c.hook m K):c.hook m K':=by
 cases c<;>simp only[Call.hook] at h ⊢
 ·exact⟨h.1,hK _ _ h.2⟩
 ·exact⟨h.1,hK _ _ h.2⟩
theorem RS{m:List ay}{w:Nat}{x:SV}{l:List SV}(h:FY m w x=some l):x.isVal=true:=by cases x<;>simp[FY] at h<;>rfl
theorem ae8{dr:Bool}{Γ:FH}{n:Nat}{m:List ay}{τ:Fr}{σ:List SV}(hr:Rep n σ τ){K:Fr->SV->List ay->Prop}(x:zf)(h:opF Γ dr τ m K x):
  ∀ K':List SV->SV->List ay->Prop,(∀ σ' τ' sv sv' m',Rep n σ' τ'->Le sv sv'->K τ' sv m'->K' σ' sv' m')->xop dr Γ.hook σ m K' x:=by
 intro K' hK;have hev:∀ x:aV,Le (x.fv τ) (x.ev σ):=hr.fv;have two:∀ {x y:aV} {a b:SV},x.fv τ=a->y.fv τ=b->a≠ .junk->b≠ .junk->x.ev σ=a/\y.ev σ=b:=λh1 h2 h3 h4=>⟨le_eq (hev _) h1 h3,le_eq (hev _) h2 h4⟩;cases x with
 |p p=>
  have h:eY AP (aV.fv τ) (λsv=>K τ sv m) p:=h;obtain⟨sv,h1,_,h3⟩:=Yj okP hev p rfl h;exact uh (Ky (λx hx=>hK σ τ sv x m hr hx h1) h3)
 |e e=>
  cases e with
  |alloc T z=>
   have:=hK _ _ _ _ _ hr (Le.refl _) h;cases dr<;>exact this
  |box T x=>
   have e:=fE (hev x) h.1;have k:K' σ (.ptr m.length [] 0) (m++[.blk T (x.fv τ)]):=hK _ _ _ _ _ hr (Le.refl _) h.2;rw[<- e] at k;cases dr<;>exact⟨by rw[e];exact h.1,k⟩
  |load n ag x=>
   have h:kU AP m n ag (λsv=>K τ sv m) (x.fv τ):=h;obtain⟨hv,sv,h1,_,h3⟩:=GZ okP rfl h;refine RN ?_;rw[fE (hev x) hv];exact yH (λx hx=>hK _ _ _ _ _ hr hx h1) h3
  |store n x v=>
   obtain⟨h1,h2,h3⟩:=abf (λm' hm=>hK σ τ .junk .junk m' hr (Le.refl _) hm) h;rw[<- fE (hev x) h1,<- fE (hev v) h2] at h3;cases dr<;>exact h3
  |Ia E w len z ys=>
   have k:=Ob hev ys _ h;have:dJ σ w (z04 len z) ys λl=>K' σ (.vec m.length len) (m++[.vec E w l]):=by obtain⟨k1,k2⟩:=kK ys _ k;exact WT ys _ (hK _ _ _ _ _ hr (Le.refl _) k1) k2
   cases dr<;>exact this
  |mks E w by' z l c=>
   simp only[opF] at h;split at h
   ·rename_i e1 e2;obtain⟨f1,f2⟩:=two e1 e2 (by intro h;cases h) (by intro h;cases h)
    have k:=hK _ _ _ _ _ hr (Le.refl _) h.2;cases dr<;>simp only[xop,opK,jq,kT,f1,f2]<;>exact⟨h.1,k⟩
   ·exact h.elim
  |app E w by' s x=>
   simp only[opF] at h;cases dr with
   |true=>
    simp only[if_true,Ql] at h;show Ql m E w by' (s.ev σ) (x.ev σ) (λsv m'=>K' σ sv m')
    unfold Ql;split at h
    ·exact h.elim
    ·rename_i l2 e1;have e1':=e1;rw[<- fE (hev x) (RS e1)] at e1';rw[e1'];simp only;split at h
     ·rename_i e2;rw[le_eq (hev s) e2 (by intro h;cases h)]
      exact⟨h.1,hK _ _ _ _ _ hr (Le.refl _) h.2⟩
     ·rename_i i k e2;rw[le_eq (hev s) e2 (by intro h;cases h)]
      simp only;split at h
      ·rename_i e3
       try rw[e3]
       exact⟨h.1,hK _ _ _ _ _ hr (Le.refl _) h.2⟩
      ·exact h.elim
     ·rename_i e2;rw[le_eq (hev s) e2 (by intro h;cases h)]
      simp only;split at h
      ·rename_i hem;rw[if_pos hem];exact⟨h.1,hK _ _ _ _ _ hr (Le.refl _) h.2⟩
      ·rename_i hem;rw[if_neg hem];exact⟨h.1,hK _ _ _ _ _ hr (Le.refl _) h.2⟩
     ·exact h.elim
   |false=>
    simp only[z1c,if_false] at h;show ae9 σ m E w by' (s.ev σ) (x.ev σ) K'
    unfold ae9;split at h
    ·exact h.elim
    ·rename_i l2 e1;have e1':=e1;rw[<- fE (hev x) (RS e1)] at e1';rw[e1'];simp only;split at h
     ·rename_i e2;rw[le_eq (hev s) e2 (by intro h;cases h)]
      exact⟨h.1,hK _ _ _ _ _ hr (Le.refl _) h.2⟩
     ·rename_i i k e2;rw[le_eq (hev s) e2 (by intro h;cases h)]
      simp only;split at h
      ·rename_i e3
       try rw[e3]
       exact⟨h.1,hK _ _ _ _ _ hr.kill (Le.refl _) h.2⟩
      ·exact h.elim
     ·exact h.elim
  |call f ys=>
   have he:=jP hev ys h.1;refine RP (by rw[he];exact h.1) ?_
   rw[he];exact Dw (λx m' hx=>hK _ _ _ _ _ hr (Le.refl _) hx) h.2
  |nD f ys=>
   have he:=jP hev ys h.1;refine KX (by rw[he];exact h.1) ?_
   rw[he];have h2:=h.2;split at h2
   ·rename_i p r e;unfold FH.hook;rw[e];exact⟨h2.1,rfl,hK _ _ _ _ _ hr (Le.refl _) h2.2⟩
   ·exact h2.elim
  |ET l=>
   have:=hK _ _ _ _ _ hr (Le.refl _) h;cases dr<;>exact this
  |Dj E w len z ys=>
   have k:=Ob hev ys _ h;have:dJ σ w (z04 len z) ys λl=>Au l/\K' σ (Vd w len l) m:=by obtain⟨k1,k2⟩:=kK ys _ k;exact WT ys _ ⟨k1.1,hK _ _ _ _ _ hr (Le.refl _) k1.2⟩ k2
   cases dr<;>exact this
  |L9 k ys=>
   obtain⟨h0,h⟩:=h;have k:=Kw (λx m' hx=>hK _ _ _ _ _ hr (Le.refl _) hx) h;rw[<- jP hev ys h0] at k h0;cases dr<;>exact⟨h0,k⟩
  |fO x ys=>
   simp only[opF] at h;split at h
   ·rename_i f cap e1;have f1:=le_eq (hev x) e1 (by intro h;cases h)
    have he:=jP hev ys h.1;have k:FH.hook Γ f (ys.map (·.ev σ)++cap) m λsv m'=>K' σ sv m':=by rw[he];exact Dw (λx m' hx=>hK _ _ _ _ _ hr (Le.refl _) hx) h.2
    have h1:(ys.map (·.ev σ)).all SV.isVal=true:=by rw[he];exact h.1
    cases dr<;>simp only[xop,opK,jq,kT,f1]<;>exact⟨h1,k⟩
   ·exact h.elim
  |Ed tab x ys=>
   simp only[opF] at h;split at h
   ·rename_i t v e1;split at h
    ·rename_i f hta;have f1:=le_eq (hev x) e1 (by intro h;cases h)
     have he:=jP hev ys h.1;have k:FH.hook Γ f (v::ys.map (·.ev σ)) m λsv m'=>K' σ sv m':=by rw[he];exact Dw (λx m' hx=>hK _ _ _ _ _ hr (Le.refl _) hx) h.2
     have h1:(ys.map (·.ev σ)).all SV.isVal=true:=by rw[he];exact h.1
     cases dr<;>simp only[xop,opK,jq,kT,f1,hta]<;>exact⟨h1,k⟩
    ·exact h.elim
   ·exact h.elim
  |again n ag x d=>
   obtain⟨hd,h⟩:=h;have h:kU AP m n ag (λsv=>sv=look d τ/\K τ .junk m) (x.fv τ):=h;have ed:σ.getD d .junk=look d τ:=fE (hr.le d) hd;obtain⟨hv,sv,⟨e1,h1⟩,_,h3⟩:=GZ okP rfl h;have key:peek m n ag (λy=>y=σ.getD d .junk/\K' σ .junk m) (x.ev σ):=by rw[fE (hev x) hv];exact yH (λy hy=>⟨by rw[ed,<- e1];exact fE hy (by rw[e1];exact hd),hK _ _ _ _ _ hr (Le.refl _) h1⟩) h3
   cases dr<;>exact⟨by rw[ed];exact hd,key⟩
  |sW k ys d=>
   obtain⟨hd,h0,h⟩:=h;have ed:σ.getD d .junk=look d τ:=le_eq (hr.le d) rfl (λe=>by rw[e] at hd;cases hd)
   have k1:=Kw (K':=λsv m'=>(sv=σ.getD d .junk/\m'=m)/\K' σ .junk m) (λx m' hx=>⟨⟨by rw[ed];exact hx.1.1,hx.1.2⟩,hK _ _ _ _ _ hr (Le.refl _) hx.2⟩) h
   rw[<- jP hev ys h0] at k1 h0;cases dr<;>exact⟨by rw[ed];exact hd,h0,k1⟩
where WT {σ:List SV} {w:Nat} {K:List SV->Prop}:∀ (ys:List (Nat×aV)) (l:List SV),K (jS σ l ys)->dJ σ w l ys (λ_=>True)->dJ σ w l ys K
 |[],_,hk,_=>hk
 |(_,_)::ys,_,hk,h=>⟨h.1,WT ys _ hk h.2⟩
theorem WU{dr:Bool}{Γ:FH}{n s:Nat}{want:Bool}:∀ (l:SL) (τ:Fr) (σ:List SV) (m:List ay) (K:Fr->List ay->Prop) (K':List SV->List ay->Prop),l.wf n=true->Rep n σ τ->l.wpg Γ dr s want K τ m->
  (∀ σ' τ' m',Rep n σ' τ'->look s τ'= .bool want->K τ' m'->K' σ' m')->tC dr Γ.hook (l.flat (some (s,want))) K' σ m
 | .nil,τ,σ,m,K,K',_,hr,h,hK=>by rw[SL.flat,Bq];exact hK σ τ m hr h.1 h.2
 | .op d x r,τ,σ,m,K,K',hw,hr,h,hK=>by
  simp only[SL.wf,z00] at hw;rw[SL.flat];simp only[SL.wpg] at h;have hs:σ.getD s .junk= .bool want:=le_eq (hr.le s) h.1 (by intro h;cases h)
  refine mD (o:=⟨d,some (s,want),x⟩) hs (ae8 hr x h.2 _ λσ' τ' sv sv' m' hr' hle hk=> ?_);refine WU r (wJ d sv τ') (gV d sv' σ') m' K K' hw.2 (hr'.wJ ?_ hle) hk hK;intro k hk;have:=hw.1;rw[hk] at this;simpa using this
 | .sc ..,τ,σ,m,K,K',hw,hr,h,hK=>h.elim
 | .WS ..,τ,σ,m,K,K',hw,hr,h,hK=>h.elim
 | .prune ks r,τ,σ,m,K,K',hw,hr,h,hK=>WU r _ σ m K K' hw (hr.prune ks) h hK
theorem vV{dr:Bool}{Γ:FH}{n:Nat}:∀ (l:SL) (τ:Fr) (σ:List SV) (m:List ay) (K:Fr->List ay->Prop) (K':List SV->List ay->Prop),l.wf n=true->Rep n σ τ->l.wp Γ dr K τ m->(∀ σ' τ' m',Rep n σ' τ'->K τ' m'->K' σ' m')->
  tC dr Γ.hook (l.flat none) K' σ m
 | .nil,τ,σ,m,K,K',_,hr,h,hK=>by rw[SL.flat,Bq];exact hK σ τ m hr h
 | .op d x r,τ,σ,m,K,K',hw,hr,h,hK=>by
  simp only[SL.wf,z00] at hw;rw[SL.flat];simp only[SL.wp] at h;refine mD (o:=⟨d,none,x⟩) trivial (ae8 hr x h _ λσ' τ' sv sv' m' hr' hle hk=> ?_);refine vV r (wJ d sv τ') (gV d sv' σ') m' K K' hw.2 (hr'.wJ ?_ hle) hk hK;intro k hk;have:=hw.1;rw[hk] at this;simpa using this
 | .sc or d s l y r,τ,σ,m,K,K',hw,hr,h,hK=>by
  simp only[SL.wf,z00,decide_eq_true_eq] at hw;obtain⟨⟨hd,h4⟩,h5⟩:=hw;rw[SL.flat,rX];simp only[SL.wp] at h;split at h
  ·rename_i b e;have hb:σ.getD s .junk= .bool b:=le_eq (hr.le s) e (by intro h;cases h)
   replace h:=adS h;generalize he:l.vg Γ m y τ=pq at h;obtain⟨p,q⟩:=pq;obtain⟨g1,g2⟩:(b=(!or)->p)/\r.wp Γ dr K (.pick s d (.bool (if or=true then b||q else b&&q)) τ) m:=h
   have fin:∀ K1,Out s d σ K1->K1.getD s .junk= .bool b/\(b=(!or)->y.ev K1= .bool q)->
     tC dr Γ.hook (⟨some d,none, .p (.pick (.t s) (if or then .c (.bool true) else y) (if or then y else .c (.bool false)))⟩::r.flat none) K' K1 m:=by
    rintro K1 ho ⟨hs1,hy⟩;refine mD (o:=⟨some d,none,_⟩) trivial (uh ?_);have next:tC dr Γ.hook (r.flat none) K' (K1.set d (.bool (if or=true then b||q else b&&q))) m:=
     vV r (.pick s d (.bool (if or=true then b||q else b&&q)) τ) _ m K K' h5 (hr.pick hd ho) g2 hK
    have hs1':aV.ev K1 (.t s)= .bool b:=hs1;simp only[aW,hs1'];cases or<;>cases b
    ·simpa[gV,aV.ev] using next
    ·simpa[gV,hy rfl] using next
    ·simpa[gV,hy rfl] using next
    ·simpa[gV,aV.ev] using next
   by_cases hbo:b=(!or)
   ·refine RQ l s d (!or) [] y τ σ _ h4 (by omega) hr (by rw[hb,hbo]) (by rw[he];exact g1 hbo) λK1 ho e1=> ?_
    rw[he] at e1;exact fin K1 ho ⟨by rw[ho.2 s (by omega)];exact hb,λ_=>e1⟩
   ·have anN:b=or:=by cases b<;>cases or<;>first|rfl|exact absurd rfl hbo
    refine vF l s d (!or) [] σ _ h4 (by rw[hr.1];omega) (.inl (by rw[hb,anN];simp)) (λk hk=>by cases hk) λK1 ho=> ?_
    exact fin K1 ho ⟨by rw[ho.2 s (by omega)];exact hb,λe=>absurd e hbo⟩
  ·exact h.elim
 | .WS or d s l y r,τ,σ,m,K,K',hw,hr,h,hK=>by
  simp only[SL.wf,z00,decide_eq_true_eq] at hw;obtain⟨⟨hd,h4⟩,h5⟩:=hw;rw[SL.flat,rX];simp only[SL.wp] at h;split at h<;>try exact h.elim
  rename_i b e;have hb:σ.getD s .junk= .bool b:=le_eq (hr.le s) e (by intro h;cases h)
  split at h
  ·rename_i hbo;subst hbo;obtain⟨hwg,h⟩:=h;refine vF l s d (!b) [] σ _ hwg (by rw[hr.1];omega) (.inl (by rw[hb];simp)) (λk hk=>by cases hk) λK1 ho=> ?_
   have hs1:K1.getD s .junk= .bool b:=by rw[ho.2 s (by omega)];exact hb
   refine mD (o:=⟨some d,none,_⟩) trivial (uh ?_);have next:tC dr Γ.hook (r.flat none) K' (K1.set d (.bool b)) m:=
    vV r (.pick s d (.bool b) τ) _ m K K' h5 (hr.pick hd ho) h hK
   have hs1':aV.ev K1 (.t s)= .bool b:=hs1;simp only[aW,hs1'];cases b
   ·simpa[gV,aV.ev] using next
   ·simpa[gV,aV.ev] using next
  refine WU l τ σ m _ _ h4 hr h λK1 τ1 m1 hr1 hl1 hk=> ?_;have hs1:K1.getD s .junk= .bool (!or):=le_eq (hr1.le s) hl1 (by intro h;cases h)
  split at hk
  ·rename_i q e;have hy:y.ev K1= .bool q:=le_eq (hr1.fv y) e (by intro h;cases h)
   refine mD (o:=⟨some d,none,_⟩) trivial (uh ?_);have next:tC dr Γ.hook (r.flat none) K' (K1.set d (.bool q)) m1:=
    vV r (.pick s d (.bool q) τ1) _ m1 K K' h5 (hr1.pick hd (Out.refl ..)) hk hK
   have hs1':aV.ev K1 (.t s)= .bool (!or):=hs1;simp only[aW,hs1'];cases or
   ·simpa[gV,hy] using next
   ·simpa[gV,hy] using next
  ·exact hk.elim
 | .prune ks r,τ,σ,m,K,K',hw,hr,h,hK=>vV r _ σ m K K' hw (hr.prune ks) h hK
def SL.kP:SL->List Nat
 | .nil=>[]
 | .op d _ r=>(match d with
  |some k=>[k]
  |none=>[])++r.kP
 | .sc _ d _ l _ r=>l.kP++d::r.kP
 | .WS _ d _ l _ r=>l.kP++d::r.kP
 | .prune _ r=>r.kP
def vS:List Nat->Fr->Fr
 |[],τ=>τ
 |k::ks,τ=> .put k .junk (vS ks τ)
def CV(ks:List Nat)(σ σ':List SV):Prop:=σ'.length=σ.length/\∀ k,k∉ks->σ'.getD k .junk=σ.getD k .junk
theorem CV.refl(ks:List Nat)(σ:List SV):CV ks σ σ:=⟨rfl,λ_ _=>rfl⟩
theorem CV.trans{ks ks':List Nat}{σ σ' ae5:List SV}(h:CV ks σ σ')(k:CV ks' σ' ae5):CV (ks++ks') σ ae5:=
 ⟨k.1.trans h.1,λi hi=>(k.2 i (λe=>hi (z1i.2 (.inr e)))).trans (h.2 i (λe=>hi (z1i.2 (.inl e))))⟩
theorem Rep.junk{n:Nat}{σ σ':List SV}{τ:Fr}(h:Rep n σ τ):∀ {ks:List Nat},CV ks σ σ'->Rep n σ' (vS ks τ):=by
 intro ks ho;refine⟨ho.1.trans h.1,λk=> ?_⟩;have key:∀ l:List Nat,look k (vS l τ)=if k∈l then .junk else look k τ:=by
  intro l
  induction l with
  |nil=>simp[vS]
  |cons j l ih=>
   simp only[vS,look,ih,z1r];by_cases e:k=j
   ·subst e;simp
   ·simp[e]
 rw[key];split
 ·exact .inl rfl
 ·rename_i hk;rw[ho.2 k hk];exact h.2 k
def SL.plain:SL->Bool
 | .nil=>true
 | .op d _ r=>d.isSome&&r.plain
 | .sc .. =>false
 | .WS .. =>false
 | .prune .. =>false
theorem adT{Γ:FH}{n:Nat}{m:List ay}:∀ (l:SL) (y:aV) (τ:Fr) (σ:List SV) (K:List SV->List ay->Prop),l.plain=true->l.wf n=true->Rep n σ τ->
  (l.vg Γ m y τ).1->(∀ σ',CV l.kP σ σ'->y.ev σ'= .bool (l.vg Γ m y τ).2->K σ' m)->uP Γ.hook (l.flat none) K σ m
 | .nil,y,τ,σ,K,_,_,hr,h,hK=>by
  rw[SL.flat];simp only[SL.vg] at h hK;split at h
  ·rename_i b e;exact hK σ (CV.refl ..) (by rw[e];exact le_eq (hr.fv y) e (by intro h;cases h))
  ·exact h.elim
 | .op d' x r,y,τ,σ,K,hp,hw,hr,h,hK=>by
  cases d' with
  |none=>simp[SL.plain] at hp
  |some k=>
   simp only[SL.wf,z00,decide_eq_true_eq] at hw;simp only[SL.plain,z00] at hp;rw[SL.flat];simp only[SL.vg] at h hK;obtain⟨sv,g1,g2,g3⟩:=ae6 (dr:=false) hr x h;refine mD (dr:=false) (o:=⟨some k,none,x⟩) trivial (g3 _ λsv' hle=> ?_);refine adT r y (wJ (some k) sv τ) (σ.set k sv') K hp.2 hw.2 (hr.put hw.1 hle) g1 λσ' ho e=> ?_;refine hK σ' ?_ (by rw[e,g2])
   have h1:CV [k] σ (σ.set k sv'):=⟨by simp,λi hi=>getD_set_ne (by simpa using hi)⟩
   exact h1.trans ho
 | .sc ..,_,_,_,_,hp,_,_,_,_=>by simp[SL.plain] at hp
 | .WS ..,_,_,_,_,hp,_,_,_,_=>by simp[SL.plain] at hp
 | .prune ..,_,_,_,_,hp,_,_,_,_=>by simp[SL.plain] at hp
end Go.Sx
namespace Go.Sx
open Go
variable {P:Program}
noncomputable def EO(J:Env)(m:List ay)(w:World)(ks:List Nat):Env:=
 {J with H:=λb=>open Classical in if ∃ i∈ks,aS J i (ak m i)=some b then w.heap[b]? else J.H b}
def tV:List Nat->List ay->List ay
 |[],m=>m
 |k::ks,m=>(tV ks m).set k .dead
theorem LV:∀ (ks:List Nat) (m:List ay),(tV ks m).length=m.length
 |[],_=>rfl
 |k::ks,m=>by rw[tV,z0x,LV ks m]
theorem wQ:∀ (ks:List Nat) (m:List ay) (j:Nat),ak (tV ks m) j=if j∈ks then .dead else ak m j
 |[],m,j=>by simp[tV]
 |k::ks,m,j=>by
  have ih:=wQ ks m j;unfold ak at ih ⊢;rw[tV,z02,z0a];by_cases h:k=j
  ·subst h;rw[if_pos rfl,if_pos (List.mem_cons_self ..)];by_cases hl:k< (tV ks m).length<;>simp[hl]
  ·rw[if_neg h];have:j∈k::ks↔j∈ks:=by simp[Ne.symm h]
   simp only[this];exact ih
theorem Py{J:Env}{m:List ay}{w:World}(g:Good J m w)(ks:List Nat):∀ b o,J.H b=some o->(EO J m w ks).H b=some o:=by
 intro b o h;unfold EO;simp only;split
 ·rename_i hh;obtain⟨i,_,hi⟩:=hh;rw[g.sep i b hi] at h;cases h
 ·exact h
theorem Fb{J:Env}{m:List ay}{w:World}(g:Good J m w)(ks:List Nat):J.Le (EO J m w ks):=⟨z07 _,λ_ _=>rfl,λ_ _=>rfl,Py g ks⟩
theorem QA{J:Env}{m:List ay}{w:World}(g:Good J m w){ks:List Nat}(hn:ks.Nodup):(jZ (kQ ks J) (fJ ks m) w).cl.Le (EO J m w ks):=by
 refine⟨z0c _,λ_ h=>absurd h (z09 _),λ_ h=>absurd h (z09 _),λb o hb=> ?_⟩;have hb:(jZ (kQ ks J) (fJ ks m) w).H b=some o:=hb;unfold jZ at hb;simp only at hb;split at hb
 ·rename_i hh;obtain⟨j,hj⟩:=hh;have hlen:(fJ ks m).length=ks.length:=by simp[fJ]
  have hjl:j<ks.length:=by
   rcases z06 j ks.length with h|h
   ·exact h
   ·rw[bI (by omega)] at hj;cases hj
  rw[rV hjl,lX (J:=J) (J':=kQ ks J) (i:=ks.getD j 0) (j:=j) rfl rfl] at hj;unfold EO;simp only;rw[if_pos ⟨ks.getD j 0,by simp[z02,hjl],hj⟩]
  exact hb
 ·exact Py g ks b o hb
theorem Inv.Ye{β:Base}{J:Env}{m:List ay}{w:World}(h:Inv β J m w)(ks:List Nat):Inv β (EO J m w ks) (tV ks m) w:=by
 have g:=h.good;have hown:∀ i b,aS (EO J m w ks) i (ak (tV ks m) i)=some b->i∉ks/\aS J i (ak m i)=some b:=by
  intro i b hb;rw[wQ] at hb;split at hb
  ·cases hb
  ·rename_i hi;refine⟨hi,?_⟩;cases hm:ak m i<;>rw[hm] at hb<;>exact hb
 refine⟨⟨by rw[LV];exact g.n,λi=> ?_,λi j b hij h1 h2=>g.jY i j b hij (hown i b h1).2 (hown j b h2).2,λi b h1=> ?_,λb o hb=> ?_,g.gl.mono (Py g ks)⟩,
  ⟨h.kept.os,h.kept.tape,h.kept.output,h.kept.size,h.kept.heap,λb o hb=>Py g ks b o (h.kept.H b o hb),λb o hb=> ?_,h.kept.drawn⟩,λi b h1=>h.own i b (hown i b h1).2,h.n,h.blk,λi hi hv=>h.vv i hi ?_⟩
 ·rw[wQ];split
  ·trivial
  ·have hr:=g.res i;cases hm:ak m i with
   |dead=>trivial
   |blk T c=>
    rw[hm] at hr;obtain⟨cs,h1,h2⟩:=hr;exact⟨cs,h1,h2.mono c (Fb g ks)⟩
   |vec T wd l=>
    rw[hm] at hr;obtain⟨xs,h1,h2⟩:=hr;exact⟨xs,h1,λj hj=>(h2 j hj).mono _ (Fb g ks)⟩
   |mp ek ev l=>
    rw[hm] at hr;exact hr
 ·obtain⟨hi,ho⟩:=hown i b h1;unfold EO;simp only;rw[if_neg]
  ·exact g.sep i b ho
  ·rintro⟨j,hj,hjo⟩;exact g.jY i j b (λe=>hi (e▸hj)) ho hjo
 ·unfold EO at hb;simp only at hb;split at hb
  ·exact hb
  ·exact g.hv b o hb
 ·unfold EO at hb;simp only at hb;split at hb
  ·rename_i hh;obtain⟨i,_,hi⟩:=hh;rcases h.own i b hi with h1|h1
   ·exact .inr (.inr h1)
   ·exact .inr (.inl h1)
  ·exact h.kept.fresh b o hb
 ·rw[wQ] at hv;split at hv
  ·cases hv
  ·exact hv
theorem Inv.amR{β:Base}{J:Env}{m:List ay}{w:World}(h:Inv β J m w){i:Nat}{T:TypeId}{c c':SV}(hm:ak m i= .blk T c)(hc:∀ cs,w.heap[J.blk i]? =some (.cells cs.toArray T (0,0))->ah c' J cs):Inv β J (m.set i (.blk T c')) w:=by obtain⟨cs,h1,_⟩:fH J i w (.blk T c):=hm▸h.good.res i;exact h.at1 (jJ (by rw[hm];nofun)) ⟨cs,h1,hc cs h1⟩ (by rw[hm];exact λ_ e=>e) (by rw[hm];exact id) (λ_ _=>rfl) rfl ⟨rfl,rfl,rfl,rfl⟩
end Go.Sx
namespace Go.Sx
open Go
variable {P:Program} {main:Bool} {Fz:Nat->Prop}
def nM(r:Nat->Option Nat):Fr->Fr
 | .nil=> .nil
 | .put k x t=> .put k (ren r x) (nM r t)
 | .pick s d x t=> .pick s d (ren r x) (nM r t)
theorem jU{r:Nat->Option Nat}{k:Nat}:∀ τ:Fr,look k (nM r τ)=ren r (look k τ)
 | .nil=>rfl
 | .put j x t=>by
  simp only[nM,look];split
  ·rfl
  ·exact jU t
 | .pick s d x t=>by
  simp only[nM,look];split
  ·rfl
  ·split
   ·rfl
   ·exact jU t
structure Frz where
 dec:List ay->SV->SV
 P:List ay->SV->Prop
 ok:∀ {J:Env} {m:List ay} {w:World},Good J m w->∀ {x:SV},P m x->∀ {cs:List Value},ah x J cs->ah (dec m x) (Sx.jZ J m w).cl cs
 agg:∀ {m:List ay} {x:SV},P m x->(dec m x).isAgg=x.isAgg
 val:∀ {m:List ay} {x:SV},P m x->x.isVal=true
inductive JC:Type 1 where
 |skip
 |ops (l:SL)
 |aZ (l:SL)
 |JX (l:SL) (d:Nat) (T:TypeId) (z:SV) (lo:SL)
 |seq (a b:JC)
 |cond (x:aV) (a b:JC)
 |block (id:Nat) (c:JC)
 |loop (keep mod:List Nat) (c:JC)
 |exit (id:Nat)
 |ret
 |prune (ks:List Nat) (c:JC)
 |mW (k:Nat) (T:TypeId) (w:Nat) (c:JC)
 |orc (s:Nat) (l:SL)
 |jZ (k:Nat) (F:Frz) (c:JC)
 |sel (ks:List Nat) (c:JC)
 |ai1 (k:Nat) (F:Frz) (c:JC)
 |ai2 (k:Nat) (F:Frz) (c:JC)
 |pfz (k:Nat) (F:Frz) (c:JC)
 |pin (k:Nat) (c:JC)
def JC.flat:JC->IC
 | .skip=> .skip
 | .ops l=> .ops (l.flat none)
 | .aZ l=> .aZ (l.flat none)
 | .JX l d T z lo=> .JX (l.flat none) d T z (lo.flat none)
 | .seq a b=> .seq a.flat b.flat
 | .cond x a b=> .cond x a.flat b.flat
 | .block id c=> .block id c.flat
 | .loop _ _ c=> .loop c.flat
 | .exit id=> .exit id
 | .ret=> .ret
 | .prune _ c=>c.flat
 | .mW _ _ _ c=>c.flat
 | .orc s l=> .cond (.t s) .skip (.ops (l.flat none))
 | .jZ _ _ c=>c.flat
 | .sel _ c=>c.flat
 | .ai1 _ _ c=>c.flat
 | .ai2 _ _ c=>c.flat
 | .pfz _ _ c=>c.flat
 | .pin _ c=>c.flat
def JC.wf(n:Nat):JC->Bool
 | .ops l| .aZ l=>l.wf n
 | .JX l d _ _ lo=>l.wf n&&(lo.wf n&&decide (d<n))
 | .seq a b| .cond _ a b=>a.wf n&&b.wf n
 | .block _ c=>c.wf n
 | .loop keep mod c=>mod.all (λk=>decide (k<n))&&keep.all (λk=>decide (k<n))&&c.wf n
 | .prune _ c=>c.wf n
 | .mW k _ _ c=>decide (k<n)&&c.wf n
 | .orc s l=>decide (s<n)&&l.plain&&l.wf n
 | .jZ k _ c=>decide (k<n)&&c.wf n
 | .sel _ c=>c.wf n
 | .ai1 k _ c=>decide (k<n)&&c.wf n
 | .pfz k _ c=>decide (k<n)&&c.wf n
 | .pin k c=>decide (k<n)&&c.wf n
 | .ai2 _ _ c=>c.wf n
 |_=>true
def F8(k:Nat):List Nat->Prop
 |[]=>True
 |j::r=>k≠j/\F8 k r
def nd:List Nat->Prop
 |[]=>True
 |k::r=>F8 k r/\nd r
theorem Qy{k:Nat}:∀ {l:List Nat},F8 k l->k∉l
 |[],_,h=>by cases h
 |j::r,h,hm=>by
  rcases z1r.1 hm with e|e
  ·exact h.1 e
  ·exact Qy h.2 e
theorem Qz:∀ {l:List Nat},nd l->l.Nodup
 |[],_=>z0r
 |_::_,h=>z0w.2 ⟨Qy h.1,Qz h.2⟩
def uM:List Nat->Nat->Nat->Option Nat
 |[],_,_=>none
 |k::r,j,i=>if i=k then some j else uM r (j+1) i
theorem Yc(i:Nat):∀ (ks:List Nat) (j:Nat),uM ks j i=(fQ ks i).map (· +j)
 |[],j=>by simp[uM,fQ]
 |k::r,j=>by
  simp only[uM];by_cases h:i=k
  ·subst h;simp[fQ]
  ·rw[if_neg h,Yc i r (j+1)];simp only[fQ,List.contains_cons];have h':(i==k)=false:=by simpa using h
   simp only[h',Bool.false_or];split
   ·rw[z1j];have:(k==i)=false:=by simpa using(λe=>h e.symm)
    simp[this];omega
   ·rfl
theorem yE(ks:List Nat):fQ ks=uM ks 0:=by
 funext i
 rw[Yc];cases fQ ks i<;>rfl
mutual
def iU:SV->List Nat
 | .vec i _=>[i]
 | .ptr i _ _=>[i]
 | .iR i _ _ _=>[i]
 | .kZ i _=>[i]
 | .kC i _ _=>[i]
 | .map i=>[i]
 | .agg l=>Mc l
 | .cu l=>Mc l
 | .fn _ l=>Mc l
 | .iface _ x=>iU x
 |_=>[]
def Mc:List SV->List Nat
 |[]=>[]
 |x::r=>iU x++Mc r
end
def upto:Nat->Nat->List Nat
 |0,_=>[]
 |n+1,k=>k::upto n (k+1)
theorem upto_at:∀ (n k i:Nat),i<n->(upto n k)[i]? =some (k+i)
 |n+1,k,0,_=>rfl
 |n+1,k,i+1,h=>by
  simp only[upto,List.getElem?_cons_succ];rw[upto_at n (k+1) i (by omega)]
  congr 1;omega
theorem Gw:∀ (n k:Nat),(upto n k).length=n
 |0,_=>rfl
 |n+1,k=>by simp[upto,Gw n]
def amD(n0:Nat)(ks:List Nat)(K:Fr->List ay->Prop)(τ:Fr)(m:List ay):Prop:=
 nd (upto n0 0++ks)/\K (nM (uM (upto n0 0++ks) 0) τ) ((upto n0 0++ks).map λk=>dR (uM (upto n0 0++ks) 0) (ak m k))
def Ar(n0:Nat)(m0:List ay)(K:Fr->List ay->Prop)(τ:Fr)(m:List ay):Prop:=
 if m.length=m0.length+1 then match wO m0 m 0 with
  |some i=>if n0<=i then K (nM (fQ ((z05 m0.length).set i m0.length)) τ) (fJ ((z05 m0.length).set i m0.length) m) else K τ m
  |none=>K τ m
 else K τ m
def D8(k:Nat)(T:TypeId)(w:Nat)(K:Fr->List ay->Prop)(τ:Fr)(m:List ay):SV->Prop
 | .dO=>K (.put k (.vec m.length 0) τ) (m++[.vec T w []])
 |_=>K τ m
def J8(n:Nat):Nat->Option Nat:=λi=>if i<n then some i else none
def atR(r:Nat->Option Nat):List Nat->List SV->Fr->Prop
 |k::ks,x::xs,τ=>ren r (look k τ)=x/\atR r ks xs τ
 |[],[],_=>True
 |_,_,_=>False
def FZ(r:Nat->Option Nat)(τ τ':Fr):List Nat->Prop
 |[]=>True
 |k::ks=>ren r (look k τ')=look k τ/\FZ r τ τ' ks
def Qj(k:Nat)(F:Frz)(K:Fr->List ay->Prop)(τ:Fr)(m:List ay):Prop:=
 nd (iU (look k τ))/\F.P ((iU (look k τ)).map λi=>dR (uM (iU (look k τ)) 0) (ak m i)) (ren (uM (iU (look k τ)) 0) (look k τ))/\
  K (.put k (F.dec ((iU (look k τ)).map λi=>dR (uM (iU (look k τ)) 0) (ak m i)) (ren (uM (iU (look k τ)) 0) (look k τ))) τ) (tV (iU (look k τ)) m)
def ac'(b:Nat)(F:Frz)(K:List ay->Prop)(m:List ay):ay->Prop
 | .blk T c=>nd (b::iU c)/\F.P ((iU c).map λi=>dR (uM (iU c) 0) (ak m i)) (ren (uM (iU c) 0) c)/\
   K ((tV (iU c) m).set b (.blk T (F.dec ((iU c).map λi=>dR (uM (iU c) 0) (ak m i)) (ren (uM (iU c) 0) c))))
 |_=>False
def X4(k:Nat)(F:Frz)(K:List ay->Prop)(τ:Fr)(m:List ay):Prop:=match look k τ with
 | .ptr b [] 0=>ac' b F K m (ak m b)
 |_=>False
def Cnd(x:SV)(A B:Prop):Prop:=match x with
 | .bool t=>(t=true->A)/\(t=false->B)
 | .zH=>A/\B
 |_=>False
def ac8(k:Nat)(K:Fr->List ay->Prop)(m:List ay):SV->Prop
 | .vec i n=>match ak m i with
  | .vec T w l=>(n=l.length/\T<tX)/\K (.put k (.vec m.length n) .nil) (m.set i .dead++[.vec (T+tX) w l])
  |_=>False
 |_=>False
def JC.wp(Γ:FH)(n0:Nat):JC->(Ex->Fr->List ay->Prop)->Fr->List ay->Prop
 | .skip,Q,τ,m=>Q .norm τ m
 | .ops l,Q,τ,m=>l.wp Γ false (Q .norm) τ m
 | .aZ l,Q,τ,m=>l.wp Γ true (λτ' m'=>Ar n0 m (Q .norm) τ' m') τ m
 | .JX l d T z lo,Q,τ,m=>l.wp Γ true (λτ' m'=>lo.wp Γ false (λO2 m2=>Ar n0 m (Q .norm) O2 m2) (.put d (.ptr m'.length [] 0) τ') (m'++[.blk T z])) (.put d .junk τ) m
 | .seq a b,Q,τ,m=>a.wp Γ n0 (λe τ' m'=>match e with
  | .norm=>b.wp Γ n0 Q τ' m'
  |e=>Q e τ' m') τ m
 | .cond x a b,Q,τ,m=>Cnd (x.fv τ) (a.wp Γ n0 Q τ m) (b.wp Γ n0 Q τ m)
 | .block id c,Q,τ,m=>c.wp Γ n0 (λe τ' m'=>match e with
  | .exit i=>if i=id then Q .norm τ' m' else Q (.exit i) τ' m'
  |e=>Q e τ' m') τ m
 | .loop keep mod c,Q,τ,m=> ∃ (ι:Type) (U:ι->List SV) (M:ι->List ay) (ok:ι->Prop) (μ:ι->Nat) (i:ι),ok i/\X0 mod (U i) τ/\M i=m/\
   ∀ i,ok i->c.wp Γ n0 (λe τ' m'=>match e with
    | .norm=> ∃ j,ok j/\μ j<μ i/\n0<=(M j).length/\atR (J8 (M j).length) mod (U j) τ'/\FZ (J8 (M j).length) τ τ' keep/\(m'.take (M j).length).map (dR (J8 (M j).length))=M j
    |e=>Q e τ' m') (ig mod (U i) (jI keep τ)) (M i)
 | .exit id,Q,τ,m=>Q (.exit id) τ m
 | .ret,Q,τ,m=>Q .ret τ m
 | .prune ks c,Q,τ,m=>c.wp Γ n0 Q (jI ks τ) m
 | .mW k T w c,Q,τ,m=>D8 k T w (λτ' m'=>c.wp Γ n0 Q τ' m') τ m (look k τ)
 | .orc s l,Q,τ,m=>match look s τ with
  | .bool b=>l.vc Γ m (.t s) τ (λq g=>(b=false->g)/\Q .norm (.put s (.bool (b||q)) (vS l.kP τ)) m) True
  |_=>False
 | .jZ k F c,Q,τ,m=>F.P m (look k τ)/\c.wp Γ n0 Q (.put k (F.dec m (look k τ)) τ) (jk m)
 | .ai1 k F c,Q,τ,m=>Qj k F (λτ' m'=>c.wp Γ n0 Q τ' m') τ m
 | .ai2 k F c,Q,τ,m=>X4 k F (λm'=>c.wp Γ n0 Q τ m') τ m
 | .sel ks c,Q,τ,m=>c.wp Γ n0 (λe τ' m'=>match e with
  | .norm=>amD n0 ks (Q .norm) τ' m'
  |e=>Q e τ' m') τ m
 | .pfz k F c,Q,τ,m=>c.wp Γ n0 (λe τ' m'=>match e with
  | .norm=>Qj k F (Q .norm) τ' m'
  |e=>Q e τ' m') τ m
 | .pin k c,Q,τ,m=>ac8 k (λτ' m'=>c.wp Γ n0 Q τ' m') m (look k τ)
def dB(n:Nat)(J:Env)(τ:Fr)(a:Act):Prop:= ∃ σ,Rep n σ τ/\aH J σ a
theorem dB.size{n:Nat}{J:Env}{τ:Fr}{a:Act}(h:dB n J τ a):a.tmps.size=n:=by obtain⟨σ,h1,h2⟩:=h;rw[<- h2.1,h1.1]
theorem dB.sat{n:Nat}{J:Env}{τ:Fr}{a:Act}(h:dB n J τ a)(k:Nat):bK J (look k τ) (a.tmps.getD k undef):=by
 obtain⟨σ,h1,h2⟩:=h;rcases h1.2 k with h|⟨_,h⟩
 ·rw[h];trivial
 ·rw[h];exact h2.2 k
theorem dB.weak{n:Nat}{J:Env}{τ τ':Fr}{a:Act}(h:dB n J τ a)(hl:∀ k,Le (look k τ') (look k τ)):dB n J τ' a:=by
 obtain⟨σ,h1,h2⟩:=h;refine⟨σ,⟨h1.1,λk=> ?_⟩,h2⟩;rcases hl k with e|e
 ·exact .inl e
 ·rw[e];exact h1.2 k
theorem Nb:∀ {ks:List Nat} {xs:List SV} {τ τ':Fr} (k:Nat),X0 ks xs τ'->Le (look k τ) (look k τ')->Le (look k (ig ks xs τ)) (look k τ')
 |[],[],_,_,_,_,h=>h
 |j::ks,x::xs,τ,τ',k,ha,h=>by
  simp only[ig,look];by_cases e:k=j
  ·subst e;rw[if_pos rfl];exact .inr ha.1.symm
  ·rw[if_neg e];exact Nb k ha.2 h
 |[],_::_,_,_,_,ha,_=>ha.elim
 |_::_,[],_,_,_,ha,_=>ha.elim
theorem dB.env{n:Nat}{J J':Env}{τ:Fr}{a:Act}(h:dB n J τ a)(hl:J.Le J'):dB n J' τ a:=by obtain⟨σ,h1,h2⟩:=h;exact⟨σ,h1,h2.mono hl⟩
theorem Inv.cut{β:Base}{J:Env}{m:List ay}{w:World}(h:Inv β J m w){i n':Nat}{T T':TypeId}{wd':Nat}{l:List SV}(hm:ak m i= .vec T wd' l)(hn:n'<=l.length)(hT:∀ T0,(T0=T\/T0+tX=T)->(T0=T'\/T0+tX=T')):
  ∃ ao cap,J.vv i= .slice ao l.length cap/\Inv β (J.more 0 (.slice ao n' cap)) (m.set i .dead++[.vec T' wd' (l.take n')]) w/\bK (J.more 0 (.slice ao n' cap)) (.vec m.length n') (.slice ao n' cap):=by
 have hi:i<m.length:=jJ (by rw[hm];nofun)
 have k:=h.drop (i:=i) (by rw[hm];rfl)
 have hlen:(m.set i ay.dead).length=m.length:=by simp
 have hl':(l.take n').length=n':=by simp;omega
 have hat:=oq (m:=m) .dead hi;obtain⟨xs,⟨T0,hT0,ol,ho⟩,hel⟩:fH J i w (.vec T wd' l):=hm▸h.good.res i;have hmul:n'*wd'<=l.length*wd':=Nat.mul_le_mul_right _ hn;have hxs:(xs.take (n'*wd')).length=n'*wd':=by simp;omega
 have apL:∀ v j,j< (l.take n').length->ah ((l.take n').getD j .junk) (J.more 0 v) (sub (xs.take (n'*wd')) (j*wd') wd'):=by
  intro v j hj;rw[hl'] at hj;have hjl:=bF (w:=wd') hj;have e1:(l.take n').getD j .junk=l.getD j .junk:=by simp only[z0m];rw[List.getElem?_take_of_lt hj]
  have e2:sub (xs.take (n'*wd')) (j*wd') wd'=sub xs (j*wd') wd':=by simp only[sub,List.drop_take,z1p];rw[z1o (by omega)]
  rw[e1,e2];exact(hel j (by omega)).mono _ (J.dS _ _)
 have hvv:∀ v,(J.more 0 v).vv m.length=v:=λv=>by simp[Env.more,h.good.n]
 rcases ho with⟨e,hx⟩|⟨g,cap,cur,e,hg0,hh,hle,hcap,hsz,htk⟩
 ·have hl0:l.length=0:=hx;have hn0:n'=0:=by omega
  subst hn0;refine⟨none,0,by rw[e,hl0],?_,?_⟩
  ·refine k.more2 (row:=none) (z0z.refl w none) (z07 _) (λx hx=>by cases hx) ⟨xs.take (0*wd'),⟨T0,hT T0 hT0,?_⟩,apL _⟩ (λx hx=> ?_)
   ·rw[hlen,hvv,hl'];exact⟨hxs, .inl ⟨rfl,by simp⟩⟩
   ·rw[hlen] at hx;simp[aS,hvv,z0h] at hx
  ·refine⟨[.slice none 0 0],?_,rfl⟩;simp only[ah];exact⟨by simp[Env.more,h.good.n], .inl ⟨hvv _,trivial⟩,by rw[hvv]⟩
 ·have hoi:aS J i (ak m i)=some g:=by rw[hm];simp[aS,e,z0h]
  refine⟨some ⟨g,0,none⟩,cap,e,?_,?_⟩
  ·refine k.more2 (row:=some g) (z0z.refl w _) (z07 _) (λx hx=> ?_) ⟨xs.take (n'*wd'),⟨T0,hT T0 hT0,?_⟩,?_⟩ (λx hx=> ?_)
   ·obtain rfl:=z0p hx;refine⟨λj ej=> ?_,h.good.sep i _ hoi,dw h.good hoi,h.own i _ hoi⟩;rw[hat] at ej;split at ej
    ·cases ej
    ·rename_i hji;exact h.good.jY j i _ hji ej hoi
   ·rw[hlen,hvv,hl'];exact⟨hxs, .inr ⟨g,cap,cur,rfl,hg0,hh,by omega,hcap,hsz,by rw[<- htk,z1p,z1o hmul]⟩⟩
   ·exact apL _
   ·rw[hlen] at hx;simp only[aS,hvv,z0h,z0g] at hx;exact .inr (by rw[hx])
  ·refine⟨[.slice (some ⟨g,0,none⟩) n' cap],?_,rfl⟩;simp only[ah];exact⟨by simp[Env.more,h.good.n], .inr ⟨g,cap,hvv _,by omega⟩,by rw[hvv]⟩
theorem amP{β:Base}{J:Env}{m:List ay}{w:World}(h:Inv β J m w){n:Nat}{τ:Fr}{a:Act}(hs:dB n J τ a){k:Nat}(hk:k<n){K:Fr->List ay->Prop}(hh:ac8 k K m (look k τ)):
  ∃ J' τ' m',K τ' m'/\Inv β J' m' w/\dB n J' τ' a:=by
 unfold ac8 at hh;split at hh<;>try exact hh.elim
 rename_i i n0 e;split at hh<;>try exact hh.elim
 rename_i T wd' l hm;obtain⟨⟨rfl,hT⟩,hK⟩:=hh;obtain⟨ao,cap,hv,h1,h2⟩:=h.cut (n':=l.length) (T':=T+tX) hm (z07 _) (λT0 h0=>Or.inr (show T0+tX=T+tX by
  rcases h0 with h0|h0
  ·rw[h0]
  ·exact absurd (h0▸hT) (z1e.2 (Nat.le_add_left _ _))))
 rw[List.take_length] at h1;refine⟨_,_,_,hK,h1,?_⟩;obtain⟨σ,r1,r2⟩:=hs;have ek:σ.getD k .junk= .vec i l.length:=le_eq (r1.le k) e (by intro h;cases h)
 have hval:=r2.2 k;rw[ek] at hval;obtain⟨_,_,hval⟩:=kF hval;have hr:Rep n (z04 n SV.junk) .nil:=⟨by simp,λj=> .inl rfl⟩
 refine⟨(z04 n SV.junk).set k (.vec m.length l.length),hr.put hk (Le.refl _),by rw[z0x,List.length_replicate,<- r1.1,r2.1],λj=> ?_⟩
 by_cases ej:j=k
 ·subst ej;rw[iE (by simpa using hk),hval,hv]
  exact h2
 ·rw[getD_set_ne ej];have:(z04 n SV.junk).getD j .junk= .junk:=by simp only[z0m,z14];split<;>rfl
  rw[this];trivial
theorem ai3{β:Base}{J:Env}{m:List ay}{w:World}(h:Inv β J m w){n:Nat}{τ:Fr}{a:Act}(hs:dB n J τ a){k:Nat}(hk:k<n){T:TypeId}{wd':Nat}{K:Fr->List ay->Prop}(hh:D8 k T wd' K τ m (look k τ)):
  ∃ J' τ' m',K τ' m'/\Inv β J' m' w/\dB n J' τ' a:=by
 unfold D8 at hh;split at hh
 ·rename_i e;have hg:w.grownBy w none:=z0z.refl w none;have hi:=h.more (b:=0) (v:= .slice none 0 0) (r:= .vec T wd' []) hg (z07 _) ⟨[], .of ⟨by simp, .inl ⟨by simp[Env.more,h.good.n],rfl⟩⟩,λj hj=>absurd hj (z09 _)⟩ (by intro x hx;simp[aS,Env.more,h.good.n,z0h] at hx)
  have hle:=J.dS 0 (.slice none 0 0);refine⟨_,_,_,hh,hi,?_⟩;obtain⟨σ,h1,h2⟩:=hs;have hv:=h2.2 k;have ek:σ.getD k .junk= .dO:=le_eq (h1.le k) e (by intro h;cases h)
  rw[ek] at hv;have hv':=lY hv;refine⟨σ.set k (.vec m.length 0),h1.put hk (Le.refl _),⟨by simp[h2.1],λj=> ?_⟩⟩
  by_cases ej:j=k
  ·subst ej;rw[iE (by rw[h1.1];exact hk),hv']
   refine⟨[.slice none 0 0],?_,rfl⟩;simp only[ah];refine⟨by simp[Env.more,h.good.n], .inl ⟨by simp[Env.more,h.good.n],trivial⟩,by simp[Env.more,h.good.n]⟩
  ·rw[getD_set_ne ej];exact(h2.2 j).mono hle
 ·exact⟨J,τ,m,hh,h,hs⟩
theorem amQ{β:Base}{J:Env}{m:List ay}{w:World}(h:Inv β J m w){n:Nat}{τ:Fr}{a:Act}(hs:dB n J τ a){k:Nat}(hk:k<n){F:Frz}(hP:F.P m (look k τ)):
  ∃ J',Inv β J' (jk m) w/\dB n J' (.put k (F.dec m (look k τ)) τ) a:=by
 refine⟨_,h.freeze,?_⟩;have hle:J.Le (Sx.jZ J m w):=⟨z07 _,λ_ _=>rfl,λ_ _=>rfl,wP h.good⟩;obtain⟨σ,h1,h2⟩:=hs;have e:=fE (h1.le k) (F.val hP);obtain⟨cs,k1,k2⟩:=fF (h2.2 k) (by rw[e];exact F.val hP)
 rw[e] at k1 k2;have k3:=F.ok h.good hP k1;refine⟨σ.set k (F.dec m (look k τ)),h1.put hk (Le.refl _),by simp[h2.1],λj=> ?_⟩
 by_cases ej:j=k
 ·subst ej;rw[iE (by rw[h1.1];exact hk),k2,<- F.agg hP]
  exact gJ (ah.mono _ (Env.Eb _) k3)
 ·rw[getD_set_ne ej];exact(h2.2 j).mono hle
theorem Yd{β:Base}{J:Env}{m:List ay}{w:World}(h:Inv β J m w){n:Nat}{τ:Fr}{a:Act}(hs:dB n J τ a){k:Nat}(hk:k<n){F:Frz}{K:Fr->List ay->Prop}(hh:Qj k F K τ m):
  ∃ J' τ' m',K τ' m'/\Inv β J' m' w/\dB n J' τ' a:=by
 unfold Qj at hh;generalize hks:iU (look k τ)=ks at hh;obtain⟨h1,h2,h3⟩:=hh;have hn:=Qz h1;rw[<- yE] at h2 h3;have hg:=h.good.sel ks hn;have hle:=Fb h.good ks;refine⟨EO J m w ks,_,_,h3,h.Ye ks,?_⟩;obtain⟨σ,r1,r2⟩:=hs;have hval:=F.val h2;have hx:(look k τ).isVal=true:=by cases hl:look k τ<;>rw[hl] at hval<;>first|rfl|(simp[ren,SV.isVal] at hval)
 have e:=fE (r1.le k) hx;obtain⟨cs,k1,k2⟩:=fF (r2.2 k) (by rw[e];exact hx)
 rw[e] at k1 k2;have k3:=F.ok hg h2 (ah.ren (fQ ks) _ (nN ks J) k1);have k4:=ah.mono _ (QA h.good hn) k3;refine⟨σ.set k (F.dec (fJ ks m) (ren (fQ ks) (look k τ))),r1.put hk (Le.refl _),by simp[r2.1],λj=> ?_⟩
 by_cases ej:j=k
 ·subst ej;rw[iE (by rw[r1.1];exact hk),k2]
  have ha:(look j τ).isAgg=(F.dec (fJ ks m) (ren (fQ ks) (look j τ))).isAgg:=by refine Eq.trans ?_ (F.agg h2).symm;cases hl:look j τ<;>rw[hl] at hval<;>first|rfl|(simp only[ren,iD] at hval ⊢;split at hval<;>first|rfl|(simp[SV.isVal] at hval))
  rw[ha];exact gJ k4
 ·rw[getD_set_ne ej];exact(r2.2 j).mono hle
theorem ai4{β:Base}{J:Env}{m:List ay}{w:World}(h:Inv β J m w){n:Nat}{τ:Fr}{a:Act}(hs:dB n J τ a){k:Nat}{F:Frz}{K:List ay->Prop}(hh:X4 k F K τ m):
  ∃ J' m',K m'/\Inv β J' m' w/\dB n J' τ a:=by
 unfold X4 at hh;split at hh<;>try exact hh.elim
 rename_i b hb;unfold ac' at hh;split at hh<;>try exact hh.elim
 rename_i T c hm;generalize hks:iU c=ks at hh;obtain⟨h1,h2,h3⟩:=hh;obtain⟨hbn,hn⟩:=z0w.1 (Qz h1);rw[<- yE] at h2 h3;have hg:=h.good.sel ks hn;have hle:=Fb h.good ks;have hm2:ak (tV ks m) b= .blk T c:=by rw[wQ,if_neg hbn];exact hm
 refine⟨EO J m w ks,_,h3,(h.Ye ks).amR hm2 λcs hcs=> ?_,hs.env hle⟩;have hr:=h.good.res b;rw[hm] at hr;obtain⟨cs0,g1,g2⟩:=hr;have hcs:w.heap[J.blk b]? =some (.cells cs.toArray T (0,0)):=hcs;rw[g1] at hcs;simp only[z0g,Obj.cells.injEq] at hcs;have:cs0=cs:=by simpa using congrArg Array.toList hcs.1
 subst this;exact ah.mono _ (QA h.good hn) (F.ok hg h2 (ah.ren (fQ ks) _ (nN ks J) g2))
def ak0(Fz:Nat->Prop)(n:Nat)(ρ:Root)(d:List Deferred)(Q:Ex->Fr->List ay->Prop)(e:Exit)(a:Act)(w:OW):Prop:=
 ∃ ex τ m J,rU e ex/\Q ex τ m/\dh Fz ρ J m w/\dB n J τ a/\a.defers=d
theorem ai5{n0 n:Nat}{ks:List Nat}{m:List ay}{K:Fr->List ay->Prop}{τ:Fr}(h:amD n0 ks K τ m){β:Base}{J:Env}{a:Act}{w:World}(hI:Inv β J m w)(hs:dB n J τ a)(hb:β.J.n<=n0):
  ∃ τ' m' J',K τ' m'/\Inv β J' m' w/\dB n J' τ' a:=by
 obtain⟨σ,h1,h2⟩:=hs;obtain⟨g1,g2⟩:=h;rw[<- yE] at g2;refine⟨_,_,_,g2,hI.sel _ (Qz g1) (λk hk=> ?_),dH (fQ (upto n0 0++ks)) σ,?_,h2.ren (nN _ J)⟩
 ·rw[z0e (by rw[Gw];omega),upto_at n0 0 k (by omega),z16]
 ·refine⟨by rw[iG];exact h1.1,λk=> ?_⟩
  rw[jU,lq];rcases h1.2 k with e|⟨e1,e2⟩
  ·left;rw[e];rfl
  ·exact .inr ⟨e1,by rw[e2]⟩
theorem QB{n0 n:Nat}{m0 m:List ay}{K:Fr->List ay->Prop}{τ:Fr}(h:Ar n0 m0 K τ m){β:Base}{J:Env}{a:Act}{w:World}(hI:Inv β J m w)(hs:dB n J τ a)(hb:β.J.n<=n0):
  ∃ τ' m' J',K τ' m'/\Inv β J' m' w/\dB n J' τ' a:=by
 obtain⟨σ,h1,h2⟩:=hs;unfold Ar at h;split at h
 ·rename_i hl;split at h
  ·rename_i i hg;have hi:=(Ko _ _ _ _ hg).2;rw[z16] at hi;split at h
   ·rename_i hni;refine⟨_,_,_,h,hI.sel _ (EP hi) (λk hk=> ?_),dH (fQ ((z05 m0.length).set i m0.length)) σ,?_,h2.ren (nN _ J)⟩
    ·rw[z0a,if_neg (by omega),z0j]
     omega
    ·refine⟨by rw[iG];exact h1.1,λk=> ?_⟩
     rw[jU,lq];rcases h1.2 k with e|⟨e1,e2⟩
     ·left;rw[e];rfl
     ·exact .inr ⟨e1,by rw[e2]⟩
   ·exact⟨_,_,_,h,hI,σ,h1,h2⟩
  ·exact⟨_,_,_,h,hI,σ,h1,h2⟩
 ·exact⟨_,_,_,h,hI,σ,h1,h2⟩
section inv
variable {quiet:FuncId->Bool} {c:Code}
theorem Kq(h:comp P quiet c=some .skip):c= .skip:=by
 cases c<;>simp only[comp] at h<;>first
  |rfl
  |(cases h;done)
  |(split at h<;>first|(cases h;done)|(split at h<;>first|(cases h;done)|(split at h<;>first|(cases h;done)|(rcases fU h with⟨_,h⟩|⟨_,_,_,_,_,h⟩<;>cases h;done)))|(simp only[z01] at h;obtain⟨_,_,h⟩:=h;cases h))
  |(simp only[z01] at h;obtain⟨_,_,h⟩:=h;cases h)
theorem aaS{i:Nat}(h:comp P quiet c=some (.exit i)):c= .exit i:=by
 cases c<;>simp only[comp] at h<;>first
  |(cases h;rfl;done)
  |(cases h;done)
  |(split at h<;>first|(cases h;done)|(split at h<;>first|(cases h;done)|(split at h<;>first|(cases h;done)|(rcases fU h with⟨_,h⟩|⟨_,_,_,_,_,h⟩<;>cases h;done)))|(simp only[z01] at h;obtain⟨_,_,h⟩:=h;cases h))
  |(simp only[z01] at h;obtain⟨_,_,h⟩:=h;cases h)
theorem adP(h:comp P quiet c=some .ret):c= .ret:=by
 cases c<;>simp only[comp] at h<;>first
  |rfl
  |(cases h;done)
  |(split at h<;>first|(cases h;done)|(split at h<;>first|(cases h;done)|(split at h<;>first|(cases h;done)|(rcases fU h with⟨_,h⟩|⟨_,_,_,_,_,h⟩<;>cases h;done)))|(simp only[z01] at h;obtain⟨_,_,h⟩:=h;cases h))
  |(simp only[z01] at h;obtain⟨_,_,h⟩:=h;cases h)
theorem adQ{a b:IC}(h:comp P quiet c=some (.seq a b)):∃ x y,c= .seq x y/\comp P quiet x=some a/\comp P quiet y=some b:=by
 cases c<;>simp only[comp] at h<;>first
  |(split at h<;>first
    |(cases h;exact⟨_,_,rfl,by assumption,by assumption⟩)
    |(cases h;done)
    |(split at h<;>first|(cases h;done)|(split at h<;>first|(cases h;done)|(rcases fU h with⟨_,h⟩|⟨_,_,_,_,_,h⟩<;>cases h;done)))
    |(simp only[z01] at h;obtain⟨_,_,h⟩:=h;cases h))
  |(cases h;done)
  |(simp only[z01] at h;obtain⟨_,_,h⟩:=h;cases h)
theorem Kr{x':aV}{a b:IC}(h:comp P quiet c=some (.cond x' a b)):∃ x y z,c= .cond x y z/\aP x=some x'/\comp P quiet y=some a/\comp P quiet z=some b:=by
 cases c<;>simp only[comp] at h<;>first
  |(split at h<;>first
    |(cases h;exact⟨_,_,_,rfl,by assumption,by assumption,by assumption⟩)
    |(cases h;done)
    |(split at h<;>first|(cases h;done)|(split at h<;>first|(cases h;done)|(rcases fU h with⟨_,h⟩|⟨_,_,_,_,_,h⟩<;>cases h;done)))
    |(simp only[z01] at h;obtain⟨_,_,h⟩:=h;cases h))
  |(cases h;done)
  |(simp only[z01] at h;obtain⟨_,_,h⟩:=h;cases h)
theorem Vm{id:Nat}{a:IC}(h:comp P quiet c=some (.block id a)):∃ x,c= .block id x/\comp P quiet x=some a:=by
 cases c<;>simp only[comp] at h<;>first
  |(simp only[z01] at h;obtain⟨_,h1,h⟩:=h;cases h;exact⟨_,rfl,h1⟩)
  |(split at h<;>first
    |(cases h;done)
    |(split at h<;>first|(cases h;done)|(split at h<;>first|(cases h;done)|(rcases fU h with⟨_,h⟩|⟨_,_,_,_,_,h⟩<;>cases h;done)))
    |(simp only[z01] at h;obtain⟨_,_,h⟩:=h;cases h))
  |(cases h;done)
  |(simp only[z01] at h;obtain⟨_,_,h⟩:=h;cases h)
theorem aaT{a:IC}(h:comp P quiet c=some (.loop a)):∃ x,c= .loop x/\comp P quiet x=some a:=by
 cases c<;>simp only[comp] at h<;>first
  |(simp only[z01] at h;obtain⟨_,h1,h⟩:=h;cases h;exact⟨_,rfl,h1⟩)
  |(split at h<;>first
    |(cases h;done)
    |(split at h<;>first|(cases h;done)|(split at h<;>first|(cases h;done)|(rcases fU h with⟨_,h⟩|⟨_,_,_,_,_,h⟩<;>cases h;done)))
    |(simp only[z01] at h;obtain⟨_,_,h⟩:=h;cases h))
  |(cases h;done)
  |(simp only[z01] at h;obtain⟨_,_,h⟩:=h;cases h)
theorem QC{l:List dP}(h:comp P quiet c=some (.ops l)):∃ id ops,c= .region id ops false/\ops.toList.mapM (iV P ops)=some l:=by
 cases c<;>simp only[comp] at h<;>first
  |(split at h
    ·split at h<;>first|(cases h;done)|(split at h<;>first|(cases h;done)|(rcases fU h with⟨_,h⟩|⟨_,_,_,_,_,h⟩<;>cases h;done))
    ·rename_i hd;simp only[z01] at h;obtain⟨_,h1,h⟩:=h;cases h;exact⟨_,_,by simp only[Bool.not_eq_true] at hd;rw[hd],h1⟩)
  |(cases h;done)
  |(split at h<;>first
    |(cases h;done)
    |(split at h<;>first|(cases h;done)|(split at h<;>first|(cases h;done)|(rcases fU h with⟨_,h⟩|⟨_,_,_,_,_,h⟩<;>cases h;done))))
  |(simp only[z01] at h;obtain⟨_,_,h⟩:=h;cases h)
theorem aaU{l:List dP}(h:comp P quiet c=some (.aZ l)):∃ id ops,c= .region id ops true/\P.follows .mixedOrders=true/\
  ((∃ l0,l=aug ops.toList l0/\ops.toList.mapM (pK P quiet ops)=some l0/\chk ops.toList l0=true)\/
   ∃ ord l0,l=aug (dF ops ord).toList l0/\wF ops ord=true/\(dF ops ord).toList.mapM (pK P (uI quiet) (dF ops ord))=some l0/\chk (dF ops ord).toList l0=true):=by
 cases c<;>simp only[comp] at h<;>first
  |(split at h
    ·rename_i hd;split at h<;>try (cases h;done)
     rename_i hi;split at h
     ·rename_i hk;cases h;simp only[z00] at hk;exact⟨_,_,by rw[hd],hk.2, .inl ⟨_,rfl,hi,hk.1⟩⟩
     ·unfold QD at h;split at h<;>try (cases h;done)
      split at h<;>try (cases h;done)
      rename_i hi2;split at h
      ·rename_i hk;cases h;simp only[z00] at hk;exact⟨_,_,by rw[hd],hk.2, .inr ⟨_,_,rfl,hk.1.1,hi2,hk.1.2⟩⟩
      ·split at h<;>try (cases h;done)
       split at h<;>cases h
    ·simp only[z01] at h;obtain⟨_,_,h⟩:=h;cases h)
  |(cases h;done)
  |(split at h<;>first
    |(cases h;done)
    |(split at h<;>first|(cases h;done)|(split at h<;>first|(cases h;done)|(rcases fU h with⟨_,h⟩|⟨_,_,_,_,_,h⟩<;>cases h;done))))
  |(simp only[z01] at h;obtain⟨_,_,h⟩:=h;cases h)
theorem aaV{l:List dP}{d:Nat}{T:TypeId}{z:SV}{lo:List dP}(h:comp P quiet c=some (.JX l d T z lo)):∃ id ops ord aT,c= .region id ops true/\P.follows .mixedOrders=true/\wF ops ord=true/\
  (dF ops ord).toList.mapM (pK P (uI quiet) (dF ops ord))=some aT/\Vo P (uI quiet) (dF ops ord)=some (l,d,T,z,lo):=by
 cases c<;>simp only[comp] at h<;>first
  |(split at h
    ·rename_i hd;split at h<;>try (cases h;done)
     split at h
     ·cases h
     ·unfold QD at h;split at h<;>try (cases h;done)
      split at h<;>try (cases h;done)
      rename_i hi2;split at h
      ·cases h
      ·split at h<;>try (cases h;done)
       rename_i hg;split at h<;>try (cases h;done)
       rename_i hk;cases h;simp only[z00] at hk;exact⟨_,_,_,_,by rw[hd],hk.2,hk.1,hi2,hg⟩
    ·simp only[z01] at h;obtain⟨_,_,h⟩:=h;cases h)
  |(cases h;done)
  |(split at h<;>first
    |(cases h;done)
    |(split at h<;>first|(cases h;done)|(split at h<;>first|(cases h;done)|(rcases fU h with⟨_,h⟩|⟨_,_,_,_,_,h⟩<;>cases h;done))))
  |(simp only[z01] at h;obtain⟨_,_,h⟩:=h;cases h)
theorem ai6{Γ:FH}{n0 n d:Nat}{T:TypeId}{z:SV}{l lo:SL}{Q:Ex->Fr->List ay->Prop}{τ:Fr}{m:List ay}{σ:List SV}(hw:l.wf n=true)(hw2:lo.wf n=true)(hd:d<n)(hr:Rep n σ τ)
  (h:JC.wp Γ n0 (.JX l d T z lo) Q τ m):iY Γ.hook (l.flat none) (λσ' m'=>uP Γ.hook (lo.flat none) (λK2 m2=> ∃ O2,Rep n K2 O2/\Ar n0 m (Q .norm) O2 m2) (σ'.set d (.ptr m'.length [] 0)) (m'++[.blk T z])) (σ.set d .junk) m:=
 vV (dr:=true) l (.put d .junk τ) (σ.set d .junk) m _ _ hw (hr.put hd (Le.refl _)) h λσ' τ' m' hr' hq=>
  vV (dr:=false) lo (.put d (.ptr m'.length [] 0) τ') _ _ _ _ hw2 (hr'.put hd (Le.refl _)) hq λK2 O2 m2 hr2 hq2=>⟨O2,hr2,hq2⟩
end inv
theorem Gx(n:Nat):fQ (z05 n)=J8 n:=by
 funext i
 unfold fQ J8;by_cases h:i<n
 ·have hc:(z05 n).contains i=true:=by simpa using h
  rw[if_pos hc,if_pos h];have hn:(z05 n).Nodup:=z1f;have:=hn.idxOf_getElem i (by simpa using h)
  rw[List.getElem_range] at this;rw[this]
 ·have hc:¬ (z05 n).contains i=true:=by simpa using h
  rw[if_neg hc,if_neg h]
theorem ai7{n0 n k:Nat}{m M:List ay}{τ:Fr}{β:Base}{J:Env}{a:Act}{w:World}(hI:Inv β J m w)(hs:dB n J τ a)(hb:β.J.n<=n0)(hk:n0<=k)(hM:M.length=k)(hm:(m.take k).map (dR (J8 k))=M):
  ∃ J',Inv β J' M w/\dB n J' (nM (J8 k) τ) a:=by
 obtain⟨σ,h1,h2⟩:=hs;have hlen:k<=m.length:=by have:=congrArg List.length hm;rw[List.length_map,List.length_take,hM] at this;omega
 have hsel:fJ (z05 k) m=M:=by
  rw[<- hm];unfold fJ;rw[Gx];apply z0u;intro i;rw[z0i,z0i,z1a];by_cases hi:i<k
  ·rw[if_pos hi,z0j hi];have:m[i]? =some (m[i]'(by omega)):=z03 _
   rw[this];simp[ak,z02,this]
  ·rw[if_neg hi,z18 (by simpa using hi)]
   rfl
 refine⟨kQ (z05 k) J,hsel▸hI.sel _ z1f (λi hi=>z0j (by omega)),dH (fQ (z05 k)) σ,⟨by rw[iG];exact h1.1,λj=> ?_⟩,h2.ren (nN _ J)⟩
 rw[jU,lq,<- Gx];rcases h1.2 j with e|⟨e1,e2⟩
 ·left;rw[e];rfl
 ·exact .inr ⟨e1,by rw[e2]⟩
theorem QE{r:Nat->Option Nat}:∀ {ks:List Nat} {xs:List SV} {τ τ':Fr} (k:Nat),atR r ks xs τ'->Le (look k τ) (look k (nM r τ'))->Le (look k (ig ks xs τ)) (look k (nM r τ'))
 |[],[],_,_,_,_,h=>h
 |j::ks,x::xs,τ,τ',k,ha,h=>by
  simp only[ig,look];by_cases e:k=j
  ·subst e;rw[if_pos rfl,jU];exact .inr ha.1.symm
  ·rw[if_neg e];exact QE k ha.2 h
 |[],_::_,_,_,_,ha,_=>ha.elim
 |_::_,[],_,_,_,ha,_=>ha.elim
theorem Gy{r:Nat->Option Nat}:∀ {ks:List Nat} {τ τ':Fr} (k:Nat),FZ r τ τ' ks->Le (look k (jI ks τ)) (look k (nM r τ'))
 |[],_,_,_,_=> .inl rfl
 |j::ks,τ,τ',k,h=>by
  simp only[jI,look];by_cases e:k=j
  ·subst e;rw[if_pos rfl,jU];exact .inr h.1.symm
  ·rw[if_neg e];exact Gy k h.2
theorem JC.sound{Γ:FH}(hΓ:bQ P main Fz Γ){quiet:FuncId->Bool}{n0 n:Nat}{ρ:Root}{fn:FuncId}(hb:ρ.J.n<=n0){d:List Deferred}:∀ (jc:JC) (c:Code),comp P quiet c=some jc.flat->jc.wf n=true->∀ (Q:Ex->Fr->List ay->Prop) (τ:Fr) (m:List ay),jc.wp Γ n0 Q τ m->
  ∀ J a w,dh Fz ρ J m w->dB n J τ a->a.defers=d->dQ P main Fz fn c (ak0 Fz n ρ d Q) a w
 | .skip,c,hc,hw,Q,τ,m,h,J,a,w,hi,hs,hd=>by
  obtain rfl:=Kq hc;exact Yf ⟨.norm,τ,m,J,trivial,h,hi,hs,hd⟩
 | .ops l,c,hc,hw,Q,τ,m,h,J,a,w,hi,hs,hd=>by
  obtain⟨id,ops,rfl,hl⟩:=QC hc;obtain⟨σ,h1,h2⟩:=hs;have k:=vV l τ σ m (Q .norm) (λσ' m'=> ∃ τ',Rep n σ' τ'/\Q .norm τ' m') hw h1 h (λσ' τ' m' hr hq=>⟨τ',hr,hq⟩);exact wS (qg hΓ.hook _ _ σ m _ hl k (λσ' m' J' a' w' ⟨τ',hr,hq⟩ hi' hs' hd'=>⟨.norm,τ',m',J',trivial,hq,hi',⟨σ',hr,hs'⟩,hd'⟩) J a w hi h2 hd)
 | .aZ l,c,hc,hw,Q,τ,m,h,J,a,w,hi,hs,hd=>by
  obtain⟨id,ops,rfl,hf,hcase⟩:=aaU hc;obtain⟨σ,h1,h2⟩:=hs;have k:=vV l τ σ m _ (λσ' m'=> ∃ τ',Rep n σ' τ'/\Ar n0 m (Q .norm) τ' m') hw h1 h (λσ' τ' m' hr hq=>⟨τ',hr,hq⟩);have k:iY _ (l.flat none) _ σ m:=k;have fin:∀ σ' m' J' a' w',(∃ τ',Rep n σ' τ'/\Ar n0 m (Q .norm) τ' m')->dh Fz ρ J' m' w'->aH J' σ' a'->a'.defers=d->ak0 Fz n ρ d Q .normal a' w':=by rintro σ' m' J' a' w' ⟨τ',hr,hq⟩ hi' hs' hd';obtain⟨O2,m2,J2,k1,k2,k3⟩:=QB hq hi'.inv ⟨σ',hr,hs'⟩ hb;exact⟨.norm,O2,m2,J2,trivial,k1,hi'.same k2,k3,hd'⟩
  rcases hcase with⟨l0,hl0,hl,hk⟩|⟨ord,l0,hl0,hpo,hl,hk⟩
  ·rw[hl0] at k;exact Vp hΓ.hook hf hl hk k (ρ:=ρ) (d:=d) fin hi h2 hd
  ·rw[hl0] at k;exact PL hΓ.hook hf hpo hl hk k (ρ:=ρ) (d:=d) fin hi h2 hd
 | .JX l x T z lo,c,hc,hw,Q,τ,m,h,J,a,w,hi,hs,hd=>by
  obtain⟨id,ops,ord,aT,rfl,hf,hpo,hi2,hg⟩:=aaV hc;obtain⟨σ,h1,h2⟩:=hs;simp only[JC.wf,z00,decide_eq_true_eq] at hw;refine QF hΓ.hook hf hpo hg (ρ:=ρ) (d0:=d) (by rw[h1.1];exact hw.2.2) (ai6 hw.1 hw.2.1 hw.2.2 h1 h) ?_ hi h2 hd
  rintro σ' m' J' a' w' ⟨τ',hr,hq⟩ hi' hs' hd';obtain⟨O2,m2,J2,k1,k2,k3⟩:=QB hq hi'.inv ⟨σ',hr,hs'⟩ hb;exact⟨.norm,O2,m2,J2,trivial,k1,hi'.same k2,k3,hd'⟩
 | .seq x y,c,hc,hw,Q,τ,m,h,J,a,w,hi,hs,hd=>by
  obtain⟨x',y',rfl,hx,hy⟩:=adQ hc;simp only[JC.wf,z00] at hw;simp only[JC.wp] at h;refine amS (dQ.mono (λe a' w' he=> ?_) (JC.sound hΓ hb x x' hx hw.1 _ τ m h J a w hi hs hd));obtain⟨ex,σ',m',J',h1,h2,h3,h4,h5⟩:=he;cases e<;>cases ex<;>simp only[rU] at h1
  ·exact JC.sound hΓ hb y y' hy hw.2 Q σ' m' h2 J' a' w' h3 h4 h5
  ·exact⟨_,σ',m',J',by simp only[rU];exact h1,h2,h3,h4,h5⟩
  ·exact⟨.ret,σ',m',J',trivial,h2,h3,h4,h5⟩
 | .cond x y z,c,hc,hw,Q,τ,m,h,J,a,w,hi,hs,hd=>by
  obtain⟨x',y',z',rfl,hx,hy,hz⟩:=Kr hc;simp only[JC.wf,z00] at hw;simp only[JC.wp,Cnd] at h;split at h
  ·rename_i t ht;obtain⟨σ,h1,h2⟩:=hs;have hv0:=aB hx h2;rw[le_eq (h1.fv x) ht (by intro h;cases h)] at hv0
   have hv:=kG hv0;cases t with
   |true=>exact uQ hv (JC.sound hΓ hb y y' hy hw.1 Q τ m (h.1 rfl) J a w hi ⟨σ,h1,h2⟩ hd)
   |false=>exact sO hv (JC.sound hΓ hb z z' hz hw.2 Q τ m (h.2 rfl) J a w hi ⟨σ,h1,h2⟩ hd)
  ·rename_i ht;obtain⟨σ,h1,h2⟩:=hs;have hv0:=aB hx h2;rw[le_eq (h1.fv x) ht (by intro h;cases h)] at hv0
   obtain⟨cs,k1,hv⟩:=hv0;simp only[ah] at k1;obtain⟨t,rfl⟩:=k1;cases t with
   |true=>exact uQ hv (JC.sound hΓ hb y y' hy hw.1 Q τ m h.1 J a w hi ⟨σ,h1,h2⟩ hd)
   |false=>exact sO hv (JC.sound hΓ hb z z' hz hw.2 Q τ m h.2 J a w hi ⟨σ,h1,h2⟩ hd)
  ·exact h.elim
 | .block id x,c,hc,hw,Q,τ,m,h,J,a,w,hi,hs,hd=>by
  obtain⟨x',rfl,hx⟩:=Vm hc;simp only[JC.wp] at h;refine adR (dQ.mono (λe a' w' he=> ?_) (JC.sound hΓ hb x x' hx hw _ τ m h J a w hi hs hd));obtain⟨ex,σ',m',J',h1,h2,h3,h4,h5⟩:=he;cases e<;>cases ex<;>simp only[rU] at h1
  ·exact⟨.norm,σ',m',J',trivial,h2,h3,h4,h5⟩
  ·rename_i i1 i2;subst h1;simp only at h2 ⊢;by_cases e1:i1=id
   ·rw[if_pos e1] at h2 ⊢;exact⟨.norm,σ',m',J',trivial,h2,h3,h4,h5⟩
   ·rw[if_neg e1] at h2 ⊢;exact⟨.exit _,σ',m',J',rfl,h2,h3,h4,h5⟩
  ·exact⟨.ret,σ',m',J',trivial,h2,h3,h4,h5⟩
 | .loop keep mod x,c,hc,hw,Q,τ,m,h,J,a,w,hi,hs,hd=>by
  obtain⟨x',rfl,hx⟩:=aaT hc;simp only[JC.wf,z00] at hw;simp only[JC.wp] at h;obtain⟨ι,U,M,ok,μ,i0,hok,hw0,hm0,amT⟩:=h;have hs0:dB n J (ig mod (U i0) (jI keep τ)) a:=hs.weak λk=>Nb k hw0 (yG keep);refine ai8 (λn' a w=> ∃ i J,μ i=n'/\ok i/\dh Fz ρ J (M i) w/\dB n J (ig mod (U i) (jI keep τ)) a/\a.defers=d) (μ i0) ⟨i0,J,rfl,hok,hm0▸hi,hs0,hd⟩ ?_;rintro n' a w ⟨i,J,rfl,hok',hi',hs',hd'⟩;refine dQ.mono (λe a' w' he=> ?_) (JC.sound hΓ hb x x' hx hw.2 _ _ _ (amT i hok') J a w hi' hs' hd');obtain⟨ex,σ',m',J',h1,h2,h3,h4,h5⟩:=he;cases e<;>cases ex<;>simp only[rU] at h1
  ·obtain⟨j,hj1,hj2,hj0,hj3,hj4,hj5⟩:=h2;obtain⟨J2,k1,k2⟩:=ai7 h3.inv h4 hb hj0 rfl hj5;exact⟨μ j,hj2,j,J2,rfl,hj1,h3.same k1,k2.weak λk=>QE k hj3 (Gy k hj4),h5⟩
  ·exact⟨_,σ',m',J',by simp only[rU];exact h1,h2,h3,h4,h5⟩
  ·exact⟨.ret,σ',m',J',trivial,h2,h3,h4,h5⟩
 | .exit id,c,hc,hw,Q,τ,m,h,J,a,w,hi,hs,hd=>by
  obtain rfl:=aaS hc;exact ai9 ⟨.exit id,τ,m,J,rfl,h,hi,hs,hd⟩
 | .ret,c,hc,hw,Q,τ,m,h,J,a,w,hi,hs,hd=>by
  obtain rfl:=adP hc;exact amU ⟨.ret,τ,m,J,trivial,h,hi,hs,hd⟩
 | .prune ks x,c,hc,hw,Q,τ,m,h,J,a,w,hi,hs,hd=>
  JC.sound hΓ hb x c hc hw Q _ m h J a w hi (hs.weak λk=>yG ks) hd
 | .mW k T wd' x,c,hc,hw,Q,τ,m,h,J,a,w,hi,hs,hd=>by
  simp only[JC.wf,z00,decide_eq_true_eq] at hw;simp only[JC.wp] at h;obtain⟨J',τ',m',h1,h2,h3⟩:=ai3 hi.inv hs hw.1 h;exact JC.sound hΓ hb x c hc hw.2 Q τ' m' h1 J' a w (hi.same h2) h3 hd
 | .sel ks x,c,hc,hw,Q,τ,m,h,J,a,w,hi,hs,hd=>by
  simp only[JC.wp] at h;refine dQ.mono (λe a' w' he=> ?_) (JC.sound hΓ hb x c hc hw _ τ m h J a w hi hs hd);obtain⟨ex,τ',m',J',h1,h2,h3,h4,h5⟩:=he;cases ex with
  |norm=>
   obtain⟨O2,m2,J2,k1,k2,k3⟩:=ai5 h2 h3.inv h4 hb;exact⟨.norm,O2,m2,J2,h1,k1,h3.same k2,k3,h5⟩
  |exit i=>exact⟨.exit i,τ',m',J',h1,h2,h3,h4,h5⟩
  |ret=>exact⟨.ret,τ',m',J',h1,h2,h3,h4,h5⟩
 | .pfz k F x,c,hc,hw,Q,τ,m,h,J,a,w,hi,hs,hd=>by
  simp only[JC.wf,z00,decide_eq_true_eq] at hw;simp only[JC.wp] at h;refine dQ.mono (λe a' w' he=> ?_) (JC.sound hΓ hb x c hc hw.2 _ τ m h J a w hi hs hd);obtain⟨ex,τ',m',J',h1,h2,h3,h4,h5⟩:=he;cases ex with
  |norm=>
   obtain⟨J2,O2,m2,k1,k2,k3⟩:=Yd h3.inv h4 hw.1 h2;exact⟨.norm,O2,m2,J2,h1,k1,h3.same k2,k3,h5⟩
  |exit i=>exact⟨.exit i,τ',m',J',h1,h2,h3,h4,h5⟩
  |ret=>exact⟨.ret,τ',m',J',h1,h2,h3,h4,h5⟩
 | .jZ k F x,c,hc,hw,Q,τ,m,h,J,a,w,hi,hs,hd=>by
  simp only[JC.wf,z00,decide_eq_true_eq] at hw;obtain⟨hP,h⟩:=h;obtain⟨J',h2,h3⟩:=amQ hi.inv hs hw.1 hP;exact JC.sound hΓ hb x c hc hw.2 Q _ _ h J' a w (hi.same h2) h3 hd
 | .ai1 k F x,c,hc,hw,Q,τ,m,h,J,a,w,hi,hs,hd=>by
  simp only[JC.wf,z00,decide_eq_true_eq] at hw;simp only[JC.wp] at h;obtain⟨J',τ',m',h1,h2,h3⟩:=Yd hi.inv hs hw.1 h;exact JC.sound hΓ hb x c hc hw.2 Q τ' m' h1 J' a w (hi.same h2) h3 hd
 | .pin k x,c,hc,hw,Q,τ,m,h,J,a,w,hi,hs,hd=>by
  simp only[JC.wf,z00,decide_eq_true_eq] at hw;simp only[JC.wp] at h;obtain⟨J',τ',m',h1,h2,h3⟩:=amP hi.inv hs hw.1 h;exact JC.sound hΓ hb x c hc hw.2 Q τ' m' h1 J' a w (hi.same h2) h3 hd
 | .ai2 k F x,c,hc,hw,Q,τ,m,h,J,a,w,hi,hs,hd=>by
  simp only[JC.wp] at h;obtain⟨J',m',h1,h2,h3⟩:=ai4 hi.inv hs h;exact JC.sound hΓ hb x c hc hw Q τ m' h1 J' a w (hi.same h2) h3 hd
 | .orc s l,c,hc,hw,Q,τ,m,h,J,a,w,hi,hs,hd=>by
  obtain⟨x',y',z',rfl,hx,hy,hz⟩:=Kr hc;obtain rfl:=Kq hy;obtain⟨id,ops,rfl,hl⟩:=QC hz;simp only[JC.wf,z00,decide_eq_true_eq] at hw;simp only[JC.wp] at h;split at h
  ·rename_i b e;obtain⟨σ,h1,h2⟩:=hs;have hb:σ.getD s .junk= .bool b:=le_eq (h1.le s) e (by intro h;cases h)
   have hv0:=aB hx h2;simp only[aV.ev] at hv0;rw[hb] at hv0;have hv:=kG hv0;replace h:=adS h;generalize he:l.vg Γ m (.t s) τ=pq at h;obtain⟨p,q⟩:=pq;obtain⟨g1,g2⟩:(b=(!true)->p)/\Q .norm (.put s (.bool (if true=true then b||q else b&&q)) (vS l.kP τ)) m:=h
   have back:∀ {σ':List SV},CV l.kP σ σ'->σ'.getD s .junk= .bool (b||q)->Rep n σ' (.put s (.bool (if true=true then b||q else b&&q)) (vS l.kP τ)):=by
    intro σ' ho e;have:=(h1.junk ho).put hw.1.1 (Le.refl (.bool (b||q)));rw[show σ'.set s (.bool (b||q))=σ' from ?_] at this
    ·exact this
    ·apply z0u;intro j;rw[z0a];split
     ·rename_i e';subst e';have hlt:s<σ'.length:=by rw[ho.1,h1.1];exact hw.1.1
      rw[if_pos hlt];rw[z02,z03 hlt] at e;rw[z03 hlt];exact congrArg some e.symm
     ·rfl
   cases b with
   |true=>
    refine uQ hv (Yf ⟨.norm,_,m,J,trivial,g2,hi,⟨σ,back (CV.refl ..) (by rw[hb];simp),h2⟩,hd⟩)
   |false=>
    have k:=adT l (.t s) τ σ (λσ' m'=>m'=m/\CV l.kP σ σ'/\σ'.getD s .junk= .bool q) hw.1.2 hw.2 h1 (by rw[he];exact g1 rfl) (λσ' ho e=>⟨rfl,ho,by rw[he] at e;exact e⟩)
    refine sO hv (wS (qg hΓ.hook _ _ σ m _ hl k (λσ' m' J' a' w' ⟨hm,ho,e⟩ hi' hs' hd'=> ?_) J a w hi h2 hd));subst hm;exact⟨.norm,_,m',J',trivial,g2,hi',⟨σ',back ho (by rw[e];simp),hs'⟩,hd'⟩
  ·exact h.elim
end Go.Sx
namespace Go.Sx
open Go
variable {P:Program} {main:Bool} {Fz:Nat->Prop}
def pV(P:Program)(τ:Fr)(m:List ay)(K:SV->Prop):List ResultVar->Prop
 |[]=>K (.cu [])
 |[.tmp t]=>(look t τ).isVal=true/\K (look t τ)
 |[.cell t T]=>match rP P T with
  |some (n,ag)=>peek m n ag K (look t τ)
  |none=>False
 |l=>go l λxs=>K (.cu xs)
where go:List ResultVar->(List SV->Prop)->Prop
 |[],K=>K []
 | .tmp t::r,K=>(look t τ).isVal=true/\go r λxs=>K (look t τ::xs)
 | .cell t T::r,K=>match rP P T with
  |some (n,ag)=>peek m n ag (λx=>x.isVal=true/\go r λxs=>K (x::xs)) (look t τ)
  |none=>False
theorem RZ{m:List ay}{n:Nat}{ag:Bool}{K:SV->Prop}{x:SV}(h:peek m n ag K x):x.isVal=true:=by cases x<;>simp only[peek] at h<;>first|exact h.elim|rfl
theorem FB{n:Nat}{σ:List SV}{τ:Fr}{m:List ay}(hr:Rep n σ τ):∀ {rs:List ResultVar} {K:List SV->Prop},pV.go P τ m rs K->qW.go P σ m rs K
 |[],_,h=>h
 | .tmp t::r,K,h=>by
  have e:=fE (hr.le t) h.1;simp only[qW.go];rw[e];exact⟨h.1,FB hr h.2⟩
 | .cell t T::r,K,h=>by
  simp only[pV.go,qW.go] at h ⊢;cases ht:rP P T with
  |none=>rw[ht] at h;exact h.elim
  |some p=>
   rw[ht] at h;simp only at h ⊢;rw[fE (hr.le t) (RZ h)];exact yH (λx hx=>⟨hx.1,FB hr hx.2⟩) h
theorem YJ{n:Nat}{σ:List SV}{τ:Fr}{m:List ay}(hr:Rep n σ τ){K:SV->Prop}:∀ {rs:List ResultVar},pV P τ m K rs->qW P σ m K rs
 |[],h=>h
 |[.tmp t],h=>by
  simp only[qW];rw[fE (hr.le t) h.1];exact h.2
 |[.cell t T],h=>by
  simp only[pV,qW] at h ⊢;cases ht:rP P T with
  |none=>rw[ht] at h;exact h.elim
  |some p=>
   rw[ht] at h;simp only at h ⊢;rw[fE (hr.le t) (RZ h)];exact h
 | .tmp t::b::l,h=>by
  simp only[pV,qW] at h ⊢;exact FB hr (rs:= .tmp t::b::l) (K:=λxs=>K (.cu xs)) h
 | .cell t T::b::l,h=>by simp only[pV,qW] at h ⊢;exact FB hr (rs:= .cell t T::b::l) (K:=λxs=>K (.cu xs)) h
def F7(ks:List Nat)(res:SV)(m1:List ay)(m:List ay)(x:SV):Prop:=
 nd ks/\ren (uM ks 0) x=res/\ks.map (λk=>dR (uM ks 0) (ak m k))=m1
def pW(n0:Nat):List Nat->List Nat
 |[]=>[]
 |i::r=>if i<n0 then pW n0 r else i::pW n0 r
def CO(rs:List ResultVar)(P:Program)(n0:Nat)(res:SV)(m1:List ay)(e:Ex)(τ:Fr)(m:List ay):Prop:=match e with
 | .exit _=>False
 |_=>pV P τ m (λx=>F7 (upto n0 0++pW n0 (iU x)) res m1 m x) rs
theorem Si{n0:Nat}{l:List Nat}{res:SV}{m1 m:List ay}{x:SV}(h:F7 (upto n0 0++l) res m1 m x):∃ ks,afm ks n0 res m1 m x:=by
 obtain⟨h1,h2,h3⟩:=h;refine⟨_,⟨Qz h1,λi hi=> ?_⟩,by rw[yE];exact h2,by unfold fJ;rw[yE];exact h3⟩
 rw[z0e (by rw[Gw];exact hi),upto_at n0 0 i hi,z16]
theorem ajU{n:Nat}{σ:List SV}{τ:Fr}{m:List ay}(hr:Rep n σ τ){rs:List ResultVar}{n0:Nat}{res:SV}{m1:List ay}{e:Ex}(h:CO rs P n0 res m1 e τ m):ar4 rs P n0 res m1 e σ m:=by
 cases e with
 |exit i=>exact h
 |norm=>
  have h:pV P τ m (λx=>F7 (upto n0 0++pW n0 (iU x)) res m1 m x) rs:=h;exact La (λx hx=>Si hx) (YJ hr h)
 |ret=>
  have h:pV P τ m (λx=>F7 (upto n0 0++pW n0 (iU x)) res m1 m x) rs:=h;exact La (λx hx=>Si hx) (YJ hr h)
def yY:Nat->List SV->Fr
 |_,[]=> .nil
 |k,x::r=> .put k x (yY (k+1) r)
theorem YK:∀ (args:List SV) (j k:Nat),look k (yY j args)= .junk\/(j<=k/\k<j+args.length/\look k (yY j args)=args.getD (k - j) .junk)
 |[],j,k=> .inl rfl
 |x::r,j,k=>by
  simp only[yY,look];by_cases h:k=j
  ·subst h;rw[if_pos rfl];right;exact⟨z07 _,by simp,by simp⟩
  ·rw[if_neg h];rcases YK r (j+1) k with h1|⟨h1,h2,h3⟩
   ·exact .inl h1
   ·right;refine⟨by omega,by simp;omega,?_⟩
    rw[h3];have:k - j=(k - (j+1))+1:=by omega
    rw[this,z19]
theorem BA(args:List SV)(nt:Nat)(h:args.length<=nt):Rep nt (args++z04 (nt - args.length) .junk) (yY 0 args):=by
 refine⟨by simp;omega,λk=> ?_⟩
 rcases YK args 0 k with h1|⟨_,h2,h3⟩
 ·exact .inl h1
 ·right;refine⟨by omega,?_⟩
  rw[h3,Nat.sub_zero,z02,z02,z0e (by omega)]
theorem aG{quiet:FuncId->Bool}{f:FuncId}{jc:JC}{rs:List ResultVar}{nt:Nat}(hfn:bW P quiet f=some (jc.flat,rs,nt))(hwf:jc.wf nt=true){Γ:FH}(hΓ:bQ P main Fz Γ){args:List SV}{m0 m1:List ay}{res:SV}(hn':Nat.ble args.length nt=true)
  (h:jc.wp Γ m0.length (CO rs P m0.length res m1) (yY 0 args) m0):bC P main Fz f args m0 res m1:=by
 have hn:args.length<=nt:=Nat.le_of_ble_eq_true hn';obtain⟨_,fn,c,hf,hb,hc,hrs,hnt⟩:=ajV hfn;intro J x vs hg hs;have hlen:args.length=vs.length:=(mG hs 0).1|>λh=>by simpa using h
 refine Oj hf hb ?_;have hi:=dh.start hg;have hsl:=mG hs (nt - args.length);have e:fn.ntmps - vs.toArray.size=nt - args.length:=by simp;omega
 rw[e];refine dQ.mono (λe a w' he=> ?_) (JC.sound (fn:=f) hΓ (Nat.le_of_eq hg.good.n) (d:=[]) jc c hc hwf _ _ _ h J _ x hi ⟨_,BA args nt hn,hsl⟩ rfl);obtain⟨ex,τ',m',J',h1,h2,h3,⟨σ',hr,h4⟩,h5⟩:=he;replace h2:=ajU hr h2;cases e<;>cases ex<;>simp only[rU] at h1
 ·exact afn hrs hg h3 h4 h5 h2
 ·exact h2.elim
 ·exact afn hrs hg h3 h4 h5 h2
theorem wkA{f:FuncId}(jc:JC)(rs:List ResultVar)(nt:Nat){Γ:FH}(hΓ:bQ P main Fz Γ){args:List SV}{m0 m1:List ay}{res:SV}(hn':Nat.ble args.length nt=true)(h:jc.wp Γ m0.length (CO rs P m0.length res m1) (yY 0 args) m0)(hfn:bW P bG f=some (jc.flat,rs,nt):=by kernel_rfl)(hwf:jc.wf nt=true:=by kernel_rfl):bC P main Fz f args m0 res m1:=aG hfn hwf hΓ hn' h
@[reducible] def qo(d:Nat)(x:vT)(r:SL):SL:= .op (some d) (.p x) r
@[reducible] def eo(d:Nat)(x:EIO)(r:SL):SL:= .op (some d) (.e x) r
@[reducible] def qn(x:vT)(r:SL):SL:= .op none (.p x) r
@[reducible] def en(x:EIO)(r:SL):SL:= .op none (.e x) r
@[reducible] def o7(d:Nat)(x:Nat)(r:SL):SL:= .op (some d) (.p (.mv (.t x))) r
@[reducible] def o8(d:Nat)(n:Int)(r:SL):SL:= .op (some d) (.p (.mv (I n))) r
@[reducible] def o9(d:Nat)(w:Nat)(x:Nat)(r:SL):SL:= .op (some d) (.e (.load w false (.t x))) r
@[reducible] def oC(d:Nat)(w:Nat)(x:Nat)(r:SL):SL:= .op (some d) (.e (.load w true (.t x))) r
@[reducible] def oD(d:Nat)(a:Nat)(b:Nat)(x:Nat)(r:SL):SL:= .op (some d) (.p (.fa a b (.t x))) r
@[reducible] def oG(w:Nat)(p:Nat)(x:Nat)(r:SL):SL:= .op none (.e (.store w (.t p) (.t x))) r
@[reducible] def oH(d:Nat)(x:Nat)(n:Int)(r:SL):SL:= .op (some d) (.p (.cmp .eql (.t x) (I n))) r
@[reducible] def oI(d:Nat)(x:Nat)(n:Int)(r:SL):SL:= .op (some d) (.p (.ar .add (.t x) (I n))) r
@[reducible] def oJ(d:Nat)(w:Nat)(x:Nat)(y:Nat)(r:SL):SL:= .op (some d) (.p (.is w (.t x) (.t y))) r
@[reducible] def oK(d:Nat)(n:Nat)(w:Nat)(x:Nat)(y:Nat)(r:SL):SL:= .op (some d) (.p (.ia n w (.t x) (.t y))) r
@[reducible] def oL(d:Nat)(f:Nat)(x:Nat)(r:SL):SL:= .op (some d) (.e (.call f [.t x])) r
@[reducible] def oM(d:Nat)(k:Nat)(x:Nat)(r:SL):SL:= .op (some d) (.p (.ext k (.t x))) r
@[reducible] def oN(d:Nat)(x:Nat)(y:Nat)(r:SL):SL:= .op (some d) (.p (.cmp .lss (.t x) (.t y))) r
@[reducible] def oO(d:Nat)(x:Nat)(r:SL):SL:= .op (some d) (.p (.len (.t x))) r
@[reducible] def oP(d:Nat)(x:Nat)(r:SL):SL:= .op (some d) (.p (.nck (.t x))) r
@[reducible] def oQ(d:Nat)(r:SL):SL:= .op (some d) (.p (.mv (.c .dO))) r
@[reducible] def oU(d:Nat)(t:Nat)(x:Nat)(r:SL):SL:= .op (some d) (.e (.box t (.t x))) r
@[reducible] def oV(d:Nat)(t:Nat)(w:Nat)(b:Nat)(x:Nat)(y:Nat)(r:SL):SL:= .op (some d) (.e (.app t w b (.t x) (.t y))) r
@[reducible] def oW(d:Nat)(x:Nat)(y:Nat)(r:SL):SL:= .op (some d) (.p (.cmp .eql (.t x) (.t y))) r
@[reducible] def oZ(d:Nat)(x:Nat)(n:Int)(r:SL):SL:= .op (some d) (.p (.cmp .lss (.t x) (I n))) r
@[reducible] def qA(d:Nat)(w:Nat)(x:Nat)(n:Int)(r:SL):SL:= .op (some d) (.p (.is w (.t x) (I n))) r
@[reducible] def qB(d:Nat)(x:Nat)(n:Int)(r:SL):SL:= .op (some d) (.p (.cmp .neq (.t x) (I n))) r
@[reducible] def qC(d:Nat)(f:Nat)(x:Nat)(y:Nat)(r:SL):SL:= .op (some d) (.e (.call f [.t x, .t y])) r
@[reducible] def qE(d:Nat)(x:Nat)(r:SL):SL:= .op (some d) (.p (.nt (.t x))) r
@[reducible] def qF(d:Nat)(f:Nat)(x:Nat)(y:Nat)(r:SL):SL:= .op (some d) (.e (.nD f [.t x, .t y])) r
@[reducible] def qG(d:Nat)(b:Bool)(r:SL):SL:= .op (some d) (.p (.mv (B b))) r
@[reducible] def qI(d:Nat)(s:List UInt8)(r:SL):SL:= .op (some d) (.p (.mv (.c (.str s)))) r
@[reducible] def qJ(d:Nat)(x:Nat)(n:Int)(r:SL):SL:= .op (some d) (.p (.cmp .gtr (.t x) (I n))) r
@[reducible] def qK(d:Nat)(t:Nat)(r:SL):SL:= .op (some d) (.e (.alloc t (.agg [.int .i64 0, .int .i64 0, .int .i64 0]))) r
@[reducible] def qL(k:List Nat)(r:SL):SL:= .prune k r
@[reducible] def qM(k:List Nat)(c:JC):JC:= .prune k c
@[reducible] def qN(l:SL)(c:JC):JC:= .seq (.ops l) c
@[reducible] def qO(x:Nat)(a b:JC):JC:= .cond (.t x) a b
section words
variable {Γ:FH} {n0:Nat} {Q:Ex->Fr->List ay->Prop} {τ:Fr} {m:List ay}
theorem aiy:JC.wp Γ n0 .skip Q τ m=Q .norm τ m:=propext Iff.rfl
theorem amw{l:SL}:JC.wp Γ n0 (.ops l) Q τ m=l.wp Γ false (Q .norm) τ m:=propext Iff.rfl
theorem aiz{l:SL}:JC.wp Γ n0 (.aZ l) Q τ m=l.wp Γ true (λτ' m'=>Ar n0 m (Q .norm) τ' m') τ m:=propext Iff.rfl
theorem amx{a b:JC}:JC.wp Γ n0 (.seq a b) Q τ m=a.wp Γ n0 (λe τ' m'=>match e with
  | .norm=>b.wp Γ n0 Q τ' m'
  |e=>Q e τ' m') τ m:=propext Iff.rfl
theorem ac6{A B:Prop}:Cnd (.bool true) A B=A:=propext ⟨λh=>h.1 rfl,λh=>⟨λ_=>h,λe=>by cases e⟩⟩
theorem aaE{A B:Prop}:Cnd (.bool false) A B=B:=propext ⟨λh=>h.2 rfl,λh=>⟨λe=>by(cases e),λ_=>h⟩⟩
theorem ac7{t:Bool}{A B:Prop}:Cnd (.bool t) A B=((t=true->A)/\(t=false->B)):=propext Iff.rfl
theorem aiA{x:aV}{a b:JC}:JC.wp Γ n0 (.cond x a b) Q τ m=Cnd (x.fv τ) (a.wp Γ n0 Q τ m) (b.wp Γ n0 Q τ m):=propext Iff.rfl
theorem ada{id:Nat}{c:JC}:JC.wp Γ n0 (.block id c) Q τ m=c.wp Γ n0 (λe τ' m'=>match e with
  | .exit i=>if i=id then Q .norm τ' m' else Q (.exit i) τ' m'
  |e=>Q e τ' m') τ m:=propext Iff.rfl
theorem aiB{id:Nat}:JC.wp Γ n0 (.exit id) Q τ m=Q (.exit id) τ m:=propext Iff.rfl
theorem amy:JC.wp Γ n0 .ret Q τ m=Q .ret τ m:=propext Iff.rfl
theorem adb{ks:List Nat}{c:JC}:JC.wp Γ n0 (.prune ks c) Q τ m=c.wp Γ n0 Q (jI ks τ) m:=propext Iff.rfl
theorem aiC{k:Nat}{T:TypeId}{w:Nat}{c:JC}:JC.wp Γ n0 (.mW k T w c) Q τ m=D8 k T w (λτ' m'=>c.wp Γ n0 Q τ' m') τ m (look k τ):=propext Iff.rfl
theorem amu{k:Nat}{F:Frz}{c:JC}:JC.wp Γ n0 (.jZ k F c) Q τ m=(F.P m (look k τ)/\c.wp Γ n0 Q (.put k (F.dec m (look k τ)) τ) (jk m)):=propext Iff.rfl
theorem amq{k:Nat}{c:JC}:JC.wp Γ n0 (.pin k c) Q τ m=ac8 k (λτ' m'=>c.wp Γ n0 Q τ' m') m (look k τ):=propext Iff.rfl
theorem amv{s:Nat}{l:SL}:JC.wp Γ n0 (.orc s l) Q τ m=(match look s τ with
  | .bool b=>l.vc Γ m (.t s) τ (λq g=>(b=false->g)/\Q .norm (.put s (.bool (b||q)) (vS l.kP τ)) m) True
  |_=>False):=propext Iff.rfl
def JC.wpL(Γ:FH)(n0:Nat)(keep mod:List Nat)(c:JC)(Q:Ex->Fr->List ay->Prop)(_:Hide Γ c Q)(τ:Fr)(m:List ay):Prop:=JC.wp Γ n0 (.loop keep mod c) Q τ m
theorem ade{keep mod:List Nat}{c:JC}:JC.wp Γ n0 (.loop keep mod c) Q τ m=JC.wpL Γ n0 keep mod c Q ⟨⟩ τ m:=propext Iff.rfl
theorem aiD{p x:Prop}:AP.need p x=(p/\x):=propext Iff.rfl
theorem amB:AP.bad=False:=propext Iff.rfl
theorem amC{b:Bool}{x y:Prop}:AP.spl b x y=((b=true->x)/\(b=false->y)):=propext Iff.rfl
end words
theorem bU{Γ:FH}{n0:Nat}{keep mod:List Nat}{c:JC}{Q:Ex->Fr->List ay->Prop}{τ:Fr}{m:List ay}(ι:Type)(U:ι->List SV)(M:ι->List ay)(ok:ι->Prop)(μ:ι->Nat)(i0:ι)
  (h0:ok i0) (hσ:X0 mod (U i0) τ) (hm:M i0=m)
  (h:∀ i,ok i->c.wp Γ n0 (λe τ' m'=>match e with
    | .norm=> ∃ j,ok j/\μ j<μ i/\n0<=(M j).length/\atR (J8 (M j).length) mod (U j) τ'/\FZ (J8 (M j).length) τ τ' keep/\(m'.take (M j).length).map (dR (J8 (M j).length))=M j
    |e=>Q e τ' m') (ig mod (U i) (jI keep τ)) (M i)) {hd:Hide Γ c Q}:JC.wpL Γ n0 keep mod c Q hd τ m:=
 ⟨ι,U,M,ok,μ,i0,h0,hσ,hm,h⟩
theorem aJ{n:Int}(h:-9223372036854775808<=n/\n<=9223372036854775807:=by omega):IntKind.i64.wrap n=n:=IntWalk.i64_in n h
end Go.Sx
