/- A part of DeskRuns' proof. -/
import Derived.Test.YtgnaipcjbmhihaaGreatDoorDa
import Derived.Sort.Grow
import Derived.Deep.RegionLaw
import Derived.Lib.SliceRun
import Derived.Maps.RangeRun
import Derived.Conc.RwLoneW
import Derived.Recover
set_option linter.unusedVariables false
set_option linter.unusedSimpArgs false
open Option renaming some.injEq->z00,map_eq_some_iff->z03,getD_some->z0l,some.inj->z0x,pure_def->z1t,map_some->z1u
open List renaming getElem?_eq_getElem->z01,getD->z08,replicate->z0a,getElem?_take->z0b,getElem?_drop->z0c,getElem?_eq_some_iff->z0j,getElem?_set->z0k,mem_of_getElem?->z0m,getElem?_append->z0n,map_congr_left->z0p,map_cons->z0q,mem_map->z0s,ext_getElem?->z0t,length_map->z0z,range->z14,nodup_nil->z15,mapM_cons->z16,getLast?_eq_some_iff->z1a,drop_eq_getElem_cons->z1b,take->z1c,length_eq_zero_iff->z1d,map_nil->z1e,map_map->z1f,take_append_drop->z1h,mem_append_right->z1i,mem_cons_of_mem->z1j,mem_append_left->z1k,map_id->z1l,getElem?_set_ne->z1m,getD_cons_zero->z1p,mem_singleton->z1r,mem_cons_self->z1s,getElem?_map->z1v,append_assoc->z1w,append_nil->z1z,all_cons->z2d
open Bool renaming and_eq_true->z02,not_eq_true'->z1x
open Nat renaming le_refl->z04,le_of_ble_eq_true->z07,mul_le_mul_right->z09,le_of_eq->z0d,not_lt_zero->z0h,zero_le->z0o,succ_mul->z0u,lt_or_ge->z0v,ble->z1g,mul_one->z1o,blt->z1y
open Prod renaming mk.injEq->z05
open Go.Code renaming wp_mono->z06
open Array renaming length_toList->z0e,getElem?_modify->z0f,eq_empty_of_size_eq_zero->z0w,replicate->z0y,ext'->z1q
open Go.Value renaming int->z0g,ownBlock->z0i,pointer->z2c
open Go.Oper renaming wp->z0r
open Go.World renaming setCell->z18,grownBy->z19,frozen?->z2a
open Go.Act renaming eval->z2e
namespace Go.Sx
open Go Go.Sort
variable {P:Program}
theorem Inv.turn{β:Base}{J:Env}{m:List ay}{w w':World}(h:Inv β J m w){i:Nat}{T:TypeId}{wd':Nat}{l l':List SV}{g cap:Nat}{cur cs':List Value}
  (hm:ah m i= .vec T wd' l) (hv:J.vv i= .slice (some ⟨g,0,none⟩) l.length cap) (hcur:w.heap[g]? =some (.cells cur.toArray T (0,0))) (hle:l.length<=cap) (hcap:cap<=maxLen)
  (hcl:cur.length=cap*wd') (hlen:l'.length=l.length) (hcl':cs'.length=cur.length)
  (hel:∀ j,j<l'.length->au (l'.getD j .junk) J (sub cs' (j*wd') wd'))
  (hg:w.grownBy w' (some g)) (hd:w.drawn<=w'.drawn) (hn:w'.heap[g]? =some (.cells cs'.toArray T (0,0))):
  Inv β J (m.set i (.vec T wd' l')) w':=by
 have k:=h.afi hm hv hcur hle hcap hcl hlen hcl' hel;have hsz:(w.setRow g cs'.toArray).heap.size=w.heap.size:=by simp[World.setRow]
 refine k.world hg.os hg.tape hg.output (by rw[hsz];exact hg.size) (λ_=>hd) λb hb=> .inl ?_
 rw[hsz] at hb;by_cases e:b=g
 ·subst e;rw[hn,setRow_heap w _ _ _ T _ hcur]
 ·rw[setRow_other w _ b _ e];exact hg.block b hb (λhe=>e (z0x he))
theorem Inv.take{β:Base}{J:Env}{m:List ay}{w w':World}(h:Inv β J m w){i:Nat}{T:TypeId}{wd':Nat}{l l':List SV}{g cap:Nat}{cs':List Value}
  (hm:ah m i= .vec T wd' l) (hv:J.vv i= .slice (some ⟨g,0,none⟩) l.length cap) (hcap:cap<=maxLen)
  (hl':l'.length<=cap) (hcl':cs'.length=cap*wd')
  (hel:∀ j,j<l'.length->au (l'.getD j .junk) J (sub cs' (j*wd') wd'))
  (hg:w.grownBy w' (some g)) (hd:w.drawn<=w'.drawn) (hn:w'.heap[g]? =some (.cells cs'.toArray T (0,0))):
  Inv β (J.more 0 (.slice (some ⟨g,0,none⟩) l'.length cap)) (m.set i .dead++[.vec T wd' l']) w':=by
 have hoi:aN J i (ah m i)=some g:=by rw[hm];simp[aN,hv,z0i]
 have k:=h.drop (i:=i) (by rw[hm];rfl)
 have hlen:(m.set i ay.dead).length=m.length:=by simp
 have hi:i<m.length:=by
  rcases z0v i m.length with hi|hi
  ·exact hi
  ·rw[dh hi] at hm;cases hm
 have hat:∀ j,ah (m.set i .dead) j=if j=i then .dead else ah m j:=by
  intro j;unfold ah;rw[z08,z0k];by_cases hj:i=j
  ·subst hj;simp[hi]
  ·rw[if_neg hj,if_neg (λe=>hj e.symm)];rfl
 have hvv:(J.more 0 (.slice (some ⟨g,0,none⟩) l'.length cap)).vv (m.set i ay.dead).length= .slice (some ⟨g,0,none⟩) l'.length cap:=by simp[Env.more,h.good.n,hlen]
 refine k.more2 hg hd (λx hx=> ?_) ?_ (λx hx=> ?_)
 ·obtain rfl:=z0x hx;refine⟨λj e=> ?_,h.good.sep i _ hoi,dU h.good hoi,h.own i _ hoi⟩;rw[hat] at e;by_cases hj:j=i
  ·rw[if_pos hj] at e;cases e
  ·rw[if_neg hj] at e;exact h.good.pF j i _ hj e hoi
 ·have hmul:l'.length*wd'<=cap*wd':=z09 _ hl';refine⟨sub cs' 0 (l'.length*wd'),⟨by rw[fQ];omega, .inr ⟨g,cap,cs'.toArray,hvv,z0o _,hn,hl',hcap,by simp;omega,by simp[sub]⟩⟩,λk hk=> ?_⟩
  rw[sub_sub (bG hk),Nat.zero_add];exact(hel k hk).mono _ (J.dJ _ _)
 ·right;simp only[aN,hvv,z0i] at hx;exact hx
theorem Oe{J:Env}{m:List ay}{w:World}(g:Good J m w){i n:Nat}{T:TypeId}{wd:Nat}{l:List SV}(hm:ah m i= .vec T wd l)(hs:au (.vec i n) J [J.vv i])(hn:n=l.length):
  (J.vv i= .slice none 0 0/\l=[])\/∃ b cap cur,J.vv i= .slice (some ⟨b,0,none⟩) l.length cap/\w.heap[b]? =some (.cells cur.toArray T (0,0))/\l.length<=cap/\cap<=maxLen/\cur.length=cap*wd/\
   b<w.heap.size/\∀ j,j<l.length->au (l.getD j .junk) J (sub cur (j*wd) wd):=by
 have hr:=g.res i;rw[hm] at hr;obtain⟨xs,ho,hx⟩:=hr;obtain⟨h1,h2|⟨b,cap,cur,e1,e2,e3,e4,e5,e6,e7⟩⟩:=ho
 ·exact .inl ⟨h2.1,z1d.1 h2.2⟩
 ·refine .inr ⟨b,cap,cur.toList,e1,by simpa using e3,e4,e5,by simpa using e6,(Array.getElem?_eq_some_iff.1 e3).1,λj hj=> ?_⟩
  have:=hx j hj;rw[<- e7] at this;have hs':sub (z1c (l.length*wd) cur.toList) (j*wd) wd=sub cur.toList (j*wd) wd:=by
   have hlt:j*wd+wd<=l.length*wd:=by have:=z09 wd hj;rw[z0u] at this;exact this
   unfold sub;rw[List.drop_take,List.take_take]
   congr 1
   omega
  rwa [hs'] at this
theorem Io{J:Env}{i n:Nat}{r:List SV}{vs:List Value}(h:bg (.vec i n::r) J vs):∃ t,vs=J.vv i::t/\au (.vec i n) J [J.vv i]/\bg r J t:=by
 simp only[bg] at h;obtain⟨cs,t,h1,h2,h3⟩:=h;have hc:cs=[J.vv i]:=by simp only[au] at h2;exact h2.2.2
 subst hc;exact⟨t,h1,h2,h3⟩
theorem QY{J:Env}{k:IntKind}{n:Int}{r:List SV}{vs:List Value}(h:bg (.int k n::r) J vs):∃ t,vs= .int k n::t/\bg r J t:=by simp only[bg] at h;obtain⟨cs,t,h1,h2,h3⟩:=h;simp only[au] at h2;subst h2;exact⟨t,h1,h3⟩
theorem LP{α:Type}[Inhabited α](enc:α->Value)(w:World)(n b:Nat)(d:Array α)(os:Array Obj){cur:List Value}{T:TypeId}(hb:b<w.heap.size)(hc:w.heap[b]? =some (.cells cur.toArray T (0,0))):
  (w.grownBy (grow (putRow enc (Sort.ahead w n) b 0 d) os) (some b)/\w.drawn<=(grow (putRow enc (Sort.ahead w n) b 0 d) os).drawn)/\(grow (putRow enc (Sort.ahead w n) b 0 d) os).heap[b]? =some (.cells (putCells enc 0 d cur.toArray) T (0,0)):=by
 have hsz:(putRow enc (Sort.ahead w n) b 0 d).heap.size=w.heap.size:=by simp[putRow,mapBlock,Sort.ahead]
 have hat:∀ k,k<w.heap.size->(grow (putRow enc (Sort.ahead w n) b 0 d) os).heap[k]? =(putRow enc (Sort.ahead w n) b 0 d).heap[k]? :=by intro k hk;simp only[grow];rw[Array.getElem?_append_left (by rw[hsz];exact hk)]
 refine⟨⟨⟨rfl,rfl,rfl,by simp[grow,hsz],λk hk hne=> ?_⟩,Nat.le_add_right _ _⟩,?_⟩
 ·rw[hat k hk];simp only[putRow,mapBlock,Sort.ahead,z0f];rw[if_neg (λe=>hne (by rw[e]))]
 ·rw[hat b hb];simp only[putRow,mapBlock,Sort.ahead,z0f,if_true,hc,z1u,onCells]
theorem LQ{α:Type}[Inhabited α](enc:α->Value)(d:Array α)(cur:List Value):(putCells enc 0 d cur.toArray).toList.length=cur.length/\∀ j,j<d.size->j<cur.length->sub (putCells enc 0 d cur.toArray).toList (j*1) 1=[enc d[j]!]:=by
 refine⟨by simp[putCells],λj hj hc=> ?_⟩
 rw[z1o];have:(putCells enc 0 d cur.toArray).toList[j]? =some (enc d[j]!):=by rw[Array.getElem?_toList];simp only[putCells,Array.getElem?_mapIdx,List.getElem?_toArray];rw[z01 hc,z1u,if_pos ⟨z0o _,by omega⟩,Nat.sub_zero]
 unfold sub;rw[z1b (by rw[z0j] at this;exact this.1)]
 rw[List.take_succ_cons,List.take_zero];rw[z0j] at this;rw[this.2]
theorem Zf{zs:List Int}{J:Env}{cur:List Value}(h:∀ j,j< (zs.map DT.int.aA).length->au ((zs.map DT.int.aA).getD j .junk) J (sub cur (j*1) 1)):∀ j,j<zs.length->sub cur (j*1) 1=[.int .i64 (zs.getD j 0)]:=by
 intro j hj;have:=h j (by rw[z0z];exact hj)
 have e:(zs.map DT.int.aA).getD j .junk= .int .i64 (zs.getD j 0):=by simp only[z08,z1v];rw[z01 hj];rfl
 rw[e] at this;simpa only[au] using this
theorem LU{zs:List Int}{cur:List Value}{w:World}{b:Nat}{T:TypeId}(hc:w.heap[b]? =some (.cells cur.toArray T (0,0)))(h:∀ j,j<zs.length->sub cur (j*1) 1=[.int .i64 (zs.getD j 0)]):Holds (z0g .i64) w b 0 zs.toArray:=by
 intro j hj;have hj':j<zs.length:=by simpa using hj
 have e:=h j hj';rw[z1o] at e;have e1:cur[j]? =some (.int .i64 (zs.getD j 0)):=by
  unfold sub at e;have h2:(z1c 1 (List.drop j cur))[0]? =some (.int .i64 (zs.getD j 0)):=by rw[e];rfl
  rw[z0b,if_pos (by omega),z0c] at h2
  exact h2
 have e2:zs.toArray[j]! =zs.getD j 0:=by rw[getElem!_pos zs.toArray j hj];simp[z08,hj']
 rw[e2];refine⟨?_,?_⟩
 ·simp[World.cell?,hc,e1]
 ·simp[z2a,hc]
end Go.Sx
namespace Go.Sx
open Go Go.Sort
variable {P:Program}
def eF(l:List SV):List Int:=l.map (DT.int.aG [])
theorem afj(zs:List Int):eF (zs.map DT.int.aA)=zs:=by
 unfold eF;rw[z1f]
 conv=>rhs;rw[<- z1l zs]
 apply z0p;intro x _;rfl
theorem wL(l:List Int)(j:Nat)(h:j<l.length):l.toArray[j]! =l.getD j 0:=by
 rw[getElem!_pos l.toArray j (by simpa using h)]
 simp[z08,h]
theorem CQ{ds:List Int}{J:Env}{cs:List Value}(h:∀ j,j<ds.length->sub cs (j*1) 1=[.int .i64 (ds.toArray[j]!)]):∀ j,j< (ds.map DT.int.aA).length->au ((ds.map DT.int.aA).getD j .junk) J (sub cs (j*1) 1):=by
 intro j hj;have hj':j<ds.length:=by simpa using hj
 have e:(ds.map DT.int.aA).getD j .junk= .int .i64 (ds.getD j 0):=by simp only[z08,z1v];rw[z01 hj'];rfl
 rw[e,h j hj',wL ds j hj'];simp only[au]
structure Puts(P:Program)(f:FuncId)(F:List Int->List Int):Prop where
 ok:iF P f=true
 len:∀ zs,(F zs).length=zs.length
 at0:∀ w,Calls P f #[.slice none 0 0] w λe w'=>e= .returned (.tuple #[])/\w'=w
 QJ:∀ blk cap zs w,Holds (z0g .i64) w blk 0 zs.toArray->blk<w.heap.size->zs.length<4611686018427387904->
  Calls P f #[.slice (some ⟨blk,0,none⟩) zs.length cap] w λe w'=>e= .returned (.tuple #[])/\∃ n os,w'=grow (putRow (z0g .i64) (Sort.ahead w n) blk 0 (F zs).toArray) os
structure as2(P:Program)(f:FuncId)(F:List Int->List Int):Prop where
 ok:iF P f=true
 len:∀ zs,(F zs).length<=zs.length
 nil:F []=[]
 at0:∀ w,Calls P f #[.slice none 0 0] w λe w'=>e= .returned (.slice none 0 0)/\w'=w
 QJ:∀ blk cap zs w,Holds (z0g .i64) w blk 0 zs.toArray->zs.length<=9223372036854775807->zs.length<=cap->
  Calls P f #[.slice (some ⟨blk,0,none⟩) zs.length cap] w λe w'=>e= .returned (.slice (some ⟨blk,0,none⟩) (F zs).length cap)/\∃ q,w'=putRow (z0g .i64) (Sort.ahead w q) blk 0 (F zs++z0a (zs.length - (F zs).length) 0).toArray
theorem aaM(w:World):grow w #[]=w:=by simp[grow]
theorem LV{n:Nat}(h:n<=maxLen):n<=9223372036854775807:=by simp only[maxLen] at h;omega
theorem afk{f:FuncId}{F:List Int->List Int}(H:Puts P f F){m:List ay}{i n:Nat}{T:TypeId}{zs:List Int}(hm:ah m i= .vec T 1 (zs.map DT.int.aA))(hn:n=zs.length)(hz:zs.length<4611686018427387904):
  iU P f [.vec i n] m (.bK []) (m.set i (.vec T 1 ((F zs).map DT.int.aA))):=by
 intro β J vs w hi hs;obtain⟨t,rfl,h1,h2⟩:=Io hs;simp only[bg] at h2;subst h2;rcases Oe hi.good hm h1 (by simpa using hn) with⟨e,hl⟩|⟨b,cap,cur,e,hc,hle,hcap,hcl,hb,hel⟩
 ·have hz0:zs=[]:=by simpa using hl
  subst hz0;have hF:F []=[]:=z1d.1 (H.len []);rw[e];refine(H.at0 w).mono λe' w' ⟨he,hw⟩=> ?_;subst hw;refine⟨_,J,he,Env.Le.refl _,by simp[bM,bg],?_⟩
  have:m.set i (.vec T 1 ((F []).map DT.int.aA))=m:=by
   rw[hF];apply z0t;intro j;rw[z0k];by_cases hij:i=j
   ·subst hij;unfold ah at hm;rw[if_pos rfl];by_cases hlt:i<m.length
    ·rw[if_pos hlt,z01 hlt];simp only[z08,z01 hlt,z0l,z1e] at hm ⊢;rw[hm]
    ·rw[if_neg hlt,List.getElem?_eq_none (by omega)]
   ·rw[if_neg hij]
  rw[this];exact hi
 ·have hd:=Zf hel;have hH:=LU hc hd;have hlz:(zs.map DT.int.aA).length=zs.length:=by simp
  rw[e,hlz];refine(H.QJ b cap zs w hH hb hz).mono λe' w' ⟨he,q,os,hw⟩=> ?_;obtain⟨⟨hg,hd'⟩,hn'⟩:=LP (z0g .i64) w q b (F zs).toArray os hb hc;rw[<- hw] at hg hd' hn';have hpc:=LQ (z0g .i64) (F zs).toArray cur;refine⟨_,J,he,Env.Le.refl _,by simp[bM,bg],hi.turn hm e hc hle hcap hcl (by simp[H.len]) hpc.1 ?_ hg hd' (by simpa using hn')⟩
  refine CQ λj hj=>hpc.2 j (by simpa using hj) ?_
  have:=H.len zs;rw[hlz] at hle;omega
theorem Ip{J:Env}{m:List ay}{k:Nat}{v:Value}(hn:J.n=m.length)(h:v= .slice none 0 0/\k=0\/∃ b cap,v= .slice (some ⟨b,0,none⟩) k cap/\k<=cap):bM (J.more 0 v) (.vec m.length k) v:=by
 have hvv:(J.more 0 v).vv m.length=v:=by simp[Env.more,hn]
 simp only[bM,au,SV.isAgg];exact⟨[v],⟨by simp[Env.more,hn],by rw[hvv];exact h,by rw[hvv]⟩,by simp[boxed]⟩
theorem afl{f:FuncId}{F:List Int->List Int}(H:as2 P f F){m:List ay}{i n:Nat}{T:TypeId}{zs:List Int}(hm:ah m i= .vec T 1 (zs.map DT.int.aA))(hn:n=zs.length):
  iU P f [.vec i n] m (.vec m.length (F zs).length) (m.set i .dead++[.vec T 1 ((F zs).map DT.int.aA)]):=by
 intro β J vs w hi hs;obtain⟨t,rfl,h1,h2⟩:=Io hs;simp only[bg] at h2;subst h2;have hvv:∀ v,(J.more 0 v).vv m.length=v:=by intro v;simp[Env.more,hi.good.n]
 rcases Oe hi.good hm h1 (by simpa using hn) with⟨e,hl⟩|⟨b,cap,cur,e,hc,hle,hcap,hcl,hb,hel⟩
 ·have hz0:zs=[]:=by simpa using hl
  subst hz0;rw[e,H.nil];refine(H.at0 w).mono λe' w' ⟨he,hw⟩=> ?_;subst hw;refine⟨_,J.more 0 (.slice none 0 0),he,J.dJ _ _,?_,?_⟩
  ·exact Ip hi.good.n (.inl ⟨rfl,rfl⟩)
  ·have k:=hi.drop (i:=i) (by rw[hm];rfl)
   have hlen:(m.set i ay.dead).length=m.length:=by simp
   have hv2:(J.more 0 (.slice none 0 0)).vv (m.set i ay.dead).length= .slice none 0 0:=by rw[hlen,hvv]
   refine k.more (z19.refl _ _) (z04 _) ⟨[],⟨by simp, .inl ⟨by rw[hv2],by simp⟩⟩,λj hj=>absurd hj (by simp)⟩ λx hx=> ?_
   simp only[aN,hv2,z0i] at hx;cases hx
 ·have hd:=Zf hel;have hH:=LU hc hd;have hlz:(zs.map DT.int.aA).length=zs.length:=by simp
  have hmx:zs.length<=9223372036854775807:=by rw[hlz] at hle;exact LV (Nat.le_trans hle hcap)
  rw[e,hlz];refine(H.QJ b cap zs w hH hmx (by rw[<- hlz];exact hle)).mono λe' w' ⟨he,q,hw⟩=> ?_
  rw[<- aaM (putRow _ _ _ _ _)] at hw;obtain⟨⟨hg,hd'⟩,hn'⟩:=LP (z0g .i64) w q b (F zs++z0a (zs.length - (F zs).length) 0).toArray #[] hb hc;rw[<- hw] at hg hd' hn';have hpc:=LQ (z0g .i64) (F zs++z0a (zs.length - (F zs).length) 0).toArray cur;have hF:=H.len zs;have hI:=hi.take (l':=(F zs).map DT.int.aA) hm e hcap (by rw[hlz] at hle;simp;omega) (by rw[hpc.1];exact hcl) (CQ λj hj=> ?_) hg hd' (by simpa using hn')
  ·refine⟨_,J.more 0 (.slice (some ⟨b,0,none⟩) ((F zs).map DT.int.aA).length cap),he,J.dJ _ _,?_,?_⟩
   rotate_left
   ·exact hI
   ·have:=Ip (J:=J) (m:=m) (k:=(F zs).length) (v:= .slice (some ⟨b,0,none⟩) (F zs).length cap) hi.good.n (.inr ⟨b,cap,rfl,by rw[hlz] at hle;omega⟩)
    simpa using this
  ·rw[hpc.2 j (by simp;omega) (by rw[hlz] at hle;omega)]
   have hj2:j< (F zs++z0a (zs.length - (F zs).length) 0).length:=by simp;omega
   rw[wL _ _ hj,wL _ _ hj2];simp[z08,List.getElem?_append_left hj]
def FH.pu(f:FuncId)(F:List Int->List Int)(Γ:FH):FH:=
 FH.on f (λargs m=>match args with
  |[x]=>match x with
   | .vec i n=>match ah m i with
    | .vec T w l=> .is (w=1/\(eF l).map DT.int.aA=l/\n=(eF l).length/\(eF l).length<4611686018427387904) (.bK []) (m.set i (.vec T 1 ((F (eF l)).map DT.int.aA)))
    |_=> .no
   |_=> .no
  |_=> .no) Γ
theorem FH.axH{f:FuncId}{F:List Int->List Int}{Γ:FH}(H:Puts P f F)(hΓ:aW P Γ):aW P (FH.pu f F Γ):=
 FH.xU (λargs m=>by
  split
  ·split
   ·split
    ·rename_i i n T w l hm;rintro⟨rfl,h2,h3,h4⟩;refine⟨H.ok,afk H ?_ h3 h4⟩;rw[h2];exact hm
    ·trivial
   ·trivial
  ·trivial) hΓ
def FH.cu(f:FuncId)(F:List Int->List Int)(Γ:FH):FH:=
 FH.on f (λargs m=>match args with
  |[x]=>match x with
   | .vec i n=>match ah m i with
    | .vec T w l=> .is (w=1/\(eF l).map DT.int.aA=l/\n=(eF l).length) (.vec m.length (F (eF l)).length) (m.set i .dead++[.vec T 1 ((F (eF l)).map DT.int.aA)])
    |_=> .no
   |_=> .no
  |_=> .no) Γ
theorem FH.axI{f:FuncId}{F:List Int->List Int}{Γ:FH}(H:as2 P f F)(hΓ:aW P Γ):aW P (FH.cu f F Γ):=
 FH.xU (λargs m=>by
  split
  ·split
   ·split
    ·rename_i i n T w l hm;rintro⟨rfl,h2,h3⟩;refine⟨H.ok,afl H ?_ h3⟩;rw[h2];exact hm
    ·trivial
   ·trivial
  ·trivial) hΓ
namespace W
theorem axJ(f:FuncId)(F:List Int->List Int)(Γ:FH)(g:FuncId)(i n:Nat)(m:List ay):
  FH.pu f F Γ g [.vec i n] m=if g=f then(match ah m i with
    | .vec T w l=> .is (w=1/\(eF l).map DT.int.aA=l/\n=(eF l).length/\(eF l).length<4611686018427387904) (.bK []) (m.set i (.vec T 1 ((F (eF l)).map DT.int.aA)))
    |_=> .no) else Γ g [.vec i n] m:=nr rfl
theorem aaN(f:FuncId)(F:List Int->List Int)(Γ:FH)(g:FuncId)(args:List SV)(m:List ay)(h:g≠f):
  FH.pu f F Γ g args m=Γ g args m:=nr (if_neg h)
theorem axK(f:FuncId)(F:List Int->List Int)(Γ:FH)(g:FuncId)(i n:Nat)(m:List ay):
  FH.cu f F Γ g [.vec i n] m=if g=f then(match ah m i with
    | .vec T w l=> .is (w=1/\(eF l).map DT.int.aA=l/\n=(eF l).length) (.vec m.length (F (eF l)).length) (m.set i .dead++[.vec T 1 ((F (eF l)).map DT.int.aA)])
    |_=> .no) else Γ g [.vec i n] m:=nr rfl
theorem aaO(f:FuncId)(F:List Int->List Int)(Γ:FH)(g:FuncId)(args:List SV)(m:List ay)(h:g≠f):
  FH.cu f F Γ g args m=Γ g args m:=nr (if_neg h)
end W
attribute [go_sem ↓] W.axJ W.aaN W.axK W.aaO
attribute [go_sem] afj
end Go.Sx
namespace Go.Sx
open Go Go.Sort
variable {P:Program}
def over(cur:List Value)(o:Nat)(vs:List Value):List Value:=cur.take o++vs++cur.drop (o+vs.length)
theorem afm(cur:List Value)(o:Nat):over cur o []=cur:=by simp[over]
theorem Fh{cur:List Value}{o:Nat}{vs:List Value}(h:o+vs.length<=cur.length):(over cur o vs).length=cur.length:=by simp[over];omega
theorem CS{cur:List Value}{o:Nat}{vs:List Value}(h:o+vs.length<=cur.length)(t:Nat):(over cur o vs)[t]? =if t<o then cur[t]? else if t<o+vs.length then vs[t - o]? else cur[t]? :=by
 unfold over;rw[z1w,z0n];have h1:(z1c o cur).length=o:=by simp;omega
 rw[h1];split
 ·rename_i h2;rw[z0b,if_pos h2]
 ·rw[z0n];split
  ·rw[if_pos (by omega)]
  ·rw[if_neg (by omega),z0c]
   congr 1;omega
theorem Og{w:World}{b o:Nat}{v:Value}{cur:List Value}{T:TypeId}(h:w.heap[b]? =some (.cells cur.toArray T (0,0))):(w.setCell ⟨b,o,none⟩ v).heap[b]? =some (.cells (cur.set o v).toArray T (0,0)):=by simp[z18,z0f,h]
theorem KU(w:World)(b o:Nat)(v:Value):w.grownBy (w.setCell ⟨b,o,none⟩ v) (some b):=by
 refine⟨rfl,rfl,rfl,by simp[z18],λk hk hne=> ?_⟩
 simp only[z18,z0f];rw[if_neg (λe=>hne (by rw[e]))]
theorem aaP{cur:List Value}{o:Nat}{v:Value}{r:List Value}(h:o+(v::r).length<=cur.length):over (cur.set o v) (o+1) r=over cur o (v::r):=by
 apply z0t;intro t;have hl:(v::r).length=r.length+1:=rfl;rw[CS (by rw[List.length_set];omega),CS h,hl]
 by_cases h1:t<o
 ·rw[if_pos (by omega),if_pos h1,z1m (by omega)]
 ·by_cases h2:t=o
  ·subst h2;rw[if_pos (by omega),if_neg h1,if_pos (by omega),List.getElem?_set_self (by omega)]
   simp
  ·rw[if_neg (by omega),if_neg h1]
   by_cases h3:t<o+1+r.length
   ·rw[if_pos h3,if_pos (by omega),show t - o=(t - (o+1))+1 by omega];rfl
   ·rw[if_neg h3,if_neg (by omega),z1m (by omega)]
theorem uI{b:Nat}{T:TypeId}:∀ (vs:List Value) (o:Nat) (w:World) (cur:List Value),w.heap[b]? =some (.cells cur.toArray T (0,0))->o+vs.length<=cur.length->(w.setCells b o vs).heap[b]? =some (.cells (over cur o vs).toArray T (0,0))
 |[],o,w,cur,h,_=>by rw[afm];exact h
 |v::r,o,w,cur,h,hl=>by rw[World.setCells,uI r (o+1) _ (cur.set o v) (Og h) (by simp at hl ⊢;omega),aaP hl]
theorem rW(b:Nat):∀ (vs:List Value) (o:Nat) (w:World),w.grownBy (w.setCells b o vs) (some b)
 |[],_,w=>z19.refl _ _
 |v::r,o,w=>(KU w b o v).trans (rW b r (o+1) _)
theorem rX(b:Nat):∀ (vs:List Value) (o:Nat) (w:World),(w.setCells b o vs).drawn=w.drawn
 |[],_,w=>rfl
 |v::r,o,w=>(rX b r (o+1) _).trans (by simp)
theorem Iq(w:World)(t e ty:TypeId)(z:Value)(ht:P.underlying t=some (.slice e))(hv:∀ w,(zeroValue e).run P w= .ok z w)(zs:List Value)(b o n c:Nat)(hn:0<n)(hzs:(Builtin.zeroCells z.cells n).toList=zs)
  (h1:∀ v∈zs,v.oneCell'=true)
  (hc:∀ j,j<zs.length->(w.cell? ⟨b,o+j,none⟩).isSome=true) (hf:∀ j,j<zs.length->w.frozen? ⟨b,o+j,none⟩=false):
  (Builtin.clear_ #[t] ty #[.slice (some ⟨b,o,none⟩) n c]).run P w= .ok (.tuple #[]) (w.setCells b o zs):=by
 have hst:=run_storeCells_cells (P:=P) b o zs 0 w (by simpa using hc) (by simpa using hf) h1
 simp only[Nat.add_zero] at hst;obtain⟨m,rfl⟩:∃ m,n=m+1:=⟨n - 1,by omega⟩
 simp[Builtin.clear_,run_underlying ht,hv,hzs,hst]
theorem cell_of{w:World}{b o:Nat}{cur:List Value}{T:TypeId}(h:w.heap[b]? =some (.cells cur.toArray T (0,0))):w.cell? ⟨b,o,none⟩=cur[o]? :=by simp[World.cell?,h]
theorem LW{w:World}{b o:Nat}{cur:List Value}{T:TypeId}(h:w.heap[b]? =some (.cells cur.toArray T (0,0))):w.frozen? ⟨b,o,none⟩=false:=by simp[z2a,h]
structure as3(P:Program)(f:FuncId)(k:Nat):Prop where
 ok:iF P f=true
 QJ:∀ (b cap n i j:Nat) (T:TypeId) (cur:List Value) (w:World),w.heap[b]? =some (.cells cur.toArray T (0,0))->cur.length=cap*k->cap<=maxLen->n<=cap->i<=j->j<=n->(∀ t u,t<n*k->cur[t]? =some u->u.oneCell'=true)->
  Calls P f #[.slice (some ⟨b,0,none⟩) n cap, .int .i64 i, .int .i64 j] w λe w'=>e= .returned (.slice (some ⟨b,0,none⟩) (n - (j - i)) cap)/\
   (w.grownBy w' (some b)/\w.drawn<=w'.drawn)/\∃ cs':List Value,w'.heap[b]? =some (.cells cs'.toArray T (0,0))/\cs'.length=cap*k/\∀ t,t< (n - (j - i))*k->cs'[t]? =if t<i*k then cur[t]? else cur[t+(j - i)*k]?
theorem VG{cur cs:List Value}{a b k:Nat}(ha:a+k<=cur.length)(hb:b+k<=cs.length)(h:∀ t,t<k->cs[b+t]? =cur[a+t]?):sub cs b k=sub cur a k:=by
 apply z0t;intro t;unfold sub;rw[z0b,z0b];split
 ·rename_i ht;rw[z0c,z0c,h t ht]
 ·rfl
universe u v
def yI{α:Type u}(l:List α)(i j:Nat):List α:=l.take i++l.drop j
theorem Fj{α:Type u}{l:List α}{i j:Nat}(hij:i<=j)(hj:j<=l.length):(yI l i j).length=l.length - (j - i):=by simp[yI];omega
theorem afn{α:Type u}{β:Type v}(f:α->β)(l:List α)(i j:Nat):yI (l.map f) i j=(yI l i j).map f:=by simp[yI,List.map_take,List.map_drop]
theorem aaQ{l:List SV}{i j:Nat}(hij:i<=j)(hj:j<=l.length){t:Nat}(ht:t< (yI l i j).length):(yI l i j).getD t .junk=l.getD (if t<i then t else t+(j - i)) .junk:=by
 unfold yI;simp only[z08];rw[z0n];have h1:(z1c i l).length=i:=by simp;omega
 rw[h1];split
 ·rename_i h2;rw[z0b,if_pos h2]
 ·rw[z0c]
  congr 2;omega
theorem afo{f:FuncId}{k:Nat}(H:as3 P f k){m:List ay}{i n:Nat}{T:TypeId}{l:List SV}(hm:ah m i= .vec T k l)(hn:n=l.length)(h1:∀ x∈l,∀ (J:Env) (cs:List Value),au x J cs->∀ v∈cs,v.oneCell'=true)(a b:Int)(ha:0<=a)(hab:a<=b)(hb:b<=l.length)(hne:0<l.length)(hk:0<k):
  iU P f [.vec i n, .int .i64 a, .int .i64 b] m (.vec m.length (l.length - (b.toNat - a.toNat))) (m.set i .dead++[.vec T k (yI l a.toNat b.toNat)]):=by
 intro β J vs w hi hs;obtain⟨t0,rfl,q1,q2⟩:=Io hs;obtain⟨t1,rfl,q3⟩:=QY q2;obtain⟨t2,rfl,q4⟩:=QY q3;simp only[bg] at q4;subst q4;clear hs q2 q3;obtain⟨A,rfl⟩:∃ A:Nat,a=A:=⟨a.toNat,by omega⟩
 obtain⟨B,rfl⟩:∃ B:Nat,b=B:=⟨b.toNat,by omega⟩
 have hAB:A<=B:=by omega
 have hB:B<=l.length:=by omega
 simp only[Int.toNat_natCast];rcases Oe hi.good hm q1 (by simpa using hn) with⟨e,hl⟩|⟨g,cap,cur,e,hc,hle,hcap,hcl,hg0,hel⟩
 ·rw[hl] at hne;cases hne
 ·have hcells:∀ t u,t<l.length*k->cur[t]? =some u->u.oneCell'=true:=by
   intro t u ht hu;have hq:t/k<l.length:=(Nat.div_lt_iff_lt_mul hk).2 ht;have h:=hel (t/k) hq;have hmem:l.getD (t/k) .junk∈l:=by simp only[z08,z01 hq,z0l];exact List.getElem_mem _
   refine h1 _ hmem J _ h u ?_;have hmod:t%k<k:=Nat.mod_lt _ hk;have hget:(sub cur (t/k*k) k)[t%k]? =some u:=by
    unfold sub;rw[z0b,if_pos hmod,z0c,show t/k*k+t%k=t from by rw[Nat.mul_comm];exact Nat.div_add_mod t k]
    exact hu
   exact z0m hget
  rw[e];refine(H.QJ g cap l.length A B T cur w hc hcl hcap hle hAB hB hcells).mono λe' w' ⟨he,⟨hg,hd'⟩,cs',hn',hcl',hget⟩=> ?_;have hdl:=Fj (l:=l) hAB hB;have hI:=hi.take (l':=yI l A B) hm e hcap (by omega) hcl' (λj hj=> ?_) hg hd' hn'
  ·refine⟨_,J.more 0 (.slice (some ⟨g,0,none⟩) (yI l A B).length cap),he,J.dJ _ _,?_,hI⟩;have:=Ip (J:=J) (m:=m) (k:=(yI l A B).length) (v:= .slice (some ⟨g,0,none⟩) (yI l A B).length cap) hi.good.n (.inr ⟨g,cap,rfl,by omega⟩)
   rwa [hdl] at this ⊢
  ·rw[aaQ hAB hB hj];have hj':(if j<A then j else j+(B - A))<l.length:=by split<;>omega
   have:=hel _ hj';have e2:sub cs' (j*k) k=sub cur ((if j<A then j else j+(B - A))*k) k:=by
    have hm1:j*k+k<=(l.length - (B - A))*k:=by rw[<- z0u];exact z09 _ (by omega)
    have hm2:(l.length - (B - A))*k<=cap*k:=z09 _ (by omega)
    have hm3:(if j<A then j else j+(B - A))*k+k<=cap*k:=by rw[<- z0u];exact z09 _ (by omega)
    refine VG (by omega) (by omega) λt ht=> ?_
    rw[hget _ (by omega)]
    by_cases hjA:j<A
    ·have:j*k+k<=A*k:=by rw[<- z0u];exact z09 _ hjA
     rw[if_pos hjA,if_pos (by omega)]
    ·have:A*k<=j*k:=z09 _ (by omega)
     rw[if_neg hjA,if_neg (by omega)]
     congr 1
     rw[Nat.add_mul];omega
   rw[e2];exact this
def Bo{α:Type}(d:DT α)(l:List SV):List α:=l.map (d.aG [])
theorem afp{α:Type}(d:DT α)(zs:List α):Bo d (zs.map d.aA)=zs:=by
 unfold Bo;rw[z1f]
 conv=>rhs;rw[<- z1l zs]
 apply z0p;intro x _;exact d.vE [] x
def QZ{α:Type}(d:DT α):Prop:= ∀ (x:α) (J:Env) (cs:List Value),au (d.aA x) J cs->∀ v∈cs,v.oneCell'=true
def FH.de(f:FuncId){α:Type}(d:DT α)(k:Nat)(Γ:FH):FH:=
 FH.on f (λargs m=>match args with
  |[x, .int .i64 a, .int .i64 b]=>match x with
   | .vec i n=>match ah m i with
    | .vec T w l=> .is (w=k/\(Bo d l).map d.aA=l/\n=(Bo d l).length/\0<=a/\a<=b/\b<=(Bo d l).length/\0< (Bo d l).length) (.vec m.length ((Bo d l).length - (b.toNat - a.toNat))) (m.set i .dead++[.vec T k ((yI (Bo d l) a.toNat b.toNat).map d.aA)])
    |_=> .no
   |_=> .no
  |_=> .no) Γ
theorem FH.axL{f:FuncId}{α:Type}{d:DT α}{k:Nat}{Γ:FH}(H:as3 P f k)(h1:QZ d)(hk:0<k)(hΓ:aW P Γ):aW P (FH.de f d k Γ):=
 FH.xU (λargs m=>by
  split
  ·split
   ·split
    ·rename_i a b _ i n _ T w l hm;rintro⟨rfl,h2,h3,h4,h5,h6,h7⟩;refine⟨H.ok,?_⟩;generalize Bo d l=z at h2 h3 h6 h7 ⊢;subst h2;have:=afo H hm (n:=n) (by simpa using h3) (λx hx J cs hs=>by obtain⟨y,_,rfl⟩:=z0s.1 hx;exact h1 y J cs hs) a b h4 h5 (by simpa using h6) (by simpa using h7) hk
     rwa [z0z,afn] at this
    ·trivial
   ·trivial
  ·trivial) hΓ
namespace W
theorem axM(f:FuncId){α:Type}(d:DT α)(k:Nat)(Γ:FH)(g:FuncId)(i n:Nat)(a b:Int)(m:List ay):
  FH.de f d k Γ g [.vec i n, .int .i64 a, .int .i64 b] m=if g=f then(match ah m i with
    | .vec T w l=> .is (w=k/\(Bo d l).map d.aA=l/\n=(Bo d l).length/\0<=a/\a<=b/\b<=(Bo d l).length/\0< (Bo d l).length) (.vec m.length ((Bo d l).length - (b.toNat - a.toNat))) (m.set i .dead++[.vec T k ((yI (Bo d l) a.toNat b.toNat).map d.aA)])
    |_=> .no) else Γ g [.vec i n, .int .i64 a, .int .i64 b] m:=nr rfl
theorem aaR(f:FuncId){α:Type}(d:DT α)(k:Nat)(Γ:FH)(g:FuncId)(args:List SV)(m:List ay)(h:g≠f):
  FH.de f d k Γ g args m=Γ g args m:=nr (if_neg h)
end W
attribute [go_sem ↓] W.axM W.aaR
attribute [go_sem] afp
theorem FnOK.hold{f:FuncId}{args:List SV}{m1:List ay}{x:SV}{α:Type}(d:DT α)(h:FnOK P f args [] x m1)(hp:d.decP m1 x)(hx:x.isVal=true):FnOK P f args [] (d.aA (d.aG m1 x)) []:=by
 intro J w vs g hs;refine(h J w vs g hs).mono λe w' ⟨v,J',he,hv,hi⟩=> ?_;have k:=hi.freeze;have k2:=k.sel [] z15 (λi hi'=>by rw[show(⟨w,J,λb=> ∃ i,aN J i (ah [] i)=some b⟩:Base).J.n=0 from g.n] at hi';exact absurd hi' (z0h _))
 refine⟨v,_,he,?_,k2⟩;have hv':∃ cs,au x J' cs/\v=boxed x.isAgg cs:=by cases x<;>first|exact hv|cases hx
 obtain⟨cs,h1,h2⟩:=hv';have h3:=d.ok hi.good hp h1;have h4:au (d.aA (d.aG m1 x)) (lU [] (gq J' m1 w')) cs:=au.mono _ (J:=(gq J' m1 w').cl) ⟨z04 _,λ_ h=>absurd h (z0h _),λ_ h=>absurd h (z0h _),λ_ _ h=>h⟩ h3;have h5:=d.agg hp;have h6:=d.val (d.aG m1 x);generalize d.aA (d.aG m1 x)=y at h4 h5 h6 ⊢;have:∃ cs,au y (lU [] (gq J' m1 w')) cs/\v=boxed y.isAgg cs:=⟨cs,h4,by rw[h5];exact h2⟩
 cases y<;>first|exact this|cases h6
theorem FnOK.holdL{f:FuncId}{args:List SV}{T:TypeId}{wd':Nat}{α:Type}{d:DT α}{l:List α}(h:FnOK P f args [] (.vec 0 l.length) [.vec T wd' (l.map d.aA)]):FnOK P f args [] ((DT.list wd' d).aA l) []:=by
 have e:(DT.list wd' d).aG [.vec T wd' (l.map d.aA)] (.vec 0 l.length)=l:=by
  rw[kU];simp only[ah,z1p,z1f]
  conv=>rhs;rw[<- z1l l]
  apply z0p;intro x _;exact d.vE _ x
 have hp:(DT.list wd' d).decP [.vec T wd' (l.map d.aA)] (.vec 0 l.length):=by rw[kT];simp only[ah,z1p];refine⟨trivial,λy hy=> ?_⟩;obtain⟨z,_,rfl⟩:=z0s.1 hy;exact d.pE _ z
 have:=FnOK.hold (DT.list wd' d) h hp rfl
 rwa [e] at this
end Go.Sx
namespace Go.Sx
open Go
variable {P:Program}
def DT.sum{α β:Type}(t1 t2:TypeId)(a:DT α)(b:DT β)(hne:t2≠t1):DT (α ⊕ β) where
 aI:= .inl a.aI
 aA:=λy=>match y with
  | .inl x=> .iface t1 (a.aA x)
  | .inr x=> .iface t2 (b.aA x)
 aG:=λm x=>match x with
  | .iface t y=>if t=t1 then .inl (a.aG m y) else .inr (b.aG m y)
  |_=> .inl a.aI
 decP:=λm x=>match x with
  | .iface t y=>if t=t1 then a.decP m y else(t=t2/\b.decP m y)
  |_=>False
 ok:=fun{J m w} g {x} h {cs} hs=>by
  cases x with
  |iface t y=>
   simp only at h ⊢;simp only[au] at hs;obtain⟨xs,h1,h2⟩:=hs;by_cases e:t=t1
   ·rw[if_pos e] at h ⊢;simp only[au];exact⟨xs,a.ok g h h1,by rw[h2,a.agg h,e]⟩
   ·rw[if_neg e] at h ⊢;simp only[au];exact⟨xs,b.ok g h.2 h1,by rw[h2,b.agg h.2,h.1]⟩
  |_=>exact h.elim
 agg:=fun{m x} h=>by
  cases x with
  |iface t y=>
   simp only;by_cases e:t=t1
   ·rw[if_pos e];rfl
   ·rw[if_neg e];rfl
  |_=>exact h.elim
 vE:=λm y=>by
  cases y with
  |inl x=>simp[a.vE]
  |inr x=>simp[b.vE,hne]
 pE:=λm y=>by
  cases y with
  |inl x=>simp[a.pE]
  |inr x=>simp[b.pE,hne]
 ren:=λr y=>by cases y<;>simp only[Sx.ren,a.ren,b.ren]
 kill:=λi y=>by cases y<;>simp only[Sx.kill,a.kill,b.kill]
 val:=λy=>by cases y<;>rfl
theorem zX{t:TypeId}{x:SV}(h:Ir x):Ir (.iface t x):=by intro J J' cs h1 h2 h3 hc;simp only[au] at hc ⊢;obtain⟨xs,k1,k2⟩:=hc;exact⟨xs,h J J' xs h1 h2 h3 k1,k2⟩
instance {α β:Type}{t1 t2:TypeId}{a:DT α}{b:DT β}{hne:t2≠t1}[ha:Flat a][hb:Flat b]:Flat (DT.sum t1 t2 a b hne):=⟨λy=>by
 cases y with
 |inl x=>exact zX (ha.noH x)
 |inr x=>exact zX (hb.noH x)⟩
theorem amO{α β:Type}(t1 t2:TypeId)(a:DT α)(b:DT β)(hne:t2≠t1)(x:α):(DT.sum t1 t2 a b hne).aA (.inl x)= .iface t1 (a.aA x):=nr rfl
theorem amP{α β:Type}(t1 t2:TypeId)(a:DT α)(b:DT β)(hne:t2≠t1)(x:β):(DT.sum t1 t2 a b hne).aA (.inr x)= .iface t2 (b.aA x):=nr rfl
theorem afq{α β:Type}(t1 t2:TypeId)(a:DT α)(b:DT β)(hne:t2≠t1)(m:List ay)(t:TypeId)(y:SV):(DT.sum t1 t2 a b hne).aG m (.iface t y)=if t=t1 then .inl (a.aG m y) else .inr (b.aG m y):=nr rfl
theorem afr{α β:Type}(t1 t2:TypeId)(a:DT α)(b:DT β)(hne:t2≠t1)(m:List ay)(t:TypeId)(y:SV):(DT.sum t1 t2 a b hne).decP m (.iface t y)=if t=t1 then a.decP m y else(t=t2/\b.decP m y):=nr rfl
attribute [go_sem] amO amP afq afr
end Go.Sx
namespace Go.Sx
open Go
open Go.ChangeMaps (setBlock)
variable {P:Program}
inductive ZI:Type 1 where
 |leaf (x:IC)
 |seq (a b:ZI)
 |cond (x:aS) (a b:ZI)
 |block (id:Nat) (c:ZI)
 |EN (l1:List dA) (x:aS) (it out nx more EY pair:Nat) (l2:List dA) (b:IC)
inductive ZC:Type 1 where
 |leaf (x:JC)
 |seq (a b:ZC)
 |cond (x:aS) (a b:ZC)
 |block (id:Nat) (c:ZC)
 |prune (ks:List Nat) (c:ZC)
 |EN (l1:SL) (x:aS) (it out nx more EY pair:Nat) (l2:SL) (keep mod:List Nat) (b:JC)
 |aex (k n:Nat) (E:TypeId) (w:Nat) (c:ZC)
 |aey (l:List (Nat×Ht)) (c:ZC)
def ZC.flat:ZC->ZI
 | .leaf x=> .leaf x.flat
 | .seq a b=> .seq a.flat b.flat
 | .cond x a b=> .cond x a.flat b.flat
 | .block id c=> .block id c.flat
 | .prune _ c=>c.flat
 | .aex _ _ _ _ c=>c.flat
 | .aey _ c=>c.flat
 | .EN l1 x it out nx more EY pair l2 _ _ b=> .EN (l1.flat none) x it out nx more EY pair (l2.flat none) b.flat
def ZC.wf(n:Nat):ZC->Bool
 | .leaf x=>x.wf n
 | .seq a b| .cond _ a b=>a.wf n&&b.wf n
 | .block _ c=>c.wf n
 | .prune _ c=>c.wf n
 | .aex _ _ _ _ c=>c.wf n
 | .aey l c=>l.all (λp=>decide (p.1<n))&&c.wf n
 | .EN l1 _ it _ nx more _ pair l2 keep mod b=>l1.wf n&&l2.wf n&&decide (it<n)&&decide (nx<n)&&decide (more<n)&&decide (pair<n)&& !decide (it=nx)&& !decide (it=more)&& !decide (it=pair)&&(keep++mod).all (λk=> !decide (k=nx)&& !decide (k=more)&& !decide (k=pair)&& !decide (k=it))&&b.wf n
def rgOps(P:Program)(ops:Array Oper):Option (List dA×aS×Nat):=match ops.toList.getLast? with
 |some o=>match o.op,o.dst,o.guard with
  | .range T x,some it,none=>match P.underlying T,aQ x,ops.toList.dropLast.mapM (bW P ops) with
   |some (.map _ _),some x,some l=>some (l,x,it)
   |_,_,_=>none
  |_,_,_=>none
 |none=>none
def Uz(ops:Array Oper):Option (Nat×Nat×Nat):=match ops.toList with
 |[o1,o2]=>match o1.op,o1.dst,o1.guard with
  | .next (.tmp it) false,some nx,none=>match o2.op,o2.dst,o2.guard with
   | .extract (.tmp a) 0,some more,none=>if a=nx then some (it,nx,more) else none
   |_,_,_=>none
  |_,_,_=>none
 |_=>none
def UA(P:Program)(ops:Array Oper):Option (Nat×Nat×List dA):=match ops.toList with
 |o::r=>match o.op,o.dst,o.guard with
  | .entry (.tmp it),some pair,none=>(r.mapM (bW P ops)).map λl=>(it,pair,l)
  |_,_,_=>none
 |_=>none
def ZC.comp(P:Program)(quiet:FuncId->Bool):ZC->Code->Option ZI
 | .leaf _,c=>(Sx.comp P quiet c).map .leaf
 | .seq a b,c=>match c with
  | .seq x y=>match a.comp P quiet x,b.comp P quiet y with
   |some x,some y=>some (.seq x y)
   |_,_=>none
  |_=>none
 | .cond _ a b,c=>match c with
  | .cond x y z=>match aQ x,a.comp P quiet y,b.comp P quiet z with
   |some x,some y,some z=>some (.cond x y z)
   |_,_,_=>none
  |_=>none
 | .block _ a,c=>match c with
  | .block id c=>(a.comp P quiet c).map (.block id)
  |_=>none
 | .prune _ a,c=>a.comp P quiet c
 | .aex _ _ _ _ a,c=>a.comp P quiet c
 | .aey _ a,c=>a.comp P quiet c
 | .EN _ _ _ _ _ _ _ _ _ _ _ b,c=>match c with
  | .seq (.region _ ale false) (.block out (.loop (.seq (.region _ ops2 false) (.seq (.cond (.tmp more') .skip (.exit out')) (.block EY (.seq (.region _ ops3 false) y))))))=>match rgOps P ale,Uz ops2,UA P ops3,Sx.comp P quiet y with
   |some (l1,x,it),some (it1,nx,more),some (it2,pair,l2),some y=>if it1=it/\it2=it/\more'=more/\out'=out then some (.EN l1 x it out nx more EY pair l2 y) else none
   |_,_,_,_=>none
  |_=>none
def mZ{ι:Type}(it:Nat)(keep mod:List Nat)(U:ι->List SV)(M:ι->List ay)(ok:List Nat->ι->Prop)(ds:List Nat)(q:Nat)(s:ι)(iv:Value)(O O':Fr)(m':List ay):Prop:=
 ∃ s',ok (ds++[q]) s'/\(M s).length<=(M s').length/\look it O'= .raw iv/\atR (ug (M s').length) mod (U s') O'/\xX (ug (M s').length) O O' keep/\(m'.take (M s').length).map (dM (ug (M s').length))=M s'
def UC(k n:Nat)(E:TypeId)(w:Nat)(K:List ay->Prop)(O:Fr)(m:List ay):Prop:=match look k O with
 | .ptr i [] 0=>match ah m i with
  | .blk T (.arr n' w' f)=>(n'=n/\w'=1/\∀ j,j<n->f j= .bF)/\K (m.set i (.blk T (.arr n 1 λj=>if j<n then .vec (m.length+j) 0 else .junk))++z0a n (.vec E w []))
  |_=>False
 |_=>False
def alf(m:List ay)(O:Fr):List (Nat×Ht)->Prop
 |[]=>True
 |p::r=>p.2.P m (look p.1 O)/\alf m O r
def alg(m:List ay)(O:Fr):List (Nat×Ht)->Fr->Fr
 |[],O'=>O'
 |p::r,O'=> .put p.1 (p.2.dec m (look p.1 O)) (alg m O r O')
def ZC.wp(Γ:FH)(n0:Nat):ZC->(Ex->Fr->List ay->Prop)->Fr->List ay->Prop
 | .leaf x,Q,O,m=>x.wp Γ n0 Q O m
 | .seq a b,Q,O,m=>a.wp Γ n0 (λe O' m'=>match e with
  | .norm=>b.wp Γ n0 Q O' m'
  |e=>Q e O' m') O m
 | .cond x a b,Q,O,m=>match x.fv O with
  | .bool t=>(t=true->a.wp Γ n0 Q O m)/\(t=false->b.wp Γ n0 Q O m)
  | .lV=>a.wp Γ n0 Q O m/\b.wp Γ n0 Q O m
  |_=>False
 | .block id c,Q,O,m=>c.wp Γ n0 (λe O' m'=>match e with
  | .exit i=>if i=id then Q .norm O' m' else Q (.exit i) O' m'
  |e=>Q e O' m') O m
 | .prune ks c,Q,O,m=>c.wp Γ n0 Q (aX ks O) m
 | .aex k n E w c,Q,O,m=>UC k n E w (λm'=>c.wp Γ n0 Q O m') O m
 | .aey l c,Q,O,m=>alf m O l/\c.wp Γ n0 Q (alg m O l O) (iw m)
 | .EN l1 x it out nx more EY pair l2 keep mod b,Q,O,m=>l1.wp Γ false (λO m=>match x.fv O with
  | .map i=>match ah m i with
   | .mp ek ev l=> ∃ (ι:Type) (U:ι->List SV) (M:ι->List ay) (ok:List Nat->ι->Prop) (s0:ι),ok [] s0/\V4 mod (U s0) O/\M s0=m.set i .dead/\
    (∀ ds s q,ok ds s->ds.Nodup->(∀ d,d∈ds->d<l.length)->q<l.length->q∉ds->∀ iv:Value,
     l2.wp Γ false (λO' m'=>b.wp Γ (M s).length (λe O' m'=>match e with
      | .norm=>mZ it keep mod U M ok ds q s iv O O' m'
      | .exit k=>if k=EY then mZ it keep mod U M ok ds q s iv O O' m' else if k=out then Q .norm O' m' else Q (.exit k) O' m'
      | .ret=>Q .ret O' m') O' m') (.put pair (.bK [(l.getD q (.junk, .junk)).1,(l.getD q (.junk, .junk)).2]) (.put it (.raw iv) (qp mod (U s) (aX keep O)))) (M s))/\
    (∀ ds s,ok ds s->ds.Nodup->(∀ d,d∈ds->d<l.length)->(∀ q,q<l.length->q∈ds)->Q .norm (qp mod (U s) (aX keep O)) (M s))
   |_=>False
  |_=>False) O m
theorem aJ.aa7{n:Nat}{J:Env}{O:Fr}{a:Act}(h:aJ n J O a){k:Nat}(hk:k<n){sv:SV}{v:Value}(hv:bM J sv v):aJ n J (.put k sv O) (a.put (some k) v):=by obtain⟨σ,h1,h2⟩:=h;exact⟨σ.set k sv,h1.put hk (Le.refl _),aH.put h2 hv (some k)⟩
theorem Inv.asL{β:Base}{J:Env}{m:List ay}{w:World}(h:Inv β J m w)(i:Nat):Inv β J (m.set i .dead) w:=by
 rcases z0v i m.length with hi|hi
 ·exact h.QJ hi trivial nofun nofun (λ_ _=>rfl) rfl ⟨rfl,rfl,rfl,rfl⟩
 ·rw[List.set_eq_of_length_le hi];exact h
section steps
variable {w:World} {ops:Array Oper} {rest:List Oper} {o:Oper} {a:Act} {Q:Exit->Act->World->Prop}
theorem LD(hg:o.guard=none){T k e:TypeId}{x:Operand}(hop:o.op=Op.range T x)(hT:P.underlying T=some (.map k e)){mb:Nat}{es:Array MapEntry}{cl:Nat}(hm:a.eval x= .map (some mb))(hb:w.heap[mb]? =some (.map es cl))
  (hK:wpList P ops Q rest (a.put o.dst (.pointer (some ⟨w.heap.size,0,none⟩))) (w.alloc (.mapIter (some mb) cl #[] cl))):wpList P ops Q (o::rest) a w:=by
 refine wpList_plain hg λK' hK'=> ?_;unfold z0r;simp[execOp,hop,hm,run_range_map w T k e mb es cl hT hb,Result.andThen];exact hK' _ _ hK
theorem Qm(hg:o.guard=none){it:Operand}(hop:o.op=Op.next it false){r mb since c0:Nat}{seen:Array Nat}{es:Array MapEntry}{cl:Nat}(hit:a.eval it= .pointer (some ⟨r,0,none⟩))
  (hr:w.heap[r]? =some (.mapIter (some mb) since seen c0)) (hb:w.heap[mb]? =some (.map es cl)) (hold:∀ x∈es.toList,x.born<since) (hsc:since<=c0)
  (h0:(leftOf es seen).size=0->wpList P ops Q rest (a.put o.dst (.tuple #[.bool false])) w)
  (h1:∀ e∈(leftOf es seen).toList,∀ w1:World,(w1=w\/w1=w.drew)->wpList P ops Q rest (a.put o.dst (.tuple #[.bool true,e.key,e.val])) (setBlock w1 r (.mapIter (some mb) since (seen.push e.born) cl))):wpList P ops Q (o::rest) a w:=by
 refine wpList_plain hg λK' hK'=> ?_;unfold z0r;rcases run_next_at (P:=P) w o.type r mb since c0 seen es cl hr hb hold hsc with⟨k1,k2⟩|⟨e,he,w1,hw,k2⟩
 ·simp[execOp,hop,hit,k2,Result.andThen];exact hK' _ _ (h0 k1)
 ·simp[execOp,hop,hit,k2,Result.andThen];exact hK' _ _ (h1 e he w1 hw)
theorem LG(hg:o.guard=none){it:Operand}(hop:o.op=Op.entry it){r:Nat}{e:MapEntry}(hit:a.eval it= .pointer (some ⟨r,0,none⟩))(hrun:(Instr.entry (.pointer (some ⟨r,0,none⟩))).run P w= .ok (.tuple #[e.key,e.val]) w)
  (hK:wpList P ops Q rest (a.put o.dst (.tuple #[e.key,e.val])) w):wpList P ops Q (o::rest) a w:=by
 refine wpList_plain hg λK' hK'=> ?_;unfold z0r;simp[execOp,hop,hit,hrun,Result.andThen];exact hK' _ _ hK
theorem F8(hg:o.guard=none){x:Operand}{i:Nat}(hop:o.op=Op.extract x i){vs:Array Value}{v:Value}(hx:a.eval x= .tuple vs)(hv:vs[i]? =some v)(hK:wpList P ops Q rest (a.put o.dst v) w):wpList P ops Q (o::rest) a w:=by refine wpList_plain hg λK' hK'=> ?_;unfold z0r;simp[execOp,hop,hx,Instr.extract,hv];exact hK' _ _ hK
end steps
theorem alh{ops:Array Oper}{l:List dA}{x:aS}{it:Nat}(h:rgOps P ops=some (l,x,it)):∃ pre o T k e x',ops.toList=pre++[o]/\o.op= .range T x'/\o.dst=some it/\o.guard=none/\P.underlying T=some (.map k e)/\aQ x'=some x/\pre.mapM (bW P ops)=some l:=by
 unfold rgOps at h;split at h<;>try (cases h;done)
 rename_i o ho;split at h<;>try (cases h;done)
 rename_i T x' it' h1 h2 h3;split at h<;>try (cases h;done)
 rename_i k e x2 l2 g1 g2 g3;simp only[z00,z05] at h;obtain⟨rfl,rfl,rfl⟩:=h;refine⟨ops.toList.dropLast,o,T,_,_,x',?_,h1,h2,h3,g1,g2,g3⟩;obtain⟨ys,e⟩:=z1a.1 ho;rw[e];simp
theorem ali{ops:Array Oper}{it nx more:Nat}(h:Uz ops=some (it,nx,more)):∃ o1 o2,ops.toList=[o1,o2]/\o1.op= .next (.tmp it) false/\o1.dst=some nx/\o1.guard=none/\o2.op= .extract (.tmp nx) 0/\o2.dst=some more/\o2.guard=none:=by
 unfold Uz at h;split at h<;>try (cases h;done)
 rename_i o1 o2 ho;split at h<;>try (cases h;done)
 rename_i it' nx' h1 h2 h3;split at h<;>try (cases h;done)
 rename_i a' more' g1 g2 g3;split at h<;>try (cases h;done)
 rename_i e;simp only[z00,z05] at h;obtain⟨rfl,rfl,rfl⟩:=h;subst e;exact⟨o1,o2,ho,h1,h2,h3,g1,g2,g3⟩
theorem alj{ops:Array Oper}{it pair:Nat}{l:List dA}(h:UA P ops=some (it,pair,l)):∃ o r,ops.toList=o::r/\o.op= .entry (.tmp it)/\o.dst=some pair/\o.guard=none/\r.mapM (bW P ops)=some l:=by
 unfold UA at h;split at h<;>try (cases h;done)
 rename_i o r ho;split at h<;>try (cases h;done)
 rename_i it' pair' h1 h2 h3;simp only[z03] at h;obtain⟨l',hl,h⟩:=h;simp only[z05] at h;obtain⟨rfl,rfl,rfl⟩:=h;exact⟨o,r,ho,h1,h2,h3,hl⟩
theorem iQ{ops:Array Oper}{Q:Exit->Act->World->Prop}{β:Base}{Γ:Hook}(hΓ:fB P Γ){d:List Deferred}{r:List Oper}:∀ (l:List Oper) (aP:List dA) (σ:List SV) (m:List ay) (K:List SV->List ay->Prop),
  l.mapM (bW P ops)=some aP->rE Γ aP K σ m->(∀ σ' m' J' a' w',K σ' m'->Inv β J' m' w'->aH J' σ' a'->a'.defers=d->wpList P ops Q r a' w')->
  ∀ J a w,Inv β J m w->aH J σ a->a.defers=d->wpList P ops Q (l++r) a w
 |[],aP,σ,m,K,hc,h,hK,J,a,w,hi,hs,hd=>by
  simp at hc;subst hc;exact hK σ m J a w h hi hs hd
 |o::l,aP,σ,m,K,hc,h,hK,J,a,w,hi,hs,hd=>by
  simp only[z16,bind,z1t] at hc;obtain⟨io,ho,hc⟩:=bind_some hc;obtain⟨uT,hc',hc⟩:=bind_some hc;simp only[z00] at hc;subst hc;simp only[bW] at ho;split at ho<;>try (cases ho;done)
  rename_i g x hg hx;simp only[z00] at ho;subst ho;simp only[rE] at h;have go:∀ σ1,aH J σ1 a->opK Γ σ1 m (λσ' sv m'=>rE Γ uT K (iC o.dst sv σ') m') x->o.wp P a w (wpList P ops Q (l++r)) Q:=by intro σ1 hs1 h1;obtain⟨σ',sv,m',h2,hE⟩:=Ar hΓ hx h1;refine Oper.wp_mono ?_ (hE β J a w hi hs1 Q);rintro a' w' ⟨v,J',rfl,hv,hs',hi'⟩;exact iQ hΓ l uT _ _ K hc' h2 hK J' _ w' hi' (hs'.put hv o.dst) (by rw[put_defers];exact hd)
  rw[List.cons_append];cases g with
  |none=>
   have hgn:o.guard=none:=by
    cases hog:o.guard with
    |none=>rfl
    |some g=>rw[hog] at hg;simp only[qY] at hg;split at hg<;>cases hg
   refine wpList_step λK' hK'=> ?_;rw[if_pos (by simp[Region.wanted,hgn])]
   exact Oper.wp_mono (λa w h=>hK' a w h) (go σ hs h)
  |some g=>
   obtain⟨s,want⟩:=g;simp only[qQ] at h;split at h
   ·rename_i b hb;have hw:=wz hs hg hb;refine wpList_step λK' hK'=> ?_;rw[hw];by_cases hbw:b=want
    ·subst hbw;rw[if_pos (by simp)]
     exact Oper.wp_mono (λa w h=>hK' a w h) (go _ (hs.known hb) (h.1 rfl))
    ·have hbn:b= !want:=by cases b<;>cases want<;>first|rfl|exact absurd rfl hbw
     rw[if_neg (by simpa using hbw)]
     subst hbn;have hs2:=hs.known hb;exact hK' _ _ (iQ hΓ l uT _ _ K hc' (h.2 rfl) hK J _ w hi (aH.put (sv:= .bK []) (v:=undef) hs2 lQ o.dst) (by rw[put_defers];exact hd))
   ·rename_i hb;have hw:=rG hs hg hb;refine wpList_step λK' hK'=> ?_;rw[hw];rw[if_neg (by simp)]
    exact hK' _ _ (iQ hΓ l uT _ _ K hc' h hK J _ w hi (aH.put (sv:= .bK []) (v:=undef) hs lQ o.dst) (by rw[put_defers];exact hd))
   ·exact h.elim
theorem UD{w:World}{r:Nat}{o:Obj}:(setBlock w r o).os=w.os/\(setBlock w r o).tape=w.tape/\(setBlock w r o).output=w.output/\(setBlock w r o).heap.size=w.heap.size/\(∀ b,b≠r->(setBlock w r o).heap[b]? =w.heap[b]?)/\(r<w.heap.size->(setBlock w r o).heap[r]? =some o):=by refine⟨rfl,rfl,rfl,by simp[setBlock],λb hb=>by simp[setBlock,Ne.symm hb],λh=>by simp[setBlock,h]⟩
theorem UE{es:Array MapEntry}{seen:Array Nat}{ds:List Nat}(hn:(es.toList.map (·.born)).Nodup)(hs:seen.toList=ds.map λj=>(es.toList.map (·.born)).getD j 0)(hd:∀ d,d∈ds->d<es.size){e:MapEntry}:
  e∈(leftOf es seen).toList↔∃ q,q<es.size/\q∉ds/\es.toList[q]? =some e:=by
 unfold leftOf;rw[Array.toList_filter,List.mem_filter];have hsn:∀ b,seen.contains b=true↔b∈seen.toList:=λb=>by simp
 have hat:∀ {q:Nat} {e:MapEntry},es.toList[q]? =some e->(es.toList.map (·.born)).getD q 0=e.born:=fun{q e} h=>by simp[z08,h]
 constructor
 ·rintro⟨h1,h2⟩;obtain⟨q,hq,rfl⟩:=List.mem_iff_getElem.1 h1;refine⟨q,by simpa using hq,λhqd=> ?_,z01 hq⟩
  have:seen.contains (es.toList[q]).born=true:=by rw[hsn,hs];exact z0s.2 ⟨q,hqd,hat (z01 hq)⟩
  simp only[this,Bool.not_true,Bool.false_eq_true] at h2
 ·rintro⟨q,h1,h2,h3⟩;refine⟨z0m h3,?_⟩;cases hc:seen.contains e.born with
  |false=>rfl
  |true=>
   rw[hsn,hs] at hc;obtain⟨j,hj,e1⟩:=z0s.1 hc;have hjl:=hd j hj;have aCf:j< (es.toList.map (·.born)).length:=by simpa using hjl
   have azm:q< (es.toList.map (·.born)).length:=by simpa using h1
   have e2:(es.toList.map (·.born))[j]=(es.toList.map (·.born))[q]:=by
    have a1:(es.toList.map (·.born)).getD j 0=(es.toList.map (·.born))[j]:=by simp only[z08,z01 aCf,z0l]
    have a2:(es.toList.map (·.born)).getD q 0=(es.toList.map (·.born))[q]:=by simp only[z08,z01 azm,z0l]
    rw[<- a1,<- a2,e1,hat h3]
   have:=(List.getElem_inj hn).1 e2;subst this;exact absurd hj h2
theorem aqd{ek ev:ES}{l:List (SV×SV)}{es:List MapEntry}(h:gZ ek ev l es){q:Nat}{e:MapEntry}(he:es[q]? =some e):q<l.length/\Nj ek ev (l.getD q (.junk, .junk)) e:=by
 have hlen:=h.len;have hq:q<es.length:=(z0j.1 he).1;have hl:q<l.length:=by omega
 obtain⟨e',h1,h2⟩:=h.at (z01 hl);rw[he] at h1;cases h1;refine⟨hl,?_⟩;rw[show l.getD q (.junk, .junk)=l[q] by simp[z08,hl]]
 exact h2
theorem ZC.su{quiet:FuncId->Bool}{a b:ZC}{c:Code}{z:ZI}(h:(ZC.seq a b).comp P quiet c=some z):∃ x y x' y',c= .seq x y/\a.comp P quiet x=some x'/\b.comp P quiet y=some y'/\z= .seq x' y':=by
 cases c<;>simp only[ZC.comp] at h<;>try (cases h;done)
 split at h<;>try (cases h;done)
 rename_i h1 h2;cases h;exact⟨_,_,_,_,rfl,h1,h2,rfl⟩
theorem ZC.lN{quiet:FuncId->Bool}{x0:aS}{a b:ZC}{c:Code}{z:ZI}(h:(ZC.cond x0 a b).comp P quiet c=some z):∃ x y w x' y' w',c= .cond x y w/\aQ x=some x'/\a.comp P quiet y=some y'/\b.comp P quiet w=some w'/\z= .cond x' y' w':=by
 cases c<;>simp only[ZC.comp] at h<;>try (cases h;done)
 split at h<;>try (cases h;done)
 rename_i h1 h2 h3;cases h;exact⟨_,_,_,_,_,_,rfl,h1,h2,h3,rfl⟩
theorem ZC.lH{quiet:FuncId->Bool}{id0:Nat}{a:ZC}{c:Code}{z:ZI}(h:(ZC.block id0 a).comp P quiet c=some z):∃ id x x',c= .block id x/\a.comp P quiet x=some x'/\z= .block id x':=by
 cases c<;>simp only[ZC.comp] at h<;>try (cases h;done)
 simp only[z03] at h;obtain⟨x',h1,rfl⟩:=h;exact⟨_,_,_,rfl,h1,rfl⟩
theorem ZC.aez{quiet:FuncId->Bool}{l10:SL}{x0:aS}{it0 aCg nx0 more0 aCh azn:Nat}{l20:SL}{keep mod:List Nat}{b:JC}{c:Code}{z:ZI}(h:(ZC.EN l10 x0 it0 aCg nx0 more0 aCh azn l20 keep mod b).comp P quiet c=some z):
  ∃ i1 i2 i3 ale ops2 ops3 out EY y l1 x it nx more pair l2 y',c= .seq (.region i1 ale false) (.block out (.loop (.seq (.region i2 ops2 false) (.seq (.cond (.tmp more) .skip (.exit out)) (.block EY (.seq (.region i3 ops3 false) y))))))/\
   rgOps P ale=some (l1,x,it)/\Uz ops2=some (it,nx,more)/\UA P ops3=some (it,pair,l2)/\Sx.comp P quiet y=some y'/\z= .EN l1 x it out nx more EY pair l2 y':=by
 unfold ZC.comp at h;split at h<;>try (cases h;done)
 split at h<;>try (cases h;done)
 rename_i h1 h2 h3 h4;split at h<;>try (cases h;done)
 rename_i hc;obtain⟨rfl,rfl,rfl,rfl⟩:=hc;cases h;exact⟨_,_,_,_,_,_,_,_,_,_,_,_,_,_,_,_,_,rfl,h1,h2,h3,h4,rfl⟩
structure Iter(β:Base)(J:Env)(m:List ay)(w:World)(r mb cl:Nat)(es:Array MapEntry)(ds:List Nat):Prop where
 it:∃ seen c0,w.heap[r]? =some (.mapIter (some mb) cl seen c0)/\cl<=c0/\seen.toList=ds.map λj=>(es.toList.map (·.born)).getD j 0
 map:w.heap[mb]? =some (.map es cl)
 r0:β.w.heap.size<=r
 rc:Clear ⟨w,J,ownB J m⟩ r
 mc:Clear ⟨w,J,ownB J m⟩ mb
 ne:r≠mb
theorem JX:∀ {ks:List Nat} {xs:List SV} {O:Fr} {k:Nat},k∉ks->look k (qp ks xs O)=look k O\/look k (qp ks xs O)= .junk
 |[],[],O,k,_=> .inl rfl
 |[],_::_,O,k,_=>by simp[qp]
 |j::ks,[],O,k,_=>by simp[qp]
 |j::ks,x::xs,O,k,h=>by
  simp only[qp,look];rw[if_neg (λe=>h (by rw[e];exact z1s ..))]
  exact JX (λe=>h (z1j _ e))
theorem uV:∀ {ks:List Nat} {O:Fr} {k:Nat},k∉ks->look k (aX ks O)= .junk
 |[],O,k,_=>rfl
 |j::ks,O,k,h=>by
  simp only[aX,look];rw[if_neg (λe=>h (by rw[e];exact z1s ..))]
  exact uV (λe=>h (z1j _ e))
theorem aJ.other{n:Nat}{J:Env}{O:Fr}{a:Act}(h:aJ n J O a){k:Nat}(hk:look k O= .junk)(v:Value):aJ n J O (a.put (some k) v):=by
 obtain⟨σ,h1,h2⟩:=h;refine⟨σ.set k .junk,⟨by simp[h1.1],λj=> ?_⟩,aH.put (sv:= .junk) (v:=v) h2 trivial (some k)⟩
 by_cases e:j=k
 ·subst e;exact .inl hk
 ·rw[getD_set_ne e];exact h1.2 j
def JY(n:Nat)(ds:List Nat):Nat:=((z14 n).filter λi=> !ds.contains i).length
theorem aeA{n q:Nat}{ds:List Nat}(hq:q<n)(hd:q∉ds):JY n (ds++[q])<JY n ds:=by
 unfold JY;have e:(z14 n).filter (λi=> !(ds++[q]).contains i)=((z14 n).filter λi=> !ds.contains i).filter λi=> !decide (i=q):=by
  rw[List.filter_filter]
  congr 1
  funext i
  by_cases h1:i∈ds<;>by_cases h2:i=q<;>simp[h1,h2]
 rw[e,List.length_filter_lt_length_iff_exists];exact⟨q,by simp[hq,hd],by simp⟩
theorem UF{Γ:FH}(hΓ:aW P Γ){quiet:FuncId->Bool}{n:Nat}{β:Base}(hb:β.J.n=0){d:List Deferred}{ops2 ops3:Array Oper}{i2 i3 out EY it nx more pair:Nat}{y:Code}{l2:SL}{b:JC}{keep mod:List Nat}{ek ev:ES}{l:List (SV×SV)}
  (hn2:Uz ops2=some (it,nx,more)) (hn3:UA P ops3=some (it,pair,l2.flat none)) (hy:Sx.comp P quiet y=some b.flat) (hw2:l2.wf n=true) (hwb:b.wf n=true) (hit:it<n) (hnx:nx<n) (hmo:more<n) (hpa:pair<n) (hne:it≠nx/\it≠more/\it≠pair)
  {Q:Ex->Fr->List ay->Prop} {O:Fr} {ι:Type} {U:ι->List SV} {M:ι->List ay} {ok:List Nat->ι->Prop}
  (sD:∀ ds s q,ok ds s->ds.Nodup->(∀ d,d∈ds->d<l.length)->q<l.length->q∉ds->∀ iv:Value,
     l2.wp Γ false (λO' m'=>b.wp Γ (M s).length (λe O' m'=>match e with
      | .norm=>mZ it keep mod U M ok ds q s iv O O' m'
      | .exit k=>if k=EY then mZ it keep mod U M ok ds q s iv O O' m' else if k=out then Q .norm O' m' else Q (.exit k) O' m'
      | .ret=>Q .ret O' m') O' m') (.put pair (.bK [(l.getD q (.junk, .junk)).1,(l.getD q (.junk, .junk)).2]) (.put it (.raw iv) (qp mod (U s) (aX keep O)))) (M s))
  (hend:∀ ds s,ok ds s->ds.Nodup->(∀ d,d∈ds->d<l.length)->(∀ q,q<l.length->q∈ds)->Q .norm (qp mod (U s) (aX keep O)) (M s))
  (hkm:∀ k,k∈keep++mod->k≠nx/\k≠more/\k≠pair/\k≠it)
  {r mb cl:Nat} {es:Array MapEntry} (hE:gZ ek ev l es.toList) (hS:zC es.toList cl)
  {s0:ι} (hok0:ok [] s0) {J:Env} {a:Act} {w:World} (hi:Inv β J (M s0) w) (hI:Iter β J (M s0) w r mb cl es []) (hs:aJ n J (.put it (.raw (.pointer (some ⟨r,0,none⟩))) (qp mod (U s0) (aX keep O))) a) (hd:a.defers=d):
  (Code.block out (.loop (.seq (.region i2 ops2 false) (.seq (.cond (.tmp more) .skip (.exit out)) (.block EY (.seq (.region i3 ops3 false) y)))))).wp P (pK n β d Q) a w:=by
 obtain⟨o1,o2,ho2,p1,p2,p3,p4,p5,p6⟩:=ali hn2;obtain⟨o3,r3,ho3,q1,q2,q3,q4⟩:=alj hn3;have hlen:=hE.len;obtain⟨iv,hiv⟩:∃ iv:Value,iv= .pointer (some ⟨r,0,none⟩):=⟨_,rfl⟩;rw[<- hiv] at hs;have hemp:∀ d,d∈([]:List Nat)->d<l.length:=λ_ h=>by cases h
 refine wp_block (wp_loop_ghost (λk a w=> ∃ ds s J,JY l.length ds=k/\ok ds s/\ds.Nodup/\(∀ d,d∈ds->d<l.length)/\Inv β J (M s) w/\Iter β J (M s) w r mb cl es ds/\aJ n J (.put it (.raw iv) (qp mod (U s) (aX keep O))) a/\a.defers=d) (JY l.length [])
  ⟨[],s0,J,rfl,hok0,z15,hemp,hi,hI,hs,hd⟩ ?_)
 rintro k a w ⟨ds,s,J,rfl,hok,hnd,hlt,hi,hI,hs,hd⟩;obtain⟨seen,c0,e1,e2,e3⟩:=hI.it;have aCi:a.eval (.tmp it)= .pointer (some ⟨r,0,none⟩):=by have:=hs.sat it;simp only[look,if_true] at this;obtain⟨cs,c1,c2⟩:=this;simp only[au] at c1;obtain⟨_,rfl⟩:=c1;rw[<- hiv];exact c2
 have jk:∀ k,k=nx\/k=more\/k=pair->look k (Fr.put it (.raw iv) (qp mod (U s) (aX keep O)))= .junk:=λk hk=>by
  have hki:k≠it:=by rintro rfl;rcases hk with h|h|h<;>simp_all
  have hnk:k∉keep:=λh=>by have:=hkm k (z1k _ h);rcases hk with h|h|h<;>simp_all
  have hnm:k∉mod:=λh=>by have:=hkm k (z1i _ h);rcases hk with h|h|h<;>simp_all
  simp only[look];rw[if_neg hki];rcases JX (xs:=U s) (O:=aX keep O) hnm with h|h
  ·rw[h,uV hnk]
  ·exact h
 have azo:nx<a.tmps.size:=by rw[hs.size];exact hnx
 have azp:more<a.tmps.size:=by rw[hs.size];exact hmo
 have Qn:∀ (a:Act) (k:Nat) (v:Value),k<a.tmps.size->(a.put (some k) v).eval (.tmp k)=v:=λa k v h=>by simp[Act.put,z2e,h]
 have UG:∀ (a:Act) (k:Nat) (v:Value),(a.put (some k) v).tmps.size=a.tmps.size:=λa k v=>by simp[Act.put]
 refine wp_seq (wp_region_list ?_);rw[ho2];refine Qm p3 p1 aCi e1 hI.map (λx hx=>hS.2 x hx) e2 (λh0=> ?_) (λe he w1 hw1=> ?_)
 ·rw[p2];refine F8 p6 p4 (Qn _ _ _ azo) (v:= .bool false) rfl (wpList_nil ?_);rw[p5];have hmv:=Qn (a.put (some nx) (.tuple #[.bool false])) more (.bool false) (by rw[UG];exact azp)
  refine wp_seq (wp_cond_false hmv (wp_exit ?_));show Exit.inBlock out (pK n β d Q) (.exit out) _ _;simp only[Exit.inBlock,if_true];have hall:∀ q,q<l.length->q∈ds:=λq hq=>by
   apply Classical.byContradiction;intro hn;have hqe:q<es.toList.length:=by omega
   have hm:es.toList[q]∈(leftOf es seen).toList:=(UE hS.1 e3 (λd hd=>by have:=hlt d hd;simp only[z0e] at hlen;omega)).2 ⟨q,by simpa using hqe,hn,z01 hqe⟩
   have:=List.length_pos_of_mem hm;simp only[z0e] at this;omega
  refine⟨.norm,_,_,J,trivial,hend ds s hok hnd hlt hall,hi,?_,by rw[put_defers,put_defers];exact hd⟩
  refine aJ.weak ((hs.other (jk nx (.inl rfl)) _).other (jk more (.inr (.inl rfl))) _) λk=> ?_;simp only[look];by_cases hk:k=it
  ·subst hk;rw[if_pos rfl];left;rcases JX (xs:=U s) (O:=aX keep O) (λh=>(hkm _ (z1i _ h)).2.2.2 rfl) with h|h
   ·rw[h,uV (λh=>(hkm _ (z1k _ h)).2.2.2 rfl)]
   ·exact h
  ·rw[if_neg hk];exact .inr rfl
 ·rw[p2];refine F8 p6 p4 (Qn _ _ _ azo) (v:= .bool true) rfl (wpList_nil ?_);rw[p5];have hmv:=Qn (a.put (some nx) (.tuple #[.bool true,e.key,e.val])) more (.bool true) (by rw[UG];exact azp)
  refine wp_seq (wp_cond_true hmv (wp_skip ?_));refine wp_block (wp_seq (wp_region_list ?_));rw[ho3];obtain⟨q,hqs,hqd,hqe⟩:=(UE hS.1 e3 (λd hd=>by have:=hlt d hd;simp only[z0e] at hlen;omega)).1 he
  have hql:q<l.length:=by simp only[z0e] at hlen;omega
  obtain⟨w2,azq⟩:∃ w2,w2=setBlock w1 r (.mapIter (some mb) cl (seen.push e.born) cl):=⟨_,rfl⟩;have aqe:w1.os=w.os/\w1.tape=w.tape/\w1.output=w.output/\w1.heap=w.heap:=by rcases hw1 with rfl|rfl<;>exact⟨rfl,rfl,rfl,rfl⟩
  have aCk:w.drawn<=w1.drawn:=by rcases hw1 with rfl|rfl<;>first|exact z04 _|exact Nat.le_succ _
  obtain⟨z1,z2,z3,z4,z5,z6⟩:= @UD w1 r (.mapIter (some mb) cl (seen.push e.born) cl);rw[<- azq] at z1 z2 z3 z4 z5 z6 ⊢;rw[aqe.2.2.2] at z4 z5 z6;have azr:=hI.rc.lt;have hwr:w2.heap[r]? =some (.mapIter (some mb) cl (seen.push e.born) cl):=z6 azr;have hwm:w2.heap[mb]? =some (.map es cl):=(z5 mb (Ne.symm hI.ne)).trans hI.map;have hi2:Inv β J (M s) w2:=hi.world (z1.trans aqe.1) (z2.trans aqe.2.1) (z3.trans aqe.2.2.1) (by omega) (λ_=>by rw[azq];exact aCk) λb hb=>by
   by_cases hbr:b=r
   ·subst hbr;exact .inr ⟨hI.r0,λi h=>hI.rc.B ⟨i,h⟩,hI.rc.H⟩
   ·exact .inl (z5 b hbr)
  have hs2:aJ n J (.put it (.raw iv) (qp mod (U s) (aX keep O))) ((a.put (some nx) (.tuple #[.bool true,e.key,e.val])).put (some more) (.bool true)):=(hs.other (jk nx (.inl rfl)) _).other (jk more (.inr (.inl rfl))) _;have hit2:((a.put (some nx) (.tuple #[.bool true,e.key,e.val])).put (some more) (.bool true)).eval (.tmp it)= .pointer (some ⟨r,0,none⟩):=by have:=hs2.sat it;simp only[look,if_true] at this;obtain⟨cs,c1,c2⟩:=this;simp only[au] at c1;obtain⟨_,rfl⟩:=c1;rw[<- hiv];exact c2
  refine LG q3 q1 hit2 (run_entry_at w2 r mb cl seen es cl e hwr hwm (z0m hqe) hS.1) ?_;rw[q2];obtain⟨azm,hent⟩:=aqd hE hqe;obtain⟨kc,k1,k2⟩:=hent.kc;obtain⟨vc,v1,v2⟩:=hent.vc;have azs:bM J (.bK [(l.getD q (.junk, .junk)).1,(l.getD q (.junk, .junk)).2]) (.tuple #[e.key,e.val]):=by refine⟨[e.key,e.val],?_,rfl⟩;simp only[bg];exact⟨kc,[e.val],by rw[k2],k1.mono _ (Env.nil_le J),vc,[],by rw[v2],v1.mono _ (Env.nil_le J),rfl⟩
  have hs3:=hs2.aa7 hpa azs;obtain⟨σ,h1,h2⟩:=hs3;have hrd:=sD ds s q hok hnd hlt hql hqd iv;have k:=nG l2 _ σ (M s) _ (λσ' m'=> ∃ O',Rep n σ' O'/\b.wp Γ (M s).length (λe O' m'=>match e with
      | .norm=>mZ it keep mod U M ok ds q s iv O O' m'
      | .exit k=>if k=EY then mZ it keep mod U M ok ds q s iv O O' m' else if k=out then Q .norm O' m' else Q (.exit k) O' m'
      | .ret=>Q .ret O' m') O' m') hw2 h1 hrd (λσ' O' m' hr hq=>⟨O',hr,hq⟩)
  refine jw (β:=⟨w2,J,ownB J (M s)⟩) hΓ.hook _ _ σ (M s) _ q4 k ?_ J _ w2 (Inv.start hi2.good) h2 (by rw[put_defers,put_defers,put_defers])
  rintro σ' m' J' a' w' ⟨O',hr,hq⟩ hi' hs' hd';show y.wp P _ a' w';refine z06 (λee a2 w3 hee=> ?_) (JC.sound hΓ (β:=⟨w2,J,ownB J (M s)⟩) (n0:=(M s).length) (z0d hi2.good.n) b y hy hwb _ O' m' hq J' a' w' hi' ⟨σ',hr,hs'⟩ hd');obtain⟨ex,O2,m2,J2,x1,x2,x3,x4,x5⟩:=hee
  try rw[hd] at x5
  have aDf:r<w.heap.size:=azr;have aDg:mb<w.heap.size:=hI.mc.lt;have hcr:Clear ⟨w2,J,ownB J (M s)⟩ r:=⟨by show r<w2.heap.size;omega,hI.rc.B,hI.rc.H⟩
  have hcm:Clear ⟨w2,J,ownB J (M s)⟩ mb:=⟨by show mb<w2.heap.size;omega,hI.mc.B,hI.mc.H⟩
  have again:mZ it keep mod U M ok ds q s iv O O2 m2->∃ n',n'<JY l.length ds/\∃ ds s J,JY l.length ds=n'/\ok ds s/\ds.Nodup/\(∀ d,d∈ds->d<l.length)/\Inv β J (M s) w3/\Iter β J (M s) w3 r mb cl es ds/\aJ n J (.put it (.raw iv) (qp mod (U s) (aX keep O))) a2/\a2.defers=d:=by
   rintro⟨s',r1,r2,r3,r4,r5,r6⟩;obtain⟨ε3,t1,t2⟩:=uj x3 x4 (n0:=(M s).length) (z0d hi2.good.n) r2 rfl r6;obtain⟨d1,d2,d3,d4⟩:=t1.clear hcr;obtain⟨f1,f2,f3,f4⟩:=t1.clear hcm;refine⟨_,aeA hql hqd,ds++[q],s',ε3,rfl,r1,?_,?_,(hi2.trans t1 (λi hi'=>by omega)).1,⟨⟨seen.push e.born,cl,d1.trans hwr,z04 _,?_⟩,f1.trans hwm,hI.r0,⟨d4,λ⟨i,h⟩=>d2 i h,d3⟩,⟨f4,λ⟨i,h⟩=>f2 i h,f3⟩,hI.ne⟩,?_,x5⟩
   ·rw[List.nodup_append];exact⟨hnd,by simp,λx hx y hy=>by rw[z1r.1 hy];rintro rfl;exact hqd hx⟩
   ·intro x hx;rcases List.mem_append.1 hx with h|h
    ·exact hlt x h
    ·rw[z1r.1 h];exact hql
   ·rw[Array.toList_push,e3,List.map_append,z0q,z1e]
    congr 2
    simp[z08,hqe]
   ·refine t2.weak λk=> ?_;simp only[look];by_cases hk:k=it
    ·subst hk;rw[if_pos rfl,kD,r3];exact .inr rfl
    ·rw[if_neg hk];exact vK k r4 (nU k r5)
  have back:Inv β J2 m2 w3:=(hi2.trans x3 (λi hi'=>by omega)).1
  cases ee<;>cases ex<;>simp only[dY] at x1
  ·exact again x2
  ·subst x1;simp only at x2;simp only[Exit.then,Exit.inBlock];split
   ·rename_i hk;rw[if_pos hk] at x2;exact again x2
   ·rename_i hk;rw[if_neg hk] at x2;split
    ·rename_i hk2;rw[if_pos hk2] at x2;exact⟨.norm,O2,m2,J2,trivial,x2,back,x4,x5⟩
    ·rename_i hk2;rw[if_neg hk2] at x2;exact⟨.exit _,O2,m2,J2,rfl,x2,back,x4,x5⟩
  ·exact⟨.ret,O2,m2,J2,trivial,x2,back,x4,x5⟩
theorem Inv.asM{β:Base}(E:TypeId)(wd':Nat):∀ (n:Nat) {J:Env} {m:List ay} {w:World},Inv β J m w->∃ J',Inv β J' (m++z0a n (.vec E wd' [])) w/\J.Le J'/\J'.n=m.length+n/\∀ j,j<n->J'.vv (m.length+j)= .slice none 0 0
 |0,J,m,w,h=>⟨J,by simpa using h,Env.Le.refl J,by rw[h.good.n];rfl,λj hj=>absurd hj (z0h _)⟩
 |n+1,J,m,w,h=>by
  obtain⟨J1,h1,h2,h3,h4⟩:=Inv.asM E wd' n h;have hg:w.grownBy w none:=z19.refl w none;have hn1:=h1.good.n;have hlen:(m++z0a n (ay.vec E wd' [])).length=m.length+n:=by simp
  have hi2:=h1.more (b:=0) (v:= .slice none 0 0) (r:= .vec E wd' []) hg (z04 _) ⟨[],⟨by simp, .inl ⟨by simp[Env.more,hn1],rfl⟩⟩,λj hj=>absurd hj (z0h _)⟩ (by intro x hx;simp[aN,Env.more,hn1,z0i] at hx)
  have hle:=J1.dJ 0 (.slice none 0 0);refine⟨_,by rw[List.replicate_succ',<- z1w];exact hi2,h2.trans hle,by simp[Env.more,h3];omega,λj hj=> ?_⟩
  by_cases e:j=n
  ·subst e;simp[Env.more,h3]
  ·have:=h4 j (by omega)
   simp only[Env.more];rw[if_neg (by omega)];exact this
theorem aqf{k nn:Nat}{E:TypeId}{wd':Nat}{O:Fr}{m:List ay}{K:List ay->Prop}(hh:UC k nn E wd' K O m){β:Base}{J:Env}{w:World}(h:Inv β J m w){n:Nat}{a:Act}(hs:aJ n J O a):∃ J' m',K m'/\Inv β J' m' w/\aJ n J' O a:=by
 unfold UC at hh;split at hh<;>try exact hh.elim
 rename_i i hk;split at hh<;>try exact hh.elim
 rename_i T n' w' f hm;obtain⟨⟨rfl,rfl,hf⟩,hK⟩:=hh;have hi:i<m.length:=by
  rcases z0v i m.length with hi|hi
  ·exact hi
  ·rw[dh hi] at hm;cases hm
 obtain⟨J',h1,h2,h3,h4⟩:=Inv.asM E wd' n' h;have hm2:ah (m++z0a n' (.vec E wd' [])) i= .blk T (.arr n' 1 f):=by rw[bD hi];exact hm
 have h5:=h1.asD (c':= .arr n' 1 λj=>if j<n' then .vec (m.length+j) 0 else .junk) hm2 (λcs hc=>by simp only[au] at hc ⊢;refine⟨hc.1,λj hj=> ?_⟩;rw[if_pos hj];simp only[au];have h6:=hc.2 j hj;rw[hf j hj] at h6;simp only[au] at h6;have hv:=h4 j hj;exact⟨by omega, .inl ⟨by rw[hv],trivial⟩,by rw[hv];exact h6⟩)
 rw[List.set_append_left _ _ hi] at h5;exact⟨_,_,hK,h5,hs.env h2⟩
theorem aan{β:Base}{J:Env}{m:List ay}{w:World}(h:Inv β J m w){n:Nat}{O:Fr}{a:Act}(hs:aJ n J O a):∀ {l:List (Nat×Ht)},l.all (λp=>decide (p.1<n))=true->alf m O l->aJ n (Sx.gq J m w) (alg m O l O) a
 |[],_,_=>hs.env ⟨z04 _,λ_ _=>rfl,λ_ _=>rfl,vH h.good⟩
 |p::r,hk,hP=>by
  simp only[z2d,z02,decide_eq_true_eq] at hk;obtain⟨σ',r1,r2⟩:=aan h hs hk.2 hP.2;obtain⟨σ,h1,h2⟩:=hs;have e:=fC (h1.le p.1) (p.2.val hP.1);obtain⟨cs,k1,k2⟩:=ig (h2.2 p.1) (by rw[e];exact p.2.val hP.1)
  rw[e] at k1 k2;have k3:=p.2.ok h.good hP.1 k1;refine⟨σ'.set p.1 (p.2.dec m (look p.1 O)),r1.put hk.1 (Le.refl _),by simp[r2.1],λj=> ?_⟩
  by_cases ej:j=p.1
  ·subst ej;rw[jS (by rw[r1.1];exact hk.1),k2,<- p.2.agg hP.1]
   exact iG (au.mono _ (Env.AZ _) k3)
  ·rw[getD_set_ne ej];exact r2.2 j
theorem ZC.sound{Γ:FH}(hΓ:aW P Γ){quiet:FuncId->Bool}{n n0:Nat}{β:Base}(hb:β.J.n=0){d:List Deferred}:∀ (zc:ZC) (c:Code),zc.comp P quiet c=some zc.flat->zc.wf n=true->∀ (Q:Ex->Fr->List ay->Prop) (O:Fr) (m:List ay),zc.wp Γ n0 Q O m->
  ∀ J a w,Inv β J m w->aJ n J O a->a.defers=d->c.wp P (pK n β d Q) a w
 | .leaf x,c,hc,hw,Q,O,m,h,J,a,w,hi,hs,hd=>by
  simp only[ZC.comp,ZC.flat,z03,ZI.leaf.injEq,exists_eq_right] at hc;exact JC.sound hΓ (by omega) x c hc hw Q O m h J a w hi hs hd
 | .seq x y,c,hc,hw,Q,O,m,h,J,a,w,hi,hs,hd=>by
  obtain⟨x',y',x2,y2,rfl,hx,hy,e⟩:=ZC.su hc;simp only[ZC.flat,ZI.seq.injEq] at e;obtain⟨rfl,rfl⟩:=e;simp only[ZC.wf,z02] at hw;simp only[ZC.wp] at h;refine wp_seq (z06 (λe a' w' he=> ?_) (ZC.sound hΓ hb x x' hx hw.1 _ O m h J a w hi hs hd));obtain⟨ex,σ',m',J',h1,h2,h3,h4,h5⟩:=he;cases e<;>cases ex<;>simp only[dY] at h1
  ·exact ZC.sound hΓ hb y y' hy hw.2 Q σ' m' h2 J' a' w' h3 h4 h5
  ·exact⟨_,σ',m',J',by simp only[dY];exact h1,h2,h3,h4,h5⟩
  ·exact⟨.ret,σ',m',J',trivial,h2,h3,h4,h5⟩
 | .cond x y z,c,hc,hw,Q,O,m,h,J,a,w,hi,hs,hd=>by
  obtain⟨x',y',z',x2,y2,z2,rfl,hx,hy,hz,e⟩:=ZC.lN hc;simp only[ZC.flat,ZI.cond.injEq] at e;obtain⟨rfl,rfl,rfl⟩:=e;simp only[ZC.wf,z02] at hw;simp only[ZC.wp] at h;split at h
  ·rename_i t ht;obtain⟨σ,h1,h2⟩:=hs;have hv0:=aB hx h2;rw[le_eq (h1.fv x) ht (by intro h;cases h)] at hv0
   have hv:=iW hv0;cases t with
   |true=>exact wp_cond_true hv (ZC.sound hΓ hb y y' hy hw.1 Q O m (h.1 rfl) J a w hi ⟨σ,h1,h2⟩ hd)
   |false=>exact wp_cond_false hv (ZC.sound hΓ hb z z' hz hw.2 Q O m (h.2 rfl) J a w hi ⟨σ,h1,h2⟩ hd)
  ·rename_i ht;obtain⟨σ,h1,h2⟩:=hs;have hv0:=aB hx h2;rw[le_eq (h1.fv x) ht (by intro h;cases h)] at hv0
   obtain⟨cs,k1,hv⟩:=hv0;simp only[au] at k1;obtain⟨t,rfl⟩:=k1;cases t with
   |true=>exact wp_cond_true hv (ZC.sound hΓ hb y y' hy hw.1 Q O m h.1 J a w hi ⟨σ,h1,h2⟩ hd)
   |false=>exact wp_cond_false hv (ZC.sound hΓ hb z z' hz hw.2 Q O m h.2 J a w hi ⟨σ,h1,h2⟩ hd)
  ·exact h.elim
 | .block id x,c,hc,hw,Q,O,m,h,J,a,w,hi,hs,hd=>by
  obtain⟨id',x',x2,rfl,hx,e⟩:=ZC.lH hc;simp only[ZC.flat,ZI.block.injEq] at e;obtain⟨rfl,rfl⟩:=e;simp only[ZC.wp] at h;refine wp_block (z06 (λe a' w' he=> ?_) (ZC.sound hΓ hb x x' hx hw _ O m h J a w hi hs hd));obtain⟨ex,σ',m',J',h1,h2,h3,h4,h5⟩:=he;cases e<;>cases ex<;>simp only[dY] at h1
  ·exact⟨.norm,σ',m',J',trivial,h2,h3,h4,h5⟩
  ·subst h1;simp only[Exit.inBlock];simp only at h2;split
   ·rename_i e1;rw[if_pos e1] at h2;exact⟨.norm,σ',m',J',trivial,h2,h3,h4,h5⟩
   ·rename_i e1;rw[if_neg e1] at h2;exact⟨.exit _,σ',m',J',rfl,h2,h3,h4,h5⟩
  ·exact⟨.ret,σ',m',J',trivial,h2,h3,h4,h5⟩
 | .prune ks x,c,hc,hw,Q,O,m,h,J,a,w,hi,hs,hd=>
  ZC.sound hΓ hb x c hc hw Q _ m h J a w hi (hs.weak λk=>dZ ks) hd
 | .aey l x,c,hc,hw,Q,O,m,h,J,a,w,hi,hs,hd=>by
  simp only[ZC.wf,z02] at hw;obtain⟨hP,h⟩:=h;exact ZC.sound hΓ hb x c hc hw.2 Q _ _ h _ a w hi.freeze (aan hi hs hw.1 hP) hd
 | .aex k nn E wd' x,c,hc,hw,Q,O,m,h,J,a,w,hi,hs,hd=>by
  obtain⟨J',m',h1,h2,h3⟩:=aqf h hi hs;exact ZC.sound hΓ hb x c hc hw Q O m' h1 J' a w h2 h3 hd
 | .EN l1 x it out nx more EY pair l2 keep mod b,c,hc,hw,Q,O,m,h,J,a,w,hi,hs,hd=>by
  obtain⟨i1,i2,i3,ale,ops2,ops3,out',aFf,y,l1',x',it',nx',more',pair',l2',y',rfl,hr1,hr2,hr3,hy,e⟩:=ZC.aez hc;simp only[ZC.flat,ZI.EN.injEq] at e;obtain⟨rfl,rfl,rfl,rfl,rfl,rfl,rfl,rfl,rfl,rfl⟩:=e;simp only[ZC.wf,z02,decide_eq_true_eq,z1x,decide_eq_false_iff_not] at hw;obtain⟨⟨⟨⟨⟨⟨⟨⟨⟨⟨w1,w2⟩,w3⟩,w4⟩,w5⟩,w6⟩,w7⟩,w8⟩,w9⟩,w10⟩,w11⟩:=hw;obtain⟨pre,o,T,kt,et,xo,p1,p2,p3,p4,p5,p6,p7⟩:=alh hr1;simp only[ZC.wp] at h;obtain⟨σ,h1,h2⟩:=hs;have k:=nG l1 O σ m _ (λσ' m'=> ∃ O',Rep n σ' O'/\(match x.fv O' with
   | .map i=>match ah m' i with
    | .mp ek ev l=> ∃ (ι:Type) (U:ι->List SV) (M:ι->List ay) (ok:List Nat->ι->Prop) (s0:ι),ok [] s0/\V4 mod (U s0) O'/\M s0=m'.set i .dead/\
     (∀ ds s q,ok ds s->ds.Nodup->(∀ d,d∈ds->d<l.length)->q<l.length->q∉ds->∀ iv:Value,
      l2.wp Γ false (λO2 m2=>b.wp Γ (M s).length (λe O3 m3=>match e with
       | .norm=>mZ it keep mod U M ok ds q s iv O' O3 m3
       | .exit k=>if k=EY then mZ it keep mod U M ok ds q s iv O' O3 m3 else if k=out then Q .norm O3 m3 else Q (.exit k) O3 m3
       | .ret=>Q .ret O3 m3) O2 m2) (.put pair (.bK [(l.getD q (.junk, .junk)).1,(l.getD q (.junk, .junk)).2]) (.put it (.raw iv) (qp mod (U s) (aX keep O')))) (M s))/\
     (∀ ds s,ok ds s->ds.Nodup->(∀ d,d∈ds->d<l.length)->(∀ q,q<l.length->q∈ds)->Q .norm (qp mod (U s) (aX keep O')) (M s))
    |_=>False
   |_=>False)) w1 h1 h (λσ' O' m' hr hq=>⟨O',hr,hq⟩)
  refine wp_seq (wp_region_list ?_);rw[p1];refine iQ hΓ.hook pre _ σ m _ p7 k ?_ J a w hi h2 hd;rintro σ' m' J' a' w' ⟨O',hr,hq⟩ hi' hs' hd';split at hq<;>try exact hq.elim
  rename_i i hx;split at hq<;>try exact hq.elim
  rename_i ek ev l hm;obtain⟨ι,U,M,ok,s0,g1,g2,g3,g4,g5⟩:=hq;have hxv:=aB p6 hs';rw[le_eq (hr.fv x) hx (by intro h;cases h)] at hxv
  obtain⟨hin,ex⟩:=Ih hxv;obtain⟨es,cl,hh,hE,hS⟩:gu J' i w' (.mp ek ev l):=hm▸hi'.good.res i;have hown:aN J' i (ah m' i)=some (J'.blk i):=by rw[hm];rfl
  have hlt:=dU hi'.good hown;refine LD p4 p2 p5 ex hh (wpList_nil ?_);rw[p3];have hold:∀ b,b<w'.heap.size->(w'.alloc (.mapIter (some (J'.blk i)) cl #[] cl)).heap[b]? =w'.heap[b]? :=λb hb=>Go.RowKit.Below.heap_alloc w' _ b hb;have hi2:Inv β J' (M s0) (w'.alloc (.mapIter (some (J'.blk i)) cl #[] cl)):=by rw[g3];exact(hi'.asL i).world rfl rfl rfl (by simp) (λ_=>z04 _) λb hb=> .inl (hold b hb)
  have hnot:∀ j,aN J' j (ah (m'.set i .dead) j)≠some (J'.blk i):=λj hj=>by
   by_cases e:j=i
   ·subst e;have:ah (m'.set j .dead) j= .dead:=by unfold ah;rw[z08,z0k];by_cases hl:j<m'.length<;>simp[hl]
    rw[this] at hj;cases hj
   ·have:ah (m'.set i .dead) j=ah m' j:=by unfold ah;rw[z08,z0k,if_neg (λh=>e h.symm)];rfl
    rw[this] at hj;exact hi'.good.pF j i _ e hj hown
  have hnew:∀ j,aN J' j (ah (m'.set i .dead) j)≠some w'.heap.size:=λj hj=>by have:=dU ((hi'.asL i).good) hj;omega
  have hHn:J'.H w'.heap.size=none:=by
   cases e:J'.H w'.heap.size with
   |none=>rfl
   |some o=>have:=yC hi'.good e;omega
  show(Code.block out _).wp P _ _ _;refine UF hΓ hb hr2 hr3 hy w2 w11 w3 w4 w5 w6 ⟨w7,w8,w9⟩ g4 g5 (λk hk=> ?_) hE hS g1 hi2 ⟨⟨#[],cl,heap_alloc_new w' _,z04 _,rfl⟩,(hold _ hlt).trans hh,hi'.kept.size,⟨by simp,by rw[g3];exact λ⟨j,h⟩=>hnew j h,hHn⟩,⟨by simp;omega,by rw[g3];exact λ⟨j,h⟩=>hnot j h,hi'.good.sep i _ hown⟩,by omega⟩ ?_ ?_
  ·have:=List.all_eq_true.1 w10 k hk;simp only[z02,z1x,decide_eq_false_iff_not] at this;exact⟨this.1.1.1,this.1.1.2,this.1.2,this.2⟩
  ·have hsF:aJ n J' (qp mod (U s0) (aX keep O')) a':=aJ.weak ⟨σ',hr,hs'⟩ λk=>Ac k g2 (dZ keep);exact hsF.aa7 w3 ⟨[.pointer (some ⟨w'.heap.size,0,none⟩)],by simp only[au];exact⟨rfl,trivial⟩,rfl⟩
  ·rw[put_defers];exact hd'
def fnZ(P:Program)(quiet:FuncId->Bool)(f:FuncId)(z:ZC):Option (ZI×List ResultVar×Nat):=match P.funcs[f]? with
 |some fn=>match fn.body with
  |some c=>match z.comp P quiet c with
   |some ic=>if fn.name != "runtime.NumGoroutine" then some (ic,fn.results.toList,fn.ntmps) else none
   |none=>none
  |none=>none
 |none=>none
theorem awx{quiet:FuncId->Bool}{f:FuncId}{z:ZC}{ic:ZI}{rs:List ResultVar}{nt:Nat}(h:fnZ P quiet f z=some (ic,rs,nt)):iF P f=true/\∃ fn c,P.funcs[f]? =some fn/\fn.body=some c/\z.comp P quiet c=some ic/\fn.results.toList=rs/\fn.ntmps=nt:=by
 unfold fnZ at h;split at h<;>try (cases h;done)
 rename_i fn hf;split at h<;>try (cases h;done)
 rename_i c hc;split at h<;>try (cases h;done)
 rename_i ic' hic;split at h<;>try (cases h;done)
 rename_i hn;simp only[z00,z05] at h;obtain⟨rfl,rfl,rfl⟩:=h;refine⟨?_,fn,c,hf,hc,hic,rfl,rfl⟩;unfold iF;rw[hf];simp only[z02];exact⟨hn,by rw[hc];rfl⟩
theorem aiG{quiet:FuncId->Bool}{f:FuncId}{zc:ZC}{rs:List ResultVar}{nt:Nat}(hfn:fnZ P quiet f zc=some (zc.flat,rs,nt))(hwf:zc.wf nt=true){Γ:FH}(hΓ:aW P Γ){args:List SV}{m1:List ay}{res:SV}(hn':z1g args.length nt=true)
  (h:zc.wp Γ 0 (IW rs P 0 res m1) (vM 0 args) []):FnOK P f args [] res m1:=by
 have hn:args.length<=nt:=z07 hn';obtain⟨_,fn,c,hf,hb,hc,hrs,hnt⟩:=awx hfn;intro J w vs hg hs;have hlen:args.length=vs.length:=(dO hs 0).1|>λh=>by simpa using h
 refine calls_of_wp hf hb ?_;have hi:=Inv.start hg;have hsl:=dO hs (nt - args.length);have e:fn.ntmps - vs.toArray.size=nt - args.length:=by simp;omega
 rw[e];refine z06 (λe a w' he=> ?_) (ZC.sound hΓ (by simpa using hg.n) (d:=[]) zc c hc hwf _ _ _ h J _ w hi ⟨_,pR args nt hn,hsl⟩ rfl)
 obtain⟨ex,O',m',J',h1,h2,h3,⟨σ',hr,h4⟩,h5⟩:=he;replace h2:=Hu hr h2;have fin:∀ (hres:nR P σ' m' (λx=> ∃ ks,Iz ks 0 res m1 m' x) rs),a.defers=[]/\∃ v,(results fn a.tmps).run P w'= .ok v w'/\
   ∃ v' yZ,Ending.returned v= .returned v'/\bM yZ res v'/\Inv ⟨w,J,λb=> ∃ i,aN J i (ah [] i)=some b⟩ yZ m1 w':=by
  intro hres;obtain⟨x,⟨ks,⟨k1,k2⟩,k3,k4⟩,hrun⟩:=wO hrs hres;obtain⟨v,e1,e2⟩:=hrun J' a w' h3.good h4;refine⟨h5,v,e1,v,lU ks J',rfl,?_,?_⟩
  ·rw[<- k3];exact e2.ren (ku ks J')
  ·rw[<- k4];exact h3.sel ks k1 (λi hi=>k2 i (by have:=hg.n;simp only[List.length_nil] at this;have hi:i<J.n:=hi;omega))
 cases e<;>cases ex<;>simp only[dY] at h1
 ·exact fin h2
 ·exact h2.elim
 ·exact fin h2
section words
variable {Γ:FH} {n0:Nat} {Q:Ex->Fr->List ay->Prop} {O:Fr} {m:List ay}
theorem aqg{x:JC}:ZC.wp Γ n0 (.leaf x) Q O m=x.wp Γ n0 Q O m:=propext Iff.rfl
theorem awy{a b:ZC}:ZC.wp Γ n0 (.seq a b) Q O m=a.wp Γ n0 (λe O' m'=>match e with
  | .norm=>b.wp Γ n0 Q O' m'
  |e=>Q e O' m') O m:=propext Iff.rfl
theorem aqh{x:aS}{a b:ZC}:ZC.wp Γ n0 (.cond x a b) Q O m=(match x.fv O with
  | .bool t=>(t=true->a.wp Γ n0 Q O m)/\(t=false->b.wp Γ n0 Q O m)
  | .lV=>a.wp Γ n0 Q O m/\b.wp Γ n0 Q O m
  |_=>False):=propext Iff.rfl
theorem alk{id:Nat}{c:ZC}:ZC.wp Γ n0 (.block id c) Q O m=c.wp Γ n0 (λe O' m'=>match e with
  | .exit i=>if i=id then Q .norm O' m' else Q (.exit i) O' m'
  |e=>Q e O' m') O m:=propext Iff.rfl
theorem alm{ks:List Nat}{c:ZC}:ZC.wp Γ n0 (.prune ks c) Q O m=c.wp Γ n0 Q (aX ks O) m:=propext Iff.rfl
theorem aqi{l:List (Nat×Ht)}{c:ZC}:ZC.wp Γ n0 (.aey l c) Q O m=(alf m O l/\c.wp Γ n0 Q (alg m O l O) (iw m)):=propext Iff.rfl
theorem aqj{k n:Nat}{E:TypeId}{w:Nat}{c:ZC}:ZC.wp Γ n0 (.aex k n E w c) Q O m=UC k n E w (λm'=>c.wp Γ n0 Q O m') O m:=propext Iff.rfl
def aao(Γ:FH)(it out EY pair:Nat)(l2:SL)(keep mod:List Nat)(b:JC)(Q:Ex->Fr->List ay->Prop)(O:Fr)(m:List ay)(i:Nat)(l:List (SV×SV)):Prop:=
 ∃ (ι:Type) (U:ι->List SV) (M:ι->List ay) (ok:List Nat->ι->Prop) (s0:ι),ok [] s0/\V4 mod (U s0) O/\M s0=m.set i .dead/\
    (∀ ds s q,ok ds s->ds.Nodup->(∀ d,d∈ds->d<l.length)->q<l.length->q∉ds->∀ iv:Value,
     l2.wp Γ false (λO' m'=>b.wp Γ (M s).length (λe O' m'=>match e with
      | .norm=>mZ it keep mod U M ok ds q s iv O O' m'
      | .exit k=>if k=EY then mZ it keep mod U M ok ds q s iv O O' m' else if k=out then Q .norm O' m' else Q (.exit k) O' m'
      | .ret=>Q .ret O' m') O' m') (.put pair (.bK [(l.getD q (.junk, .junk)).1,(l.getD q (.junk, .junk)).2]) (.put it (.raw iv) (qp mod (U s) (aX keep O)))) (M s))/\
    (∀ ds s,ok ds s->ds.Nodup->(∀ d,d∈ds->d<l.length)->(∀ q,q<l.length->q∈ds)->Q .norm (qp mod (U s) (aX keep O)) (M s))
theorem aqk{l1:SL}{x:aS}{it out nx more EY pair:Nat}{l2:SL}{keep mod:List Nat}{b:JC}:ZC.wp Γ n0 (.EN l1 x it out nx more EY pair l2 keep mod b) Q O m=l1.wp Γ false (λO m=>match x.fv O with
  | .map i=>match ah m i with
   | .mp _ _ l=>aao Γ it out EY pair l2 keep mod b Q O m i l
   |_=>False
  |_=>False) O m:=propext Iff.rfl
theorem ayK{it out EY pair:Nat}{l2:SL}{keep mod:List Nat}{b:JC}{i:Nat}{l:List (SV×SV)}(ι:Type)(U:ι->List SV)(M:ι->List ay)(ok:List Nat->ι->Prop)(s0:ι)(h0:ok [] s0)(hσ:V4 mod (U s0) O)(hm:M s0=m.set i .dead)
  (h:∀ ds s q,ok ds s->ds.Nodup->(∀ d,d∈ds->d<l.length)->q<l.length->q∉ds->∀ iv:Value,
     l2.wp Γ false (λO' m'=>b.wp Γ (M s).length (λe O' m'=>match e with
      | .norm=>mZ it keep mod U M ok ds q s iv O O' m'
      | .exit k=>if k=EY then mZ it keep mod U M ok ds q s iv O O' m' else if k=out then Q .norm O' m' else Q (.exit k) O' m'
      | .ret=>Q .ret O' m') O' m') (.put pair (.bK [(l.getD q (.junk, .junk)).1,(l.getD q (.junk, .junk)).2]) (.put it (.raw iv) (qp mod (U s) (aX keep O)))) (M s))
  (he:∀ ds s,ok ds s->ds.Nodup->(∀ d,d∈ds->d<l.length)->(∀ q,q<l.length->q∈ds)->Q .norm (qp mod (U s) (aX keep O)) (M s)):aao Γ it out EY pair l2 keep mod b Q O m i l:=⟨ι,U,M,ok,s0,h0,hσ,hm,h,he⟩
theorem YG{c:ZC}{O':Fr}{m':List ay}(h1:W.wX O=O')(h2:W.wX m=m'):ZC.wp Γ n0 c Q O m=ZC.wp Γ n0 c Q O' m':=by subst h1;subst h2;rfl
theorem UH{it out EY pair:Nat}{l2:SL}{keep mod:List Nat}{b:JC}{i:Nat}{l l':List (SV×SV)}{O':Fr}{m':List ay}(h1:W.wX O=O')(h2:W.wX m=m')(h3:W.wX l=l'):aao Γ it out EY pair l2 keep mod b Q O m i l=aao Γ it out EY pair l2 keep mod b Q O' m' i l':=by subst h1;subst h2;subst h3;rfl
end words
attribute [congr] YG UH
theorem PU(r:Nat->Option Nat)(v:Value):ren r (.raw v)= .raw v:=nr rfl
attribute [go_sem] mZ PU
attribute [go_sem] alf alg
attribute [go_sem ↓] aqi UC aqj aqg awy aqh alk alm aqk
end Go.Sx
namespace Go.Sx
open Go Go.Conc.Locks Go.RwLone
variable {P:Program}
def muV(s c:Int):SV:= .agg [.agg [.agg [], .agg [.int .i32 s, .int .u32 0]], .int .u32 0, .int .u32 0, .agg [.agg [], .int .i32 c], .agg [.agg [], .int .i32 0]]
section lock
variable {w:World} {b:Nat} {T:TypeId} {xs:List Value}
end lock
variable {L:RwLink}
def FH.mn(f:FuncId)(F:SV)(M:List ay)(Γ:FH):FH:=FH.on f (λargs m=> .is (args=[]) (ren (IY m.length) F) (m++M.map (dM (IY m.length)))) Γ
theorem FH.arH{f:FuncId}{F:SV}{M:List ay}{Γ:FH}(h:FnOK P f [] [] F M)(hΓ:aW P Γ)(hf:iF P f=true:=by kernel_rfl):aW P (FH.mn f F M Γ):=
 FH.xU (λargs m hp=>⟨hf,by subst hp;exact yN (m:=m) (args:=[]) h rfl⟩) hΓ
theorem azt(f:FuncId)(F:SV)(M:List ay)(Γ:FH)(g:FuncId)(args:List SV)(m:List ay):FH.mn f F M Γ g args m=if g=f then .is (args=[]) (ren (IY m.length) F) (m++M.map (dM (IY m.length))) else Γ g args m:=nr rfl
structure DC where
 x:JC
 y:JC
 l:SL
 df:FuncId
 dv:aS
 z:JC
def DC.flat(d:DC):IC×IC×List dA×FuncId×aS×IC:=(d.x.flat,d.y.flat,d.l.flat none,d.df,d.dv,d.z.flat)
def DC.wf(n:Nat)(d:DC):Bool:=d.x.wf n&&(d.y.wf n&&(d.l.wf n&&d.z.wf n))
def awz(i:Nat)(s c s' c':Int)(Q:Ex->Fr->List ay->Prop)(e:Ex)(O:Fr)(m:List ay):Prop:=match ah m i with
 | .blk T (.agg [l,X])=>l=muV s c/\Q e O (m.set i (.blk T (.agg [muV s' c',X])))
 |_=>False
def DC.wp(Γ:FH)(n0:Nat)(s c s' c':Int)(d:DC)(Q:Ex->Fr->List ay->Prop)(O:Fr)(m:List ay):Prop:=
 d.x.wp Γ n0 (λe O m=>match e with
  | .norm=>d.y.wp Γ n0 (λe O m=>match e with
   | .norm=>d.l.wp Γ false (λO m=>match d.dv.fv O with
    | .ptr i p o=>(i<n0/\o=0)/\d.z.wp Γ n0 (awz i s c s' c' Q) O m
    |_=>False) O m
   |_=>False) O m
  |_=>False) O m
section words
theorem azu{Γ:FH}{n0:Nat}{s c s' c':Int}{x y:JC}{l:SL}{df:FuncId}{dv:aS}{z:JC}{Q:Ex->Fr->List ay->Prop}{O:Fr}{m:List ay}:DC.wp Γ n0 s c s' c' ⟨x,y,l,df,dv,z⟩ Q O m=x.wp Γ n0 (λe O m=>match e with
  | .norm=>y.wp Γ n0 (λe O m=>match e with
   | .norm=>l.wp Γ false (λO m=>match dv.fv O with
    | .ptr i p o=>(i<n0/\o=0)/\z.wp Γ n0 (awz i s c s' c' Q) O m
    |_=>False) O m
   |_=>False) O m
  |_=>False) O m:=propext Iff.rfl
end words
attribute [go_sem ↓] azt azu
attribute [go_sem] muV awz
end Go.Sx
namespace Go.Sx
open Go
variable {P:Program}
def FH.mv(f:FuncId){σ α ρ:Type}(T:TypeId)(p0:List Step)(o0:Nat)(d:DT σ)(A:DA α)(R:DP ρ)(pre:σ->α->Prop)(F:σ->α->ρ)(S:σ->α->σ)(Γ:FH):FH:=
 FH.on f (λargs m=>match args with
  |x::rest=>match x with
   | .ptr i p o=>match ah m i with
    | .blk T' c=> .is (T'=T/\p=p0/\o=o0/\d.aA (d.aG [] c)=c/\A.aA (A.aG [] rest)=rest/\pre (d.aG [] c) (A.aG [] rest)) (R.aA (F (d.aG [] c) (A.aG [] rest))) (m.set i (.blk T (d.aA (S (d.aG [] c) (A.aG [] rest)))))
    |_=> .no
   |_=> .no
  |[]=> .no) Γ
namespace W
theorem ax'(f:FuncId){σ α ρ:Type}(T:TypeId)(p0:List Step)(o0:Nat)(d:DT σ)(A:DA α)(R:DP ρ)(pre:σ->α->Prop)(F:σ->α->ρ)(S:σ->α->σ)(Γ:FH)(g:FuncId)(i:Nat)(p:List Step)(o:Nat)(rest:List SV)(m:List ay):
  FH.mv f T p0 o0 d A R pre F S Γ g (.ptr i p o::rest) m=if g=f then(match ah m i with
    | .blk T' c=> .is (T'=T/\p=p0/\o=o0/\d.aA (d.aG [] c)=c/\A.aA (A.aG [] rest)=rest/\pre (d.aG [] c) (A.aG [] rest)) (R.aA (F (d.aG [] c) (A.aG [] rest))) (m.set i (.blk T (d.aA (S (d.aG [] c) (A.aG [] rest)))))
    |_=> .no) else Γ g (.ptr i p o::rest) m:=nr rfl
theorem aa4(f:FuncId){σ α ρ:Type}(T:TypeId)(p0:List Step)(o0:Nat)(d:DT σ)(A:DA α)(R:DP ρ)(pre:σ->α->Prop)(F:σ->α->ρ)(S:σ->α->σ)(Γ:FH)(g:FuncId)(args:List SV)(m:List ay)(h:g≠f):
  FH.mv f T p0 o0 d A R pre F S Γ g args m=Γ g args m:=nr (if_neg h)
end W
attribute [go_sem ↓] W.ax' W.aa4
def FH.c2(f:FuncId)(g0:FuncId){α β γ ρ:Type}(T1 T2:TypeId)(d1:DT α)(d2:DT β)(A:DT γ)(R:DP ρ)(pre:α->β->γ->Prop)(F:α->β->γ->ρ)(S:α->β->γ->α×β)(Γ:FH):FH:=
 FH.on f (λargs m=>match args with
  |[x, .fn g [.ptr i p o, .ptr j q u]]=>match ah m i with
   | .blk T c=>match ah m j with
    | .blk T' c'=> .is (g=g0/\i≠j/\(T=T1/\p=[]/\o=0/\d1.aA (d1.aG [] c)=c)/\(T'=T2/\q=[]/\u=0/\d2.aA (d2.aG [] c')=c')/\A.aA (A.aG [] x)=x/\pre (d1.aG [] c) (d2.aG [] c') (A.aG [] x)) (R.aA (F (d1.aG [] c) (d2.aG [] c') (A.aG [] x)))
      ((m.set i (.blk T1 (d1.aA (S (d1.aG [] c) (d2.aG [] c') (A.aG [] x)).1))).set j (.blk T2 (d2.aA (S (d1.aG [] c) (d2.aG [] c') (A.aG [] x)).2)))
    |_=> .no
   |_=> .no
  |_=> .no) Γ
theorem W.aya(f:FuncId)(g0:FuncId){α β γ ρ:Type}(T1 T2:TypeId)(d1:DT α)(d2:DT β)(A:DT γ)(R:DP ρ)(pre:α->β->γ->Prop)(F:α->β->γ->ρ)(S:α->β->γ->α×β)(Γ:FH)(f':FuncId)(g:FuncId)(x:SV)(i j:Nat)(p q:List Step)(o u:Nat)(m:List ay):
  FH.c2 f g0 T1 T2 d1 d2 A R pre F S Γ f' [x, .fn g [.ptr i p o, .ptr j q u]] m=if f'=f then(match ah m i with
   | .blk T c=>match ah m j with
    | .blk T' c'=> .is (g=g0/\i≠j/\(T=T1/\p=[]/\o=0/\d1.aA (d1.aG [] c)=c)/\(T'=T2/\q=[]/\u=0/\d2.aA (d2.aG [] c')=c')/\A.aA (A.aG [] x)=x/\pre (d1.aG [] c) (d2.aG [] c') (A.aG [] x)) (R.aA (F (d1.aG [] c) (d2.aG [] c') (A.aG [] x)))
      ((m.set i (.blk T1 (d1.aA (S (d1.aG [] c) (d2.aG [] c') (A.aG [] x)).1))).set j (.blk T2 (d2.aA (S (d1.aG [] c) (d2.aG [] c') (A.aG [] x)).2)))
    |_=> .no
   |_=> .no) else Γ f' [x, .fn g [.ptr i p o, .ptr j q u]] m:=nr rfl
theorem W.aa5(f:FuncId)(g0:FuncId){α β γ ρ:Type}(T1 T2:TypeId)(d1:DT α)(d2:DT β)(A:DT γ)(R:DP ρ)(pre:α->β->γ->Prop)(F:α->β->γ->ρ)(S:α->β->γ->α×β)(Γ:FH)(f':FuncId)(args:List SV)(m:List ay)(h:f'≠f):
  FH.c2 f g0 T1 T2 d1 d2 A R pre F S Γ f' args m=Γ f' args m:=nr (if_neg h)
attribute [go_sem ↓] W.aya W.aa5
end Go.Sx
namespace Go.Sx
open Go
variable {P:Program}
theorem I4{f:FuncId}{args:List SV}{res:SV}(h:∀ J w vs,Good J [] w->bg args J vs->Calls P f vs.toArray w λe w'=>(∃ v,e= .returned v/\bM J res v)/\Go.RowKit.Below w.heap.size w w'/\(strict=true->w.drawn<=w'.drawn)):FnOK P f args [] res []:=by intro J w vs g hs;refine(h J w vs g hs).mono λe w' ⟨⟨v,he,hv⟩,hb,hd⟩=>⟨v,J,he,hv,?_⟩;exact(Inv.start g).world hb.os hb.tape hb.output hb.size hd (λk hk=> .inl (hb.block k hk))
theorem agp{f:FuncId}{args:List SV}{T:TypeId}{wd:Nat}{l:List SV}(h:∀ J w vs,Good J [] w->bg args J vs->∃ cs:List Value,(cs.length=l.length*wd/\l.length<=maxLen/\∀ j,j<l.length->au (l.getD j .junk) J (sub cs (j*wd) wd))/\
  Calls P f vs.toArray w λe w'=>e= .returned (.slice (some ⟨w.heap.size,0,none⟩) l.length l.length)/\w'=w.alloc (.cells cs.toArray T)):FnOK P f args [] (.vec 0 l.length) [.vec T wd l]:=by
 intro J w vs g hs;obtain⟨cs,⟨hl,hm,hc⟩,k⟩:=h J w vs g hs;refine k.mono λe w' ⟨he,hw⟩=> ?_;subst hw;have hn:J.n=0:=g.n;have hvv:(J.more 0 (.slice (some ⟨w.heap.size,0,none⟩) l.length l.length)).vv 0= .slice (some ⟨w.heap.size,0,none⟩) l.length l.length:=by simp[Env.more,hn]
 refine⟨_,J.more 0 (.slice (some ⟨w.heap.size,0,none⟩) l.length l.length),he,?_,?_⟩
 ·refine⟨[.slice (some ⟨w.heap.size,0,none⟩) l.length l.length],?_,rfl⟩;simp only[au];rw[hvv];exact⟨by simp[Env.more,hn], .inr ⟨w.heap.size,l.length,rfl,z04 _⟩,rfl⟩
 ·refine(Inv.start g).more (World.grownBy_alloc _ _ _) (z04 _) ?_ ?_
  ·refine⟨cs,?_,λj hj=>(hc j hj).mono _ (J.dJ _ _)⟩;show World.ownsRow _ 0 T wd ((J.more 0 (.slice (some ⟨w.heap.size,0,none⟩) l.length l.length)).vv 0) l.length cs;rw[hvv];refine⟨hl, .inr ⟨w.heap.size,l.length,cs.toArray,by simp,z0o _,heap_alloc_new w _,z04 _,hm,by simp[hl],?_⟩⟩
   simp[<- hl]
  ·intro x hx;have:aN (J.more 0 (.slice (some ⟨w.heap.size,0,none⟩) l.length l.length)) 0 (.vec T wd l)=some x:=hx;simp only[aN,hvv,z0i] at this;have:w.heap.size=x:=by simpa using this
   omega
end Go.Sx
namespace Go.Sx
open Go
variable {P:Program}
@[reducible] def OD(v:Value):Ending:= .panicked [{v:=v,recovered:=false}]
def Mc(P:Program)(G:Env->Prop)(mk:Value->Ending)(f:FuncId)(args:List SV)(m:List ay)(sv:SV)(m':List ay):Prop:=
 ∀ β J vs w,G J->Inv β J m w->bg args J vs->Calls P f vs.toArray w λe w'=> ∃ v J',e=mk v/\J.Le J'/\bM J' sv v/\Inv β J' m' w'
def OE(P:Program)(G:Env->Prop)(mk:Value->Ending)(f:FuncId)(args:List SV)(m0:List ay)(res:SV)(m1:List ay):Prop:=
 ∀ J w vs,G J->Good J m0 w->bg args J vs->Calls P f vs.toArray w λe w'=> ∃ v J',e=mk v/\bM J' res v/\Inv ⟨w,J,λb=> ∃ i,aN J i (ah m0 i)=some b⟩ J' m1 w'
def OnH(G:Env->Prop):Prop:= ∀ J J':Env,(∀ b o,J.H b=some o->J'.H b=some o)->G J->G J'
inductive Cal:Type 1 where
 |fn (f:FuncId)
 |val (x:aS)
inductive PI:Type 1 where
 |leaf (x:IC)
 |seq (a b:PI)
 |cond (x:aS) (a b:PI)
 |block (id:Nat) (c:PI)
 |loop (c:PI)
 |aC (l:List dA) (d:Option Nat) (g:Cal) (ys:List aS) (r:List dA)
 |OD (l:List dA) (x:aS)
inductive PC:Type 1 where
 |leaf (x:JC)
 |seq (a b:PC)
 |cond (x:aS) (a b:PC)
 |block (id:Nat) (c:PC)
 |loop (keep mod:List Nat) (c:PC)
 |prune (ks:List Nat) (c:PC)
 |bn (k:Nat) (T:TypeId) (w:Nat) (c:PC)
 |sel (ks:List Nat) (c:PC)
 |jg (k:Nat) (F:Ht) (c:PC)
 |Bz (k:Nat) (F:Ht) (c:PC)
 |aC (l:SL) (d:Option Nat) (g:Cal) (ys:List aS) (r:SL)
 |OD (l:SL) (x:aS)
def PC.flat:PC->PI
 | .leaf x=> .leaf x.flat
 | .seq a b=> .seq a.flat b.flat
 | .cond x a b=> .cond x a.flat b.flat
 | .block id c=> .block id c.flat
 | .loop _ _ c=> .loop c.flat
 | .prune _ c=>c.flat
 | .bn _ _ _ c=>c.flat
 | .sel _ c=>c.flat
 | .jg _ _ c=>c.flat
 | .Bz _ _ c=>c.flat
 | .aC l d g ys r=> .aC (l.flat none) d g ys (r.flat none)
 | .OD l x=> .OD (l.flat none) x
def dOK(n:Nat):Option Nat->Bool
 |none=>true
 |some d=>decide (d<n)
def PC.wf(n:Nat):PC->Bool
 | .leaf x=>x.wf n
 | .seq a b| .cond _ a b=>a.wf n&&b.wf n
 | .block _ c=>c.wf n
 | .loop keep mod c=>mod.all (λk=>decide (k<n))&&keep.all (λk=>decide (k<n))&&c.wf n
 | .prune _ c=>c.wf n
 | .bn k _ _ c=>decide (k<n)&&c.wf n
 | .sel _ c=>c.wf n
 | .jg k _ c=>decide (k<n)&&c.wf n
 | .Bz _ _ c=>c.wf n
 | .aC l d _ _ r=>l.wf n&&(dOK n d&&r.wf n)
 | .OD l _=>l.wf n
def Ry(o:Oper):Option (Option Nat×Cal×List aS):=match o.guard,o.op with
 |none, .call ⟨.value (.func f),as,_⟩=>(as.toList.mapM aQ).map λys=>(o.dst, .fn f,ys)
 |none, .call ⟨.value x,as,_⟩=>match aQ x,as.toList.mapM aQ with
  |some x,some ys=>some (o.dst, .val x,ys)
  |_,_=>none
 |_,_=>none
def af2(o:Oper):Option aS:=match o.guard,o.op with
 |none, .panic x=>aQ x
 |_,_=>none
def PC.comp(P:Program)(quiet:FuncId->Bool):PC->Code->Option PI
 | .leaf _,c=>(Sx.comp P quiet c).map .leaf
 | .seq a b,c=>match c with
  | .seq x y=>match a.comp P quiet x,b.comp P quiet y with
   |some x,some y=>some (.seq x y)
   |_,_=>none
  |_=>none
 | .cond _ a b,c=>match c with
  | .cond x y z=>match aQ x,a.comp P quiet y,b.comp P quiet z with
   |some x,some y,some z=>some (.cond x y z)
   |_,_,_=>none
  |_=>none
 | .block _ a,c=>match c with
  | .block id c=>(a.comp P quiet c).map (.block id)
  |_=>none
 | .loop _ _ a,c=>match c with
  | .loop c=>(a.comp P quiet c).map .loop
  |_=>none
 | .prune _ a,c=>a.comp P quiet c
 | .bn _ _ _ a,c=>a.comp P quiet c
 | .sel _ a,c=>a.comp P quiet c
 | .jg _ _ a,c=>a.comp P quiet c
 | .Bz _ _ a,c=>a.comp P quiet c
 | .aC l _ _ _ _,c=>match c with
  | .region _ ops false=>match (ops.toList.take (l.flat none).length).mapM (bW P ops),ops.toList.drop (l.flat none).length with
   |some l',o::post=>match Ry o,post.mapM (bW P ops) with
    |some (d,g,ys),some r'=>some (.aC l' d g ys r')
    |_,_=>none
   |_,_=>none
  |_=>none
 | .OD l _,c=>match c with
  | .region _ ops false=>match (ops.toList.take (l.flat none).length).mapM (bW P ops),ops.toList.drop (l.flat none).length with
   |some l',[o]=>(af2 o).map (.OD l')
   |_,_=>none
  |_=>none
def Cal.tgt(O:Fr):Cal->Option (FuncId×List SV)
 | .fn f=>some (f,[])
 | .val x=>match x.fv O with
  | .fn f cap=>some (f,cap)
  |_=>none
def OG(P:Program)(G:Env->Prop)(f:FuncId)(args:List SV)(m:List ay)(K:SV->List ay->Prop)(R:SV->List ay->Prop):Prop:=
 iF P f=true/\((∃ sv m',Mc P G .returned f args m sv m'/\K sv m')\/(∃ x m',Mc P G Sx.OD f args m x m'/\R x m'))
def OH(P:Program)(G:Env->Prop)(g:Cal)(ys:List aS)(O:Fr)(m:List ay)(K:SV->List ay->Prop)(R:SV->Fr->List ay->Prop):Prop:=match g.tgt O with
 |some (f,cap)=>(ys.map (aS.fv O)).all SV.isVal=true/\OG P G f (ys.map (aS.fv O)++cap) m K (λx m'=>R x O m')
 |none=>False
def af4(R:SV->Fr->List ay->Prop)(O:Fr)(m:List ay):SV->Prop
 | .iface t y=>R (.iface t y) O m
 |_=>False
def PC.wp(P:Program)(G:Env->Prop)(Γ:FH)(n0:Nat)(R:SV->Fr->List ay->Prop):PC->(Ex->Fr->List ay->Prop)->Fr->List ay->Prop
 | .leaf x,Q,O,m=>x.wp Γ n0 Q O m
 | .seq a b,Q,O,m=>a.wp P G Γ n0 R (λe O' m'=>match e with
  | .norm=>b.wp P G Γ n0 R Q O' m'
  |e=>Q e O' m') O m
 | .cond x a b,Q,O,m=>match x.fv O with
  | .bool t=>(t=true->a.wp P G Γ n0 R Q O m)/\(t=false->b.wp P G Γ n0 R Q O m)
  | .lV=>a.wp P G Γ n0 R Q O m/\b.wp P G Γ n0 R Q O m
  |_=>False
 | .block id c,Q,O,m=>c.wp P G Γ n0 R (λe O' m'=>match e with
  | .exit i=>if i=id then Q .norm O' m' else Q (.exit i) O' m'
  |e=>Q e O' m') O m
 | .loop keep mod c,Q,O,m=> ∃ (ι:Type) (U:ι->List SV) (M:ι->List ay) (ok:ι->Prop) (μ:ι->Nat) (i:ι),ok i/\V4 mod (U i) O/\M i=m/\
   ∀ i,ok i->c.wp P G Γ n0 R (λe O' m'=>match e with
    | .norm=> ∃ j,ok j/\μ j<μ i/\n0<=(M j).length/\atR (ug (M j).length) mod (U j) O'/\xX (ug (M j).length) O O' keep/\(m'.take (M j).length).map (dM (ug (M j).length))=M j
    |e=>Q e O' m') (qp mod (U i) (aX keep O)) (M i)
 | .prune ks c,Q,O,m=>c.wp P G Γ n0 R Q (aX ks O) m
 | .bn k T w c,Q,O,m=>yY k T w (λO' m'=>c.wp P G Γ n0 R Q O' m') O m (look k O)
 | .sel ks c,Q,O,m=>c.wp P G Γ n0 R (λe O' m'=>match e with
  | .norm=>aa6 n0 ks (Q .norm) O' m'
  |e=>Q e O' m') O m
 | .jg k F c,Q,O,m=>Dc k F (λO' m'=>c.wp P G Γ n0 R Q O' m') O m
 | .Bz k F c,Q,O,m=>IU k F (λm'=>c.wp P G Γ n0 R Q O m') O m
 | .aC l d g ys r,Q,O,m=>l.wp Γ false (λO m=>OH P G g ys O m (λsv m'=>r.wp Γ false (Q .norm) (rC d sv O) m') R) O m
 | .OD l x,Q,O,m=>l.wp Γ false (λO m=>af4 R O m (x.fv O)) O m
def af5(n:Nat)(β:Base)(d:List Deferred)(Q:Ex->Fr->List ay->Prop)(R:SV->Fr->List ay->Prop)(e:Exit)(a:Act)(w:World):Prop:=
 pK n β d Q e a w\/∃ v x O m J,e= .panic [{v:=v,recovered:=false}]/\R x O m/\bM J x v/\Inv β J m w/\aJ n J O a/\a.defers=d
theorem PC.su{quiet:FuncId->Bool}{a b:PC}{c:Code}{z:PI}(h:(PC.seq a b).comp P quiet c=some z):∃ x y x' y',c= .seq x y/\a.comp P quiet x=some x'/\b.comp P quiet y=some y'/\z= .seq x' y':=by
 cases c<;>simp only[PC.comp] at h<;>try (cases h;done)
 split at h<;>try (cases h;done)
 rename_i x y x' y' h1 h2;simp only[z00] at h;exact⟨_,_,_,_,rfl,h1,h2,h.symm⟩
theorem PC.lN{quiet:FuncId->Bool}{x0:aS}{a b:PC}{c:Code}{z:PI}(h:(PC.cond x0 a b).comp P quiet c=some z):∃ x y w x' y' w',c= .cond x y w/\aQ x=some x'/\a.comp P quiet y=some y'/\b.comp P quiet w=some w'/\z= .cond x' y' w':=by
 cases c<;>simp only[PC.comp] at h<;>try (cases h;done)
 split at h<;>try (cases h;done)
 rename_i h1 h2 h3;simp only[z00] at h;exact⟨_,_,_,_,_,_,rfl,h1,h2,h3,h.symm⟩
theorem PC.lH{quiet:FuncId->Bool}{id0:Nat}{a:PC}{c:Code}{z:PI}(h:(PC.block id0 a).comp P quiet c=some z):∃ id x x',c= .block id x/\a.comp P quiet x=some x'/\z= .block id x':=by
 cases c<;>simp only[PC.comp] at h<;>try (cases h;done)
 simp only[z03] at h;obtain⟨x',hx,rfl⟩:=h;exact⟨_,_,_,rfl,hx,rfl⟩
theorem PC.vJ{quiet:FuncId->Bool}{k0 m0:List Nat}{a:PC}{c:Code}{z:PI}(h:(PC.loop k0 m0 a).comp P quiet c=some z):∃ x x',c= .loop x/\a.comp P quiet x=some x'/\z= .loop x':=by
 cases c<;>simp only[PC.comp] at h<;>try (cases h;done)
 simp only[z03] at h;obtain⟨x',hx,rfl⟩:=h;exact⟨_,_,rfl,hx,rfl⟩
theorem PC.af6{quiet:FuncId->Bool}{l0:SL}{d0:Option Nat}{g0:Cal}{ys0:List aS}{r0:SL}{c:Code}{z:PI}(h:(PC.aC l0 d0 g0 ys0 r0).comp P quiet c=some z):
  ∃ id ops pre o post l' d g ys r',c= .region id ops false/\ops.toList=pre++o::post/\pre.mapM (bW P ops)=some l'/\Ry o=some (d,g,ys)/\post.mapM (bW P ops)=some r'/\z= .aC l' d g ys r':=by
 cases c<;>simp only[PC.comp] at h<;>try (cases h;done)
 rename_i id ops dr;split at h<;>try (cases h;done)
 rename_i _ _ ops' hop;cases hop;split at h<;>try (cases h;done)
 rename_i l' o post h1 h2;split at h<;>try (cases h;done)
 rename_i d g ys r' h3 h4;simp only[z00] at h;exact⟨_,_,_,_,_,_,_,_,_,_,rfl,by rw[<- h2,z1h],h1,h3,h4,h.symm⟩
theorem PC.af7{quiet:FuncId->Bool}{l0:SL}{x0:aS}{c:Code}{z:PI}(h:(PC.OD l0 x0).comp P quiet c=some z):
  ∃ id ops pre o l' x,c= .region id ops false/\ops.toList=pre++[o]/\pre.mapM (bW P ops)=some l'/\af2 o=some x/\z= .OD l' x:=by
 cases c<;>simp only[PC.comp] at h<;>try (cases h;done)
 rename_i id ops dr;split at h<;>try (cases h;done)
 rename_i _ _ ops' hop;cases hop;split at h<;>try (cases h;done)
 rename_i l' o h1 h2;simp only[z03] at h;obtain⟨x,h3,h4⟩:=h;exact⟨_,_,_,_,_,_,rfl,by rw[<- h2,z1h],h1,h3,h4.symm⟩
theorem aJ.aAU{n:Nat}{J:Env}{O:Fr}{a:Act}(h:aJ n J O a){d:Option Nat}(hd:dOK n d=true){sv:SV}{v:Value}(hv:bM J sv v):aJ n J (rC d sv O) (a.put d v):=by
 cases d with
 |none=>exact h
 |some d=>exact h.aa7 (by simpa[dOK] using hd) hv
theorem aa8{o:Oper}{d:Option Nat}{g:Cal}{ys:List aS}(h:Ry o=some (d,g,ys)){n:Nat}{J:Env}{O:Fr}{a:Act}(hs:aJ n J O a){f:FuncId}{cap:List SV}(hg:g.tgt O=some (f,cap))(hv:(ys.map (aS.fv O)).all SV.isVal=true)(hok:iF P f=true)(w:World):
  o.dst=d/\o.guard=none/\∃ vs,bg (ys.map (aS.fv O)++cap) J vs/\(execOp a.eval o).run P w= .ok (.enter f vs.toArray) w:=by
 obtain⟨σ,hr,hs⟩:=hs;have hys:∀ (as:List Operand) (ys:List aS),as.mapM aQ=some ys->(ys.map (aS.fv O)).all SV.isVal=true->bg (ys.map (aS.fv O)) J (as.map a.eval):=by
  intro as
  induction as with
  |nil=>intro ys h _;simp at h;subst h;rfl
  |cons x as ih=>
   intro ys h hv;simp only[z16,bind,z1t] at h;obtain⟨y,hy,h⟩:=bind_some h;obtain⟨ys',hy',h⟩:=bind_some h;simp only[z00] at h;subst h;simp only[z0q,z2d,z02] at hv;have e:=fC (hr.fv y) hv.1;obtain⟨cs,k1,k2⟩:=ig (aB hy hs) (by rw[e];exact hv.1)
   rw[e] at k1 k2;simp only[z0q,bg];exact⟨cs,_,by rw[k2],k1,ih ys' hy' hv.2⟩
 unfold Ry at h;split at h
 ·rename_i f' as ts hgd hop;simp only[z03,z05] at h;obtain⟨ys',hm,rfl,rfl,rfl⟩:=h;simp only[Cal.tgt,z00,z05] at hg;obtain⟨rfl,rfl⟩:=hg;refine⟨rfl,hgd,as.toList.map a.eval,by rw[z1z];exact hys _ _ hm hv,?_⟩
  have e:(as.toList.map a.eval).toArray=as.map a.eval:=by apply z1q;simp
  simp[execOp,hop,resolve,Deferred.ofValue,invoke,z2e,jv hok];apply z1q;simp
 ·rename_i x as ts hne hgd hop;split at h<;>try (cases h;done)
  rename_i x' ys' hx hm;simp only[z00,z05] at h;obtain⟨rfl,rfl,rfl⟩:=h;simp only[Cal.tgt] at hg;split at hg<;>try (cases hg;done)
  rename_i f' cap' hf;simp only[z00,z05] at hg;obtain⟨rfl,rfl⟩:=hg;have hf':x'.ev σ= .fn f' cap':=le_eq (hr.fv x') hf (by intro h;cases h)
  obtain⟨cv,h1,h2⟩:=IV (hf'▸aB hx hs);refine⟨rfl,hgd,_,(hys _ _ hm hv).append h1,?_⟩;simp[execOp,hop,resolve,h2,Deferred.ofValue,invoke,jv hok]
 ·cases h
theorem atY{G:Env->Prop}{Γ:FH}(hΓ:aW P Γ){n:Nat}{β:Base}{d:List Deferred}{ops:Array Oper}{o:Oper}{post:List Oper}{dd:Option Nat}{g:Cal}{ys:List aS}{r:SL}(ho:Ry o=some (dd,g,ys))(hp:post.mapM (bW P ops)=some (r.flat none))(hd':dOK n dd=true)(hw:r.wf n=true)
  {Q:Ex->Fr->List ay->Prop} {R:SV->Fr->List ay->Prop} {O:Fr} {m:List ay} (h:OH P G g ys O m (λsv m'=>r.wp Γ false (Q .norm) (rC dd sv O) m') R) {J:Env} {a:Act} {w:World} (hG:G J) (hi:Inv β J m w) (hs:aJ n J O a) (hd:a.defers=d):
  wpList P ops (af5 n β d Q R) (o::post) a w:=by
 unfold OH at h;split at h
 ·rename_i f cap hg;obtain⟨hv,hok,hh⟩:=h;obtain⟨e1,e2,vs,h1,h2⟩:=aa8 ho hs hg hv hok w;refine wpList_step λK' hK'=> ?_;rw[if_pos (by simp[Region.wanted,e2])]
  unfold z0r;rw[h2,Oper.upon_enter,e1];rcases hh with⟨sv,m',hc,hk⟩|⟨x,m',hc,hk⟩
  ·refine(hc β J vs w hG hi h1).mono ?_;rintro e w' ⟨v,J',rfl,hle,hv',hi'⟩;have hs':=(hs.env hle).aAU hd' hv';obtain⟨σ,k1,k2⟩:=hs';refine hK' _ _ ?_;have k:=nG r (rC dd sv O) σ m' (Q .norm) (λσ' m'=> ∃ O',Rep n σ' O'/\Q .norm O' m') hw k1 hk (λσ' O' m' hr hq=>⟨O',hr,hq⟩);have:=jw (Q:=af5 n β d Q R) hΓ.hook _ _ σ m' _ hp k (λσ' m' J' a' w' ⟨O',hr,hq⟩ hi' hs' hd'=> .inl ⟨.norm,O',m',J',trivial,hq,hi',⟨σ',hr,hs'⟩,hd'⟩) J' (a.put dd v) w' hi' k2 (by rw[put_defers];exact hd)
   exact this
  ·refine(hc β J vs w hG hi h1).mono ?_;rintro e w' ⟨v,J',rfl,hle,hv',hi'⟩;exact .inr ⟨v,x,O,m',J',rfl,hk,hv',hi',hs.env hle,hd⟩
 ·exact h.elim
theorem PC.sound{G:Env->Prop}(EG:OnH G){Γ:FH}(hΓ:aW P Γ){quiet:FuncId->Bool}{n n0:Nat}{β:Base}(hG:G β.J)(hb:β.J.n<=n0){d:List Deferred}{R:SV->Fr->List ay->Prop}:∀ (pc:PC) (c:Code),pc.comp P quiet c=some pc.flat->pc.wf n=true->∀ (Q:Ex->Fr->List ay->Prop) (O:Fr) (m:List ay),pc.wp P G Γ n0 R Q O m->
  ∀ J a w,Inv β J m w->aJ n J O a->a.defers=d->c.wp P (af5 n β d Q R) a w
 | .leaf x,c,hc,hw,Q,O,m,h,J,a,w,hi,hs,hd=>by
  simp only[PC.comp,PC.flat,z03,PI.leaf.injEq,exists_eq_right] at hc;exact z06 (λe a' w' he=> .inl he) (JC.sound hΓ hb x c hc hw Q O m h J a w hi hs hd)
 | .seq x y,c,hc,hw,Q,O,m,h,J,a,w,hi,hs,hd=>by
  obtain⟨x',y',x2,y2,rfl,hx,hy,e⟩:=PC.su hc;simp only[PC.flat,PI.seq.injEq] at e;obtain⟨rfl,rfl⟩:=e;simp only[PC.wf,z02] at hw;simp only[PC.wp] at h;refine wp_seq (z06 (λe a' w' he=> ?_) (PC.sound EG hΓ hG hb x x' hx hw.1 _ O m h J a w hi hs hd));rcases he with he|⟨v,x,O',m',J',rfl,h2⟩
  ·obtain⟨ex,σ',m',J',h1,h2,h3,h4,h5⟩:=he;cases e<;>cases ex<;>simp only[dY] at h1
   ·exact PC.sound EG hΓ hG hb y y' hy hw.2 Q σ' m' h2 J' a' w' h3 h4 h5
   ·exact .inl ⟨_,σ',m',J',by simp only[dY];exact h1,h2,h3,h4,h5⟩
   ·exact .inl ⟨.ret,σ',m',J',trivial,h2,h3,h4,h5⟩
  ·exact .inr ⟨v,x,O',m',J',rfl,h2⟩
 | .cond x y z,c,hc,hw,Q,O,m,h,J,a,w,hi,hs,hd=>by
  obtain⟨x',y',z',x2,y2,z2,rfl,hx,hy,hz,e⟩:=PC.lN hc;simp only[PC.flat,PI.cond.injEq] at e;obtain⟨rfl,rfl,rfl⟩:=e;simp only[PC.wf,z02] at hw;simp only[PC.wp] at h;split at h
  ·rename_i t ht;obtain⟨σ,h1,h2⟩:=hs;have hv0:=aB hx h2;rw[le_eq (h1.fv x) ht (by intro h;cases h)] at hv0
   have hv:=iW hv0;cases t with
   |true=>exact wp_cond_true hv (PC.sound EG hΓ hG hb y y' hy hw.1 Q O m (h.1 rfl) J a w hi ⟨σ,h1,h2⟩ hd)
   |false=>exact wp_cond_false hv (PC.sound EG hΓ hG hb z z' hz hw.2 Q O m (h.2 rfl) J a w hi ⟨σ,h1,h2⟩ hd)
  ·rename_i ht;obtain⟨σ,h1,h2⟩:=hs;have hv0:=aB hx h2;rw[le_eq (h1.fv x) ht (by intro h;cases h)] at hv0
   obtain⟨cs,k1,hv⟩:=hv0;simp only[au] at k1;obtain⟨t,rfl⟩:=k1;cases t with
   |true=>exact wp_cond_true hv (PC.sound EG hΓ hG hb y y' hy hw.1 Q O m h.1 J a w hi ⟨σ,h1,h2⟩ hd)
   |false=>exact wp_cond_false hv (PC.sound EG hΓ hG hb z z' hz hw.2 Q O m h.2 J a w hi ⟨σ,h1,h2⟩ hd)
  ·exact h.elim
 | .block id x,c,hc,hw,Q,O,m,h,J,a,w,hi,hs,hd=>by
  obtain⟨id',x',x2,rfl,hx,e⟩:=PC.lH hc;simp only[PC.flat,PI.block.injEq] at e;obtain⟨rfl,rfl⟩:=e;simp only[PC.wp] at h;refine wp_block (z06 (λe a' w' he=> ?_) (PC.sound EG hΓ hG hb x x' hx hw _ O m h J a w hi hs hd));rcases he with he|⟨v,x,O',m',J',rfl,h2⟩
  ·obtain⟨ex,σ',m',J',h1,h2,h3,h4,h5⟩:=he;cases e<;>cases ex<;>simp only[dY] at h1
   ·exact .inl ⟨.norm,σ',m',J',trivial,h2,h3,h4,h5⟩
   ·subst h1;simp only[Exit.inBlock];simp only at h2;split
    ·rename_i e1;rw[if_pos e1] at h2;exact .inl ⟨.norm,σ',m',J',trivial,h2,h3,h4,h5⟩
    ·rename_i e1;rw[if_neg e1] at h2;exact .inl ⟨.exit _,σ',m',J',rfl,h2,h3,h4,h5⟩
   ·exact .inl ⟨.ret,σ',m',J',trivial,h2,h3,h4,h5⟩
  ·exact .inr ⟨v,x,O',m',J',rfl,h2⟩
 | .loop keep mod x,c,hc,hw,Q,O,m,h,J,a,w,hi,hs,hd=>by
  obtain⟨x',x2,rfl,hx,e⟩:=PC.vJ hc;simp only[PC.flat,PI.loop.injEq] at e;subst e;simp only[PC.wf,z02] at hw;simp only[PC.wp] at h;obtain⟨ι,U,M,ok,μ,i0,hok,hw0,hm0,sD⟩:=h;have hs0:aJ n J (qp mod (U i0) (aX keep O)) a:=hs.weak λk=>Ac k hw0 (dZ keep);refine wp_loop_ghost (λn' a w=> ∃ i J,μ i=n'/\ok i/\Inv β J (M i) w/\aJ n J (qp mod (U i) (aX keep O)) a/\a.defers=d) (μ i0) ⟨i0,J,rfl,hok,hm0▸hi,hs0,hd⟩ ?_;rintro n' a w ⟨i,J,rfl,hok',hi',hs',hd'⟩;refine z06 (λe a' w' he=> ?_) (PC.sound EG hΓ hG hb x x' hx hw.2 _ _ _ (sD i hok') J a w hi' hs' hd');rcases he with he|⟨v,x,O',m',J',rfl,h2⟩
  ·obtain⟨ex,σ',m',J',h1,h2,h3,h4,h5⟩:=he;cases e<;>cases ex<;>simp only[dY] at h1
   ·obtain⟨j,hj1,hj2,hj0,hj3,hj4,hj5⟩:=h2;obtain⟨J2,k1,k2⟩:=uj h3 h4 hb hj0 rfl hj5;exact⟨μ j,hj2,j,J2,rfl,hj1,k1,k2.weak λk=>vK k hj3 (nU k hj4),h5⟩
   ·exact .inl ⟨_,σ',m',J',by simp only[dY];exact h1,h2,h3,h4,h5⟩
   ·exact .inl ⟨.ret,σ',m',J',trivial,h2,h3,h4,h5⟩
  ·exact .inr ⟨v,x,O',m',J',rfl,h2⟩
 | .prune ks x,c,hc,hw,Q,O,m,h,J,a,w,hi,hs,hd=>
  PC.sound EG hΓ hG hb x c hc hw Q _ m h J a w hi (hs.weak λk=>dZ ks) hd
 | .bn k T wd' x,c,hc,hw,Q,O,m,h,J,a,w,hi,hs,hd=>by
  simp only[PC.wf,z02,decide_eq_true_eq] at hw;simp only[PC.wp] at h;obtain⟨J',O',m',h1,h2,h3⟩:=OI hi hs hw.1 h;exact PC.sound EG hΓ hG hb x c hc hw.2 Q O' m' h1 J' a w h2 h3 hd
 | .sel ks x,c,hc,hw,Q,O,m,h,J,a,w,hi,hs,hd=>by
  simp only[PC.wp] at h;refine z06 (λe a' w' he=> ?_) (PC.sound EG hΓ hG hb x c hc hw _ O m h J a w hi hs hd);rcases he with he|⟨v,x,O',m',J',rfl,h2⟩
  ·obtain⟨ex,O',m',J',h1,h2,h3,h4,h5⟩:=he;cases ex with
   |norm=>
    obtain⟨O2,m2,J2,k1,k2,k3⟩:=OJ h2 h3 h4 hb;exact .inl ⟨.norm,O2,m2,J2,h1,k1,k2,k3,h5⟩
   |exit i=>exact .inl ⟨.exit i,O',m',J',h1,h2,h3,h4,h5⟩
   |ret=>exact .inl ⟨.ret,O',m',J',h1,h2,h3,h4,h5⟩
  ·exact .inr ⟨v,x,O',m',J',rfl,h2⟩
 | .jg k F x,c,hc,hw,Q,O,m,h,J,a,w,hi,hs,hd=>by
  simp only[PC.wf,z02,decide_eq_true_eq] at hw;simp only[PC.wp] at h;obtain⟨J',O',m',h1,h2,h3⟩:=Df hi hs hw.1 h;exact PC.sound EG hΓ hG hb x c hc hw.2 Q O' m' h1 J' a w h2 h3 hd
 | .Bz k F x,c,hc,hw,Q,O,m,h,J,a,w,hi,hs,hd=>by
  simp only[PC.wp] at h;obtain⟨J',m',h1,h2,h3⟩:=OL hi hs h;exact PC.sound EG hΓ hG hb x c hc hw Q O m' h1 J' a w h2 h3 hd
 | .aC l dd g ys r,c,hc,hw,Q,O,m,h,J,a,w,hi,hs,hd=>by
  obtain⟨id,ops,pre,o,post,l',d',g',ys',r',rfl,hsp,h1,h2,h3,e⟩:=PC.af6 hc;simp only[PC.flat,PI.aC.injEq] at e;obtain⟨rfl,rfl,rfl,rfl,rfl⟩:=e;simp only[PC.wf,z02] at hw;simp only[PC.wp] at h;refine wp_region_list ?_;rw[hsp];obtain⟨σ,r1,r2⟩:=hs;have k:=nG l O σ m _ (λσ' m'=> ∃ O',Rep n σ' O'/\OH P G g ys O' m' (λsv m'=>r.wp Γ false (Q .norm) (rC dd sv O') m') R) hw.1 r1 h (λσ' O' m' hr hq=>⟨O',hr,hq⟩);refine iQ hΓ.hook pre _ σ m _ h1 k (λσ' m' J' a' w' ⟨O',hr,hq⟩ hi' hs' hd'=> ?_) J a w hi r2 hd;exact atY hΓ h2 h3 hw.2.1 hw.2.2 hq (EG _ _ hi'.kept.H hG) hi' ⟨σ',hr,hs'⟩ hd'
 | .OD l x,c,hc,hw,Q,O,m,h,J,a,w,hi,hs,hd=>by
  obtain⟨id,ops,pre,o,l',x',rfl,hsp,h1,h2,e⟩:=PC.af7 hc;simp only[PC.flat,PI.OD.injEq] at e;obtain⟨rfl,rfl⟩:=e;simp only[PC.wp] at h;refine wp_region_list ?_;rw[hsp];obtain⟨σ,r1,r2⟩:=hs;have k:=nG l O σ m _ (λσ' m'=> ∃ O',Rep n σ' O'/\af4 R O' m' (x.fv O')) hw r1 h (λσ' O' m' hr hq=>⟨O',hr,hq⟩);refine iQ hΓ.hook pre _ σ m _ h1 k (λσ' m' J' a' w' ⟨O',hr,hq⟩ hi' hs' hd'=> ?_) J a w hi r2 hd;unfold af2 at h2;split at h2<;>try (cases h2;done)
  rename_i x0 hgd hop;unfold af4 at hq;split at hq
  ·rename_i t y hx;have hv:=aB h2 hs';rw[le_eq (hr.fv x) hx (by intro h;cases h)] at hv
   obtain⟨xs,k1,k2⟩:=jH hv;refine wpList_step λK' hK'=> ?_;rw[if_pos (by simp[Region.wanted,hgd])]
   unfold z0r;have hrun:(execOp a'.eval o).run P w'= .halt (.panic (.iface t (boxed y.isAgg xs))) w':=by simp only[execOp,hop,Sem.run_bind,k2];rfl
   rw[hrun,Oper.upon_panic];exact .inr ⟨_,_,O',m',J',rfl,hq,by rw[<- k2];exact hv,hi',⟨σ',hr,hs'⟩,hd'⟩
  ·exact hq.elim
def fnP(P:Program)(quiet:FuncId->Bool)(f:FuncId)(z:PC):Option (PI×List ResultVar×Nat):=match P.funcs[f]? with
 |some fn=>match fn.body with
  |some c=>match z.comp P quiet c with
   |some ic=>if fn.name != "runtime.NumGoroutine" then some (ic,fn.results.toList,fn.ntmps) else none
   |none=>none
  |none=>none
 |none=>none
theorem af9{quiet:FuncId->Bool}{f:FuncId}{z:PC}{ic:PI}{rs:List ResultVar}{nt:Nat}(h:fnP P quiet f z=some (ic,rs,nt)):iF P f=true/\∃ fn c,P.funcs[f]? =some fn/\fn.body=some c/\z.comp P quiet c=some ic/\fn.results.toList=rs/\fn.ntmps=nt:=by
 unfold fnP at h;split at h<;>try (cases h;done)
 rename_i fn hf;split at h<;>try (cases h;done)
 rename_i c hc;split at h<;>try (cases h;done)
 rename_i ic' hic;split at h<;>try (cases h;done)
 rename_i hn;simp only[z00,z05] at h;obtain⟨rfl,rfl,rfl⟩:=h;refine⟨?_,fn,c,hf,hc,hic,rfl,rfl⟩;unfold iF;rw[hf];simp only[z02];exact⟨hn,by rw[hc];rfl⟩
def ayb(n0:Nat)(x:SV)(m1:List ay)(y:SV)(_:Fr)(m:List ay):Prop:=Dh (upto n0 0++qw n0 (fG y)) x m1 m y
theorem pO{G:Env->Prop}(EG:OnH G){quiet:FuncId->Bool}{f:FuncId}{pc:PC}{rs:List ResultVar}{nt:Nat}(hfn:fnP P quiet f pc=some (pc.flat,rs,nt))(hwf:pc.wf nt=true){Γ:FH}(hΓ:aW P Γ){args:List SV}{m0 m1:List ay}{res:SV}(hn':z1g args.length nt=true)
  (h:pc.wp P G Γ m0.length (λ_ _ _=>False) (IW rs P m0.length res m1) (vM 0 args) m0):OE P G .returned f args m0 res m1:=by
 have hn:args.length<=nt:=z07 hn';obtain⟨_,fn,c,hf,hb,hc,hrs,hnt⟩:=af9 hfn;intro J w vs af' hg hs;have hlen:args.length=vs.length:=(dO hs 0).1|>λh=>by simpa using h
 refine calls_of_wp hf hb ?_;have hi:=Inv.start hg;have hsl:=dO hs (nt - args.length);have e:fn.ntmps - vs.toArray.size=nt - args.length:=by simp;omega
 rw[e];refine z06 (λe a w' he=> ?_) (PC.sound EG hΓ (β:=⟨w,J,_⟩) af' (z0d hg.n) (d:=[]) pc c hc hwf _ _ _ h J _ w hi ⟨_,pR args nt hn,hsl⟩ rfl);rcases he with he|⟨v,x,O',m',J',rfl,h2,_⟩
 ·obtain⟨ex,O',m',J',h1,h2,h3,⟨σ',hr,h4⟩,h5⟩:=he;replace h2:=Hu hr h2;have fin:∀ (hres:nR P σ' m' (λx=> ∃ ks,Iz ks m0.length res m1 m' x) rs),a.defers=[]/\∃ v,(results fn a.tmps).run P w'= .ok v w'/\
    ∃ v' yZ,Ending.returned v= .returned v'/\bM yZ res v'/\Inv ⟨w,J,λb=> ∃ i,aN J i (ah m0 i)=some b⟩ yZ m1 w':=by
   intro hres;obtain⟨x,⟨ks,⟨k1,k2⟩,k3,k4⟩,hrun⟩:=wO hrs hres;obtain⟨v,e1,e2⟩:=hrun J' a w' h3.good h4;refine⟨h5,v,e1,v,lU ks J',rfl,?_,?_⟩
   ·rw[<- k3];exact e2.ren (ku ks J')
   ·rw[<- k4];exact h3.sel ks k1 (λi hi=>k2 i (by rw[<- hg.n];exact hi))
  cases e<;>cases ex<;>simp only[dY] at h1
  ·exact fin h2
  ·exact h2.elim
  ·exact fin h2
 ·exact h2.elim
theorem nV{G:Env->Prop}(EG:OnH G){quiet:FuncId->Bool}{f:FuncId}{pc:PC}{rs:List ResultVar}{nt:Nat}(hfn:fnP P quiet f pc=some (pc.flat,rs,nt))(hwf:pc.wf nt=true){Γ:FH}(hΓ:aW P Γ){args:List SV}{m0 m1:List ay}{x:SV}(hn':z1g args.length nt=true)
  (h:pc.wp P G Γ m0.length (ayb m0.length x m1) (λ_ _ _=>False) (vM 0 args) m0):OE P G Sx.OD f args m0 x m1:=by
 have hn:args.length<=nt:=z07 hn';obtain⟨_,fn,c,hf,hb,hc,hrs,hnt⟩:=af9 hfn;intro J w vs af' hg hs;have hlen:args.length=vs.length:=(dO hs 0).1|>λh=>by simpa using h
 refine calls_of_wp hf hb ?_;have hi:=Inv.start hg;have hsl:=dO hs (nt - args.length);have e:fn.ntmps - vs.toArray.size=nt - args.length:=by simp;omega
 rw[e];refine z06 (λe a w' he=> ?_) (PC.sound EG hΓ (β:=⟨w,J,_⟩) af' (z0d hg.n) (d:=[]) pc c hc hwf _ _ _ h J _ w hi ⟨_,pR args nt hn,hsl⟩ rfl);rcases he with he|⟨v,y,O',m',J',rfl,h2,hv,h3,h4,h5⟩
 ·obtain⟨ex,O',m',J',h1,h2,_⟩:=he;exact h2.elim
 ·obtain⟨ks,⟨k1,k2⟩,k3,k4⟩:=Di h2;refine⟨h5,v,lU ks J',rfl,?_,?_⟩
  ·rw[<- k3];exact hv.ren (ku ks J')
  ·rw[<- k4];exact h3.sel ks k1 (λi hi=>k2 i (by rw[<- hg.n];exact hi))
def GT:Env->Prop:=λ_=>True
theorem sF:OnH GT:=λ_ _ _ h=>h
theorem OE.ok{f:FuncId}{args:List SV}{m0 m1:List ay}{res:SV}(h:OE P GT .returned f args m0 res m1):FnOK P f args m0 res m1:=λJ w vs hg hs=>h J w vs trivial hg hs
theorem FnOK.g{f:FuncId}{args:List SV}{m0 m1:List ay}{res:SV}(h:FnOK P f args m0 res m1)(G:Env->Prop):OE P G .returned f args m0 res m1:=λJ w vs _ hg hs=>h J w vs hg hs
theorem OE.g{mk:Value->Ending}{f:FuncId}{args:List SV}{m0 m1:List ay}{res:SV}(h:OE P GT mk f args m0 res m1)(G:Env->Prop):OE P G mk f args m0 res m1:=λJ w vs _ hg hs=>h J w vs trivial hg hs
theorem FD{G:Env->Prop}(EG:OnH G){mk:Value->Ending}{f:FuncId}{args jJ:List SV}{m m0 m1:List ay}{res:SV}(h:OE P G mk f jJ m0 res m1)(is:List Nat)(hn:is.Nodup)(hb:∀ i∈is,(ah m i).iH=true)
  (ha:dW (kK is) args=jJ) (hm:lG is m=m0) (hl:is.length<=m1.length) (VO:∀ j,j<is.length->(ah m1 j).iH=true):Mc P G mk f args m (ren (mG is m.length) res) (fA is m m1):=by
 intro β J vs w hG hi hs;have hs':=bg.ren (kK is) args (ku is J) hs;rw[ha] at hs';exact Iy is hn hb hm hl VO hi λhg=>h _ _ _ (EG J _ (λ_ _ h=>h) hG) hg hs'
theorem wV{G:Env->Prop}(EG:OnH G){mk:Value->Ending}{f:FuncId}{args jJ:List SV}{m m1:List ay}{res:SV}(h:OE P G mk f jJ [] res m1)(ha:dW (λ_=>none) args=jJ):
  Mc P G mk f args m (ren (IY m.length) res) (m++m1.map (dM (IY m.length))):=by
 have:=FD EG (m:=m) h [] z15 (λ_ h=>by cases h) (by rw[show kK []=λ_=>none from funext λi=>by simp[kK]];exact ha) rfl (z0o _) (λ_ h=>by cases h)
 have e:(mG [] m.length)=IY m.length:=Md _;rw[e] at this;have e2:fA [] m m1=m++m1.map (dM (IY m.length)):=by simp[fA,e]
 rw[e2] at this;exact this
theorem iU.g{f:FuncId}{args:List SV}{m m':List ay}{sv:SV}(h:iU P f args m sv m')(G:Env->Prop):Mc P G .returned f args m sv m':=λβ J vs w _ hi hs=>h β J vs w hi hs
theorem IZ{G:Env->Prop}(EG:OnH G){mk:Value->Ending}{f:FuncId}{σ α:Type}{T:TypeId}{d:DT σ}{A:DA α}{s s':σ}{y:α}{x:SV}{i:Nat}{m:List ay}
  (h:OE P G mk f (.ptr 0 [] 0::A.aA y) [.blk T (d.aA s)] x [.blk T (d.aA s')]) (hx:∀ r,ren r x=x) (hm:ah m i= .blk T (d.aA s)):Mc P G mk f (.ptr i [] 0::A.aA y) m x (m.set i (.blk T (d.aA s'))):=by
 have hi:i<m.length:=by
  rcases z0v i m.length with hi|hi
  ·exact hi
  ·rw[dh hi] at hm;cases hm
 have key:=FD EG (args:= .ptr i [] 0::A.aA y) (m:=m) h [i] (by simp) (by simp[hm,ay.iH]) (by simp only[dW,A.ren,Sx.ren,kS,kK,List.contains_cons,BEq.rfl,Bool.true_or,if_true,List.idxOf_cons_self])
  (by simp only[lG,z0q,z1e,hm,dM,d.ren]) (by simp) (by intro j hj;simp at hj;subst hj;rfl)
 rw[hx] at key;have hmm:fA [i] m [.blk T (d.aA s')]=m.set i (.blk T (d.aA s')):=by simp[fA,ah,dM,d.ren]
 rwa [hmm] at key
section words
variable {G:Env->Prop} {Γ:FH} {n0:Nat} {R:SV->Fr->List ay->Prop} {Q:Ex->Fr->List ay->Prop} {O:Fr} {m:List ay}
theorem am6{x:JC}:PC.wp P G Γ n0 R (.leaf x) Q O m=x.wp Γ n0 Q O m:=propext Iff.rfl
theorem at7{a b:PC}:PC.wp P G Γ n0 R (.seq a b) Q O m=a.wp P G Γ n0 R (λe O' m'=>match e with
  | .norm=>b.wp P G Γ n0 R Q O' m'
  |e=>Q e O' m') O m:=propext Iff.rfl
theorem am7{x:aS}{a b:PC}:PC.wp P G Γ n0 R (.cond x a b) Q O m=(match x.fv O with
  | .bool t=>(t=true->a.wp P G Γ n0 R Q O m)/\(t=false->b.wp P G Γ n0 R Q O m)
  | .lV=>a.wp P G Γ n0 R Q O m/\b.wp P G Γ n0 R Q O m
  |_=>False):=propext Iff.rfl
theorem aga{id:Nat}{c:PC}:PC.wp P G Γ n0 R (.block id c) Q O m=c.wp P G Γ n0 R (λe O' m'=>match e with
  | .exit i=>if i=id then Q .norm O' m' else Q (.exit i) O' m'
  |e=>Q e O' m') O m:=propext Iff.rfl
theorem agb{ks:List Nat}{c:PC}:PC.wp P G Γ n0 R (.prune ks c) Q O m=c.wp P G Γ n0 R Q (aX ks O) m:=propext Iff.rfl
theorem am8{k:Nat}{T:TypeId}{w:Nat}{c:PC}:PC.wp P G Γ n0 R (.bn k T w c) Q O m=yY k T w (λO' m'=>c.wp P G Γ n0 R Q O' m') O m (look k O):=propext Iff.rfl
theorem aua{ks:List Nat}{c:PC}:PC.wp P G Γ n0 R (.sel ks c) Q O m=c.wp P G Γ n0 R (λe O' m'=>match e with
  | .norm=>aa6 n0 ks (Q .norm) O' m'
  |e=>Q e O' m') O m:=propext Iff.rfl
theorem am9{k:Nat}{F:Ht}{c:PC}:PC.wp P G Γ n0 R (.jg k F c) Q O m=Dc k F (λO' m'=>c.wp P G Γ n0 R Q O' m') O m:=propext Iff.rfl
theorem am'{k:Nat}{F:Ht}{c:PC}:PC.wp P G Γ n0 R (.Bz k F c) Q O m=IU k F (λm'=>c.wp P G Γ n0 R Q O m') O m:=propext Iff.rfl
theorem aub{l:SL}{d:Option Nat}{g:Cal}{ys:List aS}{r:SL}:PC.wp P G Γ n0 R (.aC l d g ys r) Q O m=l.wp Γ false (λO m=>OH P G g ys O m (λsv m'=>r.wp Γ false (Q .norm) (rC d sv O) m') R) O m:=propext Iff.rfl
theorem auc{l:SL}{x:aS}:PC.wp P G Γ n0 R (.OD l x) Q O m=l.wp Γ false (λO m=>af4 R O m (x.fv O)) O m:=propext Iff.rfl
theorem aud{f:FuncId}{ys:List aS}{K:SV->List ay->Prop}:OH P G (.fn f) ys O m K R=((ys.map (aS.fv O)).all SV.isVal=true/\OG P G f (ys.map (aS.fv O)) m K (λx m'=>R x O m')):=nr (by simp only[OH,Cal.tgt,z1z])
theorem ana{x:aS}{ys:List aS}{K:SV->List ay->Prop}:OH P G (.val x) ys O m K R=(match x.fv O with
  | .fn f cap=>(ys.map (aS.fv O)).all SV.isVal=true/\OG P G f (ys.map (aS.fv O)++cap) m K (λx m'=>R x O m')
  |_=>False):=nr (by
 simp only[OH,Cal.tgt];cases aS.fv O x<;>rfl)
theorem aue{t:TypeId}{y:SV}:af4 R O m (.iface t y)=R (.iface t y) O m:=nr rfl
def PC.wpL(P:Program)(G:Env->Prop)(Γ:FH)(n0:Nat)(R:SV->Fr->List ay->Prop)(keep mod:List Nat)(c:PC)(Q:Ex->Fr->List ay->Prop)(_:Hide Γ c Q)(O:Fr)(m:List ay):Prop:=PC.wp P G Γ n0 R (.loop keep mod c) Q O m
theorem agc{keep mod:List Nat}{c:PC}:PC.wp P G Γ n0 R (.loop keep mod c) Q O m=PC.wpL P G Γ n0 R keep mod c Q ⟨⟩ O m:=propext Iff.rfl
theorem arw{keep mod:List Nat}{c:PC}(ι:Type)(U:ι->List SV)(M:ι->List ay)(ok:ι->Prop)(μ:ι->Nat)(i0:ι)
  (h0:ok i0) (hσ:V4 mod (U i0) O) (hm:M i0=m)
  (h:∀ i,ok i->c.wp P G Γ n0 R (λe O' m'=>match e with
    | .norm=> ∃ j,ok j/\μ j<μ i/\n0<=(M j).length/\atR (ug (M j).length) mod (U j) O'/\xX (ug (M j).length) O O' keep/\(m'.take (M j).length).map (dM (ug (M j).length))=M j
    |e=>Q e O' m') (qp mod (U i) (aX keep O)) (M i)) {hd:Hide Γ c Q}:PC.wpL P G Γ n0 R keep mod c Q hd O m:=
 ⟨ι,U,M,ok,μ,i0,h0,hσ,hm,h⟩
theorem V5{c:PC}{O':Fr}{m':List ay}(h1:W.wX O=O')(h2:W.wX m=m'):PC.wp P G Γ n0 R c Q O m=PC.wp P G Γ n0 R c Q O' m':=by subst h1;subst h2;rfl
theorem Rz{keep mod:List Nat}{c:PC}{hd:Hide Γ c Q}{O':Fr}{m':List ay}(h1:W.wX O=O')(h2:W.wX m=m'):PC.wpL P G Γ n0 R keep mod c Q hd O m=PC.wpL P G Γ n0 R keep mod c Q hd O' m':=by subst h1;subst h2;rfl
end words
theorem V6{G:Env->Prop}{f:FuncId}{args args':List SV}{m m':List ay}{K:SV->List ay->Prop}{R:SV->List ay->Prop}(h1:W.wX args=args')(h2:W.wX m=m'):OG P G f args m K R=OG P G f args' m' K R:=by subst h1;subst h2;rfl
attribute [congr] V5 Rz V6
attribute [go_sem] ayb
attribute [go_sem ↓] am6 at7 am7 aga agb am8 aua am9 am' aub auc aud ana aue agc
end Go.Sx
namespace Go.Sx
open Go
variable {P:Program}
def NY(P:Program)(f:FuncId)(u u':FrameMode)(m m':List ay):Prop:=
 ∀ J w,Good J m w->CallsD P f #[.pointer (some ⟨J.blk 1,0,none⟩)] u w λe u2 w'=>u2=u'/\(∃ v,e= .returned v)/\∃ J',Inv ⟨w,J,ownB J m⟩ J' m' w'
def YZ(ops:Array Oper):Option (Nat×Nat):=match ops.toList with
 |[o1,o2]=>match o1.op,o1.dst,o1.guard with
  | .call ⟨.builtin .recover,as,_⟩,some d1,none=>match o2.op,o2.dst,o2.guard with
   | .assign (.tmp a),some d2,none=>if a=d1/\as.size=0 then some (d1,d2) else none
   |_,_,_=>none
  |_,_,_=>none
 |_=>none
def fnR(P:Program)(quiet:FuncId->Bool)(f:FuncId)(z:PC):Option ((Nat×Nat×PI)×List ResultVar×Nat):=match P.funcs[f]? with
 |some fn=>match fn.body with
  |some (.seq (.region _ ops false) c)=>match YZ ops,z.comp P quiet c with
   |some (d1,d2),some ic=>some ((d1,d2,ic),fn.results.toList,fn.ntmps)
   |_,_=>none
  |_=>none
 |none=>none
theorem aeU{ops:Array Oper}{d1 d2:Nat}(h:YZ ops=some (d1,d2)):∃ o1 o2 as ts,ops= #[o1,o2]/\o1.op= .call ⟨.builtin .recover,as,ts⟩/\as= #[]/\o1.dst=some d1/\o1.guard=none/\o2.op= .assign (.tmp d1)/\o2.dst=some d2/\o2.guard=none:=by
 unfold YZ at h;split at h<;>try (cases h;done)
 rename_i o1 o2 ho;split at h<;>try (cases h;done)
 rename_i as ts d h1 h2 h3;split at h<;>try (cases h;done)
 rename_i a d' g1 g2 g3;split at h<;>try (cases h;done)
 rename_i e;obtain⟨rfl,e⟩:=e;simp only[z00,z05] at h;obtain⟨rfl,rfl⟩:=h;exact⟨o1,o2,as,ts,by apply z1q;simpa using ho,h1,z0w e,h2,h3,g1,g2,g3⟩
theorem aw9{quiet:FuncId->Bool}{f:FuncId}{z:PC}{d1 d2:Nat}{ic:PI}{rs:List ResultVar}{nt:Nat}(h:fnR P quiet f z=some ((d1,d2,ic),rs,nt)):∃ fn id o1 o2 ts c,P.funcs[f]? =some fn/\fn.body=some (.seq (.region id #[o1,o2] false) c)/\o1.op= .call ⟨.builtin .recover,#[],ts⟩/\o1.dst=some d1/\o1.guard=none/\o2.op= .assign (.tmp d1)/\o2.dst=some d2/\o2.guard=none/\z.comp P quiet c=some ic/\fn.results.toList=rs/\fn.ntmps=nt:=by
 unfold fnR at h;split at h<;>try (cases h;done)
 rename_i fn hf;split at h<;>try (cases h;done)
 rename_i id ops c hb;split at h<;>try (cases h;done)
 rename_i d1' d2' ic' h1 h2;simp only[z00,z05] at h;obtain⟨⟨rfl,rfl,rfl⟩,rfl,rfl⟩:=h;obtain⟨o1,o2,as,ts,rfl,k1,rfl,k2⟩:=aeU h1;exact⟨fn,id,o1,o2,ts,c,hf,hb,k1,k2.1,k2.2.1,k2.2.2.1,k2.2.2.2.1,k2.2.2.2.2,h2,rfl,rfl⟩
def aml(u u':FrameMode)(v:Value):Prop:= ∀ (c₀:Frame) (cs:List Frame),c₀.mode=u->
 (recoverD (c₀::cs)=some (v,{c₀ with mode:=u'}::cs))\/(recoverD (c₀::cs)=none/\v= .nilIface/\u'=u)
theorem aeV(v:Value):aml (.panicking [{v:=v,recovered:=false}]) (.panicking [{v:=v,recovered:=true}]) v:=by intro c₀ cs h;left;simp only[recoverD,h]
theorem aeW:aml .returning .returning .nilIface:=by intro c₀ cs h;right;exact⟨by simp only[recoverD,h],rfl,rfl⟩
theorem NZ{quiet:FuncId->Bool}{f:FuncId}{z:PC}{d1 d2 nt:Nat}(hfn:fnR P quiet f z=some ((d1,d2,z.flat),[],nt))(hwf:z.wf nt=true){Γ:FH}(hΓ:aW P Γ){u u':FrameMode}{v:Value}{x:SV}(hr:aml u u' v)(hx:∀ J,bM J x v)
  {m0 m1:List ay} (hl:m0.length=2) (hl1:m1.length=2) (hnt:(z1g 1 nt&&(z1y d1 nt&&z1y d2 nt))=true)
  (h:z.wp P GT Γ 2 (λ_ _ _=>False) (λe _ m=>(match e with| .exit _=>False|_=>True)/\(m.take 2).map (dM (ug 2))=m1) (.put d2 x (.put d1 x (vM 0 [.ptr 1 [] 0]))) m0):NY P f u u' m0 m1:=by
 intro J w hg;obtain⟨fn,id,o1,o2,ts,c,hf,hb,k1,k2,k3,k4,k5,k6,hc,hrs,hn⟩:=aw9 hfn;simp only[z02] at hnt;have hn1:=z07 hnt.1;have hd1:d1<nt:=by have:=hnt.2.1;simp only[z1y] at this;exact z07 this
 have hd2:d2<nt:=by have:=hnt.2.2;simp only[z1y] at this;exact z07 this
 refine callsD_of_wpS hf hb λc₀ cs hu=> ?_;apply wpS_seq;apply wpS_region;have hen:J.n=2:=by rw[hg.n,hl]
 have hs:bg [.ptr 1 [] 0] J [.pointer (some ⟨J.blk 1,0,none⟩)]:=by simp only[bg,au];exact⟨_,_,rfl,⟨by omega,trivial,rfl⟩,rfl⟩
 have hsl:=dO hs (nt - 1);have e:fn.ntmps - (#[.pointer (some ⟨J.blk 1,0,none⟩)]:Array Value).size=nt - 1:=by simp;omega
 rw[e];have hi:=Inv.start hg;have hF:aJ nt J (vM 0 [.ptr 1 [] 0]) {tmps:=[.pointer (some ⟨J.blk 1,0,none⟩)].toArray++z0y (nt - 1) undef,defers:=[]}:=⟨_,pR [.ptr 1 [] 0] nt hn1,hsl⟩;have fin:∀ (cs':List Frame),(∃ u'',cs'= {c₀ with mode:=u''}::cs/\u''=u')->∀ a,aJ nt J (.put d2 x (.put d1 x (vM 0 [.ptr 1 [] 0]))) a->a.defers=[]->
   c.wpS P (bodyPostS P fn c₀ cs λe u2 w'=>u2=u'/\(∃ v,e= .returned v)/\∃ J',Inv ⟨w,J,ownB J m0⟩ J' m1 w') a cs' w:=by
  rintro _ ⟨_,rfl,rfl⟩ a ha hd;refine wpS_of_wp (z06 (λe a' w' he=> ?_) (PC.sound sF hΓ (β:=⟨w,J,_⟩) (G:=GT) trivial (z0d hen) (d:=[]) z c hc hwf _ _ _ h J _ w hi ha hd));rcases he with he|⟨v,x,O',m',J',rfl,h2,_⟩
  ·obtain⟨ex,O',m',J',h1,⟨h2,h3⟩,h4,h5,h6⟩:=he;obtain⟨J2,q1,q2⟩:=uj h4 h5 (z0d hen) (z04 2) hl1 h3;have hres:(results fn a'.tmps).run P w'= .ok (ate []) w':=jR hrs (vs:=[]) rfl;cases e<;>cases ex<;>simp only[dY] at h1
   ·exact⟨h6,_,rfl,_,hres,rfl,⟨_,rfl⟩,J2,q1⟩
   ·exact h2.elim
   ·exact⟨h6,_,rfl,_,hres,rfl,⟨_,rfl⟩,J2,q1⟩
  ·exact h2.elim
 have hr2:z14 (#[o1,o2]:Array Oper).size=[0,1]:=rfl;rw[hr2];have e0:(#[o1,o2]:Array Oper)[0]? =some o1:=rfl;have e1:(#[o1,o2]:Array Oper)[1]? =some o2:=rfl;have aCP:∀ (a:Act) (w:World),(execOp a.eval o1).run P w= .ok .recover w:=by intro a w;simp[execOp,k1,resolve];rfl
 have aCQ:∀ (a:Act) (w:World),(execOp a.eval o2).run P w= .ok (.value (a.tmps.getD d1 undef)) w:=by intro a w;simp[execOp,k4,z2e,Array.getD_eq_getD_getElem?]
 have hw1:∀ y,Region.wanted o1 y=true:=by intro y;simp[Region.wanted,k3]
 have hw2:∀ y,Region.wanted o2 y=true:=by intro y;simp[Region.wanted,k6]
 have tail:∀ (cs':List Frame),(∃ u'',cs'= {c₀ with mode:=u''}::cs/\u''=u')->∀ a,aJ nt J (.put d1 x (vM 0 [.ptr 1 [] 0])) a->a.tmps.getD d1 undef=v->a.defers=[]->
   wpOpsS P #[o1,o2] (Exit.thenS (c.wpS P (bodyPostS P fn c₀ cs λe u2 w'=>u2=u'/\(∃ v,e= .returned v)/\∃ J',Inv ⟨w,J,ownB J m0⟩ J' m1 w')) (bodyPostS P fn c₀ cs λe u2 w'=>u2=u'/\(∃ v,e= .returned v)/\∃ J',Inv ⟨w,J,ownB J m0⟩ J' m1 w')) [1] a cs' w:=by
  intro cs' hcs a ha hv hd;simp only[wpOpsS,e1,hw2,if_true,aCQ,Oper.upon_value,hv,k5];show c.wpS P _ _ _ _;exact fin cs' hcs _ (ha.aa7 hd2 (hx J)) (by rw[put_defers];exact hd)
 unfold wpOpsS;simp only[e0,hw1,if_true,aCP,k2];have hput:∀ v',v'=v->((({tmps:= #[.pointer (some ⟨J.blk 1,0,none⟩)]++z0y (nt - 1) undef,defers:=[]}:Act).put (some d1) v').tmps).getD d1 undef=v:=by
  rintro _ rfl;have:d1< (#[z2c (some ⟨J.blk 1,0,none⟩)]++z0y (nt - 1) undef).size:=by simp;omega
  simp[Act.put,Array.getD];intro h;omega
 rcases hr c₀ cs hu with h1|⟨h1,rfl,h3⟩
 ·rw[h1];exact tail _ ⟨u',rfl,rfl⟩ _ (hF.aa7 hd1 (hx J)) (hput v rfl) rfl
 ·rw[h1];exact tail (c₀::cs) ⟨u,by subst hu;rfl,h3.symm⟩ _ (hF.aa7 hd1 (hx J)) (hput _ rfl) rfl
structure LC where
 x:JC
 l:SL
 dv:aS
 z:PC
def LC.flat(d:LC):IC×List dA×aS×PI:=(d.x.flat,d.l.flat none,d.dv,d.z.flat)
def LC.wf(n:Nat)(d:LC):Bool:=d.x.wf n&&(d.l.wf n&&d.z.wf n)
def QD(P:Program)(ops:Array Oper):Option (List dA×aS):=match ops.toList.getLast? with
 |some o=>match o.op,o.guard,o.dst with
  | .defer ⟨.value x,as,_⟩,none,none=>match aQ x,ops.toList.dropLast.mapM (bW P ops) with
   |some x,some l=>if as.size=0 then some (l,x) else none
   |_,_=>none
  |_,_,_=>none
 |none=>none
def fnL(P:Program)(quiet:FuncId->Bool)(f:FuncId)(z:PC):Option ((IC×List dA×aS×PI)×List ResultVar×Nat):=match P.funcs[f]? with
 |some fn=>match fn.body with
  |some (.seq a (.seq (.region _ ops false) c))=>match Sx.comp P quiet a,QD P ops,z.comp P quiet c with
   |some a,some (l,x),some ic=>if fn.name != "runtime.NumGoroutine" then some ((a,l,x,ic),fn.results.toList,fn.ntmps) else none
   |_,_,_=>none
  |_=>none
 |none=>none
theorem aeX{ops:Array Oper}{l:List dA}{x:aS}(h:QD P ops=some (l,x)):∃ pre o x' ts,ops.toList=pre++[o]/\o.op= .defer ⟨.value x',#[],ts⟩/\o.guard=none/\o.dst=none/\aQ x'=some x/\pre.mapM (bW P ops)=some l:=by
 unfold QD at h;split at h<;>try (cases h;done)
 rename_i o ho;split at h<;>try (cases h;done)
 rename_i x' as ts h1 h2 h3;split at h<;>try (cases h;done)
 rename_i x2 l2 g1 g2;split at h<;>try (cases h;done)
 rename_i e0;simp only[z00,z05] at h;obtain⟨rfl,rfl⟩:=h;obtain⟨ys,e⟩:=z1a.1 ho;exact⟨ops.toList.dropLast,o,x',ts,by rw[e];simp,by rw[h1,z0w e0],h2,h3,g1,g2⟩
theorem aw'{quiet:FuncId->Bool}{f:FuncId}{z:PC}{a:IC}{l:List dA}{x:aS}{ic:PI}{rs:List ResultVar}{nt:Nat}(h:fnL P quiet f z=some ((a,l,x,ic),rs,nt)):iF P f=true/\∃ fn id ops ca c,P.funcs[f]? =some fn/\fn.body=some (.seq ca (.seq (.region id ops false) c))/\Sx.comp P quiet ca=some a/\QD P ops=some (l,x)/\z.comp P quiet c=some ic/\fn.results.toList=rs/\fn.ntmps=nt:=by
 unfold fnL at h;split at h<;>try (cases h;done)
 rename_i fn hf;split at h<;>try (cases h;done)
 rename_i ca id ops c hb;split at h<;>try (cases h;done)
 rename_i a' l' x' ic' h1 h2 h3;split at h<;>try (cases h;done)
 rename_i hn;simp only[z00,z05] at h;obtain⟨⟨rfl,rfl,rfl,rfl⟩,rfl,rfl⟩:=h;refine⟨?_,fn,id,ops,ca,c,hf,hb,h1,h2,h3,rfl,rfl⟩;unfold iF;rw[hf];simp[hb];simpa using hn
def LC.wp(P:Program)(G:Env->Prop)(Γ:FH)(df:FuncId)(R:SV->Fr->List ay->Prop)(d:LC)(Q:Ex->Fr->List ay->Prop)(O:Fr)(m:List ay):Prop:=
 d.x.wp Γ 1 (λe O m=>match e with
  | .norm=>d.l.wp Γ false (λO m=>d.dv.fv O= .fn df [.ptr 1 [] 0]/\(m.length=2/\(ah m 0).iH=true)/\d.z.wp P G Γ 2 R Q O m) O m
  |_=>False) O m
def yx(t:Nat)(Td Ts:TypeId)(c:SV)(s:List UInt8)(O:Fr)(m:List ay):Prop:=
 look t O= .ptr 1 [] 0/\(m.take 2).map (dM (ug 2))=[.blk Td c, .blk Ts (.str s)]
theorem amm{G:Env->Prop}(EG:OnH G){quiet:FuncId->Bool}{f:FuncId}{lc:LC}{t Ts nt:Nat}(hfn:fnL P quiet f lc.z=some (lc.flat,[.cell t Ts],nt))(hwf:lc.wf nt=true){Γ:FH}(hΓ:aW P Γ){df:FuncId}(hdf:iF P df=true)(hTs:qm P Ts=some (1,false))
  {args:List SV} {Td:TypeId} {c0 c1:SV} {s1:List UInt8} (hc1:ren (kK [0]) c1=c1) (hn':z1g args.length nt=true) {E:SV->List UInt8->Prop}
  (hC0:NY P df .returning .returning [.blk Td c1, .blk Ts (.str s1)] [.blk Td c1, .blk Ts (.str s1)])
  (hC1:∀ x s0 J v,E x s0->bM J x v->NY P df (.panicking [{v:=v,recovered:=false}]) (.panicking [{v:=v,recovered:=true}]) [.blk Td c1, .blk Ts (.str s0)] [.blk Td c1, .blk Ts (.str s1)])
  (h:lc.wp P G Γ df (λx O m=> ∃ s0,E x s0/\yx t Td Ts c1 s0 O m) (λe O m=>(match e with| .exit _=>False|_=>True)/\yx t Td Ts c1 s1 O m) (vM 0 args) [.blk Td c0]):
  OE P G .returned f args [.blk Td c0] (.str s1) [.blk Td c1]:=by
 have hn:args.length<=nt:=z07 hn';obtain⟨_,fn,id,ops,ca,c,hf,hb,hx,hd,hz,hrs,hnt⟩:=aw' hfn;obtain⟨pre,o,x',ts,p1,p2,p3,p4,p5,p6⟩:=aeX hd;simp only[LC.wf,z02] at hwf;intro J w vs af' hg hs;have hlen:args.length=vs.length:=(dO hs 0).1|>λh=>by simpa using h
 refine calls_of_wp_defers hf hb ?_;have hi:=Inv.start hg;have hsl:=dO hs (nt - args.length);have e:fn.ntmps - vs.toArray.size=nt - args.length:=by simp;omega
 rw[e];have hen:J.n=1:=hg.n;have hb0:J.n<=1:=z0d hen;refine wp_seq (z06 (λe a w1 he=> ?_) (JC.sound hΓ (β:=⟨w,J,_⟩) hb0 (d:=[]) lc.x ca hx hwf.1 _ _ _ h J _ w hi ⟨_,pR args nt hn,hsl⟩ rfl));obtain⟨ex,τ1,m1',J1,h1,h2,h3,h4,h5⟩:=he;cases ex with
 |exit k=>exact h2.elim
 |ret=>exact h2.elim
 |norm=>
 cases e<;>simp only[dY] at h1;show Code.wp P (.seq (.region id ops false) c) _ a w1;refine wp_seq (wp_region_list ?_);rw[p1];obtain⟨σ,r1,r2⟩:=h4;have k:=nG lc.l τ1 σ m1' _ (λσ' m'=> ∃ O',Rep nt σ' O'/\_) hwf.2.1 r1 h2 (λσ' O' m' hr hq=>⟨O',hr,hq⟩);refine iQ hΓ.hook pre _ σ m1' _ p6 k (λσ2 m2 J2 a2 w2 ⟨O2,hr2,hdv,⟨hm2,hm0⟩,hq2⟩ hi2 hs2 hd2=> ?_) J1 a w1 h3 r2 h5;have hv2:=aB p5 hs2;rw[le_eq (hr2.fv lc.dv) hdv (by intro h;cases h)] at hv2
 obtain⟨cv,q1,q2⟩:=IV hv2;simp only[bg,au] at q1;obtain⟨cs0,t0,rfl,⟨q3,_,rfl⟩,rfl⟩:=q1;have hp:(boxed (SV.ptr 1 [] 0).isAgg [z2c (some ⟨J2.blk 1,0,none⟩)])= .pointer (some ⟨J2.blk 1,0,none⟩):=rfl;rw[hp] at q2;have hrun:(execOp a2.eval o).run P w2= .ok (.defer ⟨.fn (.func df) #[.pointer (some ⟨J2.blk 1,0,none⟩)],#[]⟩) w2:=by unfold execOp;simp[p2,resolve,Deferred.ofValue,q2]
 refine wpList_plain p3 λK' hK'=> ?_;unfold z0r;rw[hrun,Oper.upon_defer,p4];refine hK' _ _ (wpList_nil ?_);show Code.wp P c _ _ w2;have hn2:J2.n=2:=by rw[hi2.good.n,hm2]
 refine z06 (λe a w' he=> ?_) (PC.sound EG hΓ (β:=⟨w2,J2,ownB J2 m2⟩) (EG _ _ hi2.kept.H af') (z0d hn2) (d:=[⟨.fn (.func df) #[.pointer (some ⟨J2.blk 1,0,none⟩)],#[]⟩]) lc.z c hz hwf.2.2 _ _ _ hq2 J2 _ w2 (Inv.start hi2.good) ⟨σ2,hr2,hs2⟩ (by show _::a2.defers=_;rw[hd2]))
 have inv:∀ dargs w,(invoke (.fn (.func df) #[dargs]) #[]).run P w= .ok (.enter df #[dargs]) w:=by intro dargs w;simp[invoke,jv hdf]
 have fin:∀ (J':Env) (w':World),Inv ⟨w,J,λb=> ∃ i,aN J i (ah [.blk Td c0] i)=some b⟩ J' [.blk Td c1, .blk Ts (.str s1)] w'->a.tmps.getD t undef= .pointer (some ⟨J'.blk 1,0,none⟩)->
   ∃ v,(results fn a.tmps).run P w'= .ok v w'/\∃ v' yZ,Ending.returned v= .returned v'/\bM yZ (.str s1) v'/\Inv ⟨w,J,λb=> ∃ i,aN J i (ah [.blk Td c0] i)=some b⟩ yZ [.blk Td c1] w':=by
  intro J' w' hI hp;obtain⟨cs,e1,e2⟩:gu J' 1 w' (.blk Ts (.str s1)):=hI.good.res 1;simp only[au] at e2;subst e2;refine⟨.string ⟨s1.toArray⟩,jR hrs (vs:=[.string ⟨s1.toArray⟩]) ?_,_,lU [0] J',rfl,⟨[.string ⟨s1.toArray⟩],by simp only[au],rfl⟩,?_⟩
  ·have:=yO hTs (λ_=>rfl) w' e1 (off:=0) (by simp)
   simp[z16,resV,hp,asAddr,this,boxed,sub]
  ·have:=hI.sel [0] (by simp) (λi hi=>by
    have hi:i<J.n:=hi;have:i=0:=by omega
    subst this;rfl)
   simpa[lG,ah,dM,hc1] using this
 have key:∀ (s0:List UInt8) (O':Fr) (m':List ay) (J':Env) (u:FrameMode) (u2:FrameMode),yx t Td Ts c1 s0 O' m'->Inv ⟨w2,J2,ownB J2 m2⟩ J' m' w'->aJ nt J' O' a->a.defers=[⟨.fn (.func df) #[.pointer (some ⟨J2.blk 1,0,none⟩)],#[]⟩]->u≠ .run->settle u2= .returning->
   NY P df u u2 [.blk Td c1, .blk Ts (.str s0)] [.blk Td c1, .blk Ts (.str s1)]->
   Leaves P fn a.tmps (λe w'=> ∃ v J',e= .returned v/\bM J' (.str s1) v/\Inv ⟨w,J,λb=> ∃ i,aN J i (ah [.blk Td c0] i)=some b⟩ J' [.blk Td c1] w') a.defers u w':=by
  rintro s0 O' m' J' u u2 ⟨l1,l2⟩ h4 h5 h6 hu hse hC;obtain⟨ε3,q1,q2⟩:=uj h4 h5 (z0d hn2) (z04 2) rfl l2;rw[h6];refine leaves_cons hu (inv _ _) ?_;have hb1:ε3.blk 1=J2.blk 1:=q1.blk 1 (by show 1<J2.n;omega)
  have:=hC ε3 w' q1.good;rw[hb1] at this;refine this.mono ?_;rintro e u3 w'' ⟨rfl,⟨v,rfl⟩,ε4,hI⟩;show Leaves P fn a.tmps _ [] (settle u3) w'';rw[hse];have hn3:ε3.n=2:=q1.good.n;have hb2:ε4.blk 1=ε3.blk 1:=hI.blk 1 (by show 1<ε3.n;omega)
  have hI2:=(q1.trans hI (λi hi hh=>by
   have hi:i<J2.n:=hi
   match i,(show i<2 by omega) with
   |0,_=>rfl
   |1,_=>rfl)).1
  have PN:=(hi2.trans hI2 (λi hi hh=>by
   have hi:i<J.n:=hi;obtain rfl:i=0:=by omega
   exact hm0)).1
  refine fin ε4 w'' PN ?_;obtain⟨cs,k1,k2⟩:bM ε3 (.ptr 1 [] 0) (a.tmps.getD t undef):=by have:=q2.sat t;rw[kD,l1] at this;exact this
  simp only[au] at k1;obtain⟨_,_,rfl⟩:=k1;rw[hb2];exact k2
 rcases he with he|⟨v,x,O',m',J',rfl,⟨s0,hE,hl⟩,hv,h3,h4,h5⟩
 ·obtain⟨ex,O',m',J',h1,⟨h2,h3⟩,h4,h5,h6⟩:=he;cases e<;>cases ex<;>simp only[dY] at h1
  ·exact key s1 O' m' J' _ _ h3 h4 h5 h6 (by intro h;cases h) rfl hC0
  ·exact h2.elim
  ·exact key s1 O' m' J' _ _ h3 h4 h5 h6 (by intro h;cases h) rfl hC0
 ·exact key s0 O' m' J' _ _ hl h3 h4 h5 (by intro h;cases h) rfl (hC1 x s0 J' v hE hv)
end Go.Sx
namespace Go.Sx
open Go
variable {P:Program}
theorem anU{f:FuncId}{args:List SV}{l:List (List UInt8)}(hst:strict=false)(h:∀ J w vs,Good J [] w->bg args J vs->Calls P f vs.toArray w λe w'=>
  ∃ A T cur,e= .returned (.slice (some ⟨A,0,none⟩) l.length l.length)/\w.heap.size<=A/\w'.heap[A]? =some (.cells cur T (0,0))/\l.length<=maxLen/\cur.toList=l.map (λx=>Value.string ⟨x.toArray⟩)/\Go.RowKit.Below w.heap.size w w'):
  FnOK P f args [] ((DT.list 1 DT.str).aA l) []:=by
 intro J w vs g hs;refine(h J w vs g hs).mono λe w' ⟨A,T,cur,he,hA,hc,hm,hl,hb⟩=> ?_;subst he;have hi:Inv ⟨w,J,λb=> ∃ i,aN J i (ah [] i)=some b⟩ J [] w':=(Inv.start g).world hb.os hb.tape hb.output hb.size (λh=>absurd h (by rw[hst];simp)) (λk hk=> .inl (hb.block k hk))
 obtain⟨ob,hob⟩:∃ ob:Obj,ob= .cells cur T (0,0):=⟨_,rfl⟩;rw[<- hob] at hc
 let J':Env:= {J with H:=λb=>if b=A then some ob else J.H b}
 have hH:∀ b o,J.H b=some o->J'.H b=some o:=by
  intro b o h;have:b<w.heap.size:=yC g h;show(if b=A then _ else J.H b)=some o
  rw[if_neg (by omega)];exact h
 have hle:J.Le J':=⟨z04 _,λ_ _=>rfl,λ_ _=>rfl,hH⟩;have hmem:∀ i,ah [] i= .dead:=λi=>dh (z0o _);refine⟨.slice (some ⟨A,0,none⟩) l.length l.length,J',rfl,⟨[.slice (some ⟨A,0,none⟩) l.length l.length],?_,rfl⟩,⟨⟨g.n,(λi=>by rw[hmem];trivial),(λi j b _ h1=>by rw[hmem] at h1;cases h1),(λi b h1=>by rw[hmem] at h1;cases h1),λb o hb'=> ?_,g.gl.mono hH⟩,
  ⟨hi.kept.os,hi.kept.tape,hi.kept.output,hi.kept.size,hi.kept.heap,hH,λb o hb'=> ?_,hi.kept.drawn⟩,(λi b h1=>by rw[hmem] at h1;cases h1),z04 _,λ_ _=>rfl,(λ_ _ _=>rfl)⟩⟩
 ·show au (.lst 1 [] DT.str.aA l) J' _;simp only[au];refine⟨some ⟨A,0,none⟩,l.length,rfl,z04 _,hm,(λh=>by cases h),λj hj=>⟨A,0,T,(0,0),cur,rfl,?_,?_,?_⟩⟩
  ·show(if A=A then _ else _)=_
   rw[if_pos rfl,hob]
  ·have:cur.size=l.length:=by rw[<- z0e,hl,z0z]
   omega
  ·rw[hl];have e1:l.getD j []=l[j]:=by simp[z08,hj]
   rw[e1];show sub _ _ 1=[.string ⟨(l[j]).toArray⟩];unfold sub;rw[Nat.zero_add,z1o,z1b (by simpa using hj)]
   simp
 ·have hx:(if b=A then some ob else J.H b)=some o:=hb'
  split at hx
  ·rename_i e;subst e;rw[<- z0x hx];exact hc
  ·exact hi.good.hv b o hx
 ·have hx:(if b=A then some ob else J.H b)=some o:=hb'
  split at hx
  ·rename_i e;subst e;exact .inr (.inl hA)
  ·exact .inl hx
end Go.Sx
