/- A part of DeskRuns' proof. -/
import Derived.Test.YtgnaipcjbmhihaaGreatDoorAa
import Derived.Laws.AppendOwnNone
import Derived.Laws.BytesString
import Derived.Laws.IdiomStrings
import Derived.Orders
import Derived.Deep.LoopGhost
set_option linter.unusedVariables false
set_option linter.unusedSimpArgs false
open Option renaming some.injEq->z00,map_eq_some_iff->z02,bind_some->z0g,some.inj->z0r,map_some->z0s,pure_def->z1h,getD_some->z1s,bind_none->z2l,map_none->z3j
open Array renaming getD_eq_getD_getElem?->z01,getElem?_replicate->z0d,replicate->z0f,getElem?_eq_some_iff->z0m,ext'->z15,getElem?_setIfInBounds->z1i,toList_setIfInBounds->z1m,toList_append->z2h,getElem?_toList->z2x,length_toList->z3e,size_append->z3i,mem_map->z3r
open Nat renaming zero_add->z03,le_refl->z0b,add_zero->z0o,le_of_not_lt->z0x,not_lt_zero->z16,lt_trichotomy->z1e,lt_or_ge->z1f,lt_of_lt_of_le->z1q,ne_of_lt->z1v,le_trans->z1w,zero_le->z2e,le_succ->z2f,add_mul->z2g,lt_succ_self->z2q,lt_of_not_le->z2r,add_assoc->z2v,le_mul_of_pos_right->z2w,le_of_lt->z2y,add_comm->z2z,mul_le_mul_right->z3f,eq_zero_or_pos->z3k
open List renaming getD->z04,mem_append->z05,eq_nil_of_length_eq_zero->z08,getElem?_eq_some_iff->z09,ext_getElem?->z0e,getElem?_eq_none->z0h,map_cons->z0i,mem_of_getElem?->z0j,getElem?_cons_zero->z0k,mem_zipIdx_iff_getElem?->z0l,all_eq_true->z0q,mem_cons_of_mem->z0w,getElem?_zip_eq_some->z0y,getElem?_append_left->z0z,mem_singleton->z18,mem_filterMap->z19,length_append->z1a,map_nil->z1b,mapM_cons->z1c,drop_eq_nil_of_le->z1d,eq_nil_iff_forall_not_mem->z1g,cons.injEq->z1j,toList_toArray->z1k,filterMap_cons->z1l,range->z1o,getElem?_append_right->z1p,getElem?_set->z1r,mem_cons->z1t,length_cons->z1u,nodup_cons->z1x,nil_append->z1y,length_set->z1z,length_map->z2a,replicate->z2c,contains_eq_mem->z2d,mem_cons_self->z2i,getElem?_take->z2j,flatMap_cons->z2m,append_assoc->z2o,getElem_mem->z2p,mem_range->z2s,pairwise_iff_getElem->z2t,count_pos_iff->z3h,size_toArray->z3l,map_snd_zip->z3m,cons_append->z3n,headD_cons->z3o,forIn_cons->z3p,foldl_cons->z3q
open Go.Oper renaming upon_value->z06,wp->z0t
open Bool renaming and_eq_true->z07,false_eq_true->z0u,not_eq_true'->z0v,or_eq_true->z14,and_comm->z3s
open Prod renaming mk.injEq->z0a,snd->z3c
open Go.Sem renaming run_bind->z0c,run_pure->z0n
open Go.Value renaming ownBlock->z0p
open Go.World renaming ownsRow_nil->z2k,grownBy_alloc->z3b
open Classical renaming not_forall->z2u
open Go.Act renaming put->z3a
open Go.Code renaming region->z3d
open ByteArray renaming size->z3g
namespace Go.Sx
open Go
variable {P:Program}
theorem wH.append{J:Env}{w:Nat}{l l2:List SV}{xs ys:List Value}(h:wH J w l xs)(h2:wH J w l2 ys):wH J w (l++l2) (xs++ys):=by
 refine⟨by simp[h.1,h2.1,z2g],λj hj=> ?_⟩
 have e1:=h.1;have e2:=h2.1;rw[z1a] at hj;by_cases hjl:j<l.length
 ·have:=bG (w:=w) hjl;have hg:(l++l2).getD j .junk=l.getD j .junk:=by simp[z04,z0z hjl]
  rw[hg];have hs:sub (xs++ys) (j*w) w=sub xs (j*w) w:=by
   apply z0e;intro k;rw[iK,iK];by_cases hk:k<w
   ·rw[if_pos hk,if_pos hk,z0z (by omega)]
   ·rw[if_neg hk,if_neg hk]
  rw[hs];exact h.2 j hjl
 ·have hg:(l++l2).getD j .junk=l2.getD (j - l.length) .junk:=by simp[z04,z1p (z0x hjl)]
  rw[hg];have hjw:j*w=l.length*w+(j - l.length)*w:=by rw[<- z2g];congr 1;omega
  have hs:sub (xs++ys) (j*w) w=sub ys ((j - l.length)*w) w:=by
   apply z0e;intro k;rw[iK,iK];by_cases hk:k<w
   ·rw[if_pos hk,if_pos hk,z1p (by omega)]
    congr 1;omega
   ·rw[if_neg hk,if_neg hk]
  rw[hs];exact h2.2 _ (by omega)
theorem uD{m:List ay}{w:Nat}{x:SV}{l2:List SV}(h:zM m w x=some l2){J:Env}{W:World}(hg:Good J m W){v:Value}(hx:bM J x v):
  ∃ ao c news,v= .slice ao l2.length c/\wH J w l2 news/\(ao=none->l2=[]/\c=0)/\(∀ a,ao=some a->∀ j u,news[j]? =some u->W.cell? (a.add j)=some u)/\∀ u∈news,u.oneCell'=true:=by
 have red:∃ y,zM m w y=some l2/\bM J y v/\(∀ {O:Type} (w':Nat) (d:O) (f:O->SV) (l:List O),y≠ .lit w' d f l):=by
  cases x
  case lit w' d f l=>exact⟨.lst w' d f l,by simpa only[zM] using h,(Ii hx).1,by intro _ _ _ _ _ h;cases h⟩
  all_goals exact⟨_,h,hx,by intro _ _ _ _ _ h;cases h⟩
 clear h hx;obtain⟨x,h,hx,hnl⟩:=red;cases x<;>simp only[zM] at h<;>try (cases h;done)
 case lit=>exact absurd rfl (hnl _ _ _ _)
 case vec j n=>
  split at h<;>try (cases h;done)
  rename_i T w' l hm;split at h<;>try (cases h;done)
  rename_i hw;subst hw;simp only[z00] at h;subst h;obtain⟨hj,_,rfl⟩:=xE hx;obtain⟨xs,ho,hel⟩:gu J j W (.vec T w' l):=hm▸hg.res j;have hE:wH J w' l xs:=⟨ho.1,hel⟩;have hone:∀ u∈xs,u.oneCell'=true:=by intro u hu;obtain⟨i,hi,hm2⟩:=xH ho.1 hu;exact au.one _ (hel i hi) u hm2
  have ho2:=ho;obtain⟨ol,ho⟩:=ho;rcases ho with⟨e,e2⟩|⟨g,cap,cur,e,_⟩
  ·exact⟨none,0,xs,by rw[e,e2],hE,λ_=>⟨z08 e2,rfl⟩,(λ_ hh=>by cases hh),hone⟩
  ·exact⟨some ⟨g,0,none⟩,cap,xs,e,hE,(λhh=>by cases hh),(λa ha=>by cases ha;exact ho2.cells (g:=g) (by rw[e];rfl)),hone⟩
 case lst O w' d f l=>
  split at h<;>try (cases h;done)
  rename_i hw;subst hw;simp only[z00] at h;subst h;obtain⟨cs,h1,h2⟩:=hx;simp only[au] at h1;obtain⟨ao,cap,rfl,h3,h4,h5,h6⟩:=h1;have hv:v= .slice ao l.length cap:=h2;cases hl:l with
  |nil=>
   subst hl;refine⟨ao,cap,[],by simpa using hv,⟨by simp,λj hj=>by simp at hj⟩,λe=>⟨rfl,h5 e⟩,λa _ j u hu=>by simp at hu,by simp⟩
  |cons x0 r=>
   have hpos:0<l.length:=by rw[hl];simp
   rw[<- hl];obtain⟨b,off,T,fz,cur,rfl,g2,g3,g4⟩:=h6 0 hpos;obtain⟨b',off',T',fz',cur',e',g2',g3',g4'⟩:=h6 (l.length - 1) (by omega)
   simp only[z00,Addr.mk.injEq] at e';obtain⟨rfl,rfl,_⟩:=e';rw[g2] at g2';simp only[z00,Obj.cells.injEq] at g2';obtain⟨rfl,rfl,rfl⟩:=g2';have hbig:off+l.length*w'<=cur.size:=by
    have:(l.length - 1)*w'+w'=l.length*w':=by rw[<- Nat.succ_mul];congr 1;omega
    omega
   have hsl:(sub cur.toList off (l.length*w')).length=l.length*w':=fQ (by simpa using hbig)
   refine⟨some ⟨b,off,none⟩,cap,sub cur.toList off (l.length*w'),by simpa using hv,⟨by rw[hsl];simp,λj hj=> ?_⟩,(λhh=>by cases hh),λa ha j u hu=> ?_,λu hu=> ?_⟩
   ·simp only[z2a] at hj;obtain⟨b2,off2,T2,fz2,aCY,e2,k2,k3,k4⟩:=h6 j hj;simp only[z00,Addr.mk.injEq] at e2;obtain⟨rfl,rfl,_⟩:=e2;rw[g2] at k2;simp only[z00,Obj.cells.injEq] at k2;obtain⟨rfl,rfl,rfl⟩:=k2;rw[sub_sub (bG hj)];have:(l.map f).getD j .junk=f (l.getD j d):=by simp[z04,hj]
    rw[this];exact k4.mono _ (Env.AZ J)
   ·cases ha;rw[Addr.add_lit];rw[iK] at hu;split at hu<;>try (cases hu;done)
    have hb:=hg.hv b _ g2;simp only[World.cell?,hb];simpa using hu
   ·obtain⟨i,hi,hm2⟩:=xH (n:=l.length) (w:=w') hsl hu;obtain⟨b2,off2,T2,fz2,aCY,e2,k2,k3,k4⟩:=h6 i hi;simp only[z00,Addr.mk.injEq] at e2;obtain⟨rfl,rfl,_⟩:=e2;rw[g2] at k2;simp only[z00,Obj.cells.injEq] at k2;obtain⟨rfl,rfl,rfl⟩:=k2;rw[sub_sub (bG hi)] at hm2;exact au.one _ k4 u hm2
 case bF=>
  simp only[z00] at h;subst h;have:=vV hx;exact⟨none,0,[],this,⟨by simp,λj hj=>by simp at hj⟩,λ_=>⟨rfl,rfl⟩,(λ_ hh=>by cases hh),by simp⟩
theorem Ep{E t ty:TypeId}{i:TypeInfo}{z:Value}{w by':Nat}{W:World}(ht:P.underlying t=some (.slice E))(hi:P.info? E=some i)(hz:i.zero=some z)(hw:i.size=w)(hby:i.bytes=by')(hzs:z.cells.size=w)(hw0:0<w)
  {v:Value} {n:Nat} {xs:List Value} (hown:W.ownsRow 0 E w v n xs) {ao:Option Addr} {k c:Nat} {news:List Value} (hl:news.length=k*w) (hnone:ao=none->k=0/\c=0)
  (hnews:∀ a,ao=some a->∀ j u,news[j]? =some u->W.cell? (a.add j)=some u) (h1:∀ u∈news,u.oneCell'=true) (h63:n+k<=maxLen) (hbytes:(n+k)*by'<=140737488355328):
  ∃ v' W',(Builtin.append_ #[t,t] ty #[v, .slice ao k c]).run P W= .ok v' W'/\W'.ownsRow 0 E w v' (n+k) (xs++news)/\(W.grownBy W' v.ownBlock/\W.drawn<=W'.drawn)/\(v'.ownBlock=v.ownBlock\/∀ b,v'.ownBlock=some b->W.heap.size<=b):=by
 cases ao with
 |none=>
  obtain⟨rfl,rfl⟩:=hnone rfl;have hn:news=[]:=z08 (by simpa using hl)
  subst hn;refine⟨v,W,?_,by simpa using hown,⟨⟨rfl,rfl,rfl,z0b _,λ_ _ _=>rfl⟩,z0b _⟩, .inl rfl⟩
  rcases hown.2 with⟨rfl,rfl⟩|⟨g,cap,cur,rfl,_,_,hle,_⟩
  ·simp[Builtin.append_,run_underlying ht,sizeOf,typeInfo,hi,Builtin.lenOf,Builtin.firstCells]
  ·simp[Builtin.append_,run_underlying ht,sizeOf,typeInfo,hi,Builtin.lenOf,Builtin.firstCells,hle,storeCells]
 |some a=>
  obtain⟨v',W',hr,h2,h3,_⟩:=run_append_own (P:=P) W 0 t ty E i z w by' ht hi hz hw hby hzs hw0 v n xs hown a k c news hl (hnews a rfl) h1 h63 hbytes (z2e _)
  refine⟨v',W',hr,h2,?_⟩;subst hw;subst hby;have hsmall:n+k<=9223372036854775807:=by simp only[maxLen] at h63;omega
  rcases hown.2 with⟨rfl,rfl⟩|⟨g,cap,cur,rfl,hbg,hg,hnc,hcm,hcs,htake⟩
  ·by_cases hk:k=0
   ·subst hk;have hn:news=[]:=z08 (by simpa using hl)
    subst hn;have:(Builtin.append_ #[t,t] ty #[.slice none 0 0, .slice (some a) 0 c]).run P W= .ok (.slice none 0 0) W:=by simp[Builtin.append_,run_underlying ht,sizeOf,typeInfo,hi,Builtin.lenOf,Builtin.firstCells,loadCells,loadCellsFrom]
    rw[this] at hr;injection hr with e1 e2;refine⟨⟨h3,by rw[<- e2];first|exact z0b _|exact z2f _|simp⟩,?_⟩
    left;rw[<- e1]
   ·have:=run_append_nil (P:=P) W t ty E i z ht hi hz a k c news hl (hnews a rfl) (by omega) (by omega) (by simp only[z03] at hbytes;omega)
    rw[this] at hr;injection hr with e1 e2;refine⟨⟨h3,by rw[<- e2];first|exact z0b _|exact z2f _|simp⟩,?_⟩
    right;intro b hb;rw[<- e1] at hb;simp[z0p] at hb;omega
  ·by_cases hroom:n+k<=cap
   ·have hfit:n*i.size+news.length<=cur.size:=by rw[hl,hcs,<- z2g];exact z3f _ hroom
    have:=run_append_room (P:=P) W t ty E i ht hi g n cap cur hg a k c news hl (hnews a rfl) h1 hroom hfit;rw[this] at hr;injection hr with e1 e2;refine⟨⟨h3,by rw[<- e2];first|exact z0b _|exact z2f _|simp⟩,?_⟩
    left;rw[<- e1];rfl
   ·have:=run_append_grow (P:=P) W t ty E i z ht hi hz ⟨g,0,none⟩ n cap xs hown.1 (hown.cells (g:=g) rfl) a k c news hl (hnews a rfl) (by omega) (by omega) (growslice_fits (by omega) hbytes)
    rw[this] at hr;injection hr with e1 e2;refine⟨⟨h3,by rw[<- e2];first|exact z0b _|exact z2f _|simp⟩,?_⟩
    right;intro b hb;rw[<- e1] at hb;simp[z0p] at hb;omega
section
variable {o:Oper} {σ:List SV} {m:List ay}
def xP(P:Program)(t:TypeId):Option (TypeId×Nat×Nat):=
 match P.underlying t with
 |some (.slice E)=>match P.info? E,Py P E with
  |some i,some z=>if i.size=wd z/\0<i.size/\0<i.bytes then some (E,i.size,i.bytes) else none
  |_,_=>none
 |_=>none
theorem Cm{t E:TypeId}{w by':Nat}(h:xP P t=some (E,w,by')):P.underlying t=some (.slice E)/\∃ i z,P.info? E=some i/\i.zero=some z/\i.size=w/\i.bytes=by'/\z.cells.size=w/\0<w/\0<by':=by
 unfold xP at h;split at h<;>try (cases h;done)
 rename_i E' hu;split at h<;>try (cases h;done)
 rename_i i z h1 h2;split at h<;>try (cases h;done)
 rename_i hc;simp only[z00,z0a] at h;obtain⟨rfl,rfl,rfl⟩:=h;obtain⟨i',v,e1,e2,e3⟩:=xG h2;rw[h1] at e1;cases e1;have:=au.length _ (e3 ⟨0,λ_=>0,λ_=>undef,λ_=>none⟩);exact⟨hu,i,v,h1,e2,rfl,rfl,by rw[<- z3e,this];exact hc.1.symm,hc.2.1,hc.2.2⟩
def amg(σ:List SV)(m:List ay)(E:TypeId)(w by':Nat)(s x:SV)(K:List SV->SV->List ay->Prop):Prop:=
 match zM m w x with
 |none=>False
 |some l2=>match s with
  | .bF=>l2.length*by'<=140737488355328/\K σ (.vec m.length l2.length) (m++[.vec E w l2])
  | .vec i _=>match ah m i with
   | .vec E' w' l=>(E'=E/\w'=w/\(l.length+l2.length)*by'<=140737488355328)/\
     K (dI i σ) (.vec i (l.length+l2.length)) ((m.map (oz i)).set i (.vec E w (dI i (l++l2))))
   |_=>False
  |_=>False
theorem aeY{t:TypeId}{E:TypeId}{w by':Nat}{s x:Operand}{s' x':aS}{K:List SV->SV->List ay->Prop}
  (ho:o.op= .call {callee:= .builtin .append,args:= #[s,x],argTypes:= #[t,t]}) (ht:xP P t=some (E,w,by')) (hs':aQ s=some s') (hx':aQ x=some x')
  (h:amg σ m E w by' (s'.ev σ) (x'.ev σ) K):∃ σ' sv m',K σ' sv m'/\aas P o σ m σ' sv m':=by
 obtain⟨hu,i,z,hi,hz,hsz,hby,hzs,hw0,hb0⟩:=Cm ht;have hrun:∀ (a:Act) W,(execOp a.eval o).run P W=((Builtin.append_ #[t,t] o.type #[a.eval s,a.eval x]).run P W).andThen λv w=> .ok (.value v) w:=by intro a W;simp[execOp,ho,resolve,invoke,builtin]
 have h63:∀ n:Nat,n*by'<=140737488355328->n<=maxLen:=by
  intro n hn;have:n<=n*by':=z2w _ hb0
  unfold maxLen;omega
 unfold amg at h;split at h
 ·exact h.elim
 ·rename_i l2 hl2;split at h
  ·rename_i es;refine⟨_,_,_,h.2,λβ J a W hI hs Q=> ?_⟩;obtain⟨ao,c,news,e1,e2,e3,e4,e5⟩:=uD hl2 hI.good (aB hx' hs);have e6:=vV (es▸aB hs' hs);obtain⟨v',W',hr,g1,g2,g3⟩:=Ep (P:=P) (ty:=o.type) (W:=W) hu hi hz hsz hby hzs hw0 (z2k W 0 E w) e2.1 (λhn=>by obtain⟨q1,q2⟩:=e3 hn;rw[q1];exact⟨rfl,q2⟩) e4 e5 (by rw[z03];exact h63 _ h.1) (by rw[z03];exact h.1)
   rw[z03,z1y] at g1;have g2':W.grownBy W' none:=g2.1;unfold z0t;rw[hrun,e6,e1,hr,Result.andThen_ok,z06];refine⟨v',J.more 0 v',rfl,?_,hs.mono (J.dJ _ _),hI.more g2' g2.2 ?_ ?_⟩
   ·refine⟨[v'],?_,rfl⟩;simp only[au];have hvv:(J.more 0 v').vv m.length=v':=by simp[Env.more,hI.good.n]
    refine⟨by simp[Env.more,hI.good.n],?_,by rw[hvv]⟩
    rw[hvv];rcases g1.2 with⟨q1,q2⟩|⟨g,cap,cur,q,_,_,q4,_⟩
    ·exact .inl ⟨q1,q2⟩
    ·exact .inr ⟨g,cap,q,q4⟩
   ·have hvv:(J.more 0 v').vv m.length=v':=by simp[Env.more,hI.good.n]
    exact⟨news,by rw[hvv];exact g1,λj hj=>(e2.2 j hj).mono _ (J.dJ _ _)⟩
   ·intro b hb;simp[aN,Env.more,hI.good.n] at hb;rcases g3 with g3|g3
    ·rw[g3] at hb;simp[z0p] at hb
    ·exact g3 b hb
  ·rename_i i' n' es;split at h<;>try (exact h.elim)
   rename_i E' w' l hm;obtain⟨⟨rfl,rfl,hb⟩,hK⟩:=h;refine⟨_,_,_,hK,λβ J a W hI hs Q=> ?_⟩;obtain⟨ao,c,news,e1,e2,e3,e4,e5⟩:=uD hl2 hI.good (aB hx' hs);obtain⟨hi',_,e6⟩:=xE (es▸aB hs' hs);obtain⟨xs,hown,hel⟩:gu J i' W (.vec E' w' l):=hm▸hI.good.res i';obtain⟨v',W',hr,g1,g2,g3⟩:=Ep (P:=P) (ty:=o.type) (W:=W) hu hi hz hsz hby hzs hw0 hown e2.1 (λhn=>by obtain⟨q1,q2⟩:=e3 hn;rw[q1];exact⟨rfl,q2⟩) e4 e5 (h63 _ hb) hb
   have hE:wH J w' (l++l2) (xs++news):=wH.append ⟨hown.1,hel⟩ e2;have hgr:=hI.grown (v':=v') (l':=l++l2) (ys:=xs++news) hm g2.1 g2.2 (by rw[z1a];exact g1) g3 hE.2
   unfold z0t;rw[hrun,e6,e1,hr,Result.andThen_ok,z06];refine⟨v',_,rfl,?_,hs.kill hgr.2,hgr.1⟩;refine⟨[v'],?_,rfl⟩;simp only[au,if_true];refine⟨hi',?_,trivial⟩;rcases g1.2 with⟨q1,q2⟩|⟨g,cap,cur,q,_,_,q4,_⟩
   ·exact .inl ⟨q1,q2⟩
   ·exact .inr ⟨g,cap,q,q4⟩
  ·exact h.elim
end
theorem Inv.drop{β:Base}{J:Env}{m:List ay}{w:World}(h:Inv β J m w){i:Nat}(hi:(ah m i).ayI=true):Inv β J (m.set i .dead) w:=by refine h.QJ (vZ λe=>by rw[e] at hi;cases hi) trivial nofun nofun (λ_ _=>rfl) rfl ⟨rfl,rfl,rfl,rfl⟩
theorem Inv.more2{β:Base}{J:Env}{m:List ay}{w w':World}(h:Inv β J m w){b:Nat}{v:Value}{r:ay}{row:Option Nat}(hg:w.grownBy w' row)(hd:w.drawn<=w'.drawn)
  (hrow:∀ x,row=some x->(∀ i,aN J i (ah m i)≠some x)/\J.H x=none/\x<w.heap.size/\(β.B x\/β.w.heap.size<=x))
  (hres:gu (J.more b v) m.length w' r) (hown:∀ x,aN (J.more b v) m.length r=some x->w.heap.size<=x\/row=some x):
  Inv β (J.more b v) (m++[r]) w':=by
 have hn:=h.good.n;have hw:∀ b,b<w.heap.size->row≠some b->w'.heap[b]? =w.heap[b]? :=λb hb hr=>hg.block b hb (λe=>hr e.symm);have hle:=J.dJ b v;have UZ:∀ i,i<m.length->aN (J.more b v) i (ah (m++[r]) i)=aN J i (ah m i):=by
  intro i hi;rw[bD hi];have hi':i<J.n:=by omega
  cases ah m i<;>simp[aN,Env.more,z1v hi']
 have hcase:∀ i x,aN (J.more b v) i (ah (m++[r]) i)=some x->(i<m.length/\aN J i (ah m i)=some x)\/(i=m.length/\(w.heap.size<=x\/row=some x)):=by
  intro i x hb;rcases z1e i m.length with hi|hi|hi
  ·rw[UZ i hi] at hb;exact .inl ⟨hi,hb⟩
  ·subst hi;rw[jW] at hb;exact .inr ⟨rfl,hown x hb⟩
  ·rw[dh (by simp;omega)] at hb;cases hb
 have hne:∀ i x,aN J i (ah m i)=some x->w'.heap[x]? =w.heap[x]? :=λi x hx=>hw x (dU h.good hx) (λe=>(hrow x e).1 i hx);refine⟨⟨by simp[Env.more,hn],λi=> ?_,λi j x hij h1 h2=> ?_,λi x hb=> ?_,λx o hb=> ?_,h.good.gl⟩,⟨hg.os.trans h.kept.os,hg.tape.trans h.kept.tape,hg.output.trans h.kept.output,z1w h.kept.size hg.size,?_,h.kept.H,h.kept.fresh,λe=>z1w (h.kept.drawn e) hd⟩,λi x hb=> ?_,?_,λi hi=> ?_,λi hi hv=> ?_⟩
 ·rcases z1e i m.length with hi|hi|hi
  ·rw[bD hi];have hi':i<J.n:=by omega
   have hr:=h.good.res i;cases hm:ah m i with
   |dead=>trivial
   |blk T c=>
    rw[hm] at hr;obtain⟨cs,h1,h2⟩:=hr;exact⟨cs,by rw[hle.blk i hi',hne i _ (by rw[hm];rfl)];exact h1,h2.mono c hle⟩
   |vec T wd l=>
    rw[hm] at hr;obtain⟨xs,h1,h2⟩:=hr;refine⟨xs,?_,λj hj=>(h2 j hj).mono _ hle⟩;rw[hle.vv i hi'];refine⟨h1.1,?_⟩;rcases h1.2 with hx|⟨gg,cap,cur,e1,e2,e3,e4⟩
    ·exact .inl hx
    ·exact .inr ⟨gg,cap,cur,e1,e2,by rw[hne i gg (by rw[hm];simp[aN,e1,z0p])];exact e3,e4⟩
   |mp ek ev l=>
    rw[hm] at hr;obtain⟨es,cl,h1,h2⟩:=hr;exact⟨es,cl,by rw[hle.blk i hi',hne i _ (by rw[hm];rfl)];exact h1,h2⟩
  ·subst hi;rw[jW];exact hres
  ·rw[dh (by simp;omega)];trivial
 ·rcases hcase i x h1 with⟨hi,h1'⟩|⟨hi,hb⟩<;>rcases hcase j x h2 with⟨hj,h2'⟩|⟨hj,hb2⟩
  ·exact h.good.pF i j x hij h1' h2'
  ·rcases hb2 with hb2|hb2
   ·have:=dU h.good h1';omega
   ·exact(hrow x hb2).1 i h1'
  ·rcases hb with hb|hb
   ·have:=dU h.good h2';omega
   ·exact(hrow x hb).1 j h2'
  ·omega
 ·rcases hcase i x hb with⟨_,h1⟩|⟨_,h1|h1⟩
  ·exact h.good.sep i x h1
  ·cases hh:J.H x with
   |none=>exact hh
   |some o=>have:=yC h.good hh;omega
  ·exact(hrow x h1).2.1
 ·rw[hw x (yC h.good hb) (λe=>by have h3:=(hrow x e).2.1;have hb':J.H x=some o:=hb;rw[h3] at hb';cases hb')];exact h.good.hv x o hb
 ·intro x hb hB;rw[hw x (z1q hb h.kept.size) (λe=>by
   rcases(hrow x e).2.2.2 with q|q
   ·exact hB q
   ·omega)]
  exact h.kept.heap x hb hB
 ·rcases hcase i x hb with⟨_,h1⟩|⟨_,h1|h1⟩
  ·exact h.own i x h1
  ·right;exact z1w h.kept.size h1
  ·exact(hrow x h1).2.2.2
 ·have:=h.n;simp[Env.more];omega
 ·have:=h.n;have e:=h.blk i hi;simp[Env.more];rw[if_neg (by omega)];exact e
 ·have hn':=h.n;rw[bD (by omega)] at hv
  have e:=h.vv i hi hv;simp[Env.more];rw[if_neg (by omega)];exact e
section
variable {o:Oper} {σ:List SV} {m:List ay}
def Uy(m:List ay)(E:TypeId)(w by':Nat)(s x:SV)(K:SV->List ay->Prop):Prop:=
 match zM m w x with
 |none=>False
 |some l2=>match s with
  | .bF=>l2.length*by'<=140737488355328/\K (.vec m.length l2.length) (m++[.vec E w l2])
  | .vec i _=>match ah m i with
   | .vec E' w' l=>(E'=E/\w'=w/\(l.length+l2.length)*by'<=140737488355328)/\
     K (.vec m.length (l.length+l2.length)) (m.set i .dead++[.vec E w (l++l2)])
   |_=>False
  | .lit w' d f l=>if l2.isEmpty then w'=w/\K (.lit w' d f l) m else(w'=w/\(l.length+l2.length)*by'<=140737488355328)/\
    K (.vec m.length (l.length+l2.length)) (m++[.vec E w (l.map f++l2)])
  |_=>False
theorem QG{E t ty:TypeId}{i:TypeInfo}{z:Value}{w by':Nat}{W:World}(ht:P.underlying t=some (.slice E))(hi:P.info? E=some i)(hz:i.zero=some z)(hw:i.size=w)(hby:i.bytes=by')(hzs:z.cells.size=w)(hw0:0<w)
  {b:Addr} {n:Nat} {xs:List Value} (hlo:xs.length=n*w) (holds:∀ j u,xs[j]? =some u->W.cell? (b.add j)=some u) {a:Addr} {k c:Nat} {news:List Value} (hl:news.length=k*w) (hk:0<k)
  (hnews:∀ j u,news[j]? =some u->W.cell? (a.add j)=some u) (h63:n+k<=maxLen) (hbytes:(n+k)*by'<=140737488355328):
  ∃ v' W',(Builtin.append_ #[t,t] ty #[.slice (some b) n n, .slice (some a) k c]).run P W= .ok v' W'/\W'.ownsRow 0 E w v' (n+k) (xs++news)/\(W.grownBy W' none/\W.drawn<=W'.drawn)/\∀ b,v'.ownBlock=some b->W.heap.size<=b:=by
 subst hw;subst hby;have hsmall:n+k<=9223372036854775807:=by simp only[maxLen] at h63;omega
 have hlen:(xs++news).length=(n+k)*i.size:=by rw[z1a,hlo,hl,z2g]
 have hr:=run_append_grow (P:=P) W t ty E i z ht hi hz b n n xs hlo holds a k c news hl hnews (by omega) (by omega) (growslice_fits (by omega) hbytes)
 have hge:=grownCap_ge W (n+k) n E;have hcm:grownCap W (n+k) n E<=maxLen:=grownCap_le_maxLen W (n+k) n E h63;refine⟨_,_,hr,⟨hlen, .inr ⟨W.heap.size,_,_,rfl,z2e _,heap_alloc_new W.drew _,hge,hcm,?_,?_⟩⟩,⟨⟨rfl,rfl,rfl,by simp,λj hj _=>Go.RowKit.Below.heap_alloc W.drew _ j hj⟩,z2f _⟩,λb hb=> ?_⟩
 ·simp only[z3i,z3l,size_zeroCells,hzs,hlo,hl,<- z2g]
  congr 1
  omega
 ·simp only[z2h,z2o];rw[<- z2o,<- hlen];exact List.take_left
 ·simp only[z0p,z00] at hb;omega
theorem YT{t:TypeId}{E:TypeId}{w by':Nat}{s x:Operand}{s' x':aS}{K:SV->List ay->Prop}
  (ho:o.op= .call {callee:= .builtin .append,args:= #[s,x],argTypes:= #[t,t]}) (ht:xP P t=some (E,w,by')) (hs':aQ s=some s') (hx':aQ x=some x')
  (h:Uy m E w by' (s'.ev σ) (x'.ev σ) K):∃ sv m',K sv m'/\fK P o σ m sv m':=by
 obtain⟨hu,i,z,hi,hz,hsz,hby,hzs,hw0,hb0⟩:=Cm ht;have hrun:∀ (a:Act) W,(execOp a.eval o).run P W=((Builtin.append_ #[t,t] o.type #[a.eval s,a.eval x]).run P W).andThen λv w=> .ok (.value v) w:=by intro a W;simp[execOp,ho,resolve,invoke,builtin]
 have h63:∀ n:Nat,n*by'<=140737488355328->n<=maxLen:=by
  intro n hn;have:n<=n*by':=z2w _ hb0
  unfold maxLen;omega
 have alS:∀ {J:Env} {v':Value} {n:Nat} {ys:List Value} {W':World},J.n=m.length->W'.ownsRow 0 E w v' n ys->bM (J.more 0 v') (.vec m.length n) v':=by
  intro J v' n ys W' hn g1;refine⟨[v'],?_,rfl⟩;simp only[au];have hvv:(J.more 0 v').vv m.length=v':=by simp[Env.more,hn]
  refine⟨by simp[Env.more,hn],?_,by rw[hvv]⟩
  rw[hvv];rcases g1.2 with⟨q1,q2⟩|⟨g,cap,cur,q,_,_,q4,_⟩
  ·exact .inl ⟨q1,q2⟩
  ·exact .inr ⟨g,cap,q,q4⟩
 unfold Uy at h;split at h
 ·exact h.elim
 ·rename_i l2 hl2;split at h
  ·rename_i es;refine⟨_,_,h.2,λβ J a W hI hs Q=> ?_⟩;obtain⟨ao,c,news,e1,e2,e3,e4,e5⟩:=uD hl2 hI.good (aB hx' hs);have e6:=vV (es▸aB hs' hs);obtain⟨v',W',hr,g1,g2,g3⟩:=Ep (P:=P) (ty:=o.type) (W:=W) hu hi hz hsz hby hzs hw0 (z2k W 0 E w) e2.1 (λhn=>by obtain⟨q1,q2⟩:=e3 hn;rw[q1];exact⟨rfl,q2⟩) e4 e5 (by rw[z03];exact h63 _ h.1) (by rw[z03];exact h.1)
   rw[z03,z1y] at g1;have g2':W.grownBy W' none:=g2.1;unfold z0t;rw[hrun,e6,e1,hr,Result.andThen_ok,z06];refine⟨v',J.more 0 v',rfl,alS hI.good.n g1,J.dJ _ _,hI.more g2' g2.2 ?_ ?_⟩
   ·have hvv:(J.more 0 v').vv m.length=v':=by simp[Env.more,hI.good.n]
    exact⟨news,by rw[hvv];exact g1,λj hj=>(e2.2 j hj).mono _ (J.dJ _ _)⟩
   ·intro b hb;simp[aN,Env.more,hI.good.n] at hb;rcases g3 with g3|g3
    ·rw[g3] at hb;simp[z0p] at hb
    ·exact g3 b hb
  ·rename_i i' n' es;split at h<;>try (exact h.elim)
   rename_i E' w' l hm;obtain⟨⟨rfl,rfl,hb⟩,hK⟩:=h;refine⟨_,_,hK,λβ J a W hI hs Q=> ?_⟩;obtain⟨ao,c,news,e1,e2,e3,e4,e5⟩:=uD hl2 hI.good (aB hx' hs);obtain⟨hi',_,e6⟩:=xE (es▸aB hs' hs);obtain⟨xs,hown,hel⟩:gu J i' W (.vec E' w' l):=hm▸hI.good.res i';obtain⟨v',W',hr,g1,g2,g3⟩:=Ep (P:=P) (ty:=o.type) (W:=W) hu hi hz hsz hby hzs hw0 hown e2.1 (λhn=>by obtain⟨q1,q2⟩:=e3 hn;rw[q1];exact⟨rfl,q2⟩) e4 e5 (h63 _ hb) hb
   have hE:wH J w' (l++l2) (xs++news):=wH.append ⟨hown.1,hel⟩ e2;have hoi:aN J i' (ah m i')=(J.vv i').ownBlock:=by rw[hm];rfl
   have hd:=hI.drop (i:=i') (by rw[hm];rfl)
   have hil:i'<m.length:=by rw[<- hI.good.n];exact hi'
   have hat:∀ j,ah (m.set i' .dead) j=if j=i' then .dead else ah m j:=by
    intro j;unfold ah;rw[z04,z1r];by_cases hj:i'=j
    ·subst hj;simp[hil]
    ·rw[if_neg hj,if_neg (λe=>hj e.symm)];rfl
   have hlen:(m.set i' .dead).length=m.length:=by simp
   have hmore:=hd.more2 (b:=0) (v:=v') (r:= .vec E' w' (l++l2)) g2.1 g2.2 (λx hx=>by
    have hx':aN J i' (ah m i')=some x:=by rw[hoi];exact hx
    refine⟨λj hj=> ?_,hI.good.sep i' x hx',dU hI.good hx',hI.own i' x hx'⟩;rw[hat] at hj;by_cases hji:j=i'
    ·rw[if_pos hji] at hj;cases hj
    ·rw[if_neg hji] at hj;exact hI.good.pF j i' x hji hj hx')
    (by
     have hvv:(J.more 0 v').vv (m.set i' .dead).length=v':=by rw[hlen];simp[Env.more,hI.good.n]
     exact⟨xs++news,by rw[hvv,z1a];exact g1,λj hj=>(hE.2 j hj).mono _ (J.dJ _ _)⟩)
    (λx hx=>by
     have hvv:(J.more 0 v').vv (m.set i' .dead).length=v':=by rw[hlen];simp[Env.more,hI.good.n]
     simp only[aN,hvv] at hx;rcases g3 with g3|g3
     ·right;rw[<- g3];exact hx
     ·left;exact g3 x hx)
   unfold z0t;rw[hrun,e6,e1,hr,Result.andThen_ok,z06];exact⟨v',J.more 0 v',rfl,alS hI.good.n g1,J.dJ _ _,hmore⟩
  ·rename_i O w' d f l es;split at h
   ·rename_i hem;obtain⟨rfl,hK⟩:=h;refine⟨_,_,hK,λβ J a W hI hs Q=> ?_⟩;have hl0:l2=[]:=by simpa using hem
    subst hl0;obtain⟨ao,c,news,e1,e2,e3,e4,e5⟩:=uD hl2 hI.good (aB hx' hs);have hsv:=es▸aB hs' hs;obtain⟨q1,ao2,q2,q3⟩:=Ii hsv;have hr:(Builtin.append_ #[t,t] o.type #[.slice ao2 l.length l.length, .slice ao 0 c]).run P W= .ok (.slice ao2 l.length l.length) W:=by
     have hn:news=[]:=z08 (by have:=e2.1;simpa using this)
     cases ao with
     |none=>
      simp[Builtin.append_,run_underlying hu,sizeOf,typeInfo,hi,Builtin.lenOf,Builtin.firstCells,loadCells,storeCells];cases ao2<;>simp[]
     |some a=>
      simp[Builtin.append_,run_underlying hu,sizeOf,typeInfo,hi,Builtin.lenOf,Builtin.firstCells,loadCells,loadCellsFrom,storeCells];cases ao2<;>simp[]
    unfold z0t;have e1':a.eval x= .slice ao 0 c:=e1;rw[hrun,q2,e1',hr,Result.andThen_ok,z06];exact⟨_,J,rfl,q2▸hsv,Env.Le.refl J,hI⟩
   ·rename_i hem;obtain⟨⟨rfl,hb⟩,hK⟩:=h;refine⟨_,_,hK,λβ J a W hI hs Q=> ?_⟩;obtain⟨ao,c,news,e1,e2,e3,e4,e5⟩:=uD hl2 hI.good (aB hx' hs);have hsv:=es▸aB hs' hs;obtain⟨q1,ao2,q2,q3⟩:=Ii hsv;obtain⟨ao3,c3,olds,p1,p2,p3,p4,p5⟩:=uD (m:=m) (w:=w') (l2:=l.map f) (by simp[zM]) hI.good q1
    rw[q2] at p1;simp only[Value.slice.injEq,z2a] at p1;obtain⟨rfl,_,rfl⟩:=p1;have hpos:0<l2.length:=by
     cases l2 with
     |nil=>exact absurd rfl hem
     |cons=>simp
    have hE:wH J w' (l.map f++l2) (olds++news):=wH.append p2 e2;have key:∃ v' W',(Builtin.append_ #[t,t] o.type #[.slice ao2 l.length l.length, .slice ao l2.length c]).run P W= .ok v' W'/\W'.ownsRow 0 E w' v' (l.length+l2.length) (olds++news)/\(W.grownBy W' none/\W.drawn<=W'.drawn)/\∀ b,v'.ownBlock=some b->W.heap.size<=b:=by
     cases ao with
     |none=>obtain⟨h1,_⟩:=e3 rfl;rw[h1] at hpos;simp at hpos
     |some ad=>
      cases ao2 with
      |some bd=>exact QG (P:=P) hu hi hz hsz hby hzs hw0 (by have:=p2.1;simpa using this) (λj u hu=>p4 bd rfl j u hu) e2.1 hpos (λj u hu=>e4 ad rfl j u hu) (h63 _ hb) hb
      |none=>
       have hl0:l.length=0:=q3 rfl;have hol:olds=[]:=z08 (by have:=p2.1;simp[hl0] at this;simpa using this)
       obtain⟨v',W',hr,g1,g2,g3⟩:=Ep (P:=P) (ty:=o.type) (W:=W) hu hi hz hsz hby hzs hw0 (z2k W 0 E w') e2.1 (λhn=>by cases hn) e4 e5 (by have:=h63 _ hb;omega) (by rw[hl0] at hb;exact hb)
       rw[hl0,hol];refine⟨v',W',hr,g1,g2,λb hb=> ?_⟩;rcases g3 with g3|g3
       ·rw[g3] at hb;simp[z0p] at hb
       ·exact g3 b hb
    obtain⟨v',W',hr,g1,g2,g3⟩:=key;unfold z0t;rw[hrun,q2,e1,hr,Result.andThen_ok,z06];refine⟨v',J.more 0 v',rfl,alS hI.good.n g1,J.dJ _ _,hI.more g2.1 g2.2 ?_ ?_⟩
    ·have hvv:(J.more 0 v').vv m.length=v':=by simp[Env.more,hI.good.n]
     exact⟨olds++news,by rw[hvv,z1a,z2a];exact g1,λj hj=>(hE.2 j hj).mono _ (J.dJ _ _)⟩
    ·intro b hb;simp[aN,Env.more,hI.good.n] at hb;exact g3 b hb
  ·exact h.elim
end
end Go.Sx
namespace Go.Sx
open Go
variable {P:Program}
mutual
theorem Fb:∀ (e:ES) {x y:SV} {J J':Env} {cs cs':List Value},gU e x->gU e y->au x J cs->au y J' cs'->nJ e x y=true->cs=cs'
 | .int k,x,y,J,J',cs,cs',hx,hy,sx,sy,h=>by
  obtain⟨a,rfl⟩:∃ a,x= .int k a:=by cases x<;>simp_all [gU]
  obtain⟨b,rfl⟩:∃ b,y= .int k b:=by cases y<;>simp_all [gU]
  simp only[au] at sx sy;simp only[nJ,decide_eq_true_eq] at h;subst sx;subst sy;subst h;rfl
 | .bool,x,y,J,J',cs,cs',hx,hy,sx,sy,h=>by
  obtain⟨a,rfl⟩:∃ a,x= .bool a:=by cases x<;>simp_all [gU]
  obtain⟨b,rfl⟩:∃ b,y= .bool b:=by cases y<;>simp_all [gU]
  simp only[au] at sx sy;simp only[nJ,beq_iff_eq] at h;subst sx;subst sy;subst h;rfl
 | .str,x,y,J,J',cs,cs',hx,hy,sx,sy,h=>by
  obtain⟨a,rfl⟩:∃ a,x= .str a:=by cases x<;>simp_all [gU]
  obtain⟨b,rfl⟩:∃ b,y= .str b:=by cases y<;>simp_all [gU]
  simp only[au] at sx sy;simp only[nJ,decide_eq_true_eq] at h;subst sx;subst sy;subst h;rfl
 | .st l,x,y,J,J',cs,cs',hx,hy,sx,sy,h=>by
  cases x<;>simp only[gU] at hx;cases y<;>simp only[gU] at hy;simp only[au] at sx sy;simp only[nJ] at h;exact KD l hx hy sx sy h
 | .arr n w e,x,y,J,J',cs,cs',hx,hy,sx,sy,h=>by
  cases x<;>simp only[gU] at hx;cases y<;>simp only[gU] at hy;rename_i n1 w1 f n2 w2 g;obtain⟨e1,e2,hx⟩:=hx;obtain⟨e3,e4,hy⟩:=hy;subst e1;subst e2;subst e3;subst e4;simp only[au] at sx sy;simp only[nJ,z0q,z2s] at h;have hp:∀ i,i<n2->sub cs (i*w2) w2=sub cs' (i*w2) w2:=λi hi=>Fb e (hx i hi) (hy i hi) (sx.2 i hi) (sy.2 i hi) (h i hi);rcases z3k w2 with rfl|hw
  ·have c1:cs=[]:=z08 (by simpa using sx.1)
   have c2:cs'=[]:=z08 (by simpa using sy.1)
   rw[c1,c2]
  ·apply z0e;intro k;rcases z1f k (n2*w2) with hk|hk
   ·have hd:k/w2<n2:=Nat.div_lt_of_lt_mul (by rw[Nat.mul_comm];exact hk)
    have hm:k%w2<w2:=Nat.mod_lt _ hw;have:=congrArg (λl=>l[k%w2]?) (hp (k/w2) hd);simp only[iK,if_pos hm] at this
    rwa [Nat.mul_comm,Nat.div_add_mod] at this
   ·rw[z0h (by rw[sx.1];exact hk),z0h (by rw[sy.1];exact hk)]
theorem KD:∀ (l:List ES) {xs ys:List SV} {J J':Env} {cs cs':List Value},lX l xs->lX l ys->bQ xs J cs->bQ ys J' cs'->GY l xs ys=true->cs=cs'
 |[],xs,ys,J,J',cs,cs',hx,hy,sx,sy,h=>by
  cases xs<;>simp only[lX] at hx;cases ys<;>simp only[lX] at hy;simp only[bQ] at sx sy;rw[sx,sy]
 |e::l,xs,ys,J,J',cs,cs',hx,hy,sx,sy,h=>by
  cases xs with
  |nil=>simp only[lX] at hx
  |cons x xs=>
   cases ys with
   |nil=>simp only[lX] at hy
   |cons y ys=>
    simp only[lX] at hx hy;simp only[bQ] at sx sy;obtain⟨a,b,rfl,s1,s2⟩:=sx;obtain⟨a',b',rfl,s1',s2'⟩:=sy;simp only[GY,z07] at h;rw[Fb e hx.1 hy.1 s1 s1' h.1,KD l hx.2 hy.2 s2 s2' h.2]
end
def QH:Value->Prop
 | .bool _| .int _ _| .string _=>True
 |_=>False
mutual
theorem KE:∀ (e:ES) {x:SV} {J:Env} {cs:List Value},gU e x->au x J cs->∀ v∈cs,QH v
 | .int k,x,J,cs,hx,sx,v,hv=>by
  obtain⟨a,rfl⟩:∃ a,x= .int k a:=by cases x<;>simp_all [gU]
  simp only[au] at sx;subst sx;rw[z18.1 hv];trivial
 | .bool,x,J,cs,hx,sx,v,hv=>by
  obtain⟨a,rfl⟩:∃ a,x= .bool a:=by cases x<;>simp_all [gU]
  simp only[au] at sx;subst sx;rw[z18.1 hv];trivial
 | .str,x,J,cs,hx,sx,v,hv=>by
  obtain⟨a,rfl⟩:∃ a,x= .str a:=by cases x<;>simp_all [gU]
  simp only[au] at sx;subst sx;rw[z18.1 hv];trivial
 | .st l,x,J,cs,hx,sx,v,hv=>by
  cases x<;>simp only[gU] at hx;simp only[au] at sx;exact N7 l hx sx v hv
 | .arr n w e,x,J,cs,hx,sx,v,hv=>by cases x<;>simp only[gU] at hx;obtain⟨rfl,rfl,hx⟩:=hx;simp only[au] at sx;obtain⟨i,hi,hm⟩:=xH sx.1 hv;exact KE e (hx i hi) (sx.2 i hi) v hm
theorem N7:∀ (l:List ES) {xs:List SV} {J:Env} {cs:List Value},lX l xs->bQ xs J cs->∀ v∈cs,QH v
 |[],xs,J,cs,hx,sx,v,hv=>by
  cases xs<;>simp only[lX] at hx;simp only[bQ] at sx;subst sx;cases hv
 |e::l,xs,J,cs,hx,sx,v,hv=>by
  cases xs with
  |nil=>simp only[lX] at hx
  |cons x xs=>
   simp only[lX] at hx;simp only[bQ] at sx;obtain⟨a,b,rfl,s1,s2⟩:=sx;rcases z05.1 hv with h|h
   ·exact KE e hx.1 s1 v h
   ·exact N7 l hx.2 s2 v h
end
theorem KF{v:Value}(h:QH v)(n:Nat):Instr.sameBits n v v=true:=by cases v<;>simp only[QH] at h<;>simp[Instr.sameBits,MapKept.bytes_beq]
theorem amw{e:ES}{x:SV}{J:Env}{cs:List Value}(hx:gU e x)(sx:au x J cs)(w:World):(Instr.keyThatStays (boxed x.isAgg cs) (boxed x.isAgg cs)).run P w= .ok (boxed x.isAgg cs) w:=by
 have hp:=KE e hx sx;have:Instr.sameBits 10000 (boxed x.isAgg cs) (boxed x.isAgg cs)=true:=by
  cases hag:x.isAgg with
  |true=>
   show Instr.sameBits (9999+1) (.agg cs.toArray) (.agg cs.toArray)=true;simp only[Instr.sameBits,beq_self_eq_true,Bool.true_and,z0q];intro p hp';obtain⟨i,hi,e1⟩:=List.getElem_of_mem hp';simp only[List.getElem_zip] at e1;subst e1;exact KF (hp _ (z2p _)) _
  |false=>
   have h1:=au.length _ sx;rw[Nc hag] at h1
   match cs,h1 with
   |[v],_=>exact KF (hp v (by simp)) _
 simp[Instr.keyThatStays,this]
theorem Bh{t':TypeId}{e:ES}{w':Nat}(ht:qm P t'=some (w',jf e)){d:Nat}{cs:List Value}{n:Nat}(h1:cs.length=n*w')(w:World)(em:Bool)
  (h0:jf e=false->w'=1) (ih:∀ i,i<n->(Instr.checkKey em d t' (boxed (jf e) (sub cs (i*w') w'))).run P w= .ok () w):
  ∀ is:List Nat,(∀ i∈is,i<n)->(forIn (m:=Sem) is PUnit.unit (λi _=>do Instr.checkKey em d t' (<- part t' cs.toArray (i*(<- sizeOf t')));pure (ForInStep.yield PUnit.unit))).run P w= .ok PUnit.unit w
 |[],_=>by simp
 |i::is,hi=>by
  have hl:=hi i (by simp)
  have hle:=bG (w:=w') hl;have r:=Bh ht h1 w em h0 ih is (λj hj=>hi j (by simp[hj]))
  simp only[z3p,z0c,run_sizeOf ht,Result.andThen_ok,pY ht w cs (i*w') (by omega) h0,ih i hl,z0n]
  exact r
mutual
theorem uF:∀ (e:ES) {t:TypeId} {d:Nat} {x:SV} {J:Env} {cs:List Value} (w:World) (em:Bool),Ia P t e=true->dE e<=d->gU e x->au x J cs->
  (Instr.checkKey em d t (boxed (jf e) cs)).run P w= .ok () w
 | .int k,t,d,x,J,cs,w,em,hb,hd,hx,sx=>by
  obtain⟨a,rfl⟩:∃ a,x= .int k a:=by cases x<;>simp_all [gU]
  simp only[au] at sx;subst sx;simp only[Ia] at hb;split at hb<;>try (cases hb;done)
  rename_i hu;obtain⟨d,rfl⟩:∃ d',d=d'+1:=⟨d - 1,by simp only[dE] at hd;omega⟩
  simp[boxed,jf,Instr.checkKey,run_underlying hu]
 | .bool,t,d,x,J,cs,w,em,hb,hd,hx,sx=>by
  obtain⟨a,rfl⟩:∃ a,x= .bool a:=by cases x<;>simp_all [gU]
  simp only[au] at sx;subst sx;simp only[Ia] at hb;split at hb<;>try (cases hb;done)
  rename_i hu;obtain⟨d,rfl⟩:∃ d',d=d'+1:=⟨d - 1,by simp only[dE] at hd;omega⟩
  simp[boxed,jf,Instr.checkKey,run_underlying hu]
 | .str,t,d,x,J,cs,w,em,hb,hd,hx,sx=>by
  obtain⟨a,rfl⟩:∃ a,x= .str a:=by cases x<;>simp_all [gU]
  simp only[au] at sx;subst sx;simp only[Ia] at hb;split at hb<;>try (cases hb;done)
  rename_i hu;obtain⟨d,rfl⟩:∃ d',d=d'+1:=⟨d - 1,by simp only[dE] at hd;omega⟩
  simp[boxed,jf,Instr.checkKey,run_underlying hu]
 | .st l,t,d,x,J,cs,w,em,hb,hd,hx,sx=>by
  cases x<;>simp only[gU] at hx;simp only[au] at sx;simp only[Ia] at hb;split at hb<;>try (cases hb;done)
  rename_i fs hu;simp only[z07,z0v] at hb;simp only[dE] at hd;obtain⟨d,rfl⟩:∃ d',d=d'+1:=⟨d - 1,by omega⟩
  simp only[boxed,jf,if_true,Instr.checkKey,z0c,run_underlying hu,Result.andThen_ok];rw[<- Array.forIn_toList];have:=zU l w em (d:=d) (fs:=fs.toList) (off:=0) (pre:=[]) hb.1 (by omega) hx sx rfl
  rw[z1y] at this;simp only[this,Result.andThen_ok,z0n]
 | .arr n w' e,t,d,x,J,cs,w,em,hb,hd,hx,sx=>by
  cases x<;>simp only[gU] at hx;obtain⟨rfl,rfl,hx⟩:=hx;simp only[au] at sx;simp only[Ia] at hb;split at hb<;>try (cases hb;done)
  rename_i n' t' hu;simp only[z07,decide_eq_true_eq] at hb;obtain⟨⟨⟨⟨rfl,h2⟩,h3⟩,h4⟩,h5⟩:=hb;simp only[dE] at hd;obtain⟨d,rfl⟩:∃ d',d=d'+1:=⟨d - 1,by omega⟩
  simp only[boxed,jf,if_true,Instr.checkKey,z0c,run_underlying hu,Result.andThen_ok];simp only[Std.Legacy.Range.forIn_eq_forIn_range',Std.Legacy.Range.size,Nat.sub_zero,Nat.add_one_sub_one,Nat.div_one];have:=Bh (P:=P) h3 sx.1 w em (λh=>by rw[<- h4];exact JD h) (λj hj=>uF (d:=d) e w em h5 (by omega) (hx j hj) (sx.2 j hj)) (List.range' 0 n') (λj hj=>by simpa[List.mem_range'] using hj)
  simp only[this,Result.andThen_ok,z0n]
theorem zU:∀ (l:List ES) {xs:List SV} {J:Env} {cs pre:List Value} (w:World) (em:Bool) {d:Nat} {fs:List Field} {off:Nat},Ld P fs off l=true->dEL l<=d->lX l xs->bQ xs J cs->pre.length=off->
  (forIn (m:=Sem) fs PUnit.unit (λf _=>do
   if f.name≠ "_" then do
    Instr.checkKey em d f.type (<- part f.type (pre++cs).toArray f.offset)
    pure (ForInStep.yield PUnit.unit)
   else pure (ForInStep.yield PUnit.unit))).run P w= .ok PUnit.unit w
 |[],xs,J,cs,pre,w,em,d,fs,off,hb,hd,hx,sx,hp=>by
  cases fs with
  |nil=>simp
  |cons=>simp[Ld] at hb
 |e::l,xs,J,cs,pre,w,em,d,fs,off,hb,hd,hx,sx,hp=>by
  cases fs with
  |nil=>simp[Ld] at hb
  |cons f fs=>
   cases xs with
   |nil=>simp only[lX] at hx
   |cons x xs=>
    simp only[lX] at hx;simp only[bQ] at sx;obtain⟨a,b,rfl,s1,s2⟩:=sx;simp only[Ld,z07,decide_eq_true_eq] at hb;obtain⟨⟨⟨⟨b1,b2⟩,b3⟩,b4⟩,b5⟩:=hb;simp only[dEL] at hd;have l1:a.length=wE e:=by rw[au.length _ s1,PG hx.1]
    have q:sub (pre++(a++b)) off (wE e)=a:=by simp only[sub];rw[List.drop_append_of_le_length (by omega),List.drop_of_length_le (by omega),z1y,List.take_append_of_le_length (by omega),List.take_of_length_le (by omega)]
    have r:=zU l (pre:=pre++a) w em (d:=d) (fs:=fs) b5 (by omega) hx.2 s2 (by simp;omega)
    have k:=uF e w em b4 (d:=d) (by omega) hx.1 s1
    have p1:=pY b3 w (pre++(a++b)) off (by simp;omega) (λh=>JD h)
    rw[q] at p1;rw[z2o] at r;simp only[z3p,b1,ne_eq,not_false_eq_true,if_true,z0c,b2,p1,Result.andThen_ok,k,z0n];exact r
end
def lT(e:ES)(k:SV):List (SV×SV)->Option Nat
 |[]=>none
 |p::r=>if nJ e k p.1 then some 0 else(lT e k r).map (· +1)
theorem tH{e:ES}{k:SV}:∀ (l:List (SV×SV)),dQ e k l=(lT e k l).bind λj=>(l[j]?).map (·.2)
 |[]=>rfl
 |p::r=>by
  simp only[dQ,lT];split
  ·rfl
  ·rw[tH r];cases lT e k r<;>rfl
theorem Fe{e:ES}{k v:SV}:∀ (l:List (SV×SV)),gG e k v l=match lT e k l with
  |some j=>l.set j (k,v)
  |none=>l++[(k,v)]
 |[]=>rfl
 |p::r=>by
  simp only[gG,lT];split
  ·rfl
  ·rw[Fe r];cases lT e k r<;>rfl
theorem KG{e:ES}{k:SV}:∀ (l:List (SV×SV)) {j:Nat},lT e k l=some j->∃ p,l[j]? =some p/\nJ e k p.1=true
 |[],j,h=>by cases h
 |p::r,j,h=>by
  simp only[lT] at h;split at h
  ·rename_i hk;cases h;exact⟨p,rfl,hk⟩
  ·simp only[z02] at h;obtain⟨i,hi,rfl⟩:=h;obtain⟨q,h1,h2⟩:=KG r hi;exact⟨q,by simpa using h1,h2⟩
theorem gZ.len{ek ev:ES}:∀ {l:List (SV×SV)} {es:List MapEntry},gZ ek ev l es->es.length=l.length
 |[],[],_=>rfl
 |_::_,_::_,h=>by simp[gZ.len h.2]
 |[],_::_,h=>h.elim
 |_::_,[],h=>h.elim
theorem gZ.at{ek ev:ES}:∀ {l:List (SV×SV)} {es:List MapEntry},gZ ek ev l es->∀ {j:Nat} {p:SV×SV},l[j]? =some p->∃ e,es[j]? =some e/\Nj ek ev p e
 |[],[],_,j,p,h=>by simp at h
 |q::l,e::es,h,j,p,hp=>by
  cases j with
  |zero=>
   simp only[z0k,z00] at hp;subst hp;exact⟨e,rfl,h.1⟩
  |succ j=>simpa using gZ.at h.2 (by simpa using hp)
 |[],_::_,h,_,_,_=>h.elim
 |_::_,[],h,_,_,_=>h.elim
theorem gZ.push{ek ev:ES}{p:SV×SV}{e:MapEntry}(hp:Nj ek ev p e):∀ {l:List (SV×SV)} {es:List MapEntry},gZ ek ev l es->gZ ek ev (l++[p]) (es++[e])
 |[],[],_=>⟨hp,trivial⟩
 |q::l,e'::es,h=>⟨h.1,gZ.push hp h.2⟩
 |[],_::_,h=>h.elim
 |_::_,[],h=>h.elim
theorem gZ.set{ek ev:ES}{p:SV×SV}{e:MapEntry}(hp:Nj ek ev p e):∀ {l:List (SV×SV)} {es:List MapEntry} (j:Nat),gZ ek ev l es->gZ ek ev (l.set j p) (es.set j e)
 |[],[],_,_=>trivial
 |q::l,e'::es,0,h=>⟨hp,h.2⟩
 |q::l,e'::es,j+1,h=>⟨h.1,gZ.set hp j h.2⟩
 |[],_::_,_,h=>h.elim
 |_::_,[],_,h=>h.elim
def amx(e:ES)(d:TypeDesc):Prop:=match e with
  | .int k=>d= .int k
  | .bool=>d= .bool
  | .str=>d= .string
  | .st _=> ∃ fs,d= .struct fs
  | .arr .. => ∃ n t',d= .array n t'
theorem aqS{t:TypeId}{e:ES}(h:Ia P t e=true):∃ d,P.underlying t=some d/\amx e d:=by
 cases e<;>simp only[Ia] at h<;>split at h<;>try (cases h;done)
 ·rename_i hu;simp only[decide_eq_true_eq] at h;exact⟨_,hu,by subst h;rfl⟩
 ·rename_i hu;exact⟨_,hu,rfl⟩
 ·rename_i hu;exact⟨_,hu,rfl⟩
 ·rename_i hu;exact⟨_,hu,_,rfl⟩
 ·rename_i hu;exact⟨_,hu,_,_,rfl⟩
theorem amy{e:ES}{d:TypeDesc}(hd:amx e d)(hag:jf e=false){x y:SV}{J J':Env}{cs cs':List Value}(hx:gU e x)(hy:gU e y)(sx:au x J cs)(sy:au y J' cs'):
  Instr.sameNow d (boxed false cs) (boxed false cs')=some (nJ e x y):=by
 cases e with
 |int k=>
  obtain⟨a,rfl⟩:∃ a,x= .int k a:=by cases x<;>simp_all [gU]
  obtain⟨b,rfl⟩:∃ b,y= .int k b:=by cases y<;>simp_all [gU]
  simp only[au] at sx sy;subst sx;subst sy;subst hd;simp only[boxed,Instr.sameNow,z3o,z0u,if_false,if_true,nJ]
  congr 1
 |bool=>
  obtain⟨a,rfl⟩:∃ a,x= .bool a:=by cases x<;>simp_all [gU]
  obtain⟨b,rfl⟩:∃ b,y= .bool b:=by cases y<;>simp_all [gU]
  simp only[au] at sx sy;subst sx;subst sy;subst hd;rfl
 |str=>
  obtain⟨a,rfl⟩:∃ a,x= .str a:=by cases x<;>simp_all [gU]
  obtain⟨b,rfl⟩:∃ b,y= .str b:=by cases y<;>simp_all [gU]
  simp only[au] at sx sy;subst sx;subst sy;subst hd;have hq:((⟨a.toArray⟩:ByteArray)==⟨b.toArray⟩)=decide (a=b):=by
   have k:∀ x y:ByteArray,(x==y)=(x.data==y.data):=λx y=>by cases x;cases y;rfl
   rw[k];by_cases hab:a=b
   ·subst hab;simp
   ·simp[hab]
  simp only[boxed,Instr.sameNow,z3o,z0u,if_false,nJ,hq]
 |st l=>simp[jf] at hag
 |arr n w e=>simp[jf] at hag
theorem KH{e:ES}{d:TypeDesc}(hd:amx e d)(hag:jf e=false){ev:ES}{x:SV}{J:Env}{cs:List Value}(hx:gU e x)(sx:au x J cs):
  ∀ {l:List (SV×SV)} {es:List MapEntry} (i:Nat),gZ e ev l es->Instr.findNow d (boxed false cs) es i=some ((lT e x l).bind λj=>(es[j]?).map λm=>(i+j,m.val))
 |[],[],i,_=>rfl
 |p::l,m::es,i,h=>by
  obtain⟨h1,h2⟩:=h;obtain⟨cs',s1,s2⟩:=h1.kc;have hpa:p.1.isAgg=false:=by rw[uy h1.k];exact hag
  rw[hpa] at s2;have hn:=amy hd hag hx h1.k sx s1;rw[<- s2] at hn;simp only[Instr.findNow,hn,lT];cases nJ e x p.1
  ·simp only[z0u,if_false];rw[KH hd hag hx sx (i+1) h2];cases lT e x l with
   |none=>rfl
   |some j=>simp[z2v,z2z 1 j]
  ·simp
 |[],_::_,_,h=>h.elim
 |_::_,[],_,h=>h.elim
theorem Bj{t:TypeId}{e:ES}(hb:Ia P t e=true)(hd:dE e<=10000){ev:ES}{x:SV}{J:Env}{cs:List Value}(hx:gU e x)(sx:au x J cs)(w:World):
  ∀ {l:List (SV×SV)} {es:List MapEntry} (i:Nat),gZ e ev l es->(Instr.findAsking t (boxed (jf e) cs) es i).run P w= .ok ((lT e x l).bind λj=>(es[j]?).map λm=>(i+j,m.val)) w
 |[],[],i,_=>by simp[Instr.findAsking,lT]
 |p::l,m::es,i,h=>by
  obtain⟨h1,h2⟩:=h;obtain⟨cs',s1,s2⟩:=h1.kc;rw[uy h1.k] at s2;have hq:(Op.equal t (boxed (jf e) cs) m.key).run P w= .ok (nJ e x p.1) w:=by rw[s2];exact sU e w hb hd hx h1.k sx s1
  simp only[Instr.findAsking,z0c,hq,Result.andThen_ok,lT];cases nJ e x p.1
  ·simp only[z0u,if_false];rw[Bj hb hd hx sx w (i+1) h2];cases lT e x l with
   |none=>rfl
   |some j=>simp[z2v,z2z 1 j]
  ·simp
 |[],_::_,_,h=>h.elim
 |_::_,[],_,h=>h.elim
theorem KJ{t:TypeId}{e:ES}(hb:Ia P t e=true)(hd:dE e<=10000){ev:ES}{x:SV}{J:Env}{cs:List Value}(hx:gU e x)(sx:au x J cs)(w:World){l:List (SV×SV)}{es:List MapEntry}(h:gZ e ev l es):
  (Instr.findKey t (boxed (jf e) cs) es).run P w= .ok ((lT e x l).bind λj=>(es[j]?).map λm=>(j,m.val)) w:=by
 obtain⟨d,hu,hdd⟩:=aqS hb;cases hag:jf e with
 |false=>
  have:=KH hdd hag hx sx 0 h;simp only[Instr.findKey,z0c,run_underlying hu,Result.andThen_ok,this,z0n,z03]
 |true=>
  have hask:=Bj hb hd hx sx w 0 h;rw[hag] at hask;simp only[z03] at hask;cases es with
  |nil=>
   cases l with
   |nil=>simp[Instr.findKey,run_underlying hu,Instr.findNow,lT]
   |cons=>exact h.elim
  |cons m es=>
   have hs:Instr.sameNow d (boxed true cs) m.key=none:=by
    cases e<;>simp[jf] at hag
    ·obtain⟨fs,rfl⟩:=hdd;rfl
    ·obtain⟨n,t',rfl⟩:=hdd;rfl
   simp only[Instr.findKey,z0c,run_underlying hu,Result.andThen_ok,Instr.findNow,hs];exact hask
def zOK:ES->SV->Bool
 | .bool, .bool b=> !b
 | .int k, .int k' n=>decide (k'=k)&&decide (n=0)
 | .str, .str _=>true
 | .st [], .agg []=>true
 | .st [.str, .str], .agg [.str _, .str _]=>true
 | .arr 0 0 (.st []), .agg [.int .i64 _, .jh]=>true
 |_,_=>false
theorem axn{ev:ES}{z:SV}(h:zOK ev z=true):Tv ev z/\pX ev z none=z:=by
 unfold zOK at h;split at h<;>try (cases h;done)
 ·simp only[z0v] at h;subst h;exact⟨trivial,rfl⟩
 ·simp only[z07,decide_eq_true_eq] at h;obtain⟨rfl,rfl⟩:=h;exact⟨rfl,rfl⟩
 ·exact⟨trivial,rfl⟩
 ·exact⟨trivial,rfl⟩
 ·exact⟨⟨trivial,trivial,trivial⟩,rfl⟩
 ·exact⟨trivial,rfl⟩
theorem Y1{ev:ES}{z v:SV}(h:Tv ev v):pX ev z (some v)=v:=by
 cases ev<;>try rfl
 ·cases v<;>simp only[Tv,gU] at h;subst h;rfl
 ·cases v<;>simp only[Tv,gU] at h;rfl
def Y2:Value->Bool
 | .agg _=>true
 |_=>false
theorem Vm(v:Value):v=boxed (Y2 v) v.cells.toList:=by cases v<;>simp[boxed,Y2,Value.cells]
def zbx(P:Program)(t:TypeId)(z:SV):Bool:=match P.info? t with
 |some i=>match i.zero with
  |some v=>Y2 v==z.isAgg
  |none=>false
 |none=>false
theorem Y3{t:TypeId}{z:SV}(h:Py P t=some z)(hb:zbx P t z=true):∃ i v,P.info? t=some i/\i.zero=some v/\∀ J,∃ cs,au z J cs/\v=boxed z.isAgg cs:=by obtain⟨i,v,h1,h2,h3⟩:=xG h;refine⟨i,v,h1,h2,λJ=>⟨_,h3 J,?_⟩⟩;simp only[zbx,h1,h2,beq_iff_eq] at hb;rw[<- hb];exact Vm v
def KL(P:Program)(T:TypeId):Option (ES×ES×SV):=match P.underlying T with
 |some (.map k e)=>match abB P 8 k,(abB P 8 e).or (some (.arr 0 0 (.st []))),Py P e with
  |some ek,some ev,some z=>if Ia P k ek&&decide (dE ek<=100)&&zOK ev z&&zbx P e z then some (ek,ev,z) else none
  |_,_,_=>none
 |_=>none
theorem KN{T:TypeId}{ek ev:ES}{z:SV}(h:KL P T=some (ek,ev,z)):∃ k e,P.underlying T=some (.map k e)/\Ia P k ek=true/\dE ek<=100/\zOK ev z=true/\Py P e=some z/\zbx P e z=true:=by
 unfold KL at h;split at h<;>try (cases h;done)
 rename_i k e hu;split at h<;>try (cases h;done)
 rename_i ek' ev' z' h1 h2 h3;split at h<;>try (cases h;done)
 rename_i hc;simp only[z07,decide_eq_true_eq] at hc;simp only[z00,z0a] at h;obtain⟨rfl,rfl,rfl⟩:=h;exact⟨k,e,hu,hc.1.1.1,hc.1.1.2,hc.1.2,h3,hc.2⟩
def wo(P:Program):Op->Option (MK×List aS)
 | .makeMap T r=>match KL P T with
  |some (ek,ev,_)=>match r with
   |none=>some (.make ek ev,[])
   |some r=>(aQ r).map λr=>(.make ek ev,[r])
  |none=>none
 | .mapUpdate T x k v=>Ij P T x k v
 | .insert T x k v=>Ij P T x k v
 | .lookup T x k ok=>match KL P T with
  |some (ek,ev,z)=>match aQ x,aQ k with
   |some x,some k=>some (.get ek ev z ok,[x,k])
   |_,_=>none
  |none=>none
 | .convert t d x=>match P.underlying t,P.underlying d with
  |some (.slice e),some .string=>match P.underlying e with
   |some (.int .u8)=>(aQ x).map λx=>(.agH,[x])
   |_=>none
  |some .string,some (.slice e)=>match P.underlying e with
   |some (.int .u8)=>(aQ x).map λx=>(.aiw,[x])
   |_=>none
  |_,_=>none
 | .call c=>aaD P c
 |_=>none
where
 aaD (P:Program) (c:Call):Option (MK×List aS):=match c.callee,c.args.toList,c.argTypes.toList with
 | .builtin .len,[x],[t]=>match P.underlying t with
  |some (.map _ _)=>(aQ x).map λx=>(.abA,[x])
  |_=>none
 |_,_,_=>none
 Ij (P:Program) (T:TypeId) (x k v:Operand):Option (MK×List aS):=match KL P T with
 |some (ek,ev,_)=>match aQ x,aQ k,aQ v with
  |some x,some k,some v=>some (.put ek ev,[x,k,v])
  |_,_,_=>none
 |none=>none
theorem Ih{J:Env}{i:Nat}{v:Value}(h:bM J (.map i) v):i<J.n/\v= .map (some (J.blk i)):=by obtain⟨cs,h1,h2⟩:=h;simp only[au] at h1;obtain⟨h1,h3⟩:=h1;subst h3;exact⟨h1,h2⟩
theorem QI{e:ES}{x:SV}(h:gU e x):x.isVal=true:=by cases e<;>cases x<;>simp only[gU] at h<;>rfl
mutual
theorem KO:∀ (e:ES) {x:SV} {J:Env} {cs:List Value},gU e x->au x J cs->au x Env.nil cs
 | .int k,x,J,cs,hx,sx=>by cases x<;>simp only[gU] at hx;exact sx
 | .bool,x,J,cs,hx,sx=>by cases x<;>simp only[gU] at hx;exact sx
 | .str,x,J,cs,hx,sx=>by cases x<;>simp only[gU] at hx;exact sx
 | .st l,x,J,cs,hx,sx=>by
  cases x<;>simp only[gU] at hx;simp only[au] at sx ⊢;exact aaE l hx sx
 | .arr n w e,x,J,cs,hx,sx=>by cases x<;>simp only[gU] at hx;obtain⟨rfl,rfl,hx⟩:=hx;simp only[au] at sx ⊢;exact⟨sx.1,λi hi=>KO e (hx i hi) (sx.2 i hi)⟩
theorem aaE:∀ (l:List ES) {xs:List SV} {J:Env} {cs:List Value},lX l xs->bQ xs J cs->bQ xs Env.nil cs
 |[],xs,J,cs,hx,sx=>by
  cases xs<;>simp only[lX] at hx;exact sx
 |e::l,xs,J,cs,hx,sx=>by
  cases xs with
  |nil=>simp only[lX] at hx
  |cons x xs=>
   simp only[lX] at hx;simp only[bQ] at sx ⊢;obtain⟨a,b,h1,h2,h3⟩:=sx;exact⟨a,b,h1,KO e hx.1 h2,aaE l hx.2 h3⟩
end
theorem aqT{e:ES}{x:SV}(h:Tv e x):x.isVal=true:=by
 unfold Tv at h;split at h
 ·split at h<;>first|rfl|exact h.elim
 ·exact QI h
theorem amA(e:ES){x:SV}{J:Env}{cs:List Value}(hx:Tv e x)(sx:au x J cs):au x Env.nil cs:=by
 unfold Tv at hx;split at hx
 ·split at hx
  ·simp only[au,bQ,bg] at sx ⊢;exact sx
  ·simp only[au,bQ] at sx ⊢;exact sx
  ·exact hx.elim
 ·exact KO e hx sx
def azU(J:Env)(x:SV)(v:Value):Prop:= ∃ cs,au x J cs/\v=boxed x.isAgg cs
theorem Inv.azV{β:Base}{J:Env}{m:List ay}{w:World}(h:Inv β J m w){i:Nat}{ek ev:ES}{l l':List (SV×SV)}{es:Array MapEntry}{clock:Nat}{o:Obj}
  (hm:ah m i= .mp ek ev l) (hb:w.heap[J.blk i]? =some o) (hl:gZ ek ev l' es.toList/\zC es.toList clock):
  Inv β J (m.set i (.mp ek ev l')) {w with heap:=w.heap.setIfInBounds (J.blk i) (.map es clock)}:=by
 have hlt:J.blk i<w.heap.size:=(z0m.1 hb).1;refine h.QJ (vZ (by rw[hm];nofun)) ⟨es,clock,by simp[hlt],hl⟩ (by rw[hm];exact λ_ e=>e) (by rw[hm];exact id) (λb hb=> ?_) (by simp) ⟨rfl,rfl,rfl,rfl⟩
 have:b≠J.blk i:=λe=>hb (by rw[hm,e];rfl)
 simp[Ne.symm this]
section
variable {o:Oper} {σ:List SV} {m:List ay}
theorem N8{T:TypeId}{ek ev:ES}(hrun:∀ J a w,aH J σ a->(execOp a.eval o).run P w= .ok (.value (.map (some w.heap.size))) (w.alloc (.map #[] 0))):
  fK P o σ m (.map m.length) (m++[.mp ek ev []]):=by
 intro β J a w hi hs Q;unfold z0t;rw[hrun J a w hs,z06];have hbl:(J.more w.heap.size undef).blk m.length=w.heap.size:=by simp[Env.more,hi.good.n]
 refine⟨_,J.more w.heap.size undef,rfl,⟨_,by simp only[au];exact⟨by simp[Env.more,hi.good.n],rfl⟩,?_⟩,J.dJ _ _,hi.more (z3b _ _ _) (z0b _) ⟨#[],0,?_,trivial,List.nodup_nil,λe he=>by cases he⟩ ?_⟩
 ·simp[boxed,SV.isAgg,hbl]
 ·rw[hbl];exact heap_alloc_new w _
 ·intro x hx;simp only[aN,hbl,z00] at hx;omega
theorem Vo{es:List MapEntry}{cl:Nat}{e:MapEntry}(h:zC es cl)(he:e.born=cl):zC (es++[e]) (cl+1):=by
 refine⟨?_,λx hx=> ?_⟩
 ·rw[List.map_append,List.nodup_append];refine⟨h.1,by simp,λa ha b hb=> ?_⟩
  obtain⟨x,hx,rfl⟩:=List.mem_map.1 ha;have:=h.2 x hx;simp only[z0i,z1b,z18] at hb;omega
 ·rcases z05.1 hx with hx|hx
  ·have:=h.2 x hx;omega
  ·rw[z18.1 hx,he];exact z2q _
theorem Y4{es:List MapEntry}{cl j:Nat}{e e':MapEntry}(h:zC es cl)(hj:es[j]? =some e)(he:e'.born=e.born):zC (es.set j e') cl:=by
 obtain⟨hlt,rfl⟩:=z09.1 hj;have hm:(es.set j e').map (·.born)=es.map (·.born):=by
  rw[List.map_set,he];apply z0e;intro q;rw[z1r];by_cases hq:j=q
  ·subst hq;simp[hlt]
  ·simp[hq]
 refine⟨by rw[hm];exact h.1,λx hx=> ?_⟩
 have:x.born∈(es.set j e').map (·.born):=List.mem_map_of_mem hx;rw[hm] at this;obtain⟨y,hy,e1⟩:=List.mem_map.1 this;rw[<- e1];exact h.2 y hy
theorem aeZ{T:TypeId}{ek ev:ES}{z:SV}{x k v:Operand}{x' k' v':aS}{i:Nat}{l:List (SV×SV)}(hT:KL P T=some (ek,ev,z))(hrun:∀ a:Act,execOp a.eval o=(do Instr.mapUpdate T (a.eval x) (a.eval k) (a.eval v);pure .skip))
  (hx:aQ x=some x') (hk:aQ k=some k') (hv:aQ v=some v') (ex:x'.ev σ= .map i) (hm:ah m i= .mp ek ev l) (hek:gU ek (k'.ev σ)) (hev:Tv ev (v'.ev σ)):
  fK P o σ m .junk (m.set i (.mp ek ev (gG ek (k'.ev σ) (v'.ev σ) l))):=by
 intro β J a w hi hs Q;obtain⟨kt,et,hu,hb,hd,_,_⟩:=KN hT;obtain⟨hin,e1⟩:=Ih (ex▸aB hx hs);obtain⟨kc,sk,e2⟩:=ig (aB hk hs) (QI hek);obtain⟨vc,sv,e3⟩:=ig (aB hv hs) (aqT hev);obtain⟨es,cl,hh,hE,hS⟩:gu J i w (.mp ek ev l):=hm▸hi.good.res i;have aqU:=uy hek;have hck:=uF (P:=P) (d:=10000) ek w false hb (by omega) hek sk
 have hfk:=KJ (P:=P) hb (by omega) hek sk w hE
 have hnew:Nj ek ev (k'.ev σ,v'.ev σ) {key:=boxed (k'.ev σ).isAgg kc,val:=boxed (v'.ev σ).isAgg vc,born:=cl}:=⟨hek,hev,⟨kc,KO ek hek sk,rfl⟩,⟨vc,amA ev hev sv,rfl⟩⟩;rw[aqU] at e2;have key:∃ es' cl',(Instr.mapUpdate T (a.eval x) (a.eval k) (a.eval v)).run P w= .ok () {w with heap:=w.heap.setIfInBounds (J.blk i) (.map es' cl')}/\gZ ek ev (gG ek (k'.ev σ) (v'.ev σ) l) es'.toList/\zC es'.toList cl':=by
  rw[e1,e2,e3];cases hix:lT ek (k'.ev σ) l with
  |none=>
   rw[hix] at hfk;refine⟨es.push {key:=boxed (jf ek) kc,val:=boxed (v'.ev σ).isAgg vc,born:=cl},cl+1,?_,?_⟩
   ·simp only[Instr.mapUpdate,z0c,run_underlying hu,Result.andThen_ok,MapKept.run_getObj_map hh,hck,hfk,z2l,MapKept.run_setObj_map _ hh]
   ·rw[Fe,hix,Array.toList_push];rw[aqU] at hnew;exact⟨hE.push hnew,Vo hS rfl⟩
  |some j=>
   obtain⟨p,hp,hpe⟩:=KG l hix;obtain⟨e,he,hee⟩:=hE.at hp;rw[hix] at hfk;have he':es[j]? =some e:=by simpa using he
   have hsame:e.key=boxed (jf ek) kc:=by obtain⟨cs',s1,s2⟩:=hee.kc;rw[s2,uy hee.k,Fb ek hek hee.k sk s1 hpe]
   have hst:=amw (P:=P) hek sk w;rw[aqU] at hst;refine⟨es.modify j λe=> {e with key:=boxed (jf ek) kc,val:=boxed (v'.ev σ).isAgg vc},cl,?_,?_⟩
   ·simp only[Instr.mapUpdate,z0c,run_underlying hu,Result.andThen_ok,MapKept.run_getObj_map hh,hck,hfk,z0g,he,z0s,he',z1s,hsame,hst,MapKept.run_setObj_map _ hh]
   ·rw[Fe,hix];have hj:j<es.size:=(z0m.1 he').1;have:(es.modify j λe=> {e with key:=boxed (jf ek) kc,val:=boxed (v'.ev σ).isAgg vc}).toList=es.toList.set j {key:=boxed (jf ek) kc,val:=boxed (v'.ev σ).isAgg vc,born:=e.born}:=by
     apply z0e;intro q;rw[z1r,z2x,Array.getElem?_modify,z2x];have hej:es[j]=e:=by have:=he';rw[Array.getElem?_eq_getElem hj] at this;exact z0r this
     by_cases hq:j=q
     ·subst hq;simp[hj,hej]
     ·simp[hq]
    rw[this];refine⟨hE.set ⟨hek,hev,⟨kc,KO ek hek sk,?_⟩,⟨vc,amA ev hev sv,rfl⟩⟩ j,Y4 hS he rfl⟩;rw[aqU]
 obtain⟨es',cl',hr,hE'⟩:=key;unfold z0t;rw[hrun];simp only[z0c,hr,Result.andThen_ok,z0n];rw[Oper.upon_skip];exact⟨_,J,rfl,trivial,Env.Le.refl J,hi.azV hm hh hE'⟩
theorem ae0{T:TypeId}{ek ev:ES}{z:SV}{ok:Bool}{x k:Operand}{x' k':aS}{i:Nat}{l:List (SV×SV)}(hT:KL P T=some (ek,ev,z))(hrun:∀ a:Act,execOp a.eval o=(do let v <- Instr.lookup T (a.eval x) (a.eval k) ok;pure (.value v)))
  (hx:aQ x=some x') (hk:aQ k=some k') (ex:x'.ev σ= .map i) (hm:ah m i= .mp ek ev l) (hek:gU ek (k'.ev σ)):
  fK P o σ m (if ok then .bK [pX ev z (dQ ek (k'.ev σ) l), .bool (dQ ek (k'.ev σ) l).isSome] else pX ev z (dQ ek (k'.ev σ) l)) m:=by
 intro β J a w hi hs Q;obtain⟨kt,et,hu,hb,hd,hzo,hz,hzb⟩:=KN hT;obtain⟨hz1,hz2⟩:=axn hzo;obtain⟨hin,e1⟩:=Ih (ex▸aB hx hs);obtain⟨kc,sk,e2⟩:=ig (aB hk hs) (QI hek);obtain⟨es,cl,hh,hE,_⟩:gu J i w (.mp ek ev l):=hm▸hi.good.res i;have hck:=uF (P:=P) (d:=10000) ek w es.isEmpty hb (by omega) hek sk
 have hfk:=KJ (P:=P) hb (by omega) hek sk w hE
 rw[uy hek] at e2;have key:∃ (v:Value) (b:Bool),(Instr.lookup T (a.eval x) (a.eval k) ok).run P w= .ok (if ok then .tuple #[v, .bool b] else v) w/\azU J (pX ev z (dQ ek (k'.ev σ) l)) v/\b=(dQ ek (k'.ev σ) l).isSome:=by
  rw[e1,e2];cases hix:lT ek (k'.ev σ) l with
  |none=>
   rw[hix] at hfk;obtain⟨inf,zv,i1,i2,i3⟩:=Y3 hz hzb;have hrz:(zeroValue et).run P w= .ok zv w:=by simp[zeroValue,typeInfo,i1,i2]
   refine⟨zv,false,?_,?_,?_⟩
   ·simp only[Instr.lookup,z0c,run_underlying hu,Result.andThen_ok,MapKept.run_getObj_map hh,z0n,hck,hfk,z2l,hrz]
   ·rw[tH,hix,z2l,hz2];exact i3 J
   ·rw[tH,hix];rfl
  |some j=>
   obtain⟨p,hp,hpe⟩:=KG l hix;obtain⟨e,he,hee⟩:=hE.at hp;rw[hix] at hfk;refine⟨e.val,true,?_,?_,?_⟩
   ·simp only[Instr.lookup,z0c,run_underlying hu,Result.andThen_ok,MapKept.run_getObj_map hh,z0n,hck,hfk,z0g,he,z0s]
   ·rw[tH,hix,z0g,hp,z0s,Y1 hee.v];obtain⟨vc,s1,s2⟩:=hee.vc;exact⟨vc,s1.mono _ (Env.nil_le J),s2⟩
   ·rw[tH,hix,z0g,hp];rfl
 obtain⟨v,b,hr,⟨vc,s1,s2⟩,hb'⟩:=key;unfold z0t;rw[hrun];simp only[z0c,hr,Result.andThen_ok,z0n];rw[z06];refine⟨_,J,rfl,?_,Env.Le.refl J,hi⟩;cases ok with
 |true=>
  simp only[if_true];refine⟨[v, .bool b],?_,rfl⟩;simp only[bg];exact⟨vc,[.bool b],by rw[s2],s1,[.bool b],[],rfl,by rw[hb'];rfl,rfl⟩
 |false=>
  simp only[z0u,if_false];rw[s2];exact iG s1
theorem KP:∀ {l:List SV} {bs:List UInt8},bytesOf l=some bs->∃ ns:List Int,l=ns.map (SV.int .u8)/\bs=ns.map λn=>UInt8.ofNat n.toNat
 |[],bs,h=>by
  simp only[bytesOf,z00] at h;subst h;exact⟨[],rfl,rfl⟩
 |x::r,bs,h=>by
  unfold bytesOf at h;split at h
  ·rename_i e;cases e
  ·rename_i n r' e;cases e;simp only[z02] at h;obtain⟨l,hl,rfl⟩:=h;obtain⟨ns,rfl,rfl⟩:=KP hl;exact⟨n::ns,rfl,rfl⟩
  ·cases h
theorem Y5{J:Env}:∀ {ns:List Int} {xs:List Value},wH J 1 (ns.map (SV.int .u8)) xs->xs=ns.map (Value.int .u8)
 |ns,xs,h=>by
  apply z0e;intro i;have hl:xs.length=ns.length:=by have:=h.1;simpa using this
  by_cases hi:i<ns.length
  ·have h2:=h.2 i (by simpa using hi)
   have e:(ns.map (SV.int .u8)).getD i .junk= .int .u8 ns[i]:=by simp[z04,hi]
   rw[e] at h2;simp only[au] at h2;have h3:(sub xs (i*1) 1)[0]? =some (.int .u8 ns[i]):=by rw[h2];rfl
   rw[iK,if_pos (by omega)] at h3
   simp only[Nat.mul_one,z0o] at h3;rw[h3];simp[hi]
  ·rw[z0h (by omega),z0h (by simpa using hi)]
theorem foldl_push:∀ (ns:List Int) (r:ByteArray),ns.foldl (λr n=>r.push (UInt8.ofNat n.toNat)) r=⟨r.data++(ns.map λn=>UInt8.ofNat n.toNat).toArray⟩
 |[],r=>by simp
 |n::ns,r=>by simp only[z3q];rw[foldl_push ns];simp[ByteArray.push]
theorem Inv.axo{β:Base}{J:Env}{m:List ay}{w:World}(h:Inv β J m w)(o0:Obj):
  Inv β {J with H:=λb=>if b=w.heap.size then some o0 else J.H b} m (w.alloc o0)/\
  J.Le {J with H:=λb=>if b=w.heap.size then some o0 else J.H b}:=by
 have hw:∀ b,b<w.heap.size->(w.alloc o0).heap[b]? =w.heap[b]? :=λb hb=>Go.RowKit.Below.heap_alloc w _ b hb;have hH:∀ b o,J.H b=some o->(if b=w.heap.size then some o0 else J.H b)=some o:=by intro b o hb;rw[if_neg (by have:=yC h.good hb;omega)];exact hb
 have hle:J.Le {J with H:=λb=>if b=w.heap.size then some o0 else J.H b}:=⟨z0b _,λ_ _=>rfl,λ_ _=>rfl,hH⟩
 refine⟨⟨h.good.grow hle h.good.n (λ_ _=>rfl) (λ_ _=>rfl) hw (λb o hb=> ?_) (λi b hb=> ?_),⟨h.kept.os,h.kept.tape,h.kept.output,?_,?_,λb o hb=>hH b o (h.kept.H b o hb),λb o hb=> ?_,h.kept.drawn⟩,h.own,h.n,h.blk,h.vv⟩,hle⟩
 ·simp only at hb;by_cases e:b=w.heap.size
  ·rw[if_pos e] at hb;subst e;rw[heap_alloc_new w];exact hb
  ·rw[if_neg e] at hb;rw[hw b (yC h.good hb)];exact h.good.hv b o hb
 ·have:=dU h.good hb;simp only;rw[if_neg (by omega)];exact h.good.sep i b hb
 ·have:=h.kept.size;simp;omega
 ·intro b hb hB;rw[hw b (z1q hb h.kept.size)];exact h.kept.heap b hb hB
 ·simp only at hb;by_cases e:b=w.heap.size
  ·right;left;rw[e];exact h.kept.size
  ·rw[if_neg e] at hb;exact h.kept.fresh b o hb
theorem Y6{t d e:TypeId}{x:Operand}{x':aS}{s:List UInt8}(ho:o.op= .convert t d x)(ht:P.underlying t=some .string)(hd:P.underlying d=some (.slice e))(he:P.underlying e=some (.int .u8))
  (hx:aQ x=some x') (hs':x'.ev σ= .str s) (hb:s.length<=140737488355328):fK P o σ m (.lst 1 (0:UInt8) (λb=>SV.int .u8 (b.toNat:Int)) s) m:=by
 intro β J a w hi hs Q;have e1:=uq (hs'▸aB hx hs);have hr0:=run_bytes_of_string (P:=P) w t d e ⟨s.toArray⟩ ht hd he;have hsz:(⟨s.toArray⟩:ByteArray).size=s.length:=by simp[z3g]
 rw[hsz] at hr0;have hr:(execOp a.eval o).run P w= .ok (.value (.slice (some ⟨w.heap.size,0,none⟩) s.length (grownCap w s.length 0 e))) (w.drew.alloc (.cells (bytesRow ⟨s.toArray⟩ (grownCap w s.length 0 e)) e ((bytesRow ⟨s.toArray⟩ (grownCap w s.length 0 e)).size,(bytesRow ⟨s.toArray⟩ (grownCap w s.length 0 e)).size+1))):=by simp[execOp,ho,e1,hr0]
 obtain⟨k1,k2⟩:=hi.drew.axo (.cells (bytesRow ⟨s.toArray⟩ (grownCap w s.length 0 e)) e ((bytesRow ⟨s.toArray⟩ (grownCap w s.length 0 e)).size,(bytesRow ⟨s.toArray⟩ (grownCap w s.length 0 e)).size+1));have hge:=grownCap_ge w s.length 0 e;unfold z0t;rw[hr,z06];refine⟨_,_,rfl,⟨[.slice (some ⟨w.heap.size,0,none⟩) s.length (grownCap w s.length 0 e)],?_,rfl⟩,k2,k1⟩;simp only[au];refine⟨some ⟨w.heap.size,0,none⟩,grownCap w s.length 0 e,rfl,hge,grownCap_le_maxLen w s.length 0 e (by unfold maxLen;omega),(λh=>by cases h),λi hi'=> ?_⟩
 have hbs:(bytesRow ⟨s.toArray⟩ (grownCap w s.length 0 e)).size=grownCap w s.length 0 e:=by simp[bytesRow,z3g];omega
 refine⟨w.heap.size,0,e,((bytesRow ⟨s.toArray⟩ (grownCap w s.length 0 e)).size,(bytesRow ⟨s.toArray⟩ (grownCap w s.length 0 e)).size+1),bytesRow ⟨s.toArray⟩ (grownCap w s.length 0 e),rfl,if_pos rfl,by rw[hbs];omega,?_⟩
 apply z0e;intro j;rw[iK];by_cases hj:j<1
 ·rw[if_pos hj];have:j=0:=by omega
  subst this;simp only[z03,Nat.mul_one,z0o,bytesRow,z2h,Array.toList_map];rw[z0z (by simpa using hi')]
  simp[z04,hi']
 ·rw[if_neg hj,z0h (by simp;omega)]
theorem Y7{t d e:TypeId}{x:Operand}{x':aS}{l:List SV}{bs:List UInt8}(ho:o.op= .convert t d x)(ht:P.underlying t=some (.slice e))(hd:P.underlying d=some .string)(he:P.underlying e=some (.int .u8))
  (hx:aQ x=some x') (hl:zM m 1 (x'.ev σ)=some l) (hb:bytesOf l=some bs):fK P o σ m (.str bs) m:=by
 intro β J a w hi hs Q;obtain⟨ns,rfl,rfl⟩:=KP hb;obtain⟨ao,c,news,e1,e2,e3,e4,e5⟩:=uD hl hi.good (aB hx hs);have hnews:=Y5 e2;subst hnews;have key:(convert t d (a.eval x)).run P w= .ok (.string ⟨(ns.map λn=>UInt8.ofNat n.toNat).toArray⟩) w:=by
  rw[e1,run_convert_bytes_string w t d e ao _ c ht he hd];cases ao with
  |none=>
   obtain⟨h1,rfl⟩:=e3 rfl;simp only[List.map_eq_nil_iff] at h1;subst h1;rfl
  |some ad=>
   have hc:=run_loadCells_list (P:=P) w ad (ns.map (Value.int .u8)) (λj v hj=>e4 ad rfl j v hj);simp only[z2a] at hc ⊢;rw[run_bytesToString w ad ns.length c ns hc,foldl_push];simp
 unfold z0t;have hr:(execOp a.eval o).run P w= .ok (.value (.string ⟨(ns.map λn=>UInt8.ofNat n.toNat).toArray⟩)) w:=by simp[execOp,ho,key]
 rw[hr,z06];exact⟨_,J,rfl,⟨[_],by simp only[au],rfl⟩,Env.Le.refl J,hi⟩
theorem NJ{k:MK}{ys:List aS}{K:SV->List ay->Prop}(hc:wo P o.op=some (k,ys))(hv:(ys.map (·.ev σ)).all SV.isVal=true)(h:mX m k (ys.map (·.ev σ)) K):
  ∃ sv m',K sv m'/\fK P o σ m sv m'/\(k.eff=false->m'=m):=by
 have put:∀ (T:TypeId) (x kk v:Operand),(∀ a:Act,execOp a.eval o=(do Instr.mapUpdate T (a.eval x) (a.eval kk) (a.eval v);pure .skip))->wo.Ij P T x kk v=some (k,ys)->∃ sv m',K sv m'/\fK P o σ m sv m'/\(k.eff=false->m'=m):=by
  intro T x kk v hrun hp;unfold wo.Ij at hp;split at hp<;>try (cases hp;done)
  rename_i ek ev z hT;split at hp<;>try (cases hp;done)
  rename_i x' k' v' h1 h2 h3;simp only[z00,z0a] at hp;obtain⟨rfl,rfl⟩:=hp;simp only[mX,z0i,z1b] at h;split at h
  ·rename_i i key vv e0;simp only[z1j,and_true] at e0;obtain⟨e1,rfl,rfl⟩:=e0;split at h
   ·rename_i ek' ev' l hm;obtain⟨⟨rfl,rfl,hk,hvv⟩,hK⟩:=h;exact⟨_,_,hK,aeZ hT hrun h1 h2 h3 e1 hm hk hvv,λhh=>by cases hh⟩
   ·exact h.elim
  ·exact h.elim
 cases ho:o.op<;>rw[ho] at hc<;>simp only[wo] at hc<;>try (cases hc;done)
 case makeMap T r=>
  split at hc<;>try (cases hc;done)
  rename_i ek ev z hT;split at hc
  ·simp only[z00,z0a] at hc;obtain⟨rfl,rfl⟩:=hc;exact⟨_,_,h,N8 (T:=T) (λJ a w hs=>by simp[execOp,ho,Instr.makeMap]),λhh=>by cases hh⟩
  ·rename_i r;simp only[z02] at hc;obtain⟨r',hr,hc⟩:=hc;simp only[z0a] at hc;obtain⟨rfl,rfl⟩:=hc;simp only[mX,z0i,z1b] at h;split at h
   ·rename_i e0;cases e0
   ·rename_i k n e0;simp only[z1j,and_true] at e0;obtain⟨kt,et,hu,_⟩:=KN hT;exact⟨_,_,h,N8 (T:=T) (λJ a w hs=>by have:=iq (e0▸aB hr hs);simp[execOp,ho,Instr.makeMap,run_underlying hu,this,asInt,asIntOf]),λhh=>by cases hh⟩
   ·exact h.elim
 case mapUpdate T x kk v=>exact put T x kk v (λa=>by simp[execOp,ho]) hc
 case insert T x kk v=>exact put T x kk v (λa=>by simp[execOp,ho]) hc
 case lookup T x kk ok=>
  split at hc<;>try (cases hc;done)
  rename_i ek ev z hT;split at hc<;>try (cases hc;done)
  rename_i x' k' h1 h2;simp only[z00,z0a] at hc;obtain⟨rfl,rfl⟩:=hc;simp only[mX,z0i,z1b] at h;split at h
  ·rename_i i key e0;simp only[z1j,and_true] at e0;obtain⟨e1,rfl⟩:=e0;split at h
   ·rename_i ek' ev' l hm;obtain⟨⟨rfl,rfl,hk⟩,hK⟩:=h;exact⟨_,_,hK,ae0 hT (λa=>by simp[execOp,ho]) h1 h2 e1 hm hk,λ_=>rfl⟩
   ·exact h.elim
  ·exact h.elim
 case convert t d x=>
  split at hc
  ·rename_i e h1 h2;split at hc<;>try (cases hc;done)
   rename_i h3;simp only[z02] at hc;obtain⟨x',hx,hc⟩:=hc;simp only[z0a] at hc;obtain⟨rfl,rfl⟩:=hc;simp only[mX,z0i,z1b] at h;split at h
   ·rename_i l hl;split at h
    ·rename_i bs hb;exact⟨_,_,h,Y7 ho h1 h2 h3 hx hl hb,λ_=>rfl⟩
    ·exact h.elim
   ·exact h.elim
  ·rename_i e h1 h2;split at hc<;>try (cases hc;done)
   rename_i h3;simp only[z02] at hc;obtain⟨x',hx,hc⟩:=hc;simp only[z0a] at hc;obtain⟨rfl,rfl⟩:=hc;simp only[mX,z0i,z1b] at h;split at h
   ·rename_i s e0;simp only[z1j,and_true] at e0;exact⟨_,_,h.2,Y6 ho h1 h2 h3 hx e0 h.1,λ_=>rfl⟩
   ·exact h.elim
  ·cases hc
 case call c=>
  unfold wo.aaD at hc;cases c with
  |mk callee args argTypes=>
  simp only at hc;split at hc<;>try (cases hc;done)
  rename_i x t ea et;obtain rfl:args= #[x]:=by apply z15;simpa using ea
  obtain rfl:argTypes= #[t]:=by apply z15;simpa using et
  split at hc<;>try (cases hc;done)
  rename_i kt et hu;simp only[z02] at hc;obtain⟨x',hx,hc⟩:=hc;simp only[z0a] at hc;obtain⟨rfl,rfl⟩:=hc;simp only[mX,z0i,z1b] at h;split at h
  ·rename_i i e0;simp only[z1j,and_true] at e0;split at h
   ·rename_i ek ev l hm;refine⟨_,_,h,λβ J a w hi hs Q=> ?_,λ_=>rfl⟩;obtain⟨hin,e1⟩:=Ih (e0▸aB hx hs);obtain⟨es,cl,hh,hE,_⟩:gu J i w (.mp ek ev l):=hm▸hi.good.res i;have hl:=hE.len;have hrun:(execOp a.eval o).run P w= .ok (.value (.int .i64 l.length)) w:=by simp only[z3e] at hl;simp[execOp,ho,resolve,invoke,builtin,Builtin.len_,run_underlying hu,e1,goInt,MapKept.run_getObj_map hh,hl]
    unfold z0t;rw[hrun,z06];exact⟨_,J,rfl,⟨[_],by simp only[au],rfl⟩,Env.Le.refl J,hi⟩
   ·exact h.elim
  ·exact h.elim
end
end Go.Sx
namespace Go.Sx
open Go
variable {P:Program}
def iF(P:Program)(f:FuncId):Bool:=match P.funcs[f]? with
 |some fn=>fn.name != "runtime.NumGoroutine" &&fn.body.isSome
 |none=>false
theorem jv{f:FuncId}(h:iF P f=true)(args:Array Value)(w:World):(callFunc f args).run P w= .ok (.enter f args) w:=by
 unfold iF at h;split at h
 ·rename_i fn hf;simp only[z07,bne_iff_ne,ne_eq,Option.isSome_iff_exists] at h;obtain⟨h1,b,h2⟩:=h;simp[callFunc,hf,h1,h2]
 ·cases h
def iU(P:Program)(f:FuncId)(args:List SV)(m:List ay)(sv:SV)(m':List ay):Prop:=
 ∀ β J vs w,Inv β J m w->bg args J vs->Calls P f vs.toArray w λe w'=> ∃ v J',e= .returned v/\J.Le J'/\bM J' sv v/\Inv β J' m' w'
def fB(P:Program)(Γ:Hook):Prop:= ∀ f args m K,Γ f args m K->iF P f=true/\∃ sv m',K sv m'/\iU P f args m sv m'
section
variable {o:Oper} {σ:List SV} {m:List ay}
theorem bg.append{J:Env}:∀ {l1 l2:List SV} {v1 v2:List Value},bg l1 J v1->bg l2 J v2->bg (l1++l2) J (v1++v2)
 |[],l2,v1,v2,h1,h2=>by simp only[bg] at h1;subst h1;simpa using h2
 |x::r,l2,v1,v2,h1,h2=>by simp only[bg] at h1;obtain⟨cs,t,rfl,h3,h4⟩:=h1;simp only[z3n,bg];exact⟨cs,t++v2,rfl,h3,bg.append h4 h2⟩
theorem zV{Γ:Hook}(hΓ:fB P Γ){f:FuncId}{args:List SV}{K:SV->List ay->Prop}(h:Γ f args m K)
  (hrun:∀ J a w,Good J m w->aH J σ a->∃ vs,bg args J vs/\(iF P f=true->(execOp a.eval o).run P w= .ok (.enter f vs.toArray) w)):
  ∃ sv m',K sv m'/\fK P o σ m sv m':=by
 obtain⟨hok,sv,m',hK,hc⟩:=hΓ f args m K h;refine⟨sv,m',hK,λβ J a w hi hs Q=> ?_⟩;obtain⟨vs,h1,h2⟩:=hrun J a w hi.good hs;unfold z0t;rw[h2 hok,Oper.upon_enter];refine(hc β J vs w hi h1).mono λe w' ⟨v,J',he,hl,hv,hi'⟩=> ?_;subst he;exact⟨v,J',rfl,hv,hl,hi'⟩
theorem Ce{Γ:Hook}(hΓ:fB P Γ){f:FuncId}{args:Array Operand}{tys:Array TypeId}{ys:List aS}{K:SV->List ay->Prop}
  (ho:o.op= .call {callee:= .value (.func f),args,argTypes:=tys}) (hy:args.toList.mapM aQ=some ys) (hv:(ys.map (·.ev σ)).all SV.isVal=true)
  (h:Γ f (ys.map (·.ev σ)) m K):∃ sv m',K sv m'/\fK P o σ m sv m':=by
 refine zV hΓ h λJ a w hg hs=>⟨_,wC hs args.toList ys hy hv,λhok=> ?_⟩;have:(args.toList.map a.eval).toArray=args.map a.eval:=by apply z15;simp
 simp[execOp,ho,resolve,Deferred.ofValue,invoke,Act.eval,jv hok];apply z15;simp
theorem Gj{Γ:Hook}(hΓ:fB P Γ){x:Operand}{x':aS}{f:FuncId}{cap:List SV}{args:Array Operand}{tys:Array TypeId}{ys:List aS}{K:SV->List ay->Prop}
  (ho:o.op= .call {callee:= .value x,args,argTypes:=tys}) (hx:aQ x=some x') (hf:x'.ev σ= .fn f cap) (hy:args.toList.mapM aQ=some ys) (hv:(ys.map (·.ev σ)).all SV.isVal=true)
  (h:Γ f (ys.map (·.ev σ)++cap) m K):∃ sv m',K sv m'/\fK P o σ m sv m':=by
 refine zV hΓ h λJ a w hg hs=> ?_;obtain⟨cv,h1,h2⟩:=IV (hf▸aB hx hs);refine⟨_,(wC hs args.toList ys hy hv).append h1,λhok=> ?_⟩;simp[execOp,ho,resolve,h2,Deferred.ofValue,invoke,jv hok]
def azW(P:Program)(nm:String)(t:TypeId):Option (TypeId×FuncId):=match P.info? t with
 |some i=>match i.methods.find? (·.name==nm) with
  |some mth=>match mth.func with
   |some (f,false)=>if mth.path.isEmpty then(match P.underlying t with
    |some (.pointer _)=>none
    |some _=>some (t,f)
    |none=>none) else none
   |_=>none
  |none=>none
 |none=>none
def amB(P:Program)(nm:String):List (TypeId×FuncId):=(z1o P.types.size).filterMap (azW P nm)
theorem Vp{t:TypeId}{f:FuncId}:∀ {l:List (TypeId×FuncId)},Ux l t=some f->(t,f)∈l
 |[],h=>by cases h
 |(u,x)::r,h=>by
  simp only[Ux] at h;split at h
  ·rename_i hu;cases h;subst hu;exact z2i
  ·exact z0w _ (Vp h)
theorem amC{nm:String}{t:TypeId}{f:FuncId}(h:Ux (amB P nm) t=some f):∀ (v:Value) (n:Nat) (w:World),(method (n+1) t v nm).run P w= .ok (f,v) w:=by
 obtain⟨u,_,hu⟩:=z19.1 (Vp h);unfold azW at hu;split at hu<;>try (cases hu;done)
 rename_i i hi;split at hu<;>try (cases hu;done)
 rename_i mth hm;split at hu<;>try (cases hu;done)
 rename_i f' hf;split at hu<;>try (cases hu;done)
 rename_i hp;split at hu<;>try (cases hu;done)
 rename_i d hnp hd;simp only[z00,z0a] at hu;obtain⟨rfl,rfl⟩:=hu;intro v n w;have hp':mth.path.toList=[]:=by simpa using hp
 have hrec:∀ wr,(receiverAt u (.val v) false wr).run P w= .ok v w:=by
  intro wr;simp only[receiverAt,z0c,run_underlying hd,Result.andThen_ok];cases d<;>first
   |exact absurd hd (hnp _)
   |rfl
 simp[method,JZ hi,hm,hp',follow,hf,hrec]
theorem aqV(r:Value)(b:Array Value):(#[r]++b)[0]? =some r:=by
 rw[Array.getElem?_append_left (by simp)]
 rfl
theorem ae1(r:Value)(b:Array Value):(#[r]++b).extract 1 (#[r]++b).size=b:=by
 apply z15;simp only[Array.toList_extract,z3i];simp only[List.extract,z2h,z3l,z1u,List.length_nil];rw[show(0+1+b.size - 1)=b.toList.length by simp]
 exact List.take_length
theorem Gl{Γ:Hook}(hΓ:fB P Γ){x:Operand}{nm:String}{x':aS}{t:TypeId}{v:SV}{f:FuncId}{args:Array Operand}{tys:Array TypeId}{ys:List aS}{K:SV->List ay->Prop}
  (ho:o.op= .call {callee:= .invoke x nm,args,argTypes:=tys}) (hx:aQ x=some x') (hf:x'.ev σ= .iface t v) (ht:Ux (amB P nm) t=some f) (hy:args.toList.mapM aQ=some ys) (hv:(ys.map (·.ev σ)).all SV.isVal=true)
  (h:Γ f (v::ys.map (·.ev σ)) m K):∃ sv m',K sv m'/\fK P o σ m sv m':=by
 refine zV hΓ h λJ a w hg hs=> ?_;obtain⟨xs,h1,h2⟩:=jH (hf▸aB hx hs);refine⟨boxed v.isAgg xs::_,by simp only[bg];exact⟨xs,_,rfl,h1,wC hs args.toList ys hy hv⟩,λhok=> ?_⟩
 have hm:=amC ht (boxed v.isAgg xs) (P.types.size+99) w;simp only[execOp,ho,resolve,z0c,z0n,Result.andThen_ok,h2,invoke,aqV,ae1,callMethod];simp[Made.depth,hm,jv hok]
theorem NK{T E:TypeId}{w by':Nat}{z:SV}{l c:Operand}{l' c':aS}{kl kc:IntKind}{nl nc:Int}(ho:o.op= .makeSlice T l c)(ht:xP P T=some (E,w,by'))(hz':Py P E=some z)
  (hl:aQ l=some l') (hc:aQ c=some c') (el:l'.ev σ= .int kl nl) (ec:c'.ev σ= .int kc nc) (h0:0<=nl) (hlc:nl<=nc) (hb:nc*by'<=140737488355328):
  fK P o σ m (.vec m.length nl.toNat) (m++[.vec E w (z2c nl.toNat z)]):=by
 intro β J a W hI hs Q;obtain⟨hu,i,zv,hi,hz,hsz,hby,hzs,hw0,hb0⟩:=Cm ht;obtain⟨i2,v2,e1,e2,e3⟩:=xG hz';rw[hi] at e1;cases e1;rw[hz] at e2;cases e2;have s1:=iq (el▸aB hl hs);have s2:=iq (ec▸aB hc hs);have hnc:nc<=9223372036854775807:=by
  have:nc*1<=nc*by':=Int.mul_le_mul_of_nonneg_left (by omega) (by omega)
  omega
 have hr:(execOp a.eval o).run P W= .ok (.value (.slice (some ⟨W.heap.size,0,none⟩) nl.toNat nc.toNat)) (W.alloc (.cells (madeCells zv.cells (nc.toNat*i.size)) E)):=by
  have:=run_make (P:=P) W T E i zv hu hi hz kl kc nl nc h0 hlc (by rw[hby,Int.mul_comm];omega) hnc
  simp[execOp,ho,s1,s2,this]
 have hcm:nc.toNat<=maxLen:=by unfold maxLen;omega
 subst hsz;have hzl:zv.cells.toList.length=i.size:=by simpa using hzs
 have hEz:=ND (n:=nl.toNat) (e3 J) hzl;unfold z0t;rw[hr,z06];refine⟨_,J.more 0 (.slice (some ⟨W.heap.size,0,none⟩) nl.toNat nc.toNat),rfl,?_,J.dJ _ _,hI.more (z3b _ _ _) (z0b _) ?_ ?_⟩
 ·refine⟨[.slice (some ⟨W.heap.size,0,none⟩) nl.toNat nc.toNat],?_,rfl⟩;simp only[au];refine⟨by simp[Env.more,hI.good.n], .inr ⟨W.heap.size,nc.toNat,?_,by omega⟩,?_⟩<;>simp[Env.more,hI.good.n]
 ·have hvv:(J.more 0 (.slice (some ⟨W.heap.size,0,none⟩) nl.toNat nc.toNat)).vv m.length= .slice (some ⟨W.heap.size,0,none⟩) nl.toNat nc.toNat:=by simp[Env.more,hI.good.n]
  refine⟨_,?_,λj hj=>(hEz.2 j hj).mono _ (J.dJ _ _)⟩;rw[hvv];refine⟨hEz.1, .inr ⟨W.heap.size,nc.toNat,madeCells zv.cells (nc.toNat*i.size),by simp,z2e _,heap_alloc_new W _,by simp;omega,hcm,by simp[madeCells],?_⟩⟩
  have hle:nl.toNat*i.size<=nc.toNat*i.size:=z3f _ (by omega)
  simp only[List.length_replicate];apply z0e;intro k;rw[z2j];by_cases hk:k<nl.toNat*i.size
  ·rw[if_pos hk];simp[madeCells,hk,show k<nc.toNat*i.size by omega]
  ·rw[if_neg hk,z0h (by simp;omega)]
 ·intro x hx;simp[aN,Env.more,hI.good.n,z0p] at hx;omega
end
inductive yE:Type 1 where
 |p (x:wK)
 |e (x:EIO)
structure dA:Type 1 where
 dst:Option Nat
 guard:Option (Nat×Bool)
 op:yE
def zG(P:Program):Op->Option EIO
 | .alloc T=>(Py P T).map (.alloc T)
 | .box T x=>(aQ x).map (.box T)
 | .load T x=>match aQ x,qm P T with
  |some x,some (n,ag)=>some (.load n ag x)
  |_,_=>none
 | .store T x v=>match aQ x,aQ v,qm P T with
  |some x,some v,some (n,_)=>some (.store n x v)
  |_,_,_=>none
 | .buildSlice T len parts=>match P.underlying T with
  |some (.slice E)=>match Py P E,qm P E,rJ parts.toList with
   |some z,some (w,_),some ys=>if wd z=w/\len*w<=2^24/\0<w then some (.qj E w len z ys) else none
   |_,_,_=>none
  |_=>none
 | .makeSlice T l c=>match xP P T,aQ l,aQ c with
  |some (E,w,by'),some l,some c=>match Py P E with
   |some z=>some (.mks E w by' z l c)
   |none=>none
  |_,_,_=>none
 | .call c=>match wo P (.call c) with
  |some p=>some (.mJ p.1 p.2)
  |none=>aaf P c
 |op=>(wo P op).map λp=> .mJ p.1 p.2
where aaf (P:Program) (c:Call):Option EIO:=
 match c.callee with
 | .builtin .append=>match c.args.toList,c.argTypes.toList with
  |[s,x],[t,t']=>if t'=t then match xP P t,aQ s,aQ x with
    |some (E,w,by'),some s,some x=>some (.app E w by' s x)
    |_,_,_=>none
   else none
  |_,_=>none
 | .value (.func f)=>(c.args.toList.mapM aQ).map (.call f)
 | .value x=>match aQ x,c.args.toList.mapM aQ with
  |some x,some ys=>some (.jm x ys)
  |_,_=>none
 | .invoke x nm=>match aQ x,c.args.toList.mapM aQ with
  |some x,some ys=>some (.Fz (amB P nm) x ys)
  |_,_=>none
 |_=>none
theorem aat{op:Op}{k:MK}{ys:List aS}(h:wo P op=some (k,ys)):zG P op=some (.mJ k ys):=by
 cases op<;>simp only[wo] at h<;>try (cases h;done)
 all_goals simp only[zG,wo,h,z0s]
def nD(Γ:Hook)(σ:List SV)(m:List ay)(K:List SV->SV->List ay->Prop):EIO->Prop
 | .alloc T z=>K σ (.ptr m.length [] 0) (m++[.blk T z])
 | .box T x=>(x.ev σ).isVal=true/\K σ (.ptr m.length [] 0) (m++[.blk T (x.ev σ)])
 | .load n ag x=>peek m n ag (λsv=>K σ sv m) (x.ev σ)
 | .store n x v=>JU m n (v.ev σ) (λm'=>K σ .junk m') (x.ev σ)
 | .qj E w len z ys=>dS σ w (z2c len z) ys λl=>K σ (.vec m.length len) (m++[.vec E w l])
 | .mks E w by' z l c=>match l.ev σ,c.ev σ with
  | .int _ a, .int _ b=>(0<=a/\a<=b/\b*by'<=140737488355328)/\K σ (.vec m.length a.toNat) (m++[.vec E w (z2c a.toNat z)])
  |_,_=>False
 | .app E w by' s x=>amg σ m E w by' (s.ev σ) (x.ev σ) K
 | .call f ys=>(ys.map (·.ev σ)).all SV.isVal=true/\Γ f (ys.map (·.ev σ)) m λsv m'=>K σ sv m'
 | .gW f ys=>(ys.map (·.ev σ)).all SV.isVal=true/\Γ f (ys.map (·.ev σ)) m λsv m'=>m'=m/\K σ sv m
 | .DK l=>K σ (.lst 1 (0:Int) (SV.int .i64) l) m
 | .DF E w len z ys=>dS σ w (z2c len z) ys λl=>D5 l/\K σ (YD w len l) m
 | .again n ag x d=>(σ.getD d .junk).isVal=true/\peek m n ag (λsv=>sv=σ.getD d .junk/\K σ .junk m) (x.ev σ)
 | .uX k ys d=>(σ.getD d .junk).isSet=true/\(ys.map (·.ev σ)).all SV.isVal=true/\mX m k (ys.map (·.ev σ)) (λsv m'=>(sv=σ.getD d .junk/\m'=m)/\K σ .junk m)
 | .Fz tab x ys=>match x.ev σ with
  | .iface t v=>match Ux tab t with
   |some f=>(ys.map (·.ev σ)).all SV.isVal=true/\Γ f (v::ys.map (·.ev σ)) m λsv m'=>K σ sv m'
   |none=>False
  |_=>False
 | .jm x ys=>match x.ev σ with
  | .fn f cap=>(ys.map (·.ev σ)).all SV.isVal=true/\Γ f (ys.map (·.ev σ)++cap) m λsv m'=>K σ sv m'
  |_=>False
 | .mJ k ys=>(ys.map (·.ev σ)).all SV.isVal=true/\mX m k (ys.map (·.ev σ)) λsv m'=>K σ sv m'
theorem YR{Γ:Hook}(hΓ:fB P Γ){o:Oper}{σ:List SV}{m:List ay}{K:List SV->SV->List ay->Prop}{e:EIO}(he:zG P o.op=some e)(h:nD Γ σ m K e):
  ∃ σ' sv m',K σ' sv m'/\aas P o σ m σ' sv m':=by
 cases hM:wo P o.op with
 |some p=>
  obtain⟨k,ys⟩:=p;rw[aat hM] at he;cases he;obtain⟨sv,m',hK,hE,_⟩:=NJ (K:=λsv m'=>K σ sv m') hM h.1 h.2;exact⟨_,_,_,hK,hE.step⟩
 |none=>
 cases ho:o.op<;>rw[ho] at he hM<;>simp only[zG,hM,z3j] at he<;>try (cases he;done)
 case alloc T=>
  simp only[z02] at he;obtain⟨z,hz,rfl⟩:=he;exact⟨_,_,_,h,(Gf ho hz).step⟩
 case box T x=>
  simp only[z02] at he;obtain⟨x',hx,rfl⟩:=he;exact⟨_,_,_,h.2,(NC ho hx h.1).step⟩
 case buildSlice T len parts=>
  split at he<;>try (cases he;done)
  rename_i E hu;split at he<;>try (cases he;done)
  rename_i z w ag ys h1 h2 h3;split at he<;>try (cases he;done)
  rename_i hc;simp only[z00] at he;subst he;obtain⟨l,hK,hE⟩:=NG (m:=m) (σ:=σ) (K:=λl=>K σ (SV.vec m.length len) (m++[ay.vec E w l])) ho hu h1 h2 hc.1 hc.2.1 hc.2.2 h3 h;exact⟨_,_,_,hK,hE.step⟩
 case load T x=>
  split at he<;>try (cases he;done)
  rename_i x' n ag hx ht;simp only[z00] at he;subst he;obtain⟨sv,hK,hE⟩:=J5 (K:=λsv=>K σ sv m) ho hx ht h;exact⟨_,_,_,hK,hE.step⟩
 case store T x v=>
  split at he<;>try (cases he;done)
  rename_i x' v' n ag hx hv ht;simp only[z00] at he;subst he;obtain⟨m',hK,hE⟩:=F9 (K:=λm'=>K σ .junk m') ho hx hv ht h;exact⟨_,_,_,hK,hE.step⟩
 case makeSlice T l c=>
  split at he<;>try (cases he;done)
  rename_i E w by' l' c' ht hl hc
  split at he<;>try (cases he;done)
  rename_i z hz;simp only[z00] at he;subst he;simp only[nD] at h;split at h
  ·rename_i k1 a k2 b e1 e2;exact⟨_,_,_,h.2,(NK ho ht hz hl hc e1 e2 h.1.1 h.1.2.1 h.1.2.2).step⟩
  ·exact h.elim
 case call c=>
  cases c with
  |mk callee args tys=>
  simp only[zG.aaf] at he;split at he
  ·rename_i ec;split at he<;>try (cases he;done)
   rename_i s x t t' ea et;split at he<;>try (cases he;done)
   rename_i htt;subst htt;split at he<;>try (cases he;done)
   rename_i E w by' s' x' h1 h2 h3
   simp only[z00] at he;subst he;obtain rfl:args= #[s,x]:=by apply z15;simpa using ea
   obtain rfl:tys= #[t',t']:=by apply z15;simpa using et
   exact aeY ho h1 h2 h3 h
  ·rename_i f ec;simp only[z02] at he;obtain⟨ys,hy,rfl⟩:=he;obtain⟨sv,m',hK,hE⟩:=Ce (K:=λsv m'=>K σ sv m') hΓ ho hy h.1 h.2;exact⟨_,_,_,hK,hE.step⟩
  ·rename_i x hne;split at he<;>try (cases he;done)
   rename_i x' ys hx hy;simp only[z00] at he;subst he;simp only[nD] at h;split at h
   ·rename_i f cap hf;obtain⟨sv,m',hK,hE⟩:=Gj (K:=λsv m'=>K σ sv m') hΓ ho hx hf hy h.1 h.2;exact⟨_,_,_,hK,hE.step⟩
   ·exact h.elim
  ·rename_i x nm aCE;split at he<;>try (cases he;done)
   rename_i x' ys hx hy;simp only[z00] at he;subst he;simp only[nD] at h;split at h
   ·rename_i t v hf;split at h
    ·rename_i f hta;obtain⟨sv,m',hK,hE⟩:=Gl (K:=λsv m'=>K σ sv m') hΓ ho hx hf hta hy h.1 h.2;exact⟨_,_,_,hK,hE.step⟩
    ·exact h.elim
   ·exact h.elim
  ·cases he
end Go.Sx
namespace Go.Sx
open Go
variable {P:Program}
def qQ(g:Option (Nat×Bool))(σ:List SV)(A B:List SV->Prop):Prop:=
 match g with
 |none=>A σ
 |some (s,want)=>match σ.getD s .junk with
  | .bool b=>(b=want->A (σ.set s (.bool want)))/\(b=(!want)->B (σ.set s (.bool (!want))))
  | .bK []=>B σ
  |_=>False
def opK(Γ:Hook)(σ:List SV)(m:List ay)(K:List SV->SV->List ay->Prop):yE->Prop
 | .p p=>aV σ (λsv=>K σ sv m) p
 | .e e=>nD Γ σ m K e
def iC(d:Option Nat)(sv:SV)(σ:List SV):List SV:=match d with
 |none=>σ
 |some d=>σ.set d sv
def rE(Γ:Hook):List dA->(List SV->List ay->Prop)->List SV->List ay->Prop
 |[],K,σ,m=>K σ m
 |o::r,K,σ,m=>qQ o.guard σ (λσ1=>opK Γ σ1 m (λσ' sv m'=>rE Γ r K (iC o.dst sv σ') m') o.op) (λσ1=>rE Γ r K (iC o.dst (.bK []) σ1) m)
def qY(ops:Array Oper):Option (Nat×Bool)->Option (Option (Nat×Bool))
 |none=>some none
 |some (j,want)=>match (ops[j]?).bind (·.dst) with
  |some d=>some (some (d,want))
  |none=>none
def zF(P:Program)(o:Op):Option yE:=match eX P o with
 |some p=>some (.p p)
 |none=>(zG P o).map .e
def bW(P:Program)(ops:Array Oper)(o:Oper):Option dA:=match qY ops o.guard,zF P o.op with
 |some g,some x=>some ⟨o.dst,g,x⟩
 |_,_=>none
theorem aH.put{J:Env}{σ:List SV}{a:Act}{sv:SV}{v:Value}(h:aH J σ a)(hv:bM J sv v)(d:Option Nat):aH J (iC d sv σ) (a.put d v):=by
 cases d with
 |none=>exact h
 |some d=>
  refine⟨by simp[iC,z3a,h.1],λk=> ?_⟩
  have h1:=h.1;simp only[iC,z3a];by_cases hk:d=k
  ·subst hk;by_cases hd:d<σ.length
   ·have hd':d<a.tmps.size:=by omega
    have e1:(σ.set d sv).getD d .junk=sv:=by simp[z04,hd]
    have e2:(a.tmps.setIfInBounds d v).getD d undef=v:=by simp[Array.getD,hd']
    rw[e1,e2];exact hv
   ·have e1:(σ.set d sv).getD d .junk= .junk:=by simp[z04,hd]
    rw[e1];trivial
  ·have e1:(σ.set d sv).getD k .junk=σ.getD k .junk:=by simp[z04,hk]
   have e2:(a.tmps.setIfInBounds d v).getD k undef=a.tmps.getD k undef:=by simp only[z01,z1i,if_neg hk]
   rw[e1,e2];exact h.2 k
theorem put_defers(a:Act)(d:Option Nat)(v:Value):(a.put d v).defers=a.defers:=by cases d<;>rfl
theorem aH.known{J:Env}{σ:List SV}{a:Act}(h:aH J σ a){s:Nat}{b:Bool}(hb:σ.getD s .junk= .bool b):aH J (σ.set s (.bool b)) a:=by
 refine⟨by simp[h.1],λk=> ?_⟩
 by_cases hk:s=k
 ·subst hk;have:(σ.set s (.bool b)).getD s .junk=σ.getD s .junk\/(σ.set s (.bool b)).getD s .junk= .junk:=by
   by_cases hs:s<σ.length
   ·left;rw[hb];simp[z04,hs]
   ·right;simp[z04,hs]
  rcases this with e|e<;>rw[e]
  ·exact h.2 s
  ·trivial
 ·have:(σ.set s (.bool b)).getD k .junk=σ.getD k .junk:=by simp[z04,hk]
  rw[this];exact h.2 k
theorem wz{ops:Array Oper}{o:Oper}{a:Act}{J:Env}{σ:List SV}(h:aH J σ a){s:Nat}{want b:Bool}(hg:qY ops o.guard=some (some (s,want)))(hb:σ.getD s .junk= .bool b):
  Region.wanted o (yielded ops a.tmps)=(b==want):=by
 cases ho:o.guard with
 |none=>rw[ho] at hg;simp[qY] at hg
 |some g=>
  obtain⟨j,w'⟩:=g;rw[ho] at hg;simp only[qY] at hg;split at hg<;>try (cases hg;done)
  rename_i d hd;simp only[z00,z0a] at hg;obtain⟨rfl,rfl⟩:=hg;have:=iW (hb▸h.2 d);have h2:a.tmps[d]? =some (.bool b):=by
   rw[z01] at this;cases hh:a.tmps[d]? with
   |none=>rw[hh] at this;simp[undef] at this
   |some v=>rw[hh] at this;simpa using this
  simp only[Region.wanted,ho,yielded,hd,z0g,h2];cases b<;>cases w'<;>rfl
theorem lQ{J:Env}:bM J (.bK []) undef:=⟨[],by simp only[bg],rfl⟩
theorem rG{ops:Array Oper}{o:Oper}{a:Act}{J:Env}{σ:List SV}(h:aH J σ a){s:Nat}{want:Bool}(hg:qY ops o.guard=some (some (s,want)))(hb:σ.getD s .junk= .bK []):
  Region.wanted o (yielded ops a.tmps)=false:=by
 cases ho:o.guard with
 |none=>rw[ho] at hg;simp[qY] at hg
 |some g=>
  obtain⟨j,w'⟩:=g;rw[ho] at hg;simp only[qY] at hg;split at hg<;>try (cases hg;done)
  rename_i d hd;simp only[z00,z0a] at hg;obtain⟨rfl,rfl⟩:=hg;obtain⟨vs,h1,this⟩:=Z8 (hb▸h.2 d);simp only[bg] at h1;subst h1;simp only[Region.wanted,ho,yielded,hd,z0g];rw[z01] at this;cases hh:a.tmps[d]? with
  |none=>rfl
  |some v=>
   rw[hh] at this;simp only[z1s] at this;subst this;rfl
theorem Ar{Γ:Hook}(hΓ:fB P Γ){o:Oper}{σ:List SV}{m:List ay}{K:List SV->SV->List ay->Prop}{x:yE}(hx:zF P o.op=some x)(h:opK Γ σ m K x):
  ∃ σ' sv m',K σ' sv m'/\aas P o σ m σ' sv m':=by
 unfold zF at hx;split at hx
 ·rename_i p hp;simp only[z00] at hx;subst hx;obtain⟨sv,hK,hpure⟩:=BQ (K:=λsv=>K σ sv m) hp h;refine⟨_,_,_,hK,λβ J a w hi hs Q=> ?_⟩;obtain⟨v,hr,hv⟩:=hpure J a hs;unfold z0t;rw[hr,z06];exact⟨v,J,rfl,hv,hs,hi⟩
 ·simp only[z02] at hx;obtain⟨e,he,rfl⟩:=hx;exact YR hΓ he h
theorem jw{Γ:Hook}(hΓ:fB P Γ){ops:Array Oper}{Q:Exit->Act->World->Prop}{β:Base}{d:List Deferred}:∀ (l:List Oper) (aP:List dA) (σ:List SV) (m:List ay) (K:List SV->List ay->Prop),
  l.mapM (bW P ops)=some aP->rE Γ aP K σ m->(∀ σ' m' J' a' w',K σ' m'->Inv β J' m' w'->aH J' σ' a'->a'.defers=d->Q .normal a' w')->
  ∀ J a w,Inv β J m w->aH J σ a->a.defers=d->wpList P ops Q l a w
 |[],aP,σ,m,K,hc,h,hK,J,a,w,hi,hs,hd=>by
  simp at hc;subst hc;exact wpList_nil (hK σ m J a w h hi hs hd)
 |o::l,aP,σ,m,K,hc,h,hK,J,a,w,hi,hs,hd=>by
  simp only[z1c,bind,z1h] at hc;obtain⟨io,ho,hc⟩:=bind_some hc;obtain⟨uT,hc',hc⟩:=bind_some hc;simp only[z00] at hc;subst hc;simp only[bW] at ho;split at ho<;>try (cases ho;done)
  rename_i g x hg hx;simp only[z00] at ho;subst ho;simp only[rE] at h;have go:∀ σ1,aH J σ1 a->opK Γ σ1 m (λσ' sv m'=>rE Γ uT K (iC o.dst sv σ') m') x->o.wp P a w (wpList P ops Q l) Q:=by intro σ1 hs1 h1;obtain⟨σ',sv,m',h2,hE⟩:=Ar hΓ hx h1;refine Oper.wp_mono ?_ (hE β J a w hi hs1 Q);rintro a' w' ⟨v,J',rfl,hv,hs',hi'⟩;exact jw hΓ l uT _ _ K hc' h2 hK J' _ w' hi' (hs'.put hv o.dst) (by rw[put_defers];exact hd)
  cases g with
  |none=>
   have hgn:o.guard=none:=by
    cases hog:o.guard with
    |none=>rfl
    |some g=>rw[hog] at hg;simp only[qY] at hg;split at hg<;>cases hg
   refine wpList_step λK' hK'=> ?_;rw[if_pos (by simp[Region.wanted,hgn])]
   exact Oper.wp_mono (λa w h=>hK' a w h) (go σ hs h)
  |some g=>
   obtain⟨s,want⟩:=g;simp only[qQ] at h;split at h
   ·rename_i b hb;have hw:=wz hs hg hb;refine wpList_step λK' hK'=> ?_;rw[hw];by_cases hbw:b=want
    ·subst hbw;rw[if_pos (by simp)]
     exact Oper.wp_mono (λa w h=>hK' a w h) (go _ (hs.known hb) (h.1 rfl))
    ·have hbn:b= !want:=by cases b<;>cases want<;>first|rfl|exact absurd rfl hbw
     rw[if_neg (by simpa using hbw)]
     subst hbn;have hs2:=hs.known hb;exact hK' _ _ (jw hΓ l uT _ _ K hc' (h.2 rfl) hK J _ w hi (aH.put (sv:= .bK []) (v:=undef) hs2 lQ o.dst) (by rw[put_defers];exact hd))
   ·rename_i hb;have hw:=rG hs hg hb;refine wpList_step λK' hK'=> ?_;rw[hw];rw[if_neg (by simp)]
    exact hK' _ _ (jw hΓ l uT _ _ K hc' h hK J _ w hi (aH.put (sv:= .bK []) (v:=undef) hs lQ o.dst) (by rw[put_defers];exact hd))
   ·exact h.elim
end Go.Sx
namespace Go.Sx
open Go
variable {P:Program}
def aS.sl:aS->List Nat
 | .t n=>[n]
 | .c _=>[]
def aeN:Option aS->List Nat
 |none=>[]
 |some x=>x.sl
def wK.sl:wK->List Nat
 | .mv x| .nt x| .neg x| .conv _ x| .fa _ _ x| .eG _ _ _ _ x| .ext _ x| .len x| .lens x| .nck x| .EF _ x| .BJ _ x| .Tj _ x| .tas _ _ x| .asl _ _ x=>x.sl
 | .pick c x y=>c.sl++x.sl++y.sl
 | .ar _ x y| .cmp _ x y| .beq _ x y| .seq _ x y| .cat x y| .ia _ _ x y| .is _ x y| .ix _ _ _ x y| .sx x y| .mx x y| .mn x y| .aeq _ _ x y| .ieq _ _ x y=>x.sl++y.sl
 | .lF _ ps=>ps.flatMap λp=>p.2.2.2.sl
 | .GL _ c=>c.flatMap aS.sl
 | .ssl x lo hi=>x.sl++aeN lo++aeN hi
 | .slc _ x lo hi m3=>x.sl++aeN lo++aeN hi++aeN m3
def EIO.sl:EIO->List Nat
 | .alloc _ _=>[]
 | .box _ x| .load _ _ x=>x.sl
 | .store _ x v=>x.sl++v.sl
 | .qj _ _ _ _ ps=>ps.flatMap λp=>p.2.sl
 | .mks _ _ _ _ l c=>l.sl++c.sl
 | .app _ _ _ s x=>s.sl++x.sl
 | .call _ ys| .gW _ ys=>ys.flatMap aS.sl
 | .jm x ys=>x.sl++ys.flatMap aS.sl
 | .Fz _ x ys=>x.sl++ys.flatMap aS.sl
 | .DK _=>[]
 | .DF _ _ _ _ ps=>ps.flatMap λp=>p.2.sl
 | .again _ _ x d=>d::x.sl
 | .uX _ ys d=>d::ys.flatMap aS.sl
 | .mJ _ ys=>ys.flatMap aS.sl
def yE.sl:yE->List Nat
 | .p x=>x.sl
 | .e x=>x.sl
def dA.sl(o:dA):List Nat:=(match o.guard with|none=>[]|some (s,_)=>[s])++o.op.sl
def Agree(ss:List Nat)(σ σ':List SV):Prop:= ∀ k∈ss,σ'.getD k .junk=σ.getD k .junk
theorem Agree.ev{ss:List Nat}{σ σ':List SV}(h:Agree ss σ σ'){x:aS}(hx:∀ k∈x.sl,k∈ss):x.ev σ'=x.ev σ:=by
 cases x with
 |t n=>exact h n (hx n (by simp[aS.sl]))
 |c v=>rfl
theorem zN{ss:List Nat}{σ σ':List SV}(h:Agree ss σ σ'):∀ (ys:List aS),(∀ k∈ys.flatMap aS.sl,k∈ss)->ys.map (·.ev σ')=ys.map (·.ev σ)
 |[],_=>rfl
 |y::ys,hk=>by simp only[z0i];rw[h.ev (x:=y) (λk hk'=>hk k (by simp[hk'])),zN h ys (λk hk'=>hk k (by simp only[z2m,z05];exact .inr hk'))]
theorem alX{ss:List Nat}{σ σ':List SV}(h:Agree ss σ σ'){K:SV->Prop}:∀ (ps:List (List Step×Nat×Nat×aS)) (z:SV),(∀ k∈ps.flatMap λp=>p.2.2.2.sl,k∈ss)->iL σ' z ps K=iL σ z ps K
 |[],_,_=>rfl
 |(p,o,n,x)::r,z,hk=>by
  have e:=h.ev (x:=x) (λk hk'=>hk k (by simp[hk']))
  simp only[iL,e];rw[alX h r _ (λk hk'=>hk k (by simp only[z2m,z05];exact .inr hk'))]
theorem YS{ss:List Nat}{σ σ':List SV}(h:Agree ss σ σ'){w:Nat}{K:List SV->Prop}:∀ (ps:List (Nat×aS)) (z:List SV),(∀ k∈ps.flatMap λp=>p.2.sl,k∈ss)->dS σ' w z ps K=dS σ w z ps K
 |[],_,_=>rfl
 |(k0,x)::r,z,hk=>by
  have e:=h.ev (x:=x) (λk hk'=>hk k (by simp[hk']))
  simp only[dS,e];rw[YS h r _ (λk hk'=>hk k (by simp only[z2m,z05];exact .inr hk'))]
theorem zO{ss:List Nat}{σ σ':List SV}(h:Agree ss σ σ'){d:Nat}{x:Option aS}{K:Nat->Prop}(hx:∀ k∈aeN x,k∈ss):aV.bound σ' d x K=aV.bound σ d x K:=by
 cases x with
 |none=>rfl
 |some x=>simp only[aV.bound,h.ev (x:=x) hx]
theorem aqH{ss:List Nat}{σ σ':List SV}(h:Agree ss σ σ'){K:SV->Prop}{p:wK}(hp:∀ k∈p.sl,k∈ss):aV σ' K p=aV σ K p:=by
 cases p with
 |lF z ps=>simp only[aV];exact alX h ps z hp
 |GL f c=>simp only[aV,zN h c hp]
 |pick c x y=>
  simp only[wK.sl,z05] at hp;simp only[aV,h.ev (x:=c) (λk hk=>hp k (.inl (.inl hk))),h.ev (x:=x) (λk hk=>hp k (.inl (.inr hk))),h.ev (x:=y) (λk hk=>hp k (.inr hk))]
 |ssl x lo hi=>
  simp only[wK.sl,z05] at hp;simp only[aV,h.ev (x:=x) (λk hk=>hp k (.inl (.inl hk))),zO h (x:=lo) (λk hk=>hp k (.inl (.inr hk))),zO h (x:=hi) (λk hk=>hp k (.inr hk))]
 |slc w x lo hi m3=>
  simp only[wK.sl,z05] at hp;simp only[aV,h.ev (x:=x) (λk hk=>hp k (.inl (.inl (.inl hk)))),zO h (x:=lo) (λk hk=>hp k (.inl (.inl (.inr hk)))),zO h (x:=hi) (λk hk=>hp k (.inl (.inr hk)))];cases m3 with
  |none=>cases aS.ev σ x<;>rfl
  |some c=>
   have hc:∀ (d:Nat) (K:Nat->Prop),aV.bound σ' d (some c) K=aV.bound σ d (some c) K:=λd K=>zO h (x:=some c) (λk hk=>hp k (.inr hk));cases aS.ev σ x<;>first|rfl|simp only[hc]
 |ar o x y|cmp o x y|beq o x y|seq o x y|cat x y|ia _ _ x y|is _ x y|ix _ _ _ x y|sx x y|mx x y|mn x y|aeq _ _ x y|ieq _ _ x y=>
  simp only[wK.sl,z05] at hp;simp only[aV,h.ev (x:=x) (λk hk=>hp k (.inl hk)),h.ev (x:=y) (λk hk=>hp k (.inr hk))]
 |mv x|nt x|neg x|conv _ x|fa _ _ x|eG _ _ _ _ x|ext _ x|len x|lens x|nck x|EF _ x|BJ _ x|Tj _ x|tas _ _ x|asl _ _ x=>
  simp only[aV,h.ev (x:=x) hp]
def jZ(Γ:Hook)(σ:List SV)(m:List ay)(K:SV->List ay->Prop):yE->Prop
 | .p p=>aV σ (λsv=>K sv m) p
 | .e (.app E w by' s x)=>Uy m E w by' (s.ev σ) (x.ev σ) K
 | .e e=>nD Γ σ m (λ_ sv m'=>K sv m') e
theorem aqI{Γ:Hook}{ss:List Nat}{σ σ':List SV}(h:Agree ss σ σ'){m:List ay}{K:SV->List ay->Prop}{e:EIO}(hp:∀ k∈e.sl,k∈ss)(hd:jZ Γ σ m K (.e e)):jZ Γ σ' m K (.e e):=by
 cases e with
 |alloc T z=>exact hd
 |box T x=>simp only[jZ,nD,h.ev (x:=x) hp] at hd ⊢;exact hd
 |load n ag x=>simp only[jZ,nD,h.ev (x:=x) hp] at hd ⊢;exact hd
 |store n x v=>
  simp only[EIO.sl,z05] at hp;simp only[jZ,nD,h.ev (x:=x) (λk hk=>hp k (.inl hk)),h.ev (x:=v) (λk hk=>hp k (.inr hk))] at hd ⊢;exact hd
 |qj E w len z ps=>simp only[jZ,nD] at hd ⊢;rw[YS h ps _ hp];exact hd
 |mks E w b z x y=>
  simp only[EIO.sl,z05] at hp;simp only[jZ,nD,h.ev (x:=x) (λk hk=>hp k (.inl hk)),h.ev (x:=y) (λk hk=>hp k (.inr hk))] at hd ⊢;exact hd
 |app E w b x y=>
  simp only[EIO.sl,z05] at hp;simp only[jZ,h.ev (x:=x) (λk hk=>hp k (.inl hk)),h.ev (x:=y) (λk hk=>hp k (.inr hk))] at hd ⊢;exact hd
 |call f ys=>simp only[jZ,nD,zN h ys hp] at hd ⊢;exact hd
 |gW f ys=>simp only[jZ,nD,zN h ys hp] at hd ⊢;exact hd
 |DK l=>exact hd
 |DF E w len z ps=>simp only[jZ,nD] at hd ⊢;rw[YS h ps _ hp];exact hd
 |mJ k ys=>simp only[jZ,nD,zN h ys hp] at hd ⊢;exact hd
 |again n ag x d=>
  have hd':σ'.getD d .junk=σ.getD d .junk:=h d (hp d (by simp[EIO.sl]))
  simp only[jZ,nD,h.ev (x:=x) (λk hk=>hp k (by simp only[EIO.sl,z1t];exact .inr hk)),hd'] at hd ⊢;exact hd
 |uX k ys d=>
  have hd':σ'.getD d .junk=σ.getD d .junk:=h d (hp d (by simp[EIO.sl]))
  simp only[jZ,nD,zN h ys (λk hk=>hp k (by simp only[EIO.sl,z1t];exact .inr hk)),hd'] at hd ⊢;exact hd
 |jm x ys=>
  simp only[EIO.sl,z05] at hp;simp only[jZ,nD,h.ev (x:=x) (λk hk=>hp k (.inl hk)),zN h ys (λk hk=>hp k (.inr hk))] at hd ⊢;exact hd
 |Fz tab x ys=>
  simp only[EIO.sl,z05] at hp;simp only[jZ,nD,h.ev (x:=x) (λk hk=>hp k (.inl hk)),zN h ys (λk hk=>hp k (.inr hk))] at hd ⊢;exact hd
theorem aqJ{Γ:Hook}{ss:List Nat}{σ σ':List SV}(h:Agree ss σ σ'){m:List ay}{K:SV->List ay->Prop}{x:yE}(hp:∀ k∈x.sl,k∈ss)(hd:jZ Γ σ m K x):jZ Γ σ' m K x:=by
 cases x with
 |p p=>simp only[jZ] at hd ⊢;rw[aqH h hp];exact hd
 |e e=>exact aqI h hp hd
def U1(quiet:FuncId->Bool):Bool:= !quiet 999999999
def fP(quiet:FuncId->Bool):yE->yE
 | .e (.call f ys)=>if quiet f then .e (.gW f ys) else .e (.call f ys)
 | .e (.qj E w len z ys)=>match J6 0 ys with
  |some l=>if w=1/\len=l.length then .e (.DK l) else if U1 quiet then .e (.DF E w len z ys) else .e (.qj E w len z ys)
  |none=>if U1 quiet then .e (.DF E w len z ys) else .e (.qj E w len z ys)
 |x=>x
def yE.impure:yE->Bool
 | .p _=>false
 | .e (.DK ..)=>false
 | .e (.DF ..)=>false
 | .e _=>true
def yE.eff:yE->Bool
 | .p _=>false
 | .e (.load ..)=>false
 | .e (.gW ..)=>false
 | .e (.DK ..)=>false
 | .e (.DF ..)=>false
 | .e (.again ..)=>false
 | .e (.uX ..)=>false
 | .e (.mJ k _)=>k.eff
 | .e _=>true
def alY(P:Program)(o:Oper)(σ:List SV)(x:yE)(m:List ay)(sv:SV)(m':List ay):Prop:=
 (x.impure=false->∀ m2,fK P o σ m2 sv m2)/\fK P o σ m sv m'/\(x.eff=false->m'=m)
theorem J7{o:Oper}{σ:List SV}{m:List ay}{sv:SV}(h:dX P o σ sv):fK P o σ m sv m:=by intro β J a w hi hs Q;obtain⟨v,hr,hv⟩:=h J a hs;unfold z0t;rw[hr,z06];exact⟨v,J,rfl,hv,Env.Le.refl J,hi⟩
theorem J8{Γ:Hook}(hΓ:fB P Γ){quiet:FuncId->Bool}{o:Oper}{σ:List SV}{m:List ay}{K:SV->List ay->Prop}{x:yE}(hx:zF P o.op=some x)(h:jZ Γ σ m K (fP quiet x)):
  ∃ sv m',K sv m'/\alY P o σ (fP quiet x) m sv m':=by
 unfold zF at hx;split at hx
 ·rename_i p hp;simp only[z00] at hx;subst hx;obtain⟨sv,hK,hpure⟩:=BQ (K:=λsv=>K sv m) hp h;exact⟨sv,m,hK,λ_ m2=>J7 hpure,J7 hpure,λ_=>rfl⟩
 ·simp only[z02] at hx;obtain⟨e,he,rfl⟩:=hx;cases hM:wo P o.op with
  |some p=>
   obtain⟨k,ys⟩:=p;rw[aat hM] at he;cases he;obtain⟨sv,m',hK,hE,hq⟩:=NJ (K:=K) hM h.1 h.2;exact⟨_,_,hK,(λhh=>by cases hh),hE,hq⟩
  |none=>
  cases ho:o.op<;>rw[ho] at he hM<;>simp only[zG,hM,z3j] at he<;>try (cases he;done)
  case alloc T=>
   simp only[z02] at he;obtain⟨z,hz,rfl⟩:=he;exact⟨_,_,h,(λhh=>by cases hh),Gf ho hz,(λhh=>by cases hh)⟩
  case box T x=>
   simp only[z02] at he;obtain⟨x',hx,rfl⟩:=he;exact⟨_,_,h.2,(λhh=>by cases hh),NC ho hx h.1,(λhh=>by cases hh)⟩
  case buildSlice T len parts=>
   split at he<;>try (cases he;done)
   rename_i E hu;split at he<;>try (cases he;done)
   rename_i z w ag ys h1 h2 h3;split at he<;>try (cases he;done)
   rename_i hc;simp only[z00] at he;subst he;have plain:(fP quiet (.e (.qj E w len z ys))= .e (.qj E w len z ys)\/fP quiet (.e (.qj E w len z ys))= .e (.DF E w len z ys))->∃ sv m',K sv m'/\alY P o σ (fP quiet (.e (.qj E w len z ys))) m sv m':=by
    intro hq;rcases hq with hq|hq
    ·rw[hq] at h ⊢;obtain⟨l,hK,hE⟩:=NG (m:=m) (σ:=σ) (K:=λl=>K (SV.vec m.length len) (m++[ay.vec E w l])) ho hu h1 h2 hc.1 hc.2.1 hc.2.2 h3 h;exact⟨_,_,hK,(λhh=>by cases hh),hE,(λhh=>by cases hh)⟩
    ·rw[hq] at h ⊢;obtain⟨sv,hK,hE⟩:=YQ (σ:=σ) (K:=λsv=>K sv m) ho hu h1 h2 hc.1 hc.2.1 hc.2.2 h3 h;exact⟨_,_,hK,λ_=>hE,hE m,λ_=>rfl⟩
   have two:∀ x:yE,(if U1 quiet then yE.e (.DF E w len z ys) else x)=x\/(if U1 quiet then yE.e (.DF E w len z ys) else x)=yE.e (.DF E w len z ys):=λx=>by cases U1 quiet<;>simp
   cases htab:J6 0 ys with
   |none=>exact plain (by simp only[fP,htab];exact two _)
   |some l=>
    by_cases hwl:w=1/\len=l.length
    ·have hq:fP quiet (.e (.qj E w len z ys))= .e (.DK l):=by simp only[fP,htab,if_pos hwl]
     rw[hq] at h ⊢;obtain⟨rfl,hll⟩:=hwl;exact⟨_,_,h,λ_ m2=>NI ho hu h1 h2 hc.1 hc.2.1 h3 htab hll,NI ho hu h1 h2 hc.1 hc.2.1 h3 htab hll,λ_=>rfl⟩
    ·exact plain (by simp only[fP,htab,if_neg hwl];exact two _)
  case load T x=>
   split at he<;>try (cases he;done)
   rename_i x' n ag hx ht;simp only[z00] at he;subst he;obtain⟨sv,hK,hE⟩:=J5 (K:=λsv=>K sv m) ho hx ht h;exact⟨_,_,hK,(λhh=>by cases hh),hE,λ_=>rfl⟩
  case store T x v=>
   split at he<;>try (cases he;done)
   rename_i x' v' n ag hx hv ht;simp only[z00] at he;subst he;obtain⟨m',hK,hE⟩:=F9 (K:=λm'=>K .junk m') ho hx hv ht h;exact⟨_,_,hK,(λhh=>by cases hh),hE,(λhh=>by cases hh)⟩
  case makeSlice T l c=>
   split at he<;>try (cases he;done)
   rename_i E w by' l' c' ht hl hc
   split at he<;>try (cases he;done)
   rename_i z hz;simp only[z00] at he;subst he;simp only[fP,jZ,nD] at h;split at h
   ·rename_i k1 a k2 b e1 e2;exact⟨_,_,h.2,(λhh=>by cases hh),NK ho ht hz hl hc e1 e2 h.1.1 h.1.2.1 h.1.2.2,(λhh=>by cases hh)⟩
   ·exact h.elim
  case call c=>
   cases c with
   |mk callee args tys=>
   simp only[zG.aaf] at he;split at he
   ·rename_i ec;split at he<;>try (cases he;done)
    rename_i s x t t' ea et;split at he<;>try (cases he;done)
    rename_i htt;subst htt;split at he<;>try (cases he;done)
    rename_i E w by' s' x' h1 h2 h3
    simp only[z00] at he;subst he;obtain rfl:args= #[s,x]:=by apply z15;simpa using ea
    obtain rfl:tys= #[t',t']:=by apply z15;simpa using et
    simp only[fP,jZ] at h;obtain⟨sv,m',hK,hE⟩:=YT ho h1 h2 h3 h;exact⟨_,_,hK,(λhh=>by cases hh),hE,(λhh=>by cases hh)⟩
   ·rename_i cc f;simp only[z02] at he;obtain⟨ys,hy,rfl⟩:=he;simp only[fP] at h ⊢;cases hq:quiet f with
    |false=>
     rw[hq] at h;obtain⟨sv,m',hK,hE⟩:=Ce hΓ ho hy h.1 h.2;exact⟨_,_,hK,(λhh=>by cases hh),hE,(λhh=>by cases hh)⟩
    |true=>
     rw[hq] at h;obtain⟨sv,m',⟨rfl,hK⟩,hE⟩:=Ce (K:=λsv m'=>m'=m/\K sv m) hΓ ho hy h.1 h.2;exact⟨_,_,hK,(λhh=>by cases hh),hE,λ_=>rfl⟩
   ·rename_i x hne;split at he<;>try (cases he;done)
    rename_i x' ys hx hy;simp only[z00] at he;subst he;simp only[fP,jZ,nD] at h;split at h
    ·rename_i f cap hf;obtain⟨sv,m',hK,hE⟩:=Gj hΓ ho hx hf hy h.1 h.2;exact⟨_,_,hK,(λhh=>by cases hh),hE,(λhh=>by cases hh)⟩
    ·exact h.elim
   ·rename_i x nm aCE;split at he<;>try (cases he;done)
    rename_i x' ys hx hy;simp only[z00] at he;subst he;simp only[fP,jZ,nD] at h;split at h
    ·rename_i t v hf;split at h
     ·rename_i f hta;obtain⟨sv,m',hK,hE⟩:=Gl hΓ ho hx hf hta hy h.1 h.2;exact⟨_,_,hK,(λhh=>by cases hh),hE,(λhh=>by cases hh)⟩
     ·exact h.elim
    ·exact h.elim
   ·cases he
end Go.Sx
namespace Go.Sx
open Go
variable {P:Program}
def iJ(Γ:Hook):List dA->(List SV->List ay->Prop)->List SV->List ay->Prop
 |[],K,σ,m=>K σ m
 |o::r,K,σ,m=>qQ o.guard σ (λσ1=>jZ Γ σ1 m (λsv m'=>iJ Γ r K (iC o.dst sv σ1) m') o.op) (λσ1=>iJ Γ r K (iC o.dst (.bK []) σ1) m)
def wI(ss:List Nat)(σ:List SV):List SV:=(z1o σ.length).map λk=>if ss.contains k then σ.getD k .junk else .junk
theorem aeO(ss:List Nat)(σ:List SV):(wI ss σ).length=σ.length:=by simp[wI]
theorem J9(ss:List Nat)(σ:List SV)(k:Nat):(wI ss σ).getD k .junk=if k∈ss then σ.getD k .junk else .junk:=by
 by_cases hk:k<σ.length
 ·simp[wI,z04,hk]
 ·simp[wI,z04,hk]
theorem U2(ss:List Nat)(σ:List SV):Agree ss σ (wI ss σ):=λk hk=>by rw[J9,if_pos hk]
def Ed(g:Option (Nat×Bool))(σ:List SV)(b:Bool):Prop:=match g with
 |none=>b=true
 |some (s,want)=>(∃ t,σ.getD s .junk= .bool t/\(t==want)=b)\/(σ.getD s .junk= .bK []/\b=false)
def alZ(P:Program)(o:Oper)(io:dA)(σ:List SV)(m:List ay)(sv:SV)(m':List ay):Prop:=
 (Ed io.guard σ true/\alY P o (wI io.sl σ) io.op m sv m')\/(Ed io.guard σ false/\sv= .bK []/\m'=m)
def Late(c:dA)(σ:List SV)(m:List ay):Prop:=(∀ n ag x d,c.op= .e (.again n ag x d)->Ed c.guard σ true->(σ.getD d .junk).isVal=true/\peek m n ag (λsv=>sv=σ.getD d .junk) (x.ev σ))/\
 ∀ k ys d,c.op= .e (.uX k ys d)->Ed c.guard σ true->(σ.getD d .junk).isSet=true/\(ys.map (·.ev σ)).all SV.isVal=true/\mX m k (ys.map (·.ev σ)) λsv m'=>sv=σ.getD d .junk/\m'=m
def Tr(P:Program)(rs:Nat->List dA):Nat->List (Oper×dA)->List SV->List ay->List (SV×List ay)->List SV->List ay->Prop
 |_,[],σ,m,ts,σe,me=>ts=[]/\σe=σ/\me=m
 |k,(o,io)::r,σ,m,ts,σe,me=> ∃ sv m' ts',ts=(sv,m')::ts'/\alZ P o io σ m sv m'/\(∀ c∈rs k,Late c (iC io.dst sv σ) m')/\Tr P rs (k+1) r (iC io.dst sv σ) m' ts' σe me
def jM(P:Program)(quiet:FuncId->Bool)(ops:Array Oper)(o:Oper):Option dA:=(bW P ops o).map λio=> {io with op:=fP quiet io.op}
theorem set_self{σ:List SV}{s:Nat}{b:Bool}(h:σ.getD s .junk= .bool b):σ.set s (.bool b)=σ:=by
 apply z0e;intro k;rw[z1r];by_cases hk:s=k
 ·subst hk;rw[if_pos rfl];by_cases hs:s<σ.length
  ·rw[if_pos hs];simp[z04,hs] at h;simp[hs,h]
  ·simp[z04,hs] at h
 ·rw[if_neg hk]
def al0(rs:Nat->List dA):Nat->List dA->List dA
 |_,[]=>[]
 |k,o::r=>o::(rs k++al0 rs (k+1) r)
def Qx(c:dA):Prop:=c.dst=none/\((∃ n ag x d,c.op= .e (.again n ag x d))\/∃ k ys d,c.op= .e (.uX k ys d))
theorem al1{m:List ay}{k:MK}{xs:List SV}{A:SV->List ay->Prop}{B:Prop}(h:mX m k xs λsv m'=>A sv m'/\B):mX m k xs A/\B:=by cases k<;>simp only[mX] at h ⊢ <;>repeat' (first|exact h.elim|exact⟨h.1,h.2⟩|exact⟨⟨h.1,h.2.1⟩,h.2.2⟩|split at h)
theorem al2{m:List ay}{n:Nat}{ag:Bool}{A:SV->Prop}{B:Prop}{v:SV}(h:peek m n ag (λsv=>A sv/\B) v):peek m n ag A v/\B:=by
 cases v<;>simp only[peek] at h ⊢ <;>first
  |exact h.elim
  |exact⟨⟨h.1,h.2.1⟩,h.2.2⟩
  |(split at h<;>first|exact h.elim|(rename_i hm;exact⟨⟨h.1,h.2.1⟩,h.2.2⟩))
theorem Az{Γ:Hook}:∀ (cs:List dA),(∀ c∈cs,Qx c)->∀ {rest:List dA} {K:List SV->List ay->Prop} {σ:List SV} {m:List ay},iJ Γ (cs++rest) K σ m->
  (∀ c∈cs,Late c σ m)/\iJ Γ rest K σ m
 |[],_,rest,K,σ,m,h=>⟨λc hc=>(by cases hc),h⟩
 |c::cs,hcs,rest,K,σ,m,h=>by
  obtain⟨hd,ho⟩:=hcs c (z2i ..);obtain⟨dst,g,op⟩:=c;simp only at hd ho;subst hd;have done:jZ Γ σ m (λsv m'=>iJ Γ (cs++rest) K σ m') op->(∀ c∈(⟨none,g,op⟩:dA)::cs,Late c σ m)/\iJ Γ rest K σ m:=by
   intro h;rcases ho with⟨n,ag,x,d,rfl⟩|⟨k,ys,d,rfl⟩
   ·obtain⟨h1,h2⟩:=h;obtain⟨h3,h4⟩:=al2 h2;obtain⟨k1,k2⟩:=Az cs (λc hc=>hcs c (z0w _ hc)) h4;refine⟨λc hc=> ?_,k2⟩;rcases z1t.1 hc with rfl|hc
    ·refine⟨λn' ag' x' d' he hw=> ?_,λk ys d he=>by cases he⟩
     cases he;exact⟨h1,h3⟩
    ·exact k1 c hc
   ·obtain⟨h1,h0,h2⟩:=h;obtain⟨h3,h4⟩:=al1 h2;obtain⟨k1,k2⟩:=Az cs (λc hc=>hcs c (z0w _ hc)) h4;refine⟨λc hc=> ?_,k2⟩;rcases z1t.1 hc with rfl|hc
    ·refine⟨λn' ag' x' d' he=>(by cases he),λk ys d he hw=> ?_⟩
     cases he;exact⟨h1,h0,h3⟩
    ·exact k1 c hc
  have skip:Ed g σ false->iJ Γ (cs++rest) K σ m->(∀ c∈(⟨none,g,op⟩:dA)::cs,Late c σ m)/\iJ Γ rest K σ m:=by
   intro hw h;obtain⟨k1,k2⟩:=Az cs (λc hc=>hcs c (z0w _ hc)) h;refine⟨λc hc=> ?_,k2⟩;rcases z1t.1 hc with rfl|hc
   ·have no:¬ Ed g σ true:=by
     intro hw';cases g with
     |none=>cases(show true=false from hw.symm.trans rfl▸rfl)
     |some g=>
      obtain⟨s,w⟩:=g;rcases hw with⟨t,e1,e2⟩|⟨e1,e2⟩<;>rcases hw' with⟨t',e3,e4⟩|⟨e3,e4⟩
      ·rw[e1] at e3;cases e3;rw[e2] at e4;cases e4
      ·cases e4
      ·rw[e1] at e3;cases e3
      ·cases e4
    exact⟨λ_ _ _ _ _ hw'=>(no hw').elim,λ_ _ _ _ hw'=>(no hw').elim⟩
   ·exact k1 c hc
  simp only[z3n,iJ,iC] at h;cases g with
  |none=>exact done h
  |some g=>
   obtain⟨s,want⟩:=g;simp only[qQ] at h;split at h
   ·rename_i b hb;by_cases hbw:b=want
    ·subst hbw;have h1:=h.1 rfl;rw[set_self hb] at h1;exact done h1
    ·have hbn:b= !want:=by cases b<;>cases want<;>first|rfl|exact absurd rfl hbw
     subst hbn;have h1:=h.2 rfl;rw[set_self hb] at h1;exact skip (.inl ⟨_,hb,by cases want<;>rfl⟩) h1
   ·rename_i hb;exact skip (.inr ⟨hb,rfl⟩) h
   ·exact h.elim
theorem U3{Γ:Hook}(hΓ:fB P Γ){quiet:FuncId->Bool}{ops:Array Oper}{rs:Nat->List dA}(hrs:∀ k,∀ c∈rs k,Qx c):∀ (l:List Oper) (aP:List dA) (σ:List SV) (m:List ay) (K:List SV->List ay->Prop) (k:Nat),l.mapM (jM P quiet ops)=some aP->iJ Γ (al0 rs k aP) K σ m->
  ∃ ts σe me,K σe me/\Tr P rs k (l.zip aP) σ m ts σe me
 |[],aP,σ,m,K,k,hc,h=>by simp at hc;subst hc;exact⟨[],σ,m,h,rfl,rfl,rfl⟩
 |o::l,aP,σ,m,K,k,hc,h=>by
  simp only[z1c,bind,z1h] at hc;obtain⟨io,ho,hc⟩:=bind_some hc;obtain⟨uT,hc',hc⟩:=bind_some hc;simp only[z00] at hc;subst hc;simp only[jM,z02] at ho;obtain⟨io0,ho0,rfl⟩:=ho;simp only[bW] at ho0;split at ho0<;>try (cases ho0;done)
  rename_i g x hg hx;simp only[z00] at ho0;subst ho0;simp only[al0,iJ] at h;have go:jZ Γ σ m (λsv m'=>iJ Γ (rs k++al0 rs (k+1) uT) K (iC o.dst sv σ) m') (fP quiet x)->Ed g σ true->
    ∃ ts σe me,K σe me/\Tr P rs k ((o,(⟨o.dst,g,fP quiet x⟩:dA))::l.zip uT) σ m ts σe me:=by
   intro h1 hw;have h2:=aqJ (U2 (dA.sl ⟨o.dst,g,fP quiet x⟩) σ) (λk hk=>by simp only[dA.sl,z05];exact .inr hk) h1
   obtain⟨sv,m',hK,hF⟩:=J8 hΓ hx h2;obtain⟨hl,hK⟩:=Az _ (hrs k) hK;obtain⟨ts,σe,me,h3,h4⟩:=U3 hΓ hrs l uT _ _ K (k+1) hc' hK;exact⟨(sv,m')::ts,σe,me,h3,sv,m',ts,rfl, .inl ⟨hw,hF⟩,hl,h4⟩
  cases g with
  |none=>exact go h rfl
  |some g=>
   obtain⟨s,want⟩:=g;simp only[qQ] at h;split at h
   ·rename_i b hb;by_cases hbw:b=want
    ·subst hbw;have h1:=h.1 rfl;rw[set_self hb] at h1;exact go h1 (.inl ⟨b,hb,by simp⟩)
    ·have hbn:b= !want:=by cases b<;>cases want<;>first|rfl|exact absurd rfl hbw
     subst hbn;have h1:=h.2 rfl;rw[set_self hb] at h1;obtain⟨hl,h1⟩:=Az _ (hrs k) h1;obtain⟨ts,σe,me,h3,h4⟩:=U3 hΓ hrs l uT _ _ K (k+1) hc' h1;exact⟨(.bK [],m)::ts,σe,me,h3, .bK [],m,ts,rfl, .inr ⟨.inl ⟨_,hb,by cases want<;>rfl⟩,rfl,rfl⟩,hl,h4⟩
   ·rename_i hb;obtain⟨hl,h⟩:=Az _ (hrs k) h;obtain⟨ts,σe,me,h3,h4⟩:=U3 hΓ hrs l uT _ _ K (k+1) hc' h;exact⟨(.bK [],m)::ts,σe,me,h3, .bK [],m,ts,rfl, .inr ⟨.inr ⟨hb,rfl⟩,rfl,rfl⟩,hl,h4⟩
   ·exact h.elim
def ov(S:Nat->Bool)(V:Nat->SV):List dA->Nat->List SV->List SV
 |[],_,σ=>σ
 |io::r,k,σ=>ov S V r (k+1) (if S k then iC io.dst (V k) σ else σ)
theorem Ko(d:Option Nat)(sv:SV)(σ:List SV):(iC d sv σ).length=σ.length:=by cases d<;>simp[iC]
theorem nY(S:Nat->Bool)(V:Nat->SV):∀ (aP:List dA) (k:Nat) (σ:List SV),(ov S V aP k σ).length=σ.length
 |[],_,_=>rfl
 |io::r,k,σ=>by
  simp only[ov];rw[nY S V r];split
  ·exact Ko _ _ _
  ·rfl
def jP(aP:List dA):List Nat:=aP.filterMap (·.dst)
theorem Qy(d:Option Nat)(sv:SV)(σ:List SV)(x:Nat):(iC d sv σ).getD x .junk=if d=some x/\x<σ.length then sv else σ.getD x .junk:=by
 cases d with
 |none=>simp[iC]
 |some d=>
  by_cases hx:d=x
  ·subst hx;by_cases hl:d<σ.length
   ·simp[iC,z04,hl]
   ·simp[iC,z04,hl]
  ·simp[iC,z04,hx]
theorem xM(S:Nat->Bool)(V:Nat->SV)(x:Nat):∀ (aP:List dA) (k:Nat) (σ:List SV),(∀ (j:Nat) (io:dA),aP[j]? =some io->io.dst=some x->S (k+j)=false)->(ov S V aP k σ).getD x .junk=σ.getD x .junk
 |[],_,_,_=>rfl
 |io::r,k,σ,h=>by
  simp only[ov];rw[xM S V x r (k+1) _ (λj He h1 h2=>by have:=h (j+1) He (by simpa using h1) h2;rwa [show k+(j+1)=k+1+j by omega] at this)]
  split
  ·rename_i hs;rw[Qy,if_neg];intro hx;have:=h 0 io rfl hx.1;rw[z0o,hs] at this;cases this
  ·rfl
theorem Ee(S:Nat->Bool)(V:Nat->SV)(x:Nat):∀ (aP:List dA) (k:Nat) (σ:List SV) (j:Nat) (io:dA),(jP aP).Nodup->aP[j]? =some io->io.dst=some x->S (k+j)=true->x<σ.length->(ov S V aP k σ).getD x .junk=V (k+j)
 |[],_,_,_,_,_,h,_,_,_=>by simp at h
 |i0::r,k,σ,0,io,hn,h,hd,hs,hx=>by
  simp only[z0k,z00] at h;subst h;simp only[ov];rw[z0o] at hs;rw[if_pos hs,xM S V x r (k+1) _ (λj He h1 h2=> ?_)]
  ·rw[Qy,if_pos ⟨hd,hx⟩];rfl
  ·exfalso;simp only[jP,z1l,hd] at hn;have:=(z1x.1 hn).1;exact this (z19.2 ⟨He,z0j h1,h2⟩)
 |i0::r,k,σ,j+1,io,hn,h,hd,hs,hx=>by
  simp only[ov];have hn':(jP r).Nodup:=by
   unfold jP at hn ⊢;rw[z1l] at hn;split at hn
   ·exact hn
   ·exact(z1x.1 hn).2
  rw[Ee S V x r (k+1) _ j io hn' (by simpa using h) hd (by rwa [show k+1+j=k+(j+1) by omega]) (by split<;>first|(rw[Ko];exact hx)|exact hx)]
  congr 1;omega
def aw2(acc:List Nat)(s:Nat)(e:Edge):Nat:=if Region.binds .any e then s|||(1<<<e.on)|||acc.getD e.on 0 else s
def msk(acc:List Nat)(o:Oper):Nat:=o.after.toList.foldl (aw2 acc) 0
def Kq:List Oper->List Nat->List Nat
 |[],acc=>acc
 |o::r,acc=>Kq r (acc++[msk acc o])
theorem U4(acc:List Nat):∀ (es:List Edge) (s j:Nat),(es.foldl (aw2 acc) s).testBit j=true->s.testBit j=true\/∃ e∈es,Region.binds .any e=true/\(e.on=j\/(acc.getD e.on 0).testBit j=true)
 |[],s,j,h=> .inl h
 |e::es,s,j,h=>by
  simp only[z3q] at h;rcases U4 acc es _ j h with h|⟨e',h1,h2⟩
  ·unfold aw2 at h;split at h
   ·rename_i hb;simp only[Nat.testBit_or,z14] at h;rcases h with(h|h)|h
    ·exact .inl h
    ·refine .inr ⟨e,by simp,hb, .inl ?_⟩
     rw[Nat.one_shiftLeft,Nat.testBit_two_pow] at h;simpa using h
    ·exact .inr ⟨e,by simp,hb, .inr h⟩
   ·exact .inl h
  ·exact .inr ⟨e',by simp[h1],h2⟩
def Closed(ops:List Oper)(S:Nat->Bool):Prop:= ∀ i o,ops[i]? =some o->S i=true->∀ e∈o.after,Region.binds .any e=true->S e.on=true
theorem Ef{ops:List Oper}{S:Nat->Bool}(hS:Closed ops S):∀ (r:List Oper) (acc:List Nat),(∀ i,r[i]? =ops[acc.length+i]?)->
  (∀ i o,ops[i]? =some o->i<acc.length->(∀ e∈o.after,Region.binds .any e=true->S e.on=true)->∀ j,(acc.getD i 0).testBit j=true->S j=true)->
  ∀ i o,ops[i]? =some o->i<acc.length+r.length->(∀ e∈o.after,Region.binds .any e=true->S e.on=true)->∀ j,((Kq r acc).getD i 0).testBit j=true->S j=true
 |[],acc,_,hacc,i,o,ho,hi,hd,j,hj=>hacc i o ho (by simpa using hi) hd j hj
 |o0::r,acc,hr,hacc,i,o,ho,hi,hd,j,hj=>by
  refine Ef hS r (acc++[msk acc o0]) (λk=>by have:=hr (k+1);simpa[z2v,z2z 1 k] using this) ?_ i o ho (by simp at hi ⊢;omega) hd j hj
  intro i' o' ho' hi' hd' j' hj';by_cases hlt:i'<acc.length
  ·have:(acc++[msk acc o0]).getD i' 0=acc.getD i' 0:=by simp[z04,z0z hlt]
   rw[this] at hj';exact hacc i' o' ho' hlt hd' j' hj'
  ·have he:i'=acc.length:=by simp at hi';omega
   subst he;have:(acc++[msk acc o0]).getD acc.length 0=msk acc o0:=by simp[z04]
   rw[this] at hj';have ho0:o0=o':=by have:=hr 0;simp only[z0k,z0o] at this;rw[ho'] at this;exact z0r this
   subst ho0;rcases U4 acc _ 0 j' hj' with h|⟨e,h1,h2,h3⟩
   ·simp at h
   ·have hSe:=hd' e (by simpa using h1) h2
    rcases h3 with h3|h3
    ·rw[<- h3];exact hSe
    ·-- what precedes 'e.on'
     by_cases hel:e.on<acc.length
     ·cases hoe:ops[e.on]? with
      |none=>
       exfalso;have h4:ops.length<=e.on:=by simpa using hoe
       have h5:acc.length<ops.length:=(z09.1 ho').1;omega
      |some oe=>exact hacc e.on oe hoe hel (λe2 he2 hb2=>hS e.on oe hoe hSe e2 he2 hb2) j' h3
     ·have:acc.getD e.on 0=0:=by simp[z04,z0h (z0x hel)]
      rw[this] at h3;simp at h3
def Gn(a b:dA):Bool:=
 (match a.dst with|some d=>b.sl.contains d|none=>false)||(match b.dst with|some d=>a.sl.contains d|none=>false)
def conf(a b:dA):Bool:=Gn a b||(a.op.eff&&b.op.impure)||(a.op.impure&&b.op.eff)
def Hf(io:dA):Option dA:=match io.op,io.dst with
 | .e (.load n ag x),some d=>some ⟨none,io.guard, .e (.again n ag x d)⟩
 | .e (.mJ (.get ek ev z ok) ys),some d=>some ⟨none,io.guard, .e (.uX (.get ek ev z ok) ys d)⟩
 |_,_=>none
def clear(aP:List dA)(sl:List Nat)(i j:Nat):Bool:=aP.zipIdx.all λx=> !(decide (i<=x.2)&&decide (x.2<=j))||(match x.1.dst with
 |some d=> !sl.contains d
 |none=>true)
def zQ(aP:List dA)(y x:dA)(i j:Nat):Bool:=(Hf y).isSome&&x.op.eff&& !Gn y x&&clear aP y.sl i j
def chk(ops:List Oper)(aP:List dA):Bool:=
 let ps:=Kq ops []
 (ops.zipIdx.all λx=>x.1.after.toList.all λe=> !Region.binds .any e||decide (e.on<x.2))&&
 decide (jP aP).Nodup&&
 (aP.zipIdx.all λx=>aP.zipIdx.all λy=> !decide (y.2<x.2)|| !conf y.1 x.1||(ps.getD x.2 0).testBit y.2||zQ aP y.1 x.1 y.2 x.2)
def zS(ops:List Oper)(aP:List dA)(j:Nat):List dA:=
 if (aP[j]?.map (·.op.eff)).getD false then aP.zipIdx.filterMap λx=>if decide (x.2<j)&& !((Kq ops []).getD j 0).testBit x.2 then Hf x.1 else none else[]
def aug(ops:List Oper)(aP:List dA):List dA:=al0 (zS ops aP) 0 aP
theorem Eh{S S':Nat->Bool}{V:Nat->SV}:∀ (aP:List dA) (k:Nat) (σ:List SV),(∀ j,j<aP.length->S (k+j)=S' (k+j))->ov S V aP k σ=ov S' V aP k σ
 |[],_,_,_=>rfl
 |io::r,k,σ,h=>by
  simp only[ov];have h0:=h 0 (by simp)
  rw[z0o] at h0;rw[h0];exact Eh r (k+1) _ (λj hj=>by have:=h (j+1) (by simp;omega);rwa [show k+(j+1)=k+1+j by omega] at this)
theorem qc{S:Nat->Bool}{V:Nat->SV}:∀ (aP:List dA) (k:Nat) (σ:List SV),(∀ j,j<aP.length->S (k+j)=false)->ov S V aP k σ=σ
 |[],_,_,_=>rfl
 |io::r,k,σ,h=>by
  simp only[ov];have h0:=h 0 (by simp)
  rw[z0o] at h0;rw[h0];exact qc r (k+1) _ (λj hj=>by have:=h (j+1) (by simp;omega);rwa [show k+(j+1)=k+1+j by omega] at this)
theorem al3{V:Nat->SV}{M:Nat->List ay}{rs:Nat->List dA}:∀ (l:List (Oper×dA)) (k:Nat) (σ:List SV) (m:List ay) (ts:List (SV×List ay)) (σe:List SV) (me:List ay),Tr P rs k l σ m ts σe me->M k=m->
  (∀ j t,ts[j]? =some t->V (k+j)=t.1/\M (k+j+1)=t.2)->
  (∀ j o io,l[j]? =some (o,io)->alZ P o io (ov (λi=>decide (i<k+j)) V (l.map (·.2)) k σ) (M (k+j)) (V (k+j)) (M (k+j+1))/\∀ c∈rs (k+j),Late c (ov (λi=>decide (i<k+j+1)) V (l.map (·.2)) k σ) (M (k+j+1)))/\σe=ov (λ_=>true) V (l.map (·.2)) k σ/\me=M (k+l.length)
 |[],k,σ,m,ts,σe,me,h,hM,hts=>by
  obtain⟨rfl,rfl,rfl⟩:=h;exact⟨λj o io h=>by simp at h,rfl,hM.symm⟩
 |(o,io)::r,k,σ,m,ts,σe,me,h,hM,hts=>by
  obtain⟨sv,m',ts',rfl,hstep,azD,htr⟩:=h;obtain⟨e1,e2⟩:=hts 0 (sv,m') rfl;rw[z0o] at e1 e2;obtain⟨i1,i2,i3⟩:=al3 r (k+1) (iC io.dst sv σ) m' ts' σe me htr e2 (λj t ht=>by have:=hts (j+1) t (by simpa using ht);rwa [show k+(j+1)=k+1+j by omega] at this)
  refine⟨λj o' He hj=> ?_,?_,by rw[i3];simp only[z1u];rw[show k+1+r.length=k+(r.length+1) by omega]⟩
  ·cases j with
   |zero=>
    simp only[z0k,z00,z0a] at hj;obtain⟨rfl,rfl⟩:=hj;refine⟨?_,?_⟩
    ·rw[z0o,qc _ _ _ (λj _=>by simp),hM,e1,e2]
     exact hstep
    ·rw[z0o,e2];simp only[z0i,ov];rw[if_pos (by simp),e1,qc _ _ _ (λj _=>by simp)]
     exact azD
   |succ j=>
    have:=i1 j o' He (by simpa using hj)
    rw[show k+1+j=k+(j+1) by omega] at this
    simp only[z0i,ov];rw[if_pos (by simp),if_pos (decide_eq_true (by omega)),e1]
    exact this
  ·rw[i2];simp only[z0i,ov,if_true,e1]
def top(aP:List dA)(S:Nat->Bool):Nat->Nat
 |0=>0
 |k+1=>if (aP[k]?.map (·.op.eff)).getD false&&S k then k+1 else top aP S k
theorem rV{aP:List dA}{S S':Nat->Bool}:∀ n,(∀ k,k<n->(aP[k]?.map (·.op.eff)).getD false=true->S k=S' k)->top aP S n=top aP S' n
 |0,_=>rfl
 |n+1,h=>by
  simp only[top];rw[rV n (λk hk he=>h k (by omega) he)]
  by_cases he:(aP[n]?.map (·.op.eff)).getD false=true
  ·rw[h n (by omega) he]
  ·simp only[Bool.not_eq_true] at he;simp[he]
theorem Ei{aP:List dA}{S:Nat->Bool}{i:Nat}:∀ n,i<=n->(∀ k,i<=k->k<n->(aP[k]?.map (·.op.eff)).getD false=true->S k=false)->top aP S n=top aP S i
 |0,hi,_=>by
          have:i=0:=by omega
          subst this;rfl
 |n+1,hi,h=>by
  rcases Nat.eq_or_lt_of_le hi with e|hlt
  ·rw[e]
  ·simp only[top];rw[if_neg,Ei n (by omega) (λk h1 h2 h3=>h k h1 (by omega) h3)]
   intro hc;simp only[z07] at hc;have:=h n (by omega) (by omega) hc.1
   rw[this] at hc;cases hc.2
end Go.Sx
namespace Go.Sx
open Go
variable {P:Program}
theorem aH.same{J:Env}{σ σ':List SV}{a:Act}(h:aH J σ a)(hl:σ'.length=σ.length)(hg:∀ k,σ'.getD k .junk=σ.getD k .junk):aH J σ' a:=
 ⟨by rw[hl];exact h.1,λk=>by rw[hg k];exact h.2 k⟩
theorem zT{S S':Nat->Bool}{V:Nat->SV}{aP:List dA}{σ:List SV}{x:Nat}(hn:(jP aP).Nodup)(h:∀ (j:Nat) (io:dA),aP[j]? =some io->io.dst=some x->S j=S' j):
  (ov S V aP 0 σ).getD x .junk=(ov S' V aP 0 σ).getD x .junk:=by
 by_cases hx:x<σ.length
 ·by_cases he:∃ (j:Nat) (io:dA),aP[j]? =some io/\io.dst=some x
  ·obtain⟨j,io,h1,h2⟩:=he;have uniq:∀ (j':Nat) (He:dA),aP[j']? =some He->He.dst=some x->S j'=S' j':=h;cases hs:S j with
   |true=>
    have hs':S' j=true:=by rw[<- h j io h1 h2];exact hs
    rw[Ee S V x aP 0 σ j io hn h1 h2 (by simpa using hs) hx,Ee S' V x aP 0 σ j io hn h1 h2 (by simpa using hs') hx]
   |false=>
    have hone:∀ (j':Nat) (He:dA),aP[j']? =some He->He.dst=some x->j'=j:=U5 hn h1 h2;have hs':S' j=false:=by rw[<- h j io h1 h2];exact hs
    rw[xM S V x aP 0 σ (λj' He a b=>by rw[z03,hone j' He a b];exact hs),xM S' V x aP 0 σ (λj' He a b=>by rw[z03,hone j' He a b];exact hs')]
  ·rw[xM S V x aP 0 σ (λj' He a b=>absurd ⟨j',He,a,b⟩ he),xM S' V x aP 0 σ (λj' He a b=>absurd ⟨j',He,a,b⟩ he)]
 ·have e1:(ov S V aP 0 σ).getD x .junk= .junk:=by simp[z04,nY,hx]
  have e2:(ov S' V aP 0 σ).getD x .junk= .junk:=by simp[z04,nY,hx]
  rw[e1,e2]
where
 U5 {x:Nat}:∀ {aP:List dA} {j:Nat} {io:dA},(jP aP).Nodup->aP[j]? =some io->io.dst=some x->∀ (j':Nat) (He:dA),aP[j']? =some He->He.dst=some x->j'=j
  |[],_,_,_,h,_,_,_,_,_=>by simp at h
  |i0::r,j,io,hn,h,hd,j',He,h',hd'=>by
   have hn':(jP r).Nodup:=by
    unfold jP at hn ⊢;rw[z1l] at hn;split at hn
    ·exact hn
    ·exact(z1x.1 hn).2
   have h0:i0.dst=some x->∀ (k:Nat) (io2:dA),r[k]? =some io2->io2.dst=some x->False:=by intro e k io2 h1 h2;simp only[jP,z1l,e] at hn;exact(z1x.1 hn).1 (z19.2 ⟨io2,z0j h1,h2⟩)
   cases j with
   |zero=>
    simp only[z0k,z00] at h;subst h;cases j' with
    |zero=>rfl
    |succ j'=>exact(h0 hd j' He (by simpa using h') hd').elim
   |succ j=>
    cases j' with
    |zero=>
     simp only[z0k,z00] at h';subst h';exact(h0 hd' j io (by simpa using h) hd).elim
    |succ j'=>
     have:=U5 hn' (by simpa using h) hd j' He (by simpa using h') hd'
     omega
theorem mapM_at.{u1,u2}{α:Type u1}{β:Type u2}{f:α->Option β}:∀ {l:List α} {l':List β},l.mapM f=some l'->∀ i:Nat,(l[i]?).bind f=l'[i]? /\(l[i]?.isSome=l'[i]?.isSome)
 |[],l',h,i=>by simp at h;subst h;simp
 |x::l,l',h,i=>by
  simp only[z1c,bind,z1h] at h;obtain⟨y,hy,h⟩:=bind_some h;obtain⟨r,hr,h⟩:=bind_some h;simp only[z00] at h;subst h;cases i with
  |zero=>simp[hy]
  |succ i=>simpa using mapM_at hr i
theorem mapM_len.{u1,u2}{α:Type u1}{β:Type u2}{f:α->Option β}:∀ {l:List α} {l':List β},l.mapM f=some l'->l'.length=l.length
 |[],l',h=>by simp at h;subst h;simp
 |x::l,l',h=>by simp only[z1c,bind,z1h] at h;obtain⟨y,hy,h⟩:=bind_some h;obtain⟨r,hr,h⟩:=bind_some h;simp only[z00] at h;subst h;simp[mapM_len hr]
theorem Qz{ops:List Oper}{aP:List dA}(h:chk ops aP=true):
  (∀ (i:Nat) (o:Oper),ops[i]? =some o->∀ e∈o.after,Region.binds .any e=true->e.on<i)/\(jP aP).Nodup/\
  (∀ (i j:Nat) (x y:dA),aP[i]? =some x->aP[j]? =some y->j<i->conf y x=true->((Kq ops []).getD i 0).testBit j=true\/zQ aP y x j i=true):=by
 simp only[chk,z07,z0q,decide_eq_true_eq,z14,z0v,decide_eq_false_iff_not] at h;obtain⟨⟨h1,h2⟩,h3⟩:=h;refine⟨λi o ho e he hb=> ?_,h2,λi j x y hx hy hlt hc=> ?_⟩
 ·have hm:(o,i)∈ops.zipIdx:=by rw[z0l];exact ho
  rcases h1 (o,i) hm e (by simpa using he) with h|h
  ·rw[hb] at h;cases h
  ·exact h
 ·have hm:(x,i)∈aP.zipIdx:=by rw[z0l];exact hx
  have hm2:(y,j)∈aP.zipIdx:=by rw[z0l];exact hy
  rcases h3 (x,i) hm (y,j) hm2 with((h|h)|h)|h
  ·exact absurd hlt h
  ·rw[hc] at h;cases h
  ·exact .inl h
  ·exact .inr h
structure Plan(P:Program)(quiet:FuncId->Bool)(ops:Array Oper)(aP:List dA)(σ:List SV)(V:Nat->SV)(M:Nat->List ay):Prop where
 len:aP.length=ops.size
 cmp:∀ (i:Nat) (o:Oper) (io:dA),ops[i]? =some o->aP[i]? =some io->io.dst=o.dst/\qY ops o.guard=some io.guard/\∃ x0,zF P o.op=some x0/\io.op=fP quiet x0
 step:∀ (i:Nat) (o:Oper) (io:dA),ops[i]? =some o->aP[i]? =some io->alZ P o io (ov (λj=>decide (j<i)) V aP 0 σ) (M i) (V i) (M (i+1))
 chk:chk ops.toList aP=true
 late:∀ j,j<aP.length->∀ c∈zS ops.toList aP j,Late c (ov (λk=>decide (k<j+1)) V aP 0 σ) (M (j+1))
variable {quiet:FuncId->Bool} {ops:Array Oper} {aP:List dA} {σ:List SV} {V:Nat->SV} {M:Nat->List ay}
theorem Plan.aau(pl:Plan P quiet ops aP σ V M):∀ i,i<=aP.length->M i=M (top aP (λ_=>true) i)
 |0,_=>rfl
 |i+1,h=>by
  simp only[top];split
  ·rfl
  ·rename_i he;have hi:i<aP.length:=h;have h1:aP[i]? =some aP[i]:=by simp[hi]
   have h2:ops[i]? =some (ops[i]'(by rw[<- pl.len];exact hi)):=by simp
   rw[h1] at he;have heff:aP[i].op.eff=false:=by simpa using he
   have:M (i+1)=M i:=by
    rcases pl.step i _ _ h2 h1 with⟨_,_,_,h5⟩|⟨_,_,h5⟩
    ·exact h5 heff
    ·exact h5
   rw[this,pl.aau i (Nat.le_of_succ_le h)]
theorem ny{listed:Array Bool}{i:Nat}(h:i∈Region.ready .any ops listed):i<ops.size:=by obtain⟨_,o,ho,_⟩:=mem_ready.1 h;exact(z0m.1 ho).1
theorem Kr(a b:dA):Gn a b=Gn b a:=by unfold Gn;rw[Bool.or_comm]
theorem aeP(a b:dA):conf a b=conf b a:=by
 have tb:∀ p q r:Bool,(p||q||r)=(p||r||q):=by decide
 unfold conf;rw[Kr,tb,z3s a.op.impure,z3s a.op.eff]
theorem Plan.before(pl:Plan P quiet ops aP σ V M){S:Nat->Bool}(hS:Closed ops.toList S){i j:Nat}(hj:j<ops.size)(hs:S j=true)(hb:((Kq ops.toList []).getD j 0).testBit i=true):S i=true:=by
 have hoj:ops.toList[j]? =some ops[j]:=by simp[hj]
 exact Ef hS ops.toList [] (λk=>by simp) (λk o' _ hk=>absurd hk (z16 _)) j _ hoj (by simpa using hj) (λe he hb=>hS j _ hoj hs e he hb) i hb
theorem Plan.agree(pl:Plan P quiet ops aP σ V M){S:Nat->Bool}(hS:Closed ops.toList S){i:Nat}{o:Oper}{io:dA}(ho:ops[i]? =some o)(uo:aP[i]? =some io)
  (hi:S i=false) (hr:∀ e∈o.after,Region.binds .any e=true->S e.on=true):
  (∀ (j:Nat) (y:dA),aP[j]? =some y->conf y io=true->j≠i->(j<i->zQ aP y io j i=false)->(i<j->zQ aP io y i j=false)->S j=decide (j<i)):=by
 obtain⟨c1,c2,c3⟩:=Qz pl.chk;have hob:∀ (k:Nat) (o:Oper),ops.toList[k]? =some o->k< ([]:List Nat).length+ops.toList.length:=λk o h=>by have:=(z09.1 h).1;simpa using this
 intro j y hy hc1 hji hsl1 hsl2;have ho':ops.toList[i]? =some o:=by simpa using ho
 rcases z1f j i with hlt|hge
 ·rw[decide_eq_true hlt];rcases c3 i j io y uo hy hlt hc1 with hb|hb
  ·exact Ef hS ops.toList [] (λk=>by simp) (λk o' _ hk=>absurd hk (z16 _)) i o ho' (hob i o ho') hr j hb
  ·rw[hsl1 hlt] at hb;cases hb
 ·have hgt:i<j:=by omega
  rw[decide_eq_false (by omega)]
  have hc2:conf io y=true:=by rw[aeP];exact hc1
  rcases c3 j i y io hy uo hgt hc2 with hb|hb
  ·cases hs:S j with
   |false=>rfl
   |true=>
    exfalso;have hj:j<ops.size:=by rw[<- pl.len];exact(z09.1 hy).1
    have:=pl.before hS hj hs hb;rw[hi] at this;cases this
  ·rw[hsl2 hgt] at hb;cases hb
theorem aeQ{y io:dA}{x:Nat}(hy:y.dst=some x)(hx:x∈io.sl):Gn y io=true:=by simp[Gn,hy,hx]
theorem Gv{y x:dA}{i j:Nat}(h:Gn y x=true):zQ aP y x i j=false:=by simp[zQ,h]
theorem NM{y x:dA}{i j:Nat}(h:y.op.eff=true):zQ aP y x i j=false:=by
 have:Hf y=none:=by
  unfold Hf;split
  ·rename_i e _;rw[e] at h;cases h
  ·rename_i e _;rw[e] at h;cases h
  ·rfl
 simp[zQ,this]
theorem al4{y x:dA}{i j:Nat}(h:Hf y=none):zQ aP y x i j=false:=by simp[zQ,h]
theorem U6{aP:List dA}{S:Nat->Bool}:∀ n,top aP S n=0\/∃ k,k<n/\top aP S n=k+1/\(aP[k]?.map (·.op.eff)).getD false=true/\S k=true
 |0=> .inl rfl
 |n+1=>by
  simp only[top];split
  ·rename_i h;simp only[z07] at h;exact .inr ⟨n,z2q _,rfl,h.1,h.2⟩
  ·rcases U6 (aP:=aP) (S:=S) n with h|⟨k,h1,h2⟩
   ·exact .inl h
   ·exact .inr ⟨k,Nat.lt_succ_of_lt h1,h2⟩
theorem al5{aP:List dA}{S:Nat->Bool}{k:Nat}(he:(aP[k]?.map (·.op.eff)).getD false=true)(hs:S k=true):∀ n,k<n->k+1<=top aP S n
 |0,h=>by omega
 |n+1,h=>by
  simp only[top];split
  ·omega
  ·rename_i hc;by_cases e:k=n
   ·subst e;rw[he,hs] at hc;exact absurd rfl hc
   ·exact al5 he hs n (by omega)
theorem al6{m:List ay}{n:Nat}{ag:Bool}{a:SV}{B:Prop}(hB:B){v:SV}(h:peek m n ag (λsv=>sv=a) v):peek m n ag (λsv=>sv=a/\B) v:=by
 cases v<;>simp only[peek] at h ⊢ <;>first
  |exact h.elim
  |exact⟨h.1,h.2,hB⟩
  |(split at h<;>first|exact h.elim|exact⟨h.1,h.2,hB⟩)
theorem al7{aP:List dA}{sl:List Nat}{i j:Nat}(hij:i<=j)(h:clear aP sl i j=true){k:Nat}{y:dA}{x:Nat}(hy:aP[k]? =some y)(hd:y.dst=some x)(hx:x∈sl):decide (k<i)=decide (k<j+1):=by
 simp only[clear,z0q] at h;have:=h (y,k) (by rw[z0l];exact hy)
 simp only[hd,z14,z0v,Bool.and_eq_false_iff,decide_eq_false_iff_not] at this;rcases this with h|h
 ·rw[decide_eq_decide];omega
 ·rw[z2d,decide_eq_false_iff_not] at h;exact absurd hx h
def upd(S:Nat->Bool)(i:Nat):Nat->Bool:=λj=>S j||decide (j=i)
theorem Closed.upd{L:List Oper}{S:Nat->Bool}(hS:Closed L S){i:Nat}{o:Oper}(ho:L[i]? =some o)(hr:∀ e∈o.after,Region.binds .any e=true->S e.on=true):Closed L (upd S i):=by
 intro j o' ho' hj e he hb;simp only[Sx.upd,z14,decide_eq_true_eq] at hj ⊢;rcases hj with hj|rfl
 ·exact .inl (hS j o' ho' hj e he hb)
 ·rw[ho] at ho';cases ho';exact .inl (hr e he hb)
theorem aH.mask{J:Env}{σ σ1:List SV}{a:Act}{ss:List Nat}(h:aH J σ a)(hl:σ1.length=σ.length)(hg:∀ k∈ss,σ.getD k .junk=σ1.getD k .junk):aH J (wI ss σ1) a:=by
 refine⟨by rw[aeO,hl];exact h.1,λk=> ?_⟩
 rw[J9];split
 ·rename_i hk;rw[<- hg k hk];exact h.2 k
 ·trivial
theorem Plan.step_ok{Γ:Hook}(hΓ:fB P Γ)(pl:Plan P quiet ops aP σ V M){S:Nat->Bool}(hS:Closed ops.toList S){i:Nat}{o:Oper}(ho:ops[i]? =some o)(hi:S i=false)
  (hr:∀ e∈o.after,Region.binds .any e=true->S e.on=true) {β:Base} {J:Env} {a:Act} {w:World} {Q:Exit->Act->World->Prop}
  (hI:Inv β J (M (top aP S aP.length)) w) (hs:aH J (ov S V aP 0 σ) a):
  wpOp P ops Q i (λa' w'=> ∃ J',Inv β J' (M (top aP (upd S i) aP.length)) w'/\aH J' (ov (upd S i) V aP 0 σ) a'/\∃ v,a'=a.put o.dst v) a w:=by
 have hlt:i<aP.length:=by rw[pl.len];exact(z0m.1 ho).1
 have uo:aP[i]? =some aP[i]:=by simp[hlt]
 generalize aP[i]=io at uo;obtain⟨c1,c2,c3⟩:=Qz pl.chk;have hag:=pl.agree hS ho uo hi hr;obtain⟨hd,hg,hx0⟩:=pl.cmp i o io ho uo;have hops:∀ x∈io.sl,(ov S V aP 0 σ).getD x .junk=(ov (λj=>decide (j<i)) V aP 0 σ).getD x .junk:=by
  intro x hx;refine zT c2 λj y hy hdy=> ?_;by_cases hji:j=i
  ·subst hji;rw[hi];simp
  ·have h0:=aeQ hdy hx;exact hag j y hy (by simp[conf,h0]) hji (λ_=>Gv h0) (λ_=>Gv (by rw[Kr];exact h0))
 have hlow:io.op.impure=true->top aP S i=top aP (λ_=>true) i:=by
  intro him;refine rV _ λk hk he=> ?_;have hk':aP[k]? =some (aP[k]'(by omega)):=by simp[show k<aP.length by omega]
  rw[hk'] at he;have he:(aP[k]'(by omega)).op.eff=true:=by simpa using he
  rw[hag k _ hk' (by simp[conf,he,him]) (by omega) (λ_=>NM he) (λh=>by omega),decide_eq_true hk]
 have hmem:io.op.impure=true->(∀ k,i<=k->k<aP.length->(aP[k]?.map (·.op.eff)).getD false=true->S k=false)->M (top aP S aP.length)=M i:=by intro him hno;rw[pl.aau i (z2y hlt),Ei _ (z2y hlt) hno,hlow him]
 have hnone:io.op.impure=true->Hf io=none->∀ k,i<=k->k<aP.length->(aP[k]?.map (·.op.eff)).getD false=true->S k=false:=by
  intro him hld k hk1 hk2 he;have hk:aP[k]? =some aP[k]:=by simp[hk2]
  rw[hk] at he;have he:aP[k].op.eff=true:=by simpa using he
  by_cases hki:k=i
  ·subst hki;exact hi
  ·rw[hag k _ hk (by simp[conf,he,him]) hki (λh=>by omega) (λ_=>al4 hld),decide_eq_false (by omega)]
 have aw3:∀ j,j≠i->S j=upd S i j:=λj h=>by simp[Sx.upd,h]
 have azE:upd S i i=true:=by simp[Sx.upd]
 have al8:io.op.eff=false->top aP (upd S i) aP.length=top aP S aP.length:=by
  intro he;refine rV _ λk hk hek=> ?_;by_cases hki:k=i
  ·subst hki;rw[uo] at hek;simp[he] at hek
  ·exact(aw3 k hki).symm
 have asV:io.op.eff=true->top aP (upd S i) aP.length=i+1:=by
  intro he;have him:io.op.impure=true:=by
   cases hx:io.op with
   |p x=>rw[hx] at he;cases he
   |e x=>rw[hx] at he;cases x<;>first|rfl|cases he
  have e1:top aP (upd S i) aP.length=top aP (upd S i) (i+1):=by
   refine Ei _ hlt λk hk1 hk2 hek=> ?_;have hk:aP[k]? =some aP[k]:=by simp[hk2]
   rw[hk] at hek;have hek:aP[k].op.eff=true:=by simpa using hek
   rw[<- aw3 k (by omega),hag k _ hk (by simp[conf,hek,him]) (by omega) (λh=>by omega) (λ_=>NM he),decide_eq_false (by omega)]
  rw[e1];simp only[top];rw[uo,azE];simp[he]
 have hput:∀ {J':Env} {v:Value},aH J' (ov S V aP 0 σ) a->bM J' (V i) v->aH J' (ov (upd S i) V aP 0 σ) (a.put o.dst v):=by
  intro J' v h1 h2;refine aH.same (h1.put h2 o.dst) (by rw[Ko,nY,nY]) λk=> ?_
  rw[Qy];by_cases hk:o.dst=some k
  ·by_cases hkl:k< (ov S V aP 0 σ).length
   ·rw[if_pos ⟨hk,hkl⟩];have:=Ee (upd S i) V k aP 0 σ i io c2 uo (by rw[hd];exact hk) (by rw[z03];exact azE) (by rw[nY] at hkl;exact hkl)
    rwa [z03] at this
   ·rw[if_neg (λh=>hkl h.2)];rw[nY] at hkl;simp[z04,nY,hkl]
  ·rw[if_neg (λh=>hk h.1)];refine zT c2 λj y hy hdy=> ?_;have:j≠i:=by intro e;subst e;rw[uo] at hy;cases hy;rw[hd] at hdy;exact hk hdy
   exact(aw3 j this).symm
 have hsm:aH J (wI io.sl (ov (λj=>decide (j<i)) V aP 0 σ)) a:=hs.mask (by rw[nY,nY]) hops
 have hwant:∀ b,Ed io.guard (ov (λj=>decide (j<i)) V aP 0 σ) b->Region.wanted o (yielded ops a.tmps)=b:=by
  intro b hb;cases hgi:io.guard with
  |none=>
   rw[hgi] at hb hg;have hgn:o.guard=none:=by
    cases hog:o.guard with
    |none=>rfl
    |some g=>rw[hog] at hg;simp only[qY] at hg;split at hg<;>cases hg
   rw[show b=true from hb]
   simp[Region.wanted,hgn]
  |some g=>
   obtain⟨s,want⟩:=g;rw[hgi] at hb hg;have hsl:s∈io.sl:=by simp[dA.sl,hgi]
   rcases hb with⟨t,e1,e2⟩|⟨e1,rfl⟩
   ·rw[<- hops s hsl] at e1;rw[wz hs hg e1];exact e2
   ·rw[<- hops s hsl] at e1;exact rG hs hg e1
 unfold wpOp;rw[ho];simp only;rcases pl.step i o io ho uo with⟨hw,h1,h2,h3⟩|⟨hw,h1,h2⟩
 ·rw[if_pos (hwant _ hw)];refine .inl ?_;cases him:io.op.impure with
  |false=>
   have heff:io.op.eff=false:=by
    cases hx:io.op with
    |p x=>rfl
    |e x=>rw[hx] at him;cases x<;>first|rfl|cases him
   refine Oper.wp_mono ?_ (h1 him _ β J a w hI hsm Q);rintro a' w' ⟨v,J',rfl,hv,hle,hI'⟩;exact⟨J',by rw[al8 heff];exact hI',hput (hs.mono hle) hv,v,rfl⟩
  |true=>
   have hstep:∃ m',fK P o (wI io.sl (ov (λj=>decide (j<i)) V aP 0 σ)) (M (top aP S aP.length)) (V i) m'/\(io.op.eff=true->m'=M (i+1))/\(io.op.eff=false->m'=M (top aP S aP.length)):=by
    by_cases hno:∀ k,i<=k->k<aP.length->(aP[k]?.map (·.op.eff)).getD false=true->S k=false
    ·rw[hmem him hno];exact⟨_,h2,λ_=>rfl,λhe=>h3 he⟩
    ·have hld:Hf io≠none:=λe=>hno (hnone him e);obtain⟨d,op',hdst,aCF,hcase⟩:∃ d op',io.dst=some d/\Hf io=some ⟨none,io.guard,op'⟩/\((∃ n ag x,io.op= .e (.load n ag x)/\op'= .e (.again n ag x d))\/∃ k ys,io.op= .e (.mJ k ys)/\k.eff=false/\op'= .e (.uX k ys d)):=by
      unfold Hf at hld ⊢;split at hld
      ·rename_i n ag x d e1 e2;exact⟨d,_,e2,rfl, .inl ⟨n,ag,x,e1,rfl⟩⟩
      ·rename_i ek ev z ok ys d e1 e2;exact⟨d,_,e2,rfl, .inr ⟨_,ys,e1,rfl,rfl⟩⟩
      ·exact absurd rfl hld
     have heff:io.op.eff=false:=by
      rcases hcase with⟨_,_,_,h,_⟩|⟨k,_,h,he,_⟩
      ·rw[h];rfl
      ·rw[h];exact he
     simp only[z2u] at hno;obtain⟨k0,hk0,aCG,aCH,azF⟩:=hno;simp only[Bool.not_eq_false] at azF;have hge:=al5 (S:=S) aCH azF aP.length aCG;rcases U6 (aP:=aP) (S:=S) aP.length with ht|⟨k,hkl,ht,hke,hks⟩
     ·omega
     have hik:i<k:=by
      have:i≠k:=λe=>by subst e;rw[hi] at hks;cases hks
      omega
     have hk:aP[k]? =some aP[k]:=by simp[hkl]
     have aCI:aP[k].op.eff=true:=by rw[hk] at hke;simpa using hke
     have hnb:((Kq ops.toList []).getD k 0).testBit i=false:=by
      cases hb:((Kq ops.toList []).getD k 0).testBit i with
      |false=>rfl
      |true=>
       have:=pl.before hS (by rw[<- pl.len];exact hkl) hks hb
       rw[hi] at this;cases this
     have azG:(⟨none,io.guard,op'⟩:dA)∈zS ops.toList aP k:=by
      unfold zS;rw[if_pos hke];refine z19.2 ⟨(io,i),by rw[z0l];exact uo,?_⟩
      simp only[hik,decide_true,hnb,Bool.not_false,Bool.and_self,if_true];exact aCF
     have aw4:clear aP io.sl i k=true:=by
      have hcf:conf io aP[k]=true:=by simp[conf,aCI,him]
      rcases c3 k i aP[k] io hk uo hik hcf with h|h
      ·rw[hnb] at h;cases h
      ·simp only[zQ,z07] at h;exact h.2
     have aw5:∀ s∈io.sl,(ov (λj=>decide (j<k+1)) V aP 0 σ).getD s .junk=(ov (λj=>decide (j<i)) V aP 0 σ).getD s .junk:=by intro s hs';exact(zT c2 λj y hy hdy=>al7 (z2y hik) aw4 hy hdy hs').symm
     have hwk:Ed io.guard (ov (λj=>decide (j<k+1)) V aP 0 σ) true:=by
      cases hgi:io.guard with
      |none=>rfl
      |some g=>
       obtain⟨s,want⟩:=g;rw[hgi] at hw;have hsl:s∈io.sl:=by simp[dA.sl,hgi]
       rcases hw with⟨t,e1,e2⟩|⟨e1,e2⟩
       ·exact .inl ⟨t,by rw[aw5 s hsl];exact e1,e2⟩
       ·exact .inr ⟨by rw[aw5 s hsl];exact e1,e2⟩
     obtain⟨x0,hx1,hx2⟩:=hx0;have hvi:(ov (λj=>decide (j<k+1)) V aP 0 σ).getD d .junk≠ .junk->(ov (λj=>decide (j<k+1)) V aP 0 σ).getD d .junk=V i:=by
      intro l1;have hdl:d<σ.length:=by
       refine z2r λhle=> ?_;have:(ov (λj=>decide (j<k+1)) V aP 0 σ).getD d .junk= .junk:=by simp[z04,nY,hle]
       exact l1 this
      have:=Ee (λj=>decide (j<k+1)) V d aP 0 σ i io c2 uo hdst (by simp;omega) hdl
      rwa [z03] at this
     have hxe:∀ x:aS,(∀ s∈x.sl,s∈io.sl)->x.ev (wI io.sl (ov (λj=>decide (j<i)) V aP 0 σ))=x.ev (ov (λj=>decide (j<k+1)) V aP 0 σ):=by
      intro x hsub;cases x with
      |t q=>
       have hq:q∈io.sl:=hsub q (by simp[aS.sl])
       simp only[aS.ev,J9,if_pos hq];exact(aw5 q hq).symm
      |c v=>rfl
     have hdk:jZ Γ (wI io.sl (ov (λj=>decide (j<i)) V aP 0 σ)) (M (k+1)) (λsv m'=>sv=V i/\m'=M (k+1)) (fP quiet x0):=by
      rcases hcase with⟨n,ag,x,hop,rfl⟩|⟨kk,ys,hop,_,rfl⟩
      ·obtain⟨l1,l2⟩:=(pl.late k hkl _ azG).1 n ag x d rfl hwk;rw[hvi (λe=>by rw[e] at l1;cases l1)] at l2
       rw[<- hx2,hop];simp only[jZ,nD,hxe x (λs hs'=>by simp only[dA.sl,hop,z05];exact .inr hs')]
       exact al6 (B:=True) trivial l2
      ·obtain⟨l1,l0,l2⟩:=(pl.late k hkl _ azG).2 kk ys d rfl hwk;rw[hvi (λe=>by rw[e] at l1;cases l1)] at l2
       have hys:ys.map (·.ev (wI io.sl (ov (λj=>decide (j<i)) V aP 0 σ)))=ys.map (·.ev (ov (λj=>decide (j<k+1)) V aP 0 σ)):=by refine List.map_congr_left λy hy=>hxe y λs hs'=> ?_;simp only[dA.sl,hop,z05];exact .inr (List.mem_flatMap.2 ⟨y,hy,hs'⟩)
       rw[<- hx2,hop];simp only[jZ,nD,hys];exact⟨l0,l2⟩
     obtain⟨sv,m',⟨rfl,rfl⟩,hF⟩:=J8 hΓ hx1 hdk;rw[ht];exact⟨_,hF.2.1,⟨λhe=>(by rw[heff] at he;cases he),λ_=>rfl⟩⟩
   obtain⟨m',hst,he1,he2⟩:=hstep;refine Oper.wp_mono ?_ (hst β J a w hI hsm Q);rintro a' w' ⟨v,J',rfl,hv,hle,hI'⟩;refine⟨J',?_,hput (hs.mono hle) hv,v,rfl⟩;cases heff:io.op.eff with
   |true=>rw[asV heff,<- he1 heff];exact hI'
   |false=>rw[al8 heff,<- he2 heff];exact hI'
 ·rw[hwant _ hw];simp only[z0u,if_false];refine⟨J,?_,hput hs (by rw[h1];exact lQ),_,rfl⟩
  cases heff:io.op.eff with
  |true=>
   have him:io.op.impure=true:=by
    cases hx:io.op with
    |p x=>rw[hx] at heff;cases heff
    |e x=>rw[hx] at heff;cases x<;>first|rfl|cases heff
   have hld:Hf io=none:=by
    unfold Hf;split
    ·rename_i e _;rw[e] at heff;cases heff
    ·rename_i e _;rw[e] at heff;cases heff
    ·rfl
   rw[asV heff,h2,<- hmem him (hnone him hld)];exact hI
  |false=>rw[al8 heff];exact hI
def lst(listed:Array Bool):Nat->Bool:=λj=>listed.getD j false
theorem lq{listed:Array Bool}{i:Nat}(h:i<listed.size):lst (listed.setIfInBounds i true)=upd (lst listed) i:=by
 funext j
 simp only[lst,upd];by_cases hj:j=i
 ·subst hj;simp[z01,h]
 ·rw[z01,z1i,if_neg (Ne.symm hj),<- z01];simp[hj]
theorem rM{listed:Array Bool}{j:Nat}(h:j<listed.size):listed.getD j true=listed.getD j false:=by simp[z01,h]
theorem Kt{listed:Array Bool}(hsz:listed.size=ops.size)(hb:∀ (i:Nat) (o:Oper),ops.toList[i]? =some o->∀ e∈o.after,Region.binds .any e=true->e.on<i)
  (h:Region.ready .any ops listed=[]):∀ i,i<ops.size->lst listed i=true:=by
 intro i
 induction i using Nat.strongRecOn with
 |_ i ih=>
  intro hi;cases hl:lst listed i with
  |true=>rfl
  |false=>
   exfalso;have:i∈Region.ready .any ops listed:=by
    refine mem_ready.2 ⟨by rw[rM (by omega)];exact hl,ops[i],by simp[hi],λe he hbi=> ?_⟩
    have hlt:=hb i ops[i] (by simp[hi]) e he hbi
    exact ih e.on hlt (by omega)
   rw[h] at this;simp at this
theorem count_set{l:List Bool}:∀ {i:Nat},l[i]? =some false->(l.set i true).count false+1=l.count false:=by
 induction l with
 |nil=>intro i h;simp at h
 |cons b l ih=>
  intro i h;cases i with
  |zero=>simp at h;subst h;simp
  |succ i=>
   have:=ih (i:=i) (by simpa using h)
   simp only[List.set_cons_succ,List.count_cons];omega
theorem Plan.any_ok{Γ:Hook}(hΓ:fB P Γ)(pl:Plan P quiet ops aP σ V M){β:Base}{d:List Deferred}{Q:Exit->Act->World->Prop}
  (hQ:∀ J a w,Inv β J (M aP.length) w->aH J (ov (λ_=>true) V aP 0 σ) a->a.defers=d->Q .normal a w):
  ∀ (fuel:Nat) (listed:Array Bool) (a:Act) (w:World),listed.size=ops.size->listed.toList.count false<=fuel->Closed ops.toList (lst listed)->
   (∃ J,Inv β J (M (top aP (lst listed) aP.length)) w/\aH J (ov (lst listed) V aP 0 σ) a/\a.defers=d)->wpAny P .any ops Q fuel listed a w:=by
 have fin:∀ (listed:Array Bool) (a:Act) (w:World),listed.size=ops.size->Region.ready .any ops listed=[]->
   (∃ J,Inv β J (M (top aP (lst listed) aP.length)) w/\aH J (ov (lst listed) V aP 0 σ) a/\a.defers=d)->Q .normal a w:=by
  rintro listed a w hsz hr ⟨J,h1,h2,h3⟩;have hall:=Kt hsz (Qz pl.chk).1 hr;have e1:top aP (lst listed) aP.length=top aP (λ_=>true) aP.length:=rV _ λk hk _=>hall k (by rw[<- pl.len];exact hk)
  have e2:ov (lst listed) V aP 0 σ=ov (λ_=>true) V aP 0 σ:=Eh aP 0 σ λj hj=>by rw[z03];exact hall j (by rw[<- pl.len];exact hj)
  rw[e1,<- pl.aau _ (z0b _)] at h1;rw[e2] at h2;exact hQ J a w h1 h2 h3
 intro fuel
 induction fuel with
 |zero=>
  intro listed a w hsz hc hcl hJ;have hr:Region.ready .any ops listed=[]:=by
   cases hr:Region.ready .any ops listed with
   |nil=>rfl
   |cons j r=>
    exfalso;have hj:j∈Region.ready .any ops listed:=by rw[hr];simp
    have hlt:=ny hj;have h0:=(mem_ready.1 hj).1;rw[rM (by omega)] at h0
    have:false∈listed.toList:=by
     have h1:listed.toList[j]? =some false:=by
      have:j<listed.size:=by omega
      simp only[z01] at h0;simp[this] at h0 ⊢;exact h0
     exact z0j h1
    have:=z3h.2 this;omega
  exact⟨hr,fin listed a w hsz hr hJ⟩
 |succ fuel ih=>
  intro listed a w hsz hc hcl hJ;refine⟨λhr=>fin listed a w hsz hr hJ,λi hi=> ?_⟩;obtain⟨J,h1,h2,h3⟩:=hJ;have hlt:=ny hi;obtain⟨h0,o,ho,hall⟩:=mem_ready.1 hi;rw[rM (by omega)] at h0
  refine wpOp_mono ?_ (Plan.step_ok hΓ pl hcl ho h0 hall h1 h2);rintro a' w' ⟨J',k1,k2,v',rfl⟩;have hl0:listed.toList[i]? =some false:=by
   have:i<listed.size:=by omega
   simp only[z01] at h0;simp[this] at h0 ⊢;exact h0
  refine ih _ _ w' (by simpa using hsz) ?_ ?_ ?_
  ·have:=count_set hl0;rw[z1m];omega
  ·rw[lq (by omega)]
   exact hcl.upd (by simpa using ho) hall
  ·rw[lq (by omega)]
   exact⟨J',k1,k2,by rw[put_defers];exact h3⟩
theorem Ej(ops:List Oper)(aP:List dA)(k:Nat):∀ c∈zS ops aP k,Qx c:=by
 intro c hc;unfold zS at hc;split at hc
 ·obtain⟨x,_,hx⟩:=z19.1 hc;split at hx
  ·unfold Hf at hx;split at hx
   ·cases hx;exact⟨rfl, .inl ⟨_,_,_,_,rfl⟩⟩
   ·cases hx;exact⟨rfl, .inr ⟨_,_,_,rfl⟩⟩
   ·cases hx
  ·cases hx
 ·cases hc
theorem D8{Γ:Hook}(hΓ:fB P Γ){quiet:FuncId->Bool}{ops:Array Oper}{Q:Exit->Act->World->Prop}{β:Base}{d:List Deferred}
  {aP:List dA} {σ:List SV} {m:List ay} {K:List SV->List ay->Prop} (hc:ops.toList.mapM (jM P quiet ops)=some aP) (hk:chk ops.toList aP=true) (h:iJ Γ (aug ops.toList aP) K σ m)
  (hQ:∀ σ' m' J' a' w',K σ' m'->Inv β J' m' w'->aH J' σ' a'->a'.defers=d->Q .normal a' w')
  {J:Env} {a:Act} {w:World} (hI:Inv β J m w) (hs:aH J σ a) (hd:a.defers=d):wpAny P .any ops Q ops.size (z0f ops.size false) a {w with drawn:=w.drawn+1}:=by
 obtain⟨ts,σe,me,hK,htr⟩:=U3 hΓ (rs:=zS ops.toList aP) (Ej _ _) ops.toList aP σ m K 0 hc h;have hlen:aP.length=ops.size:=by rw[mapM_len hc];simp
 obtain⟨V,hV⟩:∃ V:Nat->SV,∀ k,V k=(ts[k]?.map Prod.fst).getD SV.junk:=⟨_,λ_=>rfl⟩;obtain⟨M,hM0,hM⟩:∃ M:Nat->List ay,M 0=m/\∀ k,M (k+1)=(ts[k]?.map z3c).getD m:=⟨λk=>Nat.casesOn k m λk=>(ts[k]?.map z3c).getD m,rfl,λ_=>rfl⟩;obtain⟨t1,t2,t3⟩:=al3 (V:=V) (M:=M) (ops.toList.zip aP) 0 σ m ts σe me htr hM0 (λj t ht=>by rw[z03,hV,hM];simp[ht])
 have hzl:(ops.toList.zip aP).length=aP.length:=by simp[hlen]
 have hzm:(ops.toList.zip aP).map (·.2)=aP:=by rw[z3m];simp[hlen]
 rw[hzm] at t1 t2;have pl:Plan P quiet ops aP σ V M:=by
  refine⟨hlen,λi o io ho uo=> ?_,λi o io ho uo=> ?_,hk,λj hj c hc'=> ?_⟩
  ·have:=(mapM_at hc i).1;have ho':ops.toList[i]? =some o:=by simpa using ho
   rw[ho',uo] at this;simp only[z0g,jM,z02] at this;obtain⟨io0,h0,rfl⟩:=this;simp only[bW] at h0;split at h0<;>try (cases h0;done)
   rename_i g x hg hx;simp only[z00] at h0;subst h0;exact⟨rfl,hg,x,hx,rfl⟩
  ·have:=t1 i o io (by
    have ho':ops.toList[i]? =some o:=by simpa using ho
    rw[z0y];exact⟨ho',uo⟩)
   rw[z03] at this;exact this.1
  ·have ho':ops.toList[j]? =some (ops[j]'(by rw[<- hlen];exact hj)):=by simp
   have uo:aP[j]? =some aP[j]:=by simp[hj]
   have:=(t1 j _ _ (by rw[z0y];exact⟨ho',uo⟩)).2
   rw[z03] at this;exact this c hc'
 refine Plan.any_ok hΓ pl (β:=β) (d:=d) (λJ' a' w' k1 k2 k3=> ?_) ops.size _ a _ (by simp) ?_ ?_ ?_
 ·rw[hzl,z03] at t3;exact hQ _ _ J' a' w' hK (by rw[t3];exact k1) (by rw[t2];exact k2) k3
 ·simp
 ·intro i o _ hi;simp[lst,z01,z0d] at hi;split at hi<;>cases hi
 ·have hno:∀ j,lst (z0f ops.size false) j=false:=by intro j;simp only[lst,z01,z0d];split<;>rfl
  have e1:top aP (lst (z0f ops.size false)) aP.length=0:=by rw[Ei (i:=0) _ (z2e _) (λk _ _ _=>hno k)];rfl
  rw[e1,qc _ _ _ (λj _=>hno _),hM0];exact⟨J,hI.drew,hs,hd⟩
theorem WB{Γ:Hook}(hΓ:fB P Γ)(hmx:P.follows .mixedOrders=true){quiet:FuncId->Bool}{id:Nat}{ops:Array Oper}{Q:Exit->Act->World->Prop}{β:Base}{d:List Deferred}
  {aP:List dA} {σ:List SV} {m:List ay} {K:List SV->List ay->Prop} (hc:ops.toList.mapM (jM P quiet ops)=some aP) (hk:chk ops.toList aP=true) (h:iJ Γ (aug ops.toList aP) K σ m)
  (hQ:∀ σ' m' J' a' w',K σ' m'->Inv β J' m' w'->aH J' σ' a'->a'.defers=d->Q .normal a' w')
  {J:Env} {a:Act} {w:World} (hI:Inv β J m w) (hs:aH J σ a) (hd:a.defers=d):(z3d id ops true).wp P Q a w:=
 wp_region_any hmx (D8 hΓ hc hk h hQ hI hs hd)
end Go.Sx
namespace Go.Sx
open Go
variable {P:Program}
def renOp(ord:List Nat)(o:Oper):Oper:= {o with after:=o.after.map λe=> {e with on:=ord.idxOf e.on},guard:=o.guard.map λg=>(ord.idxOf g.1,g.2)}
def bT(ops:Array Oper)(ord:List Nat):Array Oper:=(ord.map λi=>renOp ord (ops.getD i default)).toArray
def uN(ops:Array Oper)(ord:List Nat):Bool:=
 decide (ord.length=ops.size)&&decide ord.Nodup&&ord.all (λi=>decide (i<ops.size))&&(z1o ops.size).all (λi=>ord.contains i)&&
 ops.toList.all λo=>o.after.toList.all (λe=>decide (e.on<ops.size))&&(match o.guard with
  |none=>true
  |some g=>decide (g.1<ops.size))
structure Perm(ops:Array Oper)(ord:List Nat):Prop where
 len:ord.length=ops.size
 nd:ord.Nodup
 lt:∀ i∈ord,i<ops.size
 all:∀ i,i<ops.size->i∈ord
 on:∀ o∈ops.toList,∀ e∈o.after,e.on<ops.size
 gd:∀ o∈ops.toList,∀ g,o.guard=some g->g.1<ops.size
theorem Aq{ops:Array Oper}{ord:List Nat}(h:uN ops ord=true):Perm ops ord:=by
 simp only[uN,z07,decide_eq_true_eq,z0q,z2s,z2d] at h;obtain⟨⟨⟨⟨h1,h2⟩,h3⟩,h4⟩,h5⟩:=h;refine⟨h1,h2,h3,h4,λo ho e he=>(h5 o ho).1 e (by simpa using he),λo ho g hg=> ?_⟩
 have:=(h5 o ho).2;rw[hg] at this;simpa using this
section
variable {ops:Array Oper} {ord:List Nat} (hp:Perm ops ord)
include hp
theorem Perm.size:(bT ops ord).size=ops.size:=by simp[bT,hp.len]
theorem Perm.pos{i:Nat}(h:i<ops.size):ord.idxOf i<ops.size:=by rw[<- hp.len];exact List.idxOf_lt_length_iff.2 (hp.all i h)
theorem Perm.back{i:Nat}(h:i<ops.size):ord[ord.idxOf i]? =some i:=by have hl:=hp.pos h;rw[<- hp.len] at hl;rw[List.getElem?_eq_getElem hl];exact congrArg some (List.getElem_idxOf hl)
theorem Perm.inj{i j:Nat}(hi:i<ops.size)(hj:j<ops.size)(h:ord.idxOf i=ord.idxOf j):i=j:=by have h1:=hp.back hi;rw[h,hp.back hj] at h1;exact(z0r h1).symm
theorem Perm.turn{k:Nat}(h:k<ops.size):∃ i,i<ops.size/\ord.idxOf i=k:=by
 have hk:k<ord.length:=by rw[hp.len];exact h
 refine⟨ord[k],hp.lt _ (z2p hk),?_⟩;exact hp.nd.idxOf_getElem k hk
theorem Perm.at{i:Nat}{o:Oper}(ho:ops[i]? =some o):(bT ops ord)[ord.idxOf i]? =some (renOp ord o):=by have hi:i<ops.size:=(z0m.1 ho).1;have hb:=hp.back hi;simp only[bT,List.getElem?_toArray,List.getElem?_map,hb,z0s,z01,ho,z1s]
theorem Perm.ready{i:Nat}(hi:i<ops.size){listed listed':Array Bool}(hs:listed.size=ops.size)(hs':listed'.size=ops.size)(hl:∀ j,j<ops.size->lst listed' (ord.idxOf j)=lst listed j):
  ord.idxOf i∈Region.ready .any (bT ops ord) listed'↔i∈Region.ready .any ops listed:=by
 have hpi:=hp.pos hi;rw[mem_ready,mem_ready,rM (by omega),rM (by omega)]
 have e0:listed'.getD (ord.idxOf i) false=listed.getD i false:=hl i hi;rw[e0];have ho:ops[i]? =some ops[i]:=by simp[hi]
 have hmem:ops[i]∈ops.toList:=by simp
 constructor
 ·rintro⟨h1,o',ho',h2⟩;rw[hp.at ho] at ho';cases ho';refine⟨h1,_,ho,λe he hb=> ?_⟩;have:=h2 {e with on:=ord.idxOf e.on} (by simp only[renOp,z3r];exact⟨e,he,rfl⟩) hb
  have hh:=hl e.on (hp.on _ hmem e he);exact hh.symm.trans this
 ·rintro⟨h1,o,ho2,h2⟩;rw[ho] at ho2;cases ho2;refine⟨h1,_,hp.at ho,λe he hb=> ?_⟩;simp only[renOp,z3r] at he;obtain⟨e0',he0,rfl⟩:=he;have hh:=hl e0'.on (hp.on _ hmem e0' he0);exact hh.trans (h2 e0' he0 hb)
theorem Perm.none{listed listed':Array Bool}(hs:listed.size=ops.size)(hs':listed'.size=ops.size)(hl:∀ j,j<ops.size->lst listed' (ord.idxOf j)=lst listed j)
  (h:Region.ready .any ops listed=[]):Region.ready .any (bT ops ord) listed'=[]:=by
 refine z1g.2 λk hk=> ?_;have hlt:=ny hk;rw[hp.size] at hlt;obtain⟨i,hi,rfl⟩:=hp.turn hlt;have:=(hp.ready hi hs hs' hl).1 hk;rw[h] at this;cases this
theorem Perm.wanted{o:Oper}(ho:o∈ops.toList)(tmps:Array Value):Region.wanted (renOp ord o) (yielded (bT ops ord) tmps)=Region.wanted o (yielded ops tmps):=by
 cases hg:o.guard with
 |none=>simp[Region.wanted,renOp,hg]
 |some g=>
  obtain⟨j,w⟩:=g;have hj:=hp.gd o ho _ hg;have hoj:ops[j]? =some ops[j]:=by simp[show j<ops.size from hj]
  have e:yielded (bT ops ord) tmps (ord.idxOf j)=yielded ops tmps j:=by simp only[yielded,hp.at hoj,hoj,z0g];rfl
  simp only[Region.wanted,renOp,hg,z0s,e]
theorem Perm.op{Q:Exit->Act->World->Prop}{i:Nat}(hi:i<ops.size){K K':Act->World->Prop}(hK:∀ a w,K a w->K' a w){a:Act}{w:World}(h:wpOp P (bT ops ord) Q (ord.idxOf i) K a w):wpOp P ops Q i K' a w:=by
 have ho:ops[i]? =some ops[i]:=by simp[hi]
 refine wpOp_mono hK ?_;unfold wpOp at h ⊢;rw[hp.at ho] at h;rw[ho];simp only at h ⊢;rw[hp.wanted (by simp)] at h
 exact h
theorem Perm.any{Q:Exit->Act->World->Prop}:∀ (fuel:Nat) (listed listed':Array Bool) (a:Act) (w:World),listed.size=ops.size->listed'.size=ops.size->(∀ j,j<ops.size->lst listed' (ord.idxOf j)=lst listed j)->
  wpAny P .any (bT ops ord) Q fuel listed' a w->wpAny P .any ops Q fuel listed a w
 |0,listed,listed',a,w,hs,hs',hl,h=>by
  refine⟨?_,h.2⟩;refine z1g.2 λi hi=> ?_;have:=(hp.ready (ny hi) hs hs' hl).2 hi;rw[h.1] at this;cases this
 |fuel+1,listed,listed',a,w,hs,hs',hl,h=>by
  refine⟨λhr=>h.1 (hp.none hs hs' hl hr),λi hi=> ?_⟩;have hlt:=ny hi;have h2:=h.2 _ ((hp.ready hlt hs hs' hl).2 hi);refine hp.op hlt (λa w hh=> ?_) h2;refine Perm.any fuel _ _ a w (by simpa using hs) (by simpa using hs') (λj hj=> ?_) hh
  have hpi:=hp.pos hlt;rw[lq (by omega),lq (by omega)]
  simp only[Sx.upd,hl j hj]
  congr 1
  rw[decide_eq_decide];exact⟨λe=>hp.inj hj hlt e,λe=>by rw[e]⟩
end
def Gx(ops:Array Oper)(aP:List dA):Nat->List Nat->List Nat
 |0,acc=>acc.reverse
 |f+1,acc=>
  let rs:=(z1o ops.size).filter λi=> !acc.contains i&&((ops[i]?).map λo=>o.after.toList.all λe=> !Region.binds .any e||acc.contains e.on).getD false
  match (rs.find? λi=> !((aP[i]?).map (·.op.eff)).getD true)<|>rs.head? with
  |some i=>Gx ops aP f (i::acc)
  |none=>acc.reverse
def xk(quiet:FuncId->Bool):FuncId->Bool:=λf=>quiet f&&f !=999999999
theorem SE{Γ:Hook}(hΓ:fB P Γ)(hmx:P.follows .mixedOrders=true){quiet:FuncId->Bool}{id:Nat}{ops:Array Oper}{ord:List Nat}{Q:Exit->Act->World->Prop}{β:Base}{d:List Deferred}
  {aP:List dA} {σ:List SV} {m:List ay} {K:List SV->List ay->Prop} (hpo:uN ops ord=true) (hc:(bT ops ord).toList.mapM (jM P quiet (bT ops ord))=some aP) (hk:chk (bT ops ord).toList aP=true)
  (h:iJ Γ (aug (bT ops ord).toList aP) K σ m)
  (hQ:∀ σ' m' J' a' w',K σ' m'->Inv β J' m' w'->aH J' σ' a'->a'.defers=d->Q .normal a' w')
  {J:Env} {a:Act} {w:World} (hI:Inv β J m w) (hs:aH J σ a) (hd:a.defers=d):(z3d id ops true).wp P Q a w:=by
 have hp:=Aq hpo;refine wp_region_any hmx (hp.any _ _ (z0f ops.size false) a _ (by simp) (by simp) (λj hj=> ?_) ?_)
 ·have hno:∀ j,lst (z0f ops.size false) j=false:=by intro j;simp only[lst,z01,z0d];split<;>rfl
  rw[hno,hno]
 ·have:=D8 hΓ hc hk h hQ hI hs hd
  rwa [hp.size] at this
end Go.Sx
namespace Go.Sx
open Go
variable {P:Program}
theorem Inv.adopt{β:Base}{J:Env}{m:List ay}{w:World}(h:Inv β J m w){T:TypeId}{c:SV}{cs:List Value}{g:Nat}(hc:au c J cs)(hg:w.heap[g]? =some (.cells cs.toArray T (0,0)))
  (ho:∀ i,aN J i (ah m i)≠some g) (hH:J.H g=none) (hs:β.w.heap.size<=g):Inv β (J.more g undef) (m++[.blk T c]) w:=by
 have hn:=h.good.n;have hle:=J.dJ g undef;have hown:∀ i,i<m.length->aN (J.more g undef) i (ah (m++[.blk T c]) i)=aN J i (ah m i):=by
  intro i hi;rw[bD hi];have hi':i<J.n:=by omega
  cases ah m i<;>simp[aN,Env.more,z1v hi']
 have hnew:aN (J.more g undef) m.length (ah (m++[.blk T c]) m.length)=some g:=by rw[jW];simp[aN,Env.more,hn]
 have hcase:∀ i b,aN (J.more g undef) i (ah (m++[.blk T c]) i)=some b->(i<m.length/\aN J i (ah m i)=some b)\/(i=m.length/\b=g):=by
  intro i b hb;rcases z1e i m.length with hi|hi|hi
  ·rw[hown i hi] at hb;exact .inl ⟨hi,hb⟩
  ·subst hi;rw[hnew] at hb;exact .inr ⟨rfl,(z0r hb).symm⟩
  ·rw[dh (by simp;omega)] at hb;cases hb
 refine⟨⟨by simp[Env.more,hn],λi=> ?_,λi j b hij h1 h2=> ?_,λi b hb=> ?_,h.good.hv,h.good.gl⟩,⟨h.kept.os,h.kept.tape,h.kept.output,h.kept.size,h.kept.heap,h.kept.H,h.kept.fresh,h.kept.drawn⟩,λi b hb=> ?_,?_,λi hi=> ?_,λi hi hv=> ?_⟩
 ·rcases z1e i m.length with hi|hi|hi
  ·rw[bD hi];have hi':i<J.n:=by omega
   have hr:=h.good.res i;cases hm:ah m i with
   |dead=>trivial
   |blk T' c'=>
    rw[hm] at hr;obtain⟨cs',h1,h2⟩:=hr;have hb:(J.more g undef).blk i=J.blk i:=by simp[Env.more,z1v hi']
    exact⟨cs',by rw[hb];exact h1,h2.mono c' hle⟩
   |vec T' wd l=>
    rw[hm] at hr;obtain⟨xs,h1,h2⟩:=hr;have hb:(J.more g undef).vv i=J.vv i:=by simp[Env.more,z1v hi']
    exact⟨xs,by rw[hb];exact h1,λj hj=>(h2 j hj).mono _ hle⟩
   |mp ek ev l=>
    rw[hm] at hr;obtain⟨es,cl,h1,h2⟩:=hr;have hb:(J.more g undef).blk i=J.blk i:=by simp[Env.more,z1v hi']
    exact⟨es,cl,by rw[hb];exact h1,h2⟩
  ·subst hi;rw[jW];refine⟨cs,?_,hc.mono c hle⟩;have:(J.more g undef).blk m.length=g:=by simp[Env.more,hn]
   rw[this];exact hg
  ·rw[dh (by simp;omega)];trivial
 ·rcases hcase i b h1 with⟨hi,h1'⟩|⟨hi,hb⟩<;>rcases hcase j b h2 with⟨hj,h2'⟩|⟨hj,hb2⟩
  ·exact h.good.pF i j b hij h1' h2'
  ·subst hb2;exact ho i h1'
  ·subst hb;exact ho j h2'
  ·omega
 ·rcases hcase i b hb with⟨_,h1⟩|⟨_,h1⟩
  ·exact h.good.sep i b h1
  ·subst h1;exact hH
 ·rcases hcase i b hb with⟨_,h1⟩|⟨_,h1⟩
  ·exact h.own i b h1
  ·subst h1;exact .inr hs
 ·have:=h.n;simp[Env.more];omega
 ·have:=h.n;have e:=h.blk i hi;simp[Env.more];rw[if_neg (by omega)];exact e
 ·have hn':=h.n;rw[bD (by omega)] at hv
  have e:=h.vv i hi hv;simp[Env.more];rw[if_neg (by omega)];exact e
structure al9(β βs:Base)(g:Nat)(T:TypeId)(cs:List Value):Prop where
 back:∀ J m w,Inv βs J m w->Inv β J m w/\w.heap[g]? =some (.cells cs.toArray T (0,0))/\(∀ i,aN J i (ah m i)≠some g)/\J.H g=none/\β.w.heap.size<=g
theorem ama{β:Base}{J:Env}{m:List ay}{w:World}(h:Inv β J m w){T:TypeId}{cs:List Value}:
  ∃ βs,al9 β βs w.heap.size T cs/\Inv βs J m (w.alloc (.cells cs.toArray T)):=by
 have hsz:(w.alloc (.cells cs.toArray T)).heap.size=w.heap.size+1:=by simp
 have hold:∀ b,b<w.heap.size->(w.alloc (.cells cs.toArray T)).heap[b]? =w.heap[b]? :=λb hb=>Go.RowKit.Below.heap_alloc w _ b hb;have hi2:Inv β J m (w.alloc (.cells cs.toArray T)):=by
  refine⟨h.good.grow (Env.Le.refl _) h.good.n (λ_ _=>rfl) (λ_ _=>rfl) hold (λb o e=>by rw[hold b (yC h.good e)];exact h.good.hv b o e) h.good.sep,⟨h.kept.os,h.kept.tape,h.kept.output,by rw[hsz];have:=h.kept.size;omega,λb hlt hB=> ?_,h.kept.H,h.kept.fresh,h.kept.drawn⟩,h.own,h.n,h.blk,h.vv⟩
  rw[hold b (z1q hlt h.kept.size)];exact h.kept.heap b hlt hB
 have hnew:=heap_alloc_new w (.cells cs.toArray T);have hown:∀ i b,aN J i (ah m i)=some b->b<w.heap.size:=λi b e=>dU h.good e;have aCJ:∀ b o,J.H b=some o->b<w.heap.size:=λb o e=>yC h.good e;have hks:=h.kept.size;generalize w.alloc (.cells cs.toArray T)=W at*;refine⟨⟨W,{β.J with H:=J.H},λb=>(β.B b\/β.w.heap.size<=b)/\b≠w.heap.size⟩,⟨λJ' m' w' k=> ?_⟩,?_⟩
 ·have hB:∀ b,b<β.w.heap.size->¬ β.B b->¬ ((β.B b\/β.w.heap.size<=b)/\b≠w.heap.size):=by
   rintro b h1 h2 ⟨h3|h3,_⟩
   ·exact h2 h3
   ·omega
  refine⟨⟨k.good,⟨k.kept.os.trans hi2.kept.os,k.kept.tape.trans hi2.kept.tape,k.kept.output.trans hi2.kept.output,z1w hi2.kept.size k.kept.size,λb hlt hb=> ?_,λb o e=>k.kept.H b o (h.kept.H b o e),λb o e=> ?_,λe=>z1w (hi2.kept.drawn e) (k.kept.drawn e)⟩,λi b e=> ?_,k.n,k.blk,k.vv⟩,?_,λi e=> ?_,?_,by omega⟩
  ·exact(k.kept.heap b (z1q hlt hi2.kept.size) (hB b hlt hb)).trans (hi2.kept.heap b hlt hb)
  ·rcases k.kept.fresh b o e with e'|e'|⟨e'|e',_⟩
   ·exact h.kept.fresh b o e'
   ·have e':W.heap.size<=b:=e';right;left;omega
   ·exact .inr (.inr e')
   ·exact .inr (.inl e')
  ·rcases k.own i b e with⟨e'|e',_⟩|e'
   ·exact .inl e'
   ·exact .inr e'
   ·have e':W.heap.size<=b:=e';right;omega
  ·rw[<- hnew];exact k.kept.heap _ (by show _<W.heap.size;omega) (λhh=>hh.2 rfl)
  ·rcases k.own i _ e with⟨_,e'⟩|e'
   ·exact e' rfl
   ·have e':W.heap.size<=w.heap.size:=e';omega
  ·cases hh:J'.H w.heap.size with
   |none=>rfl
   |some o=>
    exfalso;rcases k.kept.fresh _ o hh with e'|e'|⟨_,e'⟩
    ·have:=aCJ _ _ e';omega
    ·have e':W.heap.size<=w.heap.size:=e';omega
    ·exact e' rfl
 ·refine⟨hi2.good,⟨rfl,rfl,rfl,z0b _,λ_ _ _=>rfl,λ_ _ e=>e,λ_ _ e=> .inl e,λ_=>z0b _⟩,λi b e=> .inl ⟨hi2.own i b e,?_⟩,hi2.n,hi2.blk,hi2.vv⟩;have:=hown i b e;omega
def aCK(o:Oper):Bool:=match o.op,o.guard with
 | .alloc _,none=>true
 |_,_=>false
def azH(ops:List Oper)(g:Nat)(aP:List dA)(d:Nat):Bool:=
 chk (ops.take g) aP&&ops.all (λo=>o.guard.isNone)&&aP.all (λio=>decide (io.dst≠some d)&& !io.sl.contains d)&&
 (z1o ops.length).all (λj=>decide (j<g)||(((ops[j]?).map λo=>o.after.toList.all λe=> !Region.binds .any e||decide (e.on<j)).getD false&&(decide (j=g)||(z1o j).all λi=>((Kq ops []).getD j 0).testBit i)))
def BG(P:Program)(quiet:FuncId->Bool)(ops:Array Oper):Option (List dA×Nat×TypeId×SV×List dA):=match ops.toList.findIdx? aCK with
 |some g=>match ops.toList.drop g with
  |oa::post=>match oa.op,oa.dst with
   | .alloc T,some d=>match Py P T,(ops.toList.take g).mapM (jM P quiet ops),post.mapM (bW P ops) with
    |some z,some aP,some lo=>if azH ops.toList g aP d then some (aug (ops.toList.take g) aP,d,T,z,lo) else none
    |_,_,_=>none
   |_,_=>none
  |[]=>none
 |none=>none
structure GP(P:Program)(quiet:FuncId->Bool)(ops:Array Oper)(g:Nat)(oa:Oper)(post:List Oper)(aP:List dA)(d:Nat)(T:TypeId)(z:SV)(lo:List dA):Prop where
 split:ops.toList=ops.toList.take g++oa::post
 glt:g<ops.size
 op:oa.op= .alloc T
 dst:oa.dst=some d
 z:Py P T=some z
 pre:(ops.toList.take g).mapM (jM P quiet ops)=some aP
 post:post.mapM (bW P ops)=some lo
 chk:chk (ops.toList.take g) aP=true
 gd:∀ o∈ops.toList,o.guard=none
 off:∀ io∈aP,io.dst≠some d/\d∉io.sl
 edge:∀ (j:Nat) (o:Oper),g<=j->ops.toList[j]? =some o->∀ e∈o.after,Region.binds .any e=true->e.on<j
 bound:∀ j,g<j->j<ops.size->∀ i,i<j->((Kq ops.toList []).getD j 0).testBit i=true
theorem aeR{quiet:FuncId->Bool}{ops:Array Oper}{l:List dA}{d:Nat}{T:TypeId}{z:SV}{lo:List dA}(h:BG P quiet ops=some (l,d,T,z,lo)):∃ g oa post aP,GP P quiet ops g oa post aP d T z lo/\l=aug (ops.toList.take g) aP:=by
 unfold BG at h;split at h<;>try (cases h;done)
 rename_i g hg;split at h<;>try (cases h;done)
 rename_i oa post hp;split at h<;>try (cases h;done)
 rename_i T' d' h1 h2;split at h<;>try (cases h;done)
 rename_i z' aP lo' h3 h4 h5;split at h<;>try (cases h;done)
 rename_i hk;simp only[z00,z0a] at h;obtain⟨rfl,rfl,rfl,rfl,rfl⟩:=h;have hsp:ops.toList=ops.toList.take g++oa::post:=by rw[<- hp,List.take_append_drop]
 have hlt:g<ops.size:=by
  have:g<ops.toList.length:=by refine z2r λhle=> ?_;rw[z1d hle] at hp;cases hp
  simpa using this
 simp only[azH,z07,z0q,z2s,decide_eq_true_eq,z14,z0v,z2d,decide_eq_false_iff_not,Option.isNone_iff_eq_none] at hk;obtain⟨⟨⟨k1,k2⟩,k3⟩,k4⟩:=hk;refine⟨g,oa,post,aP,⟨hsp,hlt,h1,h2,h3,h4,h5,k1,k2,k3,λj o hj ho e he hb=> ?_,λj hj hjl i hij=> ?_⟩,rfl⟩
 ·have hjl:j<ops.toList.length:=(z09.1 ho).1;rcases k4 j hjl with k|⟨k,_⟩
  ·omega
  ·rw[ho] at k;simp only[z0s,z1s,z0q,z14,z0v,decide_eq_true_eq] at k;rcases k e (by simpa using he) with k|k
   ·rw[hb] at k;cases k
   ·exact k
 ·rcases k4 j (by simpa using hjl) with k|⟨_,k⟩
  ·omega
  ·rcases k with k|k
   ·omega
   ·exact k i hij
theorem mapM_congr.{u1,u2}{α:Type u1}{β:Type u2}{f f':α->Option β}:∀ {l:List α},(∀ x∈l,f x=f' x)->l.mapM f=l.mapM f'
 |[],_=>rfl
 |x::l,h=>by simp only[z1c];rw[h x (z2i ..),mapM_congr λy hy=>h y (z0w _ hy)]
theorem aqK{Γ:Hook}(hΓ:fB P Γ){quiet:FuncId->Bool}{ops:Array Oper}{aP:List dA}{σ:List SV}{m:List ay}{K:List SV->List ay->Prop}(hc:ops.toList.mapM (jM P quiet ops)=some aP)(hk:chk ops.toList aP=true)(h:iJ Γ (aug ops.toList aP) K σ m):
  ∃ V M,Plan P quiet ops aP σ V M/\M 0=m/\K (ov (λ_=>true) V aP 0 σ) (M aP.length):=by
 obtain⟨ts,σe,me,hK,htr⟩:=U3 hΓ (rs:=zS ops.toList aP) (Ej _ _) ops.toList aP σ m K 0 hc h;have hlen:aP.length=ops.size:=by rw[mapM_len hc];simp
 obtain⟨V,hV⟩:∃ V:Nat->SV,∀ k,V k=(ts[k]?.map Prod.fst).getD SV.junk:=⟨_,λ_=>rfl⟩;obtain⟨M,hM0,hM⟩:∃ M:Nat->List ay,M 0=m/\∀ k,M (k+1)=(ts[k]?.map z3c).getD m:=⟨λk=>Nat.casesOn k m λk=>(ts[k]?.map z3c).getD m,rfl,λ_=>rfl⟩;obtain⟨t1,t2,t3⟩:=al3 (V:=V) (M:=M) (ops.toList.zip aP) 0 σ m ts σe me htr hM0 (λj t ht=>by rw[z03,hV,hM];simp[ht])
 have hzl:(ops.toList.zip aP).length=aP.length:=by simp[hlen]
 have hzm:(ops.toList.zip aP).map (·.2)=aP:=by rw[z3m];simp[hlen]
 rw[hzm] at t1 t2;refine⟨V,M,⟨hlen,λi o io ho uo=> ?_,λi o io ho uo=> ?_,hk,λj hj c hc'=> ?_⟩,hM0,?_⟩
 ·have:=(mapM_at hc i).1;have ho':ops.toList[i]? =some o:=by simpa using ho
  rw[ho',uo] at this;simp only[z0g,jM,z02] at this;obtain⟨io0,h0,rfl⟩:=this;simp only[bW] at h0;split at h0<;>try (cases h0;done)
  rename_i g x hg hx;simp only[z00] at h0;subst h0;exact⟨rfl,hg,x,hx,rfl⟩
 ·have:=t1 i o io (by
   have ho':ops.toList[i]? =some o:=by simpa using ho
   rw[z0y];exact⟨ho',uo⟩)
  rw[z03] at this;exact this.1
 ·have ho':ops.toList[j]? =some (ops[j]'(by rw[<- hlen];exact hj)):=by simp
  have uo:aP[j]? =some aP[j]:=by simp[hj]
  have:=(t1 j _ _ (by rw[z0y];exact⟨ho',uo⟩)).2
  rw[z03] at this;exact this c hc'
 ·rw[hzl,z03] at t3;rw[<- t2,<- t3];exact hK
theorem Ci{listed:Array Bool}{j:Nat}(hj:j<listed.size)(h:lst listed j=false):0<listed.toList.count false:=by refine z3h.2 (z0j (i:=j) ?_);simp only[lst,z01] at h;simp[hj] at h ⊢;exact h
theorem U7{listed:Array Bool}{i:Nat}(hi:i<listed.size)(h0:lst listed i=false):listed.toList[i]? =some false:=by simp only[lst,z01] at h0;simp[hi] at h0 ⊢;exact h0
theorem amb{Γ:Hook}(hΓ:fB P Γ){ops:Array Oper}{Q:Exit->Act->World->Prop}{β:Base}{d0:List Deferred}{K:List SV->List ay->Prop}
  (hQ:∀ σ' m' J' a' w',K σ' m'->Inv β J' m' w'->aH J' σ' a'->a'.defers=d0->Q .normal a' w') (hgd:∀ o∈ops.toList,o.guard=none) {g:Nat}
  (hb:∀ (j:Nat) (o:Oper),ops.toList[j]? =some o->∀ e∈o.after,Region.binds .any e=true->e.on<j)
  (hbd:∀ j,g<j->j<ops.size->∀ i,i<j->((Kq ops.toList []).getD j 0).testBit i=true):
  ∀ (fuel:Nat) (r:List Oper) (lo:List dA) (j:Nat) (listed:Array Bool) (σ:List SV) (m:List ay) (J:Env) (a:Act) (w:World),g<j->ops.toList.drop j=r->listed.size=ops.size->listed.toList.count false<=fuel->
   (∀ i,i<ops.size->lst listed i=decide (i<j))->r.mapM (bW P ops)=some lo->rE Γ lo K σ m->Inv β J m w->aH J σ a->a.defers=d0->wpAny P .any ops Q fuel listed a w:=by
 intro fuel
 induction fuel with
 |zero=>
  intro r lo j listed σ m J a w hgj hr hsz hc hl hlo h hI hs hd;have hnil:r=[]:=by
   rw[<- hr];refine z1d (z0x λhlt=> ?_);have hlt:j<ops.size:=by simpa using hlt
   have:=Ci (listed:=listed) (j:=j) (by omega) (by rw[hl j hlt];simp)
   omega
  subst hnil;simp at hlo;subst hlo;refine⟨?_,hQ σ m J a w h hI hs hd⟩;refine z1g.2 λi hi=> ?_;have hlt:=ny hi;have h0:=(mem_ready.1 hi).1;rw[rM (by omega)] at h0
  have:=Ci (listed:=listed) (j:=i) (by omega) h0
  omega
 |succ fuel ih=>
  intro r lo j listed σ m J a w hgj hr hsz hc hl hlo h hI hs hd;have hcl:Closed ops.toList (lst listed):=by
   intro i o ho hi e he hbb;have uo:i<ops.size:=by have:=(z09.1 ho).1;simpa using this
   rw[hl i uo] at hi;have:=hb i o ho e he hbb;rw[hl e.on (by omega)]
   simp only[decide_eq_true_eq] at hi ⊢;omega
  cases r with
  |nil=>
   simp at hlo;subst hlo;refine⟨λ_=>hQ σ m J a w h hI hs hd,λi hi=> ?_⟩;have hlt:=ny hi;have h0:=(mem_ready.1 hi).1;rw[rM (by omega)] at h0
   have h1:=hl i hlt;have h0:lst listed i=false:=h0;rw[h0] at h1;have hle:=List.drop_eq_nil_iff.1 hr;simp at h1 hle;omega
  |cons o r=>
   have hjl:j<ops.size:=by refine z2r λhle=> ?_;rw[z1d (by simpa using hle)] at hr;cases hr
   have hoj:ops.toList[j]? =some o:=by have:=congrArg (λl:List Oper=>l[0]?) hr;simpa using this
   have hr':ops.toList.drop (j+1)=r:=by have:=congrArg List.tail hr;simpa using this
   have only:∀ i∈Region.ready .any ops listed,i=j:=by
    intro i hi;have hlt:=ny hi;obtain⟨h0,oi,hoi,hall⟩:=mem_ready.1 hi;rw[rM (by omega)] at h0
    have h0:lst listed i=false:=h0;rw[hl i hlt] at h0;simp only[decide_eq_false_iff_not] at h0;refine Nat.le_antisymm (z0x λhji=> ?_) (z0x h0);have:=Ef hcl ops.toList [] (λk=>by simp) (λk o' _ hk=>absurd hk (z16 _)) i oi (by simpa using hoi) (by simpa using hlt) hall j (hbd i (by omega) hlt j hji)
    rw[hl j hjl] at this;simp at this
   refine⟨λhre=> ?_,λi hi=> ?_⟩
   ·have:=Kt hsz hb hre j hjl;rw[hl j hjl] at this;simp at this
   ·obtain rfl:=only i hi;simp only[z1c,bind,z1h] at hlo;obtain⟨io,ho,hlo⟩:=bind_some hlo;obtain⟨lo',aCL,hlo⟩:=bind_some hlo;simp only[z00] at hlo;subst hlo;have hgn:=hgd o (z0j hoj);simp only[bW,hgn,qY] at ho;split at ho<;>try (cases ho;done)
    rename_i g' x hg' hx;cases hg';simp only[z00] at ho;subst ho;simp only[rE,qQ] at h;obtain⟨σ',sv,m',h2,hE⟩:=Ar hΓ hx h;unfold wpOp;have aCM:ops[i]? =some o:=by simpa using hoj
    rw[aCM];simp only[Region.wanted,hgn,if_true];refine .inl (Oper.wp_mono ?_ (hE β J a w hI hs Q));rintro a' w' ⟨v,J',rfl,hv,hs',hi'⟩;have hl0:=U7 (listed:=listed) (i:=i) (by omega) (by rw[hl i hjl];simp)
    refine ih r lo' (i+1) _ _ _ J' _ w' (by omega) hr' (by simpa using hsz) ?_ (λk hk=> ?_) aCL h2 hi' (hs'.put hv o.dst) (by rw[put_defers];exact hd)
    ·have:=count_set hl0;rw[z1m];omega
    ·rw[lq (by omega),upd,hl k hk]
     by_cases e:k=i
     ·subst e;simp
     ·simp only[e,decide_false,Bool.or_false,decide_eq_decide];omega
theorem amc{a:Act}{x:Option Nat}{v:Value}{d:Nat}(h:x≠some d):(a.put x v).tmps.getD d undef=a.tmps.getD d undef:=by
 cases x with
 |none=>rfl
 |some k=>
  have:k≠d:=λe=>h (by rw[e])
  simp only[z3a,z01,z1i,if_neg this]
theorem YU{S:Nat->Bool}{V:Nat->SV}{aP:List dA}{σ:List SV}{d:Nat}(h:∀ io∈aP,io.dst≠some d):(ov S V aP 0 σ).getD d .junk=σ.getD d .junk:=
 xM S V d aP 0 σ λj io h1 h2=>absurd h2 (h io (z0j h1))
theorem aeS{Γ:Hook}(hΓ:fB P Γ){quiet:FuncId->Bool}{ops:Array Oper}{g:Nat}{oa:Oper}{post:List Oper}{aP:List dA}{d:Nat}{T:TypeId}{z:SV}{lo:List dA}
  (gp:GP P quiet ops g oa post aP d T z lo) {Q:Exit->Act->World->Prop} {β:Base} {d0:List Deferred} {K:List SV->List ay->Prop}
  (hQ:∀ σ' m' J' a' w',K σ' m'->Inv β J' m' w'->aH J' σ' a'->a'.defers=d0->Q .normal a' w')
  {σ:List SV} {V:Nat->SV} {M:Nat->List ay} (pl:Plan P quiet (ops.toList.take g).toArray aP σ V M) (hj:σ.getD d .junk= .junk) (hdl:d<σ.length)
  (hK:rE Γ lo K ((ov (λ_=>true) V aP 0 σ).set d (.ptr (M aP.length).length [] 0)) (M aP.length++[.blk T z])):
  ∀ (fuel:Nat) (listed:Array Bool) (a:Act) (w:World),listed.size=ops.size->listed.toList.count false<=fuel->Closed ops.toList (lst listed)->(∀ j,g<j->lst listed j=false)->
   (∃ βs J,Inv βs J (M (top aP (lst listed) aP.length)) w/\aH J (ov (lst listed) V aP 0 σ) a/\a.defers=d0/\
    ((lst listed g=false/\βs=β)\/(lst listed g=true/\∃ b cs,al9 β βs b T cs/\(∀ J,au z J cs)/\a.tmps.getD d undef= .pointer (some ⟨b,0,none⟩))))->wpAny P .any ops Q fuel listed a w:=by
 have hpl:(ops.toList.take g).length=g:=by have:=gp.glt;simp;omega
 have hil:aP.length=g:=by have:=gp.glt;rw[pl.len];simp;omega
 have hpat:∀ i,i<g->(ops.toList.take g).toArray[i]? =ops[i]? :=λi hi=>by simp[hi]
 have hgat:ops.toList[g]? =some oa:=by rw[gp.split,z1p (by rw[hpl];exact z0b _),hpl];simp
 have hdrop:ops.toList.drop (g+1)=post:=by
  have h1:ops.toList.drop g=oa::post:=by have e:=gp.split;have:=congrArg (λl:List Oper=>l.drop g) e;simp only[List.drop_append,hpl,Nat.sub_self,List.drop_zero] at this;rw[this,z1d (by rw[hpl];exact z0b _)];rfl
  have:=congrArg List.tail h1;simpa using this
 have asW:∀ (j:Nat) (o:Oper),ops.toList[j]? =some o->∀ e∈o.after,Region.binds .any e=true->e.on<j:=by
  intro j o ho e he hb;rcases z1f j g with hj|hj
  ·have ho':(ops.toList.take g)[j]? =some o:=by rw[z2j,if_pos hj];exact ho
   exact(Qz gp.chk).1 j o ho' e he hb
  ·exact gp.edge j o hj ho e he hb
 have hoff:∀ io∈aP,io.dst≠some d:=λio h=>(gp.off io h).1;have fin:∀ (fuel:Nat) (listed:Array Bool) (a:Act) (w:World),listed.size=ops.size->listed.toList.count false<=fuel->(∀ j,g<j->lst listed j=false)->(∀ j,j<=g->lst listed j=true)->
   (∃ βs J,Inv βs J (M (top aP (lst listed) aP.length)) w/\aH J (ov (lst listed) V aP 0 σ) a/\a.defers=d0/\
    ((lst listed g=false/\βs=β)\/(lst listed g=true/\∃ b cs,al9 β βs b T cs/\(∀ J,au z J cs)/\a.tmps.getD d undef= .pointer (some ⟨b,0,none⟩))))->wpAny P .any ops Q fuel listed a w:=by
  rintro fuel listed a w hsz hc hno hall ⟨βs,J,h1,h2,h3,h4|⟨_,b,cs,hgh,hz,ht⟩⟩
  ·rw[hall g (z0b _)] at h4;cases h4.1
  have e1:top aP (lst listed) aP.length=top aP (λ_=>true) aP.length:=rV _ λk hk _=>hall k (by omega)
  have e2:ov (lst listed) V aP 0 σ=ov (λ_=>true) V aP 0 σ:=Eh aP 0 σ λj hj=>by rw[z03];exact hall j (by omega)
  rw[e1,<- pl.aau _ (z0b _)] at h1;rw[e2] at h2;obtain⟨g1,g2,g3,g4,g5⟩:=hgh.back _ _ _ h1;have hI:=g1.adopt (hz J) g2 g3 g4 g5;refine amb hΓ hQ gp.gd (g:=g) asW gp.bound fuel post lo (g+1) listed _ _ _ a w (z2q _) hdrop hsz hc (λi hi=> ?_) gp.post hK hI ?_ h3
  ·rcases z1f g i with h|h
   ·rw[hno i h];symm;rw[decide_eq_false_iff_not];omega
   ·rw[hall i h];symm;rw[decide_eq_true_eq];omega
  ·have hm:=h2.mono (J.dJ b undef);refine⟨by rw[z1z];exact hm.1,λk=> ?_⟩
   by_cases hk:k=d
   ·subst hk;have hkl:k< (ov (λ_=>true) V aP 0 σ).length:=by rw[nY];exact hdl
    have:((ov (λ_=>true) V aP 0 σ).set k (.ptr (M aP.length).length [] 0)).getD k .junk= .ptr (M aP.length).length [] 0:=by simp[z04,hkl]
    rw[this,ht];refine⟨_,by simp only[au];exact⟨by simp[Env.more,g1.good.n],trivial,rfl⟩,?_⟩
    simp[boxed,SV.isAgg,Env.more,g1.good.n]
   ·have:((ov (λ_=>true) V aP 0 σ).set d (.ptr (M aP.length).length [] 0)).getD k .junk=(ov (λ_=>true) V aP 0 σ).getD k .junk:=by simp[z04,Ne.symm hk]
    rw[this];exact hm.2 k
 intro fuel
 induction fuel with
 |zero=>
  intro listed a w hsz hc hcl hno hJ;refine fin 0 listed a w hsz hc hno (λj hj=> ?_) hJ;cases h:lst listed j with
  |true=>rfl
  |false=>
   have:=Ci (listed:=listed) (j:=j) (by have:=gp.glt;omega) h
   omega
 |succ fuel ih=>
  intro listed a w hsz hc hcl hno hJ;by_cases hall:∀ j,j<=g->lst listed j=true
  ·exact fin _ listed a w hsz hc hno hall hJ
  simp only[z2u] at hall;obtain⟨j0,hj0,azI⟩:=hall;refine⟨λhr=>absurd (Kt hsz asW hr j0 (by have:=gp.glt;omega)) azI,λi hi=> ?_⟩
  have hlt:=ny hi;obtain⟨h0,o,ho,hbe⟩:=mem_ready.1 hi;rw[rM (by omega)] at h0
  have h0:lst listed i=false:=h0;have hoL:ops.toList[i]? =some o:=by simpa using ho
  have hig:i<=g:=z0x λhgi=>by
   have:=Ef hcl ops.toList [] (λk=>by simp) (λk o' _ hk=>absurd hk (z16 _)) i o hoL (by simpa using hlt) hbe j0 (gp.bound i hgi hlt j0 (by omega))
   exact azI this
  have hgn:=gp.gd o (z0j hoL);obtain⟨βs,J,h1,h2,h3,h4⟩:=hJ;have hl0:=U7 (listed:=listed) (i:=i) (by omega) h0
  have hcount:∀ fuel,listed.toList.count false<=fuel+1->(listed.setIfInBounds i true).toList.count false<=fuel:=by intro f hf;have:=count_set hl0;rw[z1m];omega
  have hcl':Closed ops.toList (lst (listed.setIfInBounds i true)):=by
   rw[lq (by omega)]
   exact hcl.upd hoL hbe
  have hno':∀ j,g<j->lst (listed.setIfInBounds i true) j=false:=by
   intro j hj;rw[lq (by omega),upd,hno j hj]
   simp;omega
  rcases Nat.lt_or_eq_of_le hig with hig|rfl
  ·have hop:(ops.toList.take g).toArray[i]? =some o:=by rw[hpat i hig];exact ho
   have aCN:Closed (ops.toList.take g).toArray.toList (lst listed):=by
    intro k o' ho' hk;rw[z1k,z2j] at ho';split at ho'<;>try (cases ho';done)
    exact hcl k o' ho' hk
   have hst:=Plan.step_ok hΓ pl aCN hop h0 hbe (β:=βs) (Q:=Q) h1 h2;have uo:aP[i]? =some (aP[i]'(by omega)):=by simp[show i<aP.length by omega]
   have hdst:o.dst≠some d:=by rw[<- (pl.cmp i o _ hop uo).1];exact hoff _ (z2p _)
   unfold wpOp at hst ⊢;rw[hop] at hst;rw[ho];simp only[Region.wanted,hgn,if_true] at hst ⊢;rcases hst with hst|hst
   ·refine .inl (Oper.wp_mono ?_ hst);rintro a' w' ⟨J',k1,k2,v,rfl⟩;refine ih _ _ w' (by simpa using hsz) (hcount fuel hc) hcl' hno' ⟨βs,J',?_,?_,by rw[put_defers];exact h3,?_⟩
    ·rw[lq (by omega)];exact k1
    ·rw[lq (by omega)];exact k2
    ·have:lst (listed.setIfInBounds i true) g=lst listed g:=by
      rw[lq (by omega),upd]
      simp;omega
     rw[this,amc hdst];exact h4
   ·exact .inr hst
  ·rw[hgat] at hoL;cases hoL;obtain rfl:βs=β:=by
    rcases h4 with⟨_,h4⟩|⟨h4,_⟩
    ·exact h4
    ·rw[h0] at h4;cases h4
   obtain⟨ti,v,z1,z2,z3⟩:=xG gp.z;have hr:(execOp a.eval oa).run P w= .ok (.value (.pointer (some ⟨w.heap.size,0,none⟩))) (w.alloc (.cells v.cells T)):=by simp[execOp,gp.op,Instr.alloc,zeroValue,typeInfo,z1,z2,newVar,newRow]
   unfold wpOp;rw[ho];simp only[Region.wanted,hgn,if_true];refine .inl ?_;unfold z0t;rw[hr,z06,gp.dst];obtain⟨βs,hgh,hI⟩:=ama h1 (T:=T) (cs:=v.cells.toList);rw[Array.toArray_toList] at hI;have hcg:∀ j,j<i->lst (listed.setIfInBounds i true) j=lst listed j:=by
    intro j hj;rw[lq (by omega),upd]
    simp;omega
   have hjk:(ov (lst listed) V aP 0 σ).getD d .junk= .junk:=by rw[YU hoff];exact hj
   refine ih _ _ _ (by simpa using hsz) (hcount fuel hc) hcl' hno' ⟨βs,J,?_,?_,by rw[put_defers];exact h3, .inr ⟨?_,_,_,hgh,z3,?_⟩⟩
   ·have e1:top aP (lst (listed.setIfInBounds i true)) aP.length=top aP (lst listed) aP.length:=rV _ (λk hk _=>hcg k (by omega))
    rw[e1];exact hI
   ·have e2:ov (lst (listed.setIfInBounds i true)) V aP 0 σ=ov (lst listed) V aP 0 σ:=Eh aP 0 σ (λk hk=>by rw[z03];exact hcg k (by omega))
    rw[e2];refine⟨by simp[z3a];exact h2.1,λk=> ?_⟩
    by_cases hk:k=d
    ·subst hk;rw[hjk];trivial
    ·rw[amc (by intro h;exact hk (z0r h).symm)];exact h2.2 k
   ·rw[lq (by omega),upd];simp
   ·have hds:d<a.tmps.size:=by have:=h2.1;rw[nY] at this;omega
    simp[z3a,z01,hds]
theorem TB{Γ:Hook}(hΓ:fB P Γ){quiet:FuncId->Bool}{ops:Array Oper}{l:List dA}{d:Nat}{T:TypeId}{z:SV}{lo:List dA}(hc:BG P quiet ops=some (l,d,T,z,lo)){Q:Exit->Act->World->Prop}{β:Base}{d0:List Deferred}
  {σ:List SV} {m:List ay} {K:List SV->List ay->Prop} (hdl:d<σ.length) (h:iJ Γ l (λσ' m'=>rE Γ lo K (σ'.set d (.ptr m'.length [] 0)) (m'++[.blk T z])) (σ.set d .junk) m)
  (hQ:∀ σ' m' J' a' w',K σ' m'->Inv β J' m' w'->aH J' σ' a'->a'.defers=d0->Q .normal a' w')
  {J:Env} {a:Act} {w:World} (hI:Inv β J m w) (hs:aH J σ a) (hd:a.defers=d0):wpAny P .any ops Q ops.size (z0f ops.size false) a {w with drawn:=w.drawn+1}:=by
 obtain⟨g,oa,post,aP,gp,rfl⟩:=aeR hc;have hpre:(ops.toList.take g).toArray.toList.mapM (jM P quiet (ops.toList.take g).toArray)=some aP:=by rw[z1k,<- gp.pre];refine mapM_congr λo ho=> ?_;have hgn:=gp.gd o (List.mem_of_mem_take ho);simp only[jM,bW,hgn,qY]
 obtain⟨V,M,pl,hM0,hK⟩:=aqK hΓ hpre (by rw[z1k];exact gp.chk) (by rw[z1k];exact h)
 have hj:(σ.set d .junk).getD d .junk= .junk:=by simp[z04,hdl]
 refine aeS hΓ gp hQ pl hj (by rw[z1z];exact hdl) hK ops.size _ a _ (by simp) (by simp) ?_ ?_ ?_
 ·intro i o _ hi;simp[lst,z01,z0d] at hi;split at hi<;>cases hi
 ·intro j _;simp only[lst,z01,z0d];split<;>rfl
 ·have hno:∀ j,lst (z0f ops.size false) j=false:=by intro j;simp only[lst,z01,z0d];split<;>rfl
  have e1:top aP (lst (z0f ops.size false)) aP.length=0:=by rw[Ei (i:=0) _ (z2e _) (λk _ _ _=>hno k)];rfl
  rw[e1,qc _ _ _ (λj _=>hno _),hM0];refine⟨β,J,hI.drew,⟨by rw[z1z];exact hs.1,λk=> ?_⟩,hd, .inl ⟨hno g,rfl⟩⟩
  by_cases hk:k=d
  ·subst hk;rw[hj];trivial
  ·have:(σ.set d .junk).getD k .junk=σ.getD k .junk:=by simp[z04,Ne.symm hk]
   rw[this];exact hs.2 k
theorem SG{Γ:Hook}(hΓ:fB P Γ)(hmx:P.follows .mixedOrders=true){quiet:FuncId->Bool}{id:Nat}{ops:Array Oper}{ord:List Nat}{l:List dA}{d:Nat}{T:TypeId}{z:SV}{lo:List dA}(hpo:uN ops ord=true)(hc:BG P quiet (bT ops ord)=some (l,d,T,z,lo)){Q:Exit->Act->World->Prop}{β:Base}{d0:List Deferred}
  {σ:List SV} {m:List ay} {K:List SV->List ay->Prop} (hdl:d<σ.length) (h:iJ Γ l (λσ' m'=>rE Γ lo K (σ'.set d (.ptr m'.length [] 0)) (m'++[.blk T z])) (σ.set d .junk) m)
  (hQ:∀ σ' m' J' a' w',K σ' m'->Inv β J' m' w'->aH J' σ' a'->a'.defers=d0->Q .normal a' w')
  {J:Env} {a:Act} {w:World} (hI:Inv β J m w) (hs:aH J σ a) (hd:a.defers=d0):(z3d id ops true).wp P Q a w:=by
 have hp:=Aq hpo;refine wp_region_any hmx (hp.any _ _ (z0f ops.size false) a _ (by simp) (by simp) (λj hj=> ?_) ?_)
 ·have hno:∀ j,lst (z0f ops.size false) j=false:=by intro j;simp only[lst,z01,z0d];split<;>rfl
  rw[hno,hno]
 ·have:=TB hΓ hc hdl h hQ hI hs hd
  rwa [hp.size] at this
end Go.Sx
namespace Go.Sx
open Go
variable {P:Program}
def kS(r:Nat->Option Nat)(i:Nat)(f:Nat->SV):SV:=match r i with
 |some j=>f j
 |none=> .junk
mutual
def ren(r:Nat->Option Nat):SV->SV
 | .vec j n=>kS r j λk=> .vec k n
 | .jO j n=>kS r j λk=> .jO k n
 | .gX j a p o=>kS r j λk=> .gX k a p o
 | .ptr j p o=>kS r j λk=> .ptr k p o
 | .map j=>kS r j .map
 | .arr n w f=> .arr n w λk=>ren r (f k)
 | .agg l=> .agg (dW r l)
 | .bK l=> .bK (dW r l)
 | .fn f l=> .fn f (dW r l)
 | .iface t x=> .iface t (ren r x)
 |c=>c
def dW(r:Nat->Option Nat):List SV->List SV
 |[]=>[]
 |x::l=>ren r x::dW r l
end
def dM(r:Nat->Option Nat):ay->ay
 | .dead=> .dead
 | .blk T c=> .blk T (ren r c)
 | .vec T w l=> .vec T w (dW r l)
 | .mp ek ev l=> .mp ek ev l
structure yM(r:Nat->Option Nat)(J J':Env):Prop where
 ids:∀ i,i<J.n->∀ j,r i=some j->j<J'.n/\J'.blk j=J.blk i/\J'.vv j=J.vv i
 H:∀ b o,J.H b=some o->J'.H b=some o
theorem yM.cl{r:Nat->Option Nat}{J J':Env}(h:yM r J J'):J.cl.Le J'.cl:=⟨z0b _,λ_ hi=>absurd hi (z16 _),λ_ hi=>absurd hi (z16 _),h.H⟩
theorem jT(r:Nat->Option Nat):∀ l:List SV,(dW r l).length=l.length
 |[]=>rfl
 |_::l=>by simp[dW,jT r l]
theorem rO(r:Nat->Option Nat):∀ (l:List SV) (j:Nat),(dW r l).getD j .junk=ren r (l.getD j .junk)
 |[],j=>by simp[dW,ren]
 |x::l,0=>by simp[dW]
 |x::l,j+1=>by simp only[dW,List.getD_cons_succ];exact rO r l j
theorem zZ(r:Nat->Option Nat)(c:SV):(ren r c).isAgg=c.isAgg:=by cases c<;>simp only[ren,kS]<;>first|rfl|(split<;>rfl)
theorem Ku{c:SV}{J J':Env}{cs:List Value}(h:au c J cs)(hc:wd c=1):au .junk J' cs:=by
 have h1:=au.length c h;rw[hc] at h1
 match cs,h1 with
 |[v],_=>simp only[au];exact⟨v,au.one c h v (by simp),rfl⟩
mutual
theorem au.ren(r:Nat->Option Nat):∀ (c:SV) {J J':Env} {cs:List Value},yM r J J'->au c J cs->au (ren r c) J' cs
 | .int ..,_,_,_,_,h=>h
 | .bool ..,_,_,_,_,h=>h
 | .str ..,_,_,_,_,h=>h
 | .arr n w f,_,_,_,hl,h=>by
  simp only[Sx.ren,au] at h ⊢;exact⟨h.1,λj hj=>au.ren r (f j) hl (h.2 j hj)⟩
 | .agg l,_,_,_,hl,h=>by simp only[Sx.ren,au] at h ⊢;exact bQ.ren r l hl h
 | .bK _,_,_,_,_,h=>by simp only[au] at h
 | .lst w d f l,_,_,_,hl,h=>by
  simp only[Sx.ren,au] at h ⊢;obtain⟨ao,cap,h1,h2,h3,h4,h5⟩:=h;refine⟨ao,cap,h1,h2,h3,h4,λi hi=> ?_⟩;obtain⟨b,off,T,fz,cur,e1,e2,e3,e4⟩:=h5 i hi;exact⟨b,off,T,fz,cur,e1,hl.H _ _ e2,e3,au.mono (f (l.getD i d)) hl.cl e4⟩
 | .lit w d f l,_,_,_,hl,h=>by
  simp only[Sx.ren,au] at h ⊢;obtain⟨ao,h1,h3,h4,h5⟩:=h;refine⟨ao,h1,h3,h4,λi hi=> ?_⟩;obtain⟨b,off,T,fz,cur,e1,e2,e3,e4⟩:=h5 i hi;exact⟨b,off,T,fz,cur,e1,hl.H _ _ e2,e3,au.mono (f (l.getD i d)) hl.cl e4⟩
 | .fM w d f l i p o,_,_,_,hl,h=>by
  simp only[Sx.ren,au] at h ⊢;obtain⟨b,off,T,fz,cur,h1,h2,h3,h4,h5,h6⟩:=h;exact⟨b,off,T,fz,cur,h1,h2,hl.H _ _ h3,h4,h5,au.mono (f (l.getD i d)) hl.cl h6⟩
 | .ref c p o,_,_,_,hl,h=>by
  simp only[Sx.ren,au] at h ⊢;obtain⟨b,T,fz,cur,h1,h2,h3,h4⟩:=h;exact⟨b,T,fz,cur,h1,hl.H _ _ h2,h3,au.mono c hl.cl h4⟩
 | .ptr j p o,_,_,_,hl,h=>by
  simp only[Sx.ren,kS];split
  ·rename_i k hk;simp only[au] at h ⊢;obtain⟨i1,i2,i3⟩:=hl.ids j h.1 k hk;exact⟨i1,h.2.1,by rw[i2];exact h.2.2⟩
  ·exact Ku h rfl
 | .vec j n,_,_,_,hl,h=>by
  simp only[Sx.ren,kS];split
  ·rename_i k hk;simp only[au] at h ⊢;obtain⟨i1,i2,i3⟩:=hl.ids j h.1 k hk;exact⟨i1,by rw[i3];exact h.2⟩
  ·exact Ku h rfl
 | .jO j n,_,_,_,hl,h=>by
  simp only[Sx.ren,kS];split
  ·rename_i k hk;simp only[au] at h ⊢;obtain⟨i1,i2,i3⟩:=hl.ids j h.1 k hk;exact⟨i1,by rw[i3];exact h.2⟩
  ·exact Ku h rfl
 | .gX j a p o,_,_,_,hl,h=>by
  simp only[Sx.ren,kS];split
  ·rename_i k hk;simp only[au] at h ⊢;obtain⟨i1,i2,i3⟩:=hl.ids j h.1 k hk;exact⟨i1,h.2.1,by rw[i3];exact h.2.2⟩
  ·exact Ku h rfl
 | .map j,_,_,_,hl,h=>by
  simp only[Sx.ren,kS];split
  ·rename_i k hk;simp only[au] at h ⊢;obtain⟨i1,i2,i3⟩:=hl.ids j h.1 k hk;exact⟨i1,by rw[i2];exact h.2⟩
  ·exact Ku h rfl
 | .fn f cap,_,_,_,hl,h=>by
  simp only[Sx.ren,au] at h ⊢;obtain⟨vs,h1,h2⟩:=h;exact⟨vs,bg.ren r cap hl h1,h2⟩
 | .iface t x,_,_,_,hl,h=>by
  simp only[Sx.ren,au,zZ] at h ⊢;obtain⟨xs,h1,h2⟩:=h;exact⟨xs,au.ren r x hl h1,h2⟩
 | .bF,_,_,_,_,h=>h
 | .iP,_,_,_,_,h=>h
 | .jh,_,_,_,_,h=>h
 | .jr,_,_,_,_,h=>h
 | .qx,_,_,_,_,h=>h
 | .lV,_,_,_,_,h=>h
 | .raw _,_,_,_,_,h=>h
 | .junk,_,_,_,_,h=>h
theorem bQ.ren(r:Nat->Option Nat):∀ (l:List SV) {J J':Env} {cs:List Value},yM r J J'->bQ l J cs->bQ (dW r l) J' cs
 |[],_,_,_,_,h=>h
 |x::l,_,_,_,hl,h=>by simp only[dW,bQ] at h ⊢;obtain⟨a,b,h1,h2,h3⟩:=h;exact⟨a,b,h1,au.ren r x hl h2,bQ.ren r l hl h3⟩
theorem bg.ren(r:Nat->Option Nat):∀ (l:List SV) {J J':Env} {vs:List Value},yM r J J'->bg l J vs->bg (dW r l) J' vs
 |[],_,_,_,_,h=>h
 |x::l,_,_,_,hl,h=>by simp only[dW,bg,zZ] at h ⊢;obtain⟨cs,t,h1,h2,h3⟩:=h;exact⟨cs,t,h1,au.ren r x hl h2,bg.ren r l hl h3⟩
end
theorem bM.ren{r:Nat->Option Nat}{x:SV}{J J':Env}{v:Value}(hl:yM r J J')(h:bM J x v):bM J' (Sx.ren r x) v:=by
 by_cases hv:x.isVal=true
 ·obtain⟨cs,h1,h2⟩:=ig h hv;have h3:=iG (au.ren r x hl h1);rw[zZ] at h3;rw[h2];exact h3
 ·cases x<;>first
   |exact absurd rfl hv
   |(obtain⟨vs,h1,h2⟩:=h;exact⟨vs,bg.ren r _ hl h1,h2⟩)
   |trivial
theorem aH.ren{r:Nat->Option Nat}{J J':Env}{σ:List SV}{a:Act}(hl:yM r J J')(h:aH J σ a):aH J' (dW r σ) a:=
 ⟨by rw[jT];exact h.1,λk=>by rw[rO];exact(h.2 k).ren hl⟩
theorem gu.ren{r:Nat->Option Nat}{J J':Env}{w:World}{i j:Nat}{x:ay}(hl:yM r J J')(hb:J'.blk j=J.blk i)(hv:J'.vv j=J.vv i)(h:gu J i w x):gu J' j w (dM r x):=by
 cases x with
 |dead=>trivial
 |blk T c=>
  obtain⟨cs,h1,h2⟩:=h;exact⟨cs,by rw[hb];exact h1,au.ren r c hl h2⟩
 |vec T w' l=>
  obtain⟨xs,h1,h2⟩:=h;refine⟨xs,by rw[jT,hv];exact h1,λk hk=> ?_⟩
  rw[jT] at hk;rw[rO];exact au.ren r _ hl (h2 k hk)
 |mp ek ev l=>
  obtain⟨es,cl,h1,h2⟩:=h;exact⟨es,cl,by rw[hb];exact h1,h2⟩
theorem vG{r:Nat->Option Nat}{J J':Env}{i j:Nat}{x:ay}(hb:J'.blk j=J.blk i)(hv:J'.vv j=J.vv i):aN J' j (dM r x)=aN J i x:=by cases x<;>simp[dM,aN,hb,hv]
def lU(ks:List Nat)(J:Env):Env:= {n:=ks.length,blk:=λj=>J.blk (ks.getD j 0),vv:=λj=>J.vv (ks.getD j 0),H:=J.H}
def kK(ks:List Nat)(i:Nat):Option Nat:=if ks.contains i then some (ks.idxOf i) else none
def lG(ks:List Nat)(m:List ay):List ay:=ks.map λk=>dM (kK ks) (ah m k)
theorem ku(ks:List Nat)(J:Env):yM (kK ks) J (lU ks J):=by
 refine⟨λi _ j hj=> ?_,λ_ _ h=>h⟩;unfold kK at hj;split at hj<;>try (cases hj;done)
 rename_i hc;have hm:i∈ks:=by simpa using hc
 simp only[z00] at hj;subst hj;have hlt:=List.idxOf_lt_length_of_mem hm;have:ks.getD (ks.idxOf i) 0=i:=by simp[z04,hlt]
 exact⟨hlt,by simp only[lU,this],by simp only[lU,this]⟩
theorem zY{ks:List Nat}{m:List ay}{j:Nat}(h:j<ks.length):ah (lG ks m) j=dM (kK ks) (ah m (ks.getD j 0)):=by simp[ah,lG,z04,h]
theorem Good.sel{J:Env}{m:List ay}{w:World}(g:Good J m w)(ks:List Nat)(hn:ks.Nodup):Good (lU ks J) (lG ks m) w:=by
 have hown:∀ j,j<ks.length->aN (lU ks J) j (ah (lG ks m) j)=aN J (ks.getD j 0) (ah m (ks.getD j 0)):=λj hj=>by rw[zY hj];exact vG rfl rfl
 have hlen:(lG ks m).length=ks.length:=by simp[lG]
 have hcase:∀ j b,aN (lU ks J) j (ah (lG ks m) j)=some b->j<ks.length/\aN J (ks.getD j 0) (ah m (ks.getD j 0))=some b:=by
  intro j b hb;rcases z1f j ks.length with hj|hj
  ·exact⟨hj,by rw[<- hown j hj];exact hb⟩
  ·rw[dh (by omega)] at hb;cases hb
 refine⟨by simp[lU,lG],λj=> ?_,λi j b hij h1 h2=> ?_,λi b hb=> ?_,λb o hb=>g.hv b o hb,g.gl⟩
 ·rcases z1f j ks.length with hj|hj
  ·rw[zY hj];exact gu.ren (ku ks J) rfl rfl (g.res _)
  ·rw[dh (by omega)];trivial
 ·obtain⟨hi,h1'⟩:=hcase i b h1;obtain⟨hj,h2'⟩:=hcase j b h2;refine g.pF _ _ b (λe=>hij ?_) h1' h2';have e1:ks.getD i 0=ks[i]:=by simp[z04,hi]
  have e2:ks.getD j 0=ks[j]:=by simp[z04,hj]
  rw[e1,e2] at e;have hp:=z2t.1 hn;rcases z1e i j with h|h|h
  ·exact absurd e (hp i j hi hj h)
  ·exact h
  ·exact absurd e.symm (hp j i hj hi h)
 ·exact g.sep _ b (hcase i b hb).2
theorem Inv.sel{β:Base}{J:Env}{m:List ay}{w:World}(h:Inv β J m w)(ks:List Nat)(hn:ks.Nodup)(h0:∀ i,i<β.J.n->ks[i]? =some i):Inv β (lU ks J) (lG ks m) w:=by
 have hlen:(lG ks m).length=ks.length:=by simp[lG]
 refine⟨h.good.sel ks hn,⟨h.kept.os,h.kept.tape,h.kept.output,h.kept.size,h.kept.heap,h.kept.H,h.kept.fresh,h.kept.drawn⟩,λi b hb=> ?_,?_,λi hi=> ?_,λi hi hv=> ?_⟩
 ·rcases z1f i ks.length with hi|hi
  ·rw[zY hi,vG (J:=J) (J':=lU ks J) (i:=ks.getD i 0) (j:=i) rfl rfl] at hb;exact h.own _ b hb
  ·rw[dh (by omega)] at hb;cases hb
 ·rcases z3k β.J.n with hz|hz
  ·omega
  ·have:=h0 (β.J.n - 1) (by omega)
   have hlt:=(z09.1 this).1;show β.J.n<=ks.length;omega
 ·have:=h0 i hi;have:ks.getD i 0=i:=by simp[z04,this]
  show J.blk (ks.getD i 0)=_;rw[this];exact h.blk i hi
 ·have h1:=h0 i hi;have hlt:=(z09.1 h1).1;have:ks.getD i 0=i:=by simp[z04,h1]
  rw[zY hlt,this] at hv;show J.vv (ks.getD i 0)=_;rw[this];refine h.vv i hi ?_;cases hmj:ah m i<;>rw[hmj] at hv<;>first|rfl|exact hv
def iZ:List ay->List ay->Nat->Option Nat
 |x::m,y::m',k=>match x,y with
  | .dead,_=>iZ m m' (k+1)
  |_, .dead=>some k
  |_,_=>iZ m m' (k+1)
 |_,_,_=>none
theorem MI:∀ (m m':List ay) (k i:Nat),iZ m m' k=some i->k<=i/\i<k+m.length
 |[],_,_,_,h=>by simp[iZ] at h
 |_::_,[],_,_,h=>by simp[iZ] at h
 |x::m,y::m',k,i,h=>by
  simp only[iZ] at h;have go:iZ m m' (k+1)=some i->k<=i/\i<k+(x::m).length:=λh=>by have:=MI m m' (k+1) i h;simp only[z1u];omega
  split at h
  ·exact go h
  ·simp only[z00] at h;subst h;simp only[z1u];omega
  ·exact go h
theorem GV{n i:Nat}(_:i<n):((z1o n).set i n).Nodup:=by refine z2t.2 λa b ha hb hab=> ?_;simp only[z1z,List.length_range] at ha hb;simp only[List.getElem_set,List.getElem_range];split<;>split<;>omega
end Go.Sx
namespace Go.Sx
open Go
variable {P:Program}
inductive IC:Type 1 where
 |skip
 |ops (l:List dA)
 |bJ (l:List dA)
 |Dq (l:List dA) (d:Nat) (T:TypeId) (z:SV) (lo:List dA)
 |seq (a b:IC)
 |cond (x:aS) (a b:IC)
 |block (id:Nat) (c:IC)
 |loop (c:IC)
 |exit (id:Nat)
 |ret
inductive Ex where
 |norm
 |exit (id:Nat)
 |ret
def dY:Exit->Ex->Prop
 | .normal, .norm=>True
 | .exit i, .exit j=>i=j
 | .ret, .ret=>True
 |_,_=>False
def Weak(σ:List SV)(m:List ay)(σ':List SV)(m':List ay):Prop:=
 ∀ β J a w,Inv β J m w->aH J σ a->∃ J',Inv β J' m' w/\aH J' σ' a
def SC(P:Program)(quiet:FuncId->Bool)(ops:Array Oper):Option IC:=match ops.toList.mapM (jM P (xk quiet) ops) with
 |some YV=>match (bT ops (Gx ops YV ops.size [])).toList.mapM (jM P (xk quiet) (bT ops (Gx ops YV ops.size []))) with
  |some aP=>if uN ops (Gx ops YV ops.size [])&&chk (bT ops (Gx ops YV ops.size [])).toList aP&&P.follows .mixedOrders then some (.bJ (aug (bT ops (Gx ops YV ops.size [])).toList aP)) else
   match BG P (xk quiet) (bT ops (Gx ops YV ops.size [])) with
   |some (l,d,T,z,lo)=>if uN ops (Gx ops YV ops.size [])&&P.follows .mixedOrders then some (.Dq l d T z lo) else none
   |none=>none
  |none=>none
 |none=>none
theorem gY{quiet:FuncId->Bool}{ops:Array Oper}{ic:IC}(h:SC P quiet ops=some ic):(∃ l,ic= .bJ l)\/∃ l d T z lo,ic= .Dq l d T z lo:=by
 unfold SC at h;split at h<;>try (cases h;done)
 split at h<;>try (cases h;done)
 split at h
 ·exact .inl ⟨_,(z0r h).symm⟩
 ·split at h<;>try (cases h;done)
  split at h<;>try (cases h;done)
  exact .inr ⟨_,_,_,_,_,(z0r h).symm⟩
def comp(P:Program)(quiet:FuncId->Bool):Code->Option IC
 | .skip=>some .skip
 | .region _ ops draw=>if draw then match ops.toList.mapM (jM P quiet ops) with
   |some aP=>if chk ops.toList aP&&P.follows .mixedOrders then some (.bJ (aug ops.toList aP)) else SC P quiet ops
   |none=>none
  else(ops.toList.mapM (bW P ops)).map .ops
 | .seq a b=>match comp P quiet a,comp P quiet b with
  |some a,some b=>some (.seq a b)
  |_,_=>none
 | .cond x a b=>match aQ x,comp P quiet a,comp P quiet b with
  |some x,some a,some b=>some (.cond x a b)
  |_,_,_=>none
 | .block id c=>(comp P quiet c).map (.block id)
 | .loop c=>(comp P quiet c).map .loop
 | .exit id=>some (.exit id)
 | .ret=>some .ret
 |_=>none
def Ends(β:Base)(d:List Deferred)(Q:Ex->List SV->List ay->Prop)(e:Exit)(a:Act)(w:World):Prop:=
 ∃ ex σ m J,dY e ex/\Q ex σ m/\Inv β J m w/\aH J σ a/\a.defers=d
theorem Ends.mono{β:Base}{d:List Deferred}{Q Q':Ex->List SV->List ay->Prop}{e:Exit}{a:Act}{w:World}(h:∀ ex σ m,Q ex σ m->Q' ex σ m)(hh:Ends β d Q e a w):Ends β d Q' e a w:=by obtain⟨ex,σ,m,J,h1,h2,h3⟩:=hh;exact⟨ex,σ,m,J,h1,h _ _ _ h2,h3⟩
end Go.Sx
