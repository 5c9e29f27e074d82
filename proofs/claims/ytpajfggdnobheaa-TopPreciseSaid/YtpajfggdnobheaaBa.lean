/- A part of TopPrecise's proof. -/
import Derived.Test.YtpajfggdnobheaaAa
import Derived.Laws.AppendOwnNone
import Derived.Conc.AppendWalk
import Derived.Laws.BytesString
import Derived.Conc.CompanyCalls
import Derived.Conc.CompanyDraw
import Derived.Orders
set_option linter.unusedVariables false
set_option linter.unusedSimpArgs false
open Option renaming some.injEq->z00,map_eq_some_iff->z02,bind_some->z0l,pure_def->z1c,map_some->z1d,bind_none->z1s,isSome_iff_exists->z2c,getD_some->z2v,some.inj->z2y,map_none->z2z
open Array renaming getD_eq_getD_getElem?->z01,getElem?_eq_some_iff->z0s,ext'->z0u,replicate->z15,getElem?_setIfInBounds->z1w,getElem?_replicate->z2g,getElem?_toList->z2l,toList_append->z2r,length_toList->z2s,forIn_toList->z2t,size_append->z2x
open Nat renaming zero_add->z03,le_refl->z0a,lt_of_lt_of_le->z0c,le_trans->z0n,add_zero->z0o,add_mul->z1a,lt_or_ge->z1f,not_lt_zero->z1l,mul_le_mul_right->z1p,le_succ->z1q,eq_zero_or_pos->z1r,lt_trichotomy->z1v,zero_le->z1x,add_assoc->z2i,le_mul_of_pos_right->z2k,le_of_lt->z2o,add_comm->z2p,lt_succ_self->z3e,le_of_not_lt->z3f,strongRecOn->z3h
open List renaming mem_append->z04,getD->z05,eq_nil_of_length_eq_zero->z07,replicate->z09,getElem?_eq_some_iff->z0d,getElem?_cons_zero->z0f,ext_getElem?->z0g,mem_zipIdx_iff_getElem?->z0h,map_cons->z0k,length_append->z0m,mem_cons->z0p,getElem?_eq_none->z0r,getElem?_append_left->z0t,mem_singleton->z0v,mem_filterMap->z0w,length_cons->z0y,mem_of_getElem?->z0z,mem_cons_of_mem->z14,filterMap_cons->z16,getElem?_append_right->z18,getElem?_set->z19,all_eq_true->z1b,map_nil->z1e,nodup_cons->z1g,nil_append->z1h,cons.injEq->z1i,length_replicate->z1m,mapM_cons->z1o,flatMap_cons->z1t,append_assoc->z1u,length_map->z1y,headD_cons->z1z,range->z2d,pairwise_iff_getElem->z2e,getElem?_zip_eq_some->z2f,eq_of_mem_replicate->z2h,getElem?_replicate->z2j,mem_cons_self->z2w,size_toArray->z3a,not_mem_nil->z3b,mem_toArray->z3c,cons_append->z3d,forIn_cons->z3g
open Bool renaming and_eq_true->z06,false_eq_true->z0j,not_eq_true'->z0x,or_eq_true->z1j,and_comm->z3i
open Go.Value renaming ownBlock->z08,slice->z2m,slice.injEq->z2u
open Go.Sem renaming run_bind->z0b,run_pure->z0i,events_bind->z1k,events_pure->z2a
open Prod renaming mk.injEq->z0e
open Go.World renaming ownsRow_nil->z0q,grownBy_alloc->z2q
namespace Go.Sx
open Go
variable {P:Program}
theorem vJ.append{J:Env}{w:Nat}{l l2:List SV}{xs ys:List Value}(h:vJ J w l xs)(h2:vJ J w l2 ys):vJ J w (l++l2) (xs++ys):=by
 refine⟨by simp[h.1,h2.1,z1a],λj hj=> ?_⟩
 have e1:=h.1;have e2:=h2.1;rw[z0m] at hj;by_cases hjl:j<l.length
 ·have:=bF (w:=w) hjl;have hg:(l++l2).getD j .junk=l.getD j .junk:=by simp[z05,z0t hjl]
  rw[hg];have hs:sub (xs++ys) (j*w) w=sub xs (j*w) w:=by
   apply z0g;intro k;rw[iM,iM];by_cases hk:k<w
   ·rw[if_pos hk,if_pos hk,z0t (by omega)]
   ·rw[if_neg hk,if_neg hk]
  rw[hs];exact h.2 j hjl
 ·have hg:(l++l2).getD j .junk=l2.getD (j - l.length) .junk:=by simp[z05,z18 (z3f hjl)]
  rw[hg];have hjw:j*w=l.length*w+(j - l.length)*w:=by rw[<- z1a];congr 1;omega
  have hs:sub (xs++ys) (j*w) w=sub ys ((j - l.length)*w) w:=by
   apply z0g;intro k;rw[iM,iM];by_cases hk:k<w
   ·rw[if_pos hk,if_pos hk,z18 (by omega)]
    congr 1;omega
   ·rw[if_neg hk,if_neg hk]
  rw[hs];exact h2.2 _ (by omega)
theorem vK{m:List ay}{w:Nat}{x:SV}{l2:List SV}(h:FY m w x=some l2){J:Env}{W:World}(hg:Good J m W){v:Value}(hx:bK J x v):
  ∃ ao c news,v= .slice ao l2.length c/\vJ J w l2 news/\(ao=none->l2=[]/\c=0)/\(∀ a,ao=some a->∀ j u,news[j]? =some u->W.cell? (a.add j)=some u)/\(∀ u∈news,u.oneCell'=true)/\∀ a,ao=some a->0<l2.length->(∃ i,aS J i (ak m i)=some a.block)\/∃ o,J.H a.block=some o:=by
 have red:∃ y,FY m w y=some l2/\bK J y v/\(∀ {τ:Type} (w':Nat) (d:τ) (f:τ->SV) (l:List τ),y≠ .lit w' d f l):=by
  cases x
  case lit w' d f l=>exact⟨.lst w' d f l,by simpa only[FY] using h,(Fp hx).1,by intro _ _ _ _ _ h;cases h⟩
  all_goals exact⟨_,h,hx,by intro _ _ _ _ _ h;cases h⟩
 clear h hx;obtain⟨x,h,hx,hnl⟩:=red;cases x<;>simp only[FY] at h<;>try (cases h;done)
 case lit=>exact absurd rfl (hnl _ _ _ _)
 case vec j n=>
  split at h<;>try (cases h;done)
  rename_i T w' l hm;split at h<;>try (cases h;done)
  rename_i hw;subst hw;simp only[z00] at h;subst h;obtain⟨hj,_,rfl⟩:=kF hx;obtain⟨xs,⟨T0,hT0,ho⟩,hel⟩:fH J j W (.vec T w' l):=hm▸hg.res j;have hE:vJ J w' l xs:=⟨ho.1,hel⟩;have hone:∀ u∈xs,u.oneCell'=true:=by intro u hu;obtain⟨i,hi,hm2⟩:=vw ho.1 hu;exact ah.one _ (hel i hi) u hm2
  have ho2:=ho;obtain⟨ol,ho⟩:=ho;rcases ho with⟨e,e2⟩|⟨g,cap,cur,e,_⟩
  ·exact⟨none,0,xs,by rw[e,e2],hE,λ_=>⟨z07 e2,rfl⟩,(λ_ hh=>by cases hh),hone,(λ_ hh=>by cases hh)⟩
  ·exact⟨some ⟨g,0,none⟩,cap,xs,e,hE,(λhh=>by cases hh),(λa ha=>by cases ha;exact ho2.cells (g:=g) (by rw[e];rfl)),hone,λa ha _=>by cases ha;exact .inl ⟨j,by rw[hm];simp[aS,e,z08]⟩⟩
 case lst τ w' d f l=>
  split at h<;>try (cases h;done)
  rename_i hw;subst hw;simp only[z00] at h;subst h;obtain⟨cs,h1,h2⟩:=hx;simp only[ah] at h1;obtain⟨ao,cap,rfl,h3,h4,h5,h6⟩:=h1;have hv:v= .slice ao l.length cap:=h2;cases hl:l with
  |nil=>
   subst hl;refine⟨ao,cap,[],by simpa using hv,⟨by simp,λj hj=>by simp at hj⟩,λe=>⟨rfl,h5 e⟩,λa _ j u hu=>by simp at hu,by simp,λa _ h=>by simp at h⟩
  |cons x0 r=>
   have hpos:0<l.length:=by rw[hl];simp
   rw[<- hl];obtain⟨b,off,T,fz,cur,rfl,g2,g3,g4⟩:=h6 0 hpos;obtain⟨b',off',T',fz',cur',e',g2',g3',g4'⟩:=h6 (l.length - 1) (by omega)
   simp only[z00,Addr.mk.injEq] at e';obtain⟨rfl,rfl,_⟩:=e';rw[g2] at g2';simp only[z00,Obj.cells.injEq] at g2';obtain⟨rfl,rfl,rfl⟩:=g2';have hbig:off+l.length*w'<=cur.size:=by
    have:(l.length - 1)*w'+w'=l.length*w':=by rw[<- Nat.succ_mul];congr 1;omega
    omega
   have hsl:(sub cur.toList off (l.length*w')).length=l.length*w':=gW (by simpa using hbig)
   refine⟨some ⟨b,off,none⟩,cap,sub cur.toList off (l.length*w'),by simpa using hv,⟨by rw[hsl];simp,λj hj=> ?_⟩,(λhh=>by cases hh),λa ha j u hu=> ?_,λu hu=> ?_,λa ha _=>by cases ha;exact .inr ⟨_,g2⟩⟩
   ·simp only[z1y] at hj;obtain⟨b2,off2,T2,fz2,asr,e2,k2,k3,k4⟩:=h6 j hj;simp only[z00,Addr.mk.injEq] at e2;obtain⟨rfl,rfl,_⟩:=e2;rw[g2] at k2;simp only[z00,Obj.cells.injEq] at k2;obtain⟨rfl,rfl,rfl⟩:=k2;rw[sub_sub (bF hj)];have:(l.map f).getD j .junk=f (l.getD j d):=by simp[z05,hj]
    rw[this];exact k4.mono _ (Env.Eb J)
   ·cases ha;rw[Addr.add_lit];rw[iM] at hu;split at hu<;>try (cases hu;done)
    have hb:=hg.hv b _ g2;simp only[World.cell?,hb];simpa using hu
   ·obtain⟨i,hi,hm2⟩:=vw (n:=l.length) (w:=w') hsl hu;obtain⟨b2,off2,T2,fz2,asr,e2,k2,k3,k4⟩:=h6 i hi;simp only[z00,Addr.mk.injEq] at e2;obtain⟨rfl,rfl,_⟩:=e2;rw[g2] at k2;simp only[z00,Obj.cells.injEq] at k2;obtain⟨rfl,rfl,rfl⟩:=k2;rw[sub_sub (bF hi)] at hm2;exact ah.one _ k4 u hm2
 case dO=>
  simp only[z00] at h;subst h;have:=lY hx;exact⟨none,0,[],this,⟨by simp,λj hj=>by simp at hj⟩,λ_=>⟨rfl,rfl⟩,(λ_ hh=>by cases hh),by simp,(λ_ hh=>by cases hh)⟩
theorem BM{E t ty:TypeId}{i:TypeInfo}{z:Value}{w by':Nat}{W:World}(ht:P.underlying t=some (.slice E))(hi:P.info? E=some i)(hz:i.zero=some z)(hw:i.size=w)(hby:i.bytes=by')(hzs:z.cells.size=w)(hw0:0<w)
  {v:Value} {n:Nat} {xs:List Value} (hown:W.ownsRow 0 E w v n xs) {ao:Option Addr} {k c:Nat} {news:List Value} (hl:news.length=k*w) (hnone:ao=none->k=0/\c=0)
  (hnews:∀ a,ao=some a->∀ j u,news[j]? =some u->W.cell? (a.add j)=some u) (h1:∀ u∈news,u.oneCell'=true) (h63:n+k<=maxLen) (hbytes:(n+k)*by'<=140737488355328):
  ∃ v' W',(Builtin.append_ #[t,t] ty #[v, .slice ao k c]).run P W= .ok v' W'/\W'.ownsRow 0 E w v' (n+k) (xs++news)/\(W.grownBy W' v.ownBlock/\W.drawn<=W'.drawn)/\(v'.ownBlock=v.ownBlock\/∀ b,v'.ownBlock=some b->W.heap.size<=b):=by
 cases ao with
 |none=>
  obtain⟨rfl,rfl⟩:=hnone rfl;have hn:news=[]:=z07 (by simpa using hl)
  subst hn;refine⟨v,W,?_,by simpa using hown,⟨⟨rfl,rfl,rfl,z0a _,λ_ _ _=>rfl⟩,z0a _⟩, .inl rfl⟩
  rcases hown.2 with⟨rfl,rfl⟩|⟨g,cap,cur,rfl,_,_,hle,_⟩
  ·simp[Builtin.append_,run_underlying ht,sizeOf,typeInfo,hi,Builtin.lenOf,Builtin.firstCells]
  ·simp[Builtin.append_,run_underlying ht,sizeOf,typeInfo,hi,Builtin.lenOf,Builtin.firstCells,hle,storeCells]
 |some a=>
  obtain⟨v',W',hr,h2,h3,_⟩:=run_append_own (P:=P) W 0 t ty E i z w by' ht hi hz hw hby hzs hw0 v n xs hown a k c news hl (hnews a rfl) h1 h63 hbytes (z1x _)
  refine⟨v',W',hr,h2,?_⟩;subst hw;subst hby;have hsmall:n+k<=9223372036854775807:=by simp only[maxLen] at h63;omega
  rcases hown.2 with⟨rfl,rfl⟩|⟨g,cap,cur,rfl,hbg,hg,hnc,hcm,hcs,htake⟩
  ·by_cases hk:k=0
   ·subst hk;have hn:news=[]:=z07 (by simpa using hl)
    subst hn;have:(Builtin.append_ #[t,t] ty #[.slice none 0 0, .slice (some a) 0 c]).run P W= .ok (.slice none 0 0) W:=by simp[Builtin.append_,run_underlying ht,sizeOf,typeInfo,hi,Builtin.lenOf,Builtin.firstCells,loadCells,loadCellsFrom]
    rw[this] at hr;injection hr with e1 e2;refine⟨⟨h3,by rw[<- e2];first|exact z0a _|exact z1q _|simp⟩,?_⟩
    left;rw[<- e1]
   ·have:=run_append_nil (P:=P) W t ty E i z ht hi hz a k c news hl (hnews a rfl) (by omega) (by omega) (by simp only[z03] at hbytes;omega)
    rw[this] at hr;injection hr with e1 e2;refine⟨⟨h3,by rw[<- e2];first|exact z0a _|exact z1q _|simp⟩,?_⟩
    right;intro b hb;rw[<- e1] at hb;simp[z08] at hb;omega
  ·by_cases hroom:n+k<=cap
   ·have hfit:n*i.size+news.length<=cur.size:=by rw[hl,hcs,<- z1a];exact z1p _ hroom
    have:=run_append_room (P:=P) W t ty E i ht hi g n cap cur hg a k c news hl (hnews a rfl) h1 hroom hfit;rw[this] at hr;injection hr with e1 e2;refine⟨⟨h3,by rw[<- e2];first|exact z0a _|exact z1q _|simp⟩,?_⟩
    left;rw[<- e1];rfl
   ·have:=run_append_grow (P:=P) W t ty E i z ht hi hz ⟨g,0,none⟩ n cap xs hown.1 (hown.cells (g:=g) rfl) a k c news hl (hnews a rfl) (by omega) (by omega) (growslice_fits (by omega) hbytes)
    rw[this] at hr;injection hr with e1 e2;refine⟨⟨h3,by rw[<- e2];first|exact z0a _|exact z1q _|simp⟩,?_⟩
    right;intro b hb;rw[<- e1] at hb;simp[z08] at hb;omega
theorem lU{R V:Nat->Prop}{w:World}(size n:Nat)(x:Value){es:Array Event}(h:Ls R V es)
  (hx:∀ a l c,x= .slice (some a) l c->(V a.block\/R a.block)/\∀ j,j<n*size->(w.cell? (a.add j)).isSome):Ls R V ((Builtin.firstCells size n x).events P w es):=by
 unfold Builtin.firstCells;split
 ·rename_i a l c;obtain⟨h1,h2⟩:=hx a l c rfl;exact vk h1 _ 0 _ _ h (λj hj=>by simpa using h2 j hj)
 ·simpa using h
 ·simpa using h
 ·simpa using h
theorem Ji{R V:Nat->Prop}{E t ty:TypeId}{i:TypeInfo}{z:Value}{w by':Nat}{W:World}(ht:P.underlying t=some (.slice E))(hi:P.info? E=some i)(hz:i.zero=some z)(hw:i.size=w)(hby:i.bytes=by')
  {v:Value} {n:Nat} {xs:List Value} (hown:W.ownsRow 0 E w v n xs) {ao:Option Addr} {k c:Nat} {news:List Value} (hl:news.length=k*w) (hnone:ao=none->k=0/\c=0)
  (hnews:∀ a,ao=some a->∀ j u,news[j]? =some u->W.cell? (a.add j)=some u) (h1:∀ u∈news,u.oneCell'=true) (h63:n+k<=maxLen) (hbytes:(n+k)*by'<=140737488355328)
  (hR:∀ a,ao=some a->0<k*w->V a.block\/R a.block) (hV:∀ b,v.ownBlock=some b->V b):
  Ls R V ((Builtin.append_ #[t,t] ty #[v, .slice ao k c]).events P W #[]):=by
 subst hw;subst hby;have hsmall:n+k<=9223372036854775807:=by simp only[maxLen] at h63;omega
 cases ao with
 |none=>
  obtain⟨rfl,rfl⟩:=hnone rfl;rcases hown.2 with⟨rfl,rfl⟩|⟨g,cap,cur,rfl,_,_,hle,_⟩
  ·simp[Builtin.append_,run_underlying ht,sizeOf,typeInfo,hi,Builtin.lenOf,Builtin.firstCells];exact Ls.nil R V
  ·simp[Builtin.append_,run_underlying ht,sizeOf,typeInfo,hi,Builtin.lenOf,Builtin.firstCells,hle,storeCells];exact Ls.nil R V
 |some a=>
  have hnews:=hnews a rfl;have src:∀ (w':World),(∀ ad,w'.cell? ad=W.cell? ad)->0<k*i.size->∀ a' l' c',z2m (some a) k c= .slice (some a') l' c'->(V a'.block\/R a'.block)/\∀ j,j<k*i.size->(w'.cell? (a'.add j)).isSome:=by intro w' hw' hp a' l' c' e;cases e;exact⟨hR a rfl hp,λj hj=>by rw[hw'];exact isSome_of_list hnews (by rw[hl];exact hj)⟩
  have nil:∀ (w':World) (k sz l₀ c₀:Nat) a' l' c',z2m none l₀ c₀= .slice (some a') l' c'->(V a'.block\/R a'.block)/\∀ j,j<k*sz->(w'.cell? (a'.add j)).isSome:=by intro _ _ _ _ _ _ _ _ e;cases e
  have aj8:∀ (w':World),(∀ ad,w'.cell? ad=W.cell? ad)->∀ es,Ls R V es->Ls R V ((Builtin.firstCells i.size k (.slice (some a) k c)).events P w' es):=by
   intro w' hw' es hes;by_cases hp:0<k*i.size
   ·exact lU _ _ _ hes (src w' hw' hp)
   ·have:k*i.size=0:=by omega
    simpa[Builtin.firstCells,this,loadCells,loadCellsFrom] using hes
  rcases hown.2 with⟨rfl,rfl⟩|⟨g,cap,cur,rfl,hbg,hg,hnc,hcm,hcs,htake⟩
  ·by_cases hm:k=0
   ·subst hm;simp[Builtin.append_,run_underlying ht,sizeOf,typeInfo,hi,Builtin.lenOf];exact aj8 _ (λ_=>rfl) _ (Ls.nil R V)
   ·have h63':¬ (9223372036854775807< (k:Int)):=by omega
    have h48':¬ (281474976710656<Builtin.nextslicecap k 0*i.bytes):=by rw[nextslicecap_zero (by omega)];simp only[z03] at hbytes;omega
    have hf:=run_firstCells_some (P:=P) W.drew i.size k a k c news hl (by simpa using hnews)
    simp[Builtin.append_,run_underlying ht,sizeOf,typeInfo,zeroValue,hi,hz,Builtin.lenOf,hm,h63',h48',Question.forced,run_firstCells_none,hf,newRow];refine aj8 _ (λ_=>by simp) _ (lU _ _ _ ?_ (nil _ _ _ _ _))
    exact(Ls.nil R V).mk (Conc.events_askRoom _ _ _)
  ·have holds:∀ j u,xs[j]? =some u->W.cell? ((⟨g,0,none⟩:Addr).add j)=some u:=hown.cells (g:=g) rfl;have hVg:V g:=hV g (by simp[z08])
   have own:∀ (w':World),(∀ ad,w'.cell? ad=W.cell? ad)->∀ a' l' c',z2m (some ⟨g,0,none⟩) n cap= .slice (some a') l' c'->(V a'.block\/R a'.block)/\∀ j,j<n*i.size->(w'.cell? (a'.add j)).isSome:=by intro w' hw' a' l' c' e;cases e;exact⟨.inl hVg,λj hj=>by rw[hw'];exact isSome_of_list holds (by rw[hown.1];exact hj)⟩
   by_cases hroom:n+k<=cap
   ·have hfit:n*i.size+news.length<=cur.size:=by rw[hl,hcs,<- z1a];exact z1p _ hroom
    have hf:=run_firstCells_some (P:=P) W i.size k a k c news hl hnews;simp[Builtin.append_,run_underlying ht,sizeOf,typeInfo,hi,Builtin.lenOf,hroom,hf,Addr.add_lit];exact lS (P:=P) hVg news 0 cur W _ hg (by simpa using hfit) h1 (aj8 _ (λ_=>rfl) _ (Ls.nil R V))
   ·have hn:¬ (n+k<=cap):=hroom;have h63':¬ (9223372036854775807< ((n:Int)+(k:Int))):=by omega
    have h48':¬ (281474976710656<Builtin.nextslicecap (n+k) cap*i.bytes):=by have:=growslice_fits (need:=n+k) (old:=cap) (bytes:=i.bytes) (by omega) hbytes;omega
    have hf:=run_firstCells_some (P:=P) W.drew i.size k a k c news hl (by simpa using hnews)
    have hfo:=run_firstCells_some (P:=P) W.drew i.size n ⟨g,0,none⟩ n cap xs hown.1 (by simpa using holds)
    simp[Builtin.append_,run_underlying ht,sizeOf,typeInfo,zeroValue,hi,hz,Builtin.lenOf,hn,h63',h48',Question.forced,hf,hfo,newRow];refine aj8 _ (λ_=>by simp) _ (lU _ _ _ ?_ (own _ (λ_=>by simp)))
    exact(Ls.nil R V).mk (Conc.events_askRoom _ _ _)
theorem abn{k w:Nat}(h:0<k*w):0<k:=by
 rcases z1r k with h0|h0
 ·rw[h0,Nat.zero_mul] at h;exact absurd h (Nat.lt_irrefl _)
 ·exact h0
theorem SE{R V:Nat->Prop}{E t ty:TypeId}{i:TypeInfo}{z:Value}{w by':Nat}{W:World}(ht:P.underlying t=some (.slice E))(hi:P.info? E=some i)(hz:i.zero=some z)(hw:i.size=w)(hby:i.bytes=by')
  {b:Addr} {n:Nat} {xs:List Value} (hlo:xs.length=n*w) (holds:∀ j u,xs[j]? =some u->W.cell? (b.add j)=some u) {a:Addr} {k c:Nat} {news:List Value} (hl:news.length=k*w) (hk:0<k)
  (hnews:∀ j u,news[j]? =some u->W.cell? (a.add j)=some u) (h63:n+k<=maxLen) (hbytes:(n+k)*by'<=140737488355328)
  (hb:0<n*w->V b.block\/R b.block) (ha:0<k*w->V a.block\/R a.block):
  Ls R V ((Builtin.append_ #[t,t] ty #[.slice (some b) n n, .slice (some a) k c]).events P W #[]):=by
 subst hw;subst hby;have hsmall:n+k<=9223372036854775807:=by simp only[maxLen] at h63;omega
 have aly:∀ (w':World) (b:Addr) (n n' c:Nat) (xs:List Value),xs.length=n*i.size->(∀ j u,xs[j]? =some u->w'.cell? (b.add j)=some u)->(0<n*i.size->V b.block\/R b.block)->∀ es,Ls R V es->Ls R V ((Builtin.firstCells i.size n (.slice (some b) n' c)).events P w' es):=by
  intro w' b n n' c xs hlo holds hb es hes;by_cases hp:0<n*i.size
  ·refine lU _ _ _ hes λa' l' c' e=> ?_;cases e;exact⟨hb hp,λj hj=>isSome_of_list holds (by rw[hlo];exact hj)⟩
  ·have:n*i.size=0:=by omega
   simpa[Builtin.firstCells,this,loadCells,loadCellsFrom] using hes
 have hn:¬ (n+k<=n):=by omega
 have h63':¬ (9223372036854775807< ((n:Int)+(k:Int))):=by omega
 have h48':¬ (281474976710656<Builtin.nextslicecap (n+k) n*i.bytes):=by have:=growslice_fits (need:=n+k) (old:=n) (bytes:=i.bytes) (by omega) hbytes;omega
 have hf:=run_firstCells_some (P:=P) W.drew i.size k a k c news hl (by simpa using hnews)
 have hfo:=run_firstCells_some (P:=P) W.drew i.size n b n n xs hlo (by simpa using holds)
 have hk0:k≠0:=by omega
 simp[Builtin.append_,run_underlying ht,sizeOf,typeInfo,zeroValue,hi,hz,Builtin.lenOf,hn,h63',h48',Question.forced,hf,hfo,newRow];refine aly _ a k k c news hl (by simpa using hnews) ha _ (aly _ b n n n xs hlo (by simpa using holds) hb _ ?_)
 exact(Ls.nil R V).mk (Conc.events_askRoom _ _ _)
section
variable {o:Oper} {σ:List SV} {m:List ay}
def vM(P:Program)(t:TypeId):Option (TypeId×Nat×Nat):=
 match P.underlying t with
 |some (.slice E)=>match P.info? E,Oz P E with
  |some i,some z=>if i.size=wd z/\0<i.size/\0<i.bytes then some (E,i.size,i.bytes) else none
  |_,_=>none
 |_=>none
theorem Ac{t E:TypeId}{w by':Nat}(h:vM P t=some (E,w,by')):P.underlying t=some (.slice E)/\∃ i z,P.info? E=some i/\i.zero=some z/\i.size=w/\i.bytes=by'/\z.cells.size=w/\0<w/\0<by':=by
 unfold vM at h;split at h<;>try (cases h;done)
 rename_i E' hu;split at h<;>try (cases h;done)
 rename_i i z h1 h2;split at h<;>try (cases h;done)
 rename_i hc;simp only[z00,z0e] at h;obtain⟨rfl,rfl,rfl⟩:=h;obtain⟨i',v,e1,e2,e3⟩:=xW h2;rw[h1] at e1;cases e1;have:=ah.length _ (e3 ⟨0,λ_=>0,λ_=>undef,λ_=>none⟩);exact⟨hu,i,v,h1,e2,rfl,rfl,by rw[<- z2s,this];exact hc.1.symm,hc.2.1,hc.2.2⟩
def ae9(σ:List SV)(m:List ay)(E:TypeId)(w by':Nat)(s x:SV)(K:List SV->SV->List ay->Prop):Prop:=
 match FY m w x with
 |none=>False
 |some l2=>match s with
  | .dO=>l2.length*by'<=140737488355328/\K σ (.vec m.length l2.length) (m++[.vec E w l2])
  | .vec i _=>match ak m i with
   | .vec E' w' l=>((E'=E/\E<1000000)/\w'=w/\(l.length+l2.length)*by'<=140737488355328)/\
     K (dn i σ) (.vec i (l.length+l2.length)) ((m.map (wH i)).set i (.vec E w (dn i (l++l2))))
   |_=>False
  |_=>False
theorem abo{t:TypeId}{E:TypeId}{w by':Nat}{s x:Operand}{s' x':aV}{K:List SV->SV->List ay->Prop}
  (ho:o.op= .call {callee:= .builtin .append,args:= #[s,x],argTypes:= #[t,t]}) (ht:vM P t=some (E,w,by')) (hs':aP s=some s') (hx':aP x=some x')
  (h:ae9 σ m E w by' (s'.ev σ) (x'.ev σ) K):∃ σ' sv m',K σ' sv m'/\WL P o σ m σ' sv m':=by
 obtain⟨hu,i,z,hi,hz,hsz,hby,hzs,hw0,hb0⟩:=Ac ht;have hrun:∀ (a:Act) W,(execOp a.eval o).run P W=((Builtin.append_ #[t,t] o.type #[a.eval s,a.eval x]).run P W).andThen λv w=> .ok (.value v) w:=by intro a W;simp[execOp,ho,resolve,invoke,builtin]
 have h63:∀ n:Nat,n*by'<=140737488355328->n<=maxLen:=by
  intro n hn;have:n<=n*by':=z2k _ hb0
  unfold maxLen;omega
 unfold ae9 at h;split at h
 ·exact h.elim
 ·rename_i l2 hl2;split at h
  ·rename_i es;refine⟨_,_,_,h.2,λβ J a W hI hs=> ?_⟩;obtain⟨ao,c,news,e1,e2,e3,e4,e5,e7⟩:=vK hl2 hI.good (aB hx' hs);have e6:=lY (es▸aB hs' hs);obtain⟨v',W',hr,g1,g2,g3⟩:=BM (P:=P) (ty:=o.type) (W:=W) hu hi hz hsz hby hzs hw0 (z0q W 0 E w) e2.1 (λhn=>by obtain⟨q1,q2⟩:=e3 hn;rw[q1];exact⟨rfl,q2⟩) e4 e5 (by rw[z03];exact h63 _ h.1) (by rw[z03];exact h.1)
   rw[z03,z1h] at g1;have g2':W.grownBy W' none:=g2.1;have hr':(execOp a.eval o).run P W= .ok (.value v') W':=by rw[hrun,e6,e1,hr,Result.andThen_ok]
   have hev:=Conc.events_append_op (P:=P) (a:=a) (w:=W) s x t ho e6 e1 #[];have hE':JZ J m W W' ((execOp a.eval o).events P W #[]):=by rw[hev];exact Ji (P:=P) hu hi hz hsz hby (z0q W 0 E w) e2.1 (λhn=>by obtain⟨q1,q2⟩:=e3 hn;rw[q1];exact⟨rfl,q2⟩) e4 e5 (by rw[z03];exact h63 _ h.1) (by rw[z03];exact h.1) (λa ha hp=>(e7 a ha (abn hp)).imp .inl id) (λb hb=>by simp[z08] at hb)
   refine⟨v',W',J.more 0 v', .inl hr',?_,hs.mono (J.dS _ _),hI.more g2' g2.2 ?_ ?_,hE'⟩
   ·refine⟨[v'],?_,rfl⟩;simp only[ah];have hvv:(J.more 0 v').vv m.length=v':=by simp[Env.more,hI.good.n]
    refine⟨by simp[Env.more,hI.good.n],?_,by rw[hvv]⟩
    rw[hvv];rcases g1.2 with⟨q1,q2⟩|⟨g,cap,cur,q,_,_,q4,_⟩
    ·exact .inl ⟨q1,q2⟩
    ·exact .inr ⟨g,cap,q,q4⟩
   ·have hvv:(J.more 0 v').vv m.length=v':=by simp[Env.more,hI.good.n]
    exact⟨news,by rw[hvv];exact .of g1,λj hj=>(e2.2 j hj).mono _ (J.dS _ _)⟩
   ·intro b hb;simp[aS,Env.more,hI.good.n] at hb;rcases g3 with g3|g3
    ·rw[g3] at hb;simp[z08] at hb
    ·exact g3 b hb
  ·rename_i i' n' es;split at h<;>try (exact h.elim)
   rename_i E' w' l hm;obtain⟨⟨⟨rfl,aj9⟩,rfl,hb⟩,hK⟩:=h;refine⟨_,_,_,hK,λβ J a W hI hs=> ?_⟩;obtain⟨ao,c,news,e1,e2,e3,e4,e5,e7⟩:=vK hl2 hI.good (aB hx' hs);obtain⟨hi',_,e6⟩:=kF (es▸aB hs' hs);obtain⟨xs,hown,hel⟩:fH J i' W (.vec E' w' l):=hm▸hI.good.res i';replace hown:=hown.get aj9;obtain⟨v',W',hr,g1,g2,g3⟩:=BM (P:=P) (ty:=o.type) (W:=W) hu hi hz hsz hby hzs hw0 hown e2.1 (λhn=>by obtain⟨q1,q2⟩:=e3 hn;rw[q1];exact⟨rfl,q2⟩) e4 e5 (h63 _ hb) hb
   have hE:vJ J w' (l++l2) (xs++news):=vJ.append ⟨hown.1,hel⟩ e2;have hgr:=hI.grown (v':=v') (l':=l++l2) (ys:=xs++news) aj9 hm g2.1 g2.2 (by rw[z0m];exact g1) g3 hE.2
   have hr':(execOp a.eval o).run P W= .ok (.value v') W':=by rw[hrun,e6,e1,hr,Result.andThen_ok]
   have hev:=Conc.events_append_op (P:=P) (a:=a) (w:=W) s x t ho e6 e1 #[];have hE':JZ J m W W' ((execOp a.eval o).events P W #[]):=by rw[hev];exact Ji (P:=P) hu hi hz hsz hby hown e2.1 (λhn=>by obtain⟨q1,q2⟩:=e3 hn;rw[q1];exact⟨rfl,q2⟩) e4 e5 (h63 _ hb) hb (λa ha hp=>(e7 a ha (abn hp)).imp .inl id) (λb hb=> .inl ⟨i',by rw[hm];exact hb⟩)
   refine⟨v',W',_, .inl hr',?_,hs.kill hgr.2,hgr.1,hE'⟩;refine⟨[v'],?_,rfl⟩;simp only[ah,if_true];refine⟨hi',?_,trivial⟩;rcases g1.2 with⟨q1,q2⟩|⟨g,cap,cur,q,_,_,q4,_⟩
   ·exact .inl ⟨q1,q2⟩
   ·exact .inr ⟨g,cap,q,q4⟩
  ·exact h.elim
end
theorem Inv.drop{β:Base}{J:Env}{m:List ay}{w:World}(h:Inv β J m w){i:Nat}(hi:(ak m i).aqg=true):Inv β J (m.set i .dead) w:=by refine h.at1 (jJ λe=>by rw[e] at hi;cases hi) trivial nofun nofun (λ_ _=>rfl) rfl ⟨rfl,rfl,rfl,rfl⟩
theorem Inv.more2{β:Base}{J:Env}{m:List ay}{w w':World}(h:Inv β J m w){b:Nat}{v:Value}{r:ay}{row:Option Nat}(hg:w.grownBy w' row)(hd:w.drawn<=w'.drawn)
  (hrow:∀ x,row=some x->(∀ i,aS J i (ak m i)≠some x)/\J.H x=none/\x<w.heap.size/\(β.B x\/β.w.heap.size<=x))
  (hres:fH (J.more b v) m.length w' r) (hown:∀ x,aS (J.more b v) m.length r=some x->w.heap.size<=x\/row=some x):
  Inv β (J.more b v) (m++[r]) w':=by
 have hn:=h.good.n;have hw:∀ b,b<w.heap.size->row≠some b->w'.heap[b]? =w.heap[b]? :=λb hb hr=>hg.block b hb (λe=>hr e.symm);have hle:=J.dS b v;have Rl:∀ i,i<m.length->aS (J.more b v) i (ak (m++[r]) i)=aS J i (ak m i):=by
  intro i hi;rw[bD hi];have hi':i<J.n:=by omega
  cases ak m i<;>simp[aS,Env.more,Nat.ne_of_lt hi']
 have hcase:∀ i x,aS (J.more b v) i (ak (m++[r]) i)=some x->(i<m.length/\aS J i (ak m i)=some x)\/(i=m.length/\(w.heap.size<=x\/row=some x)):=by
  intro i x hb;rcases z1v i m.length with hi|hi|hi
  ·rw[Rl i hi] at hb;exact .inl ⟨hi,hb⟩
  ·subst hi;rw[gU] at hb;exact .inr ⟨rfl,hown x hb⟩
  ·rw[bI (by simp;omega)] at hb;cases hb
 have hne:∀ i x,aS J i (ak m i)=some x->w'.heap[x]? =w.heap[x]? :=λi x hx=>hw x (dw h.good hx) (λe=>(hrow x e).1 i hx);refine⟨⟨by simp[Env.more,hn],λi=> ?_,λi j x hij h1 h2=> ?_,λi x hb=> ?_,λx o hb=> ?_,h.good.gl⟩,⟨hg.os.trans h.kept.os,hg.tape.trans h.kept.tape,hg.output.trans h.kept.output,z0n h.kept.size hg.size,?_,h.kept.H,h.kept.fresh,λe=>z0n (h.kept.drawn e) hd⟩,λi x hb=> ?_,?_,λi hi=> ?_,λi hi hv=> ?_⟩
 ·rcases z1v i m.length with hi|hi|hi
  ·rw[bD hi];have hi':i<J.n:=by omega
   have hr:=h.good.res i;cases hm:ak m i with
   |dead=>trivial
   |blk T c=>
    rw[hm] at hr;obtain⟨cs,h1,h2⟩:=hr;exact⟨cs,by rw[hle.blk i hi',hne i _ (by rw[hm];rfl)];exact h1,h2.mono c hle⟩
   |vec T wd l=>
    rw[hm] at hr;obtain⟨xs,⟨T0,hT0,h1⟩,h2⟩:=hr;refine⟨xs,⟨T0,hT0,?_⟩,λj hj=>(h2 j hj).mono _ hle⟩;rw[hle.vv i hi'];refine⟨h1.1,?_⟩;rcases h1.2 with hx|⟨gg,cap,cur,e1,e2,e3,e4⟩
    ·exact .inl hx
    ·exact .inr ⟨gg,cap,cur,e1,e2,by rw[hne i gg (by rw[hm];simp[aS,e1,z08])];exact e3,e4⟩
   |mp ek ev l=>
    rw[hm] at hr;obtain⟨es,cl,h1,h2⟩:=hr;exact⟨es,cl,by rw[hle.blk i hi',hne i _ (by rw[hm];rfl)];exact h1,h2⟩
  ·subst hi;rw[gU];exact hres
  ·rw[bI (by simp;omega)];trivial
 ·rcases hcase i x h1 with⟨hi,h1'⟩|⟨hi,hb⟩<;>rcases hcase j x h2 with⟨hj,h2'⟩|⟨hj,hb2⟩
  ·exact h.good.jY i j x hij h1' h2'
  ·rcases hb2 with hb2|hb2
   ·have:=dw h.good h1';omega
   ·exact(hrow x hb2).1 i h1'
  ·rcases hb with hb|hb
   ·have:=dw h.good h2';omega
   ·exact(hrow x hb).1 j h2'
  ·omega
 ·rcases hcase i x hb with⟨_,h1⟩|⟨_,h1|h1⟩
  ·exact h.good.sep i x h1
  ·cases hh:J.H x with
   |none=>exact hh
   |some o=>have:=wo h.good hh;omega
  ·exact(hrow x h1).2.1
 ·rw[hw x (wo h.good hb) (λe=>by have h3:=(hrow x e).2.1;have hb':J.H x=some o:=hb;rw[h3] at hb';cases hb')];exact h.good.hv x o hb
 ·intro x hb hB;rw[hw x (z0c hb h.kept.size) (λe=>by
   rcases(hrow x e).2.2.2 with q|q
   ·exact hB q
   ·omega)]
  exact h.kept.heap x hb hB
 ·rcases hcase i x hb with⟨_,h1⟩|⟨_,h1|h1⟩
  ·exact h.own i x h1
  ·right;exact z0n h.kept.size h1
  ·exact(hrow x h1).2.2.2
 ·have:=h.n;simp[Env.more];omega
 ·have:=h.n;have e:=h.blk i hi;simp[Env.more];rw[if_neg (by omega)];exact e
 ·have hn':=h.n;rw[bD (by omega)] at hv
  have e:=h.vv i hi hv;simp[Env.more];rw[if_neg (by omega)];exact e
section
variable {o:Oper} {σ:List SV} {m:List ay}
def Ql(m:List ay)(E:TypeId)(w by':Nat)(s x:SV)(K:SV->List ay->Prop):Prop:=
 match FY m w x with
 |none=>False
 |some l2=>match s with
  | .dO=>l2.length*by'<=140737488355328/\K (.vec m.length l2.length) (m++[.vec E w l2])
  | .vec i _=>match ak m i with
   | .vec E' w' l=>((E'=E/\E<1000000)/\w'=w/\(l.length+l2.length)*by'<=140737488355328)/\
     K (.vec m.length (l.length+l2.length)) (m.set i .dead++[.vec E w (l++l2)])
   |_=>False
  | .lit w' d f l=>if l2.isEmpty then w'=w/\K (.lit w' d f l) m else(w'=w/\(l.length+l2.length)*by'<=140737488355328)/\
    K (.vec m.length (l.length+l2.length)) (m++[.vec E w (l.map f++l2)])
  |_=>False
theorem OA{E t ty:TypeId}{i:TypeInfo}{z:Value}{w by':Nat}{W:World}(ht:P.underlying t=some (.slice E))(hi:P.info? E=some i)(hz:i.zero=some z)(hw:i.size=w)(hby:i.bytes=by')(hzs:z.cells.size=w)(hw0:0<w)
  {b:Addr} {n:Nat} {xs:List Value} (hlo:xs.length=n*w) (holds:∀ j u,xs[j]? =some u->W.cell? (b.add j)=some u) {a:Addr} {k c:Nat} {news:List Value} (hl:news.length=k*w) (hk:0<k)
  (hnews:∀ j u,news[j]? =some u->W.cell? (a.add j)=some u) (h63:n+k<=maxLen) (hbytes:(n+k)*by'<=140737488355328):
  ∃ v' W',(Builtin.append_ #[t,t] ty #[.slice (some b) n n, .slice (some a) k c]).run P W= .ok v' W'/\W'.ownsRow 0 E w v' (n+k) (xs++news)/\(W.grownBy W' none/\W.drawn<=W'.drawn)/\∀ b,v'.ownBlock=some b->W.heap.size<=b:=by
 subst hw;subst hby;have hsmall:n+k<=9223372036854775807:=by simp only[maxLen] at h63;omega
 have hlen:(xs++news).length=(n+k)*i.size:=by rw[z0m,hlo,hl,z1a]
 have hr:=run_append_grow (P:=P) W t ty E i z ht hi hz b n n xs hlo holds a k c news hl hnews (by omega) (by omega) (growslice_fits (by omega) hbytes)
 have hge:=grownCap_ge W (n+k) n E;have hcm:grownCap W (n+k) n E<=maxLen:=grownCap_le_maxLen W (n+k) n E h63;refine⟨_,_,hr,⟨hlen, .inr ⟨W.heap.size,_,_,rfl,z1x _,heap_alloc_new W.drew _,hge,hcm,?_,?_⟩⟩,⟨⟨rfl,rfl,rfl,by simp,λj hj _=>Go.RowKit.Below.heap_alloc W.drew _ j hj⟩,z1q _⟩,λb hb=> ?_⟩
 ·simp only[z2x,z3a,size_zeroCells,hzs,hlo,hl,<- z1a]
  congr 1
  omega
 ·simp only[z2r,z1u];rw[<- z1u,<- hlen];exact List.take_left
 ·simp only[z08,z00] at hb;omega
theorem Wj{t:TypeId}{E:TypeId}{w by':Nat}{s x:Operand}{s' x':aV}{K:SV->List ay->Prop}
  (ho:o.op= .call {callee:= .builtin .append,args:= #[s,x],argTypes:= #[t,t]}) (ht:vM P t=some (E,w,by')) (hs':aP s=some s') (hx':aP x=some x')
  (h:Ql m E w by' (s'.ev σ) (x'.ev σ) K):∃ sv m',K sv m'/\iW P o σ m sv m':=by
 obtain⟨hu,i,z,hi,hz,hsz,hby,hzs,hw0,hb0⟩:=Ac ht;have hrun:∀ (a:Act) W,(execOp a.eval o).run P W=((Builtin.append_ #[t,t] o.type #[a.eval s,a.eval x]).run P W).andThen λv w=> .ok (.value v) w:=by intro a W;simp[execOp,ho,resolve,invoke,builtin]
 have h63:∀ n:Nat,n*by'<=140737488355328->n<=maxLen:=by
  intro n hn;have:n<=n*by':=z2k _ hb0
  unfold maxLen;omega
 have Wu:∀ {J:Env} {v':Value} {n:Nat} {ys:List Value} {W':World},J.n=m.length->W'.ownsRow 0 E w v' n ys->bK (J.more 0 v') (.vec m.length n) v':=by
  intro J v' n ys W' hn g1;refine⟨[v'],?_,rfl⟩;simp only[ah];have hvv:(J.more 0 v').vv m.length=v':=by simp[Env.more,hn]
  refine⟨by simp[Env.more,hn],?_,by rw[hvv]⟩
  rw[hvv];rcases g1.2 with⟨q1,q2⟩|⟨g,cap,cur,q,_,_,q4,_⟩
  ·exact .inl ⟨q1,q2⟩
  ·exact .inr ⟨g,cap,q,q4⟩
 unfold Ql at h;split at h
 ·exact h.elim
 ·rename_i l2 hl2;split at h
  ·rename_i es;refine⟨_,_,h.2,λβ J a W hI hs=> ?_⟩;obtain⟨ao,c,news,e1,e2,e3,e4,e5,e7⟩:=vK hl2 hI.good (aB hx' hs);have e6:=lY (es▸aB hs' hs);obtain⟨v',W',hr,g1,g2,g3⟩:=BM (P:=P) (ty:=o.type) (W:=W) hu hi hz hsz hby hzs hw0 (z0q W 0 E w) e2.1 (λhn=>by obtain⟨q1,q2⟩:=e3 hn;rw[q1];exact⟨rfl,q2⟩) e4 e5 (by rw[z03];exact h63 _ h.1) (by rw[z03];exact h.1)
   rw[z03,z1h] at g1;have g2':W.grownBy W' none:=g2.1;have hr':(execOp a.eval o).run P W= .ok (.value v') W':=by rw[hrun,e6,e1,hr,Result.andThen_ok]
   have hev:=Conc.events_append_op (P:=P) (a:=a) (w:=W) s x t ho e6 e1 #[];have hE':JZ J m W W' ((execOp a.eval o).events P W #[]):=by rw[hev];exact Ji (P:=P) hu hi hz hsz hby (z0q W 0 E w) e2.1 (λhn=>by obtain⟨q1,q2⟩:=e3 hn;rw[q1];exact⟨rfl,q2⟩) e4 e5 (by rw[z03];exact h63 _ h.1) (by rw[z03];exact h.1) (λa ha hp=>(e7 a ha (abn hp)).imp .inl id) (λb hb=>by simp[z08] at hb)
   refine⟨v',W',J.more 0 v', .inl hr',Wu hI.good.n g1,J.dS _ _,hI.more g2' g2.2 ?_ ?_,hE'⟩
   ·have hvv:(J.more 0 v').vv m.length=v':=by simp[Env.more,hI.good.n]
    exact⟨news,by rw[hvv];exact .of g1,λj hj=>(e2.2 j hj).mono _ (J.dS _ _)⟩
   ·intro b hb;simp[aS,Env.more,hI.good.n] at hb;rcases g3 with g3|g3
    ·rw[g3] at hb;simp[z08] at hb
    ·exact g3 b hb
  ·rename_i i' n' es;split at h<;>try (exact h.elim)
   rename_i E' w' l hm;obtain⟨⟨⟨rfl,aj9⟩,rfl,hb⟩,hK⟩:=h;refine⟨_,_,hK,λβ J a W hI hs=> ?_⟩;obtain⟨ao,c,news,e1,e2,e3,e4,e5,e7⟩:=vK hl2 hI.good (aB hx' hs);obtain⟨hi',_,e6⟩:=kF (es▸aB hs' hs);obtain⟨xs,hown,hel⟩:fH J i' W (.vec E' w' l):=hm▸hI.good.res i';replace hown:=hown.get aj9;obtain⟨v',W',hr,g1,g2,g3⟩:=BM (P:=P) (ty:=o.type) (W:=W) hu hi hz hsz hby hzs hw0 hown e2.1 (λhn=>by obtain⟨q1,q2⟩:=e3 hn;rw[q1];exact⟨rfl,q2⟩) e4 e5 (h63 _ hb) hb
   have hE:vJ J w' (l++l2) (xs++news):=vJ.append ⟨hown.1,hel⟩ e2;have hoi:aS J i' (ak m i')=(J.vv i').ownBlock:=by rw[hm];rfl
   have hd:=hI.drop (i:=i') (by rw[hm];rfl)
   have hil:i'<m.length:=by rw[<- hI.good.n];exact hi'
   have hat:∀ j,ak (m.set i' .dead) j=if j=i' then .dead else ak m j:=by
    intro j;unfold ak;rw[z05,z19];by_cases hj:i'=j
    ·subst hj;simp[hil]
    ·rw[if_neg hj,if_neg (λe=>hj e.symm)];rfl
   have hlen:(m.set i' .dead).length=m.length:=by simp
   have hmore:=hd.more2 (b:=0) (v:=v') (r:= .vec E' w' (l++l2)) g2.1 g2.2 (λx hx=>by
    have hx':aS J i' (ak m i')=some x:=by rw[hoi];exact hx
    refine⟨λj hj=> ?_,hI.good.sep i' x hx',dw hI.good hx',hI.own i' x hx'⟩;rw[hat] at hj;by_cases hji:j=i'
    ·rw[if_pos hji] at hj;cases hj
    ·rw[if_neg hji] at hj;exact hI.good.jY j i' x hji hj hx')
    (by
     have hvv:(J.more 0 v').vv (m.set i' .dead).length=v':=by rw[hlen];simp[Env.more,hI.good.n]
     exact⟨xs++news,by rw[hvv,z0m];exact .of g1,λj hj=>(hE.2 j hj).mono _ (J.dS _ _)⟩)
    (λx hx=>by
     have hvv:(J.more 0 v').vv (m.set i' .dead).length=v':=by rw[hlen];simp[Env.more,hI.good.n]
     simp only[aS,hvv] at hx;rcases g3 with g3|g3
     ·right;rw[<- g3];exact hx
     ·left;exact g3 x hx)
   have hr':(execOp a.eval o).run P W= .ok (.value v') W':=by rw[hrun,e6,e1,hr,Result.andThen_ok]
   have hev:=Conc.events_append_op (P:=P) (a:=a) (w:=W) s x t ho e6 e1 #[];have hE':JZ J m W W' ((execOp a.eval o).events P W #[]):=by rw[hev];exact Ji (P:=P) hu hi hz hsz hby hown e2.1 (λhn=>by obtain⟨q1,q2⟩:=e3 hn;rw[q1];exact⟨rfl,q2⟩) e4 e5 (h63 _ hb) hb (λa ha hp=>(e7 a ha (abn hp)).imp .inl id) (λb hb=> .inl ⟨i',by rw[hm];exact hb⟩)
   exact⟨v',W',J.more 0 v', .inl hr',Wu hI.good.n g1,J.dS _ _,hmore,hE'⟩
  ·rename_i τ w' d f l es;split at h
   ·rename_i hem;obtain⟨rfl,hK⟩:=h;refine⟨_,_,hK,λβ J a W hI hs=> ?_⟩;have hl0:l2=[]:=by simpa using hem
    subst hl0;obtain⟨ao,c,news,e1,e2,e3,e4,e5,e7⟩:=vK hl2 hI.good (aB hx' hs);have hsv:=es▸aB hs' hs;obtain⟨q1,ao2,q2,q3⟩:=Fp hsv;have hr:(Builtin.append_ #[t,t] o.type #[.slice ao2 l.length l.length, .slice ao 0 c]).run P W= .ok (.slice ao2 l.length l.length) W:=by
     have hn:news=[]:=z07 (by have:=e2.1;simpa using this)
     cases ao with
     |none=>
      simp[Builtin.append_,run_underlying hu,sizeOf,typeInfo,hi,Builtin.lenOf,Builtin.firstCells,loadCells,storeCells];cases ao2<;>simp[]
     |some a=>
      simp[Builtin.append_,run_underlying hu,sizeOf,typeInfo,hi,Builtin.lenOf,Builtin.firstCells,loadCells,loadCellsFrom,storeCells];cases ao2<;>simp[]
    have e1':a.eval x= .slice ao 0 c:=e1;have hr':(execOp a.eval o).run P W= .ok (.value (.slice ao2 l.length l.length)) W:=by rw[hrun,q2,e1',hr,Result.andThen_ok]
    refine⟨_,W,J, .inl hr',q2▸hsv,Env.Le.refl J,hI, .nil ?_⟩;rw[Conc.events_append_op (P:=P) (a:=a) (w:=W) s x t ho q2 e1' #[]];cases ao<;>cases ao2<;>simp[Builtin.append_,run_underlying hu,sizeOf,typeInfo,hi,Builtin.lenOf,Builtin.firstCells,loadCells,loadCellsFrom,storeCells]
   ·rename_i hem;obtain⟨⟨rfl,hb⟩,hK⟩:=h;refine⟨_,_,hK,λβ J a W hI hs=> ?_⟩;obtain⟨ao,c,news,e1,e2,e3,e4,e5,e7⟩:=vK hl2 hI.good (aB hx' hs);have hsv:=es▸aB hs' hs;obtain⟨q1,ao2,q2,q3⟩:=Fp hsv;obtain⟨ao3,c3,olds,p1,p2,p3,p4,p5,p7⟩:=vK (m:=m) (w:=w') (l2:=l.map f) (by simp[FY]) hI.good q1
    rw[q2] at p1;simp only[z2u,z1y] at p1;obtain⟨rfl,_,rfl⟩:=p1;have hpos:0<l2.length:=by
     cases l2 with
     |nil=>exact absurd rfl hem
     |cons=>simp
    have hE:vJ J w' (l.map f++l2) (olds++news):=vJ.append p2 e2;have key:∃ v' W',(Builtin.append_ #[t,t] o.type #[.slice ao2 l.length l.length, .slice ao l2.length c]).run P W= .ok v' W'/\W'.ownsRow 0 E w' v' (l.length+l2.length) (olds++news)/\(W.grownBy W' none/\W.drawn<=W'.drawn)/\∀ b,v'.ownBlock=some b->W.heap.size<=b:=by
     cases ao with
     |none=>obtain⟨h1,_⟩:=e3 rfl;rw[h1] at hpos;simp at hpos
     |some ad=>
      cases ao2 with
      |some bd=>exact OA (P:=P) hu hi hz hsz hby hzs hw0 (by have:=p2.1;simpa using this) (λj u hu=>p4 bd rfl j u hu) e2.1 hpos (λj u hu=>e4 ad rfl j u hu) (h63 _ hb) hb
      |none=>
       have hl0:l.length=0:=q3 rfl;have hol:olds=[]:=z07 (by have:=p2.1;simp[hl0] at this;simpa using this)
       obtain⟨v',W',hr,g1,g2,g3⟩:=BM (P:=P) (ty:=o.type) (W:=W) hu hi hz hsz hby hzs hw0 (z0q W 0 E w') e2.1 (λhn=>by cases hn) e4 e5 (by have:=h63 _ hb;omega) (by rw[hl0] at hb;exact hb)
       rw[hl0,hol];refine⟨v',W',hr,g1,g2,λb hb=> ?_⟩;rcases g3 with g3|g3
       ·rw[g3] at hb;simp[z08] at hb
       ·exact g3 b hb
    obtain⟨v',W',hr,g1,g2,g3⟩:=key;have hr':(execOp a.eval o).run P W= .ok (.value v') W':=by rw[hrun,q2,e1,hr,Result.andThen_ok]
    have hE':JZ J m W W' ((execOp a.eval o).events P W #[]):=by
     rw[Conc.events_append_op (P:=P) (a:=a) (w:=W) s x t ho q2 e1 #[]];cases ao with
     |none=>obtain⟨h1,_⟩:=e3 rfl;rw[h1] at hpos;simp at hpos
     |some ad=>
      cases ao2 with
      |some bd=>exact SE (P:=P) hu hi hz hsz hby (by have:=p2.1;simpa using this) (λj u hu=>p4 bd rfl j u hu) e2.1 hpos (λj u hu=>e4 ad rfl j u hu) (h63 _ hb) hb (λhp=>(p7 bd rfl (by simpa using abn hp)).imp .inl id) (λhp=>(e7 ad rfl hpos).imp .inl id)
      |none=>
       have hl0:l.length=0:=q3 rfl;rw[hl0];rw[hl0] at hb;exact Ji (P:=P) hu hi hz hsz hby (z0q W 0 E w') e2.1 (λhn=>by cases hn) e4 e5 (h63 _ hb) hb (λa ha hp=>(e7 a ha (abn hp)).imp .inl id) (λb hb=>by simp[z08] at hb)
    refine⟨v',W',J.more 0 v', .inl hr',Wu hI.good.n g1,J.dS _ _,hI.more g2.1 g2.2 ?_ ?_,hE'⟩
    ·have hvv:(J.more 0 v').vv m.length=v':=by simp[Env.more,hI.good.n]
     exact⟨olds++news,by rw[hvv,z0m,z1y];exact .of g1,λj hj=>(hE.2 j hj).mono _ (J.dS _ _)⟩
    ·intro b hb;simp[aS,Env.more,hI.good.n] at hb;exact g3 b hb
  ·exact h.elim
end
end Go.Sx
namespace Go.Sx
open Go
variable {P:Program}
mutual
theorem DK:∀ (e:ES) {x y:SV} {J J':Env} {cs cs':List Value},fA e x->fA e y->ah x J cs->ah y J' cs'->nG e x y=true->cs=cs'
 | .int k,x,y,J,J',cs,cs',hx,hy,sx,sy,h=>by
  obtain⟨a,rfl⟩:∃ a,x= .int k a:=by cases x<;>simp_all [fA]
  obtain⟨b,rfl⟩:∃ b,y= .int k b:=by cases y<;>simp_all [fA]
  simp only[ah] at sx sy;simp only[nG,decide_eq_true_eq] at h;subst sx;subst sy;subst h;rfl
 | .bool,x,y,J,J',cs,cs',hx,hy,sx,sy,h=>by
  obtain⟨a,rfl⟩:∃ a,x= .bool a:=by cases x<;>simp_all [fA]
  obtain⟨b,rfl⟩:∃ b,y= .bool b:=by cases y<;>simp_all [fA]
  simp only[ah] at sx sy;simp only[nG,beq_iff_eq] at h;subst sx;subst sy;subst h;rfl
 | .str,x,y,J,J',cs,cs',hx,hy,sx,sy,h=>by
  obtain⟨a,rfl⟩:∃ a,x= .str a:=by cases x<;>simp_all [fA]
  obtain⟨b,rfl⟩:∃ b,y= .str b:=by cases y<;>simp_all [fA]
  simp only[ah] at sx sy;simp only[nG,decide_eq_true_eq] at h;subst sx;subst sy;subst h;rfl
 | .st l,x,y,J,J',cs,cs',hx,hy,sx,sy,h=>by
  cases x<;>simp only[fA] at hx;cases y<;>simp only[fA] at hy;simp only[ah] at sx sy;simp only[nG] at h;exact Jj l hx hy sx sy h
 | .arr n w e,x,y,J,J',cs,cs',hx,hy,sx,sy,h=>by
  cases x<;>simp only[fA] at hx;cases y<;>simp only[fA] at hy;rename_i n1 w1 f n2 w2 g;obtain⟨e1,e2,hx⟩:=hx;obtain⟨e3,e4,hy⟩:=hy;subst e1;subst e2;subst e3;subst e4;simp only[ah] at sx sy;simp only[nG,z1b,List.mem_range] at h;have hp:∀ i,i<n2->sub cs (i*w2) w2=sub cs' (i*w2) w2:=λi hi=>DK e (hx i hi) (hy i hi) (sx.2 i hi) (sy.2 i hi) (h i hi);rcases z1r w2 with rfl|hw
  ·have c1:cs=[]:=z07 (by simpa using sx.1)
   have c2:cs'=[]:=z07 (by simpa using sy.1)
   rw[c1,c2]
  ·apply z0g;intro k;rcases z1f k (n2*w2) with hk|hk
   ·have hd:k/w2<n2:=Nat.div_lt_of_lt_mul (by rw[Nat.mul_comm];exact hk)
    have hm:k%w2<w2:=Nat.mod_lt _ hw;have:=congrArg (λl=>l[k%w2]?) (hp (k/w2) hd);simp only[iM,if_pos hm] at this
    rwa [Nat.mul_comm,Nat.div_add_mod] at this
   ·rw[z0r (by rw[sx.1];exact hk),z0r (by rw[sy.1];exact hk)]
theorem Jj:∀ (l:List ES) {xs ys:List SV} {J J':Env} {cs cs':List Value},jw l xs->jw l ys->bV xs J cs->bV ys J' cs'->EN l xs ys=true->cs=cs'
 |[],xs,ys,J,J',cs,cs',hx,hy,sx,sy,h=>by
  cases xs<;>simp only[jw] at hx;cases ys<;>simp only[jw] at hy;simp only[bV] at sx sy;rw[sx,sy]
 |e::l,xs,ys,J,J',cs,cs',hx,hy,sx,sy,h=>by
  cases xs with
  |nil=>simp only[jw] at hx
  |cons x xs=>
   cases ys with
   |nil=>simp only[jw] at hy
   |cons y ys=>
    simp only[jw] at hx hy;simp only[bV] at sx sy;obtain⟨a,b,rfl,s1,s2⟩:=sx;obtain⟨a',b',rfl,s1',s2'⟩:=sy;simp only[EN,z06] at h;rw[DK e hx.1 hy.1 s1 s1' h.1,Jj l hx.2 hy.2 s2 s2' h.2]
end
def Ad:Value->Prop
 | .bool _| .int _ _| .string _=>True
 |_=>False
mutual
theorem BN:∀ (e:ES) {x:SV} {J:Env} {cs:List Value},fA e x->ah x J cs->∀ v∈cs,Ad v
 | .int k,x,J,cs,hx,sx,v,hv=>by
  obtain⟨a,rfl⟩:∃ a,x= .int k a:=by cases x<;>simp_all [fA]
  simp only[ah] at sx;subst sx;rw[z0v.1 hv];trivial
 | .bool,x,J,cs,hx,sx,v,hv=>by
  obtain⟨a,rfl⟩:∃ a,x= .bool a:=by cases x<;>simp_all [fA]
  simp only[ah] at sx;subst sx;rw[z0v.1 hv];trivial
 | .str,x,J,cs,hx,sx,v,hv=>by
  obtain⟨a,rfl⟩:∃ a,x= .str a:=by cases x<;>simp_all [fA]
  simp only[ah] at sx;subst sx;rw[z0v.1 hv];trivial
 | .st l,x,J,cs,hx,sx,v,hv=>by
  cases x<;>simp only[fA] at hx;simp only[ah] at sx;exact Lj l hx sx v hv
 | .arr n w e,x,J,cs,hx,sx,v,hv=>by cases x<;>simp only[fA] at hx;obtain⟨rfl,rfl,hx⟩:=hx;simp only[ah] at sx;obtain⟨i,hi,hm⟩:=vw sx.1 hv;exact BN e (hx i hi) (sx.2 i hi) v hm
theorem Lj:∀ (l:List ES) {xs:List SV} {J:Env} {cs:List Value},jw l xs->bV xs J cs->∀ v∈cs,Ad v
 |[],xs,J,cs,hx,sx,v,hv=>by
  cases xs<;>simp only[jw] at hx;simp only[bV] at sx;subst sx;cases hv
 |e::l,xs,J,cs,hx,sx,v,hv=>by
  cases xs with
  |nil=>simp only[jw] at hx
  |cons x xs=>
   simp only[jw] at hx;simp only[bV] at sx;obtain⟨a,b,rfl,s1,s2⟩:=sx;rcases z04.1 hv with h|h
   ·exact BN e hx.1 s1 v h
   ·exact Lj l hx.2 s2 v h
end
theorem Jk{v:Value}(h:Ad v)(n:Nat):Instr.sameBits n v v=true:=by cases v<;>simp only[Ad] at h<;>simp[Instr.sameBits,MapKept.bytes_beq]
theorem aj'{e:ES}{x:SV}{J:Env}{cs:List Value}(hx:fA e x)(sx:ah x J cs):Instr.sameBits 10000 (boxed x.isAgg cs) (boxed x.isAgg cs)=true:=by
 have hp:=BN e hx sx;cases hag:x.isAgg with
 |true=>
  show Instr.sameBits (9999+1) (.agg cs.toArray) (.agg cs.toArray)=true;simp only[Instr.sameBits,beq_self_eq_true,Bool.true_and,z1b];intro p hp';obtain⟨i,hi,e1⟩:=List.getElem_of_mem hp';simp only[List.getElem_zip] at e1;subst e1;exact Jk (hp _ (List.getElem_mem _)) _
 |false=>
  have h1:=ah.length _ sx;rw[yK hag] at h1
  match cs,h1 with
  |[v],_=>exact Jk (hp v (by simp)) _
theorem afK{e:ES}{x:SV}{J:Env}{cs:List Value}(hx:fA e x)(sx:ah x J cs):Instr.keyThatStays (boxed x.isAgg cs) (boxed x.isAgg cs)=pure (boxed x.isAgg cs):=by unfold Instr.keyThatStays;rw[if_pos (aj' hx sx)]
theorem zA{t':TypeId}{e:ES}{w':Nat}(ht:rP P t'=some (w',gG e)){d:Nat}{cs:List Value}{n:Nat}(h1:cs.length=n*w')(w:World)(em:Bool)
  (h0:gG e=false->w'=1) (ih:∀ i,i<n->(Instr.checkKey em d t' (boxed (gG e) (sub cs (i*w') w'))).run P w= .ok () w):
  ∀ is:List Nat,(∀ i∈is,i<n)->(forIn (m:=Sem) is PUnit.unit (λi _=>do Instr.checkKey em d t' (<- part t' cs.toArray (i*(<- sizeOf t')));pure (ForInStep.yield PUnit.unit))).run P w= .ok PUnit.unit w
 |[],_=>by simp
 |i::is,hi=>by
  have hl:=hi i (by simp)
  have hle:=bF (w:=w') hl;have r:=zA ht h1 w em h0 ih is (λj hj=>hi j (by simp[hj]))
  simp only[z3g,z0b,run_sizeOf ht,Result.andThen_ok,mM ht w cs (i*w') (by omega) h0,ih i hl,z0i]
  exact r
mutual
theorem su:∀ (e:ES) {t:TypeId} {d:Nat} {x:SV} {J:Env} {cs:List Value} (w:World) (em:Bool),FD P t e=true->dE e<=d->fA e x->ah x J cs->
  (Instr.checkKey em d t (boxed (gG e) cs)).run P w= .ok () w
 | .int k,t,d,x,J,cs,w,em,hb,hd,hx,sx=>by
  obtain⟨a,rfl⟩:∃ a,x= .int k a:=by cases x<;>simp_all [fA]
  simp only[ah] at sx;subst sx;simp only[FD] at hb;split at hb<;>try (cases hb;done)
  rename_i hu;obtain⟨d,rfl⟩:∃ d',d=d'+1:=⟨d - 1,by simp only[dE] at hd;omega⟩
  simp[boxed,gG,Instr.checkKey,run_underlying hu]
 | .bool,t,d,x,J,cs,w,em,hb,hd,hx,sx=>by
  obtain⟨a,rfl⟩:∃ a,x= .bool a:=by cases x<;>simp_all [fA]
  simp only[ah] at sx;subst sx;simp only[FD] at hb;split at hb<;>try (cases hb;done)
  rename_i hu;obtain⟨d,rfl⟩:∃ d',d=d'+1:=⟨d - 1,by simp only[dE] at hd;omega⟩
  simp[boxed,gG,Instr.checkKey,run_underlying hu]
 | .str,t,d,x,J,cs,w,em,hb,hd,hx,sx=>by
  obtain⟨a,rfl⟩:∃ a,x= .str a:=by cases x<;>simp_all [fA]
  simp only[ah] at sx;subst sx;simp only[FD] at hb;split at hb<;>try (cases hb;done)
  rename_i hu;obtain⟨d,rfl⟩:∃ d',d=d'+1:=⟨d - 1,by simp only[dE] at hd;omega⟩
  simp[boxed,gG,Instr.checkKey,run_underlying hu]
 | .st l,t,d,x,J,cs,w,em,hb,hd,hx,sx=>by
  cases x<;>simp only[fA] at hx;simp only[ah] at sx;simp only[FD] at hb;split at hb<;>try (cases hb;done)
  rename_i fs hu;simp only[z06,z0x] at hb;simp only[dE] at hd;obtain⟨d,rfl⟩:∃ d',d=d'+1:=⟨d - 1,by omega⟩
  simp only[boxed,gG,if_true,Instr.checkKey,z0b,run_underlying hu,Result.andThen_ok];rw[<- z2t];have:=xX l w em (d:=d) (fs:=fs.toList) (off:=0) (pre:=[]) hb.1 (by omega) hx sx rfl
  rw[z1h] at this;simp only[this,Result.andThen_ok,z0i]
 | .arr n w' e,t,d,x,J,cs,w,em,hb,hd,hx,sx=>by
  cases x<;>simp only[fA] at hx;obtain⟨rfl,rfl,hx⟩:=hx;simp only[ah] at sx;simp only[FD] at hb;split at hb<;>try (cases hb;done)
  rename_i n' t' hu;simp only[z06,decide_eq_true_eq] at hb;obtain⟨⟨⟨⟨rfl,h2⟩,h3⟩,h4⟩,h5⟩:=hb;simp only[dE] at hd;obtain⟨d,rfl⟩:∃ d',d=d'+1:=⟨d - 1,by omega⟩
  simp only[boxed,gG,if_true,Instr.checkKey,z0b,run_underlying hu,Result.andThen_ok];simp only[Std.Legacy.Range.forIn_eq_forIn_range',Std.Legacy.Range.size,Nat.sub_zero,Nat.add_one_sub_one,Nat.div_one];have:=zA (P:=P) h3 sx.1 w em (λh=>by rw[<- h4];exact DN h) (λj hj=>su (d:=d) e w em h5 (by omega) (hx j hj) (sx.2 j hj)) (List.range' 0 n') (λj hj=>by simpa[List.mem_range'] using hj)
  simp only[this,Result.andThen_ok,z0i]
theorem xX:∀ (l:List ES) {xs:List SV} {J:Env} {cs pre:List Value} (w:World) (em:Bool) {d:Nat} {fs:List Field} {off:Nat},J5 P fs off l=true->dEL l<=d->jw l xs->bV xs J cs->pre.length=off->
  (forIn (m:=Sem) fs PUnit.unit (λf _=>do
   if f.name≠ "_" then do
    Instr.checkKey em d f.type (<- part f.type (pre++cs).toArray f.offset)
    pure (ForInStep.yield PUnit.unit)
   else pure (ForInStep.yield PUnit.unit))).run P w= .ok PUnit.unit w
 |[],xs,J,cs,pre,w,em,d,fs,off,hb,hd,hx,sx,hp=>by
  cases fs with
  |nil=>simp
  |cons=>simp[J5] at hb
 |e::l,xs,J,cs,pre,w,em,d,fs,off,hb,hd,hx,sx,hp=>by
  cases fs with
  |nil=>simp[J5] at hb
  |cons f fs=>
   cases xs with
   |nil=>simp only[jw] at hx
   |cons x xs=>
    simp only[jw] at hx;simp only[bV] at sx;obtain⟨a,b,rfl,s1,s2⟩:=sx;simp only[J5,z06,decide_eq_true_eq] at hb;obtain⟨⟨⟨⟨b1,b2⟩,b3⟩,b4⟩,b5⟩:=hb;simp only[dEL] at hd;have l1:a.length=wE e:=by rw[ah.length _ s1,Jl hx.1]
    have q:sub (pre++(a++b)) off (wE e)=a:=by simp only[sub];rw[List.drop_append_of_le_length (by omega),List.drop_of_length_le (by omega),z1h,List.take_append_of_le_length (by omega),List.take_of_length_le (by omega)]
    have r:=xX l (pre:=pre++a) w em (d:=d) (fs:=fs) b5 (by omega) hx.2 s2 (by simp;omega)
    have k:=su e w em b4 (d:=d) (by omega) hx.1 s1
    have p1:=mM b3 w (pre++(a++b)) off (by simp;omega) (λh=>DN h)
    rw[q] at p1;rw[z1u] at r;simp only[z3g,b1,ne_eq,not_false_eq_true,if_true,z0b,b2,p1,Result.andThen_ok,k,z0i];exact r
end
def jV(e:ES)(k:SV):List (SV×SV)->Option Nat
 |[]=>none
 |p::r=>if nG e k p.1 then some 0 else(jV e k r).map (· +1)
theorem ru{e:ES}{k:SV}:∀ (l:List (SV×SV)),gQ e k l=(jV e k l).bind λj=>(l[j]?).map (·.2)
 |[]=>rfl
 |p::r=>by
  simp only[gQ,jV];split
  ·rfl
  ·rw[ru r];cases jV e k r<;>rfl
theorem DU{e:ES}{k v:SV}:∀ (l:List (SV×SV)),zi e k v l=match jV e k l with
  |some j=>l.set j (k,v)
  |none=>l++[(k,v)]
 |[]=>rfl
 |p::r=>by
  simp only[zi,jV];split
  ·rfl
  ·rw[DU r];cases jV e k r<;>rfl
theorem Jm{e:ES}{k:SV}:∀ (l:List (SV×SV)) {j:Nat},jV e k l=some j->∃ p,l[j]? =some p/\nG e k p.1=true
 |[],j,h=>by cases h
 |p::r,j,h=>by
  simp only[jV] at h;split at h
  ·rename_i hk;cases h;exact⟨p,rfl,hk⟩
  ·simp only[z02] at h;obtain⟨i,hi,rfl⟩:=h;obtain⟨q,h1,h2⟩:=Jm r hi;exact⟨q,by simpa using h1,h2⟩
theorem iQ.at{ek ev:ES}:∀ {l:List (SV×SV)} {es:List MapEntry},iQ ek ev l es->∀ {j:Nat} {p:SV×SV},l[j]? =some p->∃ e,es[j]? =some e/\SG ek ev p e
 |[],[],_,j,p,h=>by simp at h
 |q::l,e::es,h,j,p,hp=>by
  cases j with
  |zero=>
   simp only[z0f,z00] at hp;subst hp;exact⟨e,rfl,h.1⟩
  |succ j=>simpa using iQ.at h.2 (by simpa using hp)
 |[],_::_,h,_,_,_=>h.elim
 |_::_,[],h,_,_,_=>h.elim
theorem iQ.push{ek ev:ES}{p:SV×SV}{e:MapEntry}(hp:SG ek ev p e):∀ {l:List (SV×SV)} {es:List MapEntry},iQ ek ev l es->iQ ek ev (l++[p]) (es++[e])
 |[],[],_=>⟨hp,trivial⟩
 |q::l,e'::es,h=>⟨h.1,iQ.push hp h.2⟩
 |[],_::_,h=>h.elim
 |_::_,[],h=>h.elim
theorem iQ.set{ek ev:ES}{p:SV×SV}{e:MapEntry}(hp:SG ek ev p e):∀ {l:List (SV×SV)} {es:List MapEntry} (j:Nat),iQ ek ev l es->iQ ek ev (l.set j p) (es.set j e)
 |[],[],_,_=>trivial
 |q::l,e'::es,0,h=>⟨hp,h.2⟩
 |q::l,e'::es,j+1,h=>⟨h.1,iQ.set hp j h.2⟩
 |[],_::_,_,h=>h.elim
 |_::_,[],_,h=>h.elim
def afL(e:ES)(d:TypeDesc):Prop:=match e with
  | .int k=>d= .int k
  | .bool=>d= .bool
  | .str=>d= .string
  | .st _=> ∃ fs,d= .struct fs
  | .arr .. => ∃ n t',d= .array n t'
theorem akb{t:TypeId}{e:ES}(h:FD P t e=true):∃ d,P.underlying t=some d/\afL e d:=by
 cases e<;>simp only[FD] at h<;>split at h<;>try (cases h;done)
 ·rename_i hu;simp only[decide_eq_true_eq] at h;exact⟨_,hu,by subst h;rfl⟩
 ·rename_i hu;exact⟨_,hu,rfl⟩
 ·rename_i hu;exact⟨_,hu,rfl⟩
 ·rename_i hu;exact⟨_,hu,_,rfl⟩
 ·rename_i hu;exact⟨_,hu,_,_,rfl⟩
theorem afM{e:ES}{d:TypeDesc}(hd:afL e d)(hag:gG e=false){x y:SV}{J J':Env}{cs cs':List Value}(hx:fA e x)(hy:fA e y)(sx:ah x J cs)(sy:ah y J' cs'):
  Instr.sameNow d (boxed false cs) (boxed false cs')=some (nG e x y):=by
 cases e with
 |int k=>
  obtain⟨a,rfl⟩:∃ a,x= .int k a:=by cases x<;>simp_all [fA]
  obtain⟨b,rfl⟩:∃ b,y= .int k b:=by cases y<;>simp_all [fA]
  simp only[ah] at sx sy;subst sx;subst sy;subst hd;simp only[boxed,Instr.sameNow,z1z,z0j,if_false,if_true,nG]
  congr 1
 |bool=>
  obtain⟨a,rfl⟩:∃ a,x= .bool a:=by cases x<;>simp_all [fA]
  obtain⟨b,rfl⟩:∃ b,y= .bool b:=by cases y<;>simp_all [fA]
  simp only[ah] at sx sy;subst sx;subst sy;subst hd;rfl
 |str=>
  obtain⟨a,rfl⟩:∃ a,x= .str a:=by cases x<;>simp_all [fA]
  obtain⟨b,rfl⟩:∃ b,y= .str b:=by cases y<;>simp_all [fA]
  simp only[ah] at sx sy;subst sx;subst sy;subst hd;have hq:((⟨a.toArray⟩:ByteArray)==⟨b.toArray⟩)=decide (a=b):=by
   have k:∀ x y:ByteArray,(x==y)=(x.data==y.data):=λx y=>by cases x;cases y;rfl
   rw[k];by_cases hab:a=b
   ·subst hab;simp
   ·simp[hab]
  simp only[boxed,Instr.sameNow,z1z,z0j,if_false,nG,hq]
 |st l=>simp[gG] at hag
 |arr n w e=>simp[gG] at hag
theorem Jo{e:ES}{d:TypeDesc}(hd:afL e d)(hag:gG e=false){ev:ES}{x:SV}{J:Env}{cs:List Value}(hx:fA e x)(sx:ah x J cs):
  ∀ {l:List (SV×SV)} {es:List MapEntry} (i:Nat),iQ e ev l es->Instr.findNow d (boxed false cs) es i=some ((jV e x l).bind λj=>(es[j]?).map λm=>(i+j,m.val))
 |[],[],i,_=>rfl
 |p::l,m::es,i,h=>by
  obtain⟨h1,h2⟩:=h;obtain⟨cs',s1,s2⟩:=h1.kc;have hpa:p.1.isAgg=false:=by rw[nX h1.k];exact hag
  rw[hpa] at s2;have hn:=afM hd hag hx h1.k sx s1;rw[<- s2] at hn;simp only[Instr.findNow,hn,jV];cases nG e x p.1
  ·simp only[z0j,if_false];rw[Jo hd hag hx sx (i+1) h2];cases jV e x l with
   |none=>rfl
   |some j=>simp[z2i,z2p 1 j]
  ·simp
 |[],_::_,_,h=>h.elim
 |_::_,[],_,h=>h.elim
theorem zB{t:TypeId}{e:ES}(hb:FD P t e=true)(hd:dE e<=10000){ev:ES}{x:SV}{J:Env}{cs:List Value}(hx:fA e x)(sx:ah x J cs)(w:World):
  ∀ {l:List (SV×SV)} {es:List MapEntry} (i:Nat),iQ e ev l es->(Instr.findAsking t (boxed (gG e) cs) es i).run P w= .ok ((jV e x l).bind λj=>(es[j]?).map λm=>(i+j,m.val)) w
 |[],[],i,_=>by simp[Instr.findAsking,jV]
 |p::l,m::es,i,h=>by
  obtain⟨h1,h2⟩:=h;obtain⟨cs',s1,s2⟩:=h1.kc;rw[nX h1.k] at s2;have hq:(Op.equal t (boxed (gG e) cs) m.key).run P w= .ok (nG e x p.1) w:=by rw[s2];exact rC e w hb hd hx h1.k sx s1
  simp only[Instr.findAsking,z0b,hq,Result.andThen_ok,jV];cases nG e x p.1
  ·simp only[z0j,if_false];rw[zB hb hd hx sx w (i+1) h2];cases jV e x l with
   |none=>rfl
   |some j=>simp[z2i,z2p 1 j]
  ·simp
 |[],_::_,_,h=>h.elim
 |_::_,[],_,h=>h.elim
theorem Jp{t:TypeId}{e:ES}(hb:FD P t e=true)(hd:dE e<=10000){ev:ES}{x:SV}{J:Env}{cs:List Value}(hx:fA e x)(sx:ah x J cs)(w:World){l:List (SV×SV)}{es:List MapEntry}(h:iQ e ev l es):
  (Instr.findKey t (boxed (gG e) cs) es).run P w= .ok ((jV e x l).bind λj=>(es[j]?).map λm=>(j,m.val)) w:=by
 obtain⟨d,hu,hdd⟩:=akb hb;cases hag:gG e with
 |false=>
  have:=Jo hdd hag hx sx 0 h;simp only[Instr.findKey,z0b,run_underlying hu,Result.andThen_ok,this,z0i,z03]
 |true=>
  have hask:=zB hb hd hx sx w 0 h;rw[hag] at hask;simp only[z03] at hask;cases es with
  |nil=>
   cases l with
   |nil=>simp[Instr.findKey,run_underlying hu,Instr.findNow,jV]
   |cons=>exact h.elim
  |cons m es=>
   have hs:Instr.sameNow d (boxed true cs) m.key=none:=by
    cases e<;>simp[gG] at hag
    ·obtain⟨fs,rfl⟩:=hdd;rfl
    ·obtain⟨n,t',rfl⟩:=hdd;rfl
   simp only[Instr.findKey,z0b,run_underlying hu,Result.andThen_ok,Instr.findNow,hs];exact hask
theorem Xm{ag:Bool}{cs:List Value}(h:∀ v∈cs,Ad v)(h1:ag=false->∃ v,cs=[v]):nJ (boxed ag cs):=by
 have k:∀ v,Ad v->ScV v:=λv hv=>by
  cases v<;>simp only[Ad] at hv
  ·exact .inr (.inl ⟨_,rfl⟩)
  ·exact .inl ⟨_,_,rfl⟩
  ·exact .inr (.inr ⟨_,rfl⟩)
 cases ag with
 |true=>exact .inr ⟨cs.toArray,rfl,λc hc=>k c (h c (by simpa using hc))⟩
 |false=>
  obtain⟨v,rfl⟩:=h1 rfl;exact .inl (k v (h v (by simp)))
theorem OB{e:ES}{x:SV}{J:Env}{cs:List Value}(hx:fA e x)(sx:ah x J cs):nJ (boxed x.isAgg cs):=
 Xm (BN e hx sx) λhag=>by
  have h1:=ah.length _ sx;rw[yK hag] at h1
  match cs,h1 with
  |[v],_=>exact⟨v,rfl⟩
theorem nC(em:Bool):∀ (d:Nat) (t:TypeId) (x:Value),nJ x->dX P (Instr.checkKey em d t x)
 |0,_,_,_=>λ_ _=>rfl
 |d+1,t,x,hx=>by
  unfold Instr.checkKey;refine aC (λw es=>events_underlying ..) λ_ u _ _=> ?_;have ih:=nC em d;rcases hx with(⟨k,n,rfl⟩|⟨b,rfl⟩|⟨s,rfl⟩)|⟨cs,rfl,hcs⟩
  all_goals
   cases u<;>(try simp only[])<;>try first
    |exact aO _
    |exact bY _
  ·rw[Std.Legacy.Range.forIn_eq_forIn_range'];refine aC (kL (λf r=> ?_) _ _) λ_ _ _ _=>aO _;exact aC (λw es=>events_sizeOf ..) λ_ _ _ _=>aC (iH _ _ _) λ_ v1 _ h1=>aC (ih _ _ (pG hcs h1)) λ_ _ _ _=>aO _
  ·rw[<- z2t];refine aC (kL (λf r=>jT ?_ (aO _)) _ _) λ_ _ _ _=>aO _;exact aC (iH _ _ _) λ_ v1 _ h1=>aC (ih _ _ (pG hcs h1)) λ_ _ _ _=>aO _
theorem sD{t:TypeId}{k:Value}(hk:nJ k):∀ (es:List MapEntry) (i:Nat),(∀ e∈es,nJ e.key)->dX P (Instr.findAsking t k es i)
 |[],i,_=>λ_ _=>rfl
 |e::es,i,h=>by unfold Instr.findAsking;exact aC (jv _ t _ _ hk (h e (by simp))) λ_ b _ _=>jT (aO _) (sD hk es (i+1) λe he=>h e (by simp[he]))
theorem xY{t:TypeId}{k:Value}(hk:nJ k){es:List MapEntry}(h:∀ e∈es,nJ e.key):dX P (Instr.findKey t k es):=by
 unfold Instr.findKey;refine aC (λw es=>events_underlying ..) λ_ u _ _=> ?_;split
 ·exact aO _
 ·exact sD hk es 0 h
theorem DV{ek ev:ES}:∀ {l:List (SV×SV)} {es:List MapEntry},iQ ek ev l es->∀ e∈es,nJ e.key
 |[],[],_=>λ_ h=>by cases h
 |p::l,e::es,h=>λe' he=>by
  rcases z0p.1 he with rfl|he
  ·obtain⟨cs,s1,s2⟩:=h.1.kc;rw[s2];exact OB h.1.k s1
  ·exact DV h.2 e' he
 |[],_::_,h=>h.elim
 |_::_,[],h=>h.elim
theorem yS{w:World}{r:Nat}{es:Array MapEntry}{clock:Nat}(hb:w.heap[r]? =some (.map es clock))(evs:Array Event):(getObj r).events P w evs=evs.push ⟨.obj r,false,false⟩:=by unfold Sem.events getObj;rw[Sem.runT,hb];rfl
theorem Ll{w:World}{r:Nat}{es es':Array MapEntry}{clock c':Nat}(hb:w.heap[r]? =some (.map es clock))(evs:Array Event):(setObj r (.map es' c')).events P w evs=evs.push ⟨.obj r,true,false⟩:=by unfold Sem.events setObj;rw[Sem.runT,hb];rfl
def zOK:ES->SV->Bool
 | .bool, .bool b=> !b
 | .int k, .int k' n=>decide (k'=k)&&decide (n=0)
 | .str, .str _=>true
 | .st [], .agg []=>true
 | .st [.str, .str], .agg [.str _, .str _]=>true
 | .arr 0 0 (.st []), .agg [.int .i64 _, .y5]=>true
 |_,_=>false
theorem aof{ev:ES}{z:SV}(h:zOK ev z=true):evP ev z/\vU ev z none=z:=by
 unfold zOK at h;split at h<;>try (cases h;done)
 ·simp only[z0x] at h;subst h;exact⟨trivial,rfl⟩
 ·simp only[z06,decide_eq_true_eq] at h;obtain⟨rfl,rfl⟩:=h;exact⟨rfl,rfl⟩
 ·exact⟨trivial,rfl⟩
 ·exact⟨trivial,rfl⟩
 ·exact⟨⟨trivial,trivial,trivial⟩,rfl⟩
 ·exact⟨trivial,rfl⟩
theorem Xn{ev:ES}{z v:SV}(h:evP ev v):vU ev z (some v)=v:=by
 cases ev<;>try rfl
 ·cases v<;>simp only[evP,fA] at h;subst h;rfl
 ·cases v<;>simp only[evP,fA] at h;rfl
def Xo:Value->Bool
 | .agg _=>true
 |_=>false
theorem SH(v:Value):v=boxed (Xo v) v.cells.toList:=by cases v<;>simp[boxed,Xo,Value.cells]
def zbx(P:Program)(t:TypeId)(z:SV):Bool:=match P.info? t with
 |some i=>match i.zero with
  |some v=>Xo v==z.isAgg
  |none=>false
 |none=>false
theorem Jq{t:TypeId}{z:SV}(h:Oz P t=some z)(hb:zbx P t z=true):∃ i v,P.info? t=some i/\i.zero=some v/\∀ J,∃ cs,ah z J cs/\v=boxed z.isAgg cs:=by obtain⟨i,v,h1,h2,h3⟩:=xW h;refine⟨i,v,h1,h2,λJ=>⟨_,h3 J,?_⟩⟩;simp only[zbx,h1,h2,beq_iff_eq] at hb;rw[<- hb];exact SH v
def Jr(P:Program)(T:TypeId):Option (ES×ES×SV):=match P.underlying T with
 |some (.map k e)=>match abp P 8 k,(abp P 8 e).or (some (.arr 0 0 (.st []))),Oz P e with
  |some ek,some ev,some z=>if FD P k ek&&decide (dE ek<=100)&&zOK ev z&&zbx P e z then some (ek,ev,z) else none
  |_,_,_=>none
 |_=>none
theorem Js{T:TypeId}{ek ev:ES}{z:SV}(h:Jr P T=some (ek,ev,z)):∃ k e,P.underlying T=some (.map k e)/\FD P k ek=true/\dE ek<=100/\zOK ev z=true/\Oz P e=some z/\zbx P e z=true:=by
 unfold Jr at h;split at h<;>try (cases h;done)
 rename_i k e hu;split at h<;>try (cases h;done)
 rename_i ek' ev' z' h1 h2 h3;split at h<;>try (cases h;done)
 rename_i hc;simp only[z06,decide_eq_true_eq] at hc;simp only[z00,z0e] at h;obtain⟨rfl,rfl,rfl⟩:=h;exact⟨k,e,hu,hc.1.1.1,hc.1.1.2,hc.1.2,h3,hc.2⟩
def vW(P:Program):Op->Option (MK×List aV)
 | .makeMap T r=>match Jr P T with
  |some (ek,ev,_)=>match r with
   |none=>some (.make ek ev,[])
   |some r=>(aP r).map λr=>(.make ek ev,[r])
  |none=>none
 | .mapUpdate T x k v=>FK P T x k v
 | .insert T x k v=>FK P T x k v
 | .lookup T x k ok=>match Jr P T with
  |some (ek,ev,z)=>match aP x,aP k with
   |some x,some k=>some (.get ek ev z ok,[x,k])
   |_,_=>none
  |none=>none
 | .call c=>YR P c
 |_=>none
where
 YR (P:Program) (c:Call):Option (MK×List aV):=match c.callee,c.args.toList,c.argTypes.toList with
 | .builtin .clear,[x],[t]=>match P.underlying t with
  |some (.slice e)=>match Oz P e with
   |some z=>if zbx P e z&& !z.isAgg then(aP x).map λx=>(.clr z,[x]) else none
   |none=>none
  |_=>none
 |_,_,_=>none
 FK (P:Program) (T:TypeId) (x k v:Operand):Option (MK×List aV):=match Jr P T with
 |some (ek,ev,_)=>match aP x,aP k,aP v with
  |some x,some k,some v=>some (.put ek ev,[x,k,v])
  |_,_,_=>none
 |none=>none
theorem YS{J:Env}{i:Nat}{v:Value}(h:bK J (.map i) v):i<J.n/\v= .map (some (J.blk i)):=by obtain⟨cs,h1,h2⟩:=h;simp only[ah] at h1;obtain⟨h1,h3⟩:=h1;subst h3;exact⟨h1,h2⟩
theorem OC{e:ES}{x:SV}(h:fA e x):x.isVal=true:=by cases e<;>cases x<;>simp only[fA] at h<;>rfl
mutual
theorem Jt:∀ (e:ES) {x:SV} {J:Env} {cs:List Value},fA e x->ah x J cs->ah x Env.nil cs
 | .int k,x,J,cs,hx,sx=>by cases x<;>simp only[fA] at hx;exact sx
 | .bool,x,J,cs,hx,sx=>by cases x<;>simp only[fA] at hx;exact sx
 | .str,x,J,cs,hx,sx=>by cases x<;>simp only[fA] at hx;exact sx
 | .st l,x,J,cs,hx,sx=>by
  cases x<;>simp only[fA] at hx;simp only[ah] at sx ⊢;exact YT l hx sx
 | .arr n w e,x,J,cs,hx,sx=>by cases x<;>simp only[fA] at hx;obtain⟨rfl,rfl,hx⟩:=hx;simp only[ah] at sx ⊢;exact⟨sx.1,λi hi=>Jt e (hx i hi) (sx.2 i hi)⟩
theorem YT:∀ (l:List ES) {xs:List SV} {J:Env} {cs:List Value},jw l xs->bV xs J cs->bV xs Env.nil cs
 |[],xs,J,cs,hx,sx=>by
  cases xs<;>simp only[jw] at hx;exact sx
 |e::l,xs,J,cs,hx,sx=>by
  cases xs with
  |nil=>simp only[jw] at hx
  |cons x xs=>
   simp only[jw] at hx;simp only[bV] at sx ⊢;obtain⟨a,b,h1,h2,h3⟩:=sx;exact⟨a,b,h1,Jt e hx.1 h2,YT l hx.2 h3⟩
end
theorem akc{e:ES}{x:SV}(h:evP e x):x.isVal=true:=by
 unfold evP at h;split at h
 ·split at h<;>first|rfl|exact h.elim
 ·exact OC h
theorem afN(e:ES){x:SV}{J:Env}{cs:List Value}(hx:evP e x)(sx:ah x J cs):ah x Env.nil cs:=by
 unfold evP at hx;split at hx
 ·split at hx
  ·simp only[ah,bV,bT] at sx ⊢;exact sx
  ·simp only[ah,bV] at sx ⊢;exact sx
  ·exact hx.elim
 ·exact Jt e hx sx
def aqh(J:Env)(x:SV)(v:Value):Prop:= ∃ cs,ah x J cs/\v=boxed x.isAgg cs
theorem Inv.aqi{β:Base}{J:Env}{m:List ay}{w:World}(h:Inv β J m w){i:Nat}{ek ev:ES}{l l':List (SV×SV)}{es:Array MapEntry}{clock:Nat}{o:Obj}
  (hm:ak m i= .mp ek ev l) (hb:w.heap[J.blk i]? =some o) (hl:iQ ek ev l' es.toList/\Ae es.toList clock):
  Inv β J (m.set i (.mp ek ev l')) {w with heap:=w.heap.setIfInBounds (J.blk i) (.map es clock)}:=by
 have hlt:J.blk i<w.heap.size:=(z0s.1 hb).1;refine h.at1 (jJ (by rw[hm];nofun)) ⟨es,clock,by simp[hlt],hl⟩ (by rw[hm];exact λ_ e=>e) (by rw[hm];exact id) (λb hb=> ?_) (by simp) ⟨rfl,rfl,rfl,rfl⟩
 have:b≠J.blk i:=λe=>hb (by rw[hm,e];rfl)
 simp[Ne.symm this]
section
variable {o:Oper} {σ:List SV} {m:List ay}
theorem Lm{T:TypeId}{ek ev:ES}(hrun:∀ J a w,aH J σ a->(execOp a.eval o).run P w= .ok (.value (.map (some w.heap.size))) (w.alloc (.map #[] 0))/\(execOp a.eval o).events P w #[]= #[]):
  iW P o σ m (.map m.length) (m++[.mp ek ev []]):=by
 intro β J a w hi hs;obtain⟨hr,he⟩:=hrun J a w hs;have hbl:(J.more w.heap.size undef).blk m.length=w.heap.size:=by simp[Env.more,hi.good.n]
 refine⟨_,_,J.more w.heap.size undef, .inl hr,⟨_,by simp only[ah];exact⟨by simp[Env.more,hi.good.n],rfl⟩,?_⟩,J.dS _ _,hi.more (z2q _ _ _) (z0a _) ⟨#[],0,?_,trivial,List.nodup_nil,λe he=>by cases he⟩ ?_, .nil he⟩
 ·simp[boxed,SV.isAgg,hbl]
 ·rw[hbl];exact heap_alloc_new w _
 ·intro x hx;simp only[aS,hbl,z00] at hx;omega
theorem SI{es:List MapEntry}{cl:Nat}{e:MapEntry}(h:Ae es cl)(he:e.born=cl):Ae (es++[e]) (cl+1):=by
 refine⟨?_,λx hx=> ?_⟩
 ·rw[List.map_append,List.nodup_append];refine⟨h.1,by simp,λa ha b hb=> ?_⟩
  obtain⟨x,hx,rfl⟩:=List.mem_map.1 ha;have:=h.2 x hx;simp only[z0k,z1e,z0v] at hb;omega
 ·rcases z04.1 hx with hx|hx
  ·have:=h.2 x hx;omega
  ·rw[z0v.1 hx,he];exact z3e _
theorem Xp{es:List MapEntry}{cl j:Nat}{e e':MapEntry}(h:Ae es cl)(hj:es[j]? =some e)(he:e'.born=e.born):Ae (es.set j e') cl:=by
 obtain⟨hlt,rfl⟩:=z0d.1 hj;have hm:(es.set j e').map (·.born)=es.map (·.born):=by
  rw[List.map_set,he];apply z0g;intro q;rw[z19];by_cases hq:j=q
  ·subst hq;simp[hlt]
  ·simp[hq]
 refine⟨by rw[hm];exact h.1,λx hx=> ?_⟩
 have:x.born∈(es.set j e').map (·.born):=List.mem_map_of_mem hx;rw[hm] at this;obtain⟨y,hy,e1⟩:=List.mem_map.1 this;rw[<- e1];exact h.2 y hy
theorem abq{T:TypeId}{ek ev:ES}{z:SV}{x k v:Operand}{x' k' v':aV}{i:Nat}{l:List (SV×SV)}(hT:Jr P T=some (ek,ev,z))(hrun:∀ a:Act,execOp a.eval o=(do Instr.mapUpdate T (a.eval x) (a.eval k) (a.eval v);pure .skip))
  (hx:aP x=some x') (hk:aP k=some k') (hv:aP v=some v') (ex:x'.ev σ= .map i) (hm:ak m i= .mp ek ev l) (hek:fA ek (k'.ev σ)) (hev:evP ev (v'.ev σ)):
  iW P o σ m .junk (m.set i (.mp ek ev (zi ek (k'.ev σ) (v'.ev σ) l))):=by
 intro β J a w hi hs;obtain⟨kt,et,hu,hb,hd,_,_⟩:=Js hT;obtain⟨hin,e1⟩:=YS (ex▸aB hx hs);obtain⟨kc,sk,e2⟩:=fF (aB hk hs) (OC hek);obtain⟨vc,sv,e3⟩:=fF (aB hv hs) (akc hev);obtain⟨es,cl,hh,hE,hS⟩:fH J i w (.mp ek ev l):=hm▸hi.good.res i;have afO:=nX hek;have hck:=su (P:=P) (d:=10000) ek w false hb (by omega) hek sk
 have hfk:=Jp (P:=P) hb (by omega) hek sk w hE
 have hnew:SG ek ev (k'.ev σ,v'.ev σ) {key:=boxed (k'.ev σ).isAgg kc,val:=boxed (v'.ev σ).isAgg vc,born:=cl}:=⟨hek,hev,⟨kc,Jt ek hek sk,rfl⟩,⟨vc,afN ev hev sv,rfl⟩⟩;rw[afO] at e2;have hkf:nJ (boxed (gG ek) kc):=afO▸OB hek sk;have hce:=nC (P:=P) false 10000 kt _ hkf;have hfe:=xY (P:=P) (t:=kt) hkf (DV hE);have key:∃ es' cl',(Instr.mapUpdate T (a.eval x) (a.eval k) (a.eval v)).run P w= .ok () {w with heap:=w.heap.setIfInBounds (J.blk i) (.map es' cl')}/\(iQ ek ev (zi ek (k'.ev σ) (v'.ev σ) l) es'.toList/\Ae es'.toList cl')/\
   (Instr.mapUpdate T (a.eval x) (a.eval k) (a.eval v)).events P w #[]= #[⟨.obj (J.blk i),false,false⟩,⟨.obj (J.blk i),true,false⟩]:=by
  rw[e1,e2,e3];generalize hd10:(10000:Nat)=d10 at hck hce;cases hix:jV ek (k'.ev σ) l with
  |none=>
   rw[hix] at hfk;refine⟨es.push {key:=boxed (gG ek) kc,val:=boxed (v'.ev σ).isAgg vc,born:=cl},cl+1,?_,?_,?_⟩
   ·simp only[Instr.mapUpdate,hd10,z0b,run_underlying hu,Result.andThen_ok,MapKept.run_getObj_map hh,hck,hfk,z1s,MapKept.run_setObj_map _ hh]
   ·rw[DU,hix,Array.toList_push];rw[afO] at hnew;exact⟨hE.push hnew,SI hS rfl⟩
   ·simp[Instr.mapUpdate,hd10,run_underlying hu,MapKept.run_getObj_map hh,yS hh,hck,hce _ _,hfk,hfe _ _,Ll hh]
  |some j=>
   obtain⟨p,hp,hpe⟩:=Jm l hix;obtain⟨e,he,hee⟩:=hE.at hp;rw[hix] at hfk;have he':es[j]? =some e:=by simpa using he
   have hsame:e.key=boxed (gG ek) kc:=by obtain⟨cs',s1,s2⟩:=hee.kc;rw[s2,nX hee.k,DK ek hek hee.k sk s1 hpe]
   have hst:=afK hek sk;rw[afO] at hst;refine⟨es.modify j λe=> {e with key:=boxed (gG ek) kc,val:=boxed (v'.ev σ).isAgg vc},cl,?_,?_,?_⟩
   ·simp only[Instr.mapUpdate,hd10,z0b,run_underlying hu,Result.andThen_ok,MapKept.run_getObj_map hh,hck,hfk,z0l,he,z1d,he',z2v,hsame,hst,z0i,MapKept.run_setObj_map _ hh]
   ·rw[DU,hix];have hj:j<es.size:=(z0s.1 he').1;have:(es.modify j λe=> {e with key:=boxed (gG ek) kc,val:=boxed (v'.ev σ).isAgg vc}).toList=es.toList.set j {key:=boxed (gG ek) kc,val:=boxed (v'.ev σ).isAgg vc,born:=e.born}:=by
     apply z0g;intro q;rw[z19,z2l,Array.getElem?_modify,z2l];have hej:es[j]=e:=by have:=he';rw[Array.getElem?_eq_getElem hj] at this;exact z2y this
     by_cases hq:j=q
     ·subst hq;simp[hj,hej]
     ·simp[hq]
    rw[this];refine⟨hE.set ⟨hek,hev,⟨kc,Jt ek hek sk,?_⟩,⟨vc,afN ev hev sv,rfl⟩⟩ j,Xp hS he rfl⟩;rw[afO]
   ·simp[Instr.mapUpdate,hd10,run_underlying hu,MapKept.run_getObj_map hh,yS hh,hck,hce _ _,hfk,hfe _ _,Ll hh,he',hsame,hst]
 obtain⟨es',cl',hr,hE',hev'⟩:=key;refine⟨undef,_,J, .inr ⟨rfl,by rw[hrun];simp only[z0b,hr,Result.andThen_ok,z0i]⟩,trivial,Env.Le.refl J,hi.aqi hm hh hE',?_⟩
 rw[hrun];simp only[z1k,hr,Result.evThen_ok,z2a,hev'];have hb:(∃ j,aS J j (ak m j)=some (J.blk i)):=⟨i,by rw[hm];rfl⟩
 intro e he;simp only[z3c,z0p,z3b,or_false] at he;rcases he with rfl|rfl
 ·exact .inl ⟨rfl,_,rfl, .inl (.inl hb)⟩
 ·exact .inl ⟨rfl,_,rfl, .inl (.inl hb)⟩
theorem abr{T:TypeId}{ek ev:ES}{z:SV}{ok:Bool}{x k:Operand}{x' k':aV}{i:Nat}{l:List (SV×SV)}(hT:Jr P T=some (ek,ev,z))(hrun:∀ a:Act,execOp a.eval o=(do let v <- Instr.lookup T (a.eval x) (a.eval k) ok;pure (.value v)))
  (hx:aP x=some x') (hk:aP k=some k') (ex:x'.ev σ= .map i) (hm:ak m i= .mp ek ev l) (hek:fA ek (k'.ev σ)):
  iW P o σ m (if ok then .cu [vU ev z (gQ ek (k'.ev σ) l), .bool (gQ ek (k'.ev σ) l).isSome] else vU ev z (gQ ek (k'.ev σ) l)) m:=by
 intro β J a w hi hs;obtain⟨kt,et,hu,hb,hd,hzo,hz,hzb⟩:=Js hT;obtain⟨hz1,hz2⟩:=aof hzo;obtain⟨hin,e1⟩:=YS (ex▸aB hx hs);obtain⟨kc,sk,e2⟩:=fF (aB hk hs) (OC hek);obtain⟨es,cl,hh,hE,_⟩:fH J i w (.mp ek ev l):=hm▸hi.good.res i;have hck:=su (P:=P) (d:=10000) ek w es.isEmpty hb (by omega) hek sk
 have hfk:=Jp (P:=P) hb (by omega) hek sk w hE
 have hkf:nJ (boxed (gG ek) kc):=nX hek▸OB hek sk;have hce:=nC (P:=P) es.isEmpty 10000 kt _ hkf;have hfe:=xY (P:=P) (t:=kt) hkf (DV hE);rw[nX hek] at e2;have key:∃ (v:Value) (b:Bool),((Instr.lookup T (a.eval x) (a.eval k) ok).run P w= .ok (if ok then .tuple #[v, .bool b] else v) w/\(Instr.lookup T (a.eval x) (a.eval k) ok).events P w #[]= #[⟨.obj (J.blk i),false,false⟩])/\aqh J (vU ev z (gQ ek (k'.ev σ) l)) v/\b=(gQ ek (k'.ev σ) l).isSome:=by
  rw[e1,e2];generalize hd10:(10000:Nat)=d10 at hck hce;cases hix:jV ek (k'.ev σ) l with
  |none=>
   rw[hix] at hfk;obtain⟨inf,zv,i1,i2,i3⟩:=Jq hz hzb;have hrz:(zeroValue et).run P w= .ok zv w:=by simp[zeroValue,typeInfo,i1,i2]
   refine⟨zv,false,⟨?_,?_⟩,?_,?_⟩
   ·simp only[Instr.lookup,hd10,z0b,run_underlying hu,Result.andThen_ok,MapKept.run_getObj_map hh,z0i,hck,hfk,z1s,hrz]
   ·simp[Instr.lookup,hd10,run_underlying hu,MapKept.run_getObj_map hh,yS hh,hck,hce _ _,hfk,hfe _ _]
   ·rw[ru,hix,z1s,hz2];exact i3 J
   ·rw[ru,hix];rfl
  |some j=>
   obtain⟨p,hp,hpe⟩:=Jm l hix;obtain⟨e,he,hee⟩:=hE.at hp;rw[hix] at hfk;refine⟨e.val,true,⟨?_,?_⟩,?_,?_⟩
   ·simp only[Instr.lookup,hd10,z0b,run_underlying hu,Result.andThen_ok,MapKept.run_getObj_map hh,z0i,hck,hfk,z0l,he,z1d]
   ·simp[Instr.lookup,hd10,run_underlying hu,MapKept.run_getObj_map hh,yS hh,hck,hce _ _,hfk,hfe _ _,show es[j]? =some e by simpa using he]
   ·rw[ru,hix,z0l,hp,z1d,Xn hee.v];obtain⟨vc,s1,s2⟩:=hee.vc;exact⟨vc,s1.mono _ (Env.nil_le J),s2⟩
   ·rw[ru,hix,z0l,hp];rfl
 obtain⟨v,b,⟨hr,hev'⟩,⟨vc,s1,s2⟩,hb'⟩:=key;refine⟨if ok then .tuple #[v, .bool b] else v,w,J, .inl (by rw[hrun];simp only[z0b,hr,Result.andThen_ok,z0i]),?_,Env.Le.refl J,hi,?_⟩
 rotate_left
 ·rw[hrun];simp only[z1k,hr,Result.evThen_ok,z2a,hev'];have hb:(∃ j,aS J j (ak m j)=some (J.blk i)):=⟨i,by rw[hm];rfl⟩
  intro e he;simp only[z3c,z0p,z3b,or_false] at he;subst he;exact .inl ⟨rfl,_,rfl, .inl (.inl hb)⟩
 cases ok with
 |true=>
  simp only[if_true];refine⟨[v, .bool b],?_,rfl⟩;simp only[bT];exact⟨vc,[.bool b],by rw[s2],s1,[.bool b],[],rfl,by rw[hb'];rfl,rfl⟩
 |false=>
  simp only[z0j,if_false];rw[s2];exact gJ s1
theorem afP{l:List SV}{a n k:Nat}{z:SV}(hl:l.length=a+n)(hk:k<a+n):(l.take a++z09 n z).getD k .junk=if k<a then l.getD k .junk else z:=by
 have h1:(l.take a).length=a:=by simp;omega
 simp only[List.getD_eq_getElem?_getD];by_cases h:k<a
 ·rw[if_pos h,z0t (by omega),List.getElem?_take_of_lt h]
 ·rw[if_neg h,z18 (by omega),h1,z2j,if_pos (by omega)];rfl
theorem abt{c:Call}{t e:TypeId}{x:Operand}{x':aV}{z:SV}{i a0 n E w0:Nat}{l:List SV}(ho:o.op= .call c)(hc:c.callee= .builtin .clear)(ha:c.args= #[x])(hta:c.argTypes= #[t])(ht:P.underlying t=some (.slice e))(hz:Oz P e=some z)(hzb:zbx P e z=true)(hzs:z.isAgg=false)
  (hx:aP x=some x') (ex:x'.ev σ= .kC i a0 n) (hm:ak m i= .vec E w0 l) (hw:w0=1) (hl:l.length=a0+n) (hn:0<n):
  iW P o σ m .junk (m.set i (.vec E 1 (l.take a0++z09 n z))):=by
 subst hw;intro β J a w hi hs;obtain⟨hin,b,cap,e1,e2,e3⟩:=BG (ex▸aB hx hs);obtain⟨inf,zv,i1,i2,i3⟩:=Jq hz hzb;obtain⟨zc,z1,z2⟩:=i3 J;have zl:=ah.length _ z1;rw[yK hzs] at zl;obtain⟨zz,rfl⟩:∃ zz,zc=[zz]:=by
  match zc,zl with
  |[v],_=>exact⟨v,rfl⟩
 rw[hzs] at z2;simp only[boxed,z0j,if_false,z1z] at z2;subst z2;have h1c:zv.oneCell'=true:=ah.one _ z1 zv (by simp)
 have hzc:zv.cells= #[zv]:=by cases zv<;>simp[Value.oneCell',Value.cells] at h1c ⊢
 have hzr:(Builtin.zeroCells zv.cells n).toList=z09 n zv:=by
  rw[hzc];simp[Builtin.zeroCells];apply List.ext_getElem
  ·simp
  ·intro i h1 h2;simp[Nat.mod_one]
 obtain⟨ys,hown,hel⟩:fH J i w (.vec E 1 l):=hm▸hi.good.res i;obtain⟨T0,hT0,ol,ho2⟩:=hown;rcases ho2 with⟨ho2,_⟩|⟨g,cap',cur,ho2,_,hh,hle,hcap,hsz,htk⟩
 ·rw[e1] at ho2;cases ho2
 have ho3:=ho2;rw[e1] at ho2;simp only[z2u,z00,Addr.mk.injEq] at ho2;obtain⟨⟨rfl,_,_⟩,_,rfl⟩:=ho2;have hcl:cur.toList.length=cap*1:=by simpa using hsz
 have hb:w.heap[b]? =some (.cells cur.toList.toArray T0 (0,0)):=by simpa using hh
 have hrl:(z09 n zv).length=n:=z1m;have hst:=run_storeCells_at P b a0 T0 (z09 n zv) 0 cur w hh (by simp;omega) (λu hu=>by rw[z2h hu];exact h1c)
 simp only[z0o] at hst;have hzv:(zeroValue e).run P w= .ok zv w:=by simp[zeroValue,typeInfo,i1,i2]
 obtain⟨n',rfl⟩:∃ n',n=n'+1:=⟨n - 1,by omega⟩
 have hr:(execOp a.eval o).run P w= .ok (.value (.tuple #[])) (w.setRow b (splice cur.toList a0 (z09 (n'+1) zv)).toArray):=by simp[execOp,ho,hc,ha,hta,resolve,invoke,builtin,Builtin.clear_,run_underlying ht,e3,hzv,hzr,hst,splice]
 have hev:(execOp a.eval o).events P w #[]=(storeCells ⟨b,a0,none⟩ (z09 (n'+1) zv) 0).events P w #[]:=by simp[execOp,ho,hc,ha,hta,resolve,invoke,builtin,Builtin.clear_,run_underlying ht,e3,hzv,hzr]
 refine⟨_,_,J, .inl hr,trivial,Env.Le.refl J,hi.aeW hT0 hm ho3 hb hle hcap hcl (by simp;omega) (jM (by omega)) (λk hk=> ?_),?_⟩
 ·simp only[z0m,List.length_take,z1m] at hk;rw[afP hl (by omega)]
  have hsub:sub cur.toList (k*1) 1=sub ys (k*1) 1:=by rw[<- htk];simp only[sub,List.drop_take,List.take_take];rw[Nat.min_eq_left (by omega)]
  have hk':k<a0+(n'+1):=by omega
  clear hk hst hzr hr hev;have auL:cur.toList.length=cap:=by omega
  split
  ·rename_i hka;have e:=kJ (cs:=cur.toList) (xs:=z09 (n'+1) zv) (a:=k*1) (n:=1) (b:=a0) (.inr (by omega)) (by rw[hrl];omega)
   rw[e,hsub];exact hel k (by omega)
  ·rename_i hka;have e:sub (splice cur.toList a0 (z09 (n'+1) zv)) (k*1) 1=[zv]:=by
    apply z0g;intro q;rw[iM,iP (by rw[hrl];omega),hrl]
    by_cases hq:q<1
    ·rw[if_pos hq,if_pos (by omega),z2j,if_pos (by omega)]
     obtain rfl:q=0:=by omega
     rfl
    ·rw[if_neg hq,z0r (by simp;omega)]
   rw[e];exact z1
 ·rw[hev];exact lS (.inl ⟨i,by rw[hm];simp[aS,ho3,z08]⟩) _ 0 cur w _ hh (by simp;omega) (λu hu=>by rw[z2h hu];exact h1c) (Ls.nil _ _)
theorem KD{k:MK}{ys:List aV}{K:SV->List ay->Prop}(hc:vW P o.op=some (k,ys))(hv:(ys.map (·.ev σ)).all SV.isVal=true)(h:pR m k (ys.map (·.ev σ)) K):
  ∃ sv m',K sv m'/\iW P o σ m sv m'/\(k.eff=false->m'=m):=by
 have put:∀ (T:TypeId) (x kk v:Operand),(∀ a:Act,execOp a.eval o=(do Instr.mapUpdate T (a.eval x) (a.eval kk) (a.eval v);pure .skip))->vW.FK P T x kk v=some (k,ys)->∃ sv m',K sv m'/\iW P o σ m sv m'/\(k.eff=false->m'=m):=by
  intro T x kk v hrun hp;unfold vW.FK at hp;split at hp<;>try (cases hp;done)
  rename_i ek ev z hT;split at hp<;>try (cases hp;done)
  rename_i x' k' v' h1 h2 h3;simp only[z00,z0e] at hp;obtain⟨rfl,rfl⟩:=hp;simp only[pR,z0k,z1e] at h;split at h
  ·rename_i i key vv e0;simp only[z1i,and_true] at e0;obtain⟨e1,rfl,rfl⟩:=e0;split at h
   ·rename_i ek' ev' l hm;obtain⟨⟨rfl,rfl,hk,hvv⟩,hK⟩:=h;exact⟨_,_,hK,abq hT hrun h1 h2 h3 e1 hm hk hvv,λhh=>by cases hh⟩
   ·exact h.elim
  ·exact h.elim
 cases ho:o.op<;>rw[ho] at hc<;>simp only[vW] at hc<;>try (cases hc;done)
 case makeMap T r=>
  split at hc<;>try (cases hc;done)
  rename_i ek ev z hT;split at hc
  ·simp only[z00,z0e] at hc;obtain⟨rfl,rfl⟩:=hc;exact⟨_,_,h,Lm (T:=T) (λJ a w hs=>⟨by simp[execOp,ho,Instr.makeMap],by simp[execOp,ho,Instr.makeMap]⟩),λhh=>by cases hh⟩
  ·rename_i r;simp only[z02] at hc;obtain⟨r',hr,hc⟩:=hc;simp only[z0e] at hc;obtain⟨rfl,rfl⟩:=hc;simp only[pR,z0k,z1e] at h;split at h
   ·rename_i e0;cases e0
   ·rename_i k n e0;simp only[z1i,and_true] at e0;obtain⟨kt,et,hu,_⟩:=Js hT;exact⟨_,_,h,Lm (T:=T) (λJ a w hs=>by have:=fG (e0▸aB hr hs);constructor<;>simp[execOp,ho,Instr.makeMap,run_underlying hu,this,asInt,asIntOf]),λhh=>by cases hh⟩
   ·exact h.elim
 case mapUpdate T x kk v=>exact put T x kk v (λa=>by simp[execOp,ho]) hc
 case insert T x kk v=>exact put T x kk v (λa=>by simp[execOp,ho]) hc
 case lookup T x kk ok=>
  split at hc<;>try (cases hc;done)
  rename_i ek ev z hT;split at hc<;>try (cases hc;done)
  rename_i x' k' h1 h2;simp only[z00,z0e] at hc;obtain⟨rfl,rfl⟩:=hc;simp only[pR,z0k,z1e] at h;split at h
  ·rename_i i key e0;simp only[z1i,and_true] at e0;obtain⟨e1,rfl⟩:=e0;split at h
   ·rename_i ek' ev' l hm;obtain⟨⟨rfl,rfl,hk⟩,hK⟩:=h;exact⟨_,_,hK,abr hT (λa=>by simp[execOp,ho]) h1 h2 e1 hm hk,λ_=>rfl⟩
   ·exact h.elim
  ·exact h.elim
 case call c=>
  unfold vW.YR at hc;cases c with
  |mk callee args argTypes=>
  simp only at hc;split at hc<;>try (cases hc;done)
  rename_i x t ea et;obtain rfl:args= #[x]:=by apply z0u;simpa using ea
  obtain rfl:argTypes= #[t]:=by apply z0u;simpa using et
  split at hc<;>try (cases hc;done)
  rename_i e hu;split at hc<;>try (cases hc;done)
  rename_i z hz;split at hc<;>try (cases hc;done)
  rename_i hzz;simp only[z06,z0x] at hzz;simp only[z02] at hc;obtain⟨x',hx,hc⟩:=hc;simp only[z0e] at hc;obtain⟨rfl,rfl⟩:=hc;simp only[pR,z0k,z1e] at h;split at h
  ·rename_i i a0 n e0;simp only[z1i,and_true] at e0;split at h
   ·rename_i E w0 l hm;obtain⟨⟨h1,h2,h3⟩,hK⟩:=h;exact⟨_,_,hK,abt ho rfl rfl rfl hu hz hzz.1 hzz.2 hx e0 hm h1 h2 h3,λhh=>by cases hh⟩
   ·exact h.elim
  ·exact h.elim
end
end Go.Sx
namespace Go.Sx
open Go Go.Conc
structure Rel(O F:Nat->Prop)(w w1:World):Prop where
 os:w1.os=w.os
 tape:w1.tape=w.tape
 output:w1.output=w.output
 size:w.heap.size<=w1.heap.size
 heap:∀ b,O b\/F b->w1.heap[b]? =w.heap[b]?
theorem Rel.refl(O F:Nat->Prop)(w:World):Rel O F w w:=⟨rfl,rfl,rfl,z0a _,λ_ _=>rfl⟩
theorem Rel.trans{O F:Nat->Prop}{w w1 w2:World}(h:Rel O F w w1)(k:Rel O F w1 w2):Rel O F w w2:=
 ⟨k.os.trans h.os,k.tape.trans h.tape,k.output.trans h.output,z0n h.size k.size,λb hb=>(k.heap b hb).trans (h.heap b hb)⟩
def Iq(O F:Nat->Prop)(n n':Nat)(e:Event):Prop:=(e.sync=false/\match e.loc with
 | .cell a=>a.block<n'/\(O a.block\/n<=a.block\/(F a.block/\e.write=false))
 | .obj r=>r<n'/\(O r\/n<=r\/(F r/\e.write=false))
 |_=>False)\/∃ m,e=⟨.mark m,false,true⟩/\Neutral m
structure Gua(O F:Nat->Prop)(w w':World)(es:Array Event):Prop where
 os:w'.os=w.os
 tape:w'.tape=w.tape
 output:w'.output=w.output
 size:w.heap.size<=w'.heap.size
 heap:∀ b,b<w.heap.size->¬ O b->w'.heap[b]? =w.heap[b]?
 evs:∀ e∈es,Iq O F w.heap.size w'.heap.size e
theorem Gua.idle(O F:Nat->Prop)(w:World):Gua O F w w #[]:=⟨rfl,rfl,rfl,z0a _,λ_ _ _=>rfl,λe h=>by simp at h⟩
structure OW where
 w:World
 O:Nat->Prop
def OW.next(O:Nat->Prop)(w w':World):OW:=⟨w',λb=>O b\/(w.heap.size<=b/\b<w'.heap.size)⟩
theorem OW.oz(O:Nat->Prop)(w:World):OW.next O w w=⟨w,O⟩:=by
 unfold OW.next
 congr 1
 funext b
 exact propext ⟨λh=>h.elim id λh=>absurd h.1 (by omega), .inl⟩
inductive Co(P:Program)(main:Bool)(F:Nat->Prop)(Stop:Goroutine->OW->Prop):Goroutine->OW->Prop
 |stop {g:Goroutine} {x:OW} (h:∀ w1,Rel x.O F x.w w1->Stop g ⟨w1,x.O⟩):Co P main F Stop g x
 |step {g:Goroutine} {x:OW} (nx:World->Goroutine) (wx:World->World) (ex:World->Array Event) (hs:g.status= .running)
   (h1:∀ w1,Rel x.O F x.w w1->stepG P main g w1= .go (nx w1) (wx w1) (ex w1)/\Gua x.O F w1 (wx w1) (ex w1))
   (h2:∀ w1,Rel x.O F x.w w1->Co P main F Stop (nx w1) (OW.next x.O w1 (wx w1))):Co P main F Stop g x
section
variable {P:Program} {main:Bool} {F:Nat->Prop} {Stop Stop':Goroutine->OW->Prop}
theorem Co.go{g:Goroutine}{x:OW}(hs:g.status= .running)
  (h:∀ w1,Rel x.O F x.w w1->(stepG P main g w1).goes λg' w' es=>Gua x.O F w1 w' es/\Co P main F Stop g' (OW.next x.O w1 w')):Co P main F Stop g x:=by
 refine .step (λw1=>match stepG P main g w1 with| .go g' _ _=>g'|_=>g) (λw1=>match stepG P main g w1 with| .go _ w' _=>w'|_=>w1) (λw1=>match stepG P main g w1 with| .go _ _ es=>es|_=> #[]) hs (λw1 h1=> ?_) (λw1 h1=> ?_)
 all_goals
  have:=h w1 h1;revert this;cases stepG P main g w1<;>simp only[GStep.goes,false_imp_iff];rintro⟨k1,k2⟩
  first|exact k2|exact⟨rfl,k1⟩|exact⟨trivial,k1⟩
theorem Co.rely{g:Goroutine}{x:OW}{w1:World}(h:Co P main F Stop g x)(hr:Rel x.O F x.w w1):Co P main F Stop g ⟨w1,x.O⟩:=by
 cases h with
 |stop h=>exact .stop λw2 h2=>h w2 (hr.trans h2)
 |step nx wx ex hs h1 h2=>exact .step nx wx ex hs (λw2 k=>h1 w2 (hr.trans k)) λw2 k=>h2 w2 (hr.trans k)
theorem Co.idle{g g':Goroutine}{x:OW}(hs:g.status= .running)(h:∀ w,stepG P main g w= .go g' w #[])(k:Co P main F Stop g' x):Co P main F Stop g x:=
 .step (λ_=>g') id (λ_=> #[]) hs (λw1 _=>⟨h w1,Gua.idle ..⟩) λw1 h1=>by
  show Co P main F Stop g' (OW.next x.O w1 w1)
  rw[OW.oz];exact k.rely h1
def rF(P:Program)(main:Bool)(F:Nat->Prop)(Stop:Goroutine->OW->Prop)(b:Frame)(k:List Item)(cs:List Frame):Exit->Act->OW->Prop
 | .normal,a,x=>Co P main F Stop (G (b.at a k) cs) x
 | .exit id,a,x=> ∃ k',exitTo id k=some k'/\Co P main F Stop (G (b.at a k') cs) x
 | .ret,a,x=> ∀ todo,Co P main F Stop (G {b.at a todo with mode:= .returning} cs) x
 |_,_,_=>False
theorem rF.push{b:Frame}{y:Item}{k:List Item}{cs:List Frame}{e:Exit}{a:Act}{x:OW}(hy:y.plain=true)(he:e≠ .normal)
  (h:rF P main F Stop b k cs e a x):rF P main F Stop b (y::k) cs e a x:=by
 cases e with
 |normal=>exact absurd rfl he
 |exit id=>obtain⟨k',hk,hg⟩:=h;exact⟨k',by cases y<;>simp_all [exitTo,Item.plain],hg⟩
 |ret=>exact h
 |goto l=>exact h
 |panic ch=>exact h
 |outgrown=>exact h
end
def dQ(P:Program)(main:Bool)(F:Nat->Prop)(fn:FuncId)(c:Code)(Q:Exit->Act->OW->Prop)(a:Act)(x:OW):Prop:=
 ∀ (b:Frame) (k:List Item) (cs:List Frame) (Stop:Goroutine->OW->Prop),b.fn=fn->b.kind≠ .early->(∀ e a' x',Q e a' x'->rF P main F Stop b k cs e a' x')->Co P main F Stop (G (b.at a (.code c::k)) cs) x
def EW(P:Program)(main:Bool)(F:Nat->Prop)(fn:FuncId)(ops:Array Oper)(todo:List Nat)(Q:Exit->Act->OW->Prop)(a:Act)(x:OW):Prop:=
 ∀ (b:Frame) (k:List Item) (cs:List Frame) (Stop:Goroutine->OW->Prop),b.fn=fn->b.kind≠ .early->(∀ e a' x',Q e a' x'->rF P main F Stop b k cs e a' x')->Co P main F Stop (G (b.at a (.inRegion ops todo::k)) cs) x
def CB(P:Program)(main:Bool)(F:Nat->Prop)(fn:FuncId)(o:Oper)(a:Act)(K:Act->OW->Prop)(x:OW):Prop:=
 ∀ (ops:Array Oper) (o':Oper) (b:Frame) (k:List Item) (cs:List Frame) (Stop:Goroutine->OW->Prop) (i:Nat) (rest:List Nat),(∃ af gd,o'= {o with after:=af,guard:=gd})->b.fn=fn->b.kind≠ .early->ops[i]? =some o'->Region.wanted o' (yielded ops a.tmps)=true->
  (∀ a' x',K a' x'->Co P main F Stop (G (b.at a' (.inRegion ops rest::k)) cs) x')->Co P main F Stop (G (b.at a (.inRegion ops (i::rest)::k)) cs) x
section
variable {P:Program} {main:Bool} {F:Nat->Prop} {fn:FuncId} {Q Q':Exit->Act->OW->Prop} {a:Act} {x:OW}
theorem dQ.mono{c:Code}(hq:∀ e a x,Q e a x->Q' e a x)(h:dQ P main F fn c Q a x):dQ P main F fn c Q' a x:=
 λb k cs Stop hb hk hc=>h b k cs Stop hb hk λe a' x' q=>hc e a' x' (hq e a' x' q)
theorem CB.mono{o:Oper}{K K':Act->OW->Prop}(hk:∀ a x,K a x->K' a x)(h:CB P main F fn o a K x):CB P main F fn o a K' x:=
 λops o' b k cs Stop i rest ho' hb hk' ho hw hc=>h ops o' b k cs Stop i rest ho' hb hk' ho hw λa' x' q=>hc a' x' (hk a' x' q)
theorem CB.ren{o:Oper}{af:Array Edge}{gd:Option (Nat×Bool)}{K:Act->OW->Prop}(h:CB P main F fn {o with after:=af,guard:=gd} a K x):CB P main F fn o a K x:=
 λops o' b k cs Stop i rest ⟨af',gd',he⟩=>h ops o' b k cs Stop i rest ⟨af',gd',he⟩
theorem Yf(h:Q .normal a x):dQ P main F fn .skip Q a x:=λ_ _ _ _ _ _ hc=> .idle rfl (λ_=>stepG_skip) (hc _ _ _ h)
theorem amU(h:Q .ret a x):dQ P main F fn .ret Q a x:=λ_ _ _ _ _ _ hc=> .idle rfl (λ_=>stepG_ret') (hc _ _ _ h _)
theorem ai9{id:Nat}(h:Q (.exit id) a x):dQ P main F fn (.exit id) Q a x:=λ_ _ _ _ _ _ hc=>by obtain⟨k',hk',hg⟩:=hc _ _ _ h;exact .idle rfl (λ_=>stepG_exit hk') hg
theorem amS{c d:Code}(h:dQ P main F fn c (λe a' x'=>match e with
  | .normal=>dQ P main F fn d Q a' x'
  |e=>Q e a' x') a x):dQ P main F fn (.seq c d) Q a x:=λb k cs Stop hb hk hc=>by
 refine .idle rfl (λ_=>stepG_seq) (h b (.code d::k) cs Stop hb hk λe a' x' q=> ?_);cases e with
 |normal=>exact q b k cs Stop hb hk hc
 |exit id=>exact(hc _ _ _ q).push rfl (by simp)
 |ret=>exact rF.push (y:= .code d) rfl (by simp) (hc _ _ _ q)
 |goto l=>exact hc _ _ _ q
 |panic ch=>exact hc _ _ _ q
 |outgrown=>exact hc _ _ _ q
theorem Zl{c:Operand}{d e:Code}{t:Bool}(hc:a.eval c= .bool t)(h:dQ P main F fn (if t then d else e) Q a x):dQ P main F fn (.cond c d e) Q a x:=
 λb k cs Stop hb hk hq=> .idle rfl (λ_=>stepG_cond hc) (h b k cs Stop hb hk hq)
theorem uQ{c:Operand}{d e:Code}(hc:a.eval c= .bool true)(h:dQ P main F fn d Q a x):dQ P main F fn (.cond c d e) Q a x:=Zl hc h
theorem sO{c:Operand}{d e:Code}(hc:a.eval c= .bool false)(h:dQ P main F fn e Q a x):dQ P main F fn (.cond c d e) Q a x:=Zl hc h
theorem adR{id:Nat}{c:Code}(h:dQ P main F fn c (λe a' x'=>match e with
  | .exit i=>if i=id then Q .normal a' x' else Q (.exit i) a' x'
  |e=>Q e a' x') a x):dQ P main F fn (.block id c) Q a x:=λb k cs Stop hb hk hc=>by
 refine .idle rfl (λ_=>stepG_block) (h b (.inBlock id::k) cs Stop hb hk λe a' x' q=> ?_);cases e with
 |normal=>exact .idle rfl (λ_=>stepG_inBlock) (hc _ _ _ q)
 |exit id'=>
  by_cases hid:id'=id
  ·simp only[hid,if_true] at q;exact⟨k,by simp[exitTo,hid],hc _ _ _ q⟩
  ·simp only[hid,if_false] at q;obtain⟨k',hk',hg⟩:=hc _ _ _ q;have:(id==id')=false:=by simp;exact λh=>hid h.symm
   exact⟨k',by simp[exitTo,this,hk'],hg⟩
 |ret=>exact λtodo=>hc _ _ _ q todo
 |goto l=>exact hc _ _ _ q
 |panic ch=>exact hc _ _ _ q
 |outgrown=>exact hc _ _ _ q
theorem ai8{c:Code}(I:Nat->Act->OW->Prop)(n:Nat)(h0:I n a x)
  (round:∀ n a x,I n a x->dQ P main F fn c (λe a' x'=>match e with
   | .normal=> ∃ n',n'<n/\I n' a' x'
   |e=>Q e a' x') a x):dQ P main F fn (.loop c) Q a x:=λb k cs Stop hb hk hc=>by
 have key:∀ n a x,I n a x->Co P main F Stop (G (b.at a (.code c:: .inLoop c::k)) cs) x:=by
  intro n
  induction n using z3h with
  |ind n ih=>
   intro a x hI;refine round n a x hI b (.inLoop c::k) cs Stop hb hk λe a' x' q=> ?_;cases e with
   |normal=>
    obtain⟨n',hn',hI'⟩:=q;exact .idle rfl (λ_=>stepG_inLoop) (ih n' hn' a' x' hI')
   |exit id=>exact(hc _ _ _ q).push rfl (by simp)
   |ret=>exact rF.push (y:= .inLoop c) rfl (by simp) (hc _ _ _ q)
   |goto l=>exact hc _ _ _ q
   |panic ch=>exact hc _ _ _ q
   |outgrown=>exact hc _ _ _ q
 exact .idle rfl (λ_=>stepG_loop) (key n a x h0)
theorem Ja{ops:Array Oper}(h:Q .normal a x):EW P main F fn ops [] Q a x:=λ_ _ _ _ _ _ hc=> .idle rfl (λ_=>stepG_region_end) (hc _ _ _ h)
theorem Lc{ops:Array Oper}{i:Nat}{rest:List Nat}{o:Oper}(ho:ops[i]? =some o)(hw:Region.wanted o (yielded ops a.tmps)=false)(h:EW P main F fn ops rest Q (a.put o.dst undef) x):EW P main F fn ops (i::rest) Q a x:=
 λb k cs Stop hb hk hc=> .idle rfl (λ_=>stepG_unwanted ho hw) (h b k cs Stop hb hk hc)
theorem YM{ops:Array Oper}{i:Nat}{rest:List Nat}{o:Oper}(ho:ops[i]? =some o)(hw:Region.wanted o (yielded ops a.tmps)=true)(h:CB P main F fn o a (λa' x'=>EW P main F fn ops rest Q a' x') x):EW P main F fn ops (i::rest) Q a x:=
 λb k cs Stop hb hk hc=>h ops o b k cs Stop i rest ⟨o.after,o.guard,rfl⟩ hb hk ho hw λ_ _ q=>q b k cs Stop hb hk hc
theorem abW{id:Nat}{ops:Array Oper}(h:EW P main F fn ops (z2d ops.size) Q a x):dQ P main F fn (.region id ops false) Q a x:=
 λb k cs Stop hb hk hc=> .idle rfl (λ_=>stepG_region) (h b k cs Stop hb hk hc)
theorem ajW{id:Nat}{ops:Array Oper}(h:∀ w1,Rel x.O F x.w w1->∀ t,EW P main F fn ops (Region.schedule (P.follows .mixedOrders) ops t) Q a ⟨{w1 with drawn:=w1.drawn+1},x.O⟩):dQ P main F fn (.region id ops true) Q a x:=by
 intro b k cs Stop hb hk hc;refine .go rfl λw1 h1=> ?_;rw[stepG_region_draw];refine⟨⟨rfl,rfl,rfl,z0a _,λ_ _ _=>rfl,λe h=>by simp at h⟩,?_⟩
 have e:OW.next x.O w1 {w1 with drawn:=w1.drawn+1}=⟨{w1 with drawn:=w1.drawn+1},x.O⟩:=by
  unfold OW.next
  congr 1
  funext b
  exact propext ⟨λh=>h.elim (λh=>h) λh=>absurd h.1 (by show ¬ (w1.heap.size<=b);have:=h.2;simp at this;omega), .inl⟩
 rw[e];exact h w1 h1 _ b k cs Stop hb hk hc
def Aa(P:Program)(main:Bool)(F:Nat->Prop)(fn:FuncId)(ops:Array Oper)(Q:Exit->Act->OW->Prop)(l:List Oper)(a:Act)(x:OW):Prop:= ∀ i,(∀ j,l[j]? =ops[i+j]?)->EW P main F fn ops (List.range' i l.length) Q a x
theorem Xl{ops:Array Oper}(h:Q .normal a x):Aa P main F fn ops Q [] a x:=λ_ _=>Ja h
theorem xU{ops:Array Oper}{o:Oper}{l:List Oper}(h:if Region.wanted o (yielded ops a.tmps) then CB P main F fn o a (Aa P main F fn ops Q l) x else Aa P main F fn ops Q l (a.put o.dst undef) x):Aa P main F fn ops Q (o::l) a x:=by
 intro i hi;have ho:ops[i]? =some o:=by simpa using(hi 0).symm
 have hl:∀ j,l[j]? =ops[i+1+j]? :=λj=>by have:=hi (j+1);rw[List.getElem?_cons_succ] at this;rw[this];congr 1;omega
 rw[z0y,List.range'_succ];split at h
 ·rename_i hw;exact YM ho hw (h.mono λa' x' q=>q (i+1) hl)
 ·rename_i hw;exact Lc ho (by simpa using hw) (h (i+1) hl)
theorem wS{id:Nat}{ops:Array Oper}(h:Aa P main F fn ops Q ops.toList a x):dQ P main F fn (.region id ops false) Q a x:=
 abW (by
  have:=h 0 (by simp)
  rwa [z2s,<- List.range_eq_range'] at this)
theorem Bv{o:Oper}{K:Act->OW->Prop}(h:∀ w1,Rel x.O F x.w w1->∃ v w',((execOp a.eval o).run P w1= .ok (.value v) w'\/(v=undef/\(execOp a.eval o).run P w1= .ok .skip w'))/\
   Gua x.O F w1 w' ((execOp a.eval o).events P w1 #[])/\K (a.put o.dst v) (OW.next x.O w1 w')):CB P main F fn o a K x:=by
 intro ops o' b k cs Stop i rest ho' hb hk ho hw hc;obtain⟨af,gd,rfl⟩:=ho';refine .go rfl λw1 h1=> ?_;obtain⟨v,w',hr,hg,hK⟩:=h w1 h1;have hg':Gua x.O F w1 w' (listed P b.fn a o w1):=⟨hg.os,hg.tape,hg.output,hg.size,hg.heap,λe he=>by
  unfold listed at he;rw[seen_def] at he;rcases seen_fold_sub _ _ _ _ _ he with h|h
  ·simp at h
  ·exact hg.evs e (by simpa using h)⟩
 rcases hr with hr|⟨rfl,hr⟩
 ·rw[stepG_value ho hw hk hr];exact⟨hg',hc _ _ hK⟩
 ·rw[stepG_none ho hw hk hr];exact⟨hg',hc _ _ hK⟩
end
def yc(P:Program)(main:Bool)(F:Nat->Prop)(f:FuncId)(args:Array Value)(x:OW)(R:Value->OW->Prop):Prop:=
 ∀ (cs:List Frame) (Stop:Goroutine->OW->Prop),(∀ v x' fr,R v x'->fr.fn=f->fr.mode= .returning->fr.defers=[]->fr.kind= .normal->
   (∃ fn,P.funcs[f]? =some fn/\∀ w1,Rel x'.O F x'.w w1->(results fn fr.tmps).run P w1= .ok v w1/\∀ e∈(results fn fr.tmps).events P w1 #[],Iq x'.O F w1.heap.size w1.heap.size e)->Co P main F Stop (G fr cs) x')->
  Co P main F Stop (G (Frame.enter P f args .normal) cs) x
theorem yc.mono{P:Program}{main:Bool}{F:Nat->Prop}{f:FuncId}{args:Array Value}{x:OW}{R R':Value->OW->Prop}(h:yc P main F f args x R)(hr:∀ v x',R v x'->R' v x'):yc P main F f args x R':=
 λcs Stop hc=>h cs Stop λv x' fr hv=>hc v x' fr (hr v x' hv)
section
variable {P:Program} {main:Bool} {F:Nat->Prop} {fn:FuncId} {a:Act} {x:OW}
theorem BL{f:Func}{fr c:Frame}{cs:List Frame}{v:Value}{w:World}(hm:fr.mode= .returning)(hd:fr.defers=[])(hn:fr.kind= .normal)(hf:P.funcs[fr.fn]? =some f)(hr:(results f fr.tmps).run P w= .ok v w):
  stepG P main (G fr (c::cs)) w= .go (G (c.finish v) cs) w (seen P fr.fn ((results f fr.tmps).events P w #[])):=by
 simp[G,stepG,unwind,doReturn,hm,hn,hd,hf,hr,GStep.after]
theorem ahj{o:Oper}{K:Act->OW->Prop}{f:FuncId}{args:Array Value}(hr:∀ w,Rel x.O F x.w w->(execOp a.eval o).run P w= .ok (.enter f args) w/\(execOp a.eval o).events P w #[]= #[])
  (h:yc P main F f args x λv x'=>K (a.put o.dst v) x'):CB P main F fn o a K x:=by
 intro ops o' b k cs Stop i rest ho' hb hk ho hw hc;obtain⟨af,gd,rfl⟩:=ho';refine .go rfl λw1 h1=> ?_;rw[stepG_enter ho hw hk (hr w1 h1).1];have e0:listed P b.fn a {o with after:=af,guard:=gd} w1= #[]:=by have:(execOp a.eval {o with after:=af,guard:=gd}).events P w1 #[]= #[]:=(hr w1 h1).2;unfold listed;rw[this];exact seen_none P _
 rw[e0];refine⟨Gua.idle ..,?_⟩;rw[OW.oz];refine Co.rely (x:=x) ?_ h1;refine h _ _ λv x' fr hK hfn hm hd hn ⟨fn',hf',hres⟩=> .go rfl λw2 h2=> ?_;rw[BL hm hd hn (hfn▸hf') (hres w2 h2).1];refine⟨⟨rfl,rfl,rfl,z0a _,λ_ _ _=>rfl,λe he=> ?_⟩,?_⟩
 ·rw[seen_def] at he;rcases seen_fold_sub _ _ _ _ _ he with h|h
  ·simp at h
  ·exact(hres w2 h2).2 e (by simpa using h)
 ·rw[OW.oz,Frame.finish_at,ho];exact(hc _ _ hK).rely h2
theorem Oj{f:FuncId}{fn:Func}{c:Code}{args:Array Value}{R:Value->OW->Prop}(hf:P.funcs[f]? =some fn)(hb:fn.body=some c)
  (h:dQ P main F f c (λe a' x'=>match e with
   | .normal| .ret=>a'.defers=[]/\∃ v,R v x'/\∀ w1,Rel x'.O F x'.w w1->(results fn a'.tmps).run P w1= .ok v w1/\∀ e∈(results fn a'.tmps).events P w1 #[],Iq x'.O F w1.heap.size w1.heap.size e
   |_=>False) {tmps:=args++z15 (fn.ntmps - args.size) undef,defers:=[]} x):yc P main F f args x R:=by
 intro cs Stop hc;rw[enter_at args hf hb];refine h (base f) [] cs Stop rfl (by simp[base]) λe a' x' q=> ?_
 have key:∀ (todo:List Item),(a'.defers=[]/\∃ v,R v x'/\∀ w1,Rel x'.O F x'.w w1->(results fn a'.tmps).run P w1= .ok v w1/\∀ e∈(results fn a'.tmps).events P w1 #[],Iq x'.O F w1.heap.size w1.heap.size e)->
   Co P main F Stop (G {(base f).at a' todo with mode:= .returning} cs) x':=by
  rintro todo ⟨hd,v,hR,hres⟩;exact hc v x' _ hR rfl rfl hd rfl ⟨fn,hf,hres⟩
 cases e with
 |normal=>exact .idle rfl (λ_=>stepG_end) (key [] q)
 |ret=>exact λtodo=>key todo q
 |exit id=>exact q.elim
 |goto l=>exact q.elim
 |panic ch=>exact q.elim
 |outgrown=>exact q.elim
end
end Go.Sx
namespace Go.Sx
open Go
structure Root where
 w:World
 O:Nat->Prop
 J:Env
 B:Nat->Prop
open Classical in
noncomputable def Xb(K:Nat->Prop)(h0 h:Array Obj):Array Obj:=h.mapIdx λb o=>if K b then(h0[b]?).getD o else o
theorem bJ{K:Nat->Prop}{h0 h:Array Obj}:(Xb K h0 h).size=h.size:=by simp[Xb]
theorem nK{K:Nat->Prop}{h0 h:Array Obj}{b:Nat}(hk:K b)(h1:b<h0.size)(h2:b<h.size):(Xb K h0 h)[b]? =h0[b]? :=by simp[Xb,hk,h1,h2]
theorem BD{K:Nat->Prop}{h0 h:Array Obj}{b:Nat}(hk:¬ K b):(Xb K h0 h)[b]? =h[b]? :=by simp only[Xb,Array.getElem?_mapIdx,if_neg hk];cases h[b]? <;>rfl
noncomputable def Root.mix(ρ:Root)(F:Nat->Prop)(w:World):World:= {w with heap:=Xb (λb=>ρ.O b\/F b) ρ.w.heap w.heap}
noncomputable def Root.base(ρ:Root)(F:Nat->Prop)(x:OW):Base:=⟨ρ.mix F x.w,ρ.J,λb=>ρ.B b\/(x.O b/\ρ.w.heap.size<=b)⟩
structure an2(F:Nat->Prop)(ρ:Root):Prop where
 Ol:∀ b,ρ.O b->b<ρ.w.heap.size
 Fl:∀ b,F b->b<ρ.w.heap.size
 BO:∀ b,ρ.B b->ρ.O b
 HO:∀ b o,ρ.J.H b=some o->ρ.O b\/F b
structure dh(F:Nat->Prop)(ρ:Root)(J:Env)(m:List ay)(x:OW):Prop where
 rt:an2 F ρ
 inv:Inv (ρ.base F x) J m x.w
 sub:∀ b,ρ.O b->x.O b
 new:∀ b,x.O b->ρ.O b\/ρ.w.heap.size<=b
 lt:∀ b,x.O b->b<x.w.heap.size
 size:ρ.w.heap.size<=x.w.heap.size
 os:x.w.os=ρ.w.os
 tape:x.w.tape=ρ.w.tape
 output:x.w.output=ρ.w.output
section
variable {F:Nat->Prop} {ρ:Root} {J J':Env} {m m':List ay} {x:OW}
theorem dh.same(h:dh F ρ J m x)(h':Inv (ρ.base F x) J' m' x.w):dh F ρ J' m' x:=⟨h.rt,h',h.sub,h.new,h.lt,h.size,h.os,h.tape,h.output⟩
theorem dh.own(h:dh F ρ J m x){i b:Nat}(hb:aS J i (ak m i)=some b):x.O b:=by
 rcases h.inv.own i b hb with hb'|hb'
 ·exact hb'.elim (λhb'=>h.sub b (h.rt.BO b hb')) λhb'=>hb'.1
 ·have:=dw h.inv.good hb;simp only[Root.base,Root.mix,bJ] at hb';omega
theorem dh.jZ(h:dh F ρ J m x){b:Nat}{o:Obj}(hb:J.H b=some o):x.O b\/F b:=by
 rcases h.inv.kept.fresh b o hb with hb'|hb'|hb'
 ·exact(h.rt.HO b o hb').imp (h.sub b) id
 ·have:=wo h.inv.good hb;simp only[Root.base,Root.mix,bJ] at hb';omega
 ·exact .inl (hb'.elim (λhb'=>h.sub b (h.rt.BO b hb')) λhb'=>hb'.1)
theorem Inv.move{β β':Base}{w w':World}(h:Inv β J m w)(hε:β'.J=β.J)(ho:∀ i b,aS J i (ak m i)=some b->w'.heap[b]? =w.heap[b]?)(hH:∀ b o,J.H b=some o->w'.heap[b]? =w.heap[b]?)
  (hk:Kept β'.B β'.J β'.w J w') (hO:∀ i b,aS J i (ak m i)=some b->β'.B b\/β'.w.heap.size<=b):Inv β' J m w':=
 ⟨⟨h.good.n,λi=>(h.good.res i).same (ho i),h.good.jY,h.good.sep,λb o hb=>(hH b o hb).trans (h.good.hv b o hb),h.good.gl⟩,hk,hO,by rw[hε];exact h.n,by rw[hε];exact h.blk,by rw[hε];exact h.vv⟩
theorem dh.rely(h:dh F ρ J m x){w1:World}(hr:Rel x.O F x.w w1):dh F ρ J m ⟨w1,x.O⟩:=by
 refine⟨h.rt,?_,h.sub,h.new,λb hb=>z0c (h.lt b hb) hr.size,z0n h.size hr.size,hr.os.trans h.os,hr.tape.trans h.tape,hr.output.trans h.output⟩;refine h.inv.move rfl (λi b hb=>hr.heap b (.inl (h.own hb))) (λb o hb=>hr.heap b (h.jZ hb)) ⟨rfl,rfl,rfl,by simp[Root.base,Root.mix,bJ],λb hb hB=> ?_,h.inv.kept.H,λb o hb=> ?_,λ_=>z0a _⟩ λi b hb=> ?_
 ·simp only[Root.base,Root.mix,bJ] at hb hB ⊢;by_cases hk:ρ.O b\/F b
  ·have hlt:b<ρ.w.heap.size:=hk.elim (h.rt.Ol b) (h.rt.Fl b);rw[nK hk hlt hb];have h2:=h.inv.kept.heap b (by simp only[Root.base,Root.mix,bJ];exact z0c hlt h.size) hB
   rw[hr.heap b (hk.imp (h.sub b) id),h2];exact nK hk hlt (z0c hlt h.size)
  ·rw[BD hk]
 ·rcases h.inv.kept.fresh b o hb with hb'|hb'|hb'
  ·exact .inl hb'
  ·have:=wo h.inv.good hb;simp only[Root.base,Root.mix,bJ] at hb';omega
  ·exact .inr (.inr hb')
 ·rcases h.inv.own i b hb with hb'|hb'
  ·exact .inl hb'
  ·have:=dw h.inv.good hb;simp only[Root.base,Root.mix,bJ] at hb';omega
theorem dh.step(h:dh F ρ J m x){w':World}(h':Inv (ρ.base F x) J' m' w'):dh F ρ J' m' (OW.next x.O x.w w')/\∀ es,JZ J m x.w w' es->Gua x.O F x.w w' es:=by
 have hsz:x.w.heap.size<=w'.heap.size:=by have:=h'.kept.size;simpa only[Root.base,Root.mix,bJ] using this
 have hbase:∀ b,b<x.w.heap.size->¬ (ρ.B b\/(x.O b/\ρ.w.heap.size<=b))->w'.heap[b]? =x.w.heap[b]? :=λb hb hB=>by
  have h1:=h'.kept.heap b (by simp only[Root.base,Root.mix,bJ];exact hb) hB
  have h2:=h.inv.kept.heap b (by simp only[Root.base,Root.mix,bJ];exact hb) hB
  exact h1.trans h2.symm
 refine⟨⟨h.rt,?_,λb hb=> .inl (h.sub b hb),λb hb=>hb.elim (h.new b) λhb=> .inr (z0n h.size hb.1),λb hb=>hb.elim (λhb=>z0c (h.lt b hb) hsz) λhb=>hb.2,z0n h.size hsz,
  h'.kept.os.trans h.os,h'.kept.tape.trans h.tape,h'.kept.output.trans h.output⟩,λes he=>⟨h'.kept.os,h'.kept.tape,h'.kept.output,hsz,λb hb hO=> ?_,λe he'=> ?_⟩⟩
 ·refine h'.move rfl (λ_ _ _=>rfl) (λ_ _ _=>rfl) ⟨rfl,rfl,rfl,by simp[Root.base,Root.mix,bJ,OW.next],λb hb hB=> ?_,h'.kept.H,λb o hb=> ?_,λ_=>z0a _⟩ λi b hb=> ?_
  ·simp only[Root.base,Root.mix,bJ,OW.next] at hb hB ⊢
   by_cases hk:ρ.O b\/F b
   ·have hlt:b<ρ.w.heap.size:=hk.elim (h.rt.Ol b) (h.rt.Fl b);rw[nK hk hlt hb];have h2:=h'.kept.heap b (by simp only[Root.base,Root.mix,bJ];exact z0c hlt h.size) (by
     rintro(hb'|hb')
     ·exact hB (.inl hb')
     ·omega)
    rw[h2];exact nK hk hlt (z0c hlt h.size)
   ·rw[BD hk]
  ·rcases h'.kept.fresh b o hb with hb'|hb'|hb'
   ·exact .inl hb'
   ·have:=wo h'.good hb;simp only[Root.base,Root.mix,bJ] at hb';exact .inr (.inr (.inr ⟨.inr ⟨hb',this⟩,z0n h.size hb'⟩))
   ·exact .inr (.inr (hb'.imp id λhb'=>⟨.inl hb'.1,hb'.2⟩))
  ·rcases h'.own i b hb with hb'|hb'
   ·exact .inl (hb'.imp id λhb'=>⟨.inl hb'.1,hb'.2⟩)
   ·have:=dw h'.good hb;simp only[Root.base,Root.mix,bJ] at hb';exact .inl (.inr ⟨.inr ⟨hb',this⟩,z0n h.size hb'⟩)
 ·exact hbase b hb λhB=>hB.elim (λhB=>hO (h.sub b (h.rt.BO b hB))) λhB=>hO hB.1
 ·rcases he e he' with⟨h1,b,h2,h3⟩|⟨mk,rfl,hn⟩
  ·refine .inl ⟨h1,?_⟩;have key:b<w'.heap.size/\(x.O b\/x.w.heap.size<=b\/(F b/\e.write=false)):=by
    rcases h3 with(⟨i,hi⟩|hb)|⟨⟨o,hb⟩,hw⟩
    ·exact⟨z0c (dw h.inv.good hi) hsz, .inl (h.own hi)⟩
    ·exact⟨hb.2, .inr (.inl hb.1)⟩
    ·exact⟨z0c (wo h.inv.good hb) hsz,(h.jZ hb).imp id λhf=> .inr ⟨hf,hw⟩⟩
   cases hl:e.loc<;>rw[hl] at h2<;>simp only[Loc.bk,z00] at h2<;>try (cases h2;done)
   all_goals (subst h2;exact key)
  ·exact .inr ⟨mk,rfl,hn⟩
end
def Oo(P:Program)(main:Bool)(F:Nat->Prop)(o:Oper)(σ:List SV)(m:List ay)(σ':List SV)(sv:SV)(m':List ay):Prop:=
 ∀ ρ J a x fn,dh F ρ J m x->aH J σ a->CB P main F fn o a (λa' x'=> ∃ v J',a'=a.put o.dst v/\bK J' sv v/\aH J' σ' a/\dh F ρ J' m' x') x
def qm(P:Program)(main:Bool)(F:Nat->Prop)(o:Oper)(σ:List SV)(m:List ay)(sv:SV)(m':List ay):Prop:=
 ∀ ρ J a x fn,dh F ρ J m x->aH J σ a->CB P main F fn o a (λa' x'=> ∃ v J',a'=a.put o.dst v/\bK J' sv v/\J.Le J'/\dh F ρ J' m' x') x
section
variable {P:Program} {main:Bool} {F:Nat->Prop} {o:Oper} {σ σ':List SV} {m m':List ay} {sv:SV}
theorem qm.step(h:qm P main F o σ m sv m'):Oo P main F o σ m σ sv m':=λρ J a x fn hi hs=>
 (h ρ J a x fn hi hs).mono λa' x' ⟨v,J',h1,h2,h3,h4⟩=>⟨v,J',h1,h2,hs.mono h3,h4⟩
theorem WL.up(h:WL P o σ m σ' sv m'):Oo P main F o σ m σ' sv m':=λρ J a x fn hi hs=>Bv λw1 hr=>by obtain⟨v,w',J',h1,h2,h3,h4,h5⟩:=h _ J a w1 (hi.rely hr).inv hs;obtain⟨k1,k2⟩:=(hi.rely hr).step h4;exact⟨v,w',h1,k2 _ h5,v,J',rfl,h2,h3,k1⟩
theorem iW.up(h:iW P o σ m sv m'):qm P main F o σ m sv m':=λρ J a x fn hi hs=>Bv λw1 hr=>by obtain⟨v,w',J',h1,h2,h3,h4,h5⟩:=h _ J a w1 (hi.rely hr).inv hs;obtain⟨k1,k2⟩:=(hi.rely hr).step h4;exact⟨v,w',h1,k2 _ h5,v,J',rfl,h2,h3,k1⟩
end
section
variable {P:Program} {main:Bool} {F:Nat->Prop} {fn:FuncId} {ops:Array Oper} {Q:Exit->Act->OW->Prop}
def EM(P:Program)(main:Bool)(F:Nat->Prop)(fn:FuncId)(ops:Array Oper)(i:Nat)(K:Act->OW->Prop)(a:Act)(x:OW):Prop:=
 match ops[i]? with
 |none=>K a x
 |some o=>if Region.wanted o (yielded ops a.tmps) then CB P main F fn o a K x else K (a.put o.dst undef) x
theorem CJ{i:Nat}{a:Act}{x:OW}{K K':Act->OW->Prop}(h:∀ a x,K a x->K' a x)(hh:EM P main F fn ops i K a x):EM P main F fn ops i K' a x:=by
 unfold EM at*;split
 ·exact h _ _ (by simpa[*] using hh)
 ·rename_i o ho;simp only[ho] at hh;split
  ·rename_i hw;simp only[hw,if_true] at hh;exact hh.mono h
  ·rename_i hw;simp only[hw] at hh;exact h _ _ hh
def FW(P:Program)(main:Bool)(F:Nat->Prop)(fn:FuncId)(ops:Array Oper)(Q:Exit->Act->OW->Prop):Nat->Array Bool->Act->OW->Prop
 |0,listed,a,x=>Region.ready .any ops listed=[]/\Q .normal a x
 |fuel+1,listed,a,x=>
  (Region.ready .any ops listed=[]->Q .normal a x)/\
  ∀ i∈Region.ready .any ops listed,EM P main F fn ops i (FW P main F fn ops Q fuel (listed.setIfInBounds i true)) a x
theorem Xc{i:Nat}{rest:List Nat}{a:Act}{x:OW}{o:Oper}(ho:ops[i]? =some o)(h:EM P main F fn ops i (λa x=>EW P main F fn ops rest Q a x) a x):EW P main F fn ops (i::rest) Q a x:=by
 unfold EM at h;rw[ho] at h;simp only at h;split at h
 ·rename_i hw;exact YM ho hw h
 ·rename_i hw;exact Lc ho (by simpa using hw) h
theorem Sl:∀ (fuel t:Nat) (listed:Array Bool) (a:Act) (x:OW),FW P main F fn ops Q fuel listed a x->
  EW P main F fn ops (Region.linearise.go .any ops fuel t listed []) Q a x:=by
 intro fuel
 induction fuel with
 |zero=>intro t listed a w h;exact Ja h.2
 |succ fuel ih=>
  intro t listed a w h;obtain⟨h₀,h₁⟩:=h;simp only[Region.linearise.go];change EW P main F fn ops (match (Region.ready .any ops listed)[t%(Region.ready .any ops listed).length]? with
   |some i=>Region.linearise.go .any ops fuel (t/(Region.ready .any ops listed).length) (listed.setIfInBounds i true) [i]
   |none=>[].reverse) Q a w
  cases hi:(Region.ready .any ops listed)[t%(Region.ready .any ops listed).length]? with
  |none=>
   have hnil:Region.ready .any ops listed=[]:=by
    cases hr:Region.ready .any ops listed with
    |nil=>rfl
    |cons x xs=>
     rw[hr] at hi;have hlt:t%(x::xs).length< (x::xs).length:=Nat.mod_lt _ (by simp)
     simp at hi;simp at hlt;omega
   exact Ja (h₀ hnil)
  |some i=>
   simp only[];rw[linearise_go_acc,List.reverse_singleton,List.singleton_append];have hm:=z0z hi;obtain⟨_,o,ho,_⟩:=mem_ready.1 hm;exact Xc ho (CJ (λa w=>ih _ _ a w) (h₁ i hm))
theorem y8{id:Nat}{a:Act}{x:OW}(hm:P.follows .mixedOrders=true)
  (h:∀ w1,Rel x.O F x.w w1->FW P main F fn ops Q ops.size (z15 ops.size false) a ⟨{w1 with drawn:=w1.drawn+1},x.O⟩):dQ P main F fn (.region id ops true) Q a x:=
 ajW λw1 h1 t=>by simp only[Region.schedule,hm,Bool.true_or,if_true];exact Sl ops.size t _ a _ (h w1 h1)
theorem dh.drew{ρ:Root}{J:Env}{m:List ay}{x:OW}(h:dh F ρ J m x):dh F ρ J m ⟨{x.w with drawn:=x.w.drawn+1},x.O⟩:=
 h.rely ⟨rfl,rfl,rfl,z0a _,λ_ _=>rfl⟩
end
end Go.Sx
namespace Go.Sx
open Go
variable {P:Program}
def qp(P:Program)(f:FuncId):Bool:=match P.funcs[f]? with
 |some fn=>fn.name != "runtime.NumGoroutine" &&fn.body.isSome
 |none=>false
theorem nZ{f:FuncId}(h:qp P f=true)(args:Array Value)(w:World):(callFunc f args).run P w= .ok (.enter f args) w:=by
 unfold qp at h;split at h
 ·rename_i fn hf;simp only[z06,bne_iff_ne,ne_eq,z2c] at h;obtain⟨h1,b,h2⟩:=h;simp[callFunc,hf,h1,h2]
 ·cases h
theorem sF{f:FuncId}(h:qp P f=true)(args:Array Value)(w:World)(es:Array Event):(callFunc f args).events P w es=es:=by
 unfold qp at h;split at h
 ·rename_i fn hf;simp only[z06,bne_iff_ne,ne_eq,z2c] at h;obtain⟨h1,b,h2⟩:=h;simp[callFunc,hf,h1,h2]
 ·cases h
variable {main:Bool} {F:Nat->Prop}
def qh(P:Program)(main:Bool)(F:Nat->Prop)(f:FuncId)(args:List SV)(m:List ay)(sv:SV)(m':List ay):Prop:=
 ∀ ρ J vs x,dh F ρ J m x->bT args J vs->yc P main F f vs.toArray x λv x'=> ∃ J',J.Le J'/\bK J' sv v/\dh F ρ J' m' x'
def iI(P:Program)(main:Bool)(F:Nat->Prop)(Γ:Hook):Prop:= ∀ f args m K,Γ f args m K->qp P f=true/\∃ sv m',K sv m'/\qh P main F f args m sv m'
section
variable {o:Oper} {σ:List SV} {m:List ay}
theorem bT.append{J:Env}:∀ {l1 l2:List SV} {v1 v2:List Value},bT l1 J v1->bT l2 J v2->bT (l1++l2) J (v1++v2)
 |[],l2,v1,v2,h1,h2=>by simp only[bT] at h1;subst h1;simpa using h2
 |x::r,l2,v1,v2,h1,h2=>by simp only[bT] at h1;obtain⟨cs,t,rfl,h3,h4⟩:=h1;simp only[z3d,bT];exact⟨cs,t++v2,rfl,h3,bT.append h4 h2⟩
theorem yD{Γ:Hook}(hΓ:iI P main F Γ){f:FuncId}{args:List SV}{K:SV->List ay->Prop}(h:Γ f args m K)
  (hrun:∀ J a,aH J σ a->∃ vs,bT args J vs/\(qp P f=true->∀ w,(execOp a.eval o).run P w= .ok (.enter f vs.toArray) w/\(execOp a.eval o).events P w #[]= #[])):
  ∃ sv m',K sv m'/\qm P main F o σ m sv m':=by
 obtain⟨hok,sv,m',hK,hc⟩:=hΓ f args m K h;refine⟨sv,m',hK,λρ J a x fn hi hs=> ?_⟩;obtain⟨vs,h1,h2⟩:=hrun J a hs;exact ahj (λw _=>h2 hok w) ((hc ρ J vs x hi h1).mono λv x' ⟨J',hl,hv,hi'⟩=>⟨v,J',rfl,hv,hl,hi'⟩)
theorem zQ{Γ:Hook}(hΓ:iI P main F Γ){f:FuncId}{args:Array Operand}{tys:Array TypeId}{ys:List aV}{K:SV->List ay->Prop}
  (ho:o.op= .call {callee:= .value (.func f),args,argTypes:=tys}) (hy:args.toList.mapM aP=some ys) (hv:(ys.map (·.ev σ)).all SV.isVal=true)
  (h:Γ f (ys.map (·.ev σ)) m K):∃ sv m',K sv m'/\qm P main F o σ m sv m':=by
 refine yD hΓ h λJ a hs=>⟨_,yA hs args.toList ys hy hv,λhok w=> ?_⟩;have:(args.toList.map a.eval).toArray=args.map a.eval:=by apply z0u;simp
 refine⟨?_,by simp[execOp,ho,resolve,Deferred.ofValue,invoke,Act.eval,sF hok]⟩
 simp[execOp,ho,resolve,Deferred.ofValue,invoke,Act.eval,nZ hok];apply z0u;simp
theorem Em{Γ:Hook}(hΓ:iI P main F Γ){x:Operand}{x':aV}{f:FuncId}{cap:List SV}{args:Array Operand}{tys:Array TypeId}{ys:List aV}{K:SV->List ay->Prop}
  (ho:o.op= .call {callee:= .value x,args,argTypes:=tys}) (hx:aP x=some x') (hf:x'.ev σ= .fn f cap) (hy:args.toList.mapM aP=some ys) (hv:(ys.map (·.ev σ)).all SV.isVal=true)
  (h:Γ f (ys.map (·.ev σ)++cap) m K):∃ sv m',K sv m'/\qm P main F o σ m sv m':=by
 refine yD hΓ h λJ a hs=> ?_;obtain⟨cv,h1,h2⟩:=afs (hf▸aB hx hs);refine⟨_,(yA hs args.toList ys hy hv).append h1,λhok w=> ?_⟩;simp[execOp,ho,resolve,h2,Deferred.ofValue,invoke,nZ hok,sF hok]
def aqL(P:Program)(nm:String)(t:TypeId):Option (TypeId×FuncId):=match P.info? t with
 |some i=>match i.methods.find? (·.name==nm) with
  |some mth=>match mth.func with
   |some (f,false)=>if mth.path.isEmpty then(match P.underlying t with
    |some (.pointer _)=>none
    |some _=>some (t,f)
    |none=>none) else none
   |_=>none
  |none=>none
 |none=>none
def ahq(P:Program)(nm:String):List (TypeId×FuncId):=(z2d P.types.size).filterMap (aqL P nm)
theorem TU{t:TypeId}{f:FuncId}:∀ {l:List (TypeId×FuncId)},Qk l t=some f->(t,f)∈l
 |[],h=>by cases h
 |(u,x)::r,h=>by
  simp only[Qk] at h;split at h
  ·rename_i hu;cases h;subst hu;exact z2w
  ·exact z14 _ (TU h)
theorem ahr{nm:String}{t:TypeId}{f:FuncId}(h:Qk (ahq P nm) t=some f):∀ (v:Value) (n:Nat) (w:World),(method (n+1) t v nm).run P w= .ok (f,v) w/\∀ es,(method (n+1) t v nm).events P w es=es:=by
 obtain⟨u,_,hu⟩:=z0w.1 (TU h);unfold aqL at hu;split at hu<;>try (cases hu;done)
 rename_i i hi;split at hu<;>try (cases hu;done)
 rename_i mth hm;split at hu<;>try (cases hu;done)
 rename_i f' hf;split at hu<;>try (cases hu;done)
 rename_i hp;split at hu<;>try (cases hu;done)
 rename_i d hnp hd;simp only[z00,z0e] at hu;obtain⟨rfl,rfl⟩:=hu;intro v n w;have hp':mth.path.toList=[]:=by simpa using hp
 have hrec:∀ wr,(receiverAt u (.val v) false wr).run P w= .ok v w:=by
  intro wr;simp only[receiverAt,z0b,run_underlying hd,Result.andThen_ok];cases d<;>first
   |exact absurd hd (hnp _)
   |rfl
 have hre:∀ wr es,(receiverAt u (.val v) false wr).events P w es=es:=by
  intro wr es;simp only[receiverAt,z1k,events_underlying,run_underlying hd,Result.evThen_ok];cases d<;>first
   |exact absurd hd (hnp _)
   |rfl
 exact⟨by simp[method,yx hi,hm,hp',follow,hf,hrec],λes=>by simp[method,yx hi,hm,hp',follow,hf,hre]⟩
theorem akW(r:Value)(b:Array Value):(#[r]++b)[0]? =some r:=by
 rw[Array.getElem?_append_left (by simp)]
 rfl
theorem abX(r:Value)(b:Array Value):(#[r]++b).extract 1 (#[r]++b).size=b:=by
 apply z0u;simp only[Array.toList_extract,z2x];simp only[List.extract,z2r,z3a,z0y,List.length_nil];rw[show(0+1+b.size - 1)=b.toList.length by simp]
 exact List.take_length
theorem En{Γ:Hook}(hΓ:iI P main F Γ){x:Operand}{nm:String}{x':aV}{t:TypeId}{v:SV}{f:FuncId}{args:Array Operand}{tys:Array TypeId}{ys:List aV}{K:SV->List ay->Prop}
  (ho:o.op= .call {callee:= .invoke x nm,args,argTypes:=tys}) (hx:aP x=some x') (hf:x'.ev σ= .iface t v) (ht:Qk (ahq P nm) t=some f) (hy:args.toList.mapM aP=some ys) (hv:(ys.map (·.ev σ)).all SV.isVal=true)
  (h:Γ f (v::ys.map (·.ev σ)) m K):∃ sv m',K sv m'/\qm P main F o σ m sv m':=by
 refine yD hΓ h λJ a hs=> ?_;obtain⟨xs,h1,h2⟩:=jC (hf▸aB hx hs);refine⟨boxed v.isAgg xs::_,by simp only[bT];exact⟨xs,_,rfl,h1,yA hs args.toList ys hy hv⟩,λhok w=> ?_⟩
 obtain⟨hm,hme⟩:=ahr ht (boxed v.isAgg xs) (P.types.size+99) w;simp only[execOp,ho,resolve,z0b,z0i,Result.andThen_ok,z1k,z2a,Result.evThen_ok,h2,invoke,akW,abX,callMethod];simp[Made.depth,hm,hme,nZ hok,sF hok]
theorem KJ{T E:TypeId}{w by':Nat}{z:SV}{l c:Operand}{l' c':aV}{kl kc:IntKind}{nl nc:Int}(ho:o.op= .makeSlice T l c)(ht:vM P T=some (E,w,by'))(hz':Oz P E=some z)
  (hl:aP l=some l') (hc:aP c=some c') (el:l'.ev σ= .int kl nl) (ec:c'.ev σ= .int kc nc) (h0:0<=nl) (hlc:nl<=nc) (hb:nc*by'<=140737488355328):
  iW P o σ m (.vec m.length nl.toNat) (m++[.vec E w (z09 nl.toNat z)]):=by
 intro β J a W hI hs;obtain⟨hu,i,zv,hi,hz,hsz,hby,hzs,hw0,hb0⟩:=Ac ht;obtain⟨i2,v2,e1,e2,e3⟩:=xW hz';rw[hi] at e1;cases e1;rw[hz] at e2;cases e2;have s1:=fG (el▸aB hl hs);have s2:=fG (ec▸aB hc hs);have hnc:nc<=9223372036854775807:=by
  have:nc*1<=nc*by':=Int.mul_le_mul_of_nonneg_left (by omega) (by omega)
  omega
 have hr:(execOp a.eval o).run P W= .ok (.value (.slice (some ⟨W.heap.size,0,none⟩) nl.toNat nc.toNat)) (W.alloc (.cells (madeCells zv.cells (nc.toNat*i.size)) E)):=by
  have:=run_make (P:=P) W T E i zv hu hi hz kl kc nl nc h0 hlc (by rw[hby,Int.mul_comm];omega) hnc
  simp[execOp,ho,s1,s2,this]
 have hcm:nc.toNat<=maxLen:=by unfold maxLen;omega
 subst hsz;have hzl:zv.cells.toList.length=i.size:=by simpa using hzs
 have hEz:=LQ (n:=nl.toNat) (e3 J) hzl;refine⟨_,_,J.more 0 (.slice (some ⟨W.heap.size,0,none⟩) nl.toNat nc.toNat), .inl hr,?_,J.dS _ _,hI.more (z2q _ _ _) (z0a _) ?_ ?_, .nil ?_⟩
 ·refine⟨[.slice (some ⟨W.heap.size,0,none⟩) nl.toNat nc.toNat],?_,rfl⟩;simp only[ah];refine⟨by simp[Env.more,hI.good.n], .inr ⟨W.heap.size,nc.toNat,?_,by omega⟩,?_⟩<;>simp[Env.more,hI.good.n]
 ·have hvv:(J.more 0 (.slice (some ⟨W.heap.size,0,none⟩) nl.toNat nc.toNat)).vv m.length= .slice (some ⟨W.heap.size,0,none⟩) nl.toNat nc.toNat:=by simp[Env.more,hI.good.n]
  refine⟨_,?_,λj hj=>(hEz.2 j hj).mono _ (J.dS _ _)⟩;rw[hvv];refine .of ⟨hEz.1, .inr ⟨W.heap.size,nc.toNat,madeCells zv.cells (nc.toNat*i.size),by simp,z1x _,heap_alloc_new W _,by simp;omega,hcm,by simp[madeCells],?_⟩⟩
  have hle:nl.toNat*i.size<=nc.toNat*i.size:=z1p _ (by omega)
  simp only[z1m];apply z0g;intro k;rw[List.getElem?_take];by_cases hk:k<nl.toNat*i.size
  ·rw[if_pos hk];simp[madeCells,hk,show k<nc.toNat*i.size by omega]
  ·rw[if_neg hk,z0r (by simp;omega)]
 ·intro x hx;simp[aS,Env.more,hI.good.n,z08] at hx;omega
 ·have hroom:nc.toNat*by'<=140737488355328:=by
   have:((nc.toNat*by':Nat):Int)<=140737488355328:=by rw[Int.natCast_mul,Int.toNat_of_nonneg (by omega)];exact hb
   omega
  have:=Conc.events_make (P:=P) W T E i zv hu hi hz kl kc nl nc h0 hlc (by rw[hby,Int.mul_comm];omega) hnc (by rw[hby];exact hroom) #[]
  simp[execOp,ho,s1,s2,this]
end
inductive zf:Type 1 where
 |p (x:vT)
 |e (x:EIO)
structure dP:Type 1 where
 dst:Option Nat
 guard:Option (Nat×Bool)
 op:zf
def Eh(P:Program):Op->Option EIO
 | .alloc T=>(Oz P T).map (.alloc T)
 | .box T x=>(aP x).map (.box T)
 | .load T x=>match aP x,rP P T with
  |some x,some (n,ag)=>some (.load n ag x)
  |_,_=>none
 | .store T x v=>match aP x,aP v,rP P T with
  |some x,some v,some (n,_)=>some (.store n x v)
  |_,_,_=>none
 | .buildSlice T len parts=>match P.underlying T with
  |some (.slice E)=>match Oz P E,rP P E,oh parts.toList with
   |some z,some (w,_),some ys=>if wd z=w/\len*w<=2^24/\0<w then some (.Ia E w len z ys) else none
   |_,_,_=>none
  |_=>none
 | .makeSlice T l c=>match vM P T,aP l,aP c with
  |some (E,w,by'),some l,some c=>match Oz P E with
   |some z=>some (.mks E w by' z l c)
   |none=>none
  |_,_,_=>none
 | .call c=>match vW P (.call c) with
  |some p=>some (.L9 p.1 p.2)
  |none=>aew P c
 |op=>(vW P op).map λp=> .L9 p.1 p.2
where aew (P:Program) (c:Call):Option EIO:=
 match c.callee with
 | .builtin .append=>match c.args.toList,c.argTypes.toList with
  |[s,x],[t,t']=>if t'=t then match vM P t,aP s,aP x with
    |some (E,w,by'),some s,some x=>some (.app E w by' s x)
    |_,_,_=>none
   else none
  |_,_=>none
 | .value (.func f)=>(c.args.toList.mapM aP).map (.call f)
 | .value x=>match aP x,c.args.toList.mapM aP with
  |some x,some ys=>some (.fO x ys)
  |_,_=>none
 | .invoke x nm=>match aP x,c.args.toList.mapM aP with
  |some x,some ys=>some (.Ed (ahq P nm) x ys)
  |_,_=>none
 |_=>none
theorem Yt{op:Op}{k:MK}{ys:List aV}(h:vW P op=some (k,ys)):Eh P op=some (.L9 k ys):=by
 cases op<;>simp only[vW] at h<;>try (cases h;done)
 all_goals simp only[Eh,vW,h,z1d]
def kT(Γ:Hook)(σ:List SV)(m:List ay)(K:List SV->SV->List ay->Prop):EIO->Prop
 | .alloc T z=>K σ (.ptr m.length [] 0) (m++[.blk T z])
 | .box T x=>(x.ev σ).isVal=true/\K σ (.ptr m.length [] 0) (m++[.blk T (x.ev σ)])
 | .load n ag x=>peek m n ag (λsv=>K σ sv m) (x.ev σ)
 | .store n x v=>F5 m n (v.ev σ) (λm'=>K σ .junk m') (x.ev σ)
 | .Ia E w len z ys=>dJ σ w (z09 len z) ys λl=>K σ (.vec m.length len) (m++[.vec E w l])
 | .mks E w by' z l c=>match l.ev σ,c.ev σ with
  | .int _ a, .int _ b=>(0<=a/\a<=b/\b*by'<=140737488355328)/\K σ (.vec m.length a.toNat) (m++[.vec E w (z09 a.toNat z)])
  |_,_=>False
 | .app E w by' s x=>ae9 σ m E w by' (s.ev σ) (x.ev σ) K
 | .call f ys=>(ys.map (·.ev σ)).all SV.isVal=true/\Γ f (ys.map (·.ev σ)) m λsv m'=>K σ sv m'
 | .nD f ys=>(ys.map (·.ev σ)).all SV.isVal=true/\Γ f (ys.map (·.ev σ)) m λsv m'=>m'=m/\K σ sv m
 | .ET l=>K σ (.lst 1 (0:Int) (SV.int .i64) l) m
 | .Dj E w len z ys=>dJ σ w (z09 len z) ys λl=>Au l/\K σ (Vd w len l) m
 | .again n ag x d=>(σ.getD d .junk).isVal=true/\peek m n ag (λsv=>sv=σ.getD d .junk/\K σ .junk m) (x.ev σ)
 | .sW k ys d=>(σ.getD d .junk).isSet=true/\(ys.map (·.ev σ)).all SV.isVal=true/\pR m k (ys.map (·.ev σ)) (λsv m'=>(sv=σ.getD d .junk/\m'=m)/\K σ .junk m)
 | .Ed tab x ys=>match x.ev σ with
  | .iface t v=>match Qk tab t with
   |some f=>(ys.map (·.ev σ)).all SV.isVal=true/\Γ f (v::ys.map (·.ev σ)) m λsv m'=>K σ sv m'
   |none=>False
  |_=>False
 | .fO x ys=>match x.ev σ with
  | .fn f cap=>(ys.map (·.ev σ)).all SV.isVal=true/\Γ f (ys.map (·.ev σ)++cap) m λsv m'=>K σ sv m'
  |_=>False
 | .L9 k ys=>(ys.map (·.ev σ)).all SV.isVal=true/\pR m k (ys.map (·.ev σ)) λsv m'=>K σ sv m'
theorem Xk{Γ:Hook}(hΓ:iI P main F Γ){o:Oper}{σ:List SV}{m:List ay}{K:List SV->SV->List ay->Prop}{e:EIO}(he:Eh P o.op=some e)(h:kT Γ σ m K e):
  ∃ σ' sv m',K σ' sv m'/\Oo P main F o σ m σ' sv m':=by
 cases hM:vW P o.op with
 |some p=>
  obtain⟨k,ys⟩:=p;rw[Yt hM] at he;cases he;obtain⟨sv,m',hK,hE,_⟩:=KD (K:=λsv m'=>K σ sv m') hM h.1 h.2;exact⟨_,_,_,hK,hE.up.step⟩
 |none=>
 cases ho:o.op<;>rw[ho] at he hM<;>simp only[Eh,hM,z2z] at he<;>try (cases he;done)
 case alloc T=>
  simp only[z02] at he;obtain⟨z,hz,rfl⟩:=he;exact⟨_,_,_,h,(Ei ho hz).up.step⟩
 case box T x=>
  simp only[z02] at he;obtain⟨x',hx,rfl⟩:=he;exact⟨_,_,_,h.2,(KF ho hx h.1).up.step⟩
 case buildSlice T len parts=>
  split at he<;>try (cases he;done)
  rename_i E hu;split at he<;>try (cases he;done)
  rename_i z w ag ys h1 h2 h3;split at he<;>try (cases he;done)
  rename_i hc;simp only[z00] at he;subst he;obtain⟨l,hK,hE⟩:=KH (m:=m) (σ:=σ) (K:=λl=>K σ (SV.vec m.length len) (m++[ay.vec E w l])) ho hu h1 h2 hc.1 hc.2.1 hc.2.2 h3 h;exact⟨_,_,_,hK,hE.up.step⟩
 case load T x=>
  split at he<;>try (cases he;done)
  rename_i x' n ag hx ht;simp only[z00] at he;subst he;obtain⟨sv,hK,hE⟩:=Ij (K:=λsv=>K σ sv m) ho hx ht h;exact⟨_,_,_,hK,hE.up.step⟩
 case store T x v=>
  split at he<;>try (cases he;done)
  rename_i x' v' n ag hx hv ht;simp only[z00] at he;subst he;obtain⟨m',hK,hE⟩:=Ej (K:=λm'=>K σ .junk m') ho hx hv ht h;exact⟨_,_,_,hK,hE.up.step⟩
 case makeSlice T l c=>
  split at he<;>try (cases he;done)
  rename_i E w by' l' c' ht hl hc
  split at he<;>try (cases he;done)
  rename_i z hz;simp only[z00] at he;subst he;simp only[kT] at h;split at h
  ·rename_i k1 a k2 b e1 e2;exact⟨_,_,_,h.2,(KJ ho ht hz hl hc e1 e2 h.1.1 h.1.2.1 h.1.2.2).up.step⟩
  ·exact h.elim
 case call c=>
  cases c with
  |mk callee args tys=>
  simp only[Eh.aew] at he;split at he
  ·rename_i ec;split at he<;>try (cases he;done)
   rename_i s x t t' ea et;split at he<;>try (cases he;done)
   rename_i htt;subst htt;split at he<;>try (cases he;done)
   rename_i E w by' s' x' h1 h2 h3
   simp only[z00] at he;subst he;obtain rfl:args= #[s,x]:=by apply z0u;simpa using ea
   obtain rfl:tys= #[t',t']:=by apply z0u;simpa using et
   obtain⟨σ',sv,m',hK,hE⟩:=abo ho h1 h2 h3 h;exact⟨σ',sv,m',hK,hE.up⟩
  ·rename_i f ec;simp only[z02] at he;obtain⟨ys,hy,rfl⟩:=he;obtain⟨sv,m',hK,hE⟩:=zQ (K:=λsv m'=>K σ sv m') hΓ ho hy h.1 h.2;exact⟨_,_,_,hK,hE.step⟩
  ·rename_i x hne;split at he<;>try (cases he;done)
   rename_i x' ys hx hy;simp only[z00] at he;subst he;simp only[kT] at h;split at h
   ·rename_i f cap hf;obtain⟨sv,m',hK,hE⟩:=Em (K:=λsv m'=>K σ sv m') hΓ ho hx hf hy h.1 h.2;exact⟨_,_,_,hK,hE.step⟩
   ·exact h.elim
  ·rename_i x nm arL;split at he<;>try (cases he;done)
   rename_i x' ys hx hy;simp only[z00] at he;subst he;simp only[kT] at h;split at h
   ·rename_i t v hf;split at h
    ·rename_i f hta;obtain⟨sv,m',hK,hE⟩:=En (K:=λsv m'=>K σ sv m') hΓ ho hx hf hta hy h.1 h.2;exact⟨_,_,_,hK,hE.step⟩
    ·exact h.elim
   ·exact h.elim
  ·cases he
end Go.Sx
namespace Go.Sx
open Go
variable {P:Program} {main:Bool} {F:Nat->Prop}
def qR(g:Option (Nat×Bool))(σ:List SV)(A B:List SV->Prop):Prop:=
 match g with
 |none=>A σ
 |some (s,want)=>match σ.getD s .junk with
  | .bool b=>(b=want->A (σ.set s (.bool want)))/\(b=(!want)->B (σ.set s (.bool (!want))))
  | .cu []=>B σ
  |_=>False
def opK(Γ:Hook)(σ:List SV)(m:List ay)(K:List SV->SV->List ay->Prop):zf->Prop
 | .p p=>aW σ (λsv=>K σ sv m) p
 | .e e=>kT Γ σ m K e
def gV(d:Option Nat)(sv:SV)(σ:List SV):List SV:=match d with
 |none=>σ
 |some d=>σ.set d sv
def uP(Γ:Hook):List dP->(List SV->List ay->Prop)->List SV->List ay->Prop
 |[],K,σ,m=>K σ m
 |o::r,K,σ,m=>qR o.guard σ (λK1=>opK Γ K1 m (λσ' sv m'=>uP Γ r K (gV o.dst sv σ') m') o.op) (λK1=>uP Γ r K (gV o.dst (.cu []) K1) m)
def vX(ops:Array Oper):Option (Nat×Bool)->Option (Option (Nat×Bool))
 |none=>some none
 |some (j,want)=>match (ops[j]?).bind (·.dst) with
  |some d=>some (some (d,want))
  |none=>none
def Ih(P:Program)(o:Op):Option zf:=match eF P o with
 |some p=>some (.p p)
 |none=>(Eh P o).map .e
def iV(P:Program)(ops:Array Oper)(o:Oper):Option dP:=match vX ops o.guard,Ih P o.op with
 |some g,some x=>some ⟨o.dst,g,x⟩
 |_,_=>none
theorem aH.put{J:Env}{σ:List SV}{a:Act}{sv:SV}{v:Value}(h:aH J σ a)(hv:bK J sv v)(d:Option Nat):aH J (gV d sv σ) (a.put d v):=by
 cases d with
 |none=>exact h
 |some d=>
  refine⟨by simp[gV,Act.put,h.1],λk=> ?_⟩
  have h1:=h.1;simp only[gV,Act.put];by_cases hk:d=k
  ·subst hk;by_cases hd:d<σ.length
   ·have hd':d<a.tmps.size:=by omega
    have e1:(σ.set d sv).getD d .junk=sv:=by simp[z05,hd]
    have e2:(a.tmps.setIfInBounds d v).getD d undef=v:=by simp[Array.getD,hd']
    rw[e1,e2];exact hv
   ·have e1:(σ.set d sv).getD d .junk= .junk:=by simp[z05,hd]
    rw[e1];trivial
  ·have e1:(σ.set d sv).getD k .junk=σ.getD k .junk:=by simp[z05,hk]
   have e2:(a.tmps.setIfInBounds d v).getD k undef=a.tmps.getD k undef:=by simp only[z01,z1w,if_neg hk]
   rw[e1,e2];exact h.2 k
theorem put_defers(a:Act)(d:Option Nat)(v:Value):(a.put d v).defers=a.defers:=by cases d<;>rfl
theorem aH.known{J:Env}{σ:List SV}{a:Act}(h:aH J σ a){s:Nat}{b:Bool}(hb:σ.getD s .junk= .bool b):aH J (σ.set s (.bool b)) a:=by
 refine⟨by simp[h.1],λk=> ?_⟩
 by_cases hk:s=k
 ·subst hk;have:(σ.set s (.bool b)).getD s .junk=σ.getD s .junk\/(σ.set s (.bool b)).getD s .junk= .junk:=by
   by_cases hs:s<σ.length
   ·left;rw[hb];simp[z05,hs]
   ·right;simp[z05,hs]
  rcases this with e|e<;>rw[e]
  ·exact h.2 s
  ·trivial
 ·have:(σ.set s (.bool b)).getD k .junk=σ.getD k .junk:=by simp[z05,hk]
  rw[this];exact h.2 k
theorem yR{ops:Array Oper}{o:Oper}{a:Act}{J:Env}{σ:List SV}(h:aH J σ a){s:Nat}{want b:Bool}(hg:vX ops o.guard=some (some (s,want)))(hb:σ.getD s .junk= .bool b):
  Region.wanted o (yielded ops a.tmps)=(b==want):=by
 cases ho:o.guard with
 |none=>rw[ho] at hg;simp[vX] at hg
 |some g=>
  obtain⟨j,w'⟩:=g;rw[ho] at hg;simp only[vX] at hg;split at hg<;>try (cases hg;done)
  rename_i d hd;simp only[z00,z0e] at hg;obtain⟨rfl,rfl⟩:=hg;have:=kG (hb▸h.2 d);have h2:a.tmps[d]? =some (.bool b):=by
   rw[z01] at this;cases hh:a.tmps[d]? with
   |none=>rw[hh] at this;simp[undef] at this
   |some v=>rw[hh] at this;simpa using this
  simp only[Region.wanted,ho,yielded,hd,z0l,h2];cases b<;>cases w'<;>rfl
theorem lM{J:Env}:bK J (.cu []) undef:=⟨[],by simp only[bT],rfl⟩
theorem nV{ops:Array Oper}{o:Oper}{a:Act}{J:Env}{σ:List SV}(h:aH J σ a){s:Nat}{want:Bool}(hg:vX ops o.guard=some (some (s,want)))(hb:σ.getD s .junk= .cu []):
  Region.wanted o (yielded ops a.tmps)=false:=by
 cases ho:o.guard with
 |none=>rw[ho] at hg;simp[vX] at hg
 |some g=>
  obtain⟨j,w'⟩:=g;rw[ho] at hg;simp only[vX] at hg;split at hg<;>try (cases hg;done)
  rename_i d hd;simp only[z00,z0e] at hg;obtain⟨rfl,rfl⟩:=hg;obtain⟨vs,h1,this⟩:=YN (hb▸h.2 d);simp only[bT] at h1;subst h1;simp only[Region.wanted,ho,yielded,hd,z0l];rw[z01] at this;cases hh:a.tmps[d]? with
  |none=>rfl
  |some v=>
   rw[hh] at this;simp only[z2v] at this;subst this;rfl
theorem Ef{o:Oper}{σ:List SV}{m:List ay}{sv:SV}(h:dK P o σ sv):iW P o σ m sv m:=by intro β J a w hi hs;obtain⟨v,hr,hv⟩:=h J a hs;exact⟨v,w,J, .inl (hr w).1,hv,Env.Le.refl J,hi, .nil (hr w).2⟩
theorem DI{Γ:Hook}(hΓ:iI P main F Γ){o:Oper}{σ:List SV}{m:List ay}{K:List SV->SV->List ay->Prop}{x:zf}(hx:Ih P o.op=some x)(h:opK Γ σ m K x):
  ∃ σ' sv m',K σ' sv m'/\Oo P main F o σ m σ' sv m':=by
 unfold Ih at hx;split at hx
 ·rename_i p hp;simp only[z00] at hx;subst hx;obtain⟨sv,hK,hpure⟩:=Ii (K:=λsv=>K σ sv m) hp h;exact⟨_,_,_,hK,(Ef hpure).up.step⟩
 ·simp only[z02] at hx;obtain⟨e,he,rfl⟩:=hx;exact Xk hΓ he h
theorem qg{Γ:Hook}(hΓ:iI P main F Γ){fn:FuncId}{ops:Array Oper}{Q:Exit->Act->OW->Prop}{ρ:Root}{d:List Deferred}:∀ (l:List Oper) (aT:List dP) (σ:List SV) (m:List ay) (K:List SV->List ay->Prop),
  l.mapM (iV P ops)=some aT->uP Γ aT K σ m->(∀ σ' m' J' a' x',K σ' m'->dh F ρ J' m' x'->aH J' σ' a'->a'.defers=d->Q .normal a' x')->
  ∀ J a x,dh F ρ J m x->aH J σ a->a.defers=d->Aa P main F fn ops Q l a x
 |[],aT,σ,m,K,hc,h,hK,J,a,w,hi,hs,hd=>by
  simp at hc;subst hc;exact Xl (hK σ m J a w h hi hs hd)
 |o::l,aT,σ,m,K,hc,h,hK,J,a,w,hi,hs,hd=>by
  simp only[z1o,bind,z1c] at hc;obtain⟨io,ho,hc⟩:=bind_some hc;obtain⟨um,hc',hc⟩:=bind_some hc;simp only[z00] at hc;subst hc;simp only[iV] at ho;split at ho<;>try (cases ho;done)
  rename_i g x hg hx;simp only[z00] at ho;subst ho;simp only[uP] at h;have go:∀ K1,aH J K1 a->opK Γ K1 m (λσ' sv m'=>uP Γ um K (gV o.dst sv σ') m') x->CB P main F fn o a (Aa P main F fn ops Q l) w:=by intro K1 hs1 h1;obtain⟨σ',sv,m',h2,hE⟩:=DI hΓ hx h1;refine CB.mono ?_ (hE ρ J a w fn hi hs1);rintro a' w' ⟨v,J',rfl,hv,hs',hi'⟩;exact qg hΓ l um _ _ K hc' h2 hK J' _ w' hi' (hs'.put hv o.dst) (by rw[put_defers];exact hd)
  cases g with
  |none=>
   have hgn:o.guard=none:=by
    cases hog:o.guard with
    |none=>rfl
    |some g=>rw[hog] at hg;simp only[vX] at hg;split at hg<;>cases hg
   refine xU ?_;rw[if_pos (by simp[Region.wanted,hgn])]
   exact go σ hs h
  |some g=>
   obtain⟨s,want⟩:=g;simp only[qR] at h;split at h
   ·rename_i b hb;have hw:=yR hs hg hb;refine xU ?_;rw[hw];by_cases hbw:b=want
    ·subst hbw;rw[if_pos (by simp)]
     exact go _ (hs.known hb) (h.1 rfl)
    ·have hbn:b= !want:=by cases b<;>cases want<;>first|rfl|exact absurd rfl hbw
     rw[if_neg (by simpa using hbw)]
     subst hbn;have hs2:=hs.known hb;exact qg hΓ l um _ _ K hc' (h.2 rfl) hK J _ w hi (aH.put (sv:= .cu []) (v:=undef) hs2 lM o.dst) (by rw[put_defers];exact hd)
   ·rename_i hb;have hw:=nV hs hg hb;refine xU ?_;rw[hw];rw[if_neg (by simp)]
    exact qg hΓ l um _ _ K hc' h hK J _ w hi (aH.put (sv:= .cu []) (v:=undef) hs lM o.dst) (by rw[put_defers];exact hd)
   ·exact h.elim
end Go.Sx
namespace Go.Sx
open Go
variable {P:Program} {main:Bool} {F:Nat->Prop}
def aV.sl:aV->List Nat
 | .t n=>[n]
 | .c _=>[]
def aa4:Option aV->List Nat
 |none=>[]
 |some x=>x.sl
def vT.sl:vT->List Nat
 | .mv x| .nt x| .neg x| .conv _ x| .fa _ _ x| .lQ _ _ _ _ x| .ext _ x| .len x| .lens x| .nck x| .ER _ x| .GY _ x| .Nw _ x| .tas _ _ x| .asl _ _ x=>x.sl
 | .pick c x y=>c.sl++x.sl++y.sl
 | .ar _ x y| .cmp _ x y| .beq _ x y| .seq _ x y| .cat x y| .ia _ _ x y| .is _ x y| .ix _ _ _ x y| .sx x y| .mx x y| .mn x y| .aeq _ _ x y| .ieq _ _ x y=>x.sl++y.sl
 | .AU _ ps=>ps.flatMap λp=>p.2.2.2.sl
 | .PS _ c=>c.flatMap aV.sl
 | .ssl x lo hi=>x.sl++aa4 lo++aa4 hi
 | .slc _ x lo hi m3=>x.sl++aa4 lo++aa4 hi++aa4 m3
def EIO.sl:EIO->List Nat
 | .alloc _ _=>[]
 | .box _ x| .load _ _ x=>x.sl
 | .store _ x v=>x.sl++v.sl
 | .Ia _ _ _ _ ps=>ps.flatMap λp=>p.2.sl
 | .mks _ _ _ _ l c=>l.sl++c.sl
 | .app _ _ _ s x=>s.sl++x.sl
 | .call _ ys| .nD _ ys=>ys.flatMap aV.sl
 | .fO x ys=>x.sl++ys.flatMap aV.sl
 | .Ed _ x ys=>x.sl++ys.flatMap aV.sl
 | .ET _=>[]
 | .Dj _ _ _ _ ps=>ps.flatMap λp=>p.2.sl
 | .again _ _ x d=>d::x.sl
 | .sW _ ys d=>d::ys.flatMap aV.sl
 | .L9 _ ys=>ys.flatMap aV.sl
def zf.sl:zf->List Nat
 | .p x=>x.sl
 | .e x=>x.sl
def dP.sl(o:dP):List Nat:=(match o.guard with|none=>[]|some (s,_)=>[s])++o.op.sl
def Agree(ss:List Nat)(σ σ':List SV):Prop:= ∀ k∈ss,σ'.getD k .junk=σ.getD k .junk
theorem Agree.ev{ss:List Nat}{σ σ':List SV}(h:Agree ss σ σ'){x:aV}(hx:∀ k∈x.sl,k∈ss):x.ev σ'=x.ev σ:=by
 cases x with
 |t n=>exact h n (hx n (by simp[aV.sl]))
 |c v=>rfl
theorem xA{ss:List Nat}{σ σ':List SV}(h:Agree ss σ σ'):∀ (ys:List aV),(∀ k∈ys.flatMap aV.sl,k∈ss)->ys.map (·.ev σ')=ys.map (·.ev σ)
 |[],_=>rfl
 |y::ys,hk=>by simp only[z0k];rw[h.ev (x:=y) (λk hk'=>hk k (by simp[hk'])),xA h ys (λk hk'=>hk k (by simp only[z1t,z04];exact .inr hk'))]
theorem aeu{ss:List Nat}{σ σ':List SV}(h:Agree ss σ σ'){K:SV->Prop}:∀ (ps:List (List Step×Nat×Nat×aV)) (z:SV),(∀ k∈ps.flatMap λp=>p.2.2.2.sl,k∈ss)->gK σ' z ps K=gK σ z ps K
 |[],_,_=>rfl
 |(p,o,n,x)::r,z,hk=>by
  have e:=h.ev (x:=x) (λk hk'=>hk k (by simp[hk']))
  simp only[gK,e];rw[aeu h r _ (λk hk'=>hk k (by simp only[z1t,z04];exact .inr hk'))]
theorem Wh{ss:List Nat}{σ σ':List SV}(h:Agree ss σ σ'){w:Nat}{K:List SV->Prop}:∀ (ps:List (Nat×aV)) (z:List SV),(∀ k∈ps.flatMap λp=>p.2.sl,k∈ss)->dJ σ' w z ps K=dJ σ w z ps K
 |[],_,_=>rfl
 |(k0,x)::r,z,hk=>by
  have e:=h.ev (x:=x) (λk hk'=>hk k (by simp[hk']))
  simp only[dJ,e];rw[Wh h r _ (λk hk'=>hk k (by simp only[z1t,z04];exact .inr hk'))]
theorem xB{ss:List Nat}{σ σ':List SV}(h:Agree ss σ σ'){d:Nat}{x:Option aV}{K:Nat->Prop}(hx:∀ k∈aa4 x,k∈ss):aW.bound σ' d x K=aW.bound σ d x K:=by
 cases x with
 |none=>rfl
 |some x=>simp only[aW.bound,h.ev (x:=x) hx]
theorem aju{ss:List Nat}{σ σ':List SV}(h:Agree ss σ σ'){K:SV->Prop}{p:vT}(hp:∀ k∈p.sl,k∈ss):aW σ' K p=aW σ K p:=by
 cases p with
 |AU z ps=>simp only[aW];exact aeu h ps z hp
 |PS f c=>simp only[aW,xA h c hp]
 |pick c x y=>
  simp only[vT.sl,z04] at hp;simp only[aW,h.ev (x:=c) (λk hk=>hp k (.inl (.inl hk))),h.ev (x:=x) (λk hk=>hp k (.inl (.inr hk))),h.ev (x:=y) (λk hk=>hp k (.inr hk))]
 |ssl x lo hi=>
  simp only[vT.sl,z04] at hp;simp only[aW,h.ev (x:=x) (λk hk=>hp k (.inl (.inl hk))),xB h (x:=lo) (λk hk=>hp k (.inl (.inr hk))),xB h (x:=hi) (λk hk=>hp k (.inr hk))]
 |slc w x lo hi m3=>
  simp only[vT.sl,z04] at hp;simp only[aW,h.ev (x:=x) (λk hk=>hp k (.inl (.inl (.inl hk)))),xB h (x:=lo) (λk hk=>hp k (.inl (.inl (.inr hk)))),xB h (x:=hi) (λk hk=>hp k (.inl (.inr hk)))];cases m3 with
  |none=>cases aV.ev σ x<;>rfl
  |some c=>
   have hc:∀ (d:Nat) (K:Nat->Prop),aW.bound σ' d (some c) K=aW.bound σ d (some c) K:=λd K=>xB h (x:=some c) (λk hk=>hp k (.inr hk));cases aV.ev σ x<;>first|rfl|simp only[hc]
 |ar o x y|cmp o x y|beq o x y|seq o x y|cat x y|ia _ _ x y|is _ x y|ix _ _ _ x y|sx x y|mx x y|mn x y|aeq _ _ x y|ieq _ _ x y=>
  simp only[vT.sl,z04] at hp;simp only[aW,h.ev (x:=x) (λk hk=>hp k (.inl hk)),h.ev (x:=y) (λk hk=>hp k (.inr hk))]
 |mv x|nt x|neg x|conv _ x|fa _ _ x|lQ _ _ _ _ x|ext _ x|len x|lens x|nck x|ER _ x|GY _ x|Nw _ x|tas _ _ x|asl _ _ x=>
  simp only[aW,h.ev (x:=x) hp]
def jq(Γ:Hook)(σ:List SV)(m:List ay)(K:SV->List ay->Prop):zf->Prop
 | .p p=>aW σ (λsv=>K sv m) p
 | .e (.app E w by' s x)=>Ql m E w by' (s.ev σ) (x.ev σ) K
 | .e e=>kT Γ σ m (λ_ sv m'=>K sv m') e
theorem ajv{Γ:Hook}{ss:List Nat}{σ σ':List SV}(h:Agree ss σ σ'){m:List ay}{K:SV->List ay->Prop}{e:EIO}(hp:∀ k∈e.sl,k∈ss)(hd:jq Γ σ m K (.e e)):jq Γ σ' m K (.e e):=by
 cases e with
 |alloc T z=>exact hd
 |box T x=>simp only[jq,kT,h.ev (x:=x) hp] at hd ⊢;exact hd
 |load n ag x=>simp only[jq,kT,h.ev (x:=x) hp] at hd ⊢;exact hd
 |store n x v=>
  simp only[EIO.sl,z04] at hp;simp only[jq,kT,h.ev (x:=x) (λk hk=>hp k (.inl hk)),h.ev (x:=v) (λk hk=>hp k (.inr hk))] at hd ⊢;exact hd
 |Ia E w len z ps=>simp only[jq,kT] at hd ⊢;rw[Wh h ps _ hp];exact hd
 |mks E w b z x y=>
  simp only[EIO.sl,z04] at hp;simp only[jq,kT,h.ev (x:=x) (λk hk=>hp k (.inl hk)),h.ev (x:=y) (λk hk=>hp k (.inr hk))] at hd ⊢;exact hd
 |app E w b x y=>
  simp only[EIO.sl,z04] at hp;simp only[jq,h.ev (x:=x) (λk hk=>hp k (.inl hk)),h.ev (x:=y) (λk hk=>hp k (.inr hk))] at hd ⊢;exact hd
 |call f ys=>simp only[jq,kT,xA h ys hp] at hd ⊢;exact hd
 |nD f ys=>simp only[jq,kT,xA h ys hp] at hd ⊢;exact hd
 |ET l=>exact hd
 |Dj E w len z ps=>simp only[jq,kT] at hd ⊢;rw[Wh h ps _ hp];exact hd
 |L9 k ys=>simp only[jq,kT,xA h ys hp] at hd ⊢;exact hd
 |again n ag x d=>
  have hd':σ'.getD d .junk=σ.getD d .junk:=h d (hp d (by simp[EIO.sl]))
  simp only[jq,kT,h.ev (x:=x) (λk hk=>hp k (by simp only[EIO.sl,z0p];exact .inr hk)),hd'] at hd ⊢;exact hd
 |sW k ys d=>
  have hd':σ'.getD d .junk=σ.getD d .junk:=h d (hp d (by simp[EIO.sl]))
  simp only[jq,kT,xA h ys (λk hk=>hp k (by simp only[EIO.sl,z0p];exact .inr hk)),hd'] at hd ⊢;exact hd
 |fO x ys=>
  simp only[EIO.sl,z04] at hp;simp only[jq,kT,h.ev (x:=x) (λk hk=>hp k (.inl hk)),xA h ys (λk hk=>hp k (.inr hk))] at hd ⊢;exact hd
 |Ed tab x ys=>
  simp only[EIO.sl,z04] at hp;simp only[jq,kT,h.ev (x:=x) (λk hk=>hp k (.inl hk)),xA h ys (λk hk=>hp k (.inr hk))] at hd ⊢;exact hd
theorem ajw{Γ:Hook}{ss:List Nat}{σ σ':List SV}(h:Agree ss σ σ'){m:List ay}{K:SV->List ay->Prop}{x:zf}(hp:∀ k∈x.sl,k∈ss)(hd:jq Γ σ m K x):jq Γ σ' m K x:=by
 cases x with
 |p p=>simp only[jq] at hd ⊢;rw[aju h hp];exact hd
 |e e=>exact ajv h hp hd
def Q5(quiet:FuncId->Bool):Bool:= !quiet 999999999
def eG(quiet:FuncId->Bool):zf->zf
 | .e (.call f ys)=>if quiet f then .e (.nD f ys) else .e (.call f ys)
 | .e (.Ia E w len z ys)=>match Ic 0 ys with
  |some l=>if w=1/\len=l.length then .e (.ET l) else if Q5 quiet then .e (.Dj E w len z ys) else .e (.Ia E w len z ys)
  |none=>if Q5 quiet then .e (.Dj E w len z ys) else .e (.Ia E w len z ys)
 |x=>x
def zf.impure:zf->Bool
 | .p _=>false
 | .e (.ET ..)=>false
 | .e (.Dj ..)=>false
 | .e _=>true
def zf.eff:zf->Bool
 | .p _=>false
 | .e (.load ..)=>false
 | .e (.nD ..)=>false
 | .e (.ET ..)=>false
 | .e (.Dj ..)=>false
 | .e (.again ..)=>false
 | .e (.sW ..)=>false
 | .e (.L9 k _)=>k.eff
 | .e _=>true
def aev(P:Program)(main:Bool)(F:Nat->Prop)(o:Oper)(σ:List SV)(x:zf)(m:List ay)(sv:SV)(m':List ay):Prop:=
 (x.impure=false->∀ m2,qm P main F o σ m2 sv m2)/\qm P main F o σ m sv m'/\(x.eff=false->m'=m)
theorem Ie{o:Oper}{σ:List SV}{m:List ay}{sv:SV}(h:dK P o σ sv):qm P main F o σ m sv m:=(Ef h).up
theorem Ig{Γ:Hook}(hΓ:iI P main F Γ){quiet:FuncId->Bool}{o:Oper}{σ:List SV}{m:List ay}{K:SV->List ay->Prop}{x:zf}(hx:Ih P o.op=some x)(h:jq Γ σ m K (eG quiet x)):
  ∃ sv m',K sv m'/\aev P main F o σ (eG quiet x) m sv m':=by
 unfold Ih at hx;split at hx
 ·rename_i p hp;simp only[z00] at hx;subst hx;obtain⟨sv,hK,hpure⟩:=Ii (K:=λsv=>K sv m) hp h;exact⟨sv,m,hK,λ_ m2=>Ie hpure,Ie hpure,λ_=>rfl⟩
 ·simp only[z02] at hx;obtain⟨e,he,rfl⟩:=hx;cases hM:vW P o.op with
  |some p=>
   obtain⟨k,ys⟩:=p;rw[Yt hM] at he;cases he;obtain⟨sv,m',hK,hE,hq⟩:=KD (K:=K) hM h.1 h.2;exact⟨_,_,hK,(λhh=>by cases hh),hE.up,hq⟩
  |none=>
  cases ho:o.op<;>rw[ho] at he hM<;>simp only[Eh,hM,z2z] at he<;>try (cases he;done)
  case alloc T=>
   simp only[z02] at he;obtain⟨z,hz,rfl⟩:=he;exact⟨_,_,h,(λhh=>by cases hh),(Ei ho hz).up,(λhh=>by cases hh)⟩
  case box T x=>
   simp only[z02] at he;obtain⟨x',hx,rfl⟩:=he;exact⟨_,_,h.2,(λhh=>by cases hh),(KF ho hx h.1).up,(λhh=>by cases hh)⟩
  case buildSlice T len parts=>
   split at he<;>try (cases he;done)
   rename_i E hu;split at he<;>try (cases he;done)
   rename_i z w ag ys h1 h2 h3;split at he<;>try (cases he;done)
   rename_i hc;simp only[z00] at he;subst he;have plain:(eG quiet (.e (.Ia E w len z ys))= .e (.Ia E w len z ys)\/eG quiet (.e (.Ia E w len z ys))= .e (.Dj E w len z ys))->∃ sv m',K sv m'/\aev P main F o σ (eG quiet (.e (.Ia E w len z ys))) m sv m':=by
    intro hq;rcases hq with hq|hq
    ·rw[hq] at h ⊢;obtain⟨l,hK,hE⟩:=KH (m:=m) (σ:=σ) (K:=λl=>K (SV.vec m.length len) (m++[ay.vec E w l])) ho hu h1 h2 hc.1 hc.2.1 hc.2.2 h3 h;exact⟨_,_,hK,(λhh=>by cases hh),hE.up,(λhh=>by cases hh)⟩
    ·rw[hq] at h ⊢;obtain⟨sv,hK,hE⟩:=Wi (σ:=σ) (K:=λsv=>K sv m) ho hu h1 h2 hc.1 hc.2.1 hc.2.2 h3 h;exact⟨_,_,hK,λ_ m2=>(hE m2).up,(hE m).up,λ_=>rfl⟩
   have two:∀ x:zf,(if Q5 quiet then zf.e (.Dj E w len z ys) else x)=x\/(if Q5 quiet then zf.e (.Dj E w len z ys) else x)=zf.e (.Dj E w len z ys):=λx=>by cases Q5 quiet<;>simp
   cases htab:Ic 0 ys with
   |none=>exact plain (by simp only[eG,htab];exact two _)
   |some l=>
    by_cases hwl:w=1/\len=l.length
    ·have hq:eG quiet (.e (.Ia E w len z ys))= .e (.ET l):=by simp only[eG,htab,if_pos hwl]
     rw[hq] at h ⊢;obtain⟨rfl,hll⟩:=hwl;exact⟨_,_,h,λ_ m2=>(KI ho hu h1 h2 hc.1 hc.2.1 h3 htab hll).up,(KI ho hu h1 h2 hc.1 hc.2.1 h3 htab hll).up,λ_=>rfl⟩
    ·exact plain (by simp only[eG,htab,if_neg hwl];exact two _)
  case load T x=>
   split at he<;>try (cases he;done)
   rename_i x' n ag hx ht;simp only[z00] at he;subst he;obtain⟨sv,hK,hE⟩:=Ij (K:=λsv=>K sv m) ho hx ht h;exact⟨_,_,hK,(λhh=>by cases hh),hE.up,λ_=>rfl⟩
  case store T x v=>
   split at he<;>try (cases he;done)
   rename_i x' v' n ag hx hv ht;simp only[z00] at he;subst he;obtain⟨m',hK,hE⟩:=Ej (K:=λm'=>K .junk m') ho hx hv ht h;exact⟨_,_,hK,(λhh=>by cases hh),hE.up,(λhh=>by cases hh)⟩
  case makeSlice T l c=>
   split at he<;>try (cases he;done)
   rename_i E w by' l' c' ht hl hc
   split at he<;>try (cases he;done)
   rename_i z hz;simp only[z00] at he;subst he;simp only[eG,jq,kT] at h;split at h
   ·rename_i k1 a k2 b e1 e2;exact⟨_,_,h.2,(λhh=>by cases hh),(KJ ho ht hz hl hc e1 e2 h.1.1 h.1.2.1 h.1.2.2).up,(λhh=>by cases hh)⟩
   ·exact h.elim
  case call c=>
   cases c with
   |mk callee args tys=>
   simp only[Eh.aew] at he;split at he
   ·rename_i ec;split at he<;>try (cases he;done)
    rename_i s x t t' ea et;split at he<;>try (cases he;done)
    rename_i htt;subst htt;split at he<;>try (cases he;done)
    rename_i E w by' s' x' h1 h2 h3
    simp only[z00] at he;subst he;obtain rfl:args= #[s,x]:=by apply z0u;simpa using ea
    obtain rfl:tys= #[t',t']:=by apply z0u;simpa using et
    simp only[eG,jq] at h;obtain⟨sv,m',hK,hE⟩:=Wj ho h1 h2 h3 h;exact⟨_,_,hK,(λhh=>by cases hh),hE.up,(λhh=>by cases hh)⟩
   ·rename_i cc f;simp only[z02] at he;obtain⟨ys,hy,rfl⟩:=he;simp only[eG] at h ⊢;cases hq:quiet f with
    |false=>
     rw[hq] at h;obtain⟨sv,m',hK,hE⟩:=zQ hΓ ho hy h.1 h.2;exact⟨_,_,hK,(λhh=>by cases hh),hE,(λhh=>by cases hh)⟩
    |true=>
     rw[hq] at h;obtain⟨sv,m',⟨rfl,hK⟩,hE⟩:=zQ (K:=λsv m'=>m'=m/\K sv m) hΓ ho hy h.1 h.2;exact⟨_,_,hK,(λhh=>by cases hh),hE,λ_=>rfl⟩
   ·rename_i x hne;split at he<;>try (cases he;done)
    rename_i x' ys hx hy;simp only[z00] at he;subst he;simp only[eG,jq,kT] at h;split at h
    ·rename_i f cap hf;obtain⟨sv,m',hK,hE⟩:=Em hΓ ho hx hf hy h.1 h.2;exact⟨_,_,hK,(λhh=>by cases hh),hE,(λhh=>by cases hh)⟩
    ·exact h.elim
   ·rename_i x nm arL;split at he<;>try (cases he;done)
    rename_i x' ys hx hy;simp only[z00] at he;subst he;simp only[eG,jq,kT] at h;split at h
    ·rename_i t v hf;split at h
     ·rename_i f hta;obtain⟨sv,m',hK,hE⟩:=En hΓ ho hx hf hta hy h.1 h.2;exact⟨_,_,hK,(λhh=>by cases hh),hE,(λhh=>by cases hh)⟩
     ·exact h.elim
    ·exact h.elim
   ·cases he
end Go.Sx
namespace Go.Sx
open Go
variable {P:Program} {main:Bool} {F:Nat->Prop}
def iY(Γ:Hook):List dP->(List SV->List ay->Prop)->List SV->List ay->Prop
 |[],K,σ,m=>K σ m
 |o::r,K,σ,m=>qR o.guard σ (λK1=>jq Γ K1 m (λsv m'=>iY Γ r K (gV o.dst sv K1) m') o.op) (λK1=>iY Γ r K (gV o.dst (.cu []) K1) m)
def uj(ss:List Nat)(σ:List SV):List SV:=(z2d σ.length).map λk=>if ss.contains k then σ.getD k .junk else .junk
theorem abl(ss:List Nat)(σ:List SV):(uj ss σ).length=σ.length:=by simp[uj]
theorem Jc(ss:List Nat)(σ:List SV)(k:Nat):(uj ss σ).getD k .junk=if k∈ss then σ.getD k .junk else .junk:=by
 by_cases hk:k<σ.length
 ·simp[uj,z05,hk]
 ·simp[uj,z05,hk]
theorem Sm(ss:List Nat)(σ:List SV):Agree ss σ (uj ss σ):=λk hk=>by rw[Jc,if_pos hk]
def BH(g:Option (Nat×Bool))(σ:List SV)(b:Bool):Prop:=match g with
 |none=>b=true
 |some (s,want)=>(∃ t,σ.getD s .junk= .bool t/\(t==want)=b)\/(σ.getD s .junk= .cu []/\b=false)
def afv(P:Program)(main:Bool)(F:Nat->Prop)(o:Oper)(io:dP)(σ:List SV)(m:List ay)(sv:SV)(m':List ay):Prop:=
 (BH io.guard σ true/\aev P main F o (uj io.sl σ) io.op m sv m')\/(BH io.guard σ false/\sv= .cu []/\m'=m)
def Late(c:dP)(σ:List SV)(m:List ay):Prop:=(∀ n ag x d,c.op= .e (.again n ag x d)->BH c.guard σ true->(σ.getD d .junk).isVal=true/\peek m n ag (λsv=>sv=σ.getD d .junk) (x.ev σ))/\
 ∀ k ys d,c.op= .e (.sW k ys d)->BH c.guard σ true->(σ.getD d .junk).isSet=true/\(ys.map (·.ev σ)).all SV.isVal=true/\pR m k (ys.map (·.ev σ)) λsv m'=>sv=σ.getD d .junk/\m'=m
def Tr(P:Program)(main:Bool)(F:Nat->Prop)(rs:Nat->List dP):Nat->List (Oper×dP)->List SV->List ay->List (SV×List ay)->List SV->List ay->Prop
 |_,[],σ,m,ts,σe,me=>ts=[]/\σe=σ/\me=m
 |k,(o,io)::r,σ,m,ts,σe,me=> ∃ sv m' ts',ts=(sv,m')::ts'/\afv P main F o io σ m sv m'/\(∀ c∈rs k,Late c (gV io.dst sv σ) m')/\Tr P main F rs (k+1) r (gV io.dst sv σ) m' ts' σe me
def pK(P:Program)(quiet:FuncId->Bool)(ops:Array Oper)(o:Oper):Option dP:=(iV P ops o).map λio=> {io with op:=eG quiet io.op}
theorem set_self{σ:List SV}{s:Nat}{b:Bool}(h:σ.getD s .junk= .bool b):σ.set s (.bool b)=σ:=by
 apply z0g;intro k;rw[z19];by_cases hk:s=k
 ·subst hk;rw[if_pos rfl];by_cases hs:s<σ.length
  ·rw[if_pos hs];simp[z05,hs] at h;simp[hs,h]
  ·simp[z05,hs] at h
 ·rw[if_neg hk]
def afw(rs:Nat->List dP):Nat->List dP->List dP
 |_,[]=>[]
 |k,o::r=>o::(rs k++afw rs (k+1) r)
def Ou(c:dP):Prop:=c.dst=none/\((∃ n ag x d,c.op= .e (.again n ag x d))\/∃ k ys d,c.op= .e (.sW k ys d))
theorem afx{m:List ay}{k:MK}{xs:List SV}{A:SV->List ay->Prop}{B:Prop}(h:pR m k xs λsv m'=>A sv m'/\B):pR m k xs A/\B:=by cases k<;>simp only[pR] at h ⊢ <;>repeat' (first|exact h.elim|exact⟨h.1,h.2⟩|exact⟨⟨h.1,h.2.1⟩,h.2.2⟩|split at h)
theorem afy{m:List ay}{n:Nat}{ag:Bool}{A:SV->Prop}{B:Prop}{v:SV}(h:peek m n ag (λsv=>A sv/\B) v):peek m n ag A v/\B:=by
 cases v<;>simp only[peek] at h ⊢ <;>first
  |exact h.elim
  |exact⟨⟨h.1,h.2.1⟩,h.2.2⟩
  |(split at h<;>first|exact h.elim|(rename_i hm;exact⟨⟨h.1,h.2.1⟩,h.2.2⟩))
theorem yP{Γ:Hook}:∀ (cs:List dP),(∀ c∈cs,Ou c)->∀ {rest:List dP} {K:List SV->List ay->Prop} {σ:List SV} {m:List ay},iY Γ (cs++rest) K σ m->
  (∀ c∈cs,Late c σ m)/\iY Γ rest K σ m
 |[],_,rest,K,σ,m,h=>⟨λc hc=>(by cases hc),h⟩
 |c::cs,hcs,rest,K,σ,m,h=>by
  obtain⟨hd,ho⟩:=hcs c (z2w ..);obtain⟨dst,g,op⟩:=c;simp only at hd ho;subst hd;have done:jq Γ σ m (λsv m'=>iY Γ (cs++rest) K σ m') op->(∀ c∈(⟨none,g,op⟩:dP)::cs,Late c σ m)/\iY Γ rest K σ m:=by
   intro h;rcases ho with⟨n,ag,x,d,rfl⟩|⟨k,ys,d,rfl⟩
   ·obtain⟨h1,h2⟩:=h;obtain⟨h3,h4⟩:=afy h2;obtain⟨k1,k2⟩:=yP cs (λc hc=>hcs c (z14 _ hc)) h4;refine⟨λc hc=> ?_,k2⟩;rcases z0p.1 hc with rfl|hc
    ·refine⟨λn' ag' x' d' he hw=> ?_,λk ys d he=>by cases he⟩
     cases he;exact⟨h1,h3⟩
    ·exact k1 c hc
   ·obtain⟨h1,h0,h2⟩:=h;obtain⟨h3,h4⟩:=afx h2;obtain⟨k1,k2⟩:=yP cs (λc hc=>hcs c (z14 _ hc)) h4;refine⟨λc hc=> ?_,k2⟩;rcases z0p.1 hc with rfl|hc
    ·refine⟨λn' ag' x' d' he=>(by cases he),λk ys d he hw=> ?_⟩
     cases he;exact⟨h1,h0,h3⟩
    ·exact k1 c hc
  have skip:BH g σ false->iY Γ (cs++rest) K σ m->(∀ c∈(⟨none,g,op⟩:dP)::cs,Late c σ m)/\iY Γ rest K σ m:=by
   intro hw h;obtain⟨k1,k2⟩:=yP cs (λc hc=>hcs c (z14 _ hc)) h;refine⟨λc hc=> ?_,k2⟩;rcases z0p.1 hc with rfl|hc
   ·have no:¬ BH g σ true:=by
     intro hw';cases g with
     |none=>cases(show true=false from hw.symm.trans rfl▸rfl)
     |some g=>
      obtain⟨s,w⟩:=g;rcases hw with⟨t,e1,e2⟩|⟨e1,e2⟩<;>rcases hw' with⟨t',e3,e4⟩|⟨e3,e4⟩
      ·rw[e1] at e3;cases e3;rw[e2] at e4;cases e4
      ·cases e4
      ·rw[e1] at e3;cases e3
      ·cases e4
    exact⟨λ_ _ _ _ _ hw'=>(no hw').elim,λ_ _ _ _ hw'=>(no hw').elim⟩
   ·exact k1 c hc
  simp only[z3d,iY,gV] at h;cases g with
  |none=>exact done h
  |some g=>
   obtain⟨s,want⟩:=g;simp only[qR] at h;split at h
   ·rename_i b hb;by_cases hbw:b=want
    ·subst hbw;have h1:=h.1 rfl;rw[set_self hb] at h1;exact done h1
    ·have hbn:b= !want:=by cases b<;>cases want<;>first|rfl|exact absurd rfl hbw
     subst hbn;have h1:=h.2 rfl;rw[set_self hb] at h1;exact skip (.inl ⟨_,hb,by cases want<;>rfl⟩) h1
   ·rename_i hb;exact skip (.inr ⟨hb,rfl⟩) h
   ·exact h.elim
theorem Sr{Γ:Hook}(hΓ:iI P main F Γ){quiet:FuncId->Bool}{ops:Array Oper}{rs:Nat->List dP}(hrs:∀ k,∀ c∈rs k,Ou c):∀ (l:List Oper) (aT:List dP) (σ:List SV) (m:List ay) (K:List SV->List ay->Prop) (k:Nat),l.mapM (pK P quiet ops)=some aT->iY Γ (afw rs k aT) K σ m->
  ∃ ts σe me,K σe me/\Tr P main F rs k (l.zip aT) σ m ts σe me
 |[],aT,σ,m,K,k,hc,h=>by simp at hc;subst hc;exact⟨[],σ,m,h,rfl,rfl,rfl⟩
 |o::l,aT,σ,m,K,k,hc,h=>by
  simp only[z1o,bind,z1c] at hc;obtain⟨io,ho,hc⟩:=bind_some hc;obtain⟨um,hc',hc⟩:=bind_some hc;simp only[z00] at hc;subst hc;simp only[pK,z02] at ho;obtain⟨PK,ho0,rfl⟩:=ho;simp only[iV] at ho0;split at ho0<;>try (cases ho0;done)
  rename_i g x hg hx;simp only[z00] at ho0;subst ho0;simp only[afw,iY] at h;have go:jq Γ σ m (λsv m'=>iY Γ (rs k++afw rs (k+1) um) K (gV o.dst sv σ) m') (eG quiet x)->BH g σ true->
    ∃ ts σe me,K σe me/\Tr P main F rs k ((o,(⟨o.dst,g,eG quiet x⟩:dP))::l.zip um) σ m ts σe me:=by
   intro h1 hw;have h2:=ajw (Sm (dP.sl ⟨o.dst,g,eG quiet x⟩) σ) (λk hk=>by simp only[dP.sl,z04];exact .inr hk) h1
   obtain⟨sv,m',hK,hF⟩:=Ig hΓ hx h2;obtain⟨hl,hK⟩:=yP _ (hrs k) hK;obtain⟨ts,σe,me,h3,h4⟩:=Sr hΓ hrs l um _ _ K (k+1) hc' hK;exact⟨(sv,m')::ts,σe,me,h3,sv,m',ts,rfl, .inl ⟨hw,hF⟩,hl,h4⟩
  cases g with
  |none=>exact go h rfl
  |some g=>
   obtain⟨s,want⟩:=g;simp only[qR] at h;split at h
   ·rename_i b hb;by_cases hbw:b=want
    ·subst hbw;have h1:=h.1 rfl;rw[set_self hb] at h1;exact go h1 (.inl ⟨b,hb,by simp⟩)
    ·have hbn:b= !want:=by cases b<;>cases want<;>first|rfl|exact absurd rfl hbw
     subst hbn;have h1:=h.2 rfl;rw[set_self hb] at h1;obtain⟨hl,h1⟩:=yP _ (hrs k) h1;obtain⟨ts,σe,me,h3,h4⟩:=Sr hΓ hrs l um _ _ K (k+1) hc' h1;exact⟨(.cu [],m)::ts,σe,me,h3, .cu [],m,ts,rfl, .inr ⟨.inl ⟨_,hb,by cases want<;>rfl⟩,rfl,rfl⟩,hl,h4⟩
   ·rename_i hb;obtain⟨hl,h⟩:=yP _ (hrs k) h;obtain⟨ts,σe,me,h3,h4⟩:=Sr hΓ hrs l um _ _ K (k+1) hc' h;exact⟨(.cu [],m)::ts,σe,me,h3, .cu [],m,ts,rfl, .inr ⟨.inr ⟨hb,rfl⟩,rfl,rfl⟩,hl,h4⟩
   ·exact h.elim
def ov(S:Nat->Bool)(V:Nat->SV):List dP->Nat->List SV->List SV
 |[],_,σ=>σ
 |io::r,k,σ=>ov S V r (k+1) (if S k then gV io.dst (V k) σ else σ)
theorem Jd(d:Option Nat)(sv:SV)(σ:List SV):(gV d sv σ).length=σ.length:=by cases d<;>simp[gV]
theorem qX(S:Nat->Bool)(V:Nat->SV):∀ (aT:List dP) (k:Nat) (σ:List SV),(ov S V aT k σ).length=σ.length
 |[],_,_=>rfl
 |io::r,k,σ=>by
  simp only[ov];rw[qX S V r];split
  ·exact Jd _ _ _
  ·rfl
def kP(aT:List dP):List Nat:=aT.filterMap (·.dst)
theorem Ov(d:Option Nat)(sv:SV)(σ:List SV)(x:Nat):(gV d sv σ).getD x .junk=if d=some x/\x<σ.length then sv else σ.getD x .junk:=by
 cases d with
 |none=>simp[gV]
 |some d=>
  by_cases hx:d=x
  ·subst hx;by_cases hl:d<σ.length
   ·simp[gV,z05,hl]
   ·simp[gV,z05,hl]
  ·simp[gV,z05,hx]
theorem yQ(S:Nat->Bool)(V:Nat->SV)(x:Nat):∀ (aT:List dP) (k:Nat) (σ:List SV),(∀ (j:Nat) (io:dP),aT[j]? =some io->io.dst=some x->S (k+j)=false)->(ov S V aT k σ).getD x .junk=σ.getD x .junk
 |[],_,_,_=>rfl
 |io::r,k,σ,h=>by
  simp only[ov];rw[yQ S V x r (k+1) _ (λj BI h1 h2=>by have:=h (j+1) BI (by simpa using h1) h2;rwa [show k+(j+1)=k+1+j by omega] at this)]
  split
  ·rename_i hs;rw[Ov,if_neg];intro hx;have:=h 0 io rfl hx.1;rw[z0o,hs] at this;cases this
  ·rfl
theorem BJ(S:Nat->Bool)(V:Nat->SV)(x:Nat):∀ (aT:List dP) (k:Nat) (σ:List SV) (j:Nat) (io:dP),(kP aT).Nodup->aT[j]? =some io->io.dst=some x->S (k+j)=true->x<σ.length->(ov S V aT k σ).getD x .junk=V (k+j)
 |[],_,_,_,_,_,h,_,_,_=>by simp at h
 |i0::r,k,σ,0,io,hn,h,hd,hs,hx=>by
  simp only[z0f,z00] at h;subst h;simp only[ov];rw[z0o] at hs;rw[if_pos hs,yQ S V x r (k+1) _ (λj BI h1 h2=> ?_)]
  ·rw[Ov,if_pos ⟨hd,hx⟩];rfl
  ·exfalso;simp only[kP,z16,hd] at hn;have:=(z1g.1 hn).1;exact this (z0w.2 ⟨BI,z0z h1,h2⟩)
 |i0::r,k,σ,j+1,io,hn,h,hd,hs,hx=>by
  simp only[ov];have hn':(kP r).Nodup:=by
   unfold kP at hn ⊢;rw[z16] at hn;split at hn
   ·exact hn
   ·exact(z1g.1 hn).2
  rw[BJ S V x r (k+1) _ j io hn' (by simpa using h) hd (by rwa [show k+1+j=k+(j+1) by omega]) (by split<;>first|(rw[Jd];exact hx)|exact hx)]
  congr 1;omega
def an3(acc:List Nat)(s:Nat)(e:Edge):Nat:=if Region.binds .any e then s|||(1<<<e.on)|||acc.getD e.on 0 else s
def msk(acc:List Nat)(o:Oper):Nat:=o.after.toList.foldl (an3 acc) 0
def Oh:List Oper->List Nat->List Nat
 |[],acc=>acc
 |o::r,acc=>Oh r (acc++[msk acc o])
theorem Sv(acc:List Nat):∀ (es:List Edge) (s j:Nat),(es.foldl (an3 acc) s).testBit j=true->s.testBit j=true\/∃ e∈es,Region.binds .any e=true/\(e.on=j\/(acc.getD e.on 0).testBit j=true)
 |[],s,j,h=> .inl h
 |e::es,s,j,h=>by
  simp only[List.foldl_cons] at h;rcases Sv acc es _ j h with h|⟨e',h1,h2⟩
  ·unfold an3 at h;split at h
   ·rename_i hb;simp only[Nat.testBit_or,z1j] at h;rcases h with(h|h)|h
    ·exact .inl h
    ·refine .inr ⟨e,by simp,hb, .inl ?_⟩
     rw[Nat.one_shiftLeft,Nat.testBit_two_pow] at h;simpa using h
    ·exact .inr ⟨e,by simp,hb, .inr h⟩
   ·exact .inl h
  ·exact .inr ⟨e',by simp[h1],h2⟩
def Closed(ops:List Oper)(S:Nat->Bool):Prop:= ∀ i o,ops[i]? =some o->S i=true->∀ e∈o.after,Region.binds .any e=true->S e.on=true
theorem FC{ops:List Oper}{S:Nat->Bool}(hS:Closed ops S):∀ (r:List Oper) (acc:List Nat),(∀ i,r[i]? =ops[acc.length+i]?)->
  (∀ i o,ops[i]? =some o->i<acc.length->(∀ e∈o.after,Region.binds .any e=true->S e.on=true)->∀ j,(acc.getD i 0).testBit j=true->S j=true)->
  ∀ i o,ops[i]? =some o->i<acc.length+r.length->(∀ e∈o.after,Region.binds .any e=true->S e.on=true)->∀ j,((Oh r acc).getD i 0).testBit j=true->S j=true
 |[],acc,_,hacc,i,o,ho,hi,hd,j,hj=>hacc i o ho (by simpa using hi) hd j hj
 |o0::r,acc,hr,hacc,i,o,ho,hi,hd,j,hj=>by
  refine FC hS r (acc++[msk acc o0]) (λk=>by have:=hr (k+1);simpa[z2i,z2p 1 k] using this) ?_ i o ho (by simp at hi ⊢;omega) hd j hj
  intro i' o' ho' hi' hd' j' hj';by_cases hlt:i'<acc.length
  ·have:(acc++[msk acc o0]).getD i' 0=acc.getD i' 0:=by simp[z05,z0t hlt]
   rw[this] at hj';exact hacc i' o' ho' hlt hd' j' hj'
  ·have he:i'=acc.length:=by simp at hi';omega
   subst he;have:(acc++[msk acc o0]).getD acc.length 0=msk acc o0:=by simp[z05]
   rw[this] at hj';have ho0:o0=o':=by have:=hr 0;simp only[z0f,z0o] at this;rw[ho'] at this;exact z2y this
   subst ho0;rcases Sv acc _ 0 j' hj' with h|⟨e,h1,h2,h3⟩
   ·simp at h
   ·have hSe:=hd' e (by simpa using h1) h2
    rcases h3 with h3|h3
    ·rw[<- h3];exact hSe
    ·-- what precedes 'e.on'
     by_cases hel:e.on<acc.length
     ·cases hoe:ops[e.on]? with
      |none=>
       exfalso;have h4:ops.length<=e.on:=by simpa using hoe
       have h5:acc.length<ops.length:=(z0d.1 ho').1;omega
      |some oe=>exact hacc e.on oe hoe hel (λe2 he2 hb2=>hS e.on oe hoe hSe e2 he2 hb2) j' h3
     ·have:acc.getD e.on 0=0:=by simp[z05,z0r (z3f hel)]
      rw[this] at h3;simp at h3
def Ew(a b:dP):Bool:=
 (match a.dst with|some d=>b.sl.contains d|none=>false)||(match b.dst with|some d=>a.sl.contains d|none=>false)
def conf(a b:dP):Bool:=Ew a b||(a.op.eff&&b.op.impure)||(a.op.impure&&b.op.eff)
def EX(io:dP):Option dP:=match io.op,io.dst with
 | .e (.load n ag x),some d=>some ⟨none,io.guard, .e (.again n ag x d)⟩
 | .e (.L9 (.get ek ev z ok) ys),some d=>some ⟨none,io.guard, .e (.sW (.get ek ev z ok) ys d)⟩
 |_,_=>none
def clear(aT:List dP)(sl:List Nat)(i j:Nat):Bool:=aT.zipIdx.all λx=> !(decide (i<=x.2)&&decide (x.2<=j))||(match x.1.dst with
 |some d=> !sl.contains d
 |none=>true)
def xO(aT:List dP)(y x:dP)(i j:Nat):Bool:=(EX y).isSome&&x.op.eff&& !Ew y x&&clear aT y.sl i j
def chk(ops:List Oper)(aT:List dP):Bool:=
 let ps:=Oh ops []
 (ops.zipIdx.all λx=>x.1.after.toList.all λe=> !Region.binds .any e||decide (e.on<x.2))&&
 decide (kP aT).Nodup&&
 (aT.zipIdx.all λx=>aT.zipIdx.all λy=> !decide (y.2<x.2)|| !conf y.1 x.1||(ps.getD x.2 0).testBit y.2||xO aT y.1 x.1 y.2 x.2)
def xP(ops:List Oper)(aT:List dP)(j:Nat):List dP:=
 if (aT[j]?.map (·.op.eff)).getD false then aT.zipIdx.filterMap λx=>if decide (x.2<j)&& !((Oh ops []).getD j 0).testBit x.2 then EX x.1 else none else[]
def aug(ops:List Oper)(aT:List dP):List dP:=afw (xP ops aT) 0 aT
theorem Sz{S S':Nat->Bool}{V:Nat->SV}:∀ (aT:List dP) (k:Nat) (σ:List SV),(∀ j,j<aT.length->S (k+j)=S' (k+j))->ov S V aT k σ=ov S' V aT k σ
 |[],_,_,_=>rfl
 |io::r,k,σ,h=>by
  simp only[ov];have h0:=h 0 (by simp)
  rw[z0o] at h0;rw[h0];exact Sz r (k+1) _ (λj hj=>by have:=h (j+1) (by simp;omega);rwa [show k+(j+1)=k+1+j by omega] at this)
theorem mJ{S:Nat->Bool}{V:Nat->SV}:∀ (aT:List dP) (k:Nat) (σ:List SV),(∀ j,j<aT.length->S (k+j)=false)->ov S V aT k σ=σ
 |[],_,_,_=>rfl
 |io::r,k,σ,h=>by
  simp only[ov];have h0:=h 0 (by simp)
  rw[z0o] at h0;rw[h0];exact mJ r (k+1) _ (λj hj=>by have:=h (j+1) (by simp;omega);rwa [show k+(j+1)=k+1+j by omega] at this)
theorem afz{V:Nat->SV}{M:Nat->List ay}{rs:Nat->List dP}:∀ (l:List (Oper×dP)) (k:Nat) (σ:List SV) (m:List ay) (ts:List (SV×List ay)) (σe:List SV) (me:List ay),Tr P main F rs k l σ m ts σe me->M k=m->
  (∀ j t,ts[j]? =some t->V (k+j)=t.1/\M (k+j+1)=t.2)->
  (∀ j o io,l[j]? =some (o,io)->afv P main F o io (ov (λi=>decide (i<k+j)) V (l.map (·.2)) k σ) (M (k+j)) (V (k+j)) (M (k+j+1))/\∀ c∈rs (k+j),Late c (ov (λi=>decide (i<k+j+1)) V (l.map (·.2)) k σ) (M (k+j+1)))/\σe=ov (λ_=>true) V (l.map (·.2)) k σ/\me=M (k+l.length)
 |[],k,σ,m,ts,σe,me,h,hM,hts=>by
  obtain⟨rfl,rfl,rfl⟩:=h;exact⟨λj o io h=>by simp at h,rfl,hM.symm⟩
 |(o,io)::r,k,σ,m,ts,σe,me,h,hM,hts=>by
  obtain⟨sv,m',ts',rfl,hstep,aqa,htr⟩:=h;obtain⟨e1,e2⟩:=hts 0 (sv,m') rfl;rw[z0o] at e1 e2;obtain⟨i1,i2,i3⟩:=afz r (k+1) (gV io.dst sv σ) m' ts' σe me htr e2 (λj t ht=>by have:=hts (j+1) t (by simpa using ht);rwa [show k+(j+1)=k+1+j by omega] at this)
  refine⟨λj o' BI hj=> ?_,?_,by rw[i3];simp only[z0y];rw[show k+1+r.length=k+(r.length+1) by omega]⟩
  ·cases j with
   |zero=>
    simp only[z0f,z00,z0e] at hj;obtain⟨rfl,rfl⟩:=hj;refine⟨?_,?_⟩
    ·rw[z0o,mJ _ _ _ (λj _=>by simp),hM,e1,e2]
     exact hstep
    ·rw[z0o,e2];simp only[z0k,ov];rw[if_pos (by simp),e1,mJ _ _ _ (λj _=>by simp)]
     exact aqa
   |succ j=>
    have:=i1 j o' BI (by simpa using hj)
    rw[show k+1+j=k+(j+1) by omega] at this
    simp only[z0k,ov];rw[if_pos (by simp),if_pos (decide_eq_true (by omega)),e1]
    exact this
  ·rw[i2];simp only[z0k,ov,if_true,e1]
def top(aT:List dP)(S:Nat->Bool):Nat->Nat
 |0=>0
 |k+1=>if (aT[k]?.map (·.op.eff)).getD false&&S k then k+1 else top aT S k
theorem uo{aT:List dP}{S S':Nat->Bool}:∀ n,(∀ k,k<n->(aT[k]?.map (·.op.eff)).getD false=true->S k=S' k)->top aT S n=top aT S' n
 |0,_=>rfl
 |n+1,h=>by
  simp only[top];rw[uo n (λk hk he=>h k (by omega) he)]
  by_cases he:(aT[n]?.map (·.op.eff)).getD false=true
  ·rw[h n (by omega) he]
  ·simp only[Bool.not_eq_true] at he;simp[he]
theorem BK{aT:List dP}{S:Nat->Bool}{i:Nat}:∀ n,i<=n->(∀ k,i<=k->k<n->(aT[k]?.map (·.op.eff)).getD false=true->S k=false)->top aT S n=top aT S i
 |0,hi,_=>by
          have:i=0:=by omega
          subst this;rfl
 |n+1,hi,h=>by
  rcases Nat.eq_or_lt_of_le hi with e|hlt
  ·rw[e]
  ·simp only[top];rw[if_neg,BK n (by omega) (λk h1 h2 h3=>h k h1 (by omega) h3)]
   intro hc;simp only[z06] at hc;have:=h n (by omega) (by omega) hc.1
   rw[this] at hc;cases hc.2
end Go.Sx
namespace Go.Sx
open Go
variable {P:Program} {main:Bool} {F:Nat->Prop}
theorem aH.same{J:Env}{σ σ':List SV}{a:Act}(h:aH J σ a)(hl:σ'.length=σ.length)(hg:∀ k,σ'.getD k .junk=σ.getD k .junk):aH J σ' a:=
 ⟨by rw[hl];exact h.1,λk=>by rw[hg k];exact h.2 k⟩
theorem yB{S S':Nat->Bool}{V:Nat->SV}{aT:List dP}{σ:List SV}{x:Nat}(hn:(kP aT).Nodup)(h:∀ (j:Nat) (io:dP),aT[j]? =some io->io.dst=some x->S j=S' j):
  (ov S V aT 0 σ).getD x .junk=(ov S' V aT 0 σ).getD x .junk:=by
 by_cases hx:x<σ.length
 ·by_cases he:∃ (j:Nat) (io:dP),aT[j]? =some io/\io.dst=some x
  ·obtain⟨j,io,h1,h2⟩:=he;have uniq:∀ (j':Nat) (BI:dP),aT[j']? =some BI->BI.dst=some x->S j'=S' j':=h;cases hs:S j with
   |true=>
    have hs':S' j=true:=by rw[<- h j io h1 h2];exact hs
    rw[BJ S V x aT 0 σ j io hn h1 h2 (by simpa using hs) hx,BJ S' V x aT 0 σ j io hn h1 h2 (by simpa using hs') hx]
   |false=>
    have hone:∀ (j':Nat) (BI:dP),aT[j']? =some BI->BI.dst=some x->j'=j:=TJ hn h1 h2;have hs':S' j=false:=by rw[<- h j io h1 h2];exact hs
    rw[yQ S V x aT 0 σ (λj' BI a b=>by rw[z03,hone j' BI a b];exact hs),yQ S' V x aT 0 σ (λj' BI a b=>by rw[z03,hone j' BI a b];exact hs')]
  ·rw[yQ S V x aT 0 σ (λj' BI a b=>absurd ⟨j',BI,a,b⟩ he),yQ S' V x aT 0 σ (λj' BI a b=>absurd ⟨j',BI,a,b⟩ he)]
 ·have e1:(ov S V aT 0 σ).getD x .junk= .junk:=by simp[z05,qX,hx]
  have e2:(ov S' V aT 0 σ).getD x .junk= .junk:=by simp[z05,qX,hx]
  rw[e1,e2]
where
 TJ {x:Nat}:∀ {aT:List dP} {j:Nat} {io:dP},(kP aT).Nodup->aT[j]? =some io->io.dst=some x->∀ (j':Nat) (BI:dP),aT[j']? =some BI->BI.dst=some x->j'=j
  |[],_,_,_,h,_,_,_,_,_=>by simp at h
  |i0::r,j,io,hn,h,hd,j',BI,h',hd'=>by
   have hn':(kP r).Nodup:=by
    unfold kP at hn ⊢;rw[z16] at hn;split at hn
    ·exact hn
    ·exact(z1g.1 hn).2
   have h0:i0.dst=some x->∀ (k:Nat) (io2:dP),r[k]? =some io2->io2.dst=some x->False:=by intro e k io2 h1 h2;simp only[kP,z16,e] at hn;exact(z1g.1 hn).1 (z0w.2 ⟨io2,z0z h1,h2⟩)
   cases j with
   |zero=>
    simp only[z0f,z00] at h;subst h;cases j' with
    |zero=>rfl
    |succ j'=>exact(h0 hd j' BI (by simpa using h') hd').elim
   |succ j=>
    cases j' with
    |zero=>
     simp only[z0f,z00] at h';subst h';exact(h0 hd' j io (by simpa using h) hd).elim
    |succ j'=>
     have:=TJ hn' (by simpa using h) hd j' BI (by simpa using h') hd'
     omega
theorem mapM_at.{u1,u2}{α:Type u1}{β:Type u2}{f:α->Option β}:∀ {l:List α} {l':List β},l.mapM f=some l'->∀ i:Nat,(l[i]?).bind f=l'[i]? /\(l[i]?.isSome=l'[i]?.isSome)
 |[],l',h,i=>by simp at h;subst h;simp
 |x::l,l',h,i=>by
  simp only[z1o,bind,z1c] at h;obtain⟨y,hy,h⟩:=bind_some h;obtain⟨r,hr,h⟩:=bind_some h;simp only[z00] at h;subst h;cases i with
  |zero=>simp[hy]
  |succ i=>simpa using mapM_at hr i
theorem mapM_len.{u1,u2}{α:Type u1}{β:Type u2}{f:α->Option β}:∀ {l:List α} {l':List β},l.mapM f=some l'->l'.length=l.length
 |[],l',h=>by simp at h;subst h;simp
 |x::l,l',h=>by simp only[z1o,bind,z1c] at h;obtain⟨y,hy,h⟩:=bind_some h;obtain⟨r,hr,h⟩:=bind_some h;simp only[z00] at h;subst h;simp[mapM_len hr]
theorem OZ{ops:List Oper}{aT:List dP}(h:chk ops aT=true):
  (∀ (i:Nat) (o:Oper),ops[i]? =some o->∀ e∈o.after,Region.binds .any e=true->e.on<i)/\(kP aT).Nodup/\
  (∀ (i j:Nat) (x y:dP),aT[i]? =some x->aT[j]? =some y->j<i->conf y x=true->((Oh ops []).getD i 0).testBit j=true\/xO aT y x j i=true):=by
 simp only[chk,z06,z1b,decide_eq_true_eq,z1j,z0x,decide_eq_false_iff_not] at h;obtain⟨⟨h1,h2⟩,h3⟩:=h;refine⟨λi o ho e he hb=> ?_,h2,λi j x y hx hy hlt hc=> ?_⟩
 ·have hm:(o,i)∈ops.zipIdx:=by rw[z0h];exact ho
  rcases h1 (o,i) hm e (by simpa using he) with h|h
  ·rw[hb] at h;cases h
  ·exact h
 ·have hm:(x,i)∈aT.zipIdx:=by rw[z0h];exact hx
  have hm2:(y,j)∈aT.zipIdx:=by rw[z0h];exact hy
  rcases h3 (x,i) hm (y,j) hm2 with((h|h)|h)|h
  ·exact absurd hlt h
  ·rw[hc] at h;cases h
  ·exact .inl h
  ·exact .inr h
structure Plan(P:Program)(main:Bool)(F:Nat->Prop)(quiet:FuncId->Bool)(ops:Array Oper)(aT:List dP)(σ:List SV)(V:Nat->SV)(M:Nat->List ay):Prop where
 len:aT.length=ops.size
 cmp:∀ (i:Nat) (o:Oper) (io:dP),ops[i]? =some o->aT[i]? =some io->io.dst=o.dst/\vX ops o.guard=some io.guard/\∃ x0,Ih P o.op=some x0/\io.op=eG quiet x0
 step:∀ (i:Nat) (o:Oper) (io:dP),ops[i]? =some o->aT[i]? =some io->afv P main F o io (ov (λj=>decide (j<i)) V aT 0 σ) (M i) (V i) (M (i+1))
 chk:chk ops.toList aT=true
 late:∀ j,j<aT.length->∀ c∈xP ops.toList aT j,Late c (ov (λk=>decide (k<j+1)) V aT 0 σ) (M (j+1))
variable {quiet:FuncId->Bool} {ops:Array Oper} {aT:List dP} {σ:List SV} {V:Nat->SV} {M:Nat->List ay}
theorem Plan.Y5(pl:Plan P main F quiet ops aT σ V M):∀ i,i<=aT.length->M i=M (top aT (λ_=>true) i)
 |0,_=>rfl
 |i+1,h=>by
  simp only[top];split
  ·rfl
  ·rename_i he;have hi:i<aT.length:=h;have h1:aT[i]? =some aT[i]:=by simp[hi]
   have h2:ops[i]? =some (ops[i]'(by rw[<- pl.len];exact hi)):=by simp
   rw[h1] at he;have heff:aT[i].op.eff=false:=by simpa using he
   have:M (i+1)=M i:=by
    rcases pl.step i _ _ h2 h1 with⟨_,_,_,h5⟩|⟨_,_,h5⟩
    ·exact h5 heff
    ·exact h5
   rw[this,pl.Y5 i (Nat.le_of_succ_le h)]
theorem wG{listed:Array Bool}{i:Nat}(h:i∈Region.ready .any ops listed):i<ops.size:=by obtain⟨_,o,ho,_⟩:=mem_ready.1 h;exact(z0s.1 ho).1
theorem JI(a b:dP):Ew a b=Ew b a:=by unfold Ew;rw[Bool.or_comm]
theorem abS(a b:dP):conf a b=conf b a:=by
 have tb:∀ p q r:Bool,(p||q||r)=(p||r||q):=by decide
 unfold conf;rw[JI,tb,z3i a.op.impure,z3i a.op.eff]
theorem Plan.before(pl:Plan P main F quiet ops aT σ V M){S:Nat->Bool}(hS:Closed ops.toList S){i j:Nat}(hj:j<ops.size)(hs:S j=true)(hb:((Oh ops.toList []).getD j 0).testBit i=true):S i=true:=by
 have hoj:ops.toList[j]? =some ops[j]:=by simp[hj]
 exact FC hS ops.toList [] (λk=>by simp) (λk o' _ hk=>absurd hk (z1l _)) j _ hoj (by simpa using hj) (λe he hb=>hS j _ hoj hs e he hb) i hb
theorem Plan.agree(pl:Plan P main F quiet ops aT σ V M){S:Nat->Bool}(hS:Closed ops.toList S){i:Nat}{o:Oper}{io:dP}(ho:ops[i]? =some o)(mQ:aT[i]? =some io)
  (hi:S i=false) (hr:∀ e∈o.after,Region.binds .any e=true->S e.on=true):
  (∀ (j:Nat) (y:dP),aT[j]? =some y->conf y io=true->j≠i->(j<i->xO aT y io j i=false)->(i<j->xO aT io y i j=false)->S j=decide (j<i)):=by
 obtain⟨c1,c2,c3⟩:=OZ pl.chk;have hob:∀ (k:Nat) (o:Oper),ops.toList[k]? =some o->k< ([]:List Nat).length+ops.toList.length:=λk o h=>by have:=(z0d.1 h).1;simpa using this
 intro j y hy hc1 hji hsl1 hsl2;have ho':ops.toList[i]? =some o:=by simpa using ho
 rcases z1f j i with hlt|hge
 ·rw[decide_eq_true hlt];rcases c3 i j io y mQ hy hlt hc1 with hb|hb
  ·exact FC hS ops.toList [] (λk=>by simp) (λk o' _ hk=>absurd hk (z1l _)) i o ho' (hob i o ho') hr j hb
  ·rw[hsl1 hlt] at hb;cases hb
 ·have hgt:i<j:=by omega
  rw[decide_eq_false (by omega)]
  have hc2:conf io y=true:=by rw[abS];exact hc1
  rcases c3 j i y io hy mQ hgt hc2 with hb|hb
  ·cases hs:S j with
   |false=>rfl
   |true=>
    exfalso;have hj:j<ops.size:=by rw[<- pl.len];exact(z0d.1 hy).1
    have:=pl.before hS hj hs hb;rw[hi] at this;cases this
  ·rw[hsl2 hgt] at hb;cases hb
theorem abT{y io:dP}{x:Nat}(hy:y.dst=some x)(hx:x∈io.sl):Ew y io=true:=by simp[Ew,hy,hx]
theorem EJ{y x:dP}{i j:Nat}(h:Ew y x=true):xO aT y x i j=false:=by simp[xO,h]
theorem LP{y x:dP}{i j:Nat}(h:y.op.eff=true):xO aT y x i j=false:=by
 have:EX y=none:=by
  unfold EX;split
  ·rename_i e _;rw[e] at h;cases h
  ·rename_i e _;rw[e] at h;cases h
  ·rfl
 simp[xO,this]
theorem ag7{y x:dP}{i j:Nat}(h:EX y=none):xO aT y x i j=false:=by simp[xO,h]
theorem TK{aT:List dP}{S:Nat->Bool}:∀ n,top aT S n=0\/∃ k,k<n/\top aT S n=k+1/\(aT[k]?.map (·.op.eff)).getD false=true/\S k=true
 |0=> .inl rfl
 |n+1=>by
  simp only[top];split
  ·rename_i h;simp only[z06] at h;exact .inr ⟨n,z3e _,rfl,h.1,h.2⟩
  ·rcases TK (aT:=aT) (S:=S) n with h|⟨k,h1,h2⟩
   ·exact .inl h
   ·exact .inr ⟨k,Nat.lt_succ_of_lt h1,h2⟩
theorem ag8{aT:List dP}{S:Nat->Bool}{k:Nat}(he:(aT[k]?.map (·.op.eff)).getD false=true)(hs:S k=true):∀ n,k<n->k+1<=top aT S n
 |0,h=>by omega
 |n+1,h=>by
  simp only[top];split
  ·omega
  ·rename_i hc;by_cases e:k=n
   ·subst e;rw[he,hs] at hc;exact absurd rfl hc
   ·exact ag8 he hs n (by omega)
theorem ag9{m:List ay}{n:Nat}{ag:Bool}{a:SV}{B:Prop}(hB:B){v:SV}(h:peek m n ag (λsv=>sv=a) v):peek m n ag (λsv=>sv=a/\B) v:=by
 cases v<;>simp only[peek] at h ⊢ <;>first
  |exact h.elim
  |exact⟨h.1,h.2,hB⟩
  |(split at h<;>first|exact h.elim|exact⟨h.1,h.2,hB⟩)
theorem aha{aT:List dP}{sl:List Nat}{i j:Nat}(hij:i<=j)(h:clear aT sl i j=true){k:Nat}{y:dP}{x:Nat}(hy:aT[k]? =some y)(hd:y.dst=some x)(hx:x∈sl):decide (k<i)=decide (k<j+1):=by
 simp only[clear,z1b] at h;have:=h (y,k) (by rw[z0h];exact hy)
 simp only[hd,z1j,z0x,Bool.and_eq_false_iff,decide_eq_false_iff_not] at this;rcases this with h|h
 ·rw[decide_eq_decide];omega
 ·rw[List.contains_eq_mem,decide_eq_false_iff_not] at h;exact absurd hx h
def upd(S:Nat->Bool)(i:Nat):Nat->Bool:=λj=>S j||decide (j=i)
theorem Closed.upd{L:List Oper}{S:Nat->Bool}(hS:Closed L S){i:Nat}{o:Oper}(ho:L[i]? =some o)(hr:∀ e∈o.after,Region.binds .any e=true->S e.on=true):Closed L (upd S i):=by
 intro j o' ho' hj e he hb;simp only[Sx.upd,z1j,decide_eq_true_eq] at hj ⊢;rcases hj with hj|rfl
 ·exact .inl (hS j o' ho' hj e he hb)
 ·rw[ho] at ho';cases ho';exact .inl (hr e he hb)
theorem aH.mask{J:Env}{σ K1:List SV}{a:Act}{ss:List Nat}(h:aH J σ a)(hl:K1.length=σ.length)(hg:∀ k∈ss,σ.getD k .junk=K1.getD k .junk):aH J (uj ss K1) a:=by
 refine⟨by rw[abl,hl];exact h.1,λk=> ?_⟩
 rw[Jc];split
 ·rename_i hk;rw[<- hg k hk];exact h.2 k
 ·trivial
theorem Plan.step_ok{Γ:Hook}(hΓ:iI P main F Γ)(pl:Plan P main F quiet ops aT σ V M){S:Nat->Bool}(hS:Closed ops.toList S){i:Nat}{o:Oper}(ho:ops[i]? =some o)(hi:S i=false)
  (hr:∀ e∈o.after,Region.binds .any e=true->S e.on=true) {ρ:Root} {fn:FuncId} {J:Env} {a:Act} {w:OW}
  (hI:dh F ρ J (M (top aT S aT.length)) w) (hs:aH J (ov S V aT 0 σ) a):
  EM P main F fn ops i (λa' w'=> ∃ J',dh F ρ J' (M (top aT (upd S i) aT.length)) w'/\aH J' (ov (upd S i) V aT 0 σ) a'/\∃ v,a'=a.put o.dst v) a w:=by
 have hlt:i<aT.length:=by rw[pl.len];exact(z0s.1 ho).1
 have mQ:aT[i]? =some aT[i]:=by simp[hlt]
 generalize aT[i]=io at mQ;obtain⟨c1,c2,c3⟩:=OZ pl.chk;have hag:=pl.agree hS ho mQ hi hr;obtain⟨hd,hg,hx0⟩:=pl.cmp i o io ho mQ;have hops:∀ x∈io.sl,(ov S V aT 0 σ).getD x .junk=(ov (λj=>decide (j<i)) V aT 0 σ).getD x .junk:=by
  intro x hx;refine yB c2 λj y hy hdy=> ?_;by_cases hji:j=i
  ·subst hji;rw[hi];simp
  ·have h0:=abT hdy hx;exact hag j y hy (by simp[conf,h0]) hji (λ_=>EJ h0) (λ_=>EJ (by rw[JI];exact h0))
 have hlow:io.op.impure=true->top aT S i=top aT (λ_=>true) i:=by
  intro him;refine uo _ λk hk he=> ?_;have hk':aT[k]? =some (aT[k]'(by omega)):=by simp[show k<aT.length by omega]
  rw[hk'] at he;have he:(aT[k]'(by omega)).op.eff=true:=by simpa using he
  rw[hag k _ hk' (by simp[conf,he,him]) (by omega) (λ_=>LP he) (λh=>by omega),decide_eq_true hk]
 have hmem:io.op.impure=true->(∀ k,i<=k->k<aT.length->(aT[k]?.map (·.op.eff)).getD false=true->S k=false)->M (top aT S aT.length)=M i:=by intro him hno;rw[pl.Y5 i (z2o hlt),BK _ (z2o hlt) hno,hlow him]
 have hnone:io.op.impure=true->EX io=none->∀ k,i<=k->k<aT.length->(aT[k]?.map (·.op.eff)).getD false=true->S k=false:=by
  intro him hld k hk1 hk2 he;have hk:aT[k]? =some aT[k]:=by simp[hk2]
  rw[hk] at he;have he:aT[k].op.eff=true:=by simpa using he
  by_cases hki:k=i
  ·subst hki;exact hi
  ·rw[hag k _ hk (by simp[conf,he,him]) hki (λh=>by omega) (λ_=>ag7 hld),decide_eq_false (by omega)]
 have aoH:∀ j,j≠i->S j=upd S i j:=λj h=>by simp[Sx.upd,h]
 have aqF:upd S i i=true:=by simp[Sx.upd]
 have ahb:io.op.eff=false->top aT (upd S i) aT.length=top aT S aT.length:=by
  intro he;refine uo _ λk hk hek=> ?_;by_cases hki:k=i
  ·subst hki;rw[mQ] at hek;simp[he] at hek
  ·exact(aoH k hki).symm
 have alY:io.op.eff=true->top aT (upd S i) aT.length=i+1:=by
  intro he;have him:io.op.impure=true:=by
   cases hx:io.op with
   |p x=>rw[hx] at he;cases he
   |e x=>rw[hx] at he;cases x<;>first|rfl|cases he
  have e1:top aT (upd S i) aT.length=top aT (upd S i) (i+1):=by
   refine BK _ hlt λk hk1 hk2 hek=> ?_;have hk:aT[k]? =some aT[k]:=by simp[hk2]
   rw[hk] at hek;have hek:aT[k].op.eff=true:=by simpa using hek
   rw[<- aoH k (by omega),hag k _ hk (by simp[conf,hek,him]) (by omega) (λh=>by omega) (λ_=>LP he),decide_eq_false (by omega)]
  rw[e1];simp only[top];rw[mQ,aqF];simp[he]
 have hput:∀ {J':Env} {v:Value},aH J' (ov S V aT 0 σ) a->bK J' (V i) v->aH J' (ov (upd S i) V aT 0 σ) (a.put o.dst v):=by
  intro J' v h1 h2;refine aH.same (h1.put h2 o.dst) (by rw[Jd,qX,qX]) λk=> ?_
  rw[Ov];by_cases hk:o.dst=some k
  ·by_cases hkl:k< (ov S V aT 0 σ).length
   ·rw[if_pos ⟨hk,hkl⟩];have:=BJ (upd S i) V k aT 0 σ i io c2 mQ (by rw[hd];exact hk) (by rw[z03];exact aqF) (by rw[qX] at hkl;exact hkl)
    rwa [z03] at this
   ·rw[if_neg (λh=>hkl h.2)];rw[qX] at hkl;simp[z05,qX,hkl]
  ·rw[if_neg (λh=>hk h.1)];refine yB c2 λj y hy hdy=> ?_;have:j≠i:=by intro e;subst e;rw[mQ] at hy;cases hy;rw[hd] at hdy;exact hk hdy
   exact(aoH j this).symm
 have hsm:aH J (uj io.sl (ov (λj=>decide (j<i)) V aT 0 σ)) a:=hs.mask (by rw[qX,qX]) hops
 have hwant:∀ b,BH io.guard (ov (λj=>decide (j<i)) V aT 0 σ) b->Region.wanted o (yielded ops a.tmps)=b:=by
  intro b hb;cases hgi:io.guard with
  |none=>
   rw[hgi] at hb hg;have hgn:o.guard=none:=by
    cases hog:o.guard with
    |none=>rfl
    |some g=>rw[hog] at hg;simp only[vX] at hg;split at hg<;>cases hg
   rw[show b=true from hb]
   simp[Region.wanted,hgn]
  |some g=>
   obtain⟨s,want⟩:=g;rw[hgi] at hb hg;have hsl:s∈io.sl:=by simp[dP.sl,hgi]
   rcases hb with⟨t,e1,e2⟩|⟨e1,rfl⟩
   ·rw[<- hops s hsl] at e1;rw[yR hs hg e1];exact e2
   ·rw[<- hops s hsl] at e1;exact nV hs hg e1
 unfold EM;rw[ho];simp only;rcases pl.step i o io ho mQ with⟨hw,h1,h2,h3⟩|⟨hw,h1,h2⟩
 ·rw[if_pos (hwant _ hw)];cases him:io.op.impure with
  |false=>
   have heff:io.op.eff=false:=by
    cases hx:io.op with
    |p x=>rfl
    |e x=>rw[hx] at him;cases x<;>first|rfl|cases him
   refine CB.mono ?_ (h1 him _ ρ J a w fn hI hsm);rintro a' w' ⟨v,J',rfl,hv,hle,hI'⟩;exact⟨J',by rw[ahb heff];exact hI',hput (hs.mono hle) hv,v,rfl⟩
  |true=>
   have hstep:∃ m',qm P main F o (uj io.sl (ov (λj=>decide (j<i)) V aT 0 σ)) (M (top aT S aT.length)) (V i) m'/\(io.op.eff=true->m'=M (i+1))/\(io.op.eff=false->m'=M (top aT S aT.length)):=by
    by_cases hno:∀ k,i<=k->k<aT.length->(aT[k]?.map (·.op.eff)).getD false=true->S k=false
    ·rw[hmem him hno];exact⟨_,h2,λ_=>rfl,λhe=>h3 he⟩
    ·have hld:EX io≠none:=λe=>hno (hnone him e);obtain⟨d,op',hdst,as4,hcase⟩:∃ d op',io.dst=some d/\EX io=some ⟨none,io.guard,op'⟩/\((∃ n ag x,io.op= .e (.load n ag x)/\op'= .e (.again n ag x d))\/∃ k ys,io.op= .e (.L9 k ys)/\k.eff=false/\op'= .e (.sW k ys d)):=by
      unfold EX at hld ⊢;split at hld
      ·rename_i n ag x d e1 e2;exact⟨d,_,e2,rfl, .inl ⟨n,ag,x,e1,rfl⟩⟩
      ·rename_i ek ev z ok ys d e1 e2;exact⟨d,_,e2,rfl, .inr ⟨_,ys,e1,rfl,rfl⟩⟩
      ·exact absurd rfl hld
     have heff:io.op.eff=false:=by
      rcases hcase with⟨_,_,_,h,_⟩|⟨k,_,h,he,_⟩
      ·rw[h];rfl
      ·rw[h];exact he
     simp only[Classical.not_forall] at hno;obtain⟨k0,hk0,as5,as6,aqG⟩:=hno;simp only[Bool.not_eq_false] at aqG;have hge:=ag8 (S:=S) as6 aqG aT.length as5;rcases TK (aT:=aT) (S:=S) aT.length with ht|⟨k,hkl,ht,hke,hks⟩
     ·omega
     have hik:i<k:=by
      have:i≠k:=λe=>by subst e;rw[hi] at hks;cases hks
      omega
     have hk:aT[k]? =some aT[k]:=by simp[hkl]
     have as7:aT[k].op.eff=true:=by rw[hk] at hke;simpa using hke
     have hnb:((Oh ops.toList []).getD k 0).testBit i=false:=by
      cases hb:((Oh ops.toList []).getD k 0).testBit i with
      |false=>rfl
      |true=>
       have:=pl.before hS (by rw[<- pl.len];exact hkl) hks hb
       rw[hi] at this;cases this
     have aqH:(⟨none,io.guard,op'⟩:dP)∈xP ops.toList aT k:=by
      unfold xP;rw[if_pos hke];refine z0w.2 ⟨(io,i),by rw[z0h];exact mQ,?_⟩
      simp only[hik,decide_true,hnb,Bool.not_false,Bool.and_self,if_true];exact as4
     have aoI:clear aT io.sl i k=true:=by
      have hcf:conf io aT[k]=true:=by simp[conf,as7,him]
      rcases c3 k i aT[k] io hk mQ hik hcf with h|h
      ·rw[hnb] at h;cases h
      ·simp only[xO,z06] at h;exact h.2
     have aoJ:∀ s∈io.sl,(ov (λj=>decide (j<k+1)) V aT 0 σ).getD s .junk=(ov (λj=>decide (j<i)) V aT 0 σ).getD s .junk:=by intro s hs';exact(yB c2 λj y hy hdy=>aha (z2o hik) aoI hy hdy hs').symm
     have hwk:BH io.guard (ov (λj=>decide (j<k+1)) V aT 0 σ) true:=by
      cases hgi:io.guard with
      |none=>rfl
      |some g=>
       obtain⟨s,want⟩:=g;rw[hgi] at hw;have hsl:s∈io.sl:=by simp[dP.sl,hgi]
       rcases hw with⟨t,e1,e2⟩|⟨e1,e2⟩
       ·exact .inl ⟨t,by rw[aoJ s hsl];exact e1,e2⟩
       ·exact .inr ⟨by rw[aoJ s hsl];exact e1,e2⟩
     obtain⟨x0,hx1,hx2⟩:=hx0;have hvi:(ov (λj=>decide (j<k+1)) V aT 0 σ).getD d .junk≠ .junk->(ov (λj=>decide (j<k+1)) V aT 0 σ).getD d .junk=V i:=by
      intro l1;have hdl:d<σ.length:=by
       refine Nat.lt_of_not_le λhle=> ?_;have:(ov (λj=>decide (j<k+1)) V aT 0 σ).getD d .junk= .junk:=by simp[z05,qX,hle]
       exact l1 this
      have:=BJ (λj=>decide (j<k+1)) V d aT 0 σ i io c2 mQ hdst (by simp;omega) hdl
      rwa [z03] at this
     have hxe:∀ x:aV,(∀ s∈x.sl,s∈io.sl)->x.ev (uj io.sl (ov (λj=>decide (j<i)) V aT 0 σ))=x.ev (ov (λj=>decide (j<k+1)) V aT 0 σ):=by
      intro x hsub;cases x with
      |t q=>
       have hq:q∈io.sl:=hsub q (by simp[aV.sl])
       simp only[aV.ev,Jc,if_pos hq];exact(aoJ q hq).symm
      |c v=>rfl
     have hdk:jq Γ (uj io.sl (ov (λj=>decide (j<i)) V aT 0 σ)) (M (k+1)) (λsv m'=>sv=V i/\m'=M (k+1)) (eG quiet x0):=by
      rcases hcase with⟨n,ag,x,hop,rfl⟩|⟨kk,ys,hop,_,rfl⟩
      ·obtain⟨l1,l2⟩:=(pl.late k hkl _ aqH).1 n ag x d rfl hwk;rw[hvi (λe=>by rw[e] at l1;cases l1)] at l2
       rw[<- hx2,hop];simp only[jq,kT,hxe x (λs hs'=>by simp only[dP.sl,hop,z04];exact .inr hs')]
       exact ag9 (B:=True) trivial l2
      ·obtain⟨l1,l0,l2⟩:=(pl.late k hkl _ aqH).2 kk ys d rfl hwk;rw[hvi (λe=>by rw[e] at l1;cases l1)] at l2
       have hys:ys.map (·.ev (uj io.sl (ov (λj=>decide (j<i)) V aT 0 σ)))=ys.map (·.ev (ov (λj=>decide (j<k+1)) V aT 0 σ)):=by refine List.map_congr_left λy hy=>hxe y λs hs'=> ?_;simp only[dP.sl,hop,z04];exact .inr (List.mem_flatMap.2 ⟨y,hy,hs'⟩)
       rw[<- hx2,hop];simp only[jq,kT,hys];exact⟨l0,l2⟩
     obtain⟨sv,m',⟨rfl,rfl⟩,hF⟩:=Ig hΓ hx1 hdk;rw[ht];exact⟨_,hF.2.1,⟨λhe=>(by rw[heff] at he;cases he),λ_=>rfl⟩⟩
   obtain⟨m',hst,he1,he2⟩:=hstep;refine CB.mono ?_ (hst ρ J a w fn hI hsm);rintro a' w' ⟨v,J',rfl,hv,hle,hI'⟩;refine⟨J',?_,hput (hs.mono hle) hv,v,rfl⟩;cases heff:io.op.eff with
   |true=>rw[alY heff,<- he1 heff];exact hI'
   |false=>rw[ahb heff,<- he2 heff];exact hI'
 ·rw[hwant _ hw];simp only[z0j,if_false];refine⟨J,?_,hput hs (by rw[h1];exact lM),_,rfl⟩
  cases heff:io.op.eff with
  |true=>
   have him:io.op.impure=true:=by
    cases hx:io.op with
    |p x=>rw[hx] at heff;cases heff
    |e x=>rw[hx] at heff;cases x<;>first|rfl|cases heff
   have hld:EX io=none:=by
    unfold EX;split
    ·rename_i e _;rw[e] at heff;cases heff
    ·rename_i e _;rw[e] at heff;cases heff
    ·rfl
   rw[alY heff,h2,<- hmem him (hnone him hld)];exact hI
  |false=>rw[ahb heff];exact hI
def lst(listed:Array Bool):Nat->Bool:=λj=>listed.getD j false
theorem rM{listed:Array Bool}{i:Nat}(h:i<listed.size):lst (listed.setIfInBounds i true)=upd (lst listed) i:=by
 funext j
 simp only[lst,upd];by_cases hj:j=i
 ·subst hj;simp[z01,h]
 ·rw[z01,z1w,if_neg (Ne.symm hj),<- z01];simp[hj]
theorem uH{listed:Array Bool}{j:Nat}(h:j<listed.size):listed.getD j true=listed.getD j false:=by simp[z01,h]
theorem Tf{listed:Array Bool}(hsz:listed.size=ops.size)(hb:∀ (i:Nat) (o:Oper),ops.toList[i]? =some o->∀ e∈o.after,Region.binds .any e=true->e.on<i)
  (h:Region.ready .any ops listed=[]):∀ i,i<ops.size->lst listed i=true:=by
 intro i
 induction i using z3h with
 |_ i ih=>
  intro hi;cases hl:lst listed i with
  |true=>rfl
  |false=>
   exfalso;have:i∈Region.ready .any ops listed:=by
    refine mem_ready.2 ⟨by rw[uH (by omega)];exact hl,ops[i],by simp[hi],λe he hbi=> ?_⟩
    have hlt:=hb i ops[i] (by simp[hi]) e he hbi
    exact ih e.on hlt (by omega)
   rw[h] at this;simp at this
theorem count_set{l:List Bool}:∀ {i:Nat},l[i]? =some false->(l.set i true).count false+1=l.count false:=by
 induction l with
 |nil=>intro i h;simp at h
 |cons b l ih=>
  intro i h;cases i with
  |zero=>simp at h;subst h;simp
  |succ i=>
   have:=ih (i:=i) (by simpa using h)
   simp only[List.set_cons_succ,List.count_cons];omega
theorem Plan.any_ok{Γ:Hook}(hΓ:iI P main F Γ)(pl:Plan P main F quiet ops aT σ V M){ρ:Root}{fn:FuncId}{d:List Deferred}{Q:Exit->Act->OW->Prop}
  (hQ:∀ J a w,dh F ρ J (M aT.length) w->aH J (ov (λ_=>true) V aT 0 σ) a->a.defers=d->Q .normal a w):
  ∀ (fuel:Nat) (listed:Array Bool) (a:Act) (w:OW),listed.size=ops.size->listed.toList.count false<=fuel->Closed ops.toList (lst listed)->
   (∃ J,dh F ρ J (M (top aT (lst listed) aT.length)) w/\aH J (ov (lst listed) V aT 0 σ) a/\a.defers=d)->FW P main F fn ops Q fuel listed a w:=by
 have fin:∀ (listed:Array Bool) (a:Act) (w:OW),listed.size=ops.size->Region.ready .any ops listed=[]->
   (∃ J,dh F ρ J (M (top aT (lst listed) aT.length)) w/\aH J (ov (lst listed) V aT 0 σ) a/\a.defers=d)->Q .normal a w:=by
  rintro listed a w hsz hr ⟨J,h1,h2,h3⟩;have hall:=Tf hsz (OZ pl.chk).1 hr;have e1:top aT (lst listed) aT.length=top aT (λ_=>true) aT.length:=uo _ λk hk _=>hall k (by rw[<- pl.len];exact hk)
  have e2:ov (lst listed) V aT 0 σ=ov (λ_=>true) V aT 0 σ:=Sz aT 0 σ λj hj=>by rw[z03];exact hall j (by rw[<- pl.len];exact hj)
  rw[e1,<- pl.Y5 _ (z0a _)] at h1;rw[e2] at h2;exact hQ J a w h1 h2 h3
 intro fuel
 induction fuel with
 |zero=>
  intro listed a w hsz hc hcl hJ;have hr:Region.ready .any ops listed=[]:=by
   cases hr:Region.ready .any ops listed with
   |nil=>rfl
   |cons j r=>
    exfalso;have hj:j∈Region.ready .any ops listed:=by rw[hr];simp
    have hlt:=wG hj;have h0:=(mem_ready.1 hj).1;rw[uH (by omega)] at h0
    have:false∈listed.toList:=by
     have h1:listed.toList[j]? =some false:=by
      have:j<listed.size:=by omega
      simp only[z01] at h0;simp[this] at h0 ⊢;exact h0
     exact z0z h1
    have:=List.count_pos_iff.2 this;omega
  exact⟨hr,fin listed a w hsz hr hJ⟩
 |succ fuel ih=>
  intro listed a w hsz hc hcl hJ;refine⟨λhr=>fin listed a w hsz hr hJ,λi hi=> ?_⟩;obtain⟨J,h1,h2,h3⟩:=hJ;have hlt:=wG hi;obtain⟨h0,o,ho,hall⟩:=mem_ready.1 hi;rw[uH (by omega)] at h0
  refine CJ ?_ (Plan.step_ok hΓ pl hcl ho h0 hall h1 h2);rintro a' w' ⟨J',k1,k2,v',rfl⟩;have hl0:listed.toList[i]? =some false:=by
   have:i<listed.size:=by omega
   simp only[z01] at h0;simp[this] at h0 ⊢;exact h0
  refine ih _ _ w' (by simpa using hsz) ?_ ?_ ?_
  ·have:=count_set hl0;rw[Array.toList_setIfInBounds];omega
  ·rw[rM (by omega)]
   exact hcl.upd (by simpa using ho) hall
  ·rw[rM (by omega)]
   exact⟨J',k1,k2,by rw[put_defers];exact h3⟩
theorem BX(ops:List Oper)(aT:List dP)(k:Nat):∀ c∈xP ops aT k,Ou c:=by
 intro c hc;unfold xP at hc;split at hc
 ·obtain⟨x,_,hx⟩:=z0w.1 hc;split at hx
  ·unfold EX at hx;split at hx
   ·cases hx;exact⟨rfl, .inl ⟨_,_,_,_,rfl⟩⟩
   ·cases hx;exact⟨rfl, .inr ⟨_,_,_,rfl⟩⟩
   ·cases hx
  ·cases hx
 ·cases hc
theorem PN{Γ:Hook}(hΓ:iI P main F Γ){quiet:FuncId->Bool}{ops:Array Oper}{fn:FuncId}{Q:Exit->Act->OW->Prop}{ρ:Root}{d:List Deferred}
  {aT:List dP} {σ:List SV} {m:List ay} {K:List SV->List ay->Prop} (hc:ops.toList.mapM (pK P quiet ops)=some aT) (hk:chk ops.toList aT=true) (h:iY Γ (aug ops.toList aT) K σ m)
  (hQ:∀ σ' m' J' a' w',K σ' m'->dh F ρ J' m' w'->aH J' σ' a'->a'.defers=d->Q .normal a' w')
  {J:Env} {a:Act} {w:OW} (hI:dh F ρ J m w) (hs:aH J σ a) (hd:a.defers=d):FW P main F fn ops Q ops.size (z15 ops.size false) a w:=by
 obtain⟨ts,σe,me,hK,htr⟩:=Sr hΓ (rs:=xP ops.toList aT) (BX _ _) ops.toList aT σ m K 0 hc h;have hlen:aT.length=ops.size:=by rw[mapM_len hc];simp
 obtain⟨V,hV⟩:∃ V:Nat->SV,∀ k,V k=(ts[k]?.map Prod.fst).getD SV.junk:=⟨_,λ_=>rfl⟩;obtain⟨M,hM0,hM⟩:∃ M:Nat->List ay,M 0=m/\∀ k,M (k+1)=(ts[k]?.map Prod.snd).getD m:=⟨λk=>Nat.casesOn k m λk=>(ts[k]?.map Prod.snd).getD m,rfl,λ_=>rfl⟩;obtain⟨t1,t2,t3⟩:=afz (V:=V) (M:=M) (ops.toList.zip aT) 0 σ m ts σe me htr hM0 (λj t ht=>by rw[z03,hV,hM];simp[ht])
 have hzl:(ops.toList.zip aT).length=aT.length:=by simp[hlen]
 have hzm:(ops.toList.zip aT).map (·.2)=aT:=by rw[List.map_snd_zip];simp[hlen]
 rw[hzm] at t1 t2;have pl:Plan P main F quiet ops aT σ V M:=by
  refine⟨hlen,λi o io ho mQ=> ?_,λi o io ho mQ=> ?_,hk,λj hj c hc'=> ?_⟩
  ·have:=(mapM_at hc i).1;have ho':ops.toList[i]? =some o:=by simpa using ho
   rw[ho',mQ] at this;simp only[z0l,pK,z02] at this;obtain⟨PK,h0,rfl⟩:=this;simp only[iV] at h0;split at h0<;>try (cases h0;done)
   rename_i g x hg hx;simp only[z00] at h0;subst h0;exact⟨rfl,hg,x,hx,rfl⟩
  ·have:=t1 i o io (by
    have ho':ops.toList[i]? =some o:=by simpa using ho
    rw[z2f];exact⟨ho',mQ⟩)
   rw[z03] at this;exact this.1
  ·have ho':ops.toList[j]? =some (ops[j]'(by rw[<- hlen];exact hj)):=by simp
   have mQ:aT[j]? =some aT[j]:=by simp[hj]
   have:=(t1 j _ _ (by rw[z2f];exact⟨ho',mQ⟩)).2
   rw[z03] at this;exact this c hc'
 refine Plan.any_ok hΓ pl (ρ:=ρ) (d:=d) (λJ' a' w' k1 k2 k3=> ?_) ops.size _ a _ (by simp) ?_ ?_ ?_
 ·rw[hzl,z03] at t3;exact hQ _ _ J' a' w' hK (by rw[t3];exact k1) (by rw[t2];exact k2) k3
 ·simp
 ·intro i o _ hi;simp[lst,z01,z2g] at hi;split at hi<;>cases hi
 ·have hno:∀ j,lst (z15 ops.size false) j=false:=by intro j;simp only[lst,z01,z2g];split<;>rfl
  have e1:top aT (lst (z15 ops.size false)) aT.length=0:=by rw[BK (i:=0) _ (z1x _) (λk _ _ _=>hno k)];rfl
  rw[e1,mJ _ _ _ (λj _=>hno _),hM0];exact⟨J,hI,hs,hd⟩
theorem Vp{Γ:Hook}(hΓ:iI P main F Γ)(hmx:P.follows .mixedOrders=true){quiet:FuncId->Bool}{id:Nat}{ops:Array Oper}{fn:FuncId}{Q:Exit->Act->OW->Prop}{ρ:Root}{d:List Deferred}
  {aT:List dP} {σ:List SV} {m:List ay} {K:List SV->List ay->Prop} (hc:ops.toList.mapM (pK P quiet ops)=some aT) (hk:chk ops.toList aT=true) (h:iY Γ (aug ops.toList aT) K σ m)
  (hQ:∀ σ' m' J' a' w',K σ' m'->dh F ρ J' m' w'->aH J' σ' a'->a'.defers=d->Q .normal a' w')
  {J:Env} {a:Act} {w:OW} (hI:dh F ρ J m w) (hs:aH J σ a) (hd:a.defers=d):dQ P main F fn (.region id ops true) Q a w:=
 y8 hmx λw1 h1=>PN hΓ hc hk h hQ (hI.rely h1).drew hs hd
end Go.Sx
namespace Go.Sx
open Go
variable {P:Program}
def iD(r:Nat->Option Nat)(i:Nat)(f:Nat->SV):SV:=match r i with
 |some j=>f j
 |none=> .junk
mutual
def ren(r:Nat->Option Nat):SV->SV
 | .vec j n=>iD r j λk=> .vec k n
 | .kZ j n=>iD r j λk=> .kZ k n
 | .kC j a n=>iD r j λk=> .kC k a n
 | .iR j a p o=>iD r j λk=> .iR k a p o
 | .ptr j p o=>iD r j λk=> .ptr k p o
 | .map j=>iD r j .map
 | .arr n w f=> .arr n w λk=>ren r (f k)
 | .agg l=> .agg (dH r l)
 | .cu l=> .cu (dH r l)
 | .fn f l=> .fn f (dH r l)
 | .iface t x=> .iface t (ren r x)
 |c=>c
def dH(r:Nat->Option Nat):List SV->List SV
 |[]=>[]
 |x::l=>ren r x::dH r l
end
def dR(r:Nat->Option Nat):ay->ay
 | .dead=> .dead
 | .blk T c=> .blk T (ren r c)
 | .vec T w l=> .vec T w (dH r l)
 | .mp ek ev l=> .mp ek ev l
structure zC(r:Nat->Option Nat)(J J':Env):Prop where
 ids:∀ i,i<J.n->∀ j,r i=some j->j<J'.n/\J'.blk j=J.blk i/\J'.vv j=J.vv i
 H:∀ b o,J.H b=some o->J'.H b=some o
theorem zC.cl{r:Nat->Option Nat}{J J':Env}(h:zC r J J'):J.cl.Le J'.cl:=⟨z0a _,λ_ hi=>absurd hi (z1l _),λ_ hi=>absurd hi (z1l _),h.H⟩
theorem iG(r:Nat->Option Nat):∀ l:List SV,(dH r l).length=l.length
 |[]=>rfl
 |_::l=>by simp[dH,iG r l]
theorem lq(r:Nat->Option Nat):∀ (l:List SV) (j:Nat),(dH r l).getD j .junk=ren r (l.getD j .junk)
 |[],j=>by simp[dH,ren]
 |x::l,0=>by simp[dH]
 |x::l,j+1=>by simp only[dH,List.getD_cons_succ];exact lq r l j
theorem DZ(r:Nat->Option Nat)(c:SV):(ren r c).isAgg=c.isAgg:=by cases c<;>simp only[ren,iD]<;>first|rfl|(split<;>rfl)
theorem D5{c:SV}{J J':Env}{cs:List Value}(h:ah c J cs)(hc:wd c=1):ah .junk J' cs:=by
 have h1:=ah.length c h;rw[hc] at h1
 match cs,h1 with
 |[v],_=>simp only[ah];exact⟨v,ah.one c h v (by simp),rfl⟩
mutual
theorem ah.ren(r:Nat->Option Nat):∀ (c:SV) {J J':Env} {cs:List Value},zC r J J'->ah c J cs->ah (ren r c) J' cs
 | .int ..,_,_,_,_,h=>h
 | .bool ..,_,_,_,_,h=>h
 | .str ..,_,_,_,_,h=>h
 | .arr n w f,_,_,_,hl,h=>by
  simp only[Sx.ren,ah] at h ⊢;exact⟨h.1,λj hj=>ah.ren r (f j) hl (h.2 j hj)⟩
 | .agg l,_,_,_,hl,h=>by simp only[Sx.ren,ah] at h ⊢;exact bV.ren r l hl h
 | .cu _,_,_,_,_,h=>by simp only[ah] at h
 | .lst w d f l,_,_,_,hl,h=>by
  simp only[Sx.ren,ah] at h ⊢;obtain⟨ao,cap,h1,h2,h3,h4,h5⟩:=h;refine⟨ao,cap,h1,h2,h3,h4,λi hi=> ?_⟩;obtain⟨b,off,T,fz,cur,e1,e2,e3,e4⟩:=h5 i hi;exact⟨b,off,T,fz,cur,e1,hl.H _ _ e2,e3,ah.mono (f (l.getD i d)) hl.cl e4⟩
 | .lit w d f l,_,_,_,hl,h=>by
  simp only[Sx.ren,ah] at h ⊢;obtain⟨ao,h1,h3,h4,h5⟩:=h;refine⟨ao,h1,h3,h4,λi hi=> ?_⟩;obtain⟨b,off,T,fz,cur,e1,e2,e3,e4⟩:=h5 i hi;exact⟨b,off,T,fz,cur,e1,hl.H _ _ e2,e3,ah.mono (f (l.getD i d)) hl.cl e4⟩
 | .jX w d f l i p o,_,_,_,hl,h=>by
  simp only[Sx.ren,ah] at h ⊢;obtain⟨b,off,T,fz,cur,h1,h2,h3,h4,h5,h6⟩:=h;exact⟨b,off,T,fz,cur,h1,h2,hl.H _ _ h3,h4,h5,ah.mono (f (l.getD i d)) hl.cl h6⟩
 | .ref c p o,_,_,_,hl,h=>by
  simp only[Sx.ren,ah] at h ⊢;obtain⟨b,T,fz,cur,h1,h2,h3,h4⟩:=h;exact⟨b,T,fz,cur,h1,hl.H _ _ h2,h3,ah.mono c hl.cl h4⟩
 | .ptr j p o,_,_,_,hl,h=>by
  simp only[Sx.ren,iD];split
  ·rename_i k hk;simp only[ah] at h ⊢;obtain⟨i1,i2,i3⟩:=hl.ids j h.1 k hk;exact⟨i1,h.2.1,by rw[i2];exact h.2.2⟩
  ·exact D5 h rfl
 | .vec j n,_,_,_,hl,h=>by
  simp only[Sx.ren,iD];split
  ·rename_i k hk;simp only[ah] at h ⊢;obtain⟨i1,i2,i3⟩:=hl.ids j h.1 k hk;exact⟨i1,by rw[i3];exact h.2⟩
  ·exact D5 h rfl
 | .kZ j n,_,_,_,hl,h=>by
  simp only[Sx.ren,iD];split
  ·rename_i k hk;simp only[ah] at h ⊢;obtain⟨i1,i2,i3⟩:=hl.ids j h.1 k hk;exact⟨i1,by rw[i3];exact h.2⟩
  ·exact D5 h rfl
 | .kC j a n,_,_,_,hl,h=>by
  simp only[Sx.ren,iD];split
  ·rename_i k hk;simp only[ah] at h ⊢;obtain⟨i1,i2,i3⟩:=hl.ids j h.1 k hk;exact⟨i1,by rw[i3];exact h.2⟩
  ·exact D5 h rfl
 | .iR j a p o,_,_,_,hl,h=>by
  simp only[Sx.ren,iD];split
  ·rename_i k hk;simp only[ah] at h ⊢;obtain⟨i1,i2,i3⟩:=hl.ids j h.1 k hk;exact⟨i1,h.2.1,by rw[i3];exact h.2.2⟩
  ·exact D5 h rfl
 | .map j,_,_,_,hl,h=>by
  simp only[Sx.ren,iD];split
  ·rename_i k hk;simp only[ah] at h ⊢;obtain⟨i1,i2,i3⟩:=hl.ids j h.1 k hk;exact⟨i1,by rw[i2];exact h.2⟩
  ·exact D5 h rfl
 | .fn f cap,_,_,_,hl,h=>by
  simp only[Sx.ren,ah] at h ⊢;obtain⟨vs,h1,h2⟩:=h;exact⟨vs,bT.ren r cap hl h1,h2⟩
 | .iface t x,_,_,_,hl,h=>by
  simp only[Sx.ren,ah,DZ] at h ⊢;obtain⟨xs,h1,h2⟩:=h;exact⟨xs,ah.ren r x hl h1,h2⟩
 | .dO,_,_,_,_,h=>h
 | .mX,_,_,_,_,h=>h
 | .y5,_,_,_,_,h=>h
 | .lD,_,_,_,_,h=>h
 | .Ba,_,_,_,_,h=>h
 | .zH,_,_,_,_,h=>h
 | .raw _,_,_,_,_,h=>h
 | .junk,_,_,_,_,h=>h
theorem bV.ren(r:Nat->Option Nat):∀ (l:List SV) {J J':Env} {cs:List Value},zC r J J'->bV l J cs->bV (dH r l) J' cs
 |[],_,_,_,_,h=>h
 |x::l,_,_,_,hl,h=>by simp only[dH,bV] at h ⊢;obtain⟨a,b,h1,h2,h3⟩:=h;exact⟨a,b,h1,ah.ren r x hl h2,bV.ren r l hl h3⟩
theorem bT.ren(r:Nat->Option Nat):∀ (l:List SV) {J J':Env} {vs:List Value},zC r J J'->bT l J vs->bT (dH r l) J' vs
 |[],_,_,_,_,h=>h
 |x::l,_,_,_,hl,h=>by simp only[dH,bT,DZ] at h ⊢;obtain⟨cs,t,h1,h2,h3⟩:=h;exact⟨cs,t,h1,ah.ren r x hl h2,bT.ren r l hl h3⟩
end
theorem bK.ren{r:Nat->Option Nat}{x:SV}{J J':Env}{v:Value}(hl:zC r J J')(h:bK J x v):bK J' (Sx.ren r x) v:=by
 by_cases hv:x.isVal=true
 ·obtain⟨cs,h1,h2⟩:=fF h hv;have h3:=gJ (ah.ren r x hl h1);rw[DZ] at h3;rw[h2];exact h3
 ·cases x<;>first
   |exact absurd rfl hv
   |(obtain⟨vs,h1,h2⟩:=h;exact⟨vs,bT.ren r _ hl h1,h2⟩)
   |trivial
theorem aH.ren{r:Nat->Option Nat}{J J':Env}{σ:List SV}{a:Act}(hl:zC r J J')(h:aH J σ a):aH J' (dH r σ) a:=
 ⟨by rw[iG];exact h.1,λk=>by rw[lq];exact(h.2 k).ren hl⟩
theorem fH.ren{r:Nat->Option Nat}{J J':Env}{w:World}{i j:Nat}{x:ay}(hl:zC r J J')(hb:J'.blk j=J.blk i)(hv:J'.vv j=J.vv i)(h:fH J i w x):fH J' j w (dR r x):=by
 cases x with
 |dead=>trivial
 |blk T c=>
  obtain⟨cs,h1,h2⟩:=h;exact⟨cs,by rw[hb];exact h1,ah.ren r c hl h2⟩
 |vec T w' l=>
  obtain⟨xs,h1,h2⟩:=h;refine⟨xs,by rw[iG,hv];exact h1,λk hk=> ?_⟩
  rw[iG] at hk;rw[lq];exact ah.ren r _ hl (h2 k hk)
 |mp ek ev l=>
  obtain⟨es,cl,h1,h2⟩:=h;exact⟨es,cl,by rw[hb];exact h1,h2⟩
theorem lX{r:Nat->Option Nat}{J J':Env}{i j:Nat}{x:ay}(hb:J'.blk j=J.blk i)(hv:J'.vv j=J.vv i):aS J' j (dR r x)=aS J i x:=by cases x<;>simp[dR,aS,hb,hv]
def kQ(ks:List Nat)(J:Env):Env:= {n:=ks.length,blk:=λj=>J.blk (ks.getD j 0),vv:=λj=>J.vv (ks.getD j 0),H:=J.H}
def fQ(ks:List Nat)(i:Nat):Option Nat:=if ks.contains i then some (ks.idxOf i) else none
def fJ(ks:List Nat)(m:List ay):List ay:=ks.map λk=>dR (fQ ks) (ak m k)
theorem nN(ks:List Nat)(J:Env):zC (fQ ks) J (kQ ks J):=by
 refine⟨λi _ j hj=> ?_,λ_ _ h=>h⟩;unfold fQ at hj;split at hj<;>try (cases hj;done)
 rename_i hc;have hm:i∈ks:=by simpa using hc
 simp only[z00] at hj;subst hj;have hlt:=List.idxOf_lt_length_of_mem hm;have:ks.getD (ks.idxOf i) 0=i:=by simp[z05,hlt]
 exact⟨hlt,by simp only[kQ,this],by simp only[kQ,this]⟩
theorem rV{ks:List Nat}{m:List ay}{j:Nat}(h:j<ks.length):ak (fJ ks m) j=dR (fQ ks) (ak m (ks.getD j 0)):=by simp[ak,fJ,z05,h]
theorem Good.sel{J:Env}{m:List ay}{w:World}(g:Good J m w)(ks:List Nat)(hn:ks.Nodup):Good (kQ ks J) (fJ ks m) w:=by
 have hown:∀ j,j<ks.length->aS (kQ ks J) j (ak (fJ ks m) j)=aS J (ks.getD j 0) (ak m (ks.getD j 0)):=λj hj=>by rw[rV hj];exact lX rfl rfl
 have hlen:(fJ ks m).length=ks.length:=by simp[fJ]
 have hcase:∀ j b,aS (kQ ks J) j (ak (fJ ks m) j)=some b->j<ks.length/\aS J (ks.getD j 0) (ak m (ks.getD j 0))=some b:=by
  intro j b hb;rcases z1f j ks.length with hj|hj
  ·exact⟨hj,by rw[<- hown j hj];exact hb⟩
  ·rw[bI (by omega)] at hb;cases hb
 refine⟨by simp[kQ,fJ],λj=> ?_,λi j b hij h1 h2=> ?_,λi b hb=> ?_,λb o hb=>g.hv b o hb,g.gl⟩
 ·rcases z1f j ks.length with hj|hj
  ·rw[rV hj];exact fH.ren (nN ks J) rfl rfl (g.res _)
  ·rw[bI (by omega)];trivial
 ·obtain⟨hi,h1'⟩:=hcase i b h1;obtain⟨hj,h2'⟩:=hcase j b h2;refine g.jY _ _ b (λe=>hij ?_) h1' h2';have e1:ks.getD i 0=ks[i]:=by simp[z05,hi]
  have e2:ks.getD j 0=ks[j]:=by simp[z05,hj]
  rw[e1,e2] at e;have hp:=z2e.1 hn;rcases z1v i j with h|h|h
  ·exact absurd e (hp i j hi hj h)
  ·exact h
  ·exact absurd e.symm (hp j i hj hi h)
 ·exact g.sep _ b (hcase i b hb).2
theorem Inv.sel{β:Base}{J:Env}{m:List ay}{w:World}(h:Inv β J m w)(ks:List Nat)(hn:ks.Nodup)(h0:∀ i,i<β.J.n->ks[i]? =some i):Inv β (kQ ks J) (fJ ks m) w:=by
 have hlen:(fJ ks m).length=ks.length:=by simp[fJ]
 refine⟨h.good.sel ks hn,⟨h.kept.os,h.kept.tape,h.kept.output,h.kept.size,h.kept.heap,h.kept.H,h.kept.fresh,h.kept.drawn⟩,λi b hb=> ?_,?_,λi hi=> ?_,λi hi hv=> ?_⟩
 ·rcases z1f i ks.length with hi|hi
  ·rw[rV hi,lX (J:=J) (J':=kQ ks J) (i:=ks.getD i 0) (j:=i) rfl rfl] at hb;exact h.own _ b hb
  ·rw[bI (by omega)] at hb;cases hb
 ·rcases z1r β.J.n with hz|hz
  ·omega
  ·have:=h0 (β.J.n - 1) (by omega)
   have hlt:=(z0d.1 this).1;show β.J.n<=ks.length;omega
 ·have:=h0 i hi;have:ks.getD i 0=i:=by simp[z05,this]
  show J.blk (ks.getD i 0)=_;rw[this];exact h.blk i hi
 ·have h1:=h0 i hi;have hlt:=(z0d.1 h1).1;have:ks.getD i 0=i:=by simp[z05,h1]
  rw[rV hlt,this] at hv;show J.vv (ks.getD i 0)=_;rw[this];refine h.vv i hi ?_;cases hmj:ak m i<;>rw[hmj] at hv<;>first|rfl|exact hv
def wO:List ay->List ay->Nat->Option Nat
 |x::m,y::m',k=>match x,y with
  | .dead,_=>wO m m' (k+1)
  |_, .dead=>some k
  |_,_=>wO m m' (k+1)
 |_,_,_=>none
theorem Ko:∀ (m m':List ay) (k i:Nat),wO m m' k=some i->k<=i/\i<k+m.length
 |[],_,_,_,h=>by simp[wO] at h
 |_::_,[],_,_,h=>by simp[wO] at h
 |x::m,y::m',k,i,h=>by
  simp only[wO] at h;have go:wO m m' (k+1)=some i->k<=i/\i<k+(x::m).length:=λh=>by have:=Ko m m' (k+1) i h;simp only[z0y];omega
  split at h
  ·exact go h
  ·simp only[z00] at h;subst h;simp only[z0y];omega
  ·exact go h
theorem EP{n i:Nat}(_:i<n):((z2d n).set i n).Nodup:=by refine z2e.2 λa b ha hb hab=> ?_;simp only[List.length_set,List.length_range] at ha hb;simp only[List.getElem_set,List.getElem_range];split<;>split<;>omega
end Go.Sx
