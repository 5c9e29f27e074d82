/- A part of TopPrecise's proof. -/
import Derived.WalkKit
import Derived.Orders
import Derived.WalkSpells
import Derived.Conc.EventLaws2
import Derived.DeepKeys
import Derived.Laws.Cover3
import Derived.Conc.AppendEvents3
set_option linter.unusedVariables false
set_option linter.unusedSimpArgs false
open Option renaming some.injEq->z00,map_eq_some_iff->z05,pure_def->z06,map_none->z0p,map_eq_none_iff->z2a,map_some->z2t
open Go.Sem renaming run_bind->z01,run_pure->z07,events_bind->z09,events_pure->z1v
open Nat renaming lt_of_lt_of_le->z02,not_lt_zero->z08,mul_le_mul_right->z0b,le_refl->z0e,sub_zero->z0h,zero_add->z0j,le_trans->z0k,ne_of_lt->z0u,zero_le->z0x,add_mul->z0y,lt_trichotomy->z19,mul_comm->z1c,lt_or_ge->z1d,lt_or_gt_of_ne->z1j,eq_zero_or_pos->z1k,succ_mul->z1m,sub_self->z1o,add_zero->z1p,min_eq_left->z1w,le_mul_of_pos_right->z2f,div_lt_of_lt_mul->z2m,eq_or_lt_of_le->z2u,div_add_mod->z3b
open Go.Value renaming oneCell'->z03,ownBlock->z0r,slice.injEq->z2q
open Array renaming getElem?_eq_some_iff->z04,ext'->z0w,range->z15,getD->z1x,mem_of_getElem?->z2g,length_toList->z2l
open Bool renaming false_eq_true->z0a,and_eq_true->z0i,not_eq_true'->z2v
open List renaming drop_of_length_le->z0c,replicate->z0d,getD->z0f,getElem?_set->z0g,ext_getElem?->z0l,range->z0m,getD_eq_getElem?_getD->z0n,getD_cons_succ->z0o,getElem?_drop->z0q,take_of_length_le->z0s,drop_take->z0t,getElem?_eq_none->z0v,nil_append->z0z,take_take->z14,append_assoc->z16,getElem?_eq_getElem->z1a,take_zero->z1e,mapM_cons->z1f,getD_cons_zero->z1g,map_cons->z1h,getElem?_take->z1i,length_range->z1l,length_cons->z1q,drop_append->z1r,take_append_of_le_length->z1s,drop_append_of_le_length->z1t,length_set->z1u,drop_drop->z1y,extract_eq_take_drop->z1z,headD_eq_head?_getD->z2c,getElem?_take_of_lt->z2d,getElem?_cons_zero->z2e,length_replicate->z2i,mem_of_getElem?->z2j,getElem?_append->z2k,take_succ_cons->z2o,getElem_of_mem->z2p,set_cons_succ->z2r,mem_append->z2x,headD_cons->z2y,head?_take->z2z,head?_drop->z3a,drop_zero->z3c,all_cons->z3e
open Prod renaming mk.injEq->z18
open ByteArray renaming size->z1b,ext->z2s
open Go.World renaming cell?->z2h,setRow->z3d
open Go.Program renaming built->z2w
open Go.Act renaming eval->z3f
namespace Go.Sx
open Go
inductive Step where
 |lQ (k:Nat)
 |idx (i n:Nat)
inductive SV:Type 1 where
 |int (k:IntKind) (n:Int)
 |bool (b:Bool)
 |str (s:List UInt8)
 |arr (n w:Nat) (f:Nat->SV)
 |agg (l:List SV)
 |cu (l:List SV)
 |lst {τ:Type} (w:Nat) (d:τ) (f:τ->SV) (l:List τ)
 |lit {τ:Type} (w:Nat) (d:τ) (f:τ->SV) (l:List τ)
 |jX {τ:Type} (w:Nat) (d:τ) (f:τ->SV) (l:List τ) (i:Nat) (p:List Step) (off:Nat)
 |ref (c:SV) (p:List Step) (off:Nat)
 |ptr (i:Nat) (p:List Step) (off:Nat)
 |vec (i n:Nat)
 |iR (i j:Nat) (p:List Step) (off:Nat)
 |kZ (i n:Nat)
 |kC (i k n:Nat)
 |map (i:Nat)
 |fn (f:FuncId) (cap:List SV)
 |iface (t:TypeId) (x:SV)
 |dO
 |mX
 |y5
 |lD
 |Ba
 |zH
 |raw (v:Value)
 |junk
structure Env where
 n:Nat
 blk:Nat->Nat
 vv:Nat->Value
 H:Nat->Option Obj
def Env.cl(J:Env):Env:= {J with n:=0}
def SV.isAgg:SV->Bool
 | .arr .. | .agg _=>true
 |_=>false
def boxed(isAgg:Bool)(cs:List Value):Value:=if isAgg then .agg cs.toArray else cs.headD undef
def sub(cs:List Value)(a n:Nat):List Value:=(cs.drop a).take n
def fM:List Step->Prop
 |[]=>True
 | .lQ _::p=>fM p
 | .idx i n::p=>i<n/\fM p
mutual
def ah:SV->Env->List Value->Prop
 | .int k n,_,cs=>cs=[.int k n]
 | .bool b,_,cs=>cs=[.bool b]
 | .str s,_,cs=>cs=[.string ⟨s.toArray⟩]
 | .arr n w f,J,cs=>cs.length=n*w/\∀ i,i<n->ah (f i) J (sub cs (i*w) w)
 | .agg l,J,cs=>bV l J cs
 | .cu _,_,_=>False
 | .lst w d f l,J,cs=> ∃ ao cap,cs=[.slice ao l.length cap]/\l.length<=cap/\cap<=maxLen/\(ao=none->cap=0)/\
   ∀ i,i<l.length->∃ b off T fz cur,ao=some ⟨b,off,none⟩/\J.H b=some (.cells cur T fz)/\off+i*w+w<=cur.size/\
    ah (f (l.getD i d)) J.cl (sub cur.toList (off+i*w) w)
 | .lit w d f l,J,cs=> ∃ ao,cs=[.slice ao l.length l.length]/\l.length<=maxLen/\(ao=none->l.length=0)/\
   ∀ i,i<l.length->∃ b off T fz cur,ao=some ⟨b,off,none⟩/\J.H b=some (.cells cur T fz)/\off+i*w+w<=cur.size/\
    ah (f (l.getD i d)) J.cl (sub cur.toList (off+i*w) w)
 | .jX w d f l i p o,J,cs=> ∃ b off T fz cur,cs=[.pointer (some ⟨b,off+i*w+o,none⟩)]/\i<l.length/\J.H b=some (.cells cur T fz)/\fM p/\
    off+i*w+w<=cur.size/\ah (f (l.getD i d)) J.cl (sub cur.toList (off+i*w) w)
 | .ref c p o,J,cs=> ∃ b T fz cur,cs=[.pointer (some ⟨b,o,none⟩)]/\J.H b=some (.cells cur T fz)/\fM p/\ah c J.cl cur.toList
 | .ptr i p o,J,cs=>i<J.n/\fM p/\cs=[.pointer (some ⟨J.blk i,o,none⟩)]
 | .vec i n,J,cs=>i<J.n/\(J.vv i= .slice none 0 0/\n=0\/∃ b cap,J.vv i= .slice (some ⟨b,0,none⟩) n cap/\n<=cap)/\cs=[J.vv i]
 | .kZ i n,J,cs=>i<J.n/\∃ ao n0 cap,J.vv i= .slice ao n0 cap/\n<=n0/\cs=[.slice ao n cap]
 | .kC i k n,J,cs=>i<J.n/\∃ b cap,J.vv i= .slice (some ⟨b,0,none⟩) (k+n) cap/\k+n<=cap/\cs=[.slice (some ⟨b,k,none⟩) n (cap - k)]
 | .iR i j p o,J,cs=>i<J.n/\fM p/\∃ b cap n,J.vv i= .slice (some ⟨b,0,none⟩) n cap/\j<n/\cs=[.pointer (some ⟨b,o,none⟩)]
 | .map i,J,cs=>i<J.n/\cs=[.map (some (J.blk i))]
 | .fn f cap,J,cs=> ∃ vs,bT cap J vs/\cs=[.func (.func f) #[] vs.toArray]
 | .iface t x,J,cs=> ∃ xs,ah x J xs/\cs=[.iface t (boxed x.isAgg xs)]
 | .dO,_,cs=>cs=[.slice none 0 0]
 | .mX,_,cs=>cs=[.nilIface]
 | .y5,_,cs=>cs=[.nilFunc]
 | .lD,_,cs=>cs=[.pointer none]
 | .Ba,_,cs=>cs=[.map none]
 | .zH,_,cs=> ∃ b:Bool,cs=[.bool b]
 | .raw v,_,cs=>v.oneCell'=true/\cs=[v]
 | .junk,_,cs=> ∃ v:Value,v.oneCell'=true/\cs=[v]
def bV:List SV->Env->List Value->Prop
 |[],_,cs=>cs=[]
 |x::r,J,cs=> ∃ a b,cs=a++b/\ah x J a/\bV r J b
def bT:List SV->Env->List Value->Prop
 |[],_,vs=>vs=[]
 |x::r,J,vs=> ∃ cs t,vs=boxed x.isAgg cs::t/\ah x J cs/\bT r J t
end
def bK(J:Env)(x:SV)(v:Value):Prop:=
 match x with
 | .cu l=> ∃ vs,bT l J vs/\v= .tuple vs.toArray
 | .junk=>True
 |x=> ∃ cs,ah x J cs/\v=boxed x.isAgg cs
structure Env.Le(J J':Env):Prop where
 n:J.n<=J'.n
 blk:∀ i,i<J.n->J'.blk i=J.blk i
 vv:∀ i,i<J.n->J'.vv i=J.vv i
 H:∀ b o,J.H b=some o->J'.H b=some o
theorem Env.Le.refl(J:Env):J.Le J:=⟨z0e _,λ_ _=>rfl,λ_ _=>rfl,λ_ _ h=>h⟩
theorem Env.Le.trans{a b c:Env}(h:a.Le b)(k:b.Le c):a.Le c:=
 ⟨z0k h.n k.n,λi hi=>(k.blk i (z02 hi h.n)).trans (h.blk i hi),λi hi=>(k.vv i (z02 hi h.n)).trans (h.vv i hi),λb o h'=>k.H b o (h.H b o h')⟩
theorem Env.Le.cl{J J':Env}(h:J.Le J'):J.cl.Le J'.cl:=⟨z0e _,λ_ hi=>absurd hi (z08 _),λ_ hi=>absurd hi (z08 _),h.H⟩
mutual
theorem ah.mono:∀ (c:SV) {J J':Env} {cs:List Value},J.Le J'->ah c J cs->ah c J' cs
 | .int ..,_,_,_,_,h=>h
 | .bool ..,_,_,_,_,h=>h
 | .str ..,_,_,_,_,h=>h
 | .arr n w f,_,_,_,hl,h=>by
  simp only[ah] at h ⊢;exact⟨h.1,λi hi=>ah.mono (f i) hl (h.2 i hi)⟩
 | .agg l,_,_,_,hl,h=>by simp only[ah] at h ⊢;exact bV.mono l hl h
 | .cu _,_,_,_,_,h=>h
 | .lst w d f l,_,_,_,hl,h=>by
  simp only[ah] at h ⊢;obtain⟨ao,cap,h1,h2,h3,h4,h5⟩:=h;refine⟨ao,cap,h1,h2,h3,h4,λi hi=> ?_⟩;obtain⟨b,off,T,fz,cur,e1,e2,e3,e4⟩:=h5 i hi;exact⟨b,off,T,fz,cur,e1,hl.H _ _ e2,e3,ah.mono (f (l.getD i d)) hl.cl e4⟩
 | .lit w d f l,_,_,_,hl,h=>by
  simp only[ah] at h ⊢;obtain⟨ao,h1,h3,h4,h5⟩:=h;refine⟨ao,h1,h3,h4,λi hi=> ?_⟩;obtain⟨b,off,T,fz,cur,e1,e2,e3,e4⟩:=h5 i hi;exact⟨b,off,T,fz,cur,e1,hl.H _ _ e2,e3,ah.mono (f (l.getD i d)) hl.cl e4⟩
 | .jX w d f l i p o,_,_,_,hl,h=>by
  simp only[ah] at h ⊢;obtain⟨b,off,T,fz,cur,h1,h2,h3,h4,h5,h6⟩:=h;exact⟨b,off,T,fz,cur,h1,h2,hl.H _ _ h3,h4,h5,ah.mono (f (l.getD i d)) hl.cl h6⟩
 | .ref c p o,_,_,_,hl,h=>by
  simp only[ah] at h ⊢;obtain⟨b,T,fz,cur,h1,h2,h3,h4⟩:=h;exact⟨b,T,fz,cur,h1,hl.H _ _ h2,h3,ah.mono c hl.cl h4⟩
 | .ptr i p o,_,_,_,hl,h=>by
  simp only[ah] at h ⊢;exact⟨z02 h.1 hl.n,h.2.1,by rw[hl.blk i h.1];exact h.2.2⟩
 | .vec i n,_,_,_,hl,h=>by
  simp only[ah] at h ⊢;exact⟨z02 h.1 hl.n,by rw[hl.vv i h.1];exact h.2⟩
 | .kZ i n,_,_,_,hl,h=>by
  simp only[ah] at h ⊢;exact⟨z02 h.1 hl.n,by rw[hl.vv i h.1];exact h.2⟩
 | .kC i k n,_,_,_,hl,h=>by
  simp only[ah] at h ⊢;exact⟨z02 h.1 hl.n,by rw[hl.vv i h.1];exact h.2⟩
 | .iR i j p o,_,_,_,hl,h=>by
  simp only[ah] at h ⊢;exact⟨z02 h.1 hl.n,h.2.1,by rw[hl.vv i h.1];exact h.2.2⟩
 | .map i,_,_,_,hl,h=>by
  simp only[ah] at h ⊢;exact⟨z02 h.1 hl.n,by rw[hl.blk i h.1];exact h.2⟩
 | .fn f cap,_,_,_,hl,h=>by
  simp only[ah] at h ⊢;obtain⟨vs,h1,h2⟩:=h;exact⟨vs,bT.mono cap hl h1,h2⟩
 | .iface t x,_,_,_,hl,h=>by
  simp only[ah] at h ⊢;obtain⟨xs,h1,h2⟩:=h;exact⟨xs,ah.mono x hl h1,h2⟩
 | .dO,_,_,_,_,h=>h
 | .mX,_,_,_,_,h=>h
 | .y5,_,_,_,_,h=>h
 | .lD,_,_,_,_,h=>h
 | .Ba,_,_,_,_,h=>h
 | .zH,_,_,_,_,h=>h
 | .raw _,_,_,_,_,h=>h
 | .junk,_,_,_,_,h=>h
theorem bV.mono:∀ (l:List SV) {J J':Env} {cs:List Value},J.Le J'->bV l J cs->bV l J' cs
 |[],_,_,_,_,h=>h
 |x::r,_,_,_,hl,h=>by simp only[bV] at h ⊢;obtain⟨a,b,h1,h2,h3⟩:=h;exact⟨a,b,h1,ah.mono x hl h2,bV.mono r hl h3⟩
theorem bT.mono:∀ (l:List SV) {J J':Env} {vs:List Value},J.Le J'->bT l J vs->bT l J' vs
 |[],_,_,_,_,h=>h
 |x::r,_,_,_,hl,h=>by simp only[bT] at h ⊢;obtain⟨cs,t,h1,h2,h3⟩:=h;exact⟨cs,t,h1,ah.mono x hl h2,bT.mono r hl h3⟩
end
theorem bK.mono{x:SV}{J J':Env}{v:Value}(hl:J.Le J')(h:bK J x v):bK J' x v:=by
 cases x
 case cu l=>obtain⟨vs,h1,h2⟩:=h;exact⟨vs,bT.mono l hl h1,h2⟩
 case junk=>trivial
 all_goals (obtain⟨cs,h1,h2⟩:=h;exact⟨cs,ah.mono _ hl h1,h2⟩)
end Go.Sx
namespace Go.Sx
open Go
mutual
def wd:SV->Nat
 | .arr n w _=>n*w
 | .agg l=>Aq l
 |_=>1
def Aq:List SV->Nat
 |[]=>0
 |x::r=>wd x+Aq r
end
theorem gW{cs:List Value}{a n:Nat}(h:a+n<=cs.length):(sub cs a n).length=n:=by simp[sub];omega
theorem bF{i n w:Nat}(h:i<n):i*w+w<=n*w:=by have:(i+1)*w<=n*w:=z0b _ h;rw[z0y] at this;omega
mutual
theorem ah.length:∀ (c:SV) {J:Env} {cs:List Value},ah c J cs->cs.length=wd c
 | .arr n w f,_,_,h=>by simp only[ah] at h;simp only[wd];exact h.1
 | .agg l,_,_,h=>by simp only[ah] at h;simp only[wd];exact bV.length l h
 | .cu _,_,_,h=>by simp only[ah] at h
 | .int ..,_,_,h=>by simp only[ah] at h;subst h;rfl
 | .bool ..,_,_,h=>by simp only[ah] at h;subst h;rfl
 | .str ..,_,_,h=>by simp only[ah] at h;subst h;rfl
 | .lst ..,_,_,h=>by simp only[ah] at h;obtain⟨_,_,h,_⟩:=h;subst h;rfl
 | .lit ..,_,_,h=>by simp only[ah] at h;obtain⟨_,h,_⟩:=h;subst h;rfl
 | .jX ..,_,_,h=>by simp only[ah] at h;obtain⟨_,_,_,_,_,h,_⟩:=h;subst h;rfl
 | .ref ..,_,_,h=>by simp only[ah] at h;obtain⟨_,_,_,_,h,_⟩:=h;subst h;rfl
 | .ptr ..,_,_,h=>by simp only[ah] at h;obtain⟨_,_,h⟩:=h;subst h;rfl
 | .vec ..,_,_,h=>by simp only[ah] at h;obtain⟨_,_,h⟩:=h;subst h;rfl
 | .iR ..,_,_,h=>by simp only[ah] at h;obtain⟨_,_,_,_,_,_,_,h⟩:=h;subst h;rfl
 | .kZ ..,_,_,h=>by simp only[ah] at h;obtain⟨_,_,_,_,_,_,h⟩:=h;subst h;rfl
 | .kC ..,_,_,h=>by simp only[ah] at h;obtain⟨_,_,_,_,_,h⟩:=h;subst h;rfl
 | .map ..,_,_,h=>by simp only[ah] at h;obtain⟨_,h⟩:=h;subst h;rfl
 | .fn ..,_,_,h=>by simp only[ah] at h;obtain⟨_,_,h⟩:=h;subst h;rfl
 | .iface ..,_,_,h=>by simp only[ah] at h;obtain⟨_,_,h⟩:=h;subst h;rfl
 | .dO,_,_,h=>by simp only[ah] at h;subst h;rfl
 | .mX,_,_,h=>by simp only[ah] at h;subst h;rfl
 | .y5,_,_,h=>by simp only[ah] at h;subst h;rfl
 | .lD,_,_,h=>by simp only[ah] at h;subst h;rfl
 | .Ba,_,_,h=>by simp only[ah] at h;subst h;rfl
 | .zH,_,_,h=>by simp only[ah] at h;obtain⟨_,h⟩:=h;subst h;rfl
 | .raw ..,_,_,h=>by simp only[ah] at h;obtain⟨_,h⟩:=h;subst h;rfl
 | .junk,_,_,h=>by simp only[ah] at h;obtain⟨_,_,h⟩:=h;subst h;rfl
theorem bV.length:∀ (l:List SV) {J:Env} {cs:List Value},bV l J cs->cs.length=Aq l
 |[],_,_,h=>by simp only[bV] at h;subst h;rfl
 |x::r,_,_,h=>by simp only[bV] at h;obtain⟨a,b,h1,h2,h3⟩:=h;have e1:=ah.length x h2;have e2:=bV.length r h3;subst h1;simp[Aq,e1,e2]
end
theorem iM{cs:List Value}{a n j:Nat}:(sub cs a n)[j]? =if j<n then cs[a+j]? else none:=by
 unfold sub;rw[z1i];split
 ·rw[z0q]
 ·rfl
theorem vw{n w:Nat}{cs:List Value}(hl:cs.length=n*w){u:Value}(hu:u∈cs):∃ i,i<n/\u∈sub cs (i*w) w:=by
 obtain⟨j,hj,rfl⟩:=z2p hu;have hw:0<w:=by
  rcases z1k w with h|h
  ·subst h;simp at hl;subst hl;simp at hj
  ·exact h
 refine⟨j/w,?_,?_⟩
 ·rw[hl] at hj;exact z2m (by rwa [z1c] at hj)
 ·apply z2j (i:=j%w);rw[iM,if_pos (Nat.mod_lt _ hw)];rw[z1c,z3b];exact z1a hj
mutual
theorem ah.one:∀ (c:SV) {J:Env} {cs:List Value},ah c J cs->∀ u∈cs,u.oneCell'=true
 | .arr n w f,_,cs,h=>by
  simp only[ah] at h;intro u hu;obtain⟨i,hi,hm⟩:=vw h.1 hu;exact ah.one (f i) (h.2 i hi) u hm
 | .agg l,_,_,h=>by simp only[ah] at h;exact bV.one l h
 | .cu _,_,_,h=>by simp only[ah] at h
 | .int ..,_,_,h=>by simp only[ah] at h;subst h;simp[z03]
 | .bool ..,_,_,h=>by simp only[ah] at h;subst h;simp[z03]
 | .str ..,_,_,h=>by simp only[ah] at h;subst h;simp[z03]
 | .lst ..,_,_,h=>by simp only[ah] at h;obtain⟨_,_,h,_⟩:=h;subst h;simp[z03]
 | .lit ..,_,_,h=>by simp only[ah] at h;obtain⟨_,h,_⟩:=h;subst h;simp[z03]
 | .jX ..,_,_,h=>by simp only[ah] at h;obtain⟨_,_,_,_,_,h,_⟩:=h;subst h;simp[z03]
 | .ref ..,_,_,h=>by simp only[ah] at h;obtain⟨_,_,_,_,h,_⟩:=h;subst h;simp[z03]
 | .ptr ..,_,_,h=>by simp only[ah] at h;obtain⟨_,_,h⟩:=h;subst h;simp[z03]
 | .vec ..,_,_,h=>by
  simp only[ah] at h;obtain⟨_,e,h⟩:=h;subst h;rcases e with⟨e,_⟩|⟨b,cap,e⟩<;>simp[e,z03]
 | .iR ..,_,_,h=>by simp only[ah] at h;obtain⟨_,_,_,_,_,_,_,h⟩:=h;subst h;simp[z03]
 | .kZ ..,_,_,h=>by simp only[ah] at h;obtain⟨_,_,_,_,_,_,h⟩:=h;subst h;simp[z03]
 | .kC ..,_,_,h=>by simp only[ah] at h;obtain⟨_,_,_,_,_,h⟩:=h;subst h;simp[z03]
 | .map ..,_,_,h=>by simp only[ah] at h;obtain⟨_,h⟩:=h;subst h;simp[z03]
 | .fn ..,_,_,h=>by simp only[ah] at h;obtain⟨_,_,h⟩:=h;subst h;simp[z03]
 | .iface ..,_,_,h=>by simp only[ah] at h;obtain⟨_,_,h⟩:=h;subst h;simp[z03]
 | .dO,_,_,h=>by simp only[ah] at h;subst h;simp[z03]
 | .mX,_,_,h=>by simp only[ah] at h;subst h;simp[z03]
 | .y5,_,_,h=>by simp only[ah] at h;subst h;simp[z03]
 | .lD,_,_,h=>by simp only[ah] at h;subst h;simp[z03]
 | .Ba,_,_,h=>by simp only[ah] at h;subst h;simp[z03]
 | .zH,_,_,h=>by simp only[ah] at h;obtain⟨_,h⟩:=h;subst h;simp[z03]
 | .raw ..,_,_,h=>by simp only[ah] at h;obtain⟨e,h⟩:=h;subst h;simpa using e
 | .junk,_,_,h=>by simp only[ah] at h;obtain⟨_,e,h⟩:=h;subst h;simpa using e
theorem bV.one:∀ (l:List SV) {J:Env} {cs:List Value},bV l J cs->∀ u∈cs,u.oneCell'=true
 |[],_,_,h=>by simp only[bV] at h;subst h;simp
 |x::r,_,_,h=>by
  simp only[bV] at h;obtain⟨a,b,h1,h2,h3⟩:=h;subst h1;intro u hu;rcases z2x.1 hu with hu|hu
  ·exact ah.one x h2 u hu
  ·exact bV.one r h3 u hu
end
def zG(f:Nat->SV)(i:Nat)(x:SV):Nat->SV:=λj=>if j=i then x else f j
def dG:SV->List Step->SV
 |c,[]=>c
 | .agg l, .lQ k::p=>dG (l.getD k .junk) p
 | .arr _ _ f, .idx i _::p=>dG (f i) p
 |_,_::_=> .junk
def rG:SV->List Step->SV->SV
 |_,[],x=>x
 | .agg l, .lQ k::p,x=> .agg (l.set k (rG (l.getD k .junk) p x))
 | .arr n w f, .idx i _::p,x=> .arr n w (zG f i (rG (f i) p x))
 |c,_::_,_=>c
def gI:SV->List Step->Nat->Nat->Prop
 |_,[],acc,o=>o=acc
 | .agg l, .lQ k::p,acc,o=>k<l.length/\gI (l.getD k .junk) p (acc+Aq (l.take k)) o
 | .arr n w f, .idx i n'::p,acc,o=>n'=n/\gI (f i) p (acc+i*w) o
 |_,_::_,_,_=>False
theorem bV.nth:∀ (l:List SV) (k:Nat) {J:Env} {cs:List Value},bV l J cs->k<l.length->
  ah (l.getD k .junk) J (sub cs (Aq (l.take k)) (wd (l.getD k .junk)))/\Aq (l.take k)+wd (l.getD k .junk)<=cs.length
 |[],k,_,_,_,hk=>absurd hk (z08 _)
 |x::r,0,J,cs,h,_=>by
  simp only[bV] at h;obtain⟨a,b,h1,h2,h3⟩:=h;have e1:=ah.length x h2;subst h1;simp only[z1e,Aq,z1g,sub,z3c,<- e1,List.take_left];exact⟨h2,by simp⟩
 |x::r,k+1,J,cs,h,hk=>by
  simp only[bV] at h;obtain⟨a,b,h1,h2,h3⟩:=h;have e1:=ah.length x h2;obtain⟨i1,i2⟩:=bV.nth r k h3 (by simpa using hk)
  subst h1;simp only[z2o,Aq,z0o];refine⟨?_,by rw[List.length_append];omega⟩
  unfold sub at i1 ⊢;rw[<- e1,z1r,z0c (by omega)]
  simpa using i1
theorem sub_sub{cs:List Value}{a n b m:Nat}(h:b+m<=n):sub (sub cs a n) b m=sub cs (a+b) m:=by simp only[sub,z0t,z1y,z14];rw[z1w (by omega)]
theorem ah.get:∀ (p:List Step) (c:SV) {J:Env} {cs:List Value} (acc o:Nat),ah c J cs->fM p->gI c p acc o->
  acc<=o/\ah (dG c p) J (sub cs (o - acc) (wd (dG c p)))/\(o - acc)+wd (dG c p)<=cs.length
 |[],c,J,cs,acc,o,h,_,ho=>by
  have e:=ah.length c h;simp only[gI] at ho;subst ho;cases c<;>simp only[dG]<;>refine⟨z0e _,?_,?_⟩<;>first
   |(simp only[z1o,sub,z3c,<- e,List.take_length];exact h)
   |(rw[<- e];omega)
 | .lQ k::p, .agg l,J,cs,acc,o,h,hp,ho=>by
  simp only[gI] at ho;obtain⟨hk,ho⟩:=ho;simp only[ah] at h;obtain⟨h1,h2⟩:=bV.nth l k h hk;simp only[fM] at hp;obtain⟨i1,i2,i3⟩:=ah.get p (l.getD k .junk) _ o h1 hp ho;have hlen:=ah.length _ h1;simp only[dG];rw[hlen] at i3;rw[sub_sub i3] at i2;refine⟨by omega,?_,by omega⟩
  have:Aq (l.take k)+(o - (acc+Aq (l.take k)))=o - acc:=by omega
  rw[this] at i2;exact i2
 | .idx i n'::p, .arr n w f,J,cs,acc,o,h,hp,ho=>by
  simp only[gI] at ho;obtain⟨hn,ho⟩:=ho;subst hn;simp only[ah] at h;simp only[fM] at hp;obtain⟨hl,hf⟩:=h;have hw:=bF (w:=w) hp.1;obtain⟨i1,i2,i3⟩:=ah.get p (f i) _ o (hf i hp.1) hp.2 ho;have hs:(sub cs (i*w) w).length=w:=gW (by omega)
  rw[hs] at i3;rw[sub_sub i3] at i2;simp only[dG];refine⟨by omega,?_,by omega⟩
  have:i*w+(o - (acc+i*w))=o - acc:=by omega
  rw[this] at i2;exact i2
 | .lQ k::p, .arr ..,_,_,_,_,_,_,ho=>by simp only[gI] at ho
 | .idx .. ::p, .agg ..,_,_,_,_,_,_,ho=>by simp only[gI] at ho
 |_::_, .int ..,_,_,_,_,_,_,ho=>by simp only[gI] at ho
 |_::_, .bool ..,_,_,_,_,_,_,ho=>by simp only[gI] at ho
 |_::_, .str ..,_,_,_,_,_,_,ho=>by simp only[gI] at ho
 |_::_, .cu ..,_,_,_,_,_,_,ho=>by simp only[gI] at ho
 |_::_, .lst ..,_,_,_,_,_,_,ho=>by simp only[gI] at ho
 |_::_, .lit ..,_,_,_,_,_,_,ho=>by simp only[gI] at ho
 |_::_, .jX ..,_,_,_,_,_,_,ho=>by simp only[gI] at ho
 |_::_, .ref ..,_,_,_,_,_,_,ho=>by simp only[gI] at ho
 |_::_, .ptr ..,_,_,_,_,_,_,ho=>by simp only[gI] at ho
 |_::_, .vec ..,_,_,_,_,_,_,ho=>by simp only[gI] at ho
 |_::_, .iR ..,_,_,_,_,_,_,ho=>by simp only[gI] at ho
 |_::_, .kZ ..,_,_,_,_,_,_,ho=>by simp only[gI] at ho
 |_::_, .kC ..,_,_,_,_,_,_,ho=>by simp only[gI] at ho
 |_::_, .map ..,_,_,_,_,_,_,ho=>by simp only[gI] at ho
 |_::_, .fn ..,_,_,_,_,_,_,ho=>by simp only[gI] at ho
 |_::_, .iface ..,_,_,_,_,_,_,ho=>by simp only[gI] at ho
 |_::_, .dO,_,_,_,_,_,_,ho=>by simp only[gI] at ho
 |_::_, .mX,_,_,_,_,_,_,ho=>by simp only[gI] at ho
 |_::_, .y5,_,_,_,_,_,_,ho=>by simp only[gI] at ho
 |_::_, .lD,_,_,_,_,_,_,ho=>by simp only[gI] at ho
 |_::_, .Ba,_,_,_,_,_,_,ho=>by simp only[gI] at ho
 |_::_, .zH,_,_,_,_,_,_,ho=>by simp only[gI] at ho
 |_::_, .raw ..,_,_,_,_,_,_,ho=>by simp only[gI] at ho
 |_::_, .junk,_,_,_,_,_,_,ho=>by simp only[gI] at ho
theorem iO{c:SV}{J:Env}{cs:List Value}(h:ah c J cs):(boxed c.isAgg cs).cells=cs.toArray:=by
 have h1:=ah.one c h;have h2:=ah.length c h;cases hc:c.isAgg with
 |true=>rfl
 |false=>
  have h3:wd c=1:=by cases c<;>first|rfl|cases hc
  match cs,h2,h1 with
  |[v],_,h1=>
   have:=h1 v (by simp)
   simp only[boxed,z0a,if_false,z2y];cases v<;>first|rfl|(simp[z03] at this)
  |[],h2,_=>rw[h3] at h2;cases h2
  |_::_::_,h2,_=>rw[h3] at h2;simp at h2
def splice(cs:List Value)(a:Nat)(xs:List Value):List Value:=cs.take a++xs++cs.drop (a+xs.length)
theorem jM{cs xs:List Value}{a:Nat}(h:a+xs.length<=cs.length):(splice cs a xs).length=cs.length:=by simp[splice];omega
theorem iP{cs xs:List Value}{a j:Nat}(h:a+xs.length<=cs.length):
  (splice cs a xs)[j]? =if a<=j/\j<a+xs.length then xs[j - a]? else cs[j]? :=by
 unfold splice;rw[z16,z2k];have hl:(cs.take a).length=a:=by simp;omega
 rw[hl];by_cases h1:j<a
 ·rw[if_pos h1,if_neg (by omega),z1i,if_pos h1]
 ·rw[if_neg h1,z2k];by_cases h2:j<a+xs.length
  ·rw[if_pos (by omega),if_pos ⟨by omega,h2⟩]
  ·rw[if_neg (by omega),if_neg (by omega),z0q]
   congr 1;omega
theorem tq{cs xs:List Value}{a n b:Nat}(h1:a<=b)(h2:b+xs.length<=a+n)(h3:a+n<=cs.length):
  sub (splice cs b xs) a n=splice (sub cs a n) (b - a) xs:=by
 apply z0l;intro j;have hl:(sub cs a n).length=n:=gW h3;rw[iM,iP (by omega),iP (by omega),iM]
 by_cases hj:j<n
 ·rw[if_pos hj,if_pos hj];by_cases hc:b<=a+j/\a+j<b+xs.length
  ·rw[if_pos hc,if_pos (by omega)];congr 1;omega
  ·rw[if_neg hc,if_neg (by omega)]
 ·rw[if_neg hj,if_neg hj,if_neg (by omega)]
theorem kJ{cs xs:List Value}{a n b:Nat}(h:b+xs.length<=a\/a+n<=b)(h3:b+xs.length<=cs.length):
  sub (splice cs b xs) a n=sub cs a n:=by
 apply z0l;intro j;rw[iM,iP (by omega),iM]
 by_cases hj:j<n
 ·rw[if_pos hj,if_pos hj,if_neg (by omega)]
 ·rw[if_neg hj,if_neg hj]
theorem J3{cs xs:List Value}{a n b:Nat}(h1:a+n<=cs.length)(h2:b+xs.length<=n):
  splice cs a (splice (sub cs a n) b xs)=splice cs (a+b) xs:=by
 have hs:(sub cs a n).length=n:=gW h1;have hl:(splice (sub cs a n) b xs).length=n:=by rw[jM (by omega),hs]
 apply z0l;intro j;rw[iP (xs:=splice (sub cs a n) b xs) (by omega),iP (cs:=cs) (xs:=xs) (by omega),hl]
 by_cases hj:a<=j/\j<a+n
 ·rw[if_pos hj,iP (by omega),iM]
  by_cases hj2:b<=j - a/\j - a<b+xs.length
  ·rw[if_pos hj2,if_pos (by omega)];congr 1;omega
  ·rw[if_neg hj2,if_pos (show j - a<n by omega),if_neg (show ¬ (a+b<=j/\j<a+b+xs.length) by omega)];congr 1;omega
 ·rw[if_neg hj,if_neg (by omega)]
theorem bV.ae2:∀ (l:List SV) (k:Nat) {J:Env} {cs xs:List Value} {x:SV} (_:bV l J cs) (_:k<l.length)
  (_:ah x J xs) (_:xs.length=wd (l.getD k .junk)),bV (l.set k x) J (splice cs (Aq (l.take k)) xs)
 |[],k,_,_,_,_,_,hk,_,_=>absurd hk (z08 _)
 |y::r,0,J,cs,xs,x,h,_,hx,hl=>by
  simp only[bV] at h;obtain⟨a,b,h1,h2,h3⟩:=h;have e1:=ah.length y h2;subst h1;simp only[z1g] at hl;simp only[List.set_cons_zero,bV,z1e,Aq,splice,z0z,z0j,hl,<- e1,List.drop_left];exact⟨xs,b,rfl,hx,h3⟩
 |y::r,k+1,J,cs,xs,x,h,hk,hx,hl=>by
  simp only[bV] at h;obtain⟨a,b,h1,h2,h3⟩:=h;have e1:=ah.length y h2;have ih:=bV.ae2 r k h3 (by simpa using hk) hx (by simpa using hl)
  subst h1;simp only[z2r,bV,z2o,Aq];refine⟨a,_,?_,h2,ih⟩;simp only[splice,<- e1,List.take_append,z1r,z16];rw[z0s (by omega),z0c (by omega)]
  simp[Nat.add_assoc]
theorem ajK:∀ (p:List Step) (c x:SV) (acc o:Nat),gI c p acc o->wd x=wd (dG c p)->wd (rG c p x)=wd c:=by
 intro p
 induction p with
 |nil=>intro c x acc o _ h;cases c<;>simpa[rG,dG] using h
 |cons s p ih=>
  intro c x acc o ho h;cases c<;>cases s<;>simp only[gI] at ho
  ·simp[rG,wd]
  ·rename_i l k;simp only[dG] at h;have:=ih _ _ _ _ ho.2 h;simp only[rG,wd];clear ih ho h;revert k
   induction l with
   |nil=>intro k _;simp
   |cons y r ihl=>
    intro k hk;cases k with
    |zero=>simp only[z1g] at hk;simp[Aq,hk]
    |succ k=>simp only[z0o] at hk;simp only[z0o,z2r,Aq,ihl k hk]
theorem ah.set:∀ (p:List Step) (c:SV) {J:Env} {cs xs:List Value} {x:SV} (acc o:Nat),ah c J cs->fM p->gI c p acc o->
  ah x J xs->wd x=wd (dG c p)->ah (rG c p x) J (splice cs (o - acc) xs)
 |[],c,J,cs,xs,x,acc,o,h,_,ho,hx,hw=>by
  have e:=ah.length c h;have e2:=ah.length x hx;have hw':wd x=wd c:=by cases c<;>simpa[dG] using hw
  simp only[gI] at ho;subst ho;have:splice cs (o - o) xs=xs:=by simp only[z1o,splice,z1e,z0z,z0j];rw[z0c (by omega)];simp
  rw[this];cases c<;>exact hx
 | .lQ k::p, .agg l,J,cs,xs,x,acc,o,h,hp,ho,hx,hw=>by
  simp only[gI] at ho;obtain⟨hk,ho⟩:=ho;simp only[ah] at h;simp only[fM] at hp;simp only[dG] at hw;obtain⟨h1,h2⟩:=bV.nth l k h hk;obtain⟨i1,i2,i3⟩:=ah.get p (l.getD k .junk) _ o h1 hp ho;have ih:=ah.set p (l.getD k .junk) _ o h1 hp ho hx hw;have hl1:=ah.length _ h1;have hl2:=ah.length _ ih;have hx2:=ah.length x hx;have hwd:=ajK p (l.getD k .junk) x _ o ho hw;have:=bV.ae2 l k h hk ih (by rw[hl2,hwd])
  simp only[rG,ah];have key:=J3 (cs:=cs) (xs:=xs) (a:=Aq (l.take k)) (n:=wd (l.getD k .junk)) (b:=o - (acc+Aq (l.take k))) (by omega) (by omega)
  rw[show Aq (l.take k)+(o - (acc+Aq (l.take k)))=o - acc by omega] at key
  rw[key] at this;exact this
 | .idx i n'::p, .arr n w f,J,cs,xs,x,acc,o,h,hp,ho,hx,hw=>by
  simp only[gI] at ho;obtain⟨hn,ho⟩:=ho;subst hn;simp only[ah] at h;simp only[fM] at hp;simp only[dG] at hw;obtain⟨hl,hf⟩:=h;have hwl:=bF (w:=w) hp.1;obtain⟨i1,i2,i3⟩:=ah.get p (f i) _ o (hf i hp.1) hp.2 ho;have ih:=ah.set p (f i) _ o (hf i hp.1) hp.2 ho hx hw;have hs:(sub cs (i*w) w).length=w:=gW (by omega)
  have hx2:=ah.length x hx;rw[hs] at i3;simp only[rG,ah];refine⟨by rw[jM (by omega)];exact hl,λj hj=> ?_⟩
  unfold zG;by_cases hji:j=i
  ·subst hji;rw[if_pos rfl,tq (by omega) (by omega) (by omega)]
   have:o - acc - j*w=o - (acc+j*w):=by omega
   rw[this];exact ih
  ·rw[if_neg hji,kJ ?_ (by omega)]
   ·exact hf j hj
   ·rcases z1j hji with hlt|hgt
    ·right;have:=bF (w:=w) hlt;omega
    ·left;have:=bF (w:=w) hgt;omega
 | .lQ k::p, .arr ..,_,_,_,_,_,_,_,_,ho,_,_=>by simp only[gI] at ho
 | .idx .. ::p, .agg ..,_,_,_,_,_,_,_,_,ho,_,_=>by simp only[gI] at ho
 |_::_, .int ..,_,_,_,_,_,_,_,_,ho,_,_=>by simp only[gI] at ho
 |_::_, .bool ..,_,_,_,_,_,_,_,_,ho,_,_=>by simp only[gI] at ho
 |_::_, .str ..,_,_,_,_,_,_,_,_,ho,_,_=>by simp only[gI] at ho
 |_::_, .cu ..,_,_,_,_,_,_,_,_,ho,_,_=>by simp only[gI] at ho
 |_::_, .lst ..,_,_,_,_,_,_,_,_,ho,_,_=>by simp only[gI] at ho
 |_::_, .lit ..,_,_,_,_,_,_,_,_,ho,_,_=>by simp only[gI] at ho
 |_::_, .jX ..,_,_,_,_,_,_,_,_,ho,_,_=>by simp only[gI] at ho
 |_::_, .ref ..,_,_,_,_,_,_,_,_,ho,_,_=>by simp only[gI] at ho
 |_::_, .ptr ..,_,_,_,_,_,_,_,_,ho,_,_=>by simp only[gI] at ho
 |_::_, .vec ..,_,_,_,_,_,_,_,_,ho,_,_=>by simp only[gI] at ho
 |_::_, .iR ..,_,_,_,_,_,_,_,_,ho,_,_=>by simp only[gI] at ho
 |_::_, .kZ ..,_,_,_,_,_,_,_,_,ho,_,_=>by simp only[gI] at ho
 |_::_, .kC ..,_,_,_,_,_,_,_,_,ho,_,_=>by simp only[gI] at ho
 |_::_, .map ..,_,_,_,_,_,_,_,_,ho,_,_=>by simp only[gI] at ho
 |_::_, .fn ..,_,_,_,_,_,_,_,_,ho,_,_=>by simp only[gI] at ho
 |_::_, .iface ..,_,_,_,_,_,_,_,_,ho,_,_=>by simp only[gI] at ho
 |_::_, .dO,_,_,_,_,_,_,_,_,ho,_,_=>by simp only[gI] at ho
 |_::_, .mX,_,_,_,_,_,_,_,_,ho,_,_=>by simp only[gI] at ho
 |_::_, .y5,_,_,_,_,_,_,_,_,ho,_,_=>by simp only[gI] at ho
 |_::_, .lD,_,_,_,_,_,_,_,_,ho,_,_=>by simp only[gI] at ho
 |_::_, .Ba,_,_,_,_,_,_,_,_,ho,_,_=>by simp only[gI] at ho
 |_::_, .zH,_,_,_,_,_,_,_,_,ho,_,_=>by simp only[gI] at ho
 |_::_, .raw ..,_,_,_,_,_,_,_,_,ho,_,_=>by simp only[gI] at ho
 |_::_, .junk,_,_,_,_,_,_,_,_,ho,_,_=>by simp only[gI] at ho
end Go.Sx
namespace Go.Sx
open Go
inductive ES where
 |int (k:IntKind)
 |bool
 |str
 |st (l:List ES)
 |arr (n w:Nat) (e:ES)
mutual
def fA:ES->SV->Prop
 | .int k,x=>match x with
  | .int k' _=>k'=k
  |_=>False
 | .bool,x=>match x with
  | .bool _=>True
  |_=>False
 | .str,x=>match x with
  | .str _=>True
  |_=>False
 | .st l,x=>match x with
  | .agg xs=>jw l xs
  |_=>False
 | .arr n w e,x=>match x with
  | .arr n' w' f=>n'=n/\w'=w/\∀ i,i<n->fA e (f i)
  |_=>False
def jw:List ES->List SV->Prop
 |[],xs=>match xs with
  |[]=>True
  |_=>False
 |e::l,xs=>match xs with
  |x::xs=>fA e x/\jw l xs
  |[]=>False
end
mutual
def adf:SV->Prop
 | .int .. =>True
 | .bool _=>True
 | .str _=>True
 | .agg l=>Au l
 | .arr n _ f=> ∀ i,i<n->adf (f i)
 |_=>False
def Au:List SV->Prop
 |[]=>True
 |x::r=>adf x/\Au r
end
mutual
theorem FP:∀ (x:SV) {J J':Env} {cs:List Value},adf x->ah x J cs->ah x J' cs
 | .int ..,_,_,_,_,h=>h
 | .bool ..,_,_,_,_,h=>h
 | .str ..,_,_,_,_,h=>h
 | .agg l,_,_,_,hd,h=>by simp only[ah] at h ⊢;exact Tm l hd h
 | .arr n w f,_,_,_,hd,h=>by
  simp only[ah] at h ⊢;exact⟨h.1,λi hi=>FP (f i) (hd i hi) (h.2 i hi)⟩
 | .cu _,_,_,_,hd,_=>hd.elim
 | .lst ..,_,_,_,hd,_=>hd.elim
 | .lit ..,_,_,_,hd,_=>hd.elim
 | .jX ..,_,_,_,hd,_=>hd.elim
 | .ref ..,_,_,_,hd,_=>hd.elim
 | .ptr ..,_,_,_,hd,_=>hd.elim
 | .vec ..,_,_,_,hd,_=>hd.elim
 | .iR ..,_,_,_,hd,_=>hd.elim
 | .kZ ..,_,_,_,hd,_=>hd.elim
 | .kC ..,_,_,_,hd,_=>hd.elim
 | .map ..,_,_,_,hd,_=>hd.elim
 | .fn ..,_,_,_,hd,_=>hd.elim
 | .iface ..,_,_,_,hd,_=>hd.elim
 | .dO,_,_,_,hd,_=>hd.elim
 | .mX,_,_,_,hd,_=>hd.elim
 | .y5,_,_,_,hd,_=>hd.elim
 | .lD,_,_,_,hd,_=>hd.elim
 | .Ba,_,_,_,hd,_=>hd.elim
 | .zH,_,_,_,hd,_=>hd.elim
 | .raw _,_,_,_,hd,_=>hd.elim
 | .junk,_,_,_,hd,_=>hd.elim
theorem Tm:∀ (l:List SV) {J J':Env} {cs:List Value},Au l->bV l J cs->bV l J' cs
 |[],_,_,_,_,h=>h
 |x::r,_,_,_,hd,h=>by simp only[bV] at h ⊢;obtain⟨a,b,h1,h2,h3⟩:=h;exact⟨a,b,h1,FP x hd.1 h2,Tm r hd.2 h3⟩
end
theorem Tn:∀ {l:List SV} {i:Nat},Au l->i<l.length->adf (l.getD i .junk)
 |[],i,_,hi=>absurd hi (z08 _)
 |x::r,0,h,_=>h.1
 |x::r,i+1,h,hi=>by rw[z0o];exact Tn h.2 (by simpa using hi)
def Env.nil:Env:=⟨0,λ_=>0,λ_=>undef,λ_=>none⟩
theorem Env.nil_le(J:Env):Env.nil.Le J:=⟨z0x _,λ_ h=>absurd h (z08 _),λ_ h=>absurd h (z08 _),λ_ _ h=>by cases h⟩
def evP:ES->SV->Prop
 | .arr 0 0 (.st []),x=>match x with
  | .agg [.int .i64 _, .fn _ []]=>True
  | .agg [.int .i64 _, .y5]=>True
  |_=>False
 |e,x=>fA e x
structure SG(ek ev:ES)(p:SV×SV)(e:MapEntry):Prop where
 k:fA ek p.1
 v:evP ev p.2
 kc:∃ cs,ah p.1 Env.nil cs/\e.key=boxed p.1.isAgg cs
 vc:∃ cs,ah p.2 Env.nil cs/\e.val=boxed p.2.isAgg cs
def iQ(ek ev:ES):List (SV×SV)->List MapEntry->Prop
 |[],[]=>True
 |p::l,e::es=>SG ek ev p e/\iQ ek ev l es
 |_,_=>False
def Ae(es:List MapEntry)(clock:Nat):Prop:=(es.map (·.born)).Nodup/\∀ e∈es,e.born<clock
inductive ay:Type 1 where
 |dead
 |blk (T:TypeId) (c:SV)
 |vec (T:TypeId) (w:Nat) (l:List SV)
 |mp (ek ev:ES) (l:List (SV×SV))
def ay.aqg:ay->Bool
 | .vec .. =>true
 |_=>false
def tX:Nat:=1000000
def ay.qw:ay->Bool
 | .blk .. =>true
 | .mp .. =>true
 | .vec T _ _=>decide (tX<=T)
 | .dead=>false
def agf(w:World)(T wd:Nat)(v:Value)(n:Nat)(xs:List Value):Prop:= ∃ T0,(T0=T\/T0+tX=T)/\w.ownsRow 0 T0 wd v n xs
theorem agf.of{w:World}{T wd:Nat}{v:Value}{n:Nat}{xs:List Value}(h:w.ownsRow 0 T wd v n xs):agf w T wd v n xs:=⟨T, .inl rfl,h⟩
theorem agf.get{w:World}{T wd:Nat}{v:Value}{n:Nat}{xs:List Value}(h:agf w T wd v n xs)(hT:T<tX):w.ownsRow 0 T wd v n xs:=by
 obtain⟨T0,rfl|e,h⟩:=h
 ·exact h
 ·omega
def aS(J:Env)(i:Nat):ay->Option Nat
 | .dead=>none
 | .blk .. =>some (J.blk i)
 | .vec .. =>(J.vv i).ownBlock
 | .mp .. =>some (J.blk i)
def fH(J:Env)(i:Nat)(w:World):ay->Prop
 | .dead=>True
 | .blk T c=> ∃ cs:List Value,w.heap[J.blk i]? =some (.cells cs.toArray T (0,0))/\ah c J cs
 | .vec T wd l=> ∃ xs,agf w T wd (J.vv i) l.length xs/\∀ j,j<l.length->ah (l.getD j .junk) J (sub xs (j*wd) wd)
 | .mp ek ev l=> ∃ (es:Array MapEntry) (clock:Nat),w.heap[J.blk i]? =some (.map es clock)/\iQ ek ev l es.toList/\Ae es.toList clock
def ak(m:List ay)(i:Nat):ay:=m.getD i .dead
def adL:List (Nat×List Value):=[]
def adM:List Nat:=[]
def Glob(H:Nat->Option Obj):Prop:=(∀ p∈adL,∃ T fz,H p.1=some (.cells p.2.toArray T fz))/\∀ b∈adM,∃ ev T fz,H b=some (.cells #[ev] T fz)/\(ev= .nilIface\/∃ t p,ev= .iface t p)
theorem Glob.mono{H H':Nat->Option Obj}(g:Glob H)(h:∀ b o,H b=some o->H' b=some o):Glob H':=
 ⟨λp hp=>let ⟨T,fz,e⟩:=g.1 p hp;⟨T,fz,h _ _ e⟩,λb hb=>let ⟨ev,T,fz,e,k⟩:=g.2 b hb;⟨ev,T,fz,h _ _ e,k⟩⟩
structure Good(J:Env)(m:List ay)(w:World):Prop where
 n:J.n=m.length
 res:∀ i,fH J i w (ak m i)
 jY:∀ i j b,i≠j->aS J i (ak m i)=some b->aS J j (ak m j)≠some b
 sep:∀ i b,aS J i (ak m i)=some b->J.H b=none
 hv:∀ b o,J.H b=some o->w.heap[b]? =some o
 gl:Glob J.H
def strict:Bool:=true
structure Kept(B:Nat->Prop)(J:Env)(w:World)(J':Env)(w':World):Prop where
 os:w'.os=w.os
 tape:w'.tape=w.tape
 output:w'.output=w.output
 size:w.heap.size<=w'.heap.size
 heap:∀ b,b<w.heap.size->¬ B b->w'.heap[b]? =w.heap[b]?
 H:∀ b o,J.H b=some o->J'.H b=some o
 fresh:∀ b o,J'.H b=some o->J.H b=some o\/w.heap.size<=b\/B b
 drawn:strict=true->w.drawn<=w'.drawn
structure Base where
 w:World
 J:Env
 B:Nat->Prop
structure Inv(β:Base)(J:Env)(m:List ay)(w:World):Prop where
 good:Good J m w
 kept:Kept β.B β.J β.w J w
 own:∀ i b,aS J i (ak m i)=some b->β.B b\/β.w.heap.size<=b
 n:β.J.n<=J.n
 blk:∀ i,i<β.J.n->J.blk i=β.J.blk i
 vv:∀ i,i<β.J.n->(ak m i).qw=true->J.vv i=β.J.vv i
theorem dw{J:Env}{m:List ay}{w:World}(g:Good J m w){i b:Nat}(h:aS J i (ak m i)=some b):b<w.heap.size:=by
 have hr:=g.res i;cases hm:ak m i with
 |dead=>rw[hm] at h;cases h
 |blk T c=>
  rw[hm] at h hr;simp only[aS,z00] at h;obtain⟨cs,hc,_⟩:=hr;subst h;exact(z04.1 hc).1
 |vec T wd l=>
  rw[hm] at h hr;obtain⟨xs,⟨_,_,ho⟩,_⟩:=hr;exact(ho.lt b h).2
 |mp ek ev l=>
  rw[hm] at h hr;simp only[aS,z00] at h;obtain⟨es,cl,hc,_⟩:=hr;subst h;exact(z04.1 hc).1
theorem wo{J:Env}{m:List ay}{w:World}(g:Good J m w){b:Nat}{o:Obj}(h:J.H b=some o):b<w.heap.size:=
 (z04.1 (g.hv b o h)).1
theorem Good.grow{J J':Env}{m:List ay}{w w':World}(g:Good J m w)(hl:J.Le J')(hn:J'.n=m.length)
  (hb:∀ i,i<J.n->J'.blk i=J.blk i) (hvv:∀ i,i<J.n->J'.vv i=J.vv i)
  (hw:∀ b,b<w.heap.size->w'.heap[b]? =w.heap[b]?) (hH:∀ b o,J'.H b=some o->w'.heap[b]? =some o)
  (hsep:∀ i b,aS J i (ak m i)=some b->J'.H b=none):Good J' m w':=by
 have hown:∀ i,aS J' i (ak m i)=aS J i (ak m i):=by
  intro i;rcases z1d i m.length with hi|hi
  ·have hi':i<J.n:=by rw[g.n];exact hi
   cases hm:ak m i with
   |dead=>rfl
   |blk T c=>simp[aS,hb i hi']
   |vec T wd l=>simp[aS,hvv i hi']
   |mp ek ev l=>simp[aS,hb i hi']
  ·have:ak m i= .dead:=by simp[ak,z0f,z0v hi]
   rw[this];rfl
 refine⟨hn,λi=> ?_,λi j b hij h1 h2=> ?_,λi b h=> ?_,hH,g.gl.mono hl.H⟩
 ·have hr:=g.res i;rcases z1d i m.length with hi|hi
  ·have hi':i<J.n:=by rw[g.n];exact hi
   cases hm:ak m i with
   |dead=>trivial
   |blk T c=>
    rw[hm] at hr;obtain⟨cs,h1,h2⟩:=hr;have hlt:J.blk i<w.heap.size:=(z04.1 h1).1;exact⟨cs,by rw[hb i hi',hw _ hlt];exact h1,h2.mono c hl⟩
   |vec T wd l=>
    rw[hm] at hr;obtain⟨xs,⟨T0,hT,h1⟩,h2⟩:=hr;refine⟨xs,⟨T0,hT,?_⟩,λj hj=>(h2 j hj).mono _ hl⟩;rw[hvv i hi'];refine⟨h1.1,?_⟩;rcases h1.2 with hx|⟨gg,cap,cur,e1,e2,e3,e4⟩
    ·exact .inl hx
    ·exact .inr ⟨gg,cap,cur,e1,e2,by rw[hw _ (z04.1 e3).1];exact e3,e4⟩
   |mp ek ev l=>
    rw[hm] at hr;obtain⟨es,cl,h1,h2⟩:=hr;exact⟨es,cl,by rw[hb i hi',hw _ (z04.1 h1).1];exact h1,h2⟩
  ·have:ak m i= .dead:=by simp[ak,z0f,z0v hi]
   rw[this];trivial
 ·rw[hown] at h1 h2;exact g.jY i j b hij h1 h2
 ·rw[hown] at h;exact hsep i b h
def Env.more(J:Env)(b:Nat)(v:Value):Env:= {J with n:=J.n+1,blk:=λi=>if i=J.n then b else J.blk i,vv:=λi=>if i=J.n then v else J.vv i}
theorem Env.dS(J:Env)(b:Nat)(v:Value):J.Le (J.more b v):=
 ⟨Nat.le_succ _,λi hi=>by simp[Env.more,z0u hi],λi hi=>by simp[Env.more,z0u hi],λ_ _ h=>h⟩
theorem bD{m:List ay}{r:List ay}{i:Nat}(h:i<m.length):ak (m++r) i=ak m i:=by simp[ak,z0f,List.getElem?_append_left h]
theorem gU{m:List ay}{r:ay}:ak (m++[r]) m.length=r:=by simp[ak]
theorem bI{m:List ay}{i:Nat}(h:m.length<=i):ak m i= .dead:=by simp[ak,z0f,z0v h]
theorem Inv.alloc{β:Base}{J:Env}{m:List ay}{w:World}(h:Inv β J m w){T:TypeId}{c:SV}{cs:List Value}(hc:ah c J cs):
  Inv β (J.more w.heap.size undef) (m++[.blk T c]) (w.alloc (.cells cs.toArray T)):=by
 have hn:=h.good.n;have hw:∀ b,b<w.heap.size->(w.alloc (.cells cs.toArray T)).heap[b]? =w.heap[b]? :=λb hb=>Go.RowKit.Below.heap_alloc w _ b hb;have hle:=J.dS w.heap.size undef;have hown:∀ i,i<m.length->aS (J.more w.heap.size undef) i (ak (m++[.blk T c]) i)=aS J i (ak m i):=by
  intro i hi;rw[bD hi];have hi':i<J.n:=by omega
  cases ak m i<;>simp[aS,Env.more,z0u hi']
 have hnew:aS (J.more w.heap.size undef) m.length (ak (m++[.blk T c]) m.length)=some w.heap.size:=by rw[gU];simp[aS,Env.more,hn]
 have hcase:∀ i b,aS (J.more w.heap.size undef) i (ak (m++[.blk T c]) i)=some b->(i<m.length/\aS J i (ak m i)=some b)\/(i=m.length/\b=w.heap.size):=by
  intro i b hb;rcases z19 i m.length with hi|hi|hi
  ·rw[hown i hi] at hb;exact .inl ⟨hi,hb⟩
  ·subst hi;rw[hnew] at hb;exact .inr ⟨rfl,(Option.some.inj hb).symm⟩
  ·rw[bI (by simp;omega)] at hb;cases hb
 refine⟨⟨by simp[Env.more,hn],λi=> ?_,λi j b hij h1 h2=> ?_,λi b hb=> ?_,λb o hb=> ?_,h.good.gl⟩,⟨h.kept.os,h.kept.tape,h.kept.output,?_,?_,h.kept.H,h.kept.fresh,h.kept.drawn⟩,λi b hb=> ?_,?_,λi hi=> ?_,λi hi hv=> ?_⟩
 ·rcases z19 i m.length with hi|hi|hi
  ·rw[bD hi];have hi':i<J.n:=by omega
   have hr:=h.good.res i;cases hm:ak m i with
   |dead=>trivial
   |blk T' c'=>
    rw[hm] at hr;obtain⟨cs',h1,h2⟩:=hr;have hb:(J.more w.heap.size undef).blk i=J.blk i:=by simp[Env.more,z0u hi']
    exact⟨cs',by rw[hb,hw _ (z04.1 h1).1];exact h1,h2.mono c' hle⟩
   |vec T' wd l=>
    rw[hm] at hr;obtain⟨xs,⟨T0,hT,h1⟩,h2⟩:=hr;have hb:(J.more w.heap.size undef).vv i=J.vv i:=by simp[Env.more,z0u hi']
    refine⟨xs,⟨T0,hT,?_⟩,λj hj=>(h2 j hj).mono _ hle⟩;rw[hb];exact h1.alloc _
   |mp ek ev l=>
    rw[hm] at hr;obtain⟨es,cl,h1,h2⟩:=hr;have hb:(J.more w.heap.size undef).blk i=J.blk i:=by simp[Env.more,z0u hi']
    exact⟨es,cl,by rw[hb,hw _ (z04.1 h1).1];exact h1,h2⟩
  ·subst hi;rw[gU];refine⟨cs,?_,hc.mono c hle⟩;have:(J.more w.heap.size undef).blk m.length=w.heap.size:=by simp[Env.more,hn]
   rw[this];exact heap_alloc_new w _
  ·rw[bI (by simp;omega)];trivial
 ·rcases hcase i b h1 with⟨hi,h1'⟩|⟨hi,hb⟩<;>rcases hcase j b h2 with⟨hj,h2'⟩|⟨hj,hb2⟩
  ·exact h.good.jY i j b hij h1' h2'
  ·have:=dw h.good h1';omega
  ·have:=dw h.good h2';omega
  ·omega
 ·rcases hcase i b hb with⟨_,h1⟩|⟨_,h1⟩
  ·exact h.good.sep i b h1
  ·subst h1;cases hh:J.H w.heap.size with
   |none=>exact hh
   |some o=>have:=wo h.good hh;omega
 ·rw[hw b (wo h.good hb)];exact h.good.hv b o hb
 ·have:=h.kept.size;simp;omega
 ·intro b hb hB;rw[hw b (z02 hb h.kept.size)];exact h.kept.heap b hb hB
 ·rcases hcase i b hb with⟨_,h1⟩|⟨_,h1⟩
  ·exact h.own i b h1
  ·right;have:=h.kept.size;omega
 ·have:=h.n;simp[Env.more];omega
 ·have:=h.n;have e:=h.blk i hi;simp[Env.more];rw[if_neg (by omega)];exact e
 ·have hn':=h.n;rw[bD (by omega)] at hv
  have e:=h.vv i hi hv;simp[Env.more];rw[if_neg (by omega)];exact e
theorem jJ{m:List ay}{i:Nat}(h:ak m i≠ .dead):i<m.length:=
 Nat.lt_of_not_le λhi=>h (bI hi)
theorem oq{m:List ay}{i:Nat}(r:ay)(hi:i<m.length)(j:Nat):ak (m.set i r) j=if j=i then r else ak m j:=by
 unfold ak;rw[z0f,z0g];by_cases hj:i=j
 ·subst hj;simp[hi]
 ·rw[if_neg hj,if_neg (λe=>hj e.symm)];rfl
theorem fH.same{J:Env}{i:Nat}{w w':World}{r:ay}(h:fH J i w r)(ho:∀ b,aS J i r=some b->w'.heap[b]? =w.heap[b]?):fH J i w' r:=by
 cases r with
 |dead=>trivial
 |blk T c=>exact h.imp λ_ x=>⟨(ho _ rfl).trans x.1,x.2⟩
 |vec T wd l=>
  obtain⟨xs,⟨T0,hT,h1,h3⟩,h2⟩:=h;refine⟨xs,⟨T0,hT,h1,h3.imp id λ⟨g,cap,cur,e1,e2,e3,e4⟩=>⟨g,cap,cur,e1,e2,?_,e4⟩⟩,h2⟩;rw[ho g (by simp[aS,e1,z0r])];exact e3
 |mp ek ev l=>exact h.imp λ_ x=>x.imp λ_ y=>⟨(ho _ rfl).trans y.1,y.2⟩
theorem Inv.at1{β:Base}{J:Env}{m:List ay}{w:World}(h:Inv β J m w){i:Nat}{r:ay}{w':World}(hi:i<m.length)(hr:fH J i w' r)
  (ho:∀ b,aS J i r=some b->aS J i (ak m i)=some b) (hv:r.qw=true->(ak m i).qw=true)
  (hw:∀ b,aS J i (ak m i)≠some b->w'.heap[b]? =w.heap[b]?) (hs:w'.heap.size=w.heap.size) (hk:w'.os=w.os/\w'.tape=w.tape/\w'.output=w.output/\w'.drawn=w.drawn):Inv β J (m.set i r) w':=by
 have hat:=oq (m:=m) r hi;have hown:∀ j b,aS J j (ak (m.set i r) j)=some b->aS J j (ak m j)=some b:=by
  intro j b hb;rw[hat] at hb;split at hb
  ·rename_i e;subst e;exact ho b hb
  ·exact hb
 refine⟨⟨by simp[h.good.n],λj=> ?_,λa b x hab h1 h2=>h.good.jY a b x hab (hown _ _ h1) (hown _ _ h2),λa b hb=>h.good.sep a b (hown _ _ hb),λb o hb=> ?_,h.good.gl⟩,
  ⟨hk.1.trans h.kept.os,hk.2.1.trans h.kept.tape,hk.2.2.1.trans h.kept.output,by rw[hs];exact h.kept.size,λb hb hB=> ?_,h.kept.H,h.kept.fresh,by rw[hk.2.2.2];exact h.kept.drawn⟩,λa b hb=>h.own a b (hown _ _ hb),h.n,h.blk,λj hj hx=>h.vv j hj ?_⟩
 ·rw[hat];split
  ·rename_i e;subst e;exact hr
  ·rename_i hj;exact(h.good.res j).same λb hb=>hw b (h.good.jY j i b hj hb)
 ·rw[hw b λe=>by rw[h.good.sep i b e] at hb;cases hb];exact h.good.hv b o hb
 ·rw[hw b λe=>(h.own i b e).elim hB λx=>by omega];exact h.kept.heap b hb hB
 ·rw[hat] at hx;split at hx
  ·rename_i e;subst e;exact hv hx
  ·exact hx
theorem Inv.anK{β:Base}{J:Env}{m:List ay}{w:World}(h:Inv β J m w){i:Nat}{T:TypeId}{c c':SV}{cs':List Value}
  (hm:ak m i= .blk T c) (hc:ah c' J cs'):
  Inv β J (m.set i (.blk T c')) (w.setRow (J.blk i) cs'.toArray):=by
 obtain⟨cs,hcell,_⟩:fH J i w (.blk T c):=hm▸h.good.res i;refine h.at1 (jJ (by rw[hm];nofun)) ⟨cs',setRow_heap w _ _ _ T _ hcell,hc⟩ (by rw[hm];exact λ_ e=>e) (by rw[hm];exact id) (λb hb=>setRow_other w _ b _ λe=>hb (by rw[hm,e];rfl)) (by simp[z3d]) ⟨rfl,rfl,rfl,rfl⟩
end Go.Sx
namespace Go.Sx
open Go
inductive aV:Type 1 where
 |t (n:Nat)
 |c (x:SV)
def aV.ev(σ:List SV):aV->SV
 | .t n=>σ.getD n .junk
 | .c x=>x
def aH(J:Env)(σ:List SV)(a:Act):Prop:=σ.length=a.tmps.size/\∀ k,bK J (σ.getD k .junk) (a.tmps.getD k undef)
def ajX:Value->Option SV
 | .bool b=>some (.bool b)
 | .int k n=>some (.int k n)
 | .string s=>some (.str s.data.toList)
 | .slice none 0 0=>some .dO
 | .pointer none=>some .lD
 | .nilIface=>some .mX
 | .nilFunc=>some .y5
 | .map none=>some .Ba
 |_=>none
def aP:Operand->Option aV
 | .tmp t=>some (.t t)
 | .const v=>(ajX v).map .c
 | .func f=>some (.c (.fn f []))
 | .global _=>none
theorem ajY{v:Value}{x:SV}(h:ajX v=some x)(J:Env):bK J x v:=by
 unfold ajX at h;split at h<;>cases h<;>first
  |exact⟨_,rfl,rfl⟩
  |(refine⟨_,rfl,?_⟩;simp[boxed,SV.isAgg])
theorem aB{x:Operand}{y:aV}(h:aP x=some y){J:Env}{σ:List SV}{a:Act}(hs:aH J σ a):bK J (y.ev σ) (a.eval x):=by
 cases x with
 |tmp t=>simp only[aP,z00] at h;subst h;exact hs.2 t
 |const v=>
  simp only[aP,z05] at h;obtain⟨sv,h1,rfl⟩:=h;exact ajY h1 J
 |global g=>simp[aP] at h
 |func f=>
  simp only[aP,z00] at h;subst h;exact⟨_,⟨[],rfl,rfl⟩,rfl⟩
section inv
variable {J:Env} {v:Value}
theorem fG{k:IntKind}{n:Int}(h:bK J (.int k n) v):v= .int k n:=by obtain⟨cs,h1,h2⟩:=h;simp only[ah] at h1;subst h1;exact h2
theorem kG{b:Bool}(h:bK J (.bool b) v):v= .bool b:=by obtain⟨cs,h1,h2⟩:=h;simp only[ah] at h1;subst h1;exact h2
theorem vH{s:List UInt8}(h:bK J (.str s) v):v= .string ⟨s.toArray⟩:=by obtain⟨cs,h1,h2⟩:=h;simp only[ah] at h1;subst h1;exact h2
theorem lY(h:bK J .dO v):v= .slice none 0 0:=by obtain⟨cs,h1,h2⟩:=h;simp only[ah] at h1;subst h1;exact h2
theorem BF(h:bK J .mX v):v= .nilIface:=by obtain⟨cs,h1,h2⟩:=h;simp only[ah] at h1;subst h1;exact h2
theorem afr(h:bK J .lD v):v= .pointer none:=by obtain⟨cs,h1,h2⟩:=h;simp only[ah] at h1;subst h1;exact h2
theorem yL{i o:Nat}{p:List Step}(h:bK J (.ptr i p o) v):i<J.n/\fM p/\v= .pointer (some ⟨J.blk i,o,none⟩):=by obtain⟨cs,h1,h2⟩:=h;simp only[ah] at h1;obtain⟨h1,hp,h3⟩:=h1;subst h3;exact⟨h1,hp,h2⟩
theorem kF{i n:Nat}(h:bK J (.vec i n) v):i<J.n/\(J.vv i= .slice none 0 0/\n=0\/∃ b cap,J.vv i= .slice (some ⟨b,0,none⟩) n cap/\n<=cap)/\v=J.vv i:=by obtain⟨cs,h1,h2⟩:=h;simp only[ah] at h1;obtain⟨h1,hp,h3⟩:=h1;subst h3;exact⟨h1,hp,h2⟩
theorem BG{i k n:Nat}(h:bK J (.kC i k n) v):i<J.n/\∃ b cap,J.vv i= .slice (some ⟨b,0,none⟩) (k+n) cap/\k+n<=cap/\v= .slice (some ⟨b,k,none⟩) n (cap - k):=by obtain⟨cs,h1,h2⟩:=h;simp only[ah] at h1;obtain⟨h1,b,cap,h3,h4,h5⟩:=h1;subst h5;exact⟨h1,b,cap,h3,h4,h2⟩
theorem xE{i j o:Nat}{p:List Step}(h:bK J (.iR i j p o) v):i<J.n/\fM p/\∃ b cap n,J.vv i= .slice (some ⟨b,0,none⟩) n cap/\j<n/\v= .pointer (some ⟨b,o,none⟩):=by obtain⟨cs,h1,h2⟩:=h;simp only[ah] at h1;obtain⟨h1,hp,b,cap,n,h3,h4,h5⟩:=h1;subst h5;exact⟨h1,hp,b,cap,n,h3,h4,h2⟩
theorem ajZ{l:List SV}(h:bK J (.agg l) v):∃ cs,bV l J cs/\v= .agg cs.toArray:=by obtain⟨cs,h1,h2⟩:=h;simp only[ah] at h1;exact⟨cs,h1,h2⟩
theorem aj0{n w:Nat}{f:Nat->SV}(h:bK J (.arr n w f) v):∃ cs,ah (.arr n w f) J cs/\v= .agg cs.toArray:=by obtain⟨cs,h1,h2⟩:=h;exact⟨cs,h1,h2⟩
theorem YN{l:List SV}(h:bK J (.cu l) v):∃ vs,bT l J vs/\v= .tuple vs.toArray:=h
theorem afs{f:FuncId}{cap:List SV}(h:bK J (.fn f cap) v):∃ vs,bT cap J vs/\v= .func (.func f) #[] vs.toArray:=by obtain⟨cs,h1,h2⟩:=h;simp only[ah] at h1;obtain⟨vs,h3,h4⟩:=h1;subst h4;exact⟨vs,h3,h2⟩
end inv
theorem gJ{J:Env}{x:SV}{cs:List Value}(h:ah x J cs):bK J x (boxed x.isAgg cs):=by
 cases x<;>first
  |trivial
  |exact⟨cs,h,rfl⟩
  |(simp only[ah] at h)
theorem zZ{J:Env}{k:IntKind}{n:Int}:bK J (.int k n) (.int k n):=⟨_,rfl,rfl⟩
theorem rZ{J:Env}{b:Bool}:bK J (.bool b) (.bool b):=⟨_,rfl,rfl⟩
theorem aft{J:Env}{s:List UInt8}:bK J (.str s) (.string ⟨s.toArray⟩):=⟨_,rfl,rfl⟩
theorem bT.nth:∀ (l:List SV) (k:Nat) {J:Env} {vs:List Value},bT l J vs->k<l.length->∃ v,vs[k]? =some v/\bK J (l.getD k .junk) v
 |[],k,_,_,_,hk=>absurd hk (z08 _)
 |x::r,0,J,vs,h,_=>by
  simp only[bT] at h;obtain⟨cs,t,h1,h2,h3⟩:=h;subst h1;exact⟨_,rfl,gJ h2⟩
 |x::r,k+1,J,vs,h,hk=>by
  simp only[bT] at h;obtain⟨cs,t,h1,h2,h3⟩:=h;subst h1;obtain⟨v,e1,e2⟩:=bT.nth r k h3 (by simpa using hk)
  exact⟨v,by simpa using e1,by simpa using e2⟩
inductive uK where|add|sub|mul|quo|rem|and|or|xor|andNot|shl|shr
inductive PE where|eql|neq|lss|leq|gtr|geq
def uK.of:BinOp->Option uK
 | .add=>some .add| .sub=>some .sub| .mul=>some .mul| .quo=>some .quo| .rem=>some .rem| .and=>some .and| .or=>some .or
 | .xor=>some .xor| .andNot=>some .andNot| .shl=>some .shl| .shr=>some .shr|_=>none
def PE.of:BinOp->Option PE
 | .eql=>some .eql| .neq=>some .neq| .lss=>some .lss| .leq=>some .leq| .gtr=>some .gtr| .geq=>some .geq|_=>none
def uU(k:IntKind)(x y:Int):Int:=k.wrap (BitVec.ofInt k.bits x&&&BitVec.ofInt k.bits y).toNat
def ad5(k:IntKind)(x y:Int):Int:=k.wrap (BitVec.ofInt k.bits x|||BitVec.ofInt k.bits y).toNat
def zK(k:IntKind)(x y:Int):Int:=k.wrap (BitVec.ofInt k.bits x^^^BitVec.ofInt k.bits y).toNat
def CZ(k:IntKind)(x y:Int):Int:=k.wrap (BitVec.ofInt k.bits x&&& ~~~ BitVec.ofInt k.bits y).toNat
def uK.ev(k:IntKind)(a b:Int)(K:Int->Prop):uK->Prop
 | .add=>K (k.wrap (a+b))
 | .sub=>K (k.wrap (a - b))
 | .mul=>K (k.wrap (a*b))
 | .quo=>b≠0/\K (k.wrap (a.tdiv b))
 | .rem=>b≠0/\K (a.tmod b)
 | .and=>K (uU k a b)
 | .or=>K (ad5 k a b)
 | .xor=>K (zK k a b)
 | .andNot=>K (CZ k a b)
 | .shl=>0<=b/\K (k.wrap (a*2^(min b.toNat k.bits)))
 | .shr=>0<=b/\K (a.fdiv (2^(min b.toNat k.bits)))
def PE.ev(a b:Int):PE->Bool
 | .eql=>decide (a=b)
 | .neq=> !decide (a=b)
 | .lss=>decide (a<b)
 | .leq=>decide (a<=b)
 | .gtr=>decide (b<a)
 | .geq=>decide (b<=a)
mutual
def nG:ES->SV->SV->Bool
 | .int _,x,y=>match x,y with
  | .int _ a, .int _ b=>decide (a=b)
  |_,_=>false
 | .bool,x,y=>match x,y with
  | .bool a, .bool b=>a==b
  |_,_=>false
 | .str,x,y=>match x,y with
  | .str a, .str b=>decide (a=b)
  |_,_=>false
 | .st l,x,y=>match x,y with
  | .agg xs, .agg ys=>EN l xs ys
  |_,_=>false
 | .arr n _ e,x,y=>match x,y with
  | .arr _ _ f, .arr _ _ g=>(z0m n).all λi=>nG e (f i) (g i)
  |_,_=>false
def EN:List ES->List SV->List SV->Bool
 |[],_,_=>true
 |e::l,xs,ys=>match xs,ys with
  |x::xs,y::ys=>nG e x y&&EN l xs ys
  |_,_=>false
end
inductive MK:Type 1 where
 |make (ek ev:ES)
 |put (ek ev:ES)
 |get (ek ev:ES) (z:SV) (ok:Bool)
 |clr (z:SV)
def MK.eff:MK->Bool
 | .make .. | .put .. | .clr _=>true
 | .get .. =>false
def gQ(e:ES)(k:SV):List (SV×SV)->Option SV
 |[]=>none
 |p::r=>if nG e k p.1 then some p.2 else gQ e k r
def zi(e:ES)(k v:SV):List (SV×SV)->List (SV×SV)
 |[]=>[(k,v)]
 |p::r=>if nG e k p.1 then(k,v)::r else p::zi e k v r
def obB:Option SV->Bool
 |some (.bool b)=>b
 |_=>false
def obI:Option SV->Int
 |some (.int _ n)=>n
 |_=>0
def vU(ev:ES)(z:SV)(o:Option SV):SV:=match ev with
 | .bool=> .bool (obB o)
 | .int k=> .int k (obI o)
 |_=>o.getD z
def D9:List (TypeId×ES)->TypeId->Option ES
 |[],_=>none
 |(u,e)::r,t=>if u=t then some e else D9 r t
inductive vT:Type 1 where
 |mv (x:aV)
 |pick (c x y:aV)
 |ar (op:uK) (x y:aV)
 |cmp (op:PE) (x y:aV)
 |beq (neg:Bool) (x y:aV)
 |seq (neg:Bool) (x y:aV)
 |cat (x y:aV)
 |nt (x:aV)
 |neg (x:aV)
 |conv (k:IntKind) (x:aV)
 |fa (k off:Nat) (x:aV)
 |lQ (k off sz:Nat) (ag:Bool) (x:aV)
 |ia (n w:Nat) (x i:aV)
 |is (w:Nat) (x i:aV)
 |ix (n w:Nat) (ag:Bool) (x i:aV)
 |sx (x i:aV)
 |ext (k:Nat) (x:aV)
 |AU (z:SV) (parts:List (List Step×Nat×Nat×aV))
 |len (x:aV)
 |lens (x:aV)
 |PS (f:FuncId) (caps:List aV)
 |nck (x:aV)
 |ER (t:TypeId) (x:aV)
 |mx (x y:aV)
 |mn (x y:aV)
 |ssl (x:aV) (lo hi:Option aV)
 |slc (w:Nat) (x:aV) (lo hi mx:Option aV)
 |aeq (neg:Bool) (e:ES) (x y:aV)
 |tas (t:TypeId) (z:SV) (x:aV)
 |ieq (neg:Bool) (tab:List (TypeId×ES)) (x y:aV)
 |GY (neg:Bool) (x:aV)
 |Nw (neg:Bool) (x:aV)
 |asl (n w:Nat) (x:aV)
def uK.kinds(k k':IntKind):uK->Prop
 | .shl| .shr=>True
 |_=>k'=k
def SV.isVal:SV->Bool
 | .cu _| .junk=>false
 |_=>true
def gK(σ:List SV):SV->List (List Step×Nat×Nat×aV)->(SV->Prop)->Prop
 |z,[],K=>K z
 |z,(p,o,n,x)::r,K=>(fM p/\gI z p 0 o/\(x.ev σ).isVal=true/\wd (x.ev σ)=n/\wd (dG z p)=n)/\gK σ (rG z p (x.ev σ)) r K
def wI:SV->Option Nat
 | .lst _ _ _ l=>some l.length
 | .lit _ _ _ l=>some l.length
 | .dO=>some 0
 | .vec _ n=>some n
 | .kC _ _ n=>some n
 |_=>none
def wV(s:Step)(off:Nat)(K:SV->Prop):SV->Prop
 | .ptr i p o=>K (.ptr i (p++[s]) (o+off))
 | .jX w d f l i p o=>K (.jX w d f l i (p++[s]) (o+off))
 | .iR i j p o=>K (.iR i j (p++[s]) (o+off))
 | .ref c p o=>K (.ref c (p++[s]) (o+off))
 |_=>False
def rng(n:Nat):List Nat:=z0m n
theorem YO(n:Nat):(rng n).length=n:=z1l
theorem afu{n i:Nat}(h:i<n):(rng n).getD i 0=i:=by simp[rng,z0f,h]
def aW(σ:List SV)(K:SV->Prop):vT->Prop
 | .mv x=>K (x.ev σ)
 | .pick c x y=>match c.ev σ with
  | .bool b=>(b=true->K (x.ev σ))/\(b=false->K (y.ev σ))
  |_=>False
 | .ar op x y=>match x.ev σ,y.ev σ with
  | .int k a, .int k' b=>op.kinds k k'/\op.ev k a b λn=>K (.int k n)
  |_,_=>False
 | .cmp op x y=>match x.ev σ,y.ev σ with
  | .int k a, .int k' b=>k'=k/\K (.bool (op.ev a b))
  |_,_=>False
 | .beq neg x y=>match x.ev σ,y.ev σ with
  | .bool a, .bool b=>K (.bool (if neg then a !=b else a==b))
  |_,_=>False
 | .seq neg x y=>match x.ev σ,y.ev σ with
  | .str a, .str b=>K (.bool (if neg then !decide (a=b) else decide (a=b)))
  |_,_=>False
 | .cat x y=>match x.ev σ,y.ev σ with
  | .str a, .str b=>a.length+b.length<=9223372036854775807/\K (.str (a++b))
  |_,_=>False
 | .nt x=>match x.ev σ with
  | .bool a=>K (.bool (!a))
  |_=>False
 | .neg x=>match x.ev σ with
  | .int k a=>K (.int k (k.wrap (0 - a)))
  |_=>False
 | .conv k x=>match x.ev σ with
  | .int _ a=>K (.int k (k.wrap a))
  |_=>False
 | .fa k off x=>wV (.lQ k) off K (x.ev σ)
 | .lQ k off sz ag x=>match x.ev σ with
  | .agg l=>(k<l.length/\Aq (l.take k)=off/\wd (l.getD k .junk)=sz/\(l.getD k .junk).isAgg=ag)/\K (l.getD k .junk)
  |_=>False
 | .ia n w x i=>match i.ev σ with
  | .int _ j=>(0<=j/\j<n)/\wV (.idx j.toNat n) (j.toNat*w) K (x.ev σ)
  |_=>False
 | .is w x i=>match i.ev σ with
  | .int _ j=>match x.ev σ with
   | .lst w' d f l=>(0<=j/\j<l.length)/\w'=w/\K (.jX w d f l j.toNat [] 0)
   | .vec v n=>(0<=j/\j<n)/\K (.iR v j.toNat [] (j.toNat*w))
   | .kC v a n=>(0<=j/\j<n)/\w=1/\K (.iR v (a+j.toNat) [] ((a+j.toNat)*w))
   |_=>False
  |_=>False
 | .ix n w ag x i=>match i.ev σ with
  | .int _ j=>match x.ev σ with
   | .arr n' w' f=>(0<=j/\j<n)/\(n'=n/\w'=w/\(f j.toNat).isAgg=ag)/\K (f j.toNat)
   |_=>False
  |_=>False
 | .sx x i=>match i.ev σ with
  | .int _ j=>match x.ev σ with
   | .str s=>(0<=j/\j<s.length)/\K (.int .u8 (s.getD j.toNat 0).toNat)
   |_=>False
  |_=>False
 | .ext k x=>match x.ev σ with
  | .cu l=>k<l.length/\K (l.getD k .junk)
  |_=>False
 | .AU z parts=>gK σ z parts λz'=>z'.isAgg=true/\K z'
 | .lens x=>match x.ev σ with
  | .str s=>K (.int .i64 s.length)
  |_=>False
 | .len x=>match wI (x.ev σ) with
  |some n=>K (.int .i64 n)
  |none=>False
 | .PS f caps=>(caps.map (·.ev σ)).all SV.isVal=true/\K (.fn f (caps.map (·.ev σ)))
 | .nck x=>match x.ev σ with
  | .ptr i p o=>K (.ptr i p o)
  | .jX w d f l i p o=>K (.jX w d f l i p o)
  | .iR i j p o=>K (.iR i j p o)
  | .ref c p o=>K (.ref c p o)
  | .fn f c=>K (.fn f c)
  |_=>False
 | .ER t x=>(x.ev σ).isVal=true/\K (.iface t (x.ev σ))
 | .aeq neg e x y=>(fA e (x.ev σ)/\fA e (y.ev σ))/\K (.bool (if neg then !nG e (x.ev σ) (y.ev σ) else nG e (x.ev σ) (y.ev σ)))
 | .tas t z x=>match x.ev σ with
  | .iface t' y=>if t'=t then K (.cu [y, .bool true]) else K (.cu [z, .bool false])
  |_=>False
 | .ieq neg tab x y=>match x.ev σ with
  | .iface t a=>match y.ev σ with
   | .iface t' b=>if t'=t then(match D9 tab t with
    |some e=>(fA e a/\fA e b)/\K (.bool (if neg then !nG e a b else nG e a b))
    |none=>False) else K (.bool neg)
   | .mX=>K (.bool neg)
   |_=>False
  | .mX=>match y.ev σ with
   | .iface _ _=>K (.bool neg)
   | .mX=>match y with
    | .c _=>K (.bool (!neg))
    |_=>False
   |_=>False
  |_=>False
 | .GY neg x=>match wI (x.ev σ) with
  |some n=>match x.ev σ with
   | .dO=>K (.bool (!neg))
   |_=>(decide (n=0)=true->K .zH)/\(decide (n=0)=false->K (.bool neg))
  |none=>False
 | .Nw neg x=>match x.ev σ with
  | .lD=>K (.bool (!neg))
  | .ptr .. =>K (.bool neg)
  | .jX .. =>K (.bool neg)
  | .iR .. =>K (.bool neg)
  | .ref .. =>K (.bool neg)
  |_=>False
 | .mx x y=>match x.ev σ,y.ev σ with
  | .int k a, .int k' b=>k'=k/\K (.int k (if a<b then b else a))
  |_,_=>False
 | .mn x y=>match x.ev σ,y.ev σ with
  | .int k a, .int k' b=>k'=k/\K (.int k (if b<a then b else a))
  |_,_=>False
 | .ssl x lo hi=>match x.ev σ with
  | .str s=>bound 0 lo λl=>bound s.length hi λh=>(l<=h/\h<=s.length)/\K (.str ((s.take h).drop l))
  |_=>False
 | .slc w x lo hi mx=>match mx,x.ev σ with
  |none, .lst w' d f l=>w'=w/\bound 0 lo λa=>bound l.length hi λb=>(a<=b/\b<=l.length)/\K (.lst w d f ((l.take b).drop a))
  |some c, .lst w' d f l=>(w'=w/\hi.isSome=true)/\bound 0 lo λa=>bound l.length hi λb=>bound 0 (some c) λm=>(a<=b/\b=m/\m<=l.length)/\K (.lit w d f ((l.take b).drop a))
  |none, .vec i n=>bound 0 lo λa=>bound n hi λb=>((a=0\/a<n/\b=n/\w=1)/\b<=n)/\K (if a=0 then .kZ i b else .kC i a (n - a))
  |_,_=>False
 | .asl n w x=>match x.ev σ with
  | .ref c p o=>match dG c p with
   | .arr n' w' f=>(n'=n/\w'=w/\n<=1000000/\gI c p 0 o)/\K (.lst w (0:Nat) f (rng n))
   |_=>False
  | .jX _ d f l i p o=>match f (l.getD i d) with
   | .arr n' w' g=>(n'=n/\w'=w/\n<=1000000/\p=[]/\o=0)/\K (.lst w (0:Nat) g (rng n))
   |_=>False
  |_=>False
where bound (d:Nat) (x:Option aV) (K:Nat->Prop):Prop:=match x with
 |none=>K d
 |some x=>match x.ev σ with
  | .int _ j=>0<=j/\K j.toNat
  |_=>False
end Go.Sx
namespace Go.Sx
open Go
variable {P:Program}
def aor:TypeDesc->Bool
 | .struct _| .array _ _=>true
 |_=>false
def rP(P:Program)(t:TypeId):Option (Nat×Bool):=
 match P.info? t,P.underlying t with
 |some i,some d=>some (i.size,aor d)
 |_,_=>none
theorem Dn{t:TypeId}{n:Nat}{ag:Bool}(h:rP P t=some (n,ag))(w:World):(isAgg t).run P w= .ok ag w:=by
 unfold rP at h;split at h
 ·rename_i i d h1 h2;simp only[z00,z18] at h;obtain⟨rfl,rfl⟩:=h;simp only[isAgg,z01,run_underlying h2,Result.andThen_ok];cases d<;>rfl
 ·cases h
theorem run_sizeOf{t:TypeId}{n:Nat}{ag:Bool}(h:rP P t=some (n,ag))(w:World):(sizeOf t).run P w= .ok n w:=by
 unfold rP at h;split at h
 ·rename_i i d h1 h2;simp only[z00,z18] at h;obtain⟨rfl,rfl⟩:=h;simp[sizeOf,typeInfo,h1]
 ·cases h
def akn(P:Program)(o:Oper)(J:Env)(a:Act)(sv:SV):Prop:=
 ∃ v,(∀ w,(execOp a.eval o).run P w= .ok (.value v) w/\(execOp a.eval o).events P w #[]= #[])/\bK J sv v
def dK(P:Program)(o:Oper)(σ:List SV)(sv:SV):Prop:= ∀ J a,aH J σ a->akn P o J a sv
section vals
variable {J:Env}
theorem mM{t:TypeId}{n:Nat}{ag:Bool}(h:rP P t=some (n,ag))(w:World)(cs:List Value)(off:Nat)(hl:off+n<=cs.length)(h1:ag=false->n=1):
  (part t cs.toArray off).run P w= .ok (boxed ag (sub cs off n)) w:=by
 simp only[part,z01,Dn h,Result.andThen_ok];cases ag with
 |true=>
  simp only[if_true,z01,run_sizeOf h,Result.andThen_ok,z07,boxed]
  congr 2
  simp[sub,z1z]
 |false=>
  have hn:=h1 rfl;subst hn;have hlt:off<cs.length:=by omega
  simp only[z0a,if_false];have:cs.toArray[off]? =some cs[off]:=by simp[hlt]
  rw[this];simp only[z07,boxed,z0a,if_false]
  congr 1
  simp[sub,z2c,z2z,z3a,hlt]
end vals
theorem yK{c:SV}(h:c.isAgg=false):wd c=1:=by cases c<;>first|rfl|cases h
theorem S9{J:Env}{c:SV}{cs:List Value}(h:ah c J cs):bK J c (boxed c.isAgg cs):=gJ h
mutual
def cellsOf:SV->Option (List Value)
 | .int k n=>some [.int k n]
 | .bool b=>some [.bool b]
 | .str s=>some [.string ⟨s.toArray⟩]
 | .dO=>some [.slice none 0 0]
 | .mX=>some [.nilIface]
 | .y5=>some [.nilFunc]
 | .lD=>some [.pointer none]
 | .Ba=>some [.map none]
 | .raw v=>match v with
  | .chan none=>some [.chan none]
  |_=>none
 | .arr n w f=>match (z0m n).mapM λi=>cellsOf (f i) with
  |some css=>if css.all (·.length==w) then some css.flatten else none
  |none=>none
 | .agg l=>yu l
 |_=>none
def yu:List SV->Option (List Value)
 |[]=>some []
 |x::r=>match cellsOf x,yu r with
  |some a,some b=>some (a++b)
  |_,_=>none
end
theorem Ey:∀ (css:List (List Value)) (w i:Nat),(∀ c∈css,c.length=w)->∀ (hi:i<css.length),sub css.flatten (i*w) w=css[i]
 |[],_,_,_,hi=>absurd hi (z08 _)
 |c::r,w,0,h,_=>by
  have hc:=h c (by simp)
  simp[sub,<- hc]
 |c::r,w,i+1,h,hi=>by
  have hc:=h c (by simp)
  have ih:=Ey r w i (λc hc=>h c (by simp[hc])) (by simpa using hi)
  simp only[List.flatten_cons,List.getElem_cons_succ,<- ih];simp only[sub,z0y,Nat.one_mul,z1r,hc];rw[z0c (by omega)]
  simp
theorem Ez:∀ (css:List (List Value)) (w:Nat),(∀ c∈css,c.length=w)->css.flatten.length=css.length*w
 |[],_,_=>by simp
 |c::r,w,h=>by
  have hc:=h c (by simp)
  have ih:=Ez r w (λc hc=>h c (by simp[hc]))
  simp[hc,ih,z0y,Nat.add_comm]
theorem Tc{α β:Type _}{f:α->Option β}:∀ (l:List α) (r:List β),l.mapM f=some r->r.length=l.length/\∀ i (h:i<l.length) (h':i<r.length),f l[i]=some r[i]
 |[],r,h=>by simp at h;subst h;simp
 |x::l,r,h=>by
  simp only[z1f,bind,z06] at h;cases hx:f x with
  |none=>rw[hx] at h;cases h
  |some y=>
   rw[hx] at h;simp only[Option.bind] at h;cases hl:l.mapM f with
   |none=>rw[hl] at h;cases h
   |some ys=>
    rw[hl] at h;simp only[z00] at h;subst h;obtain⟨i1,i2⟩:=Tc l ys hl;refine⟨by simp[i1],λi h h'=> ?_⟩
    cases i with
    |zero=>simpa using hx
    |succ i=>simpa using i2 i (by simpa using h) (by simpa using h')
mutual
theorem Ag:∀ (c:SV) (cs:List Value) (J:Env),cellsOf c=some cs->ah c J cs
 | .int ..,_,_,h=>by simp only[cellsOf,z00] at h;subst h;rfl
 | .bool ..,_,_,h=>by simp only[cellsOf,z00] at h;subst h;rfl
 | .str ..,_,_,h=>by simp only[cellsOf,z00] at h;subst h;rfl
 | .dO,_,_,h=>by simp only[cellsOf,z00] at h;subst h;rfl
 | .mX,_,_,h=>by simp only[cellsOf,z00] at h;subst h;rfl
 | .y5,_,_,h=>by simp only[cellsOf,z00] at h;subst h;rfl
 | .lD,_,_,h=>by simp only[cellsOf,z00] at h;subst h;rfl
 | .Ba,_,_,h=>by simp only[cellsOf,z00] at h;subst h;rfl
 | .arr n w f,cs,J,h=>by
  simp only[cellsOf] at h;split at h
  ·rename_i css hm;split at h
   ·rename_i hw;simp only[z00] at h;subst h;have hw':∀ c∈css,c.length=w:=by simpa using hw
    obtain⟨h1,h2⟩:=Tc _ _ hm;simp only[z1l] at h1;simp only[ah];refine⟨by rw[Ez css w hw',h1],λi hi=> ?_⟩
    rw[Ey css w i hw' (by omega)]
    have:=h2 i (by simpa using hi) (by omega)
    rw[List.getElem_range] at this;exact Ag (f i) _ J this
   ·cases h
  ·cases h
 | .agg l,cs,J,h=>by simp only[cellsOf] at h;simp only[ah];exact EC l cs J h
 | .cu ..,_,_,h=>by simp only[cellsOf] at h;cases h
 | .zH,_,_,h=>by simp only[cellsOf] at h;cases h
 | .lst ..,_,_,h=>by simp only[cellsOf] at h;cases h
 | .lit ..,_,_,h=>by simp only[cellsOf] at h;cases h
 | .jX ..,_,_,h=>by simp only[cellsOf] at h;cases h
 | .ref ..,_,_,h=>by simp only[cellsOf] at h;cases h
 | .ptr ..,_,_,h=>by simp only[cellsOf] at h;cases h
 | .vec ..,_,_,h=>by simp only[cellsOf] at h;cases h
 | .iR ..,_,_,h=>by simp only[cellsOf] at h;cases h
 | .kZ ..,_,_,h=>by simp only[cellsOf] at h;cases h
 | .kC ..,_,_,h=>by simp only[cellsOf] at h;cases h
 | .map ..,_,_,h=>by simp only[cellsOf] at h;cases h
 | .fn ..,_,_,h=>by simp only[cellsOf] at h;cases h
 | .iface ..,_,_,h=>by simp only[cellsOf] at h;cases h
 | .raw v,_,_,h=>by
  simp only[cellsOf] at h;split at h<;>cases h;exact⟨rfl,rfl⟩
 | .junk,_,_,h=>by simp only[cellsOf] at h;cases h
theorem EC:∀ (l:List SV) (cs:List Value) (J:Env),yu l=some cs->bV l J cs
 |[],cs,_,h=>by simp only[yu,z00] at h;subst h;rfl
 |x::r,cs,J,h=>by
  simp only[yu] at h;split at h
  ·rename_i a b h1 h2;simp only[z00] at h;subst h;exact⟨a,b,rfl,Ag x a J h1,EC r b J h2⟩
  ·cases h
end
def veq:Value->Value->Bool
 | .bool a, .bool b=>a==b
 | .int k a, .int j b=>k==j&&a==b
 | .string a, .string b=>a.data.toList==b.data.toList
 | .slice none 0 0, .slice none 0 0=>true
 | .nilIface, .nilIface=>true
 | .nilFunc, .nilFunc=>true
 | .pointer none, .pointer none=>true
 | .map none, .map none=>true
 | .chan none, .chan none=>true
 |_,_=>false
theorem aos{a b:Value}(h:veq a b=true):a=b:=by
 unfold veq at h;split at h<;>first
  |rfl
  |(simp at h;subst h;rfl)
  |(simp at h;obtain⟨rfl,rfl⟩:=h;rfl)
  |(cases h;done)
  |(rename_i x y
    simp at h;cases x;cases y;simp at h;subst h;rfl)
def ako:List Value->List Value->Bool
 |[],[]=>true
 |a::x,b::y=>veq a b&&ako x y
 |_,_=>false
theorem Y1:∀ {x y:List Value},ako x y=true->x=y
 |[],[],_=>rfl
 |a::x,b::y,h=>by
  simp only[ako,z0i] at h;rw[aos h.1,Y1 h.2]
 |[],_::_,h=>by cases h
 |_::_,[],h=>by cases h
def Xy(P:Program):Nat->TypeId->Option SV
 |0,_=>none
 |fuel+1,t=>match P.underlying t with
  |some .bool=>some (.bool false)
  |some (.int k)=>some (.int k 0)
  |some .string=>some (.str [])
  |some (.pointer _)=>some .lD
  |some (.slice _)=>some .dO
  |some (.interface _)=>some .mX
  |some (.func ..)=>some .y5
  |some (.map ..)=>some .Ba
  |some (.chan ..)=>some (.raw (.chan none))
  |some (.struct fs)=>(fs.toList.mapM λf=>Xy P fuel f.type).map .agg
  |some (.array n e)=>(Xy P fuel e).map λz=> .arr n (wd z) λ_=>z
  |_=>none
def Oz(P:Program)(t:TypeId):Option SV:=
 match Xy P 8 t,P.info? t with
 |some z,some i=>match i.zero,cellsOf z with
  |some v,some cs=>if ako cs v.cells.toList then some z else none
  |_,_=>none
 |_,_=>none
theorem xW{t:TypeId}{z:SV}(h:Oz P t=some z):∃ i v,P.info? t=some i/\i.zero=some v/\∀ J,ah z J v.cells.toList:=by
 unfold Oz at h;split at h<;>try (cases h;done)
 rename_i z' i h1 h2;split at h<;>try (cases h;done)
 rename_i v cs h3 h4;split at h<;>try (cases h;done)
 rename_i hv;simp only[z00] at h;subst h;refine⟨i,v,h2,h3,λJ=> ?_⟩;rw[<- Y1 hv];exact Ag _ _ _ h4
def pJ(f:Nat->Option (List Step×Nat×Nat)):List (Nat×Operand)->Option (List (List Step×Nat×Nat×aV))
 |[]=>some []
 |(k,x)::r=>match f k,aP x,pJ f r with
  |some (p,o,n),some y,some ys=>some ((p,o,n,y)::ys)
  |_,_,_=>none
def af8(P:Program)(fs:Array Field)(k:Nat):Option (List Step×Nat×Nat):=
 match fs[k]? with
 |some f=>match P.info? f.type with
  |some i=>some ([.lQ k],f.offset,i.size)
  |none=>none
 |none=>none
def Y2(P:Program)(t:TypeId)(parts:Array (Nat×Operand)):Option vT:=
 match Oz P t,P.underlying t with
 |some z,some (.struct fs)=>if fs.toList.all λf=>(P.info? f.type).isSome then(pJ (af8 P fs) parts.toList).map (.AU z) else none
 |some z,some (.array n e)=>match P.info? e with
  |some i=>(pJ (λk=>some ([.idx k n],k*i.size,i.size)) parts.toList).map (.AU z)
  |none=>none
 |_,_=>none
def kM:Option Operand->Option (Option aV)
 |none=>some none
 |some x=>(aP x).map some
def alK(P:Program)(c:Call):Option vT:=
 match c.callee,c.args.toList,c.argTypes.toList with
 | .builtin .len,[x],[t]=>do
  let x <- aP x
  match P.underlying t with
  |some .string=>pure (.lens x)
  |some (.slice _)=>pure (.len x)
  |_=>none
 | .builtin .max,[x,y],[t,_]=>do
  match P.underlying t with
  |some (.int _)=>pure (.mx (<- aP x) (<- aP y))
  |_=>none
 | .builtin .min,[x,y],[t,_]=>do
  match P.underlying t with
  |some (.int _)=>pure (.mn (<- aP x) (<- aP y))
  |_=>none
 |_,_,_=>none
def abp(P:Program):Nat->TypeId->Option ES
 |0,_=>none
 |fuel+1,t=>match P.underlying t with
  |some .bool=>some .bool
  |some (.int k)=>some (.int k)
  |some .string=>some .str
  |some (.struct fs)=>(fs.toList.mapM λf=>abp P fuel f.type).map .st
  |some (.array n e)=>match abp P fuel e,P.info? e with
   |some z,some i=>some (.arr n i.size z)
   |_,_=>none
  |_=>none
mutual
def wE:ES->Nat
 | .st l=>wEL l
 | .arr n w _=>n*w
 |_=>1
def wEL:List ES->Nat
 |[]=>0
 |e::l=>wE e+wEL l
end
def gG:ES->Bool
 | .st _=>true
 | .arr .. =>true
 |_=>false
mutual
def dE:ES->Nat
 | .st l=>dEL l+1
 | .arr _ _ e=>dE e+1
 |_=>1
def dEL:List ES->Nat
 |[]=>0
 |e::l=>max (dE e) (dEL l)
end
mutual
def FD(P:Program):TypeId->ES->Bool
 |t, .int k=>match P.underlying t with
  |some (.int k')=>decide (k'=k)
  |_=>false
 |t, .bool=>match P.underlying t with
  |some .bool=>true
  |_=>false
 |t, .str=>match P.underlying t with
  |some .string=>true
  |_=>false
 |t, .st l=>match P.underlying t with
  |some (.struct fs)=>J5 P fs.toList 0 l&& !P.stoodInHeld t
  |_=>false
 |t, .arr n w e=>match P.underlying t with
  |some (.array n' t')=>decide (n'=n)&&decide (P.cellsOf t'=w)&&decide (rP P t'=some (w,gG e))&&decide (wE e=w)&&FD P t' e
  |_=>false
def J5(P:Program):List Field->Nat->List ES->Bool
 |[],_,[]=>true
 |f::fs,off,e::l=>decide (f.name≠ "_")&&decide (f.offset=off)&&decide (rP P f.type=some (wE e,gG e))&&FD P f.type e&&J5 P fs (off+wE e) l
 |_,_,_=>false
end
def OO:Operand->Bool
 | .const (.slice none 0 0)=>true
 |_=>false
def OQ:Operand->Bool
 | .const (.pointer none)=>true
 |_=>false
def OT(P:Program)(neg:Bool)(t:TypeId)(x y:aV):Option vT:=
 match abp P 8 t with
 |some e=>if FD P t e&&gG e&&decide (dE e<=100)&& !P.eqGuardType P.depth t then some (.aeq neg e x y) else none
 |none=>none
def af9(P:Program)(t:TypeId):Option (TypeId×ES):=match P.info? t with
 |some i=>if i.methods.size=0|| !i.comparable then none else match abp P 8 t with
  |some e=>if FD P t e&&decide (dE e<=100) then some (t,e) else none
  |none=>none
 |none=>none
def Jz(P:Program):List (TypeId×ES):=(z0m P.types.size).filterMap (af9 P)
theorem aga{t u:TypeId}{e:ES}(h:af9 P u=some (t,e)):FD P t e=true/\dE e<=100/\∃ i,P.info? t=some i/\i.comparable=true:=by
 unfold af9 at h;split at h<;>try (cases h;done)
 rename_i i hi;split at h<;>try (cases h;done)
 rename_i hc;split at h<;>try (cases h;done)
 rename_i e' he;split at h<;>try (cases h;done)
 rename_i hb;simp only[z00,z18] at h;obtain⟨rfl,rfl⟩:=h;simp only[z0i,decide_eq_true_eq] at hb;simp only[Bool.or_eq_true,not_or,Bool.not_eq_true,Bool.not_eq_false'] at hc;exact⟨hb.1,hb.2,i,hi,hc.2⟩
theorem LD{t:TypeId}{e:ES}:∀ {l:List (TypeId×ES)},D9 l t=some e->(t,e)∈l
 |[],h=>by cases h
 |(u,x)::r,h=>by
  simp only[D9] at h;split at h
  ·rename_i hu;cases h;subst hu;exact List.mem_cons_self
  ·exact List.mem_cons_of_mem _ (LD h)
theorem abA{t:TypeId}{e:ES}(h:D9 (Jz P) t=some e):FD P t e=true/\dE e<=100/\∃ i,P.info? t=some i/\i.comparable=true:=by obtain⟨u,_,hu⟩:=List.mem_filterMap.1 (LD h);exact aga hu
def VQ(P:Program)(t:TypeId):Option SV:=match Oz P t,P.info? t with
 |some z,some i=>match i.zero with
  |some (.agg _)=>if z.isAgg then some z else none
  |_=>none
 |_,_=>none
theorem Yn{t:TypeId}{z:SV}(h:VQ P t=some z):z.isAgg=true/\∃ i cs,P.info? t=some i/\i.zero=some (.agg cs)/\∀ J,ah z J cs.toList:=by
 unfold VQ at h;split at h<;>try (cases h;done)
 rename_i z' i h1 h2;split at h<;>try (cases h;done)
 rename_i cs h3;split at h<;>try (cases h;done)
 rename_i hz;simp only[z00] at h;subst h;obtain⟨i',v,e1,e2,e3⟩:=xW h1;rw[h2] at e1;cases e1;rw[h3] at e2;cases e2;exact⟨hz,i,cs,h2,h3,e3⟩
def eF(P:Program):Op->Option vT
 | .move x| .assign x=>(aP x).map .mv
 | .pick c x y=>do pure (.pick (<- aP c) (<- aP x) (<- aP y))
 | .binOp op t xo yo _=>do
  let x <- aP xo
  let y <- aP yo
  match P.underlying t with
  |some (.int _)=>
   match uK.of op with
   |some o=>pure (.ar o x y)
   |none=>match PE.of op with
    |some o=>pure (.cmp o x y)
    |none=>none
  |some .bool=>match op with
   | .eql=>pure (.beq false x y)
   | .neq=>pure (.beq true x y)
   |_=>none
  |some .string=>match op with
   | .add=>pure (.cat x y)
   | .eql=>pure (.seq false x y)
   | .neq=>pure (.seq true x y)
   |_=>none
  |some (.slice _)=>match op with
   | .eql=>if OO yo then pure (.GY false x) else none
   | .neq=>if OO yo then pure (.GY true x) else none
   |_=>none
  |some (.pointer _)=>match op with
   | .eql=>if OQ yo then pure (.Nw false x) else none
   | .neq=>if OQ yo then pure (.Nw true x) else none
   |_=>none
  |some (.struct _)|some (.array _ _)=>match op with
   | .eql=>OT P false t x y
   | .neq=>OT P true t x y
   |_=>none
  |some (.interface _)=>match op with
   | .eql=>pure (.ieq false (Jz P) x y)
   | .neq=>pure (.ieq true (Jz P) x y)
   |_=>none
  |_=>none
 | .unOp .not _ x=>(aP x).map .nt
 | .unOp .neg _ x=>(aP x).map .neg
 | .convert s d x=>do
  let x <- aP x
  match P.underlying s,P.underlying d with
  |some (.int _),some (.int k)=>pure (.conv k x)
  |_,_=>none
 | .fieldAddr s x k=>do
  let x <- aP x
  match P.underlying s with
  |some (.struct fs)=>match fs[k]? with
   |some f=>match rP P f.type with
    |some (n,_)=>if n=0 then none else pure (.fa k f.offset x)
    |none=>none
   |none=>none
  |_=>none
 | .field s x k=>do
  let x <- aP x
  match P.underlying s with
  |some (.struct fs)=>match fs[k]? with
   |some f=>match rP P f.type with
    |some (n,ag)=>if ag=false/\n≠1 then none else pure (.lQ k f.offset n ag x)
    |none=>none
   |none=>none
  |_=>none
 | .indexAddr t x i=>do
  let x <- aP x
  let i <- aP i
  match P.underlying t with
  |some (.array n e)=>match rP P e with
   |some (sz,_)=>pure (.ia n sz x i)
   |none=>none
  |some (.slice e)=>match rP P e with
   |some (sz,_)=>pure (.is sz x i)
   |none=>none
  |_=>none
 | .index t x i=>do
  let x <- aP x
  let i <- aP i
  match P.underlying t with
  |some (.array n e)=>match rP P e with
   |some (sz,ag)=>if ag=false/\sz≠1 then none else pure (.ix n sz ag x i)
   |none=>none
  |some .string=>pure (.sx x i)
  |_=>none
 | .extract x k=>(aP x).map (.ext k)
 | .makeFunc f first caps=>match f,first.toList with
  | .func f,[]=>(caps.toList.mapM aP).map (.PS f)
  |_,_=>none
 | .nilCheck x=>(aP x).map .nck
 | .makeInterface t x=>do
  let x <- aP x
  match P.underlying t with
  |some (.interface _)|none=>none
  |_=>pure (.ER t x)
 | .typeAssert x _ t ok=>do
  let x <- aP x
  match P.underlying t with
  |some (.interface _)|none=>none
  |_=>if ok then match VQ P t with
   |some z=>pure (.tas t z x)
   |none=>none else none
 | .call c=>alK P c
 | .build t parts=>Y2 P t parts
 | .slice t x lo hi mx=>do
  let x <- aP x
  let lo <- kM lo
  let hi <- kM hi
  let mx <- kM mx
  match P.underlying t with
  |some .string=>match mx with
   |none=>pure (.ssl x lo hi)
   |some _=>none
  |some (.slice e)=>match rP P e with
   |some (n,_)=>pure (.slc n x lo hi mx)
   |none=>none
  |some (.array n e)=>match lo,hi,mx with
   |none,none,none=>match rP P e with
    |some (w,_)=>pure (.asl n w x)
    |none=>none
   |_,_,_=>none
  |_=>none
 |_=>none
theorem bind_some{α β:Type _}{x:Option α}{f:α->Option β}{b:β}(h:x.bind f=some b):∃ a,x=some a/\f a=some b:=by
 cases x with
 |none=>cases h
 |some a=>exact⟨a,rfl,h⟩
theorem uK.Xz{k k':IntKind}{a b:Int}{op:BinOp}{ao:uK}(h:uK.of op=some ao)(hk:ao.kinds k k'){K:Int->Prop}(hev:ao.ev k a b K):
  ∃ n,K n/\∀ w,(binOp op 0 (.int k a) (.int k' b)).run P w= .ok (.int k n) w:=by
 cases op<;>simp only[uK.of] at h<;>cases h<;>simp only[uK.kinds] at hk<;>simp only[uK.ev] at hev
 all_goals first
  |(subst hk;exact⟨_,hev,λw=>by simp[binOp,Op.intArith,Op.intBits,uU,ad5,zK,CZ]⟩)
  |(subst hk;exact⟨_,hev.2,λw=>by simp[binOp,Op.intDiv,hev.1]⟩)
  |(exact⟨_,hev.2,λw=>by simp[binOp,Op.shift,Int.not_lt.2 hev.1]⟩)
theorem ED{op:BinOp}{t t':TypeId}{k k':IntKind}{a b:Int}:binOp op t (.int k a) (.int k' b)=binOp op t' (.int k a) (.int k' b):=by cases op<;>rfl
theorem PE.Xz{k:IntKind}{a b:Int}{op:BinOp}{co:PE}(h:PE.of op=some co)(w:World):
  (binOp op 0 (.int k a) (.int k b)).run P w= .ok (.bool (co.ev a b)) w:=by
 cases op<;>simp only[PE.of] at h<;>cases h<;>simp[binOp,Op.intCmp,PE.ev,GT.gt,GE.ge]<;>first
  |rfl
  |(by_cases hab:a=b<;>simp[hab])
end Go.Sx
namespace Go.Sx
open Go
variable {P:Program}
theorem nX:∀ {e:ES} {x:SV},fA e x->x.isAgg=gG e:=by
 intro e x h;cases e<;>cases x<;>simp only[fA] at h<;>first
  |exact h.elim
  |rfl
mutual
theorem Jl:∀ {e:ES} {x:SV},fA e x->wd x=wE e
 | .int _,x,h=>by cases x<;>simp only[fA] at h<;>rfl
 | .bool,x,h=>by cases x<;>simp only[fA] at h<;>rfl
 | .str,x,h=>by cases x<;>simp only[fA] at h<;>rfl
 | .st l,x,h=>by
  cases x<;>simp only[fA] at h;simp only[wd,wE];exact Y4 h
 | .arr n w e,x,h=>by cases x<;>simp only[fA] at h;obtain⟨rfl,rfl,_⟩:=h;rfl
theorem Y4:∀ {l:List ES} {xs:List SV},jw l xs->Aq xs=wEL l
 |[],xs,h=>by
  cases xs with
  |nil=>rfl
  |cons=>simp only[jw] at h
 |e::l,xs,h=>by
  cases xs with
  |nil=>simp only[jw] at h
  |cons x xs=>
   simp only[jw] at h;simp only[Aq,wEL];rw[Jl h.1,Y4 h.2]
end
theorem JA{d:Nat}{t':TypeId}{e:ES}{w':Nat}(ht:rP P t'=some (w',gG e)){f g:Nat->SV}{n:Nat}{cs cs':List Value}(h1:cs.length=n*w')(h2:cs'.length=n*w')(w:World)
  (h0:gG e=false->w'=1) (ih:∀ i,i<n->(Op.equalIn d t' (boxed (gG e) (sub cs (i*w') w')) (boxed (gG e) (sub cs' (i*w') w'))).run P w= .ok (nG e (f i) (g i)) w):
  ∀ is:List Nat,(∀ i∈is,i<n)->(Op.eqItems d t' w' cs.toArray cs'.toArray is).run P w= .ok (is.all λi=>nG e (f i) (g i)) w
 |[],_=>by simp[Op.eqItems]
 |i::is,hi=>by
  have hl:=hi i (by simp)
  have hle:=bF (w:=w') hl;have r:=JA ht h1 h2 w h0 ih is (λj hj=>hi j (by simp[hj]))
  simp only[Op.eqItems,z01,mM ht w cs (i*w') (by omega) h0,mM ht w cs' (i*w') (by omega) h0,Result.andThen_ok,ih i hl,z3e]
  cases nG e (f i) (g i)
  ·simp
  ·simpa using r
theorem DN:∀ {e:ES},gG e=false->wE e=1:=by intro e h;cases e<;>first|rfl|(simp[gG] at h)
mutual
theorem rC:∀ (e:ES) {t:TypeId} {d:Nat} {x y:SV} {J J':Env} {cs cs':List Value} (w:World),FD P t e=true->dE e<=d->fA e x->fA e y->ah x J cs->ah y J' cs'->
  (Op.equalIn d t (boxed (gG e) cs) (boxed (gG e) cs')).run P w= .ok (nG e x y) w
 | .int k,t,d,x,y,J,J',cs,cs',w,hb,hd,hx,hy,sx,sy=>by
  obtain⟨a,rfl⟩:∃ a,x= .int k a:=by cases x<;>simp_all [fA]
  obtain⟨b,rfl⟩:∃ b,y= .int k b:=by cases y<;>simp_all [fA]
  simp only[ah] at sx sy;subst sx;subst sy;simp only[FD] at hb;split at hb<;>try (cases hb;done)
  rename_i hu;obtain⟨d,rfl⟩:∃ d',d=d'+1:=⟨d - 1,by simp only[dE] at hd;omega⟩
  by_cases hab:a=b<;>simp[boxed,gG,Op.equalIn,run_underlying hu,nG,hab]
 | .bool,t,d,x,y,J,J',cs,cs',w,hb,hd,hx,hy,sx,sy=>by
  obtain⟨a,rfl⟩:∃ a,x= .bool a:=by cases x<;>simp_all [fA]
  obtain⟨b,rfl⟩:∃ b,y= .bool b:=by cases y<;>simp_all [fA]
  simp only[ah] at sx sy;subst sx;subst sy;simp only[FD] at hb;split at hb<;>try (cases hb;done)
  rename_i hu;obtain⟨d,rfl⟩:∃ d',d=d'+1:=⟨d - 1,by simp only[dE] at hd;omega⟩
  simp[boxed,gG,Op.equalIn,run_underlying hu,nG]
 | .str,t,d,x,y,J,J',cs,cs',w,hb,hd,hx,hy,sx,sy=>by
  obtain⟨a,rfl⟩:∃ a,x= .str a:=by cases x<;>simp_all [fA]
  obtain⟨b,rfl⟩:∃ b,y= .str b:=by cases y<;>simp_all [fA]
  simp only[ah] at sx sy;subst sx;subst sy;simp only[FD] at hb;split at hb<;>try (cases hb;done)
  rename_i hu;obtain⟨d,rfl⟩:∃ d',d=d'+1:=⟨d - 1,by simp only[dE] at hd;omega⟩
  have hq:((⟨a.toArray⟩:ByteArray)==⟨b.toArray⟩)=decide (a=b):=by
   have k:∀ x y:ByteArray,(x==y)=(x.data==y.data):=λx y=>by cases x;cases y;rfl
   rw[k];by_cases hab:a=b
   ·subst hab;simp
   ·simp[hab]
  simp[boxed,gG,Op.equalIn,run_underlying hu,nG,hq]
 | .st l,t,d,x,y,J,J',cs,cs',w,hb,hd,hx,hy,sx,sy=>by
  cases x<;>simp only[fA] at hx;cases y<;>simp only[fA] at hy;simp only[ah] at sx sy;simp only[FD] at hb;split at hb<;>try (cases hb;done)
  rename_i fs hu;simp only[z0i,z2v] at hb;simp only[dE] at hd;obtain⟨d,rfl⟩:∃ d',d=d'+1:=⟨d - 1,by omega⟩
  have hfs:P.fieldsOf t=fs:=by simp[Program.fieldsOf,hu]
  simp only[boxed,gG,if_true,nG];rw[run_equalIn_struct w d t cs.toArray cs'.toArray (by rw[hfs];exact hu) hb.2,hfs]
  have:=EG l w (d:=d) (fs:=fs.toList) (off:=0) (pre:=[]) (pre':=[]) hb.1 (by omega) hx hy sx sy rfl rfl
  simpa using this
 | .arr n w' e,t,d,x,y,J,J',cs,cs',w,hb,hd,hx,hy,sx,sy=>by
  cases x<;>simp only[fA] at hx;cases y<;>simp only[fA] at hy;obtain⟨rfl,rfl,hx⟩:=hx;obtain⟨rfl,rfl,hy⟩:=hy;simp only[ah] at sx sy;simp only[FD] at hb;split at hb<;>try (cases hb;done)
  rename_i n' t' hu;simp only[z0i,decide_eq_true_eq] at hb;obtain⟨⟨⟨⟨rfl,h2⟩,h3⟩,h4⟩,h5⟩:=hb;simp only[dE] at hd;obtain⟨d,rfl⟩:∃ d',d=d'+1:=⟨d - 1,by omega⟩
  simp only[boxed,gG,if_true,nG];have hi:∃ i,P.info? t'=some i:=by unfold rP at h3;split at h3<;>first|exact⟨_,by assumption⟩|cases h3
  obtain⟨i,hi⟩:=hi;rw[run_equalIn_array w d cs.toArray cs'.toArray hu hi,h2];exact JA h3 sx.1 sy.1 w (λh=>by rw[<- h4];exact DN h) (λj hj=>rC e w h5 (by omega) (hx j hj) (hy j hj) (sx.2 j hj) (sy.2 j hj)) _ (λj hj=>by simpa using hj)
theorem EG:∀ (l:List ES) {xs ys:List SV} {J J':Env} {cs cs' pre pre':List Value} (w:World) {d:Nat} {fs:List Field} {off:Nat},J5 P fs off l=true->dEL l<=d->jw l xs->jw l ys->bV xs J cs->bV ys J' cs'->pre.length=off->pre'.length=off->
  (Op.eqFields d (pre++cs).toArray (pre'++cs').toArray fs).run P w= .ok (EN l xs ys) w
 |[],xs,ys,J,J',cs,cs',pre,pre',w,d,fs,off,hb,hd,hx,hy,sx,sy,hp,hp'=>by
  cases fs with
  |nil=>simp[Op.eqFields,EN]
  |cons=>simp[J5] at hb
 |e::l,xs,ys,J,J',cs,cs',pre,pre',w,d,fs,off,hb,hd,hx,hy,sx,sy,hp,hp'=>by
  cases fs with
  |nil=>simp[J5] at hb
  |cons f fs=>
   cases xs with
   |nil=>simp only[jw] at hx
   |cons x xs=>
    cases ys with
    |nil=>simp only[jw] at hy
    |cons y ys=>
     simp only[jw] at hx hy;simp only[bV] at sx sy;obtain⟨a,b,rfl,s1,s2⟩:=sx;obtain⟨a',b',rfl,s1',s2'⟩:=sy;simp only[J5,z0i,decide_eq_true_eq] at hb;obtain⟨⟨⟨⟨b1,b2⟩,b3⟩,b4⟩,b5⟩:=hb;simp only[dEL] at hd;have l1:a.length=wE e:=by rw[ah.length _ s1,Jl hx.1]
     have l1':a'.length=wE e:=by rw[ah.length _ s1',Jl hy.1]
     have q:sub (pre++(a++b)) off (wE e)=a:=by simp only[sub];rw[z1t (by omega),z0c (by omega),z0z,z1s (by omega),z0s (by omega)]
     have q':sub (pre'++(a'++b')) off (wE e)=a':=by simp only[sub];rw[z1t (by omega),z0c (by omega),z0z,z1s (by omega),z0s (by omega)]
     have r:=EG l (pre:=pre++a) (pre':=pre'++a') w (d:=d) (fs:=fs) b5 (by omega) hx.2 hy.2 s2 s2' (by simp;omega) (by simp;omega)
     have k:=rC e w b4 (d:=d) (by omega) hx.1 hy.1 s1 s1'
     have p1:=mM b3 w (pre++(a++b)) off (by simp;omega) (λh=>DN h)
     have p2:=mM b3 w (pre'++(a'++b')) off (by simp;omega) (λh=>DN h)
     rw[q] at p1;rw[q'] at p2;rw[z16] at r;rw[z16] at r;simp only[Op.eqFields,b1,ne_eq,not_false_eq_true,if_true,z01,b2,p1,p2,Result.andThen_ok,k,EN];cases nG e x y
     ·simp
     ·simpa using r
end
theorem abC{x:SV}{n:Nat}(h:wI x=some n){J:Env}{v:Value}(hs:bK J x v):∃ ao cap,v= .slice ao n cap/\(ao=none->n=0)/\(x= .dO->ao=none):=by
 cases x<;>simp only[wI,z00] at h<;>try (cases h;done)
 ·subst h;obtain⟨cs,h1,h2⟩:=hs;simp only[ah] at h1;obtain⟨ao,cap,rfl,k1,_,k3,_⟩:=h1;refine⟨ao,cap,by rw[h2];rfl,λe=>by have:=k3 e;omega,λe=>by cases e⟩
 ·subst h;obtain⟨cs,h1,h2⟩:=hs;simp only[ah] at h1;obtain⟨ao,rfl,_,k3,_⟩:=h1;exact⟨ao,_,by rw[h2];rfl,k3,λe=>by cases e⟩
 ·subst h;obtain⟨h1,h2,h3⟩:=kF hs;rcases h2 with⟨e,rfl⟩|⟨b,cap,e,_⟩
  ·exact⟨none,0,by rw[h3,e],λ_=>rfl,λe=>by cases e⟩
  ·exact⟨some _,cap,by rw[h3,e],λe=>by(cases e),λe=>by cases e⟩
 ·subst h;obtain⟨_,b,cap,_,_,h3⟩:=BG hs;exact⟨_,_,h3,λ(e:some _=none)=>by(cases e),λe=>by cases e⟩
 ·subst h;have:=lY hs;exact⟨none,0,this,λ_=>rfl,λ_=>rfl⟩
def dX{α:Type}(P:Program)(s:Sem α):Prop:= ∀ w es,s.events P w es=es
theorem aC{α β:Type}{x:Sem α}{f:α->Sem β}(hx:dX P x)(hf:∀ w a w',x.run P w= .ok a w'->dX P (f a)):dX P (x>>=f):=by
 intro w es;rw[z09,hx w es];cases h:x.run P w with
 |ok a w'=>exact hf w a w' h w' es
 |halt _ _=>rfl
theorem aO{α:Type}(a:α):dX P (pure a:Sem α):=λ_ _=>rfl
theorem bY{α:Type}(s:String):dX P (stuck s:Sem α):=λ_ _=>rfl
theorem og{α:Type}(u:Unsupported):dX P (unsupported u:Sem α):=λ_ _=>rfl
theorem jT{α:Type}{c:Prop}[Decidable c]{x y:Sem α}(hx:dX P x)(hy:dX P y):dX P (if c then x else y):=by split<;>assumption
theorem kL{α β:Type}{f:α->β->Sem (ForInStep β)}(h:∀ a b,dX P (f a b)):∀ (l:List α) (b:β),dX P (forIn l b f)
 |[],b=>by rw[List.forIn_nil];exact aO _
 |a::l,b=>by
  rw[List.forIn_cons];refine aC (h a b) λ_ r _ _=> ?_;cases r with
  |done b=>exact aO _
  |yield b=>exact kL h l b
def ScV(c:Value):Prop:=(∃ k n,c= .int k n)\/(∃ b,c= .bool b)\/∃ s,c= .string s
def nJ(v:Value):Prop:=ScV v\/∃ cs:Array Value,v= .agg cs/\∀ c∈cs,ScV c
theorem iH(t:TypeId)(cs:Array Value)(off:Nat):dX P (part t cs off):=by
 unfold part;refine aC (λw es=>events_isAgg ..) λ_ b _ _=> ?_;cases b
 ·simp only[z0a,if_false];split<;>first|exact aO _|exact bY _
 ·simp only[if_true];exact aC (λw es=>events_sizeOf ..) λ_ _ _ _=>aO _
theorem pG{t:TypeId}{cs:Array Value}{off:Nat}(h:∀ c∈cs,ScV c){w w':World}{v:Value}(hr:(part t cs off).run P w= .ok v w'):nJ v:=by
 unfold part at hr;rw[z01] at hr;cases ha:(isAgg t).run P w with
 |halt _ _=>rw[ha] at hr;cases hr
 |ok b w1=>
  rw[ha,Result.andThen_ok] at hr;cases b
  ·simp only[z0a,if_false] at hr;split at hr
   ·rename_i c hc;cases hr;exact .inl (h _ (z2g hc))
   ·cases hr
  ·simp only[if_true,z01] at hr;cases hs:(sizeOf t).run P w1 with
   |halt _ _=>rw[hs] at hr;cases hr
   |ok n w2=>
    rw[hs,Result.andThen_ok] at hr;cases hr;exact .inr ⟨_,rfl,λc hc=>h c (by
     obtain⟨i,hi⟩:=Array.mem_iff_getElem?.1 hc;rw[Array.getElem?_extract] at hi;split at hi
     ·exact z2g hi
     ·cases hi)⟩
theorem jv:∀ (d:Nat) (t:TypeId) (x y:Value),nJ x->nJ y->dX P (Op.equalIn d t x y)
 |0,_,_,_,_,_=>λ_ _=>rfl
 |d+1,t,x,y,hx,hy=>by
  unfold Op.equalIn;refine aC (λw es=>events_underlying ..) λ_ u _ _=> ?_;have ih:=jv d;rcases hx with(⟨k,n,rfl⟩|⟨b,rfl⟩|⟨s,rfl⟩)|⟨cs,rfl,hcs⟩<;>rcases hy with(⟨k',n',rfl⟩|⟨b',rfl⟩|⟨s',rfl⟩)|⟨cs',rfl,hcs'⟩
  all_goals
   cases u<;>(try simp only[])<;>try first
    |exact aO _
    |exact bY _
    |exact og _
    |exact jT (aO _) (bY _)
  ·refine aC (λw es=>events_sizeOf ..) λ_ n _ _=> ?_;refine aC ?_ λ_ r _ _=> ?_
   ·rw[Std.Legacy.Range.forIn_eq_forIn_range'];refine kL (λf r=> ?_) _ _;refine aC (iH _ _ _) λ_ v1 _ h1=>aC (iH _ _ _) λ_ v2 _ h2=>aC (ih _ _ _ (pG hcs h1) (pG hcs' h2)) λ_ b _ _=> ?_;cases b<;>exact aO _
   ·split<;>exact aO _
  ·refine aC (λw es=>events_program ..) λ_ p _ _=> ?_;refine jT (aC (og _) λw a w' h=>by cases h) ?_
   refine aC ?_ λ_ r _ _=> ?_
   ·rw[<- Array.forIn_toList];refine kL (λf r=>jT ?_ (aO _)) _ _;refine aC (iH _ _ _) λ_ v1 _ h1=>aC (iH _ _ _) λ_ v2 _ h2=>aC (ih _ _ _ (pG hcs h1) (pG hcs' h2)) λ_ b _ _=> ?_;cases b<;>exact aO _
   ·split<;>exact aO _
end Go.Sx
namespace Go.Sx
open Go
variable {P:Program} {σ:List SV} {K:SV->Prop} {o:Oper}
mutual
theorem XJ:∀ (e:ES) {x:SV} {J:Env} {cs:List Value},fA e x->ah x J cs->∀ c∈cs,ScV c
 | .int k,x,J,cs,hx,sx=>by
  obtain⟨a,rfl⟩:∃ a,x= .int k a:=by cases x<;>simp_all [fA]
  simp only[ah] at sx;subst sx;exact λc hc=> .inl ⟨k,a,by simpa using hc⟩
 | .bool,x,J,cs,hx,sx=>by
  obtain⟨a,rfl⟩:∃ a,x= .bool a:=by cases x<;>simp_all [fA]
  simp only[ah] at sx;subst sx;exact λc hc=> .inr (.inl ⟨a,by simpa using hc⟩)
 | .str,x,J,cs,hx,sx=>by
  obtain⟨a,rfl⟩:∃ a,x= .str a:=by cases x<;>simp_all [fA]
  simp only[ah] at sx;subst sx;exact λc hc=> .inr (.inr ⟨_,by simpa using hc⟩)
 | .st l,x,J,cs,hx,sx=>by
  cases x<;>simp only[fA] at hx;simp only[ah] at sx;exact Zf l hx sx
 | .arr n w' e,x,J,cs,hx,sx=>by
  cases x<;>simp only[fA] at hx;rename_i n1 w1 f;obtain⟨rfl,rfl,hx⟩:=hx;simp only[ah] at sx;obtain⟨h1,h2⟩:=sx;intro c hc;obtain⟨k,hk,rfl⟩:=z2p hc;have hw0:0<w1:=by
   rcases z1k w1 with h|h
   ·subst h;omega
   ·exact h
  have hi:k/w1<n1:=z2m (by rw[h1,z1c] at hk;exact hk)
  refine XJ e (hx _ hi) (h2 _ hi) _ ?_;have hm:k%w1<w1:=Nat.mod_lt _ hw0;have hkk:k=k/w1*w1+k%w1:=by rw[z1c];exact(z3b k w1).symm
  refine z2j (i:=k%w1) ?_;simp only[sub,z1i,if_pos hm,z0q,<- hkk];exact z1a hk
theorem Zf:∀ (l:List ES) {xs:List SV} {J:Env} {cs:List Value},jw l xs->bV xs J cs->∀ c∈cs,ScV c
 |[],xs,J,cs,hx,sx=>by
  cases xs with
  |nil=>simp only[bV] at sx;subst sx;exact λc hc=>by cases hc
  |cons=>simp only[jw] at hx
 |e::l,xs,J,cs,hx,sx=>by
  cases xs with
  |nil=>simp only[jw] at hx
  |cons x xs=>
   simp only[jw] at hx;simp only[bV] at sx;obtain⟨a,b,rfl,s1,s2⟩:=sx;exact λc hc=>(z2x.1 hc).elim (XJ e hx.1 s1 c) (Zf l hx.2 s2 c)
end
theorem Cc{e:ES}{x:SV}{J:Env}{cs:List Value}(hx:fA e x)(sx:ah x J cs):nJ (boxed (gG e) cs):=by
 have h:=XJ e hx sx;cases ha:gG e with
 |true=>exact .inr ⟨cs.toArray,rfl,λc hc=>h c (by simpa using hc)⟩
 |false=>
  have hl:cs.length=1:=by rw[ah.length _ sx,Jl hx,DN ha]
  match cs,hl with
  |[c],_=>exact .inl (h c (by simp))
theorem JF(op:BinOp)(t:TypeId)(k k':IntKind)(a b:Int):dX P (binOp op t (.int k a) (.int k' b)):=by intro w es;cases op<;>simp only[binOp,Op.shift,Op.intArith,Op.intDiv,Op.intBits,Op.intCmp]<;>(repeat' split)<;>first|rfl|(simp[runtimePanic];done)
theorem jW:∀ (p:List Step) (s:Step),fM p->fM [s]->fM (p++[s])
 |[],_,_,h=>h
 | .lQ _::p,s,h1,h2=>jW p s h1 h2
 | .idx _ _::p,s,h1,h2=>⟨h1.1,jW p s h1.2 h2⟩
theorem TD{x:Operand}{y:aV}(ho:o.op= .move x\/o.op= .assign x)(hx:aP x=some y)(h:K (y.ev σ)):∃ sv,K sv/\dK P o σ sv:=by refine⟨_,h,λJ a hs=>⟨a.eval x,λw=> ?_,aB hx hs⟩⟩;rcases ho with ho|ho<;>constructor<;>simp[execOp,ho]
theorem XK{c x y:Operand}{c' x' y':aV}(ho:o.op= .pick c x y)(hc:aP c=some c')(hx:aP x=some x')(hy:aP y=some y')
  (h:aW σ K (.pick c' x' y')):∃ sv,K sv/\dK P o σ sv:=by
 simp only[aW] at h;split at h
 ·rename_i b hb;cases b with
  |true=>
   refine⟨_,h.1 rfl,λJ a hs=>⟨a.eval x,λw=> ?_,aB hx hs⟩⟩;have:=kG (hb▸aB hc hs);constructor<;>simp[execOp,ho,this,asBool]
  |false=>
   refine⟨_,h.2 rfl,λJ a hs=>⟨a.eval y,λw=> ?_,aB hy hs⟩⟩;have:=kG (hb▸aB hc hs);constructor<;>simp[execOp,ho,this,asBool]
 ·exact h.elim
theorem agS{op:BinOp}{t yt:TypeId}{x y:Operand}{x' y':aV}(ho:o.op= .binOp op t x y yt)(hx:aP x=some x')(hy:aP y=some y')(neg:Bool)(hop:op=(if neg then .neq else .eql)){p:vT}(hp:OT P neg t x' y'=some p)(h:aW σ K p):∃ sv,K sv/\dK P o σ sv:=by
 unfold OT at hp;split at hp<;>try (cases hp;done)
 rename_i e _;split at hp<;>try (cases hp;done)
 rename_i hc;simp only[z0i,z2v,decide_eq_true_eq] at hc;obtain⟨⟨⟨c1,c2⟩,c3⟩,c4⟩:=hc;simp only[z00] at hp;subst hp;simp only[aW] at h;obtain⟨⟨h1,h2⟩,h3⟩:=h;refine⟨_,h3,λJ a hs=> ?_⟩;have sx:=aB hx hs;have sy:=aB hy hs;have agg:∀ {z:SV} {v:Value},fA e z->bK J z v->∃ cs,ah z J cs/\v=boxed (gG e) cs:=by
  intro z v hz hsv;have hia:=nX hz;cases z with
  |cu l=>cases e<;>simp only[fA] at hz
  |junk=>cases e<;>simp only[fA] at hz
  |_=>obtain⟨cs,k1,k2⟩:=hsv;exact⟨cs,k1,by rw[k2,hia]⟩
 obtain⟨cs,k1,k2⟩:=agg h1 sx;obtain⟨cs',k3,k4⟩:=agg h2 sy;have hq:∀ w,(Op.equal t (a.eval x) (a.eval y)).run P w= .ok (nG e (x'.ev σ) (y'.ev σ)) w:=λw=>by rw[k2,k4];exact rC e w c1 (d:=10000) (by omega) h1 h2 k1 k3
 have hv:a.eval x= .agg cs.toArray:=by rw[k2,c2];rfl
 have hv':a.eval y= .agg cs'.toArray:=by rw[k4,c2];rfl
 rw[hv,hv'] at hq;have hg:∀ op w,(eqGuard op t x y (.agg cs.toArray) (.agg cs'.toArray)).run P w= .ok () w:=λop w=>by cases op<;>simp[eqGuard,c4]
 refine⟨.bool (if neg then !nG e (x'.ev σ) (y'.ev σ) else nG e (x'.ev σ) (y'.ev σ)),λw=> ?_,rZ⟩
 have he:dX P (Op.equal t (.agg cs.toArray) (.agg cs'.toArray)):=by have f1:=Cc h1 k1;have f2:=Cc h2 k3;rw[c2] at f1 f2;exact jv _ t _ _ f1 f2
 have he2:∀ op w es,(eqGuard op t x y (.agg cs.toArray) (.agg cs'.toArray)).events P w es=es:=λop w es=>by cases op<;>simp[eqGuard,c4]
 cases neg<;>subst hop<;>constructor<;>simp[execOp,ho,hv,hv',hg,binOp,hq,he _ _,he2]
theorem jC{J:Env}{t:TypeId}{x:SV}{v:Value}(h:bK J (.iface t x) v):∃ xs,ah x J xs/\v= .iface t (boxed x.isAgg xs):=by obtain⟨cs,h1,h2⟩:=h;simp only[ah] at h1;obtain⟨xs,h3,rfl⟩:=h1;exact⟨xs,h3,h2⟩
theorem yx{t:TypeId}{i:TypeInfo}(h:P.info? t=some i)(w:World):(typeInfo t).run P w= .ok i w:=by simp[typeInfo,h]
theorem Ph(d:Nat){ti t:TypeId}{ms:Array (String×TypeId)}{i:TypeInfo}(hu:P.underlying ti=some (.interface ms))(hi:P.info? t=some i)(hc:i.comparable=true)(x y:Value)(w:World):
  (Op.equalIn (d+1) ti (.iface t x) (.iface t y)).run P w=(Op.equalIn d t x y).run P w:=by
 simp[Op.equalIn,run_underlying hu,yx hi,hc]
theorem J7(d:Nat){ti t u:TypeId}{ms:Array (String×TypeId)}(hu:P.underlying ti=some (.interface ms))(hne:t≠u)(x y:Value)(w:World):
  (Op.equalIn (d+1) ti (.iface t x) (.iface u y)).run P w= .ok false w/\(Op.equalIn (d+1) ti (.iface t x) (.iface u y)).events P w #[]= #[]:=by
 constructor<;>simp[Op.equalIn,run_underlying hu,hne]
theorem TF(d:Nat){ti:TypeId}{ms:Array (String×TypeId)}(hu:P.underlying ti=some (.interface ms))(w:World):
  (Op.equalIn (d+1) ti .nilIface .nilIface).run P w= .ok true w/\(Op.equalIn (d+1) ti .nilIface .nilIface).events P w #[]= #[]:=by
 constructor<;>simp[Op.equalIn,run_underlying hu]
theorem XL(d:Nat){ti u:TypeId}{ms:Array (String×TypeId)}(hu:P.underlying ti=some (.interface ms))(x:Value)(w:World):
  (Op.equalIn (d+1) ti (.iface u x) .nilIface).run P w= .ok false w/\(Op.equalIn (d+1) ti (.iface u x) .nilIface).events P w #[]= #[]:=by
 constructor<;>simp[Op.equalIn,run_underlying hu]
theorem XM(d:Nat){ti u:TypeId}{ms:Array (String×TypeId)}(hu:P.underlying ti=some (.interface ms))(x:Value)(w:World):
  (Op.equalIn (d+1) ti .nilIface (.iface u x)).run P w= .ok false w/\(Op.equalIn (d+1) ti .nilIface (.iface u x)).events P w #[]= #[]:=by
 constructor<;>simp[Op.equalIn,run_underlying hu]
theorem TG(d:Nat){ti t:TypeId}{ms:Array (String×TypeId)}{i:TypeInfo}(hu:P.underlying ti=some (.interface ms))(hi:P.info? t=some i)(hc:i.comparable=true){x y:Value}(hx:nJ x)(hy:nJ y)(w:World):
  (Op.equalIn (d+1) ti (.iface t x) (.iface t y)).events P w #[]= #[]:=by
 simp[Op.equalIn,run_underlying hu,yx hi,hc,jv d t x y hx hy _ _]
theorem aox{op:BinOp}{t yt:TypeId}{x y:Operand}{x' y':aV}(ho:o.op= .binOp op t x y yt)(hx:aP x=some x')(hy:aP y=some y')(neg:Bool)(hop:op=(if neg then .neq else .eql)){ms:Array (String×TypeId)}(hu:P.underlying t=some (.interface ms))(h:aW σ K (.ieq neg (Jz P) x' y')):∃ sv,K sv/\dK P o σ sv:=by
 have run:∀ (c:Bool),(∀ J a,aH J σ a->∃ X Y,a.eval x=X/\a.eval y=Y/\((∃ u v,X= .iface u v)\/((X= .nilIface/\∃ u v,Y= .iface u v))\/(X= .nilIface/\y= .const .nilIface))/\(Y= .nilIface\/∃ u v,Y= .iface u v)/\∀ w,(Op.equal t X Y).run P w= .ok c w/\(Op.equal t X Y).events P w #[]= #[])->K (.bool (if neg then !c else c))->∃ sv,K sv/\dK P o σ sv:=by
  intro c hc hK;refine⟨_,hK,λJ a hs=> ?_⟩;obtain⟨X,Y,s1,s2,hX,hY,hq⟩:=hc J a hs;refine⟨.bool (if neg then !c else c),λw=> ?_,rZ⟩
  rcases hX with⟨_,_,rfl⟩|⟨rfl,_,_,rfl⟩|⟨rfl,hy0⟩
  ·rcases hY with rfl|⟨_,_,rfl⟩<;>cases neg<;>subst hop<;>constructor<;>simp[execOp,ho,s1,s2,eqGuard,binOp,(hq w).1,(hq w).2]
  ·cases neg<;>subst hop<;>constructor<;>simp[execOp,ho,s1,s2,eqGuard,binOp,(hq w).1,(hq w).2]
  ·subst hy0;simp only[z3f] at s2;subst s2;have s2:a.eval (.const .nilIface)= .nilIface:=rfl;cases neg<;>subst hop<;>constructor<;>simp[execOp,ho,s1,s2,eqGuard,binOp,(hq w).1,(hq w).2]
 simp only[aW] at h;split at h
 ·rename_i u a' e1;split at h
  ·rename_i u' b' e2;split at h
   ·rename_i heq;subst heq;split at h
    ·rename_i e he;obtain⟨⟨p1,p2⟩,hK⟩:=h;obtain⟨c1,c2,i,hi,hcomp⟩:=abA he;refine run (nG e a' b') (λJ a hs=> ?_) (by cases neg<;>exact hK)
     obtain⟨xs,k1,s1⟩:=jC (e1▸aB hx hs);obtain⟨ys,k2,s2⟩:=jC (e2▸aB hy hs);refine⟨_,_,s1,s2, .inl ⟨_,_,rfl⟩, .inr ⟨_,_,rfl⟩,λw=> ?_⟩;rw[nX p1,nX p2];have:=rC e w c1 (d:=9999) (by omega) p1 p2 k1 k2
     exact⟨(Ph 9999 hu hi hcomp _ _ w).trans this,TG 9999 hu hi hcomp (Cc p1 k1) (Cc p2 k2) w⟩
    ·exact h.elim
   ·rename_i hne;refine run false (λJ a hs=> ?_) (by cases neg<;>exact h)
    obtain⟨xs,k1,s1⟩:=jC (e1▸aB hx hs);obtain⟨ys,k2,s2⟩:=jC (e2▸aB hy hs);refine⟨_,_,s1,s2, .inl ⟨_,_,rfl⟩, .inr ⟨_,_,rfl⟩,λw=> ?_⟩;exact J7 9999 hu (λe:u=u'=>hne e.symm) _ _ w
  ·rename_i e2;refine run false (λJ a hs=> ?_) (by cases neg<;>exact h)
   obtain⟨xs,k1,s1⟩:=jC (e1▸aB hx hs);exact⟨_,_,s1,BF (e2▸aB hy hs), .inl ⟨_,_,rfl⟩, .inl rfl,λw=>XL 9999 hu _ w⟩
  ·exact h.elim
 ·rename_i e1;split at h
  ·rename_i e2;refine run false (λJ a hs=> ?_) (by cases neg<;>exact h)
   obtain⟨ys,k2,s2⟩:=jC (e2▸aB hy hs);exact⟨_,_,BF (e1▸aB hx hs),s2, .inr (.inl ⟨rfl,_,_,rfl⟩), .inr ⟨_,_,rfl⟩,λw=>XM 9999 hu _ w⟩
  ·rename_i e2;split at h
   ·refine run true (λJ a hs=> ?_) (by cases neg<;>exact h)
    have hv:=BF (e2▸aB hy hs);refine⟨_,_,BF (e1▸aB hx hs),hv, .inr (.inr ⟨rfl,?_⟩), .inl rfl,λw=>TF 9999 hu w⟩;cases y with
    |tmp _=>simp[aP] at hy
    |global _=>simp[aP] at hy
    |func _=>simp[z3f] at hv
    |const v=>simp only[z3f] at hv;rw[hv]
   ·exact h.elim
  ·exact h.elim
 ·exact h.elim
theorem abL{op:BinOp}{t yt:TypeId}{x y:Operand}{p:vT}(ho:o.op= .binOp op t x y yt)(hp:eF P o.op=some p)(h:aW σ K p):∃ sv,K sv/\dK P o σ sv:=by
 rw[ho] at hp;simp only[eF,bind,z06] at hp;obtain⟨x',hx,hp⟩:=bind_some hp;obtain⟨y',hy,hp⟩:=bind_some hp;split at hp
 ·split at hp
  ·rename_i ao hao;simp only[z00] at hp;subst hp;simp only[aW] at h;split at h
   ·rename_i k a' k' b' e1 e2;obtain⟨hk,hev⟩:=h;obtain⟨n,hK,hr⟩:=uK.Xz (P:=P) hao hk hev;refine⟨_,hK,λJ a hs=>⟨_,λw=> ?_,zZ⟩⟩;have s1:=fG (e1▸aB hx hs);have s2:=fG (e2▸aB hy hs);have:=hr w;rw[ED (t':=t)] at this;constructor<;>simp[execOp,ho,s1,s2,eqGuard_at_int,this,JF op t _ _ _ _ _ _]
   ·exact h.elim
  ·split at hp
   ·rename_i co hco;simp only[z00] at hp;subst hp;simp only[aW] at h;split at h
    ·rename_i k a' k' b' e1 e2;obtain⟨rfl,hK⟩:=h;refine⟨_,hK,λJ a hs=>⟨_,λw=> ?_,rZ⟩⟩;have s1:=fG (e1▸aB hx hs);have s2:=fG (e2▸aB hy hs);have:=PE.Xz (P:=P) (k:=k') (a:=a') (b:=b') hco w;rw[ED (t':=t)] at this;constructor<;>simp[execOp,ho,s1,s2,eqGuard_at_int,this,JF op t _ _ _ _ _ _]
    ·exact h.elim
   ·cases hp
 ·rename_i ht;have beq:∀ (neg:Bool),op=(if neg then .neq else .eql)->aW σ K (.beq neg x' y')->∃ sv,K sv/\dK P o σ sv:=by
   intro neg hop h;simp only[aW] at h;split at h
   ·rename_i a' b' e1 e2;refine⟨_,h,λJ a hs=>⟨_,λw=> ?_,rZ⟩⟩;have s1:=kG (e1▸aB hx hs);have s2:=kG (e2▸aB hy hs);have he:dX P (Op.equal t (.bool a') (.bool b')):=jv _ t _ _ (.inl (.inr (.inl ⟨_,rfl⟩))) (.inl (.inr (.inl ⟨_,rfl⟩)));cases neg<;>subst hop<;>constructor<;>simp[execOp,ho,s1,s2,eqGuard_at_bool,binOp,run_equal_bool w t a' b' ht,bne,he _ _]
   ·exact h.elim
  split at hp
  ·simp only[z00] at hp;subst hp;exact beq false rfl h
  ·simp only[z00] at hp;subst hp;exact beq true rfl h
  ·cases hp
 ·have seq:∀ (neg:Bool),op=(if neg then .neq else .eql)->aW σ K (.seq neg x' y')->∃ sv,K sv/\dK P o σ sv:=by
   intro neg hop h;simp only[aW] at h;split at h
   ·rename_i a' b' e1 e2;refine⟨_,h,λJ a hs=>⟨_,λw=> ?_,rZ⟩⟩;have s1:=vH (e1▸aB hx hs);have s2:=vH (e2▸aB hy hs);have hb:(a'==b')=decide (a'=b'):=by by_cases hab:a'=b'<;>simp[hab]
    cases neg<;>subst hop<;>constructor<;>simp[execOp,ho,s1,s2,eqGuard_at_string,binOp,Op.stringOp,ByteArray.toList_mk,hb]
   ·exact h.elim
  split at hp
  ·simp only[z00] at hp;subst hp;simp only[aW] at h;split at h
   ·rename_i a' b' e1 e2;refine⟨_,h.2,λJ a hs=>⟨_,λw=> ?_,aft⟩⟩;have s1:=vH (e1▸aB hx hs);have s2:=vH (e2▸aB hy hs);have h3:¬ (IntKind.i64.max< (((⟨a'.toArray⟩:ByteArray).size+(⟨b'.toArray⟩:ByteArray).size:Nat):Int)):=by
     have h4:(⟨a'.toArray⟩:ByteArray).size=a'.length:=by simp[z1b]
     have h5:(⟨b'.toArray⟩:ByteArray).size=b'.length:=by simp[z1b]
     rw[h4,h5,IntKind.max_i64];omega
    have h6:(⟨a'.toArray⟩:ByteArray)++⟨b'.toArray⟩=⟨(a'++b').toArray⟩:=by apply z2s;simp
    constructor<;>simp only[execOp,ho,s1,s2,eqGuard_at_string,binOp,Op.stringOp,z01,z07,Result.andThen_ok,GT.gt,if_neg h3,h6,z09,z1v,Result.evThen_ok]
   ·exact h.elim
  ·simp only[z00] at hp;subst hp;exact seq false rfl h
  ·simp only[z00] at hp;subst hp;exact seq true rfl h
  ·cases hp
 ·have key:∀ (neg:Bool),op=(if neg then .neq else .eql)->OO y=true->aW σ K (.GY neg x')->∃ sv,K sv/\dK P o σ sv:=by
   rename_i el ht;intro neg hop hy0 h;have hyv:y= .const (.slice none 0 0):=by unfold OO at hy0;split at hy0<;>first|rfl|cases hy0
   simp only[aW] at h;split at h
   ·rename_i n hn;have run:∀ J a,aH J σ a->∃ ao:Option Addr,(∀ w,(execOp a.eval o).run P w= .ok (.value (.bool (if neg then !ao.isNone else ao.isNone))) w/\(execOp a.eval o).events P w #[]= #[])/\(ao=none->n=0)/\(x'.ev σ= .dO->ao=none):=by
     intro J a hs;obtain⟨ao,cap,e1,e2,e3⟩:=abC hn (aB hx hs);refine⟨ao,λw=> ?_,e2,e3⟩;have hg:∀ op,eqGuard op t x y (.slice ao n cap) (.slice none 0 0)=pure ():=λop=>by cases op<;>rfl
     have hy2:a.eval y= .slice none 0 0:=by rw[hyv];rfl
     have hq:(Op.equal t (.slice ao n cap) (.slice none 0 0)).run P w= .ok ao.isNone w:=run_equalIn_slice_nil w 9999 t el ao n cap ht;have he:(Op.equal t (.slice ao n cap) (.slice none 0 0)).events P w #[]= #[]:=by show(Op.equalIn (9999+1) t (.slice ao n cap) (.slice none 0 0)).events P w #[]= #[];unfold Op.equalIn;rw[z09,events_underlying,run_underlying ht];cases ao<;>rfl
     cases neg<;>subst hop<;>constructor<;>simp[execOp,ho,e1,hy2,hg,binOp,hq,he]
    split at h
    ·rename_i e;refine⟨_,h,λJ a hs=> ?_⟩;obtain⟨ao,h1,h2,h3⟩:=run J a hs;have:=h3 e;subst this;exact⟨_,h1,by cases neg<;>exact rZ⟩
    ·by_cases hn0:n=0
     ·refine⟨_,h.1 (by simp[hn0]),λJ a hs=> ?_⟩
      obtain⟨ao,h1,h2,h3⟩:=run J a hs;exact⟨_,h1,⟨[.bool (if neg then !ao.isNone else ao.isNone)],by simp only[ah];exact⟨_,rfl⟩,rfl⟩⟩
     ·refine⟨_,h.2 (by simp[hn0]),λJ a hs=> ?_⟩
      obtain⟨ao,h1,h2,h3⟩:=run J a hs;cases ao with
      |none=>exact absurd (h2 rfl) hn0
      |some x=>exact⟨_,h1,by cases neg<;>exact rZ⟩
   ·exact h.elim
  split at hp
  ·split at hp
   ·rename_i hny;simp only[z00] at hp;subst hp;exact key false rfl hny h
   ·cases hp
  ·split at hp
   ·rename_i hny;simp only[z00] at hp;subst hp;exact key true rfl hny h
   ·cases hp
  ·cases hp
 ·have key:∀ (neg:Bool),op=(if neg then .neq else .eql)->OQ y=true->aW σ K (.Nw neg x')->∃ sv,K sv/\dK P o σ sv:=by
   rename_i el ht;intro neg hop hy0 h;have hyv:y= .const (.pointer none):=by unfold OQ at hy0;split at hy0<;>first|rfl|cases hy0
   have hy2:∀ a:Act,a.eval y= .pointer none:=λa=>by rw[hyv];rfl
   have hpt:P.underlying t=some (.pointer (P.pointee t)):=by simp[Program.pointee,ht]
   have go:∀ (b:Bool),(∀ J a,aH J σ a->∃ p:Option Addr,a.eval x= .pointer p/\p.isNone=b)->K (.bool (if neg then !b else b))->∃ sv,K sv/\dK P o σ sv:=by
    intro b hb hK;refine⟨_,hK,λJ a hs=> ?_⟩;obtain⟨p,e1,e2⟩:=hb J a hs;refine⟨.bool (if neg then !b else b),λw=> ?_,rZ⟩
    have hg:∀ op,eqGuard op t x y (.pointer p) (.pointer none)=pure ():=λop=>by cases op<;>rfl
    have hq:(Op.equal t (.pointer p) (.pointer none)).run P w= .ok p.isNone w:=run_equalIn_pointer_nil w 9999 t p hpt;have he:(Op.equal t (.pointer p) (.pointer none)).events P w #[]= #[]:=by show(Op.equalIn (9999+1) t (.pointer p) (.pointer none)).events P w #[]= #[];unfold Op.equalIn;rw[z09,events_underlying,run_underlying hpt];cases p<;>rfl
    cases neg<;>subst hop<;>constructor<;>simp[execOp,ho,e1,hy2,hg,binOp,hq,e2,he]
   simp only[aW] at h;split at h
   ·rename_i e;exact go true (λJ a hs=>⟨none,afr (e▸aB hx hs),rfl⟩) (by cases neg<;>exact h)
   ·rename_i e;refine go false (λJ a hs=> ?_) (by cases neg<;>exact h)
    obtain⟨_,_,h3⟩:=yL (e▸aB hx hs);exact⟨_,h3,rfl⟩
   ·rename_i e;refine go false (λJ a hs=> ?_) (by cases neg<;>exact h)
    obtain⟨cs,h1,h2⟩:bK J _ _:=e▸aB hx hs;simp only[ah] at h1;obtain⟨b,off,T,fz,cur,rfl,_⟩:=h1;exact⟨_,h2,rfl⟩
   ·rename_i e;refine go false (λJ a hs=> ?_) (by cases neg<;>exact h)
    obtain⟨_,_,b,cap,n,_,_,h3⟩:=xE (e▸aB hx hs);exact⟨_,h3,rfl⟩
   ·rename_i e;refine go false (λJ a hs=> ?_) (by cases neg<;>exact h)
    obtain⟨cs,h1,h2⟩:bK J _ _:=e▸aB hx hs;simp only[ah] at h1;obtain⟨b,T,fz,cur,rfl,_⟩:=h1;exact⟨_,h2,rfl⟩
   ·exact h.elim
  split at hp
  ·split at hp
   ·rename_i hny;simp only[z00] at hp;subst hp;exact key false rfl hny h
   ·cases hp
  ·split at hp
   ·rename_i hny;simp only[z00] at hp;subst hp;exact key true rfl hny h
   ·cases hp
  ·cases hp
 ·have key:=agS (P:=P) (σ:=σ) (K:=K) (o:=o) (t:=t) ho hx hy;split at hp
  ·exact key false rfl hp h
  ·exact key true rfl hp h
  ·cases hp
 ·have key:=agS (P:=P) (σ:=σ) (K:=K) (o:=o) (t:=t) ho hx hy;split at hp
  ·exact key false rfl hp h
  ·exact key true rfl hp h
  ·cases hp
 ·rename_i ms hu;have key:∀ neg:Bool,op=(if neg then .neq else .eql)->aW σ K (.ieq neg (Jz P) x' y')->∃ sv,K sv/\dK P o σ sv:=λneg hop h=>aox ho hx hy neg hop hu h
  split at hp
  ·simp only[z00] at hp;subst hp;exact key false rfl h
  ·simp only[z00] at hp;subst hp;exact key true rfl h
  ·cases hp
 ·cases hp
theorem agT{op:UnOp}{t:TypeId}{x:Operand}{p:vT}(ho:o.op= .unOp op t x)(hp:eF P o.op=some p)(h:aW σ K p):∃ sv,K sv/\dK P o σ sv:=by
 rw[ho] at hp;cases op<;>simp only[eF,z05] at hp<;>first|(cases hp;done)|skip
 all_goals
  obtain⟨x',hx,rfl⟩:=hp;simp only[aW] at h;split at h
  ·rename_i a' e1;refine⟨_,h,λJ a hs=>⟨_,λw=> ?_,⟨_,rfl,rfl⟩⟩⟩;have s1:=aB hx hs;rw[e1] at s1
   first
    |(have s1:=kG s1;constructor<;>simp[execOp,ho,s1,Op.unary,boxed,SV.isAgg];done)
    |(have s1:=fG s1;constructor<;>simp[execOp,ho,s1,Op.unary,Op.intArith,boxed,SV.isAgg];done)
  ·exact h.elim
theorem XO{s d:TypeId}{x:Operand}{p:vT}(ho:o.op= .convert s d x)(hp:eF P o.op=some p)(h:aW σ K p):∃ sv,K sv/\dK P o σ sv:=by
 rw[ho] at hp;simp only[eF,bind,z06] at hp;obtain⟨x',hx,hp⟩:=bind_some hp;split at hp
 ·rename_i k1 k2 h1 h2;simp only[z00] at hp;subst hp;simp only[aW] at h;split at h
  ·rename_i k a' e1;refine⟨_,h,λJ a hs=>⟨_,λw=> ?_,zZ⟩⟩;have s1:=fG (e1▸aB hx hs);constructor<;>simp[execOp,ho,convert,run_underlying h1,run_underlying h2,s1,Conv.intToInt]
  ·exact h.elim
 ·cases hp
theorem JG{x:Operand}{x':aV}{s:Step}{off:Nat}(hx:aP x=some x')(hs1:fM [s])
  (hrun:∀ (J:Env) (a:Act) (ad:Addr),aH J σ a->a.eval x= .pointer (some ad)->∀ w,(execOp a.eval o).run P w= .ok (.value (.pointer (some (ad.add off)))) w/\(execOp a.eval o).events P w #[]= #[])
  (h:wV s off K (x'.ev σ)):∃ sv,K sv/\dK P o σ sv:=by
 unfold wV at h;split at h
 ·rename_i i p o' e1;refine⟨_,h,λJ a hs=> ?_⟩;obtain⟨h1,h2,h3⟩:=yL (e1▸aB hx hs);refine⟨_,hrun J a _ hs h3,?_⟩;rw[Addr.add_lit];exact⟨_,by simp only[ah];exact⟨h1,jW p s h2 hs1,rfl⟩,rfl⟩
 ·rename_i τ w d f l i p o' e1;refine⟨_,h,λJ a hs=> ?_⟩;obtain⟨cs,h1,h2⟩:=e1▸aB hx hs;simp only[ah] at h1;obtain⟨b,of,T,fz,cur,e,h3,h4,h5,h6,h7⟩:=h1;subst e;refine⟨_,hrun J a _ hs h2,?_⟩;rw[Addr.add_lit];exact⟨_,by simp only[ah];exact⟨b,of,T,fz,cur,by rw[<- Nat.add_assoc],h3,h4,jW p s h5 hs1,h6,h7⟩,rfl⟩
 ·rename_i i j p o' e1;refine⟨_,h,λJ a hs=> ?_⟩;obtain⟨h1,h2,b,cap,n,h3,h4,h5⟩:=xE (e1▸aB hx hs);refine⟨_,hrun J a _ hs h5,?_⟩;rw[Addr.add_lit];exact⟨_,by simp only[ah];exact⟨h1,jW p s h2 hs1,b,cap,n,h3,h4,rfl⟩,rfl⟩
 ·rename_i c p o' e1;refine⟨_,h,λJ a hs=> ?_⟩;obtain⟨cs,h1,h2⟩:=e1▸aB hx hs;simp only[ah] at h1;obtain⟨b,T,fz,cur,e,h3,h4,h5⟩:=h1;subst e;refine⟨_,hrun J a _ hs h2,?_⟩;rw[Addr.add_lit];exact⟨_,by simp only[ah];exact⟨b,T,fz,cur,rfl,h3,jW p s h4 hs1,h5⟩,rfl⟩
 ·exact h.elim
theorem agU{s:TypeId}{x:Operand}{k:Nat}{p:vT}(ho:o.op= .fieldAddr s x k)(hp:eF P o.op=some p)(h:aW σ K p):∃ sv,K sv/\dK P o σ sv:=by
 rw[ho] at hp;simp only[eF,bind,z06] at hp;obtain⟨x',hx,hp⟩:=bind_some hp;split at hp<;>try (cases hp;done)
 rename_i fs hu;split at hp<;>try (cases hp;done)
 rename_i f hf;split at hp<;>try (cases hp;done)
 rename_i n ag ht;split at hp
 ·cases hp
 ·rename_i hn;simp only[z00] at hp;subst hp;refine JG hx (s:= .lQ k) (off:=f.offset) trivial (λJ a ad hs hv w=> ?_) (by simpa only[aW] using h)
  constructor<;>simp[execOp,ho,hv,Instr.fieldAt,run_underlying hu,hf,Instr.sureAddr,fieldPlace,run_sizeOf ht,hn]
theorem abM{s:TypeId}{x:Operand}{k:Nat}{p:vT}(ho:o.op= .field s x k)(hp:eF P o.op=some p)(h:aW σ K p):∃ sv,K sv/\dK P o σ sv:=by
 rw[ho] at hp;simp only[eF,bind,z06] at hp;obtain⟨x',hx,hp⟩:=bind_some hp;split at hp<;>try (cases hp;done)
 rename_i fs hu;split at hp<;>try (cases hp;done)
 rename_i f hf;split at hp<;>try (cases hp;done)
 rename_i n ag ht;split at hp
 ·cases hp
 ·rename_i hn;simp only[z00] at hp;subst hp;simp only[aW] at h;split at h
  ·rename_i l e1;obtain⟨⟨h1,h2,h3,h4⟩,hK⟩:=h;refine⟨_,hK,λJ a hs=> ?_⟩;obtain⟨cs,h5,h6⟩:=ajZ (e1▸aB hx hs);obtain⟨h7,h8⟩:=bV.nth l k h5 h1;refine⟨_,λw=> ?_,S9 h7⟩;rw[h2,h3] at*;rw[h4];have hp:=mM ht w cs f.offset h8 (λe=>by
    rcases z1d 1 n with h|h
    ·exact absurd ⟨e,by omega⟩ hn
    ·rcases z2u h with h|h
     ·exact h
     ·exact absurd ⟨e,by omega⟩ hn)
   constructor<;>simp only[execOp,ho,h6,Instr.field,z01,run_underlying hu,Result.andThen_ok,hf,asAgg,z07,hp,z09,events_underlying,Result.evThen_ok,z1v,iH _ _ _ _ _]
  ·exact h.elim
theorem agV{t:TypeId}{x i:Operand}{p:vT}(ho:o.op= .indexAddr t x i)(hp:eF P o.op=some p)(h:aW σ K p):∃ sv,K sv/\dK P o σ sv:=by
 rw[ho] at hp;simp only[eF,bind,z06] at hp;obtain⟨x',hx,hp⟩:=bind_some hp;obtain⟨i',hi,hp⟩:=bind_some hp;split at hp<;>try (cases hp;done)
 ·rename_i n e hu;split at hp<;>try (cases hp;done)
  rename_i sz ag ht;simp only[z00] at hp;subst hp;simp only[aW] at h;split at h
  ·rename_i k j e2;obtain⟨⟨h1,h2⟩,h⟩:=h;refine JG (s:= .idx j.toNat n) (off:=j.toNat*sz) hx ⟨by omega,trivial⟩ (λJ a ad hs hv w=> ?_) h
   have s2:=fG (e2▸aB hi hs);constructor<;>simp[execOp,ho,hv,s2,Instr.indexAt,asIntOf,run_underlying hu,Instr.sureAddr,h1,h2,run_sizeOf ht]
  ·exact h.elim
 ·rename_i e hu;split at hp<;>try (cases hp;done)
  rename_i sz ag ht;simp only[z00] at hp;subst hp;simp only[aW] at h;split at h
  ·rename_i k j e2;have hrun:∀ (J:Env) (a:Act) (hs:aH J σ a) (ad:Addr) (n c:Nat),a.eval x= .slice (some ad) n c->0<=j->j<n->∀ w,(execOp a.eval o).run P w= .ok (.value (.pointer (some (ad.add (j.toNat*sz))))) w/\(execOp a.eval o).events P w #[]= #[]:=by intro J a hs ad n c hv h1 h2 w;have s2:=fG (e2▸aB hi hs);constructor<;>simp[execOp,ho,hv,s2,Instr.indexAt,asIntOf,run_underlying hu,h1,h2,run_sizeOf ht]
   split at h
   ·rename_i τ w' d f l e1;obtain⟨⟨h1,h2⟩,rfl,hK⟩:=h;refine⟨_,hK,λJ a hs=> ?_⟩;obtain⟨cs,h3,h4⟩:=e1▸aB hx hs;simp only[ah] at h3;obtain⟨ao,cap,e,h5,h6,h7,h8⟩:=h3;subst e;obtain⟨b,off,T,fz,cur,rfl,g2,g3,g4⟩:=h8 j.toNat (by omega)
    refine⟨_,hrun J a hs _ _ _ h4 h1 h2,?_⟩;rw[Addr.add_lit];exact⟨_,by simp only[ah];exact⟨b,off,T,fz,cur,rfl,by omega,g2,trivial,g3,g4⟩,rfl⟩
   ·rename_i v n e1;obtain⟨⟨h1,h2⟩,hK⟩:=h;refine⟨_,hK,λJ a hs=> ?_⟩;obtain⟨h3,h4,h5⟩:=kF (e1▸aB hx hs);rcases h4 with⟨_,h4⟩|⟨b,cap,h4,_⟩
    ·omega
    ·refine⟨_,hrun J a hs _ _ _ (h5.trans h4) h1 h2,?_⟩;rw[Addr.add_lit];exact⟨_,by simp only[ah];exact⟨h3,trivial,b,cap,n,h4,by omega,rfl⟩,by simp[boxed,SV.isAgg]⟩
   ·rename_i v k n e1;obtain⟨⟨h1,h2⟩,rfl,hK⟩:=h;refine⟨_,hK,λJ a hs=> ?_⟩;obtain⟨h3,b,cap,h4,_,h5⟩:=BG (e1▸aB hx hs);refine⟨_,hrun J a hs _ _ _ h5 h1 h2,?_⟩;rw[Addr.add_lit];exact⟨_,by simp only[ah];exact⟨h3,trivial,b,cap,k+n,h4,by omega,rfl⟩,by simp[boxed,SV.isAgg]⟩
   ·exact h.elim
  ·exact h.elim
theorem agW{t:TypeId}{x i:Operand}{p:vT}(ho:o.op= .index t x i)(hp:eF P o.op=some p)(h:aW σ K p):∃ sv,K sv/\dK P o σ sv:=by
 rw[ho] at hp;simp only[eF,bind,z06] at hp;obtain⟨x',hx,hp⟩:=bind_some hp;obtain⟨i',hi,hp⟩:=bind_some hp;split at hp<;>try (cases hp;done)
 ·rename_i n e hu;split at hp<;>try (cases hp;done)
  rename_i sz ag ht;split at hp<;>try (cases hp;done)
  rename_i hn;simp only[z00] at hp;subst hp;simp only[aW] at h;split at h
  ·rename_i k j e2;split at h
   ·rename_i n' w' f e1;obtain⟨⟨h1,h2⟩,⟨rfl,rfl,h3⟩,hK⟩:=h;refine⟨_,hK,λJ a hs=> ?_⟩;have s2:=fG (e2▸aB hi hs);obtain⟨cs,h5,h6⟩:=aj0 (e1▸aB hx hs);simp only[ah] at h5;obtain⟨h7,h8⟩:=h5;have hj:j.toNat<n':=by omega
    have h9:=h8 j.toNat hj;have hl:=bF (w:=w') hj;refine⟨_,λw=> ?_,S9 h9⟩;rw[h3];have hp:=mM ht w cs (j.toNat*w') (by omega) (λe=>by
     rcases z1d 1 w' with h|h
     ·exact absurd ⟨e,by omega⟩ hn
     ·rcases z2u h with h|h
      ·exact h
      ·exact absurd ⟨e,by omega⟩ hn)
    constructor<;>simp only[execOp,ho,h6,s2,Instr.index,asIntOf,z01,z07,run_underlying hu,Result.andThen_ok,h1,h2,and_self,if_true,run_sizeOf ht,hp,z09,events_underlying,events_sizeOf,Result.evThen_ok,z1v,iH _ _ _ _ _]
   ·exact h.elim
  ·exact h.elim
 ·rename_i hu;simp only[z00] at hp;subst hp;simp only[aW] at h;split at h
  ·rename_i k j e2;split at h
   ·rename_i s e1;obtain⟨⟨h1,h2⟩,hK⟩:=h;refine⟨_,hK,λJ a hs=>⟨_,λw=> ?_,zZ⟩⟩;have s2:=fG (e2▸aB hi hs);have s1:=vH (e1▸aB hx hs);have hj:j.toNat<s.length:=by omega
    have hg:(⟨s.toArray⟩:ByteArray)[j.toNat]? =some (s.getD j.toNat 0):=by
     have hsz:j.toNat< (⟨s.toArray⟩:ByteArray).size:=by simpa[z1b] using hj
     rw[getElem?_pos (⟨s.toArray⟩:ByteArray) j.toNat hsz];simp[ByteArray.getElem_eq_getElem_data,z0f,hj]
    constructor<;>simp[execOp,ho,s1,s2,Instr.index,asIntOf,run_underlying hu,h1,hg]
   ·exact h.elim
  ·exact h.elim
theorem abN{x:Operand}{k:Nat}{p:vT}(ho:o.op= .extract x k)(hp:eF P o.op=some p)(h:aW σ K p):∃ sv,K sv/\dK P o σ sv:=by
 rw[ho] at hp;simp only[eF,z05] at hp;obtain⟨x',hx,rfl⟩:=hp;simp only[aW] at h;split at h
 ·rename_i l e1;obtain⟨h1,hK⟩:=h;refine⟨_,hK,λJ a hs=> ?_⟩;obtain⟨vs,h2,h3⟩:=YN (e1▸aB hx hs);obtain⟨v,h4,h5⟩:=bT.nth l k h2 h1;exact⟨v,λw=>by constructor<;>simp[execOp,ho,h3,Instr.extract,h4],h5⟩
 ·exact h.elim
theorem fF{J:Env}{sv:SV}{v:Value}(h:bK J sv v)(hv:sv.isVal=true):∃ cs,ah sv J cs/\v=boxed sv.isAgg cs:=by
 cases sv<;>first
  |exact h
  |cases hv
theorem yA{J:Env}{a:Act}(hs:aH J σ a):∀ (xs:List Operand) (ys:List aV),xs.mapM aP=some ys->
  (ys.map (·.ev σ)).all SV.isVal=true->bT (ys.map (·.ev σ)) J (xs.map a.eval)
 |[],ys,h,_=>by simp at h;subst h;rfl
 |x::xs,ys,h,h1=>by simp only[z1f,bind,z06] at h;obtain⟨y,hy,h⟩:=bind_some h;obtain⟨ys',hys,h⟩:=bind_some h;simp only[z00] at h;subst h;simp only[z1h,z3e,z0i] at h1;obtain⟨cs,h3,h4⟩:=fF (aB hy hs) h1.1;simp only[z1h,bT];exact⟨cs,_,by rw[h4],h3,yA hs xs ys' hys h1.2⟩
theorem XP{fn:Fn}{first caps:Array Operand}{p:vT}(ho:o.op= .makeFunc fn first caps)(hp:eF P o.op=some p)(h:aW σ K p):∃ sv,K sv/\dK P o σ sv:=by
 rw[ho] at hp;simp only[eF] at hp;split at hp<;>try (cases hp;done)
 rename_i f hf;obtain rfl:first= #[]:=by simpa using hf
 simp only[z05] at hp;obtain⟨ys,hy,rfl⟩:=hp;simp only[aW] at h;refine⟨_,h.2,λJ a hs=>⟨_,λw=>by constructor<;>simp[execOp,ho,Instr.makeFunc];rfl,?_⟩⟩
 have:=yA hs caps.toList ys hy h.1;refine⟨_,by simp only[ah];exact⟨_,this,rfl⟩,?_⟩
 simp only[boxed,SV.isAgg,z0a,if_false,z2y]
 congr 1
 apply z0w;simp
theorem abO{x:Operand}{p:vT}(ho:o.op= .nilCheck x)(hp:eF P o.op=some p)(h:aW σ K p):∃ sv,K sv/\dK P o σ sv:=by
 rw[ho] at hp;simp only[eF,z05] at hp;obtain⟨x',hx,rfl⟩:=hp;have key:∀ sv,x'.ev σ=sv->K sv->(∀ J v,bK J sv v->(∃ ad,v= .pointer (some ad))\/∃ f c,v= .func (.func f) #[] c)->∃ sv,K sv/\dK P o σ sv:=by intro sv e hK hf;refine⟨sv,hK,λJ a hs=> ?_⟩;have hv:=e▸aB hx hs;refine⟨a.eval x,λw=> ?_,hv⟩;rcases hf J _ hv with⟨ad,e1⟩|⟨f,c,e1⟩<;>constructor<;>simp[execOp,ho,e1]
 simp only[aW] at h;split at h
 ·rename_i i p o' e1;exact key _ e1 h λJ v hv=> .inl ⟨_,(yL hv).2.2⟩
 ·rename_i τ w d f l i p o' e1;refine key _ e1 h λJ v hv=> .inl ?_;obtain⟨cs,h1,h2⟩:=hv;simp only[ah] at h1;obtain⟨b,of,T,fz,cur,e,_⟩:=h1;subst e;exact⟨_,h2⟩
 ·rename_i i j p o' e1;refine key _ e1 h λJ v hv=> .inl ?_;obtain⟨_,_,b,cap,n,_,_,e⟩:=xE hv;exact⟨_,e⟩
 ·rename_i c p o' e1;refine key _ e1 h λJ v hv=> .inl ?_;obtain⟨cs,h1,h2⟩:=hv;simp only[ah] at h1;obtain⟨b,T,fz,cur,e,_⟩:=h1;subst e;exact⟨_,h2⟩
 ·rename_i f c e1;refine key _ e1 h λJ v hv=> .inr ?_;obtain⟨vs,_,e⟩:=afs hv;exact⟨_,_,e⟩
 ·exact h.elim
theorem XQ{t:TypeId}{x:Operand}{p:vT}(ho:o.op= .makeInterface t x)(hp:eF P o.op=some p)(h:aW σ K p):∃ sv,K sv/\dK P o σ sv:=by
 rw[ho] at hp;simp only[eF,bind,z06] at hp;obtain⟨x',hx,hp⟩:=bind_some hp;split at hp<;>try (cases hp;done)
 rename_i h1 h2;simp only[z00] at hp;subst hp;simp only[aW] at h;refine⟨_,h.2,λJ a hs=>⟨.iface t (a.eval x),λw=> ?_,?_⟩⟩
 ·cases hu:P.underlying t with
  |none=>exact absurd hu h2
  |some d=>
   constructor<;>simp only[execOp,ho,Instr.makeInterface,z01,run_underlying hu,Result.andThen_ok,z09,events_underlying,Result.evThen_ok]<;>cases d<;>first
    |rfl
    |exact absurd hu (h1 _)
 ·obtain⟨cs,h3,h4⟩:=fF (aB hx hs) h.1;exact⟨_,by simp only[ah];exact⟨cs,h3,rfl⟩,by rw[h4];rfl⟩
theorem abP{t xt:TypeId}{x:Operand}{ok:Bool}{p:vT}(ho:o.op= .typeAssert x xt t ok)(hp:eF P o.op=some p)(h:aW σ K p):∃ sv,K sv/\dK P o σ sv:=by
 rw[ho] at hp;simp only[eF,bind,z06] at hp;obtain⟨x',hx,hq⟩:=bind_some hp;clear hp;split at hq<;>try (cases hq;done)
 rename_i h1 h2;cases ok with
 |false=>cases hq
 |true=>
 simp only[if_true] at hq;split at hq<;>try (cases hq;done)
 rename_i z hz;cases hq;obtain⟨za,i,cs,hi,hi2,Wu⟩:=Yn hz;have hrun:∀ (a:Act) (t':TypeId) (v:Value) w,a.eval x= .iface t' v->(execOp a.eval o).run P w= .ok (.value (if t'=t then .tuple #[v, .bool true] else .tuple #[.agg cs, .bool false])) w/\(execOp a.eval o).events P w #[]= #[]:=by
  intro a t' v w hv;cases hu:P.underlying t with
  |none=>exact absurd hu h2
  |some d=>
   have hz:∀ w es,(zeroValue t).events P w es=es:=λw es=>events_zeroValue ..;constructor<;>simp only[execOp,ho,Instr.typeAssert,hv,z01,run_underlying hu,Result.andThen_ok,z09,events_underlying,Result.evThen_ok]<;>cases d<;>first
    |exact absurd hu (h1 _)
    |(by_cases e:t'=t
      ·simp[e]
      ·simp[e,zeroValue,yx hi,hi2])
 simp only[aW] at h;split at h
 ·rename_i t' y e1;split at h
  ·rename_i heq;refine⟨_,h,λJ a hs=> ?_⟩;obtain⟨xs,k1,s1⟩:=jC (e1▸aB hx hs);refine⟨_,λw=>⟨by rw[(hrun a _ _ w s1).1,if_pos heq],(hrun a _ _ w s1).2⟩,[boxed y.isAgg xs, .bool true],?_,rfl⟩
   simp only[bT];exact⟨xs,_,rfl,k1,[.bool true],[],rfl,by simp only[ah],rfl⟩
  ·rename_i hne;refine⟨_,h,λJ a hs=> ?_⟩;obtain⟨xs,k1,s1⟩:=jC (e1▸aB hx hs);refine⟨_,λw=>⟨by rw[(hrun a _ _ w s1).1,if_neg hne],(hrun a _ _ w s1).2⟩,[.agg cs, .bool false],?_,rfl⟩
   simp only[bT];exact⟨cs.toList,_,by rw[za];rfl,Wu _,[.bool false],[],rfl,by simp only[ah],rfl⟩
 ·exact h.elim
theorem agX{J:Env}{sv:SV}{v:Value}{n:Nat}(h:wI sv=some n)(hv:bK J sv v):∃ a c,v= .slice a n c:=by
 cases sv<;>simp only[wI] at h<;>cases h
 ·obtain⟨cs,h1,h2⟩:=hv;simp only[ah] at h1;obtain⟨ao,cap,e,_⟩:=h1;subst e;exact⟨_,_,h2⟩
 ·obtain⟨cs,h1,h2⟩:=hv;simp only[ah] at h1;obtain⟨ao,e,_⟩:=h1;subst e;exact⟨_,_,h2⟩
 ·obtain⟨_,h1,h2⟩:=kF hv;rcases h1 with⟨e,e2⟩|⟨b,cap,e,_⟩
  ·subst e2;exact⟨_,_,h2.trans e⟩
  ·exact⟨_,_,h2.trans e⟩
 ·obtain⟨_,b,cap,_,_,h3⟩:=BG hv;exact⟨_,_,h3⟩
 ·exact⟨_,_,lY hv⟩
theorem akC{c:Call}{p:vT}(ho:o.op= .call c)(hp:eF P o.op=some p)(h:aW σ K p):∃ sv,K sv/\dK P o σ sv:=by
 rw[ho] at hp;simp only[eF,alK] at hp;cases c with
 |mk callee args argTypes=>
 simp only at hp;split at hp
 ·rename_i x t ea et;obtain rfl:args= #[x]:=by apply z0w;simpa using ea
  obtain rfl:argTypes= #[t]:=by apply z0w;simpa using et
  simp only[bind,z06] at hp;obtain⟨x',hx,hp⟩:=bind_some hp;have hrun:∀ (a:Act) w,(execOp a.eval o).run P w=((Builtin.len_ #[t] o.type #[a.eval x]).run P w).andThen λv w=> .ok (.value v) w:=by intro a w;simp[execOp,ho,resolve,invoke,builtin]
  have hev:∀ (a:Act) w,(execOp a.eval o).events P w #[]=(Builtin.len_ #[t] o.type #[a.eval x]).events P w #[]:=by intro a w;simp[execOp,ho,resolve,invoke,builtin]
  split at hp<;>try (cases hp;done)
  ·rename_i hu;simp only[z00] at hp;subst hp;simp only[aW] at h;split at h
   ·rename_i s e1;refine⟨_,h,λJ a hs=>⟨_,λw=> ?_,zZ⟩⟩;have s1:=vH (e1▸aB hx hs);refine⟨?_,by rw[hev];simp[Builtin.len_,run_underlying hu,s1]⟩
    rw[hrun];simp only[Builtin.len_,z01,run_underlying hu,Result.andThen_ok,s1,List.getElem?_toArray,z2e,z07,goInt];rfl
   ·exact h.elim
  ·rename_i e hu;simp only[z00] at hp;subst hp;simp only[aW] at h;split at h
   ·rename_i n hn;refine⟨_,h,λJ a hs=>⟨_,λw=> ?_,zZ⟩⟩;obtain⟨ad,c,e1⟩:=agX hn (aB hx hs);refine⟨?_,by rw[hev];simp[Builtin.len_,run_underlying hu,e1]⟩
    rw[hrun];simp[Builtin.len_,run_underlying hu,e1,goInt]
   ·exact h.elim
 ·rename_i x y t u ea et;obtain rfl:args= #[x,y]:=by apply z0w;simpa using ea
  split at hp<;>try (cases hp;done)
  simp only[bind,z06] at hp;obtain⟨x',hx,hp⟩:=bind_some hp;obtain⟨y',hy,hp⟩:=bind_some hp;simp only[z00] at hp;subst hp;simp only[aW] at h;split at h
  ·rename_i k a' k' b' e1 e2;obtain⟨rfl,hK⟩:=h;refine⟨_,hK,λJ a hs=>⟨_,λw=> ?_,zZ⟩⟩;have s1:=fG (e1▸aB hx hs);have s2:=fG (e2▸aB hy hs);constructor<;>simp[execOp,ho,resolve,invoke,builtin,Builtin.max_,s1,s2,Builtin.max2]
  ·exact h.elim
 ·rename_i x y t u ea et;obtain rfl:args= #[x,y]:=by apply z0w;simpa using ea
  split at hp<;>try (cases hp;done)
  simp only[bind,z06] at hp;obtain⟨x',hx,hp⟩:=bind_some hp;obtain⟨y',hy,hp⟩:=bind_some hp;simp only[z00] at hp;subst hp;simp only[aW] at h;split at h
  ·rename_i k a' k' b' e1 e2;obtain⟨rfl,hK⟩:=h;refine⟨_,hK,λJ a hs=>⟨_,λw=> ?_,zZ⟩⟩;have s1:=fG (e1▸aB hx hs);have s2:=fG (e2▸aB hy hs);constructor<;>simp[execOp,ho,resolve,invoke,builtin,Builtin.min_,s1,s2,Builtin.min2]
  ·exact h.elim
 ·cases hp
end Go.Sx
namespace Go.Sx
open Go
variable {P:Program} {σ:List SV} {K:SV->Prop} {o:Oper}
theorem foldl_set(off:Nat):∀ (xs:List Value) (k:Nat) (cs:Array Value),off+k+xs.length<=cs.size->
  (xs.zipIdx k).foldl (λ(cs:Array Value) x=>cs.setIfInBounds (off+x.2) x.1) cs=(splice cs.toList (off+k) xs).toArray
 |[],k,cs,h=>by simp[splice]
 |x::xs,k,cs,h=>by
  simp only[z1q] at h;simp only[List.zipIdx_cons,List.foldl_cons];rw[foldl_set off xs (k+1) _ (by simp;omega)]
  congr 1
  apply z0l;intro j;have hlen:(cs.setIfInBounds (off+k) x).toList.length=cs.toList.length:=by simp
  have h2:cs.toList.length=cs.size:=by simp
  rw[iP (by rw[hlen,h2];omega),iP (by simp;omega)]
  simp only[Array.toList_setIfInBounds,z0g,z1q,h2];by_cases hj:off+(k+1)<=j/\j<off+(k+1)+xs.length
  ·rw[if_pos hj,if_pos (by omega)]
   have:j - (off+k)=(j - (off+(k+1)))+1:=by omega
   rw[this,List.getElem?_cons_succ]
  ·rw[if_neg hj];by_cases hj2:off+k=j
   ·subst hj2;rw[if_pos rfl,if_pos (by omega),if_pos (by omega),z1o,z2e]
   ·rw[if_neg hj2,if_neg (by omega)]
theorem Ce(off:Nat)(xs:List Value)(cs:Array Value)(h:off+xs.length<=cs.size):
  xs.toArray.zipIdx.foldl (λ(cs:Array Value) (x:Value×Nat)=>cs.setIfInBounds (off+x.2) x.1) cs=(splice cs.toList off xs).toArray:=by
 have:=foldl_set off xs 0 cs (by omega)
 rw[<- Array.foldl_toList,Array.toList_zipIdx];simpa using this
theorem JJ(place:Nat->Option (Nat×Nat))(f:Nat->Option (List Step×Nat×Nat))(hf:∀ k p o n,f k=some (p,o,n)->place k=some (o,n)){J:Env}{a:Act}(hs:aH J σ a):
  ∀ (parts:List (Nat×Operand)) (ys:List (List Step×Nat×Nat×aV)) (z:SV) (cs:List Value),pJ f parts=some ys->ah z J cs->∀ {K:SV->Prop},gK σ z ys K->
   ∃ z' cs',K z'/\ah z' J cs'/\Instr.fill place cs.toArray (parts.map λx=>(x.1,a.eval x.2))=some cs'.toArray
 |[],ys,z,cs,hc,hz,K,h=>by
  simp only[pJ,z00] at hc;subst hc;exact⟨z,cs,h,hz,rfl⟩
 |(k,x)::r,ys,z,cs,hc,hz,K,h=>by
  simp only[pJ] at hc;split at hc<;>try (cases hc;done)
  rename_i p o n y ys' h1 h2 h3;simp only[z00] at hc;subst hc;simp only[gK] at h;obtain⟨⟨hp,hat,hv,hn,hg⟩,h⟩:=h;obtain⟨xs,hx1,hx2⟩:=fF (aB h2 hs) hv;have hl:=ah.length _ hx1;obtain⟨_,g1,g2⟩:=ah.get p z 0 o hz hp hat;simp only[z0h] at g1 g2;have hset:=ah.set p z 0 o hz hp hat hx1 (by omega)
  rw[z0h] at hset;obtain⟨z',cs',i1,i2,i3⟩:=JJ place f hf hs r ys' _ _ h3 hset h;refine⟨z',cs',i1,i2,?_⟩;have hcells:(a.eval x).cells=xs.toArray:=by rw[hx2];exact iO hx1
  simp only[z1h,Instr.fill,hf k p o n h1,hcells];have hsz:xs.toArray.size=n:=by simp;omega
  rw[if_neg (by simp[hsz];omega)]
  have:=Ce o xs cs.toArray (by simp;omega)
  simp only at this;rw[this];exact i3
def XU(σ:List SV):SV->List (List Step×Nat×Nat×aV)->SV
 |z,[]=>z
 |z,(p,_,_,x)::r=>XU σ (rG z p (x.ev σ)) r
theorem vP:∀ (ys:List (List Step×Nat×Nat×aV)) (z:SV) {K:SV->Prop},gK σ z ys K->K (XU σ z ys)/\gK σ z ys (λz'=>z'=XU σ z ys)
 |[],z,K,h=>⟨h,rfl⟩
 |(p,o,n,x)::r,z,K,h=>by simp only[gK] at h ⊢;obtain⟨i1,i2⟩:=vP r _ h.2;exact⟨i1,h.1,i2⟩
theorem TL{fs:Array Field}(hall:∀ f∈fs.toList,(P.info? f.type).isSome=true):
  fs.toList.mapM (λf=>(P.info? f.type).map λi=>(f.offset,i.size))=some (fs.toList.map λf=>(f.offset,((P.info? f.type).map (·.size)).getD 0)):=by
 generalize fs.toList=l at*
 induction l with
 |nil=>rfl
 |cons x r ih=>
  have hx:=hall x (by simp)
  have ih:=ih (λf hf=>hall f (by simp[hf]))
  cases hi:P.info? x.type with
  |none=>rw[hi] at hx;cases hx
  |some i=>simp[z1f,hi,ih]
theorem EK{α β:Type}{f:α->Sem β}(h:∀ a,dX P (f a)):∀ l:List α,dX P (l.mapM f)
 |[]=>by rw[List.mapM_nil];exact aO _
 |a::l=>by rw[z1f];exact aC (h a) λ_ _ _ _=>aC (EK h l) λ_ _ _ _=>aO _
theorem Po(t:TypeId)(parts:Array (Nat×Value)):dX P (Instr.build t parts):=by
 unfold Instr.build;refine aC (λw es=>events_zeroValue ..) λ_ z _ _=>aC (λw es=>events_underlying ..) λ_ u _ _=> ?_;split
 ·refine aC ?_ λ_ _ _ _=> ?_
  ·rw[Array.mapM_eq_mapM_toList];intro w es;rw[Sem.events_map];exact EK (λf=>aC (λw es=>events_sizeOf ..) λ_ _ _ _=>aO _) _ w es
  ·split<;>first|exact aO _|exact bY _
 ·refine aC (λw es=>events_sizeOf ..) λ_ _ _ _=> ?_;split<;>first|exact aO _|exact bY _
 ·exact bY _
theorem Pq(v:Value)(y:Nat)(c:BoundsCode):dX P (Instr.sliceBound v y c):=by
 unfold Instr.sliceBound;refine aC ?_ λ_ r _ _=> ?_
 ·unfold asIntOf;split<;>first|exact aO _|exact og _|exact bY _
 ·split;split
  ·exact aO _
  ·intro w es;simp[boundsPanic,runtimePanic]
theorem lV(sl:Bool)(len cap:Nat)(lo hi mx:Option Value):dX P (Instr.sliceBounds sl len cap lo hi mx):=by
 unfold Instr.sliceBounds;cases mx<;>cases hi<;>cases lo<;>(try dsimp only)<;>repeat' first
  |exact aO _
  |refine aC (aO _) λ_ _ _ _=> ?_
  |refine aC (Pq _ _ _) λ_ _ _ _=> ?_
  |exact aC (bY _) (λ_ _ _ h=>by cases h)
theorem Pv(t:TypeId)(v:Value)(lo hi mx:Option Value):dX P (Instr.slice t v lo hi mx):=by
 unfold Instr.slice;refine aC (λw es=>events_underlying ..) λ_ u _ _=> ?_;split
 ·refine jT (aC (bY _) λ_ _ _ h=>by cases h) ?_
  exact aC (lV _ _ _ _ _ _) λ_ _ _ _=>aO _
 ·exact aC (lV _ _ _ _ _ _) λ_ _ _ _=>aC (λw es=>events_sizeOf ..) λ_ _ _ _=>aO _
 ·refine aC ?_ λ_ _ _ _=>aC (λw es=>events_underlying ..) λ_ _ _ _=> ?_
  ·unfold asAddr;split<;>first|exact aO _|exact bY _|(intro w es;simp[runtimePanic])
  split
  ·exact aC (lV _ _ _ _ _ _) λ_ _ _ _=>aC (λw es=>events_sizeOf ..) λ_ _ _ _=>aO _
  ·exact bY _
 ·exact bY _
theorem yC(t:TypeId)(v:Value)(lo hi mx:Option Value):dX P (Instr.sliceAt t v lo hi mx):=by
 unfold Instr.sliceAt;refine aC (λw es=>events_underlying ..) λ_ u _ _=> ?_;split
 ·refine aC ?_ λ_ _ _ _=> ?_
  ·unfold Instr.sureAddr;split<;>first|exact aO _|exact bY _
  exact aC (lV _ _ _ _ _ _) λ_ _ _ _=>aC (λw es=>events_sizeOf ..) λ_ _ _ _=>aO _
 ·exact Pv _ _ _ _ _
theorem abU{t:TypeId}{parts:Array (Nat×Operand)}{p:vT}(ho:o.op= .build t parts)(hp:eF P o.op=some p)(h:aW σ K p):∃ sv,K sv/\dK P o σ sv:=by
 rw[ho] at hp;have hev:∀ (a:Act) w,(execOp a.eval o).events P w #[]= #[]:=by intro a w;unfold execOp;rw[ho];exact aC (Po _ _) (λ_ _ _ _=>aO _) w _
 simp only[eF,Y2] at hp;have hmap:∀ a:Act,(parts.map λ(i,x)=>(i,a.eval x)).toList=parts.toList.map λx=>(x.1,a.eval x.2):=by intro a;simp
 have hrun:∀ (a:Act) w,(execOp a.eval o).run P w=((Instr.build t (parts.map λ(i,x)=>(i,a.eval x))).run P w).andThen λv w=> .ok (.value v) w:=by intro a w;simp only[execOp,ho,z01];rfl
 split at hp<;>try (cases hp;done)
 ·rename_i z fs hz hu;split at hp<;>try (cases hp;done)
  rename_i hall;simp only[z05] at hp;obtain⟨ys,hys,rfl⟩:=hp;simp only[aW] at h;obtain⟨h1,h2⟩:=vP _ _ h;obtain⟨i,v,hi,hv,hc⟩:=xW hz;refine⟨_,h1.2,λJ a hs=> ?_⟩;have akV:=TL (P:=P) (fs:=fs) (λf hf=>List.all_eq_true.1 hall f hf);obtain⟨_,cs',rfl,g1,g2⟩:=JJ ((fs.toList.map λf=>(f.offset,((P.info? f.type).map (·.size)).getD 0)).toArray[·]?) _ (λk p o n hk=>by
   unfold af8 at hk;split at hk<;>try (cases hk;done)
   rename_i f hf;split at hk<;>try (cases hk;done)
   rename_i i2 hi2;simp only[z00,z18] at hk;obtain⟨_,rfl,rfl⟩:=hk;have hf':fs.toList[k]? =some f:=by simpa using hf
   simp[hf',hi2]) hs parts.toList ys z _ hys (hc J) h2
  have hb:P.built t (parts.map λ(i,x)=>(i,a.eval x)).toList=some cs'.toArray:=by unfold z2w;rw[hi,hu];simp only[hv,akV,hmap];simpa using g2
  refine⟨.agg cs'.toArray,λw=>⟨?_,hev a w⟩,?_⟩
  ·rw[hrun,run_build w t _ _ hb];rfl
  ·have hg:=gJ g1;rw[h1.1] at hg;exact hg
 ·rename_i z n e hz hu;split at hp<;>try (cases hp;done)
  rename_i i' hi';simp only[z05] at hp;obtain⟨ys,hys,rfl⟩:=hp;simp only[aW] at h;obtain⟨h1,h2⟩:=vP _ _ h;obtain⟨i,v,hi,hv,hc⟩:=xW hz;refine⟨_,h1.2,λJ a hs=> ?_⟩;obtain⟨_,cs',rfl,g1,g2⟩:=JJ (λk=>some (k*i'.size,i'.size)) _ (λk p o n hk=>by simp only[z00,z18] at hk ⊢;exact⟨hk.2.1,hk.2.2⟩) hs parts.toList ys z _ hys (hc J) h2
  have hb:P.built t (parts.map λ(i,x)=>(i,a.eval x)).toList=some cs'.toArray:=by unfold z2w;rw[hi,hu];simp only[hv,hi',hmap];simpa using g2
  refine⟨.agg cs'.toArray,λw=>⟨?_,hev a w⟩,?_⟩
  ·rw[hrun,run_build w t _ _ hb];rfl
  ·have hg:=gJ g1;rw[h1.1] at hg;exact hg
theorem kN{d:Nat}{x:Option Operand}{x':Option aV}{K:Nat->Prop}(hx:kM x=some x')(h:aW.bound σ d x' K):
  ∃ l,K l/\(x=none->l=d)/\∀ y,x=some y->∀ J a,aH J σ a->∃ k,a.eval y= .int k (l:Int):=by
 cases x with
 |none=>
  simp only[kM,z00] at hx;subst hx;exact⟨d,h,λ_=>rfl,λ_ hy=>by cases hy⟩
 |some y=>
  simp only[kM,z05] at hx;obtain⟨y',hy,rfl⟩:=hx;simp only[aW.bound] at h;split at h
  ·rename_i k j e;refine⟨j.toNat,h.2,(λhh=>by cases hh),λy2 hy2 J a hs=>⟨k,?_⟩⟩
   cases hy2;have:=fG (e▸aB hy hs);rw[this,Int.toNat_of_nonneg h.1]
  ·exact h.elim
theorem lN{sl:Bool}{len cap l h:Nat}{lo hi:Option Value}(hl:(lo=none/\l=0)\/∃ k,lo=some (.int k (l:Int)))(hh:(hi=none/\h=len)\/∃ k,hi=some (.int k (h:Int)))
  (h1:l<=h) (h2:h<=cap) (w:World):(Instr.sliceBounds sl len cap lo hi none).run P w= .ok (l,h,cap) w:=by
 have e1:∀ k c,(Instr.sliceBound (.int k (l:Int)) h c).run P w= .ok l w:=λk c=>by rw[run_sliceBound w k l h c (by omega) (by omega)];simp
 have e2:∀ k c,(Instr.sliceBound (.int k (h:Int)) cap c).run P w= .ok h w:=λk c=>by rw[run_sliceBound w k h cap c (by omega) (by omega)];simp
 rcases hl with⟨rfl,rfl⟩|⟨k,rfl⟩<;>rcases hh with⟨rfl,rfl⟩|⟨k',rfl⟩<;>simp[Instr.sliceBounds,e1,e2]
theorem abV{t n:Nat}{e:TypeId}{w:Nat}{ag:Bool}{x:Operand}{x':aV}(ho:o.op= .slice t x none none none)(hx:aP x=some x')(hu:P.underlying t=some (.array n e))(ht:rP P e=some (w,ag))(h:aW σ K (.asl n w x')):∃ sv,K sv/\dK P o σ sv:=by
 simp only[aW] at h;have hev:∀ (a:Act) w,(execOp a.eval o).events P w #[]= #[]:=by intro a w;unfold execOp;rw[ho];exact aC (yC _ _ _ _ _) (λ_ _ _ _=>aO _) w _
 split at h
 ·rename_i c p off e1;split at h
  ·rename_i n' w' f e2;obtain⟨⟨rfl,rfl,hm,hat⟩,hK⟩:=h;refine⟨_,hK,λJ a hs=> ?_⟩;obtain⟨cs,h3,h4⟩:=e1▸aB hx hs;simp only[ah] at h3;obtain⟨b,T,fz,cur,rfl,g1,g2,g3⟩:=h3;have hv:a.eval x= .pointer (some ⟨b,off,none⟩):=h4;obtain⟨k1,k2,k3⟩:=ah.get p c 0 off g3 g2 hat;rw[e2,z0h] at k2 k3;simp only[ah] at k2;obtain⟨q1,q2⟩:=k2;have hwd:wd (.arr n' w' f)=n'*w':=by simp only[wd]
   rw[hwd] at q1 q2 k3;have hb:=λw=>lN (P:=P) (sl:=false) (len:=n') (cap:=n') (l:=0) (h:=n') (lo:=none) (hi:=none) (.inl ⟨rfl,rfl⟩) (.inl ⟨rfl,rfl⟩) (z0x _) (z0e _) w;have hadd:(if n'=0 then(⟨b,off,none⟩:Addr) else(⟨b,off,none⟩:Addr).add (0*w'))=⟨b,off,none⟩:=by
    split
    ·rfl
    ·simp[Addr.add_lit]
   refine⟨.slice (some ⟨b,off,none⟩) n' n',λw=>⟨?_,hev a w⟩,?_⟩
   ·simp only[execOp,ho,z01,Instr.sliceAt,run_underlying hu,Result.andThen_ok,hv,Instr.sureAddr,z07,z0p,hb,run_sizeOf ht,hadd,z0h]
   ·refine⟨[.slice (some ⟨b,off,none⟩) n' n'],?_,rfl⟩;simp only[ah,YO];refine⟨some ⟨b,off,none⟩,n',rfl,z0e _,(by unfold maxLen;omega),(by simp),λi hi=>⟨b,off,T,fz,cur,rfl,g1,?_,?_⟩⟩
    ·have:i*w'+w'<=n'*w':=by rw[<- z1m];exact z0b _ hi
     have hl:cur.toList.length=cur.size:=z2l;omega
    ·have hg:(rng n').getD i 0=i:=afu hi;have:=q2 i hi;rw[hg];have e3:sub (sub cur.toList off (n'*w')) (i*w') w'=sub cur.toList (off+i*w') w':=by
      have:i*w'+w'<=n'*w':=by rw[<- z1m];exact z0b _ hi
      unfold sub;rw[z0t,z1y,z14]
      congr 1
      omega
     rw[e3] at this;exact this
  ·exact h.elim
 ·rename_i w0 d f l i0 p off e1;split at h
  ·rename_i n' w' g e2;obtain⟨⟨rfl,rfl,hm,rfl,rfl⟩,hK⟩:=h;refine⟨_,hK,λJ a hs=> ?_⟩;obtain⟨cs,h3,h4⟩:=e1▸aB hx hs;simp only[ah] at h3;obtain⟨b,off,T,fz,cur,rfl,_,g1,_,g2,g3⟩:=h3;rw[e2] at g3;simp only[ah] at g3;obtain⟨q1,q2⟩:=g3;obtain⟨A,hA⟩:∃ A,A=off+i0*w0:=⟨_,rfl⟩;rw[<- hA] at q1 q2 g2;have hl:cur.toList.length=cur.size:=z2l;have hw0:w0=n'*w':=by rw[<- q1];unfold sub;rw[List.length_take,List.length_drop];omega
   have hv:a.eval x= .pointer (some ⟨b,A,none⟩):=by rw[h4,hA,z1p];rfl
   have hb:=λw=>lN (P:=P) (sl:=false) (len:=n') (cap:=n') (l:=0) (h:=n') (lo:=none) (hi:=none) (.inl ⟨rfl,rfl⟩) (.inl ⟨rfl,rfl⟩) (z0x _) (z0e _) w;have hadd:(if n'=0 then(⟨b,A,none⟩:Addr) else(⟨b,A,none⟩:Addr).add (0*w'))=⟨b,A,none⟩:=by
    split
    ·rfl
    ·simp[Addr.add_lit]
   refine⟨.slice (some ⟨b,A,none⟩) n' n',λw=>⟨?_,hev a w⟩,?_⟩
   ·simp only[execOp,ho,z01,Instr.sliceAt,run_underlying hu,Result.andThen_ok,hv,Instr.sureAddr,z07,z0p,hb,run_sizeOf ht,hadd,z0h]
   ·refine⟨[.slice (some ⟨b,A,none⟩) n' n'],?_,rfl⟩;simp only[ah,YO];refine⟨some ⟨b,A,none⟩,n',rfl,z0e _,(by unfold maxLen;omega),(by simp),λi hi=>⟨b,A,T,fz,cur,rfl,g1,?_,?_⟩⟩
    ·have:i*w'+w'<=n'*w':=by rw[<- z1m];exact z0b _ hi
     omega
    ·have hg:(rng n').getD i 0=i:=afu hi;have:=q2 i hi;rw[hg];have e3:sub (sub cur.toList A w0) (i*w') w'=sub cur.toList (A+i*w') w':=by
      have:i*w'+w'<=n'*w':=by rw[<- z1m];exact z0b _ hi
      unfold sub;rw[z0t,z1y,z14]
      congr 1
      omega
     rw[e3] at this;exact this
  ·exact h.elim
 ·exact h.elim
theorem TM{t:TypeId}{x:Operand}{lo hi mx:Option Operand}{p:vT}(ho:o.op= .slice t x lo hi mx)(hp:eF P o.op=some p)(h:aW σ K p):∃ sv,K sv/\dK P o σ sv:=by
 rw[ho] at hp;have hev:∀ (a:Act) w,(execOp a.eval o).events P w #[]= #[]:=by intro a w;unfold execOp;rw[ho];exact aC (yC _ _ _ _ _) (λ_ _ _ _=>aO _) w _
 simp only[eF,bind,z06] at hp;obtain⟨x',hx,hp⟩:=bind_some hp;obtain⟨lo',hlo,hp⟩:=bind_some hp;obtain⟨hi',hhi,hp⟩:=bind_some hp;obtain⟨mx',hmx,hp⟩:=bind_some hp;have hrun:∀ (a:Act) w,(∀ n e,P.underlying t≠some (.array n e))->(execOp a.eval o).run P w=((Instr.slice t (a.eval x) (lo.map a.eval) (hi.map a.eval) (mx.map a.eval)).run P w).andThen λv w=> .ok (.value v) w:=by
  intro a w hna;simp only[execOp,ho,z01,Instr.sliceAt];cases hu:P.underlying t with
  |none=>simp[Instr.slice,underlying,hu]
  |some d=>
   simp only[run_underlying hu,Result.andThen_ok];cases d<;>first
    |rfl
    |exact absurd hu (hna _ _)
 split at hp<;>try (cases hp;done)
 ·rename_i hu;split at hp<;>try (cases hp;done)
  simp only[z00] at hp;subst hp;have aoT:mx=none:=by cases mx<;>simp[kM] at hmx<;>rfl
  subst aoT;simp only[aW] at h;split at h
  ·rename_i s e1;obtain⟨l,h,hl1,hl2⟩:=kN hlo h;obtain⟨hh,⟨⟨h1,h2⟩,hK⟩,hh1,hh2⟩:=kN hhi h;refine⟨_,hK,λJ a hs=>⟨_,λw=>⟨?_,hev a w⟩,aft⟩⟩;have s1:=vH (e1▸aB hx hs);have hb:=lN (P:=P) (sl:=false) (len:=s.length) (cap:=s.length) (l:=l) (h:=hh) (lo:=lo.map a.eval) (hi:=hi.map a.eval)
    (by cases lo with
     |none=>exact .inl ⟨rfl,hl1 rfl⟩
     |some y=>obtain⟨k,hk⟩:=hl2 y rfl J a hs;exact .inr ⟨k,by simp[hk]⟩)
    (by cases hi with
     |none=>exact .inl ⟨rfl,hh1 rfl⟩
     |some y=>obtain⟨k,hk⟩:=hh2 y rfl J a hs;exact .inr ⟨k,by simp[hk]⟩) h1 h2 w
   rw[hrun a w (λn e he=>by rw[hu] at he;cases he)]
   have hsz:(⟨s.toArray⟩:ByteArray).size=s.length:=by simp[z1b]
   simp only[Instr.slice,z01,run_underlying hu,Result.andThen_ok,s1,hsz,z0p,Option.isSome_none,z0a,if_false,hb,z07]
   congr 2
   congr 1
   apply z2s;apply z0w;simp[ByteArray.data_extract,z1z,z0t]
  ·exact h.elim
 ·rename_i e hu;split at hp<;>try (cases hp;done)
  rename_i n ag ht;simp only[z00] at hp;subst hp;cases mx with
  |some ym=>
   simp only[kM,z05] at hmx;obtain⟨y',hy',rfl⟩:=hmx;simp only[aW] at h;split at h
   ·rename_i e0 _;cases e0
   ·rename_i c τ w' d f l0 e0 e1;cases e0;obtain⟨⟨rfl,hsome⟩,h⟩:=h;obtain⟨l,h,hl1,hl2⟩:=kN hlo h;obtain⟨hh,h,hh1,hh2⟩:=kN hhi h;obtain⟨mm,⟨⟨h1,h2,h2'⟩,hK⟩,_,hm2⟩:=kN (x:=some ym) (x':=some y') (by simp[kM,hy']) h
    subst h2;cases hi with
    |none=>simp only[kM,z00] at hhi;subst hhi;cases hsome
    |some yh=>
    refine⟨_,hK,λJ a hs=> ?_⟩;obtain⟨cs,h3,h4⟩:=e1▸aB hx hs;simp only[ah] at h3;obtain⟨ao,cap,rfl,h5,h6,h7,h8⟩:=h3;have hv:a.eval x= .slice ao l0.length cap:=h4;obtain⟨km,hkm⟩:=hm2 ym rfl J a hs;obtain⟨kh,hkh⟩:=hh2 yh rfl J a hs;have hb:∀ w,(Instr.sliceBounds true l0.length cap (lo.map a.eval) (some (.int kh (hh:Int))) (some (.int km (hh:Int)))).run P w= .ok (l,hh,hh) w:=by
     intro w;have e1:∀ c,(Instr.sliceBound (.int km (hh:Int)) cap c).run P w= .ok hh w:=λc=>by rw[run_sliceBound w km hh cap c (by omega) (by omega)];simp
     have e2:∀ c,(Instr.sliceBound (.int kh (hh:Int)) hh c).run P w= .ok hh w:=λc=>by rw[run_sliceBound w kh hh hh c (by omega) (by omega)];simp
     cases lo with
     |none=>
      have:=hl1 rfl;subst this;simp[Instr.sliceBounds,e1,e2]
     |some yl=>
      obtain⟨k,hk⟩:=hl2 yl rfl J a hs;have e3:∀ c,(Instr.sliceBound (.int k (l:Int)) hh c).run P w= .ok l w:=λc=>by rw[run_sliceBound w k l hh c (by omega) (by omega)];simp
      simp[Instr.sliceBounds,e1,e2,e3,hk]
    refine⟨.slice (if hh=l then ao else ao.map (·.add (l*w'))) (hh - l) (hh - l),λw=>⟨?_,hev a w⟩,?_⟩
    ·rw[hrun a w (λn e he=>by rw[hu] at he;cases he)]
     simp only[Instr.slice,z01,run_underlying hu,Result.andThen_ok,hv,z2t,hkm,hkh,hb,run_sizeOf ht,z07]
    ·have hlen:((l0.take hh).drop l).length=hh - l:=by simp;omega
     refine⟨[.slice (if hh=l then ao else ao.map (·.add (l*w'))) (hh - l) (hh - l)],?_,rfl⟩
     simp only[ah];refine⟨if hh=l then ao else ao.map (·.add (l*w')),by rw[hlen],by rw[hlen];omega,λhn=> ?_,λi hi'=> ?_⟩
     ·rw[hlen];split at hn
      ·omega
      ·rw[z2a] at hn;have:=h7 hn;omega
     ·rw[hlen] at hi';obtain⟨b,off,T,fz,cur,rfl,g2,g3,g4⟩:=h8 (l+i) (by omega)
      refine⟨b,off+l*w',T,fz,cur,?_,g2,?_,?_⟩
      ·rw[if_neg (by omega)];simp[Addr.add_lit]
      ·rw[show off+l*w'+i*w'=off+(l+i)*w' by rw[z0y];omega];exact g3
      ·rw[show off+l*w'+i*w'=off+(l+i)*w' by rw[z0y];omega]
       have:((l0.take hh).drop l).getD i d=l0.getD (l+i) d:=by simp only[z0n,z0q];rw[z2d (by omega)]
       rw[this];exact g4
   ·rename_i e0 _;cases e0
   ·exact h.elim
  |none=>
  have aoT:mx'=none:=by simp only[kM,z00] at hmx;exact hmx.symm
  subst aoT;simp only[aW] at h;split at h
  ·rename_i τ w' d f l0 _ e1;obtain⟨rfl,h⟩:=h;obtain⟨l,h,hl1,hl2⟩:=kN hlo h;obtain⟨hh,⟨⟨h1,h2⟩,hK⟩,hh1,hh2⟩:=kN hhi h;refine⟨_,hK,λJ a hs=> ?_⟩;obtain⟨cs,h3,h4⟩:=e1▸aB hx hs;simp only[ah] at h3;obtain⟨ao,cap,rfl,h5,h6,h7,h8⟩:=h3;have hv:a.eval x= .slice ao l0.length cap:=h4;have hb:=λw=>lN (P:=P) (sl:=true) (len:=l0.length) (cap:=cap) (l:=l) (h:=hh) (lo:=lo.map a.eval) (hi:=hi.map a.eval)
    (by cases lo with
     |none=>exact .inl ⟨rfl,hl1 rfl⟩
     |some y=>obtain⟨k,hk⟩:=hl2 y rfl J a hs;exact .inr ⟨k,by simp[hk]⟩)
    (by cases hi with
     |none=>exact .inl ⟨rfl,hh1 rfl⟩
     |some y=>obtain⟨k,hk⟩:=hh2 y rfl J a hs;exact .inr ⟨k,by simp[hk]⟩) h1 (z0k h2 h5) w
   refine⟨.slice (if cap=l then ao else ao.map (·.add (l*w'))) (hh - l) (cap - l),λw=>⟨?_,hev a w⟩,?_⟩
   ·rw[hrun a w (λn e he=>by rw[hu] at he;cases he)]
    simp only[Instr.slice,z01,run_underlying hu,Result.andThen_ok,hv,z0p,hb,run_sizeOf ht,z07]
   ·refine⟨[.slice (if cap=l then ao else ao.map (·.add (l*w'))) (hh - l) (cap - l)],?_,rfl⟩
    simp only[ah];have hlen:((l0.take hh).drop l).length=hh - l:=by simp;omega
    refine⟨if cap=l then ao else ao.map (·.add (l*w')),cap - l,by rw[hlen],by rw[hlen];omega,by omega,λhn=> ?_,λi hi'=> ?_⟩
    ·split at hn
     ·omega
     ·rw[z2a] at hn;have:=h7 hn;omega
    ·rw[hlen] at hi';obtain⟨b,off,T,fz,cur,rfl,g2,g3,g4⟩:=h8 (l+i) (by omega)
     refine⟨b,off+l*w',T,fz,cur,?_,g2,?_,?_⟩
     ·rw[if_neg (by omega)];simp[Addr.add_lit]
     ·rw[show off+l*w'+i*w'=off+(l+i)*w' by rw[z0y];omega];exact g3
     ·rw[show off+l*w'+i*w'=off+(l+i)*w' by rw[z0y];omega]
      have:((l0.take hh).drop l).getD i d=l0.getD (l+i) d:=by simp only[z0n,z0q];rw[z2d (by omega)]
      rw[this];exact g4
  ·rename_i e0 _;cases e0
  ·rename_i i n0 _ e1;obtain⟨l,h,hl1,hl2⟩:=kN hlo h;obtain⟨hh,⟨⟨h1,h2⟩,hK⟩,hh1,hh2⟩:=kN hhi h;rcases z1k l with h1'|hpos
   case inr=>
    obtain⟨h3,rfl,rfl⟩:=h1.resolve_left (by omega)
    rw[if_neg (by omega)] at hK
    refine⟨_,hK,λJ a hs=> ?_⟩;obtain⟨hi3,hi4,hi5⟩:=kF (e1▸aB hx hs);obtain⟨b,cap,hvv,hnc⟩:=hi4.resolve_left (by omega)
    have hv:a.eval x= .slice (some ⟨b,0,none⟩) hh cap:=by rw[hi5,hvv]
    have hb:=λw=>lN (P:=P) (sl:=true) (len:=hh) (cap:=cap) (l:=l) (h:=hh) (lo:=lo.map a.eval) (hi:=hi.map a.eval)
     (by cases lo with
      |none=>exact .inl ⟨rfl,hl1 rfl⟩
      |some y=>obtain⟨k,hk⟩:=hl2 y rfl J a hs;exact .inr ⟨k,by simp[hk]⟩)
     (by cases hi with
      |none=>exact .inl ⟨rfl,rfl⟩
      |some y=>obtain⟨k,hk⟩:=hh2 y rfl J a hs;exact .inr ⟨k,by simp[hk]⟩) (by omega) hnc w
    refine⟨.slice (some ⟨b,l,none⟩) (hh - l) (cap - l),λw=>⟨?_,hev a w⟩,?_⟩
    ·rw[hrun a w (λn e he=>by rw[hu] at he;cases he)]
     have hne:¬ cap=l:=by omega
     simp only[Instr.slice,z01,run_underlying hu,Result.andThen_ok,hv,z0p,hb,run_sizeOf ht,z07,if_neg hne,z2t,Addr.add_lit,Nat.mul_one,z0j]
    ·exact⟨[.slice (some ⟨b,l,none⟩) (hh - l) (cap - l)],by simp only[ah];exact⟨hi3,b,cap,by rw[hvv];congr 1;omega,by omega,rfl⟩,rfl⟩
   subst h1';clear h1;rw[if_pos rfl] at hK;refine⟨_,hK,λJ a hs=> ?_⟩;obtain⟨hi3,hi4,hi5⟩:=kF (e1▸aB hx hs);obtain⟨ao,cap,hvv,hnc,hao⟩:∃ ao cap,J.vv i= .slice ao n0 cap/\n0<=cap/\ao.map (·.add (0*n))=ao:=by
    rcases hi4 with⟨q1,q2⟩|⟨b,cap,q,q2⟩
    ·exact⟨none,0,by rw[q1,q2],by omega,rfl⟩
    ·exact⟨_,_,q,q2,by simp[Addr.add_lit]⟩
   have hv:a.eval x= .slice ao n0 cap:=by rw[hi5,hvv]
   have hb:=λw=>lN (P:=P) (sl:=true) (len:=n0) (cap:=cap) (l:=0) (h:=hh) (lo:=lo.map a.eval) (hi:=hi.map a.eval)
    (by cases lo with
     |none=>exact .inl ⟨rfl,hl1 rfl⟩
     |some y=>obtain⟨k,hk⟩:=hl2 y rfl J a hs;exact .inr ⟨k,by simp[hk]⟩)
    (by cases hi with
     |none=>exact .inl ⟨rfl,hh1 rfl⟩
     |some y=>obtain⟨k,hk⟩:=hh2 y rfl J a hs;exact .inr ⟨k,by simp[hk]⟩) (z0x _) (z0k h2 hnc) w
   have hadd:(if cap=0 then ao else ao.map (·.add (0*n)))=ao:=by
    split
    ·rfl
    ·exact hao
   refine⟨.slice ao hh cap,λw=>⟨?_,hev a w⟩,?_⟩
   ·rw[hrun a w (λn e he=>by rw[hu] at he;cases he)]
    simp only[Instr.slice,z01,run_underlying hu,Result.andThen_ok,hv,z0p,hb,run_sizeOf ht,z07,z0h,hadd]
   ·exact⟨[.slice ao hh cap],by simp only[ah];exact⟨hi3,ao,n0,cap,hvv,h2,rfl⟩,rfl⟩
  ·exact h.elim
 ·rename_i n e hu;split at hp<;>try (cases hp;done)
  split at hp<;>try (cases hp;done)
  rename_i w ag ht;simp only[z00] at hp;subst hp;have l0:lo=none:=by cases lo<;>simp[kM] at hlo<;>rfl
  have h0:hi=none:=by cases hi<;>simp[kM] at hhi<;>rfl
  have m0:mx=none:=by cases mx<;>simp[kM] at hmx<;>rfl
  subst l0;subst h0;subst m0;exact abV ho hx hu ht h
theorem Ii{p:vT}(hp:eF P o.op=some p)(h:aW σ K p):∃ sv,K sv/\dK P o σ sv:=by
 cases ho:o.op with
 |move x=>
  rw[ho] at hp;simp only[eF,z05] at hp;obtain⟨y,hy,rfl⟩:=hp;exact TD (.inl ho) hy h
 |assign x=>
  rw[ho] at hp;simp only[eF,z05] at hp;obtain⟨y,hy,rfl⟩:=hp;exact TD (.inr ho) hy h
 |pick c x y=>
  rw[ho] at hp;simp only[eF,bind,z06] at hp;obtain⟨c',hc,hp⟩:=bind_some hp;obtain⟨x',hx,hp⟩:=bind_some hp;obtain⟨y',hy,hp⟩:=bind_some hp;simp only[z00] at hp;subst hp;exact XK ho hc hx hy h
 |binOp op t x y yt=>exact abL ho hp h
 |unOp op t x=>exact agT ho hp h
 |convert s d x=>exact XO ho hp h
 |fieldAddr s x k=>exact agU ho hp h
 |field s x k=>exact abM ho hp h
 |indexAddr t x i=>exact agV ho hp h
 |index t x i=>exact agW ho hp h
 |extract x k=>exact abN ho hp h
 |makeFunc f a b=>exact XP ho hp h
 |nilCheck x=>exact abO ho hp h
 |makeInterface t x=>exact XQ ho hp h
 |typeAssert x xt t ok=>exact abP ho hp h
 |call c=>exact akC ho hp h
 |build t parts=>exact abU ho hp h
 |slice t x lo hi mx=>exact TM ho hp h
 |_=>rw[ho] at hp;simp only[eF] at hp;cases hp
end Go.Sx
namespace Go.Sx
open Go
variable {P:Program}
def Loc.bk:Loc->Option Nat
 | .cell a=>some a.block
 | .obj r=>some r
 |_=>none
def Mk(e:Event):Prop:= ∃ m,e=⟨.mark m,false,true⟩/\Conc.Neutral m
def LsE(R W:Nat->Prop)(e:Event):Prop:=(e.sync=false/\∃ b,Loc.bk e.loc=some b/\(W b\/(R b/\e.write=false)))\/Mk e
def Ls(R W:Nat->Prop)(es:Array Event):Prop:= ∀ e∈es,LsE R W e
theorem Ls.nil(R W:Nat->Prop):Ls R W #[]:=λe h=>by simp at h
theorem Ls.push{R W:Nat->Prop}{es:Array Event}(h:Ls R W es){e:Event}(h1:e.sync=false){b:Nat}(h2:Loc.bk e.loc=some b)(h3:W b\/(R b/\e.write=false)):Ls R W (es.push e):=λe' he=>by
 rcases Array.mem_push.1 he with h'|rfl
 ·exact h e' h'
 ·exact .inl ⟨h1,b,h2,h3⟩
theorem Ls.mk{R W:Nat->Prop}{es es':Array Event}(h:Ls R W es)(hh:∀ e∈es',e∈es\/Mk e):Ls R W es':=λe he=>(hh e he).elim (h e) .inr
section ls
variable {R W:Nat->Prop}
theorem YA{w:World}{es:Array Event}(h:Ls R W es){a:Addr}{u:Value}(hc:w.cell? a=some u)(hb:W a.block\/R a.block):Ls R W ((load a).events P w es):=by
 have e:(load a).events P w es=es.push ⟨.cell a,false,false⟩:=by simp[hc];rfl
 rw[e];exact h.push rfl rfl (hb.imp id λx=>⟨x,rfl⟩)
theorem vk{w:World}{a:Addr}(hb:W a.block\/R a.block):∀ (n i:Nat) (acc:Array Value) (es:Array Event),Ls R W es->(∀ j,j<n->(w.cell? (a.add (i+j))).isSome)->Ls R W ((loadCellsFrom a i n acc).events P w es)
 |0,_,_,es,h,_=>by simpa[loadCellsFrom] using h
 |n+1,i,acc,es,h,hc=>by
  obtain⟨u,hu⟩:=Option.isSome_iff_exists.1 (hc 0 (by omega))
  rw[z1p] at hu;have hr:(load (a.add i)).run P w= .ok u w:=by simp[hu]
  simp only[loadCellsFrom,z09,hr,Result.evThen_ok];refine vk hb n (i+1) _ _ (YA h hu ?_) (λj hj=>by have:=hc (j+1) (by omega);rwa [show i+(j+1)=i+1+j by omega] at this)
  unfold Addr.add;split<;>exact hb
theorem Ir{t:TypeId}{n:Nat}{ag:Bool}(ht:rP P t=some (n,ag))(h1:ag=false->n=1)(w:World){b off:Nat}{cur:Array Value}{T:TypeId}{fz:Nat×Nat}
  (hb:w.heap[b]? =some (.cells cur T fz)) (hl:off+n<=cur.size) {es:Array Event} (h:Ls R W es) (hw:W b\/R b):Ls R W ((loadVar t ⟨b,off,none⟩).events P w es):=by
 have hcell:∀ j,j<cur.size->w.cell? ⟨b,j,none⟩=some (cur.getD j undef):=by intro j hj;simp[z2h,hb,z1x,hj]
 simp only[loadVar,z09,events_isAgg,Dn ht,Result.evThen_ok];cases ag with
 |true=>
  simp only[if_true,z09,events_sizeOf,run_sizeOf ht,Result.evThen_ok];have hls:Ls R W ((loadCells ⟨b,off,none⟩ n).events P w es):=vk (a:=⟨b,off,none⟩) hw n 0 #[] es h (λj hj=>by rw[z0j,Addr.add_lit,hcell _ (by omega)];rfl)
  rw[run_loadCells (P:=P) w ⟨b,off,none⟩ n (λj=>cur.getD (off+j) undef) (λj hj=>by rw[Addr.add_lit];exact hcell _ (by omega))]
  exact hls
 |false=>
  have:=h1 rfl;subst this;simp only[z0a,if_false];exact YA h (hcell off (by omega)) hw
theorem lS{g o:Nat}{t:TypeId}(hg:W g):∀ (vs:List Value) (i:Nat) (cur:Array Value) (w:World) (es:Array Event),w.heap[g]? =some (.cells cur t (0,0))->o+i+vs.length<=cur.size->(∀ v∈vs,v.oneCell'=true)->
  Ls R W es->Ls R W ((storeCells ⟨g,o,none⟩ vs i).events P w es)
 |[],_,_,_,_,_,_,_,h=>by simpa[storeCells] using h
 |v::rest,i,cur,w,es,hb,hl,h1,h=>by
  have hi:o+i<cur.size:=by simp at hl;omega
  have hadd:(⟨g,o,none⟩:Addr).add i=⟨g,o+i,none⟩:=Addr.add_lit ..;have hcell:w.cell? ⟨g,o+i,none⟩=some cur[o+i]:=by simp[z2h,hb,hi]
  have hfro:w.frozen? ⟨g,o+i,none⟩=false:=by simp[World.frozen?,hb]
  have hst:(store ((⟨g,o,none⟩:Addr).add i) v).run P w= .ok () (w.setRow g (cur.setIfInBounds (o+i) v)):=by
   rw[hadd,run_store P w _ v _ (h1 v (by simp)),hcell]
   simp[hfro,setCell_eq_setRow w g (o+i) cur t (0,0) v hb]
  have hev:(store ((⟨g,o,none⟩:Addr).add i) v).events P w es=es.push ⟨.cell ⟨g,o+i,none⟩,true,false⟩:=by
   rw[hadd,events_store P w es _ v _ (h1 v (by simp)),hcell]
   simp[hfro];rfl
  simp only[storeCells,z09,hst,Result.evThen_ok,hev];exact lS hg rest (i+1) _ _ _ (setRow_heap w g _ _ t _ hb) (by simp at hl ⊢;omega) (λu hu=>h1 u (by simp[hu])) (h.push rfl rfl (.inl hg))
theorem Rz{t:TypeId}{n:Nat}{ag:Bool}(ht:rP P t=some (n,ag))(w:World){b off:Nat}{cur:List Value}{T:TypeId}{v:Value}{xs:List Value}
  (hb:w.heap[b]? =some (.cells cur.toArray T (0,0))) (hv:v.cells=xs.toArray) (hn:xs.length=n) (hl:off+n<=cur.length) (h1:∀ u∈xs,u.oneCell'=true) {es:Array Event} (h:Ls R W es) (hg:W b):
  Ls R W ((storeVar t ⟨b,off,none⟩ v).events P w es):=by
 simp only[storeVar,z09,events_sizeOf,run_sizeOf ht,Result.evThen_ok,hv];rw[if_neg (by simp;omega)]
 exact lS hg xs 0 cur.toArray w es hb (by simp;omega) h1 h
end ls
theorem Ep{t:TypeId}{n:Nat}{ag:Bool}(ht:rP P t=some (n,ag))(h1:ag=false->n=1)(w:World){b off:Nat}{cur:Array Value}{T:TypeId}{fz:Nat×Nat}
  (hb:w.heap[b]? =some (.cells cur T fz)) (hl:off+n<=cur.size):(loadVar t ⟨b,off,none⟩).run P w= .ok (boxed ag (sub cur.toList off n)) w:=by
 have hcell:∀ j,j<cur.size->w.cell? ⟨b,j,none⟩=some (cur.getD j undef):=by intro j hj;simp[z2h,hb,z1x,hj]
 simp only[loadVar,z01,Dn ht,Result.andThen_ok];cases ag with
 |true=>
  simp only[if_true,z01,run_sizeOf ht,Result.andThen_ok];rw[run_loadCells (P:=P) w ⟨b,off,none⟩ n (λj=>cur.getD (off+j) undef) (λj hj=>by rw[Addr.add_lit];exact hcell _ (by omega))]
  simp only[Result.andThen_ok,z07,boxed,if_true]
  congr 3
  apply z0l;intro j;rw[iM];by_cases hj:j<n
  ·rw[if_pos hj];have:off+j<cur.size:=by omega
   simp[hj,z1x,this]
  ·rw[if_neg hj];simp[hj]
 |false=>
  have:=h1 rfl;subst this;have hlt:off<cur.size:=by omega
  simp only[z0a,if_false,run_load,hcell off hlt,boxed]
  congr 1
  simp[sub,z2c,z2z,z3a,z1x,hlt]
theorem N7{t:TypeId}{n:Nat}{ag:Bool}(ht:rP P t=some (n,ag))(w:World){b off:Nat}{cur:List Value}{T:TypeId}{v:Value}{xs:List Value}
  (hb:w.heap[b]? =some (.cells cur.toArray T (0,0))) (hv:v.cells=xs.toArray) (hn:xs.length=n) (hl:off+n<=cur.length) (h1:∀ u∈xs,u.oneCell'=true):
  (storeVar t ⟨b,off,none⟩ v).run P w= .ok () (w.setRow b (splice cur off xs).toArray):=by
 have hst:=run_storeCells_at P b off T xs 0 cur.toArray w hb (by simp;omega) h1
 simp only[z1p] at hst;simp only[storeVar,z01,run_sizeOf ht,Result.andThen_ok,hv];rw[if_neg (by simp;omega)]
 rw[hst];rfl
def Qk:List (TypeId×FuncId)->TypeId->Option FuncId
 |[],_=>none
 |(u,f)::r,t=>if u=t then some f else Qk r t
inductive EIO:Type 1 where
 |alloc (T:TypeId) (z:SV)
 |box (T:TypeId) (x:aV)
 |load (n:Nat) (ag:Bool) (x:aV)
 |store (n:Nat) (x v:aV)
 |Ia (E:TypeId) (w len:Nat) (z:SV) (parts:List (Nat×aV))
 |mks (E:TypeId) (w bytes:Nat) (z:SV) (len cap:aV)
 |app (E:TypeId) (w bytes:Nat) (s x:aV)
 |call (f:FuncId) (args:List aV)
 |nD (f:FuncId) (args:List aV)
 |ET (l:List Int)
 |Dj (E:TypeId) (w len:Nat) (z:SV) (parts:List (Nat×aV))
 |again (n:Nat) (ag:Bool) (x:aV) (d:Nat)
 |sW (k:MK) (args:List aV) (d:Nat)
 |fO (x:aV) (args:List aV)
 |Ed (tab:List (TypeId×FuncId)) (x:aV) (args:List aV)
 |L9 (k:MK) (args:List aV)
def SV.isSet:SV->Bool
 | .junk=>false
 |_=>true
abbrev Hook:=FuncId->List SV->List ay->(SV->List ay->Prop)->Prop
def peek(m:List ay)(n:Nat)(ag:Bool)(K:SV->Prop):SV->Prop
 | .ptr i p o=>match ak m i with
  | .blk _ c=>(gI c p 0 o/\wd (dG c p)=n/\(dG c p).isAgg=ag)/\K (dG c p)
  |_=>False
 | .jX _ d f l i p o=>(gI (f (l.getD i d)) p 0 o/\wd (dG (f (l.getD i d)) p)=n/\(dG (f (l.getD i d)) p).isAgg=ag)/\K (dG (f (l.getD i d)) p)
 | .iR i j p o=>match ak m i with
  | .vec _ w l=>(j<l.length/\gI (l.getD j .junk) p (j*w) o/\wd (dG (l.getD j .junk) p)=n/\(dG (l.getD j .junk) p).isAgg=ag)/\K (dG (l.getD j .junk) p)
  |_=>False
 | .ref c p o=>(gI c p 0 o/\wd (dG c p)=n/\(dG c p).isAgg=ag)/\K (dG c p)
 |_=>False
def FY(m:List ay)(w:Nat):SV->Option (List SV)
 | .vec j _=>match ak m j with
  | .vec _ w' l=>if w'=w then some l else none
  |_=>none
 | .lst w' _ f l=>if w'=w then some (l.map f) else none
 | .lit w' _ f l=>if w'=w then some (l.map f) else none
 | .dO=>some []
 |_=>none
def Vd(w len:Nat)(l:List SV):SV:=if len=1 then .lit w (0:Nat) (λi=>l.getD i .junk) (z0m len) else .lst w (0:Nat) (λi=>l.getD i .junk) (z0m len)
theorem Fp{τ:Type}{w:Nat}{d:τ}{f:τ->SV}{l:List τ}{J:Env}{v:Value}(h:bK J (.lit w d f l) v):bK J (.lst w d f l) v/\∃ ao,v= .slice ao l.length l.length/\(ao=none->l.length=0):=by obtain⟨cs,h1,h2⟩:=h;simp only[ah] at h1;obtain⟨ao,rfl,k1,k2,k3⟩:=h1;have hv:v= .slice ao l.length l.length:=h2;exact⟨⟨_,by simp only[ah];exact⟨ao,l.length,rfl,z0e _,k1,k2,k3⟩,h2⟩,ao,hv,k2⟩
theorem aeV{J:Env}{w len:Nat}{l:List SV}{v:Value}(h:bK J (.lit w (0:Nat) (λi=>l.getD i .junk) (z0m len)) v):bK J (Vd w len l) v:=by
 unfold Vd;split
 ·exact h
 ·exact(Fp h).1
def pR(m:List ay)(k:MK)(xs:List SV)(K:SV->List ay->Prop):Prop:=match k with
 | .make ek ev=>match xs with
  |[]=>K (.map m.length) (m++[.mp ek ev []])
  |[.int _ _]=>K (.map m.length) (m++[.mp ek ev []])
  |_=>False
 | .put ek ev=>match xs with
  |[.map i,key,v]=>match ak m i with
   | .mp ek' ev' l=>(ek'=ek/\ev'=ev/\fA ek key/\evP ev v)/\K .junk (m.set i (.mp ek ev (zi ek key v l)))
   |_=>False
  |_=>False
 | .get ek ev z ok=>match xs with
  |[.map i,key]=>match ak m i with
   | .mp ek' ev' l=>(ek'=ek/\ev'=ev/\fA ek key)/\K (if ok then .cu [vU ev z (gQ ek key l), .bool (gQ ek key l).isSome] else vU ev z (gQ ek key l)) m
   |_=>False
  |_=>False
 | .clr z=>match xs with
  |[.kC i a n]=>match ak m i with
   | .vec E w l=>(w=1/\l.length=a+n/\0<n)/\K .junk (m.set i (.vec E 1 (l.take a++z0d n z)))
   |_=>False
  |_=>False
def F5(m:List ay)(n:Nat)(v:SV)(K:List ay->Prop):SV->Prop
 | .ptr i p o=>match ak m i with
  | .blk T c=>(gI c p 0 o/\wd (dG c p)=n/\wd v=n/\v.isVal=true)/\K (m.set i (.blk T (rG c p v)))
  |_=>False
 | .iR i j p o=>match ak m i with
  | .vec T w l=>(j<l.length/\gI (l.getD j .junk) p (j*w) o/\wd (dG (l.getD j .junk) p)=n/\wd v=n/\v.isVal=true)/\K (m.set i (.vec T w (l.set j (rG (l.getD j .junk) p v))))
  |_=>False
 |_=>False
theorem Env.Eb(J:Env):J.cl.Le J:=
 {n:=z0x _,blk:=λ_ hi=>absurd hi (z08 _),vv:=λ_ hi=>absurd hi (z08 _),H:=λ_ _ h=>h}
theorem lT{c:SV}{n:Nat}{ag:Bool}(h1:wd c=n)(h2:c.isAgg=ag):ag=false->n=1:=by intro h;subst h2;rw[<- h1];exact yK h
theorem YB{m:List ay}{n:Nat}{ag:Bool}{K:SV->Prop}{x:SV}(h:peek m n ag K x):
  ∃ c,K c/\c.isAgg=ag/\(ag=false->n=1)/\∀ J w v,Good J m w->bK J x v->
   ∃ b off cur T fz,v= .pointer (some ⟨b,off,none⟩)/\w.heap[b]? =some (.cells cur T fz)/\off+n<=cur.size/\ah c J (sub cur.toList off n)/\((∃ i,aS J i (ak m i)=some b)\/∃ o,J.H b=some o):=by
 unfold peek at h;split at h
 ·rename_i i p o;split at h
  ·rename_i T c hm;obtain⟨⟨h1,h2,h3⟩,hK⟩:=h;refine⟨_,hK,h3,lT h2 h3,λJ w v hg hx=> ?_⟩;obtain⟨hi,hp,rfl⟩:=yL hx;obtain⟨cs,hb,hc⟩:fH J i w (.blk T c):=hm▸hg.res i;obtain⟨g1,g2,g3⟩:=ah.get p c 0 o hc hp h1;rw[z0h,h2] at g2 g3;exact⟨_,o,_,T,_,rfl,hb,by simpa using g3,by simpa using g2, .inl ⟨i,by rw[hm];rfl⟩⟩
  ·exact h.elim
 ·rename_i τ w' d f l i p o;obtain⟨⟨h1,h2,h3⟩,hK⟩:=h;refine⟨_,hK,h3,lT h2 h3,λJ w v hg hx=> ?_⟩;obtain⟨cs,h4,h5⟩:=hx;simp only[ah] at h4;obtain⟨b,off,T,fz,cur,rfl,g1,g2,g3,g4,g5⟩:=h4;obtain⟨i1,i2,i3⟩:=ah.get p _ 0 o g5 g3 h1;rw[z0h,h2] at i2 i3;have hsl:(sub cur.toList (off+i*w') w').length=w':=gW (by simpa using g4)
  rw[hsl] at i3;rw[sub_sub i3] at i2;refine⟨b,off+i*w'+o,cur,T,fz,h5,hg.hv b _ g2,?_,i2.mono _ (Env.Eb J), .inr ⟨_,g2⟩⟩;omega
 ·rename_i i j p o;split at h
  ·rename_i T w' l hm;obtain⟨⟨hj,h1,h2,h3⟩,hK⟩:=h;refine⟨_,hK,h3,lT h2 h3,λJ w v hg hx=> ?_⟩;obtain⟨hi,hp,b,cap,n',e1,e2,rfl⟩:=xE hx;obtain⟨xs,hown,hel⟩:fH J i w (.vec T w' l):=hm▸hg.res i;rw[e1] at hown;obtain⟨T0,hT0,ol,ho⟩:=hown;rcases ho with⟨ho,_⟩|⟨g,cap',cur,ho,_,hh,hle,_,hsz,htk⟩
   ·cases ho
   ·simp only[z2q,z00,Addr.mk.injEq] at ho;obtain⟨⟨rfl,_,_⟩,rfl,rfl⟩:=ho;have hs:=hel j hj;have hjl:=bF (w:=w') hj;obtain⟨i1,i2,i3⟩:=ah.get p _ (j*w') o hs hp h1;rw[h2] at i2 i3;have hlen:(sub xs (j*w') w').length=w':=gW (by omega)
    rw[hlen] at i3;rw[sub_sub i3,show j*w'+(o - j*w')=o by omega] at i2
    have hle':l.length*w'<=cap*w':=z0b _ hle;refine⟨b,o,cur,T0,_,rfl,hh,by omega,?_, .inl ⟨i,by rw[hm];simp[aS,e1,z0r]⟩⟩
    have:sub cur.toList o n=sub xs o n:=by rw[<- htk];simp only[sub,z0t,z14];rw[z1w (by omega)]
    rw[this];exact i2
  ·exact h.elim
 ·rename_i c p o;obtain⟨⟨h1,h2,h3⟩,hK⟩:=h;refine⟨_,hK,h3,lT h2 h3,λJ w v hg hx=> ?_⟩;obtain⟨cs,h4,h5⟩:=hx;simp only[ah] at h4;obtain⟨b,T,fz,cur,rfl,g2,g3,g5⟩:=h4;obtain⟨i1,i2,i3⟩:=ah.get p _ 0 o g5 g3 h1;rw[z0h,h2] at i2 i3;exact⟨b,o,cur,T,fz,h5,hg.hv b _ g2,by simpa using i3,i2.mono _ (Env.Eb J), .inr ⟨_,g2⟩⟩
 ·exact h.elim
def JZ(J:Env)(m:List ay)(w w':World)(es:Array Event):Prop:=Ls (λb=> ∃ o,J.H b=some o) (λb=>(∃ i,aS J i (ak m i)=some b)\/(w.heap.size<=b/\b<w'.heap.size)) es
theorem JZ.nil{J:Env}{m:List ay}{w w':World}{es:Array Event}(h:es= #[]):JZ J m w w' es:=by rw[h];exact Ls.nil _ _
def Yields(P:Program)(s:Sem Next)(w:World)(v:Value)(w':World):Prop:=s.run P w= .ok (.value v) w'\/(v=undef/\s.run P w= .ok .skip w')
def WL(P:Program)(o:Oper)(σ:List SV)(m:List ay)(σ':List SV)(sv:SV)(m':List ay):Prop:=
 ∀ β J a w,Inv β J m w->aH J σ a->∃ v w' J',Yields P (execOp a.eval o) w v w'/\bK J' sv v/\aH J' σ' a/\Inv β J' m' w'/\JZ J m w w' ((execOp a.eval o).events P w #[])
def iW(P:Program)(o:Oper)(σ:List SV)(m:List ay)(sv:SV)(m':List ay):Prop:=
 ∀ β J a w,Inv β J m w->aH J σ a->∃ v w' J',Yields P (execOp a.eval o) w v w'/\bK J' sv v/\J.Le J'/\Inv β J' m' w'/\JZ J m w w' ((execOp a.eval o).events P w #[])
theorem aH.mono{J J':Env}{σ:List SV}{a:Act}(hl:J.Le J')(h:aH J σ a):aH J' σ a:=⟨h.1,λk=>(h.2 k).mono hl⟩
theorem Ij{T:TypeId}{x:Operand}{x':aV}{n:Nat}{ag:Bool}{o:Oper}{σ:List SV}{m:List ay}{K:SV->Prop}(ho:o.op= .load T x)(hx:aP x=some x')(ht:rP P T=some (n,ag))
  (h:peek m n ag K (x'.ev σ)):∃ sv,K sv/\iW P o σ m sv m:=by
 obtain⟨c,hK,hag,hone,hh⟩:=YB h;refine⟨c,hK,λβ J a w hi hs=> ?_⟩;obtain⟨b,off,cur,T',fz,e1,e2,e3,e4,e5⟩:=hh J w _ hi.good (aB hx hs);have hr:(execOp a.eval o).run P w= .ok (.value (boxed ag (sub cur.toList off n))) w:=by simp only[execOp,ho,z01,Instr.loadAt,Instr.sureAddr,e1,z07,Result.andThen_ok,Ep ht hone w e2 e3]
 refine⟨_,_,J, .inl hr,hag▸gJ e4,Env.Le.refl J,hi,?_⟩;have he:(execOp a.eval o).events P w #[]=(loadVar T ⟨b,off,none⟩).events P w #[]:=by simp[execOp,ho,Instr.loadAt,Instr.sureAddr,e1]
 rw[he];exact Ir ht hone w e2 e3 (Ls.nil _ _) (e5.imp .inl id)
theorem Inv.aeW{β:Base}{J:Env}{m:List ay}{w:World}(h:Inv β J m w){i:Nat}{T:TypeId}{wd':Nat}{l l':List SV}{g cap:Nat}{cur cs':List Value}
  {T0:Nat} (hT0:T0=T\/T0+tX=T) (hm:ak m i= .vec T wd' l) (hv:J.vv i= .slice (some ⟨g,0,none⟩) l.length cap) (hcur:w.heap[g]? =some (.cells cur.toArray T0 (0,0))) (hle:l.length<=cap) (hcap:cap<=maxLen)
  (hcl:cur.length=cap*wd') (hlen:l'.length=l.length) (hcl':cs'.length=cur.length)
  (hel:∀ j,j<l'.length->ah (l'.getD j .junk) J (sub cs' (j*wd') wd')):
  Inv β J (m.set i (.vec T wd' l')) (w.setRow g cs'.toArray):=by
 have hmul:l'.length*wd'<=cap*wd':=z0b _ (by omega)
 have hoi:∀ l,aS J i (.vec T wd' l)=some g:=λ_=>by simp[aS,hv,z0r]
 refine h.at1 (jJ (by rw[hm];nofun)) ⟨sub cs' 0 (l'.length*wd'),⟨T0,hT0,by rw[gW];omega, .inr ⟨g,cap,cs'.toArray,by rw[hv,hlen],z0x _,setRow_heap w _ _ _ T0 _ hcur,by omega,hcap,by simp;omega,by simp[sub]⟩⟩,λk hk=> ?_⟩
  (by rw[hm];exact λ_ e=>e) (by rw[hm];exact id) (λb hb=>setRow_other w _ b _ λe=>hb (by rw[hm,e];exact hoi _)) (by simp[z3d]) ⟨rfl,rfl,rfl,rfl⟩
 rw[sub_sub (bF hk),z0j];exact hel k hk
theorem Ej{T:TypeId}{x v:Operand}{x' v':aV}{n:Nat}{ag:Bool}{o:Oper}{σ:List SV}{m:List ay}{K:List ay->Prop}(ho:o.op= .store T x v)(hx:aP x=some x')(hv:aP v=some v')
  (ht:rP P T=some (n,ag)) (h:F5 m n (v'.ev σ) K (x'.ev σ)):∃ m',K m'/\iW P o σ m .junk m':=by
 have hrun:∀ (a:Act) (w:World) (b off:Nat) (cur:List Value) (T':TypeId) (xs:List Value),a.eval x= .pointer (some ⟨b,off,none⟩)->w.heap[b]? =some (.cells cur.toArray T' (0,0))->
   (a.eval v).cells=xs.toArray->xs.length=n->off+n<=cur.length->(∀ u∈xs,u.oneCell'=true)->(execOp a.eval o).run P w= .ok .skip (w.setRow b (splice cur off xs).toArray):=by
  intro a w b off cur T' xs e1 e2 e3 e4 e5 e6;simp only[execOp,ho,z01,Instr.storeAt,Instr.sureAddr,e1,z07,Result.andThen_ok,N7 ht w e2 e3 e4 e5 e6]
 have hev:∀ (a:Act) (w:World) (b off:Nat) (cur:List Value) (T':TypeId) (xs:List Value),a.eval x= .pointer (some ⟨b,off,none⟩)->w.heap[b]? =some (.cells cur.toArray T' (0,0))->
   (a.eval v).cells=xs.toArray->xs.length=n->off+n<=cur.length->(∀ u∈xs,u.oneCell'=true)->∀ {R W:Nat->Prop},W b->Ls R W ((execOp a.eval o).events P w #[]):=by
  intro a w b off cur T' xs e1 e2 e3 e4 e5 e6 R W hW;have he:(execOp a.eval o).events P w #[]=(storeVar T ⟨b,off,none⟩ (a.eval v)).events P w #[]:=by simp[execOp,ho,Instr.storeAt,Instr.sureAddr,e1]
  rw[he];exact Rz ht w e2 e3 e4 e5 e6 (Ls.nil _ _) hW
 unfold F5 at h;split at h
 ·rename_i i p o' ex;split at h
  ·rename_i T' c hm;obtain⟨⟨h1,h2,h3,h4⟩,hK⟩:=h;refine⟨_,hK,λβ J a w hi hs=> ?_⟩;obtain⟨_,hp,e1⟩:=yL (ex▸aB hx hs);obtain⟨xs,e2,e3⟩:=fF (aB hv hs) h4;obtain⟨cs,hb,hc⟩:fH J i w (.blk T' c):=hm▸hi.good.res i;obtain⟨g1,g2,g3⟩:=ah.get p c 0 o' hc hp h1;have hset:=ah.set p c 0 o' hc hp h1 e2 (by omega)
   rw[z0h] at g2 g3 hset;have hl:=ah.length _ e2;exact⟨undef,_,J, .inr ⟨rfl,hrun a w _ _ cs T' xs e1 hb (by rw[e3];exact iO e2) (by omega) (by omega) (ah.one _ e2)⟩,trivial,Env.Le.refl J,hi.anK hm hset,
    hev a w _ _ cs T' xs e1 hb (by rw[e3];exact iO e2) (by omega) (by omega) (ah.one _ e2) (.inl ⟨i,by rw[hm];rfl⟩)⟩
  ·exact h.elim
 ·rename_i i j p o' ex;split at h
  ·rename_i T' w' l hm;obtain⟨⟨hj,h1,h2,h3,h4⟩,hK⟩:=h;refine⟨_,hK,λβ J a w hi hs=> ?_⟩;obtain⟨_,hp,b,cap,n',e1,e2,ev⟩:=xE (ex▸aB hx hs);obtain⟨xs,e3,e4⟩:=fF (aB hv hs) h4;obtain⟨ys,hown,hel⟩:fH J i w (.vec T' w' l):=hm▸hi.good.res i;have hl:=ah.length _ e3;obtain⟨T0,hT0,ol,ho2⟩:=hown;rcases ho2 with⟨ho2,_⟩|⟨g,cap',cur,ho2,_,hh,hle,hcap,hsz,htk⟩
   ·rw[e1] at ho2;cases ho2
   ·have ho3:=ho2;rw[e1] at ho2;simp only[z2q,z00,Addr.mk.injEq] at ho2;obtain⟨⟨rfl,_,_⟩,rfl,rfl⟩:=ho2;have hs':=hel j hj;have hjl:=bF (w:=w') hj;obtain⟨i1,i2,i3⟩:=ah.get p _ (j*w') o' hs' hp h1;have hset:=ah.set p _ (j*w') o' hs' hp h1 e3 (by omega)
    have hlen:(sub ys (j*w') w').length=w':=gW (by omega)
    rw[hlen] at i3;have hle':l.length*w'<=cap*w':=z0b _ hle;have hcl:cur.toList.length=cap*w':=by simpa using hsz
    have hsub:∀ k,k<l.length->sub cur.toList (k*w') w'=sub ys (k*w') w':=by intro k hk;have:=bF (w:=w') hk;rw[<- htk];simp only[sub,z0t,z14];rw[z1w (by omega)]
    have hb:w.heap[b]? =some (.cells cur.toList.toArray T0 (0,0)):=by simpa using hh
    refine⟨undef,_,J, .inr ⟨rfl,hrun a w b o' cur.toList T0 xs ev hb (by rw[e4];exact iO e3) (by omega) (by omega) (ah.one _ e3)⟩,trivial,Env.Le.refl J,hi.aeW hT0 hm ho3 hb hle hcap hcl (by simp) (jM (by omega)) (λk hk=> ?_),
     hev a w b o' cur.toList T0 xs ev hb (by rw[e4];exact iO e3) (by omega) (by omega) (ah.one _ e3) (.inl ⟨i,by rw[hm];simp[aS,ho3,z0r]⟩)⟩
    simp only[z1u] at hk;have hkl:=bF (w:=w') hk;by_cases hkj:k=j
    ·subst hkj;rw[tq (by omega) (by omega) (by omega),hsub k hk]
     simpa[z0f,hj] using hset
    ·rw[kJ ?_ (by omega),hsub k hk]
     ·have:(l.set j (rG (l.getD j .junk) p (v'.ev σ))).getD k .junk=l.getD k .junk:=by simp only[z0n,z0g];rw[if_neg (λe=>hkj e.symm)]
      rw[this];exact hel k hk
     ·rcases z1j hkj with hlt|hgt
      ·have:=bF (w:=w') hlt;right;omega
      ·have:=bF (w:=w') hgt;left;omega
  ·exact h.elim
 ·exact h.elim
end Go.Sx
namespace Go.Sx
open Go
variable {P:Program}
mutual
def kill(i:Nat):SV->SV
 | .vec j n=>if j=i then .junk else .vec j n
 | .iR j a p o=>if j=i then .junk else .iR j a p o
 | .kZ j n=>if j=i then .junk else .kZ j n
 | .kC j a n=>if j=i then .junk else .kC j a n
 | .arr n w f=> .arr n w λk=>kill i (f k)
 | .agg l=> .agg (dn i l)
 | .cu l=> .cu (dn i l)
 | .fn f l=> .fn f (dn i l)
 | .iface t x=> .iface t (kill i x)
 |c=>c
def dn(i:Nat):List SV->List SV
 |[]=>[]
 |x::r=>kill i x::dn i r
end
def wH(i:Nat):ay->ay
 | .dead=> .dead
 | .blk T c=> .blk T (kill i c)
 | .vec T w l=> .vec T w (dn i l)
 | .mp ek ev l=> .mp ek ev l
structure Env.But(i:Nat)(J J':Env):Prop where
 n:J.n<=J'.n
 blk:∀ j,j<J.n->J'.blk j=J.blk j
 vv:∀ j,j<J.n->j≠i->J'.vv j=J.vv j
 H:∀ b o,J.H b=some o->J'.H b=some o
theorem Env.But.cl{i:Nat}{J J':Env}(h:J.But i J'):J.cl.Le J'.cl:=⟨z0e _,λ_ hi=>absurd hi (z08 _),λ_ hi=>absurd hi (z08 _),h.H⟩
theorem iK(i:Nat):∀ l:List SV,(dn i l).length=l.length
 |[]=>rfl
 |_::r=>by simp[dn,iK i r]
theorem qj(i:Nat):∀ (l:List SV) (j:Nat),(dn i l).getD j .junk=kill i (l.getD j .junk)
 |[],j=>by simp[dn,kill]
 |x::r,0=>by simp[dn]
 |x::r,j+1=>by simp only[dn,z0o];exact qj i r j
theorem zS(i:Nat)(c:SV):(kill i c).isAgg=c.isAgg:=by cases c<;>simp only[kill]<;>first|rfl|(split<;>rfl)
mutual
theorem ah.kill(i:Nat):∀ (c:SV) {J J':Env} {cs:List Value},J.But i J'->ah c J cs->ah (kill i c) J' cs
 | .int ..,_,_,_,_,h=>h
 | .bool ..,_,_,_,_,h=>h
 | .str ..,_,_,_,_,h=>h
 | .arr n w f,_,_,_,hl,h=>by
  simp only[Sx.kill,ah] at h ⊢;exact⟨h.1,λj hj=>ah.kill i (f j) hl (h.2 j hj)⟩
 | .agg l,_,_,_,hl,h=>by simp only[Sx.kill,ah] at h ⊢;exact bV.kill i l hl h
 | .cu _,_,_,_,_,h=>by simp only[ah] at h
 | .lst w d f l,_,_,_,hl,h=>by
  simp only[Sx.kill,ah] at h ⊢;obtain⟨ao,cap,h1,h2,h3,h4,h5⟩:=h;refine⟨ao,cap,h1,h2,h3,h4,λi hi=> ?_⟩;obtain⟨b,off,T,fz,cur,e1,e2,e3,e4⟩:=h5 i hi;exact⟨b,off,T,fz,cur,e1,hl.H _ _ e2,e3,ah.mono (f (l.getD i d)) hl.cl e4⟩
 | .lit w d f l,_,_,_,hl,h=>by
  simp only[Sx.kill,ah] at h ⊢;obtain⟨ao,h1,h3,h4,h5⟩:=h;refine⟨ao,h1,h3,h4,λi hi=> ?_⟩;obtain⟨b,off,T,fz,cur,e1,e2,e3,e4⟩:=h5 i hi;exact⟨b,off,T,fz,cur,e1,hl.H _ _ e2,e3,ah.mono (f (l.getD i d)) hl.cl e4⟩
 | .jX w d f l i p o,_,_,_,hl,h=>by
  simp only[Sx.kill,ah] at h ⊢;obtain⟨b,off,T,fz,cur,h1,h2,h3,h4,h5,h6⟩:=h;exact⟨b,off,T,fz,cur,h1,h2,hl.H _ _ h3,h4,h5,ah.mono (f (l.getD i d)) hl.cl h6⟩
 | .ref c p o,_,_,_,hl,h=>by
  simp only[Sx.kill,ah] at h ⊢;obtain⟨b,T,fz,cur,h1,h2,h3,h4⟩:=h;exact⟨b,T,fz,cur,h1,hl.H _ _ h2,h3,ah.mono c hl.cl h4⟩
 | .ptr j p o,_,_,_,hl,h=>by
  simp only[Sx.kill,ah] at h ⊢;exact⟨z02 h.1 hl.n,h.2.1,by rw[hl.blk j h.1];exact h.2.2⟩
 | .vec j n,_,_,_,hl,h=>by
  simp only[Sx.kill];split
  ·obtain⟨u,hu⟩:∃ u,_=[u]:=by simp only[ah] at h;exact⟨_,h.2.2⟩
   simp only[ah];exact⟨u,by have:=ah.one _ h u (by rw[hu];simp);exact this,hu⟩
  ·rename_i hne;simp only[ah] at h ⊢;exact⟨z02 h.1 hl.n,by rw[hl.vv j h.1 hne];exact h.2⟩
 | .kZ j n,_,_,_,hl,h=>by
  simp only[Sx.kill];split
  ·simp only[ah] at h ⊢;obtain⟨_,_,_,_,_,_,e⟩:=h;exact⟨_,rfl,e⟩
  ·rename_i hne;simp only[ah] at h ⊢;exact⟨z02 h.1 hl.n,by rw[hl.vv j h.1 hne];exact h.2⟩
 | .kC j a n,_,_,_,hl,h=>by
  simp only[Sx.kill];split
  ·simp only[ah] at h ⊢;obtain⟨_,_,_,_,_,e⟩:=h;exact⟨_,rfl,e⟩
  ·rename_i hne;simp only[ah] at h ⊢;exact⟨z02 h.1 hl.n,by rw[hl.vv j h.1 hne];exact h.2⟩
 | .iR j a p o,_,_,_,hl,h=>by
  simp only[Sx.kill];split
  ·simp only[ah] at h ⊢;obtain⟨_,_,b,_,_,_,_,e⟩:=h;exact⟨_,rfl,e⟩
  ·rename_i hne;simp only[ah] at h ⊢;exact⟨z02 h.1 hl.n,h.2.1,by rw[hl.vv j h.1 hne];exact h.2.2⟩
 | .map j,_,_,_,hl,h=>by
  simp only[Sx.kill,ah] at h ⊢;exact⟨z02 h.1 hl.n,by rw[hl.blk j h.1];exact h.2⟩
 | .fn f cap,_,_,_,hl,h=>by
  simp only[Sx.kill,ah] at h ⊢;obtain⟨vs,h1,h2⟩:=h;exact⟨vs,bT.kill i cap hl h1,h2⟩
 | .iface t x,_,_,_,hl,h=>by
  simp only[Sx.kill,ah,zS] at h ⊢;obtain⟨xs,h1,h2⟩:=h;exact⟨xs,ah.kill i x hl h1,h2⟩
 | .dO,_,_,_,_,h=>h
 | .mX,_,_,_,_,h=>h
 | .y5,_,_,_,_,h=>h
 | .lD,_,_,_,_,h=>h
 | .Ba,_,_,_,_,h=>h
 | .zH,_,_,_,_,h=>h
 | .raw _,_,_,_,_,h=>h
 | .junk,_,_,_,_,h=>h
theorem bV.kill(i:Nat):∀ (l:List SV) {J J':Env} {cs:List Value},J.But i J'->bV l J cs->bV (dn i l) J' cs
 |[],_,_,_,_,h=>h
 |x::r,_,_,_,hl,h=>by simp only[dn,bV] at h ⊢;obtain⟨a,b,h1,h2,h3⟩:=h;exact⟨a,b,h1,ah.kill i x hl h2,bV.kill i r hl h3⟩
theorem bT.kill(i:Nat):∀ (l:List SV) {J J':Env} {vs:List Value},J.But i J'->bT l J vs->bT (dn i l) J' vs
 |[],_,_,_,_,h=>h
 |x::r,_,_,_,hl,h=>by simp only[dn,bT,zS] at h ⊢;obtain⟨cs,t,h1,h2,h3⟩:=h;exact⟨cs,t,h1,ah.kill i x hl h2,bT.kill i r hl h3⟩
end
theorem bK.kill{i:Nat}{x:SV}{J J':Env}{v:Value}(hl:J.But i J')(h:bK J x v):bK J' (Sx.kill i x) v:=by
 by_cases hv:x.isVal=true
 ·obtain⟨cs,h1,h2⟩:=fF h hv;have:=ah.kill i x hl h1;have h3:=gJ this;rw[zS] at h3;rw[h2];exact h3
 ·cases x<;>first
   |exact absurd rfl hv
   |(obtain⟨vs,h1,h2⟩:=h;exact⟨vs,bT.kill i _ hl h1,h2⟩)
   |trivial
theorem aH.kill{i:Nat}{J J':Env}{σ:List SV}{a:Act}(hl:J.But i J')(h:aH J σ a):aH J' (dn i σ) a:=
 ⟨by rw[iK];exact h.1,λk=>by rw[qj];exact(h.2 k).kill hl⟩
theorem Inv.grown{β:Base}{J:Env}{m:List ay}{w w':World}(h:Inv β J m w){i:Nat}{T:TypeId}{wd':Nat}{l l':List SV}{v':Value}{ys:List Value}
  (hT:T<tX) (hm:ak m i= .vec T wd' l) (hg:w.grownBy w' (J.vv i).ownBlock) (hd:w.drawn<=w'.drawn) (hown:w'.ownsRow 0 T wd' v' l'.length ys)
  (hblk:v'.ownBlock=(J.vv i).ownBlock\/∀ b,v'.ownBlock=some b->w.heap.size<=b)
  (hel:∀ j,j<l'.length->ah (l'.getD j .junk) J (sub ys (j*wd') wd')):
  Inv β {J with vv:=λj=>if j=i then v' else J.vv j} ((m.map (wH i)).set i (.vec T wd' (dn i l'))) w'/\J.But i {J with vv:=λj=>if j=i then v' else J.vv j}:=by
 have hi:i<m.length:=by
  rcases z1d i m.length with hi|hi
  ·exact hi
  ·rw[bI hi] at hm;cases hm
 generalize Rk:({J with vv:=λj=>if j=i then v' else J.vv j}:Env)=J'
 have ajA:J.But i J':=by subst Rk;exact⟨z0e _,λ_ _=>rfl,λj _ hne=>by simp[hne],λ_ _ h=>h⟩
 refine⟨?_,ajA⟩;have hat:∀ j,ak ((m.map (wH i)).set i (.vec T wd' (dn i l'))) j=if j=i then .vec T wd' (dn i l') else wH i (ak m j):=by
  intro j;unfold ak;rw[z0f,z0g];by_cases hj:i=j
  ·subst hj;simp[hi]
  ·rw[if_neg hj,if_neg (λe=>hj e.symm),List.getElem?_map,z0f];cases m[j]? <;>rfl
 have hoi:aS J i (ak m i)=(J.vv i).ownBlock:=by rw[hm];rfl
 have hb':∀ j,J'.blk j=J.blk j:=by subst Rk;intro j;rfl
 have hv1:J'.vv i=v':=by subst Rk;simp
 have hv2:∀ j,j≠i->J'.vv j=J.vv j:=by subst Rk;intro j hj;simp[hj]
 have hH:J'.H=J.H:=by subst Rk;rfl
 have Rl:aS J' i (.vec T wd' (dn i l'))=v'.ownBlock:=by simp[aS,hv1]
 have hownO:∀ j,j≠i->aS J' j (wH i (ak m j))=aS J j (ak m j):=by intro j hj;cases ak m j<;>simp[wH,aS,hb',hv2 j hj]
 have hcase:∀ j b,aS J' j (ak ((m.map (wH i)).set i (.vec T wd' (dn i l'))) j)=some b->
   (j≠i/\aS J j (ak m j)=some b)\/(j=i/\(aS J i (ak m i)=some b\/w.heap.size<=b)/\v'.ownBlock=some b):=by
  intro j b hb;rw[hat] at hb;by_cases hj:j=i
  ·subst hj;rw[if_pos rfl,Rl] at hb;refine .inr ⟨rfl,?_,hb⟩;rcases hblk with e|e
   ·left;rw[hoi,<- e];exact hb
   ·right;exact e b hb
  ·rw[if_neg hj,hownO j hj] at hb;exact .inl ⟨hj,hb⟩
 have hkeep:∀ b,b<w.heap.size->(J.vv i).ownBlock≠some b->w'.heap[b]? =w.heap[b]? :=λb hb hne=>hg.block b hb (λe=>hne e.symm);refine⟨⟨by subst Rk;simp[h.good.n],λj=> ?_,λa b x hab h1 h2=> ?_,λa b hb=> ?_,λb o hb=> ?_,by subst Rk;exact h.good.gl⟩,⟨hg.os.trans h.kept.os,hg.tape.trans h.kept.tape,hg.output.trans h.kept.output,z0k h.kept.size hg.size,?_,?_,?_,λe=>z0k (h.kept.drawn e) hd⟩,λa b hb=> ?_,by subst Rk;exact h.n,λj hj=>by rw[hb'];exact h.blk j hj,λj hj hv=> ?_⟩
 ·rw[hat];by_cases hj:j=i
  ·subst hj;rw[if_pos rfl];refine⟨ys,by rw[iK,hv1];exact .of hown,λk hk=> ?_⟩
   rw[iK] at hk;rw[qj];exact ah.kill j _ ajA (hel k hk)
  ·rw[if_neg hj];have hr:=h.good.res j;have hne:∀ b,aS J j (ak m j)=some b->w'.heap[b]? =w.heap[b]? :=λb hb=>hkeep b (dw h.good hb) (λe=>h.good.jY j i b hj hb (by rw[hoi];exact e))
   cases hmj:ak m j with
   |dead=>trivial
   |blk T' c''=>
    rw[hmj] at hr;obtain⟨cs'',h1,h2⟩:=hr;exact⟨cs'',by rw[hb',hne _ (by rw[hmj];rfl)];exact h1,ah.kill i _ ajA h2⟩
   |vec T' wd l2=>
    rw[hmj] at hr;obtain⟨xs,⟨T0,hT0,h1⟩,h2⟩:=hr;refine⟨xs,⟨T0,hT0,?_⟩,λk hk=> ?_⟩
    ·rw[iK,hv2 j hj];refine⟨h1.1,?_⟩;rcases h1.2 with hx|⟨gg,cap,cur,e1,e2,e3,e4⟩
     ·exact .inl hx
     ·exact .inr ⟨gg,cap,cur,e1,e2,by rw[hne gg (by rw[hmj];simp[aS,e1,z0r])];exact e3,e4⟩
    ·rw[iK] at hk;rw[qj];exact ah.kill i _ ajA (h2 k hk)
   |mp ek ev l2=>
    rw[hmj] at hr;obtain⟨es,cl,h1,h2⟩:=hr;exact⟨es,cl,by rw[hb',hne _ (by rw[hmj];rfl)];exact h1,h2⟩
 ·rcases hcase a x h1 with⟨ha,h1'⟩|⟨ha,h1',_⟩<;>rcases hcase b x h2 with⟨hb,h2'⟩|⟨hb,h2',_⟩
  ·exact h.good.jY a b x hab h1' h2'
  ·rcases h2' with h2'|h2'
   ·exact h.good.jY a i x ha h1' h2'
   ·have:=dw h.good h1';omega
  ·rcases h1' with h1'|h1'
   ·exact h.good.jY b i x hb h2' h1'
   ·have:=dw h.good h2';omega
  ·omega
 ·rw[hH];rcases hcase a b hb with⟨_,h1⟩|⟨_,h1|h1,_⟩
  ·exact h.good.sep a b h1
  ·exact h.good.sep i b h1
  ·cases hh:J.H b with
   |none=>rfl
   |some o=>have:=wo h.good hh;omega
 ·rw[hH] at hb;rw[hkeep b (wo h.good hb) (λe=>by have:=h.good.sep i b (by rw[hoi];exact e);rw[this] at hb;cases hb)]
  exact h.good.hv b o hb
 ·intro b hb hB;rw[hkeep b (z02 hb h.kept.size) (λe=>by
   rcases h.own i b (by rw[hoi];exact e) with h'|h'
   ·exact hB h'
   ·omega)]
  exact h.kept.heap b hb hB
 ·rw[hH];exact h.kept.H
 ·rw[hH];exact h.kept.fresh
 ·rcases hcase a b hb with⟨_,h1⟩|⟨_,h1|h1,_⟩
  ·exact h.own a b h1
  ·exact h.own i b h1
  ·right;exact z0k h.kept.size h1
 ·rw[hat] at hv;by_cases hji:j=i
  ·subst hji;rw[if_pos rfl] at hv;simp only[ay.qw,decide_eq_true_eq] at hv;exact absurd hv (Nat.not_le.2 hT)
  ·rw[if_neg hji] at hv;rw[hv2 j hji];refine h.vv j hj ?_;cases hmj:ak m j<;>rw[hmj] at hv<;>first|rfl|exact hv
end Go.Sx
namespace Go.Sx
open Go
variable {P:Program}
theorem fH.grow{J J':Env}{m:List ay}{w w':World}(g:Good J m w)(hl:J.Le J')(hw:∀ b,b<w.heap.size->w'.heap[b]? =w.heap[b]?){i:Nat}(hi:i<m.length):fH J' i w' (ak m i):=by
 have hi':i<J.n:=by rw[g.n];exact hi
 have hr:=g.res i;cases hm:ak m i with
 |dead=>trivial
 |blk T c=>
  rw[hm] at hr;obtain⟨cs,h1,h2⟩:=hr;exact⟨cs,by rw[hl.blk i hi',hw _ (z04.1 h1).1];exact h1,h2.mono c hl⟩
 |vec T wd l=>
  rw[hm] at hr;obtain⟨xs,⟨T0,hT0,h1⟩,h2⟩:=hr;refine⟨xs,⟨T0,hT0,?_⟩,λj hj=>(h2 j hj).mono _ hl⟩;rw[hl.vv i hi'];refine⟨h1.1,?_⟩;rcases h1.2 with hx|⟨gg,cap,cur,e1,e2,e3,e4⟩
  ·exact .inl hx
  ·exact .inr ⟨gg,cap,cur,e1,e2,by rw[hw _ (z04.1 e3).1];exact e3,e4⟩
 |mp ek ev l=>
  rw[hm] at hr;obtain⟨es,cl,h1,h2⟩:=hr;exact⟨es,cl,by rw[hl.blk i hi',hw _ (z04.1 h1).1];exact h1,h2⟩
theorem Inv.more{β:Base}{J:Env}{m:List ay}{w w':World}(h:Inv β J m w){b:Nat}{v:Value}{r:ay}(hg:w.grownBy w' none)(hd:w.drawn<=w'.drawn)
  (hres:fH (J.more b v) m.length w' r) (hown:∀ x,aS (J.more b v) m.length r=some x->w.heap.size<=x):
  Inv β (J.more b v) (m++[r]) w':=by
 have hn:=h.good.n;have hw:∀ b,b<w.heap.size->w'.heap[b]? =w.heap[b]? :=λb hb=>hg.block b hb (by simp)
 have hle:=J.dS b v;have Rl:∀ i,i<m.length->aS (J.more b v) i (ak (m++[r]) i)=aS J i (ak m i):=by
  intro i hi;rw[bD hi];have hi':i<J.n:=by omega
  cases ak m i<;>simp[aS,Env.more,z0u hi']
 have hcase:∀ i x,aS (J.more b v) i (ak (m++[r]) i)=some x->(i<m.length/\aS J i (ak m i)=some x)\/(i=m.length/\w.heap.size<=x):=by
  intro i x hb;rcases z19 i m.length with hi|hi|hi
  ·rw[Rl i hi] at hb;exact .inl ⟨hi,hb⟩
  ·subst hi;rw[gU] at hb;exact .inr ⟨rfl,hown x hb⟩
  ·rw[bI (by simp;omega)] at hb;cases hb
 refine⟨⟨by simp[Env.more,hn],λi=> ?_,λi j x hij h1 h2=> ?_,λi x hb=> ?_,λx o hb=> ?_,h.good.gl⟩,⟨hg.os.trans h.kept.os,hg.tape.trans h.kept.tape,hg.output.trans h.kept.output,z0k h.kept.size hg.size,?_,h.kept.H,h.kept.fresh,λe=>z0k (h.kept.drawn e) hd⟩,λi x hb=> ?_,?_,λi hi=> ?_,λi hi hv=> ?_⟩
 ·rcases z19 i m.length with hi|hi|hi
  ·rw[bD hi];exact fH.grow h.good hle hw hi
  ·subst hi;rw[gU];exact hres
  ·rw[bI (by simp;omega)];trivial
 ·rcases hcase i x h1 with⟨hi,h1'⟩|⟨hi,hb⟩<;>rcases hcase j x h2 with⟨hj,h2'⟩|⟨hj,hb2⟩
  ·exact h.good.jY i j x hij h1' h2'
  ·have:=dw h.good h1';omega
  ·have:=dw h.good h2';omega
  ·omega
 ·rcases hcase i x hb with⟨_,h1⟩|⟨_,h1⟩
  ·exact h.good.sep i x h1
  ·cases hh:J.H x with
   |none=>exact hh
   |some o=>have:=wo h.good hh;omega
 ·rw[hw x (wo h.good hb)];exact h.good.hv x o hb
 ·intro x hb hB;rw[hw x (z02 hb h.kept.size)];exact h.kept.heap x hb hB
 ·rcases hcase i x hb with⟨_,h1⟩|⟨_,h1⟩
  ·exact h.own i x h1
  ·right;exact z0k h.kept.size h1
 ·have:=h.n;simp[Env.more];omega
 ·have:=h.n;have e:=h.blk i hi;simp[Env.more];rw[if_neg (by omega)];exact e
 ·have hn':=h.n;rw[bD (by omega)] at hv
  have e:=h.vv i hi hv;simp[Env.more];rw[if_neg (by omega)];exact e
section
variable {o:Oper} {σ:List SV} {m:List ay}
theorem Ei{T:TypeId}{z:SV}(ho:o.op= .alloc T)(hz:Oz P T=some z):iW P o σ m (.ptr m.length [] 0) (m++[.blk T z]):=by
 intro β J a w hi hs;obtain⟨i,v,h1,h2,h3⟩:=xW hz;have hr:(execOp a.eval o).run P w= .ok (.value (.pointer (some ⟨w.heap.size,0,none⟩))) (w.alloc (.cells v.cells T)):=by simp[execOp,ho,Instr.alloc,zeroValue,typeInfo,h1,h2,newVar,newRow]
 have:=hi.alloc (T:=T) (h3 J);simp only[Array.toArray_toList] at this;refine⟨_,_,_, .inl hr,?_,J.dS _ _,this, .nil (by simp[execOp,ho,Instr.alloc,zeroValue,typeInfo,h1,h2,newVar,newRow])⟩
 refine⟨_,by simp only[ah];exact⟨by simp[Env.more,hi.good.n],trivial,rfl⟩,?_⟩
 simp[boxed,SV.isAgg,Env.more,hi.good.n]
theorem KF{T:TypeId}{x:Operand}{x':aV}(ho:o.op= .box T x)(hx:aP x=some x')(hv:(x'.ev σ).isVal=true):
  iW P o σ m (.ptr m.length [] 0) (m++[.blk T (x'.ev σ)]):=by
 intro β J a w hi hs;obtain⟨cs,h1,h2⟩:=fF (aB hx hs) hv;have hr:(execOp a.eval o).run P w= .ok (.value (.pointer (some ⟨w.heap.size,0,none⟩))) (w.alloc (.cells cs.toArray T)):=by have:=iO h1;simp[execOp,ho,Instr.box,newVar,newRow,h2,this]
 refine⟨_,_,_, .inl hr,?_,J.dS _ _,hi.alloc h1, .nil (by simp[execOp,ho,Instr.box,newVar,newRow])⟩
 refine⟨_,by simp only[ah];exact⟨by simp[Env.more,hi.good.n],trivial,rfl⟩,?_⟩
 simp[boxed,SV.isAgg,Env.more,hi.good.n]
theorem Ci(t:TypeId)(len:Nat)(parts:Array (Nat×Value)):dX P (Instr.buildSlice t len parts):=by
 unfold Instr.buildSlice;refine aC (λw es=>events_underlying ..) λ_ u _ _=> ?_;split
 ·rename_i E _;refine aC (λw es=>events_sizeOf ..) λ_ n _ _=> ?_;refine jT (aC (og _) λ_ _ _ h=>by cases h) ?_
  have fin:∀ z:Array Value,dX P (match Instr.fill (λi=>some (i*n,n)) ((z15 (len*n)).map (z[· %z.size]!)) parts.toList with
    |some cells=>do pure (.slice (some (<- newRow E cells)) len len)
    |_=>stuck "buildSlice: a part of the wrong size" :Sem Value):=by
   intro z;split
   ·refine aC ?_ λ_ _ _ _=>aO _;unfold newRow;exact aC (λw es=>events_newObj ..) λ_ _ _ _=>aO _
   ·exact bY _
  split
  ·exact aC (aO _) λ_ z _ _=>fin z
  ·exact aC (λw es=>events_zeroValue ..) λ_ z _ _=>fin z.cells
 ·exact bY _
theorem XV{T:TypeId}{len:Nat}{parts:Array (Nat×Operand)}(ho:o.op= .buildSlice T len parts)(a:Act)(w:World):(execOp a.eval o).events P w #[]= #[]:=by unfold execOp;rw[ho];exact aC (Ci _ _ _) (λ_ _ _ _=>aO _) w _
def dJ(σ:List SV)(w:Nat):List SV->List (Nat×aV)->(List SV->Prop)->Prop
 |l,[],K=>K l
 |l,(k,x)::r,K=>(k<l.length/\(x.ev σ).isVal=true/\wd (x.ev σ)=w)/\dJ σ w (l.set k (x.ev σ)) r K
def jS(σ:List SV):List SV->List (Nat×aV)->List SV
 |l,[]=>l
 |l,(k,x)::r=>jS σ (l.set k (x.ev σ)) r
theorem Ak:∀ (ys:List (Nat×aV)) (l:List SV),(jS σ l ys).length=l.length
 |[],_=>rfl
 |(k,x)::r,l=>by simp[jS,Ak r]
theorem kK{w:Nat}:∀ (ys:List (Nat×aV)) (l:List SV) {K:List SV->Prop},dJ σ w l ys K->K (jS σ l ys)/\dJ σ w l ys (λ_=>True)
 |[],l,K,h=>⟨h,trivial⟩
 |(k,x)::r,l,K,h=>by simp only[dJ] at h ⊢;obtain⟨i1,i2⟩:=kK r _ h.2;exact⟨i1,h.1,i2⟩
def oh:List (Nat×Operand)->Option (List (Nat×aV))
 |[]=>some []
 |(k,x)::r=>match aP x,oh r with
  |some y,some ys=>some ((k,y)::ys)
  |_,_=>none
def vJ(J:Env)(w:Nat)(l:List SV)(cs:List Value):Prop:=cs.length=l.length*w/\∀ j,j<l.length->ah (l.getD j .junk) J (sub cs (j*w) w)
theorem vJ.set{J:Env}{w:Nat}{l:List SV}{cs xs:List Value}{k:Nat}{x:SV}(h:vJ J w l cs)(hk:k<l.length)(hx:ah x J xs)(hw:xs.length=w):vJ J w (l.set k x) (splice cs (k*w) xs):=by
 have hkl:=bF (w:=w) hk;have h1:=h.1;refine⟨by rw[jM (by omega),z1u];exact h.1,λj hj=> ?_⟩
 rw[z1u] at hj;have hjl:=bF (w:=w) hj;by_cases hjk:j=k
 ·subst hjk;rw[tq (by omega) (by omega) (by omega)]
  have:splice (sub cs (j*w) w) (j*w - j*w) xs=xs:=by
   have hl:(sub cs (j*w) w).length=w:=gW (by omega)
   simp only[z1o,splice,z1e,z0z,z0j];rw[z0c (by omega)];simp
  rw[this];simpa[z0f,hj] using hx
 ·rw[kJ ?_ (by omega)]
  ·have:(l.set k x).getD j .junk=l.getD j .junk:=by simp only[z0n,z0g];rw[if_neg (λe=>hjk e.symm)]
   rw[this];exact h.2 j hj
  ·rcases z1j hjk with hlt|hgt
   ·have:=bF (w:=w) hlt;right;omega
   ·have:=bF (w:=w) hgt;left;omega
theorem TN{J:Env}{a:Act}{w:Nat}(hs:aH J σ a):∀ (parts:List (Nat×Operand)) (ys:List (Nat×aV)) (l:List SV) (cs:List Value),oh parts=some ys->vJ J w l cs->dJ σ w l ys (λ_=>True)->
  ∃ cs',vJ J w (jS σ l ys) cs'/\Instr.fill (λi=>some (i*w,w)) cs.toArray (parts.map λx=>(x.1,a.eval x.2))=some cs'.toArray
 |[],ys,l,cs,hc,hl,h=>by
  simp only[oh,z00] at hc;subst hc;exact⟨cs,hl,rfl⟩
 |(k,x)::r,ys,l,cs,hc,hl,h=>by
  simp only[oh] at hc;split at hc<;>try (cases hc;done)
  rename_i y ys' h1 h2;simp only[z00] at hc;subst hc;simp only[dJ] at h;obtain⟨⟨hk,hv,hw⟩,h⟩:=h;obtain⟨xs,hx1,hx2⟩:=fF (aB h1 hs) hv;have hlen:=ah.length _ hx1;have hkl:=bF (w:=w) hk;have h3:=hl.1;obtain⟨cs',i1,i2⟩:=TN hs r ys' _ _ h2 (hl.set hk hx1 (by omega)) h
  refine⟨cs',i1,?_⟩;have hcells:(a.eval x).cells=xs.toArray:=by rw[hx2];exact iO hx1
  simp only[z1h,Instr.fill,hcells];have hsz:xs.toArray.size=w:=by simp;omega
  rw[if_neg (by simp[hsz];omega)]
  have:=Ce (k*w) xs cs.toArray (by simp;omega)
  simp only at this;rw[this];exact i2
theorem LQ{J:Env}{z:SV}{w n:Nat}{zc:List Value}(hz:ah z J zc)(hw:zc.length=w):vJ J w (z0d n z) ((z15 (n*w)).map (zc.toArray[· %zc.toArray.size]!)).toList:=by
 refine⟨by simp,λj hj=> ?_⟩
 simp only[z2i] at hj;have hjl:=bF (w:=w) hj;have hg:(z0d n z).getD j .junk=z:=by simp[z0f,hj]
 rw[hg];have:sub ((z15 (n*w)).map (zc.toArray[· %zc.toArray.size]!)).toList (j*w) w=zc:=by
  apply z0l;intro k;rw[iM];by_cases hk:k<w
  ·rw[if_pos hk];have h1:j*w+k<n*w:=by omega
   have h2:(j*w+k)%w=k:=by rw[z1c,Nat.mul_add_mod,Nat.mod_eq_of_lt hk]
   have h3:k<zc.length:=by omega
   simp[h1,hw,h2];rw[z1a h3];rfl
  ·rw[if_neg hk,z0v (by omega)]
 rw[this];exact hz
theorem Px{T E:TypeId}{len w:Nat}{z:SV}{ag:Bool}{parts:Array (Nat×Operand)}{ys:List (Nat×aV)}(ho:o.op= .buildSlice T len parts)(hu:P.underlying T=some (.slice E))(hz:Oz P E=some z)
  (ht:rP P E=some (w,ag)) (hwd:wd z=w) (hlen:len*w<=2^24) (h0:0<w) (hc:oh parts.toList=some ys) (h2:dJ σ w (z0d len z) ys (λ_=>True)) {J:Env} {a:Act} (wd':World) (hs:aH J σ a):
  ∃ cs',vJ J w (jS σ (z0d len z) ys) cs'/\(execOp a.eval o).run P wd'= .ok (.value (.slice (some ⟨wd'.heap.size,0,none⟩) len len)) (wd'.alloc (.cells cs'.toArray E)):=by
 obtain⟨i,v,e1,e2,e3⟩:=xW hz;have hzl:=ah.length _ (e3 J);obtain⟨cs',g1,g2⟩:=TN (w:=w) hs parts.toList ys _ _ hc (LQ (n:=len) (e3 J) (by omega)) h2
 refine⟨cs',g1,?_⟩;have hpl:(parts.map λ(i,x)=>(i,a.eval x)).toList=parts.toList.map λx=>(x.1,a.eval x.2):=by simp
 simp only[execOp,ho,Instr.buildSlice,z01,run_underlying hu,Result.andThen_ok,run_sizeOf ht];rw[if_neg (by omega)]
 by_cases hz0:len*w=0
 ·have hl0:len=0:=by
   rcases Nat.mul_eq_zero.1 hz0 with h|h
   ·exact h
   ·omega
  subst hl0;simp only[Nat.zero_mul,if_true,z01,z07,Result.andThen_ok,hpl];have g2':=g2;rw[Nat.zero_mul] at g2';have r0:∀ f:Nat->Value,(z15 0).map f= #[]:=λf=>by apply z0w;simp
  rw[r0] at g2';simp only[r0];have g3:Instr.fill (λi=>some (i*w,w)) #[] (parts.toList.map λx=>(x.1,a.eval x.2))=some cs'.toArray:=g2';simp[g3,newRow]
 rw[if_neg hz0];simp only[z01,zeroValue,typeInfo,run_program,Result.andThen_ok,e1,z07,e2,hpl];have:((z15 (len*w)).map (v.cells[· %v.cells.size]!))=((z15 (len*w)).map (v.cells.toList.toArray[· %v.cells.toList.toArray.size]!)).toList.toArray:=by apply z0w;simp
 rw[this,g2];simp[newRow]
theorem KH{T E:TypeId}{len w:Nat}{z:SV}{ag:Bool}{parts:Array (Nat×Operand)}{ys:List (Nat×aV)}{K:List SV->Prop}(ho:o.op= .buildSlice T len parts)(hu:P.underlying T=some (.slice E))(hz:Oz P E=some z)
  (ht:rP P E=some (w,ag)) (hwd:wd z=w) (hlen:len*w<=2^24) (h0:0<w) (hc:oh parts.toList=some ys) (h:dJ σ w (z0d len z) ys K):
  ∃ l,K l/\iW P o σ m (.vec m.length len) (m++[.vec E w l]):=by
 obtain⟨h1,h2⟩:=kK _ _ h;refine⟨_,h1,λβ J a wd' hi hs=> ?_⟩;obtain⟨cs',g1,hr⟩:=Px ho hu hz ht hwd hlen h0 hc h2 wd' hs;have hll:(jS σ (z0d len z) ys).length=len:=by rw[Ak];simp
 have hg1:=g1.1;rw[hll] at hg1;have hlm:len<=maxLen:=by have:len<=len*w:=z2f _ h0;unfold maxLen;omega
 refine⟨_,_,J.more 0 (.slice (some ⟨wd'.heap.size,0,none⟩) len len), .inl hr,?_,J.dS _ _,hi.more (World.grownBy_alloc _ _ _) (z0e _) ?_ ?_, .nil (XV ho a _)⟩
 ·refine⟨[.slice (some ⟨wd'.heap.size,0,none⟩) len len],?_,rfl⟩;simp only[ah];refine⟨by simp[Env.more,hi.good.n], .inr ⟨wd'.heap.size,len,?_⟩,?_⟩<;>simp[Env.more,hi.good.n]
 ·refine⟨cs',?_,λj hj=>(g1.2 j hj).mono _ (J.dS _ _)⟩;have hvv:(J.more 0 (.slice (some ⟨wd'.heap.size,0,none⟩) len len)).vv m.length= .slice (some ⟨wd'.heap.size,0,none⟩) len len:=by simp[Env.more,hi.good.n]
  rw[hvv,hll];exact .of ⟨hg1, .inr ⟨wd'.heap.size,len,cs'.toArray,rfl,z0x _,heap_alloc_new wd' _,z0e _,hlm,by simpa using hg1,by rw[z0s (by simp[hg1])]⟩⟩
 ·intro x hx;simp[aS,Env.more,hi.good.n,z0r] at hx;omega
theorem Inv.ahf{β:Base}{J:Env}{m:List ay}{w:World}(h:Inv β J m w)(cs:List Value)(T:TypeId):
  Inv β {J with H:=λb=>if b=w.heap.size then some (.cells cs.toArray T (0,0)) else J.H b} m (w.alloc (.cells cs.toArray T))/\
  J.Le {J with H:=λb=>if b=w.heap.size then some (.cells cs.toArray T (0,0)) else J.H b}:=by
 have hw:∀ b,b<w.heap.size->(w.alloc (.cells cs.toArray T)).heap[b]? =w.heap[b]? :=λb hb=>Go.RowKit.Below.heap_alloc w _ b hb;have hH:∀ b o,J.H b=some o->(if b=w.heap.size then some (.cells cs.toArray T (0,0)) else J.H b)=some o:=by intro b o hb;rw[if_neg (by have:=wo h.good hb;omega)];exact hb
 have hle:J.Le {J with H:=λb=>if b=w.heap.size then some (.cells cs.toArray T (0,0)) else J.H b}:=⟨z0e _,λ_ _=>rfl,λ_ _=>rfl,hH⟩
 refine⟨⟨h.good.grow hle h.good.n (λ_ _=>rfl) (λ_ _=>rfl) hw (λb o hb=> ?_) (λi b hb=> ?_),⟨h.kept.os,h.kept.tape,h.kept.output,?_,?_,λb o hb=>hH b o (h.kept.H b o hb),λb o hb=> ?_,h.kept.drawn⟩,h.own,h.n,h.blk,h.vv⟩,hle⟩
 ·simp only at hb;by_cases e:b=w.heap.size
  ·rw[if_pos e] at hb;subst e;rw[heap_alloc_new w];exact hb
  ·rw[if_neg e] at hb;rw[hw b (wo h.good hb)];exact h.good.hv b o hb
 ·have:=dw h.good hb;simp only;rw[if_neg (by omega)];exact h.good.sep i b hb
 ·have:=h.kept.size;simp;omega
 ·intro b hb hB;rw[hw b (z02 hb h.kept.size)];exact h.kept.heap b hb hB
 ·simp only at hb;by_cases e:b=w.heap.size
  ·right;left;rw[e];exact h.kept.size
  ·rw[if_neg e] at hb;exact h.kept.fresh b o hb
def Ic:Nat->List (Nat×aV)->Option (List Int)
 |_,[]=>some []
 |j,(i,x)::r=>match x with
  | .c (.int .i64 n)=>if i=j then(Ic (j+1) r).map (n:: ·) else none
  |_=>none
theorem LU:∀ (ys:List (Nat×aV)) (j:Nat) (l:List Int) (L:List SV),Ic j ys=some l->L.length=j+l.length->
  dJ σ 1 L ys (λ_=>True)/\(jS σ L ys).length=L.length/\(∀ k,k<j->(jS σ L ys).getD k .junk=L.getD k .junk)/\∀ k,k<l.length->(jS σ L ys).getD (j+k) .junk= .int .i64 (l.getD k 0)
 |[],j,l,L,h,hl=>by
  simp only[Ic,z00] at h;subst h;exact⟨trivial,rfl,λ_ _=>rfl,λk hk=>absurd hk (z08 _)⟩
 |(i,x)::r,j,l,L,h,hl=>by
  simp only[Ic] at h;split at h<;>try (cases h;done)
  rename_i n;split at h<;>try (cases h;done)
  rename_i hij;subst hij;simp only[z05] at h;obtain⟨l',h1,rfl⟩:=h;simp only[z1q] at hl;obtain⟨k1,k2,k3,k4⟩:=LU r (i+1) l' (L.set i (.int .i64 n)) h1 (by simp;omega)
  refine⟨⟨⟨by omega,rfl,rfl⟩,k1⟩,by rw[jS,aV.ev,k2];simp,λk hk=> ?_,λk hk=> ?_⟩
  ·rw[jS,aV.ev,k3 k (by omega),z0f,z0f,z0g,if_neg (by omega)]
  ·rw[jS,aV.ev];cases k with
   |zero=>
    rw[z1p,k3 i (by omega),z0f,z0g,if_pos rfl,if_pos (by omega)]
    rfl
   |succ k=>
    have:=k4 k (by simpa using hk)
    rw[show i+(k+1)=i+1+k from by omega,this]
    rfl
theorem KI{T E:TypeId}{len:Nat}{z:SV}{ag:Bool}{parts:Array (Nat×Operand)}{ys:List (Nat×aV)}{l:List Int}(ho:o.op= .buildSlice T len parts)(hu:P.underlying T=some (.slice E))(hz:Oz P E=some z)
  (ht:rP P E=some (1,ag)) (hwd:wd z=1) (hlen:len*1<=2^24) (hc:oh parts.toList=some ys) (hl:Ic 0 ys=some l) (hll:len=l.length):
  iW P o σ m (.lst 1 (0:Int) (SV.int .i64) l) m:=by
 obtain⟨h2,h3,_,h4⟩:=LU (σ:=σ) ys 0 l (z0d len z) hl (by simp[hll])
 intro β J a wd' hi hs;obtain⟨cs',g1,hr⟩:=Px ho hu hz ht hwd hlen (by omega) hc h2 wd' hs
 rw[z2i] at h3;have hg1:=g1.1;rw[h3] at hg1;obtain⟨k1,k2⟩:=hi.ahf cs' E;refine⟨_,_,_, .inl hr,⟨[.slice (some ⟨wd'.heap.size,0,none⟩) len len],?_,rfl⟩,k2,k1, .nil (XV ho a _)⟩;simp only[ah];refine⟨some ⟨wd'.heap.size,0,none⟩,len,by rw[hll],by omega,by unfold maxLen;omega,(λh=>by cases h),λi hi'=> ?_⟩
 refine⟨wd'.heap.size,0,E,(0,0),cs'.toArray,rfl,by simp[],by simp;omega,?_⟩
 have:=g1.2 i (by rw[h3];omega)
 have h5:=h4 i hi';rw[z0j] at h5;rw[h5] at this;simp only[ah] at this ⊢;rw[z0j];exact this
theorem Wi{T E:TypeId}{len w:Nat}{z:SV}{ag:Bool}{parts:Array (Nat×Operand)}{ys:List (Nat×aV)}{K:SV->Prop}(ho:o.op= .buildSlice T len parts)(hu:P.underlying T=some (.slice E))(hz:Oz P E=some z)
  (ht:rP P E=some (w,ag)) (hwd:wd z=w) (hlen:len*w<=2^24) (h0:0<w) (hc:oh parts.toList=some ys) (h:dJ σ w (z0d len z) ys λl=>Au l/\K (Vd w len l)):
  ∃ sv,K sv/\∀ m,iW P o σ m sv m:=by
 obtain⟨⟨hd,h1⟩,h2⟩:=kK _ _ h;refine⟨_,h1,λm β J a wd' hi hs=> ?_⟩;obtain⟨cs',g1,hr⟩:=Px ho hu hz ht hwd hlen h0 hc h2 wd' hs;have hll:(jS σ (z0d len z) ys).length=len:=by rw[Ak];simp
 have hg1:=g1.1;rw[hll] at hg1;have hlm:len<=maxLen:=by have:len<=len*w:=z2f _ h0;unfold maxLen;omega
 obtain⟨k1,k2⟩:=hi.ahf cs' E;refine⟨_,_,_, .inl hr,aeV ⟨[.slice (some ⟨wd'.heap.size,0,none⟩) (z0m len).length (z0m len).length],?_,by simp[boxed,SV.isAgg]⟩,k2,k1, .nil (XV ho a _)⟩
 simp only[ah];refine⟨some ⟨wd'.heap.size,0,none⟩,rfl,by simpa using hlm,(λh=>by cases h),λi hi'=> ?_⟩
 simp only[z1l] at hi';have hle:=bF (w:=w) hi';refine⟨wd'.heap.size,0,E,(0,0),cs'.toArray,rfl,by simp[],by simp;omega,?_⟩
 have hr2:(z0m len).getD i 0=i:=by simp[z0f,hi']
 rw[hr2,z0j];exact FP _ (Tn hd (by rw[hll];exact hi')) (g1.2 i (by rw[hll];exact hi'))
end
end Go.Sx
