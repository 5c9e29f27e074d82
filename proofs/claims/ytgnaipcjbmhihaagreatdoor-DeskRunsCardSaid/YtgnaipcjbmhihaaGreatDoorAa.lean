/- A part of DeskRuns' proof. -/
import Derived.WalkKit
import Derived.Orders
import Derived.WalkSpells
import Derived.DeepKeys
import Derived.Laws.Cover3
set_option linter.unusedVariables false
set_option linter.unusedSimpArgs false
open Option renaming some.injEq->z00,map_eq_some_iff->z05,pure_def->z06,map_none->z0u,map_eq_none_iff->z1u
open Go.Sem renaming run_bind->z01,run_pure->z08
open Go.Value renaming oneCell'->z02,ownBlock->z1a,slice.injEq->z2i
open Array renaming getElem?_eq_some_iff->z03,ext'->z0t,range->z1b,length_toList->z2f,getD->z2h
open Nat renaming lt_of_lt_of_le->z04,not_lt_zero->z07,mul_le_mul_right->z09,le_refl->z0a,sub_zero->z0f,le_trans->z0j,zero_add->z0q,ne_of_lt->z0r,zero_le->z0v,add_mul->z0w,lt_trichotomy->z16,lt_or_ge->z19,lt_or_gt_of_ne->z1g,succ_mul->z1i,sub_self->z1j,min_eq_left->z1q,le_mul_of_pos_right->z1z,mul_comm->z2a,add_zero->z2c,eq_or_lt_of_le->z2m
open List renaming drop_of_length_le->z0b,getD->z0c,replicate->z0d,getElem?_set->z0e,range->z0h,ext_getElem?->z0k,getD_eq_getElem?_getD->z0l,getD_cons_succ->z0m,take_of_length_le->z0o,drop_take->z0p,getElem?_eq_none->z0s,nil_append->z0x,take_take->z0y,getElem?_drop->z0z,append_assoc->z14,take_zero->z1c,getD_cons_zero->z1e,map_cons->z1f,length_range->z1h,length_cons->z1k,drop_append->z1l,take_append_of_le_length->z1m,drop_append_of_le_length->z1o,length_set->z1p,mapM_cons->z1r,drop_drop->z1s,extract_eq_take_drop->z1t,headD_eq_head?_getD->z1v,getElem?_take_of_lt->z1w,getElem?_eq_getElem->z1x,getElem?_cons_zero->z1y,length_replicate->z2d,getElem?_append->z2e,take_succ_cons->z2g,set_cons_succ->z2j,getElem?_take->z2k,headD_cons->z2q,head?_take->z2r,head?_drop->z2s,drop_zero->z2u,all_cons->z2w
open Bool renaming and_eq_true->z0g,false_eq_true->z0i,not_eq_true'->z2o
open Go.Oper renaming upon_value->z0n,wp->z1d,upon_skip->z2t
open Prod renaming mk.injEq->z15
open ByteArray renaming size->z18,ext->z2l
open Go.Program renaming built->z2p
open Go.World renaming setRow->z2v
open Go.Act renaming eval->z2x
namespace Go.Sx
open Go
inductive Step where
 |eG (k:Nat)
 |idx (i n:Nat)
inductive SV:Type 1 where
 |int (k:IntKind) (n:Int)
 |bool (b:Bool)
 |str (s:List UInt8)
 |arr (n w:Nat) (f:Nat->SV)
 |agg (l:List SV)
 |bK (l:List SV)
 |lst {O:Type} (w:Nat) (d:O) (f:O->SV) (l:List O)
 |lit {O:Type} (w:Nat) (d:O) (f:O->SV) (l:List O)
 |fM {O:Type} (w:Nat) (d:O) (f:O->SV) (l:List O) (i:Nat) (p:List Step) (off:Nat)
 |ref (c:SV) (p:List Step) (off:Nat)
 |ptr (i:Nat) (p:List Step) (off:Nat)
 |vec (i n:Nat)
 |gX (i j:Nat) (p:List Step) (off:Nat)
 |jO (i n:Nat)
 |map (i:Nat)
 |fn (f:FuncId) (cap:List SV)
 |iface (t:TypeId) (x:SV)
 |bF
 |iP
 |jh
 |jr
 |qx
 |lV
 |raw (v:Value)
 |junk
structure Env where
 n:Nat
 blk:Nat->Nat
 vv:Nat->Value
 H:Nat->Option Obj
def Env.cl(J:Env):Env:= {J with n:=0}
def SV.isAgg:SV->Bool
 | .arr .. | .agg _=>true
 |_=>false
def boxed(isAgg:Bool)(cs:List Value):Value:=if isAgg then .agg cs.toArray else cs.headD undef
def sub(cs:List Value)(a n:Nat):List Value:=(cs.drop a).take n
def fV:List Step->Prop
 |[]=>True
 | .eG _::p=>fV p
 | .idx i n::p=>i<n/\fV p
mutual
def au:SV->Env->List Value->Prop
 | .int k n,_,cs=>cs=[.int k n]
 | .bool b,_,cs=>cs=[.bool b]
 | .str s,_,cs=>cs=[.string ⟨s.toArray⟩]
 | .arr n w f,J,cs=>cs.length=n*w/\∀ i,i<n->au (f i) J (sub cs (i*w) w)
 | .agg l,J,cs=>bQ l J cs
 | .bK _,_,_=>False
 | .lst w d f l,J,cs=> ∃ ao cap,cs=[.slice ao l.length cap]/\l.length<=cap/\cap<=maxLen/\(ao=none->cap=0)/\
   ∀ i,i<l.length->∃ b off T fz cur,ao=some ⟨b,off,none⟩/\J.H b=some (.cells cur T fz)/\off+i*w+w<=cur.size/\
    au (f (l.getD i d)) J.cl (sub cur.toList (off+i*w) w)
 | .lit w d f l,J,cs=> ∃ ao,cs=[.slice ao l.length l.length]/\l.length<=maxLen/\(ao=none->l.length=0)/\
   ∀ i,i<l.length->∃ b off T fz cur,ao=some ⟨b,off,none⟩/\J.H b=some (.cells cur T fz)/\off+i*w+w<=cur.size/\
    au (f (l.getD i d)) J.cl (sub cur.toList (off+i*w) w)
 | .fM w d f l i p o,J,cs=> ∃ b off T fz cur,cs=[.pointer (some ⟨b,off+i*w+o,none⟩)]/\i<l.length/\J.H b=some (.cells cur T fz)/\fV p/\
    off+i*w+w<=cur.size/\au (f (l.getD i d)) J.cl (sub cur.toList (off+i*w) w)
 | .ref c p o,J,cs=> ∃ b T fz cur,cs=[.pointer (some ⟨b,o,none⟩)]/\J.H b=some (.cells cur T fz)/\fV p/\au c J.cl cur.toList
 | .ptr i p o,J,cs=>i<J.n/\fV p/\cs=[.pointer (some ⟨J.blk i,o,none⟩)]
 | .vec i n,J,cs=>i<J.n/\(J.vv i= .slice none 0 0/\n=0\/∃ b cap,J.vv i= .slice (some ⟨b,0,none⟩) n cap/\n<=cap)/\cs=[J.vv i]
 | .jO i n,J,cs=>i<J.n/\∃ ao n0 cap,J.vv i= .slice ao n0 cap/\n<=n0/\cs=[.slice ao n cap]
 | .gX i j p o,J,cs=>i<J.n/\fV p/\∃ b cap n,J.vv i= .slice (some ⟨b,0,none⟩) n cap/\j<n/\cs=[.pointer (some ⟨b,o,none⟩)]
 | .map i,J,cs=>i<J.n/\cs=[.map (some (J.blk i))]
 | .fn f cap,J,cs=> ∃ vs,bg cap J vs/\cs=[.func (.func f) #[] vs.toArray]
 | .iface t x,J,cs=> ∃ xs,au x J xs/\cs=[.iface t (boxed x.isAgg xs)]
 | .bF,_,cs=>cs=[.slice none 0 0]
 | .iP,_,cs=>cs=[.nilIface]
 | .jh,_,cs=>cs=[.nilFunc]
 | .jr,_,cs=>cs=[.pointer none]
 | .qx,_,cs=>cs=[.map none]
 | .lV,_,cs=> ∃ b:Bool,cs=[.bool b]
 | .raw v,_,cs=>v.oneCell'=true/\cs=[v]
 | .junk,_,cs=> ∃ v:Value,v.oneCell'=true/\cs=[v]
def bQ:List SV->Env->List Value->Prop
 |[],_,cs=>cs=[]
 |x::r,J,cs=> ∃ a b,cs=a++b/\au x J a/\bQ r J b
def bg:List SV->Env->List Value->Prop
 |[],_,vs=>vs=[]
 |x::r,J,vs=> ∃ cs t,vs=boxed x.isAgg cs::t/\au x J cs/\bg r J t
end
def bM(J:Env)(x:SV)(v:Value):Prop:=
 match x with
 | .bK l=> ∃ vs,bg l J vs/\v= .tuple vs.toArray
 | .junk=>True
 |x=> ∃ cs,au x J cs/\v=boxed x.isAgg cs
structure Env.Le(J J':Env):Prop where
 n:J.n<=J'.n
 blk:∀ i,i<J.n->J'.blk i=J.blk i
 vv:∀ i,i<J.n->J'.vv i=J.vv i
 H:∀ b o,J.H b=some o->J'.H b=some o
theorem Env.Le.refl(J:Env):J.Le J:=⟨z0a _,λ_ _=>rfl,λ_ _=>rfl,λ_ _ h=>h⟩
theorem Env.Le.trans{a b c:Env}(h:a.Le b)(k:b.Le c):a.Le c:=
 ⟨z0j h.n k.n,λi hi=>(k.blk i (z04 hi h.n)).trans (h.blk i hi),λi hi=>(k.vv i (z04 hi h.n)).trans (h.vv i hi),λb o h'=>k.H b o (h.H b o h')⟩
theorem Env.Le.cl{J J':Env}(h:J.Le J'):J.cl.Le J'.cl:=⟨z0a _,λ_ hi=>absurd hi (z07 _),λ_ hi=>absurd hi (z07 _),h.H⟩
mutual
theorem au.mono:∀ (c:SV) {J J':Env} {cs:List Value},J.Le J'->au c J cs->au c J' cs
 | .int ..,_,_,_,_,h=>h
 | .bool ..,_,_,_,_,h=>h
 | .str ..,_,_,_,_,h=>h
 | .arr n w f,_,_,_,hl,h=>by
  simp only[au] at h ⊢;exact⟨h.1,λi hi=>au.mono (f i) hl (h.2 i hi)⟩
 | .agg l,_,_,_,hl,h=>by simp only[au] at h ⊢;exact bQ.mono l hl h
 | .bK _,_,_,_,_,h=>h
 | .lst w d f l,_,_,_,hl,h=>by
  simp only[au] at h ⊢;obtain⟨ao,cap,h1,h2,h3,h4,h5⟩:=h;refine⟨ao,cap,h1,h2,h3,h4,λi hi=> ?_⟩;obtain⟨b,off,T,fz,cur,e1,e2,e3,e4⟩:=h5 i hi;exact⟨b,off,T,fz,cur,e1,hl.H _ _ e2,e3,au.mono (f (l.getD i d)) hl.cl e4⟩
 | .lit w d f l,_,_,_,hl,h=>by
  simp only[au] at h ⊢;obtain⟨ao,h1,h3,h4,h5⟩:=h;refine⟨ao,h1,h3,h4,λi hi=> ?_⟩;obtain⟨b,off,T,fz,cur,e1,e2,e3,e4⟩:=h5 i hi;exact⟨b,off,T,fz,cur,e1,hl.H _ _ e2,e3,au.mono (f (l.getD i d)) hl.cl e4⟩
 | .fM w d f l i p o,_,_,_,hl,h=>by
  simp only[au] at h ⊢;obtain⟨b,off,T,fz,cur,h1,h2,h3,h4,h5,h6⟩:=h;exact⟨b,off,T,fz,cur,h1,h2,hl.H _ _ h3,h4,h5,au.mono (f (l.getD i d)) hl.cl h6⟩
 | .ref c p o,_,_,_,hl,h=>by
  simp only[au] at h ⊢;obtain⟨b,T,fz,cur,h1,h2,h3,h4⟩:=h;exact⟨b,T,fz,cur,h1,hl.H _ _ h2,h3,au.mono c hl.cl h4⟩
 | .ptr i p o,_,_,_,hl,h=>by
  simp only[au] at h ⊢;exact⟨z04 h.1 hl.n,h.2.1,by rw[hl.blk i h.1];exact h.2.2⟩
 | .vec i n,_,_,_,hl,h=>by
  simp only[au] at h ⊢;exact⟨z04 h.1 hl.n,by rw[hl.vv i h.1];exact h.2⟩
 | .jO i n,_,_,_,hl,h=>by
  simp only[au] at h ⊢;exact⟨z04 h.1 hl.n,by rw[hl.vv i h.1];exact h.2⟩
 | .gX i j p o,_,_,_,hl,h=>by
  simp only[au] at h ⊢;exact⟨z04 h.1 hl.n,h.2.1,by rw[hl.vv i h.1];exact h.2.2⟩
 | .map i,_,_,_,hl,h=>by
  simp only[au] at h ⊢;exact⟨z04 h.1 hl.n,by rw[hl.blk i h.1];exact h.2⟩
 | .fn f cap,_,_,_,hl,h=>by
  simp only[au] at h ⊢;obtain⟨vs,h1,h2⟩:=h;exact⟨vs,bg.mono cap hl h1,h2⟩
 | .iface t x,_,_,_,hl,h=>by
  simp only[au] at h ⊢;obtain⟨xs,h1,h2⟩:=h;exact⟨xs,au.mono x hl h1,h2⟩
 | .bF,_,_,_,_,h=>h
 | .iP,_,_,_,_,h=>h
 | .jh,_,_,_,_,h=>h
 | .jr,_,_,_,_,h=>h
 | .qx,_,_,_,_,h=>h
 | .lV,_,_,_,_,h=>h
 | .raw _,_,_,_,_,h=>h
 | .junk,_,_,_,_,h=>h
theorem bQ.mono:∀ (l:List SV) {J J':Env} {cs:List Value},J.Le J'->bQ l J cs->bQ l J' cs
 |[],_,_,_,_,h=>h
 |x::r,_,_,_,hl,h=>by simp only[bQ] at h ⊢;obtain⟨a,b,h1,h2,h3⟩:=h;exact⟨a,b,h1,au.mono x hl h2,bQ.mono r hl h3⟩
theorem bg.mono:∀ (l:List SV) {J J':Env} {vs:List Value},J.Le J'->bg l J vs->bg l J' vs
 |[],_,_,_,_,h=>h
 |x::r,_,_,_,hl,h=>by simp only[bg] at h ⊢;obtain⟨cs,t,h1,h2,h3⟩:=h;exact⟨cs,t,h1,au.mono x hl h2,bg.mono r hl h3⟩
end
theorem bM.mono{x:SV}{J J':Env}{v:Value}(hl:J.Le J')(h:bM J x v):bM J' x v:=by
 cases x
 case bK l=>obtain⟨vs,h1,h2⟩:=h;exact⟨vs,bg.mono l hl h1,h2⟩
 case junk=>trivial
 all_goals (obtain⟨cs,h1,h2⟩:=h;exact⟨cs,au.mono _ hl h1,h2⟩)
end Go.Sx
namespace Go.Sx
open Go
mutual
def wd:SV->Nat
 | .arr n w _=>n*w
 | .agg l=>DZ l
 |_=>1
def DZ:List SV->Nat
 |[]=>0
 |x::r=>wd x+DZ r
end
theorem fQ{cs:List Value}{a n:Nat}(h:a+n<=cs.length):(sub cs a n).length=n:=by simp[sub];omega
theorem bG{i n w:Nat}(h:i<n):i*w+w<=n*w:=by have:(i+1)*w<=n*w:=z09 _ h;rw[z0w] at this;omega
mutual
theorem au.length:∀ (c:SV) {J:Env} {cs:List Value},au c J cs->cs.length=wd c
 | .arr n w f,_,_,h=>by simp only[au] at h;simp only[wd];exact h.1
 | .agg l,_,_,h=>by simp only[au] at h;simp only[wd];exact bQ.length l h
 | .bK _,_,_,h=>by simp only[au] at h
 | .int ..,_,_,h=>by simp only[au] at h;subst h;rfl
 | .bool ..,_,_,h=>by simp only[au] at h;subst h;rfl
 | .str ..,_,_,h=>by simp only[au] at h;subst h;rfl
 | .lst ..,_,_,h=>by simp only[au] at h;obtain⟨_,_,h,_⟩:=h;subst h;rfl
 | .lit ..,_,_,h=>by simp only[au] at h;obtain⟨_,h,_⟩:=h;subst h;rfl
 | .fM ..,_,_,h=>by simp only[au] at h;obtain⟨_,_,_,_,_,h,_⟩:=h;subst h;rfl
 | .ref ..,_,_,h=>by simp only[au] at h;obtain⟨_,_,_,_,h,_⟩:=h;subst h;rfl
 | .ptr ..,_,_,h=>by simp only[au] at h;obtain⟨_,_,h⟩:=h;subst h;rfl
 | .vec ..,_,_,h=>by simp only[au] at h;obtain⟨_,_,h⟩:=h;subst h;rfl
 | .gX ..,_,_,h=>by simp only[au] at h;obtain⟨_,_,_,_,_,_,_,h⟩:=h;subst h;rfl
 | .jO ..,_,_,h=>by simp only[au] at h;obtain⟨_,_,_,_,_,_,h⟩:=h;subst h;rfl
 | .map ..,_,_,h=>by simp only[au] at h;obtain⟨_,h⟩:=h;subst h;rfl
 | .fn ..,_,_,h=>by simp only[au] at h;obtain⟨_,_,h⟩:=h;subst h;rfl
 | .iface ..,_,_,h=>by simp only[au] at h;obtain⟨_,_,h⟩:=h;subst h;rfl
 | .bF,_,_,h=>by simp only[au] at h;subst h;rfl
 | .iP,_,_,h=>by simp only[au] at h;subst h;rfl
 | .jh,_,_,h=>by simp only[au] at h;subst h;rfl
 | .jr,_,_,h=>by simp only[au] at h;subst h;rfl
 | .qx,_,_,h=>by simp only[au] at h;subst h;rfl
 | .lV,_,_,h=>by simp only[au] at h;obtain⟨_,h⟩:=h;subst h;rfl
 | .raw ..,_,_,h=>by simp only[au] at h;obtain⟨_,h⟩:=h;subst h;rfl
 | .junk,_,_,h=>by simp only[au] at h;obtain⟨_,_,h⟩:=h;subst h;rfl
theorem bQ.length:∀ (l:List SV) {J:Env} {cs:List Value},bQ l J cs->cs.length=DZ l
 |[],_,_,h=>by simp only[bQ] at h;subst h;rfl
 |x::r,_,_,h=>by simp only[bQ] at h;obtain⟨a,b,h1,h2,h3⟩:=h;have e1:=au.length x h2;have e2:=bQ.length r h3;subst h1;simp[DZ,e1,e2]
end
theorem iK{cs:List Value}{a n j:Nat}:(sub cs a n)[j]? =if j<n then cs[a+j]? else none:=by
 unfold sub;rw[z2k];split
 ·rw[z0z]
 ·rfl
theorem xH{n w:Nat}{cs:List Value}(hl:cs.length=n*w){u:Value}(hu:u∈cs):∃ i,i<n/\u∈sub cs (i*w) w:=by
 obtain⟨j,hj,rfl⟩:=List.getElem_of_mem hu;have hw:0<w:=by
  rcases Nat.eq_zero_or_pos w with h|h
  ·subst h;simp at hl;subst hl;simp at hj
  ·exact h
 refine⟨j/w,?_,?_⟩
 ·rw[hl] at hj;exact Nat.div_lt_of_lt_mul (by rwa [z2a] at hj)
 ·apply List.mem_of_getElem? (i:=j%w);rw[iK,if_pos (Nat.mod_lt _ hw)];rw[z2a,Nat.div_add_mod];exact z1x hj
mutual
theorem au.one:∀ (c:SV) {J:Env} {cs:List Value},au c J cs->∀ u∈cs,u.oneCell'=true
 | .arr n w f,_,cs,h=>by
  simp only[au] at h;intro u hu;obtain⟨i,hi,hm⟩:=xH h.1 hu;exact au.one (f i) (h.2 i hi) u hm
 | .agg l,_,_,h=>by simp only[au] at h;exact bQ.one l h
 | .bK _,_,_,h=>by simp only[au] at h
 | .int ..,_,_,h=>by simp only[au] at h;subst h;simp[z02]
 | .bool ..,_,_,h=>by simp only[au] at h;subst h;simp[z02]
 | .str ..,_,_,h=>by simp only[au] at h;subst h;simp[z02]
 | .lst ..,_,_,h=>by simp only[au] at h;obtain⟨_,_,h,_⟩:=h;subst h;simp[z02]
 | .lit ..,_,_,h=>by simp only[au] at h;obtain⟨_,h,_⟩:=h;subst h;simp[z02]
 | .fM ..,_,_,h=>by simp only[au] at h;obtain⟨_,_,_,_,_,h,_⟩:=h;subst h;simp[z02]
 | .ref ..,_,_,h=>by simp only[au] at h;obtain⟨_,_,_,_,h,_⟩:=h;subst h;simp[z02]
 | .ptr ..,_,_,h=>by simp only[au] at h;obtain⟨_,_,h⟩:=h;subst h;simp[z02]
 | .vec ..,_,_,h=>by
  simp only[au] at h;obtain⟨_,e,h⟩:=h;subst h;rcases e with⟨e,_⟩|⟨b,cap,e⟩<;>simp[e,z02]
 | .gX ..,_,_,h=>by simp only[au] at h;obtain⟨_,_,_,_,_,_,_,h⟩:=h;subst h;simp[z02]
 | .jO ..,_,_,h=>by simp only[au] at h;obtain⟨_,_,_,_,_,_,h⟩:=h;subst h;simp[z02]
 | .map ..,_,_,h=>by simp only[au] at h;obtain⟨_,h⟩:=h;subst h;simp[z02]
 | .fn ..,_,_,h=>by simp only[au] at h;obtain⟨_,_,h⟩:=h;subst h;simp[z02]
 | .iface ..,_,_,h=>by simp only[au] at h;obtain⟨_,_,h⟩:=h;subst h;simp[z02]
 | .bF,_,_,h=>by simp only[au] at h;subst h;simp[z02]
 | .iP,_,_,h=>by simp only[au] at h;subst h;simp[z02]
 | .jh,_,_,h=>by simp only[au] at h;subst h;simp[z02]
 | .jr,_,_,h=>by simp only[au] at h;subst h;simp[z02]
 | .qx,_,_,h=>by simp only[au] at h;subst h;simp[z02]
 | .lV,_,_,h=>by simp only[au] at h;obtain⟨_,h⟩:=h;subst h;simp[z02]
 | .raw ..,_,_,h=>by simp only[au] at h;obtain⟨e,h⟩:=h;subst h;simpa using e
 | .junk,_,_,h=>by simp only[au] at h;obtain⟨_,e,h⟩:=h;subst h;simpa using e
theorem bQ.one:∀ (l:List SV) {J:Env} {cs:List Value},bQ l J cs->∀ u∈cs,u.oneCell'=true
 |[],_,_,h=>by simp only[bQ] at h;subst h;simp
 |x::r,_,_,h=>by
  simp only[bQ] at h;obtain⟨a,b,h1,h2,h3⟩:=h;subst h1;intro u hu;rcases List.mem_append.1 hu with hu|hu
  ·exact au.one x h2 u hu
  ·exact bQ.one r h3 u hu
end
def wS(f:Nat->SV)(i:Nat)(x:SV):Nat->SV:=λj=>if j=i then x else f j
def dP:SV->List Step->SV
 |c,[]=>c
 | .agg l, .eG k::p=>dP (l.getD k .junk) p
 | .arr _ _ f, .idx i _::p=>dP (f i) p
 |_,_::_=> .junk
def tX:SV->List Step->SV->SV
 |_,[],x=>x
 | .agg l, .eG k::p,x=> .agg (l.set k (tX (l.getD k .junk) p x))
 | .arr n w f, .idx i _::p,x=> .arr n w (wS f i (tX (f i) p x))
 |c,_::_,_=>c
def iM:SV->List Step->Nat->Nat->Prop
 |_,[],acc,o=>o=acc
 | .agg l, .eG k::p,acc,o=>k<l.length/\iM (l.getD k .junk) p (acc+DZ (l.take k)) o
 | .arr n w f, .idx i n'::p,acc,o=>n'=n/\iM (f i) p (acc+i*w) o
 |_,_::_,_,_=>False
theorem bQ.nth:∀ (l:List SV) (k:Nat) {J:Env} {cs:List Value},bQ l J cs->k<l.length->
  au (l.getD k .junk) J (sub cs (DZ (l.take k)) (wd (l.getD k .junk)))/\DZ (l.take k)+wd (l.getD k .junk)<=cs.length
 |[],k,_,_,_,hk=>absurd hk (z07 _)
 |x::r,0,J,cs,h,_=>by
  simp only[bQ] at h;obtain⟨a,b,h1,h2,h3⟩:=h;have e1:=au.length x h2;subst h1;simp only[z1c,DZ,z1e,sub,z2u,<- e1,List.take_left];exact⟨h2,by simp⟩
 |x::r,k+1,J,cs,h,hk=>by
  simp only[bQ] at h;obtain⟨a,b,h1,h2,h3⟩:=h;have e1:=au.length x h2;obtain⟨i1,i2⟩:=bQ.nth r k h3 (by simpa using hk)
  subst h1;simp only[z2g,DZ,z0m];refine⟨?_,by rw[List.length_append];omega⟩
  unfold sub at i1 ⊢;rw[<- e1,z1l,z0b (by omega)]
  simpa using i1
theorem sub_sub{cs:List Value}{a n b m:Nat}(h:b+m<=n):sub (sub cs a n) b m=sub cs (a+b) m:=by simp only[sub,z0p,z1s,z0y];rw[z1q (by omega)]
theorem au.get:∀ (p:List Step) (c:SV) {J:Env} {cs:List Value} (acc o:Nat),au c J cs->fV p->iM c p acc o->
  acc<=o/\au (dP c p) J (sub cs (o - acc) (wd (dP c p)))/\(o - acc)+wd (dP c p)<=cs.length
 |[],c,J,cs,acc,o,h,_,ho=>by
  have e:=au.length c h;simp only[iM] at ho;subst ho;cases c<;>simp only[dP]<;>refine⟨z0a _,?_,?_⟩<;>first
   |(simp only[z1j,sub,z2u,<- e,List.take_length];exact h)
   |(rw[<- e];omega)
 | .eG k::p, .agg l,J,cs,acc,o,h,hp,ho=>by
  simp only[iM] at ho;obtain⟨hk,ho⟩:=ho;simp only[au] at h;obtain⟨h1,h2⟩:=bQ.nth l k h hk;simp only[fV] at hp;obtain⟨i1,i2,i3⟩:=au.get p (l.getD k .junk) _ o h1 hp ho;have hlen:=au.length _ h1;simp only[dP];rw[hlen] at i3;rw[sub_sub i3] at i2;refine⟨by omega,?_,by omega⟩
  have:DZ (l.take k)+(o - (acc+DZ (l.take k)))=o - acc:=by omega
  rw[this] at i2;exact i2
 | .idx i n'::p, .arr n w f,J,cs,acc,o,h,hp,ho=>by
  simp only[iM] at ho;obtain⟨hn,ho⟩:=ho;subst hn;simp only[au] at h;simp only[fV] at hp;obtain⟨hl,hf⟩:=h;have hw:=bG (w:=w) hp.1;obtain⟨i1,i2,i3⟩:=au.get p (f i) _ o (hf i hp.1) hp.2 ho;have hs:(sub cs (i*w) w).length=w:=fQ (by omega)
  rw[hs] at i3;rw[sub_sub i3] at i2;simp only[dP];refine⟨by omega,?_,by omega⟩
  have:i*w+(o - (acc+i*w))=o - acc:=by omega
  rw[this] at i2;exact i2
 | .eG k::p, .arr ..,_,_,_,_,_,_,ho=>by simp only[iM] at ho
 | .idx .. ::p, .agg ..,_,_,_,_,_,_,ho=>by simp only[iM] at ho
 |_::_, .int ..,_,_,_,_,_,_,ho=>by simp only[iM] at ho
 |_::_, .bool ..,_,_,_,_,_,_,ho=>by simp only[iM] at ho
 |_::_, .str ..,_,_,_,_,_,_,ho=>by simp only[iM] at ho
 |_::_, .bK ..,_,_,_,_,_,_,ho=>by simp only[iM] at ho
 |_::_, .lst ..,_,_,_,_,_,_,ho=>by simp only[iM] at ho
 |_::_, .lit ..,_,_,_,_,_,_,ho=>by simp only[iM] at ho
 |_::_, .fM ..,_,_,_,_,_,_,ho=>by simp only[iM] at ho
 |_::_, .ref ..,_,_,_,_,_,_,ho=>by simp only[iM] at ho
 |_::_, .ptr ..,_,_,_,_,_,_,ho=>by simp only[iM] at ho
 |_::_, .vec ..,_,_,_,_,_,_,ho=>by simp only[iM] at ho
 |_::_, .gX ..,_,_,_,_,_,_,ho=>by simp only[iM] at ho
 |_::_, .jO ..,_,_,_,_,_,_,ho=>by simp only[iM] at ho
 |_::_, .map ..,_,_,_,_,_,_,ho=>by simp only[iM] at ho
 |_::_, .fn ..,_,_,_,_,_,_,ho=>by simp only[iM] at ho
 |_::_, .iface ..,_,_,_,_,_,_,ho=>by simp only[iM] at ho
 |_::_, .bF,_,_,_,_,_,_,ho=>by simp only[iM] at ho
 |_::_, .iP,_,_,_,_,_,_,ho=>by simp only[iM] at ho
 |_::_, .jh,_,_,_,_,_,_,ho=>by simp only[iM] at ho
 |_::_, .jr,_,_,_,_,_,_,ho=>by simp only[iM] at ho
 |_::_, .qx,_,_,_,_,_,_,ho=>by simp only[iM] at ho
 |_::_, .lV,_,_,_,_,_,_,ho=>by simp only[iM] at ho
 |_::_, .raw ..,_,_,_,_,_,_,ho=>by simp only[iM] at ho
 |_::_, .junk,_,_,_,_,_,_,ho=>by simp only[iM] at ho
theorem mW{c:SV}{J:Env}{cs:List Value}(h:au c J cs):(boxed c.isAgg cs).cells=cs.toArray:=by
 have h1:=au.one c h;have h2:=au.length c h;cases hc:c.isAgg with
 |true=>rfl
 |false=>
  have h3:wd c=1:=by cases c<;>first|rfl|cases hc
  match cs,h2,h1 with
  |[v],_,h1=>
   have:=h1 v (by simp)
   simp only[boxed,z0i,if_false,z2q];cases v<;>first|rfl|(simp[z02] at this)
  |[],h2,_=>rw[h3] at h2;cases h2
  |_::_::_,h2,_=>rw[h3] at h2;simp at h2
def splice(cs:List Value)(a:Nat)(xs:List Value):List Value:=cs.take a++xs++cs.drop (a+xs.length)
theorem og{cs xs:List Value}{a:Nat}(h:a+xs.length<=cs.length):(splice cs a xs).length=cs.length:=by simp[splice];omega
theorem jV{cs xs:List Value}{a j:Nat}(h:a+xs.length<=cs.length):
  (splice cs a xs)[j]? =if a<=j/\j<a+xs.length then xs[j - a]? else cs[j]? :=by
 unfold splice;rw[z14,z2e];have hl:(cs.take a).length=a:=by simp;omega
 rw[hl];by_cases h1:j<a
 ·rw[if_pos h1,if_neg (by omega),z2k,if_pos h1]
 ·rw[if_neg h1,z2e];by_cases h2:j<a+xs.length
  ·rw[if_pos (by omega),if_pos ⟨by omega,h2⟩]
  ·rw[if_neg (by omega),if_neg (by omega),z0z]
   congr 1;omega
theorem uQ{cs xs:List Value}{a n b:Nat}(h1:a<=b)(h2:b+xs.length<=a+n)(h3:a+n<=cs.length):
  sub (splice cs b xs) a n=splice (sub cs a n) (b - a) xs:=by
 apply z0k;intro j;have hl:(sub cs a n).length=n:=fQ h3;rw[iK,jV (by omega),jV (by omega),iK]
 by_cases hj:j<n
 ·rw[if_pos hj,if_pos hj];by_cases hc:b<=a+j/\a+j<b+xs.length
  ·rw[if_pos hc,if_pos (by omega)];congr 1;omega
  ·rw[if_neg hc,if_neg (by omega)]
 ·rw[if_neg hj,if_neg hj,if_neg (by omega)]
theorem sV{cs xs:List Value}{a n b:Nat}(h:b+xs.length<=a\/a+n<=b)(h3:b+xs.length<=cs.length):
  sub (splice cs b xs) a n=sub cs a n:=by
 apply z0k;intro j;rw[iK,jV (by omega),iK]
 by_cases hj:j<n
 ·rw[if_pos hj,if_pos hj,if_neg (by omega)]
 ·rw[if_neg hj,if_neg hj]
theorem Lh{cs xs:List Value}{a n b:Nat}(h1:a+n<=cs.length)(h2:b+xs.length<=n):
  splice cs a (splice (sub cs a n) b xs)=splice cs (a+b) xs:=by
 have hs:(sub cs a n).length=n:=fQ h1;have hl:(splice (sub cs a n) b xs).length=n:=by rw[og (by omega),hs]
 apply z0k;intro j;rw[jV (xs:=splice (sub cs a n) b xs) (by omega),jV (cs:=cs) (xs:=xs) (by omega),hl]
 by_cases hj:a<=j/\j<a+n
 ·rw[if_pos hj,jV (by omega),iK]
  by_cases hj2:b<=j - a/\j - a<b+xs.length
  ·rw[if_pos hj2,if_pos (by omega)];congr 1;omega
  ·rw[if_neg hj2,if_pos (show j - a<n by omega),if_neg (show ¬ (a+b<=j/\j<a+b+xs.length) by omega)];congr 1;omega
 ·rw[if_neg hj,if_neg (by omega)]
theorem bQ.aiB:∀ (l:List SV) (k:Nat) {J:Env} {cs xs:List Value} {x:SV} (_:bQ l J cs) (_:k<l.length)
  (_:au x J xs) (_:xs.length=wd (l.getD k .junk)),bQ (l.set k x) J (splice cs (DZ (l.take k)) xs)
 |[],k,_,_,_,_,_,hk,_,_=>absurd hk (z07 _)
 |y::r,0,J,cs,xs,x,h,_,hx,hl=>by
  simp only[bQ] at h;obtain⟨a,b,h1,h2,h3⟩:=h;have e1:=au.length y h2;subst h1;simp only[z1e] at hl;simp only[List.set_cons_zero,bQ,z1c,DZ,splice,z0x,z0q,hl,<- e1,List.drop_left];exact⟨xs,b,rfl,hx,h3⟩
 |y::r,k+1,J,cs,xs,x,h,hk,hx,hl=>by
  simp only[bQ] at h;obtain⟨a,b,h1,h2,h3⟩:=h;have e1:=au.length y h2;have ih:=bQ.aiB r k h3 (by simpa using hk) hx (by simpa using hl)
  subst h1;simp only[z2j,bQ,z2g,DZ];refine⟨a,_,?_,h2,ih⟩;simp only[splice,<- e1,List.take_append,z1l,z14];rw[z0o (by omega),z0b (by omega)]
  simp[Nat.add_assoc]
theorem aoH:∀ (p:List Step) (c x:SV) (acc o:Nat),iM c p acc o->wd x=wd (dP c p)->wd (tX c p x)=wd c:=by
 intro p
 induction p with
 |nil=>intro c x acc o _ h;cases c<;>simpa[tX,dP] using h
 |cons s p ih=>
  intro c x acc o ho h;cases c<;>cases s<;>simp only[iM] at ho
  ·simp[tX,wd]
  ·rename_i l k;simp only[dP] at h;have:=ih _ _ _ _ ho.2 h;simp only[tX,wd];clear ih ho h;revert k
   induction l with
   |nil=>intro k _;simp
   |cons y r ihl=>
    intro k hk;cases k with
    |zero=>simp only[z1e] at hk;simp[DZ,hk]
    |succ k=>simp only[z0m] at hk;simp only[z0m,z2j,DZ,ihl k hk]
theorem au.set:∀ (p:List Step) (c:SV) {J:Env} {cs xs:List Value} {x:SV} (acc o:Nat),au c J cs->fV p->iM c p acc o->
  au x J xs->wd x=wd (dP c p)->au (tX c p x) J (splice cs (o - acc) xs)
 |[],c,J,cs,xs,x,acc,o,h,_,ho,hx,hw=>by
  have e:=au.length c h;have e2:=au.length x hx;have hw':wd x=wd c:=by cases c<;>simpa[dP] using hw
  simp only[iM] at ho;subst ho;have:splice cs (o - o) xs=xs:=by simp only[z1j,splice,z1c,z0x,z0q];rw[z0b (by omega)];simp
  rw[this];cases c<;>exact hx
 | .eG k::p, .agg l,J,cs,xs,x,acc,o,h,hp,ho,hx,hw=>by
  simp only[iM] at ho;obtain⟨hk,ho⟩:=ho;simp only[au] at h;simp only[fV] at hp;simp only[dP] at hw;obtain⟨h1,h2⟩:=bQ.nth l k h hk;obtain⟨i1,i2,i3⟩:=au.get p (l.getD k .junk) _ o h1 hp ho;have ih:=au.set p (l.getD k .junk) _ o h1 hp ho hx hw;have hl1:=au.length _ h1;have hl2:=au.length _ ih;have hx2:=au.length x hx;have hwd:=aoH p (l.getD k .junk) x _ o ho hw;have:=bQ.aiB l k h hk ih (by rw[hl2,hwd])
  simp only[tX,au];have key:=Lh (cs:=cs) (xs:=xs) (a:=DZ (l.take k)) (n:=wd (l.getD k .junk)) (b:=o - (acc+DZ (l.take k))) (by omega) (by omega)
  rw[show DZ (l.take k)+(o - (acc+DZ (l.take k)))=o - acc by omega] at key
  rw[key] at this;exact this
 | .idx i n'::p, .arr n w f,J,cs,xs,x,acc,o,h,hp,ho,hx,hw=>by
  simp only[iM] at ho;obtain⟨hn,ho⟩:=ho;subst hn;simp only[au] at h;simp only[fV] at hp;simp only[dP] at hw;obtain⟨hl,hf⟩:=h;have hwl:=bG (w:=w) hp.1;obtain⟨i1,i2,i3⟩:=au.get p (f i) _ o (hf i hp.1) hp.2 ho;have ih:=au.set p (f i) _ o (hf i hp.1) hp.2 ho hx hw;have hs:(sub cs (i*w) w).length=w:=fQ (by omega)
  have hx2:=au.length x hx;rw[hs] at i3;simp only[tX,au];refine⟨by rw[og (by omega)];exact hl,λj hj=> ?_⟩
  unfold wS;by_cases hji:j=i
  ·subst hji;rw[if_pos rfl,uQ (by omega) (by omega) (by omega)]
   have:o - acc - j*w=o - (acc+j*w):=by omega
   rw[this];exact ih
  ·rw[if_neg hji,sV ?_ (by omega)]
   ·exact hf j hj
   ·rcases z1g hji with hlt|hgt
    ·right;have:=bG (w:=w) hlt;omega
    ·left;have:=bG (w:=w) hgt;omega
 | .eG k::p, .arr ..,_,_,_,_,_,_,_,_,ho,_,_=>by simp only[iM] at ho
 | .idx .. ::p, .agg ..,_,_,_,_,_,_,_,_,ho,_,_=>by simp only[iM] at ho
 |_::_, .int ..,_,_,_,_,_,_,_,_,ho,_,_=>by simp only[iM] at ho
 |_::_, .bool ..,_,_,_,_,_,_,_,_,ho,_,_=>by simp only[iM] at ho
 |_::_, .str ..,_,_,_,_,_,_,_,_,ho,_,_=>by simp only[iM] at ho
 |_::_, .bK ..,_,_,_,_,_,_,_,_,ho,_,_=>by simp only[iM] at ho
 |_::_, .lst ..,_,_,_,_,_,_,_,_,ho,_,_=>by simp only[iM] at ho
 |_::_, .lit ..,_,_,_,_,_,_,_,_,ho,_,_=>by simp only[iM] at ho
 |_::_, .fM ..,_,_,_,_,_,_,_,_,ho,_,_=>by simp only[iM] at ho
 |_::_, .ref ..,_,_,_,_,_,_,_,_,ho,_,_=>by simp only[iM] at ho
 |_::_, .ptr ..,_,_,_,_,_,_,_,_,ho,_,_=>by simp only[iM] at ho
 |_::_, .vec ..,_,_,_,_,_,_,_,_,ho,_,_=>by simp only[iM] at ho
 |_::_, .gX ..,_,_,_,_,_,_,_,_,ho,_,_=>by simp only[iM] at ho
 |_::_, .jO ..,_,_,_,_,_,_,_,_,ho,_,_=>by simp only[iM] at ho
 |_::_, .map ..,_,_,_,_,_,_,_,_,ho,_,_=>by simp only[iM] at ho
 |_::_, .fn ..,_,_,_,_,_,_,_,_,ho,_,_=>by simp only[iM] at ho
 |_::_, .iface ..,_,_,_,_,_,_,_,_,ho,_,_=>by simp only[iM] at ho
 |_::_, .bF,_,_,_,_,_,_,_,_,ho,_,_=>by simp only[iM] at ho
 |_::_, .iP,_,_,_,_,_,_,_,_,ho,_,_=>by simp only[iM] at ho
 |_::_, .jh,_,_,_,_,_,_,_,_,ho,_,_=>by simp only[iM] at ho
 |_::_, .jr,_,_,_,_,_,_,_,_,ho,_,_=>by simp only[iM] at ho
 |_::_, .qx,_,_,_,_,_,_,_,_,ho,_,_=>by simp only[iM] at ho
 |_::_, .lV,_,_,_,_,_,_,_,_,ho,_,_=>by simp only[iM] at ho
 |_::_, .raw ..,_,_,_,_,_,_,_,_,ho,_,_=>by simp only[iM] at ho
 |_::_, .junk,_,_,_,_,_,_,_,_,ho,_,_=>by simp only[iM] at ho
end Go.Sx
namespace Go.Sx
open Go
inductive ES where
 |int (k:IntKind)
 |bool
 |str
 |st (l:List ES)
 |arr (n w:Nat) (e:ES)
mutual
def gU:ES->SV->Prop
 | .int k,x=>match x with
  | .int k' _=>k'=k
  |_=>False
 | .bool,x=>match x with
  | .bool _=>True
  |_=>False
 | .str,x=>match x with
  | .str _=>True
  |_=>False
 | .st l,x=>match x with
  | .agg xs=>lX l xs
  |_=>False
 | .arr n w e,x=>match x with
  | .arr n' w' f=>n'=n/\w'=w/\∀ i,i<n->gU e (f i)
  |_=>False
def lX:List ES->List SV->Prop
 |[],xs=>match xs with
  |[]=>True
  |_=>False
 |e::l,xs=>match xs with
  |x::xs=>gU e x/\lX l xs
  |[]=>False
end
mutual
def aiC:SV->Prop
 | .int .. =>True
 | .bool _=>True
 | .str _=>True
 | .agg l=>D5 l
 | .arr n _ f=> ∀ i,i<n->aiC (f i)
 |_=>False
def D5:List SV->Prop
 |[]=>True
 |x::r=>aiC x/\D5 r
end
mutual
theorem PK:∀ (x:SV) {J J':Env} {cs:List Value},aiC x->au x J cs->au x J' cs
 | .int ..,_,_,_,_,h=>h
 | .bool ..,_,_,_,_,h=>h
 | .str ..,_,_,_,_,h=>h
 | .agg l,_,_,_,hd,h=>by simp only[au] at h ⊢;exact Tq l hd h
 | .arr n w f,_,_,_,hd,h=>by
  simp only[au] at h ⊢;exact⟨h.1,λi hi=>PK (f i) (hd i hi) (h.2 i hi)⟩
 | .bK _,_,_,_,hd,_=>hd.elim
 | .lst ..,_,_,_,hd,_=>hd.elim
 | .lit ..,_,_,_,hd,_=>hd.elim
 | .fM ..,_,_,_,hd,_=>hd.elim
 | .ref ..,_,_,_,hd,_=>hd.elim
 | .ptr ..,_,_,_,hd,_=>hd.elim
 | .vec ..,_,_,_,hd,_=>hd.elim
 | .gX ..,_,_,_,hd,_=>hd.elim
 | .jO ..,_,_,_,hd,_=>hd.elim
 | .map ..,_,_,_,hd,_=>hd.elim
 | .fn ..,_,_,_,hd,_=>hd.elim
 | .iface ..,_,_,_,hd,_=>hd.elim
 | .bF,_,_,_,hd,_=>hd.elim
 | .iP,_,_,_,hd,_=>hd.elim
 | .jh,_,_,_,hd,_=>hd.elim
 | .jr,_,_,_,hd,_=>hd.elim
 | .qx,_,_,_,hd,_=>hd.elim
 | .lV,_,_,_,hd,_=>hd.elim
 | .raw _,_,_,_,hd,_=>hd.elim
 | .junk,_,_,_,hd,_=>hd.elim
theorem Tq:∀ (l:List SV) {J J':Env} {cs:List Value},D5 l->bQ l J cs->bQ l J' cs
 |[],_,_,_,_,h=>h
 |x::r,_,_,_,hd,h=>by simp only[bQ] at h ⊢;obtain⟨a,b,h1,h2,h3⟩:=h;exact⟨a,b,h1,PK x hd.1 h2,Tq r hd.2 h3⟩
end
theorem Tt:∀ {l:List SV} {i:Nat},D5 l->i<l.length->aiC (l.getD i .junk)
 |[],i,_,hi=>absurd hi (z07 _)
 |x::r,0,h,_=>h.1
 |x::r,i+1,h,hi=>by rw[z0m];exact Tt h.2 (by simpa using hi)
def Env.nil:Env:=⟨0,λ_=>0,λ_=>undef,λ_=>none⟩
theorem Env.nil_le(J:Env):Env.nil.Le J:=⟨z0v _,λ_ h=>absurd h (z07 _),λ_ h=>absurd h (z07 _),λ_ _ h=>by cases h⟩
def Tv:ES->SV->Prop
 | .arr 0 0 (.st []),x=>match x with
  | .agg [.int .i64 _, .fn _ []]=>True
  | .agg [.int .i64 _, .jh]=>True
  |_=>False
 |e,x=>gU e x
structure Nj(ek ev:ES)(p:SV×SV)(e:MapEntry):Prop where
 k:gU ek p.1
 v:Tv ev p.2
 kc:∃ cs,au p.1 Env.nil cs/\e.key=boxed p.1.isAgg cs
 vc:∃ cs,au p.2 Env.nil cs/\e.val=boxed p.2.isAgg cs
def gZ(ek ev:ES):List (SV×SV)->List MapEntry->Prop
 |[],[]=>True
 |p::l,e::es=>Nj ek ev p e/\gZ ek ev l es
 |_,_=>False
def zC(es:List MapEntry)(clock:Nat):Prop:=(es.map (·.born)).Nodup/\∀ e∈es,e.born<clock
inductive ay:Type 1 where
 |dead
 |blk (T:TypeId) (c:SV)
 |vec (T:TypeId) (w:Nat) (l:List SV)
 |mp (ek ev:ES) (l:List (SV×SV))
def ay.ayI:ay->Bool
 | .vec .. =>true
 |_=>false
def ay.iH:ay->Bool
 | .blk .. =>true
 | .mp .. =>true
 |_=>false
def aN(J:Env)(i:Nat):ay->Option Nat
 | .dead=>none
 | .blk .. =>some (J.blk i)
 | .vec .. =>(J.vv i).ownBlock
 | .mp .. =>some (J.blk i)
def gu(J:Env)(i:Nat)(w:World):ay->Prop
 | .dead=>True
 | .blk T c=> ∃ cs:List Value,w.heap[J.blk i]? =some (.cells cs.toArray T (0,0))/\au c J cs
 | .vec T wd l=> ∃ xs,w.ownsRow 0 T wd (J.vv i) l.length xs/\∀ j,j<l.length->au (l.getD j .junk) J (sub xs (j*wd) wd)
 | .mp ek ev l=> ∃ (es:Array MapEntry) (clock:Nat),w.heap[J.blk i]? =some (.map es clock)/\gZ ek ev l es.toList/\zC es.toList clock
def ah(m:List ay)(i:Nat):ay:=m.getD i .dead
def aiD:List (Nat×List Value):=[(3,(z0h 20).map λi=> .int .u64 ((10^i:Nat):Int))]
def RI:List Nat:=[0,1]
def Glob(H:Nat->Option Obj):Prop:=(∀ p∈aiD,∃ T fz,H p.1=some (.cells p.2.toArray T fz))/\∀ b∈RI,∃ ev T fz,H b=some (.cells #[ev] T fz)/\(ev= .nilIface\/∃ t p,ev= .iface t p)
theorem Glob.mono{H H':Nat->Option Obj}(g:Glob H)(h:∀ b o,H b=some o->H' b=some o):Glob H':=
 ⟨λp hp=>let ⟨T,fz,e⟩:=g.1 p hp;⟨T,fz,h _ _ e⟩,λb hb=>let ⟨ev,T,fz,e,k⟩:=g.2 b hb;⟨ev,T,fz,h _ _ e,k⟩⟩
structure Good(J:Env)(m:List ay)(w:World):Prop where
 n:J.n=m.length
 res:∀ i,gu J i w (ah m i)
 pF:∀ i j b,i≠j->aN J i (ah m i)=some b->aN J j (ah m j)≠some b
 sep:∀ i b,aN J i (ah m i)=some b->J.H b=none
 hv:∀ b o,J.H b=some o->w.heap[b]? =some o
 gl:Glob J.H
def strict:Bool:=false
structure Kept(B:Nat->Prop)(J:Env)(w:World)(J':Env)(w':World):Prop where
 os:w'.os=w.os
 tape:w'.tape=w.tape
 output:w'.output=w.output
 size:w.heap.size<=w'.heap.size
 heap:∀ b,b<w.heap.size->¬ B b->w'.heap[b]? =w.heap[b]?
 H:∀ b o,J.H b=some o->J'.H b=some o
 fresh:∀ b o,J'.H b=some o->J.H b=some o\/w.heap.size<=b\/B b
 drawn:strict=true->w.drawn<=w'.drawn
theorem Kept.refl(B:Nat->Prop)(J:Env)(w:World):Kept B J w J w:=⟨rfl,rfl,rfl,z0a _,λ_ _ _=>rfl,λ_ _ h=>h,λ_ _ h=> .inl h,λ_=>z0a _⟩
structure Base where
 w:World
 J:Env
 B:Nat->Prop
structure Inv(β:Base)(J:Env)(m:List ay)(w:World):Prop where
 good:Good J m w
 kept:Kept β.B β.J β.w J w
 own:∀ i b,aN J i (ah m i)=some b->β.B b\/β.w.heap.size<=b
 n:β.J.n<=J.n
 blk:∀ i,i<β.J.n->J.blk i=β.J.blk i
 vv:∀ i,i<β.J.n->(ah m i).iH=true->J.vv i=β.J.vv i
theorem dU{J:Env}{m:List ay}{w:World}(g:Good J m w){i b:Nat}(h:aN J i (ah m i)=some b):b<w.heap.size:=by
 have hr:=g.res i;cases hm:ah m i with
 |dead=>rw[hm] at h;cases h
 |blk T c=>
  rw[hm] at h hr;simp only[aN,z00] at h;obtain⟨cs,hc,_⟩:=hr;subst h;exact(z03.1 hc).1
 |vec T wd l=>
  rw[hm] at h hr;obtain⟨xs,ho,_⟩:=hr;exact(ho.lt b h).2
 |mp ek ev l=>
  rw[hm] at h hr;simp only[aN,z00] at h;obtain⟨es,cl,hc,_⟩:=hr;subst h;exact(z03.1 hc).1
theorem yC{J:Env}{m:List ay}{w:World}(g:Good J m w){b:Nat}{o:Obj}(h:J.H b=some o):b<w.heap.size:=
 (z03.1 (g.hv b o h)).1
theorem Good.grow{J J':Env}{m:List ay}{w w':World}(g:Good J m w)(hl:J.Le J')(hn:J'.n=m.length)
  (hb:∀ i,i<J.n->J'.blk i=J.blk i) (hvv:∀ i,i<J.n->J'.vv i=J.vv i)
  (hw:∀ b,b<w.heap.size->w'.heap[b]? =w.heap[b]?) (hH:∀ b o,J'.H b=some o->w'.heap[b]? =some o)
  (hsep:∀ i b,aN J i (ah m i)=some b->J'.H b=none):Good J' m w':=by
 have hown:∀ i,aN J' i (ah m i)=aN J i (ah m i):=by
  intro i;rcases z19 i m.length with hi|hi
  ·have hi':i<J.n:=by rw[g.n];exact hi
   cases hm:ah m i with
   |dead=>rfl
   |blk T c=>simp[aN,hb i hi']
   |vec T wd l=>simp[aN,hvv i hi']
   |mp ek ev l=>simp[aN,hb i hi']
  ·have:ah m i= .dead:=by simp[ah,z0c,z0s hi]
   rw[this];rfl
 refine⟨hn,λi=> ?_,λi j b hij h1 h2=> ?_,λi b h=> ?_,hH,g.gl.mono hl.H⟩
 ·have hr:=g.res i;rcases z19 i m.length with hi|hi
  ·have hi':i<J.n:=by rw[g.n];exact hi
   cases hm:ah m i with
   |dead=>trivial
   |blk T c=>
    rw[hm] at hr;obtain⟨cs,h1,h2⟩:=hr;have hlt:J.blk i<w.heap.size:=(z03.1 h1).1;exact⟨cs,by rw[hb i hi',hw _ hlt];exact h1,h2.mono c hl⟩
   |vec T wd l=>
    rw[hm] at hr;obtain⟨xs,h1,h2⟩:=hr;refine⟨xs,?_,λj hj=>(h2 j hj).mono _ hl⟩;rw[hvv i hi'];refine⟨h1.1,?_⟩;rcases h1.2 with hx|⟨gg,cap,cur,e1,e2,e3,e4⟩
    ·exact .inl hx
    ·exact .inr ⟨gg,cap,cur,e1,e2,by rw[hw _ (z03.1 e3).1];exact e3,e4⟩
   |mp ek ev l=>
    rw[hm] at hr;obtain⟨es,cl,h1,h2⟩:=hr;exact⟨es,cl,by rw[hb i hi',hw _ (z03.1 h1).1];exact h1,h2⟩
  ·have:ah m i= .dead:=by simp[ah,z0c,z0s hi]
   rw[this];trivial
 ·rw[hown] at h1 h2;exact g.pF i j b hij h1 h2
 ·rw[hown] at h;exact hsep i b h
theorem Inv.drew{β:Base}{J:Env}{m:List ay}{w:World}(h:Inv β J m w):Inv β J m {w with drawn:=w.drawn+1}:=
 ⟨h.good.grow (Env.Le.refl _) h.good.n (λ_ _=>rfl) (λ_ _=>rfl) (λ_ _=>rfl) h.good.hv h.good.sep,
  ⟨h.kept.os,h.kept.tape,h.kept.output,h.kept.size,h.kept.heap,h.kept.H,h.kept.fresh,λe=>Nat.le_succ_of_le (h.kept.drawn e)⟩,h.own,h.n,h.blk,h.vv⟩
def Env.more(J:Env)(b:Nat)(v:Value):Env:= {J with n:=J.n+1,blk:=λi=>if i=J.n then b else J.blk i,vv:=λi=>if i=J.n then v else J.vv i}
theorem Env.dJ(J:Env)(b:Nat)(v:Value):J.Le (J.more b v):=
 ⟨Nat.le_succ _,λi hi=>by simp[Env.more,z0r hi],λi hi=>by simp[Env.more,z0r hi],λ_ _ h=>h⟩
theorem bD{m:List ay}{r:List ay}{i:Nat}(h:i<m.length):ah (m++r) i=ah m i:=by simp[ah,z0c,List.getElem?_append_left h]
theorem jW{m:List ay}{r:ay}:ah (m++[r]) m.length=r:=by simp[ah]
theorem dh{m:List ay}{i:Nat}(h:m.length<=i):ah m i= .dead:=by simp[ah,z0c,z0s h]
theorem Inv.alloc{β:Base}{J:Env}{m:List ay}{w:World}(h:Inv β J m w){T:TypeId}{c:SV}{cs:List Value}(hc:au c J cs):
  Inv β (J.more w.heap.size undef) (m++[.blk T c]) (w.alloc (.cells cs.toArray T)):=by
 have hn:=h.good.n;have hw:∀ b,b<w.heap.size->(w.alloc (.cells cs.toArray T)).heap[b]? =w.heap[b]? :=λb hb=>Go.RowKit.Below.heap_alloc w _ b hb;have hle:=J.dJ w.heap.size undef;have hown:∀ i,i<m.length->aN (J.more w.heap.size undef) i (ah (m++[.blk T c]) i)=aN J i (ah m i):=by
  intro i hi;rw[bD hi];have hi':i<J.n:=by omega
  cases ah m i<;>simp[aN,Env.more,z0r hi']
 have hnew:aN (J.more w.heap.size undef) m.length (ah (m++[.blk T c]) m.length)=some w.heap.size:=by rw[jW];simp[aN,Env.more,hn]
 have hcase:∀ i b,aN (J.more w.heap.size undef) i (ah (m++[.blk T c]) i)=some b->(i<m.length/\aN J i (ah m i)=some b)\/(i=m.length/\b=w.heap.size):=by
  intro i b hb;rcases z16 i m.length with hi|hi|hi
  ·rw[hown i hi] at hb;exact .inl ⟨hi,hb⟩
  ·subst hi;rw[hnew] at hb;exact .inr ⟨rfl,(Option.some.inj hb).symm⟩
  ·rw[dh (by simp;omega)] at hb;cases hb
 refine⟨⟨by simp[Env.more,hn],λi=> ?_,λi j b hij h1 h2=> ?_,λi b hb=> ?_,λb o hb=> ?_,h.good.gl⟩,⟨h.kept.os,h.kept.tape,h.kept.output,?_,?_,h.kept.H,h.kept.fresh,h.kept.drawn⟩,λi b hb=> ?_,?_,λi hi=> ?_,λi hi hv=> ?_⟩
 ·rcases z16 i m.length with hi|hi|hi
  ·rw[bD hi];have hi':i<J.n:=by omega
   have hr:=h.good.res i;cases hm:ah m i with
   |dead=>trivial
   |blk T' c'=>
    rw[hm] at hr;obtain⟨cs',h1,h2⟩:=hr;have hb:(J.more w.heap.size undef).blk i=J.blk i:=by simp[Env.more,z0r hi']
    exact⟨cs',by rw[hb,hw _ (z03.1 h1).1];exact h1,h2.mono c' hle⟩
   |vec T' wd l=>
    rw[hm] at hr;obtain⟨xs,h1,h2⟩:=hr;have hb:(J.more w.heap.size undef).vv i=J.vv i:=by simp[Env.more,z0r hi']
    refine⟨xs,?_,λj hj=>(h2 j hj).mono _ hle⟩;rw[hb];exact h1.alloc _
   |mp ek ev l=>
    rw[hm] at hr;obtain⟨es,cl,h1,h2⟩:=hr;have hb:(J.more w.heap.size undef).blk i=J.blk i:=by simp[Env.more,z0r hi']
    exact⟨es,cl,by rw[hb,hw _ (z03.1 h1).1];exact h1,h2⟩
  ·subst hi;rw[jW];refine⟨cs,?_,hc.mono c hle⟩;have:(J.more w.heap.size undef).blk m.length=w.heap.size:=by simp[Env.more,hn]
   rw[this];exact heap_alloc_new w _
  ·rw[dh (by simp;omega)];trivial
 ·rcases hcase i b h1 with⟨hi,h1'⟩|⟨hi,hb⟩<;>rcases hcase j b h2 with⟨hj,h2'⟩|⟨hj,hb2⟩
  ·exact h.good.pF i j b hij h1' h2'
  ·have:=dU h.good h1';omega
  ·have:=dU h.good h2';omega
  ·omega
 ·rcases hcase i b hb with⟨_,h1⟩|⟨_,h1⟩
  ·exact h.good.sep i b h1
  ·subst h1;cases hh:J.H w.heap.size with
   |none=>exact hh
   |some o=>have:=yC h.good hh;omega
 ·rw[hw b (yC h.good hb)];exact h.good.hv b o hb
 ·have:=h.kept.size;simp;omega
 ·intro b hb hB;rw[hw b (z04 hb h.kept.size)];exact h.kept.heap b hb hB
 ·rcases hcase i b hb with⟨_,h1⟩|⟨_,h1⟩
  ·exact h.own i b h1
  ·right;have:=h.kept.size;omega
 ·have:=h.n;simp[Env.more];omega
 ·have:=h.n;have e:=h.blk i hi;simp[Env.more];rw[if_neg (by omega)];exact e
 ·have hn':=h.n;rw[bD (by omega)] at hv
  have e:=h.vv i hi hv;simp[Env.more];rw[if_neg (by omega)];exact e
theorem vZ{m:List ay}{i:Nat}(h:ah m i≠ .dead):i<m.length:=
 Nat.lt_of_not_le λhi=>h (dh hi)
theorem abE{m:List ay}{i:Nat}(r:ay)(hi:i<m.length)(j:Nat):ah (m.set i r) j=if j=i then r else ah m j:=by
 unfold ah;rw[z0c,z0e];by_cases hj:i=j
 ·subst hj;simp[hi]
 ·rw[if_neg hj,if_neg (λe=>hj e.symm)];rfl
theorem gu.same{J:Env}{i:Nat}{w w':World}{r:ay}(h:gu J i w r)(ho:∀ b,aN J i r=some b->w'.heap[b]? =w.heap[b]?):gu J i w' r:=by
 cases r with
 |dead=>trivial
 |blk T c=>exact h.imp λ_ x=>⟨(ho _ rfl).trans x.1,x.2⟩
 |vec T wd l=>
  obtain⟨xs,⟨h1,h3⟩,h2⟩:=h;refine⟨xs,⟨h1,h3.imp id λ⟨g,cap,cur,e1,e2,e3,e4⟩=>⟨g,cap,cur,e1,e2,?_,e4⟩⟩,h2⟩;rw[ho g (by simp[aN,e1,z1a])];exact e3
 |mp ek ev l=>exact h.imp λ_ x=>x.imp λ_ y=>⟨(ho _ rfl).trans y.1,y.2⟩
theorem Inv.QJ{β:Base}{J:Env}{m:List ay}{w:World}(h:Inv β J m w){i:Nat}{r:ay}{w':World}(hi:i<m.length)(hr:gu J i w' r)
  (ho:∀ b,aN J i r=some b->aN J i (ah m i)=some b) (hv:r.iH=true->(ah m i).iH=true)
  (hw:∀ b,aN J i (ah m i)≠some b->w'.heap[b]? =w.heap[b]?) (hs:w'.heap.size=w.heap.size) (hk:w'.os=w.os/\w'.tape=w.tape/\w'.output=w.output/\w'.drawn=w.drawn):Inv β J (m.set i r) w':=by
 have hat:=abE (m:=m) r hi;have hown:∀ j b,aN J j (ah (m.set i r) j)=some b->aN J j (ah m j)=some b:=by
  intro j b hb;rw[hat] at hb;split at hb
  ·rename_i e;subst e;exact ho b hb
  ·exact hb
 refine⟨⟨by simp[h.good.n],λj=> ?_,λa b x hab h1 h2=>h.good.pF a b x hab (hown _ _ h1) (hown _ _ h2),λa b hb=>h.good.sep a b (hown _ _ hb),λb o hb=> ?_,h.good.gl⟩,
  ⟨hk.1.trans h.kept.os,hk.2.1.trans h.kept.tape,hk.2.2.1.trans h.kept.output,by rw[hs];exact h.kept.size,λb hb hB=> ?_,h.kept.H,h.kept.fresh,by rw[hk.2.2.2];exact h.kept.drawn⟩,λa b hb=>h.own a b (hown _ _ hb),h.n,h.blk,λj hj hx=>h.vv j hj ?_⟩
 ·rw[hat];split
  ·rename_i e;subst e;exact hr
  ·rename_i hj;exact(h.good.res j).same λb hb=>hw b (h.good.pF j i b hj hb)
 ·rw[hw b λe=>by rw[h.good.sep i b e] at hb;cases hb];exact h.good.hv b o hb
 ·rw[hw b λe=>(h.own i b e).elim hB λx=>by omega];exact h.kept.heap b hb hB
 ·rw[hat] at hx;split at hx
  ·rename_i e;subst e;exact hv hx
  ·exact hx
theorem Inv.avz{β:Base}{J:Env}{m:List ay}{w:World}(h:Inv β J m w){i:Nat}{T:TypeId}{c c':SV}{cs':List Value}
  (hm:ah m i= .blk T c) (hc:au c' J cs'):
  Inv β J (m.set i (.blk T c')) (w.setRow (J.blk i) cs'.toArray):=by
 obtain⟨cs,hcell,_⟩:gu J i w (.blk T c):=hm▸h.good.res i;refine h.QJ (vZ (by rw[hm];nofun)) ⟨cs',setRow_heap w _ _ _ T _ hcell,hc⟩ (by rw[hm];exact λ_ e=>e) (by rw[hm];exact id) (λb hb=>setRow_other w _ b _ λe=>hb (by rw[hm,e];rfl)) (by simp[z2v]) ⟨rfl,rfl,rfl,rfl⟩
end Go.Sx
namespace Go.Sx
open Go
inductive aS:Type 1 where
 |t (n:Nat)
 |c (x:SV)
def aS.ev(σ:List SV):aS->SV
 | .t n=>σ.getD n .junk
 | .c x=>x
def aH(J:Env)(σ:List SV)(a:Act):Prop:=σ.length=a.tmps.size/\∀ k,bM J (σ.getD k .junk) (a.tmps.getD k undef)
def avv:Value->Option SV
 | .bool b=>some (.bool b)
 | .int k n=>some (.int k n)
 | .string s=>some (.str s.data.toList)
 | .slice none 0 0=>some .bF
 | .pointer none=>some .jr
 | .nilIface=>some .iP
 | .nilFunc=>some .jh
 | .map none=>some .qx
 |_=>none
def aQ:Operand->Option aS
 | .tmp t=>some (.t t)
 | .const v=>(avv v).map .c
 | .func f=>some (.c (.fn f []))
 | .global _=>none
theorem aoA{v:Value}{x:SV}(h:avv v=some x)(J:Env):bM J x v:=by
 unfold avv at h;split at h<;>cases h<;>first
  |exact⟨_,rfl,rfl⟩
  |(refine⟨_,rfl,?_⟩;simp[boxed,SV.isAgg])
theorem aB{x:Operand}{y:aS}(h:aQ x=some y){J:Env}{σ:List SV}{a:Act}(hs:aH J σ a):bM J (y.ev σ) (a.eval x):=by
 cases x with
 |tmp t=>simp only[aQ,z00] at h;subst h;exact hs.2 t
 |const v=>
  simp only[aQ,z05] at h;obtain⟨sv,h1,rfl⟩:=h;exact aoA h1 J
 |global g=>simp[aQ] at h
 |func f=>
  simp only[aQ,z00] at h;subst h;exact⟨_,⟨[],rfl,rfl⟩,rfl⟩
section inv
variable {J:Env} {v:Value}
theorem iq{k:IntKind}{n:Int}(h:bM J (.int k n) v):v= .int k n:=by obtain⟨cs,h1,h2⟩:=h;simp only[au] at h1;subst h1;exact h2
theorem iW{b:Bool}(h:bM J (.bool b) v):v= .bool b:=by obtain⟨cs,h1,h2⟩:=h;simp only[au] at h1;subst h1;exact h2
theorem uq{s:List UInt8}(h:bM J (.str s) v):v= .string ⟨s.toArray⟩:=by obtain⟨cs,h1,h2⟩:=h;simp only[au] at h1;subst h1;exact h2
theorem vV(h:bM J .bF v):v= .slice none 0 0:=by obtain⟨cs,h1,h2⟩:=h;simp only[au] at h1;subst h1;exact h2
theorem DX(h:bM J .iP v):v= .nilIface:=by obtain⟨cs,h1,h2⟩:=h;simp only[au] at h1;subst h1;exact h2
theorem aiu(h:bM J .jr v):v= .pointer none:=by obtain⟨cs,h1,h2⟩:=h;simp only[au] at h1;subst h1;exact h2
theorem DY{i o:Nat}{p:List Step}(h:bM J (.ptr i p o) v):i<J.n/\fV p/\v= .pointer (some ⟨J.blk i,o,none⟩):=by obtain⟨cs,h1,h2⟩:=h;simp only[au] at h1;obtain⟨h1,hp,h3⟩:=h1;subst h3;exact⟨h1,hp,h2⟩
theorem xE{i n:Nat}(h:bM J (.vec i n) v):i<J.n/\(J.vv i= .slice none 0 0/\n=0\/∃ b cap,J.vv i= .slice (some ⟨b,0,none⟩) n cap/\n<=cap)/\v=J.vv i:=by obtain⟨cs,h1,h2⟩:=h;simp only[au] at h1;obtain⟨h1,hp,h3⟩:=h1;subst h3;exact⟨h1,hp,h2⟩
theorem zy{i j o:Nat}{p:List Step}(h:bM J (.gX i j p o) v):i<J.n/\fV p/\∃ b cap n,J.vv i= .slice (some ⟨b,0,none⟩) n cap/\j<n/\v= .pointer (some ⟨b,o,none⟩):=by obtain⟨cs,h1,h2⟩:=h;simp only[au] at h1;obtain⟨h1,hp,b,cap,n,h3,h4,h5⟩:=h1;subst h5;exact⟨h1,hp,b,cap,n,h3,h4,h2⟩
theorem aoB{l:List SV}(h:bM J (.agg l) v):∃ cs,bQ l J cs/\v= .agg cs.toArray:=by obtain⟨cs,h1,h2⟩:=h;simp only[au] at h1;exact⟨cs,h1,h2⟩
theorem aoC{n w:Nat}{f:Nat->SV}(h:bM J (.arr n w f) v):∃ cs,au (.arr n w f) J cs/\v= .agg cs.toArray:=by obtain⟨cs,h1,h2⟩:=h;exact⟨cs,h1,h2⟩
theorem Z8{l:List SV}(h:bM J (.bK l) v):∃ vs,bg l J vs/\v= .tuple vs.toArray:=h
theorem IV{f:FuncId}{cap:List SV}(h:bM J (.fn f cap) v):∃ vs,bg cap J vs/\v= .func (.func f) #[] vs.toArray:=by obtain⟨cs,h1,h2⟩:=h;simp only[au] at h1;obtain⟨vs,h3,h4⟩:=h1;subst h4;exact⟨vs,h3,h2⟩
end inv
theorem iG{J:Env}{x:SV}{cs:List Value}(h:au x J cs):bM J x (boxed x.isAgg cs):=by
 cases x<;>first
  |trivial
  |exact⟨cs,h,rfl⟩
  |(simp only[au] at h)
theorem BN{J:Env}{k:IntKind}{n:Int}:bM J (.int k n) (.int k n):=⟨_,rfl,rfl⟩
theorem uw{J:Env}{b:Bool}:bM J (.bool b) (.bool b):=⟨_,rfl,rfl⟩
theorem aiv{J:Env}{s:List UInt8}:bM J (.str s) (.string ⟨s.toArray⟩):=⟨_,rfl,rfl⟩
theorem bg.nth:∀ (l:List SV) (k:Nat) {J:Env} {vs:List Value},bg l J vs->k<l.length->∃ v,vs[k]? =some v/\bM J (l.getD k .junk) v
 |[],k,_,_,_,hk=>absurd hk (z07 _)
 |x::r,0,J,vs,h,_=>by
  simp only[bg] at h;obtain⟨cs,t,h1,h2,h3⟩:=h;subst h1;exact⟨_,rfl,iG h2⟩
 |x::r,k+1,J,vs,h,hk=>by
  simp only[bg] at h;obtain⟨cs,t,h1,h2,h3⟩:=h;subst h1;obtain⟨v,e1,e2⟩:=bg.nth r k h3 (by simpa using hk)
  exact⟨v,by simpa using e1,by simpa using e2⟩
inductive vY where|add|sub|mul|quo|rem|and|or|xor|andNot|shl|shr
inductive QM where|eql|neq|lss|leq|gtr|geq
def vY.of:BinOp->Option vY
 | .add=>some .add| .sub=>some .sub| .mul=>some .mul| .quo=>some .quo| .rem=>some .rem| .and=>some .and| .or=>some .or
 | .xor=>some .xor| .andNot=>some .andNot| .shl=>some .shl| .shr=>some .shr|_=>none
def QM.of:BinOp->Option QM
 | .eql=>some .eql| .neq=>some .neq| .lss=>some .lss| .leq=>some .leq| .gtr=>some .gtr| .geq=>some .geq|_=>none
def mM(k:IntKind)(x y:Int):Int:=k.wrap (BitVec.ofInt k.bits x&&&BitVec.ofInt k.bits y).toNat
def MQ(k:IntKind)(x y:Int):Int:=k.wrap (BitVec.ofInt k.bits x|||BitVec.ofInt k.bits y).toNat
def WV(k:IntKind)(x y:Int):Int:=k.wrap (BitVec.ofInt k.bits x^^^BitVec.ofInt k.bits y).toNat
def rP(k:IntKind)(x y:Int):Int:=k.wrap (BitVec.ofInt k.bits x&&& ~~~ BitVec.ofInt k.bits y).toNat
def vY.ev(k:IntKind)(a b:Int)(K:Int->Prop):vY->Prop
 | .add=>K (k.wrap (a+b))
 | .sub=>K (k.wrap (a - b))
 | .mul=>K (k.wrap (a*b))
 | .quo=>b≠0/\K (k.wrap (a.tdiv b))
 | .rem=>b≠0/\K (a.tmod b)
 | .and=>K (mM k a b)
 | .or=>K (MQ k a b)
 | .xor=>K (WV k a b)
 | .andNot=>K (rP k a b)
 | .shl=>0<=b/\K (k.wrap (a*2^(min b.toNat k.bits)))
 | .shr=>0<=b/\K (a.fdiv (2^(min b.toNat k.bits)))
def QM.ev(a b:Int):QM->Bool
 | .eql=>decide (a=b)
 | .neq=> !decide (a=b)
 | .lss=>decide (a<b)
 | .leq=>decide (a<=b)
 | .gtr=>decide (b<a)
 | .geq=>decide (b<=a)
mutual
def nJ:ES->SV->SV->Bool
 | .int _,x,y=>match x,y with
  | .int _ a, .int _ b=>decide (a=b)
  |_,_=>false
 | .bool,x,y=>match x,y with
  | .bool a, .bool b=>a==b
  |_,_=>false
 | .str,x,y=>match x,y with
  | .str a, .str b=>decide (a=b)
  |_,_=>false
 | .st l,x,y=>match x,y with
  | .agg xs, .agg ys=>GY l xs ys
  |_,_=>false
 | .arr n _ e,x,y=>match x,y with
  | .arr _ _ f, .arr _ _ g=>(z0h n).all λi=>nJ e (f i) (g i)
  |_,_=>false
def GY:List ES->List SV->List SV->Bool
 |[],_,_=>true
 |e::l,xs,ys=>match xs,ys with
  |x::xs,y::ys=>nJ e x y&&GY l xs ys
  |_,_=>false
end
inductive MK:Type 1 where
 |make (ek ev:ES)
 |put (ek ev:ES)
 |get (ek ev:ES) (z:SV) (ok:Bool)
 |agH
 |aiw
 |abA
def MK.eff:MK->Bool
 | .make .. | .put .. =>true
 | .get .. =>false
 | .agH=>false
 | .aiw=>false
 | .abA=>false
def dQ(e:ES)(k:SV):List (SV×SV)->Option SV
 |[]=>none
 |p::r=>if nJ e k p.1 then some p.2 else dQ e k r
def gG(e:ES)(k v:SV):List (SV×SV)->List (SV×SV)
 |[]=>[(k,v)]
 |p::r=>if nJ e k p.1 then(k,v)::r else p::gG e k v r
def obB:Option SV->Bool
 |some (.bool b)=>b
 |_=>false
def obI:Option SV->Int
 |some (.int _ n)=>n
 |_=>0
def pX(ev:ES)(z:SV)(o:Option SV):SV:=match ev with
 | .bool=> .bool (obB o)
 | .int k=> .int k (obI o)
 |_=>o.getD z
def FT:List (TypeId×ES)->TypeId->Option ES
 |[],_=>none
 |(u,e)::r,t=>if u=t then some e else FT r t
inductive wK:Type 1 where
 |mv (x:aS)
 |pick (c x y:aS)
 |ar (op:vY) (x y:aS)
 |cmp (op:QM) (x y:aS)
 |beq (neg:Bool) (x y:aS)
 |seq (neg:Bool) (x y:aS)
 |cat (x y:aS)
 |nt (x:aS)
 |neg (x:aS)
 |conv (k:IntKind) (x:aS)
 |fa (k off:Nat) (x:aS)
 |eG (k off sz:Nat) (ag:Bool) (x:aS)
 |ia (n w:Nat) (x i:aS)
 |is (w:Nat) (x i:aS)
 |ix (n w:Nat) (ag:Bool) (x i:aS)
 |sx (x i:aS)
 |ext (k:Nat) (x:aS)
 |lF (z:SV) (parts:List (List Step×Nat×Nat×aS))
 |len (x:aS)
 |lens (x:aS)
 |GL (f:FuncId) (caps:List aS)
 |nck (x:aS)
 |EF (t:TypeId) (x:aS)
 |mx (x y:aS)
 |mn (x y:aS)
 |ssl (x:aS) (lo hi:Option aS)
 |slc (w:Nat) (x:aS) (lo hi mx:Option aS)
 |aeq (neg:Bool) (e:ES) (x y:aS)
 |tas (t:TypeId) (z:SV) (x:aS)
 |ieq (neg:Bool) (tab:List (TypeId×ES)) (x y:aS)
 |BJ (neg:Bool) (x:aS)
 |Tj (neg:Bool) (x:aS)
 |asl (n w:Nat) (x:aS)
def vY.kinds(k k':IntKind):vY->Prop
 | .shl| .shr=>True
 |_=>k'=k
def SV.isVal:SV->Bool
 | .bK _| .junk=>false
 |_=>true
def iL(σ:List SV):SV->List (List Step×Nat×Nat×aS)->(SV->Prop)->Prop
 |z,[],K=>K z
 |z,(p,o,n,x)::r,K=>(fV p/\iM z p 0 o/\(x.ev σ).isVal=true/\wd (x.ev σ)=n/\wd (dP z p)=n)/\iL σ (tX z p (x.ev σ)) r K
def yj:SV->Option Nat
 | .lst _ _ _ l=>some l.length
 | .lit _ _ _ l=>some l.length
 | .bF=>some 0
 | .vec _ n=>some n
 |_=>none
def zA(s:Step)(off:Nat)(K:SV->Prop):SV->Prop
 | .ptr i p o=>K (.ptr i (p++[s]) (o+off))
 | .fM w d f l i p o=>K (.fM w d f l i (p++[s]) (o+off))
 | .gX i j p o=>K (.gX i j (p++[s]) (o+off))
 | .ref c p o=>K (.ref c (p++[s]) (o+off))
 |_=>False
def rng(n:Nat):List Nat:=z0h n
theorem Pv(n:Nat):(rng n).length=n:=z1h
theorem aix{n i:Nat}(h:i<n):(rng n).getD i 0=i:=by simp[rng,z0c,h]
def aV(σ:List SV)(K:SV->Prop):wK->Prop
 | .mv x=>K (x.ev σ)
 | .pick c x y=>match c.ev σ with
  | .bool b=>(b=true->K (x.ev σ))/\(b=false->K (y.ev σ))
  |_=>False
 | .ar op x y=>match x.ev σ,y.ev σ with
  | .int k a, .int k' b=>op.kinds k k'/\op.ev k a b λn=>K (.int k n)
  |_,_=>False
 | .cmp op x y=>match x.ev σ,y.ev σ with
  | .int k a, .int k' b=>k'=k/\K (.bool (op.ev a b))
  |_,_=>False
 | .beq neg x y=>match x.ev σ,y.ev σ with
  | .bool a, .bool b=>K (.bool (if neg then a !=b else a==b))
  |_,_=>False
 | .seq neg x y=>match x.ev σ,y.ev σ with
  | .str a, .str b=>K (.bool (if neg then !decide (a=b) else decide (a=b)))
  |_,_=>False
 | .cat x y=>match x.ev σ,y.ev σ with
  | .str a, .str b=>a.length+b.length<=9223372036854775807/\K (.str (a++b))
  |_,_=>False
 | .nt x=>match x.ev σ with
  | .bool a=>K (.bool (!a))
  |_=>False
 | .neg x=>match x.ev σ with
  | .int k a=>K (.int k (k.wrap (0 - a)))
  |_=>False
 | .conv k x=>match x.ev σ with
  | .int _ a=>K (.int k (k.wrap a))
  |_=>False
 | .fa k off x=>zA (.eG k) off K (x.ev σ)
 | .eG k off sz ag x=>match x.ev σ with
  | .agg l=>(k<l.length/\DZ (l.take k)=off/\wd (l.getD k .junk)=sz/\(l.getD k .junk).isAgg=ag)/\K (l.getD k .junk)
  |_=>False
 | .ia n w x i=>match i.ev σ with
  | .int _ j=>(0<=j/\j<n)/\zA (.idx j.toNat n) (j.toNat*w) K (x.ev σ)
  |_=>False
 | .is w x i=>match i.ev σ with
  | .int _ j=>match x.ev σ with
   | .lst w' d f l=>(0<=j/\j<l.length)/\w'=w/\K (.fM w d f l j.toNat [] 0)
   | .vec v n=>(0<=j/\j<n)/\K (.gX v j.toNat [] (j.toNat*w))
   |_=>False
  |_=>False
 | .ix n w ag x i=>match i.ev σ with
  | .int _ j=>match x.ev σ with
   | .arr n' w' f=>(0<=j/\j<n)/\(n'=n/\w'=w/\(f j.toNat).isAgg=ag)/\K (f j.toNat)
   |_=>False
  |_=>False
 | .sx x i=>match i.ev σ with
  | .int _ j=>match x.ev σ with
   | .str s=>(0<=j/\j<s.length)/\K (.int .u8 (s.getD j.toNat 0).toNat)
   |_=>False
  |_=>False
 | .ext k x=>match x.ev σ with
  | .bK l=>k<l.length/\K (l.getD k .junk)
  |_=>False
 | .lF z parts=>iL σ z parts λz'=>z'.isAgg=true/\K z'
 | .lens x=>match x.ev σ with
  | .str s=>K (.int .i64 s.length)
  |_=>False
 | .len x=>match yj (x.ev σ) with
  |some n=>K (.int .i64 n)
  |none=>False
 | .GL f caps=>(caps.map (·.ev σ)).all SV.isVal=true/\K (.fn f (caps.map (·.ev σ)))
 | .nck x=>match x.ev σ with
  | .ptr i p o=>K (.ptr i p o)
  | .fM w d f l i p o=>K (.fM w d f l i p o)
  | .gX i j p o=>K (.gX i j p o)
  | .ref c p o=>K (.ref c p o)
  | .fn f c=>K (.fn f c)
  |_=>False
 | .EF t x=>(x.ev σ).isVal=true/\K (.iface t (x.ev σ))
 | .aeq neg e x y=>(gU e (x.ev σ)/\gU e (y.ev σ))/\K (.bool (if neg then !nJ e (x.ev σ) (y.ev σ) else nJ e (x.ev σ) (y.ev σ)))
 | .tas t z x=>match x.ev σ with
  | .iface t' y=>if t'=t then K (.bK [y, .bool true]) else K (.bK [z, .bool false])
  |_=>False
 | .ieq neg tab x y=>match x.ev σ with
  | .iface t a=>match y.ev σ with
   | .iface t' b=>if t'=t then(match FT tab t with
    |some e=>(gU e a/\gU e b)/\K (.bool (if neg then !nJ e a b else nJ e a b))
    |none=>False) else K (.bool neg)
   | .iP=>K (.bool neg)
   |_=>False
  | .iP=>match y.ev σ with
   | .iface _ _=>K (.bool neg)
   | .iP=>match y with
    | .c _=>K (.bool (!neg))
    |_=>False
   |_=>False
  |_=>False
 | .BJ neg x=>match yj (x.ev σ) with
  |some n=>match x.ev σ with
   | .bF=>K (.bool (!neg))
   |_=>(decide (n=0)=true->K .lV)/\(decide (n=0)=false->K (.bool neg))
  |none=>False
 | .Tj neg x=>match x.ev σ with
  | .jr=>K (.bool (!neg))
  | .ptr .. =>K (.bool neg)
  | .fM .. =>K (.bool neg)
  | .gX .. =>K (.bool neg)
  | .ref .. =>K (.bool neg)
  |_=>False
 | .mx x y=>match x.ev σ,y.ev σ with
  | .int k a, .int k' b=>k'=k/\K (.int k (if a<b then b else a))
  |_,_=>False
 | .mn x y=>match x.ev σ,y.ev σ with
  | .int k a, .int k' b=>k'=k/\K (.int k (if b<a then b else a))
  |_,_=>False
 | .ssl x lo hi=>match x.ev σ with
  | .str s=>bound 0 lo λl=>bound s.length hi λh=>(l<=h/\h<=s.length)/\K (.str ((s.take h).drop l))
  |_=>False
 | .slc w x lo hi mx=>match mx,x.ev σ with
  |none, .lst w' d f l=>w'=w/\bound 0 lo λa=>bound l.length hi λb=>(a<=b/\b<=l.length)/\K (.lst w d f ((l.take b).drop a))
  |some c, .lst w' d f l=>(w'=w/\hi.isSome=true)/\bound 0 lo λa=>bound l.length hi λb=>bound 0 (some c) λm=>(a<=b/\b=m/\m<=l.length)/\K (.lit w d f ((l.take b).drop a))
  |none, .vec i n=>bound 0 lo λa=>bound n hi λb=>(a=0/\b<=n)/\K (.jO i b)
  |_,_=>False
 | .asl n w x=>match x.ev σ with
  | .ref c p o=>match dP c p with
   | .arr n' w' f=>(n'=n/\w'=w/\n<=1000000/\iM c p 0 o)/\K (.lst w (0:Nat) f (rng n))
   |_=>False
  | .fM _ d f l i p o=>match f (l.getD i d) with
   | .arr n' w' g=>(n'=n/\w'=w/\n<=1000000/\p=[]/\o=0)/\K (.lst w (0:Nat) g (rng n))
   |_=>False
  |_=>False
where bound (d:Nat) (x:Option aS) (K:Nat->Prop):Prop:=match x with
 |none=>K d
 |some x=>match x.ev σ with
  | .int _ j=>0<=j/\K j.toNat
  |_=>False
end Go.Sx
namespace Go.Sx
open Go
variable {P:Program}
def avw:TypeDesc->Bool
 | .struct _| .array _ _=>true
 |_=>false
def qm(P:Program)(t:TypeId):Option (Nat×Bool):=
 match P.info? t,P.underlying t with
 |some i,some d=>some (i.size,avw d)
 |_,_=>none
theorem Nb{t:TypeId}{n:Nat}{ag:Bool}(h:qm P t=some (n,ag))(w:World):(isAgg t).run P w= .ok ag w:=by
 unfold qm at h;split at h
 ·rename_i i d h1 h2;simp only[z00,z15] at h;obtain⟨rfl,rfl⟩:=h;simp only[isAgg,z01,run_underlying h2,Result.andThen_ok];cases d<;>rfl
 ·cases h
theorem run_sizeOf{t:TypeId}{n:Nat}{ag:Bool}(h:qm P t=some (n,ag))(w:World):(sizeOf t).run P w= .ok n w:=by
 unfold qm at h;split at h
 ·rename_i i d h1 h2;simp only[z00,z15] at h;obtain⟨rfl,rfl⟩:=h;simp[sizeOf,typeInfo,h1]
 ·cases h
def aoE(P:Program)(o:Oper)(J:Env)(a:Act)(sv:SV):Prop:=
 ∃ v,(∀ w,(execOp a.eval o).run P w= .ok (.value v) w)/\bM J sv v
def dX(P:Program)(o:Oper)(σ:List SV)(sv:SV):Prop:= ∀ J a,aH J σ a->aoE P o J a sv
section vals
variable {J:Env}
theorem pY{t:TypeId}{n:Nat}{ag:Bool}(h:qm P t=some (n,ag))(w:World)(cs:List Value)(off:Nat)(hl:off+n<=cs.length)(h1:ag=false->n=1):
  (part t cs.toArray off).run P w= .ok (boxed ag (sub cs off n)) w:=by
 simp only[part,z01,Nb h,Result.andThen_ok];cases ag with
 |true=>
  simp only[if_true,z01,run_sizeOf h,Result.andThen_ok,z08,boxed]
  congr 2
  simp[sub,z1t]
 |false=>
  have hn:=h1 rfl;subst hn;have hlt:off<cs.length:=by omega
  simp only[z0i,if_false];have:cs.toArray[off]? =some cs[off]:=by simp[hlt]
  rw[this];simp only[z08,boxed,z0i,if_false]
  congr 1
  simp[sub,z1v,z2r,z2s,hlt]
end vals
theorem Nc{c:SV}(h:c.isAgg=false):wd c=1:=by cases c<;>first|rfl|cases h
theorem Tm{J:Env}{c:SV}{cs:List Value}(h:au c J cs):bM J c (boxed c.isAgg cs):=iG h
mutual
def cellsOf:SV->Option (List Value)
 | .int k n=>some [.int k n]
 | .bool b=>some [.bool b]
 | .str s=>some [.string ⟨s.toArray⟩]
 | .bF=>some [.slice none 0 0]
 | .iP=>some [.nilIface]
 | .jh=>some [.nilFunc]
 | .jr=>some [.pointer none]
 | .qx=>some [.map none]
 | .arr n w f=>match (z0h n).mapM λi=>cellsOf (f i) with
  |some css=>if css.all (·.length==w) then some css.flatten else none
  |none=>none
 | .agg l=>zB l
 |_=>none
def zB:List SV->Option (List Value)
 |[]=>some []
 |x::r=>match cellsOf x,zB r with
  |some a,some b=>some (a++b)
  |_,_=>none
end
theorem FU:∀ (css:List (List Value)) (w i:Nat),(∀ c∈css,c.length=w)->∀ (hi:i<css.length),sub css.flatten (i*w) w=css[i]
 |[],_,_,_,hi=>absurd hi (z07 _)
 |c::r,w,0,h,_=>by
  have hc:=h c (by simp)
  simp[sub,<- hc]
 |c::r,w,i+1,h,hi=>by
  have hc:=h c (by simp)
  have ih:=FU r w i (λc hc=>h c (by simp[hc])) (by simpa using hi)
  simp only[List.flatten_cons,List.getElem_cons_succ,<- ih];simp only[sub,z0w,Nat.one_mul,z1l,hc];rw[z0b (by omega)]
  simp
theorem FV:∀ (css:List (List Value)) (w:Nat),(∀ c∈css,c.length=w)->css.flatten.length=css.length*w
 |[],_,_=>by simp
 |c::r,w,h=>by
  have hc:=h c (by simp)
  have ih:=FV r w (λc hc=>h c (by simp[hc]))
  simp[hc,ih,z0w,Nat.add_comm]
theorem Tn{α β:Type _}{f:α->Option β}:∀ (l:List α) (r:List β),l.mapM f=some r->r.length=l.length/\∀ i (h:i<l.length) (h':i<r.length),f l[i]=some r[i]
 |[],r,h=>by simp at h;subst h;simp
 |x::l,r,h=>by
  simp only[z1r,bind,z06] at h;cases hx:f x with
  |none=>rw[hx] at h;cases h
  |some y=>
   rw[hx] at h;simp only[Option.bind] at h;cases hl:l.mapM f with
   |none=>rw[hl] at h;cases h
   |some ys=>
    rw[hl] at h;simp only[z00] at h;subst h;obtain⟨i1,i2⟩:=Tn l ys hl;refine⟨by simp[i1],λi h h'=> ?_⟩
    cases i with
    |zero=>simpa using hx
    |succ i=>simpa using i2 i (by simpa using h) (by simpa using h')
mutual
theorem BO:∀ (c:SV) (cs:List Value) (J:Env),cellsOf c=some cs->au c J cs
 | .int ..,_,_,h=>by simp only[cellsOf,z00] at h;subst h;rfl
 | .bool ..,_,_,h=>by simp only[cellsOf,z00] at h;subst h;rfl
 | .str ..,_,_,h=>by simp only[cellsOf,z00] at h;subst h;rfl
 | .bF,_,_,h=>by simp only[cellsOf,z00] at h;subst h;rfl
 | .iP,_,_,h=>by simp only[cellsOf,z00] at h;subst h;rfl
 | .jh,_,_,h=>by simp only[cellsOf,z00] at h;subst h;rfl
 | .jr,_,_,h=>by simp only[cellsOf,z00] at h;subst h;rfl
 | .qx,_,_,h=>by simp only[cellsOf,z00] at h;subst h;rfl
 | .arr n w f,cs,J,h=>by
  simp only[cellsOf] at h;split at h
  ·rename_i css hm;split at h
   ·rename_i hw;simp only[z00] at h;subst h;have hw':∀ c∈css,c.length=w:=by simpa using hw
    obtain⟨h1,h2⟩:=Tn _ _ hm;simp only[z1h] at h1;simp only[au];refine⟨by rw[FV css w hw',h1],λi hi=> ?_⟩
    rw[FU css w i hw' (by omega)]
    have:=h2 i (by simpa using hi) (by omega)
    rw[List.getElem_range] at this;exact BO (f i) _ J this
   ·cases h
  ·cases h
 | .agg l,cs,J,h=>by simp only[cellsOf] at h;simp only[au];exact FW l cs J h
 | .bK ..,_,_,h=>by simp only[cellsOf] at h;cases h
 | .lV,_,_,h=>by simp only[cellsOf] at h;cases h
 | .lst ..,_,_,h=>by simp only[cellsOf] at h;cases h
 | .lit ..,_,_,h=>by simp only[cellsOf] at h;cases h
 | .fM ..,_,_,h=>by simp only[cellsOf] at h;cases h
 | .ref ..,_,_,h=>by simp only[cellsOf] at h;cases h
 | .ptr ..,_,_,h=>by simp only[cellsOf] at h;cases h
 | .vec ..,_,_,h=>by simp only[cellsOf] at h;cases h
 | .gX ..,_,_,h=>by simp only[cellsOf] at h;cases h
 | .jO ..,_,_,h=>by simp only[cellsOf] at h;cases h
 | .map ..,_,_,h=>by simp only[cellsOf] at h;cases h
 | .fn ..,_,_,h=>by simp only[cellsOf] at h;cases h
 | .iface ..,_,_,h=>by simp only[cellsOf] at h;cases h
 | .raw ..,_,_,h=>by simp only[cellsOf] at h;cases h
 | .junk,_,_,h=>by simp only[cellsOf] at h;cases h
theorem FW:∀ (l:List SV) (cs:List Value) (J:Env),zB l=some cs->bQ l J cs
 |[],cs,_,h=>by simp only[zB,z00] at h;subst h;rfl
 |x::r,cs,J,h=>by
  simp only[zB] at h;split at h
  ·rename_i a b h1 h2;simp only[z00] at h;subst h;exact⟨a,b,rfl,BO x a J h1,FW r b J h2⟩
  ·cases h
end
def veq:Value->Value->Bool
 | .bool a, .bool b=>a==b
 | .int k a, .int j b=>k==j&&a==b
 | .string a, .string b=>a.data.toList==b.data.toList
 | .slice none 0 0, .slice none 0 0=>true
 | .nilIface, .nilIface=>true
 | .nilFunc, .nilFunc=>true
 | .pointer none, .pointer none=>true
 | .map none, .map none=>true
 |_,_=>false
theorem avx{a b:Value}(h:veq a b=true):a=b:=by
 unfold veq at h;split at h<;>first
  |rfl
  |(simp at h;subst h;rfl)
  |(simp at h;obtain⟨rfl,rfl⟩:=h;rfl)
  |(cases h;done)
  |(rename_i x y
    simp at h;cases x;cases y;simp at h;subst h;rfl)
def aoF:List Value->List Value->Bool
 |[],[]=>true
 |a::x,b::y=>veq a b&&aoF x y
 |_,_=>false
theorem Z9:∀ {x y:List Value},aoF x y=true->x=y
 |[],[],_=>rfl
 |a::x,b::y,h=>by
  simp only[aoF,z0g] at h;rw[avx h.1,Z9 h.2]
 |[],_::_,h=>by cases h
 |_::_,[],h=>by cases h
def WW(P:Program):Nat->TypeId->Option SV
 |0,_=>none
 |fuel+1,t=>match P.underlying t with
  |some .bool=>some (.bool false)
  |some (.int k)=>some (.int k 0)
  |some .string=>some (.str [])
  |some (.pointer _)=>some .jr
  |some (.slice _)=>some .bF
  |some (.interface _)=>some .iP
  |some (.func ..)=>some .jh
  |some (.map ..)=>some .qx
  |some (.struct fs)=>(fs.toList.mapM λf=>WW P fuel f.type).map .agg
  |some (.array n e)=>(WW P fuel e).map λz=> .arr n (wd z) λ_=>z
  |_=>none
def Py(P:Program)(t:TypeId):Option SV:=
 match WW P 8 t,P.info? t with
 |some z,some i=>match i.zero,cellsOf z with
  |some v,some cs=>if aoF cs v.cells.toList then some z else none
  |_,_=>none
 |_,_=>none
theorem xG{t:TypeId}{z:SV}(h:Py P t=some z):∃ i v,P.info? t=some i/\i.zero=some v/\∀ J,au z J v.cells.toList:=by
 unfold Py at h;split at h<;>try (cases h;done)
 rename_i z' i h1 h2;split at h<;>try (cases h;done)
 rename_i v cs h3 h4;split at h<;>try (cases h;done)
 rename_i hv;simp only[z00] at h;subst h;refine⟨i,v,h2,h3,λJ=> ?_⟩;rw[<- Z9 hv];exact BO _ _ _ h4
def rU(f:Nat->Option (List Step×Nat×Nat)):List (Nat×Operand)->Option (List (List Step×Nat×Nat×aS))
 |[]=>some []
 |(k,x)::r=>match f k,aQ x,rU f r with
  |some (p,o,n),some y,some ys=>some ((p,o,n,y)::ys)
  |_,_,_=>none
def aiy(P:Program)(fs:Array Field)(k:Nat):Option (List Step×Nat×Nat):=
 match fs[k]? with
 |some f=>match P.info? f.type with
  |some i=>some ([.eG k],f.offset,i.size)
  |none=>none
 |none=>none
def aac(P:Program)(t:TypeId)(parts:Array (Nat×Operand)):Option wK:=
 match Py P t,P.underlying t with
 |some z,some (.struct fs)=>if fs.toList.all λf=>(P.info? f.type).isSome then(rU (aiy P fs) parts.toList).map (.lF z) else none
 |some z,some (.array n e)=>match P.info? e with
  |some i=>(rU (λk=>some ([.idx k n],k*i.size,i.size)) parts.toList).map (.lF z)
  |none=>none
 |_,_=>none
def mV:Option Operand->Option (Option aS)
 |none=>some none
 |some x=>(aQ x).map some
def asw(P:Program)(c:Call):Option wK:=
 match c.callee,c.args.toList,c.argTypes.toList with
 | .builtin .len,[x],[t]=>do
  let x <- aQ x
  match P.underlying t with
  |some .string=>pure (.lens x)
  |some (.slice _)=>pure (.len x)
  |_=>none
 | .builtin .max,[x,y],[t,_]=>do
  match P.underlying t with
  |some (.int _)=>pure (.mx (<- aQ x) (<- aQ y))
  |_=>none
 | .builtin .min,[x,y],[t,_]=>do
  match P.underlying t with
  |some (.int _)=>pure (.mn (<- aQ x) (<- aQ y))
  |_=>none
 |_,_,_=>none
def abB(P:Program):Nat->TypeId->Option ES
 |0,_=>none
 |fuel+1,t=>match P.underlying t with
  |some .bool=>some .bool
  |some (.int k)=>some (.int k)
  |some .string=>some .str
  |some (.struct fs)=>(fs.toList.mapM λf=>abB P fuel f.type).map .st
  |some (.array n e)=>match abB P fuel e,P.info? e with
   |some z,some i=>some (.arr n i.size z)
   |_,_=>none
  |_=>none
mutual
def wE:ES->Nat
 | .st l=>wEL l
 | .arr n w _=>n*w
 |_=>1
def wEL:List ES->Nat
 |[]=>0
 |e::l=>wE e+wEL l
end
def jf:ES->Bool
 | .st _=>true
 | .arr .. =>true
 |_=>false
mutual
def dE:ES->Nat
 | .st l=>dEL l+1
 | .arr _ _ e=>dE e+1
 |_=>1
def dEL:List ES->Nat
 |[]=>0
 |e::l=>max (dE e) (dEL l)
end
mutual
def Ia(P:Program):TypeId->ES->Bool
 |t, .int k=>match P.underlying t with
  |some (.int k')=>decide (k'=k)
  |_=>false
 |t, .bool=>match P.underlying t with
  |some .bool=>true
  |_=>false
 |t, .str=>match P.underlying t with
  |some .string=>true
  |_=>false
 |t, .st l=>match P.underlying t with
  |some (.struct fs)=>Ld P fs.toList 0 l&& !P.stoodInHeld t
  |_=>false
 |t, .arr n w e=>match P.underlying t with
  |some (.array n' t')=>decide (n'=n)&&decide (P.cellsOf t'=w)&&decide (qm P t'=some (w,jf e))&&decide (wE e=w)&&Ia P t' e
  |_=>false
def Ld(P:Program):List Field->Nat->List ES->Bool
 |[],_,[]=>true
 |f::fs,off,e::l=>decide (f.name≠ "_")&&decide (f.offset=off)&&decide (qm P f.type=some (wE e,jf e))&&Ia P f.type e&&Ld P fs (off+wE e) l
 |_,_,_=>false
end
def Pz:Operand->Bool
 | .const (.slice none 0 0)=>true
 |_=>false
def PD:Operand->Bool
 | .const (.pointer none)=>true
 |_=>false
def PE(P:Program)(neg:Bool)(t:TypeId)(x y:aS):Option wK:=
 match abB P 8 t with
 |some e=>if Ia P t e&&jf e&&decide (dE e<=100)&& !P.eqGuardType P.depth t then some (.aeq neg e x y) else none
 |none=>none
def aiz(P:Program)(t:TypeId):Option (TypeId×ES):=match P.info? t with
 |some i=>if i.methods.size=0|| !i.comparable then none else match abB P 8 t with
  |some e=>if Ia P t e&&decide (dE e<=100) then some (t,e) else none
  |none=>none
 |none=>none
def JA(P:Program):List (TypeId×ES):=(z0h P.types.size).filterMap (aiz P)
theorem aiA{t u:TypeId}{e:ES}(h:aiz P u=some (t,e)):Ia P t e=true/\dE e<=100/\∃ i,P.info? t=some i/\i.comparable=true:=by
 unfold aiz at h;split at h<;>try (cases h;done)
 rename_i i hi;split at h<;>try (cases h;done)
 rename_i hc;split at h<;>try (cases h;done)
 rename_i e' he;split at h<;>try (cases h;done)
 rename_i hb;simp only[z00,z15] at h;obtain⟨rfl,rfl⟩:=h;simp only[z0g,decide_eq_true_eq] at hb;simp only[Bool.or_eq_true,not_or,Bool.not_eq_true,Bool.not_eq_false'] at hc;exact⟨hb.1,hb.2,i,hi,hc.2⟩
theorem Nh{t:TypeId}{e:ES}:∀ {l:List (TypeId×ES)},FT l t=some e->(t,e)∈l
 |[],h=>by cases h
 |(u,x)::r,h=>by
  simp only[FT] at h;split at h
  ·rename_i hu;cases h;subst hu;exact List.mem_cons_self
  ·exact List.mem_cons_of_mem _ (Nh h)
theorem abC{t:TypeId}{e:ES}(h:FT (JA P) t=some e):Ia P t e=true/\dE e<=100/\∃ i,P.info? t=some i/\i.comparable=true:=by obtain⟨u,_,hu⟩:=List.mem_filterMap.1 (Nh h);exact aiA hu
def avy(P:Program)(t:TypeId):Option SV:=match Py P t,P.info? t with
 |some z,some i=>match i.zero with
  |some (.agg _)=>if z.isAgg then some z else none
  |_=>none
 |_,_=>none
theorem aoG{t:TypeId}{z:SV}(h:avy P t=some z):z.isAgg=true/\∃ i cs,P.info? t=some i/\i.zero=some (.agg cs)/\∀ J,au z J cs.toList:=by
 unfold avy at h;split at h<;>try (cases h;done)
 rename_i z' i h1 h2;split at h<;>try (cases h;done)
 rename_i cs h3;split at h<;>try (cases h;done)
 rename_i hz;simp only[z00] at h;subst h;obtain⟨i',v,e1,e2,e3⟩:=xG h1;rw[h2] at e1;cases e1;rw[h3] at e2;cases e2;exact⟨hz,i,cs,h2,h3,e3⟩
def eX(P:Program):Op->Option wK
 | .move x| .assign x=>(aQ x).map .mv
 | .pick c x y=>do pure (.pick (<- aQ c) (<- aQ x) (<- aQ y))
 | .binOp op t xo yo _=>do
  let x <- aQ xo
  let y <- aQ yo
  match P.underlying t with
  |some (.int _)=>
   match vY.of op with
   |some o=>pure (.ar o x y)
   |none=>match QM.of op with
    |some o=>pure (.cmp o x y)
    |none=>none
  |some .bool=>match op with
   | .eql=>pure (.beq false x y)
   | .neq=>pure (.beq true x y)
   |_=>none
  |some .string=>match op with
   | .add=>pure (.cat x y)
   | .eql=>pure (.seq false x y)
   | .neq=>pure (.seq true x y)
   |_=>none
  |some (.slice _)=>match op with
   | .eql=>if Pz yo then pure (.BJ false x) else none
   | .neq=>if Pz yo then pure (.BJ true x) else none
   |_=>none
  |some (.pointer _)=>match op with
   | .eql=>if PD yo then pure (.Tj false x) else none
   | .neq=>if PD yo then pure (.Tj true x) else none
   |_=>none
  |some (.struct _)|some (.array _ _)=>match op with
   | .eql=>PE P false t x y
   | .neq=>PE P true t x y
   |_=>none
  |some (.interface _)=>match op with
   | .eql=>pure (.ieq false (JA P) x y)
   | .neq=>pure (.ieq true (JA P) x y)
   |_=>none
  |_=>none
 | .unOp .not _ x=>(aQ x).map .nt
 | .unOp .neg _ x=>(aQ x).map .neg
 | .convert s d x=>do
  let x <- aQ x
  match P.underlying s,P.underlying d with
  |some (.int _),some (.int k)=>pure (.conv k x)
  |_,_=>none
 | .fieldAddr s x k=>do
  let x <- aQ x
  match P.underlying s with
  |some (.struct fs)=>match fs[k]? with
   |some f=>match qm P f.type with
    |some (n,_)=>if n=0 then none else pure (.fa k f.offset x)
    |none=>none
   |none=>none
  |_=>none
 | .field s x k=>do
  let x <- aQ x
  match P.underlying s with
  |some (.struct fs)=>match fs[k]? with
   |some f=>match qm P f.type with
    |some (n,ag)=>if ag=false/\n≠1 then none else pure (.eG k f.offset n ag x)
    |none=>none
   |none=>none
  |_=>none
 | .indexAddr t x i=>do
  let x <- aQ x
  let i <- aQ i
  match P.underlying t with
  |some (.array n e)=>match qm P e with
   |some (sz,_)=>pure (.ia n sz x i)
   |none=>none
  |some (.slice e)=>match qm P e with
   |some (sz,_)=>pure (.is sz x i)
   |none=>none
  |_=>none
 | .index t x i=>do
  let x <- aQ x
  let i <- aQ i
  match P.underlying t with
  |some (.array n e)=>match qm P e with
   |some (sz,ag)=>if ag=false/\sz≠1 then none else pure (.ix n sz ag x i)
   |none=>none
  |some .string=>pure (.sx x i)
  |_=>none
 | .extract x k=>(aQ x).map (.ext k)
 | .makeFunc f first caps=>match f,first.toList with
  | .func f,[]=>(caps.toList.mapM aQ).map (.GL f)
  |_,_=>none
 | .nilCheck x=>(aQ x).map .nck
 | .makeInterface t x=>do
  let x <- aQ x
  match P.underlying t with
  |some (.interface _)|none=>none
  |_=>pure (.EF t x)
 | .typeAssert x _ t ok=>do
  let x <- aQ x
  match P.underlying t with
  |some (.interface _)|none=>none
  |_=>if ok then match avy P t with
   |some z=>pure (.tas t z x)
   |none=>none else none
 | .call c=>asw P c
 | .build t parts=>aac P t parts
 | .slice t x lo hi mx=>do
  let x <- aQ x
  let lo <- mV lo
  let hi <- mV hi
  let mx <- mV mx
  match P.underlying t with
  |some .string=>match mx with
   |none=>pure (.ssl x lo hi)
   |some _=>none
  |some (.slice e)=>match qm P e with
   |some (n,_)=>pure (.slc n x lo hi mx)
   |none=>none
  |some (.array n e)=>match lo,hi,mx with
   |none,none,none=>match qm P e with
    |some (w,_)=>pure (.asl n w x)
    |none=>none
   |_,_,_=>none
  |_=>none
 |_=>none
theorem bind_some{α β:Type _}{x:Option α}{f:α->Option β}{b:β}(h:x.bind f=some b):∃ a,x=some a/\f a=some b:=by
 cases x with
 |none=>cases h
 |some a=>exact⟨a,rfl,h⟩
theorem vY.WX{k k':IntKind}{a b:Int}{op:BinOp}{ao:vY}(h:vY.of op=some ao)(hk:ao.kinds k k'){K:Int->Prop}(hev:ao.ev k a b K):
  ∃ n,K n/\∀ w,(binOp op 0 (.int k a) (.int k' b)).run P w= .ok (.int k n) w:=by
 cases op<;>simp only[vY.of] at h<;>cases h<;>simp only[vY.kinds] at hk<;>simp only[vY.ev] at hev
 all_goals first
  |(subst hk;exact⟨_,hev,λw=>by simp[binOp,Op.intArith,Op.intBits,mM,MQ,WV,rP]⟩)
  |(subst hk;exact⟨_,hev.2,λw=>by simp[binOp,Op.intDiv,hev.1]⟩)
  |(exact⟨_,hev.2,λw=>by simp[binOp,Op.shift,Int.not_lt.2 hev.1]⟩)
theorem FX{op:BinOp}{t t':TypeId}{k k':IntKind}{a b:Int}:binOp op t (.int k a) (.int k' b)=binOp op t' (.int k a) (.int k' b):=by cases op<;>rfl
theorem QM.WX{k:IntKind}{a b:Int}{op:BinOp}{co:QM}(h:QM.of op=some co)(w:World):
  (binOp op 0 (.int k a) (.int k b)).run P w= .ok (.bool (co.ev a b)) w:=by
 cases op<;>simp only[QM.of] at h<;>cases h<;>simp[binOp,Op.intCmp,QM.ev,GT.gt,GE.ge]<;>first
  |rfl
  |(by_cases hab:a=b<;>simp[hab])
end Go.Sx
namespace Go.Sx
open Go
variable {P:Program}
theorem uy:∀ {e:ES} {x:SV},gU e x->x.isAgg=jf e:=by
 intro e x h;cases e<;>cases x<;>simp only[gU] at h<;>first
  |exact h.elim
  |rfl
mutual
theorem PG:∀ {e:ES} {x:SV},gU e x->wd x=wE e
 | .int _,x,h=>by cases x<;>simp only[gU] at h<;>rfl
 | .bool,x,h=>by cases x<;>simp only[gU] at h<;>rfl
 | .str,x,h=>by cases x<;>simp only[gU] at h<;>rfl
 | .st l,x,h=>by
  cases x<;>simp only[gU] at h;simp only[wd,wE];exact aad h
 | .arr n w e,x,h=>by cases x<;>simp only[gU] at h;obtain⟨rfl,rfl,_⟩:=h;rfl
theorem aad:∀ {l:List ES} {xs:List SV},lX l xs->DZ xs=wEL l
 |[],xs,h=>by
  cases xs with
  |nil=>rfl
  |cons=>simp only[lX] at h
 |e::l,xs,h=>by
  cases xs with
  |nil=>simp only[lX] at h
  |cons x xs=>
   simp only[lX] at h;simp only[DZ,wEL];rw[PG h.1,aad h.2]
end
theorem JB{d:Nat}{t':TypeId}{e:ES}{w':Nat}(ht:qm P t'=some (w',jf e)){f g:Nat->SV}{n:Nat}{cs cs':List Value}(h1:cs.length=n*w')(h2:cs'.length=n*w')(w:World)
  (h0:jf e=false->w'=1) (ih:∀ i,i<n->(Op.equalIn d t' (boxed (jf e) (sub cs (i*w') w')) (boxed (jf e) (sub cs' (i*w') w'))).run P w= .ok (nJ e (f i) (g i)) w):
  ∀ is:List Nat,(∀ i∈is,i<n)->(Op.eqItems d t' w' cs.toArray cs'.toArray is).run P w= .ok (is.all λi=>nJ e (f i) (g i)) w
 |[],_=>by simp[Op.eqItems]
 |i::is,hi=>by
  have hl:=hi i (by simp)
  have hle:=bG (w:=w') hl;have r:=JB ht h1 h2 w h0 ih is (λj hj=>hi j (by simp[hj]))
  simp only[Op.eqItems,z01,pY ht w cs (i*w') (by omega) h0,pY ht w cs' (i*w') (by omega) h0,Result.andThen_ok,ih i hl,z2w]
  cases nJ e (f i) (g i)
  ·simp
  ·simpa using r
theorem JD:∀ {e:ES},jf e=false->wE e=1:=by intro e h;cases e<;>first|rfl|(simp[jf] at h)
mutual
theorem sU:∀ (e:ES) {t:TypeId} {d:Nat} {x y:SV} {J J':Env} {cs cs':List Value} (w:World),Ia P t e=true->dE e<=d->gU e x->gU e y->au x J cs->au y J' cs'->
  (Op.equalIn d t (boxed (jf e) cs) (boxed (jf e) cs')).run P w= .ok (nJ e x y) w
 | .int k,t,d,x,y,J,J',cs,cs',w,hb,hd,hx,hy,sx,sy=>by
  obtain⟨a,rfl⟩:∃ a,x= .int k a:=by cases x<;>simp_all [gU]
  obtain⟨b,rfl⟩:∃ b,y= .int k b:=by cases y<;>simp_all [gU]
  simp only[au] at sx sy;subst sx;subst sy;simp only[Ia] at hb;split at hb<;>try (cases hb;done)
  rename_i hu;obtain⟨d,rfl⟩:∃ d',d=d'+1:=⟨d - 1,by simp only[dE] at hd;omega⟩
  by_cases hab:a=b<;>simp[boxed,jf,Op.equalIn,run_underlying hu,nJ,hab]
 | .bool,t,d,x,y,J,J',cs,cs',w,hb,hd,hx,hy,sx,sy=>by
  obtain⟨a,rfl⟩:∃ a,x= .bool a:=by cases x<;>simp_all [gU]
  obtain⟨b,rfl⟩:∃ b,y= .bool b:=by cases y<;>simp_all [gU]
  simp only[au] at sx sy;subst sx;subst sy;simp only[Ia] at hb;split at hb<;>try (cases hb;done)
  rename_i hu;obtain⟨d,rfl⟩:∃ d',d=d'+1:=⟨d - 1,by simp only[dE] at hd;omega⟩
  simp[boxed,jf,Op.equalIn,run_underlying hu,nJ]
 | .str,t,d,x,y,J,J',cs,cs',w,hb,hd,hx,hy,sx,sy=>by
  obtain⟨a,rfl⟩:∃ a,x= .str a:=by cases x<;>simp_all [gU]
  obtain⟨b,rfl⟩:∃ b,y= .str b:=by cases y<;>simp_all [gU]
  simp only[au] at sx sy;subst sx;subst sy;simp only[Ia] at hb;split at hb<;>try (cases hb;done)
  rename_i hu;obtain⟨d,rfl⟩:∃ d',d=d'+1:=⟨d - 1,by simp only[dE] at hd;omega⟩
  have hq:((⟨a.toArray⟩:ByteArray)==⟨b.toArray⟩)=decide (a=b):=by
   have k:∀ x y:ByteArray,(x==y)=(x.data==y.data):=λx y=>by cases x;cases y;rfl
   rw[k];by_cases hab:a=b
   ·subst hab;simp
   ·simp[hab]
  simp[boxed,jf,Op.equalIn,run_underlying hu,nJ,hq]
 | .st l,t,d,x,y,J,J',cs,cs',w,hb,hd,hx,hy,sx,sy=>by
  cases x<;>simp only[gU] at hx;cases y<;>simp only[gU] at hy;simp only[au] at sx sy;simp only[Ia] at hb;split at hb<;>try (cases hb;done)
  rename_i fs hu;simp only[z0g,z2o] at hb;simp only[dE] at hd;obtain⟨d,rfl⟩:∃ d',d=d'+1:=⟨d - 1,by omega⟩
  have hfs:P.fieldsOf t=fs:=by simp[Program.fieldsOf,hu]
  simp only[boxed,jf,if_true,nJ];rw[run_equalIn_struct w d t cs.toArray cs'.toArray (by rw[hfs];exact hu) hb.2,hfs]
  have:=FY l w (d:=d) (fs:=fs.toList) (off:=0) (pre:=[]) (pre':=[]) hb.1 (by omega) hx hy sx sy rfl rfl
  simpa using this
 | .arr n w' e,t,d,x,y,J,J',cs,cs',w,hb,hd,hx,hy,sx,sy=>by
  cases x<;>simp only[gU] at hx;cases y<;>simp only[gU] at hy;obtain⟨rfl,rfl,hx⟩:=hx;obtain⟨rfl,rfl,hy⟩:=hy;simp only[au] at sx sy;simp only[Ia] at hb;split at hb<;>try (cases hb;done)
  rename_i n' t' hu;simp only[z0g,decide_eq_true_eq] at hb;obtain⟨⟨⟨⟨rfl,h2⟩,h3⟩,h4⟩,h5⟩:=hb;simp only[dE] at hd;obtain⟨d,rfl⟩:∃ d',d=d'+1:=⟨d - 1,by omega⟩
  simp only[boxed,jf,if_true,nJ];have hi:∃ i,P.info? t'=some i:=by unfold qm at h3;split at h3<;>first|exact⟨_,by assumption⟩|cases h3
  obtain⟨i,hi⟩:=hi;rw[run_equalIn_array w d cs.toArray cs'.toArray hu hi,h2];exact JB h3 sx.1 sy.1 w (λh=>by rw[<- h4];exact JD h) (λj hj=>sU e w h5 (by omega) (hx j hj) (hy j hj) (sx.2 j hj) (sy.2 j hj)) _ (λj hj=>by simpa using hj)
theorem FY:∀ (l:List ES) {xs ys:List SV} {J J':Env} {cs cs' pre pre':List Value} (w:World) {d:Nat} {fs:List Field} {off:Nat},Ld P fs off l=true->dEL l<=d->lX l xs->lX l ys->bQ xs J cs->bQ ys J' cs'->pre.length=off->pre'.length=off->
  (Op.eqFields d (pre++cs).toArray (pre'++cs').toArray fs).run P w= .ok (GY l xs ys) w
 |[],xs,ys,J,J',cs,cs',pre,pre',w,d,fs,off,hb,hd,hx,hy,sx,sy,hp,hp'=>by
  cases fs with
  |nil=>simp[Op.eqFields,GY]
  |cons=>simp[Ld] at hb
 |e::l,xs,ys,J,J',cs,cs',pre,pre',w,d,fs,off,hb,hd,hx,hy,sx,sy,hp,hp'=>by
  cases fs with
  |nil=>simp[Ld] at hb
  |cons f fs=>
   cases xs with
   |nil=>simp only[lX] at hx
   |cons x xs=>
    cases ys with
    |nil=>simp only[lX] at hy
    |cons y ys=>
     simp only[lX] at hx hy;simp only[bQ] at sx sy;obtain⟨a,b,rfl,s1,s2⟩:=sx;obtain⟨a',b',rfl,s1',s2'⟩:=sy;simp only[Ld,z0g,decide_eq_true_eq] at hb;obtain⟨⟨⟨⟨b1,b2⟩,b3⟩,b4⟩,b5⟩:=hb;simp only[dEL] at hd;have l1:a.length=wE e:=by rw[au.length _ s1,PG hx.1]
     have l1':a'.length=wE e:=by rw[au.length _ s1',PG hy.1]
     have q:sub (pre++(a++b)) off (wE e)=a:=by simp only[sub];rw[z1o (by omega),z0b (by omega),z0x,z1m (by omega),z0o (by omega)]
     have q':sub (pre'++(a'++b')) off (wE e)=a':=by simp only[sub];rw[z1o (by omega),z0b (by omega),z0x,z1m (by omega),z0o (by omega)]
     have r:=FY l (pre:=pre++a) (pre':=pre'++a') w (d:=d) (fs:=fs) b5 (by omega) hx.2 hy.2 s2 s2' (by simp;omega) (by simp;omega)
     have k:=sU e w b4 (d:=d) (by omega) hx.1 hy.1 s1 s1'
     have p1:=pY b3 w (pre++(a++b)) off (by simp;omega) (λh=>JD h)
     have p2:=pY b3 w (pre'++(a'++b')) off (by simp;omega) (λh=>JD h)
     rw[q] at p1;rw[q'] at p2;rw[z14] at r;rw[z14] at r;simp only[Op.eqFields,b1,ne_eq,not_false_eq_true,if_true,z01,b2,p1,p2,Result.andThen_ok,k,GY];cases nJ e x y
     ·simp
     ·simpa using r
end
theorem abD{x:SV}{n:Nat}(h:yj x=some n){J:Env}{v:Value}(hs:bM J x v):∃ ao cap,v= .slice ao n cap/\(ao=none->n=0)/\(x= .bF->ao=none):=by
 cases x<;>simp only[yj,z00] at h<;>try (cases h;done)
 ·subst h;obtain⟨cs,h1,h2⟩:=hs;simp only[au] at h1;obtain⟨ao,cap,rfl,k1,_,k3,_⟩:=h1;refine⟨ao,cap,by rw[h2];rfl,λe=>by have:=k3 e;omega,λe=>by cases e⟩
 ·subst h;obtain⟨cs,h1,h2⟩:=hs;simp only[au] at h1;obtain⟨ao,rfl,_,k3,_⟩:=h1;exact⟨ao,_,by rw[h2];rfl,k3,λe=>by cases e⟩
 ·subst h;obtain⟨h1,h2,h3⟩:=xE hs;rcases h2 with⟨e,rfl⟩|⟨b,cap,e,_⟩
  ·exact⟨none,0,by rw[h3,e],λ_=>rfl,λe=>by cases e⟩
  ·exact⟨some _,cap,by rw[h3,e],λe=>by(cases e),λe=>by cases e⟩
 ·subst h;have:=vV hs;exact⟨none,0,this,λ_=>rfl,λ_=>rfl⟩
end Go.Sx
namespace Go.Sx
open Go
variable {P:Program} {σ:List SV} {K:SV->Prop} {o:Oper}
theorem lS:∀ (p:List Step) (s:Step),fV p->fV [s]->fV (p++[s])
 |[],_,_,h=>h
 | .eG _::p,s,h1,h2=>lS p s h1 h2
 | .idx _ _::p,s,h1,h2=>⟨h1.1,lS p s h1.2 h2⟩
theorem UQ{x:Operand}{y:aS}(ho:o.op= .move x\/o.op= .assign x)(hx:aQ x=some y)(h:K (y.ev σ)):∃ sv,K sv/\dX P o σ sv:=by refine⟨_,h,λJ a hs=>⟨a.eval x,λw=> ?_,aB hx hs⟩⟩;rcases ho with ho|ho<;>simp[execOp,ho]
theorem YJ{c x y:Operand}{c' x' y':aS}(ho:o.op= .pick c x y)(hc:aQ c=some c')(hx:aQ x=some x')(hy:aQ y=some y')
  (h:aV σ K (.pick c' x' y')):∃ sv,K sv/\dX P o σ sv:=by
 simp only[aV] at h;split at h
 ·rename_i b hb;cases b with
  |true=>
   refine⟨_,h.1 rfl,λJ a hs=>⟨a.eval x,λw=> ?_,aB hx hs⟩⟩;have:=iW (hb▸aB hc hs);simp[execOp,ho,this,asBool]
  |false=>
   refine⟨_,h.2 rfl,λJ a hs=>⟨a.eval y,λw=> ?_,aB hy hs⟩⟩;have:=iW (hb▸aB hc hs);simp[execOp,ho,this,asBool]
 ·exact h.elim
theorem alN{op:BinOp}{t yt:TypeId}{x y:Operand}{x' y':aS}(ho:o.op= .binOp op t x y yt)(hx:aQ x=some x')(hy:aQ y=some y')(neg:Bool)(hop:op=(if neg then .neq else .eql)){p:wK}(hp:PE P neg t x' y'=some p)(h:aV σ K p):∃ sv,K sv/\dX P o σ sv:=by
 unfold PE at hp;split at hp<;>try (cases hp;done)
 rename_i e _;split at hp<;>try (cases hp;done)
 rename_i hc;simp only[z0g,z2o,decide_eq_true_eq] at hc;obtain⟨⟨⟨c1,c2⟩,c3⟩,c4⟩:=hc;simp only[z00] at hp;subst hp;simp only[aV] at h;obtain⟨⟨h1,h2⟩,h3⟩:=h;refine⟨_,h3,λJ a hs=> ?_⟩;have sx:=aB hx hs;have sy:=aB hy hs;have agg:∀ {z:SV} {v:Value},gU e z->bM J z v->∃ cs,au z J cs/\v=boxed (jf e) cs:=by
  intro z v hz hsv;have hia:=uy hz;cases z with
  |bK l=>cases e<;>simp only[gU] at hz
  |junk=>cases e<;>simp only[gU] at hz
  |_=>obtain⟨cs,k1,k2⟩:=hsv;exact⟨cs,k1,by rw[k2,hia]⟩
 obtain⟨cs,k1,k2⟩:=agg h1 sx;obtain⟨cs',k3,k4⟩:=agg h2 sy;have hq:∀ w,(Op.equal t (a.eval x) (a.eval y)).run P w= .ok (nJ e (x'.ev σ) (y'.ev σ)) w:=λw=>by rw[k2,k4];exact sU e w c1 (d:=10000) (by omega) h1 h2 k1 k3
 have hv:a.eval x= .agg cs.toArray:=by rw[k2,c2];rfl
 have hv':a.eval y= .agg cs'.toArray:=by rw[k4,c2];rfl
 rw[hv,hv'] at hq;have hg:∀ op w,(eqGuard op t x y (.agg cs.toArray) (.agg cs'.toArray)).run P w= .ok () w:=λop w=>by cases op<;>simp[eqGuard,c4]
 refine⟨.bool (if neg then !nJ e (x'.ev σ) (y'.ev σ) else nJ e (x'.ev σ) (y'.ev σ)),λw=> ?_,uw⟩
 cases neg<;>subst hop<;>simp[execOp,ho,hv,hv',hg,binOp,hq]
theorem jH{J:Env}{t:TypeId}{x:SV}{v:Value}(h:bM J (.iface t x) v):∃ xs,au x J xs/\v= .iface t (boxed x.isAgg xs):=by obtain⟨cs,h1,h2⟩:=h;simp only[au] at h1;obtain⟨xs,h3,rfl⟩:=h1;exact⟨xs,h3,h2⟩
theorem JZ{t:TypeId}{i:TypeInfo}(h:P.info? t=some i)(w:World):(typeInfo t).run P w= .ok i w:=by simp[typeInfo,h]
theorem Qu(d:Nat){ti t:TypeId}{ms:Array (String×TypeId)}{i:TypeInfo}(hu:P.underlying ti=some (.interface ms))(hi:P.info? t=some i)(hc:i.comparable=true)(x y:Value)(w:World):
  (Op.equalIn (d+1) ti (.iface t x) (.iface t y)).run P w=(Op.equalIn d t x y).run P w:=by
 simp[Op.equalIn,run_underlying hu,JZ hi,hc]
theorem LJ(d:Nat){ti t u:TypeId}{ms:Array (String×TypeId)}(hu:P.underlying ti=some (.interface ms))(hne:t≠u)(x y:Value)(w:World):
  (Op.equalIn (d+1) ti (.iface t x) (.iface u y)).run P w= .ok false w:=by
 simp[Op.equalIn,run_underlying hu,hne]
theorem UR(d:Nat){ti:TypeId}{ms:Array (String×TypeId)}(hu:P.underlying ti=some (.interface ms))(w:World):
  (Op.equalIn (d+1) ti .nilIface .nilIface).run P w= .ok true w:=by
 simp[Op.equalIn,run_underlying hu]
theorem YK(d:Nat){ti u:TypeId}{ms:Array (String×TypeId)}(hu:P.underlying ti=some (.interface ms))(x:Value)(w:World):
  (Op.equalIn (d+1) ti (.iface u x) .nilIface).run P w= .ok false w:=by
 simp[Op.equalIn,run_underlying hu]
theorem YL(d:Nat){ti u:TypeId}{ms:Array (String×TypeId)}(hu:P.underlying ti=some (.interface ms))(x:Value)(w:World):
  (Op.equalIn (d+1) ti .nilIface (.iface u x)).run P w= .ok false w:=by
 simp[Op.equalIn,run_underlying hu]
theorem aw0{op:BinOp}{t yt:TypeId}{x y:Operand}{x' y':aS}(ho:o.op= .binOp op t x y yt)(hx:aQ x=some x')(hy:aQ y=some y')(neg:Bool)(hop:op=(if neg then .neq else .eql)){ms:Array (String×TypeId)}(hu:P.underlying t=some (.interface ms))(h:aV σ K (.ieq neg (JA P) x' y')):∃ sv,K sv/\dX P o σ sv:=by
 have run:∀ (c:Bool),(∀ J a,aH J σ a->∃ X Y,a.eval x=X/\a.eval y=Y/\((∃ u v,X= .iface u v)\/((X= .nilIface/\∃ u v,Y= .iface u v))\/(X= .nilIface/\y= .const .nilIface))/\(Y= .nilIface\/∃ u v,Y= .iface u v)/\∀ w,(Op.equal t X Y).run P w= .ok c w)->K (.bool (if neg then !c else c))->∃ sv,K sv/\dX P o σ sv:=by
  intro c hc hK;refine⟨_,hK,λJ a hs=> ?_⟩;obtain⟨X,Y,s1,s2,hX,hY,hq⟩:=hc J a hs;refine⟨.bool (if neg then !c else c),λw=> ?_,uw⟩
  rcases hX with⟨_,_,rfl⟩|⟨rfl,_,_,rfl⟩|⟨rfl,hy0⟩
  ·rcases hY with rfl|⟨_,_,rfl⟩<;>cases neg<;>subst hop<;>simp[execOp,ho,s1,s2,eqGuard,binOp,hq]
  ·cases neg<;>subst hop<;>simp[execOp,ho,s1,s2,eqGuard,binOp,hq]
  ·subst hy0;simp only[z2x] at s2;subst s2;have s2:a.eval (.const .nilIface)= .nilIface:=rfl;cases neg<;>subst hop<;>simp[execOp,ho,s1,s2,eqGuard,binOp,hq]
 simp only[aV] at h;split at h
 ·rename_i u a' e1;split at h
  ·rename_i u' b' e2;split at h
   ·rename_i heq;subst heq;split at h
    ·rename_i e he;obtain⟨⟨p1,p2⟩,hK⟩:=h;obtain⟨c1,c2,i,hi,hcomp⟩:=abC he;refine run (nJ e a' b') (λJ a hs=> ?_) (by cases neg<;>exact hK)
     obtain⟨xs,k1,s1⟩:=jH (e1▸aB hx hs);obtain⟨ys,k2,s2⟩:=jH (e2▸aB hy hs);refine⟨_,_,s1,s2, .inl ⟨_,_,rfl⟩, .inr ⟨_,_,rfl⟩,λw=> ?_⟩;rw[uy p1,uy p2];have:=sU e w c1 (d:=9999) (by omega) p1 p2 k1 k2
     exact(Qu 9999 hu hi hcomp _ _ w).trans this
    ·exact h.elim
   ·rename_i hne;refine run false (λJ a hs=> ?_) (by cases neg<;>exact h)
    obtain⟨xs,k1,s1⟩:=jH (e1▸aB hx hs);obtain⟨ys,k2,s2⟩:=jH (e2▸aB hy hs);refine⟨_,_,s1,s2, .inl ⟨_,_,rfl⟩, .inr ⟨_,_,rfl⟩,λw=> ?_⟩;exact LJ 9999 hu (λe:u=u'=>hne e.symm) _ _ w
  ·rename_i e2;refine run false (λJ a hs=> ?_) (by cases neg<;>exact h)
   obtain⟨xs,k1,s1⟩:=jH (e1▸aB hx hs);exact⟨_,_,s1,DX (e2▸aB hy hs), .inl ⟨_,_,rfl⟩, .inl rfl,λw=>YK 9999 hu _ w⟩
  ·exact h.elim
 ·rename_i e1;split at h
  ·rename_i e2;refine run false (λJ a hs=> ?_) (by cases neg<;>exact h)
   obtain⟨ys,k2,s2⟩:=jH (e2▸aB hy hs);exact⟨_,_,DX (e1▸aB hx hs),s2, .inr (.inl ⟨rfl,_,_,rfl⟩), .inr ⟨_,_,rfl⟩,λw=>YL 9999 hu _ w⟩
  ·rename_i e2;split at h
   ·refine run true (λJ a hs=> ?_) (by cases neg<;>exact h)
    have hv:=DX (e2▸aB hy hs);refine⟨_,_,DX (e1▸aB hx hs),hv, .inr (.inr ⟨rfl,?_⟩), .inl rfl,λw=>UR 9999 hu w⟩;cases y with
    |tmp _=>simp[aQ] at hy
    |global _=>simp[aQ] at hy
    |func _=>simp[z2x] at hv
    |const v=>simp only[z2x] at hv;rw[hv]
   ·exact h.elim
  ·exact h.elim
 ·exact h.elim
theorem aeD{op:BinOp}{t yt:TypeId}{x y:Operand}{p:wK}(ho:o.op= .binOp op t x y yt)(hp:eX P o.op=some p)(h:aV σ K p):∃ sv,K sv/\dX P o σ sv:=by
 rw[ho] at hp;simp only[eX,bind,z06] at hp;obtain⟨x',hx,hp⟩:=bind_some hp;obtain⟨y',hy,hp⟩:=bind_some hp;split at hp
 ·split at hp
  ·rename_i ao hao;simp only[z00] at hp;subst hp;simp only[aV] at h;split at h
   ·rename_i k a' k' b' e1 e2;obtain⟨hk,hev⟩:=h;obtain⟨n,hK,hr⟩:=vY.WX (P:=P) hao hk hev;refine⟨_,hK,λJ a hs=>⟨_,λw=> ?_,BN⟩⟩;have s1:=iq (e1▸aB hx hs);have s2:=iq (e2▸aB hy hs);have:=hr w;rw[FX (t':=t)] at this;simp[execOp,ho,s1,s2,eqGuard_at_int,this]
   ·exact h.elim
  ·split at hp
   ·rename_i co hco;simp only[z00] at hp;subst hp;simp only[aV] at h;split at h
    ·rename_i k a' k' b' e1 e2;obtain⟨rfl,hK⟩:=h;refine⟨_,hK,λJ a hs=>⟨_,λw=> ?_,uw⟩⟩;have s1:=iq (e1▸aB hx hs);have s2:=iq (e2▸aB hy hs);have:=QM.WX (P:=P) (k:=k') (a:=a') (b:=b') hco w;rw[FX (t':=t)] at this;simp[execOp,ho,s1,s2,eqGuard_at_int,this]
    ·exact h.elim
   ·cases hp
 ·rename_i ht;have beq:∀ (neg:Bool),op=(if neg then .neq else .eql)->aV σ K (.beq neg x' y')->∃ sv,K sv/\dX P o σ sv:=by
   intro neg hop h;simp only[aV] at h;split at h
   ·rename_i a' b' e1 e2;refine⟨_,h,λJ a hs=>⟨_,λw=> ?_,uw⟩⟩;have s1:=iW (e1▸aB hx hs);have s2:=iW (e2▸aB hy hs);cases neg<;>subst hop<;>simp[execOp,ho,s1,s2,eqGuard_at_bool,binOp,run_equal_bool w t a' b' ht,bne]
   ·exact h.elim
  split at hp
  ·simp only[z00] at hp;subst hp;exact beq false rfl h
  ·simp only[z00] at hp;subst hp;exact beq true rfl h
  ·cases hp
 ·have seq:∀ (neg:Bool),op=(if neg then .neq else .eql)->aV σ K (.seq neg x' y')->∃ sv,K sv/\dX P o σ sv:=by
   intro neg hop h;simp only[aV] at h;split at h
   ·rename_i a' b' e1 e2;refine⟨_,h,λJ a hs=>⟨_,λw=> ?_,uw⟩⟩;have s1:=uq (e1▸aB hx hs);have s2:=uq (e2▸aB hy hs);have hb:(a'==b')=decide (a'=b'):=by by_cases hab:a'=b'<;>simp[hab]
    cases neg<;>subst hop<;>simp[execOp,ho,s1,s2,eqGuard_at_string,binOp,Op.stringOp,ByteArray.toList_mk,hb]
   ·exact h.elim
  split at hp
  ·simp only[z00] at hp;subst hp;simp only[aV] at h;split at h
   ·rename_i a' b' e1 e2;refine⟨_,h.2,λJ a hs=>⟨_,λw=> ?_,aiv⟩⟩;have s1:=uq (e1▸aB hx hs);have s2:=uq (e2▸aB hy hs);have h3:¬ (IntKind.i64.max< (((⟨a'.toArray⟩:ByteArray).size+(⟨b'.toArray⟩:ByteArray).size:Nat):Int)):=by
     have h4:(⟨a'.toArray⟩:ByteArray).size=a'.length:=by simp[z18]
     have h5:(⟨b'.toArray⟩:ByteArray).size=b'.length:=by simp[z18]
     rw[h4,h5,IntKind.max_i64];omega
    have h6:(⟨a'.toArray⟩:ByteArray)++⟨b'.toArray⟩=⟨(a'++b').toArray⟩:=by apply z2l;simp
    simp only[execOp,ho,s1,s2,eqGuard_at_string,binOp,Op.stringOp,z01,z08,Result.andThen_ok,GT.gt,if_neg h3,h6]
   ·exact h.elim
  ·simp only[z00] at hp;subst hp;exact seq false rfl h
  ·simp only[z00] at hp;subst hp;exact seq true rfl h
  ·cases hp
 ·have key:∀ (neg:Bool),op=(if neg then .neq else .eql)->Pz y=true->aV σ K (.BJ neg x')->∃ sv,K sv/\dX P o σ sv:=by
   rename_i el ht;intro neg hop hy0 h;have hyv:y= .const (.slice none 0 0):=by unfold Pz at hy0;split at hy0<;>first|rfl|cases hy0
   simp only[aV] at h;split at h
   ·rename_i n hn;have run:∀ J a,aH J σ a->∃ ao:Option Addr,(∀ w,(execOp a.eval o).run P w= .ok (.value (.bool (if neg then !ao.isNone else ao.isNone))) w)/\(ao=none->n=0)/\(x'.ev σ= .bF->ao=none):=by
     intro J a hs;obtain⟨ao,cap,e1,e2,e3⟩:=abD hn (aB hx hs);refine⟨ao,λw=> ?_,e2,e3⟩;have hg:∀ op,eqGuard op t x y (.slice ao n cap) (.slice none 0 0)=pure ():=λop=>by cases op<;>rfl
     have hy2:a.eval y= .slice none 0 0:=by rw[hyv];rfl
     have hq:(Op.equal t (.slice ao n cap) (.slice none 0 0)).run P w= .ok ao.isNone w:=run_equalIn_slice_nil w 9999 t el ao n cap ht;cases neg<;>subst hop<;>simp[execOp,ho,e1,hy2,hg,binOp,hq]
    split at h
    ·rename_i e;refine⟨_,h,λJ a hs=> ?_⟩;obtain⟨ao,h1,h2,h3⟩:=run J a hs;have:=h3 e;subst this;exact⟨_,h1,by cases neg<;>exact uw⟩
    ·by_cases hn0:n=0
     ·refine⟨_,h.1 (by simp[hn0]),λJ a hs=> ?_⟩
      obtain⟨ao,h1,h2,h3⟩:=run J a hs;exact⟨_,h1,⟨[.bool (if neg then !ao.isNone else ao.isNone)],by simp only[au];exact⟨_,rfl⟩,rfl⟩⟩
     ·refine⟨_,h.2 (by simp[hn0]),λJ a hs=> ?_⟩
      obtain⟨ao,h1,h2,h3⟩:=run J a hs;cases ao with
      |none=>exact absurd (h2 rfl) hn0
      |some x=>exact⟨_,h1,by cases neg<;>exact uw⟩
   ·exact h.elim
  split at hp
  ·split at hp
   ·rename_i hny;simp only[z00] at hp;subst hp;exact key false rfl hny h
   ·cases hp
  ·split at hp
   ·rename_i hny;simp only[z00] at hp;subst hp;exact key true rfl hny h
   ·cases hp
  ·cases hp
 ·have key:∀ (neg:Bool),op=(if neg then .neq else .eql)->PD y=true->aV σ K (.Tj neg x')->∃ sv,K sv/\dX P o σ sv:=by
   rename_i el ht;intro neg hop hy0 h;have hyv:y= .const (.pointer none):=by unfold PD at hy0;split at hy0<;>first|rfl|cases hy0
   have hy2:∀ a:Act,a.eval y= .pointer none:=λa=>by rw[hyv];rfl
   have hpt:P.underlying t=some (.pointer (P.pointee t)):=by simp[Program.pointee,ht]
   have go:∀ (b:Bool),(∀ J a,aH J σ a->∃ p:Option Addr,a.eval x= .pointer p/\p.isNone=b)->K (.bool (if neg then !b else b))->∃ sv,K sv/\dX P o σ sv:=by
    intro b hb hK;refine⟨_,hK,λJ a hs=> ?_⟩;obtain⟨p,e1,e2⟩:=hb J a hs;refine⟨.bool (if neg then !b else b),λw=> ?_,uw⟩
    have hg:∀ op,eqGuard op t x y (.pointer p) (.pointer none)=pure ():=λop=>by cases op<;>rfl
    have hq:(Op.equal t (.pointer p) (.pointer none)).run P w= .ok p.isNone w:=run_equalIn_pointer_nil w 9999 t p hpt;cases neg<;>subst hop<;>simp[execOp,ho,e1,hy2,hg,binOp,hq,e2]
   simp only[aV] at h;split at h
   ·rename_i e;exact go true (λJ a hs=>⟨none,aiu (e▸aB hx hs),rfl⟩) (by cases neg<;>exact h)
   ·rename_i e;refine go false (λJ a hs=> ?_) (by cases neg<;>exact h)
    obtain⟨_,_,h3⟩:=DY (e▸aB hx hs);exact⟨_,h3,rfl⟩
   ·rename_i e;refine go false (λJ a hs=> ?_) (by cases neg<;>exact h)
    obtain⟨cs,h1,h2⟩:bM J _ _:=e▸aB hx hs;simp only[au] at h1;obtain⟨b,off,T,fz,cur,rfl,_⟩:=h1;exact⟨_,h2,rfl⟩
   ·rename_i e;refine go false (λJ a hs=> ?_) (by cases neg<;>exact h)
    obtain⟨_,_,b,cap,n,_,_,h3⟩:=zy (e▸aB hx hs);exact⟨_,h3,rfl⟩
   ·rename_i e;refine go false (λJ a hs=> ?_) (by cases neg<;>exact h)
    obtain⟨cs,h1,h2⟩:bM J _ _:=e▸aB hx hs;simp only[au] at h1;obtain⟨b,T,fz,cur,rfl,_⟩:=h1;exact⟨_,h2,rfl⟩
   ·exact h.elim
  split at hp
  ·split at hp
   ·rename_i hny;simp only[z00] at hp;subst hp;exact key false rfl hny h
   ·cases hp
  ·split at hp
   ·rename_i hny;simp only[z00] at hp;subst hp;exact key true rfl hny h
   ·cases hp
  ·cases hp
 ·have key:=alN (P:=P) (σ:=σ) (K:=K) (o:=o) (t:=t) ho hx hy;split at hp
  ·exact key false rfl hp h
  ·exact key true rfl hp h
  ·cases hp
 ·have key:=alN (P:=P) (σ:=σ) (K:=K) (o:=o) (t:=t) ho hx hy;split at hp
  ·exact key false rfl hp h
  ·exact key true rfl hp h
  ·cases hp
 ·rename_i ms hu;have key:∀ neg:Bool,op=(if neg then .neq else .eql)->aV σ K (.ieq neg (JA P) x' y')->∃ sv,K sv/\dX P o σ sv:=λneg hop h=>aw0 ho hx hy neg hop hu h
  split at hp
  ·simp only[z00] at hp;subst hp;exact key false rfl h
  ·simp only[z00] at hp;subst hp;exact key true rfl h
  ·cases hp
 ·cases hp
theorem alO{op:UnOp}{t:TypeId}{x:Operand}{p:wK}(ho:o.op= .unOp op t x)(hp:eX P o.op=some p)(h:aV σ K p):∃ sv,K sv/\dX P o σ sv:=by
 rw[ho] at hp;cases op<;>simp only[eX,z05] at hp<;>first|(cases hp;done)|skip
 all_goals
  obtain⟨x',hx,rfl⟩:=hp;simp only[aV] at h;split at h
  ·rename_i a' e1;refine⟨_,h,λJ a hs=>⟨_,λw=> ?_,⟨_,rfl,rfl⟩⟩⟩;have s1:=aB hx hs;rw[e1] at s1
   first
    |(have s1:=iW s1;simp[execOp,ho,s1,Op.unary,boxed,SV.isAgg];done)
    |(have s1:=iq s1;simp[execOp,ho,s1,Op.unary,Op.intArith,boxed,SV.isAgg];done)
  ·exact h.elim
theorem YM{s d:TypeId}{x:Operand}{p:wK}(ho:o.op= .convert s d x)(hp:eX P o.op=some p)(h:aV σ K p):∃ sv,K sv/\dX P o σ sv:=by
 rw[ho] at hp;simp only[eX,bind,z06] at hp;obtain⟨x',hx,hp⟩:=bind_some hp;split at hp
 ·rename_i k1 k2 h1 h2;simp only[z00] at hp;subst hp;simp only[aV] at h;split at h
  ·rename_i k a' e1;refine⟨_,h,λJ a hs=>⟨_,λw=> ?_,BN⟩⟩;have s1:=iq (e1▸aB hx hs);simp[execOp,ho,convert,run_underlying h1,run_underlying h2,s1,Conv.intToInt]
  ·exact h.elim
 ·cases hp
theorem J3{x:Operand}{x':aS}{s:Step}{off:Nat}(hx:aQ x=some x')(hs1:fV [s])
  (hrun:∀ (J:Env) (a:Act) (ad:Addr),aH J σ a->a.eval x= .pointer (some ad)->∀ w,(execOp a.eval o).run P w= .ok (.value (.pointer (some (ad.add off)))) w)
  (h:zA s off K (x'.ev σ)):∃ sv,K sv/\dX P o σ sv:=by
 unfold zA at h;split at h
 ·rename_i i p o' e1;refine⟨_,h,λJ a hs=> ?_⟩;obtain⟨h1,h2,h3⟩:=DY (e1▸aB hx hs);refine⟨_,hrun J a _ hs h3,?_⟩;rw[Addr.add_lit];exact⟨_,by simp only[au];exact⟨h1,lS p s h2 hs1,rfl⟩,rfl⟩
 ·rename_i O w d f l i p o' e1;refine⟨_,h,λJ a hs=> ?_⟩;obtain⟨cs,h1,h2⟩:=e1▸aB hx hs;simp only[au] at h1;obtain⟨b,of,T,fz,cur,e,h3,h4,h5,h6,h7⟩:=h1;subst e;refine⟨_,hrun J a _ hs h2,?_⟩;rw[Addr.add_lit];exact⟨_,by simp only[au];exact⟨b,of,T,fz,cur,by rw[<- Nat.add_assoc],h3,h4,lS p s h5 hs1,h6,h7⟩,rfl⟩
 ·rename_i i j p o' e1;refine⟨_,h,λJ a hs=> ?_⟩;obtain⟨h1,h2,b,cap,n,h3,h4,h5⟩:=zy (e1▸aB hx hs);refine⟨_,hrun J a _ hs h5,?_⟩;rw[Addr.add_lit];exact⟨_,by simp only[au];exact⟨h1,lS p s h2 hs1,b,cap,n,h3,h4,rfl⟩,rfl⟩
 ·rename_i c p o' e1;refine⟨_,h,λJ a hs=> ?_⟩;obtain⟨cs,h1,h2⟩:=e1▸aB hx hs;simp only[au] at h1;obtain⟨b,T,fz,cur,e,h3,h4,h5⟩:=h1;subst e;refine⟨_,hrun J a _ hs h2,?_⟩;rw[Addr.add_lit];exact⟨_,by simp only[au];exact⟨b,T,fz,cur,rfl,h3,lS p s h4 hs1,h5⟩,rfl⟩
 ·exact h.elim
theorem alP{s:TypeId}{x:Operand}{k:Nat}{p:wK}(ho:o.op= .fieldAddr s x k)(hp:eX P o.op=some p)(h:aV σ K p):∃ sv,K sv/\dX P o σ sv:=by
 rw[ho] at hp;simp only[eX,bind,z06] at hp;obtain⟨x',hx,hp⟩:=bind_some hp;split at hp<;>try (cases hp;done)
 rename_i fs hu;split at hp<;>try (cases hp;done)
 rename_i f hf;split at hp<;>try (cases hp;done)
 rename_i n ag ht;split at hp
 ·cases hp
 ·rename_i hn;simp only[z00] at hp;subst hp;refine J3 hx (s:= .eG k) (off:=f.offset) trivial (λJ a ad hs hv w=> ?_) (by simpa only[aV] using h)
  simp[execOp,ho,hv,Instr.fieldAt,run_underlying hu,hf,Instr.sureAddr,fieldPlace,run_sizeOf ht,hn]
theorem aeE{s:TypeId}{x:Operand}{k:Nat}{p:wK}(ho:o.op= .field s x k)(hp:eX P o.op=some p)(h:aV σ K p):∃ sv,K sv/\dX P o σ sv:=by
 rw[ho] at hp;simp only[eX,bind,z06] at hp;obtain⟨x',hx,hp⟩:=bind_some hp;split at hp<;>try (cases hp;done)
 rename_i fs hu;split at hp<;>try (cases hp;done)
 rename_i f hf;split at hp<;>try (cases hp;done)
 rename_i n ag ht;split at hp
 ·cases hp
 ·rename_i hn;simp only[z00] at hp;subst hp;simp only[aV] at h;split at h
  ·rename_i l e1;obtain⟨⟨h1,h2,h3,h4⟩,hK⟩:=h;refine⟨_,hK,λJ a hs=> ?_⟩;obtain⟨cs,h5,h6⟩:=aoB (e1▸aB hx hs);obtain⟨h7,h8⟩:=bQ.nth l k h5 h1;refine⟨_,λw=> ?_,Tm h7⟩;rw[h2,h3] at*;rw[h4];simp only[execOp,ho,h6,Instr.field,z01,run_underlying hu,Result.andThen_ok,hf,asAgg,z08];rw[pY ht w cs f.offset h8 (λe=>by
    rcases z19 1 n with h|h
    ·exact absurd ⟨e,by omega⟩ hn
    ·rcases z2m h with h|h
     ·exact h
     ·exact absurd ⟨e,by omega⟩ hn)]
   rfl
  ·exact h.elim
theorem alQ{t:TypeId}{x i:Operand}{p:wK}(ho:o.op= .indexAddr t x i)(hp:eX P o.op=some p)(h:aV σ K p):∃ sv,K sv/\dX P o σ sv:=by
 rw[ho] at hp;simp only[eX,bind,z06] at hp;obtain⟨x',hx,hp⟩:=bind_some hp;obtain⟨i',hi,hp⟩:=bind_some hp;split at hp<;>try (cases hp;done)
 ·rename_i n e hu;split at hp<;>try (cases hp;done)
  rename_i sz ag ht;simp only[z00] at hp;subst hp;simp only[aV] at h;split at h
  ·rename_i k j e2;obtain⟨⟨h1,h2⟩,h⟩:=h;refine J3 (s:= .idx j.toNat n) (off:=j.toNat*sz) hx ⟨by omega,trivial⟩ (λJ a ad hs hv w=> ?_) h
   have s2:=iq (e2▸aB hi hs);simp[execOp,ho,hv,s2,Instr.indexAt,asIntOf,run_underlying hu,Instr.sureAddr,h1,h2,run_sizeOf ht]
  ·exact h.elim
 ·rename_i e hu;split at hp<;>try (cases hp;done)
  rename_i sz ag ht;simp only[z00] at hp;subst hp;simp only[aV] at h;split at h
  ·rename_i k j e2;have hrun:∀ (J:Env) (a:Act) (hs:aH J σ a) (ad:Addr) (n c:Nat),a.eval x= .slice (some ad) n c->0<=j->j<n->∀ w,(execOp a.eval o).run P w= .ok (.value (.pointer (some (ad.add (j.toNat*sz))))) w:=by intro J a hs ad n c hv h1 h2 w;have s2:=iq (e2▸aB hi hs);simp[execOp,ho,hv,s2,Instr.indexAt,asIntOf,run_underlying hu,h1,h2,run_sizeOf ht]
   split at h
   ·rename_i O w' d f l e1;obtain⟨⟨h1,h2⟩,rfl,hK⟩:=h;refine⟨_,hK,λJ a hs=> ?_⟩;obtain⟨cs,h3,h4⟩:=e1▸aB hx hs;simp only[au] at h3;obtain⟨ao,cap,e,h5,h6,h7,h8⟩:=h3;subst e;obtain⟨b,off,T,fz,cur,rfl,g2,g3,g4⟩:=h8 j.toNat (by omega)
    refine⟨_,hrun J a hs _ _ _ h4 h1 h2,?_⟩;rw[Addr.add_lit];exact⟨_,by simp only[au];exact⟨b,off,T,fz,cur,rfl,by omega,g2,trivial,g3,g4⟩,rfl⟩
   ·rename_i v n e1;obtain⟨⟨h1,h2⟩,hK⟩:=h;refine⟨_,hK,λJ a hs=> ?_⟩;obtain⟨h3,h4,h5⟩:=xE (e1▸aB hx hs);rcases h4 with⟨_,h4⟩|⟨b,cap,h4,_⟩
    ·omega
    ·refine⟨_,hrun J a hs _ _ _ (h5.trans h4) h1 h2,?_⟩;rw[Addr.add_lit];exact⟨_,by simp only[au];exact⟨h3,trivial,b,cap,n,h4,by omega,rfl⟩,by simp[boxed,SV.isAgg]⟩
   ·exact h.elim
  ·exact h.elim
theorem alR{t:TypeId}{x i:Operand}{p:wK}(ho:o.op= .index t x i)(hp:eX P o.op=some p)(h:aV σ K p):∃ sv,K sv/\dX P o σ sv:=by
 rw[ho] at hp;simp only[eX,bind,z06] at hp;obtain⟨x',hx,hp⟩:=bind_some hp;obtain⟨i',hi,hp⟩:=bind_some hp;split at hp<;>try (cases hp;done)
 ·rename_i n e hu;split at hp<;>try (cases hp;done)
  rename_i sz ag ht;split at hp<;>try (cases hp;done)
  rename_i hn;simp only[z00] at hp;subst hp;simp only[aV] at h;split at h
  ·rename_i k j e2;split at h
   ·rename_i n' w' f e1;obtain⟨⟨h1,h2⟩,⟨rfl,rfl,h3⟩,hK⟩:=h;refine⟨_,hK,λJ a hs=> ?_⟩;have s2:=iq (e2▸aB hi hs);obtain⟨cs,h5,h6⟩:=aoC (e1▸aB hx hs);simp only[au] at h5;obtain⟨h7,h8⟩:=h5;have hj:j.toNat<n':=by omega
    have h9:=h8 j.toNat hj;have hl:=bG (w:=w') hj;refine⟨_,λw=> ?_,Tm h9⟩;rw[h3];simp only[execOp,ho,h6,s2,Instr.index,asIntOf,z01,z08,run_underlying hu,Result.andThen_ok,h1,h2,and_self,if_true,run_sizeOf ht];rw[pY ht w cs _ (by omega) (λe=>by
     rcases z19 1 w' with h|h
     ·exact absurd ⟨e,by omega⟩ hn
     ·rcases z2m h with h|h
      ·exact h
      ·exact absurd ⟨e,by omega⟩ hn)]
    rfl
   ·exact h.elim
  ·exact h.elim
 ·rename_i hu;simp only[z00] at hp;subst hp;simp only[aV] at h;split at h
  ·rename_i k j e2;split at h
   ·rename_i s e1;obtain⟨⟨h1,h2⟩,hK⟩:=h;refine⟨_,hK,λJ a hs=>⟨_,λw=> ?_,BN⟩⟩;have s2:=iq (e2▸aB hi hs);have s1:=uq (e1▸aB hx hs);have hj:j.toNat<s.length:=by omega
    have hg:(⟨s.toArray⟩:ByteArray)[j.toNat]? =some (s.getD j.toNat 0):=by
     have hsz:j.toNat< (⟨s.toArray⟩:ByteArray).size:=by simpa[z18] using hj
     rw[getElem?_pos (⟨s.toArray⟩:ByteArray) j.toNat hsz];simp[ByteArray.getElem_eq_getElem_data,z0c,hj]
    simp[execOp,ho,s1,s2,Instr.index,asIntOf,run_underlying hu,h1,hg]
   ·exact h.elim
  ·exact h.elim
theorem aeF{x:Operand}{k:Nat}{p:wK}(ho:o.op= .extract x k)(hp:eX P o.op=some p)(h:aV σ K p):∃ sv,K sv/\dX P o σ sv:=by
 rw[ho] at hp;simp only[eX,z05] at hp;obtain⟨x',hx,rfl⟩:=hp;simp only[aV] at h;split at h
 ·rename_i l e1;obtain⟨h1,hK⟩:=h;refine⟨_,hK,λJ a hs=> ?_⟩;obtain⟨vs,h2,h3⟩:=Z8 (e1▸aB hx hs);obtain⟨v,h4,h5⟩:=bg.nth l k h2 h1;exact⟨v,λw=>by simp[execOp,ho,h3,Instr.extract,h4],h5⟩
 ·exact h.elim
theorem ig{J:Env}{sv:SV}{v:Value}(h:bM J sv v)(hv:sv.isVal=true):∃ cs,au sv J cs/\v=boxed sv.isAgg cs:=by
 cases sv<;>first
  |exact h
  |cases hv
theorem wC{J:Env}{a:Act}(hs:aH J σ a):∀ (xs:List Operand) (ys:List aS),xs.mapM aQ=some ys->
  (ys.map (·.ev σ)).all SV.isVal=true->bg (ys.map (·.ev σ)) J (xs.map a.eval)
 |[],ys,h,_=>by simp at h;subst h;rfl
 |x::xs,ys,h,h1=>by simp only[z1r,bind,z06] at h;obtain⟨y,hy,h⟩:=bind_some h;obtain⟨ys',hys,h⟩:=bind_some h;simp only[z00] at h;subst h;simp only[z1f,z2w,z0g] at h1;obtain⟨cs,h3,h4⟩:=ig (aB hy hs) h1.1;simp only[z1f,bg];exact⟨cs,_,by rw[h4],h3,wC hs xs ys' hys h1.2⟩
theorem YN{fn:Fn}{first caps:Array Operand}{p:wK}(ho:o.op= .makeFunc fn first caps)(hp:eX P o.op=some p)(h:aV σ K p):∃ sv,K sv/\dX P o σ sv:=by
 rw[ho] at hp;simp only[eX] at hp;split at hp<;>try (cases hp;done)
 rename_i f hf;obtain rfl:first= #[]:=by simpa using hf
 simp only[z05] at hp;obtain⟨ys,hy,rfl⟩:=hp;simp only[aV] at h;refine⟨_,h.2,λJ a hs=>⟨_,λw=>by simp[execOp,ho,Instr.makeFunc];rfl,?_⟩⟩
 have:=wC hs caps.toList ys hy h.1;refine⟨_,by simp only[au];exact⟨_,this,rfl⟩,?_⟩
 simp only[boxed,SV.isAgg,z0i,if_false,z2q]
 congr 1
 apply z0t;simp
theorem aeG{x:Operand}{p:wK}(ho:o.op= .nilCheck x)(hp:eX P o.op=some p)(h:aV σ K p):∃ sv,K sv/\dX P o σ sv:=by
 rw[ho] at hp;simp only[eX,z05] at hp;obtain⟨x',hx,rfl⟩:=hp;have key:∀ sv,x'.ev σ=sv->K sv->(∀ J v,bM J sv v->(∃ ad,v= .pointer (some ad))\/∃ f c,v= .func (.func f) #[] c)->∃ sv,K sv/\dX P o σ sv:=by intro sv e hK hf;refine⟨sv,hK,λJ a hs=> ?_⟩;have hv:=e▸aB hx hs;refine⟨a.eval x,λw=> ?_,hv⟩;rcases hf J _ hv with⟨ad,e1⟩|⟨f,c,e1⟩<;>simp[execOp,ho,e1]
 simp only[aV] at h;split at h
 ·rename_i i p o' e1;exact key _ e1 h λJ v hv=> .inl ⟨_,(DY hv).2.2⟩
 ·rename_i O w d f l i p o' e1;refine key _ e1 h λJ v hv=> .inl ?_;obtain⟨cs,h1,h2⟩:=hv;simp only[au] at h1;obtain⟨b,of,T,fz,cur,e,_⟩:=h1;subst e;exact⟨_,h2⟩
 ·rename_i i j p o' e1;refine key _ e1 h λJ v hv=> .inl ?_;obtain⟨_,_,b,cap,n,_,_,e⟩:=zy hv;exact⟨_,e⟩
 ·rename_i c p o' e1;refine key _ e1 h λJ v hv=> .inl ?_;obtain⟨cs,h1,h2⟩:=hv;simp only[au] at h1;obtain⟨b,T,fz,cur,e,_⟩:=h1;subst e;exact⟨_,h2⟩
 ·rename_i f c e1;refine key _ e1 h λJ v hv=> .inr ?_;obtain⟨vs,_,e⟩:=IV hv;exact⟨_,_,e⟩
 ·exact h.elim
theorem YO{t:TypeId}{x:Operand}{p:wK}(ho:o.op= .makeInterface t x)(hp:eX P o.op=some p)(h:aV σ K p):∃ sv,K sv/\dX P o σ sv:=by
 rw[ho] at hp;simp only[eX,bind,z06] at hp;obtain⟨x',hx,hp⟩:=bind_some hp;split at hp<;>try (cases hp;done)
 rename_i h1 h2;simp only[z00] at hp;subst hp;simp only[aV] at h;refine⟨_,h.2,λJ a hs=>⟨.iface t (a.eval x),λw=> ?_,?_⟩⟩
 ·cases hu:P.underlying t with
  |none=>exact absurd hu h2
  |some d=>
   simp only[execOp,ho,Instr.makeInterface,z01,run_underlying hu,Result.andThen_ok];cases d<;>first
    |rfl
    |exact absurd hu (h1 _)
 ·obtain⟨cs,h3,h4⟩:=ig (aB hx hs) h.1;exact⟨_,by simp only[au];exact⟨cs,h3,rfl⟩,by rw[h4];rfl⟩
theorem aeH{t xt:TypeId}{x:Operand}{ok:Bool}{p:wK}(ho:o.op= .typeAssert x xt t ok)(hp:eX P o.op=some p)(h:aV σ K p):∃ sv,K sv/\dX P o σ sv:=by
 rw[ho] at hp;simp only[eX,bind,z06] at hp;obtain⟨x',hx,hq⟩:=bind_some hp;clear hp;split at hq<;>try (cases hq;done)
 rename_i h1 h2;cases ok with
 |false=>cases hq
 |true=>
 simp only[if_true] at hq;split at hq<;>try (cases hq;done)
 rename_i z hz;cases hq;obtain⟨za,i,cs,hi,hi2,alS⟩:=aoG hz;have hrun:∀ (a:Act) (t':TypeId) (v:Value) w,a.eval x= .iface t' v->(execOp a.eval o).run P w= .ok (.value (if t'=t then .tuple #[v, .bool true] else .tuple #[.agg cs, .bool false])) w:=by
  intro a t' v w hv;cases hu:P.underlying t with
  |none=>exact absurd hu h2
  |some d=>
   simp only[execOp,ho,Instr.typeAssert,hv,z01,run_underlying hu,Result.andThen_ok];cases d<;>first
    |exact absurd hu (h1 _)
    |(by_cases e:t'=t
      ·simp[e]
      ·simp[e,zeroValue,JZ hi,hi2])
 simp only[aV] at h;split at h
 ·rename_i t' y e1;split at h
  ·rename_i heq;refine⟨_,h,λJ a hs=> ?_⟩;obtain⟨xs,k1,s1⟩:=jH (e1▸aB hx hs);refine⟨_,λw=>by rw[hrun a _ _ w s1,if_pos heq],[boxed y.isAgg xs, .bool true],?_,rfl⟩
   simp only[bg];exact⟨xs,_,rfl,k1,[.bool true],[],rfl,by simp only[au],rfl⟩
  ·rename_i hne;refine⟨_,h,λJ a hs=> ?_⟩;obtain⟨xs,k1,s1⟩:=jH (e1▸aB hx hs);refine⟨_,λw=>by rw[hrun a _ _ w s1,if_neg hne],[.agg cs, .bool false],?_,rfl⟩
   simp only[bg];exact⟨cs.toList,_,by rw[za];rfl,alS _,[.bool false],[],rfl,by simp only[au],rfl⟩
 ·exact h.elim
theorem alT{J:Env}{sv:SV}{v:Value}{n:Nat}(h:yj sv=some n)(hv:bM J sv v):∃ a c,v= .slice a n c:=by
 cases sv<;>simp only[yj] at h<;>cases h
 ·obtain⟨cs,h1,h2⟩:=hv;simp only[au] at h1;obtain⟨ao,cap,e,_⟩:=h1;subst e;exact⟨_,_,h2⟩
 ·obtain⟨cs,h1,h2⟩:=hv;simp only[au] at h1;obtain⟨ao,e,_⟩:=h1;subst e;exact⟨_,_,h2⟩
 ·obtain⟨_,h1,h2⟩:=xE hv;rcases h1 with⟨e,e2⟩|⟨b,cap,e,_⟩
  ·subst e2;exact⟨_,_,h2.trans e⟩
  ·exact⟨_,_,h2.trans e⟩
 ·exact⟨_,_,vV hv⟩
theorem aqD{c:Call}{p:wK}(ho:o.op= .call c)(hp:eX P o.op=some p)(h:aV σ K p):∃ sv,K sv/\dX P o σ sv:=by
 rw[ho] at hp;simp only[eX,asw] at hp;cases c with
 |mk callee args argTypes=>
 simp only at hp;split at hp
 ·rename_i x t ea et;obtain rfl:args= #[x]:=by apply z0t;simpa using ea
  obtain rfl:argTypes= #[t]:=by apply z0t;simpa using et
  simp only[bind,z06] at hp;obtain⟨x',hx,hp⟩:=bind_some hp;have hrun:∀ (a:Act) w,(execOp a.eval o).run P w=((Builtin.len_ #[t] o.type #[a.eval x]).run P w).andThen λv w=> .ok (.value v) w:=by intro a w;simp[execOp,ho,resolve,invoke,builtin]
  split at hp<;>try (cases hp;done)
  ·rename_i hu;simp only[z00] at hp;subst hp;simp only[aV] at h;split at h
   ·rename_i s e1;refine⟨_,h,λJ a hs=>⟨_,λw=> ?_,BN⟩⟩;have s1:=uq (e1▸aB hx hs);rw[hrun];simp only[Builtin.len_,z01,run_underlying hu,Result.andThen_ok,s1,List.getElem?_toArray,z1y,z08,goInt];rfl
   ·exact h.elim
  ·rename_i e hu;simp only[z00] at hp;subst hp;simp only[aV] at h;split at h
   ·rename_i n hn;refine⟨_,h,λJ a hs=>⟨_,λw=> ?_,BN⟩⟩;obtain⟨ad,c,e1⟩:=alT hn (aB hx hs);rw[hrun];simp[Builtin.len_,run_underlying hu,e1,goInt]
   ·exact h.elim
 ·rename_i x y t u ea et;obtain rfl:args= #[x,y]:=by apply z0t;simpa using ea
  split at hp<;>try (cases hp;done)
  simp only[bind,z06] at hp;obtain⟨x',hx,hp⟩:=bind_some hp;obtain⟨y',hy,hp⟩:=bind_some hp;simp only[z00] at hp;subst hp;simp only[aV] at h;split at h
  ·rename_i k a' k' b' e1 e2;obtain⟨rfl,hK⟩:=h;refine⟨_,hK,λJ a hs=>⟨_,λw=> ?_,BN⟩⟩;have s1:=iq (e1▸aB hx hs);have s2:=iq (e2▸aB hy hs);simp[execOp,ho,resolve,invoke,builtin,Builtin.max_,s1,s2,Builtin.max2]
  ·exact h.elim
 ·rename_i x y t u ea et;obtain rfl:args= #[x,y]:=by apply z0t;simpa using ea
  split at hp<;>try (cases hp;done)
  simp only[bind,z06] at hp;obtain⟨x',hx,hp⟩:=bind_some hp;obtain⟨y',hy,hp⟩:=bind_some hp;simp only[z00] at hp;subst hp;simp only[aV] at h;split at h
  ·rename_i k a' k' b' e1 e2;obtain⟨rfl,hK⟩:=h;refine⟨_,hK,λJ a hs=>⟨_,λw=> ?_,BN⟩⟩;have s1:=iq (e1▸aB hx hs);have s2:=iq (e2▸aB hy hs);simp[execOp,ho,resolve,invoke,builtin,Builtin.min_,s1,s2,Builtin.min2]
  ·exact h.elim
 ·cases hp
end Go.Sx
namespace Go.Sx
open Go
variable {P:Program} {σ:List SV} {K:SV->Prop} {o:Oper}
theorem foldl_set(off:Nat):∀ (xs:List Value) (k:Nat) (cs:Array Value),off+k+xs.length<=cs.size->
  (xs.zipIdx k).foldl (λ(cs:Array Value) x=>cs.setIfInBounds (off+x.2) x.1) cs=(splice cs.toList (off+k) xs).toArray
 |[],k,cs,h=>by simp[splice]
 |x::xs,k,cs,h=>by
  simp only[z1k] at h;simp only[List.zipIdx_cons,List.foldl_cons];rw[foldl_set off xs (k+1) _ (by simp;omega)]
  congr 1
  apply z0k;intro j;have hlen:(cs.setIfInBounds (off+k) x).toList.length=cs.toList.length:=by simp
  have h2:cs.toList.length=cs.size:=by simp
  rw[jV (by rw[hlen,h2];omega),jV (by simp;omega)]
  simp only[Array.toList_setIfInBounds,z0e,z1k,h2];by_cases hj:off+(k+1)<=j/\j<off+(k+1)+xs.length
  ·rw[if_pos hj,if_pos (by omega)]
   have:j - (off+k)=(j - (off+(k+1)))+1:=by omega
   rw[this,List.getElem?_cons_succ]
  ·rw[if_neg hj];by_cases hj2:off+k=j
   ·subst hj2;rw[if_pos rfl,if_pos (by omega),if_pos (by omega),z1j,z1y]
   ·rw[if_neg hj2,if_neg (by omega)]
theorem Ec(off:Nat)(xs:List Value)(cs:Array Value)(h:off+xs.length<=cs.size):
  xs.toArray.zipIdx.foldl (λ(cs:Array Value) (x:Value×Nat)=>cs.setIfInBounds (off+x.2) x.1) cs=(splice cs.toList off xs).toArray:=by
 have:=foldl_set off xs 0 cs (by omega)
 rw[<- Array.foldl_toList,Array.toList_zipIdx];simpa using this
theorem J4(place:Nat->Option (Nat×Nat))(f:Nat->Option (List Step×Nat×Nat))(hf:∀ k p o n,f k=some (p,o,n)->place k=some (o,n)){J:Env}{a:Act}(hs:aH J σ a):
  ∀ (parts:List (Nat×Operand)) (ys:List (List Step×Nat×Nat×aS)) (z:SV) (cs:List Value),rU f parts=some ys->au z J cs->∀ {K:SV->Prop},iL σ z ys K->
   ∃ z' cs',K z'/\au z' J cs'/\Instr.fill place cs.toArray (parts.map λx=>(x.1,a.eval x.2))=some cs'.toArray
 |[],ys,z,cs,hc,hz,K,h=>by
  simp only[rU,z00] at hc;subst hc;exact⟨z,cs,h,hz,rfl⟩
 |(k,x)::r,ys,z,cs,hc,hz,K,h=>by
  simp only[rU] at hc;split at hc<;>try (cases hc;done)
  rename_i p o n y ys' h1 h2 h3;simp only[z00] at hc;subst hc;simp only[iL] at h;obtain⟨⟨hp,hat,hv,hn,hg⟩,h⟩:=h;obtain⟨xs,hx1,hx2⟩:=ig (aB h2 hs) hv;have hl:=au.length _ hx1;obtain⟨_,g1,g2⟩:=au.get p z 0 o hz hp hat;simp only[z0f] at g1 g2;have hset:=au.set p z 0 o hz hp hat hx1 (by omega)
  rw[z0f] at hset;obtain⟨z',cs',i1,i2,i3⟩:=J4 place f hf hs r ys' _ _ h3 hset h;refine⟨z',cs',i1,i2,?_⟩;have hcells:(a.eval x).cells=xs.toArray:=by rw[hx2];exact mW hx1
  simp only[z1f,Instr.fill,hf k p o n h1,hcells];have hsz:xs.toArray.size=n:=by simp;omega
  rw[if_neg (by simp[hsz];omega)]
  have:=Ec o xs cs.toArray (by simp;omega)
  simp only at this;rw[this];exact i3
def YP(σ:List SV):SV->List (List Step×Nat×Nat×aS)->SV
 |z,[]=>z
 |z,(p,_,_,x)::r=>YP σ (tX z p (x.ev σ)) r
theorem xK:∀ (ys:List (List Step×Nat×Nat×aS)) (z:SV) {K:SV->Prop},iL σ z ys K->K (YP σ z ys)/\iL σ z ys (λz'=>z'=YP σ z ys)
 |[],z,K,h=>⟨h,rfl⟩
 |(p,o,n,x)::r,z,K,h=>by simp only[iL] at h ⊢;obtain⟨i1,i2⟩:=xK r _ h.2;exact⟨i1,h.1,i2⟩
theorem UU{fs:Array Field}(hall:∀ f∈fs.toList,(P.info? f.type).isSome=true):
  fs.toList.mapM (λf=>(P.info? f.type).map λi=>(f.offset,i.size))=some (fs.toList.map λf=>(f.offset,((P.info? f.type).map (·.size)).getD 0)):=by
 generalize fs.toList=l at*
 induction l with
 |nil=>rfl
 |cons x r ih=>
  have hx:=hall x (by simp)
  have ih:=ih (λf hf=>hall f (by simp[hf]))
  cases hi:P.info? x.type with
  |none=>rw[hi] at hx;cases hx
  |some i=>simp[z1r,hi,ih]
theorem aeI{t:TypeId}{parts:Array (Nat×Operand)}{p:wK}(ho:o.op= .build t parts)(hp:eX P o.op=some p)(h:aV σ K p):∃ sv,K sv/\dX P o σ sv:=by
 rw[ho] at hp;simp only[eX,aac] at hp;have hmap:∀ a:Act,(parts.map λ(i,x)=>(i,a.eval x)).toList=parts.toList.map λx=>(x.1,a.eval x.2):=by intro a;simp
 have hrun:∀ (a:Act) w,(execOp a.eval o).run P w=((Instr.build t (parts.map λ(i,x)=>(i,a.eval x))).run P w).andThen λv w=> .ok (.value v) w:=by intro a w;simp only[execOp,ho,z01];rfl
 split at hp<;>try (cases hp;done)
 ·rename_i z fs hz hu;split at hp<;>try (cases hp;done)
  rename_i hall;simp only[z05] at hp;obtain⟨ys,hys,rfl⟩:=hp;simp only[aV] at h;obtain⟨h1,h2⟩:=xK _ _ h;obtain⟨i,v,hi,hv,hc⟩:=xG hz;refine⟨_,h1.2,λJ a hs=> ?_⟩;have aqE:=UU (P:=P) (fs:=fs) (λf hf=>List.all_eq_true.1 hall f hf);obtain⟨_,cs',rfl,g1,g2⟩:=J4 ((fs.toList.map λf=>(f.offset,((P.info? f.type).map (·.size)).getD 0)).toArray[·]?) _ (λk p o n hk=>by
   unfold aiy at hk;split at hk<;>try (cases hk;done)
   rename_i f hf;split at hk<;>try (cases hk;done)
   rename_i i2 hi2;simp only[z00,z15] at hk;obtain⟨_,rfl,rfl⟩:=hk;have hf':fs.toList[k]? =some f:=by simpa using hf
   simp[hf',hi2]) hs parts.toList ys z _ hys (hc J) h2
  have hb:P.built t (parts.map λ(i,x)=>(i,a.eval x)).toList=some cs'.toArray:=by unfold z2p;rw[hi,hu];simp only[hv,aqE,hmap];simpa using g2
  refine⟨.agg cs'.toArray,λw=> ?_,?_⟩
  ·rw[hrun,run_build w t _ _ hb];rfl
  ·have hg:=iG g1;rw[h1.1] at hg;exact hg
 ·rename_i z n e hz hu;split at hp<;>try (cases hp;done)
  rename_i i' hi';simp only[z05] at hp;obtain⟨ys,hys,rfl⟩:=hp;simp only[aV] at h;obtain⟨h1,h2⟩:=xK _ _ h;obtain⟨i,v,hi,hv,hc⟩:=xG hz;refine⟨_,h1.2,λJ a hs=> ?_⟩;obtain⟨_,cs',rfl,g1,g2⟩:=J4 (λk=>some (k*i'.size,i'.size)) _ (λk p o n hk=>by simp only[z00,z15] at hk ⊢;exact⟨hk.2.1,hk.2.2⟩) hs parts.toList ys z _ hys (hc J) h2
  have hb:P.built t (parts.map λ(i,x)=>(i,a.eval x)).toList=some cs'.toArray:=by unfold z2p;rw[hi,hu];simp only[hv,hi',hmap];simpa using g2
  refine⟨.agg cs'.toArray,λw=> ?_,?_⟩
  ·rw[hrun,run_build w t _ _ hb];rfl
  ·have hg:=iG g1;rw[h1.1] at hg;exact hg
theorem ng{d:Nat}{x:Option Operand}{x':Option aS}{K:Nat->Prop}(hx:mV x=some x')(h:aV.bound σ d x' K):
  ∃ l,K l/\(x=none->l=d)/\∀ y,x=some y->∀ J a,aH J σ a->∃ k,a.eval y= .int k (l:Int):=by
 cases x with
 |none=>
  simp only[mV,z00] at hx;subst hx;exact⟨d,h,λ_=>rfl,λ_ hy=>by cases hy⟩
 |some y=>
  simp only[mV,z05] at hx;obtain⟨y',hy,rfl⟩:=hx;simp only[aV.bound] at h;split at h
  ·rename_i k j e;refine⟨j.toNat,h.2,(λhh=>by cases hh),λy2 hy2 J a hs=>⟨k,?_⟩⟩
   cases hy2;have:=iq (e▸aB hy hs);rw[this,Int.toNat_of_nonneg h.1]
  ·exact h.elim
theorem tu{sl:Bool}{len cap l h:Nat}{lo hi:Option Value}(hl:(lo=none/\l=0)\/∃ k,lo=some (.int k (l:Int)))(hh:(hi=none/\h=len)\/∃ k,hi=some (.int k (h:Int)))
  (h1:l<=h) (h2:h<=cap) (w:World):(Instr.sliceBounds sl len cap lo hi none).run P w= .ok (l,h,cap) w:=by
 have e1:∀ k c,(Instr.sliceBound (.int k (l:Int)) h c).run P w= .ok l w:=λk c=>by rw[run_sliceBound w k l h c (by omega) (by omega)];simp
 have e2:∀ k c,(Instr.sliceBound (.int k (h:Int)) cap c).run P w= .ok h w:=λk c=>by rw[run_sliceBound w k h cap c (by omega) (by omega)];simp
 rcases hl with⟨rfl,rfl⟩|⟨k,rfl⟩<;>rcases hh with⟨rfl,rfl⟩|⟨k',rfl⟩<;>simp[Instr.sliceBounds,e1,e2]
theorem aeJ{t n:Nat}{e:TypeId}{w:Nat}{ag:Bool}{x:Operand}{x':aS}(ho:o.op= .slice t x none none none)(hx:aQ x=some x')(hu:P.underlying t=some (.array n e))(ht:qm P e=some (w,ag))(h:aV σ K (.asl n w x')):∃ sv,K sv/\dX P o σ sv:=by
 simp only[aV] at h;split at h
 ·rename_i c p off e1;split at h
  ·rename_i n' w' f e2;obtain⟨⟨rfl,rfl,hm,hat⟩,hK⟩:=h;refine⟨_,hK,λJ a hs=> ?_⟩;obtain⟨cs,h3,h4⟩:=e1▸aB hx hs;simp only[au] at h3;obtain⟨b,T,fz,cur,rfl,g1,g2,g3⟩:=h3;have hv:a.eval x= .pointer (some ⟨b,off,none⟩):=h4;obtain⟨k1,k2,k3⟩:=au.get p c 0 off g3 g2 hat;rw[e2,z0f] at k2 k3;simp only[au] at k2;obtain⟨q1,q2⟩:=k2;have hwd:wd (.arr n' w' f)=n'*w':=by simp only[wd]
   rw[hwd] at q1 q2 k3;have hb:=λw=>tu (P:=P) (sl:=false) (len:=n') (cap:=n') (l:=0) (h:=n') (lo:=none) (hi:=none) (.inl ⟨rfl,rfl⟩) (.inl ⟨rfl,rfl⟩) (z0v _) (z0a _) w;have hadd:(if n'=0 then(⟨b,off,none⟩:Addr) else(⟨b,off,none⟩:Addr).add (0*w'))=⟨b,off,none⟩:=by
    split
    ·rfl
    ·simp[Addr.add_lit]
   refine⟨.slice (some ⟨b,off,none⟩) n' n',λw=> ?_,?_⟩
   ·simp only[execOp,ho,z01,Instr.sliceAt,run_underlying hu,Result.andThen_ok,hv,Instr.sureAddr,z08,z0u,hb,run_sizeOf ht,hadd,z0f]
   ·refine⟨[.slice (some ⟨b,off,none⟩) n' n'],?_,rfl⟩;simp only[au,Pv];refine⟨some ⟨b,off,none⟩,n',rfl,z0a _,(by unfold maxLen;omega),(by simp),λi hi=>⟨b,off,T,fz,cur,rfl,g1,?_,?_⟩⟩
    ·have:i*w'+w'<=n'*w':=by rw[<- z1i];exact z09 _ hi
     have hl:cur.toList.length=cur.size:=z2f;omega
    ·have hg:(rng n').getD i 0=i:=aix hi;have:=q2 i hi;rw[hg];have e3:sub (sub cur.toList off (n'*w')) (i*w') w'=sub cur.toList (off+i*w') w':=by
      have:i*w'+w'<=n'*w':=by rw[<- z1i];exact z09 _ hi
      unfold sub;rw[z0p,z1s,z0y]
      congr 1
      omega
     rw[e3] at this;exact this
  ·exact h.elim
 ·rename_i w0 d f l i0 p off e1;split at h
  ·rename_i n' w' g e2;obtain⟨⟨rfl,rfl,hm,rfl,rfl⟩,hK⟩:=h;refine⟨_,hK,λJ a hs=> ?_⟩;obtain⟨cs,h3,h4⟩:=e1▸aB hx hs;simp only[au] at h3;obtain⟨b,off,T,fz,cur,rfl,_,g1,_,g2,g3⟩:=h3;rw[e2] at g3;simp only[au] at g3;obtain⟨q1,q2⟩:=g3;obtain⟨A,hA⟩:∃ A,A=off+i0*w0:=⟨_,rfl⟩;rw[<- hA] at q1 q2 g2;have hl:cur.toList.length=cur.size:=z2f;have hw0:w0=n'*w':=by rw[<- q1];unfold sub;rw[List.length_take,List.length_drop];omega
   have hv:a.eval x= .pointer (some ⟨b,A,none⟩):=by rw[h4,hA,z2c];rfl
   have hb:=λw=>tu (P:=P) (sl:=false) (len:=n') (cap:=n') (l:=0) (h:=n') (lo:=none) (hi:=none) (.inl ⟨rfl,rfl⟩) (.inl ⟨rfl,rfl⟩) (z0v _) (z0a _) w;have hadd:(if n'=0 then(⟨b,A,none⟩:Addr) else(⟨b,A,none⟩:Addr).add (0*w'))=⟨b,A,none⟩:=by
    split
    ·rfl
    ·simp[Addr.add_lit]
   refine⟨.slice (some ⟨b,A,none⟩) n' n',λw=> ?_,?_⟩
   ·simp only[execOp,ho,z01,Instr.sliceAt,run_underlying hu,Result.andThen_ok,hv,Instr.sureAddr,z08,z0u,hb,run_sizeOf ht,hadd,z0f]
   ·refine⟨[.slice (some ⟨b,A,none⟩) n' n'],?_,rfl⟩;simp only[au,Pv];refine⟨some ⟨b,A,none⟩,n',rfl,z0a _,(by unfold maxLen;omega),(by simp),λi hi=>⟨b,A,T,fz,cur,rfl,g1,?_,?_⟩⟩
    ·have:i*w'+w'<=n'*w':=by rw[<- z1i];exact z09 _ hi
     omega
    ·have hg:(rng n').getD i 0=i:=aix hi;have:=q2 i hi;rw[hg];have e3:sub (sub cur.toList A w0) (i*w') w'=sub cur.toList (A+i*w') w':=by
      have:i*w'+w'<=n'*w':=by rw[<- z1i];exact z09 _ hi
      unfold sub;rw[z0p,z1s,z0y]
      congr 1
      omega
     rw[e3] at this;exact this
  ·exact h.elim
 ·exact h.elim
theorem UW{t:TypeId}{x:Operand}{lo hi mx:Option Operand}{p:wK}(ho:o.op= .slice t x lo hi mx)(hp:eX P o.op=some p)(h:aV σ K p):∃ sv,K sv/\dX P o σ sv:=by
 rw[ho] at hp;simp only[eX,bind,z06] at hp;obtain⟨x',hx,hp⟩:=bind_some hp;obtain⟨lo',hlo,hp⟩:=bind_some hp;obtain⟨hi',hhi,hp⟩:=bind_some hp;obtain⟨mx',hmx,hp⟩:=bind_some hp;have hrun:∀ (a:Act) w,(∀ n e,P.underlying t≠some (.array n e))->(execOp a.eval o).run P w=((Instr.slice t (a.eval x) (lo.map a.eval) (hi.map a.eval) (mx.map a.eval)).run P w).andThen λv w=> .ok (.value v) w:=by
  intro a w hna;simp only[execOp,ho,z01,Instr.sliceAt];cases hu:P.underlying t with
  |none=>simp[Instr.slice,underlying,hu]
  |some d=>
   simp only[run_underlying hu,Result.andThen_ok];cases d<;>first
    |rfl
    |exact absurd hu (hna _ _)
 split at hp<;>try (cases hp;done)
 ·rename_i hu;split at hp<;>try (cases hp;done)
  simp only[z00] at hp;subst hp;have aw1:mx=none:=by cases mx<;>simp[mV] at hmx<;>rfl
  subst aw1;simp only[aV] at h;split at h
  ·rename_i s e1;obtain⟨l,h,hl1,hl2⟩:=ng hlo h;obtain⟨hh,⟨⟨h1,h2⟩,hK⟩,hh1,hh2⟩:=ng hhi h;refine⟨_,hK,λJ a hs=>⟨_,λw=> ?_,aiv⟩⟩;have s1:=uq (e1▸aB hx hs);have hb:=tu (P:=P) (sl:=false) (len:=s.length) (cap:=s.length) (l:=l) (h:=hh) (lo:=lo.map a.eval) (hi:=hi.map a.eval)
    (by cases lo with
     |none=>exact .inl ⟨rfl,hl1 rfl⟩
     |some y=>obtain⟨k,hk⟩:=hl2 y rfl J a hs;exact .inr ⟨k,by simp[hk]⟩)
    (by cases hi with
     |none=>exact .inl ⟨rfl,hh1 rfl⟩
     |some y=>obtain⟨k,hk⟩:=hh2 y rfl J a hs;exact .inr ⟨k,by simp[hk]⟩) h1 h2 w
   rw[hrun a w (λn e he=>by rw[hu] at he;cases he)]
   have hsz:(⟨s.toArray⟩:ByteArray).size=s.length:=by simp[z18]
   simp only[Instr.slice,z01,run_underlying hu,Result.andThen_ok,s1,hsz,z0u,Option.isSome_none,z0i,if_false,hb,z08]
   congr 2
   congr 1
   apply z2l;apply z0t;simp[ByteArray.data_extract,z1t,z0p]
  ·exact h.elim
 ·rename_i e hu;split at hp<;>try (cases hp;done)
  rename_i n ag ht;simp only[z00] at hp;subst hp;cases mx with
  |some ym=>
   simp only[mV,z05] at hmx;obtain⟨y',hy',rfl⟩:=hmx;simp only[aV] at h;split at h
   ·rename_i e0 _;cases e0
   ·rename_i c O w' d f l0 e0 e1;cases e0;obtain⟨⟨rfl,hsome⟩,h⟩:=h;obtain⟨l,h,hl1,hl2⟩:=ng hlo h;obtain⟨hh,h,hh1,hh2⟩:=ng hhi h;obtain⟨mm,⟨⟨h1,h2,h2'⟩,hK⟩,_,hm2⟩:=ng (x:=some ym) (x':=some y') (by simp[mV,hy']) h
    subst h2;cases hi with
    |none=>simp only[mV,z00] at hhi;subst hhi;cases hsome
    |some yh=>
    refine⟨_,hK,λJ a hs=> ?_⟩;obtain⟨cs,h3,h4⟩:=e1▸aB hx hs;simp only[au] at h3;obtain⟨ao,cap,rfl,h5,h6,h7,h8⟩:=h3;have hv:a.eval x= .slice ao l0.length cap:=h4;obtain⟨km,hkm⟩:=hm2 ym rfl J a hs;obtain⟨kh,hkh⟩:=hh2 yh rfl J a hs;have hb:∀ w,(Instr.sliceBounds true l0.length cap (lo.map a.eval) (some (.int kh (hh:Int))) (some (.int km (hh:Int)))).run P w= .ok (l,hh,hh) w:=by
     intro w;have e1:∀ c,(Instr.sliceBound (.int km (hh:Int)) cap c).run P w= .ok hh w:=λc=>by rw[run_sliceBound w km hh cap c (by omega) (by omega)];simp
     have e2:∀ c,(Instr.sliceBound (.int kh (hh:Int)) hh c).run P w= .ok hh w:=λc=>by rw[run_sliceBound w kh hh hh c (by omega) (by omega)];simp
     cases lo with
     |none=>
      have:=hl1 rfl;subst this;simp[Instr.sliceBounds,e1,e2]
     |some yl=>
      obtain⟨k,hk⟩:=hl2 yl rfl J a hs;have e3:∀ c,(Instr.sliceBound (.int k (l:Int)) hh c).run P w= .ok l w:=λc=>by rw[run_sliceBound w k l hh c (by omega) (by omega)];simp
      simp[Instr.sliceBounds,e1,e2,e3,hk]
    refine⟨.slice (if hh=l then ao else ao.map (·.add (l*w'))) (hh - l) (hh - l),λw=> ?_,?_⟩
    ·rw[hrun a w (λn e he=>by rw[hu] at he;cases he)]
     simp only[Instr.slice,z01,run_underlying hu,Result.andThen_ok,hv,Option.map_some,hkm,hkh,hb,run_sizeOf ht,z08]
    ·have hlen:((l0.take hh).drop l).length=hh - l:=by simp;omega
     refine⟨[.slice (if hh=l then ao else ao.map (·.add (l*w'))) (hh - l) (hh - l)],?_,rfl⟩
     simp only[au];refine⟨if hh=l then ao else ao.map (·.add (l*w')),by rw[hlen],by rw[hlen];omega,λhn=> ?_,λi hi'=> ?_⟩
     ·rw[hlen];split at hn
      ·omega
      ·rw[z1u] at hn;have:=h7 hn;omega
     ·rw[hlen] at hi';obtain⟨b,off,T,fz,cur,rfl,g2,g3,g4⟩:=h8 (l+i) (by omega)
      refine⟨b,off+l*w',T,fz,cur,?_,g2,?_,?_⟩
      ·rw[if_neg (by omega)];simp[Addr.add_lit]
      ·rw[show off+l*w'+i*w'=off+(l+i)*w' by rw[z0w];omega];exact g3
      ·rw[show off+l*w'+i*w'=off+(l+i)*w' by rw[z0w];omega]
       have:((l0.take hh).drop l).getD i d=l0.getD (l+i) d:=by simp only[z0l,z0z];rw[z1w (by omega)]
       rw[this];exact g4
   ·rename_i e0 _;cases e0
   ·exact h.elim
  |none=>
  have aw1:mx'=none:=by simp only[mV,z00] at hmx;exact hmx.symm
  subst aw1;simp only[aV] at h;split at h
  ·rename_i O w' d f l0 _ e1;obtain⟨rfl,h⟩:=h;obtain⟨l,h,hl1,hl2⟩:=ng hlo h;obtain⟨hh,⟨⟨h1,h2⟩,hK⟩,hh1,hh2⟩:=ng hhi h;refine⟨_,hK,λJ a hs=> ?_⟩;obtain⟨cs,h3,h4⟩:=e1▸aB hx hs;simp only[au] at h3;obtain⟨ao,cap,rfl,h5,h6,h7,h8⟩:=h3;have hv:a.eval x= .slice ao l0.length cap:=h4;have hb:=λw=>tu (P:=P) (sl:=true) (len:=l0.length) (cap:=cap) (l:=l) (h:=hh) (lo:=lo.map a.eval) (hi:=hi.map a.eval)
    (by cases lo with
     |none=>exact .inl ⟨rfl,hl1 rfl⟩
     |some y=>obtain⟨k,hk⟩:=hl2 y rfl J a hs;exact .inr ⟨k,by simp[hk]⟩)
    (by cases hi with
     |none=>exact .inl ⟨rfl,hh1 rfl⟩
     |some y=>obtain⟨k,hk⟩:=hh2 y rfl J a hs;exact .inr ⟨k,by simp[hk]⟩) h1 (z0j h2 h5) w
   refine⟨.slice (if cap=l then ao else ao.map (·.add (l*w'))) (hh - l) (cap - l),λw=> ?_,?_⟩
   ·rw[hrun a w (λn e he=>by rw[hu] at he;cases he)]
    simp only[Instr.slice,z01,run_underlying hu,Result.andThen_ok,hv,z0u,hb,run_sizeOf ht,z08]
   ·refine⟨[.slice (if cap=l then ao else ao.map (·.add (l*w'))) (hh - l) (cap - l)],?_,rfl⟩
    simp only[au];have hlen:((l0.take hh).drop l).length=hh - l:=by simp;omega
    refine⟨if cap=l then ao else ao.map (·.add (l*w')),cap - l,by rw[hlen],by rw[hlen];omega,by omega,λhn=> ?_,λi hi'=> ?_⟩
    ·split at hn
     ·omega
     ·rw[z1u] at hn;have:=h7 hn;omega
    ·rw[hlen] at hi';obtain⟨b,off,T,fz,cur,rfl,g2,g3,g4⟩:=h8 (l+i) (by omega)
     refine⟨b,off+l*w',T,fz,cur,?_,g2,?_,?_⟩
     ·rw[if_neg (by omega)];simp[Addr.add_lit]
     ·rw[show off+l*w'+i*w'=off+(l+i)*w' by rw[z0w];omega];exact g3
     ·rw[show off+l*w'+i*w'=off+(l+i)*w' by rw[z0w];omega]
      have:((l0.take hh).drop l).getD i d=l0.getD (l+i) d:=by simp only[z0l,z0z];rw[z1w (by omega)]
      rw[this];exact g4
  ·rename_i e0 _;cases e0
  ·rename_i i n0 _ e1;obtain⟨l,h,hl1,hl2⟩:=ng hlo h;obtain⟨hh,⟨⟨h1,h2⟩,hK⟩,hh1,hh2⟩:=ng hhi h;subst h1;refine⟨_,hK,λJ a hs=> ?_⟩;obtain⟨hi3,hi4,hi5⟩:=xE (e1▸aB hx hs);obtain⟨ao,cap,hvv,hnc,hao⟩:∃ ao cap,J.vv i= .slice ao n0 cap/\n0<=cap/\ao.map (·.add (0*n))=ao:=by
    rcases hi4 with⟨q1,q2⟩|⟨b,cap,q,q2⟩
    ·exact⟨none,0,by rw[q1,q2],by omega,rfl⟩
    ·exact⟨_,_,q,q2,by simp[Addr.add_lit]⟩
   have hv:a.eval x= .slice ao n0 cap:=by rw[hi5,hvv]
   have hb:=λw=>tu (P:=P) (sl:=true) (len:=n0) (cap:=cap) (l:=0) (h:=hh) (lo:=lo.map a.eval) (hi:=hi.map a.eval)
    (by cases lo with
     |none=>exact .inl ⟨rfl,hl1 rfl⟩
     |some y=>obtain⟨k,hk⟩:=hl2 y rfl J a hs;exact .inr ⟨k,by simp[hk]⟩)
    (by cases hi with
     |none=>exact .inl ⟨rfl,hh1 rfl⟩
     |some y=>obtain⟨k,hk⟩:=hh2 y rfl J a hs;exact .inr ⟨k,by simp[hk]⟩) (z0v _) (z0j h2 hnc) w
   have hadd:(if cap=0 then ao else ao.map (·.add (0*n)))=ao:=by
    split
    ·rfl
    ·exact hao
   refine⟨.slice ao hh cap,λw=> ?_,?_⟩
   ·rw[hrun a w (λn e he=>by rw[hu] at he;cases he)]
    simp only[Instr.slice,z01,run_underlying hu,Result.andThen_ok,hv,z0u,hb,run_sizeOf ht,z08,z0f,hadd]
   ·exact⟨[.slice ao hh cap],by simp only[au];exact⟨hi3,ao,n0,cap,hvv,h2,rfl⟩,rfl⟩
  ·exact h.elim
 ·rename_i n e hu;split at hp<;>try (cases hp;done)
  split at hp<;>try (cases hp;done)
  rename_i w ag ht;simp only[z00] at hp;subst hp;have l0:lo=none:=by cases lo<;>simp[mV] at hlo<;>rfl
  have h0:hi=none:=by cases hi<;>simp[mV] at hhi<;>rfl
  have m0:mx=none:=by cases mx<;>simp[mV] at hmx<;>rfl
  subst l0;subst h0;subst m0;exact aeJ ho hx hu ht h
theorem BQ{p:wK}(hp:eX P o.op=some p)(h:aV σ K p):∃ sv,K sv/\dX P o σ sv:=by
 cases ho:o.op with
 |move x=>
  rw[ho] at hp;simp only[eX,z05] at hp;obtain⟨y,hy,rfl⟩:=hp;exact UQ (.inl ho) hy h
 |assign x=>
  rw[ho] at hp;simp only[eX,z05] at hp;obtain⟨y,hy,rfl⟩:=hp;exact UQ (.inr ho) hy h
 |pick c x y=>
  rw[ho] at hp;simp only[eX,bind,z06] at hp;obtain⟨c',hc,hp⟩:=bind_some hp;obtain⟨x',hx,hp⟩:=bind_some hp;obtain⟨y',hy,hp⟩:=bind_some hp;simp only[z00] at hp;subst hp;exact YJ ho hc hx hy h
 |binOp op t x y yt=>exact aeD ho hp h
 |unOp op t x=>exact alO ho hp h
 |convert s d x=>exact YM ho hp h
 |fieldAddr s x k=>exact alP ho hp h
 |field s x k=>exact aeE ho hp h
 |indexAddr t x i=>exact alQ ho hp h
 |index t x i=>exact alR ho hp h
 |extract x k=>exact aeF ho hp h
 |makeFunc f a b=>exact YN ho hp h
 |nilCheck x=>exact aeG ho hp h
 |makeInterface t x=>exact YO ho hp h
 |typeAssert x xt t ok=>exact aeH ho hp h
 |call c=>exact aqD ho hp h
 |build t parts=>exact aeI ho hp h
 |slice t x lo hi mx=>exact UW ho hp h
 |_=>rw[ho] at hp;simp only[eX] at hp;cases hp
end Go.Sx
namespace Go.Sx
open Go
variable {P:Program}
theorem yO{t:TypeId}{n:Nat}{ag:Bool}(ht:qm P t=some (n,ag))(h1:ag=false->n=1)(w:World){b off:Nat}{cur:Array Value}{T:TypeId}{fz:Nat×Nat}
  (hb:w.heap[b]? =some (.cells cur T fz)) (hl:off+n<=cur.size):(loadVar t ⟨b,off,none⟩).run P w= .ok (boxed ag (sub cur.toList off n)) w:=by
 have hcell:∀ j,j<cur.size->w.cell? ⟨b,j,none⟩=some (cur.getD j undef):=by intro j hj;simp[World.cell?,hb,z2h,hj]
 simp only[loadVar,z01,Nb ht,Result.andThen_ok];cases ag with
 |true=>
  simp only[if_true,z01,run_sizeOf ht,Result.andThen_ok];rw[run_loadCells (P:=P) w ⟨b,off,none⟩ n (λj=>cur.getD (off+j) undef) (λj hj=>by rw[Addr.add_lit];exact hcell _ (by omega))]
  simp only[Result.andThen_ok,z08,boxed,if_true]
  congr 3
  apply z0k;intro j;rw[iK];by_cases hj:j<n
  ·rw[if_pos hj];have:off+j<cur.size:=by omega
   simp[hj,z2h,this]
  ·rw[if_neg hj];simp[hj]
 |false=>
  have:=h1 rfl;subst this;have hlt:off<cur.size:=by omega
  simp only[z0i,if_false,run_load,hcell off hlt,boxed]
  congr 1
  simp[sub,z1v,z2r,z2s,z2h,hlt]
theorem Qv{t:TypeId}{n:Nat}{ag:Bool}(ht:qm P t=some (n,ag))(w:World){b off:Nat}{cur:List Value}{T:TypeId}{v:Value}{xs:List Value}
  (hb:w.heap[b]? =some (.cells cur.toArray T (0,0))) (hv:v.cells=xs.toArray) (hn:xs.length=n) (hl:off+n<=cur.length) (h1:∀ u∈xs,u.oneCell'=true):
  (storeVar t ⟨b,off,none⟩ v).run P w= .ok () (w.setRow b (splice cur off xs).toArray):=by
 have hst:=run_storeCells_at P b off T xs 0 cur.toArray w hb (by simp;omega) h1
 simp only[z2c] at hst;simp only[storeVar,z01,run_sizeOf ht,Result.andThen_ok,hv];rw[if_neg (by simp;omega)]
 rw[hst];rfl
def Ux:List (TypeId×FuncId)->TypeId->Option FuncId
 |[],_=>none
 |(u,f)::r,t=>if u=t then some f else Ux r t
inductive EIO:Type 1 where
 |alloc (T:TypeId) (z:SV)
 |box (T:TypeId) (x:aS)
 |load (n:Nat) (ag:Bool) (x:aS)
 |store (n:Nat) (x v:aS)
 |qj (E:TypeId) (w len:Nat) (z:SV) (parts:List (Nat×aS))
 |mks (E:TypeId) (w bytes:Nat) (z:SV) (len cap:aS)
 |app (E:TypeId) (w bytes:Nat) (s x:aS)
 |call (f:FuncId) (args:List aS)
 |gW (f:FuncId) (args:List aS)
 |DK (l:List Int)
 |DF (E:TypeId) (w len:Nat) (z:SV) (parts:List (Nat×aS))
 |again (n:Nat) (ag:Bool) (x:aS) (d:Nat)
 |uX (k:MK) (args:List aS) (d:Nat)
 |jm (x:aS) (args:List aS)
 |Fz (tab:List (TypeId×FuncId)) (x:aS) (args:List aS)
 |mJ (k:MK) (args:List aS)
def SV.isSet:SV->Bool
 | .junk=>false
 |_=>true
abbrev Hook:=FuncId->List SV->List ay->(SV->List ay->Prop)->Prop
def peek(m:List ay)(n:Nat)(ag:Bool)(K:SV->Prop):SV->Prop
 | .ptr i p o=>match ah m i with
  | .blk _ c=>(iM c p 0 o/\wd (dP c p)=n/\(dP c p).isAgg=ag)/\K (dP c p)
  |_=>False
 | .fM _ d f l i p o=>(iM (f (l.getD i d)) p 0 o/\wd (dP (f (l.getD i d)) p)=n/\(dP (f (l.getD i d)) p).isAgg=ag)/\K (dP (f (l.getD i d)) p)
 | .gX i j p o=>match ah m i with
  | .vec _ w l=>(j<l.length/\iM (l.getD j .junk) p (j*w) o/\wd (dP (l.getD j .junk) p)=n/\(dP (l.getD j .junk) p).isAgg=ag)/\K (dP (l.getD j .junk) p)
  |_=>False
 | .ref c p o=>(iM c p 0 o/\wd (dP c p)=n/\(dP c p).isAgg=ag)/\K (dP c p)
 |_=>False
def zM(m:List ay)(w:Nat):SV->Option (List SV)
 | .vec j _=>match ah m j with
  | .vec _ w' l=>if w'=w then some l else none
  |_=>none
 | .lst w' _ f l=>if w'=w then some (l.map f) else none
 | .lit w' _ f l=>if w'=w then some (l.map f) else none
 | .bF=>some []
 |_=>none
def YD(w len:Nat)(l:List SV):SV:=if len=1 then .lit w (0:Nat) (λi=>l.getD i .junk) (z0h len) else .lst w (0:Nat) (λi=>l.getD i .junk) (z0h len)
theorem Ii{O:Type}{w:Nat}{d:O}{f:O->SV}{l:List O}{J:Env}{v:Value}(h:bM J (.lit w d f l) v):bM J (.lst w d f l) v/\∃ ao,v= .slice ao l.length l.length/\(ao=none->l.length=0):=by obtain⟨cs,h1,h2⟩:=h;simp only[au] at h1;obtain⟨ao,rfl,k1,k2,k3⟩:=h1;have hv:v= .slice ao l.length l.length:=h2;exact⟨⟨_,by simp only[au];exact⟨ao,l.length,rfl,z0a _,k1,k2,k3⟩,h2⟩,ao,hv,k2⟩
theorem alU{J:Env}{w len:Nat}{l:List SV}{v:Value}(h:bM J (.lit w (0:Nat) (λi=>l.getD i .junk) (z0h len)) v):bM J (YD w len l) v:=by
 unfold YD;split
 ·exact h
 ·exact(Ii h).1
def bytesOf:List SV->Option (List UInt8)
 |[]=>some []
 | .int .u8 n::r=>(bytesOf r).map λl=>UInt8.ofNat n.toNat::l
 |_=>none
def mX(m:List ay)(k:MK)(xs:List SV)(K:SV->List ay->Prop):Prop:=match k with
 | .make ek ev=>match xs with
  |[]=>K (.map m.length) (m++[.mp ek ev []])
  |[.int _ _]=>K (.map m.length) (m++[.mp ek ev []])
  |_=>False
 | .put ek ev=>match xs with
  |[.map i,key,v]=>match ah m i with
   | .mp ek' ev' l=>(ek'=ek/\ev'=ev/\gU ek key/\Tv ev v)/\K .junk (m.set i (.mp ek ev (gG ek key v l)))
   |_=>False
  |_=>False
 | .get ek ev z ok=>match xs with
  |[.map i,key]=>match ah m i with
   | .mp ek' ev' l=>(ek'=ek/\ev'=ev/\gU ek key)/\K (if ok then .bK [pX ev z (dQ ek key l), .bool (dQ ek key l).isSome] else pX ev z (dQ ek key l)) m
   |_=>False
  |_=>False
 | .agH=>match xs with
  |[x]=>match zM m 1 x with
   |some l=>match bytesOf l with
    |some bs=>K (.str bs) m
    |none=>False
   |none=>False
  |_=>False
 | .aiw=>match xs with
  |[.str s]=>s.length<=140737488355328/\K (.lst 1 (0:UInt8) (λb=>SV.int .u8 (b.toNat:Int)) s) m
  |_=>False
 | .abA=>match xs with
  |[.map i]=>match ah m i with
   | .mp _ _ l=>K (.int .i64 l.length) m
   |_=>False
  |_=>False
def JU(m:List ay)(n:Nat)(v:SV)(K:List ay->Prop):SV->Prop
 | .ptr i p o=>match ah m i with
  | .blk T c=>(iM c p 0 o/\wd (dP c p)=n/\wd v=n/\v.isVal=true)/\K (m.set i (.blk T (tX c p v)))
  |_=>False
 | .gX i j p o=>match ah m i with
  | .vec T w l=>(j<l.length/\iM (l.getD j .junk) p (j*w) o/\wd (dP (l.getD j .junk) p)=n/\wd v=n/\v.isVal=true)/\K (m.set i (.vec T w (l.set j (tX (l.getD j .junk) p v))))
  |_=>False
 |_=>False
theorem Env.AZ(J:Env):J.cl.Le J:=
 {n:=z0v _,blk:=λ_ hi=>absurd hi (z07 _),vv:=λ_ hi=>absurd hi (z07 _),H:=λ_ _ h=>h}
theorem oh{c:SV}{n:Nat}{ag:Bool}(h1:wd c=n)(h2:c.isAgg=ag):ag=false->n=1:=by intro h;subst h2;rw[<- h1];exact Nc h
theorem Zn{m:List ay}{n:Nat}{ag:Bool}{K:SV->Prop}{x:SV}(h:peek m n ag K x):
  ∃ c,K c/\c.isAgg=ag/\(ag=false->n=1)/\∀ J w v,Good J m w->bM J x v->
   ∃ b off cur T fz,v= .pointer (some ⟨b,off,none⟩)/\w.heap[b]? =some (.cells cur T fz)/\off+n<=cur.size/\au c J (sub cur.toList off n):=by
 unfold peek at h;split at h
 ·rename_i i p o;split at h
  ·rename_i T c hm;obtain⟨⟨h1,h2,h3⟩,hK⟩:=h;refine⟨_,hK,h3,oh h2 h3,λJ w v hg hx=> ?_⟩;obtain⟨hi,hp,rfl⟩:=DY hx;obtain⟨cs,hb,hc⟩:gu J i w (.blk T c):=hm▸hg.res i;obtain⟨g1,g2,g3⟩:=au.get p c 0 o hc hp h1;rw[z0f,h2] at g2 g3;exact⟨_,o,_,T,_,rfl,hb,by simpa using g3,by simpa using g2⟩
  ·exact h.elim
 ·rename_i O w' d f l i p o;obtain⟨⟨h1,h2,h3⟩,hK⟩:=h;refine⟨_,hK,h3,oh h2 h3,λJ w v hg hx=> ?_⟩;obtain⟨cs,h4,h5⟩:=hx;simp only[au] at h4;obtain⟨b,off,T,fz,cur,rfl,g1,g2,g3,g4,g5⟩:=h4;obtain⟨i1,i2,i3⟩:=au.get p _ 0 o g5 g3 h1;rw[z0f,h2] at i2 i3;have hsl:(sub cur.toList (off+i*w') w').length=w':=fQ (by simpa using g4)
  rw[hsl] at i3;rw[sub_sub i3] at i2;refine⟨b,off+i*w'+o,cur,T,fz,h5,hg.hv b _ g2,?_,i2.mono _ (Env.AZ J)⟩;omega
 ·rename_i i j p o;split at h
  ·rename_i T w' l hm;obtain⟨⟨hj,h1,h2,h3⟩,hK⟩:=h;refine⟨_,hK,h3,oh h2 h3,λJ w v hg hx=> ?_⟩;obtain⟨hi,hp,b,cap,n',e1,e2,rfl⟩:=zy hx;obtain⟨xs,hown,hel⟩:gu J i w (.vec T w' l):=hm▸hg.res i;rw[e1] at hown;obtain⟨ol,ho⟩:=hown;rcases ho with⟨ho,_⟩|⟨g,cap',cur,ho,_,hh,hle,_,hsz,htk⟩
   ·cases ho
   ·simp only[z2i,z00,Addr.mk.injEq] at ho;obtain⟨⟨rfl,_,_⟩,rfl,rfl⟩:=ho;have hs:=hel j hj;have hjl:=bG (w:=w') hj;obtain⟨i1,i2,i3⟩:=au.get p _ (j*w') o hs hp h1;rw[h2] at i2 i3;have hlen:(sub xs (j*w') w').length=w':=fQ (by omega)
    rw[hlen] at i3;rw[sub_sub i3,show j*w'+(o - j*w')=o by omega] at i2
    have hle':l.length*w'<=cap*w':=z09 _ hle;refine⟨b,o,cur,T,_,rfl,hh,by omega,?_⟩
    have:sub cur.toList o n=sub xs o n:=by rw[<- htk];simp only[sub,z0p,z0y];rw[z1q (by omega)]
    rw[this];exact i2
  ·exact h.elim
 ·rename_i c p o;obtain⟨⟨h1,h2,h3⟩,hK⟩:=h;refine⟨_,hK,h3,oh h2 h3,λJ w v hg hx=> ?_⟩;obtain⟨cs,h4,h5⟩:=hx;simp only[au] at h4;obtain⟨b,T,fz,cur,rfl,g2,g3,g5⟩:=h4;obtain⟨i1,i2,i3⟩:=au.get p _ 0 o g5 g3 h1;rw[z0f,h2] at i2 i3;exact⟨b,o,cur,T,fz,h5,hg.hv b _ g2,by simpa using i3,i2.mono _ (Env.AZ J)⟩
 ·exact h.elim
def aas(P:Program)(o:Oper)(σ:List SV)(m:List ay)(σ':List SV)(sv:SV)(m':List ay):Prop:=
 ∀ β J a w,Inv β J m w->aH J σ a->∀ Q,o.wp P a w (λa' w'=> ∃ v J',a'=a.put o.dst v/\bM J' sv v/\aH J' σ' a/\Inv β J' m' w') Q
def fK(P:Program)(o:Oper)(σ:List SV)(m:List ay)(sv:SV)(m':List ay):Prop:=
 ∀ β J a w,Inv β J m w->aH J σ a->∀ Q,o.wp P a w (λa' w'=> ∃ v J',a'=a.put o.dst v/\bM J' sv v/\J.Le J'/\Inv β J' m' w') Q
theorem aH.mono{J J':Env}{σ:List SV}{a:Act}(hl:J.Le J')(h:aH J σ a):aH J' σ a:=⟨h.1,λk=>(h.2 k).mono hl⟩
theorem Oper.aeK{o:Oper}{a:Act}{K K':Act->World->Prop}{Q:Exit->Act->World->Prop}{r:Result Next}(h:∀ a w,K a w->K' a w)(hh:o.upon P a K Q r):o.upon P a K' Q r:=by
 cases r with
 |ok n w=>
  cases n<;>simp only[Oper.upon] at hh ⊢ <;>first
   |exact h _ _ hh
   |exact hh
   |(refine hh.mono λe w' hr=> ?_;cases e<;>first|exact h _ _ hr|exact hr)
   |(refine hh.mono λv w' hr=>h _ _ hr)
 |halt x w=>cases x<;>simp only[Oper.upon] at hh ⊢ <;>exact hh
theorem Oper.wp_mono{o:Oper}{a:Act}{w:World}{K K':Act->World->Prop}{Q:Exit->Act->World->Prop}(h:∀ a w,K a w->K' a w)(hh:o.wp P a w K Q):o.wp P a w K' Q:=Oper.aeK h hh
theorem fK.step{o:Oper}{σ:List SV}{m m':List ay}{sv:SV}(h:fK P o σ m sv m'):aas P o σ m σ sv m':=
 λβ J a w hi hs Q=>Oper.wp_mono (λ_ _ ⟨v,J',h1,h2,h3,h4⟩=>⟨v,J',h1,h2,hs.mono h3,h4⟩) (h β J a w hi hs Q)
theorem J5{T:TypeId}{x:Operand}{x':aS}{n:Nat}{ag:Bool}{o:Oper}{σ:List SV}{m:List ay}{K:SV->Prop}(ho:o.op= .load T x)(hx:aQ x=some x')(ht:qm P T=some (n,ag))
  (h:peek m n ag K (x'.ev σ)):∃ sv,K sv/\fK P o σ m sv m:=by
 obtain⟨c,hK,hag,hone,hh⟩:=Zn h;refine⟨c,hK,λβ J a w hi hs Q=> ?_⟩;obtain⟨b,off,cur,T',fz,e1,e2,e3,e4⟩:=hh J w _ hi.good (aB hx hs);have hr:(execOp a.eval o).run P w= .ok (.value (boxed ag (sub cur.toList off n))) w:=by simp only[execOp,ho,z01,Instr.loadAt,Instr.sureAddr,e1,z08,Result.andThen_ok,yO ht hone w e2 e3]
 unfold z1d;rw[hr,z0n];exact⟨_,J,rfl,hag▸iG e4,Env.Le.refl J,hi⟩
theorem Inv.afi{β:Base}{J:Env}{m:List ay}{w:World}(h:Inv β J m w){i:Nat}{T:TypeId}{wd':Nat}{l l':List SV}{g cap:Nat}{cur cs':List Value}
  (hm:ah m i= .vec T wd' l) (hv:J.vv i= .slice (some ⟨g,0,none⟩) l.length cap) (hcur:w.heap[g]? =some (.cells cur.toArray T (0,0))) (hle:l.length<=cap) (hcap:cap<=maxLen)
  (hcl:cur.length=cap*wd') (hlen:l'.length=l.length) (hcl':cs'.length=cur.length)
  (hel:∀ j,j<l'.length->au (l'.getD j .junk) J (sub cs' (j*wd') wd')):
  Inv β J (m.set i (.vec T wd' l')) (w.setRow g cs'.toArray):=by
 have hmul:l'.length*wd'<=cap*wd':=z09 _ (by omega)
 have hoi:∀ l,aN J i (.vec T wd' l)=some g:=λ_=>by simp[aN,hv,z1a]
 refine h.QJ (vZ (by rw[hm];nofun)) ⟨sub cs' 0 (l'.length*wd'),⟨by rw[fQ];omega, .inr ⟨g,cap,cs'.toArray,by rw[hv,hlen],z0v _,setRow_heap w _ _ _ T _ hcur,by omega,hcap,by simp;omega,by simp[sub]⟩⟩,λk hk=> ?_⟩
  (by rw[hm];exact λ_ e=>e) (by rw[hm];exact id) (λb hb=>setRow_other w _ b _ λe=>hb (by rw[hm,e];exact hoi _)) (by simp[z2v]) ⟨rfl,rfl,rfl,rfl⟩
 rw[sub_sub (bG hk),z0q];exact hel k hk
theorem F9{T:TypeId}{x v:Operand}{x' v':aS}{n:Nat}{ag:Bool}{o:Oper}{σ:List SV}{m:List ay}{K:List ay->Prop}(ho:o.op= .store T x v)(hx:aQ x=some x')(hv:aQ v=some v')
  (ht:qm P T=some (n,ag)) (h:JU m n (v'.ev σ) K (x'.ev σ)):∃ m',K m'/\fK P o σ m .junk m':=by
 have hrun:∀ (a:Act) (w:World) (b off:Nat) (cur:List Value) (T':TypeId) (xs:List Value),a.eval x= .pointer (some ⟨b,off,none⟩)->w.heap[b]? =some (.cells cur.toArray T' (0,0))->
   (a.eval v).cells=xs.toArray->xs.length=n->off+n<=cur.length->(∀ u∈xs,u.oneCell'=true)->(execOp a.eval o).run P w= .ok .skip (w.setRow b (splice cur off xs).toArray):=by
  intro a w b off cur T' xs e1 e2 e3 e4 e5 e6;simp only[execOp,ho,z01,Instr.storeAt,Instr.sureAddr,e1,z08,Result.andThen_ok,Qv ht w e2 e3 e4 e5 e6]
 unfold JU at h;split at h
 ·rename_i i p o' ex;split at h
  ·rename_i T' c hm;obtain⟨⟨h1,h2,h3,h4⟩,hK⟩:=h;refine⟨_,hK,λβ J a w hi hs Q=> ?_⟩;obtain⟨_,hp,e1⟩:=DY (ex▸aB hx hs);obtain⟨xs,e2,e3⟩:=ig (aB hv hs) h4;obtain⟨cs,hb,hc⟩:gu J i w (.blk T' c):=hm▸hi.good.res i;obtain⟨g1,g2,g3⟩:=au.get p c 0 o' hc hp h1;have hset:=au.set p c 0 o' hc hp h1 e2 (by omega)
   rw[z0f] at g2 g3 hset;have hl:=au.length _ e2;unfold z1d;rw[hrun a w _ _ cs T' xs e1 hb (by rw[e3];exact mW e2) (by omega) (by omega) (au.one _ e2),z2t]
   exact⟨_,J,rfl,trivial,Env.Le.refl J,hi.avz hm hset⟩
  ·exact h.elim
 ·rename_i i j p o' ex;split at h
  ·rename_i T' w' l hm;obtain⟨⟨hj,h1,h2,h3,h4⟩,hK⟩:=h;refine⟨_,hK,λβ J a w hi hs Q=> ?_⟩;obtain⟨_,hp,b,cap,n',e1,e2,ev⟩:=zy (ex▸aB hx hs);obtain⟨xs,e3,e4⟩:=ig (aB hv hs) h4;obtain⟨ys,hown,hel⟩:gu J i w (.vec T' w' l):=hm▸hi.good.res i;have hl:=au.length _ e3;obtain⟨ol,ho2⟩:=hown;rcases ho2 with⟨ho2,_⟩|⟨g,cap',cur,ho2,_,hh,hle,hcap,hsz,htk⟩
   ·rw[e1] at ho2;cases ho2
   ·have ho3:=ho2;rw[e1] at ho2;simp only[z2i,z00,Addr.mk.injEq] at ho2;obtain⟨⟨rfl,_,_⟩,rfl,rfl⟩:=ho2;have hs':=hel j hj;have hjl:=bG (w:=w') hj;obtain⟨i1,i2,i3⟩:=au.get p _ (j*w') o' hs' hp h1;have hset:=au.set p _ (j*w') o' hs' hp h1 e3 (by omega)
    have hlen:(sub ys (j*w') w').length=w':=fQ (by omega)
    rw[hlen] at i3;have hle':l.length*w'<=cap*w':=z09 _ hle;have hcl:cur.toList.length=cap*w':=by simpa using hsz
    have hsub:∀ k,k<l.length->sub cur.toList (k*w') w'=sub ys (k*w') w':=by intro k hk;have:=bG (w:=w') hk;rw[<- htk];simp only[sub,z0p,z0y];rw[z1q (by omega)]
    have hb:w.heap[b]? =some (.cells cur.toList.toArray T' (0,0)):=by simpa using hh
    unfold z1d;rw[hrun a w b o' cur.toList T' xs ev hb (by rw[e4];exact mW e3) (by omega) (by omega) (au.one _ e3),z2t]
    refine⟨_,J,rfl,trivial,Env.Le.refl J,hi.afi hm ho3 hb hle hcap hcl (by simp) (og (by omega)) (λk hk=> ?_)⟩
    simp only[z1p] at hk;have hkl:=bG (w:=w') hk;by_cases hkj:k=j
    ·subst hkj;rw[uQ (by omega) (by omega) (by omega),hsub k hk]
     simpa[z0c,hj] using hset
    ·rw[sV ?_ (by omega),hsub k hk]
     ·have:(l.set j (tX (l.getD j .junk) p (v'.ev σ))).getD k .junk=l.getD k .junk:=by simp only[z0l,z0e];rw[if_neg (λe=>hkj e.symm)]
      rw[this];exact hel k hk
     ·rcases z1g hkj with hlt|hgt
      ·have:=bG (w:=w') hlt;right;omega
      ·have:=bG (w:=w') hgt;left;omega
  ·exact h.elim
 ·exact h.elim
end Go.Sx
namespace Go.Sx
open Go
variable {P:Program}
mutual
def kill(i:Nat):SV->SV
 | .vec j n=>if j=i then .junk else .vec j n
 | .gX j a p o=>if j=i then .junk else .gX j a p o
 | .jO j n=>if j=i then .junk else .jO j n
 | .arr n w f=> .arr n w λk=>kill i (f k)
 | .agg l=> .agg (dI i l)
 | .bK l=> .bK (dI i l)
 | .fn f l=> .fn f (dI i l)
 | .iface t x=> .iface t (kill i x)
 |c=>c
def dI(i:Nat):List SV->List SV
 |[]=>[]
 |x::r=>kill i x::dI i r
end
def oz(i:Nat):ay->ay
 | .dead=> .dead
 | .blk T c=> .blk T (kill i c)
 | .vec T w l=> .vec T w (dI i l)
 | .mp ek ev l=> .mp ek ev l
structure Env.But(i:Nat)(J J':Env):Prop where
 n:J.n<=J'.n
 blk:∀ j,j<J.n->J'.blk j=J.blk j
 vv:∀ j,j<J.n->j≠i->J'.vv j=J.vv j
 H:∀ b o,J.H b=some o->J'.H b=some o
theorem Env.But.cl{i:Nat}{J J':Env}(h:J.But i J'):J.cl.Le J'.cl:=⟨z0a _,λ_ hi=>absurd hi (z07 _),λ_ hi=>absurd hi (z07 _),h.H⟩
theorem jy(i:Nat):∀ l:List SV,(dI i l).length=l.length
 |[]=>rfl
 |_::r=>by simp[dI,jy i r]
theorem tC(i:Nat):∀ (l:List SV) (j:Nat),(dI i l).getD j .junk=kill i (l.getD j .junk)
 |[],j=>by simp[dI,kill]
 |x::r,0=>by simp[dI]
 |x::r,j+1=>by simp only[dI,z0m];exact tC i r j
theorem Cb(i:Nat)(c:SV):(kill i c).isAgg=c.isAgg:=by cases c<;>simp only[kill]<;>first|rfl|(split<;>rfl)
mutual
theorem au.kill(i:Nat):∀ (c:SV) {J J':Env} {cs:List Value},J.But i J'->au c J cs->au (kill i c) J' cs
 | .int ..,_,_,_,_,h=>h
 | .bool ..,_,_,_,_,h=>h
 | .str ..,_,_,_,_,h=>h
 | .arr n w f,_,_,_,hl,h=>by
  simp only[Sx.kill,au] at h ⊢;exact⟨h.1,λj hj=>au.kill i (f j) hl (h.2 j hj)⟩
 | .agg l,_,_,_,hl,h=>by simp only[Sx.kill,au] at h ⊢;exact bQ.kill i l hl h
 | .bK _,_,_,_,_,h=>by simp only[au] at h
 | .lst w d f l,_,_,_,hl,h=>by
  simp only[Sx.kill,au] at h ⊢;obtain⟨ao,cap,h1,h2,h3,h4,h5⟩:=h;refine⟨ao,cap,h1,h2,h3,h4,λi hi=> ?_⟩;obtain⟨b,off,T,fz,cur,e1,e2,e3,e4⟩:=h5 i hi;exact⟨b,off,T,fz,cur,e1,hl.H _ _ e2,e3,au.mono (f (l.getD i d)) hl.cl e4⟩
 | .lit w d f l,_,_,_,hl,h=>by
  simp only[Sx.kill,au] at h ⊢;obtain⟨ao,h1,h3,h4,h5⟩:=h;refine⟨ao,h1,h3,h4,λi hi=> ?_⟩;obtain⟨b,off,T,fz,cur,e1,e2,e3,e4⟩:=h5 i hi;exact⟨b,off,T,fz,cur,e1,hl.H _ _ e2,e3,au.mono (f (l.getD i d)) hl.cl e4⟩
 | .fM w d f l i p o,_,_,_,hl,h=>by
  simp only[Sx.kill,au] at h ⊢;obtain⟨b,off,T,fz,cur,h1,h2,h3,h4,h5,h6⟩:=h;exact⟨b,off,T,fz,cur,h1,h2,hl.H _ _ h3,h4,h5,au.mono (f (l.getD i d)) hl.cl h6⟩
 | .ref c p o,_,_,_,hl,h=>by
  simp only[Sx.kill,au] at h ⊢;obtain⟨b,T,fz,cur,h1,h2,h3,h4⟩:=h;exact⟨b,T,fz,cur,h1,hl.H _ _ h2,h3,au.mono c hl.cl h4⟩
 | .ptr j p o,_,_,_,hl,h=>by
  simp only[Sx.kill,au] at h ⊢;exact⟨z04 h.1 hl.n,h.2.1,by rw[hl.blk j h.1];exact h.2.2⟩
 | .vec j n,_,_,_,hl,h=>by
  simp only[Sx.kill];split
  ·obtain⟨u,hu⟩:∃ u,_=[u]:=by simp only[au] at h;exact⟨_,h.2.2⟩
   simp only[au];exact⟨u,by have:=au.one _ h u (by rw[hu];simp);exact this,hu⟩
  ·rename_i hne;simp only[au] at h ⊢;exact⟨z04 h.1 hl.n,by rw[hl.vv j h.1 hne];exact h.2⟩
 | .jO j n,_,_,_,hl,h=>by
  simp only[Sx.kill];split
  ·simp only[au] at h ⊢;obtain⟨_,_,_,_,_,_,e⟩:=h;exact⟨_,rfl,e⟩
  ·rename_i hne;simp only[au] at h ⊢;exact⟨z04 h.1 hl.n,by rw[hl.vv j h.1 hne];exact h.2⟩
 | .gX j a p o,_,_,_,hl,h=>by
  simp only[Sx.kill];split
  ·simp only[au] at h ⊢;obtain⟨_,_,b,_,_,_,_,e⟩:=h;exact⟨_,rfl,e⟩
  ·rename_i hne;simp only[au] at h ⊢;exact⟨z04 h.1 hl.n,h.2.1,by rw[hl.vv j h.1 hne];exact h.2.2⟩
 | .map j,_,_,_,hl,h=>by
  simp only[Sx.kill,au] at h ⊢;exact⟨z04 h.1 hl.n,by rw[hl.blk j h.1];exact h.2⟩
 | .fn f cap,_,_,_,hl,h=>by
  simp only[Sx.kill,au] at h ⊢;obtain⟨vs,h1,h2⟩:=h;exact⟨vs,bg.kill i cap hl h1,h2⟩
 | .iface t x,_,_,_,hl,h=>by
  simp only[Sx.kill,au,Cb] at h ⊢;obtain⟨xs,h1,h2⟩:=h;exact⟨xs,au.kill i x hl h1,h2⟩
 | .bF,_,_,_,_,h=>h
 | .iP,_,_,_,_,h=>h
 | .jh,_,_,_,_,h=>h
 | .jr,_,_,_,_,h=>h
 | .qx,_,_,_,_,h=>h
 | .lV,_,_,_,_,h=>h
 | .raw _,_,_,_,_,h=>h
 | .junk,_,_,_,_,h=>h
theorem bQ.kill(i:Nat):∀ (l:List SV) {J J':Env} {cs:List Value},J.But i J'->bQ l J cs->bQ (dI i l) J' cs
 |[],_,_,_,_,h=>h
 |x::r,_,_,_,hl,h=>by simp only[dI,bQ] at h ⊢;obtain⟨a,b,h1,h2,h3⟩:=h;exact⟨a,b,h1,au.kill i x hl h2,bQ.kill i r hl h3⟩
theorem bg.kill(i:Nat):∀ (l:List SV) {J J':Env} {vs:List Value},J.But i J'->bg l J vs->bg (dI i l) J' vs
 |[],_,_,_,_,h=>h
 |x::r,_,_,_,hl,h=>by simp only[dI,bg,Cb] at h ⊢;obtain⟨cs,t,h1,h2,h3⟩:=h;exact⟨cs,t,h1,au.kill i x hl h2,bg.kill i r hl h3⟩
end
theorem bM.kill{i:Nat}{x:SV}{J J':Env}{v:Value}(hl:J.But i J')(h:bM J x v):bM J' (Sx.kill i x) v:=by
 by_cases hv:x.isVal=true
 ·obtain⟨cs,h1,h2⟩:=ig h hv;have:=au.kill i x hl h1;have h3:=iG this;rw[Cb] at h3;rw[h2];exact h3
 ·cases x<;>first
   |exact absurd rfl hv
   |(obtain⟨vs,h1,h2⟩:=h;exact⟨vs,bg.kill i _ hl h1,h2⟩)
   |trivial
theorem aH.kill{i:Nat}{J J':Env}{σ:List SV}{a:Act}(hl:J.But i J')(h:aH J σ a):aH J' (dI i σ) a:=
 ⟨by rw[jy];exact h.1,λk=>by rw[tC];exact(h.2 k).kill hl⟩
theorem Inv.grown{β:Base}{J:Env}{m:List ay}{w w':World}(h:Inv β J m w){i:Nat}{T:TypeId}{wd':Nat}{l l':List SV}{v':Value}{ys:List Value}
  (hm:ah m i= .vec T wd' l) (hg:w.grownBy w' (J.vv i).ownBlock) (hd:w.drawn<=w'.drawn) (hown:w'.ownsRow 0 T wd' v' l'.length ys)
  (hblk:v'.ownBlock=(J.vv i).ownBlock\/∀ b,v'.ownBlock=some b->w.heap.size<=b)
  (hel:∀ j,j<l'.length->au (l'.getD j .junk) J (sub ys (j*wd') wd')):
  Inv β {J with vv:=λj=>if j=i then v' else J.vv j} ((m.map (oz i)).set i (.vec T wd' (dI i l'))) w'/\J.But i {J with vv:=λj=>if j=i then v' else J.vv j}:=by
 have hi:i<m.length:=by
  rcases z19 i m.length with hi|hi
  ·exact hi
  ·rw[dh hi] at hm;cases hm
 generalize UY:({J with vv:=λj=>if j=i then v' else J.vv j}:Env)=J'
 have aqF:J.But i J':=by subst UY;exact⟨z0a _,λ_ _=>rfl,λj _ hne=>by simp[hne],λ_ _ h=>h⟩
 refine⟨?_,aqF⟩;have hat:∀ j,ah ((m.map (oz i)).set i (.vec T wd' (dI i l'))) j=if j=i then .vec T wd' (dI i l') else oz i (ah m j):=by
  intro j;unfold ah;rw[z0c,z0e];by_cases hj:i=j
  ·subst hj;simp[hi]
  ·rw[if_neg hj,if_neg (λe=>hj e.symm),List.getElem?_map,z0c];cases m[j]? <;>rfl
 have hoi:aN J i (ah m i)=(J.vv i).ownBlock:=by rw[hm];rfl
 have hb':∀ j,J'.blk j=J.blk j:=by subst UY;intro j;rfl
 have hv1:J'.vv i=v':=by subst UY;simp
 have hv2:∀ j,j≠i->J'.vv j=J.vv j:=by subst UY;intro j hj;simp[hj]
 have hH:J'.H=J.H:=by subst UY;rfl
 have UZ:aN J' i (.vec T wd' (dI i l'))=v'.ownBlock:=by simp[aN,hv1]
 have hownO:∀ j,j≠i->aN J' j (oz i (ah m j))=aN J j (ah m j):=by intro j hj;cases ah m j<;>simp[oz,aN,hb',hv2 j hj]
 have hcase:∀ j b,aN J' j (ah ((m.map (oz i)).set i (.vec T wd' (dI i l'))) j)=some b->
   (j≠i/\aN J j (ah m j)=some b)\/(j=i/\(aN J i (ah m i)=some b\/w.heap.size<=b)/\v'.ownBlock=some b):=by
  intro j b hb;rw[hat] at hb;by_cases hj:j=i
  ·subst hj;rw[if_pos rfl,UZ] at hb;refine .inr ⟨rfl,?_,hb⟩;rcases hblk with e|e
   ·left;rw[hoi,<- e];exact hb
   ·right;exact e b hb
  ·rw[if_neg hj,hownO j hj] at hb;exact .inl ⟨hj,hb⟩
 have hkeep:∀ b,b<w.heap.size->(J.vv i).ownBlock≠some b->w'.heap[b]? =w.heap[b]? :=λb hb hne=>hg.block b hb (λe=>hne e.symm);refine⟨⟨by subst UY;simp[h.good.n],λj=> ?_,λa b x hab h1 h2=> ?_,λa b hb=> ?_,λb o hb=> ?_,by subst UY;exact h.good.gl⟩,⟨hg.os.trans h.kept.os,hg.tape.trans h.kept.tape,hg.output.trans h.kept.output,z0j h.kept.size hg.size,?_,?_,?_,λe=>z0j (h.kept.drawn e) hd⟩,λa b hb=> ?_,by subst UY;exact h.n,λj hj=>by rw[hb'];exact h.blk j hj,λj hj hv=> ?_⟩
 ·rw[hat];by_cases hj:j=i
  ·subst hj;rw[if_pos rfl];refine⟨ys,by rw[jy,hv1];exact hown,λk hk=> ?_⟩
   rw[jy] at hk;rw[tC];exact au.kill j _ aqF (hel k hk)
  ·rw[if_neg hj];have hr:=h.good.res j;have hne:∀ b,aN J j (ah m j)=some b->w'.heap[b]? =w.heap[b]? :=λb hb=>hkeep b (dU h.good hb) (λe=>h.good.pF j i b hj hb (by rw[hoi];exact e))
   cases hmj:ah m j with
   |dead=>trivial
   |blk T' c''=>
    rw[hmj] at hr;obtain⟨cs'',h1,h2⟩:=hr;exact⟨cs'',by rw[hb',hne _ (by rw[hmj];rfl)];exact h1,au.kill i _ aqF h2⟩
   |vec T' wd l2=>
    rw[hmj] at hr;obtain⟨xs,h1,h2⟩:=hr;refine⟨xs,?_,λk hk=> ?_⟩
    ·rw[jy,hv2 j hj];refine⟨h1.1,?_⟩;rcases h1.2 with hx|⟨gg,cap,cur,e1,e2,e3,e4⟩
     ·exact .inl hx
     ·exact .inr ⟨gg,cap,cur,e1,e2,by rw[hne gg (by rw[hmj];simp[aN,e1,z1a])];exact e3,e4⟩
    ·rw[jy] at hk;rw[tC];exact au.kill i _ aqF (h2 k hk)
   |mp ek ev l2=>
    rw[hmj] at hr;obtain⟨es,cl,h1,h2⟩:=hr;exact⟨es,cl,by rw[hb',hne _ (by rw[hmj];rfl)];exact h1,h2⟩
 ·rcases hcase a x h1 with⟨ha,h1'⟩|⟨ha,h1',_⟩<;>rcases hcase b x h2 with⟨hb,h2'⟩|⟨hb,h2',_⟩
  ·exact h.good.pF a b x hab h1' h2'
  ·rcases h2' with h2'|h2'
   ·exact h.good.pF a i x ha h1' h2'
   ·have:=dU h.good h1';omega
  ·rcases h1' with h1'|h1'
   ·exact h.good.pF b i x hb h2' h1'
   ·have:=dU h.good h2';omega
  ·omega
 ·rw[hH];rcases hcase a b hb with⟨_,h1⟩|⟨_,h1|h1,_⟩
  ·exact h.good.sep a b h1
  ·exact h.good.sep i b h1
  ·cases hh:J.H b with
   |none=>rfl
   |some o=>have:=yC h.good hh;omega
 ·rw[hH] at hb;rw[hkeep b (yC h.good hb) (λe=>by have:=h.good.sep i b (by rw[hoi];exact e);rw[this] at hb;cases hb)]
  exact h.good.hv b o hb
 ·intro b hb hB;rw[hkeep b (z04 hb h.kept.size) (λe=>by
   rcases h.own i b (by rw[hoi];exact e) with h'|h'
   ·exact hB h'
   ·omega)]
  exact h.kept.heap b hb hB
 ·rw[hH];exact h.kept.H
 ·rw[hH];exact h.kept.fresh
 ·rcases hcase a b hb with⟨_,h1⟩|⟨_,h1|h1,_⟩
  ·exact h.own a b h1
  ·exact h.own i b h1
  ·right;exact z0j h.kept.size h1
 ·rw[hat] at hv;by_cases hji:j=i
  ·subst hji;rw[if_pos rfl] at hv;cases hv
  ·rw[if_neg hji] at hv;rw[hv2 j hji];refine h.vv j hj ?_;cases hmj:ah m j<;>rw[hmj] at hv<;>first|rfl|exact hv
end Go.Sx
namespace Go.Sx
open Go
variable {P:Program}
theorem gu.grow{J J':Env}{m:List ay}{w w':World}(g:Good J m w)(hl:J.Le J')(hw:∀ b,b<w.heap.size->w'.heap[b]? =w.heap[b]?){i:Nat}(hi:i<m.length):gu J' i w' (ah m i):=by
 have hi':i<J.n:=by rw[g.n];exact hi
 have hr:=g.res i;cases hm:ah m i with
 |dead=>trivial
 |blk T c=>
  rw[hm] at hr;obtain⟨cs,h1,h2⟩:=hr;exact⟨cs,by rw[hl.blk i hi',hw _ (z03.1 h1).1];exact h1,h2.mono c hl⟩
 |vec T wd l=>
  rw[hm] at hr;obtain⟨xs,h1,h2⟩:=hr;refine⟨xs,?_,λj hj=>(h2 j hj).mono _ hl⟩;rw[hl.vv i hi'];refine⟨h1.1,?_⟩;rcases h1.2 with hx|⟨gg,cap,cur,e1,e2,e3,e4⟩
  ·exact .inl hx
  ·exact .inr ⟨gg,cap,cur,e1,e2,by rw[hw _ (z03.1 e3).1];exact e3,e4⟩
 |mp ek ev l=>
  rw[hm] at hr;obtain⟨es,cl,h1,h2⟩:=hr;exact⟨es,cl,by rw[hl.blk i hi',hw _ (z03.1 h1).1];exact h1,h2⟩
theorem Inv.more{β:Base}{J:Env}{m:List ay}{w w':World}(h:Inv β J m w){b:Nat}{v:Value}{r:ay}(hg:w.grownBy w' none)(hd:w.drawn<=w'.drawn)
  (hres:gu (J.more b v) m.length w' r) (hown:∀ x,aN (J.more b v) m.length r=some x->w.heap.size<=x):
  Inv β (J.more b v) (m++[r]) w':=by
 have hn:=h.good.n;have hw:∀ b,b<w.heap.size->w'.heap[b]? =w.heap[b]? :=λb hb=>hg.block b hb (by simp)
 have hle:=J.dJ b v;have UZ:∀ i,i<m.length->aN (J.more b v) i (ah (m++[r]) i)=aN J i (ah m i):=by
  intro i hi;rw[bD hi];have hi':i<J.n:=by omega
  cases ah m i<;>simp[aN,Env.more,z0r hi']
 have hcase:∀ i x,aN (J.more b v) i (ah (m++[r]) i)=some x->(i<m.length/\aN J i (ah m i)=some x)\/(i=m.length/\w.heap.size<=x):=by
  intro i x hb;rcases z16 i m.length with hi|hi|hi
  ·rw[UZ i hi] at hb;exact .inl ⟨hi,hb⟩
  ·subst hi;rw[jW] at hb;exact .inr ⟨rfl,hown x hb⟩
  ·rw[dh (by simp;omega)] at hb;cases hb
 refine⟨⟨by simp[Env.more,hn],λi=> ?_,λi j x hij h1 h2=> ?_,λi x hb=> ?_,λx o hb=> ?_,h.good.gl⟩,⟨hg.os.trans h.kept.os,hg.tape.trans h.kept.tape,hg.output.trans h.kept.output,z0j h.kept.size hg.size,?_,h.kept.H,h.kept.fresh,λe=>z0j (h.kept.drawn e) hd⟩,λi x hb=> ?_,?_,λi hi=> ?_,λi hi hv=> ?_⟩
 ·rcases z16 i m.length with hi|hi|hi
  ·rw[bD hi];exact gu.grow h.good hle hw hi
  ·subst hi;rw[jW];exact hres
  ·rw[dh (by simp;omega)];trivial
 ·rcases hcase i x h1 with⟨hi,h1'⟩|⟨hi,hb⟩<;>rcases hcase j x h2 with⟨hj,h2'⟩|⟨hj,hb2⟩
  ·exact h.good.pF i j x hij h1' h2'
  ·have:=dU h.good h1';omega
  ·have:=dU h.good h2';omega
  ·omega
 ·rcases hcase i x hb with⟨_,h1⟩|⟨_,h1⟩
  ·exact h.good.sep i x h1
  ·cases hh:J.H x with
   |none=>exact hh
   |some o=>have:=yC h.good hh;omega
 ·rw[hw x (yC h.good hb)];exact h.good.hv x o hb
 ·intro x hb hB;rw[hw x (z04 hb h.kept.size)];exact h.kept.heap x hb hB
 ·rcases hcase i x hb with⟨_,h1⟩|⟨_,h1⟩
  ·exact h.own i x h1
  ·right;exact z0j h.kept.size h1
 ·have:=h.n;simp[Env.more];omega
 ·have:=h.n;have e:=h.blk i hi;simp[Env.more];rw[if_neg (by omega)];exact e
 ·have hn':=h.n;rw[bD (by omega)] at hv
  have e:=h.vv i hi hv;simp[Env.more];rw[if_neg (by omega)];exact e
section
variable {o:Oper} {σ:List SV} {m:List ay}
theorem Gf{T:TypeId}{z:SV}(ho:o.op= .alloc T)(hz:Py P T=some z):fK P o σ m (.ptr m.length [] 0) (m++[.blk T z]):=by
 intro β J a w hi hs Q;obtain⟨i,v,h1,h2,h3⟩:=xG hz;have hr:(execOp a.eval o).run P w= .ok (.value (.pointer (some ⟨w.heap.size,0,none⟩))) (w.alloc (.cells v.cells T)):=by simp[execOp,ho,Instr.alloc,zeroValue,typeInfo,h1,h2,newVar,newRow]
 unfold z1d;rw[hr,z0n];have:=hi.alloc (T:=T) (h3 J);simp only[Array.toArray_toList] at this;refine⟨_,_,rfl,?_,J.dJ _ _,this⟩;refine⟨_,by simp only[au];exact⟨by simp[Env.more,hi.good.n],trivial,rfl⟩,?_⟩
 simp[boxed,SV.isAgg,Env.more,hi.good.n]
theorem NC{T:TypeId}{x:Operand}{x':aS}(ho:o.op= .box T x)(hx:aQ x=some x')(hv:(x'.ev σ).isVal=true):
  fK P o σ m (.ptr m.length [] 0) (m++[.blk T (x'.ev σ)]):=by
 intro β J a w hi hs Q;obtain⟨cs,h1,h2⟩:=ig (aB hx hs) hv;have hr:(execOp a.eval o).run P w= .ok (.value (.pointer (some ⟨w.heap.size,0,none⟩))) (w.alloc (.cells cs.toArray T)):=by have:=mW h1;simp[execOp,ho,Instr.box,newVar,newRow,h2,this]
 unfold z1d;rw[hr,z0n];refine⟨_,_,rfl,?_,J.dJ _ _,hi.alloc h1⟩;refine⟨_,by simp only[au];exact⟨by simp[Env.more,hi.good.n],trivial,rfl⟩,?_⟩
 simp[boxed,SV.isAgg,Env.more,hi.good.n]
def dS(σ:List SV)(w:Nat):List SV->List (Nat×aS)->(List SV->Prop)->Prop
 |l,[],K=>K l
 |l,(k,x)::r,K=>(k<l.length/\(x.ev σ).isVal=true/\wd (x.ev σ)=w)/\dS σ w (l.set k (x.ev σ)) r K
def lJ(σ:List SV):List SV->List (Nat×aS)->List SV
 |l,[]=>l
 |l,(k,x)::r=>lJ σ (l.set k (x.ev σ)) r
theorem Cc:∀ (ys:List (Nat×aS)) (l:List SV),(lJ σ l ys).length=l.length
 |[],_=>rfl
 |(k,x)::r,l=>by simp[lJ,Cc r]
theorem ni{w:Nat}:∀ (ys:List (Nat×aS)) (l:List SV) {K:List SV->Prop},dS σ w l ys K->K (lJ σ l ys)/\dS σ w l ys (λ_=>True)
 |[],l,K,h=>⟨h,trivial⟩
 |(k,x)::r,l,K,h=>by simp only[dS] at h ⊢;obtain⟨i1,i2⟩:=ni r _ h.2;exact⟨i1,h.1,i2⟩
def rJ:List (Nat×Operand)->Option (List (Nat×aS))
 |[]=>some []
 |(k,x)::r=>match aQ x,rJ r with
  |some y,some ys=>some ((k,y)::ys)
  |_,_=>none
def wH(J:Env)(w:Nat)(l:List SV)(cs:List Value):Prop:=cs.length=l.length*w/\∀ j,j<l.length->au (l.getD j .junk) J (sub cs (j*w) w)
theorem wH.set{J:Env}{w:Nat}{l:List SV}{cs xs:List Value}{k:Nat}{x:SV}(h:wH J w l cs)(hk:k<l.length)(hx:au x J xs)(hw:xs.length=w):wH J w (l.set k x) (splice cs (k*w) xs):=by
 have hkl:=bG (w:=w) hk;have h1:=h.1;refine⟨by rw[og (by omega),z1p];exact h.1,λj hj=> ?_⟩
 rw[z1p] at hj;have hjl:=bG (w:=w) hj;by_cases hjk:j=k
 ·subst hjk;rw[uQ (by omega) (by omega) (by omega)]
  have:splice (sub cs (j*w) w) (j*w - j*w) xs=xs:=by
   have hl:(sub cs (j*w) w).length=w:=fQ (by omega)
   simp only[z1j,splice,z1c,z0x,z0q];rw[z0b (by omega)];simp
  rw[this];simpa[z0c,hj] using hx
 ·rw[sV ?_ (by omega)]
  ·have:(l.set k x).getD j .junk=l.getD j .junk:=by simp only[z0l,z0e];rw[if_neg (λe=>hjk e.symm)]
   rw[this];exact h.2 j hj
  ·rcases z1g hjk with hlt|hgt
   ·have:=bG (w:=w) hlt;right;omega
   ·have:=bG (w:=w) hgt;left;omega
theorem U0{J:Env}{a:Act}{w:Nat}(hs:aH J σ a):∀ (parts:List (Nat×Operand)) (ys:List (Nat×aS)) (l:List SV) (cs:List Value),rJ parts=some ys->wH J w l cs->dS σ w l ys (λ_=>True)->
  ∃ cs',wH J w (lJ σ l ys) cs'/\Instr.fill (λi=>some (i*w,w)) cs.toArray (parts.map λx=>(x.1,a.eval x.2))=some cs'.toArray
 |[],ys,l,cs,hc,hl,h=>by
  simp only[rJ,z00] at hc;subst hc;exact⟨cs,hl,rfl⟩
 |(k,x)::r,ys,l,cs,hc,hl,h=>by
  simp only[rJ] at hc;split at hc<;>try (cases hc;done)
  rename_i y ys' h1 h2;simp only[z00] at hc;subst hc;simp only[dS] at h;obtain⟨⟨hk,hv,hw⟩,h⟩:=h;obtain⟨xs,hx1,hx2⟩:=ig (aB h1 hs) hv;have hlen:=au.length _ hx1;have hkl:=bG (w:=w) hk;have h3:=hl.1;obtain⟨cs',i1,i2⟩:=U0 hs r ys' _ _ h2 (hl.set hk hx1 (by omega)) h
  refine⟨cs',i1,?_⟩;have hcells:(a.eval x).cells=xs.toArray:=by rw[hx2];exact mW hx1
  simp only[z1f,Instr.fill,hcells];have hsz:xs.toArray.size=w:=by simp;omega
  rw[if_neg (by simp[hsz];omega)]
  have:=Ec (k*w) xs cs.toArray (by simp;omega)
  simp only at this;rw[this];exact i2
theorem ND{J:Env}{z:SV}{w n:Nat}{zc:List Value}(hz:au z J zc)(hw:zc.length=w):wH J w (z0d n z) ((z1b (n*w)).map (zc.toArray[· %zc.toArray.size]!)).toList:=by
 refine⟨by simp,λj hj=> ?_⟩
 simp only[z2d] at hj;have hjl:=bG (w:=w) hj;have hg:(z0d n z).getD j .junk=z:=by simp[z0c,hj]
 rw[hg];have:sub ((z1b (n*w)).map (zc.toArray[· %zc.toArray.size]!)).toList (j*w) w=zc:=by
  apply z0k;intro k;rw[iK];by_cases hk:k<w
  ·rw[if_pos hk];have h1:j*w+k<n*w:=by omega
   have h2:(j*w+k)%w=k:=by rw[z2a,Nat.mul_add_mod,Nat.mod_eq_of_lt hk]
   have h3:k<zc.length:=by omega
   simp[h1,hw,h2];rw[z1x h3];rfl
  ·rw[if_neg hk,z0s (by omega)]
 rw[this];exact hz
theorem Qw{T E:TypeId}{len w:Nat}{z:SV}{ag:Bool}{parts:Array (Nat×Operand)}{ys:List (Nat×aS)}(ho:o.op= .buildSlice T len parts)(hu:P.underlying T=some (.slice E))(hz:Py P E=some z)
  (ht:qm P E=some (w,ag)) (hwd:wd z=w) (hlen:len*w<=2^24) (h0:0<w) (hc:rJ parts.toList=some ys) (h2:dS σ w (z0d len z) ys (λ_=>True)) {J:Env} {a:Act} (wd':World) (hs:aH J σ a):
  ∃ cs',wH J w (lJ σ (z0d len z) ys) cs'/\(execOp a.eval o).run P wd'= .ok (.value (.slice (some ⟨wd'.heap.size,0,none⟩) len len)) (wd'.alloc (.cells cs'.toArray E)):=by
 obtain⟨i,v,e1,e2,e3⟩:=xG hz;have hzl:=au.length _ (e3 J);obtain⟨cs',g1,g2⟩:=U0 (w:=w) hs parts.toList ys _ _ hc (ND (n:=len) (e3 J) (by omega)) h2
 refine⟨cs',g1,?_⟩;have hpl:(parts.map λ(i,x)=>(i,a.eval x)).toList=parts.toList.map λx=>(x.1,a.eval x.2):=by simp
 simp only[execOp,ho,Instr.buildSlice,z01,run_underlying hu,Result.andThen_ok,run_sizeOf ht];rw[if_neg (by omega)]
 by_cases hz0:len*w=0
 ·have hl0:len=0:=by
   rcases Nat.mul_eq_zero.1 hz0 with h|h
   ·exact h
   ·omega
  subst hl0;simp only[Nat.zero_mul,if_true,z01,z08,Result.andThen_ok,hpl];have g2':=g2;rw[Nat.zero_mul] at g2';have r0:∀ f:Nat->Value,(z1b 0).map f= #[]:=λf=>by apply z0t;simp
  rw[r0] at g2';simp only[r0];have g3:Instr.fill (λi=>some (i*w,w)) #[] (parts.toList.map λx=>(x.1,a.eval x.2))=some cs'.toArray:=g2';simp[g3,newRow]
 rw[if_neg hz0];simp only[z01,zeroValue,typeInfo,run_program,Result.andThen_ok,e1,z08,e2,hpl];have:((z1b (len*w)).map (v.cells[· %v.cells.size]!))=((z1b (len*w)).map (v.cells.toList.toArray[· %v.cells.toList.toArray.size]!)).toList.toArray:=by apply z0t;simp
 rw[this,g2];simp[newRow]
theorem NG{T E:TypeId}{len w:Nat}{z:SV}{ag:Bool}{parts:Array (Nat×Operand)}{ys:List (Nat×aS)}{K:List SV->Prop}(ho:o.op= .buildSlice T len parts)(hu:P.underlying T=some (.slice E))(hz:Py P E=some z)
  (ht:qm P E=some (w,ag)) (hwd:wd z=w) (hlen:len*w<=2^24) (h0:0<w) (hc:rJ parts.toList=some ys) (h:dS σ w (z0d len z) ys K):
  ∃ l,K l/\fK P o σ m (.vec m.length len) (m++[.vec E w l]):=by
 obtain⟨h1,h2⟩:=ni _ _ h;refine⟨_,h1,λβ J a wd' hi hs Q=> ?_⟩;obtain⟨cs',g1,hr⟩:=Qw ho hu hz ht hwd hlen h0 hc h2 wd' hs;have hll:(lJ σ (z0d len z) ys).length=len:=by rw[Cc];simp
 have hg1:=g1.1;rw[hll] at hg1;have hlm:len<=maxLen:=by have:len<=len*w:=z1z _ h0;unfold maxLen;omega
 unfold z1d;rw[hr,z0n];refine⟨_,J.more 0 (.slice (some ⟨wd'.heap.size,0,none⟩) len len),rfl,?_,J.dJ _ _,hi.more (World.grownBy_alloc _ _ _) (z0a _) ?_ ?_⟩
 ·refine⟨[.slice (some ⟨wd'.heap.size,0,none⟩) len len],?_,rfl⟩;simp only[au];refine⟨by simp[Env.more,hi.good.n], .inr ⟨wd'.heap.size,len,?_⟩,?_⟩<;>simp[Env.more,hi.good.n]
 ·refine⟨cs',?_,λj hj=>(g1.2 j hj).mono _ (J.dJ _ _)⟩;have hvv:(J.more 0 (.slice (some ⟨wd'.heap.size,0,none⟩) len len)).vv m.length= .slice (some ⟨wd'.heap.size,0,none⟩) len len:=by simp[Env.more,hi.good.n]
  rw[hvv,hll];exact⟨hg1, .inr ⟨wd'.heap.size,len,cs'.toArray,rfl,z0v _,heap_alloc_new wd' _,z0a _,hlm,by simpa using hg1,by rw[z0o (by simp[hg1])]⟩⟩
 ·intro x hx;simp[aN,Env.more,hi.good.n,z1a] at hx;omega
theorem Inv.alV{β:Base}{J:Env}{m:List ay}{w:World}(h:Inv β J m w)(cs:List Value)(T:TypeId):
  Inv β {J with H:=λb=>if b=w.heap.size then some (.cells cs.toArray T (0,0)) else J.H b} m (w.alloc (.cells cs.toArray T))/\
  J.Le {J with H:=λb=>if b=w.heap.size then some (.cells cs.toArray T (0,0)) else J.H b}:=by
 have hw:∀ b,b<w.heap.size->(w.alloc (.cells cs.toArray T)).heap[b]? =w.heap[b]? :=λb hb=>Go.RowKit.Below.heap_alloc w _ b hb;have hH:∀ b o,J.H b=some o->(if b=w.heap.size then some (.cells cs.toArray T (0,0)) else J.H b)=some o:=by intro b o hb;rw[if_neg (by have:=yC h.good hb;omega)];exact hb
 have hle:J.Le {J with H:=λb=>if b=w.heap.size then some (.cells cs.toArray T (0,0)) else J.H b}:=⟨z0a _,λ_ _=>rfl,λ_ _=>rfl,hH⟩
 refine⟨⟨h.good.grow hle h.good.n (λ_ _=>rfl) (λ_ _=>rfl) hw (λb o hb=> ?_) (λi b hb=> ?_),⟨h.kept.os,h.kept.tape,h.kept.output,?_,?_,λb o hb=>hH b o (h.kept.H b o hb),λb o hb=> ?_,h.kept.drawn⟩,h.own,h.n,h.blk,h.vv⟩,hle⟩
 ·simp only at hb;by_cases e:b=w.heap.size
  ·rw[if_pos e] at hb;subst e;rw[heap_alloc_new w];exact hb
  ·rw[if_neg e] at hb;rw[hw b (yC h.good hb)];exact h.good.hv b o hb
 ·have:=dU h.good hb;simp only;rw[if_neg (by omega)];exact h.good.sep i b hb
 ·have:=h.kept.size;simp;omega
 ·intro b hb hB;rw[hw b (z04 hb h.kept.size)];exact h.kept.heap b hb hB
 ·simp only at hb;by_cases e:b=w.heap.size
  ·right;left;rw[e];exact h.kept.size
  ·rw[if_neg e] at hb;exact h.kept.fresh b o hb
def J6:Nat->List (Nat×aS)->Option (List Int)
 |_,[]=>some []
 |j,(i,x)::r=>match x with
  | .c (.int .i64 n)=>if i=j then(J6 (j+1) r).map (n:: ·) else none
  |_=>none
theorem NH:∀ (ys:List (Nat×aS)) (j:Nat) (l:List Int) (L:List SV),J6 j ys=some l->L.length=j+l.length->
  dS σ 1 L ys (λ_=>True)/\(lJ σ L ys).length=L.length/\(∀ k,k<j->(lJ σ L ys).getD k .junk=L.getD k .junk)/\∀ k,k<l.length->(lJ σ L ys).getD (j+k) .junk= .int .i64 (l.getD k 0)
 |[],j,l,L,h,hl=>by
  simp only[J6,z00] at h;subst h;exact⟨trivial,rfl,λ_ _=>rfl,λk hk=>absurd hk (z07 _)⟩
 |(i,x)::r,j,l,L,h,hl=>by
  simp only[J6] at h;split at h<;>try (cases h;done)
  rename_i n;split at h<;>try (cases h;done)
  rename_i hij;subst hij;simp only[z05] at h;obtain⟨l',h1,rfl⟩:=h;simp only[z1k] at hl;obtain⟨k1,k2,k3,k4⟩:=NH r (i+1) l' (L.set i (.int .i64 n)) h1 (by simp;omega)
  refine⟨⟨⟨by omega,rfl,rfl⟩,k1⟩,by rw[lJ,aS.ev,k2];simp,λk hk=> ?_,λk hk=> ?_⟩
  ·rw[lJ,aS.ev,k3 k (by omega),z0c,z0c,z0e,if_neg (by omega)]
  ·rw[lJ,aS.ev];cases k with
   |zero=>
    rw[z2c,k3 i (by omega),z0c,z0e,if_pos rfl,if_pos (by omega)]
    rfl
   |succ k=>
    have:=k4 k (by simpa using hk)
    rw[show i+(k+1)=i+1+k from by omega,this]
    rfl
theorem NI{T E:TypeId}{len:Nat}{z:SV}{ag:Bool}{parts:Array (Nat×Operand)}{ys:List (Nat×aS)}{l:List Int}(ho:o.op= .buildSlice T len parts)(hu:P.underlying T=some (.slice E))(hz:Py P E=some z)
  (ht:qm P E=some (1,ag)) (hwd:wd z=1) (hlen:len*1<=2^24) (hc:rJ parts.toList=some ys) (hl:J6 0 ys=some l) (hll:len=l.length):
  fK P o σ m (.lst 1 (0:Int) (SV.int .i64) l) m:=by
 obtain⟨h2,h3,_,h4⟩:=NH (σ:=σ) ys 0 l (z0d len z) hl (by simp[hll])
 intro β J a wd' hi hs Q;obtain⟨cs',g1,hr⟩:=Qw ho hu hz ht hwd hlen (by omega) hc h2 wd' hs
 rw[z2d] at h3;have hg1:=g1.1;rw[h3] at hg1;obtain⟨k1,k2⟩:=hi.alV cs' E;unfold z1d;rw[hr,z0n];refine⟨_,_,rfl,⟨[.slice (some ⟨wd'.heap.size,0,none⟩) len len],?_,rfl⟩,k2,k1⟩;simp only[au];refine⟨some ⟨wd'.heap.size,0,none⟩,len,by rw[hll],by omega,by unfold maxLen;omega,(λh=>by cases h),λi hi'=> ?_⟩
 refine⟨wd'.heap.size,0,E,(0,0),cs'.toArray,rfl,by simp[],by simp;omega,?_⟩
 have:=g1.2 i (by rw[h3];omega)
 have h5:=h4 i hi';rw[z0q] at h5;rw[h5] at this;simp only[au] at this ⊢;rw[z0q];exact this
theorem YQ{T E:TypeId}{len w:Nat}{z:SV}{ag:Bool}{parts:Array (Nat×Operand)}{ys:List (Nat×aS)}{K:SV->Prop}(ho:o.op= .buildSlice T len parts)(hu:P.underlying T=some (.slice E))(hz:Py P E=some z)
  (ht:qm P E=some (w,ag)) (hwd:wd z=w) (hlen:len*w<=2^24) (h0:0<w) (hc:rJ parts.toList=some ys) (h:dS σ w (z0d len z) ys λl=>D5 l/\K (YD w len l)):
  ∃ sv,K sv/\∀ m,fK P o σ m sv m:=by
 obtain⟨⟨hd,h1⟩,h2⟩:=ni _ _ h;refine⟨_,h1,λm β J a wd' hi hs Q=> ?_⟩;obtain⟨cs',g1,hr⟩:=Qw ho hu hz ht hwd hlen h0 hc h2 wd' hs;have hll:(lJ σ (z0d len z) ys).length=len:=by rw[Cc];simp
 have hg1:=g1.1;rw[hll] at hg1;have hlm:len<=maxLen:=by have:len<=len*w:=z1z _ h0;unfold maxLen;omega
 obtain⟨k1,k2⟩:=hi.alV cs' E;unfold z1d;rw[hr,z0n];refine⟨_,_,rfl,alU ⟨[.slice (some ⟨wd'.heap.size,0,none⟩) (z0h len).length (z0h len).length],?_,by simp[boxed,SV.isAgg]⟩,k2,k1⟩
 simp only[au];refine⟨some ⟨wd'.heap.size,0,none⟩,rfl,by simpa using hlm,(λh=>by cases h),λi hi'=> ?_⟩
 simp only[z1h] at hi';have hle:=bG (w:=w) hi';refine⟨wd'.heap.size,0,E,(0,0),cs'.toArray,rfl,by simp[],by simp;omega,?_⟩
 have hr2:(z0h len).getD i 0=i:=by simp[z0c,hi']
 rw[hr2,z0q];exact PK _ (Tt hd (by rw[hll];exact hi')) (g1.2 i (by rw[hll];exact hi'))
end
end Go.Sx
