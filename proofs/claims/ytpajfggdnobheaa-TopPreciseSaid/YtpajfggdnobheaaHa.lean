/- A part of TopPrecise's proof. -/
import Derived.Test.YtpajfggdnobheaaEa
import Derived.Test.YtpajfggdnobheaaGa
import Derived.Test.YtpajfggdnobheaaFa
import Derived.Test.YtpajfggdnobheaaDa
import Derived.Test.YtpajfggdnobheaaRows
import Derived.WalkKit
import Derived.Sort.LotD5
import Derived.Sort.Lot0
import Derived.Sort.LotA
import Derived.Sort.LotB
import Derived.Sort.LotC
import Derived.Sort.LotD1
import Derived.Lib.SlicesCompact
set_option linter.unusedVariables false
set_option linter.unusedSimpArgs false
open Int renaming natCast_nonneg->z00,ofNat_lt->z02,ofNat_le->z09,toNat_natCast->z0g,fdiv_eq_ediv_of_nonneg->z0y
open Go.IntKind renaming i64->z01,u64->z0f,wrap_u64->z1d,u8->z1o
open List renaming mem_append->z03,mem_cons->z05,not_mem_nil->z08,mem_singleton->z0a,mem_filter->z0i,mem_cons_self->z0m,append_nil->z0p,any_eq_false->z0s,eq_nil_iff_forall_not_mem->z0t,map_append->z0v,length_map->z0w,filter_nil->z0x,map_nil->z15,length_filter_le->z18,pairwise_append->z19,mem_cons_of_mem->z1a,filter_cons->z1f,any_eq_true->z1g,nil_append->z1j,nodup_nil->z1l
open Nat renaming le_of_lt->z04,le_refl->z07,not_lt_zero->z0j,lt_succ_self->z0l,mod_eq_of_lt->z0o,xor_lt_two_pow->z0r,shiftLeft_eq->z0u,le_trans->z16,one_mul->z1c,and_le_right->z1i,min_eq_left->z1k,mul_le_mul->z1m
open Bool renaming and_eq_true->z06,or_eq_true->z0c,not_eq_true'->z0d,eq_iff_iff->z0q,true_and->z14,or_eq_false_iff->z1b,false_eq_true->z1e
open Array renaming length_toList->z0b,size_setIfInBounds->z0n
open Go.IntWalk renaming i64_in->z0e,u64_in->z0k,u8_in->z1h
open Classical renaming byContradiction->z0h,not_forall->z0z
open Go Go.Sx Go.Proofs
set_option maxRecDepth 100000
section
section
set_option maxRecDepth 100000
open Go Go.Sx Go.Proofs
namespace Go.Proofs.Ytpajfggdnobheaa.Fa
variable {main:Bool} {Fz:Nat->Prop}
open D Tr C Fu Ah Ps Od St Rc
def epB(l:List Ev)(i j:Nat):Bool:=decide ((at' l i).aK=(at' l j).aK/\∀ k,k<j->i<=k->¬ ((at' l k).aK=(at' l i).aK/\y7 (at' l k)=true))
def epW(l:List Ev)(i:Int)(j:Nat):Bool:=decide (0<=i)&&epB l i.toNat j
def KZ(l:List Ev)(i:Int)(j:Nat):Bool:=decide (i<0)||gZ l i.toNat j
def gY(l:List Ev)(qU:List Nat)(j:Nat):Bool:=qU.any λi=> !gZ l i j
structure FS where
 wr:Int
 qU:List Nat
 mn:Bool
def jg(l:List Ev)(x:Nat)(j:Nat):Prop:=2< (at' l j).kind\/¬ (at' l j).obj=x
instance (l:List Ev)(x j:Nat):Decidable (jg l x j):=inferInstanceAs (Decidable (_\/_))
def zy(l:List Ev)(s:FS)(j:Nat):Prop:=s.mn=false/\s.qU.length=1/\epB l (s.qU.getD 0 0) j=true
instance (l:List Ev)(s:FS)(j:Nat):Decidable (zy l s j):=inferInstanceAs (Decidable (_/\_))
def stF(l:List Ev)(x:Nat)(s:FS)(j:Nat):FS:=if jg l x j then s else if (at' l j).kind=1 then
  if zy l s j then s else if s.mn=false/\gY l s.qU j=false then⟨s.wr,[j],false⟩ else⟨s.wr,s.qU.filter (λi=> !decide ((at' l i).aK=(at' l j).aK))++[j],true⟩
 else if epW l s.wr j=true then s else⟨j,if s.mn=true then[] else s.qU,false⟩
def YD(l:List Ev)(x:Nat)(s:FS)(j:Nat):Int:=if jg l x j then 0 else if (at' l j).kind=1 then
  if zy l s j then 0 else if KZ l s.wr j=true then 0 else 2
 else if epW l s.wr j=true then 0 else if KZ l s.wr j=false then 1 else if gY l s.qU j=true then 3 else 0
def slF(l:List Ev)(x:Nat)(s:FS)(j:Nat):Nat:=if jg l x j then 0 else if (at' l j).kind=1 then
  if zy l s j then 0 else if s.mn=false/\gY l s.qU j=true then 1 else 0
 else 0
def kX(l:List Ev)(x:Nat):Nat->FS
 |0=>⟨-1,[],false⟩
 |j+1=>stF l x (kX l x j) j
def slW(l:List Ev)(x:Nat):Nat->Nat
 |0=>0
 |j+1=>slW l x j+slF l x (kX l x j) j
end Go.Proofs.Ytpajfggdnobheaa.Fa
end
section
set_option maxRecDepth 100000
open Go Go.Sx Go.Proofs
namespace Go.Proofs.Ytpajfggdnobheaa.Fa
variable {main:Bool} {Fz:Nat->Prop}
open D Tr C Fu Ah Ps Od St Rc
end Go.Proofs.Ytpajfggdnobheaa.Fa
end
section
open Go Go.Sx Go.Proofs
namespace Go.Proofs.Ytpajfggdnobheaa.Fa
variable {main:Bool} {Fz:Nat->Prop}
open D Tr C Fu Ah Ps Od St Rc
theorem Oe{l:List Ev}{t i:Nat}:∀ {j:Nat},i<=j->(cs l t i=cs l t j↔∀ k,k<j->i<=k->¬ (y7 (at' l k)=true/\(at' l k).aK.toNat=t))
 |0,h=>by
  rw[Nat.le_zero.1 h];exact⟨λ_ k hk=>absurd hk (z0j _),λ_=>rfl⟩
 |j+1,h=>by
  by_cases e:i=j+1
  ·subst e;exact⟨λ_ k h1 h2=>by omega,λ_=>rfl⟩
  ·have ih:=Oe (l:=l) (t:=t) (j:=j) (show i<=j by omega)
   have hm:=Fq (l:=l) t (show i<=j by omega)
   rw[cs];by_cases hq:y7 (at' l j)=true/\(at' l j).aK.toNat=t
   ·rw[if_pos hq];exact⟨λhh=>by omega,λhh=>absurd hq (hh j (z0l _) (by omega))⟩
   ·rw[if_neg hq,Nat.add_zero,ih];refine⟨λhh k h1 h2=> ?_,λhh k h1 h2=>hh k (by omega) h2⟩
    by_cases ek:k=j
    ·subst ek;exact hq
    ·exact hh k (by omega) h2
def ep(l:List Ev)(i:Nat):Pr:=⟨(at' l i).aK,1+(cs l (at' l i).aK.toNat i:Int)⟩
section
variable {l:List Ev} (hok:(bH l).2=0)
include hok
theorem same_iff{i j:Nat}(hi:i<j)(hj:j<l.length):((ep l i).a=(ep l j).a/\(ep l i).b=(ep l j).b)↔epB l i j=true:=by
 have bi:=bnd hok (show i<l.length by omega)
 rw[epB,decide_eq_true_eq];refine and_congr_right λha=> ?_;have ha:(at' l i).aK=(at' l j).aK:=ha;have h:=Oe (l:=l) (t:=(at' l i).aK.toNat) (z04 hi);show(1+(cs l (at' l i).aK.toNat i:Int)=1+(cs l (at' l j).aK.toNat j:Int))↔_;rw[<- ha];constructor
 ·intro hh k h1 h2 h3;exact h.1 (by omega) k h1 h2 ⟨h3.2,by rw[h3.1]⟩
 ·intro hh;have:=h.2 λk h1 h2 h3=>hh k h1 h2 ⟨by have:=(bnd hok (show k<l.length by omega)).1;omega,h3.1⟩
  omega
variable {j:Nat} (hj:j<l.length) (ha:(at' l j).kind=1\/(at' l j).kind=2)
include hj
theorem anS:epN ((runK l j).aK (at' l j).aK.toNat) (at' l j).aK=ep l j:=by
 have b:=bnd hok hj;rw[epN,(Eu hok (z04 hj)).own _ (by omega)]
 rfl
theorem Dx:iT ⟨0,0⟩ ((runK l j).aK (at' l j).aK.toNat)=true:=by
 have b:=bnd hok hj;have:=((Eu hok (z04 hj)).l1 (at' l j).aK.toNat 0 (by omega) (by omega)).1
 simp[iT,H6,this]
include ha
theorem xK{i:Nat}(hi:i<j):iT (ep l i) ((runK l j).aK (at' l j).aK.toNat)=true↔tN l i j:=by
 have bi:=bnd hok (show i<l.length by omega)
 have h:=YE hok hj (Eu hok (z04 hj)) (u:=(at' l i).aK.toNat) (by omega) hi rfl
 have e:qV (runK l j) (at' l j)=(runK l j).aK (at' l j).aK.toNat:=by rw[qV,if_neg (by omega),if_neg (by omega),if_neg (by omega)]
 rw[e] at h;rw[<- h,iT,(tZ (ep l i).a).2 ⟨bi.1,bi.2.1⟩,z14,decide_eq_true_eq];exact Iff.rfl
theorem Og{i:Nat}(hi:i<j):iT (ep l i) ((runK l j).aK (at' l j).aK.toNat)=gZ l i j:=by rw[z0q,xK hok hj ha hi,ji (z04 hj)]
end
structure CR(l:List Ev)(j:Nat)(s:Cl)(r:FS):Prop where
 w:(r.wr<0/\s.wr=⟨0,0⟩)\/∃ i:Nat,i<j/\r.wr=i/\s.wr=ep l i
 r:(r.mn=false/\r.qU=[]/\s.rd= .inl ⟨0,0⟩)\/(∃ i:Nat,i<j/\r.mn=false/\r.qU=[i]/\s.rd= .inl (ep l i))\/
  (r.mn=true/\∃ d,s.rd= .inr d/\(∀ i∈r.qU,i<j)/\∀ u,u<6->(d u=0/\∀ i∈r.qU,(at' l i).aK.toNat≠u)\/∃ i∈r.qU,(at' l i).aK.toNat=u/\d u=1+cs l u i/\∀ i'∈r.qU,(at' l i').aK.toNat=u->i'=i)
theorem CR.next{l:List Ev}{j:Nat}{s:Cl}{r:FS}(h:CR l j s r):CR l (j+1) s r:=by
 refine⟨?_,?_⟩
 ·rcases h.w with h|⟨i,h1,h2⟩
  ·exact .inl h
  ·exact .inr ⟨i,by omega,h2⟩
 ·rcases h.r with h|⟨i,h1,h2⟩|⟨h1,d,h2,h3,h4⟩
  ·exact .inl h
  ·exact .inr (.inl ⟨i,by omega,h2⟩)
  ·exact .inr (.inr ⟨h1,d,h2,λi hi=>Nat.lt_succ_of_lt (h3 i hi),h4⟩)
section
variable {l:List Ev} (hok:(bH l).2=0) {j:Nat} (hj:j<l.length) (ha:(at' l j).kind=1\/(at' l j).kind=2) {s:Cl} {r:FS} (h:CR l j s r)
include hok hj h
theorem ajR:(s.wr.a=(ep l j).a/\s.wr.b=(ep l j).b)↔epW l r.wr j=true:=by
 rcases h.w with⟨h1,h2⟩|⟨i,h1,h2,h3⟩
 ·rw[h2];constructor
  ·rintro⟨_,hh⟩;have hh:(0:Int)=1+(cs l (at' l j).aK.toNat j:Int):=hh;omega
  ·intro hh;rw[epW,z06,decide_eq_true_eq] at hh;omega
 ·rw[h3,h2,epW,z0g,decide_eq_true (by omega),z14]
  exact same_iff hok h1 hj
include ha
theorem afg:iT s.wr ((runK l j).aK (at' l j).aK.toNat)=KZ l r.wr j:=by
 rcases h.w with⟨h1,h2⟩|⟨i,h1,h2,h3⟩
 ·rw[h2,Dx hok hj,KZ,decide_eq_true h1];rfl
 ·rw[h3,Og hok hj ha h1,h2,KZ,z0g,decide_eq_false (by omega),Bool.false_or]
theorem afh:V7 s.rd ((runK l j).aK (at' l j).aK.toNat)= !gY l r.qU j:=by
 rcases h.r with⟨_,h1,h2⟩|⟨i,h1,_,h2,h3⟩|⟨_,d,h2,h3,h4⟩
 ·rw[h2,h1];show iT ⟨0,0⟩ _=_;rw[Dx hok hj];rfl
 ·rw[h3,h2];show iT (ep l i) _=_;rw[Og hok hj ha h1];simp[gY]
 ·rw[h2];have b:=bnd hok hj;have hF:=Eu hok (z04 hj);show jK d _=_;rw[z0q];have hW:jK d ((runK l j).aK (at' l j).aK.toNat)=true↔∀ u,u<6->d u<=(runK l j).aK (at' l j).aK.toNat u:=by simp only[jK,List.all_eq_true,List.mem_range,decide_eq_true_eq];refine forall_congr' λu=>imp_congr_right λhu=> ?_;rw[jB hu];split<;>omega
  have hL:(!gY l r.qU j)=true↔∀ i∈r.qU,tN l i j:=by simp only[gY,z0d,z0s];refine forall_congr' λi=>imp_congr_right λhi=> ?_;rw[<- ji (z04 hj)];simp
  rw[hW,hL];have key:∀ i,i<j->((1+cs l (at' l i).aK.toNat i:Int)<=(runK l j).aK (at' l j).aK.toNat (at' l i).aK.toNat↔tN l i j):=λi hi=>by
   have bi:=bnd hok (show i<l.length by omega)
   rw[<- xK hok hj ha hi,iT,(tZ (ep l i).a).2 ⟨bi.1,bi.2.1⟩,z14,decide_eq_true_eq];exact Iff.rfl
  constructor
  ·intro hh i hi;have bi:=bnd hok (show i<l.length by have:=h3 i hi;omega)
   rcases h4 (at' l i).aK.toNat (by omega) with⟨_,h5⟩|⟨i',hi',h5,h6,h7⟩
   ·exact absurd rfl (h5 i hi)
   ·have e:=h7 i hi rfl;subst e;have:=hh (at' l i).aK.toNat (by omega)
    rw[h6] at this;exact(key i (h3 i hi)).1 this
  ·intro hh u hu;rcases h4 u hu with⟨h5,_⟩|⟨i,hi,h5,h6,_⟩
   ·rw[h5];exact(hF.l1 _ u (by omega) hu).1
   ·rw[h6];subst h5;exact(key i (h3 i hi)).2 (hh i hi)
theorem step{x:Nat}(hsk:¬ jg l x j):CR l (j+1) (wz s (at' l j) ((runK l j).aK (at' l j).aK.toNat)) (stF l x r j)/\H9 s (at' l j) ((runK l j).aK (at' l j).aK.toNat)=YD l x r j/\
  (wz s (at' l j) ((runK l j).aK (at' l j).aK.toNat)).slow=s.slow+slF l x r j:=by
 have hkn:=afg hok hj ha h;have hrk:=afh hok hj ha h;have hws:=ajR hok hj h;have hz:=Dx hok hj;have hsj:= @Og l hok j hj ha;have hen:=anS hok hj;have b:=bnd hok hj;generalize hc:(runK l j).aK (at' l j).aK.toNat=c at*;unfold wz H9;rw[hen,stF,YD,slF,if_neg hsk,if_neg hsk,if_neg hsk];by_cases k1:(at' l j).kind=1
 ·rw[if_pos k1,if_pos k1,if_pos k1,if_pos k1,if_pos k1];have hK:(if iT s.wr c=true then(0:Int) else 2)=if KZ l r.wr j=true then 0 else 2:=by rw[hkn]
  rcases h.r with⟨h1,h2,h3⟩|⟨i,h1,h2,h3,h4⟩|⟨h1,d,h2,h3,h4⟩
  ·have hs:¬ zy l r j:=λhh=>by have:=hh.2.1;rw[h2] at this;cases this
   have hl:gY l r.qU j=false:=by rw[h2];rfl
   have hne:¬ ((0:Int)=(ep l j).a/\(0:Int)=(ep l j).b):=by rintro⟨_,hh⟩;have hh:(0:Int)=1+(cs l (at' l j).aK.toNat j:Int):=hh;omega
   rw[if_neg hs,if_neg hs,if_neg hs,if_pos (show r.mn=false/\gY l r.qU j=false from⟨h1,hl⟩),if_neg (show ¬ (r.mn=false/\gY l r.qU j=true) from λhh=>by rw[hl] at hh;exact absurd hh.2 (by decide))]
   unfold rdS rdK;rw[h3];simp only;rw[if_neg hne,if_neg hne,if_pos hz];refine⟨⟨?_, .inr (.inl ⟨j,z0l _,rfl,rfl,rfl⟩)⟩,hK,by simp⟩
   exact h.next.w
  ·have hl:gY l r.qU j= !gZ l i j:=by rw[h3];simp[gY]
   have hq:=same_iff hok h1 hj;by_cases he:epB l i j=true
   ·have hs:zy l r j:=⟨h2,by rw[h3];rfl,by rw[h3];exact he⟩
    rw[if_pos hs,if_pos hs,if_pos hs];unfold rdS rdK;rw[h4];simp only;rw[if_pos (hq.2 he),if_pos (hq.2 he)];exact⟨h.next,rfl,by simp⟩
   ·have hs:¬ zy l r j:=λhh=>by have:=hh.2.2;rw[h3] at this;exact he this
    have hne:¬ ((ep l i).a=(ep l j).a/\(ep l i).b=(ep l j).b):=λhh=>he (hq.1 hh);have hsi:=hsj h1;rw[if_neg hs,if_neg hs,if_neg hs];unfold rdS rdK;rw[h4];simp only;rw[if_neg hne,if_neg hne,hsi];cases hah:gZ l i j with
    |true=>
     rw[hah] at hl;rw[if_pos (rfl:true=true),if_pos (show r.mn=false/\gY l r.qU j=false from⟨h2,hl⟩),if_neg (show ¬ (r.mn=false/\gY l r.qU j=true) from λhh=>by rw[hl] at hh;exact absurd hh.2 (by decide))]
     exact⟨⟨h.next.w, .inr (.inl ⟨j,z0l _,rfl,rfl,rfl⟩)⟩,hK,by simp⟩
    |false=>
     rw[hah] at hl;have hl:gY l r.qU j=true:=hl;rw[if_neg (show ¬ (false=true) by decide),if_neg (show ¬ (r.mn=false/\gY l r.qU j=false) from λhh=>by rw[hl] at hh;exact absurd hh.2 (by decide)),if_pos (show r.mn=false/\gY l r.qU j=true from⟨h2,hl⟩)]
     have bi:=bnd hok (show i<l.length by omega)
     have hth:(at' l i).aK≠(at' l j).aK:=by
      intro hh;have:tN l i j:=Bz hok h1 hj (.inl (.inl (by rw[hh])))
      rw[<- ji (z04 hj),hah] at this;cases this
     have hf:r.qU.filter (λi=> !decide ((at' l i).aK=(at' l j).aK))++[j]=[i,j]:=by rw[h3,List.filter_cons_of_pos (by simp[hth])];rfl
     rw[hf];refine⟨⟨h.next.w, .inr (.inr ⟨rfl,_,rfl,?_,?_⟩)⟩,hK,by simp⟩
     ·intro i' hi';simp only[z05,z08,or_false] at hi';rcases hi' with rfl|rfl<;>omega
     ·intro u hu;show((if u=(at' l j).aK.toNat then 1+(cs l (at' l j).aK.toNat j:Int) else if u=(at' l i).aK.toNat then 1+(cs l (at' l i).aK.toNat i:Int) else 0)=0/\_)\/_
      by_cases e1:u=(at' l j).aK.toNat
      ·refine .inr ⟨j,by simp,e1.symm,?_,λi' hi' hu'=> ?_⟩
       ·show(if u=(at' l j).aK.toNat then 1+(cs l (at' l j).aK.toNat j:Int) else _)=_
        rw[if_pos e1,e1]
       ·simp only[z05,z08,or_false] at hi';rcases hi' with rfl|rfl
        ·exact absurd (show(at' l i').aK=(at' l j).aK by omega) hth
        ·rfl
      ·by_cases e2:u=(at' l i).aK.toNat
       ·refine .inr ⟨i,by simp,e2.symm,?_,λi' hi' hu'=> ?_⟩
        ·show(if u=(at' l j).aK.toNat then 1+(cs l (at' l j).aK.toNat j:Int) else if u=(at' l i).aK.toNat then 1+(cs l (at' l i).aK.toNat i:Int) else 0)=_
         rw[if_neg e1,if_pos e2,e2]
        ·simp only[z05,z08,or_false] at hi';rcases hi' with rfl|rfl
         ·rfl
         ·exact absurd hu'.symm e1
       ·refine .inl ⟨by rw[if_neg e1,if_neg e2],λi' hi'=> ?_⟩
        simp only[z05,z08,or_false] at hi';rcases hi' with rfl|rfl
        ·exact λhh=>e2 hh.symm
        ·exact λhh=>e1 hh.symm
  ·have hs:¬ zy l r j:=λhh=>by have:=hh.1;rw[h1] at this;cases this
   rw[if_neg hs,if_neg hs,if_neg hs,if_neg (show ¬ (r.mn=false/\gY l r.qU j=false) from λhh=>by rw[h1] at hh;exact absurd hh.1 (by decide)),if_neg (show ¬ (r.mn=false/\gY l r.qU j=true) from λhh=>by rw[h1] at hh;exact absurd hh.1 (by decide))]
   unfold rdS rdK;rw[h2];simp only;refine⟨⟨h.next.w, .inr (.inr ⟨rfl,_,rfl,?_,?_⟩)⟩,hK,by simp⟩
   ·intro i hi;simp only[z03,z0i,z05,z08,or_false] at hi;rcases hi with hi|hi
    ·have:=h3 i hi.1;omega
    ·omega
   ·intro u hu;show((if u=(at' l j).aK.toNat then 1+(cs l (at' l j).aK.toNat j:Int) else d u)=0/\_)\/_
    by_cases e1:u=(at' l j).aK.toNat
    ·refine .inr ⟨j,by simp,e1.symm,?_,λi' hi' hu'=> ?_⟩
     ·show(if u=(at' l j).aK.toNat then 1+(cs l (at' l j).aK.toNat j:Int) else _)=_
      rw[if_pos e1,e1]
     ·simp only[z03,z0i,z05,z08,or_false] at hi';rcases hi' with hi'|hi'
      ·have:=h3 i' hi'.1;have bi:=bnd hok (show i'<l.length by omega)
       have h5:=hi'.2;simp only[z0d,decide_eq_false_iff_not] at h5;exact absurd (show(at' l i').aK=(at' l j).aK by omega) h5
      ·exact hi'
    ·rcases h4 u hu with⟨h5,h6⟩|⟨i,hi,h5,h6,h7⟩
     ·refine .inl ⟨by rw[if_neg e1];exact h5,λi' hi'=> ?_⟩
      simp only[z03,z0i,z05,z08,or_false] at hi';rcases hi' with hi'|hi'
      ·exact h6 i' hi'.1
      ·subst hi';exact λhh=>e1 hh.symm
     ·refine .inr ⟨i,?_,h5,?_,λi' hi' hu'=> ?_⟩
      ·simp only[z03,z0i,z05,z08,or_false];refine .inl ⟨hi,?_⟩;simp only[z0d,decide_eq_false_iff_not];intro hh;exact e1 (by rw[<- h5,hh])
      ·show(if u=(at' l j).aK.toNat then 1+(cs l (at' l j).aK.toNat j:Int) else d u)=_
       rw[if_neg e1];exact h6
      ·simp only[z03,z0i,z05,z08,or_false] at hi';rcases hi' with hi'|hi'
       ·exact h7 i' hi'.1 hu'
       ·subst hi';exact absurd hu'.symm e1
 ·rw[if_neg k1,if_neg k1,if_neg k1,if_neg k1,if_neg k1];unfold wrS wrK;by_cases he:epW l r.wr j=true
  ·rw[if_pos he,if_pos he,if_pos (hws.2 he),if_pos (hws.2 he)];exact⟨h.next,rfl,by simp⟩
  ·have hne:¬ (s.wr.a=(ep l j).a/\s.wr.b=(ep l j).b):=λhh=>he (hws.1 hh);rw[if_neg he,if_neg he,if_neg hne,if_neg hne,hkn,hrk];refine⟨⟨.inr ⟨j,z0l _,rfl,rfl⟩,?_⟩,?_,by simp⟩
   ·rcases h.r with⟨h1,h2,h3⟩|⟨i,h1,h2,h3,h4⟩|⟨h1,d,h2,h3,h4⟩
    ·exact .inl ⟨rfl,by rw[h1,h2];rfl,by rw[h3]⟩
    ·exact .inr (.inl ⟨i,by omega,rfl,by rw[h2,h3];rfl,by rw[h4]⟩)
    ·exact .inl ⟨rfl,by rw[h1];rfl,by rw[h2]⟩
   ·cases KZ l r.wr j<;>cases gY l r.qU j<;>rfl
end
section
variable {l:List Ev} (hok:(bH l).2=0)
include hok
theorem mg{x j:Nat}(hj:j<l.length):¬ jg l x j↔cO (at' l j)=true/\x=(at' l j).obj.toNat:=by have hk:=vG hok hj;have b:=bnd hok hj;simp only[jg,cO,z0c,decide_eq_true_eq];omega
theorem alo:∀ {j:Nat},j<=l.length->∀ x,CR l j (eX l j x) (kX l x j)/\(eX l j x).slow=slW l x j
 |0,_,x=>⟨⟨.inl ⟨by show(-1:Int)<0;decide,rfl⟩, .inl ⟨rfl,rfl,rfl⟩⟩,rfl⟩
 |j+1,hj,x=>by
  obtain⟨h1,h2⟩:=alo (j:=j) (by omega) x
  have hr:eX l (j+1) x=if cO (at' l j)=true then(if x=(at' l j).obj.toNat then wz (eX l j x) (at' l j) ((runK l j).aK (at' l j).aK.toNat) else eX l j x) else eX l j x:=rfl
  have hf:kX l x (j+1)=stF l x (kX l x j) j:=rfl;have hs:slW l x (j+1)=slW l x j+slF l x (kX l x j) j:=rfl;have hi:=mg hok (x:=x) (show j<l.length by omega)
  by_cases hsk:jg l x j
  ·have hrx:eX l (j+1) x=eX l j x:=by
    rw[hr];by_cases ha:cO (at' l j)=true
    ·rw[if_pos ha,if_neg (λhx=>hi.2 ⟨ha,hx⟩ hsk)]
    ·rw[if_neg ha]
   rw[hrx,hf,hs,stF,slF,if_pos hsk,if_pos hsk];exact⟨h1.next,by rw[h2];simp⟩
  ·obtain⟨ha,hx⟩:=hi.1 hsk;have ha':=ha;simp only[cO,z0c,decide_eq_true_eq] at ha';rw[hr,if_pos ha,if_pos hx,hf,hs];obtain⟨g1,g2,g3⟩:=step hok (by omega) ha' h1 hsk
   exact⟨g1,by rw[g3,h2];simp⟩
theorem YF{j:Nat}(hj:j<l.length)(ha:cO (at' l j)=true):jm l j=YD l (at' l j).obj.toNat (kX l (at' l j).obj.toNat j) j:=by
 have hsk:=(mg hok hj).2 ⟨ha,rfl⟩;have ha':=ha;simp only[cO,z0c,decide_eq_true_eq] at ha';rw[<- (step hok hj ha' (alo hok (z04 hj) _).1 hsk).2.1];show(if cO (at' l j)=true then H9 (eX l j (at' l j).obj.toNat) (at' l j) ((runK l j).aK (at' l j).aK.toNat) else 0)=_
 rw[if_pos ha]
end
end Go.Proofs.Ytpajfggdnobheaa.Fa
end
section
set_option maxRecDepth 100000
open Go Go.Sx Go.Proofs
namespace Go.Proofs.Ytpajfggdnobheaa.Fa
variable {main:Bool} {Fz:Nat->Prop}
open D Tr C Fu
def fC(l:List Ev):List Fl:=if (aN l).2.2=0 then dD l l.length else[]
def YG(l:List Ev):Int:=if (aN l).2.2=0 then sV (eX l l.length) 8 else 0
theorem anT(l:List Ev):bC Try.prog main Fz 38 [fD.aA l] [] (.cu [.vec 0 (fC l).length, .int .i64 (YG l), .int .i64 (aN l).2.2]) [.vec 32 3 ((fC l).map dW.aA)]:=by
 by_cases he:(aN l).2.2=0
 ·rw[fC,YG,if_pos he,if_pos he,he];exact aes l (by rw[<- iy];exact he)
 ·rw[fC,YG,if_neg he,if_neg he];refine aG c38 w38 NV rfl ?_;unfold j38;simp only[go_sem,seval,jG,he]
def j15:JC:=(qN (oQ 2<|o8 3 0<|.nil) (qN (o7 8 0<|oL 9 38 8<|o7 7 9<|oM 10 0 7<|oM 11 1 7<|qL [7,10,11]<|oM 12 2 7<|o7 4 10<|o7 5 11<|o7 6 12<|.nil) (qM [4,6] (qN (o7 13 4<|o7 14 6<|o7 2 13<|o7 3 14<|.nil) .ret))))
def Gft(f:FuncId)(a:List SV)(m:List ay):Sx.Call:=(FH.mk 38 (.one fD) (λ_=>True) (λy=> .cu [.vec 0 (fC y.1).length, .int .i64 (YG y.1), .int .i64 (aN y.1).2.2]) (λy=>[.vec 32 3 ((fC y.1).map dW.aA)]) FH.none) f a m
theorem anU:type_of% (nq Gft.eq_1):=nq Gft.eq_1
theorem anV:bQ Try.prog main Fz Gft:=FH.ku (λy _=>jh (qc ⟨kD _ _,kE _ _,kE _ _,trivial⟩) ⟨jO _ _ dW _,trivial⟩) (λy _=>anT y.1) FH.au
theorem afi(l:List Ev):bC Try.prog main Fz 15 [fD.aA l] [] (.cu [.vec 0 (fC l).length, .int .i64 (aN l).2.2]) [.vec 32 3 ((fC l).map dW.aA)]:=by refine wkA j15 [.tmp 2, .tmp 3] 15 anV rfl ?_;unfold j15;simp only[go_sem,seval,anU]
end Go.Proofs.Ytpajfggdnobheaa.Fa
end
end
section
set_option maxRecDepth 100000
open Go Go.Sx Go.Conc Go.Proofs
namespace Go.Proofs.Ytpajfggdnobheaa.Sp
variable {main:Bool} {Fz:Nat->Prop}
open D Tr C Fu Fa
section
variable {Φ:Gl} {End:List Nat->Goroutine->OW->Prop}
def KE(e:Int)(s0:MS)(y1 y2:SV)(m':List ay)(s':MS):Prop:=y1= .dO/\y2= .int .i64 e/\m'=[]/\s'=s0
def KG(l:List Ev)(y1 y2:SV)(m':List ay)(s':MS):Prop:=y1= .vec 0 (dD l l.length).length/\y2= .int .i64 0/\m'=[.vec rH.TP 3 ((dD l l.length).map dW.aA)]/\∃ cs got,s'=⟨[],cs,got⟩
theorem aaX{n:Nat}(hn0:1<=n)(hn:n<=8){l:List Ev}(hok:¬ (bH l).2=0){J:Env}{x:OW}{s:MS}(hg:fP Fz J [] x){vs:List Value}(ha:bT [.int .i64 n,fD.aA l] J vs):
  sS Try.prog true Fz (dL Try.prog Fz Φ End) 6 vs.toArray s x (λv s' x'=> ∃ J' y1 y2 m',KE (bH l).2 s y1 y2 m' s'/\fP Fz J' m' x'/\(∀ b o,J.H b=some o->J'.H b=some o)/\bK J' (.cu [y1,y2]) v):=by
 refine GX c6 hg ha (by simp) (λy1 y2 m' s' h=>by obtain⟨rfl,rfl,_⟩:=h;exact⟨rfl,rfl⟩) (λa hT=> ?_) (by decide)
 have c1:¬ (n:Int)<1:=by omega
 have c2:¬ (8:Int)<n:=by omega
 have he:(aN l).2.2=(bH l).2:=iy;unfold j6;refine aX (bM hT FH.au (by rfl) [0,1] [.int .i64 n,fD.aA l] [] ?_ λJ1 a1 x1 h1 _=> ?_)
 ·unfold am0;simp only[go_sem,seval,yY]
 refine aX (bM h1 FH.au (by rfl) [0,1] [.int .i64 n,fD.aA l] [] ?_ λJ2 a2 x2 h2 _=> ?_)
 ·unfold am1;simp only[go_sem,seval,c1,c2]
 refine aX (Nv h2 VN (by rfl) [4,5] [.dO, .int .i64 (bH l).2] [] ?_ λε3 a3 x3 h3 _=>⟨rfl,ε3,_,_,_,⟨rfl,rfl,rfl,rfl⟩,h3⟩)
 unfold am2;simp only[go_sem,seval,VO,he,hok]
theorem aaY{n:Nat}(hn0:1<=n)(hn:n<=8){l:List Ev}(hok:(bH l).2=0){J:Env}{x:OW}(hg:fP Fz J [] x){vs:List Value}(ha:bT [.int .i64 n,fD.aA l] J vs):
  sS Try.prog true Fz (dL Try.prog Fz (AQ n l) End) 6 vs.toArray ⟨QI n l,[],[]⟩ x (λv s' x'=> ∃ J' y1 y2 m',KG l y1 y2 m' s'/\fP Fz J' m' x'/\(∀ b o,J.H b=some o->J'.H b=some o)/\bK J' (.cu [y1,y2]) v):=by
 refine GX c6 hg ha (by simp) (λy1 y2 m' s' h=>by obtain⟨rfl,rfl,_⟩:=h;exact⟨rfl,rfl⟩) (λa hT=> ?_) (by decide)
 refine(ad4 hn0 hn hok hT).mono λe a' s' x' h=> ?_;obtain⟨rfl,cs,got,J',rfl,_,h⟩:=h;exact⟨rfl,J',_,_,_,⟨rfl,rfl,rfl,cs,got,rfl⟩,h⟩
end
end Go.Proofs.Ytpajfggdnobheaa.Sp
end
namespace Go.Sx
open Go Go.Conc Go.RowKit
def TY(w:World):Os×Tape×Array (Nat×ByteArray):=(w.os,w.tape,w.output)
theorem Rel.io{O F:Nat->Prop}{w w1:World}(h:Rel O F w w1):TY w1=TY w:=by unfold TY;rw[h.os,h.tape,h.output]
theorem Gua.io{O F:Nat->Prop}{w w1:World}{es:Array Event}(h:Gua O F w w1 es):TY w1=TY w:=by unfold TY;rw[h.os,h.tape,h.output]
section
variable {P:Program} {main:Bool} {F:Nat->Prop} {S S':Goroutine->OW->Prop}
theorem Co.mono(hs:∀ g' x',S g' x'->S' g' x'){g:Goroutine}{x:OW}(h:Co P main F S g x):Co P main F S' g x:=by
 induction h with
 |stop h=>exact .stop λw1 hr=>hs _ _ (h w1 hr)
 |step nx wx ex hs1 h1 h2 ih=>exact .step nx wx ex hs1 h1 ih
theorem Co.io(PK:Os×Tape×Array (Nat×ByteArray))(hs:∀ g' x',TY x'.w=PK->S g' x'->S' g' x'){g:Goroutine}{x:OW}(h:Co P main F S g x)(mQ:TY x.w=PK):Co P main F S' g x:=by
 induction h with
 |stop h=>exact .stop λw1 hr=>hs _ _ (hr.io.trans mQ) (h w1 hr)
 |step nx wx ex hs1 h1 h2 ih=>exact .step nx wx ex hs1 h1 λw1 hr=>ih w1 hr (((h1 w1 hr).2.io.trans hr.io).trans mQ)
variable {Φ:Gl} {End:List Nat->Goroutine->OW->Prop}
theorem aQ.mono{End':List Nat->Goroutine->OW->Prop}(he:∀ got g x,End got g x->End' got g x):∀ (acts:List fB) (cs got:List Nat) (g:Goroutine) (x:OW),aQ P F Φ End acts cs got g x->aQ P F Φ End' acts cs got g x
 |[],cs,got,g,x,h=>he got g x h
 | .mk cap::r,cs,got,g,x,h=>by
  obtain⟨h1,g',h2,h3⟩:=h;exact⟨h1,g',h2,h3.mono λg x hs=>aQ.mono he r _ _ g x hs⟩
 | .go j::r,cs,got,g,x,h=>by
  obtain⟨h1,g',child,h2,h3,h4,h5,h6⟩:=h;exact⟨h1,g',child,h2,h3,h4,h5,h6.mono λg x hs=>aQ.mono he r _ _ g x hs⟩
 | .send j v::r,cs,got,g,x,h=>by
  obtain⟨c,h1,h2,z,sh,h3,h4⟩:=h;exact⟨c,h1,h2,z,sh,h3,h4.mono λg x hs=>aQ.mono he r _ _ g x hs⟩
 | .close j::r,cs,got,g,x,h=>by
  obtain⟨c,h1,h2,h3,g',h4,h5,h6⟩:=h;exact⟨c,h1,h2,h3,g',h4,h5,h6.mono λg x hs=>aQ.mono he r _ _ g x hs⟩
 | .recv::r,cs,got,g,x,h=>by obtain⟨c,h1,h2,z,sh,h3,h4,h5⟩:=h;exact⟨c,h1,h2,z,sh,h3,λv ok j B w' a b c d e=>(h4 v ok j B w' a b c d e).mono λg x hs=>aQ.mono he r _ _ g x hs,λok=>by cases ok⟩
theorem aQ.io(PK:Os×Tape×Array (Nat×ByteArray)):∀ (acts:List fB) (cs got:List Nat) (g:Goroutine) (x:OW),TY x.w=PK->aQ P F Φ End acts cs got g x->aQ P F Φ (λgot g x=>End got g x/\TY x.w=PK) acts cs got g x
 |[],cs,got,g,x,mQ,h=>⟨h,mQ⟩
 | .mk cap::r,cs,got,g,x,mQ,h=>by
  obtain⟨h1,g',h2,h3⟩:=h;exact⟨h1,g',h2,h3.io PK (λg x hi hs=>aQ.io PK r _ _ g x hi hs) mQ⟩
 | .go j::r,cs,got,g,x,mQ,h=>by
  obtain⟨h1,g',child,h2,h3,h4,h5,h6⟩:=h;exact⟨h1,g',child,h2,h3,h4,h5,h6.io PK (λg x hi hs=>aQ.io PK r _ _ g x hi hs) mQ⟩
 | .send j v::r,cs,got,g,x,mQ,h=>by
  obtain⟨c,h1,h2,z,sh,h3,h4⟩:=h;exact⟨c,h1,h2,z,sh,h3,h4.io PK (λg x hi hs=>aQ.io PK r _ _ g x hi hs) mQ⟩
 | .close j::r,cs,got,g,x,mQ,h=>by
  obtain⟨c,h1,h2,h3,g',h4,h5,h6⟩:=h;exact⟨c,h1,h2,h3,g',h4,h5,h6.io PK (λg x hi hs=>aQ.io PK r _ _ g x hi hs) mQ⟩
 | .recv::r,cs,got,g,x,mQ,h=>by obtain⟨c,h1,h2,z,sh,h3,h4,h5⟩:=h;exact⟨c,h1,h2,z,sh,h3,λv ok j B w' a b c d e=>(h4 v ok j B w' a b c d e).io PK (λg x hi hs=>aQ.io PK r _ _ g x hi hs) (d.io.trans mQ),λok=>by cases ok⟩
end
section
variable {P:Program} {F:Nat->Prop} {Φ:Gl} {cap:Nat} {End:List Nat->Goroutine->OW->Prop} {acts:List fB}
theorem XZ{f:Func}{fr:Frame}{v:Value}{w:World}(hm:fr.mode= .returning)(hd:fr.defers=[])(hn:fr.kind= .normal)(hf:P.funcs[fr.fn]? =some f)(hi:P.inits.idxOf? fr.fn=none)(hr:(results f fr.tmps).run P w= .ok v w):
  Go.stepG P true (G fr []) w= .ended (.done v) w (seen P fr.fn ((results f fr.tmps).events P w #[])):=by
 simp[G,Go.stepG,unwind,doReturn,hm,hn,hd,hf,hi,hr,GStep.after]
theorem FM.init{g:Goroutine}{w:World}(hF:∀ b,F b↔b<w.heap.size)(hs:g.status= .running)(hwf:WF Φ cap 0 0 0 acts)(h:Co P true F (aQ P F Φ End acts [] []) g ⟨w,λ_=>False⟩):
  FM P F Φ cap End ⟨acts,[],[],[],λ_ _=>False,[⟨true,aQ P F Φ End acts [] [],g,⟨w,λ_=>False⟩⟩]⟩ #[g] w #[]:=by
 have hn0:∀ (i:Nat) (n:Node),[(⟨true,aQ P F Φ End acts [] [],g,⟨w,λ_=>False⟩⟩:Node)][i]? =some n->i=0/\n=⟨true,aQ P F Φ End acts [] [],g,⟨w,λ_=>False⟩⟩:=λi n h=>by
  cases i with
  |zero=>exact⟨rfl,(Option.some.inj h).symm⟩
  |succ i=>simp at h
 refine⟨⟨⟨λb hb=>(hF b).1 hb,λb hb=>by simp at hb,λi b hb=>hb.elim,λi j b hb=>hb.elim⟩,⟨?_,?_,λk a hk=> ?_⟩,λop hop=>by simp at hop,rfl,λi b hb=>hb.elim,λi n hn=> ?_⟩,z1l,hwf,rfl,λc hc=>by simp at hc,λc hc=>by simp at hc,λn g' hn hg=> ?_,λj n g' hn=> ?_,⟨z1l,λj=>by simp⟩,λc n g' hc=>by simp at hc⟩
 ·intro op hop;simp at hop
 ·rintro said ⟨i,j,_,⟨a,b,h1,_⟩,_⟩;simp[Trace.act?] at h1
 ·simp[touchAt,Trace.act?] at hk
 ·obtain⟨rfl,rfl⟩:=hn0 i n hn;exact⟨rfl,rfl,Rel.refl _ _ _,h⟩
 ·obtain⟨_,rfl⟩:=hn0 0 n hn;obtain rfl:g=g':=by simpa using hg
  exact⟨rfl, .inl (Runs.self hs)⟩
 ·obtain⟨h0,_⟩:=hn0 _ n hn;omega
end
theorem Jf{P:Program}{main:Bool}{F:Nat->Prop}{ι:Type _}{S:J9 ι}{quiet tf:FuncId->Bool}{J:Env}{m:List ay}{x:OW}{s:ι}{f:FuncId}{tc:TC}{t1 nt:Nat}{nr:Bool}(hc:tIs P quiet tf f=some (tc.flat,[.tmp t1],nt,nr)){args:List SV}{vs:List Value}(hg:fP F J m x)(ha:bT args J vs)(hl:args.length<=nt)
  {K:SV->ι->Prop}
  (h:∀ a,TS F nt [] J.H (λ_=>none) J (yY 0 args) m a x->TW P main F S quiet tf f tc (λe a' s' x'=>e= .ret/\∃ J' y1 m',K y1 s'/\TS F nt [] J.H (λ_=>none) J' (ig [t1] [y1] .nil) m' a' x') a s x):
  sS P main F S f vs.toArray s x (λv s' x'=> ∃ J' y1 m',K y1 s'/\fP F J' m' x'/\(∀ b o,J.H b=some o->J'.H b=some o)/\bK J' y1 v):=by
 obtain⟨func,body,hf,hb,hcc,hrs,hnt,hname,_,_⟩:=NW hc;have hlen:args.length=vs.length:=by
  clear h hl hc
  induction args generalizing vs with
  |nil=>simp only[bT] at ha;subst ha;rfl
  |cons y r ih=>simp only[bT] at ha;obtain⟨cs,t,rfl,_,h2⟩:=ha;simp[ih h2]
 refine Ld hf hb ?_;have hT:TS F nt [] J.H (λ_=>none) J (yY 0 args) m {tmps:=vs.toArray++Array.replicate (func.ntmps - vs.toArray.size) undef,defers:=[]} x:=by
  refine⟨hg,⟨_,BA args nt hl,?_⟩,rfl,λb o hb=>(by cases hb),λ_ _ h=>h⟩
  have:=mG ha (nt - args.length);rw[hnt,show vs.toArray.size=args.length by simp[hlen]]
  exact this
 refine(h _ hT body hcc).mono λe a' s' x' hh=> ?_;obtain⟨rfl,J',y1,m',hK,hT'⟩:=hh;refine⟨hT'.d,a'.tmps.getD t1 undef,⟨J',y1,m',hK,hT'.g,hT'.h,?_⟩,λw1 hw=> ?_⟩
 ·have e1:=hT'.s.sat t1;have l1:look t1 (ig [t1] [y1] .nil)=y1:=by simp[ig,look]
  rw[l1] at e1;exact e1
 ·have hm:([ResultVar.tmp t1].mapM (resV a'.tmps)).run P w1= .ok [a'.tmps.getD t1 undef] w1:=rfl;refine⟨mO hrs hm,λe he=> ?_⟩;rw[rE hrs hm] at he;simp[List.mapM_cons,resV] at he
theorem Yw{P:Program}{Φ:Gl}{cap:Nat}{acts:List fB}{f:FuncId}{args:Array Value}{W:World}(hi:P.inits.idxOf? f=none)(hwf:WF Φ cap 0 0 0 acts)
  (h:∀ End,sS P true (λb=>b<W.heap.size) (dL P (λb=>b<W.heap.size) Φ End) f args ⟨acts,[],[]⟩ ⟨W,λ_=>False⟩ (λv s' x'=>s'.acts=[]/\v= .bool true/\(∀ b,b<W.heap.size->x'.w.heap[b]? =W.heap[b]?)/\W.heap.size<=x'.w.heap.size)):
  ∃ N last o w' t',runNT P (N+1) (solo (G (Frame.enter P f args .normal) []) W) #[]=(.ended o w',t')/\runN P N (solo (G (Frame.enter P f args .normal) []) W)= .next last/\
   Go.step P last= .ended o w'/\Go.Conc.Good P (λv w'=>v= .bool true/\Below W.heap.size W w') last o w' t':=by
 let F:Nat->Prop:=λb=>b<W.heap.size
 let aqM:Value->World->Prop:=λv w'=>v= .bool true/\(∀ b,b<W.heap.size->w'.heap[b]? =W.heap[b]?)/\W.heap.size<=w'.heap.size
 let aht:List Nat->Goroutine->OW->Prop:=xC P F aqM
 have hco:Co P true F (aQ P F Φ aht acts [] []) (G (Frame.enter P f args .normal) []) ⟨W,λ_=>False⟩:=by
  refine h aht [] λv s' x' fr hR hfn hm hd hn ⟨func,hf,hres⟩=> .stop λw1 hr=> ?_;obtain⟨Qu,rfl,hheap,hsz⟩:=hR;show aQ P F Φ aht s'.acts s'.cs s'.got _ _;rw[Qu];refine⟨rfl, .bool true,seen P fr.fn ((results func fr.tmps).events P w1 #[]),XZ hm hd hn (hfn▸hf) (hfn▸hi) (hres w1 hr).1,λe he=> ?_,rfl,λb hb=> ?_,z16 hsz hr.size⟩
  ·rw[seen_def] at he;rcases seen_fold_sub _ _ _ _ _ he with h1|h1
   ·simp at h1
   ·exact(hres w1 hr).2 e (by simpa using h1)
  ·rw[hr.heap b (.inr hb)];exact hheap b hb
 have ate:Co P true F (aQ P F Φ (λgot g x=>aht got g x/\TY x.w=TY W) acts [] []) (G (Frame.enter P f args .normal) []) ⟨W,λ_=>False⟩:=
  hco.io (TY W) (λg x mQ hs=>aQ.io (TY W) acts [] [] g x mQ hs) rfl
 have atf:Co P true F (aQ P F Φ (xC P F λv w'=>v= .bool true/\Below W.heap.size W w') acts [] []) (G (Frame.enter P f args .normal) []) ⟨W,λ_=>False⟩:=by
  have e:∀ got g x,aht got g x/\TY x.w=TY W->xC P F (λv w'=>v= .bool true/\Below W.heap.size W w') got g x:=by rintro got g x ⟨⟨h1,v,es,h2,h3,rfl,h5,h6⟩,mQ⟩;refine⟨h1,_,es,h2,h3,rfl,?_⟩;unfold TY at mQ;simp only[Prod.mk.injEq] at mQ;exact⟨mQ.1,mQ.2.1,mQ.2.2,h6,h5⟩
  exact ate.mono λg x hs=>aQ.mono e acts [] [] g x hs
 exact(FM.init (λb=>Iff.rfl) rfl hwf atf).ends none
end Go.Sx
section
open Go Go.Sx Go.Conc Go.Proofs
namespace Go.Proofs.Ytpajfggdnobheaa.Sp
variable {main:Bool} {Fz:Nat->Prop}
open D Tr C Fu Fa
variable {n:Nat} {l:List Ev}
theorem yT(j:Nat):∀ a b:List fB,sK j (a++b)=sK j a++sK j b
 |[],b=>rfl
 |x::a,b=>by have ih:=yT j a b;cases x<;>simp only[List.cons_append,sK,ih];split<;>simp
theorem agh(len j:Nat):∀ k i,sK j (goA len k i)=[]
 |0,_=>rfl
 |k+1,i=>by simp only[goA,sK];exact agh len j k (i+1)
theorem JB(j:Nat):∀ k i,sK j (vY k i)=[]
 |0,_=>rfl
 |k+1,i=>by simp only[vY,sK];exact JB j k (i+1)
theorem JD(j:Nat):∀ k,sK j (xZ k)=[]
 |0=>rfl
 |k+1=>by simp only[xZ,List.replicate_succ,sK];exact JD j k
theorem Tq(n j:Nat):∀ k i,i+k=l.length->(Az n j (allM l i)).map mV++sK j (uF n l k i)=(Az n j (allM l l.length)).map mV
 |0,i,h=>by
  obtain rfl:i=l.length:=by omega
  simp[uF,sK]
 |k+1,i,h=>by
  rw[<- Tq n j k (i+1) (by omega),uF,yT,allM,MN,z0v,List.append_assoc]
  congr 1
  congr 1
  split
  ·by_cases hj:(l.getD i bP.bg).obj.toNat%n=j
   ·simp only[sK,Az,lW,z1f,z0x,hj,decide_true,if_true,List.map_cons,z15]
   ·simp only[sK,Az,lW,z1f,z0x,hj,decide_false,z1e,if_false,z15]
  ·rfl
theorem BZ{j:Nat}:∀ k i,fB.close j∈vY k i↔i<=j/\j<i+k
 |0,i=>by simp[vY]
 |k+1,i=>by
  rw[vY,z05,BZ k (i+1)];constructor
  ·rintro(h|h)
   ·injection h with h;omega
   ·omega
  ·intro h;by_cases e:j=i
   ·exact .inl (by rw[e])
   ·exact .inr (by omega)
theorem Tt(j k:Nat):fB.close j∉xZ k:=λh=>by have:=List.eq_of_mem_replicate h;cases this
variable {cap:Nat}
theorem Y6:∀ (k r:Nat),r+k=n->WF (AQ n l) cap (n+1) n r (xZ k)
 |0,r,h=>⟨rfl,by show r=n;omega⟩
 |k+1,r,h=>⟨⟨rfl,by show r<n;omega,λj=>Tt j k⟩,Y6 k (r+1) (by omega)⟩
theorem Y7:∀ (k j:Nat),j+k=n->WF (AQ n l) cap (n+1) n 0 (vY k j++xZ n)
 |0,j,h=>Y6 n 0 (by omega)
 |k+1,j,h=>⟨⟨by omega,λhm=>by
   rcases z03.1 hm with hm|hm
   ·have:=(BZ k (j+1)).1 hm;omega
   ·exact Tt j n hm,(yT j _ _).trans (by rw[JB,JD];rfl)⟩,Y7 k (j+1) (by omega)⟩
theorem O4(hn:0<n):∀ (k i:Nat),WF (AQ n l) cap (n+1) n 0 (uF n l k i++(vY n 0++xZ n))
 |0,i=>Y7 n 0 (by omega)
 |k+1,i=>by
  rw[uF];split
  ·refine⟨⟨Nat.mod_lt _ hn,?_⟩,O4 hn k (i+1)⟩;refine z03.2 (.inr (z03.2 (.inl ((BZ n 0).2 ⟨Nat.zero_le _,?_⟩))));have:=Nat.mod_lt (l.getD i bP.bg).obj.toNat hn;omega
  ·exact O4 hn k (i+1)
theorem alL(hn:0<n):∀ (k j:Nat),j+k=n->WF (AQ n l) l.length (j+1) j 0 (goA l.length k j++SQ n l)
 |0,j,h=>by
  obtain rfl:j=n:=by omega
  exact O4 hn _ _
 |k+1,j,h=>by
  refine⟨.inr ⟨rfl,rfl⟩,⟨rfl,rfl,by show j<n;omega,?_,?_,?_⟩,alL hn k (j+1) (by omega)⟩
  ·exact z03.2 (.inr (z03.2 (.inr (z03.2 (.inl ((BZ n 0).2 ⟨Nat.zero_le _,by omega⟩))))))
  ·refine(yT j _ _).trans ?_;rw[agh,SQ,yT,yT,JB,JD];have:=Tq (l:=l) n j l.length 0 (by omega)
   simp only[allM,Az,z0x,z15,z1j] at this;simp only[z1j,z0p];exact this
  ·show((Az n j (allM l l.length)).map mV).length<=_;rw[z0w];exact z16 (z18 ..) (Gh _)
theorem anB(hn:0<n):WF (AQ n l) l.length 0 0 0 (QI n l):=⟨.inl ⟨rfl,rfl⟩,alL hn n 0 (by omega)⟩
def anC:Gl:=⟨0,λ_=>[],λ_ _ _ _=>True⟩
theorem ajC:WF anC 0 0 0 0 []:=⟨rfl,rfl⟩
end Go.Proofs.Ytpajfggdnobheaa.Sp
end
namespace Go.Sx
open Go
def JH(m:List ay)(x y:SV):Prop:= ∀ (J:Env) (w:World),Good J m w->∀ v,bK J x v->bK (Sx.jZ J m w).cl y v
def ag6(m:List ay):List SV->List SV->Prop
 |x::xs,y::ys=>JH m x y/\ag6 m xs ys
 |[],[]=>True
 |_,_=>False
theorem Zi{m:List ay}:JH m .junk .junk:=λ_ _ _ _ _=>trivial
theorem alX{α:Type}(d:DT α){m:List ay}{x:SV}(hP:d.decP m x)(hv:x.isVal=true):JH m x (d.aA (d.aI m x)):=λJ w hg v hs=>by obtain⟨cs,h1,h2⟩:=fF hs hv;rw[h2,<- d.agg hP];exact gJ (d.ok hg hP h1)
theorem DC{α:Type}(d:DT α){m:List ay}(y:α):JH m (d.aA y) (d.aA y):=by
 have:=alX d (m:=m) (d.pE m y) (d.val y)
 rwa [d.vE] at this
theorem xR{m:List ay}(n:Int):JH m (.int .i64 n) (.int .i64 n):=DC DT.int n
theorem Oy{α:Type}(d:DT α){T:TypeId}{w i n:Nat}{m:List ay}{L:List α}(hm:ak m i= .vec T w (L.map d.aA))(hn:n=L.length):JH m (.vec i n) ((DT.list w d).aA L):=by
 have hP:(DT.list w d).decP m (.vec i n):=by rw[sJ,hm];exact⟨rfl,λy hy=>by obtain⟨z,_,rfl⟩:=List.mem_map.1 hy;exact d.pE _ z⟩
 have hv:(DT.list w d).aI m (.vec i n)=L:=by rw[sH,hm];exact Ws d m L
 have:=alX (DT.list w d) hP rfl
 rwa [hv] at this
theorem Zj{m:List ay}:∀ (ks:List Nat) (xs ys:List SV),ag6 m xs ys->∀ k,JH m (look k (ig ks xs .nil)) (look k (ig ks ys .nil))
 |[],xs,ys,_,k=>by
  cases xs<;>cases ys<;>exact Zi
 |j::ks,[],[],_,k=>Zi
 |j::ks,x::xs,y::ys,h,k=>by
  have ih:=Zj ks xs ys h.2 k;simp only[ig,look];split
  ·exact h.1
  ·exact ih
 |_::_,[],_::_,h,_=>h.elim
 |_::_,_::_,[],h,_=>h.elim
theorem Zk{n:Nat}:∀ (ks:List Nat) (ys:List SV),ks.all (λk=>decide (k<n))=true->∀ k,n<=k->look k (ig ks ys .nil)= .junk
 |[],ys,_,k,_=>by cases ys<;>rfl
 |j::ks,[],_,k,_=>rfl
 |j::ks,y::ys,h,k,hk=>by
  simp only[List.all_cons,z06,decide_eq_true_eq] at h;simp only[ig,look];rw[if_neg (by omega)]
  exact Zk ks ys h.2 k hk
section
variable {F:Nat->Prop} {n:Nat} {d:List Deferred} {H0:Nat->Option Obj} {J:Env} {m:List ay} {a:Act} {x:OW}
theorem TS.aqd{ks:List Nat}{xs:List SV}(h:TS F n d H0 (λ_=>none) J (ig ks xs .nil) m a x)(hks:ks.all (λk=>decide (k<n))=true){ys:List SV}(hy:ag6 m xs ys):TS F n d H0 (λ_=>none) (Sx.jZ J m x.w).cl (ig ks ys .nil) [] a x:=
 h.jZ (Zk ks ys hks) λk _=>Zj ks xs ys hy k J x.w h.g.good _ (h.s.sat k)
end
end Go.Sx
namespace Go.Proofs.Ytpajfggdnobheaa.Fa
variable {main:Bool} {Fz:Nat->Prop}
open D Tr C Fu Ah Ps Od St Rc
theorem OU{e:Ev}:cO e=true↔e.kind=1\/e.kind=2:=by simp[cO]
section
variable {l:List Ev} (hok:(bH l).2=0)
include hok
theorem OV{i j:Nat}(hij:i<j)(hj:j<l.length)(h:(at' l i).aK=(at' l j).aK):tN l i j:=
 Bz hok hij hj (.inl (.inl (by rw[h])))
theorem agc{i w j:Nat}(hiw:i<w)(hwj:w<j)(hj:j<l.length)(he:epB l i j=true)(hw:cO (at' l w)=true)(hn:(at' l w).aK≠(at' l i).aK):¬ tN l i w:=by
 intro ha;have hw:=OU.1 hw;have hwl:w<l.length:=by omega
 have bi:=bnd hok (show i<l.length by omega)
 have bw:=bnd hok hwl;obtain⟨e1,e2⟩:=of_decide_eq_true he;have hs:=(xK hok hwl hw hiw).2 ha;have hs:1+(cs l (at' l i).aK.toNat i:Int)<=(runK l w).aK (at' l w).aK.toNat (at' l i).aK.toNat:=by simp only[iT,z06,decide_eq_true_eq] at hs;exact hs.2
 have hF:=Eu hok (z04 hwl);have hd:ng (l.take w) 6 ((at' l i).aK.toNat:Nat)=false:=by
  have:=(xM hok hj).2.2.1;rw[<- e1] at this;have ht:(((at' l i).aK.toNat:Nat):Int)=(at' l i).aK:=by omega
  rw[ht];simp only[ng,z0s] at this ⊢;intro x hx;refine this x ?_;have:l.take w=(l.take j).take w:=by rw[List.take_take,z1k (by omega)]
  rw[this] at hx;exact List.mem_of_mem_take hx
 have h1:=hF.s1 (at' l w).aK.toNat (at' l i).aK.toNat (by omega) (by omega) (by omega) hd
 have h2:=(Oe (l:=l) (t:=(at' l i).aK.toNat) (z04 hiw)).2 λk k1 k2 k3=>e2 k (by omega) k2 ⟨by have:=(bnd hok (show k<l.length by omega)).1;omega,k3.1⟩
 omega
theorem Y3{i j k:Nat}(hij:i<j)(hjk:j<k)(hk:k<l.length)(ha:cO (at' l k)=true)(he:epB l i j=true):tN l i k↔tN l j k:=by
 have hs:=(same_iff hok hij (show j<l.length by omega)).2 he
 have e:ep l i=ep l j:=by generalize ep l i=a at hs;generalize ep l j=b at hs;obtain⟨a1,a2⟩:=a;obtain⟨b1,b2⟩:=b;simp only at hs;rw[hs.1,hs.2]
 rw[<- xK hok hk (OU.1 ha) (show i<k by omega),<- xK hok hk (OU.1 ha) hjk,e]
omit hok in
theorem zV{x j:Nat}:¬ jg l x j↔(at' l j).kind<=2/\(at' l j).obj=x:=by simp only[jg];omega
theorem Jh{x j:Nat}(hj:j<l.length)(h:¬ jg l x j):cO (at' l j)=true:=((mg hok hj).1 h).1
theorem held{x:Nat}:∀ {j:Nat},j<=l.length->(∀ i:Nat,(kX l x j).wr=i->i<j/\¬ jg l x i/\(at' l i).kind=2)/\∀ i∈(kX l x j).qU,i<j/\¬ jg l x i/\(at' l i).kind=1
 |0,_=>⟨λi h=>by have h:(-1:Int)=i:=h;omega,λi h=>by cases h⟩
 |j+1,hj=>by
  obtain⟨h1,h2⟩:=held (x:=x) (show j<=l.length by omega)
  have h1':∀ i:Nat,(kX l x j).wr=i->i<j+1/\¬ jg l x i/\(at' l i).kind=2:=λi hi=>⟨by have:=(h1 i hi).1;omega,(h1 i hi).2⟩
  have h2':∀ i∈(kX l x j).qU,i<j+1/\¬ jg l x i/\(at' l i).kind=1:=λi hi=>⟨by have:=(h2 i hi).1;omega,(h2 i hi).2⟩
  have hk:=vG hok (show j<l.length by omega)
  rw[kX,stF];split
  ·exact⟨h1',h2'⟩
  ·rename_i hsk;split
   ·rename_i k1;split
    ·exact⟨h1',h2'⟩
    ·split
     ·refine⟨h1',λi hi=> ?_⟩;have hi:i∈[j]:=hi;simp only[z05,z08,or_false] at hi;subst hi;exact⟨by omega,hsk,k1⟩
     ·refine⟨h1',λi hi=> ?_⟩;have hi:i∈(kX l x j).qU.filter (λi=> !decide ((at' l i).aK=(at' l j).aK))++[j]:=hi;simp only[z03,z0i,z05,z08,or_false] at hi;rcases hi with hi|hi
      ·exact h2' i hi.1
      ·subst hi;exact⟨by omega,hsk,k1⟩
   ·rename_i k1;split
    ·exact⟨h1',h2'⟩
    ·refine⟨λi hi=> ?_,λi hi=> ?_⟩
     ·have hi:(j:Int)=i:=hi;have hi:j=i:=by omega
      subst hi;exact⟨by omega,hsk,by have:=(zV (x:=x)).1 hsk;have:=hk.1;omega⟩
     ·have hi:i∈(if (kX l x j).mn=true then[] else(kX l x j).qU):=hi
      split at hi
      ·cases hi
      ·exact h2' i hi
omit hok in
theorem yw{qU:List Nat}{k:Nat}(hk:k<l.length):gY l qU k=false↔∀ r∈qU,tN l r k:=by simp only[gY,z0s,z0d,Bool.not_eq_false];exact forall_congr' λr=>imp_congr_right λ_=>ji (z04 hk)
omit hok in
theorem OX{w:Int}{k:Nat}(hk:k<l.length):KZ l w k=true↔∀ i:Nat,w=i->tN l i k:=by
 rw[KZ,z0c,decide_eq_true_eq,ji (z04 hk)];constructor
 ·rintro(h|h) i rfl
  ·omega
  ·exact h
 ·intro h;by_cases hw:w<0
  ·exact .inl hw
  ·exact .inr (h w.toNat (by omega))
def Rx(l:List Ev)(x i j:Nat):Prop:=i<j/\¬ jg l x i/\¬ jg l x j/\¬ ((at' l i).kind=1/\(at' l j).kind=1)/\¬ tN l i j
theorem abm{x j:Nat}(hj:j<l.length)(h:YD l x (kX l x j) j≠0):∃ i,Rx l x i j:=by
 obtain⟨h1,h2⟩:=held hok (x:=x) (z04 hj);have wr:KZ l (kX l x j).wr j=false->¬ jg l x j->∃ i,Rx l x i j:=λhk hs=>by
  have:¬∀ i:Nat,(kX l x j).wr=i->tN l i j:=λhh=>by rw[(OX hj).2 hh] at hk;cases hk
  simp only[z0z] at this;obtain⟨i,hi,hn⟩:=this;obtain⟨g1,g2,g3⟩:=h1 i hi;exact⟨i,g1,g2,hs,λhh=>by omega,hn⟩
 rw[YD] at h;split at h
 ·exact absurd rfl h
 ·rename_i hs;split at h
  ·split at h
   ·exact absurd rfl h
   ·split at h
    ·exact absurd rfl h
    ·rename_i hk;exact wr (by simpa using hk) hs
  ·rename_i k1;split at h
   ·exact absurd rfl h
   ·split at h
    ·rename_i hk;exact wr hk hs
    ·split at h
     ·rename_i hl;have:¬∀ r∈(kX l x j).qU,tN l r j:=λhh=>by rw[(yw hj).2 hh] at hl;cases hl
      simp only[z0z] at this;obtain⟨i,hi,hn⟩:=this;obtain⟨g1,g2,g3⟩:=h2 i hi;exact⟨i,g1,g2,hs,λhh=>k1 hh.2,hn⟩
     ·exact absurd rfl h
structure Kn(l:List Ev)(x j:Nat):Prop where
 w:∀ i,i<j->¬ jg l x i->(at' l i).kind=2->∀ k,j<=k->k<l.length->cO (at' l k)=true->KZ l (kX l x j).wr k=true->tN l i k
 r:∀ i,i<j->¬ jg l x i->(at' l i).kind=1->∀ k,j<=k->k<l.length->cO (at' l k)=true->KZ l (kX l x j).wr k=true->gY l (kX l x j).qU k=false->tN l i k
theorem Kn.next{x j:Nat}(hj:j<l.length)(h:Kn l x j)(hf:YD l x (kX l x j) j=0):Kn l x (j+1):=by
 obtain⟨h1,h2⟩:=held hok (x:=x) (z04 hj);by_cases hs:jg l x j
 ·have e:kX l x (j+1)=kX l x j:=by rw[kX,stF,if_pos hs]
  refine⟨λi hi hi1 hi2 k hk hkl ha hn=> ?_,λi hi hi1 hi2 k hk hkl ha hn hl=> ?_⟩
  ·rw[e] at hn;have:i≠j:=λee=>by subst ee;exact hi1 hs
   exact h.w i (by omega) hi1 hi2 k (by omega) hkl ha hn
  ·rw[e] at hn hl;have:i≠j:=λee=>by subst ee;exact hi1 hs
   exact h.r i (by omega) hi1 hi2 k (by omega) hkl ha hn hl
 have haj:=Jh hok hj hs;have hst:kX l x (j+1)=stF l x (kX l x j) j:=rfl;rw[stF,if_neg hs] at hst;rw[YD,if_neg hs] at hf;by_cases k1:(at' l j).kind=1
 ·rw[if_pos k1] at hst hf;by_cases hsm:zy l (kX l x j) j
  ·rw[if_pos hsm] at hst;obtain⟨m1,m2,m3⟩:=hsm;generalize hR:(kX l x j).qU=R at*
   match R,m2 with
   |[r],_=>
   have m3:epB l r j=true:=m3;refine⟨λi hi hi1 hi2 k hk hkl ha hn=> ?_,λi hi hi1 hi2 k hk hkl ha hn hl=> ?_⟩
   ·rw[hst] at hn;have:i≠j:=λee=>by subst ee;omega
    exact h.w i (by omega) hi1 hi2 k (by omega) hkl ha hn
   ·rw[hst] at hn hl;by_cases e:i=j
    ·subst e;rw[hR] at hl;exact(Y3 hok (h2 r (by simp)).1 (by omega) hkl ha m3).1 ((yw hkl).1 hl r (by simp))
    ·exact h.r i (by omega) hi1 hi2 k (by omega) hkl ha hn hl
  ·rw[if_neg hsm] at hst hf;have hkj:KZ l (kX l x j).wr j=true:=by
    by_cases hh:KZ l (kX l x j).wr j=true
    ·exact hh
    ·rw[if_neg hh] at hf;cases hf
   by_cases hm:(kX l x j).mn=false/\gY l (kX l x j).qU j=false
   ·rw[if_pos hm] at hst;refine⟨λi hi hi1 hi2 k hk hkl ha hn=> ?_,λi hi hi1 hi2 k hk hkl ha hn hl=> ?_⟩
    ·rw[hst] at hn;have:i≠j:=λee=>by subst ee;omega
     exact h.w i (by omega) hi1 hi2 k (by omega) hkl ha hn
    ·rw[hst] at hl;have hjk:tN l j k:=(yw hkl).1 hl j (by simp)
     by_cases e:i=j
     ·subst e;exact hjk
     ·exact Am.trans (h.r i (by omega) hi1 hi2 j (z07 _) hj haj hkj hm.2) hjk
   ·rw[if_neg hm] at hst;refine⟨λi hi hi1 hi2 k hk hkl ha hn=> ?_,λi hi hi1 hi2 k hk hkl ha hn hl=> ?_⟩
    ·rw[hst] at hn;have:i≠j:=λee=>by subst ee;omega
     exact h.w i (by omega) hi1 hi2 k (by omega) hkl ha hn
    ·rw[hst] at hn hl;have hl:=(yw hkl).1 hl;have hjk:tN l j k:=hl j (by simp)
     by_cases e:i=j
     ·subst e;exact hjk
     ·refine h.r i (by omega) hi1 hi2 k (by omega) hkl ha hn ((yw hkl).2 λr hr=> ?_)
      by_cases ht:(at' l r).aK=(at' l j).aK
      ·exact Am.trans (OV hok (h2 r hr).1 hj ht) hjk
      ·exact hl r (by simp[hr,ht])
 ·rw[if_neg k1] at hst hf;by_cases he:epW l (kX l x j).wr j=true
  ·rw[if_pos he] at hst;have he':=he;rw[epW,z06,decide_eq_true_eq] at he';obtain⟨e1,e2⟩:=he';obtain⟨w,hw⟩:∃ w:Nat,(kX l x j).wr=w:=⟨(kX l x j).wr.toNat,by omega⟩
   rw[hw,z0g] at e2;refine⟨λi hi hi1 hi2 k hk hkl ha hn=> ?_,λi hi hi1 hi2 k hk hkl ha hn hl=> ?_⟩
   ·rw[hst] at hn;by_cases e:i=j
    ·subst e;exact(Y3 hok (h1 w hw).1 (by omega) hkl ha e2).1 ((OX hkl).1 hn w hw)
    ·exact h.w i (by omega) hi1 hi2 k (by omega) hkl ha hn
   ·rw[hst] at hn hl;have:i≠j:=λee=>by subst ee;omega
    exact h.r i (by omega) hi1 hi2 k (by omega) hkl ha hn hl
  ·rw[if_neg he] at hst hf;have hkj:KZ l (kX l x j).wr j=true:=by
    cases hh:KZ l (kX l x j).wr j with
    |true=>rfl
    |false=>rw[if_pos hh] at hf;cases hf
   rw[if_neg (by rw[hkj];decide)] at hf
   have hlj:gY l (kX l x j).qU j=false:=by
    cases hh:gY l (kX l x j).qU j with
    |false=>rfl
    |true=>rw[if_pos hh] at hf;cases hf
   refine⟨λi hi hi1 hi2 k hk hkl ha hn=> ?_,λi hi hi1 hi2 k hk hkl ha hn hl=> ?_⟩
   ·rw[hst] at hn;have hjk:tN l j k:=(OX hkl).1 hn j rfl;by_cases e:i=j
    ·subst e;exact hjk
    ·exact Am.trans (h.w i (by omega) hi1 hi2 j (z07 _) hj haj hkj) hjk
   ·rw[hst] at hn;have hjk:tN l j k:=(OX hkl).1 hn j rfl;have:i≠j:=λee=>by subst ee;exact k1 hi2
    exact Am.trans (h.r i (by omega) hi1 hi2 j (z07 _) hj haj hkj hlj) hjk
theorem abB{x j':Nat}(hj:j'<l.length)(hK:Kn l x j')(hN:∀ j,j<j'->∀ i,¬ Rx l x i j)(hfj:YD l x (kX l x j') j'=0)(i:Nat):¬ Rx l x i j':=by
 intro hr;obtain⟨r1,r2,r3,r4,r5⟩:=hr;apply r5;obtain⟨h1,h2⟩:=held hok (x:=x) (z04 hj);have haj:=Jh hok hj r3;have kj:=vG hok hj;have ki:=vG hok (show i<l.length by omega)
 have oj:=(zV).1 r3;have oi:=(zV).1 r2;have alone:∀ r,r<j'->¬ jg l x r->¬ ((at' l i).kind=1/\(at' l r).kind=1)->epB l r j'=true->tN l i j':=λr hr hs hk he=>by
  have ht:=(of_decide_eq_true he).1;rcases Nat.lt_trichotomy i r with h|h|h
  ·refine Am.trans ?_ (OV hok hr hj ht);apply z0h;exact λhn=>hN r hr i ⟨h,r2,hs,hk,hn⟩
  ·subst h;exact OV hok hr hj ht
  ·by_cases et:(at' l i).aK=(at' l j').aK
   ·exact OV hok r1 hj et
   ·exfalso;refine agc hok h r1 hj he (Jh hok (by omega) r2) (λhh=>et (by rw[hh,ht])) ?_
    apply z0h;exact λhn=>hN i r1 r ⟨h,hs,r2,λhh=>hk ⟨hh.2,hh.1⟩,hn⟩
 rw[YD,if_neg r3] at hfj;by_cases k1:(at' l j').kind=1
 ·rw[if_pos k1] at hfj;by_cases hsm:zy l (kX l x j') j'
  ·obtain⟨m1,m2,m3⟩:=hsm;generalize hR:(kX l x j').qU=R at*
   match R,m2 with
   |[r],_=>
   have:=h2 r (by simp)
   exact alone r this.1 this.2.1 (λhh=>r4 ⟨hh.1,k1⟩) m3
  ·rw[if_neg hsm] at hfj;have hkj:KZ l (kX l x j').wr j'=true:=by
    by_cases hh:KZ l (kX l x j').wr j'=true
    ·exact hh
    ·rw[if_neg hh] at hfj;cases hfj
   exact hK.w i r1 r2 (by omega) j' (z07 _) hj haj hkj
 ·rw[if_neg k1] at hfj;by_cases he:epW l (kX l x j').wr j'=true
  ·rw[epW,z06,decide_eq_true_eq] at he;obtain⟨e1,e2⟩:=he;obtain⟨w,hw⟩:∃ w:Nat,(kX l x j').wr=w:=⟨(kX l x j').wr.toNat,by omega⟩
   rw[hw,z0g] at e2;have:=h1 w hw;exact alone w this.1 this.2.1 (λhh=>by omega) e2
  ·rw[if_neg he] at hfj;have hkj:KZ l (kX l x j').wr j'=true:=by
    cases hh:KZ l (kX l x j').wr j' with
    |true=>rfl
    |false=>rw[if_pos hh] at hfj;cases hfj
   rw[if_neg (by rw[hkj];decide)] at hfj
   have hlj:gY l (kX l x j').qU j'=false:=by
    cases hh:gY l (kX l x j').qU j' with
    |false=>rfl
    |true=>rw[if_pos hh] at hfj;cases hfj
   by_cases ki1:(at' l i).kind=1
   ·exact hK.r i r1 r2 ki1 j' (z07 _) hj haj hkj hlj
   ·exact hK.w i r1 r2 (by omega) j' (z07 _) hj haj hkj
theorem Lh{x:Nat}:∀ {n:Nat},n<=l.length->(∀ j,j<n->YD l x (kX l x j) j=0)->Kn l x n/\∀ j,j<n->∀ i,¬ Rx l x i j
 |0,_,_=>⟨⟨λi h=>absurd h (z0j _),λi h=>absurd h (z0j _)⟩,λj h=>absurd h (z0j _)⟩
 |j+1,hj,hf=>by
  have hj:j<l.length:=hj;obtain⟨hK,hN⟩:=Lh (z04 hj) λj' h'=>hf j' (by omega)
  have hfj:=hf j (z0l _);refine⟨hK.next hok hj hfj,λj' hj' i hr=> ?_⟩
  rcases(show j'=j\/j'<j by omega) with e|e
  ·subst e;exact abB hok hj hK hN hfj i hr
  ·exact hN j' e i hr
end
end Go.Proofs.Ytpajfggdnobheaa.Fa
namespace Go.Proofs.Ytpajfggdnobheaa.Fa
variable {main:Bool} {Fz:Nat->Prop}
open D Tr C Fu Ah Ps Od St Rc
theorem DJ{l:List Ev}{f:Fl}:∀ {n:Nat},f∈dD l n↔∃ j,j<n/\jm l j≠0/\f=⟨j,(at' l j).obj,jm l j⟩
 |0=>⟨λh=>(by cases h),λ⟨j,h,_⟩=>absurd h (z0j _)⟩
 |n+1=>by
  rw[dD,z03,DJ (n:=n)];constructor
  ·rintro(⟨j,h1,h2,h3⟩|h)
   ·exact⟨j,by omega,h2,h3⟩
   ·split at h
    ·cases h
    ·rename_i hn;rw[z0a] at h;exact⟨n,by omega,hn,h⟩
  ·rintro⟨j,h1,h2,h3⟩;by_cases e:j=n
   ·subst e;right;rw[if_neg h2,h3];exact z0a.2 rfl
   ·exact .inl ⟨j,by omega,h2,h3⟩
section
variable {l:List Ev} (hok:(bH l).2=0)
include hok
theorem afF{j:Nat}(hj:j<l.length)(h:jm l j≠0):cO (at' l j)=true/\jm l j=YD l (at' l j).obj.toNat (kX l (at' l j).obj.toNat j) j:=by
 by_cases ha:cO (at' l j)=true
 ·exact⟨ha,YF hok hj ha⟩
 ·exact absurd (show jm l j=0 by show(if cO (at' l j)=true then _ else 0)=_;rw[if_neg ha]) h
theorem IJ{j:Nat}(hj:j<l.length)(h:jm l j≠0):∃ i,Rx l (at' l j).obj.toNat i j:=by obtain⟨_,e⟩:=afF hok hj h;rw[e] at h;exact abm hok hj h
theorem aj7{x j:Nat}(hj:j<l.length)(h:jm l j=0):YD l x (kX l x j) j=0:=by
 by_cases hs:jg l x j
 ·rw[YD,if_pos hs]
 ·obtain⟨ha,hx⟩:=(mg hok hj).1 hs;rw[YF hok hj ha,<- hx] at h;exact h
theorem Oa{x i j:Nat}(hj:j<l.length)(h:Rx l x i j):noRace l i j (at' l i) (at' l j)=false:=by
 obtain⟨h1,h2,h3,h4,h5⟩:=h;have hi:i<l.length:=by omega
 refine(Jg hok hi hj).2 ⟨h1,Jh hok hi h2,Jh hok hj h3,?_,h4,h5⟩;rw[(zV.1 h2).2,(zV.1 h3).2]
theorem N9{i j:Nat}(hi:i<l.length)(hj:j<l.length)(h:noRace l i j (at' l i) (at' l j)=false):Rx l (at' l j).obj.toNat i j:=by obtain⟨h1,h2,h3,h4,h5,h6⟩:=(Jg hok hi hj).1 h;exact⟨h1,(mg hok hi).2 ⟨h2,by rw[h4]⟩,(mg hok hj).2 ⟨h3,rfl⟩,h5,h6⟩
theorem IL:gu l=[]↔∀ x i j,j<l.length->¬ Rx l x i j:=by
 rw[z0t];constructor
 ·intro h x i j hj hr;have hi:i<l.length:=by have:=hr.1;omega
  exact h _ (qP.2 ⟨i,hi,qQ.2 ⟨j,hj,Oa hok hj hr,rfl⟩⟩)
 ·intro h r hr;obtain⟨i,hi,hr⟩:=qP.1 hr;obtain⟨j,hj,hn,_⟩:=qQ.1 hr;exact h _ i j hj (N9 hok hi hj hn)
theorem IK{x n:Nat}(hn:n<=l.length)(h:∀ j,j<n->(at' l j).obj=x->jm l j=0):∀ j,j<n->∀ i,¬ Rx l x i j:=
 (Lh hok hn λj hj=>by
  by_cases hx:(at' l j).obj=x
  ·exact aj7 hok (by omega) (h j hj hx)
  ·rw[YD,if_pos (show jg l x j from Or.inr hx)]).2
theorem afC:fC l=[]↔gu l=[]:=by
 have hp:(aN l).2.2=0:=by rw[iy];exact hok
 rw[fC,if_pos hp,IL hok];constructor
 ·intro h x i j hj;refine IK hok (z07 _) (λj hj _=> ?_) j hj i;apply z0h;intro hn;have:(⟨j,(at' l j).obj,jm l j⟩:Fl)∈dD l l.length:=DJ.2 ⟨j,hj,hn,rfl⟩;rw[h] at this;cases this
 ·intro h;rw[z0t];intro f hf;obtain⟨j,hj,hn,_⟩:=DJ.1 hf;obtain⟨i,hr⟩:=IJ hok hj hn;exact h _ i j hj hr
end
end Go.Proofs.Ytpajfggdnobheaa.Fa
namespace Go.Proofs.Ytpajfggdnobheaa.Ah
variable {main:Bool} {Fz:Nat->Prop}
open D Tr Ps Od
theorem TR(l:List Ev)(R:Nat->Nat->Bool)(j:Nat)(hR:∀ a b,a<j->(R a b=true↔tN l b a)):∀ s,s<=j->∀ b,zU l R j s b=true↔∃ i,j - s<=i/\D7 (AL l) i j=true/\(b=i\/tN l b i)
 |0,_,b=>by
  simp only[zU,z1e,false_iff];rintro⟨i,h1,h2,_⟩;have:=Xd _ _ h2;omega
 |s+1,hs,b=>by
  have ih:=TR l R j hR s (by omega)
  have hi:j - 1 - s<j:=by omega
  have hu:D7 (AL l) (j - 1 - s) j=AL l (j - 1 - s) j:=by simp[D7,hi]
  have e1:j - (s+1)=j - 1 - s:=by omega
  simp only[zU,stepRow];split
  ·rename_i h;simp only[z06,z0d] at h;simp only[z0c,decide_eq_true_eq,ih b,hR _ b hi];constructor
   ·rintro((h1|⟨i,h1,h2,h3⟩)|h1)
    ·exact⟨j - 1 - s,by omega,by rw[hu];exact h.2, .inl h1⟩
    ·exact⟨i,by omega,h2,h3⟩
    ·exact⟨j - 1 - s,by omega,by rw[hu];exact h.2, .inr h1⟩
   ·rintro⟨i,h1,h2,h3⟩;by_cases e:i=j - 1 - s
    ·subst e;rcases h3 with h3|h3
     ·exact .inl (.inl h3)
     ·exact .inr h3
    ·exact .inl (.inr ⟨i,by omega,h2,h3⟩)
  ·rename_i h;rw[ih b];constructor
   ·rintro⟨i,h1,h2,h3⟩;exact⟨i,by omega,h2,h3⟩
   ·rintro⟨i,h1,h2,h3⟩;by_cases e:i=j - 1 - s
    ·subst e;rw[hu] at h2;have hr:zU l R j s (j - 1 - s)=true:=by
      cases hc:zU l R j s (j - 1 - s) with
      |true=>rfl
      |false=>exact absurd (show(!zU l R j s (j - 1 - s)&&AL l (j - 1 - s) j)=true by rw[hc,h2];rfl) h
     obtain⟨i',k1,k2,k3⟩:=(ih _).1 hr;refine⟨i',k1,k2, .inr ?_⟩;have hp:tN l (j - 1 - s) i':=by
      rcases k3 with k3|k3
      ·omega
      ·exact k3
     rcases h3 with h3|h3
     ·subst h3;exact hp
     ·exact Am.trans h3 hp
    ·exact⟨i,by omega,h2,h3⟩
theorem JK(l:List Ev):∀ n a b,a<n->(Ap l n a b=true↔tN l b a)
 |0,a,b,h=>absurd h (z0j _)
 |j+1,a,b,h=>by
  simp only[Ap];by_cases e:a=j
  ·subst e;rw[if_pos rfl,TR l _ a (λa' b' ha=>JK l a a' b' ha) a (z07 _) b];unfold tN;rw[Am.last];constructor
   ·rintro⟨i,_,h2,h3⟩;exact⟨i,h2,h3⟩
   ·rintro⟨i,h2,h3⟩;exact⟨i,by omega,h2,h3⟩
  ·rw[if_neg e];exact JK l j a b (by omega)
theorem al8(l:List Ev){a b:Nat}(ha:a<l.length):Ap l l.length a b=gZ l b a:=by rw[z0q,JK l l.length a b ha,ji (z04 ha)]
end Go.Proofs.Ytpajfggdnobheaa.Ah
namespace Go.Proofs.Ytpajfggdnobheaa.Ah
variable {main:Bool} {Fz:Nat->Prop}
open D Tr Ps Od Eqs
abbrev aR:DA (List (List Bool)×Unit):= .one PO.ref
def j68:JC:=(qN (qG 5 false<|.nil) (qN (o9 6 1 2<|o7 7 1<|oJ 8 1 6 7<|o9 9 1 8<|o7 10 0<|oJ 11 1 9 10<|o9 12 1 11<|o7 5 12<|.nil) .ret))
theorem Zo(n:Nat)(M:Nat->Nat->Bool)(i j:Nat)(hi:i<n)(hj:j<n):bC Try.prog main Fz 68 [.int .i64 i, .int .i64 j, .ref (PO.aA (rowsOf n M)) [] 0] [] (.bool (M j i)) []:=by refine wkA j68 [.tmp 5] 13 FH.au rfl ?_;unfold j68;simp only[go_sem,seval,ab2,rows_row hj,ahN hj hi];exact⟨⟨by omega,by omega⟩,⟨by omega,by omega⟩⟩
def JM(l:List Ev)(i j:Nat):Bool:=Ap l l.length j i
def j34:JC:=(qN (oQ 2<|o8 3 0<|.nil) (.seq (qN (o7 8 0<|oL 9 19 8<|o7 7 9<|oM 10 0 7<|oM 11 1 7<|o7 4 10<|o7 5 11<|.nil) (qN (o7 12 5<|qB 13 12 0<|.nil) (qM [13,5,0] (qO 13 (qN (o7 14 5<|oQ 2<|o7 3 14<|.nil) (.mW 2 97 2 .ret)) .skip)))) (qM [0] (qN (o7 15 0<|oL 16 66 15<|eo 6 (.alloc 143 .dO)<|oG 1 6 16<|.nil) (qN (o7 17 0<|qo 18 (.PS 68 [(.t 6)])<|qL [17,18]<|qC 19 67 17 18<|o7 2 19<|o8 3 0<|.nil) (.mW 2 97 2 .ret))))))
def Gbf(f:FuncId)(a:List SV)(m:List ay):Sx.Call:=(FH.rd 19 (.one fD) (.two .int .int) (λ_=>True) (λy=>(aN y.1).2)<|
 FH.pz 66 (.one fD) (.one PO) (λy=>y.1.length<=1000) (λy=>rowsOf y.1.length (Ap y.1 y.1.length))<|
 FH.mk 67 (.two fD (DT.clo 68 aR)) (λy=>y.1.length<=100/\y.2.1.1=rowsOf y.1.length (Ap y.1 y.1.length)) (λy=> .vec 0 (LZ y.1 (JM y.1)).length) (λy=>[.vec 97 2 ((LZ y.1 (JM y.1)).map sG.aA)]) FH.none) f a m
theorem al5:type_of% (nq Gbf.eq_1):=nq Gbf.eq_1
theorem al6:bQ Try.prog main Fz Gbf:=FH.dM (λy _=>E5 y.1)<|FH.apm (λy h=>ahO y.1 h)<|
 FH.ku (λy _=>jh (al7 _ _) ⟨jO _ _ sG _,trivial⟩) (λy h=>by obtain⟨l,⟨r,u⟩,v⟩:=y;obtain⟨h1,h2⟩:=h;simp only at h1 h2;subst h2;exact ahP 68 aR (rowsOf l.length (Ap l l.length),()) l (JM l) h1 (by kernel_rfl) (λi j hi hj=>Zo l.length (Ap l l.length) i j hi hj)) FH.au
theorem ab3(l:List Ev):bC Try.prog main Fz 34 [fD.aA l] [] (.cu [.vec 0 (rO l (JM l)).length, .int .i64 (aN l).2.2]) [.vec 97 2 ((rO l (JM l)).map sG.aA)]:=by
 refine wkA j34 [.tmp 2, .tmp 3] 20 al6 rfl ?_;unfold j34;simp only[go_sem,seval,al5];refine⟨λh=>by simp[rO,h],λh=> ?_⟩
 have:=jE (l:=l) (by rw[<- uJ];exact h)
 exact⟨by omega,by omega,by simp[rO,h]⟩
theorem ahQ{l:List Ev}{a b:Nat}(hb:b<l.length):JM l a b=gZ l a b:=al8 l hb
theorem Zp(l:List Ev):LZ l (JM l)=pO (gZ l) l.length l.length:=FX _ λa b ha hb=>by
 rw[D7,ahQ hb];cases h:gZ l a b with
 |false=>simp
 |true=>simp[((ji (z04 hb)).1 h).lt]
end Go.Proofs.Ytpajfggdnobheaa.Ah
namespace Go.Proofs.Ytpajfggdnobheaa.D
variable {main:Bool} {Fz:Nat->Prop}
theorem afG(x y:Pr):nG (.st [.int .i64, .int .i64]) (sG.aA x) (sG.aA y)=decide (x=y):=by obtain⟨a,b⟩:=x;obtain⟨c,d⟩:=y;simp only[N8,nG,EN,Bool.and_true,Pr.mk.injEq,Bool.decide_and]
theorem afH(a b:Int)(l:List Pr):zi (.st [.int .i64, .int .i64]) (.agg [.int .i64 a, .int .i64 b]) (.bool true) (EU sG l)=EU sG (WQ ⟨a,b⟩ l):=SC afG ⟨a,b⟩ l
theorem afI(a b:Int)(l:List Pr):obB (gQ (.st [.int .i64, .int .i64]) (.agg [.int .i64 a, .int .i64 b]) (EU sG l))=decide ((⟨a,b⟩:Pr)∈l):=afJ afG ⟨a,b⟩ l
attribute [go_sem] afH afI
end Go.Proofs.Ytpajfggdnobheaa.D
namespace Go.Proofs.Ytpajfggdnobheaa.Rc
variable {main:Bool} {Fz:Nat->Prop}
open D Tr Ah Ps Od
def j35:JC:=(qN (oU 1 59 0<|qG 2 false<|.nil) (qN (oD 3 0 0 1<|o9 4 1 3<|oH 5 4 1<|o7 6 5<|.sc true 10 6 (oD 7 0 0 1<|o9 8 1 7<|oH 9 8 2<|.nil) (.t 9)<|o7 2 10<|.nil) .ret))
def j36:JC:=(qN (oU 2 59 0<|oU 3 59 1<|o8 4 0<|.nil) (.seq (.block 0 (qN (oD 6 0 0 2<|o9 7 1 6<|oH 8 7 2<|o7 9 8<|qL [9,3,2]<|.sc false 13 9 (oD 10 0 0 3<|o9 11 1 10<|oH 12 11 2<|.nil) (.t 12)<|o7 5 13<|.nil) (qM [5,2,3] (qO 5 (qN (o8 4 1<|.nil) .ret) (qN (oD 15 0 0 2<|o9 16 1 15<|oH 17 16 2<|o7 14 17<|.nil) (qO 14 (qN (o8 4 2<|.nil) .ret) (qN (qL [3]<|oD 19 0 0 3<|o9 20 1 19<|oH 21 20 2<|o7 18 21<|.nil) (qM [18] (qO 18 (qN (o8 4 3<|.nil) .ret) .skip))))))))) (qM [] (qN (o8 4 0<|.nil) .ret))))
def aeX:JC:=(qN (oN 27 26 25<|.nil) (.seq (qO 27 .skip (.exit 0)) (.seq (.block 1 (qN (oJ 28 2 24 26<|oC 29 2 28<|eo 8 (.alloc 97 (.agg [(.int .i64 0),(.int .i64 0)]))<|oG 2 8 29<|.nil) (qM [6,8,26,25,24,0] (.ops<|o7 30 6<|oC 31 2 8<|en (.L9 (.put (.st [(.int .i64),(.int .i64)]) .bool) [(.t 30),(.t 31),(B true)])<|.nil)))) (qM [26,25,24,6,0] (.ops<|oI 32 26 1<|o7 26 32<|.nil)))))
def aeY:JC:=(.seq (qN (o7 42 12<|o7 43 0<|oO 44 43<|oN 45 42 44<|.nil) (qO 45 .skip (.exit 4))) (qM [0,12,11,6,10,9,35,34,33] (.seq (.block 5 (qN (o7 48 0<|o7 49 12<|oJ 50 3 48 49<|oC 51 3 50<|qK 13 59<|oG 3 13 51<|.nil) (qM [11,13,6,10,12,0,9,35,34,33] (.seq (qN (oC 52 3 11<|oL 53 35 52<|qE 54 53<|o7 55 54<|qL [55,13,11,6,10,12,0,9,35,34,33]<|.sc true 59 55 (oC 56 3 13<|oL 57 35 56<|qE 58 57<|.nil) (.t 58)<|o7 60 59<|.sc true 66 60 (oD 61 2 2 11<|o9 62 1 61<|oD 63 2 2 13<|o9 64 1 63<|qo 65 (.cmp .neq (.t 62) (.t 64))<|.nil) (.t 65)<|qL [66,6,10,12,0,11,9,35,34,33,13]<|o7 67 66<|.sc true 73 67 (o7 68 6<|o7 69 10<|o7 70 12<|qo 71 (.AU (.agg [(.int .i64 0),(.int .i64 0)]) [([.lQ 0],0,1,(.t 69)),([.lQ 1],1,1,(.t 70))])<|eo 72 (.L9 (.get (.st [(.int .i64),(.int .i64)]) .bool (.bool false) false) [(.t 68),(.t 71)])<|.nil) (.t 72)<|.nil) (qO 73 (.exit 5) .skip)) (qM [11,13,9,10,12,0,6,35,34,33] (qN (oC 74 3 11<|oC 75 3 13<|qC 76 36 74 75<|o7 14 76<|.nil) (qM [14,9,10,12,11,0,6,35,34,33] (qN (o7 77 14<|qB 78 77 0<|.nil) (qM [78,9,10,12,11,14,0,6,35,34,33] (qO 78 (.ops<|o7 79 9<|o7 80 10<|o7 81 12<|oD 82 2 2 11<|o9 83 1 82<|qL [14,80,81,83,79,12,0,11,6,10,35,34,33]<|o7 84 14<|qo 85 (.AU (.agg [(.int .i64 0),(.int .i64 0),(.int .i64 0),(.int .i64 0)]) [([.lQ 0],0,1,(.t 80)),([.lQ 1],1,1,(.t 81)),([.lQ 2],2,1,(.t 83)),([.lQ 3],3,1,(.t 84))])<|qL [85,79,12,0,11,6,10,35,34,33]<|eo 86 (.Ia 101 4 1 (.agg [(.int .i64 0),(.int .i64 0),(.int .i64 0),(.int .i64 0)]) [(0,(.t 85))])<|oV 87 101 4 32 79 86<|o7 9 87<|.nil) .skip)))))))))) (qM [12,0,11,6,10,9,35,34,33] (.ops<|o7 46 12<|oI 47 46 1<|o7 12 47<|.nil)))))
def ali:JC:=(qM [35,34,33,0,6,9] (.ops<|oI 88 35 1<|o7 35 88<|.nil))
def aeZ:JC:=(qN (oN 36 35 34<|.nil) (.seq (qO 36 .skip (.exit 2)) (.seq (.block 3 (qN (o7 37 35<|oJ 38 3 33 35<|oC 39 3 38<|qK 11 59<|o7 10 37<|oG 3 11 39<|.nil) (qM [10,0,11,6,9,35,34,33] (qN (o7 40 10<|oI 41 40 1<|o7 12 41<|.nil) (qM [12,0,11,6,10,9,35,34,33] (.block 4 (.mW 9 101 4 (.loop [0,11,6,10,35,34,33] [12,9] aeY)))))))) ali)))
def alj:JC:=(qM [9] (qN (o7 89 9<|o7 2 89<|o8 3 0<|.nil) (.mW 2 101 4 .ret)))
def alk:JC:=(qM [0,6] (qN (oQ 9<|.nil) (.seq (qN (o7 33 0<|oO 34 33<|o8 35 0<|.nil) (.block 2 (.mW 9 101 4 (.loop [34,33,0,6] [35,9] aeZ)))) alj)))
def j13:JC:=(qN (oQ 2<|o8 3 0<|.nil) (qN (o7 16 0<|oL 17 34 16<|o7 15 17<|oM 18 0 15<|oM 19 1 15<|o7 4 18<|o7 5 19<|.nil) (.seq (qN (o7 20 5<|qB 21 20 0<|.nil) (qM [21,5,4,0] (qO 21 (qN (o7 22 5<|oQ 2<|o7 3 22<|.nil) (.mW 2 101 4 .ret)) .skip))) (qM [4,0] (qN (eo 23 (.L9 (.make (.st [(.int .i64),(.int .i64)]) .bool) [])<|o7 6 23<|.nil) (.seq (qN (o7 24 4<|oO 25 24<|o8 26 0<|.nil) (.block 0 (.loop [25,24,6,0] [26] aeX))) alk))))))
def RD(e:Ev):Bool:=decide (e.kind=1)||decide (e.kind=2)
theorem WM(e:Ev):bC Try.prog main Fz 35 [bP.aA e] [] (.bool (RD e)) []:=by refine wkA j35 [.tmp 2] 11 FH.au rfl ?_;unfold j35;simp only[go_sem,seval];rfl
def Es(a b:Ev):Int:=if a.kind=2/\b.kind=2 then 1 else if a.kind=2 then 2 else if b.kind=2 then 3 else 0
theorem ae0(a b:Ev):bC Try.prog main Fz 36 [bP.aA a,bP.aA b] [] (.int .i64 (Es a b)) []:=by refine wkA j36 [.tmp 4] 22 FH.au rfl ?_;unfold j36;simp only[go_sem,seval];unfold Es;refine⟨λh=> ?_,λh=>⟨λh2=> ?_,λh2=>⟨λh3=> ?_,λh3=> ?_⟩⟩⟩<;>simp_all
theorem mg{l:List Ev}(hok:(bH l).2=0){i j:Nat}(hij:i<j)(hj:j<l.length):
  (!RD (l.getD i bP.bg)|| !RD (l.getD j bP.bg)|| !decide ((l.getD i bP.bg).obj=(l.getD j bP.bg).obj)||gZ l i j)=false->noRace l i j (l.getD i bP.bg) (l.getD j bP.bg)=decide (Es (l.getD i bP.bg) (l.getD j bP.bg)=0)/\(Es (l.getD i bP.bg) (l.getD j bP.bg)≠0->Es (l.getD i bP.bg) (l.getD j bP.bg)=nI (l.getD i bP.bg) (l.getD j bP.bg)):=by
 intro h;simp only[z1b,Bool.not_eq_false',RD,z0c,decide_eq_true_eq] at h;obtain⟨⟨⟨h1,h2⟩,h3⟩,h4⟩:=h;have hw:∀ x y:Int,(x=1\/x=2)->(y=1\/y=2)->z01.wrap (x+y)=x+y:=λx y hx hy=>aJ;unfold noRace Es nI;rw[hw _ _ h1 h2,h4,h3];generalize l.getD i bP.bg=a at h1 ⊢;generalize l.getD j bP.bg=b at h2 ⊢;rcases h1 with h1|h1<;>rcases h2 with h2|h2<;>simp[h1,h2,show ¬ (j:Int)<=i by omega]
theorem skipped{l:List Ev}(hok:(bH l).2=0){i j:Nat}(hij:i<j)(hj:j<l.length)(h:(!RD (l.getD i bP.bg)|| !RD (l.getD j bP.bg)|| !decide ((l.getD i bP.bg).obj=(l.getD j bP.bg).obj)||gZ l i j)=true):
  noRace l i j (l.getD i bP.bg) (l.getD j bP.bg)=true:=by
 have k:∀ t,t<l.length->1<=(l.getD t bP.bg).kind:=λt ht=>by
  obtain⟨b1,b2,b3,b4⟩:=(jl _).1 (uO hok t ht);unfold many at b4;split at b4
  ·omega
  ·split at b4
   ·omega
   ·split at b4
    ·omega
    ·split at b4<;>omega
 have k1:=k i (by omega)
 have k2:=k j hj;simp only[RD,z0c,z0d,z1b,decide_eq_false_iff_not] at h;unfold noRace;simp only[z0c,decide_eq_true_eq,z0d,decide_eq_false_iff_not];rcases h with((h|h)|h)|h
 ·exact .inl (.inl (.inl (.inl (.inr (by omega)))))
 ·exact .inl (.inl (.inl (.inr (by omega))))
 ·exact .inl (.inl (.inr h))
 ·exact .inr h
theorem yM{l:List Ev}{i j:Nat}:tu l i (j+1)=tu l i j++if noRace l i j (l.getD i bP.bg) (l.getD j bP.bg)=true then[] else[⟨i,j,(l.getD i bP.bg).obj,nI (l.getD i bP.bg) (l.getD j bP.bg)⟩]:=rfl
theorem Iu{l:List Ev}{i:Nat}:∀ j,j<=i+1->tu l i j=[]
 |0,_=>rfl
 |j+1,h=>by
  rw[yM,Iu j (by omega),if_pos]
  ·rfl
  ·simp only[noRace,show(j:Int)<=i by omega,decide_true,Bool.true_or]
theorem RF{p:Nat->Nat->Bool}{i:Nat}{x:Pr}:∀ j,x∈rowP p i j↔∃ k,k<j/\p i k=true/\x=⟨i,k⟩
 |0=>by simp[rowP]
 |j+1=>by
  rw[rowP,z03,RF j];constructor
  ·rintro(⟨k,h1,h2⟩|h)
   ·exact⟨k,by omega,h2⟩
   ·split at h
    ·rename_i hp;exact⟨j,by omega,hp,z0a.1 h⟩
    ·cases h
  ·rintro⟨k,h1,h2,h3⟩;by_cases e:k=j
   ·subst e;right;rw[if_pos h2];exact z0a.2 h3
   ·exact .inl ⟨k,by omega,h2,h3⟩
theorem RG{p:Nat->Nat->Bool}{n:Nat}{x:Pr}:∀ i,x∈pO p n i↔∃ a b,a<i/\b<n/\p a b=true/\x=⟨a,b⟩
 |0=>by simp[pO]
 |i+1=>by
  rw[pO,z03,RG i,RF];constructor
  ·rintro(⟨a,b,h1,h2⟩|⟨k,h1,h2⟩)
   ·exact⟨a,b,by omega,h2⟩
   ·exact⟨i,k,by omega,h1,h2⟩
  ·rintro⟨a,b,h1,h2,h3,h4⟩;by_cases e:a=i
   ·subst e;exact .inr ⟨b,h2,h3,h4⟩
   ·exact .inl ⟨a,b,by omega,h2,h3,h4⟩
def lH(l:List Ev):List Rc:=if (aN l).2.2=0 then gu l else[]
def Gra(f:FuncId)(a:List SV)(m:List ay):Sx.Call:=(FH.mk 34 (.one fD) (λ_=>True) (λy=> .cu [.vec 0 (rO y.1 (JM y.1)).length, .int .i64 (aN y.1).2.2]) (λy=>[.vec 97 2 ((rO y.1 (JM y.1)).map sG.aA)])<|
 FH.rd 35 (.one bP) (.one .bool) (λ_=>True) (λy=>RD y.1)<|FH.rd 36 (.two bP bP) (.one .int) (λ_=>True) (λy=>Es y.1 y.2.1) FH.none) f a m
theorem WO:type_of% (nq Gra.eq_1):=nq Gra.eq_1
theorem anL:bQ Try.prog main Fz Gra:=FH.ku (λy _=>jh (qc ⟨kD _ _,kE _ _,trivial⟩) ⟨jO _ _ sG _,trivial⟩) (λy _=>ab3 y.1)<|
 FH.dM (λy _=>WM y.1)<|FH.dM (λy _=>ae0 y.1 y.2.1) FH.au
theorem ajJ{l:List Pr}{i:Nat}(h:i<l.length):(l.map sG.aA).getD i .junk= .agg [.int .i64 (l.getD i sG.bg).a, .int .i64 (l.getD i sG.bg).b]:=by simp[List.getD,h,N8]
theorem alm(l:List Ev):bC Try.prog main Fz 13 [fD.aA l] [] (.cu [.vec 0 (lH l).length, .int .i64 (aN l).2.2]) [.vec 101 4 ((lH l).map zu.aA)]:=by
 refine wkA j13 [.tmp 2, .tmp 3] 90 anL rfl ?_;unfold j13;by_cases h:(aN l).2.2=0
 ·have hok:(bH l).2=0:=by rw[<- iy];exact h
  have hl:=jE hok;have hB:rO l (JM l)=pO (gZ l) l.length l.length:=by rw[rO,if_pos h];exact Zp l
  have hBl:=Iw (gZ l) l.length l.length;have hll:l.length*l.length<=80*80:=z1m (by omega) (by omega)
  have hmem:∀ a b:Nat,a<l.length->b<l.length->((⟨a,b⟩:Pr)∈pO (gZ l) l.length l.length↔gZ l a b=true):=λa b ha hb=>by
   rw[RG];constructor
   ·rintro⟨a',b',_,_,h3,h4⟩;injection h4 with e1 e2;rw[show a=a' by omega,show b=b' by omega];exact h3
   ·intro h3;exact⟨a,b,ha,hb,h3,rfl⟩
  rw[lH,if_pos h];simp only[go_sem,seval,WO,h,hB];generalize pO (gZ l) l.length l.length=B at hBl hmem ⊢;refine bU (Nat×List Pr) (λi=>[.int .i64 i.1]) (λi=>[.vec 97 2 (B.map sG.aA), .mp (.st [.int .i64, .int .i64]) .bool (EU sG i.2)])
   (λi=>i.1<=B.length/\∀ p,p∈i.2↔p∈B.take i.1) (λi=>B.length - i.1) (0,[]) ⟨by simp,λp=>by simp⟩ ?_ rfl ?_
  ·simp only[go_sem,seval]
  rintro⟨i,L⟩ ⟨hi,hinv⟩;simp only at hi hinv;by_cases h1:i<B.length
  ·have h1':(i:Int)<B.length:=by omega
   unfold aeX;simp only[go_sem,seval,h1,h1',ajJ h1];refine⟨by omega,(i+1,WQ (B.getD i sG.bg) L),⟨by omega,λp=> ?_⟩,by omega,aJ,rfl⟩
   rw[ae1,hinv,ou sG.bg h1];simp[or_comm]
  ·have h1':¬ (i:Int)<B.length:=by omega
   have e:i=B.length:=by omega
   subst e;rw[List.take_length] at hinv;unfold aeX;simp only[go_sem,seval,h1'];unfold alk;simp only[go_sem,seval];have hq:∀ a b:Nat,a<l.length->b<l.length->decide ((⟨a,b⟩:Pr)∈L)=gZ l a b:=λa b ha hb=>by rw[z0q,decide_eq_true_eq,hinv,hmem a b ha hb]
   refine bU Nat (λi=>[.int .i64 i, .vec 2 (Bg l i).length]) (λi=>[.vec 97 2 (B.map sG.aA), .mp (.st [.int .i64, .int .i64]) .bool (EU sG L), .vec 101 4 ((Bg l i).map zu.aA)]) (λi=>i<=l.length) (λi=>l.length - i) 0 (by omega) ?_ rfl ?_
   ·simp only[go_sem,seval];rfl
   intro i hi;by_cases h1:i<l.length
   ·have h1':(i:Int)<l.length:=by omega
    have hw:z01.wrap ((i:Int)+1)=((i+1:Nat):Int):=aJ;have hl1:=Iy (l:=l) i;have hil:i*l.length<=80*80:=z1m (by omega) (by omega)
    unfold aeZ;simp only[go_sem,seval,h1',hw];refine⟨by omega,?_⟩
    refine bU Nat (λj=>[.int .i64 j, .vec 2 (Bg l i++tu l i j).length]) (λj=>[.vec 97 2 (B.map sG.aA), .mp (.st [.int .i64, .int .i64]) .bool (EU sG L), .vec 101 4 ((Bg l i++tu l i j).map zu.aA), .blk 59 (bP.aA (l.getD i bP.bg))]) (λj=>i+1<=j/\j<=l.length) (λj=>l.length - j) (i+1) (by omega) ?_ ?_ ?_
    ·simp only[go_sem,seval];simp[Iu (l:=l) (i+1) (z07 _)]
    ·simp[Iu (l:=l) (i+1) (z07 _),WB]
    intro j hj;by_cases h2:j<l.length
    ·have h2':(j:Int)<l.length:=by omega
     have hwj:z01.wrap ((j:Int)+1)=((j+1:Nat):Int):=aJ;have hl2:=Iz (l:=l) (i:=i) j;unfold aeY;simp only[go_sem,seval,WO,h2',hwj,hq i j h1 h2];have fit:((Bg l i).length+(tu l i j).length+1)*32<=140737488355328:=by omega
     have hk:=mg hok (i:=i) (j:=j) (by omega) h2
     refine⟨by omega,λh3=> ?_,λh3=>⟨λh4=> ?_,λh4=> ?_⟩⟩
     ·have e:tu l i (j+1)=tu l i j:=by rw[yM,if_pos (skipped hok (by omega) h2 h3),z0p]
      exact⟨j+1,by omega,by omega,⟨rfl,by rw[e]⟩,by rw[e]⟩
     ·obtain⟨k1,k2⟩:=hk h3;have e:tu l i (j+1)=tu l i j++[⟨i,j,(l.getD i bP.bg).obj,Es (l.getD i bP.bg) (l.getD j bP.bg)⟩]:=by rw[yM,k1,if_neg (by simpa using h4),k2 h4]
      exact⟨by simpa only[List.length_append,z0w] using fit,j+1,by omega,by omega,⟨rfl,by rw[e];simp[Nat.add_assoc]⟩,by rw[e,z0v];rfl⟩
     ·obtain⟨k1,k2⟩:=hk h3;have e:tu l i (j+1)=tu l i j:=by rw[yM,k1,if_pos (by simpa using h4),z0p]
      exact⟨j+1,by omega,by omega,⟨rfl,by rw[e]⟩,by rw[e]⟩
    ·have h2':¬ (j:Int)<l.length:=by omega
     have e:j=l.length:=by omega
     subst e;unfold aeY;simp only[go_sem,seval,h2'];unfold ali;simp only[go_sem,seval,hw];exact⟨i+1,by omega,by omega,⟨rfl,rfl⟩,by rw[Bg,z0v]⟩
   ·have h1':¬ (i:Int)<l.length:=by omega
    have e:i=l.length:=by omega
    subst e;unfold aeZ;simp only[go_sem,seval,h1'];unfold alj;simp only[go_sem,seval];rw[h];exact⟨rfl,rfl⟩
 ·simp only[go_sem,seval,WO,h];simp[lH,h]
end Go.Proofs.Ytpajfggdnobheaa.Rc
namespace Go.Proofs.Ytpajfggdnobheaa.PI
variable {main:Bool} {Fz:Nat->Prop}
open D
def j134:JC:=(qN (qG 2 false<|.nil) (qN (o7 3 0<|o7 4 0<|qo 5 (.cmp .neq (.t 3) (.t 4))<|o7 2 5<|.nil) .ret))
def j128:JC:=(qN (qG 4 false<|.nil) (qN (o7 5 0<|oL 6 134 5<|o7 7 6<|.sc false 11 7 (o7 8 1<|oL 9 134 8<|qE 10 9<|.nil) (.t 10)<|o7 12 11<|.sc true 16 12 (o7 13 0<|o7 14 1<|oN 15 13 14<|.nil) (.t 15)<|o7 4 16<|.nil) .ret))
def j135:JC:=(qN (o8 8 0<|o8 9 0<|.nil) (.seq (.seq (.aZ<|o7 10 0<|o7 11 2<|oJ 12 1 10 11<|o9 13 1 12<|o7 14 0<|o7 15 1<|oJ 16 1 14 15<|o9 17 1 16<|qF 18 128 13 17<|.nil) (qM [18,3,2,1] (qO 18 (qN (o7 19 3<|oP 20 19<|o9 21 1 20<|qL [21,19,2,1]<|oI 22 21 1<|oP 23 19<|oG 1 23 22<|.nil) (qM [2,1] (qN (o7 24 2<|o7 25 1<|o7 8 24<|o7 9 25<|.nil) .ret))) .skip))) (qM [1,2] (qN (o7 26 1<|o7 27 2<|o7 8 26<|o7 9 27<|.nil) .ret))))
def j133:JC:=(qN (o8 10 0<|.nil) (qN (o7 12 0<|o7 13 1<|o7 14 2<|o7 15 4<|eo 16 (.call 135 [(.t 12),(.t 13),(.t 14),(.t 15)])<|o7 11 16<|qL [11,0,3,4]<|oM 17 0 11<|oM 18 1 11<|o7 1 17<|o7 2 18<|.nil) (qM [0,2,3,4,1] (qN (o7 20 0<|o7 21 2<|o7 22 3<|o7 23 4<|eo 24 (.call 135 [(.t 20),(.t 21),(.t 22),(.t 23)])<|qL [24,0,1,4]<|o7 19 24<|oM 25 0 19<|oM 26 1 19<|o7 2 25<|o7 3 26<|.nil) (qM [0,1,2,4] (qN (o7 28 0<|o7 29 1<|o7 30 2<|qL [4,28,29,30]<|o7 31 4<|eo 32 (.call 135 [(.t 28),(.t 29),(.t 30),(.t 31)])<|o7 27 32<|qL [27]<|oM 33 0 27<|oM 34 1 27<|o7 1 33<|o7 2 34<|.nil) (qM [2] (qN (o7 35 2<|o7 10 35<|.nil) .ret))))))))
def j132:JC:=(qN (o8 6 0<|.nil) (qN (o7 7 0<|o7 8 1<|qo 9 (.ar .sub (.t 8) (I 1))<|o7 10 1<|o7 11 1<|oI 12 11 1<|o7 13 2<|eo 14 (.call 133 [(.t 7),(.t 9),(.t 10),(.t 12),(.t 13)])<|o7 6 14<|.nil) .ret))
def lt(a b:Int):Bool:=decide (a<b)
theorem bn(y:Int):wd (.int .i64 y)=1:=nr rfl
theorem aU(y:Int):(SV.int .i64 y).isAgg=false:=nr rfl
attribute [go_sem] z0b z0n
abbrev TP:Nat:=3+1000000
abbrev mv(X:Array Int):ay:= .vec TP 1 (X.toList.map DT.int.aA)
theorem rd{X:Array Int}{k:Nat}(h:k<X.size):(X.toList.map DT.int.aA).getD k .junk= .int .i64 X[k]! :=by
 rw[List.getD,List.getElem?_map,List.getElem?_eq_getElem (by simpa using h)]
 simp[h];rfl
theorem wr(X:Array Int)(k:Nat)(y:Int):(X.toList.map DT.int.aA).set k (.int .i64 y)=(X.setIfInBounds k y).toList.map DT.int.aA:=by rw[Array.toList_setIfInBounds,List.map_set];rfl
theorem aqf(a:Int):bC Try.prog main Fz 134 [DT.int.aA a] [] (.bool false) []:=by refine wkA j134 [.tmp 2] 6 FH.au rfl ?_;unfold j134;simp only[go_sem,seval]
def Gna(f:FuncId)(a:List SV)(m:List ay):Sx.Call:=(FH.rd 134 (.one .int) (.one .bool) (λ_=>True) (λ_=>false) FH.none) f a m
theorem aoc:type_of% (nq Gna.eq_1):=nq Gna.eq_1
theorem aod:bQ Try.prog main Fz Gna:=FH.dM (λy _=>aqf y.1) FH.au
theorem aoe(a b:Int):bC Try.prog main Fz 128 [DT.int.aA a,DT.int.aA b] [] (.bool (decide (lt a b=true))) []:=by refine wkA j128 [.tmp 4] 17 aod rfl ?_;unfold j128;simp only[go_sem,seval,aoc];simp[lt]
def Gc(f:FuncId)(a:List SV)(m:List ay):Sx.Call:=(FH.rd 128 (.two .int .int) (.one .bool) (λ_=>True) (λy=>decide (lt y.1 y.2.1=true)) FH.none) f a m
theorem cZ:type_of% (nq Gc.eq_1):=nq Gc.eq_1
theorem lZ:bQ Try.prog main Fz Gc:=FH.dM (λy _=>aoe y.1 y.2.1) FH.au
abbrev o2(s:List Int)(a b:Int)(q:Int):Nat×Nat×Nat:=Sort.order2 lt s.toArray a.toNat b.toNat q.toNat
theorem Gz(X:Array Int)(a b q:Nat)(ha:a<X.size)(hb:b<X.size)(hq:q<100):
  bC Try.prog main Fz 135 [.vec 0 X.size, .int .i64 a, .int .i64 b, .ptr 1 [] 0] [mv X, .blk 3 (.int .i64 q)]
   (.cu [.int .i64 (Sort.order2 lt X a b q).1, .int .i64 (Sort.order2 lt X a b q).2.1]) [mv X, .blk 3 (.int .i64 (Sort.order2 lt X a b q).2.2)]:=by
 refine wkA j135 [.tmp 8, .tmp 9] 28 lZ rfl ?_;have hw:z01.wrap ((q:Int)+1)=((q+1:Nat):Int):=aJ;have ha':a<X.toList.length:=by simpa using ha
 have hb':b<X.toList.length:=by simpa using hb
 unfold j135;simp only[go_sem,seval,cZ,mv,rd ha,rd hb,bn,aU,hw];refine⟨⟨by omega,by omega⟩,hb',⟨by omega,by omega⟩,ha',λh=> ?_,λh=> ?_⟩
 ·simp only[Sort.order2,h,if_true,and_self]
 ·simp only[Sort.order2,h];exact⟨rfl,rfl⟩
theorem adU(X:Array Int)(a b q:Nat):o2 X.toList a b q=Sort.order2 lt X a b q:=rfl
theorem wU{d:Array Int}{a b:Nat}(ha:a<d.size)(hb:b<d.size)(q:Nat):(Sort.order2 lt d a b q).1<d.size/\(Sort.order2 lt d a b q).2.1<d.size/\(Sort.order2 lt d a b q).2.2<=q+1:=by
 unfold Sort.order2;split
 ·exact⟨hb,ha,z07 _⟩
 ·exact⟨ha,hb,Nat.le_succ _⟩
def o2P(s:List Int)(y:Int×Int×Unit)(q:Int):Prop:=((0<=y.1/\y.1<s.length)/\0<=y.2.1/\y.2.1<s.length)/\0<=q/\q<100
def Go2(f:FuncId)(a:List SV)(m:List ay):Sx.Call:=(FH.sw 135 2 TP 1 DT.int 3 (.two .int .int) [] (.two .int .int) o2P (λs y q=>(((o2 s y.1 y.2.1 q).1:Int),((o2 s y.1 y.2.1 q).2.1:Int))) (λs y q=>((o2 s y.1 y.2.1 q).2.2:Int)) FH.none) f a m
theorem Vq:type_of% (nq Go2.eq_1):=nq Go2.eq_1
theorem aY{x:Int}(h:0<=x):∃ n:Nat,x=n:=⟨x.toNat,by omega⟩
theorem Vs:bQ Try.prog main Fz Go2:=FH.Kt (by decide) (by kernel_rfl) (λr=>rfl) (λs y q h=>by
 obtain⟨y1,y2,⟨⟩⟩:=y;obtain⟨⟨⟨h1,h2⟩,h3,h4⟩,h5,h6⟩:=h;simp only at h1 h2 h3 h4;obtain⟨a,rfl⟩:=aY h1;obtain⟨b,rfl⟩:=aY h3;obtain⟨c,rfl⟩:=aY h5;have:=Gz (main:=main) (Fz:=Fz) s.toArray a b c (by simpa using h2) (by simpa using h4) (by omega)
 exact this) FH.au
theorem GH(X:Array Int)(a b c q:Nat)(ha:a<X.size)(hb:b<X.size)(hc:c<X.size)(hq:q<90):
  bC Try.prog main Fz 133 [.vec 0 X.size, .int .i64 a, .int .i64 b, .int .i64 c, .ptr 1 [] 0] [mv X, .blk 3 (.int .i64 q)]
   (.int .i64 (Sort.median lt X a b c q).1) [mv X, .blk 3 (.int .i64 (Sort.median lt X a b c q).2)]:=by
 refine wkA j133 [.tmp 10] 36 Vs rfl ?_;unfold j133;simp only[go_sem,seval,Vq,mv];simp only[adU];have k1:=wU (d:=X) ha hb q;generalize hr1:Sort.order2 lt X a b q=r1 at k1;have k2:=wU (d:=X) k1.2.1 hc r1.2.2;generalize hr2:Sort.order2 lt X r1.2.1 c r1.2.2=r2 at k2;refine⟨⟨⟨⟨z00 _,by simpa using ha⟩,z00 _,by simpa using hb⟩,z00 _,by omega⟩,⟨⟨⟨z00 _,by simpa using k1.2.1⟩,z00 _,by simpa using hc⟩,z00 _,by omega⟩,⟨⟨⟨z00 _,by simpa using k1.1⟩,z00 _,by simpa using k2.1⟩,z00 _,by omega⟩,?_,?_⟩
 ·simp only[Sort.median,hr1,hr2]
 ·simp only[Sort.median,hr1,hr2]
def med(s:List Int)(a b c q:Int):Nat×Nat:=Sort.median lt s.toArray a.toNat b.toNat c.toNat q.toNat
theorem GI(X:Array Int)(a b c q:Nat):med X.toList a b c q=Sort.median lt X a b c q:=rfl
def Vt(s:List Int)(y:Int×Int×Int×Unit)(q:Int):Prop:=((0<=y.1/\y.1<s.length)/\(0<=y.2.1/\y.2.1<s.length)/\0<=y.2.2.1/\y.2.2.1<s.length)/\0<=q/\q<90
def Vu(f:FuncId)(a:List SV)(m:List ay):Sx.Call:=(FH.sw 133 3 TP 1 DT.int 3 (.three .int .int .int) [] (.one .int) Vt (λs y q=>((med s y.1 y.2.1 y.2.2.1 q).1:Int)) (λs y q=>((med s y.1 y.2.1 y.2.2.1 q).2:Int)) FH.none) f a m
theorem Nc:type_of% (nq Vu.eq_1):=nq Vu.eq_1
theorem AO:bQ Try.prog main Fz Vu:=FH.Kt (by decide) (by kernel_rfl) (λr=>rfl) (λs y q h=>by
 obtain⟨y1,y2,y3,⟨⟩⟩:=y;obtain⟨⟨⟨h1,h2⟩,⟨h3,h4⟩,h7,h8⟩,h5,h6⟩:=h;simp only at h1 h2 h3 h4 h7 h8;obtain⟨a,rfl⟩:=aY h1;obtain⟨b,rfl⟩:=aY h3;obtain⟨e,rfl⟩:=aY h7;obtain⟨c,rfl⟩:=aY h5;have:=GH (main:=main) (Fz:=Fz) s.toArray a b e c (by simpa using h2) (by simpa using h4) (by simpa using h8) (by omega)
 exact this) FH.au
theorem CW(X:Array Int)(a q:Nat)(ha:0<a)(hb:a+1<X.size)(hn:a<1000000)(hq:q<90):
  bC Try.prog main Fz 132 [.vec 0 X.size, .int .i64 a, .ptr 1 [] 0] [mv X, .blk 3 (.int .i64 q)]
   (.int .i64 (Sort.medianAdjacent lt X a q).1) [mv X, .blk 3 (.int .i64 (Sort.medianAdjacent lt X a q).2)]:=by
 refine wkA j132 [.tmp 6] 15 AO rfl ?_;have hw:z01.wrap ((a:Int) - 1)=((a - 1:Nat):Int):=by rw[aJ];omega
 have hw2:z01.wrap ((a:Int)+1)=((a+1:Nat):Int):=aJ;unfold j132;simp only[go_sem,seval,Nc,mv,hw,hw2,GI];refine⟨⟨⟨⟨z00 _,?_⟩,⟨z00 _,?_⟩,z00 _,?_⟩,z00 _,by omega⟩,rfl,rfl⟩
 ·simp;omega
 ·simp;omega
 ·simp;omega
def mdA(s:List Int)(a q:Int):Nat×Nat:=Sort.medianAdjacent lt s.toArray a.toNat q.toNat
theorem Vw(X:Array Int)(a q:Nat):mdA X.toList a q=Sort.medianAdjacent lt X a q:=rfl
def adV(s:List Int)(y:Int×Unit)(q:Int):Prop:=(0<y.1/\y.1+1<s.length)/\(0<=q/\q<90)/\y.1<1000000
def Gpv(f:FuncId)(a:List SV)(m:List ay):Sx.Call:=(FH.sw 132 1 TP 1 DT.int 3 (.one .int) [] (.one .int) adV (λs y q=>((mdA s y.1 q).1:Int)) (λs y q=>((mdA s y.1 q).2:Int))<|
 FH.sw 133 3 TP 1 DT.int 3 (.three .int .int .int) [] (.one .int) Vt (λs y q=>((med s y.1 y.2.1 y.2.2.1 q).1:Int)) (λs y q=>((med s y.1 y.2.1 y.2.2.1 q).2:Int)) FH.none) f a m
theorem GK:type_of% (nq Gpv.eq_1):=nq Gpv.eq_1
theorem Vx:bQ Try.prog main Fz Gpv:=FH.Kt (by decide) (by kernel_rfl) (λr=>rfl) (λs y q h=>by
 obtain⟨y1,⟨⟩⟩:=y;obtain⟨⟨h1,h2⟩,⟨h3,h4⟩,h5⟩:=h;simp only at h1 h2 h5;obtain⟨a,rfl⟩:=aY (Int.le_of_lt h1);obtain⟨c,rfl⟩:=aY h3;have:=CW (main:=main) (Fz:=Fz) s.toArray a c (by omega) (by simp;omega) (by omega) (by omega)
 exact this) AO
end Go.Proofs.Ytpajfggdnobheaa.PI
namespace Go.Proofs.Ytpajfggdnobheaa.PI
variable {main:Bool} {Fz:Nat->Prop}
open D
def j125:JC:=(qN (o8 6 0<|o8 7 0<|.nil) (qN (o7 13 2<|o7 14 1<|qo 15 (.ar .sub (.t 13) (.t 14))<|o7 8 15<|.nil) (qN (eo 9 (.alloc 3 (.int .i64 0))<|.nil) (qN (qL [1,8,0,9]<|o7 16 1<|o7 17 8<|qo 18 (.ar .quo (.t 17) (I 4))<|qo 19 (.ar .mul (.t 18) (I 1))<|qo 20 (.ar .add (.t 16) (.t 19))<|o7 10 20<|.nil) (qM [1,8,0,10,9] (qN (o7 21 1<|o7 22 8<|qo 23 (.ar .quo (.t 22) (I 4))<|qo 24 (.ar .mul (.t 23) (I 2))<|qo 25 (.ar .add (.t 21) (.t 24))<|o7 11 25<|.nil) (qM [1,8,0,10,9,11] (qN (o7 26 1<|o7 27 8<|qo 28 (.ar .quo (.t 27) (I 4))<|qo 29 (.ar .mul (.t 28) (I 3))<|qo 30 (.ar .add (.t 26) (.t 29))<|o7 12 30<|.nil) (qM [8,0,10,9,11,12] (.seq (qN (o7 31 8<|qo 32 (.cmp .geq (.t 31) (I 8))<|.nil) (qO 32 (.seq (qN (o7 33 8<|qo 34 (.cmp .geq (.t 33) (I 50))<|.nil) (qM [34,0,10,9,11,12] (qO 34 (qN (o7 35 0<|o7 36 10<|eo 37 (.call 132 [(.t 35),(.t 36),(.t 9)])<|o7 10 37<|.nil) (qM [0,11,9,12,10] (qN (o7 38 0<|o7 39 11<|eo 40 (.call 132 [(.t 38),(.t 39),(.t 9)])<|o7 11 40<|.nil) (.ops<|qL [0,12,9,10,11]<|o7 41 0<|o7 42 12<|eo 43 (.call 132 [(.t 41),(.t 42),(.t 9)])<|o7 12 43<|.nil)))) .skip))) (qM [0,10,11,12,9] (.ops<|o7 44 0<|o7 45 10<|o7 46 11<|qL [12,44,45,46,9]<|o7 47 12<|eo 48 (.call 133 [(.t 44),(.t 45),(.t 46),(.t 47),(.t 9)])<|o7 11 48<|.nil))) .skip)) (qM [9,11] (qN (o9 49 1 9<|.nil) (.block 0 (qN (oH 52 49 0<|o7 51 52<|.nil) (qO 51 (qN (o7 53 11<|o7 6 53<|o8 7 1<|.nil) .ret) (qN (oH 55 49 12<|o7 54 55<|.nil) (qO 54 (qN (qL [11]<|o7 56 11<|o7 6 56<|o8 7 2<|.nil) .ret) (qN (qL [11]<|o7 50 11<|o7 6 50<|o8 7 0<|.nil) .ret))))))))))))))))))
def aeA:JC:=(.seq (qN (o7 11 6<|o7 12 7<|oN 13 11 12<|.nil) (qO 13 .skip (.exit 0))) (.block 1 (.seq (.aZ<|o7 14 0<|qL [6,0,7,14]<|o7 15 6<|o7 16 0<|o7 17 7<|o7 18 0<|o7 19 7<|oJ 20 1 18 19<|o9 21 1 20<|qL [0,6,14,15,21,16,17,7]<|o7 22 0<|o7 23 6<|oJ 24 1 22 23<|o9 25 1 24<|qL [14,15,21,16,17,25,6,7,0]<|oJ 26 1 14 15<|oG 1 26 21<|oJ 27 1 16 17<|oG 1 27 25<|.nil) (qM [6,7,0] (qN (o7 28 6<|oI 29 28 1<|o7 6 29<|.nil) (.ops<|o7 30 7<|qo 31 (.ar .sub (.t 30) (I 1))<|o7 7 31<|.nil))))))
def j126:JC:=(qN (o7 8 1<|o7 6 8<|.nil) (qN (o7 9 2<|qo 10 (.ar .sub (.t 9) (I 1))<|o7 7 10<|.nil) (.block 0 (.loop [0] [6,7] aeA))))
def dZ:Sort.Hint->Int
 | .unknown=>0
 | .increasing=>1
 | .decreasing=>2
theorem zO{d:Array Int}{a b c:Nat}(ha:a<d.size)(hb:b<d.size)(hc:c<d.size)(q:Nat):(Sort.median lt d a b c q).1<d.size/\(Sort.median lt d a b c q).2<=q+3:=by have k1:=wU (d:=d) ha hb q;have k2:=wU (d:=d) k1.2.1 hc (Sort.order2 lt d a b q).2.2;have k3:=wU (d:=d) k1.1 k2.1 (Sort.order2 lt d (Sort.order2 lt d a b q).2.1 c (Sort.order2 lt d a b q).2.2).2.2;exact⟨k3.2.1,by unfold Sort.median;simp only;omega⟩
def fZ(r:Nat×Nat):Nat×Sort.Hint:=(r.1,if r.2=0 then .increasing else if r.2=12 then .decreasing else .unknown)
theorem xk(r:Nat×Nat):((r.2:Int)=0->SV.cu [.int .i64 r.1, .int .i64 1]= .cu [.int .i64 (fZ r).1, .int .i64 (dZ (fZ r).2)])/\
  (¬ (r.2:Int)=0->((r.2:Int)=12->SV.cu [.int .i64 r.1, .int .i64 2]= .cu [.int .i64 (fZ r).1, .int .i64 (dZ (fZ r).2)])/\
  (¬ (r.2:Int)=12->SV.cu [.int .i64 r.1, .int .i64 0]= .cu [.int .i64 (fZ r).1, .int .i64 (dZ (fZ r).2)])):=by
 refine⟨λh=> ?_,λh=>⟨λh2=> ?_,λh2=> ?_⟩⟩
 ·rw[fZ,if_pos (by omega)];rfl
 ·rw[fZ,if_neg (by omega),if_pos (by omega)];rfl
 ·rw[fZ,if_neg (by omega),if_neg (by omega)];rfl
theorem NP(X:Array Int)(a b:Nat)(hab:a<b)(hb:b<=X.size)(hX:X.size<1000000):
  bC Try.prog main Fz 125 [.vec 0 X.size, .int .i64 a, .int .i64 b] [mv X]
   (.cu [.int .i64 (Sort.choosePivot lt X a b).1, .int .i64 (dZ (Sort.choosePivot lt X a b).2)]) [mv X]:=by
 refine wkA j125 [.tmp 6, .tmp 7] 57 Vx rfl ?_;obtain⟨l,hl⟩:∃ l:Nat,l=b - a:=⟨_,rfl⟩;have w1:z01.wrap ((b:Int) - a)=(l:Int):=by rw[aJ];omega
 have q4:(l:Int).tdiv 4=((l/4:Nat):Int):=rfl;have wq:z01.wrap ((l/4:Nat):Int)=((l/4:Nat):Int):=aJ;obtain⟨i,hi⟩:∃ i:Nat,i=a+l/4*1:=⟨_,rfl⟩;obtain⟨j,hj⟩:∃ i:Nat,i=a+l/4*2:=⟨_,rfl⟩;obtain⟨k,hk⟩:∃ i:Nat,i=a+l/4*3:=⟨_,rfl⟩;have m1:z01.wrap ((a:Int)+z01.wrap (((l/4:Nat):Int)*1))=(i:Int):=by rw[z0e ((((l/4:Nat):Int)*1)) (by omega),aJ];omega
 have m2:z01.wrap ((a:Int)+z01.wrap (((l/4:Nat):Int)*2))=(j:Int):=by rw[z0e ((((l/4:Nat):Int)*2)) (by omega),aJ];omega
 have m3:z01.wrap ((a:Int)+z01.wrap (((l/4:Nat):Int)*3))=(k:Int):=by rw[z0e ((((l/4:Nat):Int)*3)) (by omega),aJ];omega
 have z1:mdA X.toList (i:Int) 0=Sort.medianAdjacent lt X i 0:=rfl;have z2:med X.toList (i:Int) j k 0=Sort.median lt X i j k 0:=rfl;have p1:∀ u q:Nat,0<u->u+1<X.size->q<90->adV X.toList ((u:Int),()) (q:Int):=λu q h1 h2 h3=>⟨⟨by simp only;omega,by simp only[z0b];omega⟩,⟨by omega,by omega⟩,by simp only;omega⟩
 have p2:∀ u v x q:Nat,u<X.size->v<X.size->x<X.size->q<90->Vt X.toList ((u:Int),(v:Int),(x:Int),()) (q:Int):=λu v x q h1 h2 h3 h4=>⟨⟨⟨by simp only;omega,by simp only[z0b];omega⟩,⟨by simp only;omega,by simp only[z0b];omega⟩,by simp only;omega,by simp only[z0b];omega⟩,by omega,by omega⟩
 have sw:∀ q:Nat,(∀ R:Prop,((q:Int)=0->R)↔(q=0->R))/\∀ R:Prop,((q:Int)=12->R)↔(q=12->R):=λq=>⟨λR=>by constructor<;>intro h e<;>exact h (by omega),λR=>by constructor<;>intro h e<;>exact h (by omega)⟩
 by_cases h8:8<=l
 ·have h8':(8:Int)<=l:=by omega
  by_cases h50:50<=l
  ·have xq:(50:Int)<=l:=by omega
   unfold j125;simp only[go_sem,seval,GK,mv,w1,q4,wq,m1,m2,m3,h8',xq,z1,Vw,GI];have k1:=zO (d:=X) (a:=i - 1) (b:=i) (c:=i+1) (by omega) (by omega) (by omega) 0
   change (Sort.medianAdjacent lt X i 0).1<_/\(Sort.medianAdjacent lt X i 0).2<=_ at k1;have hc:Sort.choosePivot lt X a b=fZ (Sort.median lt X (Sort.medianAdjacent lt X i 0).1 (Sort.medianAdjacent lt X j (Sort.medianAdjacent lt X i 0).2).1 (Sort.medianAdjacent lt X k (Sort.medianAdjacent lt X j (Sort.medianAdjacent lt X i 0).2).2).1 (Sort.medianAdjacent lt X k (Sort.medianAdjacent lt X j (Sort.medianAdjacent lt X i 0).2).2).2):=by unfold Sort.choosePivot fZ;rw[<- hl];simp only[<- hi,<- hj,<- hk,ge_iff_le,if_pos h8,if_pos h50]
   rw[hc];generalize hr1:Sort.medianAdjacent lt X i 0=r1 at k1 ⊢;have k2:=zO (d:=X) (a:=j - 1) (b:=j) (c:=j+1) (by omega) (by omega) (by omega) r1.2
   change (Sort.medianAdjacent lt X j r1.2).1<_/\(Sort.medianAdjacent lt X j r1.2).2<=_ at k2;generalize hr2:Sort.medianAdjacent lt X j r1.2=r2 at k2 ⊢;have k3:=zO (d:=X) (a:=k - 1) (b:=k) (c:=k+1) (by omega) (by omega) (by omega) r2.2
   change (Sort.medianAdjacent lt X k r2.2).1<_/\(Sort.medianAdjacent lt X k r2.2).2<=_ at k3;generalize hr3:Sort.medianAdjacent lt X k r2.2=r3 at k3 ⊢;exact⟨p1 i 0 (by omega) (by omega) (by omega),p1 j _ (by omega) (by omega) (by omega),p1 k _ (by omega) (by omega) (by omega),p2 _ _ _ _ k1.1 k2.1 k3.1 (by omega),xk _⟩
  ·have xq:¬ (50:Int)<=l:=by omega
   unfold j125;simp only[go_sem,seval,GK,mv,w1,q4,wq,m1,m2,m3,h8',xq,z2];have hc:Sort.choosePivot lt X a b=fZ (Sort.median lt X i j k 0):=by unfold Sort.choosePivot fZ;rw[<- hl];simp only[<- hi,<- hj,<- hk,ge_iff_le,if_pos h8,if_neg h50]
   rw[hc];exact⟨p2 i j k 0 (by omega) (by omega) (by omega) (by omega),xk _⟩
 ·have h8':¬ (8:Int)<=l:=by omega
  unfold j125;simp only[go_sem,seval,mv,w1,q4,wq,m1,m2,m3,h8'];have hc:Sort.choosePivot lt X a b=fZ (j,0):=by unfold Sort.choosePivot fZ;rw[<- hl];simp only[<- hi,<- hj,<- hk,ge_iff_le,if_neg h8]
  rw[hc];rfl
theorem bf(X:Array Int)(i j:Nat):(X.setIfInBounds i X[j]!).setIfInBounds j X[i]! =Sort.swp X i j:=rfl
theorem wdz{Z:Array Int}{k:Nat}(h:k<Z.size):wd ((Z.toList.map DT.int.aA).getD k .junk)=1:=by rw[rd h];rfl
theorem aeh(X:Array Int)(a b:Nat)(hab:a<b)(hb:b<=X.size)(hX:X.size<1000000):
  bC Try.prog main Fz 126 [.vec 0 X.size, .int .i64 a, .int .i64 b] [mv X]
   (.cu []) [mv (Sort.reverseRange X a b)]:=by
 refine wkA j126 [] 32 FH.au rfl ?_;have w1:z01.wrap ((b:Int) - 1)=((b - 1:Nat):Int):=by rw[aJ];omega
 unfold j126;simp only[go_sem,seval,mv,w1];refine bU (Nat×Nat×Array Int) (λs=>[.int .i64 s.1, .int .i64 s.2.1]) (λs=>[mv s.2.2]) (λs=>s.2.1<b/\s.2.2.size=X.size/\Sort.reverseLoop s.1 s.2.1 s.2.2=Sort.reverseRange X a b) (λs=>s.2.1 - s.1) (a,b - 1,X) ⟨by simp only;omega,rfl,rfl⟩ ?_ rfl ?_
 ·simp only[go_sem,seval]
 rintro⟨i,j,Y⟩ ⟨h1,h2,h3⟩;simp only at h1 h2 h3;have hl:Y.toList.length=X.toList.length:=by simpa using h2
 unfold aeA;by_cases h:i<j
 ·have h':(i:Int)<j:=by omega
  have w2:z01.wrap ((i:Int)+1)=((i+1:Nat):Int):=aJ;have w3:z01.wrap ((j:Int) - 1)=((j - 1:Nat):Int):=by rw[aJ];omega
  have hi:i<Y.size:=by omega
  have hj:j<Y.size:=by omega
  simp only[go_sem,seval,h',mv,rd hi,rd hj,wr,bn,aU,bf,w2,w3,z0b,z0n];refine⟨⟨by omega,by omega⟩,hj,⟨by omega,by omega⟩,hi,⟨by omega,by omega⟩,hi,⟨by omega,by omega⟩,⟨hj,wdz (by simpa using hj)⟩,(i+1,j - 1,Sort.swp Y i j),⟨by simp only;omega,by simpa[Sort.swp] using h2,?_⟩,by simp only;omega,⟨rfl,rfl⟩,rfl⟩
  rw[<- h3,Sort.reverseLoop.eq_def i j,if_pos h]
 ·have h':¬ (i:Int)<j:=by omega
  simp only[go_sem,seval,h',mv];rw[<- h3,Sort.reverseLoop.eq_def i j,if_neg h]
end Go.Proofs.Ytpajfggdnobheaa.PI
namespace Go.Proofs.Ytpajfggdnobheaa.PI
variable {main:Bool} {Fz:Nat->Prop}
open D
def Xv:JC:=(.seq (.seq (.aZ<|o7 16 7<|o7 17 1<|qo 18 (.cmp .gtr (.t 16) (.t 17))<|o7 19 18<|qL [19,0,7,1,6,2]<|.sc false 30 19 (o7 20 0<|o7 21 7<|oJ 22 1 20 21<|o9 23 1 22<|o7 24 0<|o7 25 7<|qo 26 (.ar .sub (.t 25) (I 1))<|oJ 27 1 24 26<|o9 28 1 27<|qF 29 128 23 28<|.nil) (.t 29)<|.nil) (qO 30 .skip (.exit 2))) (qM [0,7,1,6,2] (.seq (.block 3 (.aZ<|o7 33 0<|o7 34 7<|o7 35 0<|o7 36 7<|qo 37 (.ar .sub (.t 36) (I 1))<|o7 38 0<|o7 39 7<|qo 40 (.ar .sub (.t 39) (I 1))<|oJ 41 1 38 40<|qL [41,0,7,33,34,35,37,1,6,2]<|o9 42 1 41<|o7 43 0<|o7 44 7<|oJ 45 1 43 44<|qL [45,33,34,42,35,37,7,1,0,6,2]<|o9 46 1 45<|oJ 47 1 33 34<|qL [47,42,35,37,46,7,1,0,6,2]<|oG 1 47 42<|oJ 48 1 35 37<|oG 1 48 46<|.nil)) (qM [7,1,0,6,2] (.ops<|o7 31 7<|qo 32 (.ar .sub (.t 31) (I 1))<|o7 7 32<|.nil)))))
def Xw:JC:=(qM [6,2,1,0] (.ops<|o7 13 6<|oI 14 13 1<|o7 6 14<|.nil))
def af4:JC:=(.seq (qN (o7 10 6<|o7 11 2<|oN 12 10 11<|.nil) (qO 12 .skip (.exit 0))) (.seq (.block 1 (qN (o7 15 6<|o7 7 15<|.nil) (.block 2 (.loop [1,0,6,2] [7] Xv)))) Xw))
def j122:JC:=(qN (o7 8 1<|oI 9 8 1<|o7 6 9<|.nil) (.block 0 (.loop [2,1,0] [6] af4)))
def OI:JC:=(.block 1 (qN (o7 11 8<|qo 12 (.ar .mul (I 2) (.t 11))<|oI 13 12 1<|o7 9 13<|.nil) (.seq (qN (qL [9,2,0,3,8]<|o7 14 9<|o7 15 2<|qo 16 (.cmp .geq (.t 14) (.t 15))<|.nil) (qO 16 (.exit 0) .skip)) (qM [9,2,0,3,8] (.seq (.seq (.aZ<|o7 17 9<|oI 18 17 1<|o7 19 2<|oN 20 18 19<|qL [20,0,3,9,8,2]<|o7 21 20<|.sc false 36 21 (o7 22 0<|o7 23 3<|o7 24 9<|qo 25 (.ar .add (.t 23) (.t 24))<|oJ 26 1 22 25<|o9 27 1 26<|o7 28 0<|o7 29 3<|o7 30 9<|qo 31 (.ar .add (.t 29) (.t 30))<|oI 32 31 1<|oJ 33 1 28 32<|o9 34 1 33<|qF 35 128 27 34<|.nil) (.t 35)<|.nil) (qM [36,9,0,3,8,2] (qO 36 (.ops<|o7 37 9<|oI 38 37 1<|o7 9 38<|.nil) .skip))) (qM [0,3,8,9,2] (.seq (.seq (.aZ<|o7 39 0<|o7 40 3<|o7 41 8<|qo 42 (.ar .add (.t 40) (.t 41))<|oJ 43 1 39 42<|qL [43,0,3,9,8,2]<|o9 44 1 43<|o7 45 0<|o7 46 3<|o7 47 9<|qo 48 (.ar .add (.t 46) (.t 47))<|qL [45,48,44,0,3,8,9,2]<|oJ 49 1 45 48<|o9 50 1 49<|qF 51 128 44 50<|qE 52 51<|.nil) (qO 52 .ret .skip)) (qM [0,3,8,9,2] (.seq (.aZ<|o7 53 0<|o7 54 3<|o7 55 8<|qo 56 (.ar .add (.t 54) (.t 55))<|o7 57 0<|o7 58 3<|o7 59 9<|qo 60 (.ar .add (.t 58) (.t 59))<|qL [0,3,9,8,53,56,57,60,2]<|o7 61 0<|o7 62 3<|o7 63 9<|qo 64 (.ar .add (.t 62) (.t 63))<|oJ 65 1 61 64<|qL [65,0,3,8,53,56,57,60,9,2]<|o9 66 1 65<|o7 67 0<|o7 68 3<|o7 69 8<|qo 70 (.ar .add (.t 68) (.t 69))<|qL [67,70,53,56,66,57,60,9,2,0,3]<|oJ 71 1 67 70<|o9 72 1 71<|qL [53,56,66,57,60,72,9,2,0,3]<|oJ 73 1 53 56<|oG 1 73 66<|oJ 74 1 57 60<|oG 1 74 72<|.nil) (qM [9,2,0,3] (.ops<|o7 75 9<|o7 8 75<|.nil)))))))))))
def j131:JC:=(qN (o7 10 1<|o7 8 10<|.nil) (.block 0 (.loop [2,0,3] [8] OI)))
def af5:JC:=(.seq (qN (o7 18 9<|qo 19 (.cmp .geq (.t 18) (I 0))<|.nil) (qO 19 .skip (.exit 0))) (.seq (.block 1 (.ops<|o7 22 0<|o7 23 9<|o7 24 8<|o7 25 6<|eo 26 (.call 131 [(.t 22),(.t 23),(.t 24),(.t 25)])<|.nil)) (qM [9,0,8,6,7] (.ops<|o7 20 9<|qo 21 (.ar .sub (.t 20) (I 1))<|o7 9 21<|.nil))))
def Xx:JC:=(.seq (qN (o7 29 10<|qo 30 (.cmp .geq (.t 29) (I 0))<|.nil) (qO 30 .skip (.exit 2))) (.seq (.block 3 (.seq (.aZ<|o7 33 0<|o7 34 6<|o7 35 0<|o7 36 6<|o7 37 10<|qo 38 (.ar .add (.t 36) (.t 37))<|qL [0,6,10,33,34,35,38,7]<|o7 39 0<|o7 40 6<|o7 41 10<|qo 42 (.ar .add (.t 40) (.t 41))<|oJ 43 1 39 42<|qL [43,0,6,33,34,35,38,7,10]<|o9 44 1 43<|o7 45 0<|o7 46 6<|oJ 47 1 45 46<|qL [47,33,34,44,35,38,0,7,10,6]<|o9 48 1 47<|oJ 49 1 33 34<|qL [49,44,35,38,48,0,7,10,6]<|oG 1 49 44<|oJ 50 1 35 38<|oG 1 50 48<|.nil) (qM [0,7,10,6] (.ops<|o7 51 0<|o7 52 7<|o7 53 10<|o7 54 6<|eo 55 (.call 131 [(.t 51),(.t 52),(.t 53),(.t 54)])<|.nil)))) (qM [10,0,6,7] (.ops<|o7 31 10<|qo 32 (.ar .sub (.t 31) (I 1))<|o7 10 32<|.nil))))
def af6:JC:=(qM [8,0,6,7] (qN (o7 27 8<|qo 28 (.ar .sub (.t 27) (I 1))<|o7 10 28<|.nil) (.block 2 (.loop [0,6,7] [10] Xx))))
def j123:JC:=(qN (o7 11 1<|o7 6 11<|.nil) (qN (o8 7 0<|.nil) (qN (o7 12 2<|o7 13 1<|qo 14 (.ar .sub (.t 12) (.t 13))<|o7 8 14<|.nil) (.seq (qN (qL [8,0,6,7]<|o7 15 8<|qo 16 (.ar .sub (.t 15) (I 1))<|qo 17 (.ar .quo (.t 16) (I 2))<|o7 9 17<|.nil) (qM [9,0,8,6,7] (.block 0 (.loop [0,8,6,7] [9] af5)))) af6))))
theorem swp_size(X:Array Int)(i j:Nat):(Sort.swp X i j).size=X.size:=by simp[Sort.swp]
theorem aeg(X:Array Int)(a b:Nat)(hb:b<=X.size)(hX:X.size<1000000)(ha:a<=b):
  bC Try.prog main Fz 122 [.vec 0 X.size, .int .i64 a, .int .i64 b] [mv X]
   (.cu []) [mv (Sort.insertionSort lt X a b)]:=by
 refine wkA j122 [] 49 lZ rfl ?_;have w1:z01.wrap ((a:Int)+1)=((a+1:Nat):Int):=aJ;unfold j122;simp only[go_sem,seval,mv,w1];refine bU (Nat×Array Int) (λs=>[.int .i64 s.1]) (λs=>[mv s.2]) (λs=>a<s.1/\s.1<=b+1/\s.2.size=X.size/\Sort.insOuter lt a b s.1 s.2=Sort.insertionSort lt X a b) (λs=>b+1 - s.1) (a+1,X) ⟨by simp only;omega,by simp only;omega,rfl,rfl⟩ ?_ rfl ?_
 ·simp only[go_sem,seval]
 rintro⟨i,Y⟩ ⟨h0,h1,h2,h3⟩;simp only at h0 h1 h2 h3;unfold af4;by_cases h:i<b
 ·have h':(i:Int)<b:=by omega
  simp only[go_sem,seval,h',mv];refine bU (Nat×Array Int) (λs=>[.int .i64 s.1]) (λs=>[mv s.2]) (λs=>a<=s.1/\s.1<=i/\s.2.size=X.size/\Sort.insInner lt a s.1 s.2=Sort.insInner lt a i Y) (λs=>s.1) (i,Y) ⟨by simp only;omega,by simp only;omega,h2,rfl⟩ ?_ rfl ?_
  ·simp only[go_sem,seval]
  rintro⟨j,Z⟩ ⟨k0,k1,k2,k3⟩;simp only at k0 k1 k2 k3;have w2:z01.wrap ((i:Int)+1)=((i+1:Nat):Int):=aJ;have w3:z01.wrap ((j:Int) - 1)=((j:Int) - 1):=aJ;by_cases hj:a<j
  ·obtain⟨q,rfl⟩:∃ q,j=q+1:=⟨j - 1,by omega⟩
   have hj':((a:Int)< ((q+1:Nat):Int))=True:=by simp;omega
   have e1:(((q+1:Nat):Int) - 1)=(q:Int):=by omega
   rw[e1] at w3;have r1:q+1<Z.size:=by omega
   have r0:q<Z.size:=by omega
   unfold Xv;simp only[go_sem,seval,hj',w3,e1,mv,cZ,rd r1,rd r0,wr,bn,aU,bf,z0b,z0n];refine⟨⟨⟨⟨⟨by omega,by omega⟩,r1⟩,by omega,by omega⟩,r0⟩,λhc=>⟨⟨by omega,by omega⟩,r0,⟨by omega,by omega⟩,r1,⟨by omega,by omega⟩,r1,⟨by omega,by omega⟩,⟨r0,wdz (by simpa using r0)⟩,(q,Sort.swp Z (q+1) q),⟨by simp only;omega,by simp only;omega,by rw[swp_size];exact k2,?_⟩,by simp only;omega,rfl,rfl⟩,λhc=> ?_⟩
   ·rw[<- k3,Sort.insInner,if_pos (by simp only[z06,decide_eq_true_eq];exact⟨hj,hc⟩)]
   ·unfold Xw;simp only[go_sem,seval,w2];refine⟨(i+1,Z),⟨by simp only;omega,by simp only;omega,k2,?_⟩,by simp only;omega,rfl,rfl⟩
    rw[<- h3,Sort.insOuter.eq_def lt a b i,if_pos h,<- k3,Sort.insInner,if_neg (by simp only[z06,decide_eq_true_eq];exact λx=>hc x.2)]
  ·have hj':((a:Int)< (j:Int))=False:=by simp;omega
   have r1:j<Z.size:=by omega
   have r0:j - 1<Z.size:=by omega
   have e1:(z01.wrap ((j:Int) - 1)).toNat=j - 1:=by rw[w3];omega
   unfold Xv;simp only[go_sem,seval,hj',cZ,mv,rd r1,rd r0,e1,bn,aU];unfold Xw;simp only[go_sem,seval,w2];refine⟨(i+1,Z),⟨by simp only;omega,by simp only;omega,k2,?_⟩,by simp only;omega,rfl,rfl⟩
   rw[<- h3,Sort.insOuter.eq_def lt a b i,if_pos h,<- k3];cases j with
   |zero=>rfl
   |succ q=>rw[Sort.insInner,if_neg (by simp only[z06,decide_eq_true_eq];exact λx=>hj x.1)]
 ·have h':¬ (i:Int)<b:=by omega
  simp only[go_sem,seval,h',mv];rw[<- h3,Sort.insOuter.eq_def,if_neg h]
theorem Ns{x:Bool}(h:¬ x=true):(!x)=true:=by cases x<;>simp_all
theorem Nu{x:Bool}(h:x=true):¬ (!x)=true:=by cases x<;>simp_all
theorem ab{p:Prop}[Decidable p]{x:Bool}(h1:p)(h2:x=true):(decide p&&x)=true:=by simp[h1,h2]
theorem WC{p:Prop}[Decidable p]{x:Bool}(h:¬ p):¬ (decide p&&x)=true:=by simp[h]
theorem WE{p:Prop}[Decidable p]{x:Bool}(h:¬ x=true):¬ (decide p&&x)=true:=by simp[h]
theorem WG(X:Array Int)(lo hi first:Nat)(hf:first+hi<=X.size)(hX:X.size<1000000)(hlo:lo<1000000):
  bC Try.prog main Fz 131 [.vec 0 X.size, .int .i64 lo, .int .i64 hi, .int .i64 first] [mv X]
   (.cu []) [mv (Sort.siftDown lt hi first lo X)]:=by
 refine wkA j131 [] 76 lZ rfl ?_;unfold j131;simp only[go_sem,seval,mv];refine bU (Nat×Array Int) (λs=>[.int .i64 s.1]) (λs=>[mv s.2]) (λs=>s.1<1000000/\s.2.size=X.size/\Sort.siftDown lt hi first s.1 s.2=Sort.siftDown lt hi first lo X) (λs=>1000000 - s.1) (lo,X) ⟨hlo,rfl,rfl⟩ ?_ rfl ?_
 ·simp only[go_sem,seval]
 rintro⟨root,Z⟩ ⟨h0,h1,h2⟩;simp only at h0 h1 h2;have m1:z01.wrap (2*(root:Int))=2*(root:Int):=aJ;obtain⟨c,hc⟩:∃ c,c=2*root+1:=⟨_,rfl⟩;have m2:z01.wrap (2*(root:Int)+1)=(c:Int):=by rw[aJ];omega
 have m3:z01.wrap ((c:Int)+1)=((c+1:Nat):Int):=aJ;have m4:z01.wrap ((first:Int)+c)=((first+c:Nat):Int):=aJ
 have m5:z01.wrap (((first+c:Nat):Int)+1)=((first+c+1:Nat):Int):=aJ
 have m6:z01.wrap ((first:Int)+root)=((first+root:Nat):Int):=aJ
 have m7:z01.wrap ((first:Int)+((c+1:Nat):Int))=((first+c+1:Nat):Int):=aJ
 by_cases hch:hi<=c
 ·unfold OI;simp only[go_sem,seval,m1,m2,hch,mv,z09];rw[<- h2,Sort.siftDown.eq_def,dif_pos (by omega)]
 have rc:first+c<X.size:=by omega
 have rr:first+root<X.size:=by omega
 have Dk:¬ 2*root+1≥hi:=by omega
 by_cases hc2:c+1<hi
 ·have rc1:first+c+1<X.size:=by omega
  unfold OI;simp only[go_sem,seval,m1,m2,m3,m4,m5,m6,m7,hch,hc2,cZ,mv,rd,rc,rr,rc1,wr,bn,aU,bf,h1,z02,z09,z00];subst hc;refine⟨λhA=>⟨λhB=> ?_,λhB=>⟨(2*root+1+1,Sort.swp Z (first+root) (first+(2*root+1)+1)),⟨by simp only;omega,by rw[swp_size];exact h1,?_⟩,by simp only;omega,rfl,rfl⟩⟩,λhA=>⟨λhB=> ?_,λhB=>⟨(2*root+1,Sort.swp Z (first+root) (first+(2*root+1))),⟨by simp only;omega,by rw[swp_size];exact h1,?_⟩,by simp only;omega,rfl,rfl⟩⟩⟩
  ·rw[<- h2,Sort.siftDown.eq_def lt hi first root,dif_neg Dk,if_pos (ab hc2 hA)]
   exact(congrArg (λz:Array Int=>[mv z]) (if_pos (Ns hB))).symm
  ·rw[<- h2,Sort.siftDown.eq_def lt hi first root,dif_neg Dk,if_pos (ab hc2 hA)]
   rw[if_neg (Nu (show lt Z[first+root]! Z[first+(2*root+2)]! =true from hB)),dif_pos (show 2*root+2<hi from hc2)]
   rfl
  ·rw[<- h2,Sort.siftDown.eq_def lt hi first root,dif_neg Dk,if_neg (WE hA),if_pos (Ns hB)]
  ·rw[<- h2,Sort.siftDown.eq_def lt hi first root,dif_neg Dk,if_neg (WE hA),if_neg (Nu hB)]
 ·unfold OI;simp only[go_sem,seval,m1,m2,m3,m4,m5,m6,hch,hc2,cZ,mv,rd,rc,rr,wr,bn,aU,bf,h1,z02,z09,z00];subst hc;refine⟨λhB=> ?_,λhB=>⟨(2*root+1,Sort.swp Z (first+root) (first+(2*root+1))),⟨by simp only;omega,by rw[swp_size];exact h1,?_⟩,by simp only;omega,rfl,rfl⟩⟩
  ·rw[<- h2,Sort.siftDown.eq_def lt hi first root,dif_neg Dk,if_neg (WC hc2),if_pos (Ns hB)]
  ·rw[<- h2,Sort.siftDown.eq_def lt hi first root,dif_neg Dk,if_neg (WC hc2),if_neg (Nu hB)]
def aeP(s:List Int)(y:Int×Int×Int×Unit):Prop:=0<=y.1/\0<=y.2.1/\0<=y.2.2.1/\y.2.2.1+y.2.1<=s.length/\s.length<1000000/\y.1<1000000/\y.2.2.2=()
def WH(s:List Int)(y:Int×Int×Int×Unit):List Int:=(Sort.siftDown lt y.2.1.toNat y.2.2.1.toNat y.1.toNat s.toArray).toList
theorem NZ(X:Array Int)(lo hi first:Nat):WH X.toList ((lo:Int),(hi:Int),(first:Int),())=(Sort.siftDown lt hi first lo X).toList:=rfl
theorem Bf{X:Array Int}{lo hi first:Nat}(hf:first+hi<=X.size)(hX:X.size<1000000)(hlo:lo<1000000):aeP X.toList ((lo:Int),(hi:Int),(first:Int),()):=by refine⟨z00 _,z00 _,z00 _,?_,?_,?_,rfl⟩<;>simp only[z0b]<;>omega
def Ghp(f:FuncId)(a:List SV)(m:List ay):Sx.Call:=(FH.sv 131 TP 1 DT.int (.three .int .int .int) .unit aeP (λ_ _=>()) WH FH.none) f a m
theorem Ip:type_of% (nq Ghp.eq_1):=nq Ghp.eq_1
theorem WI:bQ Try.prog main Fz Ghp:=FH.jf (by decide) (by kernel_rfl) (λs y h=>by
 obtain⟨y1,y2,y3,⟨⟩⟩:=y;obtain⟨h1,h2,h3,h4,h5,h6,h7⟩:=h;simp only at h1 h2 h3 h4 h5 h6 h7;obtain⟨a,rfl⟩:=aY h1;obtain⟨b,rfl⟩:=aY h2;obtain⟨c,rfl⟩:=aY h3;have:=WG (main:=main) (Fz:=Fz) s.toArray a b c (by simp;omega) (by simp;omega) (by omega)
 exact this) FH.au
theorem sift_size(hi first root:Nat)(X:Array Int):(Sort.siftDown lt hi first root X).size=X.size:=by
 induction h:hi - root using Nat.strongRecOn generalizing root X with
 |ind n ih=>
  subst h;rw[Sort.siftDown.eq_def]
  repeat' split
  all_goals first|rfl|(rw[ih _ (by omega) _ _ rfl,swp_size])
theorem VU(X:Array Int)(a b:Nat)(hb:b<=X.size)(hX:X.size<1000000)(ha:a<b):
  bC Try.prog main Fz 123 [.vec 0 X.size, .int .i64 a, .int .i64 b] [mv X]
   (.cu []) [mv (Sort.heapSort lt X a b)]:=by
 refine wkA j123 [] 56 WI rfl ?_;obtain⟨l,hl⟩:∃ l,l=b - a:=⟨_,rfl⟩;have w1:z01.wrap ((b:Int) - a)=(l:Int):=by rw[aJ];omega
 have w2:z01.wrap ((l:Int) - 1)=((l - 1:Nat):Int):=by rw[aJ];omega
 have w3:(((l - 1:Nat):Int)).tdiv 2=(((l - 1)/2:Nat):Int):=rfl;have w4:z01.wrap ((((l - 1)/2:Nat):Int))=(((l - 1)/2:Nat):Int):=aJ;unfold j123;simp only[go_sem,seval,mv,w1,w2,w3,w4];refine bU (Nat×Array Int) (λs=>[.int .i64 ((s.1:Int) - 1)]) (λs=>[mv s.2]) (λs=>s.1<=l/\s.2.size=X.size/\Sort.heapBuild lt l a s.1 s.2=Sort.heapBuild lt l a ((l - 1)/2+1) X) (λs=>s.1) ((l - 1)/2+1,X) ⟨by simp only;omega,rfl,rfl⟩ ?_ rfl ?_
 ·simp only[go_sem,seval];omega
 rintro⟨k,Z⟩ ⟨h0,h1,h2⟩;simp only at h0 h1 h2;unfold af5;cases k with
 |succ k=>
  have e1:(((k+1:Nat):Int) - 1)=(k:Int):=by omega
  have w5:z01.wrap ((k:Int) - 1)=(k:Int) - 1:=aJ;simp only[go_sem,seval,e1,w5,Ip,mv,NZ,z00];refine⟨⟨h1.symm,Bf (by omega) (by omega) (by omega)⟩,(k,Sort.siftDown lt l a k Z),⟨by simp only;omega,by rw[sift_size];exact h1,?_⟩,by simp only;omega,rfl,rfl⟩
  rw[<- h2,Sort.heapBuild]
 |zero=>
  have e1:(((0:Nat):Int) - 1)=(-1:Int):=by omega
  simp only[go_sem,seval];unfold af6;simp only[go_sem,seval,w2];refine bU (Nat×Array Int) (λs=>[.int .i64 ((s.1:Int) - 1)]) (λs=>[mv s.2]) (λs=>s.1<=l/\s.2.size=X.size/\Sort.heapPop lt a s.1 s.2=Sort.heapSort lt X a b) (λs=>s.1) (l,Z) ⟨by simp only;omega,h1,?_⟩ ?_ rfl ?_
  ·rw[Sort.heapBuild] at h2;rw[h2,Sort.heapSort,<- hl]
  ·simp only[go_sem,seval];omega
  rintro⟨k,Y⟩ ⟨h3,h4,h5⟩;simp only at h3 h4 h5;cases k with
  |succ k=>
   have e1:(((k+1:Nat):Int) - 1)=(k:Int):=by omega
   have w5:z01.wrap ((k:Int) - 1)=(k:Int) - 1:=aJ;have w6:z01.wrap ((a:Int)+k)=((a+k:Nat):Int):=aJ;have r1:a<X.size:=by omega
   have r2:a+k<X.size:=by omega
   have z0:∀ Q:Array Int,WH Q.toList (0,(k:Int),(a:Int),())=(Sort.siftDown lt k a 0 Q).toList:=λQ=>rfl;unfold Xx;simp only[go_sem,seval,e1,w5,w6,Ip,mv,z0,rd,r1,r2,wr,bn,aU,bf,h4,z02,z00];refine⟨⟨by rw[swp_size,h4],Bf (lo:=0) (by rw[swp_size];omega) (by rw[swp_size];omega) (by omega)⟩,(k,Sort.siftDown lt k a 0 (Sort.swp Y a (a+k))),⟨by simp only;omega,by rw[sift_size,swp_size];exact h4,?_⟩,by simp only;omega,rfl,rfl⟩
   rw[<- h5,Sort.heapPop]
  |zero=>
   have e1:(((0:Nat):Int) - 1)=(-1:Int):=by omega
   unfold Xx;simp only[go_sem,seval];rw[<- h5,Sort.heapPop]
end Go.Proofs.Ytpajfggdnobheaa.PI
namespace Go.Proofs.Ytpajfggdnobheaa.PI
variable {main:Bool} {Fz:Nat->Prop}
open D
def Vz:JC:=(.seq (.seq (.aZ<|o7 30 10<|o7 31 11<|qo 32 (.cmp .leq (.t 30) (.t 31))<|o7 33 32<|qL [33,0,10,1,11]<|.sc false 43 33 (o7 34 0<|o7 35 10<|oJ 36 1 34 35<|o9 37 1 36<|o7 38 0<|o7 39 1<|oJ 40 1 38 39<|o9 41 1 40<|qF 42 128 37 41<|.nil) (.t 42)<|.nil) (qO 43 .skip (.exit 0))) (qM [10,11,0,1] (.block 1 (.ops<|o7 44 10<|oI 45 44 1<|o7 10 45<|.nil))))
def VA:JC:=(.seq (.seq (.aZ<|o7 46 10<|o7 47 11<|qo 48 (.cmp .leq (.t 46) (.t 47))<|o7 49 48<|qL [49,0,11,1,10]<|.sc false 60 49 (o7 50 0<|o7 51 11<|oJ 52 1 50 51<|o9 53 1 52<|o7 54 0<|o7 55 1<|oJ 56 1 54 55<|o9 57 1 56<|qF 58 128 53 57<|qE 59 58<|.nil) (.t 59)<|.nil) (qO 60 .skip (.exit 2))) (qM [11,10,0,1] (.block 3 (.ops<|o7 61 11<|qo 62 (.ar .sub (.t 61) (I 1))<|o7 11 62<|.nil))))
def VB:JC:=(.seq (.seq (.aZ<|o7 99 10<|o7 100 11<|qo 101 (.cmp .leq (.t 99) (.t 100))<|o7 102 101<|qL [102,0,10,1,11]<|.sc false 112 102 (o7 103 0<|o7 104 10<|oJ 105 1 103 104<|o9 106 1 105<|o7 107 0<|o7 108 1<|oJ 109 1 107 108<|o9 110 1 109<|qF 111 128 106 110<|.nil) (.t 111)<|.nil) (qO 112 .skip (.exit 6))) (qM [10,11,0,1] (.block 7 (.ops<|o7 113 10<|oI 114 113 1<|o7 10 114<|.nil))))
def VD:JC:=(.seq (.seq (.aZ<|o7 115 10<|o7 116 11<|qo 117 (.cmp .leq (.t 115) (.t 116))<|o7 118 117<|qL [118,0,11,1,10]<|.sc false 129 118 (o7 119 0<|o7 120 11<|oJ 121 1 119 120<|o9 122 1 121<|o7 123 0<|o7 124 1<|oJ 125 1 123 124<|o9 126 1 125<|qF 127 128 122 126<|qE 128 127<|.nil) (.t 128)<|.nil) (qO 129 .skip (.exit 8))) (qM [11,10,0,1] (.block 9 (.ops<|o7 130 11<|qo 131 (.ar .sub (.t 130) (I 1))<|o7 11 131<|.nil))))
def Nl:JC:=(qM [10,11,0,1] (.seq (qN (o7 132 10<|o7 133 11<|qo 134 (.cmp .gtr (.t 132) (.t 133))<|.nil) (qO 134 (.exit 4) .skip)) (.seq (.aZ<|qL [0,10,11,1]<|o7 135 0<|o7 136 10<|o7 137 0<|o7 138 11<|o7 139 0<|o7 140 11<|oJ 141 1 139 140<|o9 142 1 141<|qL [0,10,135,136,142,137,138,11,1]<|o7 143 0<|o7 144 10<|oJ 145 1 143 144<|o9 146 1 145<|qL [135,136,142,137,138,146,10,11,0,1]<|oJ 147 1 135 136<|oG 1 147 142<|oJ 148 1 137 138<|oG 1 148 146<|.nil) (qM [10,11,0,1] (qN (o7 149 10<|oI 150 149 1<|o7 10 150<|.nil) (.ops<|qL [11,10,0,1]<|o7 151 11<|qo 152 (.ar .sub (.t 151) (I 1))<|o7 11 152<|.nil))))))
def VE:JC:=(qM [10,11,0,1] (.seq (.block 8 (.loop [10,0,1] [11] VD)) Nl))
def VF:JC:=(.block 5 (.seq (.block 6 (.loop [11,0,1] [10] VB)) VE))
def VG:JC:=(qM [0,11,1] (.seq (.aZ<|o7 153 0<|o7 154 11<|o7 155 0<|o7 156 1<|o7 157 0<|o7 158 1<|oJ 159 1 157 158<|qL [159,0,11,153,154,155,156]<|o9 160 1 159<|o7 161 0<|o7 162 11<|oJ 163 1 161 162<|qL [163,153,154,160,155,156,11]<|o9 164 1 163<|oJ 165 1 153 154<|qL [165,160,155,156,164,11]<|oG 1 165 160<|oJ 166 1 155 156<|oG 1 166 164<|.nil) (qM [11] (qN (o7 167 11<|o7 8 167<|qG 9 false<|.nil) .ret))))
def Np:JC:=(qM [10,11,0,1] (.seq (qN (o7 63 10<|o7 64 11<|qo 65 (.cmp .gtr (.t 63) (.t 64))<|.nil) (qO 65 (.seq (.aZ<|qL [0,11,1]<|o7 66 0<|o7 67 11<|o7 68 0<|o7 69 1<|o7 70 0<|o7 71 1<|oJ 72 1 70 71<|qL [72,0,11,66,67,68,69]<|o9 73 1 72<|o7 74 0<|o7 75 11<|oJ 76 1 74 75<|qL [76,66,67,73,68,69,11]<|o9 77 1 76<|oJ 78 1 66 67<|qL [78,73,68,69,77,11]<|oG 1 78 73<|oJ 79 1 68 69<|oG 1 79 77<|.nil) (qM [11] (qN (o7 80 11<|o7 8 80<|qG 9 true<|.nil) .ret))) .skip)) (qM [0,10,11,1] (.seq (.aZ<|o7 81 0<|o7 82 10<|o7 83 0<|o7 84 11<|o7 85 0<|o7 86 11<|oJ 87 1 85 86<|o9 88 1 87<|qL [0,10,81,82,88,83,84,11,1]<|o7 89 0<|o7 90 10<|oJ 91 1 89 90<|o9 92 1 91<|qL [81,82,88,83,84,92,10,11,0,1]<|oJ 93 1 81 82<|oG 1 93 88<|oJ 94 1 83 84<|oG 1 94 92<|.nil) (qM [10,11,0,1] (qN (o7 95 10<|oI 96 95 1<|o7 10 96<|.nil) (qN (qL [11,10,0,1]<|o7 97 11<|qo 98 (.ar .sub (.t 97) (I 1))<|o7 11 98<|.nil) (qM [10,11,0,1] (.seq (.block 4 (.loop [0,1] [10,11] VF)) VG)))))))))
def Nq:JC:=(qM [10,11,0,1] (.seq (.block 2 (.loop [10,0,1] [11] VA)) Np))
def j130:JC:=(qN (o8 8 0<|qG 9 false<|.nil) (.seq (.aZ<|o7 12 0<|o7 13 1<|o7 14 0<|o7 15 3<|o7 16 0<|o7 17 3<|oJ 18 1 16 17<|o9 19 1 18<|o7 20 0<|o7 21 1<|oJ 22 1 20 21<|qL [22,12,13,19,14,15,1,2,0]<|o9 23 1 22<|oJ 24 1 12 13<|qL [24,19,14,15,23,1,2,0]<|oG 1 24 19<|oJ 25 1 14 15<|oG 1 25 23<|.nil) (qM [1,2,0] (qN (o7 26 1<|oI 27 26 1<|o7 28 2<|qo 29 (.ar .sub (.t 28) (I 1))<|o7 10 27<|o7 11 29<|.nil) (.seq (.block 0 (.loop [11,0,1] [10] Vz)) Nq)))))
def VH:JC:=(.seq (.seq (.aZ<|o7 29 9<|o7 30 10<|qo 31 (.cmp .leq (.t 29) (.t 30))<|o7 32 31<|qL [32,0,1,9,10]<|.sc false 43 32 (o7 33 0<|o7 34 1<|oJ 35 1 33 34<|o9 36 1 35<|o7 37 0<|o7 38 9<|oJ 39 1 37 38<|o9 40 1 39<|qF 41 128 36 40<|qE 42 41<|.nil) (.t 42)<|.nil) (qO 43 .skip (.exit 2))) (qM [9,10,0,1] (.block 3 (.ops<|o7 44 9<|oI 45 44 1<|o7 9 45<|.nil))))
def VI:JC:=(.seq (.seq (.aZ<|o7 46 9<|o7 47 10<|qo 48 (.cmp .leq (.t 46) (.t 47))<|o7 49 48<|qL [49,0,1,10,9]<|.sc false 59 49 (o7 50 0<|o7 51 1<|oJ 52 1 50 51<|o9 53 1 52<|o7 54 0<|o7 55 10<|oJ 56 1 54 55<|o9 57 1 56<|qF 58 128 53 57<|.nil) (.t 58)<|.nil) (qO 59 .skip (.exit 4))) (qM [10,9,0,1] (.block 5 (.ops<|o7 60 10<|qo 61 (.ar .sub (.t 60) (I 1))<|o7 10 61<|.nil))))
def Nr:JC:=(qM [9,10,0,1] (.seq (qN (o7 62 9<|o7 63 10<|qo 64 (.cmp .gtr (.t 62) (.t 63))<|.nil) (qO 64 (.exit 0) .skip)) (.seq (.aZ<|qL [0,9,10,1]<|o7 65 0<|o7 66 9<|o7 67 0<|o7 68 10<|o7 69 0<|o7 70 10<|oJ 71 1 69 70<|o9 72 1 71<|qL [0,9,65,66,72,67,68,10,1]<|o7 73 0<|o7 74 9<|oJ 75 1 73 74<|o9 76 1 75<|qL [65,66,72,67,68,76,9,10,0,1]<|oJ 77 1 65 66<|oG 1 77 72<|oJ 78 1 67 68<|oG 1 78 76<|.nil) (qM [9,10,0,1] (qN (o7 79 9<|oI 80 79 1<|o7 9 80<|.nil) (.ops<|qL [10,9,0,1]<|o7 81 10<|qo 82 (.ar .sub (.t 81) (I 1))<|o7 10 82<|.nil))))))
def VJ:JC:=(qM [9,10,0,1] (.seq (.block 4 (.loop [9,0,1] [10] VI)) Nr))
def VK:JC:=(.block 1 (.seq (.block 2 (.loop [10,0,1] [9] VH)) VJ))
def ad2:JC:=(qM [9] (qN (o7 83 9<|o7 8 83<|.nil) .ret))
def j129:JC:=(qN (o8 8 0<|.nil) (.seq (.aZ<|o7 11 0<|o7 12 1<|o7 13 0<|o7 14 3<|o7 15 0<|o7 16 3<|oJ 17 1 15 16<|o9 18 1 17<|o7 19 0<|o7 20 1<|oJ 21 1 19 20<|qL [21,11,12,18,13,14,1,2,0]<|o9 22 1 21<|oJ 23 1 11 12<|qL [23,18,13,14,22,1,2,0]<|oG 1 23 18<|oJ 24 1 13 14<|oG 1 24 22<|.nil) (qM [1,2,0] (qN (o7 25 1<|oI 26 25 1<|o7 27 2<|qo 28 (.ar .sub (.t 27) (I 1))<|o7 9 26<|o7 10 28<|.nil) (.seq (.block 0 (.loop [0,1] [9,10] VK)) ad2)))))
abbrev pU(d:Array Int)(a:Nat):Int->Bool:=λx=>lt x d[a]!
abbrev pD(d:Array Int)(a:Nat):Int->Bool:=λx=> !lt x d[a]!
theorem GR(p:Int->Bool)(d:Array Int)(j i:Nat)(h1:i<=j)(h2:p d[i]! =true):Sort.scanUp p d j i=Sort.scanUp p d j (i+1):=by rw[Sort.scanUp.eq_def,if_pos (ab h1 h2)]
theorem lu(p:Int->Bool)(d:Array Int)(j i:Nat)(h:¬ (i<=j/\p d[i]! =true)):Sort.scanUp p d j i=i:=by rw[Sort.scanUp.eq_def,if_neg];simp only[z06,decide_eq_true_eq];exact h
theorem GU(p:Int->Bool)(d:Array Int)(i j:Nat)(h0:0<i)(h1:i<=j)(h2:p d[j]! =true):Sort.scanDown p d i j=Sort.scanDown p d i (j - 1):=by
 cases j with
 |zero=>omega
 |succ j=>rw[Sort.scanDown,if_pos (ab h1 h2)];rfl
theorem lC(p:Int->Bool)(d:Array Int)(i j:Nat)(h:¬ (i<=j/\p d[j]! =true)):Sort.scanDown p d i j=j:=by
 cases j with
 |zero=>rfl
 |succ j=>
  rw[Sort.scanDown,if_neg];simp only[z06,decide_eq_true_eq];exact h
theorem pk8(n0:Nat)(hn:n0=1)(Z:Array Int)(a j n:Nat)(ha:a<Z.size)(hj:j<Z.size)(hn2:n=Z.size)(τ:Fr)(h0:Sx.look 0 τ= .vec 0 n)(h13:Sx.look 11 τ= .int .i64 j)(h1:Sx.look 1 τ= .int .i64 a):
  JC.wp Gc n0 VG (CO [ResultVar.tmp 8,ResultVar.tmp 9] Try.prog n0 (.cu [.int .i64 j, .bool false]) [mv (Sort.swp Z j a)]) τ [mv Z]:=by
 subst hn;have r1:a<n:=by omega
 have r2:j<n:=by omega
 unfold VG;simp only[go_sem,seval,h0,h13,h1,mv,rd,r1,r2,ha,hj,wr,bn,aU,bf,z02,z00]
def L5(τ:Fr)(i j a n:Nat):Prop:=Sx.look 10 τ= .int .i64 i/\Sx.look 11 τ= .int .i64 j/\Sx.look 0 τ= .vec 0 n/\Sx.look 1 τ= .int .i64 a
theorem pk5(n0:Nat)(hn:n0=1)(Y:Array Int)(a i j n:Nat)(hi:0<i)(hj:j<Y.size)(hn2:n=Y.size)(hX:n<1000000)(τ:Fr)(h:L5 τ i j a n){Q:Ex->Fr->List ay->Prop}
  (hx:j<i->∀ τ',L5 τ' i j a n->Q (.exit 4) τ' [mv Y]) (hq:i<=j->∀ τ',L5 τ' (i+1) (j - 1) a n->Q .norm τ' [mv (Sort.swp Y i j)]):
  JC.wp Gc n0 Nl Q τ [mv Y]:=by
 subst hn;obtain⟨h12,h13,h0,h1⟩:=h;by_cases hij:i<=j
 ·have w3:z01.wrap ((i:Int)+1)=((i+1:Nat):Int):=aJ;have w4:z01.wrap ((j:Int) - 1)=((j - 1:Nat):Int):=by rw[aJ];omega
  have r1:i<n:=by omega
  have r2:j<n:=by omega
  have r3:i<Y.size:=by omega
  have hij':¬ j<i:=by omega
  unfold Nl;simp only[go_sem,seval,h12,h13,h0,h1,hij',w3,w4,mv,rd,r1,r2,r3,hj,wr,bn,aU,bf,z02,z00];refine hq hij _ ?_;simp only[go_sem,seval,L5]
 ·have hij':j<i:=by omega
  unfold Nl;simp only[go_sem,seval,h12,h13,h0,h1,hij',mv,z02];refine hx hij' _ ?_;simp only[go_sem,seval,L5]
theorem pk6(n0:Nat)(hn:n0=1)(Y:Array Int)(a i j n:Nat)(ha:a<i)(hi:i<=j+1)(hj:j<Y.size)(hn2:n=Y.size)(hX:n<1000000)(τ:Fr)(h:L5 τ i j a n){Q:Ex->Fr->List ay->Prop}(v:Nat)(hv:Sort.scanDown (pD Y a) Y i j=v)
  (hx:v<i->∀ τ',L5 τ' i v a n->Q (.exit 4) τ' [mv Y]) (hq:i<=v->∀ τ',L5 τ' (i+1) (v - 1) a n->Q .norm τ' [mv (Sort.swp Y i v)]):
  JC.wp Gc n0 VE Q τ [mv Y]:=by
 subst hn;obtain⟨h12,h13,h0,h1⟩:=h;have r1:a<n:=by omega
 unfold VE;simp only[go_sem,seval,h12,h13,h0,h1,mv];refine bU Nat (λj=>[.int .i64 j]) (λ_=>[mv Y]) (λj'=>j'<=j/\i<=j'+1/\Sort.scanDown (pD Y a) Y i j'=v) (λj=>j) j ⟨z07 _,hi,hv⟩ ?_ rfl ?_
 ·simp only[go_sem,seval]
 rintro k ⟨k0,k1,k2⟩;by_cases hik:i<=k
 ·have w3:z01.wrap ((k:Int) - 1)=((k - 1:Nat):Int):=by rw[aJ];omega
  have r3:k<n:=by omega
  unfold VD;simp only[go_sem,seval,hik,w3,cZ,mv,rd,r1,r3,bn,aU,<- hn2,z02,z09,z00];refine⟨λhl=> ?_,λhl=> ?_⟩
  ·refine⟨k - 1,⟨by omega,by omega,?_⟩,by omega,rfl⟩
   rw[<- k2,GU _ _ _ _ (by omega) hik (Ns hl)]
  ·have hvk:v=k:=by rw[<- k2,lC];exact λx=>Nu hl x.2
   subst hvk;refine pk5 1 rfl Y a i v n (by omega) (by omega) hn2 hX _ ?_ (λc τ' hτ=> ?_) (λc τ' hτ=> ?_)
   ·simp only[go_sem,seval,L5]
   ·exact hx c τ' hτ
   ·exact hq c τ' hτ
 ·unfold VD;simp only[go_sem,seval,hik,cZ,mv,rd,r1,bn,aU,<- hn2,z02,z09,z00];have hvk:v=k:=by rw[<- k2,lC];exact λx=>hik x.1
  subst hvk;refine pk5 1 rfl Y a i v n (by omega) (by omega) hn2 hX _ ?_ (λc τ' hτ=> ?_) (λc τ' hτ=> ?_)
  ·simp only[go_sem,seval,L5]
  ·exact hx c τ' hτ
  ·exact hq c τ' hτ
theorem pk7(n0:Nat)(hn:n0=1)(Y:Array Int)(a i j n:Nat)(ha:a<i)(hi:i<=j+1)(hj:j<Y.size)(hn2:n=Y.size)(hX:n<1000000)(τ:Fr)(h:L5 τ i j a n){Q:Ex->Fr->List ay->Prop}(u v:Nat)(hu:Sort.scanUp (pU Y a) Y j i=u)(hv:Sort.scanDown (pD Y a) Y u j=v)
  (hx:v<u->∀ τ',L5 τ' u v a n->Q (.exit 4) τ' [mv Y]) (hq:u<=v->∀ τ',L5 τ' (u+1) (v - 1) a n->Q .norm τ' [mv (Sort.swp Y u v)]):
  JC.wp Gc n0 VF Q τ [mv Y]:=by
 subst hn;obtain⟨h12,h13,h0,h1⟩:=h;have r1:a<n:=by omega
 unfold VF;simp only[go_sem,seval,mv];refine bU Nat (λj=>[.int .i64 j]) (λ_=>[mv Y]) (λi'=>a<i'/\i'<=j+1/\Sort.scanUp (pU Y a) Y j i'=u) (λi'=>j+1 - i') i ⟨ha,hi,hu⟩ ?_ rfl ?_
 ·simp only[go_sem,seval,h12]
 rintro k ⟨k0,k1,k2⟩;have w3:z01.wrap ((k:Int)+1)=((k+1:Nat):Int):=aJ;by_cases hik:k<=j
 ·have r3:k<n:=by omega
  unfold VB;simp only[go_sem,seval,h13,h0,h1,hik,w3,cZ,mv,rd,r1,r3,bn,aU,<- hn2,z02,z09,z00];refine⟨λhl=> ?_,λhl=> ?_⟩
  ·refine⟨k+1,⟨by omega,by omega,?_⟩,by omega,rfl⟩
   rw[<- k2,GR _ _ _ _ hik hl]
  ·have hvk:u=k:=by rw[<- k2,lu];exact λx=>hl x.2
   subst hvk;refine pk6 1 rfl Y a u j n k0 (by omega) (by omega) hn2 hX _ ?_ v hv (λc τ' hτ=> ?_) (λc τ' hτ=> ?_)
   ·simp only[go_sem,seval,L5]
   ·simp only[go_sem,seval];exact hx c τ' hτ
   ·exact hq c τ' hτ
 ·unfold VB;simp only[go_sem,seval,h13,h0,h1,hik,cZ,mv,rd,r1,bn,aU,<- hn2,z02,z09,z00];have hvk:u=k:=by rw[<- k2,lu];exact λx=>hik x.1
  subst hvk;refine pk6 1 rfl Y a u j n k0 (by omega) (by omega) hn2 hX _ ?_ v hv (λc τ' hτ=> ?_) (λc τ' hτ=> ?_)
  ·simp only[go_sem,seval,L5]
  ·exact hx c τ' hτ
  ·exact hq c τ' hτ
theorem scans(p q:Int->Bool)(hq:∀ x,q x= !p x)(d:Array Int){i j u v:Nat}(hi:0<i)(hij:i<=j+1)(hu:Sort.scanUp p d j i=u)(hv:Sort.scanDown q d u j=v):
  i<=u/\u<=j+1/\v<=j/\u<=v+1/\(u<=v->u<v):=by
 subst hu hv;obtain⟨h1,h2,h3,h4,_,_,h5⟩:=Sort.round_facts p q hq d (i - 1) (j+1) i j (by omega) hij (λt a b=>by omega) (λt a b=>by omega)
 exact⟨h1,h2,h3,h4,λh=>(h5 (by omega)).2.2⟩
theorem pk9(n0:Nat)(hn:n0=1)(Z:Array Int)(a u v n:Nat)(hau:a<u)(huv:u<=v+1)(arp:u<=v->u<v)(hv:v<Z.size)(hn2:n=Z.size)(hX:n<1000000)(τ:Fr)(h:L5 τ u v a n)(r:Nat×Array Int)(hr:Sort.partLoop lt a (u+1) (v - 1) (Sort.swp Z u v)=r)(P:Nat×Bool×Array Int)
  (hP:P=if u>v then(v,true,Sort.swp Z v a) else(r.1,false,Sort.swp r.2 r.1 a)):
  JC.wp Gc n0 Np (CO [ResultVar.tmp 8,ResultVar.tmp 9] Try.prog n0 (.cu [.int .i64 P.1, .bool P.2.1]) [mv P.2.2]) τ [mv Z]:=by
 subst hn;obtain⟨h12,h13,h0,h1⟩:=h;have r1:a<n:=by omega
 have r2:v<n:=by omega
 by_cases hgt:v<u
 ·rw[if_pos hgt] at hP;subst hP;unfold Np;simp only[go_sem,seval,h12,h13,h0,h1,hgt,mv,rd,r1,r2,wr,bn,aU,bf,<- hn2,z02,z00]
 ·rw[if_neg hgt] at hP;subst hP;have r3:u<n:=by omega
  have w3:z01.wrap ((u:Int)+1)=((u+1:Nat):Int):=aJ;have w4:z01.wrap ((v:Int) - 1)=((v - 1:Nat):Int):=by rw[aJ];omega
  unfold Np;simp only[go_sem,seval,h12,h13,h0,h1,hgt,w3,w4,mv,rd,r2,r3,wr,bn,aU,bf,<- hn2,z02,z00];refine bU (Nat×Nat×Array Int) (λs=>[.int .i64 s.1, .int .i64 s.2.1]) (λs=>[mv s.2.2]) (λs=>(a<s.1/\s.1<=s.2.1+1)/\(s.2.1<n/\s.2.2.size=n)/\Sort.partLoop lt a s.1 s.2.1 s.2.2=r) (λs=>s.2.1+1 - s.1) (u+1,v - 1,Sort.swp Z u v) ⟨⟨by simp only;omega,by simp only;omega⟩,⟨by simp only;omega,by rw[swp_size];omega⟩,hr⟩ ?_ rfl ?_
  ·simp only[go_sem,seval]
  rintro⟨i,j,Y⟩ ⟨⟨k0,k1⟩,⟨k2,k3⟩,k4⟩;simp only at k0 k1 k2 k3 k4;obtain⟨u',hu'⟩:∃ u',Sort.scanUp (pU Y a) Y j i=u':=⟨_,rfl⟩;obtain⟨v',hv'⟩:∃ v',Sort.scanDown (pD Y a) Y u' j=v':=⟨_,rfl⟩;obtain⟨q1,q2,q3,q4,q5⟩:=scans (pU Y a) (pD Y a) (λ_=>rfl) Y (by omega) k1 hu' hv'
  have hpe:=Sort.partLoop_eq lt a i j Y;rw[show Sort.scanUp (λx=>lt x Y[a]!) Y j i=u' from hu',show Sort.scanDown (λx=> !lt x Y[a]!) Y u' j=v' from hv',k4] at hpe
  refine pk7 1 rfl Y a i j n k0 k1 (by omega) k3.symm hX _ ?_ u' v' hu' hv' (λc τ' hτ=> ?_) (λc τ' hτ=> ?_)
  ·simp only[go_sem,seval,L5]
  ·obtain⟨g12,g13,g0,g1⟩:=hτ;simp only[go_sem,seval];rw[if_pos c] at hpe;subst hpe;exact pk8 1 rfl Y a v' n (by omega) (by omega) k3.symm τ' g0 g13 g1
  ·obtain⟨g12,g13,g0,g1⟩:=hτ;rw[if_neg (by omega)] at hpe
   refine⟨(u'+1,v' - 1,Sort.swp Y u' v'),⟨⟨by simp only;omega,by have:=q5 c;simp only;omega⟩,⟨by simp only;omega,by simp only;rw[swp_size];exact k3⟩,hpe.symm⟩,by simp only;omega,z07 _,?_,?_,?_⟩
   ·simp only[go_sem,seval,g12,g13]
   ·simp only[go_sem,seval,g0,g1]
   ·simp only[go_sem,seval,mv]
theorem ad3(n0:Nat)(hn:n0=1)(Z:Array Int)(a i j u v n:Nat)(ha:a<i)(hi:i<=j+1)(hj:j<Z.size)(hn2:n=Z.size)(hX:n<1000000)(hU:Sort.scanUp (pU Z a) Z j i=u)(hv:Sort.scanDown (pD Z a) Z u j=v)(τ:Fr)(h:L5 τ u j a n)(r:Nat×Array Int)(hr:Sort.partLoop lt a (u+1) (v - 1) (Sort.swp Z u v)=r)(P:Nat×Bool×Array Int)
  (hP:P=if u>v then(v,true,Sort.swp Z v a) else(r.1,false,Sort.swp r.2 r.1 a)):
  JC.wp Gc n0 Nq (CO [ResultVar.tmp 8,ResultVar.tmp 9] Try.prog n0 (.cu [.int .i64 P.1, .bool P.2.1]) [mv P.2.2]) τ [mv Z]:=by
 subst hn;obtain⟨h12,h13,h0,h1⟩:=h;obtain⟨q1,q2,q3,q4,q5⟩:=scans (pU Z a) (pD Z a) (λ_=>rfl) Z (by omega) hi hU hv
 have r1:a<n:=by omega
 unfold Nq;simp only[go_sem,seval,h12,h13,h0,h1,mv];refine bU Nat (λj=>[.int .i64 j]) (λ_=>[mv Z]) (λj'=>j'<=j/\u<=j'+1/\Sort.scanDown (pD Z a) Z u j'=v) (λj=>j) j ⟨z07 _,q2,hv⟩ ?_ rfl ?_
 ·simp only[go_sem,seval]
 rintro k ⟨k0,k1,k2⟩;by_cases hik:u<=k
 ·have w3:z01.wrap ((k:Int) - 1)=((k - 1:Nat):Int):=by rw[aJ];omega
  have r3:k<n:=by omega
  unfold VA;simp only[go_sem,seval,hik,w3,cZ,mv,rd,r1,r3,bn,aU,<- hn2,z02,z09,z00];refine⟨λhl=> ?_,λhl=> ?_⟩
  ·refine⟨k - 1,⟨by omega,by omega,?_⟩,by omega,rfl⟩
   rw[<- k2,GU _ _ _ _ (by omega) hik (Ns hl)]
  ·have hvk:v=k:=by rw[<- k2,lC];exact λx=>Nu hl x.2
   subst hvk;refine pk9 1 rfl Z a u v n (by omega) q4 q5 (by omega) hn2 hX _ ?_ r hr P hP
   simp only[go_sem,seval,L5]
 ·unfold VA;simp only[go_sem,seval,hik,cZ,mv,rd,r1,bn,aU,<- hn2,z02,z09,z00];have hvk:v=k:=by rw[<- k2,lC];exact λx=>hik x.1
  subst hvk;refine pk9 1 rfl Z a u v n (by omega) q4 q5 (by omega) hn2 hX _ ?_ r hr P hP
  simp only[go_sem,seval,L5]
theorem VL(X:Array Int)(a b pv:Nat)(hb:b<=X.size)(hX:X.size<1000000)(ha:a<=pv)(hp:pv<b):
  bC Try.prog main Fz 130 [.vec 0 X.size, .int .i64 a, .int .i64 b, .int .i64 pv] [mv X]
   (.cu [.int .i64 (Sort.partition lt X a b pv).1, .bool (Sort.partition lt X a b pv).2.1]) [mv (Sort.partition lt X a b pv).2.2]:=by
 refine wkA j130 [.tmp 8, .tmp 9] 168 lZ rfl ?_;have w1:z01.wrap ((a:Int)+1)=((a+1:Nat):Int):=aJ;have w2:z01.wrap ((b:Int) - 1)=((b - 1:Nat):Int):=by rw[aJ];omega
 have r1:a<X.size:=by omega
 have r2:pv<X.size:=by omega
 unfold j130;simp only[go_sem,seval,mv,w1,w2,rd,r1,r2,wr,bn,aU,bf,z02,z00];obtain⟨Z,hZ⟩:∃ Z,Z=Sort.swp X a pv:=⟨_,rfl⟩;have hZs:Z.size=X.size:=by rw[hZ,swp_size]
 obtain⟨u,hU⟩:∃ u,Sort.scanUp (pU Z a) Z (b - 1) (a+1)=u:=⟨_,rfl⟩;obtain⟨v,hV⟩:∃ v,Sort.scanDown (pD Z a) Z u (b - 1)=v:=⟨_,rfl⟩;obtain⟨r,hR⟩:∃ r,Sort.partLoop lt a (u+1) (v - 1) (Sort.swp Z u v)=r:=⟨_,rfl⟩;have hP:Sort.partition lt X a b pv=if u>v then(v,true,Sort.swp Z v a) else(r.1,false,Sort.swp r.2 r.1 a):=by rw[<- hR,<- hV,<- hU,hZ];rfl
 rw[<- hZ];clear hZ;generalize Sort.partition lt X a b pv=P at hP;refine bU Nat (λi=>[.int .i64 i]) (λi=>[mv Z]) (λi=>a<i/\i<=b/\Sort.scanUp (pU Z a) Z (b - 1) i=u) (λi=>b - i) (a+1) ⟨by omega,by omega,hU⟩ ?_ rfl ?_
 ·simp only[go_sem,seval]
 rintro i ⟨h0,h1,h2⟩;have w3:z01.wrap ((i:Int)+1)=((i+1:Nat):Int):=aJ;by_cases hi:i<=b - 1
 ·have r3:i<X.size:=by omega
  unfold Vz;simp only[go_sem,seval,hi,w3,cZ,mv,rd,r1,r3,bn,aU,hZs,z02,z09,z00];refine⟨λhl=> ?_,λhl=> ?_⟩
  ·refine⟨i+1,⟨by omega,by omega,?_⟩,by omega,rfl⟩
   rw[<- h2,GR _ _ _ _ hi hl]
  ·have hvk:u=i:=by rw[<- h2,lu];exact λx=>hl x.2
   subst hvk;refine ad3 _ rfl Z a (a+1) (b - 1) u v X.size (by omega) (by omega) (by omega) hZs.symm hX hU hV _ ?_ r hR P hP
   simp only[go_sem,seval,L5]
 ·unfold Vz;simp only[go_sem,seval,hi,cZ,mv,rd,r1,bn,aU,hZs,z02,z09,z00];have hvk:u=i:=by rw[<- h2,lu];exact λx=>hi x.1
  subst hvk;refine ad3 _ rfl Z a (a+1) (b - 1) u v X.size (by omega) (by omega) (by omega) hZs.symm hX hU hV _ ?_ r hR P hP
  simp only[go_sem,seval,L5]
abbrev eU(d:Array Int)(a:Nat):Int->Bool:=λx=> !lt d[a]! x
abbrev eD(d:Array Int)(a:Nat):Int->Bool:=λx=>lt d[a]! x
theorem eq_neg(d:Array Int)(a:Nat):∀ x,eD d a x= !eU d a x:=λx=>by simp
def L6(τ:Fr)(i j a n:Nat):Prop:=Sx.look 9 τ= .int .i64 i/\Sx.look 10 τ= .int .i64 j/\Sx.look 0 τ= .vec 0 n/\Sx.look 1 τ= .int .i64 a
theorem qk3(n0:Nat)(hn:n0=1)(Y:Array Int)(a i j n:Nat)(hi:0<i)(hj:j<Y.size)(hn2:n=Y.size)(hX:n<1000000)(τ:Fr)(h:L6 τ i j a n){Q:Ex->Fr->List ay->Prop}
  (hx:j<i->∀ τ',L6 τ' i j a n->Q (.exit 0) τ' [mv Y]) (hq:i<=j->∀ τ',L6 τ' (i+1) (j - 1) a n->Q .norm τ' [mv (Sort.swp Y i j)]):
  JC.wp Gc n0 Nr Q τ [mv Y]:=by
 subst hn;obtain⟨h11,h12,h0,h1⟩:=h;by_cases hij:i<=j
 ·have w3:z01.wrap ((i:Int)+1)=((i+1:Nat):Int):=aJ;have w4:z01.wrap ((j:Int) - 1)=((j - 1:Nat):Int):=by rw[aJ];omega
  have r1:i<n:=by omega
  have r2:j<n:=by omega
  have r3:i<Y.size:=by omega
  have hij':¬ j<i:=by omega
  unfold Nr;simp only[go_sem,seval,h11,h12,h0,h1,hij',w3,w4,mv,rd,r1,r2,r3,hj,wr,bn,aU,bf,z02,z00];refine hq hij _ ?_;simp only[go_sem,seval,L6]
 ·have hij':j<i:=by omega
  unfold Nr;simp only[go_sem,seval,h11,h12,h0,h1,hij',mv,z02];refine hx hij' _ ?_;simp only[go_sem,seval,L6]
theorem qk4(n0:Nat)(hn:n0=1)(Y:Array Int)(a i j n:Nat)(ha:a<i)(hi:i<=j+1)(hj:j<Y.size)(hn2:n=Y.size)(hX:n<1000000)(τ:Fr)(h:L6 τ i j a n){Q:Ex->Fr->List ay->Prop}(v:Nat)(hv:Sort.scanDown (eD Y a) Y i j=v)
  (hx:v<i->∀ τ',L6 τ' i v a n->Q (.exit 0) τ' [mv Y]) (hq:i<=v->∀ τ',L6 τ' (i+1) (v - 1) a n->Q .norm τ' [mv (Sort.swp Y i v)]):
  JC.wp Gc n0 VJ Q τ [mv Y]:=by
 subst hn;obtain⟨h11,h12,h0,h1⟩:=h;have r1:a<n:=by omega
 unfold VJ;simp only[go_sem,seval,h11,h12,h0,h1,mv];refine bU Nat (λj=>[.int .i64 j]) (λ_=>[mv Y]) (λj'=>j'<=j/\i<=j'+1/\Sort.scanDown (eD Y a) Y i j'=v) (λj=>j) j ⟨z07 _,hi,hv⟩ ?_ rfl ?_
 ·simp only[go_sem,seval]
 rintro k ⟨k0,k1,k2⟩;by_cases hik:i<=k
 ·have w3:z01.wrap ((k:Int) - 1)=((k - 1:Nat):Int):=by rw[aJ];omega
  have r3:k<n:=by omega
  unfold VI;simp only[go_sem,seval,hik,w3,cZ,mv,rd,r1,r3,bn,aU,<- hn2,z02,z09,z00];refine⟨λhl=> ?_,λhl=> ?_⟩
  ·refine⟨k - 1,⟨by omega,by omega,?_⟩,by omega,rfl⟩
   rw[<- k2,GU _ _ _ _ (by omega) hik hl]
  ·have hvk:v=k:=by rw[<- k2,lC];exact λx=>hl x.2
   subst hvk;refine qk3 1 rfl Y a i v n (by omega) (by omega) hn2 hX _ ?_ (λc τ' hτ=> ?_) (λc τ' hτ=> ?_)
   ·simp only[go_sem,seval,L6]
   ·exact hx c τ' hτ
   ·exact hq c τ' hτ
 ·unfold VI;simp only[go_sem,seval,hik,cZ,mv,rd,r1,bn,aU,<- hn2,z02,z09,z00];have hvk:v=k:=by rw[<- k2,lC];exact λx=>hik x.1
  subst hvk;refine qk3 1 rfl Y a i v n (by omega) (by omega) hn2 hX _ ?_ (λc τ' hτ=> ?_) (λc τ' hτ=> ?_)
  ·simp only[go_sem,seval,L6]
  ·exact hx c τ' hτ
  ·exact hq c τ' hτ
theorem qk5(n0:Nat)(hn:n0=1)(Y:Array Int)(a i j n:Nat)(ha:a<i)(hi:i<=j+1)(hj:j<Y.size)(hn2:n=Y.size)(hX:n<1000000)(τ:Fr)(h:L6 τ i j a n){Q:Ex->Fr->List ay->Prop}(u v:Nat)(hu:Sort.scanUp (eU Y a) Y j i=u)(hv:Sort.scanDown (eD Y a) Y u j=v)
  (hx:v<u->∀ τ',L6 τ' u v a n->Q (.exit 0) τ' [mv Y]) (hq:u<=v->∀ τ',L6 τ' (u+1) (v - 1) a n->Q .norm τ' [mv (Sort.swp Y u v)]):
  JC.wp Gc n0 VK Q τ [mv Y]:=by
 subst hn;obtain⟨h11,h12,h0,h1⟩:=h;have r1:a<n:=by omega
 unfold VK;simp only[go_sem,seval,mv];refine bU Nat (λj=>[.int .i64 j]) (λ_=>[mv Y]) (λi'=>a<i'/\i'<=j+1/\Sort.scanUp (eU Y a) Y j i'=u) (λi'=>j+1 - i') i ⟨ha,hi,hu⟩ ?_ rfl ?_
 ·simp only[go_sem,seval,h11]
 rintro k ⟨k0,k1,k2⟩;have w3:z01.wrap ((k:Int)+1)=((k+1:Nat):Int):=aJ;by_cases hik:k<=j
 ·have r3:k<n:=by omega
  unfold VH;simp only[go_sem,seval,h12,h0,h1,hik,w3,cZ,mv,rd,r1,r3,bn,aU,<- hn2,z02,z09,z00];refine⟨λhl=> ?_,λhl=> ?_⟩
  ·refine⟨k+1,⟨by omega,by omega,?_⟩,by omega,rfl⟩
   rw[<- k2,GR _ _ _ _ hik (Ns hl)]
  ·have hvk:u=k:=by rw[<- k2,lu];exact λx=>Nu hl x.2
   subst hvk;refine qk4 1 rfl Y a u j n k0 (by omega) (by omega) hn2 hX _ ?_ v hv (λc τ' hτ=> ?_) (λc τ' hτ=> ?_)
   ·simp only[go_sem,seval,L6]
   ·exact hx c τ' hτ
   ·exact hq c τ' hτ
 ·unfold VH;simp only[go_sem,seval,h12,h0,h1,hik,cZ,mv,rd,r1,bn,aU,<- hn2,z02,z09,z00];have hvk:u=k:=by rw[<- k2,lu];exact λx=>hik x.1
  subst hvk;refine qk4 1 rfl Y a u j n k0 (by omega) (by omega) hn2 hX _ ?_ v hv (λc τ' hτ=> ?_) (λc τ' hτ=> ?_)
  ·simp only[go_sem,seval,L6]
  ·exact hx c τ' hτ
  ·exact hq c τ' hτ
theorem GV(X:Array Int)(a b pv:Nat)(hb:b<=X.size)(hX:X.size<1000000)(ha:a<=pv)(hp:pv<b):
  bC Try.prog main Fz 129 [.vec 0 X.size, .int .i64 a, .int .i64 b, .int .i64 pv] [mv X]
   (.int .i64 (Sort.partitionEqual lt X a b pv).1) [mv (Sort.partitionEqual lt X a b pv).2]:=by
 refine wkA j129 [.tmp 8] 84 lZ rfl ?_;have w1:z01.wrap ((a:Int)+1)=((a+1:Nat):Int):=aJ;have w2:z01.wrap ((b:Int) - 1)=((b - 1:Nat):Int):=by rw[aJ];omega
 have r1:a<X.size:=by omega
 have r2:pv<X.size:=by omega
 unfold j129;simp only[go_sem,seval,mv,w1,w2,rd,r1,r2,wr,bn,aU,bf,z02,z00];obtain⟨Z,hZ⟩:∃ Z,Z=Sort.swp X a pv:=⟨_,rfl⟩;have hZs:Z.size=X.size:=by rw[hZ,swp_size]
 obtain⟨r,hR⟩:∃ r,Sort.partEqLoop lt a (a+1) (b - 1) Z=r:=⟨_,rfl⟩;have hP:Sort.partitionEqual lt X a b pv=r:=by rw[<- hR,hZ];rfl
 rw[<- hZ,hP];clear hZ hP;refine bU (Nat×Nat×Array Int) (λs=>[.int .i64 s.1, .int .i64 s.2.1]) (λs=>[mv s.2.2]) (λs=>(a<s.1/\s.1<=s.2.1+1)/\(s.2.1<X.size/\s.2.2.size=X.size)/\Sort.partEqLoop lt a s.1 s.2.1 s.2.2=r) (λs=>s.2.1+1 - s.1) (a+1,b - 1,Z) ⟨⟨by simp only;omega,by simp only;omega⟩,⟨by simp only;omega,hZs⟩,hR⟩ ?_ rfl ?_
 ·simp only[go_sem,seval]
 rintro⟨i,j,Y⟩ ⟨⟨k0,k1⟩,⟨k2,k3⟩,k4⟩;simp only at k0 k1 k2 k3 k4;obtain⟨u',hu'⟩:∃ u',Sort.scanUp (eU Y a) Y j i=u':=⟨_,rfl⟩;obtain⟨v',hv'⟩:∃ v',Sort.scanDown (eD Y a) Y u' j=v':=⟨_,rfl⟩;obtain⟨q1,q2,q3,q4,q5⟩:=scans (eU Y a) (eD Y a) (eq_neg Y a) Y (by omega) k1 hu' hv'
 have hpe:=Sort.partEqLoop_eq lt a i j Y;rw[show Sort.scanUp (λx=> !lt Y[a]! x) Y j i=u' from hu',show Sort.scanDown (λx=>lt Y[a]! x) Y u' j=v' from hv',k4] at hpe
 refine qk5 _ rfl Y a i j X.size k0 k1 (by omega) k3.symm hX _ ?_ u' v' hu' hv' (λc τ' hτ=> ?_) (λc τ' hτ=> ?_)
 ·simp only[go_sem,seval,L6]
 ·obtain⟨g11,g12,g0,g1⟩:=hτ;rw[if_pos c] at hpe;subst hpe;unfold ad2;simp only[go_sem,seval,g11,mv]
 ·obtain⟨g11,g12,g0,g1⟩:=hτ;rw[if_neg (by omega)] at hpe
  refine⟨(u'+1,v' - 1,Sort.swp Y u' v'),⟨⟨by simp only;omega,by have:=q5 c;simp only;omega⟩,⟨by simp only;omega,by simp only;rw[swp_size];exact k3⟩,hpe.symm⟩,by simp only;omega,z07 _,?_,?_,?_⟩
  ·simp only[go_sem,seval,g11,g12]
  ·simp only[go_sem,seval,g0,g1]
  ·simp only[go_sem,seval,mv]
end Go.Proofs.Ytpajfggdnobheaa.PI
namespace Go.Proofs.Ytpajfggdnobheaa.PI
variable {main:Bool} {Fz:Nat->Prop}
open D
def Xe:JC:=(.seq (.seq (.aZ<|o7 17 7<|o7 18 2<|oN 19 17 18<|o7 20 19<|qL [20,0,7,2,1,8]<|.sc false 32 20 (o7 21 0<|o7 22 7<|oJ 23 1 21 22<|o9 24 1 23<|o7 25 0<|o7 26 7<|qo 27 (.ar .sub (.t 26) (I 1))<|oJ 28 1 25 27<|o9 29 1 28<|qF 30 128 24 29<|qE 31 30<|.nil) (.t 31)<|.nil) (qO 32 .skip (.exit 2))) (qM [7,2,0,1,8] (.block 3 (.ops<|o7 33 7<|oI 34 33 1<|o7 7 34<|.nil))))
def Xf:JC:=(.seq (qN (o7 64 9<|qo 65 (.cmp .geq (.t 64) (I 1))<|.nil) (qO 65 .skip (.exit 4))) (.seq (.block 5 (.seq (.seq (.aZ<|o7 68 0<|o7 69 9<|oJ 70 1 68 69<|qL [70,0,9,2,7,8,1]<|o9 71 1 70<|o7 72 0<|o7 73 9<|qo 74 (.ar .sub (.t 73) (I 1))<|oJ 75 1 72 74<|qL [75,71,2,7,0,8,1,9]<|o9 76 1 75<|qF 77 128 71 76<|qE 78 77<|.nil) (qO 78 (.exit 4) .skip)) (qM [0,9,2,7,8,1] (.aZ<|o7 79 0<|o7 80 9<|o7 81 0<|o7 82 9<|qo 83 (.ar .sub (.t 82) (I 1))<|o7 84 0<|o7 85 9<|qo 86 (.ar .sub (.t 85) (I 1))<|oJ 87 1 84 86<|qL [87,0,9,79,80,81,83,2,7,8,1]<|o9 88 1 87<|o7 89 0<|o7 90 9<|oJ 91 1 89 90<|qL [91,79,80,88,81,83,9,0,2,7,8,1]<|o9 92 1 91<|oJ 93 1 79 80<|qL [93,88,81,83,92,9,0,2,7,8,1]<|oG 1 93 88<|oJ 94 1 81 83<|oG 1 94 92<|.nil)))) (qM [9,0,2,7,8,1] (.ops<|o7 66 9<|qo 67 (.ar .sub (.t 66) (I 1))<|o7 9 67<|.nil))))
def Xg:JC:=(.seq (qN (o7 101 10<|o7 102 2<|oN 103 101 102<|.nil) (qO 103 .skip (.exit 6))) (.seq (.block 7 (.seq (.seq (.aZ<|qL [0,10,8,7,2,1]<|o7 106 0<|o7 107 10<|oJ 108 1 106 107<|o9 109 1 108<|qL [0,10,109,8,7,2,1]<|o7 110 0<|o7 111 10<|qo 112 (.ar .sub (.t 111) (I 1))<|oJ 113 1 110 112<|qL [113,109,8,7,2,0,1,10]<|o9 114 1 113<|qF 115 128 109 114<|qE 116 115<|.nil) (qO 116 (.exit 6) .skip)) (qM [0,10,2,8,7,1] (.aZ<|o7 117 0<|o7 118 10<|o7 119 0<|o7 120 10<|qo 121 (.ar .sub (.t 120) (I 1))<|o7 122 0<|o7 123 10<|qo 124 (.ar .sub (.t 123) (I 1))<|oJ 125 1 122 124<|qL [125,0,10,117,118,119,121,2,8,7,1]<|o9 126 1 125<|o7 127 0<|o7 128 10<|oJ 129 1 127 128<|qL [129,117,118,126,119,121,10,2,0,8,7,1]<|o9 130 1 129<|oJ 131 1 117 118<|qL [131,126,119,121,130,10,2,0,8,7,1]<|oG 1 131 126<|oJ 132 1 119 121<|oG 1 132 130<|.nil)))) (qM [10,2,0,8,7,1] (.ops<|o7 104 10<|oI 105 104 1<|o7 10 105<|.nil))))
def Ox:JC:=(qM [2,7,0,8,1] (qN (o7 95 2<|o7 96 7<|qo 97 (.ar .sub (.t 95) (.t 96))<|qo 98 (.cmp .geq (.t 97) (I 2))<|.nil) (qO 98 (qN (qL [7,2,0,8,1]<|o7 99 7<|oI 100 99 1<|o7 10 100<|.nil) (qM [10,2,0,8,7,1] (.block 6 (.loop [2,0,8,7,1] [10] Xg)))) .skip)))
def Dy:JC:=(qM [7,2,1,0,8] (.seq (qN (o7 35 7<|o7 36 2<|oW 37 35 36<|.nil) (qO 37 (qN (qG 6 true<|.nil) .ret) .skip)) (.seq (qN (qL [2,1,0,7,8]<|o7 38 2<|o7 39 1<|qo 40 (.ar .sub (.t 38) (.t 39))<|oZ 41 40 50<|.nil) (qM [41,0,7,1,2,8] (qO 41 (qN (qG 6 false<|.nil) .ret) .skip))) (qM [0,7,1,2,8] (.seq (.aZ<|o7 42 0<|o7 43 7<|o7 44 0<|o7 45 7<|qo 46 (.ar .sub (.t 45) (I 1))<|o7 47 0<|o7 48 7<|qo 49 (.ar .sub (.t 48) (I 1))<|oJ 50 1 47 49<|qL [50,0,7,42,43,44,46,1,2,8]<|o9 51 1 50<|o7 52 0<|o7 53 7<|oJ 54 1 52 53<|qL [54,42,43,51,44,46,7,1,0,2,8]<|o9 55 1 54<|oJ 56 1 42 43<|qL [56,51,44,46,55,7,1,0,2,8]<|oG 1 56 51<|oJ 57 1 44 46<|oG 1 57 55<|.nil) (qM [7,1,0,2,8] (.seq (qN (o7 58 7<|o7 59 1<|qo 60 (.ar .sub (.t 58) (.t 59))<|qo 61 (.cmp .geq (.t 60) (I 2))<|.nil) (qO 61 (qN (qL [7,0,2,8,1]<|o7 62 7<|qo 63 (.ar .sub (.t 62) (I 1))<|o7 9 63<|.nil) (qM [9,0,2,7,8,1] (.block 4 (.loop [0,2,7,8,1] [9] Xf)))) .skip)) Ox)))))))
def Xh:JC:=(qM [8,7,2,0,1] (.ops<|o7 15 8<|oI 16 15 1<|o7 8 16<|.nil))
def Xi:JC:=(.seq (qN (o7 13 8<|oZ 14 13 5<|.nil) (qO 14 .skip (.exit 0))) (.seq (.block 1 (.seq (.block 2 (.loop [2,0,1,8] [7] Xe)) Dy)) Xh))
def afA:JC:=(qM [] (qN (qG 6 false<|.nil) .ret))
def j127:JC:=(qN (qG 6 false<|.nil) (qN (o7 11 1<|oI 12 11 1<|o7 7 12<|.nil) (.seq (qN (o8 8 0<|.nil) (.block 0 (.loop [2,0,1] [8,7] Xi))) afA)))
def L7(τ:Fr)(st i a b n:Nat):Prop:=Sx.look 8 τ= .int .i64 st/\Sx.look 7 τ= .int .i64 i/\Sx.look 2 τ= .int .i64 b/\Sx.look 0 τ= .vec 0 n/\Sx.look 1 τ= .int .i64 a
theorem uq(b:Nat):∀ (k j:Nat) (d:Array Int),b - j=k->(Sort.shiftUp lt b j d).size=d.size
 |0,j,d,h=>by rw[Sort.shiftUp.eq_def,if_neg (by omega)]
 |k+1,j,d,h=>by
  rw[Sort.shiftUp.eq_def,if_pos (by omega)]
  split
  ·rfl
  ·rw[uq b k _ _ (by omega),swp_size]
theorem uw:∀ (j:Nat) (d:Array Int),(Sort.shiftDown lt j d).size=d.size
 |0,d=>rfl
 |j+1,d=>by
  rw[Sort.shiftDown];split
  ·rfl
  ·rw[uw j,swp_size]
theorem rk4(n0:Nat)(hn:n0=1)(Y:Array Int)(st i a b n:Nat)(hib:i<b)(hi:0<i)(hb:b<=n)(hn2:n=Y.size)(hX:n<1000000)(τ:Fr)(h:L7 τ st i a b n){Q:Ex->Fr->List ay->Prop}
  (hq:∀ τ',L7 τ' st i a b n->Q .norm τ' [mv (if b - i≥2 then Sort.shiftUp lt b (i+1) Y else Y)]):
  JC.wp Gc n0 Ox Q τ [mv Y]:=by
 subst hn;obtain⟨h10,h9,h2,h0,h1⟩:=h;have w1:z01.wrap ((b:Int) - i)=((b - i:Nat):Int):=by rw[aJ];omega
 have w2:z01.wrap ((i:Int)+1)=((i+1:Nat):Int):=aJ;by_cases hge:b - i≥2
 ·have hge':(2:Int)<=((b - i:Nat):Int):=by omega
  rw[if_pos hge] at hq;unfold Ox;simp only[go_sem,seval,h10,h9,h2,h0,h1,w1,w2,hge',mv];refine bU (Nat×Array Int) (λs=>[.int .i64 s.1]) (λs=>[mv s.2]) (λs=>(i<s.1/\s.1<=b)/\s.2.size=n/\Sort.shiftUp lt b s.1 s.2=Sort.shiftUp lt b (i+1) Y) (λs=>b - s.1) (i+1,Y) ⟨⟨by simp only;omega,by simp only;omega⟩,hn2.symm,rfl⟩ ?_ rfl ?_
  ·simp only[go_sem,seval]
  rintro⟨j,Z⟩ ⟨⟨k0,k1⟩,k2,k3⟩;simp only at k0 k1 k2 k3;by_cases hjb:j<b
  ·have r1:j<n:=by omega
   have r2:j - 1<n:=by omega
   have w3:z01.wrap ((j:Int) - 1)=((j - 1:Nat):Int):=by rw[aJ];omega
   have w4:z01.wrap ((j:Int)+1)=((j+1:Nat):Int):=aJ;unfold Xg;simp only[go_sem,seval,hjb,w3,w4,cZ,mv,rd,r1,r2,k2,wr,bn,aU,bf,z02,z00];refine⟨λhl=> ?_,λhl=> ?_⟩
   ·have e:Sort.shiftUp lt b (i+1) Y=Z:=by rw[<- k3,Sort.shiftUp.eq_def,if_pos hjb,if_pos (Ns hl)]
    rw[e] at hq;refine hq _ ?_;simp only[go_sem,seval,L7]
   ·refine⟨(j+1,Sort.swp Z j (j - 1)),⟨⟨by simp only;omega,by simp only;omega⟩,by rw[swp_size];exact k2,?_⟩,by simp only;omega,rfl,rfl⟩
    rw[<- k3,Sort.shiftUp.eq_def lt b j,if_pos hjb,if_neg (Nu hl)]
  ·unfold Xg;simp only[go_sem,seval,hjb,mv,z02];have e:Sort.shiftUp lt b (i+1) Y=Z:=by rw[<- k3,Sort.shiftUp.eq_def,if_neg hjb]
   rw[e] at hq;refine hq _ ?_;simp only[go_sem,seval,L7]
 ·have hge':¬ (2:Int)<=((b - i:Nat):Int):=by omega
  rw[if_neg hge] at hq;unfold Ox;simp only[go_sem,seval,h10,h9,h2,h0,h1,w1,hge',mv];refine hq _ ?_;simp only[go_sem,seval,L7]
def qY(a b i:Nat)(Y:Array Int):Array Int:=
 let d:=Sort.swp Y i (i - 1)
 let d:=if i - a≥2 then Sort.shiftDown lt (i - 1) d else d
 if b - i≥2 then Sort.shiftUp lt b (i+1) d else d
theorem rk5(n0:Nat)(hn:n0=1)(Y:Array Int)(st i a b n:Nat)(hib:i<=b)(hi:a<i)(hb:b<=n)(hn2:n=Y.size)(hX:n<1000000)(τ:Fr)(h:L7 τ st i a b n){Q:Ex->Fr->List ay->Prop}
  (hx1:i=b->∀ τ',Sx.look 6 τ'= .bool true->Q .ret τ' [mv Y]) (hx2:i≠b->b - a<50->∀ τ',Sx.look 6 τ'= .bool false->Q .ret τ' [mv Y])
  (hq:i≠b->¬ b - a<50->∀ τ',L7 τ' st i a b n->Q .norm τ' [mv (qY a b i Y)]):
  JC.wp Gc n0 Dy Q τ [mv Y]:=by
 subst hn;obtain⟨h10,h9,h2,h0,h1⟩:=h;have w1:z01.wrap ((b:Int) - a)=((b - a:Nat):Int):=by rw[aJ];omega
 have w2:z01.wrap ((i:Int) - 1)=((i - 1:Nat):Int):=by rw[aJ];omega
 have w3:z01.wrap ((i:Int) - a)=((i - a:Nat):Int):=by rw[aJ];omega
 by_cases e:i=b
 ·have e':((i:Int)=b)=True:=by simp;omega
  unfold Dy;simp only[go_sem,seval,h10,h9,h2,h0,h1,e',mv];refine hx1 e _ ?_;simp only[go_sem,seval]
 have e':((i:Int)=b)=False:=by simp;omega
 by_cases h50:b - a<50
 ·have xq:(((b - a:Nat):Int)<50)=True:=by simp;omega
  unfold Dy;simp only[go_sem,seval,h10,h9,h2,h0,h1,e',w1,xq,mv];refine hx2 e h50 _ ?_;simp only[go_sem,seval]
 have xq:(((b - a:Nat):Int)<50)=False:=by simp;omega
 have r1:i<n:=by omega
 have r2:i - 1<n:=by omega
 have hq:=hq e h50;simp only[qY] at hq;obtain⟨Z,hZ⟩:∃ Z,Z=Sort.swp Y i (i - 1):=⟨_,rfl⟩;have hZs:Z.size=n:=by rw[hZ,swp_size,hn2]
 by_cases hge:i - a≥2
 ·have hge':(2:Int)<=((i - a:Nat):Int):=by omega
  rw[if_pos hge] at hq;unfold Dy;simp only[go_sem,seval,h10,h9,h2,h0,h1,e',w1,w2,w3,xq,hge',mv,rd,r1,r2,<- hn2,wr,bn,aU,bf,z02,z00];rw[<- hZ] at hq ⊢;clear hZ;refine bU (Nat×Array Int) (λs=>[.int .i64 s.1]) (λs=>[mv s.2]) (λs=>s.1<i/\s.2.size=n/\Sort.shiftDown lt s.1 s.2=Sort.shiftDown lt (i - 1) Z) (λs=>s.1) (i - 1,Z) ⟨by simp only;omega,hZs,rfl⟩ ?_ rfl ?_
  ·simp only[go_sem,seval]
  rintro⟨j,V⟩ ⟨k0,k2,k3⟩;simp only at k0 k2 k3;cases j with
  |zero=>
   unfold Xf;simp only[go_sem,seval,mv];have e2:Sort.shiftDown lt (i - 1) Z=V:=by rw[<- k3,Sort.shiftDown]
   rw[e2] at hq;refine rk4 1 rfl V st i a b n (by omega) (by omega) hb k2.symm hX _ ?_ λτ' hτ=>hq τ' hτ
   simp only[go_sem,seval,L7]
  |succ j=>
   have g1:(1:Int)<=((j+1:Nat):Int):=by omega
   have w4:z01.wrap (((j+1:Nat):Int) - 1)=(j:Int):=by rw[aJ];omega
   have r3:j+1<n:=by omega
   have r4:j<n:=by omega
   unfold Xf;simp only[go_sem,seval,g1,w4,cZ,mv,rd,r3,r4,k2,wr,bn,aU,bf,z02,z00];refine⟨λhl=> ?_,λhl=> ?_⟩
   ·have e2:Sort.shiftDown lt (i - 1) Z=V:=by rw[<- k3,Sort.shiftDown,if_pos (Ns hl)]
    rw[e2] at hq;refine rk4 1 rfl V st i a b n (by omega) (by omega) hb k2.symm hX _ ?_ λτ' hτ=>hq τ' hτ
    simp only[go_sem,seval,L7]
   ·refine⟨(j,Sort.swp V (j+1) j),⟨by simp only;omega,by rw[swp_size];exact k2,?_⟩,by simp only;omega,rfl,rfl⟩
    rw[<- k3,Sort.shiftDown,if_neg (Nu hl)]
 ·have hge':¬ (2:Int)<=((i - a:Nat):Int):=by omega
  rw[if_neg hge] at hq;unfold Dy;simp only[go_sem,seval,h10,h9,h2,h0,h1,e',w1,w2,w3,xq,hge',mv,rd,r1,r2,<- hn2,wr,bn,aU,bf,z02,z00];rw[<- hZ] at hq ⊢;refine rk4 1 rfl Z st i a b n (by omega) (by omega) hb hZs.symm hX _ ?_ λτ' hτ=>hq τ' hτ
  simp only[go_sem,seval,L7]
theorem sorted_in(d:Array Int)(b:Nat):∀ (k i:Nat),b - i=k->i<=b->i<=Sort.scanSorted lt d b i/\Sort.scanSorted lt d b i<=b
 |0,i,h,h2=>by
  rw[Sort.scanSorted.eq_def,if_neg (by simp only[z06,decide_eq_true_eq];omega)]
  exact⟨z07 _,h2⟩
 |k+1,i,h,h2=>by
  rw[Sort.scanSorted.eq_def];split
  ·have:=sorted_in d b k (i+1) (by omega) (by omega);omega
  ·exact⟨z07 _,h2⟩
theorem uy{a b i:Nat}{Y:Array Int}:(qY a b i Y).size=Y.size:=by unfold qY;simp only;split<;>split<;>simp only[uq b _ _ _ rfl,uw,swp_size]
theorem Dz(a b s i c:Nat)(Y:Array Int)(h:Sort.scanSorted lt Y b i=c):Sort.partialIns lt a b (s+1) i Y=if c=b then(Y,true) else if b - a<50 then(Y,false) else Sort.partialIns lt a b s c (qY a b c Y):=by rw[Sort.partialIns,h];rfl
theorem VW(X:Array Int)(a b:Nat)(hb:b<=X.size)(hX:X.size<1000000)(ha:a<b):
  bC Try.prog main Fz 127 [.vec 0 X.size, .int .i64 a, .int .i64 b] [mv X]
   (.bool (Sort.partialInsertionSort lt X a b).2) [mv (Sort.partialInsertionSort lt X a b).1]:=by
 refine wkA j127 [.tmp 6] 133 lZ rfl ?_;have w1:z01.wrap ((a:Int)+1)=((a+1:Nat):Int):=aJ;obtain⟨R,hR⟩:∃ R,R=Sort.partialInsertionSort lt X a b:=⟨_,rfl⟩;rw[<- hR];unfold j127;simp only[go_sem,seval,mv,w1];refine bU (Nat×Nat×Array Int) (λs=>[.int .i64 s.1, .int .i64 s.2.1]) (λs=>[mv s.2.2]) (λs=>(a<s.2.1/\s.2.1<=b)/\(s.1<=5/\s.2.2.size=X.size)/\Sort.partialIns lt a b (5 - s.1) s.2.1 s.2.2=R) (λs=>5 - s.1) (0,a+1,X) ⟨⟨by simp only;omega,by simp only;omega⟩,⟨by simp only;omega,rfl⟩,hR.symm⟩ ?_ rfl ?_
 ·simp only[go_sem,seval]
 rintro⟨st,i,Y⟩ ⟨⟨k0,k1⟩,⟨k2,k3⟩,k4⟩;simp only at k0 k1 k2 k3 k4;by_cases h5:st<5
 ·have h5':((st:Int)<5)=True:=by simp;omega
  obtain⟨c,hc⟩:∃ c,Sort.scanSorted lt Y b i=c:=⟨_,rfl⟩;have hcb:=sorted_in Y b _ i rfl k1;rw[hc] at hcb;obtain⟨s,hs⟩:∃ s,5 - st=s+1:=⟨4 - st,by omega⟩
  rw[hs,Dz a b s i c Y hc] at k4;have w2:z01.wrap ((st:Int)+1)=((st+1:Nat):Int):=aJ;unfold Xi;simp only[go_sem,seval,h5',mv];refine bU Nat (λi=>[.int .i64 i]) (λ_=>[mv Y]) (λi'=>(a<i'/\i'<=b)/\Sort.scanSorted lt Y b i'=c) (λi'=>b - i') i ⟨⟨k0,k1⟩,hc⟩ ?_ rfl ?_
  ·simp only[go_sem,seval]
  rintro k ⟨⟨q0,q1⟩,q2⟩;by_cases hkb:k<b
  ·have r1:k<X.size:=by omega
   have r2:k - 1<X.size:=by omega
   have w3:z01.wrap ((k:Int) - 1)=((k - 1:Nat):Int):=by rw[aJ];omega
   have w4:z01.wrap ((k:Int)+1)=((k+1:Nat):Int):=aJ;unfold Xe;simp only[go_sem,seval,hkb,w3,w4,cZ,mv,rd,r1,r2,k3,bn,aU,z02,z00];refine⟨λhl=> ?_,λhl=> ?_⟩
   ·refine⟨k+1,⟨⟨by omega,by omega⟩,?_⟩,by omega,rfl⟩
    rw[<- q2,Sort.scanSorted.eq_def lt Y b k,if_pos (ab hkb (Ns hl))]
   ·have hck:c=k:=by rw[<- q2,Sort.scanSorted.eq_def,if_neg (WE (Nu hl))]
    subst hck;refine rk5 _ rfl Y st c a b X.size hcb.2 (by omega) hb k3.symm hX _ ?_ (λe τ' qZ=> ?_) (λe e2 τ' qZ=> ?_) (λe e2 τ' qZ=> ?_)
    ·simp only[go_sem,seval,L7]
    ·rw[if_pos e] at k4;subst k4;simp only[go_sem,seval,qZ,mv]
    ·rw[if_neg e,if_pos e2] at k4;subst k4;simp only[go_sem,seval,qZ,mv]
    ·rw[if_neg e,if_neg e2] at k4;obtain⟨g10,g9,g2,g0,g1⟩:=qZ;unfold Xh;simp only[go_sem,seval,g10,g9,g2,g0,g1,w2,mv];refine⟨(st+1,c,qY a b c Y),⟨⟨by simp only;omega,by simp only;omega⟩,⟨by simp only;omega,by simp only;rw[uy];exact k3⟩,by rw[<- k4,show 5 - (st+1)=s by omega]⟩,by simp only;omega,⟨rfl,rfl⟩,rfl⟩
  ·unfold Xe;simp only[go_sem,seval,hkb,cZ,mv,z02,z00];have hck:c=k:=by rw[<- q2,Sort.scanSorted.eq_def,if_neg (WC hkb)]
   subst hck;refine rk5 _ rfl Y st c a b X.size hcb.2 (by omega) hb k3.symm hX _ ?_ (λe τ' qZ=> ?_) (λe e2 τ' qZ=> ?_) (λe e2 τ' qZ=> ?_)
   ·simp only[go_sem,seval,L7]
   ·rw[if_pos e] at k4;subst k4;simp only[go_sem,seval,qZ,mv]
   ·rw[if_neg e,if_pos e2] at k4;subst k4;simp only[go_sem,seval,qZ,mv]
   ·rw[if_neg e,if_neg e2] at k4;obtain⟨g10,g9,g2,g0,g1⟩:=qZ;unfold Xh;simp only[go_sem,seval,g10,g9,g2,g0,g1,w2,mv];refine⟨(st+1,c,qY a b c Y),⟨⟨by simp only;omega,by simp only;omega⟩,⟨by simp only;omega,by simp only;rw[uy];exact k3⟩,by rw[<- k4,show 5 - (st+1)=s by omega]⟩,by simp only;omega,⟨rfl,rfl⟩,rfl⟩
 ·have h5':((st:Int)<5)=False:=by simp;omega
  have e5:5 - st=0:=by omega
  rw[e5] at k4;unfold Xi;simp only[go_sem,seval,h5',mv];unfold afA;simp only[go_sem,seval];rw[Sort.partialIns] at k4;subst k4;exact⟨rfl,rfl⟩
end Go.Proofs.Ytpajfggdnobheaa.PI
namespace Go.Proofs.Ytpajfggdnobheaa.PI
variable {main:Bool} {Fz:Nat->Prop}
open D
def j88:JC:=(qN (o8 2 0<|.nil) (.seq (qN (o7 3 0<|qo 4 (.cmp .geq (.t 3) (.c (.int .u64 4294967296)))<|.nil) (qO 4 (qN (o7 5 0<|qo 6 (.ar .shr (.t 5) (.c (.int .u64 32)))<|o7 0 6<|.nil) (.ops<|o8 2 32<|.nil)) .skip)) (.seq (qN (o7 7 0<|qo 8 (.cmp .geq (.t 7) (.c (.int .u64 65536)))<|.nil) (qO 8 (qN (qL [0,2]<|o7 9 0<|qo 10 (.ar .shr (.t 9) (.c (.int .u64 16)))<|o7 0 10<|.nil) (qM [2,0] (.ops<|o7 11 2<|oI 12 11 16<|o7 2 12<|.nil))) .skip)) (qM [0,2] (.seq (qN (o7 13 0<|qo 14 (.cmp .geq (.t 13) (.c (.int .u64 256)))<|.nil) (qO 14 (qN (o7 15 0<|qo 16 (.ar .shr (.t 15) (.c (.int .u64 8)))<|o7 0 16<|.nil) (.ops<|qL [2,0]<|o7 17 2<|oI 18 17 8<|o7 2 18<|.nil)) .skip)) (qM [2,0] (qN (o7 19 2<|o7 20 0<|qo 21 (.conv .u8 (.t 20))<|qo 22 (.sx (.c (.str [0,1,2,2,3,3,3,3,4,4,4,4,4,4,4,4,5,5,5,5,5,5,5,5,5,5,5,5,5,5,5,5,6,6,6,6,6,6,6,6,6,6,6,6,6,6,6,6,6,6,6,6,6,6,6,6,6,6,6,6,6,6,6,6,7,7,7,7,7,7,7,7,7,7,7,7,7,7,7,7,7,7,7,7,7,7,7,7,7,7,7,7,7,7,7,7,7,7,7,7,7,7,7,7,7,7,7,7,7,7,7,7,7,7,7,7,7,7,7,7,7,7,7,7,7,7,7,7,8,8,8,8,8,8,8,8,8,8,8,8,8,8,8,8,8,8,8,8,8,8,8,8,8,8,8,8,8,8,8,8,8,8,8,8,8,8,8,8,8,8,8,8,8,8,8,8,8,8,8,8,8,8,8,8,8,8,8,8,8,8,8,8,8,8,8,8,8,8,8,8,8,8,8,8,8,8,8,8,8,8,8,8,8,8,8,8,8,8,8,8,8,8,8,8,8,8,8,8,8,8,8,8,8,8,8,8,8,8,8,8,8,8,8,8,8,8,8,8,8,8,8,8,8,8,8,8])) (.t 21))<|qo 23 (.conv .i64 (.t 22))<|qo 24 (.ar .add (.t 19) (.t 23))<|o7 2 24<|.nil) .ret)))))))
theorem c88:bW Try.prog bG 88=some (j88.flat,[.tmp 2],25):=by kernel_rfl
theorem w88:j88.wf 25=true:=by kernel_rfl
def j47:JC:=(qN (o8 2 0<|.nil) (.seq (.cond (B false) (qN (o7 3 0<|qo 4 (.conv .u32 (.t 3))<|oL 5 87 4<|o7 2 5<|.nil) .ret) .skip) (qN (o7 6 0<|oL 7 88 6<|o7 2 7<|.nil) .ret)))
theorem c47:bW Try.prog bG 47=some (j47.flat,[.tmp 2],8):=by kernel_rfl
theorem w47:j47.wf 8=true:=by kernel_rfl
def j111:JC:=(qN (qo 2 (.mv (.c (.int .u64 0)))<|.nil) (qN (o7 3 0<|qo 4 (.conv .u64 (.t 3))<|oL 5 47 4<|qo 6 (.ar .shl (.c (.int .u64 1)) (.t 5))<|o7 2 6<|.nil) .ret))
theorem anX:bW Try.prog bG 111=some (j111.flat,[.tmp 2],7):=by kernel_rfl
theorem anY:j111.wf 7=true:=by kernel_rfl
def j112:JC:=(qN (qo 2 (.mv (.c (.int .u64 0)))<|.nil) (.seq (.aZ<|o7 3 0<|oP 4 3<|o9 5 1 4<|o7 6 0<|oP 7 6<|o9 8 1 7<|qL [8,5,3,0]<|qo 9 (.ar .shl (.t 8) (.c (.int .u64 13)))<|qo 10 (.ar .xor (.t 5) (.t 9))<|oP 11 3<|oG 1 11 10<|.nil) (qM [0] (.seq (.aZ<|o7 12 0<|oP 13 12<|o9 14 1 13<|o7 15 0<|oP 16 15<|o9 17 1 16<|qL [17,14,12,0]<|qo 18 (.ar .shr (.t 17) (.c (.int .u64 7)))<|qo 19 (.ar .xor (.t 14) (.t 18))<|oP 20 12<|oG 1 20 19<|.nil) (qM [0] (.seq (.aZ<|o7 21 0<|oP 22 21<|o9 23 1 22<|o7 24 0<|oP 25 24<|o9 26 1 25<|qL [26,23,21,0]<|qo 27 (.ar .shl (.t 26) (.c (.int .u64 17)))<|qo 28 (.ar .xor (.t 23) (.t 27))<|oP 29 21<|oG 1 29 28<|.nil) (qM [0] (qN (o7 30 0<|oP 31 30<|o9 32 1 31<|o7 2 32<|.nil) .ret))))))))
theorem anZ:bW Try.prog bG 112=some (j112.flat,[.tmp 2],33):=by kernel_rfl
theorem an0:j112.wf 33=true:=by kernel_rfl
def Ot:JC:=(.seq (qN (o7 26 9<|o7 27 1<|o7 28 6<|qo 29 (.ar .quo (.t 28) (I 4))<|qo 30 (.ar .mul (.t 29) (I 2))<|qo 31 (.ar .add (.t 27) (.t 30))<|oI 32 31 1<|qo 33 (.cmp .leq (.t 26) (.t 32))<|.nil) (qO 33 .skip (.exit 0))) (qM [7,8,6,0,9,1] (.seq (.block 1 (qN (oL 36 112 7<|o7 37 8<|qo 38 (.ar .sub (.t 37) (.c (.int .u64 1)))<|qo 39 (.ar .and (.t 36) (.t 38))<|qo 40 (.conv .i64 (.t 39))<|o7 10 40<|.nil) (qM [10,6,0,9,1,7,8] (.seq (qN (o7 41 10<|o7 42 6<|qo 43 (.cmp .geq (.t 41) (.t 42))<|.nil) (qM [43,10,6,0,9,1,7,8] (qO 43 (.ops<|o7 44 10<|o7 45 6<|qo 46 (.ar .sub (.t 44) (.t 45))<|o7 10 46<|.nil) .skip))) (qM [0,9,1,10,6,7,8] (.aZ<|o7 47 0<|o7 48 9<|o7 49 0<|o7 50 1<|o7 51 10<|qo 52 (.ar .add (.t 50) (.t 51))<|o7 53 0<|o7 54 1<|o7 55 10<|qL [54,55,53,0,9,47,48,49,52,1,6,7,8]<|qo 56 (.ar .add (.t 54) (.t 55))<|oJ 57 1 53 56<|qL [57,0,9,47,48,49,52,1,6,7,8]<|o9 58 1 57<|o7 59 0<|o7 60 9<|oJ 61 1 59 60<|qL [61,47,48,58,49,52,9,1,6,7,8,0]<|o9 62 1 61<|oJ 63 1 47 48<|qL [63,58,49,52,62,9,1,6,7,8,0]<|oG 1 63 58<|oJ 64 1 49 52<|oG 1 64 62<|.nil)))))) (qM [9,1,6,7,8,0] (.ops<|o7 34 9<|oI 35 34 1<|o7 9 35<|.nil)))))
def j124:JC:=(qN (o7 11 2<|o7 12 1<|qo 13 (.ar .sub (.t 11) (.t 12))<|o7 6 13<|.nil) (qN (o7 14 6<|qo 15 (.cmp .geq (.t 14) (I 8))<|.nil) (qO 15 (qN (o7 16 6<|qL [16,6,1,0]<|qo 17 (.conv .u64 (.t 16))<|eo 7 (.alloc 199 (.int .u64 0))<|oG 1 7 17<|.nil) (qM [6,1,7,0] (qN (o7 18 6<|oL 19 111 18<|o7 8 19<|.nil) (qN (o7 20 1<|o7 21 6<|qo 22 (.ar .quo (.t 21) (I 4))<|qL [22,20,1,6,7,8,0]<|qo 23 (.ar .mul (.t 22) (I 2))<|qo 24 (.ar .add (.t 20) (.t 23))<|qo 25 (.ar .sub (.t 24) (I 1))<|o7 9 25<|.nil) (qM [9,1,6,7,8,0] (.block 0 (.loop [1,6,7,8,0] [9] Ot))))))) .skip)))
theorem Sj{n m:Nat}(h1:n<2^m)(h2:m=0\/2^(m - 1)<=n):Sort.bitsLen n=m:=by
 have e1:=(Sort.bitsLen_le_iff n m).2 h1;rcases h2 with h2|h2
 ·omega
 ·rcases Nat.lt_or_ge (Sort.bitsLen n) m with h|h
  ·have:=(Sort.bitsLen_le_iff n (m - 1)).1 (by omega)
   omega
  ·omega
def ni:List UInt8:=[0,1,2,2,3,3,3,3,4,4,4,4,4,4,4,4,5,5,5,5,5,5,5,5,5,5,5,5,5,5,5,5,6,6,6,6,6,6,6,6,6,6,6,6,6,6,6,6,6,6,6,6,6,6,6,6,6,6,6,6,6,6,6,6,7,7,7,7,7,7,7,7,7,7,7,7,7,7,7,7,7,7,7,7,7,7,7,7,7,7,7,7,7,7,7,7,7,7,7,7,7,7,7,7,7,7,7,7,7,7,7,7,7,7,7,7,7,7,7,7,7,7,7,7,7,7,7,7,8,8,8,8,8,8,8,8,8,8,8,8,8,8,8,8,8,8,8,8,8,8,8,8,8,8,8,8,8,8,8,8,8,8,8,8,8,8,8,8,8,8,8,8,8,8,8,8,8,8,8,8,8,8,8,8,8,8,8,8,8,8,8,8,8,8,8,8,8,8,8,8,8,8,8,8,8,8,8,8,8,8,8,8,8,8,8,8,8,8,8,8,8,8,8,8,8,8,8,8,8,8,8,8,8,8,8,8,8,8,8,8,8,8,8,8,8,8,8,8,8,8,8,8,8,8,8,8]
theorem nT:∀ k:Fin 256,k.val<2^(ni.getD k.val 0).toNat/\((ni.getD k.val 0).toNat=0\/2^((ni.getD k.val 0).toNat - 1)<=k.val)/\(ni.getD k.val 0).toNat<=8:=of_decide_eq_true (by kernel_rfl)
theorem I5{k:Nat}(h:k<256):(ni.getD k 0).toNat=Sort.bitsLen k:=(Sj (nT ⟨k,h⟩).1 (nT ⟨k,h⟩).2.1).symm
theorem nU{k:Nat}(h:k<256):(ni.getD k 0).toNat<=8:=(nT ⟨k,h⟩).2.2
def dU:DT Int:=DT.nO (.int .u64)
theorem afo(n:Int):dU.aA n= .int .u64 n:=nr rfl
theorem I7(m:List ay)(n:Int):dU.aI m (.int .u64 n)=n:=nr rfl
theorem I8(m:List ay)(n:Int):dU.decP m (.int .u64 n)=True:=eq_true rfl
instance:Flat dU:=⟨λy=>iZ _ y⟩
attribute [go_sem] afo I7 I8
theorem Om(n:Nat)(hn:n<65536):bC Try.prog main Fz 88 [.int .u64 n] [] (.int .i64 (Sort.bitsLen n)) []:=by
 refine aG c88 w88 FH.au rfl ?_;by_cases h:256<=n
 ·have c1:¬ (4294967296:Int)<=n:=by omega
  have c2:¬ (65536:Int)<=n:=by omega
  have c3:(256:Int)<=n:=by omega
  have f1:(n:Int).fdiv (2^min 8 64)=((n/256:Nat):Int):=by rw[show min 8 64=8 from rfl,z0y _ (by decide)];omega
  have f2:z1o.wrap (((n/256:Nat):Int))=((n/256:Nat):Int):=z1h _ (by omega)
  unfold j88;simp only[go_sem,seval,c1,c2,c3];have hx:n/256<256:=by omega
  refine⟨by rw[f1,f2];omega,?_⟩
  rw[f1,f2];show z01.wrap (z01.wrap 8+z01.wrap ((ni.getD (((n/256:Nat):Int)).toNat 0).toNat))=_;rw[z0g,z0e 8 (by omega),z0e (((ni.getD (n/256) 0).toNat:Nat):Int) (by have:=nU hx;omega),z0e _ (by have:=nU hx;omega)]
  have k1:=nT ⟨n/256,hx⟩;simp only at k1;have:Sort.bitsLen n=8+(ni.getD (n/256) 0).toNat:=by
   generalize (ni.getD (n/256) 0).toNat=m at k1;refine Sj ?_ (.inr ?_)
   ·rw[Nat.pow_add];omega
   ·obtain⟨_,h2,_⟩:=k1;rcases h2 with h2|h2
    ·subst h2;omega
    ·rcases Nat.eq_zero_or_pos m with h0|h0
     ·subst h0;omega
     ·rw[show 8+m - 1=8+(m - 1) by omega,Nat.pow_add];omega
  omega
 ·have c1:¬ (4294967296:Int)<=n:=by omega
  have c2:¬ (65536:Int)<=n:=by omega
  have c3:¬ (256:Int)<=n:=by omega
  have f3:z1o.wrap (n:Int)=n:=z1h _ (by omega)
  unfold j88;simp only[go_sem,seval,c1,c2,c3];have hx:n<256:=by omega
  refine⟨by rw[f3];omega,?_⟩
  rw[f3];show z01.wrap (0+z01.wrap ((ni.getD ((n:Int)).toNat 0).toNat))=_;rw[z0g,z0e (((ni.getD n 0).toNat:Nat):Int) (by have:=nU hx;omega),z0e _ (by have:=nU hx;omega),I5 hx]
  omega
def G64(f:FuncId)(a:List SV)(m:List ay):Sx.Call:=(FH.rd 88 (.one dU) (.one .int) (λy=>0<=y.1/\y.1<65536) (λy=>(Sort.bitsLen y.1.toNat:Int)) FH.none) f a m
theorem WX:type_of% (nq G64.eq_1):=nq G64.eq_1
theorem WY:bQ Try.prog main Fz G64:=FH.dM (λy h=>by obtain⟨y,⟨⟩⟩:=y;simp only at h;obtain⟨n,rfl⟩:=aY h.1;exact Om n (by omega)) FH.au
theorem afp(n:Nat)(hn:n<65536):bC Try.prog main Fz 47 [.int .u64 n] [] (.int .i64 (Sort.bitsLen n)) []:=by refine aG c47 w47 WY rfl ?_;unfold j47;simp only[go_sem,seval,WX,I7,I8];omega
def Gln(f:FuncId)(a:List SV)(m:List ay):Sx.Call:=(FH.rd 47 (.one dU) (.one .int) (λy=>0<=y.1/\y.1<65536) (λy=>(Sort.bitsLen y.1.toNat:Int)) FH.none) f a m
theorem HY:type_of% (nq Gln.eq_1):=nq Gln.eq_1
theorem Hz:bQ Try.prog main Fz Gln:=FH.dM (λy h=>by obtain⟨y,⟨⟩⟩:=y;simp only at h;obtain⟨n,rfl⟩:=aY h.1;exact afp n (by omega)) FH.au
theorem QU{n:Nat}(hn:n<65536):Sort.bitsLen n<=16:=(Sort.bitsLen_le_iff n 16).2 (by omega)
theorem afq(n:Nat)(hn:n<65536):bC Try.prog main Fz 111 [.int .i64 n] [] (.int .u64 ((1<<<Sort.bitsLen n:Nat):Int)) []:=by
 refine aG anX anY Hz rfl ?_;have w1:z0f.wrap (n:Int)=n:=z0k _ (by omega)
 have hb:=QU hn;unfold j111;simp only[go_sem,seval,HY,w1];refine⟨⟨by omega,by omega⟩,z00 _,?_⟩
 rw[z1k (by omega),z0u]
 generalize Sort.bitsLen n=k at hb;have h2:2^k<=2^16:=Nat.pow_le_pow_right (by decide) hb
 have h3:((2:Int)^k)=((2^k:Nat):Int):=by rw[Int.natCast_pow];rfl
 rw[Int.one_mul,h3,z0k ((2^k:Nat):Int) ⟨z00 _,by generalize 2^k=z at h2;omega⟩,z1c]
theorem bx{a b:Nat}(ha:a<18446744073709551616)(hb:b<18446744073709551616):zK .u64 (a:Int) (b:Int)=((a^^^b:Nat):Int):=by
 have hx:a^^^b<2^64:=z0r (by omega) (by omega)
 unfold zK;have e:(BitVec.ofInt z0f.bits (a:Int)^^^BitVec.ofInt z0f.bits (b:Int)).toNat=a^^^b:=by show(BitVec.ofInt 64 (a:Int)^^^BitVec.ofInt 64 (b:Int)).toNat=a^^^b;rw[BitVec.toNat_xor,BitVec.ofInt_natCast,BitVec.ofInt_natCast,BitVec.toNat_ofNat,BitVec.toNat_ofNat,z0o (by omega),z0o (by omega)]
 rw[e,z0k _ (by omega)]
theorem ba{a b:Nat}(ha:a<18446744073709551616)(hb:b<18446744073709551616):uU .u64 (a:Int) (b:Int)=((a&&&b:Nat):Int):=by
 have hx:a&&&b<=b:=z1i;unfold uU;have e:(BitVec.ofInt z0f.bits (a:Int)&&&BitVec.ofInt z0f.bits (b:Int)).toNat=a&&&b:=by show(BitVec.ofInt 64 (a:Int)&&&BitVec.ofInt 64 (b:Int)).toNat=a&&&b;rw[BitVec.toNat_and,BitVec.ofInt_natCast,BitVec.ofInt_natCast,BitVec.toNat_ofNat,BitVec.toNat_ofNat,z0o (by omega),z0o (by omega)]
 rw[e,z0k _ (by omega)]
theorem WZ(x:Nat)(hx:x<18446744073709551616):bC Try.prog main Fz 112 [.ptr 0 [] 0] [.blk 199 (dU.aA x)] (.int .u64 (Sort.xorNextN x)) [.blk 199 (dU.aA (Sort.xorNextN x))]:=by
 refine aG anZ an0 FH.au rfl ?_;unfold j112;simp only[go_sem,seval];have e1:z0f.wrap ((x:Int)*2^min 13 64)=((x*8192%18446744073709551616:Nat):Int):=by rw[show min 13 64=13 from rfl,z1d];omega
 obtain⟨A,hA⟩:∃ A:Nat,A=x^^^(x*8192%18446744073709551616):=⟨_,rfl⟩;have lA:A<18446744073709551616:=by rw[hA];exact z0r (n:=64) (by omega) (by omega)
 have e2:((A:Int)).fdiv (2^min 7 64)=((A/128:Nat):Int):=by rw[show min 7 64=7 from rfl,z0y _ (by decide)];omega
 obtain⟨B,hB⟩:∃ B:Nat,B=A^^^(A/128):=⟨_,rfl⟩;have lB:B<18446744073709551616:=by rw[hB];exact z0r (n:=64) (by omega) (by omega)
 have e3:z0f.wrap ((B:Int)*2^min 17 64)=((B*131072%18446744073709551616:Nat):Int):=by rw[show min 17 64=17 from rfl,z1d];omega
 have hv:Sort.xorNextN x=B^^^(B*131072%18446744073709551616):=by unfold Sort.xorNextN;simp only[];rw[<- hA,<- hB]
 rw[e1,bx hx (by omega),<- hA,e2,bx lA (by omega),<- hB,e3,bx lB (by omega),hv]
 exact⟨rfl,rfl⟩
def Gbp(f:FuncId)(a:List SV)(m:List ay):Sx.Call:=(FH.rd 111 (.one .int) (.one dU) (λy=>0<=y.1/\y.1<65536) (λy=>((1<<<Sort.bitsLen y.1.toNat:Nat):Int))<|
 FH.mt 112 199 dU .nil (.one dU) (λs _=>0<=s/\s<18446744073709551616) (λs _=>(Sort.xorNextN s.toNat:Int)) (λs _=>(Sort.xorNextN s.toNat:Int)) FH.none) f a m
theorem zY:type_of% (nq Gbp.eq_1):=nq Gbp.eq_1
theorem W9:bQ Try.prog main Fz Gbp:=FH.dM (λy h=>by
 obtain⟨y,⟨⟩⟩:=y;simp only at h;obtain⟨n,rfl⟩:=aY h.1;exact afq n (by omega))<|FH.zo (λs y h=>by
 obtain⟨n,rfl⟩:=aY h.1;exact WZ n (by omega)) FH.au
def bpRest(a L M i0:Nat):Nat->Nat->UInt64×Array Int->Array Int
 |0,_,st=>st.2
 |k+1,t,st=>bpRest a L M i0 k (t+1) (Sort.breakStep a L M st (i0+t))
theorem I9(d:Array Int)(a b L:Nat)(h:L=b - a)(h8:8<=L):Sort.breakPatterns d a b=bpRest a L (1<<<Sort.bitsLen L) (a+L/4*2 - 1) 3 0 (UInt64.ofNat L,d):=by unfold Sort.breakPatterns;simp only[<- h];rw[if_pos h8];rfl
def oth(r:UInt64)(M L:Nat):Nat:=if (Sort.xorNext r).toNat&&&(M - 1)≥L then((Sort.xorNext r).toNat&&&(M - 1)) - L else(Sort.xorNext r).toNat&&&(M - 1)
theorem bp_step(a L M i0 t k:Nat)(r:UInt64)(d:Array Int):bpRest a L M i0 (k+1) t (r,d)=bpRest a L M i0 k (t+1) (Sort.xorNext r,Sort.swp d (i0+t) (a+oth r M L)):=rfl
theorem NM(X:Array Int)(a b:Nat)(hb:b<=X.size)(hX:X.size<65536)(ha:a+8<=b):
  bC Try.prog main Fz 124 [.vec 0 X.size, .int .i64 a, .int .i64 b] [mv X]
   (.cu []) [mv (Sort.breakPatterns X a b)]:=by
 refine wkA j124 [] 65 W9 rfl ?_;obtain⟨l,hl⟩:∃ l:Nat,l=b - a:=⟨_,rfl⟩;have w1:z01.wrap ((b:Int) - a)=(l:Int):=by rw[aJ];omega
 have w2:((8:Int)<=l)=True:=by simp;omega
 have w3:z0f.wrap (l:Int)=l:=z0k _ (by omega)
 have w4:(l:Int).tdiv 4=((l/4:Nat):Int):=rfl;have w5:z01.wrap ((l/4:Nat):Int)=((l/4:Nat):Int):=aJ;have w6:z01.wrap (((l/4:Nat):Int)*2)=((l/4:Nat):Int)*2:=aJ;obtain⟨i0,hi0⟩:∃ i0:Nat,i0=a+l/4*2 - 1:=⟨_,rfl⟩;have w7:z01.wrap ((a:Int)+((l/4:Nat):Int)*2)=((i0+1:Nat):Int):=by rw[aJ];omega
 have w8:z01.wrap (((i0+1:Nat):Int) - 1)=(i0:Int):=by rw[aJ];omega
 have w9:z01.wrap (((i0+1:Nat):Int)+1)=((i0+2:Nat):Int):=by rw[aJ];omega
 unfold j124;simp only[go_sem,seval,mv,w1,w2,w3,w4,w5,w6,w7,w8,zY];refine⟨⟨z00 _,by omega⟩,?_⟩
 obtain⟨M,hM⟩:∃ M,M=1<<<Sort.bitsLen l:=⟨_,rfl⟩;have hM2:M<=2*l:=by rw[hM,z0u,z1c];exact Sort.two_pow_bitsLen_le (by omega)
 have hM1:0<M:=by rw[hM,z0u,z1c];exact Nat.two_pow_pos _
 have m1:z0f.wrap ((M:Int) - 1)=((M - 1:Nat):Int):=by rw[z0k _ (by omega)];omega
 have hbe:=I9 X a b l hl (by omega)
 rw[<- hM,<- hi0] at hbe;rw[<- hM];obtain⟨R,hR⟩:∃ R,R=Sort.breakPatterns X a b:=⟨_,rfl⟩;rw[<- hR] at hbe ⊢;refine bU (Nat×UInt64×Array Int) (λs=>[.int .i64 ((i0+s.1:Nat):Int)]) (λs=>[mv s.2.2, .blk 199 (.int .u64 (s.2.1.toNat:Int))]) (λs=>s.1<=3/\s.2.2.size=X.size/\bpRest a l M i0 (3 - s.1) s.1 s.2=R) (λs=>3 - s.1) (0,UInt64.ofNat l,X) ⟨by simp only;omega,rfl,hbe.symm⟩ ?_ ?_ ?_
 ·simp only[go_sem,seval]
 ·have:(UInt64.ofNat l).toNat=l:=by simp;omega
  simp only[this]
 rintro⟨t,r,Y⟩ ⟨k0,k1,k2⟩;simp only at k0 k1 k2;by_cases ht:t<3
 ·have c1:((((i0+t:Nat):Int))<=((i0+2:Nat):Int))=True:=by simp;omega
  have n1:(r.toNat:Int)<18446744073709551616:=by have:=r.toNat_lt;omega
  have n2:(Sort.xorNextN r.toNat:Int)=(((Sort.xorNext r).toNat:Nat):Int):=by rw[Sort.xorNext_toNat]
  have n3:uU .u64 (((Sort.xorNext r).toNat:Nat):Int) ((M - 1:Nat):Int)=(((Sort.xorNext r).toNat&&&(M - 1):Nat):Int):=ba (by have:=(Sort.xorNext r).toNat_lt;omega) (by omega)
  have hle:(Sort.xorNext r).toNat&&&(M - 1)<=M - 1:=z1i;obtain⟨o,ho⟩:∃ o,o=(Sort.xorNext r).toNat&&&(M - 1):=⟨_,rfl⟩;rw[<- ho] at n3 hle;have n4:z01.wrap (o:Int)=o:=aJ;obtain⟨s,hs⟩:∃ s,3 - t=s+1:=⟨2 - t,by omega⟩
  rw[hs,bp_step] at k2;have w10:z01.wrap (((i0+t:Nat):Int)+1)=((i0+t+1:Nat):Int):=aJ;have r1:i0+t<X.size:=by omega
  by_cases hol:l<=o
  ·have Xa:((l:Int)<=o)=True:=by simp;omega
   have n5:z01.wrap ((o:Int) - l)=((o - l:Nat):Int):=by rw[aJ];omega
   have n6:z01.wrap ((a:Int)+((o - l:Nat):Int))=((a+(o - l):Nat):Int):=aJ;have hoth:oth r M l=o - l:=by unfold oth;rw[<- ho,if_pos hol]
   have r2:a+(o - l)<X.size:=by omega
   rw[hoth] at k2;unfold Ot;simp only[go_sem,seval,mv,w4,w5,w6,w7,w9,w10,c1,m1,n1,n2,n3,n4,n5,n6,Xa,zY,rd,r1,r2,k1,wr,bn,aU,bf,z02,z00];exact⟨(t+1,Sort.xorNext r,Sort.swp Y (i0+t) (a+(o - l))),⟨by simp only;omega,by simp only;rw[swp_size];exact k1,by rw[<- k2,show 3 - (t+1)=s by omega]⟩,by simp only;omega,rfl,rfl⟩
  ·have Xa:((l:Int)<=o)=False:=by simp;omega
   have n6:z01.wrap ((a:Int)+(o:Int))=((a+o:Nat):Int):=aJ;have hoth:oth r M l=o:=by unfold oth;rw[<- ho,if_neg hol]
   have r2:a+o<X.size:=by omega
   rw[hoth] at k2;unfold Ot;simp only[go_sem,seval,mv,w4,w5,w6,w7,w9,w10,c1,m1,n1,n2,n3,n4,n6,Xa,zY,rd,r1,r2,k1,wr,bn,aU,bf,z02,z00];exact⟨(t+1,Sort.xorNext r,Sort.swp Y (i0+t) (a+o)),⟨by simp only;omega,by simp only;rw[swp_size];exact k1,by rw[<- k2,show 3 - (t+1)=s by omega]⟩,by simp only;omega,rfl,rfl⟩
 ·have c1:((((i0+t:Nat):Int))<=((i0+2:Nat):Int))=False:=by simp;omega
  unfold Ot;simp only[go_sem,seval,mv,w4,w5,w6,w7,w9,c1];rw[show 3 - t=0 by omega] at k2
  rw[<- k2];rfl
end Go.Proofs.Ytpajfggdnobheaa.PI
section
open Go Go.Lib
namespace Go.Proofs.Ytpajfggdnobheaa.SortP
variable {main:Bool} {Fz:Nat->Prop}
def upTo(zs:List Int):Nat->List Int
 |0=>[]
 |j+1=>upTo zs j++if zs.any (λz=>decide (z=(j:Int)))=true then[(j:Int)] else[]
theorem Bl{zs:List Int}{x:Int}:∀ n,x∈upTo zs n↔x∈zs/\0<=x/\x<n
 |0=>by simp[upTo]
 |n+1=>by
  rw[upTo,z03,Bl n];constructor
  ·rintro(h|h)
   ·exact⟨h.1,h.2.1,by omega⟩
   ·split at h
    ·rename_i h1;rw[z1g] at h1;obtain⟨z,hz,h2⟩:=h1;have h2:=of_decide_eq_true h2;have h3:=z0a.1 h;subst h3;subst h2;exact⟨hz,by omega,by omega⟩
    ·cases h
  ·rintro⟨h1,h2,h3⟩;by_cases e:x=n
   ·subst e;right;rw[if_pos (z1g.2 ⟨_,h1,by simp⟩)]
    exact z0a.2 rfl
   ·exact .inl ⟨h1,h2,by omega⟩
theorem TV{zs:List Int}:∀ n,(upTo zs n).Pairwise (· < ·)
 |0=>List.Pairwise.nil
 |n+1=>by
  rw[upTo,z19];refine⟨TV n,by split<;>simp,λa ha b hb=> ?_⟩
  split at hb
  ·have:=z0a.1 hb;have:=((Bl n).1 ha).2.2;omega
  ·cases hb
theorem ahs:∀ {a b:List Int},a.Pairwise (· < ·)->b.Pairwise (· < ·)->(∀ x,x∈a↔x∈b)->a=b
 |[],[],_,_,_=>rfl
 |[],y::b,_,_,h=>absurd ((h y).2 z0m) (by simp)
 |x::a,[],_,_,h=>absurd ((h x).1 z0m) (by simp)
 |x::a,y::b,ha,hb,h=>by
  rw[List.pairwise_cons] at ha hb;have hxy:x=y:=by
   have h1:=(h x).1 z0m;have h2:=(h y).2 z0m;rw[z05] at h1 h2;rcases h1 with h1|h1
   ·exact h1
   ·rcases h2 with h2|h2
    ·exact h2.symm
    ·have:=hb.1 x h1;have:=ha.1 y h2;omega
  subst hxy
  congr 1
  refine ahs ha.2 hb.2 λz=> ?_;constructor
  ·intro hz;have:=(h z).1 (z1a _ hz);rw[z05] at this;rcases this with e|e
   ·subst e;have:=ha.1 z hz;omega
   ·exact e
  ·intro hz;have:=(h z).2 (z1a _ hz);rw[z05] at this;rcases this with e|e
   ·subst e;have:=hb.1 z hz;omega
   ·exact e
theorem EL{d:Array Int}(hs:∀ i j,i<=j->j<d.size->d[i]! <=d[j]!):∀ m,m<=d.size->(compactUpTo d m).Pairwise (· < ·)/\∀ x,x∈compactUpTo d m↔∃ j,j<m/\d[j]! =x
 |0,_=>⟨by simp[compactUpTo],λx=>by simp[compactUpTo]⟩
 |m+1,h=>by
  obtain⟨h1,h2⟩:=EL hs m (by omega)
  rw[compactUpTo_succ];by_cases hk:keeps d m=true
  ·rw[if_pos hk];refine⟨z19.2 ⟨h1,by simp,λa ha b hb=> ?_⟩,λx=> ?_⟩
   ·have hb:=z0a.1 hb;obtain⟨j,hj,e⟩:=(h2 a).1 ha;have hne:d[m]! ≠d[m - 1]! :=by
     have:=of_decide_eq_true hk;rcases this with h0|h0
     ·omega
     ·exact h0
    have e1:=hs j (m - 1) (by omega) (by omega)
    have e2:=hs (m - 1) m (by omega) (by omega)
    subst hb;rw[<- e];omega
   ·rw[z03,h2,z0a];constructor
    ·rintro(⟨j,hj,e⟩|e)
     ·exact⟨j,by omega,e⟩
     ·exact⟨m,by omega,e.symm⟩
    ·rintro⟨j,hj,e⟩;by_cases e2:j=m
     ·subst e2;exact .inr e.symm
     ·exact .inl ⟨j,by omega,e⟩
  ·rw[if_neg hk,z0p];refine⟨h1,λx=> ?_⟩;have hk':¬ (m=0\/d[m]! ≠d[m - 1]!):=λh=>hk (decide_eq_true h);have hm:d[m]! =d[m - 1]! :=z0h λh=>hk' (.inr h);have h0:m≠0:=λh=>hk' (.inl h);rw[h2];constructor
   ·rintro⟨j,hj,e⟩;exact⟨j,by omega,e⟩
   ·rintro⟨j,hj,e⟩;by_cases e2:j=m
    ·subst e2;exact⟨j - 1,by omega,by rw[<- hm];exact e⟩
    ·exact⟨j,by omega,e⟩
def sorted(zs:List Int):List Int:=zs.mergeSort λx y=>decide (x<=y)
theorem XR(zs:List Int):(sorted zs).length=zs.length:=List.length_mergeSort zs
theorem EI(zs:List Int):(compact zs).length<=zs.length:=by unfold compact compactUpTo;rw[z0w];exact z16 (z18 _ _) (by simp)
theorem IQ{zs:List Int}{n:Nat}(h:∀ z∈zs,0<=z/\z<n):compact (sorted zs)=upTo zs n:=by
 have hp:=List.pairwise_mergeSort (le:=λx y:Int=>decide (x<=y)) (by intro a b c;simp;omega) (by intro a b;simp;omega) zs
 have hs:∀ i j,i<=j->j< (sorted zs).toArray.size->(sorted zs).toArray[i]! <=(sorted zs).toArray[j]! :=by
  intro i j hij hj;have hj':j< (sorted zs).length:=by simpa using hj
  rw[getElem!_pos (sorted zs).toArray i (by simp;omega),getElem!_pos (sorted zs).toArray j hj]
  by_cases e:i=j
  ·subst e;exact Int.le_refl _
  ·have:=List.pairwise_iff_getElem.1 hp i j (by simpa[sorted] using(show i< (sorted zs).length by omega)) (by simpa[sorted] using hj') (by omega)
   exact of_decide_eq_true this
 obtain⟨h1,h2⟩:=EL hs (sorted zs).length (by simp)
 refine ahs h1 (TV n) λx=> ?_;rw[Bl];show x∈compactUpTo _ _↔_;rw[h2];have hm:x∈sorted zs↔x∈zs:=List.mem_mergeSort;constructor
 ·rintro⟨j,hj,e⟩;have hx:x∈sorted zs:=by
   rw[<- e,getElem!_pos (sorted zs).toArray j (by simpa using hj)]
   simp
  have:=hm.1 hx;exact⟨this,h x this⟩
 ·rintro⟨hx,_⟩;obtain⟨j,hj,e⟩:=List.mem_iff_getElem.1 (hm.2 hx);exact⟨j,hj,by rw[getElem!_pos (sorted zs).toArray j (by simpa using hj)];simpa using e⟩
end Go.Proofs.Ytpajfggdnobheaa.SortP
end
