/- A part of TopPrecise's proof. -/
import Derived.Test.YtpajfggdnobheaaFa
import Derived.Sort.LotD3
import Derived.Test.YtpajfggdnobheaaDa
import Derived.Test.YtpajfggdnobheaaEa
import Derived.Test.YtpajfggdnobheaaRows
import Derived.WalkKit
set_option linter.unusedVariables false
set_option linter.unusedSimpArgs false
open Go.IntKind renaming i64->z00,u64->z0a,wrap_u64->z1c,u8->z1t
open Int renaming natCast_nonneg->z01,ofNat_lt->z02,reduceEq->z04,ofNat_le->z06,fdiv_eq_ediv_of_nonneg->z0z,le_refl->z1d,toNat_natCast->z1o
open Nat renaming le_refl->z03,lt_succ_self->z07,not_lt_zero->z0d,le_of_lt->z0g,zero_le->z0k,mod_eq_of_lt->z0q,xor_lt_two_pow->z0s,shiftLeft_eq->z0w,lt_irrefl->z14,one_mul->z18,and_le_right->z1p
open Bool renaming and_eq_true->z05,or_eq_true->z08,not_eq_true'->z0o,or_eq_false_iff->z16,false_eq_true->z1i,not_eq_false->z1l
open List renaming length_append->z09,mem_append->z0b,append_nil->z0c,mem_cons->z0e,not_mem_nil->z0i,filter_cons->z0j,filter_nil->z0l,pairwise_cons->z0n,cons_append->z0p,filter_append->z0r,flatMap_cons->z0t,length_take->z0u,length_map->z0x,mem_range->z0y,getD->z15,map_congr_left->z19,getElem_of_mem->z1a,flatMap_append->z1b,range->z1f,mem_singleton->z1g,mem_cons_self->z1h,getElem_take->z1j,append_assoc->z1k,nodup_cons->z1q,replicate->z1r,map_cons->z1s
open Go.IntWalk renaming u64_in->z0f,i64_in->z0h,u8_in->z1m
open Array renaming length_toList->z0m,extract_size->z1e
open Classical renaming byContradiction->z0v
set_option maxRecDepth 100000
open Go Go.Sx Go.Proofs
namespace Go.Proofs.Ytpajfggdnobheaa.rH
variable {main:Bool} {Fz:Nat->Prop}
open D
def agi:JC:=(.seq (.seq (.aZ<|o7 32 12<|o7 33 13<|qo 34 (.cmp .leq (.t 32) (.t 33))<|o7 35 34<|qL [35,4,0,12,1,13]<|.sc false 47 35 (o7 36 4<|o7 37 0<|o7 38 12<|oJ 39 3 37 38<|oC 40 3 39<|o7 41 0<|o7 42 1<|oJ 43 3 41 42<|oC 44 3 43<|eo 45 (.fO (.t 36) [(.t 40),(.t 44)])<|oZ 46 45 0<|.nil) (.t 46)<|.nil) (qO 47 .skip (.exit 0))) (qM [12,13,4,0,1] (.block 1 (.ops<|o7 48 12<|oI 49 48 1<|o7 12 49<|.nil))))
def agj:JC:=(.seq (.seq (.aZ<|o7 50 12<|o7 51 13<|qo 52 (.cmp .leq (.t 50) (.t 51))<|o7 53 52<|qL [53,4,0,13,1,12]<|.sc false 66 53 (o7 54 4<|o7 55 0<|o7 56 13<|oJ 57 3 55 56<|oC 58 3 57<|o7 59 0<|o7 60 1<|oJ 61 3 59 60<|oC 62 3 61<|eo 63 (.fO (.t 54) [(.t 58),(.t 62)])<|oZ 64 63 0<|qE 65 64<|.nil) (.t 65)<|.nil) (qO 66 .skip (.exit 2))) (qM [13,12,4,0,1] (.block 3 (.ops<|o7 67 13<|qo 68 (.ar .sub (.t 67) (I 1))<|o7 13 68<|.nil))))
def agk:JC:=(.seq (.seq (.aZ<|o7 105 12<|o7 106 13<|qo 107 (.cmp .leq (.t 105) (.t 106))<|o7 108 107<|qL [108,4,0,12,1,13]<|.sc false 120 108 (o7 109 4<|o7 110 0<|o7 111 12<|oJ 112 3 110 111<|oC 113 3 112<|o7 114 0<|o7 115 1<|oJ 116 3 114 115<|oC 117 3 116<|eo 118 (.fO (.t 109) [(.t 113),(.t 117)])<|oZ 119 118 0<|.nil) (.t 119)<|.nil) (qO 120 .skip (.exit 6))) (qM [12,13,4,0,1] (.block 7 (.ops<|o7 121 12<|oI 122 121 1<|o7 12 122<|.nil))))
def agl:JC:=(.seq (.seq (.aZ<|o7 123 12<|o7 124 13<|qo 125 (.cmp .leq (.t 123) (.t 124))<|o7 126 125<|qL [126,4,0,13,1,12]<|.sc false 139 126 (o7 127 4<|o7 128 0<|o7 129 13<|oJ 130 3 128 129<|oC 131 3 130<|o7 132 0<|o7 133 1<|oJ 134 3 132 133<|oC 135 3 134<|eo 136 (.fO (.t 127) [(.t 131),(.t 135)])<|oZ 137 136 0<|qE 138 137<|.nil) (.t 138)<|.nil) (qO 139 .skip (.exit 8))) (qM [13,12,4,0,1] (.block 9 (.ops<|o7 140 13<|qo 141 (.ar .sub (.t 140) (I 1))<|o7 13 141<|.nil))))
def Y8:JC:=(qM [12,13,0,1,4] (.seq (qN (o7 142 12<|o7 143 13<|qo 144 (.cmp .gtr (.t 142) (.t 143))<|.nil) (qO 144 (.exit 4) .skip)) (.seq (.aZ<|qL [0,12,13,4,1]<|o7 145 0<|o7 146 12<|o7 147 0<|o7 148 13<|o7 149 0<|o7 150 13<|oJ 151 3 149 150<|oC 152 3 151<|qL [0,12,145,146,152,147,148,13,4,1]<|o7 153 0<|o7 154 12<|oJ 155 3 153 154<|oC 156 3 155<|qL [145,146,152,147,148,156,12,13,4,0,1]<|oJ 157 3 145 146<|oG 3 157 152<|oJ 158 3 147 148<|oG 3 158 156<|.nil) (qM [12,13,4,0,1] (qN (o7 159 12<|oI 160 159 1<|o7 12 160<|.nil) (.ops<|qL [13,12,4,0,1]<|o7 161 13<|qo 162 (.ar .sub (.t 161) (I 1))<|o7 13 162<|.nil))))))
def agm:JC:=(qM [12,13,4,0,1] (.seq (.block 8 (.loop [12,4,0,1] [13] agl)) Y8))
def agn:JC:=(.block 5 (.seq (.block 6 (.loop [13,4,0,1] [12] agk)) agm))
def agp:JC:=(qM [0,13,1] (.seq (.aZ<|o7 163 0<|o7 164 13<|o7 165 0<|o7 166 1<|o7 167 0<|o7 168 1<|oJ 169 3 167 168<|qL [169,0,13,163,164,165,166]<|oC 170 3 169<|o7 171 0<|o7 172 13<|oJ 173 3 171 172<|qL [173,163,164,170,165,166,13]<|oC 174 3 173<|oJ 175 3 163 164<|qL [175,170,165,166,174,13]<|oG 3 175 170<|oJ 176 3 165 166<|oG 3 176 174<|.nil) (qM [13] (qN (o7 177 13<|o7 10 177<|qG 11 false<|.nil) .ret))))
def Y9:JC:=(qM [12,13,0,1,4] (.seq (qN (o7 69 12<|o7 70 13<|qo 71 (.cmp .gtr (.t 69) (.t 70))<|.nil) (qO 71 (.seq (.aZ<|qL [0,13,1]<|o7 72 0<|o7 73 13<|o7 74 0<|o7 75 1<|o7 76 0<|o7 77 1<|oJ 78 3 76 77<|qL [78,0,13,72,73,74,75]<|oC 79 3 78<|o7 80 0<|o7 81 13<|oJ 82 3 80 81<|qL [82,72,73,79,74,75,13]<|oC 83 3 82<|oJ 84 3 72 73<|qL [84,79,74,75,83,13]<|oG 3 84 79<|oJ 85 3 74 75<|oG 3 85 83<|.nil) (qM [13] (qN (o7 86 13<|o7 10 86<|qG 11 true<|.nil) .ret))) .skip)) (qM [0,12,13,4,1] (.seq (.aZ<|o7 87 0<|o7 88 12<|o7 89 0<|o7 90 13<|o7 91 0<|o7 92 13<|oJ 93 3 91 92<|oC 94 3 93<|qL [0,12,87,88,94,89,90,13,4,1]<|o7 95 0<|o7 96 12<|oJ 97 3 95 96<|oC 98 3 97<|qL [87,88,94,89,90,98,12,13,4,0,1]<|oJ 99 3 87 88<|oG 3 99 94<|oJ 100 3 89 90<|oG 3 100 98<|.nil) (qM [12,13,4,0,1] (qN (o7 101 12<|oI 102 101 1<|o7 12 102<|.nil) (qN (qL [13,12,4,0,1]<|o7 103 13<|qo 104 (.ar .sub (.t 103) (I 1))<|o7 13 104<|.nil) (qM [12,13,4,0,1] (.seq (.block 4 (.loop [4,0,1] [12,13] agn)) agp)))))))))
def XC:JC:=(qM [12,13,4,0,1] (.seq (.block 2 (.loop [12,4,0,1] [13] agj)) Y9))
def j86:JC:=(qN (o8 10 0<|qG 11 false<|.nil) (.seq (.aZ<|o7 14 0<|o7 15 1<|o7 16 0<|o7 17 3<|o7 18 0<|o7 19 3<|oJ 20 3 18 19<|oC 21 3 20<|o7 22 0<|o7 23 1<|oJ 24 3 22 23<|qL [24,14,15,21,16,17,1,2,4,0]<|oC 25 3 24<|oJ 26 3 14 15<|qL [26,21,16,17,25,1,2,4,0]<|oG 3 26 21<|oJ 27 3 16 17<|oG 3 27 25<|.nil) (qM [1,2,4,0] (qN (o7 28 1<|oI 29 28 1<|o7 30 2<|qo 31 (.ar .sub (.t 30) (I 1))<|o7 12 29<|o7 13 31<|.nil) (qM [12,13,4,0,1] (.seq (.block 0 (.loop [13,4,0,1] [12] agi)) XC))))))
def agq:JC:=(.seq (.seq (.aZ<|o7 31 11<|o7 32 12<|qo 33 (.cmp .leq (.t 31) (.t 32))<|o7 34 33<|qL [34,4,0,1,11,12]<|.sc false 47 34 (o7 35 4<|o7 36 0<|o7 37 1<|oJ 38 3 36 37<|oC 39 3 38<|o7 40 0<|o7 41 11<|oJ 42 3 40 41<|oC 43 3 42<|eo 44 (.fO (.t 35) [(.t 39),(.t 43)])<|oZ 45 44 0<|qE 46 45<|.nil) (.t 46)<|.nil) (qO 47 .skip (.exit 2))) (qM [11,12,4,0,1] (.block 3 (.ops<|o7 48 11<|oI 49 48 1<|o7 11 49<|.nil))))
def agr:JC:=(.seq (.seq (.aZ<|o7 50 11<|o7 51 12<|qo 52 (.cmp .leq (.t 50) (.t 51))<|o7 53 52<|qL [53,4,0,1,12,11]<|.sc false 65 53 (o7 54 4<|o7 55 0<|o7 56 1<|oJ 57 3 55 56<|oC 58 3 57<|o7 59 0<|o7 60 12<|oJ 61 3 59 60<|oC 62 3 61<|eo 63 (.fO (.t 54) [(.t 58),(.t 62)])<|oZ 64 63 0<|.nil) (.t 64)<|.nil) (qO 65 .skip (.exit 4))) (qM [12,11,4,0,1] (.block 5 (.ops<|o7 66 12<|qo 67 (.ar .sub (.t 66) (I 1))<|o7 12 67<|.nil))))
def Za:JC:=(qM [11,12,0,4,1] (.seq (qN (o7 68 11<|o7 69 12<|qo 70 (.cmp .gtr (.t 68) (.t 69))<|.nil) (qO 70 (.exit 0) .skip)) (.seq (.aZ<|qL [0,11,12,4,1]<|o7 71 0<|o7 72 11<|o7 73 0<|o7 74 12<|o7 75 0<|o7 76 12<|oJ 77 3 75 76<|oC 78 3 77<|qL [0,11,71,72,78,73,74,12,4,1]<|o7 79 0<|o7 80 11<|oJ 81 3 79 80<|oC 82 3 81<|qL [71,72,78,73,74,82,11,12,4,0,1]<|oJ 83 3 71 72<|oG 3 83 78<|oJ 84 3 73 74<|oG 3 84 82<|.nil) (qM [11,12,4,0,1] (qN (o7 85 11<|oI 86 85 1<|o7 11 86<|.nil) (.ops<|qL [12,11,4,0,1]<|o7 87 12<|qo 88 (.ar .sub (.t 87) (I 1))<|o7 12 88<|.nil))))))
def ags:JC:=(qM [11,12,4,0,1] (.seq (.block 4 (.loop [11,4,0,1] [12] agr)) Za))
def agt:JC:=(.block 1 (.seq (.block 2 (.loop [12,4,0,1] [11] agq)) ags))
def alM:JC:=(qM [11] (qN (o7 89 11<|o7 10 89<|.nil) .ret))
def j85:JC:=(qN (o8 10 0<|.nil) (.seq (.aZ<|o7 13 0<|o7 14 1<|o7 15 0<|o7 16 3<|o7 17 0<|o7 18 3<|oJ 19 3 17 18<|oC 20 3 19<|o7 21 0<|o7 22 1<|oJ 23 3 21 22<|oC 24 3 23<|qL [13,14,20,15,16,24,1,2,4,0]<|oJ 25 3 13 14<|oG 3 25 20<|oJ 26 3 15 16<|oG 3 26 24<|.nil) (qM [1,2,4,0] (qN (o7 27 1<|oI 28 27 1<|o7 29 2<|qo 30 (.ar .sub (.t 29) (I 1))<|o7 11 28<|o7 12 30<|.nil) (qM [11,12,4,0,1] (.seq (.block 0 (.loop [4,0,1] [11,12] agt)) alM))))))
abbrev pU(d:Array Fk)(a:Nat):Fk->Bool:=λx=>lt x d[a]!
abbrev pD(d:Array Fk)(a:Nat):Fk->Bool:=λx=> !lt x d[a]!
theorem GR(p:Fk->Bool)(d:Array Fk)(j i:Nat)(h1:i<=j)(h2:p d[i]! =true):Sort.scanUp p d j i=Sort.scanUp p d j (i+1):=by rw[Sort.scanUp.eq_def,if_pos (ab h1 h2)]
theorem lu(p:Fk->Bool)(d:Array Fk)(j i:Nat)(h:¬ (i<=j/\p d[i]! =true)):Sort.scanUp p d j i=i:=by rw[Sort.scanUp.eq_def,if_neg];simp only[z05,decide_eq_true_eq];exact h
theorem GU(p:Fk->Bool)(d:Array Fk)(i j:Nat)(h0:0<i)(h1:i<=j)(h2:p d[j]! =true):Sort.scanDown p d i j=Sort.scanDown p d i (j - 1):=by
 cases j with
 |zero=>omega
 |succ j=>rw[Sort.scanDown,if_pos (ab h1 h2)];rfl
theorem lC(p:Fk->Bool)(d:Array Fk)(i j:Nat)(h:¬ (i<=j/\p d[j]! =true)):Sort.scanDown p d i j=j:=by
 cases j with
 |zero=>rfl
 |succ j=>
  rw[Sort.scanDown,if_neg];simp only[z05,decide_eq_true_eq];exact h
theorem pk8(n0:Nat)(hn:n0=1)(Z:Array Fk)(a j n:Nat)(ha:a<Z.size)(hj:j<Z.size)(hn2:n=Z.size)(τ:Fr)(h0:Sx.look 0 τ= .vec 0 n)(h13:Sx.look 13 τ= .int .i64 j)(h1:Sx.look 1 τ= .int .i64 a):
  JC.wp Gc n0 agp (CO [ResultVar.tmp 10,ResultVar.tmp 11] Try.prog n0 (.cu [.int .i64 j, .bool false]) [mv (Sort.swp Z j a)]) τ [mv Z]:=by
 subst hn;have r1:a<n:=by omega
 have r2:j<n:=by omega
 unfold agp;simp only[go_sem,seval,h0,h13,h1,mv,rd,r1,r2,ha,hj,wr,bn,aU,bf,z02,z01]
def L5(τ:Fr)(i j a n:Nat):Prop:=Sx.look 12 τ= .int .i64 i/\Sx.look 13 τ= .int .i64 j/\Sx.look 4 τ=cF/\Sx.look 0 τ= .vec 0 n/\Sx.look 1 τ= .int .i64 a
theorem pk5(n0:Nat)(hn:n0=1)(Y:Array Fk)(a i j n:Nat)(hi:0<i)(hj:j<Y.size)(hn2:n=Y.size)(hX:n<1000000)(τ:Fr)(h:L5 τ i j a n){Q:Ex->Fr->List ay->Prop}
  (hx:j<i->∀ τ',L5 τ' i j a n->Q (.exit 4) τ' [mv Y]) (hq:i<=j->∀ τ',L5 τ' (i+1) (j - 1) a n->Q .norm τ' [mv (Sort.swp Y i j)]):
  JC.wp Gc n0 Y8 Q τ [mv Y]:=by
 subst hn;obtain⟨h12,h13,h4,h0,h1⟩:=h;by_cases hij:i<=j
 ·have w3:z00.wrap ((i:Int)+1)=((i+1:Nat):Int):=aJ;have w4:z00.wrap ((j:Int) - 1)=((j - 1:Nat):Int):=by rw[aJ];omega
  have r1:i<n:=by omega
  have r2:j<n:=by omega
  have r3:i<Y.size:=by omega
  have hij':¬ j<i:=by omega
  unfold Y8;simp only[go_sem,seval,h12,h13,h4,h0,h1,hij',w3,w4,mv,rd,r1,r2,r3,hj,wr,bn,aU,bf,z02,z01];refine hq hij _ ?_;simp only[go_sem,seval,L5]
 ·have hij':j<i:=by omega
  unfold Y8;simp only[go_sem,seval,h12,h13,h4,h0,h1,hij',mv,z02];refine hx hij' _ ?_;simp only[go_sem,seval,L5]
theorem pk6(n0:Nat)(hn:n0=1)(Y:Array Fk)(a i j n:Nat)(ha:a<i)(hi:i<=j+1)(hj:j<Y.size)(hn2:n=Y.size)(hX:n<1000000)(τ:Fr)(h:L5 τ i j a n){Q:Ex->Fr->List ay->Prop}(v:Nat)(hv:Sort.scanDown (pD Y a) Y i j=v)
  (hx:v<i->∀ τ',L5 τ' i v a n->Q (.exit 4) τ' [mv Y]) (hq:i<=v->∀ τ',L5 τ' (i+1) (v - 1) a n->Q .norm τ' [mv (Sort.swp Y i v)]):
  JC.wp Gc n0 agm Q τ [mv Y]:=by
 subst hn;obtain⟨h12,h13,h4,h0,h1⟩:=h;have r1:a<n:=by omega
 unfold agm;simp only[go_sem,seval,h12,h13,h4,h0,h1,mv];refine bU Nat (λj=>[.int .i64 j]) (λ_=>[mv Y]) (λj'=>j'<=j/\i<=j'+1/\Sort.scanDown (pD Y a) Y i j'=v) (λj=>j) j ⟨z03 _,hi,hv⟩ ?_ rfl ?_
 ·simp only[go_sem,seval]
 rintro k ⟨k0,k1,k2⟩;by_cases hik:i<=k
 ·have w3:z00.wrap ((k:Int) - 1)=((k - 1:Nat):Int):=by rw[aJ];omega
  have r3:k<n:=by omega
  unfold agl;simp only[go_sem,seval,hik,w3,cZ,mv,rd,r1,r3,bn,aU,gB,<- hn2,z02,z06,z01];refine⟨λhl=> ?_,λhl=> ?_⟩
  ·refine⟨k - 1,⟨by omega,by omega,?_⟩,by omega,rfl⟩
   rw[<- k2,GU _ _ _ _ (by omega) hik (Ns hl)]
  ·have hvk:v=k:=by rw[<- k2,lC];exact λx=>Nu hl x.2
   subst hvk;refine pk5 1 rfl Y a i v n (by omega) (by omega) hn2 hX _ ?_ (λc τ' hτ=> ?_) (λc τ' hτ=> ?_)
   ·simp only[go_sem,seval,L5]
   ·exact hx c τ' hτ
   ·exact hq c τ' hτ
 ·unfold agl;simp only[go_sem,seval,hik,cZ,mv,rd,r1,bn,aU,gB,<- hn2,z02,z06,z01];have hvk:v=k:=by rw[<- k2,lC];exact λx=>hik x.1
  subst hvk;refine pk5 1 rfl Y a i v n (by omega) (by omega) hn2 hX _ ?_ (λc τ' hτ=> ?_) (λc τ' hτ=> ?_)
  ·simp only[go_sem,seval,L5]
  ·exact hx c τ' hτ
  ·exact hq c τ' hτ
theorem pk7(n0:Nat)(hn:n0=1)(Y:Array Fk)(a i j n:Nat)(ha:a<i)(hi:i<=j+1)(hj:j<Y.size)(hn2:n=Y.size)(hX:n<1000000)(τ:Fr)(h:L5 τ i j a n){Q:Ex->Fr->List ay->Prop}(u v:Nat)(hu:Sort.scanUp (pU Y a) Y j i=u)(hv:Sort.scanDown (pD Y a) Y u j=v)
  (hx:v<u->∀ τ',L5 τ' u v a n->Q (.exit 4) τ' [mv Y]) (hq:u<=v->∀ τ',L5 τ' (u+1) (v - 1) a n->Q .norm τ' [mv (Sort.swp Y u v)]):
  JC.wp Gc n0 agn Q τ [mv Y]:=by
 subst hn;obtain⟨h12,h13,h4,h0,h1⟩:=h;have r1:a<n:=by omega
 unfold agn;simp only[go_sem,seval,mv];refine bU Nat (λj=>[.int .i64 j]) (λ_=>[mv Y]) (λi'=>a<i'/\i'<=j+1/\Sort.scanUp (pU Y a) Y j i'=u) (λi'=>j+1 - i') i ⟨ha,hi,hu⟩ ?_ rfl ?_
 ·simp only[go_sem,seval,h12]
 rintro k ⟨k0,k1,k2⟩;have w3:z00.wrap ((k:Int)+1)=((k+1:Nat):Int):=aJ;by_cases hik:k<=j
 ·have r3:k<n:=by omega
  unfold agk;simp only[go_sem,seval,h13,h4,h0,h1,hik,w3,cZ,mv,rd,r1,r3,bn,aU,gB,<- hn2,z02,z06,z01];refine⟨λhl=> ?_,λhl=> ?_⟩
  ·refine⟨k+1,⟨by omega,by omega,?_⟩,by omega,rfl⟩
   rw[<- k2,GR _ _ _ _ hik hl]
  ·have hvk:u=k:=by rw[<- k2,lu];exact λx=>hl x.2
   subst hvk;refine pk6 1 rfl Y a u j n k0 (by omega) (by omega) hn2 hX _ ?_ v hv (λc τ' hτ=> ?_) (λc τ' hτ=> ?_)
   ·simp only[go_sem,seval,L5]
   ·simp only[go_sem,seval];exact hx c τ' hτ
   ·exact hq c τ' hτ
 ·unfold agk;simp only[go_sem,seval,h13,h4,h0,h1,hik,cZ,mv,rd,r1,bn,aU,gB,<- hn2,z02,z06,z01];have hvk:u=k:=by rw[<- k2,lu];exact λx=>hik x.1
  subst hvk;refine pk6 1 rfl Y a u j n k0 (by omega) (by omega) hn2 hX _ ?_ v hv (λc τ' hτ=> ?_) (λc τ' hτ=> ?_)
  ·simp only[go_sem,seval,L5]
  ·exact hx c τ' hτ
  ·exact hq c τ' hτ
theorem scans(p q:Fk->Bool)(hq:∀ x,q x= !p x)(d:Array Fk){i j u v:Nat}(hi:0<i)(hij:i<=j+1)(hu:Sort.scanUp p d j i=u)(hv:Sort.scanDown q d u j=v):
  i<=u/\u<=j+1/\v<=j/\u<=v+1/\(u<=v->u<v):=by
 subst hu hv;obtain⟨h1,h2,h3,h4,_,_,h5⟩:=Sort.round_facts p q hq d (i - 1) (j+1) i j (by omega) hij (λt a b=>by omega) (λt a b=>by omega)
 exact⟨h1,h2,h3,h4,λh=>(h5 (by omega)).2.2⟩
theorem pk9(n0:Nat)(hn:n0=1)(Z:Array Fk)(a u v n:Nat)(hau:a<u)(huv:u<=v+1)(arp:u<=v->u<v)(hv:v<Z.size)(hn2:n=Z.size)(hX:n<1000000)(τ:Fr)(h:L5 τ u v a n)(r:Nat×Array Fk)(hr:Sort.partLoop lt a (u+1) (v - 1) (Sort.swp Z u v)=r)(P:Nat×Bool×Array Fk)
  (hP:P=if u>v then(v,true,Sort.swp Z v a) else(r.1,false,Sort.swp r.2 r.1 a)):
  JC.wp Gc n0 Y9 (CO [ResultVar.tmp 10,ResultVar.tmp 11] Try.prog n0 (.cu [.int .i64 P.1, .bool P.2.1]) [mv P.2.2]) τ [mv Z]:=by
 subst hn;obtain⟨h12,h13,h4,h0,h1⟩:=h;have r1:a<n:=by omega
 have r2:v<n:=by omega
 by_cases hgt:v<u
 ·rw[if_pos hgt] at hP;subst hP;unfold Y9;simp only[go_sem,seval,h12,h13,h4,h0,h1,hgt,mv,rd,r1,r2,wr,bn,aU,bf,<- hn2,z02,z01]
 ·rw[if_neg hgt] at hP;subst hP;have r3:u<n:=by omega
  have w3:z00.wrap ((u:Int)+1)=((u+1:Nat):Int):=aJ;have w4:z00.wrap ((v:Int) - 1)=((v - 1:Nat):Int):=by rw[aJ];omega
  unfold Y9;simp only[go_sem,seval,h12,h13,h4,h0,h1,hgt,w3,w4,mv,rd,r2,r3,wr,bn,aU,bf,<- hn2,z02,z01];refine bU (Nat×Nat×Array Fk) (λs=>[.int .i64 s.1, .int .i64 s.2.1]) (λs=>[mv s.2.2]) (λs=>(a<s.1/\s.1<=s.2.1+1)/\(s.2.1<n/\s.2.2.size=n)/\Sort.partLoop lt a s.1 s.2.1 s.2.2=r) (λs=>s.2.1+1 - s.1) (u+1,v - 1,Sort.swp Z u v) ⟨⟨by simp only;omega,by simp only;omega⟩,⟨by simp only;omega,by rw[swp_size];omega⟩,hr⟩ ?_ rfl ?_
  ·simp only[go_sem,seval]
  rintro⟨i,j,Y⟩ ⟨⟨k0,k1⟩,⟨k2,k3⟩,k4⟩;simp only at k0 k1 k2 k3 k4;obtain⟨u',hu'⟩:∃ u',Sort.scanUp (pU Y a) Y j i=u':=⟨_,rfl⟩;obtain⟨v',hv'⟩:∃ v',Sort.scanDown (pD Y a) Y u' j=v':=⟨_,rfl⟩;obtain⟨q1,q2,q3,q4,q5⟩:=scans (pU Y a) (pD Y a) (λ_=>rfl) Y (by omega) k1 hu' hv'
  have hpe:=Sort.partLoop_eq lt a i j Y;rw[show Sort.scanUp (λx=>lt x Y[a]!) Y j i=u' from hu',show Sort.scanDown (λx=> !lt x Y[a]!) Y u' j=v' from hv',k4] at hpe
  refine pk7 1 rfl Y a i j n k0 k1 (by omega) k3.symm hX _ ?_ u' v' hu' hv' (λc τ' hτ=> ?_) (λc τ' hτ=> ?_)
  ·simp only[go_sem,seval,L5]
  ·obtain⟨g12,g13,g4,g0,g1⟩:=hτ;simp only[go_sem,seval];rw[if_pos c] at hpe;subst hpe;exact pk8 1 rfl Y a v' n (by omega) (by omega) k3.symm τ' g0 g13 g1
  ·obtain⟨g12,g13,g4,g0,g1⟩:=hτ;rw[if_neg (by omega)] at hpe
   refine⟨(u'+1,v' - 1,Sort.swp Y u' v'),⟨⟨by simp only;omega,by have:=q5 c;simp only;omega⟩,⟨by simp only;omega,by simp only;rw[swp_size];exact k3⟩,hpe.symm⟩,by simp only;omega,z03 _,?_,?_,?_⟩
   ·simp only[go_sem,seval,g12,g13]
   ·simp only[go_sem,seval,g4,g0,g1]
   ·simp only[go_sem,seval,mv]
theorem ad3(n0:Nat)(hn:n0=1)(Z:Array Fk)(a i j u v n:Nat)(ha:a<i)(hi:i<=j+1)(hj:j<Z.size)(hn2:n=Z.size)(hX:n<1000000)(hU:Sort.scanUp (pU Z a) Z j i=u)(hv:Sort.scanDown (pD Z a) Z u j=v)(τ:Fr)(h:L5 τ u j a n)(r:Nat×Array Fk)(hr:Sort.partLoop lt a (u+1) (v - 1) (Sort.swp Z u v)=r)(P:Nat×Bool×Array Fk)
  (hP:P=if u>v then(v,true,Sort.swp Z v a) else(r.1,false,Sort.swp r.2 r.1 a)):
  JC.wp Gc n0 XC (CO [ResultVar.tmp 10,ResultVar.tmp 11] Try.prog n0 (.cu [.int .i64 P.1, .bool P.2.1]) [mv P.2.2]) τ [mv Z]:=by
 subst hn;obtain⟨h12,h13,h4,h0,h1⟩:=h;obtain⟨q1,q2,q3,q4,q5⟩:=scans (pU Z a) (pD Z a) (λ_=>rfl) Z (by omega) hi hU hv
 have r1:a<n:=by omega
 unfold XC;simp only[go_sem,seval,h12,h13,h4,h0,h1,mv];refine bU Nat (λj=>[.int .i64 j]) (λ_=>[mv Z]) (λj'=>j'<=j/\u<=j'+1/\Sort.scanDown (pD Z a) Z u j'=v) (λj=>j) j ⟨z03 _,q2,hv⟩ ?_ rfl ?_
 ·simp only[go_sem,seval]
 rintro k ⟨k0,k1,k2⟩;by_cases hik:u<=k
 ·have w3:z00.wrap ((k:Int) - 1)=((k - 1:Nat):Int):=by rw[aJ];omega
  have r3:k<n:=by omega
  unfold agj;simp only[go_sem,seval,hik,w3,cZ,mv,rd,r1,r3,bn,aU,gB,<- hn2,z02,z06,z01];refine⟨λhl=> ?_,λhl=> ?_⟩
  ·refine⟨k - 1,⟨by omega,by omega,?_⟩,by omega,rfl⟩
   rw[<- k2,GU _ _ _ _ (by omega) hik (Ns hl)]
  ·have hvk:v=k:=by rw[<- k2,lC];exact λx=>Nu hl x.2
   subst hvk;refine pk9 1 rfl Z a u v n (by omega) q4 q5 (by omega) hn2 hX _ ?_ r hr P hP
   simp only[go_sem,seval,L5]
 ·unfold agj;simp only[go_sem,seval,hik,cZ,mv,rd,r1,bn,aU,gB,<- hn2,z02,z06,z01];have hvk:v=k:=by rw[<- k2,lC];exact λx=>hik x.1
  subst hvk;refine pk9 1 rfl Z a u v n (by omega) q4 q5 (by omega) hn2 hX _ ?_ r hr P hP
  simp only[go_sem,seval,L5]
theorem VL(X:Array Fk)(a b pv:Nat)(hb:b<=X.size)(hX:X.size<1000000)(ha:a<=pv)(hp:pv<b):
  bC Try.prog main Fz 86 [.vec 0 X.size, .int .i64 a, .int .i64 b, .int .i64 pv,cF] [mv X]
   (.cu [.int .i64 (Sort.partition lt X a b pv).1, .bool (Sort.partition lt X a b pv).2.1]) [mv (Sort.partition lt X a b pv).2.2]:=by
 refine wkA j86 [.tmp 10, .tmp 11] 178 lZ rfl ?_;have w1:z00.wrap ((a:Int)+1)=((a+1:Nat):Int):=aJ;have w2:z00.wrap ((b:Int) - 1)=((b - 1:Nat):Int):=by rw[aJ];omega
 have r1:a<X.size:=by omega
 have r2:pv<X.size:=by omega
 unfold j86;simp only[go_sem,seval,mv,w1,w2,rd,r1,r2,wr,bn,aU,bf,z02,z01];obtain⟨Z,hZ⟩:∃ Z,Z=Sort.swp X a pv:=⟨_,rfl⟩;have hZs:Z.size=X.size:=by rw[hZ,swp_size]
 obtain⟨u,hU⟩:∃ u,Sort.scanUp (pU Z a) Z (b - 1) (a+1)=u:=⟨_,rfl⟩;obtain⟨v,hV⟩:∃ v,Sort.scanDown (pD Z a) Z u (b - 1)=v:=⟨_,rfl⟩;obtain⟨r,hR⟩:∃ r,Sort.partLoop lt a (u+1) (v - 1) (Sort.swp Z u v)=r:=⟨_,rfl⟩;have hP:Sort.partition lt X a b pv=if u>v then(v,true,Sort.swp Z v a) else(r.1,false,Sort.swp r.2 r.1 a):=by rw[<- hR,<- hV,<- hU,hZ];rfl
 rw[<- hZ];clear hZ;generalize Sort.partition lt X a b pv=P at hP;refine bU Nat (λi=>[.int .i64 i]) (λi=>[mv Z]) (λi=>a<i/\i<=b/\Sort.scanUp (pU Z a) Z (b - 1) i=u) (λi=>b - i) (a+1) ⟨by omega,by omega,hU⟩ ?_ rfl ?_
 ·simp only[go_sem,seval]
 rintro i ⟨h0,h1,h2⟩;have w3:z00.wrap ((i:Int)+1)=((i+1:Nat):Int):=aJ;by_cases hi:i<=b - 1
 ·have r3:i<X.size:=by omega
  unfold agi;simp only[go_sem,seval,hi,w3,cZ,mv,rd,r1,r3,bn,aU,gB,hZs,z02,z06,z01];refine⟨λhl=> ?_,λhl=> ?_⟩
  ·refine⟨i+1,⟨by omega,by omega,?_⟩,by omega,rfl⟩
   rw[<- h2,GR _ _ _ _ hi hl]
  ·have hvk:u=i:=by rw[<- h2,lu];exact λx=>hl x.2
   subst hvk;refine ad3 _ rfl Z a (a+1) (b - 1) u v X.size (by omega) (by omega) (by omega) hZs.symm hX hU hV _ ?_ r hR P hP
   simp only[go_sem,seval,L5]
 ·unfold agi;simp only[go_sem,seval,hi,cZ,mv,rd,r1,bn,aU,gB,hZs,z02,z06,z01];have hvk:u=i:=by rw[<- h2,lu];exact λx=>hi x.1
  subst hvk;refine ad3 _ rfl Z a (a+1) (b - 1) u v X.size (by omega) (by omega) (by omega) hZs.symm hX hU hV _ ?_ r hR P hP
  simp only[go_sem,seval,L5]
abbrev eU(d:Array Fk)(a:Nat):Fk->Bool:=λx=> !lt d[a]! x
abbrev eD(d:Array Fk)(a:Nat):Fk->Bool:=λx=>lt d[a]! x
theorem eq_neg(d:Array Fk)(a:Nat):∀ x,eD d a x= !eU d a x:=λx=>by simp
def L6(τ:Fr)(i j a n:Nat):Prop:=Sx.look 11 τ= .int .i64 i/\Sx.look 12 τ= .int .i64 j/\Sx.look 4 τ=cF/\Sx.look 0 τ= .vec 0 n/\Sx.look 1 τ= .int .i64 a
theorem qk3(n0:Nat)(hn:n0=1)(Y:Array Fk)(a i j n:Nat)(hi:0<i)(hj:j<Y.size)(hn2:n=Y.size)(hX:n<1000000)(τ:Fr)(h:L6 τ i j a n){Q:Ex->Fr->List ay->Prop}
  (hx:j<i->∀ τ',L6 τ' i j a n->Q (.exit 0) τ' [mv Y]) (hq:i<=j->∀ τ',L6 τ' (i+1) (j - 1) a n->Q .norm τ' [mv (Sort.swp Y i j)]):
  JC.wp Gc n0 Za Q τ [mv Y]:=by
 subst hn;obtain⟨h11,h12,h4,h0,h1⟩:=h;by_cases hij:i<=j
 ·have w3:z00.wrap ((i:Int)+1)=((i+1:Nat):Int):=aJ;have w4:z00.wrap ((j:Int) - 1)=((j - 1:Nat):Int):=by rw[aJ];omega
  have r1:i<n:=by omega
  have r2:j<n:=by omega
  have r3:i<Y.size:=by omega
  have hij':¬ j<i:=by omega
  unfold Za;simp only[go_sem,seval,h11,h12,h4,h0,h1,hij',w3,w4,mv,rd,r1,r2,r3,hj,wr,bn,aU,bf,z02,z01];refine hq hij _ ?_;simp only[go_sem,seval,L6]
 ·have hij':j<i:=by omega
  unfold Za;simp only[go_sem,seval,h11,h12,h4,h0,h1,hij',mv,z02];refine hx hij' _ ?_;simp only[go_sem,seval,L6]
theorem qk4(n0:Nat)(hn:n0=1)(Y:Array Fk)(a i j n:Nat)(ha:a<i)(hi:i<=j+1)(hj:j<Y.size)(hn2:n=Y.size)(hX:n<1000000)(τ:Fr)(h:L6 τ i j a n){Q:Ex->Fr->List ay->Prop}(v:Nat)(hv:Sort.scanDown (eD Y a) Y i j=v)
  (hx:v<i->∀ τ',L6 τ' i v a n->Q (.exit 0) τ' [mv Y]) (hq:i<=v->∀ τ',L6 τ' (i+1) (v - 1) a n->Q .norm τ' [mv (Sort.swp Y i v)]):
  JC.wp Gc n0 ags Q τ [mv Y]:=by
 subst hn;obtain⟨h11,h12,h4,h0,h1⟩:=h;have r1:a<n:=by omega
 unfold ags;simp only[go_sem,seval,h11,h12,h4,h0,h1,mv];refine bU Nat (λj=>[.int .i64 j]) (λ_=>[mv Y]) (λj'=>j'<=j/\i<=j'+1/\Sort.scanDown (eD Y a) Y i j'=v) (λj=>j) j ⟨z03 _,hi,hv⟩ ?_ rfl ?_
 ·simp only[go_sem,seval]
 rintro k ⟨k0,k1,k2⟩;by_cases hik:i<=k
 ·have w3:z00.wrap ((k:Int) - 1)=((k - 1:Nat):Int):=by rw[aJ];omega
  have r3:k<n:=by omega
  unfold agr;simp only[go_sem,seval,hik,w3,cZ,mv,rd,r1,r3,bn,aU,gB,<- hn2,z02,z06,z01];refine⟨λhl=> ?_,λhl=> ?_⟩
  ·refine⟨k - 1,⟨by omega,by omega,?_⟩,by omega,rfl⟩
   rw[<- k2,GU _ _ _ _ (by omega) hik hl]
  ·have hvk:v=k:=by rw[<- k2,lC];exact λx=>hl x.2
   subst hvk;refine qk3 1 rfl Y a i v n (by omega) (by omega) hn2 hX _ ?_ (λc τ' hτ=> ?_) (λc τ' hτ=> ?_)
   ·simp only[go_sem,seval,L6]
   ·exact hx c τ' hτ
   ·exact hq c τ' hτ
 ·unfold agr;simp only[go_sem,seval,hik,cZ,mv,rd,r1,bn,aU,gB,<- hn2,z02,z06,z01];have hvk:v=k:=by rw[<- k2,lC];exact λx=>hik x.1
  subst hvk;refine qk3 1 rfl Y a i v n (by omega) (by omega) hn2 hX _ ?_ (λc τ' hτ=> ?_) (λc τ' hτ=> ?_)
  ·simp only[go_sem,seval,L6]
  ·exact hx c τ' hτ
  ·exact hq c τ' hτ
theorem qk5(n0:Nat)(hn:n0=1)(Y:Array Fk)(a i j n:Nat)(ha:a<i)(hi:i<=j+1)(hj:j<Y.size)(hn2:n=Y.size)(hX:n<1000000)(τ:Fr)(h:L6 τ i j a n){Q:Ex->Fr->List ay->Prop}(u v:Nat)(hu:Sort.scanUp (eU Y a) Y j i=u)(hv:Sort.scanDown (eD Y a) Y u j=v)
  (hx:v<u->∀ τ',L6 τ' u v a n->Q (.exit 0) τ' [mv Y]) (hq:u<=v->∀ τ',L6 τ' (u+1) (v - 1) a n->Q .norm τ' [mv (Sort.swp Y u v)]):
  JC.wp Gc n0 agt Q τ [mv Y]:=by
 subst hn;obtain⟨h11,h12,h4,h0,h1⟩:=h;have r1:a<n:=by omega
 unfold agt;simp only[go_sem,seval,mv];refine bU Nat (λj=>[.int .i64 j]) (λ_=>[mv Y]) (λi'=>a<i'/\i'<=j+1/\Sort.scanUp (eU Y a) Y j i'=u) (λi'=>j+1 - i') i ⟨ha,hi,hu⟩ ?_ rfl ?_
 ·simp only[go_sem,seval,h11]
 rintro k ⟨k0,k1,k2⟩;have w3:z00.wrap ((k:Int)+1)=((k+1:Nat):Int):=aJ;by_cases hik:k<=j
 ·have r3:k<n:=by omega
  unfold agq;simp only[go_sem,seval,h12,h4,h0,h1,hik,w3,cZ,mv,rd,r1,r3,bn,aU,gB,<- hn2,z02,z06,z01];refine⟨λhl=> ?_,λhl=> ?_⟩
  ·refine⟨k+1,⟨by omega,by omega,?_⟩,by omega,rfl⟩
   rw[<- k2,GR _ _ _ _ hik (Ns hl)]
  ·have hvk:u=k:=by rw[<- k2,lu];exact λx=>Nu hl x.2
   subst hvk;refine qk4 1 rfl Y a u j n k0 (by omega) (by omega) hn2 hX _ ?_ v hv (λc τ' hτ=> ?_) (λc τ' hτ=> ?_)
   ·simp only[go_sem,seval,L6]
   ·exact hx c τ' hτ
   ·exact hq c τ' hτ
 ·unfold agq;simp only[go_sem,seval,h12,h4,h0,h1,hik,cZ,mv,rd,r1,bn,aU,gB,<- hn2,z02,z06,z01];have hvk:u=k:=by rw[<- k2,lu];exact λx=>hik x.1
  subst hvk;refine qk4 1 rfl Y a u j n k0 (by omega) (by omega) hn2 hX _ ?_ v hv (λc τ' hτ=> ?_) (λc τ' hτ=> ?_)
  ·simp only[go_sem,seval,L6]
  ·exact hx c τ' hτ
  ·exact hq c τ' hτ
theorem GV(X:Array Fk)(a b pv:Nat)(hb:b<=X.size)(hX:X.size<1000000)(ha:a<=pv)(hp:pv<b):
  bC Try.prog main Fz 85 [.vec 0 X.size, .int .i64 a, .int .i64 b, .int .i64 pv,cF] [mv X]
   (.int .i64 (Sort.partitionEqual lt X a b pv).1) [mv (Sort.partitionEqual lt X a b pv).2]:=by
 refine wkA j85 [.tmp 10] 90 lZ rfl ?_;have w1:z00.wrap ((a:Int)+1)=((a+1:Nat):Int):=aJ;have w2:z00.wrap ((b:Int) - 1)=((b - 1:Nat):Int):=by rw[aJ];omega
 have r1:a<X.size:=by omega
 have r2:pv<X.size:=by omega
 unfold j85;simp only[go_sem,seval,mv,w1,w2,rd,r1,r2,wr,bn,aU,bf,z02,z01];obtain⟨Z,hZ⟩:∃ Z,Z=Sort.swp X a pv:=⟨_,rfl⟩;have hZs:Z.size=X.size:=by rw[hZ,swp_size]
 obtain⟨r,hR⟩:∃ r,Sort.partEqLoop lt a (a+1) (b - 1) Z=r:=⟨_,rfl⟩;have hP:Sort.partitionEqual lt X a b pv=r:=by rw[<- hR,hZ];rfl
 rw[<- hZ,hP];clear hZ hP;refine bU (Nat×Nat×Array Fk) (λs=>[.int .i64 s.1, .int .i64 s.2.1]) (λs=>[mv s.2.2]) (λs=>(a<s.1/\s.1<=s.2.1+1)/\(s.2.1<X.size/\s.2.2.size=X.size)/\Sort.partEqLoop lt a s.1 s.2.1 s.2.2=r) (λs=>s.2.1+1 - s.1) (a+1,b - 1,Z) ⟨⟨by simp only;omega,by simp only;omega⟩,⟨by simp only;omega,hZs⟩,hR⟩ ?_ rfl ?_
 ·simp only[go_sem,seval]
 rintro⟨i,j,Y⟩ ⟨⟨k0,k1⟩,⟨k2,k3⟩,k4⟩;simp only at k0 k1 k2 k3 k4;obtain⟨u',hu'⟩:∃ u',Sort.scanUp (eU Y a) Y j i=u':=⟨_,rfl⟩;obtain⟨v',hv'⟩:∃ v',Sort.scanDown (eD Y a) Y u' j=v':=⟨_,rfl⟩;obtain⟨q1,q2,q3,q4,q5⟩:=scans (eU Y a) (eD Y a) (eq_neg Y a) Y (by omega) k1 hu' hv'
 have hpe:=Sort.partEqLoop_eq lt a i j Y;rw[show Sort.scanUp (λx=> !lt Y[a]! x) Y j i=u' from hu',show Sort.scanDown (λx=>lt Y[a]! x) Y u' j=v' from hv',k4] at hpe
 refine qk5 _ rfl Y a i j X.size k0 k1 (by omega) k3.symm hX _ ?_ u' v' hu' hv' (λc τ' hτ=> ?_) (λc τ' hτ=> ?_)
 ·simp only[go_sem,seval,L6]
 ·obtain⟨g11,g12,g4,g0,g1⟩:=hτ;rw[if_pos c] at hpe;subst hpe;unfold alM;simp only[go_sem,seval,g11,mv]
 ·obtain⟨g11,g12,g4,g0,g1⟩:=hτ;rw[if_neg (by omega)] at hpe
  refine⟨(u'+1,v' - 1,Sort.swp Y u' v'),⟨⟨by simp only;omega,by have:=q5 c;simp only;omega⟩,⟨by simp only;omega,by simp only;rw[swp_size];exact k3⟩,hpe.symm⟩,by simp only;omega,z03 _,?_,?_,?_⟩
  ·simp only[go_sem,seval,g11,g12]
  ·simp only[go_sem,seval,g4,g0,g1]
  ·simp only[go_sem,seval,mv]
end Go.Proofs.Ytpajfggdnobheaa.rH
namespace Go.Proofs.Ytpajfggdnobheaa.rH
variable {main:Bool} {Fz:Nat->Prop}
open D
def ahk:JC:=(.seq (.seq (.aZ<|o7 19 9<|o7 20 2<|oN 21 19 20<|o7 22 21<|qL [22,3,0,9,2,1,10]<|.sc false 36 22 (o7 23 3<|o7 24 0<|o7 25 9<|oJ 26 3 24 25<|oC 27 3 26<|o7 28 0<|o7 29 9<|qo 30 (.ar .sub (.t 29) (I 1))<|oJ 31 3 28 30<|oC 32 3 31<|eo 33 (.fO (.t 23) [(.t 27),(.t 32)])<|oZ 34 33 0<|qE 35 34<|.nil) (.t 35)<|.nil) (qO 36 .skip (.exit 2))) (qM [9,2,3,0,1,10] (.block 3 (.ops<|o7 37 9<|oI 38 37 1<|o7 9 38<|.nil))))
def ahl:JC:=(.seq (qN (o7 68 11<|qo 69 (.cmp .geq (.t 68) (I 1))<|.nil) (qO 69 .skip (.exit 4))) (.seq (.block 5 (.seq (.seq (.aZ<|o7 72 3<|o7 73 0<|o7 74 11<|oJ 75 3 73 74<|qL [75,0,11,72,2,9,3,10,1]<|oC 76 3 75<|o7 77 0<|o7 78 11<|qo 79 (.ar .sub (.t 78) (I 1))<|oJ 80 3 77 79<|qL [80,72,76,2,9,3,0,10,1,11]<|oC 81 3 80<|eo 82 (.fO (.t 72) [(.t 76),(.t 81)])<|oZ 83 82 0<|qE 84 83<|.nil) (qO 84 (.exit 4) .skip)) (qM [0,11,3,2,9,10,1] (.aZ<|o7 85 0<|o7 86 11<|o7 87 0<|o7 88 11<|qo 89 (.ar .sub (.t 88) (I 1))<|o7 90 0<|o7 91 11<|qo 92 (.ar .sub (.t 91) (I 1))<|oJ 93 3 90 92<|qL [93,0,11,85,86,87,89,3,2,9,10,1]<|oC 94 3 93<|o7 95 0<|o7 96 11<|oJ 97 3 95 96<|qL [97,85,86,94,87,89,11,3,0,2,9,10,1]<|oC 98 3 97<|oJ 99 3 85 86<|qL [99,94,87,89,98,11,3,0,2,9,10,1]<|oG 3 99 94<|oJ 100 3 87 89<|oG 3 100 98<|.nil)))) (qM [11,3,0,2,9,10,1] (.ops<|o7 70 11<|qo 71 (.ar .sub (.t 70) (I 1))<|o7 11 71<|.nil))))
def ahm:JC:=(.seq (qN (o7 107 12<|o7 108 2<|oN 109 107 108<|.nil) (qO 109 .skip (.exit 6))) (qM [3,0,12,10,9,2,1] (.seq (.block 7 (.seq (.seq (.aZ<|o7 112 3<|o7 113 0<|o7 114 12<|oJ 115 3 113 114<|oC 116 3 115<|qL [0,12,112,116,10,9,2,3,1]<|o7 117 0<|o7 118 12<|qo 119 (.ar .sub (.t 118) (I 1))<|oJ 120 3 117 119<|qL [120,112,116,10,9,2,3,0,1,12]<|oC 121 3 120<|eo 122 (.fO (.t 112) [(.t 116),(.t 121)])<|oZ 123 122 0<|qE 124 123<|.nil) (qO 124 (.exit 6) .skip)) (qM [0,12,2,3,10,9,1] (.aZ<|o7 125 0<|o7 126 12<|o7 127 0<|o7 128 12<|qo 129 (.ar .sub (.t 128) (I 1))<|o7 130 0<|o7 131 12<|qo 132 (.ar .sub (.t 131) (I 1))<|oJ 133 3 130 132<|qL [133,0,12,125,126,127,129,2,3,10,9,1]<|oC 134 3 133<|o7 135 0<|o7 136 12<|oJ 137 3 135 136<|qL [137,125,126,134,127,129,12,2,3,0,10,9,1]<|oC 138 3 137<|oJ 139 3 125 126<|qL [139,134,127,129,138,12,2,3,0,10,9,1]<|oG 3 139 134<|oJ 140 3 127 129<|oG 3 140 138<|.nil)))) (qM [12,2,3,0,10,9,1] (.ops<|o7 110 12<|oI 111 110 1<|o7 12 111<|.nil)))))
def Zm:JC:=(qM [2,9,3,0,10,1] (qN (o7 101 2<|o7 102 9<|qo 103 (.ar .sub (.t 101) (.t 102))<|qo 104 (.cmp .geq (.t 103) (I 2))<|.nil) (qM [104,9,2,3,0,10,1] (qO 104 (qN (o7 105 9<|oI 106 105 1<|o7 12 106<|.nil) (qM [12,2,3,0,10,9,1] (.block 6 (.loop [2,3,0,10,9,1] [12] ahm)))) .skip))))
def LY:JC:=(qM [9,2,1,0,3,10] (.seq (qN (o7 39 9<|o7 40 2<|oW 41 39 40<|.nil) (qO 41 (qN (qG 8 true<|.nil) .ret) .skip)) (qM [2,1,0,9,3,10] (.seq (qN (o7 42 2<|o7 43 1<|qo 44 (.ar .sub (.t 42) (.t 43))<|oZ 45 44 50<|.nil) (qM [45,0,9,1,3,2,10] (qO 45 (qN (qG 8 false<|.nil) .ret) .skip))) (qM [0,9,1,3,2,10] (.seq (.aZ<|o7 46 0<|o7 47 9<|o7 48 0<|o7 49 9<|qo 50 (.ar .sub (.t 49) (I 1))<|o7 51 0<|o7 52 9<|qo 53 (.ar .sub (.t 52) (I 1))<|oJ 54 3 51 53<|qL [54,0,9,46,47,48,50,1,3,2,10]<|oC 55 3 54<|o7 56 0<|o7 57 9<|oJ 58 3 56 57<|qL [58,46,47,55,48,50,9,1,3,0,2,10]<|oC 59 3 58<|oJ 60 3 46 47<|qL [60,55,48,50,59,9,1,3,0,2,10]<|oG 3 60 55<|oJ 61 3 48 50<|oG 3 61 59<|.nil) (qM [9,1,3,0,2,10] (.seq (qN (o7 62 9<|o7 63 1<|qo 64 (.ar .sub (.t 62) (.t 63))<|qo 65 (.cmp .geq (.t 64) (I 2))<|.nil) (qM [65,9,3,0,2,10,1] (qO 65 (qN (o7 66 9<|qo 67 (.ar .sub (.t 66) (I 1))<|o7 11 67<|.nil) (qM [11,3,0,2,9,10,1] (.block 4 (.loop [3,0,2,9,10,1] [11] ahl)))) .skip))) Zm))))))))
def ahn:JC:=(qM [10,9,2,3,0,1] (.ops<|o7 17 10<|oI 18 17 1<|o7 10 18<|.nil))
def aho:JC:=(.seq (qN (o7 15 10<|oZ 16 15 5<|.nil) (qO 16 .skip (.exit 0))) (.seq (.block 1 (.seq (.block 2 (.loop [2,3,0,1,10] [9] ahk)) LY)) ahn))
def alZ:JC:=(qM [] (qN (qG 8 false<|.nil) .ret))
def j84:JC:=(qN (qG 8 false<|.nil) (qN (o7 13 1<|oI 14 13 1<|o7 9 14<|.nil) (.seq (qN (o8 10 0<|.nil) (.block 0 (.loop [2,3,0,1] [10,9] aho))) alZ)))
def L7(τ:Fr)(st i a b n:Nat):Prop:=Sx.look 10 τ= .int .i64 st/\Sx.look 9 τ= .int .i64 i/\Sx.look 2 τ= .int .i64 b/\Sx.look 3 τ=cF/\Sx.look 0 τ= .vec 0 n/\Sx.look 1 τ= .int .i64 a
theorem uq(b:Nat):∀ (k j:Nat) (d:Array Fk),b - j=k->(Sort.shiftUp lt b j d).size=d.size
 |0,j,d,h=>by rw[Sort.shiftUp.eq_def,if_neg (by omega)]
 |k+1,j,d,h=>by
  rw[Sort.shiftUp.eq_def,if_pos (by omega)]
  split
  ·rfl
  ·rw[uq b k _ _ (by omega),swp_size]
theorem uw:∀ (j:Nat) (d:Array Fk),(Sort.shiftDown lt j d).size=d.size
 |0,d=>rfl
 |j+1,d=>by
  rw[Sort.shiftDown];split
  ·rfl
  ·rw[uw j,swp_size]
theorem rk4(n0:Nat)(hn:n0=1)(Y:Array Fk)(st i a b n:Nat)(hib:i<b)(hi:0<i)(hb:b<=n)(hn2:n=Y.size)(hX:n<1000000)(τ:Fr)(h:L7 τ st i a b n){Q:Ex->Fr->List ay->Prop}
  (hq:∀ τ',L7 τ' st i a b n->Q .norm τ' [mv (if b - i≥2 then Sort.shiftUp lt b (i+1) Y else Y)]):
  JC.wp Gc n0 Zm Q τ [mv Y]:=by
 subst hn;obtain⟨h10,h9,h2,h3,h0,h1⟩:=h;have w1:z00.wrap ((b:Int) - i)=((b - i:Nat):Int):=by rw[aJ];omega
 have w2:z00.wrap ((i:Int)+1)=((i+1:Nat):Int):=aJ;by_cases hge:b - i≥2
 ·have hge':(2:Int)<=((b - i:Nat):Int):=by omega
  rw[if_pos hge] at hq;unfold Zm;simp only[go_sem,seval,h10,h9,h2,h3,h0,h1,w1,w2,hge',mv];refine bU (Nat×Array Fk) (λs=>[.int .i64 s.1]) (λs=>[mv s.2]) (λs=>(i<s.1/\s.1<=b)/\s.2.size=n/\Sort.shiftUp lt b s.1 s.2=Sort.shiftUp lt b (i+1) Y) (λs=>b - s.1) (i+1,Y) ⟨⟨by simp only;omega,by simp only;omega⟩,hn2.symm,rfl⟩ ?_ rfl ?_
  ·simp only[go_sem,seval]
  rintro⟨j,Z⟩ ⟨⟨k0,k1⟩,k2,k3⟩;simp only at k0 k1 k2 k3;by_cases hjb:j<b
  ·have r1:j<n:=by omega
   have r2:j - 1<n:=by omega
   have w3:z00.wrap ((j:Int) - 1)=((j - 1:Nat):Int):=by rw[aJ];omega
   have w4:z00.wrap ((j:Int)+1)=((j+1:Nat):Int):=aJ;unfold ahm;simp only[go_sem,seval,hjb,w3,w4,cZ,mv,rd,r1,r2,k2,wr,bn,aU,bf,gB,z02,z01];refine⟨λhl=> ?_,λhl=> ?_⟩
   ·have e:Sort.shiftUp lt b (i+1) Y=Z:=by rw[<- k3,Sort.shiftUp.eq_def,if_pos hjb,if_pos (Ns hl)]
    rw[e] at hq;refine hq _ ?_;simp only[go_sem,seval,L7]
   ·refine⟨(j+1,Sort.swp Z j (j - 1)),⟨⟨by simp only;omega,by simp only;omega⟩,by rw[swp_size];exact k2,?_⟩,by simp only;omega,rfl,rfl⟩
    rw[<- k3,Sort.shiftUp.eq_def lt b j,if_pos hjb,if_neg (Nu hl)]
  ·unfold ahm;simp only[go_sem,seval,hjb,mv,z02];have e:Sort.shiftUp lt b (i+1) Y=Z:=by rw[<- k3,Sort.shiftUp.eq_def,if_neg hjb]
   rw[e] at hq;refine hq _ ?_;simp only[go_sem,seval,L7]
 ·have hge':¬ (2:Int)<=((b - i:Nat):Int):=by omega
  rw[if_neg hge] at hq;unfold Zm;simp only[go_sem,seval,h10,h9,h2,h3,h0,h1,w1,hge',mv];refine hq _ ?_;simp only[go_sem,seval,L7]
def qY(a b i:Nat)(Y:Array Fk):Array Fk:=
 let d:=Sort.swp Y i (i - 1)
 let d:=if i - a≥2 then Sort.shiftDown lt (i - 1) d else d
 if b - i≥2 then Sort.shiftUp lt b (i+1) d else d
theorem rk5(n0:Nat)(hn:n0=1)(Y:Array Fk)(st i a b n:Nat)(hib:i<=b)(hi:a<i)(hb:b<=n)(hn2:n=Y.size)(hX:n<1000000)(τ:Fr)(h:L7 τ st i a b n){Q:Ex->Fr->List ay->Prop}
  (hx1:i=b->∀ τ',Sx.look 8 τ'= .bool true->Q .ret τ' [mv Y]) (hx2:i≠b->b - a<50->∀ τ',Sx.look 8 τ'= .bool false->Q .ret τ' [mv Y])
  (hq:i≠b->¬ b - a<50->∀ τ',L7 τ' st i a b n->Q .norm τ' [mv (qY a b i Y)]):
  JC.wp Gc n0 LY Q τ [mv Y]:=by
 subst hn;obtain⟨h10,h9,h2,h3,h0,h1⟩:=h;have w1:z00.wrap ((b:Int) - a)=((b - a:Nat):Int):=by rw[aJ];omega
 have w2:z00.wrap ((i:Int) - 1)=((i - 1:Nat):Int):=by rw[aJ];omega
 have w3:z00.wrap ((i:Int) - a)=((i - a:Nat):Int):=by rw[aJ];omega
 by_cases e:i=b
 ·have e':((i:Int)=b)=True:=by simp;omega
  unfold LY;simp only[go_sem,seval,h10,h9,h2,h3,h0,h1,e',mv];refine hx1 e _ ?_;simp only[go_sem,seval]
 have e':((i:Int)=b)=False:=by simp;omega
 by_cases h50:b - a<50
 ·have xq:(((b - a:Nat):Int)<50)=True:=by simp;omega
  unfold LY;simp only[go_sem,seval,h10,h9,h2,h3,h0,h1,e',w1,xq,mv];refine hx2 e h50 _ ?_;simp only[go_sem,seval]
 have xq:(((b - a:Nat):Int)<50)=False:=by simp;omega
 have r1:i<n:=by omega
 have r2:i - 1<n:=by omega
 have hq:=hq e h50;simp only[qY] at hq;obtain⟨Z,hZ⟩:∃ Z,Z=Sort.swp Y i (i - 1):=⟨_,rfl⟩;have hZs:Z.size=n:=by rw[hZ,swp_size,hn2]
 by_cases hge:i - a≥2
 ·have hge':(2:Int)<=((i - a:Nat):Int):=by omega
  rw[if_pos hge] at hq;unfold LY;simp only[go_sem,seval,h10,h9,h2,h3,h0,h1,e',w1,w2,w3,xq,hge',mv,rd,r1,r2,<- hn2,wr,bn,aU,bf,z02,z01];rw[<- hZ] at hq ⊢;clear hZ;refine bU (Nat×Array Fk) (λs=>[.int .i64 s.1]) (λs=>[mv s.2]) (λs=>s.1<i/\s.2.size=n/\Sort.shiftDown lt s.1 s.2=Sort.shiftDown lt (i - 1) Z) (λs=>s.1) (i - 1,Z) ⟨by simp only;omega,hZs,rfl⟩ ?_ rfl ?_
  ·simp only[go_sem,seval]
  rintro⟨j,V⟩ ⟨k0,k2,k3⟩;simp only at k0 k2 k3;cases j with
  |zero=>
   unfold ahl;simp only[go_sem,seval,mv];have e2:Sort.shiftDown lt (i - 1) Z=V:=by rw[<- k3,Sort.shiftDown]
   rw[e2] at hq;refine rk4 1 rfl V st i a b n (by omega) (by omega) hb k2.symm hX _ ?_ λτ' hτ=>hq τ' hτ
   simp only[go_sem,seval,L7]
  |succ j=>
   have g1:(1:Int)<=((j+1:Nat):Int):=by omega
   have w4:z00.wrap (((j+1:Nat):Int) - 1)=(j:Int):=by rw[aJ];omega
   have r3:j+1<n:=by omega
   have r4:j<n:=by omega
   unfold ahl;simp only[go_sem,seval,g1,w4,cZ,mv,rd,r3,r4,k2,wr,bn,aU,bf,gB,z02,z01];refine⟨λhl=> ?_,λhl=> ?_⟩
   ·have e2:Sort.shiftDown lt (i - 1) Z=V:=by rw[<- k3,Sort.shiftDown,if_pos (Ns hl)]
    rw[e2] at hq;refine rk4 1 rfl V st i a b n (by omega) (by omega) hb k2.symm hX _ ?_ λτ' hτ=>hq τ' hτ
    simp only[go_sem,seval,L7]
   ·refine⟨(j,Sort.swp V (j+1) j),⟨by simp only;omega,by rw[swp_size];exact k2,?_⟩,by simp only;omega,rfl,rfl⟩
    rw[<- k3,Sort.shiftDown,if_neg (Nu hl)]
 ·have hge':¬ (2:Int)<=((i - a:Nat):Int):=by omega
  rw[if_neg hge] at hq;unfold LY;simp only[go_sem,seval,h10,h9,h2,h3,h0,h1,e',w1,w2,w3,xq,hge',mv,rd,r1,r2,<- hn2,wr,bn,aU,bf,z02,z01];rw[<- hZ] at hq ⊢;refine rk4 1 rfl Z st i a b n (by omega) (by omega) hb hZs.symm hX _ ?_ λτ' hτ=>hq τ' hτ
  simp only[go_sem,seval,L7]
theorem sorted_in(d:Array Fk)(b:Nat):∀ (k i:Nat),b - i=k->i<=b->i<=Sort.scanSorted lt d b i/\Sort.scanSorted lt d b i<=b
 |0,i,h,h2=>by
  rw[Sort.scanSorted.eq_def,if_neg (by simp only[z05,decide_eq_true_eq];omega)]
  exact⟨z03 _,h2⟩
 |k+1,i,h,h2=>by
  rw[Sort.scanSorted.eq_def];split
  ·have:=sorted_in d b k (i+1) (by omega) (by omega);omega
  ·exact⟨z03 _,h2⟩
theorem uy{a b i:Nat}{Y:Array Fk}:(qY a b i Y).size=Y.size:=by unfold qY;simp only;split<;>split<;>simp only[uq b _ _ _ rfl,uw,swp_size]
theorem Dz(a b s i c:Nat)(Y:Array Fk)(h:Sort.scanSorted lt Y b i=c):Sort.partialIns lt a b (s+1) i Y=if c=b then(Y,true) else if b - a<50 then(Y,false) else Sort.partialIns lt a b s c (qY a b c Y):=by rw[Sort.partialIns,h];rfl
theorem VW(X:Array Fk)(a b:Nat)(hb:b<=X.size)(hX:X.size<1000000)(ha:a<b):
  bC Try.prog main Fz 84 [.vec 0 X.size, .int .i64 a, .int .i64 b,cF] [mv X]
   (.bool (Sort.partialInsertionSort lt X a b).2) [mv (Sort.partialInsertionSort lt X a b).1]:=by
 refine wkA j84 [.tmp 8] 141 lZ rfl ?_;have w1:z00.wrap ((a:Int)+1)=((a+1:Nat):Int):=aJ;obtain⟨R,hR⟩:∃ R,R=Sort.partialInsertionSort lt X a b:=⟨_,rfl⟩;rw[<- hR];unfold j84;simp only[go_sem,seval,mv,w1];refine bU (Nat×Nat×Array Fk) (λs=>[.int .i64 s.1, .int .i64 s.2.1]) (λs=>[mv s.2.2]) (λs=>(a<s.2.1/\s.2.1<=b)/\(s.1<=5/\s.2.2.size=X.size)/\Sort.partialIns lt a b (5 - s.1) s.2.1 s.2.2=R) (λs=>5 - s.1) (0,a+1,X) ⟨⟨by simp only;omega,by simp only;omega⟩,⟨by simp only;omega,rfl⟩,hR.symm⟩ ?_ rfl ?_
 ·simp only[go_sem,seval]
 rintro⟨st,i,Y⟩ ⟨⟨k0,k1⟩,⟨k2,k3⟩,k4⟩;simp only at k0 k1 k2 k3 k4;by_cases h5:st<5
 ·have h5':((st:Int)<5)=True:=by simp;omega
  obtain⟨c,hc⟩:∃ c,Sort.scanSorted lt Y b i=c:=⟨_,rfl⟩;have hcb:=sorted_in Y b _ i rfl k1;rw[hc] at hcb;obtain⟨s,hs⟩:∃ s,5 - st=s+1:=⟨4 - st,by omega⟩
  rw[hs,Dz a b s i c Y hc] at k4;have w2:z00.wrap ((st:Int)+1)=((st+1:Nat):Int):=aJ;unfold aho;simp only[go_sem,seval,h5',mv];refine bU Nat (λi=>[.int .i64 i]) (λ_=>[mv Y]) (λi'=>(a<i'/\i'<=b)/\Sort.scanSorted lt Y b i'=c) (λi'=>b - i') i ⟨⟨k0,k1⟩,hc⟩ ?_ rfl ?_
  ·simp only[go_sem,seval]
  rintro k ⟨⟨q0,q1⟩,q2⟩;by_cases hkb:k<b
  ·have r1:k<X.size:=by omega
   have r2:k - 1<X.size:=by omega
   have w3:z00.wrap ((k:Int) - 1)=((k - 1:Nat):Int):=by rw[aJ];omega
   have w4:z00.wrap ((k:Int)+1)=((k+1:Nat):Int):=aJ;unfold ahk;simp only[go_sem,seval,hkb,w3,w4,cZ,mv,rd,r1,r2,k3,bn,aU,gB,z02,z01];refine⟨λhl=> ?_,λhl=> ?_⟩
   ·refine⟨k+1,⟨⟨by omega,by omega⟩,?_⟩,by omega,rfl⟩
    rw[<- q2,Sort.scanSorted.eq_def lt Y b k,if_pos (ab hkb (Ns hl))]
   ·have hck:c=k:=by rw[<- q2,Sort.scanSorted.eq_def,if_neg (WE (Nu hl))]
    subst hck;refine rk5 _ rfl Y st c a b X.size hcb.2 (by omega) hb k3.symm hX _ ?_ (λe τ' qZ=> ?_) (λe e2 τ' qZ=> ?_) (λe e2 τ' qZ=> ?_)
    ·simp only[go_sem,seval,L7]
    ·rw[if_pos e] at k4;subst k4;simp only[go_sem,seval,qZ,mv]
    ·rw[if_neg e,if_pos e2] at k4;subst k4;simp only[go_sem,seval,qZ,mv]
    ·rw[if_neg e,if_neg e2] at k4;obtain⟨g10,g9,g2,g3,g0,g1⟩:=qZ;unfold ahn;simp only[go_sem,seval,g10,g9,g2,g3,g0,g1,w2,mv];refine⟨(st+1,c,qY a b c Y),⟨⟨by simp only;omega,by simp only;omega⟩,⟨by simp only;omega,by simp only;rw[uy];exact k3⟩,by rw[<- k4,show 5 - (st+1)=s by omega]⟩,by simp only;omega,⟨rfl,rfl⟩,rfl⟩
  ·unfold ahk;simp only[go_sem,seval,hkb,cZ,mv,z02,z01];have hck:c=k:=by rw[<- q2,Sort.scanSorted.eq_def,if_neg (WC hkb)]
   subst hck;refine rk5 _ rfl Y st c a b X.size hcb.2 (by omega) hb k3.symm hX _ ?_ (λe τ' qZ=> ?_) (λe e2 τ' qZ=> ?_) (λe e2 τ' qZ=> ?_)
   ·simp only[go_sem,seval,L7]
   ·rw[if_pos e] at k4;subst k4;simp only[go_sem,seval,qZ,mv]
   ·rw[if_neg e,if_pos e2] at k4;subst k4;simp only[go_sem,seval,qZ,mv]
   ·rw[if_neg e,if_neg e2] at k4;obtain⟨g10,g9,g2,g3,g0,g1⟩:=qZ;unfold ahn;simp only[go_sem,seval,g10,g9,g2,g3,g0,g1,w2,mv];refine⟨(st+1,c,qY a b c Y),⟨⟨by simp only;omega,by simp only;omega⟩,⟨by simp only;omega,by simp only;rw[uy];exact k3⟩,by rw[<- k4,show 5 - (st+1)=s by omega]⟩,by simp only;omega,⟨rfl,rfl⟩,rfl⟩
 ·have h5':((st:Int)<5)=False:=by simp;omega
  have e5:5 - st=0:=by omega
  rw[e5] at k4;unfold aho;simp only[go_sem,seval,h5',mv];unfold alZ;simp only[go_sem,seval];rw[Sort.partialIns] at k4;subst k4;exact⟨rfl,rfl⟩
end Go.Proofs.Ytpajfggdnobheaa.rH
namespace Go.Proofs.Ytpajfggdnobheaa.rH
variable {main:Bool} {Fz:Nat->Prop}
open D
def j88:JC:=(qN (o8 2 0<|.nil) (.seq (qN (o7 3 0<|qo 4 (.cmp .geq (.t 3) (.c (.int .u64 4294967296)))<|.nil) (qO 4 (qN (o7 5 0<|qo 6 (.ar .shr (.t 5) (.c (.int .u64 32)))<|o7 0 6<|.nil) (.ops<|o8 2 32<|.nil)) .skip)) (.seq (qN (o7 7 0<|qo 8 (.cmp .geq (.t 7) (.c (.int .u64 65536)))<|.nil) (qO 8 (qN (qL [0,2]<|o7 9 0<|qo 10 (.ar .shr (.t 9) (.c (.int .u64 16)))<|o7 0 10<|.nil) (qM [2,0] (.ops<|o7 11 2<|oI 12 11 16<|o7 2 12<|.nil))) .skip)) (qM [0,2] (.seq (qN (o7 13 0<|qo 14 (.cmp .geq (.t 13) (.c (.int .u64 256)))<|.nil) (qO 14 (qN (o7 15 0<|qo 16 (.ar .shr (.t 15) (.c (.int .u64 8)))<|o7 0 16<|.nil) (.ops<|qL [2,0]<|o7 17 2<|oI 18 17 8<|o7 2 18<|.nil)) .skip)) (qM [2,0] (qN (o7 19 2<|o7 20 0<|qo 21 (.conv .u8 (.t 20))<|qo 22 (.sx (.c (.str [0,1,2,2,3,3,3,3,4,4,4,4,4,4,4,4,5,5,5,5,5,5,5,5,5,5,5,5,5,5,5,5,6,6,6,6,6,6,6,6,6,6,6,6,6,6,6,6,6,6,6,6,6,6,6,6,6,6,6,6,6,6,6,6,7,7,7,7,7,7,7,7,7,7,7,7,7,7,7,7,7,7,7,7,7,7,7,7,7,7,7,7,7,7,7,7,7,7,7,7,7,7,7,7,7,7,7,7,7,7,7,7,7,7,7,7,7,7,7,7,7,7,7,7,7,7,7,7,8,8,8,8,8,8,8,8,8,8,8,8,8,8,8,8,8,8,8,8,8,8,8,8,8,8,8,8,8,8,8,8,8,8,8,8,8,8,8,8,8,8,8,8,8,8,8,8,8,8,8,8,8,8,8,8,8,8,8,8,8,8,8,8,8,8,8,8,8,8,8,8,8,8,8,8,8,8,8,8,8,8,8,8,8,8,8,8,8,8,8,8,8,8,8,8,8,8,8,8,8,8,8,8,8,8,8,8,8,8,8,8,8,8,8,8,8,8,8,8,8,8,8,8,8,8,8,8])) (.t 21))<|qo 23 (.conv .i64 (.t 22))<|qo 24 (.ar .add (.t 19) (.t 23))<|o7 2 24<|.nil) .ret)))))))
theorem c88:bW Try.prog bG 88=some (j88.flat,[.tmp 2],25):=by kernel_rfl
theorem w88:j88.wf 25=true:=by kernel_rfl
def j47:JC:=(qN (o8 2 0<|.nil) (.seq (.cond (B false) (qN (o7 3 0<|qo 4 (.conv .u32 (.t 3))<|oL 5 87 4<|o7 2 5<|.nil) .ret) .skip) (qN (o7 6 0<|oL 7 88 6<|o7 2 7<|.nil) .ret)))
theorem c47:bW Try.prog bG 47=some (j47.flat,[.tmp 2],8):=by kernel_rfl
theorem w47:j47.wf 8=true:=by kernel_rfl
def j111:JC:=(qN (qo 2 (.mv (.c (.int .u64 0)))<|.nil) (qN (o7 3 0<|qo 4 (.conv .u64 (.t 3))<|oL 5 47 4<|qo 6 (.ar .shl (.c (.int .u64 1)) (.t 5))<|o7 2 6<|.nil) .ret))
theorem anX:bW Try.prog bG 111=some (j111.flat,[.tmp 2],7):=by kernel_rfl
theorem anY:j111.wf 7=true:=by kernel_rfl
def j112:JC:=(qN (qo 2 (.mv (.c (.int .u64 0)))<|.nil) (.seq (.aZ<|o7 3 0<|oP 4 3<|o9 5 1 4<|o7 6 0<|oP 7 6<|o9 8 1 7<|qL [8,5,3,0]<|qo 9 (.ar .shl (.t 8) (.c (.int .u64 13)))<|qo 10 (.ar .xor (.t 5) (.t 9))<|oP 11 3<|oG 1 11 10<|.nil) (qM [0] (.seq (.aZ<|o7 12 0<|oP 13 12<|o9 14 1 13<|o7 15 0<|oP 16 15<|o9 17 1 16<|qL [17,14,12,0]<|qo 18 (.ar .shr (.t 17) (.c (.int .u64 7)))<|qo 19 (.ar .xor (.t 14) (.t 18))<|oP 20 12<|oG 1 20 19<|.nil) (qM [0] (.seq (.aZ<|o7 21 0<|oP 22 21<|o9 23 1 22<|o7 24 0<|oP 25 24<|o9 26 1 25<|qL [26,23,21,0]<|qo 27 (.ar .shl (.t 26) (.c (.int .u64 17)))<|qo 28 (.ar .xor (.t 23) (.t 27))<|oP 29 21<|oG 1 29 28<|.nil) (qM [0] (qN (o7 30 0<|oP 31 30<|o9 32 1 31<|o7 2 32<|.nil) .ret))))))))
theorem anZ:bW Try.prog bG 112=some (j112.flat,[.tmp 2],33):=by kernel_rfl
theorem an0:j112.wf 33=true:=by kernel_rfl
def YL:JC:=(.seq (qN (o7 28 11<|o7 29 1<|o7 30 8<|qo 31 (.ar .quo (.t 30) (I 4))<|qo 32 (.ar .mul (.t 31) (I 2))<|qo 33 (.ar .add (.t 29) (.t 32))<|oI 34 33 1<|qo 35 (.cmp .leq (.t 28) (.t 34))<|.nil) (qO 35 .skip (.exit 0))) (qM [9,10,8,0,11,1] (.seq (.block 1 (qN (oL 38 112 9<|o7 39 10<|qo 40 (.ar .sub (.t 39) (.c (.int .u64 1)))<|qo 41 (.ar .and (.t 38) (.t 40))<|qo 42 (.conv .i64 (.t 41))<|o7 12 42<|.nil) (qM [12,8,0,11,1,9,10] (.seq (qN (o7 43 12<|o7 44 8<|qo 45 (.cmp .geq (.t 43) (.t 44))<|.nil) (qM [45,12,8,0,11,1,9,10] (qO 45 (.ops<|o7 46 12<|o7 47 8<|qo 48 (.ar .sub (.t 46) (.t 47))<|o7 12 48<|.nil) .skip))) (qM [0,11,1,12,8,9,10] (.aZ<|o7 49 0<|o7 50 11<|o7 51 0<|o7 52 1<|o7 53 12<|qo 54 (.ar .add (.t 52) (.t 53))<|o7 55 0<|o7 56 1<|o7 57 12<|qL [56,57,55,0,11,49,50,51,54,1,8,9,10]<|qo 58 (.ar .add (.t 56) (.t 57))<|oJ 59 3 55 58<|qL [59,0,11,49,50,51,54,1,8,9,10]<|oC 60 3 59<|o7 61 0<|o7 62 11<|oJ 63 3 61 62<|qL [63,49,50,60,51,54,11,1,8,9,10,0]<|oC 64 3 63<|oJ 65 3 49 50<|qL [65,60,51,54,64,11,1,8,9,10,0]<|oG 3 65 60<|oJ 66 3 51 54<|oG 3 66 64<|.nil)))))) (qM [11,1,8,9,10,0] (.ops<|o7 36 11<|oI 37 36 1<|o7 11 37<|.nil)))))
def j81:JC:=(qN (o7 13 2<|o7 14 1<|qo 15 (.ar .sub (.t 13) (.t 14))<|o7 8 15<|.nil) (qN (o7 16 8<|qo 17 (.cmp .geq (.t 16) (I 8))<|.nil) (qO 17 (qN (o7 18 8<|qL [18,8,1,0]<|qo 19 (.conv .u64 (.t 18))<|eo 9 (.alloc 199 (.int .u64 0))<|oG 1 9 19<|.nil) (qM [8,1,9,0] (qN (o7 20 8<|oL 21 111 20<|o7 10 21<|.nil) (qN (o7 22 1<|o7 23 8<|qo 24 (.ar .quo (.t 23) (I 4))<|qL [24,22,1,8,9,10,0]<|qo 25 (.ar .mul (.t 24) (I 2))<|qo 26 (.ar .add (.t 22) (.t 25))<|qo 27 (.ar .sub (.t 26) (I 1))<|o7 11 27<|.nil) (qM [11,1,8,9,10,0] (.block 0 (.loop [1,8,9,10,0] [11] YL))))))) .skip)))
theorem Sj{n m:Nat}(h1:n<2^m)(h2:m=0\/2^(m - 1)<=n):Sort.bitsLen n=m:=by
 have e1:=(Sort.bitsLen_le_iff n m).2 h1;rcases h2 with h2|h2
 ·omega
 ·rcases Nat.lt_or_ge (Sort.bitsLen n) m with h|h
  ·have:=(Sort.bitsLen_le_iff n (m - 1)).1 (by omega)
   omega
  ·omega
def ni:List UInt8:=[0,1,2,2,3,3,3,3,4,4,4,4,4,4,4,4,5,5,5,5,5,5,5,5,5,5,5,5,5,5,5,5,6,6,6,6,6,6,6,6,6,6,6,6,6,6,6,6,6,6,6,6,6,6,6,6,6,6,6,6,6,6,6,6,7,7,7,7,7,7,7,7,7,7,7,7,7,7,7,7,7,7,7,7,7,7,7,7,7,7,7,7,7,7,7,7,7,7,7,7,7,7,7,7,7,7,7,7,7,7,7,7,7,7,7,7,7,7,7,7,7,7,7,7,7,7,7,7,8,8,8,8,8,8,8,8,8,8,8,8,8,8,8,8,8,8,8,8,8,8,8,8,8,8,8,8,8,8,8,8,8,8,8,8,8,8,8,8,8,8,8,8,8,8,8,8,8,8,8,8,8,8,8,8,8,8,8,8,8,8,8,8,8,8,8,8,8,8,8,8,8,8,8,8,8,8,8,8,8,8,8,8,8,8,8,8,8,8,8,8,8,8,8,8,8,8,8,8,8,8,8,8,8,8,8,8,8,8,8,8,8,8,8,8,8,8,8,8,8,8,8,8,8,8,8,8]
theorem nT:∀ k:Fin 256,k.val<2^(ni.getD k.val 0).toNat/\((ni.getD k.val 0).toNat=0\/2^((ni.getD k.val 0).toNat - 1)<=k.val)/\(ni.getD k.val 0).toNat<=8:=of_decide_eq_true (by kernel_rfl)
theorem I5{k:Nat}(h:k<256):(ni.getD k 0).toNat=Sort.bitsLen k:=(Sj (nT ⟨k,h⟩).1 (nT ⟨k,h⟩).2.1).symm
theorem nU{k:Nat}(h:k<256):(ni.getD k 0).toNat<=8:=(nT ⟨k,h⟩).2.2
def dU:DT Int:=DT.nO (.int .u64)
theorem afo(n:Int):dU.aA n= .int .u64 n:=nr rfl
theorem I7(m:List ay)(n:Int):dU.aI m (.int .u64 n)=n:=nr rfl
theorem I8(m:List ay)(n:Int):dU.decP m (.int .u64 n)=True:=eq_true rfl
instance:Flat dU:=⟨λy=>iZ _ y⟩
attribute [go_sem] afo I7 I8
theorem Om(n:Nat)(hn:n<65536):bC Try.prog main Fz 88 [.int .u64 n] [] (.int .i64 (Sort.bitsLen n)) []:=by
 refine aG c88 w88 FH.au rfl ?_;by_cases h:256<=n
 ·have c1:¬ (4294967296:Int)<=n:=by omega
  have c2:¬ (65536:Int)<=n:=by omega
  have c3:(256:Int)<=n:=by omega
  have f1:(n:Int).fdiv (2^min 8 64)=((n/256:Nat):Int):=by rw[show min 8 64=8 from rfl,z0z _ (by decide)];omega
  have f2:z1t.wrap (((n/256:Nat):Int))=((n/256:Nat):Int):=z1m _ (by omega)
  unfold j88;simp only[go_sem,seval,c1,c2,c3];have hx:n/256<256:=by omega
  refine⟨by rw[f1,f2];omega,?_⟩
  rw[f1,f2];show z00.wrap (z00.wrap 8+z00.wrap ((ni.getD (((n/256:Nat):Int)).toNat 0).toNat))=_;rw[z1o,z0h 8 (by omega),z0h (((ni.getD (n/256) 0).toNat:Nat):Int) (by have:=nU hx;omega),z0h _ (by have:=nU hx;omega)]
  have k1:=nT ⟨n/256,hx⟩;simp only at k1;have:Sort.bitsLen n=8+(ni.getD (n/256) 0).toNat:=by
   generalize (ni.getD (n/256) 0).toNat=m at k1;refine Sj ?_ (.inr ?_)
   ·rw[Nat.pow_add];omega
   ·obtain⟨_,h2,_⟩:=k1;rcases h2 with h2|h2
    ·subst h2;omega
    ·rcases Nat.eq_zero_or_pos m with h0|h0
     ·subst h0;omega
     ·rw[show 8+m - 1=8+(m - 1) by omega,Nat.pow_add];omega
  omega
 ·have c1:¬ (4294967296:Int)<=n:=by omega
  have c2:¬ (65536:Int)<=n:=by omega
  have c3:¬ (256:Int)<=n:=by omega
  have f3:z1t.wrap (n:Int)=n:=z1m _ (by omega)
  unfold j88;simp only[go_sem,seval,c1,c2,c3];have hx:n<256:=by omega
  refine⟨by rw[f3];omega,?_⟩
  rw[f3];show z00.wrap (0+z00.wrap ((ni.getD ((n:Int)).toNat 0).toNat))=_;rw[z1o,z0h (((ni.getD n 0).toNat:Nat):Int) (by have:=nU hx;omega),z0h _ (by have:=nU hx;omega),I5 hx]
  omega
def G64(f:FuncId)(a:List SV)(m:List ay):Sx.Call:=(FH.rd 88 (.one dU) (.one .int) (λy=>0<=y.1/\y.1<65536) (λy=>(Sort.bitsLen y.1.toNat:Int)) FH.none) f a m
theorem WX:type_of% (nq G64.eq_1):=nq G64.eq_1
theorem WY:bQ Try.prog main Fz G64:=FH.dM (λy h=>by obtain⟨y,⟨⟩⟩:=y;simp only at h;obtain⟨n,rfl⟩:=aY h.1;exact Om n (by omega)) FH.au
theorem afp(n:Nat)(hn:n<65536):bC Try.prog main Fz 47 [.int .u64 n] [] (.int .i64 (Sort.bitsLen n)) []:=by refine aG c47 w47 WY rfl ?_;unfold j47;simp only[go_sem,seval,WX,I7,I8];omega
def Gln(f:FuncId)(a:List SV)(m:List ay):Sx.Call:=(FH.rd 47 (.one dU) (.one .int) (λy=>0<=y.1/\y.1<65536) (λy=>(Sort.bitsLen y.1.toNat:Int)) FH.none) f a m
theorem HY:type_of% (nq Gln.eq_1):=nq Gln.eq_1
theorem Hz:bQ Try.prog main Fz Gln:=FH.dM (λy h=>by obtain⟨y,⟨⟩⟩:=y;simp only at h;obtain⟨n,rfl⟩:=aY h.1;exact afp n (by omega)) FH.au
theorem QU{n:Nat}(hn:n<65536):Sort.bitsLen n<=16:=(Sort.bitsLen_le_iff n 16).2 (by omega)
theorem afq(n:Nat)(hn:n<65536):bC Try.prog main Fz 111 [.int .i64 n] [] (.int .u64 ((1<<<Sort.bitsLen n:Nat):Int)) []:=by
 refine aG anX anY Hz rfl ?_;have w1:z0a.wrap (n:Int)=n:=z0f _ (by omega)
 have hb:=QU hn;unfold j111;simp only[go_sem,seval,HY,w1];refine⟨⟨by omega,by omega⟩,z01 _,?_⟩
 rw[Nat.min_eq_left (by omega),z0w]
 generalize Sort.bitsLen n=k at hb;have h2:2^k<=2^16:=Nat.pow_le_pow_right (by decide) hb
 have h3:((2:Int)^k)=((2^k:Nat):Int):=by rw[Int.natCast_pow];rfl
 rw[Int.one_mul,h3,z0f ((2^k:Nat):Int) ⟨z01 _,by generalize 2^k=z at h2;omega⟩,z18]
theorem bx{a b:Nat}(ha:a<18446744073709551616)(hb:b<18446744073709551616):zK .u64 (a:Int) (b:Int)=((a^^^b:Nat):Int):=by
 have hx:a^^^b<2^64:=z0s (by omega) (by omega)
 unfold zK;have e:(BitVec.ofInt z0a.bits (a:Int)^^^BitVec.ofInt z0a.bits (b:Int)).toNat=a^^^b:=by show(BitVec.ofInt 64 (a:Int)^^^BitVec.ofInt 64 (b:Int)).toNat=a^^^b;rw[BitVec.toNat_xor,BitVec.ofInt_natCast,BitVec.ofInt_natCast,BitVec.toNat_ofNat,BitVec.toNat_ofNat,z0q (by omega),z0q (by omega)]
 rw[e,z0f _ (by omega)]
theorem ba{a b:Nat}(ha:a<18446744073709551616)(hb:b<18446744073709551616):uU .u64 (a:Int) (b:Int)=((a&&&b:Nat):Int):=by
 have hx:a&&&b<=b:=z1p;unfold uU;have e:(BitVec.ofInt z0a.bits (a:Int)&&&BitVec.ofInt z0a.bits (b:Int)).toNat=a&&&b:=by show(BitVec.ofInt 64 (a:Int)&&&BitVec.ofInt 64 (b:Int)).toNat=a&&&b;rw[BitVec.toNat_and,BitVec.ofInt_natCast,BitVec.ofInt_natCast,BitVec.toNat_ofNat,BitVec.toNat_ofNat,z0q (by omega),z0q (by omega)]
 rw[e,z0f _ (by omega)]
theorem WZ(x:Nat)(hx:x<18446744073709551616):bC Try.prog main Fz 112 [.ptr 0 [] 0] [.blk 199 (dU.aA x)] (.int .u64 (Sort.xorNextN x)) [.blk 199 (dU.aA (Sort.xorNextN x))]:=by
 refine aG anZ an0 FH.au rfl ?_;unfold j112;simp only[go_sem,seval];have e1:z0a.wrap ((x:Int)*2^min 13 64)=((x*8192%18446744073709551616:Nat):Int):=by rw[show min 13 64=13 from rfl,z1c];omega
 obtain⟨A,hA⟩:∃ A:Nat,A=x^^^(x*8192%18446744073709551616):=⟨_,rfl⟩;have lA:A<18446744073709551616:=by rw[hA];exact z0s (n:=64) (by omega) (by omega)
 have e2:((A:Int)).fdiv (2^min 7 64)=((A/128:Nat):Int):=by rw[show min 7 64=7 from rfl,z0z _ (by decide)];omega
 obtain⟨B,hB⟩:∃ B:Nat,B=A^^^(A/128):=⟨_,rfl⟩;have lB:B<18446744073709551616:=by rw[hB];exact z0s (n:=64) (by omega) (by omega)
 have e3:z0a.wrap ((B:Int)*2^min 17 64)=((B*131072%18446744073709551616:Nat):Int):=by rw[show min 17 64=17 from rfl,z1c];omega
 have hv:Sort.xorNextN x=B^^^(B*131072%18446744073709551616):=by unfold Sort.xorNextN;simp only[];rw[<- hA,<- hB]
 rw[e1,bx hx (by omega),<- hA,e2,bx lA (by omega),<- hB,e3,bx lB (by omega),hv]
 exact⟨rfl,rfl⟩
def Gbp(f:FuncId)(a:List SV)(m:List ay):Sx.Call:=(FH.rd 111 (.one .int) (.one dU) (λy=>0<=y.1/\y.1<65536) (λy=>((1<<<Sort.bitsLen y.1.toNat:Nat):Int))<|
 FH.mt 112 199 dU .nil (.one dU) (λs _=>0<=s/\s<18446744073709551616) (λs _=>(Sort.xorNextN s.toNat:Int)) (λs _=>(Sort.xorNextN s.toNat:Int)) FH.none) f a m
theorem zY:type_of% (nq Gbp.eq_1):=nq Gbp.eq_1
theorem W9:bQ Try.prog main Fz Gbp:=FH.dM (λy h=>by
 obtain⟨y,⟨⟩⟩:=y;simp only at h;obtain⟨n,rfl⟩:=aY h.1;exact afq n (by omega))<|FH.zo (λs y h=>by
 obtain⟨n,rfl⟩:=aY h.1;exact WZ n (by omega)) FH.au
def bpRest(a L M i0:Nat):Nat->Nat->UInt64×Array Fk->Array Fk
 |0,_,st=>st.2
 |k+1,t,st=>bpRest a L M i0 k (t+1) (Sort.breakStep a L M st (i0+t))
theorem I9(d:Array Fk)(a b L:Nat)(h:L=b - a)(h8:8<=L):Sort.breakPatterns d a b=bpRest a L (1<<<Sort.bitsLen L) (a+L/4*2 - 1) 3 0 (UInt64.ofNat L,d):=by unfold Sort.breakPatterns;simp only[<- h];rw[if_pos h8];rfl
def oth(r:UInt64)(M L:Nat):Nat:=if (Sort.xorNext r).toNat&&&(M - 1)≥L then((Sort.xorNext r).toNat&&&(M - 1)) - L else(Sort.xorNext r).toNat&&&(M - 1)
theorem bp_step(a L M i0 t k:Nat)(r:UInt64)(d:Array Fk):bpRest a L M i0 (k+1) t (r,d)=bpRest a L M i0 k (t+1) (Sort.xorNext r,Sort.swp d (i0+t) (a+oth r M L)):=rfl
theorem NM(X:Array Fk)(a b:Nat)(hb:b<=X.size)(hX:X.size<65536)(ha:a+8<=b):
  bC Try.prog main Fz 81 [.vec 0 X.size, .int .i64 a, .int .i64 b,cF] [mv X]
   (.cu []) [mv (Sort.breakPatterns X a b)]:=by
 refine wkA j81 [] 67 W9 rfl ?_;obtain⟨l,hl⟩:∃ l:Nat,l=b - a:=⟨_,rfl⟩;have w1:z00.wrap ((b:Int) - a)=(l:Int):=by rw[aJ];omega
 have w2:((8:Int)<=l)=True:=by simp;omega
 have w3:z0a.wrap (l:Int)=l:=z0f _ (by omega)
 have w4:(l:Int).tdiv 4=((l/4:Nat):Int):=rfl;have w5:z00.wrap ((l/4:Nat):Int)=((l/4:Nat):Int):=aJ;have w6:z00.wrap (((l/4:Nat):Int)*2)=((l/4:Nat):Int)*2:=aJ;obtain⟨i0,hi0⟩:∃ i0:Nat,i0=a+l/4*2 - 1:=⟨_,rfl⟩;have w7:z00.wrap ((a:Int)+((l/4:Nat):Int)*2)=((i0+1:Nat):Int):=by rw[aJ];omega
 have w8:z00.wrap (((i0+1:Nat):Int) - 1)=(i0:Int):=by rw[aJ];omega
 have w9:z00.wrap (((i0+1:Nat):Int)+1)=((i0+2:Nat):Int):=by rw[aJ];omega
 unfold j81;simp only[go_sem,seval,mv,w1,w2,w3,w4,w5,w6,w7,w8,zY];refine⟨⟨z01 _,by omega⟩,?_⟩
 obtain⟨M,hM⟩:∃ M,M=1<<<Sort.bitsLen l:=⟨_,rfl⟩;have hM2:M<=2*l:=by rw[hM,z0w,z18];exact Sort.two_pow_bitsLen_le (by omega)
 have hM1:0<M:=by rw[hM,z0w,z18];exact Nat.two_pow_pos _
 have m1:z0a.wrap ((M:Int) - 1)=((M - 1:Nat):Int):=by rw[z0f _ (by omega)];omega
 have hbe:=I9 X a b l hl (by omega)
 rw[<- hM,<- hi0] at hbe;rw[<- hM];obtain⟨R,hR⟩:∃ R,R=Sort.breakPatterns X a b:=⟨_,rfl⟩;rw[<- hR] at hbe ⊢;refine bU (Nat×UInt64×Array Fk) (λs=>[.int .i64 ((i0+s.1:Nat):Int)]) (λs=>[mv s.2.2, .blk 199 (.int .u64 (s.2.1.toNat:Int))]) (λs=>s.1<=3/\s.2.2.size=X.size/\bpRest a l M i0 (3 - s.1) s.1 s.2=R) (λs=>3 - s.1) (0,UInt64.ofNat l,X) ⟨by simp only;omega,rfl,hbe.symm⟩ ?_ ?_ ?_
 ·simp only[go_sem,seval]
 ·have:(UInt64.ofNat l).toNat=l:=by simp;omega
  simp only[this]
 rintro⟨t,r,Y⟩ ⟨k0,k1,k2⟩;simp only at k0 k1 k2;by_cases ht:t<3
 ·have c1:((((i0+t:Nat):Int))<=((i0+2:Nat):Int))=True:=by simp;omega
  have n1:(r.toNat:Int)<18446744073709551616:=by have:=r.toNat_lt;omega
  have n2:(Sort.xorNextN r.toNat:Int)=(((Sort.xorNext r).toNat:Nat):Int):=by rw[Sort.xorNext_toNat]
  have n3:uU .u64 (((Sort.xorNext r).toNat:Nat):Int) ((M - 1:Nat):Int)=(((Sort.xorNext r).toNat&&&(M - 1):Nat):Int):=ba (by have:=(Sort.xorNext r).toNat_lt;omega) (by omega)
  have hle:(Sort.xorNext r).toNat&&&(M - 1)<=M - 1:=z1p;obtain⟨o,ho⟩:∃ o,o=(Sort.xorNext r).toNat&&&(M - 1):=⟨_,rfl⟩;rw[<- ho] at n3 hle;have n4:z00.wrap (o:Int)=o:=aJ;obtain⟨s,hs⟩:∃ s,3 - t=s+1:=⟨2 - t,by omega⟩
  rw[hs,bp_step] at k2;have w10:z00.wrap (((i0+t:Nat):Int)+1)=((i0+t+1:Nat):Int):=aJ;have r1:i0+t<X.size:=by omega
  by_cases hol:l<=o
  ·have Xa:((l:Int)<=o)=True:=by simp;omega
   have n5:z00.wrap ((o:Int) - l)=((o - l:Nat):Int):=by rw[aJ];omega
   have n6:z00.wrap ((a:Int)+((o - l:Nat):Int))=((a+(o - l):Nat):Int):=aJ;have hoth:oth r M l=o - l:=by unfold oth;rw[<- ho,if_pos hol]
   have r2:a+(o - l)<X.size:=by omega
   rw[hoth] at k2;unfold YL;simp only[go_sem,seval,mv,w4,w5,w6,w7,w9,w10,c1,m1,n1,n2,n3,n4,n5,n6,Xa,zY,rd,r1,r2,k1,wr,bn,aU,bf,z02,z01];exact⟨(t+1,Sort.xorNext r,Sort.swp Y (i0+t) (a+(o - l))),⟨by simp only;omega,by simp only;rw[swp_size];exact k1,by rw[<- k2,show 3 - (t+1)=s by omega]⟩,by simp only;omega,rfl,rfl⟩
  ·have Xa:((l:Int)<=o)=False:=by simp;omega
   have n6:z00.wrap ((a:Int)+(o:Int))=((a+o:Nat):Int):=aJ;have hoth:oth r M l=o:=by unfold oth;rw[<- ho,if_neg hol]
   have r2:a+o<X.size:=by omega
   rw[hoth] at k2;unfold YL;simp only[go_sem,seval,mv,w4,w5,w6,w7,w9,w10,c1,m1,n1,n2,n3,n4,n6,Xa,zY,rd,r1,r2,k1,wr,bn,aU,bf,z02,z01];exact⟨(t+1,Sort.xorNext r,Sort.swp Y (i0+t) (a+o)),⟨by simp only;omega,by simp only;rw[swp_size];exact k1,by rw[<- k2,show 3 - (t+1)=s by omega]⟩,by simp only;omega,rfl,rfl⟩
 ·have c1:((((i0+t:Nat):Int))<=((i0+2:Nat):Int))=False:=by simp;omega
  unfold YL;simp only[go_sem,seval,mv,w4,w5,w6,w7,w9,c1];rw[show 3 - t=0 by omega] at k2
  rw[<- k2];rfl
end Go.Proofs.Ytpajfggdnobheaa.rH
namespace Go.Proofs.Ytpajfggdnobheaa.rH
variable {main:Bool} {Fz:Nat->Prop}
open D
def ak3:JC:=(.block 1 (qN (o7 21 2<|o7 22 1<|qo 23 (.ar .sub (.t 21) (.t 22))<|o7 12 23<|.nil) (qM [12,0,1,2,4,3,10,11] (.seq (qN (o7 24 12<|qo 25 (.cmp .leq (.t 24) (I 12))<|.nil) (qM [25,0,1,2,4,3,10,11,12] (qO 25 (qN (qL [0,1,2,4]<|o7 26 0<|o7 27 1<|o7 28 2<|o7 29 4<|eo 30 (.call 79 [(.t 26),(.t 27),(.t 28),(.t 29)])<|.nil) .ret) .skip))) (qM [3,0,1,2,4,10,11,12] (.seq (qN (o7 31 3<|oH 32 31 0<|.nil) (qM [32,0,1,2,4,10,3,11,12] (qO 32 (qN (qL [0,1,2,4]<|o7 33 0<|o7 34 1<|o7 35 2<|o7 36 4<|eo 37 (.call 80 [(.t 33),(.t 34),(.t 35),(.t 36)])<|.nil) .ret) .skip))) (qM [10,0,1,2,4,3,11,12] (.seq (qN (o7 38 10<|qE 39 38<|.nil) (qM [39,0,1,2,4,3,10,11,12] (qO 39 (qN (o7 40 0<|o7 41 1<|o7 42 2<|o7 43 4<|eo 44 (.call 81 [(.t 40),(.t 41),(.t 42),(.t 43)])<|.nil) (qM [3,0,1,2,4,10,11,12] (.ops<|o7 45 3<|qo 46 (.ar .sub (.t 45) (I 1))<|o7 3 46<|.nil))) .skip))) (qM [0,1,2,4,10,11,3,12] (qN (o7 48 0<|o7 49 1<|o7 50 2<|o7 51 4<|eo 52 (.call 82 [(.t 48),(.t 49),(.t 50),(.t 51)])<|qL [52,0,1,2,4,10,11,3,12]<|o7 47 52<|oM 53 0 47<|oM 54 1 47<|o7 13 53<|o7 14 54<|.nil) (qM [14,0,1,2,4,13,10,11,3,12] (.seq (qN (o7 55 14<|oH 56 55 2<|.nil) (qM [56,0,1,2,4,13,10,11,3,12,14] (qO 56 (qN (o7 57 0<|o7 58 1<|o7 59 2<|o7 60 4<|eo 61 (.call 83 [(.t 57),(.t 58),(.t 59),(.t 60)])<|.nil) (qM [2,13,1,10,11,0,4,3,12] (qN (o7 62 2<|qo 63 (.ar .sub (.t 62) (I 1))<|o7 64 13<|o7 65 1<|qo 66 (.ar .sub (.t 64) (.t 65))<|qo 67 (.ar .sub (.t 63) (.t 66))<|o7 13 67<|.nil) (qM [10,11,0,1,2,4,13,3,12] (.ops<|o8 14 1<|.nil))))) .skip))) (qM [10,11,14,0,1,2,4,13,3,12] (.seq (qN (o7 68 10<|o7 69 68<|.sc false 71 69 (o7 70 11<|.nil) (.t 70)<|o7 72 71<|qL [72,14,0,1,2,4,13,3,10,11,12]<|.sc false 75 72 (o7 73 14<|oH 74 73 1<|.nil) (.t 74)<|.nil) (qM [75,0,1,2,4,13,3,10,11,12] (qO 75 (qN (o7 76 0<|o7 77 1<|o7 78 2<|o7 79 4<|eo 80 (.call 84 [(.t 76),(.t 77),(.t 78),(.t 79)])<|.nil) (qO 80 .ret .skip)) .skip))) (qM [1,4,0,13,2,3,10,11,12] (.seq (.seq (.aZ<|o7 81 1<|qJ 82 81 0<|o7 83 82<|.sc false 97 83 (o7 84 4<|o7 85 0<|o7 86 1<|qo 87 (.ar .sub (.t 86) (I 1))<|oJ 88 3 85 87<|oC 89 3 88<|o7 90 0<|o7 91 13<|oJ 92 3 90 91<|oC 93 3 92<|eo 94 (.fO (.t 84) [(.t 89),(.t 93)])<|oZ 95 94 0<|qE 96 95<|.nil) (.t 96)<|.nil) (qM [97,0,1,2,13,4,3,10,11,12] (qO 97 (qN (o7 98 0<|o7 99 1<|qL [2,13,4,98,99,0,3,10,11]<|o7 100 2<|o7 101 13<|o7 102 4<|eo 103 (.call 85 [(.t 98),(.t 99),(.t 100),(.t 101),(.t 102)])<|o7 15 103<|.nil) (qM [15,2,0,4,3,10,11] (qN (o7 104 15<|o7 1 104<|.nil) (.exit 1)))) .skip))) (qM [0,1,2,13,4,12,3] (qN (o7 106 0<|o7 107 1<|o7 108 2<|o7 109 13<|o7 110 4<|eo 111 (.call 86 [(.t 106),(.t 107),(.t 108),(.t 109),(.t 110)])<|qL [111,1,2,12,0,3,4]<|o7 105 111<|oM 112 0 105<|oM 113 1 105<|o7 16 112<|o7 17 113<|.nil) (qM [17,16,1,2,12,0,3,4] (qN (o7 114 17<|o7 11 114<|.nil) (qM [16,1,2,12,0,3,4,11] (qN (o7 115 16<|o7 116 1<|qo 117 (.ar .sub (.t 115) (.t 116))<|o7 118 2<|o7 119 16<|qo 120 (.ar .sub (.t 118) (.t 119))<|o7 18 117<|o7 19 120<|.nil) (qM [12,18,19,0,1,16,3,4,2,11] (qN (o7 121 12<|qo 122 (.ar .quo (.t 121) (I 8))<|o7 20 122<|.nil) (qM [18,19,20,0,1,16,3,4,2,11] (qN (o7 123 18<|o7 124 19<|oN 125 123 124<|.nil) (qM [125,18,20,0,1,16,3,4,2,11,19] (qO 125 (qN (o7 126 18<|qL [20,126,0,1,16,3,4,2,11]<|o7 127 20<|qo 128 (.cmp .geq (.t 126) (.t 127))<|o7 10 128<|.nil) (qM [0,1,16,3,4,2,10,11] (qN (o7 129 0<|o7 130 1<|o7 131 16<|o7 132 3<|o7 133 4<|eo 134 (.call 46 [(.t 129),(.t 130),(.t 131),(.t 132),(.t 133)])<|.nil) (qM [16,2,0,4,3,10,11] (.ops<|o7 135 16<|oI 136 135 1<|o7 1 136<|.nil))))) (qN (o7 137 19<|qL [20,137,0,16,2,3,4,1,11]<|o7 138 20<|qo 139 (.cmp .geq (.t 137) (.t 138))<|o7 10 139<|.nil) (qM [0,16,2,3,4,1,10,11] (qN (o7 140 0<|o7 141 16<|oI 142 141 1<|o7 143 2<|o7 144 3<|o7 145 4<|eo 146 (.call 46 [(.t 140),(.t 142),(.t 143),(.t 144),(.t 145)])<|.nil) (qM [16,1,0,4,3,10,11] (.ops<|o7 147 16<|o7 2 147<|.nil)))))))))))))))))))))))))))))))))
def j46:JC:=(qN (qG 10 true<|.nil) (qN (qG 11 true<|.nil) (.block 0 (.loop [0,4] [2,1,3,10,11] ak3))))
def j23:JC:=(qN (o7 5 0<|oO 6 5<|o7 4 6<|.nil) (.ops<|o7 7 0<|o7 8 4<|o7 9 4<|qo 10 (.conv .u64 (.t 9))<|qL [10,1,7,8]<|oL 11 47 10<|o7 12 1<|eo 13 (.call 46 [(.t 7),(I 0),(.t 8),(.t 11),(.t 12)])<|.nil))
def G6:JC:=
 (.prune [0,1,2,13,4,12,3] (.seq (.ops<|
 qo 106 (.mv (.t 0))<|
 qo 107 (.mv (.t 1))<|
 qo 108 (.mv (.t 2))<|
 qo 109 (.mv (.t 13))<|
 qo 110 (.mv (.t 4))<|
 eo 111 (.call 86 [(.t 106),(.t 107),(.t 108),(.t 109),(.t 110)])<|
 .prune [111,1,2,12,0,3,4]<|
 qo 105 (.mv (.t 111))<|
 qo 112 (.ext 0 (.t 105))<|
 qo 113 (.ext 1 (.t 105))<|
 qo 16 (.mv (.t 112))<|
 qo 17 (.mv (.t 113))<|
 .nil)
 (.prune [17,16,1,2,12,0,3,4] (.seq (.ops<|
 qo 114 (.mv (.t 17))<|
 qo 11 (.mv (.t 114))<|
 .nil)
 (.prune [16,1,2,12,0,3,4,11] (.seq (.ops<|
 qo 115 (.mv (.t 16))<|
 qo 116 (.mv (.t 1))<|
 qo 117 (.ar .sub (.t 115) (.t 116))<|
 qo 118 (.mv (.t 2))<|
 qo 119 (.mv (.t 16))<|
 qo 120 (.ar .sub (.t 118) (.t 119))<|
 qo 18 (.mv (.t 117))<|
 qo 19 (.mv (.t 120))<|
 .nil)
 (.prune [12,18,19,0,1,16,3,4,2,11] (.seq (.ops<|
 qo 121 (.mv (.t 12))<|
 qo 122 (.ar .quo (.t 121) (I 8))<|
 qo 20 (.mv (.t 122))<|
 .nil)
 (.prune [18,19,20,0,1,16,3,4,2,11] (.seq (.ops<|
 qo 123 (.mv (.t 18))<|
 qo 124 (.mv (.t 19))<|
 qo 125 (.cmp .lss (.t 123) (.t 124))<|
 .nil)
 (.prune [125,18,20,0,1,16,3,4,2,11,19] (.cond (.t 125)
 (.seq (.ops<|
 qo 126 (.mv (.t 18))<|
 .prune [20,126,0,1,16,3,4,2,11]<|
 qo 127 (.mv (.t 20))<|
 qo 128 (.cmp .geq (.t 126) (.t 127))<|
 qo 10 (.mv (.t 128))<|
 .nil)
 (.prune [0,1,16,3,4,2,10,11] (.seq (.ops<|
 qo 129 (.mv (.t 0))<|
 qo 130 (.mv (.t 1))<|
 qo 131 (.mv (.t 16))<|
 qo 132 (.mv (.t 3))<|
 qo 133 (.mv (.t 4))<|
 eo 134 (.call 46 [(.t 129),(.t 130),(.t 131),(.t 132),(.t 133)])<|
 .nil)
 (.prune [16,2,0,4,3,10,11] (.ops<|
 qo 135 (.mv (.t 16))<|
 qo 136 (.ar .add (.t 135) (I 1))<|
 qo 1 (.mv (.t 136))<|
 .nil)))))
 (.seq (.ops<|
 qo 137 (.mv (.t 19))<|
 .prune [20,137,0,16,2,3,4,1,11]<|
 qo 138 (.mv (.t 20))<|
 qo 139 (.cmp .geq (.t 137) (.t 138))<|
 qo 10 (.mv (.t 139))<|
 .nil)
 (.prune [0,16,2,3,4,1,10,11] (.seq (.ops<|
 qo 140 (.mv (.t 0))<|
 qo 141 (.mv (.t 16))<|
 qo 142 (.ar .add (.t 141) (I 1))<|
 qo 143 (.mv (.t 2))<|
 qo 144 (.mv (.t 3))<|
 qo 145 (.mv (.t 4))<|
 eo 146 (.call 46 [(.t 140),(.t 142),(.t 143),(.t 144),(.t 145)])<|
 .nil)
 (.prune [16,1,0,4,3,10,11] (.ops<|
 qo 147 (.mv (.t 16))<|
 qo 2 (.mv (.t 147))<|
 .nil)))))))))))))))))
def G7:JC:=
 (.prune [1,4,0,13,2,3,10,11,12] (.seq (.seq (.aZ<|
 qo 81 (.mv (.t 1))<|
 qo 82 (.cmp .gtr (.t 81) (I 0))<|
 qo 83 (.mv (.t 82))<|
 .sc false 97 83 (qo 84 (.mv (.t 4))<|
 qo 85 (.mv (.t 0))<|
 qo 86 (.mv (.t 1))<|
 qo 87 (.ar .sub (.t 86) (I 1))<|
 qo 88 (.is 3 (.t 85) (.t 87))<|
 eo 89 (.load 3 true (.t 88))<|
 qo 90 (.mv (.t 0))<|
 qo 91 (.mv (.t 13))<|
 qo 92 (.is 3 (.t 90) (.t 91))<|
 eo 93 (.load 3 true (.t 92))<|
 eo 94 (.fO (.t 84) [(.t 89),(.t 93)])<|
 qo 95 (.cmp .lss (.t 94) (I 0))<|
 qo 96 (.nt (.t 95))<|
 .nil) (.t 96)<|
 .nil)
 (.prune [97,0,1,2,13,4,3,10,11,12] (.cond (.t 97)
 (.seq (.ops<|
 qo 98 (.mv (.t 0))<|
 qo 99 (.mv (.t 1))<|
 .prune [2,13,4,98,99,0,3,10,11]<|
 qo 100 (.mv (.t 2))<|
 qo 101 (.mv (.t 13))<|
 qo 102 (.mv (.t 4))<|
 eo 103 (.call 85 [(.t 98),(.t 99),(.t 100),(.t 101),(.t 102)])<|
 qo 15 (.mv (.t 103))<|
 .nil)
 (.prune [15,2,0,4,3,10,11] (.seq (.ops<|
 qo 104 (.mv (.t 15))<|
 qo 1 (.mv (.t 104))<|
 .nil)
 (.exit 1))))
 .skip)))
 G6))
def Dc:JC:=
 (.prune [10,11,14,0,1,2,4,13,3,12] (.seq (.seq (.ops<|
 qo 68 (.mv (.t 10))<|
 qo 69 (.mv (.t 68))<|
 .sc false 71 69 (qo 70 (.mv (.t 11))<|
 .nil) (.t 70)<|
 qo 72 (.mv (.t 71))<|
 .prune [72,14,0,1,2,4,13,3,10,11,12]<|
 .sc false 75 72 (qo 73 (.mv (.t 14))<|
 qo 74 (.cmp .eql (.t 73) (I 1))<|
 .nil) (.t 74)<|
 .nil)
 (.prune [75,0,1,2,4,13,3,10,11,12] (.cond (.t 75)
 (.seq (.ops<|
 qo 76 (.mv (.t 0))<|
 qo 77 (.mv (.t 1))<|
 qo 78 (.mv (.t 2))<|
 qo 79 (.mv (.t 4))<|
 eo 80 (.call 84 [(.t 76),(.t 77),(.t 78),(.t 79)])<|
 .nil)
 (.cond (.t 80)
 .ret
 .skip))
 .skip)))
 G7))
def Nz:JC:=
 (.prune [0,1,2,4,10,11,3,12] (.seq (.ops<|
 qo 48 (.mv (.t 0))<|
 qo 49 (.mv (.t 1))<|
 qo 50 (.mv (.t 2))<|
 qo 51 (.mv (.t 4))<|
 eo 52 (.call 82 [(.t 48),(.t 49),(.t 50),(.t 51)])<|
 .prune [52,0,1,2,4,10,11,3,12]<|
 qo 47 (.mv (.t 52))<|
 qo 53 (.ext 0 (.t 47))<|
 qo 54 (.ext 1 (.t 47))<|
 qo 13 (.mv (.t 53))<|
 qo 14 (.mv (.t 54))<|
 .nil)
 (.prune [14,0,1,2,4,13,10,11,3,12] (.seq (.seq (.ops<|
 qo 55 (.mv (.t 14))<|
 qo 56 (.cmp .eql (.t 55) (I 2))<|
 .nil)
 (.prune [56,0,1,2,4,13,10,11,3,12,14] (.cond (.t 56)
 (.seq (.ops<|
 qo 57 (.mv (.t 0))<|
 qo 58 (.mv (.t 1))<|
 qo 59 (.mv (.t 2))<|
 qo 60 (.mv (.t 4))<|
 eo 61 (.call 83 [(.t 57),(.t 58),(.t 59),(.t 60)])<|
 .nil)
 (.prune [2,13,1,10,11,0,4,3,12] (.seq (.ops<|
 qo 62 (.mv (.t 2))<|
 qo 63 (.ar .sub (.t 62) (I 1))<|
 qo 64 (.mv (.t 13))<|
 qo 65 (.mv (.t 1))<|
 qo 66 (.ar .sub (.t 64) (.t 65))<|
 qo 67 (.ar .sub (.t 63) (.t 66))<|
 qo 13 (.mv (.t 67))<|
 .nil)
 (.prune [10,11,0,1,2,4,13,3,12] (.ops<|
 qo 14 (.mv (I 1))<|
 .nil)))))
 .skip)))
 Dc))))
theorem AY:ak3=
 (.block 1 (.seq (.ops<|
 qo 21 (.mv (.t 2))<|
 qo 22 (.mv (.t 1))<|
 qo 23 (.ar .sub (.t 21) (.t 22))<|
 qo 12 (.mv (.t 23))<|
 .nil)
 (.prune [12,0,1,2,4,3,10,11] (.seq (.seq (.ops<|
 qo 24 (.mv (.t 12))<|
 qo 25 (.cmp .leq (.t 24) (I 12))<|
 .nil)
 (.prune [25,0,1,2,4,3,10,11,12] (.cond (.t 25)
 (.seq (.ops<|
 .prune [0,1,2,4]<|
 qo 26 (.mv (.t 0))<|
 qo 27 (.mv (.t 1))<|
 qo 28 (.mv (.t 2))<|
 qo 29 (.mv (.t 4))<|
 eo 30 (.call 79 [(.t 26),(.t 27),(.t 28),(.t 29)])<|
 .nil)
 .ret)
 .skip)))
 (.prune [3,0,1,2,4,10,11,12] (.seq (.seq (.ops<|
 qo 31 (.mv (.t 3))<|
 qo 32 (.cmp .eql (.t 31) (I 0))<|
 .nil)
 (.prune [32,0,1,2,4,10,3,11,12] (.cond (.t 32)
 (.seq (.ops<|
 .prune [0,1,2,4]<|
 qo 33 (.mv (.t 0))<|
 qo 34 (.mv (.t 1))<|
 qo 35 (.mv (.t 2))<|
 qo 36 (.mv (.t 4))<|
 eo 37 (.call 80 [(.t 33),(.t 34),(.t 35),(.t 36)])<|
 .nil)
 .ret)
 .skip)))
 (.prune [10,0,1,2,4,3,11,12] (.seq (.seq (.ops<|
 qo 38 (.mv (.t 10))<|
 qo 39 (.nt (.t 38))<|
 .nil)
 (.prune [39,0,1,2,4,3,10,11,12] (.cond (.t 39)
 (.seq (.ops<|
 qo 40 (.mv (.t 0))<|
 qo 41 (.mv (.t 1))<|
 qo 42 (.mv (.t 2))<|
 qo 43 (.mv (.t 4))<|
 eo 44 (.call 81 [(.t 40),(.t 41),(.t 42),(.t 43)])<|
 .nil)
 (.prune [3,0,1,2,4,10,11,12] (.ops<|
 qo 45 (.mv (.t 3))<|
 qo 46 (.ar .sub (.t 45) (I 1))<|
 qo 3 (.mv (.t 46))<|
 .nil)))
 .skip)))
 Nz)))))))):=rfl
theorem jF:Sort.SWO lt where
 irrefl x:=by simp[lt]
 trans x y z h1 h2:=by simp only[lt,decide_eq_true_eq] at*;omega
 ntrans x y z h1 h2:=by simp only[lt,decide_eq_false_iff_not] at*;omega
def Df(k:Int)(s:List Fk)(y:Int×Int×Nat×Unit):Prop:=(0<=y.1/\y.1+k<=y.2.1)/\(y.2.1<=s.length/\s.length<65536)/\y.2.2.1=24
def pr4(s:List Fk)(y:Int×Int×Int×Nat×Unit):Prop:=(0<=y.1/\y.1<=y.2.2.1/\y.2.2.1<y.2.1)/\(y.2.1<=s.length/\s.length<65536)/\y.2.2.2.1=24
def NC(N:Nat)(s:List Fk)(y:Int×Int×Int×Nat×Unit):Prop:=(0<=y.1/\y.1<=y.2.1/\y.2.1 - y.1<N)/\((y.2.1<=s.length/\s.length<65536)/\0<=y.2.2.1/\y.2.2.1<64)/\y.2.2.2.1=24/\Sort.Below lt y.1.toNat y.2.1.toNat s.toArray
theorem ql(k:Nat){X:Array Fk}{a b:Nat}(h:a+k<=b)(hb:b<=X.size)(hX:X.size<65536):Df k X.toList ((a:Int),(b:Int),24,()):=by refine⟨⟨z01 _,by simp only;omega⟩,⟨?_,?_⟩,rfl⟩<;>simp only[z0m]<;>omega
theorem G8{X:Array Fk}{a b c:Nat}(h:a<=c)(h2:c<b)(hb:b<=X.size)(hX:X.size<65536):pr4 X.toList ((a:Int),(b:Int),(c:Int),24,()):=by refine⟨⟨z01 _,by simp only;omega,by simp only;omega⟩,⟨?_,?_⟩,rfl⟩<;>simp only[z0m]<;>omega
theorem zM{N:Nat}{X:Array Fk}{a b l:Nat}(h:a<=b)(h2:b - a<N)(hb:b<=X.size)(hX:X.size<65536)(hl:l<64)(hB:Sort.Below lt a b X):NC N X.toList ((a:Int),(b:Int),(l:Int),24,()):=by refine⟨⟨z01 _,by simp only;omega,by simp only;omega⟩,⟨⟨?_,?_⟩,z01 _,by simp only;omega⟩,rfl,hB⟩<;>simp only[z0m]<;>omega
def insL(s:List Fk)(y:Int×Int×Nat×Unit):List Fk:=(Sort.insertionSort lt s.toArray y.1.toNat y.2.1.toNat).toList
def QM(s:List Fk)(y:Int×Int×Nat×Unit):List Fk:=(Sort.heapSort lt s.toArray y.1.toNat y.2.1.toNat).toList
def G9(s:List Fk)(y:Int×Int×Nat×Unit):List Fk:=(Sort.breakPatterns s.toArray y.1.toNat y.2.1.toNat).toList
def aed(s:List Fk)(y:Int×Int×Nat×Unit):List Fk:=(Sort.reverseRange s.toArray y.1.toNat y.2.1.toNat).toList
def He(s:List Fk)(y:Int×Int×Nat×Unit):List Fk:=(Sort.partialInsertionSort lt s.toArray y.1.toNat y.2.1.toNat).1.toList
def Hf(s:List Fk)(y:Int×Int×Nat×Unit):Bool:=(Sort.partialInsertionSort lt s.toArray y.1.toNat y.2.1.toNat).2
def VT(s:List Fk)(y:Int×Int×Nat×Unit):Int×Int:=(((Sort.choosePivot lt s.toArray y.1.toNat y.2.1.toNat).1:Int),dZ (Sort.choosePivot lt s.toArray y.1.toNat y.2.1.toNat).2)
def aee(s:List Fk)(y:Int×Int×Int×Nat×Unit):List Fk:=(Sort.partitionEqual lt s.toArray y.1.toNat y.2.1.toNat y.2.2.1.toNat).2.toList
def aef(s:List Fk)(y:Int×Int×Int×Nat×Unit):Int:=((Sort.partitionEqual lt s.toArray y.1.toNat y.2.1.toNat y.2.2.1.toNat).1:Int)
def QN(s:List Fk)(y:Int×Int×Int×Nat×Unit):List Fk:=(Sort.partition lt s.toArray y.1.toNat y.2.1.toNat y.2.2.1.toNat).2.2.toList
def QO(s:List Fk)(y:Int×Int×Int×Nat×Unit):Int×Bool:=(((Sort.partition lt s.toArray y.1.toNat y.2.1.toNat y.2.2.1.toNat).1:Int),(Sort.partition lt s.toArray y.1.toNat y.2.1.toNat y.2.2.1.toNat).2.1)
def Dh(s:List Fk)(y:Int×Int×Int×Nat×Unit):List Fk:=(Sort.pdq lt s.toArray y.1.toNat y.2.1.toNat y.2.2.1.toNat true true).toList
section
variable (X:Array Fk) (a b c g:Nat)
theorem ND:insL X.toList ((a:Int),(b:Int),g,())=(Sort.insertionSort lt X a b).toList:=rfl
theorem Hg:QM X.toList ((a:Int),(b:Int),g,())=(Sort.heapSort lt X a b).toList:=rfl
theorem Di:G9 X.toList ((a:Int),(b:Int),g,())=(Sort.breakPatterns X a b).toList:=rfl
theorem NG:aed X.toList ((a:Int),(b:Int),g,())=(Sort.reverseRange X a b).toList:=rfl
theorem Hl:He X.toList ((a:Int),(b:Int),g,())=(Sort.partialInsertionSort lt X a b).1.toList:=rfl
theorem Ho:Hf X.toList ((a:Int),(b:Int),g,())=(Sort.partialInsertionSort lt X a b).2:=rfl
theorem NH:VT X.toList ((a:Int),(b:Int),g,())=(((Sort.choosePivot lt X a b).1:Int),dZ (Sort.choosePivot lt X a b).2):=rfl
theorem NI:aee X.toList ((a:Int),(b:Int),(c:Int),g,())=(Sort.partitionEqual lt X a b c).2.toList:=rfl
theorem NJ:aef X.toList ((a:Int),(b:Int),(c:Int),g,())=((Sort.partitionEqual lt X a b c).1:Int):=rfl
theorem wX:QN X.toList ((a:Int),(b:Int),(c:Int),g,())=(Sort.partition lt X a b c).2.2.toList:=rfl
theorem wY:QO X.toList ((a:Int),(b:Int),(c:Int),g,())=(((Sort.partition lt X a b c).1:Int),(Sort.partition lt X a b c).2.1):=rfl
theorem AZ:Dh X.toList ((a:Int),(b:Int),(c:Int),g,())=(Sort.pdq lt X a b c true true).toList:=rfl
end
def Gp(f:FuncId)(a:List SV)(m:List ay):Sx.Call:=(FH.sv 79 TP 3 wC (.three .int .int .NK) .unit (Df 0) (λ_ _=>()) insL<|FH.sv 80 TP 3 wC (.three .int .int .NK) .unit (Df 1) (λ_ _=>()) QM<|
 FH.sv 81 TP 3 wC (.three .int .int .NK) .unit (Df 8) (λ_ _=>()) G9<|FH.sv 82 TP 3 wC (.three .int .int .NK) (.two .int .int) (Df 1) VT (λs _=>s)<|
 FH.sv 83 TP 3 wC (.three .int .int .NK) .unit (Df 1) (λ_ _=>()) aed<|FH.sv 84 TP 3 wC (.three .int .int .NK) (.one .bool) (Df 1) Hf He<|
 FH.sv 85 TP 3 wC (.four .int .int .int .NK) (.one .int) pr4 aef aee<|FH.sv 86 TP 3 wC (.four .int .int .int .NK) (.two .int .bool) pr4 QO QN Gc) f a m
theorem je:type_of% (nq Gp.eq_1):=nq Gp.eq_1
theorem lF{k:Nat}{s:List Fk}{y:Int×Int×Nat×Unit}(h:Df k s y):∃ a b:Nat,y=((a:Int),(b:Int),24,())/\a+k<=b/\b<=s.toArray.size/\s.toArray.size<65536:=by
 obtain⟨y1,y2,y3,⟨⟩⟩:=y;obtain⟨⟨h1,h2⟩,⟨h3,h4⟩,h5⟩:=h;simp only at h1 h2 h3 h4 h5;obtain⟨a,rfl⟩:=aY h1;obtain⟨b,rfl⟩:=aY (show 0<=y2 by omega)
 subst h5;exact⟨a,b,rfl,by omega,by simp;omega,by simpa using h4⟩
theorem Hq{s:List Fk}{y:Int×Int×Int×Nat×Unit}(h:pr4 s y):∃ a b c:Nat,y=((a:Int),(b:Int),(c:Int),24,())/\(a<=c/\c<b)/\b<=s.toArray.size/\s.toArray.size<65536:=by
 obtain⟨y1,y2,y0,y3,⟨⟩⟩:=y;obtain⟨⟨h1,h2,h0⟩,⟨h3,h4⟩,h5⟩:=h;simp only at h1 h2 h3 h4 h5 h0;obtain⟨a,rfl⟩:=aY h1;obtain⟨c,rfl⟩:=aY (show 0<=y0 by omega)
 obtain⟨b,rfl⟩:=aY (show 0<=y2 by omega)
 subst h5;exact⟨a,b,c,rfl,by omega,by simp;omega,by simpa using h4⟩
theorem Hr{N:Nat}{s:List Fk}{y:Int×Int×Int×Nat×Unit}(h:NC N s y):∃ a b l:Nat,y=((a:Int),(b:Int),(l:Int),24,())/\(a<=b/\b - a<N)/\(b<=s.toArray.size/\s.toArray.size<65536)/\l<64/\Sort.Below lt a b s.toArray:=by
 obtain⟨y1,y2,y0,y3,⟨⟩⟩:=y;obtain⟨⟨h1,h2,h0⟩,⟨⟨h3,h4⟩,h6,h7⟩,h5,hB⟩:=h;simp only at h1 h2 h3 h4 h5 h0 h6 h7 hB;obtain⟨a,rfl⟩:=aY h1;obtain⟨c,rfl⟩:=aY h6;obtain⟨b,rfl⟩:=aY (show 0<=y2 by omega)
 subst h5;exact⟨a,b,c,rfl,⟨by omega,by omega⟩,⟨by simp;omega,by simpa using h4⟩,by omega,hB⟩
theorem QS:bQ Try.prog main Fz Gp:=FH.jf (by decide) (by kernel_rfl) (λs y h=>by
  obtain⟨a,b,rfl,h1,h2,h3⟩:=lF (k:=0) h;exact aeg (main:=main) (Fz:=Fz) s.toArray a b h2 (by omega) (by omega))<|FH.jf (by decide) (by kernel_rfl) (λs y h=>by
  obtain⟨a,b,rfl,h1,h2,h3⟩:=lF (k:=1) h;exact VU (main:=main) (Fz:=Fz) s.toArray a b h2 (by omega) (by omega))<|FH.jf (by decide) (by kernel_rfl) (λs y h=>by
  obtain⟨a,b,rfl,h1,h2,h3⟩:=lF (k:=8) h;exact NM (main:=main) (Fz:=Fz) s.toArray a b h2 (by omega) (by omega))<|FH.jf (by decide) (by kernel_rfl) (λs y h=>by
  obtain⟨a,b,rfl,h1,h2,h3⟩:=lF (k:=1) h;exact NP (main:=main) (Fz:=Fz) s.toArray a b (by omega) h2 (by omega))<|FH.jf (by decide) (by kernel_rfl) (λs y h=>by
  obtain⟨a,b,rfl,h1,h2,h3⟩:=lF (k:=1) h;exact aeh (main:=main) (Fz:=Fz) s.toArray a b (by omega) h2 (by omega))<|FH.jf (by decide) (by kernel_rfl) (λs y h=>by
  obtain⟨a,b,rfl,h1,h2,h3⟩:=lF (k:=1) h;exact VW (main:=main) (Fz:=Fz) s.toArray a b h2 (by omega) (by omega))<|FH.jf (by decide) (by kernel_rfl) (λs y h=>by
  obtain⟨a,b,c,rfl,h1,h2,h3⟩:=Hq h;exact GV (main:=main) (Fz:=Fz) s.toArray a b c h2 (by omega) h1.1 h1.2)<|FH.jf (by decide) (by kernel_rfl) (λs y h=>by
  obtain⟨a,b,c,rfl,h1,h2,h3⟩:=Hq h;exact VL (main:=main) (Fz:=Fz) s.toArray a b c h2 (by omega) h1.1 h1.2) lZ
def Gq(N:Nat)(f:FuncId)(x:List SV)(m:List ay):Sx.Call:=(FH.sv 46 TP 3 wC (.four .int .int .int .NK) .unit (NC N) (λ_ _=>()) Dh Gp) f x m
theorem jo(N:Nat)(f:FuncId)(x:List SV)(m:List ay):Gq N f x m=(FH.sv 46 TP 3 wC (.four .int .int .int .NK) .unit (NC N) (λ_ _=>()) Dh Gp) f x m:=nr rfl
def L8(τ:Fr)(a b lim:Nat)(wb wp:Bool)(n:Nat):Prop:=(Sx.look 0 τ= .vec 0 n/\Sx.look 1 τ= .int .i64 a/\Sx.look 2 τ= .int .i64 b)/\(Sx.look 4 τ=cF/\Sx.look 3 τ= .int .i64 lim)/\Sx.look 10 τ= .bool wb/\Sx.look 11 τ= .bool wp
theorem wZ(X:Array Fk)(a b l:Nat)(u v:Bool)(hab:a<=b)(hb:b<=X.size)(hB:Sort.Below lt a b X):(Sort.pdq lt X a b l u v).size=X.size:=
 (Sort.pdq_holds Sort.insertionSort_holds Sort.heapSort_holds Sort.partialInsertionSort_holds (Sort.partition_holds lt) (Sort.partitionEqual_holds lt) Sort.reverseRange_holds jF X a b l u v hab hb hB).1.1
theorem wpt(N:Nat)(n0:Nat)(hn:n0=1)(X:Array Fk)(a b pv lim n:Nat)(ha:a<=pv)(hp:pv<b)(hN:b - a<=N)(hb:b<=n)(hn2:n=X.size)(hX:n<65536)(hl:lim<64)(hB:Sort.Below lt a b X)
  (mid:Nat) (ap:Bool) (d4:Array Fk) (hP:Sort.partition lt X a b pv=(mid,ap,d4))
  (τ:Fr) (h0:Sx.look 0 τ= .vec 0 n) (h1:Sx.look 1 τ= .int .i64 a) (h2:Sx.look 2 τ= .int .i64 b) (h4:Sx.look 4 τ=cF) (h3:Sx.look 3 τ= .int .i64 lim) (h12:Sx.look 12 τ= .int .i64 ((b - a:Nat):Int)) (h13:Sx.look 13 τ= .int .i64 pv)
  {Q:Ex->Fr->List ay->Prop}
  (hq1:mid - a<b - mid->∀ τ',L8 τ' (mid+1) b lim (decide (mid - a≥(b - a)/8)) ap n->Q .norm τ' [mv (Sort.pdq lt d4 a mid lim true true)])
  (hq2:¬ mid - a<b - mid->∀ τ',L8 τ' a mid lim (decide (b - mid≥(b - a)/8)) ap n->Q .norm τ' [mv (Sort.pdq lt d4 (mid+1) b lim true true)]):
  JC.wp (Gq N) n0 G6 Q τ [mv X]:=by
 subst hn;obtain⟨g1,g2,g3,g4,g5,_,_⟩:=Sort.round_part jF (Sort.partition_holds lt) ha hp (by omega) hB hP
 have p1:pr4 X.toList ((a:Int),(b:Int),(pv:Int),24,()):=G8 ha hp (by omega) (by omega)
 have e1:(Sort.partition lt X a b pv).1=mid:=by rw[hP]
 have e2:(Sort.partition lt X a b pv).2.1=ap:=by rw[hP]
 have e3:(Sort.partition lt X a b pv).2.2=d4:=by rw[hP]
 have w1:z00.wrap ((mid:Int) - a)=((mid - a:Nat):Int):=by rw[aJ];omega
 have w2:z00.wrap ((b:Int) - mid)=((b - mid:Nat):Int):=by rw[aJ];omega
 have w3:(((b - a:Nat):Int)).tdiv 8=(((b - a)/8:Nat):Int):=rfl;have w4:z00.wrap (((b - a)/8:Nat):Int)=(((b - a)/8:Nat):Int):=aJ;have w5:z00.wrap ((mid:Int)+1)=((mid+1:Nat):Int):=aJ;by_cases hm:mid - a<b - mid
 ·have p2:NC N d4.toList ((a:Int),(mid:Int),(lim:Int),24,()):=zM g1 (by omega) (by omega) (by omega) hl g4
  have hs:=wZ d4 a mid lim true true g1 (by omega) g4
  unfold G6;simp only[go_sem,seval,h0,h1,h2,h3,h4,h12,h13,mv,jo,je,p1,wX,wY,e1,e2,e3,w1,w2,w3,w4,w5,hm,p2,AZ,<- hn2,g3,z02,z06];refine hq1 hm _ ?_;simp only[go_sem,seval,L8]
 ·have p2:NC N d4.toList (((mid+1:Nat):Int),(b:Int),(lim:Int),24,()):=zM (by omega) (by omega) (by omega) (by omega) hl g5
  have hs:=wZ d4 (mid+1) b lim true true (by omega) (by omega) g5
  unfold G6;simp only[go_sem,seval,h0,h1,h2,h3,h4,h12,h13,mv,jo,je,p1,wX,wY,e1,e2,e3,w1,w2,w3,w4,w5,hm,p2,AZ,<- hn2,g3,z02,z06];refine hq2 hm _ ?_;simp only[go_sem,seval,L8]
def tY(X:Array Fk)(a b pv lim:Nat)(wb wp:Bool):Array Fk:=
 if a>0&& !lt X[a - 1]! X[pv]! then
  match Sort.partitionEqual lt X a b pv with
  |(mid,d4)=>if _h:a<mid/\mid<=b then Sort.pdq lt d4 mid b lim wb wp else d4
 else
  match Sort.partition lt X a b pv with
  |(mid,ap,d4)=>
   if _h:a<=mid/\mid<b then
    if mid - a<b - mid then Sort.pdq lt (Sort.pdq lt d4 a mid lim true true) (mid+1) b lim (decide (mid - a≥(b - a)/8)) ap
    else Sort.pdq lt (Sort.pdq lt d4 (mid+1) b lim true true) a mid lim (decide (b - mid≥(b - a)/8)) ap
   else d4
def VX(R:Array Fk)(a b lim n:Nat)(Q:Ex->Fr->List ay->Prop):Prop:= ∀ e,(e= .exit 1\/e= .norm)->∀ (τ':Fr) (a' b':Nat) (wb' wp':Bool) (Y:Array Fk),L8 τ' a' b' lim wb' wp' n->(a'<=b'/\b'<=n/\b' - a'<b - a)->(Y.size=n/\Sort.Below lt a' b' Y)->Sort.pdq lt Y a' b' lim wb' wp'=R->Q e τ' [mv Y]
theorem wtl(N:Nat)(n0:Nat)(hn:n0=1)(X:Array Fk)(a b pv lim n:Nat)(wb wp:Bool)(ha:a<=pv)(hp:pv<b)(hN:b - a<=N)(hb:b<=n)(hn2:n=X.size)(hX:n<65536)(hl:lim<64)(hB:Sort.Below lt a b X)
  (R:Array Fk) (hR:tY X a b pv lim wb wp=R) (τ:Fr) (h:L8 τ a b lim wb wp n) (h12:Sx.look 12 τ= .int .i64 ((b - a:Nat):Int)) (h13:Sx.look 13 τ= .int .i64 pv)
  {Q:Ex->Fr->List ay->Prop} (hq:VX R a b lim n Q):JC.wp (Gq N) n0 G7 Q τ [mv X]:=by
 subst hn;obtain⟨⟨h0,h1,h2⟩,⟨h4,h3⟩,h10,h11⟩:=h;have hpart:¬ (a>0/\lt X[a - 1]! X[pv]! =false)->∀ τ':Fr,Sx.look 0 τ'= .vec 0 n->Sx.look 1 τ'= .int .i64 a->Sx.look 2 τ'= .int .i64 b->Sx.look 4 τ'=cF->Sx.look 3 τ'= .int .i64 lim->Sx.look 12 τ'= .int .i64 ((b - a:Nat):Int)->Sx.look 13 τ'= .int .i64 pv->
   JC.wp (Gq N) 1 G6 Q τ' [mv X]:=λhc τ' q0 q1 q2 q4 q3 q12 q13=>by
  obtain⟨⟨mid,ap,d4⟩,hP⟩:∃ p,p=Sort.partition lt X a b pv:=⟨_,rfl⟩;obtain⟨g1,g2,g3,g4,g5,g6,g7⟩:=Sort.round_part jF (Sort.partition_holds lt) ha hp (by omega) hB hP.symm
  unfold tY at hR;rw[if_neg (by simp only[z05,decide_eq_true_eq,z0o];exact hc),<- hP] at hR
  simp only at hR;rw[dif_pos ⟨g1,g2⟩] at hR;have so:=λa' b' l u v=>Sort.pdq_holds Sort.insertionSort_holds Sort.heapSort_holds Sort.partialInsertionSort_holds (Sort.partition_holds lt) (Sort.partitionEqual_holds lt) Sort.reverseRange_holds jF d4 a' b' l u v;refine wpt N 1 rfl X a b pv lim n ha hp hN hb hn2 hX hl hB mid ap d4 hP.symm τ' q0 q1 q2 q4 q3 q12 q13 (λhm O2 hτ=> ?_) (λhm O2 hτ=> ?_)
  ·rw[if_pos hm] at hR;obtain⟨s1,s2⟩:=so a mid lim true true g1 (by omega) g4
   exact hq _ (.inr rfl) O2 _ _ _ _ _ hτ ⟨by omega,hb,by omega⟩ ⟨by rw[s1.1,g3,hn2],(g6 _ s1 s2).1⟩ hR
  ·rw[if_neg hm] at hR;obtain⟨s1,s2⟩:=so (mid+1) b lim true true (by omega) (by omega) g5
   exact hq _ (.inr rfl) O2 _ _ _ _ _ hτ ⟨by omega,by omega,by omega⟩ ⟨by rw[s1.1,g3,hn2],(g7 _ s1 s2).1⟩ hR
 have r1:pv<n:=by omega
 by_cases h0a:a=0
 ·subst h0a;have e0:((0:Int)< ((0:Nat):Int))=False:=by simp
  unfold G7;simp only[go_sem,seval,h0,h1,h2,h3,h4,h10,h11,h12,h13,mv,jo,je,cZ,rd,r1,bn,aU,gB,<- hn2,z02,z01];refine hpart (λx=>by omega) _ ?_ ?_ ?_ ?_ ?_ ?_ ?_
  all_goals simp only[go_sem,seval]
 ·have e0:((0:Int)< (a:Int))=True:=by simp;omega
  have w1:z00.wrap ((a:Int) - 1)=((a - 1:Nat):Int):=by rw[aJ];omega
  have r2:a - 1<n:=by omega
  have p1:pr4 X.toList ((a:Int),(b:Int),(pv:Int),24,()):=G8 ha hp (by omega) (by omega)
  unfold G7;simp only[go_sem,seval,h0,h1,h2,h3,h4,h10,h11,h12,h13,mv,jo,je,cZ,e0,w1,p1,NJ,NI,rd,r1,r2,bn,aU,gB,<- hn2,z02,z01];refine⟨λhl=> ?_,λhl=> ?_⟩
  ·have hf:lt X[a - 1]! X[pv]! =false:=by simpa using hl
   obtain⟨⟨mid,d4⟩,hP⟩:∃ p,p=Sort.partitionEqual lt X a b pv:=⟨_,rfl⟩;obtain⟨g1,g2,g3,g4,_⟩:=Sort.round_eq jF (Sort.partitionEqual_holds lt) (by omega) ha hp (by omega) hB hf hP.symm
   unfold tY at hR;rw[if_pos (by simp only[z05,decide_eq_true_eq,z0o];exact⟨by omega,hf⟩),<- hP] at hR
   simp only at hR;rw[dif_pos ⟨g1,g2⟩] at hR;rw[<- hP];refine hq _ (.inl rfl) _ mid b wb wp d4 ?_ ⟨g2,hb,by omega⟩ ⟨g3.trans hn2.symm,g4⟩ hR
   simp only[go_sem,seval,L8]
  ·refine hpart (λx=>by rw[x.2] at hl;cases hl) _ ?_ ?_ ?_ ?_ ?_ ?_ ?_
   all_goals simp only[go_sem,seval]
def zN(X:Array Fk)(a b pv:Nat)(hint:Sort.Hint)(lim:Nat)(wb wp:Bool):Array Fk:=
 let pi:=if wb&&wp&&hint= .increasing then Sort.partialInsertionSort lt X a b else(X,false)
 if pi.2 then pi.1 else tY pi.1 a b pv lim wb wp
theorem Ht{X:Array Fk}{a b pv:Nat}{hint:Sort.Hint}{lim:Nat}{wb wp:Bool}(h:(wb&&wp&&decide (hint= .increasing))=true):
  zN X a b pv hint lim wb wp=if (Sort.partialInsertionSort lt X a b).2=true then(Sort.partialInsertionSort lt X a b).1 else tY (Sort.partialInsertionSort lt X a b).1 a b pv lim wb wp:=by
 unfold zN;simp only[h,if_true]
theorem Hu{X:Array Fk}{a b pv:Nat}{hint:Sort.Hint}{lim:Nat}{wb wp:Bool}(h:¬ (wb&&wp&&decide (hint= .increasing))=true):
  zN X a b pv hint lim wb wp=tY X a b pv lim wb wp:=by
 unfold zN;simp only[if_neg h];rfl
theorem Hw(h:Sort.Hint):(dZ h=1)=(h= .increasing):=by cases h<;>simp[dZ]
theorem xg(h:Sort.Hint):(dZ h=2)=(h= .decreasing):=by cases h<;>simp[dZ]
theorem wmd(N:Nat)(n0:Nat)(hn:n0=1)(X:Array Fk)(a b pv lim n:Nat)(hint:Sort.Hint)(wb wp:Bool)(ha:a<=pv)(hp:pv<b)(hN:b - a<=N)(hb:b<=n)(hn2:n=X.size)(hX:n<65536)(hl:lim<64)(hB:Sort.Below lt a b X)
  (R:Array Fk) (hR:zN X a b pv hint lim wb wp=R) (τ:Fr) (h:L8 τ a b lim wb wp n) (h12:Sx.look 12 τ= .int .i64 ((b - a:Nat):Int)) (h13:Sx.look 13 τ= .int .i64 pv) (VY:Sx.look 14 τ= .int .i64 (dZ hint))
  {Q:Ex->Fr->List ay->Prop} (hr:∀ τ',Q .ret τ' [mv R]) (hq:VX R a b lim n Q):JC.wp (Gq N) n0 Dc Q τ [mv X]:=by
 subst hn;obtain⟨⟨h0,h1,h2⟩,⟨h4,h3⟩,h10,h11⟩:=h;by_cases hc:(wb&&wp&&decide (hint= .increasing))=true
 ·rw[Ht hc] at hR;simp only[z05,decide_eq_true_eq] at hc;obtain⟨⟨rfl,rfl⟩,rfl⟩:=hc;have p1:Df 1 X.toList ((a:Int),(b:Int),24,()):=ql 1 (by omega) (by omega) (by omega)
  have st:=Sort.partialInsertionSort_holds jF X a b (by omega) (by omega) hB
  have e1:dZ .increasing=1:=rfl;rw[e1] at VY;generalize hpi:Sort.partialInsertionSort lt X a b=pi at hR st;have hb2:Hf X.toList ((a:Int),(b:Int),24,())=pi.2:=by rw[Ho,hpi]
  have hb1:He X.toList ((a:Int),(b:Int),24,())=pi.1.toList:=by rw[Hl,hpi]
  unfold Dc;simp only[go_sem,seval,h0,h1,h2,h3,h4,h10,h11,h12,h13,VY,mv,jo,je,p1,hb1,hb2,<- hn2];refine⟨λhl2=> ?_,λhl2=> ?_⟩
  ·rw[if_pos hl2] at hR;subst hR;exact hr _
  ·rw[if_neg (by rw[hl2];simp)] at hR
   refine wtl N 1 rfl pi.1 a b pv lim n true true ha hp hN hb (by rw[st.1.1,hn2]) hX hl (hB.perm (by omega) st.1) R hR _ ?_ ?_ ?_ hq
   ·simp only[go_sem,seval,L8]
   ·simp only[go_sem,seval]
   ·simp only[go_sem,seval]
 ·rw[Hu hc] at hR;have key:∀ τ':Fr,L8 τ' a b lim wb wp n->Sx.look 12 τ'= .int .i64 ((b - a:Nat):Int)->Sx.look 13 τ'= .int .i64 pv->JC.wp (Gq N) 1 G7 Q τ' [mv X]:=
   λτ' g g12 g13=>wtl N 1 rfl X a b pv lim n wb wp ha hp hN hb hn2 hX hl hB R hR τ' g g12 g13 hq
  cases wb with
  |false=>
   unfold Dc;simp only[go_sem,seval,h0,h1,h2,h3,h4,h10,h11,h12,h13,VY,mv];refine key _ ?_ ?_ ?_
   ·simp only[go_sem,seval,L8]
   ·simp only[go_sem,seval]
   ·simp only[go_sem,seval]
  |true=>
   cases wp with
   |false=>
    unfold Dc;simp only[go_sem,seval,h0,h1,h2,h3,h4,h10,h11,h12,h13,VY,mv];refine key _ ?_ ?_ ?_
    ·simp only[go_sem,seval,L8]
    ·simp only[go_sem,seval]
    ·simp only[go_sem,seval]
   |true=>
    have hne:(dZ hint=1)=False:=by rw[Hw];simpa using hc
    unfold Dc;simp only[go_sem,seval,h0,h1,h2,h3,h4,h10,h11,h12,h13,VY,hne,mv];refine key _ ?_ ?_ ?_
    ·simp only[go_sem,seval,L8]
    ·simp only[go_sem,seval]
    ·simp only[go_sem,seval]
def pvM(X:Array Fk)(a b lim:Nat)(wb wp:Bool):Array Fk:=
 if (Sort.choosePivot lt X a b).2= .decreasing then zN (Sort.reverseRange X a b) a b ((b - 1) - ((Sort.choosePivot lt X a b).1 - a)) .increasing lim wb wp
 else zN X a b (Sort.choosePivot lt X a b).1 (Sort.choosePivot lt X a b).2 lim wb wp
theorem wpv(N:Nat)(n0:Nat)(hn:n0=1)(X:Array Fk)(a b lim n:Nat)(wb wp:Bool)(hab:a<b)(hN:b - a<=N)(hb:b<=n)(hn2:n=X.size)(hX:n<65536)(hl:lim<64)(hB:Sort.Below lt a b X)
  (R:Array Fk) (hR:pvM X a b lim wb wp=R) (τ:Fr) (h:L8 τ a b lim wb wp n) (h12:Sx.look 12 τ= .int .i64 ((b - a:Nat):Int))
  {Q:Ex->Fr->List ay->Prop} (hr:∀ τ',Q .ret τ' [mv R]) (hq:VX R a b lim n Q):JC.wp (Gq N) n0 Nz Q τ [mv X]:=by
 subst hn;obtain⟨⟨h0,h1,h2⟩,⟨h4,h3⟩,h10,h11⟩:=h;have p1:Df 1 X.toList ((a:Int),(b:Int),24,()):=ql 1 (by omega) (by omega) (by omega)
 obtain⟨c1,c2⟩:=Sort.choosePivot_holds lt X a b hab;unfold pvM at hR;generalize hC:Sort.choosePivot lt X a b=c at hR c1 c2;have hb2:VT X.toList ((a:Int),(b:Int),24,())=((c.1:Int),dZ c.2):=by rw[NH,hC]
 by_cases hd:c.2= .decreasing
 ·rw[if_pos hd] at hR;have st:=Sort.reverseRange_holds X a b (by omega) (by omega)
  have w1:z00.wrap ((b:Int) - 1)=((b - 1:Nat):Int):=by rw[aJ];omega
  have w2:z00.wrap ((c.1:Int) - a)=((c.1 - a:Nat):Int):=by rw[aJ];omega
  have w3:z00.wrap (((b - 1:Nat):Int) - ((c.1 - a:Nat):Int))=((b - 1 - (c.1 - a):Nat):Int):=by rw[aJ];omega
  have hd':(dZ c.2=2)=True:=by rw[xg];simpa using hd
  unfold Nz;simp only[go_sem,seval,h0,h1,h2,h3,h4,h10,h11,h12,mv,jo,je,p1,hb2,hd',NG,w1,w2,w3,<- hn2];refine wmd N 1 rfl (Sort.reverseRange X a b) a b (b - 1 - (c.1 - a)) lim n .increasing wb wp (by omega) (by omega) hN hb (by rw[st.1,hn2]) hX hl (hB.perm (by omega) st) R hR _ ?_ ?_ ?_ ?_ hr hq
  ·simp only[go_sem,seval,L8]
  ·simp only[go_sem,seval]
  ·simp only[go_sem,seval]
  ·simp only[go_sem,seval,dZ]
 ·rw[if_neg hd] at hR;have hd':(dZ c.2=2)=False:=by rw[xg];simpa using hd
  unfold Nz;simp only[go_sem,seval,h0,h1,h2,h3,h4,h10,h11,h12,mv,jo,je,p1,hb2,hd',<- hn2];refine wmd N 1 rfl X a b c.1 lim n c.2 wb wp c1 c2 hN hb hn2 hX hl hB R hR _ ?_ ?_ ?_ ?_ hr hq
  ·simp only[go_sem,seval,L8]
  ·simp only[go_sem,seval]
  ·simp only[go_sem,seval]
  ·simp only[go_sem,seval,dZ]
theorem NQ{X:Array Fk}{a b limit:Nat}{wb wp:Bool}(h12:¬ b - a<=12)(h0:¬ limit=0):Sort.pdq lt X a b limit wb wp=pvM (if (!wb)=true then Sort.breakPatterns X a b else X) a b (if (!wb)=true then limit - 1 else limit) wb wp:=by
 rw[Sort.pdq,if_neg h12,if_neg h0];unfold pvM;by_cases hd:(Sort.choosePivot lt (if (!wb)=true then Sort.breakPatterns X a b else X) a b).2= .decreasing
 ·rw[if_pos hd];simp only[hd,if_true];rfl
 ·rw[if_neg hd];simp only[hd,if_false];rfl
theorem Hy(N:Nat)(ih:bQ Try.prog main Fz (Gq N))(X:Array Fk)(a b limit:Nat)(hab:a<=b)(hN:b - a<=N)(hb:b<=X.size)(hX:X.size<65536)(hl:limit<64)(hB:Sort.Below lt a b X):
  bC Try.prog main Fz 46 [.vec 0 X.size, .int .i64 a, .int .i64 b, .int .i64 limit,cF] [mv X] (.cu []) [mv (Sort.pdq lt X a b limit true true)]:=by
 refine wkA j46 [] 148 ih rfl ?_;obtain⟨R,hR⟩:∃ R,R=Sort.pdq lt X a b limit true true:=⟨_,rfl⟩;rw[<- hR];unfold j46;simp only[go_sem,seval,mv];refine bU (Nat×Nat×Nat×Bool×Bool×Array Fk) (λs=>[.int .i64 s.2.1, .int .i64 s.1, .int .i64 s.2.2.1, .bool s.2.2.2.1, .bool s.2.2.2.2.1]) (λs=>[mv s.2.2.2.2.2]) (λs=>(s.1<=s.2.1/\s.2.1 - s.1<=N/\s.2.1<=X.size)/\(s.2.2.1<64/\s.2.2.2.2.2.size=X.size/\Sort.Below lt s.1 s.2.1 s.2.2.2.2.2)/\Sort.pdq lt s.2.2.2.2.2 s.1 s.2.1 s.2.2.1 s.2.2.2.1 s.2.2.2.2.1=R) (λs=>s.2.1 - s.1) (a,b,limit,true,true,X) ⟨⟨hab,hN,hb⟩,⟨hl,rfl,hB⟩,hR.symm⟩ ?_ rfl ?_
 ·simp only[go_sem,seval]
 rintro⟨i,j,lim,wb,wp,Y⟩ ⟨⟨k0,k1,k2⟩,⟨k3,k4,k5⟩,k6⟩;simp only at k0 k1 k2 k3 k4 k5 k6;have w1:z00.wrap ((j:Int) - i)=((j - i:Nat):Int):=by rw[aJ];omega
 have q0:Df 0 Y.toList ((i:Int),(j:Int),24,()):=ql 0 (by omega) (by omega) (by omega)
 by_cases h12:j - i<=12
 ·have e1:(((j - i:Nat):Int)<=12)=True:=by simp;omega
  have e:R=Sort.insertionSort lt Y i j:=by rw[<- k6,Sort.pdq,if_pos h12]
  rw[AY];simp only[go_sem,seval,w1,e1,jo,je,q0,ND,k4,mv,e]
 have e1:(((j - i:Nat):Int)<=12)=False:=by simp;omega
 have q1:Df 1 Y.toList ((i:Int),(j:Int),24,()):=ql 1 (by omega) (by omega) (by omega)
 by_cases h0:lim=0
 ·subst h0;have e:R=Sort.heapSort lt Y i j:=by rw[<- k6,Sort.pdq,if_neg h12,if_pos rfl]
  have e2:(((0:Nat):Int)=0)=True:=by simp
  rw[AY];simp only[go_sem,seval,w1,e1,jo,je,q1,Hg,k4,mv,e]
 have e2:((lim:Int)=0)=False:=by simp;omega
 rw[NQ h12 h0] at k6;cases wb with
 |true=>
  rw[AY];simp only[go_sem,seval,w1,e1,e2,mv];refine wpv N _ rfl Y i j lim X.size true wp (by omega) k1 k2 k4.symm (by omega) k3 k5 R k6 _ ?_ ?_ ?_ ?_
  ·simp only[go_sem,seval,L8]
  ·simp only[go_sem,seval]
  ·intro τ';simp only[go_sem,seval,mv]
  ·intro e he τ' a' b' wb' wp' V hL h1 h2 h3;obtain⟨⟨g0,g1,g2⟩,⟨g4,g3⟩,g10,g11⟩:=hL;have hfin:∃ s:Nat×Nat×Nat×Bool×Bool×Array Fk,((s.1<=s.2.1/\s.2.1 - s.1<=N/\s.2.1<=X.size)/\(s.2.2.1<64/\s.2.2.2.2.2.size=X.size/\Sort.Below lt s.1 s.2.1 s.2.2.2.2.2)/\Sort.pdq lt s.2.2.2.2.2 s.1 s.2.1 s.2.2.1 s.2.2.2.1 s.2.2.2.2.1=R)/\s.2.1 - s.1<j - i/\s=(a',b',lim,wb',wp',V):=
    ⟨_,⟨⟨h1.1,by have:=h1.2.2;simp only;omega,h1.2.1⟩,⟨by simp only;omega,h2.1,h2.2⟩,h3⟩,h1.2.2,rfl⟩
   obtain⟨s,f1,f2,rfl⟩:=hfin;rcases he with rfl|rfl
   ·simp only[go_sem,seval,mv];refine⟨_,f1,f2,?_⟩;simp only[go_sem,seval,g0,g1,g2,g4,g3,g10,g11]
   ·simp only[go_sem,seval,mv];refine⟨_,f1,f2,?_⟩;simp only[go_sem,seval,g0,g1,g2,g4,g3,g10,g11]
 |false=>
  have q8:Df 8 Y.toList ((i:Int),(j:Int),24,()):=ql 8 (by omega) (by omega) (by omega)
  have st:=Sort.breakPatterns_holds Y i j (by omega) (by omega)
  have w2:z00.wrap ((lim:Int) - 1)=((lim - 1:Nat):Int):=by rw[aJ];omega
  rw[AY];simp only[go_sem,seval,w1,e1,e2,w2,jo,je,q8,Di,k4,mv];refine wpv N _ rfl (Sort.breakPatterns Y i j) i j (lim - 1) X.size false wp (by omega) k1 k2 (by rw[st.1,k4]) (by omega) (by omega) (k5.perm (by omega) st) R k6 _ ?_ ?_ ?_ ?_
  ·simp only[go_sem,seval,L8]
  ·simp only[go_sem,seval]
  ·intro τ';simp only[go_sem,seval,mv]
  ·intro e he τ' a' b' wb' wp' V hL h1 h2 h3;obtain⟨⟨g0,g1,g2⟩,⟨g4,g3⟩,g10,g11⟩:=hL;have hfin:∃ s:Nat×Nat×Nat×Bool×Bool×Array Fk,((s.1<=s.2.1/\s.2.1 - s.1<=N/\s.2.1<=X.size)/\(s.2.2.1<64/\s.2.2.2.2.2.size=X.size/\Sort.Below lt s.1 s.2.1 s.2.2.2.2.2)/\Sort.pdq lt s.2.2.2.2.2 s.1 s.2.1 s.2.2.1 s.2.2.2.1 s.2.2.2.2.1=R)/\s.2.1 - s.1<j - i/\s=(a',b',lim - 1,wb',wp',V):=
    ⟨_,⟨⟨h1.1,by have:=h1.2.2;simp only;omega,h1.2.1⟩,⟨by simp only;omega,h2.1,h2.2⟩,h3⟩,h1.2.2,rfl⟩
   obtain⟨s,f1,f2,rfl⟩:=hfin;rcases he with rfl|rfl
   ·simp only[go_sem,seval,mv];refine⟨_,f1,f2,?_⟩;simp only[go_sem,seval,g0,g1,g2,g4,g3,g10,g11]
   ·simp only[go_sem,seval,mv];refine⟨_,f1,f2,?_⟩;simp only[go_sem,seval,g0,g1,g2,g4,g3,g10,g11]
theorem QT(N:Nat):bQ Try.prog main Fz (Gq N):=by
 induction N using Nat.strongRecOn with
 |ind N ih=>
  have key:bQ Try.prog main Fz (FH.sv 46 TP 3 wC (.four .int .int .int .NK) .unit (NC N) (λ_ _=>()) Dh Gp):=FH.jf (by decide) (by kernel_rfl) (λs y h=>by obtain⟨a,b,l,rfl,h1,h2,h3,hB⟩:=Hr h;exact Hy (b - a) (ih _ h1.2) s.toArray a b l h1.1 (z03 _) h2.1 h2.2 h3 hB) QS
  exact key
def Gsf(f:FuncId)(a:List SV)(m:List ay):Sx.Call:=(FH.sv 46 TP 3 wC (.four .int .int .int .NK) .unit (NC 65536) (λ_ _=>()) Dh Gln) f a m
theorem VZ:type_of% (nq Gsf.eq_1):=nq Gsf.eq_1
theorem V3:bQ Try.prog main Fz Gsf:=FH.jf (by decide) (by kernel_rfl) (λs y h=>by obtain⟨a,b,l,rfl,h1,h2,h3,hB⟩:=Hr h;exact Hy (b - a) (QT _) s.toArray a b l h1.1 (z03 _) h2.1 h2.2 h3 hB) Hz
theorem NR(X:Array Fk)(hX:X.size<65536):bC Try.prog main Fz 23 [.vec 0 X.size,cF] [mv X] (.cu []) [mv (Sort.sort lt X)]:=by
 refine wkA j23 [] 14 V3 rfl ?_;have w1:z0a.wrap (X.size:Int)=X.size:=z0f _ (by omega)
 have hb:=QU hX;have p1:NC 65536 X.toList (((0:Nat):Int),(X.size:Int),(Sort.bitsLen X.size:Int),24,()):=zM (z0k _) (by omega) (z03 _) hX (by omega) (.inl rfl)
 have e1:Dh X.toList (0,(X.size:Int),(Sort.bitsLen X.size:Int),24,())=(Sort.sort lt X).toList:=rfl;unfold j23;simp only[go_sem,seval,mv,VZ,HY,w1,e1];exact⟨⟨z01 _,by omega⟩,p1⟩
theorem uniq:∀ (r l:List Fk),l.Perm r->l.Pairwise (λx y=>lt y x=false)->r.Pairwise (λx y=>x.pos.val<y.pos.val)->l=r
 |[],l,h,_,_=>h.eq_nil
 |y::r,l,h,hl,hr=>by
  cases l with
  |nil=>exact absurd h.symm.eq_nil (by simp)
  |cons x l=>
   have hx:x=y:=by
    have hm:=h.symm.subset (z1h (a:=y) (l:=r));have hm2:=h.subset (z1h (a:=x) (l:=l));rcases z0e.1 hm with e|hm
    ·exact e.symm
    ·rcases z0e.1 hm2 with e|hm2
     ·exact e
     ·have h1:=(z0n.1 hl).1 y hm;have h2:=(z0n.1 hr).1 x hm2;simp only[lt,decide_eq_false_iff_not] at h1;exact absurd h2 h1
   subst hx;rw[uniq r l ((List.perm_cons x).1 h) (z0n.1 hl).2 (z0n.1 hr).2]
theorem MP(l r:List Fk)(hp:l.Perm r)(hs:r.Pairwise λx y=>x.pos.val<y.pos.val):(Sort.sort lt l.toArray).toList=r:=by
 obtain⟨h1,h2⟩:=Sort.sort_holds (Sort.pdq_holds Sort.insertionSort_holds Sort.heapSort_holds Sort.partialInsertionSort_holds (Sort.partition_holds lt) (Sort.partitionEqual_holds lt) Sort.reverseRange_holds) jF l.toArray;generalize Sort.sort lt l.toArray=Z at h1 h2;have hz:Z.size=l.toArray.size:=h1.1;refine uniq r Z.toList ?_ ?_ hs
 ·have h3:=h1.2.2;rw[z1e,show l.toArray.size=Z.size from hz.symm,z1e] at h3
  exact h3.trans hp
 ·rw[List.pairwise_iff_getElem];intro i j hi hj hij;have:=h2 i j (z0k _) hij (by rw[<- hz];simpa using hj)
  have hi':i<Z.size:=by simpa using hi
  have hj':j<Z.size:=by simpa using hj
  simpa[hi',hj'] using this
end Go.Proofs.Ytpajfggdnobheaa.rH
namespace Go.Proofs.Ytpajfggdnobheaa.Sp
variable {main:Bool} {Fz:Nat->Prop}
open D Tr C Fu Fa
def ML:(Int->Cl)->List Ms->Int->Cl
 |f,[]=>f
 |f,x::l=>ML (wK f x) l
theorem Qo:∀ (a b:List Ms) (f:Int->Cl),ML f (a++b)=ML (ML f a) b
 |[],_,_=>rfl
 |x::a,b,f=>Qo a b _
theorem Qp:∀ (a b:List Ms) (f:Int->Cl),uN f (a++b)=uN f a++uN (ML f a) b
 |[],_,_=>rfl
 |x::a,b,f=>by simp only[z0p,uN,ML];rw[Qp a b,z1k]
theorem X6:∀ (a b:List Ms) (f:Int->Cl),okH f a->okH (ML f a) b->okH f (a++b)
 |[],_,_,_,h=>h
 |x::a,b,f,h,h2=>⟨h.1,h.2.1,h.2.2.1,X6 a b _ h.2.2.2 h2⟩
theorem MN(n j:Nat)(a b:List Ms):Az n j (a++b)=Az n j a++Az n j b:=z0r ..
variable {l:List Ev}
theorem CS(hok:(bH l).2=0)(n j:Nat):∀ i,i<=l.length->
  (∀ x:Nat,x%n=j->ML (λ_=>fK) (Az n j (allM l i)) (x:Int)=eX l i x)/\uN (λ_=>fK) (Az n j (allM l i))=(dD l i).filter (λf=>decide (f.var.toNat%n=j))/\okH (λ_=>fK) (Az n j (allM l i))
 |0,_=>⟨λx _=>rfl,rfl,trivial⟩
 |i+1,hi=>by
  obtain⟨h1,h2,h3⟩:=CS hok n j i (by omega)
  obtain⟨b1,b2,b3,b4⟩:=(jl _).1 (uO hok i (by omega))
  by_cases ha:cO (l.getD i bP.bg)=true
  ·have apE:(((l.getD i bP.bg).obj.toNat:Nat):Int)=(l.getD i bP.bg).obj:=by omega
   by_cases hj:(l.getD i bP.bg).obj.toNat%n=j
   ·have ea:Az n j (allM l (i+1))=Az n j (allM l i)++[lW l i]:=by
     rw[allM,if_pos ha,MN]
     congr 1
     simp only[Az,lW,z0j,z0l,hj,decide_true,if_true]
    have hx:=h1 _ hj;rw[apE] at hx;have hkk:hK (ML (λ_=>fK) (Az n j (allM l i))) (lW l i)=jm l i:=by rw[jm,if_pos ha,hK,lW,hx]
    rw[ea];refine⟨λx hxj=> ?_,?_,X6 _ _ _ h3 ⟨?_,b1,b2,trivial⟩⟩
    ·rw[Qo];show wK _ (lW l i) (x:Int)=_;rw[wK,eX,if_pos ha];by_cases e:x=(l.getD i bP.bg).obj.toNat
     ·rw[if_pos (by rw[e,apE];rfl),if_pos e,h1 x hxj];rfl
     ·rw[if_neg (λh=>e (by have:(x:Int)=(l.getD i bP.bg).obj:=h;omega)),if_neg e,h1 x hxj]
    ·rw[Qp,h2,dD,z0r]
     congr 1
     show PG _ (lW l i)++[]=_;rw[z0c,PG,hkk];split
     ·rfl
     ·simp only[lW,z0j,z0l,hj,decide_true,if_true]
    ·rw[show(lW l i).e.obj=(l.getD i bP.bg).obj from rfl,hx]
     exact(E8 hok i (by omega) _).1
   ·have ea:Az n j (allM l (i+1))=Az n j (allM l i):=by rw[allM,if_pos ha,MN];simp only[Az,lW,z0j,z0l,hj,decide_false,z1i,if_false,z0c]
    rw[ea];refine⟨λx hxj=> ?_,?_,h3⟩
    ·rw[eX,if_pos ha,if_neg (λe=>hj (by rw[<- e];exact hxj)),h1 x hxj]
    ·rw[h2,dD,z0r];split
     ·simp only[z0l,z0c]
     ·simp only[z0j,z0l,hj,decide_false,z1i,if_false,z0c]
  ·have ea:Az n j (allM l (i+1))=Az n j (allM l i):=by rw[allM,if_neg ha,z0c]
   rw[ea];refine⟨λx hxj=> ?_,?_,h3⟩
   ·rw[eX,if_neg ha,h1 x hxj]
   ·rw[h2,dD,jm,if_neg ha,if_pos rfl,z0c]
theorem Gh:∀ i,(allM l i).length<=i
 |0=>z03 _
 |i+1=>by have:=Gh i;rw[allM,z09];split<;>simp<;>omega
theorem MO(hok:(bH l).2=0)(n j:Nat):(Az n j (allM l l.length)).length<=1000:=by have h1:=jE hok;have h2:=Gh (l:=l) l.length;have h3:=List.length_filter_le (λm:Ms=>decide (m.e.obj.toNat%n=j)) (allM l l.length);show(List.filter _ _).length<=_;omega
theorem adC(hok:(bH l).2=0)(n j:Nat):wL n l j=(dD l l.length).filter (λf=>decide (f.var.toNat%n=j)):=(CS hok n j _ (z03 _)).2.1
theorem Gj:∀ i,(∀ f∈dD l i,0<=f.at'/\f.at'<i)/\(dD l i).Pairwise λx y=>x.at'<y.at'
 |0=>⟨λf hf=>by simp[dD] at hf,List.Pairwise.nil⟩
 |i+1=>by
  obtain⟨h1,h2⟩:=Gj i;rw[dD];split
  ·rw[z0c];exact⟨λf hf=>by have:=h1 f hf;omega,h2⟩
  ·refine⟨λf hf=> ?_,List.pairwise_append.2 ⟨h2,List.pairwise_singleton ..,λa ha b hb=> ?_⟩⟩
   ·rcases z0b.1 hf with hf|hf
    ·have:=h1 f hf;omega
    ·simp only[z1g] at hf;subst hf;simp only;omega
   ·simp only[z1g] at hb;subst hb;exact(h1 a ha).2
theorem adD{α:Type}(f:α)(k:Nat)(G:Nat->List α):∀ got:List Nat,got.Nodup->k∈got->(got.flatMap λj=>if k=j then f::G j else G j).Perm (f::got.flatMap G):=by
 intro got hn hk;obtain⟨s,t,rfl⟩:=List.append_of_mem hk;have h1:∀ r:List Nat,k∉r->(r.flatMap λj=>if k=j then f::G j else G j)=r.flatMap G:=by
  intro r hr
  induction r with
  |nil=>rfl
  |cons x r ih=>
   simp only[z0t];rw[if_neg (λe=>hr (by rw[e];simp)),ih (λh=>hr (by simp[h]))]
 have hd:=List.nodup_append.1 hn;have hs:k∉s:=λh=>hd.2.2 k h k (by simp) rfl
 have ht:k∉t:=(z1q.1 hd.2.1).1;rw[z1b,z1b,z0t,z0t,h1 s hs,h1 t ht,if_pos rfl,z0p];exact List.perm_middle
theorem Qq{α:Type}(κ:α->Nat)(got:List Nat)(hn:got.Nodup):∀ L:List α,(∀ f∈L,κ f∈got)->(got.flatMap λj=>L.filter λf=>decide (κ f=j)).Perm L
 |[],_=>by simp
 |f::L,h=>by
  have ih:=Qq κ got hn L λx hx=>h x (by simp[hx])
  have e:(λj=>(f::L).filter λf=>decide (κ f=j))=λj=>if κ f=j then f::(L.filter λf=>decide (κ f=j)) else L.filter λf=>decide (κ f=j):=by
   funext j
   rw[z0j];simp only[decide_eq_true_eq]
  rw[e];exact(adD f (κ f) _ got hn (h f (by simp))).trans (ih.cons f)
theorem aiR{n:Nat}:∀ {got:List Nat},got.Nodup->(∀ g∈got,g<n)->got.length=n->∀ k,k<n->k∈got:=by
 intro got h1 h2 h3 k hk;by_cases h:k∈got
 ·exact h
 ·exfalso;have hsub:(k::got) ⊆ z1f n:=λx hx=>by
   rcases z0e.1 hx with rfl|hx
   ·exact z0y.2 hk
   ·exact z0y.2 (h2 x hx)
  have:=(z1q.2 ⟨h,h1⟩).length_le_of_subset hsub;simp at this;omega
theorem aaM(hok:(bH l).2=0){n:Nat}(hn0:0<n){got:List Nat}(h1:got.Nodup)(h2:∀ g∈got,g<n)(h3:got.length=n):
  (Sort.sort rH.lt ((got.flatMap (wL n l)).map rH.AA).toArray).toList.map rH.wC.aA=(dD l l.length).map dW.aA:=by
 obtain⟨a1,a2⟩:=Gj (l:=l) l.length;have hlen:=jE hok;have hp:(got.flatMap (wL n l)).Perm (dD l l.length):=by have e:wL n l=λj=>(dD l l.length).filter λf=>decide (f.var.toNat%n=j):=funext λj=>adC hok n j;rw[e];exact Qq (λf:Fl=>f.var.toNat%n) got h1 _ λf _=>aiR h1 h2 h3 _ (Nat.mod_lt _ hn0)
 have hs:=rH.MP ((got.flatMap (wL n l)).map rH.AA) ((dD l l.length).map rH.AA) (hp.map _) (by
  rw[List.pairwise_map];refine a2.imp_of_mem fun{x y} hx hy h=> ?_;have hx':=a1 x hx;have hy':=a1 y hy;have e1:(rH.AA x).fl.at'=x.at':=by rw[rH.AB (by omega)]
  have e2:(rH.AA y).fl.at'=y.at':=by rw[rH.AB (by omega)]
  simp only[rH.Fk.fl] at e1 e2;omega)
 rw[hs,List.map_map];refine z19 λf hf=> ?_;have:=a1 f hf;show dW.aA (rH.AA f).fl=_;rw[rH.AB (by omega)]
theorem aiS(hok:(bH l).2=0)(n:Nat)(got:List Nat):(got.flatMap (wL n l)).map dW.aA=((got.flatMap (wL n l)).map rH.AA).map rH.wC.aA:=by rw[List.map_map];refine z19 λf hf=> ?_;obtain⟨j,_,hf⟩:=List.mem_flatMap.1 hf;rw[adC hok] at hf;have:=(Gj (l:=l) l.length).1 f (List.mem_filter.1 hf).1;have hlen:=jE hok;show _=dW.aA (rH.AA f).fl;rw[rH.AB (by omega)]
end Go.Proofs.Ytpajfggdnobheaa.Sp
namespace Go.Sx
open Go
section
variable {F:Nat->Prop} {n:Nat} {d:List Deferred} {H0 X:Nat->Option Obj} {J:Env} {τ:Fr} {m:List ay} {a:Act} {x:OW}
theorem FU{i:Nat}{T T':TypeId}{w:Nat}{l:List SV}(hm:ak m i= .vec T w l)(hi:i<m.length)(j:Nat):aS J j (ak (m.set i (.vec T' w l)) j)=aS J j (ak m j):=by
 rw[oq _ hi];split
 ·rename_i e;subst e;rw[hm];rfl
 ·rfl
theorem Good.pin{wd:World}{i:Nat}{T:TypeId}{w:Nat}{l:List SV}(g:Good J m wd)(hm:ak m i= .vec T w l)(hT:T<tX):Good J (m.set i (.vec (T+tX) w l)) wd:=by
 have hi:i<m.length:=jJ (by rw[hm];nofun)
 refine⟨by simp[g.n],λj=> ?_,λa b x hab h1 h2=> ?_,λa b hb=> ?_,g.hv,g.gl⟩
 ·rw[oq _ hi];split
  ·rename_i e;subst e;obtain⟨xs,h1,h2⟩:fH J j wd (.vec T w l):=hm▸g.res j;exact⟨xs,⟨T, .inr rfl,h1.get hT⟩,h2⟩
  ·exact g.res j
 ·rw[FU hm hi] at h1 h2;exact g.jY a b x hab h1 h2
 ·rw[FU hm hi] at hb;exact g.sep a b hb
theorem TS.pin(h:TS F n d H0 X J τ m a x){i:Nat}{T:TypeId}{w:Nat}{l:List SV}(hm:ak m i= .vec T w l)(hT:T<tX):TS F n d H0 X J τ (m.set i (.vec (T+tX) w l)) a x:=by
 have hi:i<m.length:=jJ (by rw[hm];nofun)
 refine⟨⟨h.g.good.pin hm hT,λj b hb=> ?_,h.g.H,h.g.Ol,h.g.Fl⟩,h.s,h.d,λb o hb=> ?_,h.h⟩
 ·rw[FU hm hi] at hb;exact h.g.own j b hb
 ·obtain⟨h1,h2,h3,h4⟩:=h.x b o hb;exact⟨h1,h2,h3,λj hj=>h4 j (by rw[FU hm hi] at hj;exact hj)⟩
theorem TS.afU(h:TS F n d H0 X J τ m a x){k:Nat}(hk:k<n)(hl:look k τ= .dO)(T:TypeId)(w:Nat):TS F n d H0 X (J.more 0 (.slice none 0 0)) (.put k (.vec m.length 0) τ) (m++[.vec T w []]) a x:=by
 have h3:=h.vec (T:=T) (w:=w) (l:=[]) (v:= .slice none 0 0) (xs:=[]) ⟨by simp, .inl ⟨rfl,rfl⟩⟩ (λj hj=>absurd hj (z0d _)) (λb hb=>by cases hb)
 have hval:a.tmps.getD k undef= .slice none 0 0:=lY (hl▸h.s.sat k);have e:(J.more 0 (.slice none 0 0)).vv m.length= .slice none 0 0:=by simp[Env.more,h.g.good.n]
 exact h3.know hk (y:= .vec m.length 0) ⟨[.slice none 0 0],⟨by rw[h3.g.good.n];simp, .inl ⟨e,rfl⟩,by rw[e]⟩,hval⟩
end
end Go.Sx
section
set_option maxRecDepth 100000
open Go Go.Sx Go.Conc Go.Proofs
namespace Go.Proofs.Ytpajfggdnobheaa.Sp
variable {main:Bool} {Fz:Nat->Prop}
open D Tr C Fu Fa
def Gck(f:FuncId)(a:List SV)(m:List ay):Sx.Call:=(FH.rd 19 (.one fD) (.two .int .int) (λ_=>True) (λy=>(aN y.1).2)<|
 FH.mk 21 .nil (λ_=>True) (λ_=> .ptr 0 [] 0) (λ_=>[.blk 66 (uX.aA (uf 6))]) FH.none) f a m
theorem VO:type_of% (nq Gck.eq_1):=nq Gck.eq_1
theorem VN:bQ Try.prog main Fz Gck:=FH.dM (λy _=>E5 y.1)<|
 FH.ku (λ_ _=>jh (Gv _ _ _) ⟨MZ _ uX _,trivial⟩) (λ_ _=>aer) FH.au
def aql(s:List rH.Fk)(y:Nat×Unit):Prop:=s.length<65536/\y.1=24
def Gst(f:FuncId)(a:List SV)(m:List ay):Sx.Call:=(FH.sv 23 rH.TP 3 rH.wC (.one .NK) .unit aql (λ_ _=>()) (λs _=>(Sort.sort rH.lt s.toArray).toList) FH.none) f a m
theorem aok:type_of% (nq Gst.eq_1):=nq Gst.eq_1
theorem aol:bQ Try.prog main Fz Gst:=FH.jf (by decide) (by kernel_rfl) (λs y h=>by obtain⟨y,⟨⟩⟩:=y;obtain⟨h1,h2⟩:=h;simp only at h1 h2;subst h2;exact rH.NR (main:=main) (Fz:=Fz) s.toArray (by simpa using h1)) FH.au
theorem aom:(Try.prog.info? 23).map (·.bytes)=some 24:=by kernel_rfl
section
variable {n:Nat} {l:List Ev} {End:List Nat->Goroutine->OW->Prop} {H0 X:Nat->Option Obj}
theorem ad4(hn0:1<=n)(hn:n<=8)(hok:(bH l).2=0){J:Env}{a:Act}{x:OW}(hT:TS Fz 102 [] H0 X J (Sx.ig [0,1] [.int .i64 n,fD.aA l] .nil) [] a x):
  TW Try.prog true Fz (dL Try.prog Fz (AQ n l) End) bG Xj 6 j6 (λe a' s' x'=>e= .ret/\∃ cs got J',s'=⟨[],cs,got⟩/\got.length=n/\
   TS Fz 102 [] H0 X J' (Sx.ig [4,5] [.vec 0 (dD l l.length).length, .int .i64 0] .nil) [.vec rH.TP 3 ((dD l l.length).map dW.aA)] a' x') a ⟨QI n l,[],[]⟩ x:=by
 have hlen:=jE hok;have he:(aN l).2.2=0:=by rw[iy];exact hok
 have c1:¬ (n:Int)<1:=by omega
 have c2:¬ (8:Int)<n:=by omega
 unfold j6;refine aX (bM hT FH.au (by rfl) [0,1] [.int .i64 n,fD.aA l] [] ?_ λJ1 a1 x1 h1 _=> ?_)
 ·unfold am0;simp only[go_sem,seval]
 refine aX (bM h1 FH.au (by rfl) [0,1] [.int .i64 n,fD.aA l] [] ?_ λJ2 a2 x2 h2 _=> ?_)
 ·unfold am1;simp only[go_sem,seval,c1,c2]
 refine aX (bM h2 VN (by rfl) [0,1] [.int .i64 n,fD.aA l] [] ?_ λε3 a3 x3 h3 _=> ?_)
 ·unfold am2;simp only[go_sem,seval,VO,he]
 refine aX (jQ h3 FH.au (by rfl) [0,1] [.int .i64 n,fD.aA l] [] ?_ λε4 a4 x4 h4 _ o ho hd=> ?_)
 ·simp only[go_sem,seval]
 obtain⟨iF,hiF,hbF⟩:=Option.map_eq_some_iff.1 aom;refine sQ.mono ?_ (alx (cap:=0) (l:=goA l.length n 0++SQ n l) h4 ho hd (by decide) Try.underlying52 hiF rfl (by omega) (by omega))
 rintro a5 s5 x5 ⟨c0,rfl,h5⟩;refine Behind.C9 h5 FH.au (by rfl) [0,1,8] [.int .i64 n,fD.aA l,dI c0] [] ?_ λε6 a6 x6 h6 _=> ?_
 ·simp only[go_sem,seval]
 refine aX (bM h6 FH.au (by rfl) [0,1,8,9] [.int .i64 n,fD.aA l,dI c0, .dO] [] ?_ λε7 a7 x7 h7 _=> ?_)
 ·unfold aqm;simp only[go_sem,seval]
 have h8:=(h7.afU (k:=9) (by decide) rfl 54 1).C9 (ks:=[0,1,8,9]) (xs:=[.int .i64 n,fD.aA l,dI c0, .vec 0 0]) (by simp only[go_sem,seval])
 refine aX (aX (bM h8 FH.au (by rfl) [0,1,8,9,32,33] [.int .i64 n,fD.aA l,dI c0, .vec 0 0, .int .i64 n, .int .i64 0] [.vec 54 1 []] ?_ λε9 a9 x9 h9 _=> ?_))
 ·unfold aqn;simp only[go_sem,seval]
 refine jL (A8 (λk a s x=>GInv Fz H0 X n l (SQ n l) k a s x) n ⟨0,c0,[],_,by omega,rfl,rfl,h9⟩ λk a s x hI=>(go_round hn (by omega) (λj _=>⟨(CS hok n j _ (z03 _)).2.2,MO hok n j⟩) k a s x hI).mono λe a' s' x' hh=> ?_)
 split at hh
 case h_1=>exact hh
 case h_3=>exact hh.elim
 simp only[if_true];clear hI hT h1 h2 h3 h4 h5 h6 h7 h8 h9;obtain⟨j,c0,gy,J,hj,vN,rfl,hT⟩:=hh;obtain rfl:j=n:=by omega
 clear hj;refine aX (bM hT VN (by rfl) [0,1,8,9,11] [.int .i64 j,fD.aA l,dI c0, .vec 0 j, .ptr 1 [] 0] [.vec 54 1 (gy.map dI), .blk 66 (uX.aA (uf 6))] ?_ λJ1 a1 x1 h1 _=> ?_)
 ·unfold alB;simp only[go_sem,seval,VO]
 refine aX (aX (bM h1 FH.au (by rfl) [0,8,9,11,46,47,48] [.int .i64 j,dI c0, .vec 0 j, .ptr 1 [] 0,fD.aA l, .int .i64 l.length, .int .i64 0] [.vec 54 1 (gy.map dI), .blk 66 (uX.aA (uf 6))] ?_ λJ2 a2 x2 h2 _=> ?_))
 ·unfold alC;simp only[go_sem,seval]
 refine jL (A8 (λk a s x=>abu Fz H0 X j l (vY j 0++xZ j) k a s x) l.length ⟨0,c0,gy,_,by omega,vN,rfl,h2⟩ λk a s x hI=>(afV hn0 hn hok k a s x hI).mono λe a' s' x' hh=> ?_)
 split at hh
 case h_1=>exact hh
 case h_3=>exact hh.elim
 simp only[if_true];clear hI hT h1 h2;obtain⟨i,c0,gy,J,hi,vN,rfl,hT⟩:=hh;clear hi;refine aX (bM hT FH.au (by rfl) [8,9,14] [dI c0, .vec 0 j, .dO] [.vec 54 1 (gy.map dI), .blk 66 (uX.aA (runK l i))] ?_ λJ1 a1 x1 h1 _=> ?_)
 ·unfold alD;simp only[go_sem,seval]
 have h2:=h1.sel [0] (by simp)
 have e1:fJ [0] [ay.vec 54 1 (gy.map dI), .blk 66 (uX.aA (runK l i))]=[.vec 54 1 (gy.map dI)]:=by simp only[fJ,z1s,List.map_nil,ak,List.getD_cons_zero,dR,FN]
 have e2:nM (fQ [0]) (Sx.ig [8,9,14] [dI c0, .vec 0 j, .dO] .nil)=Sx.ig [8,9,14] [dI c0, .vec 0 j, .dO] .nil:=by simp[Sx.ig,nM,Sx.ren,iD,fQ]
 rw[e1,e2] at h2;have h3:=(h2.afU (k:=14) (by decide) rfl 32 3).C9 (ks:=[8,9,14]) (xs:=[dI c0, .vec 0 j, .vec 1 0]) (by simp only[go_sem,seval])
 refine aX (aX (bM h3 FH.au (by rfl) [8,9,14,82,83,84] [dI c0, .vec 0 j, .vec 1 0, .vec 0 j, .int .i64 j, .int .i64 0] [.vec 54 1 (gy.map dI), .vec 32 3 []] ?_ λε4 a4 x4 h4 _=> ?_))
 ·unfold alE;simp only[go_sem,seval]
 refine jL (A8 (λk a s x=>aki Fz H0 X j (xZ j) [] k a s x) j ⟨0,c0,gy,_,by omega,vN,rfl,h4⟩ λk a s x hI=>(afW hn k a s x hI).mono λe a' s' x' hh=> ?_)
 split at hh
 case h_1=>exact hh
 case h_3=>exact hh.elim
 simp only[if_true];clear hI hT h1 h2 h3 h4 e1 e2;obtain⟨j',c0,gy,J,hj',vN,rfl,hT⟩:=hh;refine aX (aX (bM hT FH.au (by rfl) [8,14,91,92] [dI c0, .vec 1 0, .int .i64 j, .int .i64 0] [.vec 54 1 (gy.map dI), .vec 32 3 []] ?_ λJ1 a1 x1 h1 _=> ?_))
 ·unfold alF;simp only[go_sem,seval]
 have h2:=h1.sel [1] (by simp)
 have e1:fJ [1] [ay.vec 54 1 (gy.map dI), .vec 32 3 []]=[.vec 32 3 []]:=rfl;have e2:nM (fQ [1]) (Sx.ig [8,14,91,92] [dI c0, .vec 1 0, .int .i64 j, .int .i64 0] .nil)=Sx.ig [8,14,91,92] [dI c0, .vec 0 0, .int .i64 j, .int .i64 0] .nil:=by simp[Sx.ig,nM,Sx.ren,iD,fQ]
 rw[e1,e2] at h2;refine jL (A8 (λk a s x=>RInv Fz H0 X j l k a s x) j ⟨c0,gy,[],_,by simp,List.nodup_nil,by simp,rfl,h2⟩ λk a s x hI=>(afX hn (MO hok j) k a s x hI).mono λe a' s' x' hh=> ?_)
 split at hh
 case h_1=>exact hh
 case h_3=>exact hh.elim
 simp only[if_true];clear hI hT h1 h2 e1 e2;obtain⟨c0,gy,got,J,hg,hnd,hlt,rfl,hT⟩:=hh;have hgn:got.length=j:=by omega
 have hsr:=aaM hok (by omega) hnd hlt hgn
 have hp:=hT.pin (i:=0) (T:=32) (w:=3) (l:=(got.flatMap (wL j l)).map dW.aA) rfl (by decide)
 obtain⟨L,hL⟩:∃ L,L=(got.flatMap (wL j l)).map rH.AA:=⟨_,rfl⟩;rw[<- hL] at hsr;have hlL:L.length=(got.flatMap (wL j l)).length:=by rw[hL,z0x]
 have hp2:TS Fz 102 [] H0 X J (Sx.ig [8,14,91,92] [dI c0, .vec 0 L.length, .int .i64 j, .int .i64 got.length] .nil) [.vec rH.TP 3 (L.map rH.wC.aA)] a' x':=by rw[hlL,hL,<- aiS hok];exact hp
 have hl2:L.length<65536:=by have:=OE (n:=j) (l:=l) (MO hok j) got;rw[hlL];omega
 have hl3:L.length=(dD l l.length).length:=by have h1:=congrArg List.length hsr;simp only[z0x,z0m] at h1;have h2:=(Sort.sort_holds (Sort.pdq_holds Sort.insertionSort_holds Sort.heapSort_holds Sort.partialInsertionSort_holds (Sort.partition_holds rH.lt) (Sort.partitionEqual_holds rH.lt) Sort.reverseRange_holds) rH.jF L.toArray).1.1;rw[h1] at h2;simpa using h2.symm
 have hpre:aql L (24,()):=⟨hl2,rfl⟩;refine Nv hp2 aol (by rfl) [4,5] [.vec 0 (dD l l.length).length, .int .i64 0] [.vec rH.TP 3 ((dD l l.length).map dW.aA)] ?_ λJ1 a1 x1 h1 _=>⟨rfl,_,got,J1,rfl,hgn,h1⟩
 unfold alG;simp only[go_sem,seval,aok,hpre,hsr,hl3]
end
end Go.Proofs.Ytpajfggdnobheaa.Sp
end
namespace Go.Sx
open Go
section
variable {P:Program} {main:Bool} {F:Nat->Prop} {ι:Type _} {S:J9 ι} {quiet tf:FuncId->Bool} {fn:FuncId} {n:Nat} {d:List Deferred} {H0:Nat->Option Obj} {J:Env} {τ:Fr} {m:List ay} {a:Act} {x:OW} {s:ι}
theorem af7{J':Env}{τ':Fr}(hs:a.tmps.size=n)(hb:∀ k,n<=k->look k τ'= .junk)(hx:∀ k,k<n->bK J' (look k τ') (a.tmps.getD k undef)):dB n J' τ' a:=by
 have hg:∀ k,((z1f n).map λk=>look k τ').getD k .junk=if k<n then look k τ' else .junk:=λk=>by
  rw[z15,List.getElem?_map];by_cases hk:k<n
  ·rw[List.getElem?_range hk,if_pos hk];rfl
  ·rw[List.getElem?_eq_none (by simpa using hk),if_neg hk];rfl
 refine⟨(z1f n).map λk=>look k τ',⟨by simp,λk=> ?_⟩,by simp[hs],λk=> ?_⟩
 ·rcases Nat.lt_or_ge k n with hk|hk
  ·exact .inr ⟨hk,by rw[hg,if_pos hk]⟩
  ·exact .inl (hb k hk)
 ·rw[hg];split
  ·rename_i hk;exact hx k hk
  ·trivial
theorem TS.jZ(h:TS F n d H0 (λ_=>none) J τ m a x){τ':Fr}(hb:∀ k,n<=k->look k τ'= .junk)(hx:∀ k,k<n->bK (Sx.jZ J m x.w).cl (look k τ') (a.tmps.getD k undef)):TS F n d H0 (λ_=>none) (Sx.jZ J m x.w).cl τ' [] a x:=by
 have hH:∀ b o,(Sx.jZ J m x.w).H b=some o->((∃ i,aS J i (ak m i)=some b)/\x.w.heap[b]? =some o)\/J.H b=some o:=λb o hb=>by
  unfold Sx.jZ at hb;simp only at hb;split at hb
  ·rename_i hh;exact .inl ⟨hh,hb⟩
  ·exact .inr hb
 have hg:Good (Sx.jZ J m x.w).cl [] x.w:=by
  refine⟨rfl,λi=>by rw[bI (z0k _)];trivial,λi j b _ h1=>(by rw[bI (z0k _)] at h1;cases h1),λi b h1=>(by rw[bI (z0k _)] at h1;cases h1),λb o hb=> ?_,?_⟩
  ·rcases hH b o hb with h1|h1
   ·exact h1.2
   ·exact h.g.good.hv b o h1
  ·exact h.g.good.gl.mono (wP h.g.good)
 refine⟨⟨hg,λi b h1=>(by rw[bI (z0k _)] at h1;cases h1),λb o hb=> ?_,h.g.Ol,h.g.Fl⟩,af7 h.s.size hb hx,h.d,λb o hb=>(by cases hb),λb o hb=>wP h.g.good _ _ (h.h b o hb)⟩
 rcases hH b o hb with⟨⟨i,h1⟩,_⟩|h1
 ·exact .inl (h.g.own i b h1)
 ·exact h.g.H b o h1
theorem GX{f:FuncId}{tc:TC}{t1 t2 nt:Nat}{nr:Bool}(hc:tIs P quiet tf f=some (tc.flat,[.tmp t1, .tmp t2],nt,nr)){args:List SV}{vs:List Value}(hg:fP F J m x)(ha:bT args J vs)(hl:args.length<=nt)
  {K:SV->SV->List ay->ι->Prop} (hv:∀ y1 y2 m' s',K y1 y2 m' s'->y1.isVal=true/\y2.isVal=true)
  (h:∀ a,TS F nt [] J.H (λ_=>none) J (yY 0 args) m a x->TW P main F S quiet tf f tc (λe a' s' x'=>e= .ret/\∃ J' y1 y2 m',K y1 y2 m' s'/\TS F nt [] J.H (λ_=>none) J' (ig [t1,t2] [y1,y2] .nil) m' a' x') a s x) (ht:t1≠t2):
  sS P main F S f vs.toArray s x (λv s' x'=> ∃ J' y1 y2 m',K y1 y2 m' s'/\fP F J' m' x'/\(∀ b o,J.H b=some o->J'.H b=some o)/\bK J' (.cu [y1,y2]) v):=by
 obtain⟨func,body,hf,hb,hcc,hrs,hnt,hname,_,_⟩:=NW hc;have hlen:args.length=vs.length:=by
  clear h hl hc
  induction args generalizing vs with
  |nil=>simp only[bT] at ha;subst ha;rfl
  |cons y r ih=>simp only[bT] at ha;obtain⟨cs,t,rfl,_,h2⟩:=ha;simp[ih h2]
 refine Ld hf hb ?_;have hT:TS F nt [] J.H (λ_=>none) J (yY 0 args) m {tmps:=vs.toArray++Array.replicate (func.ntmps - vs.toArray.size) undef,defers:=[]} x:=by
  refine⟨hg,⟨_,BA args nt hl,?_⟩,rfl,λb o hb=>(by cases hb),λ_ _ h=>h⟩
  have:=mG ha (nt - args.length);rw[hnt,show vs.toArray.size=args.length by simp[hlen]]
  exact this
 refine(h _ hT body hcc).mono λe a' s' x' hh=> ?_;obtain⟨rfl,J',y1,y2,m',hK,hT'⟩:=hh;obtain⟨k1,k2⟩:=hv _ _ _ _ hK;refine⟨hT'.d, .tuple #[a'.tmps.getD t1 undef,a'.tmps.getD t2 undef],⟨J',y1,y2,m',hK,hT'.g,hT'.h,?_⟩,λw1 hw=> ?_⟩
 ·have e1:=hT'.s.sat t1;have e2:=hT'.s.sat t2;have l1:look t1 (ig [t1,t2] [y1,y2] .nil)=y1:=by simp[ig,look]
  have l2:look t2 (ig [t1,t2] [y1,y2] .nil)=y2:=by simp[ig,look,Ne.symm ht]
  rw[l1] at e1;rw[l2] at e2;obtain⟨c1,g1,g2⟩:=fF e1 k1;obtain⟨c2,g3,g4⟩:=fF e2 k2;exact⟨[_,_],⟨c1,_,by rw[g2],g1,c2,_,by rw[g4],g3,rfl⟩,rfl⟩
 ·have hm:([ResultVar.tmp t1, .tmp t2].mapM (resV a'.tmps)).run P w1= .ok [a'.tmps.getD t1 undef,a'.tmps.getD t2 undef] w1:=rfl;refine⟨mO hrs hm,λe he=> ?_⟩;rw[rE hrs hm] at he;simp[List.mapM_cons,resV] at he
theorem YQ{o:Oper}{f:FuncId}{ys:List aV}{t:Nat}(h:TS F n d H0 (λ_=>none) J τ [] a x)(ho:dV tf o.op=some (.Yu f ys))(hok:qp P f=true)(hd:o.dst=some t)(ht:t<n)(hv:(ys.map (aV.fv τ)).all SV.isVal=true){K:SV->SV->List ay->ι->Prop}
  (hcall:∀ vs:List Value,bT (ys.map (aV.fv τ)) J vs->sS P main F S f vs.toArray s x (λv s' x'=> ∃ J' y1 y2 m',K y1 y2 m' s'/\fP F J' m' x'/\(∀ b o,J.H b=some o->J'.H b=some o)/\bK J' (.cu [y1,y2]) v)):
  sQ P main F S fn o a (λa2 s2 x2=> ∃ J' y1 y2 m',K y1 y2 m' s2/\TS F n d H0 (λ_=>none) J' (.put t (.cu [y1,y2]) τ) m' a2 x2) s x:=by
 obtain⟨c,e1,e2,e3⟩:=Ri ho;have hs:=h.anA e3 hv;refine afE (f:=f) (args:=(c.args.toList.map a.eval).toArray) (λw _=> ?_) ?_
 ·have:(c.args.toList.map a.eval).toArray=c.args.map a.eval:=by apply Array.ext';simp
  refine⟨?_,by simp[execOp,e1,e2,resolve,Deferred.ofValue,invoke,Act.eval,sF hok]⟩
  simp[execOp,e1,e2,resolve,Deferred.ofValue,invoke,Act.eval,nZ hok];apply Array.ext';simp
 intro cs hc;refine hcall _ hs cs λv s' x' fr hK h1 h2 h3 h4 h5=> ?_;obtain⟨J',y1,y2,m',k1,k2,k3,k4⟩:=hK;refine hc v s' x' fr ⟨J',y1,y2,m',k1,?_⟩ h1 h2 h3 h4 h5;have hn:J.n=0:=h.g.good.n;have hle:J.Le J':=⟨by omega,λi hi=>by omega,λi hi=>by omega,k3⟩
 have h':TS F n d H0 (λ_=>none) J' τ m' a x':=⟨k2,(let ⟨σ,q1,q2⟩:=h.s;⟨σ,q1,q2.1,λk=>(q2.2 k).mono hle⟩),h.d,λb o hb=>(by cases hb),λb o hb=>k3 b o (h.h b o hb)⟩
 rw[hd];exact h'.put ht k4
end
end Go.Sx
namespace Go.Proofs.Ytpajfggdnobheaa.Ps
variable {main:Bool} {Fz:Nat->Prop}
open D
def rowP(p:Nat->Nat->Bool)(i:Nat):Nat->List Pr
 |0=>[]
 |j+1=>rowP p i j++if p i j then[⟨i,j⟩] else[]
def pO(p:Nat->Nat->Bool)(n:Nat):Nat->List Pr
 |0=>[]
 |i+1=>pO p n i++rowP p i n
theorem Jb(p:Nat->Nat->Bool)(i:Nat):∀ j,(rowP p i j).length<=j
 |0=>z03 _
 |j+1=>by have:=Jb p i j;simp only[rowP,z09];split<;>simp<;>omega
theorem Iw(p:Nat->Nat->Bool)(n:Nat):∀ i,(pO p n i).length<=i*n
 |0=>by simp[pO]
 |i+1=>by have h1:=Iw p n i;have h2:=Jb p i n;simp only[pO,z09,Nat.add_mul];omega
theorem Jw{p q:Nat->Nat->Bool}{i:Nat}:∀ j,(∀ k,k<j->p i k=q i k)->rowP p i j=rowP q i j
 |0,_=>rfl
 |j+1,h=>by rw[rowP,rowP,Jw j (λk hk=>h k (by omega)),h j (by omega)]
theorem FX{p q:Nat->Nat->Bool}{n:Nat}:∀ i,(∀ a b,a<i->b<n->p a b=q a b)->pO p n i=pO q n i
 |0,_=>rfl
 |i+1,h=>by rw[pO,pO,FX i (λa b ha hb=>h a b (by omega) hb),Jw n (λk hk=>h i k (by omega) hk)]
def D7(p:Nat->Nat->Bool)(i j:Nat):Bool:=decide (i<j)&&p i j
theorem Oq(p:Nat->Nat->Bool)(i:Nat):∀ j,j<=i+1->rowP (D7 p) i j=[]
 |0,_=>rfl
 |j+1,h=>by
  rw[rowP,Oq p i j (by omega)]
  simp[D7,show ¬ i<j by omega]
def Gq(f:FuncId){κ:Type}(A:DA κ)(y:κ)(n:Nat)(p:Nat->Nat->Bool):FH:=FH.rd f (.cons DT.int (.cons DT.int A)) (.one .bool) (λz=>z.2.2=y/\0<=z.1/\z.1<n/\0<=z.2.1/\z.2.1<n) (λz=>p z.1.toNat z.2.1.toNat) FH.none
theorem QT(f:FuncId){κ:Type}(A:DA κ)(y:κ)(n:Nat)(p:Nat->Nat->Bool)(hf:qp Try.prog f=true)
  (h:∀ i j:Nat,i<n->j<n->bC Try.prog main Fz f (.int .i64 i:: .int .i64 j::A.aA y) [] (.bool (p i j)) []):bQ Try.prog main Fz (Gq f A y n p):=FH.dM (hf:=hf) (λz hz=>by
 obtain⟨a,b,k⟩:=z;obtain⟨h1,h2,h3,h4,h5⟩:=hz;simp only at h1 h2 h3 h4 h5;subst h1;have:=h a.toNat b.toNat (by omega) (by omega)
 have ea:((a.toNat:Nat):Int)=a:=by omega
 have eb:((b.toNat:Nat):Int)=b:=by omega
 rw[ea,eb] at this;exact this) FH.au
theorem jo(f:FuncId){κ:Type}(A:DA κ)(y:κ)(n:Nat)(p:Nat->Nat->Bool)(g:FuncId)(a:List SV)(m:List ay):Gq f A y n p g a m=(FH.rd f (.cons DT.int (.cons DT.int A)) (.one .bool) (λz=>z.2.2=y/\0<=z.1/\z.1<n/\0<=z.2.1/\z.2.1<n) (λz=>p z.1.toNat z.2.1.toNat) FH.none) g a m:=nr rfl
end Go.Proofs.Ytpajfggdnobheaa.Ps
namespace Go.Proofs.Ytpajfggdnobheaa.Eqs
variable {main:Bool} {Fz:Nat->Prop}
open D
def apF:JC:=(qN (oN 15 14 13<|.nil) (.seq (qO 15 .skip (.exit 0)) (.seq (.block 1 (qN (o7 16 14<|oJ 17 3 12 14<|oC 18 3 17<|qK 6 32<|o7 5 16<|oG 3 6 18<|.nil) (qM [6,1,5,14,13,12] (.seq (.aZ<|oC 19 3 6<|o7 20 1<|o7 21 5<|oJ 22 3 20 21<|oC 23 3 22<|qo 24 (.aeq true (.st [(.int .i64),(.int .i64),(.int .i64)]) (.t 19) (.t 23))<|.nil) (qM [24,14,13,12,1] (qO 24 (qN (qG 4 false<|.nil) .ret) .skip)))))) (qM [14,13,12,1] (.ops<|oI 25 14 1<|o7 14 25<|.nil)))))
def apG:JC:=(qM [] (qN (qG 4 true<|.nil) .ret))
def j9:JC:=(qN (qG 4 false<|.nil) (.seq (qN (o7 7 0<|oO 8 7<|o7 9 1<|oO 10 9<|qo 11 (.cmp .neq (.t 8) (.t 10))<|.nil) (qO 11 (qN (qG 4 false<|.nil) .ret) .skip)) (.seq (qN (qL [0,1]<|o7 12 0<|oO 13 12<|o8 14 0<|.nil) (qM [14,13,12,1] (.block 0 (.loop [13,12,1] [14] apF)))) apG)))
def iw(x y:Fl):Bool:=decide (x.at'=y.at')&&(decide (x.var=y.var)&&decide (x.kind=y.kind))
theorem Qr(xs ys:List Fl):bC Try.prog main Fz 9 [mY.aA xs,mY.aA ys] [] (.bool (vZ iw xs ys)) []:=by
 refine MQ λhB=>wkA j9 [.tmp 4] 26 FH.au rfl ?_;simp only[go_sem,seval] at hB;unfold j9;simp only[go_sem,seval];refine⟨λh=> ?_,λh=> ?_⟩
 ·rw[Qs h]
 ·refine bU Nat (λi=>[.int .i64 i]) (λi=>[]) (λi=>i<=xs.length/\vZ iw xs ys=vZ iw (xs.drop i) (ys.drop i)) (λi=>xs.length - i) 0 ⟨by omega,rfl⟩ ?_ rfl ?_
  ·simp only[go_sem,seval]
  ·intro i hi;unfold apF;simp only[go_sem,seval];refine⟨λh1=> ?_,λh1=> ?_⟩
   ·obtain⟨hi1,hi2⟩:=hi;rw[aaN (d:=dW.bg) (d':=dW.bg) (by omega) (by omega)] at hi2
    refine⟨⟨by omega,by omega⟩,⟨by omega,by omega⟩,λh2=> ?_,λh2=>⟨i+1,⟨by omega,?_⟩,by omega,aJ⟩⟩
    ·rw[hi2,show iw (xs.getD i dW.bg) (ys.getD i dW.bg)=false by first|exact h2|exact decide_eq_false h2];rfl
    ·rw[hi2,show iw (xs.getD i dW.bg) (ys.getD i dW.bg)=true by first|exact h2|exact decide_eq_true h2];rfl
   ·rw[aaO hi.2 (by omega) (by omega)]
    unfold apG;simp only[go_sem,seval]
end Go.Proofs.Ytpajfggdnobheaa.Eqs
namespace Go.Proofs.Ytpajfggdnobheaa.Od
variable {main:Bool} {Fz:Nat->Prop}
open D Tr Ps Eqs
def adE(a b:Ev):Bool:=decide (a.aK=b.aK)||decide (a.kind=4)&&decide (b.kind=3)&&decide (a.obj=b.obj)||decide (a.kind=5)&&decide (a.obj=b.aK)||
 decide (b.kind=6)&&decide (b.obj=a.aK)||decide (a.kind=8)&&decide (b.kind=7)&&decide (a.obj=b.obj)||decide (a.kind=5)&&decide (b.kind=6)&&decide (a.obj=b.obj)
def AL(l:List Ev)(i j:Nat):Bool:=adE (l.getD i bP.bg) (l.getD j bP.bg)
end Go.Proofs.Ytpajfggdnobheaa.Od
namespace Go.Proofs.Ytpajfggdnobheaa.Ps
variable {main:Bool} {Fz:Nat->Prop}
open D
def alq:JC:=(.seq (qN (o7 15 7<|o7 16 0<|oO 17 16<|oN 18 15 17<|.nil) (qO 18 .skip (.exit 2))) (qM [1,6,7,5,0,10,9] (.seq (.block 3 (qN (o7 21 1<|o7 22 6<|o7 23 7<|eo 24 (.fO (.t 21) [(.t 22),(.t 23)])<|.nil) (qM [24,5,6,7,0,1,10,9] (qO 24 (.ops<|o7 25 5<|o7 26 6<|o7 27 7<|qo 28 (.AU (.agg [(.int .i64 0),(.int .i64 0)]) [([.lQ 0],0,1,(.t 26)),([.lQ 1],1,1,(.t 27))])<|qL [28,25,7,0,1,6,10,9]<|eo 29 (.Ia 97 2 1 (.agg [(.int .i64 0),(.int .i64 0)]) [(0,(.t 28))])<|oV 30 97 2 16 25 29<|o7 5 30<|.nil) .skip)))) (qM [7,0,1,6,5,10,9] (.ops<|o7 19 7<|oI 20 19 1<|o7 7 20<|.nil)))))
def alr:JC:=(qM [10,9,0,1,5] (.ops<|oI 31 10 1<|o7 10 31<|.nil))
def als:JC:=(qN (oN 11 10 9<|.nil) (.seq (qO 11 .skip (.exit 0)) (.seq (.block 1 (qN (o7 12 10<|o7 6 12<|.nil) (qN (o7 13 6<|oI 14 13 1<|o7 7 14<|.nil) (qM [7,0,1,6,5,10,9] (.block 2 (.mW 5 97 2 (.loop [0,1,6,10,9] [7,5] alq))))))) alr)))
def alu:JC:=(qM [5] (qN (o7 32 5<|o7 4 32<|.nil) (.mW 4 97 2 .ret)))
def j67:JC:=(qN (oQ 4<|.nil) (qN (oQ 5<|.nil) (.seq (qN (o7 8 0<|oO 9 8<|o8 10 0<|.nil) (.block 0 (.mW 5 97 2 (.loop [9,0,1] [10,5] als)))) alu)))
theorem ahP(f:FuncId){κ:Type}(A:DA κ)(y:κ)(l:List Ev)(p:Nat->Nat->Bool)(hn:l.length<=100)(hf:qp Try.prog f=true)
  (h:∀ i j:Nat,i<l.length->j<l.length->bC Try.prog main Fz f (.int .i64 i:: .int .i64 j::A.aA y) [] (.bool (p i j)) []):
  bC Try.prog main Fz 67 [fD.aA l, .fn f (A.aA y)] [] (.vec 0 (pO (D7 p) l.length l.length).length) [.vec 97 2 ((pO (D7 p) l.length l.length).map sG.aA)]:=by
 refine wkA j67 [.tmp 4] 33 (QT f A y l.length p hf h) rfl ?_;unfold j67;simp only[go_sem,seval];refine bU Nat (λi=>[.int .i64 i, .vec 0 (pO (D7 p) l.length i).length]) (λi=>[.vec 97 2 ((pO (D7 p) l.length i).map sG.aA)]) (λi=>i<=l.length) (λi=>l.length - i) 0 (by omega) ?_ rfl ?_
 ·simp only[go_sem,seval];rfl
 intro i hi;unfold als;simp only[go_sem,seval];have hb1:=Iw (D7 p) l.length i;have hin:i*l.length<=100*100:=Nat.mul_le_mul (by omega) hn
 have hw:z00.wrap ((i:Int)+1)=((i+1:Nat):Int):=aJ;rw[hw];refine⟨λh1=> ?_,λh1=> ?_⟩
 ·refine bU Nat (λj=>[.int .i64 j, .vec 0 (pO (D7 p) l.length i++rowP (D7 p) i j).length]) (λj=>[.vec 97 2 ((pO (D7 p) l.length i++rowP (D7 p) i j).map sG.aA)]) (λj=>i+1<=j/\j<=l.length) (λj=>l.length - j) (i+1) (by omega) ?_ ?_ ?_
  ·simp only[go_sem,seval];simp[Oq p i (i+1) (z03 _)]
  ·simp[Oq p i (i+1) (z03 _)]
  intro j hj;unfold alq;simp only[go_sem,seval,jo];have hb2:=Jb (D7 p) i j;have hu:D7 p i j=p i j:=by simp[D7,show i<j by omega]
  refine⟨λh2=>⟨by omega,λh3=>⟨by simp only[z09,z0x];omega,j+1,by omega,by omega,⟨aJ,?_⟩,?_⟩,λh3=>⟨j+1,by omega,by omega,⟨aJ,?_⟩,?_⟩⟩,λh2=> ?_⟩
  ·simp[rowP,hu,h3,Nat.add_assoc]
  ·simp[rowP,hu,h3,N8]
  ·simp[rowP,hu,h3]
  ·simp[rowP,hu,h3]
  ·have e:j=l.length:=by omega
   subst e;unfold alr;simp only[go_sem,seval];exact⟨i+1,by omega,by omega,⟨hw,rfl⟩,by rw[pO,List.map_append]⟩
 ·have e:i=l.length:=by omega
  subst e;unfold alu;simp only[go_sem,seval]
end Go.Proofs.Ytpajfggdnobheaa.Ps
namespace Go.Proofs.Ytpajfggdnobheaa.Od
variable {main:Bool} {Fz:Nat->Prop}
open D Tr Ps Eqs
def j103:JC:=(qN (oU 2 59 0<|oU 3 59 1<|qG 4 false<|.nil) (qN (oD 6 0 0 2<|o9 7 1 6<|oH 8 7 4<|o7 9 8<|qL [9,3,2]<|.sc false 13 9 (oD 10 0 0 3<|o9 11 1 10<|oH 12 11 3<|.nil) (.t 12)<|o7 14 13<|.sc true 23 14 (oD 15 0 0 2<|o9 16 1 15<|oH 17 16 8<|o7 18 17<|.sc false 22 18 (oD 19 0 0 3<|o9 20 1 19<|oH 21 20 7<|.nil) (.t 21)<|.nil) (.t 22)<|o7 24 23<|qL [24,2,3]<|.sc true 33 24 (oD 25 0 0 2<|o9 26 1 25<|oH 27 26 5<|o7 28 27<|.sc false 32 28 (oD 29 0 0 3<|o9 30 1 29<|oH 31 30 6<|.nil) (.t 31)<|.nil) (.t 32)<|o7 5 33<|.nil) (qM [2,3,5] (.seq (.block 0 (.seq (qN (oD 35 1 1 2<|o9 36 1 35<|oD 37 1 1 3<|o9 38 1 37<|oW 39 36 38<|o7 34 39<|.nil) (qO 34 .skip (.ops<|qL [5,2,3]<|o7 40 5<|o7 41 40<|.sc false 47 41 (oD 42 2 2 2<|o9 43 1 42<|oD 44 2 2 3<|o9 45 1 44<|oW 46 43 45<|.nil) (.t 46)<|o7 34 47<|.nil))) (qM [34,2,3] (qO 34 (qN (qG 4 true<|.nil) .ret) .skip)))) (qM [2,3] (qN (oD 48 0 0 2<|o9 49 1 48<|oH 50 49 5<|o7 51 50<|.sc false 57 51 (oD 52 2 2 2<|o9 53 1 52<|oD 54 1 1 3<|o9 55 1 54<|oW 56 53 55<|.nil) (.t 56)<|qL [57,3,2]<|o7 58 57<|.sc true 69 58 (oD 59 0 0 3<|o9 60 1 59<|oH 61 60 6<|o7 62 61<|.sc false 68 62 (oD 63 2 2 3<|o9 64 1 63<|oD 65 1 1 2<|o9 66 1 65<|oW 67 64 66<|.nil) (.t 67)<|.nil) (.t 68)<|o7 4 69<|.nil) .ret))))))
theorem akU:∀ t k4 k3 o k5 ot k6 ot' k8 k7:Bool,(t||k4&&k3&&o||k5&&ot||k6&&ot'||k8&&k7&&o||k5&&k6&&o)=
  (t||(k4&&k3||k8&&k7||k5&&k6)&&o||(k5&&ot||k6&&ot')):=by decide
theorem XT(a b:Ev):bC Try.prog main Fz 103 [bP.aA a,bP.aA b] [] (.bool (adE a b)) []:=by refine wkA j103 [.tmp 4] 70 FH.au rfl ?_;unfold j103;simp only[go_sem,seval];unfold adE;rw[akU];refine⟨λh1=>⟨λ_=>by simp[h1],λh=>absurd h1 h⟩,λh1=>⟨λh2=>by rw[h2];simp,λh2=>by rw[h2];simp[h1]⟩⟩
def Gd1(f:FuncId)(a:List SV)(m:List ay):Sx.Call:=(FH.rd 103 (.two bP bP) (.one .bool) (λ_=>True) (λy=>adE y.1 y.2.1) FH.none) f a m
theorem anH:type_of% (nq Gd1.eq_1):=nq Gd1.eq_1
theorem anG:bQ Try.prog main Fz Gd1:=FH.dM (λy _=>XT y.1 y.2.1) FH.au
def LZ(l:List Ev)(p:Nat->Nat->Bool):List Pr:=pO (D7 p) l.length l.length
def rO(l:List Ev)(p:Nat->Nat->Bool):List Pr:=if (aN l).2.2=0 then LZ l p else[]
end Go.Proofs.Ytpajfggdnobheaa.Od
section
section
set_option maxRecDepth 100000
open Go Go.Sx Go.Proofs
namespace Go.Proofs.Ytpajfggdnobheaa.Ah
variable {main:Bool} {Fz:Nat->Prop}
open D Tr Ps Od
def Wv(M:Nat->Nat->Bool)(a b:Nat)(v:Bool):Nat->Nat->Bool:=λa' b'=>if a'=a/\b'=b then v else M a' b'
section
variable {T U:TypeId} {n r:Nat} {M M':Nat->Nat->Bool}
end
def clo(M:Nat->Nat->Bool)(k:Nat):Nat->Nat->Bool:=λa b=>M a b||M a k&&M k b
def rounds(M:Nat->Nat->Bool):Nat->Nat->Nat->Bool
 |0=>M
 |k+1=>clo (rounds M k) k
def rowsOf(n:Nat)(M:Nat->Nat->Bool):List (List Bool):=tb n λa=>tb n λb=>M a b
def gZ(l:List Ev):Nat->Nat->Bool:=rounds (D7 (AL l)) l.length
end Go.Proofs.Ytpajfggdnobheaa.Ah
end
section
set_option maxRecDepth 100000
open Go Go.Sx Go.Proofs
namespace Go.Proofs.Ytpajfggdnobheaa.Ah
variable {main:Bool} {Fz:Nat->Prop}
open D Tr Ps Od
def mp(T U E:TypeId)(l:List Ev)(n r:Nat)(M:Nat->Nat->Bool):List ay:=
 .vec T 1 (tb n λk=>if k<r then .vec (2*k+2) n else .dO)::tb (2*r) λt=>if t%2=0 then .blk E (bP.aA (l.getD (t/2) bP.bg)) else .vec U 1 (tb n λb=> .bool (M (t/2) b))
section
variable {T U E:TypeId} {l:List Ev} {n r:Nat} {M M':Nat->Nat->Bool}
theorem qx:(mp T U E l n r M).length=2*r+1:=by simp[mp,zT]
theorem Wx:ak (mp T U E l n r M) 0= .vec T 1 (tb n λk=>if k<r then .vec (2*k+2) n else .dO):=rfl
theorem anF{a:Nat}(h:a<r):ak (mp T U E l n r M) (2*a+1)= .blk E (.agg [.int .i64 (l.getD a bP.bg).kind, .int .i64 (l.getD a bP.bg).aK, .int .i64 (l.getD a bP.bg).obj]):=by
 have:=Rq (n:=2*r) (i:=2*a) (f:=λt=>if t%2=0 then ay.blk E (bP.aA (l.getD (t/2) bP.bg)) else .vec U 1 (tb n λb=> .bool (M (t/2) b))) (by omega)
 rw[if_pos (by omega),show 2*a/2=a by omega] at this
 exact this
theorem Rt{a:Nat}(h:a<r):ak (mp T U E l n r M) (2*a+2)= .vec U 1 (tb n λb=> .bool (M a b)):=by
 have:=Rq (n:=2*r) (i:=2*a+1) (f:=λt=>if t%2=0 then ay.blk E (bP.aA (l.getD (t/2) bP.bg)) else .vec U 1 (tb n λb=> .bool (M (t/2) b))) (by omega)
 rw[if_neg (by omega),show(2*a+1)/2=a by omega] at this
 exact this
theorem aeD{a b:Nat}{v:Bool}:(mp T U E l n r M).set (2*a+2) (.vec U 1 ((tb n λb=> .bool (M a b)).set b (.bool v)))=mp T U E l n r (Wv M a b v):=by
 simp only[mp,List.set_cons_succ,aeE]
 congr 1
 refine jr λi hi=> ?_;by_cases e:i=2*a+1
 ·subst e;simp only[if_true,show ¬ (2*a+1)%2=0 by omega,if_false,show(2*a+1)/2=a by omega]
  congr 1
  refine jr λj hj=> ?_;by_cases e:j=b<;>simp[Wv,e]
 ·rw[if_neg e];split
  ·rfl
  ·congr 1
   refine jr λj hj=> ?_;simp[Wv,show ¬ i/2=a by omega]
theorem Fh{k:Nat}(hk:k=2*r+1):(List.take k (mp T U E l n r M)).map (dR (J8 k))=mp T U E l n r M:=by
 subst hk;have h1:(mp T U E l n r M).take (2*r+1)=mp T U E l n r M:=List.take_of_length_le (by rw[qx];exact z03 _)
 rw[h1];simp only[mp,z1s,Io,dR,Yx]
 congr 1
 ·congr 1
  refine jr λi hi=> ?_;split
  ·rename_i h;simp only[ren,iD,J8,show 2*i+2<2*r+1 by omega,if_true]
  ·rfl
 ·refine jr λi hi=> ?_;by_cases e:i%2=0
  ·simp only[e,if_true,bP.ren]
  ·simp only[e,if_false,Yx];rfl
theorem qy(h:∀ a b,a<r->b<n->M a b=M' a b):mp T U E l n r M=mp T U E l n r M':=by
 simp only[mp]
 congr 1
 refine jr λi hi=> ?_;split
 ·rfl
 ·congr 1
  exact jr λj hj=>by rw[h (i/2) j (by omega) hj]
theorem Wy(x:List ay):ak (mp T U E l n r M++x) 0= .vec T 1 (tb n λk=>if k<r then .vec (2*k+2) n else .dO):=rfl
theorem aa9(x:ay):ak (mp T U E l n r M++[x]) (2*r+1)=x:=by
 unfold ak;rw[z15,List.getElem?_append_right (by rw[qx];exact z03 _),qx]
 simp
theorem WA(x y:ay):(mp T U E l n r M++[x]).set (2*r+1) y=mp T U E l n r M++[y]:=by
 rw[List.set_append_right _ _ (by rw[qx];exact z03 _),qx]
 simp
theorem aeF{a:Nat}(h:a<n)(h2:a<r):(tb n λk=>if k<r then SV.vec (2*k+2) n else SV.dO).getD a .junk= .vec (2*a+2) n:=by rw[nP h,if_pos h2]
theorem ajE{a:Nat}(h:a<n)(h2:r<=a):(tb n λk=>if k<r then SV.vec (2*k+2) n else SV.dO).getD a .junk= .dO:=by rw[nP h,if_neg (by omega)]
theorem ajF:(mp T U E l n r M++[ay.blk E (.agg [.int .i64 (l.getD r bP.bg).kind, .int .i64 (l.getD r bP.bg).aK, .int .i64 (l.getD r bP.bg).obj]),ay.vec U 1 (z1r n (SV.bool false))]).set 0 (.vec T 1 ((tb n λk=>if k<r then SV.vec (2*k+2) n else SV.dO).set r (.vec (2*r+1+1) n)))=mp T U E l n (r+1) (λa b=>if a<r then M a b else false):=by
 simp only[mp,z0p,List.set_cons_zero,aeE,Bd];rw[show 2*(r+1)=2*r+1+1 by omega,Yy,Yy]
 congr 1
 ·congr 1
  refine jr λi hi=> ?_;by_cases e:i=r
  ·subst e;simp
  ·by_cases e2:i<r
   ·simp[e,e2,show i<r+1 by omega]
   ·simp[e,e2,show ¬ i<r+1 by omega]
 ·rw[z1k]
  congr 1
  ·exact jr λi hi=>by simp[show i/2<r by omega]
  ·simp only[z0p,List.nil_append];rw[if_pos (by omega),if_neg (by omega),show 2*r/2=r by omega,show(2*r+1)/2=r by omega]
   simp[WB]
theorem aeG:[ay.vec T 1 (z1r n .dO)]=mp T U E l n 0 M:=by simp[mp,Bd,ajG]
theorem ajH:allL (tb n λk=>if k<n then SV.vec (2*k+2) n else SV.dO) λy=>(DT.list 1 DT.bool).decP (mp T U E l n n M) y:=by
 intro y hy;obtain⟨i,hi,rfl⟩:=z1a hy;rw[zT] at hi;have e:(tb n λk=>if k<n then SV.vec (2*k+2) n else SV.dO)[i]'(by rw[zT];exact hi)= .vec (2*i+2) n:=by
  have:=uY (f:=λk=>if k<n then SV.vec (2*k+2) n else SV.dO) (n:=n) i
  rw[if_pos hi,if_pos hi] at this;exact(List.getElem?_eq_some_iff.1 this).2
 rw[e,sJ,Rt hi];refine⟨rfl,?_⟩;rw[aeH,Qn];intro y _;trivial
theorem ajI:(tb n λk=>if k<n then SV.vec (2*k+2) n else SV.dO).map (λy=>(DT.list 1 DT.bool).aI (mp T U E l n n M) y)=tb n λa=>tb n λb=>M a b:=by rw[Io];refine jr λi hi=> ?_;rw[if_pos hi,sH,Rt hi];simp only[Io];exact jr λj hj=>rfl
end
def stepRow(l:List Ev)(R:Nat->Nat->Bool)(j i:Nat)(row:Nat->Bool):Nat->Bool:=if (!row i&&AL l i j)=true then λk=>decide (k=i)||row k||R i k else row
def zU(l:List Ev)(R:Nat->Nat->Bool)(j:Nat):Nat->Nat->Bool
 |0=>λ_=>false
 |s+1=>stepRow l R j (j - 1 - s) (zU l R j s)
def Ap(l:List Ev):Nat->Nat->Nat->Bool
 |0=>λ_ _=>false
 |j+1=>λa b=>if a=j then zU l (Ap l j) j j b else Ap l j a b
def dY(R:Nat->Nat->Bool)(j:Nat)(row:Nat->Bool):Nat->Nat->Bool:=λa b=>if a=j then row b else R a b
def aeI:JC:=(qN (oN 59 58 57<|.nil) (qM [59,58,56,3,4,57,6,0,5,14,13,12] (.seq (qO 59 .skip (.exit 4)) (qM [58,56,3,4,57,6,0,5,14,13,12] (.seq (.block 5 (qN (o7 60 58<|oJ 61 1 56 58<|o9 62 1 61<|o7 7 60<|o7 8 62<|.nil) (qM [3,4,7,8,58,57,56,6,0,5,14,13,12] (.aZ<|o7 63 3<|o7 64 4<|oJ 65 1 63 64<|o9 66 1 65<|qL [7,3,4,8,66,58,57,56,6,0,5,14,13,12]<|o7 67 7<|o7 68 3<|o7 69 4<|oJ 70 1 68 69<|o9 71 1 70<|qL [7,71,8,66,67,58,57,56,3,4,6,0,5,14,13,12]<|o7 72 7<|oJ 73 1 71 72<|qL [73,8,66,67,58,57,56,3,4,6,0,5,14,13,12]<|o9 74 1 73<|o7 75 74<|.sc true 77 75 (o7 76 8<|.nil) (.t 76)<|oJ 78 1 66 67<|oG 1 78 77<|.nil)))) (qM [58,57,56,3,4,6,0,5,14,13,12] (.ops<|oI 79 58 1<|o7 58 79<|.nil)))))))
def aeJ:JC:=(qM [6,3,4,0,5,14,13,12] (.ops<|o7 29 6<|qo 30 (.ar .sub (.t 29) (I 1))<|o7 6 30<|.nil))
def aeK:JC:=(.seq (qN (o7 27 6<|qo 28 (.cmp .geq (.t 27) (I 0))<|.nil) (qO 28 .skip (.exit 2))) (qM [3,4,6,0,5,14,13,12] (.seq (.block 3 (.seq (.aZ<|o7 31 3<|o7 32 4<|oJ 33 1 31 32<|o9 34 1 33<|qL [6,34,0,5,3,4,14,13,12]<|o7 35 6<|oJ 36 1 34 35<|o9 37 1 36<|qL [37,0,6,5,3,4,14,13,12]<|qE 38 37<|o7 39 38<|.sc false 46 39 (o7 40 0<|o7 41 6<|oJ 42 3 40 41<|oC 43 3 42<|oC 44 3 5<|qF 45 103 43 44<|.nil) (.t 45)<|.nil) (qM [46,3,4,6,0,5,14,13,12] (qO 46 (qN (o7 47 3<|o7 48 4<|oJ 49 1 47 48<|qL [49,6,3,4,0,5,14,13,12]<|o9 50 1 49<|o7 51 6<|oJ 52 1 50 51<|en (.store 1 (.t 52) (B true))<|.nil) (qM [3,6,4,0,5,14,13,12] (qN (o7 53 3<|o7 54 6<|oJ 55 1 53 54<|o9 56 1 55<|oO 57 56<|o8 58 0<|.nil) (qM [58,57,56,3,4,6,0,5,14,13,12] (.block 4 (.loop [57,56,3,4,6,0,5,14,13,12] [58] aeI)))))) .skip)))) aeJ)))
def ald:JC:=(qM [14,13,12,3,0] (.ops<|oI 80 14 1<|o7 14 80<|.nil))
def aeL:JC:=(qN (oN 15 14 13<|.nil) (.seq (qO 15 .skip (.exit 0)) (.seq (.block 1 (qN (o7 16 14<|oJ 17 3 12 14<|oC 18 3 17<|qK 5 59<|o7 4 16<|oG 3 5 18<|.nil) (qM [3,4,0,5,14,13,12] (qN (o7 19 3<|o7 20 4<|o7 21 0<|oO 22 21<|eo 23 (.mks 4 1 1 (.bool false) (.t 22) (.t 22))<|oJ 24 1 19 20<|oG 1 24 23<|.nil) (qM [4,3,0,5,14,13,12] (qN (o7 25 4<|qo 26 (.ar .sub (.t 25) (I 1))<|o7 6 26<|.nil) (qM [6,3,4,0,5,14,13,12] (.block 2 (.loop [3,4,0,5,14,13,12] [6] aeK))))))))) ald)))
def ale:JC:=(qM [3] (qN (o7 81 3<|o7 2 81<|.nil) (.mW 2 75 1 (.jZ 2 PO.jZ .ret))))
def j66:JC:=(qN (oQ 2<|.nil) (qN (o7 9 0<|oO 10 9<|eo 11 (.mks 75 1 24 .dO (.t 10) (.t 10))<|o7 3 11<|.nil) (.seq (qN (o7 12 0<|oO 13 12<|o8 14 0<|.nil) (.block 0 (.loop [13,12,3,0] [14] aeL))) ale)))
theorem ahO(l:List Ev)(hl:l.length<=1000):bC Try.prog main Fz 66 [fD.aA l] [] (PO.aA (rowsOf l.length (Ap l l.length))) []:=by
 refine wkA j66 [.tmp 2] 82 anG rfl ?_;unfold j66;simp only[go_sem,seval];refine⟨by omega,?_⟩
 rw[aeG (U:=4) (E:=59) (l:=l) (M:=λ_ _=>false)];refine bU Nat (λi=>[.int .i64 i]) (λi=>mp 75 4 59 l l.length i (Ap l i)) (λi=>i<=l.length) (λi=>l.length - i) 0 (by omega) ?_ ?_ ?_
 ·simp only[go_sem,seval]
 ·exact qy λa b ha hb=>absurd ha (z0d _)
 intro j hj;by_cases h1:j<l.length
 ·have h1':(j:Int)<l.length:=by omega
  have hf:=ajE (r:=j) h1 (z03 _);unfold aeL;simp only[go_sem,seval,Wy,qx,aa9,WA,z09,ajF,hf,h1,h1'];have hw:z00.wrap ((j:Int) - 1)=(j:Int) - 1:=aJ;refine⟨by omega,⟨by omega,by omega,by omega⟩,by omega,?_⟩
  generalize hR:Ap l j=R;refine bU Nat (λc=>[.int .i64 ((c:Int) - 1)]) (λc=>mp 75 4 59 l l.length (j+1) (dY R j (zU l R j (j - c)))) (λc=>c<=j) (λc=>c) j (z03 _) ?_ ?_ ?_
  ·simp only[go_sem,seval];exact hw
  ·refine qy λa b ha hb=> ?_;by_cases e:a=j
   ·subst e;simp[dY,zU]
   ·simp[dY,e,show a<j by omega]
  intro c hc;cases c with
  |zero=>
   have hz:¬ (0:Int)<=0 - 1:=by decide
   unfold aeK;simp only[go_sem,seval];unfold ald;simp only[go_sem,seval,qx];refine⟨j+1,by omega,by omega,aJ,?_⟩
   rw[Fh rfl];refine qy λa b ha hb=> ?_;simp only[dY,Ap,hR,Nat.sub_zero]
  |succ i=>
   have hij:i<j:=by omega
   have hbx:2*j+1<2*(j+1)+1:=by omega
   have hin:i<l.length:=by omega
   have hc':((i+1:Nat):Int) - 1=(i:Int):=by omega
   have hp:(0:Int)<=(i:Int):=by omega
   have ei:j - i=(j - (i+1))+1:=by omega
   have es:j - 1 - (j - (i+1))=i:=by omega
   have hstep:zU l R j (j - i)=stepRow l R j i (zU l R j (j - (i+1))):=by rw[ei,zU,es]
   generalize hrow:zU l R j (j - (i+1))=row at hstep ⊢;have hMj:∀ b,dY R j row j b=row b:=λb=>by simp[dY]
   have rj:=aeF (r:=j+1) h1 (z07 j);have ri:=aeF (r:=j+1) hin (show i<j+1 by omega)
   have bj:=anF (T:=75) (U:=4) (E:=59) (l:=l) (n:=l.length) (M:=dY R j row) (z07 j);have aj:=Rt (T:=75) (U:=4) (E:=59) (l:=l) (n:=l.length) (M:=dY R j row) (z07 j);have gji:(tb l.length λb=>SV.bool (dY R j row j b)).getD i .junk= .bool (row i):=by rw[nP hin,hMj]
   have hwi:z00.wrap ((i:Int) - 1)=(i:Int) - 1:=aJ;unfold aeK;simp only[go_sem,seval,anH,Wx,qx,aeD,hc',hp,rj,ri,bj,aj,gji,h1',hin];have hRj:∀ b,zU l R j (j - i) b=(if (!row i&&AL l i j)=true then decide (b=i)||row b||R i b else row b):=λb=>by rw[hstep,stepRow];split<;>rfl
   refine⟨by omega,by omega,by omega,λ_=>by omega,λhT=>⟨by omega,by omega,by omega,by omega,?_⟩,λhF=> ?_⟩
   ·have hT:(!row i&&AL l i j)=true:=hT;refine bU Nat (λk=>[.int .i64 k]) (λk=>mp 75 4 59 l l.length (j+1) (dY R j λb=>decide (b=i)||row b||(decide (b<k)&&R i b))) (λk=>k<=l.length) (λk=>l.length - k) 0 (z0k _) ?_ ?_ ?_
    ·simp only[go_sem,seval]
    ·refine qy λa b ha hb=> ?_;by_cases e:a=j
     ·subst e;by_cases e2:b=i
      ·subst e2;simp[dY,Wv]
      ·simp[dY,Wv,e2]
     ·simp[dY,Wv,e]
    intro k hk;by_cases h2:k<l.length
    ·have h2':(k:Int)<l.length:=by omega
     have aj:=Rt (T:=75) (U:=4) (E:=59) (l:=l) (n:=l.length) (M:=dY R j λb=>decide (b=i)||row b||(decide (b<k)&&R i b)) (z07 j);have ai:=Rt (T:=75) (U:=4) (E:=59) (l:=l) (n:=l.length) (M:=dY R j λb=>decide (b=i)||row b||(decide (b<k)&&R i b)) (show i<j+1 by omega)
     have gjk:(tb l.length λb=>SV.bool (dY R j (λb=>decide (b=i)||row b||(decide (b<k)&&R i b)) j b)).getD k .junk= .bool (decide (k=i)||row k):=by rw[nP h2];simp[dY]
     have gik:(tb l.length λb=>SV.bool (dY R j (λb=>decide (b=i)||row b||(decide (b<k)&&R i b)) i b)).getD k .junk= .bool (R i k):=by rw[nP h2];simp[dY,show ¬ i=j by omega]
     unfold aeI;have hix:2*i+2<2*(j+1)+1:=by omega
     simp only[go_sem,seval,Wx,qx,aeD,hbx,hix,h2',rj,ai,aj,gjk,gik,h1',h2];refine⟨by omega,by omega,by omega,by omega,by omega,by omega,by omega,k+1,by omega,by omega,aJ,?_⟩
     rw[Fh rfl];refine qy λa b ha hb=> ?_;unfold Wv dY;by_cases e:a=j
     ·subst e;by_cases e2:b=k
      ·subst e2;simp
      ·have e3:(b<k)↔(b<k+1):=by omega
       simp[e2,e3]
     ·simp[e]
    ·have h2':¬ (k:Int)<l.length:=by omega
     unfold aeI;simp only[go_sem,seval,h2'];unfold aeJ;simp only[go_sem,seval,qx,hbx];refine⟨i,by omega,by omega,hwi,?_⟩
     rw[Fh rfl];refine qy λa b ha hb=> ?_;simp only[dY,hRj,if_pos hT];have:b<k:=by omega
     simp[this]
   ·have hF:(!row i&&AL l i j)=false:=hF;unfold aeJ;simp only[go_sem,seval,qx,hbx];refine⟨i,by omega,by omega,hwi,?_⟩
    rw[Fh rfl];refine qy λa b ha hb=> ?_;simp[dY,hRj,hF]
 ·have h1':¬ (j:Int)<l.length:=by omega
  unfold aeL;simp only[go_sem,seval,h1'];unfold ale;simp only[go_sem,seval,Wx];have ek:j=l.length:=by omega
  subst ek;exact⟨ajH,by rw[ajI];rfl⟩
end Go.Proofs.Ytpajfggdnobheaa.Ah
end
end
namespace Go.Proofs.Ytpajfggdnobheaa.Ah
variable {main:Bool} {Fz:Nat->Prop}
open D Tr Ps Od
inductive Am(E:Nat->Nat->Bool):Nat->Nat->Prop
 |one {a b:Nat}:E a b=true->Am E a b
 |snoc {a c b:Nat}:Am E a c->E c b=true->Am E a b
inductive vI(E:Nat->Nat->Bool)(k:Nat):Nat->Nat->Prop
 |one {a b:Nat}:E a b=true->vI E k a b
 |snoc {a c b:Nat}:vI E k a c->c<k->E c b=true->vI E k a b
section
variable {E:Nat->Nat->Bool}
theorem Am.trans{a b c:Nat}(h:Am E a b)(k:Am E b c):Am E a c:=by
 induction k with
 |one e=>exact .snoc h e
 |snoc _ e ih=>exact .snoc ih e
theorem vI.mono{k k' a b:Nat}(hk:k<=k')(h:vI E k a b):vI E k' a b:=by
 induction h with
 |one e=>exact .one e
 |snoc _ hc e ih=>exact .snoc ih (by omega) e
theorem vI.path{k a b:Nat}(h:vI E k a b):Am E a b:=by
 induction h with
 |one e=>exact .one e
 |snoc _ hc e ih=>exact .snoc ih e
theorem vI.trans{k a b:Nat}(h:vI E (k+1) a k)(g:vI E (k+1) k b):vI E (k+1) a b:=by
 induction g with
 |one e=>exact .snoc h (by omega) e
 |snoc _ hc e ih=>exact .snoc ih hc e
theorem vI.split{k a b:Nat}(h:vI E (k+1) a b):vI E k a b\/vI E k a k/\vI E k k b:=by
 induction h with
 |one e=>exact .inl (.one e)
 | @snoc c b _ hc e ih=>
  by_cases hk:c<k
  ·rcases ih with h|⟨h1,h2⟩
   ·exact .inl (.snoc h hk e)
   ·exact .inr ⟨h1, .snoc h2 hk e⟩
  ·have:c=k:=by omega
   subst this;rcases ih with h|⟨h1,h2⟩
   ·exact .inr ⟨h, .one e⟩
   ·exact .inr ⟨h1, .one e⟩
theorem Je:∀ (k a b:Nat),rounds E k a b=true↔vI E k a b
 |0,a,b=>⟨λh=> .one h,λh=>by
  cases h with
  |one e=>exact e
  |snoc _ hc _=>exact absurd hc (z0d _)⟩
 |k+1,a,b=>by
  simp only[rounds,clo,z08,z05,Je k];constructor
  ·rintro(h|⟨h1,h2⟩)
   ·exact h.mono (by omega)
   ·exact(h1.mono (by omega)).trans (h2.mono (by omega))
  ·exact λh=>h.split
theorem Am.lt(hE:∀ a b,E a b=true->a<b){a b:Nat}(h:Am E a b):a<b:=by
 induction h with
 |one e=>exact hE _ _ e
 |snoc _ e ih=>exact Nat.lt_trans ih (hE _ _ e)
theorem Am.bounded(hE:∀ a b,E a b=true->a<b){a b:Nat}(h:Am E a b):∀ {n},b<=n->vI E n a b:=by
 induction h with
 |one e=>exact λ_=> .one e
 |snoc _ e ih=>exact λhb=> .snoc (ih (Nat.le_trans (z0g (hE _ _ e)) hb)) (Nat.lt_of_lt_of_le (hE _ _ e) hb) e
theorem SA(hE:∀ a b,E a b=true->a<b){n a b:Nat}(hb:b<=n):rounds E n a b=true↔Am E a b:=
 (Je n a b).trans ⟨λh=>h.path,λh=>h.bounded hE hb⟩
theorem Am.last{a b:Nat}:Am E a b↔∃ i,E i b=true/\(a=i\/Am E a i):=by
 constructor
 ·intro h;cases h with
  |one e=>exact⟨a,e, .inl rfl⟩
  |snoc h e=>exact⟨_,e, .inr h⟩
 ·rintro⟨i,e,rfl|h⟩
  ·exact .one e
  ·exact .snoc h e
end
theorem Xd{p:Nat->Nat->Bool}:∀ a b,D7 p a b=true->a<b:=λa b h=>by simp only[D7,z05,decide_eq_true_eq] at h;exact h.1
def tN(l:List Ev)(a b:Nat):Prop:=Am (D7 (AL l)) a b
theorem ji{l:List Ev}{a b:Nat}(hb:b<=l.length):gZ l a b=true↔tN l a b:=SA Xd hb
theorem tN.lt{l:List Ev}{a b:Nat}(h:tN l a b):a<b:=Am.lt Xd h
theorem ab2{n:Nat}{M:Nat->Nat->Bool}:(rowsOf n M).length=n:=zT
theorem rows_row{n:Nat}{M:Nat->Nat->Bool}{i:Nat}(h:i<n):((rowsOf n M).getD i []).length=n:=by rw[rowsOf,nP h,zT]
theorem ahN{n:Nat}{M:Nat->Nat->Bool}{i j:Nat}(hi:i<n)(hj:j<n):((rowsOf n M).getD i []).getD j false=M i j:=by rw[rowsOf,nP hi,nP hj]
end Go.Proofs.Ytpajfggdnobheaa.Ah
namespace Go.Proofs.Ytpajfggdnobheaa.Tr
variable {main:Bool} {Fz:Nat->Prop}
open D
def at'(l:List Ev)(i:Nat):Ev:=l.getD i bP.bg
theorem afj{l:List Ev}{j:Nat}(hj:j<=l.length){k o:Int}:ng (l.take j) k o=true↔∃ c,c<j/\(at' l c).kind=k/\(at' l c).obj=o:=by
 unfold ng;rw[List.any_eq_true];constructor
 ·rintro⟨e,he,h⟩;obtain⟨c,hc,rfl⟩:=z1a he;rw[z0u] at hc;refine⟨c,by omega,?_⟩
  have:at' l c=(l.take j)[c]'(by rw[z0u];exact hc):=by rw[z1j];simp[at',z15,show c<l.length by omega]
  rw[this];simpa using h
 ·rintro⟨c,hc,h1,h2⟩;refine⟨at' l c,?_,by simp only[z05,decide_eq_true_eq];exact⟨h1,h2⟩⟩
  have hcl:c<l.length:=by omega
  have:at' l c=(l.take j)[c]'(by rw[z0u];omega):=by rw[z1j];simp[at',z15,hcl]
  rw[this];exact List.getElem_mem _
theorem xM{l:List Ev}(h:(bH l).2=0){j:Nat}(hj:j<l.length):
  yZ (at' l j)=true/\zX (l.take j) (at' l j).aK=true/\ng (l.take j) 6 (at' l j).aK=false/\((at' l j).kind=3->Tr.aS (l.take j) (at' l j).obj<0)/\((at' l j).kind=4->Tr.aS (l.take j) (at' l j).obj=(at' l j).aK)/\
  ((at' l j).kind=5->zX (l.take j) (at' l j).obj=false)/\((at' l j).kind=6->zX (l.take j) (at' l j).obj=true/\(at' l j).obj≠(at' l j).aK):=by
 have hw:tH (l.take j) (at' l j)=0:=afk h j hj;unfold tH at hw;by_cases h1:yZ (at' l j)=false
 ·rw[if_pos h1] at hw;cases hw
 rw[if_neg h1] at hw;by_cases h2:(!zX (l.take j) (at' l j).aK||ng (l.take j) 6 (at' l j).aK)=true
 ·rw[if_pos h2] at hw;cases hw
 rw[if_neg h2] at hw;simp only[z08,z0o,not_or,Bool.not_eq_true,z1l] at h2;refine⟨by simpa using h1,h2.1,h2.2,λk=> ?_,λk=> ?_,λk=> ?_,λk=> ?_⟩
 ·simp only[k,if_true,z04,if_false] at hw;split at hw
  ·cases hw
  ·omega
 ·simp only[k,if_true,z04,if_false] at hw;split at hw
  ·cases hw
  ·rename_i hh;simpa using hh
 ·simp only[k,if_true,z04,if_false] at hw;split at hw
  ·cases hw
  ·rename_i hh;simpa using hh
 ·simp only[k,if_true,z04,if_false] at hw;split at hw
  ·cases hw
  ·rename_i hh;simp only[z08,z0o,decide_eq_true_eq,not_or,z1l] at hh;exact hh
end Go.Proofs.Ytpajfggdnobheaa.Tr
section
section
open Go Go.Sx Go.Proofs
namespace Go.Proofs.Ytpajfggdnobheaa.St
variable {main:Bool} {Fz:Nat->Prop}
open D Tr Ah Ps Od
def Le'(l:List Ev)(a b:Nat):Prop:=a=b\/tN l a b
def TS(l:List Ev)(j t:Nat)(i:Nat):Prop:= ∃ c,c<j/\Le' l i c/\((at' l c).aK.toNat=t\/(at' l c).kind=5/\(at' l c).obj.toNat=t)
def LS(l:List Ev)(j m:Nat)(i:Nat):Prop:= ∃ c,c<j/\Le' l i c/\(at' l c).kind=4/\(at' l c).obj.toNat=m
def VS(l:List Ev)(j m:Nat)(i:Nat):Prop:= ∃ c,c<j/\Le' l i c/\(at' l c).kind=8/\(at' l c).obj.toNat=m
section
variable {l:List Ev} (hok:(bH l).2=0)
include hok
theorem bnd{i:Nat}(hi:i<l.length):0<=(at' l i).aK/\(at' l i).aK<6/\0<=(at' l i).obj/\(at' l i).obj<many (at' l i).kind:=(jl _).1 (uO hok i hi)
theorem yO{c j:Nat}(hc:c<j)(hj:j<l.length):AL l c j=true↔
  ((at' l c).aK.toNat=(at' l j).aK.toNat\/(at' l c).kind=5/\(at' l c).obj.toNat=(at' l j).aK.toNat)\/((at' l j).kind=3/\(at' l c).kind=4/\(at' l c).obj.toNat=(at' l j).obj.toNat)\/
  ((at' l j).kind=7/\(at' l c).kind=8/\(at' l c).obj.toNat=(at' l j).obj.toNat)\/((at' l j).kind=6/\((at' l c).aK.toNat=(at' l j).obj.toNat\/(at' l c).kind=5/\(at' l c).obj.toNat=(at' l j).obj.toNat)):=by
 have b:=bnd hok (show c<l.length by omega)
 have b':=bnd hok hj;have e1:(at' l c).aK.toNat=(at' l j).aK.toNat↔(at' l c).aK=(at' l j).aK:=by omega
 have e2:(at' l c).obj.toNat=(at' l j).aK.toNat↔(at' l c).obj=(at' l j).aK:=by omega
 have e3:(at' l c).obj.toNat=(at' l j).obj.toNat↔(at' l c).obj=(at' l j).obj:=by omega
 have e4:(at' l c).aK.toNat=(at' l j).obj.toNat↔(at' l j).obj=(at' l c).aK:=by omega
 rw[e1,e2,e3,e4];simp only[AL,adE,z08,z05,decide_eq_true_eq,at'];constructor
 ·rintro(((((h|⟨⟨h,g⟩,k⟩)|⟨h,g⟩)|⟨h,g⟩)|⟨⟨h,g⟩,k⟩)|⟨⟨h,g⟩,k⟩)
  ·exact .inl (.inl h)
  ·exact .inr (.inl ⟨g,h,k⟩)
  ·exact .inl (.inr ⟨h,g⟩)
  ·exact .inr (.inr (.inr ⟨h, .inl g⟩))
  ·exact .inr (.inr (.inl ⟨g,h,k⟩))
  ·exact .inr (.inr (.inr ⟨g, .inr ⟨h,k⟩⟩))
 ·rintro((h|⟨h,g⟩)|⟨g,h,k⟩|⟨g,h,k⟩|⟨g,h|⟨h,k⟩⟩)
  ·exact .inl (.inl (.inl (.inl (.inl h))))
  ·exact .inl (.inl (.inl (.inr ⟨h,g⟩)))
  ·exact .inl (.inl (.inl (.inl (.inr ⟨⟨h,g⟩,k⟩))))
  ·exact .inl (.inr ⟨⟨h,g⟩,k⟩)
  ·exact .inl (.inl (.inr ⟨g,h⟩))
  ·exact .inr ⟨⟨h,g⟩,k⟩
theorem IY{j:Nat}(hj:j<l.length)(i:Nat):tN l i j↔TS l j (at' l j).aK.toNat i\/((at' l j).kind=3/\LS l j (at' l j).obj.toNat i)\/((at' l j).kind=7/\VS l j (at' l j).obj.toNat i)\/((at' l j).kind=6/\TS l j (at' l j).obj.toNat i):=by
 unfold tN;rw[Am.last];have key:∀ c,D7 (AL l) c j=true↔c<j/\AL l c j=true:=λc=>by simp[D7]
 constructor
 ·rintro⟨c,h1,h2⟩;obtain⟨hc,hd⟩:=(key c).1 h1;rcases(yO hok hc hj).1 hd with h|⟨k,h⟩|⟨k,h⟩|⟨k,h⟩
  ·exact .inl ⟨c,hc,h2,h⟩
  ·exact .inr (.inl ⟨k,c,hc,h2,h⟩)
  ·exact .inr (.inr (.inl ⟨k,c,hc,h2,h⟩))
  ·exact .inr (.inr (.inr ⟨k,c,hc,h2,h⟩))
 ·rintro(⟨c,hc,h2,h⟩|⟨k,c,hc,h2,h⟩|⟨k,c,hc,h2,h⟩|⟨k,c,hc,h2,h⟩)
  ·exact⟨c,(key c).2 ⟨hc,(yO hok hc hj).2 (.inl h)⟩,h2⟩
  ·exact⟨c,(key c).2 ⟨hc,(yO hok hc hj).2 (.inr (.inl ⟨k,h⟩))⟩,h2⟩
  ·exact⟨c,(key c).2 ⟨hc,(yO hok hc hj).2 (.inr (.inr (.inl ⟨k,h⟩)))⟩,h2⟩
  ·exact⟨c,(key c).2 ⟨hc,(yO hok hc hj).2 (.inr (.inr (.inr ⟨k,h⟩)))⟩,h2⟩
end
end Go.Proofs.Ytpajfggdnobheaa.St
end
section
set_option maxRecDepth 100000
open Go Go.Sx Go.Proofs
namespace Go.Proofs.Ytpajfggdnobheaa.Rc
variable {main:Bool} {Fz:Nat->Prop}
open D Tr Ah Ps Od St
def noRace(l:List Ev)(i j:Nat)(a b:Ev):Bool:=decide ((j:Int)<=i)||decide (2<a.kind)||decide (2<b.kind)|| !decide (a.obj=b.obj)||decide (z00.wrap (a.kind+b.kind)<3)||gZ l i j
def nI(a b:Ev):Int:=if a.kind=1 then 3 else if b.kind=1 then 2 else 1
def tu(l:List Ev)(i:Nat):Nat->List Rc
 |0=>[]
 |j+1=>tu l i j++if noRace l i j (l.getD i bP.bg) (l.getD j bP.bg)=true then[] else[⟨i,j,(l.getD i bP.bg).obj,nI (l.getD i bP.bg) (l.getD j bP.bg)⟩]
def Bg(l:List Ev):Nat->List Rc
 |0=>[]
 |i+1=>Bg l i++tu l i l.length
theorem Iz{l:List Ev}{i:Nat}:∀ j,(tu l i j).length<=j
 |0=>z03 _
 |j+1=>by have:=Iz (l:=l) (i:=i) j;rw[tu,z09];split<;>simp<;>omega
theorem Iy{l:List Ev}:∀ i,(Bg l i).length<=i*l.length
 |0=>by simp[Bg]
 |i+1=>by have h1:=Iy (l:=l) i;have h2:=Iz (l:=l) (i:=i) l.length;rw[Bg,z09,Nat.add_mul];omega
def gu(l:List Ev):List Rc:=Bg l l.length
end Go.Proofs.Ytpajfggdnobheaa.Rc
end
end
section
section
set_option maxRecDepth 100000
open Go Go.Sx Go.Proofs
namespace Go.Proofs.Ytpajfggdnobheaa.Fu
variable {main:Bool} {Fz:Nat->Prop}
open D Tr Rc
def kR(rs:List Rc)(j:Int):Nat->Int
 |0=>0
 |i+1=>if (rs.getD i zu.bg).b=j/\(kR rs j i=0\/(rs.getD i zu.bg).kind<kR rs j i) then(rs.getD i zu.bg).kind else kR rs j i
def Zb(l:List Ev)(j:Nat):Int:=kR (gu l) j (gu l).length
def y7(e:Ev):Bool:=decide (e.kind=4)||decide (e.kind=5)||decide (e.kind=8)
def zF(c:jH)(t:Nat)(v:Int):jH:=λk=>if k=t then v else c k
def EZ(l:List Ev):Nat->jH
 |0=>λ_=>0
 |i+1=>if y7 (l.getD i bP.bg)=true then zF (EZ l i) (l.getD i bP.bg).aK.toNat (z00.wrap (EZ l i (l.getD i bP.bg).aK.toNat+1)) else EZ l i
def mP(l:List Ev)(k x:Int):Nat->jH
 |0=>λ_=>0
 |i+1=>if (l.getD i bP.bg).kind=k/\(l.getD i bP.bg).obj=x then zF (mP l k x i) (l.getD i bP.bg).aK.toNat (z00.wrap (EZ l i (l.getD i bP.bg).aK.toNat+1)) else mP l k x i
end Go.Proofs.Ytpajfggdnobheaa.Fu
end
section
open Go Go.Sx Go.Proofs
namespace Go.Proofs.Ytpajfggdnobheaa.Fu
variable {main:Bool} {Fz:Nat->Prop}
open D Tr C Ah Ps Od St Rc
def cs(l:List Ev)(t:Nat):Nat->Nat
 |0=>0
 |i+1=>cs l t i+if y7 (at' l i)=true/\(at' l i).aK.toNat=t then 1 else 0
section
variable {l:List Ev}
theorem Tv(t:Nat):∀ i,cs l t i<=i
 |0=>z03 _
 |i+1=>by have:=Tv t i;rw[cs];split<;>omega
theorem Fq(t:Nat){i:Nat}:∀ {j:Nat},i<=j->cs l t i<=cs l t j
 |0,h=>by rw[Nat.le_zero.1 h];exact z03 _
 |j+1,h=>by
  by_cases e:i=j+1
  ·subst e;exact z03 _
  ·have:=Fq t (j:=j) (show i<=j by omega)
   rw[cs];omega
theorem agK{e:Ev}:y7 e=true↔e.kind=4\/e.kind=5\/e.kind=8:=by simp[y7,or_assoc]
theorem Tz{m:Int}:∀ {j:Nat},j<=l.length->0<=Tr.aS (l.take j) m->∃ a,a<j/\(at' l a).kind=3/\(at' l a).obj=m/\(at' l a).aK=Tr.aS (l.take j) m/\∀ c,a<c->c<j->¬ ((at' l c).kind=4/\(at' l c).obj=m)
 |0,_,h=>by
  simp[Tr.aS] at h
 |j+1,hj,h=>by
  have hs:Tr.aS (l.take (j+1)) m=OG m (Tr.aS (l.take j) m) (at' l j):=by rw[ou bP.bg (show j<l.length by omega),Tr.aS,Tr.aS,List.foldl_append];rfl
  rw[hs] at h ⊢;unfold OG at h ⊢;by_cases k4:(at' l j).obj=m/\(at' l j).kind=4
  ·rw[if_pos k4] at h;omega
  rw[if_neg k4] at h ⊢;by_cases k3:(at' l j).obj=m/\(at' l j).kind=3
  ·rw[if_pos k3] at h ⊢;exact⟨j,z07 _,k3.2,k3.1,rfl,λc h1 h2=>by omega⟩
  ·rw[if_neg k3] at h ⊢;obtain⟨a,ha,h1,h2,h3,h4⟩:=Tz (by omega) h
   refine⟨a,by omega,h1,h2,h3,λc hc hcj=> ?_⟩
   by_cases e:c=j
   ·subst e;exact λhh=>k4 ⟨hh.2,hh.1⟩
   ·exact h4 c hc (by omega)
end
section
variable {l:List Ev} (hok:(bH l).2=0)
include hok
theorem Bz{c j:Nat}(hc:c<j)(hj:j<l.length)(h:((at' l c).aK.toNat=(at' l j).aK.toNat\/(at' l c).kind=5/\(at' l c).obj.toNat=(at' l j).aK.toNat)\/((at' l j).kind=3/\(at' l c).kind=4/\(at' l c).obj.toNat=(at' l j).obj.toNat)\/
  ((at' l j).kind=7/\(at' l c).kind=8/\(at' l c).obj.toNat=(at' l j).obj.toNat)\/((at' l j).kind=6/\((at' l c).aK.toNat=(at' l j).obj.toNat\/(at' l c).kind=5/\(at' l c).obj.toNat=(at' l j).obj.toNat))):tN l c j:=by
 refine Am.one ?_;simp only[D7,z05,decide_eq_true_eq];exact⟨hc,(yO hok hc hj).2 h⟩
theorem aku{j:Nat}(hj:j<l.length)(k4:(at' l j).kind=4){c:Nat}(hc:c<j)(kc:(at' l c).kind=4)(ho:(at' l c).obj.toNat=(at' l j).obj.toNat):tN l c j:=by
 obtain⟨_,_,_,_,h4,_,_⟩:=xM hok hj;have b:=bnd hok hj;have bc:=bnd hok (show c<l.length by omega)
 have hw:=h4 k4;obtain⟨a,ha,k3,ao,at1,no⟩:=Tz (m:=(at' l j).obj) (z0g hj) (by rw[hw];exact b.1)
 have ho':(at' l c).obj=(at' l j).obj:=by omega
 have hca:c<a:=by
  refine Nat.lt_of_not_le λh=> ?_;rcases Nat.eq_or_lt_of_le h with h|h
  ·subst h;omega
  ·exact no c h hc ⟨kc,ho'⟩
 have d1:tN l c a:=Bz hok hca (by omega) (.inr (.inl ⟨k3,kc,by rw[ao];exact ho⟩))
 have d2:tN l a j:=Bz hok ha hj (.inl (.inl (by rw[at1,hw])))
 exact Am.trans d1 d2
theorem TA{j:Nat}(hj:j<l.length):ng (l.take j) 6 (at' l j).aK=false:=(xM hok hj).2.2.1
end
structure FI(l:List Ev)(j:Nat)(k:Kp):Prop where
 c1:∀ t u i,t<6->u<6->i<j->(at' l i).aK.toNat=u->((1+cs l u i:Int)<=k.aK t u↔TS l j t i)
 c2:∀ m u i,m<5->u<6->i<j->(at' l i).aK.toNat=u->((1+cs l u i:Int)<=k.lk m u↔LS l j m i)
 c3:∀ m u i,m<4->u<6->i<j->(at' l i).aK.toNat=u->((1+cs l u i:Int)<=k.vl m u↔VS l j m i)
 own:∀ t,t<6->k.aK t t=1+cs l t j
 s1:∀ t u:Nat,t<6->u<6->u≠t->ng (l.take j) 6 u=false->k.aK t u<1+cs l u j
 s2:∀ m u:Nat,m<5->u<6->ng (l.take j) 6 u=false->k.lk m u<1+cs l u j
 s3:∀ m u:Nat,m<4->u<6->ng (l.take j) 6 u=false->k.vl m u<1+cs l u j
 l1:∀ t u,t<6->u<6->0<=k.aK t u/\k.aK t u<=1+cs l u j
 l2:∀ m u,m<5->u<6->0<=k.lk m u/\k.lk m u<=1+cs l u j
 l3:∀ m u,m<4->u<6->0<=k.vl m u/\k.vl m u<=1+cs l u j
theorem jB{a b:jH}{u:Nat}(hu:u<6):kY a b u=if a u<b u then b u else a u:=by simp only[kY,mrg,if_pos hu,mxI]
theorem join_le{a b:jH}{u:Nat}(hu:u<6){x:Int}:x<=kY a b u↔x<=a u\/x<=b u:=by rw[jB hu];split<;>omega
theorem Cb{a b:jH}{u:Nat}(hu:u<6){x:Int}:kY a b u<x↔a u<x/\b u<x:=by rw[jB hu];split<;>omega
def qV(k:Kp)(e:Ev):jH:=
 if e.kind=3 then kY (k.aK e.aK.toNat) (k.lk e.obj.toNat) else if e.kind=7 then kY (k.aK e.aK.toNat) (k.vl e.obj.toNat) else
 if e.kind=6 then kY (k.aK e.aK.toNat) (k.aK e.obj.toNat) else k.aK e.aK.toNat
section
variable {l:List Ev} (hok:(bH l).2=0) {j:Nat} (hj:j<l.length) {k:Kp} (h:FI l j k)
include hok hj h
theorem YE{u i:Nat}(hu:u<6)(hi:i<j)(hiu:(at' l i).aK.toNat=u):(1+cs l u i:Int)<=qV k (at' l j) u↔tN l i j:=by
 have b:=bnd hok hj;have ht:(at' l j).aK.toNat<6:=by omega
 rw[IY hok hj];unfold qV;by_cases k3:(at' l j).kind=3
 ·have b5:(at' l j).obj<5:=by have:=b.2.2.2;simp only[many,k3,z04,or_self,true_or,if_true,if_false] at this;exact this
  rw[if_pos k3,join_le hu,h.c1 _ _ _ ht hu hi hiu,h.c2 _ _ _ (by omega) hu hi hiu]
  simp[k3]
 by_cases k7:(at' l j).kind=7
 ·have b5:(at' l j).obj<4:=by have:=b.2.2.2;simp only[many,k7,z04,or_self,true_or,if_true,if_false] at this;exact this
  rw[if_neg k3,if_pos k7,join_le hu,h.c1 _ _ _ ht hu hi hiu,h.c3 _ _ _ (by omega) hu hi hiu]
  simp[k7]
 by_cases k6:(at' l j).kind=6
 ·have b5:(at' l j).obj<6:=by have:=b.2.2.2;simp only[many,k6,z04,or_self,or_true,if_true,if_false] at this;exact this
  rw[if_neg k3,if_neg k7,if_pos k6,join_le hu,h.c1 _ _ _ ht hu hi hiu,h.c1 _ _ _ (by omega) hu hi hiu]
  simp[k6]
 ·rw[if_neg k3,if_neg k7,if_neg k6,h.c1 _ _ _ ht hu hi hiu];simp[k3,k7,k6]
theorem Zc:qV k (at' l j) (at' l j).aK.toNat=1+cs l (at' l j).aK.toNat j:=by
 have b:=bnd hok hj;have ht:(at' l j).aK.toNat<6:=by omega
 have ho:=h.own _ ht;unfold qV;by_cases k3:(at' l j).kind=3
 ·have b5:(at' l j).obj<5:=by have:=b.2.2.2;simp only[many,k3,z04,or_self,true_or,if_true,if_false] at this;exact this
  have:=h.l2 (at' l j).obj.toNat _ (by omega) ht
  rw[if_pos k3,jB ht];split<;>omega
 by_cases k7:(at' l j).kind=7
 ·have b5:(at' l j).obj<4:=by have:=b.2.2.2;simp only[many,k7,z04,or_self,true_or,if_true,if_false] at this;exact this
  have:=h.l3 (at' l j).obj.toNat _ (by omega) ht
  rw[if_neg k3,if_pos k7,jB ht];split<;>omega
 by_cases k6:(at' l j).kind=6
 ·have b5:(at' l j).obj<6:=by have:=b.2.2.2;simp only[many,k6,z04,or_self,or_true,if_true,if_false] at this;exact this
  have:=h.l1 (at' l j).obj.toNat _ (by omega) ht
  rw[if_neg k3,if_neg k7,if_pos k6,jB ht];split<;>omega
 ·rw[if_neg k3,if_neg k7,if_neg k6];exact ho
theorem O6{u i:Nat}(hu:u<6)(hi:i<j+1)(hiu:(at' l i).aK.toNat=u):(1+cs l u i:Int)<=qV k (at' l j) u↔Le' l i j:=by
 by_cases e:i=j
 ·subst e;subst hiu;rw[Zc hok hj h];exact⟨λ_=> .inl rfl,λ_=>z1d _⟩
 ·rw[YE hok hj h hu (by omega) hiu]
  exact⟨.inr,λhh=>hh.elim (λhh=>absurd hh e) id⟩
theorem akv{u:Nat}(hu:u<6):0<=qV k (at' l j) u/\qV k (at' l j) u<=1+cs l u j:=by
 have b:=bnd hok hj;have ht:(at' l j).aK.toNat<6:=by omega
 have ho:=h.l1 _ _ ht hu;unfold qV;by_cases k3:(at' l j).kind=3
 ·have b5:(at' l j).obj<5:=by have:=b.2.2.2;simp only[many,k3,z04,or_self,true_or,if_true,if_false] at this;exact this
  have:=h.l2 (at' l j).obj.toNat _ (by omega) hu
  rw[if_pos k3,jB hu];split<;>omega
 by_cases k7:(at' l j).kind=7
 ·have b5:(at' l j).obj<4:=by have:=b.2.2.2;simp only[many,k7,z04,or_self,true_or,if_true,if_false] at this;exact this
  have:=h.l3 (at' l j).obj.toNat _ (by omega) hu
  rw[if_neg k3,if_pos k7,jB hu];split<;>omega
 by_cases k6:(at' l j).kind=6
 ·have b5:(at' l j).obj<6:=by have:=b.2.2.2;simp only[many,k6,z04,or_self,or_true,if_true,if_false] at this;exact this
  have:=h.l1 (at' l j).obj.toNat _ (by omega) hu
  rw[if_neg k3,if_neg k7,if_pos k6,jB hu];split<;>omega
 ·rw[if_neg k3,if_neg k7,if_neg k6];exact ho
end
theorem FQ{k:Kp}{e:Ev}(h5:e.kind=5->e.obj.toNat≠e.aK.toNat)(u:Nat):(jD k e).aK e.aK.toNat u=if y7 e=true/\u=e.aK.toNat then z00.wrap (qV k e e.aK.toNat+1) else qV k e u:=by
 unfold jD qV y7;by_cases k3:e.kind=3
 ·simp[k3,Ud]
 by_cases k4:e.kind=4
 ·simp[k4,inC]
 by_cases k5:e.kind=5
 ·have:=h5 k5;simp[k5,inC,Ud,Ne.symm this]
 by_cases k6:e.kind=6
 ·simp[k6,Ud]
 by_cases k7:e.kind=7
 ·simp[k7,Ud]
 by_cases k8:e.kind=8
 ·simp[k8,inC]
 ·simp[k3,k4,k5,k6,k7,k8]
theorem vO{k:Kp}{e:Ev}{t:Nat}(ht:t≠e.aK.toNat)(u:Nat):(jD k e).aK t u=if e.kind=5/\t=e.obj.toNat then kY (k.aK e.obj.toNat) (k.aK e.aK.toNat) u else k.aK t u:=by
 unfold jD;by_cases k3:e.kind=3
 ·simp[k3,Ud,ht]
 by_cases k4:e.kind=4
 ·simp[k4,inC,ht]
 by_cases k5:e.kind=5
 ·simp[k5,inC,Ud,ht]
 by_cases k6:e.kind=6
 ·simp[k6,Ud,ht]
 by_cases k7:e.kind=7
 ·simp[k7,Ud,ht]
 by_cases k8:e.kind=8
 ·simp[k8,inC,ht]
 ·simp[k3,k4,k5,k6,k7,k8]
theorem O7{k:Kp}{e:Ev}(m u:Nat):(jD k e).lk m u=if e.kind=4/\m=e.obj.toNat then k.aK e.aK.toNat u else k.lk m u:=by
 unfold jD;by_cases k3:e.kind=3
 ·simp[k3]
 by_cases k4:e.kind=4
 ·simp[k4,Ud]
 by_cases k5:e.kind=5
 ·simp[k5]
 by_cases k6:e.kind=6
 ·simp[k6]
 by_cases k7:e.kind=7
 ·simp[k7]
 by_cases k8:e.kind=8
 ·simp[k8]
 ·simp[k3,k4,k5,k6,k7,k8]
theorem O8{k:Kp}{e:Ev}(m u:Nat):(jD k e).vl m u=if e.kind=8/\m=e.obj.toNat then kY (k.vl e.obj.toNat) (k.aK e.aK.toNat) u else k.vl m u:=by
 unfold jD;by_cases k3:e.kind=3
 ·simp[k3]
 by_cases k4:e.kind=4
 ·simp[k4]
 by_cases k5:e.kind=5
 ·simp[k5]
 by_cases k6:e.kind=6
 ·simp[k6]
 by_cases k7:e.kind=7
 ·simp[k7]
 by_cases k8:e.kind=8
 ·simp[k8,Ud]
 ·simp[k3,k4,k5,k6,k7,k8]
theorem akw{l:List Ev}{j t i:Nat}:TS l (j+1) t i↔TS l j t i\/(Le' l i j/\((at' l j).aK.toNat=t\/(at' l j).kind=5/\(at' l j).obj.toNat=t)):=by
 constructor
 ·rintro⟨c,hc,h1,h2⟩;by_cases e:c=j
  ·subst e;exact .inr ⟨h1,h2⟩
  ·exact .inl ⟨c,by omega,h1,h2⟩
 ·rintro(⟨c,hc,h1,h2⟩|⟨h1,h2⟩)
  ·exact⟨c,by omega,h1,h2⟩
  ·exact⟨j,by omega,h1,h2⟩
theorem akx{l:List Ev}{j m i:Nat}:LS l (j+1) m i↔LS l j m i\/(Le' l i j/\(at' l j).kind=4/\(at' l j).obj.toNat=m):=by
 constructor
 ·rintro⟨c,hc,h1,h2⟩;by_cases e:c=j
  ·subst e;exact .inr ⟨h1,h2⟩
  ·exact .inl ⟨c,by omega,h1,h2⟩
 ·rintro(⟨c,hc,h1,h2⟩|⟨h1,h2⟩)
  ·exact⟨c,by omega,h1,h2⟩
  ·exact⟨j,by omega,h1,h2⟩
theorem aky{l:List Ev}{j m i:Nat}:VS l (j+1) m i↔VS l j m i\/(Le' l i j/\(at' l j).kind=8/\(at' l j).obj.toNat=m):=by
 constructor
 ·rintro⟨c,hc,h1,h2⟩;by_cases e:c=j
  ·subst e;exact .inr ⟨h1,h2⟩
  ·exact .inl ⟨c,by omega,h1,h2⟩
 ·rintro(⟨c,hc,h1,h2⟩|⟨h1,h2⟩)
  ·exact⟨c,by omega,h1,h2⟩
  ·exact⟨j,by omega,h1,h2⟩
theorem agL{l:List Ev}{i c j:Nat}(hc:c<j)(h:Le' l i c):i<j:=by
 rcases h with h|h
 ·omega
 ·have:=h.lt;omega
theorem yU{l:List Ev}{j:Nat}(hj:j<l.length){u:Int}(h:ng (l.take (j+1)) 6 u=false):ng (l.take j) 6 u=false:=by rw[ou bP.bg hj] at h;simp only[ng,List.any_append,z16] at h;exact h.1
section
variable {l:List Ev} (hok:(bH l).2=0) {j:Nat} (hj:j<l.length) {k:Kp} (h:FI l j k)
include hok hj h
theorem akz{t:Nat}(ht:t<6)(hne:t≠(at' l j).aK.toNat):k.aK t (at' l j).aK.toNat<1+cs l (at' l j).aK.toNat j:=by
 have b:=bnd hok hj;refine h.s1 t _ ht (by omega) (λe=>hne e.symm) ?_
 have:=TA hok hj
 rwa [show(((at' l j).aK.toNat:Nat):Int)=(at' l j).aK by omega]
omit h in
theorem JE:ng (l.take j) 6 (((at' l j).aK.toNat:Nat):Int)=false:=by
 have b:=bnd hok hj;rw[show(((at' l j).aK.toNat:Nat):Int)=(at' l j).aK by omega]
 exact TA hok hj
theorem akA:FI l (j+1) (jD k (at' l j)):=by
 have b:=bnd hok hj;have ht:(at' l j).aK.toNat<6:=by omega
 have hlen:=jE hok;have h5:(at' l j).kind=5->(at' l j).obj.toNat≠(at' l j).aK.toNat:=by
  intro k5 e;have hb:=(xM hok hj).2.2.2.2.2.1 k5;have hm:=(xM hok hj).2.1;rw[show(at' l j).obj=(at' l j).aK by omega,hm] at hb
  cases hb
 have hc1:∀ u,cs l u (j+1)=cs l u j+if y7 (at' l j)=true/\(at' l j).aK.toNat=u then 1 else 0:=λu=>rfl
 have asQ:∀ u,cs l u j<=80:=λu=>Nat.le_trans (Tv u j) (by omega)
 have aqA:=Zc hok hj h;have meW:z00.wrap (qV k (at' l j) (at' l j).aK.toNat+1)=qV k (at' l j) (at' l j).aK.toNat+1:=z0h _ (by have:=asQ (at' l j).aK.toNat;omega)
 have hmono:∀ u,cs l u j<=cs l u (j+1):=λu=>Fq u (Nat.le_succ j);have hk4:(at' l j).kind=4->qV k (at' l j)=k.aK (at' l j).aK.toNat:=λe=>by simp[qV,e]
 have hk5:(at' l j).kind=5->qV k (at' l j)=k.aK (at' l j).aK.toNat:=λe=>by simp[qV,e]
 have hk8:(at' l j).kind=8->qV k (at' l j)=k.aK (at' l j).aK.toNat:=λe=>by simp[qV,e]
 have hst:∀ {n},(n=4\/n=5\/n=8)->(at' l j).kind=n->y7 (at' l j)=true:=λhn e=>agK.2 (by rw[e];exact hn)
 have meS:∀ u:Nat,u<6->y7 (at' l j)=true->ng (l.take j) 6 (u:Int)=false->k.aK (at' l j).aK.toNat u<1+cs l u (j+1):=by
  intro u hu hs hov;by_cases e:u=(at' l j).aK.toNat
  ·subst e;rw[h.own _ ht,hc1,if_pos ⟨hs,rfl⟩];omega
  ·have:=h.s1 _ u ht hu e hov;have:=hmono u;omega
 have preS:∀ u:Nat,u<6->u≠(at' l j).aK.toNat->ng (l.take (j+1)) 6 (u:Int)=false->qV k (at' l j) u<1+cs l u j:=by
  intro u hu hne hov;have Ai:=yU hj hov;have h1:=h.s1 _ u ht hu hne Ai;unfold qV;by_cases k3:(at' l j).kind=3
  ·have b5:(at' l j).obj<5:=by have:=b.2.2.2;simp only[many,k3,z04,or_self,true_or,if_true,if_false] at this;exact this
   rw[if_pos k3,Cb hu];exact⟨h1,h.s2 _ u (by omega) hu Ai⟩
  by_cases k7:(at' l j).kind=7
  ·have b5:(at' l j).obj<4:=by have:=b.2.2.2;simp only[many,k7,z04,or_self,true_or,if_true,if_false] at this;exact this
   rw[if_neg k3,if_pos k7,Cb hu];exact⟨h1,h.s3 _ u (by omega) hu Ai⟩
  by_cases k6:(at' l j).kind=6
  ·have b5:(at' l j).obj<6:=by have:=b.2.2.2;simp only[many,k6,z04,or_self,or_true,if_true,if_false] at this;exact this
   rw[if_neg k3,if_neg k7,if_pos k6,Cb hu];refine⟨h1,h.s1 _ u (by omega) hu (λe=> ?_) Ai⟩
   have:ng (l.take (j+1)) 6 (u:Int)=true:=(afj (show j+1<=l.length by omega)).2 ⟨j,z07 _,k6,by omega⟩
   rw[this] at hov;cases hov
  ·rw[if_neg k3,if_neg k7,if_neg k6];exact h1
 refine⟨?_,?_,?_,?_,?_,?_,?_,?_,?_,?_⟩
 ·intro t u i ht' hu hi hiu;rw[akw];by_cases e:t=(at' l j).aK.toNat
  ·subst e;rw[FQ h5];have key:(TS l j (at' l j).aK.toNat i\/(Le' l i j/\((at' l j).aK.toNat=(at' l j).aK.toNat\/(at' l j).kind=5/\(at' l j).obj.toNat=(at' l j).aK.toNat)))↔Le' l i j:=
    ⟨λhh=>hh.elim (λhh=> .inr ((IY hok hj i).2 (.inl hh))) (λhh=>hh.1),λhh=> .inr ⟨hh, .inl rfl⟩⟩
   rw[key,<- O6 hok hj h hu hi hiu];split
   ·rename_i hs;obtain⟨_,rfl⟩:=hs;have:cs l (at' l j).aK.toNat i<=cs l (at' l j).aK.toNat j:=Fq _ (by omega)
    rw[meW];omega
   ·exact Iff.rfl
  ·rw[vO e];by_cases e5:(at' l j).kind=5/\t=(at' l j).obj.toNat
   ·rw[if_pos e5,join_le hu,<- hk5 e5.1,O6 hok hj h hu hi hiu];obtain⟨e5,rfl⟩:=e5;by_cases ei:i=j
    ·subst ei;exact⟨λ_=> .inr ⟨.inl rfl, .inr ⟨e5,rfl⟩⟩,λ_=> .inr (.inl rfl)⟩
    ·rw[h.c1 _ _ _ ht' hu (by omega) hiu]
     exact⟨λhh=>hh.elim .inl (λhh=> .inr ⟨hh, .inr ⟨e5,rfl⟩⟩),λhh=>hh.elim .inl (λhh=> .inr hh.1)⟩
   ·rw[if_neg e5];have key:(TS l j t i\/(Le' l i j/\((at' l j).aK.toNat=t\/(at' l j).kind=5/\(at' l j).obj.toNat=t)))↔TS l j t i:=
     ⟨λhh=>hh.elim id (λhh=>hh.2.elim (λhh=>absurd hh.symm e) (λhh=>absurd ⟨hh.1,hh.2.symm⟩ e5)), .inl⟩
    rw[key];by_cases ei:i=j
    ·subst ei;have:=akz hok hj h ht' e;rw[hiu] at this;exact⟨λhh=>by omega,λ⟨c,hc,h1,_⟩=>absurd (agL hc h1) (z14 _)⟩
    ·exact h.c1 _ _ _ ht' hu (by omega) hiu
 ·intro m u i hm hu hi hiu;rw[akx,O7];by_cases e4:(at' l j).kind=4/\m=(at' l j).obj.toNat
  ·rw[if_pos e4,<- hk4 e4.1,O6 hok hj h hu hi hiu];obtain⟨e4,rfl⟩:=e4;refine⟨λhh=> .inr ⟨hh,e4,rfl⟩,λhh=>hh.elim (λ⟨c,hc,h1,h2,h3⟩=> ?_) (λhh=>hh.1)⟩;have hd:=aku hok hj e4 hc h2 h3;rcases h1 with h1|h1
   ·exact .inr (h1▸hd)
   ·exact .inr (Am.trans h1 hd)
  ·rw[if_neg e4];have key:(LS l j m i\/(Le' l i j/\(at' l j).kind=4/\(at' l j).obj.toNat=m))↔LS l j m i:=
    ⟨λhh=>hh.elim id (λhh=>absurd ⟨hh.2.1,hh.2.2.symm⟩ e4), .inl⟩
   rw[key];by_cases ei:i=j
   ·subst ei;have:=h.s2 m (at' l i).aK.toNat hm (by omega) (JE hok hj)
    rw[hiu] at this;exact⟨λhh=>by omega,λ⟨c,hc,h1,_⟩=>absurd (agL hc h1) (z14 _)⟩
   ·exact h.c2 _ _ _ hm hu (by omega) hiu
 ·intro m u i hm hu hi hiu;rw[aky,O8];by_cases e8:(at' l j).kind=8/\m=(at' l j).obj.toNat
  ·rw[if_pos e8,join_le hu,<- hk8 e8.1,O6 hok hj h hu hi hiu];obtain⟨e8,rfl⟩:=e8;by_cases ei:i=j
   ·subst ei;exact⟨λ_=> .inr ⟨.inl rfl,e8,rfl⟩,λ_=> .inr (.inl rfl)⟩
   ·rw[h.c3 _ _ _ hm hu (by omega) hiu]
    exact⟨λhh=>hh.elim .inl (λhh=> .inr ⟨hh,e8,rfl⟩),λhh=>hh.elim .inl (λhh=> .inr hh.1)⟩
  ·rw[if_neg e8];have key:(VS l j m i\/(Le' l i j/\(at' l j).kind=8/\(at' l j).obj.toNat=m))↔VS l j m i:=
    ⟨λhh=>hh.elim id (λhh=>absurd ⟨hh.2.1,hh.2.2.symm⟩ e8), .inl⟩
   rw[key];by_cases ei:i=j
   ·subst ei;have:=h.s3 m (at' l i).aK.toNat hm (by omega) (JE hok hj)
    rw[hiu] at this;exact⟨λhh=>by omega,λ⟨c,hc,h1,_⟩=>absurd (agL hc h1) (z14 _)⟩
   ·exact h.c3 _ _ _ hm hu (by omega) hiu
 ·intro t ht';by_cases e:t=(at' l j).aK.toNat
  ·subst e;rw[FQ h5,hc1];by_cases hs:y7 (at' l j)=true
   ·rw[if_pos ⟨hs,rfl⟩,if_pos ⟨hs,rfl⟩,meW,aqA];omega
   ·rw[if_neg (λhh=>hs hh.1),if_neg (λhh=>hs hh.1),aqA];omega
  ·rw[vO e,hc1,if_neg (λhh:y7 (at' l j)=true/\(at' l j).aK.toNat=t=>e hh.2.symm)];split
   ·rename_i e5;obtain⟨e5,rfl⟩:=e5;have h1:=h.own _ ht';have h2:=h.l1 _ (at' l j).obj.toNat ht ht';rw[jB ht'];split<;>omega
   ·exact h.own _ ht'
 ·intro t u ht' hu hne hov;have Ai:=yU hj hov;have hm:=hmono u;by_cases e:t=(at' l j).aK.toNat
  ·subst e;rw[FQ h5,if_neg (λhh=>hne hh.2)];have:=preS u hu hne hov;omega
  ·rw[vO e];split
   ·rename_i e5;obtain⟨e5,rfl⟩:=e5;rw[Cb hu];have h1:=h.s1 _ u ht' hu hne Ai;have h2:=meS u hu (hst (.inr (.inl rfl)) e5) Ai;exact⟨by omega,h2⟩
   ·have:=h.s1 _ u ht' hu hne Ai;omega
 ·intro m u hm' hu hov;have Ai:=yU hj hov;have hm:=hmono u;rw[O7];split
  ·rename_i e4;exact meS u hu (hst (.inl rfl) e4.1) Ai
  ·have:=h.s2 _ u hm' hu Ai;omega
 ·intro m u hm' hu hov;have Ai:=yU hj hov;have hm:=hmono u;rw[O8];split
  ·rename_i e8;obtain⟨e8,rfl⟩:=e8;rw[Cb hu];have h1:=h.s3 _ u hm' hu Ai;exact⟨by omega,meS u hu (hst (.inr (.inr rfl)) e8) Ai⟩
  ·have:=h.s3 _ u hm' hu Ai;omega
 ·intro t u ht' hu;have hm:=hmono u;by_cases e:t=(at' l j).aK.toNat
  ·subst e;rw[FQ h5];have hp:=akv hok hj h hu;split
   ·rename_i hs;obtain⟨hs,rfl⟩:=hs;rw[hc1,if_pos ⟨hs,rfl⟩,meW];omega
   ·omega
  ·rw[vO e];have h1:=h.l1 _ u ht' hu;have h2:=h.l1 _ u ht hu;split
   ·rename_i e5;obtain⟨e5,rfl⟩:=e5;rw[jB hu];split<;>omega
   ·omega
 ·intro m u hm' hu;have hm:=hmono u;have h1:=h.l2 _ u hm' hu;have h2:=h.l1 _ u ht hu;rw[O7];split<;>omega
 ·intro m u hm' hu;have hm:=hmono u;have h1:=h.l3 _ u hm' hu;have h2:=h.l1 _ u ht hu;rw[O8];split
  ·rename_i e8;obtain⟨e8,rfl⟩:=e8;rw[jB hu];split<;>omega
  ·omega
end
end Go.Proofs.Ytpajfggdnobheaa.Fu
end
section
open Go Go.Sx Go.Proofs
namespace Go.Proofs.Ytpajfggdnobheaa.Fu
variable {main:Bool} {Fz:Nat->Prop}
open D Tr C Ah Ps Od St Rc
theorem agM{k:Kp}{e:Ev}(h:cO e=true):jD k e=k:=by simp only[cO,z08,decide_eq_true_eq] at h;unfold jD;rcases h with h|h<;>simp[h]
theorem abI(l:List Ev)(j:Nat):runK l (j+1)=jD (runK l j) (at' l j):=by
 show(if cO (at' l j)=true then runK l j else jD (runK l j) (at' l j))=_
 by_cases h:cO (at' l j)=true
 ·rw[if_pos h,agM h]
 ·rw[if_neg h]
section
variable {l:List Ev} (hok:(bH l).2=0)
include hok
theorem Eu:∀ {j:Nat},j<=l.length->FI l j (runK l j)
 |0,_=>by
  refine⟨λt u i _ _ hi=>absurd hi (z0d _),λt u i _ _ hi=>absurd hi (z0d _),λt u i _ _ hi=>absurd hi (z0d _),?_,?_,?_,?_,?_,?_,?_⟩
  ·intro t ht;simp[runK,uf,ht,cs]
  ·intro t u ht hu hne _;simp[runK,uf,ht,cs,hne]
  ·intro m u _ _ _;simp[runK,uf,cs]
  ·intro m u _ _ _;simp[runK,uf,cs]
  ·intro t u ht hu;simp only[runK,uf,cs];split<;>simp
  ·intro m u _ _;simp[runK,uf,cs]
  ·intro m u _ _;simp[runK,uf,cs]
 |j+1,hj=>by rw[abI];exact akA hok (by omega) (Eu (by omega))
theorem agN{j:Nat}(hj:j<=l.length)(t:Nat):EZ l j t=cs l t j:=by
 have hlen:=jE hok
 induction j with
 |zero=>rfl
 |succ j ih=>
  have ih:=ih (by omega)
  have hb:=Tv (l:=l) t j;show(if y7 (at' l j)=true then zF (EZ l j) (at' l j).aK.toNat (z00.wrap (EZ l j (at' l j).aK.toNat+1)) else EZ l j) t=_
  rw[cs];by_cases hs:y7 (at' l j)=true
  ·rw[if_pos hs,zF];by_cases e:t=(at' l j).aK.toNat
   ·rw[if_pos e,<- e,if_pos ⟨hs,rfl⟩,ih];exact aJ
   ·rw[if_neg e,if_neg (λhh=>e hh.2.symm),ih];simp
  ·rw[if_neg hs,if_neg (λhh=>hs hh.1),ih];simp
theorem Aj(kk x:Int):∀ {j:Nat},j<=l.length->∀ u,(mP l kk x j u=0/\∀ i,i<j->¬ ((at' l i).kind=kk/\(at' l i).obj=x/\(at' l i).aK.toNat=u))\/
  ∃ i,i<j/\(at' l i).kind=kk/\(at' l i).obj=x/\(at' l i).aK.toNat=u/\mP l kk x j u=1+cs l u i/\∀ i',i'<j->(at' l i').kind=kk/\(at' l i').obj=x/\(at' l i').aK.toNat=u->i'<=i
 |0,_,u=> .inl ⟨rfl,λi hi=>absurd hi (z0d _)⟩
 |j+1,hj,u=>by
  have hlen:=jE hok;have ih:=Aj kk x (j:=j) (by omega) u
  have hs:mP l kk x (j+1) u=if ((at' l j).kind=kk/\(at' l j).obj=x)/\u=(at' l j).aK.toNat then 1+(cs l u j:Int) else mP l kk x j u:=by
   show(if (at' l j).kind=kk/\(at' l j).obj=x then zF (mP l kk x j) (at' l j).aK.toNat (z00.wrap (EZ l j (at' l j).aK.toNat+1)) else mP l kk x j) u=_
   have hb:=Tv (l:=l) u j;by_cases hk:(at' l j).kind=kk/\(at' l j).obj=x
   ·rw[if_pos hk,zF];by_cases e:u=(at' l j).aK.toNat
    ·rw[if_pos e,if_pos ⟨hk,e⟩,<- e,agN hok (by omega),aJ];omega
    ·rw[if_neg e,if_neg (λhh=>e hh.2)]
   ·rw[if_neg hk,if_neg (λhh=>hk hh.1)]
  rw[hs];by_cases hk:((at' l j).kind=kk/\(at' l j).obj=x)/\u=(at' l j).aK.toNat
  ·rw[if_pos hk];exact .inr ⟨j,z07 _,hk.1.1,hk.1.2,hk.2.symm,rfl,λi' hi' _=>by omega⟩
  ·rw[if_neg hk];rcases ih with⟨h1,h2⟩|⟨i,hi,h1,h2,h3,h4,h5⟩
   ·refine .inl ⟨h1,λi hi hh=> ?_⟩;by_cases e:i=j
    ·subst e;exact hk ⟨⟨hh.1,hh.2.1⟩,hh.2.2.symm⟩
    ·exact h2 i (by omega) hh
   ·refine .inr ⟨i,by omega,h1,h2,h3,h4,λi' hi' hh=> ?_⟩
    by_cases e:i'=j
    ·subst e;exact absurd ⟨⟨hh.1,hh.2.1⟩,hh.2.2.symm⟩ hk
    ·exact h5 i' (by omega) hh
theorem within_iff{j:Nat}(hj:j<l.length)(ha:cO (at' l j)=true)(kk x:Int){w:jH}(hw:∀ u,u<6->w u=mP l kk x j u):
  jK w ((runK l j).aK (at' l j).aK.toNat)=true↔∀ i,i<j->(at' l i).kind=kk->(at' l i).obj=x->tN l i j:=by
 have hF:=Eu hok (z0g hj);have b:=bnd hok hj;have ht:(at' l j).aK.toNat<6:=by omega
 have hpast:∀ i,tN l i j↔TS l j (at' l j).aK.toNat i:=λi=>by rw[IY hok hj];simp only[cO,z08,decide_eq_true_eq] at ha;rcases ha with ha|ha<;>simp[ha]
 have hW:jK w ((runK l j).aK (at' l j).aK.toNat)=true↔∀ u,u<6->mP l kk x j u<=(runK l j).aK (at' l j).aK.toNat u:=by simp only[jK,List.all_eq_true,z0y,decide_eq_true_eq];refine forall_congr' λu=>imp_congr_right λhu=> ?_;rw[jB hu,hw u hu];split<;>omega
 rw[hW];constructor
 ·intro h i hi hk hx;have bi:=bnd hok (show i<l.length by omega)
  have hu:(at' l i).aK.toNat<6:=by omega
  rcases Aj hok kk x (z0g hj) (at' l i).aK.toNat with⟨_,h2⟩|⟨i',hi',h1,h2,h3,h4,h5⟩
  ·exact absurd ⟨hk,hx,rfl⟩ (h2 i hi)
  ·have hle:=h5 i hi ⟨hk,hx,rfl⟩;have hc:=h _ hu;rw[h4,hF.c1 _ _ _ ht hu hi' h3,<- hpast] at hc;by_cases e:i=i'
   ·subst e;exact hc
   ·exact Am.trans (Bz hok (by omega) (by omega) (.inl (.inl h3.symm))) hc
 ·intro h u hu;rcases Aj hok kk x (z0g hj) u with⟨h1,_⟩|⟨i,hi,h1,h2,h3,h4,_⟩
  ·rw[h1];exact(hF.l1 _ _ ht hu).1
  ·rw[h4,hF.c1 _ _ _ ht hu hi h3,<- hpast];exact h i hi h1 h2
end
theorem qQ{l:List Ev}{i:Nat}{r:Rc}:∀ {n:Nat},r∈tu l i n↔∃ j,j<n/\noRace l i j (at' l i) (at' l j)=false/\r=⟨i,j,(at' l i).obj,nI (at' l i) (at' l j)⟩
 |0=>by simp[tu]
 |n+1=>by
  have hs:tu l i (n+1)=tu l i n++if noRace l i n (at' l i) (at' l n)=true then[] else[⟨i,n,(at' l i).obj,nI (at' l i) (at' l n)⟩]:=rfl
  rw[hs,z0b,qQ (n:=n)];constructor
  ·rintro(⟨j,h1,h2,h3⟩|h)
   ·exact⟨j,by omega,h2,h3⟩
   ·split at h
    ·cases h
    ·rename_i hn;simp only[z0e,z0i,or_false] at h;exact⟨n,z07 _,by simpa using hn,h⟩
  ·rintro⟨j,h1,h2,h3⟩;by_cases e:j=n
   ·subst e;refine .inr ?_;rw[if_neg (by rw[h2];simp),h3];simp
   ·exact .inl ⟨j,by omega,h2,h3⟩
theorem qP{l:List Ev}{r:Rc}:∀ {n:Nat},r∈Bg l n↔∃ i,i<n/\r∈tu l i l.length
 |0=>by simp[Bg]
 |n+1=>by
  rw[Bg,z0b,qP (n:=n)];constructor
  ·rintro(⟨i,h1,h2⟩|h)
   ·exact⟨i,by omega,h2⟩
   ·exact⟨n,z07 _,h⟩
  ·rintro⟨i,h1,h2⟩;by_cases e:i=n
   ·subst e;exact .inr h2
   ·exact .inl ⟨i,by omega,h2⟩
theorem Zd{rs:List Rc}(hp:∀ r,r∈rs->0<r.kind)(j:Int):∀ {n:Nat},n<=rs.length->(kR rs j n=0/\∀ r,r∈rs.take n->r.b≠j)\/((∃ r,r∈rs/\r.b=j/\r.kind=kR rs j n)/\∀ r,r∈rs.take n->r.b=j->kR rs j n<=r.kind)
 |0,_=> .inl ⟨rfl,λr hr=>by simp at hr⟩
 |n+1,hn=>by
  have hmem:=getD_mem (l:=rs) (i:=n) (d:=zu.bg) (by omega)
  have hpos:=hp _ hmem;rw[ou zu.bg (show n<rs.length by omega),kR]
  rcases Zd hp j (n:=n) (by omega) with⟨h1,h2⟩|⟨⟨r0,h0,hb0,hk0⟩,h2⟩
  ·by_cases hb:(rs.getD n zu.bg).b=j
   ·rw[if_pos ⟨hb, .inl h1⟩];refine .inr ⟨⟨_,hmem,hb,rfl⟩,λr hr hrb=> ?_⟩;rcases z0b.1 hr with hr|hr
    ·exact absurd hrb (h2 r hr)
    ·simp only[z0e,z0i,or_false] at hr;subst hr;exact z1d _
   ·rw[if_neg (λhh=>hb hh.1)];refine .inl ⟨h1,λr hr=> ?_⟩;rcases z0b.1 hr with hr|hr
    ·exact h2 r hr
    ·simp only[z0e,z0i,or_false] at hr;subst hr;exact hb
  ·have hk:=hp _ h0;split
   ·rename_i hc;refine .inr ⟨⟨_,hmem,hc.1,rfl⟩,λr hr hrb=> ?_⟩;rcases z0b.1 hr with hr|hr
    ·have:=h2 r hr hrb;omega
    ·simp only[z0e,z0i,or_false] at hr;subst hr;exact z1d _
   ·rename_i hc;refine .inr ⟨⟨r0,h0,hb0,hk0⟩,λr hr hrb=> ?_⟩;rcases z0b.1 hr with hr|hr
    ·exact h2 r hr hrb
    ·simp only[z0e,z0i,or_false] at hr;subst hr;refine Int.not_lt.1 λhlt=>hc ⟨hrb, .inr hlt⟩
theorem Dv(a b:Ev):0<nI a b:=by
 unfold nI;split
 ·decide
 ·split<;>decide
section
variable {l:List Ev} (hok:(bH l).2=0)
include hok
theorem vG{i:Nat}(hi:i<l.length):1<=(at' l i).kind/\(at' l i).kind<=8:=by
 have b:=bnd hok hi;have:=b.2.2;unfold many at this;by_cases h:1<=(at' l i).kind/\(at' l i).kind<=8
 ·exact h
 ·rw[if_neg (by omega),if_neg (by omega),if_neg (by omega),if_neg (by omega)] at this;omega
theorem Jg{i j:Nat}(hi:i<l.length)(hj:j<l.length):noRace l i j (at' l i) (at' l j)=false↔i<j/\cO (at' l i)=true/\cO (at' l j)=true/\(at' l i).obj=(at' l j).obj/\¬ ((at' l i).kind=1/\(at' l j).kind=1)/\¬ tN l i j:=by
 have k1:=vG hok hi;have k2:=vG hok hj;have hw:z00.wrap ((at' l i).kind+(at' l j).kind)=(at' l i).kind+(at' l j).kind:=aJ;have ha:gZ l i j=false↔¬ tN l i j:=by rw[<- ji (z0g hj)];simp
 unfold noRace;rw[hw];simp only[z16,decide_eq_false_iff_not,Bool.not_eq_false',decide_eq_true_eq,ha,cO,z08];constructor
 ·rintro⟨⟨⟨⟨⟨h1,h2⟩,h3⟩,h4⟩,h5⟩,h6⟩;exact⟨by omega,by omega,by omega,h4,by omega,h6⟩
 ·rintro⟨h1,h2,h3,h4,h5,h6⟩;exact⟨⟨⟨⟨⟨by omega,by omega⟩,by omega⟩,h4⟩,by omega⟩,h6⟩
omit hok in
theorem IG{j:Nat}(hj:j<l.length):(Zb l j=0/\∀ i,i<l.length->noRace l i j (at' l i) (at' l j)=true)\/
  ((∃ i,i<l.length/\noRace l i j (at' l i) (at' l j)=false/\nI (at' l i) (at' l j)=Zb l j)/\∀ i,i<l.length->noRace l i j (at' l i) (at' l j)=false->Zb l j<=nI (at' l i) (at' l j)):=by
 have hm:∀ r,r∈gu l↔∃ i,i<l.length/\∃ j,j<l.length/\noRace l i j (at' l i) (at' l j)=false/\r=⟨i,j,(at' l i).obj,nI (at' l i) (at' l j)⟩:=λr=>by rw[gu,qP];exact exists_congr λi=>and_congr_right λ_=>qQ
 have hp:∀ r,r∈gu l->0<r.kind:=λr hr=>by obtain⟨i,_,j',_,_,rfl⟩:=(hm r).1 hr;exact Dv _ _
 have ht:∀ i,i<l.length->noRace l i j (at' l i) (at' l j)=false->(⟨i,j,(at' l i).obj,nI (at' l i) (at' l j)⟩:Rc)∈(gu l).take (gu l).length:=λi hi hn=>by rw[List.take_length];exact(hm _).2 ⟨i,hi,j,hj,hn,rfl⟩
 rcases Zd hp (j:Int) (z03 _) with⟨h1,h2⟩|⟨⟨r,hr,hb,hk⟩,h2⟩
 ·refine .inl ⟨h1,λi hi=> ?_⟩;cases hn:noRace l i j (at' l i) (at' l j) with
  |true=>rfl
  |false=>exact absurd rfl (h2 _ (ht i hi hn))
 ·refine .inr ⟨?_,λi hi hn=>h2 _ (ht i hi hn) rfl⟩;obtain⟨i,hi,j',hj',hn,rfl⟩:=(hm r).1 hr;have e:j'=j:=by simp only at hb;omega
  subst e;exact⟨i,hi,hn,hk⟩
theorem O9:∀ {j:Nat},j<=l.length->∀ x u,(nY l j).rd x u=mP l 1 x j u/\(nY l j).wr x u=mP l 2 x j u
 |0,_,x,u=>⟨rfl,rfl⟩
 |j+1,hj,x,u=>by
  have ih:=O9 (j:=j) (by omega) x
  have b:=bnd hok (show j<l.length by omega)
  have ht:(at' l j).aK.toNat<6:=by omega
  have hown:(runK l j).aK (at' l j).aK.toNat (at' l j).aK.toNat=z00.wrap (EZ l j (at' l j).aK.toNat+1):=by have hlen:=jE hok;have hb:=Tv (l:=l) (at' l j).aK.toNat j;rw[(Eu hok (show j<=l.length by omega)).own _ ht,agN hok (by omega),aJ];omega
  have hs:∀ k:Int,mP l k x (j+1) u=if (at' l j).kind=k/\(at' l j).obj=x then zF (mP l k x j) (at' l j).aK.toNat (z00.wrap (EZ l j (at' l j).aK.toNat+1)) u else mP l k x j u:=λk=>by
   show(if (at' l j).kind=k/\(at' l j).obj=x then zF (mP l k x j) (at' l j).aK.toNat (z00.wrap (EZ l j (at' l j).aK.toNat+1)) else mP l k x j) u=_
   split<;>rfl
  have hv:nY l (j+1)=if cO (at' l j)=true then Xr (nY l j) (at' l j).obj.toNat (at' l j) ((runK l j).aK (at' l j).aK.toNat) else nY l j:=rfl
  rw[hv,hs,hs];by_cases ha:cO (at' l j)=true
  ·rw[if_pos ha];simp only[cO,z08,decide_eq_true_eq] at ha;unfold Xr;have hx:(x=(at' l j).obj.toNat)↔(at' l j).obj=x:=by omega
   by_cases k1:(at' l j).kind=1
   ·rw[if_pos k1,if_neg (show ¬ ((at' l j).kind=2/\(at' l j).obj=x) by omega)]
    refine⟨?_,(ih u).2⟩;simp only[seC,hown];by_cases e:(at' l j).obj=(x:Int)
    ·have e1:(at' l j).kind=1/\(at' l j).obj=(x:Int):=⟨k1,e⟩;rw[if_pos (hx.2 e),if_pos e1,zF,<- hx.2 e,(ih u).1]
    ·rw[if_neg (λhh=>e (hx.1 hh)),if_neg (λhh=>e hh.2),(ih u).1]
   ·have k2:(at' l j).kind=2:=by omega
    rw[if_neg k1,if_neg (λhh:(at' l j).kind=1/\(at' l j).obj=x=>k1 hh.1)];refine⟨(ih u).1,?_⟩;simp only[seC,hown];by_cases e:(at' l j).obj=(x:Int)
    ·have e1:(at' l j).kind=2/\(at' l j).obj=(x:Int):=⟨k2,e⟩;rw[if_pos (hx.2 e),if_pos e1,zF,<- hx.2 e,(ih u).2]
    ·rw[if_neg (λhh=>e (hx.1 hh)),if_neg (λhh=>e hh.2),(ih u).2]
  ·rw[if_neg ha];simp only[cO,z08,decide_eq_true_eq] at ha;rw[if_neg (by omega),if_neg (by omega)]
   exact ih u
theorem abe{j:Nat}(hj:j<l.length):lK l j=Zb l j:=by
 have kj:=vG hok hj;have b:=bnd hok hj;show(if cO (at' l j)=true then Xq (nY l j) (at' l j).obj.toNat (at' l j) ((runK l j).aK (at' l j).aK.toNat) else 0)=_
 have hsp:=IG hj;have hri:∀ {i},i<l.length->(noRace l i j (at' l i) (at' l j)=false↔_):=λhi=>Jg hok hi hj;by_cases ha:cO (at' l j)=true
 ·rw[if_pos ha];have hxo:(((at' l j).obj.toNat:Nat):Int)=(at' l j).obj:=by omega
  have wW:=within_iff hok hj ha 2 (at' l j).obj (w:=(nY l j).wr (at' l j).obj.toNat) (λu _=>by rw[(O9 hok (z0g hj) _ u).2,hxo])
  have wR:=within_iff hok hj ha 1 (at' l j).obj (w:=(nY l j).rd (at' l j).obj.toNat) (λu _=>by rw[(O9 hok (z0g hj) _ u).1,hxo])
  have hacc:∀ {i},cO (at' l i)=true↔(at' l i).kind=1\/(at' l i).kind=2:=by simp[cO]
  have two:∀ {kk:Int},¬ (∀ i,i<j->(at' l i).kind=kk->(at' l i).obj=(at' l j).obj->tN l i j)->∃ i,i<j/\(at' l i).kind=kk/\(at' l i).obj=(at' l j).obj/\¬ tN l i j:=by intro kk hh;refine z0v λhn=>hh λi hi hk hx=>z0v λhc=>hn ⟨i,hi,hk,hx,hc⟩
  unfold Xq;by_cases k1:(at' l j).kind=1
  ·rw[if_pos k1];by_cases hw:jK ((nY l j).wr (at' l j).obj.toNat) ((runK l j).aK (at' l j).aK.toNat)=true
   ·rw[if_pos hw];rcases hsp with⟨h1,_⟩|⟨⟨i,hi,hn,_⟩,_⟩
    ·exact h1.symm
    ·obtain⟨r1,r2,r3,r4,r5,r6⟩:=(hri hi).1 hn;have r2:=hacc.1 r2;exact absurd (wW.1 hw i r1 (by omega) r4) r6
   ·rw[if_neg hw];obtain⟨i,hi,hk,hx,hc⟩:=two (λhh=>hw (wW.2 hh));have hn:=(hri (show i<l.length by omega)).2 ⟨hi,hacc.2 (.inr hk),ha,hx,by omega,hc⟩
    rcases hsp with⟨_,h2⟩|⟨⟨i0,hi0,hn0,hk0⟩,_⟩
    ·rw[h2 i (by omega)] at hn;cases hn
    ·obtain⟨r1,r2,r3,r4,r5,r6⟩:=(hri hi0).1 hn0;have r2:=hacc.1 r2;rw[<- hk0,nI,if_neg (by omega),if_pos k1]
  ·have k2:(at' l j).kind=2:=by have:=hacc.1 ha;omega
   rw[if_neg k1];by_cases hw:jK ((nY l j).wr (at' l j).obj.toNat) ((runK l j).aK (at' l j).aK.toNat)=true
   ·rw[if_pos hw];by_cases hr:jK ((nY l j).rd (at' l j).obj.toNat) ((runK l j).aK (at' l j).aK.toNat)=true
    ·rw[if_pos hr];rcases hsp with⟨h1,_⟩|⟨⟨i,hi,hn,_⟩,_⟩
     ·exact h1.symm
     ·obtain⟨r1,r2,r3,r4,r5,r6⟩:=(hri hi).1 hn;rcases hacc.1 r2 with r2|r2
      ·exact absurd (wR.1 hr i r1 r2 r4) r6
      ·exact absurd (wW.1 hw i r1 r2 r4) r6
    ·rw[if_neg hr];obtain⟨i,hi,hk,hx,hc⟩:=two (λhh=>hr (wR.2 hh));have hn:=(hri (show i<l.length by omega)).2 ⟨hi,hacc.2 (.inl hk),ha,hx,by omega,hc⟩
     rcases hsp with⟨_,h2⟩|⟨⟨i0,hi0,hn0,hk0⟩,_⟩
     ·rw[h2 i (by omega)] at hn;cases hn
     ·obtain⟨r1,r2,r3,r4,r5,r6⟩:=(hri hi0).1 hn0;rcases hacc.1 r2 with r2|r2
      ·rw[<- hk0,nI,if_pos r2]
      ·exact absurd (wW.1 hw i0 r1 r2 r4) r6
   ·rw[if_neg hw];obtain⟨i,hi,hk,hx,hc⟩:=two (λhh=>hw (wW.2 hh));have hn:=(hri (show i<l.length by omega)).2 ⟨hi,hacc.2 (.inr hk),ha,hx,by omega,hc⟩
    rcases hsp with⟨_,h2⟩|⟨⟨i0,hi0,hn0,hk0⟩,hle⟩
    ·rw[h2 i (by omega)] at hn;cases hn
    ·have:=hle i (by omega) hn
     have hk1:nI (at' l i) (at' l j)=1:=by rw[nI,if_neg (by omega),if_neg k1]
     have:=Dv (at' l i0) (at' l j);omega
 ·rw[if_neg ha];rcases hsp with⟨h1,_⟩|⟨⟨i,hi,hn,_⟩,_⟩
  ·exact h1.symm
  ·exact absurd ((hri hi).1 hn).2.2.1 ha
end
end Go.Proofs.Ytpajfggdnobheaa.Fu
end
end
