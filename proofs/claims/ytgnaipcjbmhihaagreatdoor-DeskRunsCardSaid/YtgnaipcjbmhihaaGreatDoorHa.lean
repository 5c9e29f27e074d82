/- A part of DeskRuns' proof. -/
import Derived.Test.YtgnaipcjbmhihaaGreatDoorGa
import Derived.Test.YtgnaipcjbmhihaaGreatDoorFa
import Derived.Test.YtgnaipcjbmhihaaGreatDoorRows
import Derived.WalkKit
import Derived.Test.YtgnaipcjbmhihaaGreatDoorEa
import Derived.Shelf.SlicesE.Kit
import Derived.Shelf.RegionOpenPlain
import Derived.Deep.LoopGhost
import Derived.Deep.RegionLaw
import Derived.Lib.Walk
import Derived.Sort.WalkB12
import Derived.Lib.SliceRun
import Derived.Shelf.Sort.Plain
import Derived.Shelf.Slices.CompactI
import Derived.Lib.SlicesCompact
import Derived.Shelf.Slices.In.SortNone
set_option linter.unusedVariables false
set_option linter.unusedSimpArgs false
open List renaming getD_cons_zero->z00,length_append->z01,map_cons->z02,nil_append->z03,map_nil->z04,mem_append->z06,getD_cons_succ->z07,set_cons_zero->z09,mem_singleton->z0a,take_zero->z0b,set_cons_succ->z0c,length_cons->z0d,mem_cons->z0e,not_mem_nil->z0f,mem_cons_self->z0g,map_congr_left->z0h,take_length->z0i,length_take->z0j,length_nil->z0l,mem_cons_of_mem->z0n,getElem?_append_right->z0o,getD->z0r,map_append->z0s,map_map->z0u,append_assoc->z0v,getElem?_eq_getElem->z0w,length_eq_zero_iff->z0x,mem_map->z15,length_pos_iff_exists_mem->z16,any_eq_true->z18,length_map->z1a,append_nil->z1b,getElem?_eq_some_iff->z1c,getElem?_append_left->z1d,drop_eq_nil_of_le->z1f,pairwise_append->z1g,mem_iff_getElem->z1h,flatMap_append->z1i,range->z1j,cons_append->z1m,mem_range->z1p
open Go.IntKind renaming i64->z05
open Nat renaming le_refl->z08,le_trans->z0k,le_of_lt->z0p,lt_succ_self->z19,add_sub_cancel->z1l,mul_le_mul->z1q
open Int renaming toNat_natCast->z0m,reduceEq->z0q,toNat_of_nonneg->z1k
open Bool renaming or_eq_true->z0t,or_eq_false_iff->z0y,false_eq_true->z14
open Go.Lib renaming compact->z0z
open Go.Value renaming agg->z1e
open Go.World renaming grownBy->z1o
set_option maxRecDepth 100000
open Go Go.Sx Go.Proofs
namespace Go.Proofs.YtgnaipcjbmhihaaGreatDoor.Gu
open D Tr
structure RG where
 g:Gs
 w:List Fl
 c:Nat->Int
def Dj(g:Gs)(x:Nat)(a b c:Int):Gs:=⟨λk=>if k=x then a else g.st k,λk=>if k=x then b else g.th k,λk=>if k=x then c else g.lk k⟩
def GR(s:RG)(i:Nat)(e:Ev)(locks:Int):RG:=
 let x:=e.obj.toNat
 let c:Nat->Int:=λk=>if k=x then mM .i64 (s.c x) locks else s.c k
 if s.g.st x=0 then⟨Dj s.g x 1 e.aC 31,s.w,c⟩
 else if s.g.st x=1/\s.g.th x=e.aC then⟨s.g,s.w,c⟩
 else
  let st:=if e.kind=2\/s.g.st x=3 then 3 else 2
  let lk:=mM .i64 (s.g.lk x) locks
  ⟨Dj s.g x st (s.g.th x) lk,if st=3/\lk=0 then s.w++[⟨i,e.obj,0⟩] else s.w,c⟩
def g0(n:Nat):Gs:=⟨λ_=>0,λ_=>0,λk=>if k<n then 31 else 0⟩
def c0(n:Nat):Nat->Int:=λk=>if k<n then 31 else 0
def RR(l:List Ev):Nat->RG
 |0=>⟨g0 8,[],c0 8⟩
 |i+1=>if 2< (l.getD i aO.aI).kind then RR l i else GR (RR l i) i (l.getD i aO.aI) (qV (l.take i) (l.getD i aO.aI).aC 5)
theorem agd(s:RG)(i:Nat)(e:Ev)(locks:Int):(GR s i e locks).w.length<=s.w.length+1:=by
 simp only[GR];split
 ·simp only;omega
 ·split
  ·simp only;omega
  ·simp only;generalize (if e.kind=2\/s.g.st e.obj.toNat=3 then(3:Int) else 2)=q
   split
   ·simp
   ·omega
theorem agf(l:List Ev):∀ i,(RR l i).w.length<=i
 |0=>z08 _
 |i+1=>by
  have:=agf l i;simp only[RR];split
  ·omega
  ·have:=agd (RR l i) i (l.getD i aO.aI) (qV (l.take i) (l.getD i aO.aI).aC 5);omega
theorem vN{p:Prop}[Decidable p](a b c:Int):(if p then a else if p then b else c)=if p then a else c:=by split<;>rfl
theorem ayc:qm Tryz.prog 79=some (8,true):=by kernel_rfl
theorem ayd{n k:Nat}:(if k=n then(g0 n).st n else(g0 n).st k)=(g0 (n+1)).st k:=by split<;>rfl
theorem aye{n k:Nat}:(if k=n then(g0 n).th n else(g0 n).th k)=(g0 (n+1)).th k:=by split<;>rfl
theorem arx{n k:Nat}:(if k=n then(31:Int) else c0 n k)=c0 (n+1) k:=by
 simp only[c0];by_cases h:k=n
 ·subst h;simp
 ·simp[h,show(k<n+1)↔k<n by omega]
theorem ayf{n k:Nat}:(if k=n then(31:Int) else(g0 n).lk k)=(g0 (n+1)).lk k:=arx
def agh:JC:=(qN (qA 14 13 8<|.nil) (.seq (qO 14 .skip (.exit 0)) (.seq (.block 1 (qN (o7 15 13<|o7 8 15<|.nil) (qM [8,5,6,13,0,7,2,4] (.ops<|o7 16 8<|o7 17 8<|oL 18 8 3 5 16<|oD 19 2 2 18<|qL [19,6,17,13,5,0,7,2,4]<|en (.store 1 (.t 19) (I 31))<|oL 20 8 1 6 17<|en (.store 1 (.t 20) (I 31))<|.nil)))) (qM [13,5,6,0,7,2,4] (.ops<|oJ 21 13 1<|o7 13 21<|.nil)))))
def FK:JC:=(qN (oO 25 24 23<|.nil) (qM [25,24,22,23,0,6,5,7,2,4] (.seq (qO 25 .skip (.exit 2)) (qM [24,22,23,0,6,5,7,2,4] (.seq (.block 3 (qN (o7 26 24<|oK 27 3 22 24<|oC 28 3 27<|qK 10 56<|o7 9 26<|oG 3 10 28<|.nil) (qM [10,24,23,22,0,6,5,7,2,4,9] (.seq (qN (oD 29 0 0 10<|o9 30 1 29<|qJ 31 30 2<|.nil) (qO 31 (.exit 3) .skip)) (qM [0,9,10,6,5,24,23,22,7,2,4] (.seq (.bJ<|o7 32 0<|o7 33 9<|qo 34 (.slc 3 (.t 32) none (some (.t 33)) none)<|oD 35 1 1 10<|o9 36 1 35<|qL [34,36,10,6,5,24,23,22,0,7,2,4,9]<|qG 37 78 34 36<|oD 38 2 2 10<|o9 39 1 38<|o7 11 37<|o7 12 39<|.nil) (qM [12,6,11,5,10,24,23,22,0,7,2,4,9] (qN (o7 40 12<|oL 41 8 1 6 40<|o9 42 1 41<|o7 43 11<|qo 44 (.ar .and (.t 42) (.t 43))<|oL 45 8 1 6 40<|oG 1 45 44<|.nil) (qM [12,5,10,24,23,22,0,6,7,2,4,11,9] (.seq (qN (o7 46 12<|oL 47 8 3 5 46<|oD 48 0 0 47<|o9 49 1 48<|oH 50 49 0<|.nil) (qM [50,12,10,5,24,23,22,0,6,7,2,4,11,9] (qO 50 (qN (qL [12,10,5,24,23,22,0,6,7,2,4]<|o7 51 12<|oD 52 1 1 10<|o9 53 1 52<|qL [53,5,51,24,23,22,0,6,7,2,4]<|qo 54 (.lF (.agg [(.int .i64 0),(.int .i64 0),(.int .i64 0)]) [([.eG 0],0,1,(I 1)),([.eG 1],1,1,(.t 53)),([.eG 2],2,1,(I 31))])<|oL 55 8 3 5 51<|oG 3 55 54<|.nil) (.exit 3)) .skip))) (qM [12,5,10,24,23,22,0,6,7,2,4,11,9] (.seq (.seq (.bJ<|o7 56 12<|oL 57 8 3 5 56<|oD 58 0 0 57<|o9 59 1 58<|qL [59,12,5,10,24,23,22,0,6,7,2,4,11,9]<|oH 60 59 1<|o7 61 60<|.sc false 69 61 (o7 62 12<|oL 63 8 3 5 62<|oD 64 1 1 63<|o9 65 1 64<|oD 66 1 1 10<|o9 67 1 66<|oZ 68 65 67<|.nil) (.t 68)<|.nil) (qO 69 (.exit 3) .skip)) (qM [12,5,11,10,7,9,24,23,22,0,6,2,4] (qN (o7 70 12<|oL 71 8 3 5 70<|oD 72 2 2 71<|o9 73 1 72<|o7 74 11<|qL [73,74,5,70,10,12,7,9,24,23,22,0,6,2,4]<|qo 75 (.ar .and (.t 73) (.t 74))<|oL 76 8 3 5 70<|oD 77 2 2 76<|oG 1 77 75<|.nil) (qM [10,12,5,7,9,24,23,22,0,6,2,4] (.seq (qN (oD 78 0 0 10<|o9 79 1 78<|oH 80 79 2<|qL [80,12,5,7,9,24,23,22,0,6,2,4]<|o7 81 80<|.sc true 87 81 (o7 82 12<|oL 83 8 3 5 82<|oD 84 0 0 83<|o9 85 1 84<|oH 86 85 3<|.nil) (.t 86)<|.nil) (qM [87,12,5,7,9,24,23,22,0,6,2,4] (qO 87 (.ops<|o7 88 12<|oL 89 8 3 5 88<|oD 90 0 0 89<|en (.store 1 (.t 90) (I 3))<|.nil) (.ops<|o7 91 12<|oL 92 8 3 5 91<|oD 93 0 0 92<|en (.store 1 (.t 93) (I 2))<|.nil)))) (qM [12,5,7,9,24,23,22,0,6,2,4] (qN (o7 94 12<|oL 95 8 3 5 94<|oD 96 0 0 95<|o9 97 1 96<|qL [97,12,5,7,9,24,23,22,0,6,2,4]<|oH 98 97 3<|o7 99 98<|.sc false 105 99 (o7 100 12<|oL 101 8 3 5 100<|oD 102 2 2 101<|o9 103 1 102<|oH 104 103 0<|.nil) (.t 104)<|.nil) (qM [105,7,9,12,24,23,22,0,6,5,2,4] (qO 105 (.ops<|o7 106 7<|o7 107 9<|qL [12,107,106,24,23,22,0,6,5,2,4]<|o7 108 12<|qo 109 (.lF (.agg [(.int .i64 0),(.int .i64 0),(.int .i64 0)]) [([.eG 0],0,1,(.t 107)),([.eG 1],1,1,(.t 108))])<|qL [109,106,24,23,22,0,6,5,2,4]<|eo 110 (.qj 110 3 1 (.agg [(.int .i64 0),(.int .i64 0),(.int .i64 0)]) [(0,(.t 109))])<|oW 111 110 3 24 106 110<|o7 7 111<|.nil) .skip)))))))))))))))))))) (qM [24,23,22,0,6,5,7,2,4] (.ops<|oJ 112 24 1<|o7 24 112<|.nil)))))))
def arz:JC:=(qM [5,7,6,2,4] (.seq (.bJ<|oC 113 24 5<|o7 114 7<|oC 115 8 6<|oG 24 2 113<|qL [115,6,114,4,2]<|en (.again 8 true (.t 6) 115)<|o7 3 114<|oG 8 4 115<|.nil) (.bn 3 110 3 .ret)))
def arA:JC:=(qM [0,6,5,7,2,4] (.seq (qN (o7 22 0<|oP 23 22<|o8 24 0<|.nil) (.block 2 (.bn 7 110 3 (.loop [23,22,0,6,5,2,4] [24,7] FK)))) arz))
def j40:JC:=(qN (eo 2 (.alloc 78 (.arr 8 3 λ_=>(.agg [(.int .i64 0),(.int .i64 0),(.int .i64 0)])))<|oU 3<|eo 4 (.alloc 79 (.arr 8 1 λ_=>(.int .i64 0)))<|.nil) (qN (eo 5 (.alloc 78 (.arr 8 3 λ_=>(.agg [(.int .i64 0),(.int .i64 0),(.int .i64 0)])))<|.nil) (qN (eo 6 (.alloc 79 (.arr 8 1 λ_=>(.int .i64 0)))<|.nil) (qN (oU 7<|.nil) (.seq (qN (o8 13 0<|.nil) (.block 0 (.loop [5,6,0,7,2,4] [13] agh))) arA)))))
def Gh(f:FuncId)(a:List SV)(m:List ay):Sx.Call:=(FH.rd 78 (.two dw .int) (.one .int) (λ_=>True) (λy=>((qV y.1 y.2.1 5:Nat):Int)) FH.none) f a m
theorem Me:type_of% (nq Gh.eq_1):=nq Gh.eq_1
theorem ayg:aW Tryz.prog Gh:=FH.aT (λy _=>anc y.1 y.2.1) FH.none_ok
abbrev dI8:DT (Nat->Int):=DT.arr 8 1 DT.int
abbrev Mg(s:RG):List ay:=[.blk 78 (OM.aA (g0 0)), .blk 79 (dI8.aA (c0 0)), .blk 78 (OM.aA s.g), .blk 79 (dI8.aA s.c), .vec 110 3 (s.w.map jL.aA)]
theorem aa9(l:List Ev)(h:(aF l).2=0):FnOK Tryz.prog 40 [dw.aA l] [] (.bK [OM.aA (RR l l.length).g, .vec 0 (RR l l.length).w.length,dI8.aA (RR l l.length).c]) [.vec 110 3 ((RR l l.length).w.map jL.aA)]:=by
 refine fn_walkA j40 [.cell 2 78, .tmp 3, .cell 4 79] 116 ayg rfl ?_;unfold j40;simp only[go_sem,seval];refine aZ Nat (λi=>[.int .i64 i]) (λi=>[.blk 78 (OM.aA (g0 0)), .blk 79 (dI8.aA (c0 0)), .blk 78 (OM.aA (g0 i)), .blk 79 (dI8.aA (c0 i))]) (λi=>i<=8) (λi=>8 - i) 0 (by omega) ?_ ?_ ?_
 ·simp only[go_sem,seval]
 ·simp only[go_sem,seval,g0,c0]
 intro i hi;by_cases h1:i<8
 ·have h1':(i:Int)<8:=by omega
  have hw:z05.wrap ((i:Int)+1)=((i+1:Nat):Int):=aY;unfold agh;simp only[go_sem,seval,h1',hw,y5];exact⟨by omega,by omega,i+1,by omega,by omega,rfl,by simp only[ayd,aye,ayf,arx]⟩
 have e8:i=8:=by omega
 subst e8;unfold agh;simp only[go_sem,seval];unfold arA;simp only[go_sem,seval];refine aZ Nat (λi=>[.int .i64 i, .vec 4 (RR l i).w.length]) (λi=>Mg (RR l i)) (λi=>i<=l.length) (λi=>l.length - i) 0 (by omega) ?_ ?_ ?_
 ·simp only[go_sem,seval,RR]
 ·simp only[go_sem,seval,RR,Mg]
 intro i hi;by_cases h1:i<l.length
 ·have h1':(i:Int)<l.length:=by omega
  have h8:=bP h;have hw:z05.wrap ((i:Int)+1)=((i+1:Nat):Int):=aY;have hev:=jq h i h1;have hlen:=agf l i;by_cases hk:2< (l.getD i aO.aI).kind
  ·have hr:RR l (i+1)=RR l i:=by rw[RR,if_pos hk]
   unfold FK;simp only[go_sem,seval,Me,Mg,h1',hw,hk];exact⟨by omega,i+1,by omega,by omega,⟨rfl,by rw[hr]⟩,by rw[hr]⟩
  have hr:RR l (i+1)=GR (RR l i) i (l.getD i aO.aI) (qV (l.take i) (l.getD i aO.aI).aC 5):=by rw[RR,if_neg hk]
  generalize hs:RR l i=s at hr hlen ⊢;generalize hE:l.getD i aO.aI=e at*;obtain⟨b1,b2,b3,b4⟩:=(bC e).1 hev;have b5:e.obj<8:=by unfold many at b4;split at b4<;>omega
  obtain⟨x,hx,hx8⟩:∃ x:Nat,e.obj=x/\x<8:=⟨e.obj.toNat,by omega,by omega⟩
  obtain⟨ek,et,eo⟩:=e;simp only at hx hk b1 b2;subst hx;generalize hlk:(qV (l.take i) et 5:Nat)=lk at*;by_cases k0:s.g.st x=0
  ·have hr2:RR l (i+1)=⟨Dj s.g x 1 et 31,s.w,λk=>if k=x then mM .i64 (s.c x) lk else s.c k⟩:=by rw[hr];simp only[GR,z0m,k0,if_true]
   unfold FK;simp only[go_sem,seval,Me,Mg,h1',hw,hk,hE,k0,hlk,y5];exact⟨by omega,by omega,⟨by omega,by omega⟩,⟨by omega,by omega⟩,⟨by omega,by omega⟩,⟨by omega,by omega⟩,⟨by omega,by omega⟩,i+1,by omega,by omega,⟨rfl,by rw[hr2]⟩,by rw[hr2];simp only[go_sem,seval,Dj]⟩
  by_cases k1:s.g.st x=1/\s.g.th x=et
  ·have hr2:RR l (i+1)=⟨s.g,s.w,λk=>if k=x then mM .i64 (s.c x) lk else s.c k⟩:=by rw[hr];simp only[GR,z0m,k0,if_false,if_pos k1]
   obtain⟨k1a,k1b⟩:=k1;unfold FK;simp only[go_sem,seval,Me,Mg,h1',hw,hk,hE,k1a,k1b,hlk,y5];exact⟨by omega,by omega,⟨by omega,by omega⟩,⟨by omega,by omega⟩,⟨by omega,by omega⟩,⟨by omega,by omega⟩,⟨by omega,by omega⟩,⟨by omega,by omega⟩,i+1,by omega,by omega,⟨rfl,by rw[hr2]⟩,by rw[hr2]⟩
  have hb:(decide (s.g.st x=1)&&decide (s.g.th x=et))=false:=by
   simp only[Bool.and_eq_false_iff,decide_eq_false_iff_not];by_cases q:s.g.st x=1
   ·exact .inr λq2=>k1 ⟨q,q2⟩
   ·exact .inl q
  have hr2:RR l (i+1)=⟨Dj s.g x (if ek=2\/s.g.st x=3 then 3 else 2) (s.g.th x) (mM .i64 (s.g.lk x) lk),if (if ek=2\/s.g.st x=3 then(3:Int) else 2)=3/\mM .i64 (s.g.lk x) lk=0 then s.w++[⟨i,x,0⟩] else s.w,λk=>if k=x then mM .i64 (s.c x) lk else s.c k⟩:=by rw[hr];simp only[GR,z0m,k0,if_false,if_neg k1]
  by_cases k2:ek=2
  ·rw[if_pos (.inl k2)] at hr2;unfold FK;simp only[go_sem,seval,Me,Mg,h1',hw,hE,k0,hb,k2,hlk,y5];refine⟨by omega,by omega,⟨by omega,by omega⟩,⟨by omega,by omega⟩,⟨by omega,by omega⟩,⟨by omega,by omega⟩,⟨by omega,by omega⟩,λ_=>⟨by omega,by omega⟩,⟨by omega,by omega⟩,⟨by omega,by omega⟩,⟨by omega,by omega⟩,⟨by omega,by omega⟩,⟨by omega,by omega⟩,⟨λhz=> ?_,λhz=> ?_⟩⟩
   ·rw[if_pos ⟨rfl,hz⟩] at hr2;refine⟨by omega,i+1,by omega,by omega,⟨rfl,by rw[hr2,z01];rfl⟩,?_⟩
    rw[hr2];simp only[go_sem,seval,Dj,vN]
   ·rw[if_neg (λq=>hz q.2)] at hr2;exact⟨i+1,by omega,by omega,⟨rfl,by rw[hr2]⟩,by rw[hr2];simp only[go_sem,seval,Dj,vN]⟩
  by_cases k3:s.g.st x=3
  ·rw[if_pos (.inr k3)] at hr2;unfold FK;simp only[go_sem,seval,Me,Mg,h1',hw,hk,hE,k2,k3,hlk,y5];refine⟨by omega,by omega,⟨by omega,by omega⟩,⟨by omega,by omega⟩,⟨by omega,by omega⟩,⟨by omega,by omega⟩,⟨by omega,by omega⟩,⟨by omega,by omega⟩,⟨by omega,by omega⟩,⟨by omega,by omega⟩,⟨by omega,by omega⟩,⟨by omega,by omega⟩,⟨by omega,by omega⟩,⟨λhz=> ?_,λhz=> ?_⟩⟩
   ·rw[if_pos ⟨rfl,hz⟩] at hr2;refine⟨by omega,i+1,by omega,by omega,⟨rfl,by rw[hr2,z01];rfl⟩,?_⟩
    rw[hr2];simp only[go_sem,seval,Dj,vN]
   ·rw[if_neg (λq=>hz q.2)] at hr2;exact⟨i+1,by omega,by omega,⟨rfl,by rw[hr2]⟩,by rw[hr2];simp only[go_sem,seval,Dj,vN]⟩
  ·rw[if_neg (λq=>q.elim k2 k3),if_neg (λq=>absurd q.1 (by decide))] at hr2
   unfold FK;simp only[go_sem,seval,Me,Mg,h1',hw,hk,hE,k0,hb,k2,k3,hlk,y5];exact⟨by omega,by omega,⟨by omega,by omega⟩,⟨by omega,by omega⟩,⟨by omega,by omega⟩,⟨by omega,by omega⟩,⟨by omega,by omega⟩,λ_=>⟨by omega,by omega⟩,⟨by omega,by omega⟩,⟨by omega,by omega⟩,⟨by omega,by omega⟩,⟨by omega,by omega⟩,⟨by omega,by omega⟩,i+1,by omega,by omega,⟨rfl,by rw[hr2]⟩,by rw[hr2];simp only[go_sem,seval,Dj,vN]⟩
 ·have h1':¬ (i:Int)<l.length:=by omega
  have e:i=l.length:=by omega
  unfold FK;simp only[go_sem,seval,Mg,h1'];subst e;unfold arz;simp only[go_sem,seval,agi,ayc]
end Go.Proofs.YtgnaipcjbmhihaaGreatDoor.Gu
namespace Go.Proofs.YtgnaipcjbmhihaaGreatDoor.Gu
open D Tr
def five(b0 b1 b2 b3 b4:Bool):Nat:=(((((0+if b0 then 2^0 else 0)+if b1 then 2^1 else 0)+if b2 then 2^2 else 0)+if b3 then 2^3 else 0)+if b4 then 2^4 else 0)
theorem DV(p:Nat->Bool):zu p 5=five (p 0) (p 1) (p 2) (p 3) (p 4):=rfl
theorem aol:∀ (o:Fin 5) (b0 b1 b2 b3 b4:Bool),MQ .i64 (five b0 b1 b2 b3 b4:Nat) (bit (o.val:Nat))=(five (b0||decide (o.val=0)) (b1||decide (o.val=1)) (b2||decide (o.val=2)) (b3||decide (o.val=3)) (b4||decide (o.val=4)):Nat):=by decide+kernel
theorem ah3:∀ (o:Fin 5) (b0 b1 b2 b3 b4:Bool),rP .i64 (five b0 b1 b2 b3 b4:Nat) (bit (o.val:Nat))=(five (b0&& !decide (o.val=0)) (b1&& !decide (o.val=1)) (b2&& !decide (o.val=2)) (b3&& !decide (o.val=3)) (b4&& !decide (o.val=4)):Nat):=by decide+kernel
theorem aom{p q:Nat->Bool}{o:Nat}(ho:o<5)(h:∀ k,k<5->q k=(p k||decide (o=k))):MQ .i64 (zu p 5:Nat) (bit (o:Nat))=(zu q 5:Nat):=by
 rw[DV,DV,h 0 (by omega),h 1 (by omega),h 2 (by omega),h 3 (by omega),h 4 (by omega)]
 exact aol ⟨o,ho⟩ _ _ _ _ _
theorem ah4{p q:Nat->Bool}{o:Nat}(ho:o<5)(h:∀ k,k<5->q k=(p k&& !decide (o=k))):rP .i64 (zu p 5:Nat) (bit (o:Nat))=(zu q 5:Nat):=by
 rw[DV,DV,h 0 (by omega),h 1 (by omega),h 2 (by omega),h 3 (by omega),h 4 (by omega)]
 exact ah3 ⟨o,ho⟩ _ _ _ _ _
theorem aon:∀ s,s<32->mM .i64 31 (s:Nat)=(s:Nat):=by decide+kernel
section
variable {l:List Ev} (hok:(aF l).2=0)
include hok
theorem ah5:∀ i,i<=l.length->∀ t,t<6->HS l i t=(qV (l.take i) (t:Nat) 5:Nat)
 |0,_,t,ht=>by
  have e:qV (l.take 0) (t:Int) 5=zu (λ_=>false) 5:=sS 5 λk _=>by show decide ((-1:Int)=(t:Int))=false;simp
  rw[e];rfl
 |i+1,hi,t,ht=>by
  have ih:=ah5 i (by omega)
  have hev:=jq hok i (by omega)
  have hw:=Wy hok i (by omega)
  have htk:=bH aO.aI (show i<l.length by omega)
  generalize hE:l.getD i aO.aI=e at hev hw htk;obtain⟨b1,b2,b3,b4⟩:=(bC e).1 hev;simp only[HS,hE];rw[htk];have et:((e.aC.toNat:Nat):Int)=e.aC:=by omega
  have eo:((e.obj.toNat:Nat):Int)=e.obj:=by omega
  unfold kP at hw;rw[if_neg (by simp[hev])] at hw
  split at hw
  ·cases hw
  rename_i hbd;unfold EJ;by_cases k3:e.kind=3
  ·rw[if_pos k3] at hw ⊢;have hob:¬ 0<=Tr.aN (l.take i) e.obj:=λq=>by rw[if_pos q] at hw;cases hw
   have b5:e.obj<5:=by simpa[many,k3] using b4
   by_cases ht2:t=e.aC.toNat
   ·rw[if_pos ht2,ih _ (by omega),ht2,et]
    have:=aom (p:=λk:Nat=>decide (Tr.aN (l.take i) k=e.aC)) (q:=λk:Nat=>decide (Tr.aN (l.take i++[e]) k=e.aC)) (o:=e.obj.toNat) (by omega) (λk hk=>by
     rw[iV];simp only[tK,k3];by_cases q:e.obj.toNat=k
     ·have:e.obj=(k:Int):=by omega
      simp[this]
     ·have:¬ e.obj=(k:Int):=by omega
      simp[this,q])
    rw[eo] at this;exact this
   ·rw[if_neg ht2,ih t ht];simp only[qV]
    congr 1
    refine sS 5 λk hk=> ?_;rw[iV];simp only[tK,k3];by_cases q:e.obj=(k:Int)
    ·simp only[q,and_self,if_true];rw[q] at hob;simp;omega
    ·simp[q]
  by_cases k4:e.kind=4
  ·rw[if_neg k3,if_pos k4] at hw;rw[if_neg k3,if_pos k4];have hob:Tr.aN (l.take i) e.obj=e.aC:=by
    by_cases q:Tr.aN (l.take i) e.obj=e.aC
    ·exact q
    ·rw[if_pos q] at hw;cases hw
   have b5:e.obj<5:=by simpa[many,k4] using b4
   by_cases ht2:t=e.aC.toNat
   ·rw[if_pos ht2,ih _ (by omega),ht2,et]
    have:=ah4 (p:=λk:Nat=>decide (Tr.aN (l.take i) k=e.aC)) (q:=λk:Nat=>decide (Tr.aN (l.take i++[e]) k=e.aC)) (o:=e.obj.toNat) (by omega) (λk hk=>by
     rw[iV];simp only[tK,k4];by_cases q:e.obj.toNat=k
     ·have:e.obj=(k:Int):=by omega
      simp[this];omega
     ·have:¬ e.obj=(k:Int):=by omega
      simp[this,q])
    rw[eo] at this;exact this
   ·rw[if_neg ht2,ih t ht];simp only[qV]
    congr 1
    refine sS 5 λk hk=> ?_;rw[iV];simp only[tK,k4];by_cases q:e.obj=(k:Int)
    ·simp only[q,and_self,if_true];rw[q] at hob;rw[hob];simp;omega
    ·simp[q]
  ·rw[if_neg k3,if_neg k4];rw[ih t ht];simp only[qV]
   congr 1
   refine sS 5 λk hk=> ?_;rw[iV];simp[tK,k3,k4]
theorem ZY(i:Nat)(hi:i<l.length):cO (l.getD i aO.aI)=true↔¬ 2< (l.getD i aO.aI).kind:=by
 obtain⟨b1,b2,b3,b4⟩:=(bC _).1 (jq hok i hi);simp only[cO,z0t,decide_eq_true_eq];constructor
 ·rintro(h|h)<;>omega
 ·intro h;unfold many at b4;split at b4<;>first|omega|(split at b4<;>first|omega|(split at b4<;>first|omega|(split at b4<;>omega)))
theorem aoo(i:Nat)(hi:i<l.length)(ha:cO (l.getD i aO.aI)=true):HS l (i+1) (l.getD i aO.aI).aC.toNat=(qV (l.take i) (l.getD i aO.aI).aC 5:Nat):=by
 obtain⟨b1,b2,b3,b4⟩:=(bC _).1 (jq hok i hi);have h1:=ah5 hok i (by omega) (l.getD i aO.aI).aC.toNat (by omega)
 have et:(((l.getD i aO.aI).aC.toNat:Nat):Int)=(l.getD i aO.aI).aC:=by omega
 rw[et] at h1;simp only[cO,z0t,decide_eq_true_eq] at ha;simp only[HS,EJ];rw[if_neg (by omega),if_neg (by omega)]
 exact h1
structure Ag(s:Gs×List Fl)(r:RG):Prop where
 st:s.1.st=r.g.st
 th:s.1.th=r.g.th
 lk:s.1.lk=r.g.lk
 w:s.2=r.w
 rng:∀ x,0<=r.g.st x/\r.g.st x<=3
 all:∀ x,x<8->r.g.st x<=1->r.g.lk x=31
omit hok in
theorem aop{s:Gs×List Fl}{r:RG}(h:Ag s r)(i:Nat)(e:Ev)(k:Nat)(hk:k<32)(ha:e.kind=1\/e.kind=2)(hx:e.obj.toNat<8):Ag (xR s i e k) (GR r i e k):=by
 obtain⟨⟨st,th,lk⟩,w⟩:=s;obtain⟨⟨st',th',lk'⟩,w',c⟩:=r;obtain⟨e1,e2,e3,e4,h5,h6⟩:=h;simp only at e1 e2 e3 e4 h5 h6;subst e1;subst e2;subst e3;subst e4;generalize hxx:e.obj.toNat=x at hx;have hr:=h5 x;have hl:=h6 x hx;have hu:∀ (f:Nat->Int),(λk=>if k=x then f x else f k)=f:=by
  intro f;funext j;split
  ·rename_i q;rw[q]
  ·rfl
 by_cases c0:st x=0
 ·have hA:uO ⟨st x,th x,lk x⟩ e k=⟨1,e.aC,31⟩:=by rw[uO,if_pos c0];simp only[hl (by omega)]
  simp only[xR,GR,hxx];rw[hA,if_pos c0];refine⟨rfl,rfl,rfl,?_,λy=> ?_,λy hy hs=> ?_⟩
  ·simp
  ·simp only[Dj];split
   ·omega
   ·exact h5 y
  ·simp only[Dj] at hs ⊢;split
   ·rfl
   ·rename_i q;rw[if_neg q] at hs;exact h6 y hy hs
 by_cases c1:st x=1/\th x=e.aC
 ·have hA:uO ⟨st x,th x,lk x⟩ e k=⟨st x,th x,lk x⟩:=by rw[uO,if_neg c0,if_pos c1]
  simp only[xR,GR,hxx];rw[hA,if_neg c0,if_pos c1];refine⟨hu st,hu th,hu lk,?_,h5,h6⟩;simp[c1.1]
 have fin:∀ (a b:Int),2<=a->a<=3->uO ⟨st x,th x,lk x⟩ e k=⟨a,th x,b⟩->(if e.kind=2\/st x=3 then(3:Int) else 2)=a->mM .i64 (lk x) k=b->Ag (xR (⟨st,th,lk⟩,w) i e k) (GR ⟨⟨st,th,lk⟩,w,c⟩ i e k):=by
  intro a b h2 h3 hA hS hB;simp only[xR,GR,hxx];rw[hA,if_neg c0,if_neg c1,hS,hB];refine⟨rfl,rfl,rfl,rfl,λy=> ?_,λy hy hs=> ?_⟩
  ·simp only[Dj];split
   ·omega
   ·exact h5 y
  ·simp only[Dj] at hs ⊢;split at hs
   ·omega
   ·rename_i q;rw[if_neg q];exact h6 y hy hs
 by_cases c2:st x=1
 ·have h31:mM .i64 (lk x) k=k:=by rw[hl (by omega)];exact aon k hk
  rcases ha with ha|ha
  ·exact fin 2 k (by omega) (by omega) (by rw[uO,if_neg c0,if_neg c1,if_neg (λq=>by have q2:e.kind=2:=q.2;omega),if_pos c2]) (if_neg (by omega)) h31
  ·exact fin 3 k (by omega) (by omega) (by rw[uO,if_neg c0,if_neg c1,if_pos ⟨c2,ha⟩]) (if_pos (.inl ha)) h31
 ·by_cases a2:e.kind=2
  ·exact fin 3 _ (by omega) (by omega) (by rw[uO,if_neg c0,if_neg c1,if_neg (λq=>c2 q.1),if_neg c2,if_pos a2]) (if_pos (.inl a2)) rfl
  ·refine fin (st x) _ (by omega) (by omega) (by rw[uO,if_neg c0,if_neg c1,if_neg (λq=>c2 q.1),if_neg c2,if_neg a2]) ?_ rfl
   by_cases a3:st x=3
   ·rw[if_pos (.inr a3),a3]
   ·rw[if_neg (by omega)];omega
omit hok in
theorem ah6(p:List Ev)(t:Int):qV p t 5<32:=Po _ 5
theorem ah7:∀ i,i<=l.length->Ag (RS l i) (RR l i)
 |0,_=>⟨rfl,rfl,rfl,rfl,λ_=>⟨by show(0:Int)<=0;omega,by show(0:Int)<=3;omega⟩,λx hx _=>by show(if x<8 then(31:Int) else 0)=31;rw[if_pos hx]⟩
 |i+1,hi=>by
  have ih:=ah7 i (by omega)
  obtain⟨b1,b2,b3,b4⟩:=(bC _).1 (jq hok i (by omega))
  by_cases ha:cO (l.getD i aO.aI)=true
  ·have hk:=(ZY hok i (by omega)).1 ha
   simp only[RS,RR];rw[if_pos ha,if_neg hk,aoo hok i (by omega) ha]
   have ha':=ha;simp only[cO,z0t,decide_eq_true_eq] at ha';refine aop ih i _ _ (ah6 _ _) ha' ?_;have b5:(l.getD i aO.aI).obj<8:=by rcases ha' with h|h<;>(rw[h] at b4;exact b4)
   omega
  ·have hk:2< (l.getD i aO.aI).kind:=by
    have:=mt (ZY hok i (by omega)).2 ha
    omega
   simp only[RS,RR];rw[if_neg ha,if_pos hk];exact ih
theorem ahL:(RS l l.length).2=(RR l l.length).w:=(ah7 hok l.length (z08 _)).w
end
end Go.Proofs.YtgnaipcjbmhihaaGreatDoor.Gu
namespace Go.Proofs.YtgnaipcjbmhihaaGreatDoor.Ah
open D Tr Ps Od
def j62:JC:=(qN (qH 6 false<|o8 7 0<|.nil) (.seq (qN (o7 11 0<|oM 12 49 11<|o7 10 12<|oN 13 0 10<|oN 14 1 10<|o7 8 13<|o7 9 14<|.nil) (qN (o7 15 9<|qC 16 15 0<|.nil) (qM [16,9,1,0,2] (qO 16 (qN (o7 17 9<|qH 6 false<|o7 7 17<|.nil) .ret) .skip)))) (qM [1,0,2] (.seq (qN (o7 18 1<|qA 19 18 0<|o7 20 19<|.sc true 25 20 (o7 21 1<|o7 22 0<|oP 23 22<|qo 24 (.cmp .geq (.t 21) (.t 23))<|.nil) (.t 24)<|qL [25,2,0,1]<|o7 26 25<|.sc true 29 26 (o7 27 2<|qA 28 27 0<|.nil) (.t 28)<|o7 30 29<|qL [30,2,0,1]<|.sc true 35 30 (o7 31 2<|o7 32 0<|oP 33 32<|qo 34 (.cmp .geq (.t 31) (.t 33))<|.nil) (.t 34)<|.nil) (qM [35,0,2,1] (qO 35 (qN (qH 6 false<|o8 7 1<|.nil) .ret) .skip))) (qM [0,2,1] (qN (o7 36 0<|oM 37 98 36<|o7 38 2<|oK 39 1 37 38<|qL [39,1]<|o9 40 1 39<|o7 41 1<|oK 42 1 40 41<|o9 43 1 42<|o7 6 43<|o8 7 0<|.nil) .ret))))))
def Gld(f:FuncId)(a:List SV)(m:List ay):Sx.Call:=(FH.rd 49 (.one dw) (.two .int .int) (λ_=>True) (λy=>(aK y.1).2)<|
 FH.pz 98 (.one dw) (.one kQ) (λy=>y.1.length<=1000) (λy=>rowsOf y.1.length (uG y.1 y.1.length)) FH.none) f a m
theorem aup:type_of% (nq Gld.eq_1):=nq Gld.eq_1
theorem auq:aW Tryz.prog Gld:=FH.aT (λy _=>lY y.1)<|FH.oq (λy h=>Y8 y.1 h) FH.none_ok
def mD(l:List Ev)(i j:Int):Bool×Int:=
 if (aK l).2.2≠0 then(false,(aK l).2.2) else if i<0\/(l.length:Int)<=i\/j<0\/(l.length:Int)<=j then(false,1) else(Ik l i.toNat j.toNat,0)
theorem anw(l:List Ev)(i j:Int):FnOK Tryz.prog 62 [dw.aA l, .int .i64 i, .int .i64 j] [] (.bK [.bool (mD l i j).1, .int .i64 (mD l i j).2]) []:=by
 refine fn_walkA j62 [.tmp 6, .tmp 7] 44 auq rfl ?_;unfold j62;simp only[go_sem,seval,aup];refine⟨λh=>by simp[mD,h],λh=>⟨λh1=> ?_,λh1=> ?_⟩⟩
 ·simp only[z0t,decide_eq_true_eq] at h1;rw[mD,if_neg (by simp[h]),if_pos (by omega)]
 ·simp only[z0y,decide_eq_false_iff_not] at h1;have:=bP (l:=l) (by rw[<- iD];exact h)
  rw[mD,if_neg (by simp[h]),if_neg (by omega),vk,rows_row (by omega),tY (by omega) (by omega)]
  exact⟨by omega,by omega,by omega,rfl⟩
end Go.Proofs.YtgnaipcjbmhihaaGreatDoor.Ah
namespace Go.Proofs.YtgnaipcjbmhihaaGreatDoor.St
open D Tr C
def j99:JC:=(qN (oV 3 56 1<|eo 4 (.alloc 70 (.arr 6 1 λ_=>(.int .i64 0)))<|.nil) (.seq (.bJ<|o7 6 0<|oD 7 1 1 3<|o9 8 1 7<|oQ 9 6<|oD 10 0 0 9<|oL 11 6 6 10 8<|o7 5 11<|.nil) (.seq (qN (oD 12 0 0 3<|o9 13 1 12<|.nil) (qM [13,5,0,3,4] (.block 0 (qN (oH 15 13 3<|o7 14 15<|.nil) (qO 14 (.bJ<|qL [5,0,3,4]<|o7 16 5<|o7 17 5<|oQ 18 17<|oC 19 6 18<|o7 20 0<|oD 21 2 2 3<|o9 22 1 21<|qL [20,22,19,16,5,3,0,4]<|oQ 23 20<|oD 24 1 36 23<|oL 25 5 6 24 22<|qL [25,19,16,5,3,0,4]<|oC 26 6 25<|qG 27 139 19 26<|oQ 28 16<|oG 6 28 27<|.nil) (qN (oH 30 13 7<|o7 29 30<|.nil) (qO 29 (.bJ<|qL [5,0,3,4]<|o7 31 5<|o7 32 5<|oQ 33 32<|oC 34 6 33<|o7 35 0<|oD 36 2 2 3<|o9 37 1 36<|qL [35,37,34,31,5,3,0,4]<|oQ 38 35<|oD 39 2 66 38<|oL 40 4 6 39 37<|qL [40,34,31,5,3,0,4]<|oC 41 6 40<|qG 42 139 34 41<|oQ 43 31<|oG 6 43 42<|.nil) (qN (oH 45 13 6<|o7 44 45<|.nil) (qM [44,5,0,3,4] (qO 44 (.bJ<|o7 46 5<|o7 47 5<|oQ 48 47<|oC 49 6 48<|qL [0,3,49,46,5,4]<|o7 50 0<|oD 51 2 2 3<|o9 52 1 51<|oQ 53 50<|oD 54 0 0 53<|qL [54,52,49,46,5,3,0,4]<|oL 55 6 6 54 52<|oC 56 6 55<|qL [49,56,46,5,3,0,4]<|qG 57 139 49 56<|oQ 58 46<|oG 6 58 57<|.nil) .skip)))))))))) (qM [5,3,0,4] (.seq (.bJ<|o7 59 5<|oD 60 1 1 3<|o9 61 1 60<|oQ 62 59<|oL 63 6 1 62 61<|o9 64 1 63<|qL [64,59,61,3,0,5,4]<|oJ 65 64 1<|oQ 66 59<|oL 67 6 1 66 61<|oG 1 67 65<|.nil) (qM [3,0,5,4] (.seq (qN (oD 68 0 0 3<|o9 69 1 68<|.nil) (.block 1 (qN (oH 71 69 4<|o7 70 71<|.nil) (qO 70 (.bJ<|qL [0,3,5,4]<|o7 72 0<|oD 73 2 2 3<|o9 74 1 73<|o7 75 0<|oD 76 2 2 3<|qL [76,75,5,72,74,4]<|o9 77 1 76<|oQ 78 75<|oD 79 1 36 78<|qL [79,77,5,72,74,4]<|oL 80 5 6 79 77<|oC 81 6 80<|qL [5,81,72,74,4]<|o7 82 5<|oQ 83 82<|oC 84 6 83<|qG 85 139 81 84<|qL [72,74,85,5,4]<|oQ 86 72<|oD 87 1 36 86<|oL 88 5 6 87 74<|oG 6 88 85<|.nil) (qN (oH 90 69 8<|o7 89 90<|.nil) (qM [89,0,3,5,4,69] (qO 89 (.bJ<|o7 91 0<|oD 92 2 2 3<|o9 93 1 92<|qL [0,3,5,91,93,4]<|o7 94 0<|oD 95 2 2 3<|o9 96 1 95<|qL [94,96,5,91,93,4]<|oQ 97 94<|oD 98 2 66 97<|oL 99 4 6 98 96<|qL [99,5,91,93,4]<|oC 100 6 99<|o7 101 5<|oQ 102 101<|oC 103 6 102<|qL [100,103,91,93,5,4]<|qG 104 139 100 103<|oQ 105 91<|qL [105,93,104,5,4]<|oD 106 2 66 105<|oL 107 4 6 106 93<|oG 6 107 104<|.nil) (qN (oH 109 69 5<|o7 108 109<|.nil) (qO 108 (.bJ<|qL [0,3,5,4]<|o7 110 0<|oD 111 2 2 3<|o9 112 1 111<|qL [5,110,112,4]<|o7 113 5<|oQ 114 113<|oC 115 6 114<|oQ 116 110<|qL [116,112,115,5,4]<|oD 117 0 0 116<|oL 118 6 6 117 112<|oG 6 118 115<|.nil) .skip))))))))) (qM [5,4] (qN (o7 119 5<|oQ 120 119<|oC 121 6 120<|oG 6 4 121<|.nil) .ret)))))))))
def pW(f:Nat->ji)(i:Nat)(c:ji):Nat->ji:=λk j=>if k=i then c j else f k j
def O9(c:ji)(t:Nat):ji:=λk=>if k=t then z05.wrap (c t+1) else c k
def Lc(k:Kp)(e:Ev):ji:=
 if e.kind=3 then iT (k.aC e.aC.toNat) (k.lk e.obj.toNat) else if e.kind=7 then iT (k.aC e.aC.toNat) (k.vl e.obj.toNat) else
 if e.kind=6 then iT (k.aC e.aC.toNat) (k.aC e.obj.toNat) else k.aC e.aC.toNat
def lW(k:Kp)(e:Ev):ji:=O9 (Lc k e) e.aC.toNat
def yg(k:Kp)(e:Ev):Kp:=
 let aC:=pW k.aC e.aC.toNat (lW k e)
 if e.kind=4 then⟨aC,pW k.lk e.obj.toNat (iT (k.lk e.obj.toNat) (lW k e)),k.vl⟩ else
 if e.kind=8 then⟨aC,k.lk,pW k.vl e.obj.toNat (iT (k.vl e.obj.toNat) (lW k e))⟩ else
 if e.kind=5 then⟨pW aC e.obj.toNat (lW k e),k.lk,k.vl⟩ else⟨aC,k.lk,k.vl⟩
theorem GZ:qm Tryz.prog 70=some (6,true):=by kernel_rfl
def Gjn(f:FuncId)(a:List SV)(m:List ay):Sx.Call:=(FH.rd 139 (.two bU bU) (.one bU) (λ_=>True) (λy=>iT y.1 y.2.1) FH.none) f a m
theorem BK:type_of% (nq Gjn.eq_1):=nq Gjn.eq_1
theorem au3:aW Tryz.prog Gjn:=FH.aT (λy _=>wZ y.1 y.2.1) FH.none_ok
theorem ahF(k:Kp)(e:Ev)(he:iI e=true):FnOK Tryz.prog 99 [.ptr 0 [] 0,aO.aA e] [.blk 165 (KZ.aA k)] (bU.aA (lW k e)) [.blk 165 (KZ.aA (yg k e))]:=by
 refine fn_walkA j99 [.cell 4 70] 122 au3 rfl ?_;unfold j99;obtain⟨b1,b2,b3,b4⟩:=(bC e).1 he;by_cases k3:e.kind=3
 ·have b5:e.obj<5:=by simpa[many,k3] using b4
  simp only[go_sem,seval,BK,GZ,k3,b1,b2,b3,b5];simp[lW,Lc,yg,pW,O9,k3]
  all_goals first|rfl|(funext a;congr 1;funext j;congr 1;split<;>simp_all)
 by_cases k4:e.kind=4
 ·have b5:e.obj<5:=by simpa[many,k4] using b4
  simp only[go_sem,seval,BK,GZ,k4,b1,b2,b3,b5];simp[lW,Lc,yg,pW,O9,k4]
  all_goals first|rfl|(funext a;congr 1;funext j;congr 1;split<;>simp_all)
 by_cases k5:e.kind=5
 ·have b5:e.obj<6:=by simpa[many,k5] using b4
  simp only[go_sem,seval,BK,GZ,k5,b1,b2,b3,b5];simp[lW,Lc,yg,pW,O9,k5]
  all_goals first|rfl|(funext a;congr 1;funext j;congr 1;split<;>simp_all)
 by_cases k6:e.kind=6
 ·have b5:e.obj<6:=by simpa[many,k6] using b4
  simp only[go_sem,seval,BK,GZ,k6,b1,b2,b3,b5];simp[lW,Lc,yg,pW,O9,k6]
  all_goals first|rfl|(funext a;congr 1;funext j;congr 1;split<;>simp_all)
 by_cases k7:e.kind=7
 ·have b5:e.obj<4:=by simpa[many,k7] using b4
  simp only[go_sem,seval,BK,GZ,k7,b1,b2,b3,b5];simp[lW,Lc,yg,pW,O9,k7]
  all_goals first|rfl|(funext a;congr 1;funext j;congr 1;split<;>simp_all)
 by_cases k8:e.kind=8
 ·have b5:e.obj<4:=by simpa[many,k8] using b4
  simp only[go_sem,seval,BK,GZ,k8,b1,b2,b3,b5];simp[lW,Lc,yg,pW,O9,k8]
  all_goals first|rfl|(funext a;congr 1;funext j;congr 1;split<;>simp_all)
 simp only[go_sem,seval,BK,GZ,k3,k4,k5,k6,k7,k8,b1,b2,b3];simp[lW,Lc,yg,pW,O9,k3,k4,k5,k6,k7,k8]
end Go.Proofs.YtgnaipcjbmhihaaGreatDoor.St
namespace Go.Proofs.YtgnaipcjbmhihaaGreatDoor.St
open D Tr C Ah
def ayH:Kp:=⟨λ_ _=>0,λ_ _=>0,λ_ _=>0⟩
def kAt(l:List Ev):Nat->Kp
 |0=>ayH
 |i+1=>yg (kAt l i) (l.getD i aO.aI)
def stL(l:List Ev)(n:Nat):List ji:=tb n λi=>lW (kAt l i) (l.getD i aO.aI)
def l9(l:List Ev):List ji:=if (aK l).2.2=0 then stL l l.length else[]
def aip:JC:=(qN (oO 23 22 21<|.nil) (.seq (qO 23 .skip (.exit 0)) (.seq (.block 1 (qN (oK 24 3 20 22<|oC 25 3 24<|qK 9 56<|oG 3 9 25<|.nil) (qM [7,6,9,22,21,20] (.ops<|o7 26 7<|o7 27 6<|oC 28 3 9<|qE 29 99 27 28<|qL [29,26,22,21,20,6]<|eo 30 (.qj 70 6 1 (.arr 6 1 λ_=>(.int .i64 0)) [(0,(.t 29))])<|oW 31 70 6 48 26 30<|o7 7 31<|.nil)))) (qM [22,21,20,7,6] (.ops<|oJ 32 22 1<|o7 22 32<|.nil)))))
def aso:JC:=(qM [7] (qN (o7 33 7<|o7 2 33<|o8 3 0<|.nil) (.bn 2 70 6 .ret)))
def j63:JC:=(qN (oU 2<|o8 3 0<|.nil) (.seq (qN (o7 11 0<|oM 12 49 11<|o7 10 12<|oN 13 0 10<|oN 14 1 10<|o7 4 13<|o7 5 14<|.nil) (qN (o7 15 5<|qC 16 15 0<|.nil) (qM [16,5,0] (qO 16 (qN (o7 17 5<|oU 2<|o7 3 17<|.nil) (.bn 2 70 6 .ret)) .skip)))) (qM [0] (qN (qo 18 (.lF (.agg [(.arr 6 6 λ_=>(.arr 6 1 λ_=>(.int .i64 0))),(.arr 5 6 λ_=>(.arr 6 1 λ_=>(.int .i64 0))),(.arr 4 6 λ_=>(.arr 6 1 λ_=>(.int .i64 0)))]) [])<|oV 19 165 18<|o7 6 19<|.nil) (qN (oU 7<|.nil) (.seq (qN (o7 20 0<|oP 21 20<|o8 22 0<|.nil) (.block 0 (.bn 7 70 6 (.loop [21,20,6] [22,7] aip)))) aso))))))
def Gst(f:FuncId)(a:List SV)(m:List ay):Sx.Call:=(FH.rd 49 (.one dw) (.two .int .int) (λ_=>True) (λy=>(aK y.1).2)<|
 FH.mt 99 165 KZ (.one aO) (.one bU) (λ_ y=>iI y.1=true) (λk y=>lW k y.1) (λk y=>yg k y.1) FH.none) f a m
theorem aiq:type_of% (nq Gst.eq_1):=nq Gst.eq_1
theorem avt:aW Tryz.prog Gst:=FH.aT (λy _=>lY y.1)<|FH.FB (by kernel_rfl) (λk y h=>ahF k y.1 h) FH.none_ok
theorem aii(l:List Ev):FnOK Tryz.prog 63 [dw.aA l] [] (.bK [.vec 0 (l9 l).length, .int .i64 (aK l).2.2]) [.vec 70 6 ((l9 l).map bU.aA)]:=by
 refine fn_walkA j63 [.tmp 2, .tmp 3] 34 avt rfl ?_;unfold j63;simp only[go_sem,seval,aiq];refine⟨λh=>by simp[l9,h],λh=> ?_⟩
 have h':(aF l).2=0:=by rw[<- iD];exact h
 have hl:=bP h';rw[l9,if_pos h,h];refine aZ Nat (λi=>[.int .i64 i, .vec 1 (stL l i).length]) (λi=>[.blk 165 (KZ.aA (kAt l i)), .vec 70 6 ((stL l i).map bU.aA)]) (λi=>i<=l.length) (λi=>l.length - i) 0 (by omega) ?_ rfl ?_
 ·simp only[go_sem,seval];rfl
 intro i hi;by_cases h1:i<l.length
 ·have h1':(i:Int)<l.length:=by omega
  have he:=jq h' i h1;unfold aip;simp only[go_sem,seval,aiq,h1',he];have e1:stL l (i+1)=stL l i++[lW (kAt l i) (l.getD i aO.aI)]:=CO;have e2:(stL l i).length=i:=jI;refine⟨by omega,by omega,i+1,by omega,by omega,⟨aY,by rw[e1,z01];rfl⟩,?_⟩
  rw[e1,z0s];rfl
 ·have h1':¬ (i:Int)<l.length:=by omega
  unfold aip;simp only[go_sem,seval,h1'];unfold aso;simp only[go_sem,seval];rw[show i=l.length by omega]
  exact⟨rfl,rfl⟩
def cw(l:List Ev)(S:Nat->Bool)(u:Nat):Nat->Int
 |0=>0
 |i+1=>if S i=true/\(l.getD i aO.aI).aC.toNat=u then z05.wrap (cw l S u i+1) else cw l S u i
def Eu(l:List Ev)(j:Nat):Nat->Bool:=λi=>decide (i=j)||bI l i j
def Px(l:List Ev)(j i:Nat):List ji:=tb l.length λa u=>if a<j then cw l (Eu l a) u l.length else if a=j then cw l (Eu l a) u i else 0
def ou(l:List Ev):List ji:=tb l.length λa u=>cw l (Eu l a) u l.length
def air:JC:=(qN (oO 20 19 18<|.nil) (.seq (qO 20 .skip (.exit 2)) (.seq (.block 3 (qN (o7 21 19<|o7 6 21<|.nil) (qM [6,5,3,4,0,19,18,14,13] (qN (o7 22 6<|o7 23 5<|oZ 24 22 23<|o7 25 24<|qL [25,3,6,5,4,0,19,18,14,13]<|.sc true 33 25 (o7 26 3<|o7 27 6<|oK 28 1 26 27<|o9 29 1 28<|o7 30 5<|oK 31 1 29 30<|o9 32 1 31<|.nil) (.t 32)<|.nil) (qM [33,4,5,0,6,19,18,3,14,13] (qO 33 (.bJ<|o7 34 4<|o7 35 5<|o7 36 0<|o7 37 6<|oK 38 3 36 37<|qL [38,34,35,19,18,5,3,4,0,14,13]<|oD 39 1 1 38<|o9 40 1 39<|oK 41 6 34 35<|oL 42 6 1 41 40<|qL [42,34,35,40,19,18,5,3,4,0,14,13]<|o9 43 1 42<|oJ 44 43 1<|oK 45 6 34 35<|oL 46 6 1 45 40<|oG 1 46 44<|.nil) .skip)))))) (qM [19,18,5,3,4,0,14,13] (.ops<|oJ 47 19 1<|o7 19 47<|.nil)))))
def asq:JC:=(qM [14,13,0,3,4] (.ops<|oJ 48 14 1<|o7 14 48<|.nil))
def ais:JC:=(qN (oO 15 14 13<|.nil) (.seq (qO 15 .skip (.exit 0)) (.seq (.block 1 (qN (o7 16 14<|o7 5 16<|.nil) (qN (o7 17 0<|oP 18 17<|o8 19 0<|.nil) (qM [19,18,5,3,4,0,14,13] (.block 2 (.loop [18,5,3,4,0,14,13] [19] air)))))) asq)))
def asr:JC:=(qM [4] (qN (o7 49 4<|o7 2 49<|.nil) (.bn 2 70 6 (.gq 2 ZU.gq .ret))))
def j42:JC:=(qN (oU 2<|.nil) (qN (o7 7 0<|oM 8 41 7<|o7 3 8<|.nil) (qN (o7 9 0<|oP 10 9<|eo 11 (.mks 70 6 48 (.arr 6 1 λ_=>(.int .i64 0)) (.t 10) (.t 10))<|o7 4 11<|.nil) (.seq (qN (qL [0,3,4]<|o7 12 0<|oP 13 12<|o8 14 0<|.nil) (qM [14,13,0,3,4] (.block 0 (.loop [13,0,3,4] [14] ais)))) asr))))
def Grs(f:FuncId)(a:List SV)(m:List ay):Sx.Call:=(FH.pz 41 (.one dw) (.one kQ) (λy=>y.1.length<=1000) (λy=>rowsOf y.1.length (bI y.1)) FH.none) f a m
theorem VR:type_of% (nq Grs.eq_1):=nq Grs.eq_1
theorem VT:aW Tryz.prog Grs:=FH.oq (λy h=>Dp y.1 h) FH.none_ok
theorem abu(l:List Ev)(hok:(aF l).2=0):FnOK Tryz.prog 42 [dw.aA l] [] (ZU.aA (ou l)) []:=by
 have hl:=bP hok;refine fn_walkA j42 [.tmp 2] 50 VT rfl ?_;unfold j42;simp only[go_sem,seval,VR];refine⟨by omega,⟨by omega,by omega⟩,?_⟩
 refine aZ Nat (λj=>[.int .i64 j]) (λj=>[.vec 70 6 ((Px l j 0).map bU.aA)]) (λj=>j<=l.length) (λj=>l.length - j) 0 (by omega) ?_ ?_ ?_
 ·simp only[go_sem,seval]
 ·have e:(Px l 0 0).map bU.aA=List.replicate l.length (.arr 6 1 λ_=> .int .i64 0):=by
   rw[mP,Px,uH];refine bZ λa ha=> ?_;rw[DW]
   congr 1
   funext u
   by_cases e:a=0
   ·simp[e,cw]
   ·simp[e]
  rw[e]
 intro j hj;by_cases h1:j<l.length
 ·have h1':(j:Int)<l.length:=by omega
  unfold ais;simp only[go_sem,seval,h1'];refine aZ Nat (λi=>[.int .i64 i]) (λi=>[.vec 70 6 ((Px l j i).map bU.aA)]) (λi=>i<=l.length) (λi=>l.length - i) 0 (by omega) ?_ rfl ?_
  ·simp only[go_sem,seval]
  intro i hi;by_cases h2:i<l.length
  ·have h2':(i:Int)<l.length:=by omega
   obtain⟨b1,b2,b3,b4⟩:=(bC _).1 (jq hok i h2);have hlen:(Px l j i).length=l.length:=jI;have hg:=ait (l:=Px l j i) (i:=j) (by rw[hlen];exact h1)
   have hij:(decide ((i:Int)=(j:Int))||bI l i j)=Eu l j i:=by rw[Eu];congr 1;exact decide_eq_decide.2 (by omega)
   unfold air;simp only[go_sem,seval,h1,h1',h2',vk,rows_row h2,tY h2 h1,hlen,hg,aoy,b1,b2];have hgj:(Px l j i).getD j bU.aI=λu=>cw l (Eu l j) u i:=by rw[Px,fO h1];funext u;simp
   rw[hij,hgj];refine⟨λ_=>⟨by omega,by omega⟩,λh3=>⟨by omega,by omega,by omega,i+1,by omega,by omega,aY,?_⟩,λh3=>⟨i+1,by omega,by omega,aY,?_⟩⟩
   ·have e:((Px l j i).set j λu=>if u=(l.getD i aO.aI).aC.toNat then z05.wrap (cw l (Eu l j) (l.getD i aO.aI).aC.toNat i+1) else cw l (Eu l j) u i)=Px l j (i+1):=by
     unfold Px;rw[I7];refine bZ λa ha=> ?_;by_cases e:a=j
     ·subst e
      funext u
      by_cases e2:u=(l.getD i aO.aI).aC.toNat
      ·subst e2;simp[cw,h3]
      ·have e3:¬ (l.getD i aO.aI).aC.toNat=u:=λh=>e2 h.symm;simp only[if_true,Nat.lt_irrefl,if_false,e2,cw,e3,and_false]
     ·simp[e]
    rw[e]
   ·have e:Px l j i=Px l j (i+1):=by
     unfold Px;refine bZ λa ha=> ?_
     funext u
     by_cases e:a=j
     ·subst e;simp[cw,h3]
     ·simp[e]
    rw[e]
  ·have h2':¬ (i:Int)<l.length:=by omega
   unfold air;simp only[go_sem,seval,h2'];unfold asq;simp only[go_sem,seval];refine⟨j+1,by omega,by omega,aY,?_⟩
   have ei:i=l.length:=by omega
   subst ei;have e:Px l j l.length=Px l (j+1) 0:=by
    unfold Px;refine bZ λa ha=> ?_
    funext u
    by_cases e:a=j
    ·subst e;simp
    ·by_cases e2:a<j
     ·simp[e2,show a<j+1 by omega]
     ·simp[e2,e,show ¬ a<j+1 by omega,cw]
   rw[e]
 ·have h1':¬ (j:Int)<l.length:=by omega
  unfold ais;simp only[go_sem,seval,h1'];unfold asr;simp only[go_sem,seval];have ej:j=l.length:=by omega
  subst ej;have e:Px l l.length 0=ou l:=by
   unfold Px ou;refine bZ λa ha=> ?_
   funext u
   simp[ha]
  rw[e]
end Go.Proofs.YtgnaipcjbmhihaaGreatDoor.St
namespace Go.Proofs.YtgnaipcjbmhihaaGreatDoor.St
open D Tr C Ah Ps Od
noncomputable def cnt(l:List Ev)(S:Nat->Prop)(u:Nat):Nat->Nat
 |0=>0
 |i+1=>cnt l S u i+(open Classical in if S i/\(at' l i).aC.toNat=u then 1 else 0)
section
variable {l:List Ev} {S S':Nat->Prop} {u:Nat}
theorem cnt_le:∀ {n:Nat},(∀ i,i<n->(at' l i).aC.toNat=u->S i->S' i)->cnt l S u n<=cnt l S' u n
 |0,_=>z08 _
 |n+1,h=>by
  have ih:=cnt_le (n:=n) (λi hi=>h i (by omega))
  simp only[cnt];by_cases hs:S n/\(at' l n).aC.toNat=u
  ·rw[if_pos hs,if_pos ⟨h n (by omega) hs.2 hs.1,hs.2⟩];omega
  ·rw[if_neg hs];omega
theorem gK{n:Nat}(h:∀ i,i<n->(at' l i).aC.toNat=u->(S i↔S' i)):cnt l S u n=cnt l S' u n:=
 Nat.le_antisymm (cnt_le λi hi ht hs=>(h i hi ht).1 hs) (cnt_le λi hi ht hs=>(h i hi ht).2 hs)
theorem zW:∀ n,cnt l S u n<=n
 |0=>z08 _
 |n+1=>by have:=zW n;simp only[cnt];split<;>omega
theorem JF{n:Nat}(h1:DC l S)(h2:DC l S'):cnt l (λi=>S i\/S' i) u n=max (cnt l S u n) (cnt l S' u n):=by
 by_cases hs:∀ i,i<n->(at' l i).aC.toNat=u->S i->S' i
 ·have e:=cnt_le (l:=l) (u:=u) hs;rw[Nat.max_eq_right e];exact gK λi hi ht=>⟨λh=>h.elim (hs i hi ht) id, .inr⟩
 ·have hs':∀ i,i<n->(at' l i).aC.toNat=u->S' i->S i:=by
   intro i hi ht hi';simp only[Classical.not_forall] at hs;obtain⟨a,ha,ta,sa,na⟩:=hs;rcases Nat.lt_trichotomy a i with e|e|e
   ·exact absurd (h2 i a hi' e (by omega)) na
   ·subst e;exact sa
   ·exact h1 a i sa e (by omega)
  have e:=cnt_le (l:=l) (u:=u) hs';rw[Nat.max_eq_left e];exact gK λi hi ht=>⟨λh=>h.elim id (hs' i hi ht), .inl⟩
theorem aae{j:Nat}(hj:¬ S j):∀ {n:Nat},cnt l (λi=>i=j\/S i) u n=cnt l S u n+if j<n/\(at' l j).aC.toNat=u then 1 else 0
 |0=>by simp[cnt]
 |n+1=>by
  simp only[cnt,aae hj (n:=n)];by_cases e:n=j
  ·subst e;by_cases ht:(at' l n).aC.toNat=u
   ·simp[ht,hj]
   ·rw[if_neg (λh=>ht h.2),if_neg (λh=>ht h.2),if_neg (λh=>ht h.2),if_neg (λh=>ht h.2)]
  ·have e2:(if j<n+1/\(at' l j).aC.toNat=u then 1 else 0)=if j<n/\(at' l j).aC.toNat=u then 1 else 0:=by
    by_cases hh:j<n/\(at' l j).aC.toNat=u
    ·rw[if_pos hh,if_pos ⟨by omega,hh.2⟩]
    ·rw[if_neg hh,if_neg (λh=>hh ⟨by omega,h.2⟩)]
   rw[e2];by_cases hs:S n/\(at' l n).aC.toNat=u
   ·rw[if_pos hs,if_pos (show(n=j\/S n)/\(at' l n).aC.toNat=u from⟨.inr hs.1,hs.2⟩)];omega
   ·rw[if_neg hs,if_neg (show ¬ ((n=j\/S n)/\(at' l n).aC.toNat=u) from λh=>hs ⟨h.1.elim (λh=>absurd h e) id,h.2⟩)];omega
end
theorem Vz(l:List Ev)(S:Nat->Bool)(u:Nat):∀ n,n<=1000->cw l S u n=(cnt l (λi=>S i=true) u n:Nat)
 |0,_=>rfl
 |n+1,h=>by
  have ih:=Vz l S u n (by omega)
  have hb:=zW (l:=l) (S:=λi=>S i=true) (u:=u) n;simp only[cw,cnt];show(if S n=true/\(at' l n).aC.toNat=u then z05.wrap (cw l S u n+1) else cw l S u n)=_
  by_cases hs:S n=true/\(at' l n).aC.toNat=u
  ·rw[if_pos hs,if_pos hs,ih];exact aY
  ·rw[if_neg hs,if_neg hs,ih];simp
theorem zD{a b:ji}{u:Nat}(hu:u<6){x y:Nat}(ha:a u=x)(hb:b u=y):iT a b u=(max x y:Nat):=by simp only[iT,mrg,if_pos hu,mxI,ha,hb];split<;>omega
structure KI(l:List Ev)(j:Nat)(k:Kp):Prop where
 aC:∀ t u,t<6->u<6->k.aC t u=(cnt l (TS l j t) u l.length:Nat)
 lk:∀ m u,m<5->u<6->k.lk m u=(cnt l (LS l j m) u l.length:Nat)
 vl:∀ v u,v<4->u<6->k.vl v u=(cnt l (VS l j v) u l.length:Nat)
section
variable {l:List Ev} (hok:(aF l).2=0)
include hok
theorem pre_at{j:Nat}(hj:j<l.length){k:Kp}(h:KI l j k){u:Nat}(hu:u<6):Lc k (at' l j) u=(cnt l (λi=>Ae l i j) u l.length:Nat):=by
 have b:=bnd hok hj;have ht:(at' l j).aC.toNat<6:=by omega
 have dT:∀ t,DC l (TS l j t):=λt=>Sj hok (z0p hj);have dL:∀ t,DC l (LS l j t):=λt=>Sj hok (z0p hj);have dV:∀ t,DC l (VS l j t):=λt=>Sj hok (z0p hj);have pc:∀ {S:Nat->Prop},(∀ i,Ae l i j↔S i)->cnt l (λi=>Ae l i j) u l.length=cnt l S u l.length:=λhS=>gK λi _ _=>hS i;unfold Lc;by_cases k3:(at' l j).kind=3
 ·have b5:(at' l j).obj<5:=by have:=b.2.2.2;simp only[many,k3,z0q,or_self,true_or,if_true,if_false] at this;exact this
  rw[if_pos k3,zD hu (h.aC _ u ht hu) (h.lk _ u (by omega) hu),<- JF (dT _) (dL _)]
  congr 1
  exact(pc λi=>by rw[pV hok hj];simp[k3]).symm
 by_cases k7:(at' l j).kind=7
 ·have b5:(at' l j).obj<4:=by have:=b.2.2.2;simp only[many,k7,z0q,or_self,true_or,if_true,if_false] at this;exact this
  rw[if_neg k3,if_pos k7,zD hu (h.aC _ u ht hu) (h.vl _ u (by omega) hu),<- JF (dT _) (dV _)]
  congr 1
  exact(pc λi=>by rw[pV hok hj];simp[k7]).symm
 by_cases k6:(at' l j).kind=6
 ·have b5:(at' l j).obj<6:=by have:=b.2.2.2;simp only[many,k6,z0q,or_self,or_true,if_true,if_false] at this;exact this
  rw[if_neg k3,if_neg k7,if_pos k6,zD hu (h.aC _ u ht hu) (h.aC _ u (by omega) hu),<- JF (dT _) (dT _)]
  congr 1
  exact(pc λi=>by rw[pV hok hj];simp[k6]).symm
 ·rw[if_neg k3,if_neg k7,if_neg k6,h.aC _ u ht hu]
  congr 1
  exact(pc λi=>by rw[pV hok hj];simp[k3,k7,k6]).symm
theorem aiH{j:Nat}(hj:j<l.length){k:Kp}(h:KI l j k){u:Nat}(hu:u<6):lW k (at' l j) u=(cnt l (λi=>MH l i j) u l.length:Nat):=by
 have b:=bnd hok hj;have hl:=bP hok;have ht:(at' l j).aC.toNat<6:=by omega
 have hn:¬ Ae l j j:=λh=>Nat.lt_irrefl _ h.lt;have e:=aae (l:=l) (S:=λi=>Ae l i j) (u:=u) (j:=j) hn (n:=l.length);have hb:=zW (l:=l) (S:=λi=>Ae l i j) (u:=u) l.length;unfold lW O9;have e2:cnt l (λi=>MH l i j) u l.length=cnt l (λi=>i=j\/Ae l i j) u l.length:=rfl;rw[e2,e];by_cases hut:u=(at' l j).aC.toNat
 ·rw[if_pos hut,<- hut,pre_at hok hj h hu,if_pos ⟨hj,rfl⟩];exact aY
 ·rw[if_neg hut,pre_at hok hj h hu,if_neg (λh=>hut h.2.symm)];simp
theorem avE{j:Nat}(hj:j<l.length){i:Nat}(h:TS l j (at' l j).aC.toNat i):Ae l i j:=(pV hok hj i).2 (.inl h)
theorem aoI{j:Nat}(hj:j<l.length){k:Kp}(h:KI l j k):KI l (j+1) (yg k (at' l j)):=by
 have b:=bnd hok hj;have nw:∀ {u:Nat},u<6->lW k (at' l j) u=(cnt l (λi=>MH l i j) u l.length:Nat):=λhu=>aiH hok hj h hu;have VQ:∀ t u,t<6->u<6->¬ ((at' l j).kind=5/\(at' l j).obj.toNat=t)->pW k.aC (at' l j).aC.toNat (lW k (at' l j)) t u=(cnt l (TS l (j+1) t) u l.length:Nat):=by
  intro t u ht hu hnf;unfold pW;by_cases e:t=(at' l j).aC.toNat
  ·rw[if_pos e,nw hu]
   congr 1
   refine gK λi _ _=>⟨λhi=>⟨j,by omega,hi, .inl e.symm⟩,?_⟩
   rintro⟨c,hc,h1,h2⟩;by_cases ec:c=j
   ·exact ec▸h1
   ·exact .inr (avE hok hj (e▸⟨c,by omega,h1,h2⟩))
  ·rw[if_neg e,h.aC t u ht hu]
   congr 1
   refine gK λi _ _=>⟨?_,?_⟩
   ·rintro⟨c,hc,h1,h2⟩;exact⟨c,by omega,h1,h2⟩
   ·rintro⟨c,hc,h1,h2⟩;by_cases ec:c=j
    ·subst ec;rcases h2 with h2|h2
     ·exact absurd h2.symm e
     ·exact absurd h2 hnf
    ·exact⟨c,by omega,h1,h2⟩
 have hlk:(at' l j).kind≠4->∀ m u,m<5->u<6->k.lk m u=(cnt l (LS l (j+1) m) u l.length:Nat):=by
  intro k4 m u hm hu;rw[h.lk m u hm hu]
  congr 1
  refine gK λi _ _=>⟨?_,?_⟩
  ·rintro⟨c,hc,h1,h2⟩;exact⟨c,by omega,h1,h2⟩
  ·rintro⟨c,hc,h1,h2⟩;by_cases ec:c=j
   ·subst ec;exact absurd h2.1 k4
   ·exact⟨c,by omega,h1,h2⟩
 have hvl:(at' l j).kind≠8->∀ m u,m<4->u<6->k.vl m u=(cnt l (VS l (j+1) m) u l.length:Nat):=by
  intro k4 m u hm hu;rw[h.vl m u hm hu]
  congr 1
  refine gK λi _ _=>⟨?_,?_⟩
  ·rintro⟨c,hc,h1,h2⟩;exact⟨c,by omega,h1,h2⟩
  ·rintro⟨c,hc,h1,h2⟩;by_cases ec:c=j
   ·subst ec;exact absurd h2.1 k4
   ·exact⟨c,by omega,h1,h2⟩
 have dN:DC l (λi=>MH l i j):=arR hok hj;unfold yg;by_cases k4:(at' l j).kind=4
 ·have b5:(at' l j).obj<5:=by have:=b.2.2.2;simp only[many,k4,z0q,or_self,or_true,if_true,if_false] at this;exact this
  simp only[k4,if_true];refine⟨λt u ht hu=>VQ t u ht hu (by simp[k4]),λm u hm hu=> ?_,λv u hv hu=>hvl (by simp[k4]) v u hv hu⟩
  have hDD:∀ t,DC l (LS l j t):=λt=>Sj hok (z0p hj);show pW k.lk (at' l j).obj.toNat (iT (k.lk (at' l j).obj.toNat) (lW k (at' l j))) m u=_;unfold pW;by_cases e:m=(at' l j).obj.toNat
  ·rw[if_pos e,zD hu (h.lk _ u (by omega) hu) (nw hu),<- JF (hDD _) dN]
   congr 1
   refine gK λi _ _=>⟨?_,?_⟩
   ·rintro(⟨c,hc,h1,h2⟩|h1)
    ·exact⟨c,by omega,h1,h2.1,by rw[e];exact h2.2⟩
    ·exact⟨j,by omega,h1,k4,e.symm⟩
   ·rintro⟨c,hc,h1,h2⟩;by_cases ec:c=j
    ·exact .inr (ec▸h1)
    ·exact .inl ⟨c,by omega,h1,h2.1,by rw[<- e];exact h2.2⟩
  ·rw[if_neg e,h.lk m u hm hu]
   congr 1
   refine gK λi _ _=>⟨?_,?_⟩
   ·rintro⟨c,hc,h1,h2⟩;exact⟨c,by omega,h1,h2⟩
   ·rintro⟨c,hc,h1,h2⟩;by_cases ec:c=j
    ·subst ec;exact absurd h2.2.symm e
    ·exact⟨c,by omega,h1,h2⟩
 by_cases k8:(at' l j).kind=8
 ·have b5:(at' l j).obj<4:=by have:=b.2.2.2;simp only[many,k8,z0q,or_self,or_true,if_true,if_false] at this;exact this
  simp only[k8,z0q,if_true,if_false];refine⟨λt u ht hu=>VQ t u ht hu (by simp[k8]),λm u hm hu=>hlk k4 m u hm hu,λv u hv hu=> ?_⟩
  have hDD:∀ t,DC l (VS l j t):=λt=>Sj hok (z0p hj);show pW k.vl (at' l j).obj.toNat (iT (k.vl (at' l j).obj.toNat) (lW k (at' l j))) v u=_;unfold pW;by_cases e:v=(at' l j).obj.toNat
  ·rw[if_pos e,zD hu (h.vl _ u (by omega) hu) (nw hu),<- JF (hDD _) dN]
   congr 1
   refine gK λi _ _=>⟨?_,?_⟩
   ·rintro(⟨c,hc,h1,h2⟩|h1)
    ·exact⟨c,by omega,h1,h2.1,by rw[e];exact h2.2⟩
    ·exact⟨j,by omega,h1,k8,e.symm⟩
   ·rintro⟨c,hc,h1,h2⟩;by_cases ec:c=j
    ·exact .inr (ec▸h1)
    ·exact .inl ⟨c,by omega,h1,h2.1,by rw[<- e];exact h2.2⟩
  ·rw[if_neg e,h.vl v u hv hu]
   congr 1
   refine gK λi _ _=>⟨?_,?_⟩
   ·rintro⟨c,hc,h1,h2⟩;exact⟨c,by omega,h1,h2⟩
   ·rintro⟨c,hc,h1,h2⟩;by_cases ec:c=j
    ·subst ec;exact absurd h2.2.symm e
    ·exact⟨c,by omega,h1,h2⟩
 by_cases k5:(at' l j).kind=5
 ·simp only[k5,z0q,if_true,if_false];refine⟨λt u ht hu=> ?_,λm u hm hu=>hlk k4 m u hm hu,λv u hv hu=>hvl k8 v u hv hu⟩;show pW (pW k.aC (at' l j).aC.toNat (lW k (at' l j))) (at' l j).obj.toNat (lW k (at' l j)) t u=_;by_cases e:t=(at' l j).obj.toNat
  ·have e1:pW (pW k.aC (at' l j).aC.toNat (lW k (at' l j))) (at' l j).obj.toNat (lW k (at' l j)) t u=lW k (at' l j) u:=by unfold pW;rw[if_pos e]
   rw[e1,nw hu]
   congr 1
   refine gK λi _ _=>⟨λhi=>⟨j,by omega,hi, .inr ⟨k5,e.symm⟩⟩,?_⟩
   rintro⟨c,hc,h1,h2⟩;by_cases ec:c=j
   ·exact ec▸h1
   ·have hcj:c<j:=by omega
    have bc:=bnd hok (show c<l.length by omega)
    obtain⟨f1,f2⟩:=WA hok hj k5 hcj;rcases h2 with h2|h2
    ·exact absurd (by omega) f1
    ·exact absurd ⟨h2.1,by omega⟩ f2
  ·have e1:pW (pW k.aC (at' l j).aC.toNat (lW k (at' l j))) (at' l j).obj.toNat (lW k (at' l j)) t u=pW k.aC (at' l j).aC.toNat (lW k (at' l j)) t u:=by
    conv=>lhs;unfold pW
    rw[if_neg e];rfl
   rw[e1];exact VQ t u ht hu (λhh=>e hh.2.symm)
 ·simp only[k4,k8,k5,if_false];exact⟨λt u ht hu=>VQ t u ht hu (λhh=>k5 hh.1),λm u hm hu=>hlk k4 m u hm hu,λv u hv hu=>hvl k8 v u hv hu⟩
theorem asz:∀ {j:Nat},j<=l.length->KI l j (kAt l j)
 |0,_=>by
  have z:∀ (S:Nat->Prop) u n,(∀ i,¬ S i)->cnt l S u n=0:=by
   intro S u n hS
   induction n with
   |zero=>rfl
   |succ n ih=>simp only[cnt,ih];rw[if_neg (λh=>hS n h.1)]
  refine⟨λt u _ _=> ?_,λm u _ _=> ?_,λv u _ _=> ?_⟩
  ·rw[z _ _ _ (λi h=>by obtain⟨c,hc,_⟩:=h;omega)];rfl
  ·rw[z _ _ _ (λi h=>by obtain⟨c,hc,_⟩:=h;omega)];rfl
  ·rw[z _ _ _ (λi h=>by obtain⟨c,hc,_⟩:=h;omega)];rfl
 |j+1,hj=>aoI hok (by omega) (asz (by omega))
omit hok in
theorem aiI{i j:Nat}(hj:j<l.length):Eu l j i=true↔MH l i j:=by simp only[Eu,z0t,decide_eq_true_eq,lC (z0p hj)];rfl
theorem aaI{j u:Nat}(hj:j<l.length)(hu:u<6):lW (kAt l j) (at' l j) u=cw l (Eu l j) u l.length:=by
 have hl:=bP hok;rw[aiH hok hj (asz hok (z0p hj)) hu,Vz l _ u _ (by omega)]
 congr 1
 exact gK λi _ _=>(aiI hj).symm
end
end Go.Proofs.YtgnaipcjbmhihaaGreatDoor.St
namespace Go.Proofs.YtgnaipcjbmhihaaGreatDoor.Gr
open D Tr Ps
def gE(l:List Ev)(a b:Nat)(i:Nat):Bool:=decide ((l.getD i aO.aI).kind=3)&&decide ((l.getD i aO.aI).obj=b)&&decide (Tr.aN (l.take i) a=(l.getD i aO.aI).aC)
def gP(l:List Ev)(a b:Nat):Nat->Bool
 |0=>false
 |i+1=>gP l a b i||gE l a b i
def gQ(l:List Ev)(a b:Nat):Bool:=gP l a b l.length
theorem aq4{l:List Ev}{a b i:Nat}(h:gE l a b i=true):∀ n,i<n->gP l a b n=true
 |0,h=>by omega
 |n+1,hn=>by
  rw[gP];by_cases e:i=n
  ·subst e;simp[h]
  ·rw[aq4 h n (by omega)];rfl
def aq5:JC:=(qN (oO 11 10 9<|.nil) (.seq (qO 11 .skip (.exit 0)) (.seq (.block 1 (qN (o7 12 10<|oK 13 3 8 10<|oC 14 3 13<|qK 7 56<|o7 6 12<|oG 3 7 14<|.nil) (qM [7,1,2,6,0,10,9,8] (.seq (.bJ<|oD 15 0 0 7<|o9 16 1 15<|oH 17 16 3<|o7 18 17<|qL [18,7,1,2,6,0,10,9,8]<|.sc false 23 18 (oD 19 2 2 7<|o9 20 1 19<|o7 21 1<|oZ 22 20 21<|.nil) (.t 22)<|o7 24 23<|.sc false 33 24 (o9 25 1 2<|o7 26 6<|qo 27 (.slc 3 (.t 25) none (some (.t 26)) none)<|o7 28 0<|qG 29 85 27 28<|oD 30 1 1 7<|o9 31 1 30<|oZ 32 29 31<|.nil) (.t 32)<|.nil) (qM [33,10,9,8,1,2,0] (qO 33 (qN (qH 5 true<|.nil) .ret) .skip)))))) (qM [10,9,8,1,2,0] (.ops<|oJ 34 10 1<|o7 10 34<|.nil)))))
def aq6:JC:=(qM [] (qN (qH 5 false<|.nil) .ret))
def j84:JC:=(qN (qH 5 false<|.nil) (.seq (qN (o9 8 1 2<|oP 9 8<|o8 10 0<|.nil) (.block 0 (.loop [9,8,1,2,0] [10] aq5))) aq6))
abbrev aL:DA (List Ev×Unit):= .one dw.ref
def G1(f:FuncId)(a:List SV)(m:List ay):Sx.Call:=(FH.rd 85 (.two dw .int) (.one .int) (λ_=>True) (λy=>Tr.aN y.1 y.2.1) FH.none) f a m
theorem axY:type_of% (nq G1.eq_1):=nq G1.eq_1
theorem axZ:aW Tryz.prog G1:=FH.aT (λy _=>Ou y.1 y.2.1) FH.none_ok
theorem aaX(l:List Ev)(a b:Nat):FnOK Tryz.prog 84 [.int .i64 a, .int .i64 b, .ref (dw.aA l) [] 0] [] (.bool (gQ l a b)) []:=by
 refine nO λhB=>fn_walkA j84 [.tmp 5] 35 axZ rfl ?_;simp only[go_sem,seval] at hB;unfold j84;simp only[go_sem,seval];refine aZ Nat (λi=>[.int .i64 i]) (λ_=>[]) (λi=>i<=l.length/\gP l a b i=false) (λi=>l.length - i) 0 ⟨by omega,rfl⟩ ?_ rfl ?_
 ·simp only[go_sem,seval]
 rintro i ⟨hi,hinv⟩;unfold aq5;simp only[go_sem,seval,axY];refine⟨λh1=> ?_,λh1=> ?_⟩
 ·have hw:z05.wrap ((i:Int)+1)=((i+1:Nat):Int):=aY;refine⟨by omega,λ_=>⟨by omega,by omega⟩,λh2=> ?_,λh2=>⟨i+1,⟨by omega,?_⟩,by omega,hw⟩⟩
  ·exact(aq4 (i:=i) h2 _ (by omega)).symm
  ·rw[gP,hinv,gE,h2];rfl
 ·have e:i=l.length:=by omega
  subst e;unfold aq6;simp only[go_sem,seval];exact hinv.symm
def j44:JC:=(qN (oV 1 29 0<|oU 2<|.nil) (qN (qo 3 (.GL 84 [(.t 1)])<|eo 4 (.call 83 [(I 5),(.t 3)])<|o7 2 4<|.nil) .ret))
def G2(f:FuncId)(a:List SV)(m:List ay):Sx.Call:=(FH.mk 83 (.two .int (DT.clo 84 aL)) (λz=>z.1=5) (λz=> .vec 0 (fD (gQ z.2.1.1) 5 5).length) (λz=>[.vec 131 2 ((fD (gQ z.2.1.1) 5 5).map jo.aA)]) FH.none) f a m
theorem ax0:type_of% (nq G2.eq_1):=nq G2.eq_1
theorem ax1:aW Tryz.prog G2:=FH.eu (λy _=>cZ (nM _ _) ⟨bY _ _ jo _,trivial⟩) (λy h=>by obtain⟨n,⟨l,u⟩,v⟩:=y;simp only at h;subst h;exact aaY 84 aL (l,()) 5 (gQ l) (by omega) (by kernel_rfl) (λi j hi hj=>aaX l i j)) FH.none_ok
theorem afH(l:List Ev):FnOK Tryz.prog 44 [dw.aA l] [] (.vec 0 (fD (gQ l) 5 5).length) [.vec 131 2 ((fD (gQ l) 5 5).map jo.aA)]:=by refine fn_walkA j44 [.tmp 2] 5 ax1 rfl ?_;unfold j44;simp only[go_sem,seval,ax0]
def aq7:JC:=(qN (qA 37 36 5<|.nil) (.seq (qO 37 .skip (.exit 3)) (.seq (.block 4 (qN (o7 38 36<|qo 39 (.ix 5 1 false (.t 35) (.t 36))<|o7 10 38<|o7 11 39<|.nil) (qM [11,9,6,10,36,35,7,27,26,25] (qN (o7 40 11<|oD 41 1 1 9<|o9 42 1 41<|oJ 43 42 1<|oZ 44 40 43<|.nil) (qM [44,6,10,9,36,35,7,27,26,25] (qO 44 (.ops<|o7 45 6<|o7 46 10<|oD 47 2 2 9<|o9 48 1 47<|qo 49 (.lF (.agg [(.int .i64 0),(.int .i64 0)]) [([.eG 0],0,1,(.t 46)),([.eG 1],1,1,(.t 48))])<|en (.mJ (.put (.st [(.int .i64),(.int .i64)]) .bool) [(.t 45),(.t 49),(B true)])<|.nil) .skip)))))) (qM [36,35,9,6,7,27,26,25] (.ops<|oJ 50 36 1<|o7 36 50<|.nil)))))
def aq8:JC:=(qM [9,7,27,26,25,6] (.ops<|oD 51 2 2 9<|o9 52 1 51<|oD 53 1 1 9<|o9 54 1 53<|qL [54,7,52,27,26,25,6]<|oJ 55 54 1<|oL 56 5 1 7 52<|oG 1 56 55<|.nil))
def Zr:JC:=(qM [27,26,25,7,6] (.ops<|oJ 62 27 1<|o7 27 62<|.nil))
def aq9:JC:=(qN (oO 28 27 26<|.nil) (.seq (qO 28 .skip (.exit 0)) (.seq (.block 1 (qN (oK 29 3 25 27<|oC 30 3 29<|qK 9 56<|oG 3 9 30<|.nil) (qM [9,7,6,27,26,25] (qN (oD 31 0 0 9<|o9 32 1 31<|.nil) (.block 2 (qN (oH 34 32 3<|o7 33 34<|.nil) (qM [33,7,9,6,27,26,25,32] (qO 33 (.seq (qN (oC 35 5 7<|o8 36 0<|.nil) (qM [36,35,9,6,7,27,26,25] (.block 3 (.loop [35,9,6,7,27,26,25] [36] aq7)))) aq8) (qN (oH 58 32 4<|o7 57 58<|.nil) (qM [57,9,7,27,26,25,6] (qO 57 (.ops<|oD 59 2 2 9<|o9 60 1 59<|oL 61 5 1 7 60<|en (.store 1 (.t 61) (I 0))<|.nil) .skip))))))))))) Zr)))
def ara:JC:=(qN (qA 67 66 5<|.nil) (.seq (qO 67 .skip (.exit 7)) (.seq (.block 8 (qN (o7 68 66<|o7 14 68<|.nil) (qN (o7 69 13<|o7 70 14<|qL [69,70,6,12,66,13,63]<|qo 71 (.lF (.agg [(.int .i64 0),(.int .i64 0)]) [([.eG 0],0,1,(.t 69)),([.eG 1],1,1,(.t 70))])<|eo 15 (.alloc 131 (.agg [(.int .i64 0),(.int .i64 0)]))<|oG 2 15 71<|.nil) (qM [6,15,12,66,13,63] (qN (o7 72 6<|oC 73 2 15<|eo 74 (.mJ (.get (.st [(.int .i64),(.int .i64)]) .bool (.bool false) false) [(.t 72),(.t 73)])<|.nil) (qO 74 (.ops<|qL [12,15,66,13,6,63]<|o7 75 12<|oC 76 2 15<|eo 77 (.qj 131 2 1 (.agg [(.int .i64 0),(.int .i64 0)]) [(0,(.t 76))])<|oW 78 131 2 16 75 77<|o7 12 78<|.nil) .skip)))))) (qM [66,13,6,12,63] (.ops<|oJ 79 66 1<|o7 66 79<|.nil)))))
def arb:JC:=(qM [63,6,12] (.ops<|oJ 80 63 1<|o7 63 80<|.nil))
def ard:JC:=(qN (qA 64 63 5<|.nil) (.seq (qO 64 .skip (.exit 5)) (.seq (.block 6 (qN (o7 65 63<|o7 13 65<|.nil) (qN (o8 66 0<|.nil) (.block 7 (.bn 12 131 2 (.loop [13,6,63] [66,12] ara)))))) arb)))
def arf:JC:=(qM [12] (qN (o7 81 12<|o7 2 81<|o8 3 0<|.nil) (.bn 2 131 2 .ret)))
def arh:JC:=(qM [6] (qN (oU 12<|.nil) (.seq (qN (o8 63 0<|.nil) (.block 5 (.bn 12 131 2 (.loop [6] [63,12] ard)))) arf)))
def j65:JC:=(qN (oU 2<|o8 3 0<|.nil) (.seq (qN (o7 17 0<|oM 18 49 17<|o7 16 18<|oN 19 0 16<|oN 20 1 16<|o7 4 19<|o7 5 20<|.nil) (qN (o7 21 5<|qC 22 21 0<|.nil) (qM [22,5,0] (qO 22 (qN (o7 23 5<|oU 2<|o7 3 23<|.nil) (.bn 2 131 2 .ret)) .skip)))) (qM [0] (qN (eo 24 (.mJ (.make (.st [(.int .i64),(.int .i64)]) .bool) [])<|o7 6 24<|.nil) (qN (eo 7 (.alloc 167 (.arr 5 1 λ_=>(.int .i64 0)))<|.nil) (.seq (qN (o7 25 0<|oP 26 25<|o8 27 0<|.nil) (.block 0 (.loop [26,25,7,6] [27] aq9))) arh))))))
def yQ(l:List Ev):List Pr:=if (aK l).2.2=0 then fD (gQ l) 5 5 else[]
def Gg(f:FuncId)(a:List SV)(m:List ay):Sx.Call:=(FH.rd 49 (.one dw) (.two .int .int) (λ_=>True) (λy=>(aK y.1).2) FH.none) f a m
theorem ax2:type_of% (nq Gg.eq_1):=nq Gg.eq_1
theorem ax3:aW Tryz.prog Gg:=FH.aT (λy _=>lY y.1) FH.none_ok
theorem amX(l:List Ev):FnOK Tryz.prog 65 [dw.aA l] [] (.bK [.vec 0 (yQ l).length, .int .i64 (aK l).2.2]) [.vec 131 2 ((yQ l).map jo.aA)]:=by
 refine nO λhB=>fn_walkA j65 [.tmp 2, .tmp 3] 82 ax3 rfl ?_;simp only[go_sem,seval] at hB;unfold j65;simp only[go_sem,seval,ax2];refine⟨λh=>by simp[yQ,h],λh=> ?_⟩
 have hok:(aF l).2=0:=by rw[<- iE];exact h
 have hl:=bP hok;refine aZ (Nat×List Pr) (λi=>[.int .i64 i.1]) (λi=>[.mp (.st [.int .i64, .int .i64]) .bool (yB jo i.2), .blk 167 (.arr 5 1 λk=> .int .i64 (Tr.aN (l.take i.1) k+1))])
  (λi=>i.1<=l.length/\∀ a b:Nat,a<5->decide ((⟨a,b⟩:Pr)∈i.2)=gP l a b i.1) (λi=>l.length - i.1) (0,[]) ⟨by simp,λa b _=>by simp[gP]⟩ ?_ rfl ?_
 ·simp only[go_sem,seval]
 rintro⟨i,L⟩ ⟨hi,hinv⟩;simp only at hi hinv;unfold aq9;simp only[go_sem,seval];refine⟨λh1=> ?_,λh1=> ?_⟩
 ·have hil:i<l.length:=by omega
  have hev:=(bC _).1 (jq hok i hil);have hgE:∀ a b,gE l a b i=(decide ((l.getD i aO.aI).kind=3)&&decide ((l.getD i aO.aI).obj=b)&&decide (Tr.aN (l.take i) a=(l.getD i aO.aI).aC)):=λa b=>rfl;have hown:∀ k:Nat,Tr.aN (l.take (i+1)) k=tK k (Tr.aN (l.take i) k) (l.getD i aO.aI):=λk=>by rw[bH aO.aI hil,iV]
  generalize l.getD i aO.aI=e at hev hgE hown ⊢;obtain⟨b1,b2,b3,b4⟩:=hev;have hw:z05.wrap ((i:Int)+1)=((i+1:Nat):Int):=aY;have VQ:z05.wrap (e.aC+1)=e.aC+1:=aY;have hm:∀ (f g:Nat->Int) (X:List Pr),(∀ k,f k=g k)->[ay.mp (.st [.int .i64, .int .i64]) .bool (yB jo X),ay.blk 167 (.arr 5 1 λk=> .int .i64 (f k))]=[ay.mp (.st [.int .i64, .int .i64]) .bool (yB jo X),ay.blk 167 (.arr 5 1 λk=> .int .i64 (g k))]:=λf g X h=>by rw[funext h]
  refine⟨by omega,λh3=> ?_,λh3=>⟨λh4=> ?_,λh4=> ?_⟩⟩
  ·have b5:e.obj<5:=by simpa[many,h3] using b4
   refine aZ (Nat×List Pr) (λj=>[.int .i64 j.1]) (λj=>[.mp (.st [.int .i64, .int .i64]) .bool (yB jo j.2), .blk 167 (.arr 5 1 λk=> .int .i64 (Tr.aN (l.take i) k+1)), .blk 56 (aO.aA e)])
    (λj=>j.1<=5/\∀ a b:Nat,a<5->decide ((⟨a,b⟩:Pr)∈j.2)=(gP l a b i||(decide (a<j.1)&&gE l a b i))) (λj=>5 - j.1) (0,L) ⟨by simp,λa b ha=>by simp[hinv a b ha]⟩ ?_ rfl ?_
   ·simp only[go_sem,seval]
   rintro⟨k,L'⟩ ⟨hk,hinv'⟩;simp only at hk hinv';unfold aq7;simp only[go_sem,seval];rw[VQ];refine⟨λh4=>⟨⟨by omega,by omega⟩,λh5=>⟨(k+1,Ov ⟨k,e.obj⟩ L'),⟨by omega,λa b ha=> ?_⟩,by omega,aY,rfl⟩,λh5=>⟨(k+1,L'),⟨by omega,λa b ha=> ?_⟩,by omega,aY,rfl⟩⟩,λh4=> ?_⟩
   ·have h7:Tr.aN (l.take i) k=e.aC:=by omega
    have h6:decide ((⟨a,b⟩:Pr)∈Ov ⟨k,e.obj⟩ L')=(decide (a=k/\e.obj=(b:Int))||decide ((⟨a,b⟩:Pr)∈L')):=by rw[<- Bool.decide_or];refine decide_eq_decide.2 ?_;rw[Rf,Pr.mk.injEq];exact or_congr (and_congr (by omega) eq_comm) Iff.rfl
    rw[h6,hinv' a b ha];by_cases hak:a=k
    ·subst hak;by_cases hb:e.obj=(b:Int)
     ·simp[hgE,h3,hb,h7]
     ·simp[hgE,hb]
    ·simp[hak,show(a<k+1)=(a<k) from propext (by omega)]
   ·have h7:¬ Tr.aN (l.take i) k=e.aC:=by omega
    rw[hinv' a b ha];by_cases hak:a=k
    ·subst hak;simp[hgE,h7]
    ·simp[show(a<k+1)=(a<k) from propext (by omega)]
   ·have hk5:k=5:=by omega
    subst hk5;unfold aq8;simp only[go_sem,seval];rw[VQ];refine⟨⟨by omega,by omega⟩,?_⟩
    unfold Zr;simp only[go_sem,seval];refine⟨(i+1,L'),⟨by omega,λa b ha=> ?_⟩,by omega,hw,?_⟩
    ·rw[hinv' a b ha,gP];simp[ha]
    ·refine hm _ _ _ λk=> ?_;rw[hown,tK,h3];by_cases hk:k=e.obj.toNat
     ·rw[if_pos hk,if_neg (by omega),if_pos (by omega)]
     ·rw[if_neg hk,if_neg (by omega),if_neg (by omega)]
  ·have b5:e.obj<5:=by simpa[many,h4] using b4
   refine⟨⟨by omega,by omega⟩,?_⟩
   unfold Zr;simp only[go_sem,seval];refine⟨(i+1,L),⟨by omega,λa b ha=> ?_⟩,by omega,hw,?_⟩
   ·rw[hinv a b ha,gP,hgE];simp[h3]
   ·refine hm _ _ _ λk=> ?_;rw[hown,tK,h4];by_cases hk:k=e.obj.toNat
    ·rw[if_pos hk,if_pos (by omega)];rfl
    ·rw[if_neg hk,if_neg (by omega),if_neg (by omega)]
  ·unfold Zr;simp only[go_sem,seval];refine⟨(i+1,L),⟨by omega,λa b ha=> ?_⟩,by omega,hw,?_⟩
   ·rw[hinv a b ha,gP,hgE];simp[h3]
   ·refine hm _ _ _ λk=> ?_;rw[hown,tK,if_neg (λh=>h4 h.2),if_neg (λh=>h3 h.2)]
 ·have hil:i=l.length:=by omega
  subst hil;unfold arh;simp only[go_sem,seval];refine aZ Nat (λi=>[.int .i64 i, .vec 2 (fD (gQ l) 5 i).length]) (λi=>[.mp (.st [.int .i64, .int .i64]) .bool (yB jo L), .blk 167 (.arr 5 1 λk=> .int .i64 (Tr.aN (l.take l.length) k+1)), .vec 131 2 ((fD (gQ l) 5 i).map jo.aA)]) (λi=>i<=5) (λi=>5 - i) 0 (by omega) ?_ rfl ?_
  ·simp only[go_sem,seval];rfl
  intro i hi5;unfold ard;simp only[go_sem,seval];have hb1:=yR (gQ l) 5 i;refine⟨λh2=> ?_,λh2=> ?_⟩
  ·refine aZ Nat (λj=>[.int .i64 j, .vec 2 (fD (gQ l) 5 i++rowP (gQ l) i j).length]) (λj=>[.mp (.st [.int .i64, .int .i64]) .bool (yB jo L), .blk 167 (.arr 5 1 λk=> .int .i64 (Tr.aN (l.take l.length) k+1)), .vec 131 2 ((fD (gQ l) 5 i++rowP (gQ l) i j).map jo.aA)]) (λj=>j<=5) (λj=>5 - j) 0 (by omega) ?_ ?_ ?_
   ·simp only[go_sem,seval];simp[rowP]
   ·simp[rowP]
   intro j hj;unfold ara;simp only[go_sem,seval];have hb2:=yS (gQ l) i j;have hq:(⟨(i:Int),(j:Int)⟩:Pr)∈L↔gQ l i j=true:=by rw[gQ,<- hinv i j (by omega)];simp
   refine⟨λh3=>⟨λh4=>⟨by simp only[z01,z1a];omega,j+1,by omega,by omega,⟨aY,?_⟩,?_⟩,λh4=>⟨j+1,by omega,by omega,⟨aY,?_⟩,?_⟩⟩,λh3=> ?_⟩
   ·simp[rowP,hq.1 h4,Nat.add_assoc]
   ·simp[rowP,hq.1 h4,ED]
   ·simp[rowP,show gQ l i j=false by simpa using λe=>h4 (hq.2 e)]
   ·simp[rowP,show gQ l i j=false by simpa using λe=>h4 (hq.2 e)]
   ·have e:j=5:=by omega
    subst e;unfold arb;simp only[go_sem,seval];exact⟨i+1,by omega,by omega,⟨aY,rfl⟩,by rw[fD,z0s]⟩
  ·have e:i=5:=by omega
   subst e;unfold arf;simp only[go_sem,seval];simp[yQ,h]
end Go.Proofs.YtgnaipcjbmhihaaGreatDoor.Gr
namespace Go.Proofs.YtgnaipcjbmhihaaGreatDoor.Hs
open D
def rY(l:List Int)(x:Int):Bool:=l.any λy=>decide (y=x)
def VN(l:List Pr)(x:Pr):Bool:=l.any λy=>decide (x.a=y.a)&&decide (x.b=y.b)
def alz:JC:=(qN (oO 10 9 8<|.nil) (.seq (qO 10 .skip (.exit 0)) (.seq (.block 1 (qN (oK 11 1 7 9<|o9 12 1 11<|o7 6 12<|.nil) (qN (qL [1,6,9,8,7]<|o7 13 1<|o7 14 6<|oZ 15 13 14<|.nil) (qM [15,9,8,7,1] (qO 15 (qN (qH 4 true<|.nil) .ret) .skip))))) (qM [9,8,7,1] (.ops<|oJ 16 9 1<|o7 9 16<|.nil)))))
def alA:JC:=(qM [] (qN (qH 4 false<|.nil) .ret))
def j118:JC:=(qN (qH 4 false<|.nil) (.seq (qN (o7 7 0<|oP 8 7<|o8 9 0<|.nil) (.block 0 (.loop [8,7,1] [9] alz))) alA))
theorem afz(l:List Int)(x:Int):FnOK Tryz.prog 118 [wM.aA l, .int .i64 x] [] (.bool (rY l x)) []:=by
 refine nO λhB=>fn_walkA j118 [.tmp 4] 17 FH.none_ok rfl ?_;simp only[go_sem,seval] at hB;unfold j118;simp only[go_sem,seval];refine aZ Nat (λi=>[.int .i64 i]) (λ_=>[]) (λi=>i<=l.length/\(l.take i).any (λy=>decide (y=x))=false) (λi=>l.length - i) 0 ⟨by omega,rfl⟩ ?_ rfl ?_
 ·simp only[go_sem,seval]
 intro i hi;unfold alz;simp only[go_sem,seval];refine⟨λh1=>⟨by omega,λh2=> ?_,λh2=>⟨i+1,⟨by omega,?_⟩,by omega,aY⟩⟩,λh1=> ?_⟩
 ·rw[rY,Om (i:=i) (d:=(0:Int)) (by omega) (decide_eq_true h2.symm)]
 ·rw[CW (0:Int) _ (by omega) hi.2];exact decide_eq_false (λh=>h2 h.symm)
 ·rw[rY,any_none h1 hi];unfold alA;simp only[go_sem,seval]
def asR:JC:=(qN (oO 10 9 8<|.nil) (.seq (qO 10 .skip (.exit 0)) (.seq (.block 1 (qN (oK 11 2 7 9<|oC 12 2 11<|eo 6 (.alloc 131 (.agg [(.int .i64 0),(.int .i64 0)]))<|oG 2 6 12<|.nil) (qN (qL [3,6,9,8,7]<|oC 13 2 3<|oC 14 2 6<|qo 15 (.aeq false (.st [(.int .i64),(.int .i64)]) (.t 13) (.t 14))<|.nil) (qM [15,9,8,7,3] (qO 15 (qN (qH 4 true<|.nil) .ret) .skip))))) (qM [9,8,7,3] (.ops<|oJ 16 9 1<|o7 9 16<|.nil)))))
def asT:JC:=(qM [] (qN (qH 4 false<|.nil) .ret))
def j82:JC:=(qN (oV 3 131 1<|qH 4 false<|.nil) (.seq (qN (o7 7 0<|oP 8 7<|o8 9 0<|.nil) (.block 0 (.loop [8,7,3] [9] asR))) asT))
theorem amT(l:List Pr)(x:Pr):FnOK Tryz.prog 82 [Oj.aA l,jo.aA x] [] (.bool (VN l x)) []:=by
 refine nO λhB=>fn_walkA j82 [.tmp 4] 17 FH.none_ok rfl ?_;simp only[go_sem,seval] at hB;unfold j82;simp only[go_sem,seval];refine aZ Nat (λi=>[.int .i64 i]) (λ_=>[.blk 131 (jo.aA x)]) (λi=>i<=l.length/\(l.take i).any (λy=>decide (x.a=y.a)&&decide (x.b=y.b))=false) (λi=>l.length - i) 0 ⟨by omega,rfl⟩ ?_ rfl ?_
 ·simp only[go_sem,seval]
 intro i hi;unfold asR;simp only[go_sem,seval];refine⟨λh1=>⟨by omega,λh2=> ?_,λh2=>⟨i+1,⟨by omega,?_⟩,by omega,aY⟩⟩,λh1=> ?_⟩
 ·rw[VN,Om (i:=i) (d:=jo.aI) (by omega) h2]
 ·rw[CW jo.aI _ (by omega) hi.2];exact h2
 ·rw[VN,any_none h1 hi];unfold asT;simp only[go_sem,seval]
def alB:JC:=(qN (oO 9 8 7<|.nil) (.seq (qO 9 .skip (.exit 0)) (.seq (.block 1 (qN (o7 10 8<|o7 5 10<|.nil) (qN (o7 11 1<|o7 12 0<|o7 13 5<|oK 14 1 12 13<|o9 15 1 14<|oZ 16 11 15<|.nil) (qM [16,5,8,7,1,0] (qO 16 (qN (o7 17 5<|o7 4 17<|.nil) .ret) .skip))))) (qM [8,7,1,0] (.ops<|oJ 18 8 1<|o7 8 18<|.nil)))))
def alC:JC:=(qM [] (qN (o8 4 (-1)<|.nil) .ret))
def awV:JC:=(qN (o8 4 0<|.nil) (.seq (qN (o7 6 0<|oP 7 6<|o8 8 0<|.nil) (.block 0 (.loop [7,1,0] [8] alB))) alC))
def LH(x:Int):List Int->Nat->Int
 |[],_=> -1
 |y::l,i=>if x=y then i else LH x l (i+1)
theorem UM{x:Int}:∀ {l:List Int} {i:Nat},decide (0<=LH x l i)=rY l x
 |[],i=>by simp[LH,rY]
 |y::l,i=>by
  rw[LH];by_cases h:x=y
  ·subst h;simp[rY]
  ·rw[if_neg h,UM];simp[rY,Ne.symm h]
theorem alD(l:List Int)(x:Int):FnOK Tryz.prog 180 [wM.aA l, .int .i64 x] [] (.int .i64 (LH x l 0)) []:=by
 refine nO λhB=>fn_walkA awV [.tmp 4] 19 FH.none_ok rfl ?_;simp only[go_sem,seval] at hB;unfold awV;simp only[go_sem,seval];refine aZ Nat (λi=>[.int .i64 i]) (λ_=>[]) (λi=>i<=l.length/\LH x l 0=LH x (l.drop i) i) (λi=>l.length - i) 0 ⟨by omega,rfl⟩ ?_ rfl ?_
 ·simp only[go_sem,seval]
 intro i hi;unfold alB;simp only[go_sem,seval];obtain⟨hi1,hi2⟩:=hi;refine⟨λh1=> ?_,λh1=> ?_⟩
 ·rw[nP (0:Int) (show i<l.length by omega),LH] at hi2
  refine⟨by omega,λh2=> ?_,λh2=>⟨i+1,⟨by omega,?_⟩,by omega,aY⟩⟩
  ·rw[hi2,if_pos h2]
  ·rw[hi2,if_neg h2]
 ·rw[hi2,z1f (by omega),LH]
  unfold alC;simp only[go_sem,seval]
def awW:JC:=(qN (qH 4 false<|.nil) (qN (o7 5 0<|o7 6 1<|qE 7 180 5 6<|qo 8 (.cmp .geq (.t 7) (I 0))<|o7 4 8<|.nil) .ret))
def Gix(f:FuncId)(a:List SV)(m:List ay):Sx.Call:=(FH.rd 180 (.two wM .int) (.one .int) (λ_=>True) (λy=>LH y.2.1 y.1 0) FH.none) f a m
theorem awX:type_of% (nq Gix.eq_1):=nq Gix.eq_1
theorem awY:aW Tryz.prog Gix:=FH.aT (λy _=>alD y.1 y.2.1) FH.none_ok
theorem UL(l:List Int)(x:Int):FnOK Tryz.prog 168 [wM.aA l, .int .i64 x] [] (.bool (rY l x)) []:=by refine fn_walkA awW [.tmp 4] 9 awY rfl ?_;unfold awW;simp only[go_sem,seval,awX];rw[UM]
end Go.Proofs.YtgnaipcjbmhihaaGreatDoor.Hs
namespace Go.Proofs.YtgnaipcjbmhihaaGreatDoor.Cp
open D
def j104:JC:=(qN (oU 2<|.nil) (.seq (qN (o7 3 0<|qo 4 (.BJ false (.t 3))<|.nil) (qO 4 (qN (oU 2<|.nil) (.bn 2 56 3 .ret)) .skip)) (qN (eo 5 (.qj 56 3 0 (.agg [(.int .i64 0),(.int .i64 0),(.int .i64 0)]) [])<|o7 6 0<|oW 7 56 3 24 5 6<|o7 2 7<|.nil) (.bn 2 56 3 .ret))))
theorem L9(xs:List Ev)(h:xs.length<=1000000):FnOK Tryz.prog 104 [dw.aA xs] [] (.vec 0 xs.length) [.vec 56 3 (xs.map aO.aA)]:=by
 refine fn_walkA j104 [.tmp 2] 8 FH.none_ok rfl ?_;unfold j104;simp only[go_sem,seval];refine⟨λh0=> ?_,λ_=>by omega⟩
 have:xs=[]:=z0x.1 h0;subst this;exact⟨⟨rfl,rfl⟩,by simp⟩
def au2:JC:=(qN (oU 2<|.nil) (.seq (qN (o7 3 0<|qo 4 (.BJ false (.t 3))<|.nil) (qO 4 (qN (oU 2<|.nil) (.bn 2 3 1 .ret)) .skip)) (qN (eo 5 (.qj 3 1 0 (.int .i64 0) [])<|o7 6 0<|oW 7 3 1 8 5 6<|o7 2 7<|.nil) (.bn 2 3 1 .ret))))
theorem WM(xs:List Int)(h:xs.length<=1000000):FnOK Tryz.prog 169 [wM.aA xs] [] (.vec 0 xs.length) [.vec 3 1 (xs.map DT.int.aA)]:=by
 refine fn_walkA au2 [.tmp 2] 8 FH.none_ok rfl ?_;unfold au2;simp only[go_sem,seval];refine⟨λh0=> ?_,λ_=>by omega⟩
 have:xs=[]:=z0x.1 h0;subst this;exact⟨⟨rfl,rfl⟩,by simp⟩
def j32:JC:=(qN (oU 2<|.nil) (qN (o7 3 0<|eo 4 (.app 56 3 24 (.c .bF) (.t 3))<|o7 2 4<|.nil) (.bn 2 56 3 .ret)))
theorem Rn(xs:List Ev)(h:xs.length<=1000000):FnOK Tryz.prog 32 [dw.aA xs] [] (.vec 0 xs.length) [.vec 56 3 (xs.map aO.aA)]:=by refine fn_walkA j32 [.tmp 2] 5 FH.none_ok rfl ?_;unfold j32;simp only[go_sem,seval];omega
def j119:JC:=(qN (oU 2<|.nil) (qN (o7 3 0<|eo 4 (.app 3 1 8 (.c .bF) (.t 3))<|o7 2 4<|.nil) (.bn 2 3 1 .ret)))
theorem aaV(xs:List Int)(h:xs.length<=1000000):FnOK Tryz.prog 119 [wM.aA xs] [] (.vec 0 xs.length) [.vec 3 1 (xs.map DT.int.aA)]:=by refine fn_walkA j119 [.tmp 2] 5 FH.none_ok rfl ?_;unfold j119;simp only[go_sem,seval];omega
end Go.Proofs.YtgnaipcjbmhihaaGreatDoor.Cp
namespace Go.Proofs.YtgnaipcjbmhihaaGreatDoor.Rg
open D Hs Cp
abbrev Gr:=Nat->Nat->Bool
def dG:DT Gr:=DT.arr 5 5 (DT.arr 5 1 DT.bool)
instance:Flat dG:=inferInstanceAs (Flat (DT.arr 5 5 (DT.arr 5 1 DT.bool)))
theorem azv(f:Gr):dG.aA f= .arr 5 5 λi=> .arr 5 1 λj=> .bool (f i j):=nr rfl
theorem awQ(m:List ay)(f:Gr):dG.aG m (.arr 5 5 λi=> .arr 5 1 λj=> .bool (f i j))=f:=nr rfl
theorem awR(m:List ay)(f:Gr):dG.decP m (.arr 5 5 λi=> .arr 5 1 λj=> .bool (f i j))=True:=eq_true ⟨rfl,rfl,λ_ _=>⟨rfl,rfl,λ_ _=>trivial⟩⟩
attribute [go_sem] azv awQ awR
theorem aqB(n w:Nat)(f:Nat->Nat->Bool)(i:Nat)(g:Nat->Bool):wS (λk=>SV.arr n w λj=> .bool (f k j)) i (.arr n w λj=> .bool (g j))=λk=>SV.arr n w λj=> .bool (if k=i then g j else f k j):=by
 funext k;unfold wS;split<;>rfl
def qU(x:Pr):Bool:=decide (x.a<0)||decide (5<=x.a)||decide (x.b<0)||decide (5<=x.b)
def Pn(p:List Pr):Gr:=λa b=>VN p ⟨a,b⟩
def Bd(p:List Pr):SV:=if p.any qU=true then .bK [.jr, .int .i64 1] else .bK [.ptr 0 [] 0, .int .i64 0]
def Bf(T:TypeId)(p:List Pr):List ay:=if p.any qU=true then[] else[.blk T (dG.aA (Pn p))]
theorem alr{p:List Pr}{i a b:Nat}(hi:i<p.length)(ha:(p.getD i jo.aI).a=a)(hb:(p.getD i jo.aI).b=b)(u v:Nat):(if u=a then if v=b then true else Pn (p.take i) a v else Pn (p.take i) u v)=Pn (p.take (i+1)) u v:=by
 simp only[Pn,VN,bH jo.aI hi,List.any_append,List.any_cons,List.any_nil,Bool.or_false,ha,hb];by_cases h1:u=a
 ·subst h1;by_cases h2:v=b
  ·subst h2;simp
  ·simp[h2,show ¬ (v:Int)=(b:Int) by omega]
 ·simp[h1,show ¬ (u:Int)=(a:Int) by omega]
def Qq:JC:=(qN (oO 12 11 10<|.nil) (.seq (qO 12 .skip (.exit 0)) (.seq (.block 1 (qN (oK 13 2 9 11<|oC 14 2 13<|eo 6 (.alloc 131 (.agg [(.int .i64 0),(.int .i64 0)]))<|oG 2 6 14<|.nil) (.seq (qN (qL [6,4,11,10,9]<|oD 15 0 0 6<|o9 16 1 15<|qA 17 16 0<|o7 18 17<|qL [18,6,4,11,10,9]<|.sc true 22 18 (oD 19 0 0 6<|o9 20 1 19<|qo 21 (.cmp .geq (.t 20) (I 5))<|.nil) (.t 21)<|o7 23 22<|.sc true 27 23 (oD 24 1 1 6<|o9 25 1 24<|qA 26 25 0<|.nil) (.t 26)<|qL [27,6,4,11,10,9]<|o7 28 27<|.sc true 32 28 (oD 29 1 1 6<|o9 30 1 29<|qo 31 (.cmp .geq (.t 30) (I 5))<|.nil) (.t 31)<|.nil) (qM [32,4,6,11,10,9] (qO 32 (qN (qo 2 (.mv (.c .jr))<|o8 3 1<|.nil) .ret) .skip))) (qM [4,6,11,10,9] (.bJ<|o7 33 4<|oD 34 0 0 6<|o9 35 1 34<|oD 36 1 1 6<|o9 37 1 36<|qL [33,35,37,11,10,9,4]<|oQ 38 33<|oL 39 5 5 38 35<|oL 40 5 1 39 37<|en (.store 1 (.t 40) (B true))<|.nil))))) (qM [11,10,9,4] (.ops<|oJ 41 11 1<|o7 11 41<|.nil)))))
def als:JC:=(qM [4] (qN (o7 42 4<|o7 2 42<|o8 3 0<|.nil) .ret))
def j100:JC:=(qN (qo 2 (.mv (.c .jr))<|o8 3 0<|.nil) (qN (qo 7 (.lF (.arr 5 5 λ_=>(.arr 5 1 λ_=>(.bool false))) [])<|oV 8 224 7<|o7 4 8<|.nil) (.seq (qN (o7 9 0<|oP 10 9<|o8 11 0<|.nil) (.block 0 (.loop [10,9,4] [11] Qq))) als)))
theorem awS(p:List Pr):FnOK Tryz.prog 100 [Oj.aA p] [] (Bd p) (Bf 224 p):=by
 refine nO λhB=>fn_walkA j100 [.tmp 2, .tmp 3] 43 FH.none_ok rfl ?_;simp only[go_sem,seval] at hB;unfold j100;simp only[go_sem,seval];refine aZ Nat (λi=>[.int .i64 i]) (λi=>[.blk 224 (dG.aA (Pn (p.take i)))]) (λi=>i<=p.length/\(p.take i).any qU=false) (λi=>p.length - i) 0 ⟨by omega,rfl⟩ ?_ ?_ ?_
 ·simp only[go_sem,seval]
 ·rfl
 rintro i ⟨hi,hi2⟩;by_cases h1:i<p.length
 ·have h1':(i:Int)<p.length:=by omega
  have hw:z05.wrap ((i:Int)+1)=((i+1:Nat):Int):=aY;cases hb:qU (p.getD i jo.aI) with
  |true=>
   have hb':=hb;unfold qU at hb';unfold Qq;simp only[go_sem,seval,h1',hw,hb'];have hany:p.any qU=true:=Om h1 hb;exact⟨by omega,by rw[Bd,if_pos hany],by rw[Bf,if_pos hany]⟩
  |false=>
   have hb':=hb;unfold qU at hb';obtain⟨a,b,ha,hb2,ha5,hb5⟩:∃ a b:Nat,(p.getD i jo.aI).a=a/\(p.getD i jo.aI).b=b/\a<5/\b<5:=by simp only[z0y,decide_eq_false_iff_not] at hb';exact⟨(p.getD i jo.aI).a.toNat,(p.getD i jo.aI).b.toNat,by omega,by omega,by omega,by omega⟩
   rw[ha,hb2] at hb';unfold Qq;simp only[go_sem,seval,h1',hw,ha,hb2,hb',aqB,alr h1 ha hb2];refine⟨by omega,⟨by omega,by omega⟩,⟨by omega,by omega⟩,i+1,⟨by omega,?_⟩,by omega,rfl,rfl⟩
   rw[CW jo.aI _ h1 hi2,hb]
 ·have h1':¬ (i:Int)<p.length:=by omega
  have e:i=p.length:=by omega
  subst e;unfold Qq;simp only[go_sem,seval,h1'];unfold als;simp only[go_sem,seval];rw[z0i] at hi2 ⊢;exact⟨by rw[Bd,if_neg (by rw[hi2];simp)],by rw[Bf,if_neg (by rw[hi2];simp)];rfl⟩
def scan{α:Type}(f:Nat->Option α):Nat->Nat->Option α
 |_,0=>none
 |k,n+1=>match f k with
  |some r=>some r
  |none=>scan f (k+1) n
def gI(g:Gr)(x y:Int):Bool:=g x.toNat y.toNat
def kJ(g:Gr):Nat->List Int->Option (List Int)
 |0,row=>if gI g (row.getD (row.length - 1) 0) (row.getD 0 0)=true then some row else none
 |n+1,row=>scan (λk=>if (gI g (row.getD (row.length - 1) 0) k&& !rY row k)=true then kJ g n (row++[(k:Int)]) else none) 0 5
theorem vw{α:Type}{f:Nat->Option α}{r:α}:∀ {n k:Nat},scan f k n=some r->∃ k,f k=some r
 |0,_,h=>by cases h
 |n+1,k,h=>by
  rw[scan] at h;cases hf:f k with
  |some r'=>rw[hf] at h;exact⟨k,by rw[hf];exact h⟩
  |none=>rw[hf] at h;exact vw h
theorem EZ{g:Gr}:∀ {n:Nat} {row r:List Int},kJ g n row=some r->r.length=row.length+n
 |0,row,r,h=>by
  rw[kJ] at h;split at h
  ·cases h;rfl
  ·cases h
 |n+1,row,r,h=>by
  rw[kJ] at h;obtain⟨k,hk⟩:=vw h;split at hk
  ·have:=EZ hk;rw[z01] at this;simp only[z0d,z0l] at this;omega
  ·cases hk
def Ey:DP (Option (List Int)):=⟨fun|none=> .bF|some l=>wM.aA l,λr y=>by cases y with|none=>rfl|some l=>exact wM.ren r l⟩
theorem EL:Ey.aA none= .bF:=nr rfl
theorem EM(l:List Int):Ey.aA (some l)=wM.aA l:=nr rfl
attribute [go_sem] EL EM
abbrev Fq(row:List Int):Prop:= ∀ x,x∈row->0<=x/\x<5
def E5:JC:=(qN (qA 37 36 5<|.nil) (.seq (qO 37 .skip (.exit 0)) (.seq (.block 1 (qN (o7 38 36<|qo 39 (.ix 5 1 false (.t 35) (.t 36))<|o7 8 38<|o7 9 39<|.nil) (qM [9,1,8,36,35,0,2] (.seq (qN (o7 40 9<|qF 41 40<|o7 42 41<|qL [42,1,8,36,35,0,2]<|.sc true 46 42 (o7 43 1<|o7 44 8<|qE 45 168 43 44<|.nil) (.t 45)<|.nil) (qO 46 (.exit 1) .skip)) (qM [0,1,8,2,36,35] (qN (o7 47 0<|o7 48 1<|oM 49 169 48<|o7 50 8<|eo 51 (.qj 3 1 1 (.int .i64 0) [(0,(.t 50))])<|qL [49,51,2,47,36,35,1,0]<|oW 52 3 1 8 49 51<|o7 53 2<|eo 54 (.call 140 [(.t 47),(.t 52),(.t 53)])<|o7 10 54<|.nil) (qM [10,36,35,1,0,2] (qN (o7 55 10<|qo 56 (.BJ true (.t 55))<|.nil) (qO 56 (qN (o7 57 10<|o7 6 57<|.nil) .ret) .skip))))))))) (qM [36,35,1,0,2] (.ops<|oJ 58 36 1<|o7 36 58<|.nil)))))
def alu:JC:=(qM [] (qN (oU 6<|.nil) .ret))
def aqC:JC:=(qN (oU 6<|.nil) (qN (o7 11 1<|o7 12 1<|oP 13 12<|qo 14 (.ar .sub (.t 13) (I 1))<|oK 15 1 11 14<|o9 16 1 15<|o7 7 16<|.nil) (.seq (qN (qL [1,2,0,7]<|o7 17 1<|oP 18 17<|o7 19 2<|oZ 20 18 19<|.nil) (qM [20,0,7,1,2] (qO 20 (.seq (.seq (.bJ<|o7 21 0<|o7 22 7<|qL [1,21,22]<|o7 23 1<|qB 24 1 23 0<|o9 25 1 24<|oQ 26 21<|qL [26,22,25,1]<|oL 27 5 5 26 22<|oL 28 5 1 27 25<|o9 29 1 28<|.nil) (qM [29,1] (qO 29 (qN (o7 30 1<|o7 6 30<|.nil) .ret) .skip))) (qM [] (qN (oU 6<|.nil) .ret))) .skip))) (qM [0,7,1,2] (.seq (qN (o7 31 0<|o7 32 7<|oQ 33 31<|oL 34 5 5 33 32<|oC 35 5 34<|o8 36 0<|.nil) (qM [36,35,1,0,2] (.block 0 (.loop [35,1,0,2] [36] E5)))) alu)))))
def Glo(g:Gr)(n many:Nat):FH:=FH.rd 168 (.two wM .int) (.one .bool) (λ_=>True) (λy=>rY y.1 y.2.1)<|
 FH.mk 169 (.one wM) (λy=>y.1.length<=1000000) (λy=> .vec 0 y.1.length) (λy=>[.vec 3 1 (y.1.map DT.int.aA)])<|
 FH.fz 140 (.three (DT.ref dG) wM .int) Ey (λy=>y.1=g/\y.2.1.length+n=many/\1<=y.2.1.length/\Fq y.2.1/\y.2.2.1=many) (λy=>kJ g n y.2.1) FH.none
theorem Qr(g:Gr)(n many:Nat)(f:FuncId)(a:List SV)(m:List ay):Glo g n many f a m=(FH.rd 168 (.two wM .int) (.one .bool) (λ_=>True) (λy=>rY y.1 y.2.1)<|
 FH.mk 169 (.one wM) (λy=>y.1.length<=1000000) (λy=> .vec 0 y.1.length) (λy=>[.vec 3 1 (y.1.map DT.int.aA)])<|
 FH.fz 140 (.three (DT.ref dG) wM .int) Ey (λy=>y.1=g/\y.2.1.length+n=many/\1<=y.2.1.length/\Fq y.2.1/\y.2.2.1=many) (λy=>kJ g n y.2.1) FH.none) f a m:=nr rfl
theorem UK(g:Gr)(many:Nat)(hm:many<=5):∀ (n:Nat) (row:List Int),row.length+n=many->1<=row.length->Fq row->
  FnOK Tryz.prog 140 [.ref (dG.aA g) [] 0,wM.aA row, .int .i64 many] [] (Ey.aA (kJ g n row)) []
 |0,row,hl,h1,hr=>by
  refine fn_walkA aqC [.tmp 6] 59 FH.none_ok rfl ?_;obtain⟨a,ha,ha5⟩:∃ a:Nat,row.getD (row.length - 1) 0=a/\a<5:=by
   have:=hr _ (getD_mem (l:=row) (i:=row.length - 1) (d:=0) (by omega))
   exact⟨(row.getD (row.length - 1) 0).toNat,by omega,by omega⟩
  obtain⟨b,hb,hb5⟩:∃ b:Nat,row.getD 0 0=b/\b<5:=by
   have:=hr _ (getD_mem (l:=row) (i:=0) (d:=0) (by omega))
   exact⟨(row.getD 0 0).toNat,by omega,by omega⟩
  have hw:z05.wrap ((row.length:Int) - 1)=((row.length - 1:Nat):Int):=by rw[aY];omega
  have e1:row.length - 1<row.length:=by omega
  have e1':((row.length - 1:Nat):Int)<row.length:=by omega
  obtain rfl:many=row.length:=by omega
  have e0:0<row.length:=by omega
  have e0':(0:Int)<row.length:=by omega
  rw[kJ,ha,hb,gI,z0m,z0m];unfold aqC;cases hg:g a b with
  |true=>
   simp only[go_sem,seval,hw,e1',ha,hb,e0',hg];exact⟨by omega,⟨by omega,by omega⟩,⟨by omega,by omega⟩⟩
  |false=>
   simp only[go_sem,seval,hw,e1',ha,hb,e0',hg];exact⟨by omega,⟨by omega,by omega⟩,⟨by omega,by omega⟩⟩
 |n+1,row,hl,h1,hr=>by
  have ih:=UK g many hm n;have hok:aW Tryz.prog (Glo g n many):=FH.aT (λy _=>UL y.1 y.2.1)<|
   FH.eu (λy _=>cZ (nM _ _) ⟨bY _ _ DT.int _,trivial⟩) (λy h=>WM y.1 h)<|
   FH.SY (λy h=>by obtain⟨g',row',m',u⟩:=y;obtain⟨h1,h2,h3,h4,h5⟩:=h;simp only at h1 h2 h3 h4 h5;subst h1;subst h5;exact ih row' h2 h3 h4) FH.none_ok
  refine fn_walkA aqC [.tmp 6] 59 hok rfl ?_;obtain⟨a,ha,ha5⟩:∃ a:Nat,row.getD (row.length - 1) 0=a/\a<5:=by
   have:=hr _ (getD_mem (l:=row) (i:=row.length - 1) (d:=0) (by omega))
   exact⟨(row.getD (row.length - 1) 0).toNat,by omega,by omega⟩
  have hw:z05.wrap ((row.length:Int) - 1)=((row.length - 1:Nat):Int):=by rw[aY];omega
  have e1:row.length - 1<row.length:=by omega
  have e1':((row.length - 1:Nat):Int)<row.length:=by omega
  have e2:¬ (row.length:Int)=many:=by omega
  unfold aqC;simp only[go_sem,seval,hw,e1',ha,e2];refine⟨by omega,⟨by omega,by omega⟩,?_⟩
  generalize hf:(λk:Nat=>if (gI g (row.getD (row.length - 1) 0) k&& !rY row k)=true then kJ g n (row++[(k:Int)]) else none)=f
  have hL:kJ g (n+1) row=scan f 0 5:=by rw[kJ,hf]
  rw[hL];refine aZ Nat (λk=>[.int .i64 k]) (λ_=>[]) (λk=>k<=5/\scan f 0 5=scan f k (5 - k)) (λk=>5 - k) 0 ⟨by omega,rfl⟩ ?_ rfl ?_
  ·simp only[go_sem,seval]
  rintro k ⟨hk,hinv⟩;by_cases h3:k<5
  ·have h3':(k:Int)<5:=by omega
   have hwk:z05.wrap ((k:Int)+1)=((k+1:Nat):Int):=aY;have hst:scan f 0 5=match f k with|some r=>some r|none=>scan f (k+1) (5 - (k+1)):=by rw[hinv,show 5 - k=(5 - (k+1))+1 by omega,scan];cases f k<;>rfl
   have hfk:f k=if (g a k&& !rY row k)=true then kJ g n (row++[(k:Int)]) else none:=by rw[<- hf];simp only[ha,gI,z0m]
   have asQ:(g a k&& !rY row k)=false->scan f 0 5=scan f (k+1) (5 - (k+1)):=λh=>by rw[hst,hfk,if_neg (by rw[h];simp)]
   have hal:(row++[(k:Int)]).length+n=many:=by rw[z01];simp only[z0d,z0l];omega
   have azy:1<=(row++[(k:Int)]).length:=by rw[z01];simp only[z0d,z0l];omega
   have hao:Fq (row++[(k:Int)]):=by
    intro x hx;rcases z06.1 hx with hx|hx
    ·exact hr x hx
    ·simp only[z0e,z0f,or_false] at hx;omega
   cases hgk:g a k with
   |false=>
    have hs:=asQ (by rw[hgk];rfl)
    unfold E5;simp only[go_sem,seval,Qr,h3',hwk,hgk];exact⟨by omega,k+1,⟨by omega,hs⟩,by omega,rfl⟩
   |true=>
    cases hh:rY row k with
    |true=>
     have hs:=asQ (by rw[hgk,hh];rfl)
     unfold E5;simp only[go_sem,seval,Qr,h3',hwk,hgk,hh];exact⟨by omega,k+1,⟨by omega,hs⟩,by omega,rfl⟩
    |false=>
     cases hr:kJ g n (row++[(k:Int)]) with
     |none=>
      have hs:scan f 0 5=scan f (k+1) (5 - (k+1)):=by rw[hst,hfk,hr];simp
      unfold E5;simp only[go_sem,seval,Qr,h3',hwk,hgk,hh,hr];exact⟨by omega,by omega,by omega,⟨hal,azy,hao⟩,k+1,⟨by omega,hs⟩,by omega,rfl⟩
     |some r=>
      have hs:scan f 0 5=some r:=by rw[hst,hfk,hr,hgk,hh];rfl
      have hrl:¬ r.length=0:=by have:=EZ hr;rw[z01] at this;omega
      unfold E5;simp only[go_sem,seval,Qr,h3',hwk,hgk,hh,hr,hrl,hs];exact⟨by omega,by omega,by omega,hal,azy,hao⟩
  ·have e:k=5:=by omega
   subst e;unfold E5;simp only[go_sem,seval];unfold alu;simp only[go_sem,seval];rw[hinv];rfl
def Jy(g:Gr):Option (List Int):=scan (λm=>scan (λk=>kJ g m [(k:Int)]) 0 5) 0 5
def Qs:JC:=(qN (qA 11 10 5<|.nil) (.seq (qO 11 .skip (.exit 2)) (.seq (.block 3 (qN (o7 12 10<|o7 4 12<|.nil) (qN (o7 13 0<|o7 14 4<|qL [14,3,13,10,0]<|eo 15 (.qj 3 1 1 (.int .i64 0) [(0,(.t 14))])<|o7 16 3<|eo 17 (.call 140 [(.t 13),(.t 15),(.t 16)])<|o7 5 17<|.nil) (qM [5,10,0,3] (qN (o7 18 5<|qo 19 (.BJ true (.t 18))<|.nil) (qO 19 (qN (o7 20 5<|o7 2 20<|.nil) .ret) .skip)))))) (qM [10,0,3] (.ops<|oJ 21 10 1<|o7 10 21<|.nil)))))
def alv:JC:=(qM [3,0] (.ops<|o7 8 3<|oJ 9 8 1<|o7 3 9<|.nil))
def YH:JC:=(.seq (qN (o7 6 3<|qo 7 (.cmp .leq (.t 6) (I 5))<|.nil) (qO 7 .skip (.exit 0))) (.seq (.block 1 (qN (o8 10 0<|.nil) (.block 2 (.loop [0,3] [10] Qs)))) alv))
def alx:JC:=(qM [] (qN (oU 2<|.nil) .ret))
def j101:JC:=(qN (oU 2<|.nil) (.seq (qN (o8 3 1<|.nil) (.block 0 (.loop [0] [3] YH))) alx))
def Grg(f:FuncId)(a:List SV)(m:List ay):Sx.Call:=(FH.fz 140 (.three (DT.ref dG) wM .int) Ey (λy=>y.2.2.1<=5/\y.2.1.length<=y.2.2.1/\1<=y.2.1.length/\Fq y.2.1) (λy=>kJ y.1 (y.2.2.1.toNat - y.2.1.length) y.2.1) FH.none) f a m
theorem aly:type_of% (nq Grg.eq_1):=nq Grg.eq_1
theorem awT:aW Tryz.prog Grg:=FH.SY (λy h=>by
    obtain⟨g,row,m,u⟩:=y;obtain⟨h1,h2,h3,h4⟩:=h;simp only at h1 h2 h3 h4;have:=UK g m.toNat (by omega) (m.toNat - row.length) row (by omega) h3 h4
    rw[show((m.toNat:Nat):Int)=m by omega] at this
    exact this) FH.none_ok
theorem awU(g:Gr):FnOK Tryz.prog 101 [.ref (dG.aA g) [] 0] [] (Ey.aA (Jy g)) []:=by
 refine fn_walkA j101 [.tmp 2] 22 awT rfl ?_;unfold j101;simp only[go_sem,seval];generalize hF:(λm=>scan (λk=>kJ g m [((k:Nat):Int)]) 0 5)=F;have hG:Jy g=scan F 0 5:=by rw[<- hF];rfl
 rw[hG];refine aZ Nat (λm=>[.int .i64 ((m+1:Nat):Int)]) (λ_=>[]) (λm=>m<=5/\scan F 0 5=scan F m (5 - m)) (λm=>5 - m) 0 ⟨by omega,rfl⟩ ?_ rfl ?_
 ·simp only[go_sem,seval]
 rintro m ⟨hm,hinv⟩;by_cases h1:m<5
 ·have h1':((m+1:Nat):Int)<=5:=by omega
  have hwm:z05.wrap (((m+1:Nat):Int)+1)=((m+1+1:Nat):Int):=aY;have hst:scan F 0 5=match F m with|some r=>some r|none=>scan F (m+1) (5 - (m+1)):=by rw[hinv,show 5 - m=(5 - (m+1))+1 by omega,scan];cases F m<;>rfl
  have hFm:F m=scan (λk=>kJ g m [((k:Nat):Int)]) 0 5:=by rw[<- hF]
  generalize hf:(λk=>kJ g m [((k:Nat):Int)])=f at hFm;unfold YH;simp only[go_sem,seval,h1'];refine aZ Nat (λk=>[.int .i64 k]) (λ_=>[]) (λk=>k<=5/\F m=scan f k (5 - k)) (λk=>5 - k) 0 ⟨by omega,hFm⟩ ?_ rfl ?_
  ·simp only[go_sem,seval]
  rintro k ⟨hk,CX⟩;by_cases h3:k<5
  ·have h3':(k:Int)<5:=by omega
   have hwk:z05.wrap ((k:Int)+1)=((k+1:Nat):Int):=aY;have hst2:F m=match f k with|some r=>some r|none=>scan f (k+1) (5 - (k+1)):=by rw[CX,show 5 - k=(5 - (k+1))+1 by omega,scan];cases f k<;>rfl
   have hfk:f k=kJ g m [(k:Int)]:=by rw[<- hf]
   have hao:Fq [(k:Int)]:=by intro x hx;simp only[z0e,z0f,or_false] at hx;omega
   cases hr:kJ g m [(k:Int)] with
   |none=>
    have hs:F m=scan f (k+1) (5 - (k+1)):=by rw[hst2,hfk,hr]
    unfold Qs;simp only[go_sem,seval,aly,h3',hwk,z1l,hr];exact⟨⟨by omega,by omega,hao⟩,k+1,⟨by omega,hs⟩,by omega,rfl⟩
   |some r=>
    have hs:scan F 0 5=some r:=by rw[hst,hst2,hfk,hr]
    have hrl:¬ r.length=0:=by have:=EZ hr;simp only[z0d,z0l] at this;omega
    unfold Qs;simp only[go_sem,seval,aly,h3',hwk,z1l,hr,hrl,hs];exact⟨by omega,by omega,hao⟩
  ·have e:k=5:=by omega
   subst e;unfold Qs;simp only[go_sem,seval];unfold alv;simp only[go_sem,seval,hwm];exact⟨m+1,⟨by omega,by rw[hst,CX];rfl⟩,by omega,rfl⟩
 ·have e:m=5:=by omega
  subst e;unfold YH;simp only[go_sem,seval];unfold alx;simp only[go_sem,seval];rw[hinv];rfl
def j66:JC:=(qN (oU 2<|o8 3 0<|.nil) (qN (o7 7 0<|oM 8 100 7<|o7 6 8<|oN 9 0 6<|oN 10 1 6<|o7 4 9<|o7 5 10<|.nil) (.seq (qN (o7 11 5<|qC 12 11 0<|.nil) (qM [12,5,4] (qO 12 (qN (o7 13 5<|oU 2<|o7 3 13<|.nil) .ret) .skip))) (qM [4] (qN (o7 14 4<|oM 15 101 14<|o7 2 15<|o8 3 0<|.nil) .ret)))))
def A8(p:List Pr):Option (List Int):=if p.any qU=true then none else Jy (Pn p)
def Vy(p:List Pr):Int:=if p.any qU=true then 1 else 0
def Grn(f:FuncId)(a:List SV)(m:List ay):Sx.Call:=(FH.mk 100 (.one Oj) (λ_=>True) (λy=>Bd y.1) (λy=>Bf 224 y.1)<|FH.fz 101 (.one (DT.ref dG)) Ey (λ_=>True) (λy=>Jy y.1) FH.none) f a m
theorem uP:type_of% (nq Grn.eq_1):=nq Grn.eq_1
theorem YI(T:TypeId)(p:List Pr):EH (Bd p) (Bf T p):=by
 unfold Bd Bf;split
 ·exact cZ (fU ⟨ajJ,fF _ _,trivial⟩) trivial
 ·exact cZ (fU ⟨aph _ _ _,fF _ _,trivial⟩) ⟨OC _ dG _,trivial⟩
theorem Jo:aW Tryz.prog Grn:=FH.eu (λy _=>YI _ y.1) (λy _=>awS y.1)<|FH.SY (λy _=>awU y.1) FH.none_ok
theorem avp(p:List Pr):FnOK Tryz.prog 66 [Oj.aA p] [] (.bK [Ey.aA (A8 p), .int .i64 (Vy p)]) []:=by
 refine fn_walkA j66 [.tmp 2, .tmp 3] 16 Jo rfl ?_;unfold j66;unfold A8 Vy;by_cases h:p.any qU=true
 ·have e1:Bd p= .bK [.jr, .int .i64 1]:=by rw[Bd,if_pos h]
  have e2:∀ T,Bf T p=[]:=λT=>by rw[Bf,if_pos h]
  simp only[go_sem,seval,uP,e1,e2,h]
 ·have e1:Bd p= .bK [.ptr 0 [] 0, .int .i64 0]:=by rw[Bd,if_neg h]
  have e2:∀ T,Bf T p=[.blk T (dG.aA (Pn p))]:=λT=>by rw[Bf,if_neg h]
  cases hr:Jy (Pn p) with
  |none=>simp only[go_sem,seval,uP,e1,e2,h,hr]
  |some r=>simp only[go_sem,seval,uP,e1,e2,h,hr]
end Go.Proofs.YtgnaipcjbmhihaaGreatDoor.Rg
section
open Go Go.Sx
namespace Go.Proofs.YtgnaipcjbmhihaaGreatDoor.Mr
open D
theorem CJ(i:Nat):∀ l:List SV,dI i l=l.map (kill i)
 |[]=>rfl
 |x::l=>by rw[dI,CJ i l];rfl
section
variable {α:Type} {T U:TypeId} {w:Nat} {d:DT α} {L:List (List α)}
def mr(T U:TypeId)(w:Nat)(d:DT α)(L:List (List α)):List ay:=
 .vec T 1 (tb L.length λk=> .vec (k+1) (L.getD k []).length)::L.map λr=> .vec U w (r.map d.aA)
theorem mg:(mr T U w d L).length=L.length+1:=by simp[mr]
theorem afe:[ay.vec T 1 []]=mr T U w d []:=rfl
theorem as1(x:List ay):ah (mr T U w d L++x) 0= .vec T 1 (tb L.length λk=> .vec (k+1) (L.getD k []).length):=rfl
theorem amK:ah (mr T U w d L) 0= .vec T 1 (tb L.length λk=> .vec (k+1) (L.getD k []).length):=rfl
theorem aaK(x:ay)(y:List ay):ah (mr T U w d L++x::y) (L.length+1)=x:=by
 unfold ah;rw[z0r,z0o (by rw[mg];exact z08 _),mg]
 simp
theorem VD(x y:ay)(z:List ay):ah (mr T U w d L++x::y::z) (L.length+1+1)=y:=by
 unfold ah;rw[z0r,z0o (by rw[mg];omega),mg]
 simp[show L.length+1+1 - (L.length+1)=1 by omega]
theorem VE(x y z:ay)(v:List ay):ah (mr T U w d L++x::y::z::v) (L.length+1+1+1)=z:=by
 unfold ah;rw[z0r,z0o (by rw[mg];omega),mg]
 simp[show L.length+1+1+1 - (L.length+1)=2 by omega]
theorem VF(x z:ay)(y:List ay):(mr T U w d L++x::y).set (L.length+1) z=mr T U w d L++z::y:=by
 rw[List.set_append_right _ _ (by rw[mg];exact z08 _),mg]
 simp
theorem amL{r:List α}{n:Nat}(hn:n=r.length)(y:List ay):(mr T U w d L++(.vec U w (r.map d.aA)::y)).set 0 (.vec T 1 ((tb L.length λk=>SV.vec (k+1) (L.getD k []).length)++[.vec (L.length+1) n]))=mr T U w d (L++[r])++y:=by
 subst hn;simp only[mr,z1m,z09,z0s,z0v,z01,z0d,z0l,CO]
 congr 2
 congr 1
 ·refine bZ λi hi=> ?_
  congr 2
  simp[z0r,z1d hi]
 ·simp[z0r]
theorem Zd{i:Nat}(hi:i=0\/L.length<i):(mr T U w d L).map (oz i)=mr T U w d L:=by
 simp only[mr,z02,oz,z0u]
 congr 1
 ·congr 1
  rw[CJ];unfold tb;rw[z0u];refine z0h λk hk=> ?_;have:=z1p.1 hk;simp only[Function.comp,kill];rw[if_neg (by omega)]
 ·refine z0h λr _=> ?_;simp only[Function.comp,oz];rw[CJ,z0u]
  congr 1
  exact z0h λx _=>d.kill i x
theorem aff:(mr T U w d L).map (oz 0)=mr T U w d L:=Zd (.inl rfl)
theorem afg:(mr T U w d L).map (oz (L.length+1))=mr T U w d L:=Zd (.inr (z19 _))
theorem aaL{n:Nat}{f:Nat->Nat}:dI 0 (tb n λk=>SV.vec (k+1) (f k))=tb n λk=>SV.vec (k+1) (f k):=by rw[CJ];unfold tb;rw[z0u];refine z0h λk hk=> ?_;simp only[Function.comp,kill];rw[if_neg (by omega)]
theorem Ze{k:Nat}(hk:k=L.length+1)(y:List ay):(List.take k (mr T U w d L++y)).map (dM (ug k))=mr T U w d L:=by
 have h1:(mr T U w d L++y).take k=mr T U w d L:=by rw[List.take_append_of_le_length (by rw[mg];omega)];exact List.take_of_length_le (by rw[mg];omega)
 rw[h1];simp only[mr,z02,dM,Hl,z0u]
 congr 1
 ·congr 1
  refine bZ λi hi=> ?_;simp[ren,kS,ug,show i+1<k by omega]
 ·refine z0h λr _=> ?_;simp only[Function.comp,dM,Oc]
theorem QX{k:Nat}(hk:k=L.length+1):(List.take k (mr T U w d L)).map (dM (ug k))=mr T U w d L:=by
 have:=Ze (T:=T) (U:=U) (w:=w) (d:=d) hk []
 rwa [z1b] at this
theorem afh{i:Nat}(hi:i<L.length):ah (mr T U w d L) (i+1)= .vec U w ((L.getD i []).map d.aA):=by simp[ah,mr,z0r,hi]
theorem amM:allL (tb L.length λk=>SV.vec (k+1) (L.getD k []).length) λy=>(DT.list w d).decP (mr T U w d L) y:=by
 intro y hy;obtain⟨i,hi,rfl⟩:=List.getElem_of_mem hy;rw[jI] at hi;have e:(tb L.length λk=>SV.vec (k+1) (L.getD k []).length)[i]'(by rw[jI];exact hi)= .vec (i+1) (L.getD i []).length:=by have:=nZ (f:=λk=>SV.vec (k+1) (L.getD k []).length) (n:=L.length) i;rw[if_pos hi] at this;exact(z1c.1 this).2
 rw[e,kT,afh hi];refine⟨rfl,?_⟩;rw[CP];exact λy _=>d.pE _ y
theorem amN:(tb L.length λk=>SV.vec (k+1) (L.getD k []).length).map (λy=>(DT.list w d).aG (mr T U w d L) y)=L:=by
 rw[uH]
 conv=>rhs;rw[axG L []]
 refine bZ λi hi=> ?_;rw[kU,afh hi];simp only[z0u];have:((λy=>d.aG (mr T U w d L) y)∘d.aA)=id:=by funext y;exact d.vE _ y
 rw[this,List.map_id]
end
end Go.Proofs.YtgnaipcjbmhihaaGreatDoor.Mr
end
namespace Go.Proofs.YtgnaipcjbmhihaaGreatDoor.Pg
open D
def j80:JC:=(qN (qH 6 false<|.nil) (qN (o7 7 0<|o7 8 1<|oO 9 7 8<|o7 10 9<|.sc true 14 10 (o7 11 0<|o7 12 2<|qo 13 (.cmp .gtr (.t 11) (.t 12))<|.nil) (.t 13)<|o7 6 14<|.nil) .ret))
def outB(n lo hi:Int):Bool:=decide (n<lo)||decide (hi<n)
theorem f_outside(n lo hi:Int):FnOK Tryz.prog 80 [.int .i64 n, .int .i64 lo, .int .i64 hi] [] (.bool (outB n lo hi)) []:=by refine fn_walkA j80 [.tmp 6] 15 FH.none_ok rfl ?_;unfold j80;simp only[go_sem,seval];rfl
end Go.Proofs.YtgnaipcjbmhihaaGreatDoor.Pg
namespace Go.Proofs.YtgnaipcjbmhihaaGreatDoor.Rg
open D Hs Cp Mr Pg
abbrev dRI:DT (List (List Int)):=DT.list 1 (DT.list 1 DT.int)
def tJ(r:List Int):Nat->List (List Int)
 |0=>[]
 |k+1=>tJ r k++if rY r k=true then[] else[r++[(k:Int)]]
def mF(L:List (List Int)):Nat->List (List Int)
 |0=>[]
 |i+1=>mF L i++tJ (L.getD i []) 5
def fJ:Nat->List (List Int)
 |0=>[[]]
 |n+1=>mF (fJ n) (fJ n).length
theorem Iu{r:List Int}:∀ k,(tJ r k).length<=k
 |0=>z08 _
 |k+1=>by have:=Iu (r:=r) k;rw[tJ,z01];split<;>simp<;>omega
theorem Bq{L:List (List Int)}:∀ i,(mF L i).length<=i*5
 |0=>z08 _
 |i+1=>by have h1:=Bq (L:=L) i;have h2:=Iu (r:=L.getD i []) 5;rw[mF,z01];omega
theorem LZ:∀ n,n<=5->(fJ n).length<=5^n
 |0,_=>z08 _
 |n+1,h=>by
  have h1:=LZ n (by omega)
  have h2:=Bq (L:=fJ n) (fJ n).length;rw[fJ,Nat.pow_succ];exact z0k h2 (Nat.mul_le_mul_right 5 h1)
theorem Iw{n:Nat}(h:n<=5):(fJ n).length<=3125:=z0k (LZ n h) (z0k (Nat.pow_le_pow_right (by omega) h) (by decide))
theorem Oi{r x:List Int}:∀ {k:Nat},x∈tJ r k->∃ j:Nat,j<k/\x=r++[(j:Int)]
 |0,h=>by cases h
 |k+1,h=>by
  rw[tJ,z06] at h;rcases h with h|h
  ·obtain⟨j,hj,e⟩:=Oi h;exact⟨j,by omega,e⟩
  ·split at h
   ·cases h
   ·simp only[z0e,z0f,or_false] at h;exact⟨k,by omega,h⟩
theorem L6{L:List (List Int)}{x:List Int}:∀ {i:Nat},i<=L.length->x∈mF L i->∃ r,r∈L/\∃ j:Nat,j<5/\x=r++[(j:Int)]
 |0,_,h=>by cases h
 |i+1,hi,h=>by
  rw[mF,z06] at h;rcases h with h|h
  ·exact L6 (by omega) h
  ·exact⟨L.getD i [],getD_mem (by omega),Oi h⟩
theorem vC:∀ {n:Nat} {x:List Int},x∈fJ n->x.length=n/\Fq x
 |0,x,h=>by
  simp only[fJ,z0e,z0f,or_false] at h;subst h;exact⟨rfl,λy hy=>by cases hy⟩
 |n+1,x,h=>by
  obtain⟨r,hr,j,hj,rfl⟩:=L6 (z08 _) h;obtain⟨h1,h2⟩:=vC hr;refine⟨by simp[h1],λy hy=> ?_⟩
  rcases z06.1 hy with hy|hy
  ·exact h2 y hy
  ·simp only[z0e,z0f,or_false] at hy;omega
def Zi:JC:=(qN (qA 19 18 5<|.nil) (.seq (qO 19 .skip (.exit 2)) (.seq (.block 3 (qN (o7 20 18<|o7 6 20<|.nil) (qN (o7 21 5<|o7 22 6<|qE 23 118 21 22<|qF 24 23<|.nil) (qM [24,3,5,6,18,14,13,12] (qO 24 (.ops<|o7 25 3<|o7 26 5<|oM 27 119 26<|qL [6,27,25,18,5,14,13,12]<|o7 28 6<|eo 29 (.qj 3 1 1 (.int .i64 0) [(0,(.t 28))])<|oW 30 3 1 8 27 29<|qL [30,25,18,5,14,13,12]<|eo 31 (.qj 49 1 1 .bF [(0,(.t 30))])<|oW 32 49 1 24 25 31<|o7 3 32<|.nil) .skip))))) (qM [18,5,3,14,13,12] (.ops<|oJ 33 18 1<|o7 18 33<|.nil)))))
def aqX:JC:=(qM [14,13,12,3] (.ops<|oJ 34 14 1<|o7 14 34<|.nil))
def afx:JC:=(qN (oO 15 14 13<|.nil) (.seq (qO 15 .skip (.exit 0)) (.seq (.block 1 (qN (oK 16 1 12 14<|o9 17 1 16<|o7 5 17<|.nil) (qN (o8 18 0<|.nil) (.block 2 (.bn 3 49 1 (.loop [5,14,13,12] [18,3] Zi)))))) aqX)))
def aqY:JC:=(qM [3] (qN (o7 35 3<|o7 2 35<|.nil) (.bn 2 49 1 (.gq 2 dRI.gq .ret))))
def j81:JC:=(qN (oU 2<|.nil) (.seq (qN (o7 7 0<|oH 8 7 0<|.nil) (qO 8 (qN (eo 9 (.qj 49 1 1 .bF [(0,(.c .bF))])<|o7 2 9<|.nil) (.bn 2 49 1 (.gq 2 dRI.gq .ret))) .skip)) (qN (oU 3<|.nil) (.seq (qN (o7 10 0<|qL [10,3]<|qo 11 (.ar .sub (.t 10) (I 1))<|oM 12 81 11<|oP 13 12<|o8 14 0<|.nil) (qM [14,13,12,3] (.block 0 (.bn 3 49 1 (.loop [13,12] [14,3] afx))))) aqY))))
def Grw(n:Nat):FH:=FH.rd 118 (.two wM .int) (.one .bool) (λ_=>True) (λy=>rY y.1 y.2.1)<|
 FH.mk 119 (.one wM) (λy=>y.1.length<=1000000) (λy=> .vec 0 y.1.length) (λy=>[.vec 3 1 (y.1.map DT.int.aA)])<|
 FH.pz 81 (.one .int) (.one dRI) (λy=>y.1=n) (λ_=>fJ n) FH.none
theorem ql(n:Nat)(f:FuncId)(a:List SV)(m:List ay):Grw n f a m=(FH.rd 118 (.two wM .int) (.one .bool) (λ_=>True) (λy=>rY y.1 y.2.1)<|
 FH.mk 119 (.one wM) (λy=>y.1.length<=1000000) (λy=> .vec 0 y.1.length) (λy=>[.vec 3 1 (y.1.map DT.int.aA)])<|
 FH.pz 81 (.one .int) (.one dRI) (λy=>y.1=n) (λ_=>fJ n) FH.none) f a m:=nr rfl
theorem afy:∀ (n:Nat),n<=5->FnOK Tryz.prog 81 [.int .i64 n] [] (dRI.aA (fJ n)) []
 |0,_=>by
  refine fn_walkA j81 [.tmp 2] 36 FH.none_ok rfl ?_;unfold j81;simp only[go_sem,seval];rfl
 |n+1,hn=>by
  have ih:=afy n (by omega)
  have hok:aW Tryz.prog (Grw n):=FH.aT (λy _=>afz y.1 y.2.1)<|
   FH.eu (λy _=>cZ (nM _ _) ⟨bY _ _ DT.int _,trivial⟩) (λy h=>aaV y.1 h)<|
   FH.oq (λy h=>by obtain⟨m,u⟩:=y;simp only at h;subst h;exact ih) FH.none_ok
  refine fn_walkA j81 [.tmp 2] 36 hok rfl ?_;have e1:¬ ((n+1:Nat):Int)=0:=by omega
  have e2:z05.wrap (((n+1:Nat):Int) - 1)=(n:Int):=by rw[aY];omega
  unfold j81;simp only[go_sem,seval,ql,e1,e2];have hlen:=Iw (show n<=5 by omega)
  rw[afe (U:=3) (w:=1) (d:=DT.int)];refine aZ Nat (λi=>[.int .i64 i, .vec 0 (mF (fJ n) i).length]) (λi=>mr 49 3 1 DT.int (mF (fJ n) i)) (λi=>i<=(fJ n).length) (λi=>(fJ n).length - i) 0 (by omega) ?_ rfl ?_
  ·simp only[go_sem,seval];rfl
  intro i hi;by_cases h1:i< (fJ n).length
  ·have h1':(i:Int)< (fJ n).length:=by omega
   have hw:z05.wrap ((i:Int)+1)=((i+1:Nat):Int):=aY;have hl1:=Bq (L:=fJ n) i;have hr:=(vC (getD_mem (l:=fJ n) (d:=[]) h1)).1;unfold afx;simp only[go_sem,seval,h1'];refine⟨by omega,?_⟩
   generalize hrr:(fJ n).getD i []=r at hr;generalize hLL:mF (fJ n) i=L at hl1;have hnext:mF (fJ n) (i+1)=L++tJ r 5:=by rw[mF,hLL,hrr]
   refine aZ Nat (λk=>[.int .i64 k, .vec 0 (L++tJ r k).length]) (λk=>mr 49 3 1 DT.int (L++tJ r k)) (λk=>k<=5) (λk=>5 - k) 0 (by omega) ?_ ?_ ?_
   ·simp only[go_sem,seval];simp[tJ]
   ·simp[tJ]
   intro k hk;by_cases h2:k<5
   ·have h2':(k:Int)<5:=by omega
    have hwk:z05.wrap ((k:Int)+1)=((k+1:Nat):Int):=aY;have hl2:=Iu (r:=r) k;have hl3:(L++tJ r k).length<=20000:=by rw[z01];omega
    cases hh:rY r k with
    |true=>
     have hn:L++tJ r (k+1)=L++tJ r k:=by rw[tJ,if_pos hh,z1b]
     unfold Zi;simp only[go_sem,seval,ql,h2',hwk,hh];refine⟨k+1,by omega,by omega,Nat.zero_le _,⟨rfl,?_⟩,?_⟩
     ·rw[hn,mg];simp
     ·rw[hn];exact QX mg
    |false=>
     have hn:L++tJ r (k+1)=(L++tJ r k)++[r++[(k:Int)]]:=by rw[tJ,if_neg (by rw[hh];simp),z0v]
     generalize hM:L++tJ r k=M at hn hl3;unfold Zi;simp only[go_sem,seval,ql,h2',hwk,hh,mg,z01,as1,aaK,VD,VE,VF,aff,afg,aaL];have hnl:=congrArg List.length hn;rw[z01,z01] at hnl;simp only[z0d,z0l] at hnl;have e3:List.map DT.int.aA r++[SV.int .i64 k]=(r++[(k:Int)]).map DT.int.aA:=by simp[Zj]
     refine⟨by omega,by omega,by omega,k+1,by omega,by omega,⟨rfl,by rw[hnl]⟩,?_⟩
     rw[e3,amL (by simp),hn]
     exact Ze (by rw[z01];simp only[z0d,z0l];omega) _
   ·have e:k=5:=by omega
    subst e;unfold Zi;simp only[go_sem,seval];unfold aqX;simp only[go_sem,seval,mg];refine⟨i+1,by omega,by omega,⟨hw,by rw[hnext]⟩,?_⟩
    rw[hnext];exact QX (by omega)
  ·have h1':¬ (i:Int)< (fJ n).length:=by omega
   have e:i=(fJ n).length:=by omega
   subst e;unfold afx;simp only[go_sem,seval,h1'];unfold aqY;simp only[go_sem,seval,amK];exact⟨amM,by rw[amN];rfl⟩
def Q9(p:List Pr)(r:List Int)(many:Nat)(i:Nat):Bool:=VN p ⟨r.getD i 0,r.getD ((i+1)%many) 0⟩
def lD(p:List Pr)(r:List Int)(many:Nat):Nat->Bool
 |0=>true
 |i+1=>lD p r many i&&Q9 p r many i
def eY(f:List Int->Bool):List (List Int)->Option (List Int)
 |[]=>none
 |r::L=>if f r=true then some r else eY f L
def CG(p:List Pr):Option (List Int):=scan (λm=>eY (λr=>lD p r (m+1) (m+1)) (fJ (m+1))) 0 5
def yL(x:Pr):Bool:=outB x.a 0 4||outB x.b 0 4
def Zk:JC:=(qN (oO 15 14 13<|.nil) (.seq (qO 15 .skip (.exit 0)) (.seq (.block 1 (qN (oK 16 2 12 14<|oC 17 2 16<|eo 5 (.alloc 131 (.agg [(.int .i64 0),(.int .i64 0)]))<|oG 2 5 17<|.nil) (qN (qL [5,14,13,12,0]<|oD 18 0 0 5<|o9 19 1 18<|eo 20 (.call 80 [(.t 19),(I 0),(I 4)])<|o7 21 20<|qL [21,5,14,13,12,0]<|.sc true 25 21 (oD 22 1 1 5<|o9 23 1 22<|eo 24 (.call 80 [(.t 23),(I 0),(I 4)])<|.nil) (.t 24)<|.nil) (qM [25,14,13,12,0] (qO 25 (qN (oU 2<|o8 3 1<|.nil) .ret) .skip))))) (qM [14,13,12,0] (.ops<|oJ 26 14 1<|o7 14 26<|.nil)))))
def Zl:JC:=(qN (oO 41 40 39<|.nil) (qM [41,40,38,9,0,8,6,39,34,33,32] (.seq (qO 41 .skip (.exit 6)) (qM [40,38,9,0,8,6,39,34,33,32] (.seq (.block 7 (qN (o7 42 40<|oK 43 1 38 40<|o9 44 1 43<|o7 10 42<|o7 11 44<|.nil) (qM [9,0,11,8,10,6,40,39,38,34,33,32] (.ops<|o7 45 9<|o7 46 45<|.sc false 58 46 (o7 47 0<|o7 48 11<|o7 49 8<|o7 50 10<|oJ 51 50 1<|o7 52 6<|qo 53 (.ar .rem (.t 51) (.t 52))<|oK 54 1 49 53<|o9 55 1 54<|qo 56 (.lF (.agg [(.int .i64 0),(.int .i64 0)]) [([.eG 0],0,1,(.t 48)),([.eG 1],1,1,(.t 55))])<|qE 57 82 47 56<|.nil) (.t 57)<|o7 9 58<|.nil)))) (qM [40,39,38,9,0,8,6,34,33,32] (.ops<|oJ 59 40 1<|o7 40 59<|.nil)))))))
def afA:JC:=(qM [9,8,34,33,32,0,6] (qN (o7 60 9<|.nil) (qO 60 (qN (qL [8]<|o7 61 8<|o7 2 61<|o8 3 0<|.nil) .ret) .skip)))
def aqZ:JC:=(qM [34,33,32,0,6] (.ops<|oJ 62 34 1<|o7 34 62<|.nil))
def afB:JC:=(qN (oO 35 34 33<|.nil) (.seq (qO 35 .skip (.exit 4)) (.seq (.block 5 (qN (oK 36 1 32 34<|o9 37 1 36<|o7 8 37<|.nil) (qN (qH 9 true<|.nil) (qM [8,9,0,6,34,33,32] (.seq (qN (o7 38 8<|oP 39 38<|o8 40 0<|.nil) (qM [40,39,38,9,0,8,6,34,33,32] (.block 6 (.loop [39,38,0,8,6,34,33,32] [40,9] Zl)))) afA))))) aqZ)))
def aq0:JC:=(qM [6,0] (.ops<|o7 29 6<|oJ 30 29 1<|o7 6 30<|.nil))
def afC:JC:=(.seq (qN (o7 27 6<|qo 28 (.cmp .leq (.t 27) (I 5))<|.nil) (qO 28 .skip (.exit 2))) (.seq (.block 3 (qN (o7 31 6<|oM 32 81 31<|oP 33 32<|o8 34 0<|.nil) (.block 4 (.loop [33,32,0,6] [34] afB)))) aq0))
def aq1:JC:=(qM [] (qN (oU 2<|o8 3 0<|.nil) .ret))
def aq2:JC:=(qM [0] (.seq (qN (o8 6 1<|.nil) (.block 2 (.loop [0] [6] afC))) aq1))
def j43:JC:=(qN (oU 2<|o8 3 0<|.nil) (.seq (qN (o7 12 0<|oP 13 12<|o8 14 0<|.nil) (.block 0 (.loop [13,12,0] [14] Zk))) aq2))
def Grr(f:FuncId)(a:List SV)(m:List ay):Sx.Call:=(FH.rd 80 (.three .int .int .int) (.one .bool) (λ_=>True) (λy=>outB y.1 y.2.1 y.2.2.1)<|
 FH.rd 82 (.two Oj jo) (.one .bool) (λ_=>True) (λy=>VN y.1 y.2.1)<|
 FH.pz 81 (.one .int) (.one dRI) (λy=>0<=y.1/\y.1<=5) (λy=>fJ y.1.toNat) FH.none) f a m
theorem Ol:type_of% (nq Grr.eq_1):=nq Grr.eq_1
theorem as8:aW Tryz.prog Grr:=FH.aT (λy _=>f_outside y.1 y.2.1 y.2.2.1)<|FH.aT (λy _=>amT y.1 y.2.1)<|
 FH.oq (λy h=>by
  obtain⟨n,u⟩:=y;obtain⟨h1,h2⟩:=h;simp only at h1 h2;have:=afy n.toNat (by omega)
  rw[show((n.toNat:Nat):Int)=n by omega] at this
  exact this) FH.none_ok
def yH(p:List Pr):Option (List Int):=if p.any yL=true then none else CG p
def L8(p:List Pr):Int:=if p.any yL=true then 1 else 0
theorem amU(p:List Pr):FnOK Tryz.prog 43 [Oj.aA p] [] (.bK [Ey.aA (yH p), .int .i64 (L8 p)]) []:=by
 refine nO λhB=>fn_walkA j43 [.tmp 2, .tmp 3] 63 as8 rfl ?_;simp only[go_sem,seval] at hB;unfold j43;simp only[go_sem,seval];refine aZ Nat (λi=>[.int .i64 i]) (λ_=>[]) (λi=>i<=p.length/\(p.take i).any yL=false) (λi=>p.length - i) 0 ⟨by omega,rfl⟩ ?_ rfl ?_
 ·simp only[go_sem,seval]
 rintro i ⟨hi,hi2⟩;by_cases h1:i<p.length
 ·have h1':(i:Int)<p.length:=by omega
  have hw:z05.wrap ((i:Int)+1)=((i+1:Nat):Int):=aY;cases hb:yL (p.getD i jo.aI) with
  |true=>
   have hb':=hb;unfold yL at hb';unfold Zk;simp only[go_sem,seval,Ol,h1',hw,hb'];have hany:p.any yL=true:=Om h1 hb;rw[yH,L8,if_pos hany,if_pos hany];exact⟨by omega,rfl⟩
  |false=>
   have hb':=hb;unfold yL at hb';unfold Zk;simp only[go_sem,seval,Ol,h1',hw,hb'];refine⟨by omega,i+1,⟨by omega,?_⟩,by omega,rfl⟩
   rw[CW jo.aI _ h1 hi2,hb]
 ·have hall:p.any yL=false:=by
   have e:i=p.length:=by omega
   subst e
   rwa [z0i] at hi2
  have h1':¬ (i:Int)<p.length:=by omega
  clear hi2;rw[yH,L8,if_neg (by rw[hall];simp),if_neg (by rw[hall];simp)]
  unfold Zk;simp only[go_sem,seval,h1'];unfold aq2;simp only[go_sem,seval];generalize hF:(λm=>eY (λr=>lD p r (m+1) (m+1)) (fJ (m+1)))=F;have hG:CG p=scan F 0 5:=by rw[<- hF];rfl
  rw[hG];refine aZ Nat (λm=>[.int .i64 ((m+1:Nat):Int)]) (λ_=>[]) (λm=>m<=5/\scan F 0 5=scan F m (5 - m)) (λm=>5 - m) 0 ⟨by omega,rfl⟩ ?_ rfl ?_
  ·simp only[go_sem,seval]
  rintro m ⟨hm,hinv⟩;by_cases h2:m<5
  ·have h2':((m+1:Nat):Int)<=5:=by omega
   have hwm:z05.wrap (((m+1:Nat):Int)+1)=((m+1+1:Nat):Int):=aY;have hst:scan F 0 5=match F m with|some r=>some r|none=>scan F (m+1) (5 - (m+1)):=by rw[hinv,show 5 - m=(5 - (m+1))+1 by omega,scan];cases F m<;>rfl
   have hFm:F m=eY (λr=>lD p r (m+1) (m+1)) (fJ (m+1)):=by rw[<- hF]
   have hlen:=Iw (show m+1<=5 by omega)
   have hmem:∀ r,r∈fJ (m+1)->r.length=m+1:=λr hr=>(vC hr).1;unfold afC;simp only[go_sem,seval,Ol,h2'];refine⟨by omega,?_⟩
   generalize fJ (m+1)=L at hFm hlen hmem;refine aZ Nat (λi=>[.int .i64 i]) (λ_=>[]) (λi=>i<=L.length/\F m=eY (λr=>lD p r (m+1) (m+1)) (L.drop i)) (λi=>L.length - i) 0 ⟨by omega,hFm⟩ ?_ rfl ?_
   ·simp only[go_sem,seval]
   rintro i ⟨hi,CX⟩;by_cases h3:i<L.length
   ·have h3':(i:Int)<L.length:=by omega
    have hwi:z05.wrap ((i:Int)+1)=((i+1:Nat):Int):=aY;rw[nP [] h3,eY] at CX;have hrl:=hmem _ (getD_mem (d:=[]) h3);unfold afB;simp only[go_sem,seval,h3'];refine⟨by omega,?_⟩
    generalize hr:L.getD i []=r at CX hrl;refine aZ Nat (λk=>[.int .i64 k, .bool (lD p r (m+1) k)]) (λ_=>[]) (λk=>k<=m+1) (λk=>m+1 - k) 0 (by omega) ?_ rfl ?_
    ·simp only[go_sem,seval];rfl
    intro k hk;by_cases h4:k<m+1
    ·have h4':(k:Int)<r.length:=by omega
     have hwk:z05.wrap ((k:Int)+1)=((k+1:Nat):Int):=aY;unfold Zl;have htm:(((k+1:Nat):Int)).tmod ((m+1:Nat):Int)=(((k+1)%(m+1):Nat):Int):=rfl;have hml:=Nat.mod_lt (k+1) (show 0<m+1 by omega)
     simp only[go_sem,seval,Ol,h4',hwk,htm];exact⟨by omega,λ_=>⟨by omega,by omega,by omega⟩,k+1,by omega,by omega,rfl,rfl⟩
    ·have h4':¬ (k:Int)<r.length:=by omega
     have e:k=m+1:=by omega
     subst e;cases he:lD p r (m+1) (m+1) with
     |true=>
      have hs:scan F 0 5=some r:=by rw[hst,CX,if_pos he]
      unfold Zl;simp only[go_sem,seval,h4'];unfold afA;simp only[go_sem,seval,hs]
           |false=>
      have hs:F m=eY (λr=>lD p r (m+1) (m+1)) (L.drop (i+1)):=by rw[CX,if_neg (by rw[he];simp)]
      unfold Zl;simp only[go_sem,seval,h4'];unfold afA;simp only[go_sem,seval];unfold aqZ;simp only[go_sem,seval,hwi];exact⟨i+1,⟨by omega,hs⟩,by omega,rfl⟩
   ·have h3':¬ (i:Int)<L.length:=by omega
    rw[z1f (by omega),eY] at CX
    unfold afB;simp only[go_sem,seval,h3'];unfold aq0;simp only[go_sem,seval,hwm];exact⟨m+1,⟨by omega,by rw[hst,CX]⟩,by omega,rfl⟩
  ·have e:m=5:=by omega
   subst e;unfold afC;simp only[go_sem,seval];unfold aq1;simp only[go_sem,seval];rw[hinv];rfl
end Go.Proofs.YtgnaipcjbmhihaaGreatDoor.Rg
namespace Go.Proofs.YtgnaipcjbmhihaaGreatDoor.Rg
open D Hs Pg
def oneMore(r:List Int):List (List Int):=tJ r 5
def AX:Nat->List Int->List (List Int)
 |0,row=>[row]
 |n+1,row=>(oneMore row).flatMap (AX n)
theorem Tc:∀ (n:Nat) (row:List Int),AX (n+1) row=(AX n row).flatMap oneMore
 |0,row=>by simp[AX]
 |n+1,row=>by rw[AX,AX];have:AX (n+1)=λr=>(AX n r).flatMap oneMore:=funext (Tc n);rw[this,List.flatMap_assoc]
theorem MZ{L:List (List Int)}:∀ {i:Nat},i<=L.length->mF L i=(L.take i).flatMap oneMore
 |0,_=>by simp[mF]
 |i+1,h=>by
  rw[mF,MZ (by omega),bH [] (by omega),z1i]
  simp[oneMore]
theorem Tf:∀ n,fJ n=AX n []
 |0=>rfl
 |n+1=>by rw[fJ,MZ (z08 _),z0i,Tf n,Tc]
theorem DU{f:List Int->Bool}:∀ {a b:List (List Int)},eY f (a++b)=match eY f a with|some r=>some r|none=>eY f b
 |[],b=>rfl
 |x::a,b=>by
  rw[z1m,eY,eY];by_cases h:f x=true
  ·simp[h]
  ·simp only[h,z14,if_false];exact DU
theorem zq{f g:List Int->Bool}:∀ {L:List (List Int)},(∀ r,r∈L->f r=g r)->eY f L=eY g L
 |[],_=>rfl
 |x::L,h=>by rw[eY,eY,h x (z0g ..),zq λr hr=>h r (z0n _ hr)]
theorem Jv{f:List Int->Bool}:∀ {L:List (List Int)},(∀ r,r∈L->f r=false)->eY f L=none
 |[],_=>rfl
 |x::L,h=>by rw[eY,h x (z0g ..),Jv λr hr=>h r (z0n _ hr)];rfl
theorem xB{α:Type}{f g:Nat->Option α}:∀ {n k:Nat},(∀ j,k<=j->j<k+n->f j=g j)->scan f k n=scan g k n
 |0,_,_=>rfl
 |n+1,k,h=>by rw[scan,scan,h k (z08 _) (by omega),xB (n:=n) λj h1 h2=>h j (by omega) (by omega)]
theorem Na{α:Type}{f:Nat->Option α}:∀ {n k:Nat},scan f k (n+1)=match scan f k n with|some r=>some r|none=>f (k+n)
 |0,k=>by rw[scan,scan,scan];cases f k<;>simp
 |n+1,k=>by
  rw[scan];cases hf:f k with
  |some r=>simp[scan,hf]
  |none=>
   simp only;rw[Na (n:=n),scan,hf];simp only[show k+1+n=k+(n+1) by omega]
theorem BM{f:List Int->Bool}{G:List Int->List (List Int)}{r:List Int}:∀ k,eY f ((tJ r k).flatMap G)=scan (λj=>if rY r j=true then none else eY f (G (r++[(j:Int)]))) 0 k
 |0=>rfl
 |k+1=>by
  rw[tJ,z1i,DU,BM k,Na];by_cases h:rY r k=true
  ·simp only[h,if_true,List.flatMap_nil,Nat.zero_add,eY];generalize scan _ 0 k=z;cases z<;>rfl
  ·simp[h];generalize scan _ 0 k=z;cases z<;>rfl
def Ba(p:List Pr)(r:List Int):Nat->Nat->Bool
 |i,0=>gI (Pn p) (r.getD i 0) (r.getD 0 0)
 |i,n+1=>gI (Pn p) (r.getD i 0) (r.getD (i+1) 0)&&Ba p r (i+1) n
theorem ah0:∀ {n:Nat} {row x:List Int},x∈AX n row->∃ s,x=row++s/\s.length=n
 |0,row,x,h=>by
  simp only[AX,z0e,z0f,or_false] at h;exact⟨[],by simp[h],rfl⟩
 |n+1,row,x,h=>by rw[AX,List.mem_flatMap] at h;obtain⟨y,hy,hx⟩:=h;obtain⟨j,hj,rfl⟩:=Oi hy;obtain⟨s,rfl,hs⟩:=ah0 hx;exact⟨(j:Int)::s,by simp,by simp[hs]⟩
theorem Jw(p:List Pr):∀ (n:Nat) (row:List Int),1<=row.length->kJ (Pn p) n row=eY (λr=>Ba p r (row.length - 1) n) (AX n row)
 |0,row,h=>rfl
 |n+1,row,h=>by
  rw[kJ,AX,oneMore,BM];refine xB λk _ _=> ?_;have hrk:∀ x,x∈AX n (row++[(k:Int)])->Ba p x (row.length - 1) (n+1)=(gI (Pn p) (row.getD (row.length - 1) 0) k&&Ba p x ((row++[(k:Int)]).length - 1) n):=by
   intro x hx;obtain⟨s,rfl,hs⟩:=ah0 hx;rw[Ba];have e1:(row++[(k:Int)]++s).getD (row.length - 1) 0=row.getD (row.length - 1) 0:=by rw[z0v,z0r,z1d (by omega)];rfl
   have e2:(row++[(k:Int)]++s).getD (row.length - 1+1) 0=(k:Int):=by
    rw[show row.length - 1+1=row.length by omega,z0v,z0r,z0o (z08 _)]
    simp
   have e3:(row++[(k:Int)]).length - 1=row.length - 1+1:=by simp;omega
   rw[e1,e2,e3]
  cases hh:rY row k with
  |true=>simp
  |false=>
   cases hg:gI (Pn p) (row.getD (row.length - 1) 0) k with
   |false=>
    rw[if_neg (by simp),if_neg (by simp)]
    exact(Jv λx hx=>by rw[hrk x hx,hg];rfl).symm
   |true=>
    rw[if_pos (by simp),if_neg (by simp),Jw p n _ (by simp)]
    exact zq λx hx=>by rw[hrk x hx,hg];rfl
theorem WS{p:List Pr}{r:List Int}{m:Nat}(hr:Fq r)(hl:r.length=m+1):lD p r (m+1) (m+1)=Ba p r 0 m:=by
 have he:∀ i,i<m->Q9 p r (m+1) i=gI (Pn p) (r.getD i 0) (r.getD (i+1) 0):=λi hi=>by
  have h1:=hr _ (getD_mem (l:=r) (i:=i) (d:=0) (by omega))
  have h2:=hr _ (getD_mem (l:=r) (i:=i+1) (d:=0) (by omega))
  rw[Q9,Nat.mod_eq_of_lt (by omega),gI,Pn]
  congr 2<;>omega
 have hlast:Q9 p r (m+1) m=gI (Pn p) (r.getD m 0) (r.getD 0 0):=by
  have h1:=hr _ (getD_mem (l:=r) (i:=m) (d:=0) (by omega))
  have h2:=hr _ (getD_mem (l:=r) (i:=0) (d:=0) (by omega))
  rw[Q9,Nat.mod_self,gI,Pn]
  congr 2<;>omega
 have key:∀ n i,i+n=m->(lD p r (m+1) i&&Ba p r i n)=lD p r (m+1) (m+1):=by
  intro n
  induction n with
  |zero=>
   intro i hi;obtain rfl:i=m:=by omega
   rw[lD,hlast,Ba]
  |succ n ih=>
   intro i hi;rw[<- ih (i+1) (by omega),lD,he i (by omega),Ba,Bool.and_assoc]
 rw[<- key m 0 (by omega),lD,Bool.true_and]
theorem ah1(p:List Pr):CG p=Jy (Pn p):=by
 unfold CG Jy;refine xB λm _ hm=> ?_;have h1:eY (λr=>lD p r (m+1) (m+1)) (fJ (m+1))=eY (λr=>Ba p r 0 m) (fJ (m+1)):=zq λr hr=>WS (vC hr).2 (vC hr).1;rw[h1,Tf,AX,oneMore,BM];refine xB λk _ _=> ?_;rw[if_neg (by simp[rY]),Jw p m _ (by simp)]
 rfl
theorem ah2(x:Pr):yL x=qU x:=by
 unfold yL qU outB;have e1:decide ((4:Int)<x.a)=decide (5<=x.a):=decide_eq_decide.2 (by omega)
 have e2:decide ((4:Int)<x.b)=decide (5<=x.b):=decide_eq_decide.2 (by omega)
 rw[e1,e2,Bool.or_assoc (decide (x.a<0)||decide (5<=x.a))]
theorem MV(p:List Pr):yH p=A8 p/\L8 p=Vy p:=by have:yL=qU:=funext ah2;unfold yH A8 L8 Vy;rw[this,ah1];exact⟨rfl,rfl⟩
end Go.Proofs.YtgnaipcjbmhihaaGreatDoor.Rg
namespace Go.Proofs.YtgnaipcjbmhihaaGreatDoor.Sh
open Go Go.Sx Go.Shelf Go.Proofs Go.RowKit Go.Lib Go.Sort
set_option maxHeartbeats 4000000 in
set_option maxRecDepth 1000000 in
theorem alW(b cap n i:Nat)(w:World)(hn:n<=cap)(hm:cap<=9223372036854775807)(hi:i<=n):
  Calls Tryz.prog 141 #[.slice (some ⟨b,0,none⟩) n cap, .int .i64 i, .int .i64 i] w λe w'=>e= .returned (.slice (some ⟨b,0,none⟩) n cap)/\w'=w:=by
 go_enter Tryz.func141,Tryz.ntmps141
 go_wp2
 all_goals (go_ret;exact⟨rfl,rfl⟩)
set_option maxHeartbeats 4000000 in
set_option maxRecDepth 1000000 in
theorem aqG(b cap n i j:Nat)(w:World)(hn:n<=cap)(hm:cap<=9223372036854775807)(hij:i<j)(hj:j<=n)(news:List Value)
  (A:Addr) (hA:(if cap=j then some (⟨b,0,none⟩:Addr) else some ⟨b,j*3,none⟩)=some A) (hsrc:Hid (∀ t u,news[t]? =some u->w.drew.cell? (A.add t)=some u))
  (s1:Hid (news.length=(n - j)*3)) (s2:Hid (∀ u∈news,u.oneCell'=true))
  (s3:Hid (∀ t,t<news.length->(w.drew.cell? ⟨b,0+i*3+t,none⟩).isSome=true/\w.drew.frozen? ⟨b,0+i*3+t,none⟩=false))
  (W1:World) (hW:Hid (W1=w.drew.setCells b (0+i*3) news)) (W2:World)
  (hcl:∀ ty,(Builtin.clear_ #[29] ty #[.slice (some ⟨b,(i+(n - j))*3,none⟩) (n - (i+(n - j))) (cap - (i+(n - j)))]).run Tryz.prog W1= .ok (.tuple #[]) W2):
  Calls Tryz.prog 141 #[.slice (some ⟨b,0,none⟩) n cap, .int .i64 i, .int .i64 j] w λe w'=>e= .returned (.slice (some ⟨b,0,none⟩) (n - (j - i)) cap)/\w'=W2:=by
 have hic:i<=cap:=by omega
 have hjc:j<=cap:=by omega
 have mixed:Tryz.prog.follows .mixedOrders=true:=by kernel_rfl
 have aCC:Tryz.prog.info? 56=some Tryz.t56:=by kernel_rfl
 go_enter Tryz.func141,Tryz.ntmps141
 go_wp2_with fail
 go_region_law_o (refine step_append_room rfl (.tmp 22) (.tmp 25) 29 rfl 56 Tryz.t56 3 Tryz.underlying29 aCC rfl b 0 i cap (by simp[Act.eval,Act.put]) A (n - j) (cap - j) news (by simp[Act.eval,Act.put]) s1.out hsrc.out s2.out (by omega) s3.out ?_;rw[<- hW.out])
 go_wp2
 go_ret
 exact⟨by rw[show n - (j - i)=i+(n - j) by omega];rfl,rfl⟩
theorem aeL(k:Nat):(Builtin.zeroCells (z1e #[.int .i64 0, .int .i64 0, .int .i64 0]).cells k).toList.length=k*3:=by simp only[Builtin.zeroCells,Array.length_toList,Array.size_map,Array.size_range];rfl
theorem aeM(k:Nat):∀ v∈(Builtin.zeroCells (z1e #[.int .i64 0, .int .i64 0, .int .i64 0]).cells k).toList,v.oneCell'=true:=by
 intro v hv;simp only[Builtin.zeroCells,Array.mem_toList_iff,Array.mem_map,Array.mem_range] at hv;obtain⟨i,_,rfl⟩:=hv;have h:i%3=0\/i%3=1\/i%3=2:=by omega
 have e:(z1e #[.int .i64 0, .int .i64 0, .int .i64 0]).cells= #[.int .i64 0, .int .i64 0, .int .i64 0]:=rfl;rw[e];show(#[Value.int .i64 0, .int .i64 0, .int .i64 0][i%3]!).oneCell'=true;rcases h with h|h|h<;>rw[h]<;>rfl
theorem ax4:as3 Tryz.prog 141 3 where
 ok:=by kernel_rfl
 QJ:=by
  intro b cap n i j T cur w hb hcl hcap hn hij hj h1;have hm:cap<=9223372036854775807:=LV hcap;by_cases heq:i=j
  ·subst heq;refine(alW b cap n i w hn hm hj).mono ?_;rintro e w' ⟨rfl,rfl⟩;rw[Nat.sub_self,Nat.sub_zero];refine⟨rfl,⟨z1o.refl _ _,z08 _⟩,cur,hb,hcl,λt ht=> ?_⟩;split<;>simp
  ·have hlt:i<j:=by omega
   obtain⟨news,hnews⟩:∃ news,news=sub cur (j*3) ((n - j)*3):=⟨_,rfl⟩;have hlen:news.length=(n - j)*3:=by rw[hnews,fQ];omega
   have hget:∀ t,t< (n - j)*3->news[t]? =cur[j*3+t]? :=by intro t ht;rw[hnews];unfold sub;rw[List.getElem?_take,if_pos ht,List.getElem?_drop]
   obtain⟨A,hA,hsrc⟩:∃ A:Addr,(if cap=j then some (⟨b,0,none⟩:Addr) else some ⟨b,j*3,none⟩)=some A/\Hid (∀ t u,news[t]? =some u->w.drew.cell? (A.add t)=some u):=by
    by_cases h:cap=j
    ·refine⟨⟨b,0,none⟩,by simp[h],λt u hu=> ?_⟩
     have h0:news.length=0:=by rw[hlen];omega
     rw[z0x.1 h0] at hu;simp at hu
    ·refine⟨⟨b,j*3,none⟩,by simp[h],λt u hu=> ?_⟩
     have ht:t< (n - j)*3:=by
      have:=(z1c.1 hu).1
      rwa [hlen] at this
     rw[hget t ht] at hu;rw[Addr.add_lit];exact(cell_of hb).trans hu
   have s2:Hid (∀ u∈news,u.oneCell'=true):=by
    intro u hu;obtain⟨t,ht,e⟩:=z1h.1 hu;have e2:news[t]? =some u:=by rw[z0w ht,e]
    rw[hget t (by omega)] at e2
    exact h1 _ u (by omega) e2
   have s3:Hid (∀ t,t<news.length->(w.drew.cell? ⟨b,0+i*3+t,none⟩).isSome=true/\w.drew.frozen? ⟨b,0+i*3+t,none⟩=false):=by
    intro t ht;refine⟨?_,LW hb⟩;show(w.cell? _).isSome=true;rw[cell_of hb,z0w (by omega)]
    rfl
   obtain⟨W1,hW1⟩:∃ W1,W1=w.drew.setCells b (0+i*3) news:=⟨_,rfl⟩;have hb1:W1.heap[b]? =some (.cells (over cur (0+i*3) news).toArray T (0,0)):=by rw[hW1];exact uI news (0+i*3) w.drew cur hb (by omega)
   have hol:(over cur (0+i*3) news).length=cur.length:=Fh (by omega)
   obtain⟨Z,hZ⟩:∃ Z,Z=(Builtin.zeroCells (z1e #[.int .i64 0, .int .i64 0, .int .i64 0]).cells (n - (i+(n - j)))).toList:=⟨_,rfl⟩;have hZl:Z.length=(n - (i+(n - j)))*3:=by rw[hZ];exact aeL _
   have aCD:∀ ty,(Builtin.clear_ #[29] ty #[.slice (some ⟨b,(i+(n - j))*3,none⟩) (n - (i+(n - j))) (cap - (i+(n - j)))]).run Tryz.prog W1= .ok (.tuple #[]) (W1.setCells b ((i+(n - j))*3) Z):=
    λty=>Iq W1 _ 56 ty _ Tryz.underlying29 Tryz.zeroValue56 Z b _ _ _ (by omega) hZ.symm (by rw[hZ];exact aeM _)
     (λt ht=>by rw[cell_of hb1,z0w (by omega)];rfl) (λt ht=>LW hb1)
   refine(aqG b cap n i j w hn hm hlt hj news A hA hsrc hlen s2 s3 W1 hW1 _ aCD).mono ?_;rintro e w' ⟨rfl,rfl⟩;have hb2:=uI Z ((i+(n - j))*3) W1 _ hb1 (by omega)
   have hg1:w.grownBy W1 (some b):=by rw[hW1];exact z1o.trans (⟨rfl,rfl,rfl,z08 _,λ_ _ _=>rfl⟩:w.grownBy w.drew (some b)) (rW b news (0+i*3) w.drew)
   refine⟨rfl,⟨hg1.trans (rW b Z _ W1),by rw[rX,hW1,rX];exact Nat.le_succ _⟩,_,hb2,by rw[Fh (by omega)];omega,λt ht=> ?_⟩
   rw[CS (by omega),if_pos (by omega),CS (by omega)]
   by_cases h3:t<i*3
   ·rw[if_pos (by omega),if_pos h3]
   ·rw[if_neg (by omega),if_pos (by omega),if_neg h3,hget _ (by omega)]
    congr 1;omega
end Go.Proofs.YtgnaipcjbmhihaaGreatDoor.Sh
namespace Go.Proofs.YtgnaipcjbmhihaaGreatDoor.Sh
open Go Go.Shelf Go.Proofs
def laysSort_ren:Go.Shelf.Ren:=⟨fun|189=>181|125=>184|257=>183|128=>194|129=>154|294=>185|295=>186|296=>187|297=>188|298=>189|299=>190|216=>191|300=>192|301=>193|328=>195|329=>196|330=>197|331=>198|332=>199|215=>200|343=>201|n=>n,fun|28=>49|3=>3|46=>230|0=>0|51=>239|53=>191|4=>4|183=>283|182=>282|131=>62|5=>5|9=>9|218=>288|222=>292|228=>294|229=>295|n=>n,fun|n=>n⟩
theorem laysSort:Go.Proofs.Lays.n189 Tryz.prog laysSort_ren:= {
 mixed:=by kernel_rfl,
 f125:=Tryz.func184.trans (congrArg some (by kernel_rfl)),
 f128:=Tryz.func194.trans (congrArg some (by kernel_rfl)),
 f129:=Tryz.func154.trans (congrArg some (by kernel_rfl)),
 f189:=Tryz.func181.trans (congrArg some (by kernel_rfl)),
 f215:=Tryz.func200.trans (congrArg some (by kernel_rfl)),
 f216:=Tryz.func191.trans (congrArg some (by kernel_rfl)),
 f257:=Tryz.func183.trans (congrArg some (by kernel_rfl)),
 f294:=Tryz.func185.trans (congrArg some (by kernel_rfl)),
 f295:=Tryz.func186.trans (congrArg some (by kernel_rfl)),
 f296:=Tryz.func187.trans (congrArg some (by kernel_rfl)),
 f297:=Tryz.func188.trans (congrArg some (by kernel_rfl)),
 f298:=Tryz.func189.trans (congrArg some (by kernel_rfl)),
 f299:=Tryz.func190.trans (congrArg some (by kernel_rfl)),
 f300:=Tryz.func192.trans (congrArg some (by kernel_rfl)),
 f301:=Tryz.func193.trans (congrArg some (by kernel_rfl)),
 f328:=Tryz.func195.trans (congrArg some (by kernel_rfl)),
 f329:=Tryz.func196.trans (congrArg some (by kernel_rfl)),
 f330:=Tryz.func197.trans (congrArg some (by kernel_rfl)),
 f331:=Tryz.func198.trans (congrArg some (by kernel_rfl)),
 f332:=Tryz.func199.trans (congrArg some (by kernel_rfl)),
 f343:=Tryz.func201.trans (congrArg some (by kernel_rfl)),
 t0:=Tryz.underlying0,
 a0:=Tryz.isAgg0,
 z0:=Tryz.sizeOf0,
 v0:=Tryz.zeroValue0,
 t3:=Tryz.underlying3,
 a3:=Tryz.isAgg3,
 z3:=Tryz.sizeOf3,
 v3:=Tryz.zeroValue3,
 t4:=Tryz.underlying4,
 a4:=Tryz.isAgg4,
 z4:=Tryz.sizeOf4,
 v4:=Tryz.zeroValue4,
 t5:=Tryz.underlying5,
 a5:=Tryz.isAgg5,
 z5:=Tryz.sizeOf5,
 v5:=Tryz.zeroValue5,
 t9:=Tryz.underlying9,
 a9:=Tryz.isAgg9,
 z9:=Tryz.sizeOf9,
 v9:=Tryz.zeroValue9,
 t28:=Tryz.underlying49,
 a28:=Tryz.isAgg49,
 z28:=Tryz.sizeOf49,
 v28:=Tryz.zeroValue49,
 t46:=Tryz.underlying230,
 a46:=Tryz.isAgg230,
 z46:=Tryz.sizeOf230,
 v46:=Tryz.zeroValue230,
 t51:=Tryz.underlying239,
 a51:=Tryz.isAgg239,
 z51:=Tryz.sizeOf239,
 v51:=Tryz.zeroValue239,
 t53:=Tryz.underlying191,
 a53:=Tryz.isAgg191,
 z53:=Tryz.sizeOf191,
 v53:=Tryz.zeroValue191,
 t131:=Tryz.underlying62,
 a131:=Tryz.isAgg62,
 z131:=Tryz.sizeOf62,
 v131:=Tryz.zeroValue62,
 t182:=Tryz.underlying282,
 a182:=Tryz.isAgg282,
 z182:=Tryz.sizeOf282,
 v182:=Tryz.zeroValue282,
 t183:=Tryz.underlying283,
 a183:=Tryz.isAgg283,
 z183:=Tryz.sizeOf283,
 v183:=Tryz.zeroValue283,
 t218:=Tryz.underlying288,
 a218:=Tryz.isAgg288,
 z218:=Tryz.sizeOf288,
 v218:=Tryz.zeroValue288,
 t222:=Tryz.underlying292,
 a222:=Tryz.isAgg292,
 z222:=Tryz.sizeOf292,
 v222:=Tryz.zeroValue292,
 t228:=Tryz.underlying294,
 a228:=Tryz.isAgg294,
 z228:=Tryz.sizeOf294,
 v228:=Tryz.zeroValue294,
 t229:=Tryz.underlying295,
 a229:=Tryz.isAgg295,
 z229:=Tryz.sizeOf295,
 v229:=Tryz.zeroValue295}
def laysCompact_ren:Go.Shelf.Ren:=⟨fun|20=>182|n=>n,fun|22=>49|3=>3|4=>4|0=>0|n=>n,fun|n=>n⟩
theorem laysCompact:Go.Proofs.Lays2.n20 Tryz.prog laysCompact_ren:= {
 mixed:=by kernel_rfl,
 f20:=Tryz.func182.trans (congrArg some (by kernel_rfl)),
 t0:=Tryz.underlying0,
 a0:=Tryz.isAgg0,
 z0:=Tryz.sizeOf0,
 v0:=Tryz.zeroValue0,
 t3:=Tryz.underlying3,
 a3:=Tryz.isAgg3,
 z3:=Tryz.sizeOf3,
 v3:=Tryz.zeroValue3,
 t4:=Tryz.underlying4,
 a4:=Tryz.isAgg4,
 z4:=Tryz.sizeOf4,
 v4:=Tryz.zeroValue4,
 t22:=Tryz.underlying49,
 a22:=Tryz.isAgg49,
 z22:=Tryz.sizeOf49,
 v22:=Tryz.zeroValue49,
 i3:=by kernel_rfl}
end Go.Proofs.YtgnaipcjbmhihaaGreatDoor.Sh
section
open Go Go.Lib
namespace Go.Proofs.YtgnaipcjbmhihaaGreatDoor.SortP
def upTo(zs:List Int):Nat->List Int
 |0=>[]
 |j+1=>upTo zs j++if zs.any (λz=>decide (z=(j:Int)))=true then[(j:Int)] else[]
theorem yT{zs:List Int}{x:Int}:∀ n,x∈upTo zs n↔x∈zs/\0<=x/\x<n
 |0=>by simp[upTo]
 |n+1=>by
  rw[upTo,z06,yT n];constructor
  ·rintro(h|h)
   ·exact⟨h.1,h.2.1,by omega⟩
   ·split at h
    ·rename_i h1;rw[z18] at h1;obtain⟨z,hz,h2⟩:=h1;have h2:=of_decide_eq_true h2;have h3:=z0a.1 h;subst h3;subst h2;exact⟨hz,by omega,by omega⟩
    ·cases h
  ·rintro⟨h1,h2,h3⟩;by_cases e:x=n
   ·subst e;right;rw[if_pos (z18.2 ⟨_,h1,by simp⟩)]
    exact z0a.2 rfl
   ·exact .inl ⟨h1,h2,by omega⟩
theorem Vq{zs:List Int}:∀ n,(upTo zs n).Pairwise (· < ·)
 |0=>List.Pairwise.nil
 |n+1=>by
  rw[upTo,z1g];refine⟨Vq n,by split<;>simp,λa ha b hb=> ?_⟩
  split at hb
  ·have:=z0a.1 hb;have:=((yT n).1 ha).2.2;omega
  ·cases hb
theorem amD:∀ {a b:List Int},a.Pairwise (· < ·)->b.Pairwise (· < ·)->(∀ x,x∈a↔x∈b)->a=b
 |[],[],_,_,_=>rfl
 |[],y::b,_,_,h=>absurd ((h y).2 z0g) (by simp)
 |x::a,[],_,_,h=>absurd ((h x).1 z0g) (by simp)
 |x::a,y::b,ha,hb,h=>by
  rw[List.pairwise_cons] at ha hb;have hxy:x=y:=by
   have h1:=(h x).1 z0g;have h2:=(h y).2 z0g;rw[z0e] at h1 h2;rcases h1 with h1|h1
   ·exact h1
   ·rcases h2 with h2|h2
    ·exact h2.symm
    ·have:=hb.1 x h1;have:=ha.1 y h2;omega
  subst hxy
  congr 1
  refine amD ha.2 hb.2 λz=> ?_;constructor
  ·intro hz;have:=(h z).1 (z0n _ hz);rw[z0e] at this;rcases this with e|e
   ·subst e;have:=ha.1 z hz;omega
   ·exact e
  ·intro hz;have:=(h z).2 (z0n _ hz);rw[z0e] at this;rcases this with e|e
   ·subst e;have:=hb.1 z hz;omega
   ·exact e
theorem GI{d:Array Int}(hs:∀ i j,i<=j->j<d.size->d[i]! <=d[j]!):∀ m,m<=d.size->(compactUpTo d m).Pairwise (· < ·)/\∀ x,x∈compactUpTo d m↔∃ j,j<m/\d[j]! =x
 |0,_=>⟨by simp[compactUpTo],λx=>by simp[compactUpTo]⟩
 |m+1,h=>by
  obtain⟨h1,h2⟩:=GI hs m (by omega)
  rw[compactUpTo_succ];by_cases hk:keeps d m=true
  ·rw[if_pos hk];refine⟨z1g.2 ⟨h1,by simp,λa ha b hb=> ?_⟩,λx=> ?_⟩
   ·have hb:=z0a.1 hb;obtain⟨j,hj,e⟩:=(h2 a).1 ha;have hne:d[m]! ≠d[m - 1]! :=by
     have:=of_decide_eq_true hk;rcases this with h0|h0
     ·omega
     ·exact h0
    have e1:=hs j (m - 1) (by omega) (by omega)
    have e2:=hs (m - 1) m (by omega) (by omega)
    subst hb;rw[<- e];omega
   ·rw[z06,h2,z0a];constructor
    ·rintro(⟨j,hj,e⟩|e)
     ·exact⟨j,by omega,e⟩
     ·exact⟨m,by omega,e.symm⟩
    ·rintro⟨j,hj,e⟩;by_cases e2:j=m
     ·subst e2;exact .inr e.symm
     ·exact .inl ⟨j,by omega,e⟩
  ·rw[if_neg hk,z1b];refine⟨h1,λx=> ?_⟩;have hk':¬ (m=0\/d[m]! ≠d[m - 1]!):=λh=>hk (decide_eq_true h);have hm:d[m]! =d[m - 1]! :=Classical.byContradiction λh=>hk' (.inr h);have h0:m≠0:=λh=>hk' (.inl h);rw[h2];constructor
   ·rintro⟨j,hj,e⟩;exact⟨j,by omega,e⟩
   ·rintro⟨j,hj,e⟩;by_cases e2:j=m
    ·subst e2;exact⟨j - 1,by omega,by rw[<- hm];exact e⟩
    ·exact⟨j,by omega,e⟩
def sorted(zs:List Int):List Int:=zs.mergeSort λx y=>decide (x<=y)
theorem KC(zs:List Int):(sorted zs).length=zs.length:=List.length_mergeSort zs
theorem Vk(zs:List Int):(compact zs).length<=zs.length:=by unfold compact compactUpTo;rw[z1a];exact z0k (List.length_filter_le _ _) (by simp)
theorem IG{zs:List Int}{n:Nat}(h:∀ z∈zs,0<=z/\z<n):compact (sorted zs)=upTo zs n:=by
 have hp:=List.pairwise_mergeSort (le:=λx y:Int=>decide (x<=y)) (by intro a b c;simp;omega) (by intro a b;simp;omega) zs
 have hs:∀ i j,i<=j->j< (sorted zs).toArray.size->(sorted zs).toArray[i]! <=(sorted zs).toArray[j]! :=by
  intro i j hij hj;have hj':j< (sorted zs).length:=by simpa using hj
  rw[getElem!_pos (sorted zs).toArray i (by simp;omega),getElem!_pos (sorted zs).toArray j hj]
  by_cases e:i=j
  ·subst e;exact Int.le_refl _
  ·have:=List.pairwise_iff_getElem.1 hp i j (by simpa[sorted] using(show i< (sorted zs).length by omega)) (by simpa[sorted] using hj') (by omega)
   exact of_decide_eq_true this
 obtain⟨h1,h2⟩:=GI hs (sorted zs).length (by simp)
 refine amD h1 (Vq n) λx=> ?_;rw[yT];show x∈compactUpTo _ _↔_;rw[h2];have hm:x∈sorted zs↔x∈zs:=List.mem_mergeSort;constructor
 ·rintro⟨j,hj,e⟩;have hx:x∈sorted zs:=by
   rw[<- e,getElem!_pos (sorted zs).toArray j (by simpa using hj)]
   simp
  have:=hm.1 hx;exact⟨this,h x this⟩
 ·rintro⟨hx,_⟩;obtain⟨j,hj,e⟩:=z1h.1 (hm.2 hx);exact⟨j,hj,by rw[getElem!_pos (sorted zs).toArray j (by simpa using hj)];simpa using e⟩
end Go.Proofs.YtgnaipcjbmhihaaGreatDoor.SortP
end
namespace Go.Proofs.YtgnaipcjbmhihaaGreatDoor.Rc
open D Tr Ah Ps Od
theorem azM:Puts Tryz.prog 181 SortP.sorted where
 ok:=by kernel_rfl
 len:=SortP.KC
 at0:=λw=>Any.slices_Sort_int_none Sh.laysSort none 0 w
 QJ:=λblk cap zs w hH hb hz=>Any.slices_Sort_int Sh.laysSort blk 0 cap zs w hH hb hz
theorem azN:as2 Tryz.prog 182 z0z where
 ok:=by kernel_rfl
 len:=SortP.Vk
 nil:=rfl
 at0:=λw=>Any.slices_Compact_int_empty Sh.laysCompact none 0 w
 QJ:=λblk cap zs w hH hz hc=>Any.slices_Compact_int Sh.laysCompact blk 0 cap zs w hH hz hc
def axa:JC:=(qN (oV 1 67 0<|o8 2 0<|.nil) (qN (oD 3 1 1 1<|o9 4 1 3<|o7 2 4<|.nil) .ret))
def Y0:JC:=(qN (oO 22 21 20<|.nil) (.seq (qO 22 .skip (.exit 0)) (.seq (.block 1 (qN (oK 23 4 19 21<|oC 24 4 23<|eo 10 (.alloc 67 (.agg [(.int .i64 0),(.int .i64 0),(.int .i64 0),(.int .i64 0)]))<|oG 4 10 24<|.nil) (qM [8,1,10,21,20,19] (.ops<|o7 25 8<|o7 26 1<|oC 27 4 10<|eo 28 (.jm (.t 26) [(.t 27)])<|qL [28,25,21,20,19,1]<|eo 29 (.qj 3 1 1 (.int .i64 0) [(0,(.t 28))])<|oW 30 3 1 8 25 29<|o7 8 30<|.nil)))) (qM [21,20,19,8,1] (.ops<|oJ 31 21 1<|o7 21 31<|.nil)))))
def amn:JC:=(qM [8] (qN (o7 32 8<|oM 33 181 32<|.nil) (qN (o7 34 8<|oM 35 182 34<|o7 4 35<|o8 5 0<|.nil) (.bn 4 3 1 .ret))))
def axb:JC:=(qN (oU 4<|o8 5 0<|.nil) (qN (o7 12 0<|oM 13 53 12<|o7 11 13<|oN 14 0 11<|oN 15 1 11<|o7 6 14<|o7 7 15<|.nil) (.seq (qN (o7 16 7<|qC 17 16 0<|.nil) (qM [17,7,6,1] (qO 17 (qN (o7 18 7<|oU 4<|o7 5 18<|.nil) (.bn 4 3 1 .ret)) .skip))) (qM [6,1] (qN (oU 8<|.nil) (.seq (qN (o7 19 6<|oP 20 19<|o8 21 0<|.nil) (.block 0 (.bn 8 3 1 (.loop [20,19,1] [21,8] Y0)))) amn))))))
def axc:JC:=(qN (oU 2<|o8 3 0<|.nil) (qN (o7 4 0<|eo 5 (.call 170 [(.t 4),(.c (.fn 171 []))])<|oN 6 0 5<|oN 7 1 5<|o7 2 6<|o7 3 7<|.nil) .ret))
theorem axd(r:Rc):FnOK Tryz.prog 171 [kZ.aA r] [] (.int .i64 r.b) []:=by refine fn_walkA axa [.tmp 2] 5 FH.none_ok rfl ?_;unfold axa;simp only[go_sem,seval]
theorem PV{l:List Rc}{i:Nat}(h:i<l.length):(l.map kZ.aA).getD i .junk= .agg [.int .i64 (l.getD i kZ.aI).a, .int .i64 (l.getD i kZ.aI).b, .int .i64 (l.getD i kZ.aI).var, .int .i64 (l.getD i kZ.aI).kind]:=by simp[z0r,h,I9]
def xW(g:Rc->Int)(l:List Ev):List Int:=if (aK l).2.2=0 then z0z (SortP.sorted ((aU l).map g)) else[]
def Gso(f:FuncId)(g:Rc->Int)(F:FuncId)(a:List SV)(m:List ay):Sx.Call:=(FH.mk 53 (.one dw) (λ_=>True) (λy=> .bK [.vec 0 (Dv y.1).length, .int .i64 (aK y.1).2.2]) (λy=>[.vec 67 4 ((Dv y.1).map kZ.aA)])<|
 FH.pu 181 SortP.sorted<|FH.cu 182 z0z<|FH.rd f (.one kZ) (.one .int) (λ_=>True) (λy=>g y.1) FH.none) F a m
theorem QE(f:FuncId)(g:Rc->Int)(F:FuncId)(a:List SV)(m:List ay):Gso f g F a m=(FH.mk 53 (.one dw) (λ_=>True) (λy=> .bK [.vec 0 (Dv y.1).length, .int .i64 (aK y.1).2.2]) (λy=>[.vec 67 4 ((Dv y.1).map kZ.aA)])<|
 FH.pu 181 SortP.sorted<|FH.cu 182 z0z<|FH.rd f (.one kZ) (.one .int) (λ_=>True) (λy=>g y.1) FH.none) F a m:=nr rfl
theorem axe{f:FuncId}{g:Rc->Int}(hok:iF Tryz.prog f=true)(hg:∀ r,FnOK Tryz.prog f [kZ.aA r] [] (.int .i64 (g r)) []):aW Tryz.prog (Gso f g):=
 FH.eu (λy _=>cZ (fU ⟨fE _ _,fF _ _,trivial⟩) ⟨bY _ _ kZ _,trivial⟩) (λy _=>arQ y.1)<|
 FH.axH azM<|FH.axI azN<|FH.aT (hf:=hok) (λy _=>hg y.1) FH.none_ok
theorem amo(l:List Ev){f:FuncId}{g:Rc->Int}(hok:iF Tryz.prog f=true)(hg:∀ r,FnOK Tryz.prog f [kZ.aA r] [] (.int .i64 (g r)) [])(h1:f≠53)(h2:f≠181)(h3:f≠182):
  FnOK Tryz.prog 170 [dw.aA l, .fn f []] [] (.bK [.vec 0 (xW g l).length, .int .i64 (aK l).2.2]) [.vec 3 1 ((xW g l).map DT.int.aA)]:=by
 refine fn_walkA axb [.tmp 4, .tmp 5] 36 (axe hok hg) rfl ?_;unfold axb;by_cases h:(aK l).2.2=0
 ·have hok:(aF l).2=0:=by rw[<- iE];exact h
  have hl:=bP hok;have hRl:(aU l).length<=6400:=z0k (y8 (l:=l) l.length) (z1q (show l.length<=80 by omega) (show l.length<=80 by omega))
  have ht:xW g l=z0z (SortP.sorted ((aU l).map g)):=if_pos h;have ha:Dv l=aU l:=if_pos h;rw[ht];generalize aU l=R at hRl ha ⊢;simp only[go_sem,seval,QE,h,ha];refine aZ Nat (λi=>[.int .i64 i, .vec 1 i]) (λi=>[.vec 67 4 (R.map kZ.aA), .vec 3 1 (((R.take i).map g).map DT.int.aA)]) (λi=>i<=R.length) (λi=>R.length - i) 0 (by omega) ?_ rfl ?_
  ·simp only[go_sem,seval]
  intro i hi;by_cases q:i<R.length
  ·have q':(i:Int)<R.length:=by omega
   unfold Y0;simp only[go_sem,seval,QE,q,q',h1,h2,h3,PV q];have e:((R.take (i+1)).map g)=(R.take i).map g++[g (R.getD i kZ.aI)]:=by rw[bH kZ.aI q,z0s];rfl
   refine⟨by omega,by rw[z0j];omega,i+1,by omega,by omega,⟨aY,by rw[z0j];congr 1;omega⟩,?_⟩
   rw[e,z0s];rfl
  ·have q':¬ (i:Int)<R.length:=by omega
   have e:i=R.length:=by omega
   subst e;unfold Y0;simp only[go_sem,seval,q'];unfold amn;rw[z0i];simp only[go_sem,seval,QE];rw[h];exact⟨by omega,by rw[SortP.KC,z1a],rfl⟩
 ·have ha:Dv l=[]:=if_neg h;have ht:xW g l=[]:=if_neg h;simp only[go_sem,seval,QE,h,ha,ht]
def Gsd(f:FuncId)(a:List SV)(m:List ay):Sx.Call:=(FH.mk 170 (.two dw DT.fnc) (λy=>y.2.1=171) (λy=> .bK [.vec 0 (xW (λr=>r.b) y.1).length, .int .i64 (aK y.1).2.2]) (λy=>[.vec 3 1 ((xW (λr=>r.b) y.1).map DT.int.aA)]) FH.none) f a m
theorem axf:type_of% (nq Gsd.eq_1):=nq Gsd.eq_1
theorem axg:aW Tryz.prog Gsd:=FH.eu (λy _=>cZ (fU ⟨fE _ _,fF _ _,trivial⟩) ⟨bY _ _ DT.int _,trivial⟩) (λy h=>by
 have:=amo y.1 (f:=171) (by kernel_rfl) axd (by decide) (by decide) (by decide)
 rw[<- h] at this;exact this) FH.none_ok
theorem aa0(l:List Ev):FnOK Tryz.prog 142 [dw.aA l] [] (.bK [.vec 0 (xW (λr=>r.b) l).length, .int .i64 (aK l).2.2]) [.vec 3 1 ((xW (λr=>r.b) l).map DT.int.aA)]:=by refine fn_walkA axc [.tmp 2, .tmp 3] 8 axg rfl ?_;unfold axc;simp only[go_sem,seval,axf]
end Go.Proofs.YtgnaipcjbmhihaaGreatDoor.Rc
namespace Go.Proofs.YtgnaipcjbmhihaaGreatDoor.Rc
open D Tr Ah Ps Od St Hs
def Ri(l:List Ev):List Int:=SortP.upTo ((aU l).map λr=>r.b) l.length
theorem RV{l:List Ev}{i:Nat}{r:Rc}:∀ {n:Nat},r∈jD l i n->∃ j,j<n/\noRace l i j (l.getD i aO.aI) (l.getD j aO.aI)=false/\r=⟨i,j,(l.getD i aO.aI).obj,jQ (l.getD i aO.aI) (l.getD j aO.aI)⟩
 |0,h=>by simp[jD] at h
 |n+1,h=>by
  rw[jD,z06] at h;rcases h with h|h
  ·obtain⟨j,h1,h2,h3⟩:=RV h;exact⟨j,by omega,h2,h3⟩
  ·split at h
   ·cases h
   ·rename_i hn;simp only[z0e,z0f,or_false] at h;exact⟨n,z19 _,by simpa using hn,h⟩
theorem RX{l:List Ev}{r:Rc}:∀ {n:Nat},r∈nN l n->∃ i,i<n/\r∈jD l i l.length
 |0,h=>by simp[nN] at h
 |n+1,h=>by
  rw[nN,z06] at h;rcases h with h|h
  ·obtain⟨i,h1,h2⟩:=RX h;exact⟨i,by omega,h2⟩
  ·exact⟨n,z19 _,h⟩
theorem anD{l:List Ev}{r:Rc}(h:r∈aU l):∃ i j:Nat,i<l.length/\j<l.length/\r.b=j/\r.var=(l.getD i aO.aI).obj/\noRace l i j (l.getD i aO.aI) (l.getD j aO.aI)=false:=by obtain⟨i,hi,h2⟩:=RX h;obtain⟨j,hj,h3,h4⟩:=RV h2;subst h4;exact⟨i,j,hi,hj,rfl,rfl,h3⟩
theorem Zt{l:List Ev}:∀ z∈(aU l).map (λr=>r.b),0<=z/\z< (l.length:Int):=by intro z hz;obtain⟨r,hr,rfl⟩:=z15.1 hz;obtain⟨i,j,hi,hj,h1,h2⟩:=anD hr;simp only[h1];omega
end Go.Proofs.YtgnaipcjbmhihaaGreatDoor.Rc
section
section
set_option maxRecDepth 100000
open Go Go.Sx Go.Proofs
namespace Go.Proofs.YtgnaipcjbmhihaaGreatDoor.Sk
open D Tr Cp
theorem afI:QZ aO:=by intro x J cs h;rw[IE] at h;simp only[au,bQ] at h;obtain⟨a,b,rfl,rfl,c,d,rfl,rfl,e,f,rfl,rfl,rfl⟩:=h;intro v hv;simp only[z06,z0e,z0f,or_false] at hv;rcases hv with rfl|rfl|rfl<;>rfl
def j102:JC:=(qN (oU 4<|qH 5 false<|.nil) (qN (o7 8 0<|oM 9 104 8<|o7 10 1<|o7 11 1<|oJ 12 11 1<|eo 13 (.call 141 [(.t 9),(.t 10),(.t 12)])<|o7 0 13<|.nil) (qN (qL [0]<|o7 15 0<|oM 16 49 15<|o7 14 16<|oN 17 0 14<|oN 18 1 14<|o7 6 17<|o7 7 18<|.nil) (qM [0,7] (qN (o7 19 0<|o7 20 7<|oH 21 20 0<|o7 4 19<|o7 5 21<|.nil) .ret)))))
def Gle(f:FuncId)(a:List SV)(m:List ay):Sx.Call:=(FH.mk 104 (.one dw) (λy=>y.1.length<=1000000) (λy=> .vec 0 y.1.length) (λy=>[.vec 56 3 (y.1.map aO.aA)])<|
 FH.de 141 aO 3<|FH.rd 49 (.one dw) (.two .int .int) (λ_=>True) (λy=>(aK y.1).2) FH.none) f a m
theorem ath:type_of% (nq Gle.eq_1):=nq Gle.eq_1
theorem ati:aW Tryz.prog Gle:=FH.eu (λy _=>cZ (nM _ _) ⟨bY _ _ aO _,trivial⟩) (λy h=>L9 y.1 h)<|
 FH.axL Sh.ax4 afI (by decide)<|FH.aT (λy _=>lY y.1) FH.none_ok
def cut(l:List Ev)(i:Nat):List Ev:=yI l i (i+1)
theorem Hr{l:List Ev}{i:Nat}(hi:i<l.length):(cut l i).length=l.length - 1:=by rw[cut,Fj (by omega) (by omega)];omega
theorem afJ(l:List Ev)(i:Nat)(hl:l.length<=1000)(hi:i<l.length):FnOK Tryz.prog 102 [dw.aA l, .int .i64 i] [] (.bK [.vec 0 (l.length - 1), .bool (decide ((aF (cut l i)).2=0))]) [.vec 56 3 ((cut l i).map aO.aA)]:=by
 have hw:z05.wrap ((i:Int)+1)=((i+1:Nat):Int):=aY;refine fn_walkA j102 [.tmp 4, .tmp 5] 22 ati rfl ?_;unfold j102;simp only[go_sem,seval,ath,hw];have he:(aK (yI l i (i+1))).2.2=(aF (cut l i)).2:=by rw[iD];rfl
 rw[he,show i+1 - i=1 by omega]
 exact⟨by omega,by omega,rfl,rfl⟩
def j67:JC:=(qN (oU 4<|o8 5 0<|.nil) (.seq (qN (o7 11 0<|oM 12 49 11<|o7 10 12<|oN 13 0 10<|oN 14 1 10<|o7 6 13<|o7 7 14<|.nil) (qN (o7 15 7<|qC 16 15 0<|.nil) (qM [16,7,1,0] (qO 16 (qN (o7 17 7<|oU 4<|o7 5 17<|.nil) (.bn 4 56 3 .ret)) .skip)))) (qM [1,0] (.seq (qN (o7 18 1<|qA 19 18 0<|o7 20 19<|.sc true 25 20 (o7 21 1<|o7 22 0<|oP 23 22<|qo 24 (.cmp .geq (.t 21) (.t 23))<|.nil) (.t 24)<|.nil) (qM [25,0,1] (qO 25 (qN (oU 4<|o8 5 1<|.nil) (.bn 4 56 3 .ret)) .skip))) (qM [0,1] (qN (o7 27 0<|o7 28 1<|qE 29 102 27 28<|o7 26 29<|oN 30 0 26<|qL [26,30]<|oN 31 1 26<|o7 8 30<|o7 9 31<|.nil) (qM [9,8] (.seq (qN (o7 32 9<|qF 33 32<|.nil) (qO 33 (qN (oU 4<|o8 5 5<|.nil) (.bn 4 56 3 .ret)) .skip)) (qN (o7 34 8<|o7 4 34<|o8 5 0<|.nil) (.bn 4 56 3 .ret))))))))))
def Gwi(f:FuncId)(a:List SV)(m:List ay):Sx.Call:=(FH.rd 49 (.one dw) (.two .int .int) (λ_=>True) (λy=>(aK y.1).2)<|
 FH.mk 102 (.two dw .int) (λy=>y.1.length<=1000/\0<=y.2.1/\y.2.1<y.1.length) (λy=> .bK [.vec 0 (y.1.length - 1), .bool (decide ((aF (cut y.1 y.2.1.toNat)).2=0))]) (λy=>[.vec 56 3 ((cut y.1 y.2.1.toNat).map aO.aA)]) FH.none) f a m
theorem nS:type_of% (nq Gwi.eq_1):=nq Gwi.eq_1
theorem Ox:aW Tryz.prog Gwi:=FH.aT (λy _=>lY y.1)<|
 FH.eu (λy _=>cZ (fU ⟨fE _ _,Rh _,trivial⟩) ⟨bY _ _ aO _,trivial⟩) (λy h=>by
  have:=afJ y.1 y.2.1.toNat h.1 (by omega)
  rwa [z1k h.2.1] at this) FH.none_ok
def gV(l:List Ev)(i:Int):List Ev×Int:=
 if (aF l).2=0 then(if i<0\/(l.length:Int)<=i then([],1) else if (aF (cut l i.toNat)).2=0 then(cut l i.toNat,0) else([],5)) else([],(aF l).2)
theorem aaZ(l:List Ev)(i:Int):FnOK Tryz.prog 67 [dw.aA l, .int .i64 i] [] (.bK [.vec 0 (gV l i).1.length, .int .i64 (gV l i).2]) [.vec 56 3 ((gV l i).1.map aO.aA)]:=by
 refine fn_walkA j67 [.tmp 4, .tmp 5] 35 Ox rfl ?_;unfold j67;have he:(aK l).2.2=(aF l).2:=by rw[iD]
 unfold gV;by_cases h:(aF l).2=0
 ·have hl:=bP h;rw[if_pos h];by_cases hi:i<0\/(l.length:Int)<=i
  ·have hd:(decide (i<0)||decide ((l.length:Int)<=i))=true:=by simpa using hi
   rw[if_pos hi];simp only[go_sem,seval,nS,he,h,hd]
  ·have hd:(decide (i<0)||decide ((l.length:Int)<=i))=false:=by simpa using hi
   have h1:l.length<=1000:=by omega
   have h2:0<=i:=by omega
   have h3:i<l.length:=by omega
   have hc:=Hr (l:=l) (i:=i.toNat) (by omega)
   rw[if_neg hi];by_cases hq:(aF (cut l i.toNat)).2=0
   ·rw[if_pos hq];simp only[go_sem,seval,nS,he,h,hd,h1,h2,h3,hq,hc]
   ·rw[if_neg hq];simp only[go_sem,seval,nS,he,h,hd,h1,h2,h3,hq]
 ·rw[if_neg h];simp only[go_sem,seval,nS,he,h]
end Go.Proofs.YtgnaipcjbmhihaaGreatDoor.Sk
end
section
set_option maxRecDepth 100000
open Go Go.Sx Go.Proofs
namespace Go.Proofs.YtgnaipcjbmhihaaGreatDoor.Sk
open D Tr Cp Rc
def j103:JC:=(qN (qH 2 false<|.nil) (qN (o7 6 0<|oM 7 142 6<|o7 5 7<|oN 8 0 5<|oN 9 1 5<|o7 3 8<|o7 4 9<|.nil) (qN (qL [3]<|o7 10 3<|oP 11 10<|qJ 12 11 0<|o7 2 12<|.nil) .ret)))
def Grs(f:FuncId)(a:List SV)(m:List ay):Sx.Call:=(FH.mk 142 (.one dw) (λ_=>True) (λy=> .bK [.vec 0 (xW (λr=>r.b) y.1).length, .int .i64 (aK y.1).2.2]) (λy=>[.vec 3 1 ((xW (λr=>r.b) y.1).map DT.int.aA)]) FH.none) f a m
theorem VR:type_of% (nq Grs.eq_1):=nq Grs.eq_1
theorem VT:aW Tryz.prog Grs:=FH.eu (λy _=>cZ (fU ⟨fE _ _,fF _ _,trivial⟩) ⟨bY _ _ DT.int _,trivial⟩) (λy _=>aa0 y.1) FH.none_ok
def racy(l:List Ev):Bool:=decide (0< (aU l).length)
theorem aa1{l:List Ev}(hok:(aF l).2=0):xW (λr=>r.b) l=Ri l:=by
 have hp:(aK l).2.2=0:=by rw[iE];exact hok
 rw[xW,if_pos hp,SortP.IG Zt];rfl
theorem afK{l:List Ev}:0< (Ri l).length↔0< (aU l).length:=by
 rw[z16,z16];constructor
 ·rintro⟨x,hx⟩;rw[Ri,SortP.yT] at hx;obtain⟨r,hr,_⟩:=z15.1 hx.1;exact⟨r,hr⟩
 ·rintro⟨r,hr⟩;have hm:r.b∈(aU l).map λr=>r.b:=z15.2 ⟨r,hr,rfl⟩;have:=Zt _ hm;exact⟨r.b,by rw[Ri,SortP.yT];exact⟨hm,this⟩⟩
theorem Zu(l:List Ev)(hok:(aF l).2=0):FnOK Tryz.prog 103 [dw.aA l] [] (.bool (racy l)) []:=by
 refine fn_walkA j103 [.tmp 2] 13 VT rfl ?_;unfold j103;simp only[go_sem,seval,VR];rw[aa1 hok];unfold racy;have:=afK (l:=l);have e:(0< ((Ri l).length:Int))↔0< (aU l).length:=by omega
 exact decide_eq_decide.2 e
def VU:JC:=(.seq (qN (o7 8 5<|o7 9 0<|oP 10 9<|oO 11 8 10<|.nil) (qO 11 .skip (.exit 0))) (.block 1 (.seq (qN (qL [0,5,4]<|o7 13 0<|o7 14 5<|qE 15 102 13 14<|o7 12 15<|qL [12,5,0,4]<|oN 16 0 12<|oN 17 1 12<|o7 6 16<|o7 7 17<|.nil) (.gq 6 dw.gq<| .prune [7,6,5,0,4] (qN (o7 18 7<|o7 19 18<|.sc false 22 19 (o7 20 6<|oM 21 103 20<|.nil) (.t 21)<|.nil) (qM [22,6,5,0,4] (qO 22 (qN (o7 23 6<|o7 0 23<|qH 4 true<|.nil) (.exit 1)) .skip))))) (qM [5,0,4] (.ops<|o7 24 5<|oJ 25 24 1<|o7 5 25<|.nil)))))
def afL:JC:=(qM [0,4] (qN (o7 26 0<|o7 27 4<|o7 2 26<|o7 3 27<|.nil) .ret))
def j105:JC:=(qN (oU 2<|qH 3 false<|.nil) (qN (qH 4 false<|.nil) (.seq (qN (o8 5 0<|.nil) (.block 0 (.loop [] [5,0,4] VU))) afL)))
def good(x:List Ev):Bool:=decide ((aF x).2=0)&&racy x
def gB:Nat->Nat->List Ev->Bool->List Ev×Bool
 |0,_,L,b=>(L,b)
 |n+1,i,L,b=>if good (cut L i)=true then gB n i (cut L i) true else gB n (i+1) L b
theorem nT:∀ (n i:Nat) (L:List Ev) (b:Bool),i+n=L.length->(gB n i L b).1.length<=L.length/\((gB n i L b).2=true->b=true\/(gB n i L b).1.length<L.length)
 |0,i,L,b,_=>⟨z08 _,λh=> .inl h⟩
 |n+1,i,L,b,h=>by
  rw[gB];split
  ·have hc:=Hr (l:=L) (i:=i) (by omega)
   have:=nT n i (cut L i) true (by omega)
   exact⟨by omega,λ_=> .inr (by omega)⟩
  ·exact nT n (i+1) L b (by omega)
def Gpa(f:FuncId)(a:List SV)(m:List ay):Sx.Call:=(FH.mk 102 (.two dw .int) (λy=>y.1.length<=1000/\0<=y.2.1/\y.2.1<y.1.length) (λy=> .bK [.vec 0 (y.1.length - 1), .bool (decide ((aF (cut y.1 y.2.1.toNat)).2=0))]) (λy=>[.vec 56 3 ((cut y.1 y.2.1.toNat).map aO.aA)])<|
 FH.rd 103 (.one dw) (.one .bool) (λy=>(aF y.1).2=0) (λy=>racy y.1) FH.none) f a m
theorem atm:type_of% (nq Gpa.eq_1):=nq Gpa.eq_1
theorem atn:aW Tryz.prog Gpa:=FH.eu (λy _=>cZ (fU ⟨fE _ _,Rh _,trivial⟩) ⟨bY _ _ aO _,trivial⟩) (λy h=>by
  have:=afJ y.1 y.2.1.toNat h.1 (by omega)
  rwa [z1k h.2.1] at this)<|FH.aT (λy h=>Zu y.1 h) FH.none_ok
theorem ato(l:List Ev)(hl:l.length<=100):FnOK Tryz.prog 105 [dw.aA l] [] (.bK [dw.aA (gB l.length 0 l false).1, .bool (gB l.length 0 l false).2]) []:=by
 refine fn_walkA j105 [.tmp 2, .tmp 3] 28 atn rfl ?_;unfold j105;simp only[go_sem,seval];refine aZ (Nat×List Ev×Bool) (λs=>[.int .i64 s.1,dw.aA s.2.1, .bool s.2.2]) (λ_=>[]) (λs=>s.1<=s.2.1.length/\s.2.1.length<=100/\gB (s.2.1.length - s.1) s.1 s.2.1 s.2.2=gB l.length 0 l false) (λs=>s.2.1.length - s.1) (0,l,false) ⟨by simp,hl,by simp⟩ ?_ rfl ?_
 ·simp only[go_sem,seval]
 rintro⟨i,L,b⟩ ⟨hi,hL,hp⟩;simp only at hi hL hp;by_cases h1:i<L.length
 ·have h1':(i:Int)<L.length:=by omega
  have ax5:L.length<=1000:=by omega
  have h0:0<=(i:Int):=by omega
  unfold VU;simp only[go_sem,seval,atm,h1',ax5,h0];rw[show L.length - i=(L.length - (i+1))+1 by omega,gB] at hp
  have hc:=Hr h1;refine⟨λh=>h,λh=>⟨(i,cut L i,true),⟨?_,?_,?_⟩,?_,rfl,rfl,rfl⟩,λh=>⟨(i+1,L,b),⟨h1,hL,?_⟩,?_,aY,rfl,rfl⟩⟩
  ·simp only;omega
  ·simp only;omega
  ·simp only;rw[if_pos (show good (cut L i)=true from h)] at hp
   rw[<- hp,hc]
   congr 1;omega
  ·simp only;omega
  ·rw[if_neg (by show ¬ good (cut L i)=true;unfold good;rw[h];simp)] at hp
   exact hp
  ·simp only;omega
 ·have h1':¬ (i:Int)<L.length:=by omega
  unfold VU;simp only[go_sem,seval,h1'];unfold afL;simp only[go_sem,seval];rw[show L.length - i=0 by omega,gB] at hp
  rw[<- hp]
def rZ(L:List Ev):List Ev:=if h:(gB L.length 0 L false).2=true then rZ (gB L.length 0 L false).1 else(gB L.length 0 L false).1
termination_by L.length
decreasing_by
 have:=(nT L.length 0 L false (by omega)).2 h
 simp only[z14,false_or] at this;exact this
theorem Rj{L:List Ev}(h:(gB L.length 0 L false).2=true):rZ L=rZ (gB L.length 0 L false).1:=by rw[rZ,dif_pos h]
theorem Zv{L:List Ev}(h:¬ (gB L.length 0 L false).2=true):rZ L=(gB L.length 0 L false).1:=by rw[rZ,dif_neg h]
theorem Rk{L M:List Ev}(hM:M.length<=100)(hm:(if true=true then rZ M else M)=rZ L):
  ∃ j:Bool×List Ev,(j.2.length<=100/\(if j.1=true then rZ j.2 else j.2)=rZ L)/\(if j.1=true then j.2.length+1 else 0)<M.length+1/\(gB M.length 0 M false).2=j.1/\SV.lst 3 aO.aI aO.aA (gB M.length 0 M false).1=SV.lst 3 aO.aI aO.aA j.2:=by
 have hs:=nT M.length 0 M false (by omega)
 rw[if_pos rfl] at hm;refine⟨((gB M.length 0 M false).2,(gB M.length 0 M false).1),⟨by simp only;omega,?_⟩,?_,rfl,rfl⟩
 ·simp only;by_cases h:(gB M.length 0 M false).2=true
  ·rw[if_pos h,<- Rj h,hm]
  ·rw[if_neg h,<- Zv h,hm]
 ·simp only;split
  ·rename_i h;have:=hs.2 h;simp only[z14,false_or] at this;omega
  ·omega
abbrev amY:DT (Option (List Ev)):=DT.Es 3 aO
def Rl(o:Option (List Ev)):Option (List Ev)×Int:=
 if (aF (o.getD [])).2=0 then(if racy (o.getD [])=true then(some (rZ (o.getD [])),0) else(none,7)) else(none,(aF (o.getD [])).2)
def afM:JC:=(.seq (qN (o7 20 6<|.nil) (qO 20 .skip (.exit 0))) (.block 1 (.ops<|o7 22 0<|oM 23 105 22<|o7 21 23<|oN 24 0 21<|qL [21,24]<|oN 25 1 21<|o7 0 24<|o7 6 25<|.nil)))
def ari:JC:=(qM [0] (qN (o7 26 0<|o7 2 26<|o8 3 0<|.nil) .ret))
def j68:JC:=(qN (oU 2<|o8 3 0<|.nil) (.seq (qN (o7 8 0<|oM 9 49 8<|o7 7 9<|oN 10 0 7<|oN 11 1 7<|o7 4 10<|o7 5 11<|.nil) (qN (o7 12 5<|qC 13 12 0<|.nil) (qM [13,5,0] (qO 13 (qN (o7 14 5<|oU 2<|o7 3 14<|.nil) .ret) .skip)))) (qM [0] (.seq (qN (o7 15 0<|oM 16 103 15<|qF 17 16<|.nil) (qO 17 (qN (oU 2<|o8 3 7<|.nil) .ret) .skip)) (qN (o7 18 0<|oM 19 104 18<|o7 0 19<|.nil) (.seq (qN (qH 6 true<|.nil) (.gq 0 dw.gq<| .prune [6,0] (.block 0 (.loop [] [6,0] afM)))) ari))))))
def Gmi(f:FuncId)(a:List SV)(m:List ay):Sx.Call:=(FH.rd 49 (.one dw) (.two .int .int) (λ_=>True) (λy=>(aK y.1).2)<|
 FH.rd 103 (.one dw) (.one .bool) (λy=>(aF y.1).2=0) (λy=>racy y.1)<|
 FH.mk 104 (.one dw) (λy=>y.1.length<=1000000) (λy=> .vec 0 y.1.length) (λy=>[.vec 56 3 (y.1.map aO.aA)])<|
 FH.pz 105 (.one dw) (DP.two dw .bool) (λy=>y.1.length<=100) (λy=>gB y.1.length 0 y.1 false) FH.none) f a m
theorem Oy:type_of% (nq Gmi.eq_1):=nq Gmi.eq_1
theorem atp:aW Tryz.prog Gmi:=FH.aT (λy _=>lY y.1)<|FH.aT (λy h=>Zu y.1 h)<|
 FH.eu (λy _=>cZ (nM _ _) ⟨bY _ _ aO _,trivial⟩) (λy h=>L9 y.1 h)<|
 FH.oq (λy h=>ato y.1 h) FH.none_ok
theorem ax6(o:Option (List Ev)):FnOK Tryz.prog 68 [amY.aA o] [] (.bK [amY.aA (Rl o).1, .int .i64 (Rl o).2]) []:=by
 refine fn_walkA j68 [.tmp 2, .tmp 3] 27 atp rfl ?_;unfold j68;have he:(aK (o.getD [])).2.2=(aF (o.getD [])).2:=iE;unfold Rl;by_cases h:(aF (o.getD [])).2=0
 ·have hl:=bP h;rw[if_pos h];by_cases hr:racy (o.getD [])=true
  ·rw[if_pos hr];have h6:(o.getD []).length<=1000000:=by omega
   generalize hL:o.getD []=L at h hl hr he h6 ⊢;simp only[go_sem,seval,Oy,he,h,hr,h6,hL];refine aZ (Bool×List Ev) (λs=>[.bool s.1,dw.aA s.2]) (λ_=>[.dead]) (λs=>s.2.length<=100/\(if s.1=true then rZ s.2 else s.2)=rZ L) (λs=>if s.1=true then s.2.length+1 else 0) (true,L) ⟨by simp only;omega,rfl⟩ ?_ rfl ?_
   ·simp only[go_sem,seval]
   rintro⟨b,M⟩ ⟨hM,hm⟩;simp only at hM hm;cases b with
   |true=>
    unfold afM;simp only[go_sem,seval,Oy,hM];exact Rk hM hm
   |false=>
    unfold afM;simp only[go_sem,seval];unfold ari;simp only[go_sem,seval];rw[<- hm];rfl
  ·rw[if_neg hr];have hr':racy (o.getD [])=false:=by simpa using hr
   simp only[go_sem,seval,Oy,he,h,hr']
 ·rw[if_neg h];simp only[go_sem,seval,Oy,he,h]
def afN:JC:=(.seq (qN (o7 7 4<|o7 8 0<|oP 9 8<|oO 10 7 9<|.nil) (qO 10 .skip (.exit 2))) (.seq (.block 3 (.seq (.bJ<|qL [0,4,3]<|o7 13 0<|o7 14 4<|qo 15 (.slc 3 (.t 13) none (some (.t 14)) none)<|oM 16 32 15<|qL [0,4,16,3]<|o7 17 0<|o7 18 4<|oJ 19 18 1<|qo 20 (.slc 3 (.t 17) (some (.t 19)) none none)<|oW 21 56 3 24 16 20<|o7 5 21<|.nil) (.gq 5 dw.gq<| .prune [5,4,0,3] (qN (o7 22 5<|oM 23 33 22<|oH 24 23 0<|o7 25 24<|qL [25,5,4,0,3]<|.sc false 30 25 (o7 26 5<|oM 27 35 26<|oP 28 27<|qJ 29 28 0<|.nil) (.t 29)<|.nil) (qM [30,5,4,0,3] (qO 30 (qN (o7 31 5<|o7 0 31<|qH 3 true<|.nil) (.ops<|qL [4,0,3]<|o7 32 4<|qo 33 (.ar .sub (.t 32) (I 1))<|o7 4 33<|.nil)) .skip)))))) (qM [4,0,3] (.ops<|o7 11 4<|oJ 12 11 1<|o7 4 12<|.nil))))
def afO:JC:=(.seq (qN (o7 6 3<|.nil) (qO 6 .skip (.exit 0))) (.block 1 (qN (qH 3 false<|.nil) (qN (o8 4 0<|.nil) (.block 2 (.bn 0 56 3 (.loop [] [4,0,3] afN)))))))
def arj:JC:=(qM [0] (qN (o7 34 0<|o7 2 34<|.nil) (.bn 2 56 3 .ret)))
def j45:JC:=(qN (oU 2<|.nil) (.seq (qN (qH 3 true<|.nil) (.block 0 (.bn 0 56 3 (.loop [] [3,0] afO)))) arj))
theorem c45:fnIs Tryz.prog (aaW [32]) 45=some (j45.flat,[.tmp 2],35):=by kernel_rfl
theorem w45:j45.wf 35=true:=by kernel_rfl
def Grm(f:FuncId)(a:List SV)(m:List ay):Sx.Call:=(FH.mk 32 (.one dw) (λy=>y.1.length<=1000000) (λy=> .vec 0 y.1.length) (λy=>[.vec 56 3 (y.1.map aO.aA)])<|
 FH.rd 33 (.one dw) (.one .int) (λ_=>True) (λy=>(aF y.1).2)<|
 FH.pz 35 (.one dw) (DP.one atq) (λy=>(aF y.1).2=0) (λy=>aU y.1) FH.none) f a m
theorem atr:type_of% (nq Grm.eq_1):=nq Grm.eq_1
theorem att:aW Tryz.prog Grm:=FH.eu (λy _=>cZ (nM _ _) ⟨bY _ _ aO _,trivial⟩) (λy h=>Rn y.1 h)<|FH.aT (λy _=>ark y.1)<|
 FH.oq (λy h=>(II y.1 h).holdL) FH.none_ok
theorem atu(l:List Ev)(hl:l.length<=100):FnOK Tryz.prog 45 [dw.aA l] [] (dw.aA (rZ l)) []:=by
 refine fn_walkF c45 w45 att rfl ?_;unfold j45;simp only[go_sem,seval];refine aZ (Bool×List Ev) (λs=>[.bool s.1,dw.aA s.2]) (λ_=>[]) (λs=>s.2.length<=100/\(if s.1=true then rZ s.2 else s.2)=rZ l) (λs=>if s.1=true then s.2.length+1 else 0) (true,l) ⟨hl,rfl⟩ ?_ rfl ?_
 ·simp only[go_sem,seval]
 rintro⟨b,M⟩ ⟨hM,hm⟩;simp only at hM hm;cases b with
 |true=>
  unfold afO;simp only[go_sem,seval];refine aZ (Nat×List Ev×Bool) (λs=>[.int .i64 s.1,dw.aA s.2.1, .bool s.2.2]) (λ_=>[]) (λs=>s.1<=s.2.1.length/\s.2.1.length<=100/\gB (s.2.1.length - s.1) s.1 s.2.1 s.2.2=gB M.length 0 M false) (λs=>s.2.1.length - s.1) (0,M,false) ⟨by simp,hM,by simp⟩ ?_ rfl ?_
  ·simp only[go_sem,seval]
  rintro⟨i,L,c⟩ ⟨hi,hL,hp⟩;simp only at hi hL hp;by_cases h1:i<L.length
  ·have h1':(i:Int)<L.length:=by omega
   have h0:0<=(i:Int):=by omega
   have hw:z05.wrap ((i:Int)+1)=((i+1:Nat):Int):=aY;unfold afN;simp only[go_sem,seval,atr,h1',h0,hw];have hcut:L.take i++(L.take L.length).drop (i+1)=cut L i:=by rw[z0i];rfl
   have hc:=Hr h1;have hrc:decide (0< ((aU (cut L i)).length:Int))=racy (cut L i):=by unfold racy;rw[decide_eq_decide];omega
   have hww:z05.wrap (z05.wrap ((i:Int) - 1)+1)=(i:Int):=by rw[IntWalk.i64_in ((i:Int) - 1) (by omega),aY];omega
   rw[hcut,hrc,hww];rw[show L.length - i=(L.length - (i+1))+1 by omega,gB] at hp
   refine⟨⟨by omega,by omega⟩,by rw[z0j];omega,by omega,⟨by omega,by omega⟩,?_,λh=>h,λh=>⟨(i,cut L i,true),⟨?_,?_,?_⟩,?_,rfl,rfl,rfl⟩,λh=>⟨(i+1,L,c),⟨h1,hL,?_⟩,?_,rfl,rfl,rfl⟩⟩
   ·rw[z0j,List.length_drop,z0j];omega
   ·simp only;omega
   ·simp only;omega
   ·simp only;rw[if_pos (show good (cut L i)=true from h)] at hp
    rw[<- hp,hc]
    congr 1;omega
   ·simp only;omega
   ·rw[if_neg (by show ¬ good (cut L i)=true;unfold good;rw[h];simp)] at hp
    exact hp
   ·simp only;omega
  ·have h1':¬ (i:Int)<L.length:=by omega
   unfold afN;simp only[go_sem,seval,h1'];rw[show L.length - i=0 by omega,gB] at hp
   obtain⟨j,q1,q2,q3,q4⟩:=Rk hM hm;rw[<- hp] at q3 q4;exact⟨j,q1,q2,q3,q4⟩
 |false=>
  unfold afO;simp only[go_sem,seval];unfold arj;simp only[go_sem,seval];rw[<- hm];rfl
end Go.Proofs.YtgnaipcjbmhihaaGreatDoor.Sk
end
end
namespace Go.Proofs.YtgnaipcjbmhihaaGreatDoor.Dk
open D Tx Tr Rc Fu Fa St Rg Sk Ah Ps
theorem lZ{n:Nat}(h:n<1000000):okI (n:Int):=⟨by omega,by omega⟩
theorem Za{l:List Ev}{i:Nat}(hi:i<1000):∀ j,j<=1000->∀ r∈jD l i j,QO r
 |0,_,r,h=>by cases h
 |j+1,hj,r,h=>by
  rw[jD,z06] at h;rcases h with h|h
  ·exact Za hi j (by omega) r h
  ·split at h
   ·cases h
   ·rw[z0a] at h;subst h;exact⟨lZ (by omega),lZ (by omega)⟩
theorem Zb{l:List Ev}(hl:l.length<=1000):∀ i,i<=1000->∀ r∈nN l i,QO r
 |0,_,r,h=>by cases h
 |i+1,hi,r,h=>by
  rw[nN,z06] at h;rcases h with h|h
  ·exact Zb hl i (by omega) r h
  ·exact Za (by omega) _ hl r h
theorem QS{l:List Ev}(h:(aF l).2=0):∀ r∈aU l,QO r:=Zb (by have:=bP h;omega) _ (by have:=bP h;omega)
theorem LK{l:List Ev}(h:(aF l).2=0):(aU l).length<=6400:=by
 have hl:=bP h;have:∀ i,(nN l i).length<=i*l.length:=by
  intro i
  induction i with
  |zero=>exact Nat.zero_le _
  |succ i ih=>
   rw[nN,z01,Nat.succ_mul];have:=yF (l:=l) (i:=i) l.length;omega
 have h1:=this l.length;have h2:l.length*l.length<=80*80:=z1q hl hl;exact z0k h1 h2
theorem Oa{l:List Ev}(hl:l.length<=1000):∀ j,j<=l.length->∀ f∈jE l j,yG f
 |0,_,f,h=>by cases h
 |j+1,hj,f,h=>by
  rw[jE,z06] at h;rcases h with h|h
  ·exact Oa hl j (by omega) f h
  ·split at h
   ·rename_i hk;rw[z0a] at h;subst h;refine⟨lZ (by omega),?_⟩
    rcases Bl (show j<l.length by omega) with⟨h1,_⟩|⟨⟨i,_,_,hk2⟩,_⟩
    ·omega
    ·show okI (xQ l j);rw[<- hk2,jQ];split
     ·exact⟨by omega,by omega⟩
     ·split<;>exact⟨by omega,by omega⟩
   ·cases h
theorem afa{l:List Ev}{x:Nat}:∀ j,j<=1000->∀ f∈flW l x j,yG f
 |0,_,f,h=>by cases h
 |j+1,hj,f,h=>by
  rw[flW,z06] at h;rcases h with h|h
  ·exact afa j (by omega) f h
  ·split at h
   ·cases h
   ·rw[z0a] at h;subst h;refine⟨lZ (by omega),?_⟩
    show okI (CB l x (qh l x j) j);unfold CB
    repeat' split
    all_goals exact⟨by omega,by omega⟩
theorem Vx{l:List Ev}(hl:l.length<=1000):∀ x,∀ f∈Hg l x,yG f
 |0,f,h=>by cases h
 |x+1,f,h=>by
  rw[Hg,z06] at h;rcases h with h|h
  ·exact Vx hl x f h
  ·exact afa _ hl f h
theorem Ob{l:List Ev}{F:List Fl}(hF:∀ f∈F,yG f):∀ j,∀ f∈outA l F j,yG f
 |0,f,h=>by cases h
 |j+1,f,h=>by
  rw[outA,z06] at h;rcases h with h|h
  ·exact Ob hF j f h
  ·exact hF f (List.mem_filter.1 h).1
theorem afc(l:List Ev):∀ i,i<=1000->∀ f∈(Gu.RS l i).2,yG f
 |0,_,f,h=>by cases h
 |i+1,hi,f,h=>by
  have ih:=afc l i (by omega)
  rw[Gu.RS] at h;split at h
  ·simp only[Gu.xR] at h;split at h
   ·rw[z06] at h;rcases h with h|h
    ·exact ih f h
    ·rw[z0a] at h;subst h;exact⟨lZ (by omega),lZ (n:=0) (by omega)⟩
   ·exact ih f h
  ·exact ih f h
theorem LM{f:List Int->Bool}:∀ {L:List (List Int)} {r:List Int},eY f L=some r->r∈L
 |[],_,h=>by cases h
 |x::L,r,h=>by
  rw[eY] at h;split at h
  ·cases h;exact z0g
  ·exact z0n _ (LM h)
theorem vw{α:Type}{f:Nat->Option α}:∀ {n k:Nat} {r:α},scan f k n=some r->∃ m,k<=m/\m<k+n/\f m=some r
 |0,k,r,h=>by cases h
 |n+1,k,r,h=>by
  rw[scan] at h;split at h
  ·rename_i r' hr;cases h;exact⟨k,z08 _,by omega,hr⟩
  ·obtain⟨m,h1,h2,h3⟩:=vw h;exact⟨m,by omega,by omega,h3⟩
theorem Zc{p:List Pr}{r:List Int}(h:yH p=some r):r.length<=5/\∀ x∈r,okI x:=by
 unfold yH at h;split at h
 ·cases h
 ·rw[CG] at h;obtain⟨m,_,h2,h3⟩:=vw h;obtain⟨k1,k2⟩:=vC (LM h3);refine⟨by omega,λx hx=> ?_⟩
  have:0<=x/\x<5:=k2 x hx;exact⟨this.1,by omega⟩
theorem QT(p:Nat->Nat->Bool){i:Nat}(hi:i<5):∀ j,j<=5->∀ x∈rowP p i j,qU x=false
 |0,_,x,h=>by cases h
 |j+1,hj,x,h=>by
  rw[rowP,z06] at h;rcases h with h|h
  ·exact QT p hi j (by omega) x h
  ·split at h
   ·rw[z0a] at h;subst h;simp only[qU,z0y,decide_eq_false_iff_not];omega
   ·cases h
theorem QU(p:Nat->Nat->Bool):∀ i,i<=5->∀ x∈fD p 5 i,qU x=false
 |0,_,x,h=>by cases h
 |i+1,hi,x,h=>by
  rw[fD,z06] at h;rcases h with h|h
  ·exact QU p i (by omega) x h
  ·exact QT p (by omega) 5 (z08 _) x h
theorem aaH(l:List Ev):Vy (fD (Gr.gQ l) 5 5)=0:=by rw[Vy,if_neg];intro h;obtain⟨x,h1,h2⟩:=z18.1 h;rw[QU _ 5 (z08 _) x h1] at h2;cases h2
def stB(l:List Ev)(j:Nat):List Int:=(z1j 6).map λu=>cw l (Eu l j) u l.length
theorem afd{l:List Ev}(hl:l.length<=1000)(j:Nat):∀ x∈stB l j,okI x:=by intro x hx;obtain⟨u,_,rfl⟩:=z15.1 hx;rw[Vz l _ u _ hl];have:=zW (l:=l) (S:=λi=>Eu l j i=true) (u:=u) l.length;exact lZ (by omega)
theorem VA{l:List Ev}(h:(aF l).2=0):(l9 l).length=l.length:=by
 have hp:(aK l).2.2=0:=by rw[iE];exact h
 rw[l9,if_pos hp,stL,jI]
theorem VB{l:List Ev}(h:(aF l).2=0){j:Nat}(hj:j<l.length):(z1j 6).map ((l9 l).getD j bU.aI)=stB l j:=by
 have hp:(aK l).2.2=0:=by rw[iE];exact h
 rw[l9,if_pos hp,stL,fO hj,stB];exact z0h λu hu=>aaI h hj (z1p.1 hu)
theorem Fg{l:List Ev}{j:Nat}(hj:j<l.length):(z1j 6).map ((ou l).getD j bU.aI)=stB l j:=by rw[ou,fO hj,stB]
theorem aaJ{l:List Ev}(h:(aF l).2=0):KT l=jE l l.length:=by
 have hp:(aK l).2.2=0:=by rw[iE];exact h
 rw[KT,if_pos hp];exact QV h (z08 _)
theorem Ew{l:List Ev}(h:(aF l).2=0):uf l=outA l (Hg l 8) l.length:=by
 have hp:(aK l).2.2=0:=by rw[iE];exact h
 rw[uf,if_pos hp];exact QW h (z08 _)
end Go.Proofs.YtgnaipcjbmhihaaGreatDoor.Dk
namespace Go.Proofs.YtgnaipcjbmhihaaGreatDoor.Dk
open D Tx Tr Rc Fu Fa St Rg Sk Ah Ps
def dD:DT (List Ev):=(DT.st (DL.cons dw DL.nil)).Fv (λx=>x.1) (λl=>(l,())) (λ_=>rfl) (λ_=>rfl)
theorem ayF(l:List Ev):dD.aA l= .agg [.lst 3 aO.aI aO.aA l]:=nr rfl
theorem avg(m:List ay)(x:SV):dD.aG m (.agg [x])=dw.aG m x:=nr rfl
theorem avh(m:List ay)(x:SV):dD.decP m (.agg [x])=(dw.decP m x/\True):=nr rfl
attribute [go_sem] ayF avg avh
abbrev KQ(l:List Ev):List ay:=[.blk 31 (dD.aA l)]
def tV(e:Int):SV:= .iface 38 (.agg [.int .i64 e])
theorem Z4(r:Nat->Option Nat)(e:Int):ren r (tV e)=tV e:=nr (by simp only[tV,ren,dW])
def j28:PC:=(.seq (.leaf (.ops<|o7 2 0<|qC 3 2 0<|.nil)) (.cond (.t 3) (.OD (o7 4 0<|qo 5 (.lF (.agg [(.int .i64 0)]) [([.eG 0],0,1,(.t 4))])<|qo 6 (.EF 38 (.t 5))<|.nil) (.t 6)) (.leaf .skip)))
theorem c28:fnP Tryz.prog qall 28 j28=some (j28.flat,[],7):=by kernel_rfl
theorem w28:j28.wf 7=true:=by kernel_rfl
theorem Z5:OE Tryz.prog GT .returned 28 [.int .i64 0] [] (.bK []) []:=by refine pO sF c28 w28 FH.none_ok rfl ?_;unfold j28;simp only[go_sem,seval]
theorem aoq{e:Int}(he:e≠0):OE Tryz.prog GT Sx.OD 28 [.int .i64 e] [] (tV e) []:=by refine nV sF c28 w28 FH.none_ok rfl ?_;unfold j28;simp only[go_sem,seval,he,tV]
theorem gy{e:Int}{m:List ay}{K R:SV->List ay->Prop}(h0:e=0->K (.bK []) m)(h1:e≠0->R (tV e) m):OG Tryz.prog GT 28 [.int .i64 e] m K R:=by
 refine⟨by kernel_rfl,?_⟩
 by_cases he:e=0
 ·subst he;refine .inl ⟨.bK [],m,?_,h0 rfl⟩;have:=wV (m:=m) (args:=[.int .i64 0]) sF Z5 rfl;simpa[ren,dW] using this
 ·refine .inr ⟨tV e,m,?_,h1 he⟩;have:=wV (m:=m) (args:=[.int .i64 e]) sF (aoq he) rfl;rw[Z4] at this;simpa using this
abbrev Ans:=Int×By×List Ev
def zx(f:FuncId)(x:SV)(l:List Ev)(r:Ans):Prop:=
 (r.1=0->OE Tryz.prog GT .returned f [.ptr 0 [] 0,x] (KQ l) (.str r.2.1) (KQ r.2.2))/\(r.1≠0->OE Tryz.prog GT Sx.OD f [.ptr 0 [] 0,x] (KQ l) (tV r.1) (KQ l))
theorem xC{f:FuncId}{x:SV}{l l':List Ev}{s:By}(h:FnOK Tryz.prog f [.ptr 0 [] 0,x] (KQ l) (.str s) (KQ l')):zx f x l (0,s,l'):=⟨λ_=>h.g GT,λh=>absurd rfl h⟩
theorem CU{l:List Ev}(h:(aF l).2=0):(aK l).2.2=0:=by rw[iE];exact h
theorem ah8{l:List Ev}(h:(aF l).2=0):Dv l=aU l:=by rw[Dv,if_pos (CU h)]
def j17:JC:=(qN (qI 4 []<|.nil) (qN (o7 8 0<|oQ 9 8<|oD 10 0 0 9<|o9 11 1 10<|oM 12 53 11<|o7 7 12<|qL [7]<|oN 13 0 7<|oN 14 1 7<|o7 5 13<|o7 6 14<|.nil) (qM [6,5] (qN (o7 15 6<|oM 16 28 15<|.nil) (qN (o7 17 5<|eo 18 (.call 54 [(.t 17),(.c (.fn 55 []))])<|o7 4 18<|.nil) .ret)))))
def Gmr(f:FuncId)(a:List SV)(m:List ay):Sx.Call:=(FH.mk 53 (.one dw) (λ_=>True) (λy=> .bK [.vec 0 (Dv y.1).length, .int .i64 (aK y.1).2.2]) (λy=>[.vec 67 4 ((Dv y.1).map kZ.aA)])<|
 FH.rd 28 (.one .int) .unit (λy=>y.1=0) (λ_=>())<|
 FH.rd 54 (.two atq .fnc) (.one .str) (λy=>y.2.1=55/\y.1.length<=10000/\∀ x∈y.1,QO x) (λy=>eP Vs y.1) FH.none) f a m
theorem avi:type_of% (nq Gmr.eq_1):=nq Gmr.eq_1
theorem H9(y:Int)(h:y=0):FnOK Tryz.prog 28 [.int .i64 y] [] (.bK []) []:=by subst h;exact Z5.ok
theorem ZV{r:Rc}(h:QO r):(Vs r).length<=50:=by have:=dR h.1;have:=dR h.2;simp only[Vs,z01,z0d];omega
theorem Z7{r:Fl}(h:yG r):(QK r).length<=50:=by have:=dR h.1;have:=dR h.2;simp only[QK,z01,z0d];omega
theorem avj:aW Tryz.prog Gmr:=FH.eu (λy _=>cZ (fU ⟨fE _ _,fF _ _,trivial⟩) ⟨bY _ _ kZ _,trivial⟩) (λy _=>arQ y.1)<|
 FH.aT (λy h=>H9 y.1 h)<|FH.aT (λy h=>by obtain⟨l,f,u⟩:=y;obtain⟨h1,h2,h3⟩:=h;simp only at h1 h2 h3;subst h1;exact anz l h2 h3 λx hx=>ZV (h3 x hx)) FH.none_ok
theorem aor(l:List Ev)(n:List Int)(h:(aF l).2=0):FnOK Tryz.prog 17 [.ptr 0 [] 0,wM.aA n] (KQ l) (.str (eP Vs (aU l))) (KQ l):=by have h1:=LK h;have h2:=QS h;refine fn_walkA j17 [.tmp 4] 19 avj rfl ?_;unfold j17;simp only[go_sem,seval,avi,dK,CU h,ah8 h];exact⟨⟨by omega,h2⟩,rfl⟩
def j18:JC:=(qN (qI 4 []<|.nil) (qN (o7 8 0<|oQ 9 8<|oD 10 0 0 9<|o9 11 1 10<|oM 12 56 11<|o7 7 12<|qL [7]<|oN 13 0 7<|oN 14 1 7<|o7 5 13<|o7 6 14<|.nil) (qM [6,5] (qN (o7 15 6<|oM 16 28 15<|.nil) (qN (o7 17 5<|eo 18 (.call 57 [(.t 17),(.c (.fn 58 []))])<|o7 4 18<|.nil) .ret)))))
def Gmf(f:FuncId)(a:List SV)(m:List ay):Sx.Call:=(FH.mk 56 (.one dw) (λ_=>True) (λy=> .bK [.vec 0 (KT y.1).length, .int .i64 (aK y.1).2.2]) (λy=>[.vec 110 3 ((KT y.1).map jL.aA)])<|
 FH.mk 59 (.one dw) (λ_=>True) (λy=> .bK [.vec 0 (uf y.1).length, .int .i64 (aK y.1).2.2]) (λy=>[.vec 110 3 ((uf y.1).map jL.aA)])<|
 FH.rd 28 (.one .int) .unit (λy=>y.1=0) (λ_=>())<|
 FH.rd 57 (.two abj .fnc) (.one .str) (λy=>y.2.1=58/\y.1.length<=10000/\∀ x∈y.1,yG x) (λy=>eP QK y.1) FH.none) f a m
theorem ah9:type_of% (nq Gmf.eq_1):=nq Gmf.eq_1
theorem ah':aW Tryz.prog Gmf:=FH.eu (λy _=>cZ (fU ⟨fE _ _,fF _ _,trivial⟩) ⟨bY _ _ jL _,trivial⟩) (λy _=>Fu.agj y.1)<|
 FH.eu (λy _=>cZ (fU ⟨fE _ _,fF _ _,trivial⟩) ⟨bY _ _ jL _,trivial⟩) (λy _=>auE y.1)<|
 FH.aT (λy h=>H9 y.1 h)<|FH.aT (λy h=>by obtain⟨l,f,u⟩:=y;obtain⟨h1,h2,h3⟩:=h;simp only at h1 h2 h3;subst h1;exact anA l h2 h3 λx hx=>Z7 (h3 x hx)) FH.none_ok
theorem avk(l:List Ev)(n:List Int)(h:(aF l).2=0):FnOK Tryz.prog 18 [.ptr 0 [] 0,wM.aA n] (KQ l) (.str (eP QK (jE l l.length))) (KQ l):=by
 have hl:=bP h;have h1:=Ap (l:=l) l.length;have h2:=Oa (l:=l) (by omega) l.length (z08 _)
 refine fn_walkA j18 [.tmp 4] 19 ah' rfl ?_;unfold j18;simp only[go_sem,seval,ah9,dK,CU h,aaJ h];exact⟨⟨by omega,h2⟩,rfl⟩
def j19:JC:=(qN (qI 4 []<|.nil) (qN (o7 8 0<|oQ 9 8<|oD 10 0 0 9<|o9 11 1 10<|oM 12 59 11<|o7 7 12<|qL [7]<|oN 13 0 7<|oN 14 1 7<|o7 5 13<|o7 6 14<|.nil) (qM [6,5] (qN (o7 15 6<|oM 16 28 15<|.nil) (qN (o7 17 5<|eo 18 (.call 57 [(.t 17),(.c (.fn 58 []))])<|o7 4 18<|.nil) .ret)))))
theorem avl(l:List Ev)(n:List Int)(h:(aF l).2=0):FnOK Tryz.prog 19 [.ptr 0 [] 0,wM.aA n] (KQ l) (.str (eP QK (outA l (Hg l 8) l.length))) (KQ l):=by
 have hl:=bP h;have h1:(outA l (Hg l 8) l.length).length<=10000:=by rw[<- Ew h,uf,if_pos (CU h)];have:=Aa (l:=l) l.length;omega
 have h2:=Ob (l:=l) (Vx (l:=l) (by omega) 8) l.length
 refine fn_walkA j19 [.tmp 4] 19 ah' rfl ?_;unfold j19;simp only[go_sem,seval,ah9,dK,CU h,Ew h];exact⟨⟨by omega,h2⟩,rfl⟩
def j20:JC:=(qN (qI 4 []<|.nil) (qN (o7 8 0<|oQ 9 8<|oD 10 0 0 9<|o9 11 1 10<|oM 12 60 11<|o7 7 12<|qL [7]<|oN 13 0 7<|oN 14 1 7<|o7 5 13<|o7 6 14<|.nil) (qM [6,5] (qN (o7 15 6<|oM 16 28 15<|.nil) (qN (o7 17 5<|eo 18 (.call 57 [(.t 17),(.c (.fn 61 []))])<|o7 4 18<|.nil) .ret)))))
def Gmw(f:FuncId)(a:List SV)(m:List ay):Sx.Call:=(FH.mk 60 (.one dw) (λy=>(aF y.1).2=0) (λy=> .bK [.vec 0 (Gu.RS y.1 y.1.length).2.length, .int .i64 0]) (λy=>[.vec 110 3 ((Gu.RS y.1 y.1.length).2.map jL.aA)])<|
 FH.rd 28 (.one .int) .unit (λy=>y.1=0) (λ_=>())<|
 FH.rd 57 (.two abj .fnc) (.one .str) (λy=>y.2.1=61/\y.1.length<=10000/\∀ x∈y.1,yG x) (λy=>eP waB y.1) FH.none) f a m
theorem avm:type_of% (nq Gmw.eq_1):=nq Gmw.eq_1
theorem avn:aW Tryz.prog Gmw:=FH.eu (λy _=>cZ (fU ⟨fE _ _,fF _ _,trivial⟩) ⟨bY _ _ jL _,trivial⟩) (λy h=>Gu.aos y.1 (CU h))<|
 FH.aT (λy h=>H9 y.1 h)<|FH.aT (λy h=>by obtain⟨l,f,u⟩:=y;obtain⟨h1,h2,h3⟩:=h;simp only at h1 h2 h3;subst h1;exact anB l h2 h3 λx hx=>z0k (dR (h3 x hx).1) (by omega)) FH.none_ok
theorem aot(l:List Ev)(n:List Int)(h:(aF l).2=0):FnOK Tryz.prog 20 [.ptr 0 [] 0,wM.aA n] (KQ l) (.str (eP waB (Gu.RS l l.length).2)) (KQ l):=by
 have hl:=bP h;have h1:=Gu.Ph l l.length;have h2:=afc l l.length (by omega)
 refine fn_walkA j20 [.tmp 4] 19 avn rfl ?_;unfold j20;simp only[go_sem,seval,avm,dK,h];exact⟨⟨by omega,h2⟩,rfl⟩
def j23:JC:=(qN (qI 4 []<|.nil) (qN (o7 9 0<|oQ 10 9<|oD 11 0 0 10<|o9 12 1 11<|oM 13 65 12<|o7 8 13<|qL [8]<|oN 14 0 8<|oN 15 1 8<|o7 5 14<|o7 6 15<|.nil) (.jg 5 Oj.gq<| .prune [6,5] (qN (o7 16 6<|oM 17 28 16<|.nil) (qN (o7 19 5<|oM 20 66 19<|o7 18 20<|qL [18]<|oN 21 0 18<|oN 22 1 18<|o7 7 21<|o7 6 22<|.nil) (qM [6,7] (qN (o7 23 6<|oM 24 28 23<|.nil) (qN (o7 25 7<|eo 26 (.call 64 [(.t 25),(.c (.fn 12 []))])<|o7 4 26<|.nil) .ret))))))))
def au'(o:Option (List Int)):By:=eP eF (o.getD [])
def dNI:DP (Option (List Int)×Int):=⟨λy=> .bK [Ey.aA y.1, .int .i64 y.2],λr y=>by simp only[Sx.ren,dW,Ey.ren]⟩
theorem H8(o:Option (List Int))(e:Int):dNI.aA (o,e)= .bK [Ey.aA o, .int .i64 e]:=nr rfl
def Gmg(f:FuncId)(a:List SV)(m:List ay):Sx.Call:=(FH.mk 65 (.one dw) (λ_=>True) (λy=> .bK [.vec 0 (Gr.yQ y.1).length, .int .i64 (aK y.1).2.2]) (λy=>[.vec 131 2 ((Gr.yQ y.1).map jo.aA)])<|
 FH.pz 66 (.one Oj) dNI (λ_=>True) (λy=>(A8 y.1,Vy y.1))<|
 FH.rd 28 (.one .int) .unit (λy=>y.1=0) (λ_=>())<|
 FH.rd 64 (.two wM .fnc) (.one .str) (λy=>y.2.1=12/\y.1.length<=10000/\∀ x∈y.1,okI x) (λy=>eP eF y.1) FH.none) f a m
theorem aia:type_of% (nq Gmg.eq_1):=nq Gmg.eq_1
theorem Ti(y:List Int×Nat×Unit)(h:y.2.1=12/\y.1.length<=10000/\∀ x∈y.1,okI x):FnOK Tryz.prog 64 ((DA.two wM DT.fnc).aA y) [] ((DR.one DT.str).aA (eP eF y.1)) []:=by obtain⟨l,f,u⟩:=y;obtain⟨h1,h2,h3⟩:=h;simp only at h1 h2 h3;subst h1;exact anC l h2 h3 λx hx=>z0k (dR (h3 x hx)) (by omega)
theorem avo:aW Tryz.prog Gmg:=FH.eu (λy _=>cZ (fU ⟨fE _ _,fF _ _,trivial⟩) ⟨bY _ _ jo _,trivial⟩) (λy _=>Gr.amX y.1)<|
 FH.oq (λy _=>avp y.1)<|FH.aT (λy h=>H9 y.1 h)<|FH.aT (λy h=>Ti y h) FH.none_ok
theorem avq(l:List Ev)(n:List Int)(h:(aF l).2=0):FnOK Tryz.prog 23 [.ptr 0 [] 0,wM.aA n] (KQ l) (.str (au' (A8 (fD (Gr.gQ l) 5 5)))) (KQ l):=by
 have hg:Gr.yQ l=fD (Gr.gQ l) 5 5:=by rw[Gr.yQ,if_pos (CU h)]
 have he:=aaH l;refine fn_walkA j23 [.tmp 4] 27 avo rfl ?_;unfold j23;cases ho:A8 (fD (Gr.gQ l) 5 5) with
 |none=>
  simp only[go_sem,seval,aia,dK,CU h,hg,he,H8,ho,EL];exact⟨λx hx=>(by cases hx),rfl,rfl⟩
 |some r=>
  obtain⟨r1,r2⟩:=Zc (p:=fD (Gr.gQ l) 5 5) (r:=r) (by rw[(MV _).1];exact ho)
  simp only[go_sem,seval,aia,dK,CU h,hg,he,H8,ho,EM];exact⟨⟨by omega,r2⟩,rfl,rfl⟩
def j26:JC:=(qN (qI 4 []<|.nil) (qN (o7 5 0<|oQ 6 5<|oD 7 0 0 6<|o9 8 1 7<|oP 9 8<|oM 10 12 9<|o7 4 10<|.nil) .ret))
theorem m_size(l:List Ev)(n:List Int)(h:(aF l).2=0):FnOK Tryz.prog 26 [.ptr 0 [] 0,wM.aA n] (KQ l) (.str (eF l.length)) (KQ l):=by
 have hl:=bP h;have ho:okI (l.length:Int):=lZ (by omega)
 refine fn_walkA j26 [.tmp 4] 11 OV rfl ?_;unfold j26;simp only[go_sem,seval,OU,ho];rfl
def j27:JC:=(qN (qI 4 []<|.nil) (qN (o7 5 0<|oQ 6 5<|oD 7 0 0 6<|en (.store 1 (.t 7) (.c .bF))<|.nil) (qN (qI 4 [111,107]<|.nil) (.Bz 0 dD.gq .ret))))
theorem aou(l:List Ev)(n:List Int):FnOK Tryz.prog 27 [.ptr 0 [] 0,wM.aA n] (KQ l) (.str [111,107]) (KQ []):=by refine fn_walkA j27 [.tmp 4] 8 FH.none_ok rfl ?_;unfold j27;simp only[go_sem,seval];rfl
def aib:JC:=(.bJ<|o7 8 0<|oQ 9 8<|oD 10 0 0 9<|o9 11 1 10<|o7 12 1<|qB 13 1 12 0<|qL [13,1,11]<|o9 14 1 13<|o7 15 1<|qB 16 1 15 1<|o9 17 1 16<|qL [11,14,17]<|eo 18 (.gW 62 [(.t 11),(.t 14),(.t 17)])<|o7 7 18<|oN 19 0 7<|oN 20 1 7<|o7 5 19<|o7 6 20<|.nil)
def j21:PC:=(.seq (.leaf (.ops<|qI 4 []<|.nil)) (.seq (.leaf aib) (.prune [6,5] (.seq (.aC (o7 21 6<|.nil) (some 22) (.fn 28) [(.t 21)] (.nil)) (.leaf (.seq (.seq (.ops<|o7 23 5<|.nil) (.cond (.t 23) (.seq (.ops<|qI 4 [121,101,115]<|.nil) .ret) .skip)) (.seq (.ops<|qI 4 [110,111]<|.nil) .ret)))))))
theorem c21:fnP Tryz.prog qall 21 j21=some (j21.flat,[.tmp 4],24):=by kernel_rfl
theorem w21:j21.wf 24=true:=by kernel_rfl
def Gml(f:FuncId)(a:List SV)(m:List ay):Sx.Call:=(FH.rd 62 (.three dw .int .int) (.two .bool .int) (λ_=>True) (λy=>mD y.1 y.2.1 y.2.2.1) FH.none) f a m
theorem aic:type_of% (nq Gml.eq_1):=nq Gml.eq_1
theorem aie:aW Tryz.prog Gml:=FH.aT (λy _=>anw y.1 y.2.1 y.2.2.1) FH.none_ok
def Q5(b:Bool):By:=if b then[121,101,115] else[110,111]
theorem aov(l:List Ev)(a b:Int):zx 21 (wM.aA [a,b]) l ((mD l a b).2,Q5 (mD l a b).1,l):=by
 refine⟨λh=> ?_,λh=> ?_⟩
 ·refine pO sF c21 w21 aie rfl ?_;unfold j21;unfold aib;simp only at h;simp only[go_sem,seval,aic,z03,z04,z02,z0b,ah,z00,z07];refine gy (λ_=> ?_) (λh'=>absurd h h');simp only[go_sem,seval,z04,dF,z02,ah,z00];exact⟨λh2=>⟨by rw[Q5,if_pos h2],rfl⟩,λh2=>⟨by rw[Q5,h2];rfl,rfl⟩⟩
 ·refine nV sF c21 w21 aie rfl ?_;unfold j21;unfold aib;simp only at h;simp only[go_sem,seval,aic,z03,z04,z02,z0b,ah,z00,z07];refine gy (λh'=>absurd h' h) (λ_=> ?_);simp only[go_sem,seval,tV,z03,z04,dF,z02,ah,z00];rfl
def j22:PC:=(.seq (.leaf (.ops<|qI 4 []<|.nil)) (.seq (.leaf (.ops<|o7 8 0<|oQ 9 8<|oD 10 0 0 9<|o9 11 1 10<|oM 12 63 11<|o7 7 12<|qL [7,1]<|oN 13 0 7<|oN 14 1 7<|o7 5 13<|o7 6 14<|.nil)) (.jg 5 ZU.gq<| .prune [6,1,5] (.seq (.aC (o7 15 6<|.nil) (some 16) (.fn 28) [(.t 15)] (.nil)) (.seq (.seq (.leaf (.ops<|o7 17 1<|qB 18 1 17 0<|qL [18,5,1]<|o9 19 1 18<|o7 20 5<|oP 21 20<|qo 22 (.cmp .geq (.t 19) (.t 21))<|.nil)) (.prune [22,5,1] (.cond (.t 22) (.aC (.nil) (some 23) (.fn 28) [(I 1)] (.nil)) (.leaf .skip)))) (.prune [5,1] (.leaf (.seq (.ops<|o7 24 5<|o7 25 1<|qB 26 1 25 0<|o9 27 1 26<|oK 28 6 24 27<|qL [28]<|qo 29 (.asl 6 1 (.t 28))<|eo 30 (.call 64 [(.t 29),(.c (.fn 12 []))])<|o7 4 30<|.nil) .ret))))))))
theorem c22:fnP Tryz.prog qall 22 j22=some (j22.flat,[.tmp 4],31):=by kernel_rfl
theorem w22:j22.wf 31=true:=by kernel_rfl
def Gms(f:FuncId)(a:List SV)(m:List ay):Sx.Call:=(FH.mk 63 (.one dw) (λ_=>True) (λy=> .bK [.vec 0 (l9 y.1).length, .int .i64 (aK y.1).2.2]) (λy=>[.vec 70 6 ((l9 y.1).map bU.aA)])<|
 FH.rd 64 (.two wM .fnc) (.one .str) (λy=>y.2.1=12/\y.1.length<=10000/\∀ x∈y.1,okI x) (λy=>eP eF y.1) FH.none) f a m
theorem Pq:type_of% (nq Gms.eq_1):=nq Gms.eq_1
theorem aif:aW Tryz.prog Gms:=FH.eu (λy _=>cZ (fU ⟨fE _ _,fF _ _,trivial⟩) ⟨bY _ _ bU _,trivial⟩) (λy _=>aii y.1)<|
 FH.aT (λy h=>Ti y h) FH.none_ok
theorem aow(l:List Ev)(a:Int)(h0:0<=a)(h:(aF l).2=0):zx 22 (wM.aA [a]) l (if a<l.length then(0,eP eF (stB l a.toNat),l) else(1,[],l)):=by
 have hl:=bP h;have hs:=VA h;by_cases ha:a<l.length
 ·rw[if_pos ha];refine⟨λ_=> ?_,λh=>absurd rfl h⟩;refine pO sF c22 w22 aif rfl ?_;unfold j22;simp only[go_sem,seval,Pq,CU h,dK,z03,z04,z0c,z09,dF,z02,z0b,ah,z00,z07];refine gy (λ_=> ?_) (λh'=>absurd rfl h');simp only[go_sem,seval,Pq,DW,z04,dF,z02,ah,z00];refine⟨λh'=>by omega,λ_=>⟨⟨by omega,by omega⟩,?_⟩⟩
  have hj:a.toNat<l.length:=by omega
  have e:List.map (λy=>(l9 l).getD a.toNat bU.aI y) (rng 6)=stB l a.toNat:=by rw[<- VB h hj];rfl
  rw[e];exact⟨⟨by rw[Pv];omega,afd (by omega) _⟩,rfl,rfl⟩
 ·rw[if_neg ha];refine⟨λh=>absurd h (by simp),λ_=> ?_⟩
  refine nV sF c22 w22 aif rfl ?_;unfold j22;simp only[go_sem,seval,Pq,CU h,dK,z03,z04,z0c,z09,dF,z02,z0b,ah,z00,z07];refine gy (λ_=> ?_) (λh'=>absurd rfl h');simp only[go_sem,seval,Pq,DW,z04,z02,z00];refine⟨λ_=>gy (λh'=>absurd h' (by decide)) (λ_=> ?_),λh'=>by omega⟩
  simp only[go_sem,seval,tV,z03,z04,dF,z02,ah,z00];rfl
def aij:JC:=(.bJ<|o7 8 0<|oQ 9 8<|oD 10 0 0 9<|o9 11 1 10<|o7 12 1<|qB 13 1 12 0<|qL [13,11,0]<|o9 14 1 13<|qE 15 67 11 14<|o7 7 15<|oN 16 0 7<|qL [7,16,0]<|oN 17 1 7<|o7 5 16<|o7 6 17<|.nil)
def j24:PC:=(.seq (.leaf (.ops<|qI 4 []<|.nil)) (.seq (.leaf aij) (.jg 5 dw.gq<| .prune [6,0,5] (.seq (.aC (o7 18 6<|.nil) (some 19) (.fn 28) [(.t 18)] (.nil)) (.leaf (.seq (.ops<|o7 20 0<|o7 21 5<|qL [20,21]<|oQ 22 20<|oD 23 0 0 22<|oG 1 23 21<|.nil) (.prune [] (.seq (.ops<|qI 4 [111,107]<|.nil) .ret))))))))
theorem c24:fnP Tryz.prog (aaW [67]) 24 j24=some (j24.flat,[.tmp 4],24):=by kernel_rfl
theorem w24:j24.wf 24=true:=by kernel_rfl
def Gmd(f:FuncId)(a:List SV)(m:List ay):Sx.Call:=(FH.mk 67 (.two dw .int) (λ_=>True) (λy=> .bK [.vec 0 (gV y.1 y.2.1).1.length, .int .i64 (gV y.1 y.2.1).2]) (λy=>[.vec 56 3 ((gV y.1 y.2.1).1.map aO.aA)]) FH.none) f a m
theorem aik:type_of% (nq Gmd.eq_1):=nq Gmd.eq_1
theorem ail:aW Tryz.prog Gmd:=FH.eu (λy _=>cZ (fU ⟨fE _ _,fF _ _,trivial⟩) ⟨bY _ _ aO _,trivial⟩) (λy _=>aaZ y.1 y.2.1) FH.none_ok
theorem avr(l:List Ev)(a:Int):zx 24 (wM.aA [a]) l ((gV l a).2,[111,107],(gV l a).1):=by
 refine⟨λh=> ?_,λh=> ?_⟩
 ·refine pO sF c24 w24 ail rfl ?_;unfold j24;unfold aij;simp only at h;simp only[go_sem,seval,aik,dK,z03,z04,z0c,z09,dF,z02,z0b,ah,z00,z07];refine gy (λ_=> ?_) (λh'=>absurd h h');simp only[go_sem,seval,z03,z04,z09,dF,z02,z0b,ah,z00];rfl
 ·refine nV sF c24 w24 ail rfl ?_;unfold j24;unfold aij;simp only at h;simp only[go_sem,seval,aik,dK,z03,z04,z0c,z09,dF,z02,z0b,ah,z00,z07];refine gy (λh'=>absurd h' h) (λ_=> ?_);simp only[go_sem,seval,tV,z03,z04,dF,z02,ah,z00];rfl
def j25:PC:=(.seq (.leaf (.ops<|qI 4 []<|.nil)) (.seq (.leaf (.ops<|o7 8 0<|oQ 9 8<|oD 10 0 0 9<|o9 11 1 10<|oM 12 68 11<|o7 7 12<|qL [7]<|oN 13 0 7<|oN 14 1 7<|o7 5 13<|o7 6 14<|.nil)) (.prune [6,5] (.seq (.aC (o7 15 6<|.nil) (some 16) (.fn 28) [(.t 15)] (.nil)) (.leaf (.seq (.ops<|o7 17 5<|oP 18 17<|oM 19 12 18<|o7 4 19<|.nil) .ret))))))
theorem c25:fnP Tryz.prog qall 25 j25=some (j25.flat,[.tmp 4],20):=by kernel_rfl
theorem w25:j25.wf 20=true:=by kernel_rfl
def Gmm(f:FuncId)(a:List SV)(m:List ay):Sx.Call:=(FH.pz 68 (.one amY) (DP.two amY .int) (λ_=>True) (λy=>Rl y.1)<|
 FH.rd 12 (.one .int) (.one .str) (λy=>okI y.1) (λy=>eF y.1) FH.none) f a m
theorem WT:type_of% (nq Gmm.eq_1):=nq Gmm.eq_1
theorem ain:aW Tryz.prog Gmm:=FH.oq (λy _=>ax6 y.1)<|FH.aT (λy h=>Hy y.1 h) FH.none_ok
theorem DJ(l:List Ev):(rZ l).length<=l.length:=by
 have hp:=(nT l.length 0 l false (by omega)).1
 by_cases h:(gB l.length 0 l false).2=true
 ·rw[Rj h];have:=(nT l.length 0 l false (by omega)).2 h
  have this:(gB l.length 0 l false).1.length<l.length:=by simpa using this
  exact z0k (DJ (gB l.length 0 l false).1) hp
 ·rw[Zv h];exact hp
termination_by l.length
theorem ayG(l:List Ev)(n:List Int)(h:(aF l).2=0):zx 25 (wM.aA n) l (if racy l=true then(0,eF (rZ l).length,l) else(7,[],l)):=by
 have hl:=bP h;by_cases hr:racy l=true
 ·rw[if_pos hr];refine⟨λ_=> ?_,λh=>absurd rfl h⟩;refine pO sF c25 w25 ain rfl ?_;unfold j25;have hmo:Rl (some l)=(some (rZ l),0):=by unfold Rl;rw[if_pos (show(aF ((some l).getD [])).2=0 from h),if_pos (show racy ((some l).getD [])=true from hr)];rfl
  have hml:=DJ l;have ho:okI ((rZ l).length:Int):=lZ (by omega)
  simp only[go_sem,seval,WT,hmo,z03,z04,z02,z0b,ah,z00,z07];refine gy (λ_=> ?_) (λh'=>absurd rfl h');simp only[go_sem,seval,WT,ho,z04,dF,z02,ah,z00];rfl
 ·rw[if_neg hr];refine⟨λh=>absurd h (by simp),λ_=> ?_⟩
  refine nV sF c25 w25 ain rfl ?_;unfold j25;have hmo:Rl (some l)=(none,7):=by unfold Rl;rw[if_pos (show(aF ((some l).getD [])).2=0 from h),if_neg (show ¬ racy ((some l).getD [])=true from hr)]
  simp only[go_sem,seval,WT,hmo,z03,z04,z02,z0b,ah,z00,z07];refine gy (λh'=>absurd h' (by decide)) (λ_=> ?_)
  simp only[go_sem,seval,tV,z03,z04,dF,z02,ah,z00];rfl
def aio:JC:=(.bJ<|o7 15 0<|oQ 16 15<|oD 17 0 0 16<|o9 18 1 17<|o7 19 0<|oQ 20 19<|qL [20,0,18,5,17]<|oD 21 0 0 20<|o9 22 1 21<|oP 23 22<|o7 24 0<|oQ 25 24<|oD 26 0 0 25<|qL [26,18,23,5,17,22,21,0]<|o9 27 1 26<|oP 28 27<|qo 29 (.slc 3 (.t 18) none (some (.t 23)) (some (.t 28)))<|oC 30 3 5<|qL [30,18,17,22,21,27,26,29,0]<|eo 31 (.qj 56 3 1 (.agg [(.int .i64 0),(.int .i64 0),(.int .i64 0)]) [(0,(.t 30))])<|en (.again 1 false (.t 17) 18)<|qL [22,21,27,26,29,31,0]<|en (.again 1 false (.t 21) 22)<|qL [27,26,29,31,0]<|en (.again 1 false (.t 26) 27)<|oW 32 56 3 24 29 31<|o7 7 32<|.nil)
def j15:PC:=(.seq (.leaf (.ops<|qI 4 []<|.nil)) (.seq (.leaf (.ops<|o7 9 1<|oM 10 48 9<|o7 8 10<|oN 11 0 8<|oN 12 1 8<|qK 5 56<|oG 3 5 11<|o7 6 12<|.nil)) (.seq (.aC (o7 13 6<|.nil) (some 14) (.fn 28) [(.t 13)] (.nil)) (.prune [0,5] (.seq (.leaf aio) (.jg 7 dw.gq<| .prune [7,0] (.seq (.leaf (.ops<|o7 34 7<|oM 35 49 34<|o7 33 35<|oN 36 0 33<|oN 37 1 33<|o7 6 37<|.nil)) (.seq (.aC (o7 38 6<|.nil) (some 39) (.fn 28) [(.t 38)] (.nil)) (.prune [0,7] (.leaf (.seq (.ops<|o7 40 0<|o7 41 7<|oQ 42 40<|oD 43 0 0 42<|oG 1 43 41<|.nil) (.seq (.ops<|qI 4 [111,107]<|.nil) .ret))))))))))))
theorem c15:fnP Tryz.prog qall 15 j15=some (j15.flat,[.tmp 4],44):=by kernel_rfl
theorem w15:j15.wf 44=true:=by kernel_rfl
def Gmt(f:FuncId)(a:List SV)(m:List ay):Sx.Call:=(FH.rd 48 (.one .str) (.two aO .int) (λy=>y.1.length<4294967281) (λy=>jU y.1)<|
 FH.rd 49 (.one dw) (.two .int .int) (λ_=>True) (λy=>(aK y.1).2) FH.none) f a m
theorem Jz:type_of% (nq Gmt.eq_1):=nq Gmt.eq_1
theorem WU:aW Tryz.prog Gmt:=FH.aT (λy h=>aox y.1 h)<|FH.aT (λy _=>lY y.1) FH.none_ok
def MW(l:List Ev)(s:By):Ans:=if (jU s).2=0 then((aF (l++[(jU s).1])).2,[111,107],l++[(jU s).1]) else((jU s).2,[],l)
theorem avs(l:List Ev)(s:By)(hs:s.length<=100000)(h:(aF l).2=0):zx 15 (.str s) l (MW l s):=by
 have hl:=bP h;have hs':s.length<4294967281:=by omega
 unfold MW;by_cases he:(jU s).2=0
 ·rw[if_pos he];refine⟨λh2=> ?_,λh2=> ?_⟩
  ·refine pO sF c15 w15 WU rfl ?_;unfold j15;unfold aio;simp only at h2;simp only[go_sem,seval,Jz,hs',he,z03,z04,z0c,z09,z02,ah,z00,z07];refine gy (λ_=> ?_) (λh'=>absurd rfl h');simp only[go_sem,seval,Jz,z03,z04,z0c,z09,dF,z02,z0b,ah,z00,z07];refine⟨rfl,by omega,by omega,⟨by omega,by omega⟩,by rw[z0j];omega,?_⟩
   rw[z0i,iE];refine gy (λ_=> ?_) (λh'=>absurd h2 h');simp only[go_sem,seval,z03,z04,z09,dF,z02,z0b,ah,z00];rfl
  ·refine nV sF c15 w15 WU rfl ?_;unfold j15;unfold aio;simp only at h2;simp only[go_sem,seval,Jz,hs',he,z03,z04,z0c,z09,z02,ah,z00,z07];refine gy (λ_=> ?_) (λh'=>absurd rfl h');simp only[go_sem,seval,Jz,z03,z04,z0c,z09,dF,z02,z0b,ah,z00,z07];refine⟨rfl,by omega,by omega,⟨by omega,by omega⟩,by rw[z0j];omega,?_⟩
   rw[z0i,iE];refine gy (λh'=>absurd h' h2) (λ_=> ?_);simp only[go_sem,seval,tV,z03,z04,dF,z02,ah,z00];rfl
 ·rw[if_neg he];refine⟨λh2=>absurd h2 he,λ_=> ?_⟩;refine nV sF c15 w15 WU rfl ?_;unfold j15;simp only[go_sem,seval,Jz,hs',z03,z04,z0c,z09,z02,ah,z00,z07];refine gy (λh'=>absurd h' he) (λ_=> ?_);simp only[go_sem,seval,tV,z03,z04,dF,z02,ah,z00];rfl
end Go.Proofs.YtgnaipcjbmhihaaGreatDoor.Dk
