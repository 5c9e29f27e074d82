/- A part of DeskRuns' proof. -/
import Derived.Test.YtgnaipcjbmhihaaGreatDoorFa
import Derived.Test.YtgnaipcjbmhihaaGreatDoorEa
import Derived.Test.YtgnaipcjbmhihaaGreatDoorDa
set_option linter.unusedVariables false
set_option linter.unusedSimpArgs false
open List renaming length_append->z00,not_mem_nil->z02,append_nil->z03,mem_cons->z05,map_append->z06,getElem?_eq_getElem->z08,mem_append->z0a,getD->z0c,take_length->z0g,filter_append->z0i,length_map->z0j,mem_filter->z0k,length_eq_zero_iff->z0l,filter_cons_of_pos->z0m,take_add_one->z0n,length_filter_le->z0o,length_take->z0u,getElem_mem->z0v,filter_cons_of_neg->z0w,nil_append->z0x,getD_cons_zero->z0y,mem_map->z14,filter_nil->z19,take_zero->z1a,map_cons->z1c,map_nil->z1e,length_singleton->z1f,mem_cons_of_mem->z1g,take_succ_cons->z1i,length_take_le->z1j,getD_cons_succ->z1k,mem_cons_self->z1l,append_assoc->z1m,length_cons->z1p,all_eq_true->z1q,any_append->z1s,mem_range->z1u
open Go.IntKind renaming i64->z01
open Int renaming toNat_natCast->z04,reduceEq->z0e,le_refl->z0r
open Bool renaming or_eq_true->z07,and_eq_true->z0d,or_eq_false_iff->z0p,not_eq_true'->z15,true_and->z1d,not_eq_true->z1r,eq_iff_iff->z1t
open Nat renaming le_of_lt->z09,lt_succ_self->z0b,add_zero->z0f,le_refl->z0h,not_lt_zero->z0s,lt_irrefl->z0z,mul_le_mul->z1b,add_mul->z1h,lt_succ_of_lt->z1o
open Go.Lib renaming join->z0q,joinTail->z16
open Option renaming toList_some->z0t
open Classical renaming byContradiction->z18
set_option maxRecDepth 100000
open Go Go.Sx Go.Proofs
namespace Go.Proofs.YtgnaipcjbmhihaaGreatDoor.Fu
open D Tr C
structure Vr where
 rd:Nat->ji
 wr:Nat->ji
def dVr:DT Vr:=(DT.nC (.arr 8 12 (.st [.arr 6 1 (.int .i64), .arr 6 1 (.int .i64)]))).Fv (λx=>⟨λi=>(x i).1,λi=>(x i).2.1⟩) (λv i=>(v.rd i,v.wr i,())) (λ_=>rfl) (λ_=>rfl)
instance:Flat dVr:=(Flat.nC rfl).Fv
theorem au4(v:Vr):dVr.aA v= .arr 8 12 λi=> .agg [.arr 6 1 λj=> .int .i64 (v.rd i j), .arr 6 1 λj=> .int .i64 (v.wr i j)]:=nr rfl
theorem an5(m:List ay)(f g:Nat->Nat->Int):dVr.aG m (.arr 8 12 λi=> .agg [.arr 6 1 λj=> .int .i64 (f i j), .arr 6 1 λj=> .int .i64 (g i j)])=⟨f,g⟩:=nr rfl
theorem an6(m:List ay)(f g:Nat->Nat->Int):dVr.decP m (.arr 8 12 λi=> .agg [.arr 6 1 λj=> .int .i64 (f i j), .arr 6 1 λj=> .int .i64 (g i j)])=True:=eq_true ⟨rfl,rfl,λ_ _=>⟨⟨rfl,rfl,λ_ _=>rfl⟩,⟨rfl,rfl,λ_ _=>rfl⟩,trivial⟩⟩
theorem au5(v:Vr):(⟨v.rd,v.wr⟩:Vr)=v:=nr rfl
attribute [go_sem] au4 an5 an6 au5
theorem Jm(f g:Nat->Nat->Int)(i:Nat)(a b:Nat->Int):wS (λk=>SV.agg [.arr 6 1 λj=> .int .i64 (f k j), .arr 6 1 λj=> .int .i64 (g k j)]) i (.agg [.arr 6 1 λj=> .int .i64 (a j), .arr 6 1 λj=> .int .i64 (b j)])=λk=>SV.agg [.arr 6 1 λj=> .int .i64 (if k=i then a j else f k j), .arr 6 1 λj=> .int .i64 (if k=i then b j else g k j)]:=by
 funext k;unfold wS;split<;>rfl
def yX(n:Nat):Kp:=⟨λt u=>if t<n/\u=t then 1 else 0,λ_ _=>0,λ_ _=>0⟩
theorem an7{n k j:Nat}:(if k=n then if j=n then 1 else(yX n).aC n j else(yX n).aC k j)=(yX (n+1)).aC k j:=by
 simp only[yX];by_cases h:k=n
 ·subst h;by_cases h2:j=k<;>simp[h2]
 ·simp[h,show(k<n+1)↔k<n by omega]
def WO:JC:=(qN (qA 6 5 6<|.nil) (.seq (qO 6 .skip (.exit 0)) (.seq (.block 1 (qN (o7 7 5<|o7 2 7<|.nil) (.ops<|o7 8 1<|o7 9 2<|o7 10 2<|qL [8,9,10,5,1]<|oQ 11 8<|oD 12 0 0 11<|oL 13 6 6 12 9<|oL 14 6 1 13 10<|en (.store 1 (.t 14) (I 1))<|.nil))) (qM [5,1] (.ops<|oJ 15 5 1<|o7 5 15<|.nil)))))
def ahH:JC:=(qM [1] (qN (o7 16 1<|o7 0 16<|.nil) .ret))
def j131:JC:=(qN (qo 0 (.mv (.c .jr))<|.nil) (qN (qo 3 (.lF (.agg [(.arr 6 6 λ_=>(.arr 6 1 λ_=>(.int .i64 0))),(.arr 5 6 λ_=>(.arr 6 1 λ_=>(.int .i64 0))),(.arr 4 6 λ_=>(.arr 6 1 λ_=>(.int .i64 0)))]) [])<|oV 4 207 3<|o7 1 4<|.nil) (.seq (qN (o8 5 0<|.nil) (.block 0 (.loop [1] [5] WO))) ahH)))
theorem aru:FnOK Tryz.prog 131 [] [] (.ptr 0 [] 0) [.blk 207 (KZ.aA (yX 6))]:=by
 refine fn_walkA j131 [.tmp 0] 17 FH.none_ok rfl ?_;unfold j131;simp only[go_sem,seval];refine aZ Nat (λi=>[.int .i64 i]) (λi=>[.blk 207 (KZ.aA (yX i))]) (λi=>i<=6) (λi=>6 - i) 0 (by omega) ?_ ?_ ?_
 ·simp only[go_sem,seval]
 ·simp[yX];rfl
 intro i hi;by_cases h1:i<6
 ·have h1':(i:Int)<6:=by omega
  have hw:z01.wrap ((i:Int)+1)=((i+1:Nat):Int):=aY;unfold WO;simp only[go_sem,seval,h1',hw];exact⟨by omega,by omega,i+1,by omega,by omega,rfl,by simp only[an7];rfl⟩
 ·have e:i=6:=by omega
  subst e;unfold WO;simp only[go_sem,seval];unfold ahH;simp only[go_sem,seval]
def au6:JC:=(qN (oV 2 70 0<|oV 3 70 1<|qH 4 false<|.nil) (.seq (.bJ<|oC 5 6 2<|oC 6 6 3<|qG 7 139 5 6<|oC 8 6 3<|qo 9 (.aeq false (.arr 6 1 (.int .i64)) (.t 7) (.t 8))<|o7 4 9<|.nil) .ret))
def kV(a b:ji):Bool:=(List.range 6).all λi=>decide (iT a b i=b i)
def Gwi(f:FuncId)(a:List SV)(m:List ay):Sx.Call:=(FH.rd 139 (.two bU bU) (.one bU) (λ_=>True) (λy=>iT y.1 y.2.1) FH.none) f a m
theorem nS:type_of% (nq Gwi.eq_1):=nq Gwi.eq_1
theorem Ox:aW Tryz.prog Gwi:=FH.aT (λy _=>wZ y.1 y.2.1) FH.none_ok
theorem Rt(a b:ji):FnOK Tryz.prog 159 [bU.aA a,bU.aA b] [] (.bool (kV a b)) []:=by refine fn_walkA au6 [.tmp 4] 10 Ox rfl ?_;unfold au6;simp only[go_sem,seval,nS];rfl
def Vt(f:Nat->ji)(i:Nat)(c:ji):Nat->ji:=λk j=>if k=i then c j else f k j
def inC(f:Nat->ji)(t:Nat):Nat->ji:=λk j=>if k=t then(if j=t then z01.wrap (f t t+1) else f t j) else f k j
def lM(k:Kp)(e:Ev):Kp:=
 if e.kind=3 then⟨Vt k.aC e.aC.toNat (iT (k.aC e.aC.toNat) (k.lk e.obj.toNat)),k.lk,k.vl⟩ else
 if e.kind=4 then⟨inC k.aC e.aC.toNat,Vt k.lk e.obj.toNat (k.aC e.aC.toNat),k.vl⟩ else
 if e.kind=5 then⟨inC (Vt k.aC e.obj.toNat (iT (k.aC e.obj.toNat) (k.aC e.aC.toNat))) e.aC.toNat,k.lk,k.vl⟩ else
 if e.kind=6 then⟨Vt k.aC e.aC.toNat (iT (k.aC e.aC.toNat) (k.aC e.obj.toNat)),k.lk,k.vl⟩ else
 if e.kind=7 then⟨Vt k.aC e.aC.toNat (iT (k.aC e.aC.toNat) (k.vl e.obj.toNat)),k.lk,k.vl⟩ else
 if e.kind=8 then⟨inC k.aC e.aC.toNat,k.lk,Vt k.vl e.obj.toNat (iT (k.vl e.obj.toNat) (k.aC e.aC.toNat))⟩ else k
def j132:JC:=(qN (oV 3 56 1<|.nil) (.seq (.bJ<|o7 5 0<|oD 6 1 1 3<|o9 7 1 6<|oQ 8 5<|oD 9 0 0 8<|oL 10 6 6 9 7<|o7 4 10<|.nil) (qN (oD 11 0 0 3<|o9 12 1 11<|.nil) (qM [12,4,0,3] (.block 0 (qN (oH 14 12 3<|o7 13 14<|.nil) (qO 13 (.bJ<|o7 15 4<|qL [4,0,3,15]<|o7 16 4<|oQ 17 16<|oC 18 6 17<|qL [0,3,18,15]<|o7 19 0<|oD 20 2 2 3<|o9 21 1 20<|qL [19,21,18,15]<|oQ 22 19<|oD 23 1 36 22<|oL 24 5 6 23 21<|qL [24,18,15]<|oC 25 6 24<|qG 26 139 18 25<|oQ 27 15<|oG 6 27 26<|.nil) (qN (oH 29 12 4<|o7 28 29<|.nil) (qO 28 (.seq (.bJ<|qL [0,3,4]<|o7 30 0<|oD 31 2 2 3<|o9 32 1 31<|o7 33 4<|oQ 34 33<|qL [34,30,32,4,3]<|oC 35 6 34<|oQ 36 30<|oD 37 1 36 36<|oL 38 5 6 37 32<|oG 6 38 35<|.nil) (qM [4,3] (.bJ<|o7 39 4<|oD 40 1 1 3<|o9 41 1 40<|oQ 42 39<|oL 43 6 1 42 41<|qL [43,39,41]<|o9 44 1 43<|oJ 45 44 1<|oQ 46 39<|oL 47 6 1 46 41<|oG 1 47 45<|.nil))) (qN (oH 49 12 5<|o7 48 49<|.nil) (qM [48,0,3,4,12] (qO 48 (.seq (.bJ<|o7 50 0<|oD 51 2 2 3<|o9 52 1 51<|qL [0,3,4,50,52]<|o7 53 0<|oD 54 2 2 3<|o9 55 1 54<|oQ 56 53<|qL [56,55,4,50,52,3]<|oD 57 0 0 56<|oL 58 6 6 57 55<|qL [58,4,50,52,3]<|oC 59 6 58<|o7 60 4<|oQ 61 60<|oC 62 6 61<|qL [59,62,50,52,4,3]<|qG 63 139 59 62<|oQ 64 50<|qL [64,52,63,4,3]<|oD 65 0 0 64<|oL 66 6 6 65 52<|oG 6 66 63<|.nil) (qM [4,3] (.bJ<|o7 67 4<|oD 68 1 1 3<|o9 69 1 68<|oQ 70 67<|oL 71 6 1 70 69<|qL [71,67,69]<|o9 72 1 71<|oJ 73 72 1<|oQ 74 67<|oL 75 6 1 74 69<|oG 1 75 73<|.nil))) (qN (oH 77 12 6<|o7 76 77<|.nil) (qO 76 (.bJ<|qL [4,0,3]<|o7 78 4<|o7 79 4<|oQ 80 79<|oC 81 6 80<|qL [0,3,81,78]<|o7 82 0<|oD 83 2 2 3<|o9 84 1 83<|qL [82,84,81,78]<|oQ 85 82<|oD 86 0 0 85<|oL 87 6 6 86 84<|qL [87,81,78]<|oC 88 6 87<|qG 89 139 81 88<|oQ 90 78<|oG 6 90 89<|.nil) (qN (oH 92 12 7<|o7 91 92<|.nil) (qO 91 (.bJ<|qL [4,0,3]<|o7 93 4<|o7 94 4<|oQ 95 94<|oC 96 6 95<|qL [0,3,96,93]<|o7 97 0<|oD 98 2 2 3<|o9 99 1 98<|qL [97,99,96,93]<|oQ 100 97<|oD 101 2 66 100<|oL 102 4 6 101 99<|qL [102,96,93]<|oC 103 6 102<|qG 104 139 96 103<|oQ 105 93<|oG 6 105 104<|.nil) (qN (oH 107 12 8<|o7 106 107<|.nil) (qM [106,0,3,4] (qO 106 (.seq (.bJ<|o7 108 0<|oD 109 2 2 3<|o9 110 1 109<|o7 111 0<|qL [3,111,4,108,110]<|oD 112 2 2 3<|o9 113 1 112<|oQ 114 111<|oD 115 2 66 114<|qL [115,113,4,108,110,3]<|oL 116 4 6 115 113<|oC 117 6 116<|qL [4,117,108,110,3]<|o7 118 4<|oQ 119 118<|oC 120 6 119<|qG 121 139 117 120<|qL [108,110,121,4,3]<|oQ 122 108<|oD 123 2 66 122<|oL 124 4 6 123 110<|oG 6 124 121<|.nil) (qM [4,3] (.bJ<|o7 125 4<|oD 126 1 1 3<|o9 127 1 126<|oQ 128 125<|oL 129 6 1 128 127<|qL [129,125,127]<|o9 130 1 129<|oJ 131 130 1<|oQ 132 125<|oL 133 6 1 132 127<|oG 1 133 131<|.nil))) .skip)))))))))))))))))))
theorem af0(k:Kp)(e:Ev)(he:iI e=true):FnOK Tryz.prog 132 [.ptr 0 [] 0,aO.aA e] [.blk 207 (KZ.aA k)] (.bK []) [.blk 207 (KZ.aA (lM k e))]:=by
 refine fn_walkA j132 [] 134 Ox rfl ?_;unfold j132;obtain⟨b1,b2,b3,b4⟩:=(bC e).1 he;obtain⟨t,ht,ht6⟩:∃ t:Nat,e.aC=t/\t<6:=⟨e.aC.toNat,by omega,by omega⟩
 obtain⟨o,ho⟩:∃ o:Nat,e.obj=o:=⟨e.obj.toNat,by omega⟩
 unfold lM;by_cases k3:e.kind=3
 ·have b5:o<5:=by
             have:e.obj<5:=by simpa[many,k3] using b4
             omega
  simp only[go_sem,seval,nS,k3,ht,ho];exact⟨by omega,by omega,rfl⟩
 by_cases k4:e.kind=4
 ·have b5:o<5:=by
             have:e.obj<5:=by simpa[many,k4] using b4
             omega
  simp only[go_sem,seval,nS,k4,ht,ho];exact⟨by omega,by omega,by omega,by omega,rfl⟩
 by_cases k5:e.kind=5
 ·have b5:o<6:=by
             have:e.obj<6:=by simpa[many,k5] using b4
             omega
  simp only[go_sem,seval,nS,k5,ht,ho];exact⟨by omega,by omega,by omega,by omega,by omega,rfl⟩
 by_cases k6:e.kind=6
 ·have b5:o<6:=by
             have:e.obj<6:=by simpa[many,k6] using b4
             omega
  simp only[go_sem,seval,nS,k6,ht,ho];exact⟨by omega,by omega,rfl⟩
 by_cases k7:e.kind=7
 ·have b5:o<4:=by
             have:e.obj<4:=by simpa[many,k7] using b4
             omega
  simp only[go_sem,seval,nS,k7,ht,ho];exact⟨by omega,by omega,rfl⟩
 by_cases k8:e.kind=8
 ·have b5:o<4:=by
             have:e.obj<4:=by simpa[many,k8] using b4
             omega
  simp only[go_sem,seval,nS,k8,ht,ho];exact⟨by omega,by omega,by omega,by omega,by omega,rfl⟩
 simp only[go_sem,seval,nS,k3,k4,k5,k6,k7,k8,ht,ho];omega
def seC(f:Nat->ji)(x t:Nat)(v:Int):Nat->ji:=λk j=>if k=x then(if j=t then v else f x j) else f k j
theorem Dz(f:Nat->ji){k x j:Nat}:(if k=x then f x j else f k j)=f k j:=by
 split
 ·rename_i h;rw[h]
 ·rfl
def uO(v:Vr)(x:Nat)(e:Ev)(c:ji):Int:=
 if e.kind=1 then(if kV (v.wr x) c=true then 0 else 2) else if kV (v.wr x) c=true then(if kV (v.rd x) c=true then 0 else 3) else 1
def WQ(v:Vr)(x:Nat)(e:Ev)(c:ji):Vr:=
 if e.kind=1 then⟨seC v.rd x e.aC.toNat (c e.aC.toNat),v.wr⟩ else⟨v.rd,seC v.wr x e.aC.toNat (c e.aC.toNat)⟩
def j133:JC:=(qN (oV 4 56 1<|oV 5 70 2<|o8 6 0<|.nil) (.seq (.bJ<|o7 8 0<|oQ 9 8<|oD 10 1 6 9<|oC 11 6 10<|oC 12 6 5<|qG 13 159 11 12<|qF 14 13<|o7 7 14<|.nil) (qM [4,7,0,5,6] (.seq (qN (oD 15 0 0 4<|o9 16 1 15<|oH 17 16 1<|.nil) (qO 17 (.seq (qN (o7 18 7<|.nil) (qO 18 (.ops<|o8 6 2<|.nil) .skip)) (qM [0,4,5,6] (.seq (.bJ<|o7 19 0<|oD 20 1 1 4<|o9 21 1 20<|oD 22 1 1 4<|qL [22,5,19,21,6]<|o9 23 1 22<|oL 24 6 1 5 23<|qL [24,19,21,6]<|o9 25 1 24<|oQ 26 19<|oD 27 0 0 26<|oL 28 6 1 27 21<|oG 1 28 25<|.nil) (qM [6] (qN (o7 29 6<|o7 6 29<|.nil) .ret))))) .skip)) (qM [7,0,4,5,6] (.seq (.block 0 (qN (o7 31 7<|o7 30 31<|.nil) (qO 30 (.ops<|o8 6 1<|.nil) (.seq (.bJ<|qL [0,5,4,6]<|o7 33 0<|oQ 34 33<|oD 35 0 0 34<|oC 36 6 35<|qL [5,36,0,4,6]<|oC 37 6 5<|qG 38 159 36 37<|qF 39 38<|o7 32 39<|.nil) (qM [32,0,4,5,6] (qO 32 (.ops<|o8 6 3<|.nil) .skip)))))) (qM [0,4,5,6] (.seq (.bJ<|o7 40 0<|oD 41 1 1 4<|o9 42 1 41<|oD 43 1 1 4<|qL [43,5,40,42,6]<|o9 44 1 43<|oL 45 6 1 5 44<|qL [45,40,42,6]<|o9 46 1 45<|oQ 47 40<|oD 48 1 6 47<|oL 49 6 1 48 42<|oG 1 49 46<|.nil) (qM [6] (qN (o7 50 6<|o7 6 50<|.nil) .ret))))))))))
def Gac(f:FuncId)(a:List SV)(m:List ay):Sx.Call:=(FH.rd 159 (.two bU bU) (.one .bool) (λ_=>True) (λy=>kV y.1 y.2.1) FH.none) f a m
theorem yU:type_of% (nq Gac.eq_1):=nq Gac.eq_1
theorem VZ:aW Tryz.prog Gac:=FH.aT (λy _=>Rt y.1 y.2.1) FH.none_ok
theorem Jl(v:Vr)(x:Nat)(e:Ev)(c:ji)(hx:x<8)(he:iI e=true):FnOK Tryz.prog 133 [.ptr 0 [.idx x 8] (x*12),aO.aA e,bU.aA c] [.blk 151 (dVr.aA v)] (.int .i64 (uO v x e c)) [.blk 151 (dVr.aA (WQ v x e c))]:=by
 refine fn_walkA j133 [.tmp 6] 51 VZ rfl ?_;unfold j133;obtain⟨b1,b2,b3,b4⟩:=(bC e).1 he;obtain⟨t,ht,ht6⟩:∃ t:Nat,e.aC=t/\t<6:=⟨e.aC.toNat,by omega,by omega⟩
 unfold uO WQ;by_cases k1:e.kind=1
 ·cases hw:kV (v.wr x) c with
  |true=>
   simp only[go_sem,seval,yU,k1,ht,hw,Jm];exact⟨by omega,by omega,by simp only[Dz v.wr];rfl⟩
  |false=>
   simp only[go_sem,seval,yU,k1,ht,hw,Jm];exact⟨by omega,by omega,by simp only[Dz v.wr];rfl⟩
 ·cases hw:kV (v.wr x) c with
  |true=>
   cases hr:kV (v.rd x) c with
   |true=>
    simp only[go_sem,seval,yU,k1,ht,hw,hr,Jm];exact⟨by omega,by omega,by simp only[Dz v.rd];rfl⟩
   |false=>
    simp only[go_sem,seval,yU,k1,ht,hw,hr,Jm];exact⟨by omega,by omega,by simp only[Dz v.rd];rfl⟩
  |false=>
   simp only[go_sem,seval,yU,k1,ht,hw,Jm];exact⟨by omega,by omega,by simp only[Dz v.rd];rfl⟩
theorem aBz:qm Tryz.prog 151=some (96,true):=by kernel_rfl
def cO(e:Ev):Bool:=decide (e.kind=1)||decide (e.kind=2)
def runK(l:List Ev):Nat->Kp
 |0=>yX 6
 |i+1=>if cO (l.getD i aO.aI)=true then runK l i else lM (runK l i) (l.getD i aO.aI)
def rF(l:List Ev):Nat->Vr
 |0=>⟨λ_ _=>0,λ_ _=>0⟩
 |i+1=>if cO (l.getD i aO.aI)=true then WQ (rF l i) (l.getD i aO.aI).obj.toNat (l.getD i aO.aI) ((runK l i).aC (l.getD i aO.aI).aC.toNat) else rF l i
def xu(l:List Ev)(i:Nat):Int:=if cO (l.getD i aO.aI)=true then uO (rF l i) (l.getD i aO.aI).obj.toNat (l.getD i aO.aI) ((runK l i).aC (l.getD i aO.aI).aC.toNat) else 0
def tN(l:List Ev):Nat->List Fl
 |0=>[]
 |i+1=>tN l i++if xu l i=0 then[] else[⟨i,(l.getD i aO.aI).obj,xu l i⟩]
theorem SS{l:List Ev}:∀ i,(tN l i).length<=i
 |0=>z0h _
 |i+1=>by have:=SS (l:=l) i;rw[tN,z00];split<;>simp<;>omega
def SX:JC:=(qN (oO 12 11 10<|.nil) (.seq (qO 12 .skip (.exit 0)) (.seq (.block 1 (qN (o7 13 11<|oK 14 3 9 11<|oC 15 3 14<|qK 6 56<|o7 5 13<|oG 3 6 15<|.nil) (qM [6,4,11,10,9,3,2,5] (.seq (qN (oD 16 0 0 6<|o9 17 1 16<|qC 18 17 1<|o7 19 18<|qL [19,6,4,11,10,9,3,2,5]<|.sc false 23 19 (oD 20 0 0 6<|o9 21 1 20<|qC 22 21 2<|.nil) (.t 22)<|.nil) (qM [23,4,6,11,10,9,3,2,5] (qO 23 (qN (o7 24 4<|oC 25 3 6<|qE 26 132 24 25<|.nil) (.exit 1)) .skip))) (qM [6,3,4,2,5,11,10,9] (.seq (.bJ<|oD 27 2 2 6<|o9 28 1 27<|oL 29 8 12 3 28<|oC 30 3 6<|o7 31 4<|oD 32 1 1 6<|o9 33 1 32<|qL [31,33,29,30,2,5,6,11,10,9,4,3]<|oQ 34 31<|oD 35 0 0 34<|oL 36 6 6 35 33<|qL [36,29,30,2,5,6,11,10,9,4,3]<|oC 37 6 36<|eo 38 (.call 133 [(.t 29),(.t 30),(.t 37)])<|o7 7 38<|.nil) (qM [7,2,5,6,11,10,9,4,3] (qN (o7 39 7<|qC 40 39 0<|.nil) (qM [40,2,5,6,7,11,10,9,4,3] (qO 40 (.ops<|o7 41 2<|o7 42 5<|qL [6,7,42,41,11,10,9,4,3]<|oD 43 2 2 6<|o9 44 1 43<|o7 45 7<|qL [42,44,45,41,11,10,9,4,3]<|qo 46 (.lF (.agg [(.int .i64 0),(.int .i64 0),(.int .i64 0)]) [([.eG 0],0,1,(.t 42)),([.eG 1],1,1,(.t 44)),([.eG 2],2,1,(.t 45))])<|qL [46,41,11,10,9,4,3]<|eo 47 (.qj 110 3 1 (.agg [(.int .i64 0),(.int .i64 0),(.int .i64 0)]) [(0,(.t 46))])<|oW 48 110 3 24 41 47<|o7 2 48<|.nil) .skip)))))))))) (qM [11,10,9,4,3,2] (.ops<|oJ 49 11 1<|o7 11 49<|.nil)))))
def ar9:JC:=(qM [2,3] (.seq (.bJ<|o7 50 2<|oC 51 96 3<|o7 2 50<|oG 96 3 51<|.nil) (.bn 2 110 3 .ret)))
def j95:JC:=(qN (oU 2<|eo 3 (.alloc 151 (.arr 8 12 λ_=>(.agg [(.arr 6 1 λ_=>(.int .i64 0)),(.arr 6 1 λ_=>(.int .i64 0))])))<|.nil) (qN (eo 8 (.call 131 [])<|o7 4 8<|.nil) (.seq (qN (o7 9 0<|oP 10 9<|o8 11 0<|.nil) (.block 0 (.bn 2 110 3 (.loop [10,9,4,3] [11,2] SX)))) ar9)))
theorem c95:fnIs Tryz.prog (aaW [133]) 95=some (j95.flat,[.tmp 2, .cell 3 151],52):=by kernel_rfl
theorem w95:j95.wf 52=true:=by kernel_rfl
def Grn(f:FuncId)(a:List SV)(m:List ay):Sx.Call:=(FH.mk 131 .nil (λ_=>True) (λ_=> .ptr 0 [] 0) (λ_=>[.blk 207 (KZ.aA (yX 6))])<|
 FH.mt 132 207 KZ (.one aO) DR.unit (λ_ y=>iI y.1=true) (λ_ _=>()) (λk y=>lM k y.1)<|
 FH.mp 133 151 8 12 dVr (.two aO bU) (.one .int) (λ_ x y=>x<8/\iI y.1=true) (λv x y=>uO v x y.1 y.2.1) (λv x y=>WQ v x y.1 y.2.1) FH.none) f a m
theorem uP:type_of% (nq Grn.eq_1):=nq Grn.eq_1
theorem Jo:aW Tryz.prog Grn:=FH.eu (λ_ _=>cZ (V3 _ _ _) ⟨OC _ KZ _,trivial⟩) (λ_ _=>aru)<|
 FH.FB (by kernel_rfl) (λk y h=>af0 k y.1 h)<|FH.ayr (by kernel_rfl) (λv x y h=>Jl v x y.1 y.2.1 h.1 h.2) FH.none_ok
theorem Rx(l:List Ev)(hok:(aF l).2=0):FnOK Tryz.prog 95 [dw.aA l] [] (.bK [.vec 0 (tN l l.length).length,dVr.aA (rF l l.length)]) [.vec 110 3 ((tN l l.length).map jL.aA)]:=by
 have hl:=bP hok;refine fn_walkF c95 w95 Jo rfl ?_;unfold j95;simp only[go_sem,seval,uP];refine aZ Nat (λi=>[.int .i64 i, .vec 2 (tN l i).length]) (λi=>[.blk 151 (dVr.aA (rF l i)), .blk 207 (KZ.aA (runK l i)), .vec 110 3 ((tN l i).map jL.aA)]) (λi=>i<=l.length) (λi=>l.length - i) 0 (by omega) ?_ rfl ?_
 ·simp only[go_sem,seval];rfl
 intro i hi;by_cases h1:i<l.length
 ·have h1':(i:Int)<l.length:=by omega
  have hw:z01.wrap ((i:Int)+1)=((i+1:Nat):Int):=aY;have he:=jq hok i h1;obtain⟨b1,b2,b3,b4⟩:=(bC _).1 he;obtain⟨t,ht,ht6⟩:∃ t:Nat,(l.getD i aO.aI).aC=t/\t<6:=⟨(l.getD i aO.aI).aC.toNat,by omega,by omega⟩
  obtain⟨o,ho⟩:∃ o:Nat,(l.getD i aO.aI).obj=o:=⟨(l.getD i aO.aI).obj.toNat,by omega⟩
  have hlen:=SS (l:=l) i;cases ha:cO (l.getD i aO.aI) with
  |false=>
   have ha':=ha;simp only[cO,z0p,decide_eq_false_iff_not] at ha';have k1:=ha'.1;have k2:=ha'.2;have hf:xu l i=0:=by rw[xu,if_neg (by rw[ha];simp)]
   unfold SX;simp only[go_sem,seval,uP,h1',hw,k1,k2,he];have hrv:rF l (i+1)=rF l i:=by rw[rF,if_neg (by rw[ha];simp)]
   have hrk:runK l (i+1)=lM (runK l i) (l.getD i aO.aI):=by rw[runK,if_neg (by rw[ha];simp)]
   have hrl:tN l (i+1)=tN l i:=by rw[tN,if_pos hf,z03]
   exact⟨by omega,i+1,by omega,by omega,⟨rfl,by rw[hrl]⟩,by rw[hrv,hrk,hrl]⟩
  |true=>
   have ho8:o<8:=by
    have:many (l.getD i aO.aI).kind=8:=by simp only[cO,z07,decide_eq_true_eq] at ha;simp only[many,if_pos ha]
    omega
   have hnk:(!decide ((l.getD i aO.aI).kind=1)&& !decide ((l.getD i aO.aI).kind=2))=false:=by simp only[cO,z07,decide_eq_true_eq] at ha;rcases ha with ha|ha<;>rw[ha]<;>decide
   have hfl:xu l i=uO (rF l i) o (l.getD i aO.aI) ((runK l i).aC t):=by rw[xu,if_pos ha,ht,ho,z04,z04]
   have hev:(⟨(l.getD i aO.aI).kind,(t:Int),(o:Int)⟩:Ev)=l.getD i aO.aI:=by rw[<- ht,<- ho]
   have hav:WQ (rF l i) o (l.getD i aO.aI) ((runK l i).aC t)=rF l (i+1):=by rw[rF,if_pos ha,ht,ho,z04,z04]
   have hrk:runK l (i+1)=runK l i:=by rw[runK,if_pos ha]
   by_cases hf:xu l i=0
   ·unfold SX;simp only[go_sem,seval,uP,h1',hw,hnk,he,ht,ho,ho8,hev,hav,hfl.symm,hf];have hrl:tN l (i+1)=tN l i:=by rw[tN,if_pos hf,z03]
    exact⟨by omega,by omega,by omega,i+1,by omega,by omega,⟨rfl,by rw[hrl]⟩,by rw[hrk,hrl]⟩
   ·unfold SX;simp only[go_sem,seval,uP,h1',hw,hnk,he,ht,ho,ho8,hev,hav,hfl.symm,hf];have hrl:tN l (i+1)=tN l i++[⟨i,o,xu l i⟩]:=by rw[tN,if_neg hf,ho]
    exact⟨by omega,by omega,by omega,by omega,i+1,by omega,by omega,⟨rfl,by rw[hrl,z00];rfl⟩,by rw[hrk,hrl,z06];rfl⟩
 ·have h1':¬ (i:Int)<l.length:=by omega
  have e:i=l.length:=by omega
  subst e;unfold SX;simp only[go_sem,seval,h1'];unfold ar9;simp only[go_sem,seval,aBz]
def KT(l:List Ev):List Fl:=if (aK l).2.2=0 then tN l l.length else[]
def j56:JC:=(qN (oU 2<|o8 3 0<|.nil) (.seq (qN (o7 9 0<|oM 10 49 9<|o7 8 10<|oN 11 0 8<|oN 12 1 8<|o7 4 11<|o7 5 12<|.nil) (qN (o7 13 5<|qC 14 13 0<|.nil) (qM [14,5,0] (qO 14 (qN (o7 15 5<|oU 2<|o7 3 15<|.nil) (.bn 2 110 3 .ret)) .skip)))) (qM [0] (qN (o7 17 0<|oM 18 95 17<|o7 16 18<|oN 19 0 16<|oN 20 1 16<|eo 7 (.alloc 151 (.arr 8 12 λ_=>(.agg [(.arr 6 1 λ_=>(.int .i64 0)),(.arr 6 1 λ_=>(.int .i64 0))])))<|o7 6 19<|oG 96 7 20<|.nil) (qN (qL [6]<|o7 21 6<|o7 2 21<|o8 3 0<|.nil) (.bn 2 110 3 .ret))))))
def Gfr(f:FuncId)(a:List SV)(m:List ay):Sx.Call:=(FH.rd 49 (.one dw) (.two .int .int) (λ_=>True) (λy=>(aK y.1).2)<|
 FH.mk 95 (.one dw) (λy=>(aF y.1).2=0) (λy=> .bK [.vec 0 (tN y.1 y.1.length).length,dVr.aA (rF y.1 y.1.length)]) (λy=>[.vec 110 3 ((tN y.1 y.1.length).map jL.aA)]) FH.none) f a m
theorem kL:type_of% (nq Gfr.eq_1):=nq Gfr.eq_1
theorem OB:aW Tryz.prog Gfr:=FH.aT (λy _=>lY y.1)<|
 FH.eu (λy _=>cZ (fU ⟨fE _ _,xw dVr _,trivial⟩) ⟨bY _ _ jL _,trivial⟩) (λy h=>Rx y.1 h) FH.none_ok
theorem agj(l:List Ev):FnOK Tryz.prog 56 [dw.aA l] [] (.bK [.vec 0 (KT l).length, .int .i64 (aK l).2.2]) [.vec 110 3 ((KT l).map jL.aA)]:=by
 refine fn_walkA j56 [.tmp 2, .tmp 3] 22 OB rfl ?_;unfold j56;by_cases h0:(aK l).2.2=0
 ·have h1:(aF l).2=0:=by rw[<- iD];exact h0
  have hr:KT l=tN l l.length:=by rw[KT,if_pos h0]
  rw[hr];simp only[go_sem,seval,kL,h0,h1]
 ·have hr:KT l=[]:=by rw[KT,if_neg h0]
  rw[hr];simp only[go_sem,seval,kL,h0]
end Go.Proofs.YtgnaipcjbmhihaaGreatDoor.Fu
namespace Go.Proofs.YtgnaipcjbmhihaaGreatDoor.Dk
open D Tx Tr
def okI(n:Int):Prop:=0<=n/\n<1000000
def eF(n:Int):By:=Lib.decDigits n.toNat
def eP{α:Type}(f:α->By)(l:List α):By:=if l=[] then[45] else z0q (l.map f) [32]
theorem dR{n:Int}(h:okI n):(eF n).length<=20:=by
 rw[eF,Lib.decDigits_length];obtain⟨h1,h2⟩:=h;rcases OQ n.toNat with h|h
 ·have:10^(Lib.nDigits n.toNat - 1)<10^6:=Nat.lt_of_le_of_lt h (by omega)
  have:=(Nat.pow_lt_pow_iff_right (by decide:1<10)).1 this
  omega
 ·omega
theorem Du(k:Nat):∀ r:List By,(∀ x∈r,x.length<=k)->(z16 [32] r).length<=r.length*(k+1)
 |[],_=>Nat.zero_le _
 |x::r,h=>by
  have h1:=h x (z1l);have h2:=Du k r λy hy=>h y (z1g _ hy);have e:(z16 [32] (x::r)).length=1+x.length+(z16 [32] r).length:=by simp[z16];omega
  rw[e,z1p,Nat.succ_mul];omega
theorem vP{k:Nat}{xs:List By}(h:∀ x∈xs,x.length<=k):(z0q xs [32]).length<=xs.length*(k+1):=by
 cases xs with
 |nil=>simp[Lib.join_nil]
 |cons x r=>
  rw[Lib.join_cons,z00,z1p,Nat.succ_mul];have h1:=h x (z1l);have h2:=Du k r λy hy=>h y (z1g _ hy);omega
theorem Hy(n:Int)(h:okI n):FnOK Tryz.prog 12 [.int .i64 n] [] (.str (eF n)) []:=by
 have:=OT n (by have:=h.1;omega) (by have:=h.2;omega)
 rwa [show n=((n.toNat:Nat):Int) by have:=h.1;omega,Lib.itoa_nonneg,<- show n=((n.toNat:Nat):Int) by have:=h.1;omega] at this
def Git(f:FuncId)(a:List SV)(m:List ay):Sx.Call:=(FH.rd 12 (.one .int) (.one .str) (λy=>okI y.1) (λy=>eF y.1) FH.none) f a m
theorem OU:type_of% (nq Git.eq_1):=nq Git.eq_1
theorem OV:aW Tryz.prog Git:=FH.aT (λy h=>Hy y.1 h) FH.none_ok
def j55:JC:=(qN (oV 1 67 0<|qI 2 []<|.nil) (.seq (.bJ<|oD 3 0 0 1<|o9 4 1 3<|eo 5 (.gW 12 [(.t 4)])<|qo 6 (.cat (.t 5) (.c (.str [45])))<|oD 7 1 1 1<|qL [7,6]<|o9 8 1 7<|eo 9 (.gW 12 [(.t 8)])<|qo 10 (.cat (.t 6) (.t 9))<|o7 2 10<|.nil) .ret))
def j58:JC:=(qN (oV 1 110 0<|qI 2 []<|.nil) (.seq (.bJ<|oD 3 0 0 1<|o9 4 1 3<|eo 5 (.gW 12 [(.t 4)])<|qo 6 (.cat (.t 5) (.c (.str [58])))<|oD 7 2 2 1<|qL [7,6]<|o9 8 1 7<|eo 9 (.gW 12 [(.t 8)])<|qo 10 (.cat (.t 6) (.t 9))<|o7 2 10<|.nil) .ret))
def j61:JC:=(qN (oV 1 110 0<|qI 2 []<|.nil) (qN (oD 3 0 0 1<|o9 4 1 3<|oM 5 12 4<|o7 2 5<|.nil) .ret))
def Vs(r:Rc):By:=eF r.a++45::eF r.b
def QK(f:Fl):By:=eF f.at'++58::eF f.kind
def waB(f:Fl):By:=eF f.at'
def QO(r:Rc):Prop:=okI r.a/\okI r.b
def yG(f:Fl):Prop:=okI f.at'/\okI f.kind
theorem agL(r:Rc)(h:QO r):FnOK Tryz.prog 55 [kZ.aA r] [] (.str (Vs r)) []:=by refine fn_walkA j55 [.tmp 2] 11 OV rfl ?_;unfold j55;have l1:=dR h.1;have l2:=dR h.2;simp only[go_sem,seval,OU,I9,h.1,h.2,z0x,z1e,dF,z1c,z1i,z1a,ah,z0y,z1k];exact⟨by omega,by rw[z00,z1f];omega,rfl⟩
theorem anx(f:Fl)(h:yG f):FnOK Tryz.prog 58 [jL.aA f] [] (.str (QK f)) []:=by refine fn_walkA j58 [.tmp 2] 11 OV rfl ?_;unfold j58;have l1:=dR h.1;have l2:=dR h.2;simp only[go_sem,seval,OU,OW,h.1,h.2,z0x,z1e,dF,z1c,z1i,z1a,ah,z0y,z1k];exact⟨by omega,by rw[z00,z1f];omega,rfl⟩
theorem agM(f:Fl)(h:yG f):FnOK Tryz.prog 61 [jL.aA f] [] (.str (waB f)) []:=by refine fn_walkA j61 [.tmp 2] 6 OV rfl ?_;unfold j61;simp only[go_sem,seval,OU,OW,h.1,z0x,z1e,dF,z1c,z1a,ah,z0y];rfl
def arJ:JC:=(qN (oO 14 13 12<|.nil) (.seq (qO 14 .skip (.exit 0)) (.seq (.block 1 (qN (oK 15 4 11 13<|oC 16 4 15<|eo 7 (.alloc 67 (.agg [(.int .i64 0),(.int .i64 0),(.int .i64 0),(.int .i64 0)]))<|oG 4 7 16<|.nil) (qM [5,1,7,13,12,11] (.ops<|o7 17 5<|o7 18 1<|oC 19 4 7<|eo 20 (.jm (.t 18) [(.t 19)])<|qL [20,17,13,12,11,1]<|eo 21 (.qj 9 1 1 (.str []) [(0,(.t 20))])<|oW 22 9 1 16 17 21<|o7 5 22<|.nil)))) (qM [13,12,11,5,1] (.ops<|oJ 23 13 1<|o7 13 23<|.nil)))))
def arK:JC:=(qM [5] (qN (o7 24 5<|eo 25 (.call 16 [(.t 24),(.c (.str [32]))])<|o7 4 25<|.nil) .ret))
def j54:JC:=(qN (qI 4 []<|.nil) (.seq (qN (o7 8 0<|oP 9 8<|oH 10 9 0<|.nil) (qO 10 (qN (qI 4 [45]<|.nil) .ret) .skip)) (qN (oU 5<|.nil) (.seq (qN (o7 11 0<|oP 12 11<|o8 13 0<|.nil) (.block 0 (.bn 5 9 1 (.loop [12,11,1] [13,5] arJ)))) arK))))
def Gtr(f:FuncId)(a:List SV)(m:List ay):Sx.Call:=(FH.rd 55 (.one kZ) (.one .str) (λy=>QO y.1) (λy=>Vs y.1)<|
 FH.rd 16 (.two (DT.list 1 .str) .str) (.one .str) (λy=>(z0q y.1 y.2.1).length<=140737488355328/\y.1.length<=1000000) (λy=>z0q y.1 y.2.1) FH.none) f a m
theorem agN:type_of% (nq Gtr.eq_1):=nq Gtr.eq_1
theorem aur:aW Tryz.prog Gtr:=FH.aT (λy h=>agL y.1 h)<|FH.aT (λy h=>wZ y.1 y.2.1 h.1 h.2) FH.none_ok
theorem anz(l:List Rc)(hl:l.length<=10000)(h:∀ x∈l,QO x)(hk:∀ x∈l,(Vs x).length<=50):FnOK Tryz.prog 54 [atq.aA l, .fn 55 []] [] (.str (eP Vs l)) []:=by
 refine fn_walkA j54 [.tmp 4] 26 aur rfl ?_;unfold j54;simp only[go_sem,seval];refine⟨λh0=> ?_,λh0=> ?_⟩
 ·rw[eP,if_pos (z0l.1 (by omega))]
 ·have hne:l≠[]:=λe=>h0 (by rw[e];rfl)
  refine aZ Nat (λi=>[.int .i64 i, .vec 0 ((l.take i).map Vs).length]) (λi=>[.vec 9 1 (((l.take i).map Vs).map DT.str.aA)]) (λi=>i<=l.length) (λi=>l.length - i) 0 (by omega) ?_ rfl ?_
  ·simp only[go_sem,seval]
  ·intro i hi;unfold arJ;simp only[go_sem,seval,agN];refine⟨λh1=> ?_,λh1=> ?_⟩
   ·have hil:i<l.length:=by omega
    have hx:l.getD i kZ.aI∈l:=by rw[z0c,z08 hil];exact z0v hil
    have ht:l.take (i+1)=l.take i++[l.getD i kZ.aI]:=bH kZ.aI hil;refine⟨⟨by omega,by omega⟩,h _ hx,by rw[z0u];omega,i+1,by omega,by omega,⟨aY,?_⟩,?_⟩
    ·rw[ht,z00];rfl
    ·rw[ht,z06,z06];rfl
   ·obtain rfl:i=l.length:=by omega
    rw[z0g];unfold arK;simp only[go_sem,seval,agN,dK];have hj:=vP (k:=50) (xs:=l.map Vs) (λx hx=>by obtain⟨y,hy,rfl⟩:=z14.1 hx;exact hk y hy)
    rw[z0j] at hj;refine⟨⟨by omega,by omega⟩,?_⟩
    rw[eP,if_neg hne]
def agO:JC:=(qN (oO 14 13 12<|.nil) (.seq (qO 14 .skip (.exit 0)) (.seq (.block 1 (qN (oK 15 3 11 13<|oC 16 3 15<|qK 7 110<|oG 3 7 16<|.nil) (qM [5,1,7,13,12,11] (.ops<|o7 17 5<|o7 18 1<|oC 19 3 7<|eo 20 (.jm (.t 18) [(.t 19)])<|qL [20,17,13,12,11,1]<|eo 21 (.qj 9 1 1 (.str []) [(0,(.t 20))])<|oW 22 9 1 16 17 21<|o7 5 22<|.nil)))) (qM [13,12,11,5,1] (.ops<|oJ 23 13 1<|o7 13 23<|.nil)))))
def agP:JC:=(qM [5] (qN (o7 24 5<|eo 25 (.call 16 [(.t 24),(.c (.str [32]))])<|o7 4 25<|.nil) .ret))
def j57:JC:=(qN (qI 4 []<|.nil) (.seq (qN (o7 8 0<|oP 9 8<|oH 10 9 0<|.nil) (qO 10 (qN (qI 4 [45]<|.nil) .ret) .skip)) (qN (oU 5<|.nil) (.seq (qN (o7 11 0<|oP 12 11<|o8 13 0<|.nil) (.block 0 (.bn 5 9 1 (.loop [12,11,1] [13,5] agO)))) agP))))
def Gtf(f:FuncId)(a:List SV)(m:List ay):Sx.Call:=(FH.rd 58 (.one jL) (.one .str) (λy=>yG y.1) (λy=>QK y.1)<|
 FH.rd 16 (.two (DT.list 1 .str) .str) (.one .str) (λy=>(z0q y.1 y.2.1).length<=140737488355328/\y.1.length<=1000000) (λy=>z0q y.1 y.2.1) FH.none) f a m
theorem agQ:type_of% (nq Gtf.eq_1):=nq Gtf.eq_1
theorem aus:aW Tryz.prog Gtf:=FH.aT (λy h=>anx y.1 h)<|FH.aT (λy h=>wZ y.1 y.2.1 h.1 h.2) FH.none_ok
theorem anA(l:List Fl)(hl:l.length<=10000)(h:∀ x∈l,yG x)(hk:∀ x∈l,(QK x).length<=50):FnOK Tryz.prog 57 [abj.aA l, .fn 58 []] [] (.str (eP QK l)) []:=by
 refine fn_walkA j57 [.tmp 4] 26 aus rfl ?_;unfold j57;simp only[go_sem,seval];refine⟨λh0=> ?_,λh0=> ?_⟩
 ·rw[eP,if_pos (z0l.1 (by omega))]
 ·have hne:l≠[]:=λe=>h0 (by rw[e];rfl)
  refine aZ Nat (λi=>[.int .i64 i, .vec 0 ((l.take i).map QK).length]) (λi=>[.vec 9 1 (((l.take i).map QK).map DT.str.aA)]) (λi=>i<=l.length) (λi=>l.length - i) 0 (by omega) ?_ rfl ?_
  ·simp only[go_sem,seval]
  ·intro i hi;unfold agO;simp only[go_sem,seval,agQ];refine⟨λh1=> ?_,λh1=> ?_⟩
   ·have hil:i<l.length:=by omega
    have hx:l.getD i jL.aI∈l:=by rw[z0c,z08 hil];exact z0v hil
    have ht:l.take (i+1)=l.take i++[l.getD i jL.aI]:=bH jL.aI hil;refine⟨⟨by omega,by omega⟩,h _ hx,by rw[z0u];omega,i+1,by omega,by omega,⟨aY,?_⟩,?_⟩
    ·rw[ht,z00];rfl
    ·rw[ht,z06,z06];rfl
   ·obtain rfl:i=l.length:=by omega
    rw[z0g];unfold agP;simp only[go_sem,seval,agQ,dK];have hj:=vP (k:=50) (xs:=l.map QK) (λx hx=>by obtain⟨y,hy,rfl⟩:=z14.1 hx;exact hk y hy)
    rw[z0j] at hj;refine⟨⟨by omega,by omega⟩,?_⟩
    rw[eP,if_neg hne]
def Gtw(f:FuncId)(a:List SV)(m:List ay):Sx.Call:=(FH.rd 61 (.one jL) (.one .str) (λy=>yG y.1) (λy=>waB y.1)<|
 FH.rd 16 (.two (DT.list 1 .str) .str) (.one .str) (λy=>(z0q y.1 y.2.1).length<=140737488355328/\y.1.length<=1000000) (λy=>z0q y.1 y.2.1) FH.none) f a m
theorem agR:type_of% (nq Gtw.eq_1):=nq Gtw.eq_1
theorem aut:aW Tryz.prog Gtw:=FH.aT (λy h=>agM y.1 h)<|FH.aT (λy h=>wZ y.1 y.2.1 h.1 h.2) FH.none_ok
theorem anB(l:List Fl)(hl:l.length<=10000)(h:∀ x∈l,yG x)(hk:∀ x∈l,(waB x).length<=50):FnOK Tryz.prog 57 [abj.aA l, .fn 61 []] [] (.str (eP waB l)) []:=by
 refine fn_walkA j57 [.tmp 4] 26 aut rfl ?_;unfold j57;simp only[go_sem,seval];refine⟨λh0=> ?_,λh0=> ?_⟩
 ·rw[eP,if_pos (z0l.1 (by omega))]
 ·have hne:l≠[]:=λe=>h0 (by rw[e];rfl)
  refine aZ Nat (λi=>[.int .i64 i, .vec 0 ((l.take i).map waB).length]) (λi=>[.vec 9 1 (((l.take i).map waB).map DT.str.aA)]) (λi=>i<=l.length) (λi=>l.length - i) 0 (by omega) ?_ rfl ?_
  ·simp only[go_sem,seval]
  ·intro i hi;unfold agO;simp only[go_sem,seval,agR];refine⟨λh1=> ?_,λh1=> ?_⟩
   ·have hil:i<l.length:=by omega
    have hx:l.getD i jL.aI∈l:=by rw[z0c,z08 hil];exact z0v hil
    have ht:l.take (i+1)=l.take i++[l.getD i jL.aI]:=bH jL.aI hil;refine⟨⟨by omega,by omega⟩,h _ hx,by rw[z0u];omega,i+1,by omega,by omega,⟨aY,?_⟩,?_⟩
    ·rw[ht,z00];rfl
    ·rw[ht,z06,z06];rfl
   ·obtain rfl:i=l.length:=by omega
    rw[z0g];unfold agP;simp only[go_sem,seval,agR,dK];have hj:=vP (k:=50) (xs:=l.map waB) (λx hx=>by obtain⟨y,hy,rfl⟩:=z14.1 hx;exact hk y hy)
    rw[z0j] at hj;refine⟨⟨by omega,by omega⟩,?_⟩
    rw[eP,if_neg hne]
def arL:JC:=(qN (oO 14 13 12<|.nil) (.seq (qO 14 .skip (.exit 0)) (.seq (.block 1 (qN (oK 15 1 11 13<|o9 16 1 15<|o7 7 16<|.nil) (.ops<|qL [5,1,7,13,12,11]<|o7 17 5<|o7 18 1<|o7 19 7<|eo 20 (.jm (.t 18) [(.t 19)])<|qL [20,17,13,12,11,1]<|eo 21 (.qj 9 1 1 (.str []) [(0,(.t 20))])<|oW 22 9 1 16 17 21<|o7 5 22<|.nil))) (qM [13,12,11,5,1] (.ops<|oJ 23 13 1<|o7 13 23<|.nil)))))
def arM:JC:=(qM [5] (qN (o7 24 5<|eo 25 (.call 16 [(.t 24),(.c (.str [32]))])<|o7 4 25<|.nil) .ret))
def j64:JC:=(qN (qI 4 []<|.nil) (.seq (qN (o7 8 0<|oP 9 8<|oH 10 9 0<|.nil) (qO 10 (qN (qI 4 [45]<|.nil) .ret) .skip)) (qN (oU 5<|.nil) (.seq (qN (o7 11 0<|oP 12 11<|o8 13 0<|.nil) (.block 0 (.bn 5 9 1 (.loop [12,11,1] [13,5] arL)))) arM))))
def Gti(f:FuncId)(a:List SV)(m:List ay):Sx.Call:=(FH.rd 12 (.one .int) (.one .str) (λy=>okI y.1) (λy=>eF y.1)<|
 FH.rd 16 (.two (DT.list 1 .str) .str) (.one .str) (λy=>(z0q y.1 y.2.1).length<=140737488355328/\y.1.length<=1000000) (λy=>z0q y.1 y.2.1) FH.none) f a m
theorem agS:type_of% (nq Gti.eq_1):=nq Gti.eq_1
theorem auu:aW Tryz.prog Gti:=FH.aT (λy h=>Hy y.1 h)<|FH.aT (λy h=>wZ y.1 y.2.1 h.1 h.2) FH.none_ok
theorem anC(l:List Int)(hl:l.length<=10000)(h:∀ x∈l,okI x)(hk:∀ x∈l,(eF x).length<=50):FnOK Tryz.prog 64 [wM.aA l, .fn 12 []] [] (.str (eP eF l)) []:=by
 refine fn_walkA j64 [.tmp 4] 26 auu rfl ?_;unfold j64;simp only[go_sem,seval];refine⟨λh0=> ?_,λh0=> ?_⟩
 ·rw[eP,if_pos (z0l.1 (by omega))]
 ·have hne:l≠[]:=λe=>h0 (by rw[e];rfl)
  refine aZ Nat (λi=>[.int .i64 i, .vec 0 ((l.take i).map eF).length]) (λi=>[.vec 9 1 (((l.take i).map eF).map DT.str.aA)]) (λi=>i<=l.length) (λi=>l.length - i) 0 (by omega) ?_ rfl ?_
  ·simp only[go_sem,seval]
  ·intro i hi;unfold arL;simp only[go_sem,seval,agS];refine⟨λh1=> ?_,λh1=> ?_⟩
   ·have hil:i<l.length:=by omega
    have hx:l.getD i 0∈l:=by rw[z0c,z08 hil];exact z0v hil
    have ht:l.take (i+1)=l.take i++[l.getD i 0]:=bH 0 hil;refine⟨⟨by omega,by omega⟩,h _ hx,by rw[z0u];omega,i+1,by omega,by omega,⟨aY,?_⟩,?_⟩
    ·rw[ht,z00];rfl
    ·rw[ht,z06,z06];rfl
   ·obtain rfl:i=l.length:=by omega
    rw[z0g];unfold arM;simp only[go_sem,seval,agS,dK];have hj:=vP (k:=50) (xs:=l.map eF) (λx hx=>by obtain⟨y,hy,rfl⟩:=z14.1 hx;exact hk y hy)
    rw[z0j] at hj;refine⟨⟨by omega,by omega⟩,?_⟩
    rw[eP,if_neg hne]
end Go.Proofs.YtgnaipcjbmhihaaGreatDoor.Dk
section
section
set_option maxRecDepth 100000
open Go Go.Sx Go.Proofs
namespace Go.Proofs.YtgnaipcjbmhihaaGreatDoor.Fa
open D Tr C Fu
def IJ(t:Int):Bool:=decide (0<=t)&&decide (t<6)
theorem vI(t:Int):IJ t=true↔0<=t/\t<6:=by simp[IJ]
def atv:JC:=(qN (qH 2 false<|.nil) (qN (o7 3 0<|qo 4 (.cmp .geq (.t 3) (I 0))<|o7 5 4<|.sc false 8 5 (o7 6 0<|qA 7 6 6<|.nil) (.t 7)<|o7 2 8<|.nil) .ret))
theorem VW(t:Int):FnOK Tryz.prog 178 [.int .i64 t] [] (.bool (IJ t)) []:=by refine fn_walkA atv [.tmp 2] 9 FH.none_ok rfl ?_;unfold atv;simp only[go_sem,seval];rfl
def Gt(f:FuncId)(a:List SV)(m:List ay):Sx.Call:=(FH.rd 178 (.one .int) (.one .bool) (λ_=>True) (λy=>IJ y.1) FH.none) f a m
theorem arl:type_of% (nq Gt.eq_1):=nq Gt.eq_1
theorem arn:aW Tryz.prog Gt:=FH.aT (λy _=>VW y.1) FH.none_ok
def atw:JC:=(qN (oV 2 70 0<|eo 4 (.alloc 212 (.agg [(.int .i64 0),(.int .i64 0)]))<|o8 5 0<|.nil) (.seq (qN (o7 6 1<|oM 7 178 6<|qF 8 7<|.nil) (qO 8 (qN (qo 9 (.lF (.agg [(.int .i64 0),(.int .i64 0)]) [])<|oG 2 4 9<|o8 5 1<|.nil) .ret) .skip)) (qN (qL [1,2,4]<|o7 10 1<|o7 11 1<|oL 12 6 1 2 11<|o9 13 1 12<|qL [10,13,4]<|qo 14 (.lF (.agg [(.int .i64 0),(.int .i64 0)]) [([.eG 0],0,1,(.t 10)),([.eG 1],1,1,(.t 13))])<|oG 2 4 14<|o8 5 0<|.nil) .ret)))
def atx:JC:=(qN (oV 2 212 0<|oV 3 70 1<|qH 4 false<|.nil) (.seq (.bJ<|oD 5 0 0 2<|o9 6 1 5<|eo 7 (.gW 178 [(.t 6)])<|o7 8 7<|qL [8,2,3]<|.sc false 16 8 (oD 9 1 1 2<|o9 10 1 9<|oD 11 0 0 2<|o9 12 1 11<|oL 13 6 1 3 12<|o9 14 1 13<|qo 15 (.cmp .leq (.t 10) (.t 14))<|.nil) (.t 15)<|o7 4 16<|.nil) .ret))
def qp(c:ji)(t:Int):Pr×Int:=if IJ t then(⟨t,c t.toNat⟩,0) else(⟨0,0⟩,1)
theorem aAA:qm Tryz.prog 212=some (2,true):=by kernel_rfl
theorem aAB(c:ji)(t:Int):FnOK Tryz.prog 160 [bU.aA c, .int .i64 t] [] (.bK [jo.aA (qp c t).1, .int .i64 (qp c t).2]) []:=by refine fn_walkA atw [.cell 4 212, .tmp 5] 15 arn rfl ?_;unfold atw;simp only[go_sem,seval,arl,aAA];have h1:=(vI t).1;exact⟨λh=>by simp[qp,h],λh=>⟨h1 h,by simp[qp,h]⟩⟩
def jK(e:Pr)(c:ji):Bool:=IJ e.a&&decide (e.b<=c e.a.toNat)
theorem afP(e:Pr)(c:ji):FnOK Tryz.prog 179 [jo.aA e,bU.aA c] [] (.bool (jK e c)) []:=by refine fn_walkA atx [.tmp 4] 17 arn rfl ?_;unfold atx;simp only[go_sem,seval,arl];exact⟨(vI e.a).1,rfl⟩
def KY:DT Pr:=(DT.nC (.st [.st [.int .i64, .int .i64]])).Fv (λx=>⟨x.1.1,x.1.2.1⟩) (λe=>((e.a,e.b,()),())) (λ_=>rfl) (λ_=>rfl)
instance:Flat KY:=(Flat.nC rfl).Fv
theorem amZ(e:Pr):KY.aA e= .agg [.agg [.int .i64 e.a, .int .i64 e.b]]:=nr rfl
theorem afQ(m:List ay)(a b:Int):KY.aG m (.agg [.agg [.int .i64 a, .int .i64 b]])=⟨a,b⟩:=nr rfl
theorem afR(m:List ay)(a b:Int):KY.decP m (.agg [.agg [.int .i64 a, .int .i64 b]])=True:=eq_true ⟨⟨rfl,rfl,trivial⟩,trivial⟩
attribute [go_sem] amZ afQ afR
abbrev dRd:DT (Pr ⊕ ji):=DT.sum 249 271 KY bU (by decide)
structure Cl where
 wr:Pr
 rd:Pr ⊕ ji
 slow:Int
def IK:DT Cl:=(DT.st (DL.cons jo (DL.cons dRd (DL.cons DT.int DL.nil)))).Fv (λx=>⟨x.1,x.2.1,x.2.2.1⟩) (λc=>(c.wr,c.rd,c.slow,())) (λ_=>rfl) (λ_=>rfl)
theorem afS(w e:Pr)(s:Int):IK.aA ⟨w, .inl e,s⟩= .agg [.agg [.int .i64 w.a, .int .i64 w.b], .iface 249 (.agg [.agg [.int .i64 e.a, .int .i64 e.b]]), .int .i64 s]:=nr rfl
theorem Zw(w:Pr)(c:ji)(s:Int):IK.aA ⟨w, .inr c,s⟩= .agg [.agg [.int .i64 w.a, .int .i64 w.b], .iface 271 (.arr 6 1 λj=> .int .i64 (c j)), .int .i64 s]:=nr rfl
theorem am0(m:List ay)(s:Cl):IK.aG m (IK.aA s)=s:=nr (IK.vE m s)
attribute [go_sem] afS Zw am0
def Oz(d:ji)(t n:Int):ji:=λj=>if j=t.toNat then n else d j
def Rq(p e:Pr)(c:ji):Pr ⊕ ji:=if jK p c=true then .inl e else .inr (Oz (Oz (λ_=>0) p.a p.b) e.a e.b)
def atz:JC:=(qN (oV 2 249 0<|oV 3 70 1<|qH 4 false<|.nil) (qN (oD 5 0 0 2<|oC 6 2 5<|oC 7 6 3<|qE 8 179 6 7<|o7 4 8<|.nil) .ret))
def atA:JC:=(qN (oV 3 249 0<|oV 4 212 1<|oV 5 70 2<|qo 6 (.mv (.c .iP))<|.nil) (.seq (qN (oC 8 2 3<|oC 9 6 5<|qE 10 221 8 9<|.nil) (qO 10 (qN (qL [4]<|oC 11 2 4<|qo 12 (.lF (.agg [(.agg [(.int .i64 0),(.int .i64 0)])]) [([.eG 0],0,2,(.t 11))])<|qo 13 (.EF 249 (.t 12))<|o7 6 13<|.nil) .ret) .skip)) (qM [3,4] (qN (qo 14 (.lF (.arr 6 1 λ_=>(.int .i64 0)) [])<|eo 7 (.alloc 271 (.arr 6 1 λ_=>(.int .i64 0)))<|oG 6 7 14<|.nil) (qN (oD 15 0 0 3<|oD 16 0 0 15<|qL [16,3,7,4]<|o9 17 1 16<|oD 18 0 0 3<|oD 19 1 1 18<|qL [19,7,17,4]<|o9 20 1 19<|oL 21 6 1 7 17<|oG 1 21 20<|.nil) (qM [4,7] (qN (oD 22 0 0 4<|o9 23 1 22<|oD 24 1 1 4<|o9 25 1 24<|oL 26 6 1 7 23<|oG 1 26 25<|.nil) (qN (qL [7]<|oC 27 6 7<|qo 28 (.EF 271 (.t 27))<|o7 6 28<|.nil) .ret))))))))
def atB:JC:=(qN (oV 2 271 0<|oV 3 70 1<|qH 4 false<|.nil) (qN (oC 5 6 2<|oC 6 6 3<|qE 7 159 5 6<|o7 4 7<|.nil) .ret))
def atC:JC:=(qN (oV 3 271 0<|oV 4 212 1<|oV 5 70 2<|qo 6 (.mv (.c .iP))<|.nil) (qN (oD 7 0 0 4<|o9 8 1 7<|oD 9 1 1 4<|qL [9,3,8]<|o9 10 1 9<|oL 11 6 1 3 8<|oG 1 11 10<|.nil) (qM [3] (qN (oC 12 6 3<|qo 13 (.EF 271 (.t 12))<|o7 6 13<|.nil) .ret))))
def Gk(f:FuncId)(a:List SV)(m:List ay):Sx.Call:=(FH.rd 179 (.two jo bU) (.one .bool) (λ_=>True) (λy=>jK y.1 y.2.1)<|FH.rd 159 (.two bU bU) (.one .bool) (λ_=>True) (λy=>kV y.1 y.2.1) FH.none) f a m
theorem Zx:type_of% (nq Gk.eq_1):=nq Gk.eq_1
theorem Zy:aW Tryz.prog Gk:=FH.aT (λy _=>afP y.1 y.2.1)<|FH.aT (λy _=>Rt y.1 y.2.1) FH.none_ok
theorem IL(p:Pr)(c:ji):FnOK Tryz.prog 221 [KY.aA p,bU.aA c] [] (.bool (jK p c)) []:=by refine fn_walkA atz [.tmp 4] 9 Zy rfl ?_;unfold atz;simp only[go_sem,seval,Zx]
theorem Ru(d c:ji):FnOK Tryz.prog 224 [bU.aA d,bU.aA c] [] (.bool (kV d c)) []:=by refine fn_walkA atB [.tmp 4] 8 Zy rfl ?_;unfold atB;simp only[go_sem,seval,Zx]
theorem aDQ:qm Tryz.prog 271=some (6,true):=by kernel_rfl
theorem C9(f:Nat->Int)(i:Nat)(n:Int):wS (λk=>SV.int .i64 (f k)) i (.int .i64 n)=λk=>SV.int .i64 (if k=i then n else f k):=by
 funext k;unfold wS;split<;>rfl
theorem VX(d c:ji)(e:Pr)(h1:0<=e.a)(h2:e.a<6):FnOK Tryz.prog 223 [bU.aA d,jo.aA e,bU.aA c] [] (dRd.aA (.inr (Oz d e.a e.b))) []:=by refine fn_walkA atC [.tmp 6] 14 FH.none_ok rfl ?_;unfold atC;simp only[go_sem,seval,h1,h2,C9];rfl
def Gok(f:FuncId)(a:List SV)(m:List ay):Sx.Call:=(FH.rd 221 (.two KY bU) (.one .bool) (λ_=>True) (λy=>jK y.1 y.2.1) FH.none) f a m
theorem afT:type_of% (nq Gok.eq_1):=nq Gok.eq_1
theorem atD:aW Tryz.prog Gok:=FH.aT (λy _=>IL y.1 y.2.1) FH.none_ok
theorem aa2(p e:Pr)(c:ji)(h1:0<=e.a)(h2:e.a<6)(h3:0<=p.a)(h4:p.a<6):FnOK Tryz.prog 220 [KY.aA p,jo.aA e,bU.aA c] [] (dRd.aA (Rq p e c)) []:=by
 refine fn_walkA atA [.tmp 6] 29 atD rfl ?_;unfold atA;unfold Rq;by_cases h:jK p c=true
 ·rw[if_pos h];simp only[go_sem,seval,afT,h1,h2,h3,h4,h,C9]
 ·rw[if_neg h];simp only[go_sem,seval,afT,h1,h2,h3,h4,h,C9];rfl
def rdS(s:Cl)(e:Pr)(c:ji):Cl:=match s.rd with
 | .inl p=>if p.a=e.a/\p.b=e.b then s else if jK p c=true then⟨s.wr, .inl e,s.slow⟩ else⟨s.wr, .inr (Oz (Oz (λ_=>0) p.a p.b) e.a e.b),s.slow+1⟩
 | .inr d=>⟨s.wr, .inr (Oz d e.a e.b),s.slow⟩
def rdK(s:Cl)(e:Pr)(c:ji):Int:=match s.rd with
 | .inl p=>if p.a=e.a/\p.b=e.b then 0 else if jK s.wr c=true then 0 else 2
 | .inr _=>if jK s.wr c=true then 0 else 2
def VY(r:Pr ⊕ ji)(c:ji):Bool:=match r with
 | .inl p=>jK p c
 | .inr d=>kV d c
def wrS(s:Cl)(e:Pr):Cl:=if s.wr.a=e.a/\s.wr.b=e.b then s else⟨e,(match s.rd with
 | .inl p=> .inl p
 | .inr _=> .inl ⟨0,0⟩),s.slow⟩
def wrK(s:Cl)(e:Pr)(c:ji):Int:=if s.wr.a=e.a/\s.wr.b=e.b then 0 else if jK s.wr c=false then 1 else if VY s.rd c=false then 3 else 0
def okC(s:Cl):Prop:=0<=s.slow/\s.slow<=1000/\match s.rd with
 | .inl p=>0<=p.a/\p.a<6
 | .inr _=>True
def atG:JC:=(qN (oV 4 212 1<|oV 5 70 2<|o8 6 0<|.nil) (.seq (.seq (.bJ<|o7 11 0<|oQ 12 11<|oD 13 1 2 12<|o9 14 1 13<|oC 15 2 4<|qo 16 (.lF (.agg [(.agg [(.int .i64 0),(.int .i64 0)])]) [([.eG 0],0,2,(.t 15))])<|qo 17 (.EF 249 (.t 16))<|qo 18 (.ieq false [(8,(.st [(.int .i64),(.int .i64), .bool,(.int .u8)])),(10, .str),(11, .str),(176,(.int .i64)),(249,(.st [(.st [(.int .i64),(.int .i64)])])),(271,(.arr 6 1 (.int .i64))),(304,(.int .u8))] (.t 14) (.t 17))<|.nil) (qM [18,0,5,4,6] (qO 18 (qN (o8 6 0<|.nil) .ret) .skip))) (qM [0,5,4,6] (.seq (.seq (.bJ<|o7 19 0<|oQ 20 19<|oD 21 0 0 20<|oC 22 2 21<|qL [5,22,0,4,6]<|oC 23 6 5<|qG 24 179 22 23<|qF 25 24<|.nil) (qM [25,0,4,5,6] (qO 25 (.ops<|o8 6 2<|.nil) .skip))) (qM [0,4,5,6] (qN (o7 27 0<|oQ 28 27<|oD 29 1 2 28<|o9 30 1 29<|qL [30,0,4,5,6]<|qo 31 (.tas 271 (.arr 6 1 λ_=>(.int .i64 0)) (.t 30))<|o7 26 31<|oN 32 0 26<|oN 33 1 26<|qL [32,33,0,4,5,6]<|eo 7 (.alloc 271 (.arr 6 1 λ_=>(.int .i64 0)))<|oG 6 7 32<|o7 8 33<|.nil) (qM [0,4,5,8,6] (.seq (.bJ<|o7 34 0<|o7 35 0<|oQ 36 35<|oD 37 1 2 36<|o9 38 1 37<|qL [4,5,38,34,0,8,6]<|oC 39 2 4<|oC 40 6 5<|eo 41 (.Fz [(249,220),(271,223)] (.t 38) [(.t 39),(.t 40)])<|qL [34,41,0,8,6]<|oQ 42 34<|oD 43 1 2 42<|oG 1 43 41<|.nil) (qM [0,8,6] (.seq (qN (o7 45 0<|oQ 46 45<|oD 47 1 2 46<|o9 48 1 47<|qL [48,8,0,6]<|qo 49 (.tas 271 (.arr 6 1 λ_=>(.int .i64 0)) (.t 48))<|o7 44 49<|oN 50 0 44<|oN 51 1 44<|qL [50,51,8,0,6]<|eo 9 (.alloc 271 (.arr 6 1 λ_=>(.int .i64 0)))<|oG 6 9 50<|o7 10 51<|.nil) (qM [10,8,0,6] (qN (o7 52 10<|o7 53 52<|.sc false 56 53 (o7 54 8<|qF 55 54<|.nil) (.t 55)<|.nil) (qO 56 (.ops<|qL [0,6]<|o7 57 0<|oQ 58 57<|oD 59 2 3 58<|o9 60 1 59<|oJ 61 60 1<|qL [57,61,6]<|oQ 62 57<|oD 63 2 3 62<|oG 1 63 61<|.nil) .skip)))) (qM [6] (qN (o7 64 6<|o7 6 64<|.nil) .ret))))))))))))
def atH:JC:=(qN (oV 4 212 1<|oV 5 70 2<|o8 6 0<|.nil) (.seq (.seq (.bJ<|o7 9 0<|oQ 10 9<|oD 11 0 0 10<|oC 12 2 11<|oC 13 2 4<|qo 14 (.aeq false (.st [(.int .i64),(.int .i64)]) (.t 12) (.t 13))<|.nil) (qO 14 (qN (o8 6 0<|.nil) .ret) .skip)) (qM [0,5,4,6] (.seq (.block 0 (.seq (.bJ<|o7 16 0<|oQ 17 16<|oD 18 0 0 17<|oC 19 2 18<|qL [5,19,0,4,6]<|oC 20 6 5<|qG 21 179 19 20<|qF 22 21<|o7 15 22<|.nil) (qM [15,0,4,5,6] (qO 15 (.ops<|o8 6 1<|.nil) (.seq (.bJ<|o7 24 0<|oQ 25 24<|oD 26 1 2 25<|qL [26,5,0,4,6]<|o9 27 1 26<|oC 28 6 5<|eo 29 (.Fz [(249,221),(271,224)] (.t 27) [(.t 28)])<|qF 30 29<|o7 23 30<|.nil) (qM [23,0,4,6] (qO 23 (.ops<|o8 6 3<|.nil) .skip))))))) (qM [0,4,6] (qN (o7 31 0<|oC 32 2 4<|oQ 33 31<|oD 34 0 0 33<|oG 2 34 32<|.nil) (.seq (qN (qL [0,6]<|o7 36 0<|oQ 37 36<|oD 38 1 2 37<|o9 39 1 38<|qo 40 (.tas 271 (.arr 6 1 λ_=>(.int .i64 0)) (.t 39))<|qL [40,0,6]<|o7 35 40<|oN 41 0 35<|oN 42 1 35<|eo 7 (.alloc 271 (.arr 6 1 λ_=>(.int .i64 0)))<|oG 6 7 41<|o7 8 42<|.nil) (qM [8,0,6] (qN (o7 43 8<|.nil) (qO 43 (.ops<|o7 44 0<|qo 45 (.lF (.agg [(.agg [(.int .i64 0),(.int .i64 0)])]) [])<|qo 46 (.EF 249 (.t 45))<|qL [44,46,6]<|oQ 47 44<|oD 48 1 2 47<|oG 1 48 46<|.nil) .skip)))) (qM [6] (qN (o7 49 6<|o7 6 49<|.nil) .ret)))))))))
def Grw(f:FuncId)(a:List SV)(m:List ay):Sx.Call:=(FH.rd 179 (.two jo bU) (.one .bool) (λ_=>True) (λy=>jK y.1 y.2.1)<|
 FH.rd 221 (.two KY bU) (.one .bool) (λ_=>True) (λy=>jK y.1 y.2.1)<|
 FH.rd 224 (.two bU bU) (.one .bool) (λ_=>True) (λy=>kV y.1 y.2.1)<|
 FH.rd 220 (.three KY jo bU) (.one dRd) (λy=>0<=y.2.1.a/\y.2.1.a<6/\0<=y.1.a/\y.1.a<6) (λy=>Rq y.1 y.2.1 y.2.2.1)<|
 FH.rd 223 (.three bU jo bU) (.one dRd) (λy=>0<=y.2.1.a/\y.2.1.a<6) (λy=> .inr (Oz y.1 y.2.1.a y.2.1.b)) FH.none) f a m
theorem ql:type_of% (nq Grw.eq_1):=nq Grw.eq_1
theorem afU:aW Tryz.prog Grw:=FH.aT (λy _=>afP y.1 y.2.1)<|FH.aT (λy _=>IL y.1 y.2.1)<|FH.aT (λy _=>Ru y.1 y.2.1)<|
 FH.aT (λy h=>aa2 y.1 y.2.1 y.2.2.1 h.1 h.2.1 h.2.2.1 h.2.2.2)<|FH.aT (λy h=>VX y.1 y.2.2.1 y.2.1 h.1 h.2) FH.none_ok
theorem am2(s:Cl)(e:Pr)(c:ji)(hs:okC s)(h1:0<=e.a)(h2:e.a<6):
  FnOK Tryz.prog 161 [.ptr 0 [] 0,jo.aA e,bU.aA c] [.blk 216 (IK.aA s)] (.int .i64 (rdK s e c)) [.blk 216 (IK.aA (rdS s e c))]:=by
 refine fn_walkA atG [.tmp 6] 65 afU rfl ?_;unfold atG;obtain⟨w,r,sl⟩:=s;obtain⟨hs1,hs2,hs3⟩:=hs;simp only at hs1 hs2 hs3;have hw:z01.wrap (sl+1)=sl+1:=aY;cases r with
 |inl p=>
  simp only at hs3;obtain⟨h3,h4⟩:=hs3;unfold rdS rdK;simp only;by_cases hq:p.a=e.a/\p.b=e.b
  ·have hd:(decide (p.a=e.a)&&decide (p.b=e.b))=true:=by simpa using hq
   rw[if_pos hq,if_pos hq];simp only[go_sem,seval,ql,hd]
  ·have hd:(decide (p.a=e.a)&&decide (p.b=e.b))=false:=by simpa using hq
   rw[if_neg hq,if_neg hq];by_cases hp:jK p c=true
   ·rw[if_pos hp];have hal:Rq p e c= .inl e:=if_pos hp;simp only[go_sem,seval,ql,hd,hal,h1,h2,h3,h4];exact⟨λh=>by rw[if_neg (by rw[h];simp)],λh=>by rw[if_pos h]⟩
   ·rw[if_neg hp];have hal:Rq p e c= .inr (Oz (Oz (λ_=>0) p.a p.b) e.a e.b):=if_neg hp;simp only[go_sem,seval,ql,hd,hal,h1,h2,h3,h4,hw];exact⟨λh=>by rw[if_neg (by rw[h];simp)],λh=>by rw[if_pos h]⟩
 |inr d=>
  unfold rdS rdK;simp only;simp only[go_sem,seval,ql,h1,h2];exact⟨λh=>by rw[if_neg (by rw[h];simp)],λh=>by rw[if_pos h]⟩
theorem afV(s:Cl)(e:Pr)(c:ji):
  FnOK Tryz.prog 162 [.ptr 0 [] 0,jo.aA e,bU.aA c] [.blk 216 (IK.aA s)] (.int .i64 (wrK s e c)) [.blk 216 (IK.aA (wrS s e))]:=by
 refine fn_walkA atH [.tmp 6] 50 afU rfl ?_;unfold atH;obtain⟨w,r,sl⟩:=s;unfold wrS wrK;simp only;by_cases hq:w.a=e.a/\w.b=e.b
 ·have hd:(decide (w.a=e.a)&&decide (w.b=e.b))=true:=by simpa using hq
  rw[if_pos hq,if_pos hq];cases r with
  |inl p=>
   simp only[go_sem,seval,ql,hd]
  |inr d=>
   simp only[go_sem,seval,ql,hd]
 ·have hd:(decide (w.a=e.a)&&decide (w.b=e.b))=false:=by simpa using hq
  rw[if_neg hq,if_neg hq];unfold VY;cases r with
  |inl p=>
   simp only;simp only[go_sem,seval,ql,hd];exact⟨λh=>by rw[if_pos h],λh=>⟨λh2=>by rw[if_neg (by rw[h];simp),if_pos h2],λh2=>by rw[if_neg (by rw[h];simp),if_neg (by rw[h2];simp)]⟩⟩
  |inr d=>
   simp only;simp only[go_sem,seval,ql,hd];exact⟨λh=>by rw[if_pos h],λh=>⟨λh2=>by rw[if_neg (by rw[h];simp),if_pos h2],λh2=>by rw[if_neg (by rw[h];simp),if_neg (by rw[h2];simp)]⟩⟩
def j135:JC:=(qN (oV 4 56 1<|oV 5 70 2<|o8 6 0<|.nil) (qN (oC 10 6 5<|oD 11 1 1 4<|o9 12 1 11<|qE 13 160 10 12<|qL [13,4,0,5]<|o7 9 13<|oN 14 0 9<|oN 15 1 9<|eo 7 (.alloc 212 (.agg [(.int .i64 0),(.int .i64 0)]))<|oG 2 7 14<|o7 8 15<|.nil) (qM [4,0,7,5] (.seq (qN (oD 16 0 0 4<|o9 17 1 16<|oH 18 17 1<|.nil) (qO 18 (qN (qL [0,7,5]<|o7 19 0<|oC 20 2 7<|oC 21 6 5<|eo 22 (.call 161 [(.t 19),(.t 20),(.t 21)])<|o7 6 22<|.nil) .ret) .skip)) (qM [0,7,5] (qN (o7 23 0<|oC 24 2 7<|oC 25 6 5<|eo 26 (.call 162 [(.t 23),(.t 24),(.t 25)])<|o7 6 26<|.nil) .ret))))))
def j134:JC:=(qN (qo 0 (.mv (.c .jr))<|.nil) (qN (qo 1 (.lF (.agg [(.agg [(.int .i64 0),(.int .i64 0)])]) [])<|qo 2 (.EF 249 (.t 1))<|qo 3 (.lF (.agg [(.agg [(.int .i64 0),(.int .i64 0)]), .iP,(.int .i64 0)]) [([.eG 1],2,1,(.t 2))])<|oV 4 216 3<|o7 0 4<|.nil) .ret))
def epN(c:ji)(t:Int):Pr:=⟨t,c t.toNat⟩
def GN(s:Cl)(e:Ev)(c:ji):Cl:=if e.kind=1 then rdS s (epN c e.aC) c else wrS s (epN c e.aC)
def Rw(s:Cl)(e:Ev)(c:ji):Int:=if e.kind=1 then rdK s (epN c e.aC) c else wrK s (epN c e.aC) c
def Gac(f:FuncId)(a:List SV)(m:List ay):Sx.Call:=(FH.rd 160 (.two bU .int) (.two jo .int) (λ_=>True) (λy=>qp y.1 y.2.1)<|
 FH.mt 161 216 IK (.two jo bU) (.one .int) (λs y=>okC s/\0<=y.1.a/\y.1.a<6) (λs y=>rdK s y.1 y.2.1) (λs y=>rdS s y.1 y.2.1)<|
 FH.mt 162 216 IK (.two jo bU) (.one .int) (λ_ _=>True) (λs y=>wrK s y.1 y.2.1) (λs y=>wrS s y.1) FH.none) f a m
theorem yU:type_of% (nq Gac.eq_1):=nq Gac.eq_1
theorem VZ:aW Tryz.prog Gac:=FH.aT (λy _=>aAB y.1 y.2.1)<|
 FH.FB (by kernel_rfl) (λs y h=>am2 s y.1 y.2.1 h.1 h.2.1 h.2.2)<|FH.FB (by kernel_rfl) (λs y _=>afV s y.1 y.2.1) FH.none_ok
theorem afW(s:Cl)(e:Ev)(c:ji)(hs:okC s)(h1:0<=e.aC)(h2:e.aC<6):
  FnOK Tryz.prog 135 [.ptr 0 [] 0,aO.aA e,bU.aA c] [.blk 216 (IK.aA s)] (.int .i64 (Rw s e c)) [.blk 216 (IK.aA (GN s e c))]:=by
 refine fn_walkA j135 [.tmp 6] 27 VZ rfl ?_;unfold j135;have ho:qp c e.aC=(epN c e.aC,0):=by unfold qp;rw[if_pos ((vI _).2 ⟨h1,h2⟩)];rfl
 have ha:(epN c e.aC).a=e.aC:=rfl;have hb:(epN c e.aC).b=c e.aC.toNat:=rfl;unfold GN Rw;by_cases hk:e.kind=1
 ·rw[if_pos hk,if_pos hk];simp only[go_sem,seval,yU,ho,hk,hs,h1,h2,ha];exact⟨rfl,rfl⟩
 ·rw[if_neg hk,if_neg hk];simp only[go_sem,seval,yU,ho,hk]
def jG:Cl:=⟨⟨0,0⟩, .inl ⟨0,0⟩,0⟩
theorem aa3:FnOK Tryz.prog 134 [] [] (.ptr 0 [] 0) [.blk 216 (IK.aA jG)]:=by refine fn_walkA j134 [.tmp 0] 5 FH.none_ok rfl ?_;unfold j134;simp only[go_sem,seval];rfl
end Go.Proofs.YtgnaipcjbmhihaaGreatDoor.Fa
end
section
set_option maxRecDepth 100000
open Go Go.Sx Go.Proofs
namespace Go.Proofs.YtgnaipcjbmhihaaGreatDoor.Fa
open D Tr C Fu
def AY:JC:=(qN (qA 26 25 8<|.nil) (.seq (qO 26 .skip (.exit 0)) (.seq (.block 1 (qN (o7 27 25<|o7 8 27<|.nil) (.ops<|o7 28 8<|qL [7,28,25,0]<|eo 29 (.call 134 [])<|oL 30 8 1 7 28<|oG 1 30 29<|.nil))) (qM [25,7,0] (.ops<|oJ 31 25 1<|o7 25 31<|.nil)))))
def Zz:JC:=(qN (oO 36 35 34<|.nil) (.seq (qO 36 .skip (.exit 2)) (.seq (.block 3 (qN (o7 37 35<|oK 38 3 33 35<|oC 39 3 38<|qK 12 56<|o7 11 37<|oG 3 12 39<|.nil) (qM [12,10,35,34,33,7,9,11] (qN (oD 40 0 0 12<|o9 41 1 40<|qC 42 41 1<|o7 43 42<|qL [43,12,10,35,34,33,7,9,11]<|.sc false 47 43 (oD 44 0 0 12<|o9 45 1 44<|qC 46 45 2<|.nil) (.t 46)<|.nil) (qM [47,10,12,35,34,33,7,9,11] (qO 47 (.ops<|o7 48 10<|oC 49 3 12<|qE 50 132 48 49<|.nil) (.seq (.bJ<|oD 51 2 2 12<|o9 52 1 51<|oL 53 8 1 7 52<|qL [53,12,10,9,11,35,34,33,7]<|o9 54 1 53<|oC 55 3 12<|o7 56 10<|oD 57 1 1 12<|o9 58 1 57<|oQ 59 56<|qL [59,58,54,55,9,11,12,35,34,33,10,7]<|oD 60 0 0 59<|oL 61 6 6 60 58<|qL [61,54,55,9,11,12,35,34,33,10,7]<|oC 62 6 61<|eo 63 (.call 135 [(.t 54),(.t 55),(.t 62)])<|o7 13 63<|.nil) (qM [13,9,11,12,35,34,33,10,7] (qN (o7 64 13<|qC 65 64 0<|.nil) (qM [65,9,11,12,13,35,34,33,10,7] (qO 65 (.ops<|o7 66 9<|o7 67 11<|qL [12,13,67,66,35,34,33,10,7]<|oD 68 2 2 12<|o9 69 1 68<|o7 70 13<|qL [67,69,70,66,35,34,33,10,7]<|qo 71 (.lF (.agg [(.int .i64 0),(.int .i64 0),(.int .i64 0)]) [([.eG 0],0,1,(.t 67)),([.eG 1],1,1,(.t 69)),([.eG 2],2,1,(.t 70))])<|qL [71,66,35,34,33,10,7]<|eo 72 (.qj 110 3 1 (.agg [(.int .i64 0),(.int .i64 0),(.int .i64 0)]) [(0,(.t 71))])<|oW 73 110 3 24 66 72<|o7 9 73<|.nil) .skip))))))))))) (qM [35,34,33,10,7,9] (.ops<|oJ 74 35 1<|o7 35 74<|.nil)))))
def afX:JC:=(qN (qA 77 76 8<|.nil) (.seq (qO 77 .skip (.exit 4)) (.seq (.block 5 (qN (qo 78 (.ix 8 1 false (.t 75) (.t 76))<|o7 16 78<|.nil) (.ops<|o7 79 14<|qL [16,79,76,75,9]<|o7 80 16<|oQ 81 80<|oD 82 2 3 81<|qL [82,79,76,75,9]<|o9 83 1 82<|qo 84 (.ar .add (.t 79) (.t 83))<|o7 14 84<|.nil))) (qM [76,75,14,9] (.ops<|oJ 85 76 1<|o7 76 85<|.nil)))))
def aro:JC:=(qM [9,14] (qN (o7 86 9<|o7 87 14<|o7 2 86<|o7 3 87<|o8 4 0<|.nil) (.bn 2 110 3 .ret)))
def arp:JC:=(qM [7,9] (qN (o8 14 0<|.nil) (.seq (qN (oC 75 8 7<|o8 76 0<|.nil) (.block 4 (.loop [75,9] [76,14] afX))) aro)))
def arq:JC:=(qM [0,7] (qN (oU 9<|.nil) (qN (eo 32 (.call 131 [])<|o7 10 32<|.nil) (.seq (qN (o7 33 0<|oP 34 33<|o8 35 0<|.nil) (.block 2 (.bn 9 110 3 (.loop [34,33,10,7] [35,9] Zz)))) arp))))
def j96:JC:=(qN (oU 2<|o8 3 0<|o8 4 0<|.nil) (.seq (qN (o7 18 0<|oM 19 49 18<|o7 17 19<|oN 20 0 17<|qL [17,20,0]<|oN 21 1 17<|o7 5 20<|o7 6 21<|.nil) (qM [6,0] (qN (o7 22 6<|qC 23 22 0<|.nil) (qO 23 (qN (o7 24 6<|oU 2<|o8 3 0<|o7 4 24<|.nil) (.bn 2 110 3 .ret)) .skip)))) (qM [0] (qN (eo 7 (.alloc 209 (.arr 8 1 λ_=> .jr))<|.nil) (.seq (qN (o8 25 0<|.nil) (.block 0 (.loop [7,0] [25] AY))) arq)))))
theorem c96:fnIs Tryz.prog (aaW [135]) 96=some (j96.flat,[.tmp 2, .tmp 3, .tmp 4],88):=by kernel_rfl
theorem w96:j96.wf 88=true:=by kernel_rfl
def gJ(l:List Ev):Nat->Nat->Cl
 |0,_=>jG
 |i+1,x=>if cO (l.getD i aO.aI)=true then(if x=(l.getD i aO.aI).obj.toNat then GN (gJ l i x) (l.getD i aO.aI) ((runK l i).aC (l.getD i aO.aI).aC.toNat) else gJ l i x) else gJ l i x
def jF(l:List Ev)(i:Nat):Int:=if cO (l.getD i aO.aI)=true then Rw (gJ l i (l.getD i aO.aI).obj.toNat) (l.getD i aO.aI) ((runK l i).aC (l.getD i aO.aI).aC.toNat) else 0
def lK(l:List Ev):Nat->List Fl
 |0=>[]
 |i+1=>lK l i++if jF l i=0 then[] else[⟨i,(l.getD i aO.aI).obj,jF l i⟩]
theorem Aa{l:List Ev}:∀ i,(lK l i).length<=i
 |0=>z0h _
 |i+1=>by have:=Aa (l:=l) i;rw[lK,z00];split<;>simp<;>omega
theorem atJ{s:Cl}{e:Ev}{c:ji}{n:Int}(hs:okC s)(hn:s.slow<=n)(hn2:n<1000)(h1:0<=e.aC)(h2:e.aC<6):okC (GN s e c)/\(GN s e c).slow<=n+1:=by
 obtain⟨w,r,sl⟩:=s;obtain⟨a1,a2,a3⟩:=hs;simp only at a1 a2 a3 hn;unfold GN;split
 ·unfold rdS;cases r with
  |inl p=>
   simp only;split
   ·exact⟨⟨a1,a2,a3⟩,by simp only;omega⟩
   ·split
    ·exact⟨⟨a1,a2,⟨h1,h2⟩⟩,by simp only;omega⟩
    ·exact⟨⟨by simp only;omega,by simp only;omega,trivial⟩,by simp only;omega⟩
  |inr d=>exact⟨⟨a1,a2,trivial⟩,by simp only;omega⟩
 ·unfold wrS;split
  ·exact⟨⟨a1,a2,a3⟩,by simp only;omega⟩
  ·cases r with
   |inl p=>exact⟨⟨a1,a2,a3⟩,by simp only;omega⟩
   |inr d=>exact⟨⟨a1,a2,by simp⟩,by simp only;omega⟩
theorem OA{l:List Ev}(hok:(aF l).2=0):∀ i,i<=l.length->∀ x,okC (gJ l i x)/\(gJ l i x).slow<=i
 |0,_,x=>⟨⟨z0r _,by show(0:Int)<=1000;omega,by show(0:Int)<=0/\(0:Int)<6;omega⟩,z0r _⟩
 |i+1,h,x=>by
  obtain⟨h1,h2⟩:=OA hok i (by omega) x
  obtain⟨b1,b2,b3,b4⟩:=(bC _).1 (jq hok i (by omega))
  have hl:=bP hok;unfold gJ;split
  ·split
   ·have:=atJ (c:=(runK l i).aC (l.getD i aO.aI).aC.toNat) h1 h2 (by omega) b1 b2
    exact⟨this.1,by have:=this.2;omega⟩
   ·exact⟨h1,by omega⟩
  ·exact⟨h1,by omega⟩
def pf(n:Nat):Nat->SV:=λi=>if i<n then .ptr (i+1) [] 0 else .jr
theorem am4:(λ_:Nat=>SV.jr)=pf 0:=by funext i;simp[pf]
theorem yV(n:Nat):wS (pf n) n (.ptr (n+1) [] 0)=pf (n+1):=by
 funext k
 unfold wS pf;by_cases h:k=n
 ·subst h;simp
 ·rw[if_neg h];by_cases h2:k<n
  ·rw[if_pos h2,if_pos (by omega)]
  ·rw[if_neg h2,if_neg (by omega)]
theorem ars{n i:Nat}(h:i<n):pf n i= .ptr (i+1) [] 0:=by simp[pf,h]
theorem atK(n N:Nat)(h:n+1<=N):ren (ug N) (.arr 8 1 (pf n))= .arr 8 1 (pf n):=by
 simp only[Sx.ren]
 congr 1
 funext i
 unfold pf;split
 ·simp only[Sx.ren,kS,ug];rw[if_pos (by omega)]
 ·rfl
theorem atL(s:Cl):IK.aA s= .agg [jo.aA s.wr,dRd.aA s.rd, .int .i64 s.slow]:=nr rfl
theorem ax8(r:Pr ⊕ ji):wd (dRd.aA r)=1:=by cases r<;>rfl
@[reducible] def cb(s:Cl):ay:= .blk 216 (IK.aA s)
def wU:Nat->List ay
 |0=>[]
 |1=>[cb jG]
 |2=>[cb jG,cb jG]
 |3=>[cb jG,cb jG,cb jG]
 |4=>[cb jG,cb jG,cb jG,cb jG]
 |5=>[cb jG,cb jG,cb jG,cb jG,cb jG]
 |6=>[cb jG,cb jG,cb jG,cb jG,cb jG,cb jG]
 |7=>[cb jG,cb jG,cb jG,cb jG,cb jG,cb jG,cb jG]
 |8=>[cb jG,cb jG,cb jG,cb jG,cb jG,cb jG,cb jG,cb jG]
 |_=>[]
theorem atM:wU 0=[]:=rfl
theorem atN:wU 1=[cb jG]:=rfl
theorem atO:wU 2=[cb jG,cb jG]:=rfl
theorem atQ:wU 3=[cb jG,cb jG,cb jG]:=rfl
theorem atS:wU 4=[cb jG,cb jG,cb jG,cb jG]:=rfl
theorem atT:wU 5=[cb jG,cb jG,cb jG,cb jG,cb jG]:=rfl
theorem atU:wU 6=[cb jG,cb jG,cb jG,cb jG,cb jG,cb jG]:=rfl
theorem atV:wU 7=[cb jG,cb jG,cb jG,cb jG,cb jG,cb jG,cb jG]:=rfl
theorem atW:wU 8=[cb jG,cb jG,cb jG,cb jG,cb jG,cb jG,cb jG,cb jG]:=rfl
theorem FC(n i:Nat):wd (pf n i)=1:=by unfold pf;split<;>rfl
theorem aAS(n i:Nat):(pf n i).isAgg=false:=by unfold pf;split<;>rfl
theorem IQ(n N:Nat)(h:n+1<=N):(λk=>ren (ug N) (pf n k))=pf n:=by have:=atK n N h;simp only[Sx.ren] at this;injection this
theorem am5:(λk=>ren (ug 11) (kill 10 (pf 8 k)))=pf 8:=by
 funext k
 unfold pf;split
 ·simp only[Sx.kill,Sx.ren,kS,ug];rw[if_pos (by omega)]
 ·rfl
theorem afY{x:Nat}(h:x<=8):(wU x).length=x/\∀ y∈wU x,y=cb jG:=by
 have hxs:x=0\/x=1\/x=2\/x=3\/x=4\/x=5\/x=6\/x=7\/x=8:=by omega
 rcases hxs with rfl|rfl|rfl|rfl|rfl|rfl|rfl|rfl|rfl<;>exact⟨rfl,by simp[wU]⟩
theorem pJ{x:Nat}(h:x<=8):ay.blk 209 (.arr 8 1 λk=>ren (ug ((wU x).length+1)) (pf x k))::List.map (dM (ug ((wU x).length+1))) (List.take (wU x).length (wU x))=ay.blk 209 (.arr 8 1 (pf x))::wU x:=by
 obtain⟨h1,h2⟩:=afY h;rw[IQ x _ (by omega),z0g]
 congr 1
 conv=>rhs;rw[<- List.map_id (wU x)]
 apply List.map_congr_left;intro y hy;rw[h2 y hy];simp only[cb,dM,IK.ren,id]
theorem afZ(s:Cl):PlR (.blk 216 (IK.aA s)):=λr=>by
 obtain⟨w,q,sl⟩:=s;rw[show dM r (.blk 216 (IK.aA ⟨w,q,sl⟩))= .blk 216 (IK.aA ⟨w,q,sl⟩) by simp only[dM,IK.ren]]
 show Ir _;cases q with
 |inl p=>
  rw[afS];exact wQ (by intro x hx;simp only[z05,z02,or_false] at hx;rcases hx with rfl|rfl|rfl<;>first|exact kY _ _|exact wQ (by intro x hx;simp only[z05,z02,or_false] at hx;rcases hx with rfl|rfl<;>exact kY _ _)|exact zX (wQ (by intro x hx;simp only[z05,z02,or_false] at hx;subst hx;exact wQ (by intro x hx;simp only[z05,z02,or_false] at hx;rcases hx with rfl|rfl<;>exact kY _ _))))
 |inr d=>
  rw[Zw];exact wQ (by intro x hx;simp only[z05,z02,or_false] at hx;rcases hx with rfl|rfl|rfl<;>first|exact kY _ _|exact wQ (by intro x hx;simp only[z05,z02,or_false] at hx;rcases hx with rfl|rfl<;>exact kY _ _)|exact zX (Oq λ_ _=>kY _ _))
def Gfr(f:FuncId)(a:List SV)(m:List ay):Sx.Call:=(FH.rd 49 (.one dw) (.two .int .int) (λ_=>True) (λy=>(aK y.1).2)<|
 FH.mk 134 .nil (λ_=>True) (λ_=> .ptr 0 [] 0) (λ_=>[.blk 216 (IK.aA jG)])<|
 FH.mk 131 .nil (λ_=>True) (λ_=> .ptr 0 [] 0) (λ_=>[.blk 207 (KZ.aA (yX 6))])<|
 FH.mt 132 207 KZ (.one aO) DR.unit (λ_ y=>iI y.1=true) (λ_ _=>()) (λk y=>lM k y.1)<|
 FH.mt 135 216 IK (.two aO bU) (.one .int) (λs y=>okC s/\0<=y.1.aC/\y.1.aC<6) (λs y=>Rw s y.1 y.2.1) (λs y=>GN s y.1 y.2.1) FH.none) f a m
theorem kL:type_of% (nq Gfr.eq_1):=nq Gfr.eq_1
theorem OB:aW Tryz.prog Gfr:=FH.aT (λy _=>lY y.1)<|
 FH.eu (λ_ _=>cZ (V3 _ _ _) ⟨afZ _,trivial⟩) (λ_ _=>aa3)<|
 FH.eu (λ_ _=>cZ (V3 _ _ _) ⟨OC _ KZ _,trivial⟩) (λ_ _=>aru)<|
 FH.FB (by kernel_rfl) (λk y h=>af0 k y.1 h)<|FH.FB (by kernel_rfl) (λs y h=>afW s y.1 y.2.1 h.1 h.2.1 h.2.2) FH.none_ok
def uM(f:Nat->Cl):Nat->Int
 |0=>0
 |k+1=>uM f k+(f k).slow
theorem aDR:qm Tryz.prog 209=some (8,true):=by kernel_rfl
theorem Rx(l:List Ev)(hok:(aF l).2=0):FnOK Tryz.prog 96 [dw.aA l] [] (.bK [.vec 0 (lK l l.length).length, .int .i64 (uM (gJ l l.length) 8), .int .i64 0]) [.vec 110 3 ((lK l l.length).map jL.aA)]:=by
 have hl:=bP hok;have he:(aK l).2.2=0:=by rw[iE];exact hok
 refine fn_walkF c96 w96 OB rfl ?_;unfold j96;simp only[go_sem,seval,kL,he,am4];refine aZ Nat (λx=>[.int .i64 x]) (λx=> .blk 209 (.arr 8 1 (pf x))::wU x) (λx=>x<=8) (λx=>8 - x) 0 (by omega) ?_ rfl ?_
 ·simp only[go_sem,seval]
 intro x hx;by_cases h8:x<8
 ·have hxs:x=0\/x=1\/x=2\/x=3\/x=4\/x=5\/x=6\/x=7:=by omega
  rcases hxs with rfl|rfl|rfl|rfl|rfl|rfl|rfl|rfl
  ·unfold AY;simp only[go_sem,seval,kL,atM,yV,FC];exact⟨1,by omega,by omega,aY,pJ (x:=1) (by omega)⟩
  ·unfold AY;simp only[go_sem,seval,kL,atN,yV,FC];exact⟨2,by omega,by omega,aY,pJ (x:=2) (by omega)⟩
  ·unfold AY;simp only[go_sem,seval,kL,atO,yV,FC];exact⟨3,by omega,by omega,aY,pJ (x:=3) (by omega)⟩
  ·unfold AY;simp only[go_sem,seval,kL,atQ,yV,FC];exact⟨4,by omega,by omega,aY,pJ (x:=4) (by omega)⟩
  ·unfold AY;simp only[go_sem,seval,kL,atS,yV,FC];exact⟨5,by omega,by omega,aY,pJ (x:=5) (by omega)⟩
  ·unfold AY;simp only[go_sem,seval,kL,atT,yV,FC];exact⟨6,by omega,by omega,aY,pJ (x:=6) (by omega)⟩
  ·unfold AY;simp only[go_sem,seval,kL,atU,yV,FC];exact⟨7,by omega,by omega,aY,pJ (x:=7) (by omega)⟩
  ·unfold AY;simp only[go_sem,seval,kL,atV,yV,FC];exact⟨8,by omega,by omega,aY,pJ (x:=8) (by omega)⟩
 ·have e:x=8:=by omega
  subst e;unfold AY;simp only[go_sem,seval,atW];unfold arq;simp only[go_sem,seval,kL];refine aZ Nat (λi=>[.int .i64 i, .vec 10 (lK l i).length]) (λi=>[.blk 209 (.arr 8 1 (pf 8)),cb (gJ l i 0),cb (gJ l i 1),cb (gJ l i 2),cb (gJ l i 3),cb (gJ l i 4),cb (gJ l i 5),cb (gJ l i 6),cb (gJ l i 7), .blk 207 (KZ.aA (runK l i)), .vec 110 3 ((lK l i).map jL.aA)]) (λi=>i<=l.length) (λi=>l.length - i) 0 (by omega) ?_ rfl ?_
  ·simp only[go_sem,seval];rfl
  intro i hi;by_cases h1:i<l.length
  ·have h1':(i:Int)<l.length:=by omega
   have hw:z01.wrap ((i:Int)+1)=((i+1:Nat):Int):=aY;have hev:=jq hok i h1;obtain⟨b1,b2,b3,b4⟩:=(bC _).1 hev;obtain⟨t,ht,ht6⟩:∃ t:Nat,(l.getD i aO.aI).aC=t/\t<6:=⟨(l.getD i aO.aI).aC.toNat,by omega,by omega⟩
   obtain⟨o,ho⟩:∃ o:Nat,(l.getD i aO.aI).obj=o:=⟨(l.getD i aO.aI).obj.toNat,by omega⟩
   have hlen:=Aa (l:=l) i;have hcl:=OA hok i (by omega)
   cases ha:cO (l.getD i aO.aI) with
   |false=>
    have ha':=ha;simp only[cO,z0p,decide_eq_false_iff_not] at ha';have k1:=ha'.1;have k2:=ha'.2;have hf:jF l i=0:=by rw[jF,if_neg (by rw[ha];simp)]
    unfold Zz;simp only[go_sem,seval,kL,h1',hw,k1,k2,hev];have hrx:gJ l (i+1)=gJ l i:=by funext x;rw[gJ,if_neg (by rw[ha];simp)]
    have hrk:runK l (i+1)=lM (runK l i) (l.getD i aO.aI):=by rw[runK,if_neg (by rw[ha];simp)]
    have hrl:lK l (i+1)=lK l i:=by rw[lK,if_pos hf,z03]
    exact⟨by omega,i+1,by omega,by omega,⟨rfl,by rw[hrl]⟩,by rw[hrx,hrk,hrl,IQ 8 11 (by omega)]⟩
   |true=>
    have ho8:o<8:=by
     have:many (l.getD i aO.aI).kind=8:=by simp only[cO,z07,decide_eq_true_eq] at ha;simp only[many,if_pos ha]
     omega
    have hnk:(!decide ((l.getD i aO.aI).kind=1)&& !decide ((l.getD i aO.aI).kind=2))=false:=by simp only[cO,z07,decide_eq_true_eq] at ha;rcases ha with ha|ha<;>rw[ha]<;>decide
    have hfl:jF l i=Rw (gJ l i o) (l.getD i aO.aI) ((runK l i).aC t):=by rw[jF,if_pos ha,ht,ho,z04,z04]
    have hee:(⟨(l.getD i aO.aI).kind,(t:Int),(o:Int)⟩:Ev)=l.getD i aO.aI:=by rw[<- ht,<- ho]
    have hrx:∀ x,gJ l (i+1) x=if x=o then GN (gJ l i o) (l.getD i aO.aI) ((runK l i).aC t) else gJ l i x:=by
     intro x;rw[gJ,if_pos ha,ht,ho,z04,z04];by_cases e:x=o
     ·subst e;rfl
     ·rw[if_neg e,if_neg e]
    have hrk:runK l (i+1)=runK l i:=by rw[runK,if_pos ha]
    have hoc:=(hcl o).1;obtain⟨c,hc⟩:∃ c:Int,c=o:=⟨_,rfl⟩;have hos:o=0/\c=0\/o=1/\c=1\/o=2/\c=2\/o=3/\c=3\/o=4/\c=4\/o=5/\c=5\/o=6/\c=6\/o=7/\c=7:=by omega
    have hrl:jF l i=0->lK l (i+1)=lK l i:=λhf=>by rw[lK,if_pos hf,z03]
    have hrl2:¬ jF l i=0->lK l (i+1)=lK l i++[⟨i,(l.getD i aO.aI).obj,jF l i⟩]:=λhf=>by rw[lK,if_neg hf]
    rw[<- hc] at ho hee;rcases hos with⟨rfl,rfl⟩|⟨rfl,rfl⟩|⟨rfl,rfl⟩|⟨rfl,rfl⟩|⟨rfl,rfl⟩|⟨rfl,rfl⟩|⟨rfl,rfl⟩|⟨rfl,rfl⟩<;>
     (unfold Zz
      simp only[go_sem,seval,kL,h1',hw,hnk,hev,ht,ho,hee,hoc,hfl.symm,ars];refine⟨by omega,⟨by omega,by omega⟩,⟨by omega,by omega⟩,λhf=>⟨by omega,i+1,by omega,by omega,⟨rfl,by rw[hrl2 hf,z00];rfl⟩,?_⟩,λhf=>⟨i+1,by omega,by omega,⟨rfl,by rw[hrl hf]⟩,?_⟩⟩
      ·rw[hrl2 hf,hrk,am5,z06,ho];simp only[hrx,seval];rfl
      ·rw[hrl hf,hrk,IQ 8 11 (by omega)]
       simp only[hrx,seval])
  ·have h1':¬ (i:Int)<l.length:=by omega
   have e:i=l.length:=by omega
   subst e;unfold Zz;simp only[go_sem,seval,h1'];unfold arp;simp only[go_sem,seval];have hc:=OA hok l.length (z0h _);refine aZ Nat (λk=>[.int .i64 k, .int .i64 (uM (gJ l l.length) k)]) (λ_=>[.blk 209 (.arr 8 1 (pf 8)),cb (gJ l l.length 0),cb (gJ l l.length 1),cb (gJ l l.length 2),cb (gJ l l.length 3),cb (gJ l l.length 4),cb (gJ l l.length 5),cb (gJ l l.length 6),cb (gJ l l.length 7), .blk 207 (KZ.aA (runK l l.length)), .vec 110 3 ((lK l l.length).map jL.aA)]) (λk=>k<=8) (λk=>8 - k) 0 (by omega) ?_ ?_ ?_
   ·simp only[go_sem,seval];rfl
   ·rfl
   intro k hk;have hb:∀ x,0<=uM (gJ l l.length) x/\uM (gJ l l.length) x<=x*80:=by
    intro x
    induction x with
    |zero=>exact⟨z0r _,z0r _⟩
    |succ x ih=>
     have h1:=(hc x).2;have h2:=(hc x).1.1;rw[uM]
     push_cast
     omega
   have hv:∀ x,x<8->z01.wrap (uM (gJ l l.length) x+(gJ l l.length x).slow)=uM (gJ l l.length) (x+1):=by
    intro x hx;have h1:=hb (x+1);rw[uM] at h1 ⊢
    push_cast at h1
    exact aY
   by_cases h8:k<8
   ·have hks:k=0\/k=1\/k=2\/k=3\/k=4\/k=5\/k=6\/k=7:=by omega
    obtain⟨q,hq⟩:∃ q,q=k+1:=⟨_,rfl⟩;rcases hks with rfl|rfl|rfl|rfl|rfl|rfl|rfl|rfl<;>
     (unfold afX
      simp only[go_sem,seval,ars,atL,ax8];exact⟨q,by omega,by omega,⟨(aY).trans (by omega),by rw[hq];exact hv _ (by omega)⟩,by rw[IQ 8 11 (by omega)],by rw[IQ 8 11 (by omega)];rfl⟩)
   ·have e:k=8:=by omega
    subst e;unfold afX;simp only[go_sem,seval];unfold aro;simp only[go_sem,seval]
end Go.Proofs.YtgnaipcjbmhihaaGreatDoor.Fa
end
end
section
section
set_option maxRecDepth 100000
open Go Go.Sx Go.Proofs
namespace Go.Proofs.YtgnaipcjbmhihaaGreatDoor.Fu
open D Tr Rc
def kR(rs:List Rc)(j:Int):Nat->Int
 |0=>0
 |i+1=>if (rs.getD i kZ.aI).b=j/\(kR rs j i=0\/(rs.getD i kZ.aI).kind<kR rs j i) then(rs.getD i kZ.aI).kind else kR rs j i
def xQ(l:List Ev)(j:Nat):Int:=kR (aU l) j (aU l).length
def jE(l:List Ev):Nat->List Fl
 |0=>[]
 |j+1=>jE l j++if 0<xQ l j then[⟨j,(l.getD j aO.aI).obj,xQ l j⟩] else[]
theorem Ap{l:List Ev}:∀ i,(jE l i).length<=i
 |0=>z0h _
 |i+1=>by have:=Ap (l:=l) i;rw[jE,z00];split<;>simp<;>omega
def sK(e:Ev):Bool:=decide (e.kind=4)||decide (e.kind=5)||decide (e.kind=8)
def yu(c:ji)(t:Nat)(v:Int):ji:=λk=>if k=t then v else c k
def xI(l:List Ev):Nat->ji
 |0=>λ_=>0
 |i+1=>if sK (l.getD i aO.aI)=true then yu (xI l i) (l.getD i aO.aI).aC.toNat (z01.wrap (xI l i (l.getD i aO.aI).aC.toNat+1)) else xI l i
def jd(l:List Ev)(k x:Int):Nat->ji
 |0=>λ_=>0
 |i+1=>if (l.getD i aO.aI).kind=k/\(l.getD i aO.aI).obj=x then yu (jd l k x i) (l.getD i aO.aI).aC.toNat (z01.wrap (xI l i (l.getD i aO.aI).aC.toNat+1)) else jd l k x i
def ajb:JC:=(qN (oO 28 27 26<|.nil) (qM [28,25,27,9,10,26,7,0,22,21,8,1,5,6] (.seq (qO 28 .skip (.exit 2)) (qM [25,27,9,10,26,7,0,22,21,8,1,5,6] (.seq (.block 3 (qN (oK 29 4 25 27<|oC 30 4 29<|eo 12 (.alloc 67 (.agg [(.int .i64 0),(.int .i64 0),(.int .i64 0),(.int .i64 0)]))<|oG 4 12 30<|.nil) (qM [12,9,10,27,26,25,7,0,22,21,8,1,5,6] (qN (oD 31 1 1 12<|o9 32 1 31<|o7 33 9<|oZ 34 32 33<|qL [34,10,12,27,26,25,9,7,0,22,21,8,1,5,6]<|o7 35 34<|.sc false 44 35 (o7 36 10<|oH 37 36 0<|o7 38 37<|.sc true 43 38 (oD 39 3 3 12<|o9 40 1 39<|o7 41 10<|oO 42 40 41<|.nil) (.t 42)<|.nil) (.t 43)<|.nil) (qM [44,12,27,26,25,9,7,0,22,21,8,1,5,6,10] (qO 44 (.ops<|oD 45 3 3 12<|o9 46 1 45<|o7 10 46<|.nil) .skip)))))) (qM [27,26,25,9,10,7,0,22,21,8,1,5,6] (.ops<|oJ 47 27 1<|o7 27 47<|.nil)))))))
def asE:JC:=(qM [10,7,9,0,22,21,8,1,5,6] (qN (o7 48 10<|qJ 49 48 0<|.nil) (qM [49,7,9,0,10,22,21,8,1,5,6] (qO 49 (.ops<|o7 50 7<|o7 51 9<|o7 52 0<|o7 53 9<|qL [52,53,10,51,50,22,21,8,0,1,5,6]<|oK 54 3 52 53<|oD 55 2 2 54<|qL [55,10,51,50,22,21,8,0,1,5,6]<|o9 56 1 55<|o7 57 10<|qo 58 (.lF (.agg [(.int .i64 0),(.int .i64 0),(.int .i64 0)]) [([.eG 0],0,1,(.t 51)),([.eG 1],1,1,(.t 56)),([.eG 2],2,1,(.t 57))])<|qL [58,50,22,21,8,0,1,5,6]<|eo 59 (.qj 110 3 1 (.agg [(.int .i64 0),(.int .i64 0),(.int .i64 0)]) [(0,(.t 58))])<|oW 60 110 3 24 50 59<|o7 7 60<|.nil) .skip))))
def ajc:JC:=(qM [22,21,8,7,0,1,5,6] (.ops<|oJ 61 22 1<|o7 22 61<|.nil))
def ajd:JC:=(qN (oO 23 22 21<|.nil) (.seq (qO 23 .skip (.exit 0)) (.seq (.block 1 (qN (o7 24 22<|o7 9 24<|.nil) (qM [8,9,7,0,22,21,1,5,6] (qN (o8 10 0<|.nil) (qM [8,9,10,7,0,22,21,1,5,6] (.seq (qN (o7 25 8<|oP 26 25<|o8 27 0<|.nil) (qM [27,26,25,9,10,7,0,22,21,8,1,5,6] (.block 2 (.loop [26,25,9,7,0,22,21,8,1,5,6] [27,10] ajb)))) asE)))))) ajc)))
def Np:JC:=(qN (oO 65 64 63<|.nil) (qM [65,62,64,13,63,1,14,15,7,5,6] (.seq (qO 65 .skip (.exit 4)) (qM [62,64,13,63,1,14,15,7,5,6] (.seq (.block 5 (qN (oK 66 3 62 64<|oC 67 3 66<|qK 17 56<|oG 3 17 67<|.nil) (qM [17,13,64,63,62,1,14,15,7,5,6] (.block 6 (qN (oD 69 0 0 17<|o9 70 1 69<|oH 71 70 4<|o7 72 71<|qL [72,17,13,64,63,62,1,14,15,7,5,6]<|.sc true 76 72 (oD 73 0 0 17<|o9 74 1 73<|oH 75 74 5<|.nil) (.t 75)<|o7 77 76<|.sc true 81 77 (oD 78 0 0 17<|o9 79 1 78<|oH 80 79 8<|.nil) (.t 80)<|o7 68 81<|.nil) (qM [68,17,13,64,63,62,1,14,15,7,5,6] (qO 68 (.ops<|oD 82 1 1 17<|o9 83 1 82<|qL [13,83,64,63,62,1,14,15,7,5,6]<|oL 84 6 1 13 83<|o9 85 1 84<|oJ 86 85 1<|oL 87 6 1 13 83<|oG 1 87 86<|.nil) (qN (oD 89 0 0 17<|o9 90 1 89<|oH 91 90 1<|qL [91,17,1,13,14,64,63,62,15,7,5,6]<|o7 92 91<|.sc false 97 92 (oD 93 2 2 17<|o9 94 1 93<|o7 95 1<|oZ 96 94 95<|.nil) (.t 96)<|o7 88 97<|.nil) (qM [88,17,13,14,64,63,62,1,15,7,5,6] (qO 88 (.bJ<|oD 98 1 1 17<|o9 99 1 98<|oD 100 1 1 17<|qL [100,13,14,99,64,63,62,1,15,7,5,6]<|o9 101 1 100<|oL 102 6 1 13 101<|o9 103 1 102<|qL [103,14,99,64,63,62,13,1,15,7,5,6]<|oJ 104 103 1<|oL 105 6 1 14 99<|oG 1 105 104<|.nil) (qN (oD 107 0 0 17<|o9 108 1 107<|oH 109 108 2<|qL [109,17,1,13,15,64,63,62,14,7,5,6]<|o7 110 109<|.sc false 115 110 (oD 111 2 2 17<|o9 112 1 111<|o7 113 1<|oZ 114 112 113<|.nil) (.t 114)<|o7 106 115<|.nil) (qM [106,17,13,15,64,63,62,1,14,7,5,6] (qO 106 (.bJ<|oD 116 1 1 17<|o9 117 1 116<|oD 118 1 1 17<|qL [118,13,15,117,64,63,62,1,14,7,5,6]<|o9 119 1 118<|oL 120 6 1 13 119<|o9 121 1 120<|qL [121,15,117,64,63,62,13,1,14,7,5,6]<|oJ 122 121 1<|oL 123 6 1 15 117<|oG 1 123 122<|.nil) .skip))))))))))))) (qM [64,63,62,13,1,14,15,7,5,6] (.ops<|oJ 124 64 1<|o7 64 124<|.nil)))))))
def asF:JC:=(qM [7,14,15,5,6] (.seq (.bJ<|o7 125 7<|oC 126 6 14<|oC 127 6 15<|o7 4 125<|qL [5,126,127,15,6,4]<|oG 6 5 126<|en (.again 6 true (.t 15) 127)<|oG 6 6 127<|.nil) (.bn 4 110 3 .ret)))
def asG:JC:=(qM [0,1,7,5,6] (qN (eo 13 (.alloc 70 (.arr 6 1 λ_=>(.int .i64 0)))<|eo 14 (.alloc 70 (.arr 6 1 λ_=>(.int .i64 0)))<|eo 15 (.alloc 70 (.arr 6 1 λ_=>(.int .i64 0)))<|.nil) (.seq (qN (o7 62 0<|oP 63 62<|o8 64 0<|.nil) (qM [64,63,62,13,1,14,15,7,5,6] (.block 4 (.loop [63,62,13,1,14,15,7,5,6] [64] Np)))) asF)))
def j37:JC:=(qN (oU 4<|eo 5 (.alloc 70 (.arr 6 1 λ_=>(.int .i64 0)))<|eo 6 (.alloc 70 (.arr 6 1 λ_=>(.int .i64 0)))<|.nil) (qN (oU 7<|.nil) (qN (o7 18 0<|oM 19 35 18<|o7 8 19<|.nil) (.seq (qN (o7 20 0<|oP 21 20<|o8 22 0<|.nil) (qM [22,21,8,7,0,1,5,6] (.block 0 (.bn 7 110 3 (.loop [21,8,0,1,5,6] [22,7] ajd))))) asG))))
def Gfu(f:FuncId)(a:List SV)(m:List ay):Sx.Call:=(FH.mk 35 (.one dw) (λy=>(aF y.1).2=0) (λy=> .vec 0 (aU y.1).length) (λy=>[.vec 67 4 ((aU y.1).map kZ.aA)]) FH.none) f a m
theorem avS:type_of% (nq Gfu.eq_1):=nq Gfu.eq_1
theorem avT:aW Tryz.prog Gfu:=FH.eu (λy _=>cZ (nM _ _) ⟨bY _ _ kZ _,trivial⟩) (λy h=>II y.1 h) FH.none_ok
theorem GZ:qm Tryz.prog 70=some (6,true):=by kernel_rfl
theorem PV{rs:List Rc}{i:Nat}(h:i<rs.length):(rs.map kZ.aA).getD i .junk= .agg [.int .i64 (rs.getD i kZ.aI).a, .int .i64 (rs.getD i kZ.aI).b, .int .i64 (rs.getD i kZ.aI).var, .int .i64 (rs.getD i kZ.aI).kind]:=by simp[z0c,h,I9]
theorem aoa(l:List Ev)(x:Int)(hok:(aF l).2=0):FnOK Tryz.prog 37 [dw.aA l, .int .i64 x] [] (.bK [.vec 0 (jE l l.length).length,bU.aA (jd l 1 x l.length),bU.aA (jd l 2 x l.length)]) [.vec 110 3 ((jE l l.length).map jL.aA)]:=by
 have hl:=bP hok;refine fn_walkA j37 [.tmp 4, .cell 5 70, .cell 6 70] 128 avT rfl ?_;unfold j37;simp only[go_sem,seval,avS,hok];have hrl:(aU l).length<=80*80:=Nat.le_trans (y8 _) (z1b (by omega) (by omega))
 refine aZ Nat (λj=>[.int .i64 j, .vec 3 (jE l j).length]) (λj=>[.blk 70 (bU.aA λ_=>0), .blk 70 (bU.aA λ_=>0), .vec 67 4 ((aU l).map kZ.aA), .vec 110 3 ((jE l j).map jL.aA)]) (λj=>j<=l.length) (λj=>l.length - j) 0 (by omega) ?_ rfl ?_
 ·simp only[go_sem,seval];rfl
 intro j hj;by_cases h1:j<l.length
 ·have h1':(j:Int)<l.length:=by omega
  have hw:z01.wrap ((j:Int)+1)=((j+1:Nat):Int):=aY;have hlj:=Ap (l:=l) j;unfold ajd;simp only[go_sem,seval,h1'];refine aZ Nat (λi=>[.int .i64 i, .int .i64 (kR (aU l) j i)]) (λi=>[.blk 70 (bU.aA λ_=>0), .blk 70 (bU.aA λ_=>0), .vec 67 4 ((aU l).map kZ.aA), .vec 110 3 ((jE l j).map jL.aA)]) (λi=>i<=(aU l).length) (λi=>(aU l).length - i) 0 (by omega) ?_ rfl ?_
  ·simp only[go_sem,seval];rfl
  intro i hi;by_cases h2:i< (aU l).length
  ·have h2':(i:Int)< (aU l).length:=by omega
   have hwi:z01.wrap ((i:Int)+1)=((i+1:Nat):Int):=aY;have hg:=PV h2;unfold ajb;simp only[go_sem,seval,h2,h2',hwi,hg,z0j];refine⟨by omega,λh=>⟨i+1,by omega,by omega,rfl,?_⟩,λh=>⟨i+1,by omega,by omega,rfl,?_⟩⟩
   ·have h:((aU l).getD i kZ.aI).b=j/\(kR (aU l) j i=0\/((aU l).getD i kZ.aI).kind<kR (aU l) j i):=by simpa only[z0d,z07,decide_eq_true_eq] using h
    rw[kR,if_pos h]
   ·have h:¬ (((aU l).getD i kZ.aI).b=j/\(kR (aU l) j i=0\/((aU l).getD i kZ.aI).kind<kR (aU l) j i)):=by
     intro hh;have:(decide (((aU l).getD i kZ.aI).b= ↑j)&&(decide (kR (aU l) (↑j) i=0)||decide (((aU l).getD i kZ.aI).kind<kR (aU l) (↑j) i)))=true:=by simpa only[z0d,z07,decide_eq_true_eq] using hh
     rw[this] at h;cases h
    rw[kR,if_neg h]
  ·have h2':¬ (i:Int)< (aU l).length:=by omega
   have e:i=(aU l).length:=by omega
   subst e;have hk:kR (aU l) j (aU l).length=xQ l j:=rfl;unfold ajb;simp only[go_sem,seval,h2'];unfold asE;rw[hk];by_cases h3:0<xQ l j
   ·have e:jE l (j+1)=jE l j++[⟨j,(l.getD j aO.aI).obj,xQ l j⟩]:=by rw[jE,if_pos h3]
    simp only[go_sem,seval,h1',h3];unfold ajc;simp only[go_sem,seval,hw];exact⟨by omega,by omega,j+1,by omega,by omega,⟨rfl,by rw[e,z00];rfl⟩,by rw[e,z06];rfl⟩
   ·have e:jE l (j+1)=jE l j:=by rw[jE,if_neg h3,z03]
    simp only[go_sem,seval,h1',h3];unfold ajc;simp only[go_sem,seval,hw];exact⟨j+1,by omega,by omega,⟨rfl,by rw[e]⟩,by rw[e]⟩
 ·have h1':¬ (j:Int)<l.length:=by omega
  have e:j=l.length:=by omega
  subst e;unfold ajd;simp only[go_sem,seval,h1'];unfold asG;simp only[go_sem,seval];refine aZ Nat (λi=>[.int .i64 i]) (λi=>[.blk 70 (bU.aA λ_=>0), .blk 70 (bU.aA λ_=>0), .vec 67 4 ((aU l).map kZ.aA), .vec 110 3 ((jE l l.length).map jL.aA), .blk 70 (bU.aA (xI l i)), .blk 70 (bU.aA (jd l 1 x i)), .blk 70 (bU.aA (jd l 2 x i))]) (λi=>i<=l.length) (λi=>l.length - i) 0 (by omega) ?_ rfl ?_
  ·simp only[go_sem,seval]
  clear h1 h1' hj;intro i hi;by_cases h1:i<l.length
  ·have h1':(i:Int)<l.length:=by omega
   have hw:z01.wrap ((i:Int)+1)=((i+1:Nat):Int):=aY;obtain⟨b1,b2,b3,b4⟩:=(bC _).1 (jq hok i h1);obtain⟨t,ht,ht6⟩:∃ t:Nat,(l.getD i aO.aI).aC=t/\t<6:=⟨(l.getD i aO.aI).aC.toNat,by omega,by omega⟩
   have o1:∀ b,sK (l.getD i aO.aI)=b->xI l (i+1)=if b=true then yu (xI l i) t (z01.wrap (xI l i t+1)) else xI l i:=λb h=>by rw[xI,h,ht,z04]
   have r1:∀ k,jd l k x (i+1)=if (l.getD i aO.aI).kind=k/\(l.getD i aO.aI).obj=x then yu (jd l k x i) t (z01.wrap (xI l i t+1)) else jd l k x i:=λk=>by rw[jd,ht,z04]
   cases hs:sK (l.getD i aO.aI) with
   |true=>
    have hs':=hs;unfold sK at hs';unfold Np;simp only[go_sem,seval,h1',hw,hs',ht];have hk:(l.getD i aO.aI).kind=4\/(l.getD i aO.aI).kind=5\/(l.getD i aO.aI).kind=8:=by simp only[z07,decide_eq_true_eq,or_assoc] at hs';exact hs'
    have e1:=o1 true hs;have e2:=r1 1;have e3:=r1 2;rw[if_pos rfl] at e1;rw[if_neg (by omega)] at e2 e3
    exact⟨by omega,⟨by omega,by omega⟩,⟨by omega,by omega⟩,i+1,by omega,by omega,rfl,by rw[e1,e2,e3];rfl⟩
   |false=>
    have hs':=hs;unfold sK at hs';by_cases k1:(l.getD i aO.aI).kind=1/\(l.getD i aO.aI).obj=x
    ·obtain⟨k1,kx⟩:=k1;unfold Np;simp only[go_sem,seval,h1',hw,k1,kx,ht];have e1:=o1 false hs;have e2:=r1 1;have e3:=r1 2;rw[if_neg (by simp)] at e1
     rw[if_pos ⟨k1,kx⟩] at e2;rw[if_neg (by omega)] at e3
     exact⟨by omega,⟨by omega,by omega⟩,⟨by omega,by omega⟩,i+1,by omega,by omega,rfl,by rw[e1,e2,e3];rfl⟩
    ·have hk1:(decide ((l.getD i aO.aI).kind=1)&&decide ((l.getD i aO.aI).obj=x))=false:=by rw[<- z1r,z0d,decide_eq_true_eq,decide_eq_true_eq];exact k1
     by_cases k2:(l.getD i aO.aI).kind=2/\(l.getD i aO.aI).obj=x
     ·have hk2:(decide ((l.getD i aO.aI).kind=2)&&decide ((l.getD i aO.aI).obj=x))=true:=by rw[z0d,decide_eq_true_eq,decide_eq_true_eq];exact k2
      unfold Np;simp only[go_sem,seval,h1',hw,hs',hk1,hk2,ht];have e1:=o1 false hs;have e2:=r1 1;have e3:=r1 2;rw[if_neg (by simp)] at e1
      rw[if_neg k1] at e2;rw[if_pos k2] at e3;exact⟨by omega,⟨by omega,by omega⟩,⟨by omega,by omega⟩,i+1,by omega,by omega,rfl,by rw[e1,e2,e3];rfl⟩
     ·have hk2:(decide ((l.getD i aO.aI).kind=2)&&decide ((l.getD i aO.aI).obj=x))=false:=by rw[<- z1r,z0d,decide_eq_true_eq,decide_eq_true_eq];exact k2
      unfold Np;simp only[go_sem,seval,h1',hw,hs',hk1,hk2,ht];have e1:=o1 false hs;have e2:=r1 1;have e3:=r1 2;rw[if_neg (by simp)] at e1
      rw[if_neg k1] at e2;rw[if_neg k2] at e3;exact⟨by omega,i+1,by omega,by omega,rfl,by rw[e1,e2,e3]⟩
  ·have h1':¬ (i:Int)<l.length:=by omega
   have e:i=l.length:=by omega
   subst e;unfold Np;simp only[go_sem,seval,h1'];unfold asF;simp only[go_sem,seval,GZ]
end Go.Proofs.YtgnaipcjbmhihaaGreatDoor.Fu
end
section
open Go Go.Sx Go.Proofs
namespace Go.Proofs.YtgnaipcjbmhihaaGreatDoor.Fu
open D Tr C Ah Ps Od St Rc
def cs(l:List Ev)(t:Nat):Nat->Nat
 |0=>0
 |i+1=>cs l t i+if sK (at' l i)=true/\(at' l i).aC.toNat=t then 1 else 0
section
variable {l:List Ev}
theorem TG(t:Nat):∀ i,cs l t i<=i
 |0=>z0h _
 |i+1=>by have:=TG t i;rw[cs];split<;>omega
theorem Hz(t:Nat){i:Nat}:∀ {j:Nat},i<=j->cs l t i<=cs l t j
 |0,h=>by rw[Nat.le_zero.1 h];exact z0h _
 |j+1,h=>by
  by_cases e:i=j+1
  ·subst e;exact z0h _
  ·have:=Hz t (j:=j) (show i<=j by omega)
   rw[cs];omega
theorem aje{e:Ev}:sK e=true↔e.kind=4\/e.kind=5\/e.kind=8:=by simp[sK,or_assoc]
theorem TI{m:Int}:∀ {j:Nat},j<=l.length->0<=Tr.aN (l.take j) m->∃ a,a<j/\(at' l a).kind=3/\(at' l a).obj=m/\(at' l a).aC=Tr.aN (l.take j) m/\∀ c,a<c->c<j->¬ ((at' l c).kind=4/\(at' l c).obj=m)
 |0,_,h=>by
  simp[Tr.aN] at h
 |j+1,hj,h=>by
  have hs:Tr.aN (l.take (j+1)) m=tK m (Tr.aN (l.take j) m) (at' l j):=by rw[bH aO.aI (show j<l.length by omega),Tr.aN,Tr.aN,List.foldl_append];rfl
  rw[hs] at h ⊢;unfold tK at h ⊢;by_cases k4:(at' l j).obj=m/\(at' l j).kind=4
  ·rw[if_pos k4] at h;omega
  rw[if_neg k4] at h ⊢;by_cases k3:(at' l j).obj=m/\(at' l j).kind=3
  ·rw[if_pos k3] at h ⊢;exact⟨j,z0b _,k3.2,k3.1,rfl,λc h1 h2=>by omega⟩
  ·rw[if_neg k3] at h ⊢;obtain⟨a,ha,h1,h2,h3,h4⟩:=TI (by omega) h
   refine⟨a,by omega,h1,h2,h3,λc hc hcj=> ?_⟩
   by_cases e:c=j
   ·subst e;exact λhh=>k4 ⟨hh.2,hh.1⟩
   ·exact h4 c hc (by omega)
end
section
variable {l:List Ev} (hok:(aF l).2=0)
include hok
theorem HY{c j:Nat}(hc:c<j)(hj:j<l.length)(h:((at' l c).aC.toNat=(at' l j).aC.toNat\/(at' l c).kind=5/\(at' l c).obj.toNat=(at' l j).aC.toNat)\/((at' l j).kind=3/\(at' l c).kind=4/\(at' l c).obj.toNat=(at' l j).obj.toNat)\/
  ((at' l j).kind=7/\(at' l c).kind=8/\(at' l c).obj.toNat=(at' l j).obj.toNat)\/((at' l j).kind=6/\((at' l c).aC.toNat=(at' l j).obj.toNat\/(at' l c).kind=5/\(at' l c).obj.toNat=(at' l j).obj.toNat))):Ae l c j:=by
 refine Et.one ?_;simp only[yD,z0d,decide_eq_true_eq];exact⟨hc,(Af hok hc hj).2 h⟩
theorem aoS{j:Nat}(hj:j<l.length)(k4:(at' l j).kind=4){c:Nat}(hc:c<j)(kc:(at' l c).kind=4)(ho:(at' l c).obj.toNat=(at' l j).obj.toNat):Ae l c j:=by
 obtain⟨_,_,_,_,h4,_,_⟩:=vT hok hj;have b:=bnd hok hj;have bc:=bnd hok (show c<l.length by omega)
 have hw:=h4 k4;obtain⟨a,ha,k3,ao,QJ,no⟩:=TI (m:=(at' l j).obj) (z09 hj) (by rw[hw];exact b.1)
 have ho':(at' l c).obj=(at' l j).obj:=by omega
 have hca:c<a:=by
  refine Nat.lt_of_not_le λh=> ?_;rcases Nat.eq_or_lt_of_le h with h|h
  ·subst h;omega
  ·exact no c h hc ⟨kc,ho'⟩
 have d1:Ae l c a:=HY hok hca (by omega) (.inr (.inl ⟨k3,kc,by rw[ao];exact ho⟩))
 have d2:Ae l a j:=HY hok ha hj (.inl (.inl (by rw[QJ,hw])))
 exact Et.trans d1 d2
theorem TJ{j:Nat}(hj:j<l.length):kN (l.take j) 6 (at' l j).aC=false:=(vT hok hj).2.2.1
end
structure FI(l:List Ev)(j:Nat)(k:Kp):Prop where
 c1:∀ t u i,t<6->u<6->i<j->(at' l i).aC.toNat=u->((1+cs l u i:Int)<=k.aC t u↔TS l j t i)
 c2:∀ m u i,m<5->u<6->i<j->(at' l i).aC.toNat=u->((1+cs l u i:Int)<=k.lk m u↔LS l j m i)
 c3:∀ m u i,m<4->u<6->i<j->(at' l i).aC.toNat=u->((1+cs l u i:Int)<=k.vl m u↔VS l j m i)
 own:∀ t,t<6->k.aC t t=1+cs l t j
 s1:∀ t u:Nat,t<6->u<6->u≠t->kN (l.take j) 6 u=false->k.aC t u<1+cs l u j
 s2:∀ m u:Nat,m<5->u<6->kN (l.take j) 6 u=false->k.lk m u<1+cs l u j
 s3:∀ m u:Nat,m<4->u<6->kN (l.take j) 6 u=false->k.vl m u<1+cs l u j
 l1:∀ t u,t<6->u<6->0<=k.aC t u/\k.aC t u<=1+cs l u j
 l2:∀ m u,m<5->u<6->0<=k.lk m u/\k.lk m u<=1+cs l u j
 l3:∀ m u,m<4->u<6->0<=k.vl m u/\k.vl m u<=1+cs l u j
theorem kC{a b:ji}{u:Nat}(hu:u<6):iT a b u=if a u<b u then b u else a u:=by simp only[iT,mrg,if_pos hu,mxI]
theorem join_le{a b:ji}{u:Nat}(hu:u<6){x:Int}:x<=iT a b u↔x<=a u\/x<=b u:=by rw[kC hu];split<;>omega
theorem Ea{a b:ji}{u:Nat}(hu:u<6){x:Int}:iT a b u<x↔a u<x/\b u<x:=by rw[kC hu];split<;>omega
def sN(k:Kp)(e:Ev):ji:=
 if e.kind=3 then iT (k.aC e.aC.toNat) (k.lk e.obj.toNat) else if e.kind=7 then iT (k.aC e.aC.toNat) (k.vl e.obj.toNat) else
 if e.kind=6 then iT (k.aC e.aC.toNat) (k.aC e.obj.toNat) else k.aC e.aC.toNat
section
variable {l:List Ev} (hok:(aF l).2=0) {j:Nat} (hj:j<l.length) {k:Kp} (h:FI l j k)
include hok hj h
theorem ZL{u i:Nat}(hu:u<6)(hi:i<j)(hiu:(at' l i).aC.toNat=u):(1+cs l u i:Int)<=sN k (at' l j) u↔Ae l i j:=by
 have b:=bnd hok hj;have ht:(at' l j).aC.toNat<6:=by omega
 rw[pV hok hj];unfold sN;by_cases k3:(at' l j).kind=3
 ·have b5:(at' l j).obj<5:=by have:=b.2.2.2;simp only[many,k3,z0e,or_self,true_or,if_true,if_false] at this;exact this
  rw[if_pos k3,join_le hu,h.c1 _ _ _ ht hu hi hiu,h.c2 _ _ _ (by omega) hu hi hiu]
  simp[k3]
 by_cases k7:(at' l j).kind=7
 ·have b5:(at' l j).obj<4:=by have:=b.2.2.2;simp only[many,k7,z0e,or_self,true_or,if_true,if_false] at this;exact this
  rw[if_neg k3,if_pos k7,join_le hu,h.c1 _ _ _ ht hu hi hiu,h.c3 _ _ _ (by omega) hu hi hiu]
  simp[k7]
 by_cases k6:(at' l j).kind=6
 ·have b5:(at' l j).obj<6:=by have:=b.2.2.2;simp only[many,k6,z0e,or_self,or_true,if_true,if_false] at this;exact this
  rw[if_neg k3,if_neg k7,if_pos k6,join_le hu,h.c1 _ _ _ ht hu hi hiu,h.c1 _ _ _ (by omega) hu hi hiu]
  simp[k6]
 ·rw[if_neg k3,if_neg k7,if_neg k6,h.c1 _ _ _ ht hu hi hiu];simp[k3,k7,k6]
theorem aag:sN k (at' l j) (at' l j).aC.toNat=1+cs l (at' l j).aC.toNat j:=by
 have b:=bnd hok hj;have ht:(at' l j).aC.toNat<6:=by omega
 have ho:=h.own _ ht;unfold sN;by_cases k3:(at' l j).kind=3
 ·have b5:(at' l j).obj<5:=by have:=b.2.2.2;simp only[many,k3,z0e,or_self,true_or,if_true,if_false] at this;exact this
  have:=h.l2 (at' l j).obj.toNat _ (by omega) ht
  rw[if_pos k3,kC ht];split<;>omega
 by_cases k7:(at' l j).kind=7
 ·have b5:(at' l j).obj<4:=by have:=b.2.2.2;simp only[many,k7,z0e,or_self,true_or,if_true,if_false] at this;exact this
  have:=h.l3 (at' l j).obj.toNat _ (by omega) ht
  rw[if_neg k3,if_pos k7,kC ht];split<;>omega
 by_cases k6:(at' l j).kind=6
 ·have b5:(at' l j).obj<6:=by have:=b.2.2.2;simp only[many,k6,z0e,or_self,or_true,if_true,if_false] at this;exact this
  have:=h.l1 (at' l j).obj.toNat _ (by omega) ht
  rw[if_neg k3,if_neg k7,if_pos k6,kC ht];split<;>omega
 ·rw[if_neg k3,if_neg k7,if_neg k6];exact ho
theorem PW{u i:Nat}(hu:u<6)(hi:i<j+1)(hiu:(at' l i).aC.toNat=u):(1+cs l u i:Int)<=sN k (at' l j) u↔MH l i j:=by
 by_cases e:i=j
 ·subst e;subst hiu;rw[aag hok hj h];exact⟨λ_=> .inl rfl,λ_=>z0r _⟩
 ·rw[ZL hok hj h hu (by omega) hiu]
  exact⟨.inr,λhh=>hh.elim (λhh=>absurd hh e) id⟩
theorem aoT{u:Nat}(hu:u<6):0<=sN k (at' l j) u/\sN k (at' l j) u<=1+cs l u j:=by
 have b:=bnd hok hj;have ht:(at' l j).aC.toNat<6:=by omega
 have ho:=h.l1 _ _ ht hu;unfold sN;by_cases k3:(at' l j).kind=3
 ·have b5:(at' l j).obj<5:=by have:=b.2.2.2;simp only[many,k3,z0e,or_self,true_or,if_true,if_false] at this;exact this
  have:=h.l2 (at' l j).obj.toNat _ (by omega) hu
  rw[if_pos k3,kC hu];split<;>omega
 by_cases k7:(at' l j).kind=7
 ·have b5:(at' l j).obj<4:=by have:=b.2.2.2;simp only[many,k7,z0e,or_self,true_or,if_true,if_false] at this;exact this
  have:=h.l3 (at' l j).obj.toNat _ (by omega) hu
  rw[if_neg k3,if_pos k7,kC hu];split<;>omega
 by_cases k6:(at' l j).kind=6
 ·have b5:(at' l j).obj<6:=by have:=b.2.2.2;simp only[many,k6,z0e,or_self,or_true,if_true,if_false] at this;exact this
  have:=h.l1 (at' l j).obj.toNat _ (by omega) hu
  rw[if_neg k3,if_neg k7,if_pos k6,kC hu];split<;>omega
 ·rw[if_neg k3,if_neg k7,if_neg k6];exact ho
end
theorem Ie{k:Kp}{e:Ev}(h5:e.kind=5->e.obj.toNat≠e.aC.toNat)(u:Nat):(lM k e).aC e.aC.toNat u=if sK e=true/\u=e.aC.toNat then z01.wrap (sN k e e.aC.toNat+1) else sN k e u:=by
 unfold lM sN sK;by_cases k3:e.kind=3
 ·simp[k3,Vt]
 by_cases k4:e.kind=4
 ·simp[k4,inC]
 by_cases k5:e.kind=5
 ·have:=h5 k5;simp[k5,inC,Vt,Ne.symm this]
 by_cases k6:e.kind=6
 ·simp[k6,Vt]
 by_cases k7:e.kind=7
 ·simp[k7,Vt]
 by_cases k8:e.kind=8
 ·simp[k8,inC]
 ·simp[k3,k4,k5,k6,k7,k8]
theorem xJ{k:Kp}{e:Ev}{t:Nat}(ht:t≠e.aC.toNat)(u:Nat):(lM k e).aC t u=if e.kind=5/\t=e.obj.toNat then iT (k.aC e.obj.toNat) (k.aC e.aC.toNat) u else k.aC t u:=by
 unfold lM;by_cases k3:e.kind=3
 ·simp[k3,Vt,ht]
 by_cases k4:e.kind=4
 ·simp[k4,inC,ht]
 by_cases k5:e.kind=5
 ·simp[k5,inC,Vt,ht]
 by_cases k6:e.kind=6
 ·simp[k6,Vt,ht]
 by_cases k7:e.kind=7
 ·simp[k7,Vt,ht]
 by_cases k8:e.kind=8
 ·simp[k8,inC,ht]
 ·simp[k3,k4,k5,k6,k7,k8]
theorem PX{k:Kp}{e:Ev}(m u:Nat):(lM k e).lk m u=if e.kind=4/\m=e.obj.toNat then k.aC e.aC.toNat u else k.lk m u:=by
 unfold lM;by_cases k3:e.kind=3
 ·simp[k3]
 by_cases k4:e.kind=4
 ·simp[k4,Vt]
 by_cases k5:e.kind=5
 ·simp[k5]
 by_cases k6:e.kind=6
 ·simp[k6]
 by_cases k7:e.kind=7
 ·simp[k7]
 by_cases k8:e.kind=8
 ·simp[k8]
 ·simp[k3,k4,k5,k6,k7,k8]
theorem PY{k:Kp}{e:Ev}(m u:Nat):(lM k e).vl m u=if e.kind=8/\m=e.obj.toNat then iT (k.vl e.obj.toNat) (k.aC e.aC.toNat) u else k.vl m u:=by
 unfold lM;by_cases k3:e.kind=3
 ·simp[k3]
 by_cases k4:e.kind=4
 ·simp[k4]
 by_cases k5:e.kind=5
 ·simp[k5]
 by_cases k6:e.kind=6
 ·simp[k6]
 by_cases k7:e.kind=7
 ·simp[k7]
 by_cases k8:e.kind=8
 ·simp[k8,Vt]
 ·simp[k3,k4,k5,k6,k7,k8]
theorem aoU{l:List Ev}{j t i:Nat}:TS l (j+1) t i↔TS l j t i\/(MH l i j/\((at' l j).aC.toNat=t\/(at' l j).kind=5/\(at' l j).obj.toNat=t)):=by
 constructor
 ·rintro⟨c,hc,h1,h2⟩;by_cases e:c=j
  ·subst e;exact .inr ⟨h1,h2⟩
  ·exact .inl ⟨c,by omega,h1,h2⟩
 ·rintro(⟨c,hc,h1,h2⟩|⟨h1,h2⟩)
  ·exact⟨c,by omega,h1,h2⟩
  ·exact⟨j,by omega,h1,h2⟩
theorem aoV{l:List Ev}{j m i:Nat}:LS l (j+1) m i↔LS l j m i\/(MH l i j/\(at' l j).kind=4/\(at' l j).obj.toNat=m):=by
 constructor
 ·rintro⟨c,hc,h1,h2⟩;by_cases e:c=j
  ·subst e;exact .inr ⟨h1,h2⟩
  ·exact .inl ⟨c,by omega,h1,h2⟩
 ·rintro(⟨c,hc,h1,h2⟩|⟨h1,h2⟩)
  ·exact⟨c,by omega,h1,h2⟩
  ·exact⟨j,by omega,h1,h2⟩
theorem aoW{l:List Ev}{j m i:Nat}:VS l (j+1) m i↔VS l j m i\/(MH l i j/\(at' l j).kind=8/\(at' l j).obj.toNat=m):=by
 constructor
 ·rintro⟨c,hc,h1,h2⟩;by_cases e:c=j
  ·subst e;exact .inr ⟨h1,h2⟩
  ·exact .inl ⟨c,by omega,h1,h2⟩
 ·rintro(⟨c,hc,h1,h2⟩|⟨h1,h2⟩)
  ·exact⟨c,by omega,h1,h2⟩
  ·exact⟨j,by omega,h1,h2⟩
theorem ajf{l:List Ev}{i c j:Nat}(hc:c<j)(h:MH l i c):i<j:=by
 rcases h with h|h
 ·omega
 ·have:=h.lt;omega
theorem Au{l:List Ev}{j:Nat}(hj:j<l.length){u:Int}(h:kN (l.take (j+1)) 6 u=false):kN (l.take j) 6 u=false:=by rw[bH aO.aI hj] at h;simp only[kN,z1s,z0p] at h;exact h.1
section
variable {l:List Ev} (hok:(aF l).2=0) {j:Nat} (hj:j<l.length) {k:Kp} (h:FI l j k)
include hok hj h
theorem aoX{t:Nat}(ht:t<6)(hne:t≠(at' l j).aC.toNat):k.aC t (at' l j).aC.toNat<1+cs l (at' l j).aC.toNat j:=by
 have b:=bnd hok hj;refine h.s1 t _ ht (by omega) (λe=>hne e.symm) ?_
 have:=TJ hok hj
 rwa [show(((at' l j).aC.toNat:Nat):Int)=(at' l j).aC by omega]
omit h in
theorem JK:kN (l.take j) 6 (((at' l j).aC.toNat:Nat):Int)=false:=by
 have b:=bnd hok hj;rw[show(((at' l j).aC.toNat:Nat):Int)=(at' l j).aC by omega]
 exact TJ hok hj
theorem aoY:FI l (j+1) (lM k (at' l j)):=by
 have b:=bnd hok hj;have ht:(at' l j).aC.toNat<6:=by omega
 have hlen:=bP hok;have h5:(at' l j).kind=5->(at' l j).obj.toNat≠(at' l j).aC.toNat:=by
  intro k5 e;have hb:=(vT hok hj).2.2.2.2.2.1 k5;have hm:=(vT hok hj).2.1;rw[show(at' l j).obj=(at' l j).aC by omega,hm] at hb
  cases hb
 have hc1:∀ u,cs l u (j+1)=cs l u j+if sK (at' l j)=true/\(at' l j).aC.toNat=u then 1 else 0:=λu=>rfl
 have aB3:∀ u,cs l u j<=80:=λu=>Nat.le_trans (TG u j) (by omega)
 have ayU:=aag hok hj h;have meW:z01.wrap (sN k (at' l j) (at' l j).aC.toNat+1)=sN k (at' l j) (at' l j).aC.toNat+1:=IntWalk.i64_in _ (by have:=aB3 (at' l j).aC.toNat;omega)
 have hmono:∀ u,cs l u j<=cs l u (j+1):=λu=>Hz u (Nat.le_succ j);have hk4:(at' l j).kind=4->sN k (at' l j)=k.aC (at' l j).aC.toNat:=λe=>by simp[sN,e]
 have hk5:(at' l j).kind=5->sN k (at' l j)=k.aC (at' l j).aC.toNat:=λe=>by simp[sN,e]
 have hk8:(at' l j).kind=8->sN k (at' l j)=k.aC (at' l j).aC.toNat:=λe=>by simp[sN,e]
 have hst:∀ {n},(n=4\/n=5\/n=8)->(at' l j).kind=n->sK (at' l j)=true:=λhn e=>aje.2 (by rw[e];exact hn)
 have meS:∀ u:Nat,u<6->sK (at' l j)=true->kN (l.take j) 6 (u:Int)=false->k.aC (at' l j).aC.toNat u<1+cs l u (j+1):=by
  intro u hu hs hov;by_cases e:u=(at' l j).aC.toNat
  ·subst e;rw[h.own _ ht,hc1,if_pos ⟨hs,rfl⟩];omega
  ·have:=h.s1 _ u ht hu e hov;have:=hmono u;omega
 have preS:∀ u:Nat,u<6->u≠(at' l j).aC.toNat->kN (l.take (j+1)) 6 (u:Int)=false->sN k (at' l j) u<1+cs l u j:=by
  intro u hu hne hov;have BR:=Au hj hov;have h1:=h.s1 _ u ht hu hne BR;unfold sN;by_cases k3:(at' l j).kind=3
  ·have b5:(at' l j).obj<5:=by have:=b.2.2.2;simp only[many,k3,z0e,or_self,true_or,if_true,if_false] at this;exact this
   rw[if_pos k3,Ea hu];exact⟨h1,h.s2 _ u (by omega) hu BR⟩
  by_cases k7:(at' l j).kind=7
  ·have b5:(at' l j).obj<4:=by have:=b.2.2.2;simp only[many,k7,z0e,or_self,true_or,if_true,if_false] at this;exact this
   rw[if_neg k3,if_pos k7,Ea hu];exact⟨h1,h.s3 _ u (by omega) hu BR⟩
  by_cases k6:(at' l j).kind=6
  ·have b5:(at' l j).obj<6:=by have:=b.2.2.2;simp only[many,k6,z0e,or_self,or_true,if_true,if_false] at this;exact this
   rw[if_neg k3,if_neg k7,if_pos k6,Ea hu];refine⟨h1,h.s1 _ u (by omega) hu (λe=> ?_) BR⟩
   have:kN (l.take (j+1)) 6 (u:Int)=true:=(Jg (show j+1<=l.length by omega)).2 ⟨j,z0b _,k6,by omega⟩
   rw[this] at hov;cases hov
  ·rw[if_neg k3,if_neg k7,if_neg k6];exact h1
 refine⟨?_,?_,?_,?_,?_,?_,?_,?_,?_,?_⟩
 ·intro t u i ht' hu hi hiu;rw[aoU];by_cases e:t=(at' l j).aC.toNat
  ·subst e;rw[Ie h5];have key:(TS l j (at' l j).aC.toNat i\/(MH l i j/\((at' l j).aC.toNat=(at' l j).aC.toNat\/(at' l j).kind=5/\(at' l j).obj.toNat=(at' l j).aC.toNat)))↔MH l i j:=
    ⟨λhh=>hh.elim (λhh=> .inr ((pV hok hj i).2 (.inl hh))) (λhh=>hh.1),λhh=> .inr ⟨hh, .inl rfl⟩⟩
   rw[key,<- PW hok hj h hu hi hiu];split
   ·rename_i hs;obtain⟨_,rfl⟩:=hs;have:cs l (at' l j).aC.toNat i<=cs l (at' l j).aC.toNat j:=Hz _ (by omega)
    rw[meW];omega
   ·exact Iff.rfl
  ·rw[xJ e];by_cases e5:(at' l j).kind=5/\t=(at' l j).obj.toNat
   ·rw[if_pos e5,join_le hu,<- hk5 e5.1,PW hok hj h hu hi hiu];obtain⟨e5,rfl⟩:=e5;by_cases ei:i=j
    ·subst ei;exact⟨λ_=> .inr ⟨.inl rfl, .inr ⟨e5,rfl⟩⟩,λ_=> .inr (.inl rfl)⟩
    ·rw[h.c1 _ _ _ ht' hu (by omega) hiu]
     exact⟨λhh=>hh.elim .inl (λhh=> .inr ⟨hh, .inr ⟨e5,rfl⟩⟩),λhh=>hh.elim .inl (λhh=> .inr hh.1)⟩
   ·rw[if_neg e5];have key:(TS l j t i\/(MH l i j/\((at' l j).aC.toNat=t\/(at' l j).kind=5/\(at' l j).obj.toNat=t)))↔TS l j t i:=
     ⟨λhh=>hh.elim id (λhh=>hh.2.elim (λhh=>absurd hh.symm e) (λhh=>absurd ⟨hh.1,hh.2.symm⟩ e5)), .inl⟩
    rw[key];by_cases ei:i=j
    ·subst ei;have:=aoX hok hj h ht' e;rw[hiu] at this;exact⟨λhh=>by omega,λ⟨c,hc,h1,_⟩=>absurd (ajf hc h1) (z0z _)⟩
    ·exact h.c1 _ _ _ ht' hu (by omega) hiu
 ·intro m u i hm hu hi hiu;rw[aoV,PX];by_cases e4:(at' l j).kind=4/\m=(at' l j).obj.toNat
  ·rw[if_pos e4,<- hk4 e4.1,PW hok hj h hu hi hiu];obtain⟨e4,rfl⟩:=e4;refine⟨λhh=> .inr ⟨hh,e4,rfl⟩,λhh=>hh.elim (λ⟨c,hc,h1,h2,h3⟩=> ?_) (λhh=>hh.1)⟩;have hd:=aoS hok hj e4 hc h2 h3;rcases h1 with h1|h1
   ·exact .inr (h1▸hd)
   ·exact .inr (Et.trans h1 hd)
  ·rw[if_neg e4];have key:(LS l j m i\/(MH l i j/\(at' l j).kind=4/\(at' l j).obj.toNat=m))↔LS l j m i:=
    ⟨λhh=>hh.elim id (λhh=>absurd ⟨hh.2.1,hh.2.2.symm⟩ e4), .inl⟩
   rw[key];by_cases ei:i=j
   ·subst ei;have:=h.s2 m (at' l i).aC.toNat hm (by omega) (JK hok hj)
    rw[hiu] at this;exact⟨λhh=>by omega,λ⟨c,hc,h1,_⟩=>absurd (ajf hc h1) (z0z _)⟩
   ·exact h.c2 _ _ _ hm hu (by omega) hiu
 ·intro m u i hm hu hi hiu;rw[aoW,PY];by_cases e8:(at' l j).kind=8/\m=(at' l j).obj.toNat
  ·rw[if_pos e8,join_le hu,<- hk8 e8.1,PW hok hj h hu hi hiu];obtain⟨e8,rfl⟩:=e8;by_cases ei:i=j
   ·subst ei;exact⟨λ_=> .inr ⟨.inl rfl,e8,rfl⟩,λ_=> .inr (.inl rfl)⟩
   ·rw[h.c3 _ _ _ hm hu (by omega) hiu]
    exact⟨λhh=>hh.elim .inl (λhh=> .inr ⟨hh,e8,rfl⟩),λhh=>hh.elim .inl (λhh=> .inr hh.1)⟩
  ·rw[if_neg e8];have key:(VS l j m i\/(MH l i j/\(at' l j).kind=8/\(at' l j).obj.toNat=m))↔VS l j m i:=
    ⟨λhh=>hh.elim id (λhh=>absurd ⟨hh.2.1,hh.2.2.symm⟩ e8), .inl⟩
   rw[key];by_cases ei:i=j
   ·subst ei;have:=h.s3 m (at' l i).aC.toNat hm (by omega) (JK hok hj)
    rw[hiu] at this;exact⟨λhh=>by omega,λ⟨c,hc,h1,_⟩=>absurd (ajf hc h1) (z0z _)⟩
   ·exact h.c3 _ _ _ hm hu (by omega) hiu
 ·intro t ht';by_cases e:t=(at' l j).aC.toNat
  ·subst e;rw[Ie h5,hc1];by_cases hs:sK (at' l j)=true
   ·rw[if_pos ⟨hs,rfl⟩,if_pos ⟨hs,rfl⟩,meW,ayU];omega
   ·rw[if_neg (λhh=>hs hh.1),if_neg (λhh=>hs hh.1),ayU];omega
  ·rw[xJ e,hc1,if_neg (λhh:sK (at' l j)=true/\(at' l j).aC.toNat=t=>e hh.2.symm)];split
   ·rename_i e5;obtain⟨e5,rfl⟩:=e5;have h1:=h.own _ ht';have h2:=h.l1 _ (at' l j).obj.toNat ht ht';rw[kC ht'];split<;>omega
   ·exact h.own _ ht'
 ·intro t u ht' hu hne hov;have BR:=Au hj hov;have hm:=hmono u;by_cases e:t=(at' l j).aC.toNat
  ·subst e;rw[Ie h5,if_neg (λhh=>hne hh.2)];have:=preS u hu hne hov;omega
  ·rw[xJ e];split
   ·rename_i e5;obtain⟨e5,rfl⟩:=e5;rw[Ea hu];have h1:=h.s1 _ u ht' hu hne BR;have h2:=meS u hu (hst (.inr (.inl rfl)) e5) BR;exact⟨by omega,h2⟩
   ·have:=h.s1 _ u ht' hu hne BR;omega
 ·intro m u hm' hu hov;have BR:=Au hj hov;have hm:=hmono u;rw[PX];split
  ·rename_i e4;exact meS u hu (hst (.inl rfl) e4.1) BR
  ·have:=h.s2 _ u hm' hu BR;omega
 ·intro m u hm' hu hov;have BR:=Au hj hov;have hm:=hmono u;rw[PY];split
  ·rename_i e8;obtain⟨e8,rfl⟩:=e8;rw[Ea hu];have h1:=h.s3 _ u hm' hu BR;exact⟨by omega,meS u hu (hst (.inr (.inr rfl)) e8) BR⟩
  ·have:=h.s3 _ u hm' hu BR;omega
 ·intro t u ht' hu;have hm:=hmono u;by_cases e:t=(at' l j).aC.toNat
  ·subst e;rw[Ie h5];have hp:=aoT hok hj h hu;split
   ·rename_i hs;obtain⟨hs,rfl⟩:=hs;rw[hc1,if_pos ⟨hs,rfl⟩,meW];omega
   ·omega
  ·rw[xJ e];have h1:=h.l1 _ u ht' hu;have h2:=h.l1 _ u ht hu;split
   ·rename_i e5;obtain⟨e5,rfl⟩:=e5;rw[kC hu];split<;>omega
   ·omega
 ·intro m u hm' hu;have hm:=hmono u;have h1:=h.l2 _ u hm' hu;have h2:=h.l1 _ u ht hu;rw[PX];split<;>omega
 ·intro m u hm' hu;have hm:=hmono u;have h1:=h.l3 _ u hm' hu;have h2:=h.l1 _ u ht hu;rw[PY];split
  ·rename_i e8;obtain⟨e8,rfl⟩:=e8;rw[kC hu];split<;>omega
  ·omega
end
end Go.Proofs.YtgnaipcjbmhihaaGreatDoor.Fu
end
section
open Go Go.Sx Go.Proofs
namespace Go.Proofs.YtgnaipcjbmhihaaGreatDoor.Fu
open D Tr C Ah Ps Od St Rc
theorem ajg{k:Kp}{e:Ev}(h:cO e=true):lM k e=k:=by simp only[cO,z07,decide_eq_true_eq] at h;unfold lM;rcases h with h|h<;>simp[h]
theorem ab2(l:List Ev)(j:Nat):runK l (j+1)=lM (runK l j) (at' l j):=by
 show(if cO (at' l j)=true then runK l j else lM (runK l j) (at' l j))=_
 by_cases h:cO (at' l j)=true
 ·rw[if_pos h,ajg h]
 ·rw[if_neg h]
section
variable {l:List Ev} (hok:(aF l).2=0)
include hok
theorem Jd:∀ {j:Nat},j<=l.length->FI l j (runK l j)
 |0,_=>by
  refine⟨λt u i _ _ hi=>absurd hi (z0s _),λt u i _ _ hi=>absurd hi (z0s _),λt u i _ _ hi=>absurd hi (z0s _),?_,?_,?_,?_,?_,?_,?_⟩
  ·intro t ht;simp[runK,yX,ht,cs]
  ·intro t u ht hu hne _;simp[runK,yX,ht,cs,hne]
  ·intro m u _ _ _;simp[runK,yX,cs]
  ·intro m u _ _ _;simp[runK,yX,cs]
  ·intro t u ht hu;simp only[runK,yX,cs];split<;>simp
  ·intro m u _ _;simp[runK,yX,cs]
  ·intro m u _ _;simp[runK,yX,cs]
 |j+1,hj=>by rw[ab2];exact aoY hok (by omega) (Jd (by omega))
theorem ajh{j:Nat}(hj:j<=l.length)(t:Nat):xI l j t=cs l t j:=by
 have hlen:=bP hok
 induction j with
 |zero=>rfl
 |succ j ih=>
  have ih:=ih (by omega)
  have hb:=TG (l:=l) t j;show(if sK (at' l j)=true then yu (xI l j) (at' l j).aC.toNat (z01.wrap (xI l j (at' l j).aC.toNat+1)) else xI l j) t=_
  rw[cs];by_cases hs:sK (at' l j)=true
  ·rw[if_pos hs,yu];by_cases e:t=(at' l j).aC.toNat
   ·rw[if_pos e,<- e,if_pos ⟨hs,rfl⟩,ih];exact aY
   ·rw[if_neg e,if_neg (λhh=>e hh.2.symm),ih];simp
  ·rw[if_neg hs,if_neg (λhh=>hs hh.1),ih];simp
theorem BU(kk x:Int):∀ {j:Nat},j<=l.length->∀ u,(jd l kk x j u=0/\∀ i,i<j->¬ ((at' l i).kind=kk/\(at' l i).obj=x/\(at' l i).aC.toNat=u))\/
  ∃ i,i<j/\(at' l i).kind=kk/\(at' l i).obj=x/\(at' l i).aC.toNat=u/\jd l kk x j u=1+cs l u i/\∀ i',i'<j->(at' l i').kind=kk/\(at' l i').obj=x/\(at' l i').aC.toNat=u->i'<=i
 |0,_,u=> .inl ⟨rfl,λi hi=>absurd hi (z0s _)⟩
 |j+1,hj,u=>by
  have hlen:=bP hok;have ih:=BU kk x (j:=j) (by omega) u
  have hs:jd l kk x (j+1) u=if ((at' l j).kind=kk/\(at' l j).obj=x)/\u=(at' l j).aC.toNat then 1+(cs l u j:Int) else jd l kk x j u:=by
   show(if (at' l j).kind=kk/\(at' l j).obj=x then yu (jd l kk x j) (at' l j).aC.toNat (z01.wrap (xI l j (at' l j).aC.toNat+1)) else jd l kk x j) u=_
   have hb:=TG (l:=l) u j;by_cases hk:(at' l j).kind=kk/\(at' l j).obj=x
   ·rw[if_pos hk,yu];by_cases e:u=(at' l j).aC.toNat
    ·rw[if_pos e,if_pos ⟨hk,e⟩,<- e,ajh hok (by omega),aY];omega
    ·rw[if_neg e,if_neg (λhh=>e hh.2)]
   ·rw[if_neg hk,if_neg (λhh=>hk hh.1)]
  rw[hs];by_cases hk:((at' l j).kind=kk/\(at' l j).obj=x)/\u=(at' l j).aC.toNat
  ·rw[if_pos hk];exact .inr ⟨j,z0b _,hk.1.1,hk.1.2,hk.2.symm,rfl,λi' hi' _=>by omega⟩
  ·rw[if_neg hk];rcases ih with⟨h1,h2⟩|⟨i,hi,h1,h2,h3,h4,h5⟩
   ·refine .inl ⟨h1,λi hi hh=> ?_⟩;by_cases e:i=j
    ·subst e;exact hk ⟨⟨hh.1,hh.2.1⟩,hh.2.2.symm⟩
    ·exact h2 i (by omega) hh
   ·refine .inr ⟨i,by omega,h1,h2,h3,h4,λi' hi' hh=> ?_⟩
    by_cases e:i'=j
    ·subst e;exact absurd ⟨⟨hh.1,hh.2.1⟩,hh.2.2.symm⟩ hk
    ·exact h5 i' (by omega) hh
theorem within_iff{j:Nat}(hj:j<l.length)(ha:cO (at' l j)=true)(kk x:Int){w:ji}(hw:∀ u,u<6->w u=jd l kk x j u):
  kV w ((runK l j).aC (at' l j).aC.toNat)=true↔∀ i,i<j->(at' l i).kind=kk->(at' l i).obj=x->Ae l i j:=by
 have hF:=Jd hok (z09 hj);have b:=bnd hok hj;have ht:(at' l j).aC.toNat<6:=by omega
 have hpast:∀ i,Ae l i j↔TS l j (at' l j).aC.toNat i:=λi=>by rw[pV hok hj];simp only[cO,z07,decide_eq_true_eq] at ha;rcases ha with ha|ha<;>simp[ha]
 have hW:kV w ((runK l j).aC (at' l j).aC.toNat)=true↔∀ u,u<6->jd l kk x j u<=(runK l j).aC (at' l j).aC.toNat u:=by simp only[kV,z1q,z1u,decide_eq_true_eq];refine forall_congr' λu=>imp_congr_right λhu=> ?_;rw[kC hu,hw u hu];split<;>omega
 rw[hW];constructor
 ·intro h i hi hk hx;have bi:=bnd hok (show i<l.length by omega)
  have hu:(at' l i).aC.toNat<6:=by omega
  rcases BU hok kk x (z09 hj) (at' l i).aC.toNat with⟨_,h2⟩|⟨i',hi',h1,h2,h3,h4,h5⟩
  ·exact absurd ⟨hk,hx,rfl⟩ (h2 i hi)
  ·have hle:=h5 i hi ⟨hk,hx,rfl⟩;have hc:=h _ hu;rw[h4,hF.c1 _ _ _ ht hu hi' h3,<- hpast] at hc;by_cases e:i=i'
   ·subst e;exact hc
   ·exact Et.trans (HY hok (by omega) (by omega) (.inl (.inl h3.symm))) hc
 ·intro h u hu;rcases BU hok kk x (z09 hj) u with⟨h1,_⟩|⟨i,hi,h1,h2,h3,h4,_⟩
  ·rw[h1];exact(hF.l1 _ _ ht hu).1
  ·rw[h4,hF.c1 _ _ _ ht hu hi h3,<- hpast];exact h i hi h1 h2
end
theorem TK{l:List Ev}{i:Nat}{r:Rc}:∀ {n:Nat},r∈jD l i n↔∃ j,j<n/\noRace l i j (at' l i) (at' l j)=false/\r=⟨i,j,(at' l i).obj,jQ (at' l i) (at' l j)⟩
 |0=>by simp[jD]
 |n+1=>by
  have hs:jD l i (n+1)=jD l i n++if noRace l i n (at' l i) (at' l n)=true then[] else[⟨i,n,(at' l i).obj,jQ (at' l i) (at' l n)⟩]:=rfl
  rw[hs,z0a,TK (n:=n)];constructor
  ·rintro(⟨j,h1,h2,h3⟩|h)
   ·exact⟨j,by omega,h2,h3⟩
   ·split at h
    ·cases h
    ·rename_i hn;simp only[z05,z02,or_false] at h;exact⟨n,z0b _,by simpa using hn,h⟩
  ·rintro⟨j,h1,h2,h3⟩;by_cases e:j=n
   ·subst e;refine .inr ?_;rw[if_neg (by rw[h2];simp),h3];simp
   ·exact .inl ⟨j,by omega,h2,h3⟩
theorem TL{l:List Ev}{r:Rc}:∀ {n:Nat},r∈nN l n↔∃ i,i<n/\r∈jD l i l.length
 |0=>by simp[nN]
 |n+1=>by
  rw[nN,z0a,TL (n:=n)];constructor
  ·rintro(⟨i,h1,h2⟩|h)
   ·exact⟨i,by omega,h2⟩
   ·exact⟨n,z0b _,h⟩
  ·rintro⟨i,h1,h2⟩;by_cases e:i=n
   ·subst e;exact .inr h2
   ·exact .inl ⟨i,by omega,h2⟩
theorem aah{rs:List Rc}(hp:∀ r,r∈rs->0<r.kind)(j:Int):∀ {n:Nat},n<=rs.length->(kR rs j n=0/\∀ r,r∈rs.take n->r.b≠j)\/((∃ r,r∈rs/\r.b=j/\r.kind=kR rs j n)/\∀ r,r∈rs.take n->r.b=j->kR rs j n<=r.kind)
 |0,_=> .inl ⟨rfl,λr hr=>by simp at hr⟩
 |n+1,hn=>by
  have hmem:=getD_mem (l:=rs) (i:=n) (d:=kZ.aI) (by omega)
  have hpos:=hp _ hmem;rw[bH kZ.aI (show n<rs.length by omega),kR]
  rcases aah hp j (n:=n) (by omega) with⟨h1,h2⟩|⟨⟨r0,h0,hb0,hk0⟩,h2⟩
  ·by_cases hb:(rs.getD n kZ.aI).b=j
   ·rw[if_pos ⟨hb, .inl h1⟩];refine .inr ⟨⟨_,hmem,hb,rfl⟩,λr hr hrb=> ?_⟩;rcases z0a.1 hr with hr|hr
    ·exact absurd hrb (h2 r hr)
    ·simp only[z05,z02,or_false] at hr;subst hr;exact z0r _
   ·rw[if_neg (λhh=>hb hh.1)];refine .inl ⟨h1,λr hr=> ?_⟩;rcases z0a.1 hr with hr|hr
    ·exact h2 r hr
    ·simp only[z05,z02,or_false] at hr;subst hr;exact hb
  ·have hk:=hp _ h0;split
   ·rename_i hc;refine .inr ⟨⟨_,hmem,hc.1,rfl⟩,λr hr hrb=> ?_⟩;rcases z0a.1 hr with hr|hr
    ·have:=h2 r hr hrb;omega
    ·simp only[z05,z02,or_false] at hr;subst hr;exact z0r _
   ·rename_i hc;refine .inr ⟨⟨r0,h0,hb0,hk0⟩,λr hr hrb=> ?_⟩;rcases z0a.1 hr with hr|hr
    ·exact h2 r hr hrb
    ·simp only[z05,z02,or_false] at hr;subst hr;refine Int.not_lt.1 λhlt=>hc ⟨hrb, .inr hlt⟩
theorem EU(a b:Ev):0<jQ a b:=by
 unfold jQ;split
 ·decide
 ·split<;>decide
section
variable {l:List Ev} (hok:(aF l).2=0)
include hok
theorem Dw{i:Nat}(hi:i<l.length):1<=(at' l i).kind/\(at' l i).kind<=8:=by
 have b:=bnd hok hi;have:=b.2.2;unfold many at this;by_cases h:1<=(at' l i).kind/\(at' l i).kind<=8
 ·exact h
 ·rw[if_neg (by omega),if_neg (by omega),if_neg (by omega),if_neg (by omega)] at this;omega
theorem aji{i j:Nat}(hi:i<l.length)(hj:j<l.length):noRace l i j (at' l i) (at' l j)=false↔i<j/\cO (at' l i)=true/\cO (at' l j)=true/\(at' l i).obj=(at' l j).obj/\¬ ((at' l i).kind=1/\(at' l j).kind=1)/\¬ Ae l i j:=by
 have k1:=Dw hok hi;have k2:=Dw hok hj;have hw:z01.wrap ((at' l i).kind+(at' l j).kind)=(at' l i).kind+(at' l j).kind:=aY;have ha:bI l i j=false↔¬ Ae l i j:=by rw[<- lC (z09 hj)];simp
 unfold noRace;rw[hw];simp only[z0p,decide_eq_false_iff_not,Bool.not_eq_false',decide_eq_true_eq,ha,cO,z07];constructor
 ·rintro⟨⟨⟨⟨⟨h1,h2⟩,h3⟩,h4⟩,h5⟩,h6⟩;exact⟨by omega,by omega,by omega,h4,by omega,h6⟩
 ·rintro⟨h1,h2,h3,h4,h5,h6⟩;exact⟨⟨⟨⟨⟨by omega,by omega⟩,by omega⟩,h4⟩,by omega⟩,h6⟩
omit hok in
theorem Bl{j:Nat}(hj:j<l.length):(xQ l j=0/\∀ i,i<l.length->noRace l i j (at' l i) (at' l j)=true)\/
  ((∃ i,i<l.length/\noRace l i j (at' l i) (at' l j)=false/\jQ (at' l i) (at' l j)=xQ l j)/\∀ i,i<l.length->noRace l i j (at' l i) (at' l j)=false->xQ l j<=jQ (at' l i) (at' l j)):=by
 have hm:∀ r,r∈aU l↔∃ i,i<l.length/\∃ j,j<l.length/\noRace l i j (at' l i) (at' l j)=false/\r=⟨i,j,(at' l i).obj,jQ (at' l i) (at' l j)⟩:=λr=>by rw[aU,TL];exact exists_congr λi=>and_congr_right λ_=>TK
 have hp:∀ r,r∈aU l->0<r.kind:=λr hr=>by obtain⟨i,_,j',_,_,rfl⟩:=(hm r).1 hr;exact EU _ _
 have ht:∀ i,i<l.length->noRace l i j (at' l i) (at' l j)=false->(⟨i,j,(at' l i).obj,jQ (at' l i) (at' l j)⟩:Rc)∈(aU l).take (aU l).length:=λi hi hn=>by rw[z0g];exact(hm _).2 ⟨i,hi,j,hj,hn,rfl⟩
 rcases aah hp (j:Int) (z0h _) with⟨h1,h2⟩|⟨⟨r,hr,hb,hk⟩,h2⟩
 ·refine .inl ⟨h1,λi hi=> ?_⟩;cases hn:noRace l i j (at' l i) (at' l j) with
  |true=>rfl
  |false=>exact absurd rfl (h2 _ (ht i hi hn))
 ·refine .inr ⟨?_,λi hi hn=>h2 _ (ht i hi hn) rfl⟩;obtain⟨i,hi,j',hj',hn,rfl⟩:=(hm r).1 hr;have e:j'=j:=by simp only at hb;omega
  subst e;exact⟨i,hi,hn,hk⟩
theorem PZ:∀ {j:Nat},j<=l.length->∀ x u,(rF l j).rd x u=jd l 1 x j u/\(rF l j).wr x u=jd l 2 x j u
 |0,_,x,u=>⟨rfl,rfl⟩
 |j+1,hj,x,u=>by
  have ih:=PZ (j:=j) (by omega) x
  have b:=bnd hok (show j<l.length by omega)
  have ht:(at' l j).aC.toNat<6:=by omega
  have hown:(runK l j).aC (at' l j).aC.toNat (at' l j).aC.toNat=z01.wrap (xI l j (at' l j).aC.toNat+1):=by have hlen:=bP hok;have hb:=TG (l:=l) (at' l j).aC.toNat j;rw[(Jd hok (show j<=l.length by omega)).own _ ht,ajh hok (by omega),aY];omega
  have hs:∀ k:Int,jd l k x (j+1) u=if (at' l j).kind=k/\(at' l j).obj=x then yu (jd l k x j) (at' l j).aC.toNat (z01.wrap (xI l j (at' l j).aC.toNat+1)) u else jd l k x j u:=λk=>by
   show(if (at' l j).kind=k/\(at' l j).obj=x then yu (jd l k x j) (at' l j).aC.toNat (z01.wrap (xI l j (at' l j).aC.toNat+1)) else jd l k x j) u=_
   split<;>rfl
  have hv:rF l (j+1)=if cO (at' l j)=true then WQ (rF l j) (at' l j).obj.toNat (at' l j) ((runK l j).aC (at' l j).aC.toNat) else rF l j:=rfl
  rw[hv,hs,hs];by_cases ha:cO (at' l j)=true
  ·rw[if_pos ha];simp only[cO,z07,decide_eq_true_eq] at ha;unfold WQ;have hx:(x=(at' l j).obj.toNat)↔(at' l j).obj=x:=by omega
   by_cases k1:(at' l j).kind=1
   ·rw[if_pos k1,if_neg (show ¬ ((at' l j).kind=2/\(at' l j).obj=x) by omega)]
    refine⟨?_,(ih u).2⟩;simp only[seC,hown];by_cases e:(at' l j).obj=(x:Int)
    ·have e1:(at' l j).kind=1/\(at' l j).obj=(x:Int):=⟨k1,e⟩;rw[if_pos (hx.2 e),if_pos e1,yu,<- hx.2 e,(ih u).1]
    ·rw[if_neg (λhh=>e (hx.1 hh)),if_neg (λhh=>e hh.2),(ih u).1]
   ·have k2:(at' l j).kind=2:=by omega
    rw[if_neg k1,if_neg (λhh:(at' l j).kind=1/\(at' l j).obj=x=>k1 hh.1)];refine⟨(ih u).1,?_⟩;simp only[seC,hown];by_cases e:(at' l j).obj=(x:Int)
    ·have e1:(at' l j).kind=2/\(at' l j).obj=(x:Int):=⟨k2,e⟩;rw[if_pos (hx.2 e),if_pos e1,yu,<- hx.2 e,(ih u).2]
    ·rw[if_neg (λhh=>e (hx.1 hh)),if_neg (λhh=>e hh.2),(ih u).2]
  ·rw[if_neg ha];simp only[cO,z07,decide_eq_true_eq] at ha;rw[if_neg (by omega),if_neg (by omega)]
   exact ih u
theorem ab3{j:Nat}(hj:j<l.length):xu l j=xQ l j:=by
 have kj:=Dw hok hj;have b:=bnd hok hj;show(if cO (at' l j)=true then uO (rF l j) (at' l j).obj.toNat (at' l j) ((runK l j).aC (at' l j).aC.toNat) else 0)=_
 have hsp:=Bl hj;have hri:∀ {i},i<l.length->(noRace l i j (at' l i) (at' l j)=false↔_):=λhi=>aji hok hi hj;by_cases ha:cO (at' l j)=true
 ·rw[if_pos ha];have hxo:(((at' l j).obj.toNat:Nat):Int)=(at' l j).obj:=by omega
  have wW:=within_iff hok hj ha 2 (at' l j).obj (w:=(rF l j).wr (at' l j).obj.toNat) (λu _=>by rw[(PZ hok (z09 hj) _ u).2,hxo])
  have wR:=within_iff hok hj ha 1 (at' l j).obj (w:=(rF l j).rd (at' l j).obj.toNat) (λu _=>by rw[(PZ hok (z09 hj) _ u).1,hxo])
  have hacc:∀ {i},cO (at' l i)=true↔(at' l i).kind=1\/(at' l i).kind=2:=by simp[cO]
  have two:∀ {kk:Int},¬ (∀ i,i<j->(at' l i).kind=kk->(at' l i).obj=(at' l j).obj->Ae l i j)->∃ i,i<j/\(at' l i).kind=kk/\(at' l i).obj=(at' l j).obj/\¬ Ae l i j:=by intro kk hh;refine z18 λhn=>hh λi hi hk hx=>z18 λhc=>hn ⟨i,hi,hk,hx,hc⟩
  unfold uO;by_cases k1:(at' l j).kind=1
  ·rw[if_pos k1];by_cases hw:kV ((rF l j).wr (at' l j).obj.toNat) ((runK l j).aC (at' l j).aC.toNat)=true
   ·rw[if_pos hw];rcases hsp with⟨h1,_⟩|⟨⟨i,hi,hn,_⟩,_⟩
    ·exact h1.symm
    ·obtain⟨r1,r2,r3,r4,r5,r6⟩:=(hri hi).1 hn;have r2:=hacc.1 r2;exact absurd (wW.1 hw i r1 (by omega) r4) r6
   ·rw[if_neg hw];obtain⟨i,hi,hk,hx,hc⟩:=two (λhh=>hw (wW.2 hh));have hn:=(hri (show i<l.length by omega)).2 ⟨hi,hacc.2 (.inr hk),ha,hx,by omega,hc⟩
    rcases hsp with⟨_,h2⟩|⟨⟨i0,hi0,hn0,hk0⟩,_⟩
    ·rw[h2 i (by omega)] at hn;cases hn
    ·obtain⟨r1,r2,r3,r4,r5,r6⟩:=(hri hi0).1 hn0;have r2:=hacc.1 r2;rw[<- hk0,jQ,if_neg (by omega),if_pos k1]
  ·have k2:(at' l j).kind=2:=by have:=hacc.1 ha;omega
   rw[if_neg k1];by_cases hw:kV ((rF l j).wr (at' l j).obj.toNat) ((runK l j).aC (at' l j).aC.toNat)=true
   ·rw[if_pos hw];by_cases hr:kV ((rF l j).rd (at' l j).obj.toNat) ((runK l j).aC (at' l j).aC.toNat)=true
    ·rw[if_pos hr];rcases hsp with⟨h1,_⟩|⟨⟨i,hi,hn,_⟩,_⟩
     ·exact h1.symm
     ·obtain⟨r1,r2,r3,r4,r5,r6⟩:=(hri hi).1 hn;rcases hacc.1 r2 with r2|r2
      ·exact absurd (wR.1 hr i r1 r2 r4) r6
      ·exact absurd (wW.1 hw i r1 r2 r4) r6
    ·rw[if_neg hr];obtain⟨i,hi,hk,hx,hc⟩:=two (λhh=>hr (wR.2 hh));have hn:=(hri (show i<l.length by omega)).2 ⟨hi,hacc.2 (.inl hk),ha,hx,by omega,hc⟩
     rcases hsp with⟨_,h2⟩|⟨⟨i0,hi0,hn0,hk0⟩,_⟩
     ·rw[h2 i (by omega)] at hn;cases hn
     ·obtain⟨r1,r2,r3,r4,r5,r6⟩:=(hri hi0).1 hn0;rcases hacc.1 r2 with r2|r2
      ·rw[<- hk0,jQ,if_pos r2]
      ·exact absurd (wW.1 hw i0 r1 r2 r4) r6
   ·rw[if_neg hw];obtain⟨i,hi,hk,hx,hc⟩:=two (λhh=>hw (wW.2 hh));have hn:=(hri (show i<l.length by omega)).2 ⟨hi,hacc.2 (.inr hk),ha,hx,by omega,hc⟩
    rcases hsp with⟨_,h2⟩|⟨⟨i0,hi0,hn0,hk0⟩,hle⟩
    ·rw[h2 i (by omega)] at hn;cases hn
    ·have:=hle i (by omega) hn
     have hk1:jQ (at' l i) (at' l j)=1:=by rw[jQ,if_neg (by omega),if_neg k1]
     have:=EU (at' l i0) (at' l j);omega
 ·rw[if_neg ha];rcases hsp with⟨h1,_⟩|⟨⟨i,hi,hn,_⟩,_⟩
  ·exact h1.symm
  ·exact absurd ((hri hi).1 hn).2.2.1 ha
omit hok in
theorem P5{j:Nat}(hj:j<l.length):0<=xQ l j:=by
 rcases Bl hj with⟨h1,_⟩|⟨⟨i,_,_,hk⟩,_⟩
 ·omega
 ·have:=EU (at' l i) (at' l j);omega
theorem QV:∀ {j:Nat},j<=l.length->tN l j=jE l j
 |0,_=>rfl
 |j+1,hj=>by
  have hn:=P5 (show j<l.length by omega)
  rw[tN,jE,QV (by omega),ab3 hok (by omega)]
  by_cases h:xQ l j=0
  ·rw[if_pos h,if_neg (by omega)]
  ·rw[if_neg h,if_pos (by omega)]
end
end Go.Proofs.YtgnaipcjbmhihaaGreatDoor.Fu
end
end
section
section
set_option maxRecDepth 100000
open Go Go.Sx Go.Proofs
namespace Go.Proofs.YtgnaipcjbmhihaaGreatDoor.Fa
open D Tr C Fu Ah Ps Od St Rc
def epB(l:List Ev)(i j:Nat):Bool:=decide ((at' l i).aC=(at' l j).aC/\∀ k,k<j->i<=k->¬ ((at' l k).aC=(at' l i).aC/\sK (at' l k)=true))
def QL(l:List Ev)(i:Int)(j:Nat):Bool:=decide (0<=i)&&epB l i.toNat j
def Sl(l:List Ev)(i:Int)(j:Nat):Bool:=decide (i<0)||bI l i.toNat j
def iY(l:List Ev)(eH:List Nat)(j:Nat):Bool:=eH.any λi=> !bI l i j
structure FS where
 wr:Int
 eH:List Nat
 mn:Bool
def xZ(l:List Ev)(x:Nat)(j:Nat):Prop:=2< (at' l j).kind\/¬ (at' l j).obj=x
instance (l:List Ev)(x j:Nat):Decidable (xZ l x j):=inferInstanceAs (Decidable (_\/_))
def y9(l:List Ev)(s:FS)(j:Nat):Prop:=s.mn=false/\s.eH.length=1/\epB l (s.eH.getD 0 0) j=true
instance (l:List Ev)(s:FS)(j:Nat):Decidable (y9 l s j):=inferInstanceAs (Decidable (_/\_))
def OZ(l:List Ev)(x:Nat)(s:FS)(j:Nat):FS:=if xZ l x j then s else if (at' l j).kind=1 then
  if y9 l s j then s else if s.mn=false/\iY l s.eH j=false then⟨s.wr,[j],false⟩ else⟨s.wr,s.eH.filter (λi=> !decide ((at' l i).aC=(at' l j).aC))++[j],true⟩
 else if QL l s.wr j=true then s else⟨j,if s.mn=true then[] else s.eH,false⟩
def CB(l:List Ev)(x:Nat)(s:FS)(j:Nat):Int:=if xZ l x j then 0 else if (at' l j).kind=1 then
  if y9 l s j then 0 else if Sl l s.wr j=true then 0 else 2
 else if QL l s.wr j=true then 0 else if Sl l s.wr j=false then 1 else if iY l s.eH j=true then 3 else 0
def O1(l:List Ev)(x:Nat)(s:FS)(j:Nat):Nat:=if xZ l x j then 0 else if (at' l j).kind=1 then
  if y9 l s j then 0 else if s.mn=false/\iY l s.eH j=true then 1 else 0
 else 0
def qh(l:List Ev)(x:Nat):Nat->FS
 |0=>⟨-1,[],false⟩
 |j+1=>OZ l x (qh l x j) j
def flW(l:List Ev)(x:Nat):Nat->List Fl
 |0=>[]
 |j+1=>flW l x j++if CB l x (qh l x j) j=0 then[] else[⟨j,x,CB l x (qh l x j) j⟩]
def slW(l:List Ev)(x:Nat):Nat->Nat
 |0=>0
 |j+1=>slW l x j+O1 l x (qh l x j) j
def Hg(l:List Ev):Nat->List Fl
 |0=>[]
 |x+1=>Hg l x++flW l x l.length
def slA(l:List Ev):Nat->Nat
 |0=>0
 |x+1=>slA l x+slW l x l.length
def outA(l:List Ev)(F:List Fl):Nat->List Fl
 |0=>[]
 |j+1=>outA l F j++F.filter (λf:Fl=>decide (f.at'=(j:Int)))
theorem O4{l:List Ev}{x:Nat}:∀ j,(flW l x j).length<=j
 |0=>z0h _
 |j+1=>by have:=O4 (l:=l) (x:=x) j;rw[flW,z00];split<;>simp<;>omega
theorem Wu{l:List Ev}{x:Nat}:∀ j,slW l x j<=j
 |0=>z0h _
 |j+1=>by
  have:=Wu (l:=l) (x:=x) j;rw[slW,O1];split
  ·omega
  ·split
   ·split
    ·omega
    ·split<;>omega
   ·omega
theorem ZF{l:List Ev}:∀ x,(Hg l x).length<=x*l.length
 |0=>by simp[Hg]
 |x+1=>by have:=ZF (l:=l) x;have:=O4 (l:=l) (x:=x) l.length;rw[Hg,z00,z1h];omega
theorem agZ{l:List Ev}:∀ x,slA l x<=x*l.length
 |0=>by simp[slA]
 |x+1=>by have:=agZ (l:=l) x;have:=Wu (l:=l) (x:=x) l.length;rw[slA,z1h];omega
theorem Jb{l:List Ev}{F:List Fl}:∀ j,(outA l F j).length<=j*F.length
 |0=>by simp[outA]
 |j+1=>by have:=Jb (l:=l) (F:=F) j;have:=z0o (λf:Fl=>decide (f.at'=(j:Int))) F;rw[outA,z00,z1h];omega
theorem ag0{l:List Ev}{x:Nat}:∀ j, -1<=(qh l x j).wr/\(qh l x j).wr<j/\(∀ i∈(qh l x j).eH,i<j)/\(qh l x j).eH.length<=j
 |0=>⟨by simp[qh],by simp[qh],by simp[qh],by simp[qh]⟩
 |j+1=>by
  obtain⟨h1,h2,h3,h4⟩:=ag0 (l:=l) (x:=x) j;have h3':∀ i∈(qh l x j).eH,i<j+1:=λi hi=>z1o (h3 i hi);have hf:=z0o (λi=> !decide ((at' l i).aC=(at' l j).aC)) (qh l x j).eH;rw[qh,OZ];split
  ·exact⟨h1,by omega,h3',by omega⟩
  ·split
   ·split
    ·exact⟨h1,by omega,h3',by omega⟩
    ·split
     ·exact⟨h1,by show(qh l x j).wr<_;omega,by simp,by simp⟩
     ·refine⟨h1,by show(qh l x j).wr<_;omega,?_,by simp;omega⟩
      intro i hi;simp only[z0a,z0k,z05,z02,or_false] at hi;rcases hi with hi|hi
      ·exact h3' i hi.1
      ·omega
   ·split
    ·exact⟨h1,by omega,h3',by omega⟩
    ·refine⟨by show -1<=(j:Int);omega,by show(j:Int)<_;omega,?_,?_⟩
     ·show ∀ i∈(if (qh l x j).mn=true then[] else(qh l x j).eH),i<j+1
      split
      ·simp
      ·exact h3'
     ·show(if (qh l x j).mn=true then[] else(qh l x j).eH).length<=j+1
      split
      ·simp
      ·omega
def flT(l:List Ev)(x j:Nat):List Fl:=Hg l x++flW l x j
def slT(l:List Ev)(x j:Nat):Nat:=slA l x+slW l x j
def rI(s:FS):List Int:=s.eH.map λ(i:Nat)=>(i:Int)
theorem kM(s:FS):(rI s).length=s.eH.length:=z0j _
theorem Jc{s:FS}{k:Nat}(h:k<s.eH.length):((rI s).map DT.int.aA).getD k .junk= .int .i64 ((s.eH.getD k 0:Nat):Int):=by rw[rI,List.map_map];simp[z0c,h];rfl
theorem anH{F:List Fl}{i:Nat}(h:i<F.length):(F.map jL.aA).getD i .junk= .agg [.int .i64 (F.getD i jL.aI).at', .int .i64 (F.getD i jL.aI).var, .int .i64 (F.getD i jL.aI).kind]:=by simp[z0c,h,OW]
def oI(l:List Ev)(F:List Fl)(j i:Nat):List Fl:=outA l F j++(F.take i).filter (λf:Fl=>decide (f.at'=(j:Int)))
theorem aym{l:List Ev}{F:List Fl}{j:Nat}:oI l F j 0=outA l F j:=by simp[oI]
theorem ayn{l:List Ev}{F:List Fl}{j:Nat}:oI l F j F.length=outA l F (j+1):=by rw[oI,z0g,outA]
theorem auz{l:List Ev}{F:List Fl}{j:Nat}(i:Nat):(oI l F j i).length<=j*F.length+i:=by have h0:=Jb (l:=l) (F:=F) j;have h1:=z0o (λf:Fl=>decide (f.at'=(j:Int))) (F.take i);have h2:=z1j i F;rw[oI,z00];omega
theorem ag1{l:List Ev}{F:List Fl}{j i:Nat}(h:i<F.length)(q:(F.getD i jL.aI).at'=(j:Int)):oI l F j (i+1)=oI l F j i++[F.getD i jL.aI]:=by
 have e:F.getD i jL.aI=F[i]:=by simp[z0c,h]
 rw[e] at q ⊢;rw[oI,z0n,z08 h,z0t,z0i,z0m (by simp[q]),z19,oI,z1m]
theorem arV{l:List Ev}{F:List Fl}{j i:Nat}(h:i<F.length)(q:¬ (F.getD i jL.aI).at'=(j:Int)):oI l F j (i+1)=oI l F j i:=by
 have e:F.getD i jL.aI=F[i]:=by simp[z0c,h]
 rw[e] at q;rw[oI,z0n,z08 h,z0t,z0i,z0w (by simp[q]),z19,z03,oI]
def rsF(l:List Ev)(eH:List Nat)(j k:Nat):List Int:=((eH.take k).filter λi=> !decide ((at' l i).aC=(at' l j).aC)).map λ(i:Nat)=>(i:Int)
theorem ZG{l:List Ev}{eH:List Nat}{j:Nat}(k:Nat):(rsF l eH j k).length<=k:=by rw[rsF,z0j];have h1:=z0o (λi=> !decide ((at' l i).aC=(at' l j).aC)) (eH.take k);have h2:=z1j k eH;omega
theorem ag2{l:List Ev}{eH:List Nat}{j k:Nat}(h:k<eH.length)(q:¬ (l.getD (eH.getD k 0) aO.aI).aC=(l.getD j aO.aI).aC):rsF l eH j (k+1)=rsF l eH j k++[((eH.getD k 0:Nat):Int)]:=by
 have e:eH.getD k 0=eH[k]:=by simp[z0c,h]
 rw[e] at q ⊢;have q:¬ (at' l eH[k]).aC=(at' l j).aC:=q;rw[rsF,z0n,z08 h,z0t,z0i,z06,z0m (by simp[q])]
 rfl
theorem ag3{l:List Ev}{eH:List Nat}{j k:Nat}(h:k<eH.length)(q:(l.getD (eH.getD k 0) aO.aI).aC=(l.getD j aO.aI).aC):rsF l eH j (k+1)=rsF l eH j k:=by
 have e:eH.getD k 0=eH[k]:=by simp[z0c,h]
 rw[e] at q;have q:(at' l eH[k]).aC=(at' l j).aC:=q;rw[rsF,z0n,z08 h,z0t,z0i,z0w (by simp[q]),z19,z03]
 rfl
def ag4:JC:=(.seq (qN (o7 23 6<|o7 24 1<|oO 25 23 24<|.nil) (qO 25 .skip (.exit 0))) (.seq (.block 1 (.seq (.bJ<|qL [2,6,0,1]<|o9 28 1 2<|o7 29 6<|oK 30 3 28 29<|oD 31 1 1 30<|qL [31,2,0,6,1]<|o9 32 1 31<|o9 33 1 2<|o7 34 0<|oK 35 3 33 34<|qL [35,32,2,6,1,0]<|oD 36 1 1 35<|o9 37 1 36<|oZ 38 32 37<|qL [38,2,6,1,0]<|o7 39 38<|.sc false 62 39 (o9 40 1 2<|o7 41 6<|oK 42 3 40 41<|oD 43 0 0 42<|o9 44 1 43<|oH 45 44 4<|o7 46 45<|.sc true 53 46 (o9 47 1 2<|o7 48 6<|oK 49 3 47 48<|oD 50 0 0 49<|o9 51 1 50<|oH 52 51 5<|.nil) (.t 52)<|o7 54 53<|.sc true 61 54 (o9 55 1 2<|o7 56 6<|oK 57 3 55 56<|oD 58 0 0 57<|o9 59 1 58<|oH 60 59 8<|.nil) (.t 60)<|.nil) (.t 61)<|.nil) (qM [62,6,1,2,0] (qO 62 (qN (qH 5 false<|.nil) .ret) .skip)))) (qM [6,1,2,0] (.ops<|o7 26 6<|oJ 27 26 1<|o7 6 27<|.nil))))
def arW:JC:=(qM [] (qN (qH 5 true<|.nil) .ret))
def j76:JC:=(qN (qH 5 false<|.nil) (.seq (.seq (.bJ<|o7 7 0<|qA 8 7 0<|o7 9 8<|.sc true 21 9 (o9 10 1 2<|o7 11 0<|oK 12 3 10 11<|oD 13 1 1 12<|o9 14 1 13<|o9 15 1 2<|o7 16 1<|oK 17 3 15 16<|oD 18 1 1 17<|o9 19 1 18<|qo 20 (.cmp .neq (.t 14) (.t 19))<|.nil) (.t 20)<|.nil) (qM [21,0,1,2] (qO 21 (qN (qH 5 false<|.nil) .ret) .skip))) (qM [0,1,2] (.seq (qN (o7 22 0<|o7 6 22<|.nil) (.block 0 (.loop [1,2,0] [6] ag4))) arW))))
def j77:JC:=(qN (qH 5 false<|.nil) (qN (o7 6 0<|qA 7 6 0<|o7 8 7<|.sc true 16 8 (o9 9 1 2<|o7 10 0<|oK 11 1 9 10<|o9 12 1 11<|o7 13 1<|oK 14 1 12 13<|o9 15 1 14<|.nil) (.t 15)<|o7 5 16<|.nil) .ret))
theorem aA8(n:Nat)(M:Nat->Nat->Bool)(i:Int)(j:Nat)(hi:i<n)(hj:j<n):FnOK Tryz.prog 77 [.int .i64 i, .int .i64 j, .ref (kQ.aA (rowsOf n M)) [] 0] [] (.bool (decide (i<0)||M i.toNat j)) []:=by
 refine fn_walkA j77 [.tmp 5] 17 FH.none_ok rfl ?_;unfold j77;by_cases h:i<0
 ·simp only[go_sem,seval,h]
 ·obtain⟨k,rfl⟩:∃ k:Nat,i=k:=⟨i.toNat,by omega⟩
  have hk:k<n:=by omega
  simp only[go_sem,seval,h,vk,rows_row hk,tY hk hj];omega
theorem aA9(l:List Ev)(i:Int)(j:Nat)(hl:l.length<=1000)(hi:i<j)(hj:j<l.length):FnOK Tryz.prog 76 [.int .i64 i, .int .i64 j, .ref (dw.aA l) [] 0] [] (.bool (QL l i j)) []:=by
 refine fn_walkA j76 [.tmp 5] 63 FH.none_ok rfl ?_;unfold j76;by_cases h:i<0
 ·have e:QL l i j=false:=by rw[QL];simp;omega
  simp only[go_sem,seval,h,e]
 ·obtain⟨k,rfl⟩:∃ k:Nat,i=k:=⟨i.toNat,by omega⟩
  have hk:k<j:=by omega
  have e:QL l k j=epB l k j:=by rw[QL,z04];simp
  rw[e];simp only[go_sem,seval,h];refine⟨⟨by omega,by omega⟩,λht=>by rw[epB];exact(decide_eq_false λhh=>ht hh.1).symm,λht=> ?_⟩
  refine aZ Nat (λa=>[.int .i64 a]) (λa=>[]) (λa=>k<=a/\a<=j/\∀ b,b<a->k<=b->¬ ((at' l b).aC=(at' l k).aC/\sK (at' l b)=true)) (λa=>j - a) k ⟨by omega,by omega,λb h1 h2=>by omega⟩ ?_ rfl ?_
  ·simp only[go_sem,seval]
  intro a ⟨ha1,ha2,ha3⟩;have hn:(at' l a).aC=(at' l k).aC->sK (at' l a)=true->a<j->epB l k j=false:=by intro h1 h2 h3;rw[epB,decide_eq_false_iff_not];exact λhh=>hh.2 a h3 ha1 ⟨h1,h2⟩
  by_cases q:a<j
  ·have q':(a:Int)<j:=by omega
   have hw:z01.wrap ((a:Int)+1)=((a+1:Nat):Int):=aY;have hal:a<l.length:=by omega
   unfold ag4;simp only[go_sem,seval,q',hw];refine⟨⟨by omega,by omega⟩,⟨by omega,by omega⟩,λ_=>⟨⟨⟨by omega,by omega⟩,λ_=>⟨by omega,by omega⟩⟩,λ_=>⟨by omega,by omega⟩⟩,λhh=> ?_,λhh=>⟨a+1,⟨by omega,by omega,λb h1 h2 h3=> ?_⟩,by omega,rfl⟩⟩
   ·rw[z0d,decide_eq_true_eq] at hh;exact(hn hh.1 hh.2 q).symm
   ·by_cases e:b=a
    ·subst e;have hh:(decide ((at' l b).aC=(at' l k).aC)&&sK (at' l b))=false:=hh;rw[decide_eq_true h3.1,h3.2] at hh;cases hh
    ·exact ha3 b (by omega) h2 h3
  ·have q':¬ (a:Int)<j:=by omega
   have e:a=j:=by omega
   subst e;have e:epB l k a=true:=by rw[epB];exact decide_eq_true ⟨ht,ha3⟩
   unfold ag4;simp only[go_sem,seval,q',e];unfold arW;simp only[go_sem,seval];exact e.symm
end Go.Proofs.YtgnaipcjbmhihaaGreatDoor.Fa
end
section
set_option maxRecDepth 100000
open Go Go.Sx Go.Proofs
namespace Go.Proofs.YtgnaipcjbmhihaaGreatDoor.Fa
open D Tr C Fu Ah Ps Od St Rc
abbrev aA':DT (List Ev):=dw.ref
abbrev aBa:DT (List (List Bool)):=kQ.ref
def ZH:JC:=(qN (oO 51 50 49<|.nil) (qM [51,48,50,15,12,13,49,14,10,9,11,34,33,32,7,8,5,6,1,27,4] (.seq (qO 51 .skip (.exit 4)) (qM [48,50,15,12,13,49,14,10,9,11,34,33,32,7,8,5,6,1,27,4] (.seq (.block 5 (qN (oK 52 1 48 50<|o9 53 1 52<|o7 17 53<|.nil) (qM [15,12,17,13,50,49,48,14,10,9,11,34,33,32,7,8,5,6,1,27,4] (.ops<|o7 54 15<|o7 55 54<|.sc true 61 55 (o7 56 12<|o7 57 17<|o7 58 13<|eo 59 (.jm (.t 56) [(.t 57),(.t 58)])<|qF 60 59<|.nil) (.t 60)<|o7 15 61<|.nil)))) (qM [50,49,48,15,12,13,14,10,9,11,34,33,32,7,8,5,6,1,27,4] (.ops<|oJ 62 50 1<|o7 50 62<|.nil)))))))
def ag5:JC:=(qN (oO 128 127 126<|.nil) (qM [128,125,127,1,14,18,126,13,34,33,32,7,12,10,11,8,5,6,27,4] (.seq (qO 128 .skip (.exit 7)) (qM [125,127,1,14,18,126,13,34,33,32,7,12,10,11,8,5,6,27,4] (.seq (.block 8 (qN (oK 129 1 125 127<|o9 130 1 129<|o7 20 130<|.nil) (qM [1,20,14,18,127,126,125,13,34,33,32,7,12,10,11,8,5,6,27,4] (.seq (.bJ<|o9 131 1 1<|o7 132 20<|oK 133 3 131 132<|oD 134 1 1 133<|qL [134,14,18,20,127,126,125,1,13,34,33,32,7,12,10,11,8,5,6,27,4]<|o9 135 1 134<|oD 136 1 1 14<|o9 137 1 136<|qo 138 (.cmp .neq (.t 135) (.t 137))<|.nil) (qM [138,18,20,127,126,125,1,14,13,34,33,32,7,12,10,11,8,5,6,27,4] (qO 138 (.ops<|o7 139 18<|o7 140 20<|qL [140,139,127,126,125,1,14,13,34,33,32,7,12,10,11,8,5,6,27,4]<|eo 141 (.qj 3 1 1 (.int .i64 0) [(0,(.t 140))])<|oW 142 3 1 8 139 141<|o7 18 142<|.nil) .skip)))))) (qM [127,126,125,1,14,18,13,34,33,32,7,12,10,11,8,5,6,27,4] (.ops<|oJ 143 127 1<|o7 127 143<|.nil)))))))
def arX:JC:=(qM [18,13,34,33,32,7,12,10,11,8,5,6,1,27,4] (.sel [0,1,2,5] (.ops<|o7 144 18<|o7 145 13<|eo 146 (.qj 3 1 1 (.int .i64 0) [(0,(.t 145))])<|oW 147 3 1 8 144 146<|o7 9 147<|.nil)))
def ag6:JC:=(qM [14,10,9,11,13,34,33,32,7,12,8,5,6,1,27,4,15] (.block 6 (qN (oD 84 0 0 14<|o9 85 1 84<|oH 86 85 1<|o7 83 86<|.nil) (qM [83,10,9,11,13,34,33,32,7,12,8,5,6,1,27,4,15,14] (qO 83 (.bn 9 3 1 (.seq (qN (o7 87 10<|qF 88 87<|o7 89 88<|qL [89,9,11,13,34,33,32,7,12,10,8,5,6,1,27,4,15,14]<|.sc false 93 89 (o7 90 9<|oP 91 90<|oH 92 91 1<|.nil) (.t 92)<|o7 94 93<|.sc false 101 94 (o7 95 11<|o7 96 9<|qB 97 1 96 0<|o9 98 1 97<|o7 99 13<|eo 100 (.jm (.t 95) [(.t 98),(.t 99)])<|.nil) (.t 100)<|.nil) (qO 101 (.exit 3) .skip)) (qM [12,8,13,5,7,10,15,34,33,32,11,6,1,27,4,9,14] (.seq (.seq (.sel [0,1,2,3,4] (.ops<|o7 102 12<|o7 103 8<|o7 104 13<|eo 105 (.jm (.t 102) [(.t 103),(.t 104)])<|qF 106 105<|.nil)) (qM [106,5,13,7,10,15,34,33,32,12,11,8,6,1,27,4,9,14] (qO 106 (.sel [0,1,2,3,4] (.ops<|o7 107 5<|o7 108 13<|o7 109 7<|qo 110 (.lF (.agg [(.int .i64 0),(.int .i64 0),(.int .i64 0)]) [([.eG 0],0,1,(.t 108)),([.eG 1],1,1,(.t 109)),([.eG 2],2,1,(I 2))])<|qL [110,107,10,15,13,34,33,32,7,12,11,8,6,1,27,4,9,14]<|eo 111 (.qj 110 3 1 (.agg [(.int .i64 0),(.int .i64 0),(.int .i64 0)]) [(0,(.t 110))])<|oW 112 110 3 24 107 111<|o7 5 112<|.nil)) .skip))) (qM [10,15,13,34,33,32,7,12,11,8,5,6,1,27,4,9,14] (.seq (qN (o7 113 10<|qF 114 113<|o7 115 114<|.sc false 118 115 (o7 116 15<|qF 117 116<|.nil) (.t 117)<|.nil) (qM [118,13,34,33,32,7,12,10,11,8,5,6,1,27,4,9,14] (qO 118 (.seq (.sel [0,1,2,5] (.ops<|qL [13,34,33,32,7,12,10,11,8,5,6,1,27,4]<|o7 119 13<|eo 120 (.qj 3 1 1 (.int .i64 0) [(0,(.t 119))])<|o7 9 120<|.nil)) (.exit 3)) .skip))) (qM [10,6,9,1,14,13,34,33,32,7,12,11,8,5,27,4] (.seq (qN (o7 121 10<|qF 122 121<|.nil) (qM [122,6,9,1,14,13,34,33,32,7,12,11,8,5,27,4,10] (qO 122 (qN (qH 10 true<|.nil) (qM [6,9,1,14,13,34,33,32,7,12,10,11,8,5,27,4] (.ops<|o7 123 6<|oJ 124 123 1<|o7 6 124<|.nil))) .skip))) (qM [9,1,14,13,34,33,32,7,12,10,11,8,5,6,27,4] (qN (oU 18<|.nil) (qM [9,1,14,18,13,34,33,32,7,12,10,11,8,5,6,27,4] (.seq (qN (o7 125 9<|oP 126 125<|o8 127 0<|.nil) (qM [127,126,125,1,14,18,13,34,33,32,7,12,10,11,8,5,6,27,4] (.block 7 (.bn 18 3 1 (.loop [126,125,1,14,13,34,33,32,7,12,10,11,8,5,6,27,4] [127,18] ag5))))) arX)))))))))))) (qN (o7 149 11<|o7 150 8<|o7 151 13<|eo 152 (.jm (.t 149) [(.t 150),(.t 151)])<|o7 148 152<|.nil) (qM [148,34,33,32,7,9,12,10,11,8,5,6,1,27,4,13,15] (qO 148 .skip (.seq (qN (o7 63 12<|o7 64 8<|o7 65 13<|eo 66 (.jm (.t 63) [(.t 64),(.t 65)])<|qF 67 66<|.nil) (qM [67,5,13,7,10,34,33,32,12,11,6,1,27,4,9,15] (qO 67 (.sel [0,1,2,3,4] (.ops<|o7 68 5<|qL [13,7,68,10,34,33,32,12,11,6,1,27,4,9]<|o7 69 13<|o7 70 7<|qo 71 (.lF (.agg [(.int .i64 0),(.int .i64 0),(.int .i64 0)]) [([.eG 0],0,1,(.t 69)),([.eG 1],1,1,(.t 70)),([.eG 2],2,1,(I 1))])<|eo 72 (.qj 110 3 1 (.agg [(.int .i64 0),(.int .i64 0),(.int .i64 0)]) [(0,(.t 71))])<|oW 73 110 3 24 68 72<|o7 5 73<|.nil)) (qN (o7 74 15<|.nil) (qM [74,5,13,7,10,34,33,32,12,11,6,1,27,4,9] (qO 74 (.sel [0,1,2,3,4] (.ops<|o7 75 5<|o7 76 13<|o7 77 7<|qo 78 (.lF (.agg [(.int .i64 0),(.int .i64 0),(.int .i64 0)]) [([.eG 0],0,1,(.t 76)),([.eG 1],1,1,(.t 77)),([.eG 2],2,1,(I 3))])<|qL [78,75,13,10,34,33,32,7,12,11,6,1,27,4,9]<|eo 79 (.qj 110 3 1 (.agg [(.int .i64 0),(.int .i64 0),(.int .i64 0)]) [(0,(.t 78))])<|oW 80 110 3 24 75 79<|o7 5 80<|.nil)) .skip)))))) (qM [13,10,34,33,32,7,12,11,5,6,1,27,4,9] (qN (o7 81 13<|o7 8 81<|.nil) (qM [10,34,33,32,7,12,11,8,5,6,1,27,4,9] (qN (o7 82 10<|.nil) (qM [82,34,33,32,7,12,11,8,5,6,1,27,4,9,10] (qO 82 (.ops<|oU 9<|qH 10 false<|.nil) .skip)))))))))))))))
def Sm:JC:=(qM [34,33,32,7,9,12,10,11,8,5,6,1,27,4] (.ops<|oJ 153 34 1<|o7 34 153<|.nil))
def ZJ:JC:=(qN (oO 35 34 33<|.nil) (qM [35,34,32,7,33,9,12,10,11,8,5,6,1,27,4] (.seq (qO 35 .skip (.exit 2)) (qM [34,32,7,33,9,12,10,11,8,5,6,1,27,4] (.seq (.block 3 (qN (o7 36 34<|oK 37 3 32 34<|oC 38 3 37<|qK 14 56<|o7 13 36<|oG 3 14 38<|.nil) (qM [14,7,34,33,32,9,12,10,11,8,5,6,1,27,4,13] (.seq (qN (oD 39 0 0 14<|o9 40 1 39<|qJ 41 40 2<|o7 42 41<|qL [42,14,7,34,33,32,9,12,10,11,8,5,6,1,27,4,13]<|.sc true 47 42 (oD 43 2 2 14<|o9 44 1 43<|o7 45 7<|qo 46 (.cmp .neq (.t 44) (.t 45))<|.nil) (.t 46)<|.nil) (qO 47 (.exit 3) .skip)) (qM [9,12,13,14,10,11,34,33,32,7,8,5,6,1,27,4] (qN (qH 15 false<|.nil) (qM [9,15,12,13,14,10,11,34,33,32,7,8,5,6,1,27,4] (.seq (qN (o7 48 9<|oP 49 48<|o8 50 0<|.nil) (qM [50,49,48,15,12,13,14,10,9,11,34,33,32,7,8,5,6,1,27,4] (.block 4 (.loop [49,48,12,13,14,10,9,11,34,33,32,7,8,5,6,1,27,4] [50,15] ZH)))) ag6)))))))) Sm)))))
def arY:JC:=(qM [27,1,4,5,6] (.ops<|oJ 154 27 1<|o7 27 154<|.nil))
def ag7:JC:=(qN (qA 28 27 8<|.nil) (.seq (qO 28 .skip (.exit 0)) (.seq (.block 1 (qN (o7 29 27<|o7 7 29<|.nil) (qN (o8 8 (-1)<|oU 9<|qH 10 false<|.nil) (qM [1,4,7,9,10,8,5,6,27] (qN (qo 30 (.GL 76 [(.t 1)])<|o7 11 30<|.nil) (qM [4,1,7,9,10,11,8,5,6,27] (qN (qo 31 (.GL 77 [(.t 4)])<|o7 12 31<|.nil) (qM [1,7,9,12,10,11,8,5,6,27,4] (qN (o9 32 1 1<|oP 33 32<|o8 34 0<|.nil) (qM [34,33,32,7,9,12,10,11,8,5,6,1,27,4] (.block 2 (.bn 9 3 1 (.bn 5 110 3 (.loop [33,32,7,12,11,1,27,4] [34,9,10,8,5,6] ZJ)))))))))))))) arY)))
def ag8:JC:=(qN (oO 163 162 161<|.nil) (qM [163,160,162,22,21,161,157,156,5,6] (.seq (qO 163 .skip (.exit 11)) (qM [160,162,22,21,161,157,156,5,6] (.seq (.block 12 (qN (oK 164 3 160 162<|oC 165 3 164<|qK 24 110<|oG 3 24 165<|.nil) (qM [24,22,21,162,161,160,157,156,5,6] (qN (oD 166 0 0 24<|o9 167 1 166<|o7 168 22<|oZ 169 167 168<|.nil) (qM [169,21,24,162,161,160,22,157,156,5,6] (qO 169 (.ops<|o7 170 21<|oC 171 3 24<|qL [171,170,162,161,160,22,157,156,5,6]<|eo 172 (.qj 110 3 1 (.agg [(.int .i64 0),(.int .i64 0),(.int .i64 0)]) [(0,(.t 171))])<|oW 173 110 3 24 170 172<|o7 21 173<|.nil) .skip)))))) (qM [162,161,160,22,21,157,156,5,6] (.ops<|oJ 174 162 1<|o7 162 174<|.nil)))))))
def ag9:JC:=(qM [157,156,5,21,6] (.ops<|oJ 175 157 1<|o7 157 175<|.nil))
def Wv:JC:=(qN (oO 158 157 156<|.nil) (.seq (qO 158 .skip (.exit 9)) (.seq (.block 10 (qN (o7 159 157<|o7 22 159<|.nil) (qN (o7 160 5<|oP 161 160<|o8 162 0<|.nil) (qM [162,161,160,22,21,157,156,5,6] (.block 11 (.bn 21 110 3 (.loop [161,160,22,157,156,5,6] [162,21] ag8))))))) ag9)))
def aha:JC:=(qM [21,6] (qN (o7 176 21<|o7 177 6<|o7 2 176<|o7 3 177<|.nil) (.bn 2 110 3 (.bn 2 110 3 .ret))))
def ahb:JC:=(qM [1,5,6] (qN (oU 21<|.nil) (.seq (qN (o9 155 1 1<|oP 156 155<|o8 157 0<|.nil) (.block 9 (.bn 21 110 3 (.loop [156,5,6] [157,21] Wv)))) aha)))
def j39:JC:=(qN (oV 1 29 0<|oU 2<|o8 3 0<|.nil) (qN (o9 25 1 1<|oM 26 41 25<|eo 4 (.alloc 83 .bF)<|oG 1 4 26<|.nil) (qN (oU 5<|.nil) (qN (o8 6 0<|.nil) (.seq (qN (o8 27 0<|.nil) (qM [27,1,4,5,6] (.block 0 (.bn 5 110 3 (.loop [1,4] [27,5,6] ag7))))) ahb)))))
def Gfa(f:FuncId)(a:List SV)(m:List ay):Sx.Call:=(FH.pz 41 (.one dw) (.one kQ) (λy=>y.1.length<=1000) (λy=>rowsOf y.1.length (bI y.1))<|
 FH.rd 76 (.three .int .int aA') (.one .bool) (λy=>y.2.2.1.length<=1000/\y.1<y.2.1/\0<=y.2.1/\y.2.1<y.2.2.1.length) (λy=>QL y.2.2.1 y.1 y.2.1.toNat)<|
 FH.rd 77 (.three .int .int aBa) (.one .bool) (λy=>y.1<y.2.1/\0<=y.2.1/\y.2.1<y.2.2.1.length/\∃ M,y.2.2.1=rowsOf y.2.2.1.length M) (λy=>decide (y.1<0)||(y.2.2.1.getD y.1.toNat []).getD y.2.1.toNat false) FH.none) f a m
theorem nX:type_of% (nq Gfa.eq_1):=nq Gfa.eq_1
theorem auA:aW Tryz.prog Gfa:=FH.oq (λy h=>Dp y.1 h)<|
 FH.aT (λy h=>by
  obtain⟨i,j,l,_⟩:=y;obtain⟨h1,h2,h3,h4⟩:=h;simp only at h1 h2 h3 h4;obtain⟨j,rfl⟩:∃ n:Nat,j=n:=⟨j.toNat,by omega⟩
  exact aA9 l i j h1 h2 (by omega))<|
 FH.aT (λy h=>by
  obtain⟨i,j,R,_⟩:=y;obtain⟨h2,h3,h4,M,h5⟩:=h;simp only at h2 h3 h4 h5;obtain⟨j,rfl⟩:∃ n:Nat,j=n:=⟨j.toNat,by omega⟩
  have hb:(decide (i<0)||(R.getD i.toNat []).getD ((j:Int)).toNat false)=(decide (i<0)||M i.toNat j):=by
   by_cases hi:i<0
   ·simp[hi]
   ·congr 1
    rw[h5,z04,tY (by omega) (by omega)]
  have:=aA8 R.length M i j (by omega) (by omega)
  rw[<- h5,<- hb] at this;exact this) FH.none_ok
theorem AL{l:List Ev}{x j:Nat}{sv fv:SV}{mn:Bool}{wr S':Int}{R1 R2 r3 r4:ay}{st':FS}{F1:List Fl}{S1:Nat}(hj:j<l.length)(b:Bool)(L:List Int)(hst:qh l x (j+1)=st')(hfl:flT l x (j+1)=F1)(hsl:slT l x (j+1)=S1)
  (h1:b=true->L=rI st':=by first|exact λ_=>rfl|(intro h;cases h;done)|(intro _;simp[rI,rsF])) (h2:b=false->st'.eH=[]/\st'.mn=false:=by first|(intro h;cases h;done)|exact λ_=>⟨rfl,rfl⟩|exact λ_=>⟨by assumption,by first|rfl|assumption⟩)
  (e1:sv=if b=true then .vec 3 L.length else .bF:=by first|rfl|(rw[if_pos rfl,kM])|(rw[if_pos rfl,z00];rfl)) (e2:mn=st'.mn:=by first|rfl|simp[*]) (e3:wr=st'.wr:=by rfl) (e4:fv= .vec 2 F1.length:=by first|rfl|(rw[z00];rfl)) (e5:S'=(S1:Int):=by first|rfl|assumption)
  (e6:r3= .vec 110 3 (F1.map jL.aA):=by first|rfl|(rw[z06];rfl)|simp only[*]) (e7:r4= .vec 3 1 (L.map DT.int.aA):=by first|rfl|(rw[z06];rfl)):
  ∃ p:Nat×Bool×List Int,(p.1<=l.length/\(p.2.1=true->p.2.2=rI (qh l x p.1))/\(p.2.1=false->(qh l x p.1).eH=[]/\(qh l x p.1).mn=false))/\l.length - p.1<l.length - j/\
   (((j+1:Nat):Int)=p.1/\(sv=if p.2.1=true then .vec 3 p.2.2.length else .bF)/\mn=(qh l x p.1).mn/\wr=(qh l x p.1).wr/\fv= .vec 2 (flT l x p.1).length/\S'=(slT l x p.1:Int))/\
   [R1,R2,r3,r4]=[R1,R2, .vec 110 3 ((flT l x p.1).map jL.aA), .vec 3 1 (p.2.2.map DT.int.aA)]:=by
 subst hst hfl hsl e6 e7;exact⟨(j+1,b,L),⟨hj,h1,h2⟩,by show l.length - (j+1)<l.length - j;omega,⟨rfl,e1,e2,e3,e4,e5⟩,rfl⟩
theorem ahc{l:List Ev}{s:FS}{j:Nat}(hm:s.mn=false)(hn:s.eH.length=1)(hsa:¬ y9 l s j):QL l ((s.eH.getD 0 0:Nat):Int) j=false:=by
 rw[QL,z04];cases h:epB l (s.eH.getD 0 0) j with
 |false=>rw[Bool.and_false]
 |true=>exact absurd ⟨hm,hn,h⟩ hsa
set_option maxHeartbeats 4000000 in
theorem anI(l:List Ev)(hok:(aF l).2=0):FnOK Tryz.prog 39 [dw.aA l] [] (.bK [.vec 0 (outA l (Hg l 8) l.length).length, .int .i64 (slA l 8)]) [.vec 110 3 ((outA l (Hg l 8) l.length).map jL.aA)]:=by
 have hl:=bP hok;refine fn_walkA j39 [.tmp 2, .tmp 3] 178 auA rfl ?_;unfold j39;simp only[go_sem,seval,nX];refine⟨by omega,?_⟩
 refine aZ Nat (λx=>[.int .i64 x, .vec 2 (Hg l x).length, .int .i64 (slA l x)]) (λx=>[.blk 29 (dw.aA l), .blk 83 (kQ.aA (rowsOf l.length (bI l))), .vec 110 3 ((Hg l x).map jL.aA)]) (λx=>x<=8) (λx=>8 - x) 0 (by omega) ?_ rfl ?_
 ·simp only[go_sem,seval];exact⟨rfl,rfl⟩
 intro x hx;have hA:=ZF (l:=l) x;have hA8:x*l.length<=8*80:=z1b hx (by omega)
 have hsA:=agZ (l:=l) x;by_cases h1:x<8
 ·have h1':(x:Int)<8:=by omega
  have hwx:z01.wrap ((x:Int)+1)=((x+1:Nat):Int):=aY;unfold ag7;simp only[go_sem,seval,h1'];refine aZ (Nat×Bool×List Int) (λp=>[.int .i64 p.1,if p.2.1=true then .vec 3 p.2.2.length else .bF, .bool (qh l x p.1).mn, .int .i64 (qh l x p.1).wr, .vec 2 (flT l x p.1).length, .int .i64 (slT l x p.1)]) (λp=>[.blk 29 (dw.aA l), .blk 83 (kQ.aA (rowsOf l.length (bI l))), .vec 110 3 ((flT l x p.1).map jL.aA), .vec 3 1 (p.2.2.map DT.int.aA)]) (λp=>p.1<=l.length/\(p.2.1=true->p.2.2=rI (qh l x p.1))/\(p.2.1=false->(qh l x p.1).eH=[]/\(qh l x p.1).mn=false)) (λp=>l.length - p.1) (0,true,[]) ⟨Nat.zero_le _,λ_=>rfl,λh=>by cases h⟩ ?_ ?_ ?_
  ·simp only[go_sem,seval];refine⟨rfl,rfl,by simp[flT,flW],by simp[slT,slW]⟩
  ·simp[flT,flW];exact⟨rfl,rfl⟩
  intro⟨j,b,L⟩ ⟨hj,hb1,hb2⟩;simp only at hj hb1 hb2;by_cases h2:j<l.length
  ·have h2':(j:Int)<l.length:=by omega
   have MG:z01.wrap ((j:Int)+1)=((j+1:Nat):Int):=aY;obtain⟨g1,g2,g3,g4⟩:=ag0 (l:=l) (x:=x) j;have hF:=O4 (l:=l) (x:=x) j;have hS:=Wu (l:=l) (x:=x) j;have hst:qh l x (j+1)=OZ l x (qh l x j) j:=rfl;have hFl:(flT l x j).length<=640+j:=by rw[flT,z00];omega
   have hSl:slT l x j<=640+j:=by rw[slT];omega
   have hfl:flT l x (j+1)=flT l x j++if CB l x (qh l x j) j=0 then[] else[⟨j,x,CB l x (qh l x j) j⟩]:=(z1m _ _ _).symm
   have hsl:slT l x (j+1)=slT l x j+O1 l x (qh l x j) j:=(Nat.add_assoc _ _ _).symm;generalize qh l x j=s at*;generalize flT l x j=F at*;generalize slT l x j=S at*;have hrl:=vk (n:=l.length) (M:=bI l);have hwS:z01.wrap ((S:Int)+1)=((S+1:Nat):Int):=aY;by_cases hsk:xZ l x j
   ·have hsk':(decide (2< (l.getD j aO.aI).kind)|| !decide ((l.getD j aO.aI).obj=(x:Int)))=true:=by
     have:(decide (2< (at' l j).kind)|| !decide ((at' l j).obj=(x:Int)))=true:=by simpa[xZ] using hsk
     exact this
    simp only[OZ,CB,O1,hsk,z03,z0f,seval] at hst hfl hsl;unfold ZJ;cases b with
    |false=>
     obtain⟨hb2,hm⟩:=hb2 rfl;simp only[go_sem,seval,h2',hsk'];unfold Sm;simp only[go_sem,seval,MG];exact⟨by omega,AL h2 false L hst hfl hsl⟩
    |true=>
     obtain rfl:L=rI s:=hb1 rfl;simp only[go_sem,seval,h2',hsk',kM];unfold Sm;simp only[go_sem,seval,MG];exact⟨by omega,AL h2 true _ hst hfl hsl⟩
   have hsk':(decide (2< (l.getD j aO.aI).kind)|| !decide ((l.getD j aO.aI).obj=(x:Int)))=false:=by
    have:(decide (2< (at' l j).kind)|| !decide ((at' l j).obj=(x:Int)))=false:=by simpa[xZ] using hsk
    exact this
   have hk12:(l.getD j aO.aI).kind=1\/(l.getD j aO.aI).kind=2:=by have h:=Dw hok h2;have h':¬ 2< (l.getD j aO.aI).kind:=λh=>hsk (.inl h);have h:1<=(l.getD j aO.aI).kind/\_:=h;omega
   have hkw:(decide (s.wr<0)||((rowsOf l.length (bI l)).getD s.wr.toNat []).getD j false)=Sl l s.wr j:=by
    rw[Sl];by_cases hw:s.wr<0
    ·rw[decide_eq_true hw];rfl
    ·rw[tY (by omega) h2]
   unfold ZJ;cases b with
   |false=>
    obtain⟨hb2,hm⟩:=hb2 rfl;have hla:iY l s.eH j=false:=by rw[hb2];rfl
    simp only[go_sem,seval,h2',hsk'];refine⟨by omega,?_⟩
    refine aZ Nat (λk=>[.int .i64 0, .bool false]) (λk=>[.blk 29 (dw.aA l), .blk 83 (kQ.aA (rowsOf l.length (bI l))), .vec 110 3 (F.map jL.aA), .vec 3 1 (L.map DT.int.aA), .blk 56 (aO.aA (l.getD j aO.aI))]) (λk=>True) (λk=>0) 0 trivial ?_ rfl ?_
    ·simp only[go_sem,seval]
    intro k _;unfold ZH;simp only[go_sem,seval];unfold ag6;unfold Sm;rcases hk12 with k1|k2
    ·have k1':(at' l j).kind=1:=k1;have hsa:¬ y9 l s j:=λh=>by have:=h.2.1;rw[hb2] at this;cases this
     cases hk:Sl l s.wr j<;>simp only[OZ,CB,O1,hsk,k1',hsa,hm,hla,hk,and_self,and_false,z03,z0f,seval] at hst hfl hsl<;>simp only[go_sem,seval,nX,MG,hrl,hkw,k1,hm,hk]
     ·exact⟨⟨by omega,by omega,by omega,_,rfl⟩,by omega,AL h2 true [(j:Int)] hst hfl hsl⟩
     ·exact⟨⟨by omega,by omega,by omega,_,rfl⟩,AL h2 true [(j:Int)] hst hfl hsl⟩
    ·have k1:¬ (l.getD j aO.aI).kind=1:=by omega
     have k1':¬ (at' l j).kind=1:=k1;cases hep:QL l s.wr j with
     |true=>
      simp only[OZ,CB,O1,hsk,k1',hep,z03,z0f,seval] at hst hfl hsl;simp only[go_sem,seval,nX,MG,hrl,hkw,k1,hep];exact⟨⟨by omega,by omega,by omega,by omega⟩,AL h2 false L hst hfl hsl⟩
     |false=>
      cases hk:Sl l s.wr j<;>simp only[OZ,CB,O1,hsk,k1',hm,hla,hk,hep,z03,z0f,seval] at hst hfl hsl<;>simp only[go_sem,seval,nX,MG,hrl,hkw,k1,hep,hk,hm]
      ·exact⟨⟨by omega,by omega,by omega,by omega⟩,⟨by omega,by omega,by omega,_,rfl⟩,by omega,AL h2 false L hst hfl hsl⟩
      ·exact⟨⟨by omega,by omega,by omega,by omega⟩,⟨by omega,by omega,by omega,_,rfl⟩,AL h2 false L hst hfl hsl⟩
   |true=>
    obtain rfl:L=rI s:=hb1 rfl;simp only[go_sem,seval,h2',hsk',kM];refine⟨by omega,?_⟩
    refine aZ Nat (λk=>[.int .i64 k, .bool ((s.eH.take k).any λi=> !bI l i j)]) (λk=>[.blk 29 (dw.aA l), .blk 83 (kQ.aA (rowsOf l.length (bI l))), .vec 110 3 (F.map jL.aA), .vec 3 1 ((rI s).map DT.int.aA), .blk 56 (aO.aA (l.getD j aO.aI))]) (λk=>k<=s.eH.length) (λk=>s.eH.length - k) 0 (by omega) ?_ rfl ?_
    ·simp only[go_sem,seval];rfl
    intro k hk;by_cases h3:k<s.eH.length
    ·have h3':(k:Int)<s.eH.length:=by omega
     have hwk:z01.wrap ((k:Int)+1)=((k+1:Nat):Int):=aY;have hr:=Jc h3;have hr2:s.eH.getD k 0<j:=g3 _ (by simp[z0c,h3])
     have hat:=tY (M:=bI l) (show s.eH.getD k 0<l.length by omega) h2
     have hlt:¬ ((s.eH.getD k 0:Nat):Int)<0:=by omega
     unfold ZH;simp only[go_sem,seval,nX,h3,h3',hwk,hr,hat,hrl,hlt,kM];exact⟨by omega,λ_=>⟨by omega,by omega,by omega,_,rfl⟩,k+1,by omega,by omega,rfl,by rw[z0n,z1s,z08 h3];simp[z0c,h3]⟩
    have h3':¬ (k:Int)<s.eH.length:=by omega
    have e:k=s.eH.length:=by omega
    subst e;unfold ZH;simp only[go_sem,seval,h3',z0g,kM];unfold ag6;unfold Sm;have hal:(s.eH.any λi=> !bI l i j)=iY l s.eH j:=rfl;rcases hk12 with k1|k2
    ·have k1':(at' l j).kind=1:=k1;have ayo:aO.aA (l.getD j aO.aI)= .agg [.int .i64 1, .int .i64 (l.getD j aO.aI).aC, .int .i64 (l.getD j aO.aI).obj]:=by rw[<- k1];rfl
     by_cases hsa:y9 l s j
     ·obtain⟨hm,hn,he⟩:=id hsa;have hr:=Jc (s:=s) (k:=0) (by omega)
      have he':QL l ((s.eH.getD 0 0:Nat):Int) j=true:=by rw[QL,z04,he];simp
      have hr2:s.eH.getD 0 0<j:=g3 _ (by simp[z0c,show 0<s.eH.length by omega])
      simp only[OZ,CB,O1,hsk,k1',hsa,z03,z0f,seval] at hst hfl hsl;simp only[go_sem,seval,nX,MG,hrl,kM,hkw,k1,hm,hn,hr,he',hal];exact⟨⟨by omega,by omega,by omega,by omega⟩,AL h2 true _ hst hfl hsl (e1:=by rw[if_pos rfl,kM,hn])⟩
     by_cases hlm:s.mn=false/\iY l s.eH j=false
     ·obtain⟨hm,hla⟩:=hlm;by_cases hn:s.eH.length=1
      ·have hr:=Jc (s:=s) (k:=0) (by omega)
       have he':=ahc hm hn hsa;have hr2:s.eH.getD 0 0<j:=g3 _ (by simp[z0c,show 0<s.eH.length by omega])
       cases hk:Sl l s.wr j<;>simp only[OZ,CB,O1,hsk,k1',hsa,hm,hla,hk,and_self,and_false,z03,z0f,seval] at hst hfl hsl<;>simp only[go_sem,seval,nX,MG,hrl,kM,hkw,k1,hm,hk,hn,hr,he',hal,hla]
       ·exact⟨⟨by omega,by omega,by omega,by omega⟩,⟨by omega,by omega,by omega,_,rfl⟩,by omega,AL h2 true [(j:Int)] hst hfl hsl⟩
       ·exact⟨⟨by omega,by omega,by omega,by omega⟩,⟨by omega,by omega,by omega,_,rfl⟩,AL h2 true [(j:Int)] hst hfl hsl⟩
      ·have hn':¬ (s.eH.length:Int)=1:=by omega
       cases hk:Sl l s.wr j<;>simp only[OZ,CB,O1,hsk,k1',hsa,hm,hla,hk,and_self,and_false,z03,z0f,seval] at hst hfl hsl<;>simp only[go_sem,seval,nX,MG,hrl,kM,hkw,k1,hm,hk,hn',hal,hla]
       ·exact⟨⟨by omega,by omega,by omega,_,rfl⟩,by omega,AL h2 true [(j:Int)] hst hfl hsl⟩
       ·exact⟨⟨by omega,by omega,by omega,_,rfl⟩,AL h2 true [(j:Int)] hst hfl hsl⟩
     have hD:s.mn=true\/(s.mn=false/\iY l s.eH j=true)/\s.eH.length=1\/(s.mn=false/\iY l s.eH j=true)/\¬ (s.eH.length:Int)=1:=by
      cases hm:s.mn
      ·cases hla:iY l s.eH j
       ·exact absurd ⟨hm,hla⟩ hlm
       ·by_cases hn:s.eH.length=1
        ·exact .inr (.inl ⟨⟨rfl,rfl⟩,hn⟩)
        ·exact .inr (.inr ⟨⟨rfl,rfl⟩,by omega⟩)
      ·exact .inl rfl
     rcases hD with hm|⟨⟨hm,hla⟩,hn⟩|⟨⟨hm,hla⟩,hn⟩
     case' inl=>
      cases hk:Sl l s.wr j<;>simp only[OZ,CB,O1,hsk,k1',hsa,hm,hk,false_and,z03,z0f,seval] at hst hfl hsl<;>simp only[go_sem,seval,nX,MG,hrl,kM,hkw,k1,hm,hk,hal]
      case' false=>refine⟨⟨by omega,by omega,by omega,_,rfl⟩,by omega,?_⟩
      case' true=>refine⟨⟨by omega,by omega,by omega,_,rfl⟩,?_⟩
     case' inr.inl=>
      have h0:(0:Int)<s.eH.length:=by omega
      have hd:decide ((s.eH.length:Int)=1)=true:=by rw[hn];rfl
      have hr:=Jc (s:=s) (k:=0) (by omega)
      have he':=ahc hm hn hsa;have hr2:s.eH.getD 0 0<j:=g3 _ (by simp[z0c,show 0<s.eH.length by omega])
      cases hk:Sl l s.wr j<;>simp only[OZ,CB,O1,hsk,k1',hsa,hm,hla,hk,and_self,and_false,z03,seval] at hst hfl hsl<;>simp only[go_sem,seval,nX,MG,hrl,kM,hkw,k1,hm,hk,hd,h0,hr,he',hal,hla]
      case' false=>refine⟨⟨by omega,by omega,by omega,by omega⟩,⟨by omega,by omega,by omega,_,rfl⟩,by omega,?_⟩
      case' true=>refine⟨⟨by omega,by omega,by omega,by omega⟩,⟨by omega,by omega,by omega,_,rfl⟩,?_⟩
     case' inr.inr=>
      cases hk:Sl l s.wr j<;>simp only[OZ,CB,O1,hsk,k1',hsa,hm,hla,hk,and_self,and_false,z03,seval] at hst hfl hsl<;>simp only[go_sem,seval,nX,MG,hrl,kM,hkw,k1,hm,hk,hn,hal,hla]
      case' false=>refine⟨⟨by omega,by omega,by omega,_,rfl⟩,by omega,?_⟩
      case' true=>refine⟨⟨by omega,by omega,by omega,_,rfl⟩,?_⟩
     all_goals
      refine aZ Nat (λk=>[.int .i64 k, .vec 5 (rsF l s.eH j k).length]) (λk=>[.blk 29 (dw.aA l), .blk 83 (kQ.aA (rowsOf l.length (bI l))), .vec 110 3 ((flT l x (j+1)).map jL.aA), .vec 3 1 ((rI s).map DT.int.aA), .blk 56 (aO.aA (l.getD j aO.aI)), .vec 3 1 ((rsF l s.eH j k).map DT.int.aA)]) (λk=>k<=s.eH.length) (λk=>s.eH.length - k) 0 (by omega) ?_ ?_ ?_
      ·simp only[go_sem,seval];rfl
      ·rw[hfl]
       first|(rw[ayo];rfl)|(rw[ayo,z06];rfl)
      intro k hk;by_cases h4:k<s.eH.length
      ·have h4':(k:Int)<s.eH.length:=by omega
       have hwk:z01.wrap ((k:Int)+1)=((k+1:Nat):Int):=aY;have hr:=Jc h4;have hr2:s.eH.getD k 0<j:=g3 _ (by simp[z0c,h4])
       have hr3:s.eH.getD k 0<l.length:=by omega
       have hrs:=ZG (l:=l) (eH:=s.eH) (j:=j) k;unfold ag5;simp only[go_sem,seval,h4,h4',hwk,hr,kM];refine⟨by omega,⟨by omega,by omega⟩,λq=>⟨by omega,k+1,by omega,by omega,⟨rfl,by rw[ag2 h4 q,z00];rfl⟩,by rw[ag2 h4 q,z06];rfl⟩,λq=>⟨k+1,by omega,by omega,⟨rfl,by rw[ag3 h4 q]⟩,by rw[ag3 h4 q]⟩⟩
      have h4':¬ (k:Int)<s.eH.length:=by omega
      have e:k=s.eH.length:=by omega
      subst e;have hrs:=ZG (l:=l) (eH:=s.eH) (j:=j) s.eH.length;unfold ag5;simp only[go_sem,seval,h4',kM];unfold arX;simp only[go_sem,seval,MG];exact⟨by omega,AL h2 true (rsF l s.eH j s.eH.length++[(j:Int)]) hst hfl hsl⟩
    ·have k1:¬ (l.getD j aO.aI).kind=1:=by omega
     have k1':¬ (at' l j).kind=1:=k1;cases hep:QL l s.wr j with
     |true=>
      simp only[OZ,CB,O1,hsk,k1',hep,z03,z0f,seval] at hst hfl hsl;simp only[go_sem,seval,nX,MG,hrl,kM,hkw,k1,hep,hal];exact⟨⟨by omega,by omega,by omega,by omega⟩,AL h2 true _ hst hfl hsl⟩
     |false=>
      cases hk:Sl l s.wr j<;>try cases hla:iY l s.eH j
      all_goals
       cases hm:s.mn<;>simp only[OZ,CB,O1,hsk,k1',hm,hk,hep,z0f,seval] at hst hfl hsl
       all_goals
        try simp only[hla,z03,seval] at hst hfl hsl
        simp only[go_sem,seval,nX,MG,hrl,kM,hkw,k1,hep,hk,hal]
        try simp only[go_sem,seval,hla]
        refine⟨⟨by omega,by omega,by omega,by omega⟩,⟨by omega,by omega,by omega,_,rfl⟩,?_⟩
        try refine⟨show(_:Nat)*24<=_ by omega,?_⟩
       ·exact AL h2 true (rI s) hst hfl hsl
       ·exact AL h2 false (rI s) hst hfl hsl
  ·have h2':¬ (j:Int)<l.length:=by omega
   have e:j=l.length:=by omega
   subst e;unfold ZJ;simp only[go_sem,seval,h2'];unfold arY;simp only[go_sem,seval,hwx];exact⟨x+1,by omega,by omega,⟨rfl,rfl,rfl⟩,rfl⟩
 ·have h1':¬ (x:Int)<8:=by omega
  have e:x=8:=by omega
  subst e;unfold ag7;simp only[go_sem,seval];unfold ahb;simp only[go_sem,seval];generalize Hg l 8=F at*;refine aZ Nat (λj=>[.int .i64 j, .vec 3 (outA l F j).length]) (λj=>[.blk 29 (dw.aA l), .blk 83 (kQ.aA (rowsOf l.length (bI l))), .vec 110 3 (F.map jL.aA), .vec 110 3 ((outA l F j).map jL.aA)]) (λj=>j<=l.length) (λj=>l.length - j) 0 (by omega) ?_ rfl ?_
  ·simp only[go_sem,seval];rfl
  intro j hj;have hO:=Jb (l:=l) (F:=F) j;have hO8:j*F.length<=80*640:=z1b (by omega) (by omega)
  by_cases h2:j<l.length
  ·have h2':(j:Int)<l.length:=by omega
   have MG:z01.wrap ((j:Int)+1)=((j+1:Nat):Int):=aY;unfold Wv;simp only[go_sem,seval,h2'];refine aZ Nat (λi=>[.int .i64 i, .vec 3 (oI l F j i).length]) (λi=>[.blk 29 (dw.aA l), .blk 83 (kQ.aA (rowsOf l.length (bI l))), .vec 110 3 (F.map jL.aA), .vec 110 3 ((oI l F j i).map jL.aA)]) (λi=>i<=F.length) (λi=>F.length - i) 0 (by omega) ?_ ?_ ?_
   ·simp only[go_sem,seval];rw[aym]
   ·rw[aym];rfl
   intro i hi;by_cases h3:i<F.length
   ·have h3':(i:Int)<F.length:=by omega
    have hwi:z01.wrap ((i:Int)+1)=((i+1:Nat):Int):=aY;have hfg:=anH h3;have hoI:=auz (l:=l) (F:=F) (j:=j) i;unfold ag8;simp only[go_sem,seval,h3',h3,hwi,hfg];exact⟨by omega,λq=>⟨by omega,i+1,by omega,by omega,⟨rfl,by rw[ag1 h3 q,z00];rfl⟩,by rw[ag1 h3 q,z06];rfl⟩,λq=>⟨i+1,by omega,by omega,⟨rfl,by rw[arV h3 q]⟩,by rw[arV h3 q]⟩⟩
   ·have h3':¬ (i:Int)<F.length:=by omega
    have e:i=F.length:=by omega
    subst e;unfold ag8;simp only[go_sem,seval,h3'];unfold ag9;simp only[go_sem,seval,MG];exact⟨j+1,by omega,by omega,⟨rfl,by rw[ayn]⟩,by rw[ayn]⟩
  ·have h2':¬ (j:Int)<l.length:=by omega
   have e:j=l.length:=by omega
   subst e;unfold Wv;simp only[go_sem,seval,h2'];unfold aha;simp only[go_sem,seval]
end Go.Proofs.YtgnaipcjbmhihaaGreatDoor.Fa
end
section
open Go Go.Sx Go.Proofs
namespace Go.Proofs.YtgnaipcjbmhihaaGreatDoor.Fa
open D Tr C Fu Ah Ps Od St Rc
theorem ZK{l:List Ev}{t i:Nat}:∀ {j:Nat},i<=j->(cs l t i=cs l t j↔∀ k,k<j->i<=k->¬ (sK (at' l k)=true/\(at' l k).aC.toNat=t))
 |0,h=>by
  rw[Nat.le_zero.1 h];exact⟨λ_ k hk=>absurd hk (z0s _),λ_=>rfl⟩
 |j+1,h=>by
  by_cases e:i=j+1
  ·subst e;exact⟨λ_ k h1 h2=>by omega,λ_=>rfl⟩
  ·have ih:=ZK (l:=l) (t:=t) (j:=j) (show i<=j by omega)
   have hm:=Hz (l:=l) t (show i<=j by omega)
   rw[cs];by_cases hq:sK (at' l j)=true/\(at' l j).aC.toNat=t
   ·rw[if_pos hq];exact⟨λhh=>by omega,λhh=>absurd hq (hh j (z0b _) (by omega))⟩
   ·rw[if_neg hq,z0f,ih];refine⟨λhh k h1 h2=> ?_,λhh k h1 h2=>hh k (by omega) h2⟩
    by_cases ek:k=j
    ·subst ek;exact hq
    ·exact hh k (by omega) h2
def ep(l:List Ev)(i:Nat):Pr:=⟨(at' l i).aC,1+(cs l (at' l i).aC.toNat i:Int)⟩
section
variable {l:List Ev} (hok:(aF l).2=0)
include hok
theorem same_iff{i j:Nat}(hi:i<j)(hj:j<l.length):((ep l i).a=(ep l j).a/\(ep l i).b=(ep l j).b)↔epB l i j=true:=by
 have bi:=bnd hok (show i<l.length by omega)
 rw[epB,decide_eq_true_eq];refine and_congr_right λha=> ?_;have ha:(at' l i).aC=(at' l j).aC:=ha;have h:=ZK (l:=l) (t:=(at' l i).aC.toNat) (z09 hi);show(1+(cs l (at' l i).aC.toNat i:Int)=1+(cs l (at' l j).aC.toNat j:Int))↔_;rw[<- ha];constructor
 ·intro hh k h1 h2 h3;exact h.1 (by omega) k h1 h2 ⟨h3.2,by rw[h3.1]⟩
 ·intro hh;have:=h.2 λk h1 h2 h3=>hh k h1 h2 ⟨by have:=(bnd hok (show k<l.length by omega)).1;omega,h3.1⟩
  omega
variable {j:Nat} (hj:j<l.length) (ha:(at' l j).kind=1\/(at' l j).kind=2)
include hj
theorem auB:epN ((runK l j).aC (at' l j).aC.toNat) (at' l j).aC=ep l j:=by
 have b:=bnd hok hj;rw[epN,(Jd hok (z09 hj)).own _ (by omega)]
 rfl
theorem EI:jK ⟨0,0⟩ ((runK l j).aC (at' l j).aC.toNat)=true:=by
 have b:=bnd hok hj;have:=((Jd hok (z09 hj)).l1 (at' l j).aC.toNat 0 (by omega) (by omega)).1
 simp[jK,IJ,this]
include ha
theorem Sr{i:Nat}(hi:i<j):jK (ep l i) ((runK l j).aC (at' l j).aC.toNat)=true↔Ae l i j:=by
 have bi:=bnd hok (show i<l.length by omega)
 have h:=ZL hok hj (Jd hok (z09 hj)) (u:=(at' l i).aC.toNat) (by omega) hi rfl
 have e:sN (runK l j) (at' l j)=(runK l j).aC (at' l j).aC.toNat:=by rw[sN,if_neg (by omega),if_neg (by omega),if_neg (by omega)]
 rw[e] at h;rw[<- h,jK,(vI (ep l i).a).2 ⟨bi.1,bi.2.1⟩,z1d,decide_eq_true_eq];exact Iff.rfl
theorem O5{i:Nat}(hi:i<j):jK (ep l i) ((runK l j).aC (at' l j).aC.toNat)=bI l i j:=by rw[z1t,Sr hok hj ha hi,lC (z09 hj)]
end
structure CR(l:List Ev)(j:Nat)(s:Cl)(r:FS):Prop where
 w:(r.wr<0/\s.wr=⟨0,0⟩)\/∃ i:Nat,i<j/\r.wr=i/\s.wr=ep l i
 r:(r.mn=false/\r.eH=[]/\s.rd= .inl ⟨0,0⟩)\/(∃ i:Nat,i<j/\r.mn=false/\r.eH=[i]/\s.rd= .inl (ep l i))\/
  (r.mn=true/\∃ d,s.rd= .inr d/\(∀ i∈r.eH,i<j)/\∀ u,u<6->(d u=0/\∀ i∈r.eH,(at' l i).aC.toNat≠u)\/∃ i∈r.eH,(at' l i).aC.toNat=u/\d u=1+cs l u i/\∀ i'∈r.eH,(at' l i').aC.toNat=u->i'=i)
theorem CR.next{l:List Ev}{j:Nat}{s:Cl}{r:FS}(h:CR l j s r):CR l (j+1) s r:=by
 refine⟨?_,?_⟩
 ·rcases h.w with h|⟨i,h1,h2⟩
  ·exact .inl h
  ·exact .inr ⟨i,by omega,h2⟩
 ·rcases h.r with h|⟨i,h1,h2⟩|⟨h1,d,h2,h3,h4⟩
  ·exact .inl h
  ·exact .inr (.inl ⟨i,by omega,h2⟩)
  ·exact .inr (.inr ⟨h1,d,h2,λi hi=>z1o (h3 i hi),h4⟩)
section
variable {l:List Ev} (hok:(aF l).2=0) {j:Nat} (hj:j<l.length) (ha:(at' l j).kind=1\/(at' l j).kind=2) {s:Cl} {r:FS} (h:CR l j s r)
include hok hj h
theorem anJ:(s.wr.a=(ep l j).a/\s.wr.b=(ep l j).b)↔QL l r.wr j=true:=by
 rcases h.w with⟨h1,h2⟩|⟨i,h1,h2,h3⟩
 ·rw[h2];constructor
  ·rintro⟨_,hh⟩;have hh:(0:Int)=1+(cs l (at' l j).aC.toNat j:Int):=hh;omega
  ·intro hh;rw[QL,z0d,decide_eq_true_eq] at hh;omega
 ·rw[h3,h2,QL,z04,decide_eq_true (by omega),z1d]
  exact same_iff hok h1 hj
include ha
theorem ahe:jK s.wr ((runK l j).aC (at' l j).aC.toNat)=Sl l r.wr j:=by
 rcases h.w with⟨h1,h2⟩|⟨i,h1,h2,h3⟩
 ·rw[h2,EI hok hj,Sl,decide_eq_true h1];rfl
 ·rw[h3,O5 hok hj ha h1,h2,Sl,z04,decide_eq_false (by omega),Bool.false_or]
theorem ahf:VY s.rd ((runK l j).aC (at' l j).aC.toNat)= !iY l r.eH j:=by
 rcases h.r with⟨_,h1,h2⟩|⟨i,h1,_,h2,h3⟩|⟨_,d,h2,h3,h4⟩
 ·rw[h2,h1];show jK ⟨0,0⟩ _=_;rw[EI hok hj];rfl
 ·rw[h3,h2];show jK (ep l i) _=_;rw[O5 hok hj ha h1];simp[iY]
 ·rw[h2];have b:=bnd hok hj;have hF:=Jd hok (z09 hj);show kV d _=_;rw[z1t];have hW:kV d ((runK l j).aC (at' l j).aC.toNat)=true↔∀ u,u<6->d u<=(runK l j).aC (at' l j).aC.toNat u:=by simp only[kV,z1q,z1u,decide_eq_true_eq];refine forall_congr' λu=>imp_congr_right λhu=> ?_;rw[kC hu];split<;>omega
  have hL:(!iY l r.eH j)=true↔∀ i∈r.eH,Ae l i j:=by simp only[iY,z15,List.any_eq_false];refine forall_congr' λi=>imp_congr_right λhi=> ?_;rw[<- lC (z09 hj)];simp
  rw[hW,hL];have key:∀ i,i<j->((1+cs l (at' l i).aC.toNat i:Int)<=(runK l j).aC (at' l j).aC.toNat (at' l i).aC.toNat↔Ae l i j):=λi hi=>by
   have bi:=bnd hok (show i<l.length by omega)
   rw[<- Sr hok hj ha hi,jK,(vI (ep l i).a).2 ⟨bi.1,bi.2.1⟩,z1d,decide_eq_true_eq];exact Iff.rfl
  constructor
  ·intro hh i hi;have bi:=bnd hok (show i<l.length by have:=h3 i hi;omega)
   rcases h4 (at' l i).aC.toNat (by omega) with⟨_,h5⟩|⟨i',hi',h5,h6,h7⟩
   ·exact absurd rfl (h5 i hi)
   ·have e:=h7 i hi rfl;subst e;have:=hh (at' l i).aC.toNat (by omega)
    rw[h6] at this;exact(key i (h3 i hi)).1 this
  ·intro hh u hu;rcases h4 u hu with⟨h5,_⟩|⟨i,hi,h5,h6,_⟩
   ·rw[h5];exact(hF.l1 _ u (by omega) hu).1
   ·rw[h6];subst h5;exact(key i (h3 i hi)).2 (hh i hi)
theorem step{x:Nat}(hsk:¬ xZ l x j):CR l (j+1) (GN s (at' l j) ((runK l j).aC (at' l j).aC.toNat)) (OZ l x r j)/\Rw s (at' l j) ((runK l j).aC (at' l j).aC.toNat)=CB l x r j/\
  (GN s (at' l j) ((runK l j).aC (at' l j).aC.toNat)).slow=s.slow+O1 l x r j:=by
 have hkn:=ahe hok hj ha h;have hrk:=ahf hok hj ha h;have hws:=anJ hok hj h;have hz:=EI hok hj;have hsj:= @O5 l hok j hj ha;have hen:=auB hok hj;have b:=bnd hok hj;generalize hc:(runK l j).aC (at' l j).aC.toNat=c at*;unfold GN Rw;rw[hen,OZ,CB,O1,if_neg hsk,if_neg hsk,if_neg hsk];by_cases k1:(at' l j).kind=1
 ·rw[if_pos k1,if_pos k1,if_pos k1,if_pos k1,if_pos k1];have hK:(if jK s.wr c=true then(0:Int) else 2)=if Sl l r.wr j=true then 0 else 2:=by rw[hkn]
  rcases h.r with⟨h1,h2,h3⟩|⟨i,h1,h2,h3,h4⟩|⟨h1,d,h2,h3,h4⟩
  ·have hs:¬ y9 l r j:=λhh=>by have:=hh.2.1;rw[h2] at this;cases this
   have hl:iY l r.eH j=false:=by rw[h2];rfl
   have hne:¬ ((0:Int)=(ep l j).a/\(0:Int)=(ep l j).b):=by rintro⟨_,hh⟩;have hh:(0:Int)=1+(cs l (at' l j).aC.toNat j:Int):=hh;omega
   rw[if_neg hs,if_neg hs,if_neg hs,if_pos (show r.mn=false/\iY l r.eH j=false from⟨h1,hl⟩),if_neg (show ¬ (r.mn=false/\iY l r.eH j=true) from λhh=>by rw[hl] at hh;exact absurd hh.2 (by decide))]
   unfold rdS rdK;rw[h3];simp only;rw[if_neg hne,if_neg hne,if_pos hz];refine⟨⟨?_, .inr (.inl ⟨j,z0b _,rfl,rfl,rfl⟩)⟩,hK,by simp⟩
   exact h.next.w
  ·have hl:iY l r.eH j= !bI l i j:=by rw[h3];simp[iY]
   have hq:=same_iff hok h1 hj;by_cases he:epB l i j=true
   ·have hs:y9 l r j:=⟨h2,by rw[h3];rfl,by rw[h3];exact he⟩
    rw[if_pos hs,if_pos hs,if_pos hs];unfold rdS rdK;rw[h4];simp only;rw[if_pos (hq.2 he),if_pos (hq.2 he)];exact⟨h.next,rfl,by simp⟩
   ·have hs:¬ y9 l r j:=λhh=>by have:=hh.2.2;rw[h3] at this;exact he this
    have hne:¬ ((ep l i).a=(ep l j).a/\(ep l i).b=(ep l j).b):=λhh=>he (hq.1 hh);have hsi:=hsj h1;rw[if_neg hs,if_neg hs,if_neg hs];unfold rdS rdK;rw[h4];simp only;rw[if_neg hne,if_neg hne,hsi];cases hah:bI l i j with
    |true=>
     rw[hah] at hl;rw[if_pos (rfl:true=true),if_pos (show r.mn=false/\iY l r.eH j=false from⟨h2,hl⟩),if_neg (show ¬ (r.mn=false/\iY l r.eH j=true) from λhh=>by rw[hl] at hh;exact absurd hh.2 (by decide))]
     exact⟨⟨h.next.w, .inr (.inl ⟨j,z0b _,rfl,rfl,rfl⟩)⟩,hK,by simp⟩
    |false=>
     rw[hah] at hl;have hl:iY l r.eH j=true:=hl;rw[if_neg (show ¬ (false=true) by decide),if_neg (show ¬ (r.mn=false/\iY l r.eH j=false) from λhh=>by rw[hl] at hh;exact absurd hh.2 (by decide)),if_pos (show r.mn=false/\iY l r.eH j=true from⟨h2,hl⟩)]
     have bi:=bnd hok (show i<l.length by omega)
     have hth:(at' l i).aC≠(at' l j).aC:=by
      intro hh;have:Ae l i j:=HY hok h1 hj (.inl (.inl (by rw[hh])))
      rw[<- lC (z09 hj),hah] at this;cases this
     have hf:r.eH.filter (λi=> !decide ((at' l i).aC=(at' l j).aC))++[j]=[i,j]:=by rw[h3,z0m (by simp[hth])];rfl
     rw[hf];refine⟨⟨h.next.w, .inr (.inr ⟨rfl,_,rfl,?_,?_⟩)⟩,hK,by simp⟩
     ·intro i' hi';simp only[z05,z02,or_false] at hi';rcases hi' with rfl|rfl<;>omega
     ·intro u hu;show((if u=(at' l j).aC.toNat then 1+(cs l (at' l j).aC.toNat j:Int) else if u=(at' l i).aC.toNat then 1+(cs l (at' l i).aC.toNat i:Int) else 0)=0/\_)\/_
      by_cases e1:u=(at' l j).aC.toNat
      ·refine .inr ⟨j,by simp,e1.symm,?_,λi' hi' hu'=> ?_⟩
       ·show(if u=(at' l j).aC.toNat then 1+(cs l (at' l j).aC.toNat j:Int) else _)=_
        rw[if_pos e1,e1]
       ·simp only[z05,z02,or_false] at hi';rcases hi' with rfl|rfl
        ·exact absurd (show(at' l i').aC=(at' l j).aC by omega) hth
        ·rfl
      ·by_cases e2:u=(at' l i).aC.toNat
       ·refine .inr ⟨i,by simp,e2.symm,?_,λi' hi' hu'=> ?_⟩
        ·show(if u=(at' l j).aC.toNat then 1+(cs l (at' l j).aC.toNat j:Int) else if u=(at' l i).aC.toNat then 1+(cs l (at' l i).aC.toNat i:Int) else 0)=_
         rw[if_neg e1,if_pos e2,e2]
        ·simp only[z05,z02,or_false] at hi';rcases hi' with rfl|rfl
         ·rfl
         ·exact absurd hu'.symm e1
       ·refine .inl ⟨by rw[if_neg e1,if_neg e2],λi' hi'=> ?_⟩
        simp only[z05,z02,or_false] at hi';rcases hi' with rfl|rfl
        ·exact λhh=>e2 hh.symm
        ·exact λhh=>e1 hh.symm
  ·have hs:¬ y9 l r j:=λhh=>by have:=hh.1;rw[h1] at this;cases this
   rw[if_neg hs,if_neg hs,if_neg hs,if_neg (show ¬ (r.mn=false/\iY l r.eH j=false) from λhh=>by rw[h1] at hh;exact absurd hh.1 (by decide)),if_neg (show ¬ (r.mn=false/\iY l r.eH j=true) from λhh=>by rw[h1] at hh;exact absurd hh.1 (by decide))]
   unfold rdS rdK;rw[h2];simp only;refine⟨⟨h.next.w, .inr (.inr ⟨rfl,_,rfl,?_,?_⟩)⟩,hK,by simp⟩
   ·intro i hi;simp only[z0a,z0k,z05,z02,or_false] at hi;rcases hi with hi|hi
    ·have:=h3 i hi.1;omega
    ·omega
   ·intro u hu;show((if u=(at' l j).aC.toNat then 1+(cs l (at' l j).aC.toNat j:Int) else d u)=0/\_)\/_
    by_cases e1:u=(at' l j).aC.toNat
    ·refine .inr ⟨j,by simp,e1.symm,?_,λi' hi' hu'=> ?_⟩
     ·show(if u=(at' l j).aC.toNat then 1+(cs l (at' l j).aC.toNat j:Int) else _)=_
      rw[if_pos e1,e1]
     ·simp only[z0a,z0k,z05,z02,or_false] at hi';rcases hi' with hi'|hi'
      ·have:=h3 i' hi'.1;have bi:=bnd hok (show i'<l.length by omega)
       have h5:=hi'.2;simp only[z15,decide_eq_false_iff_not] at h5;exact absurd (show(at' l i').aC=(at' l j).aC by omega) h5
      ·exact hi'
    ·rcases h4 u hu with⟨h5,h6⟩|⟨i,hi,h5,h6,h7⟩
     ·refine .inl ⟨by rw[if_neg e1];exact h5,λi' hi'=> ?_⟩
      simp only[z0a,z0k,z05,z02,or_false] at hi';rcases hi' with hi'|hi'
      ·exact h6 i' hi'.1
      ·subst hi';exact λhh=>e1 hh.symm
     ·refine .inr ⟨i,?_,h5,?_,λi' hi' hu'=> ?_⟩
      ·simp only[z0a,z0k,z05,z02,or_false];refine .inl ⟨hi,?_⟩;simp only[z15,decide_eq_false_iff_not];intro hh;exact e1 (by rw[<- h5,hh])
      ·show(if u=(at' l j).aC.toNat then 1+(cs l (at' l j).aC.toNat j:Int) else d u)=_
       rw[if_neg e1];exact h6
      ·simp only[z0a,z0k,z05,z02,or_false] at hi';rcases hi' with hi'|hi'
       ·exact h7 i' hi'.1 hu'
       ·subst hi';exact absurd hu'.symm e1
 ·rw[if_neg k1,if_neg k1,if_neg k1,if_neg k1,if_neg k1];unfold wrS wrK;by_cases he:QL l r.wr j=true
  ·rw[if_pos he,if_pos he,if_pos (hws.2 he),if_pos (hws.2 he)];exact⟨h.next,rfl,by simp⟩
  ·have hne:¬ (s.wr.a=(ep l j).a/\s.wr.b=(ep l j).b):=λhh=>he (hws.1 hh);rw[if_neg he,if_neg he,if_neg hne,if_neg hne,hkn,hrk];refine⟨⟨.inr ⟨j,z0b _,rfl,rfl⟩,?_⟩,?_,by simp⟩
   ·rcases h.r with⟨h1,h2,h3⟩|⟨i,h1,h2,h3,h4⟩|⟨h1,d,h2,h3,h4⟩
    ·exact .inl ⟨rfl,by rw[h1,h2];rfl,by rw[h3]⟩
    ·exact .inr (.inl ⟨i,by omega,rfl,by rw[h2,h3];rfl,by rw[h4]⟩)
    ·exact .inl ⟨rfl,by rw[h1];rfl,by rw[h2]⟩
   ·cases Sl l r.wr j<;>cases iY l r.eH j<;>rfl
end
section
variable {l:List Ev} (hok:(aF l).2=0)
include hok
theorem vS{x j:Nat}(hj:j<l.length):¬ xZ l x j↔cO (at' l j)=true/\x=(at' l j).obj.toNat:=by have hk:=Dw hok hj;have b:=bnd hok hj;simp only[xZ,cO,z07,decide_eq_true_eq];omega
theorem arZ:∀ {j:Nat},j<=l.length->∀ x,CR l j (gJ l j x) (qh l x j)/\(gJ l j x).slow=slW l x j
 |0,_,x=>⟨⟨.inl ⟨by show(-1:Int)<0;decide,rfl⟩, .inl ⟨rfl,rfl,rfl⟩⟩,rfl⟩
 |j+1,hj,x=>by
  obtain⟨h1,h2⟩:=arZ (j:=j) (by omega) x
  have hr:gJ l (j+1) x=if cO (at' l j)=true then(if x=(at' l j).obj.toNat then GN (gJ l j x) (at' l j) ((runK l j).aC (at' l j).aC.toNat) else gJ l j x) else gJ l j x:=rfl
  have hf:qh l x (j+1)=OZ l x (qh l x j) j:=rfl;have hs:slW l x (j+1)=slW l x j+O1 l x (qh l x j) j:=rfl;have hi:=vS hok (x:=x) (show j<l.length by omega)
  by_cases hsk:xZ l x j
  ·have hrx:gJ l (j+1) x=gJ l j x:=by
    rw[hr];by_cases ha:cO (at' l j)=true
    ·rw[if_pos ha,if_neg (λhx=>hi.2 ⟨ha,hx⟩ hsk)]
    ·rw[if_neg ha]
   rw[hrx,hf,hs,OZ,O1,if_pos hsk,if_pos hsk];exact⟨h1.next,by rw[h2];simp⟩
  ·obtain⟨ha,hx⟩:=hi.1 hsk;have ha':=ha;simp only[cO,z07,decide_eq_true_eq] at ha';rw[hr,if_pos ha,if_pos hx,hf,hs];obtain⟨g1,g2,g3⟩:=step hok (by omega) ha' h1 hsk
   exact⟨g1,by rw[g3,h2];simp⟩
theorem anK{j:Nat}(hj:j<l.length)(ha:cO (at' l j)=true):jF l j=CB l (at' l j).obj.toNat (qh l (at' l j).obj.toNat j) j:=by
 have hsk:=(vS hok hj).2 ⟨ha,rfl⟩;have ha':=ha;simp only[cO,z07,decide_eq_true_eq] at ha';rw[<- (step hok hj ha' (arZ hok (z09 hj) _).1 hsk).2.1];show(if cO (at' l j)=true then Rw (gJ l j (at' l j).obj.toNat) (at' l j) ((runK l j).aC (at' l j).aC.toNat) else 0)=_
 rw[if_pos ha]
omit hok in
theorem Je{x j:Nat}:∀ n,(flW l x n).filter (λf:Fl=>decide (f.at'=(j:Int)))=if j<n/\CB l x (qh l x j) j≠0 then[⟨j,x,CB l x (qh l x j) j⟩] else[]
 |0=>rfl
 |n+1=>by
  rw[flW,z0i,Je n];by_cases e:j=n
  ·subst e;by_cases h:CB l x (qh l x j) j=0
   ·rw[if_pos h,if_neg (λhh=>hh.2 h),if_neg (λhh=>hh.2 h)];rfl
   ·rw[if_neg h,if_neg (λhh=>z0z _ hh.1),if_pos ⟨z0b _,h⟩,z0m (by simp)];rfl
  ·have h2:(if CB l x (qh l x n) n=0 then[] else[(⟨n,x,CB l x (qh l x n) n⟩:Fl)]).filter (λf:Fl=>decide (f.at'=(j:Int)))=[]:=by
    split
    ·rfl
    ·rw[z0w (by simp;omega)];rfl
   rw[h2,z03];by_cases h:j<n/\CB l x (qh l x j) j≠0
   ·rw[if_pos h,if_pos ⟨by omega,h.2⟩]
   ·rw[if_neg h,if_neg (λhh=>h ⟨by omega,hh.2⟩)]
theorem Jf{j:Nat}(hj:j<l.length):∀ X,(Hg l X).filter (λf:Fl=>decide (f.at'=(j:Int)))=if (at' l j).obj.toNat<X/\jF l j≠0 then[⟨j,(at' l j).obj,jF l j⟩] else[]
 |0=>by simp[Hg]
 |X+1=>by
  have b:=bnd hok hj;rw[Hg,z0i,Jf hj X,Je];have h0:cO (at' l j)=false->jF l j=0:=λh=>by
   show(if cO (at' l j)=true then _ else 0)=_
   rw[if_neg (by rw[h];decide)]
  by_cases hsk:xZ l X j
  ·have hz:CB l X (qh l X j) j=0:=by rw[CB,if_pos hsk]
   rw[if_neg (λhh:j<l.length/\CB l X (qh l X j) j≠0=>hh.2 hz),z03];have hn:¬ (cO (at' l j)=true/\X=(at' l j).obj.toNat):=λhh=>(vS hok hj).2 hh hsk;by_cases ha:cO (at' l j)=true
   ·have hne:X≠(at' l j).obj.toNat:=λhh=>hn ⟨ha,hh⟩;by_cases h:(at' l j).obj.toNat<X/\jF l j≠0
    ·rw[if_pos h,if_pos ⟨by omega,h.2⟩]
    ·rw[if_neg h,if_neg (λhh=>h ⟨by omega,hh.2⟩)]
   ·have:=h0 (by simpa using ha)
    rw[if_neg (λhh:(at' l j).obj.toNat<X/\jF l j≠0=>hh.2 this),if_neg (λhh:(at' l j).obj.toNat<X+1/\jF l j≠0=>hh.2 this)]
  ·obtain⟨ha,hx⟩:=(vS hok hj).1 hsk;have hf:=anK hok hj ha;rw[<- hx] at hf;rw[if_neg (λhh:(at' l j).obj.toNat<X/\jF l j≠0=>by have:=hh.1;omega),z0x,<- hf]
   have hxo:(X:Int)=(at' l j).obj:=by omega
   by_cases h:jF l j=0
   ·rw[if_neg (λhh:j<l.length/\jF l j≠0=>hh.2 h),if_neg (λhh:(at' l j).obj.toNat<X+1/\jF l j≠0=>hh.2 h)]
   ·rw[if_pos ⟨hj,h⟩,if_pos ⟨by omega,h⟩,hxo]
theorem QW:∀ {j:Nat},j<=l.length->lK l j=outA l (Hg l 8) j
 |0,_=>rfl
 |j+1,hj=>by
  rw[outA,<- QW (by omega),Jf hok (by omega)]
  show lK l j++(if jF l j=0 then[] else[⟨j,(at' l j).obj,jF l j⟩])=_
  congr 1
  by_cases h:jF l j=0
  ·rw[if_pos h,if_neg (λhh:(at' l j).obj.toNat<8/\jF l j≠0=>hh.2 h)]
  ·have b:=bnd hok (show j<l.length by omega)
   have ho8:(at' l j).obj.toNat<8:=by
    by_cases ha:cO (at' l j)=true
    ·simp only[cO,z07,decide_eq_true_eq] at ha;have b4:=b.2.2.2;have:many (at' l j).kind=8:=by rcases ha with ha|ha<;>rw[ha]<;>rfl
     omega
    ·exact absurd (show jF l j=0 by show(if cO (at' l j)=true then _ else 0)=_;rw[if_neg ha]) h
   rw[if_neg h,if_pos ⟨ho8,h⟩]
end
end Go.Proofs.YtgnaipcjbmhihaaGreatDoor.Fa
end
section
set_option maxRecDepth 100000
open Go Go.Sx Go.Proofs
namespace Go.Proofs.YtgnaipcjbmhihaaGreatDoor.Fa
open D Tr C Fu
def uf(l:List Ev):List Fl:=if (aK l).2.2=0 then lK l l.length else[]
def ZM(l:List Ev):Int:=if (aK l).2.2=0 then uM (gJ l l.length) 8 else 0
theorem auC(l:List Ev):FnOK Tryz.prog 96 [dw.aA l] [] (.bK [.vec 0 (uf l).length, .int .i64 (ZM l), .int .i64 (aK l).2.2]) [.vec 110 3 ((uf l).map jL.aA)]:=by
 by_cases he:(aK l).2.2=0
 ·rw[uf,ZM,if_pos he,if_pos he,he];exact Rx l (by rw[<- iE];exact he)
 ·rw[uf,ZM,if_neg he,if_neg he];refine fn_walkF c96 w96 OB rfl ?_;unfold j96;simp only[go_sem,seval,kL,he]
def j59:JC:=(qN (oU 2<|o8 3 0<|.nil) (qN (o7 8 0<|oM 9 96 8<|o7 7 9<|oN 10 0 7<|oN 11 1 7<|qL [7,10,11]<|oN 12 2 7<|o7 4 10<|o7 5 11<|o7 6 12<|.nil) (qM [4,6] (qN (o7 13 4<|o7 14 6<|o7 2 13<|o7 3 14<|.nil) .ret))))
def Gft(f:FuncId)(a:List SV)(m:List ay):Sx.Call:=(FH.mk 96 (.one dw) (λ_=>True) (λy=> .bK [.vec 0 (uf y.1).length, .int .i64 (ZM y.1), .int .i64 (aK y.1).2.2]) (λy=>[.vec 110 3 ((uf y.1).map jL.aA)]) FH.none) f a m
theorem O6:type_of% (nq Gft.eq_1):=nq Gft.eq_1
theorem Wx:aW Tryz.prog Gft:=FH.eu (λy _=>cZ (fU ⟨fE _ _,fF _ _,fF _ _,trivial⟩) ⟨bY _ _ jL _,trivial⟩) (λy _=>auC y.1) FH.none_ok
theorem auE(l:List Ev):FnOK Tryz.prog 59 [dw.aA l] [] (.bK [.vec 0 (uf l).length, .int .i64 (aK l).2.2]) [.vec 110 3 ((uf l).map jL.aA)]:=by refine fn_walkA j59 [.tmp 2, .tmp 3] 15 Wx rfl ?_;unfold j59;simp only[go_sem,seval,O6]
end Go.Proofs.YtgnaipcjbmhihaaGreatDoor.Fa
end
end
namespace Go.Proofs.YtgnaipcjbmhihaaGreatDoor.Gu
open D Tr
structure Gd where
 st:Int
 th:Int
 lk:Int
def dGd:DT Gd:=(DT.nC (.st [.int .i64, .int .i64, .int .i64])).Fv (λx=>⟨x.1,x.2.1,x.2.2.1⟩) (λe=>(e.st,e.th,e.lk,())) (λ_=>rfl) (λ_=>rfl)
instance:Flat dGd:=(Flat.nC rfl).Fv
theorem auW(e:Gd):dGd.aA e= .agg [.int .i64 e.st, .int .i64 e.th, .int .i64 e.lk]:=nr rfl
theorem an0(m:List ay)(k t o:Int):dGd.aG m (.agg [.int .i64 k, .int .i64 t, .int .i64 o])=⟨k,t,o⟩:=nr rfl
theorem an1(m:List ay)(k t o:Int):dGd.decP m (.agg [.int .i64 k, .int .i64 t, .int .i64 o])=True:=eq_true ⟨rfl,rfl,rfl,trivial⟩
theorem auX(e:Gd):(⟨e.st,e.th,e.lk⟩:Gd)=e:=nr rfl
attribute [go_sem] auW an0 an1 auX
structure Gs where
 st:Nat->Int
 th:Nat->Int
 lk:Nat->Int
def OM:DT Gs:=(DT.nC (.arr 8 3 (.st [.int .i64, .int .i64, .int .i64]))).Fv (λx=>⟨λi=>(x i).1,λi=>(x i).2.1,λi=>(x i).2.2.1⟩) (λv i=>(v.st i,v.th i,v.lk i,())) (λ_=>rfl) (λ_=>rfl)
instance:Flat OM:=(Flat.nC rfl).Fv
theorem auY(v:Gs):OM.aA v= .arr 8 3 λi=> .agg [.int .i64 (v.st i), .int .i64 (v.th i), .int .i64 (v.lk i)]:=nr rfl
theorem an2(m:List ay)(f g h:Nat->Int):OM.aG m (.arr 8 3 λi=> .agg [.int .i64 (f i), .int .i64 (g i), .int .i64 (h i)])=⟨f,g,h⟩:=nr rfl
theorem an3(m:List ay)(f g h:Nat->Int):OM.decP m (.arr 8 3 λi=> .agg [.int .i64 (f i), .int .i64 (g i), .int .i64 (h i)])=True:=eq_true ⟨rfl,rfl,λ_ _=>⟨rfl,rfl,rfl,trivial⟩⟩
theorem auZ(v:Gs):(⟨v.st,v.th,v.lk⟩:Gs)=v:=nr rfl
attribute [go_sem] auY an2 an3 auZ
theorem y5(f g h:Nat->Int)(i:Nat)(a b c:Int):wS (λk=>SV.agg [.int .i64 (f k), .int .i64 (g k), .int .i64 (h k)]) i (.agg [.int .i64 a, .int .i64 b, .int .i64 c])=λk=>SV.agg [.int .i64 (if k=i then a else f k), .int .i64 (if k=i then b else g k), .int .i64 (if k=i then c else h k)]:=by
 funext k;unfold wS;split<;>rfl
def cO(e:Ev):Bool:=e.kind=1||e.kind=2
def au0:JC:=(qN (oV 1 56 0<|qH 2 false<|.nil) (qN (oD 3 0 0 1<|o9 4 1 3<|oH 5 4 1<|o7 6 5<|.sc true 10 6 (oD 7 0 0 1<|o9 8 1 7<|oH 9 8 2<|.nil) (.t 9)<|o7 2 10<|.nil) .ret))
theorem an4(e:Ev):FnOK Tryz.prog 165 [aO.aA e] [] (.bool (cO e)) []:=by refine fn_walkA au0 [.tmp 2] 11 FH.none_ok rfl ?_;unfold au0;simp only[go_sem,seval];rfl
def bit(k:Int):Int:=z01.wrap (1*2^(min k.toNat 64))
def EJ(h:Nat->Int)(e:Ev):Nat->Int:=if e.kind=3 then(λk=>if k=e.aC.toNat then MQ .i64 (h e.aC.toNat) (bit e.obj) else h k) else if e.kind=4 then(λk=>if k=e.aC.toNat then rP .i64 (h e.aC.toNat) (bit e.obj) else h k) else h
abbrev dHd:DT (Nat->Int):=DT.arr 6 1 DT.int
def au1:JC:=(qN (oV 3 56 1<|.nil) (qN (oD 4 0 0 3<|o9 5 1 4<|.nil) (.block 0 (qN (oH 7 5 3<|o7 6 7<|.nil) (qO 6 (.bJ<|o7 8 0<|oD 9 1 1 3<|qL [9,8,3]<|o9 10 1 9<|oQ 11 8<|oL 12 6 1 11 10<|o9 13 1 12<|qL [3,13,8,10]<|oD 14 2 2 3<|o9 15 1 14<|qo 16 (.ar .shl (I 1) (.t 15))<|qL [13,16,8,10]<|qo 17 (.ar .or (.t 13) (.t 16))<|oQ 18 8<|oL 19 6 1 18 10<|oG 1 19 17<|.nil) (qN (oH 21 5 4<|o7 20 21<|.nil) (qO 20 (.bJ<|qL [0,3]<|o7 22 0<|oD 23 1 1 3<|o9 24 1 23<|oQ 25 22<|oL 26 6 1 25 24<|qL [26,3,22,24]<|o9 27 1 26<|oD 28 2 2 3<|o9 29 1 28<|qL [29,27,22,24]<|qo 30 (.ar .shl (I 1) (.t 29))<|qo 31 (.ar .andNot (.t 27) (.t 30))<|oQ 32 22<|oL 33 6 1 32 24<|oG 1 33 31<|.nil) .skip)))))))
theorem O8(h:Nat->Int)(e:Ev)(he:iI e=true):FnOK Tryz.prog 164 [.ptr 0 [] 0,aO.aA e] [.blk 253 (dHd.aA h)] (.bK []) [.blk 253 (dHd.aA (EJ h e))]:=by
 refine fn_walkA au1 [] 34 FH.none_ok rfl ?_;unfold au1;obtain⟨b1,b2,b3,b4⟩:=(bC e).1 he;obtain⟨t,ht,ht6⟩:∃ t:Nat,e.aC=t/\t<6:=⟨e.aC.toNat,by omega,by omega⟩
 unfold EJ;by_cases k3:e.kind=3
 ·simp only[go_sem,seval,k3,ht];exact⟨by omega,by omega,by omega,rfl⟩
 by_cases k4:e.kind=4
 ·simp only[go_sem,seval,k4,ht];exact⟨by omega,by omega,by omega,rfl⟩
 simp only[go_sem,seval,k3,k4]
def uO(g:Gd)(e:Ev)(locks:Int):Gd:=
 if g.st=0 then⟨1,e.aC,g.lk⟩ else if g.st=1/\g.th=e.aC then g else if g.st=1/\e.kind=2 then⟨3,g.th,locks⟩ else if g.st=1 then⟨2,g.th,locks⟩
 else⟨if e.kind=2 then 3 else g.st,g.th,mM .i64 g.lk locks⟩
theorem MR:qm Tryz.prog 77=some (3,true):=by kernel_rfl
theorem agi:qm Tryz.prog 78=some (24,true):=by kernel_rfl
def j137:JC:=(qN (oV 3 77 0<|oV 4 56 1<|qK 6 77<|.nil) (qN (oD 8 0 0 4<|o9 9 1 8<|oH 10 9 2<|o7 7 10<|.nil) (.seq (.block 0 (qN (oD 19 0 0 3<|o9 20 1 19<|oH 21 20 0<|o7 18 21<|.nil) (qM [18,4,3,6,7,2] (qO 18 (.bJ<|oD 22 1 1 4<|qL [22,3,6]<|o9 23 1 22<|oD 24 0 0 3<|en (.store 1 (.t 24) (I 1))<|en (.again 1 false (.t 22) 23)<|oD 25 1 1 3<|oG 1 25 23<|.nil) (qN (oD 27 0 0 3<|o9 28 1 27<|oH 29 28 1<|qL [29,3,4,6,7,2]<|o7 30 29<|.sc false 36 30 (oD 31 1 1 3<|o9 32 1 31<|oD 33 1 1 4<|o9 34 1 33<|oZ 35 32 34<|.nil) (.t 35)<|o7 26 36<|.nil) (qM [26,3,6,7,2] (qO 26 .skip (qN (oD 38 0 0 3<|o9 39 1 38<|oH 40 39 1<|qL [40,7,2,3,6]<|o7 41 40<|.sc false 43 41 (o7 42 7<|.nil) (.t 42)<|o7 37 43<|.nil) (qM [37,2,3,6,7] (qO 37 (.ops<|o7 44 2<|oD 45 0 0 3<|qL [45,3,44,6]<|en (.store 1 (.t 45) (I 3))<|oD 46 2 2 3<|oG 1 46 44<|.nil) (qN (oD 48 0 0 3<|o9 49 1 48<|oH 50 49 1<|o7 47 50<|.nil) (qO 47 (.ops<|qL [2,3,6]<|o7 51 2<|oD 52 0 0 3<|en (.store 1 (.t 52) (I 2))<|oD 53 2 2 3<|oG 1 53 51<|.nil) (qN (qL [3,2,7,6]<|oD 11 2 2 3<|o9 12 1 11<|o7 13 2<|qo 14 (.ar .and (.t 12) (.t 13))<|oD 15 2 2 3<|oG 1 15 14<|.nil) (qM [7,3,6] (qN (o7 16 7<|.nil) (qO 16 (.ops<|oD 17 0 0 3<|en (.store 1 (.t 17) (I 3))<|.nil) .skip)))))))))))))))) (qM [3,6] (qN (oC 54 3 3<|oG 3 6 54<|.nil) .ret)))))
theorem Jl(g:Gd)(e:Ev)(locks:Int):FnOK Tryz.prog 137 [dGd.aA g,aO.aA e, .int .i64 locks] [] (dGd.aA (uO g e locks)) []:=by
 refine fn_walkA j137 [.cell 6 77] 55 FH.none_ok rfl ?_;unfold j137;unfold uO;by_cases h0:g.st=0
 ·simp only[go_sem,seval,h0,MR]
 by_cases h1:g.st=1
 ·by_cases h2:g.th=e.aC
  ·simp only[go_sem,seval,h1,h2,MR]
  ·by_cases h3:e.kind=2
   ·simp only[go_sem,seval,h1,h2,h3,MR]
   ·simp only[go_sem,seval,h1,h2,h3,MR]
 ·by_cases h3:e.kind=2
  ·simp only[go_sem,seval,h0,h1,h3,MR,false_and]
  ·simp only[go_sem,seval,h0,h1,h3,MR,false_and]
def j136:JC:=(qN (oV 1 29 0<|qo 2 (.mv (.c .jh))<|.nil) (qN (qo 3 (.GL 163 [(.t 1)])<|o7 2 3<|.nil) .ret))
theorem WL(l:List Ev):FnOK Tryz.prog 136 [dw.aA l] [] (.fn 163 [.ptr 0 [] 0]) [.blk 29 (dw.aA l)]:=by refine fn_walkA j136 [.tmp 2] 4 FH.none_ok rfl ?_;unfold j136;simp only[go_sem,seval]
end Go.Proofs.YtgnaipcjbmhihaaGreatDoor.Gu
namespace Go.Proofs.YtgnaipcjbmhihaaGreatDoor.Gu
open D Tr
def HS(l:List Ev):Nat->Nat->Int
 |0=>λ_=>0
 |i+1=>EJ (HS l i) (l.getD i aO.aI)
def tq(n:Nat):Gs:=⟨λ_=>0,λ_=>0,λk=>if k<n then 31 else 0⟩
def xR(s:Gs×List Fl)(i:Nat)(e:Ev)(locks:Int):Gs×List Fl:=
 let g:=uO ⟨s.1.st e.obj.toNat,s.1.th e.obj.toNat,s.1.lk e.obj.toNat⟩ e locks
 (⟨λk=>if k=e.obj.toNat then g.st else s.1.st k,λk=>if k=e.obj.toNat then g.th else s.1.th k,λk=>if k=e.obj.toNat then g.lk else s.1.lk k⟩,if g.st=3/\g.lk=0 then s.2++[⟨i,e.obj,0⟩] else s.2)
def RS(l:List Ev):Nat->Gs×List Fl
 |0=>(tq 8,[])
 |i+1=>if cO (l.getD i aO.aI) then xR (RS l i) i (l.getD i aO.aI) (HS l (i+1) (l.getD i aO.aI).aC.toNat) else RS l i
theorem Ph(l:List Ev):∀ i,(RS l i).2.length<=i
 |0=>z0h _
 |i+1=>by
  have:=Ph l i;simp only[RS];split
  ·simp only[xR];split
   ·simp;omega
   ·omega
  ·omega
def alE:YC:= .yl (eo 15 (.load 3 true (.t 5))<|eo 16 (.call 165 [(.t 15)])<|qo 17 (.mv (.t 16))<| .nil) 17 [17,8,7,6,3,0]
 (qo 18 (.mv (.t 0))<|qo 19 (.mv (.t 4))<|qo 20 (.fa 1 1 (.t 5))<|eo 21 (.load 1 false (.t 20))<|qo 22 (.ia 6 1 (.t 3) (.t 21))<|eo 23 (.load 1 false (.t 22))<| .nil) 24 (.t 18) [.t 19, .t 23] 25 26
def alF:YC:= .seq (.jc (.ops<|qo 9 (.cmp .lss (.t 8) (.t 7))<| .nil)) (.seq (.jc (.cond (.t 9) .skip (.exit 0))) (.seq
 (.block 1 (.seq (.jc (.ops<|qo 10 (.mv (.t 8))<|qo 11 (.is 3 (.t 6) (.t 8))<|eo 12 (.load 3 true (.t 11))<|eo 5 (.alloc 56 (.agg [(.int .i64 0),(.int .i64 0),(.int .i64 0)]))<|qo 4 (.mv (.t 10))<|en (.store 3 (.t 5) (.t 12))<| .nil))
  (.prune [5,3,0,4,8,7,6] (.seq (.jc (.ops<|eo 13 (.load 3 true (.t 5))<|eo 14 (.call 164 [(.t 3),(.t 13)])<| .nil))
  (.seq alE (.jc (.cond (.t 26) .ret .skip)))))))
 (.prune [8,7,6,3,0] (.jc (.ops<|qo 27 (.ar .add (.t 8) (I 1))<|qo 8 (.mv (.t 27))<| .nil)))))
def y83:YC:= .seq (.jc (.ops<|eo 3 (.alloc 253 (.arr 6 1 λ_=>(.int .i64 0)))<| .nil)) (.seq (.jc (.ops<|eo 6 (.load 1 false (.t 1))<|qo 7 (.len (.t 6))<|qo 8 (.mv (I 0))<| .nil)) (.block 0 (.loop [7,6,3,0] [8] alF)))
theorem aCA:fnIs Tryz.prog qall 163=some (y83.flat,[],28):=by kernel_rfl
theorem aCB:y83.wf 28=true:=by kernel_rfl
def Gy(f:FuncId)(a:List SV)(m:List ay):Sx.Call:=(FH.rd 165 (.one aO) (.one .bool) (λ_=>True) (λy=>cO y.1)<|FH.mt 164 253 dHd (.one aO) DR.unit (λ_ y=>iI y.1=true) (λ_ _=>()) (λh y=>EJ h y.1) FH.none) f a m
theorem asU:type_of% (nq Gy.eq_1):=nq Gy.eq_1
theorem azz:aW Tryz.prog Gy:=FH.aT (λy _=>an4 y.1)<|FH.FB (by kernel_rfl) (λh y hp=>O8 h y.1 hp) FH.none_ok
def alG:JC:=(qN (qA 21 20 8<|.nil) (.seq (qO 21 .skip (.exit 0)) (.seq (.block 1 (qN (o7 22 20<|o7 7 22<|.nil) (.ops<|o7 23 7<|qL [2,23,20,1,3]<|oL 24 8 3 2 23<|oD 25 2 2 24<|en (.store 1 (.t 25) (I 31))<|.nil))) (qM [20,2,1,3] (.ops<|oJ 26 20 1<|o7 20 26<|.nil)))))
def UN:JC:=(qN (o7 8 29<|.nil) (.ops<|o7 9 30<|.nil))
def UO:JC:=(.block 3 (qN (o9 31 1 1<|o7 32 8<|oK 33 3 31 32<|oD 34 2 2 33<|o9 35 1 34<|o7 10 35<|.nil) (.seq (.bJ<|o7 36 10<|o7 37 10<|oL 38 8 3 2 37<|oC 39 3 38<|o9 40 1 1<|qL [8,40,9,39,2,36,10,3]<|o7 41 8<|oK 42 3 40 41<|oC 43 3 42<|qL [9,39,43,2,36,10,3,8]<|o7 44 9<|eo 45 (.gW 137 [(.t 39),(.t 43),(.t 44)])<|oL 46 8 3 2 36<|oG 3 46 45<|.nil) (qM [10,2,3,8] (qN (o7 47 10<|oL 48 8 3 2 47<|oD 49 0 0 48<|o9 50 1 49<|qL [50,10,2,3,8]<|oH 51 50 3<|o7 52 51<|.sc false 58 52 (o7 53 10<|oL 54 8 3 2 53<|oD 55 2 2 54<|o9 56 1 55<|oH 57 56 0<|.nil) (.t 57)<|.nil) (qM [58,3,8,10] (qO 58 (.ops<|o9 59 1 3<|o7 60 8<|o7 61 10<|qL [60,61,59,3]<|qo 62 (.lF (.agg [(.int .i64 0),(.int .i64 0),(.int .i64 0)]) [([.eG 0],0,1,(.t 60)),([.eG 1],1,1,(.t 61))])<|eo 63 (.qj 110 3 1 (.agg [(.int .i64 0),(.int .i64 0),(.int .i64 0)]) [(0,(.t 62))])<|oW 64 110 3 24 59 63<|oG 1 3 64<|.nil) .skip)))))))
def j97:XC:=(.seq (.ops<|oV 1 29 0<|eo 2 (.alloc 78 (.arr 8 3 λ_=>(.agg [(.int .i64 0),(.int .i64 0),(.int .i64 0)])))<|eo 3 (.alloc 68 .bF)<|o8 4 0<|.nil) (.seq (.seq (.ops<|o9 12 1 1<|oM 13 49 12<|o7 11 13<|qL [11,2,3,1]<|oN 14 0 11<|oN 15 1 11<|o7 5 14<|o7 6 15<|.nil) (.prune [6,2,3,1] (.seq (.ops<|o7 16 6<|qC 17 16 0<|.nil) (.cond (.t 17) (.seq (.ops<|oC 18 24 2<|qL [6,2,18,3]<|o7 19 6<|oG 24 2 18<|en (.store 1 (.t 3) (.c .bF))<|o7 4 19<|.nil) .ret) .skip)))) (.prune [2,1,3] (.seq (.seq (.ops<|o8 20 0<|.nil) (.block 0 (.loop [2,1,3] [20] alG))) (.prune [1,2,3] (.rf (.ops<|o9 27 1 1<|oM 28 136 27<|.nil) 2 28 [29,30] UN UO (some (3,110,3)) [2,3,1] (.seq (.bJ<|oC 65 24 2<|o9 66 1 3<|oG 24 2 65<|en (.again 1 false (.t 3) 66)<|oG 1 3 66<|o8 4 0<|.nil) .ret)))))))
theorem c97:fnX Tryz.prog qall 97=some (j97.flat,[.cell 2 78, .cell 3 68, .tmp 4],67):=by kernel_rfl
theorem w97:j97.wf 67=true:=by kernel_rfl
def Gr(f:FuncId)(a:List SV)(m:List ay):Sx.Call:=(FH.rd 49 (.one dw) (.two .int .int) (λ_=>True) (λy=>(aK y.1).2)<|FH.nw 136 (.one dw) (λ_=>True) (λ_=> .fn 163 [.ptr 0 [] 0]) (λy=>[.blk 29 (dw.aA y.1)])<|
 FH.rd 137 (.three dGd aO .int) (.one dGd) (λ_=>True) (λy=>uO y.1 y.2.1 y.2.2.1) FH.none) f a m
theorem aar:type_of% (nq Gr.eq_1):=nq Gr.eq_1
theorem alH:aW Tryz.prog Gr:=FH.aT (λy _=>lY y.1)<|FH.ayS (λy _=>WL y.1)<|FH.aT (λy _=>Jl y.1 y.2.1 y.2.2.1) FH.none_ok
theorem azA:UN.wf 67=true:=by kernel_rfl
theorem azB:UO.wf 67=true:=by kernel_rfl
abbrev Mr(l:List Ev)(s:Gs×List Fl):List ay:=[.blk 29 (dw.aA l), .blk 78 (OM.aA s.1), .blk 68 (.vec 4 s.2.length), .blk 29 (dw.aA l), .vec 110 3 (s.2.map jL.aA)]
theorem alI{n k:Nat}:(if k=n then(tq n).st n else(tq n).st k)=(tq (n+1)).st k:=by split<;>rfl
theorem alJ{n k:Nat}:(if k=n then(tq n).th n else(tq n).th k)=(tq (n+1)).th k:=by split<;>rfl
theorem alK{n k:Nat}:(if k=n then(31:Int) else(tq n).lk k)=(tq (n+1)).lk k:=by
 simp only[tq];by_cases h:k=n
 ·subst h;simp
 ·simp[h,show(k<n+1)↔k<n by omega]
theorem alL:qm Tryz.prog 68=some (1,false):=by kernel_rfl
theorem aeC(l:List Ev)(h:¬ (aK l).2.2=0):FnOK Tryz.prog 97 [dw.aA l] [] (.bK [OM.aA (tq 0), .bF, .int .i64 (aK l).2.2]) []:=by refine TF c97 w97 alH rfl ?_;unfold j97;simp only[go_sem,seval,aar,h,agi,alL,tq]
theorem alM(l:List Ev)(s:Gs×List Fl)(i:Nat)(locks:Int)(hh:Nat->Int)(hi:i<l.length)(he:iI (l.getD i aO.aI)=true)(ha:cO (l.getD i aO.aI)=true)(hs:s.2.length<=80):
  avH Gr UN UO [29,30] (Fr.put 1 (SV.ptr 0 [] 0) (Fr.put 2 (SV.ptr 1 [] 0) (Fr.put 3 (SV.ptr 2 [] 0) Fr.nil))) [.int .i64 i, .int .i64 locks] (Mr l s++[.blk 253 (dHd.aA hh), .blk 56 (aO.aA (l.getD i aO.aI))])
   (Mr l (xR s i (l.getD i aO.aI) locks)++[.blk 253 (dHd.aA hh), .blk 56 (aO.aA (l.getD i aO.aI))]):=by
 generalize hE:l.getD i aO.aI=e at*;obtain⟨b1,b2,b3,b4⟩:=(bC e).1 he;have b5:e.obj<8:=by simp only[cO,z07,decide_eq_true_eq] at ha;rcases ha with h|h<;>simpa[many,h] using b4
 obtain⟨x,hx,hx8⟩:∃ x:Nat,e.obj=x/\x<8:=⟨e.obj.toNat,by omega,by omega⟩
 have hi':(i:Int)<l.length:=by omega
 refine⟨rfl,?_⟩;unfold UN;simp only[go_sem,seval,Mr];unfold UO;obtain⟨ek,et,eo⟩:=e;simp only at hx;subst hx;simp only[go_sem,seval,aar,Mr,hE,hi',y5];refine⟨by omega,⟨by omega,by omega⟩,by omega,⟨by omega,by omega⟩,⟨by omega,by omega⟩,λ_=>⟨by omega,by omega⟩,λh=>⟨by omega,?_⟩,λh=> ?_⟩
 ·simp only[z0d,decide_eq_true_eq] at h;simp only[xR,z04];rw[if_pos h];simp only[go_sem,seval,z00]
 ·simp only[Bool.and_eq_false_iff,decide_eq_false_iff_not] at h;simp only[xR,z04];rw[if_neg (λhc=>by rcases h with h|h<;>simp[hc.1,hc.2] at h)]
theorem awZ(l:List Ev)(h:(aK l).2.2=0):abI Tryz.prog qall 67 [29,30] UN.flat UO.flat
  (Fr.put 28 (SV.fn 163 [SV.ptr 3 [] 0])
   (Fr.put 27 (SV.lst 3 aO.aI aO.aA l)
    (Fr.put 1 (SV.ptr 0 [] 0) (Fr.put 2 (SV.ptr 1 [] 0) (Fr.put 3 (SV.ptr 2 [] 0) Fr.nil)))))
  163 [SV.ptr 3 [] 0] (Mr l (RS l 0)) (Mr l (RS l l.length)):=by
 have hok:(aF l).2=0:=by rw[<- iD];exact h
 refine ayN aCA aCB azz alH azA azB rfl rfl (ks:=[1,2,3]) ?_ λyv=> ?_
 ·simp only[go_sem,seval]
 unfold y83;simp only[go_sem,seval,Mr];refine avN Nat (λi=>[.int .i64 i]) (λi=>Mr l (RS l i)++[.blk 253 (dHd.aA (HS l i))]) (λi=>i<=l.length) (λi=>l.length - i) 0 (by omega) ?_ ?_ ?_
 ·simp only[go_sem,seval]
 ·simp only[go_sem,seval,HS,Mr]
 intro i hi;by_cases h1:i<l.length
 ·have h1':(i:Int)<l.length:=by omega
  have h8:=bP hok;have hw:z01.wrap ((i:Int)+1)=((i+1:Nat):Int):=aY;have hev:=jq hok i h1;unfold alF alE;simp only[go_sem,seval,asU,Mr,h1',hw,hev];have hb:(l.getD i aO.aI).aC.toNat<6/\0<=(l.getD i aO.aI).aC/\(l.getD i aO.aI).aC<6:=by have:=(bC _).1 hev;omega
  refine⟨by omega,λh2=>⟨i+1,by omega,by omega,rfl,?_⟩,λh2=>⟨h2,h2,h2,h2,h2,⟨hb.2.1,hb.2.2⟩,h2,h2,?_⟩⟩
  ·simp only[RS,h2,HS];rfl
  ·have hy:=alM l (RS l i) i (HS l (i+1) (l.getD i aO.aI).aC.toNat) (HS l (i+1)) h1 hev h2 (by have:=Ph l i;omega)
   refine⟨_,hy,i+1,by omega,by omega,rfl,?_⟩
   have e1:RS l (i+1)=xR (RS l i) i (l.getD i aO.aI) (HS l (i+1) (l.getD i aO.aI).aC.toNat):=by simp only[RS,h2,if_true]
   rw[<- e1];simp only[go_sem,seval,Mr]
 ·have h1':¬ (i:Int)<l.length:=by omega
  have e:i=l.length:=by omega
  unfold alF;simp only[go_sem,seval,asU,Mr,h1'];subst e;refine⟨trivial,[],?_⟩;simp only[go_sem,seval]
theorem Rx(l:List Ev)(h:(aK l).2.2=0):FnOK Tryz.prog 97 [dw.aA l] [] (.bK [OM.aA (RS l l.length).1, .vec 0 (RS l l.length).2.length, .int .i64 0]) [.vec 110 3 ((RS l l.length).2.map jL.aA)]:=by
 refine TF c97 w97 alH rfl ?_;unfold j97;simp only[go_sem,seval,aar,h];refine aZ Nat (λi=>[.int .i64 i]) (λi=>[.blk 29 (dw.aA l), .blk 78 (OM.aA (tq i)), .blk 68 .bF]) (λi=>i<=8) (λi=>8 - i) 0 (by omega) ?_ ?_ ?_
 ·simp only[go_sem,seval]
 ·simp only[go_sem,seval,tq]
 intro i hi;by_cases h1:i<8
 ·have h1':(i:Int)<8:=by omega
  have hw:z01.wrap ((i:Int)+1)=((i+1:Nat):Int):=aY;unfold alG;simp only[go_sem,seval,h1',hw,y5];exact⟨by omega,i+1,by omega,by omega,rfl,by simp only[alI,alJ,alK]⟩
 ·have e:i=8:=by omega
  subst e;unfold alG;simp only[go_sem,seval,aar];refine aoQ (m2:=Mr l (RS l 0)) (m1:=Mr l (RS l l.length)) (λK h=>h) rfl (by kernel_rfl) ?_ ?_ ?_ ?_
  ·simp only[go_sem,seval]
  ·simp only[go_sem,seval]
  ·exact awZ l h
  ·simp only[go_sem,seval,agi,alL]
end Go.Proofs.YtgnaipcjbmhihaaGreatDoor.Gu
namespace Go.Proofs.YtgnaipcjbmhihaaGreatDoor.Gu
open D Tr
def Grn(f:FuncId)(a:List SV)(m:List ay):Sx.Call:=(FH.mk 97 (.one dw) (λ_=>True) (λy=>if (aK y.1).2.2=0 then .bK [OM.aA (RS y.1 y.1.length).1, .vec 0 (RS y.1 y.1.length).2.length, .int .i64 0] else .bK [OM.aA (tq 0), .bF, .int .i64 (aK y.1).2.2])
 (λy=>if (aK y.1).2.2=0 then[.vec 110 3 ((RS y.1 y.1.length).2.map jL.aA)] else[]) FH.none) f a m
theorem uP:type_of% (nq Grn.eq_1):=nq Grn.eq_1
theorem Jo:aW Tryz.prog Grn:=FH.eu (λy _=>by
  by_cases h:(aK y.1).2.2=0
  ·rw[if_pos h,if_pos h];exact cZ (fU ⟨xw OM _,fE _ _,fF _ _,trivial⟩) ⟨bY _ _ jL _,trivial⟩
  ·rw[if_neg h,if_neg h];exact cZ (fU ⟨xw OM _,RH,fF _ _,trivial⟩) trivial) (λy _=>by
  by_cases h:(aK y.1).2.2=0
  ·rw[if_pos h,if_pos h];exact Rx y.1 h
  ·rw[if_neg h,if_neg h];exact aeC y.1 h) FH.none_ok
def j60:JC:=(qN (oU 2<|o8 3 0<|.nil) (qN (o7 8 0<|oM 9 97 8<|o7 7 9<|oN 10 0 7<|oN 11 1 7<|qL [7,10,11]<|oN 12 2 7<|eo 4 (.alloc 78 (.arr 8 3 λ_=>(.agg [(.int .i64 0),(.int .i64 0),(.int .i64 0)])))<|oG 24 4 10<|o7 5 11<|o7 6 12<|.nil) (qM [5,6] (qN (o7 13 5<|o7 14 6<|o7 2 13<|o7 3 14<|.nil) .ret))))
theorem aos(l:List Ev)(h:(aK l).2.2=0):FnOK Tryz.prog 60 [dw.aA l] [] (.bK [.vec 0 (RS l l.length).2.length, .int .i64 0]) [.vec 110 3 ((RS l l.length).2.map jL.aA)]:=by refine fn_walkA j60 [.tmp 2, .tmp 3] 15 Jo rfl ?_;unfold j60;simp only[go_sem,seval,uP,h]
end Go.Proofs.YtgnaipcjbmhihaaGreatDoor.Gu
namespace Go.Proofs.YtgnaipcjbmhihaaGreatDoor.Tr
open D
def asu:JC:=(qN (qA 8 7 5<|.nil) (.seq (qO 8 .skip (.exit 0)) (.seq (.block 1 (qN (o7 9 7<|o7 6 9<|.nil) (qN (o7 10 0<|o7 11 6<|qE 12 85 10 11<|o7 13 1<|oZ 14 12 13<|.nil) (qM [14,5,6,7,0,1] (qO 14 (.ops<|o7 15 5<|o7 16 6<|qL [16,15,7,0,1]<|qo 17 (.ar .shl (I 1) (.t 16))<|qo 18 (.ar .add (.t 15) (.t 17))<|o7 5 18<|.nil) .skip))))) (qM [7,0,1,5] (.ops<|oJ 19 7 1<|o7 7 19<|.nil)))))
def asv:JC:=(qM [5] (qN (o7 20 5<|o7 4 20<|.nil) .ret))
def j78:JC:=(qN (o8 4 0<|.nil) (qN (o8 5 0<|.nil) (.seq (qN (o8 7 0<|.nil) (.block 0 (.loop [0,1] [7,5] asu))) asv)))
def zu(p:Nat->Bool):Nat->Nat
 |0=>0
 |n+1=>zu p n+if p n then 2^n else 0
theorem Po(p:Nat->Bool):∀ n,zu p n<2^n
 |0=>by simp[zu]
 |n+1=>by have:=Po p n;simp only[zu,Nat.pow_succ];split<;>omega
theorem sS{p q:Nat->Bool}:∀ n,(∀ k,k<n->p k=q k)->zu p n=zu q n
 |0,_=>rfl
 |n+1,h=>by rw[zu,zu,sS n (λk hk=>h k (by omega)),h n (by omega)]
theorem aoz:∀ k,k<5->∀ s,s<2^k->z01.wrap ((s:Nat)+z01.wrap (1*2^(min k 64)))=((s+2^k:Nat):Int):=by decide
def Go':FH:=FH.rd 85 (.two dw .int) (.one .int) (λ_=>True) (λy=>Tr.aN y.1 y.2.1) FH.none
theorem avu:aW Tryz.prog Go':=FH.aT (λy _=>Ou y.1 y.2.1) FH.none_ok
def qV(l:List Ev)(t:Int)(n:Nat):Nat:=zu (λk=>decide (Tr.aN l k=t)) n
theorem anc(l:List Ev)(t:Int):FnOK Tryz.prog 78 [dw.aA l, .int .i64 t] [] (.int .i64 (qV l t 5:Nat)) []:=by
 refine fn_walkA j78 [.tmp 4] 21 avu rfl ?_;unfold j78;simp only[go_sem,seval];refine aZ Nat (λi=>[.int .i64 i, .int .i64 (qV l t i:Nat)]) (λi=>[]) (λi=>i<=5) (λi=>5 - i) 0 (by omega) ?_ rfl ?_
 ·simp only[go_sem,seval];rfl
 ·intro i hi;unfold asu;simp only[go_sem,seval,Go'];refine⟨λh1=>⟨λh3=>⟨by omega,i+1,by omega,by omega,aY,?_⟩,λh3=>⟨i+1,by omega,by omega,aY,?_⟩⟩,λh1=> ?_⟩
  ·have:=aoz i (by omega) _ (Po (λk=>decide (Tr.aN l k=t)) i)
   simp only[qV] at this ⊢;rw[this,zu,if_pos (decide_eq_true h3)]
  ·simp only[qV];rw[zu,if_neg (by simpa using h3)];rfl
  ·rw[show i=5 by omega]
   unfold asv;simp only[go_sem,seval]
end Go.Proofs.YtgnaipcjbmhihaaGreatDoor.Tr
