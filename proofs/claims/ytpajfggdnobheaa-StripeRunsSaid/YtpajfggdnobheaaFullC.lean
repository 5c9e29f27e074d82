/- A part of the proof of StripeRuns. Conditions: none. -/
import Derived.Test.YtpajfggdnobheaaClockJ
import Derived.Test.YtpajfggdnobheaaTraceR
set_option linter.unusedVariables false
set_option linter.unusedSimpArgs false
set_option maxRecDepth 100000
open Go Go.Sx Go.Proofs
namespace Go.Proofs.Ytpajfggdnobheaa.Fu
variable {main:Bool} {Fz:Nat→Prop}
open Go.Proofs.Ytpajfggdnobheaa.D Go.Proofs.Ytpajfggdnobheaa.Tr Go.Proofs.Ytpajfggdnobheaa.C
structure Vr where
 rd:Nat→Clk
 wr:Nat→Clk
def dVr:DT Vr:=(DT.ofTT (.arr 8 12 (.st [.arr 6 1 (.int .i64), .arr 6 1 (.int .i64)]))).iso (fun x=>⟨fun i=>(x i).1,fun i=>(x i).2.1⟩) (fun v i=>(v.rd i,v.wr i,())) (fun _=>rfl) (fun _=>rfl)
instance:Flat dVr:=(Flat.ofTT rfl).iso
theorem vr_emb (v:Vr):dVr.emb v= .arr 8 12 fun i=> .agg [.arr 6 1 fun j=> .int .i64 (v.rd i j), .arr 6 1 fun j=> .int .i64 (v.wr i j)]:=nr rfl
theorem vr_decV (m:List Res) (f g:Nat→Nat→Int):dVr.decV m (.arr 8 12 fun i=> .agg [.arr 6 1 fun j=> .int .i64 (f i j), .arr 6 1 fun j=> .int .i64 (g i j)])=⟨f,g⟩:=nr rfl
theorem vr_decP (m:List Res) (f g:Nat→Nat→Int):dVr.decP m (.arr 8 12 fun i=> .agg [.arr 6 1 fun j=> .int .i64 (f i j), .arr 6 1 fun j=> .int .i64 (g i j)])=True:=eq_true ⟨rfl,rfl,fun _ _=>⟨⟨rfl,rfl,fun _ _=>rfl⟩,⟨rfl,rfl,fun _ _=>rfl⟩,trivial⟩⟩
theorem vr_eta (v:Vr):(⟨v.rd,v.wr⟩:Vr)=v:=nr rfl
attribute [go_sem] vr_emb vr_decV vr_decP vr_eta
def newK (n:Nat):Kp:=⟨fun t u=>if t<n∧u=t then 1 else 0,fun _ _=>0,fun _ _=>0⟩
theorem newK_at {n k j:Nat}:(if k=n then if j=n then 1 else (newK n).thr n j else (newK n).thr k j)=(newK (n+1)).thr k j:=by
 simp only [newK]
 by_cases h:k=n
 ·subst h;by_cases h2:j=k<;>simp [h2]
 ·simp [h,show (k<n+1)↔k<n by omega]
def j21_1:JC:=
 (.seq (.ops<|
 qo 6 (.cmp .lss (.t 5) (I 6))<|
 .nil)
 (.seq (.cond (.t 6)
 .skip
 (.exit 0))
 (.seq (.block 1 (.seq (.ops<|
 qo 7 (.mv (.t 5))<|
 qo 2 (.mv (.t 7))<|
 .nil)
 (.ops<|
 qo 8 (.mv (.t 1))<|
 qo 9 (.mv (.t 2))<|
 qo 10 (.mv (.t 2))<|
 .prune [8,9,10,5,1]<|
 qo 11 (.nck (.t 8))<|
 qo 12 (.fa 0 0 (.t 11))<|
 qo 13 (.ia 6 6 (.t 12) (.t 9))<|
 qo 14 (.ia 6 1 (.t 13) (.t 10))<|
 en (.store 1 (.t 14) (I 1))<|
 .nil)))
 (.prune [5,1] (.ops<|
 qo 15 (.ar .add (.t 5) (I 1))<|
 qo 5 (.mv (.t 15))<|
 .nil)))))
def j21_2:JC:=
 (.prune [1] (.seq (.ops<|
 qo 16 (.mv (.t 1))<|
 qo 0 (.mv (.t 16))<|
 .nil)
 .ret))
def j21:JC:=
 (.seq (.ops<|
 qo 0 (.mv (.c .nilp))<|
 .nil)
 (.seq (.ops<|
 qo 3 (.bld (.agg [(.arr 6 6 fun _=>(.arr 6 1 fun _=>(.int .i64 0))),(.arr 5 6 fun _=>(.arr 6 1 fun _=>(.int .i64 0))),(.arr 4 6 fun _=>(.arr 6 1 fun _=>(.int .i64 0)))]) [])<|
 eo 4 (.box 66 (.t 3))<|
 qo 1 (.mv (.t 4))<|
 .nil)
 (.seq (.seq (.ops<|
 qo 5 (.mv (I 0))<|
 .nil)
 (.block 0 (.loop [1] [5] j21_1)))
 j21_2)))
theorem c21:fnIs Try.prog qall 21=some (j21.flat,[.tmp 0],17):=by kernel_rfl
theorem w21:j21.wf 17=true:=by kernel_rfl
theorem f_New:FnOK Try.prog main Fz 21 [] [] (.ptr 0 [] 0) [.blk 66 (dKp.emb (newK 6))]:=by
 refine fn_walkF c21 w21 FH.none_ok rfl ?_
 unfold j21
 simp only [go_sem,seval]
 refine loopF Nat (fun i=>[.int .i64 i]) (fun i=>[.blk 66 (dKp.emb (newK i))]) (fun i=>i≤6) (fun i=>6 - i) 0 (by omega) ?_ ?_ ?_
 ·simp only [go_sem,seval]
 ·simp [newK]
  rfl
 intro i hi
 by_cases h1:i<6
 ·have h1':(i:Int)<6:=by omega
  have hw:IntKind.i64.wrap ((i:Int)+1)=((i+1:Nat):Int):=IntWalk.i64_in _ (by omega)
  unfold j21_1
  simp only [go_sem,seval,h1,h1',hw]
  exact ⟨by omega,by omega,i+1,by omega,by omega,rfl,by simp only [newK_at];rfl⟩
 ·have e:i=6:=by omega
  subst e
  unfold j21_1
  simp only [go_sem,seval]
  unfold j21_2
  simp only [go_sem,seval]
def j104:JC:=
 (.seq (.ops<|
 eo 2 (.box 61 (.t 0))<|
 eo 3 (.box 61 (.t 1))<|
 qo 4 (.mv (B false))<|
 .nil)
 (.seq (.dops<|
 eo 5 (.load 6 true (.t 2))<|
 eo 6 (.load 6 true (.t 3))<|
 eo 7 (.qcall 45 [(.t 5),(.t 6)])<|
 eo 8 (.load 6 true (.t 3))<|
 qo 9 (.aeq false (.arr 6 1 (.int .i64)) (.t 7) (.t 8))<|
 qo 4 (.mv (.t 9))<|
 .nil)
 .ret))
theorem c104:fnIs Try.prog qall 104=some (j104.flat,[.tmp 4],10):=by kernel_rfl
theorem w104:j104.wf 10=true:=by kernel_rfl
def withB (a b:Clk):Bool:=(List.range 6).all fun i=>decide (joinC a b i=b i)
def Gwi (f:FuncId) (a:List SV) (m:List Res):Sx.Call:=(FH.rd 45 (.two dClk dClk) (.one dClk) (fun _=>True) (fun y=>joinC y.1 y.2.1) FH.none) f a m
theorem Gwi_eq (f:FuncId) (a:List SV) (m:List Res):Gwi f a m=(FH.rd 45 (.two dClk dClk) (.one dClk) (fun _=>True) (fun y=>joinC y.1 y.2.1) FH.none) f a m:=nr rfl
theorem Gwi_ok:FHOK Try.prog main Fz Gwi:=FH.rd_ok (by kernel_rfl) (fun y _=>f_Join y.1 y.2.1) FH.none_ok
theorem f_Within (a b:Clk):FnOK Try.prog main Fz 104 [dClk.emb a,dClk.emb b] [] (.bool (withB a b)) []:=by
 refine fn_walkF c104 w104 Gwi_ok rfl ?_
 unfold j104
 simp only [go_sem,seval,Gwi_eq,tszC]
 rfl
def upC (f:Nat→Clk) (i:Nat) (c:Clk):Nat→Clk:=fun k j=>if k=i then c j else f k j
def inC (f:Nat→Clk) (t:Nat):Nat→Clk:=fun k j=>if k=t then (if j=t then IntKind.i64.wrap (f t t+1) else f t j) else f k j
def syncK (k:Kp) (e:Ev):Kp:=
 if e.kind=3 then ⟨upC k.thr e.thr.toNat (joinC (k.thr e.thr.toNat) (k.lk e.obj.toNat)),k.lk,k.vl⟩ else
 if e.kind=4 then ⟨inC k.thr e.thr.toNat,upC k.lk e.obj.toNat (k.thr e.thr.toNat),k.vl⟩ else
 if e.kind=5 then ⟨inC (upC k.thr e.obj.toNat (joinC (k.thr e.obj.toNat) (k.thr e.thr.toNat))) e.thr.toNat,k.lk,k.vl⟩ else
 if e.kind=6 then ⟨upC k.thr e.thr.toNat (joinC (k.thr e.thr.toNat) (k.thr e.obj.toNat)),k.lk,k.vl⟩ else
 if e.kind=7 then ⟨upC k.thr e.thr.toNat (joinC (k.thr e.thr.toNat) (k.vl e.obj.toNat)),k.lk,k.vl⟩ else
 if e.kind=8 then ⟨inC k.thr e.thr.toNat,k.lk,upC k.vl e.obj.toNat (joinC (k.vl e.obj.toNat) (k.thr e.thr.toNat))⟩ else k
def j22:JC:=
 (.seq (.ops<|
 eo 3 (.box 59 (.t 1))<|
 .nil)
 (.seq (.dops<|
 qo 5 (.mv (.t 0))<|
 qo 6 (.fa 1 1 (.t 3))<|
 eo 7 (.load 1 false (.t 6))<|
 qo 8 (.nck (.t 5))<|
 qo 9 (.fa 0 0 (.t 8))<|
 qo 10 (.ia 6 6 (.t 9) (.t 7))<|
 qo 4 (.mv (.t 10))<|
 .nil)
 (.seq (.ops<|
 qo 11 (.fa 0 0 (.t 3))<|
 eo 12 (.load 1 false (.t 11))<|
 .nil)
 (.prune [12,4,0,3] (.block 0 (.seq (.ops<|
 qo 14 (.cmp .eql (.t 12) (I 3))<|
 qo 13 (.mv (.t 14))<|
 .nil)
 (.cond (.t 13)
 (.dops<|
 qo 15 (.mv (.t 4))<|
 .prune [4,0,3,15]<|
 qo 16 (.mv (.t 4))<|
 qo 17 (.nck (.t 16))<|
 eo 18 (.load 6 true (.t 17))<|
 .prune [0,3,18,15]<|
 qo 19 (.mv (.t 0))<|
 qo 20 (.fa 2 2 (.t 3))<|
 eo 21 (.load 1 false (.t 20))<|
 .prune [19,21,18,15]<|
 qo 22 (.nck (.t 19))<|
 qo 23 (.fa 1 36 (.t 22))<|
 qo 24 (.ia 5 6 (.t 23) (.t 21))<|
 .prune [24,18,15]<|
 eo 25 (.load 6 true (.t 24))<|
 eo 26 (.qcall 45 [(.t 18),(.t 25)])<|
 qo 27 (.nck (.t 15))<|
 en (.store 6 (.t 27) (.t 26))<|
 .nil)
 (.seq (.ops<|
 qo 29 (.cmp .eql (.t 12) (I 4))<|
 qo 28 (.mv (.t 29))<|
 .nil)
 (.cond (.t 28)
 (.seq (.dops<|
 .prune [0,3,4]<|
 qo 30 (.mv (.t 0))<|
 qo 31 (.fa 2 2 (.t 3))<|
 eo 32 (.load 1 false (.t 31))<|
 qo 33 (.mv (.t 4))<|
 qo 34 (.nck (.t 33))<|
 .prune [34,30,32,4,3]<|
 eo 35 (.load 6 true (.t 34))<|
 qo 36 (.nck (.t 30))<|
 qo 37 (.fa 1 36 (.t 36))<|
 qo 38 (.ia 5 6 (.t 37) (.t 32))<|
 en (.store 6 (.t 38) (.t 35))<|
 .nil)
 (.prune [4,3] (.dops<|
 qo 39 (.mv (.t 4))<|
 qo 40 (.fa 1 1 (.t 3))<|
 eo 41 (.load 1 false (.t 40))<|
 qo 42 (.nck (.t 39))<|
 qo 43 (.ia 6 1 (.t 42) (.t 41))<|
 .prune [43,39,41]<|
 eo 44 (.load 1 false (.t 43))<|
 qo 45 (.ar .add (.t 44) (I 1))<|
 qo 46 (.nck (.t 39))<|
 qo 47 (.ia 6 1 (.t 46) (.t 41))<|
 en (.store 1 (.t 47) (.t 45))<|
 .nil)))
 (.seq (.ops<|
 qo 49 (.cmp .eql (.t 12) (I 5))<|
 qo 48 (.mv (.t 49))<|
 .nil)
 (.prune [48,0,3,4,12] (.cond (.t 48)
 (.seq (.dops<|
 qo 50 (.mv (.t 0))<|
 qo 51 (.fa 2 2 (.t 3))<|
 eo 52 (.load 1 false (.t 51))<|
 .prune [0,3,4,50,52]<|
 qo 53 (.mv (.t 0))<|
 qo 54 (.fa 2 2 (.t 3))<|
 eo 55 (.load 1 false (.t 54))<|
 qo 56 (.nck (.t 53))<|
 .prune [56,55,4,50,52,3]<|
 qo 57 (.fa 0 0 (.t 56))<|
 qo 58 (.ia 6 6 (.t 57) (.t 55))<|
 .prune [58,4,50,52,3]<|
 eo 59 (.load 6 true (.t 58))<|
 qo 60 (.mv (.t 4))<|
 qo 61 (.nck (.t 60))<|
 eo 62 (.load 6 true (.t 61))<|
 .prune [59,62,50,52,4,3]<|
 eo 63 (.qcall 45 [(.t 59),(.t 62)])<|
 qo 64 (.nck (.t 50))<|
 .prune [64,52,63,4,3]<|
 qo 65 (.fa 0 0 (.t 64))<|
 qo 66 (.ia 6 6 (.t 65) (.t 52))<|
 en (.store 6 (.t 66) (.t 63))<|
 .nil)
 (.prune [4,3] (.dops<|
 qo 67 (.mv (.t 4))<|
 qo 68 (.fa 1 1 (.t 3))<|
 eo 69 (.load 1 false (.t 68))<|
 qo 70 (.nck (.t 67))<|
 qo 71 (.ia 6 1 (.t 70) (.t 69))<|
 .prune [71,67,69]<|
 eo 72 (.load 1 false (.t 71))<|
 qo 73 (.ar .add (.t 72) (I 1))<|
 qo 74 (.nck (.t 67))<|
 qo 75 (.ia 6 1 (.t 74) (.t 69))<|
 en (.store 1 (.t 75) (.t 73))<|
 .nil)))
 (.seq (.ops<|
 qo 77 (.cmp .eql (.t 12) (I 6))<|
 qo 76 (.mv (.t 77))<|
 .nil)
 (.cond (.t 76)
 (.dops<|
 .prune [4,0,3]<|
 qo 78 (.mv (.t 4))<|
 qo 79 (.mv (.t 4))<|
 qo 80 (.nck (.t 79))<|
 eo 81 (.load 6 true (.t 80))<|
 .prune [0,3,81,78]<|
 qo 82 (.mv (.t 0))<|
 qo 83 (.fa 2 2 (.t 3))<|
 eo 84 (.load 1 false (.t 83))<|
 .prune [82,84,81,78]<|
 qo 85 (.nck (.t 82))<|
 qo 86 (.fa 0 0 (.t 85))<|
 qo 87 (.ia 6 6 (.t 86) (.t 84))<|
 .prune [87,81,78]<|
 eo 88 (.load 6 true (.t 87))<|
 eo 89 (.qcall 45 [(.t 81),(.t 88)])<|
 qo 90 (.nck (.t 78))<|
 en (.store 6 (.t 90) (.t 89))<|
 .nil)
 (.seq (.ops<|
 qo 92 (.cmp .eql (.t 12) (I 7))<|
 qo 91 (.mv (.t 92))<|
 .nil)
 (.cond (.t 91)
 (.dops<|
 .prune [4,0,3]<|
 qo 93 (.mv (.t 4))<|
 qo 94 (.mv (.t 4))<|
 qo 95 (.nck (.t 94))<|
 eo 96 (.load 6 true (.t 95))<|
 .prune [0,3,96,93]<|
 qo 97 (.mv (.t 0))<|
 qo 98 (.fa 2 2 (.t 3))<|
 eo 99 (.load 1 false (.t 98))<|
 .prune [97,99,96,93]<|
 qo 100 (.nck (.t 97))<|
 qo 101 (.fa 2 66 (.t 100))<|
 qo 102 (.ia 4 6 (.t 101) (.t 99))<|
 .prune [102,96,93]<|
 eo 103 (.load 6 true (.t 102))<|
 eo 104 (.qcall 45 [(.t 96),(.t 103)])<|
 qo 105 (.nck (.t 93))<|
 en (.store 6 (.t 105) (.t 104))<|
 .nil)
 (.seq (.ops<|
 qo 107 (.cmp .eql (.t 12) (I 8))<|
 qo 106 (.mv (.t 107))<|
 .nil)
 (.prune [106,0,3,4] (.cond (.t 106)
 (.seq (.dops<|
 qo 108 (.mv (.t 0))<|
 qo 109 (.fa 2 2 (.t 3))<|
 eo 110 (.load 1 false (.t 109))<|
 qo 111 (.mv (.t 0))<|
 .prune [3,111,4,108,110]<|
 qo 112 (.fa 2 2 (.t 3))<|
 eo 113 (.load 1 false (.t 112))<|
 qo 114 (.nck (.t 111))<|
 qo 115 (.fa 2 66 (.t 114))<|
 .prune [115,113,4,108,110,3]<|
 qo 116 (.ia 4 6 (.t 115) (.t 113))<|
 eo 117 (.load 6 true (.t 116))<|
 .prune [4,117,108,110,3]<|
 qo 118 (.mv (.t 4))<|
 qo 119 (.nck (.t 118))<|
 eo 120 (.load 6 true (.t 119))<|
 eo 121 (.qcall 45 [(.t 117),(.t 120)])<|
 .prune [108,110,121,4,3]<|
 qo 122 (.nck (.t 108))<|
 qo 123 (.fa 2 66 (.t 122))<|
 qo 124 (.ia 4 6 (.t 123) (.t 110))<|
 en (.store 6 (.t 124) (.t 121))<|
 .nil)
 (.prune [4,3] (.dops<|
 qo 125 (.mv (.t 4))<|
 qo 126 (.fa 1 1 (.t 3))<|
 eo 127 (.load 1 false (.t 126))<|
 qo 128 (.nck (.t 125))<|
 qo 129 (.ia 6 1 (.t 128) (.t 127))<|
 .prune [129,125,127]<|
 eo 130 (.load 1 false (.t 129))<|
 qo 131 (.ar .add (.t 130) (I 1))<|
 qo 132 (.nck (.t 125))<|
 qo 133 (.ia 6 1 (.t 132) (.t 127))<|
 en (.store 1 (.t 133) (.t 131))<|
 .nil)))
 .skip)))))))))))))))))))
theorem c22:fnIs Try.prog qall 22=some (j22.flat,[],134):=by kernel_rfl
theorem w22:j22.wf 134=true:=by kernel_rfl
theorem f_Sync (k:Kp) (e:Ev) (he:isEv e=true):FnOK Try.prog main Fz 22 [.ptr 0 [] 0,dEv.emb e] [.blk 66 (dKp.emb k)] (.tup []) [.blk 66 (dKp.emb (syncK k e))]:=by
 refine fn_walkF c22 w22 Gwi_ok rfl ?_
 unfold j22
 obtain ⟨b1,b2,b3,b4⟩:=(isEv_iff e).1 he
 obtain ⟨t,ht,ht6⟩:∃ t:Nat,e.thr=t∧t<6:=⟨e.thr.toNat,by omega,by omega⟩
 obtain ⟨o,ho⟩:∃ o:Nat,e.obj=o:=⟨e.obj.toNat,by omega⟩
 unfold syncK
 by_cases k3:e.kind=3
 ·have b5:o<5:=by
             have:e.obj<5:=by simpa [many,k3] using b4
             omega
  simp only [go_sem,seval,Gwi_eq,tszC,k3,ht,ho,ht6,b5]
  exact ⟨by omega,by omega,rfl⟩
 by_cases k4:e.kind=4
 ·have b5:o<5:=by
             have:e.obj<5:=by simpa [many,k4] using b4
             omega
  simp only [go_sem,seval,Gwi_eq,tszC,k4,ht,ho,ht6,b5]
  exact ⟨by omega,by omega,by omega,by omega,rfl⟩
 by_cases k5:e.kind=5
 ·have b5:o<6:=by
             have:e.obj<6:=by simpa [many,k5] using b4
             omega
  simp only [go_sem,seval,Gwi_eq,tszC,k5,ht,ho,ht6,b5]
  exact ⟨by omega,by omega,by omega,by omega,by omega,rfl⟩
 by_cases k6:e.kind=6
 ·have b5:o<6:=by
             have:e.obj<6:=by simpa [many,k6] using b4
             omega
  simp only [go_sem,seval,Gwi_eq,tszC,k6,ht,ho,ht6,b5]
  exact ⟨by omega,by omega,rfl⟩
 by_cases k7:e.kind=7
 ·have b5:o<4:=by
             have:e.obj<4:=by simpa [many,k7] using b4
             omega
  simp only [go_sem,seval,Gwi_eq,tszC,k7,ht,ho,ht6,b5]
  exact ⟨by omega,by omega,rfl⟩
 by_cases k8:e.kind=8
 ·have b5:o<4:=by
             have:e.obj<4:=by simpa [many,k8] using b4
             omega
  simp only [go_sem,seval,Gwi_eq,tszC,k8,ht,ho,ht6,b5]
  exact ⟨by omega,by omega,by omega,by omega,by omega,rfl⟩
 simp only [go_sem,seval,Gwi_eq,tszC,k3,k4,k5,k6,k7,k8,ht,ho,ht6]
 omega
def Gac (f:FuncId) (a:List SV) (m:List Res):Sx.Call:=(FH.rd 104 (.two dClk dClk) (.one .bool) (fun _=>True) (fun y=>withB y.1 y.2.1) FH.none) f a m
theorem Gac_eq (f:FuncId) (a:List SV) (m:List Res):Gac f a m=(FH.rd 104 (.two dClk dClk) (.one .bool) (fun _=>True) (fun y=>withB y.1 y.2.1) FH.none) f a m:=nr rfl
theorem Gac_ok:FHOK Try.prog main Fz Gac:=FH.rd_ok (by kernel_rfl) (fun y _=>f_Within y.1 y.2.1) FH.none_ok
def isAcc (e:Ev):Bool:=decide (e.kind=1)||decide (e.kind=2)
def runK (l:List Ev):Nat→Kp
 |0=>newK 6
 |i+1=>if isAcc (l.getD i dEv.dft)=true then runK l i else syncK (runK l i) (l.getD i dEv.dft)
end Go.Proofs.Ytpajfggdnobheaa.Fu
