/- A part of the proof of StripeRuns. Conditions: none. -/
import Derived.Test.YtpajfggdnobheaaClockJ
import Derived.Test.YtpajfggdnobheaaRows
import Derived.WalkKit
set_option linter.unusedVariables false
set_option linter.unusedSimpArgs false
section
set_option maxRecDepth 100000
open Go Go.Sx Go.Proofs
namespace Go.Proofs.Ytpajfggdnobheaa.Tr
variable {main:Bool} {Fz:Nat→Prop}
open Go.Proofs.Ytpajfggdnobheaa.D
def j120:JC:=
 (.seq (.ops<|
 qo 2 (.mv (I 0))<|
 .nil)
 (.seq (.seq (.ops<|
 qo 3 (.mv (.t 0))<|
 .nil)
 (.block 0 (.seq (.seq (.ops<|
 qo 5 (.cmp .eql (.t 3) (I 1))<|
 qo 4 (.mv (.t 5))<|
 .nil)
 (.orc 4<|
 qo 6 (.cmp .eql (.t 3) (I 2))<|
 qo 4 (.mv (.t 6))<|
 .nil))
 (.cond (.t 4)
 (.seq (.ops<|
 qo 2 (.mv (I 8))<|
 .nil)
 .ret)
 (.seq (.seq (.ops<|
 qo 8 (.cmp .eql (.t 3) (I 3))<|
 qo 7 (.mv (.t 8))<|
 .nil)
 (.orc 7<|
 qo 9 (.cmp .eql (.t 3) (I 4))<|
 qo 7 (.mv (.t 9))<|
 .nil))
 (.prune [7,3] (.cond (.t 7)
 (.seq (.ops<|
 qo 2 (.mv (I 5))<|
 .nil)
 .ret)
 (.seq (.seq (.ops<|
 qo 11 (.cmp .eql (.t 3) (I 5))<|
 qo 10 (.mv (.t 11))<|
 .nil)
 (.orc 10<|
 qo 12 (.cmp .eql (.t 3) (I 6))<|
 qo 10 (.mv (.t 12))<|
 .nil))
 (.cond (.t 10)
 (.seq (.ops<|
 qo 2 (.mv (I 6))<|
 .nil)
 .ret)
 (.seq (.seq (.ops<|
 qo 14 (.cmp .eql (.t 3) (I 7))<|
 qo 13 (.mv (.t 14))<|
 .nil)
 (.orc 13<|
 qo 15 (.cmp .eql (.t 3) (I 8))<|
 qo 13 (.mv (.t 15))<|
 .nil))
 (.prune [13] (.cond (.t 13)
 (.seq (.ops<|
 qo 2 (.mv (I 4))<|
 .nil)
 .ret)
 .skip))))))))))))
 (.prune [] (.seq (.ops<|
 qo 2 (.mv (I 0))<|
 .nil)
 .ret))))
theorem c120:fnIs Try.prog qall 120=some (j120.flat,[.tmp 2],16):=by kernel_rfl
theorem w120:j120.wf 16=true:=by kernel_rfl
def j107:JC:=
 (.seq (.ops<|
 eo 1 (.box 59 (.t 0))<|
 qo 2 (.mv (B false))<|
 .nil)
 (.seq (.dops<|
 qo 3 (.fa 1 1 (.t 1))<|
 eo 4 (.load 1 false (.t 3))<|
 qo 5 (.cmp .geq (.t 4) (I 0))<|
 qo 6 (.mv (.t 5))<|
 .sc false 10 6 (qo 7 (.fa 1 1 (.t 1))<|
 eo 8 (.load 1 false (.t 7))<|
 qo 9 (.cmp .lss (.t 8) (I 6))<|
 .nil) (.t 9)<|
 .prune [10,1]<|
 qo 11 (.mv (.t 10))<|
 .sc false 15 11 (qo 12 (.fa 2 2 (.t 1))<|
 eo 13 (.load 1 false (.t 12))<|
 qo 14 (.cmp .geq (.t 13) (I 0))<|
 .nil) (.t 14)<|
 qo 16 (.mv (.t 15))<|
 .sc false 23 16 (qo 17 (.fa 2 2 (.t 1))<|
 eo 18 (.load 1 false (.t 17))<|
 qo 19 (.fa 0 0 (.t 1))<|
 eo 20 (.load 1 false (.t 19))<|
 eo 21 (.qcall 120 [(.t 20)])<|
 qo 22 (.cmp .lss (.t 18) (.t 21))<|
 .nil) (.t 22)<|
 qo 2 (.mv (.t 23))<|
 .nil)
 .ret))
theorem c107:fnIs Try.prog qall 107=some (j107.flat,[.tmp 2],24):=by kernel_rfl
theorem w107:j107.wf 24=true:=by kernel_rfl
def j73:JC:=
 (.seq (.ops<|
 eo 3 (.box 59 (.t 1))<|
 qo 4 (.mv (I 0))<|
 .nil)
 (.seq (.block 0 (.seq (.ops<|
 eo 6 (.load 3 true (.t 3))<|
 eo 7 (.call 107 [(.t 6)])<|
 qo 8 (.nt (.t 7))<|
 qo 5 (.mv (.t 8))<|
 .nil)
 (.cond (.t 5)
 (.seq (.ops<|
 qo 4 (.mv (I 1))<|
 .nil)
 .ret)
 (.seq (.dops<|
 qo 10 (.mv (.t 0))<|
 .prune [3,10,0]<|
 qo 11 (.fa 1 1 (.t 3))<|
 eo 12 (.load 1 false (.t 11))<|
 qo 13 (.nck (.t 10))<|
 qo 14 (.fa 0 0 (.t 13))<|
 .prune [14,12,0,3]<|
 qo 15 (.ia 6 1 (.t 14) (.t 12))<|
 eo 16 (.load 1 false (.t 15))<|
 qo 17 (.nt (.t 16))<|
 .prune [17,0,3]<|
 qo 18 (.mv (.t 17))<|
 .sc true 26 18 (qo 19 (.mv (.t 0))<|
 qo 20 (.fa 1 1 (.t 3))<|
 eo 21 (.load 1 false (.t 20))<|
 qo 22 (.nck (.t 19))<|
 qo 23 (.fa 1 6 (.t 22))<|
 qo 24 (.ia 6 1 (.t 23) (.t 21))<|
 eo 25 (.load 1 false (.t 24))<|
 .nil) (.t 25)<|
 qo 9 (.mv (.t 26))<|
 .nil)
 (.prune [9,3,0] (.cond (.t 9)
 (.seq (.ops<|
 qo 4 (.mv (I 11))<|
 .nil)
 .ret)
 .skip))))))
 (.prune [3,0] (.seq (.seq (.ops<|
 qo 27 (.fa 0 0 (.t 3))<|
 eo 28 (.load 1 false (.t 27))<|
 .nil)
 (.block 1 (.seq (.ops<|
 qo 30 (.cmp .eql (.t 28) (I 3))<|
 qo 29 (.mv (.t 30))<|
 .nil)
 (.cond (.t 29)
 (.seq (.seq (.dops<|
 qo 31 (.mv (.t 0))<|
 .prune [3,31,0]<|
 qo 32 (.fa 2 2 (.t 3))<|
 eo 33 (.load 1 false (.t 32))<|
 qo 34 (.nck (.t 31))<|
 qo 35 (.fa 2 12 (.t 34))<|
 .prune [35,33,0,3]<|
 qo 36 (.ia 5 1 (.t 35) (.t 33))<|
 eo 37 (.load 1 false (.t 36))<|
 qo 38 (.cmp .neq (.t 37) (I 0))<|
 .nil)
 (.prune [38,0,3] (.cond (.t 38)
 (.seq (.ops<|
 qo 4 (.mv (I 9))<|
 .nil)
 .ret)
 .skip)))
 (.prune [0,3] (.dops<|
 qo 39 (.mv (.t 0))<|
 qo 40 (.fa 2 2 (.t 3))<|
 eo 41 (.load 1 false (.t 40))<|
 qo 42 (.fa 1 1 (.t 3))<|
 eo 43 (.load 1 false (.t 42))<|
 .prune [43,39,41]<|
 qo 44 (.ar .add (.t 43) (I 1))<|
 qo 45 (.nck (.t 39))<|
 qo 46 (.fa 2 12 (.t 45))<|
 qo 47 (.ia 5 1 (.t 46) (.t 41))<|
 en (.store 1 (.t 47) (.t 44))<|
 .nil)))
 (.seq (.ops<|
 qo 49 (.cmp .eql (.t 28) (I 4))<|
 qo 48 (.mv (.t 49))<|
 .nil)
 (.cond (.t 48)
 (.seq (.seq (.dops<|
 .prune [0,3]<|
 qo 50 (.mv (.t 0))<|
 qo 51 (.fa 2 2 (.t 3))<|
 eo 52 (.load 1 false (.t 51))<|
 qo 53 (.nck (.t 50))<|
 qo 54 (.fa 2 12 (.t 53))<|
 .prune [54,52,3,0]<|
 qo 55 (.ia 5 1 (.t 54) (.t 52))<|
 eo 56 (.load 1 false (.t 55))<|
 qo 57 (.fa 1 1 (.t 3))<|
 .prune [57,56,0,3]<|
 eo 58 (.load 1 false (.t 57))<|
 qo 59 (.ar .add (.t 58) (I 1))<|
 qo 60 (.cmp .neq (.t 56) (.t 59))<|
 .nil)
 (.prune [60,0,3] (.cond (.t 60)
 (.seq (.ops<|
 qo 4 (.mv (I 10))<|
 .nil)
 .ret)
 .skip)))
 (.prune [0,3] (.dops<|
 qo 61 (.mv (.t 0))<|
 qo 62 (.fa 2 2 (.t 3))<|
 eo 63 (.load 1 false (.t 62))<|
 qo 64 (.nck (.t 61))<|
 qo 65 (.fa 2 12 (.t 64))<|
 qo 66 (.ia 5 1 (.t 65) (.t 63))<|
 en (.store 1 (.t 66) (I 0))<|
 .nil)))
 (.seq (.ops<|
 qo 68 (.cmp .eql (.t 28) (I 5))<|
 qo 67 (.mv (.t 68))<|
 .nil)
 (.prune [67,0,3,28] (.cond (.t 67)
 (.seq (.seq (.dops<|
 qo 69 (.mv (.t 0))<|
 qo 70 (.fa 2 2 (.t 3))<|
 eo 71 (.load 1 false (.t 70))<|
 .prune [69,71,0,3]<|
 qo 72 (.nck (.t 69))<|
 qo 73 (.fa 0 0 (.t 72))<|
 qo 74 (.ia 6 1 (.t 73) (.t 71))<|
 eo 75 (.load 1 false (.t 74))<|
 .nil)
 (.prune [75,0,3] (.cond (.t 75)
 (.seq (.ops<|
 qo 4 (.mv (I 8))<|
 .nil)
 .ret)
 .skip)))
 (.prune [0,3] (.dops<|
 qo 76 (.mv (.t 0))<|
 qo 77 (.fa 2 2 (.t 3))<|
 eo 78 (.load 1 false (.t 77))<|
 qo 79 (.nck (.t 76))<|
 qo 80 (.fa 0 0 (.t 79))<|
 qo 81 (.ia 6 1 (.t 80) (.t 78))<|
 en (.store 1 (.t 81) (B true))<|
 .nil)))
 (.seq (.ops<|
 qo 83 (.cmp .eql (.t 28) (I 6))<|
 qo 82 (.mv (.t 83))<|
 .nil)
 (.cond (.t 82)
 (.seq (.seq (.dops<|
 qo 84 (.mv (.t 0))<|
 .prune [3,84,0]<|
 qo 85 (.fa 2 2 (.t 3))<|
 eo 86 (.load 1 false (.t 85))<|
 qo 87 (.nck (.t 84))<|
 qo 88 (.fa 0 0 (.t 87))<|
 .prune [88,86,3,0]<|
 qo 89 (.ia 6 1 (.t 88) (.t 86))<|
 eo 90 (.load 1 false (.t 89))<|
 qo 91 (.nt (.t 90))<|
 .prune [91,3,0]<|
 qo 92 (.mv (.t 91))<|
 .sc true 98 92 (qo 93 (.fa 2 2 (.t 3))<|
 eo 94 (.load 1 false (.t 93))<|
 qo 95 (.fa 1 1 (.t 3))<|
 eo 96 (.load 1 false (.t 95))<|
 qo 97 (.cmp .eql (.t 94) (.t 96))<|
 .nil) (.t 97)<|
 .nil)
 (.prune [98,0,3] (.cond (.t 98)
 (.seq (.ops<|
 qo 4 (.mv (I 7))<|
 .nil)
 .ret)
 .skip)))
 (.prune [0,3] (.dops<|
 qo 99 (.mv (.t 0))<|
 qo 100 (.fa 2 2 (.t 3))<|
 eo 101 (.load 1 false (.t 100))<|
 qo 102 (.nck (.t 99))<|
 qo 103 (.fa 1 6 (.t 102))<|
 qo 104 (.ia 6 1 (.t 103) (.t 101))<|
 en (.store 1 (.t 104) (B true))<|
 .nil)))
 .skip)))))))))))
 (.prune [] (.seq (.ops<|
 qo 4 (.mv (I 0))<|
 .nil)
 .ret))))))
theorem c73:fnIs Try.prog qall 73=some (j73.flat,[.tmp 4],105):=by kernel_rfl
theorem w73:j73.wf 105=true:=by kernel_rfl
def j72:JC:=
 (.seq (.ops<|
 qo 0 (.mv (.c .nilp))<|
 .nil)
 (.seq (.ops<|
 qo 2 (.bld (.agg [(.arr 6 1 fun _=>(.bool false)),(.arr 6 1 fun _=>(.bool false)),(.arr 5 1 fun _=>(.int .i64 0))]) [])<|
 eo 3 (.box 193 (.t 2))<|
 qo 1 (.mv (.t 3))<|
 .nil)
 (.seq (.ops<|
 qo 4 (.mv (.t 1))<|
 qo 5 (.nck (.t 4))<|
 qo 6 (.fa 0 0 (.t 5))<|
 qo 7 (.ia 6 1 (.t 6) (I 0))<|
 en (.store 1 (.t 7) (B true))<|
 .nil)
 (.seq (.ops<|
 qo 8 (.mv (.t 1))<|
 qo 0 (.mv (.t 8))<|
 .nil)
 .ret))))
theorem c72:fnIs Try.prog qall 72=some (j72.flat,[.tmp 0],9):=by kernel_rfl
theorem w72:j72.wf 9=true:=by kernel_rfl
def j42_1:JC:=
 (.seq (.ops<|
 qo 17 (.cmp .lss (.t 16) (.t 15))<|
 .nil)
 (.seq (.cond (.t 17)
 .skip
 (.exit 0))
 (.seq (.block 1 (.seq (.ops<|
 qo 18 (.mv (.t 16))<|
 qo 19 (.is 3 (.t 14) (.t 16))<|
 eo 20 (.load 3 true (.t 19))<|
 eo 7 (.alloc 59 (.agg [(.int .i64 0),(.int .i64 0),(.int .i64 0)]))<|
 qo 6 (.mv (.t 18))<|
 en (.store 3 (.t 7) (.t 20))<|
 .nil)
 (.prune [5,7,6,16,15,14] (.seq (.ops<|
 qo 21 (.mv (.t 5))<|
 eo 22 (.load 3 true (.t 7))<|
 eo 23 (.call 73 [(.t 21),(.t 22)])<|
 qo 8 (.mv (.t 23))<|
 .nil)
 (.prune [8,5,6,16,15,14] (.seq (.ops<|
 qo 24 (.mv (.t 8))<|
 qo 25 (.cmp .neq (.t 24) (I 0))<|
 .nil)
 (.cond (.t 25)
 (.seq (.ops<|
 .prune [5,6,8]<|
 qo 26 (.mv (.t 5))<|
 qo 27 (.mv (.t 6))<|
 qo 28 (.mv (.t 8))<|
 qo 2 (.mv (.t 26))<|
 qo 3 (.mv (.t 27))<|
 qo 4 (.mv (.t 28))<|
 .nil)
 .ret)
 .skip)))))))
 (.prune [16,15,14,5] (.ops<|
 qo 29 (.ar .add (.t 16) (I 1))<|
 qo 16 (.mv (.t 29))<|
 .nil)))))
def j42_2:JC:=
 (.prune [5] (.seq (.ops<|
 qo 30 (.mv (.t 5))<|
 qo 2 (.mv (.t 30))<|
 qo 3 (.mv (I 0))<|
 qo 4 (.mv (I 0))<|
 .nil)
 .ret))
def j42:JC:=
 (.seq (.ops<|
 qo 2 (.mv (.c .nilp))<|
 qo 3 (.mv (I 0))<|
 qo 4 (.mv (I 0))<|
 .nil)
 (.seq (.ops<|
 eo 9 (.call 72 [])<|
 qo 5 (.mv (.t 9))<|
 .nil)
 (.seq (.seq (.ops<|
 qo 10 (.mv (.t 0))<|
 qo 11 (.len (.t 10))<|
 qo 12 (.cmp .gtr (.t 11) (I 80))<|
 .nil)
 (.cond (.t 12)
 (.seq (.ops<|
 .prune [5]<|
 qo 13 (.mv (.t 5))<|
 qo 2 (.mv (.t 13))<|
 qo 3 (.mv (I 0))<|
 qo 4 (.mv (I 2))<|
 .nil)
 .ret)
 .skip))
 (.prune [0,5] (.seq (.seq (.ops<|
 qo 14 (.mv (.t 0))<|
 qo 15 (.len (.t 14))<|
 qo 16 (.mv (I 0))<|
 .nil)
 (.block 0 (.loop [15,14,5] [16] j42_1)))
 j42_2)))))
theorem c42:fnIs Try.prog qall 42=some (j42.flat,[.tmp 2, .tmp 3, .tmp 4],31):=by kernel_rfl
theorem w42:j42.wf 31=true:=by kernel_rfl
def j19:JC:=
 (.seq (.ops<|
 qo 2 (.mv (I 0))<|
 qo 3 (.mv (I 0))<|
 .nil)
 (.seq (.ops<|
 qo 8 (.mv (.t 0))<|
 eo 9 (.call 42 [(.t 8)])<|
 qo 7 (.mv (.t 9))<|
 qo 10 (.ext 0 (.t 7))<|
 qo 11 (.ext 1 (.t 7))<|
 .prune [7,10,11]<|
 qo 12 (.ext 2 (.t 7))<|
 qo 4 (.mv (.t 10))<|
 qo 5 (.mv (.t 11))<|
 qo 6 (.mv (.t 12))<|
 .nil)
 (.prune [5,6] (.seq (.ops<|
 qo 13 (.mv (.t 5))<|
 qo 14 (.mv (.t 6))<|
 qo 2 (.mv (.t 13))<|
 qo 3 (.mv (.t 14))<|
 .nil)
 .ret))))
theorem c19:fnIs Try.prog qall 19=some (j19.flat,[.tmp 2, .tmp 3],15):=by kernel_rfl
theorem w19:j19.wf 15=true:=by kernel_rfl
def many (k:Int):Int:=if k=1∨k=2 then 8 else if k=3∨k=4 then 5 else if k=5∨k=6 then 6 else if k=7∨k=8 then 4 else 0
theorem f_many (k:Int):FnOK Try.prog main Fz 120 [.int .i64 k] [] (.int .i64 (many k)) []:=by
 refine fn_walkF c120 w120 FH.none_ok rfl ?_
 unfold j120
 simp only [go_sem,seval]
 unfold many
 refine ⟨fun h=> ?_,fun h=>⟨fun h2=> ?_,fun h2=>⟨fun h3=> ?_,fun h3=>⟨fun h4=> ?_,fun h4=> ?_⟩⟩⟩⟩<;>simp_all
def isEv (e:Ev):Bool:=decide (0≤e.thr)&&decide (e.thr<6)&&decide (0≤e.obj)&&decide (e.obj<many e.kind)
def Gm (f:FuncId) (a:List SV) (m:List Res):Sx.Call:=(FH.rd 120 (.one .int) (.one .int) (fun _=>True) (fun y=>many y.1) FH.none) f a m
theorem Gm_eq (f:FuncId) (a:List SV) (m:List Res):Gm f a m=(FH.rd 120 (.one .int) (.one .int) (fun _=>True) (fun y=>many y.1) FH.none) f a m:=nr rfl
theorem Gm_ok:FHOK Try.prog main Fz Gm:=FH.rd_ok (by kernel_rfl) (fun y _=>f_many y.1) FH.none_ok
theorem f_IsEvent (e:Ev):FnOK Try.prog main Fz 107 [dEv.emb e] [] (.bool (isEv e)) []:=by
 refine fn_walkF c107 w107 Gm_ok rfl ?_
 unfold j107
 simp only [go_sem,seval,Gm_eq]
 rfl
def upd {α:Type} (f:Nat→α) (i:Nat) (x:α):Nat→α:=fun k=>if k=i then x else f k
def takeE (w:Wd) (e:Ev):Wd×Int:=
 if isEv e=false then (w,1) else
 if (!w.begun e.thr.toNat||w.over e.thr.toNat)=true then (w,11) else
 if e.kind=3 then (if w.owner e.obj.toNat≠0 then (w,9) else ({w with owner:=upd w.owner e.obj.toNat (e.thr+1)},0)) else
 if e.kind=4 then (if w.owner e.obj.toNat≠e.thr+1 then (w,10) else ({w with owner:=upd w.owner e.obj.toNat 0},0)) else
 if e.kind=5 then (if w.begun e.obj.toNat=true then (w,8) else ({w with begun:=upd w.begun e.obj.toNat true},0)) else
 if e.kind=6 then (if (!w.begun e.obj.toNat||decide (e.obj=e.thr))=true then (w,7) else ({w with over:=upd w.over e.obj.toNat true},0)) else (w,0)
def Gi (f:FuncId) (a:List SV) (m:List Res):Sx.Call:=(FH.rd 107 (.one dEv) (.one .bool) (fun _=>True) (fun y=>isEv y.1) FH.none) f a m
theorem Gi_eq (f:FuncId) (a:List SV) (m:List Res):Gi f a m=(FH.rd 107 (.one dEv) (.one .bool) (fun _=>True) (fun y=>isEv y.1) FH.none) f a m:=nr rfl
theorem Gi_ok:FHOK Try.prog main Fz Gi:=FH.rd_ok (by kernel_rfl) (fun y _=>f_IsEvent y.1) FH.none_ok
theorem isEv_iff (e:Ev):isEv e=true↔0≤e.thr∧e.thr<6∧0≤e.obj∧e.obj<many e.kind:=by
 simp [isEv,and_assoc]
theorem f_takes (w:Wd) (e:Ev):FnOK Try.prog main Fz 73 [.ptr 0 [] 0,dEv.emb e] [.blk 193 (dWd.emb w)] (.int .i64 (takeE w e).2) [.blk 193 (dWd.emb (takeE w e).1)]:=by
 refine fn_walkF c73 w73 Gi_ok rfl ?_
 unfold j73
 simp only [go_sem,seval,Gi_eq]
 refine ⟨fun h1=>by simp [takeE,h1],fun h1=> ?_⟩
 obtain ⟨b1,b2,b3,b4⟩:=(isEv_iff e).1 h1
 have hw:IntKind.i64.wrap (e.thr+1)=e.thr+1:=IntWalk.i64_in _ (by omega)
 rw [hw]
 refine ⟨⟨b1,b2⟩,fun _=>⟨b1,b2⟩,fun h2=>by simp [takeE,h1,h2],fun h2=>⟨fun h3=> ?_,fun h3=>⟨fun h4=> ?_,fun h4=>⟨fun h5=> ?_,fun h5=>⟨fun h6=> ?_,fun h6=> ?_⟩⟩⟩⟩⟩
 ·have b5:e.obj<5:=by simpa [many,h3] using b4
  exact ⟨⟨b3,b5⟩,fun h7=>by simp [takeE,h1,h2,h3,h7],fun h7=>⟨⟨b3,b5⟩,by simp [takeE,h1,h2,h3,h7,upd]⟩⟩
 ·have b5:e.obj<5:=by simpa [many,h4] using b4
  exact ⟨⟨b3,b5⟩,fun h7=>by simp [takeE,h1,h2,h4,h7],fun h7=>⟨⟨b3,b5⟩,by simp [takeE,h1,h2,h4,h7,upd]⟩⟩
 ·have b5:e.obj<6:=by simpa [many,h5] using b4
  exact ⟨⟨b3,b5⟩,fun h7=>by simp [takeE,h1,h2,h5,h7],fun h7=>⟨⟨b3,b5⟩,by simp [takeE,h1,h2,h5,h7,upd]⟩⟩
 ·have b5:e.obj<6:=by simpa [many,h6] using b4
  exact ⟨⟨b3,b5⟩,fun h7=>by simp [takeE,h1,h2,h6,h7],fun h7=>⟨⟨b3,b5⟩,by simp [takeE,h1,h2,h6,h7,upd]⟩⟩
 ·simp [takeE,h1,h2,h3,h4,h5,h6]
def firstW:Wd:=⟨upd (fun _=>false) 0 true,fun _=>false,fun _=>0⟩
theorem f_first:FnOK Try.prog main Fz 72 [] [] (.ptr 0 [] 0) [.blk 193 (dWd.emb firstW)]:=by
 refine fn_walkF c72 w72 FH.none_ok rfl ?_
 unfold j72
 simp only [go_sem,seval]
 simp [firstW,upd]
def playL:List Ev→Nat→Wd→Wd×Int×Int
 |[],_,w=>(w,0,0)
 |e::r,i,w=>if (takeE w e).2=0 then playL r (i+1) (takeE w e).1 else ((takeE w e).1,i,(takeE w e).2)
def playedF (l:List Ev):Wd×Int×Int:=if 80<l.length then (firstW,0,2) else playL l 0 firstW
def Gp (f:FuncId) (a:List SV) (m:List Res):Sx.Call:=(FH.mk 72 .nil (fun _=>True) (fun _=> .ptr 0 [] 0) (fun _=>[.blk 193 (dWd.emb firstW)])<|
 FH.mt 73 193 dWd (.one dEv) (.one .int) (fun _ _=>True) (fun w y=>(takeE w y.1).2) (fun w y=>(takeE w y.1).1) FH.none) f a m
theorem Gp_eq (f:FuncId) (a:List SV) (m:List Res):Gp f a m=(FH.mk 72 .nil (fun _=>True) (fun _=> .ptr 0 [] 0) (fun _=>[.blk 193 (dWd.emb firstW)])<|
 FH.mt 73 193 dWd (.one dEv) (.one .int) (fun _ _=>True) (fun w y=>(takeE w y.1).2) (fun w y=>(takeE w y.1).1) FH.none) f a m:=nr rfl
theorem plain_ptr (d:DT Wd) [h:Flat d] (w:Wd):PlainM (.ptr 0 [] 0) [.blk 193 (d.emb w)]:=fun r=>by
 refine ⟨?_,fun y hy=> ?_⟩
 ·simp only [ren,renI]
  split
  ·exact (noH_ptr _ _ _).val rfl
  ·exact noHV_junk
 ·simp only [List.mem_cons,List.not_mem_nil,or_false] at hy
  subst hy
  simp only [renR,d.ren]
  exact h.noH w
theorem Gp_ok:FHOK Try.prog main Fz Gp:=FH.mk_ok (by kernel_rfl) (fun _ _=>plain_ptr dWd firstW) (fun _ _=>f_first)<|FH.mt_ok (by kernel_rfl) (fun w y _=>f_takes w y.1) FH.none_ok
def wAt (l:List Ev) (i:Nat):Wd:=(l.take i).foldl (fun w e=>(takeE w e).1) firstW
theorem f_played (l:List Ev):FnOK Try.prog main Fz 42 [(DT.list 3 dEv).emb l] [] (.tup [.ptr 0 [] 0, .int .i64 (playedF l).2.1, .int .i64 (playedF l).2.2]) [.blk 193 (dWd.emb (playedF l).1)]:=by
 refine fn_len fun hB=>fn_walkF c42 w42 Gp_ok rfl ?_
 simp only [go_sem,seval] at hB
 unfold j42
 simp only [go_sem,seval,Gp_eq]
 refine ⟨fun h=> ?_,fun h=> ?_⟩
 ·have:playedF l=(firstW,0,2):=if_pos (by omega)
  rw [this]
  exact ⟨rfl,rfl⟩
 have h80:¬ 80<l.length:=by omega
 refine loopF Nat (fun i=>[.int .i64 i]) (fun i=>[.blk 193 (dWd.emb (wAt l i))]) (fun i=>i≤l.length∧playedF l=playL (l.drop i) i (wAt l i)) (fun i=>l.length - i) 0 ⟨by omega,by simp [playedF,h80,wAt]⟩ ?_ rfl ?_
 ·simp only [go_sem,seval]
 ·intro i hi
  unfold j42_1
  simp only [go_sem,seval,Gp_eq]
  refine ⟨fun h1=> ?_,fun h1=> ?_⟩
  ·have hil:i<l.length:=by omega
   have hd:=drop_getD dEv.dft hil
   have hw:wAt l (i+1)=(takeE (wAt l i) (l.getD i dEv.dft)).1:=by
    simp only [wAt,take_getD dEv.dft hil,List.foldl_append,List.foldl_cons,List.foldl_nil]
   have hp:=hi.2
   rw [hd] at hp
   simp only [playL] at hp
   refine ⟨by omega,fun h2=> ?_,fun h2=>⟨i+1,⟨by omega,?_⟩,by omega,IntWalk.i64_in _ (by omega),?_⟩⟩
   ·rw [if_neg h2] at hp
    rw [hp]
    exact ⟨rfl,rfl⟩
   ·rw [if_pos h2] at hp
    rw [hp,hw]
   ·rw [hw]
  ·have hil:i=l.length:=by omega
   subst hil
   have hp:=hi.2
   rw [List.drop_length] at hp
   simp only [playL] at hp
   rw [hp]
   unfold j42_2
   simp only [go_sem,seval]
def Gc (f:FuncId) (a:List SV) (m:List Res):Sx.Call:=(FH.mk 42 (.one (DT.list 3 dEv)) (fun _=>True) (fun y=> .tup [.ptr 0 [] 0, .int .i64 (playedF y.1).2.1, .int .i64 (playedF y.1).2.2]) (fun y=>[.blk 193 (dWd.emb (playedF y.1).1)]) FH.none) f a m
theorem Gc_eq (f:FuncId) (a:List SV) (m:List Res):Gc f a m=(FH.mk 42 (.one (DT.list 3 dEv)) (fun _=>True) (fun y=> .tup [.ptr 0 [] 0, .int .i64 (playedF y.1).2.1, .int .i64 (playedF y.1).2.2]) (fun y=>[.blk 193 (dWd.emb (playedF y.1).1)]) FH.none) f a m:=nr rfl
theorem plain_played (d:DT Wd) [h:Flat d] (w:Wd) (a b:Int):PlainM (.tup [.ptr 0 [] 0, .int .i64 a, .int .i64 b]) [.blk 193 (d.emb w)]:=fun r=>by
 refine ⟨?_,(plain_ptr d w r).2⟩
 simp only [ren,renL]
 refine noHV_tup fun x hx=> ?_
 simp only [List.mem_cons,List.not_mem_nil,or_false] at hx
 rcases hx with rfl|rfl|rfl
 ·simp only [renI]
  split
  ·exact noH_ptr _ _ _
  ·exact noH_junk
 ·exact noH_int _ _
 ·exact noH_int _ _
theorem Gc_ok:FHOK Try.prog main Fz Gc:=FH.mk_ok (by kernel_rfl) (fun y _=>plain_played dWd _ _ _) (fun y _=>f_played y.1) FH.none_ok
theorem f_Check (l:List Ev):FnOK Try.prog main Fz 19 [(DT.list 3 dEv).emb l] [] (.tup [.int .i64 (playedF l).2.1, .int .i64 (playedF l).2.2]) []:=by
 refine fn_walkF c19 w19 Gc_ok rfl ?_
 unfold j19
 simp only [go_sem,seval,Gc_eq]
end Go.Proofs.Ytpajfggdnobheaa.Tr
end
section
set_option maxRecDepth 100000
open Go Go.Sx Go.Proofs
namespace Go.Proofs.Ytpajfggdnobheaa.Tr
variable {main:Bool} {Fz:Nat→Prop}
open Go.Proofs.Ytpajfggdnobheaa.D
def j115:JC:=
 (.seq (.ops<|
 qo 6 (.mv (B false))<|
 .nil)
 (.seq (.ops<|
 qo 7 (.mv (.t 0))<|
 qo 8 (.mv (.t 1))<|
 qo 9 (.cmp .lss (.t 7) (.t 8))<|
 qo 10 (.mv (.t 9))<|
 .sc true 14 10 (qo 11 (.mv (.t 0))<|
 qo 12 (.mv (.t 2))<|
 qo 13 (.cmp .gtr (.t 11) (.t 12))<|
 .nil) (.t 13)<|
 qo 6 (.mv (.t 14))<|
 .nil)
 .ret))
theorem c115:fnIs Try.prog qall 115=some (j115.flat,[.tmp 6],15):=by kernel_rfl
theorem w115:j115.wf 15=true:=by kernel_rfl
def j89:JC:=
 (.seq (.ops<|
 eo 1 (.box 59 (.t 0))<|
 qo 2 (.mv (B false))<|
 .nil)
 (.seq (.seq (.ops<|
 qo 3 (.fa 0 0 (.t 1))<|
 eo 4 (.load 1 false (.t 3))<|
 eo 5 (.call 115 [(.t 4),(I 1),(I 8)])<|
 qo 6 (.mv (.t 5))<|
 .sc true 10 6 (qo 7 (.fa 1 1 (.t 1))<|
 eo 8 (.load 1 false (.t 7))<|
 eo 9 (.call 115 [(.t 8),(I 0),(I 5)])<|
 .nil) (.t 9)<|
 .nil)
 (.prune [10,1] (.cond (.t 10)
 (.seq (.ops<|
 qo 2 (.mv (B false))<|
 .nil)
 .ret)
 .skip)))
 (.prune [1] (.seq (.dops<|
 qo 11 (.fa 2 2 (.t 1))<|
 eo 12 (.load 1 false (.t 11))<|
 eo 13 (.qtab [7,7,4,4,5,5,3,3])<|
 qo 14 (.fa 0 0 (.t 1))<|
 eo 15 (.load 1 false (.t 14))<|
 qo 16 (.ar .sub (.t 15) (I 1))<|
 .prune [13,16,12]<|
 qo 17 (.is 1 (.t 13) (.t 16))<|
 eo 18 (.load 1 false (.t 17))<|
 eo 19 (.qcall 115 [(.t 12),(I 0),(.t 18)])<|
 qo 20 (.nt (.t 19))<|
 qo 2 (.mv (.t 20))<|
 .nil)
 .ret))))
theorem c89:fnIs Try.prog qall 89=some (j89.flat,[.tmp 2],21):=by kernel_rfl
theorem w89:j89.wf 21=true:=by kernel_rfl
def j91_1:JC:=
 (.seq (.ops<|
 qo 12 (.cmp .lss (.t 11) (.t 10))<|
 .nil)
 (.seq (.cond (.t 12)
 .skip
 (.exit 0))
 (.seq (.block 1 (.seq (.ops<|
 qo 13 (.is 3 (.t 9) (.t 11))<|
 eo 14 (.load 3 true (.t 13))<|
 eo 8 (.alloc 59 (.agg [(.int .i64 0),(.int .i64 0),(.int .i64 0)]))<|
 en (.store 3 (.t 8) (.t 14))<|
 .nil)
 (.prune [8,1,2,11,10,9] (.seq (.ops<|
 qo 15 (.fa 0 0 (.t 8))<|
 eo 16 (.load 1 false (.t 15))<|
 qo 17 (.mv (.t 1))<|
 qo 18 (.cmp .eql (.t 16) (.t 17))<|
 .prune [18,8,2,11,10,9,1]<|
 qo 19 (.mv (.t 18))<|
 .sc false 24 19 (qo 20 (.fa 2 2 (.t 8))<|
 eo 21 (.load 1 false (.t 20))<|
 qo 22 (.mv (.t 2))<|
 qo 23 (.cmp .eql (.t 21) (.t 22))<|
 .nil) (.t 23)<|
 .nil)
 (.prune [24,11,10,9,1,2] (.cond (.t 24)
 (.seq (.ops<|
 qo 6 (.mv (B true))<|
 .nil)
 .ret)
 .skip))))))
 (.prune [11,10,9,1,2] (.ops<|
 qo 25 (.ar .add (.t 11) (I 1))<|
 qo 11 (.mv (.t 25))<|
 .nil)))))
def j91_2:JC:=
 (.prune [] (.seq (.ops<|
 qo 6 (.mv (B false))<|
 .nil)
 .ret))
def j91:JC:=
 (.seq (.ops<|
 qo 6 (.mv (B false))<|
 .nil)
 (.seq (.seq (.ops<|
 qo 9 (.mv (.t 0))<|
 qo 10 (.len (.t 9))<|
 qo 11 (.mv (I 0))<|
 .nil)
 (.block 0 (.loop [10,9,1,2] [11] j91_1)))
 j91_2))
theorem c91:fnIs Try.prog qall 91=some (j91.flat,[.tmp 6],26):=by kernel_rfl
theorem w91:j91.wf 26=true:=by kernel_rfl
def j90:JC:=
 (.seq (.ops<|
 qo 4 (.mv (B false))<|
 .nil)
 (.seq (.ops<|
 qo 5 (.mv (.t 1))<|
 qo 6 (.cmp .eql (.t 5) (I 0))<|
 qo 7 (.mv (.t 6))<|
 .sc true 11 7 (qo 8 (.mv (.t 0))<|
 qo 9 (.mv (.t 1))<|
 eo 10 (.call 91 [(.t 8),(I 5),(.t 9)])<|
 .nil) (.t 10)<|
 qo 4 (.mv (.t 11))<|
 .nil)
 .ret))
theorem c90:fnIs Try.prog qall 90=some (j90.flat,[.tmp 4],12):=by kernel_rfl
theorem w90:j90.wf 12=true:=by kernel_rfl
def j92_1:JC:=
 (.seq (.ops<|
 qo 11 (.cmp .lss (.t 10) (.t 9))<|
 .nil)
 (.seq (.cond (.t 11)
 .skip
 (.exit 0))
 (.seq (.block 1 (.seq (.ops<|
 qo 12 (.is 3 (.t 8) (.t 10))<|
 eo 13 (.load 3 true (.t 12))<|
 eo 7 (.alloc 59 (.agg [(.int .i64 0),(.int .i64 0),(.int .i64 0)]))<|
 en (.store 3 (.t 7) (.t 13))<|
 .nil)
 (.prune [7,1,10,9,8,5] (.seq (.seq (.ops<|
 qo 14 (.fa 2 2 (.t 7))<|
 eo 15 (.load 1 false (.t 14))<|
 qo 16 (.mv (.t 1))<|
 qo 17 (.cmp .eql (.t 15) (.t 16))<|
 .prune [17,7,1,10,9,8,5]<|
 qo 18 (.mv (.t 17))<|
 .sc false 22 18 (qo 19 (.fa 0 0 (.t 7))<|
 eo 20 (.load 1 false (.t 19))<|
 qo 21 (.cmp .eql (.t 20) (I 3))<|
 .nil) (.t 21)<|
 .nil)
 (.prune [22,7,1,10,9,8,5] (.cond (.t 22)
 (.ops<|
 qo 23 (.fa 1 1 (.t 7))<|
 eo 24 (.load 1 false (.t 23))<|
 qo 5 (.mv (.t 24))<|
 .nil)
 .skip)))
 (.prune [7,1,10,9,8,5] (.seq (.ops<|
 qo 25 (.fa 2 2 (.t 7))<|
 eo 26 (.load 1 false (.t 25))<|
 qo 27 (.mv (.t 1))<|
 qo 28 (.cmp .eql (.t 26) (.t 27))<|
 .prune [28,7,10,9,8,1,5]<|
 qo 29 (.mv (.t 28))<|
 .sc false 33 29 (qo 30 (.fa 0 0 (.t 7))<|
 eo 31 (.load 1 false (.t 30))<|
 qo 32 (.cmp .eql (.t 31) (I 4))<|
 .nil) (.t 32)<|
 .nil)
 (.prune [33,10,9,8,1,5] (.cond (.t 33)
 (.ops<|
 qo 5 (.mv (I (-1)))<|
 .nil)
 .skip))))))))
 (.prune [10,9,8,1,5] (.ops<|
 qo 34 (.ar .add (.t 10) (I 1))<|
 qo 10 (.mv (.t 34))<|
 .nil)))))
def j92_2:JC:=
 (.prune [5] (.seq (.ops<|
 qo 35 (.mv (.t 5))<|
 qo 4 (.mv (.t 35))<|
 .nil)
 .ret))
def j92:JC:=
 (.seq (.ops<|
 qo 4 (.mv (I 0))<|
 .nil)
 (.seq (.ops<|
 qo 5 (.mv (I (-1)))<|
 .nil)
 (.seq (.seq (.ops<|
 qo 8 (.mv (.t 0))<|
 qo 9 (.len (.t 8))<|
 qo 10 (.mv (I 0))<|
 .nil)
 (.block 0 (.loop [9,8,1] [10,5] j92_1)))
 j92_2)))
theorem c92:fnIs Try.prog qall 92=some (j92.flat,[.tmp 4],36):=by kernel_rfl
theorem w92:j92.wf 36=true:=by kernel_rfl
def j48:JC:=
 (.seq (.ops<|
 eo 3 (.box 59 (.t 1))<|
 qo 4 (.mv (I 0))<|
 .nil)
 (.seq (.seq (.ops<|
 eo 5 (.load 3 true (.t 3))<|
 eo 6 (.call 89 [(.t 5)])<|
 qo 7 (.nt (.t 6))<|
 .nil)
 (.cond (.t 7)
 (.seq (.ops<|
 qo 4 (.mv (I 1))<|
 .nil)
 .ret)
 .skip))
 (.seq (.seq (.ops<|
 qo 8 (.mv (.t 0))<|
 .prune [3,8,0]<|
 qo 9 (.fa 1 1 (.t 3))<|
 eo 10 (.load 1 false (.t 9))<|
 eo 11 (.call 90 [(.t 8),(.t 10)])<|
 qo 12 (.nt (.t 11))<|
 .prune [12,0,3]<|
 qo 13 (.mv (.t 12))<|
 .sc true 18 13 (qo 14 (.mv (.t 0))<|
 qo 15 (.fa 1 1 (.t 3))<|
 eo 16 (.load 1 false (.t 15))<|
 eo 17 (.call 91 [(.t 14),(I 6),(.t 16)])<|
 .nil) (.t 17)<|
 .nil)
 (.prune [18,3,0] (.cond (.t 18)
 (.seq (.ops<|
 qo 4 (.mv (I 11))<|
 .nil)
 .ret)
 .skip)))
 (.prune [3,0] (.seq (.seq (.ops<|
 qo 19 (.fa 0 0 (.t 3))<|
 eo 20 (.load 1 false (.t 19))<|
 .nil)
 (.block 0 (.seq (.ops<|
 qo 22 (.cmp .eql (.t 20) (I 3))<|
 qo 21 (.mv (.t 22))<|
 .nil)
 (.cond (.t 21)
 (.seq (.ops<|
 qo 23 (.mv (.t 0))<|
 .prune [3,23]<|
 qo 24 (.fa 2 2 (.t 3))<|
 eo 25 (.load 1 false (.t 24))<|
 eo 26 (.call 92 [(.t 23),(.t 25)])<|
 qo 27 (.cmp .geq (.t 26) (I 0))<|
 .nil)
 (.prune [27] (.cond (.t 27)
 (.seq (.ops<|
 qo 4 (.mv (I 9))<|
 .nil)
 .ret)
 .skip)))
 (.seq (.ops<|
 qo 29 (.cmp .eql (.t 20) (I 4))<|
 qo 28 (.mv (.t 29))<|
 .nil)
 (.cond (.t 28)
 (.seq (.dops<|
 .prune [0,3]<|
 qo 30 (.mv (.t 0))<|
 qo 31 (.fa 2 2 (.t 3))<|
 eo 32 (.load 1 false (.t 31))<|
 eo 33 (.qcall 92 [(.t 30),(.t 32)])<|
 qo 34 (.fa 1 1 (.t 3))<|
 eo 35 (.load 1 false (.t 34))<|
 qo 36 (.cmp .neq (.t 33) (.t 35))<|
 .nil)
 (.prune [36] (.cond (.t 36)
 (.seq (.ops<|
 qo 4 (.mv (I 10))<|
 .nil)
 .ret)
 .skip)))
 (.seq (.ops<|
 qo 38 (.cmp .eql (.t 20) (I 5))<|
 qo 37 (.mv (.t 38))<|
 .nil)
 (.prune [37,0,3,20] (.cond (.t 37)
 (.seq (.ops<|
 qo 39 (.mv (.t 0))<|
 qo 40 (.fa 2 2 (.t 3))<|
 eo 41 (.load 1 false (.t 40))<|
 eo 42 (.call 90 [(.t 39),(.t 41)])<|
 .nil)
 (.cond (.t 42)
 (.seq (.ops<|
 qo 4 (.mv (I 8))<|
 .nil)
 .ret)
 .skip))
 (.seq (.ops<|
 qo 44 (.cmp .eql (.t 20) (I 6))<|
 qo 43 (.mv (.t 44))<|
 .nil)
 (.cond (.t 43)
 (.seq (.ops<|
 qo 45 (.mv (.t 0))<|
 .prune [3,45]<|
 qo 46 (.fa 2 2 (.t 3))<|
 eo 47 (.load 1 false (.t 46))<|
 eo 48 (.call 90 [(.t 45),(.t 47)])<|
 qo 49 (.nt (.t 48))<|
 qo 50 (.mv (.t 49))<|
 .prune [50,3]<|
 .sc true 56 50 (qo 51 (.fa 2 2 (.t 3))<|
 eo 52 (.load 1 false (.t 51))<|
 qo 53 (.fa 1 1 (.t 3))<|
 eo 54 (.load 1 false (.t 53))<|
 qo 55 (.cmp .eql (.t 52) (.t 54))<|
 .nil) (.t 55)<|
 .nil)
 (.prune [56] (.cond (.t 56)
 (.seq (.ops<|
 qo 4 (.mv (I 7))<|
 .nil)
 .ret)
 .skip)))
 .skip)))))))))))
 (.prune [] (.seq (.ops<|
 qo 4 (.mv (I 0))<|
 .nil)
 .ret)))))))
theorem c48:fnIs Try.prog qall 48=some (j48.flat,[.tmp 4],57):=by kernel_rfl
theorem w48:j48.wf 57=true:=by kernel_rfl
def j25_1:JC:=
 (.seq (.ops<|
 qo 13 (.cmp .lss (.t 12) (.t 11))<|
 .nil)
 (.seq (.cond (.t 13)
 .skip
 (.exit 0))
 (.seq (.block 1 (.seq (.ops<|
 qo 14 (.mv (.t 12))<|
 qo 15 (.is 3 (.t 10) (.t 12))<|
 eo 16 (.load 3 true (.t 15))<|
 eo 5 (.alloc 59 (.agg [(.int .i64 0),(.int .i64 0),(.int .i64 0)]))<|
 qo 4 (.mv (.t 14))<|
 en (.store 3 (.t 5) (.t 16))<|
 .nil)
 (.prune [0,4,5,12,11,10] (.seq (.dops<|
 qo 17 (.mv (.t 0))<|
 qo 18 (.mv (.t 4))<|
 qo 19 (.slc 3 (.t 17) none (some (.t 18)) none)<|
 eo 20 (.load 3 true (.t 5))<|
 eo 21 (.qcall 48 [(.t 19),(.t 20)])<|
 qo 6 (.mv (.t 21))<|
 .nil)
 (.prune [6,4,12,11,10,0] (.seq (.ops<|
 qo 22 (.mv (.t 6))<|
 qo 23 (.cmp .neq (.t 22) (I 0))<|
 .nil)
 (.cond (.t 23)
 (.seq (.ops<|
 .prune [4,6]<|
 qo 24 (.mv (.t 4))<|
 qo 25 (.mv (.t 6))<|
 qo 2 (.mv (.t 24))<|
 qo 3 (.mv (.t 25))<|
 .nil)
 .ret)
 .skip)))))))
 (.prune [12,11,10,0] (.ops<|
 qo 26 (.ar .add (.t 12) (I 1))<|
 qo 12 (.mv (.t 26))<|
 .nil)))))
def j25_2:JC:=
 (.prune [] (.seq (.ops<|
 qo 2 (.mv (I 0))<|
 qo 3 (.mv (I 0))<|
 .nil)
 .ret))
def j25:JC:=
 (.seq (.ops<|
 qo 2 (.mv (I 0))<|
 qo 3 (.mv (I 0))<|
 .nil)
 (.seq (.seq (.ops<|
 qo 7 (.mv (.t 0))<|
 qo 8 (.len (.t 7))<|
 qo 9 (.cmp .gtr (.t 8) (I 80))<|
 .nil)
 (.cond (.t 9)
 (.seq (.ops<|
 qo 2 (.mv (I 0))<|
 qo 3 (.mv (I 2))<|
 .nil)
 .ret)
 .skip))
 (.seq (.seq (.ops<|
 .prune [0]<|
 qo 10 (.mv (.t 0))<|
 qo 11 (.len (.t 10))<|
 qo 12 (.mv (I 0))<|
 .nil)
 (.prune [12,11,10,0] (.block 0 (.loop [11,10,0] [12] j25_1))))
 j25_2)))
theorem c25:fnIs Try.prog qall 25=some (j25.flat,[.tmp 2, .tmp 3],27):=by kernel_rfl
theorem w25:j25.wf 27=true:=by kernel_rfl
def j7:JC:=
 (.seq (.ops<|
 qo 2 (.mv (I 0))<|
 .nil)
 (.seq (.ops<|
 qo 6 (.mv (.t 0))<|
 eo 7 (.call 25 [(.t 6)])<|
 qo 5 (.mv (.t 7))<|
 qo 8 (.ext 0 (.t 5))<|
 qo 9 (.ext 1 (.t 5))<|
 qo 3 (.mv (.t 8))<|
 qo 4 (.mv (.t 9))<|
 .nil)
 (.seq (.ops<|
 qo 10 (.mv (.t 4))<|
 qo 2 (.mv (.t 10))<|
 .nil)
 .ret)))
theorem c7:fnIs Try.prog qall 7=some (j7.flat,[.tmp 2],11):=by kernel_rfl
theorem w7:j7.wf 11=true:=by kernel_rfl
def outB (n lo hi:Int):Bool:=decide (n<lo)||decide (hi<n)
theorem f_outside (n lo hi:Int):FnOK Try.prog main Fz 115 [.int .i64 n, .int .i64 lo, .int .i64 hi] [] (.bool (outB n lo hi)) []:=by
 refine fn_walkF c115 w115 FH.none_ok rfl ?_
 unfold j115
 simp only [go_sem,seval]
 rfl
def Go (f:FuncId) (a:List SV) (m:List Res):Sx.Call:=(FH.rd 115 (.three .int .int .int) (.one .bool) (fun _=>True) (fun y=>outB y.1 y.2.1 y.2.2.1) FH.none) f a m
theorem Go_eq (f:FuncId) (a:List SV) (m:List Res):Go f a m=(FH.rd 115 (.three .int .int .int) (.one .bool) (fun _=>True) (fun y=>outB y.1 y.2.1 y.2.2.1) FH.none) f a m:=nr rfl
theorem Go_ok:FHOK Try.prog main Fz Go:=FH.rd_ok (by kernel_rfl) (fun y _=>f_outside y.1 y.2.1 y.2.2.1) FH.none_ok
theorem f_RIsEvent (e:Ev):FnOK Try.prog main Fz 89 [dEv.emb e] [] (.bool (isEv e)) []:=by
 refine fn_walkF c89 w89 Go_ok rfl ?_
 unfold j89
 simp only [go_sem,seval,Go_eq]
 have k1:outB e.kind 1 8=false↔1≤e.kind∧e.kind≤8:=by simp [outB]
 have k2:outB e.thr 0 5=false↔0≤e.thr∧e.thr≤5:=by simp [outB]
 refine ⟨fun h=> ?_,fun h=> ?_⟩
 ·symm
  rw [← Bool.not_eq_true,isEv_iff]
  rintro ⟨b1,b2,b3,b4⟩
  have h2:outB e.thr 0 5=false:=k2.2 (by omega)
  have h1:outB e.kind 1 8=false:=by
   refine k1.2 ?_
   unfold many at b4
   split at b4
   ·omega
   ·split at b4
    ·omega
    ·split at b4
     ·omega
     ·split at b4<;>omega
  rw [h1,h2] at h
  cases h
 ·simp only [Bool.or_eq_false_iff] at h
  obtain ⟨c1,c2⟩:=k1.1 h.1
  obtain ⟨c3,c4⟩:=k2.1 h.2
  have hw:IntKind.i64.wrap (e.kind - 1)=e.kind - 1:=IntWalk.i64_in _ (by omega)
  rw [hw]
  refine ⟨⟨by omega,by omega⟩,?_⟩
  have hm:many e.kind=([7,7,4,4,5,5,3,3]:List Int).getD (e.kind - 1).toNat 0+1:=by
   rcases (show e.kind=1∨e.kind=2∨e.kind=3∨e.kind=4∨e.kind=5∨e.kind=6∨e.kind=7∨e.kind=8 by omega) with h|h|h|h|h|h|h|h<;>rw [h]<;>rfl
  generalize ([7,7,4,4,5,5,3,3]:List Int).getD (e.kind - 1).toNat 0=b at hm ⊢
  rw [Bool.eq_iff_iff,isEv_iff]
  simp only [outB,Bool.not_eq_true',Bool.or_eq_false_iff,decide_eq_false_iff_not]
  omega
def didB (l:List Ev) (k o:Int):Bool:=l.any fun e=>decide (e.kind=k)&&decide (e.obj=o)
theorem f_did (l:List Ev) (k o:Int):FnOK Try.prog main Fz 91 [(DT.list 3 dEv).emb l, .int .i64 k, .int .i64 o] [] (.bool (didB l k o)) []:=by
 refine fn_len fun hB=>fn_walkF c91 w91 FH.none_ok rfl ?_
 simp only [go_sem,seval] at hB
 unfold j91
 simp only [go_sem,seval]
 refine loopF Nat (fun i=>[.int .i64 i]) (fun i=>[]) (fun i=>i≤l.length∧didB (l.take i) k o=false) (fun i=>l.length - i) 0 ⟨by omega,by simp [didB]⟩ ?_ rfl ?_
 ·simp only [go_sem,seval]
 ·intro i hi
  unfold j91_1
  simp only [go_sem,seval]
  refine ⟨fun h1=> ?_,fun h1=> ?_⟩
  ·have hil:i<l.length:=by omega
   have hd:didB (l.take (i+1)) k o=(didB (l.take i) k o||(decide ((l.getD i dEv.dft).kind=k)&&decide ((l.getD i dEv.dft).obj=o))):=by
    simp only [didB,take_getD dEv.dft hil,List.any_append,List.any_cons,List.any_nil,Bool.or_false]
   refine ⟨by omega,fun h2=> ?_,fun h2=>⟨i+1,⟨by omega,?_⟩,by omega,IntWalk.i64_in _ (by omega)⟩⟩
   ·symm
    rw [didB,List.any_eq_true]
    exact ⟨l.getD i dEv.dft,getD_mem hil,h2⟩
   ·rw [hd,hi.2,h2];rfl
  ·have hil:i=l.length:=by omega
   subst hil
   have:=hi.2
   rw [List.take_length] at this
   rw [this]
   unfold j91_2
   simp only [go_sem,seval]
def begB (l:List Ev) (t:Int):Bool:=decide (t=0)||didB l 5 t
def Gd (f:FuncId) (a:List SV) (m:List Res):Sx.Call:=(FH.rd 91 (.three (DT.list 3 dEv) .int .int) (.one .bool) (fun _=>True) (fun y=>didB y.1 y.2.1 y.2.2.1) FH.none) f a m
theorem Gd_eq (f:FuncId) (a:List SV) (m:List Res):Gd f a m=(FH.rd 91 (.three (DT.list 3 dEv) .int .int) (.one .bool) (fun _=>True) (fun y=>didB y.1 y.2.1 y.2.2.1) FH.none) f a m:=nr rfl
theorem Gd_ok:FHOK Try.prog main Fz Gd:=FH.rd_ok (by kernel_rfl) (fun y _=>f_did y.1 y.2.1 y.2.2.1) FH.none_ok
theorem f_begun (l:List Ev) (t:Int):FnOK Try.prog main Fz 90 [(DT.list 3 dEv).emb l, .int .i64 t] [] (.bool (begB l t)) []:=by
 refine fn_walkF c90 w90 Gd_ok rfl ?_
 unfold j90
 simp only [go_sem,seval,Gd_eq]
 rfl
def ownS (k:Int) (who:Int) (e:Ev):Int:=if e.obj=k∧e.kind=4 then -1 else if e.obj=k∧e.kind=3 then e.thr else who
def ownR (l:List Ev) (k:Int):Int:=l.foldl (ownS k) (-1)
theorem f_owner (l:List Ev) (k:Int):FnOK Try.prog main Fz 92 [(DT.list 3 dEv).emb l, .int .i64 k] [] (.int .i64 (Tr.ownR l k)) []:=by
 refine fn_len fun hB=>fn_walkF c92 w92 FH.none_ok rfl ?_
 simp only [go_sem,seval] at hB
 unfold j92
 simp only [go_sem,seval]
 refine loopF Nat (fun i=>[.int .i64 i, .int .i64 (Tr.ownR (l.take i) k)]) (fun i=>[]) (fun i=>i≤l.length) (fun i=>l.length - i) 0 (by omega) ?_ rfl ?_
 ·simp only [go_sem,seval]
  rfl
 ·intro i hi
  unfold j92_1
  simp only [go_sem,seval]
  refine ⟨fun h1=> ?_,fun h1=> ?_⟩
  ·have hil:i<l.length:=by omega
   have ho:Tr.ownR (l.take (i+1)) k=ownS k (Tr.ownR (l.take i) k) (l.getD i dEv.dft):=by
    simp only [Tr.ownR,take_getD dEv.dft hil,List.foldl_append,List.foldl_cons,List.foldl_nil]
   have hw:IntKind.i64.wrap ((i:Int)+1)=((i+1:Nat):Int):=IntWalk.i64_in _ (by omega)
   simp only [Bool.and_eq_true,decide_eq_true_eq,Bool.and_eq_false_iff,decide_eq_false_iff_not]
   refine ⟨by omega,fun h2=>⟨fun h3=> ?_,fun h3=>⟨i+1,by omega,by omega,hw,?_⟩⟩,fun h2=>⟨fun h3=>⟨i+1,by omega,by omega,hw,?_⟩,fun h3=>⟨i+1,by omega,by omega,hw,?_⟩⟩⟩
   ·omega
   ·rw [ho,ownS,if_neg (by omega),if_pos (by omega)]
   ·rw [ho,ownS,if_pos (by omega)]
   ·rw [ho,ownS,if_neg (by omega),if_neg (by omega)]
  ·have hil:i=l.length:=by omega
   subst hil
   rw [List.take_length]
   unfold j92_2
   simp only [go_sem,seval]
def wrongR (l:List Ev) (e:Ev):Int:=
 if isEv e=false then 1 else
 if (!begB l e.thr||didB l 6 e.thr)=true then 11 else
 if e.kind=3 then (if 0≤Tr.ownR l e.obj then 9 else 0) else
 if e.kind=4 then (if Tr.ownR l e.obj≠e.thr then 10 else 0) else
 if e.kind=5 then (if begB l e.obj=true then 8 else 0) else
 if e.kind=6 then (if (!begB l e.obj||decide (e.obj=e.thr))=true then 7 else 0) else 0
def Gw (f:FuncId) (a:List SV) (m:List Res):Sx.Call:=(FH.rd 89 (.one dEv) (.one .bool) (fun _=>True) (fun y=>isEv y.1)<|FH.rd 90 (.two dEs .int) (.one .bool) (fun _=>True) (fun y=>begB y.1 y.2.1)<|
 FH.rd 91 (.three dEs .int .int) (.one .bool) (fun _=>True) (fun y=>didB y.1 y.2.1 y.2.2.1)<|FH.rd 92 (.two dEs .int) (.one .int) (fun _=>True) (fun y=>Tr.ownR y.1 y.2.1) FH.none) f a m
theorem Gw_eq (f:FuncId) (a:List SV) (m:List Res):Gw f a m=(FH.rd 89 (.one dEv) (.one .bool) (fun _=>True) (fun y=>isEv y.1)<|FH.rd 90 (.two dEs .int) (.one .bool) (fun _=>True) (fun y=>begB y.1 y.2.1)<|
 FH.rd 91 (.three dEs .int .int) (.one .bool) (fun _=>True) (fun y=>didB y.1 y.2.1 y.2.2.1)<|FH.rd 92 (.two dEs .int) (.one .int) (fun _=>True) (fun y=>Tr.ownR y.1 y.2.1) FH.none) f a m:=nr rfl
theorem Gw_ok:FHOK Try.prog main Fz Gw:=FH.rd_ok (by kernel_rfl) (fun y _=>f_RIsEvent y.1)<|FH.rd_ok (by kernel_rfl) (fun y _=>f_begun y.1 y.2.1)<|
 FH.rd_ok (by kernel_rfl) (fun y _=>f_did y.1 y.2.1 y.2.2.1)<|FH.rd_ok (by kernel_rfl) (fun y _=>f_owner y.1 y.2.1) FH.none_ok
theorem f_Wrong (l:List Ev) (e:Ev):FnOK Try.prog main Fz 48 [dEs.emb l,dEv.emb e] [] (.int .i64 (wrongR l e)) []:=by
 refine fn_walkF c48 w48 Gw_ok rfl ?_
 unfold j48
 simp only [go_sem,seval,Gw_eq]
 refine ⟨fun h1=> ?_,fun h1=>⟨fun h2=> ?_,fun h2=>⟨fun h3=>⟨fun h=> ?_,fun h=> ?_⟩,fun h3=>⟨fun h4=>⟨fun h=> ?_,fun h=> ?_⟩,fun h4=>⟨fun h5=>⟨fun h=> ?_,fun h=> ?_⟩,fun h5=>⟨fun h6=>⟨fun h=> ?_,fun h=> ?_⟩,fun h6=> ?_⟩⟩⟩⟩⟩⟩
 all_goals (unfold wrongR;simp only [*,reduceIte,Bool.true_eq_false,Bool.false_eq_true,ne_eq,not_true_eq_false,not_false_eq_true,Int.reduceEq])
def checkL (l:List Ev):List Ev→Nat→Int×Int
 |[],_=>(0,0)
 |e::r,i=>if wrongR (l.take i) e=0 then checkL l r (i+1) else (i,wrongR (l.take i) e)
def checkR (l:List Ev):Int×Int:=if 80<l.length then (0,2) else checkL l l 0
def Gk (f:FuncId) (a:List SV) (m:List Res):Sx.Call:=(FH.rd 48 (.two dEs dEv) (.one .int) (fun _=>True) (fun y=>wrongR y.1 y.2.1) FH.none) f a m
theorem Gk_eq (f:FuncId) (a:List SV) (m:List Res):Gk f a m=(FH.rd 48 (.two dEs dEv) (.one .int) (fun _=>True) (fun y=>wrongR y.1 y.2.1) FH.none) f a m:=nr rfl
theorem Gk_ok:FHOK Try.prog main Fz Gk:=FH.rd_ok (by kernel_rfl) (fun y _=>f_Wrong y.1 y.2.1) FH.none_ok
theorem f_RCheck (l:List Ev):FnOK Try.prog main Fz 25 [dEs.emb l] [] (.tup [.int .i64 (checkR l).1, .int .i64 (checkR l).2]) []:=by
 refine fn_len fun hB=>fn_walkF c25 w25 Gk_ok rfl ?_
 simp only [go_sem,seval] at hB
 unfold j25
 simp only [go_sem,seval,Gk_eq]
 refine ⟨fun h=>by rw [checkR,if_pos (by omega)],fun h=> ?_⟩
 have h80:¬ 80<l.length:=by omega
 have hr:checkR l=checkL l l 0:=if_neg h80
 refine loopF Nat (fun i=>[.int .i64 i]) (fun i=>[]) (fun i=>i≤l.length∧checkR l=checkL l (l.drop i) i) (fun i=>l.length - i) 0 ⟨by omega,by rw [hr,List.drop_zero]⟩ ?_ rfl ?_
 ·simp only [go_sem,seval]
 ·intro i hi
  unfold j25_1
  simp only [go_sem,seval,Gk_eq]
  refine ⟨fun h1=> ?_,fun h1=> ?_⟩
  ·have hil:i<l.length:=by omega
   have hp:=hi.2
   rw [drop_getD dEv.dft hil] at hp
   simp only [checkL] at hp
   refine ⟨by omega,by omega,by omega,fun h2=> ?_,fun h2=>⟨i+1,⟨by omega,?_⟩,by omega,IntWalk.i64_in _ (by omega)⟩⟩
   ·rw [if_neg h2] at hp
    rw [hp]
   ·rw [if_pos h2] at hp
    exact hp
  ·have hil:i=l.length:=by omega
   subst hil
   have hp:=hi.2
   rw [List.drop_length] at hp
   simp only [checkL] at hp
   rw [hp]
   unfold j25_2
   simp only [go_sem,seval]
def GK (f:FuncId) (a:List SV) (m:List Res):Sx.Call:=(FH.rd 25 (.one dEs) (.two .int .int) (fun _=>True) (fun y=>checkR y.1) FH.none) f a m
theorem GK_eq (f:FuncId) (a:List SV) (m:List Res):GK f a m=(FH.rd 25 (.one dEs) (.two .int .int) (fun _=>True) (fun y=>checkR y.1) FH.none) f a m:=nr rfl
theorem GK_ok:FHOK Try.prog main Fz GK:=FH.rd_ok (by kernel_rfl) (fun y _=>f_RCheck y.1) FH.none_ok
theorem f_May (l:List Ev):FnOK Try.prog main Fz 7 [dEs.emb l] [] (.int .i64 (checkR l).2) []:=by
 refine fn_walkF c7 w7 GK_ok rfl ?_
 unfold j7
 simp only [go_sem,seval,GK_eq]
theorem didB_snoc (p:List Ev) (e:Ev) (k o:Int):didB (p++[e]) k o=(didB p k o||(decide (e.kind=k)&&decide (e.obj=o))):=by
 simp [didB]
theorem begB_snoc (p:List Ev) (e:Ev) (t:Int):begB (p++[e]) t=(begB p t||(decide (e.kind=5)&&decide (e.obj=t))):=by
 simp only [begB,didB_snoc,Bool.or_assoc]
theorem ownR_snoc (p:List Ev) (e:Ev) (k:Int):Tr.ownR (p++[e]) k=ownS k (Tr.ownR p k) e:=by
 simp [Tr.ownR]
structure Agr (w:Wd) (p:List Ev):Prop where
 beg:∀ k:Nat,k<6→w.begun k=begB p k
 ovr:∀ k:Nat,k<6→w.over k=didB p 6 k
 own:∀ k:Nat,k<5→w.owner k=Tr.ownR p k+1∧ -1≤Tr.ownR p k
theorem agr_first:Agr firstW []:=by
 refine ⟨fun k hk=> ?_,fun k hk=>rfl,fun k hk=>⟨rfl,by show (-1:Int)≤ -1;decide⟩⟩
 by_cases h:k=0
 ·subst h;rfl
 ·simp [firstW,upd,begB,didB,h]
theorem agr_step {w:Wd} {p:List Ev} (h:Agr w p) (e:Ev):(takeE w e).2=wrongR p e∧((takeE w e).2=0→Agr (takeE w e).1 (p++[e])):=by
 unfold takeE wrongR
 by_cases h1:isEv e=false
 ·simp [h1]
 rw [if_neg h1,if_neg h1]
 obtain ⟨b1,b2,b3,b4⟩:=(isEv_iff e).1 (by simpa using h1)
 have et:((e.thr.toNat:Nat):Int)=e.thr:=by omega
 have eo:((e.obj.toNat:Nat):Int)=e.obj:=by omega
 rw [h.beg e.thr.toNat (by omega),h.ovr e.thr.toNat (by omega),et]
 by_cases h2:(!begB p e.thr||didB p 6 e.thr)=true
 ·simp [h2]
 rw [if_neg h2,if_neg h2]
 have oth:e.kind≠3→e.kind≠4→e.kind≠5→e.kind≠6→Agr w (p++[e]):=by
  intro k3 k4 k5 k6
  refine ⟨fun k hk=> ?_,fun k hk=> ?_,fun k hk=> ?_⟩
  ·rw [begB_snoc,h.beg k hk];simp [k5]
  ·rw [didB_snoc,h.ovr k hk];simp [k6]
  ·rw [ownR_snoc];simp only [ownS,k3,k4,and_false,if_false];exact h.own k hk
 by_cases k3:e.kind=3
 ·have b5:e.obj<5:=by simpa [many,k3] using b4
  have ho:=h.own e.obj.toNat (by omega)
  rw [eo] at ho
  simp only [k3,if_true]
  by_cases h3:0≤Tr.ownR p e.obj
  ·rw [if_pos (by omega),if_pos h3];simp
  ·rw [if_neg (by omega),if_neg h3]
   refine ⟨rfl,fun _=>⟨fun k hk=> ?_,fun k hk=> ?_,fun k hk=> ?_⟩⟩
   ·rw [begB_snoc,← h.beg k hk];simp [k3]
   ·rw [didB_snoc,← h.ovr k hk];simp [k3]
   ·rw [ownR_snoc]
    have hk':=h.own k hk
    simp only [upd,ownS,k3,and_true]
    by_cases hko:k=e.obj.toNat
    ·have:e.obj=(k:Int):=by omega
     simp [hko,this.symm,eo];omega
    ·have:¬ e.obj=(k:Int):=by omega
     simp [hko,this];exact hk'
 by_cases k4:e.kind=4
 ·have b5:e.obj<5:=by simpa [many,k4] using b4
  have ho:=h.own e.obj.toNat (by omega)
  rw [eo] at ho
  rw [if_neg k3,if_pos k4,if_neg k3,if_pos k4]
  by_cases h3:Tr.ownR p e.obj=e.thr
  ·rw [if_neg (by omega),if_neg (by omega)]
   refine ⟨rfl,fun _=>⟨fun k hk=> ?_,fun k hk=> ?_,fun k hk=> ?_⟩⟩
   ·rw [begB_snoc,← h.beg k hk];simp [k4]
   ·rw [didB_snoc,← h.ovr k hk];simp [k4]
   ·rw [ownR_snoc]
    have hk':=h.own k hk
    simp only [upd,ownS,k4,and_true]
    by_cases hko:k=e.obj.toNat
    ·have:e.obj=(k:Int):=by omega
     simp [hko,this.symm,eo]
    ·have:¬ e.obj=(k:Int):=by omega
     simp [hko,this];exact hk'
  ·rw [if_pos (by omega),if_pos h3];simp
 by_cases k5:e.kind=5
 ·have b5:e.obj<6:=by simpa [many,k5] using b4
  rw [if_neg k3,if_neg k4,if_pos k5,if_neg k3,if_neg k4,if_pos k5,h.beg e.obj.toNat (by omega),eo]
  by_cases h3:begB p e.obj=true
  ·rw [if_pos h3,if_pos h3];simp
  ·rw [if_neg h3,if_neg h3]
   refine ⟨rfl,fun _=>⟨fun k hk=> ?_,fun k hk=> ?_,fun k hk=> ?_⟩⟩
   ·rw [begB_snoc,← h.beg k hk]
    simp only [upd,k5,decide_true,Bool.true_and]
    by_cases hko:k=e.obj.toNat
    ·have:e.obj=(k:Int):=by omega
     simp [hko,eo]
    ·have:¬ e.obj=(k:Int):=by omega
     simp [hko,this]
   ·rw [didB_snoc,← h.ovr k hk];simp [k5]
   ·rw [ownR_snoc];simp only [ownS,k5];simpa using h.own k hk
 by_cases k6:e.kind=6
 ·have b5:e.obj<6:=by simpa [many,k6] using b4
  rw [if_neg k3,if_neg k4,if_neg k5,if_pos k6,if_neg k3,if_neg k4,if_neg k5,if_pos k6,h.beg e.obj.toNat (by omega),eo]
  by_cases h3:(!begB p e.obj||decide (e.obj=e.thr))=true
  ·rw [if_pos h3,if_pos h3];simp
  ·rw [if_neg h3,if_neg h3]
   refine ⟨rfl,fun _=>⟨fun k hk=> ?_,fun k hk=> ?_,fun k hk=> ?_⟩⟩
   ·rw [begB_snoc,← h.beg k hk];simp [k6]
   ·rw [didB_snoc,← h.ovr k hk]
    simp only [upd,k6,decide_true,Bool.true_and]
    by_cases hko:k=e.obj.toNat
    ·have:e.obj=(k:Int):=by omega
     simp [hko,eo]
    ·have:¬ e.obj=(k:Int):=by omega
     simp [hko,this]
   ·rw [ownR_snoc];simp only [ownS,k6];simpa using h.own k hk
 rw [if_neg k3,if_neg k4,if_neg k5,if_neg k6,if_neg k3,if_neg k4,if_neg k5,if_neg k6]
 exact ⟨rfl,fun _=>oth k3 k4 k5 k6⟩
theorem play_check (l:List Ev):∀ (r p:List Ev) (w:Wd),l=p++r→Agr w p→(playL r p.length w).2=checkL l r p.length∧((playL r p.length w).2.2=0→Agr (playL r p.length w).1 l)
 |[],p,w,hl,h=>by
  simp only [List.append_nil] at hl
  subst hl
  exact ⟨rfl,fun _=>h⟩
 |e::r,p,w,hl,h=>by
  obtain ⟨h1,h2⟩:=agr_step h e
  have ht:l.take p.length=p:=by rw [hl];simp
  simp only [playL,checkL]
  rw [ht,← h1]
  by_cases h3:(takeE w e).2=0
  ·rw [if_pos h3,if_pos h3]
   have:=play_check l r (p++[e]) (takeE w e).1 (by rw [hl];simp) (h2 h3)
   simpa using this
  ·rw [if_neg h3,if_neg h3]
   exact ⟨rfl,fun h=>absurd h h3⟩
theorem played_check (l:List Ev):(playedF l).2=checkR l:=by
 unfold playedF checkR
 split
 ·rfl
 ·exact (play_check l l [] firstW rfl agr_first).1
theorem ok_len {l:List Ev} (h:(checkR l).2=0):l.length≤80:=by
 rcases Nat.lt_or_ge 80 l.length with h1|h1
 ·rw [checkR,if_pos h1] at h;cases h
 ·exact h1
theorem err_same {l:List Ev}:(playedF l).2.2=(checkR l).2:=by rw [played_check]
theorem ok_at {l:List Ev}:∀ (r:List Ev) (i:Nat),l.drop i=r→(checkL l r i).2=0→∀ j,i≤j→j<l.length→wrongR (l.take j) (l.getD j dEv.dft)=0
 |[],i,hr,_,j,h1,h2=>by
  have:=congrArg List.length hr
  simp at this;omega
 |e::r,i,hr,h,j,h1,h2=>by
  have hd:=drop_getD dEv.dft (show i<l.length by omega)
  rw [hr] at hd
  obtain ⟨rfl,hr'⟩:=List.cons.inj hd
  simp only [checkL] at h
  by_cases hw:wrongR (l.take i) (l.getD i dEv.dft)=0
  ·rw [if_pos hw] at h
   rcases Nat.eq_or_lt_of_le h1 with rfl|h3
   ·exact hw
   ·exact ok_at r (i+1) hr'.symm h j h3 h2
  ·rw [if_neg hw] at h
   exact absurd h hw
theorem ok_all {l:List Ev} (h:(checkR l).2=0) (j:Nat) (hj:j<l.length):wrongR (l.take j) (l.getD j dEv.dft)=0:=by
 have h8:=ok_len h
 rw [checkR,if_neg (by omega)] at h
 exact ok_at l 0 rfl h j (Nat.zero_le _) hj
theorem ok_isEv {l:List Ev} (h:(checkR l).2=0) (j:Nat) (hj:j<l.length):isEv (l.getD j dEv.dft)=true:=by
 have:=ok_all h j hj
 unfold wrongR at this
 split at this
 ·cases this
 ·rename_i h;simpa using h
end Go.Proofs.Ytpajfggdnobheaa.Tr
end
