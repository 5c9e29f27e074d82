/- A part of the proof of StripeRuns. Conditions: none. -/
import Derived.Test.YtpajfggdnobheaaClockJ
import Derived.Test.YtpajfggdnobheaaSx46
import Derived.Test.YtpajfggdnobheaaRows
import Derived.WalkKit
import Derived.Sort.LotD5
import Derived.Sort.Lot0
import Derived.Sort.LotA
import Derived.Sort.LotB
import Derived.Sort.LotC
import Derived.Sort.LotD1
set_option linter.unusedVariables false
set_option linter.unusedSimpArgs false
section
set_option maxRecDepth 100000
open Go Go.Sx Go.Proofs
namespace Go.Proofs.Ytpajfggdnobheaa.Srt
variable {main:Bool} {Fz:Nat→Prop}
open Go.Proofs.Ytpajfggdnobheaa.D
def j24:JC:=
 (.seq (.ops<|
 eo 2 (.box 32 (.t 0))<|
 eo 3 (.box 32 (.t 1))<|
 qo 4 (.mv (I 0))<|
 .nil)
 (.seq (.ops<|
 qo 5 (.fa 0 0 (.t 2))<|
 eo 6 (.load 1 false (.t 5))<|
 qo 7 (.fa 0 0 (.t 3))<|
 eo 8 (.load 1 false (.t 7))<|
 qo 9 (.ar .sub (.t 6) (.t 8))<|
 qo 4 (.mv (.t 9))<|
 .nil)
 .ret))
theorem c24:fnIs Try.prog qall 24=some (j24.flat,[.tmp 4],10):=by kernel_rfl
theorem w24:j24.wf 10=true:=by kernel_rfl
def j121:JC:=
 (.seq (.ops<|
 qo 10 (.mv (I 0))<|
 qo 11 (.mv (I 0))<|
 .nil)
 (.seq (.seq (.dops<|
 qo 12 (.mv (.t 4))<|
 qo 13 (.mv (.t 0))<|
 qo 14 (.mv (.t 2))<|
 qo 15 (.is 3 (.t 13) (.t 14))<|
 eo 16 (.load 3 true (.t 15))<|
 qo 17 (.mv (.t 0))<|
 qo 18 (.mv (.t 1))<|
 qo 19 (.is 3 (.t 17) (.t 18))<|
 .prune [19,12,16,3,2,1]<|
 eo 20 (.load 3 true (.t 19))<|
 eo 21 (.callv (.t 12) [(.t 16),(.t 20)])<|
 qo 22 (.cmp .lss (.t 21) (I 0))<|
 .nil)
 (.prune [22,3,2,1] (.cond (.t 22)
 (.seq (.ops<|
 qo 23 (.mv (.t 3))<|
 qo 24 (.nck (.t 23))<|
 eo 25 (.load 1 false (.t 24))<|
 .prune [25,23,2,1]<|
 qo 26 (.ar .add (.t 25) (I 1))<|
 qo 27 (.nck (.t 23))<|
 en (.store 1 (.t 27) (.t 26))<|
 .nil)
 (.prune [2,1] (.seq (.ops<|
 qo 28 (.mv (.t 2))<|
 qo 29 (.mv (.t 1))<|
 qo 10 (.mv (.t 28))<|
 qo 11 (.mv (.t 29))<|
 .nil)
 .ret)))
 .skip)))
 (.prune [1,2] (.seq (.ops<|
 qo 30 (.mv (.t 1))<|
 qo 31 (.mv (.t 2))<|
 qo 10 (.mv (.t 30))<|
 qo 11 (.mv (.t 31))<|
 .nil)
 .ret))))
theorem c121:fnIs Try.prog qall 121=some (j121.flat,[.tmp 10, .tmp 11],32):=by kernel_rfl
theorem w121:j121.wf 32=true:=by kernel_rfl
def j114:JC:=
 (.seq (.ops<|
 qo 12 (.mv (I 0))<|
 .nil)
 (.seq (.ops<|
 qo 14 (.mv (.t 0))<|
 qo 15 (.mv (.t 1))<|
 qo 16 (.mv (.t 2))<|
 qo 17 (.mv (.t 4))<|
 qo 18 (.mv (.t 5))<|
 eo 19 (.call 121 [(.t 14),(.t 15),(.t 16),(.t 17),(.t 18)])<|
 qo 13 (.mv (.t 19))<|
 .prune [13,0,3,4,5]<|
 qo 20 (.ext 0 (.t 13))<|
 qo 21 (.ext 1 (.t 13))<|
 qo 1 (.mv (.t 20))<|
 qo 2 (.mv (.t 21))<|
 .nil)
 (.prune [0,2,3,4,5,1] (.seq (.ops<|
 qo 23 (.mv (.t 0))<|
 qo 24 (.mv (.t 2))<|
 qo 25 (.mv (.t 3))<|
 qo 26 (.mv (.t 4))<|
 qo 27 (.mv (.t 5))<|
 eo 28 (.call 121 [(.t 23),(.t 24),(.t 25),(.t 26),(.t 27)])<|
 .prune [28,0,1,4,5]<|
 qo 22 (.mv (.t 28))<|
 qo 29 (.ext 0 (.t 22))<|
 qo 30 (.ext 1 (.t 22))<|
 qo 2 (.mv (.t 29))<|
 qo 3 (.mv (.t 30))<|
 .nil)
 (.prune [0,1,2,4,5] (.seq (.ops<|
 qo 32 (.mv (.t 0))<|
 qo 33 (.mv (.t 1))<|
 qo 34 (.mv (.t 2))<|
 .prune [4,5,32,33,34]<|
 qo 35 (.mv (.t 4))<|
 qo 36 (.mv (.t 5))<|
 eo 37 (.call 121 [(.t 32),(.t 33),(.t 34),(.t 35),(.t 36)])<|
 .prune [37]<|
 qo 31 (.mv (.t 37))<|
 qo 38 (.ext 0 (.t 31))<|
 qo 39 (.ext 1 (.t 31))<|
 qo 1 (.mv (.t 38))<|
 qo 2 (.mv (.t 39))<|
 .nil)
 (.prune [2] (.seq (.ops<|
 qo 40 (.mv (.t 2))<|
 qo 12 (.mv (.t 40))<|
 .nil)
 .ret))))))))
theorem c114:fnIs Try.prog qall 114=some (j114.flat,[.tmp 12],41):=by kernel_rfl
theorem w114:j114.wf 41=true:=by kernel_rfl
def j113:JC:=
 (.seq (.ops<|
 qo 8 (.mv (I 0))<|
 .nil)
 (.seq (.ops<|
 qo 9 (.mv (.t 0))<|
 qo 10 (.mv (.t 1))<|
 qo 11 (.ar .sub (.t 10) (I 1))<|
 qo 12 (.mv (.t 1))<|
 qo 13 (.mv (.t 1))<|
 qo 14 (.ar .add (.t 13) (I 1))<|
 qo 15 (.mv (.t 2))<|
 qo 16 (.mv (.t 3))<|
 eo 17 (.call 114 [(.t 9),(.t 11),(.t 12),(.t 14),(.t 15),(.t 16)])<|
 qo 8 (.mv (.t 17))<|
 .nil)
 .ret))
theorem c113:fnIs Try.prog qall 113=some (j113.flat,[.tmp 8],18):=by kernel_rfl
theorem w113:j113.wf 18=true:=by kernel_rfl
structure Fk where
 pos:Fin 1048576
 var:Int
 kind:Int
instance:Inhabited Fk:=⟨⟨0,0,0⟩⟩
def Fk.fl (y:Fk):Fl:=⟨y.pos.val,y.var,y.kind⟩
def toFk (f:Fl):Fk:=⟨Fin.ofNat 1048576 f.at'.toNat,f.var,f.kind⟩
theorem toFk_fl (y:Fk):toFk y.fl=y:=by
 obtain ⟨p,v,k⟩:=y
 simp only [toFk,Fk.fl,Int.toNat_natCast,Fk.mk.injEq,and_true]
 exact Fin.ext (by simp [Fin.ofNat,Nat.mod_eq_of_lt p.isLt])
theorem fl_toFk {f:Fl} (h:0≤f.at'∧f.at'<1048576):(toFk f).fl=f:=by
 obtain ⟨p,v,k⟩:=f
 simp only at h
 simp only [toFk,Fk.fl,Fl.mk.injEq,and_true]
 simp only [Fin.ofNat]
 omega
def dFk:DT Fk where
 dft:=⟨0,0,0⟩
 emb y:=dFl.emb y.fl
 decV m x:=toFk (dFl.decV m x)
 decP m x:=dFl.decP m x∧0≤(dFl.decV m x).at'∧(dFl.decV m x).at'<1048576
 ok:=fun g _ h _ hs=>by
  rw [fl_toFk h.2]
  exact dFl.ok g h.1 hs
 agg:=fun h=>dFl.agg h.1
 vE m y:=by rw [dFl.vE,toFk_fl]
 pE m y:=by
  refine ⟨dFl.pE m y.fl,?_⟩
  rw [dFl.vE]
  have:=y.pos.isLt
  simp only [Fk.fl]
  omega
 ren r y:=dFl.ren r y.fl
 kill i y:=dFl.kill i y.fl
 val y:=dFl.val y.fl
instance:Flat dFk:=⟨fun y=>(inferInstance:Flat dFl).noH y.fl⟩
def lt (a b:Fk):Bool:=decide (a.pos.val<b.pos.val)
theorem fk_emb (y:Fk):dFk.emb y= .agg [.int .i64 y.pos.val, .int .i64 y.var, .int .i64 y.kind]:=nr rfl
theorem wd_fk (y:Fk):wd (dFk.emb y)=3:=nr rfl
theorem agg_fk (y:Fk):(dFk.emb y).isAgg=true:=nr rfl
attribute [go_sem] Array.length_toList Array.size_setIfInBounds
abbrev TP:Nat:=32+1000000
abbrev mv (X:Array Fk):Res:= .vec TP 3 (X.toList.map dFk.emb)
theorem rd {X:Array Fk} {k:Nat} (h:k<X.size):(X.toList.map dFk.emb).getD k .junk=dFk.emb X[k]! :=by
 rw [List.getD,List.getElem?_map,List.getElem?_eq_getElem (by simpa using h)]
 simp [h]
theorem wr (X:Array Fk) (k:Nat) (y:Fk):(X.toList.map dFk.emb).set k (dFk.emb y)=(X.setIfInBounds k y).toList.map dFk.emb:=by
 rw [Array.toList_setIfInBounds,List.map_set]
theorem f_cmp (a b:Fk):FnOK Try.prog main Fz 24 [dFk.emb a,dFk.emb b] [] (.int .i64 ((a.pos.val:Int) - b.pos.val)) []:=by
 have h1:=a.pos.isLt
 have h2:=b.pos.isLt
 have hw:IntKind.i64.wrap ((a.pos.val:Int) - b.pos.val)=(a.pos.val:Int) - b.pos.val:=IntWalk.i64_in _ (by omega)
 refine fn_walkF c24 w24 FH.none_ok rfl ?_
 unfold j24
 simp only [go_sem,seval,fk_emb,hw]
def Gc (f:FuncId) (a:List SV) (m:List Res):Sx.Call:=(FH.rd 24 (.two dFk dFk) (.one .int) (fun _=>True) (fun y=>(y.1.pos.val:Int) - y.2.1.pos.val) FH.none) f a m
theorem Gc_eq (f:FuncId) (a:List SV) (m:List Res):Gc f a m=(FH.rd 24 (.two dFk dFk) (.one .int) (fun _=>True) (fun y=>(y.1.pos.val:Int) - y.2.1.pos.val) FH.none) f a m:=nr rfl
theorem Gc_ok:FHOK Try.prog main Fz Gc:=FH.rd_ok (by kernel_rfl) (fun y _=>f_cmp y.1 y.2.1) FH.none_ok
abbrev cF:SV:= .fn 24 []
theorem lt_cmp (a b:Fk):((a.pos.val:Int) - b.pos.val<0)=(lt a b=true):=by
 simp only [lt,decide_eq_true_eq,eq_iff_iff];omega
abbrev o2 (s:List Fk) (a b:Int) (q:Int):Nat×Nat×Nat:=Sort.order2 lt s.toArray a.toNat b.toNat q.toNat
theorem f_order2 (X:Array Fk) (a b q:Nat) (ha:a<X.size) (hb:b<X.size) (hq:q<100):
  FnOK Try.prog main Fz 121 [.vec 0 X.size, .int .i64 a, .int .i64 b, .ptr 1 [] 0,cF] [mv X, .blk 3 (.int .i64 q)]
   (.tup [.int .i64 (Sort.order2 lt X a b q).1, .int .i64 (Sort.order2 lt X a b q).2.1]) [mv X, .blk 3 (.int .i64 (Sort.order2 lt X a b q).2.2)]:=by
 refine fn_walkF c121 w121 Gc_ok rfl ?_
 have hw:IntKind.i64.wrap ((q:Int)+1)=((q+1:Nat):Int):=IntWalk.i64_in _ (by omega)
 have ha':a<X.toList.length:=by simpa using ha
 have hb':b<X.toList.length:=by simpa using hb
 unfold j121
 simp only [go_sem,seval,Gc_eq,mv,rd ha,rd hb,wd_fk,agg_fk,hw]
 refine ⟨⟨by omega,by omega⟩,hb',⟨by omega,by omega⟩,ha',fun h=> ?_,fun h=> ?_⟩
 ·rw [lt_cmp] at h
  simp only [Sort.order2,h,if_true,and_self]
 ·rw [lt_cmp] at h
  simp only [Sort.order2,h,if_false,and_self]
  exact ⟨rfl,rfl⟩
theorem o2_eq (X:Array Fk) (a b q:Nat):o2 X.toList a b q=Sort.order2 lt X a b q:=rfl
theorem o2_in {d:Array Fk} {a b:Nat} (ha:a<d.size) (hb:b<d.size) (q:Nat):(Sort.order2 lt d a b q).1<d.size∧(Sort.order2 lt d a b q).2.1<d.size∧(Sort.order2 lt d a b q).2.2≤q+1:=by
 unfold Sort.order2
 split
 ·exact ⟨hb,ha,Nat.le_refl _⟩
 ·exact ⟨ha,hb,Nat.le_succ _⟩
def o2P (s:List Fk) (y:Int×Int×Unit) (q:Int):Prop:=((0≤y.1∧y.1<s.length)∧0≤y.2.1∧y.2.1<s.length)∧0≤q∧q<100
def Go2 (f:FuncId) (a:List SV) (m:List Res):Sx.Call:=(FH.sw 121 2 TP 3 dFk 3 (.two .int .int) cF (.two .int .int) o2P (fun s y q=>(((o2 s y.1 y.2.1 q).1:Int),((o2 s y.1 y.2.1 q).2.1:Int))) (fun s y q=>((o2 s y.1 y.2.1 q).2.2:Int)) FH.none) f a m
theorem Go2_eq (f:FuncId) (a:List SV) (m:List Res):Go2 f a m=(FH.sw 121 2 TP 3 dFk 3 (.two .int .int) cF (.two .int .int) o2P (fun s y q=>(((o2 s y.1 y.2.1 q).1:Int),((o2 s y.1 y.2.1 q).2.1:Int))) (fun s y q=>((o2 s y.1 y.2.1 q).2.2:Int)) FH.none) f a m:=nr rfl
theorem nat_int {x:Int} (h:0≤x):∃ n:Nat,x=n:=⟨x.toNat,by omega⟩
theorem Go2_ok:FHOK Try.prog main Fz Go2:=FH.sw_ok (by decide) (by kernel_rfl) (fun r=>rfl) (fun s y q h=>by
 obtain ⟨y1,y2,⟨⟩⟩:=y
 obtain ⟨⟨⟨h1,h2⟩,h3,h4⟩,h5,h6⟩:=h
 simp only at h1 h2 h3 h4
 obtain ⟨a,rfl⟩:=nat_int h1
 obtain ⟨b,rfl⟩:=nat_int h3
 obtain ⟨c,rfl⟩:=nat_int h5
 have:=f_order2 (main:=main) (Fz:=Fz) s.toArray a b c (by simpa using h2) (by simpa using h4) (by omega)
 exact this) FH.none_ok
theorem f_median (X:Array Fk) (a b c q:Nat) (ha:a<X.size) (hb:b<X.size) (hc:c<X.size) (hq:q<90):
  FnOK Try.prog main Fz 114 [.vec 0 X.size, .int .i64 a, .int .i64 b, .int .i64 c, .ptr 1 [] 0,cF] [mv X, .blk 3 (.int .i64 q)]
   (.int .i64 (Sort.median lt X a b c q).1) [mv X, .blk 3 (.int .i64 (Sort.median lt X a b c q).2)]:=by
 refine fn_walkF c114 w114 Go2_ok rfl ?_
 unfold j114
 simp only [go_sem,seval,Go2_eq,mv]
 simp only [o2_eq]
 have k1:=o2_in (d:=X) ha hb q
 generalize hr1:Sort.order2 lt X a b q=r1 at k1
 have k2:=o2_in (d:=X) k1.2.1 hc r1.2.2
 generalize hr2:Sort.order2 lt X r1.2.1 c r1.2.2=r2 at k2
 refine ⟨⟨⟨⟨Int.natCast_nonneg _,by simpa using ha⟩,Int.natCast_nonneg _,by simpa using hb⟩,Int.natCast_nonneg _,by omega⟩,⟨⟨⟨Int.natCast_nonneg _,by simpa using k1.2.1⟩,Int.natCast_nonneg _,by simpa using hc⟩,Int.natCast_nonneg _,by omega⟩,⟨⟨⟨Int.natCast_nonneg _,by simpa using k1.1⟩,Int.natCast_nonneg _,by simpa using k2.1⟩,Int.natCast_nonneg _,by omega⟩,?_,?_⟩
 ·simp only [Sort.median,hr1,hr2]
 ·simp only [Sort.median,hr1,hr2]
def med (s:List Fk) (a b c q:Int):Nat×Nat:=Sort.median lt s.toArray a.toNat b.toNat c.toNat q.toNat
theorem med_eq (X:Array Fk) (a b c q:Nat):med X.toList a b c q=Sort.median lt X a b c q:=rfl
def medP (s:List Fk) (y:Int×Int×Int×Unit) (q:Int):Prop:=((0≤y.1∧y.1<s.length)∧(0≤y.2.1∧y.2.1<s.length)∧0≤y.2.2.1∧y.2.2.1<s.length)∧0≤q∧q<90
def Gmed (f:FuncId) (a:List SV) (m:List Res):Sx.Call:=(FH.sw 114 3 TP 3 dFk 3 (.three .int .int .int) cF (.one .int) medP (fun s y q=>((med s y.1 y.2.1 y.2.2.1 q).1:Int)) (fun s y q=>((med s y.1 y.2.1 y.2.2.1 q).2:Int)) FH.none) f a m
theorem Gmed_eq (f:FuncId) (a:List SV) (m:List Res):Gmed f a m=(FH.sw 114 3 TP 3 dFk 3 (.three .int .int .int) cF (.one .int) medP (fun s y q=>((med s y.1 y.2.1 y.2.2.1 q).1:Int)) (fun s y q=>((med s y.1 y.2.1 y.2.2.1 q).2:Int)) FH.none) f a m:=nr rfl
theorem Gmed_ok:FHOK Try.prog main Fz Gmed:=FH.sw_ok (by decide) (by kernel_rfl) (fun r=>rfl) (fun s y q h=>by
 obtain ⟨y1,y2,y3,⟨⟩⟩:=y
 obtain ⟨⟨⟨h1,h2⟩,⟨h3,h4⟩,h7,h8⟩,h5,h6⟩:=h
 simp only at h1 h2 h3 h4 h7 h8
 obtain ⟨a,rfl⟩:=nat_int h1
 obtain ⟨b,rfl⟩:=nat_int h3
 obtain ⟨e,rfl⟩:=nat_int h7
 obtain ⟨c,rfl⟩:=nat_int h5
 have:=f_median (main:=main) (Fz:=Fz) s.toArray a b e c (by simpa using h2) (by simpa using h4) (by simpa using h8) (by omega)
 exact this) FH.none_ok
theorem f_medianA (X:Array Fk) (a q:Nat) (ha:0<a) (hb:a+1<X.size) (hn:a<1000000) (hq:q<90):
  FnOK Try.prog main Fz 113 [.vec 0 X.size, .int .i64 a, .ptr 1 [] 0,cF] [mv X, .blk 3 (.int .i64 q)]
   (.int .i64 (Sort.medianAdjacent lt X a q).1) [mv X, .blk 3 (.int .i64 (Sort.medianAdjacent lt X a q).2)]:=by
 refine fn_walkF c113 w113 Gmed_ok rfl ?_
 have hw:IntKind.i64.wrap ((a:Int) - 1)=((a - 1:Nat):Int):=by
  rw [IntWalk.i64_in _ (by omega)];omega
 have hw2:IntKind.i64.wrap ((a:Int)+1)=((a+1:Nat):Int):=IntWalk.i64_in _ (by omega)
 unfold j113
 simp only [go_sem,seval,Gmed_eq,mv,hw,hw2,med_eq]
 refine ⟨⟨⟨⟨Int.natCast_nonneg _,?_⟩,⟨Int.natCast_nonneg _,?_⟩,Int.natCast_nonneg _,?_⟩,Int.natCast_nonneg _,by omega⟩,rfl,rfl⟩
 ·simp;omega
 ·simp;omega
 ·simp;omega
def mdA (s:List Fk) (a q:Int):Nat×Nat:=Sort.medianAdjacent lt s.toArray a.toNat q.toNat
theorem mdA_eq (X:Array Fk) (a q:Nat):mdA X.toList a q=Sort.medianAdjacent lt X a q:=rfl
def mdAP (s:List Fk) (y:Int×Unit) (q:Int):Prop:=(0<y.1∧y.1+1<s.length)∧(0≤q∧q<90)∧y.1<1000000
def Gpv (f:FuncId) (a:List SV) (m:List Res):Sx.Call:=(FH.sw 113 1 TP 3 dFk 3 (.one .int) cF (.one .int) mdAP (fun s y q=>((mdA s y.1 q).1:Int)) (fun s y q=>((mdA s y.1 q).2:Int))<|
 FH.sw 114 3 TP 3 dFk 3 (.three .int .int .int) cF (.one .int) medP (fun s y q=>((med s y.1 y.2.1 y.2.2.1 q).1:Int)) (fun s y q=>((med s y.1 y.2.1 y.2.2.1 q).2:Int)) FH.none) f a m
theorem Gpv_eq (f:FuncId) (a:List SV) (m:List Res):Gpv f a m=(FH.sw 113 1 TP 3 dFk 3 (.one .int) cF (.one .int) mdAP (fun s y q=>((mdA s y.1 q).1:Int)) (fun s y q=>((mdA s y.1 q).2:Int))<|
 FH.sw 114 3 TP 3 dFk 3 (.three .int .int .int) cF (.one .int) medP (fun s y q=>((med s y.1 y.2.1 y.2.2.1 q).1:Int)) (fun s y q=>((med s y.1 y.2.1 y.2.2.1 q).2:Int)) FH.none) f a m:=nr rfl
theorem Gpv_ok:FHOK Try.prog main Fz Gpv:=FH.sw_ok (by decide) (by kernel_rfl) (fun r=>rfl) (fun s y q h=>by
 obtain ⟨y1,⟨⟩⟩:=y
 obtain ⟨⟨h1,h2⟩,⟨h3,h4⟩,h5⟩:=h
 simp only at h1 h2 h5
 obtain ⟨a,rfl⟩:=nat_int (Int.le_of_lt h1)
 obtain ⟨c,rfl⟩:=nat_int h3
 have:=f_medianA (main:=main) (Fz:=Fz) s.toArray a c (by omega) (by simp;omega) (by omega) (by omega)
 exact this) Gmed_ok
end Go.Proofs.Ytpajfggdnobheaa.Srt
end
section
set_option maxRecDepth 100000
open Go Go.Sx Go.Proofs
namespace Go.Proofs.Ytpajfggdnobheaa.Srt
variable {main:Bool} {Fz:Nat→Prop}
open Go.Proofs.Ytpajfggdnobheaa.D
def j82:JC:=
 (.seq (.ops<|
 qo 8 (.mv (I 0))<|
 qo 9 (.mv (I 0))<|
 .nil)
 (.seq (.ops<|
 qo 15 (.mv (.t 2))<|
 qo 16 (.mv (.t 1))<|
 qo 17 (.ar .sub (.t 15) (.t 16))<|
 qo 10 (.mv (.t 17))<|
 .nil)
 (.seq (.ops<|
 eo 11 (.alloc 3 (.int .i64 0))<|
 .nil)
 (.seq (.ops<|
 qo 18 (.mv (.t 1))<|
 qo 19 (.mv (.t 10))<|
 qo 20 (.ar .quo (.t 19) (I 4))<|
 .prune [20,18,1,10,0,3,11]<|
 qo 21 (.ar .mul (.t 20) (I 1))<|
 qo 22 (.ar .add (.t 18) (.t 21))<|
 qo 12 (.mv (.t 22))<|
 .nil)
 (.prune [1,10,0,12,3,11] (.seq (.ops<|
 qo 23 (.mv (.t 1))<|
 qo 24 (.mv (.t 10))<|
 qo 25 (.ar .quo (.t 24) (I 4))<|
 qo 26 (.ar .mul (.t 25) (I 2))<|
 qo 27 (.ar .add (.t 23) (.t 26))<|
 qo 13 (.mv (.t 27))<|
 .nil)
 (.prune [1,10,0,12,3,11,13] (.seq (.ops<|
 qo 28 (.mv (.t 1))<|
 qo 29 (.mv (.t 10))<|
 qo 30 (.ar .quo (.t 29) (I 4))<|
 qo 31 (.ar .mul (.t 30) (I 3))<|
 qo 32 (.ar .add (.t 28) (.t 31))<|
 qo 14 (.mv (.t 32))<|
 .nil)
 (.prune [10,0,12,3,11,13,14] (.seq (.seq (.ops<|
 qo 33 (.mv (.t 10))<|
 qo 34 (.cmp .geq (.t 33) (I 8))<|
 .nil)
 (.cond (.t 34)
 (.seq (.seq (.ops<|
 qo 35 (.mv (.t 10))<|
 qo 36 (.cmp .geq (.t 35) (I 50))<|
 .nil)
 (.prune [36,0,12,3,11,13,14] (.cond (.t 36)
 (.seq (.ops<|
 qo 37 (.mv (.t 0))<|
 qo 38 (.mv (.t 12))<|
 qo 39 (.mv (.t 3))<|
 eo 40 (.call 113 [(.t 37),(.t 38),(.t 11),(.t 39)])<|
 qo 12 (.mv (.t 40))<|
 .nil)
 (.prune [0,13,3,11,14,12] (.seq (.ops<|
 qo 41 (.mv (.t 0))<|
 qo 42 (.mv (.t 13))<|
 qo 43 (.mv (.t 3))<|
 eo 44 (.call 113 [(.t 41),(.t 42),(.t 11),(.t 43)])<|
 qo 13 (.mv (.t 44))<|
 .nil)
 (.prune [0,14,3,11,12,13] (.ops<|
 qo 45 (.mv (.t 0))<|
 qo 46 (.mv (.t 14))<|
 qo 47 (.mv (.t 3))<|
 eo 48 (.call 113 [(.t 45),(.t 46),(.t 11),(.t 47)])<|
 qo 14 (.mv (.t 48))<|
 .nil)))))
 .skip)))
 (.prune [0,12,13,14,3,11] (.ops<|
 qo 49 (.mv (.t 0))<|
 qo 50 (.mv (.t 12))<|
 qo 51 (.mv (.t 13))<|
 .prune [14,3,49,50,51,11]<|
 qo 52 (.mv (.t 14))<|
 qo 53 (.mv (.t 3))<|
 eo 54 (.call 114 [(.t 49),(.t 50),(.t 51),(.t 52),(.t 11),(.t 53)])<|
 qo 13 (.mv (.t 54))<|
 .nil)))
 .skip))
 (.prune [11,13] (.seq (.ops<|
 eo 55 (.load 1 false (.t 11))<|
 .nil)
 (.block 0 (.seq (.ops<|
 qo 58 (.cmp .eql (.t 55) (I 0))<|
 qo 57 (.mv (.t 58))<|
 .nil)
 (.cond (.t 57)
 (.seq (.ops<|
 qo 59 (.mv (.t 13))<|
 qo 8 (.mv (.t 59))<|
 qo 9 (.mv (I 1))<|
 .nil)
 .ret)
 (.seq (.ops<|
 qo 61 (.cmp .eql (.t 55) (I 12))<|
 qo 60 (.mv (.t 61))<|
 .nil)
 (.cond (.t 60)
 (.seq (.ops<|
 .prune [13]<|
 qo 62 (.mv (.t 13))<|
 qo 8 (.mv (.t 62))<|
 qo 9 (.mv (I 2))<|
 .nil)
 .ret)
 (.seq (.ops<|
 .prune [13]<|
 qo 56 (.mv (.t 13))<|
 qo 8 (.mv (.t 56))<|
 qo 9 (.mv (I 0))<|
 .nil)
 .ret))))))))))))))))))
theorem c82:fnIs Try.prog qall 82=some (j82.flat,[.tmp 8, .tmp 9],63):=by kernel_rfl
theorem w82:j82.wf 63=true:=by kernel_rfl
def j83_1:JC:=
 (.seq (.seq (.ops<|
 qo 13 (.mv (.t 8))<|
 qo 14 (.mv (.t 9))<|
 qo 15 (.cmp .lss (.t 13) (.t 14))<|
 .nil)
 (.cond (.t 15)
 .skip
 (.exit 0)))
 (.block 1 (.seq (.dops<|
 qo 16 (.mv (.t 0))<|
 .prune [8,0,9,16]<|
 qo 17 (.mv (.t 8))<|
 qo 18 (.mv (.t 0))<|
 qo 19 (.mv (.t 9))<|
 qo 20 (.mv (.t 0))<|
 qo 21 (.mv (.t 9))<|
 qo 22 (.is 3 (.t 20) (.t 21))<|
 eo 23 (.load 3 true (.t 22))<|
 .prune [0,8,16,17,23,18,19,9]<|
 qo 24 (.mv (.t 0))<|
 qo 25 (.mv (.t 8))<|
 qo 26 (.is 3 (.t 24) (.t 25))<|
 eo 27 (.load 3 true (.t 26))<|
 .prune [16,17,23,18,19,27,8,9,0]<|
 qo 28 (.is 3 (.t 16) (.t 17))<|
 en (.store 3 (.t 28) (.t 23))<|
 qo 29 (.is 3 (.t 18) (.t 19))<|
 en (.store 3 (.t 29) (.t 27))<|
 .nil)
 (.prune [8,9,0] (.seq (.ops<|
 qo 30 (.mv (.t 8))<|
 qo 31 (.ar .add (.t 30) (I 1))<|
 qo 8 (.mv (.t 31))<|
 .nil)
 (.ops<|
 qo 32 (.mv (.t 9))<|
 qo 33 (.ar .sub (.t 32) (I 1))<|
 qo 9 (.mv (.t 33))<|
 .nil))))))
def j83:JC:=
 (.seq (.ops<|
 qo 10 (.mv (.t 1))<|
 qo 8 (.mv (.t 10))<|
 .nil)
 (.seq (.ops<|
 qo 11 (.mv (.t 2))<|
 qo 12 (.ar .sub (.t 11) (I 1))<|
 qo 9 (.mv (.t 12))<|
 .nil)
 (.block 0 (.loop [0] [8,9] j83_1))))
theorem c83:fnIs Try.prog qall 83=some (j83.flat,[],34):=by kernel_rfl
theorem w83:j83.wf 34=true:=by kernel_rfl
def hintI:Sort.Hint→Int
 | .unknown=>0
 | .increasing=>1
 | .decreasing=>2
theorem med_in {d:Array Fk} {a b c:Nat} (ha:a<d.size) (hb:b<d.size) (hc:c<d.size) (q:Nat):(Sort.median lt d a b c q).1<d.size∧(Sort.median lt d a b c q).2≤q+3:=by
 have k1:=o2_in (d:=d) ha hb q
 have k2:=o2_in (d:=d) k1.2.1 hc (Sort.order2 lt d a b q).2.2
 have k3:=o2_in (d:=d) k1.1 k2.1 (Sort.order2 lt d (Sort.order2 lt d a b q).2.1 c (Sort.order2 lt d a b q).2.2).2.2
 exact ⟨k3.2.1,by unfold Sort.median;simp only;omega⟩
def hintN (r:Nat×Nat):Nat×Sort.Hint:=(r.1,if r.2=0 then .increasing else if r.2=12 then .decreasing else .unknown)
theorem hint_end (r:Nat×Nat):((r.2:Int)=0→SV.tup [.int .i64 r.1, .int .i64 1]= .tup [.int .i64 (hintN r).1, .int .i64 (hintI (hintN r).2)])∧
  (¬ (r.2:Int)=0→((r.2:Int)=12→SV.tup [.int .i64 r.1, .int .i64 2]= .tup [.int .i64 (hintN r).1, .int .i64 (hintI (hintN r).2)])∧
  (¬ (r.2:Int)=12→SV.tup [.int .i64 r.1, .int .i64 0]= .tup [.int .i64 (hintN r).1, .int .i64 (hintI (hintN r).2)])):=by
 refine ⟨fun h=> ?_,fun h=>⟨fun h2=> ?_,fun h2=> ?_⟩⟩
 ·rw [hintN,if_pos (by omega)];rfl
 ·rw [hintN,if_neg (by omega),if_pos (by omega)];rfl
 ·rw [hintN,if_neg (by omega),if_neg (by omega)];rfl
theorem f_pivot (X:Array Fk) (a b:Nat) (hab:a<b) (hb:b≤X.size) (hX:X.size<1000000):
  FnOK Try.prog main Fz 82 [.vec 0 X.size, .int .i64 a, .int .i64 b,cF] [mv X]
   (.tup [.int .i64 (Sort.choosePivot lt X a b).1, .int .i64 (hintI (Sort.choosePivot lt X a b).2)]) [mv X]:=by
 refine fn_walkF c82 w82 Gpv_ok rfl ?_
 obtain ⟨l,hl⟩:∃ l:Nat,l=b - a:=⟨_,rfl⟩
 have w1:IntKind.i64.wrap ((b:Int) - a)=(l:Int):=by rw [IntWalk.i64_in _ (by omega)];omega
 have q4:(l:Int).tdiv 4=((l/4:Nat):Int):=rfl
 have wq:IntKind.i64.wrap ((l/4:Nat):Int)=((l/4:Nat):Int):=IntWalk.i64_in _ (by omega)
 obtain ⟨i,hi⟩:∃ i:Nat,i=a+l/4*1:=⟨_,rfl⟩
 obtain ⟨j,hj⟩:∃ i:Nat,i=a+l/4*2:=⟨_,rfl⟩
 obtain ⟨k,hk⟩:∃ i:Nat,i=a+l/4*3:=⟨_,rfl⟩
 have m1:IntKind.i64.wrap ((a:Int)+IntKind.i64.wrap (((l/4:Nat):Int)*1))=(i:Int):=by rw [IntWalk.i64_in ((((l/4:Nat):Int)*1)) (by omega),IntWalk.i64_in _ (by omega)];omega
 have m2:IntKind.i64.wrap ((a:Int)+IntKind.i64.wrap (((l/4:Nat):Int)*2))=(j:Int):=by rw [IntWalk.i64_in ((((l/4:Nat):Int)*2)) (by omega),IntWalk.i64_in _ (by omega)];omega
 have m3:IntKind.i64.wrap ((a:Int)+IntKind.i64.wrap (((l/4:Nat):Int)*3))=(k:Int):=by rw [IntWalk.i64_in ((((l/4:Nat):Int)*3)) (by omega),IntWalk.i64_in _ (by omega)];omega
 have z1:mdA X.toList (i:Int) 0=Sort.medianAdjacent lt X i 0:=rfl
 have z2:med X.toList (i:Int) j k 0=Sort.median lt X i j k 0:=rfl
 have p1:∀ u q:Nat,0<u→u+1<X.size→q<90→mdAP X.toList ((u:Int),()) (q:Int):=fun u q h1 h2 h3=>⟨⟨by simp only;omega,by simp only [Array.length_toList];omega⟩,⟨by omega,by omega⟩,by simp only;omega⟩
 have p2:∀ u v x q:Nat,u<X.size→v<X.size→x<X.size→q<90→medP X.toList ((u:Int),(v:Int),(x:Int),()) (q:Int):=fun u v x q h1 h2 h3 h4=>⟨⟨⟨by simp only;omega,by simp only [Array.length_toList];omega⟩,⟨by simp only;omega,by simp only [Array.length_toList];omega⟩,by simp only;omega,by simp only [Array.length_toList];omega⟩,by omega,by omega⟩
 have sw:∀ q:Nat,(∀ R:Prop,((q:Int)=0→R)↔(q=0→R))∧∀ R:Prop,((q:Int)=12→R)↔(q=12→R):=fun q=>⟨fun R=>by constructor<;>intro h e<;>exact h (by omega),fun R=>by constructor<;>intro h e<;>exact h (by omega)⟩
 by_cases h8:8≤l
 ·have h8':(8:Int)≤l:=by omega
  by_cases h50:50≤l
  ·have h50':(50:Int)≤l:=by omega
   unfold j82
   simp only [go_sem,seval,Gpv_eq,mv,w1,q4,wq,m1,m2,m3,h8',h50',z1,mdA_eq,med_eq]
   have k1:=med_in (d:=X) (a:=i - 1) (b:=i) (c:=i+1) (by omega) (by omega) (by omega) 0
   change (Sort.medianAdjacent lt X i 0).1<_∧(Sort.medianAdjacent lt X i 0).2≤_ at k1
   have hc:Sort.choosePivot lt X a b=hintN (Sort.median lt X (Sort.medianAdjacent lt X i 0).1 (Sort.medianAdjacent lt X j (Sort.medianAdjacent lt X i 0).2).1 (Sort.medianAdjacent lt X k (Sort.medianAdjacent lt X j (Sort.medianAdjacent lt X i 0).2).2).1 (Sort.medianAdjacent lt X k (Sort.medianAdjacent lt X j (Sort.medianAdjacent lt X i 0).2).2).2):=by
    unfold Sort.choosePivot hintN
    rw [← hl]
    simp only [← hi,← hj,← hk,ge_iff_le,if_pos h8,if_pos h50]
   rw [hc]
   generalize hr1:Sort.medianAdjacent lt X i 0=r1 at k1 ⊢
   have k2:=med_in (d:=X) (a:=j - 1) (b:=j) (c:=j+1) (by omega) (by omega) (by omega) r1.2
   change (Sort.medianAdjacent lt X j r1.2).1<_∧(Sort.medianAdjacent lt X j r1.2).2≤_ at k2
   generalize hr2:Sort.medianAdjacent lt X j r1.2=r2 at k2 ⊢
   have k3:=med_in (d:=X) (a:=k - 1) (b:=k) (c:=k+1) (by omega) (by omega) (by omega) r2.2
   change (Sort.medianAdjacent lt X k r2.2).1<_∧(Sort.medianAdjacent lt X k r2.2).2≤_ at k3
   generalize hr3:Sort.medianAdjacent lt X k r2.2=r3 at k3 ⊢
   exact ⟨p1 i 0 (by omega) (by omega) (by omega),p1 j _ (by omega) (by omega) (by omega),p1 k _ (by omega) (by omega) (by omega),p2 _ _ _ _ k1.1 k2.1 k3.1 (by omega),hint_end _⟩
  ·have h50':¬ (50:Int)≤l:=by omega
   unfold j82
   simp only [go_sem,seval,Gpv_eq,mv,w1,q4,wq,m1,m2,m3,h8',h50',z2]
   have hc:Sort.choosePivot lt X a b=hintN (Sort.median lt X i j k 0):=by
    unfold Sort.choosePivot hintN
    rw [← hl]
    simp only [← hi,← hj,← hk,ge_iff_le,if_pos h8,if_neg h50]
   rw [hc]
   exact ⟨p2 i j k 0 (by omega) (by omega) (by omega) (by omega),hint_end _⟩
 ·have h8':¬ (8:Int)≤l:=by omega
  unfold j82
  simp only [go_sem,seval,Gpv_eq,mv,w1,q4,wq,m1,m2,m3,h8']
  have hc:Sort.choosePivot lt X a b=hintN (j,0):=by
   unfold Sort.choosePivot hintN
   rw [← hl]
   simp only [← hi,← hj,← hk,ge_iff_le,if_neg h8]
  rw [hc]
  rfl
theorem swp_fold (X:Array Fk) (i j:Nat):(X.setIfInBounds i X[j]!).setIfInBounds j X[i]! =Sort.swp X i j:=rfl
theorem wdz {Z:Array Fk} {k:Nat} (h:k<Z.size):wd ((Z.toList.map dFk.emb).getD k .junk)=3:=by rw [rd h];rfl
theorem f_rev (X:Array Fk) (a b:Nat) (hab:a<b) (hb:b≤X.size) (hX:X.size<1000000):
  FnOK Try.prog main Fz 83 [.vec 0 X.size, .int .i64 a, .int .i64 b,cF] [mv X]
   (.tup []) [mv (Sort.reverseRange X a b)]:=by
 refine fn_walkF c83 w83 FH.none_ok rfl ?_
 have w1:IntKind.i64.wrap ((b:Int) - 1)=((b - 1:Nat):Int):=by rw [IntWalk.i64_in _ (by omega)];omega
 unfold j83
 simp only [go_sem,seval,mv,w1]
 refine loopF (Nat×Nat×Array Fk) (fun s=>[.int .i64 s.1, .int .i64 s.2.1]) (fun s=>[mv s.2.2]) (fun s=>s.2.1<b∧s.2.2.size=X.size∧Sort.reverseLoop s.1 s.2.1 s.2.2=Sort.reverseRange X a b) (fun s=>s.2.1 - s.1) (a,b - 1,X) ⟨by simp only;omega,rfl,rfl⟩ ?_ rfl ?_
 ·simp only [go_sem,seval]
 rintro ⟨i,j,Y⟩ ⟨h1,h2,h3⟩
 simp only at h1 h2 h3
 have hl:Y.toList.length=X.toList.length:=by simpa using h2
 unfold j83_1
 by_cases h:i<j
 ·have h':(i:Int)<j:=by omega
  have w2:IntKind.i64.wrap ((i:Int)+1)=((i+1:Nat):Int):=IntWalk.i64_in _ (by omega)
  have w3:IntKind.i64.wrap ((j:Int) - 1)=((j - 1:Nat):Int):=by rw [IntWalk.i64_in _ (by omega)];omega
  have hi:i<Y.size:=by omega
  have hj:j<Y.size:=by omega
  simp only [go_sem,seval,h',mv,rd hi,rd hj,wr,wd_fk,agg_fk,swp_fold,w2,w3,Array.length_toList,Array.size_setIfInBounds]
  refine ⟨⟨by omega,by omega⟩,hj,⟨by omega,by omega⟩,hi,⟨by omega,by omega⟩,hi,⟨by omega,by omega⟩,⟨hj,wdz (by simpa using hj)⟩,(i+1,j - 1,Sort.swp Y i j),⟨by simp only;omega,by simpa [Sort.swp] using h2,?_⟩,by simp only;omega,⟨rfl,rfl⟩,rfl⟩
  rw [← h3,Sort.reverseLoop.eq_def i j,if_pos h]
 ·have h':¬ (i:Int)<j:=by omega
  simp only [go_sem,seval,h',mv]
  rw [← h3,Sort.reverseLoop.eq_def i j,if_neg h]
end Go.Proofs.Ytpajfggdnobheaa.Srt
end
section
set_option maxRecDepth 100000
open Go Go.Sx Go.Proofs
namespace Go.Proofs.Ytpajfggdnobheaa.Srt
variable {main:Bool} {Fz:Nat→Prop}
open Go.Proofs.Ytpajfggdnobheaa.D
def j79_1:JC:=
 (.seq (.seq (.dops<|
 qo 18 (.mv (.t 9))<|
 qo 19 (.mv (.t 1))<|
 qo 20 (.cmp .gtr (.t 18) (.t 19))<|
 qo 21 (.mv (.t 20))<|
 .prune [21,3,0,9,1,8,2]<|
 .sc false 34 21 (qo 22 (.mv (.t 3))<|
 qo 23 (.mv (.t 0))<|
 qo 24 (.mv (.t 9))<|
 qo 25 (.is 3 (.t 23) (.t 24))<|
 eo 26 (.load 3 true (.t 25))<|
 qo 27 (.mv (.t 0))<|
 qo 28 (.mv (.t 9))<|
 qo 29 (.ar .sub (.t 28) (I 1))<|
 qo 30 (.is 3 (.t 27) (.t 29))<|
 eo 31 (.load 3 true (.t 30))<|
 eo 32 (.callv (.t 22) [(.t 26),(.t 31)])<|
 qo 33 (.cmp .lss (.t 32) (I 0))<|
 .nil) (.t 33)<|
 .nil)
 (.cond (.t 34)
 .skip
 (.exit 2)))
 (.prune [0,9,1,3,8,2] (.seq (.block 3 (.dops<|
 qo 37 (.mv (.t 0))<|
 qo 38 (.mv (.t 9))<|
 qo 39 (.mv (.t 0))<|
 qo 40 (.mv (.t 9))<|
 qo 41 (.ar .sub (.t 40) (I 1))<|
 qo 42 (.mv (.t 0))<|
 qo 43 (.mv (.t 9))<|
 qo 44 (.ar .sub (.t 43) (I 1))<|
 qo 45 (.is 3 (.t 42) (.t 44))<|
 .prune [45,0,9,37,38,39,41,1,3,8,2]<|
 eo 46 (.load 3 true (.t 45))<|
 qo 47 (.mv (.t 0))<|
 qo 48 (.mv (.t 9))<|
 qo 49 (.is 3 (.t 47) (.t 48))<|
 .prune [49,37,38,46,39,41,9,1,3,0,8,2]<|
 eo 50 (.load 3 true (.t 49))<|
 qo 51 (.is 3 (.t 37) (.t 38))<|
 .prune [51,46,39,41,50,9,1,3,0,8,2]<|
 en (.store 3 (.t 51) (.t 46))<|
 qo 52 (.is 3 (.t 39) (.t 41))<|
 en (.store 3 (.t 52) (.t 50))<|
 .nil))
 (.prune [9,1,3,0,8,2] (.ops<|
 qo 35 (.mv (.t 9))<|
 qo 36 (.ar .sub (.t 35) (I 1))<|
 qo 9 (.mv (.t 36))<|
 .nil)))))
def j79_2:JC:=
 (.prune [8,2,1,3,0] (.ops<|
 qo 15 (.mv (.t 8))<|
 qo 16 (.ar .add (.t 15) (I 1))<|
 qo 8 (.mv (.t 16))<|
 .nil))
def j79_3:JC:=
 (.seq (.seq (.ops<|
 qo 12 (.mv (.t 8))<|
 qo 13 (.mv (.t 2))<|
 qo 14 (.cmp .lss (.t 12) (.t 13))<|
 .nil)
 (.cond (.t 14)
 .skip
 (.exit 0)))
 (.seq (.block 1 (.seq (.ops<|
 qo 17 (.mv (.t 8))<|
 qo 9 (.mv (.t 17))<|
 .nil)
 (.prune [9,1,3,0,8,2] (.block 2 (.loop [1,3,0,8,2] [9] j79_1)))))
 j79_2))
def j79:JC:=
 (.seq (.ops<|
 qo 10 (.mv (.t 1))<|
 qo 11 (.ar .add (.t 10) (I 1))<|
 qo 8 (.mv (.t 11))<|
 .nil)
 (.block 0 (.loop [2,1,3,0] [8] j79_3)))
theorem c79:fnIs Try.prog qall 79=some (j79.flat,[],53):=by kernel_rfl
theorem w79:j79.wf 53=true:=by kernel_rfl
def j110_1:JC:=
 (.block 1 (.seq (.ops<|
 qo 13 (.mv (.t 10))<|
 qo 14 (.ar .mul (I 2) (.t 13))<|
 qo 15 (.ar .add (.t 14) (I 1))<|
 qo 11 (.mv (.t 15))<|
 .nil)
 (.seq (.seq (.ops<|
 .prune [11,2,4,0,3,10]<|
 qo 16 (.mv (.t 11))<|
 qo 17 (.mv (.t 2))<|
 qo 18 (.cmp .geq (.t 16) (.t 17))<|
 .nil)
 (.cond (.t 18)
 (.exit 0)
 .skip))
 (.prune [11,2,4,0,3,10] (.seq (.seq (.dops<|
 qo 19 (.mv (.t 11))<|
 qo 20 (.ar .add (.t 19) (I 1))<|
 qo 21 (.mv (.t 2))<|
 qo 22 (.cmp .lss (.t 20) (.t 21))<|
 .prune [22,4,0,3,11,10,2]<|
 qo 23 (.mv (.t 22))<|
 .sc false 40 23 (qo 24 (.mv (.t 4))<|
 qo 25 (.mv (.t 0))<|
 qo 26 (.mv (.t 3))<|
 qo 27 (.mv (.t 11))<|
 qo 28 (.ar .add (.t 26) (.t 27))<|
 qo 29 (.is 3 (.t 25) (.t 28))<|
 eo 30 (.load 3 true (.t 29))<|
 qo 31 (.mv (.t 0))<|
 qo 32 (.mv (.t 3))<|
 qo 33 (.mv (.t 11))<|
 qo 34 (.ar .add (.t 32) (.t 33))<|
 qo 35 (.ar .add (.t 34) (I 1))<|
 qo 36 (.is 3 (.t 31) (.t 35))<|
 eo 37 (.load 3 true (.t 36))<|
 eo 38 (.callv (.t 24) [(.t 30),(.t 37)])<|
 qo 39 (.cmp .lss (.t 38) (I 0))<|
 .nil) (.t 39)<|
 .nil)
 (.prune [40,11,4,0,3,10,2] (.cond (.t 40)
 (.ops<|
 qo 41 (.mv (.t 11))<|
 qo 42 (.ar .add (.t 41) (I 1))<|
 qo 11 (.mv (.t 42))<|
 .nil)
 .skip)))
 (.prune [4,0,3,10,11,2] (.seq (.seq (.dops<|
 qo 43 (.mv (.t 4))<|
 qo 44 (.mv (.t 0))<|
 qo 45 (.mv (.t 3))<|
 qo 46 (.mv (.t 10))<|
 qo 47 (.ar .add (.t 45) (.t 46))<|
 qo 48 (.is 3 (.t 44) (.t 47))<|
 .prune [48,0,3,11,43,10,2,4]<|
 eo 49 (.load 3 true (.t 48))<|
 qo 50 (.mv (.t 0))<|
 qo 51 (.mv (.t 3))<|
 qo 52 (.mv (.t 11))<|
 qo 53 (.ar .add (.t 51) (.t 52))<|
 .prune [50,53,43,49,0,3,10,11,2,4]<|
 qo 54 (.is 3 (.t 50) (.t 53))<|
 eo 55 (.load 3 true (.t 54))<|
 .prune [43,49,55,0,3,10,11,2,4]<|
 eo 56 (.callv (.t 43) [(.t 49),(.t 55)])<|
 qo 57 (.cmp .lss (.t 56) (I 0))<|
 qo 58 (.nt (.t 57))<|
 .nil)
 (.cond (.t 58)
 .ret
 .skip))
 (.prune [0,3,10,11,2,4] (.seq (.dops<|
 qo 59 (.mv (.t 0))<|
 qo 60 (.mv (.t 3))<|
 qo 61 (.mv (.t 10))<|
 qo 62 (.ar .add (.t 60) (.t 61))<|
 qo 63 (.mv (.t 0))<|
 qo 64 (.mv (.t 3))<|
 qo 65 (.mv (.t 11))<|
 qo 66 (.ar .add (.t 64) (.t 65))<|
 .prune [0,3,11,10,59,62,63,66,2,4]<|
 qo 67 (.mv (.t 0))<|
 qo 68 (.mv (.t 3))<|
 qo 69 (.mv (.t 11))<|
 qo 70 (.ar .add (.t 68) (.t 69))<|
 qo 71 (.is 3 (.t 67) (.t 70))<|
 .prune [71,0,3,10,59,62,63,66,11,2,4]<|
 eo 72 (.load 3 true (.t 71))<|
 qo 73 (.mv (.t 0))<|
 qo 74 (.mv (.t 3))<|
 qo 75 (.mv (.t 10))<|
 qo 76 (.ar .add (.t 74) (.t 75))<|
 .prune [73,76,59,62,72,63,66,11,2,4,0,3]<|
 qo 77 (.is 3 (.t 73) (.t 76))<|
 eo 78 (.load 3 true (.t 77))<|
 .prune [59,62,72,63,66,78,11,2,4,0,3]<|
 qo 79 (.is 3 (.t 59) (.t 62))<|
 en (.store 3 (.t 79) (.t 72))<|
 qo 80 (.is 3 (.t 63) (.t 66))<|
 en (.store 3 (.t 80) (.t 78))<|
 .nil)
 (.prune [11,2,4,0,3] (.ops<|
 qo 81 (.mv (.t 11))<|
 qo 10 (.mv (.t 81))<|
 .nil)))))))))))
def j110:JC:=
 (.seq (.ops<|
 qo 12 (.mv (.t 1))<|
 qo 10 (.mv (.t 12))<|
 .nil)
 (.block 0 (.loop [2,4,0,3] [10] j110_1)))
theorem c110:fnIs Try.prog qall 110=some (j110.flat,[],82):=by kernel_rfl
theorem w110:j110.wf 82=true:=by kernel_rfl
def j80_1:JC:=
 (.seq (.seq (.ops<|
 qo 20 (.mv (.t 11))<|
 qo 21 (.cmp .geq (.t 20) (I 0))<|
 .nil)
 (.cond (.t 21)
 .skip
 (.exit 0)))
 (.seq (.block 1 (.ops<|
 qo 24 (.mv (.t 0))<|
 qo 25 (.mv (.t 11))<|
 qo 26 (.mv (.t 10))<|
 qo 27 (.mv (.t 8))<|
 qo 28 (.mv (.t 3))<|
 eo 29 (.call 110 [(.t 24),(.t 25),(.t 26),(.t 27),(.t 28)])<|
 .nil))
 (.prune [11,0,10,8,3,9] (.ops<|
 qo 22 (.mv (.t 11))<|
 qo 23 (.ar .sub (.t 22) (I 1))<|
 qo 11 (.mv (.t 23))<|
 .nil))))
def j80_2:JC:=
 (.seq (.seq (.ops<|
 qo 32 (.mv (.t 12))<|
 qo 33 (.cmp .geq (.t 32) (I 0))<|
 .nil)
 (.cond (.t 33)
 .skip
 (.exit 2)))
 (.seq (.block 3 (.seq (.dops<|
 qo 36 (.mv (.t 0))<|
 qo 37 (.mv (.t 8))<|
 qo 38 (.mv (.t 0))<|
 qo 39 (.mv (.t 8))<|
 qo 40 (.mv (.t 12))<|
 qo 41 (.ar .add (.t 39) (.t 40))<|
 .prune [0,8,12,36,37,38,41,9,3]<|
 qo 42 (.mv (.t 0))<|
 qo 43 (.mv (.t 8))<|
 qo 44 (.mv (.t 12))<|
 qo 45 (.ar .add (.t 43) (.t 44))<|
 qo 46 (.is 3 (.t 42) (.t 45))<|
 .prune [46,0,8,36,37,38,41,9,12,3]<|
 eo 47 (.load 3 true (.t 46))<|
 qo 48 (.mv (.t 0))<|
 qo 49 (.mv (.t 8))<|
 qo 50 (.is 3 (.t 48) (.t 49))<|
 .prune [50,36,37,47,38,41,0,9,12,8,3]<|
 eo 51 (.load 3 true (.t 50))<|
 qo 52 (.is 3 (.t 36) (.t 37))<|
 .prune [52,47,38,41,51,0,9,12,8,3]<|
 en (.store 3 (.t 52) (.t 47))<|
 qo 53 (.is 3 (.t 38) (.t 41))<|
 en (.store 3 (.t 53) (.t 51))<|
 .nil)
 (.prune [0,9,12,8,3] (.ops<|
 qo 54 (.mv (.t 0))<|
 qo 55 (.mv (.t 9))<|
 qo 56 (.mv (.t 12))<|
 qo 57 (.mv (.t 8))<|
 qo 58 (.mv (.t 3))<|
 eo 59 (.call 110 [(.t 54),(.t 55),(.t 56),(.t 57),(.t 58)])<|
 .nil))))
 (.prune [12,0,8,9,3] (.ops<|
 qo 34 (.mv (.t 12))<|
 qo 35 (.ar .sub (.t 34) (I 1))<|
 qo 12 (.mv (.t 35))<|
 .nil))))
def j80_3:JC:=
 (.prune [10,0,8,9,3] (.seq (.ops<|
 qo 30 (.mv (.t 10))<|
 qo 31 (.ar .sub (.t 30) (I 1))<|
 qo 12 (.mv (.t 31))<|
 .nil)
 (.block 2 (.loop [0,8,9,3] [12] j80_2))))
def j80:JC:=
 (.seq (.ops<|
 qo 13 (.mv (.t 1))<|
 qo 8 (.mv (.t 13))<|
 .nil)
 (.seq (.ops<|
 qo 9 (.mv (I 0))<|
 .nil)
 (.seq (.ops<|
 qo 14 (.mv (.t 2))<|
 qo 15 (.mv (.t 1))<|
 qo 16 (.ar .sub (.t 14) (.t 15))<|
 qo 10 (.mv (.t 16))<|
 .nil)
 (.seq (.seq (.ops<|
 qo 17 (.mv (.t 10))<|
 qo 18 (.ar .sub (.t 17) (I 1))<|
 qo 19 (.ar .quo (.t 18) (I 2))<|
 qo 11 (.mv (.t 19))<|
 .nil)
 (.prune [11,0,10,8,3,9] (.block 0 (.loop [0,10,8,3,9] [11] j80_1))))
 j80_3))))
theorem c80:fnIs Try.prog qall 80=some (j80.flat,[],60):=by kernel_rfl
theorem w80:j80.wf 60=true:=by kernel_rfl
theorem swp_size (X:Array Fk) (i j:Nat):(Sort.swp X i j).size=X.size:=by simp [Sort.swp]
theorem f_ins (X:Array Fk) (a b:Nat) (hb:b≤X.size) (hX:X.size<1000000) (ha:a≤b):
  FnOK Try.prog main Fz 79 [.vec 0 X.size, .int .i64 a, .int .i64 b,cF] [mv X]
   (.tup []) [mv (Sort.insertionSort lt X a b)]:=by
 refine fn_walkF c79 w79 Gc_ok rfl ?_
 have w1:IntKind.i64.wrap ((a:Int)+1)=((a+1:Nat):Int):=IntWalk.i64_in _ (by omega)
 unfold j79
 simp only [go_sem,seval,mv,w1]
 refine loopF (Nat×Array Fk) (fun s=>[.int .i64 s.1]) (fun s=>[mv s.2]) (fun s=>a<s.1∧s.1≤b+1∧s.2.size=X.size∧Sort.insOuter lt a b s.1 s.2=Sort.insertionSort lt X a b) (fun s=>b+1 - s.1) (a+1,X) ⟨by simp only;omega,by simp only;omega,rfl,rfl⟩ ?_ rfl ?_
 ·simp only [go_sem,seval]
 rintro ⟨i,Y⟩ ⟨h0,h1,h2,h3⟩
 simp only at h0 h1 h2 h3
 unfold j79_3
 by_cases h:i<b
 ·have h':(i:Int)<b:=by omega
  simp only [go_sem,seval,h',mv]
  refine loopF (Nat×Array Fk) (fun s=>[.int .i64 s.1]) (fun s=>[mv s.2]) (fun s=>a≤s.1∧s.1≤i∧s.2.size=X.size∧Sort.insInner lt a s.1 s.2=Sort.insInner lt a i Y) (fun s=>s.1) (i,Y) ⟨by simp only;omega,by simp only;omega,h2,rfl⟩ ?_ rfl ?_
  ·simp only [go_sem,seval]
  rintro ⟨j,Z⟩ ⟨k0,k1,k2,k3⟩
  simp only at k0 k1 k2 k3
  have w2:IntKind.i64.wrap ((i:Int)+1)=((i+1:Nat):Int):=IntWalk.i64_in _ (by omega)
  have w3:IntKind.i64.wrap ((j:Int) - 1)=((j:Int) - 1):=IntWalk.i64_in _ (by omega)
  by_cases hj:a<j
  ·obtain ⟨q,rfl⟩:∃ q,j=q+1:=⟨j - 1,by omega⟩
   have hj':((a:Int)< ((q+1:Nat):Int))=True:=by simp;omega
   have e1:(((q+1:Nat):Int) - 1)=(q:Int):=by omega
   rw [e1] at w3
   have r1:q+1<Z.size:=by omega
   have r0:q<Z.size:=by omega
   unfold j79_1
   simp only [go_sem,seval,hj',w2,w3,e1,mv,Gc_eq,rd r1,rd r0,wr,wd_fk,agg_fk,swp_fold,lt_cmp,Array.length_toList,Array.size_setIfInBounds]
   refine ⟨⟨⟨⟨⟨by omega,by omega⟩,r1⟩,by omega,by omega⟩,r0⟩,fun hc=>⟨⟨by omega,by omega⟩,r0,⟨by omega,by omega⟩,r1,⟨by omega,by omega⟩,r1,⟨by omega,by omega⟩,⟨r0,wdz (by simpa using r0)⟩,(q,Sort.swp Z (q+1) q),⟨by simp only;omega,by simp only;omega,by rw [swp_size];exact k2,?_⟩,by simp only;omega,rfl,rfl⟩,fun hc=> ?_⟩
   ·rw [← k3,Sort.insInner,if_pos (by simp only [Bool.and_eq_true,decide_eq_true_eq];exact ⟨hj,hc⟩)]
   ·unfold j79_2
    simp only [go_sem,seval,w2]
    refine ⟨(i+1,Z),⟨by simp only;omega,by simp only;omega,k2,?_⟩,by simp only;omega,rfl,rfl⟩
    rw [← h3,Sort.insOuter.eq_def lt a b i,if_pos h,← k3,Sort.insInner,if_neg (by simp only [Bool.and_eq_true,decide_eq_true_eq];exact fun x=>hc x.2)]
  ·have hj':((a:Int)< (j:Int))=False:=by simp;omega
   have r1:j<Z.size:=by omega
   have r0:j - 1<Z.size:=by omega
   have e1:(IntKind.i64.wrap ((j:Int) - 1)).toNat=j - 1:=by rw [w3];omega
   unfold j79_1
   simp only [go_sem,seval,hj',Gc_eq,mv,rd r1,rd r0,e1,wd_fk,agg_fk]
   unfold j79_2
   simp only [go_sem,seval,w2]
   refine ⟨(i+1,Z),⟨by simp only;omega,by simp only;omega,k2,?_⟩,by simp only;omega,rfl,rfl⟩
   rw [← h3,Sort.insOuter.eq_def lt a b i,if_pos h,← k3]
   cases j with
   |zero=>rfl
   |succ q=>rw [Sort.insInner,if_neg (by simp only [Bool.and_eq_true,decide_eq_true_eq];exact fun x=>hj x.1)]
 ·have h':¬ (i:Int)<b:=by omega
  simp only [go_sem,seval,h',mv]
  rw [← h3,Sort.insOuter.eq_def,if_neg h]
theorem nb1 {x:Bool} (h:¬ x=true):(!x)=true:=by cases x<;>simp_all
theorem nb2 {x:Bool} (h:x=true):¬ (!x)=true:=by cases x<;>simp_all
theorem ab {p:Prop} [Decidable p] {x:Bool} (h1:p) (h2:x=true):(decide p&&x)=true:=by simp [h1,h2]
theorem abn1 {p:Prop} [Decidable p] {x:Bool} (h:¬ p):¬ (decide p&&x)=true:=by simp [h]
theorem abn2 {p:Prop} [Decidable p] {x:Bool} (h:¬ x=true):¬ (decide p&&x)=true:=by simp [h]
theorem f_sift (X:Array Fk) (lo hi first:Nat) (hf:first+hi≤X.size) (hX:X.size<1000000) (hlo:lo<1000000):
  FnOK Try.prog main Fz 110 [.vec 0 X.size, .int .i64 lo, .int .i64 hi, .int .i64 first,cF] [mv X]
   (.tup []) [mv (Sort.siftDown lt hi first lo X)]:=by
 refine fn_walkF c110 w110 Gc_ok rfl ?_
 unfold j110
 simp only [go_sem,seval,mv]
 refine loopF (Nat×Array Fk) (fun s=>[.int .i64 s.1]) (fun s=>[mv s.2]) (fun s=>s.1<1000000∧s.2.size=X.size∧Sort.siftDown lt hi first s.1 s.2=Sort.siftDown lt hi first lo X) (fun s=>1000000 - s.1) (lo,X) ⟨hlo,rfl,rfl⟩ ?_ rfl ?_
 ·simp only [go_sem,seval]
 rintro ⟨root,Z⟩ ⟨h0,h1,h2⟩
 simp only at h0 h1 h2
 have m1:IntKind.i64.wrap (2*(root:Int))=2*(root:Int):=IntWalk.i64_in _ (by omega)
 obtain ⟨c,hc⟩:∃ c,c=2*root+1:=⟨_,rfl⟩
 have m2:IntKind.i64.wrap (2*(root:Int)+1)=(c:Int):=by rw [IntWalk.i64_in _ (by omega)];omega
 have m3:IntKind.i64.wrap ((c:Int)+1)=((c+1:Nat):Int):=IntWalk.i64_in _ (by omega)
 have m4:IntKind.i64.wrap ((first:Int)+c)=((first+c:Nat):Int):=IntWalk.i64_in _ (by omega)
 have m5:IntKind.i64.wrap (((first+c:Nat):Int)+1)=((first+c+1:Nat):Int):=IntWalk.i64_in _ (by omega)
 have m6:IntKind.i64.wrap ((first:Int)+root)=((first+root:Nat):Int):=IntWalk.i64_in _ (by omega)
 have m7:IntKind.i64.wrap ((first:Int)+((c+1:Nat):Int))=((first+c+1:Nat):Int):=IntWalk.i64_in _ (by omega)
 by_cases hch:hi≤c
 ·unfold j110_1
  simp only [go_sem,seval,m1,m2,hch,mv,Int.ofNat_le]
  rw [← h2,Sort.siftDown.eq_def,dif_pos (by omega)]
 have rc:first+c<X.size:=by omega
 have rr:first+root<X.size:=by omega
 have hch2:¬ 2*root+1≥hi:=by omega
 by_cases hc2:c+1<hi
 ·have rc1:first+c+1<X.size:=by omega
  unfold j110_1
  simp only [go_sem,seval,m1,m2,m3,m4,m5,m6,m7,hch,hc2,Gc_eq,mv,rd,rc,rr,rc1,wr,wdz,wd_fk,agg_fk,swp_fold,lt_cmp,h1,Int.ofNat_lt,Int.ofNat_le,Int.natCast_nonneg]
  subst hc
  refine ⟨fun hA=>⟨fun hB=> ?_,fun hB=>⟨(2*root+1+1,Sort.swp Z (first+root) (first+(2*root+1)+1)),⟨by simp only;omega,by rw [swp_size];exact h1,?_⟩,by simp only;omega,rfl,rfl⟩⟩,fun hA=>⟨fun hB=> ?_,fun hB=>⟨(2*root+1,Sort.swp Z (first+root) (first+(2*root+1))),⟨by simp only;omega,by rw [swp_size];exact h1,?_⟩,by simp only;omega,rfl,rfl⟩⟩⟩
  ·rw [← h2,Sort.siftDown.eq_def lt hi first root,dif_neg hch2,if_pos (ab hc2 hA)]
   exact (congrArg (fun z:Array Fk=>[mv z]) (if_pos (nb1 hB))).symm
  ·rw [← h2,Sort.siftDown.eq_def lt hi first root,dif_neg hch2,if_pos (ab hc2 hA)]
   rw [if_neg (nb2 (show lt Z[first+root]! Z[first+(2*root+2)]! =true from hB)),dif_pos (show 2*root+2<hi from hc2)]
   rfl
  ·rw [← h2,Sort.siftDown.eq_def lt hi first root,dif_neg hch2,if_neg (abn2 hA),if_pos (nb1 hB)]
  ·rw [← h2,Sort.siftDown.eq_def lt hi first root,dif_neg hch2,if_neg (abn2 hA),if_neg (nb2 hB)]
 ·unfold j110_1
  simp only [go_sem,seval,m1,m2,m3,m4,m5,m6,m7,hch,hc2,Gc_eq,mv,rd,rc,rr,wr,wdz,wd_fk,agg_fk,swp_fold,lt_cmp,h1,Int.ofNat_lt,Int.ofNat_le,Int.natCast_nonneg]
  subst hc
  refine ⟨fun hB=> ?_,fun hB=>⟨(2*root+1,Sort.swp Z (first+root) (first+(2*root+1))),⟨by simp only;omega,by rw [swp_size];exact h1,?_⟩,by simp only;omega,rfl,rfl⟩⟩
  ·rw [← h2,Sort.siftDown.eq_def lt hi first root,dif_neg hch2,if_neg (abn1 hc2),if_pos (nb1 hB)]
  ·rw [← h2,Sort.siftDown.eq_def lt hi first root,dif_neg hch2,if_neg (abn1 hc2),if_neg (nb2 hB)]
def sftP (s:List Fk) (y:Int×Int×Int×Nat×Unit):Prop:=0≤y.1∧0≤y.2.1∧0≤y.2.2.1∧y.2.2.1+y.2.1≤s.length∧s.length<1000000∧y.1<1000000∧y.2.2.2.1=24
def sftL (s:List Fk) (y:Int×Int×Int×Nat×Unit):List Fk:=(Sort.siftDown lt y.2.1.toNat y.2.2.1.toNat y.1.toNat s.toArray).toList
theorem sftL_eq (X:Array Fk) (lo hi first c:Nat):sftL X.toList ((lo:Int),(hi:Int),(first:Int),c,())=(Sort.siftDown lt hi first lo X).toList:=rfl
theorem sftP_of {X:Array Fk} {lo hi first:Nat} (hf:first+hi≤X.size) (hX:X.size<1000000) (hlo:lo<1000000):sftP X.toList ((lo:Int),(hi:Int),(first:Int),24,()):=by
 refine ⟨Int.natCast_nonneg _,Int.natCast_nonneg _,Int.natCast_nonneg _,?_,?_,?_,rfl⟩<;>simp only [Array.length_toList]<;>omega
def Ghp (f:FuncId) (a:List SV) (m:List Res):Sx.Call:=(FH.sv 110 TP 3 dFk (.four .int .int .int .fnc) .unit sftP (fun _ _=>()) sftL FH.none) f a m
theorem Ghp_eq (f:FuncId) (a:List SV) (m:List Res):Ghp f a m=(FH.sv 110 TP 3 dFk (.four .int .int .int .fnc) .unit sftP (fun _ _=>()) sftL FH.none) f a m:=nr rfl
theorem Ghp_ok:FHOK Try.prog main Fz Ghp:=FH.sv_ok (by decide) (by kernel_rfl) (fun s y h=>by
 obtain ⟨y1,y2,y3,y4,⟨⟩⟩:=y
 obtain ⟨h1,h2,h3,h4,h5,h6,h7⟩:=h
 simp only at h1 h2 h3 h4 h5 h6 h7
 obtain ⟨a,rfl⟩:=nat_int h1
 obtain ⟨b,rfl⟩:=nat_int h2
 obtain ⟨c,rfl⟩:=nat_int h3
 subst h7
 have:=f_sift (main:=main) (Fz:=Fz) s.toArray a b c (by simp;omega) (by simp;omega) (by omega)
 exact this) FH.none_ok
theorem sift_size (hi first root:Nat) (X:Array Fk):(Sort.siftDown lt hi first root X).size=X.size:=by
 induction h:hi - root using Nat.strongRecOn generalizing root X with
 |ind n ih=>
  subst h
  rw [Sort.siftDown.eq_def]
  repeat' split
  all_goals first|rfl|(rw [ih _ (by omega) _ _ rfl,swp_size])
theorem f_heap (X:Array Fk) (a b:Nat) (hb:b≤X.size) (hX:X.size<1000000) (ha:a<b):
  FnOK Try.prog main Fz 80 [.vec 0 X.size, .int .i64 a, .int .i64 b,cF] [mv X]
   (.tup []) [mv (Sort.heapSort lt X a b)]:=by
 refine fn_walkF c80 w80 Ghp_ok rfl ?_
 obtain ⟨l,hl⟩:∃ l,l=b - a:=⟨_,rfl⟩
 have w1:IntKind.i64.wrap ((b:Int) - a)=(l:Int):=by rw [IntWalk.i64_in _ (by omega)];omega
 have w2:IntKind.i64.wrap ((l:Int) - 1)=((l - 1:Nat):Int):=by rw [IntWalk.i64_in _ (by omega)];omega
 have w3:(((l - 1:Nat):Int)).tdiv 2=(((l - 1)/2:Nat):Int):=rfl
 have w4:IntKind.i64.wrap ((((l - 1)/2:Nat):Int))=(((l - 1)/2:Nat):Int):=IntWalk.i64_in _ (by omega)
 unfold j80
 simp only [go_sem,seval,mv,w1,w2,w3,w4]
 refine loopF (Nat×Array Fk) (fun s=>[.int .i64 ((s.1:Int) - 1)]) (fun s=>[mv s.2]) (fun s=>s.1≤l∧s.2.size=X.size∧Sort.heapBuild lt l a s.1 s.2=Sort.heapBuild lt l a ((l - 1)/2+1) X) (fun s=>s.1) ((l - 1)/2+1,X) ⟨by simp only;omega,rfl,rfl⟩ ?_ rfl ?_
 ·simp only [go_sem,seval]
  omega
 rintro ⟨k,Z⟩ ⟨h0,h1,h2⟩
 simp only at h0 h1 h2
 unfold j80_1
 cases k with
 |succ k=>
  have e1:(((k+1:Nat):Int) - 1)=(k:Int):=by omega
  have w5:IntKind.i64.wrap ((k:Int) - 1)=(k:Int) - 1:=IntWalk.i64_in _ (by omega)
  simp only [go_sem,seval,e1,w5,Ghp_eq,mv,sftL_eq,Int.natCast_nonneg]
  refine ⟨⟨h1.symm,sftP_of (by omega) (by omega) (by omega)⟩,(k,Sort.siftDown lt l a k Z),⟨by simp only;omega,by rw [sift_size];exact h1,?_⟩,by simp only;omega,rfl,rfl⟩
  rw [← h2,Sort.heapBuild]
 |zero=>
  have e1:(((0:Nat):Int) - 1)=(-1:Int):=by omega
  simp only [go_sem,seval,e1]
  unfold j80_3
  simp only [go_sem,seval,w2]
  refine loopF (Nat×Array Fk) (fun s=>[.int .i64 ((s.1:Int) - 1)]) (fun s=>[mv s.2]) (fun s=>s.1≤l∧s.2.size=X.size∧Sort.heapPop lt a s.1 s.2=Sort.heapSort lt X a b) (fun s=>s.1) (l,Z) ⟨by simp only;omega,h1,?_⟩ ?_ rfl ?_
  ·rw [Sort.heapBuild] at h2
   rw [h2,Sort.heapSort,← hl]
  ·simp only [go_sem,seval]
   omega
  rintro ⟨k,Y⟩ ⟨h3,h4,h5⟩
  simp only at h3 h4 h5
  cases k with
  |succ k=>
   have e1:(((k+1:Nat):Int) - 1)=(k:Int):=by omega
   have w5:IntKind.i64.wrap ((k:Int) - 1)=(k:Int) - 1:=IntWalk.i64_in _ (by omega)
   have w6:IntKind.i64.wrap ((a:Int)+k)=((a+k:Nat):Int):=IntWalk.i64_in _ (by omega)
   have r1:a<X.size:=by omega
   have r2:a+k<X.size:=by omega
   have z0:∀ Q:Array Fk,sftL Q.toList (0,(k:Int),(a:Int),24,())=(Sort.siftDown lt k a 0 Q).toList:=fun Q=>rfl
   unfold j80_2
   simp only [go_sem,seval,e1,w5,w6,Ghp_eq,mv,z0,rd,r1,r2,wr,wdz,wd_fk,agg_fk,swp_fold,h4,Int.ofNat_lt,Int.ofNat_le,Int.natCast_nonneg]
   refine ⟨⟨by rw [swp_size,h4],sftP_of (lo:=0) (by rw [swp_size];omega) (by rw [swp_size];omega) (by omega)⟩,(k,Sort.siftDown lt k a 0 (Sort.swp Y a (a+k))),⟨by simp only;omega,by rw [sift_size,swp_size];exact h4,?_⟩,by simp only;omega,rfl,rfl⟩
   rw [← h5,Sort.heapPop]
  |zero=>
   have e1:(((0:Nat):Int) - 1)=(-1:Int):=by omega
   unfold j80_2
   simp only [go_sem,seval,e1]
   rw [← h5,Sort.heapPop]
end Go.Proofs.Ytpajfggdnobheaa.Srt
end
section
set_option maxRecDepth 100000
open Go Go.Sx Go.Proofs
namespace Go.Proofs.Ytpajfggdnobheaa.Srt
variable {main:Bool} {Fz:Nat→Prop}
open Go.Proofs.Ytpajfggdnobheaa.D
def j86_1:JC:=
 (.seq (.seq (.dops<|
 qo 32 (.mv (.t 12))<|
 qo 33 (.mv (.t 13))<|
 qo 34 (.cmp .leq (.t 32) (.t 33))<|
 qo 35 (.mv (.t 34))<|
 .prune [35,4,0,12,1,13]<|
 .sc false 47 35 (qo 36 (.mv (.t 4))<|
 qo 37 (.mv (.t 0))<|
 qo 38 (.mv (.t 12))<|
 qo 39 (.is 3 (.t 37) (.t 38))<|
 eo 40 (.load 3 true (.t 39))<|
 qo 41 (.mv (.t 0))<|
 qo 42 (.mv (.t 1))<|
 qo 43 (.is 3 (.t 41) (.t 42))<|
 eo 44 (.load 3 true (.t 43))<|
 eo 45 (.callv (.t 36) [(.t 40),(.t 44)])<|
 qo 46 (.cmp .lss (.t 45) (I 0))<|
 .nil) (.t 46)<|
 .nil)
 (.cond (.t 47)
 .skip
 (.exit 0)))
 (.prune [12,13,4,0,1] (.block 1 (.ops<|
 qo 48 (.mv (.t 12))<|
 qo 49 (.ar .add (.t 48) (I 1))<|
 qo 12 (.mv (.t 49))<|
 .nil))))
def j86_2:JC:=
 (.seq (.seq (.dops<|
 qo 50 (.mv (.t 12))<|
 qo 51 (.mv (.t 13))<|
 qo 52 (.cmp .leq (.t 50) (.t 51))<|
 qo 53 (.mv (.t 52))<|
 .prune [53,4,0,13,1,12]<|
 .sc false 66 53 (qo 54 (.mv (.t 4))<|
 qo 55 (.mv (.t 0))<|
 qo 56 (.mv (.t 13))<|
 qo 57 (.is 3 (.t 55) (.t 56))<|
 eo 58 (.load 3 true (.t 57))<|
 qo 59 (.mv (.t 0))<|
 qo 60 (.mv (.t 1))<|
 qo 61 (.is 3 (.t 59) (.t 60))<|
 eo 62 (.load 3 true (.t 61))<|
 eo 63 (.callv (.t 54) [(.t 58),(.t 62)])<|
 qo 64 (.cmp .lss (.t 63) (I 0))<|
 qo 65 (.nt (.t 64))<|
 .nil) (.t 65)<|
 .nil)
 (.cond (.t 66)
 .skip
 (.exit 2)))
 (.prune [13,12,4,0,1] (.block 3 (.ops<|
 qo 67 (.mv (.t 13))<|
 qo 68 (.ar .sub (.t 67) (I 1))<|
 qo 13 (.mv (.t 68))<|
 .nil))))
def j86_3:JC:=
 (.seq (.seq (.dops<|
 qo 105 (.mv (.t 12))<|
 qo 106 (.mv (.t 13))<|
 qo 107 (.cmp .leq (.t 105) (.t 106))<|
 qo 108 (.mv (.t 107))<|
 .prune [108,4,0,12,1,13]<|
 .sc false 120 108 (qo 109 (.mv (.t 4))<|
 qo 110 (.mv (.t 0))<|
 qo 111 (.mv (.t 12))<|
 qo 112 (.is 3 (.t 110) (.t 111))<|
 eo 113 (.load 3 true (.t 112))<|
 qo 114 (.mv (.t 0))<|
 qo 115 (.mv (.t 1))<|
 qo 116 (.is 3 (.t 114) (.t 115))<|
 eo 117 (.load 3 true (.t 116))<|
 eo 118 (.callv (.t 109) [(.t 113),(.t 117)])<|
 qo 119 (.cmp .lss (.t 118) (I 0))<|
 .nil) (.t 119)<|
 .nil)
 (.cond (.t 120)
 .skip
 (.exit 6)))
 (.prune [12,13,4,0,1] (.block 7 (.ops<|
 qo 121 (.mv (.t 12))<|
 qo 122 (.ar .add (.t 121) (I 1))<|
 qo 12 (.mv (.t 122))<|
 .nil))))
def j86_4:JC:=
 (.seq (.seq (.dops<|
 qo 123 (.mv (.t 12))<|
 qo 124 (.mv (.t 13))<|
 qo 125 (.cmp .leq (.t 123) (.t 124))<|
 qo 126 (.mv (.t 125))<|
 .prune [126,4,0,13,1,12]<|
 .sc false 139 126 (qo 127 (.mv (.t 4))<|
 qo 128 (.mv (.t 0))<|
 qo 129 (.mv (.t 13))<|
 qo 130 (.is 3 (.t 128) (.t 129))<|
 eo 131 (.load 3 true (.t 130))<|
 qo 132 (.mv (.t 0))<|
 qo 133 (.mv (.t 1))<|
 qo 134 (.is 3 (.t 132) (.t 133))<|
 eo 135 (.load 3 true (.t 134))<|
 eo 136 (.callv (.t 127) [(.t 131),(.t 135)])<|
 qo 137 (.cmp .lss (.t 136) (I 0))<|
 qo 138 (.nt (.t 137))<|
 .nil) (.t 138)<|
 .nil)
 (.cond (.t 139)
 .skip
 (.exit 8)))
 (.prune [13,12,4,0,1] (.block 9 (.ops<|
 qo 140 (.mv (.t 13))<|
 qo 141 (.ar .sub (.t 140) (I 1))<|
 qo 13 (.mv (.t 141))<|
 .nil))))
def j86_5:JC:=
 (.prune [12,13,0,1,4] (.seq (.seq (.ops<|
 qo 142 (.mv (.t 12))<|
 qo 143 (.mv (.t 13))<|
 qo 144 (.cmp .gtr (.t 142) (.t 143))<|
 .nil)
 (.cond (.t 144)
 (.exit 4)
 .skip))
 (.seq (.dops<|
 .prune [0,12,13,4,1]<|
 qo 145 (.mv (.t 0))<|
 qo 146 (.mv (.t 12))<|
 qo 147 (.mv (.t 0))<|
 qo 148 (.mv (.t 13))<|
 qo 149 (.mv (.t 0))<|
 qo 150 (.mv (.t 13))<|
 qo 151 (.is 3 (.t 149) (.t 150))<|
 eo 152 (.load 3 true (.t 151))<|
 .prune [0,12,145,146,152,147,148,13,4,1]<|
 qo 153 (.mv (.t 0))<|
 qo 154 (.mv (.t 12))<|
 qo 155 (.is 3 (.t 153) (.t 154))<|
 eo 156 (.load 3 true (.t 155))<|
 .prune [145,146,152,147,148,156,12,13,4,0,1]<|
 qo 157 (.is 3 (.t 145) (.t 146))<|
 en (.store 3 (.t 157) (.t 152))<|
 qo 158 (.is 3 (.t 147) (.t 148))<|
 en (.store 3 (.t 158) (.t 156))<|
 .nil)
 (.prune [12,13,4,0,1] (.seq (.ops<|
 qo 159 (.mv (.t 12))<|
 qo 160 (.ar .add (.t 159) (I 1))<|
 qo 12 (.mv (.t 160))<|
 .nil)
 (.ops<|
 .prune [13,12,4,0,1]<|
 qo 161 (.mv (.t 13))<|
 qo 162 (.ar .sub (.t 161) (I 1))<|
 qo 13 (.mv (.t 162))<|
 .nil))))))
def j86_6:JC:=
 (.prune [12,13,4,0,1] (.seq (.block 8 (.loop [12,4,0,1] [13] j86_4))
 j86_5))
def j86_7:JC:=
 (.block 5 (.seq (.block 6 (.loop [13,4,0,1] [12] j86_3))
 j86_6))
def j86_8:JC:=
 (.prune [0,13,1] (.seq (.dops<|
 qo 163 (.mv (.t 0))<|
 qo 164 (.mv (.t 13))<|
 qo 165 (.mv (.t 0))<|
 qo 166 (.mv (.t 1))<|
 qo 167 (.mv (.t 0))<|
 qo 168 (.mv (.t 1))<|
 qo 169 (.is 3 (.t 167) (.t 168))<|
 .prune [169,0,13,163,164,165,166]<|
 eo 170 (.load 3 true (.t 169))<|
 qo 171 (.mv (.t 0))<|
 qo 172 (.mv (.t 13))<|
 qo 173 (.is 3 (.t 171) (.t 172))<|
 .prune [173,163,164,170,165,166,13]<|
 eo 174 (.load 3 true (.t 173))<|
 qo 175 (.is 3 (.t 163) (.t 164))<|
 .prune [175,170,165,166,174,13]<|
 en (.store 3 (.t 175) (.t 170))<|
 qo 176 (.is 3 (.t 165) (.t 166))<|
 en (.store 3 (.t 176) (.t 174))<|
 .nil)
 (.prune [13] (.seq (.ops<|
 qo 177 (.mv (.t 13))<|
 qo 10 (.mv (.t 177))<|
 qo 11 (.mv (B false))<|
 .nil)
 .ret))))
def j86_9:JC:=
 (.prune [12,13,0,1,4] (.seq (.seq (.ops<|
 qo 69 (.mv (.t 12))<|
 qo 70 (.mv (.t 13))<|
 qo 71 (.cmp .gtr (.t 69) (.t 70))<|
 .nil)
 (.cond (.t 71)
 (.seq (.dops<|
 .prune [0,13,1]<|
 qo 72 (.mv (.t 0))<|
 qo 73 (.mv (.t 13))<|
 qo 74 (.mv (.t 0))<|
 qo 75 (.mv (.t 1))<|
 qo 76 (.mv (.t 0))<|
 qo 77 (.mv (.t 1))<|
 qo 78 (.is 3 (.t 76) (.t 77))<|
 .prune [78,0,13,72,73,74,75]<|
 eo 79 (.load 3 true (.t 78))<|
 qo 80 (.mv (.t 0))<|
 qo 81 (.mv (.t 13))<|
 qo 82 (.is 3 (.t 80) (.t 81))<|
 .prune [82,72,73,79,74,75,13]<|
 eo 83 (.load 3 true (.t 82))<|
 qo 84 (.is 3 (.t 72) (.t 73))<|
 .prune [84,79,74,75,83,13]<|
 en (.store 3 (.t 84) (.t 79))<|
 qo 85 (.is 3 (.t 74) (.t 75))<|
 en (.store 3 (.t 85) (.t 83))<|
 .nil)
 (.prune [13] (.seq (.ops<|
 qo 86 (.mv (.t 13))<|
 qo 10 (.mv (.t 86))<|
 qo 11 (.mv (B true))<|
 .nil)
 .ret)))
 .skip))
 (.prune [0,12,13,4,1] (.seq (.dops<|
 qo 87 (.mv (.t 0))<|
 qo 88 (.mv (.t 12))<|
 qo 89 (.mv (.t 0))<|
 qo 90 (.mv (.t 13))<|
 qo 91 (.mv (.t 0))<|
 qo 92 (.mv (.t 13))<|
 qo 93 (.is 3 (.t 91) (.t 92))<|
 eo 94 (.load 3 true (.t 93))<|
 .prune [0,12,87,88,94,89,90,13,4,1]<|
 qo 95 (.mv (.t 0))<|
 qo 96 (.mv (.t 12))<|
 qo 97 (.is 3 (.t 95) (.t 96))<|
 eo 98 (.load 3 true (.t 97))<|
 .prune [87,88,94,89,90,98,12,13,4,0,1]<|
 qo 99 (.is 3 (.t 87) (.t 88))<|
 en (.store 3 (.t 99) (.t 94))<|
 qo 100 (.is 3 (.t 89) (.t 90))<|
 en (.store 3 (.t 100) (.t 98))<|
 .nil)
 (.prune [12,13,4,0,1] (.seq (.ops<|
 qo 101 (.mv (.t 12))<|
 qo 102 (.ar .add (.t 101) (I 1))<|
 qo 12 (.mv (.t 102))<|
 .nil)
 (.seq (.ops<|
 .prune [13,12,4,0,1]<|
 qo 103 (.mv (.t 13))<|
 qo 104 (.ar .sub (.t 103) (I 1))<|
 qo 13 (.mv (.t 104))<|
 .nil)
 (.prune [12,13,4,0,1] (.seq (.block 4 (.loop [4,0,1] [12,13] j86_7))
 j86_8)))))))))
def j86_10:JC:=
 (.prune [12,13,4,0,1] (.seq (.block 2 (.loop [12,4,0,1] [13] j86_2))
 j86_9))
def j86:JC:=
 (.seq (.ops<|
 qo 10 (.mv (I 0))<|
 qo 11 (.mv (B false))<|
 .nil)
 (.seq (.dops<|
 qo 14 (.mv (.t 0))<|
 qo 15 (.mv (.t 1))<|
 qo 16 (.mv (.t 0))<|
 qo 17 (.mv (.t 3))<|
 qo 18 (.mv (.t 0))<|
 qo 19 (.mv (.t 3))<|
 qo 20 (.is 3 (.t 18) (.t 19))<|
 eo 21 (.load 3 true (.t 20))<|
 qo 22 (.mv (.t 0))<|
 qo 23 (.mv (.t 1))<|
 qo 24 (.is 3 (.t 22) (.t 23))<|
 .prune [24,14,15,21,16,17,1,2,4,0]<|
 eo 25 (.load 3 true (.t 24))<|
 qo 26 (.is 3 (.t 14) (.t 15))<|
 .prune [26,21,16,17,25,1,2,4,0]<|
 en (.store 3 (.t 26) (.t 21))<|
 qo 27 (.is 3 (.t 16) (.t 17))<|
 en (.store 3 (.t 27) (.t 25))<|
 .nil)
 (.prune [1,2,4,0] (.seq (.ops<|
 qo 28 (.mv (.t 1))<|
 qo 29 (.ar .add (.t 28) (I 1))<|
 qo 30 (.mv (.t 2))<|
 qo 31 (.ar .sub (.t 30) (I 1))<|
 qo 12 (.mv (.t 29))<|
 qo 13 (.mv (.t 31))<|
 .nil)
 (.prune [12,13,4,0,1] (.seq (.block 0 (.loop [13,4,0,1] [12] j86_1))
 j86_10))))))
theorem c86:fnIs Try.prog qall 86=some (j86.flat,[.tmp 10, .tmp 11],178):=by kernel_rfl
theorem w86:j86.wf 178=true:=by kernel_rfl
def j85_1:JC:=
 (.seq (.seq (.dops<|
 qo 31 (.mv (.t 11))<|
 qo 32 (.mv (.t 12))<|
 qo 33 (.cmp .leq (.t 31) (.t 32))<|
 qo 34 (.mv (.t 33))<|
 .prune [34,4,0,1,11,12]<|
 .sc false 47 34 (qo 35 (.mv (.t 4))<|
 qo 36 (.mv (.t 0))<|
 qo 37 (.mv (.t 1))<|
 qo 38 (.is 3 (.t 36) (.t 37))<|
 eo 39 (.load 3 true (.t 38))<|
 qo 40 (.mv (.t 0))<|
 qo 41 (.mv (.t 11))<|
 qo 42 (.is 3 (.t 40) (.t 41))<|
 eo 43 (.load 3 true (.t 42))<|
 eo 44 (.callv (.t 35) [(.t 39),(.t 43)])<|
 qo 45 (.cmp .lss (.t 44) (I 0))<|
 qo 46 (.nt (.t 45))<|
 .nil) (.t 46)<|
 .nil)
 (.cond (.t 47)
 .skip
 (.exit 2)))
 (.prune [11,12,4,0,1] (.block 3 (.ops<|
 qo 48 (.mv (.t 11))<|
 qo 49 (.ar .add (.t 48) (I 1))<|
 qo 11 (.mv (.t 49))<|
 .nil))))
def j85_2:JC:=
 (.seq (.seq (.dops<|
 qo 50 (.mv (.t 11))<|
 qo 51 (.mv (.t 12))<|
 qo 52 (.cmp .leq (.t 50) (.t 51))<|
 qo 53 (.mv (.t 52))<|
 .prune [53,4,0,1,12,11]<|
 .sc false 65 53 (qo 54 (.mv (.t 4))<|
 qo 55 (.mv (.t 0))<|
 qo 56 (.mv (.t 1))<|
 qo 57 (.is 3 (.t 55) (.t 56))<|
 eo 58 (.load 3 true (.t 57))<|
 qo 59 (.mv (.t 0))<|
 qo 60 (.mv (.t 12))<|
 qo 61 (.is 3 (.t 59) (.t 60))<|
 eo 62 (.load 3 true (.t 61))<|
 eo 63 (.callv (.t 54) [(.t 58),(.t 62)])<|
 qo 64 (.cmp .lss (.t 63) (I 0))<|
 .nil) (.t 64)<|
 .nil)
 (.cond (.t 65)
 .skip
 (.exit 4)))
 (.prune [12,11,4,0,1] (.block 5 (.ops<|
 qo 66 (.mv (.t 12))<|
 qo 67 (.ar .sub (.t 66) (I 1))<|
 qo 12 (.mv (.t 67))<|
 .nil))))
def j85_3:JC:=
 (.prune [11,12,0,4,1] (.seq (.seq (.ops<|
 qo 68 (.mv (.t 11))<|
 qo 69 (.mv (.t 12))<|
 qo 70 (.cmp .gtr (.t 68) (.t 69))<|
 .nil)
 (.cond (.t 70)
 (.exit 0)
 .skip))
 (.seq (.dops<|
 .prune [0,11,12,4,1]<|
 qo 71 (.mv (.t 0))<|
 qo 72 (.mv (.t 11))<|
 qo 73 (.mv (.t 0))<|
 qo 74 (.mv (.t 12))<|
 qo 75 (.mv (.t 0))<|
 qo 76 (.mv (.t 12))<|
 qo 77 (.is 3 (.t 75) (.t 76))<|
 eo 78 (.load 3 true (.t 77))<|
 .prune [0,11,71,72,78,73,74,12,4,1]<|
 qo 79 (.mv (.t 0))<|
 qo 80 (.mv (.t 11))<|
 qo 81 (.is 3 (.t 79) (.t 80))<|
 eo 82 (.load 3 true (.t 81))<|
 .prune [71,72,78,73,74,82,11,12,4,0,1]<|
 qo 83 (.is 3 (.t 71) (.t 72))<|
 en (.store 3 (.t 83) (.t 78))<|
 qo 84 (.is 3 (.t 73) (.t 74))<|
 en (.store 3 (.t 84) (.t 82))<|
 .nil)
 (.prune [11,12,4,0,1] (.seq (.ops<|
 qo 85 (.mv (.t 11))<|
 qo 86 (.ar .add (.t 85) (I 1))<|
 qo 11 (.mv (.t 86))<|
 .nil)
 (.ops<|
 .prune [12,11,4,0,1]<|
 qo 87 (.mv (.t 12))<|
 qo 88 (.ar .sub (.t 87) (I 1))<|
 qo 12 (.mv (.t 88))<|
 .nil))))))
def j85_4:JC:=
 (.prune [11,12,4,0,1] (.seq (.block 4 (.loop [11,4,0,1] [12] j85_2))
 j85_3))
def j85_5:JC:=
 (.block 1 (.seq (.block 2 (.loop [12,4,0,1] [11] j85_1))
 j85_4))
def j85_6:JC:=
 (.prune [11] (.seq (.ops<|
 qo 89 (.mv (.t 11))<|
 qo 10 (.mv (.t 89))<|
 .nil)
 .ret))
def j85:JC:=
 (.seq (.ops<|
 qo 10 (.mv (I 0))<|
 .nil)
 (.seq (.dops<|
 qo 13 (.mv (.t 0))<|
 qo 14 (.mv (.t 1))<|
 qo 15 (.mv (.t 0))<|
 qo 16 (.mv (.t 3))<|
 qo 17 (.mv (.t 0))<|
 qo 18 (.mv (.t 3))<|
 qo 19 (.is 3 (.t 17) (.t 18))<|
 eo 20 (.load 3 true (.t 19))<|
 qo 21 (.mv (.t 0))<|
 qo 22 (.mv (.t 1))<|
 qo 23 (.is 3 (.t 21) (.t 22))<|
 eo 24 (.load 3 true (.t 23))<|
 .prune [13,14,20,15,16,24,1,2,4,0]<|
 qo 25 (.is 3 (.t 13) (.t 14))<|
 en (.store 3 (.t 25) (.t 20))<|
 qo 26 (.is 3 (.t 15) (.t 16))<|
 en (.store 3 (.t 26) (.t 24))<|
 .nil)
 (.prune [1,2,4,0] (.seq (.ops<|
 qo 27 (.mv (.t 1))<|
 qo 28 (.ar .add (.t 27) (I 1))<|
 qo 29 (.mv (.t 2))<|
 qo 30 (.ar .sub (.t 29) (I 1))<|
 qo 11 (.mv (.t 28))<|
 qo 12 (.mv (.t 30))<|
 .nil)
 (.prune [11,12,4,0,1] (.seq (.block 0 (.loop [4,0,1] [11,12] j85_5))
 j85_6))))))
theorem c85:fnIs Try.prog qall 85=some (j85.flat,[.tmp 10],90):=by kernel_rfl
theorem w85:j85.wf 90=true:=by kernel_rfl
abbrev pU (d:Array Fk) (a:Nat):Fk→Bool:=fun x=>lt x d[a]!
abbrev pD (d:Array Fk) (a:Nat):Fk→Bool:=fun x=> !lt x d[a]!
theorem sc_up (p:Fk→Bool) (d:Array Fk) (j i:Nat) (h1:i≤j) (h2:p d[i]! =true):Sort.scanUp p d j i=Sort.scanUp p d j (i+1):=by
 rw [Sort.scanUp.eq_def,if_pos (ab h1 h2)]
theorem sc_up0 (p:Fk→Bool) (d:Array Fk) (j i:Nat) (h:¬ (i≤j∧p d[i]! =true)):Sort.scanUp p d j i=i:=by
 rw [Sort.scanUp.eq_def,if_neg]
 simp only [Bool.and_eq_true,decide_eq_true_eq];exact h
theorem sc_dn (p:Fk→Bool) (d:Array Fk) (i j:Nat) (h0:0<i) (h1:i≤j) (h2:p d[j]! =true):Sort.scanDown p d i j=Sort.scanDown p d i (j - 1):=by
 cases j with
 |zero=>omega
 |succ j=>rw [Sort.scanDown,if_pos (ab h1 h2)];rfl
theorem sc_dn0 (p:Fk→Bool) (d:Array Fk) (i j:Nat) (h:¬ (i≤j∧p d[j]! =true)):Sort.scanDown p d i j=j:=by
 cases j with
 |zero=>rfl
 |succ j=>
  rw [Sort.scanDown,if_neg]
  simp only [Bool.and_eq_true,decide_eq_true_eq];exact h
theorem pk8 (n0:Nat) (hn:n0=1) (Z:Array Fk) (a j n:Nat) (ha:a<Z.size) (hj:j<Z.size) (hn2:n=Z.size) (τ:Fr) (h0:Sx.look 0 τ= .vec 0 n) (h13:Sx.look 13 τ= .int .i64 j) (h1:Sx.look 1 τ= .int .i64 a):
  JC.wp Gc n0 j86_8 (endF [ResultVar.tmp 10,ResultVar.tmp 11] Try.prog n0 (.tup [.int .i64 j, .bool false]) [mv (Sort.swp Z j a)]) τ [mv Z]:=by
 subst hn
 have r1:a<n:=by omega
 have r2:j<n:=by omega
 unfold j86_8
 simp only [go_sem,seval,h0,h13,h1,mv,rd,r1,r2,ha,hj,wr,wdz,wd_fk,agg_fk,swp_fold,Int.ofNat_lt,Int.ofNat_le,Int.natCast_nonneg]
def L5 (τ:Fr) (i j a n:Nat):Prop:=Sx.look 12 τ= .int .i64 i∧Sx.look 13 τ= .int .i64 j∧Sx.look 4 τ=cF∧Sx.look 0 τ= .vec 0 n∧Sx.look 1 τ= .int .i64 a
theorem pk5 (n0:Nat) (hn:n0=1) (Y:Array Fk) (a i j n:Nat) (hi:0<i) (hj:j<Y.size) (hn2:n=Y.size) (hX:n<1000000) (τ:Fr) (h:L5 τ i j a n) {Q:Ex→Fr→List Res→Prop}
  (hx:j<i→∀ τ',L5 τ' i j a n→Q (.exit 4) τ' [mv Y]) (hq:i≤j→∀ τ',L5 τ' (i+1) (j - 1) a n→Q .norm τ' [mv (Sort.swp Y i j)]):
  JC.wp Gc n0 j86_5 Q τ [mv Y]:=by
 subst hn
 obtain ⟨h12,h13,h4,h0,h1⟩:=h
 by_cases hij:i≤j
 ·have w3:IntKind.i64.wrap ((i:Int)+1)=((i+1:Nat):Int):=IntWalk.i64_in _ (by omega)
  have w4:IntKind.i64.wrap ((j:Int) - 1)=((j - 1:Nat):Int):=by rw [IntWalk.i64_in _ (by omega)];omega
  have r1:i<n:=by omega
  have r2:j<n:=by omega
  have r3:i<Y.size:=by omega
  have hij':¬ j<i:=by omega
  unfold j86_5
  simp only [go_sem,seval,h12,h13,h4,h0,h1,hij',w3,w4,mv,rd,r1,r2,r3,hj,wr,wdz,wd_fk,agg_fk,swp_fold,Int.ofNat_lt,Int.ofNat_le,Int.natCast_nonneg]
  refine hq hij _ ?_
  simp only [go_sem,seval,L5,h12,h13,h4,h0,h1]
 ·have hij':j<i:=by omega
  unfold j86_5
  simp only [go_sem,seval,h12,h13,h4,h0,h1,hij',mv,Int.ofNat_lt,Int.ofNat_le,Int.natCast_nonneg]
  refine hx hij' _ ?_
  simp only [go_sem,seval,L5,h12,h13,h4,h0,h1]
theorem pk6 (n0:Nat) (hn:n0=1) (Y:Array Fk) (a i j n:Nat) (ha:a<i) (hi:i≤j+1) (hj:j<Y.size) (hn2:n=Y.size) (hX:n<1000000) (τ:Fr) (h:L5 τ i j a n) {Q:Ex→Fr→List Res→Prop} (v:Nat) (hv:Sort.scanDown (pD Y a) Y i j=v)
  (hx:v<i→∀ τ',L5 τ' i v a n→Q (.exit 4) τ' [mv Y]) (hq:i≤v→∀ τ',L5 τ' (i+1) (v - 1) a n→Q .norm τ' [mv (Sort.swp Y i v)]):
  JC.wp Gc n0 j86_6 Q τ [mv Y]:=by
 subst hn
 obtain ⟨h12,h13,h4,h0,h1⟩:=h
 have r1:a<n:=by omega
 unfold j86_6
 simp only [go_sem,seval,h12,h13,h4,h0,h1,mv]
 refine loopF Nat (fun j=>[.int .i64 j]) (fun _=>[mv Y]) (fun j'=>j'≤j∧i≤j'+1∧Sort.scanDown (pD Y a) Y i j'=v) (fun j=>j) j ⟨Nat.le_refl _,hi,hv⟩ ?_ rfl ?_
 ·simp only [go_sem,seval]
 rintro k ⟨k0,k1,k2⟩
 by_cases hik:i≤k
 ·have w3:IntKind.i64.wrap ((k:Int) - 1)=((k - 1:Nat):Int):=by rw [IntWalk.i64_in _ (by omega)];omega
  have r3:k<n:=by omega
  unfold j86_4
  simp only [go_sem,seval,hik,w3,Gc_eq,mv,rd,r1,r3,wd_fk,agg_fk,lt_cmp,← hn2,Int.ofNat_lt,Int.ofNat_le,Int.natCast_nonneg]
  refine ⟨fun hl=> ?_,fun hl=> ?_⟩
  ·refine ⟨k - 1,⟨by omega,by omega,?_⟩,by omega,rfl⟩
   rw [← k2,sc_dn _ _ _ _ (by omega) hik (nb1 hl)]
  ·have hvk:v=k:=by rw [← k2,sc_dn0];exact fun x=>nb2 hl x.2
   subst hvk
   refine pk5 1 rfl Y a i v n (by omega) (by omega) hn2 hX _ ?_ (fun c τ' hτ=> ?_) (fun c τ' hτ=> ?_)
   ·simp only [go_sem,seval,L5,h12,h13,h4,h0,h1]
   ·exact hx c τ' hτ
   ·exact hq c τ' hτ
 ·unfold j86_4
  simp only [go_sem,seval,hik,Gc_eq,mv,rd,r1,wd_fk,agg_fk,lt_cmp,← hn2,Int.ofNat_lt,Int.ofNat_le,Int.natCast_nonneg]
  have hvk:v=k:=by rw [← k2,sc_dn0];exact fun x=>hik x.1
  subst hvk
  refine pk5 1 rfl Y a i v n (by omega) (by omega) hn2 hX _ ?_ (fun c τ' hτ=> ?_) (fun c τ' hτ=> ?_)
  ·simp only [go_sem,seval,L5,h12,h13,h4,h0,h1]
  ·exact hx c τ' hτ
  ·exact hq c τ' hτ
theorem pk7 (n0:Nat) (hn:n0=1) (Y:Array Fk) (a i j n:Nat) (ha:a<i) (hi:i≤j+1) (hj:j<Y.size) (hn2:n=Y.size) (hX:n<1000000) (τ:Fr) (h:L5 τ i j a n) {Q:Ex→Fr→List Res→Prop} (u v:Nat) (hu:Sort.scanUp (pU Y a) Y j i=u) (hv:Sort.scanDown (pD Y a) Y u j=v)
  (hx:v<u→∀ τ',L5 τ' u v a n→Q (.exit 4) τ' [mv Y]) (hq:u≤v→∀ τ',L5 τ' (u+1) (v - 1) a n→Q .norm τ' [mv (Sort.swp Y u v)]):
  JC.wp Gc n0 j86_7 Q τ [mv Y]:=by
 subst hn
 obtain ⟨h12,h13,h4,h0,h1⟩:=h
 have r1:a<n:=by omega
 unfold j86_7
 simp only [go_sem,seval,h12,h13,h4,h0,h1,mv]
 refine loopF Nat (fun j=>[.int .i64 j]) (fun _=>[mv Y]) (fun i'=>a<i'∧i'≤j+1∧Sort.scanUp (pU Y a) Y j i'=u) (fun i'=>j+1 - i') i ⟨ha,hi,hu⟩ ?_ rfl ?_
 ·simp only [go_sem,seval,h12]
 rintro k ⟨k0,k1,k2⟩
 have w3:IntKind.i64.wrap ((k:Int)+1)=((k+1:Nat):Int):=IntWalk.i64_in _ (by omega)
 by_cases hik:k≤j
 ·have r3:k<n:=by omega
  unfold j86_3
  simp only [go_sem,seval,h12,h13,h4,h0,h1,hik,w3,Gc_eq,mv,rd,r1,r3,wd_fk,agg_fk,lt_cmp,← hn2,Int.ofNat_lt,Int.ofNat_le,Int.natCast_nonneg]
  refine ⟨fun hl=> ?_,fun hl=> ?_⟩
  ·refine ⟨k+1,⟨by omega,by omega,?_⟩,by omega,rfl⟩
   rw [← k2,sc_up _ _ _ _ hik hl]
  ·have hvk:u=k:=by rw [← k2,sc_up0];exact fun x=>hl x.2
   subst hvk
   refine pk6 1 rfl Y a u j n k0 (by omega) (by omega) hn2 hX _ ?_ v hv (fun c τ' hτ=> ?_) (fun c τ' hτ=> ?_)
   ·simp only [go_sem,seval,L5,h12,h13,h4,h0,h1]
   ·simp only [go_sem,seval]
    exact hx c τ' hτ
   ·exact hq c τ' hτ
 ·unfold j86_3
  simp only [go_sem,seval,h12,h13,h4,h0,h1,hik,Gc_eq,mv,rd,r1,wd_fk,agg_fk,lt_cmp,← hn2,Int.ofNat_lt,Int.ofNat_le,Int.natCast_nonneg]
  have hvk:u=k:=by rw [← k2,sc_up0];exact fun x=>hik x.1
  subst hvk
  refine pk6 1 rfl Y a u j n k0 (by omega) (by omega) hn2 hX _ ?_ v hv (fun c τ' hτ=> ?_) (fun c τ' hτ=> ?_)
  ·simp only [go_sem,seval,L5,h12,h13,h4,h0,h1]
  ·exact hx c τ' hτ
  ·exact hq c τ' hτ
theorem scans (p q:Fk→Bool) (hq:∀ x,q x= !p x) (d:Array Fk) {i j u v:Nat} (hi:0<i) (hij:i≤j+1) (hu:Sort.scanUp p d j i=u) (hv:Sort.scanDown q d u j=v):
  i≤u∧u≤j+1∧v≤j∧u≤v+1∧(u≤v→u<v):=by
 subst hu hv
 obtain ⟨h1,h2,h3,h4,_,_,h5⟩:=Sort.round_facts p q hq d (i - 1) (j+1) i j (by omega) hij (fun t a b=>by omega) (fun t a b=>by omega)
 exact ⟨h1,h2,h3,h4,fun h=>(h5 (by omega)).2.2⟩
theorem pk9 (n0:Nat) (hn:n0=1) (Z:Array Fk) (a u v n:Nat) (hau:a<u) (huv:u≤v+1) (huv2:u≤v→u<v) (hv:v<Z.size) (hn2:n=Z.size) (hX:n<1000000) (τ:Fr) (h:L5 τ u v a n) (r:Nat×Array Fk) (hr:Sort.partLoop lt a (u+1) (v - 1) (Sort.swp Z u v)=r) (P:Nat×Bool×Array Fk)
  (hP:P=if u>v then (v,true,Sort.swp Z v a) else (r.1,false,Sort.swp r.2 r.1 a)):
  JC.wp Gc n0 j86_9 (endF [ResultVar.tmp 10,ResultVar.tmp 11] Try.prog n0 (.tup [.int .i64 P.1, .bool P.2.1]) [mv P.2.2]) τ [mv Z]:=by
 subst hn
 obtain ⟨h12,h13,h4,h0,h1⟩:=h
 have r1:a<n:=by omega
 have r2:v<n:=by omega
 by_cases hgt:v<u
 ·rw [if_pos hgt] at hP
  subst hP
  unfold j86_9
  simp only [go_sem,seval,h12,h13,h4,h0,h1,hgt,mv,rd,r1,r2,hv,wr,wdz,wd_fk,agg_fk,swp_fold,← hn2,Int.ofNat_lt,Int.ofNat_le,Int.natCast_nonneg]
 ·rw [if_neg hgt] at hP
  subst hP
  have r3:u<n:=by omega
  have w3:IntKind.i64.wrap ((u:Int)+1)=((u+1:Nat):Int):=IntWalk.i64_in _ (by omega)
  have w4:IntKind.i64.wrap ((v:Int) - 1)=((v - 1:Nat):Int):=by rw [IntWalk.i64_in _ (by omega)];omega
  unfold j86_9
  simp only [go_sem,seval,h12,h13,h4,h0,h1,hgt,w3,w4,mv,rd,r1,r2,r3,hv,wr,wdz,wd_fk,agg_fk,swp_fold,← hn2,Int.ofNat_lt,Int.ofNat_le,Int.natCast_nonneg]
  refine loopF (Nat×Nat×Array Fk) (fun s=>[.int .i64 s.1, .int .i64 s.2.1]) (fun s=>[mv s.2.2]) (fun s=>(a<s.1∧s.1≤s.2.1+1)∧(s.2.1<n∧s.2.2.size=n)∧Sort.partLoop lt a s.1 s.2.1 s.2.2=r) (fun s=>s.2.1+1 - s.1) (u+1,v - 1,Sort.swp Z u v) ⟨⟨by simp only;omega,by simp only;omega⟩,⟨by simp only;omega,by rw [swp_size];omega⟩,hr⟩ ?_ rfl ?_
  ·simp only [go_sem,seval]
  rintro ⟨i,j,Y⟩ ⟨⟨k0,k1⟩,⟨k2,k3⟩,k4⟩
  simp only at k0 k1 k2 k3 k4
  obtain ⟨u',hu'⟩:∃ u',Sort.scanUp (pU Y a) Y j i=u':=⟨_,rfl⟩
  obtain ⟨v',hv'⟩:∃ v',Sort.scanDown (pD Y a) Y u' j=v':=⟨_,rfl⟩
  obtain ⟨q1,q2,q3,q4,q5⟩:=scans (pU Y a) (pD Y a) (fun _=>rfl) Y (by omega) k1 hu' hv'
  have hpe:=Sort.partLoop_eq lt a i j Y
  rw [show Sort.scanUp (fun x=>lt x Y[a]!) Y j i=u' from hu',show Sort.scanDown (fun x=> !lt x Y[a]!) Y u' j=v' from hv',k4] at hpe
  refine pk7 1 rfl Y a i j n k0 k1 (by omega) k3.symm hX _ ?_ u' v' hu' hv' (fun c τ' hτ=> ?_) (fun c τ' hτ=> ?_)
  ·simp only [go_sem,seval,L5]
  ·obtain ⟨g12,g13,g4,g0,g1⟩:=hτ
   simp only [go_sem,seval]
   rw [if_pos c] at hpe
   subst hpe
   exact pk8 1 rfl Y a v' n (by omega) (by omega) k3.symm τ' g0 g13 g1
  ·obtain ⟨g12,g13,g4,g0,g1⟩:=hτ
   rw [if_neg (by omega)] at hpe
   refine ⟨(u'+1,v' - 1,Sort.swp Y u' v'),⟨⟨by simp only;omega,by have:=q5 c;simp only;omega⟩,⟨by simp only;omega,by simp only;rw [swp_size];exact k3⟩,hpe.symm⟩,by simp only;omega,Nat.le_refl _,?_,?_,?_⟩
   ·simp only [go_sem,seval,g12,g13]
   ·simp only [go_sem,seval,g4,g0,g1]
   ·simp only [go_sem,seval,mv]
theorem pk10 (n0:Nat) (hn:n0=1) (Z:Array Fk) (a i j u v n:Nat) (ha:a<i) (hi:i≤j+1) (hj:j<Z.size) (hn2:n=Z.size) (hX:n<1000000) (hU:Sort.scanUp (pU Z a) Z j i=u) (hv:Sort.scanDown (pD Z a) Z u j=v) (τ:Fr) (h:L5 τ u j a n) (r:Nat×Array Fk) (hr:Sort.partLoop lt a (u+1) (v - 1) (Sort.swp Z u v)=r) (P:Nat×Bool×Array Fk)
  (hP:P=if u>v then (v,true,Sort.swp Z v a) else (r.1,false,Sort.swp r.2 r.1 a)):
  JC.wp Gc n0 j86_10 (endF [ResultVar.tmp 10,ResultVar.tmp 11] Try.prog n0 (.tup [.int .i64 P.1, .bool P.2.1]) [mv P.2.2]) τ [mv Z]:=by
 subst hn
 obtain ⟨h12,h13,h4,h0,h1⟩:=h
 obtain ⟨q1,q2,q3,q4,q5⟩:=scans (pU Z a) (pD Z a) (fun _=>rfl) Z (by omega) hi hU hv
 have r1:a<n:=by omega
 unfold j86_10
 simp only [go_sem,seval,h12,h13,h4,h0,h1,mv]
 refine loopF Nat (fun j=>[.int .i64 j]) (fun _=>[mv Z]) (fun j'=>j'≤j∧u≤j'+1∧Sort.scanDown (pD Z a) Z u j'=v) (fun j=>j) j ⟨Nat.le_refl _,q2,hv⟩ ?_ rfl ?_
 ·simp only [go_sem,seval,h13]
 rintro k ⟨k0,k1,k2⟩
 by_cases hik:u≤k
 ·have w3:IntKind.i64.wrap ((k:Int) - 1)=((k - 1:Nat):Int):=by rw [IntWalk.i64_in _ (by omega)];omega
  have r3:k<n:=by omega
  unfold j86_2
  simp only [go_sem,seval,h12,h13,h4,h0,h1,hik,w3,Gc_eq,mv,rd,r1,r3,wd_fk,agg_fk,lt_cmp,← hn2,Int.ofNat_lt,Int.ofNat_le,Int.natCast_nonneg]
  refine ⟨fun hl=> ?_,fun hl=> ?_⟩
  ·refine ⟨k - 1,⟨by omega,by omega,?_⟩,by omega,rfl⟩
   rw [← k2,sc_dn _ _ _ _ (by omega) hik (nb1 hl)]
  ·have hvk:v=k:=by rw [← k2,sc_dn0];exact fun x=>nb2 hl x.2
   subst hvk
   refine pk9 1 rfl Z a u v n (by omega) q4 q5 (by omega) hn2 hX _ ?_ r hr P hP
   simp only [go_sem,seval,L5,h12,h13,h4,h0,h1]
 ·unfold j86_2
  simp only [go_sem,seval,h12,h13,h4,h0,h1,hik,Gc_eq,mv,rd,r1,wd_fk,agg_fk,lt_cmp,← hn2,Int.ofNat_lt,Int.ofNat_le,Int.natCast_nonneg]
  have hvk:v=k:=by rw [← k2,sc_dn0];exact fun x=>hik x.1
  subst hvk
  refine pk9 1 rfl Z a u v n (by omega) q4 q5 (by omega) hn2 hX _ ?_ r hr P hP
  simp only [go_sem,seval,L5,h12,h13,h4,h0,h1]
theorem f_part (X:Array Fk) (a b pv:Nat) (hb:b≤X.size) (hX:X.size<1000000) (ha:a≤pv) (hp:pv<b):
  FnOK Try.prog main Fz 86 [.vec 0 X.size, .int .i64 a, .int .i64 b, .int .i64 pv,cF] [mv X]
   (.tup [.int .i64 (Sort.partition lt X a b pv).1, .bool (Sort.partition lt X a b pv).2.1]) [mv (Sort.partition lt X a b pv).2.2]:=by
 refine fn_walkF c86 w86 Gc_ok rfl ?_
 have w1:IntKind.i64.wrap ((a:Int)+1)=((a+1:Nat):Int):=IntWalk.i64_in _ (by omega)
 have w2:IntKind.i64.wrap ((b:Int) - 1)=((b - 1:Nat):Int):=by rw [IntWalk.i64_in _ (by omega)];omega
 have r1:a<X.size:=by omega
 have r2:pv<X.size:=by omega
 unfold j86
 simp only [go_sem,seval,mv,w1,w2,rd,r1,r2,wr,wdz,wd_fk,agg_fk,swp_fold,Int.ofNat_lt,Int.ofNat_le,Int.natCast_nonneg]
 obtain ⟨Z,hZ⟩:∃ Z,Z=Sort.swp X a pv:=⟨_,rfl⟩
 have hZs:Z.size=X.size:=by rw [hZ,swp_size]
 obtain ⟨u,hU⟩:∃ u,Sort.scanUp (pU Z a) Z (b - 1) (a+1)=u:=⟨_,rfl⟩
 obtain ⟨v,hV⟩:∃ v,Sort.scanDown (pD Z a) Z u (b - 1)=v:=⟨_,rfl⟩
 obtain ⟨r,hR⟩:∃ r,Sort.partLoop lt a (u+1) (v - 1) (Sort.swp Z u v)=r:=⟨_,rfl⟩
 have hP:Sort.partition lt X a b pv=if u>v then (v,true,Sort.swp Z v a) else (r.1,false,Sort.swp r.2 r.1 a):=by
  rw [← hR,← hV,← hU,hZ];rfl
 rw [← hZ]
 clear hZ
 generalize Sort.partition lt X a b pv=P at hP
 refine loopF Nat (fun i=>[.int .i64 i]) (fun i=>[mv Z]) (fun i=>a<i∧i≤b∧Sort.scanUp (pU Z a) Z (b - 1) i=u) (fun i=>b - i) (a+1) ⟨by omega,by omega,hU⟩ ?_ rfl ?_
 ·simp only [go_sem,seval]
 rintro i ⟨h0,h1,h2⟩
 have w3:IntKind.i64.wrap ((i:Int)+1)=((i+1:Nat):Int):=IntWalk.i64_in _ (by omega)
 by_cases hi:i≤b - 1
 ·have r3:i<X.size:=by omega
  unfold j86_1
  simp only [go_sem,seval,hi,w3,Gc_eq,mv,rd,r1,r3,wd_fk,agg_fk,lt_cmp,hZs,Int.ofNat_lt,Int.ofNat_le,Int.natCast_nonneg]
  refine ⟨fun hl=> ?_,fun hl=> ?_⟩
  ·refine ⟨i+1,⟨by omega,by omega,?_⟩,by omega,rfl⟩
   rw [← h2,sc_up _ _ _ _ hi hl]
  ·have hvk:u=i:=by rw [← h2,sc_up0];exact fun x=>hl x.2
   subst hvk
   refine pk10 _ rfl Z a (a+1) (b - 1) u v X.size (by omega) (by omega) (by omega) hZs.symm hX hU hV _ ?_ r hR P hP
   simp only [go_sem,seval,L5]
 ·unfold j86_1
  simp only [go_sem,seval,hi,w3,Gc_eq,mv,rd,r1,wd_fk,agg_fk,lt_cmp,hZs,Int.ofNat_lt,Int.ofNat_le,Int.natCast_nonneg]
  have hvk:u=i:=by rw [← h2,sc_up0];exact fun x=>hi x.1
  subst hvk
  refine pk10 _ rfl Z a (a+1) (b - 1) u v X.size (by omega) (by omega) (by omega) hZs.symm hX hU hV _ ?_ r hR P hP
  simp only [go_sem,seval,L5]
abbrev eU (d:Array Fk) (a:Nat):Fk→Bool:=fun x=> !lt d[a]! x
abbrev eD (d:Array Fk) (a:Nat):Fk→Bool:=fun x=>lt d[a]! x
theorem eq_neg (d:Array Fk) (a:Nat):∀ x,eD d a x= !eU d a x:=fun x=>by simp
def L6 (τ:Fr) (i j a n:Nat):Prop:=Sx.look 11 τ= .int .i64 i∧Sx.look 12 τ= .int .i64 j∧Sx.look 4 τ=cF∧Sx.look 0 τ= .vec 0 n∧Sx.look 1 τ= .int .i64 a
theorem qk3 (n0:Nat) (hn:n0=1) (Y:Array Fk) (a i j n:Nat) (hi:0<i) (hj:j<Y.size) (hn2:n=Y.size) (hX:n<1000000) (τ:Fr) (h:L6 τ i j a n) {Q:Ex→Fr→List Res→Prop}
  (hx:j<i→∀ τ',L6 τ' i j a n→Q (.exit 0) τ' [mv Y]) (hq:i≤j→∀ τ',L6 τ' (i+1) (j - 1) a n→Q .norm τ' [mv (Sort.swp Y i j)]):
  JC.wp Gc n0 j85_3 Q τ [mv Y]:=by
 subst hn
 obtain ⟨h11,h12,h4,h0,h1⟩:=h
 by_cases hij:i≤j
 ·have w3:IntKind.i64.wrap ((i:Int)+1)=((i+1:Nat):Int):=IntWalk.i64_in _ (by omega)
  have w4:IntKind.i64.wrap ((j:Int) - 1)=((j - 1:Nat):Int):=by rw [IntWalk.i64_in _ (by omega)];omega
  have r1:i<n:=by omega
  have r2:j<n:=by omega
  have r3:i<Y.size:=by omega
  have hij':¬ j<i:=by omega
  unfold j85_3
  simp only [go_sem,seval,h11,h12,h4,h0,h1,hij',w3,w4,mv,rd,r1,r2,r3,hj,wr,wdz,wd_fk,agg_fk,swp_fold,Int.ofNat_lt,Int.ofNat_le,Int.natCast_nonneg]
  refine hq hij _ ?_
  simp only [go_sem,seval,L6,h11,h12,h4,h0,h1]
 ·have hij':j<i:=by omega
  unfold j85_3
  simp only [go_sem,seval,h11,h12,h4,h0,h1,hij',mv,Int.ofNat_lt,Int.ofNat_le,Int.natCast_nonneg]
  refine hx hij' _ ?_
  simp only [go_sem,seval,L6,h11,h12,h4,h0,h1]
theorem qk4 (n0:Nat) (hn:n0=1) (Y:Array Fk) (a i j n:Nat) (ha:a<i) (hi:i≤j+1) (hj:j<Y.size) (hn2:n=Y.size) (hX:n<1000000) (τ:Fr) (h:L6 τ i j a n) {Q:Ex→Fr→List Res→Prop} (v:Nat) (hv:Sort.scanDown (eD Y a) Y i j=v)
  (hx:v<i→∀ τ',L6 τ' i v a n→Q (.exit 0) τ' [mv Y]) (hq:i≤v→∀ τ',L6 τ' (i+1) (v - 1) a n→Q .norm τ' [mv (Sort.swp Y i v)]):
  JC.wp Gc n0 j85_4 Q τ [mv Y]:=by
 subst hn
 obtain ⟨h11,h12,h4,h0,h1⟩:=h
 have r1:a<n:=by omega
 unfold j85_4
 simp only [go_sem,seval,h11,h12,h4,h0,h1,mv]
 refine loopF Nat (fun j=>[.int .i64 j]) (fun _=>[mv Y]) (fun j'=>j'≤j∧i≤j'+1∧Sort.scanDown (eD Y a) Y i j'=v) (fun j=>j) j ⟨Nat.le_refl _,hi,hv⟩ ?_ rfl ?_
 ·simp only [go_sem,seval,h12]
 rintro k ⟨k0,k1,k2⟩
 by_cases hik:i≤k
 ·have w3:IntKind.i64.wrap ((k:Int) - 1)=((k - 1:Nat):Int):=by rw [IntWalk.i64_in _ (by omega)];omega
  have r3:k<n:=by omega
  unfold j85_2
  simp only [go_sem,seval,h11,h12,h4,h0,h1,hik,w3,Gc_eq,mv,rd,r1,r3,wd_fk,agg_fk,lt_cmp,← hn2,Int.ofNat_lt,Int.ofNat_le,Int.natCast_nonneg]
  refine ⟨fun hl=> ?_,fun hl=> ?_⟩
  ·refine ⟨k - 1,⟨by omega,by omega,?_⟩,by omega,rfl⟩
   rw [← k2,sc_dn _ _ _ _ (by omega) hik hl]
  ·have hvk:v=k:=by rw [← k2,sc_dn0];exact fun x=>hl x.2
   subst hvk
   refine qk3 1 rfl Y a i v n (by omega) (by omega) hn2 hX _ ?_ (fun c τ' hτ=> ?_) (fun c τ' hτ=> ?_)
   ·simp only [go_sem,seval,L6,h11,h12,h4,h0,h1]
   ·exact hx c τ' hτ
   ·exact hq c τ' hτ
 ·unfold j85_2
  simp only [go_sem,seval,h11,h12,h4,h0,h1,hik,Gc_eq,mv,rd,r1,wd_fk,agg_fk,lt_cmp,← hn2,Int.ofNat_lt,Int.ofNat_le,Int.natCast_nonneg]
  have hvk:v=k:=by rw [← k2,sc_dn0];exact fun x=>hik x.1
  subst hvk
  refine qk3 1 rfl Y a i v n (by omega) (by omega) hn2 hX _ ?_ (fun c τ' hτ=> ?_) (fun c τ' hτ=> ?_)
  ·simp only [go_sem,seval,L6,h11,h12,h4,h0,h1]
  ·exact hx c τ' hτ
  ·exact hq c τ' hτ
theorem qk5 (n0:Nat) (hn:n0=1) (Y:Array Fk) (a i j n:Nat) (ha:a<i) (hi:i≤j+1) (hj:j<Y.size) (hn2:n=Y.size) (hX:n<1000000) (τ:Fr) (h:L6 τ i j a n) {Q:Ex→Fr→List Res→Prop} (u v:Nat) (hu:Sort.scanUp (eU Y a) Y j i=u) (hv:Sort.scanDown (eD Y a) Y u j=v)
  (hx:v<u→∀ τ',L6 τ' u v a n→Q (.exit 0) τ' [mv Y]) (hq:u≤v→∀ τ',L6 τ' (u+1) (v - 1) a n→Q .norm τ' [mv (Sort.swp Y u v)]):
  JC.wp Gc n0 j85_5 Q τ [mv Y]:=by
 subst hn
 obtain ⟨h11,h12,h4,h0,h1⟩:=h
 have r1:a<n:=by omega
 unfold j85_5
 simp only [go_sem,seval,h11,h12,h4,h0,h1,mv]
 refine loopF Nat (fun j=>[.int .i64 j]) (fun _=>[mv Y]) (fun i'=>a<i'∧i'≤j+1∧Sort.scanUp (eU Y a) Y j i'=u) (fun i'=>j+1 - i') i ⟨ha,hi,hu⟩ ?_ rfl ?_
 ·simp only [go_sem,seval,h11]
 rintro k ⟨k0,k1,k2⟩
 have w3:IntKind.i64.wrap ((k:Int)+1)=((k+1:Nat):Int):=IntWalk.i64_in _ (by omega)
 by_cases hik:k≤j
 ·have r3:k<n:=by omega
  unfold j85_1
  simp only [go_sem,seval,h11,h12,h4,h0,h1,hik,w3,Gc_eq,mv,rd,r1,r3,wd_fk,agg_fk,lt_cmp,← hn2,Int.ofNat_lt,Int.ofNat_le,Int.natCast_nonneg]
  refine ⟨fun hl=> ?_,fun hl=> ?_⟩
  ·refine ⟨k+1,⟨by omega,by omega,?_⟩,by omega,rfl⟩
   rw [← k2,sc_up _ _ _ _ hik (nb1 hl)]
  ·have hvk:u=k:=by rw [← k2,sc_up0];exact fun x=>nb2 hl x.2
   subst hvk
   refine qk4 1 rfl Y a u j n k0 (by omega) (by omega) hn2 hX _ ?_ v hv (fun c τ' hτ=> ?_) (fun c τ' hτ=> ?_)
   ·simp only [go_sem,seval,L6,h11,h12,h4,h0,h1]
   ·exact hx c τ' hτ
   ·exact hq c τ' hτ
 ·unfold j85_1
  simp only [go_sem,seval,h11,h12,h4,h0,h1,hik,Gc_eq,mv,rd,r1,wd_fk,agg_fk,lt_cmp,← hn2,Int.ofNat_lt,Int.ofNat_le,Int.natCast_nonneg]
  have hvk:u=k:=by rw [← k2,sc_up0];exact fun x=>hik x.1
  subst hvk
  refine qk4 1 rfl Y a u j n k0 (by omega) (by omega) hn2 hX _ ?_ v hv (fun c τ' hτ=> ?_) (fun c τ' hτ=> ?_)
  ·simp only [go_sem,seval,L6,h11,h12,h4,h0,h1]
  ·exact hx c τ' hτ
  ·exact hq c τ' hτ
theorem f_partEq (X:Array Fk) (a b pv:Nat) (hb:b≤X.size) (hX:X.size<1000000) (ha:a≤pv) (hp:pv<b):
  FnOK Try.prog main Fz 85 [.vec 0 X.size, .int .i64 a, .int .i64 b, .int .i64 pv,cF] [mv X]
   (.int .i64 (Sort.partitionEqual lt X a b pv).1) [mv (Sort.partitionEqual lt X a b pv).2]:=by
 refine fn_walkF c85 w85 Gc_ok rfl ?_
 have w1:IntKind.i64.wrap ((a:Int)+1)=((a+1:Nat):Int):=IntWalk.i64_in _ (by omega)
 have w2:IntKind.i64.wrap ((b:Int) - 1)=((b - 1:Nat):Int):=by rw [IntWalk.i64_in _ (by omega)];omega
 have r1:a<X.size:=by omega
 have r2:pv<X.size:=by omega
 unfold j85
 simp only [go_sem,seval,mv,w1,w2,rd,r1,r2,wr,wdz,wd_fk,agg_fk,swp_fold,Int.ofNat_lt,Int.ofNat_le,Int.natCast_nonneg]
 obtain ⟨Z,hZ⟩:∃ Z,Z=Sort.swp X a pv:=⟨_,rfl⟩
 have hZs:Z.size=X.size:=by rw [hZ,swp_size]
 obtain ⟨r,hR⟩:∃ r,Sort.partEqLoop lt a (a+1) (b - 1) Z=r:=⟨_,rfl⟩
 have hP:Sort.partitionEqual lt X a b pv=r:=by rw [← hR,hZ];rfl
 rw [← hZ,hP]
 clear hZ hP
 refine loopF (Nat×Nat×Array Fk) (fun s=>[.int .i64 s.1, .int .i64 s.2.1]) (fun s=>[mv s.2.2]) (fun s=>(a<s.1∧s.1≤s.2.1+1)∧(s.2.1<X.size∧s.2.2.size=X.size)∧Sort.partEqLoop lt a s.1 s.2.1 s.2.2=r) (fun s=>s.2.1+1 - s.1) (a+1,b - 1,Z) ⟨⟨by simp only;omega,by simp only;omega⟩,⟨by simp only;omega,hZs⟩,hR⟩ ?_ rfl ?_
 ·simp only [go_sem,seval]
 rintro ⟨i,j,Y⟩ ⟨⟨k0,k1⟩,⟨k2,k3⟩,k4⟩
 simp only at k0 k1 k2 k3 k4
 obtain ⟨u',hu'⟩:∃ u',Sort.scanUp (eU Y a) Y j i=u':=⟨_,rfl⟩
 obtain ⟨v',hv'⟩:∃ v',Sort.scanDown (eD Y a) Y u' j=v':=⟨_,rfl⟩
 obtain ⟨q1,q2,q3,q4,q5⟩:=scans (eU Y a) (eD Y a) (eq_neg Y a) Y (by omega) k1 hu' hv'
 have hpe:=Sort.partEqLoop_eq lt a i j Y
 rw [show Sort.scanUp (fun x=> !lt Y[a]! x) Y j i=u' from hu',show Sort.scanDown (fun x=>lt Y[a]! x) Y u' j=v' from hv',k4] at hpe
 refine qk5 _ rfl Y a i j X.size k0 k1 (by omega) k3.symm hX _ ?_ u' v' hu' hv' (fun c τ' hτ=> ?_) (fun c τ' hτ=> ?_)
 ·simp only [go_sem,seval,L6]
 ·obtain ⟨g11,g12,g4,g0,g1⟩:=hτ
  rw [if_pos c] at hpe
  subst hpe
  unfold j85_6
  simp only [go_sem,seval,g11,mv]
 ·obtain ⟨g11,g12,g4,g0,g1⟩:=hτ
  rw [if_neg (by omega)] at hpe
  refine ⟨(u'+1,v' - 1,Sort.swp Y u' v'),⟨⟨by simp only;omega,by have:=q5 c;simp only;omega⟩,⟨by simp only;omega,by simp only;rw [swp_size];exact k3⟩,hpe.symm⟩,by simp only;omega,Nat.le_refl _,?_,?_,?_⟩
  ·simp only [go_sem,seval,g11,g12]
  ·simp only [go_sem,seval,g4,g0,g1]
  ·simp only [go_sem,seval,mv]
end Go.Proofs.Ytpajfggdnobheaa.Srt
end
