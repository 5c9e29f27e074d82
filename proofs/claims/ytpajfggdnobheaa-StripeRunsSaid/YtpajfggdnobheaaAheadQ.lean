/- A part of the proof of StripeRuns. Conditions: none. -/
import Derived.Test.YtpajfggdnobheaaPairsD
import Derived.Test.YtpajfggdnobheaaTraceR
import Derived.Test.YtpajfggdnobheaaEqs
set_option linter.unusedVariables false
set_option linter.unusedSimpArgs false
section
set_option maxRecDepth 100000
open Go Go.Sx Go.Proofs
namespace Go.Proofs.Ytpajfggdnobheaa.Od
variable {main:Bool} {Fz:Nat→Prop}
open Go.Proofs.Ytpajfggdnobheaa.D Go.Proofs.Ytpajfggdnobheaa.Tr Go.Proofs.Ytpajfggdnobheaa.Ps Go.Proofs.Ytpajfggdnobheaa.Eqs
def j49:JC:=
 (.seq (.ops<|
 eo 2 (.box 59 (.t 0))<|
 eo 3 (.box 59 (.t 1))<|
 qo 4 (.mv (B false))<|
 .nil)
 (.seq (.ops<|
 qo 5 (.fa 1 1 (.t 2))<|
 eo 6 (.load 1 false (.t 5))<|
 qo 7 (.fa 1 1 (.t 3))<|
 eo 8 (.load 1 false (.t 7))<|
 .prune [6,8,2,3]<|
 qo 9 (.cmp .eql (.t 6) (.t 8))<|
 qo 10 (.mv (.t 9))<|
 .sc true 26 10 (qo 11 (.fa 0 0 (.t 2))<|
 eo 12 (.load 1 false (.t 11))<|
 qo 13 (.cmp .eql (.t 12) (I 4))<|
 qo 14 (.mv (.t 13))<|
 .sc false 18 14 (qo 15 (.fa 0 0 (.t 3))<|
 eo 16 (.load 1 false (.t 15))<|
 qo 17 (.cmp .eql (.t 16) (I 3))<|
 .nil) (.t 17)<|
 qo 19 (.mv (.t 18))<|
 .sc false 25 19 (qo 20 (.fa 2 2 (.t 2))<|
 eo 21 (.load 1 false (.t 20))<|
 qo 22 (.fa 2 2 (.t 3))<|
 eo 23 (.load 1 false (.t 22))<|
 qo 24 (.cmp .eql (.t 21) (.t 23))<|
 .nil) (.t 24)<|
 .nil) (.t 25)<|
 .prune [26,2,3]<|
 qo 27 (.mv (.t 26))<|
 .sc true 38 27 (qo 28 (.fa 0 0 (.t 2))<|
 eo 29 (.load 1 false (.t 28))<|
 qo 30 (.cmp .eql (.t 29) (I 5))<|
 qo 31 (.mv (.t 30))<|
 .sc false 37 31 (qo 32 (.fa 1 1 (.t 3))<|
 eo 33 (.load 1 false (.t 32))<|
 qo 34 (.fa 2 2 (.t 2))<|
 eo 35 (.load 1 false (.t 34))<|
 qo 36 (.cmp .eql (.t 33) (.t 35))<|
 .nil) (.t 36)<|
 .nil) (.t 37)<|
 qo 39 (.mv (.t 38))<|
 .sc true 50 39 (qo 40 (.fa 0 0 (.t 3))<|
 eo 41 (.load 1 false (.t 40))<|
 qo 42 (.cmp .eql (.t 41) (I 6))<|
 qo 43 (.mv (.t 42))<|
 .sc false 49 43 (qo 44 (.fa 1 1 (.t 2))<|
 eo 45 (.load 1 false (.t 44))<|
 qo 46 (.fa 2 2 (.t 3))<|
 eo 47 (.load 1 false (.t 46))<|
 qo 48 (.cmp .eql (.t 45) (.t 47))<|
 .nil) (.t 48)<|
 .nil) (.t 49)<|
 .prune [50,2,3]<|
 qo 51 (.mv (.t 50))<|
 .sc true 67 51 (qo 52 (.fa 0 0 (.t 2))<|
 eo 53 (.load 1 false (.t 52))<|
 qo 54 (.cmp .eql (.t 53) (I 8))<|
 qo 55 (.mv (.t 54))<|
 .sc false 59 55 (qo 56 (.fa 0 0 (.t 3))<|
 eo 57 (.load 1 false (.t 56))<|
 qo 58 (.cmp .eql (.t 57) (I 7))<|
 .nil) (.t 58)<|
 qo 60 (.mv (.t 59))<|
 .sc false 66 60 (qo 61 (.fa 2 2 (.t 2))<|
 eo 62 (.load 1 false (.t 61))<|
 qo 63 (.fa 2 2 (.t 3))<|
 eo 64 (.load 1 false (.t 63))<|
 qo 65 (.cmp .eql (.t 62) (.t 64))<|
 .nil) (.t 65)<|
 .nil) (.t 66)<|
 qo 68 (.mv (.t 67))<|
 .sc true 84 68 (qo 69 (.fa 0 0 (.t 2))<|
 eo 70 (.load 1 false (.t 69))<|
 qo 71 (.cmp .eql (.t 70) (I 5))<|
 qo 72 (.mv (.t 71))<|
 .sc false 76 72 (qo 73 (.fa 0 0 (.t 3))<|
 eo 74 (.load 1 false (.t 73))<|
 qo 75 (.cmp .eql (.t 74) (I 6))<|
 .nil) (.t 75)<|
 qo 77 (.mv (.t 76))<|
 .sc false 83 77 (qo 78 (.fa 2 2 (.t 2))<|
 eo 79 (.load 1 false (.t 78))<|
 qo 80 (.fa 2 2 (.t 3))<|
 eo 81 (.load 1 false (.t 80))<|
 qo 82 (.cmp .eql (.t 79) (.t 81))<|
 .nil) (.t 82)<|
 .nil) (.t 83)<|
 qo 4 (.mv (.t 84))<|
 .nil)
 .ret))
theorem c49:fnIs Try.prog qall 49=some (j49.flat,[.tmp 4],85):=by kernel_rfl
theorem w49:j49.wf 85=true:=by kernel_rfl
def dirP (a b:Ev):Bool:=decide (a.thr=b.thr)||decide (a.kind=4)&&decide (b.kind=3)&&decide (a.obj=b.obj)||decide (a.kind=5)&&decide (a.obj=b.thr)||
 decide (b.kind=6)&&decide (b.obj=a.thr)||decide (a.kind=8)&&decide (b.kind=7)&&decide (a.obj=b.obj)||decide (a.kind=5)&&decide (b.kind=6)&&decide (a.obj=b.obj)
theorem f_RDirectly (a b:Ev):FnOK Try.prog main Fz 49 [dEv.emb a,dEv.emb b] [] (.bool (dirP a b)) []:=by
 refine fn_walkF c49 w49 FH.none_ok rfl ?_
 unfold j49
 simp only [go_sem,seval]
 unfold dirP
 rw [show decide (b.thr=a.obj)=decide (a.obj=b.thr) from decide_eq_decide.2 eq_comm,show decide (a.thr=b.obj)=decide (b.obj=a.thr) from decide_eq_decide.2 eq_comm]
def dirL (l:List Ev) (i j:Nat):Bool:=dirP (l.getD i dEv.dft) (l.getD j dEv.dft)
end Go.Proofs.Ytpajfggdnobheaa.Od
end
section
set_option maxRecDepth 100000
open Go Go.Sx Go.Proofs
namespace Go.Proofs.Ytpajfggdnobheaa.Ah
variable {main:Bool} {Fz:Nat→Prop}
open Go.Proofs.Ytpajfggdnobheaa.D Go.Proofs.Ytpajfggdnobheaa.Tr Go.Proofs.Ytpajfggdnobheaa.Ps Go.Proofs.Ytpajfggdnobheaa.Od
def mm (T U:TypeId) (n r:Nat) (M:Nat→Nat→Bool):List Res:=
 .vec T 1 (tb n fun k=>if k<r then .vec (k+1) n else .nils)::tb r fun a=> .vec U 1 (tb n fun b=> .bool (M a b))
def upd2 (M:Nat→Nat→Bool) (a b:Nat) (v:Bool):Nat→Nat→Bool:=fun a' b'=>if a'=a∧b'=b then v else M a' b'
section
variable {T U:TypeId} {n r:Nat} {M M':Nat→Nat→Bool}
theorem mm_len:(mm T U n r M).length=r+1:=by simp [mm,tb_len]
theorem mm_at0:memAt (mm T U n r M) 0= .vec T 1 (tb n fun k=>if k<r then .vec (k+1) n else .nils):=rfl
theorem mm_at {a:Nat} (h:a<r):memAt (mm T U n r M) (a+1)= .vec U 1 (tb n fun b=> .bool (M a b)):=memAt_tb (f:=fun a=>Res.vec U 1 (tb n fun b=> .bool (M a b))) h
theorem mm_set {a b:Nat} {v:Bool}:(mm T U n r M).set (a+1) (.vec U 1 ((tb n fun b=> .bool (M a b)).set b (.bool v)))=mm T U n r (upd2 M a b v):=by
 simp only [mm,List.set_cons_succ,tb_set]
 congr 1
 refine tb_congr fun i hi=> ?_
 by_cases e:i=a
 ·subst e
  simp only [if_true]
  congr 1
  refine tb_congr fun j hj=> ?_
  by_cases e:j=b
  ·simp [upd2,e]
  ·simp [upd2,e]
 ·simp [upd2,e]
theorem mm_trim {k:Nat} (hk:k=r+1):(List.take k (mm T U n r M)).map (renR (ltI k))=mm T U n r M:=by
 subst hk
 have h1:(mm T U n r M).take (r+1)=mm T U n r M:=List.take_of_length_le (by rw [mm_len];exact Nat.le_refl _)
 rw [h1]
 simp only [mm,List.map_cons,tb_map,renR,tb_renL]
 congr 1
 ·congr 1
  refine tb_congr fun i hi=> ?_
  split
  ·rename_i h;simp [ren,renI,ltI,h]
  ·rfl
theorem mm_congr (h:∀ a b,a<r→b<n→M a b=M' a b):mm T U n r M=mm T U n r M':=by
 simp only [mm]
 congr 1
 refine tb_congr fun i hi=> ?_
 congr 1
 exact tb_congr fun j hj=>by rw [h i j hi hj]
theorem mm_more_at (x:List Res):memAt (mm T U n r M++x) 0= .vec T 1 (tb n fun k=>if k<r then .vec (k+1) n else .nils):=rfl
theorem mm_row {a:Nat} (h:a<n) (h2:a<r):(tb n fun k=>if k<r then SV.vec (k+1) n else SV.nils).getD a .junk= .vec (a+1) n:=by rw [tb_getD h,if_pos h2]
theorem mm_free {a:Nat} (h:a<n) (h2:r≤a):(tb n fun k=>if k<r then SV.vec (k+1) n else SV.nils).getD a .junk= .nils:=by rw [tb_getD h,if_neg (by omega)]
theorem mm_more:(mm T U n r M++[Res.vec U 1 (List.replicate n (SV.bool false))]).set 0 (.vec T 1 ((tb n fun k=>if k<r then SV.vec (k+1) n else SV.nils).set r (.vec (r+1) n)))=mm T U n (r+1) (fun a b=>if a<r then M a b else false):=by
 simp only [mm,List.cons_append,List.set_cons_zero,tb_set,tb_replicate,tb_snoc,Nat.lt_irrefl,if_false]
 congr 1
 ·congr 1
  refine tb_congr fun i hi=> ?_
  by_cases e:i=r
  ·subst e;simp
  ·by_cases e2:i<r
   ·simp [e,e2,show i<r+1 by omega]
   ·simp [e,e2,show ¬ i<r+1 by omega]
 ·congr 1
  exact tb_congr fun i hi=>by simp [hi]
theorem mm_decP:allL (tb n fun k=>if k<n then SV.vec (k+1) n else SV.nils) fun y=>(DT.list 1 DT.bool).decP (mm T U n n M) y:=by
 intro y hy
 obtain ⟨i,hi,rfl⟩:=List.getElem_of_mem hy
 rw [tb_len] at hi
 have e:(tb n fun k=>if k<n then SV.vec (k+1) n else SV.nils)[i]'(by rw [tb_len];exact hi)= .vec (i+1) n:=by
  have:=tb_get? (f:=fun k=>if k<n then SV.vec (k+1) n else SV.nils) (n:=n) i
  rw [if_pos hi,if_pos hi] at this
  exact (List.getElem?_eq_some_iff.1 this).2
 rw [e,list_decP_vec,mm_at hi]
 refine ⟨rfl,?_⟩
 rw [tb_bools,allL_map]
 intro y _
 trivial
theorem mm_decV:(tb n fun k=>if k<n then SV.vec (k+1) n else SV.nils).map (fun y=>(DT.list 1 DT.bool).decV (mm T U n n M) y)=tb n fun a=>tb n fun b=>M a b:=by
 rw [tb_map]
 refine tb_congr fun i hi=> ?_
 rw [if_pos hi,list_decV_vec,mm_at hi]
 simp only [tb_map]
 exact tb_congr fun j hj=>rfl
theorem mm_start:[Res.vec T 1 (List.replicate n .nils)]=mm T U n 0 M:=by simp [mm,tb_replicate,tb_zero]
end
def j26_1:JC:=
 (.seq (.seq (.ops<|
 qo 25 (.mv (.t 5))<|
 qo 26 (.mv (.t 0))<|
 qo 27 (.len (.t 26))<|
 qo 28 (.cmp .lss (.t 25) (.t 27))<|
 .nil)
 (.cond (.t 28)
 .skip
 (.exit 2)))
 (.prune [3,4,5,0,14,13] (.seq (.block 3 (.dops<|
 qo 31 (.mv (.t 3))<|
 qo 32 (.mv (.t 4))<|
 qo 33 (.is 1 (.t 31) (.t 32))<|
 eo 34 (.load 1 false (.t 33))<|
 .prune [5,0,4,34,3,14,13]<|
 qo 35 (.mv (.t 5))<|
 qo 36 (.mv (.t 0))<|
 qo 37 (.mv (.t 4))<|
 qo 38 (.is 3 (.t 36) (.t 37))<|
 eo 39 (.load 3 true (.t 38))<|
 .prune [0,5,39,34,35,3,4,14,13]<|
 qo 40 (.mv (.t 0))<|
 qo 41 (.mv (.t 5))<|
 qo 42 (.is 3 (.t 40) (.t 41))<|
 eo 43 (.load 3 true (.t 42))<|
 .prune [39,43,34,35,5,0,3,4,14,13]<|
 eo 44 (.qcall 49 [(.t 39),(.t 43)])<|
 qo 45 (.is 1 (.t 34) (.t 35))<|
 en (.store 1 (.t 45) (.t 44))<|
 .nil))
 (.prune [5,0,3,4,14,13] (.ops<|
 qo 29 (.mv (.t 5))<|
 qo 30 (.ar .add (.t 29) (I 1))<|
 qo 5 (.mv (.t 30))<|
 .nil)))))
def j26_2:JC:=
 (.prune [14,13,3,0] (.ops<|
 qo 46 (.ar .add (.t 14) (I 1))<|
 qo 14 (.mv (.t 46))<|
 .nil))
def j26_3:JC:=
 (.seq (.ops<|
 qo 15 (.cmp .lss (.t 14) (.t 13))<|
 .nil)
 (.seq (.cond (.t 15)
 .skip
 (.exit 0))
 (.seq (.block 1 (.seq (.ops<|
 qo 16 (.mv (.t 14))<|
 qo 4 (.mv (.t 16))<|
 .nil)
 (.seq (.ops<|
 qo 17 (.mv (.t 3))<|
 qo 18 (.mv (.t 4))<|
 qo 19 (.mv (.t 0))<|
 qo 20 (.len (.t 19))<|
 eo 21 (.mks 4 1 1 (.bool false) (.t 20) (.t 20))<|
 qo 22 (.is 1 (.t 17) (.t 18))<|
 en (.store 1 (.t 22) (.t 21))<|
 .nil)
 (.prune [4,0,3,14,13] (.seq (.ops<|
 qo 23 (.mv (.t 4))<|
 qo 24 (.ar .add (.t 23) (I 1))<|
 qo 5 (.mv (.t 24))<|
 .nil)
 (.block 2 (.loop [0,3,4,14,13] [5] j26_1)))))))
 j26_2)))
def j26_4:JC:=
 (.seq (.ops<|
 qo 60 (.cmp .lss (.t 59) (.t 58))<|
 .nil)
 (.prune [60,59,3,7,6,58,54,53,0,49,48] (.seq (.cond (.t 60)
 .skip
 (.exit 8))
 (.prune [59,3,7,6,58,54,53,0,49,48] (.seq (.block 9 (.seq (.ops<|
 qo 61 (.mv (.t 59))<|
 qo 8 (.mv (.t 61))<|
 .nil)
 (.prune [3,7,8,6,59,58,54,53,0,49,48] (.dops<|
 qo 62 (.mv (.t 3))<|
 qo 63 (.mv (.t 7))<|
 qo 64 (.is 1 (.t 62) (.t 63))<|
 eo 65 (.load 1 false (.t 64))<|
 .prune [8,3,7,6,65,59,58,54,53,0,49,48]<|
 qo 66 (.mv (.t 8))<|
 qo 67 (.mv (.t 3))<|
 qo 68 (.mv (.t 7))<|
 qo 69 (.is 1 (.t 67) (.t 68))<|
 eo 70 (.load 1 false (.t 69))<|
 .prune [8,70,3,7,6,65,66,59,58,54,53,0,49,48]<|
 qo 71 (.mv (.t 8))<|
 qo 72 (.is 1 (.t 70) (.t 71))<|
 eo 73 (.load 1 false (.t 72))<|
 .prune [73,3,7,6,8,65,66,59,58,54,53,0,49,48]<|
 qo 74 (.mv (.t 73))<|
 .sc true 91 74 (qo 75 (.mv (.t 3))<|
 qo 76 (.mv (.t 7))<|
 qo 77 (.is 1 (.t 75) (.t 76))<|
 eo 78 (.load 1 false (.t 77))<|
 qo 79 (.mv (.t 6))<|
 qo 80 (.is 1 (.t 78) (.t 79))<|
 eo 81 (.load 1 false (.t 80))<|
 qo 82 (.mv (.t 81))<|
 .sc false 90 82 (qo 83 (.mv (.t 3))<|
 qo 84 (.mv (.t 6))<|
 qo 85 (.is 1 (.t 83) (.t 84))<|
 eo 86 (.load 1 false (.t 85))<|
 qo 87 (.mv (.t 8))<|
 qo 88 (.is 1 (.t 86) (.t 87))<|
 eo 89 (.load 1 false (.t 88))<|
 .nil) (.t 89)<|
 .nil) (.t 90)<|
 qo 92 (.is 1 (.t 65) (.t 66))<|
 en (.store 1 (.t 92) (.t 91))<|
 .nil))))
 (.prune [59,58,3,7,6,54,53,0,49,48] (.ops<|
 qo 93 (.ar .add (.t 59) (I 1))<|
 qo 59 (.mv (.t 93))<|
 .nil)))))))
def j26_5:JC:=
 (.prune [54,53,0,3,6,49,48] (.ops<|
 qo 94 (.ar .add (.t 54) (I 1))<|
 qo 54 (.mv (.t 94))<|
 .nil))
def j26_6:JC:=
 (.seq (.ops<|
 qo 55 (.cmp .lss (.t 54) (.t 53))<|
 .nil)
 (.seq (.cond (.t 55)
 .skip
 (.exit 6))
 (.seq (.block 7 (.seq (.ops<|
 qo 56 (.mv (.t 54))<|
 qo 7 (.mv (.t 56))<|
 .nil)
 (.prune [0,3,7,6,54,53,49,48] (.seq (.ops<|
 qo 57 (.mv (.t 0))<|
 qo 58 (.len (.t 57))<|
 qo 59 (.mv (I 0))<|
 .nil)
 (.prune [59,58,3,7,6,54,53,0,49,48] (.block 8 (.loop [58,3,7,6,54,53,0,49,48] [59] j26_4)))))))
 j26_5)))
def j26_7:JC:=
 (.prune [49,48,0,3] (.ops<|
 qo 95 (.ar .add (.t 49) (I 1))<|
 qo 49 (.mv (.t 95))<|
 .nil))
def j26_8:JC:=
 (.seq (.ops<|
 qo 50 (.cmp .lss (.t 49) (.t 48))<|
 .nil)
 (.seq (.cond (.t 50)
 .skip
 (.exit 4))
 (.seq (.block 5 (.seq (.ops<|
 qo 51 (.mv (.t 49))<|
 qo 6 (.mv (.t 51))<|
 .nil)
 (.seq (.ops<|
 qo 52 (.mv (.t 0))<|
 qo 53 (.len (.t 52))<|
 qo 54 (.mv (I 0))<|
 .nil)
 (.prune [54,53,0,3,6,49,48] (.block 6 (.loop [53,0,3,6,49,48] [54] j26_6))))))
 j26_7)))
def j26_9:JC:=
 (.prune [3] (.seq (.ops<|
 qo 96 (.mv (.t 3))<|
 qo 2 (.mv (.t 96))<|
 .nil)
 (.vecs 2 75 1 (.frz 2 dRows.frz .ret))))
def j26_10:JC:=
 (.prune [0,3] (.seq (.seq (.ops<|
 qo 47 (.mv (.t 0))<|
 qo 48 (.len (.t 47))<|
 qo 49 (.mv (I 0))<|
 .nil)
 (.block 4 (.loop [48,0,3] [49] j26_8)))
 j26_9))
def j26:JC:=
 (.seq (.ops<|
 qo 2 (.mv (.c .nils))<|
 .nil)
 (.seq (.ops<|
 qo 9 (.mv (.t 0))<|
 qo 10 (.len (.t 9))<|
 eo 11 (.mks 75 1 24 .nils (.t 10) (.t 10))<|
 qo 3 (.mv (.t 11))<|
 .nil)
 (.seq (.seq (.ops<|
 qo 12 (.mv (.t 3))<|
 qo 13 (.len (.t 12))<|
 qo 14 (.mv (I 0))<|
 .nil)
 (.block 0 (.loop [13,3,0] [14] j26_3)))
 j26_10)))
theorem c26:fnIs Try.prog qall 26=some (j26.flat,[.tmp 2],97):=by kernel_rfl
theorem w26:j26.wf 97=true:=by kernel_rfl
def Gd (f:FuncId) (a:List SV) (m:List Res):Sx.Call:=(FH.rd 49 (.two dEv dEv) (.one .bool) (fun _=>True) (fun y=>dirP y.1 y.2.1) FH.none) f a m
theorem Gd_eq (f:FuncId) (a:List SV) (m:List Res):Gd f a m=(FH.rd 49 (.two dEv dEv) (.one .bool) (fun _=>True) (fun y=>dirP y.1 y.2.1) FH.none) f a m:=nr rfl
theorem Gd_ok:FHOK Try.prog main Fz Gd:=FH.rd_ok (by kernel_rfl) (fun y _=>f_RDirectly y.1 y.2.1) FH.none_ok
def m0 (l:List Ev) (i j:Nat):Nat→Nat→Bool:=fun a b=>(decide (a<i)||decide (a=i)&&decide (b<j))&&upP (dirL l) a b
def clo (M:Nat→Nat→Bool) (k:Nat):Nat→Nat→Bool:=fun a b=>M a b||M a k&&M k b
def cloTo (M:Nat→Nat→Bool) (k i j:Nat):Nat→Nat→Bool:=fun a b=>if a<i∨a=i∧b<j then clo M k a b else M a b
theorem cloTo_step (M:Nat→Nat→Bool) (k i j a b:Nat):upd2 (cloTo M k i j) i j (cloTo M k i j i j||cloTo M k i j i k&&cloTo M k i j k j) a b=cloTo M k i (j+1) a b:=by
 have hik:cloTo M k i j i k=M i k:=by
  unfold cloTo clo
  split
  ·cases M i k<;>simp
  ·rfl
 have hkj:cloTo M k i j k j=M k j:=by
  unfold cloTo clo
  split
  ·cases M k j<;>simp
  ·rfl
 have hij:cloTo M k i j i j=M i j:=by
  unfold cloTo
  rw [if_neg (by omega)]
 rw [hik,hkj,hij]
 unfold upd2
 by_cases e:a=i∧b=j
 ·obtain ⟨rfl,rfl⟩:=e
  rw [if_pos ⟨rfl,rfl⟩,cloTo,if_pos (by omega)];rfl
 ·rw [if_neg e]
  unfold cloTo
  have e2:(a<i∨a=i∧b<j)↔(a<i∨a=i∧b<j+1):=by omega
  simp only [e2]
def rounds (M:Nat→Nat→Bool):Nat→Nat→Nat→Bool
 |0=>M
 |k+1=>clo (rounds M k) k
def rowsOf (n:Nat) (M:Nat→Nat→Bool):List (List Bool):=tb n fun a=>tb n fun b=>M a b
def aheadR (l:List Ev):Nat→Nat→Bool:=rounds (upP (dirL l)) l.length
theorem f_RAhead (l:List Ev) (hl:l.length≤1000):FnOK Try.prog main Fz 26 [dEs.emb l] [] (dRows.emb (rowsOf l.length (aheadR l))) []:=by
 refine fn_walkF c26 w26 Gd_ok rfl ?_
 unfold j26
 simp only [go_sem,seval]
 refine ⟨by omega,?_⟩
 rw [mm_start (U:=4) (M:=fun _ _=>false)]
 refine loopF Nat (fun i=>[.int .i64 i]) (fun i=>mm 75 4 l.length i (m0 l i 0)) (fun i=>i≤l.length) (fun i=>l.length - i) 0 (by omega) ?_ ?_ ?_
 ·simp only [go_sem,seval]
 ·exact mm_congr fun a b ha hb=>absurd ha (Nat.not_lt_zero _)
 intro i hi
 by_cases h1:i<l.length
 ·have h1':(i:Int)<l.length:=by omega
  have hf:=mm_free (r:=i) h1 (Nat.le_refl _)
  unfold j26_3
  simp only [go_sem,seval,mm_more_at,mm_len,mm_more,hf,h1,h1']
  have hw:IntKind.i64.wrap ((i:Int)+1)=((i+1:Nat):Int):=IntWalk.i64_in _ (by omega)
  refine ⟨⟨by omega,by omega,by omega⟩,by omega,?_⟩
  refine loopF Nat (fun j=>[.int .i64 j]) (fun j=>mm 75 4 l.length (i+1) (m0 l i j)) (fun j=>i+1≤j∧j≤l.length) (fun j=>l.length - j) (i+1) (by omega) ?_ ?_ ?_
  ·simp only [go_sem,seval]
   exact hw
  ·refine mm_congr fun a b ha hb=> ?_
   by_cases e:a<i
   ·simp [m0,e]
   ·have e2:a=i:=by omega
    subst e2
    by_cases e3:b<a+1
    ·simp [m0,upP,show ¬ a<b by omega]
    ·simp [m0,e3]
  intro j hj
  have hr:=mm_row (r:=i+1) h1 (Nat.lt_succ_self i)
  have ha:=mm_at (T:=75) (U:=4) (n:=l.length) (M:=m0 l i j) (Nat.lt_succ_self i)
  by_cases h2:j<l.length
  ·have h2':(j:Int)<l.length:=by omega
   unfold j26_1
   have hg:(tb l.length fun b=>SV.bool (m0 l i j i b)).getD j .junk= .bool (m0 l i j i j):=tb_getD h2
   simp only [go_sem,seval,Gd_eq,mm_at0,mm_len,mm_set,hr,ha,hg,h1,h1',h2,h2']
   refine ⟨by omega,by omega,by omega,by omega,j+1,⟨by omega,by omega⟩,by omega,IntWalk.i64_in _ (by omega),?_⟩
   rw [mm_trim rfl]
   refine mm_congr fun a b ha hb=> ?_
   have hd:dirP (l.getD i dEv.dft) (l.getD j dEv.dft)=upP (dirL l) i j:=by simp [upP,dirL,show i<j by omega]
   rw [hd]
   unfold upd2
   by_cases e:a=i∧b=j
   ·obtain ⟨rfl,rfl⟩:=e
    simp [m0]
   ·rw [if_neg e]
    simp only [m0]
    congr 1
    rw [Bool.eq_iff_iff]
    simp only [Bool.or_eq_true,Bool.and_eq_true,decide_eq_true_eq]
    omega
  ·have h2':¬ (j:Int)<l.length:=by omega
   unfold j26_1
   simp only [go_sem,seval,h2']
   unfold j26_2
   simp only [go_sem,seval,mm_len]
   refine ⟨i+1,by omega,by omega,hw,?_⟩
   rw [mm_trim rfl]
   refine mm_congr fun a b ha hb=> ?_
   simp only [m0]
   congr 1
   rw [Bool.eq_iff_iff]
   simp only [Bool.or_eq_true,Bool.and_eq_true,decide_eq_true_eq]
   omega
 ·have h1':¬ (i:Int)<l.length:=by omega
  unfold j26_3
  simp only [go_sem,seval,h1']
  unfold j26_10
  simp only [go_sem,seval,mm_len]
  have ei:i=l.length:=by omega
  subst ei
  refine loopF Nat (fun k=>[.int .i64 k]) (fun k=>mm 75 4 l.length l.length (rounds (upP (dirL l)) k)) (fun k=>k≤l.length) (fun k=>l.length - k) 0 (by omega) ?_ ?_ ?_
  ·simp only [go_sem,seval]
  ·exact mm_congr fun a b ha hb=>by simp [m0,rounds,ha]
  intro k hk
  by_cases h2:k<l.length
  ·have h2':(k:Int)<l.length:=by omega
   unfold j26_8
   simp only [go_sem,seval,mm_len,h2']
   refine loopF Nat (fun i=>[.int .i64 i]) (fun i=>mm 75 4 l.length l.length (cloTo (rounds (upP (dirL l)) k) k i 0)) (fun i=>i≤l.length) (fun i=>l.length - i) 0 (by omega) ?_ ?_ ?_
   ·simp only [go_sem,seval]
   ·exact mm_congr fun a b ha hb=>by simp [cloTo]
   intro i hi2
   by_cases h3:i<l.length
   ·have h3':(i:Int)<l.length:=by omega
    unfold j26_6
    simp only [go_sem,seval,mm_len,h3']
    refine loopF Nat (fun j=>[.int .i64 j]) (fun j=>mm 75 4 l.length l.length (cloTo (rounds (upP (dirL l)) k) k i j)) (fun j=>j≤l.length) (fun j=>l.length - j) 0 (by omega) ?_ ?_ ?_
    ·simp only [go_sem,seval]
    ·rfl
    intro j hj
    generalize hR:rounds (upP (dirL l)) k=R
    by_cases h4:j<l.length
    ·have h4':(j:Int)<l.length:=by omega
     have ri:=mm_row (r:=l.length) h3 h3
     have rk:=mm_row (r:=l.length) h2 h2
     have ai:=mm_at (T:=75) (U:=4) (n:=l.length) (M:=cloTo R k i j) h3
     have ak:=mm_at (T:=75) (U:=4) (n:=l.length) (M:=cloTo R k i j) h2
     have gij:(tb l.length fun b=>SV.bool (cloTo R k i j i b)).getD j .junk= .bool (cloTo R k i j i j):=tb_getD h4
     have gik:(tb l.length fun b=>SV.bool (cloTo R k i j i b)).getD k .junk= .bool (cloTo R k i j i k):=tb_getD h2
     have gkj:(tb l.length fun b=>SV.bool (cloTo R k i j k b)).getD j .junk= .bool (cloTo R k i j k j):=tb_getD h4
     unfold j26_4
     simp only [go_sem,seval,mm_at0,mm_len,mm_set,ri,rk,ai,ak,gij,gik,gkj,h2,h2',h3,h3',h4,h4']
     refine ⟨by omega,by omega,by omega,fun _=>⟨⟨by omega,by omega⟩,fun _=>⟨by omega,by omega⟩⟩,by omega,j+1,by omega,by omega,IntWalk.i64_in _ (by omega),?_⟩
     rw [mm_trim rfl]
     exact mm_congr fun a b ha hb=>cloTo_step R k i j a b
    ·have h4':¬ (j:Int)<l.length:=by omega
     unfold j26_4
     simp only [go_sem,seval,h4']
     unfold j26_5
     simp only [go_sem,seval,mm_len]
     refine ⟨i+1,by omega,by omega,IntWalk.i64_in _ (by omega),?_⟩
     rw [mm_trim rfl]
     refine mm_congr fun a b ha hb=> ?_
     have e:(a<i∨a=i∧b<j)↔(a<i+1∨a=i+1∧b<0):=by omega
     simp only [cloTo,e]
   ·have h3':¬ (i:Int)<l.length:=by omega
    unfold j26_6
    simp only [go_sem,seval,h3']
    unfold j26_7
    simp only [go_sem,seval,mm_len]
    refine ⟨k+1,by omega,by omega,IntWalk.i64_in _ (by omega),?_⟩
    rw [mm_trim rfl]
    refine mm_congr fun a b ha hb=> ?_
    rw [cloTo,if_pos (Or.inl (by omega))]
    rfl
  ·have h2':¬ (k:Int)<l.length:=by omega
   unfold j26_8
   simp only [go_sem,seval,h2']
   unfold j26_9
   simp only [go_sem,seval,mm_at0]
   have ek:k=l.length:=by omega
   subst ek
   exact ⟨mm_decP,by rw [mm_decV];rfl⟩
end Go.Proofs.Ytpajfggdnobheaa.Ah
end
section
open Go Go.Sx Go.Proofs
namespace Go.Proofs.Ytpajfggdnobheaa.Ah
variable {main:Bool} {Fz:Nat→Prop}
open Go.Proofs.Ytpajfggdnobheaa.D Go.Proofs.Ytpajfggdnobheaa.Tr Go.Proofs.Ytpajfggdnobheaa.Ps Go.Proofs.Ytpajfggdnobheaa.Od
inductive Pth (E:Nat→Nat→Bool):Nat→Nat→Prop
 |one {a b:Nat}:E a b=true→Pth E a b
 |snoc {a c b:Nat}:Pth E a c→E c b=true→Pth E a b
inductive PthB (E:Nat→Nat→Bool) (k:Nat):Nat→Nat→Prop
 |one {a b:Nat}:E a b=true→PthB E k a b
 |snoc {a c b:Nat}:PthB E k a c→c<k→E c b=true→PthB E k a b
section
variable {E:Nat→Nat→Bool}
theorem Pth.trans {a b c:Nat} (h:Pth E a b) (k:Pth E b c):Pth E a c:=by
 induction k with
 |one e=>exact .snoc h e
 |snoc _ e ih=>exact .snoc ih e
theorem PthB.mono {k k' a b:Nat} (hk:k≤k') (h:PthB E k a b):PthB E k' a b:=by
 induction h with
 |one e=>exact .one e
 |snoc _ hc e ih=>exact .snoc ih (by omega) e
theorem PthB.path {k a b:Nat} (h:PthB E k a b):Pth E a b:=by
 induction h with
 |one e=>exact .one e
 |snoc _ hc e ih=>exact .snoc ih e
theorem PthB.trans {k a b:Nat} (h:PthB E (k+1) a k) (g:PthB E (k+1) k b):PthB E (k+1) a b:=by
 induction g with
 |one e=>exact .snoc h (by omega) e
 |snoc _ hc e ih=>exact .snoc ih hc e
theorem PthB.split {k a b:Nat} (h:PthB E (k+1) a b):PthB E k a b∨PthB E k a k∧PthB E k k b:=by
 induction h with
 |one e=>exact .inl (.one e)
 | @snoc c b _ hc e ih=>
  by_cases hk:c<k
  ·rcases ih with h|⟨h1,h2⟩
   ·exact .inl (.snoc h hk e)
   ·exact .inr ⟨h1, .snoc h2 hk e⟩
  ·have:c=k:=by omega
   subst this
   rcases ih with h|⟨h1,h2⟩
   ·exact .inr ⟨h, .one e⟩
   ·exact .inr ⟨h1, .one e⟩
theorem rounds_iff:∀ (k a b:Nat),rounds E k a b=true↔PthB E k a b
 |0,a,b=>⟨fun h=> .one h,fun h=>by
  cases h with
  |one e=>exact e
  |snoc _ hc _=>exact absurd hc (Nat.not_lt_zero _)⟩
 |k+1,a,b=>by
  simp only [rounds,clo,Bool.or_eq_true,Bool.and_eq_true,rounds_iff k]
  constructor
  ·rintro (h|⟨h1,h2⟩)
   ·exact h.mono (by omega)
   ·exact (h1.mono (by omega)).trans (h2.mono (by omega))
  ·exact fun h=>h.split
theorem Pth.lt (hE:∀ a b,E a b=true→a<b) {a b:Nat} (h:Pth E a b):a<b:=by
 induction h with
 |one e=>exact hE _ _ e
 |snoc _ e ih=>exact Nat.lt_trans ih (hE _ _ e)
theorem Pth.bounded (hE:∀ a b,E a b=true→a<b) {a b:Nat} (h:Pth E a b):∀ {n},b≤n→PthB E n a b:=by
 induction h with
 |one e=>exact fun _=> .one e
 |snoc _ e ih=>exact fun hb=> .snoc (ih (Nat.le_trans (Nat.le_of_lt (hE _ _ e)) hb)) (Nat.lt_of_lt_of_le (hE _ _ e) hb) e
theorem rounds_path (hE:∀ a b,E a b=true→a<b) {n a b:Nat} (hb:b≤n):rounds E n a b=true↔Pth E a b:=
 (rounds_iff n a b).trans ⟨fun h=>h.path,fun h=>h.bounded hE hb⟩
theorem Pth.last {a b:Nat}:Pth E a b↔∃ i,E i b=true∧(a=i∨Pth E a i):=by
 constructor
 ·intro h
  cases h with
  |one e=>exact ⟨a,e, .inl rfl⟩
  |snoc h e=>exact ⟨_,e, .inr h⟩
 ·rintro ⟨i,e,rfl|h⟩
  ·exact .one e
  ·exact .snoc h e
end
theorem upP_lt {p:Nat→Nat→Bool}:∀ a b,upP p a b=true→a<b:=fun a b h=>by
 simp only [upP,Bool.and_eq_true,decide_eq_true_eq] at h;exact h.1
def Ahd (l:List Ev) (a b:Nat):Prop:=Pth (upP (dirL l)) a b
theorem aheadR_iff {l:List Ev} {a b:Nat} (hb:b≤l.length):aheadR l a b=true↔Ahd l a b:=rounds_path upP_lt hb
theorem Ahd.lt {l:List Ev} {a b:Nat} (h:Ahd l a b):a<b:=Pth.lt upP_lt h
theorem rows_len {n:Nat} {M:Nat→Nat→Bool}:(rowsOf n M).length=n:=tb_len
theorem rows_row {n:Nat} {M:Nat→Nat→Bool} {i:Nat} (h:i<n):((rowsOf n M).getD i []).length=n:=by rw [rowsOf,tb_getD h,tb_len]
theorem rows_at {n:Nat} {M:Nat→Nat→Bool} {i j:Nat} (hi:i<n) (hj:j<n):((rowsOf n M).getD i []).getD j false=M i j:=by rw [rowsOf,tb_getD hi,tb_getD hj]
end Go.Proofs.Ytpajfggdnobheaa.Ah
end
