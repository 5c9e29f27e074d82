/- A part of the proof of StripeRuns. Conditions: none. -/
import Derived.Test.YtpajfggdnobheaaFullC
import Derived.Test.YtpajfggdnobheaaSx41
set_option linter.unusedVariables false
set_option linter.unusedSimpArgs false
section
set_option maxRecDepth 100000
open Go Go.Sx Go.Proofs
namespace Go.Proofs.Ytpajfggdnobheaa.Fa
variable {main:Bool} {Fz:Nat→Prop}
open Go.Proofs.Ytpajfggdnobheaa.D Go.Proofs.Ytpajfggdnobheaa.Tr Go.Proofs.Ytpajfggdnobheaa.C Go.Proofs.Ytpajfggdnobheaa.Fu
def isThr (t:Int):Bool:=decide (0≤t)&&decide (t<6)
theorem isThr_iff (t:Int):isThr t=true↔0≤t∧t<6:=by simp [isThr]
def j108:JC:=
 (.seq (.ops<|
 qo 2 (.mv (B false))<|
 .nil)
 (.seq (.ops<|
 qo 3 (.mv (.t 0))<|
 qo 4 (.cmp .geq (.t 3) (I 0))<|
 qo 5 (.mv (.t 4))<|
 .sc false 8 5 (qo 6 (.mv (.t 0))<|
 qo 7 (.cmp .lss (.t 6) (I 6))<|
 .nil) (.t 7)<|
 qo 2 (.mv (.t 8))<|
 .nil)
 .ret))
theorem c108:fnIs Try.prog qall 108=some (j108.flat,[.tmp 2],9):=by kernel_rfl
theorem w108:j108.wf 9=true:=by kernel_rfl
theorem f_isThread (t:Int):FnOK Try.prog main Fz 108 [.int .i64 t] [] (.bool (isThr t)) []:=by
 refine fn_walkF c108 w108 FH.none_ok rfl ?_
 unfold j108
 simp only [go_sem,seval]
 rfl
def Gt (f:FuncId) (a:List SV) (m:List Res):Sx.Call:=(FH.rd 108 (.one .int) (.one .bool) (fun _=>True) (fun y=>isThr y.1) FH.none) f a m
theorem Gt_eq (f:FuncId) (a:List SV) (m:List Res):Gt f a m=(FH.rd 108 (.one .int) (.one .bool) (fun _=>True) (fun y=>isThr y.1) FH.none) f a m:=nr rfl
theorem Gt_ok:FHOK Try.prog main Fz Gt:=FH.rd_ok (by kernel_rfl) (fun y _=>f_isThread y.1) FH.none_ok
def j74:JC:=
 (.seq (.ops<|
 eo 2 (.box 61 (.t 0))<|
 eo 4 (.alloc 148 (.agg [(.int .i64 0),(.int .i64 0)]))<|
 qo 5 (.mv (I 0))<|
 .nil)
 (.seq (.seq (.ops<|
 qo 6 (.mv (.t 1))<|
 eo 7 (.call 108 [(.t 6)])<|
 qo 8 (.nt (.t 7))<|
 .nil)
 (.cond (.t 8)
 (.seq (.ops<|
 qo 9 (.bld (.agg [(.int .i64 0),(.int .i64 0)]) [])<|
 en (.store 2 (.t 4) (.t 9))<|
 qo 5 (.mv (I 1))<|
 .nil)
 .ret)
 .skip))
 (.seq (.ops<|
 .prune [1,2,4]<|
 qo 10 (.mv (.t 1))<|
 qo 11 (.mv (.t 1))<|
 qo 12 (.ia 6 1 (.t 2) (.t 11))<|
 eo 13 (.load 1 false (.t 12))<|
 .prune [10,13,4]<|
 qo 14 (.bld (.agg [(.int .i64 0),(.int .i64 0)]) [([.fld 0],0,1,(.t 10)),([.fld 1],1,1,(.t 13))])<|
 en (.store 2 (.t 4) (.t 14))<|
 qo 5 (.mv (I 0))<|
 .nil)
 .ret)))
theorem c74:fnIs Try.prog qall 74=some (j74.flat,[.cell 4 148, .tmp 5],15):=by kernel_rfl
theorem w74:j74.wf 15=true:=by kernel_rfl
def j109:JC:=
 (.seq (.ops<|
 eo 2 (.box 148 (.t 0))<|
 eo 3 (.box 61 (.t 1))<|
 qo 4 (.mv (B false))<|
 .nil)
 (.seq (.dops<|
 qo 5 (.fa 0 0 (.t 2))<|
 eo 6 (.load 1 false (.t 5))<|
 eo 7 (.qcall 108 [(.t 6)])<|
 qo 8 (.mv (.t 7))<|
 .prune [8,2,3]<|
 .sc false 16 8 (qo 9 (.fa 1 1 (.t 2))<|
 eo 10 (.load 1 false (.t 9))<|
 qo 11 (.fa 0 0 (.t 2))<|
 eo 12 (.load 1 false (.t 11))<|
 qo 13 (.ia 6 1 (.t 3) (.t 12))<|
 eo 14 (.load 1 false (.t 13))<|
 qo 15 (.cmp .leq (.t 10) (.t 14))<|
 .nil) (.t 15)<|
 qo 4 (.mv (.t 16))<|
 .nil)
 .ret))
theorem c109:fnIs Try.prog qall 109=some (j109.flat,[.tmp 4],17):=by kernel_rfl
theorem w109:j109.wf 17=true:=by kernel_rfl
def ofF (c:Clk) (t:Int):Pr×Int:=if isThr t then (⟨t,c t.toNat⟩,0) else (⟨0,0⟩,1)
theorem tszE:tsz Try.prog 148=some (2,true):=by kernel_rfl
theorem f_Of (c:Clk) (t:Int):FnOK Try.prog main Fz 74 [dClk.emb c, .int .i64 t] [] (.tup [dPr.emb (ofF c t).1, .int .i64 (ofF c t).2]) []:=by
 refine fn_walkF c74 w74 Gt_ok rfl ?_
 unfold j74
 simp only [go_sem,seval,Gt_eq,tszE]
 have h1:=(isThr_iff t).1
 exact ⟨fun h=>by simp [ofF,h],fun h=>⟨h1 h,by simp [ofF,h]⟩⟩
def seenB (e:Pr) (c:Clk):Bool:=isThr e.a&&decide (e.b≤c e.a.toNat)
theorem f_Seen (e:Pr) (c:Clk):FnOK Try.prog main Fz 109 [dPr.emb e,dClk.emb c] [] (.bool (seenB e c)) []:=by
 refine fn_walkF c109 w109 Gt_ok rfl ?_
 unfold j109
 simp only [go_sem,seval,Gt_eq,tszC]
 exact ⟨(isThr_iff e.a).1,rfl⟩
def dOne:DT Pr:=(DT.ofTT (.st [.st [.int .i64, .int .i64]])).iso (fun x=>⟨x.1.1,x.1.2.1⟩) (fun e=>((e.a,e.b,()),())) (fun _=>rfl) (fun _=>rfl)
instance:Flat dOne:=(Flat.ofTT rfl).iso
theorem one_emb (e:Pr):dOne.emb e= .agg [.agg [.int .i64 e.a, .int .i64 e.b]]:=nr rfl
theorem one_decV (m:List Res) (a b:Int):dOne.decV m (.agg [.agg [.int .i64 a, .int .i64 b]])=⟨a,b⟩:=nr rfl
theorem one_decP (m:List Res) (a b:Int):dOne.decP m (.agg [.agg [.int .i64 a, .int .i64 b]])=True:=eq_true ⟨⟨rfl,rfl,trivial⟩,trivial⟩
attribute [go_sem] one_emb one_decV one_decP
abbrev dRd:DT (Pr ⊕ Clk):=DT.sum 158 195 dOne dClk (by decide)
structure Cl where
 wr:Pr
 rd:Pr ⊕ Clk
 slow:Int
def dCl:DT Cl:=(DT.st (DL.cons dPr (DL.cons dRd (DL.cons DT.int DL.nil)))).iso (fun x=>⟨x.1,x.2.1,x.2.2.1⟩) (fun c=>(c.wr,c.rd,c.slow,())) (fun _=>rfl) (fun _=>rfl)
theorem cl_one (w e:Pr) (s:Int):dCl.emb ⟨w, .inl e,s⟩= .agg [.agg [.int .i64 w.a, .int .i64 w.b], .iface 158 (.agg [.agg [.int .i64 e.a, .int .i64 e.b]]), .int .i64 s]:=nr rfl
theorem cl_many (w:Pr) (c:Clk) (s:Int):dCl.emb ⟨w, .inr c,s⟩= .agg [.agg [.int .i64 w.a, .int .i64 w.b], .iface 195 (.arr 6 1 fun j=> .int .i64 (c j)), .int .i64 s]:=nr rfl
theorem cl_back (m:List Res) (s:Cl):dCl.decV m (dCl.emb s)=s:=nr (dCl.vE m s)
attribute [go_sem] cl_one cl_many cl_back
def setC (d:Clk) (t n:Int):Clk:=fun j=>if j=t.toNat then n else d j
def alsoO (p e:Pr) (c:Clk):Pr ⊕ Clk:=if seenB p c=true then .inl e else .inr (setC (setC (fun _=>0) p.a p.b) e.a e.b)
def j153:JC:=
 (.seq (.ops<|
 eo 2 (.box 158 (.t 0))<|
 eo 3 (.box 61 (.t 1))<|
 qo 4 (.mv (B false))<|
 .nil)
 (.seq (.ops<|
 qo 5 (.fa 0 0 (.t 2))<|
 eo 6 (.load 2 true (.t 5))<|
 eo 7 (.load 6 true (.t 3))<|
 eo 8 (.call 109 [(.t 6),(.t 7)])<|
 qo 4 (.mv (.t 8))<|
 .nil)
 .ret))
theorem c153:fnIs Try.prog qall 153=some (j153.flat,[.tmp 4],9):=by kernel_rfl
theorem w153:j153.wf 9=true:=by kernel_rfl
def j152:JC:=
 (.seq (.ops<|
 eo 3 (.box 158 (.t 0))<|
 eo 4 (.box 148 (.t 1))<|
 eo 5 (.box 61 (.t 2))<|
 qo 6 (.mv (.c .nili))<|
 .nil)
 (.seq (.seq (.ops<|
 eo 8 (.load 2 true (.t 3))<|
 eo 9 (.load 6 true (.t 5))<|
 eo 10 (.call 153 [(.t 8),(.t 9)])<|
 .nil)
 (.cond (.t 10)
 (.seq (.ops<|
 .prune [4]<|
 eo 11 (.load 2 true (.t 4))<|
 qo 12 (.bld (.agg [(.agg [(.int .i64 0),(.int .i64 0)])]) [([.fld 0],0,2,(.t 11))])<|
 qo 13 (.mkif 158 (.t 12))<|
 qo 6 (.mv (.t 13))<|
 .nil)
 .ret)
 .skip))
 (.prune [3,4] (.seq (.ops<|
 qo 14 (.bld (.arr 6 1 fun _=>(.int .i64 0)) [])<|
 eo 7 (.alloc 195 (.arr 6 1 fun _=>(.int .i64 0)))<|
 en (.store 6 (.t 7) (.t 14))<|
 .nil)
 (.seq (.ops<|
 qo 15 (.fa 0 0 (.t 3))<|
 qo 16 (.fa 0 0 (.t 15))<|
 .prune [16,3,7,4]<|
 eo 17 (.load 1 false (.t 16))<|
 qo 18 (.fa 0 0 (.t 3))<|
 qo 19 (.fa 1 1 (.t 18))<|
 .prune [19,7,17,4]<|
 eo 20 (.load 1 false (.t 19))<|
 qo 21 (.ia 6 1 (.t 7) (.t 17))<|
 en (.store 1 (.t 21) (.t 20))<|
 .nil)
 (.prune [4,7] (.seq (.ops<|
 qo 22 (.fa 0 0 (.t 4))<|
 eo 23 (.load 1 false (.t 22))<|
 qo 24 (.fa 1 1 (.t 4))<|
 eo 25 (.load 1 false (.t 24))<|
 qo 26 (.ia 6 1 (.t 7) (.t 23))<|
 en (.store 1 (.t 26) (.t 25))<|
 .nil)
 (.seq (.ops<|
 .prune [7]<|
 eo 27 (.load 6 true (.t 7))<|
 qo 28 (.mkif 195 (.t 27))<|
 qo 6 (.mv (.t 28))<|
 .nil)
 .ret))))))))
theorem c152:fnIs Try.prog qall 152=some (j152.flat,[.tmp 6],29):=by kernel_rfl
theorem w152:j152.wf 29=true:=by kernel_rfl
def j155:JC:=
 (.seq (.ops<|
 eo 2 (.box 195 (.t 0))<|
 eo 3 (.box 61 (.t 1))<|
 qo 4 (.mv (B false))<|
 .nil)
 (.seq (.ops<|
 eo 5 (.load 6 true (.t 2))<|
 eo 6 (.load 6 true (.t 3))<|
 eo 7 (.call 104 [(.t 5),(.t 6)])<|
 qo 4 (.mv (.t 7))<|
 .nil)
 .ret))
theorem c155:fnIs Try.prog qall 155=some (j155.flat,[.tmp 4],8):=by kernel_rfl
theorem w155:j155.wf 8=true:=by kernel_rfl
def j154:JC:=
 (.seq (.ops<|
 eo 3 (.box 195 (.t 0))<|
 eo 4 (.box 148 (.t 1))<|
 eo 5 (.box 61 (.t 2))<|
 qo 6 (.mv (.c .nili))<|
 .nil)
 (.seq (.ops<|
 qo 7 (.fa 0 0 (.t 4))<|
 eo 8 (.load 1 false (.t 7))<|
 qo 9 (.fa 1 1 (.t 4))<|
 .prune [9,3,8]<|
 eo 10 (.load 1 false (.t 9))<|
 qo 11 (.ia 6 1 (.t 3) (.t 8))<|
 en (.store 1 (.t 11) (.t 10))<|
 .nil)
 (.prune [3] (.seq (.ops<|
 eo 12 (.load 6 true (.t 3))<|
 qo 13 (.mkif 195 (.t 12))<|
 qo 6 (.mv (.t 13))<|
 .nil)
 .ret))))
theorem c154:fnIs Try.prog qall 154=some (j154.flat,[.tmp 6],14):=by kernel_rfl
theorem w154:j154.wf 14=true:=by kernel_rfl
def Gk (f:FuncId) (a:List SV) (m:List Res):Sx.Call:=(FH.rd 109 (.two dPr dClk) (.one .bool) (fun _=>True) (fun y=>seenB y.1 y.2.1)<|FH.rd 104 (.two dClk dClk) (.one .bool) (fun _=>True) (fun y=>withB y.1 y.2.1) FH.none) f a m
theorem Gk_eq (f:FuncId) (a:List SV) (m:List Res):Gk f a m=(FH.rd 109 (.two dPr dClk) (.one .bool) (fun _=>True) (fun y=>seenB y.1 y.2.1)<|FH.rd 104 (.two dClk dClk) (.one .bool) (fun _=>True) (fun y=>withB y.1 y.2.1) FH.none) f a m:=nr rfl
theorem Gk_ok:FHOK Try.prog main Fz Gk:=FH.rd_ok (by kernel_rfl) (fun y _=>f_Seen y.1 y.2.1)<|FH.rd_ok (by kernel_rfl) (fun y _=>f_Within y.1 y.2.1) FH.none_ok
theorem f_oneKnown (p:Pr) (c:Clk):FnOK Try.prog main Fz 153 [dOne.emb p,dClk.emb c] [] (.bool (seenB p c)) []:=by
 refine fn_walkF c153 w153 Gk_ok rfl ?_
 unfold j153
 simp only [go_sem,seval,Gk_eq,tszC,tszE]
theorem f_manyKnown (d c:Clk):FnOK Try.prog main Fz 155 [dClk.emb d,dClk.emb c] [] (.bool (withB d c)) []:=by
 refine fn_walkF c155 w155 Gk_ok rfl ?_
 unfold j155
 simp only [go_sem,seval,Gk_eq,tszC,tszE]
theorem tszM:tsz Try.prog 195=some (6,true):=by kernel_rfl
theorem upd_int (f:Nat→Int) (i:Nat) (n:Int):updS (fun k=>SV.int .i64 (f k)) i (.int .i64 n)=fun k=>SV.int .i64 (if k=i then n else f k):=by
 funext k;unfold updS;split<;>rfl
theorem f_manyAlso (d c:Clk) (e:Pr) (h1:0≤e.a) (h2:e.a<6):FnOK Try.prog main Fz 154 [dClk.emb d,dPr.emb e,dClk.emb c] [] (dRd.emb (.inr (setC d e.a e.b))) []:=by
 refine fn_walkF c154 w154 FH.none_ok rfl ?_
 unfold j154
 simp only [go_sem,seval,tszC,tszE,tszM,h1,h2,upd_int]
 rfl
def Gok (f:FuncId) (a:List SV) (m:List Res):Sx.Call:=(FH.rd 153 (.two dOne dClk) (.one .bool) (fun _=>True) (fun y=>seenB y.1 y.2.1) FH.none) f a m
theorem Gok_eq (f:FuncId) (a:List SV) (m:List Res):Gok f a m=(FH.rd 153 (.two dOne dClk) (.one .bool) (fun _=>True) (fun y=>seenB y.1 y.2.1) FH.none) f a m:=nr rfl
theorem Gok_ok:FHOK Try.prog main Fz Gok:=FH.rd_ok (by kernel_rfl) (fun y _=>f_oneKnown y.1 y.2.1) FH.none_ok
theorem f_oneAlso (p e:Pr) (c:Clk) (h1:0≤e.a) (h2:e.a<6) (h3:0≤p.a) (h4:p.a<6):FnOK Try.prog main Fz 152 [dOne.emb p,dPr.emb e,dClk.emb c] [] (dRd.emb (alsoO p e c)) []:=by
 refine fn_walkF c152 w152 Gok_ok rfl ?_
 unfold j152
 unfold alsoO
 by_cases h:seenB p c=true
 ·rw [if_pos h]
  simp only [go_sem,seval,Gok_eq,tszC,tszE,tszM,h1,h2,h3,h4,h,upd_int]
 ·rw [if_neg h]
  simp only [go_sem,seval,Gok_eq,tszC,tszE,tszM,h1,h2,h3,h4,h,upd_int]
  rfl
def rdS (s:Cl) (e:Pr) (c:Clk):Cl:=match s.rd with
 | .inl p=>if p.a=e.a∧p.b=e.b then s else if seenB p c=true then ⟨s.wr, .inl e,s.slow⟩ else ⟨s.wr, .inr (setC (setC (fun _=>0) p.a p.b) e.a e.b),s.slow+1⟩
 | .inr d=>⟨s.wr, .inr (setC d e.a e.b),s.slow⟩
def rdK (s:Cl) (e:Pr) (c:Clk):Int:=match s.rd with
 | .inl p=>if p.a=e.a∧p.b=e.b then 0 else if seenB s.wr c=true then 0 else 2
 | .inr _=>if seenB s.wr c=true then 0 else 2
def knownB (r:Pr ⊕ Clk) (c:Clk):Bool:=match r with
 | .inl p=>seenB p c
 | .inr d=>withB d c
def wrS (s:Cl) (e:Pr):Cl:=if s.wr.a=e.a∧s.wr.b=e.b then s else ⟨e,(match s.rd with
 | .inl p=> .inl p
 | .inr _=> .inl ⟨0,0⟩),s.slow⟩
def wrK (s:Cl) (e:Pr) (c:Clk):Int:=if s.wr.a=e.a∧s.wr.b=e.b then 0 else if seenB s.wr c=false then 1 else if knownB s.rd c=false then 3 else 0
def okC (s:Cl):Prop:=0≤s.slow∧s.slow≤1000∧match s.rd with
 | .inl p=>0≤p.a∧p.a<6
 | .inr _=>True
def j75:JC:=
 (.seq (.ops<|
 eo 4 (.box 148 (.t 1))<|
 eo 5 (.box 61 (.t 2))<|
 qo 6 (.mv (I 0))<|
 .nil)
 (.seq (.seq (.dops<|
 qo 11 (.mv (.t 0))<|
 qo 12 (.nck (.t 11))<|
 qo 13 (.fa 1 2 (.t 12))<|
 eo 14 (.load 1 false (.t 13))<|
 eo 15 (.load 2 true (.t 4))<|
 qo 16 (.bld (.agg [(.agg [(.int .i64 0),(.int .i64 0)])]) [([.fld 0],0,2,(.t 15))])<|
 qo 17 (.mkif 158 (.t 16))<|
 qo 18 (.ieq false [(8,(.st [(.int .i64),(.int .i64), .bool,(.int .u8)])),(10, .str),(11, .str),(158,(.st [(.st [(.int .i64),(.int .i64)])])),(195,(.arr 6 1 (.int .i64))),(228,(.int .u8))] (.t 14) (.t 17))<|
 .nil)
 (.prune [18,0,5,4,6] (.cond (.t 18)
 (.seq (.ops<|
 qo 6 (.mv (I 0))<|
 .nil)
 .ret)
 .skip)))
 (.prune [0,5,4,6] (.seq (.seq (.dops<|
 qo 19 (.mv (.t 0))<|
 qo 20 (.nck (.t 19))<|
 qo 21 (.fa 0 0 (.t 20))<|
 eo 22 (.load 2 true (.t 21))<|
 .prune [5,22,0,4,6]<|
 eo 23 (.load 6 true (.t 5))<|
 eo 24 (.qcall 109 [(.t 22),(.t 23)])<|
 qo 25 (.nt (.t 24))<|
 .nil)
 (.prune [25,0,4,5,6] (.cond (.t 25)
 (.ops<|
 qo 6 (.mv (I 2))<|
 .nil)
 .skip)))
 (.prune [0,4,5,6] (.seq (.ops<|
 qo 27 (.mv (.t 0))<|
 qo 28 (.nck (.t 27))<|
 qo 29 (.fa 1 2 (.t 28))<|
 eo 30 (.load 1 false (.t 29))<|
 .prune [30,0,4,5,6]<|
 qo 31 (.tas 195 (.arr 6 1 fun _=>(.int .i64 0)) (.t 30))<|
 qo 26 (.mv (.t 31))<|
 qo 32 (.ext 0 (.t 26))<|
 qo 33 (.ext 1 (.t 26))<|
 .prune [32,33,0,4,5,6]<|
 eo 7 (.alloc 195 (.arr 6 1 fun _=>(.int .i64 0)))<|
 en (.store 6 (.t 7) (.t 32))<|
 qo 8 (.mv (.t 33))<|
 .nil)
 (.prune [0,4,5,8,6] (.seq (.dops<|
 qo 34 (.mv (.t 0))<|
 qo 35 (.mv (.t 0))<|
 qo 36 (.nck (.t 35))<|
 qo 37 (.fa 1 2 (.t 36))<|
 eo 38 (.load 1 false (.t 37))<|
 .prune [4,5,38,34,0,8,6]<|
 eo 39 (.load 2 true (.t 4))<|
 eo 40 (.load 6 true (.t 5))<|
 eo 41 (.icall [(158,152),(195,154)] (.t 38) [(.t 39),(.t 40)])<|
 .prune [34,41,0,8,6]<|
 qo 42 (.nck (.t 34))<|
 qo 43 (.fa 1 2 (.t 42))<|
 en (.store 1 (.t 43) (.t 41))<|
 .nil)
 (.prune [0,8,6] (.seq (.seq (.ops<|
 qo 45 (.mv (.t 0))<|
 qo 46 (.nck (.t 45))<|
 qo 47 (.fa 1 2 (.t 46))<|
 eo 48 (.load 1 false (.t 47))<|
 .prune [48,8,0,6]<|
 qo 49 (.tas 195 (.arr 6 1 fun _=>(.int .i64 0)) (.t 48))<|
 qo 44 (.mv (.t 49))<|
 qo 50 (.ext 0 (.t 44))<|
 qo 51 (.ext 1 (.t 44))<|
 .prune [50,51,8,0,6]<|
 eo 9 (.alloc 195 (.arr 6 1 fun _=>(.int .i64 0)))<|
 en (.store 6 (.t 9) (.t 50))<|
 qo 10 (.mv (.t 51))<|
 .nil)
 (.prune [10,8,0,6] (.seq (.ops<|
 qo 52 (.mv (.t 10))<|
 qo 53 (.mv (.t 52))<|
 .sc false 56 53 (qo 54 (.mv (.t 8))<|
 qo 55 (.nt (.t 54))<|
 .nil) (.t 55)<|
 .nil)
 (.cond (.t 56)
 (.ops<|
 .prune [0,6]<|
 qo 57 (.mv (.t 0))<|
 qo 58 (.nck (.t 57))<|
 qo 59 (.fa 2 3 (.t 58))<|
 eo 60 (.load 1 false (.t 59))<|
 qo 61 (.ar .add (.t 60) (I 1))<|
 .prune [57,61,6]<|
 qo 62 (.nck (.t 57))<|
 qo 63 (.fa 2 3 (.t 62))<|
 en (.store 1 (.t 63) (.t 61))<|
 .nil)
 .skip))))
 (.prune [6] (.seq (.ops<|
 qo 64 (.mv (.t 6))<|
 qo 6 (.mv (.t 64))<|
 .nil)
 .ret))))))))))))
theorem c75:fnIs Try.prog qall 75=some (j75.flat,[.tmp 6],65):=by kernel_rfl
theorem w75:j75.wf 65=true:=by kernel_rfl
def j76:JC:=
 (.seq (.ops<|
 eo 4 (.box 148 (.t 1))<|
 eo 5 (.box 61 (.t 2))<|
 qo 6 (.mv (I 0))<|
 .nil)
 (.seq (.seq (.dops<|
 qo 9 (.mv (.t 0))<|
 qo 10 (.nck (.t 9))<|
 qo 11 (.fa 0 0 (.t 10))<|
 eo 12 (.load 2 true (.t 11))<|
 eo 13 (.load 2 true (.t 4))<|
 qo 14 (.aeq false (.st [(.int .i64),(.int .i64)]) (.t 12) (.t 13))<|
 .nil)
 (.cond (.t 14)
 (.seq (.ops<|
 qo 6 (.mv (I 0))<|
 .nil)
 .ret)
 .skip))
 (.prune [0,5,4,6] (.seq (.block 0 (.seq (.dops<|
 qo 16 (.mv (.t 0))<|
 qo 17 (.nck (.t 16))<|
 qo 18 (.fa 0 0 (.t 17))<|
 eo 19 (.load 2 true (.t 18))<|
 .prune [5,19,0,4,6]<|
 eo 20 (.load 6 true (.t 5))<|
 eo 21 (.qcall 109 [(.t 19),(.t 20)])<|
 qo 22 (.nt (.t 21))<|
 qo 15 (.mv (.t 22))<|
 .nil)
 (.prune [15,0,4,5,6] (.cond (.t 15)
 (.ops<|
 qo 6 (.mv (I 1))<|
 .nil)
 (.seq (.dops<|
 qo 24 (.mv (.t 0))<|
 qo 25 (.nck (.t 24))<|
 qo 26 (.fa 1 2 (.t 25))<|
 .prune [26,5,0,4,6]<|
 eo 27 (.load 1 false (.t 26))<|
 eo 28 (.load 6 true (.t 5))<|
 eo 29 (.icall [(158,153),(195,155)] (.t 27) [(.t 28)])<|
 qo 30 (.nt (.t 29))<|
 qo 23 (.mv (.t 30))<|
 .nil)
 (.prune [23,0,4,6] (.cond (.t 23)
 (.ops<|
 qo 6 (.mv (I 3))<|
 .nil)
 .skip)))))))
 (.prune [0,4,6] (.seq (.ops<|
 qo 31 (.mv (.t 0))<|
 eo 32 (.load 2 true (.t 4))<|
 qo 33 (.nck (.t 31))<|
 qo 34 (.fa 0 0 (.t 33))<|
 en (.store 2 (.t 34) (.t 32))<|
 .nil)
 (.seq (.seq (.ops<|
 .prune [0,6]<|
 qo 36 (.mv (.t 0))<|
 qo 37 (.nck (.t 36))<|
 qo 38 (.fa 1 2 (.t 37))<|
 eo 39 (.load 1 false (.t 38))<|
 qo 40 (.tas 195 (.arr 6 1 fun _=>(.int .i64 0)) (.t 39))<|
 .prune [40,0,6]<|
 qo 35 (.mv (.t 40))<|
 qo 41 (.ext 0 (.t 35))<|
 qo 42 (.ext 1 (.t 35))<|
 eo 7 (.alloc 195 (.arr 6 1 fun _=>(.int .i64 0)))<|
 en (.store 6 (.t 7) (.t 41))<|
 qo 8 (.mv (.t 42))<|
 .nil)
 (.prune [8,0,6] (.seq (.ops<|
 qo 43 (.mv (.t 8))<|
 .nil)
 (.cond (.t 43)
 (.ops<|
 qo 44 (.mv (.t 0))<|
 qo 45 (.bld (.agg [(.agg [(.int .i64 0),(.int .i64 0)])]) [])<|
 qo 46 (.mkif 158 (.t 45))<|
 .prune [44,46,6]<|
 qo 47 (.nck (.t 44))<|
 qo 48 (.fa 1 2 (.t 47))<|
 en (.store 1 (.t 48) (.t 46))<|
 .nil)
 .skip))))
 (.prune [6] (.seq (.ops<|
 qo 49 (.mv (.t 6))<|
 qo 6 (.mv (.t 49))<|
 .nil)
 .ret)))))))))
theorem c76:fnIs Try.prog qall 76=some (j76.flat,[.tmp 6],50):=by kernel_rfl
theorem w76:j76.wf 50=true:=by kernel_rfl
def Grw (f:FuncId) (a:List SV) (m:List Res):Sx.Call:=(FH.rd 109 (.two dPr dClk) (.one .bool) (fun _=>True) (fun y=>seenB y.1 y.2.1)<|
 FH.rd 153 (.two dOne dClk) (.one .bool) (fun _=>True) (fun y=>seenB y.1 y.2.1)<|
 FH.rd 155 (.two dClk dClk) (.one .bool) (fun _=>True) (fun y=>withB y.1 y.2.1)<|
 FH.rd 152 (.three dOne dPr dClk) (.one dRd) (fun y=>0≤y.2.1.a∧y.2.1.a<6∧0≤y.1.a∧y.1.a<6) (fun y=>alsoO y.1 y.2.1 y.2.2.1)<|
 FH.rd 154 (.three dClk dPr dClk) (.one dRd) (fun y=>0≤y.2.1.a∧y.2.1.a<6) (fun y=> .inr (setC y.1 y.2.1.a y.2.1.b)) FH.none) f a m
theorem Grw_eq (f:FuncId) (a:List SV) (m:List Res):Grw f a m=(FH.rd 109 (.two dPr dClk) (.one .bool) (fun _=>True) (fun y=>seenB y.1 y.2.1)<|
 FH.rd 153 (.two dOne dClk) (.one .bool) (fun _=>True) (fun y=>seenB y.1 y.2.1)<|
 FH.rd 155 (.two dClk dClk) (.one .bool) (fun _=>True) (fun y=>withB y.1 y.2.1)<|
 FH.rd 152 (.three dOne dPr dClk) (.one dRd) (fun y=>0≤y.2.1.a∧y.2.1.a<6∧0≤y.1.a∧y.1.a<6) (fun y=>alsoO y.1 y.2.1 y.2.2.1)<|
 FH.rd 154 (.three dClk dPr dClk) (.one dRd) (fun y=>0≤y.2.1.a∧y.2.1.a<6) (fun y=> .inr (setC y.1 y.2.1.a y.2.1.b)) FH.none) f a m:=nr rfl
theorem Grw_ok:FHOK Try.prog main Fz Grw:=FH.rd_ok (by kernel_rfl) (fun y _=>f_Seen y.1 y.2.1)<|FH.rd_ok (by kernel_rfl) (fun y _=>f_oneKnown y.1 y.2.1)<|FH.rd_ok (by kernel_rfl) (fun y _=>f_manyKnown y.1 y.2.1)<|
 FH.rd_ok (by kernel_rfl) (fun y h=>f_oneAlso y.1 y.2.1 y.2.2.1 h.1 h.2.1 h.2.2.1 h.2.2.2)<|FH.rd_ok (by kernel_rfl) (fun y h=>f_manyAlso y.1 y.2.2.1 y.2.1 h.1 h.2) FH.none_ok
theorem f_reads (s:Cl) (e:Pr) (c:Clk) (hs:okC s) (h1:0≤e.a) (h2:e.a<6):
  FnOK Try.prog main Fz 75 [.ptr 0 [] 0,dPr.emb e,dClk.emb c] [.blk 152 (dCl.emb s)] (.int .i64 (rdK s e c)) [.blk 152 (dCl.emb (rdS s e c))]:=by
 refine fn_walkF c75 w75 Grw_ok rfl ?_
 unfold j75
 obtain ⟨w,r,sl⟩:=s
 obtain ⟨hs1,hs2,hs3⟩:=hs
 simp only at hs1 hs2 hs3
 have hw:IntKind.i64.wrap (sl+1)=sl+1:=IntWalk.i64_in _ (by omega)
 cases r with
 |inl p=>
  simp only at hs3
  obtain ⟨h3,h4⟩:=hs3
  unfold rdS rdK
  simp only
  by_cases hq:p.a=e.a∧p.b=e.b
  ·have hd:(decide (p.a=e.a)&&decide (p.b=e.b))=true:=by simpa using hq
   rw [if_pos hq,if_pos hq]
   simp only [go_sem,seval,Grw_eq,tszC,tszE,tszM,hd]
  ·have hd:(decide (p.a=e.a)&&decide (p.b=e.b))=false:=by simpa using hq
   rw [if_neg hq,if_neg hq]
   by_cases hp:seenB p c=true
   ·rw [if_pos hp]
    have hal:alsoO p e c= .inl e:=if_pos hp
    simp only [go_sem,seval,Grw_eq,tszC,tszE,tszM,hd,hp,hal,h1,h2,h3,h4]
    exact ⟨fun h=>by rw [if_neg (by rw [h];simp)],fun h=>by rw [if_pos h]⟩
   ·rw [if_neg hp]
    have hal:alsoO p e c= .inr (setC (setC (fun _=>0) p.a p.b) e.a e.b):=if_neg hp
    simp only [go_sem,seval,Grw_eq,tszC,tszE,tszM,hd,hal,h1,h2,h3,h4,hw]
    exact ⟨fun h=>by rw [if_neg (by rw [h];simp)],fun h=>by rw [if_pos h]⟩
 |inr d=>
  unfold rdS rdK
  simp only
  simp only [go_sem,seval,Grw_eq,tszC,tszE,tszM,h1,h2]
  exact ⟨fun h=>by rw [if_neg (by rw [h];simp)],fun h=>by rw [if_pos h]⟩
theorem f_writes (s:Cl) (e:Pr) (c:Clk):
  FnOK Try.prog main Fz 76 [.ptr 0 [] 0,dPr.emb e,dClk.emb c] [.blk 152 (dCl.emb s)] (.int .i64 (wrK s e c)) [.blk 152 (dCl.emb (wrS s e))]:=by
 refine fn_walkF c76 w76 Grw_ok rfl ?_
 unfold j76
 obtain ⟨w,r,sl⟩:=s
 unfold wrS wrK
 simp only
 by_cases hq:w.a=e.a∧w.b=e.b
 ·have hd:(decide (w.a=e.a)&&decide (w.b=e.b))=true:=by simpa using hq
  rw [if_pos hq,if_pos hq]
  cases r with
  |inl p=>
   simp only [go_sem,seval,Grw_eq,tszC,tszE,tszM,hd]
  |inr d=>
   simp only [go_sem,seval,Grw_eq,tszC,tszE,tszM,hd]
 ·have hd:(decide (w.a=e.a)&&decide (w.b=e.b))=false:=by simpa using hq
  rw [if_neg hq,if_neg hq]
  unfold knownB
  cases r with
  |inl p=>
   simp only
   simp only [go_sem,seval,Grw_eq,tszC,tszE,tszM,hd]
   exact ⟨fun h=>by rw [if_pos h],fun h=>⟨fun h2=>by rw [if_neg (by rw [h];simp),if_pos h2],fun h2=>by rw [if_neg (by rw [h];simp),if_neg (by rw [h2];simp)]⟩⟩
  |inr d=>
   simp only
   simp only [go_sem,seval,Grw_eq,tszC,tszE,tszM,hd]
   exact ⟨fun h=>by rw [if_pos h],fun h=>⟨fun h2=>by rw [if_neg (by rw [h];simp),if_pos h2],fun h2=>by rw [if_neg (by rw [h];simp),if_neg (by rw [h2];simp)]⟩⟩
def j44:JC:=
 (.seq (.ops<|
 eo 4 (.box 59 (.t 1))<|
 eo 5 (.box 61 (.t 2))<|
 qo 6 (.mv (I 0))<|
 .nil)
 (.seq (.ops<|
 eo 10 (.load 6 true (.t 5))<|
 qo 11 (.fa 1 1 (.t 4))<|
 eo 12 (.load 1 false (.t 11))<|
 eo 13 (.call 74 [(.t 10),(.t 12)])<|
 .prune [13,4,0,5]<|
 qo 9 (.mv (.t 13))<|
 qo 14 (.ext 0 (.t 9))<|
 qo 15 (.ext 1 (.t 9))<|
 eo 7 (.alloc 148 (.agg [(.int .i64 0),(.int .i64 0)]))<|
 en (.store 2 (.t 7) (.t 14))<|
 qo 8 (.mv (.t 15))<|
 .nil)
 (.prune [4,0,7,5] (.seq (.seq (.ops<|
 qo 16 (.fa 0 0 (.t 4))<|
 eo 17 (.load 1 false (.t 16))<|
 qo 18 (.cmp .eql (.t 17) (I 1))<|
 .nil)
 (.cond (.t 18)
 (.seq (.ops<|
 .prune [0,7,5]<|
 qo 19 (.mv (.t 0))<|
 eo 20 (.load 2 true (.t 7))<|
 eo 21 (.load 6 true (.t 5))<|
 eo 22 (.call 75 [(.t 19),(.t 20),(.t 21)])<|
 qo 6 (.mv (.t 22))<|
 .nil)
 .ret)
 .skip))
 (.prune [0,7,5] (.seq (.ops<|
 qo 23 (.mv (.t 0))<|
 eo 24 (.load 2 true (.t 7))<|
 eo 25 (.load 6 true (.t 5))<|
 eo 26 (.call 76 [(.t 23),(.t 24),(.t 25)])<|
 qo 6 (.mv (.t 26))<|
 .nil)
 .ret))))))
theorem c44:fnIs Try.prog qall 44=some (j44.flat,[.tmp 6],27):=by kernel_rfl
theorem w44:j44.wf 27=true:=by kernel_rfl
def j43:JC:=
 (.seq (.ops<|
 qo 0 (.mv (.c .nilp))<|
 .nil)
 (.seq (.ops<|
 qo 1 (.bld (.agg [(.agg [(.int .i64 0),(.int .i64 0)])]) [])<|
 qo 2 (.mkif 158 (.t 1))<|
 qo 3 (.bld (.agg [(.agg [(.int .i64 0),(.int .i64 0)]), .nili,(.int .i64 0)]) [([.fld 1],2,1,(.t 2))])<|
 eo 4 (.box 152 (.t 3))<|
 qo 0 (.mv (.t 4))<|
 .nil)
 .ret))
theorem c43:fnIs Try.prog qall 43=some (j43.flat,[.tmp 0],5):=by kernel_rfl
theorem w43:j43.wf 5=true:=by kernel_rfl
def epN (c:Clk) (t:Int):Pr:=⟨t,c t.toNat⟩
def accS (s:Cl) (e:Ev) (c:Clk):Cl:=if e.kind=1 then rdS s (epN c e.thr) c else wrS s (epN c e.thr)
def accK (s:Cl) (e:Ev) (c:Clk):Int:=if e.kind=1 then rdK s (epN c e.thr) c else wrK s (epN c e.thr) c
def Gac (f:FuncId) (a:List SV) (m:List Res):Sx.Call:=(FH.rd 74 (.two dClk .int) (.two dPr .int) (fun _=>True) (fun y=>ofF y.1 y.2.1)<|
 FH.mt 75 152 dCl (.two dPr dClk) (.one .int) (fun s y=>okC s∧0≤y.1.a∧y.1.a<6) (fun s y=>rdK s y.1 y.2.1) (fun s y=>rdS s y.1 y.2.1)<|
 FH.mt 76 152 dCl (.two dPr dClk) (.one .int) (fun _ _=>True) (fun s y=>wrK s y.1 y.2.1) (fun s y=>wrS s y.1) FH.none) f a m
theorem Gac_eq (f:FuncId) (a:List SV) (m:List Res):Gac f a m=(FH.rd 74 (.two dClk .int) (.two dPr .int) (fun _=>True) (fun y=>ofF y.1 y.2.1)<|
 FH.mt 75 152 dCl (.two dPr dClk) (.one .int) (fun s y=>okC s∧0≤y.1.a∧y.1.a<6) (fun s y=>rdK s y.1 y.2.1) (fun s y=>rdS s y.1 y.2.1)<|
 FH.mt 76 152 dCl (.two dPr dClk) (.one .int) (fun _ _=>True) (fun s y=>wrK s y.1 y.2.1) (fun s y=>wrS s y.1) FH.none) f a m:=nr rfl
theorem Gac_ok:FHOK Try.prog main Fz Gac:=FH.rd_ok (by kernel_rfl) (fun y _=>f_Of y.1 y.2.1)<|
 FH.mt_ok (by kernel_rfl) (fun s y h=>f_reads s y.1 y.2.1 h.1 h.2.1 h.2.2)<|FH.mt_ok (by kernel_rfl) (fun s y _=>f_writes s y.1 y.2.1) FH.none_ok
theorem f_Access (s:Cl) (e:Ev) (c:Clk) (hs:okC s) (h1:0≤e.thr) (h2:e.thr<6):
  FnOK Try.prog main Fz 44 [.ptr 0 [] 0,dEv.emb e,dClk.emb c] [.blk 152 (dCl.emb s)] (.int .i64 (accK s e c)) [.blk 152 (dCl.emb (accS s e c))]:=by
 refine fn_walkF c44 w44 Gac_ok rfl ?_
 unfold j44
 have ho:ofF c e.thr=(epN c e.thr,0):=by unfold ofF;rw [if_pos ((isThr_iff _).2 ⟨h1,h2⟩)];rfl
 have ha:(epN c e.thr).a=e.thr:=rfl
 have hb:(epN c e.thr).b=c e.thr.toNat:=rfl
 unfold accS accK
 by_cases hk:e.kind=1
 ·rw [if_pos hk,if_pos hk]
  simp only [go_sem,seval,Gac_eq,tszC,tszE,tszM,ho,hk,hs,h1,h2,ha]
  exact ⟨rfl,rfl⟩
 ·rw [if_neg hk,if_neg hk]
  simp only [go_sem,seval,Gac_eq,tszC,tszE,tszM,ho,hk]
def cl0:Cl:=⟨⟨0,0⟩, .inl ⟨0,0⟩,0⟩
theorem f_NewCell:FnOK Try.prog main Fz 43 [] [] (.ptr 0 [] 0) [.blk 152 (dCl.emb cl0)]:=by
 refine fn_walkF c43 w43 FH.none_ok rfl ?_
 unfold j43
 simp only [go_sem,seval,tszC,tszE,tszM]
 rfl
end Go.Proofs.Ytpajfggdnobheaa.Fa
end
section
set_option maxRecDepth 100000
open Go Go.Sx Go.Proofs
namespace Go.Proofs.Ytpajfggdnobheaa.Fa
variable {main:Bool} {Fz:Nat→Prop}
open Go.Proofs.Ytpajfggdnobheaa.D Go.Proofs.Ytpajfggdnobheaa.Tr Go.Proofs.Ytpajfggdnobheaa.C Go.Proofs.Ytpajfggdnobheaa.Fu
def runX (l:List Ev):Nat→Nat→Cl
 |0,_=>cl0
 |i+1,x=>if isAcc (l.getD i dEv.dft)=true then (if x=(l.getD i dEv.dft).obj.toNat then accS (runX l i x) (l.getD i dEv.dft) ((runK l i).thr (l.getD i dEv.dft).thr.toNat) else runX l i x) else runX l i x
def flagX (l:List Ev) (i:Nat):Int:=if isAcc (l.getD i dEv.dft)=true then accK (runX l i (l.getD i dEv.dft).obj.toNat) (l.getD i dEv.dft) ((runK l i).thr (l.getD i dEv.dft).thr.toNat) else 0
def runXL (l:List Ev):Nat→List Fl
 |0=>[]
 |i+1=>runXL l i++if flagX l i=0 then [] else [⟨i,(l.getD i dEv.dft).obj,flagX l i⟩]
theorem acc_ok {s:Cl} {e:Ev} {c:Clk} {n:Int} (hs:okC s) (hn:s.slow≤n) (hn2:n<1000) (h1:0≤e.thr) (h2:e.thr<6):okC (accS s e c)∧(accS s e c).slow≤n+1:=by
 obtain ⟨w,r,sl⟩:=s
 obtain ⟨a1,a2,a3⟩:=hs
 simp only at a1 a2 a3 hn
 unfold accS
 split
 ·unfold rdS
  cases r with
  |inl p=>
   simp only
   split
   ·exact ⟨⟨a1,a2,a3⟩,by simp only;omega⟩
   ·split
    ·exact ⟨⟨a1,a2,⟨h1,h2⟩⟩,by simp only;omega⟩
    ·exact ⟨⟨by simp only;omega,by simp only;omega,trivial⟩,by simp only;omega⟩
  |inr d=>exact ⟨⟨a1,a2,trivial⟩,by simp only;omega⟩
 ·unfold wrS
  split
  ·exact ⟨⟨a1,a2,a3⟩,by simp only;omega⟩
  ·cases r with
   |inl p=>exact ⟨⟨a1,a2,a3⟩,by simp only;omega⟩
   |inr d=>exact ⟨⟨a1,a2,by simp⟩,by simp only;omega⟩
theorem runX_ok {l:List Ev} (hok:(checkR l).2=0):∀ i,i≤l.length→∀ x,okC (runX l i x)∧(runX l i x).slow≤i
 |0,_,x=>⟨⟨Int.le_refl _,by show (0:Int)≤1000;omega,by show (0:Int)≤0∧(0:Int)<6;omega⟩,Int.le_refl _⟩
 |i+1,h,x=>by
  obtain ⟨h1,h2⟩:=runX_ok hok i (by omega) x
  obtain ⟨b1,b2,b3,b4⟩:=(isEv_iff _).1 (ok_isEv hok i (by omega))
  have hl:=ok_len hok
  unfold runX
  split
  ·split
   ·have:=acc_ok (c:=(runK l i).thr (l.getD i dEv.dft).thr.toNat) h1 h2 (by omega) b1 b2
    exact ⟨this.1,by have:=this.2;omega⟩
   ·exact ⟨h1,by omega⟩
  ·exact ⟨h1,by omega⟩
theorem plR_cell (s:Cl):PlR (.blk 152 (dCl.emb s)):=fun r=>by
 obtain ⟨w,q,sl⟩:=s
 rw [show renR r (.blk 152 (dCl.emb ⟨w,q,sl⟩))= .blk 152 (dCl.emb ⟨w,q,sl⟩) by simp only [renR,dCl.ren]]
 show NoH _
 cases q with
 |inl p=>
  rw [cl_one]
  exact noH_agg (by intro x hx;simp only [List.mem_cons,List.not_mem_nil,or_false] at hx;rcases hx with rfl|rfl|rfl<;>first|exact noH_int _ _|exact noH_agg (by intro x hx;simp only [List.mem_cons,List.not_mem_nil,or_false] at hx;rcases hx with rfl|rfl<;>exact noH_int _ _)|exact noH_iface (noH_agg (by intro x hx;simp only [List.mem_cons,List.not_mem_nil,or_false] at hx;subst hx;exact noH_agg (by intro x hx;simp only [List.mem_cons,List.not_mem_nil,or_false] at hx;rcases hx with rfl|rfl<;>exact noH_int _ _))))
 |inr d=>
  rw [cl_many]
  exact noH_agg (by intro x hx;simp only [List.mem_cons,List.not_mem_nil,or_false] at hx;rcases hx with rfl|rfl|rfl<;>first|exact noH_int _ _|exact noH_agg (by intro x hx;simp only [List.mem_cons,List.not_mem_nil,or_false] at hx;rcases hx with rfl|rfl<;>exact noH_int _ _)|exact noH_iface (noH_arr fun _ _=>noH_int _ _))
end Go.Proofs.Ytpajfggdnobheaa.Fa
end
