/- A part of TopPrecise's proof. -/
import Derived.Test.YtpajfggdnobheaaDa
import Derived.Test.YtpajfggdnobheaaRows
import Derived.WalkKit
import Derived.Test.YtpajfggdnobheaaBa
import Derived.Conc.Know
import Derived.Test.YtpajfggdnobheaaAa
import Derived.Conc.CrowdComm
import Derived.Conc.TokenWalk
set_option linter.unusedVariables false
set_option linter.unusedSimpArgs false
open List renaming getElem?_eq_some_iff->z00,getElem?_set->z03,getElem?_eq_getElem->z04,mem_of_getElem?->z06,mem_cons_of_mem->z07,getElem?_append_left->z08,not_mem_nil->z09,mem_cons->z0d,getElem?_append_right->z0e,length_set->z0i,append_nil->z0m,mem_singleton->z0o,length_append->z0p,mem_toArray->z0s,getElem_inj->z0t,getElem?_cons_zero->z0u,drop_eq_nil_of_le->z14,length_cons->z1b,getD->z1c,map_append->z1d
open Array renaming getElem?_eq_some_iff->z01,getElem?_setIfInBounds_ne->z02,getElem?_setIfInBounds_self_of_lt->z05,getElem?_eq_getElem->z0g,size_setIfInBounds->z0q,mem_map->z0w,mem_append->z0x,getElem?_map->z18,ext_getElem?->z19,size_map->z1e
open Option renaming some.injEq->z0a,some.inj->z0f,map_some->z1a
open Int renaming toNat_natCast->z0b,le_refl->z0z
open Go.World renaming setChan->z0c
open Nat renaming ne_of_lt->z0h,lt_of_lt_of_le->z0j,le_refl->z0l,lt_or_ge->z0n,lt_trichotomy->z0r,zero_le->z16
open Go.IntKind renaming i64->z0k
open Bool renaming or_eq_true->z0v,or_eq_false_iff->z15,true_and->z1g
open Classical renaming byContradiction->z0y
open Prod renaming mk.injEq->z1f
set_option maxRecDepth 100000
open Go Go.Sx Go.Proofs
section
open Go Go.Sx
namespace Go.Proofs.Ytpajfggdnobheaa.D
variable {main:Bool} {Fz:Nat->Prop}
structure Ev where
 kind:Int
 aK:Int
 obj:Int
def bP:DT Ev:=(DT.nO (.st [.int .i64, .int .i64, .int .i64])).NS (λx=>⟨x.1,x.2.1,x.2.2.1⟩) (λe=>(e.kind,e.aK,e.obj,())) (λ_=>rfl) (λ_=>rfl)
instance:Flat bP:=(Flat.nO rfl).NS
theorem WB(e:Ev):bP.aA e= .agg [.int .i64 e.kind, .int .i64 e.aK, .int .i64 e.obj]:=nr rfl
theorem akG(m:List ay)(k t o:Int):bP.aI m (.agg [.int .i64 k, .int .i64 t, .int .i64 o])=⟨k,t,o⟩:=nr rfl
theorem akH(m:List ay)(k t o:Int):bP.decP m (.agg [.int .i64 k, .int .i64 t, .int .i64 o])=True:=eq_true ⟨rfl,rfl,rfl,trivial⟩
theorem aoK(e:Ev):(⟨e.kind,e.aK,e.obj⟩:Ev)=e:=nr rfl
instance:DecidableEq Ev:=λa b=>decidable_of_iff (a.kind=b.kind/\a.aK=b.aK/\a.obj=b.obj) ⟨λh=>by cases a;cases b;obtain⟨rfl,rfl,rfl⟩:=h;rfl,λh=>by subst h;exact⟨rfl,rfl,rfl⟩⟩
structure Pr where
 a:Int
 b:Int
def sG:DT Pr:=(DT.nO (.st [.int .i64, .int .i64])).NS (λx=>⟨x.1,x.2.1⟩) (λe=>(e.a,e.b,())) (λ_=>rfl) (λ_=>rfl)
instance:Flat sG:=(Flat.nO rfl).NS
theorem N8(e:Pr):sG.aA e= .agg [.int .i64 e.a, .int .i64 e.b]:=nr rfl
theorem akI(m:List ay)(k t:Int):sG.aI m (.agg [.int .i64 k, .int .i64 t])=⟨k,t⟩:=nr rfl
theorem akJ(m:List ay)(k t:Int):sG.decP m (.agg [.int .i64 k, .int .i64 t])=True:=eq_true ⟨rfl,rfl,trivial⟩
theorem aoL(e:Pr):(⟨e.a,e.b⟩:Pr)=e:=nr rfl
instance:DecidableEq Pr:=λa b=>decidable_of_iff (a.a=b.a/\a.b=b.b) ⟨λh=>by cases a;cases b;obtain⟨rfl,rfl⟩:=h;rfl,λh=>by subst h;exact⟨rfl,rfl⟩⟩
attribute [go_sem] WB akG akH aoK N8 akI akJ aoL
abbrev jH:=Nat->Int
def eP:DT jH:=DT.arr 6 1 DT.int
instance:Flat eP:=inferInstanceAs (Flat (DT.arr 6 1 DT.int))
theorem akK(f:jH):eP.aA f= .arr 6 1 λi=> .int .i64 (f i):=nr rfl
theorem ahc(m:List ay)(f:Nat->Int):eP.aI m (.arr 6 1 λi=> .int .i64 (f i))=f:=nr rfl
theorem ahd(m:List ay)(f:Nat->Int):eP.decP m (.arr 6 1 λi=> .int .i64 (f i))=True:=eq_true ⟨rfl,rfl,λ_ _=>rfl⟩
attribute [go_sem] akK ahc ahd
theorem Fe(f:Nat->Int)(i:Nat)(x:Int):zG (λk=>SV.int .i64 (f k)) i (.int .i64 x)=λk=>SV.int .i64 (if k=i then x else f k):=by
 funext k;unfold zG;split<;>rfl
theorem ahe(f:Nat->Bool)(i:Nat)(x:Bool):zG (λk=>SV.bool (f k)) i (.bool x)=λk=>SV.bool (if k=i then x else f k):=by
 funext k;unfold zG;split<;>rfl
theorem akL(n w:Nat)(f:Nat->Nat->Int)(i:Nat)(g:Nat->Int):zG (λk=>SV.arr n w λj=> .int .i64 (f k j)) i (.arr n w λj=> .int .i64 (g j))=λk=>SV.arr n w λj=> .int .i64 (if k=i then g j else f k j):=by
 funext k;unfold zG;split<;>rfl
attribute [go_sem] Fe ahe akL
structure Wd where
 begun:Nat->Bool
 over:Nat->Bool
 owner:Nat->Int
def Zg:DT Wd:=(DT.nO (.st [.arr 6 1 .bool, .arr 6 1 .bool, .arr 5 1 (.int .i64)])).NS (λx=>⟨x.1,x.2.1,x.2.2.1⟩) (λw=>(w.begun,w.over,w.owner,())) (λ_=>rfl) (λ_=>rfl)
instance:Flat Zg:=(Flat.nO rfl).NS
theorem aoM(w:Wd):Zg.aA w= .agg [.arr 6 1 λi=> .bool (w.begun i), .arr 6 1 λi=> .bool (w.over i), .arr 5 1 λi=> .int .i64 (w.owner i)]:=nr rfl
theorem akM(m:List ay)(f g:Nat->Bool)(h:Nat->Int):Zg.aI m (.agg [.arr 6 1 λi=> .bool (f i), .arr 6 1 λi=> .bool (g i), .arr 5 1 λi=> .int .i64 (h i)])=⟨f,g,h⟩:=nr rfl
theorem akN(m:List ay)(f g:Nat->Bool)(h:Nat->Int):Zg.decP m (.agg [.arr 6 1 λi=> .bool (f i), .arr 6 1 λi=> .bool (g i), .arr 5 1 λi=> .int .i64 (h i)])=True:=eq_true ⟨⟨rfl,rfl,λ_ _=>trivial⟩,⟨rfl,rfl,λ_ _=>trivial⟩,⟨rfl,rfl,λ_ _=>rfl⟩,trivial⟩
theorem aoN(w:Wd):(⟨w.begun,w.over,w.owner⟩:Wd)=w:=nr rfl
attribute [go_sem] aoM akM akN aoN
theorem pF{α:Type}{l:List α}{i:Nat}(d:α)(h:i<l.length):l.drop i=l.getD i d::l.drop (i+1):=by rw[List.drop_eq_getElem_cons h];simp[z1c,h]
theorem ou{α:Type}{l:List α}{i:Nat}(d:α)(h:i<l.length):l.take (i+1)=l.take i++[l.getD i d]:=by rw[List.take_add_one];simp[z1c,h]
theorem getD_mem{α:Type}{l:List α}{i:Nat}{d:α}(h:i<l.length):l.getD i d∈l:=by simp only[z1c,z04 h,Option.getD_some];exact List.getElem_mem h
def vZ{α:Type}(e:α->α->Bool):List α->List α->Bool
 |[],[]=>true
 |x::xs,y::ys=>e x y&&vZ e xs ys
 |_,_=>false
theorem Qs{α:Type}{e:α->α->Bool}:∀ {xs ys:List α},¬ ((xs.length:Int)=ys.length)->vZ e xs ys=false
 |[],[],h=>absurd rfl h
 |[],_::_,_=>rfl
 |_::_,[],_=>rfl
 |x::xs,y::ys,h=>by rw[vZ,Qs (xs:=xs) (ys:=ys) (by simp only[z1b] at h;omega),Bool.and_false]
theorem aaN{α:Type}{e:α->α->Bool}{xs ys:List α}{i:Nat}{d d':α}(h:i<xs.length)(h':i<ys.length):vZ e (xs.drop i) (ys.drop i)=(e (xs.getD i d) (ys.getD i d')&&vZ e (xs.drop (i+1)) (ys.drop (i+1))):=by rw[pF d h,pF d' h',vZ]
theorem aaO{α:Type}{e:α->α->Bool}{xs ys:List α}{i:Nat}(h:vZ e xs ys=vZ e (xs.drop i) (ys.drop i))(h1:xs.length<=i)(h2:ys.length<=i):vZ e xs ys=true:=by rw[h,z14 h1,z14 h2];rfl
theorem DF{α:Type}{e:α->α->Bool}(he:∀ x,e x x=true):∀ (xs:List α),vZ e xs xs=true
 |[]=>rfl
 |x::xs=>by simp[vZ,he,DF he]
structure Fl where
 at':Int
 var:Int
 kind:Int
def dW:DT Fl:=(DT.nO (.st [.int .i64, .int .i64, .int .i64])).NS (λx=>⟨x.1,x.2.1,x.2.2.1⟩) (λe=>(e.at',e.var,e.kind,())) (λ_=>rfl) (λ_=>rfl)
instance:Flat dW:=(Flat.nO rfl).NS
theorem aoO(e:Fl):dW.aA e= .agg [.int .i64 e.at', .int .i64 e.var, .int .i64 e.kind]:=nr rfl
theorem akO(m:List ay)(k t o:Int):dW.aI m (.agg [.int .i64 k, .int .i64 t, .int .i64 o])=⟨k,t,o⟩:=nr rfl
theorem akP(m:List ay)(k t o:Int):dW.decP m (.agg [.int .i64 k, .int .i64 t, .int .i64 o])=True:=eq_true ⟨rfl,rfl,rfl,trivial⟩
theorem aoP(e:Fl):(⟨e.at',e.var,e.kind⟩:Fl)=e:=nr rfl
attribute [go_sem] aoO akO akP aoP
structure Rc where
 a:Int
 b:Int
 var:Int
 kind:Int
def zu:DT Rc:=(DT.nO (.st [.int .i64, .int .i64, .int .i64, .int .i64])).NS (λx=>⟨x.1,x.2.1,x.2.2.1,x.2.2.2.1⟩) (λe=>(e.a,e.b,e.var,e.kind,())) (λ_=>rfl) (λ_=>rfl)
instance:Flat zu:=(Flat.nO rfl).NS
theorem ag1(e:Rc):zu.aA e= .agg [.int .i64 e.a, .int .i64 e.b, .int .i64 e.var, .int .i64 e.kind]:=nr rfl
theorem akQ(m:List ay)(k t o n:Int):zu.aI m (.agg [.int .i64 k, .int .i64 t, .int .i64 o, .int .i64 n])=⟨k,t,o,n⟩:=nr rfl
theorem akR(m:List ay)(k t o n:Int):zu.decP m (.agg [.int .i64 k, .int .i64 t, .int .i64 o, .int .i64 n])=True:=eq_true ⟨rfl,rfl,rfl,rfl,trivial⟩
theorem aoQ(e:Rc):(⟨e.a,e.b,e.var,e.kind⟩:Rc)=e:=nr rfl
attribute [go_sem] ag1 akQ akR aoQ
abbrev fD:DT (List Ev):=DT.list 3 bP
abbrev dIs:DT (List Int):=DT.list 1 DT.int
abbrev mY:DT (List Fl):=DT.list 3 dW
abbrev SB:DT (List Rc):=DT.list 4 zu
abbrev PO:DT (List (List Bool)):=DT.list 1 (DT.list 1 DT.bool)
structure Kp where
 aK:Nat->jH
 lk:Nat->jH
 vl:Nat->jH
def uX:DT Kp:=(DT.nO (.st [.arr 6 6 (.arr 6 1 (.int .i64)), .arr 5 6 (.arr 6 1 (.int .i64)), .arr 4 6 (.arr 6 1 (.int .i64))])).NS (λx=>⟨x.1,x.2.1,x.2.2.1⟩) (λe=>(e.aK,e.lk,e.vl,())) (λ_=>rfl) (λ_=>rfl)
instance:Flat uX:=(Flat.nO rfl).NS
theorem aoR(e:Kp):uX.aA e= .agg [.arr 6 6 λi=> .arr 6 1 λj=> .int .i64 (e.aK i j), .arr 5 6 λi=> .arr 6 1 λj=> .int .i64 (e.lk i j), .arr 4 6 λi=> .arr 6 1 λj=> .int .i64 (e.vl i j)]:=nr rfl
theorem akS(m:List ay)(f g h:Nat->Nat->Int):uX.aI m (.agg [.arr 6 6 λi=> .arr 6 1 λj=> .int .i64 (f i j), .arr 5 6 λi=> .arr 6 1 λj=> .int .i64 (g i j), .arr 4 6 λi=> .arr 6 1 λj=> .int .i64 (h i j)])=⟨f,g,h⟩:=nr rfl
theorem akT(m:List ay)(f g h:Nat->Nat->Int):uX.decP m (.agg [.arr 6 6 λi=> .arr 6 1 λj=> .int .i64 (f i j), .arr 5 6 λi=> .arr 6 1 λj=> .int .i64 (g i j), .arr 4 6 λi=> .arr 6 1 λj=> .int .i64 (h i j)])=True:=eq_true ⟨⟨rfl,rfl,λ_ _=>⟨rfl,rfl,λ_ _=>rfl⟩⟩,⟨rfl,rfl,λ_ _=>⟨rfl,rfl,λ_ _=>rfl⟩⟩,⟨rfl,rfl,λ_ _=>⟨rfl,rfl,λ_ _=>rfl⟩⟩,trivial⟩
theorem aoS(k:Kp):(⟨k.aK,k.lk,k.vl⟩:Kp)=k:=nr rfl
attribute [go_sem] aoR akS akT aoS
end Go.Proofs.Ytpajfggdnobheaa.D
end
namespace Go.Proofs.Ytpajfggdnobheaa.C
variable {main:Bool} {Fz:Nat->Prop}
open D
def j78:JC:=(qN (o8 2 0<|.nil) (.seq (.aZ<|o7 3 0<|qA 4 1 3 0<|o9 5 1 4<|o7 6 0<|qA 7 1 6 1<|o9 8 1 7<|qo 9 (.mx (.t 5) (.t 8))<|o7 2 9<|.nil) .ret))
def alQ:JC:=(qN (oZ 11 10 6<|.nil) (.seq (qO 11 .skip (.exit 0)) (.seq (.block 1 (qN (o7 12 10<|qo 13 (.ix 6 1 false (.t 9) (.t 10))<|o7 7 12<|o7 8 13<|.nil) (qM [7,2,3,8,10,9,6] (.ops<|o7 14 7<|o7 15 2<|o7 16 7<|oK 17 6 1 3 16<|o9 18 1 17<|qL [8,18,15,3,14,10,9,2,6]<|o7 19 8<|eo 20 (.Ia 3 1 2 (.int .i64 0) [(0,(.t 18)),(1,(.t 19))])<|qL [15,20,3,14,10,9,2,6]<|eo 21 (.fO (.t 15) [(.t 20)])<|oK 22 6 1 3 14<|oG 1 22 21<|.nil)))) (qM [10,9,2,3,6] (.ops<|oI 23 10 1<|o7 10 23<|.nil)))))
def alR:JC:=(qM [3,6] (qN (oC 24 6 3<|oG 6 6 24<|.nil) .ret))
def j77:JC:=(qN (oU 3 61 0<|oU 4 61 1<|eo 6 (.alloc 61 (.arr 6 1 λ_=>(.int .i64 0)))<|.nil) (.seq (qN (oC 9 6 4<|o8 10 0<|.nil) (.block 0 (.loop [9,2,3,6] [10] alQ))) alR))
def j45:JC:=(qN (oU 2 61 0<|oU 3 61 1<|eo 4 (.alloc 61 (.arr 6 1 λ_=>(.int .i64 0)))<|.nil) (qN (oC 5 6 2<|oC 6 6 3<|eo 7 (.call 77 [(.t 5),(.t 6),(.c (.fn 78 []))])<|oG 6 4 7<|.nil) .ret))
def mxI(a b:Int):Int:=if a<b then b else a
theorem abH(l:List Int)(h:2<=l.length):bC Try.prog main Fz 78 [(DT.list 1 DT.int).aA l] [] (.int .i64 (mxI (l.getD 0 0) (l.getD 1 0))) []:=by
 refine wkA j78 [.tmp 2] 10 FH.au rfl ?_;unfold j78;simp only[go_sem,seval]
 first|exact⟨by omega,by omega,rfl⟩|exact⟨by omega,by omega⟩|exact⟨⟨by omega,by omega⟩,⟨by omega,by omega⟩,rfl⟩
def agD(f:FuncId)(a:List SV)(m:List ay):Sx.Call:=(FH.rd 78 (.one (DT.list 1 DT.int)) (.one .int) (λy=>2<=y.1.length) (λy=>mxI (y.1.getD 0 0) (y.1.getD 1 0)) FH.none) f a m
theorem agE:type_of% (nq agD.eq_1):=nq agD.eq_1
theorem agF:bQ Try.prog main Fz agD:=FH.dM (λy h=>abH y.1 h) FH.au
def mrg(g:Int->Int->Int)(a b:jH)(n:Nat):jH:=λk=>if k<n then g (a k) (b k) else a k
theorem agG(g:Int->Int->Int)(a b:jH)(n k:Nat):(if k=n then g (a n) (b n) else mrg g a b n k)=mrg g a b (n+1) k:=by
 unfold mrg;by_cases h:k=n
 ·subst h;simp
 ·by_cases h2:k<n
  ·simp[h,h2,Nat.lt_succ_of_lt h2]
  ·simp[h,h2,show ¬ k<n+1 by omega]
theorem aou(g:Int->Int->Int)(a b:jH)(n:Nat):mrg g a b n n=a n:=by simp[mrg]
theorem aqz:rP Try.prog 61=some (6,true):=by kernel_rfl
theorem agH(a b:jH):bC Try.prog main Fz 77 [eP.aA a,eP.aA b, .fn 78 []] [] (eP.aA (mrg mxI a b 6)) []:=by
 refine wkA j77 [.cell 6 61] 25 agF rfl ?_;unfold j77;simp only[go_sem,seval];refine bU Nat (λi=>[.int .i64 i]) (λi=>[.blk 61 (eP.aA (mrg mxI a b i)), .blk 61 (eP.aA b), .blk 61 (eP.aA λ_=>0)]) (λi=>i<=6) (λi=>6 - i) 0 (by omega) ?_ ?_ ?_
 ·simp only[go_sem,seval]
 ·rfl
 ·intro i hi;unfold alQ;simp only[go_sem,seval,agE];refine⟨λh=>⟨by omega,by omega,by omega,i+1,by omega,by omega,?_,?_⟩,λh=> ?_⟩
  ·exact aJ
  ·simp only[aou,agG]
  ·rw[show i=6 by omega]
   unfold alR;simp only[go_sem,seval,aqz]
def kY(a b:jH):jH:=mrg mxI a b 6
def Gm(f:FuncId)(a:List SV)(m:List ay):Sx.Call:=(FH.rd 77 (.three eP eP DT.NK) (.one eP) (λy=>y.2.2.1=78) (λy=>kY y.1 y.2.1) FH.none) f a m
theorem agI:type_of% (nq Gm.eq_1):=nq Gm.eq_1
theorem agJ:bQ Try.prog main Fz Gm:=FH.dM (λy h=>by obtain⟨a,b,f,u⟩:=y;simp only at h;subst h;exact agH a b) FH.au
theorem aoi(a b:jH):bC Try.prog main Fz 45 [eP.aA a,eP.aA b] [] (eP.aA (kY a b)) []:=by refine wkA j45 [.cell 4 61] 8 agJ rfl ?_;unfold j45;simp only[go_sem,seval,agI,aqz]
end Go.Proofs.Ytpajfggdnobheaa.C
namespace Go.Proofs.Ytpajfggdnobheaa.Tr
variable {main:Bool} {Fz:Nat->Prop}
open D
def j120:JC:=(qN (o8 2 0<|.nil) (.seq (qN (o7 3 0<|.nil) (.block 0 (.seq (qN (oH 5 3 1<|o7 4 5<|.nil) (.orc 4<|oH 6 3 2<|o7 4 6<|.nil)) (qO 4 (qN (o8 2 8<|.nil) .ret) (.seq (qN (oH 8 3 3<|o7 7 8<|.nil) (.orc 7<|oH 9 3 4<|o7 7 9<|.nil)) (qM [7,3] (qO 7 (qN (o8 2 5<|.nil) .ret) (.seq (qN (oH 11 3 5<|o7 10 11<|.nil) (.orc 10<|oH 12 3 6<|o7 10 12<|.nil)) (qO 10 (qN (o8 2 6<|.nil) .ret) (.seq (qN (oH 14 3 7<|o7 13 14<|.nil) (.orc 13<|oH 15 3 8<|o7 13 15<|.nil)) (qM [13] (qO 13 (qN (o8 2 4<|.nil) .ret) .skip)))))))))))) (qM [] (qN (o8 2 0<|.nil) .ret))))
def j107:JC:=(qN (oU 1 59 0<|qG 2 false<|.nil) (.seq (.aZ<|oD 3 1 1 1<|o9 4 1 3<|qo 5 (.cmp .geq (.t 4) (I 0))<|o7 6 5<|.sc false 10 6 (oD 7 1 1 1<|o9 8 1 7<|oZ 9 8 6<|.nil) (.t 9)<|qL [10,1]<|o7 11 10<|.sc false 15 11 (oD 12 2 2 1<|o9 13 1 12<|qo 14 (.cmp .geq (.t 13) (I 0))<|.nil) (.t 14)<|o7 16 15<|.sc false 23 16 (oD 17 2 2 1<|o9 18 1 17<|oD 19 0 0 1<|o9 20 1 19<|eo 21 (.nD 120 [(.t 20)])<|oN 22 18 21<|.nil) (.t 22)<|o7 2 23<|.nil) .ret))
def j73:JC:=(qN (oU 3 59 1<|o8 4 0<|.nil) (.seq (.block 0 (qN (oC 6 3 3<|oL 7 107 6<|qE 8 7<|o7 5 8<|.nil) (qO 5 (qN (o8 4 1<|.nil) .ret) (.seq (.aZ<|o7 10 0<|qL [3,10,0]<|oD 11 1 1 3<|o9 12 1 11<|oP 13 10<|oD 14 0 0 13<|qL [14,12,0,3]<|oK 15 6 1 14 12<|o9 16 1 15<|qE 17 16<|qL [17,0,3]<|o7 18 17<|.sc true 26 18 (o7 19 0<|oD 20 1 1 3<|o9 21 1 20<|oP 22 19<|oD 23 1 6 22<|oK 24 6 1 23 21<|o9 25 1 24<|.nil) (.t 25)<|o7 9 26<|.nil) (qM [9,3,0] (qO 9 (qN (o8 4 11<|.nil) .ret) .skip)))))) (qM [3,0] (.seq (qN (oD 27 0 0 3<|o9 28 1 27<|.nil) (.block 1 (qN (oH 30 28 3<|o7 29 30<|.nil) (qO 29 (.seq (.seq (.aZ<|o7 31 0<|qL [3,31,0]<|oD 32 2 2 3<|o9 33 1 32<|oP 34 31<|oD 35 2 12 34<|qL [35,33,0,3]<|oK 36 5 1 35 33<|o9 37 1 36<|qB 38 37 0<|.nil) (qM [38,0,3] (qO 38 (qN (o8 4 9<|.nil) .ret) .skip))) (qM [0,3] (.aZ<|o7 39 0<|oD 40 2 2 3<|o9 41 1 40<|oD 42 1 1 3<|o9 43 1 42<|qL [43,39,41]<|oI 44 43 1<|oP 45 39<|oD 46 2 12 45<|oK 47 5 1 46 41<|oG 1 47 44<|.nil))) (qN (oH 49 28 4<|o7 48 49<|.nil) (qO 48 (.seq (.seq (.aZ<|qL [0,3]<|o7 50 0<|oD 51 2 2 3<|o9 52 1 51<|oP 53 50<|oD 54 2 12 53<|qL [54,52,3,0]<|oK 55 5 1 54 52<|o9 56 1 55<|oD 57 1 1 3<|qL [57,56,0,3]<|o9 58 1 57<|oI 59 58 1<|qo 60 (.cmp .neq (.t 56) (.t 59))<|.nil) (qM [60,0,3] (qO 60 (qN (o8 4 10<|.nil) .ret) .skip))) (qM [0,3] (.aZ<|o7 61 0<|oD 62 2 2 3<|o9 63 1 62<|oP 64 61<|oD 65 2 12 64<|oK 66 5 1 65 63<|en (.store 1 (.t 66) (I 0))<|.nil))) (qN (oH 68 28 5<|o7 67 68<|.nil) (qM [67,0,3,28] (qO 67 (.seq (.seq (.aZ<|o7 69 0<|oD 70 2 2 3<|o9 71 1 70<|qL [69,71,0,3]<|oP 72 69<|oD 73 0 0 72<|oK 74 6 1 73 71<|o9 75 1 74<|.nil) (qM [75,0,3] (qO 75 (qN (o8 4 8<|.nil) .ret) .skip))) (qM [0,3] (.aZ<|o7 76 0<|oD 77 2 2 3<|o9 78 1 77<|oP 79 76<|oD 80 0 0 79<|oK 81 6 1 80 78<|en (.store 1 (.t 81) (B true))<|.nil))) (qN (oH 83 28 6<|o7 82 83<|.nil) (qO 82 (.seq (.seq (.aZ<|o7 84 0<|qL [3,84,0]<|oD 85 2 2 3<|o9 86 1 85<|oP 87 84<|oD 88 0 0 87<|qL [88,86,3,0]<|oK 89 6 1 88 86<|o9 90 1 89<|qE 91 90<|qL [91,3,0]<|o7 92 91<|.sc true 98 92 (oD 93 2 2 3<|o9 94 1 93<|oD 95 1 1 3<|o9 96 1 95<|oW 97 94 96<|.nil) (.t 97)<|.nil) (qM [98,0,3] (qO 98 (qN (o8 4 7<|.nil) .ret) .skip))) (qM [0,3] (.aZ<|o7 99 0<|oD 100 2 2 3<|o9 101 1 100<|oP 102 99<|oD 103 1 6 102<|oK 104 6 1 103 101<|en (.store 1 (.t 104) (B true))<|.nil))) .skip))))))))))) (qM [] (qN (o8 4 0<|.nil) .ret))))))
def j72:JC:=(qN (qo 0 (.mv (.c .lD))<|.nil) (qN (qo 2 (.AU (.agg [(.arr 6 1 λ_=>(.bool false)),(.arr 6 1 λ_=>(.bool false)),(.arr 5 1 λ_=>(.int .i64 0))]) [])<|oU 3 193 2<|o7 1 3<|.nil) (qN (o7 4 1<|oP 5 4<|oD 6 0 0 5<|qo 7 (.ia 6 1 (.t 6) (I 0))<|en (.store 1 (.t 7) (B true))<|.nil) (qN (o7 8 1<|o7 0 8<|.nil) .ret))))
def alT:JC:=(qN (oN 17 16 15<|.nil) (.seq (qO 17 .skip (.exit 0)) (.seq (.block 1 (qN (o7 18 16<|oJ 19 3 14 16<|oC 20 3 19<|qK 7 59<|o7 6 18<|oG 3 7 20<|.nil) (qM [5,7,6,16,15,14] (qN (o7 21 5<|oC 22 3 7<|qC 23 73 21 22<|o7 8 23<|.nil) (qM [8,5,6,16,15,14] (qN (o7 24 8<|qB 25 24 0<|.nil) (qO 25 (qN (qL [5,6,8]<|o7 26 5<|o7 27 6<|o7 28 8<|o7 2 26<|o7 3 27<|o7 4 28<|.nil) .ret) .skip))))))) (qM [16,15,14,5] (.ops<|oI 29 16 1<|o7 16 29<|.nil)))))
def alU:JC:=(qM [5] (qN (o7 30 5<|o7 2 30<|o8 3 0<|o8 4 0<|.nil) .ret))
def j42:JC:=(qN (qo 2 (.mv (.c .lD))<|o8 3 0<|o8 4 0<|.nil) (qN (eo 9 (.call 72 [])<|o7 5 9<|.nil) (.seq (qN (o7 10 0<|oO 11 10<|qJ 12 11 80<|.nil) (qO 12 (qN (qL [5]<|o7 13 5<|o7 2 13<|o8 3 0<|o8 4 2<|.nil) .ret) .skip)) (qM [0,5] (.seq (qN (o7 14 0<|oO 15 14<|o8 16 0<|.nil) (.block 0 (.loop [15,14,5] [16] alT))) alU)))))
def j19:JC:=(qN (o8 2 0<|o8 3 0<|.nil) (qN (o7 8 0<|oL 9 42 8<|o7 7 9<|oM 10 0 7<|oM 11 1 7<|qL [7,10,11]<|oM 12 2 7<|o7 4 10<|o7 5 11<|o7 6 12<|.nil) (qM [5,6] (qN (o7 13 5<|o7 14 6<|o7 2 13<|o7 3 14<|.nil) .ret))))
def many(k:Int):Int:=if k=1\/k=2 then 8 else if k=3\/k=4 then 5 else if k=5\/k=6 then 6 else if k=7\/k=8 then 4 else 0
theorem aoy(k:Int):bC Try.prog main Fz 120 [.int .i64 k] [] (.int .i64 (many k)) []:=by refine wkA j120 [.tmp 2] 16 FH.au rfl ?_;unfold j120;simp only[go_sem,seval];unfold many;refine⟨λh=> ?_,λh=>⟨λh2=> ?_,λh2=>⟨λh3=> ?_,λh3=>⟨λh4=> ?_,λh4=> ?_⟩⟩⟩⟩<;>simp_all
def yZ(e:Ev):Bool:=decide (0<=e.aK)&&decide (e.aK<6)&&decide (0<=e.obj)&&decide (e.obj<many e.kind)
def Gm(f:FuncId)(a:List SV)(m:List ay):Sx.Call:=(FH.rd 120 (.one .int) (.one .int) (λ_=>True) (λy=>many y.1) FH.none) f a m
theorem agI:type_of% (nq Gm.eq_1):=nq Gm.eq_1
theorem agJ:bQ Try.prog main Fz Gm:=FH.dM (λy _=>aoy y.1) FH.au
theorem abQ(e:Ev):bC Try.prog main Fz 107 [bP.aA e] [] (.bool (yZ e)) []:=by refine wkA j107 [.tmp 2] 24 agJ rfl ?_;unfold j107;simp only[go_sem,seval,agI];rfl
def upd{α:Type}(f:Nat->α)(i:Nat)(x:α):Nat->α:=λk=>if k=i then x else f k
def iC(w:Wd)(e:Ev):Wd×Int:=
 if yZ e=false then(w,1) else
 if (!w.begun e.aK.toNat||w.over e.aK.toNat)=true then(w,11) else
 if e.kind=3 then(if w.owner e.obj.toNat≠0 then(w,9) else({w with owner:=upd w.owner e.obj.toNat (e.aK+1)},0)) else
 if e.kind=4 then(if w.owner e.obj.toNat≠e.aK+1 then(w,10) else({w with owner:=upd w.owner e.obj.toNat 0},0)) else
 if e.kind=5 then(if w.begun e.obj.toNat=true then(w,8) else({w with begun:=upd w.begun e.obj.toNat true},0)) else
 if e.kind=6 then(if (!w.begun e.obj.toNat||decide (e.obj=e.aK))=true then(w,7) else({w with over:=upd w.over e.obj.toNat true},0)) else(w,0)
def Gi(f:FuncId)(a:List SV)(m:List ay):Sx.Call:=(FH.rd 107 (.one bP) (.one .bool) (λ_=>True) (λy=>yZ y.1) FH.none) f a m
theorem aqD:type_of% (nq Gi.eq_1):=nq Gi.eq_1
theorem aqE:bQ Try.prog main Fz Gi:=FH.dM (λy _=>abQ y.1) FH.au
theorem jl(e:Ev):yZ e=true↔0<=e.aK/\e.aK<6/\0<=e.obj/\e.obj<many e.kind:=by simp[yZ,and_assoc]
theorem akD(w:Wd)(e:Ev):bC Try.prog main Fz 73 [.ptr 0 [] 0,bP.aA e] [.blk 193 (Zg.aA w)] (.int .i64 (iC w e).2) [.blk 193 (Zg.aA (iC w e).1)]:=by
 refine wkA j73 [.tmp 4] 105 aqE rfl ?_;unfold j73;simp only[go_sem,seval,aqD];refine⟨λh1=>by simp[iC,h1],λh1=> ?_⟩
 obtain⟨b1,b2,b3,b4⟩:=(jl e).1 h1;have hw:z0k.wrap (e.aK+1)=e.aK+1:=aJ;rw[hw];refine⟨⟨b1,b2⟩,λ_=>⟨b1,b2⟩,λh2=>by simp[iC,h1,h2],λh2=>⟨λh3=> ?_,λh3=>⟨λh4=> ?_,λh4=>⟨λh5=> ?_,λh5=>⟨λh6=> ?_,λh6=> ?_⟩⟩⟩⟩⟩
 ·have b5:e.obj<5:=by simpa[many,h3] using b4
  exact⟨⟨b3,b5⟩,λh7=>by simp[iC,h1,h2,h3,h7],λh7=>⟨⟨b3,b5⟩,by simp[iC,h1,h2,h3,h7,upd]⟩⟩
 ·have b5:e.obj<5:=by simpa[many,h4] using b4
  exact⟨⟨b3,b5⟩,λh7=>by simp[iC,h1,h2,h4,h7],λh7=>⟨⟨b3,b5⟩,by simp[iC,h1,h2,h4,h7,upd]⟩⟩
 ·have b5:e.obj<6:=by simpa[many,h5] using b4
  exact⟨⟨b3,b5⟩,λh7=>by simp[iC,h1,h2,h5,h7],λh7=>⟨⟨b3,b5⟩,by simp[iC,h1,h2,h5,h7,upd]⟩⟩
 ·have b5:e.obj<6:=by simpa[many,h6] using b4
  exact⟨⟨b3,b5⟩,λh7=>by simp[iC,h1,h2,h6,h7],λh7=>⟨⟨b3,b5⟩,by simp[iC,h1,h2,h6,h7,upd]⟩⟩
 ·simp[iC,h1,h2,h3,h4,h5,h6]
def rD:Wd:=⟨upd (λ_=>false) 0 true,λ_=>false,λ_=>0⟩
theorem Oi:bC Try.prog main Fz 72 [] [] (.ptr 0 [] 0) [.blk 193 (Zg.aA rD)]:=by refine wkA j72 [.tmp 0] 9 FH.au rfl ?_;unfold j72;simp only[go_sem,seval];simp[rD,upd]
def BQ:List Ev->Nat->Wd->Wd×Int×Int
 |[],_,w=>(w,0,0)
 |e::r,i,w=>if (iC w e).2=0 then BQ r (i+1) (iC w e).1 else((iC w e).1,i,(iC w e).2)
def aN(l:List Ev):Wd×Int×Int:=if 80<l.length then(rD,0,2) else BQ l 0 rD
def Gp(f:FuncId)(a:List SV)(m:List ay):Sx.Call:=(FH.mk 72 .nil (λ_=>True) (λ_=> .ptr 0 [] 0) (λ_=>[.blk 193 (Zg.aA rD)])<|
 FH.mt 73 193 Zg (.one bP) (.one .int) (λ_ _=>True) (λw y=>(iC w y.1).2) (λw y=>(iC w y.1).1) FH.none) f a m
theorem je:type_of% (nq Gp.eq_1):=nq Gp.eq_1
theorem LK(d:DT Wd)[h:Flat d](w:Wd):Na (.ptr 0 [] 0) [.blk 193 (d.aA w)]:=λr=>by
 refine⟨?_,λy hy=> ?_⟩
 ·simp only[ren,iD];split
  ·exact(MX _ _ _).val rfl
  ·exact CU
 ·simp only[z0d,z09,or_false] at hy;subst hy;simp only[dR,d.ren];exact h.noH w
theorem QS:bQ Try.prog main Fz Gp:=FH.ku (λ_ _=>LK Zg rD) (λ_ _=>Oi)<|FH.zo (λw y _=>akD w y.1) FH.au
def wAt(l:List Ev)(i:Nat):Wd:=(l.take i).foldl (λw e=>(iC w e).1) rD
theorem agY(l:List Ev):bC Try.prog main Fz 42 [(DT.list 3 bP).aA l] [] (.cu [.ptr 0 [] 0, .int .i64 (aN l).2.1, .int .i64 (aN l).2.2]) [.blk 193 (Zg.aA (aN l).1)]:=by
 refine MQ λhB=>wkA j42 [.tmp 2, .tmp 3, .tmp 4] 31 QS rfl ?_;simp only[go_sem,seval] at hB;unfold j42;simp only[go_sem,seval,je];refine⟨λh=> ?_,λh=> ?_⟩
 ·have:aN l=(rD,0,2):=if_pos (by omega)
  rw[this];exact⟨rfl,rfl⟩
 have h80:¬ 80<l.length:=by omega
 refine bU Nat (λi=>[.int .i64 i]) (λi=>[.blk 193 (Zg.aA (wAt l i))]) (λi=>i<=l.length/\aN l=BQ (l.drop i) i (wAt l i)) (λi=>l.length - i) 0 ⟨by omega,by simp[aN,h80,wAt]⟩ ?_ rfl ?_
 ·simp only[go_sem,seval]
 ·intro i hi;unfold alT;simp only[go_sem,seval,je];refine⟨λh1=> ?_,λh1=> ?_⟩
  ·have hil:i<l.length:=by omega
   have hd:=pF bP.bg hil;have hw:wAt l (i+1)=(iC (wAt l i) (l.getD i bP.bg)).1:=by simp only[wAt,ou bP.bg hil,List.foldl_append,List.foldl_cons,List.foldl_nil]
   have hp:=hi.2;rw[hd] at hp;simp only[BQ] at hp;refine⟨by omega,λh2=> ?_,λh2=>⟨i+1,⟨by omega,?_⟩,by omega,aJ,?_⟩⟩
   ·rw[if_neg h2] at hp;rw[hp];exact⟨rfl,rfl⟩
   ·rw[if_pos h2] at hp;rw[hp,hw]
   ·rw[hw]
  ·have hil:i=l.length:=by omega
   subst hil;have hp:=hi.2;rw[List.drop_length] at hp;simp only[BQ] at hp;rw[hp];unfold alU;simp only[go_sem,seval]
def Gc(f:FuncId)(a:List SV)(m:List ay):Sx.Call:=(FH.mk 42 (.one (DT.list 3 bP)) (λ_=>True) (λy=> .cu [.ptr 0 [] 0, .int .i64 (aN y.1).2.1, .int .i64 (aN y.1).2.2]) (λy=>[.blk 193 (Zg.aA (aN y.1).1)]) FH.none) f a m
theorem cZ:type_of% (nq Gc.eq_1):=nq Gc.eq_1
theorem Pj(d:DT Wd)[h:Flat d](w:Wd)(a b:Int):Na (.cu [.ptr 0 [] 0, .int .i64 a, .int .i64 b]) [.blk 193 (d.aA w)]:=λr=>by
 refine⟨?_,(LK d w r).2⟩;simp only[ren,dH];refine wM λx hx=> ?_;simp only[z0d,z09,or_false] at hx;rcases hx with rfl|rfl|rfl
 ·simp only[iD];split
  ·exact MX _ _ _
  ·exact Qw
 ·exact iZ _ _
 ·exact iZ _ _
theorem lZ:bQ Try.prog main Fz Gc:=FH.ku (λy _=>Pj Zg _ _ _) (λy _=>agY y.1) FH.au
theorem E5(l:List Ev):bC Try.prog main Fz 19 [(DT.list 3 bP).aA l] [] (.cu [.int .i64 (aN l).2.1, .int .i64 (aN l).2.2]) []:=by refine wkA j19 [.tmp 2, .tmp 3] 15 lZ rfl ?_;unfold j19;simp only[go_sem,seval,cZ]
end Go.Proofs.Ytpajfggdnobheaa.Tr
namespace Go.Proofs.Ytpajfggdnobheaa.Tr
variable {main:Bool} {Fz:Nat->Prop}
open D
def ng(l:List Ev)(k o:Int):Bool:=l.any λe=>decide (e.kind=k)&&decide (e.obj=o)
def zX(l:List Ev)(t:Int):Bool:=decide (t=0)||ng l 5 t
def OG(k:Int)(who:Int)(e:Ev):Int:=if e.obj=k/\e.kind=4 then -1 else if e.obj=k/\e.kind=3 then e.aK else who
def aS(l:List Ev)(k:Int):Int:=l.foldl (OG k) (-1)
def tH(l:List Ev)(e:Ev):Int:=
 if yZ e=false then 1 else
 if (!zX l e.aK||ng l 6 e.aK)=true then 11 else
 if e.kind=3 then(if 0<=Tr.aS l e.obj then 9 else 0) else
 if e.kind=4 then(if Tr.aS l e.obj≠e.aK then 10 else 0) else
 if e.kind=5 then(if zX l e.obj=true then 8 else 0) else
 if e.kind=6 then(if (!zX l e.obj||decide (e.obj=e.aK))=true then 7 else 0) else 0
def DX(l:List Ev):List Ev->Nat->Int×Int
 |[],_=>(0,0)
 |e::r,i=>if tH (l.take i) e=0 then DX l r (i+1) else(i,tH (l.take i) e)
def bH(l:List Ev):Int×Int:=if 80<l.length then(0,2) else DX l l 0
theorem pI(p:List Ev)(e:Ev)(k o:Int):ng (p++[e]) k o=(ng p k o||(decide (e.kind=k)&&decide (e.obj=o))):=by simp[ng]
theorem uz(p:List Ev)(e:Ev)(t:Int):zX (p++[e]) t=(zX p t||(decide (e.kind=5)&&decide (e.obj=t))):=by simp only[zX,pI,Bool.or_assoc]
theorem uD(p:List Ev)(e:Ev)(k:Int):Tr.aS (p++[e]) k=OG k (Tr.aS p k) e:=by simp[Tr.aS]
structure Agr(w:Wd)(p:List Ev):Prop where
 beg:∀ k:Nat,k<6->w.begun k=zX p k
 ovr:∀ k:Nat,k<6->w.over k=ng p 6 k
 own:∀ k:Nat,k<5->w.owner k=Tr.aS p k+1/\ -1<=Tr.aS p k
theorem abv:Agr rD []:=by
 refine⟨λk hk=> ?_,λk hk=>rfl,λk hk=>⟨rfl,by show(-1:Int)<= -1;decide⟩⟩
 by_cases h:k=0
 ·subst h;rfl
 ·simp[rD,upd,zX,ng,h]
theorem afY{w:Wd}{p:List Ev}(h:Agr w p)(e:Ev):(iC w e).2=tH p e/\((iC w e).2=0->Agr (iC w e).1 (p++[e])):=by
 unfold iC tH;by_cases h1:yZ e=false
 ·simp[h1]
 rw[if_neg h1,if_neg h1];obtain⟨b1,b2,b3,b4⟩:=(jl e).1 (by simpa using h1)
 have et:((e.aK.toNat:Nat):Int)=e.aK:=by omega
 have eo:((e.obj.toNat:Nat):Int)=e.obj:=by omega
 rw[h.beg e.aK.toNat (by omega),h.ovr e.aK.toNat (by omega),et]
 by_cases h2:(!zX p e.aK||ng p 6 e.aK)=true
 ·simp[h2]
 rw[if_neg h2,if_neg h2];have oth:e.kind≠3->e.kind≠4->e.kind≠5->e.kind≠6->Agr w (p++[e]):=by
  intro k3 k4 k5 k6;refine⟨λk hk=> ?_,λk hk=> ?_,λk hk=> ?_⟩
  ·rw[uz,h.beg k hk];simp[k5]
  ·rw[pI,h.ovr k hk];simp[k6]
  ·rw[uD];simp only[OG,k3,k4,and_false,if_false];exact h.own k hk
 by_cases k3:e.kind=3
 ·have b5:e.obj<5:=by simpa[many,k3] using b4
  have ho:=h.own e.obj.toNat (by omega)
  rw[eo] at ho;simp only[k3,if_true];by_cases h3:0<=Tr.aS p e.obj
  ·rw[if_pos (by omega),if_pos h3];simp
  ·rw[if_neg (by omega),if_neg h3]
   refine⟨rfl,λ_=>⟨λk hk=> ?_,λk hk=> ?_,λk hk=> ?_⟩⟩
   ·rw[uz,<- h.beg k hk];simp[k3]
   ·rw[pI,<- h.ovr k hk];simp[k3]
   ·rw[uD];have hk':=h.own k hk;simp only[upd,OG,k3,and_true];by_cases hko:k=e.obj.toNat
    ·have:e.obj=(k:Int):=by omega
     simp[hko,eo];omega
    ·have:¬ e.obj=(k:Int):=by omega
     simp[hko,this];exact hk'
 by_cases k4:e.kind=4
 ·have b5:e.obj<5:=by simpa[many,k4] using b4
  have ho:=h.own e.obj.toNat (by omega)
  rw[eo] at ho;rw[if_neg k3,if_pos k4,if_neg k3,if_pos k4];by_cases h3:Tr.aS p e.obj=e.aK
  ·rw[if_neg (by omega),if_neg (by omega)]
   refine⟨rfl,λ_=>⟨λk hk=> ?_,λk hk=> ?_,λk hk=> ?_⟩⟩
   ·rw[uz,<- h.beg k hk];simp[k4]
   ·rw[pI,<- h.ovr k hk];simp[k4]
   ·rw[uD];have hk':=h.own k hk;simp only[upd,OG,k4,and_true];by_cases hko:k=e.obj.toNat
    ·have:e.obj=(k:Int):=by omega
     simp[hko,eo]
    ·have:¬ e.obj=(k:Int):=by omega
     simp[hko,this];exact hk'
  ·rw[if_pos (by omega),if_pos h3];simp
 by_cases k5:e.kind=5
 ·have b5:e.obj<6:=by simpa[many,k5] using b4
  rw[if_neg k3,if_neg k4,if_pos k5,if_neg k3,if_neg k4,if_pos k5,h.beg e.obj.toNat (by omega),eo]
  by_cases h3:zX p e.obj=true
  ·rw[if_pos h3,if_pos h3];simp
  ·rw[if_neg h3,if_neg h3];refine⟨rfl,λ_=>⟨λk hk=> ?_,λk hk=> ?_,λk hk=> ?_⟩⟩
   ·rw[uz,<- h.beg k hk];simp only[upd,k5,decide_true,z1g];by_cases hko:k=e.obj.toNat
    ·have:e.obj=(k:Int):=by omega
     simp[hko,eo]
    ·have:¬ e.obj=(k:Int):=by omega
     simp[hko,this]
   ·rw[pI,<- h.ovr k hk];simp[k5]
   ·rw[uD];simp only[OG,k5];simpa using h.own k hk
 by_cases k6:e.kind=6
 ·have b5:e.obj<6:=by simpa[many,k6] using b4
  rw[if_neg k3,if_neg k4,if_neg k5,if_pos k6,if_neg k3,if_neg k4,if_neg k5,if_pos k6,h.beg e.obj.toNat (by omega),eo]
  by_cases h3:(!zX p e.obj||decide (e.obj=e.aK))=true
  ·rw[if_pos h3,if_pos h3];simp
  ·rw[if_neg h3,if_neg h3];refine⟨rfl,λ_=>⟨λk hk=> ?_,λk hk=> ?_,λk hk=> ?_⟩⟩
   ·rw[uz,<- h.beg k hk];simp[k6]
   ·rw[pI,<- h.ovr k hk];simp only[upd,k6,decide_true,z1g];by_cases hko:k=e.obj.toNat
    ·have:e.obj=(k:Int):=by omega
     simp[hko,eo]
    ·have:¬ e.obj=(k:Int):=by omega
     simp[hko,this]
   ·rw[uD];simp only[OG,k6];simpa using h.own k hk
 rw[if_neg k3,if_neg k4,if_neg k5,if_neg k6,if_neg k3,if_neg k4,if_neg k5,if_neg k6];exact⟨rfl,λ_=>oth k3 k4 k5 k6⟩
theorem Jv(l:List Ev):∀ (r p:List Ev) (w:Wd),l=p++r->Agr w p->(BQ r p.length w).2=DX l r p.length/\((BQ r p.length w).2.2=0->Agr (BQ r p.length w).1 l)
 |[],p,w,hl,h=>by
  simp only[z0m] at hl;subst hl;exact⟨rfl,λ_=>h⟩
 |e::r,p,w,hl,h=>by
  obtain⟨h1,h2⟩:=afY h e;have ht:l.take p.length=p:=by rw[hl];simp
  simp only[BQ,DX];rw[ht,<- h1];by_cases h3:(iC w e).2=0
  ·rw[if_pos h3,if_pos h3];have:=Jv l r (p++[e]) (iC w e).1 (by rw[hl];simp) (h2 h3)
   simpa using this
  ·rw[if_neg h3,if_neg h3];exact⟨rfl,λh=>absurd h h3⟩
theorem uJ(l:List Ev):(aN l).2=bH l:=by
 unfold aN bH;split
 ·rfl
 ·exact(Jv l l [] rD rfl abv).1
theorem jE{l:List Ev}(h:(bH l).2=0):l.length<=80:=by
 rcases z0n 80 l.length with h1|h1
 ·rw[bH,if_pos h1] at h;cases h
 ·exact h1
theorem iy{l:List Ev}:(aN l).2.2=(bH l).2:=by rw[uJ]
theorem alI{l:List Ev}:∀ (r:List Ev) (i:Nat),l.drop i=r->(DX l r i).2=0->∀ j,i<=j->j<l.length->tH (l.take j) (l.getD j bP.bg)=0
 |[],i,hr,_,j,h1,h2=>by
  have:=congrArg List.length hr;simp at this;omega
 |e::r,i,hr,h,j,h1,h2=>by
  have hd:=pF bP.bg (show i<l.length by omega)
  rw[hr] at hd;obtain⟨rfl,hr'⟩:=List.cons.inj hd;simp only[DX] at h;by_cases hw:tH (l.take i) (l.getD i bP.bg)=0
  ·rw[if_pos hw] at h;rcases Nat.eq_or_lt_of_le h1 with rfl|h3
   ·exact hw
   ·exact alI r (i+1) hr'.symm h j h3 h2
  ·rw[if_neg hw] at h;exact absurd h hw
theorem afk{l:List Ev}(h:(bH l).2=0)(j:Nat)(hj:j<l.length):tH (l.take j) (l.getD j bP.bg)=0:=by
 have h8:=jE h;rw[bH,if_neg (by omega)] at h
 exact alI l 0 rfl h j (z16 _) hj
theorem uO{l:List Ev}(h:(bH l).2=0)(j:Nat)(hj:j<l.length):yZ (l.getD j bP.bg)=true:=by
 have:=afk h j hj;unfold tH at this;split at this
 ·cases this
 ·rename_i h;simpa using h
end Go.Proofs.Ytpajfggdnobheaa.Tr
namespace Go.Proofs.Ytpajfggdnobheaa.Fu
variable {main:Bool} {Fz:Nat->Prop}
open D Tr C
structure Vr where
 rd:Nat->jH
 wr:Nat->jH
def dVr:DT Vr:=(DT.nO (.arr 8 12 (.st [.arr 6 1 (.int .i64), .arr 6 1 (.int .i64)]))).NS (λx=>⟨λi=>(x i).1,λi=>(x i).2.1⟩) (λv i=>(v.rd i,v.wr i,())) (λ_=>rfl) (λ_=>rfl)
instance:Flat dVr:=(Flat.nO rfl).NS
theorem aog(v:Vr):dVr.aA v= .arr 8 12 λi=> .agg [.arr 6 1 λj=> .int .i64 (v.rd i j), .arr 6 1 λj=> .int .i64 (v.wr i j)]:=nr rfl
theorem akd(m:List ay)(f g:Nat->Nat->Int):dVr.aI m (.arr 8 12 λi=> .agg [.arr 6 1 λj=> .int .i64 (f i j), .arr 6 1 λj=> .int .i64 (g i j)])=⟨f,g⟩:=nr rfl
theorem ake(m:List ay)(f g:Nat->Nat->Int):dVr.decP m (.arr 8 12 λi=> .agg [.arr 6 1 λj=> .int .i64 (f i j), .arr 6 1 λj=> .int .i64 (g i j)])=True:=eq_true ⟨rfl,rfl,λ_ _=>⟨⟨rfl,rfl,λ_ _=>rfl⟩,⟨rfl,rfl,λ_ _=>rfl⟩,trivial⟩⟩
theorem aoh(v:Vr):(⟨v.rd,v.wr⟩:Vr)=v:=nr rfl
attribute [go_sem] aog akd ake aoh
theorem Ju(f g:Nat->Nat->Int)(i:Nat)(a b:Nat->Int):zG (λk=>SV.agg [.arr 6 1 λj=> .int .i64 (f k j), .arr 6 1 λj=> .int .i64 (g k j)]) i (.agg [.arr 6 1 λj=> .int .i64 (a j), .arr 6 1 λj=> .int .i64 (b j)])=λk=>SV.agg [.arr 6 1 λj=> .int .i64 (if k=i then a j else f k j), .arr 6 1 λj=> .int .i64 (if k=i then b j else g k j)]:=by
 funext k;unfold zG;split<;>rfl
def uf(n:Nat):Kp:=⟨λt u=>if t<n/\u=t then 1 else 0,λ_ _=>0,λ_ _=>0⟩
theorem akf{n k j:Nat}:(if k=n then if j=n then 1 else(uf n).aK n j else(uf n).aK k j)=(uf (n+1)).aK k j:=by
 simp only[uf];by_cases h:k=n
 ·subst h;by_cases h2:j=k<;>simp[h2]
 ·simp[h,show(k<n+1)↔k<n by omega]
def afR:JC:=(qN (oZ 6 5 6<|.nil) (.seq (qO 6 .skip (.exit 0)) (.seq (.block 1 (qN (o7 7 5<|o7 2 7<|.nil) (.ops<|o7 8 1<|o7 9 2<|o7 10 2<|qL [8,9,10,5,1]<|oP 11 8<|oD 12 0 0 11<|oK 13 6 6 12 9<|oK 14 6 1 13 10<|en (.store 1 (.t 14) (I 1))<|.nil))) (qM [5,1] (.ops<|oI 15 5 1<|o7 5 15<|.nil)))))
def alz:JC:=(qM [1] (qN (o7 16 1<|o7 0 16<|.nil) .ret))
def j21:JC:=(qN (qo 0 (.mv (.c .lD))<|.nil) (qN (qo 3 (.AU (.agg [(.arr 6 6 λ_=>(.arr 6 1 λ_=>(.int .i64 0))),(.arr 5 6 λ_=>(.arr 6 1 λ_=>(.int .i64 0))),(.arr 4 6 λ_=>(.arr 6 1 λ_=>(.int .i64 0)))]) [])<|oU 4 66 3<|o7 1 4<|.nil) (.seq (qN (o8 5 0<|.nil) (.block 0 (.loop [1] [5] afR))) alz)))
theorem aer:bC Try.prog main Fz 21 [] [] (.ptr 0 [] 0) [.blk 66 (uX.aA (uf 6))]:=by
 refine wkA j21 [.tmp 0] 17 FH.au rfl ?_;unfold j21;simp only[go_sem,seval];refine bU Nat (λi=>[.int .i64 i]) (λi=>[.blk 66 (uX.aA (uf i))]) (λi=>i<=6) (λi=>6 - i) 0 (by omega) ?_ ?_ ?_
 ·simp only[go_sem,seval]
 ·simp[uf];rfl
 intro i hi;by_cases h1:i<6
 ·have h1':(i:Int)<6:=by omega
  have hw:z0k.wrap ((i:Int)+1)=((i+1:Nat):Int):=aJ;unfold afR;simp only[go_sem,seval,h1',hw];exact⟨by omega,by omega,i+1,by omega,by omega,rfl,by simp only[akf];rfl⟩
 ·have e:i=6:=by omega
  subst e;unfold afR;simp only[go_sem,seval];unfold alz;simp only[go_sem,seval]
def j104:JC:=(qN (oU 2 61 0<|oU 3 61 1<|qG 4 false<|.nil) (.seq (.aZ<|oC 5 6 2<|oC 6 6 3<|qF 7 45 5 6<|oC 8 6 3<|qo 9 (.aeq false (.arr 6 1 (.int .i64)) (.t 7) (.t 8))<|o7 4 9<|.nil) .ret))
def jK(a b:jH):Bool:=(List.range 6).all λi=>decide (kY a b i=b i)
def Gwi(f:FuncId)(a:List SV)(m:List ay):Sx.Call:=(FH.rd 45 (.two eP eP) (.one eP) (λ_=>True) (λy=>kY y.1 y.2.1) FH.none) f a m
theorem DW:type_of% (nq Gwi.eq_1):=nq Gwi.eq_1
theorem afS:bQ Try.prog main Fz Gwi:=FH.dM (λy _=>aoi y.1 y.2.1) FH.au
theorem QW(a b:jH):bC Try.prog main Fz 104 [eP.aA a,eP.aA b] [] (.bool (jK a b)) []:=by refine wkA j104 [.tmp 4] 10 afS rfl ?_;unfold j104;simp only[go_sem,seval,DW];rfl
def Ud(f:Nat->jH)(i:Nat)(c:jH):Nat->jH:=λk j=>if k=i then c j else f k j
def inC(f:Nat->jH)(t:Nat):Nat->jH:=λk j=>if k=t then(if j=t then z0k.wrap (f t t+1) else f t j) else f k j
def jD(k:Kp)(e:Ev):Kp:=
 if e.kind=3 then⟨Ud k.aK e.aK.toNat (kY (k.aK e.aK.toNat) (k.lk e.obj.toNat)),k.lk,k.vl⟩ else
 if e.kind=4 then⟨inC k.aK e.aK.toNat,Ud k.lk e.obj.toNat (k.aK e.aK.toNat),k.vl⟩ else
 if e.kind=5 then⟨inC (Ud k.aK e.obj.toNat (kY (k.aK e.obj.toNat) (k.aK e.aK.toNat))) e.aK.toNat,k.lk,k.vl⟩ else
 if e.kind=6 then⟨Ud k.aK e.aK.toNat (kY (k.aK e.aK.toNat) (k.aK e.obj.toNat)),k.lk,k.vl⟩ else
 if e.kind=7 then⟨Ud k.aK e.aK.toNat (kY (k.aK e.aK.toNat) (k.vl e.obj.toNat)),k.lk,k.vl⟩ else
 if e.kind=8 then⟨inC k.aK e.aK.toNat,k.lk,Ud k.vl e.obj.toNat (kY (k.vl e.obj.toNat) (k.aK e.aK.toNat))⟩ else k
def j22:JC:=(qN (oU 3 59 1<|.nil) (.seq (.aZ<|o7 5 0<|oD 6 1 1 3<|o9 7 1 6<|oP 8 5<|oD 9 0 0 8<|oK 10 6 6 9 7<|o7 4 10<|.nil) (qN (oD 11 0 0 3<|o9 12 1 11<|.nil) (qM [12,4,0,3] (.block 0 (qN (oH 14 12 3<|o7 13 14<|.nil) (qO 13 (.aZ<|o7 15 4<|qL [4,0,3,15]<|o7 16 4<|oP 17 16<|oC 18 6 17<|qL [0,3,18,15]<|o7 19 0<|oD 20 2 2 3<|o9 21 1 20<|qL [19,21,18,15]<|oP 22 19<|oD 23 1 36 22<|oK 24 5 6 23 21<|qL [24,18,15]<|oC 25 6 24<|qF 26 45 18 25<|oP 27 15<|oG 6 27 26<|.nil) (qN (oH 29 12 4<|o7 28 29<|.nil) (qO 28 (.seq (.aZ<|qL [0,3,4]<|o7 30 0<|oD 31 2 2 3<|o9 32 1 31<|o7 33 4<|oP 34 33<|qL [34,30,32,4,3]<|oC 35 6 34<|oP 36 30<|oD 37 1 36 36<|oK 38 5 6 37 32<|oG 6 38 35<|.nil) (qM [4,3] (.aZ<|o7 39 4<|oD 40 1 1 3<|o9 41 1 40<|oP 42 39<|oK 43 6 1 42 41<|qL [43,39,41]<|o9 44 1 43<|oI 45 44 1<|oP 46 39<|oK 47 6 1 46 41<|oG 1 47 45<|.nil))) (qN (oH 49 12 5<|o7 48 49<|.nil) (qM [48,0,3,4,12] (qO 48 (.seq (.aZ<|o7 50 0<|oD 51 2 2 3<|o9 52 1 51<|qL [0,3,4,50,52]<|o7 53 0<|oD 54 2 2 3<|o9 55 1 54<|oP 56 53<|qL [56,55,4,50,52,3]<|oD 57 0 0 56<|oK 58 6 6 57 55<|qL [58,4,50,52,3]<|oC 59 6 58<|o7 60 4<|oP 61 60<|oC 62 6 61<|qL [59,62,50,52,4,3]<|qF 63 45 59 62<|oP 64 50<|qL [64,52,63,4,3]<|oD 65 0 0 64<|oK 66 6 6 65 52<|oG 6 66 63<|.nil) (qM [4,3] (.aZ<|o7 67 4<|oD 68 1 1 3<|o9 69 1 68<|oP 70 67<|oK 71 6 1 70 69<|qL [71,67,69]<|o9 72 1 71<|oI 73 72 1<|oP 74 67<|oK 75 6 1 74 69<|oG 1 75 73<|.nil))) (qN (oH 77 12 6<|o7 76 77<|.nil) (qO 76 (.aZ<|qL [4,0,3]<|o7 78 4<|o7 79 4<|oP 80 79<|oC 81 6 80<|qL [0,3,81,78]<|o7 82 0<|oD 83 2 2 3<|o9 84 1 83<|qL [82,84,81,78]<|oP 85 82<|oD 86 0 0 85<|oK 87 6 6 86 84<|qL [87,81,78]<|oC 88 6 87<|qF 89 45 81 88<|oP 90 78<|oG 6 90 89<|.nil) (qN (oH 92 12 7<|o7 91 92<|.nil) (qO 91 (.aZ<|qL [4,0,3]<|o7 93 4<|o7 94 4<|oP 95 94<|oC 96 6 95<|qL [0,3,96,93]<|o7 97 0<|oD 98 2 2 3<|o9 99 1 98<|qL [97,99,96,93]<|oP 100 97<|oD 101 2 66 100<|oK 102 4 6 101 99<|qL [102,96,93]<|oC 103 6 102<|qF 104 45 96 103<|oP 105 93<|oG 6 105 104<|.nil) (qN (oH 107 12 8<|o7 106 107<|.nil) (qM [106,0,3,4] (qO 106 (.seq (.aZ<|o7 108 0<|oD 109 2 2 3<|o9 110 1 109<|o7 111 0<|qL [3,111,4,108,110]<|oD 112 2 2 3<|o9 113 1 112<|oP 114 111<|oD 115 2 66 114<|qL [115,113,4,108,110,3]<|oK 116 4 6 115 113<|oC 117 6 116<|qL [4,117,108,110,3]<|o7 118 4<|oP 119 118<|oC 120 6 119<|qF 121 45 117 120<|qL [108,110,121,4,3]<|oP 122 108<|oD 123 2 66 122<|oK 124 4 6 123 110<|oG 6 124 121<|.nil) (qM [4,3] (.aZ<|o7 125 4<|oD 126 1 1 3<|o9 127 1 126<|oP 128 125<|oK 129 6 1 128 127<|qL [129,125,127]<|o9 130 1 129<|oI 131 130 1<|oP 132 125<|oK 133 6 1 132 127<|oG 1 133 131<|.nil))) .skip)))))))))))))))))))
theorem V9(k:Kp)(e:Ev)(he:yZ e=true):bC Try.prog main Fz 22 [.ptr 0 [] 0,bP.aA e] [.blk 66 (uX.aA k)] (.cu []) [.blk 66 (uX.aA (jD k e))]:=by
 refine wkA j22 [] 134 afS rfl ?_;unfold j22;obtain⟨b1,b2,b3,b4⟩:=(jl e).1 he;obtain⟨t,ht,ht6⟩:∃ t:Nat,e.aK=t/\t<6:=⟨e.aK.toNat,by omega,by omega⟩
 obtain⟨o,ho⟩:∃ o:Nat,e.obj=o:=⟨e.obj.toNat,by omega⟩
 unfold jD;by_cases k3:e.kind=3
 ·have b5:o<5:=by
             have:e.obj<5:=by simpa[many,k3] using b4
             omega
  simp only[go_sem,seval,DW,k3,ht,ho];exact⟨by omega,by omega,rfl⟩
 by_cases k4:e.kind=4
 ·have b5:o<5:=by
             have:e.obj<5:=by simpa[many,k4] using b4
             omega
  simp only[go_sem,seval,k4,ht,ho];exact⟨by omega,by omega,by omega,by omega,rfl⟩
 by_cases k5:e.kind=5
 ·have b5:o<6:=by
             have:e.obj<6:=by simpa[many,k5] using b4
             omega
  simp only[go_sem,seval,DW,k5,ht,ho];exact⟨by omega,by omega,by omega,by omega,by omega,rfl⟩
 by_cases k6:e.kind=6
 ·have b5:o<6:=by
             have:e.obj<6:=by simpa[many,k6] using b4
             omega
  simp only[go_sem,seval,DW,k6,ht,ho];exact⟨by omega,by omega,rfl⟩
 by_cases k7:e.kind=7
 ·have b5:o<4:=by
             have:e.obj<4:=by simpa[many,k7] using b4
             omega
  simp only[go_sem,seval,DW,k7,ht,ho];exact⟨by omega,by omega,rfl⟩
 by_cases k8:e.kind=8
 ·have b5:o<4:=by
             have:e.obj<4:=by simpa[many,k8] using b4
             omega
  simp only[go_sem,seval,DW,k8,ht,ho];exact⟨by omega,by omega,by omega,by omega,by omega,rfl⟩
 simp only[go_sem,seval,k3,k4,k5,k6,k7,k8,ht,ho];omega
def seC(f:Nat->jH)(x t:Nat)(v:Int):Nat->jH:=λk j=>if k=x then(if j=t then v else f x j) else f k j
theorem BP(f:Nat->jH){k x j:Nat}:(if k=x then f x j else f k j)=f k j:=by
 split
 ·rename_i h;rw[h]
 ·rfl
def Xq(v:Vr)(x:Nat)(e:Ev)(c:jH):Int:=
 if e.kind=1 then(if jK (v.wr x) c=true then 0 else 2) else if jK (v.wr x) c=true then(if jK (v.rd x) c=true then 0 else 3) else 1
def Xr(v:Vr)(x:Nat)(e:Ev)(c:jH):Vr:=
 if e.kind=1 then⟨seC v.rd x e.aK.toNat (c e.aK.toNat),v.wr⟩ else⟨v.rd,seC v.wr x e.aK.toNat (c e.aK.toNat)⟩
def j69:JC:=(qN (oU 4 59 1<|oU 5 61 2<|o8 6 0<|.nil) (.seq (.aZ<|o7 8 0<|oP 9 8<|oD 10 1 6 9<|oC 11 6 10<|oC 12 6 5<|qF 13 104 11 12<|qE 14 13<|o7 7 14<|.nil) (qM [4,7,0,5,6] (.seq (qN (oD 15 0 0 4<|o9 16 1 15<|oH 17 16 1<|.nil) (qO 17 (.seq (qN (o7 18 7<|.nil) (qO 18 (.ops<|o8 6 2<|.nil) .skip)) (qM [0,4,5,6] (.seq (.aZ<|o7 19 0<|oD 20 1 1 4<|o9 21 1 20<|oD 22 1 1 4<|qL [22,5,19,21,6]<|o9 23 1 22<|oK 24 6 1 5 23<|qL [24,19,21,6]<|o9 25 1 24<|oP 26 19<|oD 27 0 0 26<|oK 28 6 1 27 21<|oG 1 28 25<|.nil) (qM [6] (qN (o7 29 6<|o7 6 29<|.nil) .ret))))) .skip)) (qM [7,0,4,5,6] (.seq (.block 0 (qN (o7 31 7<|o7 30 31<|.nil) (qO 30 (.ops<|o8 6 1<|.nil) (.seq (.aZ<|qL [0,5,4,6]<|o7 33 0<|oP 34 33<|oD 35 0 0 34<|oC 36 6 35<|qL [5,36,0,4,6]<|oC 37 6 5<|qF 38 104 36 37<|qE 39 38<|o7 32 39<|.nil) (qM [32,0,4,5,6] (qO 32 (.ops<|o8 6 3<|.nil) .skip)))))) (qM [0,4,5,6] (.seq (.aZ<|o7 40 0<|oD 41 1 1 4<|o9 42 1 41<|oD 43 1 1 4<|qL [43,5,40,42,6]<|o9 44 1 43<|oK 45 6 1 5 44<|qL [45,40,42,6]<|o9 46 1 45<|oP 47 40<|oD 48 1 6 47<|oK 49 6 1 48 42<|oG 1 49 46<|.nil) (qM [6] (qN (o7 50 6<|o7 6 50<|.nil) .ret))))))))))
def Gac(f:FuncId)(a:List SV)(m:List ay):Sx.Call:=(FH.rd 104 (.two eP eP) (.one .bool) (λ_=>True) (λy=>jK y.1 y.2.1) FH.none) f a m
theorem xu:type_of% (nq Gac.eq_1):=nq Gac.eq_1
theorem V8:bQ Try.prog main Fz Gac:=FH.dM (λy _=>QW y.1 y.2.1) FH.au
theorem afT(v:Vr)(x:Nat)(e:Ev)(c:jH)(hx:x<8)(he:yZ e=true):bC Try.prog main Fz 69 [.ptr 0 [.idx x 8] (x*12),bP.aA e,eP.aA c] [.blk 104 (dVr.aA v)] (.int .i64 (Xq v x e c)) [.blk 104 (dVr.aA (Xr v x e c))]:=by
 refine wkA j69 [.tmp 6] 51 V8 rfl ?_;unfold j69;obtain⟨b1,b2,b3,b4⟩:=(jl e).1 he;obtain⟨t,ht,ht6⟩:∃ t:Nat,e.aK=t/\t<6:=⟨e.aK.toNat,by omega,by omega⟩
 unfold Xq Xr;by_cases k1:e.kind=1
 ·cases hw:jK (v.wr x) c with
  |true=>
   simp only[go_sem,seval,xu,k1,ht,hw,Ju];exact⟨by omega,by omega,by simp only[BP v.wr];rfl⟩
  |false=>
   simp only[go_sem,seval,xu,k1,ht,hw,Ju];exact⟨by omega,by omega,by simp only[BP v.wr];rfl⟩
 ·cases hw:jK (v.wr x) c with
  |true=>
   cases hr:jK (v.rd x) c with
   |true=>
    simp only[go_sem,seval,xu,k1,ht,hw,hr,Ju];exact⟨by omega,by omega,by simp only[BP v.rd];rfl⟩
   |false=>
    simp only[go_sem,seval,xu,k1,ht,hw,hr,Ju];exact⟨by omega,by omega,by simp only[BP v.rd];rfl⟩
  |false=>
   simp only[go_sem,seval,xu,k1,ht,hw,Ju];exact⟨by omega,by omega,by simp only[BP v.rd];rfl⟩
theorem asy:rP Try.prog 104=some (96,true):=by kernel_rfl
def cO(e:Ev):Bool:=decide (e.kind=1)||decide (e.kind=2)
def runK(l:List Ev):Nat->Kp
 |0=>uf 6
 |i+1=>if cO (l.getD i bP.bg)=true then runK l i else jD (runK l i) (l.getD i bP.bg)
def nY(l:List Ev):Nat->Vr
 |0=>⟨λ_ _=>0,λ_ _=>0⟩
 |i+1=>if cO (l.getD i bP.bg)=true then Xr (nY l i) (l.getD i bP.bg).obj.toNat (l.getD i bP.bg) ((runK l i).aK (l.getD i bP.bg).aK.toNat) else nY l i
def lK(l:List Ev)(i:Nat):Int:=if cO (l.getD i bP.bg)=true then Xq (nY l i) (l.getD i bP.bg).obj.toNat (l.getD i bP.bg) ((runK l i).aK (l.getD i bP.bg).aK.toNat) else 0
def lJ(l:List Ev):Nat->List Fl
 |0=>[]
 |i+1=>lJ l i++if lK l i=0 then[] else[⟨i,(l.getD i bP.bg).obj,lK l i⟩]
theorem SK{l:List Ev}:∀ i,(lJ l i).length<=i
 |0=>z0l _
 |i+1=>by have:=SK (l:=l) i;rw[lJ,z0p];split<;>simp<;>omega
def SN:JC:=(qN (oN 12 11 10<|.nil) (.seq (qO 12 .skip (.exit 0)) (.seq (.block 1 (qN (o7 13 11<|oJ 14 3 9 11<|oC 15 3 14<|qK 6 59<|o7 5 13<|oG 3 6 15<|.nil) (qM [6,4,11,10,9,3,2,5] (.seq (qN (oD 16 0 0 6<|o9 17 1 16<|qB 18 17 1<|o7 19 18<|qL [19,6,4,11,10,9,3,2,5]<|.sc false 23 19 (oD 20 0 0 6<|o9 21 1 20<|qB 22 21 2<|.nil) (.t 22)<|.nil) (qM [23,4,6,11,10,9,3,2,5] (qO 23 (qN (o7 24 4<|oC 25 3 6<|qC 26 22 24 25<|.nil) (.exit 1)) .skip))) (qM [6,3,4,2,5,11,10,9] (.seq (.aZ<|oD 27 2 2 6<|o9 28 1 27<|oK 29 8 12 3 28<|oC 30 3 6<|o7 31 4<|oD 32 1 1 6<|o9 33 1 32<|qL [31,33,29,30,2,5,6,11,10,9,4,3]<|oP 34 31<|oD 35 0 0 34<|oK 36 6 6 35 33<|qL [36,29,30,2,5,6,11,10,9,4,3]<|oC 37 6 36<|eo 38 (.call 69 [(.t 29),(.t 30),(.t 37)])<|o7 7 38<|.nil) (qM [7,2,5,6,11,10,9,4,3] (qN (o7 39 7<|qB 40 39 0<|.nil) (qM [40,2,5,6,7,11,10,9,4,3] (qO 40 (.ops<|o7 41 2<|o7 42 5<|qL [6,7,42,41,11,10,9,4,3]<|oD 43 2 2 6<|o9 44 1 43<|o7 45 7<|qL [42,44,45,41,11,10,9,4,3]<|qo 46 (.AU (.agg [(.int .i64 0),(.int .i64 0),(.int .i64 0)]) [([.lQ 0],0,1,(.t 42)),([.lQ 1],1,1,(.t 44)),([.lQ 2],2,1,(.t 45))])<|qL [46,41,11,10,9,4,3]<|eo 47 (.Ia 32 3 1 (.agg [(.int .i64 0),(.int .i64 0),(.int .i64 0)]) [(0,(.t 46))])<|oV 48 32 3 24 41 47<|o7 2 48<|.nil) .skip)))))))))) (qM [11,10,9,4,3,2] (.ops<|oI 49 11 1<|o7 11 49<|.nil)))))
def alA:JC:=(qM [2,3] (.seq (.aZ<|o7 50 2<|oC 51 96 3<|o7 2 50<|oG 96 3 51<|.nil) (.mW 2 32 3 .ret)))
def j37:JC:=(qN (oQ 2<|eo 3 (.alloc 104 (.arr 8 12 λ_=>(.agg [(.arr 6 1 λ_=>(.int .i64 0)),(.arr 6 1 λ_=>(.int .i64 0))])))<|.nil) (qN (eo 8 (.call 21 [])<|o7 4 8<|.nil) (.seq (qN (o7 9 0<|oO 10 9<|o8 11 0<|.nil) (.block 0 (.mW 2 32 3 (.loop [10,9,4,3] [11,2] SN)))) alA)))
theorem c37:bW Try.prog (apW [69]) 37=some (j37.flat,[.tmp 2, .cell 3 104],52):=by kernel_rfl
theorem w37:j37.wf 52=true:=by kernel_rfl
def Grn(f:FuncId)(a:List SV)(m:List ay):Sx.Call:=(FH.mk 21 .nil (λ_=>True) (λ_=> .ptr 0 [] 0) (λ_=>[.blk 66 (uX.aA (uf 6))])<|
 FH.mt 22 66 uX (.one bP) DR.unit (λ_ y=>yZ y.1=true) (λ_ _=>()) (λk y=>jD k y.1)<|
 FH.mp 69 104 8 12 dVr (.two bP eP) (.one .int) (λ_ x y=>x<8/\yZ y.1=true) (λv x y=>Xq v x y.1 y.2.1) (λv x y=>Xr v x y.1 y.2.1) FH.none) f a m
theorem OD:type_of% (nq Grn.eq_1):=nq Grn.eq_1
theorem aoj:bQ Try.prog main Fz Grn:=FH.ku (λ_ _=>jh (Gv _ _ _) ⟨MZ _ uX _,trivial⟩) (λ_ _=>aer)<|
 FH.zo (λk y h=>V9 k y.1 h)<|FH.aqk (λv x y h=>afT v x y.1 y.2.1 h.1 h.2) FH.au
theorem aes(l:List Ev)(hok:(bH l).2=0):bC Try.prog main Fz 37 [fD.aA l] [] (.cu [.vec 0 (lJ l l.length).length,dVr.aA (nY l l.length)]) [.vec 32 3 ((lJ l l.length).map dW.aA)]:=by
 have hl:=jE hok;refine aG c37 w37 aoj rfl ?_;unfold j37;simp only[go_sem,seval,OD];refine bU Nat (λi=>[.int .i64 i, .vec 2 (lJ l i).length]) (λi=>[.blk 104 (dVr.aA (nY l i)), .blk 66 (uX.aA (runK l i)), .vec 32 3 ((lJ l i).map dW.aA)]) (λi=>i<=l.length) (λi=>l.length - i) 0 (by omega) ?_ rfl ?_
 ·simp only[go_sem,seval];rfl
 intro i hi;by_cases h1:i<l.length
 ·have h1':(i:Int)<l.length:=by omega
  have hw:z0k.wrap ((i:Int)+1)=((i+1:Nat):Int):=aJ;have he:=uO hok i h1;obtain⟨b1,b2,b3,b4⟩:=(jl _).1 he;obtain⟨t,ht,ht6⟩:∃ t:Nat,(l.getD i bP.bg).aK=t/\t<6:=⟨(l.getD i bP.bg).aK.toNat,by omega,by omega⟩
  obtain⟨o,ho⟩:∃ o:Nat,(l.getD i bP.bg).obj=o:=⟨(l.getD i bP.bg).obj.toNat,by omega⟩
  have hlen:=SK (l:=l) i;cases ha:cO (l.getD i bP.bg) with
  |false=>
   have ha':=ha;simp only[cO,z15,decide_eq_false_iff_not] at ha';have k1:=ha'.1;have k2:=ha'.2;have hf:lK l i=0:=by rw[lK,if_neg (by rw[ha];simp)]
   unfold SN;simp only[go_sem,seval,OD,h1',hw,k1,k2,he];have hrv:nY l (i+1)=nY l i:=by rw[nY,if_neg (by rw[ha];simp)]
   have hrk:runK l (i+1)=jD (runK l i) (l.getD i bP.bg):=by rw[runK,if_neg (by rw[ha];simp)]
   have hrl:lJ l (i+1)=lJ l i:=by rw[lJ,if_pos hf,z0m]
   exact⟨by omega,i+1,by omega,by omega,⟨rfl,by rw[hrl]⟩,by rw[hrv,hrk,hrl]⟩
  |true=>
   have ho8:o<8:=by
    have:many (l.getD i bP.bg).kind=8:=by simp only[cO,z0v,decide_eq_true_eq] at ha;simp only[many,if_pos ha]
    omega
   have hnk:(!decide ((l.getD i bP.bg).kind=1)&& !decide ((l.getD i bP.bg).kind=2))=false:=by simp only[cO,z0v,decide_eq_true_eq] at ha;rcases ha with ha|ha<;>rw[ha]<;>decide
   have hfl:lK l i=Xq (nY l i) o (l.getD i bP.bg) ((runK l i).aK t):=by rw[lK,if_pos ha,ht,ho,z0b,z0b]
   have hev:(⟨(l.getD i bP.bg).kind,(t:Int),(o:Int)⟩:Ev)=l.getD i bP.bg:=by rw[<- ht,<- ho]
   have hav:Xr (nY l i) o (l.getD i bP.bg) ((runK l i).aK t)=nY l (i+1):=by rw[nY,if_pos ha,ht,ho,z0b,z0b]
   have hrk:runK l (i+1)=runK l i:=by rw[runK,if_pos ha]
   by_cases hf:lK l i=0
   ·unfold SN;simp only[go_sem,seval,OD,h1',hw,hnk,he,ht,ho,ho8,hev,hav,hfl.symm,hf];have hrl:lJ l (i+1)=lJ l i:=by rw[lJ,if_pos hf,z0m]
    exact⟨by omega,by omega,by omega,i+1,by omega,by omega,⟨rfl,by rw[hrl]⟩,by rw[hrk,hrl]⟩
   ·unfold SN;simp only[go_sem,seval,OD,h1',hw,hnk,he,ht,ho,ho8,hev,hav,hfl.symm,hf];have hrl:lJ l (i+1)=lJ l i++[⟨i,o,lK l i⟩]:=by rw[lJ,if_neg hf,ho]
    exact⟨by omega,by omega,by omega,by omega,i+1,by omega,by omega,⟨rfl,by rw[hrl,z0p];rfl⟩,by rw[hrk,hrl,z1d];rfl⟩
 ·have h1':¬ (i:Int)<l.length:=by omega
  have e:i=l.length:=by omega
  subst e;unfold SN;simp only[go_sem,seval,h1'];unfold alA;simp only[go_sem,seval,asy]
def ny(l:List Ev):List Fl:=if (aN l).2.2=0 then lJ l l.length else[]
def j14:JC:=(qN (oQ 2<|o8 3 0<|.nil) (.seq (qN (o7 9 0<|oL 10 19 9<|o7 8 10<|oM 11 0 8<|oM 12 1 8<|o7 4 11<|o7 5 12<|.nil) (qN (o7 13 5<|qB 14 13 0<|.nil) (qM [14,5,0] (qO 14 (qN (o7 15 5<|oQ 2<|o7 3 15<|.nil) (.mW 2 32 3 .ret)) .skip)))) (qM [0] (qN (o7 17 0<|oL 18 37 17<|o7 16 18<|oM 19 0 16<|oM 20 1 16<|eo 7 (.alloc 104 (.arr 8 12 λ_=>(.agg [(.arr 6 1 λ_=>(.int .i64 0)),(.arr 6 1 λ_=>(.int .i64 0))])))<|o7 6 19<|oG 96 7 20<|.nil) (qN (qL [6]<|o7 21 6<|o7 2 21<|o8 3 0<|.nil) (.mW 2 32 3 .ret))))))
def Gfr(f:FuncId)(a:List SV)(m:List ay):Sx.Call:=(FH.rd 19 (.one fD) (.two .int .int) (λ_=>True) (λy=>(aN y.1).2)<|
 FH.mk 37 (.one fD) (λy=>(bH y.1).2=0) (λy=> .cu [.vec 0 (lJ y.1 y.1.length).length,dVr.aA (nY y.1 y.1.length)]) (λy=>[.vec 32 3 ((lJ y.1 y.1.length).map dW.aA)]) FH.none) f a m
theorem jG:type_of% (nq Gfr.eq_1):=nq Gfr.eq_1
theorem NV:bQ Try.prog main Fz Gfr:=FH.dM (λy _=>E5 y.1)<|
 FH.ku (λy _=>jh (qc ⟨kD _ _,aiZ dVr _,trivial⟩) ⟨jO _ _ dW _,trivial⟩) (λy h=>aes y.1 h) FH.au
theorem alv(l:List Ev):bC Try.prog main Fz 14 [fD.aA l] [] (.cu [.vec 0 (ny l).length, .int .i64 (aN l).2.2]) [.vec 32 3 ((ny l).map dW.aA)]:=by
 refine wkA j14 [.tmp 2, .tmp 3] 22 NV rfl ?_;unfold j14;by_cases h0:(aN l).2.2=0
 ·have h1:(bH l).2=0:=by rw[<- uJ];exact h0
  have hr:ny l=lJ l l.length:=by rw[ny,if_pos h0]
  rw[hr];simp only[go_sem,seval,jG,h0,h1]
 ·have hr:ny l=[]:=by rw[ny,if_neg h0]
  rw[hr];simp only[go_sem,seval,jG,h0]
end Go.Proofs.Ytpajfggdnobheaa.Fu
section
section
set_option maxRecDepth 100000
open Go Go.Sx Go.Proofs
namespace Go.Proofs.Ytpajfggdnobheaa.Fa
variable {main:Bool} {Fz:Nat->Prop}
open D Tr C Fu
def H6(t:Int):Bool:=decide (0<=t)&&decide (t<6)
theorem tZ(t:Int):H6 t=true↔0<=t/\t<6:=by simp[H6]
def j108:JC:=(qN (qG 2 false<|.nil) (qN (o7 3 0<|qo 4 (.cmp .geq (.t 3) (I 0))<|o7 5 4<|.sc false 8 5 (o7 6 0<|oZ 7 6 6<|.nil) (.t 7)<|o7 2 8<|.nil) .ret))
theorem V4(t:Int):bC Try.prog main Fz 108 [.int .i64 t] [] (.bool (H6 t)) []:=by refine wkA j108 [.tmp 2] 9 FH.au rfl ?_;unfold j108;simp only[go_sem,seval];rfl
def Gt(f:FuncId)(a:List SV)(m:List ay):Sx.Call:=(FH.rd 108 (.one .int) (.one .bool) (λ_=>True) (λy=>H6 y.1) FH.none) f a m
theorem ak5:type_of% (nq Gt.eq_1):=nq Gt.eq_1
theorem ak6:bQ Try.prog main Fz Gt:=FH.dM (λy _=>V4 y.1) FH.au
def j74:JC:=(qN (oU 2 61 0<|eo 4 (.alloc 148 (.agg [(.int .i64 0),(.int .i64 0)]))<|o8 5 0<|.nil) (.seq (qN (o7 6 1<|oL 7 108 6<|qE 8 7<|.nil) (qO 8 (qN (qo 9 (.AU (.agg [(.int .i64 0),(.int .i64 0)]) [])<|oG 2 4 9<|o8 5 1<|.nil) .ret) .skip)) (qN (qL [1,2,4]<|o7 10 1<|o7 11 1<|oK 12 6 1 2 11<|o9 13 1 12<|qL [10,13,4]<|qo 14 (.AU (.agg [(.int .i64 0),(.int .i64 0)]) [([.lQ 0],0,1,(.t 10)),([.lQ 1],1,1,(.t 13))])<|oG 2 4 14<|o8 5 0<|.nil) .ret)))
def j109:JC:=(qN (oU 2 148 0<|oU 3 61 1<|qG 4 false<|.nil) (.seq (.aZ<|oD 5 0 0 2<|o9 6 1 5<|eo 7 (.nD 108 [(.t 6)])<|o7 8 7<|qL [8,2,3]<|.sc false 16 8 (oD 9 1 1 2<|o9 10 1 9<|oD 11 0 0 2<|o9 12 1 11<|oK 13 6 1 3 12<|o9 14 1 13<|qo 15 (.cmp .leq (.t 10) (.t 14))<|.nil) (.t 15)<|o7 4 16<|.nil) .ret))
def ig(c:jH)(t:Int):Pr×Int:=if H6 t then(⟨t,c t.toNat⟩,0) else(⟨0,0⟩,1)
theorem arA:rP Try.prog 148=some (2,true):=by kernel_rfl
theorem arB(c:jH)(t:Int):bC Try.prog main Fz 74 [eP.aA c, .int .i64 t] [] (.cu [sG.aA (ig c t).1, .int .i64 (ig c t).2]) []:=by refine wkA j74 [.cell 4 148, .tmp 5] 15 ak6 rfl ?_;unfold j74;simp only[go_sem,seval,ak5,arA];have h1:=(tZ t).1;exact⟨λh=>by simp[ig,h],λh=>⟨h1 h,by simp[ig,h]⟩⟩
def iT(e:Pr)(c:jH):Bool:=H6 e.a&&decide (e.b<=c e.a.toNat)
theorem aei(e:Pr)(c:jH):bC Try.prog main Fz 109 [sG.aA e,eP.aA c] [] (.bool (iT e c)) []:=by refine wkA j109 [.tmp 4] 17 ak6 rfl ?_;unfold j109;simp only[go_sem,seval,ak5];exact⟨(tZ e.a).1,rfl⟩
def JY:DT Pr:=(DT.nO (.st [.st [.int .i64, .int .i64]])).NS (λx=>⟨x.1.1,x.1.2.1⟩) (λe=>((e.a,e.b,()),())) (λ_=>rfl) (λ_=>rfl)
instance:Flat JY:=(Flat.nO rfl).NS
theorem ajo(e:Pr):JY.aA e= .agg [.agg [.int .i64 e.a, .int .i64 e.b]]:=nr rfl
theorem aej(m:List ay)(a b:Int):JY.aI m (.agg [.agg [.int .i64 a, .int .i64 b]])=⟨a,b⟩:=nr rfl
theorem aek(m:List ay)(a b:Int):JY.decP m (.agg [.agg [.int .i64 a, .int .i64 b]])=True:=eq_true ⟨⟨rfl,rfl,trivial⟩,trivial⟩
attribute [go_sem] ajo aej aek
abbrev dRd:DT (Pr ⊕ jH):=DT.sum 158 195 JY eP (by decide)
structure Cl where
 wr:Pr
 rd:Pr ⊕ jH
 slow:Int
def wu:DT Cl:=(DT.st (DL.cons sG (DL.cons dRd (DL.cons DT.int DL.nil)))).NS (λx=>⟨x.1,x.2.1,x.2.2.1⟩) (λc=>(c.wr,c.rd,c.slow,())) (λ_=>rfl) (λ_=>rfl)
theorem V5(w e:Pr)(s:Int):wu.aA ⟨w, .inl e,s⟩= .agg [.agg [.int .i64 w.a, .int .i64 w.b], .iface 158 (.agg [.agg [.int .i64 e.a, .int .i64 e.b]]), .int .i64 s]:=nr rfl
theorem NT(w:Pr)(c:jH)(s:Int):wu.aA ⟨w, .inr c,s⟩= .agg [.agg [.int .i64 w.a, .int .i64 w.b], .iface 195 (.arr 6 1 λj=> .int .i64 (c j)), .int .i64 s]:=nr rfl
attribute [go_sem] V5 NT
def NU(d:jH)(t n:Int):jH:=λj=>if j=t.toNat then n else d j
def QV(p e:Pr)(c:jH):Pr ⊕ jH:=if iT p c=true then .inl e else .inr (NU (NU (λ_=>0) p.a p.b) e.a e.b)
def anb:JC:=(qN (oU 2 158 0<|oU 3 61 1<|qG 4 false<|.nil) (qN (oD 5 0 0 2<|oC 6 2 5<|oC 7 6 3<|qC 8 109 6 7<|o7 4 8<|.nil) .ret))
def anc:JC:=(qN (oU 3 158 0<|oU 4 148 1<|oU 5 61 2<|qo 6 (.mv (.c .mX))<|.nil) (.seq (qN (oC 8 2 3<|oC 9 6 5<|qC 10 153 8 9<|.nil) (qO 10 (qN (qL [4]<|oC 11 2 4<|qo 12 (.AU (.agg [(.agg [(.int .i64 0),(.int .i64 0)])]) [([.lQ 0],0,2,(.t 11))])<|qo 13 (.ER 158 (.t 12))<|o7 6 13<|.nil) .ret) .skip)) (qM [3,4] (qN (qo 14 (.AU (.arr 6 1 λ_=>(.int .i64 0)) [])<|eo 7 (.alloc 195 (.arr 6 1 λ_=>(.int .i64 0)))<|oG 6 7 14<|.nil) (qN (oD 15 0 0 3<|oD 16 0 0 15<|qL [16,3,7,4]<|o9 17 1 16<|oD 18 0 0 3<|oD 19 1 1 18<|qL [19,7,17,4]<|o9 20 1 19<|oK 21 6 1 7 17<|oG 1 21 20<|.nil) (qM [4,7] (qN (oD 22 0 0 4<|o9 23 1 22<|oD 24 1 1 4<|o9 25 1 24<|oK 26 6 1 7 23<|oG 1 26 25<|.nil) (qN (qL [7]<|oC 27 6 7<|qo 28 (.ER 195 (.t 27))<|o7 6 28<|.nil) .ret))))))))
def ane:JC:=(qN (oU 2 195 0<|oU 3 61 1<|qG 4 false<|.nil) (qN (oC 5 6 2<|oC 6 6 3<|qC 7 104 5 6<|o7 4 7<|.nil) .ret))
def anf:JC:=(qN (oU 3 195 0<|oU 4 148 1<|oU 5 61 2<|qo 6 (.mv (.c .mX))<|.nil) (qN (oD 7 0 0 4<|o9 8 1 7<|oD 9 1 1 4<|qL [9,3,8]<|o9 10 1 9<|oK 11 6 1 3 8<|oG 1 11 10<|.nil) (qM [3] (qN (oC 12 6 3<|qo 13 (.ER 195 (.t 12))<|o7 6 13<|.nil) .ret))))
def Gk(f:FuncId)(a:List SV)(m:List ay):Sx.Call:=(FH.rd 109 (.two sG eP) (.one .bool) (λ_=>True) (λy=>iT y.1 y.2.1)<|FH.rd 104 (.two eP eP) (.one .bool) (λ_=>True) (λy=>jK y.1 y.2.1) FH.none) f a m
theorem ak7:type_of% (nq Gk.eq_1):=nq Gk.eq_1
theorem ak8:bQ Try.prog main Fz Gk:=FH.dM (λy _=>aei y.1 y.2.1)<|FH.dM (λy _=>QW y.1 y.2.1) FH.au
theorem H7(p:Pr)(c:jH):bC Try.prog main Fz 153 [JY.aA p,eP.aA c] [] (.bool (iT p c)) []:=by refine wkA anb [.tmp 4] 9 ak8 rfl ?_;unfold anb;simp only[go_sem,seval,ak7]
theorem QX(d c:jH):bC Try.prog main Fz 155 [eP.aA d,eP.aA c] [] (.bool (jK d c)) []:=by refine wkA ane [.tmp 4] 8 ak8 rfl ?_;unfold ane;simp only[go_sem,seval,ak7]
theorem Fe(f:Nat->Int)(i:Nat)(n:Int):zG (λk=>SV.int .i64 (f k)) i (.int .i64 n)=λk=>SV.int .i64 (if k=i then n else f k):=by
 funext k;unfold zG;split<;>rfl
theorem V6(d c:jH)(e:Pr)(h1:0<=e.a)(h2:e.a<6):bC Try.prog main Fz 154 [eP.aA d,sG.aA e,eP.aA c] [] (dRd.aA (.inr (NU d e.a e.b))) []:=by refine wkA anf [.tmp 6] 14 FH.au rfl ?_;unfold anf;simp only[go_sem,seval,h1,h2,Fe];rfl
def Gok(f:FuncId)(a:List SV)(m:List ay):Sx.Call:=(FH.rd 153 (.two JY eP) (.one .bool) (λ_=>True) (λy=>iT y.1 y.2.1) FH.none) f a m
theorem ael:type_of% (nq Gok.eq_1):=nq Gok.eq_1
theorem ang:bQ Try.prog main Fz Gok:=FH.dM (λy _=>H7 y.1 y.2.1) FH.au
theorem aa3(p e:Pr)(c:jH)(h1:0<=e.a)(h2:e.a<6)(h3:0<=p.a)(h4:p.a<6):bC Try.prog main Fz 152 [JY.aA p,sG.aA e,eP.aA c] [] (dRd.aA (QV p e c)) []:=by
 refine wkA anc [.tmp 6] 29 ang rfl ?_;unfold anc;unfold QV;by_cases h:iT p c=true
 ·rw[if_pos h];simp only[go_sem,seval,ael,h]
 ·rw[if_neg h];simp only[go_sem,seval,ael,h1,h2,h3,h4,h,Fe];rfl
def rdS(s:Cl)(e:Pr)(c:jH):Cl:=match s.rd with
 | .inl p=>if p.a=e.a/\p.b=e.b then s else if iT p c=true then⟨s.wr, .inl e,s.slow⟩ else⟨s.wr, .inr (NU (NU (λ_=>0) p.a p.b) e.a e.b),s.slow+1⟩
 | .inr d=>⟨s.wr, .inr (NU d e.a e.b),s.slow⟩
def rdK(s:Cl)(e:Pr)(c:jH):Int:=match s.rd with
 | .inl p=>if p.a=e.a/\p.b=e.b then 0 else if iT s.wr c=true then 0 else 2
 | .inr _=>if iT s.wr c=true then 0 else 2
def V7(r:Pr ⊕ jH)(c:jH):Bool:=match r with
 | .inl p=>iT p c
 | .inr d=>jK d c
def wrS(s:Cl)(e:Pr):Cl:=if s.wr.a=e.a/\s.wr.b=e.b then s else⟨e,(match s.rd with
 | .inl p=> .inl p
 | .inr _=> .inl ⟨0,0⟩),s.slow⟩
def wrK(s:Cl)(e:Pr)(c:jH):Int:=if s.wr.a=e.a/\s.wr.b=e.b then 0 else if iT s.wr c=false then 1 else if V7 s.rd c=false then 3 else 0
def okC(s:Cl):Prop:=0<=s.slow/\s.slow<=1000/\match s.rd with
 | .inl p=>0<=p.a/\p.a<6
 | .inr _=>True
def j75:JC:=(qN (oU 4 148 1<|oU 5 61 2<|o8 6 0<|.nil) (.seq (.seq (.aZ<|o7 11 0<|oP 12 11<|oD 13 1 2 12<|o9 14 1 13<|oC 15 2 4<|qo 16 (.AU (.agg [(.agg [(.int .i64 0),(.int .i64 0)])]) [([.lQ 0],0,2,(.t 15))])<|qo 17 (.ER 158 (.t 16))<|qo 18 (.ieq false [(8,(.st [(.int .i64),(.int .i64), .bool,(.int .u8)])),(10, .str),(11, .str),(158,(.st [(.st [(.int .i64),(.int .i64)])])),(195,(.arr 6 1 (.int .i64))),(228,(.int .u8))] (.t 14) (.t 17))<|.nil) (qM [18,0,5,4,6] (qO 18 (qN (o8 6 0<|.nil) .ret) .skip))) (qM [0,5,4,6] (.seq (.seq (.aZ<|o7 19 0<|oP 20 19<|oD 21 0 0 20<|oC 22 2 21<|qL [5,22,0,4,6]<|oC 23 6 5<|qF 24 109 22 23<|qE 25 24<|.nil) (qM [25,0,4,5,6] (qO 25 (.ops<|o8 6 2<|.nil) .skip))) (qM [0,4,5,6] (qN (o7 27 0<|oP 28 27<|oD 29 1 2 28<|o9 30 1 29<|qL [30,0,4,5,6]<|qo 31 (.tas 195 (.arr 6 1 λ_=>(.int .i64 0)) (.t 30))<|o7 26 31<|oM 32 0 26<|oM 33 1 26<|qL [32,33,0,4,5,6]<|eo 7 (.alloc 195 (.arr 6 1 λ_=>(.int .i64 0)))<|oG 6 7 32<|o7 8 33<|.nil) (qM [0,4,5,8,6] (.seq (.aZ<|o7 34 0<|o7 35 0<|oP 36 35<|oD 37 1 2 36<|o9 38 1 37<|qL [4,5,38,34,0,8,6]<|oC 39 2 4<|oC 40 6 5<|eo 41 (.Ed [(158,152),(195,154)] (.t 38) [(.t 39),(.t 40)])<|qL [34,41,0,8,6]<|oP 42 34<|oD 43 1 2 42<|oG 1 43 41<|.nil) (qM [0,8,6] (.seq (qN (o7 45 0<|oP 46 45<|oD 47 1 2 46<|o9 48 1 47<|qL [48,8,0,6]<|qo 49 (.tas 195 (.arr 6 1 λ_=>(.int .i64 0)) (.t 48))<|o7 44 49<|oM 50 0 44<|oM 51 1 44<|qL [50,51,8,0,6]<|eo 9 (.alloc 195 (.arr 6 1 λ_=>(.int .i64 0)))<|oG 6 9 50<|o7 10 51<|.nil) (qM [10,8,0,6] (qN (o7 52 10<|o7 53 52<|.sc false 56 53 (o7 54 8<|qE 55 54<|.nil) (.t 55)<|.nil) (qO 56 (.ops<|qL [0,6]<|o7 57 0<|oP 58 57<|oD 59 2 3 58<|o9 60 1 59<|oI 61 60 1<|qL [57,61,6]<|oP 62 57<|oD 63 2 3 62<|oG 1 63 61<|.nil) .skip)))) (qM [6] (qN (o7 64 6<|o7 6 64<|.nil) .ret))))))))))))
def j76:JC:=(qN (oU 4 148 1<|oU 5 61 2<|o8 6 0<|.nil) (.seq (.seq (.aZ<|o7 9 0<|oP 10 9<|oD 11 0 0 10<|oC 12 2 11<|oC 13 2 4<|qo 14 (.aeq false (.st [(.int .i64),(.int .i64)]) (.t 12) (.t 13))<|.nil) (qO 14 (qN (o8 6 0<|.nil) .ret) .skip)) (qM [0,5,4,6] (.seq (.block 0 (.seq (.aZ<|o7 16 0<|oP 17 16<|oD 18 0 0 17<|oC 19 2 18<|qL [5,19,0,4,6]<|oC 20 6 5<|qF 21 109 19 20<|qE 22 21<|o7 15 22<|.nil) (qM [15,0,4,5,6] (qO 15 (.ops<|o8 6 1<|.nil) (.seq (.aZ<|o7 24 0<|oP 25 24<|oD 26 1 2 25<|qL [26,5,0,4,6]<|o9 27 1 26<|oC 28 6 5<|eo 29 (.Ed [(158,153),(195,155)] (.t 27) [(.t 28)])<|qE 30 29<|o7 23 30<|.nil) (qM [23,0,4,6] (qO 23 (.ops<|o8 6 3<|.nil) .skip))))))) (qM [0,4,6] (qN (o7 31 0<|oC 32 2 4<|oP 33 31<|oD 34 0 0 33<|oG 2 34 32<|.nil) (.seq (qN (qL [0,6]<|o7 36 0<|oP 37 36<|oD 38 1 2 37<|o9 39 1 38<|qo 40 (.tas 195 (.arr 6 1 λ_=>(.int .i64 0)) (.t 39))<|qL [40,0,6]<|o7 35 40<|oM 41 0 35<|oM 42 1 35<|eo 7 (.alloc 195 (.arr 6 1 λ_=>(.int .i64 0)))<|oG 6 7 41<|o7 8 42<|.nil) (qM [8,0,6] (qN (o7 43 8<|.nil) (qO 43 (.ops<|o7 44 0<|qo 45 (.AU (.agg [(.agg [(.int .i64 0),(.int .i64 0)])]) [])<|qo 46 (.ER 158 (.t 45))<|qL [44,46,6]<|oP 47 44<|oD 48 1 2 47<|oG 1 48 46<|.nil) .skip)))) (qM [6] (qN (o7 49 6<|o7 6 49<|.nil) .ret)))))))))
def Grw(f:FuncId)(a:List SV)(m:List ay):Sx.Call:=(FH.rd 109 (.two sG eP) (.one .bool) (λ_=>True) (λy=>iT y.1 y.2.1)<|
 FH.rd 153 (.two JY eP) (.one .bool) (λ_=>True) (λy=>iT y.1 y.2.1)<|
 FH.rd 155 (.two eP eP) (.one .bool) (λ_=>True) (λy=>jK y.1 y.2.1)<|
 FH.rd 152 (.three JY sG eP) (.one dRd) (λy=>0<=y.2.1.a/\y.2.1.a<6/\0<=y.1.a/\y.1.a<6) (λy=>QV y.1 y.2.1 y.2.2.1)<|
 FH.rd 154 (.three eP sG eP) (.one dRd) (λy=>0<=y.2.1.a/\y.2.1.a<6) (λy=> .inr (NU y.1 y.2.1.a y.2.1.b)) FH.none) f a m
theorem H8:type_of% (nq Grw.eq_1):=nq Grw.eq_1
theorem aem:bQ Try.prog main Fz Grw:=FH.dM (λy _=>aei y.1 y.2.1)<|FH.dM (λy _=>H7 y.1 y.2.1)<|FH.dM (λy _=>QX y.1 y.2.1)<|
 FH.dM (λy h=>aa3 y.1 y.2.1 y.2.2.1 h.1 h.2.1 h.2.2.1 h.2.2.2)<|FH.dM (λy h=>V6 y.1 y.2.2.1 y.2.1 h.1 h.2) FH.au
theorem ajq(s:Cl)(e:Pr)(c:jH)(hs:okC s)(h1:0<=e.a)(h2:e.a<6):
  bC Try.prog main Fz 75 [.ptr 0 [] 0,sG.aA e,eP.aA c] [.blk 152 (wu.aA s)] (.int .i64 (rdK s e c)) [.blk 152 (wu.aA (rdS s e c))]:=by
 refine wkA j75 [.tmp 6] 65 aem rfl ?_;unfold j75;obtain⟨w,r,sl⟩:=s;obtain⟨hs1,hs2,hs3⟩:=hs;simp only at hs1 hs2 hs3;have hw:z0k.wrap (sl+1)=sl+1:=aJ;cases r with
 |inl p=>
  simp only at hs3;obtain⟨h3,h4⟩:=hs3;unfold rdS rdK;simp only;by_cases hq:p.a=e.a/\p.b=e.b
  ·have hd:(decide (p.a=e.a)&&decide (p.b=e.b))=true:=by simpa using hq
   rw[if_pos hq,if_pos hq];simp only[go_sem,seval,hd]
  ·have hd:(decide (p.a=e.a)&&decide (p.b=e.b))=false:=by simpa using hq
   rw[if_neg hq,if_neg hq];by_cases hp:iT p c=true
   ·rw[if_pos hp];have hal:QV p e c= .inl e:=if_pos hp;simp only[go_sem,seval,H8,hd,hal,h1,h2,h3,h4];exact⟨λh=>by rw[if_neg (by rw[h];simp)],λh=>by rw[if_pos h]⟩
   ·rw[if_neg hp];have hal:QV p e c= .inr (NU (NU (λ_=>0) p.a p.b) e.a e.b):=if_neg hp;simp only[go_sem,seval,H8,hd,hal,h1,h2,h3,h4,hw];exact⟨λh=>by rw[if_neg (by rw[h];simp)],λh=>by rw[if_pos h]⟩
 |inr d=>
  unfold rdS rdK;simp only;simp only[go_sem,seval,H8,h1,h2];exact⟨λh=>by rw[if_neg (by rw[h];simp)],λh=>by rw[if_pos h]⟩
theorem aen(s:Cl)(e:Pr)(c:jH):
  bC Try.prog main Fz 76 [.ptr 0 [] 0,sG.aA e,eP.aA c] [.blk 152 (wu.aA s)] (.int .i64 (wrK s e c)) [.blk 152 (wu.aA (wrS s e))]:=by
 refine wkA j76 [.tmp 6] 50 aem rfl ?_;unfold j76;obtain⟨w,r,sl⟩:=s;unfold wrS wrK;simp only;by_cases hq:w.a=e.a/\w.b=e.b
 ·have hd:(decide (w.a=e.a)&&decide (w.b=e.b))=true:=by simpa using hq
  rw[if_pos hq,if_pos hq];cases r with
  |inl p=>
   simp only[go_sem,seval,hd]
  |inr d=>
   simp only[go_sem,seval,hd]
 ·have hd:(decide (w.a=e.a)&&decide (w.b=e.b))=false:=by simpa using hq
  rw[if_neg hq,if_neg hq];unfold V7;cases r with
  |inl p=>
   simp only;simp only[go_sem,seval,H8,hd];exact⟨λh=>by rw[if_pos h],λh=>⟨λh2=>by rw[if_neg (by rw[h];simp),if_pos h2],λh2=>by rw[if_neg (by rw[h];simp),if_neg (by rw[h2];simp)]⟩⟩
  |inr d=>
   simp only;simp only[go_sem,seval,H8,hd];exact⟨λh=>by rw[if_pos h],λh=>⟨λh2=>by rw[if_neg (by rw[h];simp),if_pos h2],λh2=>by rw[if_neg (by rw[h];simp),if_neg (by rw[h2];simp)]⟩⟩
def j44:JC:=(qN (oU 4 59 1<|oU 5 61 2<|o8 6 0<|.nil) (qN (oC 10 6 5<|oD 11 1 1 4<|o9 12 1 11<|qC 13 74 10 12<|qL [13,4,0,5]<|o7 9 13<|oM 14 0 9<|oM 15 1 9<|eo 7 (.alloc 148 (.agg [(.int .i64 0),(.int .i64 0)]))<|oG 2 7 14<|o7 8 15<|.nil) (qM [4,0,7,5] (.seq (qN (oD 16 0 0 4<|o9 17 1 16<|oH 18 17 1<|.nil) (qO 18 (qN (qL [0,7,5]<|o7 19 0<|oC 20 2 7<|oC 21 6 5<|eo 22 (.call 75 [(.t 19),(.t 20),(.t 21)])<|o7 6 22<|.nil) .ret) .skip)) (qM [0,7,5] (qN (o7 23 0<|oC 24 2 7<|oC 25 6 5<|eo 26 (.call 76 [(.t 23),(.t 24),(.t 25)])<|o7 6 26<|.nil) .ret))))))
def j43:JC:=(qN (qo 0 (.mv (.c .lD))<|.nil) (qN (qo 1 (.AU (.agg [(.agg [(.int .i64 0),(.int .i64 0)])]) [])<|qo 2 (.ER 158 (.t 1))<|qo 3 (.AU (.agg [(.agg [(.int .i64 0),(.int .i64 0)]), .mX,(.int .i64 0)]) [([.lQ 1],2,1,(.t 2))])<|oU 4 152 3<|o7 0 4<|.nil) .ret))
def epN(c:jH)(t:Int):Pr:=⟨t,c t.toNat⟩
def wz(s:Cl)(e:Ev)(c:jH):Cl:=if e.kind=1 then rdS s (epN c e.aK) c else wrS s (epN c e.aK)
def H9(s:Cl)(e:Ev)(c:jH):Int:=if e.kind=1 then rdK s (epN c e.aK) c else wrK s (epN c e.aK) c
def Gac(f:FuncId)(a:List SV)(m:List ay):Sx.Call:=(FH.rd 74 (.two eP .int) (.two sG .int) (λ_=>True) (λy=>ig y.1 y.2.1)<|
 FH.mt 75 152 wu (.two sG eP) (.one .int) (λs y=>okC s/\0<=y.1.a/\y.1.a<6) (λs y=>rdK s y.1 y.2.1) (λs y=>rdS s y.1 y.2.1)<|
 FH.mt 76 152 wu (.two sG eP) (.one .int) (λ_ _=>True) (λs y=>wrK s y.1 y.2.1) (λs y=>wrS s y.1) FH.none) f a m
theorem xu:type_of% (nq Gac.eq_1):=nq Gac.eq_1
theorem V8:bQ Try.prog main Fz Gac:=FH.dM (λy _=>arB y.1 y.2.1)<|
 FH.zo (λs y h=>ajq s y.1 y.2.1 h.1 h.2.1 h.2.2)<|FH.zo (λs y _=>aen s y.1 y.2.1) FH.au
theorem QY(s:Cl)(e:Ev)(c:jH)(hs:okC s)(h1:0<=e.aK)(h2:e.aK<6):
  bC Try.prog main Fz 44 [.ptr 0 [] 0,bP.aA e,eP.aA c] [.blk 152 (wu.aA s)] (.int .i64 (H9 s e c)) [.blk 152 (wu.aA (wz s e c))]:=by
 refine wkA j44 [.tmp 6] 27 V8 rfl ?_;unfold j44;have ho:ig c e.aK=(epN c e.aK,0):=by unfold ig;rw[if_pos ((tZ _).2 ⟨h1,h2⟩)];rfl
 have ha:(epN c e.aK).a=e.aK:=rfl;have hb:(epN c e.aK).b=c e.aK.toNat:=rfl;unfold wz H9;by_cases hk:e.kind=1
 ·rw[if_pos hk,if_pos hk];simp only[go_sem,seval,xu,ho,hk,hs,h1,h2,ha];exact⟨rfl,rfl⟩
 ·rw[if_neg hk,if_neg hk];simp only[go_sem,seval,xu,ho,hk]
def fK:Cl:=⟨⟨0,0⟩, .inl ⟨0,0⟩,0⟩
theorem KA:bC Try.prog main Fz 43 [] [] (.ptr 0 [] 0) [.blk 152 (wu.aA fK)]:=by refine wkA j43 [.tmp 0] 5 FH.au rfl ?_;unfold j43;simp only[go_sem,seval];rfl
end Go.Proofs.Ytpajfggdnobheaa.Fa
end
section
set_option maxRecDepth 100000
open Go Go.Sx Go.Proofs
namespace Go.Proofs.Ytpajfggdnobheaa.Fa
variable {main:Bool} {Fz:Nat->Prop}
open D Tr C Fu
def zq:JC:=(qN (oZ 26 25 8<|.nil) (.seq (qO 26 .skip (.exit 0)) (.seq (.block 1 (qN (o7 27 25<|o7 8 27<|.nil) (.ops<|o7 28 8<|qL [7,28,25,0]<|eo 29 (.call 43 [])<|oK 30 8 1 7 28<|oG 1 30 29<|.nil))) (qM [25,7,0] (.ops<|oI 31 25 1<|o7 25 31<|.nil)))))
def Yr:JC:=(qN (oN 36 35 34<|.nil) (.seq (qO 36 .skip (.exit 2)) (.seq (.block 3 (qN (o7 37 35<|oJ 38 3 33 35<|oC 39 3 38<|qK 12 59<|o7 11 37<|oG 3 12 39<|.nil) (qM [12,10,35,34,33,7,9,11] (qN (oD 40 0 0 12<|o9 41 1 40<|qB 42 41 1<|o7 43 42<|qL [43,12,10,35,34,33,7,9,11]<|.sc false 47 43 (oD 44 0 0 12<|o9 45 1 44<|qB 46 45 2<|.nil) (.t 46)<|.nil) (qM [47,10,12,35,34,33,7,9,11] (qO 47 (.ops<|o7 48 10<|oC 49 3 12<|qC 50 22 48 49<|.nil) (.seq (.aZ<|oD 51 2 2 12<|o9 52 1 51<|oK 53 8 1 7 52<|qL [53,12,10,9,11,35,34,33,7]<|o9 54 1 53<|oC 55 3 12<|o7 56 10<|oD 57 1 1 12<|o9 58 1 57<|oP 59 56<|qL [59,58,54,55,9,11,12,35,34,33,10,7]<|oD 60 0 0 59<|oK 61 6 6 60 58<|qL [61,54,55,9,11,12,35,34,33,10,7]<|oC 62 6 61<|eo 63 (.call 44 [(.t 54),(.t 55),(.t 62)])<|o7 13 63<|.nil) (qM [13,9,11,12,35,34,33,10,7] (qN (o7 64 13<|qB 65 64 0<|.nil) (qM [65,9,11,12,13,35,34,33,10,7] (qO 65 (.ops<|o7 66 9<|o7 67 11<|qL [12,13,67,66,35,34,33,10,7]<|oD 68 2 2 12<|o9 69 1 68<|o7 70 13<|qL [67,69,70,66,35,34,33,10,7]<|qo 71 (.AU (.agg [(.int .i64 0),(.int .i64 0),(.int .i64 0)]) [([.lQ 0],0,1,(.t 67)),([.lQ 1],1,1,(.t 69)),([.lQ 2],2,1,(.t 70))])<|qL [71,66,35,34,33,10,7]<|eo 72 (.Ia 32 3 1 (.agg [(.int .i64 0),(.int .i64 0),(.int .i64 0)]) [(0,(.t 71))])<|oV 73 32 3 24 66 72<|o7 9 73<|.nil) .skip))))))))))) (qM [35,34,33,10,7,9] (.ops<|oI 74 35 1<|o7 35 74<|.nil)))))
def aeo:JC:=(qN (oZ 77 76 8<|.nil) (.seq (qO 77 .skip (.exit 4)) (.seq (.block 5 (qN (qo 78 (.ix 8 1 false (.t 75) (.t 76))<|o7 16 78<|.nil) (.ops<|o7 79 14<|qL [16,79,76,75,9]<|o7 80 16<|oP 81 80<|oD 82 2 3 81<|qL [82,79,76,75,9]<|o9 83 1 82<|qo 84 (.ar .add (.t 79) (.t 83))<|o7 14 84<|.nil))) (qM [76,75,14,9] (.ops<|oI 85 76 1<|o7 76 85<|.nil)))))
def ak9:JC:=(qM [9,14] (qN (o7 86 9<|o7 87 14<|o7 2 86<|o7 3 87<|o8 4 0<|.nil) (.mW 2 32 3 .ret)))
def ak':JC:=(qM [7,9] (qN (o8 14 0<|.nil) (.seq (qN (oC 75 8 7<|o8 76 0<|.nil) (.block 4 (.loop [75,9] [76,14] aeo))) ak9)))
def ala:JC:=(qM [0,7] (qN (oQ 9<|.nil) (qN (eo 32 (.call 21 [])<|o7 10 32<|.nil) (.seq (qN (o7 33 0<|oO 34 33<|o8 35 0<|.nil) (.block 2 (.mW 9 32 3 (.loop [34,33,10,7] [35,9] Yr)))) ak'))))
def j38:JC:=(qN (oQ 2<|o8 3 0<|o8 4 0<|.nil) (.seq (qN (o7 18 0<|oL 19 19 18<|o7 17 19<|oM 20 0 17<|qL [17,20,0]<|oM 21 1 17<|o7 5 20<|o7 6 21<|.nil) (qM [6,0] (qN (o7 22 6<|qB 23 22 0<|.nil) (qO 23 (qN (o7 24 6<|oQ 2<|o8 3 0<|o7 4 24<|.nil) (.mW 2 32 3 .ret)) .skip)))) (qM [0] (qN (eo 7 (.alloc 146 (.arr 8 1 λ_=> .lD))<|.nil) (.seq (qN (o8 25 0<|.nil) (.block 0 (.loop [7,0] [25] zq))) ala)))))
theorem c38:bW Try.prog (apW [44]) 38=some (j38.flat,[.tmp 2, .tmp 3, .tmp 4],88):=by kernel_rfl
theorem w38:j38.wf 88=true:=by kernel_rfl
def eX(l:List Ev):Nat->Nat->Cl
 |0,_=>fK
 |i+1,x=>if cO (l.getD i bP.bg)=true then(if x=(l.getD i bP.bg).obj.toNat then wz (eX l i x) (l.getD i bP.bg) ((runK l i).aK (l.getD i bP.bg).aK.toNat) else eX l i x) else eX l i x
def jm(l:List Ev)(i:Nat):Int:=if cO (l.getD i bP.bg)=true then H9 (eX l i (l.getD i bP.bg).obj.toNat) (l.getD i bP.bg) ((runK l i).aK (l.getD i bP.bg).aK.toNat) else 0
def dD(l:List Ev):Nat->List Fl
 |0=>[]
 |i+1=>dD l i++if jm l i=0 then[] else[⟨i,(l.getD i bP.bg).obj,jm l i⟩]
theorem KC{l:List Ev}:∀ i,(dD l i).length<=i
 |0=>z0l _
 |i+1=>by have:=KC (l:=l) i;rw[dD,z0p];split<;>simp<;>omega
theorem ani{s:Cl}{e:Ev}{c:jH}{n:Int}(hs:okC s)(hn:s.slow<=n)(hn2:n<1000)(h1:0<=e.aK)(h2:e.aK<6):okC (wz s e c)/\(wz s e c).slow<=n+1:=by
 obtain⟨w,r,sl⟩:=s;obtain⟨a1,a2,a3⟩:=hs;simp only at a1 a2 a3 hn;unfold wz;split
 ·unfold rdS;cases r with
  |inl p=>
   simp only;split
   ·exact⟨⟨a1,a2,a3⟩,by simp only;omega⟩
   ·split
    ·exact⟨⟨a1,a2,⟨h1,h2⟩⟩,by simp only;omega⟩
    ·exact⟨⟨by simp only;omega,by simp only;omega,trivial⟩,by simp only;omega⟩
  |inr d=>exact⟨⟨a1,a2,trivial⟩,by simp only;omega⟩
 ·unfold wrS;split
  ·exact⟨⟨a1,a2,a3⟩,by simp only;omega⟩
  ·cases r with
   |inl p=>exact⟨⟨a1,a2,a3⟩,by simp only;omega⟩
   |inr d=>exact⟨⟨a1,a2,by simp⟩,by simp only;omega⟩
theorem E8{l:List Ev}(hok:(bH l).2=0):∀ i,i<=l.length->∀ x,okC (eX l i x)/\(eX l i x).slow<=i
 |0,_,x=>⟨⟨z0z _,by show(0:Int)<=1000;omega,by show(0:Int)<=0/\(0:Int)<6;omega⟩,z0z _⟩
 |i+1,h,x=>by
  obtain⟨h1,h2⟩:=E8 hok i (by omega) x
  obtain⟨b1,b2,b3,b4⟩:=(jl _).1 (uO hok i (by omega))
  have hl:=jE hok;unfold eX;split
  ·split
   ·have:=ani (c:=(runK l i).aK (l.getD i bP.bg).aK.toNat) h1 h2 (by omega) b1 b2
    exact⟨this.1,by have:=this.2;omega⟩
   ·exact⟨h1,by omega⟩
  ·exact⟨h1,by omega⟩
def pf(n:Nat):Nat->SV:=λi=>if i<n then .ptr (i+1) [] 0 else .lD
theorem ajs:(λ_:Nat=>SV.lD)=pf 0:=by funext i;simp[pf]
theorem xw(n:Nat):zG (pf n) n (.ptr (n+1) [] 0)=pf (n+1):=by
 funext k
 unfold zG pf;by_cases h:k=n
 ·subst h;simp
 ·rw[if_neg h];by_cases h2:k<n
  ·rw[if_pos h2,if_pos (by omega)]
  ·rw[if_neg h2,if_neg (by omega)]
theorem alb{n i:Nat}(h:i<n):pf n i= .ptr (i+1) [] 0:=by simp[pf,h]
theorem anj(n N:Nat)(h:n+1<=N):ren (J8 N) (.arr 8 1 (pf n))= .arr 8 1 (pf n):=by
 simp only[Sx.ren]
 congr 1
 funext i
 unfold pf;split
 ·simp only[Sx.ren,iD,J8];rw[if_pos (by omega)]
 ·rfl
theorem ank(s:Cl):wu.aA s= .agg [sG.aA s.wr,dRd.aA s.rd, .int .i64 s.slow]:=nr rfl
theorem apX(r:Pr ⊕ jH):wd (dRd.aA r)=1:=by cases r<;>rfl
@[reducible] def cb(s:Cl):ay:= .blk 152 (wu.aA s)
def uV:Nat->List ay
 |0=>[]
 |1=>[cb fK]
 |2=>[cb fK,cb fK]
 |3=>[cb fK,cb fK,cb fK]
 |4=>[cb fK,cb fK,cb fK,cb fK]
 |5=>[cb fK,cb fK,cb fK,cb fK,cb fK]
 |6=>[cb fK,cb fK,cb fK,cb fK,cb fK,cb fK]
 |7=>[cb fK,cb fK,cb fK,cb fK,cb fK,cb fK,cb fK]
 |8=>[cb fK,cb fK,cb fK,cb fK,cb fK,cb fK,cb fK,cb fK]
 |_=>[]
theorem anl:uV 0=[]:=rfl
theorem anm:uV 1=[cb fK]:=rfl
theorem ano:uV 2=[cb fK,cb fK]:=rfl
theorem anp:uV 3=[cb fK,cb fK,cb fK]:=rfl
theorem anq:uV 4=[cb fK,cb fK,cb fK,cb fK]:=rfl
theorem anr:uV 5=[cb fK,cb fK,cb fK,cb fK,cb fK]:=rfl
theorem ant:uV 6=[cb fK,cb fK,cb fK,cb fK,cb fK,cb fK]:=rfl
theorem anu:uV 7=[cb fK,cb fK,cb fK,cb fK,cb fK,cb fK,cb fK]:=rfl
theorem anv:uV 8=[cb fK,cb fK,cb fK,cb fK,cb fK,cb fK,cb fK,cb fK]:=rfl
theorem Ee(n i:Nat):wd (pf n i)=1:=by unfold pf;split<;>rfl
theorem Ib(n N:Nat)(h:n+1<=N):(λk=>ren (J8 N) (pf n k))=pf n:=by have:=anj n N h;simp only[Sx.ren] at this;injection this
theorem ajt:(λk=>ren (J8 11) (kill 10 (pf 8 k)))=pf 8:=by
 funext k
 unfold pf;split
 ·simp only[Sx.kill,Sx.ren,iD,J8];rw[if_pos (by omega)]
 ·rfl
theorem aep{x:Nat}(h:x<=8):(uV x).length=x/\∀ y∈uV x,y=cb fK:=by
 have hxs:x=0\/x=1\/x=2\/x=3\/x=4\/x=5\/x=6\/x=7\/x=8:=by omega
 rcases hxs with rfl|rfl|rfl|rfl|rfl|rfl|rfl|rfl|rfl<;>exact⟨rfl,by simp[uV]⟩
theorem l9{x:Nat}(h:x<=8):ay.blk 146 (.arr 8 1 λk=>ren (J8 ((uV x).length+1)) (pf x k))::List.map (dR (J8 ((uV x).length+1))) (List.take (uV x).length (uV x))=ay.blk 146 (.arr 8 1 (pf x))::uV x:=by
 obtain⟨h1,h2⟩:=aep h;rw[Ib x _ (by omega),List.take_length]
 congr 1
 conv=>rhs;rw[<- List.map_id (uV x)]
 apply List.map_congr_left;intro y hy;rw[h2 y hy];simp only[cb,dR,wu.ren,id]
theorem QZ(s:Cl):PlR (.blk 152 (wu.aA s)):=λr=>by
 obtain⟨w,q,sl⟩:=s;rw[show dR r (.blk 152 (wu.aA ⟨w,q,sl⟩))= .blk 152 (wu.aA ⟨w,q,sl⟩) by simp only[dR,wu.ren]]
 show Gs _;cases q with
 |inl p=>
  rw[V5];exact uT (by intro x hx;simp only[z0d,z09,or_false] at hx;rcases hx with rfl|rfl|rfl<;>first|exact iZ _ _|exact uT (by intro x hx;simp only[z0d,z09,or_false] at hx;rcases hx with rfl|rfl<;>exact iZ _ _)|exact yF (uT (by intro x hx;simp only[z0d,z09,or_false] at hx;subst hx;exact uT (by intro x hx;simp only[z0d,z09,or_false] at hx;rcases hx with rfl|rfl<;>exact iZ _ _))))
 |inr d=>
  rw[NT];exact uT (by intro x hx;simp only[z0d,z09,or_false] at hx;rcases hx with rfl|rfl|rfl<;>first|exact iZ _ _|exact uT (by intro x hx;simp only[z0d,z09,or_false] at hx;rcases hx with rfl|rfl<;>exact iZ _ _)|exact yF (Nh λ_ _=>iZ _ _))
def Gfr(f:FuncId)(a:List SV)(m:List ay):Sx.Call:=(FH.rd 19 (.one fD) (.two .int .int) (λ_=>True) (λy=>(aN y.1).2)<|
 FH.mk 43 .nil (λ_=>True) (λ_=> .ptr 0 [] 0) (λ_=>[.blk 152 (wu.aA fK)])<|
 FH.mk 21 .nil (λ_=>True) (λ_=> .ptr 0 [] 0) (λ_=>[.blk 66 (uX.aA (uf 6))])<|
 FH.mt 22 66 uX (.one bP) DR.unit (λ_ y=>yZ y.1=true) (λ_ _=>()) (λk y=>jD k y.1)<|
 FH.mt 44 152 wu (.two bP eP) (.one .int) (λs y=>okC s/\0<=y.1.aK/\y.1.aK<6) (λs y=>H9 s y.1 y.2.1) (λs y=>wz s y.1 y.2.1) FH.none) f a m
theorem jG:type_of% (nq Gfr.eq_1):=nq Gfr.eq_1
theorem NV:bQ Try.prog main Fz Gfr:=FH.dM (λy _=>E5 y.1)<|
 FH.ku (λ_ _=>jh (Gv _ _ _) ⟨QZ _,trivial⟩) (λ_ _=>KA)<|
 FH.ku (λ_ _=>jh (Gv _ _ _) ⟨MZ _ uX _,trivial⟩) (λ_ _=>aer)<|
 FH.zo (λk y h=>V9 k y.1 h)<|FH.zo (λs y h=>QY s y.1 y.2.1 h.1 h.2.1 h.2.2) FH.au
def sV(f:Nat->Cl):Nat->Int
 |0=>0
 |k+1=>sV f k+(f k).slow
theorem aes(l:List Ev)(hok:(bH l).2=0):bC Try.prog main Fz 38 [fD.aA l] [] (.cu [.vec 0 (dD l l.length).length, .int .i64 (sV (eX l l.length) 8), .int .i64 0]) [.vec 32 3 ((dD l l.length).map dW.aA)]:=by
 have hl:=jE hok;have he:(aN l).2.2=0:=by rw[iy];exact hok
 refine aG c38 w38 NV rfl ?_;unfold j38;simp only[go_sem,seval,jG,he,ajs];refine bU Nat (λx=>[.int .i64 x]) (λx=> .blk 146 (.arr 8 1 (pf x))::uV x) (λx=>x<=8) (λx=>8 - x) 0 (by omega) ?_ rfl ?_
 ·simp only[go_sem,seval]
 intro x hx;by_cases h8:x<8
 ·have hxs:x=0\/x=1\/x=2\/x=3\/x=4\/x=5\/x=6\/x=7:=by omega
  rcases hxs with rfl|rfl|rfl|rfl|rfl|rfl|rfl|rfl
  ·unfold zq;simp only[go_sem,seval,jG,anl,xw,Ee];exact⟨1,by omega,by omega,aJ,l9 (x:=1) (by omega)⟩
  ·unfold zq;simp only[go_sem,seval,jG,anm,xw,Ee];exact⟨2,by omega,by omega,aJ,l9 (x:=2) (by omega)⟩
  ·unfold zq;simp only[go_sem,seval,jG,ano,xw,Ee];exact⟨3,by omega,by omega,aJ,l9 (x:=3) (by omega)⟩
  ·unfold zq;simp only[go_sem,seval,jG,anp,xw,Ee];exact⟨4,by omega,by omega,aJ,l9 (x:=4) (by omega)⟩
  ·unfold zq;simp only[go_sem,seval,jG,anq,xw,Ee];exact⟨5,by omega,by omega,aJ,l9 (x:=5) (by omega)⟩
  ·unfold zq;simp only[go_sem,seval,jG,anr,xw,Ee];exact⟨6,by omega,by omega,aJ,l9 (x:=6) (by omega)⟩
  ·unfold zq;simp only[go_sem,seval,jG,ant,xw,Ee];exact⟨7,by omega,by omega,aJ,l9 (x:=7) (by omega)⟩
  ·unfold zq;simp only[go_sem,seval,jG,anu,xw,Ee];exact⟨8,by omega,by omega,aJ,l9 (x:=8) (by omega)⟩
 ·have e:x=8:=by omega
  subst e;unfold zq;simp only[go_sem,seval,anv];unfold ala;simp only[go_sem,seval,jG];refine bU Nat (λi=>[.int .i64 i, .vec 10 (dD l i).length]) (λi=>[.blk 146 (.arr 8 1 (pf 8)),cb (eX l i 0),cb (eX l i 1),cb (eX l i 2),cb (eX l i 3),cb (eX l i 4),cb (eX l i 5),cb (eX l i 6),cb (eX l i 7), .blk 66 (uX.aA (runK l i)), .vec 32 3 ((dD l i).map dW.aA)]) (λi=>i<=l.length) (λi=>l.length - i) 0 (by omega) ?_ rfl ?_
  ·simp only[go_sem,seval];rfl
  intro i hi;by_cases h1:i<l.length
  ·have h1':(i:Int)<l.length:=by omega
   have hw:z0k.wrap ((i:Int)+1)=((i+1:Nat):Int):=aJ;have hev:=uO hok i h1;obtain⟨b1,b2,b3,b4⟩:=(jl _).1 hev;obtain⟨t,ht,ht6⟩:∃ t:Nat,(l.getD i bP.bg).aK=t/\t<6:=⟨(l.getD i bP.bg).aK.toNat,by omega,by omega⟩
   obtain⟨o,ho⟩:∃ o:Nat,(l.getD i bP.bg).obj=o:=⟨(l.getD i bP.bg).obj.toNat,by omega⟩
   have hlen:=KC (l:=l) i;have hcl:=E8 hok i (by omega)
   cases ha:cO (l.getD i bP.bg) with
   |false=>
    have ha':=ha;simp only[cO,z15,decide_eq_false_iff_not] at ha';have k1:=ha'.1;have k2:=ha'.2;have hf:jm l i=0:=by rw[jm,if_neg (by rw[ha];simp)]
    unfold Yr;simp only[go_sem,seval,jG,h1',hw,k1,k2,hev];have hrx:eX l (i+1)=eX l i:=by funext x;rw[eX,if_neg (by rw[ha];simp)]
    have hrk:runK l (i+1)=jD (runK l i) (l.getD i bP.bg):=by rw[runK,if_neg (by rw[ha];simp)]
    have hrl:dD l (i+1)=dD l i:=by rw[dD,if_pos hf,z0m]
    exact⟨by omega,i+1,by omega,by omega,⟨rfl,by rw[hrl]⟩,by rw[hrx,hrk,hrl,Ib 8 11 (by omega)]⟩
   |true=>
    have ho8:o<8:=by
     have:many (l.getD i bP.bg).kind=8:=by simp only[cO,z0v,decide_eq_true_eq] at ha;simp only[many,if_pos ha]
     omega
    have hnk:(!decide ((l.getD i bP.bg).kind=1)&& !decide ((l.getD i bP.bg).kind=2))=false:=by simp only[cO,z0v,decide_eq_true_eq] at ha;rcases ha with ha|ha<;>rw[ha]<;>decide
    have hfl:jm l i=H9 (eX l i o) (l.getD i bP.bg) ((runK l i).aK t):=by rw[jm,if_pos ha,ht,ho,z0b,z0b]
    have hee:(⟨(l.getD i bP.bg).kind,(t:Int),(o:Int)⟩:Ev)=l.getD i bP.bg:=by rw[<- ht,<- ho]
    have hrx:∀ x,eX l (i+1) x=if x=o then wz (eX l i o) (l.getD i bP.bg) ((runK l i).aK t) else eX l i x:=by
     intro x;rw[eX,if_pos ha,ht,ho,z0b,z0b];by_cases e:x=o
     ·subst e;rfl
     ·rw[if_neg e,if_neg e]
    have hrk:runK l (i+1)=runK l i:=by rw[runK,if_pos ha]
    have hoc:=(hcl o).1;obtain⟨c,hc⟩:∃ c:Int,c=o:=⟨_,rfl⟩;have hos:o=0/\c=0\/o=1/\c=1\/o=2/\c=2\/o=3/\c=3\/o=4/\c=4\/o=5/\c=5\/o=6/\c=6\/o=7/\c=7:=by omega
    have hrl:jm l i=0->dD l (i+1)=dD l i:=λhf=>by rw[dD,if_pos hf,z0m]
    have hrl2:¬ jm l i=0->dD l (i+1)=dD l i++[⟨i,(l.getD i bP.bg).obj,jm l i⟩]:=λhf=>by rw[dD,if_neg hf]
    rw[<- hc] at ho hee;rcases hos with⟨rfl,rfl⟩|⟨rfl,rfl⟩|⟨rfl,rfl⟩|⟨rfl,rfl⟩|⟨rfl,rfl⟩|⟨rfl,rfl⟩|⟨rfl,rfl⟩|⟨rfl,rfl⟩<;>
     (unfold Yr
      simp only[go_sem,seval,jG,h1',hw,hnk,ht,ho,hee,hoc,hfl.symm,alb];refine⟨by omega,⟨by omega,by omega⟩,⟨by omega,by omega⟩,λhf=>⟨by omega,i+1,by omega,by omega,⟨rfl,by rw[hrl2 hf,z0p];rfl⟩,?_⟩,λhf=>⟨i+1,by omega,by omega,⟨rfl,by rw[hrl hf]⟩,?_⟩⟩
      ·rw[hrl2 hf,hrk,ajt,z1d,ho];simp only[hrx,seval];rfl
      ·rw[hrl hf,hrk,Ib 8 11 (by omega)]
       simp only[hrx,seval])
  ·have h1':¬ (i:Int)<l.length:=by omega
   have e:i=l.length:=by omega
   subst e;unfold Yr;simp only[go_sem,seval,h1'];unfold ak';simp only[go_sem,seval];have hc:=E8 hok l.length (z0l _);refine bU Nat (λk=>[.int .i64 k, .int .i64 (sV (eX l l.length) k)]) (λ_=>[.blk 146 (.arr 8 1 (pf 8)),cb (eX l l.length 0),cb (eX l l.length 1),cb (eX l l.length 2),cb (eX l l.length 3),cb (eX l l.length 4),cb (eX l l.length 5),cb (eX l l.length 6),cb (eX l l.length 7), .blk 66 (uX.aA (runK l l.length)), .vec 32 3 ((dD l l.length).map dW.aA)]) (λk=>k<=8) (λk=>8 - k) 0 (by omega) ?_ ?_ ?_
   ·simp only[go_sem,seval];rfl
   ·rfl
   intro k hk;have hb:∀ x,0<=sV (eX l l.length) x/\sV (eX l l.length) x<=x*80:=by
    intro x
    induction x with
    |zero=>exact⟨z0z _,z0z _⟩
    |succ x ih=>
     have h1:=(hc x).2;have h2:=(hc x).1.1;rw[sV]
     push_cast
     omega
   have hv:∀ x,x<8->z0k.wrap (sV (eX l l.length) x+(eX l l.length x).slow)=sV (eX l l.length) (x+1):=by
    intro x hx;have h1:=hb (x+1);rw[sV] at h1 ⊢
    push_cast at h1
    exact aJ
   by_cases h8:k<8
   ·have hks:k=0\/k=1\/k=2\/k=3\/k=4\/k=5\/k=6\/k=7:=by omega
    obtain⟨q,hq⟩:∃ q,q=k+1:=⟨_,rfl⟩;rcases hks with rfl|rfl|rfl|rfl|rfl|rfl|rfl|rfl<;>
     (unfold aeo
      simp only[go_sem,seval,alb,ank,apX];exact⟨q,by omega,by omega,⟨(aJ).trans (by omega),by rw[hq];exact hv _ (by omega)⟩,by rw[Ib 8 11 (by omega)],by rw[Ib 8 11 (by omega)];rfl⟩)
   ·have e:k=8:=by omega
    subst e;unfold aeo;simp only[go_sem,seval];unfold ak9;simp only[go_sem,seval]
end Go.Proofs.Ytpajfggdnobheaa.Fa
end
end
namespace Go.Sx
open Go Go.Conc
section acc
variable {α:Type _}
theorem ajO{β:Type _}{r:α->α->Prop}{s:β->β->Prop}{a:α}(ha:Acc r a):∀ {b:β},Acc s b->Acc (λp q:α×β=>(r p.1 q.1/\p.2=q.2)\/(p.1=q.1/\s p.2 q.2)) (a,b):=by
 induction ha with
 |intro a _ iha=>
  intro b hb
  induction hb with
  |intro b hb' ihb=>
   refine⟨_,λp hp=> ?_⟩;obtain⟨p1,p2⟩:=p;rcases hp with⟨h1,h2⟩|⟨h1,h2⟩
   ·simp only at h1 h2;subst h2;exact iha p1 h1 ⟨_,hb'⟩
   ·simp only at h1 h2;subst h1;exact ihb p2 h2
def Ru(r:α->α->Prop)(l' l:List α):Prop:= ∃ (i:Nat) (a' a:α),l[i]? =some a/\r a' a/\l'=l.set i a'
theorem Ry{r:α->α->Prop}:∀ {l:List α},(∀ a∈l,Acc r a)->Acc (Ru r) l
 |[],_=>⟨_,λl' ⟨i,a',a,h,_⟩=>by simp at h⟩
 |a::l,h=>by
  have h1:=ajO (h a (by simp)) (Ry (l:=l) λb hb=>h b (by simp[hb]))
  have key:∀ p:α×List α,Acc (λp q:α×List α=>(r p.1 q.1/\p.2=q.2)\/(p.1=q.1/\Ru r p.2 q.2)) p->Acc (Ru r) (p.1::p.2):=by
   intro p hp
   induction hp with
   |intro p _ ih=>
    refine⟨_,λl' hl=> ?_⟩;obtain⟨i,a',a,h1,h2,rfl⟩:=hl;cases i with
    |zero=>
     simp only[z0u,z0a] at h1;subst h1;exact ih (a',p.2) (.inl ⟨h2,rfl⟩)
    |succ i=>exact ih (p.1,p.2.set i a') (.inr ⟨rfl,i,a',a,by simpa using h1,h2,rfl⟩)
  exact key (a,l) h1
end acc
structure Node where
 main:Bool
 S:Goroutine->OW->Prop
 g:Goroutine
 x:OW
section
variable {P:Program} {F:Nat->Prop}
def Node.stopped(F:Nat->Prop)(n:Node):Prop:= ∀ w1,Rel n.x.O F n.x.w w1->n.S n.g ⟨w1,n.x.O⟩
def Child(P:Program)(F:Nat->Prop)(n' n:Node):Prop:=
 ¬ n.stopped F/\n'.main=n.main/\n'.S=n.S/\∃ w1 w' es,Rel n.x.O F n.x.w w1/\stepG P n.main n.g w1= .go n'.g w' es/\n'.x=OW.next n.x.O w1 w'
def Node.walks(P:Program)(F:Nat->Prop)(n:Node):Prop:=Co P n.main F n.S n.g n.x
theorem Co.acc{S:Goroutine->OW->Prop}{main:Bool}{g:Goroutine}{x:OW}(h:Co P main F S g x):Acc (Child P F) ⟨main,S,g,x⟩:=by
 induction h with
 |stop h=>exact⟨_,λn' hc=>absurd h hc.1⟩
 |step nx wx ex hs' h1 h2 ih=>
  refine⟨_,λn' hc=> ?_⟩;obtain⟨_,hm,hS,w1,w',es,hr,hst,hx⟩:=hc;have h3:=(h1 w1 hr).1;rw[hst] at h3;simp only[GStep.go.injEq] at h3;obtain⟨e1,e2,e3⟩:=h3;have:=ih w1 hr;rw[<- e1,<- e2,<- hx] at this;cases n' with
  |mk m' S' g' x'=>
   simp only at hm hS this;subst hm hS;exact this
theorem Node.walks.acc{n:Node}(h:n.walks P F):Acc (Child P F) n:=Co.acc h
theorem Node.walks.next{n:Node}(h:n.walks P F){w1:World}(hr:Rel n.x.O F n.x.w w1):
  n.stopped F\/∃ g' w' es,n.g.status= .running/\stepG P n.main n.g w1= .go g' w' es/\Gua n.x.O F w1 w' es/\(⟨n.main,n.S,g',OW.next n.x.O w1 w'⟩:Node).walks P F/\Child P F ⟨n.main,n.S,g',OW.next n.x.O w1 w'⟩ n:=by
 by_cases hst:n.stopped F
 ·exact .inl hst
 ·right;cases h with
  |stop h=>exact absurd h hst
  |step nx wx ex hs h1 h2=>
   obtain⟨k1,k2⟩:=h1 w1 hr;exact⟨_,_,_,hs,k1,k2,h2 w1 hr,hst,rfl,rfl,w1,_,_,hr,k1,rfl⟩
end
end Go.Sx
namespace Go.Sx
open Go Go.Conc
structure TI(F:Nat->Prop)(C:Nat->Prop)(O:Nat->Nat->Prop)(n:Nat)(t:Trace):Prop where
 wordless:Wordless t
 race:∀ said,¬ Race said t
 touch:∀ k a,touchAt t k=some a->∃ b,Loc.bk a.loc=some b/\b<n/\((F b/\a.write=false)\/(C b/\a.kind= .atomic)\/(¬ F b/\¬ C b/\∀ i,O i b->Knows t i k))
structure Apart(F:Nat->Prop)(C:Nat->Prop)(O:Nat->Nat->Prop)(n:Nat):Prop where
 Fl:∀ b,F b->b<n
 Cl:∀ b,C b->b<n/\¬ F b
 Ol:∀ i b,O i b->b<n/\¬ F b/\¬ C b
 two:∀ i j b,O i b->O j b->i=j
def EF(O:Nat->Nat->Prop)(i n n':Nat):Nat->Nat->Prop:=λj b=>O j b\/(j=i/\n<=b/\b<n')
theorem Td(O:Nat->Nat->Prop)(i:Nat)(w w':World):EF O i w.heap.size w'.heap.size i=(OW.next (O i) w w').O:=by
 funext b
 simp[EF,OW.next]
theorem agb(O:Nat->Nat->Prop){i j n n':Nat}(h:j≠i):EF O i n n' j=O j:=by
 funext b
 simp[EF,h]
section
variable {F C:Nat->Prop} {O:Nat->Nat->Prop} {n n':Nat} {t:Trace}
theorem Apart.grow(h:Apart F C O n){i:Nat}(hn:n<=n'):Apart F C (EF O i n n') n':=by
 refine⟨λb hb=>z0j (h.Fl b hb) hn,λb hb=>⟨z0j (h.Cl b hb).1 hn,(h.Cl b hb).2⟩,λj b hb=> ?_,λj k b h1 h2=> ?_⟩
 ·rcases hb with hb|⟨_,h1,h2⟩
  ·exact⟨z0j (h.Ol j b hb).1 hn,(h.Ol j b hb).2⟩
  ·exact⟨h2,λhf=>by have:=h.Fl b hf;omega,λhc=>by have:=(h.Cl b hc).1;omega⟩
 ·rcases h1 with h1|⟨rfl,h1,_⟩<;>rcases h2 with h2|⟨rfl,h2,_⟩
  ·exact h.two j k b h1 h2
  ·have:=(h.Ol _ b h1).1;omega
  ·have:=(h.Ol _ b h2).1;omega
  ·rfl
theorem J6{e:Event}{b:Nat}(hs:e.sync=false)(hb:Loc.bk e.loc=some b):(MemAct.ofEvent e).touch? =some ⟨e.loc,e.write, .plain⟩:=by obtain⟨loc,wr,sy⟩:=e;simp only at hs hb;subst hs;cases loc<;>simp only[Loc.bk] at hb<;>first|(cases hb;done)|rfl|(cases wr<;>rfl)
theorem TI.step(h:TI F C O n t)(ha:Apart F C O n){i:Nat}(hn:n<=n'){fn:FuncId}{pos:String}{es:Array Event}(he:∀ e∈es,Iq (O i) F n n' e):TI F C (EF O i n n') n' (t++MemOp.ofEvents i fn pos es):=by
 have hg:∀ op∈MemOp.ofEvents i fn pos es,op.g=i/\∃ e∈es,op.act= .ofEvent e:=by intro op hop;rw[ofEvents_eq] at hop;obtain⟨e,he,rfl⟩:=z0w.1 hop;exact⟨rfl,e,he,rfl⟩
 have hnew:∀ op∈MemOp.ofEvents i fn pos es,∀ b,op.act.touch? =some b->∃ c,Loc.bk b.loc=some c/\c<n'/\b.kind= .plain/\(O i c\/n<=c\/(F c/\b.write=false)):=by
  intro op hop b hb;obtain⟨_,e,hm,h2⟩:=hg op hop;rw[h2] at hb;rcases he e hm with⟨h3,h4⟩|⟨mk,rfl,hk⟩
  ·cases hl:e.loc<;>rw[hl] at h4<;>simp only at h4
   all_goals
    rw[J6 h3 (by rw[hl];rfl)] at hb
    cases hb;exact⟨_,by rw[hl];rfl,h4.1,rfl,h4.2⟩
  ·have:(MemAct.ofEvent ⟨.mark mk,false,true⟩).touch? =none:=hk.touch;rw[this] at hb;cases hb
 refine⟨h.wordless.append λop hop m hm=> ?_,λsaid=>noRace_append (h.race said) (λop hop=>(hg op hop).1) λk a hk op hop b hb hc=> ?_,λk a hk=> ?_⟩
 ·obtain⟨_,e,he',h2⟩:=hg op hop;rw[h2] at hm;rcases he e he' with⟨h3,h4⟩|⟨mk,rfl,hk⟩
  ·cases hl:e.loc<;>rw[hl] at h4<;>simp only at h4
   all_goals
    obtain⟨loc,wr,sy⟩:=e;simp only at h3 hl;subst h3 hl;cases wr<;>cases hm
  ·cases hm;exact hk
 ·obtain⟨c,h1,h2,h3,h4⟩:=hnew op hop b hb;obtain⟨c',g1,g2,g3⟩:=h.touch k a hk;obtain⟨e1,_,e2,e3⟩:=hc;rw[e1,h1] at g1;cases g1;rcases h4 with h4|h4|⟨h4,h5⟩
  ·obtain⟨_,k1,k2⟩:=ha.Ol i c h4;rcases g3 with⟨g3,_⟩|⟨g3,_⟩|⟨_,_,g3⟩
   ·exact absurd g3 k1
   ·exact absurd g3 k2
   ·exact g3 i h4
  ·omega
  ·rcases g3 with⟨g3,g4⟩|⟨g3,_⟩|⟨g3,_⟩
   ·rw[g4,h5] at e2;rcases e2 with e2|e2<;>cases e2
   ·exact absurd h4 (ha.Cl c g3).2
   ·exact absurd h4 g3
 ·obtain⟨x,hx,hxa⟩:=touch_of hk;rcases getElem?_append_cases hx with⟨hi,hx'⟩|⟨hi,hxu⟩
  ·obtain⟨b,g1,g2,g3⟩:=h.touch k a (by rw[touchAt_of hx'];exact hxa)
   refine⟨b,g1,z0j g2 hn,g3.imp id λg3=>g3.imp id λ⟨g4,g5,g6⟩=>⟨g4,g5,λj hj=> ?_⟩⟩;rcases hj with hj|⟨_,hj,_⟩
   ·exact(g6 j hj).app _
   ·omega
  ·obtain⟨c,h1,h2,h3,h4⟩:=hnew x hxu a hxa;have hown:Knows (t++MemOp.ofEvents i fn pos es) i k:=by
    have:=knows_own hx
    rwa [(hg x hxu).1] at this
   refine⟨c,h1,h2,?_⟩;have hag:=ha.grow (i:=i) hn;rcases h4 with h4|h4|⟨h4,h5⟩
   ·exact .inr (.inr ⟨(ha.Ol i c h4).2.1,(ha.Ol i c h4).2.2,λj hj=>(hag.two j i c hj (.inl h4))▸hown⟩)
   ·have hO:EF O i n n' i c:= .inr ⟨rfl,h4,h2⟩;exact .inr (.inr ⟨(hag.Ol i c hO).2.1,(hag.Ol i c hO).2.2,λj hj=>(hag.two j i c hj hO)▸hown⟩)
   ·exact .inl ⟨h4,h5⟩
theorem TI.quiet(h:TI F C O n t){u:Trace}(hw:Wordless u)(hu:∀ op∈u,op.act.touch? =none):TI F C O n (t++u):=by
 refine⟨h.wordless.append hw,λsaid=> ?_,λk a hk=> ?_⟩
 ·rintro⟨i,j,hij,⟨a,b,ha,hb,hc⟩,n1,n2⟩;obtain⟨x,hx,hxa⟩:=touch_of ha;obtain⟨y,hy,hyb⟩:=touch_of hb;rcases getElem?_append_cases hy with⟨hj,hy'⟩|⟨_,hyu⟩
  ·have hi:i<t.size:=Nat.lt_trans hij hj;have hx':t[i]? =some x:=by rw[<- getElem?_append_old (u:=u) hi];exact hx
   exact h.race said ⟨i,j,hij,⟨a,b,by simp[Trace.act?,hx',hxa],by simp[Trace.act?,hy',hyb],hc⟩,λe=>n1 (hb_app u e),λe=>n2 (hb_app u e)⟩
  ·rw[hu y hyu] at hyb;cases hyb
 ·obtain⟨x,hx,hxa⟩:=touch_of hk;rcases getElem?_append_cases hx with⟨hi,hx'⟩|⟨_,hxu⟩
  ·obtain⟨b,g1,g2,g3⟩:=h.touch k a (by rw[touchAt_of hx'];exact hxa)
   exact⟨b,g1,g2,g3.imp id λg3=>g3.imp id λ⟨g4,g5,g6⟩=>⟨g4,g5,λj hj=>(g6 j hj).app _⟩⟩
  ·rw[hu x hxu] at hxa;cases hxa
theorem TI.sync(h:TI F C O n t)(ha:Apart F C O n){i:Nat}{u:Trace}(hw:Wordless u)(hg:∀ op∈u,op.g=i)(hu:∀ op∈u,∀ a,op.act.touch? =some a->∃ b,Loc.bk a.loc=some b/\C b/\a.kind= .atomic):TI F C O n (t++u):=by
 refine⟨h.wordless.append hw,λsaid=>noRace_append (h.race said) hg λk a hk op hop b hb hc=> ?_,λk a hk=> ?_⟩
 ·exfalso;obtain⟨c,h1,h2,h3⟩:=hu op hop b hb;obtain⟨c',g1,g2,g3⟩:=h.touch k a hk;obtain⟨e1,_,e2,e3⟩:=hc;rw[e1,h1] at g1;cases g1;rcases g3 with⟨g3,_⟩|⟨_,g3⟩|⟨_,g3,_⟩
  ·exact(ha.Cl c h2).2 g3
  ·rw[g3,h3] at e3;rcases e3 with e3|e3|⟨_,e3,_⟩<;>cases e3
  ·exact g3 h2
 ·obtain⟨x,hx,hxa⟩:=touch_of hk;rcases getElem?_append_cases hx with⟨hi,hx'⟩|⟨_,hxu⟩
  ·obtain⟨b,g1,g2,g3⟩:=h.touch k a (by rw[touchAt_of hx'];exact hxa)
   exact⟨b,g1,g2,g3.imp id λg3=>g3.imp id λ⟨g4,g5,g6⟩=>⟨g4,g5,λj hj=>(g6 j hj).app _⟩⟩
  ·obtain⟨c,h1,h2,h3⟩:=hu x hxu a hxa;exact⟨c,h1,(ha.Cl c h2).1, .inr (.inl ⟨h2,h3⟩)⟩
theorem TI.chan(h:TI F C O n t):TI F (λb=>C b\/b=n) O (n+1) t:=
 ⟨h.wordless,h.race,λk a hk=>by obtain⟨b,g1,g2,g3⟩:=h.touch k a hk;exact⟨b,g1,by omega,g3.imp id λg3=>g3.imp (λg=>⟨.inl g.1,g.2⟩) λ⟨g4,g5,g6⟩=>⟨g4,λhc=>hc.elim g5 λe=>by omega,g6⟩⟩⟩
theorem Apart.mk1(h:Apart F C O n):Apart F (λb=>C b\/b=n) O (n+1):=
 ⟨λb hb=>by have:=h.Fl b hb;omega,λb hb=>hb.elim (λhb=>⟨by have:=(h.Cl b hb).1;omega,(h.Cl b hb).2⟩) λe=>⟨by omega,λhf=>by have:=h.Fl b hf;omega⟩,
  λi b hb=>⟨by have:=(h.Ol i b hb).1;omega,(h.Ol i b hb).2.1,λhc=>hc.elim (h.Ol i b hb).2.2 λe=>by have:=(h.Ol i b hb).1;omega⟩,h.two⟩
theorem TI.give(h:TI F C O n t){O':Nat->Nat->Prop}(hO:∀ i b,O' i b->O i b\/∀ k a,touchAt t k=some a->Loc.bk a.loc=some b->Knows t i k):TI F C O' n t:=
 ⟨h.wordless,h.race,λk a hk=>by obtain⟨b,g1,g2,g3⟩:=h.touch k a hk;exact⟨b,g1,g2,g3.imp id λg3=>g3.imp id λ⟨g4,g5,g6⟩=>⟨g4,g5,λj hj=>(hO j b hj).elim (g6 j) λg=>g k a hk g1⟩⟩⟩
theorem Vf{u:Trace}{i j c k p r q:Nat}{x y:MemOp}(hw:Wordless (t++u))(hp:t.size<=p)(hx:(t++u)[p]? =some x)(hxg:x.g=i)(hxa:x.act= .send c k)(hy:(t++u)[r]? =some y)(hyg:y.g=j)(hya:y.act= .recvDone c k)(h:Knows t i q):Knows (t++u) j q:=by
 have h1:=h.hb_new hp hx hxg;have h2:HappensBefore (t++u) p r:= .single (.inr ⟨.handOver (c:=c) (k:=k) (by rw[act?_of hx,hxa]) (by rw[act?_of hy,hya]),hw.heard hx,hw.heard hy⟩)
 exact⟨r,y,hy,hyg, .inr (h1.trans h2)⟩
end
end Go.Sx
namespace Go.Sx
open Go Go.Conc
def Nk(P:Program)(main:Bool)(c:Nat)(K:Value->Bool->Goroutine->Prop)(g:Goroutine):Prop:=
 g.status= .running/\∃ z shape,(∀ w,stepG P main g w= .comm g #[rcase c z] true shape w #[])/\(∀ v,K v true (g.finishComm P #[rcase c z] shape 0 v true))/\K z false (g.finishComm P #[rcase c z] shape 0 z false)
def MV(P:Program)(main:Bool)(c:Nat)(v:Value)(K:Goroutine->Prop)(g:Goroutine):Prop:=
 g.status= .running/\∃ z shape,(∀ w,stepG P main g w= .comm g #[scase c v z] true shape w #[])/\K (g.finishComm P #[scase c v z] shape 0 undef false)
structure Gl where
 n:Nat
 msgs:Nat->List Value
 Out:Nat->Value->(Nat->Prop)->World->Prop
section
variable (P:Program) (F:Nat->Prop) (Φ:Gl)
def adG(g:Goroutine):Prop:= ∃ k,QuitsIn P k g
def rQ(cout j:Nat)(g:Goroutine)(x:OW):Prop:= ∃ v B,(∀ b,B b->x.O b)/\Φ.Out j v B x.w/\MV P false cout v (adG P) g
def aln(cout j:Nat):Goroutine->OW->Prop:=Co P false F (rQ P Φ cout j)
def fV(cin cout j:Nat):List Value->Goroutine->OW->Prop
 |[]=>λg x=>Nk P false cin (λ_ ok g'=>ok=false->aln P F Φ cout j g' x) g
 |m::r=>λg x=>Nk P false cin (λv ok g'=>ok=true->v=m->Co P false F (fV cin cout j r) g' x) g
def Kv(cin cout j:Nat)(l:List Value):Goroutine->OW->Prop:=Co P false F (fV P F Φ cin cout j l)
inductive fB where
 |mk (cap:Nat)
 |go (j:Nat)
 |send (j:Nat) (v:Value)
 |close (j:Nat)
 |recv
def aQ(End:List Nat->Goroutine->OW->Prop):List fB->List Nat->List Nat->Goroutine->OW->Prop
 |[],cs,got=>End got
 | .mk cap::r,cs,got=>λg x=>g.status= .running/\∃ g',stepG P true g x.w= .go g' (x.w.alloc (.chan cap #[] false 0 0 false)) #[]/\
   Co P true F (aQ End r (cs++[x.w.heap.size]) got) g' ⟨x.w.alloc (.chan cap #[] false 0 0 false),x.O⟩
 | .go j::r,cs,got=>λg x=>g.status= .running/\∃ g' child,stepG P true g x.w= .spawn g' child x.w #[]/\g'.status= .running/\child.status= .running/\
   (∃ cin cout,cs[j+1]? =some cin/\cs[0]? =some cout/\Kv P F Φ cin cout j (Φ.msgs j) child ⟨x.w,λ_=>False⟩)/\Co P true F (aQ End r cs got) g' x
 | .send j v::r,cs,got=>λg x=> ∃ c,cs[j+1]? =some c/\MV P true c v (λg'=>Co P true F (aQ End r cs got) g' x) g
 | .close j::r,cs,got=>λg x=> ∃ c,cs[j+1]? =some c/\g.status= .running/\mayWake P g=true/\∃ g',g'.status= .running/\
   (∀ w cap buf s r tm,w.heap[c]? =some (.chan cap buf false s r tm)->stepG P true g w= .go g' (w.setChan c cap buf true s r tm) (closeEvents c))/\Co P true F (aQ End r cs got) g' x
 | .recv::r,cs,got=>λg x=> ∃ c,cs[0]? =some c/\Nk P true c (λv ok g'=>ok=true->∀ j B w',j<Φ.n->j∉got->Φ.Out j v B w'->
   Rel x.O F x.w w'->(∀ b,B b->b<w'.heap.size/\¬ x.O b/\¬ F b)->Co P true F (aQ End r cs (got++[j])) g' ⟨w',λb=>x.O b\/B b⟩) g
end
section
variable {P:Program} {F:Nat->Prop} {Φ:Gl}
theorem rQ.running{cout j:Nat}{g:Goroutine}{x:OW}(h:rQ P Φ cout j g x):g.status= .running:=by obtain⟨v,B,_,_,h⟩:=h;exact h.1
theorem fV.running{cin cout j:Nat}:∀ {l:List Value} {g:Goroutine} {x:OW},fV P F Φ cin cout j l g x->g.status= .running
 |[],_,_,h=>h.1
 |_::_,_,_,h=>h.1
theorem aQ.running{End:List Nat->Goroutine->OW->Prop}(hE:∀ got g x,End got g x->g.status= .running):∀ {acts:List fB} {cs got:List Nat} {g:Goroutine} {x:OW},aQ P F Φ End acts cs got g x->g.status= .running
 |[],_,_,_,_,h=>hE _ _ _ h
 | .mk _::_,_,_,_,_,h=>h.1
 | .go _::_,_,_,_,_,h=>h.1
 | .send _ _::_,_,_,_,_,h=>by obtain⟨c,_,h⟩:=h;exact h.1
 | .close _::_,_,_,_,_,h=>by obtain⟨c,_,h,_⟩:=h;exact h
 | .recv::_,_,_,_,_,h=>by obtain⟨c,_,h⟩:=h;exact h.1
end
end Go.Sx
namespace Go.Sx
open Go Go.Conc
abbrev J9(ι:Type _):=ι->Goroutine->OW->Prop
section
variable {P:Program} {main:Bool} {F:Nat->Prop} {ι:Type _} {S:J9 ι}
def kW(P:Program)(main:Bool)(F:Nat->Prop)(S:J9 ι)(fn:FuncId)(c:Code)(Q:Exit->Act->ι->OW->Prop)(a:Act)(s:ι)(x:OW):Prop:=
 ∀ (b:Frame) (k:List Item) (cs:List Frame),b.fn=fn->b.kind≠ .early->(∀ e a' s' x',Q e a' s' x'->rF P main F (S s') b k cs e a' x')->Co P main F (S s) (G (b.at a (.code c::k)) cs) x
def OY(P:Program)(main:Bool)(F:Nat->Prop)(S:J9 ι)(fn:FuncId)(ops:Array Oper)(todo:List Nat)(Q:Exit->Act->ι->OW->Prop)(a:Act)(s:ι)(x:OW):Prop:=
 ∀ (b:Frame) (k:List Item) (cs:List Frame),b.fn=fn->b.kind≠ .early->(∀ e a' s' x',Q e a' s' x'->rF P main F (S s') b k cs e a' x')->Co P main F (S s) (G (b.at a (.inRegion ops todo::k)) cs) x
def sQ(P:Program)(main:Bool)(F:Nat->Prop)(S:J9 ι)(fn:FuncId)(o:Oper)(a:Act)(K:Act->ι->OW->Prop)(s:ι)(x:OW):Prop:=
 ∀ (ops:Array Oper) (b:Frame) (k:List Item) (cs:List Frame) (i:Nat) (rest:List Nat),b.fn=fn->b.kind≠ .early->ops[i]? =some o->Region.wanted o (yielded ops a.tmps)=true->
  (∀ a' s' x',K a' s' x'->Co P main F (S s') (G (b.at a' (.inRegion ops rest::k)) cs) x')->Co P main F (S s) (G (b.at a (.inRegion ops (i::rest)::k)) cs) x
end
section
variable {P:Program} {main:Bool} {F:Nat->Prop} {ι:Type _} {S:J9 ι} {fn:FuncId} {Q Q':Exit->Act->ι->OW->Prop} {a:Act} {s:ι} {x:OW}
theorem kW.mono{c:Code}(hq:∀ e a s x,Q e a s x->Q' e a s x)(h:kW P main F S fn c Q a s x):kW P main F S fn c Q' a s x:=
 λb k cs hb hk hc=>h b k cs hb hk λe a' s' x' q=>hc e a' s' x' (hq e a' s' x' q)
theorem sQ.mono{o:Oper}{K K':Act->ι->OW->Prop}(hk:∀ a s x,K a s x->K' a s x)(h:sQ P main F S fn o a K s x):sQ P main F S fn o a K' s x:=
 λops b k cs i rest hb hk' ho hw hc=>h ops b k cs i rest hb hk' ho hw λa' s' x' q=>hc a' s' x' (hk a' s' x' q)
theorem dQ.t{c:Code}(h:dQ P main F fn c (λe a' x'=>Q e a' s x') a x):kW P main F S fn c Q a s x:=
 λb k cs hb hk hc=>h b k cs (S s) hb hk λe a' x' q=>hc e a' s x' q
theorem CB.t{o:Oper}{K:Act->ι->OW->Prop}(h:CB P main F fn o a (λa' x'=>K a' s x') x):sQ P main F S fn o a K s x:=
 λops b k cs i rest hb hk ho hw hc=>h ops o b k cs (S s) i rest ⟨o.after,o.guard,rfl⟩ hb hk ho hw λa' x' q=>hc a' s x' q
theorem anz{c d:Code}(h:kW P main F S fn c (λe a' s' x'=>match e with
  | .normal=>kW P main F S fn d Q a' s' x'
  |e=>Q e a' s' x') a s x):kW P main F S fn (.seq c d) Q a s x:=λb k cs hb hk hc=>by
 refine .idle rfl (λ_=>stepG_seq) (h b (.code d::k) cs hb hk λe a' s' x' q=> ?_);cases e with
 |normal=>exact q b k cs hb hk hc
 |exit id=>exact(hc _ _ _ _ q).push rfl (by simp)
 |ret=>exact rF.push (y:= .code d) rfl (by simp) (hc _ _ _ _ q)
 |goto l=>exact hc _ _ _ _ q
 |panic ch=>exact hc _ _ _ _ q
 |outgrown=>exact hc _ _ _ _ q
theorem ajx{c:Operand}{d e:Code}{t:Bool}(hc:a.eval c= .bool t)(h:kW P main F S fn (if t then d else e) Q a s x):kW P main F S fn (.cond c d e) Q a s x:=
 λb k cs hb hk hq=> .idle rfl (λ_=>stepG_cond hc) (h b k cs hb hk hq)
theorem aex{id:Nat}{c:Code}(h:kW P main F S fn c (λe a' s' x'=>match e with
  | .exit i=>if i=id then Q .normal a' s' x' else Q (.exit i) a' s' x'
  |e=>Q e a' s' x') a s x):kW P main F S fn (.block id c) Q a s x:=λb k cs hb hk hc=>by
 refine .idle rfl (λ_=>stepG_block) (h b (.inBlock id::k) cs hb hk λe a' s' x' q=> ?_);cases e with
 |normal=>exact .idle rfl (λ_=>stepG_inBlock) (hc _ _ _ _ q)
 |exit id'=>
  by_cases hid:id'=id
  ·simp only[hid,if_true] at q;exact⟨k,by simp[exitTo,hid],hc _ _ _ _ q⟩
  ·simp only[hid,if_false] at q;obtain⟨k',hk',hg⟩:=hc _ _ _ _ q;have:(id==id')=false:=by simp;exact λh=>hid h.symm
   exact⟨k',by simp[exitTo,this,hk'],hg⟩
 |ret=>exact λtodo=>hc _ _ _ _ q todo
 |goto l=>exact hc _ _ _ _ q
 |panic ch=>exact hc _ _ _ _ q
 |outgrown=>exact hc _ _ _ _ q
theorem ajy{c:Code}(I:Nat->Act->ι->OW->Prop)(n:Nat)(h0:I n a s x)
  (round:∀ n a s x,I n a s x->kW P main F S fn c (λe a' s' x'=>match e with
   | .normal=> ∃ n',n'<n/\I n' a' s' x'
   |e=>Q e a' s' x') a s x):kW P main F S fn (.loop c) Q a s x:=λb k cs hb hk hc=>by
 have key:∀ n a s x,I n a s x->Co P main F (S s) (G (b.at a (.code c:: .inLoop c::k)) cs) x:=by
  intro n
  induction n using Nat.strongRecOn with
  |ind n ih=>
   intro a s x hI;refine round n a s x hI b (.inLoop c::k) cs hb hk λe a' s' x' q=> ?_;cases e with
   |normal=>
    obtain⟨n',hn',hI'⟩:=q;exact .idle rfl (λ_=>stepG_inLoop) (ih n' hn' a' s' x' hI')
   |exit id=>exact(hc _ _ _ _ q).push rfl (by simp)
   |ret=>exact rF.push (y:= .inLoop c) rfl (by simp) (hc _ _ _ _ q)
   |goto l=>exact hc _ _ _ _ q
   |panic ch=>exact hc _ _ _ _ q
   |outgrown=>exact hc _ _ _ _ q
 exact .idle rfl (λ_=>stepG_loop) (key n a s x h0)
theorem Tj{ops:Array Oper}(h:Q .normal a s x):OY P main F S fn ops [] Q a s x:=λ_ _ _ _ _ hc=> .idle rfl (λ_=>stepG_region_end) (hc _ _ _ _ h)
theorem LG{ops:Array Oper}{i:Nat}{rest:List Nat}{o:Oper}(ho:ops[i]? =some o)(hw:Region.wanted o (yielded ops a.tmps)=false)(h:OY P main F S fn ops rest Q (a.put o.dst undef) s x):OY P main F S fn ops (i::rest) Q a s x:=
 λb k cs hb hk hc=> .idle rfl (λ_=>stepG_unwanted ho hw) (h b k cs hb hk hc)
theorem O1{ops:Array Oper}{i:Nat}{rest:List Nat}{o:Oper}(ho:ops[i]? =some o)(hw:Region.wanted o (yielded ops a.tmps)=true)(h:sQ P main F S fn o a (λa' s' x'=>OY P main F S fn ops rest Q a' s' x') s x):OY P main F S fn ops (i::rest) Q a s x:=
 λb k cs hb hk hc=>h ops b k cs i rest hb hk ho hw λ_ _ _ q=>q b k cs hb hk hc
def pY(P:Program)(main:Bool)(F:Nat->Prop)(S:J9 ι)(fn:FuncId)(ops:Array Oper)(Q:Exit->Act->ι->OW->Prop)(l:List Oper)(a:Act)(s:ι)(x:OW):Prop:= ∀ i,(∀ j,l[j]? =ops[i+j]?)->OY P main F S fn ops (List.range' i l.length) Q a s x
theorem Wq{ops:Array Oper}(h:Q .normal a s x):pY P main F S fn ops Q [] a s x:=λ_ _=>Tj h
theorem rW{ops:Array Oper}{o:Oper}{l:List Oper}(h:if Region.wanted o (yielded ops a.tmps) then sQ P main F S fn o a (pY P main F S fn ops Q l) s x else pY P main F S fn ops Q l (a.put o.dst undef) s x):pY P main F S fn ops Q (o::l) a s x:=by
 intro i hi;have ho:ops[i]? =some o:=by simpa using(hi 0).symm
 have hl:∀ j,l[j]? =ops[i+1+j]? :=λj=>by have:=hi (j+1);rw[List.getElem?_cons_succ] at this;rw[this];congr 1;omega
 rw[z1b,List.range'_succ];split at h
 ·rename_i hw;exact O1 ho hw (h.mono λa' s' x' q=>q (i+1) hl)
 ·rename_i hw;exact LG ho (by simpa using hw) (h (i+1) hl)
theorem Ik{id:Nat}{ops:Array Oper}(h:pY P main F S fn ops Q ops.toList a s x):kW P main F S fn (.region id ops false) Q a s x:=
 λb k cs hb hk hc=> .idle rfl (λ_=>stepG_region) (by
  have:=h 0 (by simp)
  rw[Array.length_toList,<- List.range_eq_range'] at this;exact this b k cs hb hk hc)
theorem MW{Γ:Hook}(hΓ:iI P main F Γ){ops:Array Oper}{ρ:Root}{d:List Deferred}{l2:List Oper}:∀ (l:List Oper) (aT:List dP) (σ:List SV) (m:List ay) (K:List SV->List ay->Prop),
  l.mapM (iV P ops)=some aT->uP Γ aT K σ m->(∀ σ' m' J' a' x',K σ' m'->dh F ρ J' m' x'->aH J' σ' a'->a'.defers=d->pY P main F S fn ops Q l2 a' s x')->
  ∀ J a x,dh F ρ J m x->aH J σ a->a.defers=d->pY P main F S fn ops Q (l++l2) a s x
 |[],aT,σ,m,K,hc,h,hK,J,a,w,hi,hs,hd=>by
  simp at hc;subst hc;exact hK σ m J a w h hi hs hd
 |o::l,aT,σ,m,K,hc,h,hK,J,a,w,hi,hs,hd=>by
  simp only[List.mapM_cons,bind,Option.pure_def] at hc;obtain⟨io,ho,hc⟩:=bind_some hc;obtain⟨um,hc',hc⟩:=bind_some hc;simp only[z0a] at hc;subst hc;simp only[iV] at ho;split at ho<;>try (cases ho;done)
  rename_i g x hg hx;simp only[z0a] at ho;subst ho;simp only[uP] at h;have go:∀ K1,aH J K1 a->opK Γ K1 m (λσ' sv m'=>uP Γ um K (gV o.dst sv σ') m') x->sQ P main F S fn o a (pY P main F S fn ops Q (l++l2)) s w:=by intro K1 hs1 h1;obtain⟨σ',sv,m',h2,hE⟩:=DI hΓ hx h1;refine CB.t (CB.mono ?_ (hE ρ J a w fn hi hs1));rintro a' w' ⟨v,J',rfl,hv,hs',hi'⟩;exact MW hΓ l um _ _ K hc' h2 hK J' _ w' hi' (hs'.put hv o.dst) (by rw[put_defers];exact hd)
  cases g with
  |none=>
   have hgn:o.guard=none:=by
    cases hog:o.guard with
    |none=>rfl
    |some g=>rw[hog] at hg;simp only[vX] at hg;split at hg<;>cases hg
   refine rW ?_;rw[if_pos (by simp[Region.wanted,hgn])]
   exact go σ hs h
  |some g=>
   obtain⟨s',want⟩:=g;simp only[qR] at h;split at h
   ·rename_i b hb;have hw:=yR hs hg hb;refine rW ?_;rw[hw];by_cases hbw:b=want
    ·subst hbw;rw[if_pos (by simp)]
     exact go _ (hs.known hb) (h.1 rfl)
    ·have hbn:b= !want:=by cases b<;>cases want<;>first|rfl|exact absurd rfl hbw
     rw[if_neg (by simpa using hbw)]
     subst hbn;have hs2:=hs.known hb;exact MW hΓ l um _ _ K hc' (h.2 rfl) hK J _ w hi (aH.put (sv:= .cu []) (v:=undef) hs2 lM o.dst) (by rw[put_defers];exact hd)
   ·rename_i hb;have hw:=nV hs hg hb;refine rW ?_;rw[hw];rw[if_neg (by simp)]
    exact MW hΓ l um _ _ K hc' h hK J _ w hi (aH.put (sv:= .cu []) (v:=undef) hs lM o.dst) (by rw[put_defers];exact hd)
   ·exact h.elim
end
end Go.Sx
namespace Go.Sx
open Go Go.Conc
def XOK(X:Nat->Option Obj)(J:Env)(m:List ay)(x:OW):Prop:= ∀ b o,X b=some o->x.w.heap[b]? =some o/\x.O b/\J.H b=none/\∀ i,aS J i (ak m i)≠some b
structure TS(F:Nat->Prop)(n:Nat)(d:List Deferred)(H0 X:Nat->Option Obj)(J:Env)(τ:Fr)(m:List ay)(a:Act)(x:OW):Prop where
 g:fP F J m x
 s:dB n J τ a
 d:a.defers=d
 x:XOK X J m x
 h:∀ b o,H0 b=some o->J.H b=some o
section
variable {P:Program} {main:Bool} {F:Nat->Prop} {ι:Type _} {S:J9 ι} {fn:FuncId} {n:Nat} {d:List Deferred} {H0 X:Nat->Option Obj} {J:Env} {τ:Fr} {m:List ay} {a:Act} {x:OW} {s:ι}
theorem fP.rely(g:fP F J m x){w1:World}(hr:Rel x.O F x.w w1):fP F J m ⟨w1,x.O⟩:=((dh.start g).rely hr).Ea
theorem XOK.rely(h:XOK X J m x){w1:World}(hr:Rel x.O F x.w w1):XOK X J m ⟨w1,x.O⟩:=λb o hb=>by obtain⟨h1,h2,h3,h4⟩:=h b o hb;exact⟨(hr.heap b (.inl h2)).trans h1,h2,h3,h4⟩
theorem TS.rely(h:TS F n d H0 X J τ m a x){w1:World}(hr:Rel x.O F x.w w1):TS F n d H0 X J τ m a ⟨w1,x.O⟩:=⟨h.g.rely hr,h.s,h.d,h.x.rely hr,h.h⟩
theorem XOK.step(h:XOK X J m x)(g:fP F J m x){J':Env}{m':List ay}{x':OW}(h':dh F (.at J m x) J' m' x'):XOK X J' m' x':=λb o hb=>by
 obtain⟨h1,h2,h3,h4⟩:=h b o hb;have hlt:b<x.w.heap.size:=(z01.1 h1).1;have hnB:¬ ((Root.at J m x).B b\/(x'.O b/\(Root.at J m x).w.heap.size<=b)):=by
  rintro(⟨i,hi⟩|⟨_,hi⟩)
  ·exact h4 i hi
  ·exact absurd hi (Nat.not_le_of_lt hlt)
 have hlt':b<x'.w.heap.size:=z0j hlt h'.size;refine⟨?_,h'.sub b h2,?_,λi hi=> ?_⟩
 ·have:=h'.inv.kept.heap b (by simp only[Root.base,Root.mix,bJ];exact hlt') hnB
  rw[this];exact(nK (.inl h2) hlt hlt').trans h1
 ·cases hh:J'.H b with
  |none=>rfl
  |some o'=>
   rcases h'.inv.kept.fresh b o' hh with e|e|e
   ·have e:J.H b=some o':=e;rw[h3] at e;cases e
   ·simp only[Root.base,Root.mix,bJ] at e;omega
   ·exact absurd e hnB
 ·rcases h'.inv.own i b hi with e|e
  ·exact hnB e
  ·simp only[Root.base,Root.mix,bJ] at e;omega
theorem TS.inv(h:TS F n d H0 X J τ m a x):dh F (.at J m x) J m x:=dh.start h.g
theorem TS.jc(h:TS F n d H0 X J τ m a x){Γ:FH}(hΓ:bQ P main F Γ){quiet:FuncId->Bool}{jc:JC}{c:Code}(hc:comp P quiet c=some jc.flat)(hw:jc.wf n=true){Q:Ex->Fr->List ay->Prop}(hq:jc.wp Γ m.length Q τ m):
  dQ P main F fn c (λe a' x'=> ∃ ex τ' m' J',rU e ex/\Q ex τ' m'/\TS F n d H0 X J' τ' m' a' x'/\∀ i,i<m.length->J'.blk i=J.blk i) a x:=
 dQ.mono (λe a' x' he=>by
  obtain⟨ex,τ',m',J',h1,h2,h3,h4,h5⟩:=he;exact⟨ex,τ',m',J',h1,h2,⟨h3.Ea,h4,h5,h.x.step h.g h3,λb o hb=>h3.inv.kept.H b o (h.h b o hb)⟩,λi hi=>h3.inv.blk i (by rw[show((Root.at J m x).base F x').J.n=J.n from rfl,h.g.good.n];exact hi)⟩)
  (JC.sound (fn:=fn) hΓ (ρ:= .at J m x) (Nat.le_of_eq h.g.good.n) (d:=d) jc c hc hw Q τ m hq J a x h.inv h.s h.d)
theorem TS.jct(h:TS F n d H0 X J τ m a x){Γ:FH}(hΓ:bQ P main F Γ){quiet:FuncId->Bool}{jc:JC}{c:Code}(hc:comp P quiet c=some jc.flat)(hw:jc.wf n=true){Q:Ex->Fr->List ay->Prop}(hq:jc.wp Γ m.length Q τ m)
  {R:Exit->Act->ι->OW->Prop} (hR:∀ e ex τ' m' J' a' x',rU e ex->Q ex τ' m'->TS F n d H0 X J' τ' m' a' x'->(∀ i,i<m.length->J'.blk i=J.blk i)->R e a' s x'):kW P main F S fn c R a s x:=
 dQ.t ((h.jc hΓ hc hw hq).mono λe a' x' ⟨ex,τ',m',J',h1,h2,h3,h4⟩=>hR e ex τ' m' J' a' x' h1 h2 h3 h4)
theorem TS.pre(h:TS F n d H0 X J τ m a x){Γ:FH}(hΓ:bQ P main F Γ){ops:Array Oper}{l1 l2:List Oper}{sl:SL}(hc:l1.mapM (iV P ops)=some (sl.flat none))(hw:sl.wf n=true){K:Fr->List ay->Prop}(hk:sl.wp Γ false K τ m)
  {Q:Exit->Act->ι->OW->Prop} (hQ:∀ τ' m' J' a' x',K τ' m'->TS F n d H0 X J' τ' m' a' x'->(∀ i,i<m.length->J'.blk i=J.blk i)->pY P main F S fn ops Q l2 a' s x'):pY P main F S fn ops Q (l1++l2) a s x:=by
 obtain⟨σ,h1,h2⟩:=h.s;have k:=vV sl τ σ m K (λσ' m'=> ∃ τ',Rep n σ' τ'/\K τ' m') hw h1 hk (λσ' τ' m' hr hq=>⟨τ',hr,hq⟩);exact MW hΓ.hook (ρ:= .at J m x) (d:=d) l1 _ σ m _ hc k (λσ' m' J' a' x' ⟨τ',hr,hq⟩ hi' hs' hd'=>
  hQ τ' m' J' a' x' hq ⟨hi'.Ea,⟨σ',hr,hs'⟩,hd',h.x.step h.g hi',λb o hb=>hi'.inv.kept.H b o (h.h b o hb)⟩ λi hi=>hi'.inv.blk i (by rw[show((Root.at J m x).base F x').J.n=J.n from rfl,h.g.good.n];exact hi)) J a x h.inv h2 h.d
theorem TS.weak(h:TS F n d H0 X J τ m a x){τ':Fr}(hl:∀ k,Le (look k τ') (look k τ)):TS F n d H0 X J τ' m a x:=⟨h.g,h.s.weak hl,h.d,h.x,h.h⟩
theorem TS.akZ(h:TS F n d H0 X J τ m a x){X':Nat->Option Obj}(hX:∀ b o,X' b=some o->X b=some o):TS F n d H0 X' J τ m a x:=⟨h.g,h.s,h.d,λb o hb=>h.x b o (hX b o hb),h.h⟩
theorem dB.put{k:Nat}(h:dB n J τ a)(hk:k<n){y:SV}{v:Value}(hv:bK J y v):dB n J (.put k y τ) (a.put (some k) v):=by obtain⟨σ,h1,h2⟩:=h;exact⟨σ.set k y,h1.put hk (.refl y),h2.put hv (some k)⟩
theorem TS.put(h:TS F n d H0 X J τ m a x){k:Nat}(hk:k<n){y:SV}{v:Value}(hv:bK J y v):TS F n d H0 X J (.put k y τ) m (a.put (some k) v) x:=⟨h.g,h.s.put hk hv,h.d,h.x,h.h⟩
theorem TS.know(h:TS F n d H0 X J τ m a x){k:Nat}(hk:k<n){y:SV}(hv:bK J y (a.tmps.getD k undef)):TS F n d H0 X J (.put k y τ) m a x:=by
 refine⟨h.g,?_,h.d,h.x,h.h⟩;obtain⟨σ,h1,h2⟩:=h.s;refine⟨σ.set k y,h1.put hk (.refl y),by simp[h2.1],λj=> ?_⟩
 by_cases hj:j=k
 ·subst hj;rw[iE (by rw[h1.1];exact hk)]
  exact hv
 ·rw[getD_set_ne hj];exact h2.2 j
theorem fP.more(g:fP F J m x){O':Nat->Prop}(h1:∀ b,x.O b->O' b)(h2:∀ b,O' b->b<x.w.heap.size):fP F J m ⟨x.w,O'⟩:=
 ⟨g.good,λi b h=>h1 b (g.own i b h),λb o h=>(g.H b o h).imp (h1 b) id,h2,g.Fl⟩
theorem TS.more(h:TS F n d H0 X J τ m a x){O':Nat->Prop}(h1:∀ b,x.O b->O' b)(h2:∀ b,O' b->b<x.w.heap.size):TS F n d H0 X J τ m a ⟨x.w,O'⟩:=
 ⟨h.g.more h1 h2,h.s,h.d,λb o hb=>by obtain⟨k1,k2,k3,k4⟩:=h.x b o hb;exact⟨k1,h1 b k2,k3,k4⟩,h.h⟩
theorem TS.alloc(h:TS F n d H0 X J τ m a x)(o:Obj):TS F n d H0 (λb=>if b=x.w.heap.size then some o else X b) J τ m a (OW.next x.O x.w (x.w.alloc o)):=by
 have hsz:(x.w.alloc o).heap.size=x.w.heap.size+1:=by simp
 have hr:Rel x.O F x.w (x.w.alloc o):=⟨rfl,rfl,rfl,by rw[hsz];omega,λb hb=>Go.RowKit.Below.heap_alloc x.w o b (hb.elim (h.g.Ol b) (h.g.Fl b))⟩
 have h1:=(h.rely hr).more (O':=(OW.next x.O x.w (x.w.alloc o)).O) (λb hb=> .inl hb) (λb hb=>hb.elim (λhb=>by have:=h.g.Ol b hb;simp only;rw[hsz];omega) λhb=>hb.2)
 refine⟨h1.g,h1.s,h1.d,λb o' hb=> ?_,h.h⟩;by_cases e:b=x.w.heap.size
 ·subst e;rw[if_pos rfl] at hb;cases hb;refine⟨heap_alloc_new x.w _, .inr ⟨z0l _,by rw[hsz];omega⟩,?_,λi hi=> ?_⟩
  ·cases hh:J.H x.w.heap.size with
   |none=>rfl
   |some o'=>have:=wo h.g.good hh;omega
  ·have:=dw h.g.good hi;omega
 ·rw[if_neg e] at hb;exact h1.x b o' hb
theorem TS.turn(h:TS F n d H0 X J τ m a x){r:Nat}{o o':Obj}(hX:X r=some o):TS F n d H0 (λb=>if b=r then some o' else X b) J τ m a ⟨{x.w with heap:=x.w.heap.setIfInBounds r o'},x.O⟩:=by
 obtain⟨k1,k2,k3,k4⟩:=h.x r o hX;have hlt:r<x.w.heap.size:=(z01.1 k1).1;have hne:∀ b,b≠r->({x.w with heap:=x.w.heap.setIfInBounds r o'}:World).heap[b]? =x.w.heap[b]? :=λb hb=>z02 (Ne.symm hb);refine⟨⟨⟨h.g.good.n,λi=>(h.g.good.res i).same λb hb=>hne b λe=>k4 i (e▸hb),h.g.good.jY,h.g.good.sep,λb o hb=>by rw[hne b λe=>by rw[e,k3] at hb;cases hb];exact h.g.good.hv b o hb,h.g.good.gl⟩,
  h.g.own,h.g.H,λb hb=>by simpa using h.g.Ol b hb,λb hb=>by simpa using h.g.Fl b hb⟩,h.s,h.d,λb o1 hb=> ?_,h.h⟩
 by_cases e:b=r
 ·subst e;rw[if_pos rfl] at hb;cases hb;exact⟨by simp[hlt],k2,k3,k4⟩
 ·rw[if_neg e] at hb;obtain⟨j1,j2,j3,j4⟩:=h.x b o1 hb;exact⟨(hne b e).trans j1,j2,j3,j4⟩
theorem TS.take(h:TS F n d H0 X J τ m a x){r:Nat}{cs:List Value}{T:TypeId}(hX:X r=some (.cells cs.toArray T (0,0))){c:SV}(hc:ah c J cs):
  TS F n d H0 (λb=>if b=r then none else X b) (J.more r undef) τ (m++[.blk T c]) a x:=by
 obtain⟨k1,k2,k3,k4⟩:=h.x r _ hX;have hn:=h.g.good.n;have hle:=J.dS r undef;have hown:∀ i,i<m.length->aS (J.more r undef) i (ak (m++[.blk T c]) i)=aS J i (ak m i):=by
  intro i hi;rw[bD hi];have hi':i<J.n:=by omega
  cases ak m i<;>simp[aS,Env.more,z0h hi']
 have hnew:aS (J.more r undef) m.length (ak (m++[.blk T c]) m.length)=some r:=by rw[gU];simp[aS,Env.more,hn]
 have hcase:∀ i b,aS (J.more r undef) i (ak (m++[.blk T c]) i)=some b->(i<m.length/\aS J i (ak m i)=some b)\/(i=m.length/\b=r):=by
  intro i b hb;rcases z0r i m.length with hi|hi|hi
  ·rw[hown i hi] at hb;exact .inl ⟨hi,hb⟩
  ·subst hi;rw[hnew] at hb;exact .inr ⟨rfl,(z0f hb).symm⟩
  ·rw[bI (by simp;omega)] at hb;cases hb
 refine⟨⟨⟨by simp[Env.more,hn],λi=> ?_,λi j b hij h1 h2=> ?_,λi b hb=> ?_,h.g.good.hv,h.g.good.gl⟩,λi b hb=> ?_,h.g.H,h.g.Ol,h.g.Fl⟩,h.s.env hle,h.d,λb o hb=> ?_,h.h⟩
 ·rcases z0r i m.length with hi|hi|hi
  ·have hr:=h.g.good.res i;rw[bD hi];have hi':i<J.n:=by omega
   cases hm:ak m i with
   |dead=>trivial
   |blk T' c'=>
    rw[hm] at hr;obtain⟨cs',h1,h2⟩:=hr;have hb:(J.more r undef).blk i=J.blk i:=by simp[Env.more,z0h hi']
    exact⟨cs',by rw[hb];exact h1,h2.mono c' hle⟩
   |vec T' wd l=>
    rw[hm] at hr;obtain⟨xs,h1,h2⟩:=hr;have hb:(J.more r undef).vv i=J.vv i:=by simp[Env.more,z0h hi']
    refine⟨xs,?_,λj hj=>(h2 j hj).mono _ hle⟩;rw[hb];exact h1
   |mp ek ev l=>
    rw[hm] at hr;obtain⟨es,cl,h1,h2⟩:=hr;have hb:(J.more r undef).blk i=J.blk i:=by simp[Env.more,z0h hi']
    exact⟨es,cl,by rw[hb];exact h1,h2⟩
  ·subst hi;rw[gU];have:(J.more r undef).blk m.length=r:=by simp[Env.more,hn]
   exact⟨cs,by rw[this];exact k1,hc.mono c hle⟩
  ·rw[bI (by simp;omega)];trivial
 ·rcases hcase i b h1 with⟨hi,h1'⟩|⟨hi,hb⟩<;>rcases hcase j b h2 with⟨hj,h2'⟩|⟨hj,hb2⟩
  ·exact h.g.good.jY i j b hij h1' h2'
  ·exact k4 i (hb2▸h1')
  ·exact k4 j (hb▸h2')
  ·omega
 ·rcases hcase i b hb with⟨_,h1⟩|⟨_,h1⟩
  ·exact h.g.good.sep i b h1
  ·subst h1;exact k3
 ·rcases hcase i b hb with⟨_,h1⟩|⟨_,h1⟩
  ·exact h.g.own i b h1
  ·subst h1;exact k2
 ·by_cases e:b=r
  ·rw[if_pos e] at hb;cases hb
  ·rw[if_neg e] at hb;obtain⟨j1,j2,j3,j4⟩:=h.x b o hb;refine⟨j1,j2,j3,λi hi=> ?_⟩;rcases hcase i b hi with⟨_,h1⟩|⟨_,h1⟩
   ·exact j4 i h1
   ·exact e h1
theorem adJ{r:Nat}{v:Value}(g:Good J m x.w):(J.more r v).blk m.length=r:=by simp[Env.more,g.n]
theorem TS.aside(h:TS F n d H0 X J τ m a x){i:Nat}{T:TypeId}{c:SV}(hm:ak m i= .blk T c):
  ∃ cs,ah c J cs/\TS F n d H0 (λb=>if b=J.blk i then some (.cells cs.toArray T (0,0)) else X b) J τ (m.set i .dead) a x:=by
 have hi:i<m.length:=jJ (by rw[hm];nofun)
 have hr:=h.g.good.res i;rw[hm] at hr;obtain⟨cs,h1,h2⟩:=hr;have hat:=oq (m:=m) (.dead:ay) hi;have hown:∀ j b,aS J j (ak (m.set i .dead) j)=some b->j≠i/\aS J j (ak m j)=some b:=by
  intro j b hb;rw[hat] at hb;split at hb
  ·cases hb
  ·rename_i e;exact⟨e,hb⟩
 have hown0:aS J i (ak m i)=some (J.blk i):=by rw[hm];rfl
 refine⟨cs,h2,⟨⟨by simp[h.g.good.n],λj=> ?_,λj k b hjk e1 e2=>h.g.good.jY j k b hjk (hown _ _ e1).2 (hown _ _ e2).2,λj b hb=>h.g.good.sep j b (hown _ _ hb).2,h.g.good.hv,h.g.good.gl⟩,λj b hb=>h.g.own j b (hown _ _ hb).2,h.g.H,h.g.Ol,h.g.Fl⟩,h.s,h.d,λb o hb=> ?_,h.h⟩
 ·rw[hat];split
  ·trivial
  ·exact h.g.good.res j
 ·by_cases e:b=J.blk i
  ·subst e;rw[if_pos rfl] at hb;cases hb;refine⟨h1,h.g.own i _ hown0,h.g.good.sep i _ hown0,λj hj=> ?_⟩;obtain⟨e1,e2⟩:=hown j _ hj;exact h.g.good.jY j i _ e1 e2 hown0
  ·rw[if_neg e] at hb;obtain⟨j1,j2,j3,j4⟩:=h.x b o hb;exact⟨j1,j2,j3,λj hj=>j4 j (hown _ _ hj).2⟩
theorem TS.sel(h:TS F n d H0 X J τ m a x)(is:List Nat)(hn:is.Nodup):TS F n d H0 X (kQ is J) (nM (fQ is) τ) (fJ is m) a x:=by
 have g:=h.inv.amO hn rfl;refine⟨g,?_,h.d,λb o hb=> ?_,h.h⟩
 ·obtain⟨σ,h1,h2⟩:=h.s;refine⟨dH (fQ is) σ,⟨by rw[iG];exact h1.1,λk=> ?_⟩,h2.ren (nN _ J)⟩
  rw[jU,lq];rcases h1.2 k with e|⟨e1,e2⟩
  ·left;rw[e];rfl
  ·exact .inr ⟨e1,by rw[e2]⟩
 ·obtain⟨j1,j2,j3,j4⟩:=h.x b o hb;refine⟨j1,j2,j3,λj hj=> ?_⟩;have hl:(fJ is m).length=is.length:=by simp[fJ]
  rcases z0n j is.length with h1|h1
  ·rw[rV h1,lX (J:=J) (J':=kQ is J) (i:=is.getD j 0) rfl rfl] at hj;exact j4 _ hj
  ·rw[bI (by omega)] at hj;cases hj
theorem TS.vec(h:TS F n d H0 X J τ m a x){T:TypeId}{w:Nat}{l:List SV}{v:Value}{xs:List Value}(ho:x.w.ownsRow 0 T w v l.length xs)(hl:∀ j,j<l.length->ah (l.getD j .junk) J (sub xs (j*w) w))
  (hb:∀ b,v.ownBlock=some b->x.O b/\J.H b=none/\X b=none/\∀ i,aS J i (ak m i)≠some b):
  TS F n d H0 X (J.more 0 v) τ (m++[.vec T w l]) a x:=by
 have hn:=h.g.good.n;have hle:=J.dS 0 v;have hvv:(J.more 0 v).vv m.length=v:=by simp[Env.more,hn]
 have hown:∀ i,i<m.length->aS (J.more 0 v) i (ak (m++[.vec T w l]) i)=aS J i (ak m i):=by
  intro i hi;rw[bD hi];have hi':i<J.n:=by omega
  cases ak m i<;>simp[aS,Env.more,z0h hi']
 have hcase:∀ i b,aS (J.more 0 v) i (ak (m++[.vec T w l]) i)=some b->(i<m.length/\aS J i (ak m i)=some b)\/(i=m.length/\v.ownBlock=some b):=by
  intro i b hb;rcases z0r i m.length with hi|hi|hi
  ·rw[hown i hi] at hb;exact .inl ⟨hi,hb⟩
  ·subst hi;rw[gU] at hb;simp only[aS,hvv] at hb;exact .inr ⟨rfl,hb⟩
  ·rw[bI (by simp;omega)] at hb;cases hb
 refine⟨⟨⟨by simp[Env.more,hn],λi=> ?_,λi j b hij h1 h2=> ?_,λi b hb'=> ?_,h.g.good.hv,h.g.good.gl⟩,λi b hb'=> ?_,h.g.H,h.g.Ol,h.g.Fl⟩,h.s.env hle,h.d,λb o hb'=> ?_,h.h⟩
 ·rcases z0r i m.length with hi|hi|hi
  ·have hr:=h.g.good.res i;rw[bD hi];have hi':i<J.n:=by omega
   cases hm:ak m i with
   |dead=>trivial
   |blk T' c'=>
    rw[hm] at hr;obtain⟨cs',h1,h2⟩:=hr;have e:(J.more 0 v).blk i=J.blk i:=by simp[Env.more,z0h hi']
    exact⟨cs',by rw[e];exact h1,h2.mono c' hle⟩
   |vec T' wd l'=>
    rw[hm] at hr;obtain⟨xs',h1,h2⟩:=hr;have e:(J.more 0 v).vv i=J.vv i:=by simp[Env.more,z0h hi']
    refine⟨xs',?_,λj hj=>(h2 j hj).mono _ hle⟩;rw[e];exact h1
   |mp ek ev l'=>
    rw[hm] at hr;obtain⟨es,cl,h1,h2⟩:=hr;have e:(J.more 0 v).blk i=J.blk i:=by simp[Env.more,z0h hi']
    exact⟨es,cl,by rw[e];exact h1,h2⟩
  ·subst hi;rw[gU];exact⟨xs,by rw[hvv];exact .of ho,λj hj=>(hl j hj).mono _ hle⟩
  ·rw[bI (by simp;omega)];trivial
 ·rcases hcase i b h1 with⟨hi,h1'⟩|⟨hi,hb1⟩<;>rcases hcase j b h2 with⟨hj,h2'⟩|⟨hj,hb2⟩
  ·exact h.g.good.jY i j b hij h1' h2'
  ·exact(hb b hb2).2.2.2 i h1'
  ·exact(hb b hb1).2.2.2 j h2'
  ·omega
 ·rcases hcase i b hb' with⟨_,h1⟩|⟨_,h1⟩
  ·exact h.g.good.sep i b h1
  ·exact(hb b h1).2.1
 ·rcases hcase i b hb' with⟨_,h1⟩|⟨_,h1⟩
  ·exact h.g.own i b h1
  ·exact(hb b h1).1
 ·obtain⟨j1,j2,j3,j4⟩:=h.x b o hb';refine⟨j1,j2,j3,λi hi=> ?_⟩;rcases hcase i b hi with⟨_,h1⟩|⟨_,h1⟩
  ·exact j4 i h1
  ·rw[(hb b h1).2.2.1] at hb';cases hb'
end
end Go.Sx
namespace Go.Sx
open Go Go.Conc
def Runs(n:Node)(g:Goroutine):Prop:= ∃ o,g= {n.g with status:= .running,offers:=o}
theorem Runs.status{n:Node}{g:Goroutine}(h:Runs n g):g.status= .running:=by obtain⟨o,rfl⟩:=h;rfl
theorem Runs.stepG{P:Program}{n:Node}{g:Goroutine}(h:Runs n g)(main:Bool)(w:World):stepG P main g w=Go.stepG P main n.g w:=by obtain⟨o,rfl⟩:=h;exact stepG_same rfl rfl rfl w
theorem Runs.frame{n:Node}{g:Goroutine}(h:Runs n g):g.frame=n.g.frame:=by obtain⟨o,rfl⟩:=h;rfl
theorem Runs.self{n:Node}(h:n.g.status= .running):Runs n n.g:=⟨n.g.offers,by obtain⟨m,S,g,x⟩:=n;obtain⟨f,c,s,d,o⟩:=g;simp only at h;subst h;rfl⟩
structure Core(P:Program)(F C:Nat->Prop)(O:Nat->Nat->Prop)(nodes:List Node)(gs:Array Goroutine)(w:World)(t:Trace):Prop where
 ap:Apart F C O w.heap.size
 ti:TI F C O w.heap.size t
 op:∀ op∈t,op.g<gs.size
 sz:nodes.length=gs.size
 new:∀ i b,O i b->i<gs.size
 nd:∀ i n,nodes[i]? =some n->n.main=(i==0)/\n.x.O=O i/\Rel (O i) F n.x.w w/\n.walks P F
section
variable {P:Program} {F C:Nat->Prop} {O:Nat->Nat->Prop} {nodes:List Node} {gs:Array Goroutine} {w:World} {t:Trace} {sl:Option (Nat×Nat)}
theorem Rel.at(O F:Nat->Prop)(w:World)(d:Nat):Rel O F w (w.at d):=⟨rfl,rfl,rfl,z0l _,λ_ _=>rfl⟩
theorem Core.at(h:Core P F C O nodes gs w t)(d:Nat):Core P F C O nodes gs (w.at d) t:=
 ⟨h.ap,h.ti,h.op,h.sz,h.new,λi n hn=>by obtain⟨h1,h2,h3,h4⟩:=h.nd i n hn;exact⟨h1,h2,h3.trans (Rel.at _ _ _ _),h4⟩⟩
theorem Core.own(h:Core P F C O nodes gs w t){i:Nat}{n:Node}{g:Goroutine}(hn:nodes[i]? =some n)(hg:gs[i]? =some g)(hr:Runs n g)(hst:¬ n.stopped F):
  ∃ g' w' es n',runT P (crowd gs w sl) i=(.next (crowd ((gs.map (woken P g g' w')).setIfInBounds i g') w' sl),MemOp.ofEvents i g.frame.fn g.frame.place es)/\n'.g=g'/\n'.S=n.S/\Child P F n' n/\
   (∀ b,C b->w'.heap[b]? =w.heap[b]?)/\w.heap.size<=w'.heap.size/\
   Core P F C (EF O i w.heap.size w'.heap.size) (nodes.set i n') ((gs.map (woken P g g' w')).setIfInBounds i g') w' (t++MemOp.ofEvents i g.frame.fn g.frame.place es):=by
 obtain⟨hm,hO,hrel,hw⟩:=h.nd i n hn;have hil:i<nodes.length:=(z00.1 hn).1;have hig:i<gs.size:=by rw[<- h.sz];exact hil
 rcases hw.next (w1:=w) (hO▸hrel) with hs|⟨g',w',es,hrun,hstep,EY,hwalk,hch⟩
 ·exact absurd hs hst
 rw[hO] at EY hwalk hch;rw[hm] at hstep hwalk hch;have WV:stepG P (i==0) g w= .go g' w' es:=by rw[hr.stepG];exact hstep
 refine⟨g',w',es,⟨i==0,n.S,g',OW.next (O i) w w'⟩,runT_crowd_go hg WV,rfl,rfl,hch,λb hb=>EY.heap b (h.ap.Cl b hb).1 λho=>(h.ap.Ol i b ho).2.2 hb,EY.size,?_⟩
 refine⟨h.ap.grow EY.size,h.ti.step h.ap EY.size EY.evs,λop hop=> ?_,by simp[h.sz],λj b hb=> ?_,λj n' hj=> ?_⟩
 ·simp only[z0q,z1e];rcases z0x.1 hop with hop|hop
  ·exact h.op op hop
  ·rw[ofEvents_eq] at hop;obtain⟨e,_,rfl⟩:=z0w.1 hop;exact hig
 ·simp only[z0q,z1e];rcases hb with hb|⟨rfl,_⟩
  ·exact h.new j b hb
  ·exact hig
 ·rw[z03] at hj;by_cases hij:i=j
  ·subst hij;rw[if_pos rfl,if_pos hil] at hj;cases hj;refine⟨rfl,(Td O i w w').symm,?_,hwalk⟩;rw[Td];exact Rel.refl _ _ _
  ·rw[if_neg hij] at hj;obtain⟨k1,k2,k3,k4⟩:=h.nd j n' hj;rw[agb O (Ne.symm hij)];refine⟨k1,k2,k3.trans ⟨EY.os,EY.tape,EY.output,EY.size,λb hb=> ?_⟩,k4⟩;rcases hb with hb|hb
   ·exact EY.heap b (h.ap.Ol j b hb).1 λho=>hij (h.ap.two i j b ho hb)
   ·exact EY.heap b (h.ap.Fl b hb) λho=>(h.ap.Ol i b ho).2.1 hb
theorem Core.stand(h:Core P F C O nodes gs w t){gs':Array Goroutine}(hs:gs'.size=gs.size):Core P F C O nodes gs' w t:=
 ⟨h.ap,h.ti,by rw[hs];exact h.op,by rw[hs];exact h.sz,by rw[hs];exact h.new,h.nd⟩
structure Turns(C:Nat->Prop)(w w':World):Prop where
 os:w'.os=w.os
 tape:w'.tape=w.tape
 output:w'.output=w.output
 size:w'.heap.size=w.heap.size
 heap:∀ b,¬ C b->w'.heap[b]? =w.heap[b]?
theorem Turns.refl(C:Nat->Prop)(w:World):Turns C w w:=⟨rfl,rfl,rfl,rfl,λ_ _=>rfl⟩
theorem Turns.set(w:World){c:Nat}(hc:C c)(cap:Nat)(buf:Array Value)(cl:Bool)(s r:Nat)(tm:Bool):Turns C w (w.setChan c cap buf cl s r tm):=
 ⟨rfl,rfl,rfl,by simp[z0c],λb hb=>by have:c≠b:=λe=>hb (e▸hc);simp[z0c,z02 this]⟩
theorem Turns.rel{w':World}(h:Turns C w w')(ap:Apart F C O w.heap.size)(i:Nat):Rel (O i) F w w':=
 ⟨h.os,h.tape,h.output,by rw[h.size];exact z0l _,λb hb=>h.heap b λhc=>hb.elim (λhb=>(ap.Ol i b hb).2.2 hc) λhb=>(ap.Cl b hc).2 hb⟩
theorem Core.talk(h:Core P F C O nodes gs w t){O':Nat->Nat->Prop}{w':World}(hw:Turns C w w'){gs':Array Goroutine}(hs:gs'.size=gs.size){u:Trace}(hu:TI F C O w.heap.size (t++u))(hug:∀ op∈u,op.g<gs.size)
  (hO:∀ i b,O' i b->O i b\/∀ k a,touchAt (t++u) k=some a->Loc.bk a.loc=some b->Knows (t++u) i k) (ap:Apart F C O' w.heap.size) (hnew:∀ i b,O' i b->i<gs.size) {nodes':List Node} (hsz:nodes'.length=nodes.length)
  (hn:∀ i n,nodes'[i]? =some n->(nodes[i]? =some n/\O' i=O i)\/(n.main=(i==0)/\n.x.O=O' i/\Rel (O' i) F n.x.w w'/\n.walks P F)):Core P F C O' nodes' gs' w' (t++u):=by
 refine⟨by rw[hw.size];exact ap,by rw[hw.size];exact hu.give hO,λop hop=> ?_,by rw[hsz,hs];exact h.sz,by rw[hs];exact hnew,λi n hi=> ?_⟩
 ·rw[hs];exact(z0x.1 hop).elim (h.op op) (hug op)
 ·rcases hn i n hi with⟨h1,h2⟩|h1
  ·obtain⟨k1,k2,k3,k4⟩:=h.nd i n h1;rw[h2];exact⟨k1,k2,k3.trans (hw.rel h.ap i),k4⟩
  ·exact h1
theorem Core.chan(h:Core P F C O nodes gs w t)(o:Obj){gs':Array Goroutine}(hs:gs'.size=gs.size){i:Nat}{n':Node}(h1:n'.main=(i==0))(h2:n'.x.O=O i)(h3:Rel (O i) F n'.x.w (w.alloc o))(h4:n'.walks P F):
  Core P F (λb=>C b\/b=w.heap.size) O (nodes.set i n') gs' (w.alloc o) t:=by
 have hsz:(w.alloc o).heap.size=w.heap.size+1:=by simp
 have hr:∀ j,Rel (O j) F w (w.alloc o):=λj=>⟨rfl,rfl,rfl,by rw[hsz];omega,λb hb=>Go.RowKit.Below.heap_alloc w o b (hb.elim (λhb=>(h.ap.Ol j b hb).1) (h.ap.Fl b))⟩
 refine⟨by rw[hsz];exact h.ap.mk1,by rw[hsz];exact h.ti.chan,by rw[hs];exact h.op,by rw[hs,z0i];exact h.sz,by rw[hs];exact h.new,λj n hj=> ?_⟩
 rw[z03] at hj;by_cases hij:i=j
 ·subst hij;rw[if_pos rfl] at hj;split at hj
  ·cases hj;exact⟨h1,h2,h3,h4⟩
  ·cases hj
 ·rw[if_neg hij] at hj;obtain⟨k1,k2,k3,k4⟩:=h.nd j n hj;exact⟨k1,k2,k3.trans (hr j),k4⟩
theorem Core.born(h:Core P F C O nodes gs w t){gs':Array Goroutine}(hs:gs'.size=gs.size+1)(h0:0<gs.size){n' nc:Node}(h1:n'.main=true)(h2:n'.x.O=O 0)(h3:Rel (O 0) F n'.x.w w)(h4:n'.walks P F)
  (c1:nc.main=false) (c2:nc.x.O=λ_=>False) (c3:Rel (λ_=>False) F nc.x.w w) (c4:nc.walks P F) {u:Trace} (hw:Wordless u) (hu:∀ op∈u,op.act.touch? =none) (hg:∀ op∈u,op.g<gs.size+1):
  Core P F C O (nodes.set 0 n'++[nc]) gs' w (t++u):=by
 have hO:O gs.size=λ_=>False:=by
  funext b
  exact propext ⟨λhb=>by have:=h.new _ b hb;omega,False.elim⟩
 refine⟨h.ap,h.ti.quiet hw hu,λop hop=> ?_,by simp[hs,h.sz],λi b hb=>by rw[hs];have:=h.new i b hb;omega,λi n hi=> ?_⟩
 ·rw[hs];rcases z0x.1 hop with hop|hop
  ·have:=h.op op hop;omega
  ·exact hg op hop
 ·rcases z0n i nodes.length with hil|hil
  ·rw[z08 (by simpa using hil),z03] at hi
   by_cases e:0=i
   ·subst e;rw[if_pos rfl,if_pos hil] at hi;cases hi;exact⟨h1,h2,h3,h4⟩
   ·rw[if_neg e] at hi;exact h.nd i n hi
  ·rw[z0e (by simpa using hil)] at hi
   have hi0:i=nodes.length:=by rw[z0i] at hi;have:=(z00.1 hi).1;simp at this;omega
   subst hi0;simp only[z0i,Nat.sub_self,z0u,z0a] at hi;subst hi;rw[h.sz,hO];have:(gs.size==0)=false:=beq_eq_false_iff_ne.2 (by omega)
   exact⟨by rw[c1,this],c2,c3,c4⟩
end
end Go.Sx
namespace Go.Sx
open Go Go.Conc
def sK(j:Nat):List fB->List Value
 |[]=>[]
 | .send i v::r=>if i=j then v::sK j r else sK j r
 |_::r=>sK j r
def WF(Φ:Gl)(cap:Nat):Nat->Nat->Nat->List fB->Prop
 |c,k,r,[]=>k=Φ.n/\r=Φ.n
 |c,k,r, .mk cap'::l=>((c=0/\cap'=0)\/(c=k+1/\cap'=cap))/\WF Φ cap (c+1) k r l
 |c,k,r, .go j::l=>(j=k/\c=k+2/\k<Φ.n/\fB.close j∈l/\sK j l=Φ.msgs j/\(Φ.msgs j).length<=cap)/\WF Φ cap c (k+1) r l
 |c,k,r, .send j v::l=>(j<k/\fB.close j∈l)/\WF Φ cap c k r l
 |c,k,r, .close j::l=>(j<k/\fB.close j∉l/\sK j l=[])/\WF Φ cap c k r l
 |c,k,r, .recv::l=>(k=Φ.n/\r<Φ.n/\∀ j,fB.close j∉l)/\WF Φ cap c k (r+1) l
inductive CG where
 |hears (l:List Value)
 |tells
 |gone (q:Nat)
def wtA(Φ:Gl):List fB->Nat
 |[]=>0
 | .go j::l=>4+(Φ.msgs j).length+wtA Φ l
 |_::l=>1+wtA Φ l
def CG.wt:CG->Nat
 | .hears l=>l.length+2
 | .tells=>1
 | .gone _=>0
def CG.q:CG->Nat
 | .gone q=>q
 |_=>0
def kV(P:Program)(F:Nat->Prop)(c:Nat)(n:Node)(g:Goroutine):Prop:=
 n.stopped F/\n.g.status= .running/\∃ z sh,g=parked n.g #[rcase c z] sh/\∀ w,stepG P n.main n.g w= .comm n.g #[rcase c z] true sh w #[]
def zn(P:Program)(F:Nat->Prop)(c:Nat)(v:Value)(n:Node)(g:Goroutine):Prop:=
 n.stopped F/\n.g.status= .running/\∃ z sh,g=parked n.g #[scase c v z] sh/\∀ w,stepG P n.main n.g w= .comm n.g #[scase c v z] true sh w #[]
structure FSt where
 acts:List fB
 cs:List Nat
 got:List Nat
 hs:List CG
 O:Nat->Nat->Prop
 nodes:List Node
section
variable (P:Program) (F:Nat->Prop) (Φ:Gl) (cap:Nat) (End:List Nat->Goroutine->OW->Prop)
structure anO(s:FSt)(n:Node)(g:Goroutine):Prop where
 Vk:n.S=aQ P F Φ End s.acts s.cs s.got
 st:Runs n g\/(∃ l c,s.acts= .recv::l/\s.cs[0]? =some c/\kV P F c n g)
def xI(s:FSt)(w:World)(t:Trace)(j:Nat)(n:Node)(g:Goroutine):Prop:=
 ∃ cin cout buf cl sn rc,s.cs[j+1]? =some cin/\s.cs[0]? =some cout/\w.heap[cin]? =some (.chan cap buf cl sn rc false)/\(cl=true↔fB.close j∉s.acts)/\
  match s.hs[j]? with
  |some (.hears l)=>l=buf.toList++sK j s.acts/\l.length<=cap/\n.S=fV P F Φ cin cout j l/\(Runs n g\/(buf= #[]/\cl=false/\kV P F cin n g))
  |some .tells=>cl=true/\n.S=rQ P Φ cout j/\(Runs n g\/∃ v,zn P F cout v n g)
  |some (.gone q)=>cl=true/\QuitsIn P q g/\∀ k op,t[k]? =some op->op.g=j+1->op.act.touch? ≠none->Knows t 0 k
  |none=>False
structure FM(s:FSt)(gs:Array Goroutine)(w:World)(t:Trace):Prop where
 core:Core P F (λb=>b∈s.cs) s.O s.nodes gs w t
 nd:s.cs.Nodup
 wf:WF Φ cap s.cs.length s.hs.length s.got.length s.acts
 size:gs.size=s.hs.length+1
 back:∀ c,s.cs[0]? =some c->∃ sn,w.heap[c]? =some (.chan 0 #[] false sn sn false)
 next:∀ c,s.cs[s.hs.length+1]? =some c->w.heap[c]? =some (.chan cap #[] false 0 0 false)
 main:∀ n g,s.nodes[0]? =some n->gs[0]? =some g->anO P F Φ End s n g
 hand:∀ j n g,s.nodes[j+1]? =some n->gs[j+1]? =some g->xI P F Φ cap s w t j n g
 got:s.got.Nodup/\∀ j,j∈s.got↔∃ q,s.hs[j]? =some (.gone q)
 one:∀ c n g,s.cs[0]? =some c->s.nodes[0]? =some n->gs[0]? =some g->kV P F c n g->∀ j n' g' v,s.nodes[j+1]? =some n'->gs[j+1]? =some g'->¬ zn P F c v n' g'
end
section
variable {P:Program} {F:Nat->Prop} {Φ:Gl} {cap:Nat} {End:List Nat->Goroutine->OW->Prop} {s:FSt} {gs:Array Goroutine} {w:World} {t:Trace}
theorem FM.at(h:FM P F Φ cap End s gs w t)(d:Nat):FM P F Φ cap End s gs (w.at d) t:=
 ⟨h.core.at d,h.nd,h.wf,h.size,h.back,h.next,h.main,h.hand,h.got,h.one⟩
theorem kV.blocked{c:Nat}{n:Node}{g:Goroutine}(h:kV P F c n g):g.status= .blocked:=by obtain⟨_,_,z,sh,rfl,_⟩:=h;rfl
theorem zn.blocked{c:Nat}{v:Value}{n:Node}{g:Goroutine}(h:zn P F c v n g):g.status= .blocked:=by obtain⟨_,_,z,sh,rfl,_⟩:=h;rfl
theorem FM.awake(h:FM P F Φ cap End s gs w t):∀ g∈gs,awake g:=by
 intro g hg;obtain⟨i,hi,rfl⟩:=Array.mem_iff_getElem.1 hg;have hgi:gs[i]? =some gs[i]:=z0g hi;have hn:s.nodes[i]? =some (s.nodes[i]'(by rw[h.core.sz];exact hi)):=z04 _
 cases i with
 |zero=>
  rcases(h.main _ _ hn hgi).st with hr|⟨_,_,_,_,hp⟩
  ·exact awake_of (.inl hr.status)
  ·exact awake_of (.inr (.inl hp.blocked))
 |succ j=>
  obtain⟨cin,cout,buf,cl,sn,rc,_,_,_,_,hm⟩:=h.hand j _ _ hn hgi;split at hm
  ·rcases hm.2.2.2 with hr|⟨_,_,hp⟩
   ·exact awake_of (.inl hr.status)
   ·exact awake_of (.inr (.inl hp.blocked))
  ·rcases hm.2.2 with hr|⟨_,hp⟩
   ·exact awake_of (.inl hr.status)
   ·exact awake_of (.inr (.inl hp.blocked))
  ·exact awake_of (hm.2.1.status.elim .inl λh=> .inr (.inr h))
  ·exact hm.elim
theorem IX:∀ (n:Nat) (l:List Nat),(∀ j,j<n->j∈l)->n<=l.length
 |0,_,_=>z16 _
 |n+1,l,h=>by
  have hn:=h n (by omega)
  have h1:=IX n (l.erase n) λj hj=>(List.mem_erase_of_ne (by omega)).2 (h j (by omega))
  rw[List.length_erase_of_mem hn] at h1;have:0<l.length:=List.length_pos_of_mem hn;omega
theorem FM.someone(h:FM P F Φ cap End s gs w t):∃ (i:Nat) (g:Goroutine),gs[i]? =some g/\g.status= .running:=by
 have h0:0<gs.size:=by rw[h.size];omega
 have hg0:gs[0]? =some gs[0]:=z0g h0;have hn0:s.nodes[0]? =some (s.nodes[0]'(by rw[h.core.sz];exact h0)):=z04 _
 rcases(h.main _ _ hn0 hg0).st with hr|⟨l,c,ha,hc,hp⟩
 ·exact⟨0,_,hg0,hr.status⟩
 have hwf:=h.wf;rw[ha] at hwf;obtain⟨⟨hk,hlt,hcl⟩,_⟩:=hwf;have hex:∃ j,j<s.hs.length/\j∉s.got:=by refine z0y λhno=> ?_;have:=IX s.hs.length s.got λj hj=>z0y λhj'=>hno ⟨j,hj,hj'⟩;omega
 obtain⟨j,hj,hjg⟩:=hex;have hjs:j+1<gs.size:=by rw[h.size];omega
 have hgj:gs[j+1]? =some gs[j+1]:=z0g hjs;have Rw:s.nodes[j+1]? =some (s.nodes[j+1]'(by rw[h.core.sz];exact hjs)):=z04 _
 have hshut:fB.close j∉s.acts:=by
  rw[ha];intro hm;rcases z0d.1 hm with hm|hm
  ·cases hm
  ·exact hcl j hm
 obtain⟨cin,cout,buf,cl,sn,rc,h1,h2,h3,h4,hm⟩:=h.hand j _ _ Rw hgj;have arW:=h4.2 hshut;split at hm
 ·rcases hm.2.2.2 with hr|⟨_,hcf,_⟩
  ·exact⟨_,_,hgj,hr.status⟩
  ·rw[arW] at hcf;cases hcf
 ·rcases hm.2.2 with hr|⟨v,hp'⟩
  ·exact⟨_,_,hgj,hr.status⟩
  ·rw[h2] at hc;cases hc;exact absurd hp' (h.one _ _ _ h2 hn0 hg0 hp j _ _ v Rw hgj)
 ·rename_i q hq;exact absurd ((h.got.2 j).2 ⟨q,hq⟩) hjg
 ·exact hm.elim
theorem xI.frame{j:Nat}{n:Node}{g:Goroutine}(h:xI P F Φ cap s w t j n g){s':FSt}{w':World}{u:Trace}(hf:sK j s'.acts=sK j s.acts)(hcl:fB.close j∈s'.acts↔fB.close j∈s.acts)(hh:s'.hs[j]? =s.hs[j]?)
  (hc1:∀ c,s.cs[j+1]? =some c->s'.cs[j+1]? =some c) (hc0:∀ c,s.cs[0]? =some c->s'.cs[0]? =some c) (hw:∀ c,s.cs[j+1]? =some c->w'.heap[c]? =w.heap[c]?) (hu:∀ op∈u,op.g=j+1->op.act.touch? =none):xI P F Φ cap s' w' (t++u) j n g:=by
 obtain⟨cin,cout,buf,cl,sn,rc,h1,h2,h3,h4,hm⟩:=h;refine⟨cin,cout,buf,cl,sn,rc,hc1 _ h1,hc0 _ h2,by rw[hw _ h1];exact h3,by rw[h4,hcl],?_⟩
 rw[hh,hf];split at hm
 ·exact hm
 ·exact hm
 ·refine⟨hm.1,hm.2.1,λk op hk hg ht=> ?_⟩;rcases getElem?_append_cases hk with⟨_,hk'⟩|⟨_,hku⟩
  ·exact(hm.2.2 k op hk' hg ht).app u
  ·exact absurd (hu op hku hg) ht
 ·exact hm
theorem FM.still(h:FM P F Φ cap End s gs w t){w':World}(hw:∀ b,b∈s.cs->w'.heap[b]? =w.heap[b]?)(x x':Goroutine):gs.map (woken P x x' w')=gs:=by
 apply z19;intro i;rw[z18];cases hgi:gs[i]? with
 |none=>rfl
 |some g=>
  simp only[z1a,z0a];have hi:i<gs.size:=(z01.1 hgi).1;have hn:s.nodes[i]? =some (s.nodes[i]'(by rw[h.core.sz];exact hi)):=z04 _
  have mem:∀ {k c:Nat},s.cs[k]? =some c->c∈s.cs:=λhk=>z06 hk;cases i with
  |zero=>
   rcases(h.main _ _ hn hgi).st with hr|⟨l,c,_,hc,hp⟩
   ·exact woken_running hr.status
   ·obtain⟨sn,hb⟩:=h.back c hc;obtain⟨_,_,z,sh,rfl,_⟩:=hp;exact woken_recv_open x x' (by rw[hw c (mem hc)];exact hb)
  |succ j=>
   obtain⟨cin,cout,buf,cl,sn,rc,h1,h2,h3,h4,hm⟩:=h.hand j _ _ hn hgi;split at hm
   ·rcases hm.2.2.2 with hr|⟨hb,hf,hp⟩
    ·exact woken_running hr.status
    ·obtain⟨_,_,z,sh,rfl,_⟩:=hp;subst hf;exact woken_recv_open x x' (by rw[hw cin (mem h1)];exact h3)
   ·rcases hm.2.2 with hr|⟨v,hp⟩
    ·exact woken_running hr.status
    ·obtain⟨sn',hb⟩:=h.back cout h2;obtain⟨_,_,z,sh,rfl,_⟩:=hp;exact woken_send_open x x' (by rw[hw cout (mem h2)];exact hb)
   ·exact woken_quits hm.2.1
   ·exact hm.elim
theorem nS{n:Node}(hw:n.walks P F)(hS:∀ g x,n.S g x->g.status= .running):n.g.status= .running:=by
 cases hw with
 |stop h=>exact hS _ _ (h _ (Rel.refl _ _ _))
 |step nx wx ex hs h1 h2=>exact hs
theorem ofEvents_g{i:Nat}{fn:FuncId}{pos:String}{es:Array Event}:∀ op∈MemOp.ofEvents i fn pos es,op.g=i:=λop hop=>by rw[ofEvents_eq] at hop;obtain⟨e,_,rfl⟩:=z0w.1 hop;rfl
theorem FM.own(h:FM P F Φ cap End s gs w t){sl:Option (Nat×Nat)}{i:Nat}{n:Node}{g:Goroutine}(hn:s.nodes[i]? =some n)(hg:gs[i]? =some g)(hr:Runs n g)(hst:¬ n.stopped F)(hS:∀ g x,n.S g x->g.status= .running)
  (hng:∀ j q,i=j+1->s.hs[j]? ≠some (.gone q)):
  ∃ g' w' n' O' ops,runT P (crowd gs w sl) i=(.next (crowd (gs.setIfInBounds i g') w' sl),ops)/\g'.status= .running/\Child P F n' n/\FM P F Φ cap End {s with O:=O',nodes:=s.nodes.set i n'} (gs.setIfInBounds i g') w' (t++ops):=by
 have hig:i<gs.size:=(z01.1 hg).1;have hin:i<s.nodes.length:=(z00.1 hn).1;obtain⟨g',w',es,n',h1,h2,h3,h4,h5,h6,h7⟩:=h.core.own (sl:=sl) hn hg hr hst;rw[h.still h5] at h1 h7;have hn':(s.nodes.set i n')[i]? =some n':=by simp[hin]
 have hrun:g'.status= .running:=by rw[<- h2];exact nS (h7.nd i n' hn').2.2.2 (by rw[h3];exact hS)
 have ae':Runs n' g':=by rw[<- h2];exact Runs.self (by rw[h2];exact hrun)
 have mem:∀ {k c:Nat},s.cs[k]? =some c->c∈s.cs:=λhk=>z06 hk;have Vg:∀ k m,(s.nodes.set i n')[k]? =some m->(k=i/\m=n')\/(k≠i/\s.nodes[k]? =some m):=by
  intro k m hk;rw[z03] at hk;by_cases e:i=k
  ·subst e;rw[if_pos rfl,if_pos hin] at hk;exact .inl ⟨rfl,(z0f hk).symm⟩
  ·rw[if_neg e] at hk;exact .inr ⟨λx=>e x.symm,hk⟩
 have MR:∀ k x,(gs.setIfInBounds i g')[k]? =some x->(k=i/\x=g')\/(k≠i/\gs[k]? =some x):=by
  intro k x hk;by_cases e:i=k
  ·subst e;rw[z05 hig] at hk;exact .inl ⟨rfl,(z0f hk).symm⟩
  ·rw[z02 e] at hk;exact .inr ⟨λx=>e x.symm,hk⟩
 refine⟨g',w',n',_,_,h1,hrun,h4,h7,h.nd,h.wf,by simp[h.size],λc hc=> ?_,λc hc=> ?_,λm x hm hx=> ?_,λj m x hm hx=> ?_,h.got,λc m x hc hm hx hp j m' x' v hm' hx' hps=> ?_⟩
 ·rw[h5 c (mem hc)];exact h.back c hc
 ·rw[h5 c (mem hc)];exact h.next c hc
 ·rcases Vg _ _ hm with⟨e,rfl⟩|⟨e,hm⟩<;>rcases MR _ _ hx with⟨e',rfl⟩|⟨e',hx⟩
  ·subst e;exact⟨h3.trans (h.main n g hn hg).Vk, .inl ae'⟩
  ·exact absurd e e'
  ·exact absurd e' e
  ·have:=h.main m x hm hx;exact⟨this.Vk,this.st⟩
 ·rcases Vg _ _ hm with⟨e,rfl⟩|⟨e,hm⟩<;>rcases MR _ _ hx with⟨e',rfl⟩|⟨e',hx⟩
  ·subst e;obtain⟨cin,cout,buf,cl,sn,rc,k1,k2,k3,k4,km⟩:=h.hand j n g hn hg;refine⟨cin,cout,buf,cl,sn,rc,k1,k2,by rw[h5 cin (mem k1)];exact k3,k4,?_⟩
   split at km
   ·rename_i l hl;simp only[hl];exact⟨km.1,km.2.1,h3.trans km.2.2.1, .inl ae'⟩
   ·rename_i hl;simp only[hl];exact⟨km.1,h3.trans km.2.1, .inl ae'⟩
   ·rename_i q hq;exact absurd hq (hng j q rfl)
   ·exact km.elim
  ·exact absurd e e'
  ·exact absurd e' e
  ·exact(h.hand j m x hm hx).frame rfl Iff.rfl rfl (λ_ h=>h) (λ_ h=>h) (λc hc=>h5 c (mem hc)) λop hop aeT=>absurd ((ofEvents_g op hop).symm.trans aeT) (λe'=>e e'.symm)
 ·rcases MR _ _ hx with⟨e,rfl⟩|⟨e,hx⟩
  ·rw[hp.blocked] at hrun;cases hrun
  ·rcases MR _ _ hx' with⟨e',rfl⟩|⟨e',hx'⟩
   ·rw[hps.blocked] at hrun;cases hrun
   ·rcases Vg _ _ hm with⟨e1,_⟩|⟨_,hm⟩
    ·exact e e1
    ·rcases Vg _ _ hm' with⟨e2,_⟩|⟨_,hm'⟩
     ·exact e' e2
     ·exact h.one c m x hc hm hx hp j m' x' v hm' hx' hps
theorem nb{x:Goroutine}(h:x.status= .running\/x.status= .finished):x.status≠ .blocked:=by rcases h with e|e<;>rw[e]<;>nofun
theorem FM.offers(h:FM P F Φ cap End s gs w t){k:Nat}{x:Goroutine}(hx:gs[k]? =some x):(x.status= .running\/x.status= .finished)\/(k=0/\∃ n c,s.nodes[0]? =some n/\s.cs[0]? =some c/\kV P F c n x)\/
  ∃ j n cin cout,k=j+1/\s.nodes[j+1]? =some n/\s.cs[j+1]? =some cin/\s.cs[0]? =some cout/\(kV P F cin n x\/∃ v,s.hs[j]? =some .tells/\zn P F cout v n x):=by
 have hi:k<gs.size:=(z01.1 hx).1;have hn:s.nodes[k]? =some (s.nodes[k]'(by rw[h.core.sz];exact hi)):=z04 _
 cases k with
 |zero=>
  rcases(h.main _ _ hn hx).st with hr|⟨l,c,_,hc,hp⟩
  ·left;exact .inl hr.status
  ·exact .inr (.inl ⟨rfl,_,c,hn,hc,hp⟩)
 |succ j=>
  obtain⟨cin,cout,buf,cl,sn,rc,h1,h2,h3,h4,hm⟩:=h.hand j _ _ hn hx;split at hm
  ·rcases hm.2.2.2 with hr|⟨_,_,hp⟩
   ·left;exact .inl hr.status
   ·exact .inr (.inr ⟨j,_,cin,cout,rfl,hn,h1,h2, .inl hp⟩)
  ·rename_i hl;rcases hm.2.2 with hr|⟨v,hp⟩
   ·left;exact .inl hr.status
   ·exact .inr (.inr ⟨j,_,cin,cout,rfl,hn,h1,h2, .inr ⟨v,hl,hp⟩⟩)
  ·left;exact hm.2.1.status
  ·exact hm.elim
theorem FM.noSend(h:FM P F Φ cap End s gs w t){c:Nat}(hc:s.cs[0]? ≠some c)(i:Nat):partners (gs.setIfInBounds i ph) c true=[]:=by
 refine partners_nil λk x hx=> ?_;rcases getElem?_stand gs i k x hx with⟨_,rfl⟩|⟨_,hx⟩
 ·exact offersAt_ph _ _
 rcases h.offers hx with hb|⟨_,n,c',_,_,_,_,z,sh,rfl,_⟩|⟨j,n,cin,cout,_,_,_,h2,⟨_,_,z,sh,rfl,_⟩|⟨v,_,_,_,z,sh,rfl,_⟩⟩
 ·exact offersAt_of_not_blocked (nb hb) _ _
 ·exact offersAt_parked_recv' ..
 ·exact offersAt_parked_recv' ..
 ·rw[offersAt_parked_send,if_neg];intro e;subst e;exact hc h2
theorem yN{j:Nat}:∀ {acts:List fB} {c k r:Nat},WF Φ cap c k r acts->j<k->fB.close j∉acts->sK j acts=[]
 |[],_,_,_,_,_,_=>rfl
 | .mk _::l,_,_,_,h,hj,hc=>yN (acts:=l) h.2 hj λhm=>hc (z07 _ hm)
 | .go _::l,_,_,_,h,hj,hc=>yN (acts:=l) h.2 (by omega) λhm=>hc (z07 _ hm)
 | .send i v::l,_,_,_,h,hj,hc=>by
  have hne:i≠j:=λe=>hc (z07 _ (e▸h.1.2));rw[sK,if_neg hne];exact yN (acts:=l) h.2 hj λhm=>hc (z07 _ hm)
 | .close _::l,_,_,_,h,hj,hc=>yN (acts:=l) h.2 hj λhm=>hc (z07 _ hm)
 | .recv::l,_,_,_,h,hj,hc=>yN (acts:=l) h.2 hj λhm=>hc (z07 _ hm)
theorem iJ{α:Type _}{l:List α}{i k:Nat}{a m:α}(hi:i<l.length)(hk:(l.set i a)[k]? =some m):(k=i/\m=a)\/(k≠i/\l[k]? =some m):=by
 rw[z03] at hk;by_cases e:i=k
 ·subst e;rw[if_pos rfl,if_pos hi] at hk;exact .inl ⟨rfl,(z0f hk).symm⟩
 ·rw[if_neg e] at hk;exact .inr ⟨λx=>e x.symm,hk⟩
theorem dN{gs:Array Goroutine}{i k:Nat}{a x:Goroutine}(hi:i<gs.size)(hk:(gs.setIfInBounds i a)[k]? =some x):(k=i/\x=a)\/(k≠i/\gs[k]? =some x):=by
 by_cases e:i=k
 ·subst e;rw[z05 hi] at hk;exact .inl ⟨rfl,(z0f hk).symm⟩
 ·rw[z02 e] at hk;exact .inr ⟨λx=>e x.symm,hk⟩
theorem FM.turn(h:FM P F Φ cap End s gs w t){j:Nat}{n n':Node}{g g':Goroutine}{st':CG}{w':World}{u:Trace}{cin:Nat}(hn:s.nodes[j+1]? =some n)(hg:gs[j+1]? =some g)(hcin:s.cs[j+1]? =some cin)
  (hst:∀ q,s.hs[j]? ≠some (.gone q)) (hst':∀ q,st'≠ .gone q) (hjl:j<s.hs.length) (hw:Turns (λb=>b∈s.cs) w w') (hwc:∀ c,c≠cin->w'.heap[c]? =w.heap[c]?)
  (hu:Wordless u) (hut:∀ op∈u,op.act.touch? =none) (hug:∀ op∈u,op.g<gs.size)
  (n1:n'.main=false) (n2:n'.x.O=s.O (j+1)) (n3:Rel (s.O (j+1)) F n'.x.w w') (n4:n'.walks P F)
  (hok:xI P F Φ cap {s with hs:=s.hs.set j st',nodes:=s.nodes.set (j+1) n'} w' (t++u) j n' g')
  (hone:∀ c n0 g0 v,s.cs[0]? =some c->s.nodes[0]? =some n0->gs[0]? =some g0->kV P F c n0 g0->¬ zn P F c v n' g'):
  FM P F Φ cap End {s with hs:=s.hs.set j st',nodes:=s.nodes.set (j+1) n'} (gs.setIfInBounds (j+1) g') w' (t++u):=by
 have hig:j+1<gs.size:=(z01.1 hg).1;have hin:j+1<s.nodes.length:=(z00.1 hn).1;have hne:∀ k c,k≠j+1->s.cs[k]? =some c->c≠cin:=by intro k c hk hc e;subst e;have h1:=(z00.1 hc);have h2:=(z00.1 hcin);exact hk ((z0t h.nd).1 (h1.2.trans h2.2.symm))
 have hcore:Core P F (λb=>b∈s.cs) s.O (s.nodes.set (j+1) n') (gs.setIfInBounds (j+1) g') w' (t++u):=by
  refine h.core.talk hw (by simp) (h.core.ti.quiet hu hut) hug (λi b hb=> .inl hb) h.core.ap h.core.new (by simp) λi m hm=> ?_
  rcases iJ hin hm with⟨rfl,rfl⟩|⟨_,hm⟩
  ·exact .inr ⟨n1,n2,n3,n4⟩
  ·exact .inl ⟨hm,rfl⟩
 refine⟨hcore,h.nd,by simpa using h.wf,by simp[h.size],λc hc=> ?_,λc hc=> ?_,λm x hm hx=> ?_,λi m x hm hx=> ?_,⟨h.got.1,λi=> ?_⟩,λc m x hc hm hx hp i m' x' v hm' hx' hps=> ?_⟩
 ·rw[hwc c (hne 0 c (by omega) hc)];exact h.back c hc
 ·simp only[z0i] at hc;rw[hwc c (hne _ c (by omega) hc)];exact h.next c hc
 ·rcases iJ hin hm with⟨e,_⟩|⟨_,hm⟩
  ·omega
  ·rcases dN hig hx with⟨e,_⟩|⟨_,hx⟩
   ·omega
   ·have:=h.main m x hm hx;exact⟨this.Vk,this.st⟩
 ·rcases iJ hin hm with⟨e,rfl⟩|⟨e,hm⟩<;>rcases dN hig hx with⟨e',rfl⟩|⟨e',hx⟩
  ·have:i=j:=by omega
   subst this;exact hok
  ·exact absurd e e'
  ·exact absurd e' e
  ·have hij:i≠j:=by omega
   exact(h.hand i m x hm hx).frame rfl Iff.rfl (by simp[Ne.symm hij]) (λ_ h=>h) (λ_ h=>h) (λc hc=>hwc c (hne _ c e hc)) λop hop _=>hut op hop
 ·rw[h.got.2 i];by_cases hij:j=i
  ·subst hij;simp only[z03,if_true,hjl];constructor
   ·rintro⟨q,hq⟩;exact absurd hq (hst q)
   ·rintro⟨q,hq⟩;exact absurd (z0f hq) (hst' q)
  ·simp[hij]
 ·rcases iJ hin hm with⟨e,_⟩|⟨_,hm0⟩
  ·omega
  rcases dN hig hx with⟨e,_⟩|⟨_,hx0⟩
  ·omega
  rcases iJ hin hm' with⟨e,rfl⟩|⟨e,hm'⟩<;>rcases dN hig hx' with⟨e',rfl⟩|⟨e',hx'⟩
  ·exact hone c m x v hc hm0 hx0 hp hps
  ·exact absurd e e'
  ·exact absurd e' e
  ·exact h.one c m x hc hm0 hx0 hp i m' x' v hm' hx' hps
def arX(P:Program)(size:Nat)(u:Trace):Prop:=Wordless u/\(∀ op∈u,op.act.touch? =none)/\∀ op∈u,op.g<size
theorem lg{size:Nat}{l:List MemOp}(h:∀ op∈l,op.act.touch? =none/\op.g<size/\∀ m,op.act≠ .mark m):arX P size l.toArray:=
 ⟨λop hop m hm=>absurd hm ((h op (by simpa using hop)).2.2 m),λop hop=>(h op (by simpa using hop)).1,λop hop=>(h op (by simpa using hop)).2.1⟩
theorem FM.hears(h:FM P F Φ cap End s gs w t){sl:Option (Nat×Nat)}{j:Nat}{n:Node}{g:Goroutine}{l:List Value}(hn:s.nodes[j+1]? =some n)(hg:gs[j+1]? =some g)(hl:s.hs[j]? =some (.hears l))(hr:Runs n g)(hst:n.stopped F):
  ∃ gs' w' ops st' n' g',runT P (crowd gs w sl) (j+1)=(.next (crowd gs' w' sl),ops)/\gs'=gs.setIfInBounds (j+1) g'/\FM P F Φ cap End {s with hs:=s.hs.set j st',nodes:=s.nodes.set (j+1) n'} gs' w' (t++ops)/\
   (st'.wt< (CG.hears l).wt\/(st'= .hears l/\n'=n/\g'.status= .blocked)):=by
 obtain⟨hm,hO,hrel,hwalk⟩:=h.core.nd _ n hn;have hm:n.main=false:=hm;have hig:j+1<gs.size:=(z01.1 hg).1;have hjl:j<s.hs.length:=(z00.1 hl).1;obtain⟨cin,cout,buf,cl,sn,rc,h1,h2,h3,h4,hk⟩:=h.hand j n g hn hg;rw[hl] at hk;simp only at hk;obtain⟨k1,k2,k3,k4⟩:=hk;have hstop:=hst w (hO▸hrel);rw[k3] at hstop;have hng:∀ q,s.hs[j]? ≠some (.gone q):=λq e=>by rw[hl] at e;cases e
 have hcc:s.cs[0]? ≠some cin:=λe=>by have e1:=(z00.1 e);have e2:=(z00.1 h1);have:=(z0t h.nd).1 (e1.2.trans e2.2.symm);omega
 have hps:=h.noSend hcc (j+1);have hmem:cin∈s.cs:=z06 h1;have hrun:n.g.status= .running:=nS hwalk λg x hx=>by rw[k3] at hx;exact hx.running
 have ap4:∀ (z:Value) (sh:CommShape),(∀ w,stepG P false n.g w= .comm n.g #[rcase cin z] true sh w #[])->buf= #[]->cl=false->
   ∃ gs' w' ops st' n' g',runT P (crowd gs w sl) (j+1)=(.next (crowd gs' w' sl),ops)/\gs'=gs.setIfInBounds (j+1) g'/\FM P F Φ cap End {s with hs:=s.hs.set j st',nodes:=s.nodes.set (j+1) n'} gs' w' (t++ops)/\
    (st'.wt< (CG.hears l).wt\/(st'= .hears l/\n'=n/\g'.status= .blocked)):=by
  intro z sh hstep hb hcl;subst hb hcl;have hs':stepG P (j+1==0) g w= .comm n.g #[rcase cin z] true sh w #[]:=by rw[hr.stepG];exact hstep w
  have hwt:=crowd_waits (sl:=sl) hg hs' (λcc RU=>by simp only[z0s,z0o] at RU;subst RU;exact ways_recv_none h3 hps)
  refine⟨_,w,_, .hears l,n,_,hwt,rfl,?_, .inr ⟨rfl,rfl,rfl⟩⟩;have hp:kV P F cin n (parked n.g #[rcase cin z] sh):=⟨hst,hrun,z,sh,rfl,by rw[hm];exact hstep⟩
  refine h.turn hn hg h1 hng (λq e=>by cases e) hjl (Turns.refl _ _) (λ_ _=>rfl) (λop hop=>by simp[MemOp.ofEvents] at hop) (λop hop=>by simp[MemOp.ofEvents] at hop) (λop hop=>by simp[MemOp.ofEvents] at hop) hm hO (by rw[<- hO];exact hO▸hrel) hwalk ?_ ?_
  ·refine⟨cin,cout,#[],false,sn,rc,h1,h2,h3,h4,?_⟩;simp only[z03,if_true,hjl];exact⟨k1,k2,k3, .inr ⟨by trivial,by trivial,hp⟩⟩
  ·rintro c n0 g0 v _ _ _ _ ⟨_,_,z',sh',e,_⟩;simp only[parked,Goroutine.mk.injEq,z0a,z1f] at e;have:=e.2.2.2.2.1;simp[rcase,scase] at this
 cases l with
 |nil=>
  obtain⟨_,z,sh,hstep,_,hk2⟩:=hstop;have hb:buf= #[]/\sK j s.acts=[]:=by have:=List.append_eq_nil_iff.1 k1.symm;exact⟨by simpa using this.1,this.2⟩
  cases hcl:cl with
  |false=>exact ap4 z sh hstep hb.1 hcl
  |true=>
   obtain⟨rfl,_⟩:=hb;subst hcl;have hs':stepG P (j+1==0) g w= .comm n.g #[rcase cin z] true sh w #[]:=by rw[hr.stepG];exact hstep w
   have hwt:=crowd_recv_closed (sl:=sl) hg hs' h3 hps;refine⟨_,w,_, .tells,⟨false,rQ P Φ cout j,n.g.finishComm P #[rcase cin z] sh 0 z false,⟨w,s.O (j+1)⟩⟩,_,hwt,rfl,?_, .inl (by simp[CG.wt])⟩
   obtain⟨u1,u2,u3⟩:=lg (P:=P) (size:=gs.size) (l:=[{g:=j+1,fn:=n.g.frame.fn,pos:=n.g.frame.place,act:= .recvClosed cin}]) (by simp[MemAct.touch?];exact hig)
   have hwk:aln P F Φ cout j (n.g.finishComm P #[rcase cin z] sh 0 z false) ⟨w,s.O (j+1)⟩:=by rw[<- hO];exact hk2 rfl
   refine h.turn hn hg h1 hng (λq e=>by cases e) hjl (Turns.refl _ _) (λ_ _=>rfl) (by simpa[MemOp.ofEvents] using u1) (by simpa[MemOp.ofEvents] using u2) (by simpa[MemOp.ofEvents] using u3) rfl rfl (Rel.refl _ _ _) hwk ?_ ?_
   ·refine⟨cin,cout,#[],true,sn,rc,h1,h2,h3,h4,?_⟩;simp only[z03,if_true,hjl];exact⟨by trivial,by trivial, .inl (Runs.self rfl)⟩
   ·intro c n0 g0 v _ _ _ _ hp;have:=hp.blocked;cases this
 |cons m r=>
  obtain⟨_,z,sh,hstep,hk2,_⟩:=hstop;by_cases hb:buf= #[]
  ·cases hcl:cl with
   |false=>exact ap4 z sh hstep hb hcl
   |true=>
    have:=yN h.wf (j:=j) (by exact hjl) (h4.1 hcl)
    rw[hb,this] at k1;cases k1
  ·have hpos:0<buf.size:=Array.size_pos_iff.2 hb;have hs':stepG P (j+1==0) g w= .comm n.g #[rcase cin z] true sh w #[]:=by rw[hr.stepG];exact hstep w
   have hwt:=crowd_recv_buf (sl:=sl) hg hs' h3 hpos hps;obtain⟨bl,hbl⟩:∃ bl,buf.toList=bl:=⟨_,rfl⟩;cases bl with
   |nil=>exact absurd (by simpa using hbl) hb
   |cons b0 bl=>
    rw[hbl] at k1;simp only[List.cons_append,List.cons.injEq] at k1;obtain⟨rfl,k1⟩:=k1;have hbuf:buf=(m::bl).toArray:=by rw[<- hbl]
    subst hbuf;have hv:((m::bl).toArray.getD 0 undef)=m:=rfl;have hx:((m::bl).toArray.extract 1 (m::bl).toArray.size)=bl.toArray:=by apply Array.ext';simp
    rw[hv,hx] at hwt;refine⟨_,_,_, .hears r,⟨false,fV P F Φ cin cout j r,n.g.finishComm P #[rcase cin z] sh 0 m true,⟨w,s.O (j+1)⟩⟩,_,hwt,rfl,?_, .inl (by simp[CG.wt])⟩
    obtain⟨u1,u2,u3⟩:=lg (P:=P) (size:=gs.size) (l:=[{g:=j+1,fn:=n.g.frame.fn,pos:=n.g.frame.place,act:= .recv cin rc cap},{g:=j+1,fn:=n.g.frame.fn,pos:=n.g.frame.place,act:= .recvDone cin rc}]) (by simp[MemAct.touch?];exact hig)
    have hwk:Kv P F Φ cin cout j r (n.g.finishComm P #[rcase cin z] sh 0 m true) ⟨w,s.O (j+1)⟩:=by rw[<- hO];exact hk2 m rfl rfl
    have hT:Turns (λb=>b∈s.cs) w (w.setChan cin cap bl.toArray cl sn (rc+1) false):=Turns.set w hmem ..;have hcl:cin<w.heap.size:=(z01.1 h3).1;refine h.turn hn hg h1 hng (λq e=>by cases e) hjl hT (λc hc=>by simp[z0c,z02 (Ne.symm hc)]) (by simpa[MemOp.ofEvents] using u1) (by simpa[MemOp.ofEvents] using u2) (by simpa[MemOp.ofEvents] using u3) rfl rfl (hT.rel h.core.ap _) hwk ?_ ?_
    ·refine⟨cin,cout,bl.toArray,cl,sn,rc+1,h1,h2,by simp[z0c,hcl],h4,?_⟩
     simp only[z03,if_true,hjl];exact⟨by simpa using k1,by simp at k2;omega,by trivial, .inl (Runs.self rfl)⟩
    ·intro c n0 g0 v _ _ _ _ hp;have:=hp.blocked;cases this
theorem FM.anP(h:FM P F Φ cap End s gs w t){c:Nat}(hc:s.cs[0]? =some c)(i:Nat)(h0:i=0\/∀ n g,s.nodes[0]? =some n->gs[0]? =some g->¬ kV P F c n g):partners (gs.setIfInBounds i ph) c false=[]:=by
 refine partners_nil λk x hx=> ?_;rcases getElem?_stand gs i k x hx with⟨_,rfl⟩|⟨hki,hx⟩
 ·exact offersAt_ph _ _
 rcases h.offers hx with hb|⟨rfl,n,c',hn,hc',hp⟩|⟨j,n,cin,cout,_,_,h1,h2,⟨_,_,z,sh,rfl,_⟩|⟨v,_,_,_,z,sh,rfl,_⟩⟩
 ·exact offersAt_of_not_blocked (nb hb) _ _
 ·rw[hc] at hc';cases hc';rcases h0 with e|h0
  ·exact absurd e.symm hki
  ·exact absurd hp (h0 n x hn hx)
 ·rw[offersAt_parked_recv,if_neg];rintro rfl;have e1:=(z00.1 hc);have e2:=(z00.1 h1);have:=(z0t h.nd).1 (e1.2.trans e2.2.symm);omega
 ·exact offersAt_parked_send' ..
theorem FM.waits(h:FM P F Φ cap End s gs w t){sl:Option (Nat×Nat)}{j:Nat}{n:Node}{g:Goroutine}(hn:s.nodes[j+1]? =some n)(hg:gs[j+1]? =some g)(hl:s.hs[j]? =some .tells)(hr:Runs n g)(hst:n.stopped F)
  (h0:∀ c n g,s.cs[0]? =some c->s.nodes[0]? =some n->gs[0]? =some g->¬ kV P F c n g):
  ∃ gs' ops g',runT P (crowd gs w sl) (j+1)=(.next (crowd gs' w sl),ops)/\gs'=gs.setIfInBounds (j+1) g'/\FM P F Φ cap End {s with hs:=s.hs.set j .tells,nodes:=s.nodes.set (j+1) n} gs' w (t++ops)/\g'.status= .blocked:=by
 obtain⟨hm,hO,hrel,hwalk⟩:=h.core.nd _ n hn;have hm:n.main=false:=hm;have hjl:j<s.hs.length:=(z00.1 hl).1;obtain⟨cin,cout,buf,cl,sn,rc,h1,h2,h3,h4,hk⟩:=h.hand j n g hn hg;rw[hl] at hk;simp only at hk;obtain⟨k1,k3,k4⟩:=hk;have hstop:=hst w (hO▸hrel);rw[k3] at hstop;have hrun:n.g.status= .running:=nS hwalk λg x hx=>by rw[k3] at hx;exact hx.running
 obtain⟨v,B,hB,hout,_,z,sh,hstep,hk2⟩:=hstop;obtain⟨sn',hb⟩:=h.back cout h2;have hs':stepG P (j+1==0) g w= .comm n.g #[scase cout v z] true sh w #[]:=by rw[hr.stepG];exact hstep w
 have hwt:=crowd_waits (sl:=sl) hg hs' (λcc RU=>by simp only[z0s,z0o] at RU;subst RU;exact ways_send_none hb (z16 _) (h.anP h2 (j+1) (.inr λn g hn hg=>h0 cout n g h2 hn hg)))
 refine⟨_,_,_,hwt,rfl,?_,rfl⟩;refine h.turn hn hg h1 (λq e=>by rw[hl] at e;cases e) (λq e=>by cases e) hjl (Turns.refl _ _) (λ_ _=>rfl) (λop hop=>by simp[MemOp.ofEvents] at hop) (λop hop=>by simp[MemOp.ofEvents] at hop) (λop hop=>by simp[MemOp.ofEvents] at hop) hm hO (by rw[<- hO];exact hO▸hrel) hwalk ?_ ?_
 ·refine⟨cin,cout,buf,cl,sn,rc,h1,h2,h3,h4,?_⟩;simp only[z03,if_true,hjl];exact⟨k1,k3, .inr ⟨v,hst,hrun,z,sh,rfl,by rw[hm];exact hstep⟩⟩
 ·intro c n0 g0 v' hc hn0 hg0 hp _;exact h0 c n0 g0 hc hn0 hg0 hp
theorem FM.quits(h:FM P F Φ cap End s gs w t){sl:Option (Nat×Nat)}{j q:Nat}{n:Node}{g:Goroutine}(hn:s.nodes[j+1]? =some n)(hg:gs[j+1]? =some g)(hl:s.hs[j]? =some (.gone q))(hr:g.status= .running):
  ∃ gs' ops g' q',runT P (crowd gs w sl) (j+1)=(.next (crowd gs' w sl),ops)/\gs'=gs.setIfInBounds (j+1) g'/\(g'.status= .running\/g'.status= .finished)/\q'<q/\FM P F Φ cap End {s with hs:=s.hs.set j (.gone q')} gs' w (t++ops):=by
 have hjl:j<s.hs.length:=(z00.1 hl).1;have hig:j+1<gs.size:=(z01.1 hg).1;obtain⟨cin,cout,buf,cl,sn,rc,h1,h2,h3,h4,hk⟩:=h.hand j n g hn hg;rw[hl] at hk;simp only at hk;obtain⟨k1,k2,k3⟩:=hk;cases q with
 |zero=>rw[show g.status= .finished from k2] at hr;cases hr
 |succ q=>
  rcases k2 with k2|⟨_,g',hstep,k2⟩
  ·rw[k2] at hr;cases hr
  have hrun:=runT_crowd_go (P:=P) (sl:=sl) hg (w:=w) (w':=w) (g':=g') (es:= #[]) (hstep w);rw[h.still (λ_ _=>rfl)] at hrun;have hst:g'.status= .running\/g'.status= .finished:=k2.status;have hnb:g'.status≠ .blocked:=by rcases hst with e|e<;>rw[e]<;>nofun
  have e0:t++MemOp.ofEvents (j+1) g.frame.fn g.frame.place #[]=t:=by simp[MemOp.ofEvents]
  refine⟨_,_,g',q,hrun,rfl,hst,Nat.lt_succ_self _,?_⟩;rw[e0];refine⟨h.core.stand (by simp),h.nd,by simpa using h.wf,by simp[h.size],h.back,by simpa using h.next,λm x hm hx=> ?_,λi m x hm hx=> ?_,⟨h.got.1,λi=> ?_⟩,λc m x hc hm hx hp i m' x' v hm' hx' hps=> ?_⟩
  ·rcases dN hig hx with⟨e,_⟩|⟨_,hx⟩
   ·omega
   ·have:=h.main m x hm hx;exact⟨this.Vk,this.st⟩
  ·rcases dN hig hx with⟨e,rfl⟩|⟨e,hx⟩
   ·have:i=j:=by omega
    subst this;refine⟨cin,cout,buf,cl,sn,rc,h1,h2,h3,h4,?_⟩;simp only[z03,if_true,hjl];exact⟨k1,k2,k3⟩
   ·have hij:i≠j:=by omega
    have:=(h.hand i m x hm hx).frame (s':= {s with hs:=s.hs.set j (.gone q)}) (w':=w) (u:= #[]) rfl Iff.rfl (by simp[Ne.symm hij]) (λ_ h=>h) (λ_ h=>h) (λ_ _=>rfl) (λop hop=>by simp at hop)
    simpa using this
  ·rw[h.got.2 i];by_cases hij:j=i
   ·subst hij;simp only[z03,if_true,hjl];exact⟨λ_=>⟨q,rfl⟩,λ_=>⟨q+1,hl⟩⟩
   ·simp[hij]
  ·rcases dN hig hx with⟨e,_⟩|⟨_,hx0⟩
   ·omega
   rcases dN hig hx' with⟨e,rfl⟩|⟨_,hx'⟩
   ·exact hnb hps.blocked
   ·exact h.one c m x hc hm hx0 hp i m' x' v hm' hx' hps
theorem FM.ap5(h:FM P F Φ cap End s gs w t){n n':Node}{g g':Goroutine}{zx:List fB}{w':World}{u:Trace}(hn:s.nodes[0]? =some n)(hg:gs[0]? =some g)(hwf:WF Φ cap s.cs.length s.hs.length s.got.length zx)
  (hw:Turns (λb=>b∈s.cs) w w') (hu:TI F (λb=>b∈s.cs) s.O w.heap.size (t++u)) (hug:∀ op∈u,op.g<gs.size)
  (n1:n'.main=true) (n2:n'.x.O=s.O 0) (n3:Rel (s.O 0) F n'.x.w w') (n4:n'.walks P F) (n5:n'.S=aQ P F Φ End zx s.cs s.got) (hr:Runs n' g')
  (hback:∀ c,s.cs[0]? =some c->w'.heap[c]? =w.heap[c]?) (hnext:∀ c,s.cs[s.hs.length+1]? =some c->w'.heap[c]? =w.heap[c]?)
  (RV:∀ j m x,s.nodes[j+1]? =some m->gs[j+1]? =some x->xI P F Φ cap {s with acts:=zx,nodes:=s.nodes.set 0 n'} w' (t++u) j m x):
  FM P F Φ cap End {s with acts:=zx,nodes:=s.nodes.set 0 n'} (gs.setIfInBounds 0 g') w' (t++u):=by
 have hig:0<gs.size:=(z01.1 hg).1;have hin:0<s.nodes.length:=(z00.1 hn).1;have hcore:Core P F (λb=>b∈s.cs) s.O (s.nodes.set 0 n') (gs.setIfInBounds 0 g') w' (t++u):=by
  refine h.core.talk hw (by simp) hu hug (λi b hb=> .inl hb) h.core.ap h.core.new (by simp) λi m hm=> ?_
  rcases iJ hin hm with⟨rfl,rfl⟩|⟨_,hm⟩
  ·exact .inr ⟨n1,n2,n3,n4⟩
  ·exact .inl ⟨hm,rfl⟩
 refine⟨hcore,h.nd,hwf,by simp[h.size],λc hc=>by rw[hback c hc];exact h.back c hc,λc hc=>by rw[hnext c hc];exact h.next c hc,λm x hm hx=> ?_,λi m x hm hx=> ?_,h.got,λc m x hc hm hx hp=> ?_⟩
 ·rcases iJ hin hm with⟨_,rfl⟩|⟨e,_⟩
  ·rcases dN hig hx with⟨_,rfl⟩|⟨e,_⟩
   ·exact⟨n5, .inl hr⟩
   ·exact absurd rfl e
  ·exact absurd rfl e
 ·rcases iJ hin hm with⟨e,_⟩|⟨_,hm⟩
  ·omega
  rcases dN hig hx with⟨e,_⟩|⟨_,hx⟩
  ·omega
  exact RV i m x hm hx
 ·rcases dN hig hx with⟨_,rfl⟩|⟨e,_⟩
  ·have:=hp.blocked;rw[hr.status] at this;cases this
  ·exact absurd rfl e
theorem idx_eq{l:List Nat}(h:l.Nodup){i j c:Nat}(hi:l[i]? =some c)(hj:l[j]? =some c):i=j:=by have e1:=(z00.1 hi);have e2:=(z00.1 hj);exact(z0t h).1 (e1.2.trans e2.2.symm)
theorem FM.afa(h:FM P F Φ cap End s gs w t){j c:Nat}(hc:s.cs[j+1]? =some c)(i:Nat)(h0:∀ n g,s.nodes[j+1]? =some n->gs[j+1]? =some g->¬ kV P F c n g):partners (gs.setIfInBounds i ph) c false=[]:=by
 refine partners_nil λk x hx=> ?_;rcases getElem?_stand gs i k x hx with⟨_,rfl⟩|⟨hki,hx⟩
 ·exact offersAt_ph _ _
 rcases h.offers hx with hb|⟨rfl,n,c',hn,hc',⟨_,_,z,sh,rfl,_⟩⟩|⟨j',n,cin,cout,rfl,hn,h1,h2,hp|⟨v,_,_,_,z,sh,rfl,_⟩⟩
 ·exact offersAt_of_not_blocked (nb hb) _ _
 ·rw[offersAt_parked_recv,if_neg];rintro rfl;have:=idx_eq h.nd hc' hc;omega
 ·by_cases e:cin=c
  ·subst e;have:=idx_eq h.nd h1 hc;have:j'=j:=by omega
   subst this;exact absurd hp (h0 n x hn hx)
  ·obtain⟨_,_,z,sh,rfl,_⟩:=hp;rw[offersAt_parked_recv,if_neg e]
 ·exact offersAt_parked_send' ..
theorem FM.abb(h:FM P F Φ cap End s gs w t){sl:Option (Nat×Nat)}{n:Node}{g:Goroutine}{j:Nat}{v:Value}{l:List fB}(hn:s.nodes[0]? =some n)(hg:gs[0]? =some g)(hr:Runs n g)(hst:n.stopped F)(ha:s.acts= .send j v::l)
  (h0:∀ c n g,s.cs[j+1]? =some c->s.nodes[j+1]? =some n->gs[j+1]? =some g->¬ kV P F c n g):
  ∃ gs' w' ops n' g',runT P (crowd gs w sl) 0=(.next (crowd gs' w' sl),ops)/\gs'=gs.setIfInBounds 0 g'/\g'.status= .running/\FM P F Φ cap End {s with acts:=l,nodes:=s.nodes.set 0 n'} gs' w' (t++ops):=by
 obtain⟨hm,hO,hrel,hwalk⟩:=h.core.nd _ n hn;have hm:n.main=true:=hm;have hig:0<gs.size:=(z01.1 hg).1;have hstop:=hst w (hO▸hrel);rw[(h.main n g hn hg).Vk,ha] at hstop;obtain⟨cin,h1,_,z,sh,hstep,hk⟩:=hstop;have hwf:=h.wf;rw[ha] at hwf;obtain⟨⟨hjk,hjc⟩,hwf⟩:=hwf;have hjs:j+1<gs.size:=by rw[h.size];omega
 have hgj:gs[j+1]? =some gs[j+1]:=z0g hjs;have Rw:s.nodes[j+1]? =some (s.nodes[j+1]'(by rw[h.core.sz];exact hjs)):=z04 _
 obtain⟨anQ,cout,buf,cl,sn,rc,k1,k2,k3,k4,km⟩:=h.hand j _ _ Rw hgj;rw[h1] at k1;cases k1;have hin:fB.close j∈s.acts:=by rw[ha];exact z07 _ hjc
 have afb:cl=false:=by
  cases cl with
  |false=>rfl
  |true=>exact absurd hin (k4.1 rfl)
 subst afb;split at km
 case h_2=>cases km.1
 case h_3=>cases km.1
 case h_4=>exact km.elim
 rename_i lst hl;obtain⟨q1,q2,q3,q4⟩:=km;have hf:sK j s.acts=v::sK j l:=by rw[ha];simp[sK]
 rw[hf] at q1;have hroom:buf.size<cap:=by have:=congrArg List.length q1;simp at this;omega
 have hs':stepG P (0==0) g w= .comm n.g #[scase cin v z] true sh w #[]:=by rw[hr.stepG];exact hstep w
 have hwt:=crowd_send_room (sl:=sl) hg hs' k3 hroom (h.afa h1 0 λn g hn hg=>h0 cin n g h1 hn hg);have hmem:cin∈s.cs:=z06 h1;have hT:Turns (λb=>b∈s.cs) w (w.setChan cin cap (buf.push v) false (sn+1) rc false):=Turns.set w hmem ..;have hlt:cin<w.heap.size:=(z01.1 k3).1;have hoth:∀ k c,k≠j+1->s.cs[k]? =some c->(w.setChan cin cap (buf.push v) false (sn+1) rc false).heap[c]? =w.heap[c]? :=by
  intro k c hk hc;have:cin≠c:=λe=>by subst e;exact hk (idx_eq h.nd hc h1)
  simp[z0c,z02 this]
 obtain⟨u1,u2,u3⟩:=lg (P:=P) (size:=gs.size) (l:=[{g:=0,fn:=n.g.frame.fn,pos:=n.g.frame.place,act:= .send cin sn},{g:=0,fn:=n.g.frame.fn,pos:=n.g.frame.place,act:= .sendDone cin sn}]) (by simp[MemAct.touch?];exact hig)
 have hwk:Co P true F (aQ P F Φ End l s.cs s.got) (n.g.finishComm P #[scase cin v z] sh 0 undef false) ⟨w,s.O 0⟩:=by rw[<- hO];exact hk
 refine⟨_,_,_,⟨true,aQ P F Φ End l s.cs s.got,n.g.finishComm P #[scase cin v z] sh 0 undef false,⟨w,s.O 0⟩⟩,_,hwt,rfl,rfl,?_⟩;refine h.ap5 hn hg hwf hT (h.core.ti.quiet (by simpa[MemOp.ofEvents] using u1) (by simpa[MemOp.ofEvents] using u2)) (by simpa[MemOp.ofEvents] using u3) rfl rfl (hT.rel h.core.ap _) hwk rfl (Runs.self rfl) (λc hc=>hoth 0 c (by omega) hc) (λc hc=>hoth _ c (by omega) hc) λi m x hm hx=> ?_
 by_cases hij:i=j
 ·subst hij;rw[Rw] at hm;cases hm;rw[hgj] at hx;cases hx;refine⟨cin,cout,buf.push v,false,sn+1,rc,h1,k2,by simp[z0c,hlt],?_,?_⟩
  ·simp;exact hjc
  ·simp only[hl];refine⟨by rw[q1];simp,q2,q3,?_⟩
   rcases q4 with q4|⟨_,_,q4⟩
   ·exact .inl q4
   ·exact absurd q4 (h0 cin _ _ h1 Rw hgj)
 ·refine(h.hand i m x hm hx).frame ?_ ?_ rfl (λ_ h=>h) (λ_ h=>h) (λc hc=>hoth _ c (by omega) hc) λop hop _=> ?_
  ·rw[ha];simp[sK,Ne.symm hij]
  ·rw[ha];simp
  ·have:=u2 op (by simpa[MemOp.ofEvents] using hop)
   exact this
theorem FM.both(h:FM P F Φ cap End s gs w t){j:Nat}{n n' m m':Node}{g g' x x':Goroutine}{zx:List fB}{st':CG}{w':World}{u:Trace}(hn:s.nodes[0]? =some n)(hg:gs[0]? =some g)(hm:s.nodes[j+1]? =some m)(hx:gs[j+1]? =some x)
  (hwf:WF Φ cap s.cs.length s.hs.length s.got.length zx) (hw:Turns (λb=>b∈s.cs) w w') (hu:TI F (λb=>b∈s.cs) s.O w.heap.size (t++u)) (hug:∀ op∈u,op.g<gs.size)
  (n1:n'.main=true) (n2:n'.x.O=s.O 0) (n3:Rel (s.O 0) F n'.x.w w') (n4:n'.walks P F) (n5:n'.S=aQ P F Φ End zx s.cs s.got) (hr:Runs n' g')
  (m1:m'.main=false) (m2:m'.x.O=s.O (j+1)) (m3:Rel (s.O (j+1)) F m'.x.w w') (m4:m'.walks P F) (hr':Runs m' x') (hst:∀ q,s.hs[j]? ≠some (.gone q)) (hst':∀ q,st'≠ .gone q) (hjl:j<s.hs.length)
  (hback:∀ c,s.cs[0]? =some c->w'.heap[c]? =w.heap[c]?) (hnext:∀ c,s.cs[s.hs.length+1]? =some c->w'.heap[c]? =w.heap[c]?)
  (hok:xI P F Φ cap {s with acts:=zx,hs:=s.hs.set j st',nodes:=(s.nodes.set (j+1) m').set 0 n'} w' (t++u) j m' x')
  (RV:∀ i k y,i≠j->s.nodes[i+1]? =some k->gs[i+1]? =some y->xI P F Φ cap {s with acts:=zx,hs:=s.hs.set j st',nodes:=(s.nodes.set (j+1) m').set 0 n'} w' (t++u) i k y):
  FM P F Φ cap End {s with acts:=zx,hs:=s.hs.set j st',nodes:=(s.nodes.set (j+1) m').set 0 n'} ((gs.setIfInBounds (j+1) x').setIfInBounds 0 g') w' (t++u):=by
 have hig:0<gs.size:=(z01.1 hg).1;have hin:0<s.nodes.length:=(z00.1 hn).1;have arY:j+1<gs.size:=(z01.1 hx).1;have hin':j+1<s.nodes.length:=(z00.1 hm).1;have Vg:∀ k a,((s.nodes.set (j+1) m').set 0 n')[k]? =some a->(k=0/\a=n')\/(k=j+1/\a=m')\/(k≠0/\k≠j+1/\s.nodes[k]? =some a):=by
  intro k a hk;rcases iJ (by simpa using hin) hk with h1|⟨h1,hk⟩
  ·exact .inl h1
  ·rcases iJ hin' hk with h2|⟨h2,hk⟩
   ·exact .inr (.inl h2)
   ·exact .inr (.inr ⟨h1,h2,hk⟩)
 have MR:∀ k a,((gs.setIfInBounds (j+1) x').setIfInBounds 0 g')[k]? =some a->(k=0/\a=g')\/(k=j+1/\a=x')\/(k≠0/\k≠j+1/\gs[k]? =some a):=by
  intro k a hk;rcases dN (by simpa using hig) hk with h1|⟨h1,hk⟩
  ·exact .inl h1
  ·rcases dN arY hk with h2|⟨h2,hk⟩
   ·exact .inr (.inl h2)
   ·exact .inr (.inr ⟨h1,h2,hk⟩)
 have hcore:Core P F (λb=>b∈s.cs) s.O ((s.nodes.set (j+1) m').set 0 n') ((gs.setIfInBounds (j+1) x').setIfInBounds 0 g') w' (t++u):=by
  refine h.core.talk hw (by simp) hu hug (λi b hb=> .inl hb) h.core.ap h.core.new (by simp) λi a ha=> ?_
  rcases Vg i a ha with⟨rfl,rfl⟩|⟨rfl,rfl⟩|⟨_,_,ha⟩
  ·exact .inr ⟨n1,n2,n3,n4⟩
  ·exact .inr ⟨m1,m2,m3,m4⟩
  ·exact .inl ⟨ha,rfl⟩
 refine⟨hcore,h.nd,by simpa using hwf,by simp[h.size],λc hc=>by rw[hback c hc];exact h.back c hc,λc hc=> ?_,λa y ha hy=> ?_,λi a y ha hy=> ?_,⟨h.got.1,λi=> ?_⟩,λc a y hc ha hy hp=> ?_⟩
 ·simp only[z0i] at hc;rw[hnext c hc];exact h.next c hc
 ·rcases Vg _ _ ha with⟨_,rfl⟩|⟨e,_⟩|⟨e,_⟩
  ·rcases MR _ _ hy with⟨_,rfl⟩|⟨e,_⟩|⟨e,_⟩
   ·exact⟨n5, .inl hr⟩
   ·omega
   ·exact absurd rfl e
  ·omega
  ·exact absurd rfl e
 ·rcases Vg _ _ ha with⟨e,_⟩|⟨e,rfl⟩|⟨_,e,ha⟩
  ·omega
  ·rcases MR _ _ hy with⟨e',_⟩|⟨_,rfl⟩|⟨_,e',_⟩
   ·omega
   ·have:i=j:=by omega
    subst this;exact hok
   ·exact absurd e e'
  ·rcases MR _ _ hy with⟨e',_⟩|⟨e',_⟩|⟨_,_,hy⟩
   ·omega
   ·exact absurd e' e
   ·exact RV i a y (by omega) ha hy
 ·rw[h.got.2 i];by_cases hij:j=i
  ·subst hij;simp only[z03,if_true,hjl];constructor
   ·rintro⟨q,hq⟩;exact absurd hq (hst q)
   ·rintro⟨q,hq⟩;exact absurd (z0f hq) (hst' q)
  ·simp[hij]
 ·rcases MR _ _ hy with⟨_,rfl⟩|⟨e,_⟩|⟨e,_⟩
  ·have:=hp.blocked;rw[hr.status] at this;cases this
  ·omega
  ·exact absurd rfl e
theorem FM.aa'(h:FM P F Φ cap End s gs w t){sl:Option (Nat×Nat)}{n m:Node}{g x:Goroutine}{j cin:Nat}{v:Value}{l:List fB}(hn:s.nodes[0]? =some n)(hg:gs[0]? =some g)(hr:Runs n g)(hst:n.stopped F)(ha:s.acts= .send j v::l)
  (h1:s.cs[j+1]? =some cin) (Rw:s.nodes[j+1]? =some m) (hgj:gs[j+1]? =some x) (hp:kV P F cin m x):
  ∃ gs' w' ops n' m' g' x' st' lst,runT P (crowd gs w sl) 0=(.next (crowd gs' w' sl),ops)/\gs'=(gs.setIfInBounds (j+1) x').setIfInBounds 0 g'/\g'.status= .running/\x'.status= .running/\s.hs[j]? =some (.hears lst)/\st'.wt< (CG.hears lst).wt/\
   FM P F Φ cap End {s with acts:=l,hs:=s.hs.set j st',nodes:=(s.nodes.set (j+1) m').set 0 n'} gs' w' (t++ops):=by
 obtain⟨hm,hO,hrel,hwalk⟩:=h.core.nd _ n hn;have hm:n.main=true:=hm;obtain⟨hm2,hO2,afc,afd⟩:=h.core.nd _ m Rw;have hm2:m.main=false:=hm2;have hig:0<gs.size:=(z01.1 hg).1;have ap6:j+1<gs.size:=(z01.1 hgj).1;have hstop:=hst w (hO▸hrel);rw[(h.main n g hn hg).Vk,ha] at hstop;obtain⟨anQ,h1',_,z,sh,hstep,hk⟩:=hstop;rw[h1] at h1';cases h1';have hwf:=h.wf;rw[ha] at hwf;obtain⟨⟨hjk,hjc⟩,hwf⟩:=hwf;obtain⟨anQ,cout,buf,cl,sn,rc,k1,k2,k3,k4,km⟩:=h.hand j _ _ Rw hgj;rw[h1] at k1;cases k1;have hin:fB.close j∈s.acts:=by rw[ha];exact z07 _ hjc
 have afb:cl=false:=by
  cases cl with
  |false=>rfl
  |true=>exact absurd hin (k4.1 rfl)
 subst afb;split at km
 case h_2=>cases km.1
 case h_3=>cases km.1
 case h_4=>exact km.elim
 rename_i lst hl;obtain⟨q1,q2,q3,q4⟩:=km;have hb:buf= #[]:=by
  rcases q4 with q4|⟨q4,_⟩
  ·have:=q4.status;rw[hp.blocked] at this;cases this
  ·exact q4
 subst hb;have hf:sK j s.acts=v::sK j l:=by rw[ha];simp[sK]
 rw[hf] at q1;simp only[List.nil_append] at q1;subst q1;obtain⟨amM,apI,zj,shj,rfl,Vl⟩:=hp;have afe:=amM w (hO2▸afc);rw[q3] at afe;obtain⟨_,zj',anR,WV,hk2,_⟩:=afe;have he:=Vl w;rw[hm2,WV w] at he;simp only[GStep.comm.injEq] at he;obtain⟨_,e1,_,e2,_⟩:=he;have e1:zj'=zj:=by have:=congrArg (λa:Array CommCase=>a.toList) e1;simp[rcase] at this;exact this
 subst e1 e2;have hs':stepG P (0==0) g w= .comm n.g #[scase cin v z] true sh w #[]:=by rw[hr.stepG];exact hstep w
 have hpart:partners (gs.setIfInBounds 0 ph) cin false=[(j+1,0)]:=by
  rw[partners_one (j:=j+1) (g:=parked m.g #[rcase cin zj'] anR) (stand_get (by omega) hgj) λk y hky hy=> ?_]
  ·rw[offersAt_parked_recv,if_pos rfl];rfl
  ·rcases getElem?_stand gs 0 k y hy with⟨_,rfl⟩|⟨_,hy⟩
   ·exact offersAt_ph _ _
   rcases h.offers hy with hb|⟨rfl,n',c',hn',hc',⟨_,_,z',sh',rfl,_⟩⟩|⟨i,n',ci,co,rfl,hn',h1',h2',⟨_,_,z',sh',rfl,_⟩|⟨v',_,_,_,z',sh',rfl,_⟩⟩
   ·exact offersAt_of_not_blocked (nb hb) _ _
   ·rw[offersAt_parked_recv,if_neg];rintro rfl;have:=idx_eq h.nd hc' h1;omega
   ·rw[offersAt_parked_recv,if_neg];rintro rfl;exact hky (idx_eq h.nd h1' h1)
   ·exact offersAt_parked_send' ..
 have hwt:=crowd_send_meets (sl:=sl) hg hs' k3 (by omega) hgj hpart
 have hmem:cin∈s.cs:=z06 h1;have hT:Turns (λb=>b∈s.cs) w (w.setChan cin cap #[] false (sn+1) (rc+1) false):=Turns.set w hmem ..;have hlt:cin<w.heap.size:=(z01.1 k3).1;have hoth:∀ k c,k≠j+1->s.cs[k]? =some c->(w.setChan cin cap #[] false (sn+1) (rc+1) false).heap[c]? =w.heap[c]? :=by
  intro k c hk hc;have:cin≠c:=λe=>by subst e;exact hk (idx_eq h.nd hc h1)
  simp[z0c,z02 this]
 obtain⟨u1,u2,u3⟩:=lg (P:=P) (size:=gs.size) (l:=[{g:=0,fn:=n.g.frame.fn,pos:=n.g.frame.place,act:= .send cin sn},{g:=j+1,fn:=m.g.frame.fn,pos:=m.g.frame.place,act:= .recv cin rc cap},{g:=0,fn:=n.g.frame.fn,pos:=n.g.frame.place,act:= .sendDone cin sn},{g:=j+1,fn:=m.g.frame.fn,pos:=m.g.frame.place,act:= .recvDone cin rc}]) (by simp[MemAct.touch?];exact⟨hig,ap6,hig,ap6⟩)
 have hwk:Co P true F (aQ P F Φ End l s.cs s.got) (n.g.finishComm P #[scase cin v z] sh 0 undef false) ⟨w,s.O 0⟩:=by rw[<- hO];exact hk
 have arZ:Kv P F Φ cin cout j (sK j l) (m.g.finishComm P #[rcase cin zj'] anR 0 v true) ⟨w,s.O (j+1)⟩:=by rw[<- hO2];exact hk2 v rfl rfl
 have hjl:j<s.hs.length:=(z00.1 hl).1;refine⟨_,_,_,⟨true,aQ P F Φ End l s.cs s.got,n.g.finishComm P #[scase cin v z] sh 0 undef false,⟨w,s.O 0⟩⟩,⟨false,fV P F Φ cin cout j (sK j l),m.g.finishComm P #[rcase cin zj'] anR 0 v true,⟨w,s.O (j+1)⟩⟩,_,_, .hears (sK j l),_,hwt,rfl,rfl,rfl,hl,by simp[CG.wt],?_⟩
 refine h.both hn hg Rw hgj hwf hT (h.core.ti.quiet (by simpa[MemOp.ofEvents] using u1) (by simpa[MemOp.ofEvents] using u2)) (by simpa[MemOp.ofEvents] using u3) rfl rfl (hT.rel h.core.ap _) hwk rfl (Runs.self rfl) rfl rfl (hT.rel h.core.ap _) arZ (Runs.self rfl) (λq e=>by rw[hl] at e;cases e) (λq e=>by cases e) hjl (λc hc=>hoth 0 c (by omega) hc) (λc hc=>hoth _ c (by omega) hc) ?_ λi a y hij ha' hy=> ?_
 ·refine⟨cin,cout,#[],false,sn+1,rc+1,h1,k2,by simp[z0c,hlt],?_,?_⟩
  ·simp;exact hjc
  ·simp only[z03,if_true,hjl];exact⟨by simp,by simp at q2;omega,by trivial, .inl (Runs.self rfl)⟩
 ·refine(h.hand i a y ha' hy).frame ?_ ?_ (by simp[Ne.symm hij]) (λ_ h=>h) (λ_ h=>h) (λc hc=>hoth _ c (by omega) hc) λop hop _=> ?_
  ·rw[ha];simp[sK,Ne.symm hij]
  ·rw[ha];simp
  ·exact u2 op (by simpa[MemOp.ofEvents] using hop)
theorem FM.abd(h:FM P F Φ cap End s gs w t){sl:Option (Nat×Nat)}{n:Node}{g:Goroutine}{l:List fB}{cout:Nat}(hn:s.nodes[0]? =some n)(hg:gs[0]? =some g)(hr:Runs n g)(hst:n.stopped F)(ha:s.acts= .recv::l)(hc:s.cs[0]? =some cout)
  (h0:∀ j m x v,s.nodes[j+1]? =some m->gs[j+1]? =some x->¬ zn P F cout v m x):
  ∃ gs' ops g',runT P (crowd gs w sl) 0=(.next (crowd gs' w sl),ops)/\gs'=gs.setIfInBounds 0 g'/\g'.status= .blocked/\FM P F Φ cap End s gs' w (t++ops):=by
 obtain⟨hm,hO,hrel,hwalk⟩:=h.core.nd _ n hn;have hm:n.main=true:=hm;have hig:0<gs.size:=(z01.1 hg).1;have ap7:=(h.main n g hn hg).Vk;have hstop:=hst w (hO▸hrel);rw[ap7,ha] at hstop;obtain⟨X9,hc',hrun,z,sh,hstep,_⟩:=hstop;rw[hc] at hc';cases hc';obtain⟨sn,hb⟩:=h.back cout hc;have hpart:partners (gs.setIfInBounds 0 ph) cout true=[]:=by
  refine partners_nil λk x hx=> ?_;rcases getElem?_stand gs 0 k x hx with⟨_,rfl⟩|⟨hki,hx⟩
  ·exact offersAt_ph _ _
  rcases h.offers hx with hb|⟨rfl,_⟩|⟨j,m,ci,co,rfl,hm',h1,h2,⟨_,_,z',sh',rfl,_⟩|⟨v,_,hp⟩⟩
  ·exact offersAt_of_not_blocked (nb hb) _ _
  ·exact absurd rfl hki
  ·exact offersAt_parked_recv' ..
  ·rw[hc] at h2;cases h2;exact absurd hp (h0 j m x v hm' hx)
 have hs':stepG P (0==0) g w= .comm n.g #[rcase cout z] true sh w #[]:=by rw[hr.stepG];exact hstep w
 have hwt:=crowd_waits (sl:=sl) hg hs' (λcc RU=>by simp only[z0s,z0o] at RU;subst RU;exact ways_recv_none hb hpart)
 have e0:t++MemOp.ofEvents 0 g.frame.fn g.frame.place #[]=t:=by simp[MemOp.ofEvents]
 refine⟨_,_,_,hwt,rfl,rfl,?_⟩;rw[e0];have hp:kV P F cout n (parked n.g #[rcase cout z] sh):=⟨hst,hrun,z,sh,rfl,by rw[hm];exact hstep⟩
 refine⟨h.core.stand (by simp),h.nd,h.wf,by simp[h.size],h.back,h.next,λm x hm' hx=> ?_,λi m x hm' hx=> ?_,h.got,λc m x hc' hm' hx hp' j m2 x2 v hm2 hx2=> ?_⟩
 ·rcases dN hig hx with⟨_,rfl⟩|⟨e,_⟩
  ·rw[hn] at hm';cases hm';exact⟨ap7, .inr ⟨l,cout,ha,hc,hp⟩⟩
  ·exact absurd rfl e
 ·rcases dN hig hx with⟨e,_⟩|⟨_,hx⟩
  ·omega
  ·exact h.hand i m x hm' hx
 ·rcases dN hig hx2 with⟨e,_⟩|⟨_,hx2⟩
  ·omega
  ·rw[hc] at hc';cases hc';exact h0 j m2 x2 v hm2 hx2
theorem FM.makes(h:FM P F Φ cap End s gs w t)(hE:∀ got g x,End got g x->g.status= .running){sl:Option (Nat×Nat)}{n:Node}{g:Goroutine}{l:List fB}{cap':Nat}(hn:s.nodes[0]? =some n)(hg:gs[0]? =some g)(hr:Runs n g)(hst:n.stopped F)(ha:s.acts= .mk cap'::l):
  ∃ gs' w' ops n' g',runT P (crowd gs w sl) 0=(.next (crowd gs' w' sl),ops)/\gs'=gs.setIfInBounds 0 g'/\g'.status= .running/\FM P F Φ cap End {s with acts:=l,cs:=s.cs++[w.heap.size],nodes:=s.nodes.set 0 n'} gs' w' (t++ops):=by
 obtain⟨hm,hO,hrel,hwalk⟩:=h.core.nd _ n hn;have hig:0<gs.size:=(z01.1 hg).1;have hin:0<s.nodes.length:=(z00.1 hn).1;have hstop:=hst w (hO▸hrel);rw[(h.main n g hn hg).Vk,ha] at hstop;obtain⟨_,g',hstep,hk⟩:=hstop;have hwf:=h.wf;rw[ha] at hwf;obtain⟨hcap,hwf⟩:=hwf;have hs':stepG P (0==0) g w= .go g' (w.alloc (.chan cap' #[] false 0 0 false)) #[]:=by rw[hr.stepG];exact hstep
 have hrun:=runT_crowd_go (P:=P) (sl:=sl) hg hs';have hlt:∀ {k c:Nat},s.cs[k]? =some c->c<w.heap.size:=λhk=>(h.core.ap.Cl _ (z06 hk)).1;have hold:∀ c,c<w.heap.size->(w.alloc (.chan cap' #[] false 0 0 false)).heap[c]? =w.heap[c]? :=λc hc=>Go.RowKit.Below.heap_alloc w _ c hc;have hnew:(w.alloc (.chan cap' #[] false 0 0 false)).heap[w.heap.size]? =some (.chan cap' #[] false 0 0 false):=heap_alloc_new w _;rw[h.still λb hb=>hold b (h.core.ap.Cl b hb).1] at hrun;have e0:t++MemOp.ofEvents 0 g.frame.fn g.frame.place #[]=t:=by simp[MemOp.ofEvents]
 have hwk:Co P true F (aQ P F Φ End l (s.cs++[w.heap.size]) s.got) g' ⟨w.alloc (.chan cap' #[] false 0 0 false),s.O 0⟩:=by rw[<- hO];exact hk
 have hgr:g'.status= .running:=nS (n:=⟨true,_,g',_⟩) hwk λg x hx=>aQ.running hE hx;refine⟨_,_,_,⟨true,aQ P F Φ End l (s.cs++[w.heap.size]) s.got,g',⟨w.alloc (.chan cap' #[] false 0 0 false),s.O 0⟩⟩,g',hrun,rfl,hgr,?_⟩;rw[e0];have hcore:=h.core.chan (.chan cap' #[] false 0 0 false) (gs':=gs.setIfInBounds 0 g') (by simp) (i:=0) (n':=⟨true,aQ P F Φ End l (s.cs++[w.heap.size]) s.got,g',⟨w.alloc (.chan cap' #[] false 0 0 false),s.O 0⟩⟩) rfl rfl (Rel.refl _ _ _) hwk
 have hC:(λb=>b∈s.cs\/b=w.heap.size)=λb=>b∈s.cs++[w.heap.size]:=by
  funext b;simp
 rw[hC] at hcore;have happ:∀ k c,s.cs[k]? =some c->(s.cs++[w.heap.size])[k]? =some c:=λk c hk=>by rw[z08 (z00.1 hk).1];exact hk
 have hat:∀ k c,(s.cs++[w.heap.size])[k]? =some c->s.cs[k]? =some c\/(k=s.cs.length/\c=w.heap.size):=by
  intro k c hk;rcases z0n k s.cs.length with hl|hl
  ·rw[z08 hl] at hk;exact .inl hk
  ·rw[z0e hl] at hk;have:k - s.cs.length=0:=by have:=(z00.1 hk).1;simp at this;omega
   rw[this] at hk;exact .inr ⟨by omega,by simpa using hk.symm⟩
 refine⟨hcore,?_,by simpa using hwf,by simp[h.size],λc hc=> ?_,λc hc=> ?_,λm x hm' hx=> ?_,λi m x hm' hx=> ?_,h.got,λc m x hc hm' hx hp=> ?_⟩
 ·refine List.nodup_append.2 ⟨h.nd,by simp,λa ha b hb=> ?_⟩
  simp only[z0o] at hb;subst hb;have:=(h.core.ap.Cl a ha).1;omega
 ·rcases hat 0 c hc with hc|⟨e,rfl⟩
  ·rw[hold c (hlt hc)];exact h.back c hc
  ·rcases hcap with⟨_,rfl⟩|⟨hk,_⟩
   ·exact⟨0,hnew⟩
   ·omega
 ·rcases hat _ c hc with hc|⟨e,rfl⟩
  ·rw[hold c (hlt hc)];exact h.next c hc
  ·rcases hcap with⟨hk,_⟩|⟨_,rfl⟩
   ·simp only at e;omega
   ·exact hnew
 ·rcases iJ hin hm' with⟨_,rfl⟩|⟨e,_⟩
  ·rcases dN hig hx with⟨_,rfl⟩|⟨e,_⟩
   ·exact⟨rfl, .inl (Runs.self hgr)⟩
   ·exact absurd rfl e
  ·exact absurd rfl e
 ·rcases iJ hin hm' with⟨e,_⟩|⟨_,hm'⟩
  ·omega
  rcases dN hig hx with⟨e,_⟩|⟨_,hx⟩
  ·omega
  have:=(h.hand i m x hm' hx).frame (s':= {s with acts:=l,cs:=s.cs++[w.heap.size],nodes:=s.nodes.set 0 ⟨true,aQ P F Φ End l (s.cs++[w.heap.size]) s.got,g',⟨w.alloc (.chan cap' #[] false 0 0 false),s.O 0⟩⟩}) (w':=w.alloc (.chan cap' #[] false 0 0 false)) (u:= #[])
   (by rw[ha];simp[sK]) (by rw[ha];simp) rfl (λc hc=>happ _ c hc) (λc hc=>happ _ c hc) (λc hc=>hold c (hlt hc)) (λop hop=>by simp at hop)
  simpa using this
 ·rcases dN hig hx with⟨_,rfl⟩|⟨e,_⟩
  ·have:=hp.blocked;rw[hgr] at this;cases this
  ·exact absurd rfl e
theorem FM.starts(h:FM P F Φ cap End s gs w t){sl:Option (Nat×Nat)}{n:Node}{g:Goroutine}{l:List fB}{j:Nat}(hn:s.nodes[0]? =some n)(hg:gs[0]? =some g)(hr:Runs n g)(hst:n.stopped F)(ha:s.acts= .go j::l):
  ∃ gs' ops n' nc g' child,runT P (crowd gs w sl) 0=(.next (crowd gs' w sl),ops)/\gs'=(gs.setIfInBounds 0 g').push child/\g'.status= .running/\child.status= .running/\
   FM P F Φ cap End {s with acts:=l,hs:=s.hs++[.hears (Φ.msgs j)],nodes:=s.nodes.set 0 n'++[nc]} gs' w (t++ops):=by
 obtain⟨hm,hO,hrel,hwalk⟩:=h.core.nd _ n hn;have hig:0<gs.size:=(z01.1 hg).1;have hin:0<s.nodes.length:=(z00.1 hn).1;have hstop:=hst w (hO▸hrel);rw[(h.main n g hn hg).Vk,ha] at hstop;obtain⟨_,g',child,hstep,hgr,hcr,⟨cin,cout,h1,h2,RV⟩,hk⟩:=hstop;have hwf:=h.wf;rw[ha] at hwf;obtain⟨⟨rfl,hc,hlt,hcl,ar0,hlen⟩,hwf⟩:=hwf;have hs':stepG P (0==0) g w= .spawn g' child w #[]:=by rw[hr.stepG];exact hstep
 have hrun:=runT_crowd_spawn (P:=P) (sl:=sl) hg hs';have hwk:Co P true F (aQ P F Φ End l s.cs s.got) g' ⟨w,s.O 0⟩:=by rw[<- hO];exact hk
 refine⟨_,_,⟨true,aQ P F Φ End l s.cs s.got,g',⟨w,s.O 0⟩⟩,⟨false,fV P F Φ cin cout s.hs.length (Φ.msgs s.hs.length),child,⟨w,λ_=>False⟩⟩,g',child,hrun,rfl,hgr,hcr,?_⟩;obtain⟨u1,u2,u3⟩:=lg (P:=P) (size:=gs.size+1) (l:=[{g:=0,fn:=g.frame.fn,pos:=g.frame.place,act:= .go gs.size},{g:=gs.size,fn:=child.frame.fn,pos:=g.frame.place,act:= .start}]) (by simp[MemAct.touch?])
 have hcore:=h.core.born (gs':=(gs.setIfInBounds 0 g').push child) (by simp) hig (n':=⟨true,aQ P F Φ End l s.cs s.got,g',⟨w,s.O 0⟩⟩) (nc:=⟨false,fV P F Φ cin cout s.hs.length (Φ.msgs s.hs.length),child,⟨w,λ_=>False⟩⟩) rfl rfl (Rel.refl _ _ _) hwk rfl rfl (Rel.refl _ _ _) RV (u:=(MemOp.ofEvents 0 g.frame.fn g.frame.place #[]).push {g:=0,fn:=g.frame.fn,pos:=g.frame.place,act:= .go gs.size}|>.push {g:=gs.size,fn:=child.frame.fn,pos:=g.frame.place,act:= .start})
  (by simpa[MemOp.ofEvents] using u1) (by simpa[MemOp.ofEvents] using u2) (by simp[MemOp.ofEvents])
 have hsz:s.nodes.length=s.hs.length+1:=by rw[h.core.sz,h.size]
 have Vg:∀ k a,(s.nodes.set 0 (⟨true,aQ P F Φ End l s.cs s.got,g',⟨w,s.O 0⟩⟩:Node)++[⟨false,fV P F Φ cin cout s.hs.length (Φ.msgs s.hs.length),child,⟨w,λ_=>False⟩⟩])[k]? =some a->
   (k=0/\a=⟨true,aQ P F Φ End l s.cs s.got,g',⟨w,s.O 0⟩⟩)\/(k=s.hs.length+1/\a=⟨false,fV P F Φ cin cout s.hs.length (Φ.msgs s.hs.length),child,⟨w,λ_=>False⟩⟩)\/(k≠0/\k<s.hs.length+1/\s.nodes[k]? =some a):=by
  intro k a hk;rcases z0n k s.nodes.length with hl|hl
  ·rw[z08 (by simpa using hl)] at hk
   rcases iJ hin hk with h1|⟨h1,hk⟩
   ·exact .inl h1
   ·exact .inr (.inr ⟨h1,by omega,hk⟩)
  ·rw[z0e (by simpa using hl)] at hk
   have h0:k - (s.nodes.set 0 (⟨true,aQ P F Φ End l s.cs s.got,g',⟨w,s.O 0⟩⟩:Node)).length=0:=by have:=(z00.1 hk).1;simp at this ⊢;omega
   rw[h0] at hk;simp only[z0i] at h0;exact .inr (.inl ⟨by omega,by simpa using hk.symm⟩)
 have MR:∀ k a,((gs.setIfInBounds 0 g').push child)[k]? =some a->(k=0/\a=g')\/(k=s.hs.length+1/\a=child)\/(k≠0/\k<s.hs.length+1/\gs[k]? =some a):=by
  intro k a hk;rw[Array.getElem?_push] at hk;split at hk
  ·rename_i e;simp only[z0q] at e;have:=h.size;exact .inr (.inl ⟨by omega,(z0f hk).symm⟩)
  ·rcases dN hig hk with h1|⟨h1,hk⟩
   ·exact .inl h1
   ·have:=(z01.1 hk).1;have:=h.size;exact .inr (.inr ⟨h1,by omega,hk⟩)
 refine⟨hcore,h.nd,by simpa using hwf,by simp[h.size],h.back,λc hcc=> ?_,λm x hm' hx=> ?_,λi m x hm' hx=> ?_,⟨h.got.1,λi=> ?_⟩,λc m x hcc hm' hx hp=> ?_⟩
 ·have:=(z00.1 hcc).1;simp at this;omega
 ·rcases Vg _ _ hm' with⟨_,rfl⟩|⟨e,_⟩|⟨e,_⟩
  ·rcases MR _ _ hx with⟨_,rfl⟩|⟨e,_⟩|⟨e,_⟩
   ·exact⟨rfl, .inl (Runs.self hgr)⟩
   ·omega
   ·exact absurd rfl e
  ·omega
  ·exact absurd rfl e
 ·rcases Vg _ _ hm' with⟨e,_⟩|⟨e,rfl⟩|⟨_,e,hm'⟩
  ·omega
  ·rcases MR _ _ hx with⟨e',_⟩|⟨_,rfl⟩|⟨_,e',_⟩
   ·omega
   ·have:i=s.hs.length:=by omega
    subst this;refine⟨cin,cout,#[],false,0,0,h1,h2,h.next cin h1,?_,?_⟩
    ·simp;exact hcl
    ·simp only[z0e (z0l _),Nat.sub_self,z0u];exact⟨by simpa using ar0.symm,hlen,by trivial, .inl (Runs.self hcr)⟩
   ·omega
  ·rcases MR _ _ hx with⟨e',_⟩|⟨e',_⟩|⟨_,_,hx⟩
   ·omega
   ·omega
   ·refine(h.hand i m x hm' hx).frame (by rw[ha];simp[sK]) (by rw[ha];simp) (by rw[z08 (by omega)]) (λ_ h=>h) (λ_ h=>h) (λ_ _=>rfl) λop hop _=> ?_
    exact u2 op (by simpa[MemOp.ofEvents] using hop)
 ·rw[h.got.2 i];rcases z0n i s.hs.length with hl|hl
  ·rw[z08 hl]
  ·rw[z0e hl];constructor
   ·rintro⟨q,hq⟩;rw[List.getElem?_eq_none hl] at hq;cases hq
   ·rintro⟨q,hq⟩;have:=z06 hq;simp at this
 ·rcases MR _ _ hx with⟨_,rfl⟩|⟨e,_⟩|⟨e,_⟩
  ·have:=hp.blocked;rw[hgr] at this;cases this
  ·omega
  ·exact absurd rfl e
theorem FM.closes(h:FM P F Φ cap End s gs w t){sl:Option (Nat×Nat)}{n:Node}{g:Goroutine}{l:List fB}{j:Nat}(hn:s.nodes[0]? =some n)(hg:gs[0]? =some g)(hr:Runs n g)(hst:n.stopped F)(ha:s.acts= .close j::l):
  ∃ gs' w' ops n' m st',runT P (crowd gs w sl) 0=(.next (crowd gs' w' sl),ops)/\s.hs[j]? =some st'/\FM P F Φ cap End {s with acts:=l,hs:=s.hs.set j st',nodes:=(s.nodes.set (j+1) m).set 0 n'} gs' w' (t++ops):=by
 obtain⟨hm,hO,hrel,hwalk⟩:=h.core.nd _ n hn;have hig:0<gs.size:=(z01.1 hg).1;have hstop:=hst w (hO▸hrel);rw[(h.main n g hn hg).Vk,ha] at hstop;obtain⟨cin,h1,_,hmw,g',hgr,hstep,hk⟩:=hstop;have hwf:=h.wf;rw[ha] at hwf;obtain⟨⟨hjk,hjc,hjf⟩,hwf⟩:=hwf;have hjs:j+1<gs.size:=by rw[h.size];omega
 have hgj:gs[j+1]? =some gs[j+1]:=z0g hjs;generalize hxe:gs[j+1]=x at hgj;have Rw:s.nodes[j+1]? =some (s.nodes[j+1]'(by rw[h.core.sz];exact hjs)):=z04 _
 generalize (s.nodes[j+1]'(by rw[h.core.sz];exact hjs))=m at Rw
 obtain⟨hm2,hO2,afc,afd⟩:=h.core.nd _ m Rw;have hm2:m.main=false:=hm2;obtain⟨anQ,cout,buf,cl,sn,rc,k1,k2,k3,k4,km⟩:=h.hand j _ _ Rw hgj;rw[h1] at k1;cases k1;have afb:cl=false:=by
  cases cl with
  |false=>rfl
  |true=>exact absurd (by rw[ha];exact List.mem_cons_self) (k4.1 rfl)
 subst afb;split at km
 case h_2=>cases km.1
 case h_3=>cases km.1
 case h_4=>exact km.elim
 rename_i lst hl;obtain⟨q1,q2,q3,q4⟩:=km;have hf:sK j s.acts=sK j l:=by rw[ha];simp[sK]
 have hs':stepG P (0==0) g w= .go g' (w.setChan cin cap buf true sn rc false) (closeEvents cin):=by rw[hr.stepG];exact hstep w cap buf sn rc false k3
 have hrun:=runT_crowd_go (P:=P) (sl:=sl) hg hs';have hmem:cin∈s.cs:=z06 h1;have hlt:cin<w.heap.size:=(z01.1 k3).1;have hT:Turns (λb=>b∈s.cs) w (w.setChan cin cap buf true sn rc false):=Turns.set w hmem ..;have hoth:∀ k c,k≠j+1->s.cs[k]? =some c->(w.setChan cin cap buf true sn rc false).heap[c]? =w.heap[c]? :=by
  intro k c hk hc;have:cin≠c:=λe=>by subst e;exact hk (idx_eq h.nd hc h1)
  simp[z0c,z02 this]
 have ap8:(w.setChan cin cap buf true sn rc false).heap[cin]? =some (.chan cap buf true sn rc false):=by simp[z0c,hlt]
 have ar1:mayWake P g=true:=by
  have:mayWake P g=mayWake P n.g:=by unfold mayWake;rw[hr.frame]
  rw[this];exact hmw
 obtain⟨x',hx',hrx⟩:∃ x',woken P g g' (w.setChan cin cap buf true sn rc false) x=x'/\Runs m x':=by
  rcases q4 with q4|⟨_,_,q4⟩
  ·exact⟨x,woken_running q4.status,q4⟩
  ·obtain⟨_,_,z,sh,rfl,_⟩:=q4;refine⟨{m.g with status:= .running,offers:=some (#[rcase cin z],sh)},?_,⟨_,rfl⟩⟩;simp[woken,ar1,hgr,Goroutine.again,parked,rcase,ap8]
 have hgs:(gs.map (woken P g g' (w.setChan cin cap buf true sn rc false))).setIfInBounds 0 g'=(gs.setIfInBounds (j+1) x').setIfInBounds 0 g':=by
  apply z19;intro k;by_cases hk0:0=k
  ·subst hk0;rw[z05 (by simpa using hig),z05 (by simpa using hig)]
  rw[z02 hk0,z02 hk0,z18];by_cases hkj:j+1=k
  ·subst hkj;rw[z05 hjs,hgj];simp[hx']
  ·rw[z02 hkj];cases hy:gs[k]? with
   |none=>rfl
   |some y=>
    simp only[z1a,z0a];rcases h.offers hy with hb|⟨rfl,_⟩|⟨i,n',ci,co,rfl,hn',h1',h2',⟨_,_,z',sh',rfl,_⟩|⟨v',hl',_,_,z',sh',rfl,_⟩⟩
    ·unfold woken;split
     ·exact again_running _ hb
     ·rfl
    ·exact absurd rfl hk0
    ·obtain⟨auy,atu,auz,cl2,sn2,rc2,r1,r2,r3,r4,rm⟩:=h.hand i _ _ hn' hy;rw[h1'] at r1;cases r1;split at rm
     ·rcases rm.2.2.2 with rr|⟨_,rr,_⟩
      ·have:=rr.status;cases this
      ·subst rr;exact woken_recv_open g g' (by rw[hoth (i+1) ci (λe=>hkj e.symm) h1'];exact r3)
     ·rcases rm.2.2 with rr|⟨_,_,_,_,_,e,_⟩
      ·have:=rr.status;cases this
      ·simp only[parked,Goroutine.mk.injEq,z0a,z1f] at e;have:=e.2.2.2.2.1;simp[rcase,scase] at this
     ·rcases rm.2.1.status with e|e<;>cases e
     ·exact rm.elim
    ·obtain⟨sn',hb⟩:=h.back co h2';exact woken_send_open g g' (by rw[hoth 0 co (by omega) h2'];exact hb)
 rw[hgs] at hrun;have hwk:Co P true F (aQ P F Φ End l s.cs s.got) g' ⟨w,s.O 0⟩:=by rw[<- hO];exact hk
 have hjl:j<s.hs.length:=(z00.1 hl).1;have hops:∀ op∈MemOp.ofEvents 0 g.frame.fn g.frame.place (closeEvents cin),op.g=0/\(op.act= .access ⟨.obj cin,false,true⟩\/op.act= .close cin):=by
  intro op hop;rw[ofEvents_eq] at hop;obtain⟨e,he,rfl⟩:=z0w.1 hop;simp only[closeEvents,z0s,z0d,z09,or_false] at he;rcases he with rfl|rfl
  ·exact⟨rfl, .inl rfl⟩
  ·exact⟨rfl, .inr rfl⟩
 refine⟨_,_,_,⟨true,aQ P F Φ End l s.cs s.got,g',⟨w,s.O 0⟩⟩,m, .hears lst,hrun,hl,?_⟩;refine h.both hn hg Rw hgj hwf hT (h.core.ti.sync h.core.ap (i:=0) (λop hop mk hmk=> ?_) (λop hop=>(hops op hop).1) λop hop a hta=> ?_) (λop hop=>by rw[(hops op hop).1];exact hig) rfl rfl (hT.rel h.core.ap _) hwk rfl (Runs.self hgr) hm2 hO2 (afc.trans (hT.rel h.core.ap _)) afd hrx (λq e=>by rw[hl] at e;cases e) (λq e=>by cases e) hjl (λc hc=>hoth 0 c (by omega) hc) (λc hc=>hoth _ c (by omega) hc) ?_ λi a y hij ha' hy=> ?_
 ·rcases(hops op hop).2 with e|e<;>rw[e] at hmk<;>cases hmk
 ·rcases(hops op hop).2 with e|e<;>rw[e] at hta<;>simp only[MemAct.touch?] at hta<;>cases hta;exact⟨cin,rfl,hmem,rfl⟩
 ·refine⟨cin,cout,buf,true,sn,rc,h1,k2,ap8,?_,?_⟩
  ·simp;exact hjc
  ·simp only[z03,if_true,hjl];exact⟨by rw[q1,hf],q2,q3, .inl hrx⟩
 ·refine(h.hand i a y ha' hy).frame ?_ ?_ (by simp[Ne.symm hij]) (λ_ h=>h) (λ_ h=>h) (λc hc=>hoth _ c (by omega) hc) λop hop aeT=> ?_
  ·rw[ha];simp[sK]
  ·rw[ha];simp[hij]
  ·rw[(hops op hop).1] at aeT;omega
end
end Go.Sx
