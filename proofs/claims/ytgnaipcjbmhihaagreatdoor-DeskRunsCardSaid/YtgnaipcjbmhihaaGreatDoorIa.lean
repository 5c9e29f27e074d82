/- A part of DeskRuns' proof. -/
import Derived.Test.YtgnaipcjbmhihaaGreatDoorHa
set_option linter.unusedVariables false
set_option linter.unusedSimpArgs false
open List renaming map_cons->z00,getD_cons_zero->z01,map_nil->z02,nil_append->z03,getD_cons_succ->z04,set_cons_zero->z05,set_cons_succ->z06,take_succ_cons->z07,take_zero->z08,length_pos_iff->z09,getElem?_eq_getElem->z0a,take_length->z0b,length_append->z0c,length_take->z0d,getElem_mem->z0f,map_append->z0g,length_cons->z0i,getD->z0j,mem_of_mem_take->z0l,all_eq_true->z0n,length_map->z0p,length_drop->z0q,mem_map->z0u,mem_of_mem_drop->z0v,mem_singleton->z0x,any_eq_false->z14,all_eq_false->z15,append_nil->z16,all_append->z18,all_cons->z1a
open Bool renaming false_ne_true->z0e,or_eq_false_iff->z0h,and_eq_true->z0r,or_eq_true->z0t,not_eq_false'->z0y,and_true->z1b
open Nat renaming le_trans->z0k,lt_or_ge->z0o,le_refl->z0s
open Go.Lib renaming join->z0m
open Option renaming some.injEq->z0w,map_some->z0z
open Go.IntKind renaming i64->z19
set_option maxRecDepth 100000
open Go Go.Sx Go.Proofs
namespace Go.Proofs.YtgnaipcjbmhihaaGreatDoor.Dk
open D Tx Tr Rc Fu Fa St Rg Sk Ah Ps
def uJ:List (By×Nat):=[([114,97,99,101,115],0),([102,117,108,108],0),([102,97,115,116],0),([119,97,114,110,115],0),([108,101,97,100,115],2),([115,116,97,109,112],1),([114,105,110,103],0),([100,114,111,112],1),([109,105,110],0),([115,105,122,101],0),([99,108,101,97,114],0)]
def doA(k:Nat)(l:List Ev)(n:List Int):Ans:=match k with
 |0=>(0,eP Vs (aU l),l)
 |1=>(0,eP QK (jE l l.length),l)
 |2=>(0,eP QK (outA l (Hg l 8) l.length),l)
 |3=>(0,eP waB (Gu.RS l l.length).2,l)
 |4=>((mD l (n.getD 0 0) (n.getD 1 0)).2,Q5 (mD l (n.getD 0 0) (n.getD 1 0)).1,l)
 |5=>if n.getD 0 0<l.length then(0,eP eF (stB l (n.getD 0 0).toNat),l) else(1,[],l)
 |6=>(0,au' (A8 (fD (Gr.gQ l) 5 5)),l)
 |7=>((gV l (n.getD 0 0)).2,[111,107],(gV l (n.getD 0 0)).1)
 |8=>if racy l=true then(0,eF (rZ l).length,l) else(7,[],l)
 |9=>(0,eF l.length,l)
 |_=>(0,[111,107],[])
def iy(w:By):List (By×Nat)->Nat->Option (Nat×Nat)
 |[],_=>none
 |p::r,k=>if w=p.1 then some (k,p.2) else iy w r (k+1)
def qy(w:List By):Bool:=w.all λx=>(xA x).2
def numsL(w:List By):List Int:=w.map λx=>(xA x).1
def Zg(l:List Ev)(w:List By):Ans:=match iy (w.getD 0 []) uJ 0 with
 |none=>(3,[],l)
 |some (k,many)=>if w.length=many+1 then(if qy (w.drop 1)=true then doA k l (numsL (w.drop 1)) else(3,[],l)) else(3,[],l)
def Pj(w:List By):Bool:=decide (w.length=3)&&(decide ((w.getD 0 []).length=2)&&decide ((w.getD 0 []).getD 0 0=116))
def kH(l:List Ev)(w:List By):Ans:=if Pj w=true then MW l (z0m w [32]) else if w=[] then(3,[],l) else Zg l w
def afs(e:Int):By:=[101,114,114,111,114,32]++eF e
def j11:PC:=(.seq (.leaf (.ops<|o7 5 1<|qo 6 (.ieq true [(8,(.st [(.int .i64),(.int .i64), .bool,(.int .u8)])),(10, .str),(11, .str),(176,(.int .i64)),(249,(.st [(.st [(.int .i64),(.int .i64)])])),(271,(.arr 6 1 (.int .i64))),(304,(.int .u8))] (.t 5) (.c .iP))<|.nil)) (.cond (.t 6) (.seq (.leaf (.ops<|o7 8 1<|qo 9 (.tas 38 (.agg [(.int .i64 0)]) (.t 8))<|o7 7 9<|oN 10 0 7<|oN 11 1 7<|qL [10,11,1,0]<|eo 2 (.alloc 38 (.agg [(.int .i64 0)]))<|oG 1 2 10<|o7 3 11<|.nil)) (.prune [3,1,2,0] (.seq (.seq (.leaf (.ops<|o7 12 3<|qF 13 12<|.nil)) (.cond (.t 13) (.OD (o7 14 1<|.nil) (.t 14)) (.leaf .skip))) (.leaf (.ops<|qL [2,0]<|oD 15 0 0 2<|o9 16 1 15<|oM 17 12 16<|qo 18 (.cat (.c (.str [101,114,114,111,114,32])) (.t 17))<|oG 1 0 18<|.nil))))) (.leaf .skip)))
theorem c11:fnR Tryz.prog qall 11 j11=some ((4,1,j11.flat),[],19):=by kernel_rfl
theorem w11:j11.wf 19=true:=by kernel_rfl
def Gl1(f:FuncId)(a:List SV)(m:List ay):Sx.Call:=(FH.rd 12 (.one .int) (.one .str) (λy=>okI y.1) (λy=>eF y.1) FH.none) f a m
theorem axh:type_of% (nq Gl1.eq_1):=nq Gl1.eq_1
theorem amq:aW Tryz.prog Gl1:=FH.aT (λy h=>Hy y.1 h) FH.none_ok
theorem amr(l:List Ev)(s:By):NY Tryz.prog 11 .returning .returning [.blk 31 (dD.aA l), .blk 9 (.str s)] [.blk 31 (dD.aA l), .blk 9 (.str s)]:=by
 refine NZ c11 w11 amq aeW (x:= .iP) (λJ=>⟨[.nilIface],by simp only[au],rfl⟩) rfl rfl rfl ?_
 unfold j11;simp only[go_sem,seval]
theorem aqP{J:Env}{e:Int}{v:Value}(h:bM J (tV e) v):∀ J,bM J (tV e) v:=by obtain⟨cs,h1,h2⟩:=h;refine λJ'=>⟨cs,?_,h2⟩;simp only[tV,au,bQ] at h1 ⊢;exact h1
theorem ams(l:List Ev)(s:By)(e:Int)(he:okI e){J:Env}{v:Value}(hv:bM J (tV e) v):NY Tryz.prog 11 (.panicking [{v:=v,recovered:=false}]) (.panicking [{v:=v,recovered:=true}])
  [.blk 31 (dD.aA l), .blk 9 (.str s)] [.blk 31 (dD.aA l), .blk 9 (.str (afs e))]:=by
 refine NZ c11 w11 amq (aeV v) (x:=tV e) (aqP hv) rfl rfl rfl ?_;unfold j11;simp only[go_sem,seval,axh,tV];have:=dR he;exact⟨he,by omega,rfl⟩
def azO:JC:=(.ops<|o7 17 5<|oP 18 17<|oH 19 18 3<|o7 20 19<|qL [20,5,0,4]<|.sc false 26 20 (o7 21 5<|qB 22 1 21 0<|o9 23 1 22<|qo 24 (.lens (.t 23))<|oH 25 24 2<|.nil) (.t 25)<|o7 27 26<|.sc false 33 27 (o7 28 5<|qB 29 1 28 0<|o9 30 1 29<|qo 31 (.sx (.t 30) (I 0))<|qo 32 (.cmp .eql (.t 31) (.c (.int .u8 116)))<|.nil) (.t 32)<|.nil)
def azP:JC:=(.ops<|eo 38 (.mJ (.make .str (.arr 0 0 (.st []))) [])<|qo 39 (.lF (.agg [(.int .i64 0), .jh]) [([.eG 0],0,1,(I 0)),([.eG 1],1,1,(.c (.fn 17 [])))])<|en (.mJ (.put .str (.arr 0 0 (.st []))) [(.t 38),(.c (.str [114,97,99,101,115])),(.t 39)])<|qo 40 (.lF (.agg [(.int .i64 0), .jh]) [([.eG 0],0,1,(I 0)),([.eG 1],1,1,(.c (.fn 18 [])))])<|en (.mJ (.put .str (.arr 0 0 (.st []))) [(.t 38),(.c (.str [102,117,108,108])),(.t 40)])<|qL [38,5,0,4]<|qo 41 (.lF (.agg [(.int .i64 0), .jh]) [([.eG 0],0,1,(I 0)),([.eG 1],1,1,(.c (.fn 19 [])))])<|en (.mJ (.put .str (.arr 0 0 (.st []))) [(.t 38),(.c (.str [102,97,115,116])),(.t 41)])<|qo 42 (.lF (.agg [(.int .i64 0), .jh]) [([.eG 0],0,1,(I 0)),([.eG 1],1,1,(.c (.fn 20 [])))])<|en (.mJ (.put .str (.arr 0 0 (.st []))) [(.t 38),(.c (.str [119,97,114,110,115])),(.t 42)])<|qL [38,5,0,4]<|qo 43 (.lF (.agg [(.int .i64 0), .jh]) [([.eG 0],0,1,(I 2)),([.eG 1],1,1,(.c (.fn 21 [])))])<|en (.mJ (.put .str (.arr 0 0 (.st []))) [(.t 38),(.c (.str [108,101,97,100,115])),(.t 43)])<|qo 44 (.lF (.agg [(.int .i64 0), .jh]) [([.eG 0],0,1,(I 1)),([.eG 1],1,1,(.c (.fn 22 [])))])<|en (.mJ (.put .str (.arr 0 0 (.st []))) [(.t 38),(.c (.str [115,116,97,109,112])),(.t 44)])<|qL [38,5,0,4]<|qo 45 (.lF (.agg [(.int .i64 0), .jh]) [([.eG 0],0,1,(I 0)),([.eG 1],1,1,(.c (.fn 23 [])))])<|en (.mJ (.put .str (.arr 0 0 (.st []))) [(.t 38),(.c (.str [114,105,110,103])),(.t 45)])<|qo 46 (.lF (.agg [(.int .i64 0), .jh]) [([.eG 0],0,1,(I 1)),([.eG 1],1,1,(.c (.fn 24 [])))])<|en (.mJ (.put .str (.arr 0 0 (.st []))) [(.t 38),(.c (.str [100,114,111,112])),(.t 46)])<|qL [38,5,0,4]<|qo 47 (.lF (.agg [(.int .i64 0), .jh]) [([.eG 0],0,1,(I 0)),([.eG 1],1,1,(.c (.fn 25 [])))])<|en (.mJ (.put .str (.arr 0 0 (.st []))) [(.t 38),(.c (.str [109,105,110])),(.t 47)])<|qo 48 (.lF (.agg [(.int .i64 0), .jh]) [([.eG 0],0,1,(I 0)),([.eG 1],1,1,(.c (.fn 26 [])))])<|en (.mJ (.put .str (.arr 0 0 (.st []))) [(.t 38),(.c (.str [115,105,122,101])),(.t 48)])<|qL [38,5,0,4]<|qo 49 (.lF (.agg [(.int .i64 0), .jh]) [([.eG 0],0,1,(I 0)),([.eG 1],1,1,(.c (.fn 27 [])))])<|en (.mJ (.put .str (.arr 0 0 (.st []))) [(.t 38),(.c (.str [99,108,101,97,114])),(.t 49)])<|o7 50 38<|o7 6 50<|.nil)
def axi:JC:=(.ops<|qL [6,5,0,4]<|o7 56 6<|o7 57 5<|qB 58 1 57 0<|o9 59 1 58<|qL [56,59,5,0,4]<|eo 60 (.mJ (.get .str (.arr 0 0 (.st [])) (.agg [(.int .i64 0), .jh]) true) [(.t 56),(.t 59)])<|o7 55 60<|qL [55,5,0,4]<|oN 61 0 55<|oN 62 1 55<|eo 7 (.alloc 45 (.agg [(.int .i64 0), .jh]))<|oG 2 7 61<|o7 8 62<|.nil)
def azQ:JC:=(.ops<|o7 86 13<|qo 87 (.ieq true [(8,(.st [(.int .i64),(.int .i64), .bool,(.int .u8)])),(10, .str),(11, .str),(176,(.int .i64)),(249,(.st [(.st [(.int .i64),(.int .i64)])])),(271,(.arr 6 1 (.int .i64))),(304,(.int .u8))] (.t 86) (.c .iP))<|o7 88 87<|qL [88,12,11,9,77,76,75,7,0,4]<|.sc true 93 88 (o7 89 12<|oM 90 12 89<|o7 91 11<|qo 92 (.seq true (.t 90) (.t 91))<|.nil) (.t 92)<|o7 94 93<|.sc true 97 94 (o7 95 12<|qA 96 95 0<|.nil) (.t 96)<|qL [97,11,9,12,77,76,75,7,0,4]<|o7 98 97<|.sc true 102 98 (o7 99 11<|qo 100 (.lens (.t 99))<|qJ 101 100 9<|.nil) (.t 101)<|.nil)
def azR:PC:=(.seq (.leaf (.ops<|oO 78 77 76<|.nil)) (.seq (.leaf (.cond (.t 78) .skip (.exit 0))) (.seq (.block 1 (.seq (.leaf (.ops<|oK 79 1 75 77<|o9 80 1 79<|o7 11 80<|.nil)) (.prune [11,9,77,76,75,7,0,4] (.seq (.aC (o7 82 11<|.nil) (some 83) (.fn 29) [(.t 82)] (o7 81 83<|oN 84 0 81<|oN 85 1 81<|o7 12 84<|o7 13 85<|.nil)) (.prune [13,12,11,9,77,76,75,7,0,4] (.seq (.seq (.leaf azQ) (.prune [102,9,12,77,76,75,7,0,4] (.cond (.t 102) (.aC (.nil) (some 103) (.fn 28) [(I 3)] (.nil)) (.leaf .skip)))) (.prune [9,12,77,76,75,7,0,4] (.leaf (.ops<|o7 104 9<|o7 105 12<|eo 106 (.qj 3 1 1 (.int .i64 0) [(0,(.t 105))])<|oW 107 3 1 8 104 106<|o7 9 107<|.nil))))))))) (.prune [77,76,75,9,7,0,4] (.leaf (.ops<|oJ 108 77 1<|o7 77 108<|.nil))))))
def azS:PC:=(.jg 9 wM.gq<| .prune [7,0,9,4] (.seq (.aC (oD 109 1 1 7<|o9 110 1 109<|o7 111 0<|o7 112 9<|.nil) (some 113) (.val (.t 110)) [(.t 111),(.t 112)] (oG 1 4 113<|.nil)) (.leaf .ret)))
def azT:PC:=(.seq (.leaf (.ops<|o7 15 1<|eo 16 (.call 13 [(.t 15),(.c (.fn 14 []))])<|o7 5 16<|.nil)) (.seq (.seq (.leaf azO) (.prune [33,0,5,4] (.cond (.t 33) (.seq (.aC (o7 34 0<|o7 35 5<|eo 36 (.call 16 [(.t 35),(.c (.str [32]))])<|.nil) (some 37) (.fn 15) [(.t 34),(.t 36)] (oG 1 4 37<|.nil)) (.leaf .ret)) (.leaf .skip)))) (.prune [5,0,4] (.seq (.leaf azP) (.prune [5,6,0,4] (.seq (.seq (.leaf (.ops<|o7 51 5<|oP 52 51<|oH 53 52 0<|.nil)) (.cond (.t 53) (.aC (.nil) (some 54) (.fn 28) [(I 3)] (.nil)) (.leaf .skip))) (.seq (.leaf axi) (.prune [8,5,7,0,4] (.seq (.seq (.leaf (.ops<|o7 63 8<|qF 64 63<|o7 65 64<|qL [65,5,7,0,4]<|.sc true 72 65 (o7 66 5<|oP 67 66<|qo 68 (.ar .sub (.t 67) (I 1))<|oD 69 0 0 7<|o9 70 1 69<|qo 71 (.cmp .neq (.t 68) (.t 70))<|.nil) (.t 71)<|.nil)) (.prune [72,5,7,0,4] (.cond (.t 72) (.aC (.nil) (some 73) (.fn 28) [(I 3)] (.nil)) (.leaf .skip)))) (.prune [5,7,0,4] (.seq (.leaf (.ops<|oU 9<|.nil)) (.seq (.seq (.leaf (.ops<|o7 74 5<|qo 75 (.slc 1 (.t 74) (some (I 1)) none none)<|oP 76 75<|o8 77 0<|.nil)) (.block 0 (.bn 9 3 1 (.loop [76,75,7,0,4] [77,9] azR)))) azS))))))))))))
def j7:LC:=⟨(.ops<|eo 4 (.alloc 9 (.str []))<|.nil),qo 14 (.GL 11 [(.t 4)])<|.nil,(.t 14),azT⟩
theorem c7:fnL Tryz.prog qall 7 j7.z=some (j7.flat,[.cell 4 9],114):=by kernel_rfl
theorem w7:j7.wf 114=true:=by kernel_rfl
def QF:Nat->FuncId
 |0=>17
 |1=>18
 |2=>19
 |3=>20
 |4=>21
 |5=>22
 |6=>23
 |7=>24
 |8=>25
 |9=>26
 |_=>27
def uG:List (SV×SV):=uJ.zipIdx.map λp=>(.str p.1.1, .agg [.int .i64 p.1.2, .fn (QF p.2) []])
theorem aqQ:gG .str (.str [99,108,101,97,114]) (.agg [.int .i64 0, .fn 27 []]) (gG .str (.str [115,105,122,101]) (.agg [.int .i64 0, .fn 26 []]) (gG .str (.str [109,105,110]) (.agg [.int .i64 0, .fn 25 []]) (gG .str (.str [100,114,111,112]) (.agg [.int .i64 1, .fn 24 []]) (gG .str (.str [114,105,110,103]) (.agg [.int .i64 0, .fn 23 []]) (gG .str (.str [115,116,97,109,112]) (.agg [.int .i64 1, .fn 22 []]) (gG .str (.str [108,101,97,100,115]) (.agg [.int .i64 2, .fn 21 []]) (gG .str (.str [119,97,114,110,115]) (.agg [.int .i64 0, .fn 20 []]) (gG .str (.str [102,97,115,116]) (.agg [.int .i64 0, .fn 19 []]) (gG .str (.str [102,117,108,108]) (.agg [.int .i64 0, .fn 18 []]) (gG .str (.str [114,97,99,101,115]) (.agg [.int .i64 0, .fn 17 []]) []))))))))))=uG:=by rfl
theorem aaB(k:By):∀ (c:List (By×Nat)) (j:Nat),dQ .str (.str k) ((c.zipIdx j).map λp=>(.str p.1.1, .agg [.int .i64 p.1.2, .fn (QF p.2) []]))=(iy k c j).map λp=>SV.agg [.int .i64 p.2, .fn (QF p.1) []]
 |[],_=>rfl
 |p::r,j=>by
  rw[List.zipIdx_cons,z00,dQ,iy];by_cases h:k=p.1
  ·subst h;rw[if_pos rfl];simp[nJ]
  ·rw[if_neg h,<- aaB k r (j+1)];simp[nJ,h]
theorem Vl(k:By):dQ .str (.str k) uG=(iy k uJ 0).map λp=>SV.agg [.int .i64 p.2, .fn (QF p.1) []]:=aaB k uJ 0
theorem Jq(k:By):∀ (c:List (By×Nat)) (j:Nat) (p:Nat×Nat),iy k c j=some p->j<=p.1/\p.1<j+c.length/\p.2=(c.getD (p.1 - j) ([],0)).2
 |[],_,_,h=>by cases h
 |a::r,j,p,h=>by
  rw[iy] at h;by_cases hk:k=a.1
  ·rw[if_pos hk] at h;simp only[z0w] at h;subst h;exact⟨z0s _,by simp only[z0i];omega,by simp⟩
  ·rw[if_neg hk] at h;obtain⟨h1,h2,h3⟩:=Jq k r (j+1) p h;refine⟨by omega,by simp only[z0i];omega,?_⟩
   rw[h3,show p.1 - j=(p.1 - (j+1))+1 by omega,z04]
theorem FQ{k:By}{p:Nat×Nat}(h:iy k uJ 0=some p):p.1<11/\p.2=(uJ.getD p.1 ([],0)).2:=by obtain⟨_,h2,h3⟩:=Jq k uJ 0 p h;exact⟨by have:uJ.length=11:=rfl;omega,h3⟩
theorem axj{l:List Ev}{n:List Int}(k:Nat)(hk:k<11)(hn:n.length=(uJ.getD k ([],0)).2)(h0:∀ x∈n,0<=x)(h:(aF l).2=0):zx (QF k) (wM.aA n) l (doA k l n):=by
 match k,hk with
 |0,_=>exact xC (aor l n h)
 |1,_=>exact xC (avk l n h)
 |2,_=>exact xC (avl l n h)
 |3,_=>exact xC (aot l n h)
 |4,_=>match n,hn with
  |[a,b],_=>exact aov l a b
 |5,_=>match n,hn,h0 with
  |[a],_,h0=>exact aow l a (h0 a (z0x.2 rfl)) h
 |6,_=>exact xC (avq l n h)
 |7,_=>match n,hn with
  |[a],_=>exact avr l a
 |8,_=>exact ayG l n h
 |9,_=>exact xC (m_size l n h)
 |10,_=>exact xC (aou l n)
theorem amu:((List.range 11).all λk=>iF Tryz.prog (QF k))=true:=by kernel_rfl
theorem aqR(k:Nat)(hk:k<11):iF Tryz.prog (QF k)=true:=z0n.1 amu k (List.mem_range.2 hk)
abbrev Oh:DT (List By):=DT.list 1 .str
def Gln(f:FuncId)(a:List SV)(m:List ay):Sx.Call:=(FH.pz 13 (.two .str .fnc) (.one Oh) (λy=>y.2.1=14/\y.1.length<=200) (λy=>bV y.1)<|
 FH.rd 16 (.two Oh .str) (.one .str) (λy=>(z0m y.1 y.2.1).length<=140737488355328/\y.1.length<=1000000) (λy=>z0m y.1 y.2.1)<|
 FH.rd 12 (.one .int) (.one .str) (λy=> -9223372036854775808<=y.1/\y.1<=9223372036854775807) (λy=>Lib.itoa y.1) FH.none) f a m
theorem BF:type_of% (nq Gln.eq_1):=nq Gln.eq_1
theorem Wp:aW Tryz.prog Gln:=FH.oq (λy h=>by obtain⟨l,f,u⟩:=y;obtain⟨h1,h2⟩:=h;simp only at h1 h2;subst h1;have:=yK l;exact ahs l (by omega) (by omega))<|FH.aT (λy h=>wZ y.1 y.2.1 h.1 h.2)<|FH.aT (λy h=>OT y.1 h.1 h.2) FH.none_ok
theorem aaC{σ:Type}(d:DT σ)(y:σ){f:FuncId}{l:List Ev}{r:Ans}{m:List ay}{K R:SV->List ay->Prop}(hf:iF Tryz.prog f=true)(h:zx f (d.aA y) l r)(hm:ah m 0= .blk 31 (dD.aA l))
  (h0:r.1=0->K (.str r.2.1) (m.set 0 (.blk 31 (dD.aA r.2.2)))) (h1:r.1≠0->R (tV r.1) (m.set 0 (.blk 31 (dD.aA l)))):OG Tryz.prog GT f [.ptr 0 [] 0,d.aA y] m K R:=by
 refine⟨hf,?_⟩;by_cases he:r.1=0
 ·exact .inl ⟨_,_,IZ sF (A:= .one d) (y:=(y,())) (h.1 he) (λ_=>rfl) hm,h0 he⟩
 ·exact .inr ⟨_,_,IZ sF (A:= .one d) (y:=(y,())) (h.2 he) (λr=>Z4 r _) hm,h1 he⟩
theorem ZW(w:List By):(decide ((w.length:Int)=3)&&decide (((w.getD 0 DT.str.aI).length:Int)=2)&&decide ((((w.getD 0 DT.str.aI).getD 0 0).toNat:Int)=116))=Pj w:=by
 have e:∀ (n k:Nat),decide ((n:Int)=(k:Int))=decide (n=k):=λn k=>by congr 1;exact propext ⟨λh=>by omega,λh=>by omega⟩
 have e3:decide ((((w.getD 0 []).getD 0 0).toNat:Int)=116)=decide ((w.getD 0 []).getD 0 0=116):=by
  congr 1
  refine propext ⟨λh=>UInt8.toNat_inj.1 ?_,λh=>by rw[h];rfl⟩
  have:(116:UInt8).toNat=116:=rfl;omega
 have e1:=e w.length 3;have e2:=e (w.getD 0 []).length 2;show(decide ((w.length:Int)=3)&&decide (((w.getD 0 []).length:Int)=2)&&decide ((((w.getD 0 []).getD 0 0).toNat:Int)=116))=_;rw[Pj,e3,<- Bool.and_assoc];have e1':decide ((w.length:Int)=3)=decide (w.length=3):=e1;have e2':decide (((w.getD 0 []).length:Int)=2)=decide ((w.getD 0 []).length=2):=e2;rw[e1',e2']
theorem axk{f:FuncId}{args:List SV}{x:SV}{m:List ay}{K R:SV->List ay->Prop}(hf:iF Tryz.prog f=true)(h:FnOK Tryz.prog f args [] x [])(ha:dW (λ_=>none) args=args)(hx:∀ r,ren r x=x)(hK:K x m):OG Tryz.prog GT f args m K R:=by refine⟨hf, .inl ⟨x,m,?_,hK⟩⟩;have:=wV (m:=m) (args:=args) sF (h.g GT) ha;rw[hx] at this;simpa using this
theorem amv(s:By)(r:Nat->Option Nat):ren r (.bK [.int .i64 (mQ s),nI s])= .bK [.int .i64 (mQ s),nI s]:=by rcases UJ s with e|e<;>simp only[e,ren,dW]
theorem awt(l:List Ev)(s:By)(hs:s.length<=200)(h:(aF l).2=0)(he:okI (kH l (bV s)).1):
  OE Tryz.prog GT .returned 7 [.ptr 0 [] 0, .str s] (KQ l) (.str (if (kH l (bV s)).1=0 then(kH l (bV s)).2.1 else afs (kH l (bV s)).1)) (KQ (if (kH l (bV s)).1=0 then(kH l (bV s)).2.2 else l)):=by
 generalize hr:kH l (bV s)=r at he ⊢;refine amm sF c7 w7 Wp (df:=11) (by kernel_rfl) rfl rfl rfl (E:=λx s0=>r.1≠0/\x=tV r.1/\s0=[]) (amr _ _) (λx s0 J v hx hv=> ?_) ?_
 ·obtain⟨h1,rfl,rfl⟩:=hx;rw[if_neg h1,if_neg h1];exact ams l [] r.1 he hv
 ·unfold j7;simp only[LC.wp];simp only[go_sem,seval,z03,z02,z00,ah,z01];unfold azT;unfold azO;simp only[go_sem,seval,BF,hs,z02,z00];have hw:∀ x∈bV s,x≠[]/\x.length<=200:=λx hx=>⟨(uh hx).1,z0k (uh hx).2 hs⟩;have hwl:(bV s).length<=201:=z0k (yK s) (by omega)
  generalize bV s=w at hr hw hwl ⊢;rw[ZW];refine⟨λ_=>by omega,λh1=> ?_,λht=> ?_,λht=> ?_⟩
  ·simp only[z0r,decide_eq_true_eq] at h1;omega
  ·have hj:(z0m w [32]).length<=100000:=by have:=vP (k:=200) (xs:=w) (λx hx=>(hw x hx).2);omega
   refine⟨⟨by omega,by omega⟩,?_⟩
   rw[kH,if_pos ht] at hr;refine aaC DT.str (z0m w [32]) (r:=r) (l:=l) (by kernel_rfl) (hr▸avs l _ hj h) rfl (λh0=> ?_) (λh0=> ?_)
   ·simp only[h0];simp only[go_sem,seval,yx,z02,z06,z05,z00,z07,z08,ah,z01,z04]
   ·simp only[h0];simp only[go_sem,seval,yx,z02,z05,z00,z07,z08];exact⟨[],⟨h0,rfl⟩,rfl⟩
  ·unfold azP;simp only[go_sem,seval,aqQ,z03,z02,z06,z05,z00,z07,z08,ah,z01,z04];rw[kH,if_neg (by rw[ht];exact z0e)] at hr
   refine⟨λh0=> ?_,λh0=> ?_⟩
   ·have hw0:w=[]:=List.length_eq_zero_iff.1 (by omega)
    rw[if_pos hw0] at hr;subst hr;refine gy (λh'=>absurd h' (by decide)) (λ_=> ?_)
    simp only[go_sem,seval,yx,z02,z00,z07,z08];exact⟨[],rfl,rfl⟩
   ·have hw0:w≠[]:=λe=>h0 (by rw[e];rfl)
    rw[if_neg hw0,Zg] at hr;cases hp:iy (w.getD 0 []) uJ 0 with
    |none=>
     have hf:dQ .str (.str (w.getD 0 DT.str.aI)) uG=none:=by rw[Vl];exact congrArg _ hp
     rw[hp] at hr;simp only at hr;subst hr;unfold axi;simp only[go_sem,seval,↓hf,Option.getD_none,Option.isSome_none,z03,z02,z06,z05,z00,z08,ah,z01,z04];refine⟨by omega,gy (λh'=>absurd h' (by decide)) (λ_=> ?_)⟩
     simp only[go_sem,seval,yx,z02,z00,z07,z08];exact⟨[],rfl,rfl⟩
    |some p=>
     obtain⟨hp1,hp2⟩:=FQ hp;have hf:dQ .str (.str (w.getD 0 DT.str.aI)) uG=some (.agg [.int .i64 p.2, .fn (QF p.1) []]):=by rw[Vl];exact congrArg (Option.map _) hp
     rw[hp] at hr;simp only at hr;unfold axi;simp only[go_sem,seval,↓hf,Option.getD_some,Option.isSome_some,z03,z02,z06,z05,z00,z08,ah,z01,z04];have hwr:z19.wrap ((w.length:Int) - 1)=(w.length:Int) - 1:=aY;rw[hwr];refine⟨by omega,λhm=> ?_,λhm=> ?_⟩
     ·rw[if_neg (by omega)] at hr
      subst hr;refine gy (λh'=>absurd h' (by decide)) (λ_=> ?_)
      simp only[go_sem,seval,yx,z02,z00,z07,z08];exact⟨[],rfl,rfl⟩
     ·rw[if_pos (by omega)] at hr
      refine⟨⟨by omega,z0s _⟩,?_⟩
      rw[z0b];have hv:∀ x∈w.drop 1,x≠[]/\x.length<=200:=λx hx=>hw x (z0v hx);have hvl:(w.drop 1).length=p.2:=by rw[z0q];omega
      generalize w.drop 1=v at hr hv hvl ⊢;have hvb:v.length<=201:=by omega
      refine arw Nat (λi=>[.int .i64 i, .vec 4 (numsL (v.take i)).length]) (λi=>[.blk 31 (dD.aA l), .blk 9 (.str []), .mp .str (.arr 0 0 (.st [])) uG, .blk 45 (.agg [.int .i64 p.2, .fn (QF p.1) []]), .vec 3 1 ((numsL (v.take i)).map DT.int.aA)]) (λi=>i<=v.length/\qy (v.take i)=true) (λi=>v.length - i) 0 ⟨by omega,rfl⟩ ?_ rfl ?_
      ·simp only[go_sem,seval,z08];rfl
      ·rintro i ⟨hi,uo⟩;unfold azR;simp only[go_sem,seval,z02,z00];refine⟨λh1=> ?_,λh1=> ?_⟩
       ·have hil:i<v.length:=by omega
        have hxm:v.getD i []∈v:=by rw[z0j,z0a hil];exact z0f hil
        have hxl:=(hv _ hxm).2;have hxd:v.getD i DT.str.aI=v.getD i []:=rfl;rw[hxd];refine⟨⟨by omega,by omega⟩,axk (by kernel_rfl) (auQ _ (by omega)) rfl (amv _) ?_⟩
        unfold azQ;cases hn:(xA (v.getD i [])).2 with
        |true=>
         obtain⟨a1,a2,a3,a4,a5,a6⟩:=Ho hn;simp only[go_sem,seval,BF,a1,a2,a3,z03,z02,z06,z05,z00,z07,z08,ah,z01,z04];refine⟨⟨by omega,by omega⟩,λhc=> ?_,λhc=> ?_⟩
         ·exact absurd hc (by simp only[z0t,decide_eq_true_eq];omega)
         ·have ht1:v.take (i+1)=v.take i++[v.getD i []]:=bH [] hil;have hl1:(numsL (v.take i)).length<=201:=by rw[numsL,z0p,z0d];omega
          have hn1:numsL (v.take (i+1))=numsL (v.take i)++[(xA (v.getD i [])).1]:=by rw[ht1,numsL,z0g];rfl
          have ho1:qy (v.take (i+1))=true:=by rw[ht1,qy,z18];simp only[z1a,List.all_nil,hn,z1b];exact uo
          refine⟨by omega,i+1,⟨by omega,ho1⟩,by omega,⟨aY,?_⟩,?_⟩
          ·rw[hn1,z0c];rfl
          ·rw[hn1,z0g];rfl
        |false=>
         have hno:qy v=false:=by rw[qy,z15];exact⟨_,hxm,by rw[hn];exact z0e⟩
         rw[if_neg (by rw[hno];exact z0e)] at hr
         subst hr;rcases UJ (v.getD i []) with e|e
         ·have hb:=Qp e;simp only[go_sem,seval,BF,e,hb,z03,z02,z06,z05,z00,z07,z08,ah,z01,z04];refine⟨λhc=> ?_,λhc=> ?_⟩
          ·refine gy (λh'=>absurd h' (by decide)) (λ_=> ?_)
           simp only[go_sem,seval,yx,z02,z00,z07,z08];exact⟨[],rfl,rfl⟩
          ·simp only[z0h,z0y,decide_eq_true_eq,decide_eq_false_iff_not] at hc;have:=awP hn (hv _ hxm).1 e hc.1.1 (by omega)
           omega
         ·simp only[go_sem,seval,BF,e,z03,z02,z06,z05,z00,z07,z08,ah,z01,z04];refine gy (λh'=>absurd h' (by decide)) (λ_=> ?_)
          simp only[go_sem,seval,yx,z02,z00,z07,z08];exact⟨[],rfl,rfl⟩
       ·obtain rfl:i=v.length:=by omega
        rw[z0b] at uo ⊢;unfold azS;simp only[go_sem,seval,dK,z03,z02,z06,z05,dF,z00,z07,z08,ah,z01,z04];rw[if_pos uo] at hr;refine aaC wM (numsL v) (r:=r) (l:=l) (aqR _ hp1) (hr▸axj p.1 hp1 (by rw[numsL,z0p];omega) (λx hx=> ?_) h) rfl (λh0=> ?_) (λh0=> ?_)
        ·obtain⟨y,hy,rfl⟩:=z0u.1 hx;exact(Ho (z0n.1 uo y hy)).2.2.2.1
        ·simp only[h0];simp only[go_sem,seval,yx,z02,z06,z05,z00,z07,z08,ah,z01,z04]
        ·simp only[h0];simp only[go_sem,seval,yx,z02,z05,z00,z07,z08];exact⟨[],⟨h0,rfl⟩,rfl⟩
end Go.Proofs.YtgnaipcjbmhihaaGreatDoor.Dk
namespace Go.Proofs.YtgnaipcjbmhihaaGreatDoor.Dk
open D Tx Tr Rc Fu Fa St Rg Sk Ah Ps
theorem mY{n:Int}(h:(decide (0<=n)&&decide (n<1000000))=true):okI n:=by simp only[z0r,decide_eq_true_eq] at h;exact h
theorem alb(l:List Ev)(e:Ev):okI (kP l e):=by
 unfold kP
 repeat' split
 all_goals exact mY rfl
theorem Nu(l:List Ev):∀ (r:List Ev) (i:Nat),okI (qP l r i).2
 |[],_=>mY rfl
 |e::r,i=>by
  rw[qP];split
  ·exact Nu l r (i+1)
  ·exact alb _ _
theorem alc(l:List Ev):okI (aF l).2:=by
 unfold aF;split
 ·exact mY rfl
 ·exact Nu l l 0
def wF(r:Ans):Prop:=okI r.1/\(r.1=0->(aF r.2.2).2=0)
theorem ans_of{l:List Ev}{e:Int}{s:By}(he:okI e)(h:(aF l).2=0):wF (e,s,l):=⟨he,λ_=>h⟩
theorem aew(k:Nat)(n:List Int){l:List Ev}(h:(aF l).2=0):wF (doA k l n):=by
 have h0:okI 0:=mY rfl;unfold doA;split<;>try (exact ans_of h0 h)
 ·refine ans_of ?_ h;unfold mD;rw[CU h,if_neg (by simp)]
  split<;>exact mY rfl
 ·split
  ·exact ans_of h0 h
  ·exact ans_of (mY rfl) h
 ·unfold gV;rw[if_pos h];split
  ·exact⟨mY rfl,λh=>absurd h (by decide)⟩
  ·split
   ·rename_i hc;exact ans_of h0 hc
   ·exact⟨mY rfl,λh=>absurd h (by decide)⟩
 ·split
  ·exact ans_of h0 h
  ·exact ans_of (mY rfl) h
 ·exact ans_of h0 (by decide)
theorem yJ{l:List Ev}(w:List By)(h:(aF l).2=0):wF (kH l w):=by
 have h3:okI 3:=mY rfl;unfold kH;split
 ·unfold MW;split
  ·exact⟨alc _,λh=>h⟩
  ·rename_i he;refine⟨?_,λh=>absurd h he⟩;unfold jU;split<;>exact mY rfl
 ·split
  ·exact ans_of h3 h
  ·unfold Zg;split
   ·exact ans_of h3 h
   ·split
    ·split
     ·exact aew _ _ h
     ·exact ans_of h3 h
    ·exact ans_of h3 h
def vF(l:List Ev)(s:By):By×List Ev:=if (kH l (bV s)).1=0 then((kH l (bV s)).2.1,(kH l (bV s)).2.2) else(afs (kH l (bV s)).1,l)
theorem YF{l:List Ev}(s:By)(h:(aF l).2=0):(aF (vF l s).2).2=0:=by
 unfold vF;split
 ·exact(yJ _ h).2 ‹_›
 ·exact h
theorem aqb{l:List Ev}{s:By}{i:Nat}{m:List ay}{K R:SV->List ay->Prop}(hs:s.length<=200)(h:(aF l).2=0)(hm:ah m i= .blk 31 (dD.aA l))
  (hK:K (.str (vF l s).1) (m.set i (.blk 31 (dD.aA (vF l s).2)))):OG Tryz.prog GT 7 [.ptr i [] 0, .str s] m K R:=by
 refine⟨by kernel_rfl, .inl ⟨_,_,IZ sF (A:= .one .str) (y:=(s,())) (awt l s hs h (yJ _ h).1) (λ_=>rfl) hm,?_⟩⟩
 have e1:(vF l s).1=if (kH l (bV s)).1=0 then(kH l (bV s)).2.1 else afs (kH l (bV s)).1:=by unfold vF;split<;>rfl
 have e2:(vF l s).2=if (kH l (bV s)).1=0 then(kH l (bV s)).2.2 else l:=by unfold vF;split<;>rfl
 rw[<- e1,<- e2];exact hK
def Fp(ls:List By):List Ev×List By:=ls.foldl (λp s=>((vF p.1 s).2,p.2++[(vF p.1 s).1])) ([],[])
theorem Q8(ls:List By)(s:By):Fp (ls++[s])=((vF (Fp ls).1 s).2,(Fp ls).2++[(vF (Fp ls).1 s).1]):=by rw[Fp,List.foldl_append];rfl
theorem afv(ls:List By):(aF (Fp ls).1).2=0/\(Fp ls).2.length=ls.length:=by
 have key:∀ (ls:List By) (p:List Ev×List By),(aF p.1).2=0->(aF (ls.foldl (λp s=>((vF p.1 s).2,p.2++[(vF p.1 s).1])) p).1).2=0/\(ls.foldl (λp s=>((vF p.1 s).2,p.2++[(vF p.1 s).1])) p).2.length=p.2.length+ls.length:=by
  intro ls
  induction ls with
  |nil=>intro p h;exact⟨h,rfl⟩
  |cons s r ih=>
   intro p h;rw[List.foldl_cons];obtain⟨h1,h2⟩:=ih ((vF p.1 s).2,p.2++[(vF p.1 s).1]) (YF s h);refine⟨h1,?_⟩;rw[h2];simp only[z0c,z0i,List.length_nil];omega
 have:=key ls ([],[]) (by decide)
 rw[Fp];exact⟨this.1,by simpa using this.2⟩
def AA(ls:List By):Bool:=decide (60<ls.length)||ls.any λs=>decide (200<s.length)
def awu:JC:=(qN (oO 16 15 14<|.nil) (.seq (qO 16 .skip (.exit 0)) (.seq (.block 1 (qN (oK 17 1 13 15<|o9 18 1 17<|o7 5 18<|.nil) (qN (qL [5,15,14,13,0]<|o7 19 5<|qo 20 (.lens (.t 19))<|qJ 21 20 200<|.nil) (qM [21,15,14,13,0] (qO 21 (qN (oU 2<|o8 3 2<|.nil) .ret) .skip))))) (qM [15,14,13,0] (.ops<|oJ 22 15 1<|o7 15 22<|.nil)))))
def azd:PC:=(.seq (.leaf (.ops<|oO 28 27 26<|.nil)) (.seq (.leaf (.cond (.t 28) .skip (.exit 2))) (.seq (.block 3 (.seq (.leaf (.ops<|oK 29 1 25 27<|o9 30 1 29<|o7 9 30<|.nil)) (.aC (qL [7,6,9,27,26,25]<|o7 31 7<|o7 32 6<|o7 33 9<|.nil) (some 34) (.fn 7) [(.t 32),(.t 33)] (qL [34,31,27,26,25,6]<|eo 35 (.qj 9 1 1 (.str []) [(0,(.t 34))])<|oW 36 9 1 16 31 35<|o7 7 36<|.nil)))) (.prune [27,26,25,7,6] (.leaf (.ops<|oJ 37 27 1<|o7 27 37<|.nil))))))
def aze:PC:=(.prune [7] (.leaf (.seq (.ops<|o7 38 7<|o7 2 38<|o8 3 0<|.nil) .ret)))
def azf:PC:=(.prune [0] (.seq (.leaf (.ops<|qo 23 (.lF (.agg [.bF]) [])<|oV 24 31 23<|o7 6 24<|.nil)) (.Bz 6 dD.gq (.seq (.leaf (.ops<|oU 7<|.nil)) (.seq (.seq (.leaf (.ops<|o7 25 0<|oP 26 25<|o8 27 0<|.nil)) (.block 2 (.bn 7 9 1 (.loop [26,25,6] [27,7] azd)))) aze)))))
def j4:PC:=(.seq (.leaf (.ops<|oU 2<|o8 3 0<|.nil)) (.seq (.leaf (.seq (.ops<|o7 10 0<|oP 11 10<|qJ 12 11 60<|.nil) (.cond (.t 12) (.seq (.ops<|oU 2<|o8 3 2<|.nil) .ret) .skip))) (.seq (.leaf (.seq (.ops<|qL [0]<|o7 13 0<|oP 14 13<|o8 15 0<|.nil) (.prune [15,14,13,0] (.block 0 (.loop [14,13,0] [15] awu))))) azf)))
theorem c4:fnP Tryz.prog qall 4 j4=some (j4.flat,[.tmp 2, .tmp 3],39):=by kernel_rfl
theorem w4:j4.wf 39=true:=by kernel_rfl
theorem agk(ls:List By)(h:AA ls=true):OE Tryz.prog GT .returned 4 [Oh.aA ls] [] (.bK [.bF, .int .i64 2]) []:=by
 refine pO sF c4 w4 FH.none_ok rfl ?_;unfold j4;simp only[go_sem,seval,z03,z02,dF,ah];intro h0;refine aZ Nat (λi=>[.int .i64 i]) (λ_=>[]) (λi=>i<=ls.length/\∀ s∈ls.take i,s.length<=200) (λi=>ls.length - i) 0 ⟨by omega,λs hs=>by cases hs⟩ ?_ rfl ?_
 ·simp only[go_sem,seval]
 ·rintro i ⟨hi,hs⟩;unfold awu;simp only[go_sem,seval,z03,z02,dF,z08,ah];refine⟨λh1=> ?_,λh1=> ?_⟩
  ·have hil:i<ls.length:=by omega
   have hx:ls.getD i DT.str.aI=ls.getD i []:=rfl;rw[hx];have ht:ls.take (i+1)=ls.take i++[ls.getD i []]:=bH [] hil;refine⟨⟨by omega,by omega⟩,λhc=>⟨i+1,⟨by omega,?_⟩,by omega,?_⟩⟩
   ·intro s hsm;rw[ht,List.mem_append] at hsm;rcases hsm with hsm|hsm
    ·exact hs s hsm
    ·obtain rfl:=z0x.1 hsm;omega
   ·exact aY
  ·obtain rfl:i=ls.length:=by omega
   rw[z0b] at hs;rw[AA,z0t,decide_eq_true_eq,List.any_eq_true] at h;rcases h with h|⟨s,h2,h3⟩
   ·omega
   ·have:=hs s h2;simp only[decide_eq_true_eq] at h3;omega
theorem anf(ls:List By)(h:AA ls=false):OE Tryz.prog GT .returned 4 [Oh.aA ls] [] (.bK [.vec 0 (Fp ls).2.length, .int .i64 0]) [.vec 9 1 ((Fp ls).2.map DT.str.aA)]:=by
 simp only[AA,z0h,decide_eq_false_iff_not,z14,decide_eq_true_eq] at h;refine pO sF c4 w4 FH.none_ok rfl ?_;unfold j4;simp only[go_sem,seval,z03,z02,dF,ah];refine⟨λh0=>by omega,λh0=> ?_⟩
 refine aZ Nat (λi=>[.int .i64 i]) (λ_=>[]) (λi=>i<=ls.length) (λi=>ls.length - i) 0 (by omega) ?_ rfl ?_
 ·simp only[go_sem,seval]
 ·intro i hi;unfold awu;simp only[go_sem,seval,z03,z02,dF,z08,ah];refine⟨λh1=> ?_,λh1=> ?_⟩
  ·have hil:i<ls.length:=by omega
   have hx:ls.getD i DT.str.aI=ls.getD i []:=rfl;have hxm:ls.getD i []∈ls:=by rw[z0j,z0a hil];exact z0f hil
   have:=h.2 _ hxm;rw[hx];refine⟨⟨by omega,by omega⟩,λhc=>by omega,λhc=>⟨i+1,by omega,by omega,?_⟩⟩
   exact aY
  ·unfold azf;simp only[go_sem,seval,z03,z02,z05,dF,ah,z01];refine arw Nat (λi=>[.int .i64 i, .vec 1 (Fp (ls.take i)).2.length]) (λi=>[.blk 31 (dD.aA (Fp (ls.take i)).1), .vec 9 1 ((Fp (ls.take i)).2.map DT.str.aA)]) (λi=>i<=ls.length) (λi=>ls.length - i) 0 (by omega) ?_ ?_ ?_
   ·simp only[go_sem,seval,z08];rfl
   ·rfl
   ·intro i hi;obtain⟨g1,g2⟩:=afv (ls.take i);rw[z0d] at g2;unfold azd;simp only[go_sem,seval,z02,z00];refine⟨λh1=> ?_,λh1=> ?_⟩
    ·have hil:i<ls.length:=by omega
     have hx:ls.getD i DT.str.aI=ls.getD i []:=rfl;have hxm:ls.getD i []∈ls:=by rw[z0j,z0a hil];exact z0f hil
     have ht:ls.take (i+1)=ls.take i++[ls.getD i []]:=bH [] hil;have hl:=h.2 _ hxm;have hg:=Q8 (ls.take i) (ls.getD i []);rw[<- ht] at hg;rw[hx];refine⟨⟨by omega,by omega⟩,aqb (l:=(Fp (ls.take i)).1) (by omega) g1 rfl ?_⟩
     simp only[go_sem,seval,z03,z02,z06,z05,z00,z07,z08,ah,z01,z04];refine⟨by omega,i+1,by omega,by omega,⟨aY,?_⟩,?_⟩
     ·rw[hg,z0c];rfl
     ·rw[hg,z0g];rfl
    ·obtain rfl:i=ls.length:=by omega
     rw[z0b];unfold aze;simp only[go_sem,seval,z03,z02,dF,z00,ah,z01,z04]
end Go.Proofs.YtgnaipcjbmhihaaGreatDoor.Dk
namespace Go.Proofs.YtgnaipcjbmhihaaGreatDoor.Dk
open D Tx Tr Rc Fu Fa St Rg Sk Ah Ps
def AU{α:Type}(f:α->By)(l:List α):By:=l.flatMap λx=>32::f x
theorem Am{α:Type}(f:α->By)(l:List α)(x:α):AU f (l++[x])=AU f l++32::f x:=by simp[AU]
theorem aiJ{α:Type}(f:α->By)(l:List α):Lib.joinTail [32] (l.map f)=AU f l:=by simp[Lib.joinTail,AU,List.flatMap_def,Function.comp_def]
theorem DI{α:Type}(f:α->By)(l:List α):trimB (AU f l)=eP f l:=by
 cases l with
 |nil=>rfl
 |cons x r=>
  rw[eP,if_neg (by simp),z00,Lib.join_cons,aiJ,trimB,if_neg (by simp[AU])]
  simp[AU]
theorem zo{α:Type}(f:α->By){k:Nat}:∀ l:List α,(∀ x∈l,(f x).length<=k)->(AU f l).length<=l.length*(k+1)
 |[],_=>Nat.zero_le _
 |x::r,h=>by
  have h1:=h x List.mem_cons_self;have h2:=zo f r λy hy=>h y (List.mem_cons_of_mem _ hy);have e:AU f (x::r)=32::f x++AU f r:=by simp[AU]
  rw[e,z0c,z0i,z0i,Nat.succ_mul];omega
theorem VI(n:Int)(h:okI n):FnOK Tryz.prog 10 [.int .i64 n] [] (.str (eF n)) []:=asA n h.1 (by have:=h.2;omega)
def asB:JC:=(qN (oO 11 10 9<|.nil) (.seq (qO 11 .skip (.exit 0)) (.seq (.block 1 (qN (oK 12 3 8 10<|oC 13 3 12<|qK 7 110<|oG 3 7 13<|.nil) (qM [5,7,1,10,9,8] (qN (o7 14 5<|oD 15 0 0 7<|o9 16 1 15<|oM 17 10 16<|qL [17,14,1,7,10,9,8]<|qo 18 (.cat (.c (.str [32])) (.t 17))<|qo 19 (.cat (.t 14) (.t 18))<|o7 5 19<|.nil) (qM [1,5,7,10,9,8] (qN (o7 20 1<|.nil) (qO 20 (.ops<|o7 21 5<|oD 22 2 2 7<|qL [22,21,10,9,8,1]<|o9 23 1 22<|oM 24 10 23<|qo 25 (.cat (.c (.str [58])) (.t 24))<|qo 26 (.cat (.t 21) (.t 25))<|o7 5 26<|.nil) .skip))))))) (qM [10,9,8,5,1] (.ops<|oJ 27 10 1<|o7 10 27<|.nil)))))
def asC:JC:=(qM [5] (qN (o7 28 5<|oM 29 36 28<|o7 4 29<|.nil) .ret))
def j38:JC:=(qN (qI 4 []<|.nil) (qN (qI 5 []<|.nil) (.seq (qN (o7 8 0<|oP 9 8<|o8 10 0<|.nil) (.block 0 (.loop [9,8,1] [10,5] asB))) asC)))
def Gft(f:FuncId)(a:List SV)(m:List ay):Sx.Call:=(FH.rd 10 (.one .int) (.one .str) (λy=>okI y.1) (λy=>eF y.1)<|
 FH.rd 36 (.one .str) (.one .str) (λ_=>True) (λy=>trimB y.1) FH.none) f a m
theorem O6:type_of% (nq Gft.eq_1):=nq Gft.eq_1
theorem Wx:aW Tryz.prog Gft:=FH.aT (λy h=>VI y.1 h)<|FH.aT (λy _=>MS y.1) FH.none_ok
def flK(b:Bool)(f:Fl):By:=if b then QK f else waB f
theorem WR(l:List Fl)(b:Bool)(hl:l.length<=10000)(h:∀ x∈l,yG x):FnOK Tryz.prog 38 [abj.aA l, .bool b] [] (.str (eP (flK b) l)) []:=by
 refine fn_walkA j38 [.tmp 4] 30 Wx rfl ?_;unfold j38;simp only[go_sem,seval];have hk:∀ x∈l,(flK b x).length<=50:=λx hx=>by
  unfold flK;split
  ·exact Z7 (h x hx)
  ·exact z0k (dR (h x hx).1) (by omega)
 refine aZ Nat (λi=>[.int .i64 i, .str (AU (flK b) (l.take i))]) (λ_=>[]) (λi=>i<=l.length) (λi=>l.length - i) 0 (by omega) ?_ rfl ?_
 ·simp only[go_sem,seval];rfl
 ·intro i hi;unfold asB;simp only[go_sem,seval,O6,z03,z02,z05,z00,z07,z08,ah,z01,z04];refine⟨λh1=> ?_,λh1=> ?_⟩
  ·have hil:i<l.length:=by omega
   have hx:l.getD i jL.aI∈l:=by rw[z0j,z0a hil];exact z0f hil
   have ht:l.take (i+1)=l.take i++[l.getD i jL.aI]:=bH _ hil;have hn:=Am (flK b) (l.take i) (l.getD i jL.aI);rw[<- ht] at hn;have hc:=zo (flK b) (k:=50) (l.take i) λx hx=>hk x (z0l hx);rw[z0d] at hc;have h2:=h _ hx;have d1:=dR h2.1;have d2:=dR h2.2;refine⟨⟨by omega,by omega⟩,h2.1,by omega,by omega,λhb=>⟨h2.2,by omega,by rw[z0c,z0i];omega,i+1,by omega,by omega,aY,?_⟩,λhb=>⟨i+1,by omega,by omega,aY,?_⟩⟩
   ·subst hb;rw[hn];simp[flK,QK]
   ·subst hb;rw[hn];rfl
  ·obtain rfl:i=l.length:=by omega
   rw[z0b];unfold asC;simp only[go_sem,seval,O6,DI,z03,z02,dF,z00,ah]
end Go.Proofs.YtgnaipcjbmhihaaGreatDoor.Dk
namespace Go.Proofs.YtgnaipcjbmhihaaGreatDoor.Dk
open D Tx Tr Rc Fu Fa St Rg Sk Ah Ps Cp
def ays:JC:=(qN (oO 89 88 87<|.nil) (.seq (qO 89 .skip (.exit 0)) (.seq (.block 1 (qN (oK 90 1 86 88<|o9 91 1 90<|o7 13 91<|.nil) (qM [13,0,11,88,87,86,1] (qN (o7 93 13<|oM 94 34 93<|o7 92 94<|qL [92,0,11,88,87,86,1]<|oN 95 0 92<|oN 96 1 92<|o7 14 95<|o7 15 96<|.nil) (qM [15,0,11,14,88,87,86,1] (.seq (qN (o7 97 15<|qF 98 97<|.nil) (qM [98,0,11,14,88,87,86,1] (qO 98 (qN (qL [0]<|o7 99 0<|qI 4 []<|o7 5 99<|o8 6 3<|.nil) (.bn 5 56 3 (.jg 5 dw.gq .ret))) .skip))) (qM [11,14,88,87,86,0,1] (.ops<|o7 100 11<|o7 101 14<|eo 102 (.qj 3 1 1 (.int .i64 0) [(0,(.t 101))])<|oW 103 3 1 8 100 102<|o7 11 103<|.nil)))))))) (qM [88,87,86,0,11,1] (.ops<|oJ 104 88 1<|o7 88 104<|.nil)))))
def ayt:JC:=(qN (oO 114 113 112<|.nil) (.seq (qO 114 .skip (.exit 3)) (.seq (.block 4 (qN (oK 115 4 111 113<|oC 116 4 115<|eo 18 (.alloc 67 (.agg [(.int .i64 0),(.int .i64 0),(.int .i64 0),(.int .i64 0)]))<|oG 4 18 116<|.nil) (qM [16,18,113,112,111,0] (.bJ<|o7 117 16<|oD 118 0 0 18<|o9 119 1 118<|eo 120 (.gW 10 [(.t 119)])<|qL [120,18,117,113,112,111,0]<|qo 121 (.cat (.c (.str [32])) (.t 120))<|qo 122 (.cat (.t 121) (.c (.str [45])))<|oD 123 1 1 18<|qL [123,122,117,113,112,111,0]<|o9 124 1 123<|eo 125 (.gW 10 [(.t 124)])<|qo 126 (.cat (.t 122) (.t 125))<|qo 127 (.cat (.t 117) (.t 126))<|o7 16 127<|.nil)))) (qM [113,112,111,16,0] (.ops<|oJ 128 113 1<|o7 113 128<|.nil)))))
def ayu:JC:=(qM [16,0] (qN (o7 129 16<|oM 130 36 129<|o7 131 0<|o7 4 130<|o7 5 131<|o8 6 0<|.nil) (.bn 5 56 3 (.jg 5 dw.gq .ret))))
def ayv:JC:=(qN (qA 212 211 6<|.nil) (.seq (qO 212 .skip (.exit 5)) (.seq (.block 6 (qN (qo 213 (.ix 6 1 false (.t 210) (.t 211))<|o7 28 213<|.nil) (.ops<|o7 214 16<|qL [28,214,211,210,0]<|o7 215 28<|oM 216 10 215<|qo 217 (.cat (.c (.str [32])) (.t 216))<|qo 218 (.cat (.t 214) (.t 217))<|o7 16 218<|.nil))) (qM [211,210,16,0] (.ops<|oJ 219 211 1<|o7 211 219<|.nil)))))
def ayw:JC:=(qM [16,0] (qN (o7 220 16<|oM 221 36 220<|o7 222 0<|o7 4 221<|o7 5 222<|o8 6 0<|.nil) (.bn 5 56 3 (.jg 5 dw.gq .ret))))
def au7:JC:=(qN (oO 234 233 232<|.nil) (.seq (qO 234 .skip (.exit 7)) (.seq (.block 8 (qN (oK 235 1 231 233<|o9 236 1 235<|o7 32 236<|.nil) (.ops<|qL [16,32,233,232,231,0]<|o7 237 16<|o7 238 32<|oM 239 10 238<|qL [239,237,233,232,231,0]<|qo 240 (.cat (.c (.str [32])) (.t 239))<|qo 241 (.cat (.t 237) (.t 240))<|o7 16 241<|.nil))) (qM [233,232,231,16,0] (.ops<|oJ 242 233 1<|o7 233 242<|.nil)))))
def au8:JC:=(qM [16,0] (qN (o7 243 16<|oM 244 36 243<|o7 245 0<|o7 4 244<|o7 5 245<|o8 6 0<|.nil) (.bn 5 56 3 (.jg 5 dw.gq .ret))))
def ayx:JC:=(qM [] (qN (qI 4 [111,107]<|oU 5<|o8 6 0<|.nil) (.bn 5 56 3 (.jg 5 dw.gq .ret))))
def EK:JC:=(qM [1,0,11] (qN (qI 16 []<|.nil) (.seq (qN (o7 105 1<|qB 106 1 105 0<|o9 107 1 106<|.nil) (.block 2 (qN (qo 109 (.seq false (.t 107) (.c (.str [114,97,99,101,115])))<|o7 108 109<|.nil) (qO 108 (.seq (qN (qL [0,16]<|o7 110 0<|oM 111 35 110<|oP 112 111<|o8 113 0<|.nil) (qM [113,112,111,16,0] (.block 3 (.loop [112,111,0] [113,16] ayt)))) ayu) (qN (qo 133 (.seq false (.t 107) (.c (.str [102,117,108,108])))<|o7 132 133<|.nil) (qM [132,0,107,11,16] (qO 132 (qN (o7 135 0<|eo 136 (.call 37 [(.t 135),(I 0)])<|qL [136,0]<|o7 134 136<|oN 137 0 134<|oN 138 1 134<|oN 139 2 134<|eo 20 (.alloc 70 (.arr 6 1 λ_=>(.int .i64 0)))<|eo 21 (.alloc 70 (.arr 6 1 λ_=>(.int .i64 0)))<|o7 19 137<|oG 6 20 138<|oG 6 21 139<|.nil) (qM [19,0] (qN (o7 140 19<|eo 141 (.call 38 [(.t 140),(B true)])<|o7 142 0<|o7 4 141<|o7 5 142<|o8 6 0<|.nil) (.bn 5 56 3 (.jg 5 dw.gq .ret))))) (qN (qo 144 (.seq false (.t 107) (.c (.str [102,97,115,116])))<|o7 143 144<|.nil) (qO 143 (qN (qL [0]<|o7 146 0<|oM 147 39 146<|o7 145 147<|oN 148 0 145<|oN 149 1 145<|o7 22 148<|o7 23 149<|.nil) (qM [22,0] (qN (o7 150 22<|eo 151 (.call 38 [(.t 150),(B true)])<|o7 152 0<|o7 4 151<|o7 5 152<|o8 6 0<|.nil) (.bn 5 56 3 (.jg 5 dw.gq .ret))))) (qN (qo 154 (.seq false (.t 107) (.c (.str [119,97,114,110,115])))<|o7 153 154<|.nil) (qO 153 (qN (qL [0]<|o7 156 0<|oM 157 40 156<|o7 155 157<|oN 158 0 155<|oN 159 1 155<|oN 160 2 155<|qL [158,159,160,0]<|eo 24 (.alloc 78 (.arr 8 3 λ_=>(.agg [(.int .i64 0),(.int .i64 0),(.int .i64 0)])))<|eo 26 (.alloc 79 (.arr 8 1 λ_=>(.int .i64 0)))<|oG 24 24 158<|o7 25 159<|oG 8 26 160<|.nil) (qM [25,0] (qN (o7 161 25<|eo 162 (.call 38 [(.t 161),(B false)])<|o7 163 0<|o7 4 162<|o7 5 163<|o8 6 0<|.nil) (.bn 5 56 3 (.jg 5 dw.gq .ret))))) (qN (qo 165 (.seq false (.t 107) (.c (.str [108,101,97,100,115])))<|o7 164 165<|.nil) (qM [164,11,0,107,16] (qO 164 (.seq (qN (o7 166 11<|qB 167 1 166 0<|qL [167,0,11]<|o9 168 1 167<|o7 169 0<|oP 170 169<|qo 171 (.cmp .geq (.t 168) (.t 170))<|qL [171,11,0]<|o7 172 171<|.sc true 179 172 (o7 173 11<|qB 174 1 173 1<|o9 175 1 174<|o7 176 0<|oP 177 176<|qo 178 (.cmp .geq (.t 175) (.t 177))<|.nil) (.t 178)<|.nil) (qM [179,0,11] (qO 179 (qN (o7 180 0<|qI 4 []<|o7 5 180<|o8 6 1<|.nil) (.bn 5 56 3 (.jg 5 dw.gq .ret))) .skip))) (qM [0,11] (.seq (.seq (.bJ<|o7 181 0<|eo 182 (.gW 41 [(.t 181)])<|o7 183 11<|qB 184 1 183 0<|o9 185 1 184<|qL [182,185,11,0]<|oK 186 1 182 185<|o9 187 1 186<|o7 188 11<|qL [188,187,0]<|qB 189 1 188 1<|o9 190 1 189<|oK 191 1 187 190<|o9 192 1 191<|.nil) (qM [192,0] (qO 192 (qN (o7 193 0<|qI 4 [121,101,115]<|o7 5 193<|o8 6 0<|.nil) (.bn 5 56 3 (.jg 5 dw.gq .ret))) .skip))) (qM [0] (qN (o7 194 0<|qI 4 [110,111]<|o7 5 194<|o8 6 0<|.nil) (.bn 5 56 3 (.jg 5 dw.gq .ret))))))) (qN (qo 196 (.seq false (.t 107) (.c (.str [115,116,97,109,112])))<|o7 195 196<|.nil) (qO 195 (.seq (qN (qL [11,0,16]<|o7 197 11<|qB 198 1 197 0<|o9 199 1 198<|o7 200 0<|oP 201 200<|qo 202 (.cmp .geq (.t 199) (.t 201))<|.nil) (qM [202,0,11,16] (qO 202 (qN (o7 203 0<|qI 4 []<|o7 5 203<|o8 6 1<|.nil) (.bn 5 56 3 (.jg 5 dw.gq .ret))) .skip))) (qM [0,11,16] (.seq (.seq (.bJ<|o7 204 0<|eo 205 (.gW 42 [(.t 204)])<|o7 206 11<|qB 207 1 206 0<|qL [207,205,16,0]<|o9 208 1 207<|oK 209 6 205 208<|oC 210 6 209<|o8 211 0<|.nil) (qM [211,210,16,0] (.block 5 (.loop [210,0] [211,16] ayv)))) ayw))) (qN (qo 224 (.seq false (.t 107) (.c (.str [114,105,110,103])))<|o7 223 224<|.nil) (qO 223 (qN (qL [0,16]<|o7 226 0<|oM 227 44 226<|oM 228 43 227<|o7 225 228<|oN 229 0 225<|qL [225,229,16,0]<|oN 230 1 225<|o7 29 229<|o7 30 230<|.nil) (qM [29,16,0] (.seq (qN (o7 231 29<|oP 232 231<|o8 233 0<|.nil) (.block 7 (.loop [232,231,0] [233,16] au7))) au8))) (qN (qo 247 (.seq false (.t 107) (.c (.str [100,114,111,112])))<|o7 246 247<|.nil) (qM [246,11,0,107] (qO 246 (.seq (qN (o7 248 11<|qB 249 1 248 0<|o9 250 1 249<|qL [0,250,11]<|o7 251 0<|oP 252 251<|qo 253 (.cmp .geq (.t 250) (.t 252))<|.nil) (qM [253,0,11] (qO 253 (qN (o7 254 0<|qI 4 []<|o7 5 254<|o8 6 1<|.nil) (.bn 5 56 3 (.jg 5 dw.gq .ret))) .skip))) (qM [0,11] (.seq (.bJ<|o7 255 0<|o7 256 11<|qB 257 1 256 0<|o9 258 1 257<|qo 259 (.slc 3 (.t 255) none (some (.t 258)) none)<|qL [0,11,259]<|o7 261 0<|o7 262 11<|qB 263 1 262 0<|o9 264 1 263<|oJ 265 264 1<|qo 266 (.slc 3 (.t 261) (some (.t 265)) none none)<|qL [259,264,263,266,0]<|oM 260 32 259<|en (.again 1 false (.t 263) 264)<|oW 267 56 3 24 260 266<|o7 33 267<|.nil) (qM [33,0] (.seq (qN (o7 268 33<|oM 269 33 268<|qC 270 269 0<|.nil) (qO 270 (qN (o7 271 0<|qI 4 []<|o7 5 271<|o8 6 5<|.nil) (.bn 5 56 3 (.jg 5 dw.gq .ret))) .skip)) (qN (qL [33]<|o7 272 33<|qI 4 [111,107]<|o7 5 272<|o8 6 0<|.nil) (.bn 5 56 3 (.jg 5 dw.gq .ret)))))))) (qN (qo 274 (.seq false (.t 107) (.c (.str [109,105,110])))<|o7 273 274<|.nil) (qO 273 (.seq (qN (o7 275 0<|qL [275,0]<|oM 276 35 275<|oP 277 276<|oH 278 277 0<|.nil) (qM [278,0] (qO 278 (qN (o7 279 0<|qI 4 []<|o7 5 279<|o8 6 7<|.nil) (.bn 5 56 3 (.jg 5 dw.gq .ret))) .skip))) (qM [0] (qN (o7 280 0<|oM 281 32 280<|oM 282 45 281<|oP 283 282<|oM 284 10 283<|o7 285 0<|qL [284,285]<|o7 4 284<|o7 5 285<|o8 6 0<|.nil) (.bn 5 56 3 (.jg 5 dw.gq .ret))))) (qN (qo 287 (.seq false (.t 107) (.c (.str [115,105,122,101])))<|o7 286 287<|.nil) (qO 286 (qN (qL [0]<|o7 288 0<|oP 289 288<|oM 290 10 289<|o7 291 0<|o7 4 290<|o7 5 291<|o8 6 0<|.nil) (.bn 5 56 3 (.jg 5 dw.gq .ret))) .skip))))))))))))))))))))))))) ayx)))
def j9:JC:=(qN (qI 4 []<|oU 5<|o8 6 0<|.nil) (.seq (qN (o7 34 1<|oP 35 34<|oH 36 35 3<|o7 37 36<|qL [37,1,0]<|.sc false 43 37 (o7 38 1<|qB 39 1 38 0<|o9 40 1 39<|qo 41 (.lens (.t 40))<|oH 42 41 2<|.nil) (.t 42)<|o7 44 43<|.sc false 50 44 (o7 45 1<|qB 46 1 45 0<|o9 47 1 46<|qo 48 (.sx (.t 47) (I 0))<|qo 49 (.cmp .eql (.t 48) (.c (.int .u8 116)))<|.nil) (.t 49)<|.nil) (qM [50,1,0] (qO 50 (qN (o7 52 1<|eo 53 (.call 16 [(.t 52),(.c (.str [32]))])<|oM 54 31 53<|o7 51 54<|qL [51,0]<|oN 55 0 51<|oN 56 1 51<|qK 7 56<|oG 3 7 55<|o7 8 56<|.nil) (qM [8,0,7] (.seq (qN (o7 57 8<|qC 58 57 0<|.nil) (qO 58 (qN (o7 59 0<|o7 60 8<|qL [59,60]<|qI 4 []<|o7 5 59<|o7 6 60<|.nil) (.bn 5 56 3 (.jg 5 dw.gq .ret))) .skip)) (qM [0,7] (.seq (.bJ<|o7 61 0<|oC 63 3 7<|eo 64 (.DF 56 3 1 (.agg [(.int .i64 0),(.int .i64 0),(.int .i64 0)]) [(0,(.t 63))])<|oM 62 32 61<|en (.again 3 true (.t 7) 63)<|oW 65 56 3 24 62 64<|o7 9 65<|.nil) (qN (qL [9]<|o7 66 9<|o7 67 9<|oM 68 33 67<|qI 4 [111,107]<|o7 5 66<|o7 6 68<|.nil) (.bn 5 56 3 (.jg 5 dw.gq .ret)))))))) .skip))) (qM [1,0] (qN (eo 69 (.mJ (.make .str (.int .i64)) [])<|en (.mJ (.put .str (.int .i64)) [(.t 69),(.c (.str [114,97,99,101,115])),(I 1)])<|en (.mJ (.put .str (.int .i64)) [(.t 69),(.c (.str [102,117,108,108])),(I 1)])<|en (.mJ (.put .str (.int .i64)) [(.t 69),(.c (.str [102,97,115,116])),(I 1)])<|en (.mJ (.put .str (.int .i64)) [(.t 69),(.c (.str [119,97,114,110,115])),(I 1)])<|qL [69,1,0]<|en (.mJ (.put .str (.int .i64)) [(.t 69),(.c (.str [108,101,97,100,115])),(I 3)])<|en (.mJ (.put .str (.int .i64)) [(.t 69),(.c (.str [115,116,97,109,112])),(I 2)])<|en (.mJ (.put .str (.int .i64)) [(.t 69),(.c (.str [114,105,110,103])),(I 1)])<|en (.mJ (.put .str (.int .i64)) [(.t 69),(.c (.str [100,114,111,112])),(I 2)])<|qL [69,1,0]<|en (.mJ (.put .str (.int .i64)) [(.t 69),(.c (.str [109,105,110])),(I 1)])<|en (.mJ (.put .str (.int .i64)) [(.t 69),(.c (.str [115,105,122,101])),(I 1)])<|en (.mJ (.put .str (.int .i64)) [(.t 69),(.c (.str [99,108,101,97,114])),(I 1)])<|o7 70 69<|o7 10 70<|.nil) (qM [1,10,0] (.seq (qN (o7 71 1<|oP 72 71<|oH 73 72 0<|o7 74 73<|qL [74,10,1,0]<|.sc true 83 74 (o7 75 10<|o7 76 1<|qB 77 1 76 0<|o9 78 1 77<|eo 79 (.mJ (.get .str (.int .i64) (.int .i64 0) false) [(.t 75),(.t 78)])<|o7 80 1<|oP 81 80<|qo 82 (.cmp .neq (.t 79) (.t 81))<|.nil) (.t 82)<|.nil) (qM [83,0,1] (qO 83 (qN (o7 84 0<|qI 4 []<|o7 5 84<|o8 6 3<|.nil) (.bn 5 56 3 (.jg 5 dw.gq .ret))) .skip))) (qM [1,0] (qN (oU 11<|.nil) (.seq (qN (o7 85 1<|qo 86 (.slc 1 (.t 85) (some (I 1)) none none)<|oP 87 86<|o8 88 0<|.nil) (.block 0 (.bn 11 3 1 (.loop [87,86,0,1] [88,11] ays)))) EK)))))))))
theorem c9:fnIs Tryz.prog (aaW [32]) 9=some (j9.flat,[.tmp 4, .tmp 5, .tmp 6],292):=by kernel_rfl
theorem w9:j9.wf 292=true:=by kernel_rfl
def an9(f:FuncId)(a:List SV)(m:List ay):Sx.Call:=(FH.mk 35 (.one dw) (λy=>(aF y.1).2=0) (λy=> .vec 0 (aU y.1).length) (λy=>[.vec 67 4 ((aU y.1).map kZ.aA)])<|
 FH.mk 37 (.two dw .int) (λy=>(aF y.1).2=0) (λy=> .bK [.vec 0 (jE y.1 y.1.length).length,bU.aA (jd y.1 1 y.2.1 y.1.length),bU.aA (jd y.1 2 y.2.1 y.1.length)]) (λy=>[.vec 110 3 ((jE y.1 y.1.length).map jL.aA)])<|
 FH.mk 39 (.one dw) (λy=>(aF y.1).2=0) (λy=> .bK [.vec 0 (outA y.1 (Hg y.1 8) y.1.length).length, .int .i64 (slA y.1 8)]) (λy=>[.vec 110 3 ((outA y.1 (Hg y.1 8) y.1.length).map jL.aA)])<|
 FH.mk 40 (.one dw) (λy=>(aF y.1).2=0) (λy=> .bK [Gu.OM.aA (Gu.RR y.1 y.1.length).g, .vec 0 (Gu.RR y.1 y.1.length).w.length,Gu.dI8.aA (Gu.RR y.1 y.1.length).c]) (λy=>[.vec 110 3 ((Gu.RR y.1 y.1.length).w.map jL.aA)])<|
 FH.mk 44 (.one dw) (λ_=>True) (λy=> .vec 0 (fD (Gr.gQ y.1) 5 5).length) (λy=>[.vec 131 2 ((fD (Gr.gQ y.1) 5 5).map jo.aA)]) FH.none) f a m
theorem lg:type_of% (nq an9.eq_1):=nq an9.eq_1
theorem an':aW Tryz.prog an9:=FH.eu (λy _=>cZ (nM _ _) ⟨bY _ _ kZ _,trivial⟩) (λy h=>II y.1 h)<|
 FH.eu (λy _=>cZ (fU ⟨fE _ _,xw bU _,xw bU _,trivial⟩) ⟨bY _ _ jL _,trivial⟩) (λy h=>aoa y.1 y.2.1 h)<|
 FH.eu (λy _=>cZ (fU ⟨fE _ _,fF _ _,trivial⟩) ⟨bY _ _ jL _,trivial⟩) (λy h=>anI y.1 h)<|
 FH.eu (λy _=>cZ (fU ⟨xw Gu.OM _,fE _ _,xw Gu.dI8 _,trivial⟩) ⟨bY _ _ jL _,trivial⟩) (λy h=>Gu.aa9 y.1 h)<|
 FH.eu (λy _=>cZ (nM _ _) ⟨bY _ _ jo _,trivial⟩) (λy _=>Gr.afH y.1) FH.none_ok
def aob(f:FuncId)(a:List SV)(m:List ay):Sx.Call:=(FH.mk 32 (.one dw) (λy=>y.1.length<=1000000) (λy=> .vec 0 y.1.length) (λy=>[.vec 56 3 (y.1.map aO.aA)])<|
 FH.pz 41 (.one dw) (.one kQ) (λy=>y.1.length<=1000) (λy=>rowsOf y.1.length (bI y.1))<|
 FH.pz 42 (.one dw) (.one ZU) (λy=>(aF y.1).2=0) (λy=>ou y.1)<|
 FH.fz 43 (.one Oj) dNI (λ_=>True) (λy=>(yH y.1,L8 y.1))<|
 FH.fz 45 (.one dw) (.one dw) (λy=>y.1.length<=100) (λy=>rZ y.1) an9) f a m
theorem kE:type_of% (nq aob.eq_1):=nq aob.eq_1
theorem aoc:aW Tryz.prog aob:=FH.eu (λy _=>cZ (nM _ _) ⟨bY _ _ aO _,trivial⟩) (λy h=>Rn y.1 h)<|
 FH.oq (λy h=>Dp y.1 h)<|FH.oq (λy h=>abu y.1 h)<|
 FH.SY (λy _=>amU y.1)<|FH.SY (λy h=>atu y.1 h) an'
def Gdl(f:FuncId)(a:List SV)(m:List ay):Sx.Call:=(FH.rd 16 (.two Oh .str) (.one .str) (λy=>(z0m y.1 y.2.1).length<=140737488355328/\y.1.length<=1000000) (λy=>z0m y.1 y.2.1)<|
 FH.rd 31 (.one .str) (.two aO .int) (λ_=>True) (λy=>jU y.1)<|
 FH.rd 33 (.one dw) (.one .int) (λ_=>True) (λy=>(aF y.1).2)<|
 FH.rd 34 (.one .str) (.two .int .bool) (λy=>y.1.length<=1000) (λy=>xA y.1)<|
 FH.rd 38 (.two abj .bool) (.one .str) (λy=>y.1.length<=10000/\∀ x∈y.1,yG x) (λy=>eP (flK y.2.1) y.1)<|
 FH.rd 10 (.one .int) (.one .str) (λy=>okI y.1) (λy=>eF y.1)<|
 FH.rd 36 (.one .str) (.one .str) (λ_=>True) (λy=>trimB y.1) aob) f a m
theorem iR:type_of% (nq Gdl.eq_1):=nq Gdl.eq_1
theorem au9:aW Tryz.prog Gdl:=FH.aT (λy h=>wZ y.1 y.2.1 h.1 h.2)<|FH.aT (λy _=>abv y.1)<|
 FH.aT (λy _=>ark y.1)<|FH.aT (λy h=>abw y.1 h)<|FH.aT (λy h=>WR y.1 y.2.1 h.1 h.2)<|
 FH.aT (λy h=>VI y.1 h)<|FH.aT (λy _=>MS y.1) aoc
theorem afw{α:Type}(d:DT α){l:List α}{i:Nat}(h:i<l.length):(l.map d.aA).getD i .junk=d.aA (l.getD i d.aI):=by simp[z0j,h]
def G5(l:List Ev)(w:List By)(T:List (SV×SV))(n:List Int)(r:Ans):Prop:= ∀ O:Fr,Sx.look 1 O=Oh.aA w->Sx.look 0 O=dw.aA l->Sx.look 11 O= .vec 1 n.length->
 JC.wp Gdl 0 EK (IW [.tmp 4, .tmp 5, .tmp 6] Tryz.prog 0 (.bK [.str r.2.1,dw.aA r.2.2, .int .i64 r.1]) []) O [.mp .str (.int .i64) T, .vec 3 1 (n.map DT.int.aA)]
theorem ahJ{l:List Ev}{w:List By}{T:List (SV×SV)}{n:List Int}(h:(aF l).2=0)(hw:w≠[])(hk:w.getD 0 []=[114,97,99,101,115]):G5 l w T n (0,eP Vs (aU l),l):=by
 intro O h1 h0 h11;have h1':Sx.look 1 O= .lst 1 DT.str.aI DT.str.aA w:=h1;have h0':Sx.look 0 O= .lst 3 aO.aI aO.aA l:=h0;have hk':w.getD 0 DT.str.aI=[114,97,99,101,115]:=hk;have hl:=bP h;have hw0:0<w.length:=z09.2 hw;unfold EK;simp only[go_sem,seval,iR,kE,lg,h1',h0',h11,hk',h,z03,z02,z06,z05,dF,z00,ah,z01,z04];have r1:=LK h;have r2:=QS h;refine⟨by omega,aZ Nat (λi=>[.int .i64 i, .str (AU Vs ((aU l).take i))]) (λ_=>[.mp .str (.int .i64) T, .vec 3 1 (n.map DT.int.aA), .vec 67 4 ((aU l).map kZ.aA)]) (λi=>i<=(aU l).length) (λi=>(aU l).length - i) 0 (by omega) ?_ rfl ?_⟩
 ·simp only[go_sem,seval];rfl
 ·intro i hi;unfold ayt;rcases z0o i (aU l).length with hil|hil
  ·have hx:(aU l).getD i kZ.aI∈aU l:=by rw[z0j,z0a hil];exact z0f hil
   have hn:=Am Vs ((aU l).take i) ((aU l).getD i kZ.aI);rw[<- bH kZ.aI hil] at hn;have hc:=zo Vs (k:=50) ((aU l).take i) λx hx=>ZV (r2 x (z0l hx));rw[z0d] at hc;have h2:=r2 _ hx;have d1:=dR h2.1;have d2:=dR h2.2;have hx':=afw kZ hil;rw[I9] at hx';generalize (aU l).getD i kZ.aI=r at hx hn h2 d1 d2 hx';simp only[go_sem,seval,iR,hx',z03,z02,z06,z05,z00,z07,z08,ah,z01,z04];refine⟨λ_=>⟨⟨by omega,by omega⟩,hil,h2.1,by omega,by omega,h2.2,by rw[z0c,List.length_singleton];omega,by rw[z0c,z0i];omega,i+1,by omega,by omega,aY,?_⟩,λhc=>absurd hc (by omega)⟩
   rw[hn];rfl
  ·obtain rfl:i=(aU l).length:=by omega
   rw[z0b];unfold ayu;simp only[go_sem,seval,iR,DI,z03,z02,z06,z05,dF,z00,z07,z08,ah,z01,z04];exact λhc=>absurd hc (by omega)
theorem aod{l:List Ev}{w:List By}{T:List (SV×SV)}{n:List Int}(h:(aF l).2=0)(hw:w≠[])(hk:w.getD 0 []=[102,117,108,108]):G5 l w T n (0,eP QK (jE l l.length),l):=by
 intro O h1 h0 h11;have h1':Sx.look 1 O= .lst 1 DT.str.aI DT.str.aA w:=h1;have h0':Sx.look 0 O= .lst 3 aO.aI aO.aA l:=h0;have hk':w.getD 0 DT.str.aI=[102,117,108,108]:=hk;have hl:=bP h;have hw0:0<w.length:=z09.2 hw;unfold EK;have e0:([102,117,108,108]:By)=[114,97,99,101,115]↔False:=by decide
 have r1:=Ap (l:=l) l.length;have r2:=Oa (l:=l) (by omega) l.length (z0s _)
 simp only[go_sem,seval,iR,kE,lg,h1',h0',h11,hk',h,dK,e0,z03,z02,z06,z05,dF,z00,ah,z01,z04];exact⟨by omega,⟨by omega,r2⟩,rfl⟩
theorem aoe{l:List Ev}{w:List By}{T:List (SV×SV)}{n:List Int}(h:(aF l).2=0)(hw:w≠[])(hk:w.getD 0 []=[102,97,115,116]):G5 l w T n (0,eP QK (outA l (Hg l 8) l.length),l):=by
 intro O h1 h0 h11;have h1':Sx.look 1 O= .lst 1 DT.str.aI DT.str.aA w:=h1;have h0':Sx.look 0 O= .lst 3 aO.aI aO.aA l:=h0;have hk':w.getD 0 DT.str.aI=[102,97,115,116]:=hk;have hl:=bP h;have hw0:0<w.length:=z09.2 hw;unfold EK;have e0:([102,97,115,116]:By)=[114,97,99,101,115]↔False:=by decide
 have e1:([102,97,115,116]:By)=[102,117,108,108]↔False:=by decide
 have r1:(outA l (Hg l 8) l.length).length<=10000:=by rw[<- Ew h,uf,if_pos (CU h)];have:=Aa (l:=l) l.length;omega
 have r2:=Ob (l:=l) (Vx (l:=l) (by omega) 8) l.length
 simp only[go_sem,seval,iR,kE,lg,h1',h0',h11,hk',h,dK,e0,e1,z03,z02,z06,z05,dF,z00,ah,z01,z04];exact⟨by omega,⟨by omega,r2⟩,rfl⟩
theorem ahK{l:List Ev}{w:List By}{T:List (SV×SV)}{n:List Int}(h:(aF l).2=0)(hw:w≠[])(hk:w.getD 0 []=[119,97,114,110,115]):G5 l w T n (0,eP waB (Gu.RS l l.length).2,l):=by
 intro O h1 h0 h11;have h1':Sx.look 1 O= .lst 1 DT.str.aI DT.str.aA w:=h1;have h0':Sx.look 0 O= .lst 3 aO.aI aO.aA l:=h0;have hk':w.getD 0 DT.str.aI=[119,97,114,110,115]:=hk;have hl:=bP h;have hw0:0<w.length:=z09.2 hw;unfold EK;have e0:([119,97,114,110,115]:By)=[114,97,99,101,115]↔False:=by decide
 have e1:([119,97,114,110,115]:By)=[102,117,108,108]↔False:=by decide
 have e2:([119,97,114,110,115]:By)=[102,97,115,116]↔False:=by decide
 have r1:=Gu.Ph l l.length;have r2:=afc l l.length (by omega)
 rw[Gu.ahL h] at r1 r2;simp only[go_sem,seval,iR,kE,lg,h1',h0',h11,hk',h,dK,Gu.ahL h,e0,e1,e2,z03,z02,z06,z05,dF,z00,ah,z01,z04];exact⟨by omega,⟨by omega,r2⟩,rfl⟩
theorem ahM{l:List Ev}{w:List By}{T:List (SV×SV)}{a b:Int}(ha:0<=a)(hb:0<=b)(h:(aF l).2=0)(hw:w≠[])(hk:w.getD 0 []=[108,101,97,100,115]):G5 l w T [a,b] (if (l.length:Int)<=a\/(l.length:Int)<=b then(1,[],l) else(0,Q5 (bI l a.toNat b.toNat),l)):=by
 intro O h1 h0 h11;have h1':Sx.look 1 O= .lst 1 DT.str.aI DT.str.aA w:=h1;have h0':Sx.look 0 O= .lst 3 aO.aI aO.aA l:=h0;have hk':w.getD 0 DT.str.aI=[108,101,97,100,115]:=hk;have hl:=bP h;have hw0:0<w.length:=z09.2 hw;unfold EK;have e0:([108,101,97,100,115]:By)=[114,97,99,101,115]↔False:=by decide
 have e1:([108,101,97,100,115]:By)=[102,117,108,108]↔False:=by decide
 have e2:([108,101,97,100,115]:By)=[102,97,115,116]↔False:=by decide
 have e3:([108,101,97,100,115]:By)=[119,97,114,110,115]↔False:=by decide
 simp only[go_sem,seval,iR,kE,lg,h1',h0',h11,hk',h,dK,e0,e1,e2,e3,z03,z02,z06,z05,dF,z00,ah,z01,z04];refine⟨by omega,λh2=> ?_,λh2=> ?_⟩
 ·rw[if_pos (by simpa using h2)]
 ·simp only[z0h,decide_eq_false_iff_not] at h2;have a1:a.toNat<l.length:=by omega
  have b1:b.toNat<l.length:=by omega
  rw[if_neg (by omega)]
  have e1:(rowsOf l.length (bI l)).length=l.length:=jI;have e2:(rowsOf l.length (bI l)).getD a.toNat []=tb l.length λb=>bI l a.toNat b:=fO a1;have e3:(tb l.length λb=>bI l a.toNat b).length=l.length:=jI;have e4:(tb l.length λb=>bI l a.toNat b).getD b.toNat false=bI l a.toNat b.toNat:=fO b1;rw[e1,e2,e3,e4];refine⟨by omega,⟨ha,by omega⟩,⟨hb,by omega⟩,λh3=> ?_,λh3=> ?_⟩
  ·rw[h3];rfl
  ·rw[h3];rfl
theorem ahN{l:List Ev}{w:List By}{T:List (SV×SV)}{a:Int}(ha:0<=a)(h:(aF l).2=0)(hw:w≠[])(hk:w.getD 0 []=[115,116,97,109,112]):G5 l w T [a] (if a<l.length then(0,eP eF (stB l a.toNat),l) else(1,[],l)):=by
 intro O h1 h0 h11;have h1':Sx.look 1 O= .lst 1 DT.str.aI DT.str.aA w:=h1;have h0':Sx.look 0 O= .lst 3 aO.aI aO.aA l:=h0;have hk':w.getD 0 DT.str.aI=[115,116,97,109,112]:=hk;have hl:=bP h;have hw0:0<w.length:=z09.2 hw;unfold EK;have e0:([115,116,97,109,112]:By)=[114,97,99,101,115]↔False:=by decide
 have e1:([115,116,97,109,112]:By)=[102,117,108,108]↔False:=by decide
 have e2:([115,116,97,109,112]:By)=[102,97,115,116]↔False:=by decide
 have e3:([115,116,97,109,112]:By)=[119,97,114,110,115]↔False:=by decide
 have e4:([115,116,97,109,112]:By)=[108,101,97,100,115]↔False:=by decide
 simp only[go_sem,seval,iR,kE,lg,h1',h0',h11,hk',h,dK,e0,e1,e2,e3,e4,z03,z02,z06,z05,dF,z00,ah,z01,z04];refine⟨by omega,λh2=> ?_,λh2=> ?_⟩
 ·rw[if_neg (by omega)]
 ·have a1:a.toNat<l.length:=by omega
  rw[if_pos (by omega)]
  have e1:(ou l).length=l.length:=jI;rw[e1];have hst:∀ i:Nat,i<6->(stB l a.toNat).getD i 0=(ou l).getD a.toNat bU.aI i:=λi hi=>by rw[<- Fg a1];simp[z0j,hi]
  have hsl:(stB l a.toNat).length=6:=by rw[<- Fg a1];simp
  have hso:=afd (l:=l) (by omega) a.toNat
  refine⟨⟨ha,by omega⟩,aZ Nat (λi=>[.int .i64 i, .str (AU eF ((stB l a.toNat).take i))]) (λ_=>[.mp .str (.int .i64) T, .vec 3 1 [.int .i64 a]]) (λi=>i<=6) (λi=>6 - i) 0 (by omega) ?_ rfl ?_⟩
  ·simp only[go_sem,seval];rfl
  ·intro i hi;unfold ayv;rcases z0o i 6 with hil|hil
   ·have hx:(stB l a.toNat).getD i 0∈stB l a.toNat:=by rw[z0j,z0a (by omega)];exact z0f (by omega)
    have hn:=Am eF ((stB l a.toNat).take i) ((stB l a.toNat).getD i 0);rw[<- bH 0 (by omega)] at hn
    have hc:=zo eF (k:=50) ((stB l a.toNat).take i) λx hx=>z0k (dR (hso x (z0l hx))) (by omega)
    rw[z0d] at hc;have h2':=hso _ hx;have d1:=dR h2';have hx':=hst i hil;simp only[go_sem,seval,iR,<- hx',z03,z02,z00,z07,z08];refine⟨λ_=>⟨⟨by omega,by omega⟩,h2',by omega,by omega,i+1,by omega,by omega,aY,?_⟩,λhc=>absurd hc (by omega)⟩
    rw[hn]
   ·obtain rfl:i=6:=by omega
    rw[List.take_of_length_le (by omega)]
    unfold ayw;simp only[go_sem,seval,iR,DI,z03,z02,dF,z00,z07,z08,ah]
theorem aof{l:List Ev}{w:List By}{T:List (SV×SV)}{n:List Int}(h:(aF l).2=0)(hw:w≠[])(hk:w.getD 0 []=[114,105,110,103]):G5 l w T n (0,au' (A8 (fD (Gr.gQ l) 5 5)),l):=by
 intro O h1 h0 h11;have h1':Sx.look 1 O= .lst 1 DT.str.aI DT.str.aA w:=h1;have h0':Sx.look 0 O= .lst 3 aO.aI aO.aA l:=h0;have hk':w.getD 0 DT.str.aI=[114,105,110,103]:=hk;have hl:=bP h;have hw0:0<w.length:=z09.2 hw;unfold EK;have e0:([114,105,110,103]:By)=[114,97,99,101,115]↔False:=by decide
 have e1:([114,105,110,103]:By)=[102,117,108,108]↔False:=by decide
 have e2:([114,105,110,103]:By)=[102,97,115,116]↔False:=by decide
 have e3:([114,105,110,103]:By)=[119,97,114,110,115]↔False:=by decide
 have e4:([114,105,110,103]:By)=[108,101,97,100,115]↔False:=by decide
 have e5:([114,105,110,103]:By)=[115,116,97,109,112]↔False:=by decide
 have hrs:=(MV (fD (Gr.gQ l) 5 5)).1;cases hr:A8 (fD (Gr.gQ l) 5 5) with
 |none=>
  rw[hr] at hrs;simp only[go_sem,seval,iR,kE,lg,h1',h0',h11,hk',h,dK,H8,hrs,EL,e0,e1,e2,e3,e4,e5,z03,z02,z06,z05,dF,z00,ah,z01,z04];refine⟨by omega,aZ Nat (λi=>[.int .i64 i, .str []]) (λ_=>[.dead, .dead, .dead]) (λi=>i<=0) (λi=>0) 0 (by omega) ?_ rfl ?_⟩
  ·simp only[go_sem,seval]
  ·intro i hi;obtain rfl:i=0:=by omega
   unfold au7;unfold au8;simp only[go_sem,seval,iR,z03,z02,dF,z00,ah];rfl
 |some r=>
  rw[hr] at hrs;have hro:=Zc (p:=fD (Gr.gQ l) 5 5) (r:=r) hrs;simp only[go_sem,seval,iR,kE,lg,h1',h0',h11,hk',h,dK,H8,hrs,EM,e0,e1,e2,e3,e4,e5,z03,z02,z06,z05,dF,z00,ah,z01,z04];refine⟨by omega,aZ Nat (λi=>[.int .i64 i, .str (AU eF (r.take i))]) (λ_=>[.dead, .dead, .dead]) (λi=>i<=r.length) (λi=>r.length - i) 0 (by omega) ?_ rfl ?_⟩
  ·simp only[go_sem,seval];rfl
  ·intro i hi;unfold au7;rcases z0o i r.length with hil|hil
   ·have hx:r.getD i 0∈r:=by rw[z0j,z0a hil];exact z0f hil
    have hn:=Am eF (r.take i) (r.getD i 0);rw[<- bH 0 hil] at hn;have hc:=zo eF (k:=50) (r.take i) λx hx=>z0k (dR (hro.2 x (z0l hx))) (by omega)
    rw[z0d] at hc;have hr1:=hro.1;have h2':=hro.2 _ hx;have d1:=dR h2';simp only[go_sem,seval,iR,z03,z02,z00,z07,z08];refine⟨λ_=>⟨⟨by omega,by omega⟩,h2',by omega,by omega,i+1,by omega,by omega,aY,?_⟩,λhc=>absurd hc (by omega)⟩
    rw[hn]
   ·obtain rfl:i=r.length:=by omega
    rw[z0b];unfold au8;simp only[go_sem,seval,iR,DI,z03,z02,dF,z00,z07,z08,ah];exact⟨λhc=>absurd hc (by omega),λ_=>rfl⟩
theorem aog{l:List Ev}{w:List By}{T:List (SV×SV)}{a:Int}(ha:0<=a)(h:(aF l).2=0)(hw:w≠[])(hk:w.getD 0 []=[100,114,111,112]):G5 l w T [a] (if (l.length:Int)<=a then(1,[],l) else if (aF (cut l a.toNat)).2=0 then(0,[111,107],cut l a.toNat) else(5,[],l)):=by
 intro O h1 h0 h11;have h1':Sx.look 1 O= .lst 1 DT.str.aI DT.str.aA w:=h1;have h0':Sx.look 0 O= .lst 3 aO.aI aO.aA l:=h0;have hk':w.getD 0 DT.str.aI=[100,114,111,112]:=hk;have hl:=bP h;have hw0:0<w.length:=z09.2 hw;unfold EK;have e0:([100,114,111,112]:By)=[114,97,99,101,115]↔False:=by decide
 have e1:([100,114,111,112]:By)=[102,117,108,108]↔False:=by decide
 have e2:([100,114,111,112]:By)=[102,97,115,116]↔False:=by decide
 have e3:([100,114,111,112]:By)=[119,97,114,110,115]↔False:=by decide
 have e4:([100,114,111,112]:By)=[108,101,97,100,115]↔False:=by decide
 have e5:([100,114,111,112]:By)=[115,116,97,109,112]↔False:=by decide
 have e6:([100,114,111,112]:By)=[114,105,110,103]↔False:=by decide
 have hw1:z19.wrap (a+1)=a+1\/(l.length:Int)<=a:=by
  rcases Int.lt_or_le a l.length with h2|h2
  ·exact .inl (aY)
  ·exact .inr h2
 simp only[go_sem,seval,iR,kE,lg,h1',h0',h11,hk',h,dK,e0,e1,e2,e3,e4,e5,e6,z03,z02,z06,z05,dF,z00,ah,z01,z04];refine⟨by omega,λh2=> ?_,λh2=> ?_⟩
 ·rw[if_pos h2]
 ·rw[if_neg h2];rcases hw1 with hw1|hw1
  ·have e1:(a+1).toNat=a.toNat+1:=by omega
   rw[hw1,z0b,e1];have ec:l.take a.toNat++l.drop (a.toNat+1)=cut l a.toNat:=rfl;rw[ec];refine⟨ha,⟨by omega,by omega⟩,by omega,⟨by omega,by omega⟩,by rw[z0d];omega,by rw[z0d,z0q];omega,λh3=> ?_,λh3=> ?_⟩
   ·rw[if_neg h3]
   ·rw[if_pos h3]
  ·omega
theorem ava{l:List Ev}{w:List By}{T:List (SV×SV)}{n:List Int}(h:(aF l).2=0)(hw:w≠[])(hk:w.getD 0 []=[109,105,110]):G5 l w T n (if racy l=true then(0,eF (rZ l).length,l) else(7,[],l)):=by
 intro O h1 h0 h11;have h1':Sx.look 1 O= .lst 1 DT.str.aI DT.str.aA w:=h1;have h0':Sx.look 0 O= .lst 3 aO.aI aO.aA l:=h0;have hk':w.getD 0 DT.str.aI=[109,105,110]:=hk;have hl:=bP h;have hw0:0<w.length:=z09.2 hw;unfold EK;have e0:([109,105,110]:By)=[114,97,99,101,115]↔False:=by decide
 have e1:([109,105,110]:By)=[102,117,108,108]↔False:=by decide
 have e2:([109,105,110]:By)=[102,97,115,116]↔False:=by decide
 have e3:([109,105,110]:By)=[119,97,114,110,115]↔False:=by decide
 have e4:([109,105,110]:By)=[108,101,97,100,115]↔False:=by decide
 have e5:([109,105,110]:By)=[115,116,97,109,112]↔False:=by decide
 have e6:([109,105,110]:By)=[114,105,110,103]↔False:=by decide
 have e7:([109,105,110]:By)=[100,114,111,112]↔False:=by decide
 have hml:=DJ l;simp only[go_sem,seval,iR,kE,lg,h1',h0',h11,hk',h,dK,e0,e1,e2,e3,e4,e5,e6,e7,z03,z02,z06,z05,dF,z00,ah,z01,z04];refine⟨by omega,λh2=> ?_,λh2=> ?_⟩
 ·rw[if_neg (by rw[racy];simp only[decide_eq_true_eq];omega)]
 ·rw[if_pos (by rw[racy];simp only[decide_eq_true_eq];omega)]
  exact⟨by omega,by omega,lZ (by have:=DJ l;omega),rfl⟩
theorem aoh{l:List Ev}{w:List By}{T:List (SV×SV)}{n:List Int}(h:(aF l).2=0)(hw:w≠[])(hk:w.getD 0 []=[115,105,122,101]):G5 l w T n (0,eF l.length,l):=by
 intro O h1 h0 h11;have h1':Sx.look 1 O= .lst 1 DT.str.aI DT.str.aA w:=h1;have h0':Sx.look 0 O= .lst 3 aO.aI aO.aA l:=h0;have hk':w.getD 0 DT.str.aI=[115,105,122,101]:=hk;have hl:=bP h;have hw0:0<w.length:=z09.2 hw;unfold EK;have e0:([115,105,122,101]:By)=[114,97,99,101,115]↔False:=by decide
 have e1:([115,105,122,101]:By)=[102,117,108,108]↔False:=by decide
 have e2:([115,105,122,101]:By)=[102,97,115,116]↔False:=by decide
 have e3:([115,105,122,101]:By)=[119,97,114,110,115]↔False:=by decide
 have e4:([115,105,122,101]:By)=[108,101,97,100,115]↔False:=by decide
 have e5:([115,105,122,101]:By)=[115,116,97,109,112]↔False:=by decide
 have e6:([115,105,122,101]:By)=[114,105,110,103]↔False:=by decide
 have e7:([115,105,122,101]:By)=[100,114,111,112]↔False:=by decide
 have e8:([115,105,122,101]:By)=[109,105,110]↔False:=by decide
 simp only[go_sem,seval,iR,kE,lg,h1',h0',h11,hk',h,dK,e0,e1,e2,e3,e4,e5,e6,e7,e8,z03,z02,z06,z05,dF,z00,ah,z01,z04];exact⟨by omega,lZ (by omega)⟩
theorem ahO{l:List Ev}{w:List By}{T:List (SV×SV)}{n:List Int}(h:(aF l).2=0)(hw:w≠[])(hk:w.getD 0 []=[99,108,101,97,114]):G5 l w T n (0,[111,107],[]):=by
 intro O h1 h0 h11;have h1':Sx.look 1 O= .lst 1 DT.str.aI DT.str.aA w:=h1;have h0':Sx.look 0 O= .lst 3 aO.aI aO.aA l:=h0;have hk':w.getD 0 DT.str.aI=[99,108,101,97,114]:=hk;have hl:=bP h;have hw0:0<w.length:=z09.2 hw;unfold EK;have e0:([99,108,101,97,114]:By)=[114,97,99,101,115]↔False:=by decide
 have e1:([99,108,101,97,114]:By)=[102,117,108,108]↔False:=by decide
 have e2:([99,108,101,97,114]:By)=[102,97,115,116]↔False:=by decide
 have e3:([99,108,101,97,114]:By)=[119,97,114,110,115]↔False:=by decide
 have e4:([99,108,101,97,114]:By)=[108,101,97,100,115]↔False:=by decide
 have e5:([99,108,101,97,114]:By)=[115,116,97,109,112]↔False:=by decide
 have e6:([99,108,101,97,114]:By)=[114,105,110,103]↔False:=by decide
 have e7:([99,108,101,97,114]:By)=[100,114,111,112]↔False:=by decide
 have e8:([99,108,101,97,114]:By)=[109,105,110]↔False:=by decide
 have e9:([99,108,101,97,114]:By)=[115,105,122,101]↔False:=by decide
 simp only[go_sem,seval,iR,kE,lg,h1',h0',h11,hk',h,dK,e0,e1,e2,e3,e4,e5,e6,e7,e8,e9,z03,z02,z06,z05,dF,z00,ah,z01,z04];unfold ayx;simp only[go_sem,seval,z03,z02,z06,z05,dF,z00,ah,z01,z04];omega
def LX(k:Nat)(l:List Ev)(n:List Int):Ans:=match k with
 |4=>if (l.length:Int)<=n.getD 0 0\/(l.length:Int)<=n.getD 1 0 then(1,[],l) else(0,Q5 (bI l (n.getD 0 0).toNat (n.getD 1 0).toNat),l)
 |7=>if (l.length:Int)<=n.getD 0 0 then(1,[],l) else if (aF (cut l (n.getD 0 0).toNat)).2=0 then(0,[111,107],cut l (n.getD 0 0).toNat) else(5,[],l)
 |k=>doA k l n
theorem Jp(k:By):∀ (c:List (By×Nat)) (j:Nat) (p:Nat×Nat),iy k c j=some p->k=(c.getD (p.1 - j) ([],0)).1
 |[],_,_,h=>by cases h
 |a::r,j,p,h=>by
  rw[iy] at h;by_cases hk:k=a.1
  ·rw[if_pos hk] at h;simp only[z0w] at h;subst h;simpa using hk
  ·rw[if_neg hk] at h;obtain⟨h1,_,_⟩:=Jq k r (j+1) p h;have:=Jp k r (j+1) p h;rw[show p.1 - j=(p.1 - (j+1))+1 by omega,z04]
   exact this
theorem avb{l:List Ev}{w:List By}{T:List (SV×SV)}{n:List Int}{p:Nat×Nat}(hp:iy (w.getD 0 []) uJ 0=some p)(hn:n.length=p.2)(h0:∀ x∈n,0<=x)(h:(aF l).2=0)(hw:w≠[]):G5 l w T n (LX p.1 l n):=by
 obtain⟨k,m⟩:=p;obtain⟨h1,h2⟩:=FQ hp;have hk:=Jp _ _ _ _ hp;simp only at h1 h2 hk hn;subst h2
 match k,h1 with
 |0,_=>exact ahJ h hw hk
 |1,_=>exact aod h hw hk
 |2,_=>exact aoe h hw hk
 |3,_=>exact ahK h hw hk
 |4,_=>match n,hn,h0 with
  |[a,b],_,h0=>exact ahM (h0 a (by simp)) (h0 b (by simp)) h hw hk
 |5,_=>match n,hn,h0 with
  |[a],_,h0=>exact ahN (h0 a (by simp)) h hw hk
 |6,_=>exact aof h hw hk
 |7,_=>match n,hn,h0 with
  |[a],_,h0=>exact aog (h0 a (by simp)) h hw hk
 |8,_=>exact ava h hw hk
 |9,_=>exact aoh h hw hk
 |10,_=>exact ahO h hw hk
def amR(l:List Ev)(w:List By):Ans:=match iy (w.getD 0 []) uJ 0 with
 |none=>(3,[],l)
 |some (k,many)=>if w.length=many+1 then(if qy (w.drop 1)=true then LX k l (numsL (w.drop 1)) else(3,[],l)) else(3,[],l)
def yA(l:List Ev)(w:List By):Ans:=if Pj w=true then MW l (z0m w [32]) else if w=[] then(3,[],l) else amR l w
def avc:List (SV×SV):=uJ.map λp=>(.str p.1, .int .i64 (p.2+1:Nat))
theorem ahP:gG .str (.str [99,108,101,97,114]) (.int .i64 1) (gG .str (.str [115,105,122,101]) (.int .i64 1) (gG .str (.str [109,105,110]) (.int .i64 1) (gG .str (.str [100,114,111,112]) (.int .i64 2) (gG .str (.str [114,105,110,103]) (.int .i64 1) (gG .str (.str [115,116,97,109,112]) (.int .i64 2) (gG .str (.str [108,101,97,100,115]) (.int .i64 3) (gG .str (.str [119,97,114,110,115]) (.int .i64 1) (gG .str (.str [102,97,115,116]) (.int .i64 1) (gG .str (.str [102,117,108,108]) (.int .i64 1) (gG .str (.str [114,97,99,101,115]) (.int .i64 1) []))))))))))=avc:=by rfl
theorem S9(k:By):∀ (c:List (By×Nat)) (j:Nat),dQ .str (.str k) (c.map λp=>(SV.str p.1,SV.int .i64 (p.2+1:Nat)))=(iy k c j).map λp=>SV.int .i64 (p.2+1:Nat)
 |[],_=>rfl
 |p::r,j=>by
  rw[z00,dQ,iy];by_cases h:k=p.1
  ·subst h;rw[if_pos rfl];simp[nJ]
  ·rw[if_neg h,<- S9 k r (j+1)];simp[nJ,h]
theorem abx(k:By):dQ .str (.str k) avc=(iy k uJ 0).map λp=>SV.int .i64 (p.2+1:Nat):=S9 k uJ 0
theorem VH(l:List Ev)(w:List By)(h:(aF l).2=0)(hw:∀ x∈w,x≠[]/\x.length<=200)(hwl:w.length<=201):
  FnOK Tryz.prog 9 [dw.aA l,Oh.aA w] [] (.bK [.str (yA l w).2.1,dw.aA (yA l w).2.2, .int .i64 (yA l w).1]) []:=by
 have hl:=bP h;refine fn_walkF c9 w9 au9 rfl ?_;unfold j9;simp only[go_sem,seval,iR,kE,ahP,abx,List.range_zero,z03,z02,z06,z05,dF,z00,ah,z01,z04];rw[ZW];refine⟨λ_=>by omega,λh1=> ?_,λht=> ?_,λht=> ?_⟩
 ·simp only[z0r,decide_eq_true_eq] at h1;omega
 ·have hj:(z0m w [32]).length<=100000:=by have:=vP (k:=200) (xs:=w) (λx hx=>(hw x hx).2);omega
  rw[yA,if_pos ht,MW];refine⟨⟨by omega,by omega⟩,λh2=> ?_,λh2=> ?_⟩
  ·rw[if_neg h2]
  ·rw[if_pos h2];exact⟨by omega,by omega,rfl⟩
 ·refine⟨λ_=>by omega,λhc=> ?_,λhc=> ?_⟩
  ·have e:yA l w=(3,[],l):=by
    rw[yA,if_neg (by rw[ht];exact z0e)]
    by_cases hw0:w=[]
    ·rw[if_pos hw0]
    ·have hw1:0<w.length:=z09.2 hw0;rw[if_neg hw0,amR];cases hp:iy (w.getD 0 []) uJ 0 with
     |none=>rfl
     |some p=>
      have hp':iy (w.getD 0 DT.str.aI) uJ 0=some p:=hp;simp only[hp',z0z,obI,z0t,decide_eq_true_eq,Bool.not_eq_true',decide_eq_false_iff_not] at hc;exact if_neg (by omega)
   rw[e]
  ·simp only[z0h,decide_eq_false_iff_not,z0y,decide_eq_true_eq] at hc;have hw0:w≠[]:=λe=>hc.1 (by rw[e];rfl)
   have hw1:0<w.length:=z09.2 hw0;cases hp:iy (w.getD 0 []) uJ 0 with
   |none=>
    have hp':iy (w.getD 0 DT.str.aI) uJ 0=none:=hp;rw[hp'] at hc;have:=hc.2;simp only[Option.map_none,obI] at this;omega
   |some p=>
    have hp':iy (w.getD 0 DT.str.aI) uJ 0=some p:=hp;rw[hp'] at hc;have hm:=hc.2;simp only[z0z,obI] at hm;have hm':w.length=p.2+1:=by omega
    have hr:yA l w=if qy (w.drop 1)=true then LX p.1 l (numsL (w.drop 1)) else(3,[],l):=by
     rw[yA,if_neg (by rw[ht];exact z0e),if_neg hw0,amR,hp]
     exact if_pos hm'
    rw[hr];refine⟨⟨by omega,z0s _⟩,?_⟩
    rw[z0b];have hv:∀ x∈w.drop 1,x≠[]/\x.length<=200:=λx hx=>hw x (z0v hx);have hvl:(w.drop 1).length=p.2:=by rw[z0q];omega
    generalize w.drop 1=v at hv hvl ⊢;refine aZ Nat (λi=>[.int .i64 i, .vec 1 (numsL (v.take i)).length]) (λi=>[.mp .str (.int .i64) avc, .vec 3 1 ((numsL (v.take i)).map DT.int.aA)]) (λi=>i<=v.length/\qy (v.take i)=true) (λi=>v.length - i) 0 ⟨by omega,rfl⟩ ?_ rfl ?_
    ·simp only[go_sem,seval];rfl
    ·rintro i ⟨hi,uo⟩;unfold ays;simp only[go_sem,seval,iR,z03,z02,z06,z05,dF,z00,z07,z08,ah,z01,z04];refine⟨λh1=> ?_,λh1=> ?_⟩
     ·have hil:i<v.length:=by omega
      have hxm:v.getD i []∈v:=by rw[z0j,z0a hil];exact z0f hil
      have hxl:=(hv _ hxm).2;have hxd:v.getD i DT.str.aI=v.getD i []:=rfl;rw[hxd];have ht1:v.take (i+1)=v.take i++[v.getD i []]:=bH [] hil;have hl1:(numsL (v.take i)).length<=201:=by rw[numsL,z0p,z0d];omega
      have hn1:numsL (v.take (i+1))=numsL (v.take i)++[(xA (v.getD i [])).1]:=by rw[ht1,numsL,z0g];rfl
      refine⟨⟨by omega,by omega⟩,by omega,λhn=> ?_,λhn=>⟨by omega,i+1,⟨by omega,?_⟩,by omega,⟨aY,?_⟩,?_⟩⟩
      ·have hno:qy v=false:=by rw[qy,z15];exact⟨_,hxm,by rw[hn];exact z0e⟩
       rw[if_neg (by rw[hno];exact z0e)]
      ·rw[ht1,qy,z18];simp only[z1a,List.all_nil,hn,z1b];exact uo
      ·rw[hn1,z0c];rfl
      ·rw[hn1,z0g];rfl
     ·obtain rfl:i=v.length:=by omega
      rw[z0b] at uo ⊢;rw[if_pos uo];exact avb hp (by rw[numsL,z0p];omega) (λx hx=>by obtain⟨y,hy,rfl⟩:=z0u.1 hx;exact(Ho (z0n.1 uo y hy)).2.2.2.1) h hw0 _ rfl rfl rfl
end Go.Proofs.YtgnaipcjbmhihaaGreatDoor.Dk
namespace Go.Proofs.YtgnaipcjbmhihaaGreatDoor.Dk
open D Tx Tr Rc Fu Fa St Rg Sk Ah Ps Cp
def Like(r s:Ans):Prop:=r.1=s.1/\(s.1=0->r=s)
theorem pG(r:Ans):Like r r:=⟨rfl,λ_=>rfl⟩
theorem amQ{l:List Ev}{n:List Int}(k:Nat)(h0:∀ x∈n,0<=x)(h:(aF l).2=0):Like (LX k l n) (doA k l n):=by
 have hg:∀ j,0<=n.getD j 0:=λj=>by
  rcases z0o j n.length with hj|hj
  ·rw[z0j,z0a hj];exact h0 _ (z0f hj)
  ·rw[z0j,List.getElem?_eq_none hj];exact Int.le_refl 0
 have g0:=hg 0;have g1:=hg 1;rcases(by omega:k=4\/k=7\/k≠4/\k≠7) with rfl|rfl|⟨h4,h7⟩
 ·show Like (if (l.length:Int)<=n.getD 0 0\/(l.length:Int)<=n.getD 1 0 then(1,[],l) else(0,Q5 (bI l (n.getD 0 0).toNat (n.getD 1 0).toNat),l)) ((mD l (n.getD 0 0) (n.getD 1 0)).2,Q5 (mD l (n.getD 0 0) (n.getD 1 0)).1,l)
  unfold mD;rw[CU h,if_neg (show ¬ ((0:Int)≠0) from λh=>h rfl)]
  by_cases hc:(l.length:Int)<=n.getD 0 0\/(l.length:Int)<=n.getD 1 0
  ·rw[if_pos hc,if_pos (by omega)]
   exact⟨rfl,λh=>absurd h (by simp)⟩
  ·rw[if_neg hc,if_neg (by omega),Y9 (by omega)]
   exact pG _
 ·show Like (if (l.length:Int)<=n.getD 0 0 then(1,[],l) else if (aF (cut l (n.getD 0 0).toNat)).2=0 then(0,[111,107],cut l (n.getD 0 0).toNat) else(5,[],l)) ((gV l (n.getD 0 0)).2,[111,107],(gV l (n.getD 0 0)).1)
  unfold gV;rw[if_pos h];by_cases hc:(l.length:Int)<=n.getD 0 0
  ·have hp:n.getD 0 0<0\/(l.length:Int)<=n.getD 0 0:= .inr hc;simp only[if_pos hc,if_pos hp];exact⟨rfl,λh=>absurd h (by simp)⟩
  ·have hn:¬ (n.getD 0 0<0\/(l.length:Int)<=n.getD 0 0):=by omega
   simp only[if_neg hc,if_neg hn];by_cases hk:(aF (cut l (n.getD 0 0).toNat)).2=0
   ·simp only[if_pos hk];exact pG _
   ·simp only[if_neg hk];exact⟨rfl,λh=>absurd h (by simp)⟩
 ·have e:LX k l n=doA k l n:=by
   unfold LX;split
   ·exact absurd rfl h4
   ·exact absurd rfl h7
   ·rfl
  rw[e];exact pG _
theorem Q7{l:List Ev}{w:List By}(h:(aF l).2=0):Like (yA l w) (kH l w):=by
 unfold yA kH;split
 ·exact pG _
 ·split
  ·exact pG _
  ·unfold amR Zg;cases iy (w.getD 0 []) uJ 0 with
   |none=>exact pG _
   |some p=>
    obtain⟨k,many⟩:=p;simp only;split
    ·split
     ·rename_i hok;refine amQ _ (λx hx=> ?_) h;obtain⟨y,hy,rfl⟩:=z0u.1 hx;exact(Ho (z0n.1 hok y hy)).2.2.2.1
     ·exact pG _
    ·exact pG _
def as5(l:List Ev)(w:List By):By×List Ev:=if (yA l w).1=0 then((yA l w).2.1,(yA l w).2.2) else(afs (yA l w).1,l)
theorem aft{l:List Ev}(s:By)(h:(aF l).2=0):as5 l (bV s)=vF l s:=by
 obtain⟨h1,h2⟩:=Q7 (w:=bV s) h;unfold as5 vF;rw[h1];split
 ·rename_i h0;rw[h2 h0]
 ·rfl
def axN:JC:=(qN (oO 23 22 21<|.nil) (.seq (qO 23 .skip (.exit 0)) (.seq (.block 1 (qN (oK 24 1 20 22<|o9 25 1 24<|o7 6 25<|.nil) (.ops<|qL [4,6,22,21,20,0]<|o7 26 4<|o7 27 26<|.sc true 31 27 (o7 28 6<|qo 29 (.lens (.t 28))<|qJ 30 29 200<|.nil) (.t 30)<|o7 4 31<|.nil))) (qM [22,21,20,4,0] (.ops<|oJ 32 22 1<|o7 22 32<|.nil)))))
def axO:JC:=(qN (oO 44 43 42<|.nil) (qM [44,41,43,11,42,7,8,36,35,34] (.seq (qO 44 .skip (.exit 4)) (qM [41,43,11,42,7,8,36,35,34] (.seq (.block 5 (qN (oK 45 1 41 43<|o9 46 1 45<|o7 13 46<|.nil) (qM [13,11,43,42,41,7,8,36,35,34] (qN (o7 47 13<|qo 48 (.seq true (.t 47) (.c (.str [])))<|.nil) (qM [48,11,13,43,42,41,7,8,36,35,34] (qO 48 (.ops<|o7 49 11<|o7 50 13<|qL [50,49,43,42,41,7,8,36,35,34]<|eo 51 (.qj 9 1 1 (.str []) [(0,(.t 50))])<|oW 52 9 1 16 49 51<|o7 11 52<|.nil) .skip)))))) (qM [43,42,41,11,7,8,36,35,34] (.ops<|oJ 53 43 1<|o7 43 53<|.nil)))))))
def axP:JC:=(.jg 11 Oh.gq<| .prune [7,11,8,36,35,34] (qN (o7 55 7<|o7 56 11<|qE 57 9 55 56<|qL [57,7,8,36,35,34]<|o7 54 57<|oN 58 0 54<|oN 59 1 54<|oN 60 2 54<|o7 14 58<|o7 15 59<|o7 16 60<|.nil) (qM [16,7,8,36,35,34,15,14] (.seq (qN (o7 61 16<|qC 62 61 0<|.nil) (qM [62,16,7,8,36,35,34,15,14] (qO 62 (.ops<|qL [16,7,8,36,35,34]<|o7 63 16<|oM 64 10 63<|qo 65 (.cat (.c (.str [101,114,114,111,114,32])) (.t 64))<|qL [7,65,8,36,35,34]<|o7 66 7<|o7 14 65<|o7 15 66<|.nil) .skip))) (qM [15,8,14,36,35,34] (.ops<|o7 67 15<|o7 68 8<|o7 69 14<|qL [69,68,67,36,35,34]<|eo 70 (.qj 9 1 1 (.str []) [(0,(.t 69))])<|oW 71 9 1 16 68 70<|o7 7 67<|o7 8 71<|.nil))))))
def axQ:JC:=(qM [36,35,34,7,8] (.ops<|oJ 72 36 1<|o7 36 72<|.nil))
def axR:JC:=(qN (oO 37 36 35<|.nil) (.seq (qO 37 .skip (.exit 2)) (.seq (.block 3 (qN (oK 38 1 34 36<|o9 39 1 38<|o7 10 39<|.nil) (qN (oU 11<|.nil) (qM [10,11,7,8,36,35,34] (.seq (qN (o7 40 10<|eo 41 (.call 8 [(.t 40),(.c (.str [32]))])<|oP 42 41<|o8 43 0<|.nil) (qM [43,42,41,11,7,8,36,35,34] (.block 4 (.bn 11 9 1 (.loop [42,41,7,8,36,35,34] [43,11] axO))))) axP))))) axQ)))
def axS:JC:=(qM [8] (qN (o7 73 8<|o7 2 73<|o8 3 0<|.nil) (.bn 2 9 1 .ret)))
def axT:JC:=(qM [4,0] (.seq (qN (o7 33 4<|.nil) (qO 33 (qN (oU 2<|o8 3 2<|.nil) (.bn 2 9 1 .ret)) .skip)) (.seq (.pfz 7 dw.gq (.ops<|oU 7<|.nil)) (qN (oU 8<|.nil) (.seq (qN (qL [0,7,8]<|o7 34 0<|oP 35 34<|o8 36 0<|.nil) (qM [36,35,34,7,8] (.block 2 (.bn 8 9 1 (.loop [35,34] [36,7,8] axR))))) axS)))))
def j5:JC:=(qN (oU 2<|o8 3 0<|.nil) (qN (o7 17 0<|oP 18 17<|qJ 19 18 60<|o7 4 19<|.nil) (.seq (qN (o7 20 0<|oP 21 20<|o8 22 0<|.nil) (.block 0 (.loop [21,20,0] [22,4] axN))) axT)))
def Gdr(f:FuncId)(a:List SV)(m:List ay):Sx.Call:=(FH.mk 8 (.two .str .str) (λy=>y.1.length<=200/\y.2.1=[32]) (λy=> .vec 0 (bf y.1 32).length) (λy=>[.vec 9 1 ((bf y.1 32).map DT.str.aA)])<|
 FH.pz 9 (.two dw Oh) (.three .str dw .int) (λy=>(aF y.1).2=0/\(∀ x∈y.2.1,x≠[]/\x.length<=200)/\y.2.1.length<=201) (λy=>((yA y.1 y.2.1).2.1,(yA y.1 y.2.1).2.2,(yA y.1 y.2.1).1))<|
 FH.rd 10 (.one .int) (.one .str) (λy=>okI y.1) (λy=>eF y.1) FH.none) f a m
theorem afu:type_of% (nq Gdr.eq_1):=nq Gdr.eq_1
theorem as7:aW Tryz.prog Gdr:=FH.eu (λy _=>cZ (nM _ _) ⟨bY _ _ DT.str _,trivial⟩) (λy h=>by obtain⟨s,c,u⟩:=y;obtain⟨h1,h2⟩:=h;simp only at h1 h2;subst h2;exact Zh s 32 (by omega))<|FH.oq (λy h=>VH y.1 y.2.1 h.1 h.2.1 h.2.2)<|FH.aT (λy h=>VI y.1 h) FH.none_ok
theorem aaS{l:List Ev}(w:List By)(h:(aF l).2=0):okI (yA l w).1:=by rw[(Q7 h).1];exact(yJ w h).1
def KW(ls:List By):List By:=if AA ls=true then[] else(Fp ls).2
def CV(v:List By):List By:=v.filter λw=>w≠[]
theorem VJ(v:List By)(x:By):CV (v++[x])=CV v++(if x=[] then[] else[x]):=by by_cases h:x=[]<;>simp[CV,h]
theorem aaT(v:List By):(CV v).length<=v.length:=List.length_filter_le _ _
theorem VK(s:By):(bf s 32).length<=s.length+1:=by rw[LY];have:=List.count_le_length (a:=(32:UInt8)) (l:=s);omega
theorem amS(s:By):CV (bf s 32)=bV s:=(VL s).symm
theorem aaU(ls:List By):FnOK Tryz.prog 5 [Oh.aA ls] [] (.bK [.vec 0 (KW ls).length, .int .i64 (if AA ls=true then 2 else 0)]) [.vec 9 1 ((KW ls).map DT.str.aA)]:=by
 refine nO λhB=>fn_walkA j5 [.tmp 2, .tmp 3] 74 as7 rfl ?_;simp only[go_sem,seval] at hB;unfold j5;simp only[go_sem,seval];refine aZ Nat (λi=>[.int .i64 i, .bool (decide (60<ls.length)||(ls.take i).any λs=>decide (200<s.length))]) (λ_=>[]) (λi=>i<=ls.length) (λi=>ls.length - i) 0 (by omega) ?_ rfl ?_
 ·simp only[go_sem,seval];have e:decide ((60:Int)<ls.length)=decide (60<ls.length):=by congr 1;exact propext ⟨λh=>by omega,λh=>by omega⟩
  simp[e]
 ·intro i hi;unfold axN;simp only[go_sem,seval,z02,z08];refine⟨λh1=> ?_,λh1=> ?_⟩
  ·have hil:i<ls.length:=by omega
   have ht:ls.take (i+1)=ls.take i++[ls.getD i []]:=bH [] hil;refine⟨⟨by omega,by omega⟩,i+1,by omega,by omega,aY,?_⟩
   have e:decide ((200:Int)< (ls.getD i DT.str.aI).length)=decide (200< (ls.getD i []).length):=by
    show decide ((200:Int)< (ls.getD i []).length)=_
    congr 1;exact propext ⟨λh=>by omega,λh=>by omega⟩
   rw[ht,e,List.any_append];simp[Bool.or_assoc]
  ·obtain rfl:i=ls.length:=by omega
   rw[z0b];unfold axT;have hbig:(decide (60<ls.length)||ls.any λs=>decide (200<s.length))=AA ls:=rfl
   rw[hbig];simp only[go_sem,seval,z03,z02,dF,z00,ah,z01];refine⟨λhb=> ?_,λhb=> ?_⟩
   ·have ho:KW ls=[]:=by rw[KW,if_pos hb]
    rw[ho,hb];exact⟨rfl,rfl⟩
   ·have ho:KW ls=(Fp ls).2:=by rw[KW,if_neg (by rw[hb];exact z0e)]
    have hbs:∀ s∈ls,s.length<=200:=by simp only[AA,z0h,decide_eq_false_iff_not,z14,decide_eq_true_eq] at hb;exact λs hs=>Nat.le_of_not_lt (hb.2 s hs)
    have aDw:ls.length<=60:=by simp only[AA,z0h,decide_eq_false_iff_not] at hb;omega
    rw[ho,if_neg (by rw[hb];exact z0e)]
    refine aZ Nat (λi=>[.int .i64 i,dw.aA (Fp (ls.take i)).1, .vec 0 (Fp (ls.take i)).2.length]) (λi=>[.vec 9 1 ((Fp (ls.take i)).2.map DT.str.aA)]) (λi=>i<=ls.length) (λi=>ls.length - i) 0 (by omega) ?_ rfl ?_
    ·simp only[go_sem,seval];exact⟨rfl,rfl⟩
    ·intro i hi;obtain⟨g1,g2⟩:=afv (ls.take i);rw[z0d] at g2;have hg:=aft (ls.getD i []) g1;rw[as5] at hg;generalize hL:(Fp (ls.take i)).1=L at*;unfold axR;simp only[go_sem,seval,afu,z03,z02,z00];refine⟨λh1=> ?_,λh1=> ?_⟩
     ·have hil:i<ls.length:=by omega
      have hxm:ls.getD i []∈ls:=by rw[z0j,z0a hil];exact z0f hil
      have hsl:=hbs _ hxm;have hxd:ls.getD i DT.str.aI=ls.getD i []:=rfl;rw[hxd];generalize hx:ls.getD i []=s at*;have aDx:=VK s;refine⟨⟨by omega,by omega⟩,hsl,aZ Nat (λj=>[.int .i64 j, .vec 2 (CV ((bf s 32).take j)).length]) (λj=>[.vec 9 1 ((Fp (ls.take i)).2.map DT.str.aA), .vec 9 1 ((bf s 32).map DT.str.aA), .vec 9 1 ((CV ((bf s 32).take j)).map DT.str.aA)]) (λj=>j<=(bf s 32).length) (λj=>(bf s 32).length - j) 0 (by omega) ?_ rfl ?_⟩
      ·simp only[go_sem,seval];rfl
      ·intro j hj;unfold axO;rcases z0o j (bf s 32).length with hjl|hjl
       ·have hx':=afw DT.str hjl;have hxs:DT.str.aA ((bf s 32).getD j DT.str.aI)= .str ((bf s 32).getD j []):=rfl;rw[hxs] at hx';have ht:CV ((bf s 32).take (j+1))=CV ((bf s 32).take j)++(if (bf s 32).getD j []=[] then[] else[(bf s 32).getD j []]):=by rw[bH [] hjl,VJ]
        have hsl1:=aaT ((bf s 32).take j);rw[z0d] at hsl1;simp only[go_sem,seval,hx',z03,z02,z06,z05,z00,z07,z08,ah,z01,z04];refine⟨λ_=>⟨⟨by omega,by omega⟩,hjl,λhne=>⟨by omega,j+1,by omega,by omega,⟨aY,?_⟩,?_⟩,λhe=>⟨j+1,by omega,by omega,⟨aY,?_⟩,?_⟩⟩,λhc=>absurd hc (by omega)⟩
        ·rw[ht,if_neg hne,z0c];rfl
        ·rw[ht,if_neg hne,z0g];rfl
        ·rw[ht,if_pos he,z16]
        ·rw[ht,if_pos he,z16]
       ·obtain rfl:j=(bf s 32).length:=by omega
        rw[z0b,amS];have hw:∀ x∈bV s,x≠[]/\x.length<=200:=λx hx=>⟨(uh hx).1,z0k (uh hx).2 hsl⟩;have hwl:(bV s).length<=201:=z0k (yK s) (by omega)
        have hsm:=aaS (bV s) g1;unfold axP;unfold axQ;simp only[go_sem,seval,afu,dK,z03,z02,z06,z05,dF,z00,z07,z08,ah,z01,z04];have hd1:=dR hsm;have hsn:=Q8 (ls.take i) s;have htk:ls.take (i+1)=ls.take i++[s]:=by rw[<- hx];exact bH [] hil
        rw[<- htk,hL] at hsn;refine⟨λhc=>absurd hc (by omega),λ_=>⟨⟨g1,hw,hwl⟩,λhe=> ?_,λhe=> ?_⟩⟩
        ·rw[if_neg he] at hg;rw[<- hg] at hsn;refine⟨hsm,by omega,by omega,i+1,by omega,by omega,⟨aY,?_,?_⟩,?_⟩
         ·rw[hsn]
         ·rw[hsn,z0c];rfl
         ·rw[hsn,z0g];rfl
        ·rw[if_pos he] at hg;rw[<- hg] at hsn;refine⟨by omega,i+1,by omega,by omega,⟨aY,?_,?_⟩,?_⟩
         ·rw[hsn]
         ·rw[hsn,z0c];rfl
         ·rw[hsn,z0g];rfl
     ·obtain rfl:i=ls.length:=by omega
      rw[z0b] at*;unfold axS;simp only[go_sem,seval,z03,z02,dF,z00,ah,z01]
end Go.Proofs.YtgnaipcjbmhihaaGreatDoor.Dk
