/- A part of the proof of StripeRuns. Conditions: none. -/
import Derived.Test.YtpajfggdnobheaaFastR
import Derived.Test.YtpajfggdnobheaaCo11
set_option linter.unusedVariables false
set_option linter.unusedSimpArgs false
set_option maxRecDepth 100000
open Go Go.Sx Go.Conc Go.Proofs
namespace Go.Proofs.Ytpajfggdnobheaa.Sp
variable {main:Bool} {Fz:Nat→Prop}
open Go.Proofs.Ytpajfggdnobheaa.D Go.Proofs.Ytpajfggdnobheaa.Tr Go.Proofs.Ytpajfggdnobheaa.C Go.Proofs.Ytpajfggdnobheaa.Fu Go.Proofs.Ytpajfggdnobheaa.Fa
def j20_1:JC:=
 (.ops<|
 qo 5 (.mv (.c .nils))<|
 .nil)
def j20_2:JC:=
 (.ops<|
 qo 10 (.mv (.t 0))<|
 .nil)
def j20_3:JC:=
 (.cond (.t 12)
 .skip
 (.exit 0))
def j20_4:JC:=
 (.ops<|
 qo 13 (.ext 0 (.t 11))<|
 eo 6 (.alloc 68 (.agg [(.int .i64 0),(.agg [(.int .i64 0),(.int .i64 0),(.int .i64 0)]),(.arr 6 1 fun _=>(.int .i64 0))]))<|
 en (.store 10 (.t 6) (.t 13))<|
 .nil)
def j20_5:JC:=
 (.ops<|
 qo 19 (.mv (.t 7))<|
 qo 20 (.pnil false (.t 19))<|
 .nil)
def j20_6:JC:=
 (.ops<|
 eo 21 (.call 43 [])<|
 qo 7 (.mv (.t 21))<|
 .nil)
def j20_7:JC:=
 (.seq (.ops<|
 qo 27 (.mv (.t 7))<|
 qo 28 (.fa 1 1 (.t 6))<|
 eo 29 (.load 3 true (.t 28))<|
 qo 30 (.fa 2 4 (.t 6))<|
 eo 31 (.load 6 true (.t 30))<|
 eo 32 (.call 44 [(.t 27),(.t 29),(.t 31)])<|
 qo 8 (.mv (.t 32))<|
 .nil)
 (.seq (.ops<|
 qo 33 (.mv (.t 8))<|
 qo 34 (.cmp .neq (.t 33) (I 0))<|
 .nil)
 (.cond (.t 34)
 (.ops<|
 .prune [5,6,8,10,4,1]<|
 qo 35 (.mv (.t 5))<|
 qo 36 (.fa 0 0 (.t 6))<|
 eo 37 (.load 1 false (.t 36))<|
 qo 38 (.fa 1 1 (.t 6))<|
 .prune [38,8,37,35,10,4,1]<|
 qo 39 (.fa 2 2 (.t 38))<|
 eo 40 (.load 1 false (.t 39))<|
 qo 41 (.mv (.t 8))<|
 .prune [37,40,41,35,10,4,1]<|
 qo 42 (.bld (.agg [(.int .i64 0),(.int .i64 0),(.int .i64 0)]) [([.fld 0],0,1,(.t 37)),([.fld 1],1,1,(.t 40)),([.fld 2],2,1,(.t 41))])<|
 .prune [42,35,10,4,1]<|
 eo 43 (.bsl 32 3 1 (.agg [(.int .i64 0),(.int .i64 0),(.int .i64 0)]) [(0,(.t 42))])<|
 eo 44 (.app 32 3 24 (.t 35) (.t 43))<|
 qo 5 (.mv (.t 44))<|
 .nil)
 .skip)))
def j20_8:TC:=
 (.seq (.reg (
 .nil) (some 11) (.recv 116 (.t 10) true) (
 qo 12 (.ext 1 (.t 11))<|
 .nil))
 (.seq (.jc j20_3)
 (.block 1 (.seq (.jc j20_4)
 (.seq (.reg (
 qo 14 (.mv (.t 4))<|
 qo 15 (.fa 1 1 (.t 6))<|
 qo 16 (.fa 2 2 (.t 15))<|
 eo 17 (.load 1 false (.t 16))<|
 .nil) (some 18) (.lookm 118 (.t 14) (.t 17)) (
 qo 7 (.mv (.t 18))<|
 .nil))
 (.seq (.seq (.jc j20_5)
 (.cond (.t 20) (.seq (.jc j20_6)
 (.reg (
 qo 22 (.mv (.t 4))<|
 qo 23 (.fa 1 1 (.t 6))<|
 qo 24 (.fa 2 2 (.t 23))<|
 eo 25 (.load 1 false (.t 24))<|
 qo 26 (.mv (.t 7))<|
 .nil) none (.putm 118 (.t 22) (.t 25) (.t 26)) (
 .nil)))
 (.jc .skip)))
 (.jc j20_7)))))))
def j20:TC:=
 (.seq (.reg (
 .nil) (some 9) (.mkmap 118) (
 qo 4 (.mv (.t 9))<|
 .nil))
 (.seq (.jc j20_1)
 (.seq (.seq (.jc j20_2)
 (.block 0 (.loop j20_8)))
 (.reg (
 qo 45 (.mv (.t 1))<|
 qo 46 (.mv (.t 5))<|
 .nil) none (.send (.t 45) (.t 46)) (
 .nil)))))
theorem c20:tIs Try.prog qall (fun f=>[6].contains f) 20=some (j20.flat,[],47,false):=by kernel_rfl
structure Ms where
 i:Nat
 e:Ev
 c:Clk
def mS (x:Ms):SV:= .agg [.int .i64 x.i, .agg [.int .i64 x.e.kind, .int .i64 x.e.thr, .int .i64 x.e.obj], .arr 6 1 fun j=> .int .i64 (x.c j)]
def mV (x:Ms):Value:= .agg #[.int .i64 x.i, .int .i64 x.e.kind, .int .i64 x.e.thr, .int .i64 x.e.obj, .int .i64 (x.c 0), .int .i64 (x.c 1), .int .i64 (x.c 2), .int .i64 (x.c 3), .int .i64 (x.c 4), .int .i64 (x.c 5)]
theorem m_sat (ε:Env) (x:Ms):SatV ε (.tup [mS x, .bool true]) (.tuple #[mV x, .bool true]):=by
 refine ⟨[mV x, .bool true],⟨[.int .i64 x.i, .int .i64 x.e.kind, .int .i64 x.e.thr, .int .i64 x.e.obj, .int .i64 (x.c 0), .int .i64 (x.c 1), .int .i64 (x.c 2), .int .i64 (x.c 3), .int .i64 (x.c 4), .int .i64 (x.c 5)],[.bool true],rfl,?_,[.bool true],[],rfl,rfl,rfl⟩,rfl⟩
 refine ⟨[.int .i64 x.i],_,rfl,rfl,[.int .i64 x.e.kind, .int .i64 x.e.thr, .int .i64 x.e.obj],_,rfl,⟨[.int .i64 x.e.kind],_,rfl,rfl,[.int .i64 x.e.thr],_,rfl,rfl,[.int .i64 x.e.obj],_,rfl,rfl,rfl⟩,[.int .i64 (x.c 0), .int .i64 (x.c 1), .int .i64 (x.c 2), .int .i64 (x.c 3), .int .i64 (x.c 4), .int .i64 (x.c 5)],[],rfl,⟨rfl,fun i hi=> ?_⟩,rfl⟩
 have:i=0∨i=1∨i=2∨i=3∨i=4∨i=5:=by omega
 rcases this with rfl|rfl|rfl|rfl|rfl|rfl<;>rfl
def hStep (f:Int→Cl) (x:Ms):Int→Cl:=fun v=>if v=x.e.obj then accS (f v) x.e x.c else f v
def hK (f:Int→Cl) (x:Ms):Int:=accK (f x.e.obj) x.e x.c
def hFl (f:Int→Cl) (x:Ms):List Fl:=if hK f x=0 then [] else [⟨x.i,x.e.obj,hK f x⟩]
def hRun:(Int→Cl)→List Ms→List Fl
 |_,[]=>[]
 |f,x::l=>hFl f x++hRun (hStep f x) l
def okH:(Int→Cl)→List Ms→Prop
 |_,[]=>True
 |f,x::l=>okC (f x.e.obj)∧0≤x.e.thr∧x.e.thr<6∧okH (hStep f x) l
theorem cl_env {s:Cl} {ε ε':Env} {cs:List Value} (h:SatC (dCl.emb s) ε cs):SatC (dCl.emb s) ε' cs:=by
 obtain ⟨w,r,k⟩:=s
 cases r with
 |inl p=>simp only [cl_one,SatC,SatL] at h ⊢;exact h
 |inr c=>simp only [cl_many,SatC,SatL] at h ⊢;exact h
def XA (r:Nat) (A:List (Int×Nat)) (cs:Nat→List Value):Nat→Option Obj:=fun b=>if b=r then some (mapO A) else if (A.map (·.2)).contains b then some (.cells (cs b).toArray 152 (0,0)) else none
structure MapOK (f:Int→Cl) (r:Nat) (A:List (Int×Nat)) (cs:Nat→List Value):Prop where
 ks:(A.map (·.1)).Nodup
 bs:(A.map (·.2)).Nodup
 r:r∉A.map (·.2)
 at':∀ p∈A,SatC (dCl.emb (f p.1)) Env.nil (cs p.2)
 new:∀ v,v∉A.map (·.1)→f v=cl0
def Ghd (f:FuncId) (a:List SV) (m:List Res):Sx.Call:=(FH.mk 43 .nil (fun _=>True) (fun _=> .ptr 0 [] 0) (fun _=>[.blk 152 (dCl.emb cl0)])<|
 FH.mt 44 152 dCl (.two dEv dClk) (.one .int) (fun s y=>okC s∧0≤y.1.thr∧y.1.thr<6) (fun s y=>accK s y.1 y.2.1) (fun s y=>accS s y.1 y.2.1) FH.none) f a m
theorem Ghd_eq (f:FuncId) (a:List SV) (m:List Res):Ghd f a m=(FH.mk 43 .nil (fun _=>True) (fun _=> .ptr 0 [] 0) (fun _=>[.blk 152 (dCl.emb cl0)])<|
 FH.mt 44 152 dCl (.two dEv dClk) (.one .int) (fun s y=>okC s∧0≤y.1.thr∧y.1.thr<6) (fun s y=>accK s y.1 y.2.1) (fun s y=>accS s y.1 y.2.1) FH.none) f a m:=nr rfl
theorem Ghd_ok:FHOK Try.prog main Fz Ghd:=FH.mk_ok (by kernel_rfl) (fun _ _=>plainM (pv_ptr _ _ _) ⟨plR_cell _,trivial⟩) (fun _ _=>f_NewCell)<|
 FH.mt_ok (by kernel_rfl) (fun s y h=>f_Access s y.1 y.2.1 h.1 h.2.1 h.2.2) FH.none_ok
@[reducible] def tfk:FuncId→Bool:=fun f=>[6].contains f
theorem zMsg:zagg Try.prog 68=some (.agg [.int .i64 0, .agg [.int .i64 0, .int .i64 0, .int .i64 0], .arr 6 1 fun _=> .int .i64 0]):=by kernel_rfl
theorem zCell (w:World):(zeroValue 119).run Try.prog w= .ok (.pointer none) w:=by kernel_rfl
def HInv (Fz:Nat→Prop) (cin cout:Nat) (tot:List Fl) (k:Nat) (a:Act) (s:HS) (x:OW):Prop:=
 ∃ (ms:List Ms) (f:Int→Cl) (fl:List Fl) (r:Nat) (A:List (Int×Nat)) (cs:Nat→List Value) (ε:Env),s= .hears (ms.map mV)∧k=ms.length∧fl++hRun f ms=tot∧okH f ms∧fl.length+ms.length≤1000∧MapOK f r A cs∧
  TS Fz 47 [] (fun _=>none) (XA r A cs) ε (Sx.ofF [1,4,5,10] [.raw (.chan (some cout)), .raw (.map (some r)), .vec 0 fl.length, .raw (.chan (some cin))] .nil) [.vec 32 3 (fl.map dFl.emb)] a x
def HEnd (Fz:Nat→Prop) (cout:Nat) (tot:List Fl) (a:Act) (s:HS) (x:OW):Prop:=
 ∃ (X:Nat→Option Obj) (ε:Env),s= .tells∧TS Fz 47 [] (fun _=>none) X ε (Sx.ofF [1,5] [.raw (.chan (some cout)), .vec 0 tot.length] .nil) [.vec 32 3 (tot.map dFl.emb)] a x
section
variable {Φ:Fan} {cin cout j:Nat} {tot:List Fl}
theorem hand_shut (a:Act) (x:OW) {fl:List Fl} {X:Nat→Option Obj} {r:Value} {ε:Env}
  (hT:TS Fz 47 [] (fun _=>none) X ε (Sx.ofF [1,4,5,10] [.raw (.chan (some cout)), .raw r, .vec 0 fl.length, .raw (.chan (some cin))] .nil) [.vec 32 3 (fl.map dFl.emb)] a x) {Q:Exit→Act→HS→OW→Prop} (hQ:∀ a' s' x',HEnd Fz cout fl a' s' x'→Q (.exit 0) a' s' x'):
  TW Try.prog false Fz (handSes Try.prog Fz Φ cin cout j) qall tfk 20 j20_8 Q a (.hears []) x:=by
 unfold j20_8
 refine tw_seq (tw_regN hT FH.none_ok (by rfl) [1,5,10] [.raw (.chan (some cout)), .vec 0 fl.length, .raw (.chan (some cin))] [.vec 32 3 (fl.map dFl.emb)] ?_ fun ε1 a1 x1 h1 _ o ho hd=> ?_)
 ·simp only [go_sem,seval]
 refine OpT.mono ?_ (ts_shut h1 ho hd rfl (by decide) Try.underlying116 zMsg)
 rintro a2 s2 x2 ⟨rfl,h2⟩
 refine Behind.ofN h2 FH.none_ok (by rfl) [1,5,12] [.raw (.chan (some cout)), .vec 0 fl.length, .bool false] [.vec 32 3 (fl.map dFl.emb)] ?_ fun ε3 a3 x3 h3 _=> ?_
 ·simp only [go_sem,seval]
 refine tw_seq (tw_jcX h3 FH.none_ok (by rfl) 0 [1,5] [.raw (.chan (some cout)), .vec 0 fl.length] [.vec 32 3 (fl.map dFl.emb)] ?_ fun ε4 a4 x4 h4 _=>hQ _ _ _ ⟨_,_,rfl,h4⟩)
 unfold j20_3
 simp only [go_sem,seval]
theorem lookA_none {A:List (Int×Nat)} {v:Int} (h:lookA A v=none):v∉A.map (·.1):=by
 intro hm
 obtain ⟨p,hp,e⟩:=List.mem_map.1 hm
 have:A.find? (fun p=>decide (p.1=v))=none:=by simpa [lookA] using h
 have:=List.find?_eq_none.1 this p hp
 simp [e] at this
theorem lookA_some {A:List (Int×Nat)} {v:Int} {b:Nat} (h:lookA A v=some b):(v,b)∈A:=by
 obtain ⟨p,hp,e⟩:=Option.map_eq_some_iff.1 h
 have h1:=List.mem_of_find?_eq_some hp
 have h2:=List.find?_some hp
 have h2:p.1=v:=by simpa using h2
 rw [← h2,← e];exact h1
theorem nodup_inj {α β:Type} {g:α→β}:∀ {l:List α},(l.map g).Nodup→∀ {p q:α},p∈l→q∈l→g p=g q→p=q
 |a::l,h,p,q,hp,hq,e=>by
  simp only [List.map_cons,List.nodup_cons] at h
  rcases List.mem_cons.1 hp with e1|hp'<;>rcases List.mem_cons.1 hq with e2|hq'
  ·rw [e1,e2]
  ·subst e1;exact absurd (List.mem_map.2 ⟨q,hq',e.symm⟩) h.1
  ·subst e2;exact absurd (List.mem_map.2 ⟨p,hp',e⟩) h.1
  ·exact nodup_inj h.2 hp' hq' e
theorem renL_fl (r:Nat→Option Nat):∀ l:List Fl,renL r (l.map dFl.emb)=l.map dFl.emb
 |[]=>rfl
 |x::l=>by simp only [List.map_cons,renL,dFl.ren,renL_fl r l]
theorem hand_access (a:Act) (x:OW) {m:Ms} {ms:List Ms} {f:Int→Cl} {fl:List Fl} {r b:Nat} {A:List (Int×Nat)} {cs:Nat→List Value} {ε:Env} {X:Nat→Option Obj} (htot:fl++hRun f (m::ms)=tot) (hc:okC (f m.e.obj)) (ht1:0≤m.e.thr) (ht2:m.e.thr<6) (hok:okH (hStep f m) ms) (hlen:fl.length+(ms.length+1)≤1000)
  (hks:(A.map (·.1)).Nodup) (hbs:(A.map (·.2)).Nodup) (hr:r∉A.map (·.2)) (hat:∀ p∈A,p.2≠b→SatC (dCl.emb (f p.1)) Env.nil (cs p.2)) (hnew:∀ v,v∉A.map (·.1)→f v=cl0) (hmem:(m.e.obj,b)∈A)
  (hXr:X r=some (mapO A)) (hX:∀ p∈A,p.2≠b→X p.2=some (.cells (cs p.2).toArray 152 (0,0))) (hb:ε.blk 2=b)
  (hT:TS Fz 47 [] (fun _=>none) X ε (Sx.ofF [1,4,5,6,7,10] [.raw (.chan (some cout)), .raw (.map (some r)), .vec 0 fl.length, .ptr 1 [] 0, .ptr 2 [] 0, .raw (.chan (some cin))] .nil) [.vec 32 3 (fl.map dFl.emb), .blk 68 (mS m), .blk 152 (dCl.emb (f m.e.obj))] a x) {Q:Exit→Act→HS→OW→Prop}
  (hQ:∀ a' s' x',HInv Fz cin cout tot ms.length a' s' x'→Q .normal a' s' x'):
  TW Try.prog false Fz (handSes Try.prog Fz Φ cin cout j) qall tfk 20 (.jc j20_7) Q a (.hears (ms.map mV)) x:=by
 have fin:∀ (ε':Env) (a':Act) (x':OW) (tl:List Res),TS Fz 47 [] (fun _=>none) X ε' (Sx.ofF [1,4,5,10] [.raw (.chan (some cout)), .raw (.map (some r)), .vec 0 (fl++hFl f m).length, .raw (.chan (some cin))] .nil) (.vec 32 3 ((fl++hFl f m).map dFl.emb):: .blk 68 (mS m):: .blk 152 (dCl.emb (accS (f m.e.obj) m.e m.c))::tl) a' x'→ε'.blk 2=b→Q .normal a' (.hears (ms.map mV)) x':=by
  intro ε' a' x' tl h hb'
  obtain ⟨cs',k1,k2⟩:=h.aside (i:=2) (T:=152) (c:=dCl.emb (accS (f m.e.obj) m.e m.c)) rfl
  have k3:=k2.sel [0] (by simp)
  refine hQ _ _ _ ⟨ms,hStep f m,fl++hFl f m,r,A,fun c=>if c=b then cs' else cs c,selE [0] ε',rfl,rfl,by rw [← htot,hRun,List.append_assoc],hok,?_,⟨hks,hbs,hr,fun p hp=> ?_,fun v hv=> ?_⟩,?_⟩
  ·have:(hFl f m).length≤1:=by unfold hFl;split<;>simp
   rw [List.length_append];omega
  ·by_cases e:p.2=b
   ·have:p=(m.e.obj,b):=nodup_inj hbs hp hmem e
    subst this
    simp only [if_true,hStep]
    exact cl_env k1
   ·rw [if_neg e]
    have hne:p.1≠m.e.obj:=fun e2=>by
     have:=nodup_inj hks hp hmem e2
     exact e (by rw [this])
    simp only [hStep,if_neg hne]
    exact hat p hp e
  ·have hne:v≠m.e.obj:=fun e=>hv (e▸List.mem_map.2 ⟨_,hmem,rfl⟩)
   simp only [hStep,if_neg hne]
   exact hnew v hv
  ·have e1:selM [0] ((Res.vec 32 3 ((fl++hFl f m).map dFl.emb):: .blk 68 (mS m):: .blk 152 (dCl.emb (accS (f m.e.obj) m.e m.c))::tl).set 2 .dead)=[.vec 32 3 ((fl++hFl f m).map dFl.emb)]:=by
    simp only [selM,List.map_cons,List.map_nil,List.set_cons_succ,List.set_cons_zero,memAt,List.getD_cons_zero,renR,renL_fl]
   have e2:renF (selI [0]) (Sx.ofF [1,4,5,10] [.raw (.chan (some cout)), .raw (.map (some r)), .vec 0 (fl++hFl f m).length, .raw (.chan (some cin))] .nil)=Sx.ofF [1,4,5,10] [.raw (.chan (some cout)), .raw (.map (some r)), .vec 0 (fl++hFl f m).length, .raw (.chan (some cin))] .nil:=by
    simp [Sx.ofF,renF,Sx.ren,renI,selI]
   rw [e1,e2] at k3
   refine k3.lessX fun c o hco=> ?_
   have hbA:b∈A.map (·.2):=List.mem_map.2 ⟨_,hmem,rfl⟩
   have hrb:r≠b:=fun e=>hr (e▸hbA)
   unfold XA at hco
   rw [hb']
   split at hco
   ·rename_i e
    subst e
    rw [if_neg hrb,hXr];exact hco
   ·split at hco
    ·rename_i hcc
     obtain ⟨p,hp,rfl⟩:=List.mem_map.1 (List.contains_iff_mem.1 hcc)
     by_cases e:p.2=b
     ·rw [if_pos e]
      simp only [if_pos e] at hco;exact hco
     ·rw [if_neg e,hX p hp e]
      simp only [if_neg e] at hco;exact hco
    ·cases hco
 have hfl:fl.length≤1000:=by omega
 refine tw_jc hT Ghd_ok (by rfl) (K:=fun ex τ' m'=>ex= .norm∧atF [1,4,5,10] [.raw (.chan (some cout)), .raw (.map (some r)), .vec 0 (fl++hFl f m).length, .raw (.chan (some cin))] τ'∧∃ tl,m'= .vec 32 3 ((fl++hFl f m).map dFl.emb):: .blk 68 (mS m):: .blk 152 (dCl.emb (accS (f m.e.obj) m.e m.c))::tl) ?_ fun e ex τ' m' ε' a' x' h1 h2 h3 h4=> ?_
 ·unfold j20_7
  unfold mS
  simp only [go_sem,seval,Ghd_eq,hc,ht1,ht2]
  refine ⟨fun h=> ?_,fun h=> ?_⟩
  ·have e:hFl f m=[⟨m.i,m.e.obj,accK (f m.e.obj) m.e m.c⟩]:=if_neg h
   rw [e]
   exact ⟨by omega,by rw [List.length_append];rfl,_,rfl⟩
  ·have e:hFl f m=[]:=if_pos h
   rw [e,List.append_nil]
   exact ⟨rfl,[],by rw [List.map_nil,List.append_nil]⟩
 ·obtain ⟨rfl,h5,tl,rfl⟩:=h2
  cases e<;>simp only [ExRel] at h1
  exact fin ε' a' x' tl (h3.ofN h5) ((h4 2 (by simp)).trans hb)
theorem hand_round (k:Nat) (a:Act) (s:HS) (x:OW) (h:HInv Fz cin cout tot k a s x):
  TW Try.prog false Fz (handSes Try.prog Fz Φ cin cout j) qall tfk 20 j20_8 (fun e a' s' x'=>match e with
   | .normal=> ∃ k',k'<k∧HInv Fz cin cout tot k' a' s' x'
   | .exit 0=>HEnd Fz cout tot a' s' x'
   |_=>False) a s x:=by
 obtain ⟨ms,f,fl,r,A,cs,ε,rfl,rfl,htot,hok,hlen,hmap,hT⟩:=h
 cases ms with
 |nil=>
  have e:fl=tot:=by rw [← htot];simp [hRun]
  subst e
  exact hand_shut a x hT fun a' s' x' h=>h
 |cons m ms=>
  obtain ⟨hc,ht1,ht2,hok⟩:=hok
  unfold j20_8
  refine tw_seq (tw_regN hT FH.none_ok (by rfl) [1,4,5,10] [.raw (.chan (some cout)), .raw (.map (some r)), .vec 0 fl.length, .raw (.chan (some cin))] [.vec 32 3 (fl.map dFl.emb)] ?_ fun ε1 a1 x1 h1 _ o ho hd=> ?_)
  ·simp only [go_sem,seval]
  refine OpT.mono ?_ (ts_hear h1 ho hd rfl (by decide) Try.underlying116 zMsg (m_sat ε1 m))
  rintro a2 s2 x2 ⟨rfl,h2⟩
  refine Behind.ofN h2 FH.none_ok (by rfl) [1,4,5,10,11,12] [.raw (.chan (some cout)), .raw (.map (some r)), .vec 0 fl.length, .raw (.chan (some cin)), .tup [mS m, .bool true], .bool true] [.vec 32 3 (fl.map dFl.emb)] ?_ fun ε3 a3 x3 h3 _=> ?_
  ·simp only [go_sem,seval]
  refine tw_seq (tw_jcN h3 FH.none_ok (by rfl) [1,4,5,10,11] [.raw (.chan (some cout)), .raw (.map (some r)), .vec 0 fl.length, .raw (.chan (some cin)), .tup [mS m, .bool true]] [.vec 32 3 (fl.map dFl.emb)] ?_ fun ε4 a4 x4 h4 _=> ?_)
  ·unfold j20_3
   simp only [go_sem,seval]
  refine tw_block (tw_seq (tw_jcN h4 FH.none_ok (by rfl) [1,4,5,6,10] [.raw (.chan (some cout)), .raw (.map (some r)), .vec 0 fl.length, .ptr 1 [] 0, .raw (.chan (some cin))] [.vec 32 3 (fl.map dFl.emb), .blk 68 (mS m)] ?_ fun ε5 a5 x5 h5 _=> ?_))
  ·unfold j20_4
   unfold mS
   simp only [go_sem,seval]
  refine tw_seq (tw_regN h5 FH.none_ok (by rfl) [1,4,5,6,10,14,17] [.raw (.chan (some cout)), .raw (.map (some r)), .vec 0 fl.length, .ptr 1 [] 0, .raw (.chan (some cin)), .raw (.map (some r)), .int .i64 m.e.obj] [.vec 32 3 (fl.map dFl.emb), .blk 68 (mS m)] ?_ fun ε6 a6 x6 h6 _ o ho hd=> ?_)
  ·unfold mS
   simp only [go_sem,seval]
  have hXr:XA r A cs r=some (mapO A):=if_pos rfl
  refine OpT.mono ?_ (ts_lookm h6 ho hd (by decide) Try.underlying118 Try.underlying3 zCell rfl rfl hXr)
  rintro a7 s7 x7 ⟨rfl,h7⟩
  have hmsgs:HInv Fz cin cout tot ms.length=HInv Fz cin cout tot ms.length:=rfl
  cases hl:lookA A m.e.obj with
  |some b=>
   have hm:=lookA_some hl
   rw [hl] at h7
   refine Behind.ofN h7 FH.none_ok (by rfl) [1,4,5,6,7,10] [.raw (.chan (some cout)), .raw (.map (some r)), .vec 0 fl.length, .ptr 1 [] 0, .raw (.pointer (some ⟨b,0,none⟩)), .raw (.chan (some cin))] [.vec 32 3 (fl.map dFl.emb), .blk 68 (mS m)] ?_ fun ε8 a8 x8 h8 _=> ?_
   ·simp only [go_sem,seval]
   have hbA:b∈A.map (·.2):=List.mem_map.2 ⟨_,hm,rfl⟩
   have hXb:XA r A cs b=some (.cells (cs b).toArray 152 (0,0)):=by
    unfold XA
    rw [if_neg (fun e:b=r=>hmap.r (e▸hbA)),if_pos (List.contains_iff_mem.2 hbA)]
   have hval:a8.tmps.getD 7 undef= .pointer (some ⟨b,0,none⟩):=raw_sat (h8.s.sat 7)
   have h9:=h8.take hXb (cl_env (hmap.at' _ hm):SatC (dCl.emb (f m.e.obj)) ε8 (cs b))
   have hblk:=more_blk (v:=undef) (r:=b) h8.g.good
   have h10:=h9.know (k:=7) (by decide) (y:= .ptr 2 [] 0) ⟨[.pointer (some ⟨b,0,none⟩)],⟨by rw [h9.g.good.n];simp,trivial,by rw [show (2:Nat)=[Res.vec 32 3 (fl.map dFl.emb), .blk 68 (mS m)].length from rfl,hblk]⟩,hval⟩
   have h11:=h10.ofN (ks:=[1,4,5,6,7,10]) (xs:=[.raw (.chan (some cout)), .raw (.map (some r)), .vec 0 fl.length, .ptr 1 [] 0, .ptr 2 [] 0, .raw (.chan (some cin))]) (by simp only [go_sem,seval])
   refine tw_seq (tw_seq (tw_jcN h11 FH.none_ok (by rfl) [1,4,5,6,7,10,20] [.raw (.chan (some cout)), .raw (.map (some r)), .vec 0 fl.length, .ptr 1 [] 0, .ptr 2 [] 0, .raw (.chan (some cin)), .bool false] ([.vec 32 3 (fl.map dFl.emb), .blk 68 (mS m)]++[.blk 152 (dCl.emb (f m.e.obj))]) ?_ fun ε12 a12 x12 h12 hb12=> ?_))
   ·unfold j20_5
    simp only [go_sem,seval]
   refine tw_cond h12 (t:=false) rfl ?_
   refine tw_jcN h12 FH.none_ok (by rfl) [1,4,5,6,7,10] [.raw (.chan (some cout)), .raw (.map (some r)), .vec 0 fl.length, .ptr 1 [] 0, .ptr 2 [] 0, .raw (.chan (some cin))] ([.vec 32 3 (fl.map dFl.emb), .blk 68 (mS m)]++[.blk 152 (dCl.emb (f m.e.obj))]) ?_ fun ε13 a13 x13 h13 hb13=> ?_
   ·simp only [go_sem,seval]
   refine hand_access a13 x13 htot hc ht1 ht2 hok (by simpa using hlen) hmap.ks hmap.bs hmap.r (fun p hp _=>hmap.at' p hp) hmap.new hm ?_ (fun p hp hne=> ?_) ?_ h13 fun a' s' x' h=>⟨ms.length,by simp,h⟩
   ·have hrb:¬ r=b:=fun e:r=b=>hmap.r (e▸hbA)
    simp only [if_neg hrb];exact hXr
   ·have hpA:p.2∈A.map (·.2):=List.mem_map.2 ⟨_,hp,rfl⟩
    simp only [if_neg hne]
    unfold XA
    rw [if_neg (fun e:p.2=r=>hmap.r (e▸hpA)),if_pos (List.contains_iff_mem.2 hpA)]
   ·rw [hb13 2 (by simp),hb12 2 (by simp)]
    exact hblk
  |none=>
   have hn:=lookA_none hl
   rw [hl] at h7
   refine Behind.ofN h7 FH.none_ok (by rfl) [1,4,5,6,7,10] [.raw (.chan (some cout)), .raw (.map (some r)), .vec 0 fl.length, .ptr 1 [] 0, .nilp, .raw (.chan (some cin))] [.vec 32 3 (fl.map dFl.emb), .blk 68 (mS m)] ?_ fun ε8 a8 x8 h8 _=> ?_
   ·simp only [go_sem,seval]
   refine tw_seq (tw_seq (tw_jcN h8 FH.none_ok (by rfl) [1,4,5,6,7,10,20] [.raw (.chan (some cout)), .raw (.map (some r)), .vec 0 fl.length, .ptr 1 [] 0, .nilp, .raw (.chan (some cin)), .bool true] [.vec 32 3 (fl.map dFl.emb), .blk 68 (mS m)] ?_ fun ε12 a12 x12 h12 hb12=> ?_))
   ·unfold j20_5
    simp only [go_sem,seval]
   refine tw_cond h12 (t:=true) rfl ?_
   refine tw_seq (tw_jcN h12 Ghd_ok (by rfl) [1,4,5,6,7,10] [.raw (.chan (some cout)), .raw (.map (some r)), .vec 0 fl.length, .ptr 1 [] 0, .ptr 2 [] 0, .raw (.chan (some cin))] [.vec 32 3 (fl.map dFl.emb), .blk 68 (mS m), .blk 152 (dCl.emb cl0)] ?_ fun ε13 a13 x13 h13 hb13=> ?_)
   ·unfold j20_6
    simp only [go_sem,seval,Ghd_eq]
   refine tw_regN h13 FH.none_ok (by rfl) [1,4,5,6,7,10,22,25,26] [.raw (.chan (some cout)), .raw (.map (some r)), .vec 0 fl.length, .ptr 1 [] 0, .ptr 2 [] 0, .raw (.chan (some cin)), .raw (.map (some r)), .int .i64 m.e.obj, .ptr 2 [] 0] [.vec 32 3 (fl.map dFl.emb), .blk 68 (mS m), .blk 152 (dCl.emb cl0)] ?_ fun ε14 a14 x14 h14 hb14 o ho hd=> ?_
   ·unfold mS
    simp only [go_sem,seval]
   refine OpT.mono ?_ (ts_putm (b:=ε14.blk 2) h14 ho hd Try.underlying118 Try.underlying3 rfl rfl (fun w hw=>(sat_ptr hw).2.2) hXr hl)
   rintro a15 s15 x15 ⟨rfl,h15⟩
   have hnb:∀ p∈A,p.2≠ε14.blk 2:=fun p hp e=>by
    have hpA:p.2∈A.map (·.2):=List.mem_map.2 ⟨_,hp,rfl⟩
    have hXp:XA r A cs p.2=some (.cells (cs p.2).toArray 152 (0,0)):=by
     unfold XA
     rw [if_neg (fun e:p.2=r=>hmap.r (e▸hpA)),if_pos (List.contains_iff_mem.2 hpA)]
    exact (h14.x _ _ hXp).2.2.2 2 (by rw [e];rfl)
   have hrb:¬ r=ε14.blk 2:=fun e=>(h14.x _ _ hXr).2.2.2 2 (by rw [e];rfl)
   refine Behind.ofN h15 FH.none_ok (by rfl) [1,4,5,6,7,10] [.raw (.chan (some cout)), .raw (.map (some r)), .vec 0 fl.length, .ptr 1 [] 0, .ptr 2 [] 0, .raw (.chan (some cin))] [.vec 32 3 (fl.map dFl.emb), .blk 68 (mS m), .blk 152 (dCl.emb (f m.e.obj))] ?_ fun ε16 a16 x16 h16 hb16=> ?_
   ·simp only [go_sem,seval,hmap.new _ hn]
   refine hand_access (A:=A++[(m.e.obj,ε14.blk 2)]) (b:=ε14.blk 2) (cs:=cs) a16 x16 htot hc ht1 ht2 hok (by simpa using hlen) ?_ ?_ ?_ (fun p hp hne=> ?_) (fun v hv=> ?_) (by simp) (if_pos rfl) (fun p hp hne=> ?_) (hb16 2 (by simp)) h16 fun a' s' x' h=>⟨ms.length,by simp,h⟩
   ·rw [List.map_append]
    exact List.nodup_append.2 ⟨hmap.ks,by simp,fun v hv u hu e=>by
     simp only [List.map_cons,List.map_nil,List.mem_singleton] at hu
     subst hu e
     exact hn hv⟩
   ·rw [List.map_append]
    exact List.nodup_append.2 ⟨hmap.bs,by simp,fun v hv u hu e=>by
     simp only [List.map_cons,List.map_nil,List.mem_singleton] at hu
     subst hu e
     obtain ⟨p,hp,e⟩:=List.mem_map.1 hv
     exact hnb p hp e⟩
   ·rw [List.map_append]
    intro h
    rcases List.mem_append.1 h with h|h
    ·exact hmap.r h
    ·simp only [List.map_cons,List.map_nil,List.mem_singleton] at h
     exact hrb h
   ·rcases List.mem_append.1 hp with hp|hp
    ·exact hmap.at' p hp
    ·simp only [List.mem_singleton] at hp
     subst hp
     exact absurd rfl hne
   ·exact hmap.new v fun h=>hv (by rw [List.map_append];exact List.mem_append.2 (.inl h))
   ·rcases List.mem_append.1 hp with hp|hp
    ·have hpA:p.2∈A.map (·.2):=List.mem_map.2 ⟨_,hp,rfl⟩
     have hpr:¬ p.2=r:=fun e=>hmap.r (e▸hpA)
     simp only [if_neg hpr]
     unfold XA
     rw [if_neg hpr,if_pos (List.contains_iff_mem.2 hpA)]
    ·simp only [List.mem_singleton] at hp
     subst hp
     exact absurd rfl hne
def outP (fls:List Fl) (v:Value) (B:Nat→Prop) (w:World):Prop:= ∃ xs,w.ownsRow 0 32 3 v (fls.map dFl.emb).length xs∧(∀ k,k< (fls.map dFl.emb).length→SatC ((fls.map dFl.emb).getD k .junk) Env.nil (sub xs (k*3) 3))∧∀ b,B b↔v.ownBlock=some b
theorem fl_env {l:List Fl} {k:Nat} {ε ε':Env} {cs:List Value} (hk:k< (l.map dFl.emb).length) (h:SatC ((l.map dFl.emb).getD k .junk) ε cs):SatC ((l.map dFl.emb).getD k .junk) ε' cs:=by
 have hk':k<l.length:=by simpa using hk
 have e:(l.map dFl.emb).getD k .junk=dFl.emb l[k]:=by simp [List.getD,hk']
 rw [e] at h ⊢
 exact dat_env _ ⟨trivial,trivial,trivial,trivial⟩ h
theorem TS.out {n:Nat} {d:List Deferred} {H0 X:Nat→Option Obj} {ε:Env} {τ:Fr} {a:Act} {x:OW} {fls:List Fl} (h:TS Fz n d H0 X ε τ [.vec 32 3 (fls.map dFl.emb)] a x):outP fls (ε.vv 0) (fun b=>(ε.vv 0).ownBlock=some b) x.w:=by
 obtain ⟨xs,h1,h2⟩:=h.g.good.res 0
 exact ⟨xs,h1.get (by decide),fun k hk=>fl_env hk (h2 k hk),fun b=>Iff.rfl⟩
theorem hand_walk {w:World} {ms:List Ms} (hF:∀ b,Fz b→b<w.heap.size) (hok:okH (fun _=>cl0) ms) (hlen:ms.length≤1000) (hout:∀ v B w,outP (hRun (fun _=>cl0) ms) v B w→Φ.Out j v B w) {dd:Deferred} (hd:dd.target= .fn (.func 20) #[]) (ha:dd.args= #[.chan (some cin), .chan (some cout)]):
  HandS Try.prog Fz Φ cin cout j (ms.map mV) (born Try.prog dd) ⟨w,fun _=>False⟩:=by
 obtain ⟨func,body,hf,hb,hc,hrs,hnt,hname,hnr,_⟩:=tIs_ok c20
 refine born_starts hf hb hname hd ha ?_
 have hres:func.results= #[]:=by
  apply Array.ext'
  simpa using hrs
 generalize hcs:[({(born Try.prog dd).frame with defers:=[]}:Frame)]=cs
 rw [hnt]
 have hT:TS Fz 47 [] (fun _=>none) (fun _=>none) Env.nil (Sx.ofF [0,1] [.raw (.chan (some cin)), .raw (.chan (some cout))] .nil) [] {tmps:= #[.chan (some cin), .chan (some cout)]++Array.replicate (47 - #[Value.chan (some cin), .chan (some cout)].size) undef,defers:=[]} ⟨w,fun _=>False⟩:=by
  have hsa:SatA [.raw (.chan (some cin)), .raw (.chan (some cout))] Env.nil [.chan (some cin), .chan (some cout)]:=⟨[.chan (some cin)],_,rfl,⟨rfl,rfl⟩,[.chan (some cout)],[],rfl,⟨rfl,rfl⟩,rfl⟩
  exact ⟨GoodO.none hF,⟨_,argF_rep [.raw (.chan (some cin)), .raw (.chan (some cout))] 47 (by simp),slots_start hsa _⟩,rfl,fun b o h=>(by cases h),fun b o h=>(by cases h)⟩
 have hC:compT Try.prog qall tfk body=some j20.flat:=hc
 unfold j20 at hC
 obtain ⟨p1,q1,rfl,g1,g2⟩:=compT_seq hC
 obtain ⟨p2,q2,rfl,g3,g4⟩:=compT_seq g2
 obtain ⟨p3,q3,rfl,g5,g6⟩:=compT_seq g4
 have hS:handSes Try.prog Fz Φ cin cout j (.hears (ms.map mV))=HandStop Try.prog Fz Φ cin cout j (ms.map mV):=rfl
 refine co_seq (fn:=20) (Q:=fun e a' s' x'=>e= .normal∧s'= .hears (ms.map mV)∧∃ ε r,TS Fz 47 [] (fun _=>none) (XA r [] fun _=>[]) ε (Sx.ofF [0,1,4] [.raw (.chan (some cin)), .raw (.chan (some cout)), .raw (.map (some r))] .nil) [] a' x') rfl (by simp [base0]) hS ?_ ?_ (fun e a' s' x' hne h=>hne h.1)
 ·refine tw_regN hT FH.none_ok (by rfl) [0,1] [.raw (.chan (some cin)), .raw (.chan (some cout))] [] ?_ (fun ε1 a1 x1 h1 _ o ho hd=> ?_) p1 g1
  ·simp only [go_sem,seval]
  refine OpT.mono ?_ (ts_mkmap h1 ho hd (by decide))
  rintro a2 s2 x2 ⟨rfl,r,_,h2⟩
  refine Behind.ofN h2 FH.none_ok (by rfl) [0,1,4] [.raw (.chan (some cin)), .raw (.chan (some cout)), .raw (.map (some r))] [] ?_ fun ε3 a3 x3 h3 _=>⟨rfl,rfl,ε3,r,h3.lessX fun b o hb=> ?_⟩
  ·simp only [go_sem,seval]
  ·unfold XA at hb
   split at hb
   ·rename_i e;rw [if_pos e];exact hb
   ·simp at hb
 rintro a1 s1 x1 ⟨_,rfl,ε1,r,h1⟩
 refine co_seq (fn:=20) (Q:=fun e a' s' x'=>e= .normal∧s'= .hears (ms.map mV)∧∃ ε,TS Fz 47 [] (fun _=>none) (XA r [] fun _=>[]) ε (Sx.ofF [0,1,4,5] [.raw (.chan (some cin)), .raw (.chan (some cout)), .raw (.map (some r)), .vec 0 0] .nil) [.vec 32 3 []] a' x') rfl (by simp [base0]) hS ?_ ?_ (fun e a' s' x' hne h=>hne h.1)
 ·refine tw_jcN h1 FH.none_ok (by rfl) [0,1,4,5] [.raw (.chan (some cin)), .raw (.chan (some cout)), .raw (.map (some r)), .nils] [] ?_ (fun ε2 a2 x2 h2 _=>⟨rfl,rfl,ε2.more 0 (.slice none 0 0),?_⟩) p2 g3
  ·unfold j20_1
   simp only [go_sem,seval]
  have h3:=h2.vec (T:=32) (w:=3) (l:=[]) (v:= .slice none 0 0) (xs:=[]) ⟨rfl, .inl ⟨rfl,rfl⟩⟩ (fun j hj=>absurd hj (Nat.not_lt_zero _)) (fun b hb=>by cases hb)
  have hval:a2.tmps.getD 5 undef= .slice none 0 0:=sat_nils (h2.s.sat 5)
  have h4:=h3.know (k:=5) (by decide) (y:= .vec 0 0) ⟨[.slice none 0 0],⟨by rw [h3.g.good.n];simp, .inl ⟨by simp [Env.more,h2.g.good.n],rfl⟩,by simp [Env.more,h2.g.good.n]⟩,hval⟩
  exact h4.ofN (by simp only [go_sem,seval])
 rintro a2 s2 x2 ⟨_,rfl,ε2,h2⟩
 refine co_seq (fn:=20) (Q:=fun e a' s' x'=>e= .normal∧HEnd Fz cout (hRun (fun _=>cl0) ms) a' s' x') rfl (by simp [base0]) hS ?_ ?_ (fun e a' s' x' hne h=>hne h.1)
 ·have h0:TW Try.prog false Fz (handSes Try.prog Fz Φ cin cout j) qall tfk 20 (.seq (.jc j20_2) (.block 0 (.loop j20_8))) (fun e a' s' x'=>e= .normal∧HEnd Fz cout (hRun (fun _=>cl0) ms) a' s' x') a2 (.hears (ms.map mV)) x2:=by
   refine tw_seq (tw_jcN h2 FH.none_ok (by rfl) [1,4,5,10] [.raw (.chan (some cout)), .raw (.map (some r)), .vec 0 0, .raw (.chan (some cin))] [.vec 32 3 []] ?_ (fun ε3 a3 x3 h3 _=> ?_))
   ·unfold j20_2
    simp only [go_sem,seval]
   refine tw_block (tw_loop (fun k a s x=>HInv Fz cin cout (hRun (fun _=>cl0) ms) k a s x) ms.length ?_ fun k a s x hI=>(hand_round k a s x hI).mono fun e a' s' x' hh=> ?_)
   ·exact ⟨ms,fun _=>cl0,[],r,[],fun _=>[],ε3,rfl,rfl,rfl,hok,by simpa using hlen,⟨List.nodup_nil,List.nodup_nil,by simp,fun p hp=>(by cases hp),fun _ _=>rfl⟩,h3⟩
   ·cases e with
    |normal=>exact hh
    |exit i=>
     cases i with
     |zero=>exact ⟨rfl,hh⟩
     |succ i=>exact hh.elim
    |ret=>exact hh.elim
    |goto l=>exact hh.elim
    |panic c=>exact hh.elim
    |outgrown=>exact hh.elim
  exact h0 p3 g5
 rintro a3 s3 x3 ⟨_,X3,ε3,rfl,h3⟩
 refine h3.last (fn:=20) FH.none_ok g6 (by rfl) [45,46] [.raw (.chan (some cout)), .vec 0 (hRun (fun _=>cl0) ms).length] [.vec 32 3 ((hRun (fun _=>cl0) ms).map dFl.emb)] ?_ rfl (by simp [base0]) fun ε4 a4 x4 h4 ops i o hoi hw ho hd=> ?_
 ·simp only [go_sem,seval]
 obtain ⟨y,z,e1,e2,e3⟩:=compS_send ho
 have hv:a4.eval z=ε4.vv 0:=by
  have:=h4.opd e3
  exact (sat_vec this).2.2
 refine opt_tell (o:=o) (run_sendOp e1 (h4.raw e2 rfl) hv) (B:=fun b=>(ε4.vv 0).ownBlock=some b) (fun b hb=>h4.g.own 0 b hb) (fun w1 hr=>hout _ _ _ (TS.out (h4.rely hr))) (by simp [base0]) hoi hw ⟨4,?_⟩
 rw [← hcs]
 exact born_quits hf hres (by rw [put_defers];exact h4.d)
end
end Go.Proofs.Ytpajfggdnobheaa.Sp
