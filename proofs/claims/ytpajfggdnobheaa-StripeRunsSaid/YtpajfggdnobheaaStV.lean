/- A part of the proof of StripeRuns. Conditions: none. -/
import Derived.Test.YtpajfggdnobheaaStT
import Derived.Test.YtpajfggdnobheaaCo16
import Derived.Test.YtpajfggdnobheaaEqs
import Derived.Test.YtpajfggdnobheaaFastQ
set_option linter.unusedVariables false
set_option linter.unusedSimpArgs false
section
set_option maxRecDepth 100000
open Go Go.Sx Go.Conc Go.Proofs
namespace Go.Proofs.Ytpajfggdnobheaa.Sp
variable {main:Bool} {Fz:Nat→Prop}
open Go.Proofs.Ytpajfggdnobheaa.D Go.Proofs.Ytpajfggdnobheaa.Tr Go.Proofs.Ytpajfggdnobheaa.C Go.Proofs.Ytpajfggdnobheaa.Fu Go.Proofs.Ytpajfggdnobheaa.Fa Go.Proofs.Ytpajfggdnobheaa.Eqs
def j3_1:JC:=
 (.ops<|
 qo 4 (.mv (B false))<|
 .nil)
def j3_2:JC:=
 (.ops<|
 qo 18 (.mv (.t 1))<|
 eo 19 (.call 7 [(.t 18)])<|
 qo 7 (.mv (.t 19))<|
 .nil)
def j3_3:JC:=
 (.seq (.ops<|
 qo 20 (.mv (.t 0))<|
 qo 21 (.cmp .lss (.t 20) (I 1))<|
 qo 22 (.mv (.t 21))<|
 .sc true 25 22 (qo 23 (.mv (.t 0))<|
 qo 24 (.cmp .gtr (.t 23) (I 8))<|
 .nil) (.t 24)<|
 .nil)
 (.cond (.t 25)
 (.ops<|
 qo 7 (.mv (I 1))<|
 .nil)
 .skip))
def j3_4:JC:=
 (.seq (.seq (.ops<|
 qo 30 (.mv (.t 7))<|
 qo 31 (.cmp .neq (.t 30) (I 0))<|
 qo 32 (.mv (.t 31))<|
 .sc true 35 32 (qo 33 (.mv (.t 6))<|
 qo 34 (.cmp .neq (.t 33) (I 0))<|
 .nil) (.t 34)<|
 .nil)
 (.cond (.t 35)
 (.seq (.ops<|
 qo 36 (.mv (.t 5))<|
 .prune [36,6,7,9]<|
 qo 37 (.len (.t 36))<|
 qo 38 (.cmp .eql (.t 37) (I 0))<|
 qo 39 (.mv (.t 38))<|
 .prune [39,6,7,9]<|
 .sc false 43 39 (qo 40 (.mv (.t 6))<|
 qo 41 (.mv (.t 7))<|
 qo 42 (.cmp .eql (.t 40) (.t 41))<|
 .nil) (.t 42)<|
 qo 44 (.mv (.t 43))<|
 .sc false 47 44 (qo 45 (.mv (.t 9))<|
 qo 46 (.cmp .eql (.t 45) (I 1))<|
 .nil) (.t 46)<|
 qo 4 (.mv (.t 47))<|
 .nil)
 .ret)
 .skip))
 (.prune [1,5,9] (.seq (.ops<|
 qo 49 (.mv (.t 1))<|
 eo 50 (.call 8 [(.t 49)])<|
 qo 48 (.mv (.t 50))<|
 qo 51 (.ext 0 (.t 48))<|
 .prune [48,51,5,9]<|
 qo 52 (.ext 1 (.t 48))<|
 qo 10 (.mv (.t 51))<|
 qo 11 (.mv (.t 52))<|
 .nil)
 (.prune [5,10,9] (.seq (.ops<|
 qo 53 (.mv (.t 5))<|
 qo 54 (.mv (.t 10))<|
 eo 55 (.call 9 [(.t 53),(.t 54)])<|
 qo 56 (.mv (.t 55))<|
 .prune [56,9]<|
 .sc false 59 56 (qo 57 (.mv (.t 9))<|
 qo 58 (.cmp .eql (.t 57) (I 1))<|
 .nil) (.t 58)<|
 qo 4 (.mv (.t 59))<|
 .nil)
 .ret)))))
def j3:TC:=
 (.seq (.jc j3_1)
 (.seq (.reg (
 qo 13 (.mv (.t 0))<|
 qo 14 (.mv (.t 1))<|
 .nil) (some 15) (.tcall 6 [(.t 13),(.t 14)]) (
 qo 12 (.mv (.t 15))<|
 qo 16 (.ext 0 (.t 12))<|
 qo 17 (.ext 1 (.t 12))<|
 qo 5 (.mv (.t 16))<|
 qo 6 (.mv (.t 17))<|
 .nil))
 (.seq (.jc j3_2)
 (.seq (.jc j3_3)
 (.seq (.reg (
 .nil) (some 27) (.tcall 6 [(I 0),(.c .nils)]) (
 qo 26 (.mv (.t 27))<|
 qo 28 (.ext 0 (.t 26))<|
 qo 29 (.ext 1 (.t 26))<|
 qo 8 (.mv (.t 28))<|
 qo 9 (.mv (.t 29))<|
 .nil))
 (.jc j3_4))))))
theorem c3:tIs Try.prog qall (fun f=>[6].contains f) 3=some (j3.flat,[.tmp 4],60,false):=by kernel_rfl
def Gsr (f:FuncId) (a:List SV) (m:List Res):Sx.Call:=(FH.rd 7 (.one dEs) (.one .int) (fun _=>True) (fun y=>(checkR y.1).2)<|
 FH.mk 8 (.one dEs) (fun y=>(checkR y.1).2=0) (fun y=> .tup [.vec 0 (outA y.1 (flA y.1 8) y.1.length).length, .int .i64 (slA y.1 8)]) (fun y=>[.vec 32 3 ((outA y.1 (flA y.1 8) y.1.length).map dFl.emb)])<|
 FH.rd 9 (.two dFls dFls) (.one .bool) (fun _=>True) (fun y=>eqBy ef_EqFlag y.1 y.2.1) FH.none) f a m
theorem Gsr_eq (f:FuncId) (a:List SV) (m:List Res):Gsr f a m=(FH.rd 7 (.one dEs) (.one .int) (fun _=>True) (fun y=>(checkR y.1).2)<|
 FH.mk 8 (.one dEs) (fun y=>(checkR y.1).2=0) (fun y=> .tup [.vec 0 (outA y.1 (flA y.1 8) y.1.length).length, .int .i64 (slA y.1 8)]) (fun y=>[.vec 32 3 ((outA y.1 (flA y.1 8) y.1.length).map dFl.emb)])<|
 FH.rd 9 (.two dFls dFls) (.one .bool) (fun _=>True) (fun y=>eqBy ef_EqFlag y.1 y.2.1) FH.none) f a m:=nr rfl
theorem Gsr_ok:FHOK Try.prog main Fz Gsr:=FH.rd_ok (by kernel_rfl) (fun y _=>f_May y.1)<|
 FH.mk_ok (by kernel_rfl) (fun y _=>plainM (pv_tup ⟨plV_vec _ _,plV_int _ _,trivial⟩) ⟨plR_vec _ _ dFl _,trivial⟩) (fun y h=>f_RFast y.1 h)<|
 FH.rd_ok (by kernel_rfl) (fun y _=>f_EqFlag y.1 y.2.1) FH.none_ok
section
variable {Φ:Fan} {End:List Nat→Goroutine→OW→Prop}
def KL (y1:SV) (s':MS):Prop:=y1= .bool true∧s'.acts=[]
theorem tail_bad {n:Int} {e f:Int} {l:List Ev} (hf:(if n<1∨8<n then 1 else (checkR l).2)=f) (h0:f≠0) (he:e=f) {H0:Nat→Option Obj} {ε:Env} {a:Act} {x:OW} {s:MS} (hs:s.acts=[])
  (h:TS Fz 60 [] H0 (fun _=>none) ε (Sx.ofF [0,1,5,6] [.int .i64 n,dEs.emb l, .nils, .int .i64 e] .nil) [] a x):
  TW Try.prog true Fz (mainSes Try.prog Fz Φ End) qall tfk 3 (.seq (.jc j3_2) (.seq (.jc j3_3) (.seq (.reg (.nil) (some 27) (.tcall 6 [(I 0),(.c .nils)]) (qo 26 (.mv (.t 27))<|qo 28 (.ext 0 (.t 26))<|qo 29 (.ext 1 (.t 26))<|qo 8 (.mv (.t 28))<|qo 9 (.mv (.t 29))<| .nil)) (.jc j3_4))))
   (fun e a' s' x'=>e= .ret∧∃ ε' y1 m',KL y1 s'∧TS Fz 60 [] H0 (fun _=>none) ε' (Sx.ofF [4] [y1] .nil) m' a' x') a s x:=by
 refine tw_seq (tw_jcN h Gsr_ok (by rfl) [0,5,6,7] [.int .i64 n, .nils, .int .i64 e, .int .i64 (checkR l).2] [] ?_ fun ε1 a1 x1 h1 _=> ?_)
 ·unfold j3_2
  simp only [go_sem,seval,Gsr_eq]
 refine tw_seq (tw_jcN h1 FH.none_ok (by rfl) [5,6,7] [.nils, .int .i64 e, .int .i64 f] [] ?_ fun ε2 a2 x2 h2 _=> ?_)
 ·unfold j3_3
  by_cases c1:n<1
  ·rw [if_pos (.inl c1)] at hf
   simp only [go_sem,seval,c1,← hf]
  ·by_cases c2:8<n
   ·rw [if_pos (.inr c2)] at hf
    simp only [go_sem,seval,c1,c2,← hf]
   ·rw [if_neg (by omega)] at hf
    simp only [go_sem,seval,c1,c2,← hf]
 refine tw_seq (tw_regN h2 FH.none_ok (by rfl) [5,6,7] [.nils, .int .i64 e, .int .i64 f] [] ?_ fun ε3 a3 x3 h3 _ o ho hd=> ?_)
 ·simp only [go_sem,seval]
 refine OpT.mono ?_ (ts_call (t:=27) h3 ho (by kernel_rfl) hd (by decide) (by rfl) (K:=KE 1 s) fun vs hvs=>run_range (.inl (by omega)) h3.g hvs)
 rintro a4 s4 x4 ⟨ε4,y1,y2,m',⟨rfl,rfl,rfl,rfl⟩,h4⟩
 refine Behind.ofN h4 FH.none_ok (by rfl) [5,6,7,9] [.nils, .int .i64 e, .int .i64 f, .int .i64 1] [] ?_ fun ε5 a5 x5 h5 _=> ?_
 ·simp only [go_sem,seval]
 refine tw_jcR h5 Gsr_ok (by rfl) [4] [.bool true] [] ?_ fun ε6 a6 x6 h6 _=>⟨rfl,ε6,_,_,⟨rfl,hs⟩,h6⟩
 unfold j3_4
 simp only [go_sem,seval,Gsr_eq,h0,he]
theorem law_bad {n:Int} {e f:Int} {l:List Ev} (hf:(if n<1∨8<n then 1 else (checkR l).2)=f) (h0:f≠0) (he:e=f) {ε:Env} {x:OW} {s:MS} (hs:s.acts=[])
  (hcall:∀ {ε:Env} {x:OW},GoodO Fz ε [] x→∀ {vs:List Value},SatA [.int .i64 n,dEs.emb l] ε vs→CallsT Try.prog true Fz (mainSes Try.prog Fz Φ End) 6 vs.toArray s x (fun v s' x'=> ∃ ε' y1 y2 m',KE e s y1 y2 m' s'∧GoodO Fz ε' m' x'∧(∀ b o,ε.H b=some o→ε'.H b=some o)∧SatV ε' (.tup [y1,y2]) v))
  (hg:GoodO Fz ε [] x) {vs:List Value} (ha:SatA [.int .i64 n,dEs.emb l] ε vs):
  CallsT Try.prog true Fz (mainSes Try.prog Fz Φ End) 3 vs.toArray s x (fun v s' x'=> ∃ ε' y1 m',KL y1 s'∧GoodO Fz ε' m' x'∧(∀ b o,ε.H b=some o→ε'.H b=some o)∧SatV ε' y1 v):=by
 refine callst_one c3 hg ha (by simp) fun a hT=> ?_
 unfold j3
 refine tw_seq (tw_jcN hT FH.none_ok (by rfl) [0,1] [.int .i64 n,dEs.emb l] [] ?_ fun ε1 a1 x1 h1 _=> ?_)
 ·unfold j3_1
  simp only [go_sem,seval,argF]
 refine tw_seq (tw_regN h1 FH.none_ok (by rfl) [0,1,13,14] [.int .i64 n,dEs.emb l, .int .i64 n,dEs.emb l] [] ?_ fun ε2 a2 x2 h2 _ o ho hd=> ?_)
 ·simp only [go_sem,seval]
 refine OpT.mono ?_ (ts_call (t:=15) h2 ho (by kernel_rfl) hd (by decide) (by rfl) (K:=KE e s) fun vs hvs=>hcall h2.g hvs)
 rintro a3 s3 x3 ⟨ε3,y1,y2,m',⟨rfl,rfl,rfl,rfl⟩,h3⟩
 refine Behind.ofN h3 FH.none_ok (by rfl) [0,1,5,6] [.int .i64 n,dEs.emb l, .nils, .int .i64 e] [] ?_ fun ε4 a4 x4 h4 _=> ?_
 ·simp only [go_sem,seval]
 exact tail_bad hf h0 he hs h4
theorem look4 (k:Nat) (a b c d:SV):Sx.look k (Sx.ofF [0,1,5,6] [a,b,c,d] .nil)=if k=0 then a else if k=1 then b else if k=5 then c else if k=6 then d else .junk:=rfl
theorem law_good {n:Nat} (hn0:1≤n) (hn:n≤8) {l:List Ev} (hok:(checkR l).2=0) {ε:Env} {x:OW} (hg:GoodO Fz ε [] x) {vs:List Value} (ha:SatA [.int .i64 n,dEs.emb l] ε vs):
  CallsT Try.prog true Fz (mainSes Try.prog Fz (fanR n l) End) 3 vs.toArray ⟨actsR n l,[],[]⟩ x (fun v s' x'=> ∃ ε' y1 m',KL y1 s'∧GoodO Fz ε' m' x'∧(∀ b o,ε.H b=some o→ε'.H b=some o)∧SatV ε' y1 v):=by
 refine callst_one c3 hg ha (by simp) fun a hT=> ?_
 unfold j3
 refine tw_seq (tw_jcN hT FH.none_ok (by rfl) [0,1] [.int .i64 n,dEs.emb l] [] ?_ fun ε1 a1 x1 h1 _=> ?_)
 ·unfold j3_1
  simp only [go_sem,seval,argF]
 refine tw_seq (tw_regN h1 FH.none_ok (by rfl) [0,1,13,14] [.int .i64 n,dEs.emb l, .int .i64 n,dEs.emb l] [] ?_ fun ε2 a2 x2 h2 _ o ho hd=> ?_)
 ·simp only [go_sem,seval]
 refine OpT.mono ?_ (ts_call (t:=15) h2 ho (by kernel_rfl) hd (by decide) (by rfl) (K:=KG l) fun vs hvs=>run_calls hn0 hn hok h2.g hvs)
 rintro a3 s3 x3 ⟨ε3,y1,y2,m',⟨rfl,rfl,rfl,cs,got,rfl⟩,h3⟩
 obtain ⟨L,hL⟩:∃ L,L=runXL l l.length:=⟨_,rfl⟩
 rw [← hL] at h3
 refine Behind.ofN h3 FH.none_ok (by rfl) [0,1,5,6] [.int .i64 n,dEs.emb l, .vec 0 L.length, .int .i64 0] [.vec Srt.TP 3 (L.map dFl.emb)] ?_ fun ε4 a4 x4 h4 _=> ?_
 ·simp only [go_sem,seval]
 have h5:TS Fz 60 [] ε.H (fun _=>none) (Sx.frz ε4 [.vec Srt.TP 3 (L.map dFl.emb)] x4.w).cl (Sx.ofF [0,1,5,6] [.int .i64 n,dEs.emb l,dFls.emb L, .int .i64 0] .nil) [] a4 x4:=by
  refine h4.frz (fun k hk=> ?_) fun k hk=> ?_
  ·rw [look4,if_neg (by omega),if_neg (by omega),if_neg (by omega),if_neg (by omega)]
  ·have hs:=h4.s.sat k
   rw [look4] at hs ⊢
   by_cases e0:k=0
   ·subst e0
    exact hs
   by_cases e1:k=1
   ·subst e1
    obtain ⟨c,hc1,hc2⟩:=hs
    exact ⟨c,by have:=dEs.ok h4.g.good (dEs.pE _ l) hc1;rwa [dEs.vE] at this,hc2⟩
   by_cases e5:k=5
   ·subst e5
    obtain ⟨c,hc1,hc2⟩:=hs
    have hd:dFls.decP [.vec Srt.TP 3 (L.map dFl.emb)] (.vec 0 L.length):=⟨rfl,fun y hy=>by obtain ⟨z,_,rfl⟩:=List.mem_map.1 hy;exact dFl.pE _ z⟩
    have hv:dFls.decV [.vec Srt.TP 3 (L.map dFl.emb)] (.vec 0 L.length)=L:=dt_dec dFl _ L
    exact ⟨c,by have:=dFls.ok h4.g.good hd hc1;rwa [hv] at this,hc2⟩
   by_cases e6:k=6
   ·subst e6
    exact hs
   rw [if_neg e0,if_neg e1,if_neg e5,if_neg e6]
   trivial
 have c1:¬ (n:Int)<1:=by omega
 have c2:¬ (8:Int)<n:=by omega
 refine tw_seq (tw_jcN h5 Gsr_ok (by rfl) [0,1,5,6,7] [.int .i64 n,dEs.emb l,dFls.emb L, .int .i64 0, .int .i64 0] [] ?_ fun ε6 a6 x6 h6 _=> ?_)
 ·unfold j3_2
  simp only [go_sem,seval,Gsr_eq,hok]
 refine tw_seq (tw_jcN h6 FH.none_ok (by rfl) [1,5,6,7] [dEs.emb l,dFls.emb L, .int .i64 0, .int .i64 0] [] ?_ fun ε7 a7 x7 h7 _=> ?_)
 ·unfold j3_3
  simp only [go_sem,seval,c1,c2]
 refine tw_seq (tw_regN h7 FH.none_ok (by rfl) [1,5,6,7] [dEs.emb l,dFls.emb L, .int .i64 0, .int .i64 0] [] ?_ fun ε8 a8 x8 h8 _ o ho hd=> ?_)
 ·simp only [go_sem,seval]
 refine OpT.mono ?_ (ts_call (t:=27) h8 ho (by kernel_rfl) hd (by decide) (by rfl) (K:=KE 1 ⟨[],cs,got⟩) fun vs hvs=>run_range (.inl (by omega)) h8.g hvs)
 rintro a9 s9 x9 ⟨ε9,y1,y2,m',⟨rfl,rfl,rfl,rfl⟩,h9⟩
 refine Behind.ofN h9 FH.none_ok (by rfl) [1,5,6,7,9] [dEs.emb l,dFls.emb L, .int .i64 0, .int .i64 0, .int .i64 1] [] ?_ fun ε10 a10 x10 h10 _=> ?_
 ·simp only [go_sem,seval]
 have hr:L=outA l (flA l 8) l.length:=hL.trans (runX_out hok (Nat.le_refl _))
 have hq:eqBy ef_EqFlag L (outA l (flA l 8) l.length)=true:=by rw [← hr];exact eqBy_refl (by simp [ef_EqFlag]) _
 refine tw_jcR h10 Gsr_ok (by rfl) [4] [.bool true] [.vec 32 3 ((outA l (flA l 8) l.length).map dFl.emb)] ?_ fun ε11 a11 x11 h11 _=>⟨rfl,ε11,_,_,⟨rfl,rfl⟩,h11⟩
 unfold j3_4
 simp only [go_sem,seval,Gsr_eq,hok,hq]
end
end Go.Proofs.Ytpajfggdnobheaa.Sp
end
section
open Go Go.Sx Go.Conc Go.Proofs
namespace Go.Proofs.Ytpajfggdnobheaa.Sp
variable {main:Bool} {Fz:Nat→Prop}
open Go.Proofs.Ytpajfggdnobheaa.D Go.Proofs.Ytpajfggdnobheaa.Tr Go.Proofs.Ytpajfggdnobheaa.C Go.Proofs.Ytpajfggdnobheaa.Fu Go.Proofs.Ytpajfggdnobheaa.Fa
variable {n:Nat} {l:List Ev}
theorem fut_app (j:Nat):∀ a b:List MAct,fut j (a++b)=fut j a++fut j b
 |[],b=>rfl
 |x::a,b=>by
  have ih:=fut_app j a b
  cases x<;>simp only [List.cons_append,fut,ih]
  split<;>simp
theorem fut_go (len j:Nat):∀ k i,fut j (goA len k i)=[]
 |0,_=>rfl
 |k+1,i=>by simp only [goA,fut];exact fut_go len j k (i+1)
theorem fut_shut (j:Nat):∀ k i,fut j (shutA k i)=[]
 |0,_=>rfl
 |k+1,i=>by simp only [shutA,fut];exact fut_shut j k (i+1)
theorem fut_recv (j:Nat):∀ k,fut j (recvA k)=[]
 |0=>rfl
 |k+1=>by simp only [recvA,List.replicate_succ,fut];exact fut_recv j k
theorem fut_send (n j:Nat):∀ k i,i+k=l.length→(ofH n j (allM l i)).map mV++fut j (sendA n l k i)=(ofH n j (allM l l.length)).map mV
 |0,i,h=>by
  obtain rfl:i=l.length:=by omega
  simp [sendA,fut]
 |k+1,i,h=>by
  rw [← fut_send n j k (i+1) (by omega),sendA,fut_app,allM,ofH_app,List.map_append,List.append_assoc]
  congr 1
  congr 1
  split
  ·by_cases hj:(l.getD i dEv.dft).obj.toNat%n=j
   ·simp only [fut,ofH,msgOf,List.filter_cons,List.filter_nil,hj,decide_true,if_true,List.map_cons,List.map_nil]
   ·simp only [fut,ofH,msgOf,List.filter_cons,List.filter_nil,hj,decide_false,Bool.false_eq_true,if_false,List.map_nil]
  ·rfl
theorem shut_mem {j:Nat}:∀ k i,MAct.close j∈shutA k i↔i≤j∧j<i+k
 |0,i=>by simp [shutA]
 |k+1,i=>by
  rw [shutA,List.mem_cons,shut_mem k (i+1)]
  constructor
  ·rintro (h|h)
   ·injection h with h;omega
   ·omega
  ·intro h
   by_cases e:j=i
   ·exact .inl (by rw [e])
   ·exact .inr (by omega)
theorem recv_mem (j k:Nat):MAct.close j∉recvA k:=fun h=>by
 have:=List.eq_of_mem_replicate h
 cases this
variable {cap:Nat}
theorem wf_recv:∀ (k r:Nat),r+k=n→WF (fanR n l) cap (n+1) n r (recvA k)
 |0,r,h=>⟨rfl,by show r=n;omega⟩
 |k+1,r,h=>⟨⟨rfl,by show r<n;omega,fun j=>recv_mem j k⟩,wf_recv k (r+1) (by omega)⟩
theorem wf_shut:∀ (k j:Nat),j+k=n→WF (fanR n l) cap (n+1) n 0 (shutA k j++recvA n)
 |0,j,h=>wf_recv n 0 (by omega)
 |k+1,j,h=>⟨⟨by omega,fun hm=>by
   rcases List.mem_append.1 hm with hm|hm
   ·have:=(shut_mem k (j+1)).1 hm;omega
   ·exact recv_mem j n hm,(fut_app j _ _).trans (by rw [fut_shut,fut_recv];rfl)⟩,wf_shut k (j+1) (by omega)⟩
theorem wf_send (hn:0<n):∀ (k i:Nat),WF (fanR n l) cap (n+1) n 0 (sendA n l k i++(shutA n 0++recvA n))
 |0,i=>wf_shut n 0 (by omega)
 |k+1,i=>by
  rw [sendA]
  split
  ·refine ⟨⟨Nat.mod_lt _ hn,?_⟩,wf_send hn k (i+1)⟩
   refine List.mem_append.2 (.inr (List.mem_append.2 (.inl ((shut_mem n 0).2 ⟨Nat.zero_le _,?_⟩))))
   have:=Nat.mod_lt (l.getD i dEv.dft).obj.toNat hn
   omega
  ·exact wf_send hn k (i+1)
theorem wf_go (hn:0<n):∀ (k j:Nat),j+k=n→WF (fanR n l) l.length (j+1) j 0 (goA l.length k j++restA n l)
 |0,j,h=>by
  obtain rfl:j=n:=by omega
  exact wf_send hn _ _
 |k+1,j,h=>by
  refine ⟨.inr ⟨rfl,rfl⟩,⟨rfl,rfl,by show j<n;omega,?_,?_,?_⟩,wf_go hn k (j+1) (by omega)⟩
  ·exact List.mem_append.2 (.inr (List.mem_append.2 (.inr (List.mem_append.2 (.inl ((shut_mem n 0).2 ⟨Nat.zero_le _,by omega⟩))))))
  ·refine (fut_app j _ _).trans ?_
   rw [fut_go,restA,fut_app,fut_app,fut_shut,fut_recv]
   have:=fut_send (l:=l) n j l.length 0 (by omega)
   simp only [allM,ofH,List.filter_nil,List.map_nil,List.nil_append] at this
   simp only [List.nil_append,List.append_nil]
   exact this
  ·show ((ofH n j (allM l l.length)).map mV).length≤_
   rw [List.length_map]
   exact Nat.le_trans (List.length_filter_le ..) (allM_len _)
theorem wf_run (hn:0<n):WF (fanR n l) l.length 0 0 0 (actsR n l):=⟨.inl ⟨rfl,rfl⟩,wf_go hn n 0 (by omega)⟩
def fan0:Fan:=⟨0,fun _=>[],fun _ _ _ _=>True⟩
theorem wf_none:WF fan0 0 0 0 0 []:=⟨rfl,rfl⟩
end Go.Proofs.Ytpajfggdnobheaa.Sp
end
