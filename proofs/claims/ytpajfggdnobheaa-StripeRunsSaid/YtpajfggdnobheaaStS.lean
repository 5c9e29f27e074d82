/- A part of the proof of StripeRuns. Conditions: none. -/
import Derived.Test.YtpajfggdnobheaaStP
import Derived.Test.YtpajfggdnobheaaCo14
set_option linter.unusedVariables false
set_option linter.unusedSimpArgs false
set_option maxRecDepth 100000
open Go Go.Sx Go.Conc Go.Proofs
namespace Go.Proofs.Ytpajfggdnobheaa.Sp
variable {main:Bool} {Fz:Nat→Prop}
open Go.Proofs.Ytpajfggdnobheaa.D Go.Proofs.Ytpajfggdnobheaa.Tr Go.Proofs.Ytpajfggdnobheaa.C Go.Proofs.Ytpajfggdnobheaa.Fu Go.Proofs.Ytpajfggdnobheaa.Fa
def Gck (f:FuncId) (a:List SV) (m:List Res):Sx.Call:=(FH.rd 19 (.one dEs) (.two .int .int) (fun _=>True) (fun y=>(playedF y.1).2)<|
 FH.mk 21 .nil (fun _=>True) (fun _=> .ptr 0 [] 0) (fun _=>[.blk 66 (dKp.emb (newK 6))]) FH.none) f a m
theorem Gck_eq (f:FuncId) (a:List SV) (m:List Res):Gck f a m=(FH.rd 19 (.one dEs) (.two .int .int) (fun _=>True) (fun y=>(playedF y.1).2)<|
 FH.mk 21 .nil (fun _=>True) (fun _=> .ptr 0 [] 0) (fun _=>[.blk 66 (dKp.emb (newK 6))]) FH.none) f a m:=nr rfl
theorem Gck_ok:FHOK Try.prog main Fz Gck:=FH.rd_ok (by kernel_rfl) (fun y _=>f_Check y.1)<|
 FH.mk_ok (by kernel_rfl) (fun _ _=>plainM (pv_ptr _ _ _) ⟨plR_blk _ dKp _,trivial⟩) (fun _ _=>f_New) FH.none_ok
def srtP (s:List Srt.Fk) (y:Nat×Unit):Prop:=s.length<65536∧y.1=24
def Gst (f:FuncId) (a:List SV) (m:List Res):Sx.Call:=(FH.sv 23 Srt.TP 3 Srt.dFk (.one .fnc) .unit srtP (fun _ _=>()) (fun s _=>(Sort.sort Srt.lt s.toArray).toList) FH.none) f a m
theorem Gst_eq (f:FuncId) (a:List SV) (m:List Res):Gst f a m=(FH.sv 23 Srt.TP 3 Srt.dFk (.one .fnc) .unit srtP (fun _ _=>()) (fun s _=>(Sort.sort Srt.lt s.toArray).toList) FH.none) f a m:=nr rfl
theorem Gst_ok:FHOK Try.prog main Fz Gst:=FH.sv_ok (by decide) (by kernel_rfl) (fun s y h=>by
 obtain ⟨y,⟨⟩⟩:=y
 obtain ⟨h1,h2⟩:=h
 simp only at h1 h2
 subst h2
 exact Srt.f_sortF (main:=main) (Fz:=Fz) s.toArray (by simpa using h1)) FH.none_ok
theorem infoFl:(Try.prog.info? 23).map (·.bytes)=some 24:=by kernel_rfl
section
variable {n:Nat} {l:List Ev} {End:List Nat→Goroutine→OW→Prop} {H0 X:Nat→Option Obj}
theorem run_good (hn0:1≤n) (hn:n≤8) (hok:(checkR l).2=0) {ε:Env} {a:Act} {x:OW} (hT:TS Fz 102 [] H0 X ε (Sx.ofF [0,1] [.int .i64 n,dEs.emb l] .nil) [] a x):
  TW Try.prog true Fz (mainSes Try.prog Fz (fanR n l) End) qall tfk 6 j6 (fun e a' s' x'=>e= .ret∧∃ cs got ε',s'=⟨[],cs,got⟩∧got.length=n∧
   TS Fz 102 [] H0 X ε' (Sx.ofF [4,5] [.vec 0 (runXL l l.length).length, .int .i64 0] .nil) [.vec Srt.TP 3 ((runXL l l.length).map dFl.emb)] a' x') a ⟨actsR n l,[],[]⟩ x:=by
 have hlen:=ok_len hok
 have he:(playedF l).2.2=0:=by rw [err_same];exact hok
 have c1:¬ (n:Int)<1:=by omega
 have c2:¬ (8:Int)<n:=by omega
 unfold j6
 refine tw_seq (tw_jcN hT FH.none_ok (by rfl) [0,1] [.int .i64 n,dEs.emb l] [] ?_ fun ε1 a1 x1 h1 _=> ?_)
 ·unfold j6_1
  simp only [go_sem,seval]
 refine tw_seq (tw_jcN h1 FH.none_ok (by rfl) [0,1] [.int .i64 n,dEs.emb l] [] ?_ fun ε2 a2 x2 h2 _=> ?_)
 ·unfold j6_2
  simp only [go_sem,seval,c1,c2]
 refine tw_seq (tw_jcN h2 Gck_ok (by rfl) [0,1] [.int .i64 n,dEs.emb l] [] ?_ fun ε3 a3 x3 h3 _=> ?_)
 ·unfold j6_3
  simp only [go_sem,seval,Gck_eq,he]
 refine tw_seq (tw_regN h3 FH.none_ok (by rfl) [0,1] [.int .i64 n,dEs.emb l] [] ?_ fun ε4 a4 x4 h4 _ o ho hd=> ?_)
 ·simp only [go_sem,seval]
 obtain ⟨iF,hiF,hbF⟩:=Option.map_eq_some_iff.1 infoFl
 refine OpT.mono ?_ (ts_mk (cap:=0) (l:=goA l.length n 0++restA n l) h4 ho hd (by decide) Try.underlying52 hiF rfl (by omega) (by omega))
 rintro a5 s5 x5 ⟨c0,rfl,h5⟩
 refine Behind.ofN h5 FH.none_ok (by rfl) [0,1,8] [.int .i64 n,dEs.emb l,chS c0] [] ?_ fun ε6 a6 x6 h6 _=> ?_
 ·simp only [go_sem,seval]
 refine tw_seq (tw_jcN h6 FH.none_ok (by rfl) [0,1,8,9] [.int .i64 n,dEs.emb l,chS c0, .nils] [] ?_ fun ε7 a7 x7 h7 _=> ?_)
 ·unfold j6_4
  simp only [go_sem,seval]
 have h8:=(h7.nilVec (k:=9) (by decide) rfl 54 1).ofN (ks:=[0,1,8,9]) (xs:=[.int .i64 n,dEs.emb l,chS c0, .vec 0 0]) (by simp only [go_sem,seval])
 refine tw_seq (tw_seq (tw_jcN h8 FH.none_ok (by rfl) [0,1,8,9,32,33] [.int .i64 n,dEs.emb l,chS c0, .vec 0 0, .int .i64 n, .int .i64 0] [.vec 54 1 []] ?_ fun ε9 a9 x9 h9 _=> ?_))
 ·unfold j6_5
  simp only [go_sem,seval]
 refine tw_block (tw_loop (fun k a s x=>GInv Fz H0 X n l (restA n l) k a s x) n ⟨0,c0,[],_,by omega,rfl,rfl,h9⟩ fun k a s x hI=>(go_round hn (by omega) (fun j _=>⟨(hand_upto hok n j _ (Nat.le_refl _)).2.2,ofH_len hok n j⟩) k a s x hI).mono fun e a' s' x' hh=> ?_)
 split at hh
 case h_1=>exact hh
 case h_3=>exact hh.elim
 simp only [if_true]
 clear hI hT h1 h2 h3 h4 h5 h6 h7 h8 h9
 obtain ⟨j,c0,chs,ε,hj,hchs,rfl,hT⟩:=hh
 obtain rfl:j=n:=by omega
 clear hj
 refine tw_seq (tw_jcN hT Gck_ok (by rfl) [0,1,8,9,11] [.int .i64 j,dEs.emb l,chS c0, .vec 0 j, .ptr 1 [] 0] [.vec 54 1 (chs.map chS), .blk 66 (dKp.emb (newK 6))] ?_ fun ε1 a1 x1 h1 _=> ?_)
 ·unfold j6_11
  simp only [go_sem,seval,Gck_eq,renL_ch]
 refine tw_seq (tw_seq (tw_jcN h1 FH.none_ok (by rfl) [0,8,9,11,46,47,48] [.int .i64 j,chS c0, .vec 0 j, .ptr 1 [] 0,dEs.emb l, .int .i64 l.length, .int .i64 0] [.vec 54 1 (chs.map chS), .blk 66 (dKp.emb (newK 6))] ?_ fun ε2 a2 x2 h2 _=> ?_))
 ·unfold j6_12
  simp only [go_sem,seval]
 refine tw_block (tw_loop (fun k a s x=>EInv Fz H0 X j l (shutA j 0++recvA j) k a s x) l.length ⟨0,c0,chs,_,by omega,hchs,rfl,h2⟩ fun k a s x hI=>(ev_round hn0 hn hok k a s x hI).mono fun e a' s' x' hh=> ?_)
 split at hh
 case h_1=>exact hh
 case h_3=>exact hh.elim
 simp only [if_true]
 clear hI hT h1 h2
 obtain ⟨i,c0,chs,ε,hi,hchs,rfl,hT⟩:=hh
 clear hi
 refine tw_seq (tw_jcN hT FH.none_ok (by rfl) [8,9,14] [chS c0, .vec 0 j, .nils] [.vec 54 1 (chs.map chS), .blk 66 (dKp.emb (runK l i))] ?_ fun ε1 a1 x1 h1 _=> ?_)
 ·unfold j6_20
  simp only [go_sem,seval]
 have h2:=h1.sel [0] (by simp)
 have e1:selM [0] [Res.vec 54 1 (chs.map chS), .blk 66 (dKp.emb (runK l i))]=[.vec 54 1 (chs.map chS)]:=by
  simp only [selM,List.map_cons,List.map_nil,memAt,List.getD_cons_zero,renR,renL_ch]
 have e2:renF (selI [0]) (Sx.ofF [8,9,14] [chS c0, .vec 0 j, .nils] .nil)=Sx.ofF [8,9,14] [chS c0, .vec 0 j, .nils] .nil:=by
  simp [Sx.ofF,renF,Sx.ren,renI,selI]
 rw [e1,e2] at h2
 have h3:=(h2.nilVec (k:=14) (by decide) rfl 32 3).ofN (ks:=[8,9,14]) (xs:=[chS c0, .vec 0 j, .vec 1 0]) (by simp only [go_sem,seval])
 refine tw_seq (tw_seq (tw_jcN h3 FH.none_ok (by rfl) [8,9,14,82,83,84] [chS c0, .vec 0 j, .vec 1 0, .vec 0 j, .int .i64 j, .int .i64 0] [.vec 54 1 (chs.map chS), .vec 32 3 []] ?_ fun ε4 a4 x4 h4 _=> ?_))
 ·unfold j6_21
  simp only [go_sem,seval]
 refine tw_block (tw_loop (fun k a s x=>CInv Fz H0 X j (recvA j) [] k a s x) j ⟨0,c0,chs,_,by omega,hchs,rfl,h4⟩ fun k a s x hI=>(cl_round hn k a s x hI).mono fun e a' s' x' hh=> ?_)
 split at hh
 case h_1=>exact hh
 case h_3=>exact hh.elim
 simp only [if_true]
 clear hI hT h1 h2 h3 h4 e1 e2
 obtain ⟨j',c0,chs,ε,hj',hchs,rfl,hT⟩:=hh
 refine tw_seq (tw_seq (tw_jcN hT FH.none_ok (by rfl) [8,14,91,92] [chS c0, .vec 1 0, .int .i64 j, .int .i64 0] [.vec 54 1 (chs.map chS), .vec 32 3 []] ?_ fun ε1 a1 x1 h1 _=> ?_))
 ·unfold j6_27
  simp only [go_sem,seval]
 have h2:=h1.sel [1] (by simp)
 have e1:selM [1] [Res.vec 54 1 (chs.map chS), .vec 32 3 []]=[.vec 32 3 []]:=rfl
 have e2:renF (selI [1]) (Sx.ofF [8,14,91,92] [chS c0, .vec 1 0, .int .i64 j, .int .i64 0] .nil)=Sx.ofF [8,14,91,92] [chS c0, .vec 0 0, .int .i64 j, .int .i64 0] .nil:=by
  simp [Sx.ofF,renF,Sx.ren,renI,selI]
 rw [e1,e2] at h2
 refine tw_block (tw_loop (fun k a s x=>RInv Fz H0 X j l k a s x) j ⟨c0,chs,[],_,by simp,List.nodup_nil,by simp,rfl,h2⟩ fun k a s x hI=>(rc_round hn (ofH_len hok j) k a s x hI).mono fun e a' s' x' hh=> ?_)
 split at hh
 case h_1=>exact hh
 case h_3=>exact hh.elim
 simp only [if_true]
 clear hI hT h1 h2 e1 e2
 obtain ⟨c0,chs,got,ε,hg,hnd,hlt,rfl,hT⟩:=hh
 have hgn:got.length=j:=by omega
 have hsr:=sorted_is hok (by omega) hnd hlt hgn
 have hp:=hT.pin (i:=0) (T:=32) (w:=3) (l:=(got.flatMap (flH j l)).map dFl.emb) rfl (by decide)
 obtain ⟨L,hL⟩:∃ L,L=(got.flatMap (flH j l)).map Srt.toFk:=⟨_,rfl⟩
 rw [← hL] at hsr
 have hlL:L.length=(got.flatMap (flH j l)).length:=by rw [hL,List.length_map]
 have hp2:TS Fz 102 [] H0 X ε (Sx.ofF [8,14,91,92] [chS c0, .vec 0 L.length, .int .i64 j, .int .i64 got.length] .nil) [.vec Srt.TP 3 (L.map Srt.dFk.emb)] a' x':=by
  rw [hlL,hL,← all_emb hok]
  exact hp
 have hl2:L.length<65536:=by
  have:=all_len (n:=j) (l:=l) (ofH_len hok j) got
  rw [hlL];omega
 have hl3:L.length=(runXL l l.length).length:=by
  have h1:=congrArg List.length hsr
  simp only [List.length_map,Array.length_toList] at h1
  have h2:=(Sort.sort_holds (Sort.pdq_holds Sort.insertionSort_holds Sort.heapSort_holds Sort.partialInsertionSort_holds (Sort.partition_holds Srt.lt) (Sort.partitionEqual_holds Srt.lt) Sort.reverseRange_holds) Srt.swo_lt L.toArray).1.1
  rw [h1] at h2
  simpa using h2.symm
 have hpre:srtP L (24,()):=⟨hl2,rfl⟩
 refine tw_jcR hp2 Gst_ok (by rfl) [4,5] [.vec 0 (runXL l l.length).length, .int .i64 0] [.vec Srt.TP 3 ((runXL l l.length).map dFl.emb)] ?_ fun ε1 a1 x1 h1 _=>⟨rfl,_,got,ε1,rfl,hgn,h1⟩
 unfold j6_32
 simp only [go_sem,seval,Gst_eq,hpre,hsr,hl3]
end
end Go.Proofs.Ytpajfggdnobheaa.Sp
