/- A part of the proof of StripeRuns. Conditions: none. -/
import Derived.Test.YtpajfggdnobheaaStH
import Derived.Test.YtpajfggdnobheaaCo13
set_option linter.unusedVariables false
set_option linter.unusedSimpArgs false
set_option maxRecDepth 100000
open Go Go.Sx Go.Conc Go.Proofs
namespace Go.Proofs.Ytpajfggdnobheaa.Sp
variable {main:Bool} {Fz:Nat→Prop}
open Go.Proofs.Ytpajfggdnobheaa.D Go.Proofs.Ytpajfggdnobheaa.Tr Go.Proofs.Ytpajfggdnobheaa.C Go.Proofs.Ytpajfggdnobheaa.Fu Go.Proofs.Ytpajfggdnobheaa.Fa
def j6_1:JC:=
 (.ops<|
 qo 4 (.mv (.c .nils))<|
 qo 5 (.mv (I 0))<|
 .nil)
def j6_2:JC:=
 (.seq (.ops<|
 qo 17 (.mv (.t 0))<|
 qo 18 (.cmp .lss (.t 17) (I 1))<|
 qo 19 (.mv (.t 18))<|
 .sc true 22 19 (qo 20 (.mv (.t 0))<|
 qo 21 (.cmp .gtr (.t 20) (I 8))<|
 .nil) (.t 21)<|
 .nil)
 (.cond (.t 22)
 (.seq (.ops<|
 qo 4 (.mv (.c .nils))<|
 qo 5 (.mv (I 1))<|
 .nil)
 .ret)
 .skip))
def j6_3:JC:=
 (.seq (.ops<|
 qo 24 (.mv (.t 1))<|
 eo 25 (.call 19 [(.t 24)])<|
 qo 23 (.mv (.t 25))<|
 qo 26 (.ext 0 (.t 23))<|
 qo 27 (.ext 1 (.t 23))<|
 qo 6 (.mv (.t 26))<|
 qo 7 (.mv (.t 27))<|
 .nil)
 (.seq (.ops<|
 qo 28 (.mv (.t 7))<|
 qo 29 (.cmp .neq (.t 28) (I 0))<|
 .nil)
 (.cond (.t 29)
 (.seq (.ops<|
 .prune [7]<|
 qo 30 (.mv (.t 7))<|
 qo 4 (.mv (.c .nils))<|
 qo 5 (.mv (.t 30))<|
 .nil)
 .ret)
 .skip)))
def j6_4:JC:=
 (.ops<|
 qo 9 (.mv (.c .nils))<|
 .nil)
def j6_5:JC:=
 (.ops<|
 qo 32 (.mv (.t 0))<|
 qo 33 (.mv (I 0))<|
 .nil)
def j6_6:JC:=
 (.ops<|
 qo 34 (.cmp .lss (.t 33) (.t 32))<|
 .nil)
def j6_7:JC:=
 (.cond (.t 34)
 .skip
 (.exit 0))
def j6_8:JC:=
 (.ops<|
 qo 38 (.mv (.t 9))<|
 qo 39 (.mv (.t 10))<|
 eo 40 (.bsl 54 1 1 (.raw (.chan none)) [(0,(.t 39))])<|
 eo 41 (.app 54 1 8 (.t 38) (.t 40))<|
 qo 9 (.mv (.t 41))<|
 .nil)
def j6_9:JC:=
 (.ops<|
 qo 44 (.ar .add (.t 33) (I 1))<|
 qo 33 (.mv (.t 44))<|
 .nil)
def j6_10:TC:=
 (.seq (.jc j6_6)
 (.seq (.jc j6_7)
 (.seq (.block 1 (.seq (.reg (
 qo 35 (.mv (.t 1))<|
 qo 36 (.len (.t 35))<|
 .nil) (some 37) (.mk 54 (.t 36)) (
 qo 10 (.mv (.t 37))<|
 .nil))
 (.seq (.jc j6_8)
 (.reg (
 qo 42 (.mv (.t 10))<|
 qo 43 (.mv (.t 8))<|
 .nil) none (.go 20 [(.t 42),(.t 43)]) (
 .nil)))))
 (.jc j6_9))))
def j6_11:JC:=
 (.ops<|
 eo 45 (.call 21 [])<|
 qo 11 (.mv (.t 45))<|
 .nil)
def j6_12:JC:=
 (.ops<|
 qo 46 (.mv (.t 1))<|
 qo 47 (.len (.t 46))<|
 qo 48 (.mv (I 0))<|
 .nil)
def j6_13:JC:=
 (.ops<|
 qo 49 (.cmp .lss (.t 48) (.t 47))<|
 .nil)
def j6_14:JC:=
 (.cond (.t 49)
 .skip
 (.exit 2))
def j6_15:JC:=
 (.ops<|
 qo 50 (.mv (.t 48))<|
 qo 51 (.is 3 (.t 46) (.t 48))<|
 eo 52 (.load 3 true (.t 51))<|
 eo 13 (.alloc 59 (.agg [(.int .i64 0),(.int .i64 0),(.int .i64 0)]))<|
 qo 12 (.mv (.t 50))<|
 en (.store 3 (.t 13) (.t 52))<|
 .nil)
def j6_16:JC:=
 (.ops<|
 qo 53 (.fa 0 0 (.t 13))<|
 eo 54 (.load 1 false (.t 53))<|
 qo 55 (.cmp .eql (.t 54) (I 1))<|
 qo 56 (.mv (.t 55))<|
 .sc true 60 56 (qo 57 (.fa 0 0 (.t 13))<|
 eo 58 (.load 1 false (.t 57))<|
 qo 59 (.cmp .eql (.t 58) (I 2))<|
 .nil) (.t 59)<|
 .nil)
def j6_17:JC:=
 (.ops<|
 qo 78 (.mv (.t 11))<|
 eo 79 (.load 3 true (.t 13))<|
 eo 80 (.call 22 [(.t 78),(.t 79)])<|
 .nil)
def j6_18:JC:=
 (.ops<|
 qo 81 (.ar .add (.t 48) (I 1))<|
 qo 48 (.mv (.t 81))<|
 .nil)
def j6_19:TC:=
 (.seq (.jc j6_13)
 (.seq (.jc j6_14)
 (.seq (.block 3 (.seq (.jc j6_15)
 (.seq (.jc j6_16)
 (.cond (.t 60) (.dreg (
 qo 61 (.mv (.t 9))<|
 qo 62 (.fa 2 2 (.t 13))<|
 eo 63 (.load 1 false (.t 62))<|
 qo 64 (.mv (.t 0))<|
 qo 65 (.ar .rem (.t 63) (.t 64))<|
 qo 66 (.is 1 (.t 61) (.t 65))<|
 eo 67 (.load 1 false (.t 66))<|
 qo 68 (.mv (.t 12))<|
 eo 69 (.load 3 true (.t 13))<|
 qo 70 (.mv (.t 11))<|
 qo 71 (.fa 1 1 (.t 13))<|
 eo 72 (.load 1 false (.t 71))<|
 qo 73 (.nck (.t 70))<|
 qo 74 (.fa 0 0 (.t 73))<|
 qo 75 (.ia 6 6 (.t 74) (.t 72))<|
 .prune [75,68,69,67,48,47,46,9,0,11,8]<|
 eo 76 (.load 6 true (.t 75))<|
 qo 77 (.bld (.agg [(.int .i64 0),(.agg [(.int .i64 0),(.int .i64 0),(.int .i64 0)]),(.arr 6 1 fun _=>(.int .i64 0))]) [([.fld 0],0,1,(.t 68)),([.fld 1],1,3,(.t 69)),([.fld 2],4,6,(.t 76))])<|
 qn (.mv (B true))<|
 .nil) (.send (.t 67) (.t 77)))
 (.jc j6_17)))))
 (.jc j6_18))))
def j6_20:JC:=
 (.ops<|
 qo 14 (.mv (.c .nils))<|
 .nil)
def j6_21:JC:=
 (.ops<|
 qo 82 (.mv (.t 9))<|
 qo 83 (.len (.t 82))<|
 qo 84 (.mv (I 0))<|
 .nil)
def j6_22:JC:=
 (.ops<|
 qo 85 (.cmp .lss (.t 84) (.t 83))<|
 .nil)
def j6_23:JC:=
 (.cond (.t 85)
 .skip
 (.exit 4))
def j6_24:JC:=
 (.ops<|
 qo 86 (.is 1 (.t 82) (.t 84))<|
 eo 87 (.load 1 false (.t 86))<|
 qo 16 (.mv (.t 87))<|
 .nil)
def j6_25:JC:=
 (.ops<|
 qo 89 (.ar .add (.t 84) (I 1))<|
 qo 84 (.mv (.t 89))<|
 .nil)
def j6_26:TC:=
 (.seq (.jc j6_22)
 (.seq (.jc j6_23)
 (.seq (.block 5 (.seq (.jc j6_24)
 (.reg (
 qo 88 (.mv (.t 16))<|
 .nil) none (.close (.t 88)) (
 .nil))))
 (.jc j6_25))))
def j6_27:JC:=
 (.ops<|
 qo 90 (.mv (.t 9))<|
 qo 91 (.len (.t 90))<|
 qo 92 (.mv (I 0))<|
 .nil)
def j6_28:JC:=
 (.ops<|
 qo 93 (.cmp .lss (.t 92) (.t 91))<|
 .nil)
def j6_29:JC:=
 (.cond (.t 93)
 .skip
 (.exit 6))
def j6_30:JC:=
 (.ops<|
 qo 98 (.ar .add (.t 92) (I 1))<|
 qo 92 (.mv (.t 98))<|
 .nil)
def j6_31:TC:=
 (.seq (.jc j6_28)
 (.seq (.jc j6_29)
 (.seq (.block 7 (.reg (
 qo 94 (.mv (.t 14))<|
 qo 95 (.mv (.t 8))<|
 .nil) (some 96) (.recv 52 (.t 95) false) (
 eo 97 (.app 32 3 24 (.t 94) (.t 96))<|
 qo 14 (.mv (.t 97))<|
 .nil)))
 (.jc j6_30))))
def j6_32:JC:=
 (.seq (.ops<|
 qo 99 (.mv (.t 14))<|
 eo 100 (.call 23 [(.t 99),(.c (.fn 24 []))])<|
 .nil)
 (.seq (.ops<|
 qo 101 (.mv (.t 14))<|
 qo 4 (.mv (.t 101))<|
 qo 5 (.mv (I 0))<|
 .nil)
 .ret))
def j6:TC:=
 (.seq (.jc j6_1)
 (.seq (.jc j6_2)
 (.seq (.jc j6_3)
 (.seq (.reg (
 .nil) (some 31) (.mk 52 (I 0)) (
 qo 8 (.mv (.t 31))<|
 .nil))
 (.seq (.jc j6_4)
 (.seq (.seq (.jc j6_5)
 (.block 0 (.loop j6_10)))
 (.seq (.jc j6_11)
 (.seq (.seq (.jc j6_12)
 (.block 2 (.loop j6_19)))
 (.seq (.jc j6_20)
 (.seq (.seq (.jc j6_21)
 (.block 4 (.loop j6_26)))
 (.seq (.seq (.jc j6_27)
 (.block 6 (.loop j6_31)))
 (.jc j6_32))))))))))))
theorem c6:tIs Try.prog qall (fun f=>[6].contains f) 6=some (j6.flat,[.tmp 4, .tmp 5],102,false):=by kernel_rfl
def msgOf (l:List Ev) (i:Nat):Ms:=⟨i,l.getD i dEv.dft,(runK l i).thr (l.getD i dEv.dft).thr.toNat⟩
def allM (l:List Ev):Nat→List Ms
 |0=>[]
 |i+1=>allM l i++if isAcc (l.getD i dEv.dft)=true then [msgOf l i] else []
def ofH (n j:Nat) (ms:List Ms):List Ms:=ms.filter fun m=>decide (m.e.obj.toNat%n=j)
def flH (n:Nat) (l:List Ev) (j:Nat):List Fl:=hRun (fun _=>cl0) (ofH n j (allM l l.length))
def fanR (n:Nat) (l:List Ev):Fan:=⟨n,fun j=>(ofH n j (allM l l.length)).map mV,fun j=>outP (flH n l j)⟩
def goA (len:Nat):Nat→Nat→List MAct
 |0,_=>[]
 |k+1,j=> .mk len:: .go j::goA len k (j+1)
def sendA (n:Nat) (l:List Ev):Nat→Nat→List MAct
 |0,_=>[]
 |k+1,i=>(if isAcc (l.getD i dEv.dft)=true then [.send ((l.getD i dEv.dft).obj.toNat%n) (mV (msgOf l i))] else [])++sendA n l k (i+1)
def shutA:Nat→Nat→List MAct
 |0,_=>[]
 |k+1,j=> .close j::shutA k (j+1)
def recvA (k:Nat):List MAct:=List.replicate k .recv
def restA (n:Nat) (l:List Ev):List MAct:=sendA n l l.length 0++(shutA n 0++recvA n)
def actsR (n:Nat) (l:List Ev):List MAct:= .mk 0::(goA l.length n 0++restA n l)
theorem mS_val {ε:Env} {x:Ms} {w:Value} (h:SatV ε (mS x) w):w=mV x:=by
 obtain ⟨cs,h1,h2⟩:=h
 obtain ⟨a,r1,rfl,ha,b,r2,rfl,hb,c,r3,rfl,hc,hr⟩:=h1
 obtain ⟨b1,s1,rfl,hb1,b2,s2,rfl,hb2,b3,s3,rfl,hb3,hs⟩:=hb
 simp only [SatC] at ha hb1 hb2 hb3
 simp only [SatL] at hs hr
 subst ha hb1 hb2 hb3 hs hr
 obtain ⟨hlen,hc⟩:=hc
 match c,hlen with
 |[c0,c1,c2,c3,c4,c5],_=>
  have e0:=hc 0 (by omega)
  have e1:=hc 1 (by omega)
  have e2:=hc 2 (by omega)
  have e3:=hc 3 (by omega)
  have e4:=hc 4 (by omega)
  have e5:=hc 5 (by omega)
  simp only [SatC,sub] at e0 e1 e2 e3 e4 e5
  simp at e0 e1 e2 e3 e4 e5
  subst e0 e1 e2 e3 e4 e5
  exact h2
@[reducible] def chS (c:Nat):SV:= .raw (.chan (some c))
section
variable {n:Nat} {l:List Ev} {End:List Nat→Goroutine→OW→Prop} {H0 X:Nat→Option Obj}
def GInv (Fz:Nat→Prop) (H0 X:Nat→Option Obj) (n:Nat) (l:List Ev) (rest:List MAct) (k:Nat) (a:Act) (s:MS) (x:OW):Prop:=
 ∃ (j c0:Nat) (chs:List Nat) (ε:Env),j+k=n∧chs.length=j∧s=⟨goA l.length k j++rest,c0::chs,[]⟩∧
  TS Fz 102 [] H0 X ε (Sx.ofF [0,1,8,9,32,33] [.int .i64 n,dEs.emb l,chS c0, .vec 0 j, .int .i64 n, .int .i64 j] .nil) [.vec 54 1 (chs.map chS)] a x
theorem killL_ch (i:Nat):∀ chs:List Nat,killL i (chs.map chS)=chs.map chS
 |[]=>rfl
 |c::r=>by
  have:=killL_ch i r
  simp only [List.map_cons,killL,chS,Sx.kill] at this ⊢
  rw [this]
theorem renL_ch (f:Nat→Option Nat):∀ chs:List Nat,renL f (chs.map chS)=chs.map chS
 |[]=>rfl
 |c::r=>by
  have:=renL_ch f r
  simp only [List.map_cons,renL,chS,Sx.ren] at this ⊢
  rw [this]
theorem info68:(Try.prog.info? 68).map (·.bytes)=some 80:=by kernel_rfl
theorem go_round (hn:n≤8) (hl:l.length≤1000) (hok:∀ j,j<n→okH (fun _=>cl0) (ofH n j (allM l l.length))∧(ofH n j (allM l l.length)).length≤1000) {rest:List MAct} (k:Nat) (a:Act) (s:MS) (x:OW) (h:GInv Fz H0 X n l rest k a s x):
  TW Try.prog true Fz (mainSes Try.prog Fz (fanR n l) End) qall tfk 6 j6_10 (fun e a' s' x'=>match e with
   | .normal=> ∃ k',k'<k∧GInv Fz H0 X n l rest k' a' s' x'
   | .exit 0=>GInv Fz H0 X n l rest 0 a' s' x'
   |_=>False) a s x:=by
 obtain ⟨j,c0,chs,ε,hjk,hchs,rfl,hT⟩:=h
 unfold j6_10
 cases k with
 |zero=>
  have hj:¬ (j:Int)<n:=by omega
  refine tw_seq (tw_jcN hT FH.none_ok (by rfl) [0,1,8,9,32,33,34] [.int .i64 n,dEs.emb l,chS c0, .vec 0 j, .int .i64 n, .int .i64 j, .bool false] [.vec 54 1 (chs.map chS)] ?_ fun ε1 a1 x1 h1 _=> ?_)
  ·unfold j6_6
   simp only [go_sem,seval,hj]
  refine tw_seq (tw_jcX h1 FH.none_ok (by rfl) 0 [0,1,8,9,32,33] [.int .i64 n,dEs.emb l,chS c0, .vec 0 j, .int .i64 n, .int .i64 j] [.vec 54 1 (chs.map chS)] ?_ fun ε2 a2 x2 h2 _=>⟨j,c0,chs,ε2,hjk,hchs,rfl,h2⟩)
  unfold j6_7
  simp only [go_sem,seval]
 |succ k=>
  have hj:(j:Int)<n:=by omega
  have hw:IntKind.i64.wrap ((j:Int)+1)=((j+1:Nat):Int):=IntWalk.i64_in _ (by omega)
  refine tw_seq (tw_jcN hT FH.none_ok (by rfl) [0,1,8,9,32,33,34] [.int .i64 n,dEs.emb l,chS c0, .vec 0 j, .int .i64 n, .int .i64 j, .bool true] [.vec 54 1 (chs.map chS)] ?_ fun ε1 a1 x1 h1 _=> ?_)
  ·unfold j6_6
   simp only [go_sem,seval,hj]
  refine tw_seq (tw_jcN h1 FH.none_ok (by rfl) [0,1,8,9,32,33] [.int .i64 n,dEs.emb l,chS c0, .vec 0 j, .int .i64 n, .int .i64 j] [.vec 54 1 (chs.map chS)] ?_ fun ε2 a2 x2 h2 _=> ?_)
  ·unfold j6_7
   simp only [go_sem,seval]
  refine tw_seq (tw_block (tw_seq (tw_regN h2 FH.none_ok (by rfl) [0,1,8,9,32,33,36] [.int .i64 n,dEs.emb l,chS c0, .vec 0 j, .int .i64 n, .int .i64 j, .int .i64 l.length] [.vec 54 1 (chs.map chS)] ?_ fun ε3 a3 x3 h3 _ o ho hd=> ?_)))
  ·simp only [go_sem,seval]
  obtain ⟨i68,hi68,hb68⟩:=Option.map_eq_some_iff.1 info68
  refine OpT.mono ?_ (ts_mk (l:= .go j::(goA l.length k (j+1)++rest)) h3 ho hd (by decide) Try.underlying54 hi68 rfl (by omega) (by rw [hb68];omega))
  rintro a4 s4 x4 ⟨c,rfl,h4⟩
  refine Behind.ofN h4 FH.none_ok (by rfl) [0,1,8,9,10,32,33] [.int .i64 n,dEs.emb l,chS c0, .vec 0 j,chS c, .int .i64 n, .int .i64 j] [.vec 54 1 (chs.map chS)] ?_ fun ε5 a5 x5 h5 _=> ?_
  ·simp only [go_sem,seval]
  refine tw_seq (tw_jcN h5 FH.none_ok (by rfl) [0,1,8,9,10,32,33] [.int .i64 n,dEs.emb l,chS c0, .vec 0 (j+1),chS c, .int .i64 n, .int .i64 j] [.vec 54 1 (chs.map chS++[chS c]), .vec 54 1 [chS c]] ?_ fun ε6 a6 x6 h6 _=> ?_)
  ·unfold j6_8
   simp only [go_sem,seval,hchs,killL_ch]
   omega
  have h7:=h6.sel [0] (by simp)
  have e1:selM [0] [Res.vec 54 1 (chs.map chS++[chS c]), .vec 54 1 [chS c]]=[.vec 54 1 ((chs++[c]).map chS)]:=by
   rw [show chs.map chS++[chS c]=(chs++[c]).map chS by simp]
   simp only [selM,List.map_cons,List.map_nil,memAt,List.getD_cons_zero,renR,renL_ch]
  have e2:renF (selI [0]) (Sx.ofF [0,1,8,9,10,32,33] [.int .i64 n,dEs.emb l,chS c0, .vec 0 (j+1),chS c, .int .i64 n, .int .i64 j] .nil)=Sx.ofF [0,1,8,9,10,32,33] [.int .i64 n,dEs.emb l,chS c0, .vec 0 (j+1),chS c, .int .i64 n, .int .i64 j] .nil:=by
   simp [Sx.ofF,renF,Sx.ren,renI,selI,dEs.ren]
  rw [e1,e2] at h7
  have hlen:(chs++[c]).length=j+1:=by simp [hchs]
  refine tw_regN h7 FH.none_ok (by rfl) [0,1,8,9,32,33,42,43] [.int .i64 n,dEs.emb l,chS c0, .vec 0 (j+1), .int .i64 n, .int .i64 j,chS c,chS c0] [.vec 54 1 ((chs++[c]).map chS)] ?_ fun ε8 a8 x8 h8 _ o ho hd=> ?_
  ·simp only [go_sem,seval]
  refine OpT.mono ?_ (ts_go (j:=j) (l:=goA l.length k (j+1)++rest) (cs:=c0::chs++[c]) h8 ho hd rfl (by simp [hchs]) rfl fun w1 hr dd hd1 hd2=> ?_)
  case refine_2=>
   obtain ⟨k1,k2⟩:=hok j (by omega)
   exact hand_walk (fun b hb=>Nat.lt_of_lt_of_le (h8.g.Fl b hb) hr.size) k1 k2 (fun v B w hh=>hh) hd1 hd2
  rintro a9 s9 x9 ⟨rfl,h9⟩
  refine Behind.ofN h9 FH.none_ok (by rfl) [0,1,8,9,32,33] [.int .i64 n,dEs.emb l,chS c0, .vec 0 (j+1), .int .i64 n, .int .i64 j] [.vec 54 1 ((chs++[c]).map chS)] ?_ fun ε10 a10 x10 h10 _=> ?_
  ·simp only [go_sem,seval]
  refine tw_jcN h10 FH.none_ok (by rfl) [0,1,8,9,32,33] [.int .i64 n,dEs.emb l,chS c0, .vec 0 (j+1), .int .i64 n, .int .i64 (j+1:Nat)] [.vec 54 1 ((chs++[c]).map chS)] ?_ fun ε11 a11 x11 h11 _=>⟨k,by omega,j+1,c0,chs++[c],ε11,by omega,hlen,rfl,h11⟩
  unfold j6_9
  simp only [go_sem,seval,hw]
def Gev (f:FuncId) (a:List SV) (m:List Res):Sx.Call:=(FH.mt 22 66 dKp (.one dEv) DR.unit (fun _ y=>isEv y.1=true) (fun _ _=>()) (fun k y=>syncK k y.1) FH.none) f a m
theorem Gev_eq (f:FuncId) (a:List SV) (m:List Res):Gev f a m=(FH.mt 22 66 dKp (.one dEv) DR.unit (fun _ y=>isEv y.1=true) (fun _ _=>()) (fun k y=>syncK k y.1) FH.none) f a m:=nr rfl
theorem Gev_ok:FHOK Try.prog main Fz Gev:=FH.mt_ok (by kernel_rfl) (fun k y h=>f_Sync k y.1 h) FH.none_ok
def EInv (Fz:Nat→Prop) (H0 X:Nat→Option Obj) (n:Nat) (l:List Ev) (rest:List MAct) (k:Nat) (a:Act) (s:MS) (x:OW):Prop:=
 ∃ (i c0:Nat) (chs:List Nat) (ε:Env),i+k=l.length∧chs.length=n∧s=⟨sendA n l k i++rest,c0::chs,[]⟩∧
  TS Fz 102 [] H0 X ε (Sx.ofF [0,8,9,11,46,47,48] [.int .i64 n,chS c0, .vec 0 n, .ptr 1 [] 0,dEs.emb l, .int .i64 l.length, .int .i64 i] .nil) [.vec 54 1 (chs.map chS), .blk 66 (dKp.emb (runK l i))] a x
theorem ev_round (h0:1≤n) (hn:n≤8) (hok:(checkR l).2=0) {rest:List MAct} (k:Nat) (a:Act) (s:MS) (x:OW) (h:EInv Fz H0 X n l rest k a s x):
  TW Try.prog true Fz (mainSes Try.prog Fz (fanR n l) End) qall tfk 6 j6_19 (fun e a' s' x'=>match e with
   | .normal=> ∃ k',k'<k∧EInv Fz H0 X n l rest k' a' s' x'
   | .exit 2=>EInv Fz H0 X n l rest 0 a' s' x'
   |_=>False) a s x:=by
 obtain ⟨i,c0,chs,ε,hik,hchs,rfl,hT⟩:=h
 have hl:=ok_len hok
 unfold j6_19
 cases k with
 |zero=>
  have hj:¬ (i:Int)<l.length:=by omega
  refine tw_seq (tw_jcN hT FH.none_ok (by rfl) [0,8,9,11,46,47,48,49] [.int .i64 n,chS c0, .vec 0 n, .ptr 1 [] 0,dEs.emb l, .int .i64 l.length, .int .i64 i, .bool false] [.vec 54 1 (chs.map chS), .blk 66 (dKp.emb (runK l i))] ?_ fun ε1 a1 x1 h1 _=> ?_)
  ·unfold j6_13
   simp only [go_sem,seval,hj]
  refine tw_seq (tw_jcX h1 FH.none_ok (by rfl) 2 [0,8,9,11,46,47,48] [.int .i64 n,chS c0, .vec 0 n, .ptr 1 [] 0,dEs.emb l, .int .i64 l.length, .int .i64 i] [.vec 54 1 (chs.map chS), .blk 66 (dKp.emb (runK l i))] ?_ fun ε2 a2 x2 h2 _=>⟨i,c0,chs,ε2,hik,hchs,rfl,h2⟩)
  unfold j6_14
  simp only [go_sem,seval]
 |succ k=>
  have hi:i<l.length:=by omega
  have hj:(i:Int)<l.length:=by omega
  have hw:IntKind.i64.wrap ((i:Int)+1)=((i+1:Nat):Int):=IntWalk.i64_in _ (by omega)
  have hev:=ok_isEv hok i hi
  obtain ⟨b1,b2,b3,b4⟩:=(isEv_iff _).1 hev
  obtain ⟨t,ht,ht6⟩:∃ t:Nat,(l.getD i dEv.dft).thr=t∧t<6:=⟨(l.getD i dEv.dft).thr.toNat,by omega,by omega⟩
  obtain ⟨o,ho⟩:∃ o:Nat,(l.getD i dEv.dft).obj=o:=⟨(l.getD i dEv.dft).obj.toNat,by omega⟩
  refine tw_seq (tw_jcN hT FH.none_ok (by rfl) [0,8,9,11,46,47,48,49] [.int .i64 n,chS c0, .vec 0 n, .ptr 1 [] 0,dEs.emb l, .int .i64 l.length, .int .i64 i, .bool true] [.vec 54 1 (chs.map chS), .blk 66 (dKp.emb (runK l i))] ?_ fun ε1 a1 x1 h1 _=> ?_)
  ·unfold j6_13
   simp only [go_sem,seval,hj]
  refine tw_seq (tw_jcN h1 FH.none_ok (by rfl) [0,8,9,11,46,47,48] [.int .i64 n,chS c0, .vec 0 n, .ptr 1 [] 0,dEs.emb l, .int .i64 l.length, .int .i64 i] [.vec 54 1 (chs.map chS), .blk 66 (dKp.emb (runK l i))] ?_ fun ε2 a2 x2 h2 _=> ?_)
  ·unfold j6_14
   simp only [go_sem,seval]
  refine tw_seq (tw_block (tw_seq (tw_jcN h2 FH.none_ok (by rfl) [0,8,9,11,12,13,46,47,48] [.int .i64 n,chS c0, .vec 0 n, .ptr 1 [] 0, .int .i64 i, .ptr 2 [] 0,dEs.emb l, .int .i64 l.length, .int .i64 i] [.vec 54 1 (chs.map chS), .blk 66 (dKp.emb (runK l i)), .blk 59 (dEv.emb (l.getD i dEv.dft))] ?_ fun ε3 a3 x3 h3 _=> ?_)))
  ·unfold j6_15
   simp only [go_sem,seval,hi,hj]
   omega
  have next:∀ (ε':Env) (a':Act) (s':MS) (x':OW),s'=⟨sendA n l k (i+1)++rest,c0::chs,[]⟩→TS Fz 102 [] H0 X ε' (Sx.ofF [0,8,9,11,46,47,48] [.int .i64 n,chS c0, .vec 0 n, .ptr 1 [] 0,dEs.emb l, .int .i64 l.length, .int .i64 i] .nil) [.vec 54 1 (chs.map chS), .blk 66 (dKp.emb (runK l (i+1))), .blk 59 (dEv.emb (l.getD i dEv.dft))] a' x'→
    TW Try.prog true Fz (mainSes Try.prog Fz (fanR n l) End) qall tfk 6 (.jc j6_18) (fun e a' s' x'=>match e with
     | .normal=> ∃ k',k'<k+1∧EInv Fz H0 X n l rest k' a' s' x'
     | .exit 2=>EInv Fz H0 X n l rest 0 a' s' x'
     |_=>False) a' s' x':=by
   rintro ε' a' s' x' rfl h'
   have h7:=h'.sel [0,1] (by simp)
   have e1:selM [0,1] [Res.vec 54 1 (chs.map chS), .blk 66 (dKp.emb (runK l (i+1))), .blk 59 (dEv.emb (l.getD i dEv.dft))]=[.vec 54 1 (chs.map chS), .blk 66 (dKp.emb (runK l (i+1)))]:=by
    simp only [selM,List.map_cons,List.map_nil,memAt,List.getD_cons_zero,List.getD_cons_succ,renR,renL_ch,dKp.ren]
   have e2:renF (selI [0,1]) (Sx.ofF [0,8,9,11,46,47,48] [.int .i64 n,chS c0, .vec 0 n, .ptr 1 [] 0,dEs.emb l, .int .i64 l.length, .int .i64 i] .nil)=Sx.ofF [0,8,9,11,46,47,48] [.int .i64 n,chS c0, .vec 0 n, .ptr 1 [] 0,dEs.emb l, .int .i64 l.length, .int .i64 i] .nil:=by
    simp [Sx.ofF,renF,Sx.ren,renI,selI,dEs.ren,List.idxOf_cons]
   rw [e1,e2] at h7
   refine tw_jcN h7 FH.none_ok (by rfl) [0,8,9,11,46,47,48] [.int .i64 n,chS c0, .vec 0 n, .ptr 1 [] 0,dEs.emb l, .int .i64 l.length, .int .i64 (i+1:Nat)] [.vec 54 1 (chs.map chS), .blk 66 (dKp.emb (runK l (i+1)))] ?_ fun ε11 a11 x11 h11 _=>⟨k,by omega,i+1,c0,chs,ε11,by omega,hchs,rfl,h11⟩
   unfold j6_18
   simp only [go_sem,seval,hw]
  cases ha:isAcc (l.getD i dEv.dft) with
  |false=>
   have ha':=ha
   simp only [isAcc,Bool.or_eq_false_iff,decide_eq_false_iff_not] at ha'
   have k1:=ha'.1
   have k2:=ha'.2
   have hrk:runK l (i+1)=syncK (runK l i) (l.getD i dEv.dft):=by rw [runK,if_neg (by rw [ha];simp)]
   refine tw_seq (tw_jcN h3 FH.none_ok (by rfl) [0,8,9,11,12,13,46,47,48,60] [.int .i64 n,chS c0, .vec 0 n, .ptr 1 [] 0, .int .i64 i, .ptr 2 [] 0,dEs.emb l, .int .i64 l.length, .int .i64 i, .bool false] [.vec 54 1 (chs.map chS), .blk 66 (dKp.emb (runK l i)), .blk 59 (dEv.emb (l.getD i dEv.dft))] ?_ fun ε4 a4 x4 h4 _=> ?_)
   ·unfold j6_16
    simp only [go_sem,seval,k1,k2]
   refine tw_cond h4 (t:=false) rfl ?_
   refine tw_jcN h4 Gev_ok (by rfl) [0,8,9,11,46,47,48] [.int .i64 n,chS c0, .vec 0 n, .ptr 1 [] 0,dEs.emb l, .int .i64 l.length, .int .i64 i] [.vec 54 1 (chs.map chS), .blk 66 (dKp.emb (runK l (i+1))), .blk 59 (dEv.emb (l.getD i dEv.dft))] ?_ fun ε5 a5 x5 h5 _=>next ε5 a5 _ x5 ?_ h5
   ·rw [hrk]
    unfold j6_17
    simp only [go_sem,seval,Gev_eq,hev]
   ·rw [sendA,if_neg (by rw [ha];simp),List.nil_append]
  |true=>
   have ha':=ha
   simp only [isAcc,Bool.or_eq_true,decide_eq_true_eq] at ha'
   have hrk:runK l (i+1)=runK l i:=by rw [runK,if_pos ha]
   have hb60:(decide ((l.getD i dEv.dft).kind=1)||decide ((l.getD i dEv.dft).kind=2))=true:=by
    rcases ha' with ha'|ha'<;>rw [ha']<;>decide
   refine tw_seq (tw_jcN h3 FH.none_ok (by rfl) [0,8,9,11,12,13,46,47,48,60] [.int .i64 n,chS c0, .vec 0 n, .ptr 1 [] 0, .int .i64 i, .ptr 2 [] 0,dEs.emb l, .int .i64 l.length, .int .i64 i, .bool true] [.vec 54 1 (chs.map chS), .blk 66 (dKp.emb (runK l i)), .blk 59 (dEv.emb (l.getD i dEv.dft))] ?_ fun ε4 a4 x4 h4 _=> ?_)
   ·unfold j6_16
    simp only [go_sem,seval,hb60]
   refine tw_cond h4 (t:=true) rfl ?_
   have hrem:Int.tmod (o:Int) (n:Int)=((o%n:Nat):Int):=by simp [Int.tmod]
   have hlt:o%n<n:=Nat.mod_lt _ (by omega)
   have hget:(chs.map chS).getD (o%n) .junk=chS (chs.getD (o%n) 0):=by simp [List.getD,hchs,hlt]
   refine tw_dreg h4 FH.none_ok (by rfl) [0,8,9,11,46,47,48,67,77] [.int .i64 n,chS c0, .vec 0 n, .ptr 1 [] 0,dEs.emb l, .int .i64 l.length, .int .i64 i,chS (chs.getD (o%n) 0),mS (msgOf l i)] [.vec 54 1 (chs.map chS), .blk 66 (dKp.emb (runK l i)), .blk 59 (dEv.emb (l.getD i dEv.dft))] ?_ fun ε5 a5 x5 h5 _ o5 ho5 hd5=> ?_
   ·unfold mS msgOf
    simp only [go_sem,seval,hb60,ho,ht,ht6,hrem,hget,hchs]
    exact ⟨by omega,⟨by omega,by omega⟩,hlt,by omega,by omega⟩
   ·have hs:sendA n l (k+1) i++rest= .send (o%n) (mV (msgOf l i))::(sendA n l k (i+1)++rest):=by
     rw [sendA,if_pos ha,ho,Int.toNat_natCast];rfl
    rw [hs]
    refine OpT.mono ?_ (ts_say (j:=o%n) (cs:=c0::chs) (v:=mV (msgOf l i)) h5 ho5 hd5 rfl (by rw [List.getElem?_cons_succ,List.getD,List.getElem?_eq_getElem (by omega)];rfl) fun w hw=>mS_val hw)
    rintro a6 s6 x6 ⟨e6,h6⟩
    refine next ε5 a6 s6 x6 e6 ?_
    rw [hrk]
    exact h6.ofN (by simp only [go_sem,seval])
def CInv (Fz:Nat→Prop) (H0 X:Nat→Option Obj) (n:Nat) (rest:List MAct) (M:List Res) (k:Nat) (a:Act) (s:MS) (x:OW):Prop:=
 ∃ (j c0:Nat) (chs:List Nat) (ε:Env),j+k=n∧chs.length=n∧s=⟨shutA k j++rest,c0::chs,[]⟩∧
  TS Fz 102 [] H0 X ε (Sx.ofF [8,9,14,82,83,84] [chS c0, .vec 0 n, .vec 1 0, .vec 0 n, .int .i64 n, .int .i64 j] .nil) [.vec 54 1 (chs.map chS), .vec 32 3 []] a x
theorem cl_round (hn:n≤8) {rest:List MAct} {M:List Res} (k:Nat) (a:Act) (s:MS) (x:OW) (h:CInv Fz H0 X n rest M k a s x):
  TW Try.prog true Fz (mainSes Try.prog Fz (fanR n l) End) qall tfk 6 j6_26 (fun e a' s' x'=>match e with
   | .normal=> ∃ k',k'<k∧CInv Fz H0 X n rest M k' a' s' x'
   | .exit 4=>CInv Fz H0 X n rest M 0 a' s' x'
   |_=>False) a s x:=by
 obtain ⟨j,c0,chs,ε,hjk,hchs,rfl,hT⟩:=h
 unfold j6_26
 cases k with
 |zero=>
  have hj:¬ (j:Int)<n:=by omega
  refine tw_seq (tw_jcN hT FH.none_ok (by rfl) [8,9,14,82,83,84,85] [chS c0, .vec 0 n, .vec 1 0, .vec 0 n, .int .i64 n, .int .i64 j, .bool false] [.vec 54 1 (chs.map chS), .vec 32 3 []] ?_ fun ε1 a1 x1 h1 _=> ?_)
  ·unfold j6_22
   simp only [go_sem,seval,hj]
  refine tw_seq (tw_jcX h1 FH.none_ok (by rfl) 4 [8,9,14,82,83,84] [chS c0, .vec 0 n, .vec 1 0, .vec 0 n, .int .i64 n, .int .i64 j] [.vec 54 1 (chs.map chS), .vec 32 3 []] ?_ fun ε2 a2 x2 h2 _=>⟨j,c0,chs,ε2,hjk,hchs,rfl,h2⟩)
  unfold j6_23
  simp only [go_sem,seval]
 |succ k=>
  have hj:(j:Int)<n:=by omega
  have hjn:j<n:=by omega
  have hw:IntKind.i64.wrap ((j:Int)+1)=((j+1:Nat):Int):=IntWalk.i64_in _ (by omega)
  have hget:(chs.map chS).getD j .junk=chS (chs.getD j 0):=by simp [List.getD,hchs,hjn]
  refine tw_seq (tw_jcN hT FH.none_ok (by rfl) [8,9,14,82,83,84,85] [chS c0, .vec 0 n, .vec 1 0, .vec 0 n, .int .i64 n, .int .i64 j, .bool true] [.vec 54 1 (chs.map chS), .vec 32 3 []] ?_ fun ε1 a1 x1 h1 _=> ?_)
  ·unfold j6_22
   simp only [go_sem,seval,hj]
  refine tw_seq (tw_jcN h1 FH.none_ok (by rfl) [8,9,14,82,83,84] [chS c0, .vec 0 n, .vec 1 0, .vec 0 n, .int .i64 n, .int .i64 j] [.vec 54 1 (chs.map chS), .vec 32 3 []] ?_ fun ε2 a2 x2 h2 _=> ?_)
  ·unfold j6_23
   simp only [go_sem,seval]
  refine tw_seq (tw_block (tw_seq (tw_jcN h2 FH.none_ok (by rfl) [8,9,14,16,82,83,84] [chS c0, .vec 0 n, .vec 1 0,chS (chs.getD j 0), .vec 0 n, .int .i64 n, .int .i64 j] [.vec 54 1 (chs.map chS), .vec 32 3 []] ?_ fun ε3 a3 x3 h3 _=> ?_)))
  ·unfold j6_24
   simp only [go_sem,seval,hj,hjn,hchs,hget]
   omega
  refine tw_regN h3 FH.none_ok (by rfl) [8,9,14,82,83,84,88] [chS c0, .vec 0 n, .vec 1 0, .vec 0 n, .int .i64 n, .int .i64 j,chS (chs.getD j 0)] [.vec 54 1 (chs.map chS), .vec 32 3 []] ?_ fun ε4 a4 x4 h4 _ o ho hd=> ?_
  ·simp only [go_sem,seval]
  obtain ⟨_,_,_,_,_,_,_,_,hnr,_⟩:=tIs_ok c6
  refine OpT.mono ?_ (ts_close (j:=j) (l:=shutA k (j+1)++rest) (cs:=c0::chs) h4 ho hd rfl (by rw [List.getElem?_cons_succ,List.getD,List.getElem?_eq_getElem (by omega)];rfl) hnr)
  rintro a5 s5 x5 ⟨rfl,h5⟩
  refine Behind.ofN h5 FH.none_ok (by rfl) [8,9,14,82,83,84] [chS c0, .vec 0 n, .vec 1 0, .vec 0 n, .int .i64 n, .int .i64 j] [.vec 54 1 (chs.map chS), .vec 32 3 []] ?_ fun ε6 a6 x6 h6 _=> ?_
  ·simp only [go_sem,seval]
  refine tw_jcN h6 FH.none_ok (by rfl) [8,9,14,82,83,84] [chS c0, .vec 0 n, .vec 1 0, .vec 0 n, .int .i64 n, .int .i64 (j+1:Nat)] [.vec 54 1 (chs.map chS), .vec 32 3 []] ?_ fun ε7 a7 x7 h7 _=>⟨k,by omega,j+1,c0,chs,ε7,by omega,hchs,rfl,h7⟩
  unfold j6_25
  simp only [go_sem,seval,hw]
theorem hRun_len:∀ (ms:List Ms) (f:Int→Cl),(hRun f ms).length≤ms.length
 |[],_=>Nat.le_refl _
 |x::ms,f=>by
  have:=hRun_len ms (hStep f x)
  have h1:(hFl f x).length≤1:=by unfold hFl;split<;>simp
  rw [hRun,List.length_append,List.length_cons];omega
theorem all_len (hlen:∀ j,(ofH n j (allM l l.length)).length≤1000):∀ got:List Nat,(got.flatMap (flH n l)).length≤got.length*1000
 |[]=>by simp
 |g::r=>by
  have h1:=all_len hlen r
  have h2:=hRun_len (ofH n g (allM l l.length)) (fun _=>cl0)
  have h3:=hlen g
  rw [List.flatMap_cons,List.length_append,List.length_cons]
  unfold flH
  unfold flH at h1
  omega
theorem killL_fl (i:Nat):∀ l:List Fl,killL i (l.map dFl.emb)=l.map dFl.emb
 |[]=>rfl
 |x::l=>by
  have:=killL_fl i l
  simp only [List.map_cons,killL,this]
  rfl
def RInv (Fz:Nat→Prop) (H0 X:Nat→Option Obj) (n:Nat) (l:List Ev) (k:Nat) (a:Act) (s:MS) (x:OW):Prop:=
 ∃ (c0:Nat) (chs got:List Nat) (ε:Env),got.length+k=n∧got.Nodup∧(∀ g∈got,g<n)∧s=⟨recvA k,c0::chs,got⟩∧
  TS Fz 102 [] H0 X ε (Sx.ofF [8,14,91,92] [chS c0, .vec 0 (got.flatMap (flH n l)).length, .int .i64 n, .int .i64 got.length] .nil) [.vec 32 3 ((got.flatMap (flH n l)).map dFl.emb)] a x
theorem zFlags (w:World):(zeroValue 23).run Try.prog w= .ok (.slice none 0 0) w:=by kernel_rfl
theorem rc_round (hn:n≤8) (hlen:∀ j,(ofH n j (allM l l.length)).length≤1000) (k:Nat) (a:Act) (s:MS) (x:OW) (h:RInv Fz H0 X n l k a s x):
  TW Try.prog true Fz (mainSes Try.prog Fz (fanR n l) End) qall tfk 6 j6_31 (fun e a' s' x'=>match e with
   | .normal=> ∃ k',k'<k∧RInv Fz H0 X n l k' a' s' x'
   | .exit 6=>RInv Fz H0 X n l 0 a' s' x'
   |_=>False) a s x:=by
 obtain ⟨c0,chs,got,ε,hgk,hnd,hgn,rfl,hT⟩:=h
 unfold j6_31
 generalize hall:got.flatMap (flH n l)=all at hT
 cases k with
 |zero=>
  have hj:¬ (got.length:Int)<n:=by omega
  refine tw_seq (tw_jcN hT FH.none_ok (by rfl) [8,14,91,92,93] [chS c0, .vec 0 all.length, .int .i64 n, .int .i64 got.length, .bool false] [.vec 32 3 (all.map dFl.emb)] ?_ fun ε1 a1 x1 h1 _=> ?_)
  ·unfold j6_28
   simp only [go_sem,seval,hj]
  refine tw_seq (tw_jcX h1 FH.none_ok (by rfl) 6 [8,14,91,92] [chS c0, .vec 0 all.length, .int .i64 n, .int .i64 got.length] [.vec 32 3 (all.map dFl.emb)] ?_ fun ε2 a2 x2 h2 _=>⟨c0,chs,got,ε2,hgk,hnd,hgn,rfl,by rw [hall];exact h2⟩)
  unfold j6_29
  simp only [go_sem,seval]
 |succ k=>
  have hj:(got.length:Int)<n:=by omega
  have hw:IntKind.i64.wrap ((got.length:Int)+1)=((got.length+1:Nat):Int):=IntWalk.i64_in _ (by omega)
  refine tw_seq (tw_jcN hT FH.none_ok (by rfl) [8,14,91,92,93] [chS c0, .vec 0 all.length, .int .i64 n, .int .i64 got.length, .bool true] [.vec 32 3 (all.map dFl.emb)] ?_ fun ε1 a1 x1 h1 _=> ?_)
  ·unfold j6_28
   simp only [go_sem,seval,hj]
  refine tw_seq (tw_jcN h1 FH.none_ok (by rfl) [8,14,91,92] [chS c0, .vec 0 all.length, .int .i64 n, .int .i64 got.length] [.vec 32 3 (all.map dFl.emb)] ?_ fun ε2 a2 x2 h2 _=> ?_)
  ·unfold j6_29
   simp only [go_sem,seval]
  refine tw_seq (tw_block (tw_regN h2 FH.none_ok (by rfl) [8,91,92,94,95] [chS c0, .int .i64 n, .int .i64 got.length, .vec 0 all.length,chS c0] [.vec 32 3 (all.map dFl.emb)] ?_ fun ε3 a3 x3 h3 _ o ho hd=> ?_))
  ·simp only [go_sem,seval]
  refine OpT.mono ?_ (ts_recv (cs:=c0::chs) (l:=recvA k) (K:=fun y m' j=>y= .vec 1 (flH n l j).length∧m'=[.vec 32 3 (all.map dFl.emb), .vec 32 3 ((flH n l j).map dFl.emb)]) h3 ho hd (by decide) rfl rfl Try.underlying52 zFlags fun x' v j B k1 k2 hout hBO hB hT'=> ?_)
  case refine_2=>
   obtain ⟨xs,o1,o2,o3⟩:=(hout:outP (flH n l j) v B x'.w)
   have h4:=hT'.vec (T:=32) (w:=3) (l:=(flH n l j).map dFl.emb) (v:=v) (xs:=xs) o1 (fun k hk=>fl_env hk (o2 k hk)) (fun b hb=>by
    have hBb:=(o3 b).2 hb
    exact ⟨hBO b hBb,hB b hBb⟩)
   refine ⟨_,_,_,⟨rfl,rfl⟩,h4,⟨[v],?_,rfl⟩⟩
   have hvv:(ε3.more 0 v).vv 1=v:=by
    have:(1:Nat)=ε3.n:=by rw [h3.g.good.n];rfl
    simp [Env.more,this]
   refine ⟨by rw [h4.g.good.n];simp,?_,by rw [hvv]⟩
   rw [hvv]
   rcases o1.2 with ⟨e1,e2⟩|⟨g,cap,cur,e1,_,_,e4,_⟩
   ·exact .inl ⟨e1,by simpa using e2⟩
   ·exact .inr ⟨g,cap,by rw [e1];simp,by simpa using e4⟩
  rintro a4 s4 x4 ⟨j,ε4,y,m',k1,k2,⟨rfl,rfl⟩,rfl,h4⟩
  have hal:=all_len (n:=n) (l:=l) hlen got
  rw [hall] at hal
  have hfj:(flH n l j).length≤1000:=Nat.le_trans (hRun_len _ _) (hlen j)
  have hgl:got.length≤8:=by omega
  have hsz:(all.length+(flH n l j).length)*24≤140737488355328:=by omega
  refine Behind.ofN h4 FH.none_ok (by rfl) [8,14,91,92] [chS c0, .vec 0 (all.length+(flH n l j).length), .int .i64 n, .int .i64 got.length] [.vec 32 3 ((all++flH n l j).map dFl.emb), .vec 32 3 ((flH n l j).map dFl.emb)] ?_ fun ε5 a5 x5 h5 _=> ?_
  ·simp only [go_sem,seval,killL_fl,List.map_append]
   exact hsz
  have h6:=h5.sel [0] (by simp)
  have e1:selM [0] [Res.vec 32 3 ((all++flH n l j).map dFl.emb), .vec 32 3 ((flH n l j).map dFl.emb)]=[.vec 32 3 ((all++flH n l j).map dFl.emb)]:=by
   simp only [selM,List.map_cons,List.map_nil,memAt,List.getD_cons_zero,renR,renL_fl]
  have e2:renF (selI [0]) (Sx.ofF [8,14,91,92] [chS c0, .vec 0 (all.length+(flH n l j).length), .int .i64 n, .int .i64 got.length] .nil)=Sx.ofF [8,14,91,92] [chS c0, .vec 0 (all.length+(flH n l j).length), .int .i64 n, .int .i64 got.length] .nil:=by
   simp [Sx.ofF,renF,Sx.ren,renI,selI]
  rw [e1,e2] at h6
  have hall':(got++[j]).flatMap (flH n l)=all++flH n l j:=by rw [List.flatMap_append,hall];simp
  refine tw_jcN h6 FH.none_ok (by rfl) [8,14,91,92] [chS c0, .vec 0 (all++flH n l j).length, .int .i64 n, .int .i64 (got++[j]).length] [.vec 32 3 ((all++flH n l j).map dFl.emb)] ?_ fun ε7 a7 x7 h7 _=>⟨k,by omega,c0,chs,got++[j],ε7,by simp;omega,?_,fun g hg=> ?_,rfl,by rw [hall'];exact h7⟩
  ·unfold j6_30
   simp only [go_sem,seval,hw,List.length_append,List.length_cons,List.length_nil]
  ·exact List.nodup_append.2 ⟨hnd,by simp,fun u hu v hv e=>by
    simp only [List.mem_singleton] at hv
    subst hv e
    exact k2 hu⟩
  ·rcases List.mem_append.1 hg with hg|hg
   ·exact hgn g hg
   ·simp only [List.mem_singleton] at hg
    subst hg
    exact k1
end
end Go.Proofs.Ytpajfggdnobheaa.Sp
