/- A part of the proof of StripeRuns. Conditions: none. -/
import Derived.Test.YtpajfggdnobheaaSrt3
import Derived.Sort.LotD3
set_option linter.unusedVariables false
set_option linter.unusedSimpArgs false
section
set_option maxRecDepth 100000
open Go Go.Sx Go.Proofs
namespace Go.Proofs.Ytpajfggdnobheaa.Srt
variable {main:Bool} {Fz:Nat→Prop}
open Go.Proofs.Ytpajfggdnobheaa.D
def j84_1:JC:=
 (.seq (.seq (.dops<|
 qo 19 (.mv (.t 9))<|
 qo 20 (.mv (.t 2))<|
 qo 21 (.cmp .lss (.t 19) (.t 20))<|
 qo 22 (.mv (.t 21))<|
 .prune [22,3,0,9,2,1,10]<|
 .sc false 36 22 (qo 23 (.mv (.t 3))<|
 qo 24 (.mv (.t 0))<|
 qo 25 (.mv (.t 9))<|
 qo 26 (.is 3 (.t 24) (.t 25))<|
 eo 27 (.load 3 true (.t 26))<|
 qo 28 (.mv (.t 0))<|
 qo 29 (.mv (.t 9))<|
 qo 30 (.ar .sub (.t 29) (I 1))<|
 qo 31 (.is 3 (.t 28) (.t 30))<|
 eo 32 (.load 3 true (.t 31))<|
 eo 33 (.callv (.t 23) [(.t 27),(.t 32)])<|
 qo 34 (.cmp .lss (.t 33) (I 0))<|
 qo 35 (.nt (.t 34))<|
 .nil) (.t 35)<|
 .nil)
 (.cond (.t 36)
 .skip
 (.exit 2)))
 (.prune [9,2,3,0,1,10] (.block 3 (.ops<|
 qo 37 (.mv (.t 9))<|
 qo 38 (.ar .add (.t 37) (I 1))<|
 qo 9 (.mv (.t 38))<|
 .nil))))
def j84_2:JC:=
 (.seq (.seq (.ops<|
 qo 68 (.mv (.t 11))<|
 qo 69 (.cmp .geq (.t 68) (I 1))<|
 .nil)
 (.cond (.t 69)
 .skip
 (.exit 4)))
 (.seq (.block 5 (.seq (.seq (.dops<|
 qo 72 (.mv (.t 3))<|
 qo 73 (.mv (.t 0))<|
 qo 74 (.mv (.t 11))<|
 qo 75 (.is 3 (.t 73) (.t 74))<|
 .prune [75,0,11,72,2,9,3,10,1]<|
 eo 76 (.load 3 true (.t 75))<|
 qo 77 (.mv (.t 0))<|
 qo 78 (.mv (.t 11))<|
 qo 79 (.ar .sub (.t 78) (I 1))<|
 qo 80 (.is 3 (.t 77) (.t 79))<|
 .prune [80,72,76,2,9,3,0,10,1,11]<|
 eo 81 (.load 3 true (.t 80))<|
 eo 82 (.callv (.t 72) [(.t 76),(.t 81)])<|
 qo 83 (.cmp .lss (.t 82) (I 0))<|
 qo 84 (.nt (.t 83))<|
 .nil)
 (.cond (.t 84)
 (.exit 4)
 .skip))
 (.prune [0,11,3,2,9,10,1] (.dops<|
 qo 85 (.mv (.t 0))<|
 qo 86 (.mv (.t 11))<|
 qo 87 (.mv (.t 0))<|
 qo 88 (.mv (.t 11))<|
 qo 89 (.ar .sub (.t 88) (I 1))<|
 qo 90 (.mv (.t 0))<|
 qo 91 (.mv (.t 11))<|
 qo 92 (.ar .sub (.t 91) (I 1))<|
 qo 93 (.is 3 (.t 90) (.t 92))<|
 .prune [93,0,11,85,86,87,89,3,2,9,10,1]<|
 eo 94 (.load 3 true (.t 93))<|
 qo 95 (.mv (.t 0))<|
 qo 96 (.mv (.t 11))<|
 qo 97 (.is 3 (.t 95) (.t 96))<|
 .prune [97,85,86,94,87,89,11,3,0,2,9,10,1]<|
 eo 98 (.load 3 true (.t 97))<|
 qo 99 (.is 3 (.t 85) (.t 86))<|
 .prune [99,94,87,89,98,11,3,0,2,9,10,1]<|
 en (.store 3 (.t 99) (.t 94))<|
 qo 100 (.is 3 (.t 87) (.t 89))<|
 en (.store 3 (.t 100) (.t 98))<|
 .nil))))
 (.prune [11,3,0,2,9,10,1] (.ops<|
 qo 70 (.mv (.t 11))<|
 qo 71 (.ar .sub (.t 70) (I 1))<|
 qo 11 (.mv (.t 71))<|
 .nil))))
def j84_3:JC:=
 (.seq (.seq (.ops<|
 qo 107 (.mv (.t 12))<|
 qo 108 (.mv (.t 2))<|
 qo 109 (.cmp .lss (.t 107) (.t 108))<|
 .nil)
 (.cond (.t 109)
 .skip
 (.exit 6)))
 (.prune [3,0,12,10,9,2,1] (.seq (.block 7 (.seq (.seq (.dops<|
 qo 112 (.mv (.t 3))<|
 qo 113 (.mv (.t 0))<|
 qo 114 (.mv (.t 12))<|
 qo 115 (.is 3 (.t 113) (.t 114))<|
 eo 116 (.load 3 true (.t 115))<|
 .prune [0,12,112,116,10,9,2,3,1]<|
 qo 117 (.mv (.t 0))<|
 qo 118 (.mv (.t 12))<|
 qo 119 (.ar .sub (.t 118) (I 1))<|
 qo 120 (.is 3 (.t 117) (.t 119))<|
 .prune [120,112,116,10,9,2,3,0,1,12]<|
 eo 121 (.load 3 true (.t 120))<|
 eo 122 (.callv (.t 112) [(.t 116),(.t 121)])<|
 qo 123 (.cmp .lss (.t 122) (I 0))<|
 qo 124 (.nt (.t 123))<|
 .nil)
 (.cond (.t 124)
 (.exit 6)
 .skip))
 (.prune [0,12,2,3,10,9,1] (.dops<|
 qo 125 (.mv (.t 0))<|
 qo 126 (.mv (.t 12))<|
 qo 127 (.mv (.t 0))<|
 qo 128 (.mv (.t 12))<|
 qo 129 (.ar .sub (.t 128) (I 1))<|
 qo 130 (.mv (.t 0))<|
 qo 131 (.mv (.t 12))<|
 qo 132 (.ar .sub (.t 131) (I 1))<|
 qo 133 (.is 3 (.t 130) (.t 132))<|
 .prune [133,0,12,125,126,127,129,2,3,10,9,1]<|
 eo 134 (.load 3 true (.t 133))<|
 qo 135 (.mv (.t 0))<|
 qo 136 (.mv (.t 12))<|
 qo 137 (.is 3 (.t 135) (.t 136))<|
 .prune [137,125,126,134,127,129,12,2,3,0,10,9,1]<|
 eo 138 (.load 3 true (.t 137))<|
 qo 139 (.is 3 (.t 125) (.t 126))<|
 .prune [139,134,127,129,138,12,2,3,0,10,9,1]<|
 en (.store 3 (.t 139) (.t 134))<|
 qo 140 (.is 3 (.t 127) (.t 129))<|
 en (.store 3 (.t 140) (.t 138))<|
 .nil))))
 (.prune [12,2,3,0,10,9,1] (.ops<|
 qo 110 (.mv (.t 12))<|
 qo 111 (.ar .add (.t 110) (I 1))<|
 qo 12 (.mv (.t 111))<|
 .nil)))))
def j84_4:JC:=
 (.prune [2,9,3,0,10,1] (.seq (.ops<|
 qo 101 (.mv (.t 2))<|
 qo 102 (.mv (.t 9))<|
 qo 103 (.ar .sub (.t 101) (.t 102))<|
 qo 104 (.cmp .geq (.t 103) (I 2))<|
 .nil)
 (.prune [104,9,2,3,0,10,1] (.cond (.t 104)
 (.seq (.ops<|
 qo 105 (.mv (.t 9))<|
 qo 106 (.ar .add (.t 105) (I 1))<|
 qo 12 (.mv (.t 106))<|
 .nil)
 (.prune [12,2,3,0,10,9,1] (.block 6 (.loop [2,3,0,10,9,1] [12] j84_3))))
 .skip))))
def j84_5:JC:=
 (.prune [9,2,1,0,3,10] (.seq (.seq (.ops<|
 qo 39 (.mv (.t 9))<|
 qo 40 (.mv (.t 2))<|
 qo 41 (.cmp .eql (.t 39) (.t 40))<|
 .nil)
 (.cond (.t 41)
 (.seq (.ops<|
 qo 8 (.mv (B true))<|
 .nil)
 .ret)
 .skip))
 (.prune [2,1,0,9,3,10] (.seq (.seq (.ops<|
 qo 42 (.mv (.t 2))<|
 qo 43 (.mv (.t 1))<|
 qo 44 (.ar .sub (.t 42) (.t 43))<|
 qo 45 (.cmp .lss (.t 44) (I 50))<|
 .nil)
 (.prune [45,0,9,1,3,2,10] (.cond (.t 45)
 (.seq (.ops<|
 qo 8 (.mv (B false))<|
 .nil)
 .ret)
 .skip)))
 (.prune [0,9,1,3,2,10] (.seq (.dops<|
 qo 46 (.mv (.t 0))<|
 qo 47 (.mv (.t 9))<|
 qo 48 (.mv (.t 0))<|
 qo 49 (.mv (.t 9))<|
 qo 50 (.ar .sub (.t 49) (I 1))<|
 qo 51 (.mv (.t 0))<|
 qo 52 (.mv (.t 9))<|
 qo 53 (.ar .sub (.t 52) (I 1))<|
 qo 54 (.is 3 (.t 51) (.t 53))<|
 .prune [54,0,9,46,47,48,50,1,3,2,10]<|
 eo 55 (.load 3 true (.t 54))<|
 qo 56 (.mv (.t 0))<|
 qo 57 (.mv (.t 9))<|
 qo 58 (.is 3 (.t 56) (.t 57))<|
 .prune [58,46,47,55,48,50,9,1,3,0,2,10]<|
 eo 59 (.load 3 true (.t 58))<|
 qo 60 (.is 3 (.t 46) (.t 47))<|
 .prune [60,55,48,50,59,9,1,3,0,2,10]<|
 en (.store 3 (.t 60) (.t 55))<|
 qo 61 (.is 3 (.t 48) (.t 50))<|
 en (.store 3 (.t 61) (.t 59))<|
 .nil)
 (.prune [9,1,3,0,2,10] (.seq (.seq (.ops<|
 qo 62 (.mv (.t 9))<|
 qo 63 (.mv (.t 1))<|
 qo 64 (.ar .sub (.t 62) (.t 63))<|
 qo 65 (.cmp .geq (.t 64) (I 2))<|
 .nil)
 (.prune [65,9,3,0,2,10,1] (.cond (.t 65)
 (.seq (.ops<|
 qo 66 (.mv (.t 9))<|
 qo 67 (.ar .sub (.t 66) (I 1))<|
 qo 11 (.mv (.t 67))<|
 .nil)
 (.prune [11,3,0,2,9,10,1] (.block 4 (.loop [3,0,2,9,10,1] [11] j84_2))))
 .skip)))
 j84_4))))))))
def j84_6:JC:=
 (.prune [10,9,2,3,0,1] (.ops<|
 qo 17 (.mv (.t 10))<|
 qo 18 (.ar .add (.t 17) (I 1))<|
 qo 10 (.mv (.t 18))<|
 .nil))
def j84_7:JC:=
 (.seq (.seq (.ops<|
 qo 15 (.mv (.t 10))<|
 qo 16 (.cmp .lss (.t 15) (I 5))<|
 .nil)
 (.cond (.t 16)
 .skip
 (.exit 0)))
 (.seq (.block 1 (.seq (.block 2 (.loop [2,3,0,1,10] [9] j84_1))
 j84_5))
 j84_6))
def j84_8:JC:=
 (.prune [] (.seq (.ops<|
 qo 8 (.mv (B false))<|
 .nil)
 .ret))
def j84:JC:=
 (.seq (.ops<|
 qo 8 (.mv (B false))<|
 .nil)
 (.seq (.ops<|
 qo 13 (.mv (.t 1))<|
 qo 14 (.ar .add (.t 13) (I 1))<|
 qo 9 (.mv (.t 14))<|
 .nil)
 (.seq (.seq (.ops<|
 qo 10 (.mv (I 0))<|
 .nil)
 (.block 0 (.loop [2,3,0,1] [10,9] j84_7)))
 j84_8)))
theorem c84:fnIs Try.prog qall 84=some (j84.flat,[.tmp 8],141):=by kernel_rfl
theorem w84:j84.wf 141=true:=by kernel_rfl
def L7 (τ:Fr) (st i a b n:Nat):Prop:=Sx.look 10 τ= .int .i64 st∧Sx.look 9 τ= .int .i64 i∧Sx.look 2 τ= .int .i64 b∧Sx.look 3 τ=cF∧Sx.look 0 τ= .vec 0 n∧Sx.look 1 τ= .int .i64 a
theorem shup_size (b:Nat):∀ (k j:Nat) (d:Array Fk),b - j=k→(Sort.shiftUp lt b j d).size=d.size
 |0,j,d,h=>by rw [Sort.shiftUp.eq_def,if_neg (by omega)]
 |k+1,j,d,h=>by
  rw [Sort.shiftUp.eq_def,if_pos (by omega)]
  split
  ·rfl
  ·rw [shup_size b k _ _ (by omega),swp_size]
theorem shdn_size:∀ (j:Nat) (d:Array Fk),(Sort.shiftDown lt j d).size=d.size
 |0,d=>rfl
 |j+1,d=>by
  rw [Sort.shiftDown]
  split
  ·rfl
  ·rw [shdn_size j,swp_size]
theorem rk4 (n0:Nat) (hn:n0=1) (Y:Array Fk) (st i a b n:Nat) (hib:i<b) (hi:0<i) (hb:b≤n) (hn2:n=Y.size) (hX:n<1000000) (τ:Fr) (h:L7 τ st i a b n) {Q:Ex→Fr→List Res→Prop}
  (hq:∀ τ',L7 τ' st i a b n→Q .norm τ' [mv (if b - i≥2 then Sort.shiftUp lt b (i+1) Y else Y)]):
  JC.wp Gc n0 j84_4 Q τ [mv Y]:=by
 subst hn
 obtain ⟨h10,h9,h2,h3,h0,h1⟩:=h
 have w1:IntKind.i64.wrap ((b:Int) - i)=((b - i:Nat):Int):=by rw [IntWalk.i64_in _ (by omega)];omega
 have w2:IntKind.i64.wrap ((i:Int)+1)=((i+1:Nat):Int):=IntWalk.i64_in _ (by omega)
 by_cases hge:b - i≥2
 ·have hge':(2:Int)≤((b - i:Nat):Int):=by omega
  rw [if_pos hge] at hq
  unfold j84_4
  simp only [go_sem,seval,h10,h9,h2,h3,h0,h1,w1,w2,hge',mv]
  refine loopF (Nat×Array Fk) (fun s=>[.int .i64 s.1]) (fun s=>[mv s.2]) (fun s=>(i<s.1∧s.1≤b)∧s.2.size=n∧Sort.shiftUp lt b s.1 s.2=Sort.shiftUp lt b (i+1) Y) (fun s=>b - s.1) (i+1,Y) ⟨⟨by simp only;omega,by simp only;omega⟩,hn2.symm,rfl⟩ ?_ rfl ?_
  ·simp only [go_sem,seval]
  rintro ⟨j,Z⟩ ⟨⟨k0,k1⟩,k2,k3⟩
  simp only at k0 k1 k2 k3
  by_cases hjb:j<b
  ·have r1:j<n:=by omega
   have r2:j - 1<n:=by omega
   have w3:IntKind.i64.wrap ((j:Int) - 1)=((j - 1:Nat):Int):=by rw [IntWalk.i64_in _ (by omega)];omega
   have w4:IntKind.i64.wrap ((j:Int)+1)=((j+1:Nat):Int):=IntWalk.i64_in _ (by omega)
   unfold j84_3
   simp only [go_sem,seval,h10,h9,h2,h3,h0,h1,hjb,w3,w4,Gc_eq,mv,rd,r1,r2,k2,wr,wdz,wd_fk,agg_fk,swp_fold,lt_cmp,Int.ofNat_lt,Int.ofNat_le,Int.natCast_nonneg]
   refine ⟨fun hl=> ?_,fun hl=> ?_⟩
   ·have e:Sort.shiftUp lt b (i+1) Y=Z:=by rw [← k3,Sort.shiftUp.eq_def,if_pos hjb,if_pos (nb1 hl)]
    rw [e] at hq
    refine hq _ ?_
    simp only [go_sem,seval,L7,h10,h9,h2,h3,h0,h1]
   ·refine ⟨(j+1,Sort.swp Z j (j - 1)),⟨⟨by simp only;omega,by simp only;omega⟩,by rw [swp_size];exact k2,?_⟩,by simp only;omega,rfl,rfl⟩
    rw [← k3,Sort.shiftUp.eq_def lt b j,if_pos hjb,if_neg (nb2 hl)]
  ·unfold j84_3
   simp only [go_sem,seval,h10,h9,h2,h3,h0,h1,hjb,mv,Int.ofNat_lt,Int.ofNat_le,Int.natCast_nonneg]
   have e:Sort.shiftUp lt b (i+1) Y=Z:=by rw [← k3,Sort.shiftUp.eq_def,if_neg hjb]
   rw [e] at hq
   refine hq _ ?_
   simp only [go_sem,seval,L7,h10,h9,h2,h3,h0,h1]
 ·have hge':¬ (2:Int)≤((b - i:Nat):Int):=by omega
  rw [if_neg hge] at hq
  unfold j84_4
  simp only [go_sem,seval,h10,h9,h2,h3,h0,h1,w1,hge',mv]
  refine hq _ ?_
  simp only [go_sem,seval,L7,h10,h9,h2,h3,h0,h1]
def stepP (a b i:Nat) (Y:Array Fk):Array Fk:=
 let d:=Sort.swp Y i (i - 1)
 let d:=if i - a≥2 then Sort.shiftDown lt (i - 1) d else d
 if b - i≥2 then Sort.shiftUp lt b (i+1) d else d
theorem rk5 (n0:Nat) (hn:n0=1) (Y:Array Fk) (st i a b n:Nat) (hib:i≤b) (hi:a<i) (hb:b≤n) (hn2:n=Y.size) (hX:n<1000000) (τ:Fr) (h:L7 τ st i a b n) {Q:Ex→Fr→List Res→Prop}
  (hx1:i=b→∀ τ',Sx.look 8 τ'= .bool true→Q .ret τ' [mv Y]) (hx2:i≠b→b - a<50→∀ τ',Sx.look 8 τ'= .bool false→Q .ret τ' [mv Y])
  (hq:i≠b→¬ b - a<50→∀ τ',L7 τ' st i a b n→Q .norm τ' [mv (stepP a b i Y)]):
  JC.wp Gc n0 j84_5 Q τ [mv Y]:=by
 subst hn
 obtain ⟨h10,h9,h2,h3,h0,h1⟩:=h
 have w1:IntKind.i64.wrap ((b:Int) - a)=((b - a:Nat):Int):=by rw [IntWalk.i64_in _ (by omega)];omega
 have w2:IntKind.i64.wrap ((i:Int) - 1)=((i - 1:Nat):Int):=by rw [IntWalk.i64_in _ (by omega)];omega
 have w3:IntKind.i64.wrap ((i:Int) - a)=((i - a:Nat):Int):=by rw [IntWalk.i64_in _ (by omega)];omega
 by_cases e:i=b
 ·have e':((i:Int)=b)=True:=by simp;omega
  unfold j84_5
  simp only [go_sem,seval,h10,h9,h2,h3,h0,h1,e',mv]
  refine hx1 e _ ?_
  simp only [go_sem,seval]
 have e':((i:Int)=b)=False:=by simp;omega
 by_cases h50:b - a<50
 ·have h50':(((b - a:Nat):Int)<50)=True:=by simp;omega
  unfold j84_5
  simp only [go_sem,seval,h10,h9,h2,h3,h0,h1,e',w1,h50',mv]
  refine hx2 e h50 _ ?_
  simp only [go_sem,seval]
 have h50':(((b - a:Nat):Int)<50)=False:=by simp;omega
 have r1:i<n:=by omega
 have r2:i - 1<n:=by omega
 have hq:=hq e h50
 simp only [stepP] at hq
 obtain ⟨Z,hZ⟩:∃ Z,Z=Sort.swp Y i (i - 1):=⟨_,rfl⟩
 have hZs:Z.size=n:=by rw [hZ,swp_size,hn2]
 by_cases hge:i - a≥2
 ·have hge':(2:Int)≤((i - a:Nat):Int):=by omega
  rw [if_pos hge] at hq
  unfold j84_5
  simp only [go_sem,seval,h10,h9,h2,h3,h0,h1,e',w1,w2,w3,h50',hge',mv,rd,r1,r2,← hn2,wr,wdz,wd_fk,agg_fk,swp_fold,Int.ofNat_lt,Int.ofNat_le,Int.natCast_nonneg]
  rw [← hZ] at hq ⊢
  clear hZ
  refine loopF (Nat×Array Fk) (fun s=>[.int .i64 s.1]) (fun s=>[mv s.2]) (fun s=>s.1<i∧s.2.size=n∧Sort.shiftDown lt s.1 s.2=Sort.shiftDown lt (i - 1) Z) (fun s=>s.1) (i - 1,Z) ⟨by simp only;omega,hZs,rfl⟩ ?_ rfl ?_
  ·simp only [go_sem,seval]
  rintro ⟨j,V⟩ ⟨k0,k2,k3⟩
  simp only at k0 k2 k3
  cases j with
  |zero=>
   unfold j84_2
   simp only [go_sem,seval,h10,h9,h2,h3,h0,h1,mv,Int.ofNat_lt,Int.ofNat_le,Int.natCast_nonneg]
   have e2:Sort.shiftDown lt (i - 1) Z=V:=by rw [← k3,Sort.shiftDown]
   rw [e2] at hq
   refine rk4 1 rfl V st i a b n (by omega) (by omega) hb k2.symm hX _ ?_ fun τ' hτ=>hq τ' hτ
   simp only [go_sem,seval,L7,h10,h9,h2,h3,h0,h1]
  |succ j=>
   have g1:(1:Int)≤((j+1:Nat):Int):=by omega
   have w4:IntKind.i64.wrap (((j+1:Nat):Int) - 1)=(j:Int):=by rw [IntWalk.i64_in _ (by omega)];omega
   have r3:j+1<n:=by omega
   have r4:j<n:=by omega
   unfold j84_2
   simp only [go_sem,seval,h10,h9,h2,h3,h0,h1,g1,w4,Gc_eq,mv,rd,r3,r4,k2,wr,wdz,wd_fk,agg_fk,swp_fold,lt_cmp,Int.ofNat_lt,Int.natCast_nonneg]
   refine ⟨fun hl=> ?_,fun hl=> ?_⟩
   ·have e2:Sort.shiftDown lt (i - 1) Z=V:=by rw [← k3,Sort.shiftDown,if_pos (nb1 hl)]
    rw [e2] at hq
    refine rk4 1 rfl V st i a b n (by omega) (by omega) hb k2.symm hX _ ?_ fun τ' hτ=>hq τ' hτ
    simp only [go_sem,seval,L7,h10,h9,h2,h3,h0,h1]
   ·refine ⟨(j,Sort.swp V (j+1) j),⟨by simp only;omega,by rw [swp_size];exact k2,?_⟩,by simp only;omega,rfl,rfl⟩
    rw [← k3,Sort.shiftDown,if_neg (nb2 hl)]
 ·have hge':¬ (2:Int)≤((i - a:Nat):Int):=by omega
  rw [if_neg hge] at hq
  unfold j84_5
  simp only [go_sem,seval,h10,h9,h2,h3,h0,h1,e',w1,w2,w3,h50',hge',mv,rd,r1,r2,← hn2,wr,wdz,wd_fk,agg_fk,swp_fold,Int.ofNat_lt,Int.ofNat_le,Int.natCast_nonneg]
  rw [← hZ] at hq ⊢
  refine rk4 1 rfl Z st i a b n (by omega) (by omega) hb hZs.symm hX _ ?_ fun τ' hτ=>hq τ' hτ
  simp only [go_sem,seval,L7,h10,h9,h2,h3,h0,h1]
theorem sorted_in (d:Array Fk) (b:Nat):∀ (k i:Nat),b - i=k→i≤b→i≤Sort.scanSorted lt d b i∧Sort.scanSorted lt d b i≤b
 |0,i,h,h2=>by
           rw [Sort.scanSorted.eq_def,if_neg];· exact ⟨Nat.le_refl _,h2⟩
           simp only [Bool.and_eq_true,decide_eq_true_eq];omega
 |k+1,i,h,h2=>by
  rw [Sort.scanSorted.eq_def]
  split
  ·have:=sorted_in d b k (i+1) (by omega) (by omega);omega
  ·exact ⟨Nat.le_refl _,h2⟩
theorem step_size {a b i:Nat} {Y:Array Fk}:(stepP a b i Y).size=Y.size:=by
 unfold stepP
 simp only
 split<;>split<;>simp only [shup_size b _ _ _ rfl,shdn_size,swp_size]
theorem pins_succ (a b s i c:Nat) (Y:Array Fk) (h:Sort.scanSorted lt Y b i=c):Sort.partialIns lt a b (s+1) i Y=if c=b then (Y,true) else if b - a<50 then (Y,false) else Sort.partialIns lt a b s c (stepP a b c Y):=by
 rw [Sort.partialIns,h];rfl
theorem f_pins (X:Array Fk) (a b:Nat) (hb:b≤X.size) (hX:X.size<1000000) (ha:a<b):
  FnOK Try.prog main Fz 84 [.vec 0 X.size, .int .i64 a, .int .i64 b,cF] [mv X]
   (.bool (Sort.partialInsertionSort lt X a b).2) [mv (Sort.partialInsertionSort lt X a b).1]:=by
 refine fn_walkF c84 w84 Gc_ok rfl ?_
 have w1:IntKind.i64.wrap ((a:Int)+1)=((a+1:Nat):Int):=IntWalk.i64_in _ (by omega)
 obtain ⟨R,hR⟩:∃ R,R=Sort.partialInsertionSort lt X a b:=⟨_,rfl⟩
 rw [← hR]
 unfold j84
 simp only [go_sem,seval,mv,w1]
 refine loopF (Nat×Nat×Array Fk) (fun s=>[.int .i64 s.1, .int .i64 s.2.1]) (fun s=>[mv s.2.2]) (fun s=>(a<s.2.1∧s.2.1≤b)∧(s.1≤5∧s.2.2.size=X.size)∧Sort.partialIns lt a b (5 - s.1) s.2.1 s.2.2=R) (fun s=>5 - s.1) (0,a+1,X) ⟨⟨by simp only;omega,by simp only;omega⟩,⟨by simp only;omega,rfl⟩,hR.symm⟩ ?_ rfl ?_
 ·simp only [go_sem,seval]
 rintro ⟨st,i,Y⟩ ⟨⟨k0,k1⟩,⟨k2,k3⟩,k4⟩
 simp only at k0 k1 k2 k3 k4
 by_cases h5:st<5
 ·have h5':((st:Int)<5)=True:=by simp;omega
  obtain ⟨c,hc⟩:∃ c,Sort.scanSorted lt Y b i=c:=⟨_,rfl⟩
  have hcb:=sorted_in Y b _ i rfl k1
  rw [hc] at hcb
  obtain ⟨s,hs⟩:∃ s,5 - st=s+1:=⟨4 - st,by omega⟩
  rw [hs,pins_succ a b s i c Y hc] at k4
  have w2:IntKind.i64.wrap ((st:Int)+1)=((st+1:Nat):Int):=IntWalk.i64_in _ (by omega)
  unfold j84_7
  simp only [go_sem,seval,h5',mv]
  refine loopF Nat (fun i=>[.int .i64 i]) (fun _=>[mv Y]) (fun i'=>(a<i'∧i'≤b)∧Sort.scanSorted lt Y b i'=c) (fun i'=>b - i') i ⟨⟨k0,k1⟩,hc⟩ ?_ rfl ?_
  ·simp only [go_sem,seval]
  rintro k ⟨⟨q0,q1⟩,q2⟩
  by_cases hkb:k<b
  ·have r1:k<X.size:=by omega
   have r2:k - 1<X.size:=by omega
   have w3:IntKind.i64.wrap ((k:Int) - 1)=((k - 1:Nat):Int):=by rw [IntWalk.i64_in _ (by omega)];omega
   have w4:IntKind.i64.wrap ((k:Int)+1)=((k+1:Nat):Int):=IntWalk.i64_in _ (by omega)
   unfold j84_1
   simp only [go_sem,seval,hkb,w3,w4,Gc_eq,mv,rd,r1,r2,k3,wd_fk,agg_fk,lt_cmp,Int.ofNat_lt,Int.ofNat_le,Int.natCast_nonneg]
   refine ⟨fun hl=> ?_,fun hl=> ?_⟩
   ·refine ⟨k+1,⟨⟨by omega,by omega⟩,?_⟩,by omega,rfl⟩
    rw [← q2,Sort.scanSorted.eq_def lt Y b k,if_pos (ab hkb (nb1 hl))]
   ·have hck:c=k:=by rw [← q2,Sort.scanSorted.eq_def,if_neg (abn2 (nb2 hl))]
    subst hck
    refine rk5 _ rfl Y st c a b X.size hcb.2 (by omega) hb k3.symm hX _ ?_ (fun e τ' hτ'=> ?_) (fun e e2 τ' hτ'=> ?_) (fun e e2 τ' hτ'=> ?_)
    ·simp only [go_sem,seval,L7]
    ·rw [if_pos e] at k4
     subst k4
     simp only [go_sem,seval,hτ',mv]
    ·rw [if_neg e,if_pos e2] at k4
     subst k4
     simp only [go_sem,seval,hτ',mv]
    ·rw [if_neg e,if_neg e2] at k4
     obtain ⟨g10,g9,g2,g3,g0,g1⟩:=hτ'
     unfold j84_6
     simp only [go_sem,seval,g10,g9,g2,g3,g0,g1,w2,mv]
     refine ⟨(st+1,c,stepP a b c Y),⟨⟨by simp only;omega,by simp only;omega⟩,⟨by simp only;omega,by simp only;rw [step_size];exact k3⟩,by rw [← k4,show 5 - (st+1)=s by omega]⟩,by simp only;omega,⟨rfl,rfl⟩,rfl⟩
  ·unfold j84_1
   simp only [go_sem,seval,hkb,Gc_eq,mv,Int.ofNat_lt,Int.ofNat_le,Int.natCast_nonneg]
   have hck:c=k:=by rw [← q2,Sort.scanSorted.eq_def,if_neg (abn1 hkb)]
   subst hck
   refine rk5 _ rfl Y st c a b X.size hcb.2 (by omega) hb k3.symm hX _ ?_ (fun e τ' hτ'=> ?_) (fun e e2 τ' hτ'=> ?_) (fun e e2 τ' hτ'=> ?_)
   ·simp only [go_sem,seval,L7]
   ·rw [if_pos e] at k4
    subst k4
    simp only [go_sem,seval,hτ',mv]
   ·rw [if_neg e,if_pos e2] at k4
    subst k4
    simp only [go_sem,seval,hτ',mv]
   ·rw [if_neg e,if_neg e2] at k4
    obtain ⟨g10,g9,g2,g3,g0,g1⟩:=hτ'
    unfold j84_6
    simp only [go_sem,seval,g10,g9,g2,g3,g0,g1,w2,mv]
    refine ⟨(st+1,c,stepP a b c Y),⟨⟨by simp only;omega,by simp only;omega⟩,⟨by simp only;omega,by simp only;rw [step_size];exact k3⟩,by rw [← k4,show 5 - (st+1)=s by omega]⟩,by simp only;omega,⟨rfl,rfl⟩,rfl⟩
 ·have h5':((st:Int)<5)=False:=by simp;omega
  have e5:5 - st=0:=by omega
  rw [e5] at k4
  unfold j84_7
  simp only [go_sem,seval,h5',mv]
  unfold j84_8
  simp only [go_sem,seval]
  rw [Sort.partialIns] at k4
  subst k4
  exact ⟨rfl,rfl⟩
end Go.Proofs.Ytpajfggdnobheaa.Srt
end
section
set_option maxRecDepth 100000
open Go Go.Sx Go.Proofs
namespace Go.Proofs.Ytpajfggdnobheaa.Srt
variable {main:Bool} {Fz:Nat→Prop}
open Go.Proofs.Ytpajfggdnobheaa.D
def j88:JC:=
 (.seq (.ops<|
 qo 2 (.mv (I 0))<|
 .nil)
 (.seq (.seq (.ops<|
 qo 3 (.mv (.t 0))<|
 qo 4 (.cmp .geq (.t 3) (.c (.int .u64 4294967296)))<|
 .nil)
 (.cond (.t 4)
 (.seq (.ops<|
 qo 5 (.mv (.t 0))<|
 qo 6 (.ar .shr (.t 5) (.c (.int .u64 32)))<|
 qo 0 (.mv (.t 6))<|
 .nil)
 (.ops<|
 qo 2 (.mv (I 32))<|
 .nil))
 .skip))
 (.seq (.seq (.ops<|
 qo 7 (.mv (.t 0))<|
 qo 8 (.cmp .geq (.t 7) (.c (.int .u64 65536)))<|
 .nil)
 (.cond (.t 8)
 (.seq (.ops<|
 .prune [0,2]<|
 qo 9 (.mv (.t 0))<|
 qo 10 (.ar .shr (.t 9) (.c (.int .u64 16)))<|
 qo 0 (.mv (.t 10))<|
 .nil)
 (.prune [2,0] (.ops<|
 qo 11 (.mv (.t 2))<|
 qo 12 (.ar .add (.t 11) (I 16))<|
 qo 2 (.mv (.t 12))<|
 .nil)))
 .skip))
 (.prune [0,2] (.seq (.seq (.ops<|
 qo 13 (.mv (.t 0))<|
 qo 14 (.cmp .geq (.t 13) (.c (.int .u64 256)))<|
 .nil)
 (.cond (.t 14)
 (.seq (.ops<|
 qo 15 (.mv (.t 0))<|
 qo 16 (.ar .shr (.t 15) (.c (.int .u64 8)))<|
 qo 0 (.mv (.t 16))<|
 .nil)
 (.ops<|
 .prune [2,0]<|
 qo 17 (.mv (.t 2))<|
 qo 18 (.ar .add (.t 17) (I 8))<|
 qo 2 (.mv (.t 18))<|
 .nil))
 .skip))
 (.prune [2,0] (.seq (.ops<|
 qo 19 (.mv (.t 2))<|
 qo 20 (.mv (.t 0))<|
 qo 21 (.conv .u8 (.t 20))<|
 qo 22 (.sx (.c (.str [0,1,2,2,3,3,3,3,4,4,4,4,4,4,4,4,5,5,5,5,5,5,5,5,5,5,5,5,5,5,5,5,6,6,6,6,6,6,6,6,6,6,6,6,6,6,6,6,6,6,6,6,6,6,6,6,6,6,6,6,6,6,6,6,7,7,7,7,7,7,7,7,7,7,7,7,7,7,7,7,7,7,7,7,7,7,7,7,7,7,7,7,7,7,7,7,7,7,7,7,7,7,7,7,7,7,7,7,7,7,7,7,7,7,7,7,7,7,7,7,7,7,7,7,7,7,7,7,8,8,8,8,8,8,8,8,8,8,8,8,8,8,8,8,8,8,8,8,8,8,8,8,8,8,8,8,8,8,8,8,8,8,8,8,8,8,8,8,8,8,8,8,8,8,8,8,8,8,8,8,8,8,8,8,8,8,8,8,8,8,8,8,8,8,8,8,8,8,8,8,8,8,8,8,8,8,8,8,8,8,8,8,8,8,8,8,8,8,8,8,8,8,8,8,8,8,8,8,8,8,8,8,8,8,8,8,8,8,8,8,8,8,8,8,8,8,8,8,8,8,8,8,8,8,8,8])) (.t 21))<|
 qo 23 (.conv .i64 (.t 22))<|
 qo 24 (.ar .add (.t 19) (.t 23))<|
 qo 2 (.mv (.t 24))<|
 .nil)
 .ret)))))))
theorem c88:fnIs Try.prog qall 88=some (j88.flat,[.tmp 2],25):=by kernel_rfl
theorem w88:j88.wf 25=true:=by kernel_rfl
def j47:JC:=
 (.seq (.ops<|
 qo 2 (.mv (I 0))<|
 .nil)
 (.seq (.cond (B false)
 (.seq (.ops<|
 qo 3 (.mv (.t 0))<|
 qo 4 (.conv .u32 (.t 3))<|
 eo 5 (.call 87 [(.t 4)])<|
 qo 2 (.mv (.t 5))<|
 .nil)
 .ret)
 .skip)
 (.seq (.ops<|
 qo 6 (.mv (.t 0))<|
 eo 7 (.call 88 [(.t 6)])<|
 qo 2 (.mv (.t 7))<|
 .nil)
 .ret)))
theorem c47:fnIs Try.prog qall 47=some (j47.flat,[.tmp 2],8):=by kernel_rfl
theorem w47:j47.wf 8=true:=by kernel_rfl
def j111:JC:=
 (.seq (.ops<|
 qo 2 (.mv (.c (.int .u64 0)))<|
 .nil)
 (.seq (.ops<|
 qo 3 (.mv (.t 0))<|
 qo 4 (.conv .u64 (.t 3))<|
 eo 5 (.call 47 [(.t 4)])<|
 qo 6 (.ar .shl (.c (.int .u64 1)) (.t 5))<|
 qo 2 (.mv (.t 6))<|
 .nil)
 .ret))
theorem c111:fnIs Try.prog qall 111=some (j111.flat,[.tmp 2],7):=by kernel_rfl
theorem w111:j111.wf 7=true:=by kernel_rfl
def j112:JC:=
 (.seq (.ops<|
 qo 2 (.mv (.c (.int .u64 0)))<|
 .nil)
 (.seq (.dops<|
 qo 3 (.mv (.t 0))<|
 qo 4 (.nck (.t 3))<|
 eo 5 (.load 1 false (.t 4))<|
 qo 6 (.mv (.t 0))<|
 qo 7 (.nck (.t 6))<|
 eo 8 (.load 1 false (.t 7))<|
 .prune [8,5,3,0]<|
 qo 9 (.ar .shl (.t 8) (.c (.int .u64 13)))<|
 qo 10 (.ar .xor (.t 5) (.t 9))<|
 qo 11 (.nck (.t 3))<|
 en (.store 1 (.t 11) (.t 10))<|
 .nil)
 (.prune [0] (.seq (.dops<|
 qo 12 (.mv (.t 0))<|
 qo 13 (.nck (.t 12))<|
 eo 14 (.load 1 false (.t 13))<|
 qo 15 (.mv (.t 0))<|
 qo 16 (.nck (.t 15))<|
 eo 17 (.load 1 false (.t 16))<|
 .prune [17,14,12,0]<|
 qo 18 (.ar .shr (.t 17) (.c (.int .u64 7)))<|
 qo 19 (.ar .xor (.t 14) (.t 18))<|
 qo 20 (.nck (.t 12))<|
 en (.store 1 (.t 20) (.t 19))<|
 .nil)
 (.prune [0] (.seq (.dops<|
 qo 21 (.mv (.t 0))<|
 qo 22 (.nck (.t 21))<|
 eo 23 (.load 1 false (.t 22))<|
 qo 24 (.mv (.t 0))<|
 qo 25 (.nck (.t 24))<|
 eo 26 (.load 1 false (.t 25))<|
 .prune [26,23,21,0]<|
 qo 27 (.ar .shl (.t 26) (.c (.int .u64 17)))<|
 qo 28 (.ar .xor (.t 23) (.t 27))<|
 qo 29 (.nck (.t 21))<|
 en (.store 1 (.t 29) (.t 28))<|
 .nil)
 (.prune [0] (.seq (.ops<|
 qo 30 (.mv (.t 0))<|
 qo 31 (.nck (.t 30))<|
 eo 32 (.load 1 false (.t 31))<|
 qo 2 (.mv (.t 32))<|
 .nil)
 .ret))))))))
theorem c112:fnIs Try.prog qall 112=some (j112.flat,[.tmp 2],33):=by kernel_rfl
theorem w112:j112.wf 33=true:=by kernel_rfl
def j81_1:JC:=
 (.seq (.seq (.ops<|
 qo 28 (.mv (.t 11))<|
 qo 29 (.mv (.t 1))<|
 qo 30 (.mv (.t 8))<|
 qo 31 (.ar .quo (.t 30) (I 4))<|
 qo 32 (.ar .mul (.t 31) (I 2))<|
 qo 33 (.ar .add (.t 29) (.t 32))<|
 qo 34 (.ar .add (.t 33) (I 1))<|
 qo 35 (.cmp .leq (.t 28) (.t 34))<|
 .nil)
 (.cond (.t 35)
 .skip
 (.exit 0)))
 (.prune [9,10,8,0,11,1] (.seq (.block 1 (.seq (.ops<|
 eo 38 (.call 112 [(.t 9)])<|
 qo 39 (.mv (.t 10))<|
 qo 40 (.ar .sub (.t 39) (.c (.int .u64 1)))<|
 qo 41 (.ar .and (.t 38) (.t 40))<|
 qo 42 (.conv .i64 (.t 41))<|
 qo 12 (.mv (.t 42))<|
 .nil)
 (.prune [12,8,0,11,1,9,10] (.seq (.seq (.ops<|
 qo 43 (.mv (.t 12))<|
 qo 44 (.mv (.t 8))<|
 qo 45 (.cmp .geq (.t 43) (.t 44))<|
 .nil)
 (.prune [45,12,8,0,11,1,9,10] (.cond (.t 45)
 (.ops<|
 qo 46 (.mv (.t 12))<|
 qo 47 (.mv (.t 8))<|
 qo 48 (.ar .sub (.t 46) (.t 47))<|
 qo 12 (.mv (.t 48))<|
 .nil)
 .skip)))
 (.prune [0,11,1,12,8,9,10] (.dops<|
 qo 49 (.mv (.t 0))<|
 qo 50 (.mv (.t 11))<|
 qo 51 (.mv (.t 0))<|
 qo 52 (.mv (.t 1))<|
 qo 53 (.mv (.t 12))<|
 qo 54 (.ar .add (.t 52) (.t 53))<|
 qo 55 (.mv (.t 0))<|
 qo 56 (.mv (.t 1))<|
 qo 57 (.mv (.t 12))<|
 .prune [56,57,55,0,11,49,50,51,54,1,8,9,10]<|
 qo 58 (.ar .add (.t 56) (.t 57))<|
 qo 59 (.is 3 (.t 55) (.t 58))<|
 .prune [59,0,11,49,50,51,54,1,8,9,10]<|
 eo 60 (.load 3 true (.t 59))<|
 qo 61 (.mv (.t 0))<|
 qo 62 (.mv (.t 11))<|
 qo 63 (.is 3 (.t 61) (.t 62))<|
 .prune [63,49,50,60,51,54,11,1,8,9,10,0]<|
 eo 64 (.load 3 true (.t 63))<|
 qo 65 (.is 3 (.t 49) (.t 50))<|
 .prune [65,60,51,54,64,11,1,8,9,10,0]<|
 en (.store 3 (.t 65) (.t 60))<|
 qo 66 (.is 3 (.t 51) (.t 54))<|
 en (.store 3 (.t 66) (.t 64))<|
 .nil))))))
 (.prune [11,1,8,9,10,0] (.ops<|
 qo 36 (.mv (.t 11))<|
 qo 37 (.ar .add (.t 36) (I 1))<|
 qo 11 (.mv (.t 37))<|
 .nil)))))
def j81:JC:=
 (.seq (.ops<|
 qo 13 (.mv (.t 2))<|
 qo 14 (.mv (.t 1))<|
 qo 15 (.ar .sub (.t 13) (.t 14))<|
 qo 8 (.mv (.t 15))<|
 .nil)
 (.seq (.ops<|
 qo 16 (.mv (.t 8))<|
 qo 17 (.cmp .geq (.t 16) (I 8))<|
 .nil)
 (.cond (.t 17)
 (.seq (.ops<|
 qo 18 (.mv (.t 8))<|
 .prune [18,8,1,0]<|
 qo 19 (.conv .u64 (.t 18))<|
 eo 9 (.alloc 199 (.int .u64 0))<|
 en (.store 1 (.t 9) (.t 19))<|
 .nil)
 (.prune [8,1,9,0] (.seq (.ops<|
 qo 20 (.mv (.t 8))<|
 eo 21 (.call 111 [(.t 20)])<|
 qo 10 (.mv (.t 21))<|
 .nil)
 (.seq (.ops<|
 qo 22 (.mv (.t 1))<|
 qo 23 (.mv (.t 8))<|
 qo 24 (.ar .quo (.t 23) (I 4))<|
 .prune [24,22,1,8,9,10,0]<|
 qo 25 (.ar .mul (.t 24) (I 2))<|
 qo 26 (.ar .add (.t 22) (.t 25))<|
 qo 27 (.ar .sub (.t 26) (I 1))<|
 qo 11 (.mv (.t 27))<|
 .nil)
 (.prune [11,1,8,9,10,0] (.block 0 (.loop [1,8,9,10,0] [11] j81_1)))))))
 .skip)))
theorem c81:fnIs Try.prog qall 81=some (j81.flat,[],67):=by kernel_rfl
theorem w81:j81.wf 67=true:=by kernel_rfl
theorem bl_of {n m:Nat} (h1:n<2^m) (h2:m=0∨2^(m - 1)≤n):Sort.bitsLen n=m:=by
 have e1:=(Sort.bitsLen_le_iff n m).2 h1
 rcases h2 with h2|h2
 ·omega
 ·rcases Nat.lt_or_ge (Sort.bitsLen n) m with h|h
  ·have:=(Sort.bitsLen_le_iff n (m - 1)).1 (by omega)
   omega
  ·omega
def lenT:List UInt8:=[0,1,2,2,3,3,3,3,4,4,4,4,4,4,4,4,5,5,5,5,5,5,5,5,5,5,5,5,5,5,5,5,6,6,6,6,6,6,6,6,6,6,6,6,6,6,6,6,6,6,6,6,6,6,6,6,6,6,6,6,6,6,6,6,7,7,7,7,7,7,7,7,7,7,7,7,7,7,7,7,7,7,7,7,7,7,7,7,7,7,7,7,7,7,7,7,7,7,7,7,7,7,7,7,7,7,7,7,7,7,7,7,7,7,7,7,7,7,7,7,7,7,7,7,7,7,7,7,8,8,8,8,8,8,8,8,8,8,8,8,8,8,8,8,8,8,8,8,8,8,8,8,8,8,8,8,8,8,8,8,8,8,8,8,8,8,8,8,8,8,8,8,8,8,8,8,8,8,8,8,8,8,8,8,8,8,8,8,8,8,8,8,8,8,8,8,8,8,8,8,8,8,8,8,8,8,8,8,8,8,8,8,8,8,8,8,8,8,8,8,8,8,8,8,8,8,8,8,8,8,8,8,8,8,8,8,8,8,8,8,8,8,8,8,8,8,8,8,8,8,8,8,8,8,8,8]
theorem lenT_ok:∀ k:Fin 256,k.val<2^(lenT.getD k.val 0).toNat∧((lenT.getD k.val 0).toNat=0∨2^((lenT.getD k.val 0).toNat - 1)≤k.val)∧(lenT.getD k.val 0).toNat≤8:=of_decide_eq_true (by kernel_rfl)
theorem lenT_len {k:Nat} (h:k<256):(lenT.getD k 0).toNat=Sort.bitsLen k:=(bl_of (lenT_ok ⟨k,h⟩).1 (lenT_ok ⟨k,h⟩).2.1).symm
theorem lenT_le {k:Nat} (h:k<256):(lenT.getD k 0).toNat≤8:=(lenT_ok ⟨k,h⟩).2.2
def dU:DT Int:=DT.ofTT (.int .u64)
theorem u_emb (n:Int):dU.emb n= .int .u64 n:=nr rfl
theorem u_decV (m:List Res) (n:Int):dU.decV m (.int .u64 n)=n:=nr rfl
theorem u_decP (m:List Res) (n:Int):dU.decP m (.int .u64 n)=True:=eq_true rfl
instance:Flat dU:=⟨fun y=>noH_int _ y⟩
attribute [go_sem] u_emb u_decV u_decP
theorem f_len64 (n:Nat) (hn:n<65536):FnOK Try.prog main Fz 88 [.int .u64 n] [] (.int .i64 (Sort.bitsLen n)) []:=by
 refine fn_walkF c88 w88 FH.none_ok rfl ?_
 by_cases h:256≤n
 ·have c1:¬ (4294967296:Int)≤n:=by omega
  have c2:¬ (65536:Int)≤n:=by omega
  have c3:(256:Int)≤n:=by omega
  have f1:(n:Int).fdiv (2^min 8 64)=((n/256:Nat):Int):=by
   rw [show min 8 64=8 from rfl,Int.fdiv_eq_ediv_of_nonneg _ (by decide)];omega
  have f2:IntKind.u8.wrap (((n/256:Nat):Int))=((n/256:Nat):Int):=IntWalk.u8_in _ (by omega)
  unfold j88
  simp only [go_sem,seval,c1,c2,c3]
  have hx:n/256<256:=by omega
  refine ⟨by rw [f1,f2];omega,?_⟩
  rw [f1,f2]
  show IntKind.i64.wrap (IntKind.i64.wrap 8+IntKind.i64.wrap ((lenT.getD (((n/256:Nat):Int)).toNat 0).toNat))=_
  rw [Int.toNat_natCast,IntWalk.i64_in 8 (by omega),IntWalk.i64_in (((lenT.getD (n/256) 0).toNat:Nat):Int) (by have:=lenT_le hx;omega),IntWalk.i64_in _ (by have:=lenT_le hx;omega)]
  have k1:=lenT_ok ⟨n/256,hx⟩
  simp only at k1
  have:Sort.bitsLen n=8+(lenT.getD (n/256) 0).toNat:=by
   generalize (lenT.getD (n/256) 0).toNat=m at k1
   refine bl_of ?_ (.inr ?_)
   ·rw [Nat.pow_add];omega
   ·obtain ⟨_,h2,_⟩:=k1
    rcases h2 with h2|h2
    ·subst h2;omega
    ·rcases Nat.eq_zero_or_pos m with h0|h0
     ·subst h0;omega
     ·rw [show 8+m - 1=8+(m - 1) by omega,Nat.pow_add];omega
  omega
 ·have c1:¬ (4294967296:Int)≤n:=by omega
  have c2:¬ (65536:Int)≤n:=by omega
  have c3:¬ (256:Int)≤n:=by omega
  have f3:IntKind.u8.wrap (n:Int)=n:=IntWalk.u8_in _ (by omega)
  unfold j88
  simp only [go_sem,seval,c1,c2,c3]
  have hx:n<256:=by omega
  refine ⟨by rw [f3];omega,?_⟩
  rw [f3]
  show IntKind.i64.wrap (0+IntKind.i64.wrap ((lenT.getD ((n:Int)).toNat 0).toNat))=_
  rw [Int.toNat_natCast,IntWalk.i64_in (((lenT.getD n 0).toNat:Nat):Int) (by have:=lenT_le hx;omega),IntWalk.i64_in _ (by have:=lenT_le hx;omega),lenT_len hx]
  omega
def G64 (f:FuncId) (a:List SV) (m:List Res):Sx.Call:=(FH.rd 88 (.one dU) (.one .int) (fun y=>0≤y.1∧y.1<65536) (fun y=>(Sort.bitsLen y.1.toNat:Int)) FH.none) f a m
theorem G64_eq (f:FuncId) (a:List SV) (m:List Res):G64 f a m=(FH.rd 88 (.one dU) (.one .int) (fun y=>0≤y.1∧y.1<65536) (fun y=>(Sort.bitsLen y.1.toNat:Int)) FH.none) f a m:=nr rfl
theorem G64_ok:FHOK Try.prog main Fz G64:=FH.rd_ok (by kernel_rfl) (fun y h=>by
 obtain ⟨y,⟨⟩⟩:=y
 simp only at h
 obtain ⟨n,rfl⟩:=nat_int h.1
 exact f_len64 n (by omega)) FH.none_ok
theorem f_len (n:Nat) (hn:n<65536):FnOK Try.prog main Fz 47 [.int .u64 n] [] (.int .i64 (Sort.bitsLen n)) []:=by
 refine fn_walkF c47 w47 G64_ok rfl ?_
 unfold j47
 simp only [go_sem,seval,G64_eq,u_emb,u_decV,u_decP]
 omega
def Gln (f:FuncId) (a:List SV) (m:List Res):Sx.Call:=(FH.rd 47 (.one dU) (.one .int) (fun y=>0≤y.1∧y.1<65536) (fun y=>(Sort.bitsLen y.1.toNat:Int)) FH.none) f a m
theorem Gln_eq (f:FuncId) (a:List SV) (m:List Res):Gln f a m=(FH.rd 47 (.one dU) (.one .int) (fun y=>0≤y.1∧y.1<65536) (fun y=>(Sort.bitsLen y.1.toNat:Int)) FH.none) f a m:=nr rfl
theorem Gln_ok:FHOK Try.prog main Fz Gln:=FH.rd_ok (by kernel_rfl) (fun y h=>by
 obtain ⟨y,⟨⟩⟩:=y
 simp only at h
 obtain ⟨n,rfl⟩:=nat_int h.1
 exact f_len n (by omega)) FH.none_ok
theorem bl_16 {n:Nat} (hn:n<65536):Sort.bitsLen n≤16:=(Sort.bitsLen_le_iff n 16).2 (by omega)
theorem f_np2 (n:Nat) (hn:n<65536):FnOK Try.prog main Fz 111 [.int .i64 n] [] (.int .u64 ((1<<<Sort.bitsLen n:Nat):Int)) []:=by
 refine fn_walkF c111 w111 Gln_ok rfl ?_
 have w1:IntKind.u64.wrap (n:Int)=n:=IntWalk.u64_in _ (by omega)
 have hb:=bl_16 hn
 unfold j111
 simp only [go_sem,seval,Gln_eq,w1]
 refine ⟨⟨by omega,by omega⟩,Int.natCast_nonneg _,?_⟩
 rw [Nat.min_eq_left (by omega),Nat.shiftLeft_eq]
 generalize Sort.bitsLen n=k at hb
 have h2:2^k≤2^16:=Nat.pow_le_pow_right (by decide) hb
 have h3:((2:Int)^k)=((2^k:Nat):Int):=by rw [Int.natCast_pow];rfl
 rw [Int.one_mul,h3,IntWalk.u64_in ((2^k:Nat):Int) ⟨Int.natCast_nonneg _,by generalize 2^k=z at h2;omega⟩,Nat.one_mul]
theorem bx {a b:Nat} (ha:a<18446744073709551616) (hb:b<18446744073709551616):bitXor .u64 (a:Int) (b:Int)=((a^^^b:Nat):Int):=by
 have hx:a^^^b<2^64:=Nat.xor_lt_two_pow (by omega) (by omega)
 unfold bitXor
 have e:(BitVec.ofInt IntKind.u64.bits (a:Int)^^^BitVec.ofInt IntKind.u64.bits (b:Int)).toNat=a^^^b:=by
  show (BitVec.ofInt 64 (a:Int)^^^BitVec.ofInt 64 (b:Int)).toNat=a^^^b
  rw [BitVec.toNat_xor,BitVec.ofInt_natCast,BitVec.ofInt_natCast,BitVec.toNat_ofNat,BitVec.toNat_ofNat,Nat.mod_eq_of_lt (by omega),Nat.mod_eq_of_lt (by omega)]
 rw [e,IntWalk.u64_in _ (by omega)]
theorem ba {a b:Nat} (ha:a<18446744073709551616) (hb:b<18446744073709551616):bitAnd .u64 (a:Int) (b:Int)=((a&&&b:Nat):Int):=by
 have hx:a&&&b≤b:=Nat.and_le_right
 unfold bitAnd
 have e:(BitVec.ofInt IntKind.u64.bits (a:Int)&&&BitVec.ofInt IntKind.u64.bits (b:Int)).toNat=a&&&b:=by
  show (BitVec.ofInt 64 (a:Int)&&&BitVec.ofInt 64 (b:Int)).toNat=a&&&b
  rw [BitVec.toNat_and,BitVec.ofInt_natCast,BitVec.ofInt_natCast,BitVec.toNat_ofNat,BitVec.toNat_ofNat,Nat.mod_eq_of_lt (by omega),Nat.mod_eq_of_lt (by omega)]
 rw [e,IntWalk.u64_in _ (by omega)]
theorem f_next (x:Nat) (hx:x<18446744073709551616):FnOK Try.prog main Fz 112 [.ptr 0 [] 0] [.blk 199 (dU.emb x)] (.int .u64 (Sort.xorNextN x)) [.blk 199 (dU.emb (Sort.xorNextN x))]:=by
 refine fn_walkF c112 w112 FH.none_ok rfl ?_
 unfold j112
 simp only [go_sem,seval]
 have e1:IntKind.u64.wrap ((x:Int)*2^min 13 64)=((x*8192%18446744073709551616:Nat):Int):=by
  rw [show min 13 64=13 from rfl,IntKind.wrap_u64];omega
 obtain ⟨A,hA⟩:∃ A:Nat,A=x^^^(x*8192%18446744073709551616):=⟨_,rfl⟩
 have lA:A<18446744073709551616:=by rw [hA];exact Nat.xor_lt_two_pow (n:=64) (by omega) (by omega)
 have e2:((A:Int)).fdiv (2^min 7 64)=((A/128:Nat):Int):=by
  rw [show min 7 64=7 from rfl,Int.fdiv_eq_ediv_of_nonneg _ (by decide)];omega
 obtain ⟨B,hB⟩:∃ B:Nat,B=A^^^(A/128):=⟨_,rfl⟩
 have lB:B<18446744073709551616:=by rw [hB];exact Nat.xor_lt_two_pow (n:=64) (by omega) (by omega)
 have e3:IntKind.u64.wrap ((B:Int)*2^min 17 64)=((B*131072%18446744073709551616:Nat):Int):=by
  rw [show min 17 64=17 from rfl,IntKind.wrap_u64];omega
 have hv:Sort.xorNextN x=B^^^(B*131072%18446744073709551616):=by unfold Sort.xorNextN;simp only [];rw [← hA,← hB]
 rw [e1,bx hx (by omega),← hA,e2,bx lA (by omega),← hB,e3,bx lB (by omega),hv]
 exact ⟨rfl,rfl⟩
def Gbp (f:FuncId) (a:List SV) (m:List Res):Sx.Call:=(FH.rd 111 (.one .int) (.one dU) (fun y=>0≤y.1∧y.1<65536) (fun y=>((1<<<Sort.bitsLen y.1.toNat:Nat):Int))<|
 FH.mt 112 199 dU .nil (.one dU) (fun s _=>0≤s∧s<18446744073709551616) (fun s _=>(Sort.xorNextN s.toNat:Int)) (fun s _=>(Sort.xorNextN s.toNat:Int)) FH.none) f a m
theorem Gbp_eq (f:FuncId) (a:List SV) (m:List Res):Gbp f a m=(FH.rd 111 (.one .int) (.one dU) (fun y=>0≤y.1∧y.1<65536) (fun y=>((1<<<Sort.bitsLen y.1.toNat:Nat):Int))<|
 FH.mt 112 199 dU .nil (.one dU) (fun s _=>0≤s∧s<18446744073709551616) (fun s _=>(Sort.xorNextN s.toNat:Int)) (fun s _=>(Sort.xorNextN s.toNat:Int)) FH.none) f a m:=nr rfl
theorem Gbp_ok:FHOK Try.prog main Fz Gbp:=FH.rd_ok (by kernel_rfl) (fun y h=>by
 obtain ⟨y,⟨⟩⟩:=y
 simp only at h
 obtain ⟨n,rfl⟩:=nat_int h.1
 exact f_np2 n (by omega))<|FH.mt_ok (by kernel_rfl) (fun s y h=>by
 obtain ⟨n,rfl⟩:=nat_int h.1
 exact f_next n (by omega)) FH.none_ok
def bpRest (a L M i0:Nat):Nat→Nat→UInt64×Array Fk→Array Fk
 |0,_,st=>st.2
 |k+1,t,st=>bpRest a L M i0 k (t+1) (Sort.breakStep a L M st (i0+t))
theorem break_eq (d:Array Fk) (a b L:Nat) (h:L=b - a) (h8:8≤L):Sort.breakPatterns d a b=bpRest a L (1<<<Sort.bitsLen L) (a+L/4*2 - 1) 3 0 (UInt64.ofNat L,d):=by
 unfold Sort.breakPatterns
 simp only [← h]
 rw [if_pos h8]
 rfl
def oth (r:UInt64) (M L:Nat):Nat:=if (Sort.xorNext r).toNat&&&(M - 1)≥L then ((Sort.xorNext r).toNat&&&(M - 1)) - L else (Sort.xorNext r).toNat&&&(M - 1)
theorem bp_step (a L M i0 t k:Nat) (r:UInt64) (d:Array Fk):bpRest a L M i0 (k+1) t (r,d)=bpRest a L M i0 k (t+1) (Sort.xorNext r,Sort.swp d (i0+t) (a+oth r M L)):=rfl
theorem f_break (X:Array Fk) (a b:Nat) (hb:b≤X.size) (hX:X.size<65536) (ha:a+8≤b):
  FnOK Try.prog main Fz 81 [.vec 0 X.size, .int .i64 a, .int .i64 b,cF] [mv X]
   (.tup []) [mv (Sort.breakPatterns X a b)]:=by
 refine fn_walkF c81 w81 Gbp_ok rfl ?_
 obtain ⟨l,hl⟩:∃ l:Nat,l=b - a:=⟨_,rfl⟩
 have w1:IntKind.i64.wrap ((b:Int) - a)=(l:Int):=by rw [IntWalk.i64_in _ (by omega)];omega
 have w2:((8:Int)≤l)=True:=by simp;omega
 have w3:IntKind.u64.wrap (l:Int)=l:=IntWalk.u64_in _ (by omega)
 have w4:(l:Int).tdiv 4=((l/4:Nat):Int):=rfl
 have w5:IntKind.i64.wrap ((l/4:Nat):Int)=((l/4:Nat):Int):=IntWalk.i64_in _ (by omega)
 have w6:IntKind.i64.wrap (((l/4:Nat):Int)*2)=((l/4:Nat):Int)*2:=IntWalk.i64_in _ (by omega)
 obtain ⟨i0,hi0⟩:∃ i0:Nat,i0=a+l/4*2 - 1:=⟨_,rfl⟩
 have w7:IntKind.i64.wrap ((a:Int)+((l/4:Nat):Int)*2)=((i0+1:Nat):Int):=by rw [IntWalk.i64_in _ (by omega)];omega
 have w8:IntKind.i64.wrap (((i0+1:Nat):Int) - 1)=(i0:Int):=by rw [IntWalk.i64_in _ (by omega)];omega
 have w9:IntKind.i64.wrap (((i0+1:Nat):Int)+1)=((i0+2:Nat):Int):=by rw [IntWalk.i64_in _ (by omega)];omega
 unfold j81
 simp only [go_sem,seval,mv,w1,w2,w3,w4,w5,w6,w7,w8,Gbp_eq]
 refine ⟨⟨Int.natCast_nonneg _,by omega⟩,?_⟩
 obtain ⟨M,hM⟩:∃ M,M=1<<<Sort.bitsLen l:=⟨_,rfl⟩
 have hM2:M≤2*l:=by
  rw [hM,Nat.shiftLeft_eq,Nat.one_mul];exact Sort.two_pow_bitsLen_le (by omega)
 have hM1:0<M:=by rw [hM,Nat.shiftLeft_eq,Nat.one_mul];exact Nat.two_pow_pos _
 have m1:IntKind.u64.wrap ((M:Int) - 1)=((M - 1:Nat):Int):=by rw [IntWalk.u64_in _ (by omega)];omega
 have hbe:=break_eq X a b l hl (by omega)
 rw [← hM,← hi0] at hbe
 rw [← hM]
 obtain ⟨R,hR⟩:∃ R,R=Sort.breakPatterns X a b:=⟨_,rfl⟩
 rw [← hR] at hbe ⊢
 refine loopF (Nat×UInt64×Array Fk) (fun s=>[.int .i64 ((i0+s.1:Nat):Int)]) (fun s=>[mv s.2.2, .blk 199 (.int .u64 (s.2.1.toNat:Int))]) (fun s=>s.1≤3∧s.2.2.size=X.size∧bpRest a l M i0 (3 - s.1) s.1 s.2=R) (fun s=>3 - s.1) (0,UInt64.ofNat l,X) ⟨by simp only;omega,rfl,hbe.symm⟩ ?_ ?_ ?_
 ·simp only [go_sem,seval]
 ·have:(UInt64.ofNat l).toNat=l:=by simp;omega
  simp only [this]
 rintro ⟨t,r,Y⟩ ⟨k0,k1,k2⟩
 simp only at k0 k1 k2
 by_cases ht:t<3
 ·have c1:((((i0+t:Nat):Int))≤((i0+2:Nat):Int))=True:=by simp;omega
  have n1:(r.toNat:Int)<18446744073709551616:=by have:=r.toNat_lt;omega
  have n2:(Sort.xorNextN r.toNat:Int)=(((Sort.xorNext r).toNat:Nat):Int):=by rw [Sort.xorNext_toNat]
  have n3:bitAnd .u64 (((Sort.xorNext r).toNat:Nat):Int) ((M - 1:Nat):Int)=(((Sort.xorNext r).toNat&&&(M - 1):Nat):Int):=ba (by have:=(Sort.xorNext r).toNat_lt;omega) (by omega)
  have hle:(Sort.xorNext r).toNat&&&(M - 1)≤M - 1:=Nat.and_le_right
  obtain ⟨o,ho⟩:∃ o,o=(Sort.xorNext r).toNat&&&(M - 1):=⟨_,rfl⟩
  rw [← ho] at n3 hle
  have n4:IntKind.i64.wrap (o:Int)=o:=IntWalk.i64_in _ (by omega)
  obtain ⟨s,hs⟩:∃ s,3 - t=s+1:=⟨2 - t,by omega⟩
  rw [hs,bp_step] at k2
  have w10:IntKind.i64.wrap (((i0+t:Nat):Int)+1)=((i0+t+1:Nat):Int):=IntWalk.i64_in _ (by omega)
  have r1:i0+t<X.size:=by omega
  by_cases hol:l≤o
  ·have hol':((l:Int)≤o)=True:=by simp;omega
   have n5:IntKind.i64.wrap ((o:Int) - l)=((o - l:Nat):Int):=by rw [IntWalk.i64_in _ (by omega)];omega
   have n6:IntKind.i64.wrap ((a:Int)+((o - l:Nat):Int))=((a+(o - l):Nat):Int):=IntWalk.i64_in _ (by omega)
   have hoth:oth r M l=o - l:=by unfold oth;rw [← ho,if_pos hol]
   have r2:a+(o - l)<X.size:=by omega
   rw [hoth] at k2
   unfold j81_1
   simp only [go_sem,seval,mv,w4,w5,w6,w7,w9,w10,c1,m1,n1,n2,n3,n4,n5,n6,hol',Gbp_eq,rd,r1,r2,k1,wr,wdz,wd_fk,agg_fk,swp_fold,Int.ofNat_lt,Int.natCast_nonneg]
   exact ⟨(t+1,Sort.xorNext r,Sort.swp Y (i0+t) (a+(o - l))),⟨by simp only;omega,by simp only;rw [swp_size];exact k1,by rw [← k2,show 3 - (t+1)=s by omega]⟩,by simp only;omega,rfl,rfl⟩
  ·have hol':((l:Int)≤o)=False:=by simp;omega
   have n6:IntKind.i64.wrap ((a:Int)+(o:Int))=((a+o:Nat):Int):=IntWalk.i64_in _ (by omega)
   have hoth:oth r M l=o:=by unfold oth;rw [← ho,if_neg hol]
   have r2:a+o<X.size:=by omega
   rw [hoth] at k2
   unfold j81_1
   simp only [go_sem,seval,mv,w4,w5,w6,w7,w9,w10,c1,m1,n1,n2,n3,n4,n6,hol',Gbp_eq,rd,r1,r2,k1,wr,wdz,wd_fk,agg_fk,swp_fold,Int.ofNat_lt,Int.natCast_nonneg]
   exact ⟨(t+1,Sort.xorNext r,Sort.swp Y (i0+t) (a+o)),⟨by simp only;omega,by simp only;rw [swp_size];exact k1,by rw [← k2,show 3 - (t+1)=s by omega]⟩,by simp only;omega,rfl,rfl⟩
 ·have c1:((((i0+t:Nat):Int))≤((i0+2:Nat):Int))=False:=by simp;omega
  unfold j81_1
  simp only [go_sem,seval,mv,w4,w5,w6,w7,w9,c1]
  rw [show 3 - t=0 by omega] at k2
  rw [← k2]
  rfl
end Go.Proofs.Ytpajfggdnobheaa.Srt
end
section
set_option maxRecDepth 100000
open Go Go.Sx Go.Proofs
namespace Go.Proofs.Ytpajfggdnobheaa.Srt
variable {main:Bool} {Fz:Nat→Prop}
open Go.Proofs.Ytpajfggdnobheaa.D
def j46_1:JC:=
 (.block 1 (.seq (.ops<|
 qo 21 (.mv (.t 2))<|
 qo 22 (.mv (.t 1))<|
 qo 23 (.ar .sub (.t 21) (.t 22))<|
 qo 12 (.mv (.t 23))<|
 .nil)
 (.prune [12,0,1,2,4,3,10,11] (.seq (.seq (.ops<|
 qo 24 (.mv (.t 12))<|
 qo 25 (.cmp .leq (.t 24) (I 12))<|
 .nil)
 (.prune [25,0,1,2,4,3,10,11,12] (.cond (.t 25)
 (.seq (.ops<|
 .prune [0,1,2,4]<|
 qo 26 (.mv (.t 0))<|
 qo 27 (.mv (.t 1))<|
 qo 28 (.mv (.t 2))<|
 qo 29 (.mv (.t 4))<|
 eo 30 (.call 79 [(.t 26),(.t 27),(.t 28),(.t 29)])<|
 .nil)
 .ret)
 .skip)))
 (.prune [3,0,1,2,4,10,11,12] (.seq (.seq (.ops<|
 qo 31 (.mv (.t 3))<|
 qo 32 (.cmp .eql (.t 31) (I 0))<|
 .nil)
 (.prune [32,0,1,2,4,10,3,11,12] (.cond (.t 32)
 (.seq (.ops<|
 .prune [0,1,2,4]<|
 qo 33 (.mv (.t 0))<|
 qo 34 (.mv (.t 1))<|
 qo 35 (.mv (.t 2))<|
 qo 36 (.mv (.t 4))<|
 eo 37 (.call 80 [(.t 33),(.t 34),(.t 35),(.t 36)])<|
 .nil)
 .ret)
 .skip)))
 (.prune [10,0,1,2,4,3,11,12] (.seq (.seq (.ops<|
 qo 38 (.mv (.t 10))<|
 qo 39 (.nt (.t 38))<|
 .nil)
 (.prune [39,0,1,2,4,3,10,11,12] (.cond (.t 39)
 (.seq (.ops<|
 qo 40 (.mv (.t 0))<|
 qo 41 (.mv (.t 1))<|
 qo 42 (.mv (.t 2))<|
 qo 43 (.mv (.t 4))<|
 eo 44 (.call 81 [(.t 40),(.t 41),(.t 42),(.t 43)])<|
 .nil)
 (.prune [3,0,1,2,4,10,11,12] (.ops<|
 qo 45 (.mv (.t 3))<|
 qo 46 (.ar .sub (.t 45) (I 1))<|
 qo 3 (.mv (.t 46))<|
 .nil)))
 .skip)))
 (.prune [0,1,2,4,10,11,3,12] (.seq (.ops<|
 qo 48 (.mv (.t 0))<|
 qo 49 (.mv (.t 1))<|
 qo 50 (.mv (.t 2))<|
 qo 51 (.mv (.t 4))<|
 eo 52 (.call 82 [(.t 48),(.t 49),(.t 50),(.t 51)])<|
 .prune [52,0,1,2,4,10,11,3,12]<|
 qo 47 (.mv (.t 52))<|
 qo 53 (.ext 0 (.t 47))<|
 qo 54 (.ext 1 (.t 47))<|
 qo 13 (.mv (.t 53))<|
 qo 14 (.mv (.t 54))<|
 .nil)
 (.prune [14,0,1,2,4,13,10,11,3,12] (.seq (.seq (.ops<|
 qo 55 (.mv (.t 14))<|
 qo 56 (.cmp .eql (.t 55) (I 2))<|
 .nil)
 (.prune [56,0,1,2,4,13,10,11,3,12,14] (.cond (.t 56)
 (.seq (.ops<|
 qo 57 (.mv (.t 0))<|
 qo 58 (.mv (.t 1))<|
 qo 59 (.mv (.t 2))<|
 qo 60 (.mv (.t 4))<|
 eo 61 (.call 83 [(.t 57),(.t 58),(.t 59),(.t 60)])<|
 .nil)
 (.prune [2,13,1,10,11,0,4,3,12] (.seq (.ops<|
 qo 62 (.mv (.t 2))<|
 qo 63 (.ar .sub (.t 62) (I 1))<|
 qo 64 (.mv (.t 13))<|
 qo 65 (.mv (.t 1))<|
 qo 66 (.ar .sub (.t 64) (.t 65))<|
 qo 67 (.ar .sub (.t 63) (.t 66))<|
 qo 13 (.mv (.t 67))<|
 .nil)
 (.prune [10,11,0,1,2,4,13,3,12] (.ops<|
 qo 14 (.mv (I 1))<|
 .nil)))))
 .skip)))
 (.prune [10,11,14,0,1,2,4,13,3,12] (.seq (.seq (.ops<|
 qo 68 (.mv (.t 10))<|
 qo 69 (.mv (.t 68))<|
 .sc false 71 69 (qo 70 (.mv (.t 11))<|
 .nil) (.t 70)<|
 qo 72 (.mv (.t 71))<|
 .prune [72,14,0,1,2,4,13,3,10,11,12]<|
 .sc false 75 72 (qo 73 (.mv (.t 14))<|
 qo 74 (.cmp .eql (.t 73) (I 1))<|
 .nil) (.t 74)<|
 .nil)
 (.prune [75,0,1,2,4,13,3,10,11,12] (.cond (.t 75)
 (.seq (.ops<|
 qo 76 (.mv (.t 0))<|
 qo 77 (.mv (.t 1))<|
 qo 78 (.mv (.t 2))<|
 qo 79 (.mv (.t 4))<|
 eo 80 (.call 84 [(.t 76),(.t 77),(.t 78),(.t 79)])<|
 .nil)
 (.cond (.t 80)
 .ret
 .skip))
 .skip)))
 (.prune [1,4,0,13,2,3,10,11,12] (.seq (.seq (.dops<|
 qo 81 (.mv (.t 1))<|
 qo 82 (.cmp .gtr (.t 81) (I 0))<|
 qo 83 (.mv (.t 82))<|
 .sc false 97 83 (qo 84 (.mv (.t 4))<|
 qo 85 (.mv (.t 0))<|
 qo 86 (.mv (.t 1))<|
 qo 87 (.ar .sub (.t 86) (I 1))<|
 qo 88 (.is 3 (.t 85) (.t 87))<|
 eo 89 (.load 3 true (.t 88))<|
 qo 90 (.mv (.t 0))<|
 qo 91 (.mv (.t 13))<|
 qo 92 (.is 3 (.t 90) (.t 91))<|
 eo 93 (.load 3 true (.t 92))<|
 eo 94 (.callv (.t 84) [(.t 89),(.t 93)])<|
 qo 95 (.cmp .lss (.t 94) (I 0))<|
 qo 96 (.nt (.t 95))<|
 .nil) (.t 96)<|
 .nil)
 (.prune [97,0,1,2,13,4,3,10,11,12] (.cond (.t 97)
 (.seq (.ops<|
 qo 98 (.mv (.t 0))<|
 qo 99 (.mv (.t 1))<|
 .prune [2,13,4,98,99,0,3,10,11]<|
 qo 100 (.mv (.t 2))<|
 qo 101 (.mv (.t 13))<|
 qo 102 (.mv (.t 4))<|
 eo 103 (.call 85 [(.t 98),(.t 99),(.t 100),(.t 101),(.t 102)])<|
 qo 15 (.mv (.t 103))<|
 .nil)
 (.prune [15,2,0,4,3,10,11] (.seq (.ops<|
 qo 104 (.mv (.t 15))<|
 qo 1 (.mv (.t 104))<|
 .nil)
 (.exit 1))))
 .skip)))
 (.prune [0,1,2,13,4,12,3] (.seq (.ops<|
 qo 106 (.mv (.t 0))<|
 qo 107 (.mv (.t 1))<|
 qo 108 (.mv (.t 2))<|
 qo 109 (.mv (.t 13))<|
 qo 110 (.mv (.t 4))<|
 eo 111 (.call 86 [(.t 106),(.t 107),(.t 108),(.t 109),(.t 110)])<|
 .prune [111,1,2,12,0,3,4]<|
 qo 105 (.mv (.t 111))<|
 qo 112 (.ext 0 (.t 105))<|
 qo 113 (.ext 1 (.t 105))<|
 qo 16 (.mv (.t 112))<|
 qo 17 (.mv (.t 113))<|
 .nil)
 (.prune [17,16,1,2,12,0,3,4] (.seq (.ops<|
 qo 114 (.mv (.t 17))<|
 qo 11 (.mv (.t 114))<|
 .nil)
 (.prune [16,1,2,12,0,3,4,11] (.seq (.ops<|
 qo 115 (.mv (.t 16))<|
 qo 116 (.mv (.t 1))<|
 qo 117 (.ar .sub (.t 115) (.t 116))<|
 qo 118 (.mv (.t 2))<|
 qo 119 (.mv (.t 16))<|
 qo 120 (.ar .sub (.t 118) (.t 119))<|
 qo 18 (.mv (.t 117))<|
 qo 19 (.mv (.t 120))<|
 .nil)
 (.prune [12,18,19,0,1,16,3,4,2,11] (.seq (.ops<|
 qo 121 (.mv (.t 12))<|
 qo 122 (.ar .quo (.t 121) (I 8))<|
 qo 20 (.mv (.t 122))<|
 .nil)
 (.prune [18,19,20,0,1,16,3,4,2,11] (.seq (.ops<|
 qo 123 (.mv (.t 18))<|
 qo 124 (.mv (.t 19))<|
 qo 125 (.cmp .lss (.t 123) (.t 124))<|
 .nil)
 (.prune [125,18,20,0,1,16,3,4,2,11,19] (.cond (.t 125)
 (.seq (.ops<|
 qo 126 (.mv (.t 18))<|
 .prune [20,126,0,1,16,3,4,2,11]<|
 qo 127 (.mv (.t 20))<|
 qo 128 (.cmp .geq (.t 126) (.t 127))<|
 qo 10 (.mv (.t 128))<|
 .nil)
 (.prune [0,1,16,3,4,2,10,11] (.seq (.ops<|
 qo 129 (.mv (.t 0))<|
 qo 130 (.mv (.t 1))<|
 qo 131 (.mv (.t 16))<|
 qo 132 (.mv (.t 3))<|
 qo 133 (.mv (.t 4))<|
 eo 134 (.call 46 [(.t 129),(.t 130),(.t 131),(.t 132),(.t 133)])<|
 .nil)
 (.prune [16,2,0,4,3,10,11] (.ops<|
 qo 135 (.mv (.t 16))<|
 qo 136 (.ar .add (.t 135) (I 1))<|
 qo 1 (.mv (.t 136))<|
 .nil)))))
 (.seq (.ops<|
 qo 137 (.mv (.t 19))<|
 .prune [20,137,0,16,2,3,4,1,11]<|
 qo 138 (.mv (.t 20))<|
 qo 139 (.cmp .geq (.t 137) (.t 138))<|
 qo 10 (.mv (.t 139))<|
 .nil)
 (.prune [0,16,2,3,4,1,10,11] (.seq (.ops<|
 qo 140 (.mv (.t 0))<|
 qo 141 (.mv (.t 16))<|
 qo 142 (.ar .add (.t 141) (I 1))<|
 qo 143 (.mv (.t 2))<|
 qo 144 (.mv (.t 3))<|
 qo 145 (.mv (.t 4))<|
 eo 146 (.call 46 [(.t 140),(.t 142),(.t 143),(.t 144),(.t 145)])<|
 .nil)
 (.prune [16,1,0,4,3,10,11] (.ops<|
 qo 147 (.mv (.t 16))<|
 qo 2 (.mv (.t 147))<|
 .nil)))))))))))))))))))))))))))))))))
def j46:JC:=
 (.seq (.ops<|
 qo 10 (.mv (B true))<|
 .nil)
 (.seq (.ops<|
 qo 11 (.mv (B true))<|
 .nil)
 (.block 0 (.loop [0,4] [2,1,3,10,11] j46_1))))
theorem c46:fnIs Try.prog qall 46=some (j46.flat,[],148):=by kernel_rfl
theorem w46:j46.wf 148=true:=by kernel_rfl
def j23:JC:=
 (.seq (.ops<|
 qo 5 (.mv (.t 0))<|
 qo 6 (.len (.t 5))<|
 qo 4 (.mv (.t 6))<|
 .nil)
 (.ops<|
 qo 7 (.mv (.t 0))<|
 qo 8 (.mv (.t 4))<|
 qo 9 (.mv (.t 4))<|
 qo 10 (.conv .u64 (.t 9))<|
 .prune [10,1,7,8]<|
 eo 11 (.call 47 [(.t 10)])<|
 qo 12 (.mv (.t 1))<|
 eo 13 (.call 46 [(.t 7),(I 0),(.t 8),(.t 11),(.t 12)])<|
 .nil))
theorem c23:fnIs Try.prog qall 23=some (j23.flat,[],14):=by kernel_rfl
theorem w23:j23.wf 14=true:=by kernel_rfl
def j46_pt:JC:=
 (.prune [0,1,2,13,4,12,3] (.seq (.ops<|
 qo 106 (.mv (.t 0))<|
 qo 107 (.mv (.t 1))<|
 qo 108 (.mv (.t 2))<|
 qo 109 (.mv (.t 13))<|
 qo 110 (.mv (.t 4))<|
 eo 111 (.call 86 [(.t 106),(.t 107),(.t 108),(.t 109),(.t 110)])<|
 .prune [111,1,2,12,0,3,4]<|
 qo 105 (.mv (.t 111))<|
 qo 112 (.ext 0 (.t 105))<|
 qo 113 (.ext 1 (.t 105))<|
 qo 16 (.mv (.t 112))<|
 qo 17 (.mv (.t 113))<|
 .nil)
 (.prune [17,16,1,2,12,0,3,4] (.seq (.ops<|
 qo 114 (.mv (.t 17))<|
 qo 11 (.mv (.t 114))<|
 .nil)
 (.prune [16,1,2,12,0,3,4,11] (.seq (.ops<|
 qo 115 (.mv (.t 16))<|
 qo 116 (.mv (.t 1))<|
 qo 117 (.ar .sub (.t 115) (.t 116))<|
 qo 118 (.mv (.t 2))<|
 qo 119 (.mv (.t 16))<|
 qo 120 (.ar .sub (.t 118) (.t 119))<|
 qo 18 (.mv (.t 117))<|
 qo 19 (.mv (.t 120))<|
 .nil)
 (.prune [12,18,19,0,1,16,3,4,2,11] (.seq (.ops<|
 qo 121 (.mv (.t 12))<|
 qo 122 (.ar .quo (.t 121) (I 8))<|
 qo 20 (.mv (.t 122))<|
 .nil)
 (.prune [18,19,20,0,1,16,3,4,2,11] (.seq (.ops<|
 qo 123 (.mv (.t 18))<|
 qo 124 (.mv (.t 19))<|
 qo 125 (.cmp .lss (.t 123) (.t 124))<|
 .nil)
 (.prune [125,18,20,0,1,16,3,4,2,11,19] (.cond (.t 125)
 (.seq (.ops<|
 qo 126 (.mv (.t 18))<|
 .prune [20,126,0,1,16,3,4,2,11]<|
 qo 127 (.mv (.t 20))<|
 qo 128 (.cmp .geq (.t 126) (.t 127))<|
 qo 10 (.mv (.t 128))<|
 .nil)
 (.prune [0,1,16,3,4,2,10,11] (.seq (.ops<|
 qo 129 (.mv (.t 0))<|
 qo 130 (.mv (.t 1))<|
 qo 131 (.mv (.t 16))<|
 qo 132 (.mv (.t 3))<|
 qo 133 (.mv (.t 4))<|
 eo 134 (.call 46 [(.t 129),(.t 130),(.t 131),(.t 132),(.t 133)])<|
 .nil)
 (.prune [16,2,0,4,3,10,11] (.ops<|
 qo 135 (.mv (.t 16))<|
 qo 136 (.ar .add (.t 135) (I 1))<|
 qo 1 (.mv (.t 136))<|
 .nil)))))
 (.seq (.ops<|
 qo 137 (.mv (.t 19))<|
 .prune [20,137,0,16,2,3,4,1,11]<|
 qo 138 (.mv (.t 20))<|
 qo 139 (.cmp .geq (.t 137) (.t 138))<|
 qo 10 (.mv (.t 139))<|
 .nil)
 (.prune [0,16,2,3,4,1,10,11] (.seq (.ops<|
 qo 140 (.mv (.t 0))<|
 qo 141 (.mv (.t 16))<|
 qo 142 (.ar .add (.t 141) (I 1))<|
 qo 143 (.mv (.t 2))<|
 qo 144 (.mv (.t 3))<|
 qo 145 (.mv (.t 4))<|
 eo 146 (.call 46 [(.t 140),(.t 142),(.t 143),(.t 144),(.t 145)])<|
 .nil)
 (.prune [16,1,0,4,3,10,11] (.ops<|
 qo 147 (.mv (.t 16))<|
 qo 2 (.mv (.t 147))<|
 .nil)))))))))))))))))
def j46_tl:JC:=
 (.prune [1,4,0,13,2,3,10,11,12] (.seq (.seq (.dops<|
 qo 81 (.mv (.t 1))<|
 qo 82 (.cmp .gtr (.t 81) (I 0))<|
 qo 83 (.mv (.t 82))<|
 .sc false 97 83 (qo 84 (.mv (.t 4))<|
 qo 85 (.mv (.t 0))<|
 qo 86 (.mv (.t 1))<|
 qo 87 (.ar .sub (.t 86) (I 1))<|
 qo 88 (.is 3 (.t 85) (.t 87))<|
 eo 89 (.load 3 true (.t 88))<|
 qo 90 (.mv (.t 0))<|
 qo 91 (.mv (.t 13))<|
 qo 92 (.is 3 (.t 90) (.t 91))<|
 eo 93 (.load 3 true (.t 92))<|
 eo 94 (.callv (.t 84) [(.t 89),(.t 93)])<|
 qo 95 (.cmp .lss (.t 94) (I 0))<|
 qo 96 (.nt (.t 95))<|
 .nil) (.t 96)<|
 .nil)
 (.prune [97,0,1,2,13,4,3,10,11,12] (.cond (.t 97)
 (.seq (.ops<|
 qo 98 (.mv (.t 0))<|
 qo 99 (.mv (.t 1))<|
 .prune [2,13,4,98,99,0,3,10,11]<|
 qo 100 (.mv (.t 2))<|
 qo 101 (.mv (.t 13))<|
 qo 102 (.mv (.t 4))<|
 eo 103 (.call 85 [(.t 98),(.t 99),(.t 100),(.t 101),(.t 102)])<|
 qo 15 (.mv (.t 103))<|
 .nil)
 (.prune [15,2,0,4,3,10,11] (.seq (.ops<|
 qo 104 (.mv (.t 15))<|
 qo 1 (.mv (.t 104))<|
 .nil)
 (.exit 1))))
 .skip)))
 j46_pt))
def j46_md:JC:=
 (.prune [10,11,14,0,1,2,4,13,3,12] (.seq (.seq (.ops<|
 qo 68 (.mv (.t 10))<|
 qo 69 (.mv (.t 68))<|
 .sc false 71 69 (qo 70 (.mv (.t 11))<|
 .nil) (.t 70)<|
 qo 72 (.mv (.t 71))<|
 .prune [72,14,0,1,2,4,13,3,10,11,12]<|
 .sc false 75 72 (qo 73 (.mv (.t 14))<|
 qo 74 (.cmp .eql (.t 73) (I 1))<|
 .nil) (.t 74)<|
 .nil)
 (.prune [75,0,1,2,4,13,3,10,11,12] (.cond (.t 75)
 (.seq (.ops<|
 qo 76 (.mv (.t 0))<|
 qo 77 (.mv (.t 1))<|
 qo 78 (.mv (.t 2))<|
 qo 79 (.mv (.t 4))<|
 eo 80 (.call 84 [(.t 76),(.t 77),(.t 78),(.t 79)])<|
 .nil)
 (.cond (.t 80)
 .ret
 .skip))
 .skip)))
 j46_tl))
def j46_pv:JC:=
 (.prune [0,1,2,4,10,11,3,12] (.seq (.ops<|
 qo 48 (.mv (.t 0))<|
 qo 49 (.mv (.t 1))<|
 qo 50 (.mv (.t 2))<|
 qo 51 (.mv (.t 4))<|
 eo 52 (.call 82 [(.t 48),(.t 49),(.t 50),(.t 51)])<|
 .prune [52,0,1,2,4,10,11,3,12]<|
 qo 47 (.mv (.t 52))<|
 qo 53 (.ext 0 (.t 47))<|
 qo 54 (.ext 1 (.t 47))<|
 qo 13 (.mv (.t 53))<|
 qo 14 (.mv (.t 54))<|
 .nil)
 (.prune [14,0,1,2,4,13,10,11,3,12] (.seq (.seq (.ops<|
 qo 55 (.mv (.t 14))<|
 qo 56 (.cmp .eql (.t 55) (I 2))<|
 .nil)
 (.prune [56,0,1,2,4,13,10,11,3,12,14] (.cond (.t 56)
 (.seq (.ops<|
 qo 57 (.mv (.t 0))<|
 qo 58 (.mv (.t 1))<|
 qo 59 (.mv (.t 2))<|
 qo 60 (.mv (.t 4))<|
 eo 61 (.call 83 [(.t 57),(.t 58),(.t 59),(.t 60)])<|
 .nil)
 (.prune [2,13,1,10,11,0,4,3,12] (.seq (.ops<|
 qo 62 (.mv (.t 2))<|
 qo 63 (.ar .sub (.t 62) (I 1))<|
 qo 64 (.mv (.t 13))<|
 qo 65 (.mv (.t 1))<|
 qo 66 (.ar .sub (.t 64) (.t 65))<|
 qo 67 (.ar .sub (.t 63) (.t 66))<|
 qo 13 (.mv (.t 67))<|
 .nil)
 (.prune [10,11,0,1,2,4,13,3,12] (.ops<|
 qo 14 (.mv (I 1))<|
 .nil)))))
 .skip)))
 j46_md))))
theorem j46_1_eq:j46_1=
 (.block 1 (.seq (.ops<|
 qo 21 (.mv (.t 2))<|
 qo 22 (.mv (.t 1))<|
 qo 23 (.ar .sub (.t 21) (.t 22))<|
 qo 12 (.mv (.t 23))<|
 .nil)
 (.prune [12,0,1,2,4,3,10,11] (.seq (.seq (.ops<|
 qo 24 (.mv (.t 12))<|
 qo 25 (.cmp .leq (.t 24) (I 12))<|
 .nil)
 (.prune [25,0,1,2,4,3,10,11,12] (.cond (.t 25)
 (.seq (.ops<|
 .prune [0,1,2,4]<|
 qo 26 (.mv (.t 0))<|
 qo 27 (.mv (.t 1))<|
 qo 28 (.mv (.t 2))<|
 qo 29 (.mv (.t 4))<|
 eo 30 (.call 79 [(.t 26),(.t 27),(.t 28),(.t 29)])<|
 .nil)
 .ret)
 .skip)))
 (.prune [3,0,1,2,4,10,11,12] (.seq (.seq (.ops<|
 qo 31 (.mv (.t 3))<|
 qo 32 (.cmp .eql (.t 31) (I 0))<|
 .nil)
 (.prune [32,0,1,2,4,10,3,11,12] (.cond (.t 32)
 (.seq (.ops<|
 .prune [0,1,2,4]<|
 qo 33 (.mv (.t 0))<|
 qo 34 (.mv (.t 1))<|
 qo 35 (.mv (.t 2))<|
 qo 36 (.mv (.t 4))<|
 eo 37 (.call 80 [(.t 33),(.t 34),(.t 35),(.t 36)])<|
 .nil)
 .ret)
 .skip)))
 (.prune [10,0,1,2,4,3,11,12] (.seq (.seq (.ops<|
 qo 38 (.mv (.t 10))<|
 qo 39 (.nt (.t 38))<|
 .nil)
 (.prune [39,0,1,2,4,3,10,11,12] (.cond (.t 39)
 (.seq (.ops<|
 qo 40 (.mv (.t 0))<|
 qo 41 (.mv (.t 1))<|
 qo 42 (.mv (.t 2))<|
 qo 43 (.mv (.t 4))<|
 eo 44 (.call 81 [(.t 40),(.t 41),(.t 42),(.t 43)])<|
 .nil)
 (.prune [3,0,1,2,4,10,11,12] (.ops<|
 qo 45 (.mv (.t 3))<|
 qo 46 (.ar .sub (.t 45) (I 1))<|
 qo 3 (.mv (.t 46))<|
 .nil)))
 .skip)))
 j46_pv)))))))):=rfl
theorem swo_lt:Sort.SWO lt where
 irrefl x:=by simp [lt]
 trans x y z h1 h2:=by simp only [lt,decide_eq_true_eq] at*;omega
 ntrans x y z h1 h2:=by simp only [lt,decide_eq_false_iff_not] at*;omega
def pr3 (k:Int) (s:List Fk) (y:Int×Int×Nat×Unit):Prop:=(0≤y.1∧y.1+k≤y.2.1)∧(y.2.1≤s.length∧s.length<65536)∧y.2.2.1=24
def pr4 (s:List Fk) (y:Int×Int×Int×Nat×Unit):Prop:=(0≤y.1∧y.1≤y.2.2.1∧y.2.2.1<y.2.1)∧(y.2.1≤s.length∧s.length<65536)∧y.2.2.2.1=24
def prq (N:Nat) (s:List Fk) (y:Int×Int×Int×Nat×Unit):Prop:=(0≤y.1∧y.1≤y.2.1∧y.2.1 - y.1<N)∧((y.2.1≤s.length∧s.length<65536)∧0≤y.2.2.1∧y.2.2.1<64)∧y.2.2.2.1=24∧Sort.Below lt y.1.toNat y.2.1.toNat s.toArray
theorem pr3_of (k:Nat) {X:Array Fk} {a b:Nat} (h:a+k≤b) (hb:b≤X.size) (hX:X.size<65536):pr3 k X.toList ((a:Int),(b:Int),24,()):=by
 refine ⟨⟨Int.natCast_nonneg _,by simp only;omega⟩,⟨?_,?_⟩,rfl⟩<;>simp only [Array.length_toList]<;>omega
theorem pr4_of {X:Array Fk} {a b c:Nat} (h:a≤c) (h2:c<b) (hb:b≤X.size) (hX:X.size<65536):pr4 X.toList ((a:Int),(b:Int),(c:Int),24,()):=by
 refine ⟨⟨Int.natCast_nonneg _,by simp only;omega,by simp only;omega⟩,⟨?_,?_⟩,rfl⟩<;>simp only [Array.length_toList]<;>omega
theorem prq_of {N:Nat} {X:Array Fk} {a b l:Nat} (h:a≤b) (h2:b - a<N) (hb:b≤X.size) (hX:X.size<65536) (hl:l<64) (hB:Sort.Below lt a b X):prq N X.toList ((a:Int),(b:Int),(l:Int),24,()):=by
 refine ⟨⟨Int.natCast_nonneg _,by simp only;omega,by simp only;omega⟩,⟨⟨?_,?_⟩,Int.natCast_nonneg _,by simp only;omega⟩,rfl,hB⟩<;>simp only [Array.length_toList]<;>omega
def insL (s:List Fk) (y:Int×Int×Nat×Unit):List Fk:=(Sort.insertionSort lt s.toArray y.1.toNat y.2.1.toNat).toList
def heapL (s:List Fk) (y:Int×Int×Nat×Unit):List Fk:=(Sort.heapSort lt s.toArray y.1.toNat y.2.1.toNat).toList
def breakL (s:List Fk) (y:Int×Int×Nat×Unit):List Fk:=(Sort.breakPatterns s.toArray y.1.toNat y.2.1.toNat).toList
def revL (s:List Fk) (y:Int×Int×Nat×Unit):List Fk:=(Sort.reverseRange s.toArray y.1.toNat y.2.1.toNat).toList
def pinsL (s:List Fk) (y:Int×Int×Nat×Unit):List Fk:=(Sort.partialInsertionSort lt s.toArray y.1.toNat y.2.1.toNat).1.toList
def pinsB (s:List Fk) (y:Int×Int×Nat×Unit):Bool:=(Sort.partialInsertionSort lt s.toArray y.1.toNat y.2.1.toNat).2
def pivR (s:List Fk) (y:Int×Int×Nat×Unit):Int×Int:=(((Sort.choosePivot lt s.toArray y.1.toNat y.2.1.toNat).1:Int),hintI (Sort.choosePivot lt s.toArray y.1.toNat y.2.1.toNat).2)
def peqL (s:List Fk) (y:Int×Int×Int×Nat×Unit):List Fk:=(Sort.partitionEqual lt s.toArray y.1.toNat y.2.1.toNat y.2.2.1.toNat).2.toList
def peqR (s:List Fk) (y:Int×Int×Int×Nat×Unit):Int:=((Sort.partitionEqual lt s.toArray y.1.toNat y.2.1.toNat y.2.2.1.toNat).1:Int)
def partL (s:List Fk) (y:Int×Int×Int×Nat×Unit):List Fk:=(Sort.partition lt s.toArray y.1.toNat y.2.1.toNat y.2.2.1.toNat).2.2.toList
def partR (s:List Fk) (y:Int×Int×Int×Nat×Unit):Int×Bool:=(((Sort.partition lt s.toArray y.1.toNat y.2.1.toNat y.2.2.1.toNat).1:Int),(Sort.partition lt s.toArray y.1.toNat y.2.1.toNat y.2.2.1.toNat).2.1)
def pdqL (s:List Fk) (y:Int×Int×Int×Nat×Unit):List Fk:=(Sort.pdq lt s.toArray y.1.toNat y.2.1.toNat y.2.2.1.toNat true true).toList
section
variable (X:Array Fk) (a b c g:Nat)
theorem insL_eq:insL X.toList ((a:Int),(b:Int),g,())=(Sort.insertionSort lt X a b).toList:=rfl
theorem heapL_eq:heapL X.toList ((a:Int),(b:Int),g,())=(Sort.heapSort lt X a b).toList:=rfl
theorem breakL_eq:breakL X.toList ((a:Int),(b:Int),g,())=(Sort.breakPatterns X a b).toList:=rfl
theorem revL_eq:revL X.toList ((a:Int),(b:Int),g,())=(Sort.reverseRange X a b).toList:=rfl
theorem pinsL_eq:pinsL X.toList ((a:Int),(b:Int),g,())=(Sort.partialInsertionSort lt X a b).1.toList:=rfl
theorem pinsB_eq:pinsB X.toList ((a:Int),(b:Int),g,())=(Sort.partialInsertionSort lt X a b).2:=rfl
theorem pivR_eq:pivR X.toList ((a:Int),(b:Int),g,())=(((Sort.choosePivot lt X a b).1:Int),hintI (Sort.choosePivot lt X a b).2):=rfl
theorem peqL_eq:peqL X.toList ((a:Int),(b:Int),(c:Int),g,())=(Sort.partitionEqual lt X a b c).2.toList:=rfl
theorem peqR_eq:peqR X.toList ((a:Int),(b:Int),(c:Int),g,())=((Sort.partitionEqual lt X a b c).1:Int):=rfl
theorem partL_eq:partL X.toList ((a:Int),(b:Int),(c:Int),g,())=(Sort.partition lt X a b c).2.2.toList:=rfl
theorem partR_eq:partR X.toList ((a:Int),(b:Int),(c:Int),g,())=(((Sort.partition lt X a b c).1:Int),(Sort.partition lt X a b c).2.1):=rfl
theorem pdqL_eq:pdqL X.toList ((a:Int),(b:Int),(c:Int),g,())=(Sort.pdq lt X a b c true true).toList:=rfl
end
def Gp (f:FuncId) (a:List SV) (m:List Res):Sx.Call:=(FH.sv 79 TP 3 dFk (.three .int .int .fnc) .unit (pr3 0) (fun _ _=>()) insL<|FH.sv 80 TP 3 dFk (.three .int .int .fnc) .unit (pr3 1) (fun _ _=>()) heapL<|
 FH.sv 81 TP 3 dFk (.three .int .int .fnc) .unit (pr3 8) (fun _ _=>()) breakL<|FH.sv 82 TP 3 dFk (.three .int .int .fnc) (.two .int .int) (pr3 1) pivR (fun s _=>s)<|
 FH.sv 83 TP 3 dFk (.three .int .int .fnc) .unit (pr3 1) (fun _ _=>()) revL<|FH.sv 84 TP 3 dFk (.three .int .int .fnc) (.one .bool) (pr3 1) pinsB pinsL<|
 FH.sv 85 TP 3 dFk (.four .int .int .int .fnc) (.one .int) pr4 peqR peqL<|FH.sv 86 TP 3 dFk (.four .int .int .int .fnc) (.two .int .bool) pr4 partR partL Gc) f a m
theorem Gp_eq (f:FuncId) (a:List SV) (m:List Res):Gp f a m=(FH.sv 79 TP 3 dFk (.three .int .int .fnc) .unit (pr3 0) (fun _ _=>()) insL<|FH.sv 80 TP 3 dFk (.three .int .int .fnc) .unit (pr3 1) (fun _ _=>()) heapL<|
 FH.sv 81 TP 3 dFk (.three .int .int .fnc) .unit (pr3 8) (fun _ _=>()) breakL<|FH.sv 82 TP 3 dFk (.three .int .int .fnc) (.two .int .int) (pr3 1) pivR (fun s _=>s)<|
 FH.sv 83 TP 3 dFk (.three .int .int .fnc) .unit (pr3 1) (fun _ _=>()) revL<|FH.sv 84 TP 3 dFk (.three .int .int .fnc) (.one .bool) (pr3 1) pinsB pinsL<|
 FH.sv 85 TP 3 dFk (.four .int .int .int .fnc) (.one .int) pr4 peqR peqL<|FH.sv 86 TP 3 dFk (.four .int .int .int .fnc) (.two .int .bool) pr4 partR partL Gc) f a m:=nr rfl
theorem pr3_in {k:Nat} {s:List Fk} {y:Int×Int×Nat×Unit} (h:pr3 k s y):∃ a b:Nat,y=((a:Int),(b:Int),24,())∧a+k≤b∧b≤s.toArray.size∧s.toArray.size<65536:=by
 obtain ⟨y1,y2,y3,⟨⟩⟩:=y
 obtain ⟨⟨h1,h2⟩,⟨h3,h4⟩,h5⟩:=h
 simp only at h1 h2 h3 h4 h5
 obtain ⟨a,rfl⟩:=nat_int h1
 obtain ⟨b,rfl⟩:=nat_int (show 0≤y2 by omega)
 subst h5
 exact ⟨a,b,rfl,by omega,by simp;omega,by simpa using h4⟩
theorem pr4_in {s:List Fk} {y:Int×Int×Int×Nat×Unit} (h:pr4 s y):∃ a b c:Nat,y=((a:Int),(b:Int),(c:Int),24,())∧(a≤c∧c<b)∧b≤s.toArray.size∧s.toArray.size<65536:=by
 obtain ⟨y1,y2,y0,y3,⟨⟩⟩:=y
 obtain ⟨⟨h1,h2,h0⟩,⟨h3,h4⟩,h5⟩:=h
 simp only at h1 h2 h3 h4 h5 h0
 obtain ⟨a,rfl⟩:=nat_int h1
 obtain ⟨c,rfl⟩:=nat_int (show 0≤y0 by omega)
 obtain ⟨b,rfl⟩:=nat_int (show 0≤y2 by omega)
 subst h5
 exact ⟨a,b,c,rfl,by omega,by simp;omega,by simpa using h4⟩
theorem prq_in {N:Nat} {s:List Fk} {y:Int×Int×Int×Nat×Unit} (h:prq N s y):∃ a b l:Nat,y=((a:Int),(b:Int),(l:Int),24,())∧(a≤b∧b - a<N)∧(b≤s.toArray.size∧s.toArray.size<65536)∧l<64∧Sort.Below lt a b s.toArray:=by
 obtain ⟨y1,y2,y0,y3,⟨⟩⟩:=y
 obtain ⟨⟨h1,h2,h0⟩,⟨⟨h3,h4⟩,h6,h7⟩,h5,hB⟩:=h
 simp only at h1 h2 h3 h4 h5 h0 h6 h7 hB
 obtain ⟨a,rfl⟩:=nat_int h1
 obtain ⟨c,rfl⟩:=nat_int h6
 obtain ⟨b,rfl⟩:=nat_int (show 0≤y2 by omega)
 subst h5
 exact ⟨a,b,c,rfl,⟨by omega,by omega⟩,⟨by simp;omega,by simpa using h4⟩,by omega,hB⟩
theorem Gp_ok:FHOK Try.prog main Fz Gp:=FH.sv_ok (by decide) (by kernel_rfl) (fun s y h=>by
  obtain ⟨a,b,rfl,h1,h2,h3⟩:=pr3_in (k:=0) h
  exact f_ins (main:=main) (Fz:=Fz) s.toArray a b h2 (by omega) (by omega))<|FH.sv_ok (by decide) (by kernel_rfl) (fun s y h=>by
  obtain ⟨a,b,rfl,h1,h2,h3⟩:=pr3_in (k:=1) h
  exact f_heap (main:=main) (Fz:=Fz) s.toArray a b h2 (by omega) (by omega))<|FH.sv_ok (by decide) (by kernel_rfl) (fun s y h=>by
  obtain ⟨a,b,rfl,h1,h2,h3⟩:=pr3_in (k:=8) h
  exact f_break (main:=main) (Fz:=Fz) s.toArray a b h2 (by omega) (by omega))<|FH.sv_ok (by decide) (by kernel_rfl) (fun s y h=>by
  obtain ⟨a,b,rfl,h1,h2,h3⟩:=pr3_in (k:=1) h
  exact f_pivot (main:=main) (Fz:=Fz) s.toArray a b (by omega) h2 (by omega))<|FH.sv_ok (by decide) (by kernel_rfl) (fun s y h=>by
  obtain ⟨a,b,rfl,h1,h2,h3⟩:=pr3_in (k:=1) h
  exact f_rev (main:=main) (Fz:=Fz) s.toArray a b (by omega) h2 (by omega))<|FH.sv_ok (by decide) (by kernel_rfl) (fun s y h=>by
  obtain ⟨a,b,rfl,h1,h2,h3⟩:=pr3_in (k:=1) h
  exact f_pins (main:=main) (Fz:=Fz) s.toArray a b h2 (by omega) (by omega))<|FH.sv_ok (by decide) (by kernel_rfl) (fun s y h=>by
  obtain ⟨a,b,c,rfl,h1,h2,h3⟩:=pr4_in h
  exact f_partEq (main:=main) (Fz:=Fz) s.toArray a b c h2 (by omega) h1.1 h1.2)<|FH.sv_ok (by decide) (by kernel_rfl) (fun s y h=>by
  obtain ⟨a,b,c,rfl,h1,h2,h3⟩:=pr4_in h
  exact f_part (main:=main) (Fz:=Fz) s.toArray a b c h2 (by omega) h1.1 h1.2) Gc_ok
def Gq (N:Nat) (f:FuncId) (x:List SV) (m:List Res):Sx.Call:=(FH.sv 46 TP 3 dFk (.four .int .int .int .fnc) .unit (prq N) (fun _ _=>()) pdqL Gp) f x m
theorem Gq_eq (N:Nat) (f:FuncId) (x:List SV) (m:List Res):Gq N f x m=(FH.sv 46 TP 3 dFk (.four .int .int .int .fnc) .unit (prq N) (fun _ _=>()) pdqL Gp) f x m:=nr rfl
def L8 (τ:Fr) (a b lim:Nat) (wb wp:Bool) (n:Nat):Prop:=(Sx.look 0 τ= .vec 0 n∧Sx.look 1 τ= .int .i64 a∧Sx.look 2 τ= .int .i64 b)∧(Sx.look 4 τ=cF∧Sx.look 3 τ= .int .i64 lim)∧Sx.look 10 τ= .bool wb∧Sx.look 11 τ= .bool wp
theorem pdq_size (X:Array Fk) (a b l:Nat) (u v:Bool) (hab:a≤b) (hb:b≤X.size) (hB:Sort.Below lt a b X):(Sort.pdq lt X a b l u v).size=X.size:=
 (Sort.pdq_holds Sort.insertionSort_holds Sort.heapSort_holds Sort.partialInsertionSort_holds (Sort.partition_holds lt) (Sort.partitionEqual_holds lt) Sort.reverseRange_holds swo_lt X a b l u v hab hb hB).1.1
theorem wpt (N:Nat) (n0:Nat) (hn:n0=1) (X:Array Fk) (a b pv lim n:Nat) (ha:a≤pv) (hp:pv<b) (hN:b - a≤N) (hb:b≤n) (hn2:n=X.size) (hX:n<65536) (hl:lim<64) (hB:Sort.Below lt a b X)
  (mid:Nat) (ap:Bool) (d4:Array Fk) (hP:Sort.partition lt X a b pv=(mid,ap,d4))
  (τ:Fr) (h0:Sx.look 0 τ= .vec 0 n) (h1:Sx.look 1 τ= .int .i64 a) (h2:Sx.look 2 τ= .int .i64 b) (h4:Sx.look 4 τ=cF) (h3:Sx.look 3 τ= .int .i64 lim) (h12:Sx.look 12 τ= .int .i64 ((b - a:Nat):Int)) (h13:Sx.look 13 τ= .int .i64 pv)
  {Q:Ex→Fr→List Res→Prop}
  (hq1:mid - a<b - mid→∀ τ',L8 τ' (mid+1) b lim (decide (mid - a≥(b - a)/8)) ap n→Q .norm τ' [mv (Sort.pdq lt d4 a mid lim true true)])
  (hq2:¬ mid - a<b - mid→∀ τ',L8 τ' a mid lim (decide (b - mid≥(b - a)/8)) ap n→Q .norm τ' [mv (Sort.pdq lt d4 (mid+1) b lim true true)]):
  JC.wp (Gq N) n0 j46_pt Q τ [mv X]:=by
 subst hn
 obtain ⟨g1,g2,g3,g4,g5,_,_⟩:=Sort.round_part swo_lt (Sort.partition_holds lt) ha hp (by omega) hB hP
 have p1:pr4 X.toList ((a:Int),(b:Int),(pv:Int),24,()):=pr4_of ha hp (by omega) (by omega)
 have e1:(Sort.partition lt X a b pv).1=mid:=by rw [hP]
 have e2:(Sort.partition lt X a b pv).2.1=ap:=by rw [hP]
 have e3:(Sort.partition lt X a b pv).2.2=d4:=by rw [hP]
 have w1:IntKind.i64.wrap ((mid:Int) - a)=((mid - a:Nat):Int):=by rw [IntWalk.i64_in _ (by omega)];omega
 have w2:IntKind.i64.wrap ((b:Int) - mid)=((b - mid:Nat):Int):=by rw [IntWalk.i64_in _ (by omega)];omega
 have w3:(((b - a:Nat):Int)).tdiv 8=(((b - a)/8:Nat):Int):=rfl
 have w4:IntKind.i64.wrap (((b - a)/8:Nat):Int)=(((b - a)/8:Nat):Int):=IntWalk.i64_in _ (by omega)
 have w5:IntKind.i64.wrap ((mid:Int)+1)=((mid+1:Nat):Int):=IntWalk.i64_in _ (by omega)
 by_cases hm:mid - a<b - mid
 ·have p2:prq N d4.toList ((a:Int),(mid:Int),(lim:Int),24,()):=prq_of g1 (by omega) (by omega) (by omega) hl g4
  have hs:=pdq_size d4 a mid lim true true g1 (by omega) g4
  unfold j46_pt
  simp only [go_sem,seval,h0,h1,h2,h3,h4,h12,h13,mv,Gq_eq,Gp_eq,p1,partL_eq,partR_eq,e1,e2,e3,w1,w2,w3,w4,w5,hm,p2,pdqL_eq,← hn2,g3,Int.ofNat_lt,Int.ofNat_le]
  refine hq1 hm _ ?_
  simp only [go_sem,seval,L8,h0,h1,h2,h3,h4]
 ·have p2:prq N d4.toList (((mid+1:Nat):Int),(b:Int),(lim:Int),24,()):=prq_of (by omega) (by omega) (by omega) (by omega) hl g5
  have hs:=pdq_size d4 (mid+1) b lim true true (by omega) (by omega) g5
  unfold j46_pt
  simp only [go_sem,seval,h0,h1,h2,h3,h4,h12,h13,mv,Gq_eq,Gp_eq,p1,partL_eq,partR_eq,e1,e2,e3,w1,w2,w3,w4,w5,hm,p2,pdqL_eq,← hn2,g3,Int.ofNat_lt,Int.ofNat_le]
  refine hq2 hm _ ?_
  simp only [go_sem,seval,L8,h0,h1,h2,h3,h4]
def tailM (X:Array Fk) (a b pv lim:Nat) (wb wp:Bool):Array Fk:=
 if a>0&& !lt X[a - 1]! X[pv]! then
  match Sort.partitionEqual lt X a b pv with
  |(mid,d4)=>if _h:a<mid∧mid≤b then Sort.pdq lt d4 mid b lim wb wp else d4
 else
  match Sort.partition lt X a b pv with
  |(mid,ap,d4)=>
   if _h:a≤mid∧mid<b then
    if mid - a<b - mid then Sort.pdq lt (Sort.pdq lt d4 a mid lim true true) (mid+1) b lim (decide (mid - a≥(b - a)/8)) ap
    else Sort.pdq lt (Sort.pdq lt d4 (mid+1) b lim true true) a mid lim (decide (b - mid≥(b - a)/8)) ap
   else d4
def OutP (R:Array Fk) (a b lim n:Nat) (Q:Ex→Fr→List Res→Prop):Prop:= ∀ e,(e= .exit 1∨e= .norm)→∀ (τ':Fr) (a' b':Nat) (wb' wp':Bool) (Y:Array Fk),L8 τ' a' b' lim wb' wp' n→(a'≤b'∧b'≤n∧b' - a'<b - a)→(Y.size=n∧Sort.Below lt a' b' Y)→Sort.pdq lt Y a' b' lim wb' wp'=R→Q e τ' [mv Y]
theorem wtl (N:Nat) (n0:Nat) (hn:n0=1) (X:Array Fk) (a b pv lim n:Nat) (wb wp:Bool) (ha:a≤pv) (hp:pv<b) (hN:b - a≤N) (hb:b≤n) (hn2:n=X.size) (hX:n<65536) (hl:lim<64) (hB:Sort.Below lt a b X)
  (R:Array Fk) (hR:tailM X a b pv lim wb wp=R) (τ:Fr) (h:L8 τ a b lim wb wp n) (h12:Sx.look 12 τ= .int .i64 ((b - a:Nat):Int)) (h13:Sx.look 13 τ= .int .i64 pv)
  {Q:Ex→Fr→List Res→Prop} (hq:OutP R a b lim n Q):JC.wp (Gq N) n0 j46_tl Q τ [mv X]:=by
 subst hn
 obtain ⟨⟨h0,h1,h2⟩,⟨h4,h3⟩,h10,h11⟩:=h
 have hpart:¬ (a>0∧lt X[a - 1]! X[pv]! =false)→∀ τ':Fr,Sx.look 0 τ'= .vec 0 n→Sx.look 1 τ'= .int .i64 a→Sx.look 2 τ'= .int .i64 b→Sx.look 4 τ'=cF→Sx.look 3 τ'= .int .i64 lim→Sx.look 12 τ'= .int .i64 ((b - a:Nat):Int)→Sx.look 13 τ'= .int .i64 pv→
   JC.wp (Gq N) 1 j46_pt Q τ' [mv X]:=fun hc τ' q0 q1 q2 q4 q3 q12 q13=>by
  obtain ⟨⟨mid,ap,d4⟩,hP⟩:∃ p,p=Sort.partition lt X a b pv:=⟨_,rfl⟩
  obtain ⟨g1,g2,g3,g4,g5,g6,g7⟩:=Sort.round_part swo_lt (Sort.partition_holds lt) ha hp (by omega) hB hP.symm
  unfold tailM at hR
  rw [if_neg (by simp only [Bool.and_eq_true,decide_eq_true_eq,Bool.not_eq_true'];exact hc),← hP] at hR
  simp only at hR
  rw [dif_pos ⟨g1,g2⟩] at hR
  have so:=fun a' b' l u v=>Sort.pdq_holds Sort.insertionSort_holds Sort.heapSort_holds Sort.partialInsertionSort_holds (Sort.partition_holds lt) (Sort.partitionEqual_holds lt) Sort.reverseRange_holds swo_lt d4 a' b' l u v
  refine wpt N 1 rfl X a b pv lim n ha hp hN hb hn2 hX hl hB mid ap d4 hP.symm τ' q0 q1 q2 q4 q3 q12 q13 (fun hm τ2 hτ=> ?_) (fun hm τ2 hτ=> ?_)
  ·rw [if_pos hm] at hR
   obtain ⟨s1,s2⟩:=so a mid lim true true g1 (by omega) g4
   exact hq _ (.inr rfl) τ2 _ _ _ _ _ hτ ⟨by omega,hb,by omega⟩ ⟨by rw [s1.1,g3,hn2],(g6 _ s1 s2).1⟩ hR
  ·rw [if_neg hm] at hR
   obtain ⟨s1,s2⟩:=so (mid+1) b lim true true (by omega) (by omega) g5
   exact hq _ (.inr rfl) τ2 _ _ _ _ _ hτ ⟨by omega,by omega,by omega⟩ ⟨by rw [s1.1,g3,hn2],(g7 _ s1 s2).1⟩ hR
 have r1:pv<n:=by omega
 by_cases h0a:a=0
 ·subst h0a
  have e0:((0:Int)< ((0:Nat):Int))=False:=by simp
  unfold j46_tl
  simp only [go_sem,seval,h0,h1,h2,h3,h4,h10,h11,h12,h13,mv,Gq_eq,Gp_eq,Gc_eq,e0,rd,r1,wd_fk,agg_fk,lt_cmp,← hn2,Int.ofNat_lt,Int.ofNat_le,Int.natCast_nonneg]
  refine hpart (fun x=>by omega) _ ?_ ?_ ?_ ?_ ?_ ?_ ?_
  all_goals simp only [go_sem,seval,h0,h1,h2,h3,h4,h12,h13]
 ·have e0:((0:Int)< (a:Int))=True:=by simp;omega
  have w1:IntKind.i64.wrap ((a:Int) - 1)=((a - 1:Nat):Int):=by rw [IntWalk.i64_in _ (by omega)];omega
  have r2:a - 1<n:=by omega
  have p1:pr4 X.toList ((a:Int),(b:Int),(pv:Int),24,()):=pr4_of ha hp (by omega) (by omega)
  unfold j46_tl
  simp only [go_sem,seval,h0,h1,h2,h3,h4,h10,h11,h12,h13,mv,Gq_eq,Gp_eq,Gc_eq,e0,w1,p1,peqR_eq,peqL_eq,rd,r1,r2,wd_fk,agg_fk,lt_cmp,← hn2,Int.ofNat_lt,Int.natCast_nonneg]
  refine ⟨fun hl=> ?_,fun hl=> ?_⟩
  ·have hf:lt X[a - 1]! X[pv]! =false:=by simpa using hl
   obtain ⟨⟨mid,d4⟩,hP⟩:∃ p,p=Sort.partitionEqual lt X a b pv:=⟨_,rfl⟩
   obtain ⟨g1,g2,g3,g4,_⟩:=Sort.round_eq swo_lt (Sort.partitionEqual_holds lt) (by omega) ha hp (by omega) hB hf hP.symm
   unfold tailM at hR
   rw [if_pos (by simp only [Bool.and_eq_true,decide_eq_true_eq,Bool.not_eq_true'];exact ⟨by omega,hf⟩),← hP] at hR
   simp only at hR
   rw [dif_pos ⟨g1,g2⟩] at hR
   rw [← hP]
   refine hq _ (.inl rfl) _ mid b wb wp d4 ?_ ⟨g2,hb,by omega⟩ ⟨g3.trans hn2.symm,g4⟩ hR
   simp only [go_sem,seval,L8]
  ·refine hpart (fun x=>by rw [x.2] at hl;cases hl) _ ?_ ?_ ?_ ?_ ?_ ?_ ?_
   all_goals simp only [go_sem,seval,h0,h1,h2,h3,h4,h12,h13]
def midM (X:Array Fk) (a b pv:Nat) (hint:Sort.Hint) (lim:Nat) (wb wp:Bool):Array Fk:=
 let pi:=if wb&&wp&&hint= .increasing then Sort.partialInsertionSort lt X a b else (X,false)
 if pi.2 then pi.1 else tailM pi.1 a b pv lim wb wp
theorem midM_pos {X:Array Fk} {a b pv:Nat} {hint:Sort.Hint} {lim:Nat} {wb wp:Bool} (h:(wb&&wp&&decide (hint= .increasing))=true):
  midM X a b pv hint lim wb wp=if (Sort.partialInsertionSort lt X a b).2=true then (Sort.partialInsertionSort lt X a b).1 else tailM (Sort.partialInsertionSort lt X a b).1 a b pv lim wb wp:=by
 unfold midM;simp only [h,if_true]
theorem midM_neg {X:Array Fk} {a b pv:Nat} {hint:Sort.Hint} {lim:Nat} {wb wp:Bool} (h:¬ (wb&&wp&&decide (hint= .increasing))=true):
  midM X a b pv hint lim wb wp=tailM X a b pv lim wb wp:=by
 unfold midM
 simp only [if_neg h]
 rfl
theorem hint_inc (h:Sort.Hint):(hintI h=1)=(h= .increasing):=by cases h<;>simp [hintI]
theorem hint_dec (h:Sort.Hint):(hintI h=2)=(h= .decreasing):=by cases h<;>simp [hintI]
theorem wmd (N:Nat) (n0:Nat) (hn:n0=1) (X:Array Fk) (a b pv lim n:Nat) (hint:Sort.Hint) (wb wp:Bool) (ha:a≤pv) (hp:pv<b) (hN:b - a≤N) (hb:b≤n) (hn2:n=X.size) (hX:n<65536) (hl:lim<64) (hB:Sort.Below lt a b X)
  (R:Array Fk) (hR:midM X a b pv hint lim wb wp=R) (τ:Fr) (h:L8 τ a b lim wb wp n) (h12:Sx.look 12 τ= .int .i64 ((b - a:Nat):Int)) (h13:Sx.look 13 τ= .int .i64 pv) (h14:Sx.look 14 τ= .int .i64 (hintI hint))
  {Q:Ex→Fr→List Res→Prop} (hr:∀ τ',Q .ret τ' [mv R]) (hq:OutP R a b lim n Q):JC.wp (Gq N) n0 j46_md Q τ [mv X]:=by
 subst hn
 obtain ⟨⟨h0,h1,h2⟩,⟨h4,h3⟩,h10,h11⟩:=h
 by_cases hc:(wb&&wp&&decide (hint= .increasing))=true
 ·rw [midM_pos hc] at hR
  simp only [Bool.and_eq_true,decide_eq_true_eq] at hc
  obtain ⟨⟨rfl,rfl⟩,rfl⟩:=hc
  have p1:pr3 1 X.toList ((a:Int),(b:Int),24,()):=pr3_of 1 (by omega) (by omega) (by omega)
  have st:=Sort.partialInsertionSort_holds swo_lt X a b (by omega) (by omega) hB
  have e1:hintI .increasing=1:=rfl
  rw [e1] at h14
  generalize hpi:Sort.partialInsertionSort lt X a b=pi at hR st
  have hb2:pinsB X.toList ((a:Int),(b:Int),24,())=pi.2:=by rw [pinsB_eq,hpi]
  have hb1:pinsL X.toList ((a:Int),(b:Int),24,())=pi.1.toList:=by rw [pinsL_eq,hpi]
  unfold j46_md
  simp only [go_sem,seval,h0,h1,h2,h3,h4,h10,h11,h12,h13,h14,mv,Gq_eq,Gp_eq,p1,hb1,hb2,← hn2]
  refine ⟨fun hl2=> ?_,fun hl2=> ?_⟩
  ·rw [if_pos hl2] at hR
   subst hR
   exact hr _
  ·rw [if_neg (by rw [hl2];simp)] at hR
   refine wtl N 1 rfl pi.1 a b pv lim n true true ha hp hN hb (by rw [st.1.1,hn2]) hX hl (hB.perm (by omega) st.1) R hR _ ?_ ?_ ?_ hq
   ·simp only [go_sem,seval,L8,h0,h1,h2,h3,h4,h10,h11,h12,h13]
   ·simp only [go_sem,seval,h12]
   ·simp only [go_sem,seval,h13]
 ·rw [midM_neg hc] at hR
  have key:∀ τ':Fr,L8 τ' a b lim wb wp n→Sx.look 12 τ'= .int .i64 ((b - a:Nat):Int)→Sx.look 13 τ'= .int .i64 pv→JC.wp (Gq N) 1 j46_tl Q τ' [mv X]:=
   fun τ' g g12 g13=>wtl N 1 rfl X a b pv lim n wb wp ha hp hN hb hn2 hX hl hB R hR τ' g g12 g13 hq
  cases wb with
  |false=>
   unfold j46_md
   simp only [go_sem,seval,h0,h1,h2,h3,h4,h10,h11,h12,h13,h14,mv]
   refine key _ ?_ ?_ ?_
   ·simp only [go_sem,seval,L8,h0,h1,h2,h3,h4,h10,h11,h12,h13]
   ·simp only [go_sem,seval,h12]
   ·simp only [go_sem,seval,h13]
  |true=>
   cases wp with
   |false=>
    unfold j46_md
    simp only [go_sem,seval,h0,h1,h2,h3,h4,h10,h11,h12,h13,h14,mv]
    refine key _ ?_ ?_ ?_
    ·simp only [go_sem,seval,L8,h0,h1,h2,h3,h4,h10,h11,h12,h13]
    ·simp only [go_sem,seval,h12]
    ·simp only [go_sem,seval,h13]
   |true=>
    have hne:(hintI hint=1)=False:=by rw [hint_inc];simpa using hc
    unfold j46_md
    simp only [go_sem,seval,h0,h1,h2,h3,h4,h10,h11,h12,h13,h14,hne,mv]
    refine key _ ?_ ?_ ?_
    ·simp only [go_sem,seval,L8,h0,h1,h2,h3,h4,h10,h11,h12,h13]
    ·simp only [go_sem,seval,h12]
    ·simp only [go_sem,seval,h13]
def pvM (X:Array Fk) (a b lim:Nat) (wb wp:Bool):Array Fk:=
 if (Sort.choosePivot lt X a b).2= .decreasing then midM (Sort.reverseRange X a b) a b ((b - 1) - ((Sort.choosePivot lt X a b).1 - a)) .increasing lim wb wp
 else midM X a b (Sort.choosePivot lt X a b).1 (Sort.choosePivot lt X a b).2 lim wb wp
theorem wpv (N:Nat) (n0:Nat) (hn:n0=1) (X:Array Fk) (a b lim n:Nat) (wb wp:Bool) (hab:a<b) (hN:b - a≤N) (hb:b≤n) (hn2:n=X.size) (hX:n<65536) (hl:lim<64) (hB:Sort.Below lt a b X)
  (R:Array Fk) (hR:pvM X a b lim wb wp=R) (τ:Fr) (h:L8 τ a b lim wb wp n) (h12:Sx.look 12 τ= .int .i64 ((b - a:Nat):Int))
  {Q:Ex→Fr→List Res→Prop} (hr:∀ τ',Q .ret τ' [mv R]) (hq:OutP R a b lim n Q):JC.wp (Gq N) n0 j46_pv Q τ [mv X]:=by
 subst hn
 obtain ⟨⟨h0,h1,h2⟩,⟨h4,h3⟩,h10,h11⟩:=h
 have p1:pr3 1 X.toList ((a:Int),(b:Int),24,()):=pr3_of 1 (by omega) (by omega) (by omega)
 obtain ⟨c1,c2⟩:=Sort.choosePivot_holds lt X a b hab
 unfold pvM at hR
 generalize hC:Sort.choosePivot lt X a b=c at hR c1 c2
 have hb2:pivR X.toList ((a:Int),(b:Int),24,())=((c.1:Int),hintI c.2):=by rw [pivR_eq,hC]
 by_cases hd:c.2= .decreasing
 ·rw [if_pos hd] at hR
  have st:=Sort.reverseRange_holds X a b (by omega) (by omega)
  have w1:IntKind.i64.wrap ((b:Int) - 1)=((b - 1:Nat):Int):=by rw [IntWalk.i64_in _ (by omega)];omega
  have w2:IntKind.i64.wrap ((c.1:Int) - a)=((c.1 - a:Nat):Int):=by rw [IntWalk.i64_in _ (by omega)];omega
  have w3:IntKind.i64.wrap (((b - 1:Nat):Int) - ((c.1 - a:Nat):Int))=((b - 1 - (c.1 - a):Nat):Int):=by rw [IntWalk.i64_in _ (by omega)];omega
  have hd':(hintI c.2=2)=True:=by rw [hint_dec];simpa using hd
  unfold j46_pv
  simp only [go_sem,seval,h0,h1,h2,h3,h4,h10,h11,h12,mv,Gq_eq,Gp_eq,p1,hb2,hd',revL_eq,w1,w2,w3,← hn2]
  refine wmd N 1 rfl (Sort.reverseRange X a b) a b (b - 1 - (c.1 - a)) lim n .increasing wb wp (by omega) (by omega) hN hb (by rw [st.1,hn2]) hX hl (hB.perm (by omega) st) R hR _ ?_ ?_ ?_ ?_ hr hq
  ·simp only [go_sem,seval,L8,h0,h1,h2,h3,h4,h10,h11,h12]
  ·simp only [go_sem,seval,h12]
  ·simp only [go_sem,seval]
  ·simp only [go_sem,seval,hintI]
 ·rw [if_neg hd] at hR
  have hd':(hintI c.2=2)=False:=by rw [hint_dec];simpa using hd
  unfold j46_pv
  simp only [go_sem,seval,h0,h1,h2,h3,h4,h10,h11,h12,mv,Gq_eq,Gp_eq,p1,hb2,hd',← hn2]
  refine wmd N 1 rfl X a b c.1 lim n c.2 wb wp c1 c2 hN hb hn2 hX hl hB R hR _ ?_ ?_ ?_ ?_ hr hq
  ·simp only [go_sem,seval,L8,h0,h1,h2,h3,h4,h10,h11,h12]
  ·simp only [go_sem,seval,h12]
  ·simp only [go_sem,seval]
  ·simp only [go_sem,seval,hintI]
theorem pdq_big {X:Array Fk} {a b limit:Nat} {wb wp:Bool} (h12:¬ b - a≤12) (h0:¬ limit=0):Sort.pdq lt X a b limit wb wp=pvM (if (!wb)=true then Sort.breakPatterns X a b else X) a b (if (!wb)=true then limit - 1 else limit) wb wp:=by
 rw [Sort.pdq,if_neg h12,if_neg h0]
 unfold pvM
 by_cases hd:(Sort.choosePivot lt (if (!wb)=true then Sort.breakPatterns X a b else X) a b).2= .decreasing
 ·rw [if_pos hd]
  simp only [hd,if_true]
  rfl
 ·rw [if_neg hd]
  simp only [hd,if_false]
  rfl
theorem f_pdqN (N:Nat) (ih:FHOK Try.prog main Fz (Gq N)) (X:Array Fk) (a b limit:Nat) (hab:a≤b) (hN:b - a≤N) (hb:b≤X.size) (hX:X.size<65536) (hl:limit<64) (hB:Sort.Below lt a b X):
  FnOK Try.prog main Fz 46 [.vec 0 X.size, .int .i64 a, .int .i64 b, .int .i64 limit,cF] [mv X] (.tup []) [mv (Sort.pdq lt X a b limit true true)]:=by
 refine fn_walkF c46 w46 ih rfl ?_
 obtain ⟨R,hR⟩:∃ R,R=Sort.pdq lt X a b limit true true:=⟨_,rfl⟩
 rw [← hR]
 unfold j46
 simp only [go_sem,seval,mv]
 refine loopF (Nat×Nat×Nat×Bool×Bool×Array Fk) (fun s=>[.int .i64 s.2.1, .int .i64 s.1, .int .i64 s.2.2.1, .bool s.2.2.2.1, .bool s.2.2.2.2.1]) (fun s=>[mv s.2.2.2.2.2]) (fun s=>(s.1≤s.2.1∧s.2.1 - s.1≤N∧s.2.1≤X.size)∧(s.2.2.1<64∧s.2.2.2.2.2.size=X.size∧Sort.Below lt s.1 s.2.1 s.2.2.2.2.2)∧Sort.pdq lt s.2.2.2.2.2 s.1 s.2.1 s.2.2.1 s.2.2.2.1 s.2.2.2.2.1=R) (fun s=>s.2.1 - s.1) (a,b,limit,true,true,X) ⟨⟨hab,hN,hb⟩,⟨hl,rfl,hB⟩,hR.symm⟩ ?_ rfl ?_
 ·simp only [go_sem,seval]
 rintro ⟨i,j,lim,wb,wp,Y⟩ ⟨⟨k0,k1,k2⟩,⟨k3,k4,k5⟩,k6⟩
 simp only at k0 k1 k2 k3 k4 k5 k6
 have w1:IntKind.i64.wrap ((j:Int) - i)=((j - i:Nat):Int):=by rw [IntWalk.i64_in _ (by omega)];omega
 have q0:pr3 0 Y.toList ((i:Int),(j:Int),24,()):=pr3_of 0 (by omega) (by omega) (by omega)
 by_cases h12:j - i≤12
 ·have e1:(((j - i:Nat):Int)≤12)=True:=by simp;omega
  have e:R=Sort.insertionSort lt Y i j:=by rw [← k6,Sort.pdq,if_pos h12]
  rw [j46_1_eq]
  simp only [go_sem,seval,w1,e1,Gq_eq,Gp_eq,q0,insL_eq,k4,mv,e]
 have e1:(((j - i:Nat):Int)≤12)=False:=by simp;omega
 have q1:pr3 1 Y.toList ((i:Int),(j:Int),24,()):=pr3_of 1 (by omega) (by omega) (by omega)
 by_cases h0:lim=0
 ·subst h0
  have e:R=Sort.heapSort lt Y i j:=by rw [← k6,Sort.pdq,if_neg h12,if_pos rfl]
  have e2:(((0:Nat):Int)=0)=True:=by simp
  rw [j46_1_eq]
  simp only [go_sem,seval,w1,e1,e2,Gq_eq,Gp_eq,q1,heapL_eq,k4,mv,e]
 have e2:((lim:Int)=0)=False:=by simp;omega
 rw [pdq_big h12 h0] at k6
 cases wb with
 |true=>
  rw [j46_1_eq]
  simp only [go_sem,seval,w1,e1,e2,mv]
  refine wpv N _ rfl Y i j lim X.size true wp (by omega) k1 k2 k4.symm (by omega) k3 k5 R k6 _ ?_ ?_ ?_ ?_
  ·simp only [go_sem,seval,L8]
  ·simp only [go_sem,seval]
  ·intro τ'
   simp only [go_sem,seval,mv]
  ·intro e he τ' a' b' wb' wp' V hL h1 h2 h3
   obtain ⟨⟨g0,g1,g2⟩,⟨g4,g3⟩,g10,g11⟩:=hL
   have hfin:∃ s:Nat×Nat×Nat×Bool×Bool×Array Fk,((s.1≤s.2.1∧s.2.1 - s.1≤N∧s.2.1≤X.size)∧(s.2.2.1<64∧s.2.2.2.2.2.size=X.size∧Sort.Below lt s.1 s.2.1 s.2.2.2.2.2)∧Sort.pdq lt s.2.2.2.2.2 s.1 s.2.1 s.2.2.1 s.2.2.2.1 s.2.2.2.2.1=R)∧s.2.1 - s.1<j - i∧s=(a',b',lim,wb',wp',V):=
    ⟨_,⟨⟨h1.1,by have:=h1.2.2;simp only;omega,h1.2.1⟩,⟨by simp only;omega,h2.1,h2.2⟩,h3⟩,h1.2.2,rfl⟩
   obtain ⟨s,f1,f2,rfl⟩:=hfin
   rcases he with rfl|rfl
   ·simp only [go_sem,seval,mv]
    refine ⟨_,f1,f2,?_⟩
    simp only [go_sem,seval,g0,g1,g2,g4,g3,g10,g11]
   ·simp only [go_sem,seval,mv]
    refine ⟨_,f1,f2,?_⟩
    simp only [go_sem,seval,g0,g1,g2,g4,g3,g10,g11]
 |false=>
  have q8:pr3 8 Y.toList ((i:Int),(j:Int),24,()):=pr3_of 8 (by omega) (by omega) (by omega)
  have st:=Sort.breakPatterns_holds Y i j (by omega) (by omega)
  have w2:IntKind.i64.wrap ((lim:Int) - 1)=((lim - 1:Nat):Int):=by rw [IntWalk.i64_in _ (by omega)];omega
  rw [j46_1_eq]
  simp only [go_sem,seval,w1,e1,e2,w2,Gq_eq,Gp_eq,q8,breakL_eq,k4,mv]
  refine wpv N _ rfl (Sort.breakPatterns Y i j) i j (lim - 1) X.size false wp (by omega) k1 k2 (by rw [st.1,k4]) (by omega) (by omega) (k5.perm (by omega) st) R k6 _ ?_ ?_ ?_ ?_
  ·simp only [go_sem,seval,L8]
  ·simp only [go_sem,seval]
  ·intro τ'
   simp only [go_sem,seval,mv]
  ·intro e he τ' a' b' wb' wp' V hL h1 h2 h3
   obtain ⟨⟨g0,g1,g2⟩,⟨g4,g3⟩,g10,g11⟩:=hL
   have hfin:∃ s:Nat×Nat×Nat×Bool×Bool×Array Fk,((s.1≤s.2.1∧s.2.1 - s.1≤N∧s.2.1≤X.size)∧(s.2.2.1<64∧s.2.2.2.2.2.size=X.size∧Sort.Below lt s.1 s.2.1 s.2.2.2.2.2)∧Sort.pdq lt s.2.2.2.2.2 s.1 s.2.1 s.2.2.1 s.2.2.2.1 s.2.2.2.2.1=R)∧s.2.1 - s.1<j - i∧s=(a',b',lim - 1,wb',wp',V):=
    ⟨_,⟨⟨h1.1,by have:=h1.2.2;simp only;omega,h1.2.1⟩,⟨by simp only;omega,h2.1,h2.2⟩,h3⟩,h1.2.2,rfl⟩
   obtain ⟨s,f1,f2,rfl⟩:=hfin
   rcases he with rfl|rfl
   ·simp only [go_sem,seval,mv]
    refine ⟨_,f1,f2,?_⟩
    simp only [go_sem,seval,g0,g1,g2,g4,g3,g10,g11]
   ·simp only [go_sem,seval,mv]
    refine ⟨_,f1,f2,?_⟩
    simp only [go_sem,seval,g0,g1,g2,g4,g3,g10,g11]
theorem Gq_ok (N:Nat):FHOK Try.prog main Fz (Gq N):=by
 induction N using Nat.strongRecOn with
 |ind N ih=>
  have key:FHOK Try.prog main Fz (FH.sv 46 TP 3 dFk (.four .int .int .int .fnc) .unit (prq N) (fun _ _=>()) pdqL Gp):=FH.sv_ok (by decide) (by kernel_rfl) (fun s y h=>by
   obtain ⟨a,b,l,rfl,h1,h2,h3,hB⟩:=prq_in h
   exact f_pdqN (b - a) (ih _ h1.2) s.toArray a b l h1.1 (Nat.le_refl _) h2.1 h2.2 h3 hB) Gp_ok
  exact key
def Gsf (f:FuncId) (a:List SV) (m:List Res):Sx.Call:=(FH.sv 46 TP 3 dFk (.four .int .int .int .fnc) .unit (prq 65536) (fun _ _=>()) pdqL Gln) f a m
theorem Gsf_eq (f:FuncId) (a:List SV) (m:List Res):Gsf f a m=(FH.sv 46 TP 3 dFk (.four .int .int .int .fnc) .unit (prq 65536) (fun _ _=>()) pdqL Gln) f a m:=nr rfl
theorem Gsf_ok:FHOK Try.prog main Fz Gsf:=FH.sv_ok (by decide) (by kernel_rfl) (fun s y h=>by
 obtain ⟨a,b,l,rfl,h1,h2,h3,hB⟩:=prq_in h
 exact f_pdqN (b - a) (Gq_ok _) s.toArray a b l h1.1 (Nat.le_refl _) h2.1 h2.2 h3 hB) Gln_ok
theorem f_sortF (X:Array Fk) (hX:X.size<65536):FnOK Try.prog main Fz 23 [.vec 0 X.size,cF] [mv X] (.tup []) [mv (Sort.sort lt X)]:=by
 refine fn_walkF c23 w23 Gsf_ok rfl ?_
 have w1:IntKind.u64.wrap (X.size:Int)=X.size:=IntWalk.u64_in _ (by omega)
 have hb:=bl_16 hX
 have p1:prq 65536 X.toList (((0:Nat):Int),(X.size:Int),(Sort.bitsLen X.size:Int),24,()):=prq_of (Nat.zero_le _) (by omega) (Nat.le_refl _) hX (by omega) (.inl rfl)
 have e1:pdqL X.toList (0,(X.size:Int),(Sort.bitsLen X.size:Int),24,())=(Sort.sort lt X).toList:=rfl
 unfold j23
 simp only [go_sem,seval,mv,Gsf_eq,Gln_eq,w1,e1]
 exact ⟨⟨Int.natCast_nonneg _,by omega⟩,p1⟩
theorem uniq:∀ (r l:List Fk),l.Perm r→l.Pairwise (fun x y=>lt y x=false)→r.Pairwise (fun x y=>x.pos.val<y.pos.val)→l=r
 |[],l,h,_,_=>h.eq_nil
 |y::r,l,h,hl,hr=>by
  cases l with
  |nil=>exact absurd h.symm.eq_nil (by simp)
  |cons x l=>
   have hx:x=y:=by
    have hm:=h.symm.subset (List.mem_cons_self (a:=y) (l:=r))
    have hm2:=h.subset (List.mem_cons_self (a:=x) (l:=l))
    rcases List.mem_cons.1 hm with e|hm
    ·exact e.symm
    ·rcases List.mem_cons.1 hm2 with e|hm2
     ·exact e
     ·have h1:=(List.pairwise_cons.1 hl).1 y hm
      have h2:=(List.pairwise_cons.1 hr).1 x hm2
      simp only [lt,decide_eq_false_iff_not] at h1
      exact absurd h2 h1
   subst hx
   rw [uniq r l ((List.perm_cons x).1 h) (List.pairwise_cons.1 hl).2 (List.pairwise_cons.1 hr).2]
theorem sort_is (l r:List Fk) (hp:l.Perm r) (hs:r.Pairwise fun x y=>x.pos.val<y.pos.val):(Sort.sort lt l.toArray).toList=r:=by
 obtain ⟨h1,h2⟩:=Sort.sort_holds (Sort.pdq_holds Sort.insertionSort_holds Sort.heapSort_holds Sort.partialInsertionSort_holds (Sort.partition_holds lt) (Sort.partitionEqual_holds lt) Sort.reverseRange_holds) swo_lt l.toArray
 generalize Sort.sort lt l.toArray=Z at h1 h2
 have hz:Z.size=l.toArray.size:=h1.1
 refine uniq r Z.toList ?_ ?_ hs
 ·have h3:=h1.2.2
  rw [Array.extract_size,show l.toArray.size=Z.size from hz.symm,Array.extract_size] at h3
  exact h3.trans hp
 ·rw [List.pairwise_iff_getElem]
  intro i j hi hj hij
  have:=h2 i j (Nat.zero_le _) hij (by rw [← hz];simpa using hj)
  have hi':i<Z.size:=by simpa using hi
  have hj':j<Z.size:=by simpa using hj
  simpa [hi',hj'] using this
end Go.Proofs.Ytpajfggdnobheaa.Srt
end
