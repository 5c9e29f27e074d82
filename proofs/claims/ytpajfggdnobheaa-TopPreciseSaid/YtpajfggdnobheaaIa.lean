/- A part of TopPrecise's proof. -/
import Derived.Test.YtpajfggdnobheaaHa
import Derived.Sort.LotD3
import Derived.Test.YtpajfggdnobheaaDa
import Derived.Test.YtpajfggdnobheaaGa
set_option linter.unusedVariables false
set_option linter.unusedSimpArgs false
open Go.Lib renaming compact->z00,compactUpTo->z05,keeps->z0a,keeps_lt_one->z0s
open Go.IntKind renaming i64->z01
open Int renaming natCast_nonneg->z02,ofNat_lt->z08
open Bool renaming and_eq_true->z03,not_eq_true'->z0o
open Nat renaming le_refl->z04
open Classical renaming byContradiction->z06
open Array renaming length_toList->z07,extract_size->z0k
open List renaming pairwise_cons->z09,length_eq_zero_iff->z0b,find?_cons->z0c,replicate->z0d,find?_append->z0e,map_append->z0f,mem_range->z0g,mem_map->z0h,drop_eq_nil_of_le->z0i,getElem?_eq_none->z0j,mem_cons_self->z0l,find?_eq_none->z0m,length_take->z0p,getD->z0q,length_map->z0r,mem_cons->z0t
open Option renaming some.inj->z0n
set_option maxRecDepth 100000
open Go Go.Sx Go.Proofs
namespace Go.Proofs.Ytpajfggdnobheaa.PI
variable {main:Bool} {Fz:Nat->Prop}
open D
def ahp:JC:=(.block 1 (qN (o7 19 2<|o7 20 1<|qo 21 (.ar .sub (.t 19) (.t 20))<|o7 10 21<|.nil) (qM [10,0,1,2,3,8,9] (.seq (qN (o7 22 10<|qo 23 (.cmp .leq (.t 22) (I 12))<|.nil) (qO 23 (qN (qL [0,1,2]<|o7 24 0<|o7 25 1<|o7 26 2<|eo 27 (.call 122 [(.t 24),(.t 25),(.t 26)])<|.nil) .ret) .skip)) (qM [3,0,1,2,8,9,10] (.seq (qN (o7 28 3<|oH 29 28 0<|.nil) (qO 29 (qN (qL [0,1,2]<|o7 30 0<|o7 31 1<|o7 32 2<|eo 33 (.call 123 [(.t 30),(.t 31),(.t 32)])<|.nil) .ret) .skip)) (qM [8,0,1,2,3,9,10] (.seq (qN (o7 34 8<|qE 35 34<|.nil) (qO 35 (qN (o7 36 0<|o7 37 1<|o7 38 2<|eo 39 (.call 124 [(.t 36),(.t 37),(.t 38)])<|.nil) (qM [3,0,1,2,8,9,10] (.ops<|o7 40 3<|qo 41 (.ar .sub (.t 40) (I 1))<|o7 3 41<|.nil))) .skip)) (qM [0,1,2,8,9,3,10] (qN (o7 43 0<|o7 44 1<|o7 45 2<|eo 46 (.call 125 [(.t 43),(.t 44),(.t 45)])<|qL [46,0,1,2,8,9,3,10]<|o7 42 46<|oM 47 0 42<|oM 48 1 42<|o7 11 47<|o7 12 48<|.nil) (qM [12,0,1,2,11,8,9,3,10] (.seq (qN (o7 49 12<|oH 50 49 2<|.nil) (qM [50,0,1,2,11,8,9,3,10,12] (qO 50 (qN (o7 51 0<|o7 52 1<|o7 53 2<|eo 54 (.call 126 [(.t 51),(.t 52),(.t 53)])<|.nil) (qM [2,11,1,8,9,0,3,10] (qN (o7 55 2<|qo 56 (.ar .sub (.t 55) (I 1))<|o7 57 11<|o7 58 1<|qo 59 (.ar .sub (.t 57) (.t 58))<|qo 60 (.ar .sub (.t 56) (.t 59))<|o7 11 60<|.nil) (qM [8,9,0,1,2,11,3,10] (.ops<|o8 12 1<|.nil))))) .skip))) (qM [8,9,12,0,1,2,11,3,10] (.seq (qN (o7 61 8<|o7 62 61<|.sc false 64 62 (o7 63 9<|.nil) (.t 63)<|o7 65 64<|qL [65,12,0,1,2,11,3,8,9,10]<|.sc false 68 65 (o7 66 12<|oH 67 66 1<|.nil) (.t 67)<|.nil) (qM [68,0,1,2,11,3,8,9,10] (qO 68 (qN (o7 69 0<|o7 70 1<|o7 71 2<|eo 72 (.call 127 [(.t 69),(.t 70),(.t 71)])<|.nil) (qO 72 .ret .skip)) .skip))) (qM [1,0,11,2,3,8,9,10] (.seq (.seq (.aZ<|o7 73 1<|qJ 74 73 0<|o7 75 74<|.sc false 87 75 (o7 76 0<|o7 77 1<|qo 78 (.ar .sub (.t 77) (I 1))<|oJ 79 1 76 78<|o9 80 1 79<|o7 81 0<|o7 82 11<|oJ 83 1 81 82<|o9 84 1 83<|qF 85 128 80 84<|qE 86 85<|.nil) (.t 86)<|.nil) (qM [87,0,1,2,11,3,8,9,10] (qO 87 (qN (o7 88 0<|o7 89 1<|qL [2,11,88,89,0,3,8,9]<|o7 90 2<|o7 91 11<|eo 92 (.call 129 [(.t 88),(.t 89),(.t 90),(.t 91)])<|o7 13 92<|.nil) (qM [13,2,0,3,8,9] (qN (o7 93 13<|o7 1 93<|.nil) (.exit 1)))) .skip))) (qM [0,1,2,11,10,3] (qN (o7 95 0<|o7 96 1<|o7 97 2<|o7 98 11<|eo 99 (.call 130 [(.t 95),(.t 96),(.t 97),(.t 98)])<|qL [99,1,2,10,0,3]<|o7 94 99<|oM 100 0 94<|oM 101 1 94<|o7 14 100<|o7 15 101<|.nil) (qM [15,14,1,2,10,0,3] (qN (o7 102 15<|o7 9 102<|.nil) (qN (o7 103 14<|o7 104 1<|qo 105 (.ar .sub (.t 103) (.t 104))<|qL [2,14,105,10,0,1,3,9]<|o7 106 2<|o7 107 14<|qo 108 (.ar .sub (.t 106) (.t 107))<|o7 16 105<|o7 17 108<|.nil) (qM [10,16,17,0,1,14,3,2,9] (qN (o7 109 10<|qo 110 (.ar .quo (.t 109) (I 8))<|o7 18 110<|.nil) (qM [16,17,18,0,1,14,3,2,9] (qN (o7 111 16<|o7 112 17<|oN 113 111 112<|.nil) (qM [113,16,18,0,1,14,3,2,9,17] (qO 113 (qN (o7 114 16<|qL [18,114,0,1,14,3,2,9]<|o7 115 18<|qo 116 (.cmp .geq (.t 114) (.t 115))<|o7 8 116<|.nil) (qM [0,1,14,3,2,8,9] (qN (o7 117 0<|o7 118 1<|o7 119 14<|o7 120 3<|eo 121 (.call 119 [(.t 117),(.t 118),(.t 119),(.t 120)])<|.nil) (qM [14,2,0,3,8,9] (.ops<|o7 122 14<|oI 123 122 1<|o7 1 123<|.nil))))) (qN (o7 124 17<|qL [18,124,0,14,2,3,1,9]<|o7 125 18<|qo 126 (.cmp .geq (.t 124) (.t 125))<|o7 8 126<|.nil) (qM [0,14,2,3,1,8,9] (qN (o7 127 0<|o7 128 14<|oI 129 128 1<|o7 130 2<|o7 131 3<|eo 132 (.call 119 [(.t 127),(.t 129),(.t 130),(.t 131)])<|.nil) (qM [14,1,0,3,8,9] (.ops<|o7 133 14<|o7 2 133<|.nil))))))))))))))))))))))))))))))))
def j119:JC:=(qN (qG 8 true<|.nil) (qN (qG 9 true<|.nil) (.block 0 (.loop [0] [2,1,3,8,9] ahp))))
def j105:JC:=(qN (o7 3 0<|oO 4 3<|o7 2 4<|.nil) (.ops<|o7 5 0<|o7 6 2<|o7 7 2<|qo 8 (.conv .u64 (.t 7))<|oL 9 47 8<|eo 10 (.call 119 [(.t 5),(I 0),(.t 6),(.t 9)])<|.nil))
def Cj:JC:=
 (.prune [0,1,2,11,10,3] (.seq (.ops<|
 qo 95 (.mv (.t 0))<|
 qo 96 (.mv (.t 1))<|
 qo 97 (.mv (.t 2))<|
 qo 98 (.mv (.t 11))<|
 eo 99 (.call 130 [(.t 95),(.t 96),(.t 97),(.t 98)])<|
 .prune [99,1,2,10,0,3]<|
 qo 94 (.mv (.t 99))<|
 qo 100 (.ext 0 (.t 94))<|
 qo 101 (.ext 1 (.t 94))<|
 qo 14 (.mv (.t 100))<|
 qo 15 (.mv (.t 101))<|
 .nil)
 (.prune [15,14,1,2,10,0,3] (.seq (.ops<|
 qo 102 (.mv (.t 15))<|
 qo 9 (.mv (.t 102))<|
 .nil)
 (.seq (.ops<|
 qo 103 (.mv (.t 14))<|
 qo 104 (.mv (.t 1))<|
 qo 105 (.ar .sub (.t 103) (.t 104))<|
 .prune [2,14,105,10,0,1,3,9]<|
 qo 106 (.mv (.t 2))<|
 qo 107 (.mv (.t 14))<|
 qo 108 (.ar .sub (.t 106) (.t 107))<|
 qo 16 (.mv (.t 105))<|
 qo 17 (.mv (.t 108))<|
 .nil)
 (.prune [10,16,17,0,1,14,3,2,9] (.seq (.ops<|
 qo 109 (.mv (.t 10))<|
 qo 110 (.ar .quo (.t 109) (I 8))<|
 qo 18 (.mv (.t 110))<|
 .nil)
 (.prune [16,17,18,0,1,14,3,2,9] (.seq (.ops<|
 qo 111 (.mv (.t 16))<|
 qo 112 (.mv (.t 17))<|
 qo 113 (.cmp .lss (.t 111) (.t 112))<|
 .nil)
 (.prune [113,16,18,0,1,14,3,2,9,17] (.cond (.t 113)
 (.seq (.ops<|
 qo 114 (.mv (.t 16))<|
 .prune [18,114,0,1,14,3,2,9]<|
 qo 115 (.mv (.t 18))<|
 qo 116 (.cmp .geq (.t 114) (.t 115))<|
 qo 8 (.mv (.t 116))<|
 .nil)
 (.prune [0,1,14,3,2,8,9] (.seq (.ops<|
 qo 117 (.mv (.t 0))<|
 qo 118 (.mv (.t 1))<|
 qo 119 (.mv (.t 14))<|
 qo 120 (.mv (.t 3))<|
 eo 121 (.call 119 [(.t 117),(.t 118),(.t 119),(.t 120)])<|
 .nil)
 (.prune [14,2,0,3,8,9] (.ops<|
 qo 122 (.mv (.t 14))<|
 qo 123 (.ar .add (.t 122) (I 1))<|
 qo 1 (.mv (.t 123))<|
 .nil)))))
 (.seq (.ops<|
 qo 124 (.mv (.t 17))<|
 .prune [18,124,0,14,2,3,1,9]<|
 qo 125 (.mv (.t 18))<|
 qo 126 (.cmp .geq (.t 124) (.t 125))<|
 qo 8 (.mv (.t 126))<|
 .nil)
 (.prune [0,14,2,3,1,8,9] (.seq (.ops<|
 qo 127 (.mv (.t 0))<|
 qo 128 (.mv (.t 14))<|
 qo 129 (.ar .add (.t 128) (I 1))<|
 qo 130 (.mv (.t 2))<|
 qo 131 (.mv (.t 3))<|
 eo 132 (.call 119 [(.t 127),(.t 129),(.t 130),(.t 131)])<|
 .nil)
 (.prune [14,1,0,3,8,9] (.ops<|
 qo 133 (.mv (.t 14))<|
 qo 2 (.mv (.t 133))<|
 .nil))))))))))))))))
def Cm:JC:=
 (.prune [1,0,11,2,3,8,9,10] (.seq (.seq (.aZ<|
 qo 73 (.mv (.t 1))<|
 qo 74 (.cmp .gtr (.t 73) (I 0))<|
 qo 75 (.mv (.t 74))<|
 .sc false 87 75 (qo 76 (.mv (.t 0))<|
 qo 77 (.mv (.t 1))<|
 qo 78 (.ar .sub (.t 77) (I 1))<|
 qo 79 (.is 1 (.t 76) (.t 78))<|
 eo 80 (.load 1 false (.t 79))<|
 qo 81 (.mv (.t 0))<|
 qo 82 (.mv (.t 11))<|
 qo 83 (.is 1 (.t 81) (.t 82))<|
 eo 84 (.load 1 false (.t 83))<|
 eo 85 (.nD 128 [(.t 80),(.t 84)])<|
 qo 86 (.nt (.t 85))<|
 .nil) (.t 86)<|
 .nil)
 (.prune [87,0,1,2,11,3,8,9,10] (.cond (.t 87)
 (.seq (.ops<|
 qo 88 (.mv (.t 0))<|
 qo 89 (.mv (.t 1))<|
 .prune [2,11,88,89,0,3,8,9]<|
 qo 90 (.mv (.t 2))<|
 qo 91 (.mv (.t 11))<|
 eo 92 (.call 129 [(.t 88),(.t 89),(.t 90),(.t 91)])<|
 qo 13 (.mv (.t 92))<|
 .nil)
 (.prune [13,2,0,3,8,9] (.seq (.ops<|
 qo 93 (.mv (.t 13))<|
 qo 1 (.mv (.t 93))<|
 .nil)
 (.exit 1))))
 .skip)))
 Cj))
def yV:JC:=
 (.prune [8,9,12,0,1,2,11,3,10] (.seq (.seq (.ops<|
 qo 61 (.mv (.t 8))<|
 qo 62 (.mv (.t 61))<|
 .sc false 64 62 (qo 63 (.mv (.t 9))<|
 .nil) (.t 63)<|
 qo 65 (.mv (.t 64))<|
 .prune [65,12,0,1,2,11,3,8,9,10]<|
 .sc false 68 65 (qo 66 (.mv (.t 12))<|
 qo 67 (.cmp .eql (.t 66) (I 1))<|
 .nil) (.t 67)<|
 .nil)
 (.prune [68,0,1,2,11,3,8,9,10] (.cond (.t 68)
 (.seq (.ops<|
 qo 69 (.mv (.t 0))<|
 qo 70 (.mv (.t 1))<|
 qo 71 (.mv (.t 2))<|
 eo 72 (.call 127 [(.t 69),(.t 70),(.t 71)])<|
 .nil)
 (.cond (.t 72)
 .ret
 .skip))
 .skip)))
 Cm))
def FV:JC:=
 (.prune [0,1,2,8,9,3,10] (.seq (.ops<|
 qo 43 (.mv (.t 0))<|
 qo 44 (.mv (.t 1))<|
 qo 45 (.mv (.t 2))<|
 eo 46 (.call 125 [(.t 43),(.t 44),(.t 45)])<|
 .prune [46,0,1,2,8,9,3,10]<|
 qo 42 (.mv (.t 46))<|
 qo 47 (.ext 0 (.t 42))<|
 qo 48 (.ext 1 (.t 42))<|
 qo 11 (.mv (.t 47))<|
 qo 12 (.mv (.t 48))<|
 .nil)
 (.prune [12,0,1,2,11,8,9,3,10] (.seq (.seq (.ops<|
 qo 49 (.mv (.t 12))<|
 qo 50 (.cmp .eql (.t 49) (I 2))<|
 .nil)
 (.prune [50,0,1,2,11,8,9,3,10,12] (.cond (.t 50)
 (.seq (.ops<|
 qo 51 (.mv (.t 0))<|
 qo 52 (.mv (.t 1))<|
 qo 53 (.mv (.t 2))<|
 eo 54 (.call 126 [(.t 51),(.t 52),(.t 53)])<|
 .nil)
 (.prune [2,11,1,8,9,0,3,10] (.seq (.ops<|
 qo 55 (.mv (.t 2))<|
 qo 56 (.ar .sub (.t 55) (I 1))<|
 qo 57 (.mv (.t 11))<|
 qo 58 (.mv (.t 1))<|
 qo 59 (.ar .sub (.t 57) (.t 58))<|
 qo 60 (.ar .sub (.t 56) (.t 59))<|
 qo 11 (.mv (.t 60))<|
 .nil)
 (.prune [8,9,0,1,2,11,3,10] (.ops<|
 qo 12 (.mv (I 1))<|
 .nil)))))
 .skip)))
 yV))))
theorem yX:ahp=
 (.block 1 (.seq (.ops<|
 qo 19 (.mv (.t 2))<|
 qo 20 (.mv (.t 1))<|
 qo 21 (.ar .sub (.t 19) (.t 20))<|
 qo 10 (.mv (.t 21))<|
 .nil)
 (.prune [10,0,1,2,3,8,9] (.seq (.seq (.ops<|
 qo 22 (.mv (.t 10))<|
 qo 23 (.cmp .leq (.t 22) (I 12))<|
 .nil)
 (.cond (.t 23)
 (.seq (.ops<|
 .prune [0,1,2]<|
 qo 24 (.mv (.t 0))<|
 qo 25 (.mv (.t 1))<|
 qo 26 (.mv (.t 2))<|
 eo 27 (.call 122 [(.t 24),(.t 25),(.t 26)])<|
 .nil)
 .ret)
 .skip))
 (.prune [3,0,1,2,8,9,10] (.seq (.seq (.ops<|
 qo 28 (.mv (.t 3))<|
 qo 29 (.cmp .eql (.t 28) (I 0))<|
 .nil)
 (.cond (.t 29)
 (.seq (.ops<|
 .prune [0,1,2]<|
 qo 30 (.mv (.t 0))<|
 qo 31 (.mv (.t 1))<|
 qo 32 (.mv (.t 2))<|
 eo 33 (.call 123 [(.t 30),(.t 31),(.t 32)])<|
 .nil)
 .ret)
 .skip))
 (.prune [8,0,1,2,3,9,10] (.seq (.seq (.ops<|
 qo 34 (.mv (.t 8))<|
 qo 35 (.nt (.t 34))<|
 .nil)
 (.cond (.t 35)
 (.seq (.ops<|
 qo 36 (.mv (.t 0))<|
 qo 37 (.mv (.t 1))<|
 qo 38 (.mv (.t 2))<|
 eo 39 (.call 124 [(.t 36),(.t 37),(.t 38)])<|
 .nil)
 (.prune [3,0,1,2,8,9,10] (.ops<|
 qo 40 (.mv (.t 3))<|
 qo 41 (.ar .sub (.t 40) (I 1))<|
 qo 3 (.mv (.t 41))<|
 .nil)))
 .skip))
 FV)))))))):=rfl
theorem jF:Sort.SWO lt where
 irrefl x:=by simp[lt]
 trans x y z h1 h2:=by simp only[lt,decide_eq_true_eq] at*;omega
 ntrans x y z h1 h2:=by simp only[lt,decide_eq_false_iff_not] at*;omega
def Df(k:Int)(s:List Int)(y:Int×Int×Unit):Prop:=(0<=y.1/\y.1+k<=y.2.1)/\(y.2.1<=s.length/\s.length<65536)/\y.2.2=()
def pr4(s:List Int)(y:Int×Int×Int×Unit):Prop:=(0<=y.1/\y.1<=y.2.2.1/\y.2.2.1<y.2.1)/\(y.2.1<=s.length/\s.length<65536)/\y.2.2.2=()
def NC(N:Nat)(s:List Int)(y:Int×Int×Int×Unit):Prop:=(0<=y.1/\y.1<=y.2.1/\y.2.1 - y.1<N)/\((y.2.1<=s.length/\s.length<65536)/\0<=y.2.2.1/\y.2.2.1<64)/\y.2.2.2=()/\Sort.Below lt y.1.toNat y.2.1.toNat s.toArray
theorem ql(k:Nat){X:Array Int}{a b:Nat}(h:a+k<=b)(hb:b<=X.size)(hX:X.size<65536):Df k X.toList ((a:Int),(b:Int),()):=by refine⟨⟨z02 _,by simp only;omega⟩,⟨?_,?_⟩,rfl⟩<;>simp only[z07]<;>omega
theorem G8{X:Array Int}{a b c:Nat}(h:a<=c)(h2:c<b)(hb:b<=X.size)(hX:X.size<65536):pr4 X.toList ((a:Int),(b:Int),(c:Int),()):=by refine⟨⟨z02 _,by simp only;omega,by simp only;omega⟩,⟨?_,?_⟩,rfl⟩<;>simp only[z07]<;>omega
theorem zM{N:Nat}{X:Array Int}{a b l:Nat}(h:a<=b)(h2:b - a<N)(hb:b<=X.size)(hX:X.size<65536)(hl:l<64)(hB:Sort.Below lt a b X):NC N X.toList ((a:Int),(b:Int),(l:Int),()):=by refine⟨⟨z02 _,by simp only;omega,by simp only;omega⟩,⟨⟨?_,?_⟩,z02 _,by simp only;omega⟩,rfl,hB⟩<;>simp only[z07]<;>omega
def insL(s:List Int)(y:Int×Int×Unit):List Int:=(Sort.insertionSort lt s.toArray y.1.toNat y.2.1.toNat).toList
def QM(s:List Int)(y:Int×Int×Unit):List Int:=(Sort.heapSort lt s.toArray y.1.toNat y.2.1.toNat).toList
def G9(s:List Int)(y:Int×Int×Unit):List Int:=(Sort.breakPatterns s.toArray y.1.toNat y.2.1.toNat).toList
def aed(s:List Int)(y:Int×Int×Unit):List Int:=(Sort.reverseRange s.toArray y.1.toNat y.2.1.toNat).toList
def He(s:List Int)(y:Int×Int×Unit):List Int:=(Sort.partialInsertionSort lt s.toArray y.1.toNat y.2.1.toNat).1.toList
def Hf(s:List Int)(y:Int×Int×Unit):Bool:=(Sort.partialInsertionSort lt s.toArray y.1.toNat y.2.1.toNat).2
def VT(s:List Int)(y:Int×Int×Unit):Int×Int:=(((Sort.choosePivot lt s.toArray y.1.toNat y.2.1.toNat).1:Int),dZ (Sort.choosePivot lt s.toArray y.1.toNat y.2.1.toNat).2)
def aee(s:List Int)(y:Int×Int×Int×Unit):List Int:=(Sort.partitionEqual lt s.toArray y.1.toNat y.2.1.toNat y.2.2.1.toNat).2.toList
def aef(s:List Int)(y:Int×Int×Int×Unit):Int:=((Sort.partitionEqual lt s.toArray y.1.toNat y.2.1.toNat y.2.2.1.toNat).1:Int)
def QN(s:List Int)(y:Int×Int×Int×Unit):List Int:=(Sort.partition lt s.toArray y.1.toNat y.2.1.toNat y.2.2.1.toNat).2.2.toList
def QO(s:List Int)(y:Int×Int×Int×Unit):Int×Bool:=(((Sort.partition lt s.toArray y.1.toNat y.2.1.toNat y.2.2.1.toNat).1:Int),(Sort.partition lt s.toArray y.1.toNat y.2.1.toNat y.2.2.1.toNat).2.1)
def Dh(s:List Int)(y:Int×Int×Int×Unit):List Int:=(Sort.pdq lt s.toArray y.1.toNat y.2.1.toNat y.2.2.1.toNat true true).toList
section
variable (X:Array Int) (a b c g:Nat)
theorem ND:insL X.toList ((a:Int),(b:Int),())=(Sort.insertionSort lt X a b).toList:=rfl
theorem Hg:QM X.toList ((a:Int),(b:Int),())=(Sort.heapSort lt X a b).toList:=rfl
theorem Di:G9 X.toList ((a:Int),(b:Int),())=(Sort.breakPatterns X a b).toList:=rfl
theorem NG:aed X.toList ((a:Int),(b:Int),())=(Sort.reverseRange X a b).toList:=rfl
theorem Hl:He X.toList ((a:Int),(b:Int),())=(Sort.partialInsertionSort lt X a b).1.toList:=rfl
theorem Ho:Hf X.toList ((a:Int),(b:Int),())=(Sort.partialInsertionSort lt X a b).2:=rfl
theorem NH:VT X.toList ((a:Int),(b:Int),())=(((Sort.choosePivot lt X a b).1:Int),dZ (Sort.choosePivot lt X a b).2):=rfl
theorem NI:aee X.toList ((a:Int),(b:Int),(c:Int),())=(Sort.partitionEqual lt X a b c).2.toList:=rfl
theorem NJ:aef X.toList ((a:Int),(b:Int),(c:Int),())=((Sort.partitionEqual lt X a b c).1:Int):=rfl
theorem wX:QN X.toList ((a:Int),(b:Int),(c:Int),())=(Sort.partition lt X a b c).2.2.toList:=rfl
theorem wY:QO X.toList ((a:Int),(b:Int),(c:Int),())=(((Sort.partition lt X a b c).1:Int),(Sort.partition lt X a b c).2.1):=rfl
theorem AZ:Dh X.toList ((a:Int),(b:Int),(c:Int),())=(Sort.pdq lt X a b c true true).toList:=rfl
end
def Gp(f:FuncId)(a:List SV)(m:List ay):Sx.Call:=(FH.sv 122 TP 1 DT.int (.two .int .int) .unit (Df 0) (λ_ _=>()) insL<|FH.sv 123 TP 1 DT.int (.two .int .int) .unit (Df 1) (λ_ _=>()) QM<|
 FH.sv 124 TP 1 DT.int (.two .int .int) .unit (Df 8) (λ_ _=>()) G9<|FH.sv 125 TP 1 DT.int (.two .int .int) (.two .int .int) (Df 1) VT (λs _=>s)<|
 FH.sv 126 TP 1 DT.int (.two .int .int) .unit (Df 1) (λ_ _=>()) aed<|FH.sv 127 TP 1 DT.int (.two .int .int) (.one .bool) (Df 1) Hf He<|
 FH.sv 129 TP 1 DT.int (.three .int .int .int) (.one .int) pr4 aef aee<|FH.sv 130 TP 1 DT.int (.three .int .int .int) (.two .int .bool) pr4 QO QN Gc) f a m
theorem je:type_of% (nq Gp.eq_1):=nq Gp.eq_1
theorem lF{k:Nat}{s:List Int}{y:Int×Int×Unit}(h:Df k s y):∃ a b:Nat,y=((a:Int),(b:Int),())/\a+k<=b/\b<=s.toArray.size/\s.toArray.size<65536:=by
 obtain⟨y1,y2,⟨⟩⟩:=y;obtain⟨⟨h1,h2⟩,⟨h3,h4⟩,h5⟩:=h;simp only at h1 h2 h3 h4 h5;obtain⟨a,rfl⟩:=aY h1;obtain⟨b,rfl⟩:=aY (show 0<=y2 by omega)
 exact⟨a,b,rfl,by omega,by simp;omega,by simpa using h4⟩
theorem Hq{s:List Int}{y:Int×Int×Int×Unit}(h:pr4 s y):∃ a b c:Nat,y=((a:Int),(b:Int),(c:Int),())/\(a<=c/\c<b)/\b<=s.toArray.size/\s.toArray.size<65536:=by
 obtain⟨y1,y2,y0,⟨⟩⟩:=y;obtain⟨⟨h1,h2,h0⟩,⟨h3,h4⟩,h5⟩:=h;simp only at h1 h2 h3 h4 h5 h0;obtain⟨a,rfl⟩:=aY h1;obtain⟨c,rfl⟩:=aY (show 0<=y0 by omega)
 obtain⟨b,rfl⟩:=aY (show 0<=y2 by omega)
 exact⟨a,b,c,rfl,by omega,by simp;omega,by simpa using h4⟩
theorem Hr{N:Nat}{s:List Int}{y:Int×Int×Int×Unit}(h:NC N s y):∃ a b l:Nat,y=((a:Int),(b:Int),(l:Int),())/\(a<=b/\b - a<N)/\(b<=s.toArray.size/\s.toArray.size<65536)/\l<64/\Sort.Below lt a b s.toArray:=by
 obtain⟨y1,y2,y0,⟨⟩⟩:=y;obtain⟨⟨h1,h2,h0⟩,⟨⟨h3,h4⟩,h6,h7⟩,h5,hB⟩:=h;simp only at h1 h2 h3 h4 h5 h0 h6 h7 hB;obtain⟨a,rfl⟩:=aY h1;obtain⟨c,rfl⟩:=aY h6;obtain⟨b,rfl⟩:=aY (show 0<=y2 by omega)
 exact⟨a,b,c,rfl,⟨by omega,by omega⟩,⟨by simp;omega,by simpa using h4⟩,by omega,hB⟩
theorem QS:bQ Try.prog main Fz Gp:=FH.jf (by decide) (by kernel_rfl) (λs y h=>by
  obtain⟨a,b,rfl,h1,h2,h3⟩:=lF (k:=0) h;exact aeg (main:=main) (Fz:=Fz) s.toArray a b h2 (by omega) (by omega))<|FH.jf (by decide) (by kernel_rfl) (λs y h=>by
  obtain⟨a,b,rfl,h1,h2,h3⟩:=lF (k:=1) h;exact VU (main:=main) (Fz:=Fz) s.toArray a b h2 (by omega) (by omega))<|FH.jf (by decide) (by kernel_rfl) (λs y h=>by
  obtain⟨a,b,rfl,h1,h2,h3⟩:=lF (k:=8) h;exact NM (main:=main) (Fz:=Fz) s.toArray a b h2 (by omega) (by omega))<|FH.jf (by decide) (by kernel_rfl) (λs y h=>by
  obtain⟨a,b,rfl,h1,h2,h3⟩:=lF (k:=1) h;exact NP (main:=main) (Fz:=Fz) s.toArray a b (by omega) h2 (by omega))<|FH.jf (by decide) (by kernel_rfl) (λs y h=>by
  obtain⟨a,b,rfl,h1,h2,h3⟩:=lF (k:=1) h;exact aeh (main:=main) (Fz:=Fz) s.toArray a b (by omega) h2 (by omega))<|FH.jf (by decide) (by kernel_rfl) (λs y h=>by
  obtain⟨a,b,rfl,h1,h2,h3⟩:=lF (k:=1) h;exact VW (main:=main) (Fz:=Fz) s.toArray a b h2 (by omega) (by omega))<|FH.jf (by decide) (by kernel_rfl) (λs y h=>by
  obtain⟨a,b,c,rfl,h1,h2,h3⟩:=Hq h;exact GV (main:=main) (Fz:=Fz) s.toArray a b c h2 (by omega) h1.1 h1.2)<|FH.jf (by decide) (by kernel_rfl) (λs y h=>by
  obtain⟨a,b,c,rfl,h1,h2,h3⟩:=Hq h;exact VL (main:=main) (Fz:=Fz) s.toArray a b c h2 (by omega) h1.1 h1.2) lZ
def Gq(N:Nat)(f:FuncId)(x:List SV)(m:List ay):Sx.Call:=(FH.sv 119 TP 1 DT.int (.three .int .int .int) .unit (NC N) (λ_ _=>()) Dh Gp) f x m
theorem jo(N:Nat)(f:FuncId)(x:List SV)(m:List ay):Gq N f x m=(FH.sv 119 TP 1 DT.int (.three .int .int .int) .unit (NC N) (λ_ _=>()) Dh Gp) f x m:=nr rfl
def L8(τ:Fr)(a b lim:Nat)(wb wp:Bool)(n:Nat):Prop:=(Sx.look 0 τ= .vec 0 n/\Sx.look 1 τ= .int .i64 a/\Sx.look 2 τ= .int .i64 b)/\(True/\Sx.look 3 τ= .int .i64 lim)/\Sx.look 8 τ= .bool wb/\Sx.look 9 τ= .bool wp
theorem wZ(X:Array Int)(a b l:Nat)(u v:Bool)(hab:a<=b)(hb:b<=X.size)(hB:Sort.Below lt a b X):(Sort.pdq lt X a b l u v).size=X.size:=
 (Sort.pdq_holds Sort.insertionSort_holds Sort.heapSort_holds Sort.partialInsertionSort_holds (Sort.partition_holds lt) (Sort.partitionEqual_holds lt) Sort.reverseRange_holds jF X a b l u v hab hb hB).1.1
theorem wpt(N:Nat)(n0:Nat)(hn:n0=1)(X:Array Int)(a b pv lim n:Nat)(ha:a<=pv)(hp:pv<b)(hN:b - a<=N)(hb:b<=n)(hn2:n=X.size)(hX:n<65536)(hl:lim<64)(hB:Sort.Below lt a b X)
  (mid:Nat) (ap:Bool) (d4:Array Int) (hP:Sort.partition lt X a b pv=(mid,ap,d4))
  (τ:Fr) (h0:Sx.look 0 τ= .vec 0 n) (h1:Sx.look 1 τ= .int .i64 a) (h2:Sx.look 2 τ= .int .i64 b) (h4:True) (h3:Sx.look 3 τ= .int .i64 lim) (h12:Sx.look 10 τ= .int .i64 ((b - a:Nat):Int)) (h13:Sx.look 11 τ= .int .i64 pv)
  {Q:Ex->Fr->List ay->Prop}
  (hq1:mid - a<b - mid->∀ τ',L8 τ' (mid+1) b lim (decide (mid - a≥(b - a)/8)) ap n->Q .norm τ' [mv (Sort.pdq lt d4 a mid lim true true)])
  (hq2:¬ mid - a<b - mid->∀ τ',L8 τ' a mid lim (decide (b - mid≥(b - a)/8)) ap n->Q .norm τ' [mv (Sort.pdq lt d4 (mid+1) b lim true true)]):
  JC.wp (Gq N) n0 Cj Q τ [mv X]:=by
 subst hn;obtain⟨g1,g2,g3,g4,g5,_,_⟩:=Sort.round_part jF (Sort.partition_holds lt) ha hp (by omega) hB hP
 have p1:pr4 X.toList ((a:Int),(b:Int),(pv:Int),()):=G8 ha hp (by omega) (by omega)
 have e1:(Sort.partition lt X a b pv).1=mid:=by rw[hP]
 have e2:(Sort.partition lt X a b pv).2.1=ap:=by rw[hP]
 have e3:(Sort.partition lt X a b pv).2.2=d4:=by rw[hP]
 have w1:z01.wrap ((mid:Int) - a)=((mid - a:Nat):Int):=by rw[aJ];omega
 have w2:z01.wrap ((b:Int) - mid)=((b - mid:Nat):Int):=by rw[aJ];omega
 have w3:(((b - a:Nat):Int)).tdiv 8=(((b - a)/8:Nat):Int):=rfl;have w4:z01.wrap (((b - a)/8:Nat):Int)=(((b - a)/8:Nat):Int):=aJ;have w5:z01.wrap ((mid:Int)+1)=((mid+1:Nat):Int):=aJ;by_cases hm:mid - a<b - mid
 ·have p2:NC N d4.toList ((a:Int),(mid:Int),(lim:Int),()):=zM g1 (by omega) (by omega) (by omega) hl g4
  have hs:=wZ d4 a mid lim true true g1 (by omega) g4
  unfold Cj;simp only[go_sem,seval,h0,h1,h2,h3,h12,h13,mv,jo,je,p1,wX,wY,e1,e2,e3,w1,w2,w3,w4,w5,hm,p2,AZ,<- hn2,g3,z08,Int.ofNat_le];refine hq1 hm _ ?_;simp only[go_sem,seval,L8]
 ·have p2:NC N d4.toList (((mid+1:Nat):Int),(b:Int),(lim:Int),()):=zM (by omega) (by omega) (by omega) (by omega) hl g5
  have hs:=wZ d4 (mid+1) b lim true true (by omega) (by omega) g5
  unfold Cj;simp only[go_sem,seval,h0,h1,h2,h3,h12,h13,mv,jo,je,p1,wX,wY,e1,e2,e3,w1,w2,w3,w4,w5,hm,p2,AZ,<- hn2,g3,z08,Int.ofNat_le];refine hq2 hm _ ?_;simp only[go_sem,seval,L8]
def tY(X:Array Int)(a b pv lim:Nat)(wb wp:Bool):Array Int:=
 if a>0&& !lt X[a - 1]! X[pv]! then
  match Sort.partitionEqual lt X a b pv with
  |(mid,d4)=>if _h:a<mid/\mid<=b then Sort.pdq lt d4 mid b lim wb wp else d4
 else
  match Sort.partition lt X a b pv with
  |(mid,ap,d4)=>
   if _h:a<=mid/\mid<b then
    if mid - a<b - mid then Sort.pdq lt (Sort.pdq lt d4 a mid lim true true) (mid+1) b lim (decide (mid - a≥(b - a)/8)) ap
    else Sort.pdq lt (Sort.pdq lt d4 (mid+1) b lim true true) a mid lim (decide (b - mid≥(b - a)/8)) ap
   else d4
def VX(R:Array Int)(a b lim n:Nat)(Q:Ex->Fr->List ay->Prop):Prop:= ∀ e,(e= .exit 1\/e= .norm)->∀ (τ':Fr) (a' b':Nat) (wb' wp':Bool) (Y:Array Int),L8 τ' a' b' lim wb' wp' n->(a'<=b'/\b'<=n/\b' - a'<b - a)->(Y.size=n/\Sort.Below lt a' b' Y)->Sort.pdq lt Y a' b' lim wb' wp'=R->Q e τ' [mv Y]
theorem wtl(N:Nat)(n0:Nat)(hn:n0=1)(X:Array Int)(a b pv lim n:Nat)(wb wp:Bool)(ha:a<=pv)(hp:pv<b)(hN:b - a<=N)(hb:b<=n)(hn2:n=X.size)(hX:n<65536)(hl:lim<64)(hB:Sort.Below lt a b X)
  (R:Array Int) (hR:tY X a b pv lim wb wp=R) (τ:Fr) (h:L8 τ a b lim wb wp n) (h12:Sx.look 10 τ= .int .i64 ((b - a:Nat):Int)) (h13:Sx.look 11 τ= .int .i64 pv)
  {Q:Ex->Fr->List ay->Prop} (hq:VX R a b lim n Q):JC.wp (Gq N) n0 Cm Q τ [mv X]:=by
 subst hn;obtain⟨⟨h0,h1,h2⟩,⟨h4,h3⟩,h10,h11⟩:=h;have hpart:¬ (a>0/\lt X[a - 1]! X[pv]! =false)->∀ τ':Fr,Sx.look 0 τ'= .vec 0 n->Sx.look 1 τ'= .int .i64 a->Sx.look 2 τ'= .int .i64 b->True->Sx.look 3 τ'= .int .i64 lim->Sx.look 10 τ'= .int .i64 ((b - a:Nat):Int)->Sx.look 11 τ'= .int .i64 pv->
   JC.wp (Gq N) 1 Cj Q τ' [mv X]:=λhc τ' q0 q1 q2 q4 q3 q12 q13=>by
  obtain⟨⟨mid,ap,d4⟩,hP⟩:∃ p,p=Sort.partition lt X a b pv:=⟨_,rfl⟩;obtain⟨g1,g2,g3,g4,g5,g6,g7⟩:=Sort.round_part jF (Sort.partition_holds lt) ha hp (by omega) hB hP.symm
  unfold tY at hR;rw[if_neg (by simp only[z03,decide_eq_true_eq,z0o];exact hc),<- hP] at hR
  simp only at hR;rw[dif_pos ⟨g1,g2⟩] at hR;have so:=λa' b' l u v=>Sort.pdq_holds Sort.insertionSort_holds Sort.heapSort_holds Sort.partialInsertionSort_holds (Sort.partition_holds lt) (Sort.partitionEqual_holds lt) Sort.reverseRange_holds jF d4 a' b' l u v;refine wpt N 1 rfl X a b pv lim n ha hp hN hb hn2 hX hl hB mid ap d4 hP.symm τ' q0 q1 q2 q4 q3 q12 q13 (λhm O2 hτ=> ?_) (λhm O2 hτ=> ?_)
  ·rw[if_pos hm] at hR;obtain⟨s1,s2⟩:=so a mid lim true true g1 (by omega) g4
   exact hq _ (.inr rfl) O2 _ _ _ _ _ hτ ⟨by omega,hb,by omega⟩ ⟨by rw[s1.1,g3,hn2],(g6 _ s1 s2).1⟩ hR
  ·rw[if_neg hm] at hR;obtain⟨s1,s2⟩:=so (mid+1) b lim true true (by omega) (by omega) g5
   exact hq _ (.inr rfl) O2 _ _ _ _ _ hτ ⟨by omega,by omega,by omega⟩ ⟨by rw[s1.1,g3,hn2],(g7 _ s1 s2).1⟩ hR
 have r1:pv<n:=by omega
 by_cases h0a:a=0
 ·subst h0a;have e0:((0:Int)< ((0:Nat):Int))=False:=by simp
  unfold Cm;simp only[go_sem,seval,h0,h1,h2,h3,h10,h11,h12,h13,mv,jo,je,cZ,rd,r1,bn,aU,<- hn2,z08,z02];refine hpart (λx=>by omega) _ ?_ ?_ ?_ ?_ ?_ ?_ ?_
  all_goals simp only[go_sem,seval]
 ·have e0:((0:Int)< (a:Int))=True:=by simp;omega
  have w1:z01.wrap ((a:Int) - 1)=((a - 1:Nat):Int):=by rw[aJ];omega
  have r2:a - 1<n:=by omega
  have p1:pr4 X.toList ((a:Int),(b:Int),(pv:Int),()):=G8 ha hp (by omega) (by omega)
  unfold Cm;simp only[go_sem,seval,h0,h1,h2,h3,h10,h11,h12,h13,mv,jo,je,cZ,e0,w1,p1,NJ,NI,rd,r1,r2,bn,aU,<- hn2,z08,z02];refine⟨λhl=> ?_,λhl=> ?_⟩
  ·have hf:lt X[a - 1]! X[pv]! =false:=by simpa using hl
   obtain⟨⟨mid,d4⟩,hP⟩:∃ p,p=Sort.partitionEqual lt X a b pv:=⟨_,rfl⟩;obtain⟨g1,g2,g3,g4,_⟩:=Sort.round_eq jF (Sort.partitionEqual_holds lt) (by omega) ha hp (by omega) hB hf hP.symm
   unfold tY at hR;rw[if_pos (by simp only[z03,decide_eq_true_eq,z0o];exact⟨by omega,hf⟩),<- hP] at hR
   simp only at hR;rw[dif_pos ⟨g1,g2⟩] at hR;rw[<- hP];refine hq _ (.inl rfl) _ mid b wb wp d4 ?_ ⟨g2,hb,by omega⟩ ⟨g3.trans hn2.symm,g4⟩ hR
   simp only[go_sem,seval,L8]
  ·refine hpart (λx=>by rw[x.2] at hl;cases hl) _ ?_ ?_ ?_ ?_ ?_ ?_ ?_
   all_goals simp only[go_sem,seval]
def zN(X:Array Int)(a b pv:Nat)(hint:Sort.Hint)(lim:Nat)(wb wp:Bool):Array Int:=
 let pi:=if wb&&wp&&hint= .increasing then Sort.partialInsertionSort lt X a b else(X,false)
 if pi.2 then pi.1 else tY pi.1 a b pv lim wb wp
theorem Ht{X:Array Int}{a b pv:Nat}{hint:Sort.Hint}{lim:Nat}{wb wp:Bool}(h:(wb&&wp&&decide (hint= .increasing))=true):
  zN X a b pv hint lim wb wp=if (Sort.partialInsertionSort lt X a b).2=true then(Sort.partialInsertionSort lt X a b).1 else tY (Sort.partialInsertionSort lt X a b).1 a b pv lim wb wp:=by
 unfold zN;simp only[h,if_true]
theorem Hu{X:Array Int}{a b pv:Nat}{hint:Sort.Hint}{lim:Nat}{wb wp:Bool}(h:¬ (wb&&wp&&decide (hint= .increasing))=true):
  zN X a b pv hint lim wb wp=tY X a b pv lim wb wp:=by
 unfold zN;simp only[if_neg h];rfl
theorem Hw(h:Sort.Hint):(dZ h=1)=(h= .increasing):=by cases h<;>simp[dZ]
theorem xg(h:Sort.Hint):(dZ h=2)=(h= .decreasing):=by cases h<;>simp[dZ]
theorem wmd(N:Nat)(n0:Nat)(hn:n0=1)(X:Array Int)(a b pv lim n:Nat)(hint:Sort.Hint)(wb wp:Bool)(ha:a<=pv)(hp:pv<b)(hN:b - a<=N)(hb:b<=n)(hn2:n=X.size)(hX:n<65536)(hl:lim<64)(hB:Sort.Below lt a b X)
  (R:Array Int) (hR:zN X a b pv hint lim wb wp=R) (τ:Fr) (h:L8 τ a b lim wb wp n) (h12:Sx.look 10 τ= .int .i64 ((b - a:Nat):Int)) (h13:Sx.look 11 τ= .int .i64 pv) (VY:Sx.look 12 τ= .int .i64 (dZ hint))
  {Q:Ex->Fr->List ay->Prop} (hr:∀ τ',Q .ret τ' [mv R]) (hq:VX R a b lim n Q):JC.wp (Gq N) n0 yV Q τ [mv X]:=by
 subst hn;obtain⟨⟨h0,h1,h2⟩,⟨h4,h3⟩,h10,h11⟩:=h;by_cases hc:(wb&&wp&&decide (hint= .increasing))=true
 ·rw[Ht hc] at hR;simp only[z03,decide_eq_true_eq] at hc;obtain⟨⟨rfl,rfl⟩,rfl⟩:=hc;have p1:Df 1 X.toList ((a:Int),(b:Int),()):=ql 1 (by omega) (by omega) (by omega)
  have st:=Sort.partialInsertionSort_holds jF X a b (by omega) (by omega) hB
  have e1:dZ .increasing=1:=rfl;rw[e1] at VY;generalize hpi:Sort.partialInsertionSort lt X a b=pi at hR st;have hb2:Hf X.toList ((a:Int),(b:Int),())=pi.2:=by rw[Ho,hpi]
  have hb1:He X.toList ((a:Int),(b:Int),())=pi.1.toList:=by rw[Hl,hpi]
  unfold yV;simp only[go_sem,seval,h0,h1,h2,h3,h10,h11,h12,h13,VY,mv,jo,je,p1,hb1,hb2,<- hn2];refine⟨λhl2=> ?_,λhl2=> ?_⟩
  ·rw[if_pos hl2] at hR;subst hR;exact hr _
  ·rw[if_neg (by rw[hl2];simp)] at hR
   refine wtl N 1 rfl pi.1 a b pv lim n true true ha hp hN hb (by rw[st.1.1,hn2]) hX hl (hB.perm (by omega) st.1) R hR _ ?_ ?_ ?_ hq
   ·simp only[go_sem,seval,L8]
   ·simp only[go_sem,seval]
   ·simp only[go_sem,seval]
 ·rw[Hu hc] at hR;have key:∀ τ':Fr,L8 τ' a b lim wb wp n->Sx.look 10 τ'= .int .i64 ((b - a:Nat):Int)->Sx.look 11 τ'= .int .i64 pv->JC.wp (Gq N) 1 Cm Q τ' [mv X]:=
   λτ' g g12 g13=>wtl N 1 rfl X a b pv lim n wb wp ha hp hN hb hn2 hX hl hB R hR τ' g g12 g13 hq
  cases wb with
  |false=>
   unfold yV;simp only[go_sem,seval,h0,h1,h2,h3,h10,h11,h12,h13,VY,mv];refine key _ ?_ ?_ ?_
   ·simp only[go_sem,seval,L8]
   ·simp only[go_sem,seval]
   ·simp only[go_sem,seval]
  |true=>
   cases wp with
   |false=>
    unfold yV;simp only[go_sem,seval,h0,h1,h2,h3,h10,h11,h12,h13,VY,mv];refine key _ ?_ ?_ ?_
    ·simp only[go_sem,seval,L8]
    ·simp only[go_sem,seval]
    ·simp only[go_sem,seval]
   |true=>
    have hne:(dZ hint=1)=False:=by rw[Hw];simpa using hc
    unfold yV;simp only[go_sem,seval,h0,h1,h2,h3,h10,h11,h12,h13,VY,hne,mv];refine key _ ?_ ?_ ?_
    ·simp only[go_sem,seval,L8]
    ·simp only[go_sem,seval]
    ·simp only[go_sem,seval]
def pvM(X:Array Int)(a b lim:Nat)(wb wp:Bool):Array Int:=
 if (Sort.choosePivot lt X a b).2= .decreasing then zN (Sort.reverseRange X a b) a b ((b - 1) - ((Sort.choosePivot lt X a b).1 - a)) .increasing lim wb wp
 else zN X a b (Sort.choosePivot lt X a b).1 (Sort.choosePivot lt X a b).2 lim wb wp
theorem wpv(N:Nat)(n0:Nat)(hn:n0=1)(X:Array Int)(a b lim n:Nat)(wb wp:Bool)(hab:a<b)(hN:b - a<=N)(hb:b<=n)(hn2:n=X.size)(hX:n<65536)(hl:lim<64)(hB:Sort.Below lt a b X)
  (R:Array Int) (hR:pvM X a b lim wb wp=R) (τ:Fr) (h:L8 τ a b lim wb wp n) (h12:Sx.look 10 τ= .int .i64 ((b - a:Nat):Int))
  {Q:Ex->Fr->List ay->Prop} (hr:∀ τ',Q .ret τ' [mv R]) (hq:VX R a b lim n Q):JC.wp (Gq N) n0 FV Q τ [mv X]:=by
 subst hn;obtain⟨⟨h0,h1,h2⟩,⟨h4,h3⟩,h10,h11⟩:=h;have p1:Df 1 X.toList ((a:Int),(b:Int),()):=ql 1 (by omega) (by omega) (by omega)
 obtain⟨c1,c2⟩:=Sort.choosePivot_holds lt X a b hab;unfold pvM at hR;generalize hC:Sort.choosePivot lt X a b=c at hR c1 c2;have hb2:VT X.toList ((a:Int),(b:Int),())=((c.1:Int),dZ c.2):=by rw[NH,hC]
 by_cases hd:c.2= .decreasing
 ·rw[if_pos hd] at hR;have st:=Sort.reverseRange_holds X a b (by omega) (by omega)
  have w1:z01.wrap ((b:Int) - 1)=((b - 1:Nat):Int):=by rw[aJ];omega
  have w2:z01.wrap ((c.1:Int) - a)=((c.1 - a:Nat):Int):=by rw[aJ];omega
  have w3:z01.wrap (((b - 1:Nat):Int) - ((c.1 - a:Nat):Int))=((b - 1 - (c.1 - a):Nat):Int):=by rw[aJ];omega
  have hd':(dZ c.2=2)=True:=by rw[xg];simpa using hd
  unfold FV;simp only[go_sem,seval,h0,h1,h2,h3,h10,h11,h12,mv,jo,je,p1,hb2,hd',NG,w1,w2,w3,<- hn2];refine wmd N 1 rfl (Sort.reverseRange X a b) a b (b - 1 - (c.1 - a)) lim n .increasing wb wp (by omega) (by omega) hN hb (by rw[st.1,hn2]) hX hl (hB.perm (by omega) st) R hR _ ?_ ?_ ?_ ?_ hr hq
  ·simp only[go_sem,seval,L8]
  ·simp only[go_sem,seval]
  ·simp only[go_sem,seval]
  ·simp only[go_sem,seval,dZ]
 ·rw[if_neg hd] at hR;have hd':(dZ c.2=2)=False:=by rw[xg];simpa using hd
  unfold FV;simp only[go_sem,seval,h0,h1,h2,h3,h10,h11,h12,mv,jo,je,p1,hb2,hd',<- hn2];refine wmd N 1 rfl X a b c.1 lim n c.2 wb wp c1 c2 hN hb hn2 hX hl hB R hR _ ?_ ?_ ?_ ?_ hr hq
  ·simp only[go_sem,seval,L8]
  ·simp only[go_sem,seval]
  ·simp only[go_sem,seval]
  ·simp only[go_sem,seval,dZ]
theorem NQ{X:Array Int}{a b limit:Nat}{wb wp:Bool}(h12:¬ b - a<=12)(h0:¬ limit=0):Sort.pdq lt X a b limit wb wp=pvM (if (!wb)=true then Sort.breakPatterns X a b else X) a b (if (!wb)=true then limit - 1 else limit) wb wp:=by
 rw[Sort.pdq,if_neg h12,if_neg h0];unfold pvM;by_cases hd:(Sort.choosePivot lt (if (!wb)=true then Sort.breakPatterns X a b else X) a b).2= .decreasing
 ·rw[if_pos hd];simp only[hd,if_true];rfl
 ·rw[if_neg hd];simp only[hd,if_false];rfl
theorem Hy(N:Nat)(ih:bQ Try.prog main Fz (Gq N))(X:Array Int)(a b limit:Nat)(hab:a<=b)(hN:b - a<=N)(hb:b<=X.size)(hX:X.size<65536)(hl:limit<64)(hB:Sort.Below lt a b X):
  bC Try.prog main Fz 119 [.vec 0 X.size, .int .i64 a, .int .i64 b, .int .i64 limit] [mv X] (.cu []) [mv (Sort.pdq lt X a b limit true true)]:=by
 refine wkA j119 [] 134 ih rfl ?_;obtain⟨R,hR⟩:∃ R,R=Sort.pdq lt X a b limit true true:=⟨_,rfl⟩;rw[<- hR];unfold j119;simp only[go_sem,seval,mv];refine bU (Nat×Nat×Nat×Bool×Bool×Array Int) (λs=>[.int .i64 s.2.1, .int .i64 s.1, .int .i64 s.2.2.1, .bool s.2.2.2.1, .bool s.2.2.2.2.1]) (λs=>[mv s.2.2.2.2.2]) (λs=>(s.1<=s.2.1/\s.2.1 - s.1<=N/\s.2.1<=X.size)/\(s.2.2.1<64/\s.2.2.2.2.2.size=X.size/\Sort.Below lt s.1 s.2.1 s.2.2.2.2.2)/\Sort.pdq lt s.2.2.2.2.2 s.1 s.2.1 s.2.2.1 s.2.2.2.1 s.2.2.2.2.1=R) (λs=>s.2.1 - s.1) (a,b,limit,true,true,X) ⟨⟨hab,hN,hb⟩,⟨hl,rfl,hB⟩,hR.symm⟩ ?_ rfl ?_
 ·simp only[go_sem,seval]
 rintro⟨i,j,lim,wb,wp,Y⟩ ⟨⟨k0,k1,k2⟩,⟨k3,k4,k5⟩,k6⟩;simp only at k0 k1 k2 k3 k4 k5 k6;have w1:z01.wrap ((j:Int) - i)=((j - i:Nat):Int):=by rw[aJ];omega
 have q0:Df 0 Y.toList ((i:Int),(j:Int),()):=ql 0 (by omega) (by omega) (by omega)
 by_cases h12:j - i<=12
 ·have e1:(((j - i:Nat):Int)<=12)=True:=by simp;omega
  have e:R=Sort.insertionSort lt Y i j:=by rw[<- k6,Sort.pdq,if_pos h12]
  rw[yX];simp only[go_sem,seval,w1,e1,jo,je,q0,ND,k4,mv,e]
 have e1:(((j - i:Nat):Int)<=12)=False:=by simp;omega
 have q1:Df 1 Y.toList ((i:Int),(j:Int),()):=ql 1 (by omega) (by omega) (by omega)
 by_cases h0:lim=0
 ·subst h0;have e:R=Sort.heapSort lt Y i j:=by rw[<- k6,Sort.pdq,if_neg h12,if_pos rfl]
  have e2:(((0:Nat):Int)=0)=True:=by simp
  rw[yX];simp only[go_sem,seval,w1,e1,jo,je,q1,Hg,k4,mv,e]
 have e2:((lim:Int)=0)=False:=by simp;omega
 rw[NQ h12 h0] at k6;cases wb with
 |true=>
  rw[yX];simp only[go_sem,seval,w1,e1,e2,mv];refine wpv N _ rfl Y i j lim X.size true wp (by omega) k1 k2 k4.symm (by omega) k3 k5 R k6 _ ?_ ?_ ?_ ?_
  ·simp only[go_sem,seval,L8]
  ·simp only[go_sem,seval]
  ·intro τ';simp only[go_sem,seval,mv]
  ·intro e he τ' a' b' wb' wp' V hL h1 h2 h3;obtain⟨⟨g0,g1,g2⟩,⟨g4,g3⟩,g10,g11⟩:=hL;have hfin:∃ s:Nat×Nat×Nat×Bool×Bool×Array Int,((s.1<=s.2.1/\s.2.1 - s.1<=N/\s.2.1<=X.size)/\(s.2.2.1<64/\s.2.2.2.2.2.size=X.size/\Sort.Below lt s.1 s.2.1 s.2.2.2.2.2)/\Sort.pdq lt s.2.2.2.2.2 s.1 s.2.1 s.2.2.1 s.2.2.2.1 s.2.2.2.2.1=R)/\s.2.1 - s.1<j - i/\s=(a',b',lim,wb',wp',V):=
    ⟨_,⟨⟨h1.1,by have:=h1.2.2;simp only;omega,h1.2.1⟩,⟨by simp only;omega,h2.1,h2.2⟩,h3⟩,h1.2.2,rfl⟩
   obtain⟨s,f1,f2,rfl⟩:=hfin;rcases he with rfl|rfl
   ·simp only[go_sem,seval,mv];refine⟨_,f1,f2,?_⟩;simp only[go_sem,seval,g0,g1,g2,g3,g10,g11]
   ·simp only[go_sem,seval,mv];refine⟨_,f1,f2,?_⟩;simp only[go_sem,seval,g0,g1,g2,g3,g10,g11]
 |false=>
  have q8:Df 8 Y.toList ((i:Int),(j:Int),()):=ql 8 (by omega) (by omega) (by omega)
  have st:=Sort.breakPatterns_holds Y i j (by omega) (by omega)
  have w2:z01.wrap ((lim:Int) - 1)=((lim - 1:Nat):Int):=by rw[aJ];omega
  rw[yX];simp only[go_sem,seval,w1,e1,e2,w2,jo,je,q8,Di,k4,mv];refine wpv N _ rfl (Sort.breakPatterns Y i j) i j (lim - 1) X.size false wp (by omega) k1 k2 (by rw[st.1,k4]) (by omega) (by omega) (k5.perm (by omega) st) R k6 _ ?_ ?_ ?_ ?_
  ·simp only[go_sem,seval,L8]
  ·simp only[go_sem,seval]
  ·intro τ';simp only[go_sem,seval,mv]
  ·intro e he τ' a' b' wb' wp' V hL h1 h2 h3;obtain⟨⟨g0,g1,g2⟩,⟨g4,g3⟩,g10,g11⟩:=hL;have hfin:∃ s:Nat×Nat×Nat×Bool×Bool×Array Int,((s.1<=s.2.1/\s.2.1 - s.1<=N/\s.2.1<=X.size)/\(s.2.2.1<64/\s.2.2.2.2.2.size=X.size/\Sort.Below lt s.1 s.2.1 s.2.2.2.2.2)/\Sort.pdq lt s.2.2.2.2.2 s.1 s.2.1 s.2.2.1 s.2.2.2.1 s.2.2.2.2.1=R)/\s.2.1 - s.1<j - i/\s=(a',b',lim - 1,wb',wp',V):=
    ⟨_,⟨⟨h1.1,by have:=h1.2.2;simp only;omega,h1.2.1⟩,⟨by simp only;omega,h2.1,h2.2⟩,h3⟩,h1.2.2,rfl⟩
   obtain⟨s,f1,f2,rfl⟩:=hfin;rcases he with rfl|rfl
   ·simp only[go_sem,seval,mv];refine⟨_,f1,f2,?_⟩;simp only[go_sem,seval,g0,g1,g2,g3,g10,g11]
   ·simp only[go_sem,seval,mv];refine⟨_,f1,f2,?_⟩;simp only[go_sem,seval,g0,g1,g2,g3,g10,g11]
theorem QT(N:Nat):bQ Try.prog main Fz (Gq N):=by
 induction N using Nat.strongRecOn with
 |ind N ih=>
  have key:bQ Try.prog main Fz (FH.sv 119 TP 1 DT.int (.three .int .int .int) .unit (NC N) (λ_ _=>()) Dh Gp):=FH.jf (by decide) (by kernel_rfl) (λs y h=>by obtain⟨a,b,l,rfl,h1,h2,h3,hB⟩:=Hr h;exact Hy (b - a) (ih _ h1.2) s.toArray a b l h1.1 (z04 _) h2.1 h2.2 h3 hB) QS
  exact key
def Gsf(f:FuncId)(a:List SV)(m:List ay):Sx.Call:=(FH.sv 119 TP 1 DT.int (.three .int .int .int) .unit (NC 65536) (λ_ _=>()) Dh Gln) f a m
theorem VZ:type_of% (nq Gsf.eq_1):=nq Gsf.eq_1
theorem V3:bQ Try.prog main Fz Gsf:=FH.jf (by decide) (by kernel_rfl) (λs y h=>by obtain⟨a,b,l,rfl,h1,h2,h3,hB⟩:=Hr h;exact Hy (b - a) (QT _) s.toArray a b l h1.1 (z04 _) h2.1 h2.2 h3 hB) Hz
theorem NR(X:Array Int)(hX:X.size<65536):bC Try.prog main Fz 105 [.vec 0 X.size] [mv X] (.cu []) [mv (Sort.sort lt X)]:=by
 refine wkA j105 [] 11 V3 rfl ?_;have w1:IntKind.u64.wrap (X.size:Int)=X.size:=IntWalk.u64_in _ (by omega)
 have hb:=QU hX;have p1:NC 65536 X.toList (((0:Nat):Int),(X.size:Int),(Sort.bitsLen X.size:Int),()):=zM (Nat.zero_le _) (by omega) (z04 _) hX (by omega) (.inl rfl)
 have e1:Dh X.toList (0,(X.size:Int),(Sort.bitsLen X.size:Int),())=(Sort.sort lt X).toList:=rfl;unfold j105;simp only[go_sem,seval,mv,VZ,HY,w1,e1];exact⟨⟨z02 _,by omega⟩,p1⟩
theorem uniq:∀ (r l:List Int),l.Perm r->l.Pairwise (λx y=>lt y x=false)->r.Pairwise (λx y=>x<=y)->l=r
 |[],l,h,_,_=>h.eq_nil
 |y::r,l,h,hl,hr=>by
  cases l with
  |nil=>exact absurd h.symm.eq_nil (by simp)
  |cons x l=>
   have hx:x=y:=by
    have hm:=h.symm.subset (z0l (a:=y) (l:=r));have hm2:=h.subset (z0l (a:=x) (l:=l));rcases z0t.1 hm with e|hm
    ·exact e.symm
    ·rcases z0t.1 hm2 with e|hm2
     ·exact e
     ·have h1:=(z09.1 hl).1 y hm;have h2:=(z09.1 hr).1 x hm2;simp only[lt,decide_eq_false_iff_not] at h1;omega
   subst hx;rw[uniq r l ((List.perm_cons x).1 h) (z09.1 hl).2 (z09.1 hr).2]
theorem MP(l:List Int):(Sort.sort lt l.toArray).toList=SortP.sorted l:=by
 obtain⟨h1,h2⟩:=Sort.sort_holds (Sort.pdq_holds Sort.insertionSort_holds Sort.heapSort_holds Sort.partialInsertionSort_holds (Sort.partition_holds lt) (Sort.partitionEqual_holds lt) Sort.reverseRange_holds) jF l.toArray;generalize Sort.sort lt l.toArray=Z at h1 h2;have hz:Z.size=l.toArray.size:=h1.1;have hs:=List.pairwise_mergeSort (le:=λx y:Int=>decide (x<=y)) (by intro a b c;simp;omega) (by intro a b;simp;omega) l
 refine uniq (SortP.sorted l) Z.toList ?_ ?_ (hs.imp λh=>of_decide_eq_true h)
 ·have h3:=h1.2.2;rw[z0k,show l.toArray.size=Z.size from hz.symm,z0k] at h3
  exact h3.trans (List.mergeSort_perm l _).symm
 ·rw[List.pairwise_iff_getElem];intro i j hi hj hij;have:=h2 i j (Nat.zero_le _) hij (by rw[<- hz];simpa using hj)
  have hi':i<Z.size:=by simpa using hi
  have hj':j<Z.size:=by simpa using hj
  simpa[hi',hj'] using this
theorem akF(s:List Int)(h:s.length<65536):bC Try.prog main Fz 105 [.vec 0 s.length] [.vec TP 1 (s.map DT.int.aA)] (.cu []) [.vec TP 1 ((SortP.sorted s).map DT.int.aA)]:=by
 have:=NR (main:=main) (Fz:=Fz) s.toArray (by simpa using h)
 rw[<- MP];exact this
end Go.Proofs.Ytpajfggdnobheaa.PI
namespace Go.Proofs.Ytpajfggdnobheaa.PI
variable {main:Bool} {Fz:Nat->Prop}
open D
def XH:JC:=(.seq (qN (o7 29 5<|o7 30 4<|oO 31 30<|oN 32 29 31<|.nil) (qO 32 .skip (.exit 2))) (.seq (.block 3 (.seq (.aZ<|qL [4,5,0,3]<|o7 35 4<|o7 36 5<|oJ 37 1 35 36<|o9 38 1 37<|qL [4,5,38,0,3]<|o7 39 4<|o7 40 5<|qo 41 (.ar .sub (.t 40) (I 1))<|oJ 42 1 39 41<|o9 43 1 42<|qo 44 (.cmp .neq (.t 38) (.t 43))<|.nil) (qM [44,0,3,4,5] (qO 44 (qN (o7 45 0<|o7 46 3<|o7 47 4<|o7 48 5<|oJ 49 1 47 48<|qL [49,45,46,3,5,4,0]<|o9 50 1 49<|oJ 51 1 45 46<|oG 1 51 50<|.nil) (qM [3,5,4,0] (.ops<|o7 52 3<|oI 53 52 1<|o7 3 53<|.nil))) .skip)))) (qM [5,4,0,3] (.ops<|o7 33 5<|oI 34 33 1<|o7 5 34<|.nil))))
def agO:JC:=(qM [0,3] (qN (o7 54 0<|o7 55 3<|qo 56 (.slc 1 (.t 54) (some (.t 55)) none none)<|en (.L9 (.clr (.int .i64 0)) [(.t 56)])<|.nil) (qN (o7 57 0<|qL [3,57]<|o7 58 3<|qo 59 (.slc 1 (.t 57) none (some (.t 58)) none)<|o7 2 59<|.nil) .ret)))
def agP:JC:=(qM [3,0] (.ops<|o7 14 3<|oI 15 14 1<|o7 3 15<|.nil))
def XI:JC:=(.seq (qN (o7 10 3<|o7 11 0<|oO 12 11<|oN 13 10 12<|.nil) (qO 13 .skip (.exit 0))) (.seq (.block 1 (.seq (.aZ<|o7 16 0<|qL [3,16,0]<|o7 17 3<|oJ 18 1 16 17<|o9 19 1 18<|o7 20 0<|qL [3,20,19,0]<|o7 21 3<|qo 22 (.ar .sub (.t 21) (I 1))<|oJ 23 1 20 22<|o9 24 1 23<|oW 25 19 24<|.nil) (qM [25,0,3] (qO 25 (qN (o7 26 0<|o7 27 3<|qo 28 (.slc 1 (.t 26) (some (.t 27)) none none)<|o7 4 28<|.nil) (.seq (qN (o8 5 1<|.nil) (.block 2 (.loop [4,0] [5,3] XH))) agO)) .skip)))) agP))
def agQ:JC:=(qM [0] (qN (o7 60 0<|o7 2 60<|.nil) .ret))
def j106:JC:=(qN (oQ 2<|.nil) (.seq (qN (o7 6 0<|oO 7 6<|oZ 8 7 2<|.nil) (qO 8 (qN (o7 9 0<|o7 2 9<|.nil) .ret) .skip)) (.seq (qN (o8 3 1<|.nil) (.block 0 (.loop [0] [3] XI))) agQ)))
theorem aov{n k:Nat}(h:k<n):SV.kZ 0 k=cutV 0 n k:=(if_neg (by omega)).symm
theorem Ze{n:Nat}:SV.vec 0 n=cutV 0 n n:=(if_pos rfl).symm
def Pg(d:Array Int):Array Int:=if (z00 d.toList).length=d.size then d else(z00 d.toList++z0d (d.size - (z00 d.toList).length) 0).toArray
theorem TB{d:Array Int}(h:∀ j,j<d.size->z0a d j=true):Pg d=d/\(z00 d.toList).length=d.size:=by
 have e:z00 d.toList=d.toList:=Lib.compact_all _ (by simpa using h)
 have e2:(z00 d.toList).length=d.size:=by rw[e];simp
 exact⟨if_pos e2,e2⟩
theorem LJ{d:Array Int}{k:Nat}(h:0<k):(d[k]! =d[k - 1]!)=(z0a d k=false):=by
 unfold z0a;rw[decide_eq_false_iff_not];apply propext;constructor
 ·rintro e (h0|h0)
  ·omega
  ·exact h0 e
 ·intro h0;exact z06 λh1=>h0 (.inr h1)
theorem akB(d:Array Int)(hd:d.size<=1000000):bC Try.prog main Fz 106 [.vec 0 d.size] [mv d] (cutV 0 d.size (z00 d.toList).length) [mv (Pg d)]:=by
 refine wkA j106 [.tmp 2] 61 FH.au rfl ?_;obtain⟨n,hn⟩:∃ n,n=d.size:=⟨_,rfl⟩;rw[<- hn] at hd ⊢;unfold j106;by_cases h2:n<2
 ·have h2':(n:Int)<2:=by omega
  obtain⟨e1,e2⟩:=TB (d:=d) λj hj=>z0s d j (by omega)
  rw[e1,e2,<- hn,<- Ze];simp only[go_sem,seval,h2',mv]
 have h2':¬ (n:Int)<2:=by omega
 simp only[go_sem,seval,h2',mv];refine bU Nat (λk=>[.int .i64 k]) (λ_=>[mv d]) (λk=>1<=k/\k<=n/\∀ j,j<k->z0a d j=true) (λk=>n - k) 1 ⟨z04 _,by omega,z0s d⟩ ?_ rfl ?_
 ·simp only[go_sem,seval]
 rintro k ⟨k0,k1,k2⟩;by_cases hk:k<n
 case neg=>
  obtain rfl:k=n:=by omega
  obtain⟨e1,e2⟩:=TB (d:=d) (by rw[<- hn];exact k2)
  rw[e1,e2,<- hn,<- Ze];unfold XI;simp only[go_sem,seval,mv,Int.lt_irrefl];unfold agQ;simp only[go_sem,seval,mv]
 have hk':(k:Int)<n:=by omega
 have r1:k<d.size:=by omega
 have r2:k - 1<d.size:=by omega
 have w1:z01.wrap ((k:Int) - 1)=((k - 1:Nat):Int):=by rw[aJ];omega
 have w2:z01.wrap ((k:Int)+1)=((k+1:Nat):Int):=aJ;have kne:¬ k=0:=by omega
 unfold XI;simp only[go_sem,seval,hk',mv,rd,r1,r2,w1,bn,aU,kne,z08,z02];refine⟨by omega,λhc=>⟨⟨.inr hk,z04 _⟩,?_⟩,λhc=> ?_⟩
 ·have hc':z0a d k=false:=(LJ (by omega)).mp hc
  refine bU (Nat×Nat×Array Int) (λs=>[.int .i64 s.1, .int .i64 s.2.1]) (λs=>[mv s.2.2]) (λs=>(1<=s.1/\k+s.1<=n)/\k<=s.2.1/\Lib.CompInv d (k+s.1) s.2.1 s.2.2) (λs=>n - (k+s.1)) (1,k,d) ⟨⟨z04 _,by simp only;omega⟩,z04 _,Lib.CompInv.start k2 hc'⟩ ?_ rfl ?_
  ·simp only[go_sem,seval]
  rintro⟨q,p,Y⟩ ⟨⟨q0,q1⟩,q2,hI⟩;simp only at q0 q1 q2 hI;have hY:Y.size=n:=hI.size.trans hn.symm;have hp:=hI.lt;have u1:z01.wrap ((q:Int) - 1)=((q - 1:Nat):Int):=by rw[aJ];omega
  have u2:z01.wrap ((q:Int)+1)=((q+1:Nat):Int):=aJ;have u3:z01.wrap ((p:Int)+1)=((p+1:Nat):Int):=aJ;by_cases hq:q<n - k
  ·have hq':(q:Int)< ((n - k:Nat):Int):=by omega
   have s1:k+q<Y.size:=by omega
   have s2:k+(q - 1)<Y.size:=by omega
   have s3:p<n:=by omega
   have t1:Y[k+q]! =d[k+q]! :=hI.high _ (by omega)
   have t2:Y[k+(q - 1)]! =d[k+q - 1]! :=by rw[hI.high _ (by omega)];congr 1;omega
   unfold XH;have e1:=rd s1;have e2:=rd s2;simp only[go_sem,seval,hq',mv,e1,e2,s3,hY,t1,t2,u1,u2,u3,wr,wdz,bn,aU,z08,z02];have hkm:0<k+q:=by omega
   refine⟨by omega,by omega,by omega,λhc=>⟨by omega,?_⟩,λhc=> ?_⟩
   ·have hkp:z0a d (k+q)=true:=Lib.keeps_pos hc;have hne:=hI.keep (by omega) hkp
    exact⟨(q+1,p+1,Y.setIfInBounds p d[k+q]!),⟨⟨by simp only;omega,by simp only;omega⟩,by simp only;omega,hne⟩,by simp only;omega,⟨rfl,rfl⟩,rfl⟩
   ·have hkp:z0a d (k+q)=false:=Lib.keeps_neg hkm hc;exact⟨(q+1,p,Y),⟨⟨by simp only;omega,by simp only;omega⟩,q2,hI.skip hkp⟩,by simp only;omega,⟨rfl,rfl⟩,rfl⟩
  ·have hq':¬ (q:Int)< ((n - k:Nat):Int):=by omega
   unfold XH;have hqn:k+q=n:=by omega
   rw[hqn,hn] at hI;have hlen:(z00 d.toList).length=p:=by have:=hI.len;rw[<- z07] at this;exact this
   have hcl:Pg d=(z00 d.toList++z0d (n - p) 0).toArray:=by unfold Pg;rw[if_neg (by omega),hlen,<- hn]
   have htk:Y.toList.take p=z00 d.toList:=by
    have hcd:z00 d.toList=z05 d d.size:=by simp[z00]
    apply List.ext_getElem?;intro j;by_cases hj:j<p
    ·rw[hcd,hI.low j hj,List.getElem?_take_of_lt hj];have:j<Y.size:=by omega
     simp[this]
    ·rw[z0j (by simp;omega),z0j (by omega)]
   have hp0:¬ p=0:=by omega
   have hpn:p<n:=by omega
   have asW:p<=n:=by omega
   simp only[go_sem,seval,hq',mv];unfold agO;simp only[go_sem,seval,mv,hp0,hpn,asW,hlen];refine⟨z02 _,z04 _,⟨by omega,by omega⟩,z02 _,aov hpn,?_⟩
   rw[hcl,<- List.map_take,htk,Aw];have hz:z0d (n - p) (SV.int z01 0)=(z0d (n - p) (0:Int)).map DT.int.aA:=by rw[List.map_replicate];rfl
   rw[hz,Aw,<- z0f]
 ·unfold agP;simp only[go_sem,seval,w2,mv];refine⟨k+1,⟨by omega,by omega,λj hj=> ?_⟩,by omega,rfl⟩
  by_cases e:j=k
  ·subst e;cases hkk:z0a d j
   ·exact absurd ((LJ (by omega)).mpr hkk) hc
   ·rfl
  ·exact k2 j (by omega)
theorem agR(d:Array Int):(Pg d).size=d.size:=by
 have:=SortP.EI d.toList;unfold Pg;split
 ·rfl
 ·simp at this ⊢;omega
theorem abJ(d:Array Int):(Pg d).toList.take (z00 d.toList).length=z00 d.toList:=by
 unfold Pg;split
 ·rename_i h;have:∀ (a:Nat),a<=d.size->(z05 d a).length=a->z05 d a=d.toList.take a:=by
   intro a
   induction a with
   |zero=>intro _ _;simp[z05]
   |succ a ih=>
    intro ha hl;rw[Lib.compactUpTo_succ] at hl ⊢;have hle:(z05 d a).length<=a:=by unfold z05;rw[z0r];exact Nat.le_trans (List.length_filter_le _ _) (by simp)
    split at hl
    ·rename_i hk;rw[if_pos hk,ih (by omega) (by simpa using hl),List.take_add_one]
     have:a<d.size:=by omega
     simp[this]
    ·simp at hl;omega
  have hcd:z00 d.toList=z05 d d.size:=by simp[z00]
  rw[h,hcd,this d.size (z04 _) (by rw[<- hcd,h])]
 ·simp
theorem aqB(s:List Int)(h:s.length<=1000000):∃ l':List Int,l'.length=s.length/\l'.take (z00 s).length=z00 s/\(z00 s).length<=s.length/\
  bC Try.prog main Fz 106 [.vec 0 s.length] [.vec TP 1 (s.map DT.int.aA)] (cutV 0 s.length (z00 s).length) [.vec TP 1 (l'.map DT.int.aA)]:=by
 refine⟨(Pg s.toArray).toList,by simpa using agR s.toArray,abJ s.toArray,SortP.EI s,?_⟩
 exact akB (main:=main) (Fz:=Fz) s.toArray (by simpa using h)
end Go.Proofs.Ytpajfggdnobheaa.PI
namespace Go.Proofs.Ytpajfggdnobheaa.Rc
variable {main:Bool} {Fz:Nat->Prop}
open D Tr Ah Ps Od
def j71:JC:=(qN (oU 1 101 0<|o8 2 0<|.nil) (qN (oD 3 1 1 1<|o9 4 1 3<|o7 2 4<|.nil) .ret))
def agZ:JC:=(qN (oN 22 21 20<|.nil) (.seq (qO 22 .skip (.exit 0)) (.seq (.block 1 (qN (oJ 23 4 19 21<|oC 24 4 23<|eo 10 (.alloc 101 (.agg [(.int .i64 0),(.int .i64 0),(.int .i64 0),(.int .i64 0)]))<|oG 4 10 24<|.nil) (qM [8,1,10,21,20,19] (.ops<|o7 25 8<|o7 26 1<|oC 27 4 10<|eo 28 (.fO (.t 26) [(.t 27)])<|qL [28,25,21,20,19,1]<|eo 29 (.Ia 3 1 1 (.int .i64 0) [(0,(.t 28))])<|oV 30 3 1 8 25 29<|o7 8 30<|.nil)))) (qM [21,20,19,8,1] (.ops<|oI 31 21 1<|o7 21 31<|.nil)))))
def alV:JC:=(.pin 8 (qN (o7 32 8<|oL 33 105 32<|.nil) (qN (o7 34 8<|oL 35 106 34<|o7 4 35<|o8 5 0<|.nil) (.mW 4 1000003 1 .ret))))
def j70:JC:=(qN (oQ 4<|o8 5 0<|.nil) (qN (o7 12 0<|oL 13 13 12<|o7 11 13<|oM 14 0 11<|oM 15 1 11<|o7 6 14<|o7 7 15<|.nil) (.seq (qN (o7 16 7<|qB 17 16 0<|.nil) (qM [17,7,6,1] (qO 17 (qN (o7 18 7<|oQ 4<|o7 5 18<|.nil) (.mW 4 1000003 1 .ret)) .skip))) (qM [6,1] (qN (oQ 8<|.nil) (.seq (qN (o7 19 6<|oO 20 19<|o8 21 0<|.nil) (.block 0 (.mW 8 3 1 (.loop [20,19,1] [21,8] agZ)))) alV))))))
def j39:JC:=(qN (oQ 2<|o8 3 0<|.nil) (qN (o7 4 0<|eo 5 (.call 70 [(.t 4),(.c (.fn 71 []))])<|oM 6 0 5<|oM 7 1 5<|o7 2 6<|o7 3 7<|.nil) .ret))
def j41:JC:=(qN (qG 4 false<|.nil) (.seq (.aZ<|o9 5 1 1<|o7 6 0<|oJ 7 3 5 6<|oD 8 2 2 7<|o9 9 1 8<|o9 10 1 2<|oW 11 9 10<|o7 4 11<|.nil) .ret))
def ag0:JC:=(qN (oN 9 8 7<|.nil) (.seq (qO 9 .skip (.exit 0)) (.seq (.block 1 (qN (o7 10 8<|o7 5 10<|.nil) (qN (o7 11 1<|o7 12 0<|o7 13 5<|oJ 14 1 12 13<|o9 15 1 14<|eo 16 (.fO (.t 11) [(.t 15)])<|.nil) (qM [16,5,8,7,1,0] (qO 16 (qN (o7 17 5<|o7 4 17<|.nil) .ret) .skip))))) (qM [8,7,1,0] (.ops<|oI 18 8 1<|o7 8 18<|.nil)))))
def alW:JC:=(qM [] (qN (o8 4 (-1)<|.nil) .ret))
def j40:JC:=(qN (o8 4 0<|.nil) (.seq (qN (o7 6 0<|oO 7 6<|o8 8 0<|.nil) (.block 0 (.loop [7,1,0] [8] ag0))) alW))
def j18:JC:=(qN (oU 2 22 0<|oU 3 3 1<|o8 4 0<|qG 5 false<|o8 6 0<|.nil) (qN (o9 11 1 2<|oL 12 39 11<|qL [12,3,2]<|o7 10 12<|oM 13 0 10<|oM 14 1 10<|o7 7 13<|o7 8 14<|.nil) (qM [8,3,7,2] (.seq (.block 0 (qN (o7 16 8<|qB 17 16 0<|o7 15 17<|.nil) (qO 15 (qN (qL [8]<|o7 18 8<|o8 4 0<|qG 5 false<|o7 6 18<|.nil) .ret) (qN (qL [3,7,2]<|o9 20 1 3<|oZ 21 20 0<|o7 22 21<|.sc true 25 22 (o9 23 1 3<|qo 24 (.cmp .geq (.t 23) (I 8))<|.nil) (.t 24)<|o7 19 25<|.nil) (qM [19,7,2,3] (qO 19 (qN (o8 4 0<|qG 5 false<|o8 6 1<|.nil) .ret) .skip)))))) (qM [7,2,3] (qN (o7 26 7<|qo 27 (.PS 41 [(.t 2),(.t 3)])<|qC 28 40 26 27<|o7 9 28<|.nil) (.seq (qN (o7 29 9<|oZ 30 29 0<|.nil) (qO 30 (qN (qL []<|o8 4 0<|qG 5 false<|o8 6 0<|.nil) .ret) .skip)) (qM [7,9] (qN (o7 31 7<|o7 32 9<|oJ 33 1 31 32<|o9 34 1 33<|o7 4 34<|qG 5 true<|o8 6 0<|.nil) .ret)))))))))
abbrev TPi:Nat:=PI.TP
theorem aoA(r:Rc):bC Try.prog main Fz 71 [zu.aA r] [] (.int .i64 r.b) []:=by refine wkA j71 [.tmp 2] 5 FH.au rfl ?_;unfold j71;simp only[go_sem,seval]
theorem akE{l:List Rc}{i:Nat}(h:i<l.length):(l.map zu.aA).getD i .junk= .agg [.int .i64 (l.getD i zu.bg).a, .int .i64 (l.getD i zu.bg).b, .int .i64 (l.getD i zu.bg).var, .int .i64 (l.getD i zu.bg).kind]:=by simp[z0q,h,ag1]
def gX(l:List Ev):List Int:=if (aN l).2.2=0 then z00 (SortP.sorted ((gu l).map λr=>r.b)) else[]
def Gso(f:FuncId)(a:List SV)(m:List ay):Sx.Call:=(FH.mk 13 (.one fD) (λ_=>True) (λy=> .cu [.vec 0 (lH y.1).length, .int .i64 (aN y.1).2.2]) (λy=>[.vec 101 4 ((lH y.1).map zu.aA)])<|
 FH.sv 105 TPi 1 DT.int .nil .unit (λs _=>s.length<65536) (λ_ _=>()) (λs _=>SortP.sorted s)<|FH.ct 106 TPi z00<|FH.rd 71 (.one zu) (.one .int) (λ_=>True) (λy=>y.1.b) FH.none) f a m
theorem Pm:type_of% (nq Gso.eq_1):=nq Gso.eq_1
theorem aoB:bQ Try.prog main Fz Gso:=
 FH.ku (λy _=>jh (qc ⟨kD _ _,kE _ _,trivial⟩) ⟨jO _ _ zu _,trivial⟩) (λy _=>alm y.1)<|
 FH.jf (by decide) (by kernel_rfl) (λs y h=>PI.akF s h)<|FH.apY (by decide) (by kernel_rfl) (λs h=>PI.aqB s h)<|FH.dM (λy _=>aoA y.1) FH.au
theorem ag2(l:List Ev):bC Try.prog main Fz 70 [fD.aA l, .fn 71 []] [] (.cu [.vec 0 (gX l).length, .int .i64 (aN l).2.2]) [.vec TPi 1 ((gX l).map DT.int.aA)]:=by
 refine wkA j70 [.tmp 4, .tmp 5] 36 aoB rfl ?_;unfold j70;by_cases h:(aN l).2.2=0
 ·have hok:(bH l).2=0:=by rw[<- iy];exact h
  have hl:=jE hok;have hRl:(gu l).length<=6400:=Nat.le_trans (Iy (l:=l) l.length) (Nat.mul_le_mul (show l.length<=80 by omega) (show l.length<=80 by omega))
  have ht:gX l=z00 (SortP.sorted ((gu l).map λr=>r.b)):=if_pos h;have ha:lH l=gu l:=if_pos h;rw[ht];generalize gu l=R at hRl ha ⊢;simp only[go_sem,seval,Pm,h,ha];refine bU Nat (λi=>[.int .i64 i, .vec 1 i]) (λi=>[.vec 101 4 (R.map zu.aA), .vec 3 1 (((R.take i).map λr=>r.b).map DT.int.aA)]) (λi=>i<=R.length) (λi=>R.length - i) 0 (by omega) ?_ rfl ?_
  ·simp only[go_sem,seval]
  intro i hi;by_cases q:i<R.length
  ·have q':(i:Int)<R.length:=by omega
   unfold agZ;simp only[go_sem,seval,Pm,q,q',akE q];have e:((R.take (i+1)).map λr=>r.b)=(R.take i).map (λr=>r.b)++[(R.getD i zu.bg).b]:=by rw[ou zu.bg q,z0f];rfl
   refine⟨by omega,by rw[z0p];omega,i+1,by omega,by omega,⟨aJ,by rw[z0p];congr 1;omega⟩,?_⟩
   rw[e,z0f];rfl
  ·have q':¬ (i:Int)<R.length:=by omega
   have e:i=R.length:=by omega
   subst e;unfold agZ;simp only[go_sem,seval,q'];unfold alV;rw[List.take_length];simp only[go_sem,seval,Pm];rw[h];exact⟨by decide,⟨rfl,by omega⟩,⟨by rw[SortP.XR,z0r],by omega⟩,rfl⟩
 ·have ha:lH l=[]:=if_neg h;have ht:gX l=[]:=if_neg h;simp only[go_sem,seval,Pm,h,ha,ht]
def Gsd(f:FuncId)(a:List SV)(m:List ay):Sx.Call:=(FH.mk 70 (.two fD DT.NK) (λy=>y.2.1=71) (λy=> .cu [.vec 0 (gX y.1).length, .int .i64 (aN y.1).2.2]) (λy=>[.vec TPi 1 ((gX y.1).map DT.int.aA)]) FH.none) f a m
theorem aoC:type_of% (nq Gsd.eq_1):=nq Gsd.eq_1
theorem aoD:bQ Try.prog main Fz Gsd:=FH.ku (λy _=>jh (qc ⟨kD _ _,kE _ _,trivial⟩) ⟨jO _ _ DT.int _,trivial⟩) (λy h=>by have:=ag2 (main:=main) (Fz:=Fz) y.1;rw[<- h] at this;exact this) FH.au
theorem abR(l:List Ev):bC Try.prog main Fz 39 [fD.aA l] [] (.cu [.vec 0 (gX l).length, .int .i64 (aN l).2.2]) [.vec TPi 1 ((gX l).map DT.int.aA)]:=by refine wkA j39 [.tmp 2, .tmp 3] 8 aoD rfl ?_;unfold j39;simp only[go_sem,seval,aoC]
def Bj(l:List Ev)(z:Int):Int:=(l.getD z.toNat bP.bg).obj
theorem ag3(l:List Ev)(z x:Int)(h0:0<=z)(h1:z<l.length):bC Try.prog main Fz 41 [.int .i64 z, .ref (fD.aA l) [] 0, .ref (.int .i64 x) [] 0] [] (.bool (decide (Bj l z=x))) []:=by refine wkA j41 [.tmp 4] 12 FH.au rfl ?_;unfold j41;simp only[go_sem,seval];exact⟨⟨h0,by omega⟩,rfl⟩
def nR(l:List Ev)(x:Int):List Int->Nat->Int
 |[],_=> -1
 |z::zs,i=>if Bj l z=x then i else nR l x zs (i+1)
abbrev aF:DA (List Ev×Int×Unit):= .two fD.ref DT.int.ref
def Gix(l:List Ev)(x:Int)(F:FuncId)(a:List SV)(m:List ay):Sx.Call:=(FH.rd 41 (.three .int fD.ref DT.int.ref) (.one .bool) (λy=>0<=y.1/\y.1<y.2.1.length) (λy=>decide (Bj y.2.1 y.1=y.2.2.1)) FH.none) F a m
theorem aoE(l:List Ev)(x:Int)(F:FuncId)(a:List SV)(m:List ay):Gix l x F a m=(FH.rd 41 (.three .int fD.ref DT.int.ref) (.one .bool) (λy=>0<=y.1/\y.1<y.2.1.length) (λy=>decide (Bj y.2.1 y.1=y.2.2.1)) FH.none) F a m:=nr rfl
theorem aoF(l:List Ev)(x:Int):bQ Try.prog main Fz (Gix l x):=FH.dM (λy h=>ag3 y.2.1 y.1 y.2.2.1 h.1 h.2) FH.au
theorem ag4(zs:List Int)(l:List Ev)(x:Int)(hz:∀ z∈zs,0<=z/\z< (l.length:Int)):bC Try.prog main Fz 40 [dIs.aA zs,(DT.clo 41 aF).aA (l,x,())] [] (.int .i64 (nR l x zs 0)) []:=by
 refine MQ λhB=>wkA j40 [.tmp 4] 19 (aoF l x) rfl ?_;simp only[go_sem,seval] at hB;unfold j40;simp only[go_sem,seval];refine bU Nat (λi=>[.int .i64 i]) (λ_=>[]) (λi=>i<=zs.length/\nR l x zs 0=nR l x (zs.drop i) i) (λi=>zs.length - i) 0 ⟨by omega,rfl⟩ ?_ rfl ?_
 ·simp only[go_sem,seval]
 intro i hi;obtain⟨hi1,hi2⟩:=hi;by_cases h1:i<zs.length
 ·have h1':(i:Int)<zs.length:=by omega
  have hmem:zs.getD i (0:Int)∈zs:=by simp only[z0q,List.getElem?_eq_getElem h1,Option.getD_some];exact List.getElem_mem _
  obtain⟨q1,q2⟩:=hz _ hmem;unfold ag0;simp only[go_sem,seval,aoE,h1',q1,q2];rw[pF (0:Int) h1,nR] at hi2;refine⟨by omega,λh=>by rw[hi2,if_pos h],λh=>⟨i+1,⟨by omega,by rw[hi2,if_neg h]⟩,by omega,aJ⟩⟩
 ·have h1':¬ (i:Int)<zs.length:=by omega
  unfold ag0;simp only[go_sem,seval,h1'];unfold alW;simp only[go_sem,seval];rw[hi2,z0i (by omega),nR]
theorem ag5{l:List Int}{i:Nat}(h:i<l.length):(l.map DT.int.aA).getD i .junk= .int .i64 (l.getD i 0):=by simp[z0q,h,X5]
def zW(l:List Ev)(x:Int):Int×Bool×Int:=
 if (aN l).2.2=0 then(if x<0\/8<=x then(0,false,1) else if nR l x (gX l) 0<0 then(0,false,0) else((gX l).getD (nR l x (gX l) 0).toNat 0,true,0)) else(0,false,(aN l).2.2)
theorem Zh{l:List Ev}{x:Int}:∀ {zs:List Int} {i:Nat},nR l x zs i< (i+zs.length:Nat)
 |[],i=>by simp only[nR];omega
 |z::zs,i=>by rw[nR];have:=Zh (l:=l) (x:=x) (zs:=zs) (i:=i+1);simp only[List.length_cons];split<;>omega
def Gfi(l:List Ev)(F:FuncId)(a:List SV)(m:List ay):Sx.Call:=(FH.mk 39 (.one fD) (λ_=>True) (λy=> .cu [.vec 0 (gX y.1).length, .int .i64 (aN y.1).2.2]) (λy=>[.vec TPi 1 ((gX y.1).map DT.int.aA)])<|
 FH.rd 40 (.two dIs (DT.clo 41 aF)) (.one .int) (λy=> ∀ z∈y.1,0<=z/\z< (y.2.1.1.length:Int)) (λy=>nR y.2.1.1 y.2.1.2.1 y.1 0) FH.none) F a m
theorem Pn(l:List Ev)(F:FuncId)(a:List SV)(m:List ay):Gfi l F a m=(FH.mk 39 (.one fD) (λ_=>True) (λy=> .cu [.vec 0 (gX y.1).length, .int .i64 (aN y.1).2.2]) (λy=>[.vec TPi 1 ((gX y.1).map DT.int.aA)])<|
 FH.rd 40 (.two dIs (DT.clo 41 aF)) (.one .int) (λy=> ∀ z∈y.1,0<=z/\z< (y.2.1.1.length:Int)) (λy=>nR y.2.1.1 y.2.1.2.1 y.1 0) FH.none) F a m:=nr rfl
theorem aoG(l:List Ev):bQ Try.prog main Fz (Gfi l):=FH.ku (λy _=>jh (qc ⟨kD _ _,kE _ _,trivial⟩) ⟨jO _ _ DT.int _,trivial⟩) (λy _=>abR y.1)<|
 FH.dM (λy h=>ag4 y.1 y.2.1.1 y.2.1.2.1 h) FH.au
theorem aj2(l:List Ev)(x:Int)(ht:∀ z∈gX l,0<=z/\z< (l.length:Int)):bC Try.prog main Fz 18 [fD.aA l, .int .i64 x] [] (.cu [.int .i64 (zW l x).1, .bool (zW l x).2.1, .int .i64 (zW l x).2.2]) []:=by
 refine wkA j18 [.tmp 4, .tmp 5, .tmp 6] 35 (aoG l) rfl ?_;unfold j18;unfold zW;by_cases h:(aN l).2.2=0
 ·rw[if_pos h];by_cases hx:x<0\/8<=x
  ·have hxd:(decide (x<0)||decide (8<=x))=true:=by simpa using hx
   rw[if_pos hx];simp only[go_sem,seval,Pn,h,hxd]
  ·have hxd:(decide (x<0)||decide (8<=x))=false:=by simpa using hx
   rw[if_neg hx];by_cases hi:nR l x (gX l) 0<0
   ·rw[if_pos hi];simp only[go_sem,seval,Pn,h,hxd,hi];exact ht
   ·rw[if_neg hi];have hlt:=Zh (l:=l) (x:=x) (zs:=gX l) (i:=0);have h1:(nR l x (gX l) 0).toNat< (gX l).length:=by omega
    have h2:0<=nR l x (gX l) 0:=by omega
    have h3:nR l x (gX l) 0< (gX l).length:=by omega
    simp only[go_sem,seval,Pn,h,hxd,hi,h1,h2,h3,ag5 h1];exact ht
 ·rw[if_neg h];simp only[go_sem,seval,Pn,h]
end Go.Proofs.Ytpajfggdnobheaa.Rc
namespace Go.Proofs.Ytpajfggdnobheaa.Pz
variable {main:Bool} {Fz:Nat->Prop}
open D Tr C Fu Fa Ah Ps Od Rc
def lI(L:List Fl)(x:Int):Int:=match L.find? λf=>decide (f.var=x) with
 |some f=>f.at'
 |none=> -1
def vC(p:Nat->Bool)(n:Nat):Option Nat:=(List.range n).find? p
theorem Dp(p:Nat->Bool)(n:Nat):vC p (n+1)=match vC p n with
  |some j=>some j
  |none=>if p n=true then some n else none:=by
 unfold vC;rw[List.range_succ,z0e];cases(List.range n).find? p with
 |some j=>rfl
 |none=>cases h:p n<;>simp[h]
theorem Dq{p:Nat->Bool}{j:Nat}:∀ {n:Nat},vC p n=some j->j<n/\p j=true/\∀ k,k<j->p k=false
 |0,h=>by cases h
 |n+1,h=>by
  rw[Dp] at h;split at h
  ·rename_i k hk;obtain rfl:=z0n h;obtain⟨h1,h2,h3⟩:=Dq hk;exact⟨by omega,h2,h3⟩
  ·rename_i hk;split at h
   ·rename_i hp;obtain rfl:=z0n h;refine⟨by omega,hp,λk hkn=> ?_⟩
    have:=z0m.1 hk k (z0g.2 hkn);simpa using this
   ·cases h
theorem Dt{p:Nat->Bool}{n:Nat}:vC p n=none↔∀ k,k<n->p k=false:=by unfold vC;rw[z0m];exact⟨λh k hk=>by simpa using h k (z0g.2 hk),λh k hk=>by simpa using h k (z0g.1 hk)⟩
theorem KP{p q:Nat->Bool}{n:Nat}(h1:∀ j,j<n->p j=true->q j=true)(h2:∀ j,j<n->q j=true->∃ k,k<=j/\p k=true):vC p n=vC q n:=by
 cases hp:vC p n with
 |none=>
  rw[Dt] at hp;refine(Dt.2 λk hk=> ?_).symm;cases hq:q k with
  |false=>rfl
  |true=>
   obtain⟨i,hi,hpi⟩:=h2 k hk hq;rw[hp i (by omega)] at hpi;cases hpi
 |some j=>
  obtain⟨a1,a2,a3⟩:=Dq hp;cases hq:vC q n with
  |none=>
   have:=Dt.1 hq j a1;rw[h1 j a1 a2] at this;cases this
  |some k=>
   obtain⟨b1,b2,b3⟩:=Dq hq;obtain⟨i,hi,hpi⟩:=h2 k b1 b2;have c1:¬ j<k:=λh=>by have:=b3 j h;rw[h1 j a1 a2] at this;cases this
   have c2:¬ k<j:=λh=>by have:=a3 i (by omega);rw[hpi] at this;cases this
   rw[show j=k by omega]
def anM:Option Nat->Int
 |some j=>j
 |none=> -1
def xG(l:List Ev)(φ:Nat->Int):Nat->List Fl
 |0=>[]
 |i+1=>xG l φ i++if φ i=0 then[] else[⟨i,(l.getD i bP.bg).obj,φ i⟩]
theorem KQ(l:List Ev)(φ:Nat->Int)(x:Int):∀ n,(xG l φ n).find? (λf=>decide (f.var=x))=(vC (λj=>decide (φ j≠0/\(at' l j).obj=x)) n).map λ(j:Nat)=>(⟨j,(l.getD j bP.bg).obj,φ j⟩:Fl)
 |0=>rfl
 |n+1=>by
  rw[xG,z0e,KQ l φ x n,Dp];cases vC (λj=>decide (φ j≠0/\(at' l j).obj=x)) n with
  |some j=>rfl
  |none=>
   by_cases h:φ n=0
   ·simp[h]
   ·rw[if_neg h,z0c];by_cases h2:(l.getD n bP.bg).obj=x
    ·have h3:φ n≠0/\(at' l n).obj=x:=⟨h,h2⟩;rw[decide_eq_true h2,if_pos (decide_eq_true h3)];rfl
    ·have h3:¬ (φ n≠0/\(at' l n).obj=x):=λhh=>h2 hh.2;rw[decide_eq_false h2,if_neg (by rw[decide_eq_false h3];simp)];rfl
theorem IB(l:List Ev)(φ:Nat->Int)(x:Int)(n:Nat):lI (xG l φ n) x=anM (vC (λj=>decide (φ j≠0/\(at' l j).obj=x)) n):=by unfold lI;rw[KQ];cases vC (λj=>decide (φ j≠0/\(at' l j).obj=x)) n<;>rfl
theorem Du(l:List Ev):∀ n,lJ l n=xG l (lK l) n
 |0=>rfl
 |n+1=>by rw[lJ,xG,Du l n]
theorem IE(l:List Ev):∀ n,dD l n=xG l (jm l) n
 |0=>rfl
 |n+1=>by rw[dD,xG,IE l n]
def J4(l:List Ev)(j:Nat):Bool:=((gu l).map λr=>r.b).any λz=>decide (z=(j:Int))
section
variable {l:List Ev} (hok:(bH l).2=0)
include hok
theorem xH{j:Nat}(hj:j<l.length):J4 l j=true↔∃ i,Rx l (at' l j).obj.toNat i j:=by
 unfold J4;rw[List.any_eq_true];constructor
 ·rintro⟨z,hz,h⟩;obtain⟨r,hr,rfl⟩:=z0h.1 hz;obtain⟨i,hi,hr⟩:=qP.1 hr;obtain⟨k,hk,hn,rfl⟩:=qQ.1 hr;have:k=j:=by have:=of_decide_eq_true h;simp only at this;omega
  subst this;exact⟨i,N9 hok hi hk hn⟩
 ·rintro⟨i,h⟩;have hi:i<l.length:=by have:=h.1;omega
  exact⟨j,z0h.2 ⟨_,qP.2 ⟨i,hi,qQ.2 ⟨j,hj,Oa hok hj h,rfl⟩⟩,rfl⟩,by simp⟩
theorem Bh{j:Nat}(hj:j<l.length):lK l j≠0↔J4 l j=true:=by
 rw[abe hok hj,xH hok hj];rcases IG (l:=l) hj with⟨h1,h2⟩|⟨⟨i,hi,hn,hk⟩,_⟩
 ·constructor
  ·intro h;exact absurd h1 h
  ·rintro⟨i,h⟩;have hi:i<l.length:=by have:=h.1;omega
   have:=h2 i hi;rw[Oa hok hj h] at this;cases this
 ·constructor
  ·intro _;exact⟨i,N9 hok hi hj hn⟩
  ·intro _ h0;have:=Dv (at' l i) (at' l j);omega
theorem II(x:Int):lI (lJ l l.length) x=anM (vC (λj=>J4 l j&&decide ((at' l j).obj=x)) l.length):=by
 rw[Du,IB]
 congr 1
 refine KP (λj hj h=> ?_) λj hj h=>⟨j,z04 _,?_⟩
 ·simp only[decide_eq_true_eq] at h;simp only[z03,decide_eq_true_eq];exact⟨(Bh hok hj).1 h.1,h.2⟩
 ·simp only[z03,decide_eq_true_eq] at h ⊢;exact⟨(Bh hok hj).2 h.1,h.2⟩
theorem WR(x:Int):lI (dD l l.length) x=anM (vC (λj=>J4 l j&&decide ((at' l j).obj=x)) l.length):=by
 rw[IE,IB]
 congr 1
 refine KP (λj hj h=> ?_) λj hj h=> ?_
 ·simp only[decide_eq_true_eq] at h;simp only[z03,decide_eq_true_eq];exact⟨(xH hok hj).2 (IJ hok hj h.1),h.2⟩
 ·simp only[z03,decide_eq_true_eq] at h;obtain⟨h1,h2⟩:=h;obtain⟨i,hr⟩:=(xH hok hj).1 h1;refine z06 λhn=> ?_;have hx:((((at' l j).obj.toNat:Nat):Int))=(at' l j).obj:=(zV.1 hr.2.2.1).2.symm;refine IK hok (x:=(at' l j).obj.toNat) (n:=j+1) (by omega) (λk hk hkx=> ?_) j (by omega) i hr
  refine z06 λhf=>hn ⟨k,by omega,?_⟩
  simp only[decide_eq_true_eq];exact⟨hf,by rw[hkx,hx,h2]⟩
theorem ae3:lJ l l.length=[]↔gu l=[]:=by
 rw[IL hok,Du];have key:∀ n,xG l (lK l) n=[]↔∀ j,j<n->lK l j=0:=by
  intro n
  induction n with
  |zero=>simp[xG]
  |succ n ih=>
   rw[xG,List.append_eq_nil_iff,ih];constructor
   ·rintro⟨h1,h2⟩ j hj;by_cases e:j=n
    ·subst e;split at h2
     ·assumption
     ·cases h2
    ·exact h1 j (by omega)
   ·intro h;exact⟨λj hj=>h j (by omega),by rw[if_pos (h n (by omega))]⟩
 rw[key];constructor
 ·intro h x i j hj hr;have hx:x=(at' l j).obj.toNat:=by have:=(zV.1 hr.2.2.1).2;omega
  have:=(Bh hok hj).2 ((xH hok hj).2 ⟨i,hx▸hr⟩);exact this (h j hj)
 ·intro h j hj;refine z06 λhf=> ?_;obtain⟨i,hr⟩:=(xH hok hj).1 ((Bh hok hj).1 hf);exact h _ i j hj hr
omit hok in
theorem ajL:∀ z∈(gu l).map (λr=>r.b),0<=z/\z< (l.length:Int):=by intro z hz;obtain⟨r,hr,rfl⟩:=z0h.1 hz;obtain⟨i,hi,hr⟩:=qP.1 hr;obtain⟨j,hj,_,rfl⟩:=qQ.1 hr;simp only;omega
theorem YC:gX l=SortP.upTo ((gu l).map λr=>r.b) l.length:=by
 have hp:(aN l).2.2=0:=by rw[iy];exact hok
 rw[gX,if_pos hp,SortP.IQ ajL]
omit hok in
theorem KR(x:Int):∀ n,(SortP.upTo ((gu l).map λr=>r.b) n).find? (λz=>decide (Bj l z=x))=(vC (λj=>J4 l j&&decide ((at' l j).obj=x)) n).map λ(j:Nat)=>(j:Int)
 |0=>rfl
 |n+1=>by
  have ih:=KR x n;rw[SortP.upTo,z0e,ih,Dp];cases vC (λj=>J4 l j&&decide ((at' l j).obj=x)) n with
  |some j=>rfl
  |none=>
   have e:Bj l (n:Int)=(at' l n).obj:=rfl;cases hs:J4 l n with
   |false=>
    have:¬ (((gu l).map λr=>r.b).any λz=>decide (z=(n:Int)))=true:=λhh=>by rw[show J4 l n=true from hh] at hs;cases hs
    rw[if_neg this];simp
   |true=>
    rw[if_pos (show(((gu l).map λr=>r.b).any λz=>decide (z=(n:Int)))=true from hs)]
    by_cases h:(at' l n).obj=x
    ·simp[e,h]
    ·simp[e,h]
end
theorem RH{l:List Ev}{x:Int}:∀ {zs:List Int} {i:Nat},(zs.find? (λz=>decide (Bj l z=x))=none->nR l x zs i<0)/\∀ z,zs.find? (λz=>decide (Bj l z=x))=some z->(i:Int)<=nR l x zs i/\zs.getD (nR l x zs i - i).toNat 0=z
 |[],i=>⟨(λ_=>(by simp only[nR];omega)),(λz h=>by simp at h)⟩
 |y::zs,i=>by
  have IH:=RH (l:=l) (x:=x) (zs:=zs) (i:=i+1);obtain⟨h1,h2⟩:=IH;rw[nR,z0c];by_cases h:Bj l y=x
  ·rw[if_pos h,decide_eq_true h];exact⟨(λe=>nomatch e),λz e=>⟨Int.le_refl _,by simpa using e⟩⟩
  ·rw[if_neg h,decide_eq_false h];refine⟨h1,λz e=> ?_⟩;obtain⟨h3,h4⟩:=h2 z e;refine⟨by omega,?_⟩
   rw[show(nR l x zs (i+1) - (i:Int)).toNat=(nR l x zs (i+1) - ((i+1:Nat):Int)).toNat+1 by omega,List.getD_cons_succ]
   exact h4
theorem ae4{l:List Ev}(hok:(bH l).2=0){x:Int}(hx:¬ (x<0\/8<=x)):∃ a b,zW l x=(a,b,0)/\(b=true->a=lI (lJ l l.length) x)/\(b=false->lI (lJ l l.length) x= -1):=by
 have hp:(aN l).2.2=0:=by rw[iy];exact hok
 obtain⟨h1,h2⟩:=RH (l:=l) (x:=x) (zs:=gX l) (i:=0);have hf:=KR (l:=l) x l.length;rw[<- YC hok] at hf;have hv:=II hok x;rw[zW,if_pos hp,if_neg hx];cases e:vC (λj=>J4 l j&&decide ((at' l j).obj=x)) l.length with
 |none=>
  rw[e] at hf hv;refine⟨0,false,by rw[if_pos (h1 hf)],λh=>(by cases h),λ_=>hv⟩
 |some j=>
  rw[e] at hf hv;obtain⟨h3,h4⟩:=h2 _ hf;simp only[Int.natCast_zero,Int.sub_zero] at h4 h3;refine⟨_,true,by rw[if_neg (by omega)],λ_=> ?_,λh=>(by cases h)⟩
  rw[h4,hv];rfl
theorem ajM(l:List Ev):∀ z∈gX l,0<=z/\z< (l.length:Int):=by
 intro z hz;by_cases h:(aN l).2.2=0
 ·rw[YC (by rw[<- iy];exact h),SortP.Bl] at hz
  omega
 ·rw[gX,if_neg h] at hz;cases hz
end Go.Proofs.Ytpajfggdnobheaa.Pz
namespace Go.Proofs.Ytpajfggdnobheaa.Tp
variable {main:Bool} {Fz:Nat->Prop}
open D Tr Fu Fa Eqs
def j12:JC:=(qN (qG 0 false<|.nil) (qN (qo 6 (.AU (.agg [(.int .i64 0),(.int .i64 0),(.int .i64 0)]) [([.lQ 0],0,1,(I 5)),([.lQ 2],2,1,(I 1))])<|qo 7 (.AU (.agg [(.int .i64 0),(.int .i64 0),(.int .i64 0)]) [([.lQ 0],0,1,(I 2))])<|qo 8 (.AU (.agg [(.int .i64 0),(.int .i64 0),(.int .i64 0)]) [([.lQ 0],0,1,(I 2)),([.lQ 1],1,1,(I 1))])<|eo 9 (.Ia 59 3 3 (.agg [(.int .i64 0),(.int .i64 0),(.int .i64 0)]) [(0,(.t 6)),(1,(.t 7)),(2,(.t 8))])<|o7 1 9<|.nil) (qN (o7 11 1<|qL [11,1]<|oL 12 15 11<|o7 10 12<|oM 13 0 10<|oM 14 1 10<|o7 2 13<|o7 3 14<|.nil) (qM [1,3,2] (qN (o7 16 1<|oL 17 14 16<|o7 15 17<|oM 18 0 15<|qL [15,18,3,2]<|oM 19 1 15<|o7 4 18<|o7 5 19<|.nil) (qM [3,5,2,4] (qN (o7 20 3<|oH 21 20 0<|o7 22 21<|qL [22,5,2,4]<|.sc false 25 22 (o7 23 5<|oH 24 23 0<|.nil) (.t 24)<|o7 26 25<|.sc false 30 26 (o7 27 2<|oO 28 27<|oH 29 28 1<|.nil) (.t 29)<|qL [30,2,4]<|o7 31 30<|.sc false 35 31 (o7 32 2<|o7 33 4<|qC 34 9 32 33<|.nil) (.t 34)<|o7 36 35<|.sc false 42 36 (o7 37 2<|qA 38 3 37 0<|oD 39 0 0 38<|o9 40 1 39<|oH 41 40 2<|.nil) (.t 41)<|o7 0 42<|.nil) .ret)))))))
def GW(f:FuncId)(a:List SV)(m:List ay):Sx.Call:=(FH.mk 15 (.one fD) (λ_=>True) (λy=> .cu [.vec 0 (fC y.1).length, .int .i64 (aN y.1).2.2]) (λy=>[.vec 32 3 ((fC y.1).map dW.aA)])<|
 FH.mk 14 (.one fD) (λ_=>True) (λy=> .cu [.vec 0 (ny y.1).length, .int .i64 (aN y.1).2.2]) (λy=>[.vec 32 3 ((ny y.1).map dW.aA)])<|
 FH.rd 9 (.two mY mY) (.one .bool) (λ_=>True) (λy=>vZ iw y.1 y.2.1) FH.none) f a m
theorem aqI:type_of% (nq GW.eq_1):=nq GW.eq_1
theorem aqJ:bQ Try.prog main Fz GW:=FH.ku (λy _=>jh (qc ⟨kD _ _,kE _ _,trivial⟩) ⟨jO _ _ dW _,trivial⟩) (λy _=>afi y.1)<|
 FH.ku (λy _=>jh (qc ⟨kD _ _,kE _ _,trivial⟩) ⟨jO _ _ dW _,trivial⟩) (λy _=>alv y.1)<|
 FH.dM (λy _=>Qr y.1 y.2.1) FH.au
theorem atb:(aN [⟨5,0,1⟩,⟨2,0,0⟩,⟨2,1,0⟩]).2.2=0:=by kernel_rfl
theorem aoU:fC [⟨5,0,1⟩,⟨2,0,0⟩,⟨2,1,0⟩]=[⟨2,0,1⟩]:=by kernel_rfl
theorem w_full:ny [⟨5,0,1⟩,⟨2,0,0⟩,⟨2,1,0⟩]=[⟨2,0,1⟩]:=by kernel_rfl
theorem aj1:bC Try.prog main Fz 12 [] [] (.bool true) []:=by refine wkA j12 [.tmp 0] 43 aqJ rfl ?_;unfold j12;simp only[go_sem,seval,aqI,atb,aoU,w_full];exact DF (by simp[iw]) _
end Go.Proofs.Ytpajfggdnobheaa.Tp
namespace Go.Proofs.Ytpajfggdnobheaa.Pz
variable {main:Bool} {Fz:Nat->Prop}
open D Tr C Fu Fa Rc Eqs Tp
def afl:JC:=(qN (oN 10 9 8<|.nil) (.seq (qO 10 .skip (.exit 0)) (.seq (.block 1 (qN (oJ 11 3 7 9<|oC 12 3 11<|qK 6 32<|oG 3 6 12<|.nil) (qN (qL [6,1,9,8,7]<|oD 13 1 1 6<|o9 14 1 13<|o7 15 1<|oW 16 14 15<|.nil) (qM [16,6,9,8,7,1] (qO 16 (qN (oD 17 0 0 6<|o9 18 1 17<|o7 4 18<|.nil) .ret) .skip))))) (qM [9,8,7,1] (.ops<|oI 19 9 1<|o7 9 19<|.nil)))))
def alp:JC:=(qM [] (qN (o8 4 (-1)<|.nil) .ret))
def j17:JC:=(qN (o8 4 0<|.nil) (.seq (qN (o7 7 0<|oO 8 7<|o8 9 0<|.nil) (.block 0 (.loop [8,7,1] [9] afl))) alp))
def j16:JC:=(qN (o8 4 0<|.nil) (qN (o7 6 0<|o7 7 1<|qo 8 (.ar .rem (.t 6) (.t 7))<|o7 5 8<|.nil) (.seq (qN (o7 9 5<|oZ 10 9 0<|.nil) (qO 10 (.ops<|qL [5,1]<|o7 11 5<|o7 12 1<|qo 13 (.ar .add (.t 11) (.t 12))<|o7 5 13<|.nil) .skip)) (qM [5] (qN (o7 14 5<|o7 4 14<|.nil) .ret)))))
theorem RY(f:Fl)(L:List Fl)(x:Int):lI (f::L) x=if f.var=x then f.at' else lI L x:=by
 unfold lI;by_cases h:f.var=x
 ·rw[z0c,decide_eq_true h,if_pos h]
 ·rw[z0c,decide_eq_false h,if_neg h]
theorem Oi(L:List Fl)(x:Int):bC Try.prog main Fz 17 [mY.aA L, .int .i64 x] [] (.int .i64 (lI L x)) []:=by
 refine MQ λhB=>wkA j17 [.tmp 4] 20 FH.au rfl ?_;simp only[go_sem,seval] at hB;unfold j17;simp only[go_sem,seval];refine bU Nat (λi=>[.int .i64 i]) (λ_=>[]) (λi=>i<=L.length/\lI L x=lI (L.drop i) x) (λi=>L.length - i) 0 ⟨by omega,rfl⟩ ?_ rfl ?_
 ·simp only[go_sem,seval]
 rintro i ⟨h1,h2⟩;by_cases h:i<L.length
 ·have h':(i:Int)<L.length:=by omega
  have hw:z01.wrap ((i:Int)+1)=((i+1:Nat):Int):=aJ;rw[pF dW.bg h,RY] at h2;unfold afl;simp only[go_sem,seval,h',hw];exact⟨z02 _,λhv=>by rw[h2,if_pos hv],λhv=>⟨i+1,⟨by omega,by rw[h2,if_neg hv]⟩,by omega,rfl⟩⟩
 ·have h':¬ (i:Int)<L.length:=by omega
  rw[z0i (by omega)] at h2
  unfold afl;simp only[go_sem,seval,h'];unfold alp;simp only[go_sem,seval];rw[h2];rfl
def I4(n m:Int):Int:=if n.tmod m<0 then z01.wrap (n.tmod m+m) else n.tmod m
theorem anW(n m:Int)(h:m≠0):bC Try.prog main Fz 16 [.int .i64 n, .int .i64 m] [] (.int .i64 (I4 n m)) []:=by
 refine wkA j16 [.tmp 4] 15 FH.au rfl ?_;unfold j16;simp only[go_sem,seval];refine⟨h,λh1=> ?_,λh1=> ?_⟩
 ·rw[I4,if_pos h1]
 ·rw[I4,if_neg h1]
theorem Yv(n:Int):∃ k:Nat,k<8/\I4 n 8=k:=by
 have h1:=Int.tmod_lt_of_pos n (show(0:Int)<8 by decide)
 have h2:=Int.lt_tmod_of_pos n (show(0:Int)<8 by decide)
 unfold I4;split
 ·rw[aJ];exact⟨(n.tmod 8+8).toNat,by omega,by omega⟩
 ·exact⟨(n.tmod 8).toNat,by omega,by omega⟩
end Go.Proofs.Ytpajfggdnobheaa.Pz
section
set_option maxRecDepth 100000
open Go Go.Sx Go.Conc Go.Proofs
namespace Go.Proofs.Ytpajfggdnobheaa.Pz
variable {main:Bool} {Fz:Nat->Prop}
open D Tr C Fu Fa Rc Eqs Tp Sp
def an5:JC:=(.ops<|qG 4 false<|.nil)
def an6:JC:=(qN (eo 18 (.call 12 [])<|qE 19 18<|.nil) (qO 19 (qN (qG 4 false<|.nil) .ret) .skip))
def an7:JC:=(.ops<|o7 21 0<|oL 22 13 21<|o7 20 22<|oM 23 0 20<|oM 24 1 20<|o7 5 23<|o7 6 24<|.nil)
def an8:JC:=(.ops<|o7 26 0<|oL 27 14 26<|o7 25 27<|oM 28 0 25<|oM 29 1 25<|o7 7 28<|o7 8 29<|.nil)
def an9:JC:=(.ops<|o7 31 0<|oL 32 15 31<|o7 30 32<|oM 33 0 30<|oM 34 1 30<|o7 9 33<|o7 10 34<|.nil)
def an':JC:=(qN (oZ 74 73 8<|.nil) (.seq (qO 74 .skip (.exit 0)) (.seq (.block 1 (qN (o7 75 73<|o7 14 75<|.nil) (qN (o7 77 0<|o7 78 14<|qC 79 18 77 78<|qL [79,13,7,14,9,73,0,5]<|o7 76 79<|oM 80 0 76<|oM 81 1 76<|oM 82 2 76<|o7 15 80<|o7 16 81<|o7 17 82<|.nil) (qM [16,17,13,7,14,9,73,0,5,15] (.seq (qN (o7 83 16<|qE 84 83<|.nil) (qM [84,17,13,7,14,9,73,0,5,15] (qO 84 (.ops<|o8 15 (-1)<|.nil) .skip))) (qM [17,13,7,14,15,9,73,0,5] (qN (o7 85 17<|qB 86 85 0<|o7 87 86<|qL [87,13,7,14,15,9,73,0,5]<|.sc true 94 87 (o7 88 13<|o7 89 7<|o7 90 14<|eo 91 (.fO (.t 88) [(.t 89),(.t 90)])<|o7 92 15<|qo 93 (.cmp .neq (.t 91) (.t 92))<|.nil) (.t 93)<|o7 95 94<|.sc true 102 95 (o7 96 13<|o7 97 9<|o7 98 14<|eo 99 (.fO (.t 96) [(.t 97),(.t 98)])<|o7 100 15<|qo 101 (.cmp .neq (.t 99) (.t 100))<|.nil) (.t 101)<|.nil) (qM [102,73,0,13,7,9,5] (qO 102 (qN (qG 4 false<|.nil) .ret) .skip))))))))) (qM [73,0,13,7,9,5] (.ops<|oI 103 73 1<|o7 73 103<|.nil)))))
def aqc:JC:=(qM [5,7,9] (qN (o7 104 5<|oO 105 104<|oH 106 105 0<|o7 107 7<|qL [107,106,5,9]<|oO 108 107<|oH 109 108 0<|qo 110 (.beq false (.t 106) (.t 109))<|qL [110,5,9]<|o7 111 110<|.sc false 119 111 (o7 112 5<|oO 113 112<|oH 114 113 0<|o7 115 9<|oO 116 115<|oH 117 116 0<|qo 118 (.beq false (.t 114) (.t 117))<|.nil) (.t 118)<|o7 4 119<|.nil) .ret))
def afB:JC:=(.seq (qN (o7 43 6<|o7 44 8<|qo 45 (.cmp .neq (.t 43) (.t 44))<|o7 46 45<|.sc true 50 46 (o7 47 8<|o7 48 10<|qo 49 (.cmp .neq (.t 47) (.t 48))<|.nil) (.t 49)<|o7 51 50<|.sc true 55 51 (o7 52 10<|o7 53 12<|qo 54 (.cmp .neq (.t 52) (.t 53))<|.nil) (.t 54)<|o7 56 55<|.sc true 61 56 (o7 57 9<|o7 58 11<|qC 59 9 57 58<|qE 60 59<|.nil) (.t 60)<|.nil) (qM [61,6,5,7,9,0] (qO 61 (qN (qG 4 false<|.nil) .ret) .skip))) (qM [6,5,7,9,0] (.seq (qN (o7 62 6<|qB 63 62 0<|.nil) (qO 63 (qN (qL [5,7,9]<|o7 64 5<|oO 65 64<|o7 66 7<|oO 67 66<|qL [65,67,9]<|qo 68 (.ar .add (.t 65) (.t 67))<|o7 69 9<|oO 70 69<|qo 71 (.ar .add (.t 68) (.t 70))<|oH 72 71 0<|o7 4 72<|.nil) .ret) .skip)) (qM [0,7,9,5] (qN (qo 13 (.mv (.c (.fn 17 [])))<|.nil) (.seq (qN (o8 73 0<|.nil) (.block 0 (.loop [0,13,7,9,5] [73] an'))) aqc))))))
def j5:TC:=(.seq (.jc an5) (.seq (.jc an6) (.seq (.jc an7) (.seq (.jc an8) (.seq (.jc an9) (.seq (.reg (o7 36 1<|eo 37 (.call 16 [(.t 36),(I 8)])<|oI 38 37 1<|o7 39 0<|.nil) (some 40) (.Yu 6 [(.t 38),(.t 39)]) (o7 35 40<|oM 41 0 35<|oM 42 1 35<|o7 11 41<|o7 12 42<|.nil)) (.jc afB)))))))
theorem c5:tIs Try.prog bG (λf=>[6].contains f) 5=some (j5.flat,[.tmp 4],120,false):=by kernel_rfl
def Gpa(f:FuncId)(a:List SV)(m:List ay):Sx.Call:=(FH.rd 12 .nil (.one .bool) (λ_=>True) (λ_=>true)<|
 FH.mk 13 (.one fD) (λ_=>True) (λy=> .cu [.vec 0 (lH y.1).length, .int .i64 (aN y.1).2.2]) (λy=>[.vec 101 4 ((lH y.1).map zu.aA)])<|
 FH.mk 14 (.one fD) (λ_=>True) (λy=> .cu [.vec 0 (ny y.1).length, .int .i64 (aN y.1).2.2]) (λy=>[.vec 32 3 ((ny y.1).map dW.aA)])<|
 FH.mk 15 (.one fD) (λ_=>True) (λy=> .cu [.vec 0 (fC y.1).length, .int .i64 (aN y.1).2.2]) (λy=>[.vec 32 3 ((fC y.1).map dW.aA)])<|
 FH.rd 16 (.two .int .int) (.one .int) (λy=>y.2.1≠0) (λy=>I4 y.1 y.2.1)<|
 FH.rd 9 (.two mY mY) (.one .bool) (λ_=>True) (λy=>vZ iw y.1 y.2.1)<|
 FH.rd 18 (.two fD .int) (.three .int .bool .int) (λ_=>True) (λy=>zW y.1 y.2.1)<|
 FH.rd 17 (.two mY .int) (.one .int) (λ_=>True) (λy=>lI y.1 y.2.1) FH.none) f a m
theorem tJ:type_of% (nq Gpa.eq_1):=nq Gpa.eq_1
theorem xQ:bQ Try.prog main Fz Gpa:=FH.dM (λ_ _=>aj1)<|FH.ku (λy _=>jh (qc ⟨kD _ _,kE _ _,trivial⟩) ⟨jO _ _ zu _,trivial⟩) (λy _=>alm y.1)<|
 FH.ku (λy _=>jh (qc ⟨kD _ _,kE _ _,trivial⟩) ⟨jO _ _ dW _,trivial⟩) (λy _=>Fu.alv y.1)<|
 FH.ku (λy _=>jh (qc ⟨kD _ _,kE _ _,trivial⟩) ⟨jO _ _ dW _,trivial⟩) (λy _=>afi y.1)<|
 FH.dM (λy h=>anW y.1 y.2.1 h)<|FH.dM (λy _=>Qr y.1 y.2.1)<|
 FH.dM (λy _=>aj2 y.1 y.2.1 (ajM y.1))<|FH.dM (λy _=>Oi y.1 y.2.1) FH.au
section
variable {Φ:Gl} {End:List Nat->Goroutine->OW->Prop}
theorem YP{l:List Ev}{n:Int}{H0:Nat->Option Obj}{J:Env}{a:Act}{x:OW}{s:MS}{rest:TC}{Q:Exit->Act->MS->OW->Prop}(hT:TS Fz 120 [] H0 (λ_=>none) J (yY 0 [fD.aA l, .int .i64 n]) [] a x)
  (hk:∀ J' a' x',TS Fz 120 [] H0 (λ_=>none) J' (Sx.ig [0,1,5,6,7,8,9,10] [fD.aA l, .int .i64 n,SB.aA (lH l), .int .i64 (aN l).2.2,mY.aA (ny l), .int .i64 (aN l).2.2,mY.aA (fC l), .int .i64 (aN l).2.2] .nil) [] a' x'->
   TW Try.prog true Fz (dL Try.prog Fz Φ End) bG Xj 5 rest Q a' s x'):
  TW Try.prog true Fz (dL Try.prog Fz Φ End) bG Xj 5 (.seq (.jc an5) (.seq (.jc an6) (.seq (.jc an7) (.seq (.jc an8) (.seq (.jc an9) rest))))) Q a s x:=by
 refine aX (bM hT FH.au (by rfl) [0,1] [fD.aA l, .int .i64 n] [] ?_ λJ1 a1 x1 h1 _=> ?_)
 ·unfold an5;simp only[go_sem,seval,yY]
 refine aX (bM h1 xQ (by rfl) [0,1] [fD.aA l, .int .i64 n] [] ?_ λJ2 a2 x2 h2 _=> ?_)
 ·unfold an6;simp only[go_sem,seval,tJ]
 refine aX (bM h2 xQ (by rfl) [0,1,5,6] [fD.aA l, .int .i64 n, .vec 0 (lH l).length, .int .i64 (aN l).2.2] [.vec 101 4 ((lH l).map zu.aA)] ?_ λε3 a3 x3 h3 _=> ?_)
 ·unfold an7;simp only[go_sem,seval,tJ]
 refine aX (bM h3 xQ (by rfl) [0,1,5,6,7,8] [fD.aA l, .int .i64 n, .vec 0 (lH l).length, .int .i64 (aN l).2.2, .vec 1 (ny l).length, .int .i64 (aN l).2.2] [.vec 101 4 ((lH l).map zu.aA), .vec 32 3 ((ny l).map dW.aA)] ?_ λε4 a4 x4 h4 _=> ?_)
 ·unfold an8;simp only[go_sem,seval,tJ]
 refine aX (bM h4 xQ (by rfl) [0,1,5,6,7,8,9,10] [fD.aA l, .int .i64 n, .vec 0 (lH l).length, .int .i64 (aN l).2.2, .vec 1 (ny l).length, .int .i64 (aN l).2.2, .vec 2 (fC l).length, .int .i64 (aN l).2.2] [.vec 101 4 ((lH l).map zu.aA), .vec 32 3 ((ny l).map dW.aA), .vec 32 3 ((fC l).map dW.aA)] ?_ λε5 a5 x5 h5 _=> ?_)
 ·unfold an9;simp only[go_sem,seval,tJ]
 exact hk _ _ _ (h5.aqd (by rfl) ⟨DC fD l,xR _,Oy zu rfl rfl,xR _,Oy dW rfl rfl,xR _,Oy dW rfl rfl,xR _,trivial⟩)
def KT(y1:SV)(s':MS):Prop:=y1= .bool true/\s'.acts=[]
theorem aoa{l:List Ev}{e:Int}(he:e≠0){H0:Nat->Option Obj}{J:Env}{a:Act}{x:OW}{s:MS}(hs:s.acts=[])(ha:lH l=[])(hf:ny l=[])(hb:fC l=[])
  (h:TS Fz 120 [] H0 (λ_=>none) J (Sx.ig [0,5,6,7,8,9,10,11,12] [fD.aA l,SB.aA (lH l), .int .i64 e,mY.aA (ny l), .int .i64 e,mY.aA (fC l), .int .i64 e, .dO, .int .i64 e] .nil) [] a x):
  TW Try.prog true Fz (dL Try.prog Fz Φ End) bG Xj 5 (.jc afB) (λex a' s' x'=>ex= .ret/\∃ J' y1 m',KT y1 s'/\TS Fz 120 [] H0 (λ_=>none) J' (Sx.ig [4] [y1] .nil) m' a' x') a s x:=by
 have hq:vZ iw ([]:List Fl) []=true:=rfl;refine Nv h xQ (by rfl) [4] [.bool true] [] ?_ λε6 a6 x6 h6 _=>⟨rfl,ε6,_,_,⟨rfl,hs⟩,h6⟩
 unfold afB;rw[ha,hf,hb];simp only[go_sem,seval,tJ,he,hq];rfl
theorem aj3{l:List Ev}(hok:(bH l).2=0){H0:Nat->Option Obj}{J:Env}{a:Act}{x:OW}{s:MS}(hs:s.acts=[])
  (h:TS Fz 120 [] H0 (λ_=>none) J (Sx.ig [0,5,6,7,8,9,10,11,12] [fD.aA l,SB.aA (lH l), .int .i64 0,mY.aA (ny l), .int .i64 0,mY.aA (fC l), .int .i64 0,mY.aA (fC l), .int .i64 0] .nil) [] a x):
  TW Try.prog true Fz (dL Try.prog Fz Φ End) bG Xj 5 (.jc afB) (λex a' s' x'=>ex= .ret/\∃ J' y1 m',KT y1 s'/\TS Fz 120 [] H0 (λ_=>none) J' (Sx.ig [4] [y1] .nil) m' a' x') a s x:=by
 have hp:(aN l).2.2=0:=by rw[iy];exact hok
 have ha:lH l=gu l:=if_pos hp;have hf:ny l=lJ l l.length:=if_pos hp;have hb:fC l=dD l l.length:=if_pos hp;have hq:vZ iw (fC l) (fC l)=true:=DF (by simp[iw]) _
 refine Nv h xQ (by rfl) [4] [.bool true] [] ?_ λε6 a6 x6 h6 _=>⟨rfl,ε6,_,_,⟨rfl,hs⟩,h6⟩
 unfold afB;simp only[go_sem,seval,tJ,hq];refine bU Nat (λi=>[.int .i64 i]) (λ_=>[]) (λi=>i<=8) (λi=>8 - i) 0 (by omega) ?_ rfl ?_
 ·simp only[go_sem,seval]
 intro i hi;by_cases h8:i<8
 ·have h8':(i:Int)<8:=by omega
  have hw:z01.wrap ((i:Int)+1)=((i+1:Nat):Int):=aJ;obtain⟨u,b,e1,e2,e3⟩:=ae4 hok (x:=(i:Int)) (by omega)
  have f1:=II hok (i:Int);have f2:=WR hok (i:Int);rw[<- hf] at f1 e2 e3;rw[<- hb] at f2;rw[<- f2] at f1;unfold an';cases b
  ·have g1:=e3 rfl;have g2:=f1.symm.trans g1;simp only[go_sem,seval,tJ,h8',hw,e1,g1,g2];exact⟨i+1,by omega,by omega,rfl⟩
  ·have g1:=e2 rfl;simp only[go_sem,seval,tJ,h8',hw,e1,g1,f1];exact⟨i+1,by omega,by omega,rfl⟩
 ·have h8':¬ (i:Int)<8:=by omega
  unfold an';simp only[go_sem,seval,h8'];unfold aqc;have n1:=ae3 hok;have n2:=afC hok;rw[<- hf,<- ha] at n1;rw[<- ha] at n2;by_cases hz:lH l=[]
  ·rw[hz,n1.2 hz,n2.2 hz];simp only[go_sem,seval];rfl
  ·have z1:¬ ((lH l).length:Int)=0:=λe=>hz (z0b.1 (by omega))
   have z2:¬ ((ny l).length:Int)=0:=λe=>hz (n1.1 (z0b.1 (by omega)))
   have z3:¬ ((fC l).length:Int)=0:=λe=>hz (n2.1 (z0b.1 (by omega)))
   simp only[go_sem,seval,z1,z2,z3];rfl
theorem anD{n:Int}{l:List Ev}(h0:¬ (bH l).2=0){J:Env}{x:OW}{s:MS}(hs:s.acts=[])(hg:fP Fz J [] x){vs:List Value}(ha:bT [fD.aA l, .int .i64 n] J vs):
  sS Try.prog true Fz (dL Try.prog Fz Φ End) 5 vs.toArray s x (λv s' x'=> ∃ J' y1 m',KT y1 s'/\fP Fz J' m' x'/\(∀ b o,J.H b=some o->J'.H b=some o)/\bK J' y1 v):=by
 have he:(aN l).2.2=(bH l).2:=iy;have hp:¬ (aN l).2.2=0:=by rw[he];exact h0
 obtain⟨k,hk,hr⟩:=Yv n;have hw:z01.wrap ((k:Int)+1)=((k+1:Nat):Int):=aJ;refine Jf c5 hg ha (by simp) λa hT=> ?_
 unfold j5;refine YP hT λJ1 a1 x1 h1=> ?_;refine aX (jQ h1 xQ (by rfl) [0,5,6,7,8,9,10,38,39] [fD.aA l,SB.aA (lH l), .int .i64 (aN l).2.2,mY.aA (ny l), .int .i64 (aN l).2.2,mY.aA (fC l), .int .i64 (aN l).2.2, .int .i64 ((k+1:Nat):Int),fD.aA l] [] ?_ λJ2 a2 x2 h2 _ o ho hd=> ?_)
 ·simp only[go_sem,seval,tJ,hr,hw]
 refine sQ.mono ?_ (YQ (t:=40) h2 ho (by kernel_rfl) hd (by decide) (by rfl) (K:=KE (bH l).2 s) λvs hvs=>aaX (by omega) (by omega) h0 h2.g hvs)
 rintro a3 s3 x3 ⟨ε3,y1,y2,m',⟨rfl,rfl,rfl,rfl⟩,h3⟩;refine Behind.C9 h3 FH.au (by rfl) [0,5,6,7,8,9,10,11,12] [fD.aA l,SB.aA (lH l), .int .i64 (aN l).2.2,mY.aA (ny l), .int .i64 (aN l).2.2,mY.aA (fC l), .int .i64 (aN l).2.2, .dO, .int .i64 (bH l).2] [] ?_ λε4 a4 x4 h4 _=> ?_
 ·simp only[go_sem,seval]
 rw[he] at h4;exact aoa h0 hs (if_neg hp) (if_neg hp) (if_neg hp) h4
theorem ajB{n:Int}{k:Nat}{l:List Ev}(hk:k<8)(hr:I4 n 8=k)(hok:(bH l).2=0){J:Env}{x:OW}(hg:fP Fz J [] x){vs:List Value}(ha:bT [fD.aA l, .int .i64 n] J vs):
  sS Try.prog true Fz (dL Try.prog Fz (AQ (k+1) l) End) 5 vs.toArray ⟨QI (k+1) l,[],[]⟩ x (λv s' x'=> ∃ J' y1 m',KT y1 s'/\fP Fz J' m' x'/\(∀ b o,J.H b=some o->J'.H b=some o)/\bK J' y1 v):=by
 have hp:(aN l).2.2=0:=by rw[iy];exact hok
 have hw:z01.wrap ((k:Int)+1)=((k+1:Nat):Int):=aJ;refine Jf c5 hg ha (by simp) λa hT=> ?_
 unfold j5;refine YP hT λJ1 a1 x1 h1=> ?_;rw[hp] at h1;refine aX (jQ h1 xQ (by rfl) [0,5,6,7,8,9,10,38,39] [fD.aA l,SB.aA (lH l), .int .i64 0,mY.aA (ny l), .int .i64 0,mY.aA (fC l), .int .i64 0, .int .i64 ((k+1:Nat):Int),fD.aA l] [] ?_ λJ2 a2 x2 h2 _ o ho hd=> ?_)
 ·simp only[go_sem,seval,tJ,hr,hw]
 refine sQ.mono ?_ (YQ (t:=40) h2 ho (by kernel_rfl) hd (by decide) (by rfl) (K:=KG l) λvs hvs=>aaY (by omega) (by omega) hok h2.g hvs)
 rintro a3 s3 x3 ⟨ε3,y1,y2,m',⟨rfl,rfl,rfl,cs,got,rfl⟩,h3⟩;have hb:dD l l.length=fC l:=(if_pos hp).symm;rw[hb] at h3;refine Behind.C9 h3 FH.au (by rfl) [0,5,6,7,8,9,10,11,12] [fD.aA l,SB.aA (lH l), .int .i64 0,mY.aA (ny l), .int .i64 0,mY.aA (fC l), .int .i64 0, .vec 0 (fC l).length, .int .i64 0] [.vec rH.TP 3 ((fC l).map dW.aA)] ?_ λε4 a4 x4 h4 _=> ?_
 ·simp only[go_sem,seval]
 exact aj3 hok rfl (h4.aqd (by rfl) ⟨DC fD l,DC SB _,xR _,DC mY _,xR _,DC mY _,xR _,Oy dW rfl rfl,xR _,trivial⟩)
end
end Go.Proofs.Ytpajfggdnobheaa.Pz
end
