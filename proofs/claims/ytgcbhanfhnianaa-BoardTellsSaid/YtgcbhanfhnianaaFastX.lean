/- The reference of fast, walked. Conditions: none. -/
import Derived.Test.YtgcbhanfhnianaaFastW
set_option linter.unusedSimpArgs false
set_option linter.unusedVariables false
set_option maxRecDepth 100000
open Go Go.Sx Go.Proofs
namespace Go.Proofs.Ytgcbhanfhnianaa.Fa
open Go.Proofs.Ytgcbhanfhnianaa.D Go.Proofs.Ytgcbhanfhnianaa.Tr Go.Proofs.Ytgcbhanfhnianaa.C Go.Proofs.Ytgcbhanfhnianaa.Fu Go.Proofs.Ytgcbhanfhnianaa.Ah Go.Proofs.Ytgcbhanfhnianaa.Ps Go.Proofs.Ytgcbhanfhnianaa.Od Go.Proofs.Ytgcbhanfhnianaa.St
abbrev dEsR : DT (List Ev) := dEs.ref
abbrev dRwR : DT (List (List Bool)) := dRows.ref
def j19_1 : JC :=
  (.seq (.ops <|
  qo 51 (.cmp .lss (.t 50) (.t 49)) <|
  .nil)
  (.prune [51, 48, 50, 15, 12, 13, 49, 14, 10, 9, 11, 34, 33, 32, 7, 8, 5, 6, 1, 27, 4] (.seq (.cond (.t 51)
  .skip
  (.exit 4))
  (.prune [48, 50, 15, 12, 13, 49, 14, 10, 9, 11, 34, 33, 32, 7, 8, 5, 6, 1, 27, 4] (.seq (.block 5 (.seq (.ops <|
  qo 52 (.is 1 (.t 48) (.t 50)) <|
  eo 53 (.load 1 false (.t 52)) <|
  qo 17 (.mv (.t 53)) <|
  .nil)
  (.prune [15, 12, 17, 13, 50, 49, 48, 14, 10, 9, 11, 34, 33, 32, 7, 8, 5, 6, 1, 27, 4] (.ops <|
  qo 54 (.mv (.t 15)) <|
  qo 55 (.mv (.t 54)) <|
  .sc true 61 55 (qo 56 (.mv (.t 12)) <|
  qo 57 (.mv (.t 17)) <|
  qo 58 (.mv (.t 13)) <|
  eo 59 (.callv (.t 56) [(.t 57), (.t 58)]) <|
  qo 60 (.nt (.t 59)) <|
  .nil) (.t 60) <|
  qo 15 (.mv (.t 61)) <|
  .nil))))
  (.prune [50, 49, 48, 15, 12, 13, 14, 10, 9, 11, 34, 33, 32, 7, 8, 5, 6, 1, 27, 4] (.ops <|
  qo 62 (.ar .add (.t 50) (I 1)) <|
  qo 50 (.mv (.t 62)) <|
  .nil)))))))
def j19_2 : JC :=
  (.seq (.ops <|
  qo 128 (.cmp .lss (.t 127) (.t 126)) <|
  .nil)
  (.prune [128, 125, 127, 1, 14, 18, 126, 13, 34, 33, 32, 7, 12, 10, 11, 8, 5, 6, 27, 4] (.seq (.cond (.t 128)
  .skip
  (.exit 7))
  (.prune [125, 127, 1, 14, 18, 126, 13, 34, 33, 32, 7, 12, 10, 11, 8, 5, 6, 27, 4] (.seq (.block 8 (.seq (.ops <|
  qo 129 (.is 1 (.t 125) (.t 127)) <|
  eo 130 (.load 1 false (.t 129)) <|
  qo 20 (.mv (.t 130)) <|
  .nil)
  (.prune [1, 20, 14, 18, 127, 126, 125, 13, 34, 33, 32, 7, 12, 10, 11, 8, 5, 6, 27, 4] (.seq (.dops <|
  eo 131 (.load 1 false (.t 1)) <|
  qo 132 (.mv (.t 20)) <|
  qo 133 (.is 3 (.t 131) (.t 132)) <|
  qo 134 (.fa 1 1 (.t 133)) <|
  .prune [134, 14, 18, 20, 127, 126, 125, 1, 13, 34, 33, 32, 7, 12, 10, 11, 8, 5, 6, 27, 4] <|
  eo 135 (.load 1 false (.t 134)) <|
  qo 136 (.fa 1 1 (.t 14)) <|
  eo 137 (.load 1 false (.t 136)) <|
  qo 138 (.cmp .neq (.t 135) (.t 137)) <|
  .nil)
  (.prune [138, 18, 20, 127, 126, 125, 1, 14, 13, 34, 33, 32, 7, 12, 10, 11, 8, 5, 6, 27, 4] (.cond (.t 138)
  (.ops <|
  qo 139 (.mv (.t 18)) <|
  qo 140 (.mv (.t 20)) <|
  .prune [140, 139, 127, 126, 125, 1, 14, 13, 34, 33, 32, 7, 12, 10, 11, 8, 5, 6, 27, 4] <|
  eo 141 (.bsl 3 1 1 (.int .i64 0) [(0, (.t 140))]) <|
  eo 142 (.app 3 1 8 (.t 139) (.t 141)) <|
  qo 18 (.mv (.t 142)) <|
  .nil)
  .skip))))))
  (.prune [127, 126, 125, 1, 14, 18, 13, 34, 33, 32, 7, 12, 10, 11, 8, 5, 6, 27, 4] (.ops <|
  qo 143 (.ar .add (.t 127) (I 1)) <|
  qo 127 (.mv (.t 143)) <|
  .nil)))))))
def j19_3 : JC :=
  (.prune [18, 13, 34, 33, 32, 7, 12, 10, 11, 8, 5, 6, 1, 27, 4] (.sel [0, 1, 2, 5] (.ops <|
  qo 144 (.mv (.t 18)) <|
  qo 145 (.mv (.t 13)) <|
  eo 146 (.bsl 3 1 1 (.int .i64 0) [(0, (.t 145))]) <|
  eo 147 (.app 3 1 8 (.t 144) (.t 146)) <|
  qo 9 (.mv (.t 147)) <|
  .nil)))
def j19_4 : JC :=
  (.prune [14, 10, 9, 11, 13, 34, 33, 32, 7, 12, 8, 5, 6, 1, 27, 4, 15] (.block 6 (.seq (.ops <|
  qo 84 (.fa 0 0 (.t 14)) <|
  eo 85 (.load 1 false (.t 84)) <|
  qo 86 (.cmp .eql (.t 85) (I 1)) <|
  qo 83 (.mv (.t 86)) <|
  .nil)
  (.prune [83, 10, 9, 11, 13, 34, 33, 32, 7, 12, 8, 5, 6, 1, 27, 4, 15, 14] (.cond (.t 83)
  (.vecs 9 3 1 (.seq (.seq (.ops <|
  qo 87 (.mv (.t 10)) <|
  qo 88 (.nt (.t 87)) <|
  qo 89 (.mv (.t 88)) <|
  .prune [89, 9, 11, 13, 34, 33, 32, 7, 12, 10, 8, 5, 6, 1, 27, 4, 15, 14] <|
  .sc false 93 89 (qo 90 (.mv (.t 9)) <|
  qo 91 (.len (.t 90)) <|
  qo 92 (.cmp .eql (.t 91) (I 1)) <|
  .nil) (.t 92) <|
  qo 94 (.mv (.t 93)) <|
  .sc false 101 94 (qo 95 (.mv (.t 11)) <|
  qo 96 (.mv (.t 9)) <|
  qo 97 (.is 1 (.t 96) (I 0)) <|
  eo 98 (.load 1 false (.t 97)) <|
  qo 99 (.mv (.t 13)) <|
  eo 100 (.callv (.t 95) [(.t 98), (.t 99)]) <|
  .nil) (.t 100) <|
  .nil)
  (.cond (.t 101)
  (.exit 3)
  .skip))
  (.prune [12, 8, 13, 5, 7, 10, 15, 34, 33, 32, 11, 6, 1, 27, 4, 9, 14] (.seq (.seq (.sel [0, 1, 2, 3, 4] (.ops <|
  qo 102 (.mv (.t 12)) <|
  qo 103 (.mv (.t 8)) <|
  qo 104 (.mv (.t 13)) <|
  eo 105 (.callv (.t 102) [(.t 103), (.t 104)]) <|
  qo 106 (.nt (.t 105)) <|
  .nil))
  (.prune [106, 5, 13, 7, 10, 15, 34, 33, 32, 12, 11, 8, 6, 1, 27, 4, 9, 14] (.cond (.t 106)
  (.sel [0, 1, 2, 3, 4] (.ops <|
  qo 107 (.mv (.t 5)) <|
  qo 108 (.mv (.t 13)) <|
  qo 109 (.mv (.t 7)) <|
  qo 110 (.bld (.agg [(.int .i64 0), (.int .i64 0), (.int .i64 0)]) [([.fld 0], 0, 1, (.t 108)), ([.fld 1], 1, 1, (.t 109)), ([.fld 2], 2, 1, (I 2))]) <|
  .prune [110, 107, 10, 15, 13, 34, 33, 32, 7, 12, 11, 8, 6, 1, 27, 4, 9, 14] <|
  eo 111 (.bsl 47 3 1 (.agg [(.int .i64 0), (.int .i64 0), (.int .i64 0)]) [(0, (.t 110))]) <|
  eo 112 (.app 47 3 24 (.t 107) (.t 111)) <|
  qo 5 (.mv (.t 112)) <|
  .nil))
  .skip)))
  (.prune [10, 15, 13, 34, 33, 32, 7, 12, 11, 8, 5, 6, 1, 27, 4, 9, 14] (.seq (.seq (.ops <|
  qo 113 (.mv (.t 10)) <|
  qo 114 (.nt (.t 113)) <|
  qo 115 (.mv (.t 114)) <|
  .sc false 118 115 (qo 116 (.mv (.t 15)) <|
  qo 117 (.nt (.t 116)) <|
  .nil) (.t 117) <|
  .nil)
  (.prune [118, 13, 34, 33, 32, 7, 12, 10, 11, 8, 5, 6, 1, 27, 4, 9, 14] (.cond (.t 118)
  (.seq (.sel [0, 1, 2, 5] (.ops <|
  .prune [13, 34, 33, 32, 7, 12, 10, 11, 8, 5, 6, 1, 27, 4] <|
  qo 119 (.mv (.t 13)) <|
  eo 120 (.bsl 3 1 1 (.int .i64 0) [(0, (.t 119))]) <|
  qo 9 (.mv (.t 120)) <|
  .nil))
  (.exit 3))
  .skip)))
  (.prune [10, 6, 9, 1, 14, 13, 34, 33, 32, 7, 12, 11, 8, 5, 27, 4] (.seq (.seq (.ops <|
  qo 121 (.mv (.t 10)) <|
  qo 122 (.nt (.t 121)) <|
  .nil)
  (.prune [122, 6, 9, 1, 14, 13, 34, 33, 32, 7, 12, 11, 8, 5, 27, 4, 10] (.cond (.t 122)
  (.seq (.ops <|
  qo 10 (.mv (B true)) <|
  .nil)
  (.prune [6, 9, 1, 14, 13, 34, 33, 32, 7, 12, 10, 11, 8, 5, 27, 4] (.ops <|
  qo 123 (.mv (.t 6)) <|
  qo 124 (.ar .add (.t 123) (I 1)) <|
  qo 6 (.mv (.t 124)) <|
  .nil)))
  .skip)))
  (.prune [9, 1, 14, 13, 34, 33, 32, 7, 12, 10, 11, 8, 5, 6, 27, 4] (.seq (.ops <|
  qo 18 (.mv (.c .nils)) <|
  .nil)
  (.prune [9, 1, 14, 18, 13, 34, 33, 32, 7, 12, 10, 11, 8, 5, 6, 27, 4] (.seq (.seq (.ops <|
  qo 125 (.mv (.t 9)) <|
  qo 126 (.len (.t 125)) <|
  qo 127 (.mv (I 0)) <|
  .nil)
  (.prune [127, 126, 125, 1, 14, 18, 13, 34, 33, 32, 7, 12, 10, 11, 8, 5, 6, 27, 4] (.block 7 (.vecs 18 3 1 (.loop [126, 125, 1, 14, 13, 34, 33, 32, 7, 12, 10, 11, 8, 5, 6, 27, 4] [127, 18] j19_2)))))
  j19_3))))))))))))
  (.seq (.ops <|
  qo 149 (.mv (.t 11)) <|
  qo 150 (.mv (.t 8)) <|
  qo 151 (.mv (.t 13)) <|
  eo 152 (.callv (.t 149) [(.t 150), (.t 151)]) <|
  qo 148 (.mv (.t 152)) <|
  .nil)
  (.prune [148, 34, 33, 32, 7, 9, 12, 10, 11, 8, 5, 6, 1, 27, 4, 13, 15] (.cond (.t 148)
  .skip
  (.seq (.seq (.ops <|
  qo 63 (.mv (.t 12)) <|
  qo 64 (.mv (.t 8)) <|
  qo 65 (.mv (.t 13)) <|
  eo 66 (.callv (.t 63) [(.t 64), (.t 65)]) <|
  qo 67 (.nt (.t 66)) <|
  .nil)
  (.prune [67, 5, 13, 7, 10, 34, 33, 32, 12, 11, 6, 1, 27, 4, 9, 15] (.cond (.t 67)
  (.sel [0, 1, 2, 3, 4] (.ops <|
  qo 68 (.mv (.t 5)) <|
  .prune [13, 7, 68, 10, 34, 33, 32, 12, 11, 6, 1, 27, 4, 9] <|
  qo 69 (.mv (.t 13)) <|
  qo 70 (.mv (.t 7)) <|
  qo 71 (.bld (.agg [(.int .i64 0), (.int .i64 0), (.int .i64 0)]) [([.fld 0], 0, 1, (.t 69)), ([.fld 1], 1, 1, (.t 70)), ([.fld 2], 2, 1, (I 1))]) <|
  eo 72 (.bsl 47 3 1 (.agg [(.int .i64 0), (.int .i64 0), (.int .i64 0)]) [(0, (.t 71))]) <|
  eo 73 (.app 47 3 24 (.t 68) (.t 72)) <|
  qo 5 (.mv (.t 73)) <|
  .nil))
  (.seq (.ops <|
  qo 74 (.mv (.t 15)) <|
  .nil)
  (.prune [74, 5, 13, 7, 10, 34, 33, 32, 12, 11, 6, 1, 27, 4, 9] (.cond (.t 74)
  (.sel [0, 1, 2, 3, 4] (.ops <|
  qo 75 (.mv (.t 5)) <|
  qo 76 (.mv (.t 13)) <|
  qo 77 (.mv (.t 7)) <|
  qo 78 (.bld (.agg [(.int .i64 0), (.int .i64 0), (.int .i64 0)]) [([.fld 0], 0, 1, (.t 76)), ([.fld 1], 1, 1, (.t 77)), ([.fld 2], 2, 1, (I 3))]) <|
  .prune [78, 75, 13, 10, 34, 33, 32, 7, 12, 11, 6, 1, 27, 4, 9] <|
  eo 79 (.bsl 47 3 1 (.agg [(.int .i64 0), (.int .i64 0), (.int .i64 0)]) [(0, (.t 78))]) <|
  eo 80 (.app 47 3 24 (.t 75) (.t 79)) <|
  qo 5 (.mv (.t 80)) <|
  .nil))
  .skip))))))
  (.prune [13, 10, 34, 33, 32, 7, 12, 11, 5, 6, 1, 27, 4, 9] (.seq (.ops <|
  qo 81 (.mv (.t 13)) <|
  qo 8 (.mv (.t 81)) <|
  .nil)
  (.prune [10, 34, 33, 32, 7, 12, 11, 8, 5, 6, 1, 27, 4, 9] (.seq (.ops <|
  qo 82 (.mv (.t 10)) <|
  .nil)
  (.prune [82, 34, 33, 32, 7, 12, 11, 8, 5, 6, 1, 27, 4, 9, 10] (.cond (.t 82)
  (.ops <|
  qo 9 (.mv (.c .nils)) <|
  qo 10 (.mv (B false)) <|
  .nil)
  .skip)))))))))))))))
def j19_5 : JC :=
  (.prune [34, 33, 32, 7, 9, 12, 10, 11, 8, 5, 6, 1, 27, 4] (.ops <|
  qo 153 (.ar .add (.t 34) (I 1)) <|
  qo 34 (.mv (.t 153)) <|
  .nil))
def j19_6 : JC :=
  (.seq (.ops <|
  qo 35 (.cmp .lss (.t 34) (.t 33)) <|
  .nil)
  (.prune [35, 34, 32, 7, 33, 9, 12, 10, 11, 8, 5, 6, 1, 27, 4] (.seq (.cond (.t 35)
  .skip
  (.exit 2))
  (.prune [34, 32, 7, 33, 9, 12, 10, 11, 8, 5, 6, 1, 27, 4] (.seq (.block 3 (.seq (.ops <|
  qo 36 (.mv (.t 34)) <|
  qo 37 (.is 3 (.t 32) (.t 34)) <|
  eo 38 (.load 3 true (.t 37)) <|
  eo 14 (.alloc 35 (.agg [(.int .i64 0), (.int .i64 0), (.int .i64 0)])) <|
  qo 13 (.mv (.t 36)) <|
  en (.store 3 (.t 14) (.t 38)) <|
  .nil)
  (.prune [14, 7, 34, 33, 32, 9, 12, 10, 11, 8, 5, 6, 1, 27, 4, 13] (.seq (.seq (.ops <|
  qo 39 (.fa 0 0 (.t 14)) <|
  eo 40 (.load 1 false (.t 39)) <|
  qo 41 (.cmp .gtr (.t 40) (I 2)) <|
  qo 42 (.mv (.t 41)) <|
  .prune [42, 14, 7, 34, 33, 32, 9, 12, 10, 11, 8, 5, 6, 1, 27, 4, 13] <|
  .sc true 47 42 (qo 43 (.fa 2 2 (.t 14)) <|
  eo 44 (.load 1 false (.t 43)) <|
  qo 45 (.mv (.t 7)) <|
  qo 46 (.cmp .neq (.t 44) (.t 45)) <|
  .nil) (.t 46) <|
  .nil)
  (.cond (.t 47)
  (.exit 3)
  .skip))
  (.prune [9, 12, 13, 14, 10, 11, 34, 33, 32, 7, 8, 5, 6, 1, 27, 4] (.seq (.ops <|
  qo 15 (.mv (B false)) <|
  .nil)
  (.prune [9, 15, 12, 13, 14, 10, 11, 34, 33, 32, 7, 8, 5, 6, 1, 27, 4] (.seq (.seq (.ops <|
  qo 48 (.mv (.t 9)) <|
  qo 49 (.len (.t 48)) <|
  qo 50 (.mv (I 0)) <|
  .nil)
  (.prune [50, 49, 48, 15, 12, 13, 14, 10, 9, 11, 34, 33, 32, 7, 8, 5, 6, 1, 27, 4] (.block 4 (.loop [49, 48, 12, 13, 14, 10, 9, 11, 34, 33, 32, 7, 8, 5, 6, 1, 27, 4] [50, 15] j19_1))))
  j19_4))))))))
  j19_5)))))
def j19_7 : JC :=
  (.prune [27, 1, 4, 5, 6] (.ops <|
  qo 154 (.ar .add (.t 27) (I 1)) <|
  qo 27 (.mv (.t 154)) <|
  .nil))
def j19_8 : JC :=
  (.seq (.ops <|
  qo 28 (.cmp .lss (.t 27) (I 8)) <|
  .nil)
  (.seq (.cond (.t 28)
  .skip
  (.exit 0))
  (.seq (.block 1 (.seq (.ops <|
  qo 29 (.mv (.t 27)) <|
  qo 7 (.mv (.t 29)) <|
  .nil)
  (.seq (.ops <|
  qo 8 (.mv (I (-1))) <|
  qo 9 (.mv (.c .nils)) <|
  qo 10 (.mv (B false)) <|
  .nil)
  (.prune [1, 4, 7, 9, 10, 8, 5, 6, 27] (.seq (.ops <|
  qo 30 (.mkfn 55 [(.t 1)]) <|
  qo 11 (.mv (.t 30)) <|
  .nil)
  (.prune [4, 1, 7, 9, 10, 11, 8, 5, 6, 27] (.seq (.ops <|
  qo 31 (.mkfn 56 [(.t 4)]) <|
  qo 12 (.mv (.t 31)) <|
  .nil)
  (.prune [1, 7, 9, 12, 10, 11, 8, 5, 6, 27, 4] (.seq (.ops <|
  eo 32 (.load 1 false (.t 1)) <|
  qo 33 (.len (.t 32)) <|
  qo 34 (.mv (I 0)) <|
  .nil)
  (.prune [34, 33, 32, 7, 9, 12, 10, 11, 8, 5, 6, 1, 27, 4] (.block 2 (.vecs 9 3 1 (.vecs 5 47 3 (.loop [33, 32, 7, 12, 11, 1, 27, 4] [34, 9, 10, 8, 5, 6] j19_6))))))))))))))
  j19_7)))
def j19_9 : JC :=
  (.seq (.ops <|
  qo 163 (.cmp .lss (.t 162) (.t 161)) <|
  .nil)
  (.prune [163, 160, 162, 22, 21, 161, 157, 156, 5, 6] (.seq (.cond (.t 163)
  .skip
  (.exit 11))
  (.prune [160, 162, 22, 21, 161, 157, 156, 5, 6] (.seq (.block 12 (.seq (.ops <|
  qo 164 (.is 3 (.t 160) (.t 162)) <|
  eo 165 (.load 3 true (.t 164)) <|
  eo 24 (.alloc 47 (.agg [(.int .i64 0), (.int .i64 0), (.int .i64 0)])) <|
  en (.store 3 (.t 24) (.t 165)) <|
  .nil)
  (.prune [24, 22, 21, 162, 161, 160, 157, 156, 5, 6] (.seq (.ops <|
  qo 166 (.fa 0 0 (.t 24)) <|
  eo 167 (.load 1 false (.t 166)) <|
  qo 168 (.mv (.t 22)) <|
  qo 169 (.cmp .eql (.t 167) (.t 168)) <|
  .nil)
  (.prune [169, 21, 24, 162, 161, 160, 22, 157, 156, 5, 6] (.cond (.t 169)
  (.ops <|
  qo 170 (.mv (.t 21)) <|
  eo 171 (.load 3 true (.t 24)) <|
  .prune [171, 170, 162, 161, 160, 22, 157, 156, 5, 6] <|
  eo 172 (.bsl 47 3 1 (.agg [(.int .i64 0), (.int .i64 0), (.int .i64 0)]) [(0, (.t 171))]) <|
  eo 173 (.app 47 3 24 (.t 170) (.t 172)) <|
  qo 21 (.mv (.t 173)) <|
  .nil)
  .skip))))))
  (.prune [162, 161, 160, 22, 21, 157, 156, 5, 6] (.ops <|
  qo 174 (.ar .add (.t 162) (I 1)) <|
  qo 162 (.mv (.t 174)) <|
  .nil)))))))
def j19_10 : JC :=
  (.prune [157, 156, 5, 21, 6] (.ops <|
  qo 175 (.ar .add (.t 157) (I 1)) <|
  qo 157 (.mv (.t 175)) <|
  .nil))
def j19_11 : JC :=
  (.seq (.ops <|
  qo 158 (.cmp .lss (.t 157) (.t 156)) <|
  .nil)
  (.seq (.cond (.t 158)
  .skip
  (.exit 9))
  (.seq (.block 10 (.seq (.ops <|
  qo 159 (.mv (.t 157)) <|
  qo 22 (.mv (.t 159)) <|
  .nil)
  (.seq (.ops <|
  qo 160 (.mv (.t 5)) <|
  qo 161 (.len (.t 160)) <|
  qo 162 (.mv (I 0)) <|
  .nil)
  (.prune [162, 161, 160, 22, 21, 157, 156, 5, 6] (.block 11 (.vecs 21 47 3 (.loop [161, 160, 22, 157, 156, 5, 6] [162, 21] j19_9)))))))
  j19_10)))
def j19_12 : JC :=
  (.prune [21, 6] (.seq (.ops <|
  qo 176 (.mv (.t 21)) <|
  qo 177 (.mv (.t 6)) <|
  qo 2 (.mv (.t 176)) <|
  qo 3 (.mv (.t 177)) <|
  .nil)
  (.vecs 2 47 3 (.vecs 2 47 3 .ret))))
def j19_13 : JC :=
  (.prune [1, 5, 6] (.seq (.ops <|
  qo 21 (.mv (.c .nils)) <|
  .nil)
  (.seq (.seq (.ops <|
  eo 155 (.load 1 false (.t 1)) <|
  qo 156 (.len (.t 155)) <|
  qo 157 (.mv (I 0)) <|
  .nil)
  (.block 9 (.vecs 21 47 3 (.loop [156, 5, 6] [157, 21] j19_11))))
  j19_12)))
def j19 : JC :=
  (.seq (.ops <|
  eo 1 (.box 29 (.t 0)) <|
  qo 2 (.mv (.c .nils)) <|
  qo 3 (.mv (I 0)) <|
  .nil)
  (.seq (.ops <|
  eo 25 (.load 1 false (.t 1)) <|
  eo 26 (.call 54 [(.t 25)]) <|
  eo 4 (.alloc 102 .nils) <|
  en (.store 1 (.t 4) (.t 26)) <|
  .nil)
  (.seq (.ops <|
  qo 5 (.mv (.c .nils)) <|
  .nil)
  (.seq (.ops <|
  qo 6 (.mv (I 0)) <|
  .nil)
  (.seq (.seq (.ops <|
  qo 27 (.mv (I 0)) <|
  .nil)
  (.prune [27, 1, 4, 5, 6] (.block 0 (.vecs 5 47 3 (.loop [1, 4] [27, 5, 6] j19_8)))))
  j19_13)))))
theorem c19 : fnIs Try.prog qall 19 = some (j19.flat, [.tmp 2, .tmp 3], 178) := by kernel_rfl
theorem w19 : j19.wf 178 = true := by kernel_rfl
def Gfa (f : FuncId) (a : List SV) (m : List Res) : Sx.Call := (FH.pz 54 (.one dEs) (.one dRows) (fun y => y.1.length ≤ 1000) (fun y => rowsOf y.1.length (aheadR y.1)) <|
  FH.rd 55 (.three .int .int dEsR) (.one .bool) (fun y => y.2.2.1.length ≤ 1000 ∧ y.1 < y.2.1 ∧ 0 ≤ y.2.1 ∧ y.2.1 < y.2.2.1.length) (fun y => epW y.2.2.1 y.1 y.2.1.toNat) <|
  FH.rd 56 (.three .int .int dRwR) (.one .bool) (fun y => y.1 < y.2.1 ∧ 0 ≤ y.2.1 ∧ y.2.1 < y.2.2.1.length ∧ ∃ M, y.2.2.1 = rowsOf y.2.2.1.length M) (fun y => decide (y.1 < 0) || (y.2.2.1.getD y.1.toNat []).getD y.2.1.toNat false) FH.none) f a m
theorem Gfa_eq (f : FuncId) (a : List SV) (m : List Res) : Gfa f a m = (FH.pz 54 (.one dEs) (.one dRows) (fun y => y.1.length ≤ 1000) (fun y => rowsOf y.1.length (aheadR y.1)) <|
  FH.rd 55 (.three .int .int dEsR) (.one .bool) (fun y => y.2.2.1.length ≤ 1000 ∧ y.1 < y.2.1 ∧ 0 ≤ y.2.1 ∧ y.2.1 < y.2.2.1.length) (fun y => epW y.2.2.1 y.1 y.2.1.toNat) <|
  FH.rd 56 (.three .int .int dRwR) (.one .bool) (fun y => y.1 < y.2.1 ∧ 0 ≤ y.2.1 ∧ y.2.1 < y.2.2.1.length ∧ ∃ M, y.2.2.1 = rowsOf y.2.2.1.length M) (fun y => decide (y.1 < 0) || (y.2.2.1.getD y.1.toNat []).getD y.2.1.toNat false) FH.none) f a m := nr rfl
theorem Gfa_ok : FHOK Try.prog Gfa := FH.pz_ok (by kernel_rfl) (fun y h => f_RAhead y.1 h) <|
  FH.rd_ok (by kernel_rfl) (fun y h => by
    obtain ⟨i, j, l, _⟩ := y
    obtain ⟨h1, h2, h3, h4⟩ := h
    simp only at h1 h2 h3 h4
    obtain ⟨j, rfl⟩ : ∃ n : Nat, j = n := ⟨j.toNat, by omega⟩
    exact f_F1 l i j h1 h2 (by omega)) <|
  FH.rd_ok (by kernel_rfl) (fun y h => by
    obtain ⟨i, j, R, _⟩ := y
    obtain ⟨h2, h3, h4, M, h5⟩ := h
    simp only at h2 h3 h4 h5
    obtain ⟨j, rfl⟩ : ∃ n : Nat, j = n := ⟨j.toNat, by omega⟩
    have hb : (decide (i < 0) || (R.getD i.toNat []).getD ((j : Int)).toNat false) = (decide (i < 0) || M i.toNat j) := by
      by_cases hi : i < 0
      · simp [hi]
      · congr 1
        rw [h5, Int.toNat_natCast, rows_at (by omega) (by omega)]
    have := f_F2 R.length M i j (by omega) (by omega)
    rw [← h5, ← hb] at this
    exact this) FH.none_ok
set_option maxHeartbeats 4000000 in
theorem f_RFast (l : List Ev) (hok : (checkR l).2 = 0) : FnOK Try.prog 19 [dEs.emb l] [] (.tup [.vec 0 (outA l (flA l 8) l.length).length, .int .i64 (slA l 8)]) [.vec 47 3 ((outA l (flA l 8) l.length).map dFl.emb)] := by
  have hl := ok_len hok
  refine fn_walkF c19 w19 Gfa_ok rfl ?_
  unfold j19
  simp only [go_sem, ↓reduceIte, Nat.reduceAdd, Nat.reduceMul, Nat.reduceSub, Nat.reduceLT, Nat.reduceLeDiff, Nat.reduceEqDiff, Int.reduceToNat, Int.reduceEq, Int.reduceLT, Int.reduceLE, reduceCtorEq, Gfa_eq]
  refine ⟨by omega, ?_⟩
  refine loopF Nat (fun x => [.int .i64 x, .vec 2 (flA l x).length, .int .i64 (slA l x)]) (fun x => [.blk 29 (dEs.emb l), .blk 102 (dRows.emb (rowsOf l.length (aheadR l))), .vec 47 3 ((flA l x).map dFl.emb)]) (fun x => x ≤ 8) (fun x => 8 - x) 0 (by omega) ?_ rfl ?_
  · simp only [go_sem, ↓reduceIte, Nat.reduceAdd, Nat.reduceMul, Nat.reduceSub, Nat.reduceLT, Nat.reduceLeDiff, Nat.reduceEqDiff, Int.reduceToNat, Int.reduceEq, Int.reduceLT, Int.reduceLE, reduceCtorEq]
    exact ⟨rfl, rfl⟩
  intro x hx
  have hA := flA_len (l := l) x
  have hA8 : x * l.length ≤ 8 * 80 := Nat.mul_le_mul hx (by omega)
  have hsA := slA_le (l := l) x
  by_cases h1 : x < 8
  · have h1' : (x : Int) < 8 := by omega
    have hwx : IntKind.i64.wrap ((x : Int) + 1) = ((x + 1 : Nat) : Int) := IntWalk.i64_in _ (by omega)
    unfold j19_8
    simp only [go_sem, ↓reduceIte, Nat.reduceAdd, Nat.reduceMul, Nat.reduceSub, Nat.reduceLT, Nat.reduceLeDiff, Nat.reduceEqDiff, Int.reduceToNat, Int.reduceEq, Int.reduceLT, Int.reduceLE, reduceCtorEq, Gfa_eq, h1', hwx]
    refine loopF (Nat × Bool × List Int) (fun p => [.int .i64 p.1, if p.2.1 = true then .vec 3 p.2.2.length else .nils, .bool (FSr l x p.1).mn, .int .i64 (FSr l x p.1).wr, .vec 2 (flT l x p.1).length, .int .i64 (slT l x p.1)]) (fun p => [.blk 29 (dEs.emb l), .blk 102 (dRows.emb (rowsOf l.length (aheadR l))), .vec 47 3 ((flT l x p.1).map dFl.emb), .vec 3 1 (p.2.2.map DT.int.emb)]) (fun p => p.1 ≤ l.length ∧ (p.2.1 = true → p.2.2 = rI (FSr l x p.1)) ∧ (p.2.1 = false → (FSr l x p.1).rds = [] ∧ (FSr l x p.1).mn = false)) (fun p => l.length - p.1) (0, true, []) ⟨Nat.zero_le _, fun _ => rfl, fun h => by cases h⟩ ?_ ?_ ?_
    · simp only [go_sem, ↓reduceIte, Nat.reduceAdd, Nat.reduceMul, Nat.reduceSub, Nat.reduceLT, Nat.reduceLeDiff, Nat.reduceEqDiff, Int.reduceToNat, Int.reduceEq, Int.reduceLT, Int.reduceLE, reduceCtorEq]
      refine ⟨rfl, rfl, by simp [flT, flW], by simp [slT, slW]⟩
    · simp [flT, flW]
      exact ⟨rfl, rfl⟩
    intro ⟨j, b, L⟩ ⟨hj, hb1, hb2⟩
    simp only at hj hb1 hb2
    by_cases h2 : j < l.length
    · have h2' : (j : Int) < l.length := by omega
      have hwj : IntKind.i64.wrap ((j : Int) + 1) = ((j + 1 : Nat) : Int) := IntWalk.i64_in _ (by omega)
      obtain ⟨g1, g2, g3, g4⟩ := FSr_ok (l := l) (x := x) j
      have hF := flW_len (l := l) (x := x) j
      have hS := slW_le (l := l) (x := x) j
      have hst : FSr l x (j + 1) = stF l x (FSr l x j) j := rfl
      have hFl : (flT l x j).length ≤ 640 + j := by rw [flT, List.length_append]; omega
      have hSl : slT l x j ≤ 640 + j := by rw [slT]; omega
      have hfl : flT l x (j + 1) = flT l x j ++ if fkF l x (FSr l x j) j = 0 then [] else [⟨j, x, fkF l x (FSr l x j) j⟩] := (List.append_assoc _ _ _).symm
      have hsl : slT l x (j + 1) = slT l x j + slF l x (FSr l x j) j := (Nat.add_assoc _ _ _).symm
      generalize FSr l x j = s at *
      generalize flT l x j = F at *
      generalize slT l x j = S at *
--BEGIN
      cases b with
      | false =>
        obtain ⟨hb2, hm⟩ := hb2 rfl
        unfold j19_6
        by_cases hsk : skipB l x j
        · have hsk' : (decide (2 < (l.getD j dEv.dft).kind) || !decide ((l.getD j dEv.dft).obj = (x : Int))) = true := by
            rcases hsk with h | h
            · have h : 2 < (l.getD j dEv.dft).kind := h
              rw [decide_eq_true h, Bool.true_or]
            · have h : ¬ (l.getD j dEv.dft).obj = (x : Int) := h
              rw [decide_eq_false h, Bool.not_false, Bool.or_true]
          have e1 : stF l x s j = s := by rw [stF, if_pos hsk]
          have e2 : fkF l x s j = 0 := by rw [fkF, if_pos hsk]
          have e3 : slF l x s j = 0 := by rw [slF, if_pos hsk]
          rw [e1] at hst
          rw [if_pos e2, List.append_nil] at hfl
          rw [e3] at hsl
          simp only [go_sem, ↓reduceIte, Nat.reduceAdd, Nat.reduceMul, Nat.reduceSub, Nat.reduceLT, Nat.reduceLeDiff, Nat.reduceEqDiff, Int.reduceToNat, Int.reduceEq, Int.reduceLT, Int.reduceLE, reduceCtorEq, Gfa_eq, h2, h2', hwj, hsk', rI_len]
          unfold j19_5
          simp only [go_sem, ↓reduceIte, Nat.reduceAdd, Nat.reduceMul, Nat.reduceSub, Nat.reduceLT, Nat.reduceLeDiff, Nat.reduceEqDiff, Int.reduceToNat, Int.reduceEq, Int.reduceLT, Int.reduceLE, reduceCtorEq, hwj]
          exact ⟨by omega, ⟨(j + 1, false, L), ⟨by omega, fun h => (by cases h), fun _ => (by rw [hst]; exact ⟨hb2, by first | rfl | exact hm⟩)⟩, by omega, ⟨rfl, rfl, by rw [hst]; try first | rfl | exact hm.symm, by rw [hst]; try rfl, by rw [hfl]; try simp, by rw [hsl]; try first | rfl | (simp; done) | (simp; omega)⟩, by rw [hfl]; try first | rfl | (rw [List.map_append]; rfl)⟩⟩
        have hsk' : (decide (2 < (l.getD j dEv.dft).kind) || !decide ((l.getD j dEv.dft).obj = (x : Int))) = false := by
          have a1 : ¬ 2 < (l.getD j dEv.dft).kind := fun h => hsk (.inl h)
          have a2 : (l.getD j dEv.dft).obj = (x : Int) := Classical.not_not.1 fun h => hsk (.inr h)
          rw [decide_eq_false a1, decide_eq_true a2]; rfl
        have hk12 : (l.getD j dEv.dft).kind = 1 ∨ (l.getD j dEv.dft).kind = 2 := by
          have h := kind_ok hok h2
          have h' : ¬ 2 < (l.getD j dEv.dft).kind := fun h => hsk (.inl h)
          have h : 1 ≤ (l.getD j dEv.dft).kind ∧ _ := h
          omega
        have hkw : (decide (s.wr < 0) || ((rowsOf l.length (aheadR l)).getD s.wr.toNat []).getD j false) = knW l s.wr j := by
          rw [knW]
          by_cases hw : s.wr < 0
          · rw [decide_eq_true hw]; rfl
          · rw [rows_at (by omega) h2]
        have hrl := rows_len (n := l.length) (M := aheadR l)
        simp only [go_sem, ↓reduceIte, Nat.reduceAdd, Nat.reduceMul, Nat.reduceSub, Nat.reduceLT, Nat.reduceLeDiff, Nat.reduceEqDiff, Int.reduceToNat, Int.reduceEq, Int.reduceLT, Int.reduceLE, reduceCtorEq, Gfa_eq, h2, h2', hwj, hsk', rI_len]
        refine ⟨by omega, ?_⟩
        refine loopF Nat (fun k => [.int .i64 0, .bool false]) (fun k => [.blk 29 (dEs.emb l), .blk 102 (dRows.emb (rowsOf l.length (aheadR l))), .vec 47 3 (F.map dFl.emb), .vec 3 1 (L.map DT.int.emb), .blk 35 (dEv.emb (l.getD j dEv.dft))]) (fun k => True) (fun k => 0) 0 trivial ?_ rfl ?_
        · simp only [go_sem, ↓reduceIte, Nat.reduceAdd, Nat.reduceMul, Nat.reduceSub, Nat.reduceLT, Nat.reduceLeDiff, Nat.reduceEqDiff, Int.reduceToNat, Int.reduceEq, Int.reduceLT, Int.reduceLE, reduceCtorEq]
        intro k _
        unfold j19_1
        simp only [go_sem, ↓reduceIte, Nat.reduceAdd, Nat.reduceMul, Nat.reduceSub, Nat.reduceLT, Nat.reduceLeDiff, Nat.reduceEqDiff, Int.reduceToNat, Int.reduceEq, Int.reduceLT, Int.reduceLE, reduceCtorEq, rI_len]
        unfold j19_4
        rcases hk12 with k1 | k2
        · have k1' : (at' l j).kind = 1 := k1
          have hevk : dEv.emb (l.getD j dEv.dft) = .agg [.int .i64 1, .int .i64 (l.getD j dEv.dft).thr, .int .i64 (l.getD j dEv.dft).obj] := by rw [← k1]; rfl
          have hsa : ¬ sameB l s j := fun h => by have := h.2.1; rw [hb2] at this; cases this
          have hla : lateB l s.rds j = false := by rw [hb2]; rfl
          cases hk : knW l s.wr j with
          | false =>
            have e1 : stF l x s j = ⟨s.wr, [j], false⟩ := by rw [stF, if_neg hsk, if_pos k1', if_neg hsa, if_pos ⟨hm, hla⟩]
            have e2 : fkF l x s j = 2 := by rw [fkF, if_neg hsk, if_pos k1', if_neg hsa, if_neg (by rw [hk]; simp)]
            have e3 : slF l x s j = 0 := by rw [slF, if_neg hsk, if_pos k1', if_neg hsa, if_neg (fun h => by rw [hla] at h; exact absurd h.2 (by decide))]
            rw [e1] at hst
            rw [e2, if_neg (by decide)] at hfl
            rw [e3] at hsl
            unfold j19_5
            simp only [go_sem, ↓reduceIte, Nat.reduceAdd, Nat.reduceMul, Nat.reduceSub, Nat.reduceLT, Nat.reduceLeDiff, Nat.reduceEqDiff, Int.reduceToNat, Int.reduceEq, Int.reduceLT, Int.reduceLE, reduceCtorEq, Gfa_eq, hwj, hrl, h2, rI_len, hkw, k1, hm, hk]
            exact ⟨⟨by omega, by omega, by omega, _, rfl⟩, by omega, ⟨(j + 1, true, [(j : Int)]), ⟨by omega, fun _ => (by rw [hst]; rfl), fun h => (by cases h)⟩, by omega, ⟨rfl, rfl, by rw [hst]; try first | rfl | exact hm.symm, by rw [hst]; try rfl, by rw [hfl]; try simp, by rw [hsl]; try first | rfl | (simp; done) | (simp; omega)⟩, by rw [hfl]; try first | rfl | (rw [List.map_append]; rfl)⟩⟩
          | true =>
            have e1 : stF l x s j = ⟨s.wr, [j], false⟩ := by rw [stF, if_neg hsk, if_pos k1', if_neg hsa, if_pos ⟨hm, hla⟩]
            have e2 : fkF l x s j = 0 := by rw [fkF, if_neg hsk, if_pos k1', if_neg hsa, if_pos hk]
            have e3 : slF l x s j = 0 := by rw [slF, if_neg hsk, if_pos k1', if_neg hsa, if_neg (fun h => by rw [hla] at h; exact absurd h.2 (by decide))]
            rw [e1] at hst
            rw [e2, if_pos rfl, List.append_nil] at hfl
            rw [e3] at hsl
            unfold j19_5
            simp only [go_sem, ↓reduceIte, Nat.reduceAdd, Nat.reduceMul, Nat.reduceSub, Nat.reduceLT, Nat.reduceLeDiff, Nat.reduceEqDiff, Int.reduceToNat, Int.reduceEq, Int.reduceLT, Int.reduceLE, reduceCtorEq, Gfa_eq, hwj, hrl, h2, rI_len, hkw, k1, hm, hk]
            exact ⟨⟨by omega, by omega, by omega, _, rfl⟩, ⟨(j + 1, true, [(j : Int)]), ⟨by omega, fun _ => (by rw [hst]; rfl), fun h => (by cases h)⟩, by omega, ⟨rfl, rfl, by rw [hst]; try first | rfl | exact hm.symm, by rw [hst]; try rfl, by rw [hfl]; try simp, by rw [hsl]; try first | rfl | (simp; done) | (simp; omega)⟩, by rw [hfl]; try first | rfl | (rw [List.map_append]; rfl)⟩⟩
        · have k1 : ¬ (l.getD j dEv.dft).kind = 1 := by omega
          have k1' : ¬ (at' l j).kind = 1 := k1
          cases hep : epW l s.wr j with
          | true =>
            have e1 : stF l x s j = s := by rw [stF, if_neg hsk, if_neg k1', if_pos hep]
            have e2 : fkF l x s j = 0 := by rw [fkF, if_neg hsk, if_neg k1', if_pos hep]
            have e3 : slF l x s j = 0 := by rw [slF, if_neg hsk, if_neg k1']
            rw [e1] at hst
            rw [e2, if_pos rfl, List.append_nil] at hfl
            rw [e3] at hsl
            unfold j19_5
            simp only [go_sem, ↓reduceIte, Nat.reduceAdd, Nat.reduceMul, Nat.reduceSub, Nat.reduceLT, Nat.reduceLeDiff, Nat.reduceEqDiff, Int.reduceToNat, Int.reduceEq, Int.reduceLT, Int.reduceLE, reduceCtorEq, Gfa_eq, hwj, hrl, h2, rI_len, hkw, k1, hep]
            exact ⟨⟨by omega, by omega, by omega, by omega⟩, ⟨(j + 1, false, L), ⟨by omega, fun h => (by cases h), fun _ => (by rw [hst]; exact ⟨hb2, by first | rfl | exact hm⟩)⟩, by omega, ⟨rfl, rfl, by rw [hst]; try first | rfl | exact hm.symm, by rw [hst]; try rfl, by rw [hfl]; try simp, by rw [hsl]; try first | rfl | (simp; done) | (simp; omega)⟩, by rw [hfl]; try first | rfl | (rw [List.map_append]; rfl)⟩⟩
          | false =>
              have hla : lateB l s.rds j = false := by rw [hb2]; rfl
              cases hk : knW l s.wr j with
              | false =>
                have e1 : stF l x s j = ⟨j, s.rds, false⟩ := by rw [stF, if_neg hsk, if_neg k1', if_neg (by rw [hep]; simp), if_neg (by rw [hm]; simp)]
                have e2 : fkF l x s j = 1 := by rw [fkF, if_neg hsk, if_neg k1', if_neg (by rw [hep]; simp), if_pos hk]
                have e3 : slF l x s j = 0 := by rw [slF, if_neg hsk, if_neg k1']
                rw [e1] at hst
                rw [e2, if_neg (by decide)] at hfl
                rw [e3] at hsl
                unfold j19_5
                simp only [go_sem, ↓reduceIte, Nat.reduceAdd, Nat.reduceMul, Nat.reduceSub, Nat.reduceLT, Nat.reduceLeDiff, Nat.reduceEqDiff, Int.reduceToNat, Int.reduceEq, Int.reduceLT, Int.reduceLE, reduceCtorEq, Gfa_eq, hwj, hrl, h2, rI_len, hkw, k1, hep, hk, hm]
                exact ⟨⟨by omega, by omega, by omega, by omega⟩, ⟨by omega, by omega, by omega, _, rfl⟩, by omega, ⟨(j + 1, false, L), ⟨by omega, fun h => (by cases h), fun _ => (by rw [hst]; exact ⟨hb2, by first | rfl | exact hm⟩)⟩, by omega, ⟨rfl, rfl, by rw [hst]; try first | rfl | exact hm.symm, by rw [hst]; try rfl, by rw [hfl]; try simp, by rw [hsl]; try first | rfl | (simp; done) | (simp; omega)⟩, by rw [hfl]; try first | rfl | (rw [List.map_append]; rfl)⟩⟩
              | true =>
                  have e1 : stF l x s j = ⟨j, s.rds, false⟩ := by rw [stF, if_neg hsk, if_neg k1', if_neg (by rw [hep]; simp), if_neg (by rw [hm]; simp)]
                  have e2 : fkF l x s j = 0 := by rw [fkF, if_neg hsk, if_neg k1', if_neg (by rw [hep]; simp), if_neg (by rw [hk]; simp), if_neg (by rw [hla]; simp)]
                  have e3 : slF l x s j = 0 := by rw [slF, if_neg hsk, if_neg k1']
                  rw [e1] at hst
                  rw [e2, if_pos rfl, List.append_nil] at hfl
                  rw [e3] at hsl
                  unfold j19_5
                  simp only [go_sem, ↓reduceIte, Nat.reduceAdd, Nat.reduceMul, Nat.reduceSub, Nat.reduceLT, Nat.reduceLeDiff, Nat.reduceEqDiff, Int.reduceToNat, Int.reduceEq, Int.reduceLT, Int.reduceLE, reduceCtorEq, Gfa_eq, hwj, hrl, h2, rI_len, hkw, k1, hep, hk, hm]
                  exact ⟨⟨by omega, by omega, by omega, by omega⟩, ⟨by omega, by omega, by omega, _, rfl⟩, ⟨(j + 1, false, L), ⟨by omega, fun h => (by cases h), fun _ => (by rw [hst]; exact ⟨hb2, by first | rfl | exact hm⟩)⟩, by omega, ⟨rfl, rfl, by rw [hst]; try first | rfl | exact hm.symm, by rw [hst]; try rfl, by rw [hfl]; try simp, by rw [hsl]; try first | rfl | (simp; done) | (simp; omega)⟩, by rw [hfl]; try first | rfl | (rw [List.map_append]; rfl)⟩⟩
      | true =>
        obtain rfl : L = rI s := hb1 rfl
        unfold j19_6
        by_cases hsk : skipB l x j
        · have hsk' : (decide (2 < (l.getD j dEv.dft).kind) || !decide ((l.getD j dEv.dft).obj = (x : Int))) = true := by
            rcases hsk with h | h
            · have h : 2 < (l.getD j dEv.dft).kind := h
              rw [decide_eq_true h, Bool.true_or]
            · have h : ¬ (l.getD j dEv.dft).obj = (x : Int) := h
              rw [decide_eq_false h, Bool.not_false, Bool.or_true]
          have e1 : stF l x s j = s := by rw [stF, if_pos hsk]
          have e2 : fkF l x s j = 0 := by rw [fkF, if_pos hsk]
          have e3 : slF l x s j = 0 := by rw [slF, if_pos hsk]
          rw [e1] at hst
          rw [if_pos e2, List.append_nil] at hfl
          rw [e3] at hsl
          simp only [go_sem, ↓reduceIte, Nat.reduceAdd, Nat.reduceMul, Nat.reduceSub, Nat.reduceLT, Nat.reduceLeDiff, Nat.reduceEqDiff, Int.reduceToNat, Int.reduceEq, Int.reduceLT, Int.reduceLE, reduceCtorEq, Gfa_eq, h2, h2', hwj, hsk', rI_len]
          unfold j19_5
          simp only [go_sem, ↓reduceIte, Nat.reduceAdd, Nat.reduceMul, Nat.reduceSub, Nat.reduceLT, Nat.reduceLeDiff, Nat.reduceEqDiff, Int.reduceToNat, Int.reduceEq, Int.reduceLT, Int.reduceLE, reduceCtorEq, hwj]
          exact ⟨by omega, ⟨(j + 1, true, rI s), ⟨by omega, fun _ => (by rw [hst]), fun h => (by cases h)⟩, by omega, ⟨rfl, by rw [if_pos rfl, rI_len], by rw [hst]; try first | rfl | exact hm.symm, by rw [hst]; try rfl, by rw [hfl]; try simp, by rw [hsl]; try first | rfl | (simp; done) | (simp; omega)⟩, by rw [hfl]; try first | rfl | (rw [List.map_append]; rfl)⟩⟩
        have hsk' : (decide (2 < (l.getD j dEv.dft).kind) || !decide ((l.getD j dEv.dft).obj = (x : Int))) = false := by
          have a1 : ¬ 2 < (l.getD j dEv.dft).kind := fun h => hsk (.inl h)
          have a2 : (l.getD j dEv.dft).obj = (x : Int) := Classical.not_not.1 fun h => hsk (.inr h)
          rw [decide_eq_false a1, decide_eq_true a2]; rfl
        have hk12 : (l.getD j dEv.dft).kind = 1 ∨ (l.getD j dEv.dft).kind = 2 := by
          have h := kind_ok hok h2
          have h' : ¬ 2 < (l.getD j dEv.dft).kind := fun h => hsk (.inl h)
          have h : 1 ≤ (l.getD j dEv.dft).kind ∧ _ := h
          omega
        have hkw : (decide (s.wr < 0) || ((rowsOf l.length (aheadR l)).getD s.wr.toNat []).getD j false) = knW l s.wr j := by
          rw [knW]
          by_cases hw : s.wr < 0
          · rw [decide_eq_true hw]; rfl
          · rw [rows_at (by omega) h2]
        have hrl := rows_len (n := l.length) (M := aheadR l)
        simp only [go_sem, ↓reduceIte, Nat.reduceAdd, Nat.reduceMul, Nat.reduceSub, Nat.reduceLT, Nat.reduceLeDiff, Nat.reduceEqDiff, Int.reduceToNat, Int.reduceEq, Int.reduceLT, Int.reduceLE, reduceCtorEq, Gfa_eq, h2, h2', hwj, hsk', rI_len]
        refine ⟨by omega, ?_⟩
        refine loopF Nat (fun k => [.int .i64 k, .bool ((s.rds.take k).any fun i => !aheadR l i j)]) (fun k => [.blk 29 (dEs.emb l), .blk 102 (dRows.emb (rowsOf l.length (aheadR l))), .vec 47 3 (F.map dFl.emb), .vec 3 1 ((rI s).map DT.int.emb), .blk 35 (dEv.emb (l.getD j dEv.dft))]) (fun k => k ≤ s.rds.length) (fun k => s.rds.length - k) 0 (by omega) ?_ rfl ?_
        · simp only [go_sem, ↓reduceIte, Nat.reduceAdd, Nat.reduceMul, Nat.reduceSub, Nat.reduceLT, Nat.reduceLeDiff, Nat.reduceEqDiff, Int.reduceToNat, Int.reduceEq, Int.reduceLT, Int.reduceLE, reduceCtorEq]
          rfl
        intro k hk
        by_cases h3 : k < s.rds.length
        · have h3' : (k : Int) < s.rds.length := by omega
          have hwk : IntKind.i64.wrap ((k : Int) + 1) = ((k + 1 : Nat) : Int) := IntWalk.i64_in _ (by omega)
          have hr := rI_get h3
          have hr2 : s.rds.getD k 0 < j := g3 _ (by simp [List.getD, h3])
          have hat := rows_at (M := aheadR l) (show s.rds.getD k 0 < l.length by omega) h2
          have hlt : ¬ ((s.rds.getD k 0 : Nat) : Int) < 0 := by omega
          unfold j19_1
          simp only [go_sem, ↓reduceIte, Nat.reduceAdd, Nat.reduceMul, Nat.reduceSub, Nat.reduceLT, Nat.reduceLeDiff, Nat.reduceEqDiff, Int.reduceToNat, Int.reduceEq, Int.reduceLT, Int.reduceLE, reduceCtorEq, Gfa_eq, h3, h3', hwk, hr, hat, hrl, hlt, h2, rI_len]
          exact ⟨by omega, fun _ => ⟨by omega, by omega, by omega, _, rfl⟩, k + 1, by omega, by omega, rfl, by rw [List.take_add_one, List.any_append, List.getElem?_eq_getElem h3]; simp [List.getD, h3]⟩
        have h3' : ¬ (k : Int) < s.rds.length := by omega
        have e : k = s.rds.length := by omega
        subst e
        unfold j19_1
        simp only [go_sem, ↓reduceIte, Nat.reduceAdd, Nat.reduceMul, Nat.reduceSub, Nat.reduceLT, Nat.reduceLeDiff, Nat.reduceEqDiff, Int.reduceToNat, Int.reduceEq, Int.reduceLT, Int.reduceLE, reduceCtorEq, h3', List.take_length, rI_len]
        unfold j19_4
        have hal : (s.rds.any fun i => !aheadR l i j) = lateB l s.rds j := rfl
        rcases hk12 with k1 | k2
        · have k1' : (at' l j).kind = 1 := k1
          have hevk : dEv.emb (l.getD j dEv.dft) = .agg [.int .i64 1, .int .i64 (l.getD j dEv.dft).thr, .int .i64 (l.getD j dEv.dft).obj] := by rw [← k1]; rfl
          by_cases hsa : sameB l s j
          · obtain ⟨hm, hn, he⟩ := id hsa
            have hr := rI_get (s := s) (k := 0) (by omega)
            have he' : epW l ((s.rds.getD 0 0 : Nat) : Int) j = true := by
              rw [epW, Int.toNat_natCast, he]; simp
            have hr2 : s.rds.getD 0 0 < j := g3 _ (by simp [List.getD, show 0 < s.rds.length by omega])
            have e1 : stF l x s j = s := by rw [stF, if_neg hsk, if_pos k1', if_pos hsa]
            have e2 : fkF l x s j = 0 := by rw [fkF, if_neg hsk, if_pos k1', if_pos hsa]
            have e3 : slF l x s j = 0 := by rw [slF, if_neg hsk, if_pos k1', if_pos hsa]
            rw [e1] at hst
            rw [e2, if_pos rfl, List.append_nil] at hfl
            rw [e3] at hsl
            unfold j19_5
            simp only [go_sem, ↓reduceIte, Nat.reduceAdd, Nat.reduceMul, Nat.reduceSub, Nat.reduceLT, Nat.reduceLeDiff, Nat.reduceEqDiff, Int.reduceToNat, Int.reduceEq, Int.reduceLT, Int.reduceLE, reduceCtorEq, Gfa_eq, hwj, hrl, h2, rI_len, hkw, k1, hm, hn, hr, he', hal]
            exact ⟨⟨by omega, by omega, by omega, by omega⟩, ⟨(j + 1, true, rI s), ⟨by omega, fun _ => (by rw [hst]), fun h => (by cases h)⟩, by omega, ⟨rfl, by rw [if_pos rfl, rI_len, hn], by rw [hst]; try first | rfl | exact hm.symm, by rw [hst]; try rfl, by rw [hfl]; try simp, by rw [hsl]; try first | rfl | (simp; done) | (simp; omega)⟩, by rw [hfl]; try first | rfl | (rw [List.map_append]; rfl)⟩⟩
          · cases hm : s.mn with
            | true =>
              cases hk : knW l s.wr j with
              | false =>
                have e1 : stF l x s j = ⟨s.wr, s.rds.filter (fun i => !decide ((at' l i).thr = (at' l j).thr)) ++ [j], true⟩ := by rw [stF, if_neg hsk, if_pos k1', if_neg hsa, if_neg (fun h => by rw [hm] at h; exact absurd h.1 (by decide))]
                have e2 : fkF l x s j = 2 := by rw [fkF, if_neg hsk, if_pos k1', if_neg hsa, if_neg (by rw [hk]; simp)]
                have e3 : slF l x s j = 0 := by rw [slF, if_neg hsk, if_pos k1', if_neg hsa, if_neg (fun h => by rw [hm] at h; exact absurd h.1 (by decide))]
                rw [e1] at hst
                rw [e2, if_neg (by decide)] at hfl
                rw [e3] at hsl
                unfold j19_5
                simp only [go_sem, ↓reduceIte, Nat.reduceAdd, Nat.reduceMul, Nat.reduceSub, Nat.reduceLT, Nat.reduceLeDiff, Nat.reduceEqDiff, Int.reduceToNat, Int.reduceEq, Int.reduceLT, Int.reduceLE, reduceCtorEq, Gfa_eq, hwj, hrl, h2, rI_len, hkw, k1, hm, hk, hal]
                refine ⟨⟨by omega, by omega, by omega, _, rfl⟩, by omega, ?_⟩
                refine loopF Nat (fun k => [.int .i64 k, .vec 5 (rsF l s.rds j k).length]) (fun k => [.blk 29 (dEs.emb l), .blk 102 (dRows.emb (rowsOf l.length (aheadR l))), .vec 47 3 ((flT l x (j + 1)).map dFl.emb), .vec 3 1 ((rI s).map DT.int.emb), .blk 35 (dEv.emb (l.getD j dEv.dft)), .vec 3 1 ((rsF l s.rds j k).map DT.int.emb)]) (fun k => k ≤ s.rds.length) (fun k => s.rds.length - k) 0 (by omega) ?_ ?_ ?_
                · simp only [go_sem, ↓reduceIte, Nat.reduceAdd, Nat.reduceMul, Nat.reduceSub, Nat.reduceLT, Nat.reduceLeDiff, Nat.reduceEqDiff, Int.reduceToNat, Int.reduceEq, Int.reduceLT, Int.reduceLE, reduceCtorEq]
                  rfl
                · rw [hfl]
                  first | (rw [hevk]; rfl) | (rw [hevk, List.map_append]; rfl)
                intro k hk
                by_cases h4 : k < s.rds.length
                · have h4' : (k : Int) < s.rds.length := by omega
                  have hwk : IntKind.i64.wrap ((k : Int) + 1) = ((k + 1 : Nat) : Int) := IntWalk.i64_in _ (by omega)
                  have hr := rI_get h4
                  have hr2 : s.rds.getD k 0 < j := g3 _ (by simp [List.getD, h4])
                  have hr3 : s.rds.getD k 0 < l.length := by omega
                  have hrs := rsF_len (l := l) (rds := s.rds) (j := j) k
                  unfold j19_2
                  simp only [go_sem, ↓reduceIte, Nat.reduceAdd, Nat.reduceMul, Nat.reduceSub, Nat.reduceLT, Nat.reduceLeDiff, Nat.reduceEqDiff, Int.reduceToNat, Int.reduceEq, Int.reduceLT, Int.reduceLE, reduceCtorEq, Gfa_eq, h4, h4', hwk, hr, hr3, h2, rI_len]
                  refine ⟨by omega, ⟨by omega, by omega⟩, fun q => ⟨by omega, k + 1, by omega, by omega, ⟨rfl, by rw [rsF_ne h4 q, List.length_append]; rfl⟩, by rw [rsF_ne h4 q, List.map_append]; rfl⟩, fun q => ⟨k + 1, by omega, by omega, ⟨rfl, by rw [rsF_eq h4 q]⟩, by rw [rsF_eq h4 q]⟩⟩
                have h4' : ¬ (k : Int) < s.rds.length := by omega
                have e : k = s.rds.length := by omega
                subst e
                have hrs := rsF_len (l := l) (rds := s.rds) (j := j) s.rds.length
                unfold j19_2
                simp only [go_sem, ↓reduceIte, Nat.reduceAdd, Nat.reduceMul, Nat.reduceSub, Nat.reduceLT, Nat.reduceLeDiff, Nat.reduceEqDiff, Int.reduceToNat, Int.reduceEq, Int.reduceLT, Int.reduceLE, reduceCtorEq, h4', rI_len]
                unfold j19_3
                simp only [go_sem, ↓reduceIte, Nat.reduceAdd, Nat.reduceMul, Nat.reduceSub, Nat.reduceLT, Nat.reduceLeDiff, Nat.reduceEqDiff, Int.reduceToNat, Int.reduceEq, Int.reduceLT, Int.reduceLE, reduceCtorEq, hwj]
                exact ⟨by omega, ⟨(j + 1, true, rsF l s.rds j s.rds.length ++ [(j : Int)]), ⟨by omega, fun _ => (by rw [hst]; simp [rI, rsF]), fun h => (by cases h)⟩, by omega, ⟨rfl, by rw [if_pos rfl, List.length_append]; rfl, by rw [hst]; try first | rfl | exact hm.symm, by rw [hst]; try rfl, by rw [hfl]; try simp, by rw [hsl]; try first | rfl | (simp; done) | exact hwS⟩, by rw [List.map_append]; rfl⟩⟩
              | true =>
                have e1 : stF l x s j = ⟨s.wr, s.rds.filter (fun i => !decide ((at' l i).thr = (at' l j).thr)) ++ [j], true⟩ := by rw [stF, if_neg hsk, if_pos k1', if_neg hsa, if_neg (fun h => by rw [hm] at h; exact absurd h.1 (by decide))]
                have e2 : fkF l x s j = 0 := by rw [fkF, if_neg hsk, if_pos k1', if_neg hsa, if_pos hk]
                have e3 : slF l x s j = 0 := by rw [slF, if_neg hsk, if_pos k1', if_neg hsa, if_neg (fun h => by rw [hm] at h; exact absurd h.1 (by decide))]
                rw [e1] at hst
                rw [e2, if_pos rfl, List.append_nil] at hfl
                rw [e3] at hsl
                unfold j19_5
                simp only [go_sem, ↓reduceIte, Nat.reduceAdd, Nat.reduceMul, Nat.reduceSub, Nat.reduceLT, Nat.reduceLeDiff, Nat.reduceEqDiff, Int.reduceToNat, Int.reduceEq, Int.reduceLT, Int.reduceLE, reduceCtorEq, Gfa_eq, hwj, hrl, h2, rI_len, hkw, k1, hm, hk, hal]
                refine ⟨⟨by omega, by omega, by omega, _, rfl⟩, ?_⟩
                refine loopF Nat (fun k => [.int .i64 k, .vec 5 (rsF l s.rds j k).length]) (fun k => [.blk 29 (dEs.emb l), .blk 102 (dRows.emb (rowsOf l.length (aheadR l))), .vec 47 3 ((flT l x (j + 1)).map dFl.emb), .vec 3 1 ((rI s).map DT.int.emb), .blk 35 (dEv.emb (l.getD j dEv.dft)), .vec 3 1 ((rsF l s.rds j k).map DT.int.emb)]) (fun k => k ≤ s.rds.length) (fun k => s.rds.length - k) 0 (by omega) ?_ ?_ ?_
                · simp only [go_sem, ↓reduceIte, Nat.reduceAdd, Nat.reduceMul, Nat.reduceSub, Nat.reduceLT, Nat.reduceLeDiff, Nat.reduceEqDiff, Int.reduceToNat, Int.reduceEq, Int.reduceLT, Int.reduceLE, reduceCtorEq]
                  rfl
                · rw [hfl]
                  first | (rw [hevk]; rfl) | (rw [hevk, List.map_append]; rfl)
                intro k hk
                by_cases h4 : k < s.rds.length
                · have h4' : (k : Int) < s.rds.length := by omega
                  have hwk : IntKind.i64.wrap ((k : Int) + 1) = ((k + 1 : Nat) : Int) := IntWalk.i64_in _ (by omega)
                  have hr := rI_get h4
                  have hr2 : s.rds.getD k 0 < j := g3 _ (by simp [List.getD, h4])
                  have hr3 : s.rds.getD k 0 < l.length := by omega
                  have hrs := rsF_len (l := l) (rds := s.rds) (j := j) k
                  unfold j19_2
                  simp only [go_sem, ↓reduceIte, Nat.reduceAdd, Nat.reduceMul, Nat.reduceSub, Nat.reduceLT, Nat.reduceLeDiff, Nat.reduceEqDiff, Int.reduceToNat, Int.reduceEq, Int.reduceLT, Int.reduceLE, reduceCtorEq, Gfa_eq, h4, h4', hwk, hr, hr3, h2, rI_len]
                  refine ⟨by omega, ⟨by omega, by omega⟩, fun q => ⟨by omega, k + 1, by omega, by omega, ⟨rfl, by rw [rsF_ne h4 q, List.length_append]; rfl⟩, by rw [rsF_ne h4 q, List.map_append]; rfl⟩, fun q => ⟨k + 1, by omega, by omega, ⟨rfl, by rw [rsF_eq h4 q]⟩, by rw [rsF_eq h4 q]⟩⟩
                have h4' : ¬ (k : Int) < s.rds.length := by omega
                have e : k = s.rds.length := by omega
                subst e
                have hrs := rsF_len (l := l) (rds := s.rds) (j := j) s.rds.length
                unfold j19_2
                simp only [go_sem, ↓reduceIte, Nat.reduceAdd, Nat.reduceMul, Nat.reduceSub, Nat.reduceLT, Nat.reduceLeDiff, Nat.reduceEqDiff, Int.reduceToNat, Int.reduceEq, Int.reduceLT, Int.reduceLE, reduceCtorEq, h4', rI_len]
                unfold j19_3
                simp only [go_sem, ↓reduceIte, Nat.reduceAdd, Nat.reduceMul, Nat.reduceSub, Nat.reduceLT, Nat.reduceLeDiff, Nat.reduceEqDiff, Int.reduceToNat, Int.reduceEq, Int.reduceLT, Int.reduceLE, reduceCtorEq, hwj]
                exact ⟨by omega, ⟨(j + 1, true, rsF l s.rds j s.rds.length ++ [(j : Int)]), ⟨by omega, fun _ => (by rw [hst]; simp [rI, rsF]), fun h => (by cases h)⟩, by omega, ⟨rfl, by rw [if_pos rfl, List.length_append]; rfl, by rw [hst]; try first | rfl | exact hm.symm, by rw [hst]; try rfl, by rw [hfl]; try simp, by rw [hsl]; try first | rfl | (simp; done) | exact hwS⟩, by rw [List.map_append]; rfl⟩⟩
            | false =>
              by_cases hn : s.rds.length = 1
              · have hr := rI_get (s := s) (k := 0) (by omega)
                have he' : epW l ((s.rds.getD 0 0 : Nat) : Int) j = false := by
                  rw [epW, Int.toNat_natCast]
                  cases h : epB l (s.rds.getD 0 0) j with
                  | false => rw [Bool.and_false]
                  | true => exact absurd ⟨hm, hn, h⟩ hsa
                have hr2 : s.rds.getD 0 0 < j := g3 _ (by simp [List.getD, show 0 < s.rds.length by omega])
                cases hk : knW l s.wr j with
                | false =>
                  cases hla : lateB l s.rds j with
                  | false =>
                    have e1 : stF l x s j = ⟨s.wr, [j], false⟩ := by rw [stF, if_neg hsk, if_pos k1', if_neg hsa, if_pos ⟨hm, hla⟩]
                    have e2 : fkF l x s j = 2 := by rw [fkF, if_neg hsk, if_pos k1', if_neg hsa, if_neg (by rw [hk]; simp)]
                    have e3 : slF l x s j = 0 := by rw [slF, if_neg hsk, if_pos k1', if_neg hsa, if_neg (fun h => by rw [hla] at h; exact absurd h.2 (by decide))]
                    rw [e1] at hst
                    rw [e2, if_neg (by decide)] at hfl
                    rw [e3] at hsl
                    unfold j19_5
                    simp only [go_sem, ↓reduceIte, Nat.reduceAdd, Nat.reduceMul, Nat.reduceSub, Nat.reduceLT, Nat.reduceLeDiff, Nat.reduceEqDiff, Int.reduceToNat, Int.reduceEq, Int.reduceLT, Int.reduceLE, reduceCtorEq, Gfa_eq, hwj, hrl, h2, rI_len, hkw, k1, hm, hk, hn, hr, he', hal, hla]
                    exact ⟨⟨by omega, by omega, by omega, by omega⟩, ⟨by omega, by omega, by omega, _, rfl⟩, by omega, ⟨(j + 1, true, [(j : Int)]), ⟨by omega, fun _ => (by rw [hst]; rfl), fun h => (by cases h)⟩, by omega, ⟨rfl, rfl, by rw [hst]; try first | rfl | exact hm.symm, by rw [hst]; try rfl, by rw [hfl]; try simp, by rw [hsl]; try first | rfl | (simp; done) | (simp; omega)⟩, by rw [hfl]; try first | rfl | (rw [List.map_append]; rfl)⟩⟩
                  | true =>
                    have e1 : stF l x s j = ⟨s.wr, s.rds.filter (fun i => !decide ((at' l i).thr = (at' l j).thr)) ++ [j], true⟩ := by rw [stF, if_neg hsk, if_pos k1', if_neg hsa, if_neg (fun h => by rw [hla] at h; exact absurd h.2 (by decide))]
                    have e2 : fkF l x s j = 2 := by rw [fkF, if_neg hsk, if_pos k1', if_neg hsa, if_neg (by rw [hk]; simp)]
                    have e3 : slF l x s j = 1 := by rw [slF, if_neg hsk, if_pos k1', if_neg hsa, if_pos ⟨hm, hla⟩]
                    rw [e1] at hst
                    rw [e2, if_neg (by decide)] at hfl
                    rw [e3] at hsl
                    unfold j19_5
                    simp only [go_sem, ↓reduceIte, Nat.reduceAdd, Nat.reduceMul, Nat.reduceSub, Nat.reduceLT, Nat.reduceLeDiff, Nat.reduceEqDiff, Int.reduceToNat, Int.reduceEq, Int.reduceLT, Int.reduceLE, reduceCtorEq, Gfa_eq, hwj, hrl, h2, rI_len, hkw, k1, hm, hk, hn, hr, he', hal, hla]
                    refine ⟨⟨by omega, by omega, by omega, by omega⟩, ⟨by omega, by omega, by omega, _, rfl⟩, by omega, ?_⟩
                    refine loopF Nat (fun k => [.int .i64 k, .vec 5 (rsF l s.rds j k).length]) (fun k => [.blk 29 (dEs.emb l), .blk 102 (dRows.emb (rowsOf l.length (aheadR l))), .vec 47 3 ((flT l x (j + 1)).map dFl.emb), .vec 3 1 ((rI s).map DT.int.emb), .blk 35 (dEv.emb (l.getD j dEv.dft)), .vec 3 1 ((rsF l s.rds j k).map DT.int.emb)]) (fun k => k ≤ s.rds.length) (fun k => s.rds.length - k) 0 (by omega) ?_ ?_ ?_
                    · simp only [go_sem, ↓reduceIte, Nat.reduceAdd, Nat.reduceMul, Nat.reduceSub, Nat.reduceLT, Nat.reduceLeDiff, Nat.reduceEqDiff, Int.reduceToNat, Int.reduceEq, Int.reduceLT, Int.reduceLE, reduceCtorEq]
                      rfl
                    · rw [hfl]
                      first | (rw [hevk]; rfl) | (rw [hevk, List.map_append]; rfl)
                    intro k hk
                    by_cases h4 : k < s.rds.length
                    · have h4' : (k : Int) < s.rds.length := by omega
                      have h4n : (k : Int) < 1 := by omega
                      have hwk : IntKind.i64.wrap ((k : Int) + 1) = ((k + 1 : Nat) : Int) := IntWalk.i64_in _ (by omega)
                      have hr := rI_get h4
                      have hr2 : s.rds.getD k 0 < j := g3 _ (by simp [List.getD, h4])
                      have hr3 : s.rds.getD k 0 < l.length := by omega
                      have hrs := rsF_len (l := l) (rds := s.rds) (j := j) k
                      unfold j19_2
                      simp only [go_sem, ↓reduceIte, Nat.reduceAdd, Nat.reduceMul, Nat.reduceSub, Nat.reduceLT, Nat.reduceLeDiff, Nat.reduceEqDiff, Int.reduceToNat, Int.reduceEq, Int.reduceLT, Int.reduceLE, reduceCtorEq, Gfa_eq, h4, h4', h4n, hwk, hr, hr3, h2, rI_len]
                      refine ⟨by omega, ⟨by omega, by omega⟩, fun q => ⟨by omega, k + 1, by omega, by omega, ⟨rfl, by rw [rsF_ne h4 q, List.length_append]; rfl⟩, by rw [rsF_ne h4 q, List.map_append]; rfl⟩, fun q => ⟨k + 1, by omega, by omega, ⟨rfl, by rw [rsF_eq h4 q]⟩, by rw [rsF_eq h4 q]⟩⟩
                    have h4' : ¬ (k : Int) < s.rds.length := by omega
                    have h4n : ¬ (k : Int) < 1 := by omega
                    have e : k = s.rds.length := by omega
                    subst e
                    have hrs := rsF_len (l := l) (rds := s.rds) (j := j) s.rds.length
                    unfold j19_2
                    simp only [go_sem, ↓reduceIte, Nat.reduceAdd, Nat.reduceMul, Nat.reduceSub, Nat.reduceLT, Nat.reduceLeDiff, Nat.reduceEqDiff, Int.reduceToNat, Int.reduceEq, Int.reduceLT, Int.reduceLE, reduceCtorEq, h4', h4n, rI_len]
                    unfold j19_3
                    simp only [go_sem, ↓reduceIte, Nat.reduceAdd, Nat.reduceMul, Nat.reduceSub, Nat.reduceLT, Nat.reduceLeDiff, Nat.reduceEqDiff, Int.reduceToNat, Int.reduceEq, Int.reduceLT, Int.reduceLE, reduceCtorEq, hwj]
                    have hwS : IntKind.i64.wrap ((S : Int) + 1) = ((S + 1 : Nat) : Int) := IntWalk.i64_in _ (by omega)
                    exact ⟨by omega, ⟨(j + 1, true, rsF l s.rds j s.rds.length ++ [(j : Int)]), ⟨by omega, fun _ => (by rw [hst]; simp [rI, rsF]), fun h => (by cases h)⟩, by omega, ⟨rfl, by rw [if_pos rfl, List.length_append]; rfl, by rw [hst]; try first | rfl | exact hm.symm, by rw [hst]; try rfl, by rw [hfl]; try simp, by rw [hsl]; try first | rfl | (simp; done) | exact hwS⟩, by rw [List.map_append]; rfl⟩⟩
                | true =>
                  cases hla : lateB l s.rds j with
                  | false =>
                    have e1 : stF l x s j = ⟨s.wr, [j], false⟩ := by rw [stF, if_neg hsk, if_pos k1', if_neg hsa, if_pos ⟨hm, hla⟩]
                    have e2 : fkF l x s j = 0 := by rw [fkF, if_neg hsk, if_pos k1', if_neg hsa, if_pos hk]
                    have e3 : slF l x s j = 0 := by rw [slF, if_neg hsk, if_pos k1', if_neg hsa, if_neg (fun h => by rw [hla] at h; exact absurd h.2 (by decide))]
                    rw [e1] at hst
                    rw [e2, if_pos rfl, List.append_nil] at hfl
                    rw [e3] at hsl
                    unfold j19_5
                    simp only [go_sem, ↓reduceIte, Nat.reduceAdd, Nat.reduceMul, Nat.reduceSub, Nat.reduceLT, Nat.reduceLeDiff, Nat.reduceEqDiff, Int.reduceToNat, Int.reduceEq, Int.reduceLT, Int.reduceLE, reduceCtorEq, Gfa_eq, hwj, hrl, h2, rI_len, hkw, k1, hm, hk, hn, hr, he', hal, hla]
                    exact ⟨⟨by omega, by omega, by omega, by omega⟩, ⟨by omega, by omega, by omega, _, rfl⟩, ⟨(j + 1, true, [(j : Int)]), ⟨by omega, fun _ => (by rw [hst]; rfl), fun h => (by cases h)⟩, by omega, ⟨rfl, rfl, by rw [hst]; try first | rfl | exact hm.symm, by rw [hst]; try rfl, by rw [hfl]; try simp, by rw [hsl]; try first | rfl | (simp; done) | (simp; omega)⟩, by rw [hfl]; try first | rfl | (rw [List.map_append]; rfl)⟩⟩
                  | true =>
                    have e1 : stF l x s j = ⟨s.wr, s.rds.filter (fun i => !decide ((at' l i).thr = (at' l j).thr)) ++ [j], true⟩ := by rw [stF, if_neg hsk, if_pos k1', if_neg hsa, if_neg (fun h => by rw [hla] at h; exact absurd h.2 (by decide))]
                    have e2 : fkF l x s j = 0 := by rw [fkF, if_neg hsk, if_pos k1', if_neg hsa, if_pos hk]
                    have e3 : slF l x s j = 1 := by rw [slF, if_neg hsk, if_pos k1', if_neg hsa, if_pos ⟨hm, hla⟩]
                    rw [e1] at hst
                    rw [e2, if_pos rfl, List.append_nil] at hfl
                    rw [e3] at hsl
                    unfold j19_5
                    simp only [go_sem, ↓reduceIte, Nat.reduceAdd, Nat.reduceMul, Nat.reduceSub, Nat.reduceLT, Nat.reduceLeDiff, Nat.reduceEqDiff, Int.reduceToNat, Int.reduceEq, Int.reduceLT, Int.reduceLE, reduceCtorEq, Gfa_eq, hwj, hrl, h2, rI_len, hkw, k1, hm, hk, hn, hr, he', hal, hla]
                    refine ⟨⟨by omega, by omega, by omega, by omega⟩, ⟨by omega, by omega, by omega, _, rfl⟩, ?_⟩
                    refine loopF Nat (fun k => [.int .i64 k, .vec 5 (rsF l s.rds j k).length]) (fun k => [.blk 29 (dEs.emb l), .blk 102 (dRows.emb (rowsOf l.length (aheadR l))), .vec 47 3 ((flT l x (j + 1)).map dFl.emb), .vec 3 1 ((rI s).map DT.int.emb), .blk 35 (dEv.emb (l.getD j dEv.dft)), .vec 3 1 ((rsF l s.rds j k).map DT.int.emb)]) (fun k => k ≤ s.rds.length) (fun k => s.rds.length - k) 0 (by omega) ?_ ?_ ?_
                    · simp only [go_sem, ↓reduceIte, Nat.reduceAdd, Nat.reduceMul, Nat.reduceSub, Nat.reduceLT, Nat.reduceLeDiff, Nat.reduceEqDiff, Int.reduceToNat, Int.reduceEq, Int.reduceLT, Int.reduceLE, reduceCtorEq]
                      rfl
                    · rw [hfl]
                      first | (rw [hevk]; rfl) | (rw [hevk, List.map_append]; rfl)
                    intro k hk
                    by_cases h4 : k < s.rds.length
                    · have h4' : (k : Int) < s.rds.length := by omega
                      have h4n : (k : Int) < 1 := by omega
                      have hwk : IntKind.i64.wrap ((k : Int) + 1) = ((k + 1 : Nat) : Int) := IntWalk.i64_in _ (by omega)
                      have hr := rI_get h4
                      have hr2 : s.rds.getD k 0 < j := g3 _ (by simp [List.getD, h4])
                      have hr3 : s.rds.getD k 0 < l.length := by omega
                      have hrs := rsF_len (l := l) (rds := s.rds) (j := j) k
                      unfold j19_2
                      simp only [go_sem, ↓reduceIte, Nat.reduceAdd, Nat.reduceMul, Nat.reduceSub, Nat.reduceLT, Nat.reduceLeDiff, Nat.reduceEqDiff, Int.reduceToNat, Int.reduceEq, Int.reduceLT, Int.reduceLE, reduceCtorEq, Gfa_eq, h4, h4', h4n, hwk, hr, hr3, h2, rI_len]
                      refine ⟨by omega, ⟨by omega, by omega⟩, fun q => ⟨by omega, k + 1, by omega, by omega, ⟨rfl, by rw [rsF_ne h4 q, List.length_append]; rfl⟩, by rw [rsF_ne h4 q, List.map_append]; rfl⟩, fun q => ⟨k + 1, by omega, by omega, ⟨rfl, by rw [rsF_eq h4 q]⟩, by rw [rsF_eq h4 q]⟩⟩
                    have h4' : ¬ (k : Int) < s.rds.length := by omega
                    have h4n : ¬ (k : Int) < 1 := by omega
                    have e : k = s.rds.length := by omega
                    subst e
                    have hrs := rsF_len (l := l) (rds := s.rds) (j := j) s.rds.length
                    unfold j19_2
                    simp only [go_sem, ↓reduceIte, Nat.reduceAdd, Nat.reduceMul, Nat.reduceSub, Nat.reduceLT, Nat.reduceLeDiff, Nat.reduceEqDiff, Int.reduceToNat, Int.reduceEq, Int.reduceLT, Int.reduceLE, reduceCtorEq, h4', h4n, rI_len]
                    unfold j19_3
                    simp only [go_sem, ↓reduceIte, Nat.reduceAdd, Nat.reduceMul, Nat.reduceSub, Nat.reduceLT, Nat.reduceLeDiff, Nat.reduceEqDiff, Int.reduceToNat, Int.reduceEq, Int.reduceLT, Int.reduceLE, reduceCtorEq, hwj]
                    have hwS : IntKind.i64.wrap ((S : Int) + 1) = ((S + 1 : Nat) : Int) := IntWalk.i64_in _ (by omega)
                    exact ⟨by omega, ⟨(j + 1, true, rsF l s.rds j s.rds.length ++ [(j : Int)]), ⟨by omega, fun _ => (by rw [hst]; simp [rI, rsF]), fun h => (by cases h)⟩, by omega, ⟨rfl, by rw [if_pos rfl, List.length_append]; rfl, by rw [hst]; try first | rfl | exact hm.symm, by rw [hst]; try rfl, by rw [hfl]; try simp, by rw [hsl]; try first | rfl | (simp; done) | exact hwS⟩, by rw [List.map_append]; rfl⟩⟩
              · have hn' : ¬ (s.rds.length : Int) = 1 := by omega
                cases hk : knW l s.wr j with
                | false =>
                  cases hla : lateB l s.rds j with
                  | false =>
                    have e1 : stF l x s j = ⟨s.wr, [j], false⟩ := by rw [stF, if_neg hsk, if_pos k1', if_neg hsa, if_pos ⟨hm, hla⟩]
                    have e2 : fkF l x s j = 2 := by rw [fkF, if_neg hsk, if_pos k1', if_neg hsa, if_neg (by rw [hk]; simp)]
                    have e3 : slF l x s j = 0 := by rw [slF, if_neg hsk, if_pos k1', if_neg hsa, if_neg (fun h => by rw [hla] at h; exact absurd h.2 (by decide))]
                    rw [e1] at hst
                    rw [e2, if_neg (by decide)] at hfl
                    rw [e3] at hsl
                    unfold j19_5
                    simp only [go_sem, ↓reduceIte, Nat.reduceAdd, Nat.reduceMul, Nat.reduceSub, Nat.reduceLT, Nat.reduceLeDiff, Nat.reduceEqDiff, Int.reduceToNat, Int.reduceEq, Int.reduceLT, Int.reduceLE, reduceCtorEq, Gfa_eq, hwj, hrl, h2, rI_len, hkw, k1, hm, hk, hn', hal, hla]
                    exact ⟨⟨by omega, by omega, by omega, _, rfl⟩, by omega, ⟨(j + 1, true, [(j : Int)]), ⟨by omega, fun _ => (by rw [hst]; rfl), fun h => (by cases h)⟩, by omega, ⟨rfl, rfl, by rw [hst]; try first | rfl | exact hm.symm, by rw [hst]; try rfl, by rw [hfl]; try simp, by rw [hsl]; try first | rfl | (simp; done) | (simp; omega)⟩, by rw [hfl]; try first | rfl | (rw [List.map_append]; rfl)⟩⟩
                  | true =>
                    have e1 : stF l x s j = ⟨s.wr, s.rds.filter (fun i => !decide ((at' l i).thr = (at' l j).thr)) ++ [j], true⟩ := by rw [stF, if_neg hsk, if_pos k1', if_neg hsa, if_neg (fun h => by rw [hla] at h; exact absurd h.2 (by decide))]
                    have e2 : fkF l x s j = 2 := by rw [fkF, if_neg hsk, if_pos k1', if_neg hsa, if_neg (by rw [hk]; simp)]
                    have e3 : slF l x s j = 1 := by rw [slF, if_neg hsk, if_pos k1', if_neg hsa, if_pos ⟨hm, hla⟩]
                    rw [e1] at hst
                    rw [e2, if_neg (by decide)] at hfl
                    rw [e3] at hsl
                    unfold j19_5
                    simp only [go_sem, ↓reduceIte, Nat.reduceAdd, Nat.reduceMul, Nat.reduceSub, Nat.reduceLT, Nat.reduceLeDiff, Nat.reduceEqDiff, Int.reduceToNat, Int.reduceEq, Int.reduceLT, Int.reduceLE, reduceCtorEq, Gfa_eq, hwj, hrl, h2, rI_len, hkw, k1, hm, hk, hn', hal, hla]
                    refine ⟨⟨by omega, by omega, by omega, _, rfl⟩, by omega, ?_⟩
                    refine loopF Nat (fun k => [.int .i64 k, .vec 5 (rsF l s.rds j k).length]) (fun k => [.blk 29 (dEs.emb l), .blk 102 (dRows.emb (rowsOf l.length (aheadR l))), .vec 47 3 ((flT l x (j + 1)).map dFl.emb), .vec 3 1 ((rI s).map DT.int.emb), .blk 35 (dEv.emb (l.getD j dEv.dft)), .vec 3 1 ((rsF l s.rds j k).map DT.int.emb)]) (fun k => k ≤ s.rds.length) (fun k => s.rds.length - k) 0 (by omega) ?_ ?_ ?_
                    · simp only [go_sem, ↓reduceIte, Nat.reduceAdd, Nat.reduceMul, Nat.reduceSub, Nat.reduceLT, Nat.reduceLeDiff, Nat.reduceEqDiff, Int.reduceToNat, Int.reduceEq, Int.reduceLT, Int.reduceLE, reduceCtorEq]
                      rfl
                    · rw [hfl]
                      first | (rw [hevk]; rfl) | (rw [hevk, List.map_append]; rfl)
                    intro k hk
                    by_cases h4 : k < s.rds.length
                    · have h4' : (k : Int) < s.rds.length := by omega
                      have hwk : IntKind.i64.wrap ((k : Int) + 1) = ((k + 1 : Nat) : Int) := IntWalk.i64_in _ (by omega)
                      have hr := rI_get h4
                      have hr2 : s.rds.getD k 0 < j := g3 _ (by simp [List.getD, h4])
                      have hr3 : s.rds.getD k 0 < l.length := by omega
                      have hrs := rsF_len (l := l) (rds := s.rds) (j := j) k
                      unfold j19_2
                      simp only [go_sem, ↓reduceIte, Nat.reduceAdd, Nat.reduceMul, Nat.reduceSub, Nat.reduceLT, Nat.reduceLeDiff, Nat.reduceEqDiff, Int.reduceToNat, Int.reduceEq, Int.reduceLT, Int.reduceLE, reduceCtorEq, Gfa_eq, h4, h4', hwk, hr, hr3, h2, rI_len]
                      refine ⟨by omega, ⟨by omega, by omega⟩, fun q => ⟨by omega, k + 1, by omega, by omega, ⟨rfl, by rw [rsF_ne h4 q, List.length_append]; rfl⟩, by rw [rsF_ne h4 q, List.map_append]; rfl⟩, fun q => ⟨k + 1, by omega, by omega, ⟨rfl, by rw [rsF_eq h4 q]⟩, by rw [rsF_eq h4 q]⟩⟩
                    have h4' : ¬ (k : Int) < s.rds.length := by omega
                    have e : k = s.rds.length := by omega
                    subst e
                    have hrs := rsF_len (l := l) (rds := s.rds) (j := j) s.rds.length
                    unfold j19_2
                    simp only [go_sem, ↓reduceIte, Nat.reduceAdd, Nat.reduceMul, Nat.reduceSub, Nat.reduceLT, Nat.reduceLeDiff, Nat.reduceEqDiff, Int.reduceToNat, Int.reduceEq, Int.reduceLT, Int.reduceLE, reduceCtorEq, h4', rI_len]
                    unfold j19_3
                    simp only [go_sem, ↓reduceIte, Nat.reduceAdd, Nat.reduceMul, Nat.reduceSub, Nat.reduceLT, Nat.reduceLeDiff, Nat.reduceEqDiff, Int.reduceToNat, Int.reduceEq, Int.reduceLT, Int.reduceLE, reduceCtorEq, hwj]
                    have hwS : IntKind.i64.wrap ((S : Int) + 1) = ((S + 1 : Nat) : Int) := IntWalk.i64_in _ (by omega)
                    exact ⟨by omega, ⟨(j + 1, true, rsF l s.rds j s.rds.length ++ [(j : Int)]), ⟨by omega, fun _ => (by rw [hst]; simp [rI, rsF]), fun h => (by cases h)⟩, by omega, ⟨rfl, by rw [if_pos rfl, List.length_append]; rfl, by rw [hst]; try first | rfl | exact hm.symm, by rw [hst]; try rfl, by rw [hfl]; try simp, by rw [hsl]; try first | rfl | (simp; done) | exact hwS⟩, by rw [List.map_append]; rfl⟩⟩
                | true =>
                  cases hla : lateB l s.rds j with
                  | false =>
                    have e1 : stF l x s j = ⟨s.wr, [j], false⟩ := by rw [stF, if_neg hsk, if_pos k1', if_neg hsa, if_pos ⟨hm, hla⟩]
                    have e2 : fkF l x s j = 0 := by rw [fkF, if_neg hsk, if_pos k1', if_neg hsa, if_pos hk]
                    have e3 : slF l x s j = 0 := by rw [slF, if_neg hsk, if_pos k1', if_neg hsa, if_neg (fun h => by rw [hla] at h; exact absurd h.2 (by decide))]
                    rw [e1] at hst
                    rw [e2, if_pos rfl, List.append_nil] at hfl
                    rw [e3] at hsl
                    unfold j19_5
                    simp only [go_sem, ↓reduceIte, Nat.reduceAdd, Nat.reduceMul, Nat.reduceSub, Nat.reduceLT, Nat.reduceLeDiff, Nat.reduceEqDiff, Int.reduceToNat, Int.reduceEq, Int.reduceLT, Int.reduceLE, reduceCtorEq, Gfa_eq, hwj, hrl, h2, rI_len, hkw, k1, hm, hk, hn', hal, hla]
                    exact ⟨⟨by omega, by omega, by omega, _, rfl⟩, ⟨(j + 1, true, [(j : Int)]), ⟨by omega, fun _ => (by rw [hst]; rfl), fun h => (by cases h)⟩, by omega, ⟨rfl, rfl, by rw [hst]; try first | rfl | exact hm.symm, by rw [hst]; try rfl, by rw [hfl]; try simp, by rw [hsl]; try first | rfl | (simp; done) | (simp; omega)⟩, by rw [hfl]; try first | rfl | (rw [List.map_append]; rfl)⟩⟩
                  | true =>
                    have e1 : stF l x s j = ⟨s.wr, s.rds.filter (fun i => !decide ((at' l i).thr = (at' l j).thr)) ++ [j], true⟩ := by rw [stF, if_neg hsk, if_pos k1', if_neg hsa, if_neg (fun h => by rw [hla] at h; exact absurd h.2 (by decide))]
                    have e2 : fkF l x s j = 0 := by rw [fkF, if_neg hsk, if_pos k1', if_neg hsa, if_pos hk]
                    have e3 : slF l x s j = 1 := by rw [slF, if_neg hsk, if_pos k1', if_neg hsa, if_pos ⟨hm, hla⟩]
                    rw [e1] at hst
                    rw [e2, if_pos rfl, List.append_nil] at hfl
                    rw [e3] at hsl
                    unfold j19_5
                    simp only [go_sem, ↓reduceIte, Nat.reduceAdd, Nat.reduceMul, Nat.reduceSub, Nat.reduceLT, Nat.reduceLeDiff, Nat.reduceEqDiff, Int.reduceToNat, Int.reduceEq, Int.reduceLT, Int.reduceLE, reduceCtorEq, Gfa_eq, hwj, hrl, h2, rI_len, hkw, k1, hm, hk, hn', hal, hla]
                    refine ⟨⟨by omega, by omega, by omega, _, rfl⟩, ?_⟩
                    refine loopF Nat (fun k => [.int .i64 k, .vec 5 (rsF l s.rds j k).length]) (fun k => [.blk 29 (dEs.emb l), .blk 102 (dRows.emb (rowsOf l.length (aheadR l))), .vec 47 3 ((flT l x (j + 1)).map dFl.emb), .vec 3 1 ((rI s).map DT.int.emb), .blk 35 (dEv.emb (l.getD j dEv.dft)), .vec 3 1 ((rsF l s.rds j k).map DT.int.emb)]) (fun k => k ≤ s.rds.length) (fun k => s.rds.length - k) 0 (by omega) ?_ ?_ ?_
                    · simp only [go_sem, ↓reduceIte, Nat.reduceAdd, Nat.reduceMul, Nat.reduceSub, Nat.reduceLT, Nat.reduceLeDiff, Nat.reduceEqDiff, Int.reduceToNat, Int.reduceEq, Int.reduceLT, Int.reduceLE, reduceCtorEq]
                      rfl
                    · rw [hfl]
                      first | (rw [hevk]; rfl) | (rw [hevk, List.map_append]; rfl)
                    intro k hk
                    by_cases h4 : k < s.rds.length
                    · have h4' : (k : Int) < s.rds.length := by omega
                      have hwk : IntKind.i64.wrap ((k : Int) + 1) = ((k + 1 : Nat) : Int) := IntWalk.i64_in _ (by omega)
                      have hr := rI_get h4
                      have hr2 : s.rds.getD k 0 < j := g3 _ (by simp [List.getD, h4])
                      have hr3 : s.rds.getD k 0 < l.length := by omega
                      have hrs := rsF_len (l := l) (rds := s.rds) (j := j) k
                      unfold j19_2
                      simp only [go_sem, ↓reduceIte, Nat.reduceAdd, Nat.reduceMul, Nat.reduceSub, Nat.reduceLT, Nat.reduceLeDiff, Nat.reduceEqDiff, Int.reduceToNat, Int.reduceEq, Int.reduceLT, Int.reduceLE, reduceCtorEq, Gfa_eq, h4, h4', hwk, hr, hr3, h2, rI_len]
                      refine ⟨by omega, ⟨by omega, by omega⟩, fun q => ⟨by omega, k + 1, by omega, by omega, ⟨rfl, by rw [rsF_ne h4 q, List.length_append]; rfl⟩, by rw [rsF_ne h4 q, List.map_append]; rfl⟩, fun q => ⟨k + 1, by omega, by omega, ⟨rfl, by rw [rsF_eq h4 q]⟩, by rw [rsF_eq h4 q]⟩⟩
                    have h4' : ¬ (k : Int) < s.rds.length := by omega
                    have e : k = s.rds.length := by omega
                    subst e
                    have hrs := rsF_len (l := l) (rds := s.rds) (j := j) s.rds.length
                    unfold j19_2
                    simp only [go_sem, ↓reduceIte, Nat.reduceAdd, Nat.reduceMul, Nat.reduceSub, Nat.reduceLT, Nat.reduceLeDiff, Nat.reduceEqDiff, Int.reduceToNat, Int.reduceEq, Int.reduceLT, Int.reduceLE, reduceCtorEq, h4', rI_len]
                    unfold j19_3
                    simp only [go_sem, ↓reduceIte, Nat.reduceAdd, Nat.reduceMul, Nat.reduceSub, Nat.reduceLT, Nat.reduceLeDiff, Nat.reduceEqDiff, Int.reduceToNat, Int.reduceEq, Int.reduceLT, Int.reduceLE, reduceCtorEq, hwj]
                    have hwS : IntKind.i64.wrap ((S : Int) + 1) = ((S + 1 : Nat) : Int) := IntWalk.i64_in _ (by omega)
                    exact ⟨by omega, ⟨(j + 1, true, rsF l s.rds j s.rds.length ++ [(j : Int)]), ⟨by omega, fun _ => (by rw [hst]; simp [rI, rsF]), fun h => (by cases h)⟩, by omega, ⟨rfl, by rw [if_pos rfl, List.length_append]; rfl, by rw [hst]; try first | rfl | exact hm.symm, by rw [hst]; try rfl, by rw [hfl]; try simp, by rw [hsl]; try first | rfl | (simp; done) | exact hwS⟩, by rw [List.map_append]; rfl⟩⟩
        · have k1 : ¬ (l.getD j dEv.dft).kind = 1 := by omega
          have k1' : ¬ (at' l j).kind = 1 := k1
          cases hep : epW l s.wr j with
          | true =>
            have e1 : stF l x s j = s := by rw [stF, if_neg hsk, if_neg k1', if_pos hep]
            have e2 : fkF l x s j = 0 := by rw [fkF, if_neg hsk, if_neg k1', if_pos hep]
            have e3 : slF l x s j = 0 := by rw [slF, if_neg hsk, if_neg k1']
            rw [e1] at hst
            rw [e2, if_pos rfl, List.append_nil] at hfl
            rw [e3] at hsl
            unfold j19_5
            simp only [go_sem, ↓reduceIte, Nat.reduceAdd, Nat.reduceMul, Nat.reduceSub, Nat.reduceLT, Nat.reduceLeDiff, Nat.reduceEqDiff, Int.reduceToNat, Int.reduceEq, Int.reduceLT, Int.reduceLE, reduceCtorEq, Gfa_eq, hwj, hrl, h2, rI_len, hkw, k1, hep, hal]
            exact ⟨⟨by omega, by omega, by omega, by omega⟩, ⟨(j + 1, true, rI s), ⟨by omega, fun _ => (by rw [hst]), fun h => (by cases h)⟩, by omega, ⟨rfl, by rw [if_pos rfl, rI_len], by rw [hst]; try first | rfl | exact hm.symm, by rw [hst]; try rfl, by rw [hfl]; try simp, by rw [hsl]; try first | rfl | (simp; done) | (simp; omega)⟩, by rw [hfl]; try first | rfl | (rw [List.map_append]; rfl)⟩⟩
          | false =>
            cases hm : s.mn with
            | false =>
              cases hk : knW l s.wr j with
              | false =>
                have e1 : stF l x s j = ⟨j, s.rds, false⟩ := by rw [stF, if_neg hsk, if_neg k1', if_neg (by rw [hep]; simp), if_neg (by rw [hm]; simp)]
                have e2 : fkF l x s j = 1 := by rw [fkF, if_neg hsk, if_neg k1', if_neg (by rw [hep]; simp), if_pos hk]
                have e3 : slF l x s j = 0 := by rw [slF, if_neg hsk, if_neg k1']
                rw [e1] at hst
                rw [e2, if_neg (by decide)] at hfl
                rw [e3] at hsl
                unfold j19_5
                simp only [go_sem, ↓reduceIte, Nat.reduceAdd, Nat.reduceMul, Nat.reduceSub, Nat.reduceLT, Nat.reduceLeDiff, Nat.reduceEqDiff, Int.reduceToNat, Int.reduceEq, Int.reduceLT, Int.reduceLE, reduceCtorEq, Gfa_eq, hwj, hrl, h2, rI_len, hkw, k1, hep, hk, hm, hal]
                exact ⟨⟨by omega, by omega, by omega, by omega⟩, ⟨by omega, by omega, by omega, _, rfl⟩, by omega, ⟨(j + 1, true, rI s), ⟨by omega, fun _ => (by rw [hst]; rfl), fun h => (by cases h)⟩, by omega, ⟨rfl, by rw [if_pos rfl, rI_len], by rw [hst]; try first | rfl | exact hm.symm, by rw [hst]; try rfl, by rw [hfl]; try simp, by rw [hsl]; try first | rfl | (simp; done) | (simp; omega)⟩, by rw [hfl]; try first | rfl | (rw [List.map_append]; rfl)⟩⟩
              | true =>
                cases hla : lateB l s.rds j with
                | false =>
                  have e1 : stF l x s j = ⟨j, s.rds, false⟩ := by rw [stF, if_neg hsk, if_neg k1', if_neg (by rw [hep]; simp), if_neg (by rw [hm]; simp)]
                  have e2 : fkF l x s j = 0 := by rw [fkF, if_neg hsk, if_neg k1', if_neg (by rw [hep]; simp), if_neg (by rw [hk]; simp), if_neg (by rw [hla]; simp)]
                  have e3 : slF l x s j = 0 := by rw [slF, if_neg hsk, if_neg k1']
                  rw [e1] at hst
                  rw [e2, if_pos rfl, List.append_nil] at hfl
                  rw [e3] at hsl
                  unfold j19_5
                  simp only [go_sem, ↓reduceIte, Nat.reduceAdd, Nat.reduceMul, Nat.reduceSub, Nat.reduceLT, Nat.reduceLeDiff, Nat.reduceEqDiff, Int.reduceToNat, Int.reduceEq, Int.reduceLT, Int.reduceLE, reduceCtorEq, Gfa_eq, hwj, hrl, h2, rI_len, hkw, k1, hep, hk, hm, hla, hal]
                  exact ⟨⟨by omega, by omega, by omega, by omega⟩, ⟨by omega, by omega, by omega, _, rfl⟩, ⟨(j + 1, true, rI s), ⟨by omega, fun _ => (by rw [hst]; rfl), fun h => (by cases h)⟩, by omega, ⟨rfl, by rw [if_pos rfl, rI_len], by rw [hst]; try first | rfl | exact hm.symm, by rw [hst]; try rfl, by rw [hfl]; try simp, by rw [hsl]; try first | rfl | (simp; done) | (simp; omega)⟩, by rw [hfl]; try first | rfl | (rw [List.map_append]; rfl)⟩⟩
                | true =>
                  have e1 : stF l x s j = ⟨j, s.rds, false⟩ := by rw [stF, if_neg hsk, if_neg k1', if_neg (by rw [hep]; simp), if_neg (by rw [hm]; simp)]
                  have e2 : fkF l x s j = 3 := by rw [fkF, if_neg hsk, if_neg k1', if_neg (by rw [hep]; simp), if_neg (by rw [hk]; simp), if_pos hla]
                  have e3 : slF l x s j = 0 := by rw [slF, if_neg hsk, if_neg k1']
                  rw [e1] at hst
                  rw [e2, if_neg (by decide)] at hfl
                  rw [e3] at hsl
                  unfold j19_5
                  simp only [go_sem, ↓reduceIte, Nat.reduceAdd, Nat.reduceMul, Nat.reduceSub, Nat.reduceLT, Nat.reduceLeDiff, Nat.reduceEqDiff, Int.reduceToNat, Int.reduceEq, Int.reduceLT, Int.reduceLE, reduceCtorEq, Gfa_eq, hwj, hrl, h2, rI_len, hkw, k1, hep, hk, hm, hla, hal]
                  exact ⟨⟨by omega, by omega, by omega, by omega⟩, ⟨by omega, by omega, by omega, _, rfl⟩, by omega, ⟨(j + 1, true, rI s), ⟨by omega, fun _ => (by rw [hst]; rfl), fun h => (by cases h)⟩, by omega, ⟨rfl, by rw [if_pos rfl, rI_len], by rw [hst]; try first | rfl | exact hm.symm, by rw [hst]; try rfl, by rw [hfl]; try simp, by rw [hsl]; try first | rfl | (simp; done) | (simp; omega)⟩, by rw [hfl]; try first | rfl | (rw [List.map_append]; rfl)⟩⟩
            | true =>
              cases hk : knW l s.wr j with
              | false =>
                have e1 : stF l x s j = ⟨j, [], false⟩ := by rw [stF, if_neg hsk, if_neg k1', if_neg (by rw [hep]; simp), if_pos hm]
                have e2 : fkF l x s j = 1 := by rw [fkF, if_neg hsk, if_neg k1', if_neg (by rw [hep]; simp), if_pos hk]
                have e3 : slF l x s j = 0 := by rw [slF, if_neg hsk, if_neg k1']
                rw [e1] at hst
                rw [e2, if_neg (by decide)] at hfl
                rw [e3] at hsl
                unfold j19_5
                simp only [go_sem, ↓reduceIte, Nat.reduceAdd, Nat.reduceMul, Nat.reduceSub, Nat.reduceLT, Nat.reduceLeDiff, Nat.reduceEqDiff, Int.reduceToNat, Int.reduceEq, Int.reduceLT, Int.reduceLE, reduceCtorEq, Gfa_eq, hwj, hrl, h2, rI_len, hkw, k1, hep, hk, hm, hal]
                exact ⟨⟨by omega, by omega, by omega, by omega⟩, ⟨by omega, by omega, by omega, _, rfl⟩, by omega, ⟨(j + 1, false, rI s), ⟨by omega, fun h => (by cases h), fun _ => (by rw [hst]; exact ⟨rfl, by first | rfl | exact hm⟩)⟩, by omega, ⟨rfl, rfl, by rw [hst]; try first | rfl | exact hm.symm, by rw [hst]; try rfl, by rw [hfl]; try simp, by rw [hsl]; try first | rfl | (simp; done) | (simp; omega)⟩, by rw [hfl]; try first | rfl | (rw [List.map_append]; rfl)⟩⟩
              | true =>
                cases hla : lateB l s.rds j with
                | false =>
                  have e1 : stF l x s j = ⟨j, [], false⟩ := by rw [stF, if_neg hsk, if_neg k1', if_neg (by rw [hep]; simp), if_pos hm]
                  have e2 : fkF l x s j = 0 := by rw [fkF, if_neg hsk, if_neg k1', if_neg (by rw [hep]; simp), if_neg (by rw [hk]; simp), if_neg (by rw [hla]; simp)]
                  have e3 : slF l x s j = 0 := by rw [slF, if_neg hsk, if_neg k1']
                  rw [e1] at hst
                  rw [e2, if_pos rfl, List.append_nil] at hfl
                  rw [e3] at hsl
                  unfold j19_5
                  simp only [go_sem, ↓reduceIte, Nat.reduceAdd, Nat.reduceMul, Nat.reduceSub, Nat.reduceLT, Nat.reduceLeDiff, Nat.reduceEqDiff, Int.reduceToNat, Int.reduceEq, Int.reduceLT, Int.reduceLE, reduceCtorEq, Gfa_eq, hwj, hrl, h2, rI_len, hkw, k1, hep, hk, hm, hla, hal]
                  exact ⟨⟨by omega, by omega, by omega, by omega⟩, ⟨by omega, by omega, by omega, _, rfl⟩, ⟨(j + 1, false, rI s), ⟨by omega, fun h => (by cases h), fun _ => (by rw [hst]; exact ⟨rfl, by first | rfl | exact hm⟩)⟩, by omega, ⟨rfl, rfl, by rw [hst]; try first | rfl | exact hm.symm, by rw [hst]; try rfl, by rw [hfl]; try simp, by rw [hsl]; try first | rfl | (simp; done) | (simp; omega)⟩, by rw [hfl]; try first | rfl | (rw [List.map_append]; rfl)⟩⟩
                | true =>
                  have e1 : stF l x s j = ⟨j, [], false⟩ := by rw [stF, if_neg hsk, if_neg k1', if_neg (by rw [hep]; simp), if_pos hm]
                  have e2 : fkF l x s j = 3 := by rw [fkF, if_neg hsk, if_neg k1', if_neg (by rw [hep]; simp), if_neg (by rw [hk]; simp), if_pos hla]
                  have e3 : slF l x s j = 0 := by rw [slF, if_neg hsk, if_neg k1']
                  rw [e1] at hst
                  rw [e2, if_neg (by decide)] at hfl
                  rw [e3] at hsl
                  unfold j19_5
                  simp only [go_sem, ↓reduceIte, Nat.reduceAdd, Nat.reduceMul, Nat.reduceSub, Nat.reduceLT, Nat.reduceLeDiff, Nat.reduceEqDiff, Int.reduceToNat, Int.reduceEq, Int.reduceLT, Int.reduceLE, reduceCtorEq, Gfa_eq, hwj, hrl, h2, rI_len, hkw, k1, hep, hk, hm, hla, hal]
                  exact ⟨⟨by omega, by omega, by omega, by omega⟩, ⟨by omega, by omega, by omega, _, rfl⟩, by omega, ⟨(j + 1, false, rI s), ⟨by omega, fun h => (by cases h), fun _ => (by rw [hst]; exact ⟨rfl, by first | rfl | exact hm⟩)⟩, by omega, ⟨rfl, rfl, by rw [hst]; try first | rfl | exact hm.symm, by rw [hst]; try rfl, by rw [hfl]; try simp, by rw [hsl]; try first | rfl | (simp; done) | (simp; omega)⟩, by rw [hfl]; try first | rfl | (rw [List.map_append]; rfl)⟩⟩
--END
    · have h2' : ¬ (j : Int) < l.length := by omega
      have e : j = l.length := by omega
      subst e
      unfold j19_6
      simp only [go_sem, ↓reduceIte, Nat.reduceAdd, Nat.reduceMul, Nat.reduceSub, Nat.reduceLT, Nat.reduceLeDiff, Nat.reduceEqDiff, Int.reduceToNat, Int.reduceEq, Int.reduceLT, Int.reduceLE, reduceCtorEq, h2']
      unfold j19_7
      simp only [go_sem, ↓reduceIte, Nat.reduceAdd, Nat.reduceMul, Nat.reduceSub, Nat.reduceLT, Nat.reduceLeDiff, Nat.reduceEqDiff, Int.reduceToNat, Int.reduceEq, Int.reduceLT, Int.reduceLE, reduceCtorEq, hwx]
      exact ⟨x + 1, by omega, by omega, ⟨rfl, rfl, rfl⟩, rfl⟩
  · have h1' : ¬ (x : Int) < 8 := by omega
    have e : x = 8 := by omega
    subst e
    unfold j19_8
    simp only [go_sem, ↓reduceIte, Nat.reduceAdd, Nat.reduceMul, Nat.reduceSub, Nat.reduceLT, Nat.reduceLeDiff, Nat.reduceEqDiff, Int.reduceToNat, Int.reduceEq, Int.reduceLT, Int.reduceLE, reduceCtorEq]
    unfold j19_13
    simp only [go_sem, ↓reduceIte, Nat.reduceAdd, Nat.reduceMul, Nat.reduceSub, Nat.reduceLT, Nat.reduceLeDiff, Nat.reduceEqDiff, Int.reduceToNat, Int.reduceEq, Int.reduceLT, Int.reduceLE, reduceCtorEq]
    generalize flA l 8 = F at *
    refine loopF Nat (fun j => [.int .i64 j, .vec 3 (outA l F j).length]) (fun j => [.blk 29 (dEs.emb l), .blk 102 (dRows.emb (rowsOf l.length (aheadR l))), .vec 47 3 (F.map dFl.emb), .vec 47 3 ((outA l F j).map dFl.emb)]) (fun j => j ≤ l.length) (fun j => l.length - j) 0 (by omega) ?_ rfl ?_
    · simp only [go_sem, ↓reduceIte, Nat.reduceAdd, Nat.reduceMul, Nat.reduceSub, Nat.reduceLT, Nat.reduceLeDiff, Nat.reduceEqDiff, Int.reduceToNat, Int.reduceEq, Int.reduceLT, Int.reduceLE, reduceCtorEq]
      rfl
    intro j hj
    have hO := outA_len (l := l) (F := F) j
    have hO8 : j * F.length ≤ 80 * 640 := Nat.mul_le_mul (by omega) (by omega)
    by_cases h2 : j < l.length
    · have h2' : (j : Int) < l.length := by omega
      have hwj : IntKind.i64.wrap ((j : Int) + 1) = ((j + 1 : Nat) : Int) := IntWalk.i64_in _ (by omega)
      unfold j19_11
      simp only [go_sem, ↓reduceIte, Nat.reduceAdd, Nat.reduceMul, Nat.reduceSub, Nat.reduceLT, Nat.reduceLeDiff, Nat.reduceEqDiff, Int.reduceToNat, Int.reduceEq, Int.reduceLT, Int.reduceLE, reduceCtorEq, h2']
      refine loopF Nat (fun i => [.int .i64 i, .vec 3 (oI l F j i).length]) (fun i => [.blk 29 (dEs.emb l), .blk 102 (dRows.emb (rowsOf l.length (aheadR l))), .vec 47 3 (F.map dFl.emb), .vec 47 3 ((oI l F j i).map dFl.emb)]) (fun i => i ≤ F.length) (fun i => F.length - i) 0 (by omega) ?_ ?_ ?_
      · simp only [go_sem, ↓reduceIte, Nat.reduceAdd, Nat.reduceMul, Nat.reduceSub, Nat.reduceLT, Nat.reduceLeDiff, Nat.reduceEqDiff, Int.reduceToNat, Int.reduceEq, Int.reduceLT, Int.reduceLE, reduceCtorEq]
        rw [oI_0]
      · rw [oI_0]
        rfl
      intro i hi
      by_cases h3 : i < F.length
      · have h3' : (i : Int) < F.length := by omega
        have hwi : IntKind.i64.wrap ((i : Int) + 1) = ((i + 1 : Nat) : Int) := IntWalk.i64_in _ (by omega)
        have hfg := fl_getD h3
        have hoI := oI_len (l := l) (F := F) (j := j) i
        unfold j19_9
        simp only [go_sem, ↓reduceIte, Nat.reduceAdd, Nat.reduceMul, Nat.reduceSub, Nat.reduceLT, Nat.reduceLeDiff, Nat.reduceEqDiff, Int.reduceToNat, Int.reduceEq, Int.reduceLT, Int.reduceLE, reduceCtorEq, h3', h3, hwi, hfg]
        exact ⟨by omega, fun q => ⟨by omega, i + 1, by omega, by omega, ⟨rfl, by rw [oI_yes h3 q, List.length_append]; rfl⟩, by rw [oI_yes h3 q, List.map_append]; rfl⟩, fun q => ⟨i + 1, by omega, by omega, ⟨rfl, by rw [oI_no h3 q]⟩, by rw [oI_no h3 q]⟩⟩
      · have h3' : ¬ (i : Int) < F.length := by omega
        have e : i = F.length := by omega
        subst e
        unfold j19_9
        simp only [go_sem, ↓reduceIte, Nat.reduceAdd, Nat.reduceMul, Nat.reduceSub, Nat.reduceLT, Nat.reduceLeDiff, Nat.reduceEqDiff, Int.reduceToNat, Int.reduceEq, Int.reduceLT, Int.reduceLE, reduceCtorEq, h3']
        unfold j19_10
        simp only [go_sem, ↓reduceIte, Nat.reduceAdd, Nat.reduceMul, Nat.reduceSub, Nat.reduceLT, Nat.reduceLeDiff, Nat.reduceEqDiff, Int.reduceToNat, Int.reduceEq, Int.reduceLT, Int.reduceLE, reduceCtorEq, hwj]
        exact ⟨j + 1, by omega, by omega, ⟨rfl, by rw [oI_n]⟩, by rw [oI_n]⟩
    · have h2' : ¬ (j : Int) < l.length := by omega
      have e : j = l.length := by omega
      subst e
      unfold j19_11
      simp only [go_sem, ↓reduceIte, Nat.reduceAdd, Nat.reduceMul, Nat.reduceSub, Nat.reduceLT, Nat.reduceLeDiff, Nat.reduceEqDiff, Int.reduceToNat, Int.reduceEq, Int.reduceLT, Int.reduceLE, reduceCtorEq, h2']
      unfold j19_12
      simp only [go_sem, ↓reduceIte, Nat.reduceAdd, Nat.reduceMul, Nat.reduceSub, Nat.reduceLT, Nat.reduceLeDiff, Nat.reduceEqDiff, Int.reduceToNat, Int.reduceEq, Int.reduceLT, Int.reduceLE, reduceCtorEq]
end Go.Proofs.Ytgcbhanfhnianaa.Fa
