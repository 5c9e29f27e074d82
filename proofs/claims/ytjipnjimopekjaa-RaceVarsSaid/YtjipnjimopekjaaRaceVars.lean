/- THE LAW 'RaceVars' HANDS BACK TRUE, AND WHAT IT READS STANDS AS IT DID: FOR EVERY START. Conditions: none. -/
import Derived.Test.YtjipnjimopekjaaRaceF
import Derived.Test.YtjipnjimopekjaaSecR
import Derived.Test.YtjipnjimopekjaaEqs
import Derived.WalkKit
import Derived.ProofKit
import Derived.OpenShut
import Derived.Leaving
import Derived.Conc.Holds
set_option linter.unusedSimpArgs false
set_option linter.unusedVariables false
set_option maxRecDepth 100000
open Go Go.Sx Go.Proofs Go.ChangeShapes Go.WideShapes Go.ChangeAt Go.RowKit
namespace Go.Proofs.Ytjipnjimopekjaa.RaceVars
open Go.Proofs.Ytjipnjimopekjaa.D Go.Proofs.Ytjipnjimopekjaa.Tr Go.Proofs.Ytjipnjimopekjaa.Ah Go.Proofs.Ytjipnjimopekjaa.Rc Go.Proofs.Ytjipnjimopekjaa.Eqs Go.Proofs.Ytjipnjimopekjaa.Hs
def j6_1 : JC :=
  (.seq (.ops <|
  qo 78 (.cmp .lss (.t 77) (.t 76)) <|
  .nil)
  (.prune [78, 75, 77, 16, 13, 76, 71, 0, 1, 15, 5, 7, 8, 9, 11, 14] (.seq (.cond (.t 78)
  .skip
  (.exit 2))
  (.prune [75, 77, 16, 13, 76, 71, 0, 1, 15, 5, 7, 8, 9, 11, 14] (.seq (.block 3 (.seq (.ops <|
  qo 79 (.is 4 (.t 75) (.t 77)) <|
  eo 80 (.load 4 true (.t 79)) <|
  eo 18 (.alloc 58 (.agg [(.int .i64 0), (.int .i64 0), (.int .i64 0), (.int .i64 0)])) <|
  en (.store 4 (.t 18) (.t 80)) <|
  .nil)
  (.prune [18, 16, 13, 77, 76, 75, 71, 0, 1, 15, 5, 7, 8, 9, 11, 14] (.seq (.ops <|
  qo 81 (.fa 2 2 (.t 18)) <|
  eo 82 (.load 1 false (.t 81)) <|
  qo 83 (.mv (.t 16)) <|
  qo 84 (.cmp .eql (.t 82) (.t 83)) <|
  .prune [84, 13, 16, 77, 76, 75, 71, 0, 1, 15, 5, 7, 8, 9, 11, 14] <|
  qo 85 (.mv (.t 84)) <|
  .sc false 90 85 (qo 86 (.mv (.t 13)) <|
  qo 87 (.mv (.t 16)) <|
  eo 88 (.call 30 [(.t 86), (.t 87)]) <|
  qo 89 (.nt (.t 88)) <|
  .nil) (.t 89) <|
  .nil)
  (.prune [90, 13, 16, 77, 76, 75, 71, 0, 1, 15, 5, 7, 8, 9, 11, 14] (.cond (.t 90)
  (.ops <|
  qo 91 (.mv (.t 13)) <|
  qo 92 (.mv (.t 16)) <|
  eo 93 (.bsl 3 1 1 (.int .i64 0) [(0, (.t 92))]) <|
  eo 94 (.app 3 1 8 (.t 91) (.t 93)) <|
  qo 13 (.mv (.t 94)) <|
  .nil)
  .skip))))))
  (.prune [77, 76, 75, 16, 13, 71, 0, 1, 15, 5, 7, 8, 9, 11, 14] (.ops <|
  qo 95 (.ar .add (.t 77) (I 1)) <|
  qo 77 (.mv (.t 95)) <|
  .nil)))))))
def j6_2 : JC :=
  (.prune [71, 0, 13, 1, 15, 5, 7, 8, 9, 11, 14] (.ops <|
  qo 96 (.ar .add (.t 71) (I 1)) <|
  qo 71 (.mv (.t 96)) <|
  .nil))
def j6_3 : JC :=
  (.seq (.ops <|
  qo 72 (.cmp .lss (.t 71) (I 8)) <|
  .nil)
  (.prune [72, 71, 0, 13, 1, 15, 5, 7, 8, 9, 11, 14] (.seq (.cond (.t 72)
  .skip
  (.exit 0))
  (.prune [71, 0, 13, 1, 15, 5, 7, 8, 9, 11, 14] (.seq (.block 1 (.seq (.ops <|
  qo 73 (.mv (.t 71)) <|
  qo 16 (.mv (.t 73)) <|
  .nil)
  (.prune [0, 16, 13, 71, 1, 15, 5, 7, 8, 9, 11, 14] (.seq (.ops <|
  qo 74 (.mv (.t 0)) <|
  eo 75 (.call 29 [(.t 74)]) <|
  qo 76 (.len (.t 75)) <|
  qo 77 (.mv (I 0)) <|
  .nil)
  (.prune [77, 76, 75, 16, 13, 71, 0, 1, 15, 5, 7, 8, 9, 11, 14] (.block 2 (.vecs 13 3 1 (.loop [76, 75, 16, 71, 0, 1, 15, 5, 7, 8, 9, 11, 14] [77, 13] j6_1))))))))
  j6_2)))))
def j6_4 : JC :=
  (.seq (.ops <|
  qo 101 (.cmp .lss (.t 100) (.t 99)) <|
  .nil)
  (.prune [101, 98, 100, 0, 1, 15, 99, 5, 13, 7, 8, 9, 11, 14] (.seq (.cond (.t 101)
  .skip
  (.exit 4))
  (.prune [98, 100, 0, 1, 15, 99, 5, 13, 7, 8, 9, 11, 14] (.seq (.block 5 (.seq (.ops <|
  qo 102 (.is 1 (.t 98) (.t 100)) <|
  eo 103 (.load 1 false (.t 102)) <|
  qo 20 (.mv (.t 103)) <|
  .nil)
  (.prune [0, 20, 1, 15, 100, 99, 98, 5, 13, 7, 8, 9, 11, 14] (.seq (.ops <|
  qo 104 (.mv (.t 0)) <|
  qo 105 (.mv (.t 20)) <|
  qo 106 (.is 3 (.t 104) (.t 105)) <|
  qo 107 (.fa 2 2 (.t 106)) <|
  .prune [107, 1, 15, 20, 100, 99, 98, 0, 5, 13, 7, 8, 9, 11, 14] <|
  eo 108 (.load 1 false (.t 107)) <|
  qo 109 (.mv (.t 1)) <|
  qo 110 (.cmp .eql (.t 108) (.t 109)) <|
  .prune [110, 15, 20, 100, 99, 98, 0, 1, 5, 13, 7, 8, 9, 11, 14] <|
  qo 111 (.mv (.t 110)) <|
  .sc false 114 111 (qo 112 (.mv (.t 15)) <|
  qo 113 (.nt (.t 112)) <|
  .nil) (.t 113) <|
  .nil)
  (.prune [114, 20, 100, 99, 98, 0, 1, 5, 13, 7, 8, 9, 11, 15, 14] (.cond (.t 114)
  (.ops <|
  .prune [20, 100, 99, 98, 0, 1, 5, 13, 7, 8, 9, 11] <|
  qo 115 (.mv (.t 20)) <|
  qo 14 (.mv (.t 115)) <|
  qo 15 (.mv (B true)) <|
  .nil)
  .skip))))))
  (.prune [100, 99, 98, 0, 1, 15, 5, 13, 7, 8, 9, 11, 14] (.ops <|
  qo 116 (.ar .add (.t 100) (I 1)) <|
  qo 100 (.mv (.t 116)) <|
  .nil)))))))
def j6_5 : JC :=
  (.prune [1, 5, 13, 7, 8, 9, 11, 14, 15] (.seq (.seq (.ops <|
  qo 117 (.mv (.t 1)) <|
  qo 118 (.cmp .lss (.t 117) (I 0)) <|
  qo 119 (.mv (.t 118)) <|
  .sc true 122 119 (qo 120 (.mv (.t 1)) <|
  qo 121 (.cmp .gtr (.t 120) (I 7)) <|
  .nil) (.t 121) <|
  .nil)
  (.prune [122, 5, 13, 7, 8, 9, 11, 14, 15] (.cond (.t 122)
  (.seq (.ops <|
  .prune [5, 13, 7, 8, 9, 11] <|
  qo 123 (.mv (.t 5)) <|
  qo 124 (.mv (.t 13)) <|
  eo 125 (.call 22 [(.t 123), (.t 124)]) <|
  .prune [125, 7, 8, 9, 11] <|
  qo 126 (.mv (.t 125)) <|
  .sc false 129 126 (qo 127 (.mv (.t 7)) <|
  qo 128 (.cmp .eql (.t 127) (I 0)) <|
  .nil) (.t 128) <|
  .prune [129, 8, 9, 11] <|
  qo 130 (.mv (.t 129)) <|
  .sc false 133 130 (qo 131 (.mv (.t 8)) <|
  qo 132 (.nt (.t 131)) <|
  .nil) (.t 132) <|
  qo 134 (.mv (.t 133)) <|
  .prune [134, 9, 11] <|
  .sc false 137 134 (qo 135 (.mv (.t 9)) <|
  qo 136 (.cmp .eql (.t 135) (I 1)) <|
  .nil) (.t 136) <|
  qo 138 (.mv (.t 137)) <|
  .sc false 141 138 (qo 139 (.mv (.t 11)) <|
  qo 140 (.cmp .eql (.t 139) (I 1)) <|
  .nil) (.t 140) <|
  qo 4 (.mv (.t 141)) <|
  .nil)
  .ret)
  .skip)))
  (.prune [5, 13, 7, 14, 8, 15, 9, 11] (.seq (.ops <|
  qo 142 (.mv (.t 5)) <|
  qo 143 (.mv (.t 13)) <|
  eo 144 (.call 22 [(.t 142), (.t 143)]) <|
  .prune [144, 7, 14, 8, 15, 9, 11] <|
  qo 145 (.mv (.t 144)) <|
  .sc false 149 145 (qo 146 (.mv (.t 7)) <|
  qo 147 (.mv (.t 14)) <|
  qo 148 (.cmp .eql (.t 146) (.t 147)) <|
  .nil) (.t 148) <|
  .prune [149, 8, 15, 9, 11] <|
  qo 150 (.mv (.t 149)) <|
  .sc false 154 150 (qo 151 (.mv (.t 8)) <|
  qo 152 (.mv (.t 15)) <|
  qo 153 (.beq false (.t 151) (.t 152)) <|
  .nil) (.t 153) <|
  .prune [154, 9, 11] <|
  qo 155 (.mv (.t 154)) <|
  .sc false 158 155 (qo 156 (.mv (.t 9)) <|
  qo 157 (.cmp .eql (.t 156) (I 0)) <|
  .nil) (.t 157) <|
  qo 159 (.mv (.t 158)) <|
  .sc false 162 159 (qo 160 (.mv (.t 11)) <|
  qo 161 (.cmp .eql (.t 160) (I 1)) <|
  .nil) (.t 161) <|
  qo 4 (.mv (.t 162)) <|
  .nil)
  .ret))))
def j6_6 : JC :=
  (.prune [0, 1, 15, 5, 13, 7, 8, 9, 11, 14] (.seq (.seq (.ops <|
  qo 97 (.mv (.t 0)) <|
  eo 98 (.call 26 [(.t 97)]) <|
  qo 99 (.len (.t 98)) <|
  qo 100 (.mv (I 0)) <|
  .nil)
  (.prune [100, 99, 98, 0, 1, 15, 5, 13, 7, 8, 9, 11, 14] (.block 4 (.loop [99, 98, 0, 1, 5, 13, 7, 8, 9, 11] [100, 15, 14] j6_4))))
  j6_5))
def j6 : JC :=
  (.seq (.ops <|
  qo 4 (.mv (B false)) <|
  .nil)
  (.seq (.ops <|
  qo 22 (.mv (.t 0)) <|
  eo 23 (.call 27 [(.t 22)]) <|
  qo 21 (.mv (.t 23)) <|
  qo 24 (.ext 0 (.t 21)) <|
  qo 25 (.ext 1 (.t 21)) <|
  qo 5 (.mv (.t 24)) <|
  qo 6 (.mv (.t 25)) <|
  .nil)
  (.seq (.ops <|
  .prune [0, 1, 6, 5] <|
  qo 27 (.mv (.t 0)) <|
  qo 28 (.mv (.t 1)) <|
  eo 29 (.call 28 [(.t 27), (.t 28)]) <|
  qo 26 (.mv (.t 29)) <|
  .prune [26, 0, 6, 5, 1] <|
  qo 30 (.ext 0 (.t 26)) <|
  qo 31 (.ext 1 (.t 26)) <|
  qo 32 (.ext 2 (.t 26)) <|
  qo 7 (.mv (.t 30)) <|
  qo 8 (.mv (.t 31)) <|
  qo 9 (.mv (.t 32)) <|
  .nil)
  (.prune [0, 6, 5, 7, 8, 9, 1] (.seq (.ops <|
  eo 34 (.call 25 []) <|
  eo 35 (.call 24 [(.t 34)]) <|
  qo 33 (.mv (.t 35)) <|
  qo 36 (.ext 0 (.t 33)) <|
  qo 37 (.ext 1 (.t 33)) <|
  qo 10 (.mv (.t 36)) <|
  qo 11 (.mv (.t 37)) <|
  .nil)
  (.prune [0, 6, 5, 7, 8, 9, 11, 1] (.seq (.ops <|
  qo 38 (.mv (.t 0)) <|
  eo 39 (.call 21 [(.t 38)]) <|
  qo 12 (.mv (.t 39)) <|
  .nil)
  (.prune [12, 6, 5, 7, 8, 9, 11, 0, 1] (.seq (.seq (.ops <|
  qo 40 (.mv (.t 12)) <|
  qo 41 (.cmp .neq (.t 40) (I 0)) <|
  qo 42 (.mv (.t 41)) <|
  .sc true 45 42 (qo 43 (.mv (.t 6)) <|
  qo 44 (.cmp .neq (.t 43) (I 0)) <|
  .nil) (.t 44) <|
  .nil)
  (.prune [45, 5, 6, 12, 7, 8, 9, 11, 0, 1] (.cond (.t 45)
  (.seq (.ops <|
  .prune [5, 6, 12, 7, 8, 9, 11] <|
  qo 46 (.mv (.t 5)) <|
  qo 47 (.len (.t 46)) <|
  qo 48 (.cmp .eql (.t 47) (I 0)) <|
  .prune [48, 6, 12, 7, 8, 9, 11] <|
  qo 49 (.mv (.t 48)) <|
  .sc false 53 49 (qo 50 (.mv (.t 6)) <|
  qo 51 (.mv (.t 12)) <|
  qo 52 (.cmp .eql (.t 50) (.t 51)) <|
  .nil) (.t 52) <|
  .prune [53, 7, 8, 9, 12, 11] <|
  qo 54 (.mv (.t 53)) <|
  .sc false 57 54 (qo 55 (.mv (.t 7)) <|
  qo 56 (.cmp .eql (.t 55) (I 0)) <|
  .nil) (.t 56) <|
  .prune [57, 8, 9, 12, 11] <|
  qo 58 (.mv (.t 57)) <|
  .sc false 61 58 (qo 59 (.mv (.t 8)) <|
  qo 60 (.nt (.t 59)) <|
  .nil) (.t 60) <|
  .prune [61, 9, 12, 11] <|
  qo 62 (.mv (.t 61)) <|
  .sc false 66 62 (qo 63 (.mv (.t 9)) <|
  qo 64 (.mv (.t 12)) <|
  qo 65 (.cmp .eql (.t 63) (.t 64)) <|
  .nil) (.t 65) <|
  qo 67 (.mv (.t 66)) <|
  .prune [67, 11] <|
  .sc false 70 67 (qo 68 (.mv (.t 11)) <|
  qo 69 (.cmp .eql (.t 68) (I 1)) <|
  .nil) (.t 69) <|
  qo 4 (.mv (.t 70)) <|
  .nil)
  .ret)
  .skip)))
  (.prune [0, 1, 5, 7, 8, 9, 11] (.seq (.ops <|
  qo 13 (.mv (.c .nils)) <|
  .nil)
  (.seq (.ops <|
  qo 14 (.mv (I 0)) <|
  qo 15 (.mv (B false)) <|
  .nil)
  (.prune [0, 13, 1, 15, 5, 7, 8, 9, 11, 14] (.seq (.seq (.ops <|
  qo 71 (.mv (I 0)) <|
  .nil)
  (.prune [71, 0, 13, 1, 15, 5, 7, 8, 9, 11, 14] (.block 0 (.vecs 13 3 1 (.loop [0, 1, 15, 5, 7, 8, 9, 11, 14] [71, 13] j6_3)))))
  j6_6))))))))))))))
theorem c6 : fnIs Try.prog qall 6 = some (j6.flat, [.tmp 4], 163) := by kernel_rfl
theorem w6 : j6.wf 163 = true := by kernel_rfl
def GB (f : FuncId) (a : List SV) (m : List Res) : Sx.Call := (FH.mk 24 (.one dEs) (fun _ => True) (fun y => .tup [.vec 0 (allF y.1).length, .int .i64 (playedF y.1).2.2]) (fun y => [.vec 58 4 ((allF y.1).map dRc.emb)]) <|
  FH.mk 25 .nil (fun _ => True) (fun _ => .vec 0 1) (fun _ => [.vec 26 3 ([badE].map dEv.emb)]) <|
  FH.rd 21 (.one dEs) (.one .int) (fun _ => True) (fun y => (checkR y.1).2) <|
  FH.mk 26 (.one dEs) (fun y => (checkR y.1).2 = 0) (fun y => .vec 0 (secsR y.1).length) (fun y => [.vec 3 1 ((secsR y.1).map DT.int.emb)]) <|
  FH.mk 29 (.one dEs) (fun y => (checkR y.1).2 = 0) (fun y => .vec 0 (racesF y.1).length) (fun y => [.vec 58 4 ((racesF y.1).map dRc.emb)]) <|
  FH.rd 30 (.two dIs .int) (.one .bool) (fun _ => True) (fun y => hasI y.1 y.2.1) <|
  FH.rd 22 (.two dIs dIs) (.one .bool) (fun _ => True) (fun y => eqBy ef_EqInt y.1 y.2.1) FH.none) f a m
theorem GB_eq (f : FuncId) (a : List SV) (m : List Res) : GB f a m = (FH.mk 24 (.one dEs) (fun _ => True) (fun y => .tup [.vec 0 (allF y.1).length, .int .i64 (playedF y.1).2.2]) (fun y => [.vec 58 4 ((allF y.1).map dRc.emb)]) <|
  FH.mk 25 .nil (fun _ => True) (fun _ => .vec 0 1) (fun _ => [.vec 26 3 ([badE].map dEv.emb)]) <|
  FH.rd 21 (.one dEs) (.one .int) (fun _ => True) (fun y => (checkR y.1).2) <|
  FH.mk 26 (.one dEs) (fun y => (checkR y.1).2 = 0) (fun y => .vec 0 (secsR y.1).length) (fun y => [.vec 3 1 ((secsR y.1).map DT.int.emb)]) <|
  FH.mk 29 (.one dEs) (fun y => (checkR y.1).2 = 0) (fun y => .vec 0 (racesF y.1).length) (fun y => [.vec 58 4 ((racesF y.1).map dRc.emb)]) <|
  FH.rd 30 (.two dIs .int) (.one .bool) (fun _ => True) (fun y => hasI y.1 y.2.1) <|
  FH.rd 22 (.two dIs dIs) (.one .bool) (fun _ => True) (fun y => eqBy ef_EqInt y.1 y.2.1) FH.none) f a m := nr rfl
theorem GB_ok : FHOK Try.prog GB := FH.mk_ok (by kernel_rfl) (fun y _ => plainM (pv_tup ⟨plV_vec _ _, plV_int _ _, trivial⟩) ⟨plR_vec _ _ dRc _, trivial⟩) (fun y _ => f_All y.1) <|
  FH.mk_ok (by kernel_rfl) (fun _ _ => plainM (pv_vec _ _) ⟨plR_vec _ _ dEv [badE], trivial⟩) (fun _ _ => f_wrong) <| FH.rd_ok (by kernel_rfl) (fun y _ => f_May y.1) <|
  FH.mk_ok (by kernel_rfl) (fun y _ => plainM (pv_vec _ _) ⟨plR_vec _ _ DT.int _, trivial⟩) (fun y h => f_RSeconds y.1 h) <|
  FH.mk_ok (by kernel_rfl) (fun y _ => plainM (pv_vec _ _) ⟨plR_vec _ _ dRc _, trivial⟩) (fun y h => f_RRaces y.1 h) <|
  FH.rd_ok (by kernel_rfl) (fun y _ => f_HasInt y.1 y.2.1) <| FH.rd_ok (by kernel_rfl) (fun y _ => f_EqInt y.1 y.2.1) FH.none_ok
def G (f : FuncId) (a : List SV) (m : List Res) : Sx.Call := (FH.mk 27 (.one dEs) (fun _ => True) (fun y => .tup [.vec 0 (tellF (fun r => r.var) y.1).length, .int .i64 (playedF y.1).2.2]) (fun y => [.vec 3 1 ((tellF (fun r => r.var) y.1).map DT.int.emb)]) <|
  FH.rd 28 (.two dEs .int) (.three .int .bool .int) (fun y => ∀ z ∈ tellF (fun r => r.b) y.1, 0 ≤ z ∧ z < (y.1.length : Int)) (fun y => firstF y.1 y.2.1) GB) f a m
theorem G_eq (f : FuncId) (a : List SV) (m : List Res) : G f a m = (FH.mk 27 (.one dEs) (fun _ => True) (fun y => .tup [.vec 0 (tellF (fun r => r.var) y.1).length, .int .i64 (playedF y.1).2.2]) (fun y => [.vec 3 1 ((tellF (fun r => r.var) y.1).map DT.int.emb)]) <|
  FH.rd 28 (.two dEs .int) (.three .int .bool .int) (fun y => ∀ z ∈ tellF (fun r => r.b) y.1, 0 ≤ z ∧ z < (y.1.length : Int)) (fun y => firstF y.1 y.2.1) GB) f a m := nr rfl
theorem G_ok : FHOK Try.prog G := FH.mk_ok (by kernel_rfl) (fun y _ => plainM (pv_tup ⟨plV_vec _ _, plV_int _ _, trivial⟩) ⟨plR_vec _ _ DT.int _, trivial⟩) (fun y _ => f_Vars y.1) <|
  FH.rd_ok (by kernel_rfl) (fun y h => f_First y.1 y.2.1 h) GB_ok
theorem bad_is : (playedF [badE]).2.2 = 1 := by decide
theorem tell_secs {l : List Ev} (hok : (checkR l).2 = 0) : tellF (fun r => r.b) l = secsR l := by
  have hp : (playedF l).2.2 = 0 := by rw [err_same]; exact hok
  rw [tellF, if_pos hp, SortP.compact_sorted secs_in]
  rfl
theorem tell_vars {l : List Ev} (hok : (checkR l).2 = 0) : tellF (fun r => r.var) l = SortP.upTo ((racesF l).map fun r => r.var) 8 := by
  have hp : (playedF l).2.2 = 0 := by rw [err_same]; exact hok
  rw [tellF, if_pos hp, SortP.compact_sorted (vars_in hok)]
theorem tell_in (l : List Ev) : ∀ z ∈ tellF (fun r => r.b) l, 0 ≤ z ∧ z < (l.length : Int) := by
  intro z hz
  by_cases h : (playedF l).2.2 = 0
  · rw [tell_secs (by rw [← err_same]; exact h), secsR, SortP.mem_upTo] at hz
    omega
  · rw [tellF, if_neg h] at hz
    cases hz
def fnd (l : List Ev) (x : Int) (zs : List Int) : Option Int := zs.find? fun z => decide (objAt l z = x)
theorem idx_fnd {l : List Ev} {x : Int} : ∀ {zs : List Int} {i : Nat}, (fnd l x zs = none → idxF l x zs i < 0) ∧ ∀ z, fnd l x zs = some z → (i : Int) ≤ idxF l x zs i ∧ zs.getD (idxF l x zs i - i).toNat 0 = z
  | [], i => ⟨(fun _ => (by simp only [idxF]; omega)), (fun z h => by simp [fnd] at h)⟩
  | y :: zs, i => by
    have IH := idx_fnd (l := l) (x := x) (zs := zs) (i := i + 1)
    obtain ⟨h1, h2⟩ := IH
    unfold fnd at h1 h2 ⊢
    rw [idxF, List.find?_cons]
    by_cases h : objAt l y = x
    · rw [if_pos h, decide_eq_true h]
      exact ⟨(fun e => nomatch e), fun z e => ⟨Int.le_refl _, by simpa using e⟩⟩
    · rw [if_neg h, decide_eq_false h]
      refine ⟨h1, fun z e => ?_⟩
      obtain ⟨h3, h4⟩ := h2 z e
      refine ⟨by omega, ?_⟩
      rw [show (idxF l x zs (i + 1) - (i : Int)).toNat = (idxF l x zs (i + 1) - ((i + 1 : Nat) : Int)).toNat + 1 by omega, List.getD_cons_succ]
      exact h4
theorem first_is {l : List Ev} {x : Int} (hok : (checkR l).2 = 0) (hx : ¬ (x < 0 ∨ 8 ≤ x)) : firstF l x = ((fnd l x (secsR l)).getD 0, (fnd l x (secsR l)).isSome, 0) := by
  have hp : (playedF l).2.2 = 0 := by rw [err_same]; exact hok
  obtain ⟨h1, h2⟩ := idx_fnd (l := l) (x := x) (zs := secsR l) (i := 0)
  rw [firstF, if_pos hp, if_neg hx, tell_secs hok]
  cases e : fnd l x (secsR l) with
  | none => rw [if_pos (h1 e)]; rfl
  | some z =>
    obtain ⟨h3, h4⟩ := h2 z e
    rw [if_neg (by omega)]
    simp only [Int.natCast_zero, Int.sub_zero] at h4
    simp only [Option.getD_some, Option.isSome_some, h4]
theorem fnd_take {l : List Ev} {x : Int} {zs : List Int} {k : Nat} (hk : k < zs.length) : fnd l x (zs.take (k + 1)) = match fnd l x (zs.take k) with | some z => some z | none => if objAt l (zs.getD k 0) = x then some (zs.getD k 0) else none := by
  unfold fnd
  rw [take_getD (0 : Int) hk, List.find?_append]
  cases (zs.take k).find? fun z => decide (objAt l z = x) with
  | some z => rfl
  | none =>
    by_cases h : objAt l (zs.getD k 0) = x <;> simp [h]
theorem f_law (l : List Ev) (x : Int) : FnOK Try.prog 6 [dEs.emb l, .int .i64 x] [] (.bool true) [] := by
  refine fn_walkF c6 w6 G_ok rfl ?_
  unfold j6
  have hin := tell_in l
  by_cases h0 : (checkR l).2 = 0
  · have hp : (playedF l).2.2 = 0 := by rw [err_same]; exact h0
    have hl := ok_len h0
    have hv := tell_vars h0
    have hRl : (racesF l).length ≤ 6400 := Nat.le_trans (allC_len (l := l) l.length) (Nat.mul_le_mul (show l.length ≤ 80 by omega) (show l.length ≤ 80 by omega))
    simp only [go_sem, ↓reduceIte, Nat.reduceAdd, Nat.reduceMul, Nat.reduceSub, Nat.reduceLT, Nat.reduceLeDiff, Nat.reduceEqDiff, Int.reduceToNat, Int.reduceEq, Int.reduceLT, Int.reduceLE, reduceCtorEq, G_eq, GB_eq, bad_is, h0, hp, hin, hv]
    refine ⟨hin, ?_⟩
    generalize hR : racesF l = R at hRl hv ⊢
    generalize allF [badE] = B
    refine loopF Nat (fun v => [.int .i64 v, .vec 3 (SortP.upTo (R.map fun r => r.var) v).length]) (fun v => [.vec 3 1 ((SortP.upTo (R.map fun r => r.var) 8).map DT.int.emb), .vec 26 3 [.agg [.int .i64 badE.kind, .int .i64 badE.thr, .int .i64 badE.obj]], .vec 58 4 (B.map dRc.emb), .vec 3 1 ((SortP.upTo (R.map fun r => r.var) v).map DT.int.emb)]) (fun v => v ≤ 8) (fun v => 8 - v) 0 (by omega) ?_ rfl ?_
    · simp only [go_sem, ↓reduceIte, Nat.reduceAdd, Nat.reduceMul, Nat.reduceSub, Nat.reduceLT, Nat.reduceLeDiff, Nat.reduceEqDiff, Int.reduceToNat, Int.reduceEq, Int.reduceLT, Int.reduceLE, reduceCtorEq]
      rfl
    intro v hvl
    by_cases h1 : v < 8
    · have h1' : (v : Int) < 8 := by omega
      unfold j6_3
      simp only [go_sem, ↓reduceIte, Nat.reduceAdd, Nat.reduceMul, Nat.reduceSub, Nat.reduceLT, Nat.reduceLeDiff, Nat.reduceEqDiff, Int.reduceToNat, Int.reduceEq, Int.reduceLT, Int.reduceLE, reduceCtorEq, G_eq, GB_eq, h1, h1', h0, hR]
      refine loopF Nat (fun k => [.int .i64 k, .vec 3 (midS R (fun r => r.var) v k).length]) (fun k => [.vec 3 1 ((SortP.upTo (R.map fun r => r.var) 8).map DT.int.emb), .vec 26 3 [.agg [.int .i64 badE.kind, .int .i64 badE.thr, .int .i64 badE.obj]], .vec 58 4 (B.map dRc.emb), .vec 3 1 ((midS R (fun r => r.var) v k).map DT.int.emb), .vec 58 4 (R.map dRc.emb)]) (fun k => k ≤ R.length) (fun k => R.length - k) 0 (by omega) ?_ ?_ ?_
      · simp only [go_sem, ↓reduceIte, Nat.reduceAdd, Nat.reduceMul, Nat.reduceSub, Nat.reduceLT, Nat.reduceLeDiff, Nat.reduceEqDiff, Int.reduceToNat, Int.reduceEq, Int.reduceLT, Int.reduceLE, reduceCtorEq]
        simp [midS_zero]
      · simp [midS_zero]
      intro k hk
      by_cases h2 : k < R.length
      · have h2' : (k : Int) < R.length := by omega
        have hw : IntKind.i64.wrap ((k : Int) + 1) = ((k + 1 : Nat) : Int) := IntWalk.i64_in _ (by omega)
        have hml := midS_len R (fun r => r.var) v k
        have hms := midS_step (R := R) (f := fun r => r.var) (j := v) h2
        unfold j6_1
        simp only [go_sem, ↓reduceIte, Nat.reduceAdd, Nat.reduceMul, Nat.reduceSub, Nat.reduceLT, Nat.reduceLeDiff, Nat.reduceEqDiff, Int.reduceToNat, Int.reduceEq, Int.reduceLT, Int.reduceLE, reduceCtorEq, G_eq, GB_eq, h2, h2', rc_getD' h2]
        refine ⟨by omega, fun h => ⟨by omega, k + 1, by omega, by omega, ⟨hw, ?_⟩, ?_⟩, fun h => ⟨k + 1, by omega, by omega, ⟨hw, ?_⟩, ?_⟩⟩
        · rw [hms, if_pos h, List.length_append]; rfl
        · rw [hms, if_pos h, List.map_append]; rfl
        · rw [hms, if_neg (by rw [h]; simp), List.append_nil]
        · rw [hms, if_neg (by rw [h]; simp), List.append_nil]
      · have h2' : ¬ (k : Int) < R.length := by omega
        have e : k = R.length := by omega
        subst e
        unfold j6_1
        simp only [go_sem, ↓reduceIte, Nat.reduceAdd, Nat.reduceMul, Nat.reduceSub, Nat.reduceLT, Nat.reduceLeDiff, Nat.reduceEqDiff, Int.reduceToNat, Int.reduceEq, Int.reduceLT, Int.reduceLE, reduceCtorEq, h2']
        unfold j6_2
        simp only [go_sem, ↓reduceIte, Nat.reduceAdd, Nat.reduceMul, Nat.reduceSub, Nat.reduceLT, Nat.reduceLeDiff, Nat.reduceEqDiff, Int.reduceToNat, Int.reduceEq, Int.reduceLT, Int.reduceLE, reduceCtorEq]
        rw [midS_end]
        exact ⟨v + 1, by omega, by omega, ⟨IntWalk.i64_in _ (by omega), rfl⟩, rfl⟩
    · have h1' : ¬ (v : Int) < 8 := by omega
      have e : v = 8 := by omega
      subst e
      unfold j6_3
      simp only [go_sem, ↓reduceIte, Nat.reduceAdd, Nat.reduceMul, Nat.reduceSub, Nat.reduceLT, Nat.reduceLeDiff, Nat.reduceEqDiff, Int.reduceToNat, Int.reduceEq, Int.reduceLT, Int.reduceLE, reduceCtorEq, h1']
      unfold j6_6
      simp only [go_sem, ↓reduceIte, Nat.reduceAdd, Nat.reduceMul, Nat.reduceSub, Nat.reduceLT, Nat.reduceLeDiff, Nat.reduceEqDiff, Int.reduceToNat, Int.reduceEq, Int.reduceLT, Int.reduceLE, reduceCtorEq, G_eq, GB_eq, h0]
      have hsi : ∀ z ∈ secsR l, 0 ≤ z ∧ z < (l.length : Int) := by rw [← tell_secs h0]; exact hin
      have hfi := fun hx => first_is (x := x) h0 hx
      have hZl : (secsR l).length ≤ l.length := SortP.upTo_len _
      generalize secsR l = Z at hsi hfi hZl ⊢
      generalize SortP.upTo (R.map fun r => r.var) 8 = V at hv ⊢
      refine loopF Nat (fun k => [.int .i64 k, .bool (fnd l x (Z.take k)).isSome, .int .i64 ((fnd l x (Z.take k)).getD 0)]) (fun k => [.vec 3 1 (V.map DT.int.emb), .vec 26 3 [.agg [.int .i64 badE.kind, .int .i64 badE.thr, .int .i64 badE.obj]], .vec 58 4 (B.map dRc.emb), .vec 3 1 (V.map DT.int.emb), .vec 3 1 (Z.map DT.int.emb)]) (fun k => k ≤ Z.length) (fun k => Z.length - k) 0 (by omega) ?_ rfl ?_
      · simp only [go_sem, ↓reduceIte, Nat.reduceAdd, Nat.reduceMul, Nat.reduceSub, Nat.reduceLT, Nat.reduceLeDiff, Nat.reduceEqDiff, Int.reduceToNat, Int.reduceEq, Int.reduceLT, Int.reduceLE, reduceCtorEq]
        exact ⟨rfl, rfl⟩
      intro k hk
      by_cases h2 : k < Z.length
      · have h2' : (k : Int) < Z.length := by omega
        have hw : IntKind.i64.wrap ((k : Int) + 1) = ((k + 1 : Nat) : Int) := IntWalk.i64_in _ (by omega)
        have hmem : Z.getD k (0 : Int) ∈ Z := by
          simp only [List.getD, List.getElem?_eq_getElem h2, Option.getD_some]
          exact List.getElem_mem _
        obtain ⟨q1, q2⟩ := hsi _ hmem
        have q3 : (Z.getD k (0 : Int)).toNat < l.length := by omega
        have ht := fnd_take (l := l) (x := x) h2
        unfold j6_4
        simp only [go_sem, ↓reduceIte, Nat.reduceAdd, Nat.reduceMul, Nat.reduceSub, Nat.reduceLT, Nat.reduceLeDiff, Nat.reduceEqDiff, Int.reduceToNat, Int.reduceEq, Int.reduceLT, Int.reduceLE, reduceCtorEq, G_eq, GB_eq, h2, h2', q1, q2, q3, int_getD h2]
        change 0 ≤ (k : Int) ∧ ((decide (objAt l (Z.getD k 0) = x) && !(fnd l x (Z.take k)).isSome) = true → _) ∧ ((decide (objAt l (Z.getD k 0) = x) && !(fnd l x (Z.take k)).isSome) = false → _)
        refine ⟨by omega, fun h => ⟨k + 1, by omega, by omega, hw, ?_⟩, fun h => ⟨k + 1, by omega, by omega, hw, ?_⟩⟩
        · rw [ht]
          cases e : fnd l x (Z.take k) with
          | some z => rw [e] at h; simp at h
          | none => rw [e] at h; simp only [Option.isSome_none, Bool.not_false, Bool.and_true, decide_eq_true_eq] at h; rw [if_pos h]; exact ⟨rfl, rfl⟩
        · rw [ht]
          cases e : fnd l x (Z.take k) with
          | some z => exact ⟨rfl, rfl⟩
          | none => rw [e] at h; simp only [Option.isSome_none, Bool.not_false, Bool.and_true, decide_eq_false_iff_not] at h; rw [if_neg h]; exact ⟨rfl, rfl⟩
      · have h2' : ¬ (k : Int) < Z.length := by omega
        have e : k = Z.length := by omega
        subst e
        rw [List.take_length]
        unfold j6_4
        simp only [go_sem, ↓reduceIte, Nat.reduceAdd, Nat.reduceMul, Nat.reduceSub, Nat.reduceLT, Nat.reduceLeDiff, Nat.reduceEqDiff, Int.reduceToNat, Int.reduceEq, Int.reduceLT, Int.reduceLE, reduceCtorEq, h2']
        unfold j6_5
        by_cases hx : x < 0 ∨ 8 ≤ x
        · have hxd : (decide (x < 0) || decide (7 < x)) = true := by simp; omega
          have hf : firstF l x = (0, false, 1) := by rw [firstF, if_pos hp, if_pos hx]
          simp only [go_sem, ↓reduceIte, Nat.reduceAdd, Nat.reduceMul, Nat.reduceSub, Nat.reduceLT, Nat.reduceLeDiff, Nat.reduceEqDiff, Int.reduceToNat, Int.reduceEq, Int.reduceLT, Int.reduceLE, reduceCtorEq, G_eq, GB_eq, hxd, hf]
          exact eqBy_refl (by simp [ef_EqInt]) _
        · have hxd : (decide (x < 0) || decide (7 < x)) = false := by simp; omega
          simp only [go_sem, ↓reduceIte, Nat.reduceAdd, Nat.reduceMul, Nat.reduceSub, Nat.reduceLT, Nat.reduceLeDiff, Nat.reduceEqDiff, Int.reduceToNat, Int.reduceEq, Int.reduceLT, Int.reduceLE, reduceCtorEq, G_eq, GB_eq, hxd, hfi hx]
          rw [eqBy_refl (by simp [ef_EqInt]) _]
          simp
  · have hp : ¬ (playedF l).2.2 = 0 := by rw [err_same]; exact h0
    have hr : tellF (fun r => r.var) l = [] := by rw [tellF, if_neg hp]
    have hf : firstF l x = (0, false, (checkR l).2) := by rw [firstF, if_neg hp, err_same]
    have he : (playedF l).2.2 = (checkR l).2 := err_same
    simp only [go_sem, ↓reduceIte, Nat.reduceAdd, Nat.reduceMul, Nat.reduceSub, Nat.reduceLT, Nat.reduceLeDiff, Nat.reduceEqDiff, Int.reduceToNat, Int.reduceEq, Int.reduceLT, Int.reduceLE, reduceCtorEq, G_eq, GB_eq, bad_is, h0, hr, he, hin, hf]
    exact hin
abbrev A : DA (List Ev × Int × Unit) := .two dEs .int
abbrev Ts : List TT := [.sl 3 (.st [.int .i64, .int .i64, .int .i64]), .int .i64]
theorem lawP (y : DenL Ts) : A.decP [] (embL Ts y) := ⟨⟨rfl, fun _ _ => ⟨rfl, rfl, rfl, trivial⟩⟩, rfl, trivial⟩
theorem law (y : DenL Ts) (_ : okDL Ts y) : FnOK Try.prog 6 (A.emb (A.decV [] (embL Ts y))) [] (.bool true) [] := f_law _ _
theorem own : ownKnob Try.prog.godebug = none := by kernel_rfl
theorem laid : laidOutB Try.prog = true := by kernel_rfl
theorem lifted (os : Os) (started : os.Started) (H : Type) (enc : TypeId × Value → H) :
    ReturnsInHanded {} Try.checked os 6 .any (Rows.raceVarsSpec.pre6 enc Try.prog Try.f6 Rows.raceVarsRow.domain false) (Rows.raceVarsSpec.post enc Try.prog Try.f6 false true false false) := by
  refine returnsInHanded_of_change (C := Try.checked) own started (by kernel_rfl) Try.func6
    (ChangeSpec.witness6 (enc := enc) (C := Try.checked) false ⟨#[], #[.slice none 0 0, .int .i64 0], []⟩ 8 (by kernel_rfl) (by kernel_rfl) (by kernel_rfl) (by kernel_rfl)) ?_
  intro W base args ds gs before hval0 hW hcnd _
  have hW' := hW
  obtain ⟨p, q, hA, hV, rfl, hfz, hnd⟩ := hW
  obtain ⟨rfl, rfl⟩ := trodVars_none hV
  obtain ⟨y, hs, hok⟩ := open_args Ts (by kernel_rfl) hA (fun j t v h1 h2 => hval0 j t v (by simpa using h1) (by simpa using h2))
  obtain ⟨d1, d2, rfl⟩ := len_two (trod_len hA)
  refine (law_run (law y hok) W (vs := args.toList) (satA_conv (A := A) (lawP y) hs)).mono fun e W' ⟨he, hb⟩ => ?_
  subst he
  exact ⟨_, rfl, row_close laid (by kernel_rfl) (by kernel_rfl) Try.underlying4 rfl hW' hb rfl⟩
theorem holds : Rows.RaceVarsSaid :=
  OpenClaim.holds_of_wide_leaving 6 Try.f6 rfl rfl rfl rfl rfl rfl rfl ⟨rfl, rfl, rfl, rfl, rfl⟩ rfl rfl rfl rfl rfl (by kernel_rfl) Try.func6 (by kernel_rfl)
    (of_decide_eq_true (by kernel_rfl)) (by unfold Func.isWrapper; first | (rw [if_pos (by decide +kernel)]; kernel_rfl) | (rw [if_neg (by decide +kernel)]; exact ⟨rfl, rfl⟩))
    (fun os started H enc _ enter => ReturnsInOpen.mono (fun _ _ _ x => ⟨x.2.1, onlyLeaving_of_quiet x.1, x.2.2⟩) (fun _ x => x) (lifted os started H enc enter))
#print axioms holds
end Go.Proofs.Ytjipnjimopekjaa.RaceVars
