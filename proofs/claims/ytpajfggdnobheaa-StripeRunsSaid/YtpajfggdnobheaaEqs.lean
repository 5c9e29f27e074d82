/- A part of the proof of StripeRuns. Conditions: none. -/
import Derived.Test.YtpajfggdnobheaaClockJ
import Derived.Test.YtpajfggdnobheaaRows
import Derived.WalkKit
set_option linter.unusedVariables false
set_option linter.unusedSimpArgs false
set_option maxRecDepth 100000
open Go Go.Sx Go.Proofs
namespace Go.Proofs.Ytpajfggdnobheaa.Eqs
variable {main:Bool} {Fz:Nat→Prop}
open Go.Proofs.Ytpajfggdnobheaa.D
def j9_1:JC:=
 (.seq (.ops<|
 qo 15 (.cmp .lss (.t 14) (.t 13))<|
 .nil)
 (.seq (.cond (.t 15)
 .skip
 (.exit 0))
 (.seq (.block 1 (.seq (.ops<|
 qo 16 (.mv (.t 14))<|
 qo 17 (.is 3 (.t 12) (.t 14))<|
 eo 18 (.load 3 true (.t 17))<|
 eo 6 (.alloc 32 (.agg [(.int .i64 0),(.int .i64 0),(.int .i64 0)]))<|
 qo 5 (.mv (.t 16))<|
 en (.store 3 (.t 6) (.t 18))<|
 .nil)
 (.prune [6,1,5,14,13,12] (.seq (.dops<|
 eo 19 (.load 3 true (.t 6))<|
 qo 20 (.mv (.t 1))<|
 qo 21 (.mv (.t 5))<|
 qo 22 (.is 3 (.t 20) (.t 21))<|
 eo 23 (.load 3 true (.t 22))<|
 qo 24 (.aeq true (.st [(.int .i64),(.int .i64),(.int .i64)]) (.t 19) (.t 23))<|
 .nil)
 (.prune [24,14,13,12,1] (.cond (.t 24)
 (.seq (.ops<|
 qo 4 (.mv (B false))<|
 .nil)
 .ret)
 .skip))))))
 (.prune [14,13,12,1] (.ops<|
 qo 25 (.ar .add (.t 14) (I 1))<|
 qo 14 (.mv (.t 25))<|
 .nil)))))
def j9_2:JC:=
 (.prune [] (.seq (.ops<|
 qo 4 (.mv (B true))<|
 .nil)
 .ret))
def j9:JC:=
 (.seq (.ops<|
 qo 4 (.mv (B false))<|
 .nil)
 (.seq (.seq (.ops<|
 qo 7 (.mv (.t 0))<|
 qo 8 (.len (.t 7))<|
 qo 9 (.mv (.t 1))<|
 qo 10 (.len (.t 9))<|
 qo 11 (.cmp .neq (.t 8) (.t 10))<|
 .nil)
 (.cond (.t 11)
 (.seq (.ops<|
 qo 4 (.mv (B false))<|
 .nil)
 .ret)
 .skip))
 (.seq (.seq (.ops<|
 .prune [0,1]<|
 qo 12 (.mv (.t 0))<|
 qo 13 (.len (.t 12))<|
 qo 14 (.mv (I 0))<|
 .nil)
 (.prune [14,13,12,1] (.block 0 (.loop [13,12,1] [14] j9_1))))
 j9_2)))
theorem c9:fnIs Try.prog qall 9=some (j9.flat,[.tmp 4],26):=by kernel_rfl
theorem w9:j9.wf 26=true:=by kernel_rfl
def ef_EqFlag (x y:Fl):Bool:=decide (x.at'=y.at')&&(decide (x.var=y.var)&&decide (x.kind=y.kind))
theorem f_EqFlag (xs ys:List Fl):FnOK Try.prog main Fz 9 [dFls.emb xs,dFls.emb ys] [] (.bool (eqBy ef_EqFlag xs ys)) []:=by
 refine fn_len fun hB=>fn_walkF c9 w9 FH.none_ok rfl ?_
 simp only [go_sem,seval] at hB
 unfold j9
 simp only [go_sem,seval]
 refine ⟨fun h=> ?_,fun h=> ?_⟩
 ·rw [eqBy_len h]
 ·refine loopF Nat (fun i=>[.int .i64 i]) (fun i=>[]) (fun i=>i≤xs.length∧eqBy ef_EqFlag xs ys=eqBy ef_EqFlag (xs.drop i) (ys.drop i)) (fun i=>xs.length - i) 0 ⟨by omega,rfl⟩ ?_ rfl ?_
  ·simp only [go_sem,seval]
  ·intro i hi
   unfold j9_1
   simp only [go_sem,seval]
   refine ⟨fun h1=> ?_,fun h1=> ?_⟩
   ·obtain ⟨hi1,hi2⟩:=hi
    rw [eqBy_drop (d:=dFl.dft) (d':=dFl.dft) (by omega) (by omega)] at hi2
    refine ⟨⟨by omega,by omega⟩,⟨by omega,by omega⟩,fun h2=> ?_,fun h2=>⟨i+1,⟨by omega,?_⟩,by omega,IntWalk.i64_in _ (by omega)⟩⟩
    ·rw [hi2,show ef_EqFlag (xs.getD i dFl.dft) (ys.getD i dFl.dft)=false by first|exact h2|exact decide_eq_false h2];rfl
    ·rw [hi2,show ef_EqFlag (xs.getD i dFl.dft) (ys.getD i dFl.dft)=true by first|exact h2|exact decide_eq_true h2];rfl
   ·rw [eqBy_done hi.2 (by omega) (by omega)]
    unfold j9_2
    simp only [go_sem,seval]
end Go.Proofs.Ytpajfggdnobheaa.Eqs
