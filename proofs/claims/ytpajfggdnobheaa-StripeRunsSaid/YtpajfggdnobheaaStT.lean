/- A part of the proof of StripeRuns. Conditions: none. -/
import Derived.Test.YtpajfggdnobheaaStS
import Derived.Test.YtpajfggdnobheaaCo15
import Derived.Test.YtpajfggdnobheaaFastX
set_option linter.unusedVariables false
set_option linter.unusedSimpArgs false
set_option maxRecDepth 100000
open Go Go.Sx Go.Conc Go.Proofs
namespace Go.Proofs.Ytpajfggdnobheaa.Sp
variable {main:Bool} {Fz:Nat→Prop}
open Go.Proofs.Ytpajfggdnobheaa.D Go.Proofs.Ytpajfggdnobheaa.Tr Go.Proofs.Ytpajfggdnobheaa.C Go.Proofs.Ytpajfggdnobheaa.Fu Go.Proofs.Ytpajfggdnobheaa.Fa
section
variable {Φ:Fan} {End:List Nat→Goroutine→OW→Prop}
def KE (e:Int) (s0:MS) (y1 y2:SV) (m':List Res) (s':MS):Prop:=y1= .nils∧y2= .int .i64 e∧m'=[]∧s'=s0
def KG (l:List Ev) (y1 y2:SV) (m':List Res) (s':MS):Prop:=y1= .vec 0 (runXL l l.length).length∧y2= .int .i64 0∧m'=[.vec Srt.TP 3 ((runXL l l.length).map dFl.emb)]∧∃ cs got,s'=⟨[],cs,got⟩
theorem run_range {n:Int} (hn:n<1∨8<n) {y:SV} {ε:Env} {x:OW} {s:MS} (hg:GoodO Fz ε [] x) {vs:List Value} (ha:SatA [.int .i64 n,y] ε vs):
  CallsT Try.prog true Fz (mainSes Try.prog Fz Φ End) 6 vs.toArray s x (fun v s' x'=> ∃ ε' y1 y2 m',KE 1 s y1 y2 m' s'∧GoodO Fz ε' m' x'∧(∀ b o,ε.H b=some o→ε'.H b=some o)∧SatV ε' (.tup [y1,y2]) v):=by
 refine callst_two c6 hg ha (by simp) (fun y1 y2 m' s' h=>by obtain ⟨rfl,rfl,_⟩:=h;exact ⟨rfl,rfl⟩) (fun a hT=> ?_) (by decide)
 unfold j6
 refine tw_seq (tw_jcN hT FH.none_ok (by rfl) [0] [.int .i64 n] [] ?_ fun ε1 a1 x1 h1 _=> ?_)
 ·unfold j6_1
  simp only [go_sem,seval,argF]
 refine tw_seq (tw_jcR h1 FH.none_ok (by rfl) [4,5] [.nils, .int .i64 1] [] ?_ fun ε2 a2 x2 h2 _=>⟨rfl,ε2,_,_,_,⟨rfl,rfl,rfl,rfl⟩,h2⟩)
 unfold j6_2
 by_cases h:n<1
 ·simp only [go_sem,seval,h]
 ·have h8:8<n:=by omega
  simp only [go_sem,seval,h,h8]
theorem run_check {n:Nat} (hn0:1≤n) (hn:n≤8) {l:List Ev} (hok:¬ (checkR l).2=0) {ε:Env} {x:OW} {s:MS} (hg:GoodO Fz ε [] x) {vs:List Value} (ha:SatA [.int .i64 n,dEs.emb l] ε vs):
  CallsT Try.prog true Fz (mainSes Try.prog Fz Φ End) 6 vs.toArray s x (fun v s' x'=> ∃ ε' y1 y2 m',KE (checkR l).2 s y1 y2 m' s'∧GoodO Fz ε' m' x'∧(∀ b o,ε.H b=some o→ε'.H b=some o)∧SatV ε' (.tup [y1,y2]) v):=by
 refine callst_two c6 hg ha (by simp) (fun y1 y2 m' s' h=>by obtain ⟨rfl,rfl,_⟩:=h;exact ⟨rfl,rfl⟩) (fun a hT=> ?_) (by decide)
 have c1:¬ (n:Int)<1:=by omega
 have c2:¬ (8:Int)<n:=by omega
 have he:(playedF l).2.2=(checkR l).2:=err_same
 unfold j6
 refine tw_seq (tw_jcN hT FH.none_ok (by rfl) [0,1] [.int .i64 n,dEs.emb l] [] ?_ fun ε1 a1 x1 h1 _=> ?_)
 ·unfold j6_1
  simp only [go_sem,seval,argF]
 refine tw_seq (tw_jcN h1 FH.none_ok (by rfl) [0,1] [.int .i64 n,dEs.emb l] [] ?_ fun ε2 a2 x2 h2 _=> ?_)
 ·unfold j6_2
  simp only [go_sem,seval,c1,c2]
 refine tw_seq (tw_jcR h2 Gck_ok (by rfl) [4,5] [.nils, .int .i64 (checkR l).2] [] ?_ fun ε3 a3 x3 h3 _=>⟨rfl,ε3,_,_,_,⟨rfl,rfl,rfl,rfl⟩,h3⟩)
 unfold j6_3
 simp only [go_sem,seval,Gck_eq,he,hok]
theorem run_calls {n:Nat} (hn0:1≤n) (hn:n≤8) {l:List Ev} (hok:(checkR l).2=0) {ε:Env} {x:OW} (hg:GoodO Fz ε [] x) {vs:List Value} (ha:SatA [.int .i64 n,dEs.emb l] ε vs):
  CallsT Try.prog true Fz (mainSes Try.prog Fz (fanR n l) End) 6 vs.toArray ⟨actsR n l,[],[]⟩ x (fun v s' x'=> ∃ ε' y1 y2 m',KG l y1 y2 m' s'∧GoodO Fz ε' m' x'∧(∀ b o,ε.H b=some o→ε'.H b=some o)∧SatV ε' (.tup [y1,y2]) v):=by
 refine callst_two c6 hg ha (by simp) (fun y1 y2 m' s' h=>by obtain ⟨rfl,rfl,_⟩:=h;exact ⟨rfl,rfl⟩) (fun a hT=> ?_) (by decide)
 refine (run_good hn0 hn hok hT).mono fun e a' s' x' h=> ?_
 obtain ⟨rfl,cs,got,ε',rfl,_,h⟩:=h
 exact ⟨rfl,ε',_,_,_,⟨rfl,rfl,rfl,cs,got,rfl⟩,h⟩
end
end Go.Proofs.Ytpajfggdnobheaa.Sp
