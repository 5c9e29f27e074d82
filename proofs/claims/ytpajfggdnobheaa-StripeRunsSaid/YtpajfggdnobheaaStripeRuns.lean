/- The law StripeRuns hands back true, and what it reads stands as it did: for every start, in whatever order the hands go. Conditions: none. -/
import Derived.Test.YtpajfggdnobheaaStV
import Derived.WalkKit
import Derived.ProofKit
import Derived.OpenShut
import Derived.Conc.Holds
set_option linter.unusedVariables false
set_option linter.unusedSimpArgs false
set_option maxRecDepth 100000
open Go Go.Sx Go.Proofs Go.ChangeShapes Go.WideShapes Go.ChangeAt Go.RowKit
namespace Go.Proofs.Ytpajfggdnobheaa.StripeRuns
variable {main:Bool} {Fz:Nat→Prop}
open Go.Proofs.Ytpajfggdnobheaa.D Go.Proofs.Ytpajfggdnobheaa.Tr Go.Proofs.Ytpajfggdnobheaa.Fu Go.Proofs.Ytpajfggdnobheaa.Fa Go.Proofs.Ytpajfggdnobheaa.Sp
theorem own:ownKnob Try.prog.godebug=none:=by kernel_rfl
theorem laid:laidOutB Try.prog=true:=by kernel_rfl
theorem noInit:Try.prog.inits.idxOf? 3=none:=by kernel_rfl
abbrev A:DA (Int×List Ev×Unit):= .two .int dEs
abbrev Ts:List TT:=[.int .i64, .sl 3 (.st [.int .i64, .int .i64, .int .i64])]
theorem lawP (y:DenL Ts):A.decP [] (embL Ts y):=⟨rfl,⟨rfl,fun _ _=>⟨rfl,rfl,rfl,trivial⟩⟩,trivial⟩
theorem run (n:Int) (l:List Ev) (W:World) {vs:List Value} (ha:SatA [.int .i64 n,dEs.emb l] (ε0 W) vs):
  ∃ N last o w' t',runNT Try.prog (N+1) (Go.Conc.solo (Go.Conc.G (Frame.enter Try.prog 3 vs.toArray .normal) []) W) #[]=(.ended o w',t')∧runN Try.prog N (Go.Conc.solo (Go.Conc.G (Frame.enter Try.prog 3 vs.toArray .normal) []) W)= .next last∧
   Go.step Try.prog last= .ended o w'∧Go.Conc.Good Try.prog (fun v w'=>v= .bool true∧Below W.heap.size W w') last o w' t':=by
 have hg:GoodO (fun b=>b<W.heap.size) (ε0 W) [] ⟨W,fun _=>False⟩:=by
  refine ⟨good_nil W (by simp [Glob,globT,globE]),fun i b h=> ?_,fun b o h=> .inr ?_,fun b h=>h.elim,fun b h=>h⟩
  ·rw [memAt_ge (Nat.zero_le _)] at h;cases h
  ·exact (Array.getElem?_eq_some_iff.1 h).1
 have fin:∀ {v:Value} {s':MS} {x':OW},(∃ ε' y1 m',KL y1 s'∧GoodO (fun b=>b<W.heap.size) ε' m' x'∧(∀ b o,(ε0 W).H b=some o→ε'.H b=some o)∧SatV ε' y1 v)→s'.acts=[]∧v= .bool true∧(∀ b,b<W.heap.size→x'.w.heap[b]? =W.heap[b]?)∧W.heap.size≤x'.w.heap.size:=by
  rintro v s' x' ⟨ε',y1,m',⟨rfl,hs⟩,h1,h2,h3⟩
  refine ⟨hs,?_,fun b hb=> ?_,?_⟩
  ·obtain ⟨cs,e1,e2⟩:=h3
   simp only [SatC] at e1
   subst e1
   exact e2
  ·have e:W.heap[b]? =some W.heap[b]:=Array.getElem?_eq_getElem hb
   rw [e]
   exact h1.good.hv b _ (h2 b _ e)
  ·rcases Nat.eq_zero_or_pos W.heap.size with h0|h0
   ·omega
   ·have:=h1.Fl (W.heap.size - 1) (by omega)
    omega
 by_cases hr:n<1∨8<n
 ·exact fan_law (Φ:=fan0) (cap:=0) (acts:=[]) noInit wf_none fun End=>by
   have:=law_bad (Φ:=fan0) (End:=End) (s:=⟨[],[],[]⟩) (f:=1) (e:=1) (l:=l) (if_pos hr) (by decide) rfl rfl (fun hg vs ha=>run_range hr hg ha) hg ha
   exact fun cs hc=>this cs fun v s' x' fr hR=>hc v s' x' fr (fin hR)
 ·obtain ⟨k,rfl⟩:∃ k:Nat,n=k:=⟨n.toNat,by omega⟩
  by_cases hok:(checkR l).2=0
  ·exact fan_law (Φ:=fanR k l) (cap:=l.length) (acts:=actsR k l) noInit (wf_run (by omega)) fun End=>by
    have:=law_good (End:=End) (by omega) (by omega) hok hg ha
    exact fun cs hc=>this cs fun v s' x' fr hR=>hc v s' x' fr (fin hR)
  ·exact fan_law (Φ:=fan0) (cap:=0) (acts:=[]) noInit wf_none fun End=>by
    have:=law_bad (Φ:=fan0) (End:=End) (s:=⟨[],[],[]⟩) (l:=l) (if_neg hr) hok rfl rfl (fun hg vs ha=>run_check (by omega) (by omega) hok hg ha) hg ha
    exact fun cs hc=>this cs fun v s' x' fr hR=>hc v s' x' fr (fin hR)
theorem lifted (os:Os) (started:os.Started) (H:Type) (enc:TypeId×Value→H):
  ReturnsInLeavingWide {} Try.checked os 3 .any (Rows.stripeRunsSpec.pre6 enc Try.prog Try.f3 Rows.stripeRunsRow.domain false) (Rows.stripeRunsSpec.post enc Try.prog Try.f3 false true false false):=by
 refine returnsInLeavingWide_of_good (C:=Try.checked) own started
  (ChangeSpec.witness6 (enc:=enc) (C:=Try.checked) false ⟨#[],#[.int .i64 0, .slice none 0 0],[]⟩ 8 (by kernel_rfl) (by kernel_rfl) (by kernel_rfl) (by kernel_rfl)) ?_
 intro w tape i _ _ _ hok hpre hholds
 obtain ⟨_,_,_,fn',hfn',_,_,_,_,hval⟩:=hok
 have e:fn'=Try.f3:=Option.some.inj (hfn'.symm.trans Try.func3)
 subst e
 obtain ⟨⟨ds,gs,before,hw,hc⟩,_⟩:=hpre
 have hW:=DataW.Whole.of_heap (w':=w.forCall tape i) (by rfl) hw
 have hW':=hW
 obtain ⟨p,q,hA,hV,rfl,hfz,hnd⟩:=hW
 obtain ⟨rfl,rfl⟩:=trodVars_none hV
 obtain ⟨y,hs,hok⟩:=open_args Ts (by kernel_rfl) hA (fun j t v h1 h2=>hval j t v (by simpa using h1) (by simpa using h2))
 obtain ⟨d1,d2,rfl⟩:=len_two (trod_len hA)
 obtain ⟨N,last,o,w',t',h1,h2,h3,v,rfl,hp,h4⟩:=run _ _ (w.forCall tape i) (satA_conv (A:=A) (lawP y) hs)
 refine ⟨N,last,_,w',t',h1,h2,h3,v,rfl,?_,h4⟩
 obtain ⟨rfl,hb⟩:=hp
 exact ChangeSpec.post_blind (row_close laid (by kernel_rfl) (by kernel_rfl) Try.underlying4 rfl hW' hb rfl)
theorem holds:Rows.StripeRunsSaid:=
 OpenClaim.holds_of_wide_leaving 3 Try.f3 rfl rfl rfl rfl rfl rfl rfl ⟨rfl,rfl,rfl,rfl,rfl⟩ rfl rfl rfl rfl rfl (by kernel_rfl) Try.func3 (by kernel_rfl)
  (of_decide_eq_true (by kernel_rfl)) (by unfold Func.isWrapper;first|(rw [if_pos (by decide+kernel)];kernel_rfl)|(rw [if_neg (by decide+kernel)];exact ⟨rfl,rfl⟩))
  (fun os started H enc _=>lifted os started H enc)
#print axioms holds
end Go.Proofs.Ytpajfggdnobheaa.StripeRuns
