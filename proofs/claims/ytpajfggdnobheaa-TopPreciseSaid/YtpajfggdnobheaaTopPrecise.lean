/- The law TopPrecise hands back true, and what it reads stands as it did: for every start, in whatever order the hands go. Conditions: none. -/
import Derived.Test.YtpajfggdnobheaaHa
import Derived.Test.YtpajfggdnobheaaIa
import Derived.WalkKit
import Derived.ProofKit
import Derived.OpenShut
import Derived.Conc.Holds
set_option linter.unusedVariables false
set_option linter.unusedSimpArgs false
section
set_option maxRecDepth 100000
open Go Go.Sx Go.Proofs Go.ChangeShapes Go.WideShapes Go.ChangeAt Go.RowKit
namespace Go.Proofs.Ytpajfggdnobheaa.TopPrecise
variable {main:Bool} {Fz:Nat->Prop}
open D Tr Fu Fa Sp
theorem own:ownKnob Try.prog.godebug=none:=by kernel_rfl
theorem laid:laidOutB Try.prog=true:=by kernel_rfl
theorem noInit:Try.prog.inits.idxOf? 5=none:=by kernel_rfl
abbrev A:DA (List Ev×Int×Unit):= .two fD .int
abbrev Ts:List TT:=[.sl 3 (.st [.int .i64, .int .i64, .int .i64]), .int .i64]
theorem arQ(y:Bc Ts):A.decP [] (rJ Ts y):=⟨⟨rfl,λ_ _=>⟨rfl,rfl,rfl,trivial⟩⟩,rfl,trivial⟩
theorem run(l:List Ev)(n:Int)(W:World){vs:List Value}(ha:bT [fD.aA l, .int .i64 n] (J0 W) vs):
  ∃ N last o w' t',runNT Try.prog (N+1) (Go.Conc.solo (Go.Conc.G (Frame.enter Try.prog 5 vs.toArray .normal) []) W) #[]=(.ended o w',t')/\runN Try.prog N (Go.Conc.solo (Go.Conc.G (Frame.enter Try.prog 5 vs.toArray .normal) []) W)= .next last/\
   Go.step Try.prog last= .ended o w'/\Go.Conc.Good Try.prog (λv w'=>v= .bool true/\Below W.heap.size W w') last o w' t':=by
 have hg:fP (λb=>b<W.heap.size) (J0 W) [] ⟨W,λ_=>False⟩:=by
  refine⟨Qv W (by simp[Glob,adL,adM]),λi b h=> ?_,λb o h=> .inr ?_,λb h=>h.elim,λb h=>h⟩
  ·rw[bI (Nat.zero_le _)] at h;cases h
  ·exact(Array.getElem?_eq_some_iff.1 h).1
 have fin:∀ {v:Value} {s':MS} {x':OW},(∃ J' y1 m',Pz.KT y1 s'/\fP (λb=>b<W.heap.size) J' m' x'/\(∀ b o,(J0 W).H b=some o->J'.H b=some o)/\bK J' y1 v)->s'.acts=[]/\v= .bool true/\(∀ b,b<W.heap.size->x'.w.heap[b]? =W.heap[b]?)/\W.heap.size<=x'.w.heap.size:=by
  rintro v s' x' ⟨J',y1,m',⟨rfl,hs⟩,h1,h2,h3⟩;refine⟨hs,?_,λb hb=> ?_,?_⟩
  ·obtain⟨cs,e1,e2⟩:=h3;simp only[ah] at e1;subst e1;exact e2
  ·have e:W.heap[b]? =some W.heap[b]:=Array.getElem?_eq_getElem hb;rw[e];exact h1.good.hv b _ (h2 b _ e)
  ·rcases Nat.eq_zero_or_pos W.heap.size with h0|h0
   ·omega
   ·have:=h1.Fl (W.heap.size - 1) (by omega)
    omega
 by_cases hok:(bH l).2=0
 ·obtain⟨k,hk,hr⟩:=Pz.Yv n;exact Yw (Φ:=AQ (k+1) l) (cap:=l.length) (acts:=QI (k+1) l) noInit (anB (by omega)) λEnd=>by have:=Pz.ajB (End:=End) hk hr hok hg ha;exact λcs hc=>this cs λv s' x' fr hR=>hc v s' x' fr (fin hR)
 ·exact Yw (Φ:=anC) (cap:=0) (acts:=[]) noInit ajC λEnd=>by have:=Pz.anD (Φ:=anC) (End:=End) (s:=⟨[],[],[]⟩) hok rfl hg ha;exact λcs hc=>this cs λv s' x' fr hR=>hc v s' x' fr (fin hR)
theorem lifted(os:Os)(started:os.Started)(H:Type)(enc:TypeId×Value->H):
  ReturnsInLeavingWide {} Try.checked os 5 .any (Rows.topPreciseSpec.pre6 enc Try.prog Try.f5 Rows.topPreciseRow.domain false) (Rows.topPreciseSpec.post enc Try.prog Try.f5 false true false false):=by
 refine returnsInLeavingWide_of_good (C:=Try.checked) own started
  (ChangeSpec.witness6 (enc:=enc) (C:=Try.checked) false ⟨#[],#[.slice none 0 0, .int .i64 0],[]⟩ 8 (by kernel_rfl) (by kernel_rfl) (by kernel_rfl) (by kernel_rfl)) ?_
 intro w tape i _ _ _ hok hpre hholds;obtain⟨_,_,_,fn',hfn',_,_,_,_,hval⟩:=hok;have e:fn'=Try.f5:=Option.some.inj (hfn'.symm.trans Try.func5);subst e;obtain⟨⟨ds,gs,before,hw,hc⟩,_⟩:=hpre;have hW:=DataW.Whole.of_heap (w':=w.forCall tape i) (by rfl) hw
 have hW':=hW;obtain⟨p,q,hA,hV,rfl,hfz,hnd⟩:=hW;obtain⟨rfl,rfl⟩:=trodVars_none hV;obtain⟨y,hs,hok⟩:=KN Ts (by kernel_rfl) hA (λj t v h1 h2=>hval j t v (by simpa using h1) (by simpa using h2))
 obtain⟨d1,d2,rfl⟩:=ajD (Rn hA);obtain⟨N,last,o,w',t',h1,h2,h3,v,rfl,hp,h4⟩:=run _ _ (w.forCall tape i) (aaR (A:=A) (arQ y) hs);refine⟨N,last,_,w',t',h1,h2,h3,v,rfl,?_,h4⟩;obtain⟨rfl,hb⟩:=hp;exact ChangeSpec.post_blind (aa6 laid (by kernel_rfl) (by kernel_rfl) Try.underlying4 rfl hW' hb rfl)
theorem holds:Rows.TopPreciseSaid:=
 OpenClaim.holds_of_wide_leaving 5 Try.f5 rfl rfl rfl rfl rfl rfl rfl ⟨rfl,rfl,rfl,rfl,rfl⟩ rfl rfl rfl rfl rfl (by kernel_rfl) Try.func5 (by kernel_rfl)
  (of_decide_eq_true (by kernel_rfl)) (by unfold Func.isWrapper;first|(rw[if_pos (by decide+kernel)];kernel_rfl)|(rw[if_neg (by decide+kernel)];exact⟨rfl,rfl⟩))
  (λos started H enc _=>lifted os started H enc)
#print axioms holds
end Go.Proofs.Ytpajfggdnobheaa.TopPrecise
end
