/- A part of the proof of StripeRuns. Conditions: none. -/
import Derived.Test.YtpajfggdnobheaaCo3
import Derived.Test.YtpajfggdnobheaaCoT
import Derived.Conc.CrowdComm
import Derived.Conc.TokenWalk
set_option linter.unusedVariables false
set_option linter.unusedSimpArgs false
namespace Go.Sx
open Go Go.Conc
def RecvAt (P:Program) (main:Bool) (c:Nat) (K:Value→Bool→Goroutine→Prop) (g:Goroutine):Prop:=
 g.status= .running∧∃ z shape,(∀ w,stepG P main g w= .comm g #[rcase c z] true shape w #[])∧(∀ v,K v true (g.finishComm P #[rcase c z] shape 0 v true))∧K z false (g.finishComm P #[rcase c z] shape 0 z false)
def SendAt (P:Program) (main:Bool) (c:Nat) (v:Value) (K:Goroutine→Prop) (g:Goroutine):Prop:=
 g.status= .running∧∃ z shape,(∀ w,stepG P main g w= .comm g #[scase c v z] true shape w #[])∧K (g.finishComm P #[scase c v z] shape 0 undef false)
structure Fan where
 n:Nat
 msgs:Nat→List Value
 Out:Nat→Value→(Nat→Prop)→World→Prop
section
variable (P:Program) (F:Nat→Prop) (Φ:Fan)
def HandE (g:Goroutine):Prop:= ∃ k,QuitsIn P k g
def OutStop (cout j:Nat) (g:Goroutine) (x:OW):Prop:= ∃ v B,(∀ b,B b→x.O b)∧Φ.Out j v B x.w∧SendAt P false cout v (HandE P) g
def HandO (cout j:Nat):Goroutine→OW→Prop:=Co P false F (OutStop P Φ cout j)
def HandStop (cin cout j:Nat):List Value→Goroutine→OW→Prop
 |[]=>fun g x=>RecvAt P false cin (fun _ ok g'=>ok=false→HandO P F Φ cout j g' x) g
 |m::r=>fun g x=>RecvAt P false cin (fun v ok g'=>ok=true→v=m→Co P false F (HandStop cin cout j r) g' x) g
def HandS (cin cout j:Nat) (l:List Value):Goroutine→OW→Prop:=Co P false F (HandStop P F Φ cin cout j l)
inductive MAct where
 |mk (cap:Nat)
 |go (j:Nat)
 |send (j:Nat) (v:Value)
 |close (j:Nat)
 |recv
def MainStop (End:List Nat→Goroutine→OW→Prop):List MAct→List Nat→List Nat→Goroutine→OW→Prop
 |[],cs,got=>End got
 | .mk cap::r,cs,got=>fun g x=>g.status= .running∧∃ g',stepG P true g x.w= .go g' (x.w.alloc (.chan cap #[] false 0 0 false)) #[]∧
   Co P true F (MainStop End r (cs++[x.w.heap.size]) got) g' ⟨x.w.alloc (.chan cap #[] false 0 0 false),x.O⟩
 | .go j::r,cs,got=>fun g x=>g.status= .running∧∃ g' child,stepG P true g x.w= .spawn g' child x.w #[]∧g'.status= .running∧child.status= .running∧
   (∃ cin cout,cs[j+1]? =some cin∧cs[0]? =some cout∧HandS P F Φ cin cout j (Φ.msgs j) child ⟨x.w,fun _=>False⟩)∧Co P true F (MainStop End r cs got) g' x
 | .send j v::r,cs,got=>fun g x=> ∃ c,cs[j+1]? =some c∧SendAt P true c v (fun g'=>Co P true F (MainStop End r cs got) g' x) g
 | .close j::r,cs,got=>fun g x=> ∃ c,cs[j+1]? =some c∧g.status= .running∧mayWake P g=true∧∃ g',g'.status= .running∧
   (∀ w cap buf s r tm,w.heap[c]? =some (.chan cap buf false s r tm)→stepG P true g w= .go g' (w.setChan c cap buf true s r tm) (closeEvents c))∧Co P true F (MainStop End r cs got) g' x
 | .recv::r,cs,got=>fun g x=> ∃ c,cs[0]? =some c∧RecvAt P true c (fun v ok g'=>ok=true→∀ j B w',j<Φ.n→j∉got→Φ.Out j v B w'→
   Rel x.O F x.w w'→(∀ b,B b→b<w'.heap.size∧¬ x.O b∧¬ F b)→Co P true F (MainStop End r cs (got++[j])) g' ⟨w',fun b=>x.O b∨B b⟩) g
end
section
variable {P:Program} {F:Nat→Prop} {Φ:Fan}
theorem OutStop.running {cout j:Nat} {g:Goroutine} {x:OW} (h:OutStop P Φ cout j g x):g.status= .running:=by
 obtain ⟨v,B,_,_,h⟩:=h;exact h.1
theorem HandStop.running {cin cout j:Nat}:∀ {l:List Value} {g:Goroutine} {x:OW},HandStop P F Φ cin cout j l g x→g.status= .running
 |[],_,_,h=>h.1
 |_::_,_,_,h=>h.1
theorem MainStop.running {End:List Nat→Goroutine→OW→Prop} (hE:∀ got g x,End got g x→g.status= .running):∀ {acts:List MAct} {cs got:List Nat} {g:Goroutine} {x:OW},MainStop P F Φ End acts cs got g x→g.status= .running
 |[],_,_,_,_,h=>hE _ _ _ h
 | .mk _::_,_,_,_,_,h=>h.1
 | .go _::_,_,_,_,_,h=>h.1
 | .send _ _::_,_,_,_,_,h=>by obtain ⟨c,_,h⟩:=h;exact h.1
 | .close _::_,_,_,_,_,h=>by obtain ⟨c,_,h,_⟩:=h;exact h
 | .recv::_,_,_,_,_,h=>by obtain ⟨c,_,h⟩:=h;exact h.1
end
end Go.Sx
