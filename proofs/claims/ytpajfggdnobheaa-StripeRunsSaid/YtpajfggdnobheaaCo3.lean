/- A part of the proof of StripeRuns. Conditions: none. -/
import Derived.Test.YtpajfggdnobheaaSx13d
set_option linter.unusedVariables false
set_option linter.unusedSimpArgs false
namespace Go.Sx
open Go Go.Conc
section acc
variable {α:Type _}
theorem acc_two {β:Type _} {r:α→α→Prop} {s:β→β→Prop} {a:α} (ha:Acc r a):∀ {b:β},Acc s b→Acc (fun p q:α×β=>(r p.1 q.1∧p.2=q.2)∨(p.1=q.1∧s p.2 q.2)) (a,b):=by
 induction ha with
 |intro a _ iha=>
  intro b hb
  induction hb with
  |intro b hb' ihb=>
   refine ⟨_,fun p hp=> ?_⟩
   obtain ⟨p1,p2⟩:=p
   rcases hp with ⟨h1,h2⟩|⟨h1,h2⟩
   ·simp only at h1 h2
    subst h2
    exact iha p1 h1 ⟨_,hb'⟩
   ·simp only at h1 h2
    subst h1
    exact ihb p2 h2
def Near (r:α→α→Prop) (l' l:List α):Prop:= ∃ (i:Nat) (a' a:α),l[i]? =some a∧r a' a∧l'=l.set i a'
theorem acc_list {r:α→α→Prop}:∀ {l:List α},(∀ a∈l,Acc r a)→Acc (Near r) l
 |[],_=>⟨_,fun l' ⟨i,a',a,h,_⟩=>by simp at h⟩
 |a::l,h=>by
  have h1:=acc_two (h a (by simp)) (acc_list (l:=l) fun b hb=>h b (by simp [hb]))
  have key:∀ p:α×List α,Acc (fun p q:α×List α=>(r p.1 q.1∧p.2=q.2)∨(p.1=q.1∧Near r p.2 q.2)) p→Acc (Near r) (p.1::p.2):=by
   intro p hp
   induction hp with
   |intro p _ ih=>
    refine ⟨_,fun l' hl=> ?_⟩
    obtain ⟨i,a',a,h1,h2,rfl⟩:=hl
    cases i with
    |zero=>
     simp only [List.getElem?_cons_zero,Option.some.injEq] at h1
     subst h1
     exact ih (a',p.2) (.inl ⟨h2,rfl⟩)
    |succ i=>exact ih (p.1,p.2.set i a') (.inr ⟨rfl,i,a',a,by simpa using h1,h2,rfl⟩)
  exact key (a,l) h1
end acc
structure Node where
 main:Bool
 S:Goroutine→OW→Prop
 g:Goroutine
 x:OW
section
variable {P:Program} {F:Nat→Prop}
def Node.stopped (F:Nat→Prop) (n:Node):Prop:= ∀ w1,Rel n.x.O F n.x.w w1→n.S n.g ⟨w1,n.x.O⟩
def Child (P:Program) (F:Nat→Prop) (n' n:Node):Prop:=
 ¬ n.stopped F∧n'.main=n.main∧n'.S=n.S∧∃ w1 w' es,Rel n.x.O F n.x.w w1∧stepG P n.main n.g w1= .go n'.g w' es∧n'.x=OW.next n.x.O w1 w'
def Node.walks (P:Program) (F:Nat→Prop) (n:Node):Prop:=Co P n.main F n.S n.g n.x
theorem Co.acc {S:Goroutine→OW→Prop} {main:Bool} {g:Goroutine} {x:OW} (h:Co P main F S g x):Acc (Child P F) ⟨main,S,g,x⟩:=by
 induction h with
 |stop h=>exact ⟨_,fun n' hc=>absurd h hc.1⟩
 |step nx wx ex hs' h1 h2 ih=>
  refine ⟨_,fun n' hc=> ?_⟩
  obtain ⟨_,hm,hS,w1,w',es,hr,hst,hx⟩:=hc
  have h3:=(h1 w1 hr).1
  rw [hst] at h3
  simp only [GStep.go.injEq] at h3
  obtain ⟨e1,e2,e3⟩:=h3
  have:=ih w1 hr
  rw [← e1,← e2,← hx] at this
  cases n' with
  |mk m' S' g' x'=>
   simp only at hm hS this
   subst hm hS
   exact this
theorem Node.walks.acc {n:Node} (h:n.walks P F):Acc (Child P F) n:=Co.acc h
theorem Node.walks.next {n:Node} (h:n.walks P F) {w1:World} (hr:Rel n.x.O F n.x.w w1):
  n.stopped F∨∃ g' w' es,n.g.status= .running∧stepG P n.main n.g w1= .go g' w' es∧Gua n.x.O F w1 w' es∧(⟨n.main,n.S,g',OW.next n.x.O w1 w'⟩:Node).walks P F∧Child P F ⟨n.main,n.S,g',OW.next n.x.O w1 w'⟩ n:=by
 by_cases hst:n.stopped F
 ·exact .inl hst
 ·right
  cases h with
  |stop h=>exact absurd h hst
  |step nx wx ex hs h1 h2=>
   obtain ⟨k1,k2⟩:=h1 w1 hr
   exact ⟨_,_,_,hs,k1,k2,h2 w1 hr,hst,rfl,rfl,w1,_,_,hr,k1,rfl⟩
end
end Go.Sx
