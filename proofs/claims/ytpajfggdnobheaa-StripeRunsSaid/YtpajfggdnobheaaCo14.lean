/- A part of the proof of StripeRuns. Conditions: none. -/
import Derived.Test.YtpajfggdnobheaaCo13
import Derived.Test.YtpajfggdnobheaaSx46
set_option linter.unusedVariables false
set_option linter.unusedSimpArgs false
namespace Go.Sx
open Go
section
variable {F:Nat→Prop} {n:Nat} {d:List Deferred} {H0 X:Nat→Option Obj} {ε:Env} {τ:Fr} {m:List Res} {a:Act} {x:OW}
theorem own_pin {i:Nat} {T T':TypeId} {w:Nat} {l:List SV} (hm:memAt m i= .vec T w l) (hi:i<m.length) (j:Nat):ownR ε j (memAt (m.set i (.vec T' w l)) j)=ownR ε j (memAt m j):=by
 rw [memAt_set _ hi]
 split
 ·rename_i e;subst e;rw [hm];rfl
 ·rfl
theorem Good.pin {wd:World} {i:Nat} {T:TypeId} {w:Nat} {l:List SV} (g:Good ε m wd) (hm:memAt m i= .vec T w l) (hT:T<pinB):Good ε (m.set i (.vec (T+pinB) w l)) wd:=by
 have hi:i<m.length:=memAt_lt (by rw [hm];nofun)
 refine ⟨by simp [g.n],fun j=> ?_,fun a b x hab h1 h2=> ?_,fun a b hb=> ?_,g.hv,g.gl⟩
 ·rw [memAt_set _ hi]
  split
  ·rename_i e
   subst e
   obtain ⟨xs,h1,h2⟩:ResOK ε j wd (.vec T w l):=hm▸g.res j
   exact ⟨xs,⟨T, .inr rfl,h1.get hT⟩,h2⟩
  ·exact g.res j
 ·rw [own_pin hm hi] at h1 h2;exact g.disj a b x hab h1 h2
 ·rw [own_pin hm hi] at hb;exact g.sep a b hb
theorem TS.pin (h:TS F n d H0 X ε τ m a x) {i:Nat} {T:TypeId} {w:Nat} {l:List SV} (hm:memAt m i= .vec T w l) (hT:T<pinB):TS F n d H0 X ε τ (m.set i (.vec (T+pinB) w l)) a x:=by
 have hi:i<m.length:=memAt_lt (by rw [hm];nofun)
 refine ⟨⟨h.g.good.pin hm hT,fun j b hb=> ?_,h.g.H,h.g.Ol,h.g.Fl⟩,h.s,h.d,fun b o hb=> ?_,h.h⟩
 ·rw [own_pin hm hi] at hb;exact h.g.own j b hb
 ·obtain ⟨h1,h2,h3,h4⟩:=h.x b o hb
  exact ⟨h1,h2,h3,fun j hj=>h4 j (by rw [own_pin hm hi] at hj;exact hj)⟩
theorem TS.nilVec (h:TS F n d H0 X ε τ m a x) {k:Nat} (hk:k<n) (hl:look k τ= .nils) (T:TypeId) (w:Nat):TS F n d H0 X (ε.more 0 (.slice none 0 0)) (.put k (.vec m.length 0) τ) (m++[.vec T w []]) a x:=by
 have h3:=h.vec (T:=T) (w:=w) (l:=[]) (v:= .slice none 0 0) (xs:=[]) ⟨by simp, .inl ⟨rfl,rfl⟩⟩ (fun j hj=>absurd hj (Nat.not_lt_zero _)) (fun b hb=>by cases hb)
 have hval:a.tmps.getD k undef= .slice none 0 0:=sat_nils (hl▸h.s.sat k)
 have e:(ε.more 0 (.slice none 0 0)).vv m.length= .slice none 0 0:=by simp [Env.more,h.g.good.n]
 exact h3.know hk (y:= .vec m.length 0) ⟨[.slice none 0 0],⟨by rw [h3.g.good.n];simp, .inl ⟨e,rfl⟩,by rw [e]⟩,hval⟩
end
end Go.Sx
