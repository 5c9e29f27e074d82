/- A part of the proof of StripeRuns. Conditions: none. -/
import Derived.Test.YtpajfggdnobheaaClockJ
set_option linter.unusedVariables false
set_option linter.unusedSimpArgs false
namespace Go.Sx
open Go
variable {P:Program} {main:Bool} {Fz:Nat→Prop}
def DT.sum {α β:Type} (t1 t2:TypeId) (a:DT α) (b:DT β) (hne:t2≠t1):DT (α ⊕ β) where
 dft:= .inl a.dft
 emb:=fun y=>match y with
  | .inl x=> .iface t1 (a.emb x)
  | .inr x=> .iface t2 (b.emb x)
 decV:=fun m x=>match x with
  | .iface t y=>if t=t1 then .inl (a.decV m y) else .inr (b.decV m y)
  |_=> .inl a.dft
 decP:=fun m x=>match x with
  | .iface t y=>if t=t1 then a.decP m y else (t=t2∧b.decP m y)
  |_=>False
 ok:=fun {ε m w} g {x} h {cs} hs=>by
  cases x with
  |iface t y=>
   simp only at h ⊢
   simp only [SatC] at hs
   obtain ⟨xs,h1,h2⟩:=hs
   by_cases e:t=t1
   ·rw [if_pos e] at h ⊢
    simp only [SatC]
    exact ⟨xs,a.ok g h h1,by rw [h2,a.agg h,e]⟩
   ·rw [if_neg e] at h ⊢
    simp only [SatC]
    exact ⟨xs,b.ok g h.2 h1,by rw [h2,b.agg h.2,h.1]⟩
  |_=>exact h.elim
 agg:=fun {m x} h=>by
  cases x with
  |iface t y=>
   simp only
   by_cases e:t=t1
   ·rw [if_pos e];rfl
   ·rw [if_neg e];rfl
  |_=>exact h.elim
 vE:=fun m y=>by
  cases y with
  |inl x=>simp [a.vE]
  |inr x=>simp [b.vE,hne]
 pE:=fun m y=>by
  cases y with
  |inl x=>simp [a.pE]
  |inr x=>simp [b.pE,hne]
 ren:=fun r y=>by cases y<;>simp only [Sx.ren,a.ren,b.ren]
 kill:=fun i y=>by cases y<;>simp only [Sx.kill,a.kill,b.kill]
 val:=fun y=>by cases y<;>rfl
theorem noH_iface {t:TypeId} {x:SV} (h:NoH x):NoH (.iface t x):=by
 intro ε ε' cs h1 h2 h3 hc
 simp only [SatC] at hc ⊢
 obtain ⟨xs,k1,k2⟩:=hc
 exact ⟨xs,h ε ε' xs h1 h2 h3 k1,k2⟩
instance {α β:Type} {t1 t2:TypeId} {a:DT α} {b:DT β} {hne:t2≠t1} [ha:Flat a] [hb:Flat b]:Flat (DT.sum t1 t2 a b hne):=⟨fun y=>by
 cases y with
 |inl x=>exact noH_iface (ha.noH x)
 |inr x=>exact noH_iface (hb.noH x)⟩
theorem sum_inl {α β:Type} (t1 t2:TypeId) (a:DT α) (b:DT β) (hne:t2≠t1) (x:α):(DT.sum t1 t2 a b hne).emb (.inl x)= .iface t1 (a.emb x):=nr rfl
theorem sum_inr {α β:Type} (t1 t2:TypeId) (a:DT α) (b:DT β) (hne:t2≠t1) (x:β):(DT.sum t1 t2 a b hne).emb (.inr x)= .iface t2 (b.emb x):=nr rfl
theorem sum_decV {α β:Type} (t1 t2:TypeId) (a:DT α) (b:DT β) (hne:t2≠t1) (m:List Res) (t:TypeId) (y:SV):(DT.sum t1 t2 a b hne).decV m (.iface t y)=if t=t1 then .inl (a.decV m y) else .inr (b.decV m y):=nr rfl
theorem sum_decP {α β:Type} (t1 t2:TypeId) (a:DT α) (b:DT β) (hne:t2≠t1) (m:List Res) (t:TypeId) (y:SV):(DT.sum t1 t2 a b hne).decP m (.iface t y)=if t=t1 then a.decP m y else (t=t2∧b.decP m y):=nr rfl
attribute [go_sem] sum_inl sum_inr sum_decV sum_decP
end Go.Sx
