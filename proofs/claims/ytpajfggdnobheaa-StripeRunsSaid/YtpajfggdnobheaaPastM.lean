/- A part of the proof of StripeRuns. Conditions: none. -/
import Derived.Test.YtpajfggdnobheaaAheadQ
import Derived.Test.YtpajfggdnobheaaTraceM
set_option linter.unusedVariables false
set_option linter.unusedSimpArgs false
open Go Go.Sx Go.Proofs
namespace Go.Proofs.Ytpajfggdnobheaa.St
variable {main:Bool} {Fz:Nat→Prop}
open Go.Proofs.Ytpajfggdnobheaa.D Go.Proofs.Ytpajfggdnobheaa.Tr Go.Proofs.Ytpajfggdnobheaa.Ah Go.Proofs.Ytpajfggdnobheaa.Ps Go.Proofs.Ytpajfggdnobheaa.Od
def Le' (l:List Ev) (a b:Nat):Prop:=a=b∨Ahd l a b
def TS (l:List Ev) (j t:Nat) (i:Nat):Prop:= ∃ c,c<j∧Le' l i c∧((at' l c).thr.toNat=t∨(at' l c).kind=5∧(at' l c).obj.toNat=t)
def LS (l:List Ev) (j m:Nat) (i:Nat):Prop:= ∃ c,c<j∧Le' l i c∧(at' l c).kind=4∧(at' l c).obj.toNat=m
def VS (l:List Ev) (j m:Nat) (i:Nat):Prop:= ∃ c,c<j∧Le' l i c∧(at' l c).kind=8∧(at' l c).obj.toNat=m
section
variable {l:List Ev} (hok:(checkR l).2=0)
include hok
theorem bnd {i:Nat} (hi:i<l.length):0≤(at' l i).thr∧(at' l i).thr<6∧0≤(at' l i).obj∧(at' l i).obj<many (at' l i).kind:=(isEv_iff _).1 (ok_isEv hok i hi)
theorem dir_iff {c j:Nat} (hc:c<j) (hj:j<l.length):dirL l c j=true↔
  ((at' l c).thr.toNat=(at' l j).thr.toNat∨(at' l c).kind=5∧(at' l c).obj.toNat=(at' l j).thr.toNat)∨((at' l j).kind=3∧(at' l c).kind=4∧(at' l c).obj.toNat=(at' l j).obj.toNat)∨
  ((at' l j).kind=7∧(at' l c).kind=8∧(at' l c).obj.toNat=(at' l j).obj.toNat)∨((at' l j).kind=6∧((at' l c).thr.toNat=(at' l j).obj.toNat∨(at' l c).kind=5∧(at' l c).obj.toNat=(at' l j).obj.toNat)):=by
 have b:=bnd hok (show c<l.length by omega)
 have b':=bnd hok hj
 have e1:(at' l c).thr.toNat=(at' l j).thr.toNat↔(at' l c).thr=(at' l j).thr:=by omega
 have e2:(at' l c).obj.toNat=(at' l j).thr.toNat↔(at' l c).obj=(at' l j).thr:=by omega
 have e3:(at' l c).obj.toNat=(at' l j).obj.toNat↔(at' l c).obj=(at' l j).obj:=by omega
 have e4:(at' l c).thr.toNat=(at' l j).obj.toNat↔(at' l j).obj=(at' l c).thr:=by omega
 rw [e1,e2,e3,e4]
 simp only [dirL,dirP,Bool.or_eq_true,Bool.and_eq_true,decide_eq_true_eq,at']
 constructor
 ·rintro (((((h|⟨⟨h,g⟩,k⟩)|⟨h,g⟩)|⟨h,g⟩)|⟨⟨h,g⟩,k⟩)|⟨⟨h,g⟩,k⟩)
  ·exact .inl (.inl h)
  ·exact .inr (.inl ⟨g,h,k⟩)
  ·exact .inl (.inr ⟨h,g⟩)
  ·exact .inr (.inr (.inr ⟨h, .inl g⟩))
  ·exact .inr (.inr (.inl ⟨g,h,k⟩))
  ·exact .inr (.inr (.inr ⟨g, .inr ⟨h,k⟩⟩))
 ·rintro ((h|⟨h,g⟩)|⟨g,h,k⟩|⟨g,h,k⟩|⟨g,h|⟨h,k⟩⟩)
  ·exact .inl (.inl (.inl (.inl (.inl h))))
  ·exact .inl (.inl (.inl (.inr ⟨h,g⟩)))
  ·exact .inl (.inl (.inl (.inl (.inr ⟨⟨h,g⟩,k⟩))))
  ·exact .inl (.inr ⟨⟨h,g⟩,k⟩)
  ·exact .inl (.inl (.inr ⟨g,h⟩))
  ·exact .inr ⟨⟨h,g⟩,k⟩
theorem past_iff {j:Nat} (hj:j<l.length) (i:Nat):Ahd l i j↔TS l j (at' l j).thr.toNat i∨((at' l j).kind=3∧LS l j (at' l j).obj.toNat i)∨((at' l j).kind=7∧VS l j (at' l j).obj.toNat i)∨((at' l j).kind=6∧TS l j (at' l j).obj.toNat i):=by
 unfold Ahd
 rw [Pth.last]
 have key:∀ c,upP (dirL l) c j=true↔c<j∧dirL l c j=true:=fun c=>by simp [upP]
 constructor
 ·rintro ⟨c,h1,h2⟩
  obtain ⟨hc,hd⟩:=(key c).1 h1
  rcases (dir_iff hok hc hj).1 hd with h|⟨k,h⟩|⟨k,h⟩|⟨k,h⟩
  ·exact .inl ⟨c,hc,h2,h⟩
  ·exact .inr (.inl ⟨k,c,hc,h2,h⟩)
  ·exact .inr (.inr (.inl ⟨k,c,hc,h2,h⟩))
  ·exact .inr (.inr (.inr ⟨k,c,hc,h2,h⟩))
 ·rintro (⟨c,hc,h2,h⟩|⟨k,c,hc,h2,h⟩|⟨k,c,hc,h2,h⟩|⟨k,c,hc,h2,h⟩)
  ·exact ⟨c,(key c).2 ⟨hc,(dir_iff hok hc hj).2 (.inl h)⟩,h2⟩
  ·exact ⟨c,(key c).2 ⟨hc,(dir_iff hok hc hj).2 (.inr (.inl ⟨k,h⟩))⟩,h2⟩
  ·exact ⟨c,(key c).2 ⟨hc,(dir_iff hok hc hj).2 (.inr (.inr (.inl ⟨k,h⟩)))⟩,h2⟩
  ·exact ⟨c,(key c).2 ⟨hc,(dir_iff hok hc hj).2 (.inr (.inr (.inr ⟨k,h⟩)))⟩,h2⟩
end
end Go.Proofs.Ytpajfggdnobheaa.St
