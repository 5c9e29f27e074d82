/- States of a program that runs: what the package prog makes of them. Conditions: none. -/
import Derived.Test.YtohbjnpafpcbkaaProgC
import Derived.Test.YtohbjnpafpcbkaaTraceR
import Derived.Test.YtohbjnpafpcbkaaEqs
import Derived.Test.YtohbjnpafpcbkaaCpy
import Derived.Test.YtohbjnpafpcbkaaSx32
section
set_option linter.unusedSimpArgs false
set_option linter.unusedVariables false
set_option maxRecDepth 100000
open Go Go.Sx Go.Proofs
namespace Go.Proofs.Ytohbjnpafpcbkaa.D
structure En where
  mem : Nat → Int
  vols : Nat → Int
  has : Nat → Int
  done : Bool
  stuck : Bool
abbrev tEn : TT := .st [.arr 8 1 (.int .i64), .arr 4 1 (.int .i64), .arr 6 1 (.int .i64), .bool, .bool]
def dEn : DT En := (DT.ofTT tEn).iso (fun x => ⟨x.1, x.2.1, x.2.2.1, x.2.2.2.1, x.2.2.2.2.1⟩) (fun e => (e.mem, e.vols, e.has, e.done, e.stuck, ())) (fun _ => rfl) (fun _ => rfl)
instance : Flat dEn := (Flat.ofTT rfl).iso
theorem en_emb (e : En) : dEn.emb e = .agg [.arr 8 1 fun i => .int .i64 (e.mem i), .arr 4 1 fun i => .int .i64 (e.vols i), .arr 6 1 fun i => .int .i64 (e.has i), .bool e.done, .bool e.stuck] := nr rfl
theorem en_decV (m : List Res) (f g h : Nat → Int) (a b : Bool) : dEn.decV m (.agg [.arr 8 1 fun i => .int .i64 (f i), .arr 4 1 fun i => .int .i64 (g i), .arr 6 1 fun i => .int .i64 (h i), .bool a, .bool b]) = ⟨f, g, h, a, b⟩ := nr rfl
theorem en_decP (m : List Res) (f g h : Nat → Int) (a b : Bool) : dEn.decP m (.agg [.arr 8 1 fun i => .int .i64 (f i), .arr 4 1 fun i => .int .i64 (g i), .arr 6 1 fun i => .int .i64 (h i), .bool a, .bool b]) = True := eq_true ⟨⟨rfl, rfl, fun _ _ => rfl⟩, ⟨rfl, rfl, fun _ _ => rfl⟩, ⟨rfl, rfl, fun _ _ => rfl⟩, trivial, trivial, trivial⟩
theorem en_eta (e : En) : (⟨e.mem, e.vols, e.has, e.done, e.stuck⟩ : En) = e := nr rfl
attribute [go_sem] en_emb en_decV en_decP en_eta
structure Sta where
  en : En
  at' : Nat → Int
  begun : Nat → Bool
  owner : Nat → Int
def dSta : DT Sta := (DT.ofTT (.st [tEn, .arr 6 1 (.int .i64), .arr 6 1 .bool, .arr 5 1 (.int .i64)])).iso (fun x => ⟨⟨x.1.1, x.1.2.1, x.1.2.2.1, x.1.2.2.2.1, x.1.2.2.2.2.1⟩, x.2.1, x.2.2.1, x.2.2.2.1⟩) (fun s => ((s.en.mem, s.en.vols, s.en.has, s.en.done, s.en.stuck, ()), s.at', s.begun, s.owner, ())) (fun _ => rfl) (fun _ => rfl)
instance : Flat dSta := (Flat.ofTT rfl).iso
theorem sta_emb (s : Sta) : dSta.emb s = .agg [.agg [.arr 8 1 fun i => .int .i64 (s.en.mem i), .arr 4 1 fun i => .int .i64 (s.en.vols i), .arr 6 1 fun i => .int .i64 (s.en.has i), .bool s.en.done, .bool s.en.stuck], .arr 6 1 fun i => .int .i64 (s.at' i), .arr 6 1 fun i => .bool (s.begun i), .arr 5 1 fun i => .int .i64 (s.owner i)] := nr rfl
theorem sta_decV (m : List Res) (f g h k o : Nat → Int) (a b : Bool) (l : Nat → Bool) : dSta.decV m (.agg [.agg [.arr 8 1 fun i => .int .i64 (f i), .arr 4 1 fun i => .int .i64 (g i), .arr 6 1 fun i => .int .i64 (h i), .bool a, .bool b], .arr 6 1 fun i => .int .i64 (k i), .arr 6 1 fun i => .bool (l i), .arr 5 1 fun i => .int .i64 (o i)]) = ⟨⟨f, g, h, a, b⟩, k, l, o⟩ := nr rfl
theorem sta_decP (m : List Res) (f g h k o : Nat → Int) (a b : Bool) (l : Nat → Bool) : dSta.decP m (.agg [.agg [.arr 8 1 fun i => .int .i64 (f i), .arr 4 1 fun i => .int .i64 (g i), .arr 6 1 fun i => .int .i64 (h i), .bool a, .bool b], .arr 6 1 fun i => .int .i64 (k i), .arr 6 1 fun i => .bool (l i), .arr 5 1 fun i => .int .i64 (o i)]) = True := eq_true ⟨⟨⟨rfl, rfl, fun _ _ => rfl⟩, ⟨rfl, rfl, fun _ _ => rfl⟩, ⟨rfl, rfl, fun _ _ => rfl⟩, trivial, trivial, trivial⟩, ⟨rfl, rfl, fun _ _ => rfl⟩, ⟨rfl, rfl, fun _ _ => trivial⟩, ⟨rfl, rfl, fun _ _ => rfl⟩, trivial⟩
theorem sta_eta (s : Sta) : (⟨⟨s.en.mem, s.en.vols, s.en.has, s.en.done, s.en.stuck⟩, s.at', s.begun, s.owner⟩ : Sta) = s := nr rfl
theorem sta_eta2 (s : Sta) : (⟨s.en, s.at', s.begun, s.owner⟩ : Sta) = s := nr rfl
attribute [go_sem] sta_emb sta_decV sta_decP sta_eta sta_eta2
end Go.Proofs.Ytohbjnpafpcbkaa.D
namespace Go.Proofs.Ytohbjnpafpcbkaa.Rn
open Go.Proofs.Ytohbjnpafpcbkaa.D Go.Proofs.Ytohbjnpafpcbkaa.Pg Go.Proofs.Ytohbjnpafpcbkaa.Tr

end Go.Proofs.Ytohbjnpafpcbkaa.Rn
end
section
set_option linter.unusedSimpArgs false
set_option linter.unusedVariables false
set_option maxRecDepth 100000
open Go Go.Sx Go.Proofs
namespace Go.Proofs.Ytohbjnpafpcbkaa.Rn
open Go.Proofs.Ytohbjnpafpcbkaa.D Go.Proofs.Ytohbjnpafpcbkaa.Pg Go.Proofs.Ytohbjnpafpcbkaa.Tr
end Go.Proofs.Ytohbjnpafpcbkaa.Rn
end
section
set_option linter.unusedSimpArgs false
set_option linter.unusedVariables false
set_option maxRecDepth 100000
open Go Go.Sx Go.Proofs
namespace Go.Proofs.Ytohbjnpafpcbkaa.D
structure Pg where
  p : List (List PO)
  at' : Nat → Int
  l : Option (List Ev)
  en : En
  last : Option (List Int)
def dPg : DT Pg := (DT.st (DL.cons dProg (DL.cons (DT.arr 6 1 DT.int) (DL.cons (DT.slo 3 dEv) (DL.cons dEn (DL.cons (DT.slo 1 DT.int) DL.nil)))))).iso (fun x => ⟨x.1, x.2.1, x.2.2.1, x.2.2.2.1, x.2.2.2.2.1⟩) (fun g => (g.p, g.at', g.l, g.en, g.last, ())) (fun _ => rfl) (fun _ => rfl)
theorem pg_emb (g : Pg) : dPg.emb g = .agg [dProg.emb g.p, .arr 6 1 fun i => .int .i64 (g.at' i), (DT.slo 3 dEv).emb g.l, dEn.emb g.en, (DT.slo 1 DT.int).emb g.last] := nr rfl
theorem pg_decV (m : List Res) (a b c d e : SV) : dPg.decV m (.agg [a, b, c, d, e]) = ⟨dProg.decV m a, (DT.arr 6 1 DT.int).decV m b, (DT.slo 3 dEv).decV m c, dEn.decV m d, (DT.slo 1 DT.int).decV m e⟩ := nr rfl
theorem pg_decP (m : List Res) (a b c d e : SV) : dPg.decP m (.agg [a, b, c, d, e]) = (dProg.decP m a ∧ (DT.arr 6 1 DT.int).decP m b ∧ (DT.slo 3 dEv).decP m c ∧ dEn.decP m d ∧ (DT.slo 1 DT.int).decP m e) := nr (by
  show (_ ∧ _ ∧ _ ∧ _ ∧ _ ∧ True) = _
  simp only [and_true])
theorem pg_eta (g : Pg) : (⟨g.p, g.at', g.l, g.en, g.last⟩ : Pg) = g := nr rfl
attribute [go_sem] pg_emb pg_decV pg_decP pg_eta
end Go.Proofs.Ytohbjnpafpcbkaa.D
namespace Go.Proofs.Ytohbjnpafpcbkaa.Rn
open Go.Proofs.Ytohbjnpafpcbkaa.D Go.Proofs.Ytohbjnpafpcbkaa.Pg Go.Proofs.Ytohbjnpafpcbkaa.Tr Go.Proofs.Ytohbjnpafpcbkaa.Cp
end Go.Proofs.Ytohbjnpafpcbkaa.Rn
end
section
set_option linter.unusedSimpArgs false
set_option linter.unusedVariables false
set_option maxRecDepth 100000
open Go Go.Sx Go.Proofs
namespace Go.Proofs.Ytohbjnpafpcbkaa.Rn
open Go.Proofs.Ytohbjnpafpcbkaa.D Go.Proofs.Ytohbjnpafpcbkaa.Pg Go.Proofs.Ytohbjnpafpcbkaa.Tr Go.Proofs.Ytohbjnpafpcbkaa.Cp
end Go.Proofs.Ytohbjnpafpcbkaa.Rn
end
section
set_option linter.unusedSimpArgs false
set_option linter.unusedVariables false
set_option maxRecDepth 100000
open Go Go.Sx Go.Proofs
namespace Go.Proofs.Ytohbjnpafpcbkaa.Rn
open Go.Proofs.Ytohbjnpafpcbkaa.D Go.Proofs.Ytohbjnpafpcbkaa.Pg Go.Proofs.Ytohbjnpafpcbkaa.Tr
theorem beg_add (l : List Ev) (e : Ev) (t : Int) : begB (l ++ [e]) t = (begB l t || (decide (e.kind = 5) && decide (e.obj = t))) := by
  simp only [begB, didB, List.any_append, List.any_cons, List.any_nil, Bool.or_false, Bool.or_assoc]
theorem own_add (l : List Ev) (e : Ev) (k : Int) : Tr.ownR (l ++ [e]) k = ownS k (Tr.ownR l k) e := by
  simp only [Tr.ownR, List.foldl_append, List.foldl_cons, List.foldl_nil]
end Go.Proofs.Ytohbjnpafpcbkaa.Rn
end
