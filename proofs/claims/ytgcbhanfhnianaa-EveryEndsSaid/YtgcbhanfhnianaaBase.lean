/- The data of the program, as symbols: events, pairs, ops, clocks. No condition. -/
import Derived.Test.YtgcbhanfhnianaaSx32
set_option linter.unusedSimpArgs false
set_option linter.unusedVariables false
open Go Go.Sx
namespace Go.Proofs.Ytgcbhanfhnianaa.D
structure Ev where
  kind : Int
  thr : Int
  obj : Int
def dEv : DT Ev := (DT.ofTT (.st [.int .i64, .int .i64, .int .i64])).iso (fun x => ⟨x.1, x.2.1, x.2.2.1⟩) (fun e => (e.kind, e.thr, e.obj, ())) (fun _ => rfl) (fun _ => rfl)
instance : Flat dEv := (Flat.ofTT rfl).iso
theorem ev_emb (e : Ev) : dEv.emb e = .agg [.int .i64 e.kind, .int .i64 e.thr, .int .i64 e.obj] := nr rfl
theorem ev_decV (m : List Res) (k t o : Int) : dEv.decV m (.agg [.int .i64 k, .int .i64 t, .int .i64 o]) = ⟨k, t, o⟩ := nr rfl
theorem ev_decP (m : List Res) (k t o : Int) : dEv.decP m (.agg [.int .i64 k, .int .i64 t, .int .i64 o]) = True := eq_true ⟨rfl, rfl, rfl, trivial⟩
theorem ev_eta (e : Ev) : (⟨e.kind, e.thr, e.obj⟩ : Ev) = e := nr rfl
instance : DecidableEq Ev := fun a b => decidable_of_iff (a.kind = b.kind ∧ a.thr = b.thr ∧ a.obj = b.obj) ⟨fun h => by cases a; cases b; obtain ⟨rfl, rfl, rfl⟩ := h; rfl, fun h => by subst h; exact ⟨rfl, rfl, rfl⟩⟩
structure Pr where
  a : Int
  b : Int
def dPr : DT Pr := (DT.ofTT (.st [.int .i64, .int .i64])).iso (fun x => ⟨x.1, x.2.1⟩) (fun e => (e.a, e.b, ())) (fun _ => rfl) (fun _ => rfl)
instance : Flat dPr := (Flat.ofTT rfl).iso
theorem pr_emb (e : Pr) : dPr.emb e = .agg [.int .i64 e.a, .int .i64 e.b] := nr rfl
theorem pr_decV (m : List Res) (k t : Int) : dPr.decV m (.agg [.int .i64 k, .int .i64 t]) = ⟨k, t⟩ := nr rfl
theorem pr_decP (m : List Res) (k t : Int) : dPr.decP m (.agg [.int .i64 k, .int .i64 t]) = True := eq_true ⟨rfl, rfl, trivial⟩
theorem pr_eta (e : Pr) : (⟨e.a, e.b⟩ : Pr) = e := nr rfl
instance : DecidableEq Pr := fun a b => decidable_of_iff (a.a = b.a ∧ a.b = b.b) ⟨fun h => by cases a; cases b; obtain ⟨rfl, rfl⟩ := h; rfl, fun h => by subst h; exact ⟨rfl, rfl⟩⟩
attribute [go_sem] ev_emb ev_decV ev_decP ev_eta pr_emb pr_decV pr_decP pr_eta
abbrev Clk := Nat → Int
def dClk : DT Clk := DT.arr 6 1 DT.int
instance : Flat dClk := inferInstanceAs (Flat (DT.arr 6 1 DT.int))
theorem clk_emb (f : Clk) : dClk.emb f = .arr 6 1 fun i => .int .i64 (f i) := nr rfl
theorem clk_decV (m : List Res) (f : Nat → Int) : dClk.decV m (.arr 6 1 fun i => .int .i64 (f i)) = f := nr rfl
theorem clk_decP (m : List Res) (f : Nat → Int) : dClk.decP m (.arr 6 1 fun i => .int .i64 (f i)) = True := eq_true ⟨rfl, rfl, fun _ _ => rfl⟩
attribute [go_sem] clk_emb clk_decV clk_decP
theorem upd_int (f : Nat → Int) (i : Nat) (x : Int) : updS (fun k => SV.int .i64 (f k)) i (.int .i64 x) = fun k => SV.int .i64 (if k = i then x else f k) := by
  funext k; unfold updS; split <;> rfl
theorem upd_bool (f : Nat → Bool) (i : Nat) (x : Bool) : updS (fun k => SV.bool (f k)) i (.bool x) = fun k => SV.bool (if k = i then x else f k) := by
  funext k; unfold updS; split <;> rfl
theorem upd_clk (n w : Nat) (f : Nat → Nat → Int) (i : Nat) (g : Nat → Int) : updS (fun k => SV.arr n w fun j => .int .i64 (f k j)) i (.arr n w fun j => .int .i64 (g j)) = fun k => SV.arr n w fun j => .int .i64 (if k = i then g j else f k j) := by
  funext k; unfold updS; split <;> rfl
attribute [go_sem] upd_int upd_bool upd_clk
structure Wd where
  begun : Nat → Bool
  over : Nat → Bool
  owner : Nat → Int
def dWd : DT Wd := (DT.ofTT (.st [.arr 6 1 .bool, .arr 6 1 .bool, .arr 5 1 (.int .i64)])).iso (fun x => ⟨x.1, x.2.1, x.2.2.1⟩) (fun w => (w.begun, w.over, w.owner, ())) (fun _ => rfl) (fun _ => rfl)
instance : Flat dWd := (Flat.ofTT rfl).iso
theorem wd_emb (w : Wd) : dWd.emb w = .agg [.arr 6 1 fun i => .bool (w.begun i), .arr 6 1 fun i => .bool (w.over i), .arr 5 1 fun i => .int .i64 (w.owner i)] := nr rfl
theorem wd_decV (m : List Res) (f g : Nat → Bool) (h : Nat → Int) : dWd.decV m (.agg [.arr 6 1 fun i => .bool (f i), .arr 6 1 fun i => .bool (g i), .arr 5 1 fun i => .int .i64 (h i)]) = ⟨f, g, h⟩ := nr rfl
theorem wd_decP (m : List Res) (f g : Nat → Bool) (h : Nat → Int) : dWd.decP m (.agg [.arr 6 1 fun i => .bool (f i), .arr 6 1 fun i => .bool (g i), .arr 5 1 fun i => .int .i64 (h i)]) = True := eq_true ⟨⟨rfl, rfl, fun _ _ => trivial⟩, ⟨rfl, rfl, fun _ _ => trivial⟩, ⟨rfl, rfl, fun _ _ => rfl⟩, trivial⟩
theorem wd_eta (w : Wd) : (⟨w.begun, w.over, w.owner⟩ : Wd) = w := nr rfl
attribute [go_sem] wd_emb wd_decV wd_decP wd_eta
theorem drop_getD {α : Type} {l : List α} {i : Nat} (d : α) (h : i < l.length) : l.drop i = l.getD i d :: l.drop (i + 1) := by
  rw [List.drop_eq_getElem_cons h]
  simp [List.getD, h]
theorem take_getD {α : Type} {l : List α} {i : Nat} (d : α) (h : i < l.length) : l.take (i + 1) = l.take i ++ [l.getD i d] := by
  rw [List.take_add_one]
  simp [List.getD, h]
theorem getD_mem {α : Type} {l : List α} {i : Nat} {d : α} (h : i < l.length) : l.getD i d ∈ l := by
  simp only [List.getD, List.getElem?_eq_getElem h, Option.getD_some]
  exact List.getElem_mem h
structure PO where
  kind : Int
  obj : Int
  n : Int
def dOp : DT PO := (DT.ofTT (.st [.int .i64, .int .i64, .int .i64])).iso (fun x => ⟨x.1, x.2.1, x.2.2.1⟩) (fun e => (e.kind, e.obj, e.n, ())) (fun _ => rfl) (fun _ => rfl)
instance : Flat dOp := (Flat.ofTT rfl).iso
theorem op_emb (e : PO) : dOp.emb e = .agg [.int .i64 e.kind, .int .i64 e.obj, .int .i64 e.n] := nr rfl
theorem op_decV (m : List Res) (k t o : Int) : dOp.decV m (.agg [.int .i64 k, .int .i64 t, .int .i64 o]) = ⟨k, t, o⟩ := nr rfl
theorem op_decP (m : List Res) (k t o : Int) : dOp.decP m (.agg [.int .i64 k, .int .i64 t, .int .i64 o]) = True := eq_true ⟨rfl, rfl, rfl, trivial⟩
theorem op_eta (e : PO) : (⟨e.kind, e.obj, e.n⟩ : PO) = e := nr rfl
attribute [go_sem] op_emb op_decV op_decP op_eta
abbrev dProg : DT (List (List PO)) := DT.list 1 (DT.list 3 dOp)
theorem any_take {α : Type} {l : List α} {i : Nat} (d : α) (p : α → Bool) (h : i < l.length) (hi : (l.take i).any p = false) : (l.take (i + 1)).any p = p (l.getD i d) := by
  rw [take_getD d h, List.any_append, hi]; simp
theorem any_of {α : Type} {l : List α} {i : Nat} {d : α} {p : α → Bool} (h : i < l.length) (hp : p (l.getD i d) = true) : l.any p = true := List.any_eq_true.2 ⟨_, getD_mem h, hp⟩
theorem any_none {α : Type} {l : List α} {i : Nat} {p : α → Bool} (h : ¬ (i : Int) < l.length) (hi : i ≤ l.length ∧ (l.take i).any p = false) : l.any p = false := by
  have : i = l.length := by omega
  subst this
  simpa using hi.2
def eqBy {α : Type} (e : α → α → Bool) : List α → List α → Bool
  | [], [] => true
  | x :: xs, y :: ys => e x y && eqBy e xs ys
  | _, _ => false
theorem eqBy_len {α : Type} {e : α → α → Bool} : ∀ {xs ys : List α}, ¬ ((xs.length : Int) = ys.length) → eqBy e xs ys = false
  | [], [], h => absurd rfl h
  | [], _ :: _, _ => rfl
  | _ :: _, [], _ => rfl
  | x :: xs, y :: ys, h => by
    rw [eqBy, eqBy_len (xs := xs) (ys := ys) (by simp only [List.length_cons] at h; omega), Bool.and_false]
theorem eqBy_drop {α : Type} {e : α → α → Bool} {xs ys : List α} {i : Nat} {d d' : α} (h : i < xs.length) (h' : i < ys.length) : eqBy e (xs.drop i) (ys.drop i) = (e (xs.getD i d) (ys.getD i d') && eqBy e (xs.drop (i + 1)) (ys.drop (i + 1))) := by
  rw [drop_getD d h, drop_getD d' h', eqBy]
theorem eqBy_done {α : Type} {e : α → α → Bool} {xs ys : List α} {i : Nat} (h : eqBy e xs ys = eqBy e (xs.drop i) (ys.drop i)) (h1 : xs.length ≤ i) (h2 : ys.length ≤ i) : eqBy e xs ys = true := by
  rw [h, List.drop_eq_nil_of_le h1, List.drop_eq_nil_of_le h2]; rfl
theorem eqBy_refl {α : Type} {e : α → α → Bool} (he : ∀ x, e x x = true) : ∀ (xs : List α), eqBy e xs xs = true
  | [] => rfl
  | x :: xs => by simp [eqBy, he, eqBy_refl he]
structure Fl where
  at' : Int
  var : Int
  kind : Int
def dFl : DT Fl := (DT.ofTT (.st [.int .i64, .int .i64, .int .i64])).iso (fun x => ⟨x.1, x.2.1, x.2.2.1⟩) (fun e => (e.at', e.var, e.kind, ())) (fun _ => rfl) (fun _ => rfl)
instance : Flat dFl := (Flat.ofTT rfl).iso
theorem fl_emb (e : Fl) : dFl.emb e = .agg [.int .i64 e.at', .int .i64 e.var, .int .i64 e.kind] := nr rfl
theorem fl_decV (m : List Res) (k t o : Int) : dFl.decV m (.agg [.int .i64 k, .int .i64 t, .int .i64 o]) = ⟨k, t, o⟩ := nr rfl
theorem fl_decP (m : List Res) (k t o : Int) : dFl.decP m (.agg [.int .i64 k, .int .i64 t, .int .i64 o]) = True := eq_true ⟨rfl, rfl, rfl, trivial⟩
theorem fl_eta (e : Fl) : (⟨e.at', e.var, e.kind⟩ : Fl) = e := nr rfl
attribute [go_sem] fl_emb fl_decV fl_decP fl_eta
structure Rc where
  a : Int
  b : Int
  var : Int
  kind : Int
def dRc : DT Rc := (DT.ofTT (.st [.int .i64, .int .i64, .int .i64, .int .i64])).iso (fun x => ⟨x.1, x.2.1, x.2.2.1, x.2.2.2.1⟩) (fun e => (e.a, e.b, e.var, e.kind, ())) (fun _ => rfl) (fun _ => rfl)
instance : Flat dRc := (Flat.ofTT rfl).iso
theorem rc_emb (e : Rc) : dRc.emb e = .agg [.int .i64 e.a, .int .i64 e.b, .int .i64 e.var, .int .i64 e.kind] := nr rfl
theorem rc_decV (m : List Res) (k t o n : Int) : dRc.decV m (.agg [.int .i64 k, .int .i64 t, .int .i64 o, .int .i64 n]) = ⟨k, t, o, n⟩ := nr rfl
theorem rc_decP (m : List Res) (k t o n : Int) : dRc.decP m (.agg [.int .i64 k, .int .i64 t, .int .i64 o, .int .i64 n]) = True := eq_true ⟨rfl, rfl, rfl, rfl, trivial⟩
theorem rc_eta (e : Rc) : (⟨e.a, e.b, e.var, e.kind⟩ : Rc) = e := nr rfl
attribute [go_sem] rc_emb rc_decV rc_decP rc_eta
abbrev dEs : DT (List Ev) := DT.list 3 dEv
abbrev dIs : DT (List Int) := DT.list 1 DT.int
abbrev dRows : DT (List (List Bool)) := DT.list 1 (DT.list 1 DT.bool)
structure Kp where
  thr : Nat → Clk
  lk : Nat → Clk
  vl : Nat → Clk
def dKp : DT Kp := (DT.ofTT (.st [.arr 6 6 (.arr 6 1 (.int .i64)), .arr 5 6 (.arr 6 1 (.int .i64)), .arr 4 6 (.arr 6 1 (.int .i64))])).iso (fun x => ⟨x.1, x.2.1, x.2.2.1⟩) (fun e => (e.thr, e.lk, e.vl, ())) (fun _ => rfl) (fun _ => rfl)
instance : Flat dKp := (Flat.ofTT rfl).iso
theorem kp_emb (e : Kp) : dKp.emb e = .agg [.arr 6 6 fun i => .arr 6 1 fun j => .int .i64 (e.thr i j), .arr 5 6 fun i => .arr 6 1 fun j => .int .i64 (e.lk i j), .arr 4 6 fun i => .arr 6 1 fun j => .int .i64 (e.vl i j)] := nr rfl
theorem kp_decV (m : List Res) (f g h : Nat → Nat → Int) : dKp.decV m (.agg [.arr 6 6 fun i => .arr 6 1 fun j => .int .i64 (f i j), .arr 5 6 fun i => .arr 6 1 fun j => .int .i64 (g i j), .arr 4 6 fun i => .arr 6 1 fun j => .int .i64 (h i j)]) = ⟨f, g, h⟩ := nr rfl
theorem kp_decP (m : List Res) (f g h : Nat → Nat → Int) : dKp.decP m (.agg [.arr 6 6 fun i => .arr 6 1 fun j => .int .i64 (f i j), .arr 5 6 fun i => .arr 6 1 fun j => .int .i64 (g i j), .arr 4 6 fun i => .arr 6 1 fun j => .int .i64 (h i j)]) = True := eq_true ⟨⟨rfl, rfl, fun _ _ => ⟨rfl, rfl, fun _ _ => rfl⟩⟩, ⟨rfl, rfl, fun _ _ => ⟨rfl, rfl, fun _ _ => rfl⟩⟩, ⟨rfl, rfl, fun _ _ => ⟨rfl, rfl, fun _ _ => rfl⟩⟩, trivial⟩
theorem kp_eta (k : Kp) : (⟨k.thr, k.lk, k.vl⟩ : Kp) = k := nr rfl
attribute [go_sem] kp_emb kp_decV kp_decP kp_eta
end Go.Proofs.Ytgcbhanfhnianaa.D
