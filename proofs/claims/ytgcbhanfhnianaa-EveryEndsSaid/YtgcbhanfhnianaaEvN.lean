/- The walk over all states, each once, with the visitor that notes ends. Conditions: none. -/
import Derived.Test.YtgcbhanfhnianaaEvX
set_option linter.unusedSimpArgs false
set_option linter.unusedVariables false
set_option maxRecDepth 100000
open Go Go.Sx Go.Proofs
namespace Go.Proofs.Ytgcbhanfhnianaa.Ev
open Go.Proofs.Ytgcbhanfhnianaa.D Go.Proofs.Ytgcbhanfhnianaa.Pg Go.Proofs.Ytgcbhanfhnianaa.Tr Go.Proofs.Ytgcbhanfhnianaa.Rn Go.Proofs.Ytgcbhanfhnianaa.Cp Go.Proofs.Ytgcbhanfhnianaa.Rc
theorem ends_renL (r : Nat → Option Nat) (l : List En) : renL r (l.map dEn.emb) = l.map dEn.emb := dt_renL _ _ _
def mN3 (p : List (List PO)) (l : List En) : List Res := [.blk 22 (dProg.emb p), .blk 62 (.vec 3 l.length), .dead, .vec 28 20 (l.map dEn.emb)]
theorem mN_move (p : List (List PO)) (l : List En) : mvM 2 (mN p l) = mN3 p l := by
  simp [mvM, mN, mN3, memAt, renR, dProg.ren, Sx.ren, renI, mvI, ends_renL]
theorem f_VisM (p : List (List PO)) (s : Sta) (pk : Option (List Int)) (l : List En) (h : Fit p s.at') (hp : progC badP p = 0) (hl : l.length ≤ 100000000000) : FnOK Try.prog 75 [dSta.emb s, dBe.emb pk, .ptr 0 [] 0, .ptr 1 [] 0] (mN p l)
    (.bool true) (mN3 p (addE s p l)) := by
  have := (f_VisN p s pk l h hp hl).moveV (k := 2) (T := 28) (wd := 20) (l := (addE s p l).map dEn.emb) rfl
  rw [mN_move] at this
  exact this
def setN (p : List (List PO)) (a b k : Nat) (m : List Res) (l : List En) : List Res := (((m.set a (.blk 22 (dProg.emb p))).set b (.blk 62 (.vec m.length l.length))).set k .dead) ++ [.vec 28 20 (l.map dEn.emb)]
theorem vis_call {p : List (List PO)} {l : List En} {m : List Res} {a b k : Nat} (hnd : nd [a, b, k]) (h1 : memAt m a = .blk 22 (dProg.emb p)) (h2 : memAt m b = .blk 62 (.vec k l.length)) (h3 : memAt m k = .vec 28 20 (l.map dEn.emb))
    (s : Sta) (pk : Option (List Int)) (h : Fit p s.at') (hp : progC badP p = 0) (hl : l.length ≤ 100000000000) : CallStep Try.prog 75 [dSta.emb s, dBe.emb pk, .ptr a [] 0, .ptr b [] 0] m (.bool true) (setN p a b k m (addE s p l)) := by
  have hn := nd_ok hnd
  have s0 : selI [a, b, k] a = some 0 := sel_nth hn rfl
  have s1 : selI [a, b, k] b = some 1 := sel_nth hn rfl
  have s2 : selI [a, b, k] k = some 2 := sel_nth hn rfl
  have lt : ∀ {i : Nat} {r : Res}, memAt m i = r → r ≠ .dead → i < m.length := fun {i r} h hne => by
    rcases Nat.lt_or_ge i m.length with h' | h'
    · exact h'
    · rw [memAt_ge h'] at h; exact absurd h.symm hne
  have key := call_of_fnD (args := [dSta.emb s, dBe.emb pk, .ptr a [] 0, .ptr b [] 0]) (m := m) (f_VisM p s pk l h hp hl) [a, b, k] hn (by
      intro i hi
      simp only [List.mem_cons, List.not_mem_nil, or_false] at hi
      rcases hi with rfl | rfl | rfl
      · exact lt h1 (by intro h; cases h)
      · exact lt h2 (by intro h; cases h)
      · exact lt h3 (by intro h; cases h))
    (by simp only [renL, dSta.ren, dBe.ren, Sx.ren, renI, s0, s1])
    (by simp only [selM, List.map_cons, List.map_nil, h1, h2, h3, renR, dProg.ren, Sx.ren, renI, s2, ends_renL, mN]) (by simp [mN3]) (by
      intro j hj
      simp only [List.length_cons, List.length_nil] at hj
      match j, hj with
      | 0, _ => exact .inr ⟨rfl, by show (memAt m a).isBlk = true; rw [h1]; rfl⟩
      | 1, _ => exact .inr ⟨rfl, by show (memAt m b).isBlk = true; rw [h2]; rfl⟩
      | 2, _ => exact .inl rfl)
  have hmm : ∀ l' : List En, mergeD [a, b, k] m (mN3 p l') = setN p a b k m l' := by
    intro l'
    simp [mergeD, memAt, renR, dProg.ren, Sx.ren, renI, mN3, setN, backD, ends_renL]
  rw [hmm] at key
  exact key
def decL (li : List SV) : List En := li.map (dEn.decV [])
theorem decL_map (l : List En) : decL (l.map dEn.emb) = l := by
  unfold decL
  rw [List.map_map]
  conv => rhs; rw [← List.map_id l]
  exact List.map_congr_left fun y _ => dEn.vE _ _
def Hvs (p : List (List PO)) (args : List SV) (m : List Res) : Sx.Call := match args with
  | [x, y, .ptr a pa oa, .ptr b pb ob] => match memAt m a with
    | .blk Ta ca => match memAt m b with
      | .blk Tb (.vec k n) => match memAt m k with
        | .vec Tk w li => .is (nd [a, b, k] ∧ (pa = [] ∧ oa = 0 ∧ Ta = 22 ∧ ca = dProg.emb p) ∧ (pb = [] ∧ ob = 0 ∧ Tb = 62 ∧ n = li.length) ∧ (Tk = 28 ∧ w = 20 ∧ (decL li).map dEn.emb = li ∧ li.length ≤ 100000000000) ∧
            dSta.emb (dSta.decV [] x) = x ∧ dBe.emb (dBe.decV [] y) = y ∧ Fit p (dSta.decV [] x).at' ∧ progC badP p = 0) (.bool true) (setN p a b k m (addE (dSta.decV [] x) p (decL li)))
        | _ => .no
      | _ => .no
    | _ => .no
  | _ => .no
theorem Hvs_at (p : List (List PO)) (x y : SV) (a b : Nat) (pa pb : List Step) (oa ob : Nat) (m : List Res) : Hvs p [x, y, .ptr a pa oa, .ptr b pb ob] m = (match memAt m a with
    | .blk Ta ca => match memAt m b with
      | .blk Tb (.vec k n) => match memAt m k with
        | .vec Tk w li => .is (nd [a, b, k] ∧ (pa = [] ∧ oa = 0 ∧ Ta = 22 ∧ ca = dProg.emb p) ∧ (pb = [] ∧ ob = 0 ∧ Tb = 62 ∧ n = li.length) ∧ (Tk = 28 ∧ w = 20 ∧ (decL li).map dEn.emb = li ∧ li.length ≤ 100000000000) ∧
            dSta.emb (dSta.decV [] x) = x ∧ dBe.emb (dBe.decV [] y) = y ∧ Fit p (dSta.decV [] x).at' ∧ progC badP p = 0) (.bool true) (setN p a b k m (addE (dSta.decV [] x) p (decL li)))
        | _ => .no
      | _ => .no
    | _ => .no) := nr rfl
theorem Hvs_ok (p : List (List PO)) (args : List SV) (m : List Res) : (Hvs p args m).OK Try.prog 75 args m := by
  unfold Hvs
  split
  · rename_i x y a pa oa b pb ob
    split
    · rename_i Ta ca ha
      split
      · rename_i Tb k n hb
        split
        · rename_i Tk w li hk
          rintro ⟨hnd, ⟨rfl, rfl, rfl, rfl⟩, ⟨rfl, rfl, rfl, rfl⟩, ⟨rfl, rfl, hL, hlen⟩, h5, h6, h7, h8⟩
          refine ⟨by kernel_rfl, ?_⟩
          generalize hs : dSta.decV [] x = s at h5 h7 ⊢
          generalize hy : dBe.decV [] y = pk at h6 ⊢
          generalize hG : decL li = l at hL ⊢
          subst h5; subst h6; subst hL
          rw [List.length_map] at hb hlen
          exact vis_call hnd ha hb hk s pk h7 h8 hlen
        · trivial
      · trivial
    · trivial
  · trivial
abbrev NS := List Sta × List En
def fromN (p : List (List PO)) : Nat → Sta → NS → NS
  | 0, _, st => st
  | n + 1, s, st => if st.1.any (samS s) = true then st else
    (List.range p.length).foldl (fun (r : NS) (t : Nat) => if canF s p t = true then fromN p n (pickS p s t) r else r) (st.1 ++ [s], addE s p st.2)
def wtN (p : List (List PO)) (n : Nat) (s : Sta) (st : NS) (k : Nat) : NS :=
  (List.range k).foldl (fun (r : NS) (t : Nat) => if canF s p t = true then fromN p n (pickS p s t) r else r) (st.1 ++ [s], addE s p st.2)
theorem wtN_succ {p : List (List PO)} {n : Nat} {s : Sta} {st : NS} (k : Nat) : wtN p n s st (k + 1) = if canF s p k = true then fromN p n (pickS p s k) (wtN p n s st k) else wtN p n s st k := by
  rw [wtN, List.range_succ, List.foldl_append]; rfl
theorem addE_len (s : Sta) (p : List (List PO)) (l : List En) : (addE s p l).length ≤ l.length + 1 := by
  unfold addE
  split
  · simp
  · omega
theorem foldn_len {f : NS → Nat → NS} {B : Nat} (h : ∀ r t, (f r t).2.length ≤ r.2.length + B) : ∀ (ts : List Nat) (r : NS), (ts.foldl f r).2.length ≤ r.2.length + ts.length * B
  | [], r => by simp
  | t :: ts, r => by
    have h1 := foldn_len h ts (f r t)
    have h2 := h r t
    rw [List.foldl_cons, List.length_cons, Nat.succ_mul]
    omega
theorem fromN_len {p : List (List PO)} (hp : p.length ≤ 6) : ∀ (n : Nat) (s : Sta) (st : NS), (fromN p n s st).2.length ≤ st.2.length + 7 ^ n
  | 0, s, st => by rw [fromN]; omega
  | n + 1, s, st => by
    rw [fromN]
    split
    · exact Nat.le_add_right _ _
    · have h1 := foldn_len (f := fun (r : NS) (t : Nat) => if canF s p t = true then fromN p n (pickS p s t) r else r) (B := 7 ^ n) (fun r t => by
        split
        · exact fromN_len hp n _ r
        · exact Nat.le_add_right _ _) (List.range p.length) (st.1 ++ [s], addE s p st.2)
      have h2 := addE_len s p st.2
      rw [List.length_range] at h1
      have h3 : p.length * 7 ^ n ≤ 6 * 7 ^ n := Nat.mul_le_mul_right _ hp
      have h4 : 0 < 7 ^ n := Nat.pow_pos (by decide)
      rw [Nat.pow_succ]
      simp only at h1
      omega
theorem wtN_len {p : List (List PO)} (hp : p.length ≤ 6) (n : Nat) (s : Sta) (st : NS) {k : Nat} (hk : k ≤ 6) : (wtN p n s st k).2.length ≤ st.2.length + 1 + k * 7 ^ n := by
  unfold wtN
  have h1 := foldn_len (f := fun (r : NS) (t : Nat) => if canF s p t = true then fromN p n (pickS p s t) r else r) (B := 7 ^ n) (fun r t => by
    split
    · exact fromN_len hp n _ r
    · exact Nat.le_add_right _ _) (List.range k) (st.1 ++ [s], addE s p st.2)
  have h2 := addE_len s p st.2
  rw [List.length_range] at h1
  simp only at h1
  omega
def cN (p : List (List PO)) (i1 a b : Nat) : SV := .agg [dProg.emb p, .map i1, .fn 75 [.ptr a [] 0, .ptr b [] 0]]
def mS (p : List (List PO)) (st : NS) : List Res := [.blk 198 (cN p 1 2 3), .mp esSt (.st []) (setG st.1), .blk 22 (dProg.emb p), .blk 62 (.vec 4 st.2.length), .vec 28 20 (st.2.map dEn.emb)]
def mS5 (p : List (List PO)) (st : NS) : List Res := [.blk 198 (cN p 1 2 3), .mp esSt (.st []) (setG st.1), .blk 22 (dProg.emb p), .blk 62 (.vec 5 st.2.length), .dead, .vec 28 20 (st.2.map dEn.emb)]
theorem mS_move (p : List (List PO)) (st : NS) : mvM 4 (mS p st) = mS5 p st := by
  simp [mvM, mS, mS5, memAt, renR, renL, dProg.ren, Sx.ren, renI, mvI, ends_renL, cN]
def setQ (p : List (List PO)) (i i1 a b k : Nat) (m : List Res) (st : NS) : List Res :=
  (((((m.set i (.blk 198 (cN p i1 a b))).set i1 (.mp esSt (.st []) (setG st.1))).set a (.blk 22 (dProg.emb p))).set b (.blk 62 (.vec m.length st.2.length))).set k .dead) ++ [.vec 28 20 (st.2.map dEn.emb)]
abbrev SpecN (p : List (List PO)) (n : Nat) : Prop := ∀ s pk st, PreF p n s pk → st.2.length + 7 ^ n ≤ 100000000000 → FnOK Try.prog 119 [.ptr 0 [] 0, dSta.emb s, dBe.emb pk] (mS p st) (.bool true) (mS5 p (fromN p n s st))
theorem fromN_call {p : List (List PO)} {n : Nat} (h : SpecN p n) {m : List Res} {i i1 a b k : Nat} (hnd : nd [i, i1, a, b, k]) {st : NS} (h0 : memAt m i = .blk 198 (cN p i1 a b)) (h1 : memAt m i1 = .mp esSt (.st []) (setG st.1)) (h2 : memAt m a = .blk 22 (dProg.emb p))
    (h3 : memAt m b = .blk 62 (.vec k st.2.length)) (h4 : memAt m k = .vec 28 20 (st.2.map dEn.emb)) (s : Sta) (pk : Option (List Int)) (hp : PreF p n s pk) (hl : st.2.length + 7 ^ n ≤ 100000000000) :
    CallStep Try.prog 119 [.ptr i [] 0, dSta.emb s, dBe.emb pk] m (.bool true) (setQ p i i1 a b k m (fromN p n s st)) := by
  have hn := nd_ok hnd
  have s0 : selI [i, i1, a, b, k] i = some 0 := sel_nth hn rfl
  have s1 : selI [i, i1, a, b, k] i1 = some 1 := sel_nth hn rfl
  have s2 : selI [i, i1, a, b, k] a = some 2 := sel_nth hn rfl
  have s3 : selI [i, i1, a, b, k] b = some 3 := sel_nth hn rfl
  have s4 : selI [i, i1, a, b, k] k = some 4 := sel_nth hn rfl
  have lt : ∀ {i : Nat} {r : Res}, memAt m i = r → r ≠ .dead → i < m.length := fun {i r} h hne => by
    rcases Nat.lt_or_ge i m.length with h' | h'
    · exact h'
    · rw [memAt_ge h'] at h; exact absurd h.symm hne
  have key := call_of_fnD (args := [.ptr i [] 0, dSta.emb s, dBe.emb pk]) (m := m) (h s pk st hp hl) [i, i1, a, b, k] hn (by
      intro j hj
      simp only [List.mem_cons, List.not_mem_nil, or_false] at hj
      rcases hj with rfl | rfl | rfl | rfl | rfl
      · exact lt h0 (by intro h; cases h)
      · exact lt h1 (by intro h; cases h)
      · exact lt h2 (by intro h; cases h)
      · exact lt h3 (by intro h; cases h)
      · exact lt h4 (by intro h; cases h))
    (by simp only [renL, dSta.ren, dBe.ren, Sx.ren, renI, s0])
    (by simp only [selM, List.map_cons, List.map_nil, h0, h1, h2, h3, h4, renR, dProg.ren, Sx.ren, renL, renI, s1, s2, s3, s4, ends_renL, mS, cN]) (by simp [mS5]) (by
      intro j hj
      simp only [List.length_cons, List.length_nil] at hj
      match j, hj with
      | 0, _ => exact .inr ⟨rfl, by show (memAt m i).isBlk = true; rw [h0]; rfl⟩
      | 1, _ => exact .inr ⟨rfl, by show (memAt m i1).isBlk = true; rw [h1]; rfl⟩
      | 2, _ => exact .inr ⟨rfl, by show (memAt m a).isBlk = true; rw [h2]; rfl⟩
      | 3, _ => exact .inr ⟨rfl, by show (memAt m b).isBlk = true; rw [h3]; rfl⟩
      | 4, _ => exact .inl rfl)
  have hmm : ∀ st' : NS, mergeD [i, i1, a, b, k] m (mS5 p st') = setQ p i i1 a b k m st' := by
    intro st'
    simp [mergeD, memAt, renR, renL, dProg.ren, Sx.ren, renI, mS5, setQ, backD, ends_renL, cN]
  rw [hmm] at key
  exact key
end Go.Proofs.Ytgcbhanfhnianaa.Ev
