/- every.walked with the noting visitor, and every.Ends. Conditions: none. -/
import Derived.Test.YtgcbhanfhnianaaEvM
import Derived.Test.YtgcbhanfhnianaaEvQ
import Derived.Test.YtgcbhanfhnianaaSx49
set_option linter.unusedSimpArgs false
set_option linter.unusedVariables false
set_option maxRecDepth 100000
open Go Go.Sx Go.Proofs
namespace Go.Proofs.Ytgcbhanfhnianaa.EvM
open Go.Proofs.Ytgcbhanfhnianaa.Ev
open Go.Proofs.Ytgcbhanfhnianaa.D Go.Proofs.Ytgcbhanfhnianaa.Pg Go.Proofs.Ytgcbhanfhnianaa.Tr Go.Proofs.Ytgcbhanfhnianaa.Rn Go.Proofs.Ytgcbhanfhnianaa.Cp Go.Proofs.Ytgcbhanfhnianaa.Rc
def endsN (p : List (List PO)) : List En := (fromN p 12 firstS ([], [])).2
def Gwn (p : List (List PO)) (f : FuncId) (a : List SV) (m : List Res) : Sx.Call := (FH.rd 43 .nil (.one dSta) (fun _ => True) (fun _ => firstS) <| FH.on 119 (Hfn p 12) FH.none) f a m
theorem Gwn_eq (p : List (List PO)) (f : FuncId) (a : List SV) (m : List Res) : Gwn p f a m = (FH.rd 43 .nil (.one dSta) (fun _ => True) (fun _ => firstS) <| FH.on 119 (Hfn p 12) FH.none) f a m := nr rfl
theorem Gwn_ok (p : List (List PO)) : FHOK Try.prog (Gwn p) := FH.rd_ok (by kernel_rfl) (fun _ _ => f_First) <| FH.on_ok (Hfn_ok (f_fromN 12)) FH.none_ok
theorem f_walkedN {p : List (List PO)} (hc : echF p = 0) : FnOK Try.prog 74 [dProg.emb p, .fn 75 [.ptr 0 [] 0, .ptr 1 [] 0]] (mN p []) (.tup []) (mN3 p (endsN p)) := by
  have h0 := pre_first hc
  unfold mN mN3 endsN
  refine fn_walkV [5] c74 w74 (Gwn_ok p) rfl ?_
  unfold j74
  simp only [go_sem, ↓reduceIte, Nat.reduceAdd, Nat.reduceMul, Nat.reduceSub, Nat.reduceLT, Nat.reduceLeDiff, Nat.reduceEqDiff, Int.reduceToNat, Int.reduceEq, Int.reduceLT, Int.reduceLE, reduceCtorEq, Gwn_eq, Hfn_at, setQ, cN, decG_set, decL_map, List.range_zero, List.nil_append, List.map_nil, List.set_cons_succ, List.set_cons_zero, selM, selI_eq, selJ, List.map_cons, List.take_succ_cons, List.take_zero, memAt, List.getD_cons_zero, List.getD_cons_succ]
  exact ⟨⟨⟨rfl, rfl, by decide⟩, h0⟩, rfl⟩
def setW2 (p : List (List PO)) (a b : Nat) (m : List Res) (l : List En) : List Res := setN p a b m.length (m.set b (.blk 62 (.vec m.length 0)) ++ [.vec 28 20 []]) l
theorem walkedN_call {p : List (List PO)} (hc : echF p = 0) {m : List Res} {a b : Nat} (hnd : nd [a, b]) (h1 : memAt m a = .blk 22 (dProg.emb p)) (h2 : memAt m b = .blk 62 .nils) :
    CallStep Try.prog 74 [dProg.emb p, .fn 75 [.ptr a [] 0, .ptr b [] 0]] m (.tup []) (setW2 p a b m (endsN p)) := by
  have lt : ∀ {i : Nat} {r : Res}, memAt m i = r → r ≠ .dead → i < m.length := fun {i r} h hne => by
    rcases Nat.lt_or_ge i m.length with h' | h'
    · exact h'
    · rw [memAt_ge h'] at h; exact absurd h.symm hne
  have la := lt h1 (by intro h; cases h)
  have lb := lt h2 (by intro h; cases h)
  have hab : a ≠ b := fun e => by subst e; rw [h1] at h2; cases h2
  refine call_nilv (E := 28) (wd := 20) h2 ?_
  generalize hm2 : m.set b (.blk 62 (.vec m.length 0)) ++ [.vec 28 20 []] = m2
  have g1 : memAt m2 a = .blk 22 (dProg.emb p) := by rw [← hm2, memAt_append_lt (by simpa using la), memAt_set_ne hab]; exact h1
  have g2 : memAt m2 b = .blk 62 (.vec m.length 0) := by
    rw [← hm2, memAt_append_lt (by simpa using lb)]
    unfold memAt
    rw [List.getD, List.getElem?_set_self lb]; rfl
  have g3 : memAt m2 m.length = .vec 28 20 [] := by
    rw [← hm2]
    unfold memAt
    rw [List.getD, List.getElem?_append_right (by simp)]
    simp
  have l2 : m2.length = m.length + 1 := by rw [← hm2]; simp
  have hn : [a, b, m.length].Nodup := by
    simp only [List.nodup_cons, List.mem_cons, List.not_mem_nil, or_false, not_false_eq_true, List.nodup_nil, and_true, not_or]
    exact ⟨⟨hab, by omega⟩, by omega⟩
  have s0 : selI [a, b, m.length] a = some 0 := sel_nth hn rfl
  have s1 : selI [a, b, m.length] b = some 1 := sel_nth hn rfl
  have s2 : selI [a, b, m.length] m.length = some 2 := sel_nth hn rfl
  have key := call_of_fnD (args := [dProg.emb p, .fn 75 [.ptr a [] 0, .ptr b [] 0]]) (m := m2) (f_walkedN hc) [a, b, m.length] hn (by
      intro j hj
      simp only [List.mem_cons, List.not_mem_nil, or_false] at hj
      rcases hj with rfl | rfl | rfl <;> omega)
    (by simp only [renL, dProg.ren, Sx.ren, renI, s0, s1])
    (by simp only [selM, List.map_cons, List.map_nil, g1, g2, g3, renR, dProg.ren, Sx.ren, renL, renI, s2, mN]; rfl) (by simp [mN3]) (by
      intro j hj
      simp only [List.length_cons, List.length_nil] at hj
      match j, hj with
      | 0, _ => exact .inr ⟨rfl, by show (memAt m2 a).isBlk = true; rw [g1]; rfl⟩
      | 1, _ => exact .inr ⟨rfl, by show (memAt m2 b).isBlk = true; rw [g2]; rfl⟩
      | 2, _ => exact .inl rfl)
  have hmm : ∀ l' : List En, mergeD [a, b, m.length] m2 (mN3 p l') = setN p a b m.length m2 l' := by
    intro l'
    simp [mergeD, memAt, renR, dProg.ren, Sx.ren, renI, mN3, setN, backD, ends_renL]
  rw [hmm] at key
  unfold setW2
  rw [hm2]
  exact key
def Hwn (p : List (List PO)) (args : List SV) (m : List Res) : Sx.Call := match args with
  | [x, .fn g [.ptr a pa oa, .ptr b pb ob]] => .is (nd [a, b] ∧ (x = dProg.emb p ∧ g = 75 ∧ echF p = 0) ∧ (pa = [] ∧ oa = 0 ∧ memAt m a = .blk 22 (dProg.emb p)) ∧ (pb = [] ∧ ob = 0 ∧ memAt m b = .blk 62 .nils)) (.tup []) (setW2 p a b m (endsN p))
  | _ => .no
theorem Hwn_at (p : List (List PO)) (x : SV) (g a b : Nat) (pa pb : List Step) (oa ob : Nat) (m : List Res) : Hwn p [x, .fn g [.ptr a pa oa, .ptr b pb ob]] m = .is (nd [a, b] ∧ (x = dProg.emb p ∧ g = 75 ∧ echF p = 0) ∧ (pa = [] ∧ oa = 0 ∧ memAt m a = .blk 22 (dProg.emb p)) ∧ (pb = [] ∧ ob = 0 ∧ memAt m b = .blk 62 .nils)) (.tup []) (setW2 p a b m (endsN p)) := nr rfl
theorem Hwn_ok (p : List (List PO)) (args : List SV) (m : List Res) : (Hwn p args m).OK Try.prog 74 args m := by
  unfold Hwn
  split
  · rintro ⟨hnd, ⟨rfl, rfl, hc⟩, ⟨rfl, rfl, h2⟩, ⟨rfl, rfl, h3⟩⟩
    exact ⟨by kernel_rfl, walkedN_call hc hnd h2 h3⟩
  · trivial
def Hso (L R : List En) (args : List SV) (m : List Res) : Sx.Call := match args with
  | [.vec i n, .fn g []] => .is (g = 78 ∧ memAt m i = .vec 28 20 (L.map dEn.emb) ∧ n = L.length) (.tup []) (m.set i (.vec 28 20 (R.map dEn.emb)))
  | _ => .no
theorem Hso_at (L R : List En) (i n g : Nat) (m : List Res) : Hso L R [.vec i n, .fn g []] m = .is (g = 78 ∧ memAt m i = .vec 28 20 (L.map dEn.emb) ∧ n = L.length) (.tup []) (m.set i (.vec 28 20 (R.map dEn.emb))) := nr rfl
theorem Hso_ok {L R : List En} (hT : TotE L) (hR : Srt R) (hm : ∀ x, x ∈ R ↔ x ∈ L) (hrl : R.length = L.length) (hl : L.length < 4611686018427387904) (args : List SV) (m : List Res) : (Hso L R args m).OK Try.prog 77 args m := by
  unfold Hso
  split
  · rintro ⟨rfl, h1, h2⟩
    exact ⟨by kernel_rfl, step_sort dEn encE 20 encE_len (by decide) encE_sat (fun cap w => AnyF.slices_SortFunc_none (P := Try.prog) (ρ := Sh.laysSortF_ren) Sh.laysSortF none cap (.func (.func 78) #[] #[]) w) (fun b cap w hH hb => sort_at hT hR hm hl b cap w hH hb) hrl h1 h2⟩
  · trivial

def j30 : JC :=
  (.seq (.ops <|
  eo 1 (.box 22 (.t 0)) <|
  qo 2 (.mv (.c .nils)) <|
  qo 3 (.mv (I 0)) <|
  .nil)
  (.seq (.seq (.ops <|
  eo 6 (.load 1 false (.t 1)) <|
  eo 7 (.call 73 [(.t 6)]) <|
  qo 4 (.mv (.t 7)) <|
  .nil)
  (.seq (.ops <|
  qo 8 (.mv (.t 4)) <|
  qo 9 (.cmp .neq (.t 8) (I 0)) <|
  .nil)
  (.cond (.t 9)
  (.seq (.ops <|
  .prune [4] <|
  qo 10 (.mv (.t 4)) <|
  qo 2 (.mv (.c .nils)) <|
  qo 3 (.mv (.t 10)) <|
  .nil)
  .ret)
  .skip)))
  (.prune [1] (.seq (.ops <|
  eo 5 (.alloc 62 .nils) <|
  .nil)
  (.seq (.ops <|
  eo 11 (.load 1 false (.t 1)) <|
  qo 12 (.mkfn 75 [(.t 1), (.t 5)]) <|
  eo 13 (.call 74 [(.t 11), (.t 12)]) <|
  .nil)
  (.seq (.ops <|
  eo 14 (.load 1 false (.t 5)) <|
  eo 15 (.call 77 [(.t 14), (.c (.fn 78 []))]) <|
  .nil)
  (.seq (.ops <|
  .prune [5] <|
  eo 16 (.load 1 false (.t 5)) <|
  qo 2 (.mv (.t 16)) <|
  qo 3 (.mv (I 0)) <|
  .nil)
  .ret)))))))
theorem c30 : fnIs Try.prog qall 30 = some (j30.flat, [.tmp 2, .tmp 3], 17) := by kernel_rfl
theorem w30 : j30.wf 17 = true := by kernel_rfl
def Gel (p : List (List PO)) (L R : List En) (f : FuncId) (a : List SV) (m : List Res) : Sx.Call := (FH.rd 73 (.one dProg) (.one .int) (fun _ => True) (fun y => echF y.1) <| FH.on 74 (Hwn p) <| FH.on 77 (Hso L R) FH.none) f a m
theorem Gel_eq (p : List (List PO)) (L R : List En) (f : FuncId) (a : List SV) (m : List Res) : Gel p L R f a m = (FH.rd 73 (.one dProg) (.one .int) (fun _ => True) (fun y => echF y.1) <| FH.on 74 (Hwn p) <| FH.on 77 (Hso L R) FH.none) f a m := nr rfl
theorem f_EndsN {p : List (List PO)} (hc : echF p = 0) (hT : TotE (endsN p)) {R : List En} (hR : Srt R) (hm : ∀ x, x ∈ R ↔ x ∈ endsN p) (hrl : R.length = (endsN p).length) (hl : (endsN p).length < 4611686018427387904) :
    FnOK Try.prog 30 [dProg.emb p] [] (.tup [.vec 0 R.length, .int .i64 0]) [.vec 28 20 (R.map dEn.emb)] := by
  have G_ok : FHOK Try.prog (Gel p (endsN p) R) := FH.rd_ok (by kernel_rfl) (fun y _ => f_check y.1) <| FH.on_ok (Hwn_ok p) <| FH.on_ok (Hso_ok hT hR hm hrl hl) FH.none_ok
  refine fn_walkF c30 w30 G_ok rfl ?_
  unfold j30
  simp only [go_sem, ↓reduceIte, Nat.reduceAdd, Nat.reduceMul, Nat.reduceSub, Nat.reduceLT, Nat.reduceLeDiff, Nat.reduceEqDiff, Int.reduceToNat, Int.reduceEq, Int.reduceLT, Int.reduceLE, reduceCtorEq, Gel_eq, Hwn_at, Hso_at, setW2, setN, hc, List.range_zero, List.nil_append, List.map_nil, List.set_cons_succ, List.set_cons_zero, selM, selI_eq, selJ, List.map_cons, List.take_succ_cons, List.take_zero, memAt, List.getD_cons_zero, List.getD_cons_succ]
  rw [hrl]
end Go.Proofs.Ytgcbhanfhnianaa.EvM
