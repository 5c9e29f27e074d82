/- All runs of a program as the reference goes through them: the closure that looks for races; the walk. Conditions: none. -/
import Derived.Test.YtgcbhanfhnianaaEvR
import Derived.Test.YtgcbhanfhnianaaProgQ
import Derived.Test.YtgcbhanfhnianaaRacesR
import Derived.Test.YtgcbhanfhnianaaBase
import Derived.Test.YtgcbhanfhnianaaRows
import Derived.WalkKit
import Derived.Test.YtgcbhanfhnianaaSortP
import Derived.Test.YtgcbhanfhnianaaTopV
set_option linter.unusedSimpArgs false
set_option linter.unusedVariables false
set_option maxRecDepth 100000
open Go Go.Sx Go.Proofs
namespace Go.Proofs.Ytgcbhanfhnianaa.Ev
open Go.Proofs.Ytgcbhanfhnianaa.D Go.Proofs.Ytgcbhanfhnianaa.Pg Go.Proofs.Ytgcbhanfhnianaa.Tr Go.Proofs.Ytgcbhanfhnianaa.Rn Go.Proofs.Ytgcbhanfhnianaa.Cp Go.Proofs.Ytgcbhanfhnianaa.Rc
abbrev dBe := DT.slo 1 DT.int
theorem sl_len {α : Type} (w : Nat) (d : DT α) (o : Option (List α)) : slLen ((DT.slo w d).emb o) = some (o.getD []).length := by cases o <;> rfl

def j87 : JC :=
  (.seq (.ops <|
  eo 3 (.box 91 (.t 0)) <|
  qo 4 (.mv (B false)) <|
  .nil)
  (.seq (.seq (.ops <|
  qo 6 (.fa 2 7 (.t 3)) <|
  eo 7 (.load 1 false (.t 6)) <|
  qo 8 (.len (.t 7)) <|
  qo 5 (.mv (.t 8)) <|
  .nil)
  (.seq (.ops <|
  qo 9 (.mv (.t 5)) <|
  .prune [9, 1, 3, 2] <|
  qo 10 (.cmp .gtr (.t 9) (I 0)) <|
  qo 11 (.mv (.t 10)) <|
  .sc false 22 11 (eo 12 (.load 1 false (.t 1)) <|
  qo 13 (.nt (.t 12)) <|
  qo 14 (.mv (.t 13)) <|
  .sc true 21 14 (qo 15 (.fa 4 28 (.t 3)) <|
  eo 16 (.load 1 false (.t 15)) <|
  qo 17 (.len (.t 16)) <|
  eo 18 (.load 1 false (.t 2)) <|
  qo 19 (.len (.t 18)) <|
  qo 20 (.cmp .lss (.t 17) (.t 19)) <|
  .nil) (.t 20) <|
  .nil) (.t 21) <|
  .prune [22, 3, 2, 1] <|
  qo 23 (.mv (.t 22)) <|
  .sc false 29 23 (qo 24 (.fa 2 7 (.t 3)) <|
  eo 25 (.load 1 false (.t 24)) <|
  eo 26 (.call 35 [(.t 25)]) <|
  qo 27 (.len (.t 26)) <|
  qo 28 (.cmp .gtr (.t 27) (I 0)) <|
  .nil) (.t 28) <|
  .nil)
  (.prune [29, 3, 2, 1] (.cond (.t 29)
  (.ops <|
  qo 30 (.fa 4 28 (.t 3)) <|
  eo 31 (.load 1 false (.t 30)) <|
  en (.store 1 (.t 2) (.t 31)) <|
  en (.store 1 (.t 1) (B true)) <|
  .nil)
  .skip))))
  (.prune [] (.seq (.ops <|
  qo 4 (.mv (B true)) <|
  .nil)
  .ret))))
theorem c87 : fnIs Try.prog qall 87 = some (j87.flat, [.tmp 4], 32) := by kernel_rfl
theorem w87 : j87.wf 32 = true := by kernel_rfl
def j79_1 : JC :=
  (.seq (.ops <|
  qo 14 (.cmp .lss (.t 13) (.t 12)) <|
  .nil)
  (.seq (.cond (.t 14)
  .skip
  (.exit 0))
  (.seq (.block 1 (.seq (.ops <|
  qo 15 (.mv (.t 13)) <|
  qo 5 (.mv (.t 15)) <|
  .nil)
  (.seq (.ops <|
  eo 16 (.load 29 true (.t 2)) <|
  qo 17 (.mv (.t 5)) <|
  eo 18 (.call 48 [(.t 16), (.t 17)]) <|
  .prune [18, 2, 5, 1, 13, 12] <|
  qo 19 (.mv (.t 18)) <|
  .scd false 26 19 (eo 20 (.load 29 true (.t 2)) <|
  qo 21 (.mv (.t 5)) <|
  eo 22 (.call 49 [(.t 20), (.t 21)]) <|
  qo 23 (.mv (.t 1)) <|
  eo 24 (.call 79 [(.t 22), (.t 23)]) <|
  qo 25 (.nt (.t 24)) <|
  .nil) (.t 25) <|
  .nil)
  (.prune [26, 13, 12, 2, 1] (.cond (.t 26)
  (.seq (.ops <|
  qo 4 (.mv (B false)) <|
  .nil)
  .ret)
  .skip)))))
  (.prune [13, 12, 2, 1] (.ops <|
  qo 27 (.ar .add (.t 13) (I 1)) <|
  qo 13 (.mv (.t 27)) <|
  .nil)))))
def j79_2 : JC :=
  (.prune [] (.seq (.ops <|
  qo 4 (.mv (B true)) <|
  .nil)
  .ret))
def j79 : JC :=
  (.seq (.ops <|
  eo 2 (.box 91 (.t 0)) <|
  qo 4 (.mv (B false)) <|
  .nil)
  (.seq (.seq (.ops <|
  qo 6 (.mv (.t 1)) <|
  eo 7 (.load 29 true (.t 2)) <|
  eo 8 (.callv (.t 6) [(.t 7)]) <|
  qo 9 (.nt (.t 8)) <|
  .nil)
  (.cond (.t 9)
  (.seq (.ops <|
  qo 4 (.mv (B false)) <|
  .nil)
  .ret)
  .skip))
  (.seq (.seq (.ops <|
  .prune [2, 1] <|
  qo 10 (.fa 0 0 (.t 2)) <|
  eo 11 (.load 1 false (.t 10)) <|
  qo 12 (.len (.t 11)) <|
  qo 13 (.mv (I 0)) <|
  .nil)
  (.prune [13, 12, 2, 1] (.block 0 (.loop [12, 2, 1] [13] j79_1))))
  j79_2)))
theorem c79 : fnIs Try.prog qall 79 = some (j79.flat, [.tmp 4], 28) := by kernel_rfl
theorem w79 : j79.wf 28 = true := by kernel_rfl

def j41 : JC :=
  (.seq (.ops <|
  qo 2 (.mv (B false)) <|
  qo 3 (.mv (.c .nils)) <|
  .nil)
  (.seq (.ops <|
  eo 4 (.alloc 23 .nils) <|
  .nil)
  (.seq (.ops <|
  eo 5 (.alloc 4 (.bool false)) <|
  en (.store 1 (.t 5) (B false)) <|
  .nil)
  (.seq (.ops <|
  qo 6 (.mv (.t 0)) <|
  qo 7 (.bld (.agg [.nils, (.arr 6 1 fun _ => (.int .i64 0)), .nils, (.agg [(.arr 8 1 fun _ => (.int .i64 0)), (.arr 4 1 fun _ => (.int .i64 0)), (.arr 6 1 fun _ => (.int .i64 0)), (.bool false), (.bool false)]), .nils]) [([.fld 0], 0, 1, (.t 6))]) <|
  qo 8 (.mkfn 87 [(.t 5), (.t 4)]) <|
  eo 9 (.call 79 [(.t 7), (.t 8)]) <|
  .nil)
  (.seq (.dops <|
  .prune [5, 4] <|
  eo 10 (.load 1 false (.t 5)) <|
  eo 11 (.load 1 false (.t 4)) <|
  qo 2 (.mv (.t 10)) <|
  qo 3 (.mv (.t 11)) <|
  .nil)
  .ret)))))
theorem c41 : fnIs Try.prog qall 41 = some (j41.flat, [.tmp 2, .tmp 3], 12) := by kernel_rfl
theorem w41 : j41.wf 12 = true := by kernel_rfl
def j31_1 : JC :=
  (.seq (.ops <|
  qo 15 (.cmp .lss (.t 14) (.t 13)) <|
  .nil)
  (.seq (.cond (.t 15)
  .skip
  (.exit 0))
  (.seq (.block 1 (.seq (.ops <|
  qo 16 (.is 1 (.t 12) (.t 14)) <|
  eo 17 (.load 1 false (.t 16)) <|
  qo 6 (.mv (.t 17)) <|
  .nil)
  (.ops <|
  .prune [4, 6, 14, 13, 12] <|
  qo 18 (.mv (.t 4)) <|
  qo 19 (.mv (.t 6)) <|
  qo 20 (.len (.t 19)) <|
  qo 21 (.ar .add (.t 18) (.t 20)) <|
  qo 4 (.mv (.t 21)) <|
  .nil)))
  (.prune [14, 13, 12, 4] (.ops <|
  qo 22 (.ar .add (.t 14) (I 1)) <|
  qo 14 (.mv (.t 22)) <|
  .nil)))))
def j31_2 : JC :=
  (.prune [4] (.seq (.seq (.ops <|
  qo 23 (.mv (.t 4)) <|
  qo 24 (.cmp .gtr (.t 23) (I 10)) <|
  .nil)
  (.cond (.t 24)
  (.seq (.ops <|
  qo 2 (.mv (I 2)) <|
  .nil)
  .ret)
  .skip))
  (.seq (.ops <|
  qo 2 (.mv (I 0)) <|
  .nil)
  .ret)))
def j31 : JC :=
  (.seq (.ops <|
  qo 2 (.mv (I 0)) <|
  .nil)
  (.seq (.seq (.ops <|
  qo 7 (.mv (.t 0)) <|
  eo 8 (.call 47 [(.t 7)]) <|
  qo 3 (.mv (.t 8)) <|
  .nil)
  (.seq (.ops <|
  qo 9 (.mv (.t 3)) <|
  qo 10 (.cmp .neq (.t 9) (I 0)) <|
  .nil)
  (.cond (.t 10)
  (.seq (.ops <|
  qo 11 (.mv (.t 3)) <|
  qo 2 (.mv (.t 11)) <|
  .nil)
  .ret)
  .skip)))
  (.seq (.ops <|
  qo 4 (.mv (I 0)) <|
  .nil)
  (.seq (.seq (.ops <|
  .prune [0, 4] <|
  qo 12 (.mv (.t 0)) <|
  qo 13 (.len (.t 12)) <|
  qo 14 (.mv (I 0)) <|
  .nil)
  (.prune [14, 13, 12, 4] (.block 0 (.loop [13, 12] [14, 4] j31_1))))
  j31_2))))
theorem c31 : fnIs Try.prog qall 31 = some (j31.flat, [.tmp 2], 25) := by kernel_rfl
theorem w31 : j31.wf 25 = true := by kernel_rfl
def raceB (l : List Ev) : Bool := decide (0 < (racesF l).length)
def tellG (fd : Bool) (be : Option (List Int)) (g : Pg) : Bool := decide (0 < (gl g).length) && ((!fd || decide ((gt g).length < (be.getD []).length)) && raceB (gl g))
def Gcl (f : FuncId) (a : List SV) (m : List Res) : Sx.Call := (FH.pz 35 (.one dEs) (DP.one (DT.list 4 dRc)) (fun y => (checkR y.1).2 = 0) (fun y => racesF y.1) FH.none) f a m
theorem Gcl_eq (f : FuncId) (a : List SV) (m : List Res) : Gcl f a m = (FH.pz 35 (.one dEs) (DP.one (DT.list 4 dRc)) (fun y => (checkR y.1).2 = 0) (fun y => racesF y.1) FH.none) f a m := nr rfl
theorem Gcl_ok : FHOK Try.prog Gcl := FH.pz_ok (by kernel_rfl) (fun y h => FnOK.holdL (f_RRaces y.1 h)) FH.none_ok
theorem f_cl (fd : Bool) (be : Option (List Int)) (g : Pg) (hok : (checkR (gl g)).2 = 0) : FnOK Try.prog 87 [dPg.emb g, .ptr 0 [] 0, .ptr 1 [] 0] [.blk 4 (.bool fd), .blk 23 (dBe.emb be)] (.bool true)
    [.blk 4 (.bool (if tellG fd be g = true then true else fd)), .blk 23 (dBe.emb (if tellG fd be g = true then g.last else be))] := by
  refine fn_walkF c87 w87 Gcl_ok rfl ?_
  unfold j87
  obtain ⟨gp, ga, g0, ge, gz⟩ := g
  cases g0 with
  | none =>
    have ht : tellG fd be ⟨gp, ga, none, ge, gz⟩ = false := by simp [tellG, gl]
    simp only [go_sem, ↓reduceIte, Nat.reduceAdd, Nat.reduceMul, Nat.reduceSub, Nat.reduceLT, Nat.reduceLeDiff, Nat.reduceEqDiff, Int.reduceToNat, Int.reduceEq, Int.reduceLT, Int.reduceLE, reduceCtorEq, Gcl_eq, sl_len, Option.getD_none, List.length_nil, List.range_zero, List.nil_append, List.map_nil, List.set_cons_succ, List.set_cons_zero, selM, selI_eq, selJ, List.map_cons, List.take_succ_cons, List.take_zero, memAt, List.getD_cons_zero, List.getD_cons_succ]
    rw [ht]; rfl
  | some l =>
    have ht : tellG fd be ⟨gp, ga, some l, ge, gz⟩ = (decide ((0 : Int) < l.length) && (!fd || decide (((gz.getD []).length : Int) < (be.getD []).length)) && decide ((0 : Int) < (racesF l).length)) := by
      simp [tellG, raceB, gl, gt, Bool.and_assoc]
    simp only [go_sem, ↓reduceIte, Nat.reduceAdd, Nat.reduceMul, Nat.reduceSub, Nat.reduceLT, Nat.reduceLeDiff, Nat.reduceEqDiff, Int.reduceToNat, Int.reduceEq, Int.reduceLT, Int.reduceLE, reduceCtorEq, Gcl_eq, sl_len, Option.getD_some, List.range_zero, List.nil_append, List.map_nil, List.set_cons_succ, List.set_cons_zero, selM, selI_eq, selJ, List.map_cons, List.take_succ_cons, List.take_zero, memAt, List.getD_cons_zero, List.getD_cons_succ]
    refine ⟨fun _ => hok, fun h => ?_, fun h => ?_⟩
    · rw [ht, h]; rfl
    · rw [ht, h]; rfl
/-- A state of the reference's walk, come to by these picks. -/
structure GOK (p : List (List PO)) (ks : List Int) (g : Pg) : Prop where
  eq : g = runG p ks ks.length
  sum : sumAt p g.at' = ks.length
  z : gt g = ks
theorem runG_pre (p : List (List PO)) (ks r : List Int) : ∀ i, i ≤ ks.length → runG p (ks ++ r) i = runG p ks i
  | 0, _ => rfl
  | i + 1, h => by
    rw [runG, runG, runG_pre p ks r i (by omega)]
    congr 1
    simp [List.getD, List.getElem?_append_left (show i < ks.length by omega)]
theorem GOK.first {p : List (List PO)} (hp : progC badP p = 0) : GOK p [] (firstG p) := ⟨rfl, (root_ok hp).sum, rfl⟩
theorem GOK.all {p : List (List PO)} (hp : progC badP p = 0) {ks : List Int} {g : Pg} (h : GOK p ks g) : g.p = p ∧ Fit p g.at' ∧ (checkR (gl g)).2 = 0 ∧ (gl g).length ≤ ks.length := by
  obtain ⟨h1, h2, h3, _⟩ := runG_ok hp (picks := ks) ks.length
  have h4 := (run_same hp (picks := ks) ks.length).2
  rw [h.eq]
  exact ⟨h1, h2, by rw [h4]; exact Tp.run_ok hp ks ks.length, h3⟩
theorem GOK.step {p : List (List PO)} (hp : progC badP p = 0) {ks : List Int} {g : Pg} (h : GOK p ks g) {t : Nat} (hc : canG g t = true) : GOK p (ks ++ [(t : Int)]) (Rn.stepG g t (opG g t)) := by
  obtain ⟨a1, a2, _, _⟩ := h.all hp
  obtain ⟨n, e, h1, h2, h3⟩ := canG_some (by rw [a1]; exact a2) hc
  obtain rfl : t = n := by omega
  rw [a1] at h1 h3
  have h0 := a2.at0 t h1
  refine ⟨?_, ?_, ?_⟩
  · rw [List.length_append, List.length_singleton, runG, runG_pre p ks _ _ (Nat.le_refl _), ← h.eq]
    have : (ks ++ [(t : Int)]).getD ks.length 0 = (t : Int) := by simp [List.getD]
    rw [this, pickG, if_pos hc]; rfl
  · have := sum_upd g.at' t h0.1 p.length
    rw [if_pos h1] at this
    show sumAt p (Tr.upd g.at' t (g.at' t + 1)) = _
    rw [sumAt, this, List.length_append, ← h.sum]; rfl
  · show (some (gt g ++ [(t : Int)])).getD [] = _
    rw [h.z]; rfl
abbrev WS := Bool × Option (List Int)
def seeG (st : WS) (g : Pg) : WS := (if tellG st.1 st.2 g = true then true else st.1, if tellG st.1 st.2 g = true then g.last else st.2)
def walkG (p : List (List PO)) : Nat → Pg → WS → WS
  | 0, g, st => st
  | f + 1, g, st => (List.range p.length).foldl (fun (st : WS) (t : Nat) => if canG g t = true then walkG p f (Rn.stepG g t (opG g t)) st else st) (seeG st g)
theorem walk_to (p : List (List PO)) (f : Nat) (g : Pg) (st : WS) (k : Nat) : (List.range (k + 1)).foldl (fun (st : WS) (t : Nat) => if canG g t = true then walkG p f (Rn.stepG g t (opG g t)) st else st) st =
    (if canG g k = true then walkG p f (Rn.stepG g k (opG g k)) ((List.range k).foldl (fun (st : WS) (t : Nat) => if canG g t = true then walkG p f (Rn.stepG g t (opG g t)) st else st) st) else (List.range k).foldl (fun (st : WS) (t : Nat) => if canG g t = true then walkG p f (Rn.stepG g t (opG g t)) st else st) st) := by
  rw [List.range_succ, List.foldl_append]; rfl
def wtG (p : List (List PO)) (f : Nat) (g : Pg) (st : WS) (k : Nat) : WS := (List.range k).foldl (fun (st : WS) (t : Nat) => if canG g t = true then walkG p f (Rn.stepG g t (opG g t)) st else st) (seeG st g)
def Gwk (p : List (List PO)) (n : Nat) (f : FuncId) (a : List SV) (m : List Res) : Sx.Call := (FH.m2 87 4 23 DT.bool dBe dPg (DP.one DT.bool) (fun _ _ g => (checkR (gl g)).2 = 0) (fun _ _ _ => true) (fun fd be g => seeG (fd, be) g) <|
  FH.rd 48 (.two dPg .int) (.one .bool) (fun y => Fit y.1.p y.1.at' ∧ progC badP y.1.p = 0) (fun y => canG y.1 y.2.1) <|
  FH.pz 49 (.two dPg .int) (DP.one dPg) (fun y => Fit y.1.p y.1.at' ∧ progC badP y.1.p = 0 ∧ 0 ≤ y.2.1 ∧ canG y.1 y.2.1 = true ∧ (gl y.1).length ≤ 1000 ∧ (gt y.1).length ≤ 1000) (fun y => Rn.stepG y.1 y.2.1.toNat (opG y.1 y.2.1)) <|
  FH.c2 79 87 4 23 DT.bool dBe dPg (DP.one DT.bool) (fun _ _ g => ∃ ks, GOK p ks g ∧ manyL p < ks.length + n) (fun _ _ _ => true) (fun fd be g => walkG p n g (fd, be)) FH.none) f a m
theorem Gwk_eq (p : List (List PO)) (n : Nat) (f : FuncId) (a : List SV) (m : List Res) : Gwk p n f a m = (FH.m2 87 4 23 DT.bool dBe dPg (DP.one DT.bool) (fun _ _ g => (checkR (gl g)).2 = 0) (fun _ _ _ => true) (fun fd be g => seeG (fd, be) g) <|
  FH.rd 48 (.two dPg .int) (.one .bool) (fun y => Fit y.1.p y.1.at' ∧ progC badP y.1.p = 0) (fun y => canG y.1 y.2.1) <|
  FH.pz 49 (.two dPg .int) (DP.one dPg) (fun y => Fit y.1.p y.1.at' ∧ progC badP y.1.p = 0 ∧ 0 ≤ y.2.1 ∧ canG y.1 y.2.1 = true ∧ (gl y.1).length ≤ 1000 ∧ (gt y.1).length ≤ 1000) (fun y => Rn.stepG y.1 y.2.1.toNat (opG y.1 y.2.1)) <|
  FH.c2 79 87 4 23 DT.bool dBe dPg (DP.one DT.bool) (fun _ _ g => ∃ ks, GOK p ks g ∧ manyL p < ks.length + n) (fun _ _ _ => true) (fun fd be g => walkG p n g (fd, be)) FH.none) f a m := nr rfl
theorem f_walk {p : List (List PO)} (hp : progC badP p = 0) (h10 : manyL p ≤ 10) : ∀ (n : Nat) (g : Pg) (ks : List Int) (fd : Bool) (be : Option (List Int)), GOK p ks g → manyL p < ks.length + n →
    FnOK Try.prog 79 [dPg.emb g, .fn 87 [.ptr 0 [] 0, .ptr 1 [] 0]] [.blk 4 (DT.bool.emb fd), .blk 23 (dBe.emb be)] (.bool true) [.blk 4 (DT.bool.emb (walkG p n g (fd, be)).1), .blk 23 (dBe.emb (walkG p n g (fd, be)).2)]
  | 0, g, ks, fd, be, h, hm => by
    obtain ⟨_, a2, _, _⟩ := h.all hp
    have h1 := sum_le a2 p.length (Nat.le_refl _)
    rw [List.take_length] at h1
    have h2 := h.sum
    rw [sumAt] at h2
    omega
  | n + 1, g, ks, fd, be, h, hm => by
    obtain ⟨a1, a2, a3, a4⟩ := h.all hp
    have hks : ks.length ≤ 10 := by
      have h1 := sum_le a2 p.length (Nat.le_refl _)
      rw [List.take_length] at h1
      have h2 := h.sum
      rw [sumAt] at h2
      omega
    have hl6 : g.p.length ≤ 6 := by rw [a1]; exact a2.n
    have G_ok : FHOK Try.prog (Gwk p n) := FH.m2_ok (by kernel_rfl) (fun a b y h => f_cl a b y h) <|
      FH.rd_ok (by kernel_rfl) (fun y h => f_CanG y.1 y.2.1 h.1 h.2) <| FH.pz_ok (by kernel_rfl) (fun y h => by
        obtain ⟨b1, b2, b3, b4, b5, b6⟩ := h
        obtain ⟨k, e, c1, c2, c3⟩ := canG_some b1 b4
        have := f_StepG y.1 k b1 b2 c1 c3 b5 b6
        rw [e, Int.toNat_natCast]
        rw [← e] at this ⊢
        exact this) <|
      FH.c2_ok (by kernel_rfl) (fun a b y h => by
        obtain ⟨ks', h1, h2⟩ := h
        exact f_walk hp h10 n y ks' a b h1 h2) FH.none_ok
    refine fn_walkF c79 w79 G_ok rfl ?_
    unfold j79
    simp only [go_sem, ↓reduceIte, Nat.reduceAdd, Nat.reduceMul, Nat.reduceSub, Nat.reduceLT, Nat.reduceLeDiff, Nat.reduceEqDiff, Int.reduceToNat, Int.reduceEq, Int.reduceLT, Int.reduceLE, reduceCtorEq, Gwk_eq, List.range_zero, List.nil_append, List.map_nil, List.set_cons_succ, List.set_cons_zero, selM, selI_eq, selJ, List.map_cons, List.take_succ_cons, List.take_zero, memAt, List.getD_cons_zero, List.getD_cons_succ]
    refine ⟨a3, ?_⟩
    have hwt : ∀ t, wtG p n g (fd, be) (t + 1) = if canG g t = true then walkG p n (Rn.stepG g t (opG g t)) (wtG p n g (fd, be) t) else wtG p n g (fd, be) t := fun t => walk_to p n g _ t
    refine loopF Nat (fun t => [.int .i64 t]) (fun t => [.blk 4 (.bool (wtG p n g (fd, be) t).1), .blk 23 (dBe.emb (wtG p n g (fd, be) t).2), .blk 91 (dPg.emb g)]) (fun t => t ≤ g.p.length) (fun t => g.p.length - t) 0 (by omega) ?_ ?_ ?_
    · simp only [go_sem, ↓reduceIte, Nat.reduceAdd, Nat.reduceMul, Nat.reduceSub, Nat.reduceLT, Nat.reduceLeDiff, Nat.reduceEqDiff, Int.reduceToNat, Int.reduceEq, Int.reduceLT, Int.reduceLE, reduceCtorEq]
    · rfl
    rintro t ht
    unfold j79_1
    by_cases qt : t < g.p.length
    · have qt' : (t : Int) < g.p.length := by omega
      cases hcan : canG g t with
      | false =>
        simp only [go_sem, ↓reduceIte, Nat.reduceAdd, Nat.reduceMul, Nat.reduceSub, Nat.reduceLT, Nat.reduceLeDiff, Nat.reduceEqDiff, Int.reduceToNat, Int.reduceEq, Int.reduceLT, Int.reduceLE, reduceCtorEq, Gwk_eq, qt', hcan, List.range_zero, List.nil_append, List.map_nil, List.set_cons_succ, List.set_cons_zero, selM, selI_eq, selJ, List.map_cons, List.take_succ_cons, List.take_zero, memAt, List.getD_cons_zero, List.getD_cons_succ]
        refine ⟨⟨by rw [a1]; exact a2, by rw [a1]; exact hp⟩, rfl, t + 1, by omega, by omega, IntWalk.i64_in _ (by omega), ?_⟩
        rw [hwt, hcan]; rfl
      | true =>
        have hst := h.step hp hcan
        have hz := h.z
        simp only [go_sem, ↓reduceIte, Nat.reduceAdd, Nat.reduceMul, Nat.reduceSub, Nat.reduceLT, Nat.reduceLeDiff, Nat.reduceEqDiff, Int.reduceToNat, Int.reduceEq, Int.reduceLT, Int.reduceLE, reduceCtorEq, Gwk_eq, qt', hcan, Int.toNat_natCast, List.range_zero, List.nil_append, List.map_nil, List.set_cons_succ, List.set_cons_zero, selM, selI_eq, selJ, List.map_cons, List.take_succ_cons, List.take_zero, memAt, List.getD_cons_zero, List.getD_cons_succ]
        refine ⟨⟨by rw [a1]; exact a2, by rw [a1]; exact hp⟩, ⟨by rw [a1]; exact a2, by rw [a1]; exact hp, by omega, by omega, by rw [hz]; omega⟩, ⟨_, hst, by rw [List.length_append, List.length_singleton]; omega⟩, t + 1, by omega, by omega, IntWalk.i64_in _ (by omega), ?_⟩
        rw [hwt, if_pos hcan]
    · have qt' : ¬ (t : Int) < g.p.length := by omega
      have et : t = p.length := by rw [a1] at qt ht; omega
      simp only [go_sem, ↓reduceIte, Nat.reduceAdd, Nat.reduceMul, Nat.reduceSub, Nat.reduceLT, Nat.reduceLeDiff, Nat.reduceEqDiff, Int.reduceToNat, Int.reduceEq, Int.reduceLT, Int.reduceLE, reduceCtorEq, Gwk_eq, qt', List.range_zero, List.nil_append, List.map_nil, List.set_cons_succ, List.set_cons_zero, selM, selI_eq, selJ, List.map_cons, List.take_succ_cons, List.take_zero, memAt, List.getD_cons_zero, List.getD_cons_succ]
      unfold j79_2
      simp only [go_sem, ↓reduceIte, Nat.reduceAdd, Nat.reduceMul, Nat.reduceSub, Nat.reduceLT, Nat.reduceLeDiff, Nat.reduceEqDiff, Int.reduceToNat, Int.reduceEq, Int.reduceLT, Int.reduceLE, reduceCtorEq, Gwk_eq, List.range_zero, List.nil_append, List.map_nil, List.set_cons_succ, List.set_cons_zero, selM, selI_eq, selJ, List.map_cons, List.take_succ_cons, List.take_zero, memAt, List.getD_cons_zero, List.getD_cons_succ]
      subst et
      rfl
def dfsB (p : List (List PO)) : WS := walkG p 12 (firstG p) (false, none)
def Gre (p : List (List PO)) (f : FuncId) (a : List SV) (m : List Res) : Sx.Call := (FH.c2 79 87 4 23 DT.bool dBe dPg (DP.one DT.bool) (fun _ _ g => ∃ ks, GOK p ks g ∧ manyL p < ks.length + 12) (fun _ _ _ => true) (fun fd be g => walkG p 12 g (fd, be)) FH.none) f a m
theorem Gre_eq (p : List (List PO)) (f : FuncId) (a : List SV) (m : List Res) : Gre p f a m = (FH.c2 79 87 4 23 DT.bool dBe dPg (DP.one DT.bool) (fun _ _ g => ∃ ks, GOK p ks g ∧ manyL p < ks.length + 12) (fun _ _ _ => true) (fun fd be g => walkG p 12 g (fd, be)) FH.none) f a m := nr rfl
theorem f_REvery {p : List (List PO)} (hp : progC badP p = 0) (h10 : manyL p ≤ 10) : FnOK Try.prog 41 [dProg.emb p] [] (.tup [.bool (dfsB p).1, dBe.emb (dfsB p).2]) [] := by
  have G_ok : FHOK Try.prog (Gre p) := FH.c2_ok (by kernel_rfl) (fun a b y h => by
    obtain ⟨ks', h1, h2⟩ := h
    exact f_walk hp h10 12 y ks' a b h1 h2) FH.none_ok
  refine fn_walkF c41 w41 G_ok rfl ?_
  unfold j41
  simp only [go_sem, ↓reduceIte, Nat.reduceAdd, Nat.reduceMul, Nat.reduceSub, Nat.reduceLT, Nat.reduceLeDiff, Nat.reduceEqDiff, Int.reduceToNat, Int.reduceEq, Int.reduceLT, Int.reduceLE, reduceCtorEq, Gre_eq, List.range_zero, List.nil_append, List.map_nil, List.set_cons_succ, List.set_cons_zero, selM, selI_eq, selJ, List.map_cons, List.take_succ_cons, List.take_zero, memAt, List.getD_cons_zero, List.getD_cons_succ]
  exact ⟨⟨[], GOK.first hp, by simp only [List.length_nil]; omega⟩, rfl⟩
def Grc (f : FuncId) (a : List SV) (m : List Res) : Sx.Call := (FH.rd 47 (.one dProg) (.one .int) (fun _ => True) (fun y => progC badP y.1) FH.none) f a m
theorem Grc_eq (f : FuncId) (a : List SV) (m : List Res) : Grc f a m = (FH.rd 47 (.one dProg) (.one .int) (fun _ => True) (fun y => progC badP y.1) FH.none) f a m := nr rfl
theorem Grc_ok : FHOK Try.prog Grc := FH.rd_ok (by kernel_rfl) (fun y _ => by rw [progC_eq]; exact Pg.f_RCheck y.1) FH.none_ok
theorem f_REvCheck (p : List (List PO)) : FnOK Try.prog 31 [dProg.emb p] [] (.int .i64 (echF p)) [] := by
  refine fn_walkF c31 w31 Grc_ok rfl ?_
  unfold j31
  by_cases hp : progC badP p = 0
  · have e : echF p = if 10 < manyL p then 2 else 0 := by rw [echF, if_neg (by simp [hp])]
    rw [e]
    have h6 : p.length ≤ 6 := by
      unfold progC at hp
      split at hp
      · cases hp
      · omega
    simp only [go_sem, ↓reduceIte, Nat.reduceAdd, Nat.reduceMul, Nat.reduceSub, Nat.reduceLT, Nat.reduceLeDiff, Nat.reduceEqDiff, Int.reduceToNat, Int.reduceEq, Int.reduceLT, Int.reduceLE, reduceCtorEq, Grc_eq, hp]
    refine loopF Nat (fun i => [.int .i64 i, .int .i64 (manyL (p.take i))]) (fun i => []) (fun i => i ≤ p.length) (fun i => p.length - i) 0 (by omega) ?_ rfl ?_
    · simp only [go_sem, ↓reduceIte, Nat.reduceAdd, Nat.reduceMul, Nat.reduceSub, Nat.reduceLT, Nat.reduceLeDiff, Nat.reduceEqDiff, Int.reduceToNat, Int.reduceEq, Int.reduceLT, Int.reduceLE, reduceCtorEq]
      rfl
    intro i hi
    have hm := many_le hp i hi
    unfold j31_1
    simp only [go_sem, ↓reduceIte, Nat.reduceAdd, Nat.reduceMul, Nat.reduceSub, Nat.reduceLT, Nat.reduceLeDiff, Nat.reduceEqDiff, Int.reduceToNat, Int.reduceEq, Int.reduceLT, Int.reduceLE, reduceCtorEq]
    refine ⟨fun q => ?_, fun q => ?_⟩
    · have q' : i < p.length := by omega
      have hl := (good_of hp q').1
      refine ⟨⟨by omega, by omega⟩, i + 1, by omega, by omega, IntWalk.i64_in _ (by omega), ?_⟩
      rw [many_take p q']
      have : ((manyL (p.take i) : Nat) : Int) + ((p.getD i []).length : Int) = ((manyL (p.take i) + (p.getD i []).length : Nat) : Int) := by omega
      rw [this, IntWalk.i64_in _ (by omega)]
    · have : i = p.length := by omega
      subst this
      rw [List.take_length]
      unfold j31_2
      simp only [go_sem, ↓reduceIte, Nat.reduceAdd, Nat.reduceMul, Nat.reduceSub, Nat.reduceLT, Nat.reduceLeDiff, Nat.reduceEqDiff, Int.reduceToNat, Int.reduceEq, Int.reduceLT, Int.reduceLE, reduceCtorEq]
      exact ⟨fun h => by rw [if_pos (by omega)], fun h => by rw [if_neg (by omega)]⟩
  · have e : echF p = progC badP p := by rw [echF, if_pos hp]
    rw [e]
    simp only [go_sem, ↓reduceIte, Nat.reduceAdd, Nat.reduceMul, Nat.reduceSub, Nat.reduceLT, Nat.reduceLeDiff, Nat.reduceEqDiff, Int.reduceToNat, Int.reduceEq, Int.reduceLT, Int.reduceLE, reduceCtorEq, Grc_eq, hp]
end Go.Proofs.Ytgcbhanfhnianaa.Ev
