/- A board: Tell, Trace, Flags, each in one goroutine. Conditions: none. -/
import Derived.Test.YtgcbhanfhnianaaLocks
import Derived.Test.YtgcbhanfhnianaaFastT
import Derived.Test.YtgcbhanfhnianaaCpy
set_option linter.unusedSimpArgs false
set_option linter.unusedVariables false
set_option maxRecDepth 100000
open Go Go.Sx Go.Proofs
namespace Go.Proofs.Ytgcbhanfhnianaa.Bd
open Go.Proofs.Ytgcbhanfhnianaa.D Go.Proofs.Ytgcbhanfhnianaa.Tr Go.Proofs.Ytgcbhanfhnianaa.Fu Go.Proofs.Ytgcbhanfhnianaa.Fa Go.Proofs.Ytgcbhanfhnianaa.Cp Go.Proofs.Ytgcbhanfhnianaa.Lk
def dMu : DT Unit where
  dft := ()
  emb := fun _ => muV 0 0
  decV := fun _ _ => ()
  decP := fun _ x => x = muV 0 0
  ok := fun {ε m w} g {x} h {cs} hs => by
    subst h
    refine dat_env (muV 0 0) ?_ hs
    simp [muV, datP, datPL]
  agg := fun {m x} h => by subst h; rfl
  vE := fun _ _ => rfl
  pE := fun _ _ => rfl
  ren := fun r _ => by simp only [muV, Sx.ren, renL]
  kill := fun i _ => by simp only [muV, Sx.kill, killL]
  val := fun _ => rfl
/-- A board with a trace, its lock free. -/
def dB : DT (List Ev) := (DT.st (DL.cons dMu (DL.cons dEs DL.nil))).iso (fun x => x.2.1) (fun l => ((), l, ())) (fun _ => rfl) (fun _ => rfl)
theorem b_emb (l : List Ev) : dB.emb l = .agg [muV 0 0, .lst 3 dEv.dft dEv.emb l] := nr rfl
theorem b_vE (m : List Res) (l : List Ev) : dB.decV m (dB.emb l) = l := dB.vE m l

def j21 : JC :=
  (.seq (.ops <|
  qo 0 (.mv (.c .nilp)) <|
  .nil)
  (.seq (.ops <|
  qo 1 (.bld (.agg [(.agg [(.agg [(.agg []), (.agg [(.int .i32 0), (.int .u32 0)])]), (.int .u32 0), (.int .u32 0), (.agg [(.agg []), (.int .i32 0)]), (.agg [(.agg []), (.int .i32 0)])]), .nils]) []) <|
  eo 2 (.box 119 (.t 1)) <|
  qo 0 (.mv (.t 2)) <|
  .nil)
  (.frzb 0 dB.frz .ret)))
theorem c21 : fnIs Try.prog qall 21 = some (j21.flat, [.tmp 0], 3) := by kernel_rfl
theorem w21 : j21.wf 3 = true := by kernel_rfl

def j22 : DC :=
  ⟨(.ops <|
  eo 3 (.box 35 (.t 1)) <|
  qo 4 (.mv (I 0)) <|
  qo 5 (.mv (I 0)) <|
  .nil),
  (.ops <|
  qo 9 (.mv (.t 0)) <|
  qo 10 (.nck (.t 9)) <|
  qo 11 (.fa 0 0 (.t 10)) <|
  eo 12 (.call 57 [(.t 11)]) <|
  .nil),
  (qo 13 (.mv (.t 0)) <|
  qo 14 (.nck (.t 13)) <|
  qo 15 (.fa 0 0 (.t 14)) <|
  .nil),
  58, (.t 15),
  (.prune [0, 3] (.seq (.dops <|
  qo 16 (.mv (.t 0)) <|
  qo 17 (.nck (.t 16)) <|
  qo 18 (.fa 1 6 (.t 17)) <|
  eo 19 (.load 1 false (.t 18)) <|
  qo 20 (.mv (.t 0)) <|
  qo 21 (.nck (.t 20)) <|
  .prune [21, 0, 19, 3, 18] <|
  qo 22 (.fa 1 6 (.t 21)) <|
  eo 23 (.load 1 false (.t 22)) <|
  qo 24 (.len (.t 23)) <|
  qo 25 (.mv (.t 0)) <|
  qo 26 (.nck (.t 25)) <|
  qo 27 (.fa 1 6 (.t 26)) <|
  .prune [27, 19, 24, 3, 18, 23, 22, 0] <|
  eo 28 (.load 1 false (.t 27)) <|
  qo 29 (.len (.t 28)) <|
  qo 30 (.slc 3 (.t 19) none (some (.t 24)) (some (.t 29))) <|
  eo 31 (.load 3 true (.t 3)) <|
  .prune [31, 19, 18, 23, 22, 28, 27, 30, 0] <|
  eo 32 (.bsl 35 3 1 (.agg [(.int .i64 0), (.int .i64 0), (.int .i64 0)]) [(0, (.t 31))]) <|
  en (.again 1 false (.t 18) 19) <|
  .prune [23, 22, 28, 27, 30, 32, 0] <|
  en (.again 1 false (.t 22) 23) <|
  .prune [28, 27, 30, 32, 0] <|
  en (.again 1 false (.t 27) 28) <|
  eo 33 (.app 35 3 24 (.t 30) (.t 32)) <|
  qo 6 (.mv (.t 33)) <|
  .nil)
  (.frzv 6 dEs.frz <| .prune [6, 0] (.seq (.seq (.ops <|
  qo 35 (.mv (.t 6)) <|
  eo 36 (.call 59 [(.t 35)]) <|
  qo 34 (.mv (.t 36)) <|
  qo 37 (.ext 0 (.t 34)) <|
  qo 38 (.ext 1 (.t 34)) <|
  qo 7 (.mv (.t 37)) <|
  qo 8 (.mv (.t 38)) <|
  .nil)
  (.seq (.ops <|
  qo 39 (.mv (.t 8)) <|
  qo 40 (.cmp .neq (.t 39) (I 0)) <|
  .nil)
  (.prune [40, 8, 0, 6] (.cond (.t 40)
  (.seq (.ops <|
  qo 41 (.mv (.t 8)) <|
  qo 4 (.mv (I 0)) <|
  qo 5 (.mv (.t 41)) <|
  .nil)
  .ret)
  .skip))))
  (.prune [0, 6] (.seq (.ops <|
  qo 42 (.mv (.t 0)) <|
  qo 43 (.mv (.t 6)) <|
  qo 44 (.nck (.t 42)) <|
  qo 45 (.fa 1 6 (.t 44)) <|
  en (.store 1 (.t 45) (.t 43)) <|
  .nil)
  (.seq (.ops <|
  .prune [6] <|
  qo 46 (.mv (.t 6)) <|
  qo 47 (.len (.t 46)) <|
  qo 48 (.ar .sub (.t 47) (I 1)) <|
  qo 4 (.mv (.t 48)) <|
  qo 5 (.mv (I 0)) <|
  .nil)
  .ret)))))))⟩
theorem c22 : fnD Try.prog qall 22 = some (j22.flat, [.tmp 4, .tmp 5], 49) := by kernel_rfl
theorem w22 : j22.wf 49 = true := by kernel_rfl

def j24 : DC :=
  ⟨(.ops <|
  qo 2 (.mv (.c .nils)) <|
  .nil),
  (.ops <|
  qo 3 (.mv (.t 0)) <|
  qo 4 (.nck (.t 3)) <|
  qo 5 (.fa 0 0 (.t 4)) <|
  eo 6 (.call 64 [(.t 5)]) <|
  .nil),
  (qo 7 (.mv (.t 0)) <|
  qo 8 (.nck (.t 7)) <|
  qo 9 (.fa 0 0 (.t 8)) <|
  .nil),
  65, (.t 9),
  (.prune [0] (.seq (.ops <|
  qo 10 (.mv (.t 0)) <|
  qo 11 (.nck (.t 10)) <|
  qo 12 (.fa 1 6 (.t 11)) <|
  eo 13 (.load 1 false (.t 12)) <|
  eo 14 (.call 66 [(.t 13)]) <|
  qo 2 (.mv (.t 14)) <|
  .nil)
  (.frzv 2 dEs.frz .ret)))⟩
theorem c24 : fnD Try.prog qall 24 = some (j24.flat, [.tmp 2], 15) := by kernel_rfl
theorem w24 : j24.wf 15 = true := by kernel_rfl

def j25 : JC :=
  (.seq (.ops <|
  qo 2 (.mv (.c .nils)) <|
  .nil)
  (.seq (.ops <|
  qo 6 (.mv (.t 0)) <|
  eo 7 (.call 24 [(.t 6)]) <|
  eo 8 (.call 16 [(.t 7)]) <|
  qo 5 (.mv (.t 8)) <|
  qo 9 (.ext 0 (.t 5)) <|
  qo 10 (.ext 1 (.t 5)) <|
  qo 3 (.mv (.t 9)) <|
  qo 4 (.mv (.t 10)) <|
  .nil)
  (.seq (.ops <|
  qo 11 (.mv (.t 3)) <|
  qo 2 (.mv (.t 11)) <|
  .nil)
  (.frzv 2 dFls.frz .ret))))
theorem c25 : fnIs Try.prog qall 25 = some (j25.flat, [.tmp 2], 12) := by kernel_rfl
theorem w25 : j25.wf 12 = true := by kernel_rfl
def tellS (s : List Ev) (e : Ev) : List Ev := if (playedF (s ++ [e])).2.2 = 0 then s ++ [e] else s
def tellR (s : List Ev) (e : Ev) : Int × Int := if (playedF (s ++ [e])).2.2 = 0 then (s.length, 0) else (0, (playedF (s ++ [e])).2.2)
def Gbt (f : FuncId) (a : List SV) (m : List Res) : Sx.Call := (FH.lk 57 0 0 1 (-1073741824) <| FH.rd 59 (.one dEs) (.two .int .int) (fun _ => True) (fun y => (playedF y.1).2) FH.none) f a m
theorem Gbt_eq (f : FuncId) (a : List SV) (m : List Res) : Gbt f a m = (FH.lk 57 0 0 1 (-1073741824) <| FH.rd 59 (.one dEs) (.two .int .int) (fun _ => True) (fun y => (playedF y.1).2) FH.none) f a m := nr rfl
theorem Gbt_ok : FHOK Try.prog Gbt := FH.lk_ok (by kernel_rfl) (lkC_w rwWLib) <| FH.rd_ok (by kernel_rfl) (fun y _ => f_Check y.1) FH.none_ok
theorem f_Tell (s : List Ev) (e : Ev) (h : s.length ≤ 1000) : FnOK Try.prog 22 [.ptr 0 [] 0, dEv.emb e] [.blk 119 (dB.emb s)] (.tup [.int .i64 (tellR s e).1, .int .i64 (tellR s e).2]) [.blk 119 (dB.emb (tellS s e))] := by
  refine fn_walkD c22 w22 Gbt_ok (by kernel_rfl) (lkD_w rwWLib) rfl ?_
  unfold j22
  simp only [go_sem, ↓reduceIte, Nat.reduceAdd, Nat.reduceMul, Nat.reduceSub, Nat.reduceLT, Nat.reduceLeDiff, Nat.reduceEqDiff, Int.reduceToNat, Int.reduceEq, Int.reduceLT, Int.reduceLE, reduceCtorEq, Gbt_eq, b_emb, List.range_zero, List.nil_append, List.map_nil, List.set_cons_succ, List.set_cons_zero, selM, selI_eq, selJ, List.map_cons, List.take_succ_cons, List.take_zero, memAt, List.getD_cons_zero, List.getD_cons_succ]
  simp only [List.take_length]
  refine ⟨rfl, by omega, by omega, ⟨by omega, by omega⟩, by omega, fun h1 => ?_, fun h1 => ?_⟩
  · rw [tellR, tellS, if_neg h1, if_neg h1]
    exact ⟨rfl, rfl⟩
  · rw [tellR, tellS, if_pos h1, if_pos h1]
    have hw : IntKind.i64.wrap (((s ++ [e]).length : Int) - 1) = (s.length : Int) := by
      have : (((s ++ [e]).length : Int) - 1) = s.length := by simp
      rw [this]; exact IntWalk.i64_in _ (by omega)
    rw [hw]
    exact ⟨rfl, rfl⟩
theorem f_New : FnOK Try.prog 21 [] [] (.ptr 0 [] 0) [.blk 119 (dB.emb [])] := by
  refine fn_walkF c21 w21 FH.none_ok rfl ?_
  unfold j21
  simp only [go_sem, ↓reduceIte, Nat.reduceAdd, Nat.reduceMul, Nat.reduceSub, Nat.reduceLT, Nat.reduceLeDiff, Nat.reduceEqDiff, Int.reduceToNat, Int.reduceEq, Int.reduceLT, Int.reduceLE, reduceCtorEq, b_emb, List.range_zero, List.nil_append, List.map_nil, List.set_cons_succ, List.set_cons_zero, selM, selI_eq, selJ, List.map_cons, List.take_succ_cons, List.take_zero, memAt, List.getD_cons_zero, List.getD_cons_succ]
  exact ⟨⟨rfl, trivial, trivial⟩, rfl⟩
def Gbr (f : FuncId) (a : List SV) (m : List Res) : Sx.Call := (FH.lk 64 0 0 0 1 <| FH.mk 66 (.one dEs) (fun y => y.1.length ≤ 1000000) (fun y => .vec 0 y.1.length) (fun y => [.vec 35 3 (y.1.map dEv.emb)]) FH.none) f a m
theorem Gbr_eq (f : FuncId) (a : List SV) (m : List Res) : Gbr f a m = (FH.lk 64 0 0 0 1 <| FH.mk 66 (.one dEs) (fun y => y.1.length ≤ 1000000) (fun y => .vec 0 y.1.length) (fun y => [.vec 35 3 (y.1.map dEv.emb)]) FH.none) f a m := nr rfl
theorem Gbr_ok : FHOK Try.prog Gbr := FH.lk_ok (by kernel_rfl) (lkC_r rwRLib) <| FH.mk_ok (by kernel_rfl) (fun y _ => plainM (pv_vec _ _) ⟨plR_vec _ _ dEv _, trivial⟩) (fun y h => f_CloneEv y.1 h) FH.none_ok
theorem f_Trace (s : List Ev) (h : s.length ≤ 1000) : FnOK Try.prog 24 [.ptr 0 [] 0] [.blk 119 (dB.emb s)] (dEs.emb s) [.blk 119 (dB.emb s)] := by
  refine fn_walkD c24 w24 Gbr_ok (by kernel_rfl) (lkD_r rwRLib) rfl ?_
  unfold j24
  simp only [go_sem, ↓reduceIte, Nat.reduceAdd, Nat.reduceMul, Nat.reduceSub, Nat.reduceLT, Nat.reduceLeDiff, Nat.reduceEqDiff, Int.reduceToNat, Int.reduceEq, Int.reduceLT, Int.reduceLE, reduceCtorEq, Gbr_eq, b_emb, List.range_zero, List.nil_append, List.map_nil, List.set_cons_succ, List.set_cons_zero, selM, selI_eq, selJ, List.map_cons, List.take_succ_cons, List.take_zero, memAt, List.getD_cons_zero, List.getD_cons_succ]
  omega
def Gbf (f : FuncId) (a : List SV) (m : List Res) : Sx.Call := (FH.mz 24 119 dB .nil (DP.one dEs) (fun s _ => s.length ≤ 1000) (fun s _ => s) (fun s _ => s) <|
  FH.mk 16 (.one dEs) (fun _ => True) (fun y => .tup [.vec 0 (fastL y.1).length, .int .i64 (playedF y.1).2.2]) (fun y => [.vec 47 3 ((fastL y.1).map dFl.emb)]) FH.none) f a m
theorem Gbf_eq (f : FuncId) (a : List SV) (m : List Res) : Gbf f a m = (FH.mz 24 119 dB .nil (DP.one dEs) (fun s _ => s.length ≤ 1000) (fun s _ => s) (fun s _ => s) <|
  FH.mk 16 (.one dEs) (fun _ => True) (fun y => .tup [.vec 0 (fastL y.1).length, .int .i64 (playedF y.1).2.2]) (fun y => [.vec 47 3 ((fastL y.1).map dFl.emb)]) FH.none) f a m := nr rfl
theorem Gbf_ok : FHOK Try.prog Gbf := FH.mz_ok (by kernel_rfl) (fun s _ h => f_Trace s h) <|
  FH.mk_ok (by kernel_rfl) (fun y _ => plainM (pv_tup ⟨plV_vec _ _, plV_int _ _, trivial⟩) ⟨plR_vec _ _ dFl _, trivial⟩) (fun y _ => f_FRun y.1) FH.none_ok
theorem f_Flags (s : List Ev) (h : s.length ≤ 1000) : FnOK Try.prog 25 [.ptr 0 [] 0] [.blk 119 (dB.emb s)] (dFls.emb (fastL s)) [.blk 119 (dB.emb s)] := by
  refine fn_walkF c25 w25 Gbf_ok rfl ?_
  unfold j25
  simp only [go_sem, ↓reduceIte, Nat.reduceAdd, Nat.reduceMul, Nat.reduceSub, Nat.reduceLT, Nat.reduceLeDiff, Nat.reduceEqDiff, Int.reduceToNat, Int.reduceEq, Int.reduceLT, Int.reduceLE, reduceCtorEq, Gbf_eq, b_vE, h, List.range_zero, List.nil_append, List.map_nil, List.set_cons_succ, List.set_cons_zero, selM, selI_eq, selJ, List.map_cons, List.take_succ_cons, List.take_zero, memAt, List.getD_cons_zero, List.getD_cons_succ]
end Go.Proofs.Ytgcbhanfhnianaa.Bd
