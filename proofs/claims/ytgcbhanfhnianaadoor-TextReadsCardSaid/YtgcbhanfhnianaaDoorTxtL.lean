/- A line of an event. Conditions: none. -/
import Derived.Test.YtgcbhanfhnianaaDoorTxtK
import Derived.Test.YtgcbhanfhnianaaDoorTraceR
set_option linter.unusedSimpArgs false
set_option linter.unusedVariables false
set_option maxRecDepth 100000
open Go Go.Sx Go.Proofs
namespace Go.Proofs.YtgcbhanfhnianaaDoor.Tx
open Go.Proofs.YtgcbhanfhnianaaDoor.D Go.Proofs.YtgcbhanfhnianaaDoor.Tr

def j20 : JC :=
  (.seq (.ops <|
  qo 0 (.mv (.c .nilm)) <|
  .nil)
  (.seq (.ops <|
  eo 1 (.mop (.make (.int .i64) (.st [.str, .str])) []) <|
  qo 2 (.bld (.agg [(.str []), (.str [])]) [([.fld 0], 0, 1, (.c (.str [114, 101, 97, 100]))), ([.fld 1], 1, 1, (.c (.str [120])))]) <|
  en (.mop (.put (.int .i64) (.st [.str, .str])) [(.t 1), (I 1), (.t 2)]) <|
  qo 3 (.bld (.agg [(.str []), (.str [])]) [([.fld 0], 0, 1, (.c (.str [119, 114, 105, 116, 101]))), ([.fld 1], 1, 1, (.c (.str [120])))]) <|
  en (.mop (.put (.int .i64) (.st [.str, .str])) [(.t 1), (I 2), (.t 3)]) <|
  qo 4 (.bld (.agg [(.str []), (.str [])]) [([.fld 0], 0, 1, (.c (.str [97, 99, 113, 117, 105, 114, 101]))), ([.fld 1], 1, 1, (.c (.str [109])))]) <|
  .prune [1, 4] <|
  en (.mop (.put (.int .i64) (.st [.str, .str])) [(.t 1), (I 3), (.t 4)]) <|
  qo 5 (.bld (.agg [(.str []), (.str [])]) [([.fld 0], 0, 1, (.c (.str [114, 101, 108, 101, 97, 115, 101]))), ([.fld 1], 1, 1, (.c (.str [109])))]) <|
  en (.mop (.put (.int .i64) (.st [.str, .str])) [(.t 1), (I 4), (.t 5)]) <|
  qo 6 (.bld (.agg [(.str []), (.str [])]) [([.fld 0], 0, 1, (.c (.str [102, 111, 114, 107]))), ([.fld 1], 1, 1, (.c (.str [116])))]) <|
  en (.mop (.put (.int .i64) (.st [.str, .str])) [(.t 1), (I 5), (.t 6)]) <|
  .prune [1] <|
  qo 7 (.bld (.agg [(.str []), (.str [])]) [([.fld 0], 0, 1, (.c (.str [106, 111, 105, 110]))), ([.fld 1], 1, 1, (.c (.str [116])))]) <|
  en (.mop (.put (.int .i64) (.st [.str, .str])) [(.t 1), (I 6), (.t 7)]) <|
  qo 8 (.bld (.agg [(.str []), (.str [])]) [([.fld 0], 0, 1, (.c (.str [115, 101, 101]))), ([.fld 1], 1, 1, (.c (.str [118])))]) <|
  en (.mop (.put (.int .i64) (.st [.str, .str])) [(.t 1), (I 7), (.t 8)]) <|
  qo 9 (.bld (.agg [(.str []), (.str [])]) [([.fld 0], 0, 1, (.c (.str [115, 104, 111, 119]))), ([.fld 1], 1, 1, (.c (.str [118])))]) <|
  en (.mop (.put (.int .i64) (.st [.str, .str])) [(.t 1), (I 8), (.t 9)]) <|
  qo 10 (.mv (.t 1)) <|
  qo 0 (.mv (.t 10)) <|
  .nil)
  .ret))
theorem c20 : fnIs Tryd.prog qall 20 = some (j20.flat, [.tmp 0], 11) := by kernel_rfl
theorem w20 : j20.wf 11 = true := by kernel_rfl
def wordM : List (SV × SV) := [(.int .i64 1, .agg [.str [114, 101, 97, 100], .str [120]]), (.int .i64 2, .agg [.str [119, 114, 105, 116, 101], .str [120]]), (.int .i64 3, .agg [.str [97, 99, 113, 117, 105, 114, 101], .str [109]]), (.int .i64 4, .agg [.str [114, 101, 108, 101, 97, 115, 101], .str [109]]),
  (.int .i64 5, .agg [.str [102, 111, 114, 107], .str [116]]), (.int .i64 6, .agg [.str [106, 111, 105, 110], .str [116]]), (.int .i64 7, .agg [.str [115, 101, 101], .str [118]]), (.int .i64 8, .agg [.str [115, 104, 111, 119], .str [118]])]
theorem f_words : FnOK Tryd.prog 20 [] [] (.map 0) [.mp (.int .i64) (.st [.str, .str]) wordM] := by
  refine fn_walkF c20 w20 FH.none_ok rfl ?_
  unfold j20
  simp only [go_sem, ↓reduceIte, Nat.reduceAdd, Nat.reduceMul, Nat.reduceSub, Nat.reduceLT, Nat.reduceLeDiff, Nat.reduceEqDiff, Int.reduceToNat, Int.reduceEq, Int.reduceLT, Int.reduceLE, reduceCtorEq]
  rfl
/-- A kind's word, and the letter of what it is of. -/
def wordB (k : Int) : By := if k = 1 then [114, 101, 97, 100] else if k = 2 then [119, 114, 105, 116, 101] else if k = 3 then [97, 99, 113, 117, 105, 114, 101] else if k = 4 then [114, 101, 108, 101, 97, 115, 101] else if k = 5 then [102, 111, 114, 107] else if k = 6 then [106, 111, 105, 110] else if k = 7 then [115, 101, 101] else [115, 104, 111, 119]
def lettB (k : Int) : By := if k = 1 then [120] else if k = 2 then [120] else if k = 3 then [109] else if k = 4 then [109] else if k = 5 then [116] else if k = 6 then [116] else if k = 7 then [118] else [118]
def lineB (e : Ev) : By := ((((([116] ++ Lib.decDigits e.thr.toNat) ++ [32]) ++ wordB e.kind) ++ [32]) ++ lettB e.kind) ++ Lib.decDigits e.obj.toNat
def lineF (e : Ev) : By × Int := if isEv e = true then (lineB e, 0) else ([], 1)
theorem kind_is {e : Ev} (h : isEv e = true) : e.kind = 1 ∨ e.kind = 2 ∨ e.kind = 3 ∨ e.kind = 4 ∨ e.kind = 5 ∨ e.kind = 6 ∨ e.kind = 7 ∨ e.kind = 8 := by
  have := ((isEv_iff e).1 h).2.2
  unfold many at this
  by_cases h : 1 ≤ e.kind ∧ e.kind ≤ 8
  · omega
  · rw [if_neg (by omega), if_neg (by omega), if_neg (by omega), if_neg (by omega)] at this; omega

def j9 : JC :=
  (.seq (.ops <|
  eo 1 (.box 29 (.t 0)) <|
  qo 2 (.mv (.c (.str []))) <|
  qo 3 (.mv (I 0)) <|
  .nil)
  (.seq (.seq (.ops <|
  eo 5 (.load 3 true (.t 1)) <|
  eo 6 (.call 19 [(.t 5)]) <|
  qo 7 (.nt (.t 6)) <|
  .nil)
  (.cond (.t 7)
  (.seq (.ops <|
  qo 2 (.mv (.c (.str []))) <|
  qo 3 (.mv (I 1)) <|
  .nil)
  .ret)
  .skip))
  (.seq (.gops (
  .prune [1] <|
  qo 9 (.fa 0 0 (.t 1)) <|
  eo 10 (.load 1 false (.t 9)) <|
  eo 8 (.call 20 []) <|
  en (.again 1 false (.t 9) 10) <|
  eo 11 (.mop (.get (.int .i64) (.st [.str, .str]) (.agg [(.str []), (.str [])]) false) [(.t 8), (.t 10)]) <|
  .nil) 4 45 (.agg [(.str []), (.str [])]) (
  en (.store 2 (.t 4) (.t 11)) <|
  .nil))
  (.prune [1, 4] (.seq (.dops <|
  qo 12 (.fa 1 1 (.t 1)) <|
  eo 13 (.load 1 false (.t 12)) <|
  eo 14 (.qcall 21 [(.t 13)]) <|
  qo 15 (.cat (.c (.str [116])) (.t 14)) <|
  qo 16 (.cat (.t 15) (.c (.str [32]))) <|
  .prune [4, 16, 1] <|
  qo 17 (.fa 0 0 (.t 4)) <|
  eo 18 (.load 1 false (.t 17)) <|
  qo 19 (.cat (.t 16) (.t 18)) <|
  qo 20 (.cat (.t 19) (.c (.str [32]))) <|
  .prune [4, 20, 1] <|
  qo 21 (.fa 1 1 (.t 4)) <|
  eo 22 (.load 1 false (.t 21)) <|
  qo 23 (.cat (.t 20) (.t 22)) <|
  qo 24 (.fa 2 2 (.t 1)) <|
  .prune [24, 23] <|
  eo 25 (.load 1 false (.t 24)) <|
  eo 26 (.qcall 21 [(.t 25)]) <|
  qo 27 (.cat (.t 23) (.t 26)) <|
  qo 2 (.mv (.t 27)) <|
  qo 3 (.mv (I 0)) <|
  .nil)
  .ret)))))
theorem c9 : fnIs Tryd.prog (qbut [20]) 9 = some (j9.flat, [.tmp 2, .tmp 3], 28) := by kernel_rfl
theorem w9 : j9.wf 28 = true := by kernel_rfl
def Gln (f : FuncId) (a : List SV) (m : List Res) : Sx.Call := (FH.rd 19 (.one dEv) (.one .bool) (fun _ => True) (fun y => isEv y.1) <|
  FH.mn 20 (.map 0) [.mp (.int .i64) (.st [.str, .str]) wordM] <|
  FH.rd 21 (.one .int) (.one .str) (fun y => 0 ≤ y.1 ∧ y.1 < 100) (fun y => Lib.decDigits y.1.toNat) FH.none) f a m
theorem Gln_eq (f : FuncId) (a : List SV) (m : List Res) : Gln f a m = (FH.rd 19 (.one dEv) (.one .bool) (fun _ => True) (fun y => isEv y.1) <|
  FH.mn 20 (.map 0) [.mp (.int .i64) (.st [.str, .str]) wordM] <|
  FH.rd 21 (.one .int) (.one .str) (fun y => 0 ≤ y.1 ∧ y.1 < 100) (fun y => Lib.decDigits y.1.toNat) FH.none) f a m := nr rfl
theorem Gln_ok : FHOK Tryd.prog Gln := FH.rd_ok (by kernel_rfl) (fun y _ => f_IsEvent y.1) <| FH.mn_ok (by kernel_rfl) f_words <| FH.rd_ok (by kernel_rfl) (fun y h => f_Itoa y.1 h.1 h.2) FH.none_ok
theorem find_word {k : Int} (h : k = 1 ∨ k = 2 ∨ k = 3 ∨ k = 4 ∨ k = 5 ∨ k = 6 ∨ k = 7 ∨ k = 8) : mpFind (.int .i64) (.int .i64 k) wordM = some (.agg [.str (wordB k), .str (lettB k)]) := by
  rcases h with rfl | rfl | rfl | rfl | rfl | rfl | rfl | rfl <;> rfl
theorem word_len (k : Int) : (wordB k).length ≤ 7 ∧ (lettB k).length = 1 := by
  unfold wordB lettB
  repeat (first | (split <;> first | exact ⟨by decide, by decide⟩ | skip) | exact ⟨by decide, by decide⟩)
theorem many_le (k : Int) : many k ≤ 8 := by
  unfold many
  split
  · omega
  split
  · omega
  split
  · omega
  split <;> omega
theorem dig_len {n : Nat} (h : n < 10) : Lib.decDigits n = [UInt8.ofNat (48 + n)] := by
  rw [Lib.decDigits, dif_pos h]
theorem f_Line (e : Ev) : FnOK Tryd.prog 9 [dEv.emb e] [] (.tup [.str (lineF e).1, .int .i64 (lineF e).2]) [] := by
  refine fn_walkF c9 w9 Gln_ok rfl ?_
  unfold j9
  by_cases h : isEv e = true
  · obtain ⟨h1, h2, h3, h4⟩ := (isEv_iff e).1 h
    have hk := kind_is h
    have hm := many_le e.kind
    have h5 : e.thr < 100 := by omega
    have h6 : e.obj < 100 := by omega
    have hf := find_word hk
    have hw := word_len e.kind
    have d1 := dig_len (n := e.thr.toNat) (by omega)
    have d2 := dig_len (n := e.obj.toNat) (by omega)
    have l1 : (Lib.decDigits e.thr.toNat).length = 1 := by rw [d1]; rfl
    have l2 : (Lib.decDigits e.obj.toNat).length = 1 := by rw [d2]; rfl
    rw [lineF, if_pos h]
    simp only [go_sem, ↓reduceIte, Nat.reduceAdd, Nat.reduceMul, Nat.reduceSub, Nat.reduceLT, Nat.reduceLeDiff, Nat.reduceEqDiff, Int.reduceToNat, Int.reduceEq, Int.reduceLT, Int.reduceLE, reduceCtorEq, Gln_eq, h, h1, h3, h5, h6, hf, Option.getD_some, List.range_zero, List.nil_append, List.map_nil, List.set_cons_succ, List.set_cons_zero, selM, selI_eq, selJ, List.map_cons, List.take_succ_cons, List.take_zero, memAt, List.getD_cons_zero, List.getD_cons_succ]
    simp only [List.length_append, List.length_cons, l1, l2, hw.2]
    refine ⟨by omega, by omega, by simp only [List.length_nil]; omega, by omega, by simp only [List.length_nil]; omega, by omega, ?_⟩
    simp [lineB]
  · have h' : isEv e = false := by simpa using h
    rw [lineF, if_neg h]
    simp only [go_sem, ↓reduceIte, Nat.reduceAdd, Nat.reduceMul, Nat.reduceSub, Nat.reduceLT, Nat.reduceLeDiff, Nat.reduceEqDiff, Int.reduceToNat, Int.reduceEq, Int.reduceLT, Int.reduceLE, reduceCtorEq, Gln_eq, h', List.range_zero, List.nil_append, List.map_nil, List.set_cons_succ, List.set_cons_zero, selM, selI_eq, selJ, List.map_cons, List.take_succ_cons, List.take_zero, memAt, List.getD_cons_zero, List.getD_cons_succ]

def j35 : JC :=
  (.seq (.ops <|
  qo 2 (.mv (.c (.str []))) <|
  .nil)
  (.seq (.ops <|
  qo 3 (.mv (.t 0)) <|
  qo 4 (.conv .u8 (.t 3)) <|
  eo 5 (.bsl 5 1 1 (.int .u8 0) [(0, (.t 4))]) <|
  eo 6 (.mop .strb [(.t 5)]) <|
  qo 2 (.mv (.t 6)) <|
  .nil)
  .ret))
theorem c35 : fnIs Tryd.prog qall 35 = some (j35.flat, [.tmp 2], 7) := by kernel_rfl
theorem w35 : j35.wf 7 = true := by kernel_rfl

def j23 : JC :=
  (.seq (.ops <|
  qo 2 (.mv (.c (.str []))) <|
  .nil)
  (.seq (.seq (.ops <|
  qo 3 (.mv (.t 0)) <|
  qo 4 (.cmp .lss (.t 3) (I 10)) <|
  .nil)
  (.cond (.t 4)
  (.seq (.ops <|
  qo 5 (.mv (.t 0)) <|
  qo 6 (.ar .add (I 48) (.t 5)) <|
  eo 7 (.call 35 [(.t 6)]) <|
  qo 2 (.mv (.t 7)) <|
  .nil)
  .ret)
  .skip))
  (.seq (.ops <|
  .prune [0] <|
  qo 8 (.mv (.t 0)) <|
  qo 9 (.ar .quo (.t 8) (I 10)) <|
  eo 10 (.call 23 [(.t 9)]) <|
  qo 11 (.mv (.t 0)) <|
  qo 12 (.ar .rem (.t 11) (I 10)) <|
  qo 13 (.ar .add (I 48) (.t 12)) <|
  .prune [13, 10] <|
  eo 14 (.call 35 [(.t 13)]) <|
  qo 15 (.cat (.t 10) (.t 14)) <|
  qo 2 (.mv (.t 15)) <|
  .nil)
  .ret)))
theorem c23 : fnIs Tryd.prog qall 23 = some (j23.flat, [.tmp 2], 16) := by kernel_rfl
theorem w23 : j23.wf 16 = true := by kernel_rfl

def j24 : JC :=
  (.seq (.ops <|
  qo 0 (.mv (.c .nils)) <|
  .nil)
  (.seq (.ops <|
  eo 1 (.bsl 9 1 8 (.str []) [(0, (.c (.str [114, 101, 97, 100, 32, 120]))), (1, (.c (.str [119, 114, 105, 116, 101, 32, 120]))), (2, (.c (.str [97, 99, 113, 117, 105, 114, 101, 32, 109]))), (3, (.c (.str [114, 101, 108, 101, 97, 115, 101, 32, 109]))), (4, (.c (.str [102, 111, 114, 107, 32, 116]))), (5, (.c (.str [106, 111, 105, 110, 32, 116]))), (6, (.c (.str [115, 101, 101, 32, 118]))), (7, (.c (.str [115, 104, 111, 119, 32, 118])))]) <|
  qo 0 (.mv (.t 1)) <|
  .nil)
  (.vecs 0 9 1 .ret)))
theorem c24 : fnIs Tryd.prog qall 24 = some (j24.flat, [.tmp 0], 2) := by kernel_rfl
theorem w24 : j24.wf 2 = true := by kernel_rfl

def j10 : JC :=
  (.seq (.ops <|
  eo 1 (.box 29 (.t 0)) <|
  qo 2 (.mv (.c (.str []))) <|
  qo 3 (.mv (I 0)) <|
  .nil)
  (.seq (.seq (.ops <|
  eo 4 (.load 3 true (.t 1)) <|
  eo 5 (.call 22 [(.t 4)]) <|
  qo 6 (.nt (.t 5)) <|
  .nil)
  (.cond (.t 6)
  (.seq (.ops <|
  qo 2 (.mv (.c (.str []))) <|
  qo 3 (.mv (I 1)) <|
  .nil)
  .ret)
  .skip))
  (.seq (.dops <|
  .prune [1] <|
  qo 7 (.fa 1 1 (.t 1)) <|
  eo 8 (.load 1 false (.t 7)) <|
  eo 9 (.qcall 23 [(.t 8)]) <|
  qo 10 (.cat (.c (.str [116])) (.t 9)) <|
  qo 11 (.cat (.t 10) (.c (.str [32]))) <|
  eo 12 (.qcall 24 []) <|
  .prune [1, 12, 11] <|
  qo 13 (.fa 0 0 (.t 1)) <|
  eo 14 (.load 1 false (.t 13)) <|
  qo 15 (.ar .sub (.t 14) (I 1)) <|
  qo 16 (.is 1 (.t 12) (.t 15)) <|
  .prune [16, 11, 1] <|
  eo 17 (.load 1 false (.t 16)) <|
  qo 18 (.cat (.t 11) (.t 17)) <|
  qo 19 (.fa 2 2 (.t 1)) <|
  eo 20 (.load 1 false (.t 19)) <|
  .prune [20, 18] <|
  eo 21 (.qcall 23 [(.t 20)]) <|
  qo 22 (.cat (.t 18) (.t 21)) <|
  qo 2 (.mv (.t 22)) <|
  qo 3 (.mv (I 0)) <|
  .nil)
  .ret)))
theorem c10 : fnIs Tryd.prog qall 10 = some (j10.flat, [.tmp 2, .tmp 3], 23) := by kernel_rfl
theorem w10 : j10.wf 23 = true := by kernel_rfl
theorem f_chr (n : Int) (h0 : 0 ≤ n) (h1 : n < 256) : FnOK Tryd.prog 35 [.int .i64 n] [] (.str [UInt8.ofNat n.toNat]) [] := by
  refine fn_walkF c35 w35 FH.none_ok rfl ?_
  unfold j35
  simp only [go_sem, ↓reduceIte, Nat.reduceAdd, Nat.reduceMul, Nat.reduceSub, Nat.reduceLT, Nat.reduceLeDiff, Nat.reduceEqDiff, Int.reduceToNat, Int.reduceEq, Int.reduceLT, Int.reduceLE, reduceCtorEq]
  rw [show IntKind.u8.wrap n = n by simp only [IntKind.wrap, IntKind.bits, IntKind.signed]; simp; omega]
def Gdg (f : FuncId) (a : List SV) (m : List Res) : Sx.Call := (FH.rd 35 (.one .int) (.one .str) (fun y => 0 ≤ y.1 ∧ y.1 < 256) (fun y => [UInt8.ofNat y.1.toNat]) FH.none) f a m
theorem Gdg_eq (f : FuncId) (a : List SV) (m : List Res) : Gdg f a m = (FH.rd 35 (.one .int) (.one .str) (fun y => 0 ≤ y.1 ∧ y.1 < 256) (fun y => [UInt8.ofNat y.1.toNat]) FH.none) f a m := nr rfl
theorem Gdg_ok : FHOK Tryd.prog Gdg := FH.rd_ok (by kernel_rfl) (fun y h => f_chr y.1 h.1 h.2) FH.none_ok
theorem f_Digits (n : Int) (h0 : 0 ≤ n) (h1 : n < 10) : FnOK Tryd.prog 23 [.int .i64 n] [] (.str (Lib.decDigits n.toNat)) [] := by
  refine fn_walkF c23 w23 Gdg_ok rfl ?_
  unfold j23
  have d := dig_len (n := n.toNat) (by omega)
  have hw : IntKind.i64.wrap (48 + n) = 48 + n := IntWalk.i64_in _ (by omega)
  simp only [go_sem, ↓reduceIte, Nat.reduceAdd, Nat.reduceMul, Nat.reduceSub, Nat.reduceLT, Nat.reduceLeDiff, Nat.reduceEqDiff, Int.reduceToNat, Int.reduceEq, Int.reduceLT, Int.reduceLE, reduceCtorEq, Gdg_eq, h0, h1, hw]
  refine ⟨by omega, ?_⟩
  rw [d, show (48 + n).toNat = 48 + n.toNat by omega]
def rwL : List By := [[114, 101, 97, 100, 32, 120], [119, 114, 105, 116, 101, 32, 120], [97, 99, 113, 117, 105, 114, 101, 32, 109], [114, 101, 108, 101, 97, 115, 101, 32, 109], [102, 111, 114, 107, 32, 116], [106, 111, 105, 110, 32, 116], [115, 101, 101, 32, 118], [115, 104, 111, 119, 32, 118]]
theorem f_rwords : FnOK Tryd.prog 24 [] [] (.vec 0 rwL.length) [.vec 9 1 (rwL.map DT.str.emb)] := by
  refine fn_walkF c24 w24 FH.none_ok rfl ?_
  unfold j24
  simp only [go_sem, ↓reduceIte, Nat.reduceAdd, Nat.reduceMul, Nat.reduceSub, Nat.reduceLT, Nat.reduceLeDiff, Nat.reduceEqDiff, Int.reduceToNat, Int.reduceEq, Int.reduceLT, Int.reduceLE, reduceCtorEq]
  exact ⟨rfl, rfl⟩
theorem rw_at {k : Int} (h : k = 1 ∨ k = 2 ∨ k = 3 ∨ k = 4 ∨ k = 5 ∨ k = 6 ∨ k = 7 ∨ k = 8) : rwL.getD (k - 1).toNat [] = wordB k ++ 32 :: lettB k := by
  rcases h with rfl | rfl | rfl | rfl | rfl | rfl | rfl | rfl <;> rfl
theorem rwL_len : rwL.length = 8 := rfl
def Grl (f : FuncId) (a : List SV) (m : List Res) : Sx.Call := (FH.rd 22 (.one dEv) (.one .bool) (fun _ => True) (fun y => isEv y.1) <|
  FH.rd 23 (.one .int) (.one .str) (fun y => 0 ≤ y.1 ∧ y.1 < 10) (fun y => Lib.decDigits y.1.toNat) <|
  FH.pz 24 .nil (DP.one (DT.list 1 DT.str)) (fun _ => True) (fun _ => rwL) FH.none) f a m
theorem Grl_eq (f : FuncId) (a : List SV) (m : List Res) : Grl f a m = (FH.rd 22 (.one dEv) (.one .bool) (fun _ => True) (fun y => isEv y.1) <|
  FH.rd 23 (.one .int) (.one .str) (fun y => 0 ≤ y.1 ∧ y.1 < 10) (fun y => Lib.decDigits y.1.toNat) <|
  FH.pz 24 .nil (DP.one (DT.list 1 DT.str)) (fun _ => True) (fun _ => rwL) FH.none) f a m := nr rfl
theorem Grl_ok : FHOK Tryd.prog Grl := FH.rd_ok (by kernel_rfl) (fun y _ => f_RIsEvent y.1) <| FH.rd_ok (by kernel_rfl) (fun y h => f_Digits y.1 h.1 h.2) <| FH.pz_ok (by kernel_rfl) (fun _ _ => f_rwords.holdL) FH.none_ok
theorem f_RLine (e : Ev) : FnOK Tryd.prog 10 [dEv.emb e] [] (.tup [.str (lineF e).1, .int .i64 (lineF e).2]) [] := by
  refine fn_walkF c10 w10 Grl_ok rfl ?_
  unfold j10
  by_cases h : isEv e = true
  · obtain ⟨h1, h2, h3, h4⟩ := (isEv_iff e).1 h
    have hk := kind_is h
    have hm := many_le e.kind
    have h5 : e.thr < 10 := by omega
    have h6 : e.obj < 10 := by omega
    have hw := word_len e.kind
    have d1 := dig_len (n := e.thr.toNat) (by omega)
    have d2 := dig_len (n := e.obj.toNat) (by omega)
    have l1 : (Lib.decDigits e.thr.toNat).length = 1 := by rw [d1]; rfl
    have l2 : (Lib.decDigits e.obj.toNat).length = 1 := by rw [d2]; rfl
    have hwr : IntKind.i64.wrap (e.kind - 1) = e.kind - 1 := IntWalk.i64_in _ (by omega)
    have hat := rw_at hk
    rw [lineF, if_pos h]
    simp only [go_sem, ↓reduceIte, Nat.reduceAdd, Nat.reduceMul, Nat.reduceSub, Nat.reduceLT, Nat.reduceLeDiff, Nat.reduceEqDiff, Int.reduceToNat, Int.reduceEq, Int.reduceLT, Int.reduceLE, reduceCtorEq, Grl_eq, h, h1, h3, h5, h6, hwr, rwL_len, List.range_zero, List.nil_append, List.map_nil, List.set_cons_succ, List.set_cons_zero, selM, selI_eq, selJ, List.map_cons, List.take_succ_cons, List.take_zero, memAt, List.getD_cons_zero, List.getD_cons_succ]
    have hat' : rwL.getD (e.kind - 1).toNat DT.str.dft = wordB e.kind ++ 32 :: lettB e.kind := hat
    rw [hat']
    simp only [List.length_append, List.length_cons, l1, l2, hw.2]
    refine ⟨by omega, by omega, by omega, by simp only [List.length_nil]; omega, by omega, ?_⟩
    simp [lineB]
  · have h' : isEv e = false := by simpa using h
    rw [lineF, if_neg h]
    simp only [go_sem, ↓reduceIte, Nat.reduceAdd, Nat.reduceMul, Nat.reduceSub, Nat.reduceLT, Nat.reduceLeDiff, Nat.reduceEqDiff, Int.reduceToNat, Int.reduceEq, Int.reduceLT, Int.reduceLE, reduceCtorEq, Grl_eq, h', List.range_zero, List.nil_append, List.map_nil, List.set_cons_succ, List.set_cons_zero, selM, selI_eq, selJ, List.map_cons, List.take_succ_cons, List.take_zero, memAt, List.getD_cons_zero, List.getD_cons_succ]
end Go.Proofs.YtgcbhanfhnianaaDoor.Tx
