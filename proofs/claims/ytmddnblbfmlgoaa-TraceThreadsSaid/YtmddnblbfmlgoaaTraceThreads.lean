/- THE LAW 'TraceThreads' HANDS BACK TRUE, AND WHAT IT READS STANDS AS IT DID: FOR EVERY START. Conditions: none. -/
import Derived.Test.YtmddnblbfmlgoaaTraceT
import Derived.WalkKit
import Derived.ProofKit
import Derived.OpenShut
set_option linter.unusedSimpArgs false
set_option linter.unusedVariables false
set_option maxRecDepth 100000
open Go Go.Sx Go.Proofs Go.ChangeShapes Go.WideShapes Go.ChangeAt Go.RowKit
namespace Go.Proofs.Ytmddnblbfmlgoaa.TraceThreads
open Go.Proofs.Ytmddnblbfmlgoaa.D Go.Proofs.Ytmddnblbfmlgoaa.Tr
def j13_1 : JC :=
  (.seq (.ops <|
  qo 39 (.cmp .lss (.t 38) (.t 37)) <|
  .nil)
  (.seq (.cond (.t 39)
  .skip
  (.exit 2))
  (.seq (.block 3 (.seq (.ops <|
  qo 40 (.is 3 (.t 36) (.t 38)) <|
  eo 41 (.load 3 true (.t 40)) <|
  eo 9 (.alloc 43 (.agg [(.int .i64 0), (.int .i64 0), (.int .i64 0)])) <|
  en (.store 3 (.t 9) (.t 41)) <|
  .nil)
  (.prune [9, 7, 6, 38, 37, 36, 0, 3] (.seq (.ops <|
  qo 42 (.fa 0 0 (.t 9)) <|
  eo 43 (.load 1 false (.t 42)) <|
  qo 44 (.cmp .eql (.t 43) (I 5)) <|
  qo 45 (.mv (.t 44)) <|
  .prune [45, 9, 7, 6, 38, 37, 36, 0, 3] <|
  .sc false 50 45 (qo 46 (.fa 2 2 (.t 9)) <|
  eo 47 (.load 1 false (.t 46)) <|
  qo 48 (.mv (.t 7)) <|
  qo 49 (.cmp .eql (.t 47) (.t 48)) <|
  .nil) (.t 49) <|
  .nil)
  (.prune [50, 6, 7, 38, 37, 36, 0, 3] (.cond (.t 50)
  (.ops <|
  qo 51 (.mv (.t 6)) <|
  qo 52 (.mv (.t 7)) <|
  eo 53 (.bsl 3 1 1 (.int .i64 0) [(0, (.t 52))]) <|
  eo 54 (.app 3 1 8 (.t 51) (.t 53)) <|
  qo 6 (.mv (.t 54)) <|
  .nil)
  .skip))))))
  (.prune [38, 37, 36, 7, 6, 0, 3] (.ops <|
  qo 55 (.ar .add (.t 38) (I 1)) <|
  qo 38 (.mv (.t 55)) <|
  .nil)))))
def j13_2 : JC :=
  (.prune [7, 0, 6, 3] (.ops <|
  qo 34 (.mv (.t 7)) <|
  qo 35 (.ar .add (.t 34) (I 1)) <|
  qo 7 (.mv (.t 35)) <|
  .nil))
def j13_3 : JC :=
  (.seq (.seq (.ops <|
  qo 32 (.mv (.t 7)) <|
  qo 33 (.cmp .lss (.t 32) (I 6)) <|
  .nil)
  (.cond (.t 33)
  .skip
  (.exit 0)))
  (.seq (.block 1 (.seq (.ops <|
  qo 36 (.mv (.t 0)) <|
  qo 37 (.len (.t 36)) <|
  qo 38 (.mv (I 0)) <|
  .nil)
  (.block 2 (.vecs 6 3 1 (.loop [37, 36, 7, 0, 3] [38, 6] j13_1)))))
  j13_2))
def j13_4 : JC :=
  (.prune [3, 6] (.seq (.ops <|
  qo 56 (.mv (.t 3)) <|
  qo 57 (.mv (.t 6)) <|
  eo 58 (.call 15 [(.t 56), (.t 57)]) <|
  qo 2 (.mv (.t 58)) <|
  .nil)
  .ret))
def j13 : JC :=
  (.seq (.ops <|
  qo 2 (.mv (B false)) <|
  .nil)
  (.seq (.ops <|
  qo 11 (.mv (.t 0)) <|
  eo 12 (.call 40 [(.t 11)]) <|
  qo 10 (.mv (.t 12)) <|
  qo 13 (.ext 0 (.t 10)) <|
  qo 14 (.ext 1 (.t 10)) <|
  qo 3 (.mv (.t 13)) <|
  qo 4 (.mv (.t 14)) <|
  .nil)
  (.seq (.seq (.ops <|
  .prune [0, 4, 3] <|
  qo 15 (.mv (.t 0)) <|
  eo 16 (.call 41 [(.t 15)]) <|
  qo 5 (.mv (.t 16)) <|
  .nil)
  (.prune [5, 4, 3, 0] (.seq (.ops <|
  qo 17 (.mv (.t 5)) <|
  qo 18 (.cmp .neq (.t 17) (I 0)) <|
  qo 19 (.mv (.t 18)) <|
  .sc true 22 19 (qo 20 (.mv (.t 4)) <|
  qo 21 (.cmp .neq (.t 20) (I 0)) <|
  .nil) (.t 21) <|
  .nil)
  (.prune [22, 3, 4, 5, 0] (.cond (.t 22)
  (.seq (.ops <|
  qo 23 (.mv (.t 3)) <|
  qo 24 (.len (.t 23)) <|
  .prune [24, 4, 5] <|
  qo 25 (.cmp .eql (.t 24) (I 0)) <|
  qo 26 (.mv (.t 25)) <|
  .sc false 30 26 (qo 27 (.mv (.t 4)) <|
  qo 28 (.mv (.t 5)) <|
  qo 29 (.cmp .eql (.t 27) (.t 28)) <|
  .nil) (.t 29) <|
  qo 2 (.mv (.t 30)) <|
  .nil)
  .ret)
  .skip)))))
  (.prune [0, 3] (.seq (.ops <|
  eo 31 (.bsl 3 1 1 (.int .i64 0) [(0, (I 0))]) <|
  qo 6 (.mv (.t 31)) <|
  .nil)
  (.seq (.seq (.ops <|
  qo 7 (.mv (I 1)) <|
  .nil)
  (.block 0 (.vecs 6 3 1 (.loop [0, 3] [7, 6] j13_3))))
  j13_4))))))
theorem c13 : fnIs Try.prog qall 13 = some (j13.flat, [.tmp 2], 59) := by kernel_rfl
theorem w13 : j13.wf 59 = true := by kernel_rfl
theorem plain_vi (n : Nat) (e : Int) (T : TypeId) (w : Nat) (l : List Int) : PlainM (.tup [.vec 0 n, .int .i64 e]) [.vec T w (l.map DT.int.emb)] := fun r => by
  refine ⟨?_, (plain_vec T w DT.int n l r).2⟩
  simp only [ren, renL]
  refine noHV_tup fun x hx => ?_
  simp only [List.mem_cons, List.not_mem_nil, or_false] at hx
  rcases hx with rfl | rfl
  · simp only [renI]
    split
    · exact noH_vec _ _
    · exact noH_junk
  · exact noH_int _ _
def G (f : FuncId) (a : List SV) (m : List Res) : Sx.Call := (FH.mk 40 (.one dEs) (fun _ => True) (fun y => .tup [.vec 0 (threadsF y.1).length, .int .i64 (playedF y.1).2.2]) (fun y => [.vec 3 1 ((threadsF y.1).map DT.int.emb)]) <|
  FH.rd 41 (.one dEs) (.one .int) (fun _ => True) (fun y => (checkR y.1).2) <| FH.rd 15 (.two dIs dIs) (.one .bool) (fun _ => True) (fun y => decide (y.1 = y.2.1)) FH.none) f a m
theorem G_ok : FHOK Try.prog G := FH.mk_ok (by kernel_rfl) (fun y _ => plain_vi _ _ _ _ _) (fun y _ => f_Threads y.1) <| FH.rd_ok (by kernel_rfl) (fun y _ => f_May y.1) <| FH.rd_ok (by kernel_rfl) (fun y _ => f_EqInt y.1 y.2.1) FH.none_ok
def isFork (t : Int) (e : Ev) : Bool := decide (e.kind = 5) && decide (e.obj = t)
def forks (l : List Ev) (t : Int) : List Int := (l.filter (isFork t)).map fun _ => t
/-- What the law expects, after n rounds. -/
def want (l : List Ev) : Nat → List Int
  | 0 => [0]
  | n + 1 => want l n ++ forks l ((n + 1 : Nat) : Int)
theorem forks_len (l : List Ev) (t : Int) : (forks l t).length ≤ l.length := by
  simp only [forks, List.length_map]; exact List.length_filter_le _ _
theorem want_len (l : List Ev) : ∀ n, (want l n).length ≤ 1 + n * l.length
  | 0 => by simp [want]
  | n + 1 => by
    have h1 := want_len l n
    have h2 := forks_len l ((n + 1 : Nat) : Int)
    simp only [want, List.length_append, Nat.add_mul]
    omega
theorem forks_step {l : List Ev} {i : Nat} (t : Int) (h : i < l.length) : forks (l.take (i + 1)) t = if isFork t (l.getD i dEv.dft) then forks (l.take i) t ++ [t] else forks (l.take i) t := by
  simp only [forks, take_getD dEv.dft h, List.filter_append, List.map_append]
  generalize l.getD i dEv.dft = e
  cases hh : isFork t e <;> simp [hh]
theorem err_same {l : List Ev} : (playedF l).2.2 = (checkR l).2 := by rw [played_check]
theorem ok_len {l : List Ev} (h : (checkR l).2 = 0) : l.length ≤ 80 := by
  rcases Nat.lt_or_ge 80 l.length with h1 | h1
  · rw [checkR, if_pos h1] at h; cases h
  · exact h1
/-- In a trace that may be nothing is wrong anywhere. -/
theorem ok_at {l : List Ev} : ∀ (r : List Ev) (i : Nat), l.drop i = r → (checkL l r i).2 = 0 → ∀ j, i ≤ j → j < l.length → wrongR (l.take j) (l.getD j dEv.dft) = 0
  | [], i, hr, _, j, h1, h2 => by
    have := congrArg List.length hr
    simp at this; omega
  | e :: r, i, hr, h, j, h1, h2 => by
    have hd := drop_getD dEv.dft (show i < l.length by omega)
    rw [hr] at hd
    obtain ⟨rfl, hr'⟩ := List.cons.inj hd
    simp only [checkL] at h
    by_cases hw : wrongR (l.take i) (l.getD i dEv.dft) = 0
    · rw [if_pos hw] at h
      rcases Nat.eq_or_lt_of_le h1 with rfl | h3
      · exact hw
      · exact ok_at r (i + 1) hr'.symm h j h3 h2
    · rw [if_neg hw] at h
      exact absurd h hw
theorem ok_all {l : List Ev} (h : (checkR l).2 = 0) (j : Nat) (hj : j < l.length) : wrongR (l.take j) (l.getD j dEv.dft) = 0 := by
  have h8 := ok_len h
  rw [checkR, if_neg (by omega)] at h
  exact ok_at l 0 rfl h j (Nat.zero_le _) hj
/-- Each thread begins once. -/
theorem forks_once {l : List Ev} (h : (checkR l).2 = 0) (t : Int) : ∀ i, i ≤ l.length → forks (l.take i) t = if didB (l.take i) 5 t then [t] else []
  | 0, _ => rfl
  | i + 1, hi => by
    have ih := forks_once h t i (by omega)
    have hil : i < l.length := by omega
    have hw := ok_all h i hil
    rw [forks_step t hil, take_getD dEv.dft hil, didB_snoc]
    generalize l.getD i dEv.dft = e at hw ⊢
    cases hf : isFork t e with
    | false =>
      have : (decide (e.kind = 5) && decide (e.obj = t)) = false := hf
      rw [this, Bool.or_false]; exact ih
    | true =>
      have h5 : (decide (e.kind = 5) && decide (e.obj = t)) = true := hf
      rw [h5, Bool.or_true, if_pos rfl, if_pos rfl]
      simp only [Bool.and_eq_true, decide_eq_true_eq] at h5
      obtain ⟨k5, ko⟩ := h5
      unfold wrongR at hw
      split at hw
      · cases hw
      · split at hw
        · cases hw
        · simp only [k5, Int.reduceEq, reduceIte] at hw
          split at hw
          · cases hw
          · rename_i hb
            simp only [begB, Bool.not_eq_true, Bool.or_eq_false_iff] at hb
            rw [ko] at hb
            rw [ih, hb.2]; rfl
theorem forks_all {l : List Ev} (h : (checkR l).2 = 0) (t : Int) : forks l t = if didB l 5 t then [t] else [] := by
  have := forks_once h t l.length (Nat.le_refl _)
  rwa [List.take_length] at this
theorem want_below {l : List Ev} (h : (checkR l).2 = 0) (b : Nat → Bool) (hb : ∀ k : Nat, k < 6 → b k = begB l k) : ∀ n, n ≤ 5 → want l n = below b (n + 1)
  | 0, _ => by
    have : b 0 = true := by rw [hb 0 (by omega)]; rfl
    simp [want, below_step, below, this]
  | n + 1, hn => by
    rw [want, want_below h b hb n (by omega), below_step b (n + 1), hb (n + 1) (by omega), forks_all h]
    have : begB l ((n + 1 : Nat) : Int) = didB l 5 ((n + 1 : Nat) : Int) := by
      have h0 : ¬ ((n + 1 : Nat) : Int) = 0 := by omega
      rw [begB, decide_eq_false h0, Bool.false_or]
    rw [this]
    split <;> simp
theorem threads_want {l : List Ev} (h : (checkR l).2 = 0) : threadsF l = want l 5 := by
  have h2 : (playedF l).2.2 = 0 := by rw [err_same]; exact h
  rw [threadsF, if_pos h2, want_below h (playedF l).1.begun (fun k hk => (played_agr l h2).beg k hk) 5 (by omega)]
theorem f_law (l : List Ev) : FnOK Try.prog 13 [dEs.emb l] [] (.bool true) [] := by
  refine fn_len fun hB => fn_walkF c13 w13 G_ok rfl ?_
  simp only [go_sem, reduceIte, Nat.reduceAdd, Nat.reduceMul, Nat.reduceSub, Nat.reduceLT, Nat.reduceLeDiff, Nat.reduceEqDiff, Int.reduceToNat, reduceCtorEq] at hB
  unfold j13
  simp only [go_sem, reduceIte, Nat.reduceAdd, Nat.reduceMul, Nat.reduceSub, Nat.reduceLT, Nat.reduceLeDiff, Nat.reduceEqDiff, Int.reduceToNat, reduceCtorEq, G]
  refine ⟨fun h => ?_, fun h => ?_⟩
  · have h0 : ¬ (playedF l).2.2 = 0 := by
      rw [err_same] at h ⊢
      intro e; rw [e] at h; cases h
    rw [threadsF, if_neg h0, err_same]
    simp
  · simp only [Bool.or_eq_false_iff, Bool.not_eq_false', decide_eq_true_eq] at h
    have hl := ok_len h.1
    refine loopF Nat (fun n => [.int .i64 ((n + 1 : Nat) : Int), .vec 1 (want l n).length]) (fun n => [.vec 3 1 ((threadsF l).map DT.int.emb), .vec 3 1 ((want l n).map DT.int.emb)]) (fun n => n ≤ 5) (fun n => 5 - n) 0 (by omega) ?_ rfl ?_
    · simp only [go_sem, reduceIte, Nat.reduceAdd, Nat.reduceMul, Nat.reduceSub, Nat.reduceLT, Nat.reduceLeDiff, Nat.reduceEqDiff, Int.reduceToNat, reduceCtorEq]
      rfl
    intro n hn
    unfold j13_3
    simp only [go_sem, reduceIte, Nat.reduceAdd, Nat.reduceMul, Nat.reduceSub, Nat.reduceLT, Nat.reduceLeDiff, Nat.reduceEqDiff, Int.reduceToNat, reduceCtorEq]
    refine ⟨fun h1 => ?_, fun h1 => ?_⟩
    · refine loopF Nat (fun i => [.int .i64 i, .vec 1 (want l n ++ forks (l.take i) ((n + 1 : Nat) : Int)).length]) (fun i => [.vec 3 1 ((threadsF l).map DT.int.emb), .vec 3 1 ((want l n ++ forks (l.take i) ((n + 1 : Nat) : Int)).map DT.int.emb)]) (fun i => i ≤ l.length) (fun i => l.length - i) 0 (by omega) ?_ ?_ ?_
      · simp only [go_sem, reduceIte, Nat.reduceAdd, Nat.reduceMul, Nat.reduceSub, Nat.reduceLT, Nat.reduceLeDiff, Nat.reduceEqDiff, Int.reduceToNat, reduceCtorEq]
        simp [forks]
      · simp [forks]
      intro i hi
      unfold j13_1
      simp only [go_sem, reduceIte, Nat.reduceAdd, Nat.reduceMul, Nat.reduceSub, Nat.reduceLT, Nat.reduceLeDiff, Nat.reduceEqDiff, Int.reduceToNat, reduceCtorEq]
      have hw := want_len l n
      have hf := forks_len (l.take i) ((n + 1 : Nat) : Int)
      have hn80 : n * l.length ≤ 5 * 80 := Nat.mul_le_mul hn hl
      rw [List.length_take] at hf
      refine ⟨fun h3 => ?_, fun h3 => ?_⟩
      · have hil : i < l.length := by omega
        have hs := forks_step ((n + 1 : Nat) : Int) hil
        refine ⟨by omega, fun h4 => ⟨?_, i + 1, by omega, by omega, ⟨IntWalk.i64_in _ (by omega), ?_⟩, ?_⟩, fun h4 => ⟨i + 1, by omega, by omega, ⟨IntWalk.i64_in _ (by omega), ?_⟩, ?_⟩⟩
        · simp only [List.length_append, List.length_map]; omega
        · rw [hs, if_pos (show isFork _ _ = true from h4)]
          simp only [List.length_append, List.length_map, List.length_cons, List.length_nil, Nat.add_assoc]
        · rw [hs, if_pos (show isFork _ _ = true from h4)]
          simp only [List.map_append, List.map_cons, List.map_nil, int_emb]
        · rw [hs, if_neg (show ¬ isFork _ _ = true by rw [Bool.not_eq_true]; exact h4)]
        · rw [hs, if_neg (show ¬ isFork _ _ = true by rw [Bool.not_eq_true]; exact h4)]
      · have hil : i = l.length := by omega
        subst hil
        unfold j13_2
        simp only [go_sem, reduceIte, Nat.reduceAdd, Nat.reduceMul, Nat.reduceSub, Nat.reduceLT, Nat.reduceLeDiff, Nat.reduceEqDiff, Int.reduceToNat, reduceCtorEq]
        rw [List.take_length]
        exact ⟨n + 1, by omega, by omega, ⟨IntWalk.i64_in _ (by omega), rfl⟩, by rw [want, List.map_append]⟩
    · unfold j13_4
      simp only [go_sem, reduceIte, Nat.reduceAdd, Nat.reduceMul, Nat.reduceSub, Nat.reduceLT, Nat.reduceLeDiff, Nat.reduceEqDiff, Int.reduceToNat, reduceCtorEq, G]
      rw [show n = 5 by omega]
      exact threads_want h.1
abbrev A : DA (List Ev × Unit) := .one dEs
abbrev Ts : List TT := [.sl 3 (.st [.int .i64, .int .i64, .int .i64])]
theorem lawP (y : DenL Ts) : A.decP [] (embL Ts y) := ⟨⟨rfl, fun _ _ => ⟨rfl, rfl, rfl, trivial⟩⟩, trivial⟩
theorem law (y : DenL Ts) (_ : okDL Ts y) : FnOK Try.prog 13 (A.emb (A.decV [] (embL Ts y))) [] (.bool true) [] := f_law _
theorem own : ownKnob Try.prog.godebug = none := by kernel_rfl
theorem laid : laidOutB Try.prog = true := by kernel_rfl
theorem lifted (os : Os) (started : os.Started) (H : Type) (enc : TypeId × Value → H) :
    ReturnsInHanded {} Try.checked os 13 .any (Rows.traceThreadsSpec.pre6 enc Try.prog Try.f13 Rows.traceThreadsRow.domain false) (Rows.traceThreadsSpec.post enc Try.prog Try.f13 false true false false) := by
  refine returnsInHanded_of_change (C := Try.checked) own started (by kernel_rfl) Try.func13
    (ChangeSpec.witness6 (enc := enc) (C := Try.checked) false ⟨#[], #[.slice none 0 0], []⟩ 8 (by kernel_rfl) (by kernel_rfl) (by kernel_rfl) (by kernel_rfl)) ?_
  intro W base args ds gs before hval0 hW hcnd _
  have hW' := hW
  obtain ⟨p, q, hA, hV, rfl, hfz, hnd⟩ := hW
  obtain ⟨rfl, rfl⟩ := trodVars_none hV
  obtain ⟨y, hs, hok⟩ := open_args Ts (by kernel_rfl) hA (fun j t v h1 h2 => hval0 j t v (by simpa using h1) (by simpa using h2))
  obtain ⟨d1, rfl⟩ := len_one (trod_len hA)
  refine (law_run (law y hok) W (vs := args.toList) (satA_conv (A := A) (lawP y) hs)).mono fun e W' ⟨he, hb⟩ => ?_
  subst he
  exact ⟨_, rfl, row_close laid (by kernel_rfl) (by kernel_rfl) Try.underlying4 rfl hW' hb rfl⟩
theorem holds : Rows.TraceThreadsSaid :=
  OpenClaim.holds_of_wide 13 Try.f13 rfl rfl rfl rfl rfl rfl rfl ⟨rfl, rfl, rfl, rfl, rfl⟩ rfl rfl rfl rfl rfl (by kernel_rfl) Try.func13 (by kernel_rfl)
    (of_decide_eq_true (by kernel_rfl)) (by unfold Func.isWrapper; first | (rw [if_pos (by decide +kernel)]; kernel_rfl) | (rw [if_neg (by decide +kernel)]; exact ⟨rfl, rfl⟩))
    (fun os started H enc _ => lifted os started H enc)
#print axioms holds
end Go.Proofs.Ytmddnblbfmlgoaa.TraceThreads
