import Derived.Test.YtgcbhanfhnianaaSx44
/-! Sx, part 45: a call for which some of what is owned is held fast first; a callee that is handed what stands first in memory. -/
set_option linter.unusedVariables false
set_option linter.unusedSimpArgs false
namespace Go.Sx
open Go
variable {P : Program}
theorem call_hold {f : FuncId} {args args1 : List SV} {m m' : List Res} {sv : SV} (ks : List Nat) (h : CallStep P f args1 (killK ks m) sv m') (ha : ∀ ε w vs, Good ε m w → SatA args ε vs → SatA args1 (frzK ε m w ks) vs) : CallStep P f args m sv m' := by
  intro β ε vs w hi hs
  refine (h β _ vs w (hi.freezeK ks) (ha _ _ _ hi.good hs)).mono fun e w' ⟨v, ε', he, hle, hv, hi'⟩ => ?_
  exact ⟨v, ε', he, (frzK_le hi.good ks).trans hle, hv, hi'⟩
theorem hold_dt {α : Type} (d : DT α) {ε : Env} {m : List Res} {w : World} (g : Good ε m w) {ks : List Nat} (hn : ks.Nodup) {x : SV} (hP : d.decP (selM ks m) (ren (selI ks) x)) (hg : (ren (selI ks) x).isAgg = x.isAgg) {cs : List Value} (h : SatC x ε cs) :
    SatC (d.emb (d.decV (selM ks m) (ren (selI ks) x))) (frzK ε m w ks) cs ∧ (d.emb (d.decV (selM ks m) (ren (selI ks) x))).isAgg = x.isAgg :=
  ⟨SatC.mono _ (frzK_sel g hn) (d.ok (g.sel ks hn) hP (SatC.ren (selI ks) _ (sel_ren ks ε) h)), by rw [d.agg hP, hg]⟩
theorem hold_vec {α : Type} (d : DT α) {ε : Env} {m : List Res} {w : World} (g : Good ε m w) {i n wd : Nat} {T : TypeId} {l : List α} (hm : memAt m i = .vec T wd (l.map d.emb)) (hl : n = l.length) {cs : List Value} (h : SatC (.vec i n) ε cs) :
    SatC ((DT.list wd d).emb l) (frzK ε m w [i]) cs := by
  have hr : ren (selI [i]) (.vec i n) = .vec 0 n := by simp [Sx.ren, renI, selI]
  have hs : selM [i] m = [.vec T wd (l.map d.emb)] := by
    simp only [selM, List.map_cons, List.map_nil, hm, renR, dt_renL]
  subst hl
  have hP : (DT.list wd d).decP (selM [i] m) (ren (selI [i]) (.vec i l.length)) := by
    rw [hr, hs]
    show wd = wd ∧ allL (l.map d.emb) fun y => d.decP [Res.vec T wd (l.map d.emb)] y
    refine ⟨rfl, ?_⟩
    rw [allL_map]
    exact fun y _ => d.pE _ _
  have := (hold_dt (DT.list wd d) (w := w) g (ks := [i]) (by simp) hP (by rw [hr]; rfl) h).1
  have hv : (DT.list wd d).decV (selM [i] m) (ren (selI [i]) (.vec i l.length)) = l := by
    rw [hr, hs]
    show (l.map d.emb).map (fun y => d.decV [Res.vec T wd (l.map d.emb)] y) = l
    rw [List.map_map]
    conv => rhs; rw [← List.map_id l]
    exact List.map_congr_left fun y _ => d.vE _ _
  rwa [hv] at this
end Go.Sx
