/- A part of the proof of StripeRuns. Conditions: none. -/
import Derived.Test.YtpajfggdnobheaaClockJ
set_option linter.unusedVariables false
set_option linter.unusedSimpArgs false
namespace Go.Sx
open Go
variable {P:Program} {main:Bool} {Fz:Nat→Prop}
theorem dt_renR {σ:Type} (d:DT σ) (T:TypeId) (w:Nat) (r:Nat→Option Nat) (s:List σ):renR r (.vec T w (s.map d.emb))= .vec T w (s.map d.emb):=by
 rw [renR,dt_renL]
theorem dt_dec {σ:Type} (d:DT σ) (m:List Res) (s:List σ):(s.map d.emb).map (d.decV m)=s:=by
 rw [List.map_map,show d.decV m∘d.emb=id from funext fun y=>d.vE m y,List.map_id]
theorem Res.pinned {T:TypeId} {w:Nat} {l:List SV} (h:pinB≤T):(Res.vec T w l).isBlk=true:=decide_eq_true h
def FH.sv (f:FuncId) {σ α ρ:Type} (T:TypeId) (w:Nat) (d:DT σ) (A:DA α) (R:DR ρ) (pre:List σ→α→Prop) (F:List σ→α→ρ) (S:List σ→α→List σ) (Γ:FH):FH:=
 FH.on f (fun args m=>match args with
  |x::rest=>match x with
   | .vec i n=>match memAt m i with
    | .vec T' w' l=> .is (T'=T∧w'=w∧n=l.length∧(l.map (d.decV [])).map d.emb=l∧A.emb (A.decV [] rest)=rest∧pre (l.map (d.decV [])) (A.decV [] rest)) (R.emb (F (l.map (d.decV [])) (A.decV [] rest))) (m.set i (.vec T w ((S (l.map (d.decV [])) (A.decV [] rest)).map d.emb)))
    |_=> .no
   |_=> .no
  |[]=> .no) Γ
theorem FH.sv_ok {f:FuncId} {σ α ρ:Type} {T:TypeId} {w:Nat} {d:DT σ} {A:DA α} {R:DR ρ} {pre:List σ→α→Prop} {F:List σ→α→ρ} {S:List σ→α→List σ} {Γ:FH} (hT:pinB≤T) (hf:okFn P f=true)
  (h:∀ s y,pre s y→FnOK P main Fz f (.vec 0 s.length::A.emb y) [.vec T w (s.map d.emb)] (R.emb (F s y)) [.vec T w ((S s y).map d.emb)]) (hΓ:FHOK P main Fz Γ):FHOK P main Fz (FH.sv f T w d A R pre F S Γ):=
 FH.on_ok (fun args m=>by
  cases args with
  |nil=>trivial
  |cons x rest=>
   cases x with
   |vec i n=>
    simp only
    cases hm:memAt m i with
    |dead=>trivial
    |blk T' c=>trivial
    |mp ek ev l=>trivial
    |vec T' w' l=>
     rintro ⟨rfl,rfl,rfl,h1,h2,h3⟩
     refine ⟨hf,?_⟩
     generalize hs:l.map (d.decV [])=s at h1 h3 ⊢
     generalize hy:A.decV [] rest=y at h2 h3 ⊢
     subst h1;subst h2
     have hi:i<m.length:=by
      rcases Nat.lt_or_ge i m.length with hi|hi
      ·exact hi
      ·rw [memAt_ge hi] at hm;cases hm
     have key:=call_of_fn (args:= .vec i (s.map d.emb).length::A.emb y) (m:=m) (h s y h3) [i] (by simp) (by
       intro j hj
       simp only [List.mem_singleton] at hj
       subst hj
       rw [hm]
       exact Res.pinned hT) (by simp only [renL,A.ren,Sx.ren,renI,selI,List.contains_cons,BEq.rfl,Bool.true_or,if_true,List.idxOf_cons_self,List.length_map])
      (by simp only [selM,List.map_cons,List.map_nil,hm,dt_renR]) (by simp) (by intro j hj;simp at hj;subst hj;exact Res.pinned hT)
     rw [R.ren] at key
     have hmm:mergeM [i] m [.vec T' w' ((S s y).map d.emb)]=m.set i (.vec T' w' ((S s y).map d.emb)):=by
      simp [mergeM,memAt,dt_renR]
     rwa [hmm] at key
   |_=>trivial) hΓ
def FH.sw (f:FuncId) (k:Nat) {σ α ρ:Type} (T:TypeId) (w:Nat) (d:DT σ) (Ti:TypeId) (A:DA α) (c0:SV) (R:DR ρ) (pre:List σ→α→Int→Prop) (F:List σ→α→Int→ρ) (S:List σ→α→Int→Int) (Γ:FH):FH:=
 FH.on f (fun args m=>match args with
  |x::rest=>match x with
   | .vec i n=>match memAt m i with
    | .vec T' w' l=>match rest.drop k with
     |p::cs=>match p with
      | .ptr j pp o=>match memAt m j with
       | .blk Ti' cv=>match cv with
        | .int ki q=> .is (T'=T∧w'=w∧n=l.length∧(l.map (d.decV [])).map d.emb=l∧A.emb (A.decV [] (rest.take k))=rest.take k∧cs=[c0]∧pp=[]∧o=0∧Ti'=Ti∧ki= .i64∧pre (l.map (d.decV [])) (A.decV [] (rest.take k)) q)
          (R.emb (F (l.map (d.decV [])) (A.decV [] (rest.take k)) q)) (m.set j (.blk Ti (.int .i64 (S (l.map (d.decV [])) (A.decV [] (rest.take k)) q))))
        |_=> .no
       |_=> .no
      |_=> .no
     |[]=> .no
    |_=> .no
   |_=> .no
  |[]=> .no) Γ
theorem renL_app (r:Nat→Option Nat):∀ a b:List SV,renL r (a++b)=renL r a++renL r b
 |[],_=>rfl
 |x::a,b=>by simp only [List.cons_append,renL,renL_app r a b]
theorem FH.sw_ok {f:FuncId} {k:Nat} {σ α ρ:Type} {T:TypeId} {w:Nat} {d:DT σ} {Ti:TypeId} {A:DA α} {c0:SV} {R:DR ρ} {pre:List σ→α→Int→Prop} {F:List σ→α→Int→ρ} {S:List σ→α→Int→Int} {Γ:FH} (hT:pinB≤T) (hf:okFn P f=true) (hc:∀ r,ren r c0=c0)
  (h:∀ s y q,pre s y q→FnOK P main Fz f (.vec 0 s.length::(A.emb y++[.ptr 1 [] 0,c0])) [.vec T w (s.map d.emb), .blk Ti (.int .i64 q)] (R.emb (F s y q)) [.vec T w (s.map d.emb), .blk Ti (.int .i64 (S s y q))]) (hΓ:FHOK P main Fz Γ):FHOK P main Fz (FH.sw f k T w d Ti A c0 R pre F S Γ):=
 FH.on_ok (fun args m=>by
  cases args with
  |nil=>trivial
  |cons x rest=>
   cases x with
   |vec i n=>
    simp only
    cases hm:memAt m i with
    |dead=>trivial
    |blk T' c=>trivial
    |mp ek ev l=>trivial
    |vec T' w' l=>
     simp only
     cases hd:rest.drop k with
     |nil=>trivial
     |cons p cs=>
      cases p with
      |ptr j pp o=>
       simp only
       cases hmj:memAt m j with
       |dead=>trivial
       |vec T'' w'' l''=>trivial
       |mp ek ev l=>trivial
       |blk Ti' cv=>
        cases cv with
        |int ki q=>
         rintro ⟨rfl,rfl,rfl,h1,h2,rfl,rfl,rfl,rfl,rfl,h3⟩
         refine ⟨hf,?_⟩
         generalize hs:l.map (d.decV [])=s at h1 h3 ⊢
         generalize hy:A.decV [] (rest.take k)=y at h2 h3 ⊢
         have hrest:rest=A.emb y++[.ptr j [] 0,c0]:=by
          rw [h2,← hd,List.take_append_drop]
         subst h1
         have hi:i<m.length:=by
          rcases Nat.lt_or_ge i m.length with hi|hi
          ·exact hi
          ·rw [memAt_ge hi] at hm;cases hm
         have hj:j<m.length:=by
          rcases Nat.lt_or_ge j m.length with hi|hi
          ·exact hi
          ·rw [memAt_ge hi] at hmj;cases hmj
         have hij:i≠j:=fun e=>by subst e;rw [hm] at hmj;cases hmj
         have hsel:selI [i,j] i=some 0∧selI [i,j] j=some 1:=by
          constructor
          ·simp [selI]
          ·simp [selI,List.idxOf_cons,beq_false_of_ne hij]
         have key:=call_of_fn (args:= .vec i (s.map d.emb).length::rest) (m:=m) (h s y q h3) [i,j] (by simp [hij]) (by
           intro x hx
           simp only [List.mem_cons,List.not_mem_nil,or_false] at hx
           rcases hx with rfl|rfl
           ·rw [hm];exact Res.pinned hT
           ·rw [hmj];rfl) (by
           rw [hrest]
           simp only [renL,renL_app,A.ren,Sx.ren,renI,hsel.1,hsel.2,List.length_map,hc])
          (by simp only [selM,List.map_cons,List.map_nil,hm,hmj,dt_renR];rfl) (by simp) (by
           intro x hx
           have:x=0∨x=1:=by simp at hx;omega
           rcases this with rfl|rfl
           ·exact Res.pinned hT
           ·rfl)
         rw [R.ren] at key
         have hmm:mergeM [i,j] m [.vec T' w' (s.map d.emb), .blk Ti' (.int .i64 (S s y q))]=m.set j (.blk Ti' (.int .i64 (S s y q))):=by
          have e:m.set i (.vec T' w' (s.map d.emb))=m:=by
           apply List.ext_getElem?
           intro a
           rw [List.getElem?_set]
           by_cases ha:i=a
           ·subst ha
            rw [if_pos rfl,if_pos hi,List.getElem?_eq_getElem hi]
            have:memAt m i=m[i]:=by simp [memAt,List.getD,hi]
            rw [← this,hm]
           ·rw [if_neg ha]
          show ((m.set i (renR _ (memAt _ 0))).set j (renR _ (memAt _ 1)))++_=_
          have e0:∀ r,renR r (memAt [Res.vec T' w' (s.map d.emb), .blk Ti' (.int .i64 (S s y q))] 0)= .vec T' w' (s.map d.emb):=fun r=>dt_renR d T' w' r s
          rw [e0,e]
          simp [memAt,renR,Sx.ren]
         rwa [hmm] at key
        |_=>trivial
      |_=>trivial
   |_=>trivial) hΓ
namespace W
theorem fh_sv (f:FuncId) {σ α ρ:Type} (T:TypeId) (w:Nat) (d:DT σ) (A:DA α) (R:DR ρ) (pre:List σ→α→Prop) (F:List σ→α→ρ) (S:List σ→α→List σ) (Γ:FH) (g:FuncId) (i n:Nat) (rest:List SV) (m:List Res):
  FH.sv f T w d A R pre F S Γ g (.vec i n::rest) m=if g=f then (match memAt m i with
    | .vec T' w' l=> .is (T'=T∧w'=w∧n=l.length∧(l.map (d.decV [])).map d.emb=l∧A.emb (A.decV [] rest)=rest∧pre (l.map (d.decV [])) (A.decV [] rest)) (R.emb (F (l.map (d.decV [])) (A.decV [] rest))) (m.set i (.vec T w ((S (l.map (d.decV [])) (A.decV [] rest)).map d.emb)))
    |_=> .no) else Γ g (.vec i n::rest) m:=nr rfl
theorem fh_sv_not (f:FuncId) {σ α ρ:Type} (T:TypeId) (w:Nat) (d:DT σ) (A:DA α) (R:DR ρ) (pre:List σ→α→Prop) (F:List σ→α→ρ) (S:List σ→α→List σ) (Γ:FH) (g:FuncId) (args:List SV) (m:List Res) (h:g≠f):
  FH.sv f T w d A R pre F S Γ g args m=Γ g args m:=nr (if_neg h)
theorem fh_sw (f:FuncId) (k:Nat) {σ α ρ:Type} (T:TypeId) (w:Nat) (d:DT σ) (Ti:TypeId) (A:DA α) (c0:SV) (R:DR ρ) (pre:List σ→α→Int→Prop) (F:List σ→α→Int→ρ) (S:List σ→α→Int→Int) (Γ:FH) (g:FuncId) (i n:Nat) (rest:List SV) (m:List Res):
  FH.sw f k T w d Ti A c0 R pre F S Γ g (.vec i n::rest) m=if g=f then (match memAt m i with
    | .vec T' w' l=>match rest.drop k with
     |p::cs=>match p with
      | .ptr j pp o=>match memAt m j with
       | .blk Ti' cv=>match cv with
        | .int ki q=> .is (T'=T∧w'=w∧n=l.length∧(l.map (d.decV [])).map d.emb=l∧A.emb (A.decV [] (rest.take k))=rest.take k∧cs=[c0]∧pp=[]∧o=0∧Ti'=Ti∧ki= .i64∧pre (l.map (d.decV [])) (A.decV [] (rest.take k)) q)
          (R.emb (F (l.map (d.decV [])) (A.decV [] (rest.take k)) q)) (m.set j (.blk Ti (.int .i64 (S (l.map (d.decV [])) (A.decV [] (rest.take k)) q))))
        |_=> .no
       |_=> .no
      |_=> .no
     |[]=> .no
    |_=> .no) else Γ g (.vec i n::rest) m:=nr rfl
theorem fh_sw_not (f:FuncId) (k:Nat) {σ α ρ:Type} (T:TypeId) (w:Nat) (d:DT σ) (Ti:TypeId) (A:DA α) (c0:SV) (R:DR ρ) (pre:List σ→α→Int→Prop) (F:List σ→α→Int→ρ) (S:List σ→α→Int→Int) (Γ:FH) (g:FuncId) (args:List SV) (m:List Res) (h:g≠f):
  FH.sw f k T w d Ti A c0 R pre F S Γ g args m=Γ g args m:=nr (if_neg h)
end W
attribute [go_sem ↓] W.fh_sv W.fh_sv_not W.fh_sw W.fh_sw_not
attribute [go_sem] dt_dec
end Go.Sx
