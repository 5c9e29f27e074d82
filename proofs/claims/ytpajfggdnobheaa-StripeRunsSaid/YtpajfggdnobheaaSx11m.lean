/- A part of the proof of StripeRuns. Conditions: none. -/
import Derived.Test.YtpajfggdnobheaaSx10
import Derived.Laws.AppendOwnNone
import Derived.Conc.AppendWalk
set_option linter.unusedVariables false
set_option linter.unusedSimpArgs false
section
namespace Go.Sx
open Go
variable {P:Program}
theorem SatE.append {ε:Env} {w:Nat} {l l2:List SV} {xs ys:List Value} (h:SatE ε w l xs) (h2:SatE ε w l2 ys):SatE ε w (l++l2) (xs++ys):=by
 refine ⟨by simp [h.1,h2.1,Nat.add_mul],fun j hj=> ?_⟩
 have e1:=h.1
 have e2:=h2.1
 rw [List.length_append] at hj
 by_cases hjl:j<l.length
 ·have:=mul_le_len (w:=w) hjl
  have hg:(l++l2).getD j .junk=l.getD j .junk:=by simp [List.getD,List.getElem?_append_left hjl]
  rw [hg]
  have hs:sub (xs++ys) (j*w) w=sub xs (j*w) w:=by
   apply List.ext_getElem?
   intro k
   rw [sub_get,sub_get]
   by_cases hk:k<w
   ·rw [if_pos hk,if_pos hk,List.getElem?_append_left (by omega)]
   ·rw [if_neg hk,if_neg hk]
  rw [hs]
  exact h.2 j hjl
 ·have hg:(l++l2).getD j .junk=l2.getD (j - l.length) .junk:=by simp [List.getD,List.getElem?_append_right (Nat.le_of_not_lt hjl)]
  rw [hg]
  have hjw:j*w=l.length*w+(j - l.length)*w:=by rw [← Nat.add_mul];congr 1;omega
  have hs:sub (xs++ys) (j*w) w=sub ys ((j - l.length)*w) w:=by
   apply List.ext_getElem?
   intro k
   rw [sub_get,sub_get]
   by_cases hk:k<w
   ·rw [if_pos hk,if_pos hk,List.getElem?_append_right (by omega)]
    congr 1;omega
   ·rw [if_neg hk,if_neg hk]
  rw [hs]
  exact h2.2 _ (by omega)
theorem srcL_ok {m:List Res} {w:Nat} {x:SV} {l2:List SV} (h:srcL m w x=some l2) {ε:Env} {W:World} (hg:Good ε m W) {v:Value} (hx:SatV ε x v):
  ∃ ao c news,v= .slice ao l2.length c∧SatE ε w l2 news∧(ao=none→l2=[]∧c=0)∧(∀ a,ao=some a→∀ j u,news[j]? =some u→W.cell? (a.add j)=some u)∧(∀ u∈news,u.oneCell'=true)∧∀ a,ao=some a→0<l2.length→(∃ i,ownR ε i (memAt m i)=some a.block)∨∃ o,ε.H a.block=some o:=by
 have red:∃ y,srcL m w y=some l2∧SatV ε y v∧(∀ {τ:Type} (w':Nat) (d:τ) (f:τ→SV) (l:List τ),y≠ .lit w' d f l):=by
  cases x
  case lit w' d f l=>exact ⟨.lst w' d f l,by simpa only [srcL] using h,(lit_lst hx).1,by intro _ _ _ _ _ h;cases h⟩
  all_goals exact ⟨_,h,hx,by intro _ _ _ _ _ h;cases h⟩
 clear h hx
 obtain ⟨x,h,hx,hnl⟩:=red
 cases x<;>simp only [srcL] at h<;>try (cases h;done)
 case lit=>exact absurd rfl (hnl _ _ _ _)
 case vec j n=>
  split at h<;>try (cases h;done)
  rename_i T w' l hm
  split at h<;>try (cases h;done)
  rename_i hw
  subst hw
  simp only [Option.some.injEq] at h;subst h
  obtain ⟨hj,_,rfl⟩:=sat_vec hx
  obtain ⟨xs,⟨T0,hT0,ho⟩,hel⟩:ResOK ε j W (.vec T w' l):=hm▸hg.res j
  have hE:SatE ε w' l xs:=⟨ho.1,hel⟩
  have hone:∀ u∈xs,u.oneCell'=true:=by
   intro u hu
   obtain ⟨i,hi,hm2⟩:=mem_pieces ho.1 hu
   exact SatC.one _ (hel i hi) u hm2
  have ho2:=ho
  obtain ⟨ol,ho⟩:=ho
  rcases ho with ⟨e,e2⟩|⟨g,cap,cur,e,_⟩
  ·exact ⟨none,0,xs,by rw [e,e2],hE,fun _=>⟨List.eq_nil_of_length_eq_zero e2,rfl⟩,(fun _ hh=>by cases hh),hone,(fun _ hh=>by cases hh)⟩
  ·exact ⟨some ⟨g,0,none⟩,cap,xs,e,hE,(fun hh=>by cases hh),(fun a ha=>by cases ha;exact ho2.cells (g:=g) (by rw [e];rfl)),hone,fun a ha _=>by cases ha;exact .inl ⟨j,by rw [hm];simp [ownR,e,Value.ownBlock]⟩⟩
 case lst τ w' d f l=>
  split at h<;>try (cases h;done)
  rename_i hw
  subst hw
  simp only [Option.some.injEq] at h;subst h
  obtain ⟨cs,h1,h2⟩:=hx
  simp only [SatC] at h1
  obtain ⟨ao,cap,rfl,h3,h4,h5,h6⟩:=h1
  have hv:v= .slice ao l.length cap:=h2
  cases hl:l with
  |nil=>
   subst hl
   refine ⟨ao,cap,[],by simpa using hv,⟨by simp,fun j hj=>by simp at hj⟩,fun e=>⟨rfl,h5 e⟩,fun a _ j u hu=>by simp at hu,by simp,fun a _ h=>by simp at h⟩
  |cons x0 r=>
   have hpos:0<l.length:=by rw [hl];simp
   rw [← hl]
   obtain ⟨b,off,T,fz,cur,rfl,g2,g3,g4⟩:=h6 0 hpos
   obtain ⟨b',off',T',fz',cur',e',g2',g3',g4'⟩:=h6 (l.length - 1) (by omega)
   simp only [Option.some.injEq,Addr.mk.injEq] at e'
   obtain ⟨rfl,rfl,_⟩:=e'
   rw [g2] at g2'
   simp only [Option.some.injEq,Obj.cells.injEq] at g2'
   obtain ⟨rfl,rfl,rfl⟩:=g2'
   have hbig:off+l.length*w'≤cur.size:=by
    have:(l.length - 1)*w'+w'=l.length*w':=by rw [← Nat.succ_mul];congr 1;omega
    omega
   have hsl:(sub cur.toList off (l.length*w')).length=l.length*w':=sub_length (by simpa using hbig)
   refine ⟨some ⟨b,off,none⟩,cap,sub cur.toList off (l.length*w'),by simpa using hv,⟨by rw [hsl];simp,fun j hj=> ?_⟩,(fun hh=>by cases hh),fun a ha j u hu=> ?_,fun u hu=> ?_,fun a ha _=>by cases ha;exact .inr ⟨_,g2⟩⟩
   ·simp only [List.length_map] at hj
    obtain ⟨b2,off2,T2,fz2,cur2,e2,k2,k3,k4⟩:=h6 j hj
    simp only [Option.some.injEq,Addr.mk.injEq] at e2
    obtain ⟨rfl,rfl,_⟩:=e2
    rw [g2] at k2
    simp only [Option.some.injEq,Obj.cells.injEq] at k2
    obtain ⟨rfl,rfl,rfl⟩:=k2
    rw [sub_sub (mul_le_len hj)]
    have:(l.map f).getD j .junk=f (l.getD j d):=by simp [List.getD,hj]
    rw [this]
    exact k4.mono _ (Env.cl_le ε)
   ·cases ha
    rw [Addr.add_lit]
    rw [sub_get] at hu
    split at hu<;>try (cases hu;done)
    have hb:=hg.hv b _ g2
    simp only [World.cell?,hb]
    simpa using hu
   ·obtain ⟨i,hi,hm2⟩:=mem_pieces (n:=l.length) (w:=w') hsl hu
    obtain ⟨b2,off2,T2,fz2,cur2,e2,k2,k3,k4⟩:=h6 i hi
    simp only [Option.some.injEq,Addr.mk.injEq] at e2
    obtain ⟨rfl,rfl,_⟩:=e2
    rw [g2] at k2
    simp only [Option.some.injEq,Obj.cells.injEq] at k2
    obtain ⟨rfl,rfl,rfl⟩:=k2
    rw [sub_sub (mul_le_len hi)] at hm2
    exact SatC.one _ k4 u hm2
 case nils=>
  simp only [Option.some.injEq] at h;subst h
  have:=sat_nils hx
  exact ⟨none,0,[],this,⟨by simp,fun j hj=>by simp at hj⟩,fun _=>⟨rfl,rfl⟩,(fun _ hh=>by cases hh),by simp,(fun _ hh=>by cases hh)⟩
theorem run_app {E t ty:TypeId} {i:TypeInfo} {z:Value} {w by':Nat} {W:World} (ht:P.underlying t=some (.slice E)) (hi:P.info? E=some i) (hz:i.zero=some z) (hw:i.size=w) (hby:i.bytes=by') (hzs:z.cells.size=w) (hw0:0<w)
  {v:Value} {n:Nat} {xs:List Value} (hown:W.ownsRow 0 E w v n xs) {ao:Option Addr} {k c:Nat} {news:List Value} (hl:news.length=k*w) (hnone:ao=none→k=0∧c=0)
  (hnews:∀ a,ao=some a→∀ j u,news[j]? =some u→W.cell? (a.add j)=some u) (h1:∀ u∈news,u.oneCell'=true) (h63:n+k≤maxLen) (hbytes:(n+k)*by'≤140737488355328):
  ∃ v' W',(Builtin.append_ #[t,t] ty #[v, .slice ao k c]).run P W= .ok v' W'∧W'.ownsRow 0 E w v' (n+k) (xs++news)∧(W.grownBy W' v.ownBlock∧W.drawn≤W'.drawn)∧(v'.ownBlock=v.ownBlock∨∀ b,v'.ownBlock=some b→W.heap.size≤b):=by
 cases ao with
 |none=>
  obtain ⟨rfl,rfl⟩:=hnone rfl
  have hn:news=[]:=List.eq_nil_of_length_eq_zero (by simpa using hl)
  subst hn
  refine ⟨v,W,?_,by simpa using hown,⟨⟨rfl,rfl,rfl,Nat.le_refl _,fun _ _ _=>rfl⟩,Nat.le_refl _⟩, .inl rfl⟩
  rcases hown.2 with ⟨rfl,rfl⟩|⟨g,cap,cur,rfl,_,_,hle,_⟩
  ·simp [Builtin.append_,run_underlying ht,sizeOf,typeInfo,hi,Builtin.lenOf,Builtin.firstCells]
  ·simp [Builtin.append_,run_underlying ht,sizeOf,typeInfo,hi,Builtin.lenOf,Builtin.firstCells,hle,storeCells]
 |some a=>
  obtain ⟨v',W',hr,h2,h3,_⟩:=run_append_own (P:=P) W 0 t ty E i z w by' ht hi hz hw hby hzs hw0 v n xs hown a k c news hl (hnews a rfl) h1 h63 hbytes (Nat.zero_le _)
  refine ⟨v',W',hr,h2,?_⟩
  subst hw
  subst hby
  have hsmall:n+k≤9223372036854775807:=by simp only [maxLen] at h63;omega
  rcases hown.2 with ⟨rfl,rfl⟩|⟨g,cap,cur,rfl,hbg,hg,hnc,hcm,hcs,htake⟩
  ·by_cases hk:k=0
   ·subst hk
    have hn:news=[]:=List.eq_nil_of_length_eq_zero (by simpa using hl)
    subst hn
    have:(Builtin.append_ #[t,t] ty #[.slice none 0 0, .slice (some a) 0 c]).run P W= .ok (.slice none 0 0) W:=by
     simp [Builtin.append_,run_underlying ht,sizeOf,typeInfo,hi,Builtin.lenOf,Builtin.firstCells,loadCells,loadCellsFrom]
    rw [this] at hr
    injection hr with e1 e2
    refine ⟨⟨h3,by rw [← e2];first|exact Nat.le_refl _|exact Nat.le_succ _|simp⟩,?_⟩
    left;rw [← e1]
   ·have:=run_append_nil (P:=P) W t ty E i z ht hi hz a k c news hl (hnews a rfl) (by omega) (by omega) (by simp only [Nat.zero_add] at hbytes;omega)
    rw [this] at hr
    injection hr with e1 e2
    refine ⟨⟨h3,by rw [← e2];first|exact Nat.le_refl _|exact Nat.le_succ _|simp⟩,?_⟩
    right
    intro b hb
    rw [← e1] at hb
    simp [Value.ownBlock] at hb
    omega
  ·by_cases hroom:n+k≤cap
   ·have hfit:n*i.size+news.length≤cur.size:=by rw [hl,hcs,← Nat.add_mul];exact Nat.mul_le_mul_right _ hroom
    have:=run_append_room (P:=P) W t ty E i ht hi g n cap cur hg a k c news hl (hnews a rfl) h1 hroom hfit
    rw [this] at hr
    injection hr with e1 e2
    refine ⟨⟨h3,by rw [← e2];first|exact Nat.le_refl _|exact Nat.le_succ _|simp⟩,?_⟩
    left;rw [← e1];rfl
   ·have:=run_append_grow (P:=P) W t ty E i z ht hi hz ⟨g,0,none⟩ n cap xs hown.1 (hown.cells (g:=g) rfl) a k c news hl (hnews a rfl) (by omega) (by omega) (growslice_fits (by omega) hbytes)
    rw [this] at hr
    injection hr with e1 e2
    refine ⟨⟨h3,by rw [← e2];first|exact Nat.le_refl _|exact Nat.le_succ _|simp⟩,?_⟩
    right
    intro b hb
    rw [← e1] at hb
    simp [Value.ownBlock] at hb
    omega
theorem ls_firstCells {R V:Nat→Prop} {w:World} (size n:Nat) (x:Value) {es:Array Event} (h:Ls R V es)
  (hx:∀ a l c,x= .slice (some a) l c→(V a.block∨R a.block)∧∀ j,j<n*size→(w.cell? (a.add j)).isSome):Ls R V ((Builtin.firstCells size n x).events P w es):=by
 unfold Builtin.firstCells
 split
 ·rename_i a l c
  obtain ⟨h1,h2⟩:=hx a l c rfl
  exact ls_loadCells h1 _ 0 _ _ h (fun j hj=>by simpa using h2 j hj)
 ·simpa using h
 ·simpa using h
 ·simpa using h
theorem ls_app {R V:Nat→Prop} {E t ty:TypeId} {i:TypeInfo} {z:Value} {w by':Nat} {W:World} (ht:P.underlying t=some (.slice E)) (hi:P.info? E=some i) (hz:i.zero=some z) (hw:i.size=w) (hby:i.bytes=by')
  {v:Value} {n:Nat} {xs:List Value} (hown:W.ownsRow 0 E w v n xs) {ao:Option Addr} {k c:Nat} {news:List Value} (hl:news.length=k*w) (hnone:ao=none→k=0∧c=0)
  (hnews:∀ a,ao=some a→∀ j u,news[j]? =some u→W.cell? (a.add j)=some u) (h1:∀ u∈news,u.oneCell'=true) (h63:n+k≤maxLen) (hbytes:(n+k)*by'≤140737488355328)
  (hR:∀ a,ao=some a→0<k*w→V a.block∨R a.block) (hV:∀ b,v.ownBlock=some b→V b):
  Ls R V ((Builtin.append_ #[t,t] ty #[v, .slice ao k c]).events P W #[]):=by
 subst hw
 subst hby
 have hsmall:n+k≤9223372036854775807:=by simp only [maxLen] at h63;omega
 cases ao with
 |none=>
  obtain ⟨rfl,rfl⟩:=hnone rfl
  rcases hown.2 with ⟨rfl,rfl⟩|⟨g,cap,cur,rfl,_,_,hle,_⟩
  ·simp [Builtin.append_,run_underlying ht,sizeOf,typeInfo,hi,Builtin.lenOf,Builtin.firstCells]
   exact Ls.nil R V
  ·simp [Builtin.append_,run_underlying ht,sizeOf,typeInfo,hi,Builtin.lenOf,Builtin.firstCells,hle,storeCells]
   exact Ls.nil R V
 |some a=>
  have hnews:=hnews a rfl
  have src:∀ (w':World),(∀ ad,w'.cell? ad=W.cell? ad)→0<k*i.size→∀ a' l' c',Value.slice (some a) k c= .slice (some a') l' c'→(V a'.block∨R a'.block)∧∀ j,j<k*i.size→(w'.cell? (a'.add j)).isSome:=by
   intro w' hw' hp a' l' c' e
   cases e
   exact ⟨hR a rfl hp,fun j hj=>by rw [hw'];exact isSome_of_list hnews (by rw [hl];exact hj)⟩
  have nil:∀ (w':World) (k sz l₀ c₀:Nat) a' l' c',Value.slice none l₀ c₀= .slice (some a') l' c'→(V a'.block∨R a'.block)∧∀ j,j<k*sz→(w'.cell? (a'.add j)).isSome:=by
   intro _ _ _ _ _ _ _ _ e;cases e
  have fsrc:∀ (w':World),(∀ ad,w'.cell? ad=W.cell? ad)→∀ es,Ls R V es→Ls R V ((Builtin.firstCells i.size k (.slice (some a) k c)).events P w' es):=by
   intro w' hw' es hes
   by_cases hp:0<k*i.size
   ·exact ls_firstCells _ _ _ hes (src w' hw' hp)
   ·have:k*i.size=0:=by omega
    simpa [Builtin.firstCells,this,loadCells,loadCellsFrom] using hes
  rcases hown.2 with ⟨rfl,rfl⟩|⟨g,cap,cur,rfl,hbg,hg,hnc,hcm,hcs,htake⟩
  ·by_cases hm:k=0
   ·subst hm
    simp [Builtin.append_,run_underlying ht,sizeOf,typeInfo,hi,Builtin.lenOf]
    exact fsrc _ (fun _=>rfl) _ (Ls.nil R V)
   ·have h63':¬ (9223372036854775807< (k:Int)):=by omega
    have h48':¬ (281474976710656<Builtin.nextslicecap k 0*i.bytes):=by rw [nextslicecap_zero (by omega)];simp only [Nat.zero_add] at hbytes;omega
    have hf:=run_firstCells_some (P:=P) W.drew i.size k a k c news hl (by simpa using hnews)
    simp [Builtin.append_,run_underlying ht,sizeOf,typeInfo,zeroValue,hi,hz,Builtin.lenOf,hm,h63',h48',Question.forced,run_firstCells_none,hf,newRow]
    refine fsrc _ (fun _=>by simp) _ (ls_firstCells _ _ _ ?_ (nil _ _ _ _ _))
    exact (Ls.nil R V).mk (Conc.events_askRoom _ _ _)
  ·have holds:∀ j u,xs[j]? =some u→W.cell? ((⟨g,0,none⟩:Addr).add j)=some u:=hown.cells (g:=g) rfl
   have hVg:V g:=hV g (by simp [Value.ownBlock])
   have own:∀ (w':World),(∀ ad,w'.cell? ad=W.cell? ad)→∀ a' l' c',Value.slice (some ⟨g,0,none⟩) n cap= .slice (some a') l' c'→(V a'.block∨R a'.block)∧∀ j,j<n*i.size→(w'.cell? (a'.add j)).isSome:=by
    intro w' hw' a' l' c' e
    cases e
    exact ⟨.inl hVg,fun j hj=>by rw [hw'];exact isSome_of_list holds (by rw [hown.1];exact hj)⟩
   by_cases hroom:n+k≤cap
   ·have hfit:n*i.size+news.length≤cur.size:=by rw [hl,hcs,← Nat.add_mul];exact Nat.mul_le_mul_right _ hroom
    have hf:=run_firstCells_some (P:=P) W i.size k a k c news hl hnews
    simp [Builtin.append_,run_underlying ht,sizeOf,typeInfo,hi,Builtin.lenOf,hroom,hf,Addr.add_lit]
    exact ls_storeCells (P:=P) hVg news 0 cur W _ hg (by simpa using hfit) h1 (fsrc _ (fun _=>rfl) _ (Ls.nil R V))
   ·have hn:¬ (n+k≤cap):=hroom
    have h63':¬ (9223372036854775807< ((n:Int)+(k:Int))):=by omega
    have h48':¬ (281474976710656<Builtin.nextslicecap (n+k) cap*i.bytes):=by have:=growslice_fits (need:=n+k) (old:=cap) (bytes:=i.bytes) (by omega) hbytes;omega
    have hf:=run_firstCells_some (P:=P) W.drew i.size k a k c news hl (by simpa using hnews)
    have hfo:=run_firstCells_some (P:=P) W.drew i.size n ⟨g,0,none⟩ n cap xs hown.1 (by simpa using holds)
    simp [Builtin.append_,run_underlying ht,sizeOf,typeInfo,zeroValue,hi,hz,Builtin.lenOf,hn,h63',h48',Question.forced,hf,hfo,newRow]
    refine fsrc _ (fun _=>by simp) _ (ls_firstCells _ _ _ ?_ (own _ (fun _=>by simp)))
    exact (Ls.nil R V).mk (Conc.events_askRoom _ _ _)
theorem posK {k w:Nat} (h:0<k*w):0<k:=by
 rcases Nat.eq_zero_or_pos k with h0|h0
 ·rw [h0,Nat.zero_mul] at h;exact absurd h (Nat.lt_irrefl _)
 ·exact h0
theorem ls_app_full {R V:Nat→Prop} {E t ty:TypeId} {i:TypeInfo} {z:Value} {w by':Nat} {W:World} (ht:P.underlying t=some (.slice E)) (hi:P.info? E=some i) (hz:i.zero=some z) (hw:i.size=w) (hby:i.bytes=by')
  {b:Addr} {n:Nat} {xs:List Value} (hlo:xs.length=n*w) (holds:∀ j u,xs[j]? =some u→W.cell? (b.add j)=some u) {a:Addr} {k c:Nat} {news:List Value} (hl:news.length=k*w) (hk:0<k)
  (hnews:∀ j u,news[j]? =some u→W.cell? (a.add j)=some u) (h63:n+k≤maxLen) (hbytes:(n+k)*by'≤140737488355328)
  (hb:0<n*w→V b.block∨R b.block) (ha:0<k*w→V a.block∨R a.block):
  Ls R V ((Builtin.append_ #[t,t] ty #[.slice (some b) n n, .slice (some a) k c]).events P W #[]):=by
 subst hw
 subst hby
 have hsmall:n+k≤9223372036854775807:=by simp only [maxLen] at h63;omega
 have fread:∀ (w':World) (b:Addr) (n n' c:Nat) (xs:List Value),xs.length=n*i.size→(∀ j u,xs[j]? =some u→w'.cell? (b.add j)=some u)→(0<n*i.size→V b.block∨R b.block)→∀ es,Ls R V es→Ls R V ((Builtin.firstCells i.size n (.slice (some b) n' c)).events P w' es):=by
  intro w' b n n' c xs hlo holds hb es hes
  by_cases hp:0<n*i.size
  ·refine ls_firstCells _ _ _ hes fun a' l' c' e=> ?_
   cases e
   exact ⟨hb hp,fun j hj=>isSome_of_list holds (by rw [hlo];exact hj)⟩
  ·have:n*i.size=0:=by omega
   simpa [Builtin.firstCells,this,loadCells,loadCellsFrom] using hes
 have hn:¬ (n+k≤n):=by omega
 have h63':¬ (9223372036854775807< ((n:Int)+(k:Int))):=by omega
 have h48':¬ (281474976710656<Builtin.nextslicecap (n+k) n*i.bytes):=by have:=growslice_fits (need:=n+k) (old:=n) (bytes:=i.bytes) (by omega) hbytes;omega
 have hf:=run_firstCells_some (P:=P) W.drew i.size k a k c news hl (by simpa using hnews)
 have hfo:=run_firstCells_some (P:=P) W.drew i.size n b n n xs hlo (by simpa using holds)
 have hk0:k≠0:=by omega
 simp [Builtin.append_,run_underlying ht,sizeOf,typeInfo,zeroValue,hi,hz,Builtin.lenOf,hn,hk0,h63',h48',Question.forced,hf,hfo,newRow]
 refine fread _ a k k c news hl (by simpa using hnews) ha _ (fread _ b n n n xs hlo (by simpa using holds) hb _ ?_)
 exact (Ls.nil R V).mk (Conc.events_askRoom _ _ _)
section
variable {o:Oper} {σ:List SV} {m:List Res}
def compApp (P:Program) (t:TypeId):Option (TypeId×Nat×Nat):=
 match P.underlying t with
 |some (.slice E)=>match P.info? E,zok P E with
  |some i,some z=>if i.size=wd z∧0<i.size∧0<i.bytes then some (E,i.size,i.bytes) else none
  |_,_=>none
 |_=>none
theorem compApp_ok {t E:TypeId} {w by':Nat} (h:compApp P t=some (E,w,by')):P.underlying t=some (.slice E)∧∃ i z,P.info? E=some i∧i.zero=some z∧i.size=w∧i.bytes=by'∧z.cells.size=w∧0<w∧0<by':=by
 unfold compApp at h
 split at h<;>try (cases h;done)
 rename_i E' hu
 split at h<;>try (cases h;done)
 rename_i i z h1 h2
 split at h<;>try (cases h;done)
 rename_i hc
 simp only [Option.some.injEq,Prod.mk.injEq] at h
 obtain ⟨rfl,rfl,rfl⟩:=h
 obtain ⟨i',v,e1,e2,e3⟩:=zok_ok h2
 rw [h1] at e1
 cases e1
 have:=SatC.length _ (e3 ⟨0,fun _=>0,fun _=>undef,fun _=>none⟩)
 exact ⟨hu,i,v,h1,e2,rfl,rfl,by rw [← Array.length_toList,this];exact hc.1.symm,hc.2.1,hc.2.2⟩
def appK (σ:List SV) (m:List Res) (E:TypeId) (w by':Nat) (s x:SV) (K:List SV→SV→List Res→Prop):Prop:=
 match srcL m w x with
 |none=>False
 |some l2=>match s with
  | .nils=>l2.length*by'≤140737488355328∧K σ (.vec m.length l2.length) (m++[.vec E w l2])
  | .vec i _=>match memAt m i with
   | .vec E' w' l=>((E'=E∧E<1000000)∧w'=w∧(l.length+l2.length)*by'≤140737488355328)∧
     K (killL i σ) (.vec i (l.length+l2.length)) ((m.map (killR i)).set i (.vec E w (killL i (l++l2))))
   |_=>False
  |_=>False
theorem estep_app {t:TypeId} {E:TypeId} {w by':Nat} {s x:Operand} {s' x':Opd} {K:List SV→SV→List Res→Prop}
  (ho:o.op= .call {callee:= .builtin .append,args:= #[s,x],argTypes:= #[t,t]}) (ht:compApp P t=some (E,w,by')) (hs':compO s=some s') (hx':compO x=some x')
  (h:appK σ m E w by' (s'.ev σ) (x'.ev σ) K):∃ σ' sv m',K σ' sv m'∧EStepR P o σ m σ' sv m':=by
 obtain ⟨hu,i,z,hi,hz,hsz,hby,hzs,hw0,hb0⟩:=compApp_ok ht
 have hrun:∀ (a:Act) W,(execOp a.eval o).run P W=((Builtin.append_ #[t,t] o.type #[a.eval s,a.eval x]).run P W).andThen fun v w=> .ok (.value v) w:=by
  intro a W
  simp [execOp,ho,resolve,invoke,builtin]
 have h63:∀ n:Nat,n*by'≤140737488355328→n≤maxLen:=by
  intro n hn
  have:n≤n*by':=Nat.le_mul_of_pos_right _ hb0
  unfold maxLen;omega
 unfold appK at h
 split at h
 ·exact h.elim
 ·rename_i l2 hl2
  split at h
  ·rename_i es
   refine ⟨_,_,_,h.2,fun β ε a W hI hs=> ?_⟩
   obtain ⟨ao,c,news,e1,e2,e3,e4,e5,e7⟩:=srcL_ok hl2 hI.good (compO_ok hx' hs)
   have e6:=sat_nils (es▸compO_ok hs' hs)
   obtain ⟨v',W',hr,g1,g2,g3⟩:=run_app (P:=P) (ty:=o.type) (W:=W) hu hi hz hsz hby hzs hw0 (World.ownsRow_nil W 0 E w) e2.1 (fun hn=>by obtain ⟨q1,q2⟩:=e3 hn;rw [q1];exact ⟨rfl,q2⟩) e4 e5 (by rw [Nat.zero_add];exact h63 _ h.1) (by rw [Nat.zero_add];exact h.1)
   rw [Nat.zero_add,List.nil_append] at g1
   have g2':W.grownBy W' none:=g2.1
   have hr':(execOp a.eval o).run P W= .ok (.value v') W':=by rw [hrun,e6,e1,hr,Result.andThen_ok]
   have hev:=Conc.events_append_op (P:=P) (a:=a) (w:=W) s x t ho e6 e1 #[]
   have hE':EvIn ε m W W' ((execOp a.eval o).events P W #[]):=by
    rw [hev];exact ls_app (P:=P) hu hi hz hsz hby (World.ownsRow_nil W 0 E w) e2.1 (fun hn=>by obtain ⟨q1,q2⟩:=e3 hn;rw [q1];exact ⟨rfl,q2⟩) e4 e5 (by rw [Nat.zero_add];exact h63 _ h.1) (by rw [Nat.zero_add];exact h.1) (fun a ha hp=>(e7 a ha (posK hp)).imp .inl id) (fun b hb=>by simp [Value.ownBlock] at hb)
   refine ⟨v',W',ε.more 0 v', .inl hr',?_,hs.mono (ε.le_more _ _),hI.more g2' g2.2 ?_ ?_,hE'⟩
   ·refine ⟨[v'],?_,rfl⟩
    simp only [SatC]
    have hvv:(ε.more 0 v').vv m.length=v':=by simp [Env.more,hI.good.n]
    refine ⟨by simp [Env.more,hI.good.n],?_,by rw [hvv]⟩
    rw [hvv]
    rcases g1.2 with ⟨q1,q2⟩|⟨g,cap,cur,q,_,_,q4,_⟩
    ·exact .inl ⟨q1,q2⟩
    ·exact .inr ⟨g,cap,q,q4⟩
   ·have hvv:(ε.more 0 v').vv m.length=v':=by simp [Env.more,hI.good.n]
    exact ⟨news,by rw [hvv];exact .of g1,fun j hj=>(e2.2 j hj).mono _ (ε.le_more _ _)⟩
   ·intro b hb
    simp [ownR,Env.more,hI.good.n] at hb
    rcases g3 with g3|g3
    ·rw [g3] at hb;simp [Value.ownBlock] at hb
    ·exact g3 b hb
  ·rename_i i' n' es
   split at h<;>try (exact h.elim)
   rename_i E' w' l hm
   obtain ⟨⟨⟨rfl,hpin⟩,rfl,hb⟩,hK⟩:=h
   refine ⟨_,_,_,hK,fun β ε a W hI hs=> ?_⟩
   obtain ⟨ao,c,news,e1,e2,e3,e4,e5,e7⟩:=srcL_ok hl2 hI.good (compO_ok hx' hs)
   obtain ⟨hi',_,e6⟩:=sat_vec (es▸compO_ok hs' hs)
   obtain ⟨xs,hown,hel⟩:ResOK ε i' W (.vec E' w' l):=hm▸hI.good.res i'
   replace hown:=hown.get hpin
   obtain ⟨v',W',hr,g1,g2,g3⟩:=run_app (P:=P) (ty:=o.type) (W:=W) hu hi hz hsz hby hzs hw0 hown e2.1 (fun hn=>by obtain ⟨q1,q2⟩:=e3 hn;rw [q1];exact ⟨rfl,q2⟩) e4 e5 (h63 _ hb) hb
   have hE:SatE ε w' (l++l2) (xs++news):=SatE.append ⟨hown.1,hel⟩ e2
   have hgr:=hI.grown (v':=v') (l':=l++l2) (ys:=xs++news) hpin hm g2.1 g2.2 (by rw [List.length_append];exact g1) g3 hE.2
   have hr':(execOp a.eval o).run P W= .ok (.value v') W':=by rw [hrun,e6,e1,hr,Result.andThen_ok]
   have hev:=Conc.events_append_op (P:=P) (a:=a) (w:=W) s x t ho e6 e1 #[]
   have hE':EvIn ε m W W' ((execOp a.eval o).events P W #[]):=by
    rw [hev];exact ls_app (P:=P) hu hi hz hsz hby hown e2.1 (fun hn=>by obtain ⟨q1,q2⟩:=e3 hn;rw [q1];exact ⟨rfl,q2⟩) e4 e5 (h63 _ hb) hb (fun a ha hp=>(e7 a ha (posK hp)).imp .inl id) (fun b hb=> .inl ⟨i',by rw [hm];exact hb⟩)
   refine ⟨v',W',_, .inl hr',?_,hs.kill hgr.2,hgr.1,hE'⟩
   refine ⟨[v'],?_,rfl⟩
   simp only [SatC,if_true]
   refine ⟨hi',?_,trivial⟩
   rcases g1.2 with ⟨q1,q2⟩|⟨g,cap,cur,q,_,_,q4,_⟩
   ·exact .inl ⟨q1,q2⟩
   ·exact .inr ⟨g,cap,q,q4⟩
  ·exact h.elim
end
theorem Inv.drop {β:Base} {ε:Env} {m:List Res} {w:World} (h:Inv β ε m w) {i:Nat} (hi:(memAt m i).isVec=true):Inv β ε (m.set i .dead) w:=by
 refine h.at1 (memAt_lt fun e=>by rw [e] at hi;cases hi) trivial nofun nofun (fun _ _=>rfl) rfl ⟨rfl,rfl,rfl,rfl⟩
theorem Inv.more2 {β:Base} {ε:Env} {m:List Res} {w w':World} (h:Inv β ε m w) {b:Nat} {v:Value} {r:Res} {row:Option Nat} (hg:w.grownBy w' row) (hd:w.drawn≤w'.drawn)
  (hrow:∀ x,row=some x→(∀ i,ownR ε i (memAt m i)≠some x)∧ε.H x=none∧x<w.heap.size∧(β.B x∨β.w.heap.size≤x))
  (hres:ResOK (ε.more b v) m.length w' r) (hown:∀ x,ownR (ε.more b v) m.length r=some x→w.heap.size≤x∨row=some x):
  Inv β (ε.more b v) (m++[r]) w':=by
 have hn:=h.good.n
 have hw:∀ b,b<w.heap.size→row≠some b→w'.heap[b]? =w.heap[b]? :=fun b hb hr=>hg.block b hb (fun e=>hr e.symm)
 have hle:=ε.le_more b v
 have hownI:∀ i,i<m.length→ownR (ε.more b v) i (memAt (m++[r]) i)=ownR ε i (memAt m i):=by
  intro i hi
  rw [memAt_append_lt hi]
  have hi':i<ε.n:=by omega
  cases memAt m i<;>simp [ownR,Env.more,Nat.ne_of_lt hi']
 have hcase:∀ i x,ownR (ε.more b v) i (memAt (m++[r]) i)=some x→(i<m.length∧ownR ε i (memAt m i)=some x)∨(i=m.length∧(w.heap.size≤x∨row=some x)):=by
  intro i x hb
  rcases Nat.lt_trichotomy i m.length with hi|hi|hi
  ·rw [hownI i hi] at hb;exact .inl ⟨hi,hb⟩
  ·subst hi;rw [memAt_snoc] at hb;exact .inr ⟨rfl,hown x hb⟩
  ·rw [memAt_ge (by simp;omega)] at hb;cases hb
 have hne:∀ i x,ownR ε i (memAt m i)=some x→w'.heap[x]? =w.heap[x]? :=fun i x hx=>hw x (ownR_lt h.good hx) (fun e=>(hrow x e).1 i hx)
 refine ⟨⟨by simp [Env.more,hn],fun i=> ?_,fun i j x hij h1 h2=> ?_,fun i x hb=> ?_,fun x o hb=> ?_,h.good.gl⟩,⟨hg.os.trans h.kept.os,hg.tape.trans h.kept.tape,hg.output.trans h.kept.output,Nat.le_trans h.kept.size hg.size,?_,h.kept.H,h.kept.fresh,fun e=>Nat.le_trans (h.kept.drawn e) hd⟩,fun i x hb=> ?_,?_,fun i hi=> ?_,fun i hi hv=> ?_⟩
 ·rcases Nat.lt_trichotomy i m.length with hi|hi|hi
  ·rw [memAt_append_lt hi]
   have hi':i<ε.n:=by omega
   have hr:=h.good.res i
   cases hm:memAt m i with
   |dead=>trivial
   |blk T c=>
    rw [hm] at hr
    obtain ⟨cs,h1,h2⟩:=hr
    exact ⟨cs,by rw [hle.blk i hi',hne i _ (by rw [hm];rfl)];exact h1,h2.mono c hle⟩
   |vec T wd l=>
    rw [hm] at hr
    obtain ⟨xs,⟨T0,hT0,h1⟩,h2⟩:=hr
    refine ⟨xs,⟨T0,hT0,?_⟩,fun j hj=>(h2 j hj).mono _ hle⟩
    rw [hle.vv i hi']
    refine ⟨h1.1,?_⟩
    rcases h1.2 with hx|⟨gg,cap,cur,e1,e2,e3,e4⟩
    ·exact .inl hx
    ·exact .inr ⟨gg,cap,cur,e1,e2,by rw [hne i gg (by rw [hm];simp [ownR,e1,Value.ownBlock])];exact e3,e4⟩
   |mp ek ev l=>
    rw [hm] at hr
    obtain ⟨es,cl,h1,h2⟩:=hr
    exact ⟨es,cl,by rw [hle.blk i hi',hne i _ (by rw [hm];rfl)];exact h1,h2⟩
  ·subst hi;rw [memAt_snoc];exact hres
  ·rw [memAt_ge (by simp;omega)];trivial
 ·rcases hcase i x h1 with ⟨hi,h1'⟩|⟨hi,hb⟩<;>rcases hcase j x h2 with ⟨hj,h2'⟩|⟨hj,hb2⟩
  ·exact h.good.disj i j x hij h1' h2'
  ·rcases hb2 with hb2|hb2
   ·have:=ownR_lt h.good h1';omega
   ·exact (hrow x hb2).1 i h1'
  ·rcases hb with hb|hb
   ·have:=ownR_lt h.good h2';omega
   ·exact (hrow x hb).1 j h2'
  ·omega
 ·rcases hcase i x hb with ⟨_,h1⟩|⟨_,h1|h1⟩
  ·exact h.good.sep i x h1
  ·cases hh:ε.H x with
   |none=>exact hh
   |some o=>have:=H_lt h.good hh;omega
  ·exact (hrow x h1).2.1
 ·rw [hw x (H_lt h.good hb) (fun e=>by have h3:=(hrow x e).2.1;have hb':ε.H x=some o:=hb;rw [h3] at hb';cases hb')];exact h.good.hv x o hb
 ·intro x hb hB
  rw [hw x (Nat.lt_of_lt_of_le hb h.kept.size) (fun e=>by
   rcases (hrow x e).2.2.2 with q|q
   ·exact hB q
   ·omega)]
  exact h.kept.heap x hb hB
 ·rcases hcase i x hb with ⟨_,h1⟩|⟨_,h1|h1⟩
  ·exact h.own i x h1
  ·right;exact Nat.le_trans h.kept.size h1
  ·exact (hrow x h1).2.2.2
 ·have:=h.n;simp [Env.more];omega
 ·have:=h.n
  have e:=h.blk i hi
  simp [Env.more]
  rw [if_neg (by omega)];exact e
 ·have hn':=h.n
  rw [memAt_append_lt (by omega)] at hv
  have e:=h.vv i hi hv
  simp [Env.more]
  rw [if_neg (by omega)];exact e
section
variable {o:Oper} {σ:List SV} {m:List Res}
def appM (m:List Res) (E:TypeId) (w by':Nat) (s x:SV) (K:SV→List Res→Prop):Prop:=
 match srcL m w x with
 |none=>False
 |some l2=>match s with
  | .nils=>l2.length*by'≤140737488355328∧K (.vec m.length l2.length) (m++[.vec E w l2])
  | .vec i _=>match memAt m i with
   | .vec E' w' l=>((E'=E∧E<1000000)∧w'=w∧(l.length+l2.length)*by'≤140737488355328)∧
     K (.vec m.length (l.length+l2.length)) (m.set i .dead++[.vec E w (l++l2)])
   |_=>False
  | .lit w' d f l=>if l2.isEmpty then w'=w∧K (.lit w' d f l) m else (w'=w∧(l.length+l2.length)*by'≤140737488355328)∧
    K (.vec m.length (l.length+l2.length)) (m++[.vec E w (l.map f++l2)])
  |_=>False
theorem run_app_full {E t ty:TypeId} {i:TypeInfo} {z:Value} {w by':Nat} {W:World} (ht:P.underlying t=some (.slice E)) (hi:P.info? E=some i) (hz:i.zero=some z) (hw:i.size=w) (hby:i.bytes=by') (hzs:z.cells.size=w) (hw0:0<w)
  {b:Addr} {n:Nat} {xs:List Value} (hlo:xs.length=n*w) (holds:∀ j u,xs[j]? =some u→W.cell? (b.add j)=some u) {a:Addr} {k c:Nat} {news:List Value} (hl:news.length=k*w) (hk:0<k)
  (hnews:∀ j u,news[j]? =some u→W.cell? (a.add j)=some u) (h63:n+k≤maxLen) (hbytes:(n+k)*by'≤140737488355328):
  ∃ v' W',(Builtin.append_ #[t,t] ty #[.slice (some b) n n, .slice (some a) k c]).run P W= .ok v' W'∧W'.ownsRow 0 E w v' (n+k) (xs++news)∧(W.grownBy W' none∧W.drawn≤W'.drawn)∧∀ b,v'.ownBlock=some b→W.heap.size≤b:=by
 subst hw
 subst hby
 have hsmall:n+k≤9223372036854775807:=by simp only [maxLen] at h63;omega
 have hlen:(xs++news).length=(n+k)*i.size:=by rw [List.length_append,hlo,hl,Nat.add_mul]
 have hr:=run_append_grow (P:=P) W t ty E i z ht hi hz b n n xs hlo holds a k c news hl hnews (by omega) (by omega) (growslice_fits (by omega) hbytes)
 have hge:=grownCap_ge W (n+k) n E
 have hcm:grownCap W (n+k) n E≤maxLen:=grownCap_le_maxLen W (n+k) n E h63
 refine ⟨_,_,hr,⟨hlen, .inr ⟨W.heap.size,_,_,rfl,Nat.zero_le _,heap_alloc_new W.drew _,hge,hcm,?_,?_⟩⟩,⟨⟨rfl,rfl,rfl,by simp,fun j hj _=>Go.RowKit.Below.heap_alloc W.drew _ j hj⟩,Nat.le_succ _⟩,fun b hb=> ?_⟩
 ·simp only [Array.size_append,List.size_toArray,size_zeroCells,hzs,hlo,hl,← Nat.add_mul]
  congr 1
  omega
 ·simp only [Array.toList_append,List.append_assoc]
  rw [← List.append_assoc,← hlen]
  exact List.take_left
 ·simp only [Value.ownBlock,Option.some.injEq] at hb
  omega
theorem estep_appM {t:TypeId} {E:TypeId} {w by':Nat} {s x:Operand} {s' x':Opd} {K:SV→List Res→Prop}
  (ho:o.op= .call {callee:= .builtin .append,args:= #[s,x],argTypes:= #[t,t]}) (ht:compApp P t=some (E,w,by')) (hs':compO s=some s') (hx':compO x=some x')
  (h:appM m E w by' (s'.ev σ) (x'.ev σ) K):∃ sv m',K sv m'∧EStepL P o σ m sv m':=by
 obtain ⟨hu,i,z,hi,hz,hsz,hby,hzs,hw0,hb0⟩:=compApp_ok ht
 have hrun:∀ (a:Act) W,(execOp a.eval o).run P W=((Builtin.append_ #[t,t] o.type #[a.eval s,a.eval x]).run P W).andThen fun v w=> .ok (.value v) w:=by
  intro a W
  simp [execOp,ho,resolve,invoke,builtin]
 have h63:∀ n:Nat,n*by'≤140737488355328→n≤maxLen:=by
  intro n hn
  have:n≤n*by':=Nat.le_mul_of_pos_right _ hb0
  unfold maxLen;omega
 have hsat:∀ {ε:Env} {v':Value} {n:Nat} {ys:List Value} {W':World},ε.n=m.length→W'.ownsRow 0 E w v' n ys→SatV (ε.more 0 v') (.vec m.length n) v':=by
  intro ε v' n ys W' hn g1
  refine ⟨[v'],?_,rfl⟩
  simp only [SatC]
  have hvv:(ε.more 0 v').vv m.length=v':=by simp [Env.more,hn]
  refine ⟨by simp [Env.more,hn],?_,by rw [hvv]⟩
  rw [hvv]
  rcases g1.2 with ⟨q1,q2⟩|⟨g,cap,cur,q,_,_,q4,_⟩
  ·exact .inl ⟨q1,q2⟩
  ·exact .inr ⟨g,cap,q,q4⟩
 unfold appM at h
 split at h
 ·exact h.elim
 ·rename_i l2 hl2
  split at h
  ·rename_i es
   refine ⟨_,_,h.2,fun β ε a W hI hs=> ?_⟩
   obtain ⟨ao,c,news,e1,e2,e3,e4,e5,e7⟩:=srcL_ok hl2 hI.good (compO_ok hx' hs)
   have e6:=sat_nils (es▸compO_ok hs' hs)
   obtain ⟨v',W',hr,g1,g2,g3⟩:=run_app (P:=P) (ty:=o.type) (W:=W) hu hi hz hsz hby hzs hw0 (World.ownsRow_nil W 0 E w) e2.1 (fun hn=>by obtain ⟨q1,q2⟩:=e3 hn;rw [q1];exact ⟨rfl,q2⟩) e4 e5 (by rw [Nat.zero_add];exact h63 _ h.1) (by rw [Nat.zero_add];exact h.1)
   rw [Nat.zero_add,List.nil_append] at g1
   have g2':W.grownBy W' none:=g2.1
   have hr':(execOp a.eval o).run P W= .ok (.value v') W':=by rw [hrun,e6,e1,hr,Result.andThen_ok]
   have hev:=Conc.events_append_op (P:=P) (a:=a) (w:=W) s x t ho e6 e1 #[]
   have hE':EvIn ε m W W' ((execOp a.eval o).events P W #[]):=by
    rw [hev];exact ls_app (P:=P) hu hi hz hsz hby (World.ownsRow_nil W 0 E w) e2.1 (fun hn=>by obtain ⟨q1,q2⟩:=e3 hn;rw [q1];exact ⟨rfl,q2⟩) e4 e5 (by rw [Nat.zero_add];exact h63 _ h.1) (by rw [Nat.zero_add];exact h.1) (fun a ha hp=>(e7 a ha (posK hp)).imp .inl id) (fun b hb=>by simp [Value.ownBlock] at hb)
   refine ⟨v',W',ε.more 0 v', .inl hr',hsat hI.good.n g1,ε.le_more _ _,hI.more g2' g2.2 ?_ ?_,hE'⟩
   ·have hvv:(ε.more 0 v').vv m.length=v':=by simp [Env.more,hI.good.n]
    exact ⟨news,by rw [hvv];exact .of g1,fun j hj=>(e2.2 j hj).mono _ (ε.le_more _ _)⟩
   ·intro b hb
    simp [ownR,Env.more,hI.good.n] at hb
    rcases g3 with g3|g3
    ·rw [g3] at hb;simp [Value.ownBlock] at hb
    ·exact g3 b hb
  ·rename_i i' n' es
   split at h<;>try (exact h.elim)
   rename_i E' w' l hm
   obtain ⟨⟨⟨rfl,hpin⟩,rfl,hb⟩,hK⟩:=h
   refine ⟨_,_,hK,fun β ε a W hI hs=> ?_⟩
   obtain ⟨ao,c,news,e1,e2,e3,e4,e5,e7⟩:=srcL_ok hl2 hI.good (compO_ok hx' hs)
   obtain ⟨hi',_,e6⟩:=sat_vec (es▸compO_ok hs' hs)
   obtain ⟨xs,hown,hel⟩:ResOK ε i' W (.vec E' w' l):=hm▸hI.good.res i'
   replace hown:=hown.get hpin
   obtain ⟨v',W',hr,g1,g2,g3⟩:=run_app (P:=P) (ty:=o.type) (W:=W) hu hi hz hsz hby hzs hw0 hown e2.1 (fun hn=>by obtain ⟨q1,q2⟩:=e3 hn;rw [q1];exact ⟨rfl,q2⟩) e4 e5 (h63 _ hb) hb
   have hE:SatE ε w' (l++l2) (xs++news):=SatE.append ⟨hown.1,hel⟩ e2
   have hoi:ownR ε i' (memAt m i')=(ε.vv i').ownBlock:=by rw [hm];rfl
   have hd:=hI.drop (i:=i') (by rw [hm];rfl)
   have hil:i'<m.length:=by rw [← hI.good.n];exact hi'
   have hat:∀ j,memAt (m.set i' .dead) j=if j=i' then .dead else memAt m j:=by
    intro j
    unfold memAt
    rw [List.getD,List.getElem?_set]
    by_cases hj:i'=j
    ·subst hj;simp [hil]
    ·rw [if_neg hj,if_neg (fun e=>hj e.symm)];rfl
   have hlen:(m.set i' .dead).length=m.length:=by simp
   have hmore:=hd.more2 (b:=0) (v:=v') (r:= .vec E' w' (l++l2)) g2.1 g2.2 (fun x hx=>by
    have hx':ownR ε i' (memAt m i')=some x:=by rw [hoi];exact hx
    refine ⟨fun j hj=> ?_,hI.good.sep i' x hx',ownR_lt hI.good hx',hI.own i' x hx'⟩
    rw [hat] at hj
    by_cases hji:j=i'
    ·rw [if_pos hji] at hj;cases hj
    ·rw [if_neg hji] at hj;exact hI.good.disj j i' x hji hj hx')
    (by
     have hvv:(ε.more 0 v').vv (m.set i' .dead).length=v':=by rw [hlen];simp [Env.more,hI.good.n]
     exact ⟨xs++news,by rw [hvv,List.length_append];exact .of g1,fun j hj=>(hE.2 j hj).mono _ (ε.le_more _ _)⟩)
    (fun x hx=>by
     have hvv:(ε.more 0 v').vv (m.set i' .dead).length=v':=by rw [hlen];simp [Env.more,hI.good.n]
     simp only [ownR,hvv] at hx
     rcases g3 with g3|g3
     ·right;rw [← g3];exact hx
     ·left;exact g3 x hx)
   have hr':(execOp a.eval o).run P W= .ok (.value v') W':=by rw [hrun,e6,e1,hr,Result.andThen_ok]
   have hev:=Conc.events_append_op (P:=P) (a:=a) (w:=W) s x t ho e6 e1 #[]
   have hE':EvIn ε m W W' ((execOp a.eval o).events P W #[]):=by
    rw [hev];exact ls_app (P:=P) hu hi hz hsz hby hown e2.1 (fun hn=>by obtain ⟨q1,q2⟩:=e3 hn;rw [q1];exact ⟨rfl,q2⟩) e4 e5 (h63 _ hb) hb (fun a ha hp=>(e7 a ha (posK hp)).imp .inl id) (fun b hb=> .inl ⟨i',by rw [hm];exact hb⟩)
   exact ⟨v',W',ε.more 0 v', .inl hr',hsat hI.good.n g1,ε.le_more _ _,hmore,hE'⟩
  ·rename_i τ w' d f l es
   split at h
   ·rename_i hem
    obtain ⟨rfl,hK⟩:=h
    refine ⟨_,_,hK,fun β ε a W hI hs=> ?_⟩
    have hl0:l2=[]:=by simpa using hem
    subst hl0
    obtain ⟨ao,c,news,e1,e2,e3,e4,e5,e7⟩:=srcL_ok hl2 hI.good (compO_ok hx' hs)
    have hsv:=es▸compO_ok hs' hs
    obtain ⟨q1,ao2,q2,q3⟩:=lit_lst hsv
    have hr:(Builtin.append_ #[t,t] o.type #[.slice ao2 l.length l.length, .slice ao 0 c]).run P W= .ok (.slice ao2 l.length l.length) W:=by
     have hn:news=[]:=List.eq_nil_of_length_eq_zero (by have:=e2.1;simpa using this)
     cases ao with
     |none=>
      simp [Builtin.append_,run_underlying hu,sizeOf,typeInfo,hi,Builtin.lenOf,Builtin.firstCells,loadCells,loadCellsFrom,storeCells]
      cases ao2<;>simp [storeCells]
     |some a=>
      simp [Builtin.append_,run_underlying hu,sizeOf,typeInfo,hi,Builtin.lenOf,Builtin.firstCells,loadCells,loadCellsFrom,storeCells]
      cases ao2<;>simp [storeCells]
    have e1':a.eval x= .slice ao 0 c:=e1
    have hr':(execOp a.eval o).run P W= .ok (.value (.slice ao2 l.length l.length)) W:=by rw [hrun,q2,e1',hr,Result.andThen_ok]
    refine ⟨_,W,ε, .inl hr',q2▸hsv,Env.Le.refl ε,hI, .nil ?_⟩
    rw [Conc.events_append_op (P:=P) (a:=a) (w:=W) s x t ho q2 e1' #[]]
    cases ao<;>cases ao2<;>simp [Builtin.append_,run_underlying hu,sizeOf,typeInfo,hi,Builtin.lenOf,Builtin.firstCells,loadCells,loadCellsFrom,storeCells]
   ·rename_i hem
    obtain ⟨⟨rfl,hb⟩,hK⟩:=h
    refine ⟨_,_,hK,fun β ε a W hI hs=> ?_⟩
    obtain ⟨ao,c,news,e1,e2,e3,e4,e5,e7⟩:=srcL_ok hl2 hI.good (compO_ok hx' hs)
    have hsv:=es▸compO_ok hs' hs
    obtain ⟨q1,ao2,q2,q3⟩:=lit_lst hsv
    obtain ⟨ao3,c3,olds,p1,p2,p3,p4,p5,p7⟩:=srcL_ok (m:=m) (w:=w') (l2:=l.map f) (by simp [srcL]) hI.good q1
    rw [q2] at p1
    simp only [Value.slice.injEq,List.length_map] at p1
    obtain ⟨rfl,_,rfl⟩:=p1
    have hpos:0<l2.length:=by
     cases l2 with
     |nil=>exact absurd rfl hem
     |cons=>simp
    have hE:SatE ε w' (l.map f++l2) (olds++news):=SatE.append p2 e2
    have key:∃ v' W',(Builtin.append_ #[t,t] o.type #[.slice ao2 l.length l.length, .slice ao l2.length c]).run P W= .ok v' W'∧W'.ownsRow 0 E w' v' (l.length+l2.length) (olds++news)∧(W.grownBy W' none∧W.drawn≤W'.drawn)∧∀ b,v'.ownBlock=some b→W.heap.size≤b:=by
     cases ao with
     |none=>obtain ⟨h1,_⟩:=e3 rfl;rw [h1] at hpos;simp at hpos
     |some ad=>
      cases ao2 with
      |some bd=>exact run_app_full (P:=P) hu hi hz hsz hby hzs hw0 (by have:=p2.1;simpa using this) (fun j u hu=>p4 bd rfl j u hu) e2.1 hpos (fun j u hu=>e4 ad rfl j u hu) (h63 _ hb) hb
      |none=>
       have hl0:l.length=0:=q3 rfl
       have hol:olds=[]:=List.eq_nil_of_length_eq_zero (by have:=p2.1;simp [hl0] at this;simpa using this)
       obtain ⟨v',W',hr,g1,g2,g3⟩:=run_app (P:=P) (ty:=o.type) (W:=W) hu hi hz hsz hby hzs hw0 (World.ownsRow_nil W 0 E w') e2.1 (fun hn=>by cases hn) e4 e5 (by have:=h63 _ hb;omega) (by rw [hl0] at hb;exact hb)
       rw [hl0,hol]
       refine ⟨v',W',hr,g1,g2,fun b hb=> ?_⟩
       rcases g3 with g3|g3
       ·rw [g3] at hb;simp [Value.ownBlock] at hb
       ·exact g3 b hb
    obtain ⟨v',W',hr,g1,g2,g3⟩:=key
    have hr':(execOp a.eval o).run P W= .ok (.value v') W':=by rw [hrun,q2,e1,hr,Result.andThen_ok]
    have hE':EvIn ε m W W' ((execOp a.eval o).events P W #[]):=by
     rw [Conc.events_append_op (P:=P) (a:=a) (w:=W) s x t ho q2 e1 #[]]
     cases ao with
     |none=>obtain ⟨h1,_⟩:=e3 rfl;rw [h1] at hpos;simp at hpos
     |some ad=>
      cases ao2 with
      |some bd=>exact ls_app_full (P:=P) hu hi hz hsz hby (by have:=p2.1;simpa using this) (fun j u hu=>p4 bd rfl j u hu) e2.1 hpos (fun j u hu=>e4 ad rfl j u hu) (h63 _ hb) hb (fun hp=>(p7 bd rfl (by simpa using posK hp)).imp .inl id) (fun hp=>(e7 ad rfl hpos).imp .inl id)
      |none=>
       have hl0:l.length=0:=q3 rfl
       rw [hl0]
       rw [hl0] at hb
       exact ls_app (P:=P) hu hi hz hsz hby (World.ownsRow_nil W 0 E w') e2.1 (fun hn=>by cases hn) e4 e5 (h63 _ hb) hb (fun a ha hp=>(e7 a ha (posK hp)).imp .inl id) (fun b hb=>by simp [Value.ownBlock] at hb)
    refine ⟨v',W',ε.more 0 v', .inl hr',hsat hI.good.n g1,ε.le_more _ _,hI.more g2.1 g2.2 ?_ ?_,hE'⟩
    ·have hvv:(ε.more 0 v').vv m.length=v':=by simp [Env.more,hI.good.n]
     exact ⟨olds++news,by rw [hvv,List.length_append,List.length_map];exact .of g1,fun j hj=>(hE.2 j hj).mono _ (ε.le_more _ _)⟩
    ·intro b hb
     simp [ownR,Env.more,hI.good.n] at hb
     exact g3 b hb
  ·exact h.elim
end
end Go.Sx
end
section
namespace Go.Sx
open Go
variable {P:Program}
def compM (P:Program) (op:Op):Option (MK×List Opd):=none
section
variable {o:Oper} {σ:List SV} {m:List Res}
theorem estep_mop {k:MK} {ys:List Opd} {K:SV→List Res→Prop} (hc:compM P o.op=some (k,ys)) (hv:(ys.map (·.ev σ)).all SV.isVal=true) (h:mopK m k (ys.map (·.ev σ)) K):
  ∃ sv m',K sv m'∧EStepL P o σ m sv m'∧(k.eff=false→m'=m):=by cases hc
end
end Go.Sx
end
