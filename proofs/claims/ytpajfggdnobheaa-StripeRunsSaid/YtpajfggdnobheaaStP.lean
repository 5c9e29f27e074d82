/- A part of the proof of StripeRuns. Conditions: none. -/
import Derived.Test.YtpajfggdnobheaaStR
import Derived.Test.YtpajfggdnobheaaSrt6
set_option linter.unusedVariables false
set_option linter.unusedSimpArgs false
set_option maxRecDepth 100000
open Go Go.Sx Go.Proofs
namespace Go.Proofs.Ytpajfggdnobheaa.Sp
variable {main:Bool} {Fz:Nat→Prop}
open Go.Proofs.Ytpajfggdnobheaa.D Go.Proofs.Ytpajfggdnobheaa.Tr Go.Proofs.Ytpajfggdnobheaa.C Go.Proofs.Ytpajfggdnobheaa.Fu Go.Proofs.Ytpajfggdnobheaa.Fa
def hEnd:(Int→Cl)→List Ms→Int→Cl
 |f,[]=>f
 |f,x::l=>hEnd (hStep f x) l
theorem hEnd_app:∀ (a b:List Ms) (f:Int→Cl),hEnd f (a++b)=hEnd (hEnd f a) b
 |[],_,_=>rfl
 |x::a,b,f=>hEnd_app a b _
theorem hRun_app:∀ (a b:List Ms) (f:Int→Cl),hRun f (a++b)=hRun f a++hRun (hEnd f a) b
 |[],_,_=>rfl
 |x::a,b,f=>by
  simp only [List.cons_append,hRun,hEnd]
  rw [hRun_app a b,List.append_assoc]
theorem okH_app:∀ (a b:List Ms) (f:Int→Cl),okH f a→okH (hEnd f a) b→okH f (a++b)
 |[],_,_,_,h=>h
 |x::a,b,f,h,h2=>⟨h.1,h.2.1,h.2.2.1,okH_app a b _ h.2.2.2 h2⟩
theorem ofH_app (n j:Nat) (a b:List Ms):ofH n j (a++b)=ofH n j a++ofH n j b:=List.filter_append ..
variable {l:List Ev}
theorem hand_upto (hok:(checkR l).2=0) (n j:Nat):∀ i,i≤l.length→
  (∀ x:Nat,x%n=j→hEnd (fun _=>cl0) (ofH n j (allM l i)) (x:Int)=runX l i x)∧hRun (fun _=>cl0) (ofH n j (allM l i))=(runXL l i).filter (fun f=>decide (f.var.toNat%n=j))∧okH (fun _=>cl0) (ofH n j (allM l i))
 |0,_=>⟨fun x _=>rfl,rfl,trivial⟩
 |i+1,hi=>by
  obtain ⟨h1,h2,h3⟩:=hand_upto hok n j i (by omega)
  obtain ⟨b1,b2,b3,b4⟩:=(isEv_iff _).1 (ok_isEv hok i (by omega))
  by_cases ha:isAcc (l.getD i dEv.dft)=true
  ·have hobj:(((l.getD i dEv.dft).obj.toNat:Nat):Int)=(l.getD i dEv.dft).obj:=by omega
   by_cases hj:(l.getD i dEv.dft).obj.toNat%n=j
   ·have ea:ofH n j (allM l (i+1))=ofH n j (allM l i)++[msgOf l i]:=by
     rw [allM,if_pos ha,ofH_app]
     congr 1
     simp only [ofH,msgOf,List.filter_cons,List.filter_nil,hj,decide_true,if_true]
    have hx:=h1 _ hj
    rw [hobj] at hx
    have hkk:hK (hEnd (fun _=>cl0) (ofH n j (allM l i))) (msgOf l i)=flagX l i:=by
     rw [flagX,if_pos ha,hK,msgOf,hx]
    rw [ea]
    refine ⟨fun x hxj=> ?_,?_,okH_app _ _ _ h3 ⟨?_,b1,b2,trivial⟩⟩
    ·rw [hEnd_app]
     show hStep _ (msgOf l i) (x:Int)=_
     rw [hStep,runX,if_pos ha]
     by_cases e:x=(l.getD i dEv.dft).obj.toNat
     ·rw [if_pos (by rw [e,hobj];rfl),if_pos e,h1 x hxj];rfl
     ·rw [if_neg (fun h=>e (by have:(x:Int)=(l.getD i dEv.dft).obj:=h;omega)),if_neg e,h1 x hxj]
    ·rw [hRun_app,h2,runXL,List.filter_append]
     congr 1
     show hFl _ (msgOf l i)++[]=_
     rw [List.append_nil,hFl,hkk]
     split
     ·rfl
     ·simp only [msgOf,List.filter_cons,List.filter_nil,hj,decide_true,if_true]
    ·rw [show (msgOf l i).e.obj=(l.getD i dEv.dft).obj from rfl,hx]
     exact (runX_ok hok i (by omega) _).1
   ·have ea:ofH n j (allM l (i+1))=ofH n j (allM l i):=by
     rw [allM,if_pos ha,ofH_app]
     simp only [ofH,msgOf,List.filter_cons,List.filter_nil,hj,decide_false,Bool.false_eq_true,if_false,List.append_nil]
    rw [ea]
    refine ⟨fun x hxj=> ?_,?_,h3⟩
    ·rw [runX,if_pos ha,if_neg (fun e=>hj (by rw [← e];exact hxj)),h1 x hxj]
    ·rw [h2,runXL,List.filter_append]
     split
     ·simp only [List.filter_nil,List.append_nil]
     ·simp only [List.filter_cons,List.filter_nil,hj,decide_false,Bool.false_eq_true,if_false,List.append_nil]
  ·have ea:ofH n j (allM l (i+1))=ofH n j (allM l i):=by
    rw [allM,if_neg ha,List.append_nil]
   rw [ea]
   refine ⟨fun x hxj=> ?_,?_,h3⟩
   ·rw [runX,if_neg ha,h1 x hxj]
   ·rw [h2,runXL,flagX,if_neg ha,if_pos rfl,List.append_nil]
theorem allM_len:∀ i,(allM l i).length≤i
 |0=>Nat.le_refl _
 |i+1=>by
  have:=allM_len i
  rw [allM,List.length_append]
  split<;>simp<;>omega
theorem ofH_len (hok:(checkR l).2=0) (n j:Nat):(ofH n j (allM l l.length)).length≤1000:=by
 have h1:=ok_len hok
 have h2:=allM_len (l:=l) l.length
 have h3:=List.length_filter_le (fun m:Ms=>decide (m.e.obj.toNat%n=j)) (allM l l.length)
 show (List.filter _ _).length≤_
 omega
theorem flH_is (hok:(checkR l).2=0) (n j:Nat):flH n l j=(runXL l l.length).filter (fun f=>decide (f.var.toNat%n=j)):=(hand_upto hok n j _ (Nat.le_refl _)).2.1
theorem runXL_at:∀ i,(∀ f∈runXL l i,0≤f.at'∧f.at'<i)∧(runXL l i).Pairwise fun x y=>x.at'<y.at'
 |0=>⟨fun f hf=>by simp [runXL] at hf,List.Pairwise.nil⟩
 |i+1=>by
  obtain ⟨h1,h2⟩:=runXL_at i
  rw [runXL]
  split
  ·rw [List.append_nil]
   exact ⟨fun f hf=>by have:=h1 f hf;omega,h2⟩
  ·refine ⟨fun f hf=> ?_,List.pairwise_append.2 ⟨h2,List.pairwise_singleton ..,fun a ha b hb=> ?_⟩⟩
   ·rcases List.mem_append.1 hf with hf|hf
    ·have:=h1 f hf;omega
    ·simp only [List.mem_singleton] at hf;subst hf;simp only;omega
   ·simp only [List.mem_singleton] at hb;subst hb
    exact (h1 a ha).2
theorem flat_one {α:Type} (f:α) (k:Nat) (G:Nat→List α):∀ got:List Nat,got.Nodup→k∈got→(got.flatMap fun j=>if k=j then f::G j else G j).Perm (f::got.flatMap G):=by
 intro got hn hk
 obtain ⟨s,t,rfl⟩:=List.append_of_mem hk
 have h1:∀ r:List Nat,k∉r→(r.flatMap fun j=>if k=j then f::G j else G j)=r.flatMap G:=by
  intro r hr
  induction r with
  |nil=>rfl
  |cons x r ih=>
   simp only [List.flatMap_cons]
   rw [if_neg (fun e=>hr (by rw [e];simp)),ih (fun h=>hr (by simp [h]))]
 have hd:=List.nodup_append.1 hn
 have hs:k∉s:=fun h=>hd.2.2 k h k (by simp) rfl
 have ht:k∉t:=(List.nodup_cons.1 hd.2.1).1
 rw [List.flatMap_append,List.flatMap_append,List.flatMap_cons,List.flatMap_cons,h1 s hs,h1 t ht,if_pos rfl,List.cons_append]
 exact List.perm_middle
theorem flat_all {α:Type} (κ:α→Nat) (got:List Nat) (hn:got.Nodup):∀ L:List α,(∀ f∈L,κ f∈got)→(got.flatMap fun j=>L.filter fun f=>decide (κ f=j)).Perm L
 |[],_=>by simp
 |f::L,h=>by
  have ih:=flat_all κ got hn L fun x hx=>h x (by simp [hx])
  have e:(fun j=>(f::L).filter fun f=>decide (κ f=j))=fun j=>if κ f=j then f::(L.filter fun f=>decide (κ f=j)) else L.filter fun f=>decide (κ f=j):=by
   funext j
   rw [List.filter_cons]
   simp only [decide_eq_true_eq]
  rw [e]
  exact (flat_one f (κ f) _ got hn (h f (by simp))).trans (ih.cons f)
theorem got_all {n:Nat}:∀ {got:List Nat},got.Nodup→(∀ g∈got,g<n)→got.length=n→∀ k,k<n→k∈got:=by
 intro got h1 h2 h3 k hk
 by_cases h:k∈got
 ·exact h
 ·exfalso
  have hsub:(k::got) ⊆ List.range n:=fun x hx=>by
   rcases List.mem_cons.1 hx with rfl|hx
   ·exact List.mem_range.2 hk
   ·exact List.mem_range.2 (h2 x hx)
  have:=(List.nodup_cons.2 ⟨h,h1⟩).length_le_of_subset hsub
  simp at this
  omega
theorem sorted_is (hok:(checkR l).2=0) {n:Nat} (hn0:0<n) {got:List Nat} (h1:got.Nodup) (h2:∀ g∈got,g<n) (h3:got.length=n):
  (Sort.sort Srt.lt ((got.flatMap (flH n l)).map Srt.toFk).toArray).toList.map Srt.dFk.emb=(runXL l l.length).map dFl.emb:=by
 obtain ⟨a1,a2⟩:=runXL_at (l:=l) l.length
 have hlen:=ok_len hok
 have hp:(got.flatMap (flH n l)).Perm (runXL l l.length):=by
  have e:flH n l=fun j=>(runXL l l.length).filter fun f=>decide (f.var.toNat%n=j):=funext fun j=>flH_is hok n j
  rw [e]
  exact flat_all (fun f:Fl=>f.var.toNat%n) got h1 _ fun f _=>got_all h1 h2 h3 _ (Nat.mod_lt _ hn0)
 have hs:=Srt.sort_is ((got.flatMap (flH n l)).map Srt.toFk) ((runXL l l.length).map Srt.toFk) (hp.map _) (by
  rw [List.pairwise_map]
  refine a2.imp_of_mem fun {x y} hx hy h=> ?_
  have hx':=a1 x hx
  have hy':=a1 y hy
  have e1:(Srt.toFk x).fl.at'=x.at':=by rw [Srt.fl_toFk (by omega)]
  have e2:(Srt.toFk y).fl.at'=y.at':=by rw [Srt.fl_toFk (by omega)]
  simp only [Srt.Fk.fl] at e1 e2
  omega)
 rw [hs,List.map_map]
 refine List.map_congr_left fun f hf=> ?_
 have:=a1 f hf
 show dFl.emb (Srt.toFk f).fl=_
 rw [Srt.fl_toFk (by omega)]
theorem all_emb (hok:(checkR l).2=0) (n:Nat) (got:List Nat):(got.flatMap (flH n l)).map dFl.emb=((got.flatMap (flH n l)).map Srt.toFk).map Srt.dFk.emb:=by
 rw [List.map_map]
 refine List.map_congr_left fun f hf=> ?_
 obtain ⟨j,_,hf⟩:=List.mem_flatMap.1 hf
 rw [flH_is hok] at hf
 have:=(runXL_at (l:=l) l.length).1 f (List.mem_filter.1 hf).1
 have hlen:=ok_len hok
 show _=dFl.emb (Srt.toFk f).fl
 rw [Srt.fl_toFk (by omega)]
end Go.Proofs.Ytpajfggdnobheaa.Sp
