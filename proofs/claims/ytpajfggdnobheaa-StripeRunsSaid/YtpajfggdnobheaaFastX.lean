/- A part of the proof of StripeRuns. Conditions: none. -/
import Derived.Test.YtpajfggdnobheaaFastR
import Derived.Test.YtpajfggdnobheaaFullQ
set_option linter.unusedVariables false
set_option linter.unusedSimpArgs false
section
set_option maxRecDepth 100000
open Go Go.Sx Go.Proofs
namespace Go.Proofs.Ytpajfggdnobheaa.Fa
variable {main:Bool} {Fz:Nat→Prop}
open Go.Proofs.Ytpajfggdnobheaa.D Go.Proofs.Ytpajfggdnobheaa.Tr Go.Proofs.Ytpajfggdnobheaa.C Go.Proofs.Ytpajfggdnobheaa.Fu Go.Proofs.Ytpajfggdnobheaa.Ah Go.Proofs.Ytpajfggdnobheaa.Ps Go.Proofs.Ytpajfggdnobheaa.Od Go.Proofs.Ytpajfggdnobheaa.St
def epB (l:List Ev) (i j:Nat):Bool:=decide ((at' l i).thr=(at' l j).thr∧∀ k,k<j→i≤k→¬ ((at' l k).thr=(at' l i).thr∧isSt (at' l k)=true))
def epW (l:List Ev) (i:Int) (j:Nat):Bool:=decide (0≤i)&&epB l i.toNat j
def knW (l:List Ev) (i:Int) (j:Nat):Bool:=decide (i<0)||aheadR l i.toNat j
def lateB (l:List Ev) (rds:List Nat) (j:Nat):Bool:=rds.any fun i=> !aheadR l i j
structure FS where
 wr:Int
 rds:List Nat
 mn:Bool
def skipB (l:List Ev) (x:Nat) (j:Nat):Prop:=2< (at' l j).kind∨¬ (at' l j).obj=x
instance (l:List Ev) (x j:Nat):Decidable (skipB l x j):=inferInstanceAs (Decidable (_∨_))
def sameB (l:List Ev) (s:FS) (j:Nat):Prop:=s.mn=false∧s.rds.length=1∧epB l (s.rds.getD 0 0) j=true
instance (l:List Ev) (s:FS) (j:Nat):Decidable (sameB l s j):=inferInstanceAs (Decidable (_∧_))
def stF (l:List Ev) (x:Nat) (s:FS) (j:Nat):FS:=if skipB l x j then s else if (at' l j).kind=1 then
  if sameB l s j then s else if s.mn=false∧lateB l s.rds j=false then ⟨s.wr,[j],false⟩ else ⟨s.wr,s.rds.filter (fun i=> !decide ((at' l i).thr=(at' l j).thr))++[j],true⟩
 else if epW l s.wr j=true then s else ⟨j,if s.mn=true then [] else s.rds,false⟩
def fkF (l:List Ev) (x:Nat) (s:FS) (j:Nat):Int:=if skipB l x j then 0 else if (at' l j).kind=1 then
  if sameB l s j then 0 else if knW l s.wr j=true then 0 else 2
 else if epW l s.wr j=true then 0 else if knW l s.wr j=false then 1 else if lateB l s.rds j=true then 3 else 0
def slF (l:List Ev) (x:Nat) (s:FS) (j:Nat):Nat:=if skipB l x j then 0 else if (at' l j).kind=1 then
  if sameB l s j then 0 else if s.mn=false∧lateB l s.rds j=true then 1 else 0
 else 0
def FSr (l:List Ev) (x:Nat):Nat→FS
 |0=>⟨-1,[],false⟩
 |j+1=>stF l x (FSr l x j) j
def flW (l:List Ev) (x:Nat):Nat→List Fl
 |0=>[]
 |j+1=>flW l x j++if fkF l x (FSr l x j) j=0 then [] else [⟨j,x,fkF l x (FSr l x j) j⟩]
def slW (l:List Ev) (x:Nat):Nat→Nat
 |0=>0
 |j+1=>slW l x j+slF l x (FSr l x j) j
def flA (l:List Ev):Nat→List Fl
 |0=>[]
 |x+1=>flA l x++flW l x l.length
def slA (l:List Ev):Nat→Nat
 |0=>0
 |x+1=>slA l x+slW l x l.length
def outA (l:List Ev) (F:List Fl):Nat→List Fl
 |0=>[]
 |j+1=>outA l F j++F.filter (fun f:Fl=>decide (f.at'=(j:Int)))
theorem flW_len {l:List Ev} {x:Nat}:∀ j,(flW l x j).length≤j
 |0=>Nat.le_refl _
 |j+1=>by
  have:=flW_len (l:=l) (x:=x) j
  rw [flW,List.length_append];split<;>simp<;>omega
theorem slW_le {l:List Ev} {x:Nat}:∀ j,slW l x j≤j
 |0=>Nat.le_refl _
 |j+1=>by
  have:=slW_le (l:=l) (x:=x) j
  rw [slW,slF];split
  ·omega
  ·split
   ·split
    ·omega
    ·split<;>omega
   ·omega
theorem flA_len {l:List Ev}:∀ x,(flA l x).length≤x*l.length
 |0=>by simp [flA]
 |x+1=>by
  have:=flA_len (l:=l) x
  have:=flW_len (l:=l) (x:=x) l.length
  rw [flA,List.length_append,Nat.add_mul];omega
theorem slA_le {l:List Ev}:∀ x,slA l x≤x*l.length
 |0=>by simp [slA]
 |x+1=>by
  have:=slA_le (l:=l) x
  have:=slW_le (l:=l) (x:=x) l.length
  rw [slA,Nat.add_mul];omega
theorem outA_len {l:List Ev} {F:List Fl}:∀ j,(outA l F j).length≤j*F.length
 |0=>by simp [outA]
 |j+1=>by
  have:=outA_len (l:=l) (F:=F) j
  have:=List.length_filter_le (fun f:Fl=>decide (f.at'=(j:Int))) F
  rw [outA,List.length_append,Nat.add_mul];omega
theorem FSr_ok {l:List Ev} {x:Nat}:∀ j, -1≤(FSr l x j).wr∧(FSr l x j).wr<j∧(∀ i∈(FSr l x j).rds,i<j)∧(FSr l x j).rds.length≤j
 |0=>⟨by simp [FSr],by simp [FSr],by simp [FSr],by simp [FSr]⟩
 |j+1=>by
  obtain ⟨h1,h2,h3,h4⟩:=FSr_ok (l:=l) (x:=x) j
  have h3':∀ i∈(FSr l x j).rds,i<j+1:=fun i hi=>Nat.lt_succ_of_lt (h3 i hi)
  have hf:=List.length_filter_le (fun i=> !decide ((at' l i).thr=(at' l j).thr)) (FSr l x j).rds
  rw [FSr,stF]
  split
  ·exact ⟨h1,by omega,h3',by omega⟩
  ·split
   ·split
    ·exact ⟨h1,by omega,h3',by omega⟩
    ·split
     ·exact ⟨h1,by show (FSr l x j).wr<_;omega,by simp,by simp⟩
     ·refine ⟨h1,by show (FSr l x j).wr<_;omega,?_,by simp;omega⟩
      intro i hi
      simp only [List.mem_append,List.mem_filter,List.mem_cons,List.not_mem_nil,or_false] at hi
      rcases hi with hi|hi
      ·exact h3' i hi.1
      ·omega
   ·split
    ·exact ⟨h1,by omega,h3',by omega⟩
    ·refine ⟨by show -1≤(j:Int);omega,by show (j:Int)<_;omega,?_,?_⟩
     ·show ∀ i∈(if (FSr l x j).mn=true then [] else (FSr l x j).rds),i<j+1
      split
      ·simp
      ·exact h3'
     ·show (if (FSr l x j).mn=true then [] else (FSr l x j).rds).length≤j+1
      split
      ·simp
      ·omega
def flT (l:List Ev) (x j:Nat):List Fl:=flA l x++flW l x j
def slT (l:List Ev) (x j:Nat):Nat:=slA l x+slW l x j
def rI (s:FS):List Int:=s.rds.map fun (i:Nat)=>(i:Int)
theorem rI_len (s:FS):(rI s).length=s.rds.length:=List.length_map _
theorem rI_get {s:FS} {k:Nat} (h:k<s.rds.length):((rI s).map DT.int.emb).getD k .junk= .int .i64 ((s.rds.getD k 0:Nat):Int):=by
 rw [rI,List.map_map]
 simp [List.getD,h]
 rfl
theorem fl_getD {F:List Fl} {i:Nat} (h:i<F.length):(F.map dFl.emb).getD i .junk= .agg [.int .i64 (F.getD i dFl.dft).at', .int .i64 (F.getD i dFl.dft).var, .int .i64 (F.getD i dFl.dft).kind]:=by
 simp [List.getD,h,fl_emb]
def oI (l:List Ev) (F:List Fl) (j i:Nat):List Fl:=outA l F j++(F.take i).filter (fun f:Fl=>decide (f.at'=(j:Int)))
theorem oI_0 {l:List Ev} {F:List Fl} {j:Nat}:oI l F j 0=outA l F j:=by simp [oI]
theorem oI_n {l:List Ev} {F:List Fl} {j:Nat}:oI l F j F.length=outA l F (j+1):=by rw [oI,List.take_length,outA]
theorem oI_len {l:List Ev} {F:List Fl} {j:Nat} (i:Nat):(oI l F j i).length≤j*F.length+i:=by
 have h0:=outA_len (l:=l) (F:=F) j
 have h1:=List.length_filter_le (fun f:Fl=>decide (f.at'=(j:Int))) (F.take i)
 have h2:=List.length_take_le i F
 rw [oI,List.length_append];omega
theorem oI_yes {l:List Ev} {F:List Fl} {j i:Nat} (h:i<F.length) (q:(F.getD i dFl.dft).at'=(j:Int)):oI l F j (i+1)=oI l F j i++[F.getD i dFl.dft]:=by
 have e:F.getD i dFl.dft=F[i]:=by simp [List.getD,h]
 rw [e] at q ⊢
 rw [oI,List.take_add_one,List.getElem?_eq_getElem h,Option.toList_some,List.filter_append,List.filter_cons_of_pos (by simp [q]),List.filter_nil,oI,List.append_assoc]
theorem oI_no {l:List Ev} {F:List Fl} {j i:Nat} (h:i<F.length) (q:¬ (F.getD i dFl.dft).at'=(j:Int)):oI l F j (i+1)=oI l F j i:=by
 have e:F.getD i dFl.dft=F[i]:=by simp [List.getD,h]
 rw [e] at q
 rw [oI,List.take_add_one,List.getElem?_eq_getElem h,Option.toList_some,List.filter_append,List.filter_cons_of_neg (by simp [q]),List.filter_nil,List.append_nil,oI]
def rsF (l:List Ev) (rds:List Nat) (j k:Nat):List Int:=((rds.take k).filter fun i=> !decide ((at' l i).thr=(at' l j).thr)).map fun (i:Nat)=>(i:Int)
theorem rsF_len {l:List Ev} {rds:List Nat} {j:Nat} (k:Nat):(rsF l rds j k).length≤k:=by
 rw [rsF,List.length_map]
 have h1:=List.length_filter_le (fun i=> !decide ((at' l i).thr=(at' l j).thr)) (rds.take k)
 have h2:=List.length_take_le k rds
 omega
theorem rsF_ne {l:List Ev} {rds:List Nat} {j k:Nat} (h:k<rds.length) (q:¬ (l.getD (rds.getD k 0) dEv.dft).thr=(l.getD j dEv.dft).thr):rsF l rds j (k+1)=rsF l rds j k++[((rds.getD k 0:Nat):Int)]:=by
 have e:rds.getD k 0=rds[k]:=by simp [List.getD,h]
 rw [e] at q ⊢
 have q:¬ (at' l rds[k]).thr=(at' l j).thr:=q
 rw [rsF,List.take_add_one,List.getElem?_eq_getElem h,Option.toList_some,List.filter_append,List.map_append,List.filter_cons_of_pos (by simp [q])]
 rfl
theorem rsF_eq {l:List Ev} {rds:List Nat} {j k:Nat} (h:k<rds.length) (q:(l.getD (rds.getD k 0) dEv.dft).thr=(l.getD j dEv.dft).thr):rsF l rds j (k+1)=rsF l rds j k:=by
 have e:rds.getD k 0=rds[k]:=by simp [List.getD,h]
 rw [e] at q
 have q:(at' l rds[k]).thr=(at' l j).thr:=q
 rw [rsF,List.take_add_one,List.getElem?_eq_getElem h,Option.toList_some,List.filter_append,List.filter_cons_of_neg (by simp [q]),List.filter_nil,List.append_nil]
 rfl
def j27_1:JC:=
 (.seq (.seq (.ops<|
 qo 23 (.mv (.t 6))<|
 qo 24 (.mv (.t 1))<|
 qo 25 (.cmp .lss (.t 23) (.t 24))<|
 .nil)
 (.cond (.t 25)
 .skip
 (.exit 0)))
 (.seq (.block 1 (.seq (.dops<|
 .prune [2,6,0,1]<|
 eo 28 (.load 1 false (.t 2))<|
 qo 29 (.mv (.t 6))<|
 qo 30 (.is 3 (.t 28) (.t 29))<|
 qo 31 (.fa 1 1 (.t 30))<|
 .prune [31,2,0,6,1]<|
 eo 32 (.load 1 false (.t 31))<|
 eo 33 (.load 1 false (.t 2))<|
 qo 34 (.mv (.t 0))<|
 qo 35 (.is 3 (.t 33) (.t 34))<|
 .prune [35,32,2,6,1,0]<|
 qo 36 (.fa 1 1 (.t 35))<|
 eo 37 (.load 1 false (.t 36))<|
 qo 38 (.cmp .eql (.t 32) (.t 37))<|
 .prune [38,2,6,1,0]<|
 qo 39 (.mv (.t 38))<|
 .sc false 62 39 (eo 40 (.load 1 false (.t 2))<|
 qo 41 (.mv (.t 6))<|
 qo 42 (.is 3 (.t 40) (.t 41))<|
 qo 43 (.fa 0 0 (.t 42))<|
 eo 44 (.load 1 false (.t 43))<|
 qo 45 (.cmp .eql (.t 44) (I 4))<|
 qo 46 (.mv (.t 45))<|
 .sc true 53 46 (eo 47 (.load 1 false (.t 2))<|
 qo 48 (.mv (.t 6))<|
 qo 49 (.is 3 (.t 47) (.t 48))<|
 qo 50 (.fa 0 0 (.t 49))<|
 eo 51 (.load 1 false (.t 50))<|
 qo 52 (.cmp .eql (.t 51) (I 5))<|
 .nil) (.t 52)<|
 qo 54 (.mv (.t 53))<|
 .sc true 61 54 (eo 55 (.load 1 false (.t 2))<|
 qo 56 (.mv (.t 6))<|
 qo 57 (.is 3 (.t 55) (.t 56))<|
 qo 58 (.fa 0 0 (.t 57))<|
 eo 59 (.load 1 false (.t 58))<|
 qo 60 (.cmp .eql (.t 59) (I 8))<|
 .nil) (.t 60)<|
 .nil) (.t 61)<|
 .nil)
 (.prune [62,6,1,2,0] (.cond (.t 62)
 (.seq (.ops<|
 qo 5 (.mv (B false))<|
 .nil)
 .ret)
 .skip))))
 (.prune [6,1,2,0] (.ops<|
 qo 26 (.mv (.t 6))<|
 qo 27 (.ar .add (.t 26) (I 1))<|
 qo 6 (.mv (.t 27))<|
 .nil))))
def j27_2:JC:=
 (.prune [] (.seq (.ops<|
 qo 5 (.mv (B true))<|
 .nil)
 .ret))
def j27:JC:=
 (.seq (.ops<|
 qo 5 (.mv (B false))<|
 .nil)
 (.seq (.seq (.dops<|
 qo 7 (.mv (.t 0))<|
 qo 8 (.cmp .lss (.t 7) (I 0))<|
 qo 9 (.mv (.t 8))<|
 .sc true 21 9 (eo 10 (.load 1 false (.t 2))<|
 qo 11 (.mv (.t 0))<|
 qo 12 (.is 3 (.t 10) (.t 11))<|
 qo 13 (.fa 1 1 (.t 12))<|
 eo 14 (.load 1 false (.t 13))<|
 eo 15 (.load 1 false (.t 2))<|
 qo 16 (.mv (.t 1))<|
 qo 17 (.is 3 (.t 15) (.t 16))<|
 qo 18 (.fa 1 1 (.t 17))<|
 eo 19 (.load 1 false (.t 18))<|
 qo 20 (.cmp .neq (.t 14) (.t 19))<|
 .nil) (.t 20)<|
 .nil)
 (.prune [21,0,1,2] (.cond (.t 21)
 (.seq (.ops<|
 qo 5 (.mv (B false))<|
 .nil)
 .ret)
 .skip)))
 (.prune [0,1,2] (.seq (.seq (.ops<|
 qo 22 (.mv (.t 0))<|
 qo 6 (.mv (.t 22))<|
 .nil)
 (.block 0 (.loop [1,2,0] [6] j27_1)))
 j27_2))))
theorem c27:fnIs Try.prog qall 27=some (j27.flat,[.tmp 5],63):=by kernel_rfl
theorem w27:j27.wf 63=true:=by kernel_rfl
def j28:JC:=
 (.seq (.ops<|
 qo 5 (.mv (B false))<|
 .nil)
 (.seq (.ops<|
 qo 6 (.mv (.t 0))<|
 qo 7 (.cmp .lss (.t 6) (I 0))<|
 qo 8 (.mv (.t 7))<|
 .sc true 16 8 (eo 9 (.load 1 false (.t 2))<|
 qo 10 (.mv (.t 0))<|
 qo 11 (.is 1 (.t 9) (.t 10))<|
 eo 12 (.load 1 false (.t 11))<|
 qo 13 (.mv (.t 1))<|
 qo 14 (.is 1 (.t 12) (.t 13))<|
 eo 15 (.load 1 false (.t 14))<|
 .nil) (.t 15)<|
 qo 5 (.mv (.t 16))<|
 .nil)
 .ret))
theorem c28:fnIs Try.prog qall 28=some (j28.flat,[.tmp 5],17):=by kernel_rfl
theorem w28:j28.wf 17=true:=by kernel_rfl
theorem f_F2 (n:Nat) (M:Nat→Nat→Bool) (i:Int) (j:Nat) (hi:i<n) (hj:j<n):FnOK Try.prog main Fz 28 [.int .i64 i, .int .i64 j, .ref (dRows.emb (rowsOf n M)) [] 0] [] (.bool (decide (i<0)||M i.toNat j)) []:=by
 refine fn_walkF c28 w28 FH.none_ok rfl ?_
 unfold j28
 by_cases h:i<0
 ·simp only [go_sem,seval,h]
 ·obtain ⟨k,rfl⟩:∃ k:Nat,i=k:=⟨i.toNat,by omega⟩
  have hk:k<n:=by omega
  simp only [go_sem,seval,h,hk,rows_len,rows_row hk,rows_at hk hj]
  omega
theorem f_F1 (l:List Ev) (i:Int) (j:Nat) (hl:l.length≤1000) (hi:i<j) (hj:j<l.length):FnOK Try.prog main Fz 27 [.int .i64 i, .int .i64 j, .ref (dEs.emb l) [] 0] [] (.bool (epW l i j)) []:=by
 refine fn_walkF c27 w27 FH.none_ok rfl ?_
 unfold j27
 by_cases h:i<0
 ·have e:epW l i j=false:=by rw [epW];simp;omega
  simp only [go_sem,seval,h,e]
 ·obtain ⟨k,rfl⟩:∃ k:Nat,i=k:=⟨i.toNat,by omega⟩
  have hk:k<j:=by omega
  have e:epW l k j=epB l k j:=by rw [epW,Int.toNat_natCast];simp
  rw [e]
  simp only [go_sem,seval,h,hk]
  refine ⟨⟨by omega,by omega⟩,fun ht=>by rw [epB];exact (decide_eq_false fun hh=>ht hh.1).symm,fun ht=> ?_⟩
  refine loopF Nat (fun a=>[.int .i64 a]) (fun a=>[]) (fun a=>k≤a∧a≤j∧∀ b,b<a→k≤b→¬ ((at' l b).thr=(at' l k).thr∧isSt (at' l b)=true)) (fun a=>j - a) k ⟨by omega,by omega,fun b h1 h2=>by omega⟩ ?_ rfl ?_
  ·simp only [go_sem,seval]
  intro a ⟨ha1,ha2,ha3⟩
  have hn:(at' l a).thr=(at' l k).thr→isSt (at' l a)=true→a<j→epB l k j=false:=by
   intro h1 h2 h3
   rw [epB,decide_eq_false_iff_not]
   exact fun hh=>hh.2 a h3 ha1 ⟨h1,h2⟩
  by_cases q:a<j
  ·have q':(a:Int)<j:=by omega
   have hw:IntKind.i64.wrap ((a:Int)+1)=((a+1:Nat):Int):=IntWalk.i64_in _ (by omega)
   have hal:a<l.length:=by omega
   unfold j27_1
   simp only [go_sem,seval,q',hw,hal,hk]
   refine ⟨⟨by omega,by omega⟩,⟨by omega,by omega⟩,fun _=>⟨⟨⟨by omega,by omega⟩,fun _=>⟨by omega,by omega⟩⟩,fun _=>⟨by omega,by omega⟩⟩,fun hh=> ?_,fun hh=>⟨a+1,⟨by omega,by omega,fun b h1 h2 h3=> ?_⟩,by omega,rfl⟩⟩
   ·rw [Bool.and_eq_true,decide_eq_true_eq] at hh
    exact (hn hh.1 hh.2 q).symm
   ·by_cases e:b=a
    ·subst e
     have hh:(decide ((at' l b).thr=(at' l k).thr)&&isSt (at' l b))=false:=hh
     rw [decide_eq_true h3.1,h3.2] at hh
     cases hh
    ·exact ha3 b (by omega) h2 h3
  ·have q':¬ (a:Int)<j:=by omega
   have e:a=j:=by omega
   subst e
   have e:epB l k a=true:=by rw [epB];exact decide_eq_true ⟨ht,ha3⟩
   unfold j27_1
   simp only [go_sem,seval,q',e]
   unfold j27_2
   simp only [go_sem,seval]
   exact e.symm
end Go.Proofs.Ytpajfggdnobheaa.Fa
end
section
set_option maxRecDepth 100000
open Go Go.Sx Go.Proofs
namespace Go.Proofs.Ytpajfggdnobheaa.Fa
variable {main:Bool} {Fz:Nat→Prop}
open Go.Proofs.Ytpajfggdnobheaa.D Go.Proofs.Ytpajfggdnobheaa.Tr Go.Proofs.Ytpajfggdnobheaa.C Go.Proofs.Ytpajfggdnobheaa.Fu Go.Proofs.Ytpajfggdnobheaa.Ah Go.Proofs.Ytpajfggdnobheaa.Ps Go.Proofs.Ytpajfggdnobheaa.Od Go.Proofs.Ytpajfggdnobheaa.St
abbrev dEsR:DT (List Ev):=dEs.ref
abbrev dRwR:DT (List (List Bool)):=dRows.ref
def j8_1:JC:=
 (.seq (.ops<|
 qo 51 (.cmp .lss (.t 50) (.t 49))<|
 .nil)
 (.prune [51,48,50,15,12,13,49,14,10,9,11,34,33,32,7,8,5,6,1,27,4] (.seq (.cond (.t 51)
 .skip
 (.exit 4))
 (.prune [48,50,15,12,13,49,14,10,9,11,34,33,32,7,8,5,6,1,27,4] (.seq (.block 5 (.seq (.ops<|
 qo 52 (.is 1 (.t 48) (.t 50))<|
 eo 53 (.load 1 false (.t 52))<|
 qo 17 (.mv (.t 53))<|
 .nil)
 (.prune [15,12,17,13,50,49,48,14,10,9,11,34,33,32,7,8,5,6,1,27,4] (.ops<|
 qo 54 (.mv (.t 15))<|
 qo 55 (.mv (.t 54))<|
 .sc true 61 55 (qo 56 (.mv (.t 12))<|
 qo 57 (.mv (.t 17))<|
 qo 58 (.mv (.t 13))<|
 eo 59 (.callv (.t 56) [(.t 57),(.t 58)])<|
 qo 60 (.nt (.t 59))<|
 .nil) (.t 60)<|
 qo 15 (.mv (.t 61))<|
 .nil))))
 (.prune [50,49,48,15,12,13,14,10,9,11,34,33,32,7,8,5,6,1,27,4] (.ops<|
 qo 62 (.ar .add (.t 50) (I 1))<|
 qo 50 (.mv (.t 62))<|
 .nil)))))))
def j8_2:JC:=
 (.seq (.ops<|
 qo 128 (.cmp .lss (.t 127) (.t 126))<|
 .nil)
 (.prune [128,125,127,1,14,18,126,13,34,33,32,7,12,10,11,8,5,6,27,4] (.seq (.cond (.t 128)
 .skip
 (.exit 7))
 (.prune [125,127,1,14,18,126,13,34,33,32,7,12,10,11,8,5,6,27,4] (.seq (.block 8 (.seq (.ops<|
 qo 129 (.is 1 (.t 125) (.t 127))<|
 eo 130 (.load 1 false (.t 129))<|
 qo 20 (.mv (.t 130))<|
 .nil)
 (.prune [1,20,14,18,127,126,125,13,34,33,32,7,12,10,11,8,5,6,27,4] (.seq (.dops<|
 eo 131 (.load 1 false (.t 1))<|
 qo 132 (.mv (.t 20))<|
 qo 133 (.is 3 (.t 131) (.t 132))<|
 qo 134 (.fa 1 1 (.t 133))<|
 .prune [134,14,18,20,127,126,125,1,13,34,33,32,7,12,10,11,8,5,6,27,4]<|
 eo 135 (.load 1 false (.t 134))<|
 qo 136 (.fa 1 1 (.t 14))<|
 eo 137 (.load 1 false (.t 136))<|
 qo 138 (.cmp .neq (.t 135) (.t 137))<|
 .nil)
 (.prune [138,18,20,127,126,125,1,14,13,34,33,32,7,12,10,11,8,5,6,27,4] (.cond (.t 138)
 (.ops<|
 qo 139 (.mv (.t 18))<|
 qo 140 (.mv (.t 20))<|
 .prune [140,139,127,126,125,1,14,13,34,33,32,7,12,10,11,8,5,6,27,4]<|
 eo 141 (.bsl 3 1 1 (.int .i64 0) [(0,(.t 140))])<|
 eo 142 (.app 3 1 8 (.t 139) (.t 141))<|
 qo 18 (.mv (.t 142))<|
 .nil)
 .skip))))))
 (.prune [127,126,125,1,14,18,13,34,33,32,7,12,10,11,8,5,6,27,4] (.ops<|
 qo 143 (.ar .add (.t 127) (I 1))<|
 qo 127 (.mv (.t 143))<|
 .nil)))))))
def j8_3:JC:=
 (.prune [18,13,34,33,32,7,12,10,11,8,5,6,1,27,4] (.sel [0,1,2,5] (.ops<|
 qo 144 (.mv (.t 18))<|
 qo 145 (.mv (.t 13))<|
 eo 146 (.bsl 3 1 1 (.int .i64 0) [(0,(.t 145))])<|
 eo 147 (.app 3 1 8 (.t 144) (.t 146))<|
 qo 9 (.mv (.t 147))<|
 .nil)))
def j8_4:JC:=
 (.prune [14,10,9,11,13,34,33,32,7,12,8,5,6,1,27,4,15] (.block 6 (.seq (.ops<|
 qo 84 (.fa 0 0 (.t 14))<|
 eo 85 (.load 1 false (.t 84))<|
 qo 86 (.cmp .eql (.t 85) (I 1))<|
 qo 83 (.mv (.t 86))<|
 .nil)
 (.prune [83,10,9,11,13,34,33,32,7,12,8,5,6,1,27,4,15,14] (.cond (.t 83)
 (.vecs 9 3 1 (.seq (.seq (.ops<|
 qo 87 (.mv (.t 10))<|
 qo 88 (.nt (.t 87))<|
 qo 89 (.mv (.t 88))<|
 .prune [89,9,11,13,34,33,32,7,12,10,8,5,6,1,27,4,15,14]<|
 .sc false 93 89 (qo 90 (.mv (.t 9))<|
 qo 91 (.len (.t 90))<|
 qo 92 (.cmp .eql (.t 91) (I 1))<|
 .nil) (.t 92)<|
 qo 94 (.mv (.t 93))<|
 .sc false 101 94 (qo 95 (.mv (.t 11))<|
 qo 96 (.mv (.t 9))<|
 qo 97 (.is 1 (.t 96) (I 0))<|
 eo 98 (.load 1 false (.t 97))<|
 qo 99 (.mv (.t 13))<|
 eo 100 (.callv (.t 95) [(.t 98),(.t 99)])<|
 .nil) (.t 100)<|
 .nil)
 (.cond (.t 101)
 (.exit 3)
 .skip))
 (.prune [12,8,13,5,7,10,15,34,33,32,11,6,1,27,4,9,14] (.seq (.seq (.sel [0,1,2,3,4] (.ops<|
 qo 102 (.mv (.t 12))<|
 qo 103 (.mv (.t 8))<|
 qo 104 (.mv (.t 13))<|
 eo 105 (.callv (.t 102) [(.t 103),(.t 104)])<|
 qo 106 (.nt (.t 105))<|
 .nil))
 (.prune [106,5,13,7,10,15,34,33,32,12,11,8,6,1,27,4,9,14] (.cond (.t 106)
 (.sel [0,1,2,3,4] (.ops<|
 qo 107 (.mv (.t 5))<|
 qo 108 (.mv (.t 13))<|
 qo 109 (.mv (.t 7))<|
 qo 110 (.bld (.agg [(.int .i64 0),(.int .i64 0),(.int .i64 0)]) [([.fld 0],0,1,(.t 108)),([.fld 1],1,1,(.t 109)),([.fld 2],2,1,(I 2))])<|
 .prune [110,107,10,15,13,34,33,32,7,12,11,8,6,1,27,4,9,14]<|
 eo 111 (.bsl 32 3 1 (.agg [(.int .i64 0),(.int .i64 0),(.int .i64 0)]) [(0,(.t 110))])<|
 eo 112 (.app 32 3 24 (.t 107) (.t 111))<|
 qo 5 (.mv (.t 112))<|
 .nil))
 .skip)))
 (.prune [10,15,13,34,33,32,7,12,11,8,5,6,1,27,4,9,14] (.seq (.seq (.ops<|
 qo 113 (.mv (.t 10))<|
 qo 114 (.nt (.t 113))<|
 qo 115 (.mv (.t 114))<|
 .sc false 118 115 (qo 116 (.mv (.t 15))<|
 qo 117 (.nt (.t 116))<|
 .nil) (.t 117)<|
 .nil)
 (.prune [118,13,34,33,32,7,12,10,11,8,5,6,1,27,4,9,14] (.cond (.t 118)
 (.seq (.sel [0,1,2,5] (.ops<|
 .prune [13,34,33,32,7,12,10,11,8,5,6,1,27,4]<|
 qo 119 (.mv (.t 13))<|
 eo 120 (.bsl 3 1 1 (.int .i64 0) [(0,(.t 119))])<|
 qo 9 (.mv (.t 120))<|
 .nil))
 (.exit 3))
 .skip)))
 (.prune [10,6,9,1,14,13,34,33,32,7,12,11,8,5,27,4] (.seq (.seq (.ops<|
 qo 121 (.mv (.t 10))<|
 qo 122 (.nt (.t 121))<|
 .nil)
 (.prune [122,6,9,1,14,13,34,33,32,7,12,11,8,5,27,4,10] (.cond (.t 122)
 (.seq (.ops<|
 qo 10 (.mv (B true))<|
 .nil)
 (.prune [6,9,1,14,13,34,33,32,7,12,10,11,8,5,27,4] (.ops<|
 qo 123 (.mv (.t 6))<|
 qo 124 (.ar .add (.t 123) (I 1))<|
 qo 6 (.mv (.t 124))<|
 .nil)))
 .skip)))
 (.prune [9,1,14,13,34,33,32,7,12,10,11,8,5,6,27,4] (.seq (.ops<|
 qo 18 (.mv (.c .nils))<|
 .nil)
 (.prune [9,1,14,18,13,34,33,32,7,12,10,11,8,5,6,27,4] (.seq (.seq (.ops<|
 qo 125 (.mv (.t 9))<|
 qo 126 (.len (.t 125))<|
 qo 127 (.mv (I 0))<|
 .nil)
 (.prune [127,126,125,1,14,18,13,34,33,32,7,12,10,11,8,5,6,27,4] (.block 7 (.vecs 18 3 1 (.loop [126,125,1,14,13,34,33,32,7,12,10,11,8,5,6,27,4] [127,18] j8_2)))))
 j8_3))))))))))))
 (.seq (.ops<|
 qo 149 (.mv (.t 11))<|
 qo 150 (.mv (.t 8))<|
 qo 151 (.mv (.t 13))<|
 eo 152 (.callv (.t 149) [(.t 150),(.t 151)])<|
 qo 148 (.mv (.t 152))<|
 .nil)
 (.prune [148,34,33,32,7,9,12,10,11,8,5,6,1,27,4,13,15] (.cond (.t 148)
 .skip
 (.seq (.seq (.ops<|
 qo 63 (.mv (.t 12))<|
 qo 64 (.mv (.t 8))<|
 qo 65 (.mv (.t 13))<|
 eo 66 (.callv (.t 63) [(.t 64),(.t 65)])<|
 qo 67 (.nt (.t 66))<|
 .nil)
 (.prune [67,5,13,7,10,34,33,32,12,11,6,1,27,4,9,15] (.cond (.t 67)
 (.sel [0,1,2,3,4] (.ops<|
 qo 68 (.mv (.t 5))<|
 .prune [13,7,68,10,34,33,32,12,11,6,1,27,4,9]<|
 qo 69 (.mv (.t 13))<|
 qo 70 (.mv (.t 7))<|
 qo 71 (.bld (.agg [(.int .i64 0),(.int .i64 0),(.int .i64 0)]) [([.fld 0],0,1,(.t 69)),([.fld 1],1,1,(.t 70)),([.fld 2],2,1,(I 1))])<|
 eo 72 (.bsl 32 3 1 (.agg [(.int .i64 0),(.int .i64 0),(.int .i64 0)]) [(0,(.t 71))])<|
 eo 73 (.app 32 3 24 (.t 68) (.t 72))<|
 qo 5 (.mv (.t 73))<|
 .nil))
 (.seq (.ops<|
 qo 74 (.mv (.t 15))<|
 .nil)
 (.prune [74,5,13,7,10,34,33,32,12,11,6,1,27,4,9] (.cond (.t 74)
 (.sel [0,1,2,3,4] (.ops<|
 qo 75 (.mv (.t 5))<|
 qo 76 (.mv (.t 13))<|
 qo 77 (.mv (.t 7))<|
 qo 78 (.bld (.agg [(.int .i64 0),(.int .i64 0),(.int .i64 0)]) [([.fld 0],0,1,(.t 76)),([.fld 1],1,1,(.t 77)),([.fld 2],2,1,(I 3))])<|
 .prune [78,75,13,10,34,33,32,7,12,11,6,1,27,4,9]<|
 eo 79 (.bsl 32 3 1 (.agg [(.int .i64 0),(.int .i64 0),(.int .i64 0)]) [(0,(.t 78))])<|
 eo 80 (.app 32 3 24 (.t 75) (.t 79))<|
 qo 5 (.mv (.t 80))<|
 .nil))
 .skip))))))
 (.prune [13,10,34,33,32,7,12,11,5,6,1,27,4,9] (.seq (.ops<|
 qo 81 (.mv (.t 13))<|
 qo 8 (.mv (.t 81))<|
 .nil)
 (.prune [10,34,33,32,7,12,11,8,5,6,1,27,4,9] (.seq (.ops<|
 qo 82 (.mv (.t 10))<|
 .nil)
 (.prune [82,34,33,32,7,12,11,8,5,6,1,27,4,9,10] (.cond (.t 82)
 (.ops<|
 qo 9 (.mv (.c .nils))<|
 qo 10 (.mv (B false))<|
 .nil)
 .skip)))))))))))))))
def j8_5:JC:=
 (.prune [34,33,32,7,9,12,10,11,8,5,6,1,27,4] (.ops<|
 qo 153 (.ar .add (.t 34) (I 1))<|
 qo 34 (.mv (.t 153))<|
 .nil))
def j8_6:JC:=
 (.seq (.ops<|
 qo 35 (.cmp .lss (.t 34) (.t 33))<|
 .nil)
 (.prune [35,34,32,7,33,9,12,10,11,8,5,6,1,27,4] (.seq (.cond (.t 35)
 .skip
 (.exit 2))
 (.prune [34,32,7,33,9,12,10,11,8,5,6,1,27,4] (.seq (.block 3 (.seq (.ops<|
 qo 36 (.mv (.t 34))<|
 qo 37 (.is 3 (.t 32) (.t 34))<|
 eo 38 (.load 3 true (.t 37))<|
 eo 14 (.alloc 59 (.agg [(.int .i64 0),(.int .i64 0),(.int .i64 0)]))<|
 qo 13 (.mv (.t 36))<|
 en (.store 3 (.t 14) (.t 38))<|
 .nil)
 (.prune [14,7,34,33,32,9,12,10,11,8,5,6,1,27,4,13] (.seq (.seq (.ops<|
 qo 39 (.fa 0 0 (.t 14))<|
 eo 40 (.load 1 false (.t 39))<|
 qo 41 (.cmp .gtr (.t 40) (I 2))<|
 qo 42 (.mv (.t 41))<|
 .prune [42,14,7,34,33,32,9,12,10,11,8,5,6,1,27,4,13]<|
 .sc true 47 42 (qo 43 (.fa 2 2 (.t 14))<|
 eo 44 (.load 1 false (.t 43))<|
 qo 45 (.mv (.t 7))<|
 qo 46 (.cmp .neq (.t 44) (.t 45))<|
 .nil) (.t 46)<|
 .nil)
 (.cond (.t 47)
 (.exit 3)
 .skip))
 (.prune [9,12,13,14,10,11,34,33,32,7,8,5,6,1,27,4] (.seq (.ops<|
 qo 15 (.mv (B false))<|
 .nil)
 (.prune [9,15,12,13,14,10,11,34,33,32,7,8,5,6,1,27,4] (.seq (.seq (.ops<|
 qo 48 (.mv (.t 9))<|
 qo 49 (.len (.t 48))<|
 qo 50 (.mv (I 0))<|
 .nil)
 (.prune [50,49,48,15,12,13,14,10,9,11,34,33,32,7,8,5,6,1,27,4] (.block 4 (.loop [49,48,12,13,14,10,9,11,34,33,32,7,8,5,6,1,27,4] [50,15] j8_1))))
 j8_4))))))))
 j8_5)))))
def j8_7:JC:=
 (.prune [27,1,4,5,6] (.ops<|
 qo 154 (.ar .add (.t 27) (I 1))<|
 qo 27 (.mv (.t 154))<|
 .nil))
def j8_8:JC:=
 (.seq (.ops<|
 qo 28 (.cmp .lss (.t 27) (I 8))<|
 .nil)
 (.seq (.cond (.t 28)
 .skip
 (.exit 0))
 (.seq (.block 1 (.seq (.ops<|
 qo 29 (.mv (.t 27))<|
 qo 7 (.mv (.t 29))<|
 .nil)
 (.seq (.ops<|
 qo 8 (.mv (I (-1)))<|
 qo 9 (.mv (.c .nils))<|
 qo 10 (.mv (B false))<|
 .nil)
 (.prune [1,4,7,9,10,8,5,6,27] (.seq (.ops<|
 qo 30 (.mkfn 27 [(.t 1)])<|
 qo 11 (.mv (.t 30))<|
 .nil)
 (.prune [4,1,7,9,10,11,8,5,6,27] (.seq (.ops<|
 qo 31 (.mkfn 28 [(.t 4)])<|
 qo 12 (.mv (.t 31))<|
 .nil)
 (.prune [1,7,9,12,10,11,8,5,6,27,4] (.seq (.ops<|
 eo 32 (.load 1 false (.t 1))<|
 qo 33 (.len (.t 32))<|
 qo 34 (.mv (I 0))<|
 .nil)
 (.prune [34,33,32,7,9,12,10,11,8,5,6,1,27,4] (.block 2 (.vecs 9 3 1 (.vecs 5 32 3 (.loop [33,32,7,12,11,1,27,4] [34,9,10,8,5,6] j8_6))))))))))))))
 j8_7)))
def j8_9:JC:=
 (.seq (.ops<|
 qo 163 (.cmp .lss (.t 162) (.t 161))<|
 .nil)
 (.prune [163,160,162,22,21,161,157,156,5,6] (.seq (.cond (.t 163)
 .skip
 (.exit 11))
 (.prune [160,162,22,21,161,157,156,5,6] (.seq (.block 12 (.seq (.ops<|
 qo 164 (.is 3 (.t 160) (.t 162))<|
 eo 165 (.load 3 true (.t 164))<|
 eo 24 (.alloc 32 (.agg [(.int .i64 0),(.int .i64 0),(.int .i64 0)]))<|
 en (.store 3 (.t 24) (.t 165))<|
 .nil)
 (.prune [24,22,21,162,161,160,157,156,5,6] (.seq (.ops<|
 qo 166 (.fa 0 0 (.t 24))<|
 eo 167 (.load 1 false (.t 166))<|
 qo 168 (.mv (.t 22))<|
 qo 169 (.cmp .eql (.t 167) (.t 168))<|
 .nil)
 (.prune [169,21,24,162,161,160,22,157,156,5,6] (.cond (.t 169)
 (.ops<|
 qo 170 (.mv (.t 21))<|
 eo 171 (.load 3 true (.t 24))<|
 .prune [171,170,162,161,160,22,157,156,5,6]<|
 eo 172 (.bsl 32 3 1 (.agg [(.int .i64 0),(.int .i64 0),(.int .i64 0)]) [(0,(.t 171))])<|
 eo 173 (.app 32 3 24 (.t 170) (.t 172))<|
 qo 21 (.mv (.t 173))<|
 .nil)
 .skip))))))
 (.prune [162,161,160,22,21,157,156,5,6] (.ops<|
 qo 174 (.ar .add (.t 162) (I 1))<|
 qo 162 (.mv (.t 174))<|
 .nil)))))))
def j8_10:JC:=
 (.prune [157,156,5,21,6] (.ops<|
 qo 175 (.ar .add (.t 157) (I 1))<|
 qo 157 (.mv (.t 175))<|
 .nil))
def j8_11:JC:=
 (.seq (.ops<|
 qo 158 (.cmp .lss (.t 157) (.t 156))<|
 .nil)
 (.seq (.cond (.t 158)
 .skip
 (.exit 9))
 (.seq (.block 10 (.seq (.ops<|
 qo 159 (.mv (.t 157))<|
 qo 22 (.mv (.t 159))<|
 .nil)
 (.seq (.ops<|
 qo 160 (.mv (.t 5))<|
 qo 161 (.len (.t 160))<|
 qo 162 (.mv (I 0))<|
 .nil)
 (.prune [162,161,160,22,21,157,156,5,6] (.block 11 (.vecs 21 32 3 (.loop [161,160,22,157,156,5,6] [162,21] j8_9)))))))
 j8_10)))
def j8_12:JC:=
 (.prune [21,6] (.seq (.ops<|
 qo 176 (.mv (.t 21))<|
 qo 177 (.mv (.t 6))<|
 qo 2 (.mv (.t 176))<|
 qo 3 (.mv (.t 177))<|
 .nil)
 (.vecs 2 32 3 (.vecs 2 32 3 .ret))))
def j8_13:JC:=
 (.prune [1,5,6] (.seq (.ops<|
 qo 21 (.mv (.c .nils))<|
 .nil)
 (.seq (.seq (.ops<|
 eo 155 (.load 1 false (.t 1))<|
 qo 156 (.len (.t 155))<|
 qo 157 (.mv (I 0))<|
 .nil)
 (.block 9 (.vecs 21 32 3 (.loop [156,5,6] [157,21] j8_11))))
 j8_12)))
def j8:JC:=
 (.seq (.ops<|
 eo 1 (.box 22 (.t 0))<|
 qo 2 (.mv (.c .nils))<|
 qo 3 (.mv (I 0))<|
 .nil)
 (.seq (.ops<|
 eo 25 (.load 1 false (.t 1))<|
 eo 26 (.call 26 [(.t 25)])<|
 eo 4 (.alloc 72 .nils)<|
 en (.store 1 (.t 4) (.t 26))<|
 .nil)
 (.seq (.ops<|
 qo 5 (.mv (.c .nils))<|
 .nil)
 (.seq (.ops<|
 qo 6 (.mv (I 0))<|
 .nil)
 (.seq (.seq (.ops<|
 qo 27 (.mv (I 0))<|
 .nil)
 (.prune [27,1,4,5,6] (.block 0 (.vecs 5 32 3 (.loop [1,4] [27,5,6] j8_8)))))
 j8_13)))))
theorem c8:fnIs Try.prog qall 8=some (j8.flat,[.tmp 2, .tmp 3],178):=by kernel_rfl
theorem w8:j8.wf 178=true:=by kernel_rfl
def Gfa (f:FuncId) (a:List SV) (m:List Res):Sx.Call:=(FH.pz 26 (.one dEs) (.one dRows) (fun y=>y.1.length≤1000) (fun y=>rowsOf y.1.length (aheadR y.1))<|
 FH.rd 27 (.three .int .int dEsR) (.one .bool) (fun y=>y.2.2.1.length≤1000∧y.1<y.2.1∧0≤y.2.1∧y.2.1<y.2.2.1.length) (fun y=>epW y.2.2.1 y.1 y.2.1.toNat)<|
 FH.rd 28 (.three .int .int dRwR) (.one .bool) (fun y=>y.1<y.2.1∧0≤y.2.1∧y.2.1<y.2.2.1.length∧∃ M,y.2.2.1=rowsOf y.2.2.1.length M) (fun y=>decide (y.1<0)||(y.2.2.1.getD y.1.toNat []).getD y.2.1.toNat false) FH.none) f a m
theorem Gfa_eq (f:FuncId) (a:List SV) (m:List Res):Gfa f a m=(FH.pz 26 (.one dEs) (.one dRows) (fun y=>y.1.length≤1000) (fun y=>rowsOf y.1.length (aheadR y.1))<|
 FH.rd 27 (.three .int .int dEsR) (.one .bool) (fun y=>y.2.2.1.length≤1000∧y.1<y.2.1∧0≤y.2.1∧y.2.1<y.2.2.1.length) (fun y=>epW y.2.2.1 y.1 y.2.1.toNat)<|
 FH.rd 28 (.three .int .int dRwR) (.one .bool) (fun y=>y.1<y.2.1∧0≤y.2.1∧y.2.1<y.2.2.1.length∧∃ M,y.2.2.1=rowsOf y.2.2.1.length M) (fun y=>decide (y.1<0)||(y.2.2.1.getD y.1.toNat []).getD y.2.1.toNat false) FH.none) f a m:=nr rfl
theorem Gfa_ok:FHOK Try.prog main Fz Gfa:=FH.pz_ok (by kernel_rfl) (fun y h=>f_RAhead y.1 h)<|
 FH.rd_ok (by kernel_rfl) (fun y h=>by
  obtain ⟨i,j,l,_⟩:=y
  obtain ⟨h1,h2,h3,h4⟩:=h
  simp only at h1 h2 h3 h4
  obtain ⟨j,rfl⟩:∃ n:Nat,j=n:=⟨j.toNat,by omega⟩
  exact f_F1 l i j h1 h2 (by omega))<|
 FH.rd_ok (by kernel_rfl) (fun y h=>by
  obtain ⟨i,j,R,_⟩:=y
  obtain ⟨h2,h3,h4,M,h5⟩:=h
  simp only at h2 h3 h4 h5
  obtain ⟨j,rfl⟩:∃ n:Nat,j=n:=⟨j.toNat,by omega⟩
  have hb:(decide (i<0)||(R.getD i.toNat []).getD ((j:Int)).toNat false)=(decide (i<0)||M i.toNat j):=by
   by_cases hi:i<0
   ·simp [hi]
   ·congr 1
    rw [h5,Int.toNat_natCast,rows_at (by omega) (by omega)]
  have:=f_F2 (main:=main) (Fz:=Fz) R.length M i j (by omega) (by omega)
  rw [← h5,← hb] at this
  exact this) FH.none_ok
theorem fEnd {l:List Ev} {x j:Nat} {sv fv:SV} {mn:Bool} {wr S':Int} {R1 R2 r3 r4:Res} {st':FS} {F1:List Fl} {S1:Nat} (hj:j<l.length) (b:Bool) (L:List Int) (hst:FSr l x (j+1)=st') (hfl:flT l x (j+1)=F1) (hsl:slT l x (j+1)=S1)
  (h1:b=true→L=rI st':=by first|exact fun _=>rfl|(intro h;cases h;done)|(intro _;simp [rI,rsF])) (h2:b=false→st'.rds=[]∧st'.mn=false:=by first|(intro h;cases h;done)|exact fun _=>⟨rfl,rfl⟩|exact fun _=>⟨by assumption,by first|rfl|assumption⟩)
  (e1:sv=if b=true then .vec 3 L.length else .nils:=by first|rfl|(rw [if_pos rfl,rI_len])|(rw [if_pos rfl,List.length_append];rfl)) (e2:mn=st'.mn:=by first|rfl|simp [*]) (e3:wr=st'.wr:=by rfl) (e4:fv= .vec 2 F1.length:=by first|rfl|(rw [List.length_append];rfl)) (e5:S'=(S1:Int):=by first|rfl|assumption)
  (e6:r3= .vec 32 3 (F1.map dFl.emb):=by first|rfl|(rw [List.map_append];rfl)|simp only [*]) (e7:r4= .vec 3 1 (L.map DT.int.emb):=by first|rfl|(rw [List.map_append];rfl)):
  ∃ p:Nat×Bool×List Int,(p.1≤l.length∧(p.2.1=true→p.2.2=rI (FSr l x p.1))∧(p.2.1=false→(FSr l x p.1).rds=[]∧(FSr l x p.1).mn=false))∧l.length - p.1<l.length - j∧
   (((j+1:Nat):Int)=p.1∧(sv=if p.2.1=true then .vec 3 p.2.2.length else .nils)∧mn=(FSr l x p.1).mn∧wr=(FSr l x p.1).wr∧fv= .vec 2 (flT l x p.1).length∧S'=(slT l x p.1:Int))∧
   [R1,R2,r3,r4]=[R1,R2, .vec 32 3 ((flT l x p.1).map dFl.emb), .vec 3 1 (p.2.2.map DT.int.emb)]:=by
 subst hst hfl hsl e6 e7
 exact ⟨(j+1,b,L),⟨hj,h1,h2⟩,by show l.length - (j+1)<l.length - j;omega,⟨rfl,e1,e2,e3,e4,e5⟩,rfl⟩
theorem ep_not {l:List Ev} {s:FS} {j:Nat} (hm:s.mn=false) (hn:s.rds.length=1) (hsa:¬ sameB l s j):epW l ((s.rds.getD 0 0:Nat):Int) j=false:=by
 rw [epW,Int.toNat_natCast]
 cases h:epB l (s.rds.getD 0 0) j with
 |false=>rw [Bool.and_false]
 |true=>exact absurd ⟨hm,hn,h⟩ hsa
set_option maxHeartbeats 4000000 in
theorem f_RFast (l:List Ev) (hok:(checkR l).2=0):FnOK Try.prog main Fz 8 [dEs.emb l] [] (.tup [.vec 0 (outA l (flA l 8) l.length).length, .int .i64 (slA l 8)]) [.vec 32 3 ((outA l (flA l 8) l.length).map dFl.emb)]:=by
 have hl:=ok_len hok
 refine fn_walkF c8 w8 Gfa_ok rfl ?_
 unfold j8
 simp only [go_sem,seval,Gfa_eq]
 refine ⟨by omega,?_⟩
 refine loopF Nat (fun x=>[.int .i64 x, .vec 2 (flA l x).length, .int .i64 (slA l x)]) (fun x=>[.blk 22 (dEs.emb l), .blk 72 (dRows.emb (rowsOf l.length (aheadR l))), .vec 32 3 ((flA l x).map dFl.emb)]) (fun x=>x≤8) (fun x=>8 - x) 0 (by omega) ?_ rfl ?_
 ·simp only [go_sem,seval]
  exact ⟨rfl,rfl⟩
 intro x hx
 have hA:=flA_len (l:=l) x
 have hA8:x*l.length≤8*80:=Nat.mul_le_mul hx (by omega)
 have hsA:=slA_le (l:=l) x
 by_cases h1:x<8
 ·have h1':(x:Int)<8:=by omega
  have hwx:IntKind.i64.wrap ((x:Int)+1)=((x+1:Nat):Int):=IntWalk.i64_in _ (by omega)
  unfold j8_8
  simp only [go_sem,seval,Gfa_eq,h1',hwx]
  refine loopF (Nat×Bool×List Int) (fun p=>[.int .i64 p.1,if p.2.1=true then .vec 3 p.2.2.length else .nils, .bool (FSr l x p.1).mn, .int .i64 (FSr l x p.1).wr, .vec 2 (flT l x p.1).length, .int .i64 (slT l x p.1)]) (fun p=>[.blk 22 (dEs.emb l), .blk 72 (dRows.emb (rowsOf l.length (aheadR l))), .vec 32 3 ((flT l x p.1).map dFl.emb), .vec 3 1 (p.2.2.map DT.int.emb)]) (fun p=>p.1≤l.length∧(p.2.1=true→p.2.2=rI (FSr l x p.1))∧(p.2.1=false→(FSr l x p.1).rds=[]∧(FSr l x p.1).mn=false)) (fun p=>l.length - p.1) (0,true,[]) ⟨Nat.zero_le _,fun _=>rfl,fun h=>by cases h⟩ ?_ ?_ ?_
  ·simp only [go_sem,seval]
   refine ⟨rfl,rfl,by simp [flT,flW],by simp [slT,slW]⟩
  ·simp [flT,flW]
   exact ⟨rfl,rfl⟩
  intro ⟨j,b,L⟩ ⟨hj,hb1,hb2⟩
  simp only at hj hb1 hb2
  by_cases h2:j<l.length
  ·have h2':(j:Int)<l.length:=by omega
   have hwj:IntKind.i64.wrap ((j:Int)+1)=((j+1:Nat):Int):=IntWalk.i64_in _ (by omega)
   obtain ⟨g1,g2,g3,g4⟩:=FSr_ok (l:=l) (x:=x) j
   have hF:=flW_len (l:=l) (x:=x) j
   have hS:=slW_le (l:=l) (x:=x) j
   have hst:FSr l x (j+1)=stF l x (FSr l x j) j:=rfl
   have hFl:(flT l x j).length≤640+j:=by rw [flT,List.length_append];omega
   have hSl:slT l x j≤640+j:=by rw [slT];omega
   have hfl:flT l x (j+1)=flT l x j++if fkF l x (FSr l x j) j=0 then [] else [⟨j,x,fkF l x (FSr l x j) j⟩]:=(List.append_assoc _ _ _).symm
   have hsl:slT l x (j+1)=slT l x j+slF l x (FSr l x j) j:=(Nat.add_assoc _ _ _).symm
   generalize FSr l x j=s at*
   generalize flT l x j=F at*
   generalize slT l x j=S at*
   have hrl:=rows_len (n:=l.length) (M:=aheadR l)
   have hwS:IntKind.i64.wrap ((S:Int)+1)=((S+1:Nat):Int):=IntWalk.i64_in _ (by omega)
   by_cases hsk:skipB l x j
   ·have hsk':(decide (2< (l.getD j dEv.dft).kind)|| !decide ((l.getD j dEv.dft).obj=(x:Int)))=true:=by
     have:(decide (2< (at' l j).kind)|| !decide ((at' l j).obj=(x:Int)))=true:=by simpa [skipB] using hsk
     exact this
    simp only [stF,fkF,slF,hsk,and_self,and_true,and_false,false_and,List.append_nil,Nat.add_zero,seval] at hst hfl hsl
    unfold j8_6
    cases b with
    |false=>
     obtain ⟨hb2,hm⟩:=hb2 rfl
     simp only [go_sem,seval,Gfa_eq,h2,h2',hwj,hsk',rI_len]
     unfold j8_5
     simp only [go_sem,seval,hwj]
     exact ⟨by omega,fEnd h2 false L hst hfl hsl⟩
    |true=>
     obtain rfl:L=rI s:=hb1 rfl
     simp only [go_sem,seval,Gfa_eq,h2,h2',hwj,hsk',rI_len]
     unfold j8_5
     simp only [go_sem,seval,hwj]
     exact ⟨by omega,fEnd h2 true _ hst hfl hsl⟩
   have hsk':(decide (2< (l.getD j dEv.dft).kind)|| !decide ((l.getD j dEv.dft).obj=(x:Int)))=false:=by
    have:(decide (2< (at' l j).kind)|| !decide ((at' l j).obj=(x:Int)))=false:=by simpa [skipB] using hsk
    exact this
   have hk12:(l.getD j dEv.dft).kind=1∨(l.getD j dEv.dft).kind=2:=by
    have h:=kind_ok hok h2
    have h':¬ 2< (l.getD j dEv.dft).kind:=fun h=>hsk (.inl h)
    have h:1≤(l.getD j dEv.dft).kind∧_:=h
    omega
   have hkw:(decide (s.wr<0)||((rowsOf l.length (aheadR l)).getD s.wr.toNat []).getD j false)=knW l s.wr j:=by
    rw [knW]
    by_cases hw:s.wr<0
    ·rw [decide_eq_true hw];rfl
    ·rw [rows_at (by omega) h2]
   unfold j8_6
   cases b with
   |false=>
    obtain ⟨hb2,hm⟩:=hb2 rfl
    have hla:lateB l s.rds j=false:=by rw [hb2];rfl
    simp only [go_sem,seval,Gfa_eq,h2,h2',hwj,hsk',rI_len]
    refine ⟨by omega,?_⟩
    refine loopF Nat (fun k=>[.int .i64 0, .bool false]) (fun k=>[.blk 22 (dEs.emb l), .blk 72 (dRows.emb (rowsOf l.length (aheadR l))), .vec 32 3 (F.map dFl.emb), .vec 3 1 (L.map DT.int.emb), .blk 59 (dEv.emb (l.getD j dEv.dft))]) (fun k=>True) (fun k=>0) 0 trivial ?_ rfl ?_
    ·simp only [go_sem,seval]
    intro k _
    unfold j8_1
    simp only [go_sem,seval,rI_len]
    unfold j8_4
    unfold j8_5
    rcases hk12 with k1|k2
    ·have k1':(at' l j).kind=1:=k1
     have hsa:¬ sameB l s j:=fun h=>by have:=h.2.1;rw [hb2] at this;cases this
     cases hk:knW l s.wr j<;>simp only [stF,fkF,slF,hsk,k1',hsa,hm,hla,hk,and_self,and_true,and_false,false_and,List.append_nil,Nat.add_zero,seval] at hst hfl hsl<;>simp only [go_sem,seval,Gfa_eq,hwj,hrl,h2,rI_len,hkw,k1,hm,hk]
     ·exact ⟨⟨by omega,by omega,by omega,_,rfl⟩,by omega,fEnd h2 true [(j:Int)] hst hfl hsl⟩
     ·exact ⟨⟨by omega,by omega,by omega,_,rfl⟩,fEnd h2 true [(j:Int)] hst hfl hsl⟩
    ·have k1:¬ (l.getD j dEv.dft).kind=1:=by omega
     have k1':¬ (at' l j).kind=1:=k1
     cases hep:epW l s.wr j with
     |true=>
      simp only [stF,fkF,slF,hsk,k1',hep,and_self,and_true,and_false,false_and,List.append_nil,Nat.add_zero,seval] at hst hfl hsl
      simp only [go_sem,seval,Gfa_eq,hwj,hrl,h2,rI_len,hkw,k1,hep]
      exact ⟨⟨by omega,by omega,by omega,by omega⟩,fEnd h2 false L hst hfl hsl⟩
     |false=>
      cases hk:knW l s.wr j<;>simp only [stF,fkF,slF,hsk,k1',hm,hla,hk,hep,and_self,and_true,and_false,false_and,List.append_nil,Nat.add_zero,seval] at hst hfl hsl<;>simp only [go_sem,seval,Gfa_eq,hwj,hrl,h2,rI_len,hkw,k1,hep,hk,hm]
      ·exact ⟨⟨by omega,by omega,by omega,by omega⟩,⟨by omega,by omega,by omega,_,rfl⟩,by omega,fEnd h2 false L hst hfl hsl⟩
      ·exact ⟨⟨by omega,by omega,by omega,by omega⟩,⟨by omega,by omega,by omega,_,rfl⟩,fEnd h2 false L hst hfl hsl⟩
   |true=>
    obtain rfl:L=rI s:=hb1 rfl
    simp only [go_sem,seval,Gfa_eq,h2,h2',hwj,hsk',rI_len]
    refine ⟨by omega,?_⟩
    refine loopF Nat (fun k=>[.int .i64 k, .bool ((s.rds.take k).any fun i=> !aheadR l i j)]) (fun k=>[.blk 22 (dEs.emb l), .blk 72 (dRows.emb (rowsOf l.length (aheadR l))), .vec 32 3 (F.map dFl.emb), .vec 3 1 ((rI s).map DT.int.emb), .blk 59 (dEv.emb (l.getD j dEv.dft))]) (fun k=>k≤s.rds.length) (fun k=>s.rds.length - k) 0 (by omega) ?_ rfl ?_
    ·simp only [go_sem,seval]
     rfl
    intro k hk
    by_cases h3:k<s.rds.length
    ·have h3':(k:Int)<s.rds.length:=by omega
     have hwk:IntKind.i64.wrap ((k:Int)+1)=((k+1:Nat):Int):=IntWalk.i64_in _ (by omega)
     have hr:=rI_get h3
     have hr2:s.rds.getD k 0<j:=g3 _ (by simp [List.getD,h3])
     have hat:=rows_at (M:=aheadR l) (show s.rds.getD k 0<l.length by omega) h2
     have hlt:¬ ((s.rds.getD k 0:Nat):Int)<0:=by omega
     unfold j8_1
     simp only [go_sem,seval,Gfa_eq,h3,h3',hwk,hr,hat,hrl,hlt,h2,rI_len]
     exact ⟨by omega,fun _=>⟨by omega,by omega,by omega,_,rfl⟩,k+1,by omega,by omega,rfl,by rw [List.take_add_one,List.any_append,List.getElem?_eq_getElem h3];simp [List.getD,h3]⟩
    have h3':¬ (k:Int)<s.rds.length:=by omega
    have e:k=s.rds.length:=by omega
    subst e
    unfold j8_1
    simp only [go_sem,seval,h3',List.take_length,rI_len]
    unfold j8_4
    unfold j8_5
    have hal:(s.rds.any fun i=> !aheadR l i j)=lateB l s.rds j:=rfl
    rcases hk12 with k1|k2
    ·have k1':(at' l j).kind=1:=k1
     have hevk:dEv.emb (l.getD j dEv.dft)= .agg [.int .i64 1, .int .i64 (l.getD j dEv.dft).thr, .int .i64 (l.getD j dEv.dft).obj]:=by rw [← k1];rfl
     by_cases hsa:sameB l s j
     ·obtain ⟨hm,hn,he⟩:=id hsa
      have hr:=rI_get (s:=s) (k:=0) (by omega)
      have he':epW l ((s.rds.getD 0 0:Nat):Int) j=true:=by
       rw [epW,Int.toNat_natCast,he];simp
      have hr2:s.rds.getD 0 0<j:=g3 _ (by simp [List.getD,show 0<s.rds.length by omega])
      simp only [stF,fkF,slF,hsk,k1',hsa,and_self,and_true,and_false,false_and,List.append_nil,Nat.add_zero,seval] at hst hfl hsl
      simp only [go_sem,seval,Gfa_eq,hwj,hrl,h2,rI_len,hkw,k1,hm,hn,hr,he',hal]
      exact ⟨⟨by omega,by omega,by omega,by omega⟩,fEnd h2 true _ hst hfl hsl (e1:=by rw [if_pos rfl,rI_len,hn])⟩
     by_cases hlm:s.mn=false∧lateB l s.rds j=false
     ·obtain ⟨hm,hla⟩:=hlm
      by_cases hn:s.rds.length=1
      ·have hr:=rI_get (s:=s) (k:=0) (by omega)
       have he':=ep_not hm hn hsa
       have hr2:s.rds.getD 0 0<j:=g3 _ (by simp [List.getD,show 0<s.rds.length by omega])
       cases hk:knW l s.wr j<;>simp only [stF,fkF,slF,hsk,k1',hsa,hm,hla,hk,and_self,and_true,and_false,false_and,List.append_nil,Nat.add_zero,seval] at hst hfl hsl<;>simp only [go_sem,seval,Gfa_eq,hwj,hrl,h2,rI_len,hkw,k1,hm,hk,hn,hr,he',hal,hla]
       ·exact ⟨⟨by omega,by omega,by omega,by omega⟩,⟨by omega,by omega,by omega,_,rfl⟩,by omega,fEnd h2 true [(j:Int)] hst hfl hsl⟩
       ·exact ⟨⟨by omega,by omega,by omega,by omega⟩,⟨by omega,by omega,by omega,_,rfl⟩,fEnd h2 true [(j:Int)] hst hfl hsl⟩
      ·have hn':¬ (s.rds.length:Int)=1:=by omega
       cases hk:knW l s.wr j<;>simp only [stF,fkF,slF,hsk,k1',hsa,hm,hla,hk,and_self,and_true,and_false,false_and,List.append_nil,Nat.add_zero,seval] at hst hfl hsl<;>simp only [go_sem,seval,Gfa_eq,hwj,hrl,h2,rI_len,hkw,k1,hm,hk,hn',hal,hla]
       ·exact ⟨⟨by omega,by omega,by omega,_,rfl⟩,by omega,fEnd h2 true [(j:Int)] hst hfl hsl⟩
       ·exact ⟨⟨by omega,by omega,by omega,_,rfl⟩,fEnd h2 true [(j:Int)] hst hfl hsl⟩
     have hD:s.mn=true∨(s.mn=false∧lateB l s.rds j=true)∧s.rds.length=1∨(s.mn=false∧lateB l s.rds j=true)∧¬ (s.rds.length:Int)=1:=by
      cases hm:s.mn
      ·cases hla:lateB l s.rds j
       ·exact absurd ⟨hm,hla⟩ hlm
       ·by_cases hn:s.rds.length=1
        ·exact .inr (.inl ⟨⟨rfl,rfl⟩,hn⟩)
        ·exact .inr (.inr ⟨⟨rfl,rfl⟩,by omega⟩)
      ·exact .inl rfl
     rcases hD with hm|⟨⟨hm,hla⟩,hn⟩|⟨⟨hm,hla⟩,hn⟩
     case' inl=>
      cases hk:knW l s.wr j<;>simp only [stF,fkF,slF,hsk,k1',hsa,hm,hk,and_self,and_true,and_false,false_and,List.append_nil,Nat.add_zero,seval] at hst hfl hsl<;>simp only [go_sem,seval,Gfa_eq,hwj,hrl,h2,rI_len,hkw,k1,hm,hk,hal]
      case' false=>refine ⟨⟨by omega,by omega,by omega,_,rfl⟩,by omega,?_⟩
      case' true=>refine ⟨⟨by omega,by omega,by omega,_,rfl⟩,?_⟩
     case' inr.inl=>
      have h0:(0:Int)<s.rds.length:=by omega
      have hd:decide ((s.rds.length:Int)=1)=true:=by rw [hn];rfl
      have hr:=rI_get (s:=s) (k:=0) (by omega)
      have he':=ep_not hm hn hsa
      have hr2:s.rds.getD 0 0<j:=g3 _ (by simp [List.getD,show 0<s.rds.length by omega])
      cases hk:knW l s.wr j<;>simp only [stF,fkF,slF,hsk,k1',hsa,hm,hla,hk,and_self,and_true,and_false,false_and,List.append_nil,Nat.add_zero,seval] at hst hfl hsl<;>simp only [go_sem,seval,Gfa_eq,hwj,hrl,h2,rI_len,hkw,k1,hm,hk,hd,h0,hr,he',hal,hla]
      case' false=>refine ⟨⟨by omega,by omega,by omega,by omega⟩,⟨by omega,by omega,by omega,_,rfl⟩,by omega,?_⟩
      case' true=>refine ⟨⟨by omega,by omega,by omega,by omega⟩,⟨by omega,by omega,by omega,_,rfl⟩,?_⟩
     case' inr.inr=>
      cases hk:knW l s.wr j<;>simp only [stF,fkF,slF,hsk,k1',hsa,hm,hla,hk,and_self,and_true,and_false,false_and,List.append_nil,Nat.add_zero,seval] at hst hfl hsl<;>simp only [go_sem,seval,Gfa_eq,hwj,hrl,h2,rI_len,hkw,k1,hm,hk,hn,hal,hla]
      case' false=>refine ⟨⟨by omega,by omega,by omega,_,rfl⟩,by omega,?_⟩
      case' true=>refine ⟨⟨by omega,by omega,by omega,_,rfl⟩,?_⟩
     all_goals
      refine loopF Nat (fun k=>[.int .i64 k, .vec 5 (rsF l s.rds j k).length]) (fun k=>[.blk 22 (dEs.emb l), .blk 72 (dRows.emb (rowsOf l.length (aheadR l))), .vec 32 3 ((flT l x (j+1)).map dFl.emb), .vec 3 1 ((rI s).map DT.int.emb), .blk 59 (dEv.emb (l.getD j dEv.dft)), .vec 3 1 ((rsF l s.rds j k).map DT.int.emb)]) (fun k=>k≤s.rds.length) (fun k=>s.rds.length - k) 0 (by omega) ?_ ?_ ?_
      ·simp only [go_sem,seval]
       rfl
      ·rw [hfl]
       first|(rw [hevk];rfl)|(rw [hevk,List.map_append];rfl)
      intro k hk
      by_cases h4:k<s.rds.length
      ·have h4':(k:Int)<s.rds.length:=by omega
       have hwk:IntKind.i64.wrap ((k:Int)+1)=((k+1:Nat):Int):=IntWalk.i64_in _ (by omega)
       have hr:=rI_get h4
       have hr2:s.rds.getD k 0<j:=g3 _ (by simp [List.getD,h4])
       have hr3:s.rds.getD k 0<l.length:=by omega
       have hrs:=rsF_len (l:=l) (rds:=s.rds) (j:=j) k
       unfold j8_2
       simp only [go_sem,seval,Gfa_eq,h4,h4',hwk,hr,hr3,h2,rI_len]
       refine ⟨by omega,⟨by omega,by omega⟩,fun q=>⟨by omega,k+1,by omega,by omega,⟨rfl,by rw [rsF_ne h4 q,List.length_append];rfl⟩,by rw [rsF_ne h4 q,List.map_append];rfl⟩,fun q=>⟨k+1,by omega,by omega,⟨rfl,by rw [rsF_eq h4 q]⟩,by rw [rsF_eq h4 q]⟩⟩
      have h4':¬ (k:Int)<s.rds.length:=by omega
      have e:k=s.rds.length:=by omega
      subst e
      have hrs:=rsF_len (l:=l) (rds:=s.rds) (j:=j) s.rds.length
      unfold j8_2
      simp only [go_sem,seval,h4',rI_len]
      unfold j8_3
      simp only [go_sem,seval,hwj]
      exact ⟨by omega,fEnd h2 true (rsF l s.rds j s.rds.length++[(j:Int)]) hst hfl hsl⟩
    ·have k1:¬ (l.getD j dEv.dft).kind=1:=by omega
     have k1':¬ (at' l j).kind=1:=k1
     cases hep:epW l s.wr j with
     |true=>
      simp only [stF,fkF,slF,hsk,k1',hep,and_self,and_true,and_false,false_and,List.append_nil,Nat.add_zero,seval] at hst hfl hsl
      simp only [go_sem,seval,Gfa_eq,hwj,hrl,h2,rI_len,hkw,k1,hep,hal]
      exact ⟨⟨by omega,by omega,by omega,by omega⟩,fEnd h2 true _ hst hfl hsl⟩
     |false=>
      cases hk:knW l s.wr j<;>try cases hla:lateB l s.rds j
      all_goals
       cases hm:s.mn<;>simp only [stF,fkF,slF,hsk,k1',hm,hk,hep,and_self,and_true,and_false,false_and,List.append_nil,Nat.add_zero,seval] at hst hfl hsl
       all_goals
        try simp only [hla,and_self,and_true,and_false,false_and,List.append_nil,Nat.add_zero,seval] at hst hfl hsl
        simp only [go_sem,seval,Gfa_eq,hwj,hrl,h2,rI_len,hkw,k1,hep,hk,hm,hal]
        try simp only [go_sem,seval,hla]
        refine ⟨⟨by omega,by omega,by omega,by omega⟩,⟨by omega,by omega,by omega,_,rfl⟩,?_⟩
        try refine ⟨show (_:Nat)*24≤_ by omega,?_⟩
       ·exact fEnd h2 true (rI s) hst hfl hsl
       ·exact fEnd h2 false (rI s) hst hfl hsl
  ·have h2':¬ (j:Int)<l.length:=by omega
   have e:j=l.length:=by omega
   subst e
   unfold j8_6
   simp only [go_sem,seval,h2']
   unfold j8_7
   simp only [go_sem,seval,hwx]
   exact ⟨x+1,by omega,by omega,⟨rfl,rfl,rfl⟩,rfl⟩
 ·have h1':¬ (x:Int)<8:=by omega
  have e:x=8:=by omega
  subst e
  unfold j8_8
  simp only [go_sem,seval]
  unfold j8_13
  simp only [go_sem,seval]
  generalize flA l 8=F at*
  refine loopF Nat (fun j=>[.int .i64 j, .vec 3 (outA l F j).length]) (fun j=>[.blk 22 (dEs.emb l), .blk 72 (dRows.emb (rowsOf l.length (aheadR l))), .vec 32 3 (F.map dFl.emb), .vec 32 3 ((outA l F j).map dFl.emb)]) (fun j=>j≤l.length) (fun j=>l.length - j) 0 (by omega) ?_ rfl ?_
  ·simp only [go_sem,seval]
   rfl
  intro j hj
  have hO:=outA_len (l:=l) (F:=F) j
  have hO8:j*F.length≤80*640:=Nat.mul_le_mul (by omega) (by omega)
  by_cases h2:j<l.length
  ·have h2':(j:Int)<l.length:=by omega
   have hwj:IntKind.i64.wrap ((j:Int)+1)=((j+1:Nat):Int):=IntWalk.i64_in _ (by omega)
   unfold j8_11
   simp only [go_sem,seval,h2']
   refine loopF Nat (fun i=>[.int .i64 i, .vec 3 (oI l F j i).length]) (fun i=>[.blk 22 (dEs.emb l), .blk 72 (dRows.emb (rowsOf l.length (aheadR l))), .vec 32 3 (F.map dFl.emb), .vec 32 3 ((oI l F j i).map dFl.emb)]) (fun i=>i≤F.length) (fun i=>F.length - i) 0 (by omega) ?_ ?_ ?_
   ·simp only [go_sem,seval]
    rw [oI_0]
   ·rw [oI_0]
    rfl
   intro i hi
   by_cases h3:i<F.length
   ·have h3':(i:Int)<F.length:=by omega
    have hwi:IntKind.i64.wrap ((i:Int)+1)=((i+1:Nat):Int):=IntWalk.i64_in _ (by omega)
    have hfg:=fl_getD h3
    have hoI:=oI_len (l:=l) (F:=F) (j:=j) i
    unfold j8_9
    simp only [go_sem,seval,h3',h3,hwi,hfg]
    exact ⟨by omega,fun q=>⟨by omega,i+1,by omega,by omega,⟨rfl,by rw [oI_yes h3 q,List.length_append];rfl⟩,by rw [oI_yes h3 q,List.map_append];rfl⟩,fun q=>⟨i+1,by omega,by omega,⟨rfl,by rw [oI_no h3 q]⟩,by rw [oI_no h3 q]⟩⟩
   ·have h3':¬ (i:Int)<F.length:=by omega
    have e:i=F.length:=by omega
    subst e
    unfold j8_9
    simp only [go_sem,seval,h3']
    unfold j8_10
    simp only [go_sem,seval,hwj]
    exact ⟨j+1,by omega,by omega,⟨rfl,by rw [oI_n]⟩,by rw [oI_n]⟩
  ·have h2':¬ (j:Int)<l.length:=by omega
   have e:j=l.length:=by omega
   subst e
   unfold j8_11
   simp only [go_sem,seval,h2']
   unfold j8_12
   simp only [go_sem,seval]
end Go.Proofs.Ytpajfggdnobheaa.Fa
end
