/- A part of the proof of StripeRuns. Conditions: none. -/
import Derived.Test.YtpajfggdnobheaaSx5
import Derived.DeepKeys
import Derived.Laws.Cover3
set_option linter.unusedVariables false
set_option linter.unusedSimpArgs false
section
namespace Go.Sx
open Go
variable {P:Program}
theorem esP_agg:∀ {e:ES} {x:SV},esP e x→x.isAgg=aggE e:=by
 intro e x h
 cases e<;>cases x<;>simp only [esP] at h<;>first
  |exact h.elim
  |rfl
mutual
theorem esP_wd:∀ {e:ES} {x:SV},esP e x→wd x=wE e
 | .int _,x,h=>by cases x<;>simp only [esP] at h<;>rfl
 | .bool,x,h=>by cases x<;>simp only [esP] at h<;>rfl
 | .str,x,h=>by cases x<;>simp only [esP] at h<;>rfl
 | .st l,x,h=>by
  cases x<;>simp only [esP] at h
  simp only [wd,wE]
  exact esPL_wd h
 | .arr n w e,x,h=>by
  cases x<;>simp only [esP] at h
  obtain ⟨rfl,rfl,_⟩:=h
  rfl
theorem esPL_wd:∀ {l:List ES} {xs:List SV},esPL l xs→wds xs=wEL l
 |[],xs,h=>by
  cases xs with
  |nil=>rfl
  |cons=>simp only [esPL] at h
 |e::l,xs,h=>by
  cases xs with
  |nil=>simp only [esPL] at h
  |cons x xs=>
   simp only [esPL] at h
   simp only [wds,wEL]
   rw [esP_wd h.1,esPL_wd h.2]
end
theorem eqItems_ok {d:Nat} {t':TypeId} {e:ES} {w':Nat} (ht:tsz P t'=some (w',aggE e)) {f g:Nat→SV} {n:Nat} {cs cs':List Value} (h1:cs.length=n*w') (h2:cs'.length=n*w') (w:World)
  (h0:aggE e=false→w'=1) (ih:∀ i,i<n→(Op.equalIn d t' (boxed (aggE e) (sub cs (i*w') w')) (boxed (aggE e) (sub cs' (i*w') w'))).run P w= .ok (eqV e (f i) (g i)) w):
  ∀ is:List Nat,(∀ i∈is,i<n)→(Op.eqItems d t' w' cs.toArray cs'.toArray is).run P w= .ok (is.all fun i=>eqV e (f i) (g i)) w
 |[],_=>by simp [Op.eqItems]
 |i::is,hi=>by
  have hl:=hi i (by simp)
  have hle:=mul_le_len (w:=w') hl
  have r:=eqItems_ok ht h1 h2 w h0 ih is (fun j hj=>hi j (by simp [hj]))
  simp only [Op.eqItems,Sem.run_bind,run_part ht w cs (i*w') (by omega) h0,run_part ht w cs' (i*w') (by omega) h0,Result.andThen_ok,ih i hl,List.all_cons]
  cases eqV e (f i) (g i)
  ·simp
  ·simpa using r
theorem aggE_w:∀ {e:ES},aggE e=false→wE e=1:=by
 intro e h
 cases e<;>first|rfl|(simp [aggE] at h)
mutual
theorem equalIn_ok:∀ (e:ES) {t:TypeId} {d:Nat} {x y:SV} {ε ε':Env} {cs cs':List Value} (w:World),esB P t e=true→dE e≤d→esP e x→esP e y→SatC x ε cs→SatC y ε' cs'→
  (Op.equalIn d t (boxed (aggE e) cs) (boxed (aggE e) cs')).run P w= .ok (eqV e x y) w
 | .int k,t,d,x,y,ε,ε',cs,cs',w,hb,hd,hx,hy,sx,sy=>by
  obtain ⟨a,rfl⟩:∃ a,x= .int k a:=by cases x<;>simp_all [esP]
  obtain ⟨b,rfl⟩:∃ b,y= .int k b:=by cases y<;>simp_all [esP]
  simp only [SatC] at sx sy
  subst sx;subst sy
  simp only [esB] at hb
  split at hb<;>try (cases hb;done)
  rename_i hu
  obtain ⟨d,rfl⟩:∃ d',d=d'+1:=⟨d - 1,by simp only [dE] at hd;omega⟩
  by_cases hab:a=b<;>simp [boxed,aggE,Op.equalIn,run_underlying hu,eqV,hab]
 | .bool,t,d,x,y,ε,ε',cs,cs',w,hb,hd,hx,hy,sx,sy=>by
  obtain ⟨a,rfl⟩:∃ a,x= .bool a:=by cases x<;>simp_all [esP]
  obtain ⟨b,rfl⟩:∃ b,y= .bool b:=by cases y<;>simp_all [esP]
  simp only [SatC] at sx sy
  subst sx;subst sy
  simp only [esB] at hb
  split at hb<;>try (cases hb;done)
  rename_i hu
  obtain ⟨d,rfl⟩:∃ d',d=d'+1:=⟨d - 1,by simp only [dE] at hd;omega⟩
  simp [boxed,aggE,Op.equalIn,run_underlying hu,eqV]
 | .str,t,d,x,y,ε,ε',cs,cs',w,hb,hd,hx,hy,sx,sy=>by
  obtain ⟨a,rfl⟩:∃ a,x= .str a:=by cases x<;>simp_all [esP]
  obtain ⟨b,rfl⟩:∃ b,y= .str b:=by cases y<;>simp_all [esP]
  simp only [SatC] at sx sy
  subst sx;subst sy
  simp only [esB] at hb
  split at hb<;>try (cases hb;done)
  rename_i hu
  obtain ⟨d,rfl⟩:∃ d',d=d'+1:=⟨d - 1,by simp only [dE] at hd;omega⟩
  have hq:((⟨a.toArray⟩:ByteArray)==⟨b.toArray⟩)=decide (a=b):=by
   have k:∀ x y:ByteArray,(x==y)=(x.data==y.data):=fun x y=>by cases x;cases y;rfl
   rw [k]
   by_cases hab:a=b
   ·subst hab;simp
   ·simp [hab]
  simp [boxed,aggE,Op.equalIn,run_underlying hu,eqV,hq]
 | .st l,t,d,x,y,ε,ε',cs,cs',w,hb,hd,hx,hy,sx,sy=>by
  cases x<;>simp only [esP] at hx
  cases y<;>simp only [esP] at hy
  simp only [SatC] at sx sy
  simp only [esB] at hb
  split at hb<;>try (cases hb;done)
  rename_i fs hu
  simp only [Bool.and_eq_true,Bool.not_eq_true'] at hb
  simp only [dE] at hd
  obtain ⟨d,rfl⟩:∃ d',d=d'+1:=⟨d - 1,by omega⟩
  have hfs:P.fieldsOf t=fs:=by simp [Program.fieldsOf,hu]
  simp only [boxed,aggE,if_true,eqV]
  rw [run_equalIn_struct w d t cs.toArray cs'.toArray (by rw [hfs];exact hu) hb.2,hfs]
  have:=eqFields_ok l w (d:=d) (fs:=fs.toList) (off:=0) (pre:=[]) (pre':=[]) hb.1 (by omega) hx hy sx sy rfl rfl
  simpa using this
 | .arr n w' e,t,d,x,y,ε,ε',cs,cs',w,hb,hd,hx,hy,sx,sy=>by
  cases x<;>simp only [esP] at hx
  cases y<;>simp only [esP] at hy
  obtain ⟨rfl,rfl,hx⟩:=hx
  obtain ⟨rfl,rfl,hy⟩:=hy
  simp only [SatC] at sx sy
  simp only [esB] at hb
  split at hb<;>try (cases hb;done)
  rename_i n' t' hu
  simp only [Bool.and_eq_true,decide_eq_true_eq] at hb
  obtain ⟨⟨⟨⟨rfl,h2⟩,h3⟩,h4⟩,h5⟩:=hb
  simp only [dE] at hd
  obtain ⟨d,rfl⟩:∃ d',d=d'+1:=⟨d - 1,by omega⟩
  simp only [boxed,aggE,if_true,eqV]
  have hi:∃ i,P.info? t'=some i:=by
   unfold tsz at h3
   split at h3<;>first|exact ⟨_,by assumption⟩|cases h3
  obtain ⟨i,hi⟩:=hi
  rw [run_equalIn_array w d cs.toArray cs'.toArray hu hi,h2]
  exact eqItems_ok h3 sx.1 sy.1 w (fun h=>by rw [← h4];exact aggE_w h) (fun j hj=>equalIn_ok e w h5 (by omega) (hx j hj) (hy j hj) (sx.2 j hj) (sy.2 j hj)) _ (fun j hj=>by simpa using hj)
theorem eqFields_ok:∀ (l:List ES) {xs ys:List SV} {ε ε':Env} {cs cs' pre pre':List Value} (w:World) {d:Nat} {fs:List Field} {off:Nat},esBL P fs off l=true→dEL l≤d→esPL l xs→esPL l ys→SatL xs ε cs→SatL ys ε' cs'→pre.length=off→pre'.length=off→
  (Op.eqFields d (pre++cs).toArray (pre'++cs').toArray fs).run P w= .ok (eqVL l xs ys) w
 |[],xs,ys,ε,ε',cs,cs',pre,pre',w,d,fs,off,hb,hd,hx,hy,sx,sy,hp,hp'=>by
  cases fs with
  |nil=>simp [Op.eqFields,eqVL]
  |cons=>simp [esBL] at hb
 |e::l,xs,ys,ε,ε',cs,cs',pre,pre',w,d,fs,off,hb,hd,hx,hy,sx,sy,hp,hp'=>by
  cases fs with
  |nil=>simp [esBL] at hb
  |cons f fs=>
   cases xs with
   |nil=>simp only [esPL] at hx
   |cons x xs=>
    cases ys with
    |nil=>simp only [esPL] at hy
    |cons y ys=>
     simp only [esPL] at hx hy
     simp only [SatL] at sx sy
     obtain ⟨a,b,rfl,s1,s2⟩:=sx
     obtain ⟨a',b',rfl,s1',s2'⟩:=sy
     simp only [esBL,Bool.and_eq_true,decide_eq_true_eq] at hb
     obtain ⟨⟨⟨⟨b1,b2⟩,b3⟩,b4⟩,b5⟩:=hb
     simp only [dEL] at hd
     have l1:a.length=wE e:=by rw [SatC.length _ s1,esP_wd hx.1]
     have l1':a'.length=wE e:=by rw [SatC.length _ s1',esP_wd hy.1]
     have q:sub (pre++(a++b)) off (wE e)=a:=by
      simp only [sub]
      rw [List.drop_append_of_le_length (by omega),List.drop_of_length_le (by omega),List.nil_append,List.take_append_of_le_length (by omega),List.take_of_length_le (by omega)]
     have q':sub (pre'++(a'++b')) off (wE e)=a':=by
      simp only [sub]
      rw [List.drop_append_of_le_length (by omega),List.drop_of_length_le (by omega),List.nil_append,List.take_append_of_le_length (by omega),List.take_of_length_le (by omega)]
     have r:=eqFields_ok l (pre:=pre++a) (pre':=pre'++a') w (d:=d) (fs:=fs) b5 (by omega) hx.2 hy.2 s2 s2' (by simp;omega) (by simp;omega)
     have k:=equalIn_ok e w b4 (d:=d) (by omega) hx.1 hy.1 s1 s1'
     have p1:=run_part b3 w (pre++(a++b)) off (by simp;omega) (fun h=>aggE_w h)
     have p2:=run_part b3 w (pre'++(a'++b')) off (by simp;omega) (fun h=>aggE_w h)
     rw [q] at p1
     rw [q'] at p2
     rw [List.append_assoc] at r
     rw [List.append_assoc] at r
     simp only [Op.eqFields,b1,ne_eq,not_false_eq_true,if_true,Sem.run_bind,b2,p1,p2,Result.andThen_ok,k,eqVL]
     cases eqV e x y
     ·simp
     ·simpa using r
end
theorem slLen_nil {x:SV} {n:Nat} (h:slLen x=some n) {ε:Env} {v:Value} (hs:SatV ε x v):∃ ao cap,v= .slice ao n cap∧(ao=none→n=0)∧(x= .nils→ao=none):=by
 cases x<;>simp only [slLen,Option.some.injEq] at h<;>try (cases h;done)
 ·subst h
  obtain ⟨cs,h1,h2⟩:=hs
  simp only [SatC] at h1
  obtain ⟨ao,cap,rfl,k1,_,k3,_⟩:=h1
  refine ⟨ao,cap,by rw [h2];rfl,fun e=>by have:=k3 e;omega,fun e=>by cases e⟩
 ·subst h
  obtain ⟨cs,h1,h2⟩:=hs
  simp only [SatC] at h1
  obtain ⟨ao,rfl,_,k3,_⟩:=h1
  exact ⟨ao,_,by rw [h2];rfl,k3,fun e=>by cases e⟩
 ·subst h
  obtain ⟨h1,h2,h3⟩:=sat_vec hs
  rcases h2 with ⟨e,rfl⟩|⟨b,cap,e,_⟩
  ·exact ⟨none,0,by rw [h3,e],fun _=>rfl,fun e=>by cases e⟩
  ·exact ⟨some _,cap,by rw [h3,e],fun e=>by (cases e),fun e=>by cases e⟩
 ·subst h
  have:=sat_nils hs
  exact ⟨none,0,this,fun _=>rfl,fun _=>rfl⟩
def Silent {α:Type} (P:Program) (s:Sem α):Prop:= ∀ w es,s.events P w es=es
theorem silent_bind {α β:Type} {x:Sem α} {f:α→Sem β} (hx:Silent P x) (hf:∀ w a w',x.run P w= .ok a w'→Silent P (f a)):Silent P (x>>=f):=by
 intro w es
 rw [Sem.events_bind,hx w es]
 cases h:x.run P w with
 |ok a w'=>exact hf w a w' h w' es
 |halt _ _=>rfl
theorem silent_pure {α:Type} (a:α):Silent P (pure a:Sem α):=fun _ _=>rfl
theorem silent_stuck {α:Type} (s:String):Silent P (stuck s:Sem α):=fun _ _=>rfl
theorem silent_unsup {α:Type} (u:Unsupported):Silent P (unsupported u:Sem α):=fun _ _=>rfl
theorem silent_ite {α:Type} {c:Prop} [Decidable c] {x y:Sem α} (hx:Silent P x) (hy:Silent P y):Silent P (if c then x else y):=by split<;>assumption
theorem silent_forIn {α β:Type} {f:α→β→Sem (ForInStep β)} (h:∀ a b,Silent P (f a b)):∀ (l:List α) (b:β),Silent P (forIn l b f)
 |[],b=>by rw [List.forIn_nil];exact silent_pure _
 |a::l,b=>by
  rw [List.forIn_cons]
  refine silent_bind (h a b) fun _ r _ _=> ?_
  cases r with
  |done b=>exact silent_pure _
  |yield b=>exact silent_forIn h l b
def ScV (c:Value):Prop:=(∃ k n,c= .int k n)∨(∃ b,c= .bool b)∨∃ s,c= .string s
def FlatV (v:Value):Prop:=ScV v∨∃ cs:Array Value,v= .agg cs∧∀ c∈cs,ScV c
theorem silent_part (t:TypeId) (cs:Array Value) (off:Nat):Silent P (part t cs off):=by
 unfold part
 refine silent_bind (fun w es=>events_isAgg ..) fun _ b _ _=> ?_
 cases b
 ·simp only [Bool.false_eq_true,if_false]
  split<;>first|exact silent_pure _|exact silent_stuck _
 ·simp only [if_true]
  exact silent_bind (fun w es=>events_sizeOf ..) fun _ _ _ _=>silent_pure _
theorem part_flat {t:TypeId} {cs:Array Value} {off:Nat} (h:∀ c∈cs,ScV c) {w w':World} {v:Value} (hr:(part t cs off).run P w= .ok v w'):FlatV v:=by
 unfold part at hr
 rw [Sem.run_bind] at hr
 cases ha:(isAgg t).run P w with
 |halt _ _=>rw [ha] at hr;cases hr
 |ok b w1=>
  rw [ha,Result.andThen_ok] at hr
  cases b
  ·simp only [Bool.false_eq_true,if_false] at hr
   split at hr
   ·rename_i c hc
    cases hr
    exact .inl (h _ (Array.mem_of_getElem? hc))
   ·cases hr
  ·simp only [if_true,Sem.run_bind] at hr
   cases hs:(sizeOf t).run P w1 with
   |halt _ _=>rw [hs] at hr;cases hr
   |ok n w2=>
    rw [hs,Result.andThen_ok] at hr
    cases hr
    exact .inr ⟨_,rfl,fun c hc=>h c (by
     obtain ⟨i,hi⟩:=Array.mem_iff_getElem?.1 hc
     rw [Array.getElem?_extract] at hi
     split at hi
     ·exact Array.mem_of_getElem? hi
     ·cases hi)⟩
theorem silent_equalIn:∀ (d:Nat) (t:TypeId) (x y:Value),FlatV x→FlatV y→Silent P (Op.equalIn d t x y)
 |0,_,_,_,_,_=>fun _ _=>rfl
 |d+1,t,x,y,hx,hy=>by
  unfold Op.equalIn
  refine silent_bind (fun w es=>events_underlying ..) fun _ u _ _=> ?_
  have ih:=silent_equalIn d
  rcases hx with (⟨k,n,rfl⟩|⟨b,rfl⟩|⟨s,rfl⟩)|⟨cs,rfl,hcs⟩<;>rcases hy with (⟨k',n',rfl⟩|⟨b',rfl⟩|⟨s',rfl⟩)|⟨cs',rfl,hcs'⟩
  all_goals
   cases u<;>(try simp only [])<;>try first
    |exact silent_pure _
    |exact silent_stuck _
    |exact silent_unsup _
    |exact silent_ite (silent_pure _) (silent_stuck _)
  ·refine silent_bind (fun w es=>events_sizeOf ..) fun _ n _ _=> ?_
   refine silent_bind ?_ fun _ r _ _=> ?_
   ·rw [Std.Legacy.Range.forIn_eq_forIn_range']
    refine silent_forIn (fun f r=> ?_) _ _
    refine silent_bind (silent_part _ _ _) fun _ v1 _ h1=>silent_bind (silent_part _ _ _) fun _ v2 _ h2=>silent_bind (ih _ _ _ (part_flat hcs h1) (part_flat hcs' h2)) fun _ b _ _=> ?_
    cases b<;>exact silent_pure _
   ·split<;>exact silent_pure _
  ·refine silent_bind (fun w es=>events_program ..) fun _ p _ _=> ?_
   refine silent_ite (silent_bind (silent_unsup _) fun w a w' h=>by cases h) ?_
   refine silent_bind ?_ fun _ r _ _=> ?_
   ·rw [← Array.forIn_toList]
    refine silent_forIn (fun f r=>silent_ite ?_ (silent_pure _)) _ _
    refine silent_bind (silent_part _ _ _) fun _ v1 _ h1=>silent_bind (silent_part _ _ _) fun _ v2 _ h2=>silent_bind (ih _ _ _ (part_flat hcs h1) (part_flat hcs' h2)) fun _ b _ _=> ?_
    cases b<;>exact silent_pure _
   ·split<;>exact silent_pure _
end Go.Sx
end
section
namespace Go.Sx
open Go
variable {P:Program} {σ:List SV} {K:SV→Prop} {o:Oper}
mutual
theorem esP_sc:∀ (e:ES) {x:SV} {ε:Env} {cs:List Value},esP e x→SatC x ε cs→∀ c∈cs,ScV c
 | .int k,x,ε,cs,hx,sx=>by
  obtain ⟨a,rfl⟩:∃ a,x= .int k a:=by cases x<;>simp_all [esP]
  simp only [SatC] at sx;subst sx
  exact fun c hc=> .inl ⟨k,a,by simpa using hc⟩
 | .bool,x,ε,cs,hx,sx=>by
  obtain ⟨a,rfl⟩:∃ a,x= .bool a:=by cases x<;>simp_all [esP]
  simp only [SatC] at sx;subst sx
  exact fun c hc=> .inr (.inl ⟨a,by simpa using hc⟩)
 | .str,x,ε,cs,hx,sx=>by
  obtain ⟨a,rfl⟩:∃ a,x= .str a:=by cases x<;>simp_all [esP]
  simp only [SatC] at sx;subst sx
  exact fun c hc=> .inr (.inr ⟨_,by simpa using hc⟩)
 | .st l,x,ε,cs,hx,sx=>by
  cases x<;>simp only [esP] at hx
  simp only [SatC] at sx
  exact esPL_sc l hx sx
 | .arr n w' e,x,ε,cs,hx,sx=>by
  cases x<;>simp only [esP] at hx
  rename_i n1 w1 f
  obtain ⟨rfl,rfl,hx⟩:=hx
  simp only [SatC] at sx
  obtain ⟨h1,h2⟩:=sx
  intro c hc
  obtain ⟨k,hk,rfl⟩:=List.getElem_of_mem hc
  have hw0:0<w1:=by
   rcases Nat.eq_zero_or_pos w1 with h|h
   ·subst h;omega
   ·exact h
  have hi:k/w1<n1:=Nat.div_lt_of_lt_mul (by rw [h1,Nat.mul_comm] at hk;exact hk)
  refine esP_sc e (hx _ hi) (h2 _ hi) _ ?_
  have hm:k%w1<w1:=Nat.mod_lt _ hw0
  have hkk:k=k/w1*w1+k%w1:=by rw [Nat.mul_comm];exact (Nat.div_add_mod k w1).symm
  refine List.mem_of_getElem? (i:=k%w1) ?_
  simp only [sub,List.getElem?_take,if_pos hm,List.getElem?_drop,← hkk]
  exact List.getElem?_eq_getElem hk
theorem esPL_sc:∀ (l:List ES) {xs:List SV} {ε:Env} {cs:List Value},esPL l xs→SatL xs ε cs→∀ c∈cs,ScV c
 |[],xs,ε,cs,hx,sx=>by
  cases xs with
  |nil=>simp only [SatL] at sx;subst sx;exact fun c hc=>by cases hc
  |cons=>simp only [esPL] at hx
 |e::l,xs,ε,cs,hx,sx=>by
  cases xs with
  |nil=>simp only [esPL] at hx
  |cons x xs=>
   simp only [esPL] at hx
   simp only [SatL] at sx
   obtain ⟨a,b,rfl,s1,s2⟩:=sx
   exact fun c hc=>(List.mem_append.1 hc).elim (esP_sc e hx.1 s1 c) (esPL_sc l hx.2 s2 c)
end
theorem esP_flat {e:ES} {x:SV} {ε:Env} {cs:List Value} (hx:esP e x) (sx:SatC x ε cs):FlatV (boxed (aggE e) cs):=by
 have h:=esP_sc e hx sx
 cases ha:aggE e with
 |true=>exact .inr ⟨cs.toArray,rfl,fun c hc=>h c (by simpa using hc)⟩
 |false=>
  have hl:cs.length=1:=by rw [SatC.length _ sx,esP_wd hx,aggE_w ha]
  match cs,hl with
  |[c],_=>exact .inl (h c (by simp))
theorem silent_bin (op:BinOp) (t:TypeId) (k k':IntKind) (a b:Int):Silent P (binOp op t (.int k a) (.int k' b)):=by
 intro w es
 cases op<;>simp only [binOp,Op.shift,Op.intArith,Op.intDiv,Op.intBits,Op.intCmp]<;>(repeat' split)<;>first|rfl|(simp [runtimePanic];done)
theorem pathOk_snoc:∀ (p:List Step) (s:Step),pathOk p→pathOk [s]→pathOk (p++[s])
 |[],_,_,h=>h
 | .fld _::p,s,h1,h2=>pathOk_snoc p s h1 h2
 | .idx _ _::p,s,h1,h2=>⟨h1.1,pathOk_snoc p s h1.2 h2⟩
theorem sound_mv {x:Operand} {y:Opd} (ho:o.op= .move x∨o.op= .assign x) (hx:compO x=some y) (h:K (y.ev σ)):∃ sv,K sv∧PureOK P o σ sv:=by
 refine ⟨_,h,fun ε a hs=>⟨a.eval x,fun w=> ?_,compO_ok hx hs⟩⟩
 rcases ho with ho|ho<;>constructor<;>simp [execOp,ho]
theorem sound_pick {c x y:Operand} {c' x' y':Opd} (ho:o.op= .pick c x y) (hc:compO c=some c') (hx:compO x=some x') (hy:compO y=some y')
  (h:popK σ K (.pick c' x' y')):∃ sv,K sv∧PureOK P o σ sv:=by
 simp only [popK] at h
 split at h
 ·rename_i b hb
  cases b with
  |true=>
   refine ⟨_,h.1 rfl,fun ε a hs=>⟨a.eval x,fun w=> ?_,compO_ok hx hs⟩⟩
   have:=sat_bool (hb▸compO_ok hc hs)
   constructor<;>simp [execOp,ho,this,asBool]
  |false=>
   refine ⟨_,h.2 rfl,fun ε a hs=>⟨a.eval y,fun w=> ?_,compO_ok hy hs⟩⟩
   have:=sat_bool (hb▸compO_ok hc hs)
   constructor<;>simp [execOp,ho,this,asBool]
 ·exact h.elim
theorem aeq_ok {op:BinOp} {t yt:TypeId} {x y:Operand} {x' y':Opd} (ho:o.op= .binOp op t x y yt) (hx:compO x=some x') (hy:compO y=some y') (neg:Bool) (hop:op=(if neg then .neq else .eql)) {p:PIO} (hp:compEq P neg t x' y'=some p) (h:popK σ K p):∃ sv,K sv∧PureOK P o σ sv:=by
 unfold compEq at hp
 split at hp<;>try (cases hp;done)
 rename_i e _
 split at hp<;>try (cases hp;done)
 rename_i hc
 simp only [Bool.and_eq_true,Bool.not_eq_true',decide_eq_true_eq] at hc
 obtain ⟨⟨⟨c1,c2⟩,c3⟩,c4⟩:=hc
 simp only [Option.some.injEq] at hp;subst hp
 simp only [popK] at h
 obtain ⟨⟨h1,h2⟩,h3⟩:=h
 refine ⟨_,h3,fun ε a hs=> ?_⟩
 have sx:=compO_ok hx hs
 have sy:=compO_ok hy hs
 have agg:∀ {z:SV} {v:Value},esP e z→SatV ε z v→∃ cs,SatC z ε cs∧v=boxed (aggE e) cs:=by
  intro z v hz hsv
  have hia:=esP_agg hz
  cases z with
  |tup l=>cases e<;>simp only [esP] at hz
  |junk=>cases e<;>simp only [esP] at hz
  |_=>obtain ⟨cs,k1,k2⟩:=hsv;exact ⟨cs,k1,by rw [k2,hia]⟩
 obtain ⟨cs,k1,k2⟩:=agg h1 sx
 obtain ⟨cs',k3,k4⟩:=agg h2 sy
 have hq:∀ w,(Op.equal t (a.eval x) (a.eval y)).run P w= .ok (eqV e (x'.ev σ) (y'.ev σ)) w:=fun w=>by
  rw [k2,k4]
  exact equalIn_ok e w c1 (d:=10000) (by omega) h1 h2 k1 k3
 have hv:a.eval x= .agg cs.toArray:=by rw [k2,c2];rfl
 have hv':a.eval y= .agg cs'.toArray:=by rw [k4,c2];rfl
 rw [hv,hv'] at hq
 have hg:∀ op w,(eqGuard op t x y (.agg cs.toArray) (.agg cs'.toArray)).run P w= .ok () w:=fun op w=>by
  cases op<;>simp [eqGuard,c4]
 refine ⟨.bool (if neg then !eqV e (x'.ev σ) (y'.ev σ) else eqV e (x'.ev σ) (y'.ev σ)),fun w=> ?_,mk_bool⟩
 have he:Silent P (Op.equal t (.agg cs.toArray) (.agg cs'.toArray)):=by
  have f1:=esP_flat h1 k1
  have f2:=esP_flat h2 k3
  rw [c2] at f1 f2
  exact silent_equalIn _ t _ _ f1 f2
 have he2:∀ op w es,(eqGuard op t x y (.agg cs.toArray) (.agg cs'.toArray)).events P w es=es:=fun op w es=>by
  cases op<;>simp [eqGuard,c4]
 cases neg<;>subst hop<;>constructor<;>simp [execOp,ho,hv,hv',hg,binOp,hq,he _ _,he2]
theorem sat_iface {ε:Env} {t:TypeId} {x:SV} {v:Value} (h:SatV ε (.iface t x) v):∃ xs,SatC x ε xs∧v= .iface t (boxed x.isAgg xs):=by
 obtain ⟨cs,h1,h2⟩:=h
 simp only [SatC] at h1
 obtain ⟨xs,h3,rfl⟩:=h1
 exact ⟨xs,h3,h2⟩
theorem run_info {t:TypeId} {i:TypeInfo} (h:P.info? t=some i) (w:World):(typeInfo t).run P w= .ok i w:=by
 simp [typeInfo,h]
theorem run_ieq_same (d:Nat) {ti t:TypeId} {ms:Array (String×TypeId)} {i:TypeInfo} (hu:P.underlying ti=some (.interface ms)) (hi:P.info? t=some i) (hc:i.comparable=true) (x y:Value) (w:World):
  (Op.equalIn (d+1) ti (.iface t x) (.iface t y)).run P w=(Op.equalIn d t x y).run P w:=by
 simp [Op.equalIn,run_underlying hu,run_info hi,hc]
theorem run_ieq_other (d:Nat) {ti t u:TypeId} {ms:Array (String×TypeId)} (hu:P.underlying ti=some (.interface ms)) (hne:t≠u) (x y:Value) (w:World):
  (Op.equalIn (d+1) ti (.iface t x) (.iface u y)).run P w= .ok false w∧(Op.equalIn (d+1) ti (.iface t x) (.iface u y)).events P w #[]= #[]:=by
 constructor<;>simp [Op.equalIn,run_underlying hu,hne]
theorem run_ieq_nil (d:Nat) {ti:TypeId} {ms:Array (String×TypeId)} (hu:P.underlying ti=some (.interface ms)) (w:World):
  (Op.equalIn (d+1) ti .nilIface .nilIface).run P w= .ok true w∧(Op.equalIn (d+1) ti .nilIface .nilIface).events P w #[]= #[]:=by
 constructor<;>simp [Op.equalIn,run_underlying hu]
theorem run_ieq_nl (d:Nat) {ti u:TypeId} {ms:Array (String×TypeId)} (hu:P.underlying ti=some (.interface ms)) (x:Value) (w:World):
  (Op.equalIn (d+1) ti (.iface u x) .nilIface).run P w= .ok false w∧(Op.equalIn (d+1) ti (.iface u x) .nilIface).events P w #[]= #[]:=by
 constructor<;>simp [Op.equalIn,run_underlying hu]
theorem run_ieq_nr (d:Nat) {ti u:TypeId} {ms:Array (String×TypeId)} (hu:P.underlying ti=some (.interface ms)) (x:Value) (w:World):
  (Op.equalIn (d+1) ti .nilIface (.iface u x)).run P w= .ok false w∧(Op.equalIn (d+1) ti .nilIface (.iface u x)).events P w #[]= #[]:=by
 constructor<;>simp [Op.equalIn,run_underlying hu]
theorem ev_ieq_same (d:Nat) {ti t:TypeId} {ms:Array (String×TypeId)} {i:TypeInfo} (hu:P.underlying ti=some (.interface ms)) (hi:P.info? t=some i) (hc:i.comparable=true) {x y:Value} (hx:FlatV x) (hy:FlatV y) (w:World):
  (Op.equalIn (d+1) ti (.iface t x) (.iface t y)).events P w #[]= #[]:=by
 simp [Op.equalIn,run_underlying hu,run_info hi,hc,silent_equalIn d t x y hx hy _ _]
theorem ieq_ok {op:BinOp} {t yt:TypeId} {x y:Operand} {x' y':Opd} (ho:o.op= .binOp op t x y yt) (hx:compO x=some x') (hy:compO y=some y') (neg:Bool) (hop:op=(if neg then .neq else .eql)) {ms:Array (String×TypeId)} (hu:P.underlying t=some (.interface ms)) (h:popK σ K (.ieq neg (ieqTab P) x' y')):∃ sv,K sv∧PureOK P o σ sv:=by
 have run:∀ (c:Bool),(∀ ε a,SlotsOK ε σ a→∃ X Y,a.eval x=X∧a.eval y=Y∧((∃ u v,X= .iface u v)∨((X= .nilIface∧∃ u v,Y= .iface u v))∨(X= .nilIface∧y= .const .nilIface))∧(Y= .nilIface∨∃ u v,Y= .iface u v)∧∀ w,(Op.equal t X Y).run P w= .ok c w∧(Op.equal t X Y).events P w #[]= #[])→K (.bool (if neg then !c else c))→∃ sv,K sv∧PureOK P o σ sv:=by
  intro c hc hK
  refine ⟨_,hK,fun ε a hs=> ?_⟩
  obtain ⟨X,Y,s1,s2,hX,hY,hq⟩:=hc ε a hs
  refine ⟨.bool (if neg then !c else c),fun w=> ?_,mk_bool⟩
  rcases hX with ⟨_,_,rfl⟩|⟨rfl,_,_,rfl⟩|⟨rfl,hy0⟩
  ·rcases hY with rfl|⟨_,_,rfl⟩<;>cases neg<;>subst hop<;>constructor<;>simp [execOp,ho,s1,s2,eqGuard,binOp,(hq w).1,(hq w).2]
  ·cases neg<;>subst hop<;>constructor<;>simp [execOp,ho,s1,s2,eqGuard,binOp,(hq w).1,(hq w).2]
  ·subst hy0
   simp only [Act.eval] at s2
   subst s2
   have s2:a.eval (.const .nilIface)= .nilIface:=rfl
   cases neg<;>subst hop<;>constructor<;>simp [execOp,ho,s1,s2,eqGuard,binOp,(hq w).1,(hq w).2]
 simp only [popK] at h
 split at h
 ·rename_i u a' e1
  split at h
  ·rename_i u' b' e2
   split at h
   ·rename_i heq
    subst heq
    split at h
    ·rename_i e he
     obtain ⟨⟨p1,p2⟩,hK⟩:=h
     obtain ⟨c1,c2,i,hi,hcomp⟩:=ieqTab_ok he
     refine run (eqV e a' b') (fun ε a hs=> ?_) (by cases neg<;>exact hK)
     obtain ⟨xs,k1,s1⟩:=sat_iface (e1▸compO_ok hx hs)
     obtain ⟨ys,k2,s2⟩:=sat_iface (e2▸compO_ok hy hs)
     refine ⟨_,_,s1,s2, .inl ⟨_,_,rfl⟩, .inr ⟨_,_,rfl⟩,fun w=> ?_⟩
     rw [esP_agg p1,esP_agg p2]
     have:=equalIn_ok e w c1 (d:=9999) (by omega) p1 p2 k1 k2
     exact ⟨(run_ieq_same 9999 hu hi hcomp _ _ w).trans this,ev_ieq_same 9999 hu hi hcomp (esP_flat p1 k1) (esP_flat p2 k2) w⟩
    ·exact h.elim
   ·rename_i hne
    refine run false (fun ε a hs=> ?_) (by cases neg<;>exact h)
    obtain ⟨xs,k1,s1⟩:=sat_iface (e1▸compO_ok hx hs)
    obtain ⟨ys,k2,s2⟩:=sat_iface (e2▸compO_ok hy hs)
    refine ⟨_,_,s1,s2, .inl ⟨_,_,rfl⟩, .inr ⟨_,_,rfl⟩,fun w=> ?_⟩
    exact run_ieq_other 9999 hu (fun e:u=u'=>hne e.symm) _ _ w
  ·rename_i e2
   refine run false (fun ε a hs=> ?_) (by cases neg<;>exact h)
   obtain ⟨xs,k1,s1⟩:=sat_iface (e1▸compO_ok hx hs)
   exact ⟨_,_,s1,sat_nili (e2▸compO_ok hy hs), .inl ⟨_,_,rfl⟩, .inl rfl,fun w=>run_ieq_nl 9999 hu _ w⟩
  ·exact h.elim
 ·rename_i e1
  split at h
  ·rename_i e2
   refine run false (fun ε a hs=> ?_) (by cases neg<;>exact h)
   obtain ⟨ys,k2,s2⟩:=sat_iface (e2▸compO_ok hy hs)
   exact ⟨_,_,sat_nili (e1▸compO_ok hx hs),s2, .inr (.inl ⟨rfl,_,_,rfl⟩), .inr ⟨_,_,rfl⟩,fun w=>run_ieq_nr 9999 hu _ w⟩
  ·rename_i e2
   split at h
   ·refine run true (fun ε a hs=> ?_) (by cases neg<;>exact h)
    have hv:=sat_nili (e2▸compO_ok hy hs)
    refine ⟨_,_,sat_nili (e1▸compO_ok hx hs),hv, .inr (.inr ⟨rfl,?_⟩), .inl rfl,fun w=>run_ieq_nil 9999 hu w⟩
    cases y with
    |tmp _=>simp [compO] at hy
    |global _=>simp [compO] at hy
    |func _=>simp [Act.eval] at hv
    |const v=>simp only [Act.eval] at hv;rw [hv]
   ·exact h.elim
  ·exact h.elim
 ·exact h.elim
theorem sound_bin {op:BinOp} {t yt:TypeId} {x y:Operand} {p:PIO} (ho:o.op= .binOp op t x y yt) (hp:compP P o.op=some p) (h:popK σ K p):∃ sv,K sv∧PureOK P o σ sv:=by
 rw [ho] at hp
 simp only [compP,bind,Option.pure_def] at hp
 obtain ⟨x',hx,hp⟩:=bind_some hp
 obtain ⟨y',hy,hp⟩:=bind_some hp
 split at hp
 ·split at hp
  ·rename_i ao hao
   simp only [Option.some.injEq] at hp;subst hp
   simp only [popK] at h
   split at h
   ·rename_i k a' k' b' e1 e2
    obtain ⟨hk,hev⟩:=h
    obtain ⟨n,hK,hr⟩:=AOp.ev_run (P:=P) hao hk hev
    refine ⟨_,hK,fun ε a hs=>⟨_,fun w=> ?_,mk_int⟩⟩
    have s1:=sat_int (e1▸compO_ok hx hs)
    have s2:=sat_int (e2▸compO_ok hy hs)
    have:=hr w
    rw [binOp_int_t (t':=t)] at this
    constructor<;>simp [execOp,ho,s1,s2,eqGuard_at_int,this,silent_bin op t _ _ _ _ _ _]
   ·exact h.elim
  ·split at hp
   ·rename_i co hco
    simp only [Option.some.injEq] at hp;subst hp
    simp only [popK] at h
    split at h
    ·rename_i k a' k' b' e1 e2
     obtain ⟨rfl,hK⟩:=h
     refine ⟨_,hK,fun ε a hs=>⟨_,fun w=> ?_,mk_bool⟩⟩
     have s1:=sat_int (e1▸compO_ok hx hs)
     have s2:=sat_int (e2▸compO_ok hy hs)
     have:=COp.ev_run (P:=P) (k:=k') (a:=a') (b:=b') hco w
     rw [binOp_int_t (t':=t)] at this
     constructor<;>simp [execOp,ho,s1,s2,eqGuard_at_int,this,silent_bin op t _ _ _ _ _ _]
    ·exact h.elim
   ·cases hp
 ·rename_i ht
  have beq:∀ (neg:Bool),op=(if neg then .neq else .eql)→popK σ K (.beq neg x' y')→∃ sv,K sv∧PureOK P o σ sv:=by
   intro neg hop h
   simp only [popK] at h
   split at h
   ·rename_i a' b' e1 e2
    refine ⟨_,h,fun ε a hs=>⟨_,fun w=> ?_,mk_bool⟩⟩
    have s1:=sat_bool (e1▸compO_ok hx hs)
    have s2:=sat_bool (e2▸compO_ok hy hs)
    have he:Silent P (Op.equal t (.bool a') (.bool b')):=silent_equalIn _ t _ _ (.inl (.inr (.inl ⟨_,rfl⟩))) (.inl (.inr (.inl ⟨_,rfl⟩)))
    cases neg<;>subst hop<;>constructor<;>simp [execOp,ho,s1,s2,eqGuard_at_bool,binOp,run_equal_bool w t a' b' ht,bne,he _ _]
   ·exact h.elim
  split at hp
  ·simp only [Option.some.injEq] at hp;subst hp;exact beq false rfl h
  ·simp only [Option.some.injEq] at hp;subst hp;exact beq true rfl h
  ·cases hp
 ·have seq:∀ (neg:Bool),op=(if neg then .neq else .eql)→popK σ K (.seq neg x' y')→∃ sv,K sv∧PureOK P o σ sv:=by
   intro neg hop h
   simp only [popK] at h
   split at h
   ·rename_i a' b' e1 e2
    refine ⟨_,h,fun ε a hs=>⟨_,fun w=> ?_,mk_bool⟩⟩
    have s1:=sat_str (e1▸compO_ok hx hs)
    have s2:=sat_str (e2▸compO_ok hy hs)
    have hb:(a'==b')=decide (a'=b'):=by by_cases hab:a'=b'<;>simp [hab]
    cases neg<;>subst hop<;>constructor<;>simp [execOp,ho,s1,s2,eqGuard_at_string,binOp,Op.stringOp,ByteArray.toList_mk,hb]
   ·exact h.elim
  split at hp
  ·simp only [Option.some.injEq] at hp;subst hp
   simp only [popK] at h
   split at h
   ·rename_i a' b' e1 e2
    refine ⟨_,h.2,fun ε a hs=>⟨_,fun w=> ?_,mk_str⟩⟩
    have s1:=sat_str (e1▸compO_ok hx hs)
    have s2:=sat_str (e2▸compO_ok hy hs)
    have h3:¬ (IntKind.i64.max< (((⟨a'.toArray⟩:ByteArray).size+(⟨b'.toArray⟩:ByteArray).size:Nat):Int)):=by
     have h4:(⟨a'.toArray⟩:ByteArray).size=a'.length:=by simp [ByteArray.size]
     have h5:(⟨b'.toArray⟩:ByteArray).size=b'.length:=by simp [ByteArray.size]
     rw [h4,h5,IntKind.max_i64]
     omega
    have h6:(⟨a'.toArray⟩:ByteArray)++⟨b'.toArray⟩=⟨(a'++b').toArray⟩:=by
     apply ByteArray.ext
     simp
    constructor<;>simp only [execOp,ho,s1,s2,eqGuard_at_string,binOp,Op.stringOp,Sem.run_bind,Sem.run_pure,Result.andThen_ok,GT.gt,if_neg h3,h6,Sem.events_bind,Sem.events_pure,Result.evThen_ok]
   ·exact h.elim
  ·simp only [Option.some.injEq] at hp;subst hp;exact seq false rfl h
  ·simp only [Option.some.injEq] at hp;subst hp;exact seq true rfl h
  ·cases hp
 ·have key:∀ (neg:Bool),op=(if neg then .neq else .eql)→isNilC y=true→popK σ K (.snil neg x')→∃ sv,K sv∧PureOK P o σ sv:=by
   rename_i el ht
   intro neg hop hy0 h
   have hyv:y= .const (.slice none 0 0):=by
    unfold isNilC at hy0
    split at hy0<;>first|rfl|cases hy0
   simp only [popK] at h
   split at h
   ·rename_i n hn
    have run:∀ ε a,SlotsOK ε σ a→∃ ao:Option Addr,(∀ w,(execOp a.eval o).run P w= .ok (.value (.bool (if neg then !ao.isNone else ao.isNone))) w∧(execOp a.eval o).events P w #[]= #[])∧(ao=none→n=0)∧(x'.ev σ= .nils→ao=none):=by
     intro ε a hs
     obtain ⟨ao,cap,e1,e2,e3⟩:=slLen_nil hn (compO_ok hx hs)
     refine ⟨ao,fun w=> ?_,e2,e3⟩
     have hg:∀ op,eqGuard op t x y (.slice ao n cap) (.slice none 0 0)=pure ():=fun op=>by cases op<;>rfl
     have hy2:a.eval y= .slice none 0 0:=by rw [hyv];rfl
     have hq:(Op.equal t (.slice ao n cap) (.slice none 0 0)).run P w= .ok ao.isNone w:=run_equalIn_slice_nil w 9999 t el ao n cap ht
     have he:(Op.equal t (.slice ao n cap) (.slice none 0 0)).events P w #[]= #[]:=by
      show (Op.equalIn (9999+1) t (.slice ao n cap) (.slice none 0 0)).events P w #[]= #[]
      unfold Op.equalIn
      rw [Sem.events_bind,events_underlying,run_underlying ht]
      cases ao<;>rfl
     cases neg<;>subst hop<;>constructor<;>simp [execOp,ho,e1,hy2,hg,binOp,hq,he]
    split at h
    ·rename_i e
     refine ⟨_,h,fun ε a hs=> ?_⟩
     obtain ⟨ao,h1,h2,h3⟩:=run ε a hs
     have:=h3 e
     subst this
     exact ⟨_,h1,by cases neg<;>exact mk_bool⟩
    ·by_cases hn0:n=0
     ·refine ⟨_,h.1 (by simp [hn0]),fun ε a hs=> ?_⟩
      obtain ⟨ao,h1,h2,h3⟩:=run ε a hs
      exact ⟨_,h1,⟨[.bool (if neg then !ao.isNone else ao.isNone)],by simp only [SatC];exact ⟨_,rfl⟩,rfl⟩⟩
     ·refine ⟨_,h.2 (by simp [hn0]),fun ε a hs=> ?_⟩
      obtain ⟨ao,h1,h2,h3⟩:=run ε a hs
      cases ao with
      |none=>exact absurd (h2 rfl) hn0
      |some x=>exact ⟨_,h1,by cases neg<;>exact mk_bool⟩
   ·exact h.elim
  split at hp
  ·split at hp
   ·rename_i hny
    simp only [Option.some.injEq] at hp;subst hp;exact key false rfl hny h
   ·cases hp
  ·split at hp
   ·rename_i hny
    simp only [Option.some.injEq] at hp;subst hp;exact key true rfl hny h
   ·cases hp
  ·cases hp
 ·have key:∀ (neg:Bool),op=(if neg then .neq else .eql)→isNilP y=true→popK σ K (.pnil neg x')→∃ sv,K sv∧PureOK P o σ sv:=by
   rename_i el ht
   intro neg hop hy0 h
   have hyv:y= .const (.pointer none):=by
    unfold isNilP at hy0
    split at hy0<;>first|rfl|cases hy0
   have hy2:∀ a:Act,a.eval y= .pointer none:=fun a=>by rw [hyv];rfl
   have hpt:P.underlying t=some (.pointer (P.pointee t)):=by simp [Program.pointee,ht]
   have go:∀ (b:Bool),(∀ ε a,SlotsOK ε σ a→∃ p:Option Addr,a.eval x= .pointer p∧p.isNone=b)→K (.bool (if neg then !b else b))→∃ sv,K sv∧PureOK P o σ sv:=by
    intro b hb hK
    refine ⟨_,hK,fun ε a hs=> ?_⟩
    obtain ⟨p,e1,e2⟩:=hb ε a hs
    refine ⟨.bool (if neg then !b else b),fun w=> ?_,mk_bool⟩
    have hg:∀ op,eqGuard op t x y (.pointer p) (.pointer none)=pure ():=fun op=>by cases op<;>rfl
    have hq:(Op.equal t (.pointer p) (.pointer none)).run P w= .ok p.isNone w:=run_equalIn_pointer_nil w 9999 t p hpt
    have he:(Op.equal t (.pointer p) (.pointer none)).events P w #[]= #[]:=by
     show (Op.equalIn (9999+1) t (.pointer p) (.pointer none)).events P w #[]= #[]
     unfold Op.equalIn
     rw [Sem.events_bind,events_underlying,run_underlying hpt]
     cases p<;>rfl
    cases neg<;>subst hop<;>constructor<;>simp [execOp,ho,e1,hy2,hg,binOp,hq,e2,he]
   simp only [popK] at h
   split at h
   ·rename_i e
    exact go true (fun ε a hs=>⟨none,sat_nilp (e▸compO_ok hx hs),rfl⟩) (by cases neg<;>exact h)
   ·rename_i e
    refine go false (fun ε a hs=> ?_) (by cases neg<;>exact h)
    obtain ⟨_,_,h3⟩:=sat_ptr (e▸compO_ok hx hs)
    exact ⟨_,h3,rfl⟩
   ·rename_i e
    refine go false (fun ε a hs=> ?_) (by cases neg<;>exact h)
    obtain ⟨cs,h1,h2⟩:SatV ε _ _:=e▸compO_ok hx hs
    simp only [SatC] at h1
    obtain ⟨b,off,T,fz,cur,rfl,_⟩:=h1
    exact ⟨_,h2,rfl⟩
   ·rename_i e
    refine go false (fun ε a hs=> ?_) (by cases neg<;>exact h)
    obtain ⟨_,_,b,cap,n,_,_,h3⟩:=sat_vptr (e▸compO_ok hx hs)
    exact ⟨_,h3,rfl⟩
   ·rename_i e
    refine go false (fun ε a hs=> ?_) (by cases neg<;>exact h)
    obtain ⟨cs,h1,h2⟩:SatV ε _ _:=e▸compO_ok hx hs
    simp only [SatC] at h1
    obtain ⟨b,T,fz,cur,rfl,_⟩:=h1
    exact ⟨_,h2,rfl⟩
   ·exact h.elim
  split at hp
  ·split at hp
   ·rename_i hny
    simp only [Option.some.injEq] at hp;subst hp;exact key false rfl hny h
   ·cases hp
  ·split at hp
   ·rename_i hny
    simp only [Option.some.injEq] at hp;subst hp;exact key true rfl hny h
   ·cases hp
  ·cases hp
 ·have key:=aeq_ok (P:=P) (σ:=σ) (K:=K) (o:=o) (t:=t) ho hx hy
  split at hp
  ·exact key false rfl hp h
  ·exact key true rfl hp h
  ·cases hp
 ·have key:=aeq_ok (P:=P) (σ:=σ) (K:=K) (o:=o) (t:=t) ho hx hy
  split at hp
  ·exact key false rfl hp h
  ·exact key true rfl hp h
  ·cases hp
 ·rename_i ms hu
  have key:∀ neg:Bool,op=(if neg then .neq else .eql)→popK σ K (.ieq neg (ieqTab P) x' y')→∃ sv,K sv∧PureOK P o σ sv:=fun neg hop h=>ieq_ok ho hx hy neg hop hu h
  split at hp
  ·simp only [Option.some.injEq] at hp;subst hp;exact key false rfl h
  ·simp only [Option.some.injEq] at hp;subst hp;exact key true rfl h
  ·cases hp
 ·cases hp
theorem sound_un {op:UnOp} {t:TypeId} {x:Operand} {p:PIO} (ho:o.op= .unOp op t x) (hp:compP P o.op=some p) (h:popK σ K p):∃ sv,K sv∧PureOK P o σ sv:=by
 rw [ho] at hp
 cases op<;>simp only [compP,Option.map_eq_some_iff] at hp<;>first|(cases hp;done)|skip
 all_goals
  obtain ⟨x',hx,rfl⟩:=hp
  simp only [popK] at h
  split at h
  ·rename_i a' e1
   refine ⟨_,h,fun ε a hs=>⟨_,fun w=> ?_,⟨_,rfl,rfl⟩⟩⟩
   have s1:=compO_ok hx hs
   rw [e1] at s1
   first
    |(have s1:=sat_bool s1;constructor<;>simp [execOp,ho,s1,Op.unary,boxed,SV.isAgg];done)
    |(have s1:=sat_int s1;constructor<;>simp [execOp,ho,s1,Op.unary,Op.intArith,boxed,SV.isAgg];done)
  ·exact h.elim
theorem sound_conv {s d:TypeId} {x:Operand} {p:PIO} (ho:o.op= .convert s d x) (hp:compP P o.op=some p) (h:popK σ K p):∃ sv,K sv∧PureOK P o σ sv:=by
 rw [ho] at hp
 simp only [compP,bind,Option.pure_def] at hp
 obtain ⟨x',hx,hp⟩:=bind_some hp
 split at hp
 ·rename_i k1 k2 h1 h2
  simp only [Option.some.injEq] at hp;subst hp
  simp only [popK] at h
  split at h
  ·rename_i k a' e1
   refine ⟨_,h,fun ε a hs=>⟨_,fun w=> ?_,mk_int⟩⟩
   have s1:=sat_int (e1▸compO_ok hx hs)
   constructor<;>simp [execOp,ho,convert,run_underlying h1,run_underlying h2,s1,Conv.intToInt]
  ·exact h.elim
 ·cases hp
theorem sound_step {x:Operand} {x':Opd} {s:Step} {off:Nat} (hx:compO x=some x') (hs1:pathOk [s])
  (hrun:∀ (ε:Env) (a:Act) (ad:Addr),SlotsOK ε σ a→a.eval x= .pointer (some ad)→∀ w,(execOp a.eval o).run P w= .ok (.value (.pointer (some (ad.add off)))) w∧(execOp a.eval o).events P w #[]= #[])
  (h:stepTo s off K (x'.ev σ)):∃ sv,K sv∧PureOK P o σ sv:=by
 unfold stepTo at h
 split at h
 ·rename_i i p o' e1
  refine ⟨_,h,fun ε a hs=> ?_⟩
  obtain ⟨h1,h2,h3⟩:=sat_ptr (e1▸compO_ok hx hs)
  refine ⟨_,hrun ε a _ hs h3,?_⟩
  rw [Addr.add_lit]
  exact ⟨_,by simp only [SatC];exact ⟨h1,pathOk_snoc p s h2 hs1,rfl⟩,rfl⟩
 ·rename_i τ w d f l i p o' e1
  refine ⟨_,h,fun ε a hs=> ?_⟩
  obtain ⟨cs,h1,h2⟩:=e1▸compO_ok hx hs
  simp only [SatC] at h1
  obtain ⟨b,of,T,fz,cur,e,h3,h4,h5,h6,h7⟩:=h1
  subst e
  refine ⟨_,hrun ε a _ hs h2,?_⟩
  rw [Addr.add_lit]
  exact ⟨_,by simp only [SatC];exact ⟨b,of,T,fz,cur,by rw [← Nat.add_assoc],h3,h4,pathOk_snoc p s h5 hs1,h6,h7⟩,rfl⟩
 ·rename_i i j p o' e1
  refine ⟨_,h,fun ε a hs=> ?_⟩
  obtain ⟨h1,h2,b,cap,n,h3,h4,h5⟩:=sat_vptr (e1▸compO_ok hx hs)
  refine ⟨_,hrun ε a _ hs h5,?_⟩
  rw [Addr.add_lit]
  exact ⟨_,by simp only [SatC];exact ⟨h1,pathOk_snoc p s h2 hs1,b,cap,n,h3,h4,rfl⟩,rfl⟩
 ·rename_i c p o' e1
  refine ⟨_,h,fun ε a hs=> ?_⟩
  obtain ⟨cs,h1,h2⟩:=e1▸compO_ok hx hs
  simp only [SatC] at h1
  obtain ⟨b,T,fz,cur,e,h3,h4,h5⟩:=h1
  subst e
  refine ⟨_,hrun ε a _ hs h2,?_⟩
  rw [Addr.add_lit]
  exact ⟨_,by simp only [SatC];exact ⟨b,T,fz,cur,rfl,h3,pathOk_snoc p s h4 hs1,h5⟩,rfl⟩
 ·exact h.elim
theorem sound_fa {s:TypeId} {x:Operand} {k:Nat} {p:PIO} (ho:o.op= .fieldAddr s x k) (hp:compP P o.op=some p) (h:popK σ K p):∃ sv,K sv∧PureOK P o σ sv:=by
 rw [ho] at hp
 simp only [compP,bind,Option.pure_def] at hp
 obtain ⟨x',hx,hp⟩:=bind_some hp
 split at hp<;>try (cases hp;done)
 rename_i fs hu
 split at hp<;>try (cases hp;done)
 rename_i f hf
 split at hp<;>try (cases hp;done)
 rename_i n ag ht
 split at hp
 ·cases hp
 ·rename_i hn
  simp only [Option.some.injEq] at hp;subst hp
  refine sound_step hx (s:= .fld k) (off:=f.offset) trivial (fun ε a ad hs hv w=> ?_) (by simpa only [popK] using h)
  constructor<;>simp [execOp,ho,hv,Instr.fieldAt,run_underlying hu,hf,Instr.sureAddr,fieldPlace,run_sizeOf ht,hn]
theorem sound_fld {s:TypeId} {x:Operand} {k:Nat} {p:PIO} (ho:o.op= .field s x k) (hp:compP P o.op=some p) (h:popK σ K p):∃ sv,K sv∧PureOK P o σ sv:=by
 rw [ho] at hp
 simp only [compP,bind,Option.pure_def] at hp
 obtain ⟨x',hx,hp⟩:=bind_some hp
 split at hp<;>try (cases hp;done)
 rename_i fs hu
 split at hp<;>try (cases hp;done)
 rename_i f hf
 split at hp<;>try (cases hp;done)
 rename_i n ag ht
 split at hp
 ·cases hp
 ·rename_i hn
  simp only [Option.some.injEq] at hp;subst hp
  simp only [popK] at h
  split at h
  ·rename_i l e1
   obtain ⟨⟨h1,h2,h3,h4⟩,hK⟩:=h
   refine ⟨_,hK,fun ε a hs=> ?_⟩
   obtain ⟨cs,h5,h6⟩:=sat_agg (e1▸compO_ok hx hs)
   obtain ⟨h7,h8⟩:=SatL.nth l k h5 h1
   refine ⟨_,fun w=> ?_,isAgg_wd h7⟩
   rw [h2,h3] at*
   rw [h4]
   have hp:=run_part ht w cs f.offset h8 (fun e=>by
    rcases Nat.lt_or_ge 1 n with h|h
    ·exact absurd ⟨e,by omega⟩ hn
    ·rcases Nat.eq_or_lt_of_le h with h|h
     ·exact h
     ·exact absurd ⟨e,by omega⟩ hn)
   constructor<;>simp only [execOp,ho,h6,Instr.field,Sem.run_bind,run_underlying hu,Result.andThen_ok,hf,asAgg,Sem.run_pure,hp,Sem.events_bind,events_underlying,Result.evThen_ok,Sem.events_pure,silent_part _ _ _ _ _]
  ·exact h.elim
theorem sound_ia {t:TypeId} {x i:Operand} {p:PIO} (ho:o.op= .indexAddr t x i) (hp:compP P o.op=some p) (h:popK σ K p):∃ sv,K sv∧PureOK P o σ sv:=by
 rw [ho] at hp
 simp only [compP,bind,Option.pure_def] at hp
 obtain ⟨x',hx,hp⟩:=bind_some hp
 obtain ⟨i',hi,hp⟩:=bind_some hp
 split at hp<;>try (cases hp;done)
 ·rename_i n e hu
  split at hp<;>try (cases hp;done)
  rename_i sz ag ht
  simp only [Option.some.injEq] at hp;subst hp
  simp only [popK] at h
  split at h
  ·rename_i k j e2
   obtain ⟨⟨h1,h2⟩,h⟩:=h
   refine sound_step (s:= .idx j.toNat n) (off:=j.toNat*sz) hx ⟨by omega,trivial⟩ (fun ε a ad hs hv w=> ?_) h
   have s2:=sat_int (e2▸compO_ok hi hs)
   constructor<;>simp [execOp,ho,hv,s2,Instr.indexAt,asIntOf,run_underlying hu,Instr.sureAddr,h1,h2,run_sizeOf ht]
  ·exact h.elim
 ·rename_i e hu
  split at hp<;>try (cases hp;done)
  rename_i sz ag ht
  simp only [Option.some.injEq] at hp;subst hp
  simp only [popK] at h
  split at h
  ·rename_i k j e2
   have hrun:∀ (ε:Env) (a:Act) (hs:SlotsOK ε σ a) (ad:Addr) (n c:Nat),a.eval x= .slice (some ad) n c→0≤j→j<n→∀ w,(execOp a.eval o).run P w= .ok (.value (.pointer (some (ad.add (j.toNat*sz))))) w∧(execOp a.eval o).events P w #[]= #[]:=by
    intro ε a hs ad n c hv h1 h2 w
    have s2:=sat_int (e2▸compO_ok hi hs)
    constructor<;>simp [execOp,ho,hv,s2,Instr.indexAt,asIntOf,run_underlying hu,h1,h2,run_sizeOf ht]
   split at h
   ·rename_i τ w' d f l e1
    obtain ⟨⟨h1,h2⟩,rfl,hK⟩:=h
    refine ⟨_,hK,fun ε a hs=> ?_⟩
    obtain ⟨cs,h3,h4⟩:=e1▸compO_ok hx hs
    simp only [SatC] at h3
    obtain ⟨ao,cap,e,h5,h6,h7,h8⟩:=h3
    subst e
    obtain ⟨b,off,T,fz,cur,rfl,g2,g3,g4⟩:=h8 j.toNat (by omega)
    refine ⟨_,hrun ε a hs _ _ _ h4 h1 h2,?_⟩
    rw [Addr.add_lit]
    exact ⟨_,by simp only [SatC];exact ⟨b,off,T,fz,cur,rfl,by omega,g2,trivial,g3,g4⟩,rfl⟩
   ·rename_i v n e1
    obtain ⟨⟨h1,h2⟩,hK⟩:=h
    refine ⟨_,hK,fun ε a hs=> ?_⟩
    obtain ⟨h3,h4,h5⟩:=sat_vec (e1▸compO_ok hx hs)
    rcases h4 with ⟨_,h4⟩|⟨b,cap,h4,_⟩
    ·omega
    ·refine ⟨_,hrun ε a hs _ _ _ (h5.trans h4) h1 h2,?_⟩
     rw [Addr.add_lit]
     exact ⟨_,by simp only [SatC];exact ⟨h3,trivial,b,cap,n,h4,by omega,rfl⟩,by simp [boxed,SV.isAgg]⟩
   ·exact h.elim
  ·exact h.elim
theorem sound_ix {t:TypeId} {x i:Operand} {p:PIO} (ho:o.op= .index t x i) (hp:compP P o.op=some p) (h:popK σ K p):∃ sv,K sv∧PureOK P o σ sv:=by
 rw [ho] at hp
 simp only [compP,bind,Option.pure_def] at hp
 obtain ⟨x',hx,hp⟩:=bind_some hp
 obtain ⟨i',hi,hp⟩:=bind_some hp
 split at hp<;>try (cases hp;done)
 ·rename_i n e hu
  split at hp<;>try (cases hp;done)
  rename_i sz ag ht
  split at hp<;>try (cases hp;done)
  rename_i hn
  simp only [Option.some.injEq] at hp;subst hp
  simp only [popK] at h
  split at h
  ·rename_i k j e2
   split at h
   ·rename_i n' w' f e1
    obtain ⟨⟨h1,h2⟩,⟨rfl,rfl,h3⟩,hK⟩:=h
    refine ⟨_,hK,fun ε a hs=> ?_⟩
    have s2:=sat_int (e2▸compO_ok hi hs)
    obtain ⟨cs,h5,h6⟩:=sat_arr (e1▸compO_ok hx hs)
    simp only [SatC] at h5
    obtain ⟨h7,h8⟩:=h5
    have hj:j.toNat<n':=by omega
    have h9:=h8 j.toNat hj
    have hl:=mul_le_len (w:=w') hj
    refine ⟨_,fun w=> ?_,isAgg_wd h9⟩
    rw [h3]
    have hp:=run_part ht w cs (j.toNat*w') (by omega) (fun e=>by
     rcases Nat.lt_or_ge 1 w' with h|h
     ·exact absurd ⟨e,by omega⟩ hn
     ·rcases Nat.eq_or_lt_of_le h with h|h
      ·exact h
      ·exact absurd ⟨e,by omega⟩ hn)
    constructor<;>simp only [execOp,ho,h6,s2,Instr.index,asIntOf,Sem.run_bind,Sem.run_pure,run_underlying hu,Result.andThen_ok,h1,h2,and_self,if_true,run_sizeOf ht,hp,Sem.events_bind,events_underlying,events_sizeOf,Result.evThen_ok,Sem.events_pure,silent_part _ _ _ _ _]
   ·exact h.elim
  ·exact h.elim
 ·rename_i hu
  simp only [Option.some.injEq] at hp;subst hp
  simp only [popK] at h
  split at h
  ·rename_i k j e2
   split at h
   ·rename_i s e1
    obtain ⟨⟨h1,h2⟩,hK⟩:=h
    refine ⟨_,hK,fun ε a hs=>⟨_,fun w=> ?_,mk_int⟩⟩
    have s2:=sat_int (e2▸compO_ok hi hs)
    have s1:=sat_str (e1▸compO_ok hx hs)
    have hj:j.toNat<s.length:=by omega
    have hg:(⟨s.toArray⟩:ByteArray)[j.toNat]? =some (s.getD j.toNat 0):=by
     have hsz:j.toNat< (⟨s.toArray⟩:ByteArray).size:=by simpa [ByteArray.size] using hj
     rw [getElem?_pos (⟨s.toArray⟩:ByteArray) j.toNat hsz]
     simp [ByteArray.getElem_eq_getElem_data,List.getD,hj]
    constructor<;>simp [execOp,ho,s1,s2,Instr.index,asIntOf,run_underlying hu,h1,hg]
   ·exact h.elim
  ·exact h.elim
theorem sound_ext {x:Operand} {k:Nat} {p:PIO} (ho:o.op= .extract x k) (hp:compP P o.op=some p) (h:popK σ K p):∃ sv,K sv∧PureOK P o σ sv:=by
 rw [ho] at hp
 simp only [compP,Option.map_eq_some_iff] at hp
 obtain ⟨x',hx,rfl⟩:=hp
 simp only [popK] at h
 split at h
 ·rename_i l e1
  obtain ⟨h1,hK⟩:=h
  refine ⟨_,hK,fun ε a hs=> ?_⟩
  obtain ⟨vs,h2,h3⟩:=sat_tup (e1▸compO_ok hx hs)
  obtain ⟨v,h4,h5⟩:=SatA.nth l k h2 h1
  exact ⟨v,fun w=>by constructor<;>simp [execOp,ho,h3,Instr.extract,h4],h5⟩
 ·exact h.elim
theorem sat_val {ε:Env} {sv:SV} {v:Value} (h:SatV ε sv v) (hv:sv.isVal=true):∃ cs,SatC sv ε cs∧v=boxed sv.isAgg cs:=by
 cases sv<;>first
  |exact h
  |cases hv
theorem sat_caps {ε:Env} {a:Act} (hs:SlotsOK ε σ a):∀ (xs:List Operand) (ys:List Opd),xs.mapM compO=some ys→
  (ys.map (·.ev σ)).all SV.isVal=true→SatA (ys.map (·.ev σ)) ε (xs.map a.eval)
 |[],ys,h,_=>by simp at h;subst h;rfl
 |x::xs,ys,h,h1=>by
  simp only [List.mapM_cons,bind,Option.pure_def] at h
  obtain ⟨y,hy,h⟩:=bind_some h
  obtain ⟨ys',hys,h⟩:=bind_some h
  simp only [Option.some.injEq] at h
  subst h
  simp only [List.map_cons,List.all_cons,Bool.and_eq_true] at h1
  obtain ⟨cs,h3,h4⟩:=sat_val (compO_ok hy hs) h1.1
  simp only [List.map_cons,SatA]
  exact ⟨cs,_,by rw [h4],h3,sat_caps hs xs ys' hys h1.2⟩
theorem sound_mkfn {fn:Fn} {first caps:Array Operand} {p:PIO} (ho:o.op= .makeFunc fn first caps) (hp:compP P o.op=some p) (h:popK σ K p):∃ sv,K sv∧PureOK P o σ sv:=by
 rw [ho] at hp
 simp only [compP] at hp
 split at hp<;>try (cases hp;done)
 rename_i f hf
 obtain rfl:first= #[]:=by simpa using hf
 simp only [Option.map_eq_some_iff] at hp
 obtain ⟨ys,hy,rfl⟩:=hp
 simp only [popK] at h
 refine ⟨_,h.2,fun ε a hs=>⟨_,fun w=>by constructor<;>simp [execOp,ho,Instr.makeFunc];rfl,?_⟩⟩
 have:=sat_caps hs caps.toList ys hy h.1
 refine ⟨_,by simp only [SatC];exact ⟨_,this,rfl⟩,?_⟩
 simp only [boxed,SV.isAgg,Bool.false_eq_true,if_false,List.headD_cons]
 congr 1
 apply Array.ext'
 simp
theorem sound_nck {x:Operand} {p:PIO} (ho:o.op= .nilCheck x) (hp:compP P o.op=some p) (h:popK σ K p):∃ sv,K sv∧PureOK P o σ sv:=by
 rw [ho] at hp
 simp only [compP,Option.map_eq_some_iff] at hp
 obtain ⟨x',hx,rfl⟩:=hp
 have key:∀ sv,x'.ev σ=sv→K sv→(∀ ε v,SatV ε sv v→(∃ ad,v= .pointer (some ad))∨∃ f c,v= .func (.func f) #[] c)→∃ sv,K sv∧PureOK P o σ sv:=by
  intro sv e hK hf
  refine ⟨sv,hK,fun ε a hs=> ?_⟩
  have hv:=e▸compO_ok hx hs
  refine ⟨a.eval x,fun w=> ?_,hv⟩
  rcases hf ε _ hv with ⟨ad,e1⟩|⟨f,c,e1⟩<;>constructor<;>simp [execOp,ho,e1]
 simp only [popK] at h
 split at h
 ·rename_i i p o' e1
  exact key _ e1 h fun ε v hv=> .inl ⟨_,(sat_ptr hv).2.2⟩
 ·rename_i τ w d f l i p o' e1
  refine key _ e1 h fun ε v hv=> .inl ?_
  obtain ⟨cs,h1,h2⟩:=hv
  simp only [SatC] at h1
  obtain ⟨b,of,T,fz,cur,e,_⟩:=h1
  subst e
  exact ⟨_,h2⟩
 ·rename_i i j p o' e1
  refine key _ e1 h fun ε v hv=> .inl ?_
  obtain ⟨_,_,b,cap,n,_,_,e⟩:=sat_vptr hv
  exact ⟨_,e⟩
 ·rename_i c p o' e1
  refine key _ e1 h fun ε v hv=> .inl ?_
  obtain ⟨cs,h1,h2⟩:=hv
  simp only [SatC] at h1
  obtain ⟨b,T,fz,cur,e,_⟩:=h1
  subst e
  exact ⟨_,h2⟩
 ·rename_i f c e1
  refine key _ e1 h fun ε v hv=> .inr ?_
  obtain ⟨vs,_,e⟩:=sat_fn hv
  exact ⟨_,_,e⟩
 ·exact h.elim
theorem sound_mkif {t:TypeId} {x:Operand} {p:PIO} (ho:o.op= .makeInterface t x) (hp:compP P o.op=some p) (h:popK σ K p):∃ sv,K sv∧PureOK P o σ sv:=by
 rw [ho] at hp
 simp only [compP,bind,Option.pure_def] at hp
 obtain ⟨x',hx,hp⟩:=bind_some hp
 split at hp<;>try (cases hp;done)
 rename_i h1 h2
 simp only [Option.some.injEq] at hp;subst hp
 simp only [popK] at h
 refine ⟨_,h.2,fun ε a hs=>⟨.iface t (a.eval x),fun w=> ?_,?_⟩⟩
 ·cases hu:P.underlying t with
  |none=>exact absurd hu h2
  |some d=>
   constructor<;>simp only [execOp,ho,Instr.makeInterface,Sem.run_bind,run_underlying hu,Result.andThen_ok,Sem.events_bind,events_underlying,Result.evThen_ok]<;>cases d<;>first
    |rfl
    |exact absurd hu (h1 _)
 ·obtain ⟨cs,h3,h4⟩:=sat_val (compO_ok hx hs) h.1
  exact ⟨_,by simp only [SatC];exact ⟨cs,h3,rfl⟩,by rw [h4];rfl⟩
theorem sound_tas {t xt:TypeId} {x:Operand} {ok:Bool} {p:PIO} (ho:o.op= .typeAssert x xt t ok) (hp:compP P o.op=some p) (h:popK σ K p):∃ sv,K sv∧PureOK P o σ sv:=by
 rw [ho] at hp
 simp only [compP,bind,Option.pure_def] at hp
 obtain ⟨x',hx,hq⟩:=bind_some hp
 clear hp
 split at hq<;>try (cases hq;done)
 rename_i h1 h2
 cases ok with
 |false=>cases hq
 |true=>
 simp only [if_true] at hq
 split at hq<;>try (cases hq;done)
 rename_i z hz
 cases hq
 obtain ⟨za,i,cs,hi,hi2,hsat⟩:=zagg_ok hz
 have hrun:∀ (a:Act) (t':TypeId) (v:Value) w,a.eval x= .iface t' v→(execOp a.eval o).run P w= .ok (.value (if t'=t then .tuple #[v, .bool true] else .tuple #[.agg cs, .bool false])) w∧(execOp a.eval o).events P w #[]= #[]:=by
  intro a t' v w hv
  cases hu:P.underlying t with
  |none=>exact absurd hu h2
  |some d=>
   have hz:∀ w es,(zeroValue t).events P w es=es:=fun w es=>events_zeroValue ..
   constructor<;>simp only [execOp,ho,Instr.typeAssert,hv,Sem.run_bind,run_underlying hu,Result.andThen_ok,Sem.events_bind,events_underlying,Result.evThen_ok]<;>cases d<;>first
    |exact absurd hu (h1 _)
    |(by_cases e:t'=t
      ·simp [e]
      ·simp [e,zeroValue,run_info hi,hi2])
 simp only [popK] at h
 split at h
 ·rename_i t' y e1
  split at h
  ·rename_i heq
   refine ⟨_,h,fun ε a hs=> ?_⟩
   obtain ⟨xs,k1,s1⟩:=sat_iface (e1▸compO_ok hx hs)
   refine ⟨_,fun w=>⟨by rw [(hrun a _ _ w s1).1,if_pos heq],(hrun a _ _ w s1).2⟩,[boxed y.isAgg xs, .bool true],?_,rfl⟩
   simp only [SatA]
   exact ⟨xs,_,rfl,k1,[.bool true],[],rfl,by simp only [SatC],rfl⟩
  ·rename_i hne
   refine ⟨_,h,fun ε a hs=> ?_⟩
   obtain ⟨xs,k1,s1⟩:=sat_iface (e1▸compO_ok hx hs)
   refine ⟨_,fun w=>⟨by rw [(hrun a _ _ w s1).1,if_neg hne],(hrun a _ _ w s1).2⟩,[.agg cs, .bool false],?_,rfl⟩
   simp only [SatA]
   exact ⟨cs.toList,_,by rw [za];rfl,hsat _,[.bool false],[],rfl,by simp only [SatC],rfl⟩
 ·exact h.elim
theorem slLen_ok {ε:Env} {sv:SV} {v:Value} {n:Nat} (h:slLen sv=some n) (hv:SatV ε sv v):∃ a c,v= .slice a n c:=by
 cases sv<;>simp only [slLen] at h<;>cases h
 ·obtain ⟨cs,h1,h2⟩:=hv
  simp only [SatC] at h1
  obtain ⟨ao,cap,e,_⟩:=h1
  subst e
  exact ⟨_,_,h2⟩
 ·obtain ⟨cs,h1,h2⟩:=hv
  simp only [SatC] at h1
  obtain ⟨ao,e,_⟩:=h1
  subst e
  exact ⟨_,_,h2⟩
 ·obtain ⟨_,h1,h2⟩:=sat_vec hv
  rcases h1 with ⟨e,e2⟩|⟨b,cap,e,_⟩
  ·subst e2;exact ⟨_,_,h2.trans e⟩
  ·exact ⟨_,_,h2.trans e⟩
 ·exact ⟨_,_,sat_nils hv⟩
theorem sound_b {c:Call} {p:PIO} (ho:o.op= .call c) (hp:compP P o.op=some p) (h:popK σ K p):∃ sv,K sv∧PureOK P o σ sv:=by
 rw [ho] at hp
 simp only [compP,compB] at hp
 cases c with
 |mk callee args argTypes=>
 simp only at hp
 split at hp
 ·rename_i x t ea et
  obtain rfl:args= #[x]:=by apply Array.ext';simpa using ea
  obtain rfl:argTypes= #[t]:=by apply Array.ext';simpa using et
  simp only [bind,Option.pure_def] at hp
  obtain ⟨x',hx,hp⟩:=bind_some hp
  have hrun:∀ (a:Act) w,(execOp a.eval o).run P w=((Builtin.len_ #[t] o.type #[a.eval x]).run P w).andThen fun v w=> .ok (.value v) w:=by
   intro a w
   simp [execOp,ho,resolve,invoke,builtin]
  have hev:∀ (a:Act) w,(execOp a.eval o).events P w #[]=(Builtin.len_ #[t] o.type #[a.eval x]).events P w #[]:=by
   intro a w
   simp [execOp,ho,resolve,invoke,builtin]
  split at hp<;>try (cases hp;done)
  ·rename_i hu
   simp only [Option.some.injEq] at hp;subst hp
   simp only [popK] at h
   split at h
   ·rename_i s e1
    refine ⟨_,h,fun ε a hs=>⟨_,fun w=> ?_,mk_int⟩⟩
    have s1:=sat_str (e1▸compO_ok hx hs)
    refine ⟨?_,by rw [hev];simp [Builtin.len_,run_underlying hu,s1]⟩
    rw [hrun]
    simp only [Builtin.len_,Sem.run_bind,run_underlying hu,Result.andThen_ok,s1,List.getElem?_toArray,List.getElem?_cons_zero,Sem.run_pure,goInt]
    rfl
   ·exact h.elim
  ·rename_i e hu
   simp only [Option.some.injEq] at hp;subst hp
   simp only [popK] at h
   split at h
   ·rename_i n hn
    refine ⟨_,h,fun ε a hs=>⟨_,fun w=> ?_,mk_int⟩⟩
    obtain ⟨ad,c,e1⟩:=slLen_ok hn (compO_ok hx hs)
    refine ⟨?_,by rw [hev];simp [Builtin.len_,run_underlying hu,e1]⟩
    rw [hrun]
    simp [Builtin.len_,run_underlying hu,e1,goInt]
   ·exact h.elim
 ·rename_i x y t u ea et
  obtain rfl:args= #[x,y]:=by apply Array.ext';simpa using ea
  split at hp<;>try (cases hp;done)
  simp only [bind,Option.pure_def] at hp
  obtain ⟨x',hx,hp⟩:=bind_some hp
  obtain ⟨y',hy,hp⟩:=bind_some hp
  simp only [Option.some.injEq] at hp;subst hp
  simp only [popK] at h
  split at h
  ·rename_i k a' k' b' e1 e2
   obtain ⟨rfl,hK⟩:=h
   refine ⟨_,hK,fun ε a hs=>⟨_,fun w=> ?_,mk_int⟩⟩
   have s1:=sat_int (e1▸compO_ok hx hs)
   have s2:=sat_int (e2▸compO_ok hy hs)
   constructor<;>simp [execOp,ho,resolve,invoke,builtin,Builtin.max_,s1,s2,Builtin.max2]
  ·exact h.elim
 ·rename_i x y t u ea et
  obtain rfl:args= #[x,y]:=by apply Array.ext';simpa using ea
  split at hp<;>try (cases hp;done)
  simp only [bind,Option.pure_def] at hp
  obtain ⟨x',hx,hp⟩:=bind_some hp
  obtain ⟨y',hy,hp⟩:=bind_some hp
  simp only [Option.some.injEq] at hp;subst hp
  simp only [popK] at h
  split at h
  ·rename_i k a' k' b' e1 e2
   obtain ⟨rfl,hK⟩:=h
   refine ⟨_,hK,fun ε a hs=>⟨_,fun w=> ?_,mk_int⟩⟩
   have s1:=sat_int (e1▸compO_ok hx hs)
   have s2:=sat_int (e2▸compO_ok hy hs)
   constructor<;>simp [execOp,ho,resolve,invoke,builtin,Builtin.min_,s1,s2,Builtin.min2]
  ·exact h.elim
 ·cases hp
end Go.Sx
end
section
namespace Go.Sx
open Go
variable {P:Program} {σ:List SV} {K:SV→Prop} {o:Oper}
theorem foldl_set (off:Nat):∀ (xs:List Value) (k:Nat) (cs:Array Value),off+k+xs.length≤cs.size→
  (xs.zipIdx k).foldl (fun (cs:Array Value) x=>cs.setIfInBounds (off+x.2) x.1) cs=(splice cs.toList (off+k) xs).toArray
 |[],k,cs,h=>by simp [splice]
 |x::xs,k,cs,h=>by
  simp only [List.length_cons] at h
  simp only [List.zipIdx_cons,List.foldl_cons]
  rw [foldl_set off xs (k+1) _ (by simp;omega)]
  congr 1
  apply List.ext_getElem?
  intro j
  have hlen:(cs.setIfInBounds (off+k) x).toList.length=cs.toList.length:=by simp
  have h2:cs.toList.length=cs.size:=by simp
  rw [splice_get (by rw [hlen,h2];omega),splice_get (by simp;omega)]
  simp only [Array.toList_setIfInBounds,List.getElem?_set,List.length_cons,h2]
  by_cases hj:off+(k+1)≤j∧j<off+(k+1)+xs.length
  ·rw [if_pos hj,if_pos (by omega)]
   have:j - (off+k)=(j - (off+(k+1)))+1:=by omega
   rw [this,List.getElem?_cons_succ]
  ·rw [if_neg hj]
   by_cases hj2:off+k=j
   ·subst hj2
    rw [if_pos rfl,if_pos (by omega),if_pos (by omega),Nat.sub_self,List.getElem?_cons_zero]
   ·rw [if_neg hj2,if_neg (by omega)]
theorem zipIdx_foldl (off:Nat) (xs:List Value) (cs:Array Value) (h:off+xs.length≤cs.size):
  xs.toArray.zipIdx.foldl (fun (cs:Array Value) (x:Value×Nat)=>cs.setIfInBounds (off+x.2) x.1) cs=(splice cs.toList off xs).toArray:=by
 have:=foldl_set off xs 0 cs (by omega)
 rw [← Array.foldl_toList,Array.toList_zipIdx]
 simpa using this
theorem bld_fill (place:Nat→Option (Nat×Nat)) (f:Nat→Option (List Step×Nat×Nat)) (hf:∀ k p o n,f k=some (p,o,n)→place k=some (o,n)) {ε:Env} {a:Act} (hs:SlotsOK ε σ a):
  ∀ (parts:List (Nat×Operand)) (ys:List (List Step×Nat×Nat×Opd)) (z:SV) (cs:List Value),compParts f parts=some ys→SatC z ε cs→∀ {K:SV→Prop},bldParts σ z ys K→
   ∃ z' cs',K z'∧SatC z' ε cs'∧Instr.fill place cs.toArray (parts.map fun x=>(x.1,a.eval x.2))=some cs'.toArray
 |[],ys,z,cs,hc,hz,K,h=>by
  simp only [compParts,Option.some.injEq] at hc;subst hc
  exact ⟨z,cs,h,hz,rfl⟩
 |(k,x)::r,ys,z,cs,hc,hz,K,h=>by
  simp only [compParts] at hc
  split at hc<;>try (cases hc;done)
  rename_i p o n y ys' h1 h2 h3
  simp only [Option.some.injEq] at hc;subst hc
  simp only [bldParts] at h
  obtain ⟨⟨hp,hat,hv,hn,hg⟩,h⟩:=h
  obtain ⟨xs,hx1,hx2⟩:=sat_val (compO_ok h2 hs) hv
  have hl:=SatC.length _ hx1
  obtain ⟨_,g1,g2⟩:=SatC.get p z 0 o hz hp hat
  simp only [Nat.sub_zero] at g1 g2
  have hset:=SatC.set p z 0 o hz hp hat hx1 (by omega)
  rw [Nat.sub_zero] at hset
  obtain ⟨z',cs',i1,i2,i3⟩:=bld_fill place f hf hs r ys' _ _ h3 hset h
  refine ⟨z',cs',i1,i2,?_⟩
  have hcells:(a.eval x).cells=xs.toArray:=by rw [hx2];exact scalar_cells hx1
  simp only [List.map_cons,Instr.fill,hf k p o n h1,hcells]
  have hsz:xs.toArray.size=n:=by simp;omega
  rw [if_neg (by simp [hsz];omega)]
  have:=zipIdx_foldl o xs cs.toArray (by simp;omega)
  simp only at this
  rw [this]
  exact i3
def bldEnd (σ:List SV):SV→List (List Step×Nat×Nat×Opd)→SV
 |z,[]=>z
 |z,(p,_,_,x)::r=>bldEnd σ (setP z p (x.ev σ)) r
theorem bldParts_end:∀ (ys:List (List Step×Nat×Nat×Opd)) (z:SV) {K:SV→Prop},bldParts σ z ys K→K (bldEnd σ z ys)∧bldParts σ z ys (fun z'=>z'=bldEnd σ z ys)
 |[],z,K,h=>⟨h,rfl⟩
 |(p,o,n,x)::r,z,K,h=>by
  simp only [bldParts] at h ⊢
  obtain ⟨i1,i2⟩:=bldParts_end r _ h.2
  exact ⟨i1,h.1,i2⟩
theorem mapM_places {fs:Array Field} (hall:∀ f∈fs.toList,(P.info? f.type).isSome=true):
  fs.toList.mapM (fun f=>(P.info? f.type).map fun i=>(f.offset,i.size))=some (fs.toList.map fun f=>(f.offset,((P.info? f.type).map (·.size)).getD 0)):=by
 generalize fs.toList=l at*
 induction l with
 |nil=>rfl
 |cons x r ih=>
  have hx:=hall x (by simp)
  have ih:=ih (fun f hf=>hall f (by simp [hf]))
  cases hi:P.info? x.type with
  |none=>rw [hi] at hx;cases hx
  |some i=>simp [List.mapM_cons,hi,ih]
theorem silent_mapM {α β:Type} {f:α→Sem β} (h:∀ a,Silent P (f a)):∀ l:List α,Silent P (l.mapM f)
 |[]=>by rw [List.mapM_nil];exact silent_pure _
 |a::l=>by
  rw [List.mapM_cons]
  exact silent_bind (h a) fun _ _ _ _=>silent_bind (silent_mapM h l) fun _ _ _ _=>silent_pure _
theorem silent_build (t:TypeId) (parts:Array (Nat×Value)):Silent P (Instr.build t parts):=by
 unfold Instr.build
 refine silent_bind (fun w es=>events_zeroValue ..) fun _ z _ _=>silent_bind (fun w es=>events_underlying ..) fun _ u _ _=> ?_
 split
 ·refine silent_bind ?_ fun _ _ _ _=> ?_
  ·rw [Array.mapM_eq_mapM_toList]
   intro w es
   rw [Sem.events_map]
   exact silent_mapM (fun f=>silent_bind (fun w es=>events_sizeOf ..) fun _ _ _ _=>silent_pure _) _ w es
  ·split<;>first|exact silent_pure _|exact silent_stuck _
 ·refine silent_bind (fun w es=>events_sizeOf ..) fun _ _ _ _=> ?_
  split<;>first|exact silent_pure _|exact silent_stuck _
 ·exact silent_stuck _
theorem silent_bound (v:Value) (y:Nat) (c:BoundsCode):Silent P (Instr.sliceBound v y c):=by
 unfold Instr.sliceBound
 refine silent_bind ?_ fun _ r _ _=> ?_
 ·unfold asIntOf;split<;>first|exact silent_pure _|exact silent_unsup _|exact silent_stuck _
 ·split
  split
  ·exact silent_pure _
  ·intro w es;simp [boundsPanic,runtimePanic]
theorem silent_bounds (sl:Bool) (len cap:Nat) (lo hi mx:Option Value):Silent P (Instr.sliceBounds sl len cap lo hi mx):=by
 unfold Instr.sliceBounds
 cases mx<;>cases hi<;>cases lo<;>(try dsimp only)<;>repeat' first
  |exact silent_pure _
  |refine silent_bind (silent_pure _) fun _ _ _ _=> ?_
  |refine silent_bind (silent_bound _ _ _) fun _ _ _ _=> ?_
  |exact silent_bind (silent_stuck _) (fun _ _ _ h=>by cases h)
theorem silent_slice (t:TypeId) (v:Value) (lo hi mx:Option Value):Silent P (Instr.slice t v lo hi mx):=by
 unfold Instr.slice
 refine silent_bind (fun w es=>events_underlying ..) fun _ u _ _=> ?_
 split
 ·refine silent_ite (silent_bind (silent_stuck _) fun _ _ _ h=>by cases h) ?_
  exact silent_bind (silent_bounds _ _ _ _ _ _) fun _ _ _ _=>silent_pure _
 ·exact silent_bind (silent_bounds _ _ _ _ _ _) fun _ _ _ _=>silent_bind (fun w es=>events_sizeOf ..) fun _ _ _ _=>silent_pure _
 ·refine silent_bind ?_ fun _ _ _ _=>silent_bind (fun w es=>events_underlying ..) fun _ _ _ _=> ?_
  ·unfold asAddr;split<;>first|exact silent_pure _|exact silent_stuck _|(intro w es;simp [runtimePanic])
  split
  ·exact silent_bind (silent_bounds _ _ _ _ _ _) fun _ _ _ _=>silent_bind (fun w es=>events_sizeOf ..) fun _ _ _ _=>silent_pure _
  ·exact silent_stuck _
 ·exact silent_stuck _
theorem silent_sliceAt (t:TypeId) (v:Value) (lo hi mx:Option Value):Silent P (Instr.sliceAt t v lo hi mx):=by
 unfold Instr.sliceAt
 refine silent_bind (fun w es=>events_underlying ..) fun _ u _ _=> ?_
 split
 ·refine silent_bind ?_ fun _ _ _ _=> ?_
  ·unfold Instr.sureAddr;split<;>first|exact silent_pure _|exact silent_stuck _
  exact silent_bind (silent_bounds _ _ _ _ _ _) fun _ _ _ _=>silent_bind (fun w es=>events_sizeOf ..) fun _ _ _ _=>silent_pure _
 ·exact silent_slice _ _ _ _ _
theorem sound_bld {t:TypeId} {parts:Array (Nat×Operand)} {p:PIO} (ho:o.op= .build t parts) (hp:compP P o.op=some p) (h:popK σ K p):∃ sv,K sv∧PureOK P o σ sv:=by
 rw [ho] at hp
 have hev:∀ (a:Act) w,(execOp a.eval o).events P w #[]= #[]:=by
  intro a w
  unfold execOp
  rw [ho]
  exact silent_bind (silent_build _ _) (fun _ _ _ _=>silent_pure _) w _
 simp only [compP,compBld] at hp
 have hmap:∀ a:Act,(parts.map fun (i,x)=>(i,a.eval x)).toList=parts.toList.map fun x=>(x.1,a.eval x.2):=by intro a;simp
 have hrun:∀ (a:Act) w,(execOp a.eval o).run P w=((Instr.build t (parts.map fun (i,x)=>(i,a.eval x))).run P w).andThen fun v w=> .ok (.value v) w:=by
  intro a w
  simp only [execOp,ho,Sem.run_bind]
  rfl
 split at hp<;>try (cases hp;done)
 ·rename_i z fs hz hu
  split at hp<;>try (cases hp;done)
  rename_i hall
  simp only [Option.map_eq_some_iff] at hp
  obtain ⟨ys,hys,rfl⟩:=hp
  simp only [popK] at h
  obtain ⟨h1,h2⟩:=bldParts_end _ _ h
  obtain ⟨i,v,hi,hv,hc⟩:=zok_ok hz
  refine ⟨_,h1.2,fun ε a hs=> ?_⟩
  have hplaces:=mapM_places (P:=P) (fs:=fs) (fun f hf=>List.all_eq_true.1 hall f hf)
  obtain ⟨_,cs',rfl,g1,g2⟩:=bld_fill ((fs.toList.map fun f=>(f.offset,((P.info? f.type).map (·.size)).getD 0)).toArray[·]?) _ (fun k p o n hk=>by
   unfold placeS at hk
   split at hk<;>try (cases hk;done)
   rename_i f hf
   split at hk<;>try (cases hk;done)
   rename_i i2 hi2
   simp only [Option.some.injEq,Prod.mk.injEq] at hk
   obtain ⟨_,rfl,rfl⟩:=hk
   have hf':fs.toList[k]? =some f:=by simpa using hf
   simp [hf',hi2]) hs parts.toList ys z _ hys (hc ε) h2
  have hb:P.built t (parts.map fun (i,x)=>(i,a.eval x)).toList=some cs'.toArray:=by
   unfold Program.built
   rw [hi,hu]
   simp only [hv,hplaces,hmap]
   simpa using g2
  refine ⟨.agg cs'.toArray,fun w=>⟨?_,hev a w⟩,?_⟩
  ·rw [hrun,run_build w t _ _ hb];rfl
  ·have hg:=satC_sat g1
   rw [h1.1] at hg
   exact hg
 ·rename_i z n e hz hu
  split at hp<;>try (cases hp;done)
  rename_i i' hi'
  simp only [Option.map_eq_some_iff] at hp
  obtain ⟨ys,hys,rfl⟩:=hp
  simp only [popK] at h
  obtain ⟨h1,h2⟩:=bldParts_end _ _ h
  obtain ⟨i,v,hi,hv,hc⟩:=zok_ok hz
  refine ⟨_,h1.2,fun ε a hs=> ?_⟩
  obtain ⟨_,cs',rfl,g1,g2⟩:=bld_fill (fun k=>some (k*i'.size,i'.size)) _ (fun k p o n hk=>by simp only [Option.some.injEq,Prod.mk.injEq] at hk ⊢;exact ⟨hk.2.1,hk.2.2⟩) hs parts.toList ys z _ hys (hc ε) h2
  have hb:P.built t (parts.map fun (i,x)=>(i,a.eval x)).toList=some cs'.toArray:=by
   unfold Program.built
   rw [hi,hu]
   simp only [hv,hi',hmap]
   simpa using g2
  refine ⟨.agg cs'.toArray,fun w=>⟨?_,hev a w⟩,?_⟩
  ·rw [hrun,run_build w t _ _ hb];rfl
  ·have hg:=satC_sat g1
   rw [h1.1] at hg
   exact hg
theorem bound_ok {d:Nat} {x:Option Operand} {x':Option Opd} {K:Nat→Prop} (hx:compOO x=some x') (h:popK.bound σ d x' K):
  ∃ l,K l∧(x=none→l=d)∧∀ y,x=some y→∀ ε a,SlotsOK ε σ a→∃ k,a.eval y= .int k (l:Int):=by
 cases x with
 |none=>
  simp only [compOO,Option.some.injEq] at hx;subst hx
  exact ⟨d,h,fun _=>rfl,fun _ hy=>by cases hy⟩
 |some y=>
  simp only [compOO,Option.map_eq_some_iff] at hx
  obtain ⟨y',hy,rfl⟩:=hx
  simp only [popK.bound] at h
  split at h
  ·rename_i k j e
   refine ⟨j.toNat,h.2,(fun hh=>by cases hh),fun y2 hy2 ε a hs=>⟨k,?_⟩⟩
   cases hy2
   have:=sat_int (e▸compO_ok hy hs)
   rw [this,Int.toNat_of_nonneg h.1]
  ·exact h.elim
theorem run_bounds {sl:Bool} {len cap l h:Nat} {lo hi:Option Value} (hl:(lo=none∧l=0)∨∃ k,lo=some (.int k (l:Int))) (hh:(hi=none∧h=len)∨∃ k,hi=some (.int k (h:Int)))
  (h1:l≤h) (h2:h≤cap) (w:World):(Instr.sliceBounds sl len cap lo hi none).run P w= .ok (l,h,cap) w:=by
 have e1:∀ k c,(Instr.sliceBound (.int k (l:Int)) h c).run P w= .ok l w:=fun k c=>by rw [run_sliceBound w k l h c (by omega) (by omega)];simp
 have e2:∀ k c,(Instr.sliceBound (.int k (h:Int)) cap c).run P w= .ok h w:=fun k c=>by rw [run_sliceBound w k h cap c (by omega) (by omega)];simp
 rcases hl with ⟨rfl,rfl⟩|⟨k,rfl⟩<;>rcases hh with ⟨rfl,rfl⟩|⟨k',rfl⟩<;>simp [Instr.sliceBounds,e1,e2]
theorem sound_asl {t n:Nat} {e:TypeId} {w:Nat} {ag:Bool} {x:Operand} {x':Opd} (ho:o.op= .slice t x none none none) (hx:compO x=some x') (hu:P.underlying t=some (.array n e)) (ht:tsz P e=some (w,ag)) (h:popK σ K (.asl n w x')):∃ sv,K sv∧PureOK P o σ sv:=by
 simp only [popK] at h
 have hev:∀ (a:Act) w,(execOp a.eval o).events P w #[]= #[]:=by
  intro a w
  unfold execOp
  rw [ho]
  exact silent_bind (silent_sliceAt _ _ _ _ _) (fun _ _ _ _=>silent_pure _) w _
 split at h
 ·rename_i c p off e1
  split at h
  ·rename_i n' w' f e2
   obtain ⟨⟨rfl,rfl,hm,hat⟩,hK⟩:=h
   refine ⟨_,hK,fun ε a hs=> ?_⟩
   obtain ⟨cs,h3,h4⟩:=e1▸compO_ok hx hs
   simp only [SatC] at h3
   obtain ⟨b,T,fz,cur,rfl,g1,g2,g3⟩:=h3
   have hv:a.eval x= .pointer (some ⟨b,off,none⟩):=h4
   obtain ⟨k1,k2,k3⟩:=SatC.get p c 0 off g3 g2 hat
   rw [e2,Nat.sub_zero] at k2 k3
   simp only [SatC] at k2
   obtain ⟨q1,q2⟩:=k2
   have hwd:wd (.arr n' w' f)=n'*w':=by simp only [wd]
   rw [hwd] at q1 q2 k3
   have hb:=fun w=>run_bounds (P:=P) (sl:=false) (len:=n') (cap:=n') (l:=0) (h:=n') (lo:=none) (hi:=none) (.inl ⟨rfl,rfl⟩) (.inl ⟨rfl,rfl⟩) (Nat.zero_le _) (Nat.le_refl _) w
   have hadd:(if n'=0 then (⟨b,off,none⟩:Addr) else (⟨b,off,none⟩:Addr).add (0*w'))=⟨b,off,none⟩:=by
    split
    ·rfl
    ·simp [Addr.add_lit]
   refine ⟨.slice (some ⟨b,off,none⟩) n' n',fun w=>⟨?_,hev a w⟩,?_⟩
   ·simp only [execOp,ho,Sem.run_bind,Instr.sliceAt,run_underlying hu,Result.andThen_ok,hv,Instr.sureAddr,Sem.run_pure,Option.map_none,hb,run_sizeOf ht,hadd,Nat.sub_zero]
   ·refine ⟨[.slice (some ⟨b,off,none⟩) n' n'],?_,rfl⟩
    simp only [SatC,rng_len]
    refine ⟨some ⟨b,off,none⟩,n',rfl,Nat.le_refl _,(by unfold maxLen;omega),(by simp),fun i hi=>⟨b,off,T,fz,cur,rfl,g1,?_,?_⟩⟩
    ·have:i*w'+w'≤n'*w':=by rw [← Nat.succ_mul];exact Nat.mul_le_mul_right _ hi
     have hl:cur.toList.length=cur.size:=Array.length_toList
     omega
    ·have hg:(rng n').getD i 0=i:=rng_at hi
     have:=q2 i hi
     rw [hg]
     have e3:sub (sub cur.toList off (n'*w')) (i*w') w'=sub cur.toList (off+i*w') w':=by
      have:i*w'+w'≤n'*w':=by rw [← Nat.succ_mul];exact Nat.mul_le_mul_right _ hi
      unfold sub
      rw [List.drop_take,List.drop_drop,List.take_take]
      congr 1
      omega
     rw [e3] at this
     exact this
  ·exact h.elim
 ·rename_i w0 d f l i0 p off e1
  split at h
  ·rename_i n' w' g e2
   obtain ⟨⟨rfl,rfl,hm,rfl,rfl⟩,hK⟩:=h
   refine ⟨_,hK,fun ε a hs=> ?_⟩
   obtain ⟨cs,h3,h4⟩:=e1▸compO_ok hx hs
   simp only [SatC] at h3
   obtain ⟨b,off,T,fz,cur,rfl,_,g1,_,g2,g3⟩:=h3
   rw [e2] at g3
   simp only [SatC] at g3
   obtain ⟨q1,q2⟩:=g3
   obtain ⟨A,hA⟩:∃ A,A=off+i0*w0:=⟨_,rfl⟩
   rw [← hA] at q1 q2 g2
   have hl:cur.toList.length=cur.size:=Array.length_toList
   have hw0:w0=n'*w':=by
    rw [← q1]
    unfold sub
    rw [List.length_take,List.length_drop]
    omega
   have hv:a.eval x= .pointer (some ⟨b,A,none⟩):=by rw [h4,hA,Nat.add_zero];rfl
   have hb:=fun w=>run_bounds (P:=P) (sl:=false) (len:=n') (cap:=n') (l:=0) (h:=n') (lo:=none) (hi:=none) (.inl ⟨rfl,rfl⟩) (.inl ⟨rfl,rfl⟩) (Nat.zero_le _) (Nat.le_refl _) w
   have hadd:(if n'=0 then (⟨b,A,none⟩:Addr) else (⟨b,A,none⟩:Addr).add (0*w'))=⟨b,A,none⟩:=by
    split
    ·rfl
    ·simp [Addr.add_lit]
   refine ⟨.slice (some ⟨b,A,none⟩) n' n',fun w=>⟨?_,hev a w⟩,?_⟩
   ·simp only [execOp,ho,Sem.run_bind,Instr.sliceAt,run_underlying hu,Result.andThen_ok,hv,Instr.sureAddr,Sem.run_pure,Option.map_none,hb,run_sizeOf ht,hadd,Nat.sub_zero]
   ·refine ⟨[.slice (some ⟨b,A,none⟩) n' n'],?_,rfl⟩
    simp only [SatC,rng_len]
    refine ⟨some ⟨b,A,none⟩,n',rfl,Nat.le_refl _,(by unfold maxLen;omega),(by simp),fun i hi=>⟨b,A,T,fz,cur,rfl,g1,?_,?_⟩⟩
    ·have:i*w'+w'≤n'*w':=by rw [← Nat.succ_mul];exact Nat.mul_le_mul_right _ hi
     omega
    ·have hg:(rng n').getD i 0=i:=rng_at hi
     have:=q2 i hi
     rw [hg]
     have e3:sub (sub cur.toList A w0) (i*w') w'=sub cur.toList (A+i*w') w':=by
      have:i*w'+w'≤n'*w':=by rw [← Nat.succ_mul];exact Nat.mul_le_mul_right _ hi
      unfold sub
      rw [List.drop_take,List.drop_drop,List.take_take]
      congr 1
      omega
     rw [e3] at this
     exact this
  ·exact h.elim
 ·exact h.elim
theorem sound_slice {t:TypeId} {x:Operand} {lo hi mx:Option Operand} {p:PIO} (ho:o.op= .slice t x lo hi mx) (hp:compP P o.op=some p) (h:popK σ K p):∃ sv,K sv∧PureOK P o σ sv:=by
 rw [ho] at hp
 have hev:∀ (a:Act) w,(execOp a.eval o).events P w #[]= #[]:=by
  intro a w
  unfold execOp
  rw [ho]
  exact silent_bind (silent_sliceAt _ _ _ _ _) (fun _ _ _ _=>silent_pure _) w _
 simp only [compP,bind,Option.pure_def] at hp
 obtain ⟨x',hx,hp⟩:=bind_some hp
 obtain ⟨lo',hlo,hp⟩:=bind_some hp
 obtain ⟨hi',hhi,hp⟩:=bind_some hp
 obtain ⟨mx',hmx,hp⟩:=bind_some hp
 have hrun:∀ (a:Act) w,(∀ n e,P.underlying t≠some (.array n e))→(execOp a.eval o).run P w=((Instr.slice t (a.eval x) (lo.map a.eval) (hi.map a.eval) (mx.map a.eval)).run P w).andThen fun v w=> .ok (.value v) w:=by
  intro a w hna
  simp only [execOp,ho,Sem.run_bind,Instr.sliceAt]
  cases hu:P.underlying t with
  |none=>simp [Instr.slice,underlying,hu]
  |some d=>
   simp only [run_underlying hu,Result.andThen_ok]
   cases d<;>first
    |rfl
    |exact absurd hu (hna _ _)
 split at hp<;>try (cases hp;done)
 ·rename_i hu
  split at hp<;>try (cases hp;done)
  simp only [Option.some.injEq] at hp;subst hp
  have hmx0:mx=none:=by cases mx<;>simp [compOO] at hmx<;>rfl
  subst hmx0
  simp only [popK] at h
  split at h
  ·rename_i s e1
   obtain ⟨l,h,hl1,hl2⟩:=bound_ok hlo h
   obtain ⟨hh,⟨⟨h1,h2⟩,hK⟩,hh1,hh2⟩:=bound_ok hhi h
   refine ⟨_,hK,fun ε a hs=>⟨_,fun w=>⟨?_,hev a w⟩,mk_str⟩⟩
   have s1:=sat_str (e1▸compO_ok hx hs)
   have hb:=run_bounds (P:=P) (sl:=false) (len:=s.length) (cap:=s.length) (l:=l) (h:=hh) (lo:=lo.map a.eval) (hi:=hi.map a.eval)
    (by cases lo with
     |none=>exact .inl ⟨rfl,hl1 rfl⟩
     |some y=>obtain ⟨k,hk⟩:=hl2 y rfl ε a hs;exact .inr ⟨k,by simp [hk]⟩)
    (by cases hi with
     |none=>exact .inl ⟨rfl,hh1 rfl⟩
     |some y=>obtain ⟨k,hk⟩:=hh2 y rfl ε a hs;exact .inr ⟨k,by simp [hk]⟩) h1 h2 w
   rw [hrun a w (fun n e he=>by rw [hu] at he;cases he)]
   have hsz:(⟨s.toArray⟩:ByteArray).size=s.length:=by simp [ByteArray.size]
   simp only [Instr.slice,Sem.run_bind,run_underlying hu,Result.andThen_ok,s1,hsz,Option.map_none,Option.isSome_none,Bool.false_eq_true,if_false,hb,Sem.run_pure]
   congr 2
   congr 1
   apply ByteArray.ext
   apply Array.ext'
   simp [ByteArray.data_extract,List.extract_eq_take_drop,List.drop_take]
  ·exact h.elim
 ·rename_i e hu
  split at hp<;>try (cases hp;done)
  rename_i n ag ht
  simp only [Option.some.injEq] at hp;subst hp
  cases mx with
  |some ym=>
   simp only [compOO,Option.map_eq_some_iff] at hmx
   obtain ⟨y',hy',rfl⟩:=hmx
   simp only [popK] at h
   split at h
   ·rename_i e0 _;cases e0
   ·rename_i c τ w' d f l0 e0 e1
    cases e0
    obtain ⟨⟨rfl,hsome⟩,h⟩:=h
    obtain ⟨l,h,hl1,hl2⟩:=bound_ok hlo h
    obtain ⟨hh,h,hh1,hh2⟩:=bound_ok hhi h
    obtain ⟨mm,⟨⟨h1,h2,h2'⟩,hK⟩,_,hm2⟩:=bound_ok (x:=some ym) (x':=some y') (by simp [compOO,hy']) h
    subst h2
    cases hi with
    |none=>simp only [compOO,Option.some.injEq] at hhi;subst hhi;cases hsome
    |some yh=>
    refine ⟨_,hK,fun ε a hs=> ?_⟩
    obtain ⟨cs,h3,h4⟩:=e1▸compO_ok hx hs
    simp only [SatC] at h3
    obtain ⟨ao,cap,rfl,h5,h6,h7,h8⟩:=h3
    have hv:a.eval x= .slice ao l0.length cap:=h4
    obtain ⟨km,hkm⟩:=hm2 ym rfl ε a hs
    obtain ⟨kh,hkh⟩:=hh2 yh rfl ε a hs
    have hb:∀ w,(Instr.sliceBounds true l0.length cap (lo.map a.eval) (some (.int kh (hh:Int))) (some (.int km (hh:Int)))).run P w= .ok (l,hh,hh) w:=by
     intro w
     have e1:∀ c,(Instr.sliceBound (.int km (hh:Int)) cap c).run P w= .ok hh w:=fun c=>by rw [run_sliceBound w km hh cap c (by omega) (by omega)];simp
     have e2:∀ c,(Instr.sliceBound (.int kh (hh:Int)) hh c).run P w= .ok hh w:=fun c=>by rw [run_sliceBound w kh hh hh c (by omega) (by omega)];simp
     cases lo with
     |none=>
      have:=hl1 rfl;subst this
      simp [Instr.sliceBounds,e1,e2]
     |some yl=>
      obtain ⟨k,hk⟩:=hl2 yl rfl ε a hs
      have e3:∀ c,(Instr.sliceBound (.int k (l:Int)) hh c).run P w= .ok l w:=fun c=>by rw [run_sliceBound w k l hh c (by omega) (by omega)];simp
      simp [Instr.sliceBounds,e1,e2,e3,hk]
    refine ⟨.slice (if hh=l then ao else ao.map (·.add (l*w'))) (hh - l) (hh - l),fun w=>⟨?_,hev a w⟩,?_⟩
    ·rw [hrun a w (fun n e he=>by rw [hu] at he;cases he)]
     simp only [Instr.slice,Sem.run_bind,run_underlying hu,Result.andThen_ok,hv,Option.map_some,hkm,hkh,hb,run_sizeOf ht,Sem.run_pure]
    ·have hlen:((l0.take hh).drop l).length=hh - l:=by simp;omega
     refine ⟨[.slice (if hh=l then ao else ao.map (·.add (l*w'))) (hh - l) (hh - l)],?_,rfl⟩
     simp only [SatC]
     refine ⟨if hh=l then ao else ao.map (·.add (l*w')),by rw [hlen],by rw [hlen];omega,fun hn=> ?_,fun i hi'=> ?_⟩
     ·rw [hlen]
      split at hn
      ·omega
      ·rw [Option.map_eq_none_iff] at hn;have:=h7 hn;omega
     ·rw [hlen] at hi'
      obtain ⟨b,off,T,fz,cur,rfl,g2,g3,g4⟩:=h8 (l+i) (by omega)
      refine ⟨b,off+l*w',T,fz,cur,?_,g2,?_,?_⟩
      ·rw [if_neg (by omega)];simp [Addr.add_lit]
      ·rw [show off+l*w'+i*w'=off+(l+i)*w' by rw [Nat.add_mul];omega];exact g3
      ·rw [show off+l*w'+i*w'=off+(l+i)*w' by rw [Nat.add_mul];omega]
       have:((l0.take hh).drop l).getD i d=l0.getD (l+i) d:=by
        simp only [List.getD_eq_getElem?_getD,List.getElem?_drop]
        rw [List.getElem?_take_of_lt (by omega)]
       rw [this]
       exact g4
   ·rename_i e0 _;cases e0
   ·exact h.elim
  |none=>
  have hmx0:mx'=none:=by simp only [compOO,Option.some.injEq] at hmx;exact hmx.symm
  subst hmx0
  simp only [popK] at h
  split at h
  ·rename_i τ w' d f l0 _ e1
   obtain ⟨rfl,h⟩:=h
   obtain ⟨l,h,hl1,hl2⟩:=bound_ok hlo h
   obtain ⟨hh,⟨⟨h1,h2⟩,hK⟩,hh1,hh2⟩:=bound_ok hhi h
   refine ⟨_,hK,fun ε a hs=> ?_⟩
   obtain ⟨cs,h3,h4⟩:=e1▸compO_ok hx hs
   simp only [SatC] at h3
   obtain ⟨ao,cap,rfl,h5,h6,h7,h8⟩:=h3
   have hv:a.eval x= .slice ao l0.length cap:=h4
   have hb:=fun w=>run_bounds (P:=P) (sl:=true) (len:=l0.length) (cap:=cap) (l:=l) (h:=hh) (lo:=lo.map a.eval) (hi:=hi.map a.eval)
    (by cases lo with
     |none=>exact .inl ⟨rfl,hl1 rfl⟩
     |some y=>obtain ⟨k,hk⟩:=hl2 y rfl ε a hs;exact .inr ⟨k,by simp [hk]⟩)
    (by cases hi with
     |none=>exact .inl ⟨rfl,hh1 rfl⟩
     |some y=>obtain ⟨k,hk⟩:=hh2 y rfl ε a hs;exact .inr ⟨k,by simp [hk]⟩) h1 (Nat.le_trans h2 h5) w
   refine ⟨.slice (if cap=l then ao else ao.map (·.add (l*w'))) (hh - l) (cap - l),fun w=>⟨?_,hev a w⟩,?_⟩
   ·rw [hrun a w (fun n e he=>by rw [hu] at he;cases he)]
    simp only [Instr.slice,Sem.run_bind,run_underlying hu,Result.andThen_ok,hv,Option.map_none,hb,run_sizeOf ht,Sem.run_pure]
   ·refine ⟨[.slice (if cap=l then ao else ao.map (·.add (l*w'))) (hh - l) (cap - l)],?_,rfl⟩
    simp only [SatC]
    have hlen:((l0.take hh).drop l).length=hh - l:=by simp;omega
    refine ⟨if cap=l then ao else ao.map (·.add (l*w')),cap - l,by rw [hlen],by rw [hlen];omega,by omega,fun hn=> ?_,fun i hi'=> ?_⟩
    ·split at hn
     ·omega
     ·rw [Option.map_eq_none_iff] at hn;have:=h7 hn;omega
    ·rw [hlen] at hi'
     obtain ⟨b,off,T,fz,cur,rfl,g2,g3,g4⟩:=h8 (l+i) (by omega)
     refine ⟨b,off+l*w',T,fz,cur,?_,g2,?_,?_⟩
     ·rw [if_neg (by omega)];simp [Addr.add_lit]
     ·rw [show off+l*w'+i*w'=off+(l+i)*w' by rw [Nat.add_mul];omega];exact g3
     ·rw [show off+l*w'+i*w'=off+(l+i)*w' by rw [Nat.add_mul];omega]
      have:((l0.take hh).drop l).getD i d=l0.getD (l+i) d:=by
       simp only [List.getD_eq_getElem?_getD,List.getElem?_drop]
       rw [List.getElem?_take_of_lt (by omega)]
      rw [this]
      exact g4
  ·rename_i e0 _;cases e0
  ·rename_i i n0 _ e1
   obtain ⟨l,h,hl1,hl2⟩:=bound_ok hlo h
   obtain ⟨hh,⟨⟨h1,h2⟩,hK⟩,hh1,hh2⟩:=bound_ok hhi h
   subst h1
   refine ⟨_,hK,fun ε a hs=> ?_⟩
   obtain ⟨hi3,hi4,hi5⟩:=sat_vec (e1▸compO_ok hx hs)
   obtain ⟨ao,cap,hvv,hnc,hao⟩:∃ ao cap,ε.vv i= .slice ao n0 cap∧n0≤cap∧ao.map (·.add (0*n))=ao:=by
    rcases hi4 with ⟨q1,q2⟩|⟨b,cap,q,q2⟩
    ·exact ⟨none,0,by rw [q1,q2],by omega,rfl⟩
    ·exact ⟨_,_,q,q2,by simp [Addr.add_lit]⟩
   have hv:a.eval x= .slice ao n0 cap:=by rw [hi5,hvv]
   have hb:=fun w=>run_bounds (P:=P) (sl:=true) (len:=n0) (cap:=cap) (l:=0) (h:=hh) (lo:=lo.map a.eval) (hi:=hi.map a.eval)
    (by cases lo with
     |none=>exact .inl ⟨rfl,hl1 rfl⟩
     |some y=>obtain ⟨k,hk⟩:=hl2 y rfl ε a hs;exact .inr ⟨k,by simp [hk]⟩)
    (by cases hi with
     |none=>exact .inl ⟨rfl,hh1 rfl⟩
     |some y=>obtain ⟨k,hk⟩:=hh2 y rfl ε a hs;exact .inr ⟨k,by simp [hk]⟩) (Nat.zero_le _) (Nat.le_trans h2 hnc) w
   have hadd:(if cap=0 then ao else ao.map (·.add (0*n)))=ao:=by
    split
    ·rfl
    ·exact hao
   refine ⟨.slice ao hh cap,fun w=>⟨?_,hev a w⟩,?_⟩
   ·rw [hrun a w (fun n e he=>by rw [hu] at he;cases he)]
    simp only [Instr.slice,Sem.run_bind,run_underlying hu,Result.andThen_ok,hv,Option.map_none,hb,run_sizeOf ht,Sem.run_pure,Nat.sub_zero,hadd]
   ·exact ⟨[.slice ao hh cap],by simp only [SatC];exact ⟨hi3,ao,n0,cap,hvv,h2,rfl⟩,rfl⟩
  ·exact h.elim
 ·rename_i n e hu
  split at hp<;>try (cases hp;done)
  split at hp<;>try (cases hp;done)
  rename_i w ag ht
  simp only [Option.some.injEq] at hp;subst hp
  have l0:lo=none:=by cases lo<;>simp [compOO] at hlo<;>rfl
  have h0:hi=none:=by cases hi<;>simp [compOO] at hhi<;>rfl
  have m0:mx=none:=by cases mx<;>simp [compOO] at hmx<;>rfl
  subst l0;subst h0;subst m0
  exact sound_asl ho hx hu ht h
theorem popK_sound {p:PIO} (hp:compP P o.op=some p) (h:popK σ K p):∃ sv,K sv∧PureOK P o σ sv:=by
 cases ho:o.op with
 |move x=>
  rw [ho] at hp
  simp only [compP,Option.map_eq_some_iff] at hp
  obtain ⟨y,hy,rfl⟩:=hp
  exact sound_mv (.inl ho) hy h
 |assign x=>
  rw [ho] at hp
  simp only [compP,Option.map_eq_some_iff] at hp
  obtain ⟨y,hy,rfl⟩:=hp
  exact sound_mv (.inr ho) hy h
 |pick c x y=>
  rw [ho] at hp
  simp only [compP,bind,Option.pure_def] at hp
  obtain ⟨c',hc,hp⟩:=bind_some hp
  obtain ⟨x',hx,hp⟩:=bind_some hp
  obtain ⟨y',hy,hp⟩:=bind_some hp
  simp only [Option.some.injEq] at hp;subst hp
  exact sound_pick ho hc hx hy h
 |binOp op t x y yt=>exact sound_bin ho hp h
 |unOp op t x=>exact sound_un ho hp h
 |convert s d x=>exact sound_conv ho hp h
 |fieldAddr s x k=>exact sound_fa ho hp h
 |field s x k=>exact sound_fld ho hp h
 |indexAddr t x i=>exact sound_ia ho hp h
 |index t x i=>exact sound_ix ho hp h
 |extract x k=>exact sound_ext ho hp h
 |makeFunc f a b=>exact sound_mkfn ho hp h
 |nilCheck x=>exact sound_nck ho hp h
 |makeInterface t x=>exact sound_mkif ho hp h
 |typeAssert x xt t ok=>exact sound_tas ho hp h
 |call c=>exact sound_b ho hp h
 |build t parts=>exact sound_bld ho hp h
 |slice t x lo hi mx=>exact sound_slice ho hp h
 |_=>rw [ho] at hp;simp only [compP] at hp;cases hp
end Go.Sx
end
