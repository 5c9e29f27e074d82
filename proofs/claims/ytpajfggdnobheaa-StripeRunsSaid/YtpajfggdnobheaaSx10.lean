/- A part of the proof of StripeRuns. Conditions: none. -/
import Derived.Test.YtpajfggdnobheaaSx7
import Derived.Conc.AppendEvents3
set_option linter.unusedVariables false
set_option linter.unusedSimpArgs false
section
namespace Go.Sx
open Go
variable {P:Program}
def Loc.bk:Loc→Option Nat
 | .cell a=>some a.block
 | .obj r=>some r
 |_=>none
def Mk (e:Event):Prop:= ∃ m,e=⟨.mark m,false,true⟩∧Conc.Neutral m
def LsE (R W:Nat→Prop) (e:Event):Prop:=(e.sync=false∧∃ b,Loc.bk e.loc=some b∧(W b∨(R b∧e.write=false)))∨Mk e
def Ls (R W:Nat→Prop) (es:Array Event):Prop:= ∀ e∈es,LsE R W e
theorem Ls.nil (R W:Nat→Prop):Ls R W #[]:=fun e h=>by simp at h
theorem Ls.mono {R W R' W':Nat→Prop} {es:Array Event} (h:Ls R W es) (hr:∀ b,R b→R' b∨W' b) (hw:∀ b,W b→W' b):Ls R' W' es:=fun e he=>by
 rcases h e he with ⟨h1,b,h2,h3⟩|h
 ·refine .inl ⟨h1,b,h2,?_⟩
  rcases h3 with h3|⟨h3,h4⟩
  ·exact .inl (hw b h3)
  ·rcases hr b h3 with h|h
   ·exact .inr ⟨h,h4⟩
   ·exact .inl h
 ·exact .inr h
theorem Ls.push {R W:Nat→Prop} {es:Array Event} (h:Ls R W es) {e:Event} (h1:e.sync=false) {b:Nat} (h2:Loc.bk e.loc=some b) (h3:W b∨(R b∧e.write=false)):Ls R W (es.push e):=fun e' he=>by
 rcases Array.mem_push.1 he with h'|rfl
 ·exact h e' h'
 ·exact .inl ⟨h1,b,h2,h3⟩
theorem Ls.mk {R W:Nat→Prop} {es es':Array Event} (h:Ls R W es) (hh:∀ e∈es',e∈es∨Mk e):Ls R W es':=fun e he=>(hh e he).elim (h e) .inr
section ls
variable {R W:Nat→Prop}
theorem ls_load {w:World} {es:Array Event} (h:Ls R W es) {a:Addr} {u:Value} (hc:w.cell? a=some u) (hb:W a.block∨R a.block):Ls R W ((load a).events P w es):=by
 have e:(load a).events P w es=es.push ⟨.cell a,false,false⟩:=by simp [hc];rfl
 rw [e]
 exact h.push rfl rfl (hb.imp id fun x=>⟨x,rfl⟩)
theorem ls_loadCells {w:World} {a:Addr} (hb:W a.block∨R a.block):∀ (n i:Nat) (acc:Array Value) (es:Array Event),Ls R W es→(∀ j,j<n→(w.cell? (a.add (i+j))).isSome)→Ls R W ((loadCellsFrom a i n acc).events P w es)
 |0,_,_,es,h,_=>by simpa [loadCellsFrom] using h
 |n+1,i,acc,es,h,hc=>by
  obtain ⟨u,hu⟩:=Option.isSome_iff_exists.1 (hc 0 (by omega))
  rw [Nat.add_zero] at hu
  have hr:(load (a.add i)).run P w= .ok u w:=by simp [hu]
  simp only [loadCellsFrom,Sem.events_bind,hr,Result.evThen_ok]
  refine ls_loadCells hb n (i+1) _ _ (ls_load h hu ?_) (fun j hj=>by have:=hc (j+1) (by omega);rwa [show i+(j+1)=i+1+j by omega] at this)
  unfold Addr.add;split<;>exact hb
theorem ls_loadVar {t:TypeId} {n:Nat} {ag:Bool} (ht:tsz P t=some (n,ag)) (h1:ag=false→n=1) (w:World) {b off:Nat} {cur:Array Value} {T:TypeId} {fz:Nat×Nat}
  (hb:w.heap[b]? =some (.cells cur T fz)) (hl:off+n≤cur.size) {es:Array Event} (h:Ls R W es) (hw:W b∨R b):Ls R W ((loadVar t ⟨b,off,none⟩).events P w es):=by
 have hcell:∀ j,j<cur.size→w.cell? ⟨b,j,none⟩=some (cur.getD j undef):=by
  intro j hj
  simp [World.cell?,hb,Array.getD,hj]
 simp only [loadVar,Sem.events_bind,events_isAgg,run_isAgg ht,Result.evThen_ok]
 cases ag with
 |true=>
  simp only [if_true,Sem.events_bind,events_sizeOf,run_sizeOf ht,Result.evThen_ok]
  have hls:Ls R W ((loadCells ⟨b,off,none⟩ n).events P w es):=ls_loadCells (a:=⟨b,off,none⟩) hw n 0 #[] es h (fun j hj=>by rw [Nat.zero_add,Addr.add_lit,hcell _ (by omega)];rfl)
  rw [run_loadCells (P:=P) w ⟨b,off,none⟩ n (fun j=>cur.getD (off+j) undef) (fun j hj=>by rw [Addr.add_lit];exact hcell _ (by omega))]
  exact hls
 |false=>
  have:=h1 rfl
  subst this
  simp only [Bool.false_eq_true,if_false]
  exact ls_load h (hcell off (by omega)) hw
theorem ls_storeCells {g o:Nat} {t:TypeId} (hg:W g):∀ (vs:List Value) (i:Nat) (cur:Array Value) (w:World) (es:Array Event),w.heap[g]? =some (.cells cur t (0,0))→o+i+vs.length≤cur.size→(∀ v∈vs,v.oneCell'=true)→
  Ls R W es→Ls R W ((storeCells ⟨g,o,none⟩ vs i).events P w es)
 |[],_,_,_,_,_,_,_,h=>by simpa [storeCells] using h
 |v::rest,i,cur,w,es,hb,hl,h1,h=>by
  have hi:o+i<cur.size:=by simp at hl;omega
  have hadd:(⟨g,o,none⟩:Addr).add i=⟨g,o+i,none⟩:=Addr.add_lit ..
  have hcell:w.cell? ⟨g,o+i,none⟩=some cur[o+i]:=by simp [World.cell?,hb,hi]
  have hfro:w.frozen? ⟨g,o+i,none⟩=false:=by simp [World.frozen?,hb]
  have hst:(store ((⟨g,o,none⟩:Addr).add i) v).run P w= .ok () (w.setRow g (cur.setIfInBounds (o+i) v)):=by
   rw [hadd,run_store P w _ v _ (h1 v (by simp)),hcell]
   simp [hfro,setCell_eq_setRow w g (o+i) cur t (0,0) v hb]
  have hev:(store ((⟨g,o,none⟩:Addr).add i) v).events P w es=es.push ⟨.cell ⟨g,o+i,none⟩,true,false⟩:=by
   rw [hadd,events_store P w es _ v _ (h1 v (by simp)),hcell]
   simp [hfro]
   rfl
  simp only [storeCells,Sem.events_bind,hst,Result.evThen_ok,hev]
  exact ls_storeCells hg rest (i+1) _ _ _ (setRow_heap w g _ _ t _ hb) (by simp at hl ⊢;omega) (fun u hu=>h1 u (by simp [hu])) (h.push rfl rfl (.inl hg))
theorem ls_storeVar {t:TypeId} {n:Nat} {ag:Bool} (ht:tsz P t=some (n,ag)) (w:World) {b off:Nat} {cur:List Value} {T:TypeId} {v:Value} {xs:List Value}
  (hb:w.heap[b]? =some (.cells cur.toArray T (0,0))) (hv:v.cells=xs.toArray) (hn:xs.length=n) (hl:off+n≤cur.length) (h1:∀ u∈xs,u.oneCell'=true) {es:Array Event} (h:Ls R W es) (hg:W b):
  Ls R W ((storeVar t ⟨b,off,none⟩ v).events P w es):=by
 simp only [storeVar,Sem.events_bind,events_sizeOf,run_sizeOf ht,Result.evThen_ok,hv]
 rw [if_neg (by simp;omega)]
 exact ls_storeCells hg xs 0 cur.toArray w es hb (by simp;omega) h1 h
end ls
theorem run_loadVar {t:TypeId} {n:Nat} {ag:Bool} (ht:tsz P t=some (n,ag)) (h1:ag=false→n=1) (w:World) {b off:Nat} {cur:Array Value} {T:TypeId} {fz:Nat×Nat}
  (hb:w.heap[b]? =some (.cells cur T fz)) (hl:off+n≤cur.size):(loadVar t ⟨b,off,none⟩).run P w= .ok (boxed ag (sub cur.toList off n)) w:=by
 have hcell:∀ j,j<cur.size→w.cell? ⟨b,j,none⟩=some (cur.getD j undef):=by
  intro j hj
  simp [World.cell?,hb,Array.getD,hj]
 simp only [loadVar,Sem.run_bind,run_isAgg ht,Result.andThen_ok]
 cases ag with
 |true=>
  simp only [if_true,Sem.run_bind,run_sizeOf ht,Result.andThen_ok]
  rw [run_loadCells (P:=P) w ⟨b,off,none⟩ n (fun j=>cur.getD (off+j) undef) (fun j hj=>by rw [Addr.add_lit];exact hcell _ (by omega))]
  simp only [Result.andThen_ok,Sem.run_pure,boxed,if_true]
  congr 3
  apply List.ext_getElem?
  intro j
  rw [sub_get]
  by_cases hj:j<n
  ·rw [if_pos hj]
   have:off+j<cur.size:=by omega
   simp [hj,Array.getD,this]
  ·rw [if_neg hj]
   simp [hj]
 |false=>
  have:=h1 rfl
  subst this
  have hlt:off<cur.size:=by omega
  simp only [Bool.false_eq_true,if_false,run_load,hcell off hlt,boxed]
  congr 1
  simp [sub,List.headD_eq_head?_getD,List.head?_take,List.head?_drop,Array.getD,hlt]
theorem run_storeVar {t:TypeId} {n:Nat} {ag:Bool} (ht:tsz P t=some (n,ag)) (w:World) {b off:Nat} {cur:List Value} {T:TypeId} {v:Value} {xs:List Value}
  (hb:w.heap[b]? =some (.cells cur.toArray T (0,0))) (hv:v.cells=xs.toArray) (hn:xs.length=n) (hl:off+n≤cur.length) (h1:∀ u∈xs,u.oneCell'=true):
  (storeVar t ⟨b,off,none⟩ v).run P w= .ok () (w.setRow b (splice cur off xs).toArray):=by
 have hst:=run_storeCells_at P b off T xs 0 cur.toArray w hb (by simp;omega) h1
 simp only [Nat.add_zero] at hst
 simp only [storeVar,Sem.run_bind,run_sizeOf ht,Result.andThen_ok,hv]
 rw [if_neg (by simp;omega)]
 rw [hst]
 rfl
def tabF:List (TypeId×FuncId)→TypeId→Option FuncId
 |[],_=>none
 |(u,f)::r,t=>if u=t then some f else tabF r t
inductive EIO:Type 1 where
 |alloc (T:TypeId) (z:SV)
 |box (T:TypeId) (x:Opd)
 |load (n:Nat) (ag:Bool) (x:Opd)
 |store (n:Nat) (x v:Opd)
 |bsl (E:TypeId) (w len:Nat) (z:SV) (parts:List (Nat×Opd))
 |mks (E:TypeId) (w bytes:Nat) (z:SV) (len cap:Opd)
 |app (E:TypeId) (w bytes:Nat) (s x:Opd)
 |call (f:FuncId) (args:List Opd)
 |qcall (f:FuncId) (args:List Opd)
 |qtab (l:List Int)
 |qbsl (E:TypeId) (w len:Nat) (z:SV) (parts:List (Nat×Opd))
 |again (n:Nat) (ag:Bool) (x:Opd) (d:Nat)
 |magain (k:MK) (args:List Opd) (d:Nat)
 |callv (x:Opd) (args:List Opd)
 |icall (tab:List (TypeId×FuncId)) (x:Opd) (args:List Opd)
 |mop (k:MK) (args:List Opd)
def SV.isSet:SV→Bool
 | .junk=>false
 |_=>true
abbrev Hook:=FuncId→List SV→List Res→(SV→List Res→Prop)→Prop
def peek (m:List Res) (n:Nat) (ag:Bool) (K:SV→Prop):SV→Prop
 | .ptr i p o=>match memAt m i with
  | .blk _ c=>(atP c p 0 o∧wd (getP c p)=n∧(getP c p).isAgg=ag)∧K (getP c p)
  |_=>False
 | .eptr _ d f l i p o=>(atP (f (l.getD i d)) p 0 o∧wd (getP (f (l.getD i d)) p)=n∧(getP (f (l.getD i d)) p).isAgg=ag)∧K (getP (f (l.getD i d)) p)
 | .vptr i j p o=>match memAt m i with
  | .vec _ w l=>(j<l.length∧atP (l.getD j .junk) p (j*w) o∧wd (getP (l.getD j .junk) p)=n∧(getP (l.getD j .junk) p).isAgg=ag)∧K (getP (l.getD j .junk) p)
  |_=>False
 | .ref c p o=>(atP c p 0 o∧wd (getP c p)=n∧(getP c p).isAgg=ag)∧K (getP c p)
 |_=>False
def srcL (m:List Res) (w:Nat):SV→Option (List SV)
 | .vec j _=>match memAt m j with
  | .vec _ w' l=>if w'=w then some l else none
  |_=>none
 | .lst w' _ f l=>if w'=w then some (l.map f) else none
 | .lit w' _ f l=>if w'=w then some (l.map f) else none
 | .nils=>some []
 |_=>none
def qres (w len:Nat) (l:List SV):SV:=if len=1 then .lit w (0:Nat) (fun i=>l.getD i .junk) (List.range len) else .lst w (0:Nat) (fun i=>l.getD i .junk) (List.range len)
theorem lit_lst {τ:Type} {w:Nat} {d:τ} {f:τ→SV} {l:List τ} {ε:Env} {v:Value} (h:SatV ε (.lit w d f l) v):SatV ε (.lst w d f l) v∧∃ ao,v= .slice ao l.length l.length∧(ao=none→l.length=0):=by
 obtain ⟨cs,h1,h2⟩:=h
 simp only [SatC] at h1
 obtain ⟨ao,rfl,k1,k2,k3⟩:=h1
 have hv:v= .slice ao l.length l.length:=h2
 exact ⟨⟨_,by simp only [SatC];exact ⟨ao,l.length,rfl,Nat.le_refl _,k1,k2,k3⟩,h2⟩,ao,hv,k2⟩
theorem qres_sat {ε:Env} {w len:Nat} {l:List SV} {v:Value} (h:SatV ε (.lit w (0:Nat) (fun i=>l.getD i .junk) (List.range len)) v):SatV ε (qres w len l) v:=by
 unfold qres
 split
 ·exact h
 ·exact (lit_lst h).1
def bytesOf:List SV→Option (List UInt8)
 |[]=>some []
 | .int .u8 n::r=>(bytesOf r).map fun l=>UInt8.ofNat n.toNat::l
 |_=>none
def mopK (m:List Res) (k:MK) (xs:List SV) (K:SV→List Res→Prop):Prop:=match k with
 | .make ek ev=>match xs with
  |[]=>K (.map m.length) (m++[.mp ek ev []])
  |[.int _ _]=>K (.map m.length) (m++[.mp ek ev []])
  |_=>False
 | .put ek ev=>match xs with
  |[.map i,key,v]=>match memAt m i with
   | .mp ek' ev' l=>(ek'=ek∧ev'=ev∧esP ek key∧evP ev v)∧K .junk (m.set i (.mp ek ev (mpPut ek key v l)))
   |_=>False
  |_=>False
 | .get ek ev z ok=>match xs with
  |[.map i,key]=>match memAt m i with
   | .mp ek' ev' l=>(ek'=ek∧ev'=ev∧esP ek key)∧K (if ok then .tup [mpRes ev z (mpFind ek key l), .bool (mpFind ek key l).isSome] else mpRes ev z (mpFind ek key l)) m
   |_=>False
  |_=>False
 | .strb=>match xs with
  |[x]=>match srcL m 1 x with
   |some l=>match bytesOf l with
    |some bs=>K (.str bs) m
    |none=>False
   |none=>False
  |_=>False
 | .bstr=>match xs with
  |[.str s]=>s.length≤140737488355328∧K (.lst 1 (0:UInt8) (fun b=>SV.int .u8 (b.toNat:Int)) s) m
  |_=>False
 | .mlen=>match xs with
  |[.map i]=>match memAt m i with
   | .mp _ _ l=>K (.int .i64 l.length) m
   |_=>False
  |_=>False
def poke (m:List Res) (n:Nat) (v:SV) (K:List Res→Prop):SV→Prop
 | .ptr i p o=>match memAt m i with
  | .blk T c=>(atP c p 0 o∧wd (getP c p)=n∧wd v=n∧v.isVal=true)∧K (m.set i (.blk T (setP c p v)))
  |_=>False
 | .vptr i j p o=>match memAt m i with
  | .vec T w l=>(j<l.length∧atP (l.getD j .junk) p (j*w) o∧wd (getP (l.getD j .junk) p)=n∧wd v=n∧v.isVal=true)∧K (m.set i (.vec T w (l.set j (setP (l.getD j .junk) p v))))
  |_=>False
 |_=>False
theorem Env.cl_le (ε:Env):ε.cl.Le ε:=
 {n:=Nat.zero_le _,blk:=fun _ hi=>absurd hi (Nat.not_lt_zero _),vv:=fun _ hi=>absurd hi (Nat.not_lt_zero _),H:=fun _ _ h=>h}
theorem one_of_scalar {c:SV} {n:Nat} {ag:Bool} (h1:wd c=n) (h2:c.isAgg=ag):ag=false→n=1:=by
 intro h;subst h2;rw [← h1];exact wd_scalar h
theorem peek_ok {m:List Res} {n:Nat} {ag:Bool} {K:SV→Prop} {x:SV} (h:peek m n ag K x):
  ∃ c,K c∧c.isAgg=ag∧(ag=false→n=1)∧∀ ε w v,Good ε m w→SatV ε x v→
   ∃ b off cur T fz,v= .pointer (some ⟨b,off,none⟩)∧w.heap[b]? =some (.cells cur T fz)∧off+n≤cur.size∧SatC c ε (sub cur.toList off n)∧((∃ i,ownR ε i (memAt m i)=some b)∨∃ o,ε.H b=some o):=by
 unfold peek at h
 split at h
 ·rename_i i p o
  split at h
  ·rename_i T c hm
   obtain ⟨⟨h1,h2,h3⟩,hK⟩:=h
   refine ⟨_,hK,h3,one_of_scalar h2 h3,fun ε w v hg hx=> ?_⟩
   obtain ⟨hi,hp,rfl⟩:=sat_ptr hx
   obtain ⟨cs,hb,hc⟩:ResOK ε i w (.blk T c):=hm▸hg.res i
   obtain ⟨g1,g2,g3⟩:=SatC.get p c 0 o hc hp h1
   rw [Nat.sub_zero,h2] at g2 g3
   exact ⟨_,o,_,T,_,rfl,hb,by simpa using g3,by simpa using g2, .inl ⟨i,by rw [hm];rfl⟩⟩
  ·exact h.elim
 ·rename_i τ w' d f l i p o
  obtain ⟨⟨h1,h2,h3⟩,hK⟩:=h
  refine ⟨_,hK,h3,one_of_scalar h2 h3,fun ε w v hg hx=> ?_⟩
  obtain ⟨cs,h4,h5⟩:=hx
  simp only [SatC] at h4
  obtain ⟨b,off,T,fz,cur,rfl,g1,g2,g3,g4,g5⟩:=h4
  obtain ⟨i1,i2,i3⟩:=SatC.get p _ 0 o g5 g3 h1
  rw [Nat.sub_zero,h2] at i2 i3
  have hsl:(sub cur.toList (off+i*w') w').length=w':=sub_length (by simpa using g4)
  rw [hsl] at i3
  rw [sub_sub i3] at i2
  refine ⟨b,off+i*w'+o,cur,T,fz,h5,hg.hv b _ g2,?_,i2.mono _ (Env.cl_le ε), .inr ⟨_,g2⟩⟩
  omega
 ·rename_i i j p o
  split at h
  ·rename_i T w' l hm
   obtain ⟨⟨hj,h1,h2,h3⟩,hK⟩:=h
   refine ⟨_,hK,h3,one_of_scalar h2 h3,fun ε w v hg hx=> ?_⟩
   obtain ⟨hi,hp,b,cap,n',e1,e2,rfl⟩:=sat_vptr hx
   obtain ⟨xs,hown,hel⟩:ResOK ε i w (.vec T w' l):=hm▸hg.res i
   rw [e1] at hown
   obtain ⟨T0,hT0,ol,ho⟩:=hown
   rcases ho with ⟨ho,_⟩|⟨g,cap',cur,ho,_,hh,hle,_,hsz,htk⟩
   ·cases ho
   ·simp only [Value.slice.injEq,Option.some.injEq,Addr.mk.injEq] at ho
    obtain ⟨⟨rfl,_,_⟩,rfl,rfl⟩:=ho
    have hs:=hel j hj
    have hjl:=mul_le_len (w:=w') hj
    obtain ⟨i1,i2,i3⟩:=SatC.get p _ (j*w') o hs hp h1
    rw [h2] at i2 i3
    have hlen:(sub xs (j*w') w').length=w':=sub_length (by omega)
    rw [hlen] at i3
    rw [sub_sub i3,show j*w'+(o - j*w')=o by omega] at i2
    have hle':l.length*w'≤cap*w':=Nat.mul_le_mul_right _ hle
    refine ⟨b,o,cur,T0,_,rfl,hh,by omega,?_, .inl ⟨i,by rw [hm];simp [ownR,e1,Value.ownBlock]⟩⟩
    have:sub cur.toList o n=sub xs o n:=by
     rw [← htk]
     simp only [sub,List.drop_take,List.take_take]
     rw [Nat.min_eq_left (by omega)]
    rw [this]
    exact i2
  ·exact h.elim
 ·rename_i c p o
  obtain ⟨⟨h1,h2,h3⟩,hK⟩:=h
  refine ⟨_,hK,h3,one_of_scalar h2 h3,fun ε w v hg hx=> ?_⟩
  obtain ⟨cs,h4,h5⟩:=hx
  simp only [SatC] at h4
  obtain ⟨b,T,fz,cur,rfl,g2,g3,g5⟩:=h4
  obtain ⟨i1,i2,i3⟩:=SatC.get p _ 0 o g5 g3 h1
  rw [Nat.sub_zero,h2] at i2 i3
  exact ⟨b,o,cur,T,fz,h5,hg.hv b _ g2,by simpa using i3,i2.mono _ (Env.cl_le ε), .inr ⟨_,g2⟩⟩
 ·exact h.elim
def EvIn (ε:Env) (m:List Res) (w w':World) (es:Array Event):Prop:=Ls (fun b=> ∃ o,ε.H b=some o) (fun b=>(∃ i,ownR ε i (memAt m i)=some b)∨(w.heap.size≤b∧b<w'.heap.size)) es
theorem EvIn.nil {ε:Env} {m:List Res} {w w':World} {es:Array Event} (h:es= #[]):EvIn ε m w w' es:=by rw [h];exact Ls.nil _ _
def Yields (P:Program) (s:Sem Next) (w:World) (v:Value) (w':World):Prop:=s.run P w= .ok (.value v) w'∨(v=undef∧s.run P w= .ok .skip w')
def EStepR (P:Program) (o:Oper) (σ:List SV) (m:List Res) (σ':List SV) (sv:SV) (m':List Res):Prop:=
 ∀ β ε a w,Inv β ε m w→SlotsOK ε σ a→∃ v w' ε',Yields P (execOp a.eval o) w v w'∧SatV ε' sv v∧SlotsOK ε' σ' a∧Inv β ε' m' w'∧EvIn ε m w w' ((execOp a.eval o).events P w #[])
def EStepL (P:Program) (o:Oper) (σ:List SV) (m:List Res) (sv:SV) (m':List Res):Prop:=
 ∀ β ε a w,Inv β ε m w→SlotsOK ε σ a→∃ v w' ε',Yields P (execOp a.eval o) w v w'∧SatV ε' sv v∧ε.Le ε'∧Inv β ε' m' w'∧EvIn ε m w w' ((execOp a.eval o).events P w #[])
theorem SlotsOK.mono {ε ε':Env} {σ:List SV} {a:Act} (hl:ε.Le ε') (h:SlotsOK ε σ a):SlotsOK ε' σ a:=⟨h.1,fun k=>(h.2 k).mono hl⟩
theorem EStepL.step {o:Oper} {σ:List SV} {m m':List Res} {sv:SV} (h:EStepL P o σ m sv m'):EStepR P o σ m σ sv m':=
 fun β ε a w hi hs=>by
  obtain ⟨v,w',ε',h1,h2,h3,h4,h5⟩:=h β ε a w hi hs
  exact ⟨v,w',ε',h1,h2,hs.mono h3,h4,h5⟩
theorem estep_load {T:TypeId} {x:Operand} {x':Opd} {n:Nat} {ag:Bool} {o:Oper} {σ:List SV} {m:List Res} {K:SV→Prop} (ho:o.op= .load T x) (hx:compO x=some x') (ht:tsz P T=some (n,ag))
  (h:peek m n ag K (x'.ev σ)):∃ sv,K sv∧EStepL P o σ m sv m:=by
 obtain ⟨c,hK,hag,hone,hh⟩:=peek_ok h
 refine ⟨c,hK,fun β ε a w hi hs=> ?_⟩
 obtain ⟨b,off,cur,T',fz,e1,e2,e3,e4,e5⟩:=hh ε w _ hi.good (compO_ok hx hs)
 have hr:(execOp a.eval o).run P w= .ok (.value (boxed ag (sub cur.toList off n))) w:=by
  simp only [execOp,ho,Sem.run_bind,Instr.loadAt,Instr.sureAddr,e1,Sem.run_pure,Result.andThen_ok,run_loadVar ht hone w e2 e3]
 refine ⟨_,_,ε, .inl hr,hag▸satC_sat e4,Env.Le.refl ε,hi,?_⟩
 have he:(execOp a.eval o).events P w #[]=(loadVar T ⟨b,off,none⟩).events P w #[]:=by
  simp [execOp,ho,Instr.loadAt,Instr.sureAddr,e1,run_loadVar ht hone w e2 e3]
 rw [he]
 exact ls_loadVar ht hone w e2 e3 (Ls.nil _ _) (e5.imp .inl id)
theorem Inv.setVec {β:Base} {ε:Env} {m:List Res} {w:World} (h:Inv β ε m w) {i:Nat} {T:TypeId} {wd':Nat} {l l':List SV} {g cap:Nat} {cur cs':List Value}
  {T0:Nat} (hT0:T0=T∨T0+pinB=T) (hm:memAt m i= .vec T wd' l) (hv:ε.vv i= .slice (some ⟨g,0,none⟩) l.length cap) (hcur:w.heap[g]? =some (.cells cur.toArray T0 (0,0))) (hle:l.length≤cap) (hcap:cap≤maxLen)
  (hcl:cur.length=cap*wd') (hlen:l'.length=l.length) (hcl':cs'.length=cur.length)
  (hel:∀ j,j<l'.length→SatC (l'.getD j .junk) ε (sub cs' (j*wd') wd')):
  Inv β ε (m.set i (.vec T wd' l')) (w.setRow g cs'.toArray):=by
 have hmul:l'.length*wd'≤cap*wd':=Nat.mul_le_mul_right _ (by omega)
 have hoi:∀ l,ownR ε i (.vec T wd' l)=some g:=fun _=>by simp [ownR,hv,Value.ownBlock]
 refine h.at1 (memAt_lt (by rw [hm];nofun)) ⟨sub cs' 0 (l'.length*wd'),⟨T0,hT0,by rw [sub_length];omega, .inr ⟨g,cap,cs'.toArray,by rw [hv,hlen],Nat.zero_le _,setRow_heap w _ _ _ T0 _ hcur,by omega,hcap,by simp;omega,by simp [sub]⟩⟩,fun k hk=> ?_⟩
  (by rw [hm];exact fun _ e=>e) (by rw [hm];exact id) (fun b hb=>setRow_other w _ b _ fun e=>hb (by rw [hm,e];exact hoi _)) (by simp [World.setRow]) ⟨rfl,rfl,rfl,rfl⟩
 rw [sub_sub (mul_le_len hk),Nat.zero_add]
 exact hel k hk
theorem estep_store {T:TypeId} {x v:Operand} {x' v':Opd} {n:Nat} {ag:Bool} {o:Oper} {σ:List SV} {m:List Res} {K:List Res→Prop} (ho:o.op= .store T x v) (hx:compO x=some x') (hv:compO v=some v')
  (ht:tsz P T=some (n,ag)) (h:poke m n (v'.ev σ) K (x'.ev σ)):∃ m',K m'∧EStepL P o σ m .junk m':=by
 have hrun:∀ (a:Act) (w:World) (b off:Nat) (cur:List Value) (T':TypeId) (xs:List Value),a.eval x= .pointer (some ⟨b,off,none⟩)→w.heap[b]? =some (.cells cur.toArray T' (0,0))→
   (a.eval v).cells=xs.toArray→xs.length=n→off+n≤cur.length→(∀ u∈xs,u.oneCell'=true)→(execOp a.eval o).run P w= .ok .skip (w.setRow b (splice cur off xs).toArray):=by
  intro a w b off cur T' xs e1 e2 e3 e4 e5 e6
  simp only [execOp,ho,Sem.run_bind,Instr.storeAt,Instr.sureAddr,e1,Sem.run_pure,Result.andThen_ok,run_storeVar ht w e2 e3 e4 e5 e6]
 have hev:∀ (a:Act) (w:World) (b off:Nat) (cur:List Value) (T':TypeId) (xs:List Value),a.eval x= .pointer (some ⟨b,off,none⟩)→w.heap[b]? =some (.cells cur.toArray T' (0,0))→
   (a.eval v).cells=xs.toArray→xs.length=n→off+n≤cur.length→(∀ u∈xs,u.oneCell'=true)→∀ {R W:Nat→Prop},W b→Ls R W ((execOp a.eval o).events P w #[]):=by
  intro a w b off cur T' xs e1 e2 e3 e4 e5 e6 R W hW
  have he:(execOp a.eval o).events P w #[]=(storeVar T ⟨b,off,none⟩ (a.eval v)).events P w #[]:=by
   simp [execOp,ho,Instr.storeAt,Instr.sureAddr,e1,run_storeVar ht w e2 e3 e4 e5 e6]
  rw [he]
  exact ls_storeVar ht w e2 e3 e4 e5 e6 (Ls.nil _ _) hW
 unfold poke at h
 split at h
 ·rename_i i p o' ex
  split at h
  ·rename_i T' c hm
   obtain ⟨⟨h1,h2,h3,h4⟩,hK⟩:=h
   refine ⟨_,hK,fun β ε a w hi hs=> ?_⟩
   obtain ⟨_,hp,e1⟩:=sat_ptr (ex▸compO_ok hx hs)
   obtain ⟨xs,e2,e3⟩:=sat_val (compO_ok hv hs) h4
   obtain ⟨cs,hb,hc⟩:ResOK ε i w (.blk T' c):=hm▸hi.good.res i
   obtain ⟨g1,g2,g3⟩:=SatC.get p c 0 o' hc hp h1
   have hset:=SatC.set p c 0 o' hc hp h1 e2 (by omega)
   rw [Nat.sub_zero] at g2 g3 hset
   have hl:=SatC.length _ e2
   exact ⟨undef,_,ε, .inr ⟨rfl,hrun a w _ _ cs T' xs e1 hb (by rw [e3];exact scalar_cells e2) (by omega) (by omega) (SatC.one _ e2)⟩,trivial,Env.Le.refl ε,hi.setBlk hm hset,
    hev a w _ _ cs T' xs e1 hb (by rw [e3];exact scalar_cells e2) (by omega) (by omega) (SatC.one _ e2) (.inl ⟨i,by rw [hm];rfl⟩)⟩
  ·exact h.elim
 ·rename_i i j p o' ex
  split at h
  ·rename_i T' w' l hm
   obtain ⟨⟨hj,h1,h2,h3,h4⟩,hK⟩:=h
   refine ⟨_,hK,fun β ε a w hi hs=> ?_⟩
   obtain ⟨_,hp,b,cap,n',e1,e2,ev⟩:=sat_vptr (ex▸compO_ok hx hs)
   obtain ⟨xs,e3,e4⟩:=sat_val (compO_ok hv hs) h4
   obtain ⟨ys,hown,hel⟩:ResOK ε i w (.vec T' w' l):=hm▸hi.good.res i
   have hl:=SatC.length _ e3
   obtain ⟨T0,hT0,ol,ho2⟩:=hown
   rcases ho2 with ⟨ho2,_⟩|⟨g,cap',cur,ho2,_,hh,hle,hcap,hsz,htk⟩
   ·rw [e1] at ho2;cases ho2
   ·have ho3:=ho2
    rw [e1] at ho2
    simp only [Value.slice.injEq,Option.some.injEq,Addr.mk.injEq] at ho2
    obtain ⟨⟨rfl,_,_⟩,rfl,rfl⟩:=ho2
    have hs':=hel j hj
    have hjl:=mul_le_len (w:=w') hj
    obtain ⟨i1,i2,i3⟩:=SatC.get p _ (j*w') o' hs' hp h1
    have hset:=SatC.set p _ (j*w') o' hs' hp h1 e3 (by omega)
    have hlen:(sub ys (j*w') w').length=w':=sub_length (by omega)
    rw [hlen] at i3
    have hle':l.length*w'≤cap*w':=Nat.mul_le_mul_right _ hle
    have hcl:cur.toList.length=cap*w':=by simpa using hsz
    have hsub:∀ k,k<l.length→sub cur.toList (k*w') w'=sub ys (k*w') w':=by
     intro k hk
     have:=mul_le_len (w:=w') hk
     rw [← htk]
     simp only [sub,List.drop_take,List.take_take]
     rw [Nat.min_eq_left (by omega)]
    have hb:w.heap[b]? =some (.cells cur.toList.toArray T0 (0,0)):=by simpa using hh
    refine ⟨undef,_,ε, .inr ⟨rfl,hrun a w b o' cur.toList T0 xs ev hb (by rw [e4];exact scalar_cells e3) (by omega) (by omega) (SatC.one _ e3)⟩,trivial,Env.Le.refl ε,hi.setVec hT0 hm ho3 hb hle hcap hcl (by simp) (splice_length (by omega)) (fun k hk=> ?_),
     hev a w b o' cur.toList T0 xs ev hb (by rw [e4];exact scalar_cells e3) (by omega) (by omega) (SatC.one _ e3) (.inl ⟨i,by rw [hm];simp [ownR,ho3,Value.ownBlock]⟩)⟩
    simp only [List.length_set] at hk
    have hkl:=mul_le_len (w:=w') hk
    by_cases hkj:k=j
    ·subst hkj
     rw [sub_splice_in (by omega) (by omega) (by omega),hsub k hk]
     simpa [List.getD,hj] using hset
    ·rw [sub_splice_out ?_ (by omega),hsub k hk]
     ·have:(l.set j (setP (l.getD j .junk) p (v'.ev σ))).getD k .junk=l.getD k .junk:=by
       simp only [List.getD_eq_getElem?_getD,List.getElem?_set]
       rw [if_neg (fun e=>hkj e.symm)]
      rw [this]
      exact hel k hk
     ·rcases Nat.lt_or_gt_of_ne hkj with hlt|hgt
      ·have:=mul_le_len (w:=w') hlt
       right;omega
      ·have:=mul_le_len (w:=w') hgt
       left;omega
  ·exact h.elim
 ·exact h.elim
end Go.Sx
end
section
namespace Go.Sx
open Go
variable {P:Program}
mutual
def kill (i:Nat):SV→SV
 | .vec j n=>if j=i then .junk else .vec j n
 | .vptr j a p o=>if j=i then .junk else .vptr j a p o
 | .pvec j n=>if j=i then .junk else .pvec j n
 | .arr n w f=> .arr n w fun k=>kill i (f k)
 | .agg l=> .agg (killL i l)
 | .tup l=> .tup (killL i l)
 | .fn f l=> .fn f (killL i l)
 | .iface t x=> .iface t (kill i x)
 |c=>c
def killL (i:Nat):List SV→List SV
 |[]=>[]
 |x::r=>kill i x::killL i r
end
def killR (i:Nat):Res→Res
 | .dead=> .dead
 | .blk T c=> .blk T (kill i c)
 | .vec T w l=> .vec T w (killL i l)
 | .mp ek ev l=> .mp ek ev l
structure Env.But (i:Nat) (ε ε':Env):Prop where
 n:ε.n≤ε'.n
 blk:∀ j,j<ε.n→ε'.blk j=ε.blk j
 vv:∀ j,j<ε.n→j≠i→ε'.vv j=ε.vv j
 H:∀ b o,ε.H b=some o→ε'.H b=some o
theorem Env.But.cl {i:Nat} {ε ε':Env} (h:ε.But i ε'):ε.cl.Le ε'.cl:=⟨Nat.le_refl _,fun _ hi=>absurd hi (Nat.not_lt_zero _),fun _ hi=>absurd hi (Nat.not_lt_zero _),h.H⟩
theorem killL_length (i:Nat):∀ l:List SV,(killL i l).length=l.length
 |[]=>rfl
 |_::r=>by simp [killL,killL_length i r]
theorem killL_getD (i:Nat):∀ (l:List SV) (j:Nat),(killL i l).getD j .junk=kill i (l.getD j .junk)
 |[],j=>by simp [killL,kill]
 |x::r,0=>by simp [killL]
 |x::r,j+1=>by simp only [killL,List.getD_cons_succ];exact killL_getD i r j
theorem kill_isAgg (i:Nat) (c:SV):(kill i c).isAgg=c.isAgg:=by
 cases c<;>simp only [kill]<;>first|rfl|(split<;>rfl)
mutual
theorem SatC.kill (i:Nat):∀ (c:SV) {ε ε':Env} {cs:List Value},ε.But i ε'→SatC c ε cs→SatC (kill i c) ε' cs
 | .int ..,_,_,_,_,h=>h
 | .bool ..,_,_,_,_,h=>h
 | .str ..,_,_,_,_,h=>h
 | .arr n w f,_,_,_,hl,h=>by
  simp only [Sx.kill,SatC] at h ⊢
  exact ⟨h.1,fun j hj=>SatC.kill i (f j) hl (h.2 j hj)⟩
 | .agg l,_,_,_,hl,h=>by simp only [Sx.kill,SatC] at h ⊢;exact SatL.kill i l hl h
 | .tup _,_,_,_,_,h=>by simp only [SatC] at h
 | .lst w d f l,_,_,_,hl,h=>by
  simp only [Sx.kill,SatC] at h ⊢
  obtain ⟨ao,cap,h1,h2,h3,h4,h5⟩:=h
  refine ⟨ao,cap,h1,h2,h3,h4,fun i hi=> ?_⟩
  obtain ⟨b,off,T,fz,cur,e1,e2,e3,e4⟩:=h5 i hi
  exact ⟨b,off,T,fz,cur,e1,hl.H _ _ e2,e3,SatC.mono (f (l.getD i d)) hl.cl e4⟩
 | .lit w d f l,_,_,_,hl,h=>by
  simp only [Sx.kill,SatC] at h ⊢
  obtain ⟨ao,h1,h3,h4,h5⟩:=h
  refine ⟨ao,h1,h3,h4,fun i hi=> ?_⟩
  obtain ⟨b,off,T,fz,cur,e1,e2,e3,e4⟩:=h5 i hi
  exact ⟨b,off,T,fz,cur,e1,hl.H _ _ e2,e3,SatC.mono (f (l.getD i d)) hl.cl e4⟩
 | .eptr w d f l i p o,_,_,_,hl,h=>by
  simp only [Sx.kill,SatC] at h ⊢
  obtain ⟨b,off,T,fz,cur,h1,h2,h3,h4,h5,h6⟩:=h
  exact ⟨b,off,T,fz,cur,h1,h2,hl.H _ _ h3,h4,h5,SatC.mono (f (l.getD i d)) hl.cl h6⟩
 | .ref c p o,_,_,_,hl,h=>by
  simp only [Sx.kill,SatC] at h ⊢
  obtain ⟨b,T,fz,cur,h1,h2,h3,h4⟩:=h
  exact ⟨b,T,fz,cur,h1,hl.H _ _ h2,h3,SatC.mono c hl.cl h4⟩
 | .ptr j p o,_,_,_,hl,h=>by
  simp only [Sx.kill,SatC] at h ⊢
  exact ⟨Nat.lt_of_lt_of_le h.1 hl.n,h.2.1,by rw [hl.blk j h.1];exact h.2.2⟩
 | .vec j n,_,_,_,hl,h=>by
  simp only [Sx.kill]
  split
  ·obtain ⟨u,hu⟩:∃ u,_=[u]:=by simp only [SatC] at h;exact ⟨_,h.2.2⟩
   simp only [SatC]
   exact ⟨u,by have:=SatC.one _ h u (by rw [hu];simp);exact this,hu⟩
  ·rename_i hne
   simp only [SatC] at h ⊢
   exact ⟨Nat.lt_of_lt_of_le h.1 hl.n,by rw [hl.vv j h.1 hne];exact h.2⟩
 | .pvec j n,_,_,_,hl,h=>by
  simp only [Sx.kill]
  split
  ·simp only [SatC] at h ⊢
   obtain ⟨_,_,_,_,_,_,e⟩:=h
   exact ⟨_,rfl,e⟩
  ·rename_i hne
   simp only [SatC] at h ⊢
   exact ⟨Nat.lt_of_lt_of_le h.1 hl.n,by rw [hl.vv j h.1 hne];exact h.2⟩
 | .vptr j a p o,_,_,_,hl,h=>by
  simp only [Sx.kill]
  split
  ·simp only [SatC] at h ⊢
   obtain ⟨_,_,b,_,_,_,_,e⟩:=h
   exact ⟨_,rfl,e⟩
  ·rename_i hne
   simp only [SatC] at h ⊢
   exact ⟨Nat.lt_of_lt_of_le h.1 hl.n,h.2.1,by rw [hl.vv j h.1 hne];exact h.2.2⟩
 | .map j,_,_,_,hl,h=>by
  simp only [Sx.kill,SatC] at h ⊢
  exact ⟨Nat.lt_of_lt_of_le h.1 hl.n,by rw [hl.blk j h.1];exact h.2⟩
 | .fn f cap,_,_,_,hl,h=>by
  simp only [Sx.kill,SatC] at h ⊢
  obtain ⟨vs,h1,h2⟩:=h
  exact ⟨vs,SatA.kill i cap hl h1,h2⟩
 | .iface t x,_,_,_,hl,h=>by
  simp only [Sx.kill,SatC,kill_isAgg] at h ⊢
  obtain ⟨xs,h1,h2⟩:=h
  exact ⟨xs,SatC.kill i x hl h1,h2⟩
 | .nils,_,_,_,_,h=>h
 | .nili,_,_,_,_,h=>h
 | .nilf,_,_,_,_,h=>h
 | .nilp,_,_,_,_,h=>h
 | .nilm,_,_,_,_,h=>h
 | .anyb,_,_,_,_,h=>h
 | .raw _,_,_,_,_,h=>h
 | .junk,_,_,_,_,h=>h
theorem SatL.kill (i:Nat):∀ (l:List SV) {ε ε':Env} {cs:List Value},ε.But i ε'→SatL l ε cs→SatL (killL i l) ε' cs
 |[],_,_,_,_,h=>h
 |x::r,_,_,_,hl,h=>by
  simp only [killL,SatL] at h ⊢
  obtain ⟨a,b,h1,h2,h3⟩:=h
  exact ⟨a,b,h1,SatC.kill i x hl h2,SatL.kill i r hl h3⟩
theorem SatA.kill (i:Nat):∀ (l:List SV) {ε ε':Env} {vs:List Value},ε.But i ε'→SatA l ε vs→SatA (killL i l) ε' vs
 |[],_,_,_,_,h=>h
 |x::r,_,_,_,hl,h=>by
  simp only [killL,SatA,kill_isAgg] at h ⊢
  obtain ⟨cs,t,h1,h2,h3⟩:=h
  exact ⟨cs,t,h1,SatC.kill i x hl h2,SatA.kill i r hl h3⟩
end
theorem SatV.kill {i:Nat} {x:SV} {ε ε':Env} {v:Value} (hl:ε.But i ε') (h:SatV ε x v):SatV ε' (Sx.kill i x) v:=by
 by_cases hv:x.isVal=true
 ·obtain ⟨cs,h1,h2⟩:=sat_val h hv
  have:=SatC.kill i x hl h1
  have h3:=satC_sat this
  rw [kill_isAgg] at h3
  rw [h2];exact h3
 ·cases x<;>first
   |exact absurd rfl hv
   |(obtain ⟨vs,h1,h2⟩:=h;exact ⟨vs,SatA.kill i _ hl h1,h2⟩)
   |trivial
theorem SlotsOK.kill {i:Nat} {ε ε':Env} {σ:List SV} {a:Act} (hl:ε.But i ε') (h:SlotsOK ε σ a):SlotsOK ε' (killL i σ) a:=
 ⟨by rw [killL_length];exact h.1,fun k=>by rw [killL_getD];exact (h.2 k).kill hl⟩
theorem Inv.grown {β:Base} {ε:Env} {m:List Res} {w w':World} (h:Inv β ε m w) {i:Nat} {T:TypeId} {wd':Nat} {l l':List SV} {v':Value} {ys:List Value}
  (hT:T<pinB) (hm:memAt m i= .vec T wd' l) (hg:w.grownBy w' (ε.vv i).ownBlock) (hd:w.drawn≤w'.drawn) (hown:w'.ownsRow 0 T wd' v' l'.length ys)
  (hblk:v'.ownBlock=(ε.vv i).ownBlock∨∀ b,v'.ownBlock=some b→w.heap.size≤b)
  (hel:∀ j,j<l'.length→SatC (l'.getD j .junk) ε (sub ys (j*wd') wd')):
  Inv β {ε with vv:=fun j=>if j=i then v' else ε.vv j} ((m.map (killR i)).set i (.vec T wd' (killL i l'))) w'∧ε.But i {ε with vv:=fun j=>if j=i then v' else ε.vv j}:=by
 have hi:i<m.length:=by
  rcases Nat.lt_or_ge i m.length with hi|hi
  ·exact hi
  ·rw [memAt_ge hi] at hm;cases hm
 generalize hε':({ε with vv:=fun j=>if j=i then v' else ε.vv j}:Env)=ε'
 have hbut:ε.But i ε':=by
  subst hε'
  exact ⟨Nat.le_refl _,fun _ _=>rfl,fun j _ hne=>by simp [hne],fun _ _ h=>h⟩
 refine ⟨?_,hbut⟩
 have hat:∀ j,memAt ((m.map (killR i)).set i (.vec T wd' (killL i l'))) j=if j=i then .vec T wd' (killL i l') else killR i (memAt m j):=by
  intro j
  unfold memAt
  rw [List.getD,List.getElem?_set]
  by_cases hj:i=j
  ·subst hj;simp [hi]
  ·rw [if_neg hj,if_neg (fun e=>hj e.symm),List.getElem?_map,List.getD]
   cases m[j]? <;>rfl
 have hoi:ownR ε i (memAt m i)=(ε.vv i).ownBlock:=by rw [hm];rfl
 have hb':∀ j,ε'.blk j=ε.blk j:=by subst hε';intro j;rfl
 have hv1:ε'.vv i=v':=by subst hε';simp
 have hv2:∀ j,j≠i→ε'.vv j=ε.vv j:=by subst hε';intro j hj;simp [hj]
 have hH:ε'.H=ε.H:=by subst hε';rfl
 have hownI:ownR ε' i (.vec T wd' (killL i l'))=v'.ownBlock:=by simp [ownR,hv1]
 have hownO:∀ j,j≠i→ownR ε' j (killR i (memAt m j))=ownR ε j (memAt m j):=by
  intro j hj
  cases memAt m j<;>simp [killR,ownR,hb',hv2 j hj]
 have hcase:∀ j b,ownR ε' j (memAt ((m.map (killR i)).set i (.vec T wd' (killL i l'))) j)=some b→
   (j≠i∧ownR ε j (memAt m j)=some b)∨(j=i∧(ownR ε i (memAt m i)=some b∨w.heap.size≤b)∧v'.ownBlock=some b):=by
  intro j b hb
  rw [hat] at hb
  by_cases hj:j=i
  ·subst hj
   rw [if_pos rfl,hownI] at hb
   refine .inr ⟨rfl,?_,hb⟩
   rcases hblk with e|e
   ·left;rw [hoi,← e];exact hb
   ·right;exact e b hb
  ·rw [if_neg hj,hownO j hj] at hb
   exact .inl ⟨hj,hb⟩
 have hkeep:∀ b,b<w.heap.size→(ε.vv i).ownBlock≠some b→w'.heap[b]? =w.heap[b]? :=fun b hb hne=>hg.block b hb (fun e=>hne e.symm)
 refine ⟨⟨by subst hε';simp [h.good.n],fun j=> ?_,fun a b x hab h1 h2=> ?_,fun a b hb=> ?_,fun b o hb=> ?_,by subst hε';exact h.good.gl⟩,⟨hg.os.trans h.kept.os,hg.tape.trans h.kept.tape,hg.output.trans h.kept.output,Nat.le_trans h.kept.size hg.size,?_,?_,?_,fun e=>Nat.le_trans (h.kept.drawn e) hd⟩,fun a b hb=> ?_,by subst hε';exact h.n,fun j hj=>by rw [hb'];exact h.blk j hj,fun j hj hv=> ?_⟩
 ·rw [hat]
  by_cases hj:j=i
  ·subst hj
   rw [if_pos rfl]
   refine ⟨ys,by rw [killL_length,hv1];exact .of hown,fun k hk=> ?_⟩
   rw [killL_length] at hk
   rw [killL_getD]
   exact SatC.kill j _ hbut (hel k hk)
  ·rw [if_neg hj]
   have hr:=h.good.res j
   have hne:∀ b,ownR ε j (memAt m j)=some b→w'.heap[b]? =w.heap[b]? :=fun b hb=>hkeep b (ownR_lt h.good hb) (fun e=>h.good.disj j i b hj hb (by rw [hoi];exact e))
   cases hmj:memAt m j with
   |dead=>trivial
   |blk T' c''=>
    rw [hmj] at hr
    obtain ⟨cs'',h1,h2⟩:=hr
    exact ⟨cs'',by rw [hb',hne _ (by rw [hmj];rfl)];exact h1,SatC.kill i _ hbut h2⟩
   |vec T' wd l2=>
    rw [hmj] at hr
    obtain ⟨xs,⟨T0,hT0,h1⟩,h2⟩:=hr
    refine ⟨xs,⟨T0,hT0,?_⟩,fun k hk=> ?_⟩
    ·rw [killL_length,hv2 j hj]
     refine ⟨h1.1,?_⟩
     rcases h1.2 with hx|⟨gg,cap,cur,e1,e2,e3,e4⟩
     ·exact .inl hx
     ·exact .inr ⟨gg,cap,cur,e1,e2,by rw [hne gg (by rw [hmj];simp [ownR,e1,Value.ownBlock])];exact e3,e4⟩
    ·rw [killL_length] at hk
     rw [killL_getD]
     exact SatC.kill i _ hbut (h2 k hk)
   |mp ek ev l2=>
    rw [hmj] at hr
    obtain ⟨es,cl,h1,h2⟩:=hr
    exact ⟨es,cl,by rw [hb',hne _ (by rw [hmj];rfl)];exact h1,h2⟩
 ·rcases hcase a x h1 with ⟨ha,h1'⟩|⟨ha,h1',_⟩<;>rcases hcase b x h2 with ⟨hb,h2'⟩|⟨hb,h2',_⟩
  ·exact h.good.disj a b x hab h1' h2'
  ·rcases h2' with h2'|h2'
   ·exact h.good.disj a i x ha h1' h2'
   ·have:=ownR_lt h.good h1';omega
  ·rcases h1' with h1'|h1'
   ·exact h.good.disj b i x hb h2' h1'
   ·have:=ownR_lt h.good h2';omega
  ·omega
 ·rw [hH]
  rcases hcase a b hb with ⟨_,h1⟩|⟨_,h1|h1,_⟩
  ·exact h.good.sep a b h1
  ·exact h.good.sep i b h1
  ·cases hh:ε.H b with
   |none=>rfl
   |some o=>have:=H_lt h.good hh;omega
 ·rw [hH] at hb
  rw [hkeep b (H_lt h.good hb) (fun e=>by have:=h.good.sep i b (by rw [hoi];exact e);rw [this] at hb;cases hb)]
  exact h.good.hv b o hb
 ·intro b hb hB
  rw [hkeep b (Nat.lt_of_lt_of_le hb h.kept.size) (fun e=>by
   rcases h.own i b (by rw [hoi];exact e) with h'|h'
   ·exact hB h'
   ·omega)]
  exact h.kept.heap b hb hB
 ·rw [hH];exact h.kept.H
 ·rw [hH];exact h.kept.fresh
 ·rcases hcase a b hb with ⟨_,h1⟩|⟨_,h1|h1,_⟩
  ·exact h.own a b h1
  ·exact h.own i b h1
  ·right;exact Nat.le_trans h.kept.size h1
 ·rw [hat] at hv
  by_cases hji:j=i
  ·subst hji
   rw [if_pos rfl] at hv
   simp only [Res.isBlk,decide_eq_true_eq] at hv
   exact absurd hv (Nat.not_le.2 hT)
  ·rw [if_neg hji] at hv
   rw [hv2 j hji]
   refine h.vv j hj ?_
   cases hmj:memAt m j<;>rw [hmj] at hv<;>first|rfl|exact hv
end Go.Sx
end
section
namespace Go.Sx
open Go
variable {P:Program}
theorem ResOK.grow {ε ε':Env} {m:List Res} {w w':World} (g:Good ε m w) (hl:ε.Le ε') (hw:∀ b,b<w.heap.size→w'.heap[b]? =w.heap[b]?) {i:Nat} (hi:i<m.length):ResOK ε' i w' (memAt m i):=by
 have hi':i<ε.n:=by rw [g.n];exact hi
 have hr:=g.res i
 cases hm:memAt m i with
 |dead=>trivial
 |blk T c=>
  rw [hm] at hr
  obtain ⟨cs,h1,h2⟩:=hr
  exact ⟨cs,by rw [hl.blk i hi',hw _ (Array.getElem?_eq_some_iff.1 h1).1];exact h1,h2.mono c hl⟩
 |vec T wd l=>
  rw [hm] at hr
  obtain ⟨xs,⟨T0,hT0,h1⟩,h2⟩:=hr
  refine ⟨xs,⟨T0,hT0,?_⟩,fun j hj=>(h2 j hj).mono _ hl⟩
  rw [hl.vv i hi']
  refine ⟨h1.1,?_⟩
  rcases h1.2 with hx|⟨gg,cap,cur,e1,e2,e3,e4⟩
  ·exact .inl hx
  ·exact .inr ⟨gg,cap,cur,e1,e2,by rw [hw _ (Array.getElem?_eq_some_iff.1 e3).1];exact e3,e4⟩
 |mp ek ev l=>
  rw [hm] at hr
  obtain ⟨es,cl,h1,h2⟩:=hr
  exact ⟨es,cl,by rw [hl.blk i hi',hw _ (Array.getElem?_eq_some_iff.1 h1).1];exact h1,h2⟩
theorem Inv.more {β:Base} {ε:Env} {m:List Res} {w w':World} (h:Inv β ε m w) {b:Nat} {v:Value} {r:Res} (hg:w.grownBy w' none) (hd:w.drawn≤w'.drawn)
  (hres:ResOK (ε.more b v) m.length w' r) (hown:∀ x,ownR (ε.more b v) m.length r=some x→w.heap.size≤x):
  Inv β (ε.more b v) (m++[r]) w':=by
 have hn:=h.good.n
 have hw:∀ b,b<w.heap.size→w'.heap[b]? =w.heap[b]? :=fun b hb=>hg.block b hb (by simp)
 have hle:=ε.le_more b v
 have hownI:∀ i,i<m.length→ownR (ε.more b v) i (memAt (m++[r]) i)=ownR ε i (memAt m i):=by
  intro i hi
  rw [memAt_append_lt hi]
  have hi':i<ε.n:=by omega
  cases memAt m i<;>simp [ownR,Env.more,Nat.ne_of_lt hi']
 have hcase:∀ i x,ownR (ε.more b v) i (memAt (m++[r]) i)=some x→(i<m.length∧ownR ε i (memAt m i)=some x)∨(i=m.length∧w.heap.size≤x):=by
  intro i x hb
  rcases Nat.lt_trichotomy i m.length with hi|hi|hi
  ·rw [hownI i hi] at hb;exact .inl ⟨hi,hb⟩
  ·subst hi;rw [memAt_snoc] at hb;exact .inr ⟨rfl,hown x hb⟩
  ·rw [memAt_ge (by simp;omega)] at hb;cases hb
 refine ⟨⟨by simp [Env.more,hn],fun i=> ?_,fun i j x hij h1 h2=> ?_,fun i x hb=> ?_,fun x o hb=> ?_,h.good.gl⟩,⟨hg.os.trans h.kept.os,hg.tape.trans h.kept.tape,hg.output.trans h.kept.output,Nat.le_trans h.kept.size hg.size,?_,h.kept.H,h.kept.fresh,fun e=>Nat.le_trans (h.kept.drawn e) hd⟩,fun i x hb=> ?_,?_,fun i hi=> ?_,fun i hi hv=> ?_⟩
 ·rcases Nat.lt_trichotomy i m.length with hi|hi|hi
  ·rw [memAt_append_lt hi];exact ResOK.grow h.good hle hw hi
  ·subst hi;rw [memAt_snoc];exact hres
  ·rw [memAt_ge (by simp;omega)];trivial
 ·rcases hcase i x h1 with ⟨hi,h1'⟩|⟨hi,hb⟩<;>rcases hcase j x h2 with ⟨hj,h2'⟩|⟨hj,hb2⟩
  ·exact h.good.disj i j x hij h1' h2'
  ·have:=ownR_lt h.good h1';omega
  ·have:=ownR_lt h.good h2';omega
  ·omega
 ·rcases hcase i x hb with ⟨_,h1⟩|⟨_,h1⟩
  ·exact h.good.sep i x h1
  ·cases hh:ε.H x with
   |none=>exact hh
   |some o=>have:=H_lt h.good hh;omega
 ·rw [hw x (H_lt h.good hb)];exact h.good.hv x o hb
 ·intro x hb hB;rw [hw x (Nat.lt_of_lt_of_le hb h.kept.size)];exact h.kept.heap x hb hB
 ·rcases hcase i x hb with ⟨_,h1⟩|⟨_,h1⟩
  ·exact h.own i x h1
  ·right;exact Nat.le_trans h.kept.size h1
 ·have:=h.n;simp [Env.more];omega
 ·have:=h.n
  have e:=h.blk i hi
  simp [Env.more]
  rw [if_neg (by omega)];exact e
 ·have hn':=h.n
  rw [memAt_append_lt (by omega)] at hv
  have e:=h.vv i hi hv
  simp [Env.more]
  rw [if_neg (by omega)];exact e
section
variable {o:Oper} {σ:List SV} {m:List Res}
theorem estep_alloc {T:TypeId} {z:SV} (ho:o.op= .alloc T) (hz:zok P T=some z):EStepL P o σ m (.ptr m.length [] 0) (m++[.blk T z]):=by
 intro β ε a w hi hs
 obtain ⟨i,v,h1,h2,h3⟩:=zok_ok hz
 have hr:(execOp a.eval o).run P w= .ok (.value (.pointer (some ⟨w.heap.size,0,none⟩))) (w.alloc (.cells v.cells T)):=by
  simp [execOp,ho,Instr.alloc,zeroValue,typeInfo,h1,h2,newVar,newRow]
 have:=hi.alloc (T:=T) (h3 ε)
 simp only [Array.toArray_toList] at this
 refine ⟨_,_,_, .inl hr,?_,ε.le_more _ _,this, .nil (by simp [execOp,ho,Instr.alloc,zeroValue,typeInfo,h1,h2,newVar,newRow])⟩
 refine ⟨_,by simp only [SatC];exact ⟨by simp [Env.more,hi.good.n],trivial,rfl⟩,?_⟩
 simp [boxed,SV.isAgg,Env.more,hi.good.n]
theorem estep_box {T:TypeId} {x:Operand} {x':Opd} (ho:o.op= .box T x) (hx:compO x=some x') (hv:(x'.ev σ).isVal=true):
  EStepL P o σ m (.ptr m.length [] 0) (m++[.blk T (x'.ev σ)]):=by
 intro β ε a w hi hs
 obtain ⟨cs,h1,h2⟩:=sat_val (compO_ok hx hs) hv
 have hr:(execOp a.eval o).run P w= .ok (.value (.pointer (some ⟨w.heap.size,0,none⟩))) (w.alloc (.cells cs.toArray T)):=by
  have:=scalar_cells h1
  simp [execOp,ho,Instr.box,newVar,newRow,h2,this]
 refine ⟨_,_,_, .inl hr,?_,ε.le_more _ _,hi.alloc h1, .nil (by simp [execOp,ho,Instr.box,newVar,newRow])⟩
 refine ⟨_,by simp only [SatC];exact ⟨by simp [Env.more,hi.good.n],trivial,rfl⟩,?_⟩
 simp [boxed,SV.isAgg,Env.more,hi.good.n]
theorem silent_buildSlice (t:TypeId) (len:Nat) (parts:Array (Nat×Value)):Silent P (Instr.buildSlice t len parts):=by
 unfold Instr.buildSlice
 refine silent_bind (fun w es=>events_underlying ..) fun _ u _ _=> ?_
 split
 ·rename_i E _
  refine silent_bind (fun w es=>events_sizeOf ..) fun _ n _ _=> ?_
  refine silent_ite (silent_bind (silent_unsup _) fun _ _ _ h=>by cases h) ?_
  have fin:∀ z:Array Value,Silent P (match Instr.fill (fun i=>some (i*n,n)) ((Array.range (len*n)).map (z[· %z.size]!)) parts.toList with
    |some cells=>do pure (.slice (some (← newRow E cells)) len len)
    |_=>stuck "buildSlice: a part of the wrong size" :Sem Value):=by
   intro z
   split
   ·refine silent_bind ?_ fun _ _ _ _=>silent_pure _
    unfold newRow
    exact silent_bind (fun w es=>events_newObj ..) fun _ _ _ _=>silent_pure _
   ·exact silent_stuck _
  split
  ·exact silent_bind (silent_pure _) fun _ z _ _=>fin z
  ·exact silent_bind (fun w es=>events_zeroValue ..) fun _ z _ _=>fin z.cells
 ·exact silent_stuck _
theorem ev_bsl {T:TypeId} {len:Nat} {parts:Array (Nat×Operand)} (ho:o.op= .buildSlice T len parts) (a:Act) (w:World):(execOp a.eval o).events P w #[]= #[]:=by
 unfold execOp
 rw [ho]
 exact silent_bind (silent_buildSlice _ _ _) (fun _ _ _ _=>silent_pure _) w _
def bslParts (σ:List SV) (w:Nat):List SV→List (Nat×Opd)→(List SV→Prop)→Prop
 |l,[],K=>K l
 |l,(k,x)::r,K=>(k<l.length∧(x.ev σ).isVal=true∧wd (x.ev σ)=w)∧bslParts σ w (l.set k (x.ev σ)) r K
def bslEnd (σ:List SV):List SV→List (Nat×Opd)→List SV
 |l,[]=>l
 |l,(k,x)::r=>bslEnd σ (l.set k (x.ev σ)) r
theorem bslEnd_len:∀ (ys:List (Nat×Opd)) (l:List SV),(bslEnd σ l ys).length=l.length
 |[],_=>rfl
 |(k,x)::r,l=>by simp [bslEnd,bslEnd_len r]
theorem bslParts_end {w:Nat}:∀ (ys:List (Nat×Opd)) (l:List SV) {K:List SV→Prop},bslParts σ w l ys K→K (bslEnd σ l ys)∧bslParts σ w l ys (fun _=>True)
 |[],l,K,h=>⟨h,trivial⟩
 |(k,x)::r,l,K,h=>by
  simp only [bslParts] at h ⊢
  obtain ⟨i1,i2⟩:=bslParts_end r _ h.2
  exact ⟨i1,h.1,i2⟩
def compEls:List (Nat×Operand)→Option (List (Nat×Opd))
 |[]=>some []
 |(k,x)::r=>match compO x,compEls r with
  |some y,some ys=>some ((k,y)::ys)
  |_,_=>none
def SatE (ε:Env) (w:Nat) (l:List SV) (cs:List Value):Prop:=cs.length=l.length*w∧∀ j,j<l.length→SatC (l.getD j .junk) ε (sub cs (j*w) w)
theorem SatE.set {ε:Env} {w:Nat} {l:List SV} {cs xs:List Value} {k:Nat} {x:SV} (h:SatE ε w l cs) (hk:k<l.length) (hx:SatC x ε xs) (hw:xs.length=w):SatE ε w (l.set k x) (splice cs (k*w) xs):=by
 have hkl:=mul_le_len (w:=w) hk
 have h1:=h.1
 refine ⟨by rw [splice_length (by omega),List.length_set];exact h.1,fun j hj=> ?_⟩
 rw [List.length_set] at hj
 have hjl:=mul_le_len (w:=w) hj
 by_cases hjk:j=k
 ·subst hjk
  rw [sub_splice_in (by omega) (by omega) (by omega)]
  have:splice (sub cs (j*w) w) (j*w - j*w) xs=xs:=by
   have hl:(sub cs (j*w) w).length=w:=sub_length (by omega)
   simp only [Nat.sub_self,splice,List.take_zero,List.nil_append,Nat.zero_add]
   rw [List.drop_of_length_le (by omega)];simp
  rw [this]
  simpa [List.getD,hj] using hx
 ·rw [sub_splice_out ?_ (by omega)]
  ·have:(l.set k x).getD j .junk=l.getD j .junk:=by
    simp only [List.getD_eq_getElem?_getD,List.getElem?_set]
    rw [if_neg (fun e=>hjk e.symm)]
   rw [this]
   exact h.2 j hj
  ·rcases Nat.lt_or_gt_of_ne hjk with hlt|hgt
   ·have:=mul_le_len (w:=w) hlt
    right;omega
   ·have:=mul_le_len (w:=w) hgt
    left;omega
theorem bsl_fill {ε:Env} {a:Act} {w:Nat} (hs:SlotsOK ε σ a):∀ (parts:List (Nat×Operand)) (ys:List (Nat×Opd)) (l:List SV) (cs:List Value),compEls parts=some ys→SatE ε w l cs→bslParts σ w l ys (fun _=>True)→
  ∃ cs',SatE ε w (bslEnd σ l ys) cs'∧Instr.fill (fun i=>some (i*w,w)) cs.toArray (parts.map fun x=>(x.1,a.eval x.2))=some cs'.toArray
 |[],ys,l,cs,hc,hl,h=>by
  simp only [compEls,Option.some.injEq] at hc;subst hc
  exact ⟨cs,hl,rfl⟩
 |(k,x)::r,ys,l,cs,hc,hl,h=>by
  simp only [compEls] at hc
  split at hc<;>try (cases hc;done)
  rename_i y ys' h1 h2
  simp only [Option.some.injEq] at hc;subst hc
  simp only [bslParts] at h
  obtain ⟨⟨hk,hv,hw⟩,h⟩:=h
  obtain ⟨xs,hx1,hx2⟩:=sat_val (compO_ok h1 hs) hv
  have hlen:=SatC.length _ hx1
  have hkl:=mul_le_len (w:=w) hk
  have h3:=hl.1
  obtain ⟨cs',i1,i2⟩:=bsl_fill hs r ys' _ _ h2 (hl.set hk hx1 (by omega)) h
  refine ⟨cs',i1,?_⟩
  have hcells:(a.eval x).cells=xs.toArray:=by rw [hx2];exact scalar_cells hx1
  simp only [List.map_cons,Instr.fill,hcells]
  have hsz:xs.toArray.size=w:=by simp;omega
  rw [if_neg (by simp [hsz];omega)]
  have:=zipIdx_foldl (k*w) xs cs.toArray (by simp;omega)
  simp only at this
  rw [this]
  exact i2
theorem satE_zero {ε:Env} {z:SV} {w n:Nat} {zc:List Value} (hz:SatC z ε zc) (hw:zc.length=w):SatE ε w (List.replicate n z) ((Array.range (n*w)).map (zc.toArray[· %zc.toArray.size]!)).toList:=by
 refine ⟨by simp,fun j hj=> ?_⟩
 simp only [List.length_replicate] at hj
 have hjl:=mul_le_len (w:=w) hj
 have hg:(List.replicate n z).getD j .junk=z:=by simp [List.getD,hj]
 rw [hg]
 have:sub ((Array.range (n*w)).map (zc.toArray[· %zc.toArray.size]!)).toList (j*w) w=zc:=by
  apply List.ext_getElem?
  intro k
  rw [sub_get]
  by_cases hk:k<w
  ·rw [if_pos hk]
   have h1:j*w+k<n*w:=by omega
   have h2:(j*w+k)%w=k:=by rw [Nat.mul_comm,Nat.mul_add_mod,Nat.mod_eq_of_lt hk]
   have h3:k<zc.length:=by omega
   simp [h1,hw,h2]
   rw [List.getElem?_eq_getElem h3]
   rfl
  ·rw [if_neg hk,List.getElem?_eq_none (by omega)]
 rw [this]
 exact hz
theorem run_bsl {T E:TypeId} {len w:Nat} {z:SV} {ag:Bool} {parts:Array (Nat×Operand)} {ys:List (Nat×Opd)} (ho:o.op= .buildSlice T len parts) (hu:P.underlying T=some (.slice E)) (hz:zok P E=some z)
  (ht:tsz P E=some (w,ag)) (hwd:wd z=w) (hlen:len*w≤2^24) (h0:0<w) (hc:compEls parts.toList=some ys) (h2:bslParts σ w (List.replicate len z) ys (fun _=>True)) {ε:Env} {a:Act} (wd':World) (hs:SlotsOK ε σ a):
  ∃ cs',SatE ε w (bslEnd σ (List.replicate len z) ys) cs'∧(execOp a.eval o).run P wd'= .ok (.value (.slice (some ⟨wd'.heap.size,0,none⟩) len len)) (wd'.alloc (.cells cs'.toArray E)):=by
 obtain ⟨i,v,e1,e2,e3⟩:=zok_ok hz
 have hzl:=SatC.length _ (e3 ε)
 obtain ⟨cs',g1,g2⟩:=bsl_fill (w:=w) hs parts.toList ys _ _ hc (satE_zero (n:=len) (e3 ε) (by omega)) h2
 refine ⟨cs',g1,?_⟩
 have hpl:(parts.map fun (i,x)=>(i,a.eval x)).toList=parts.toList.map fun x=>(x.1,a.eval x.2):=by simp
 simp only [execOp,ho,Instr.buildSlice,Sem.run_bind,run_underlying hu,Result.andThen_ok,run_sizeOf ht]
 rw [if_neg (by omega)]
 by_cases hz0:len*w=0
 ·have hl0:len=0:=by
   rcases Nat.mul_eq_zero.1 hz0 with h|h
   ·exact h
   ·omega
  subst hl0
  simp only [Nat.zero_mul,if_true,Sem.run_bind,Sem.run_pure,Result.andThen_ok,hpl]
  have g2':=g2
  rw [Nat.zero_mul] at g2'
  have r0:∀ f:Nat→Value,(Array.range 0).map f= #[]:=fun f=>by apply Array.ext';simp
  rw [r0] at g2'
  simp only [r0]
  have g3:Instr.fill (fun i=>some (i*w,w)) #[] (parts.toList.map fun x=>(x.1,a.eval x.2))=some cs'.toArray:=g2'
  simp [g3,newRow]
 rw [if_neg hz0]
 simp only [Sem.run_bind,zeroValue,typeInfo,run_program,Result.andThen_ok,e1,Sem.run_pure,e2,hpl]
 have:((Array.range (len*w)).map (v.cells[· %v.cells.size]!))=((Array.range (len*w)).map (v.cells.toList.toArray[· %v.cells.toList.toArray.size]!)).toList.toArray:=by apply Array.ext';simp
 rw [this,g2]
 simp [newRow]
theorem estep_bsl {T E:TypeId} {len w:Nat} {z:SV} {ag:Bool} {parts:Array (Nat×Operand)} {ys:List (Nat×Opd)} {K:List SV→Prop} (ho:o.op= .buildSlice T len parts) (hu:P.underlying T=some (.slice E)) (hz:zok P E=some z)
  (ht:tsz P E=some (w,ag)) (hwd:wd z=w) (hlen:len*w≤2^24) (h0:0<w) (hc:compEls parts.toList=some ys) (h:bslParts σ w (List.replicate len z) ys K):
  ∃ l,K l∧EStepL P o σ m (.vec m.length len) (m++[.vec E w l]):=by
 obtain ⟨h1,h2⟩:=bslParts_end _ _ h
 refine ⟨_,h1,fun β ε a wd' hi hs=> ?_⟩
 obtain ⟨cs',g1,hr⟩:=run_bsl ho hu hz ht hwd hlen h0 hc h2 wd' hs
 have hll:(bslEnd σ (List.replicate len z) ys).length=len:=by rw [bslEnd_len];simp
 have hg1:=g1.1
 rw [hll] at hg1
 have hlm:len≤maxLen:=by
  have:len≤len*w:=Nat.le_mul_of_pos_right _ h0
  unfold maxLen;omega
 refine ⟨_,_,ε.more 0 (.slice (some ⟨wd'.heap.size,0,none⟩) len len), .inl hr,?_,ε.le_more _ _,hi.more (World.grownBy_alloc _ _ _) (Nat.le_refl _) ?_ ?_, .nil (ev_bsl ho a _)⟩
 ·refine ⟨[.slice (some ⟨wd'.heap.size,0,none⟩) len len],?_,rfl⟩
  simp only [SatC]
  refine ⟨by simp [Env.more,hi.good.n], .inr ⟨wd'.heap.size,len,?_⟩,?_⟩<;>simp [Env.more,hi.good.n]
 ·refine ⟨cs',?_,fun j hj=>(g1.2 j hj).mono _ (ε.le_more _ _)⟩
  have hvv:(ε.more 0 (.slice (some ⟨wd'.heap.size,0,none⟩) len len)).vv m.length= .slice (some ⟨wd'.heap.size,0,none⟩) len len:=by simp [Env.more,hi.good.n]
  rw [hvv,hll]
  exact .of ⟨hg1, .inr ⟨wd'.heap.size,len,cs'.toArray,rfl,Nat.zero_le _,heap_alloc_new wd' _,Nat.le_refl _,hlm,by simpa using hg1,by rw [List.take_of_length_le (by simp [hg1])]⟩⟩
 ·intro x hx
  simp [ownR,Env.more,hi.good.n,Value.ownBlock] at hx
  omega
theorem Inv.allocH {β:Base} {ε:Env} {m:List Res} {w:World} (h:Inv β ε m w) (cs:List Value) (T:TypeId):
  Inv β {ε with H:=fun b=>if b=w.heap.size then some (.cells cs.toArray T (0,0)) else ε.H b} m (w.alloc (.cells cs.toArray T))∧
  ε.Le {ε with H:=fun b=>if b=w.heap.size then some (.cells cs.toArray T (0,0)) else ε.H b}:=by
 have hw:∀ b,b<w.heap.size→(w.alloc (.cells cs.toArray T)).heap[b]? =w.heap[b]? :=fun b hb=>Go.RowKit.Below.heap_alloc w _ b hb
 have hH:∀ b o,ε.H b=some o→(if b=w.heap.size then some (.cells cs.toArray T (0,0)) else ε.H b)=some o:=by
  intro b o hb
  rw [if_neg (by have:=H_lt h.good hb;omega)];exact hb
 have hle:ε.Le {ε with H:=fun b=>if b=w.heap.size then some (.cells cs.toArray T (0,0)) else ε.H b}:=⟨Nat.le_refl _,fun _ _=>rfl,fun _ _=>rfl,hH⟩
 refine ⟨⟨h.good.grow hle h.good.n (fun _ _=>rfl) (fun _ _=>rfl) hw (fun b o hb=> ?_) (fun i b hb=> ?_),⟨h.kept.os,h.kept.tape,h.kept.output,?_,?_,fun b o hb=>hH b o (h.kept.H b o hb),fun b o hb=> ?_,h.kept.drawn⟩,h.own,h.n,h.blk,h.vv⟩,hle⟩
 ·simp only at hb
  by_cases e:b=w.heap.size
  ·rw [if_pos e] at hb
   subst e
   rw [heap_alloc_new w]
   exact hb
  ·rw [if_neg e] at hb
   rw [hw b (H_lt h.good hb)];exact h.good.hv b o hb
 ·have:=ownR_lt h.good hb
  simp only
  rw [if_neg (by omega)];exact h.good.sep i b hb
 ·have:=h.kept.size;simp;omega
 ·intro b hb hB;rw [hw b (Nat.lt_of_lt_of_le hb h.kept.size)];exact h.kept.heap b hb hB
 ·simp only at hb
  by_cases e:b=w.heap.size
  ·right;left;rw [e];exact h.kept.size
  ·rw [if_neg e] at hb;exact h.kept.fresh b o hb
def tabOf:Nat→List (Nat×Opd)→Option (List Int)
 |_,[]=>some []
 |j,(i,x)::r=>match x with
  | .c (.int .i64 n)=>if i=j then (tabOf (j+1) r).map (n:: ·) else none
  |_=>none
theorem tab_parts:∀ (ys:List (Nat×Opd)) (j:Nat) (l:List Int) (L:List SV),tabOf j ys=some l→L.length=j+l.length→
  bslParts σ 1 L ys (fun _=>True)∧(bslEnd σ L ys).length=L.length∧(∀ k,k<j→(bslEnd σ L ys).getD k .junk=L.getD k .junk)∧∀ k,k<l.length→(bslEnd σ L ys).getD (j+k) .junk= .int .i64 (l.getD k 0)
 |[],j,l,L,h,hl=>by
  simp only [tabOf,Option.some.injEq] at h;subst h
  exact ⟨trivial,rfl,fun _ _=>rfl,fun k hk=>absurd hk (Nat.not_lt_zero _)⟩
 |(i,x)::r,j,l,L,h,hl=>by
  simp only [tabOf] at h
  split at h<;>try (cases h;done)
  rename_i n
  split at h<;>try (cases h;done)
  rename_i hij
  subst hij
  simp only [Option.map_eq_some_iff] at h
  obtain ⟨l',h1,rfl⟩:=h
  simp only [List.length_cons] at hl
  obtain ⟨k1,k2,k3,k4⟩:=tab_parts r (i+1) l' (L.set i (.int .i64 n)) h1 (by simp;omega)
  refine ⟨⟨⟨by omega,rfl,rfl⟩,k1⟩,by rw [bslEnd,Opd.ev,k2];simp,fun k hk=> ?_,fun k hk=> ?_⟩
  ·rw [bslEnd,Opd.ev,k3 k (by omega),List.getD,List.getD,List.getElem?_set,if_neg (by omega)]
  ·rw [bslEnd,Opd.ev]
   cases k with
   |zero=>
    rw [Nat.add_zero,k3 i (by omega),List.getD,List.getElem?_set,if_pos rfl,if_pos (by omega)]
    rfl
   |succ k=>
    have:=k4 k (by simpa using hk)
    rw [show i+(k+1)=i+1+k from by omega,this]
    rfl
theorem estep_tab {T E:TypeId} {len:Nat} {z:SV} {ag:Bool} {parts:Array (Nat×Operand)} {ys:List (Nat×Opd)} {l:List Int} (ho:o.op= .buildSlice T len parts) (hu:P.underlying T=some (.slice E)) (hz:zok P E=some z)
  (ht:tsz P E=some (1,ag)) (hwd:wd z=1) (hlen:len*1≤2^24) (hc:compEls parts.toList=some ys) (hl:tabOf 0 ys=some l) (hll:len=l.length):
  EStepL P o σ m (.lst 1 (0:Int) (SV.int .i64) l) m:=by
 obtain ⟨h2,h3,_,h4⟩:=tab_parts (σ:=σ) ys 0 l (List.replicate len z) hl (by simp [hll])
 intro β ε a wd' hi hs
 obtain ⟨cs',g1,hr⟩:=run_bsl ho hu hz ht hwd hlen (by omega) hc h2 wd' hs
 rw [List.length_replicate] at h3
 have hg1:=g1.1
 rw [h3] at hg1
 obtain ⟨k1,k2⟩:=hi.allocH cs' E
 refine ⟨_,_,_, .inl hr,⟨[.slice (some ⟨wd'.heap.size,0,none⟩) len len],?_,rfl⟩,k2,k1, .nil (ev_bsl ho a _)⟩
 simp only [SatC]
 refine ⟨some ⟨wd'.heap.size,0,none⟩,len,by rw [hll],by omega,by unfold maxLen;omega,(fun h=>by cases h),fun i hi'=> ?_⟩
 refine ⟨wd'.heap.size,0,E,(0,0),cs'.toArray,rfl,by simp [Env.cl],by simp;omega,?_⟩
 have:=g1.2 i (by rw [h3];omega)
 have h5:=h4 i hi'
 rw [Nat.zero_add] at h5
 rw [h5] at this
 simp only [SatC] at this ⊢
 rw [Nat.zero_add]
 exact this
theorem estep_qbsl {T E:TypeId} {len w:Nat} {z:SV} {ag:Bool} {parts:Array (Nat×Operand)} {ys:List (Nat×Opd)} {K:SV→Prop} (ho:o.op= .buildSlice T len parts) (hu:P.underlying T=some (.slice E)) (hz:zok P E=some z)
  (ht:tsz P E=some (w,ag)) (hwd:wd z=w) (hlen:len*w≤2^24) (h0:0<w) (hc:compEls parts.toList=some ys) (h:bslParts σ w (List.replicate len z) ys fun l=>datPL l∧K (qres w len l)):
  ∃ sv,K sv∧∀ m,EStepL P o σ m sv m:=by
 obtain ⟨⟨hd,h1⟩,h2⟩:=bslParts_end _ _ h
 refine ⟨_,h1,fun m β ε a wd' hi hs=> ?_⟩
 obtain ⟨cs',g1,hr⟩:=run_bsl ho hu hz ht hwd hlen h0 hc h2 wd' hs
 have hll:(bslEnd σ (List.replicate len z) ys).length=len:=by rw [bslEnd_len];simp
 have hg1:=g1.1
 rw [hll] at hg1
 have hlm:len≤maxLen:=by
  have:len≤len*w:=Nat.le_mul_of_pos_right _ h0
  unfold maxLen;omega
 obtain ⟨k1,k2⟩:=hi.allocH cs' E
 refine ⟨_,_,_, .inl hr,qres_sat ⟨[.slice (some ⟨wd'.heap.size,0,none⟩) (List.range len).length (List.range len).length],?_,by simp [boxed,SV.isAgg]⟩,k2,k1, .nil (ev_bsl ho a _)⟩
 simp only [SatC]
 refine ⟨some ⟨wd'.heap.size,0,none⟩,rfl,by simpa using hlm,(fun h=>by cases h),fun i hi'=> ?_⟩
 simp only [List.length_range] at hi'
 have hle:=mul_le_len (w:=w) hi'
 refine ⟨wd'.heap.size,0,E,(0,0),cs'.toArray,rfl,by simp [Env.cl],by simp;omega,?_⟩
 have hr2:(List.range len).getD i 0=i:=by simp [List.getD,hi']
 rw [hr2,Nat.zero_add]
 exact dat_env _ (datPL_at hd (by rw [hll];exact hi')) (g1.2 i (by rw [hll];exact hi'))
end
end Go.Sx
end
