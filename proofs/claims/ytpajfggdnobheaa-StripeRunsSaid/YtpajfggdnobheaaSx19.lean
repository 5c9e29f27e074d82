/- A part of the proof of StripeRuns. Conditions: none. -/
import Derived.Test.YtpajfggdnobheaaSx13r
import Derived.Test.YtpajfggdnobheaaSx13g
import Derived.Attr
import Derived.RowKit3
import Derived.ChangeArms
import Derived.OpenShut
set_option linter.unusedVariables false
set_option linter.unusedSimpArgs false
section
namespace Go.Sx
open Go
variable {P:Program} {main:Bool} {F:Nat→Prop}
inductive IC:Type 1 where
 |skip
 |ops (l:List IOp)
 |dops (l:List IOp)
 |gops (l:List IOp) (d:Nat) (T:TypeId) (z:SV) (lo:List IOp)
 |seq (a b:IC)
 |cond (x:Opd) (a b:IC)
 |block (id:Nat) (c:IC)
 |loop (c:IC)
 |exit (id:Nat)
 |ret
inductive Ex where
 |norm
 |exit (id:Nat)
 |ret
def ExRel:Exit→Ex→Prop
 | .normal, .norm=>True
 | .exit i, .exit j=>i=j
 | .ret, .ret=>True
 |_,_=>False
def Weak (σ:List SV) (m:List Res) (σ':List SV) (m':List Res):Prop:=
 ∀ β ε a w,Inv β ε m w→SlotsOK ε σ a→∃ ε',Inv β ε' m' w∧SlotsOK ε' σ' a
def swp (Γ:Hook) (n0:Nat):IC→(Ex→List SV→List Res→Prop)→List SV→List Res→Prop
 | .skip,Q,σ,m=>Q .norm σ m
 | .ops l,Q,σ,m=>sops Γ l (Q .norm) σ m
 | .dops l,Q,σ,m=>dsops Γ l (fun σ' m'=>tidyK n0 m (Q .norm) σ' m') σ m
 | .gops ..,_,_,_=>False
 | .seq a b,Q,σ,m=>swp Γ n0 a (fun e σ' m'=>match e with
  | .norm=>swp Γ n0 b Q σ' m'
  |e=>Q e σ' m') σ m
 | .cond x a b,Q,σ,m=>match x with
  | .t n=>match σ.getD n .junk with
   | .bool t=>(t=true→swp Γ n0 a Q (σ.set n (.bool true)) m)∧(t=false→swp Γ n0 b Q (σ.set n (.bool false)) m)
   |_=>False
  | .c (.bool true)=>swp Γ n0 a Q σ m
  | .c (.bool false)=>swp Γ n0 b Q σ m
  |_=>False
 | .block id c,Q,σ,m=>swp Γ n0 c (fun e σ' m'=>match e with
  | .exit i=>if i=id then Q .norm σ' m' else Q (.exit i) σ' m'
  |e=>Q e σ' m') σ m
 | .loop c,Q,σ,m=> ∃ (ι:Type) (S:ι→List SV) (M:ι→List Res) (ok:ι→Prop) (μ:ι→Nat) (i:ι),ok i∧Weak σ m (S i) (M i)∧
   ∀ i,ok i→swp Γ n0 c (fun e σ' m'=>match e with
    | .norm=> ∃ j,ok j∧μ j<μ i∧Weak σ' m' (S j) (M j)
    |e=>Q e σ' m') (S i) (M i)
 | .exit id,Q,σ,m=>Q (.exit id) σ m
 | .ret,Q,σ,m=>Q .ret σ m
def compR (P:Program) (quiet:FuncId→Bool) (ops:Array Oper):Option IC:=match ops.toList.mapM (compD P (quiet2 quiet) ops) with
 |some ios0=>match (permOps ops (ordGo ops ios0 ops.size [])).toList.mapM (compD P (quiet2 quiet) (permOps ops (ordGo ops ios0 ops.size []))) with
  |some ios=>if permOk ops (ordGo ops ios0 ops.size [])&&chk (permOps ops (ordGo ops ios0 ops.size [])).toList ios&&P.follows .mixedOrders then some (.dops (aug (permOps ops (ordGo ops ios0 ops.size [])).toList ios)) else
   match compGh P (quiet2 quiet) (permOps ops (ordGo ops ios0 ops.size [])) with
   |some (l,d,T,z,lo)=>if permOk ops (ordGo ops ios0 ops.size [])&&P.follows .mixedOrders then some (.gops l d T z lo) else none
   |none=>none
  |none=>none
 |none=>none
theorem compR_dops {quiet:FuncId→Bool} {ops:Array Oper} {ic:IC} (h:compR P quiet ops=some ic):(∃ l,ic= .dops l)∨∃ l d T z lo,ic= .gops l d T z lo:=by
 unfold compR at h
 split at h<;>try (cases h;done)
 split at h<;>try (cases h;done)
 split at h
 ·exact .inl ⟨_,(Option.some.inj h).symm⟩
 ·split at h<;>try (cases h;done)
  split at h<;>try (cases h;done)
  exact .inr ⟨_,_,_,_,_,(Option.some.inj h).symm⟩
def comp (P:Program) (quiet:FuncId→Bool):Code→Option IC
 | .skip=>some .skip
 | .region _ ops draw=>if draw then match ops.toList.mapM (compD P quiet ops) with
   |some ios=>if chk ops.toList ios&&P.follows .mixedOrders then some (.dops (aug ops.toList ios)) else compR P quiet ops
   |none=>none
  else (ops.toList.mapM (compOp P ops)).map .ops
 | .seq a b=>match comp P quiet a,comp P quiet b with
  |some a,some b=>some (.seq a b)
  |_,_=>none
 | .cond x a b=>match compO x,comp P quiet a,comp P quiet b with
  |some x,some a,some b=>some (.cond x a b)
  |_,_,_=>none
 | .block id c=>(comp P quiet c).map (.block id)
 | .loop c=>(comp P quiet c).map .loop
 | .exit id=>some (.exit id)
 | .ret=>some .ret
 |_=>none
def Ends (F:Nat→Prop) (ρ:Root) (d:List Deferred) (Q:Ex→List SV→List Res→Prop) (e:Exit) (a:Act) (w:OW):Prop:=
 ∃ ex σ m ε,ExRel e ex∧Q ex σ m∧InvO F ρ ε m w∧SlotsOK ε σ a∧a.defers=d
theorem Ends.mono {ρ:Root} {d:List Deferred} {Q Q':Ex→List SV→List Res→Prop} {e:Exit} {a:Act} {w:OW} (h:∀ ex σ m,Q ex σ m→Q' ex σ m) (hh:Ends F ρ d Q e a w):Ends F ρ d Q' e a w:=by
 obtain ⟨ex,σ,m,ε,h1,h2,h3⟩:=hh
 exact ⟨ex,σ,m,ε,h1,h _ _ _ h2,h3⟩
end Go.Sx
end
section
namespace Go.Sx
open Go
variable {P:Program} {main:Bool} {F:Nat→Prop}
structure GoodO (F:Nat→Prop) (ε:Env) (m:List Res) (x:OW):Prop where
 good:Good ε m x.w
 own:∀ i b,ownR ε i (memAt m i)=some b→x.O b
 H:∀ b o,ε.H b=some o→x.O b∨F b
 Ol:∀ b,x.O b→b<x.w.heap.size
 Fl:∀ b,F b→b<x.w.heap.size
def Root.at (ε:Env) (m:List Res) (x:OW):Root:=⟨x.w,x.O,ε,fun b=> ∃ i,ownR ε i (memAt m i)=some b⟩
def FnOK (P:Program) (main:Bool) (F:Nat→Prop) (f:FuncId) (args:List SV) (m0:List Res) (res:SV) (m1:List Res):Prop:=
 ∀ ε x vs,GoodO F ε m0 x→SatA args ε vs→CallsQ P main F f vs.toArray x fun v x'=> ∃ ε',SatV ε' res v∧InvO F (.at ε m0 x) ε' m1 x'
theorem InvO.start {ε:Env} {m:List Res} {x:OW} (g:GoodO F ε m x):InvO F (.at ε m x) ε m x:=by
 refine ⟨⟨g.Ol,g.Fl,fun b ⟨i,h⟩=>g.own i b h,g.H⟩,?_,fun _ h=>h,fun b h=> .inl h,g.Ol,Nat.le_refl _,rfl,rfl,rfl⟩
 refine ⟨g.good,⟨rfl,rfl,rfl,by simp [Root.base,Root.mix,mixH_size,Root.at],fun b hb hB=> ?_,fun _ _ h=>h,fun _ _ h=> .inl h,fun _=>Nat.le_refl _⟩,fun i b h=> .inl (.inl ⟨i,h⟩),Nat.le_refl _,fun _ _=>rfl,fun _ _ _=>rfl⟩
 simp only [Root.base,Root.mix,mixH_size,Root.at] at hb ⊢
 by_cases hk:x.O b∨F b
 ·rw [mixH_in hk hb hb]
 ·rw [mixH_out hk]
theorem InvO.goodO {ρ:Root} {ε:Env} {m:List Res} {x:OW} (h:InvO F ρ ε m x):GoodO F ε m x:=
 ⟨h.inv.good,fun _ _ hb=>h.own hb,fun _ _ hb=>h.frz hb,h.lt,fun b hb=>Nat.lt_of_lt_of_le (h.rt.Fl b hb) h.size⟩
theorem slots_start {ε:Env}:∀ {args:List SV} {vs:List Value} (_:SatA args ε vs) (n:Nat),SlotsOK ε (args++List.replicate n .junk) {tmps:=vs.toArray++Array.replicate n undef,defers:=[]}:=by
 intro args vs h n
 have hl:∀ {args:List SV} {vs:List Value},SatA args ε vs→args.length=vs.length∧∀ k,k<args.length→SatV ε (args.getD k .junk) (vs.getD k undef):=by
  intro args
  induction args with
  |nil=>intro vs h;simp only [SatA] at h;subst h;exact ⟨rfl,fun k hk=>absurd hk (Nat.not_lt_zero _)⟩
  |cons x r ih=>
   intro vs h
   simp only [SatA] at h
   obtain ⟨cs,t,rfl,h2,h3⟩:=h
   obtain ⟨i1,i2⟩:=ih h3
   refine ⟨by simp [i1],fun k hk=> ?_⟩
   cases k with
   |zero=>exact satC_sat h2
   |succ k=>simp only [List.getD_cons_succ];exact i2 k (by simpa using hk)
 obtain ⟨h1,h2⟩:=hl h
 refine ⟨by simp [h1],fun k=> ?_⟩
 by_cases hk:k<args.length
 ·have e1:(args++List.replicate n SV.junk).getD k .junk=args.getD k .junk:=by simp [List.getD,List.getElem?_append_left hk]
  have e2:(vs.toArray++Array.replicate n undef).getD k undef=vs.getD k undef:=by
   rw [Array.getD_eq_getD_getElem?,Array.getElem?_append_left (by simp;omega)]
   simp [List.getD]
  rw [e1,e2]
  exact h2 k hk
 ·have e1:(args++List.replicate n SV.junk).getD k .junk= .junk:=by
   simp only [List.getD,List.getElem?_append_right (Nat.le_of_not_lt hk)]
   rw [List.getElem?_replicate]
   split<;>rfl
  rw [e1];trivial
def resK (P:Program) (σ:List SV) (m:List Res) (K:SV→Prop):List ResultVar→Prop
 |[]=>K (.tup [])
 |[.tmp t]=>K (σ.getD t .junk)
 |[.cell t T]=>match tsz P T with
  |some (n,ag)=>peek m n ag K (σ.getD t .junk)
  |none=>False
 |l=>go l fun xs=>K (.tup xs)
where go:List ResultVar→(List SV→Prop)→Prop
 |[],K=>K []
 | .tmp t::r,K=>(σ.getD t .junk).isVal=true∧go r fun xs=>K (σ.getD t .junk::xs)
 | .cell t T::r,K=>match tsz P T with
  |some (n,ag)=>peek m n ag (fun x=>x.isVal=true∧go r fun xs=>K (x::xs)) (σ.getD t .junk)
  |none=>False
end Go.Sx
end
section
namespace Go.Sx
open Go
variable {P:Program} {main:Bool} {F:Nat→Prop}
def backI (is:List Nat) (n:Nat) (j:Nat):Option Nat:=if j<is.length then is[j]? else some (n+(j - is.length))
def mergeM (is:List Nat) (m:List Res) (m1:List Res):List Res:=
 (is.zipIdx.foldl (fun (acc:List Res) x=>acc.set x.1 (renR (backI is m.length) (memAt m1 x.2))) m)++(m1.drop is.length).map (renR (backI is m.length))
theorem foldl_set_len (r:Nat→Res):∀ (l:List (Nat×Nat)) (m:List Res),(l.foldl (fun (acc:List Res) x=>acc.set x.1 (r x.2)) m).length=m.length
 |[],_=>rfl
 |x::l,m=>by simp only [List.foldl_cons];rw [foldl_set_len r l];simp
theorem foldl_set_at (r:Nat→Res):∀ (is:List Nat) (k:Nat) (m:List Res) (_:is.Nodup) (_:∀ i∈is,i<m.length) (i:Nat),
  memAt ((is.zipIdx k).foldl (fun (acc:List Res) x=>acc.set x.1 (r x.2)) m) i=if i∈is then r (k+is.idxOf i) else memAt m i
 |[],k,m,_,_,i=>by simp
 |a::is,k,m,hn,hlt,i=>by
  simp only [List.zipIdx_cons,List.foldl_cons]
  have hn':=List.nodup_cons.1 hn
  rw [foldl_set_at r is (k+1) _ hn'.2 (fun j hj=>by rw [List.length_set];exact hlt j (by simp [hj])) i]
  by_cases hi:i∈is
  ·rw [if_pos hi,if_pos (by simp [hi])]
   have:i≠a:=fun e=>hn'.1 (e▸hi)
   have he:(a::is).idxOf i=is.idxOf i+1:=by
    rw [List.idxOf_cons]
    have:(a==i)=false:=by simpa using fun e=>this e.symm
    rw [this];rfl
   rw [he]
   congr 1;omega
  ·rw [if_neg hi]
   by_cases hia:i=a
   ·subst hia
    rw [if_pos (by simp),List.idxOf_cons_self,Nat.add_zero]
    have:=hlt i (by simp)
    simp [memAt,this]
   ·rw [if_neg (by simp [hi,hia])]
    unfold memAt
    simp only [List.getD_eq_getElem?_getD,List.getElem?_set]
    rw [if_neg (fun e=>hia e.symm)]
theorem merge_at {is:List Nat} {m m1:List Res} (hn:is.Nodup) (hlt:∀ i∈is,i<m.length) (i:Nat):
  memAt (mergeM is m m1) i=if i∈is then renR (backI is m.length) (memAt m1 (is.idxOf i)) else if i<m.length then memAt m i else
   renR (backI is m.length) (memAt m1 (is.length+(i - m.length))):=by
 have hlen:=foldl_set_len (fun k=>renR (backI is m.length) (memAt m1 k)) is.zipIdx m
 unfold mergeM
 rcases Nat.lt_or_ge i m.length with hi|hi
 ·rw [memAt_append_lt (by rw [hlen];exact hi),foldl_set_at (fun k=>renR (backI is m.length) (memAt m1 k)) is 0 m hn hlt i]
  simp [hi]
 ·have hni:i∉is:=fun h=>by have:=hlt i h;omega
  rw [if_neg hni,if_neg (by omega)]
  have e1:∀ (l1 l2:List Res),l1.length=m.length→memAt (l1++l2) i=memAt l2 (i - m.length):=by
   intro l1 l2 hl1
   unfold memAt
   rw [List.getD,List.getElem?_append_right (by omega),hl1];rfl
  rw [e1 _ _ hlen]
  unfold memAt
  rw [List.getD,List.getElem?_map,List.getElem?_drop,List.getD]
  cases m1[is.length+(i - m.length)]? <;>rfl
theorem merge_length {is:List Nat} {m m1:List Res}:(mergeM is m m1).length=m.length+(m1.length - is.length):=by
 have hlen:=foldl_set_len (fun k=>renR (backI is m.length) (memAt m1 k)) is.zipIdx m
 simp [mergeM,hlen]
theorem merge_inv {m m0 m1:List Res} {res:SV} (is:List Nat) (hn:is.Nodup) (hb:∀ i∈is,(memAt m i).isBlk=true)
  (hm:selM is m=m0) (hl:is.length≤m1.length) (hvec:∀ j,j<is.length→(memAt m1 j).isBlk=true) {β:Base} {ε ε':Env} {w w':World} (hi:Inv β ε m w) {N:Nat→Prop} (hNo:∀ i b,ownR ε i (memAt m i)=some b→¬ N b) (hNH:∀ b o,ε.H b=some o→¬ N b)
  (hi':Inv ⟨w,selE is ε,fun b=>(∃ i,ownR (selE is ε) i (memAt m0 i)=some b)∨N b⟩ ε' m1 w'):
  ∃ ε2,ε.Le ε2∧(∀ v,SatV ε' res v→SatV ε2 (ren (backI is m.length) res) v)∧Inv {β with B:=fun b=>β.B b∨N b} ε2 (mergeM is m m1) w':=by
 have hlt:∀ i∈is,i<m.length:=by
  intro i h
  rcases Nat.lt_or_ge i m.length with h'|h'
  ·exact h'
  ·have:=hb i h;rw [memAt_ge h'] at this;cases this
 have hg:=hi.good.sel is hn
 rw [hm] at hg
 have hselown:∀ j,j<is.length→ownR (selE is ε) j (memAt m0 j)=ownR ε (is.getD j 0) (memAt m (is.getD j 0)):=by
  intro j hj
  rw [← hm,selM_at hj];exact ownR_ren rfl rfl
 have hm0l:m0.length=is.length:=by rw [← hm];simp [selM]
 have hε'n:=hi'.good.n
 have hBown:∀ b,((∃ i,ownR (selE is ε) i (memAt m0 i)=some b)∨N b)→(∃ i,i∈is∧ownR ε i (memAt m i)=some b)∨N b:=by
  rintro b (⟨j,hj⟩|hN)
  case inr=>exact .inr hN
  left
  rcases Nat.lt_or_ge j is.length with h1|h1
  ·rw [hselown j h1] at hj
   refine ⟨is.getD j 0,?_,hj⟩
   simp [List.getD,h1]
  ·rw [memAt_ge (by omega)] at hj;cases hj
 let ε2:Env:= {n:=ε.n+(m1.length - is.length),blk:=fun i=>if i<ε.n then ε.blk i else ε'.blk (is.length+(i - ε.n)),vv:=fun i=>if i<ε.n then ε.vv i else ε'.vv (is.length+(i - ε.n)),H:=ε'.H}
 have hn2:=hi.good.n
 have hle:ε.Le ε2:=⟨Nat.le_add_right _ _,fun i hi=>by simp [ε2,hi],fun i hi=>by simp [ε2,hi],hi'.kept.H⟩
 have hblk':∀ j,j<is.length→ε'.blk j=ε.blk (is.getD j 0):=fun j hj=>hi'.blk j (by show j<is.length;exact hj)
 have hgetlt:∀ j,j<is.length→is.getD j 0<m.length:=fun j hj=>hlt _ (by simp [List.getD,hj])
 have hvv':∀ j,j<is.length→ε'.vv j=ε.vv (is.getD j 0):=fun j hj=>hi'.vv j (by show j<is.length;exact hj) (hvec j hj)
 have hidx:∀ i,i∈is→is.idxOf i<is.length∧is.getD (is.idxOf i) 0=i:=by
  intro i hi
  have hlt:=List.idxOf_lt_length_of_mem hi
  exact ⟨hlt,by simp [List.getD,hlt]⟩
 have e2b:∀ i,i<m.length→ε2.blk i=ε.blk i:=fun i hi=>by simp [ε2,hn2,hi]
 have e2v:∀ i,i<m.length→ε2.vv i=ε.vv i:=fun i hi=>by simp [ε2,hn2,hi]
 have e2b':∀ i,m.length≤i→ε2.blk i=ε'.blk (is.length+(i - m.length)):=fun i hi=>by simp [ε2,hn2,Nat.not_lt.2 hi]
 have e2v':∀ i,m.length≤i→ε2.vv i=ε'.vv (is.length+(i - m.length)):=fun i hi=>by simp [ε2,hn2,Nat.not_lt.2 hi]
 have hren:RenOK (backI is m.length) ε' ε2:=by
  refine ⟨fun j hj i hji=> ?_,fun _ _ h=>h⟩
  unfold backI at hji
  rw [hε'n] at hj
  split at hji
  ·rename_i hjl
   have hg2:is.getD j 0=i:=by simp [List.getD,hji]
   have hil:i<m.length:=by rw [← hg2];exact hgetlt j hjl
   exact ⟨by simp only [ε2];omega,by rw [e2b i hil,hblk' j hjl,hg2],by rw [e2v i hil,hvv' j hjl,hg2]⟩
  ·rename_i hjl
   simp only [Option.some.injEq] at hji
   subst hji
   have:is.length+(m.length+(j - is.length) - m.length)=j:=by omega
   exact ⟨by simp only [ε2];omega,by rw [e2b' _ (by omega),this],by rw [e2v' _ (by omega),this]⟩
 have hat:=merge_at (m1:=m1) hn hlt
 have hA:∀ i,i∈is→ownR ε2 i (memAt (mergeM is m m1) i)=ownR ε' (is.idxOf i) (memAt m1 (is.idxOf i)):=by
  intro i hi
  obtain ⟨h1,h2⟩:=hidx i hi
  rw [hat,if_pos hi]
  exact ownR_ren (by rw [e2b i (hlt i hi),hblk' _ h1,h2]) (by rw [e2v i (hlt i hi),hvv' _ h1,h2])
 have hB:∀ i,i∉is→i<m.length→ownR ε2 i (memAt (mergeM is m m1) i)=ownR ε i (memAt m i):=by
  intro i hi hil
  rw [hat,if_neg hi,if_pos hil]
  cases memAt m i<;>simp [ownR,e2b i hil,e2v i hil]
 have hC:∀ i,m.length≤i→ownR ε2 i (memAt (mergeM is m m1) i)=ownR ε' (is.length+(i - m.length)) (memAt m1 (is.length+(i - m.length))):=by
  intro i hi
  have hni:i∉is:=fun h=>by have:=hlt i h;omega
  rw [hat,if_neg hni,if_neg (by omega)]
  exact ownR_ren (e2b' i hi) (e2v' i hi)
 have hfrom:∀ j b,ownR ε' j (memAt m1 j)=some b→(∃ i,i∈is∧ownR ε i (memAt m i)=some b)∨(w.heap.size≤b∨N b):=by
  intro j b hb
  rcases hi'.own j b hb with h1|h1
  ·exact (hBown b h1).imp id .inr
  ·exact .inr (.inl h1)
 have hcase:∀ i b,ownR ε2 i (memAt (mergeM is m m1) i)=some b→(∃ j,ownR ε' j (memAt m1 j)=some b∧((i∈is∧j=is.idxOf i)∨(m.length≤i∧j=is.length+(i - m.length))))∨(i∉is∧i<m.length∧ownR ε i (memAt m i)=some b):=by
  intro i b hb
  by_cases hi:i∈is
  ·rw [hA i hi] at hb;exact .inl ⟨_,hb, .inl ⟨hi,rfl⟩⟩
  ·rcases Nat.lt_or_ge i m.length with hil|hil
   ·rw [hB i hi hil] at hb;exact .inr ⟨hi,hil,hb⟩
   ·rw [hC i hil] at hb;exact .inl ⟨_,hb, .inr ⟨hil,rfl⟩⟩
 have hsame:∀ b,b<w.heap.size→(∀ i,i∈is→ownR ε i (memAt m i)≠some b)→¬ N b→w'.heap[b]? =w.heap[b]? :=by
  intro b hb hno hN
  refine hi'.kept.heap b hb (fun hBb=> ?_)
  rcases hBown b hBb with ⟨i,h1,h2⟩|h
  ·exact hno i h1 h2
  ·exact hN h
 have hinv:Inv {β with B:=fun b=>β.B b∨N b} ε2 (mergeM is m m1) w':=by
  refine ⟨⟨by rw [merge_length];simp [ε2,hn2],fun i=> ?_,fun i j b hij h1 h2=> ?_,fun i b hb=> ?_,fun b o hb=>hi'.good.hv b o hb,hi'.good.gl⟩,
   ⟨hi'.kept.os.trans hi.kept.os,hi'.kept.tape.trans hi.kept.tape,hi'.kept.output.trans hi.kept.output,Nat.le_trans hi.kept.size hi'.kept.size,fun b hb hB2=> ?_,fun b o hb=>hi'.kept.H b o (hi.kept.H b o hb),fun b o hb=> ?_,fun e=>Nat.le_trans (hi.kept.drawn e) (hi'.kept.drawn e)⟩,
   fun i b hb=> ?_,Nat.le_trans hi.n (by simp only [ε2];omega),fun i hi2=> ?_,fun i hi2 hv2=> ?_⟩
  ·by_cases him:i∈is
   ·obtain ⟨h1,h2⟩:=hidx i him
    rw [hat,if_pos him]
    exact ResOK.ren hren (by rw [e2b i (hlt i him),hblk' _ h1,h2]) (by rw [e2v i (hlt i him),hvv' _ h1,h2]) (hi'.good.res _)
   ·rcases Nat.lt_or_ge i m.length with hil|hil
    ·rw [hat,if_neg him,if_pos hil]
     have hr:=hi.good.res i
     have hne:∀ b,ownR ε i (memAt m i)=some b→w'.heap[b]? =w.heap[b]? :=fun b hb=>
      hsame b (ownR_lt hi.good hb) (fun i2 h1 h2=>hi.good.disj i i2 b (fun e=>him (e▸h1)) hb h2) (hNo i b hb)
     cases hmi:memAt m i with
     |dead=>trivial
     |blk T c=>
      rw [hmi] at hr
      obtain ⟨cs,h1,h2⟩:=hr
      exact ⟨cs,by rw [e2b i hil,hne _ (by rw [hmi];rfl)];exact h1,h2.mono c hle⟩
     |vec T w2 l=>
      rw [hmi] at hr
      obtain ⟨xs,⟨T0,hT0,h1⟩,h2⟩:=hr
      refine ⟨xs,⟨T0,hT0,?_⟩,fun k hk=>(h2 k hk).mono _ hle⟩
      rw [e2v i hil]
      refine ⟨h1.1,?_⟩
      rcases h1.2 with hx|⟨gg,cap,cur,q1,q2,q3,q4⟩
      ·exact .inl hx
      ·exact .inr ⟨gg,cap,cur,q1,q2,by rw [hne gg (by rw [hmi];simp [ownR,q1,Value.ownBlock])];exact q3,q4⟩
     |mp ek ev l=>
      rw [hmi] at hr
      obtain ⟨es,cl,h1,h2⟩:=hr
      exact ⟨es,cl,by rw [e2b i hil,hne _ (by rw [hmi];rfl)];exact h1,h2⟩
    ·rw [hat,if_neg him,if_neg (by omega)]
     exact ResOK.ren hren (e2b' i hil) (e2v' i hil) (hi'.good.res _)
  ·rcases hcase i b h1 with ⟨a,ha,hai⟩|⟨hi1,hi2,hi3⟩<;>rcases hcase j b h2 with ⟨c,hc,hcj⟩|⟨hj1,hj2,hj3⟩
   ·refine hi'.good.disj a c b (fun e=>hij ?_) ha hc
    subst e
    rcases hai with ⟨q1,q2⟩|⟨q1,q2⟩<;>rcases hcj with ⟨q3,q4⟩|⟨q3,q4⟩
    ·rw [← (hidx i q1).2,← (hidx j q3).2,← q2,← q4]
    ·have:=(hidx i q1).1;omega
    ·have:=(hidx j q3).1;omega
    ·omega
   ·rcases hfrom a b ha with ⟨i2,q1,q2⟩|q
    ·exact hi.good.disj i2 j b (fun e=>hj1 (e▸q1)) q2 hj3
    ·exact q.elim (fun q=>by have:=ownR_lt hi.good hj3;omega) fun q=>hNo _ _ hj3 q
   ·rcases hfrom c b hc with ⟨i2,q1,q2⟩|q
    ·exact hi.good.disj i2 i b (fun e=>hi1 (e▸q1)) q2 hi3
    ·exact q.elim (fun q=>by have:=ownR_lt hi.good hi3;omega) fun q=>hNo _ _ hi3 q
   ·exact hi.good.disj i j b hij hi3 hj3
  ·rcases hcase i b hb with ⟨a,ha,_⟩|⟨hi1,hi2,hi3⟩
   ·exact hi'.good.sep a b ha
   ·cases hh:ε'.H b with
    |none=>rfl
    |some o=>
     rcases hi'.kept.fresh b o hh with q|q|q
     ·have q':ε.H b=some o:=q
      have:=hi.good.sep i b hi3;rw [this] at q';cases q'
     ·have:=ownR_lt hi.good hi3
      have q':w.heap.size≤b:=q
      omega
     ·rcases hBown b q with ⟨i2,q1,q2⟩|q
      ·exact absurd hi3 (hi.good.disj i2 i b (fun e=>hi1 (e▸q1)) q2)
      ·exact absurd q (hNo _ _ hi3)
  ·rw [hsame b (Nat.lt_of_lt_of_le hb hi.kept.size) (fun i h1 h2=>by
    rcases hi.own i b h2 with q|q
    ·exact hB2 (.inl q)
    ·have hb':b<β.w.heap.size:=hb
     omega) fun h=>hB2 (.inr h)]
   exact hi.kept.heap b hb fun h=>hB2 (.inl h)
  ·rcases hi'.kept.fresh b o hb with q|q|q
   ·exact (hi.kept.fresh b o q).imp id fun h=>h.imp id .inl
   ·exact .inr (.inl (Nat.le_trans hi.kept.size q))
   ·rcases hBown b q with ⟨i,_,q2⟩|q
    ·rcases hi.own i b q2 with q|q
     ·exact .inr (.inr (.inl q))
     ·exact .inr (.inl q)
    ·exact .inr (.inr (.inr q))
  ·rcases hcase i b hb with ⟨a,ha,_⟩|⟨_,_,hi3⟩
   ·rcases hfrom a b ha with ⟨i2,_,q2⟩|q
    ·exact (hi.own i2 b q2).imp .inl id
    ·exact q.elim (fun q=> .inr (Nat.le_trans hi.kept.size q)) fun q=> .inl (.inr q)
   ·exact (hi.own i b hi3).imp .inl id
  ·have:=hi.n
   have hi2':i<β.ε.n:=hi2
   rw [e2b i (by omega)];exact hi.blk i hi2
  ·have:=hi.n
   have hi2':i<β.ε.n:=hi2
   rw [e2v i (by omega)]
   refine hi.vv i hi2 ?_
   by_cases him:i∈is
   ·exact hb i him
   ·rw [hat,if_neg him,if_pos (by omega)] at hv2;exact hv2
 exact ⟨ε2,hle,fun v hv=>hv.ren hren,hinv⟩
theorem merge_invO {m m0 m1:List Res} {res:SV} (is:List Nat) (hn:is.Nodup) (hb:∀ i∈is,(memAt m i).isBlk=true)
  (hm:selM is m=m0) (hl:is.length≤m1.length) (hvec:∀ j,j<is.length→(memAt m1 j).isBlk=true) {ρ:Root} {ε ε':Env} {x x':OW} (hi:InvO F ρ ε m x)
  (hi':InvO F (.at (selE is ε) m0 x) ε' m1 x'):∃ ε2,ε.Le ε2∧(∀ v,SatV ε' res v→SatV ε2 (ren (backI is m.length) res) v)∧InvO F ρ ε2 (mergeM is m m1) x':=by
 have hw:=hi.rely (w1:=(Root.at (selE is ε) m0 x).mix F x'.w) ⟨hi'.os,hi'.tape,hi'.output,by simp only [Root.mix,mixH_size];exact hi'.size,fun b hb=>mixH_in hb (hb.elim (hi.lt b) (hi.goodO.Fl b)) (Nat.lt_of_lt_of_le (hb.elim (hi.lt b) (hi.goodO.Fl b)) hi'.size)⟩
 obtain ⟨ε2,h1,h2,h3⟩:=merge_inv (res:=res) is hn hb hm hl hvec hw.inv (N:=fun b=>x'.O b∧x.w.heap.size≤b) (fun i b hb hN=>by have:=ownR_lt hi.inv.good hb;omega) (fun b o hb hN=>by have:=H_lt hi.inv.good hb;omega) hi'.inv
 refine ⟨ε2,h1,h2,hi.rt,?_,fun b hb=>hi'.sub b (hi.sub b hb),fun b hb=>(hi'.new b hb).elim (hi.new b) fun h=> .inr (Nat.le_trans hi.size h),hi'.lt,Nat.le_trans hi.size hi'.size,hi'.os.trans hi.os,hi'.tape.trans hi.tape,hi'.output.trans hi.output⟩
 have hsz:ρ.w.heap.size≤x.w.heap.size:=hi.size
 have hBB:∀ b,((ρ.base F ⟨(Root.at (selE is ε) m0 x).mix F x'.w,x.O⟩).B b∨(x'.O b∧x.w.heap.size≤b))→(ρ.base F x').B b:=by
  rintro b ((hb|hb)|hb)
  ·exact .inl hb
  ·exact .inr ⟨hi'.sub b hb.1,hb.2⟩
  ·exact .inr ⟨hb.1,Nat.le_trans hsz hb.2⟩
 refine h3.move rfl (fun _ _ _=>rfl) (fun _ _ _=>rfl) ⟨rfl,rfl,rfl,by simp [Root.base,Root.mix,mixH_size],fun b hb hB=> ?_,h3.kept.H,fun b o hb=> ?_,fun _=>Nat.le_refl _⟩ fun i b hb=> ?_
 ·simp only [Root.base,Root.mix,mixH_size] at hb ⊢
  by_cases hk:ρ.O b∨F b
  ·have hlt:b<ρ.w.heap.size:=hk.elim (hi.rt.Ol b) (hi.rt.Fl b)
   rw [mixH_in hk hlt hb]
   have h4:=h3.kept.heap b (by simp only [Root.base,Root.mix,mixH_size];exact hb) (fun h=>hB (hBB b h))
   rw [h4]
   exact mixH_in hk hlt (by simp only [Root.mix,mixH_size];exact hb)
  ·rw [mixH_out hk]
 ·rcases h3.kept.fresh b o hb with h|h|h
  ·exact .inl h
  ·have:=H_lt h3.good hb
   simp only [Root.base,Root.mix,mixH_size] at h
   omega
  ·exact .inr (.inr (hBB b h))
 ·rcases h3.own i b hb with h|h
  ·exact .inl (hBB b h)
  ·have:=ownR_lt h3.good hb
   simp only [Root.base,Root.mix,mixH_size] at h
   omega
theorem InvO.selO {ρ:Root} {ε:Env} {m m0:List Res} {x:OW} {is:List Nat} (hi:InvO F ρ ε m x) (hn:is.Nodup) (hm:selM is m=m0):GoodO F (selE is ε) m0 x:=by
 have hg:=hi.inv.good.sel is hn
 rw [hm] at hg
 refine ⟨hg,fun j b hj=> ?_,fun b o h=>hi.frz h,hi.lt,hi.goodO.Fl⟩
 have hm0l:m0.length=is.length:=by rw [← hm];simp [selM]
 rcases Nat.lt_or_ge j is.length with h1|h1
 ·rw [← hm,selM_at h1,ownR_ren (ε:=ε) (ε':=selE is ε) (i:=is.getD j 0) rfl rfl] at hj
  exact hi.own hj
 ·rw [memAt_ge (by omega)] at hj;cases hj
theorem call_core {f:FuncId} {args0:List SV} {m m0 m1:List Res} {res:SV} (h:FnOK P main F f args0 m0 res m1) (is:List Nat) (hn:is.Nodup) (hb:∀ i∈is,(memAt m i).isBlk=true)
  (hm:selM is m=m0) (hl:is.length≤m1.length) (hvec:∀ j,j<is.length→(memAt m1 j).isBlk=true) {ρ:Root} {ε:Env} {vs:List Value} {x:OW} (hi:InvO F ρ ε m x) (hs':SatA args0 (selE is ε) vs):
  CallsQ P main F f vs.toArray x fun v x'=> ∃ ε',ε.Le ε'∧SatV ε' (ren (backI is m.length) res) v∧InvO F ρ ε' (mergeM is m m1) x':=
 (h _ _ _ (hi.selO hn hm) hs').mono fun v x' ⟨ε',hv,hi'⟩=>by
  obtain ⟨ε2,h1,h2,h3⟩:=merge_invO (res:=res) is hn hb hm hl hvec hi hi'
  exact ⟨ε2,h1,h2 v hv,h3⟩
theorem call_of_fn {f:FuncId} {args args0:List SV} {m m0 m1:List Res} {res:SV} (h:FnOK P main F f args0 m0 res m1) (is:List Nat) (hn:is.Nodup) (hb:∀ i∈is,(memAt m i).isBlk=true)
  (ha:renL (selI is) args=args0) (hm:selM is m=m0) (hl:is.length≤m1.length) (hvec:∀ j,j<is.length→(memAt m1 j).isBlk=true):CallStep P main F f args m (ren (backI is m.length) res) (mergeM is m m1):=by
 intro ρ ε vs x hi hs
 have hs':=SatA.ren (selI is) args (sel_ren is ε) hs
 rw [ha] at hs'
 exact call_core h is hn hb hm hl hvec hi hs'
theorem call_of_fn0 {f:FuncId} {args args0:List SV} {m m1:List Res} {res:SV} (h:FnOK P main F f args0 [] res m1) (ha:renL (fun _=>none) args=args0):
  CallStep P main F f args m (ren (fun j=>some (m.length+j)) res) (m++m1.map (renR fun j=>some (m.length+j))):=by
 have:=call_of_fn (m:=m) h [] List.nodup_nil (fun _ h=>by cases h) (by rw [show selI []=fun _=>none from funext fun i=>by simp [selI]];exact ha) rfl (Nat.zero_le _) (fun _ h=>by cases h)
 have e:(backI [] m.length)=fun j=>some (m.length+j):=by funext j;simp [backI]
 rw [e] at this
 have e2:mergeM [] m m1=m++m1.map (renR fun j=>some (m.length+j)):=by simp [mergeM,e]
 rw [e2] at this
 exact this
def packK (ks:List Nat) (n0:Nat) (res:SV) (m1:List Res) (m:List Res) (x:SV):Prop:=
 (ks.Nodup∧∀ i,i<n0→ks[i]? =some i)∧ren (selI ks) x=res∧selM ks m=m1
def resV (tmps:Array Value):ResultVar→Sem Value
 | .tmp t=>pure (tmps.getD t undef)
 | .cell b t=>do loadVar t (← asAddr (tmps.getD b undef))
def outV:List Value→Value
 |[v]=>v
 |vs=> .tuple vs.toArray
theorem run_results {fn:Func} {tmps:Array Value} {w:World} {rs:List ResultVar} (hrs:fn.results.toList=rs) {vs:List Value}
  (h:(rs.mapM (resV tmps)).run P w= .ok vs w):(results fn tmps).run P w= .ok (outV vs) w:=by
 have e:results fn tmps=(do let vs ← fn.results.mapM (resV tmps);pure (if h:vs.size=1 then vs[0] else .tuple vs)):=by
  unfold results
  congr 1
 rw [e,Array.mapM_eq_mapM_toList,hrs]
 simp only [Sem.run_bind,Sem.run_map,h,Result.andThen_ok,Sem.run_pure]
 congr 1
 match vs with
 |[]=>rfl
 |[v]=>rfl
 |v::u::r=>simp [outV]
theorem ev_results {fn:Func} {tmps:Array Value} {w:World} {es:Array Event} {rs:List ResultVar} (hrs:fn.results.toList=rs) {vs:List Value}
  (h:(rs.mapM (resV tmps)).run P w= .ok vs w):(results fn tmps).events P w es=(rs.mapM (resV tmps)).events P w es:=by
 have e:results fn tmps=(do let vs ← fn.results.mapM (resV tmps);pure (if h:vs.size=1 then vs[0] else .tuple vs)):=by
  unfold results
  congr 1
 rw [e,Array.mapM_eq_mapM_toList,hrs]
 simp only [Sem.events_bind,Sem.run_map,h,Result.andThen_ok,Sem.run_pure,Sem.events_map,Result.evThen_ok,Sem.events_pure]
def Same (ε:Env) (m:List Res) (w w1:World):Prop:=(∀ i b,ownR ε i (memAt m i)=some b→w1.heap[b]? =w.heap[b]?)∧∀ b o,ε.H b=some o→w1.heap[b]? =w.heap[b]?
def EvR (ε:Env) (m:List Res) (es:Array Event):Prop:=Ls (fun b=>(∃ i,ownR ε i (memAt m i)=some b)∨∃ o,ε.H b=some o) (fun _=>False) es
theorem res_one {σ:List SV} {m:List Res} {r:ResultVar} {K:SV→Prop}
  (h:match r with
   | .tmp t=>K (σ.getD t .junk)
   | .cell t T=>match tsz P T with
    |some (n,ag)=>peek m n ag K (σ.getD t .junk)
    |none=>False):∃ x,K x∧∀ ε a w,Good ε m w→SlotsOK ε σ a→∃ v,SatV ε x v∧∀ w1,Same ε m w w1→(resV a.tmps r).run P w1= .ok v w1∧∀ es,EvR ε m es→EvR ε m ((resV a.tmps r).events P w1 es):=by
 cases r with
 |tmp t=>exact ⟨_,h,fun ε a w hg hs=>⟨_,hs.2 t,fun _ _=>⟨rfl,fun _ h=>h⟩⟩⟩
 |cell t T=>
  simp only at h
  split at h
  ·rename_i n ag ht
   obtain ⟨c,hK,hag,hone,hh⟩:=peek_ok h
   refine ⟨c,hK,fun ε a w hg hs=> ?_⟩
   obtain ⟨b,off,cur,T',fz,e1,e2,e3,e4,e5⟩:=hh ε w _ hg (hs.2 t)
   refine ⟨_,hag▸satC_sat e4,fun w1 hw1=> ?_⟩
   have e2':w1.heap[b]? =some (.cells cur T' fz):=by
    rw [← e2]
    rcases e5 with ⟨i,hi⟩|⟨o,ho⟩
    ·exact hw1.1 i b hi
    ·exact hw1.2 b o ho
   refine ⟨by simp only [resV,Sem.run_bind,e1,asAddr,Sem.run_pure,Result.andThen_ok,run_loadVar ht hone w1 e2' e3],fun es hes=> ?_⟩
   have:(resV a.tmps (.cell t T)).events P w1 es=(loadVar T ⟨b,off,none⟩).events P w1 es:=by
    simp only [resV,Sem.events_bind,e1,asAddr,Sem.run_pure,Sem.events_pure,Result.evThen_ok]
   rw [this]
   exact ls_loadVar ht hone w1 e2' e3 hes (.inr e5)
  ·exact h.elim
theorem res_go {σ:List SV} {m:List Res}:∀ {rs:List ResultVar} {K:List SV→Prop},resK.go P σ m rs K→∃ xs,K xs∧∀ ε a w,Good ε m w→SlotsOK ε σ a→∃ vs,SatA xs ε vs∧vs.length=rs.length∧∀ w1,Same ε m w w1→(rs.mapM (resV a.tmps)).run P w1= .ok vs w1∧∀ es,EvR ε m es→EvR ε m ((rs.mapM (resV a.tmps)).events P w1 es)
 |[],K,h=>⟨[],h,fun _ _ _ _ _=>⟨[],rfl,rfl,fun _ _=>⟨rfl,fun _ h=>h⟩⟩⟩
 |r::rs,K,h=>by
  have h':∃ x,(x.isVal=true∧resK.go P σ m rs fun xs=>K (x::xs))∧∀ ε a w,Good ε m w→SlotsOK ε σ a→∃ v,SatV ε x v∧∀ w1,Same ε m w w1→(resV a.tmps r).run P w1= .ok v w1∧∀ es,EvR ε m es→EvR ε m ((resV a.tmps r).events P w1 es):=by
   apply res_one
   cases r<;>simp only [resK.go] at h<;>exact h
  obtain ⟨x,⟨hx,hgo⟩,hrun⟩:=h'
  obtain ⟨xs,hK,hrun2⟩:=res_go hgo
  refine ⟨x::xs,hK,fun ε a w hg hs=> ?_⟩
  obtain ⟨v,e2,e1⟩:=hrun ε a w hg hs
  obtain ⟨vs,e4,e5,e3⟩:=hrun2 ε a w hg hs
  obtain ⟨cs,e6,e7⟩:=sat_val e2 hx
  refine ⟨v::vs,?_,by simp [e5],fun w1 hw1=> ?_⟩
  ·simp only [SatA]
   exact ⟨cs,vs,by rw [e7],e6,e4⟩
  ·obtain ⟨k1,k2⟩:=e1 w1 hw1
   obtain ⟨k3,k4⟩:=e3 w1 hw1
   refine ⟨by simp [List.mapM_cons,k1,k3],fun es hes=> ?_⟩
   have:((r::rs).mapM (resV a.tmps)).events P w1 es=(rs.mapM (resV a.tmps)).events P w1 ((resV a.tmps r).events P w1 es):=by simp [List.mapM_cons,k1,k3]
   rw [this]
   exact k4 _ (k2 _ hes)
theorem resK_sound {σ:List SV} {m:List Res} {K:SV→Prop} {fn:Func} {rs:List ResultVar} (hrs:fn.results.toList=rs) (h:resK P σ m K rs):
  ∃ x,K x∧∀ ε a w,Good ε m w→SlotsOK ε σ a→∃ v,SatV ε x v∧∀ w1,Same ε m w w1→(results fn a.tmps).run P w1= .ok v w1∧EvR ε m ((results fn a.tmps).events P w1 #[]):=by
 have one:∀ (r:ResultVar),rs=[r]→(match r with
   | .tmp t=>K (σ.getD t .junk)
   | .cell t T=>match tsz P T with
    |some (n,ag)=>peek m n ag K (σ.getD t .junk)
    |none=>False)→∃ x,K x∧∀ ε a w,Good ε m w→SlotsOK ε σ a→∃ v,SatV ε x v∧∀ w1,Same ε m w w1→(results fn a.tmps).run P w1= .ok v w1∧EvR ε m ((results fn a.tmps).events P w1 #[]):=by
  rintro r rfl h
  obtain ⟨x,hK,hrun⟩:=res_one (P:=P) (σ:=σ) (m:=m) (r:=r) h
  refine ⟨x,hK,fun ε a w hg hs=> ?_⟩
  obtain ⟨v,e2,e1⟩:=hrun ε a w hg hs
  refine ⟨v,e2,fun w1 hw1=> ?_⟩
  obtain ⟨k1,k2⟩:=e1 w1 hw1
  have h1:([r].mapM (resV a.tmps)).run P w1= .ok [v] w1:=by simp [List.mapM_cons,k1]
  refine ⟨run_results hrs (vs:=[v]) h1,?_⟩
  rw [ev_results hrs h1]
  have:([r].mapM (resV a.tmps)).events P w1 #[]=(resV a.tmps r).events P w1 #[]:=by simp [List.mapM_cons,k1]
  rw [this]
  exact k2 _ (Ls.nil _ _)
 match rs,hrs,h,one with
 |[],hrs,h,_=>exact ⟨_,h,fun ε a w hg hs=>⟨_,⟨[],rfl,rfl⟩,fun w1 hw1=>⟨run_results hrs (vs:=[]) rfl,by rw [ev_results hrs (vs:=[]) rfl];exact Ls.nil _ _⟩⟩⟩
 |[.tmp t],hrs,h,one=>exact one _ rfl h
 |[.cell t T],hrs,h,one=>exact one _ rfl h
 |r1::r2::rs,hrs,h,_=>
  have h':resK.go P σ m (r1::r2::rs) fun xs=>K (.tup xs):=by cases r1<;>exact h
  obtain ⟨xs,hK,hrun⟩:=res_go h'
  refine ⟨_,hK,fun ε a w hg hs=> ?_⟩
  obtain ⟨vs,e2,e3,e1⟩:=hrun ε a w hg hs
  refine ⟨_,⟨vs,e2,?_⟩,fun w1 hw1=>⟨run_results hrs (e1 w1 hw1).1,?_⟩⟩
  ·match vs,e3 with
   |v::u::vs,_=>rfl
  ·rw [ev_results hrs (e1 w1 hw1).1]
   exact (e1 w1 hw1).2 _ (Ls.nil _ _)
theorem InvO.same1 {ρ:Root} {ε:Env} {m:List Res} {x:OW} (h:InvO F ρ ε m x) {w1:World} (hr:Rel x.O F x.w w1):Same ε m x.w w1:=⟨fun i b hb=>hr.heap b (.inl (h.own hb)),fun b o hb=>hr.heap b (h.frz hb)⟩
theorem InvO.evR {ρ:Root} {ε:Env} {m:List Res} {x:OW} (h:InvO F ρ ε m x) {w1:World} (hr:Rel x.O F x.w w1) {es:Array Event} (he:EvR ε m es):∀ e∈es,EvOK x.O F w1.heap.size w1.heap.size e:=fun e hm=>by
 rcases he e hm with ⟨h1,b,h2,h3⟩|⟨mk,rfl,hn⟩
 ·refine .inl ⟨h1,?_⟩
  have key:b<w1.heap.size∧(x.O b∨w1.heap.size≤b∨(F b∧e.write=false)):=by
   rcases h3 with h3|⟨⟨i,hi⟩|⟨o,hb⟩,hw⟩
   ·exact h3.elim
   ·exact ⟨Nat.lt_of_lt_of_le (ownR_lt h.inv.good hi) hr.size, .inl (h.own hi)⟩
   ·exact ⟨Nat.lt_of_lt_of_le (H_lt h.inv.good hb) hr.size,(h.frz hb).imp id fun hf=> .inr ⟨hf,hw⟩⟩
  cases hl:e.loc<;>rw [hl] at h2<;>simp only [Loc.bk,Option.some.injEq] at h2<;>try (cases h2;done)
  all_goals (subst h2;exact key)
 ·exact .inr ⟨mk,rfl,hn⟩
def endK (rs:List ResultVar) (P:Program) (n0:Nat) (res:SV) (m1:List Res) (e:Ex) (σ:List SV) (m:List Res):Prop:=match e with
 | .exit _=>False
 |_=>resK P σ m (fun x=> ∃ ks,packK ks n0 res m1 m x) rs
theorem fin_ok {fn:Func} {rs:List ResultVar} (hrs:fn.results.toList=rs) {ε ε':Env} {m0 m' m1:List Res} {res:SV} {σ':List SV} {x x':OW} {a:Act} (hg:GoodO F ε m0 x) (h3:InvO F (.at ε m0 x) ε' m' x') (h4:SlotsOK ε' σ' a) (h5:a.defers=[])
  (hres:resK P σ' m' (fun y=> ∃ ks,packK ks m0.length res m1 m' y) rs):a.defers=[]∧∃ v,(∃ ε'',SatV ε'' res v∧InvO F (.at ε m0 x) ε'' m1 x')∧∀ w1,Rel x'.O F x'.w w1→(results fn a.tmps).run P w1= .ok v w1∧∀ e∈(results fn a.tmps).events P w1 #[],EvOK x'.O F w1.heap.size w1.heap.size e:=by
 obtain ⟨y,⟨ks,⟨k1,k2⟩,k3,k4⟩,hrun⟩:=resK_sound hrs hres
 obtain ⟨v,e2,e1⟩:=hrun ε' a x'.w h3.inv.good h4
 refine ⟨h5,v,⟨selE ks ε',?_,?_⟩,fun w1 hr=>⟨(e1 w1 (h3.same1 hr)).1,h3.evR hr (e1 w1 (h3.same1 hr)).2⟩⟩
 ·rw [← k3];exact e2.ren (sel_ren ks ε')
 ·rw [← k4];exact h3.same (h3.inv.sel ks k1 (fun i hi=>k2 i (by rw [← hg.good.n];exact hi)))
end Go.Sx
end
section
namespace Go.Sx
open Go
variable {P:Program} {main:Bool} {F:Nat→Prop}
def fnIs (P:Program) (quiet:FuncId→Bool) (f:FuncId):Option (IC×List ResultVar×Nat):=match P.funcs[f]? with
 |some fn=>match fn.body with
  |some c=>match comp P quiet c with
   |some ic=>if fn.name != "runtime.NumGoroutine" then some (ic,fn.results.toList,fn.ntmps) else none
   |none=>none
  |none=>none
 |none=>none
theorem fnIs_ok {quiet:FuncId→Bool} {f:FuncId} {ic:IC} {rs:List ResultVar} {nt:Nat} (h:fnIs P quiet f=some (ic,rs,nt)):okFn P f=true∧∃ fn c,P.funcs[f]? =some fn∧fn.body=some c∧comp P quiet c=some ic∧fn.results.toList=rs∧fn.ntmps=nt:=by
 unfold fnIs at h
 split at h<;>try (cases h;done)
 rename_i fn hf
 split at h<;>try (cases h;done)
 rename_i c hc
 split at h<;>try (cases h;done)
 rename_i ic' hic
 split at h<;>try (cases h;done)
 rename_i hn
 simp only [Option.some.injEq,Prod.mk.injEq] at h
 obtain ⟨rfl,rfl,rfl⟩:=h
 refine ⟨?_,fn,c,hf,hc,hic,rfl,rfl⟩
 unfold okFn
 rw [hf]
 simp only [Bool.and_eq_true]
 exact ⟨hn,by rw [hc];rfl⟩
def qall:FuncId→Bool:=fun _=>true
@[reducible] def q (d:Nat) (x:PIO):IOp:=⟨some d,none, .p x⟩
@[reducible] def r (d:Nat) (x:EIO):IOp:=⟨some d,none, .e x⟩
@[reducible] def u (x:EIO):IOp:=⟨none,none, .e x⟩
@[reducible] def g (d:Nat) (s:Nat) (b:Bool) (x:PIO):IOp:=⟨some d,some (s,b), .p x⟩
@[reducible] def I (n:Int):Opd:= .c (.int .i64 n)
@[reducible] def B (b:Bool):Opd:= .c (.bool b)
def Hook.on (f:FuncId) (S:List SV→List Res→(SV→List Res→Prop)→Prop) (Γ:Hook):Hook:=fun g args m K=>if g=f then S args m K else Γ g args m K
theorem Hook.on_ok {f:FuncId} {S:List SV→List Res→(SV→List Res→Prop)→Prop} {Γ:Hook} (hf:okFn P f=true) (hS:∀ args m K,S args m K→∃ sv m',K sv m'∧CallStep P main F f args m sv m') (hΓ:HookOK P main F Γ):HookOK P main F (Γ.on f S):=by
 intro g args m K h
 unfold Hook.on at h
 split at h
 ·rename_i e;subst e;exact ⟨hf,hS args m K h⟩
 ·exact hΓ g args m K h
end Go.Sx
end
section
namespace Go.Sx
open Go
variable {P:Program} {main:Bool} {F:Nat→Prop}
noncomputable def frz (ε:Env) (m:List Res) (w:World):Env:=
 {ε with H:=fun b=>open Classical in if ∃ i,ownR ε i (memAt m i)=some b then w.heap[b]? else ε.H b}
def deads (m:List Res):List Res:=m.map fun _=> .dead
theorem memAt_deads (m:List Res) (i:Nat):memAt (deads m) i= .dead:=by
 unfold memAt deads
 rw [List.getD,List.getElem?_map]
 cases m[i]? <;>rfl
theorem frz_own {ε:Env} {m:List Res} {w:World} {i b:Nat} (h:ownR ε i (memAt m i)=some b):(frz ε m w).H b=w.heap[b]? :=by
 unfold frz;simp only;rw [if_pos ⟨i,h⟩]
theorem frz_H {ε:Env} {m:List Res} {w:World} (g:Good ε m w):∀ b o,ε.H b=some o→(frz ε m w).H b=some o:=by
 intro b o h
 unfold frz;simp only
 split
 ·rename_i hh
  obtain ⟨i,hi⟩:=hh
  rw [g.sep i b hi] at h;cases h
 ·exact h
theorem Inv.freeze {β:Base} {ε:Env} {m:List Res} {w:World} (h:Inv β ε m w):Inv β (frz ε m w) (deads m) w:=by
 have g:=h.good
 refine ⟨⟨by simp [frz,deads];exact g.n,(fun i=>by rw [memAt_deads];trivial),(fun i j b _ h1=>by rw [memAt_deads] at h1;cases h1),(fun i b h1=>by rw [memAt_deads] at h1;cases h1),fun b o hb=> ?_,g.gl.mono (frz_H g)⟩,
  ⟨h.kept.os,h.kept.tape,h.kept.output,h.kept.size,h.kept.heap,fun b o hb=>frz_H g b o (h.kept.H b o hb),fun b o hb=> ?_,h.kept.drawn⟩,(fun i b h1=>by rw [memAt_deads] at h1;cases h1),h.n,h.blk,(fun i _ hv=>by rw [memAt_deads] at hv;cases hv)⟩
 ·unfold frz at hb;simp only at hb
  split at hb
  ·exact hb
  ·exact g.hv b o hb
 ·unfold frz at hb;simp only at hb
  split at hb
  ·rename_i hh
   obtain ⟨i,hi⟩:=hh
   rcases h.own i b hi with h1|h1
   ·exact .inr (.inr h1)
   ·exact .inr (.inl h1)
  ·exact h.kept.fresh b o hb
def NoH (x:SV):Prop:= ∀ ε ε' cs,ε'.n=ε.n→ε'.blk=ε.blk→ε'.vv=ε.vv→SatC x ε cs→SatC x ε' cs
def NoHV (x:SV):Prop:= ∀ ε ε' v,ε'.n=ε.n→ε'.blk=ε.blk→ε'.vv=ε.vv→SatV ε x v→SatV ε' x v
def ResNoH:Res→Prop
 | .dead=>True
 | .blk _ c=>NoH c
 | .vec _ _ l=> ∀ j,j<l.length→NoH (l.getD j .junk)
 | .mp .. =>True
theorem noH_int (k n):NoH (.int k n):=fun _ _ _ _ _ _ h=>h
theorem noH_bool (b):NoH (.bool b):=fun _ _ _ _ _ _ h=>h
theorem noH_str (b):NoH (.str b):=fun _ _ _ _ _ _ h=>h
theorem noH_vec (i n):NoH (.vec i n):=fun ε ε' cs h1 h2 h3 h=>by simp only [SatC] at h ⊢;rw [h1,h3];exact h
theorem noH_ptr (i p o):NoH (.ptr i p o):=fun ε ε' cs h1 h2 h3 h=>by simp only [SatC] at h ⊢;rw [h1,h2];exact h
theorem noH_agg {l:List SV} (h:∀ x∈l,NoH x):NoH (.agg l):=by
 intro ε ε' cs h1 h2 h3 hc
 simp only [SatC] at hc ⊢
 induction l generalizing cs with
 |nil=>exact hc
 |cons x r ih=>
  simp only [SatL] at hc ⊢
  obtain ⟨a,b,e1,e2,e3⟩:=hc
  exact ⟨a,b,e1,h x (by simp) ε ε' a h1 h2 h3 e2,ih (fun y hy=>h y (by simp [hy])) _ e3⟩
theorem noH_arr {n w:Nat} {f:Nat→SV} (h:∀ i,i<n→NoH (f i)):NoH (.arr n w f):=by
 intro ε ε' cs h1 h2 h3 hc
 simp only [SatC] at hc ⊢
 exact ⟨hc.1,fun i hi=>h i hi ε ε' _ h1 h2 h3 (hc.2 i hi)⟩
theorem NoH.val {x:SV} (h:NoH x) (hv:x.isVal=true):NoHV x:=by
 intro ε ε' v h1 h2 h3 hs
 obtain ⟨cs,e1,e2⟩:=sat_val hs hv
 rw [e2]
 exact satC_sat (h ε ε' cs h1 h2 h3 e1)
theorem noHA {l:List SV} (h:∀ x∈l,NoH x) {ε ε':Env} (h1:ε'.n=ε.n) (h2:ε'.blk=ε.blk) (h3:ε'.vv=ε.vv):∀ {vs},SatA l ε vs→SatA l ε' vs:=by
 induction l with
 |nil=>intro vs hs;exact hs
 |cons x r ih=>
  intro vs hs
  simp only [SatA] at hs ⊢
  obtain ⟨cs,t,e1,e2,e3⟩:=hs
  exact ⟨cs,t,e1,h x (by simp) ε ε' cs h1 h2 h3 e2,ih (fun y hy=>h y (by simp [hy])) e3⟩
theorem noHV_tup {l:List SV} (h:∀ x∈l,NoH x):NoHV (.tup l):=by
 intro ε ε' v h1 h2 h3 ⟨vs,e1,e2⟩
 exact ⟨vs,noHA h h1 h2 h3 e1,e2⟩
theorem noHV_junk:NoHV .junk:=fun _ _ _ _ _ _ _=>trivial
theorem ResNoH.ok {ε ε':Env} {w:World} {i:Nat} {x:Res} (hx:ResNoH x) (h1:ε'.n=ε.n) (h2:ε'.blk=ε.blk) (h3:ε'.vv=ε.vv) (h:ResOK ε i w x):ResOK ε' i w x:=by
 cases x with
 |dead=>trivial
 |blk T c=>
  obtain ⟨cs,e1,e2⟩:=h
  exact ⟨cs,by rw [h2];exact e1,hx ε ε' cs h1 h2 h3 e2⟩
 |vec T w' l=>
  obtain ⟨xs,e1,e2⟩:=h
  exact ⟨xs,by rw [h3];exact e1,fun j hj=>hx j hj ε ε' _ h1 h2 h3 (e2 j hj)⟩
 |mp ek ev l=>
  obtain ⟨es,cl,e1,e2⟩:=h
  exact ⟨es,cl,by rw [h2];exact e1,e2⟩
noncomputable def thaw (ε:Env) (m:List Res) (ε':Env):Env:=
 {ε' with H:=fun b=>open Classical in if ∃ i,ownR ε i (memAt m i)=some b then none else ε'.H b}
theorem Inv.thaw {β0 β:Base} {ε ε':Env} {m new:List Res} {w w':World} (h:Inv β0 ε m w) (hε:β0.ε=β.ε) (hO:∀ i b,ownR ε i (memAt m i)=some b→β.B b∨β.w.heap.size≤b) (hle:(frz ε m w).Le ε') (h':Inv β ε' (deads m++new) w') (hnew:∀ x∈new,ResNoH x):
  Inv β (Sx.thaw ε m ε') (m++new) w'∧ε.Le (Sx.thaw ε m ε'):=by
 have g:=h.good
 have g':=h'.good
 have hn:ε.n=m.length:=g.n
 have hdl:(deads m).length=m.length:=by simp [deads]
 have hnew':∀ i,m.length≤i→memAt (m++new) i=memAt (deads m++new) i:=by
  intro i hi
  simp only [memAt,List.getD]
  rw [List.getElem?_append_right hi,List.getElem?_append_right (by rw [hdl];exact hi),hdl]
 have hold:∀ i,i<m.length→memAt (m++new) i=memAt m i:=fun i hi=>memAt_append_lt hi
 have eb:∀ i,i<m.length→(Sx.thaw ε m ε').blk i=ε.blk i:=fun i hi=>hle.blk i (by show i<ε.n;omega)
 have ev:∀ i,i<m.length→(Sx.thaw ε m ε').vv i=ε.vv i:=fun i hi=>hle.vv i (by show i<ε.n;omega)
 have eo:∀ i,i<m.length→ownR (Sx.thaw ε m ε') i (memAt (m++new) i)=ownR ε i (memAt m i):=by
  intro i hi
  rw [hold i hi]
  cases memAt m i<;>simp [ownR,eb i hi,ev i hi]
 have en:∀ i,m.length≤i→ownR (Sx.thaw ε m ε') i (memAt (m++new) i)=ownR ε' i (memAt (deads m++new) i):=by
  intro i hi
  rw [hnew' i hi];rfl
 have heapOld:∀ i b,ownR ε i (memAt m i)=some b→w'.heap[b]? =w.heap[b]? :=by
  intro i b hb
  cases hw:w.heap[b]? with
  |none=>
   have:=ownR_lt g hb
   simp at hw;omega
  |some o=>exact g'.hv b o (hle.H b o (by rw [frz_own hb];exact hw))
 have hle2:ε.Le (Sx.thaw ε m ε'):=by
  refine ⟨hle.n,fun i hi=>hle.blk i hi,fun i hi=>hle.vv i hi,fun b o hb=> ?_⟩
  unfold Sx.thaw;simp only
  split
  ·rename_i hh
   obtain ⟨i,hi⟩:=hh
   rw [g.sep i b hi] at hb;cases hb
  ·exact hle.H b o (frz_H g b o hb)
 refine ⟨⟨⟨?_,fun i=> ?_,fun i j b hij h1 h2=> ?_,fun i b hb=> ?_,fun b o hb=> ?_,h.good.gl.mono hle2.H⟩,⟨h'.kept.os,h'.kept.tape,h'.kept.output,h'.kept.size,h'.kept.heap,fun b o hb=>hle2.H b o (h.kept.H b o (by rw [hε];exact hb)),fun b o hb=> ?_,h'.kept.drawn⟩,fun i b hb=> ?_,?_,fun i hi=> ?_,fun i hi hv=> ?_⟩,hle2⟩
 ·have:=g'.n
  simp only [List.length_append,hdl] at this ⊢
  exact this
 ·rcases Nat.lt_or_ge i m.length with hi|hi
  ·rw [hold i hi]
   have hr:=g.res i
   cases hm:memAt m i with
   |dead=>trivial
   |blk T c=>
    rw [hm] at hr
    obtain ⟨cs,e1,e2⟩:=hr
    exact ⟨cs,by rw [eb i hi,heapOld i _ (by rw [hm];rfl)];exact e1,SatC.mono c hle2 e2⟩
   |vec T wd l=>
    rw [hm] at hr
    obtain ⟨xs,⟨T0,hT0,e0,e1⟩,e2⟩:=hr
    refine ⟨xs,⟨T0,hT0,e0,?_⟩,fun j hj=>SatC.mono _ hle2 (e2 j hj)⟩
    rw [ev i hi]
    rcases e1 with e1|⟨b,cap,cur,k1,k2,k3,k4,k5,k6,k7⟩
    ·exact .inl e1
    ·exact .inr ⟨b,cap,cur,k1,k2,by rw [heapOld i b (by rw [hm];simp [ownR,k1,Value.ownBlock])];exact k3,k4,k5,k6,k7⟩
   |mp ek ev l=>
    rw [hm] at hr
    obtain ⟨es,cl,e1,e2⟩:=hr
    exact ⟨es,cl,by rw [eb i hi,heapOld i _ (by rw [hm];rfl)];exact e1,e2⟩
  ·rw [hnew' i hi]
   have hx:ResNoH (memAt (deads m++new) i):=by
    simp only [memAt,List.getD]
    rw [List.getElem?_append_right (by rw [hdl];exact hi),hdl]
    cases hh:new[i - m.length]? with
    |none=>trivial
    |some x=>exact hnew x (List.mem_of_getElem? hh)
   exact ResNoH.ok (ε:=ε') hx rfl rfl rfl (g'.res i)
 ·have key:∀ i j,i<m.length→m.length≤j→ownR ε i (memAt m i)=some b→ownR ε' j (memAt (deads m++new) j)=some b→False:=by
   intro i j _ _ h1 h2
   have e1:=g'.sep j b h2
   have hb:=ownR_lt g h1
   have e2:(frz ε m w).H b=some w.heap[b]:=by rw [frz_own h1];simp [hb]
   rw [hle.H b _ e2] at e1;cases e1
  rcases Nat.lt_or_ge i m.length with hi|hi<;>rcases Nat.lt_or_ge j m.length with hj|hj
  ·rw [eo i hi] at h1;rw [eo j hj] at h2;exact g.disj i j b hij h1 h2
  ·rw [eo i hi] at h1;rw [en j hj] at h2;exact key i j hi hj h1 h2
  ·rw [en i hi] at h1;rw [eo j hj] at h2;exact key j i hj hi h2 h1
  ·rw [en i hi] at h1;rw [en j hj] at h2;exact g'.disj i j b hij h1 h2
 ·unfold Sx.thaw;simp only
  split
  ·rfl
  ·rcases Nat.lt_or_ge i m.length with hi|hi
   ·rename_i hh
    rw [eo i hi] at hb
    exact absurd ⟨i,hb⟩ hh
   ·rw [en i hi] at hb;exact g'.sep i b hb
 ·unfold Sx.thaw at hb;simp only at hb
  split at hb
  ·cases hb
  ·exact g'.hv b o hb
 ·unfold Sx.thaw at hb;simp only at hb
  split at hb
  ·cases hb
  ·exact h'.kept.fresh b o hb
 ·rcases Nat.lt_or_ge i m.length with hi|hi
  ·rw [eo i hi] at hb;exact hO i b hb
  ·rw [en i hi] at hb;exact h'.own i b hb
 ·exact h'.n
 ·exact h'.blk i hi
 ·rw [← hε] at hi ⊢
  have him:i<m.length:=by have:=h.n;omega
  rw [hold i him] at hv
  rw [ev i him];exact h.vv i hi hv
inductive Ro (m:List Res):SV→SV→Prop
 |base (x:SV):Ro m x (ren (fun _=>Option.none) x)
 |agg {l l':List SV}:l.length=l'.length→(∀ j,j<l.length→Ro m (l.getD j .junk) (l'.getD j .junk))→Ro m (.agg l) (.agg l')
 |arr {n w:Nat} {f g:Nat→SV}:(∀ i,i<n→Ro m (f i) (g i))→Ro m (.arr n w f) (.arr n w g)
 |vec {i n w:Nat} {T:TypeId} {l:List SV} {τ:Type} {d:τ} {f:τ→SV} {l0:List τ}:memAt m i= .vec T w l→l0.length=l.length→(∀ j,j<l.length→Ro m (l.getD j .junk) (f (l0.getD j d)))→Ro m (.vec i n) (.lst w d f l0)
 |ptr {i:Nat} {p:List Step} {o:Nat} {T:TypeId} {c c':SV}:memAt m i= .blk T c→Ro m c c'→Ro m (.ptr i p o) (.ref c' p o)
theorem Ro.isAgg {m:List Res} {x y:SV} (h:Ro m x y):y.isAgg=x.isAgg:=by
 cases h with
 |base=>exact ren_isAgg _ _
 |agg=>rfl
 |arr=>rfl
 |vec=>rfl
 |ptr=>rfl
theorem frz_none {ε:Env} {m:List Res} {w:World} (g:Good ε m w):RenOK (fun _=>none) ε (frz ε m w).cl:=⟨(fun _ _ _ h=>by cases h),frz_H g⟩
theorem satL_get:∀ {l:List SV} {ε:Env} {cs:List Value},SatL l ε cs↔∃ css:List (List Value),cs=css.flatten∧css.length=l.length∧∀ j,j<l.length→SatC (l.getD j .junk) ε (css.getD j [])
 |[],ε,cs=>by
  simp only [SatL]
  constructor
  ·rintro rfl;exact ⟨[],rfl,rfl,fun j hj=>absurd hj (Nat.not_lt_zero _)⟩
  ·rintro ⟨css,h1,h2,_⟩
   cases css with
   |nil=>exact h1
   |cons=>cases h2
 |x::l,ε,cs=>by
  simp only [SatL]
  constructor
  ·rintro ⟨a,b,rfl,h1,h2⟩
   obtain ⟨css,rfl,h3,h4⟩:=satL_get.1 h2
   refine ⟨a::css,rfl,by simp [h3],fun j hj=> ?_⟩
   cases j with
   |zero=>exact h1
   |succ j=>simpa using h4 j (by simpa using hj)
  ·rintro ⟨css,rfl,h2,h3⟩
   cases css with
   |nil=>cases h2
   |cons a css=>
    refine ⟨a,css.flatten,rfl,h3 0 (by simp),satL_get.2 ⟨css,rfl,by simpa using h2,fun j hj=> ?_⟩⟩
    have:=h3 (j+1) (by simpa using hj)
    simpa using this
theorem Ro.sat {ε:Env} {m:List Res} {w:World} (g:Good ε m w) {x y:SV} (h:Ro m x y):∀ {cs:List Value},SatC x ε cs→SatC y (frz ε m w).cl cs:=by
 induction h with
 |base x=>intro cs hc;exact SatC.ren _ x (frz_none g) hc
 |agg hl _ ih=>
  intro cs hc
  simp only [SatC] at hc ⊢
  obtain ⟨css,e1,e2,e3⟩:=satL_get.1 hc
  exact satL_get.2 ⟨css,e1,by omega,fun j hj=>ih j (by omega) (e3 j (by omega))⟩
 |arr _ ih=>
  intro cs hc
  simp only [SatC] at hc ⊢
  exact ⟨hc.1,fun i hi=>ih i hi (hc.2 i hi)⟩
 | @vec i n wd T l τ d f l0 hm hl _ ih=>
  intro cs hc
  simp only [SatC] at hc ⊢
  obtain ⟨h1,_,h3⟩:=hc
  have hr:=g.res i
  rw [hm] at hr
  obtain ⟨xs,⟨T0,hT0,e0,e1⟩,e2⟩:=hr
  rcases e1 with ⟨k1,k2⟩|⟨b,cap,cur,k1,k2,k3,k4,k5,k6,k7⟩
  ·refine ⟨none,0,by rw [h3,k1];simp [hl,k2],by omega,Nat.zero_le _,fun _=>rfl,fun j hj=>by omega⟩
  ·refine ⟨some ⟨b,0,none⟩,cap,by rw [h3,k1,hl],by omega,k5,(fun h=>by cases h),fun j hj=> ?_⟩
   have hj':j<l.length:=by omega
   have hjl:j*wd+wd≤l.length*wd:=by
    have:=Nat.mul_le_mul_right wd (show j+1≤l.length from hj')
    rw [Nat.succ_mul] at this;exact this
   have hcap:l.length*wd≤cap*wd:=Nat.mul_le_mul_right _ k4
   refine ⟨b,0,T0,(0,0),cur,rfl,?_,by omega,?_⟩
   ·show (frz ε m w).H b=_
    rw [frz_own (i:=i) (by rw [hm];simp [ownR,k1,Value.ownBlock])];exact k3
   ·have:=ih j hj' (e2 j hj')
    have hs:sub cur.toList (0+j*wd) wd=sub xs (j*wd) wd:=by
     rw [← k7]
     simp only [sub,Nat.zero_add]
     rw [List.drop_take,List.take_take]
     congr 1
     omega
    rw [hs];exact this
 | @ptr i p o T c c' hm _ ih=>
  intro cs hc
  simp only [SatC] at hc ⊢
  obtain ⟨h1,h2,h3⟩:=hc
  have hr:=g.res i
  rw [hm] at hr
  obtain ⟨cs',e1,e2⟩:=hr
  refine ⟨ε.blk i,T,(0,0),cs'.toArray,h3,?_,h2,ih e2⟩
  show (frz ε m w).H _=_
  rw [frz_own (i:=i) (by rw [hm];rfl)];exact e1
def RoA (m:List Res):List SV→List SV→Prop
 |[],[]=>True
 |x::l,y::l'=>Ro m x y∧RoA m l l'
 |_,_=>False
theorem RoA.sat {ε:Env} {m:List Res} {w:World} (g:Good ε m w):∀ {l l':List SV},RoA m l l'→∀ {vs:List Value},SatA l ε vs→SatA l' (frz ε m w).cl vs
 |[],[],_,vs,hs=>hs
 |x::l,y::l',h,vs,hs=>by
  simp only [SatA] at hs ⊢
  obtain ⟨cs,t,e1,e2,e3⟩:=hs
  exact ⟨cs,t,by rw [h.1.isAgg];exact e1,h.1.sat g e2,RoA.sat g h.2 e3⟩
 |[],_::_,h,_,_=>h.elim
 |_::_,[],h,_,_=>h.elim
theorem call_roG {f:FuncId} {args args0:List SV} {m m1:List Res} {res:SV} (h:FnOK P main F f args0 [] res m1) (ha:∀ ε w vs,Good ε m w→SatA args ε vs→SatA args0 (frz ε m w).cl vs)
  (hres:NoHV (ren (backI [] m.length) res)) (hm1:∀ x∈m1,ResNoH (renR (backI [] m.length) x)):
  CallStep P main F f args m (ren (backI [] m.length) res) (m++m1.map (renR (backI [] m.length))):=by
 intro ρ ε vs x hi hs
 have hs':SatA args0 (selE [] (frz ε m x.w)) vs:=SatA.mono args0 (ε:=(frz ε m x.w).cl) ⟨Nat.le_refl _,fun _ h=>absurd h (Nat.not_lt_zero _),fun _ h=>absurd h (Nat.not_lt_zero _),fun _ _ h=>h⟩ (ha _ _ _ hi.inv.good hs)
 have hdl:(deads m).length=m.length:=by simp [deads]
 have hf:InvO F ρ (frz ε m x.w) (deads m) x:=hi.same hi.inv.freeze
 refine (h _ _ _ (hf.selO (m0:=[]) List.nodup_nil rfl) hs').mono fun v x' ⟨ε',hv,hi'⟩=> ?_
 obtain ⟨ε2,hle,hvv,hi2⟩:=merge_invO (res:=res) (m:=deads m) (m0:=[]) [] List.nodup_nil (fun i h=>by cases h) rfl (Nat.zero_le _) (fun j hj=>absurd hj (Nat.not_lt_zero _)) hf hi'
 have hv:=hvv v hv
 have hmm:mergeM [] (deads m) m1=deads m++m1.map (renR (backI [] m.length)):=by simp [mergeM,hdl]
 rw [hmm] at hi2
 rw [hdl] at hv
 obtain ⟨k1,k2⟩:=Inv.thaw hi.inv (β:=ρ.base F x') rfl (fun i b hb=>by
   rcases hi.inv.own i b hb with h|h
   ·exact .inl (h.imp id fun h=>⟨hi'.sub b h.1,h.2⟩)
   ·have:=ownR_lt hi.inv.good hb
    simp only [Root.base,Root.mix,mixH_size] at h
    omega) hle hi2.inv (by
  intro x hx
  obtain ⟨y,hy,rfl⟩:=List.mem_map.1 hx
  exact hm1 y hy)
 exact ⟨_,k2,hres ε2 _ v rfl rfl rfl hv,hi2.same k1⟩
end Go.Sx
end
section
namespace Go.Sx
open Go
variable {P:Program} {main:Bool} {Fz:Nat→Prop}
section words
variable {Γ:Hook} {n0:Nat} {Q:Ex→List SV→List Res→Prop} {σ:List SV} {m:List Res}
end words
def wrO (l:List IOp):List Nat:=l.filterMap (·.dst)
def wr:IC→List Nat
 | .ops l=>wrO l
 | .dops l=>wrO l
 | .gops l d _ _ lo=>wrO l++d::wrO lo
 | .seq a b=>wr a++wr b
 | .cond _ a b=>wr a++wr b
 | .block _ c=>wr c
 | .loop c=>wr c
 |_=>[]
def leS:List SV→List SV→Prop
 |[],[]=>True
 |x::a,y::b=>(x= .junk∨x=y)∧leS a b
 |_,_=>False
theorem leS_ok:∀ {σ' σ:List SV},leS σ' σ→σ'.length=σ.length∧∀ k,σ'.getD k .junk= .junk∨σ'.getD k .junk=σ.getD k .junk
 |[],[],_=>⟨rfl,fun k=> .inl (by simp)⟩
 |x::a,y::b,h=>by
  obtain ⟨h1,h2⟩:=leS_ok h.2
  refine ⟨by simp [h1],fun k=> ?_⟩
  cases k with
  |zero=>simpa using h.1
  |succ k=>simpa using h2 k
 |[],_::_,h=>h.elim
 |_::_,[],h=>h.elim
theorem SlotsOK.le {ε:Env} {σ σ':List SV} {a:Act} (h:SlotsOK ε σ a) (hl:leS σ' σ):SlotsOK ε σ' a:=by
 obtain ⟨h1,h2⟩:=leS_ok hl
 refine ⟨by rw [h1];exact h.1,fun k=> ?_⟩
 rcases h2 k with e|e<;>rw [e]
 ·trivial
 ·exact h.2 k
theorem Weak.of_le {σ σ':List SV} {m:List Res} (h:leS σ' σ):Weak σ m σ' m:=fun _ ε _ _ hi hs=>⟨ε,hi,hs.le h⟩
theorem Weak.refl (σ:List SV) (m:List Res):Weak σ m σ m:=fun _ ε _ _ hi hs=>⟨ε,hi,hs⟩
theorem Weak.trans {σ σ' σ'':List SV} {m m' m'':List Res} (h:Weak σ m σ' m') (k:Weak σ' m' σ'' m''):Weak σ m σ'' m'':=fun β ε a w hi hs=>by
 obtain ⟨ε',h1,h2⟩:=h β ε a w hi hs
 exact k β ε' a w h1 h2
structure Hide {α β γ:Sort _} (x:α) (y:β) (z:γ):Type where
theorem Weak.le {σ σ':List SV} {m m':List Res} (h:leS σ' σ) (hm:m'=m):Weak σ m σ' m':=by subst hm;exact Weak.of_le h
theorem resK_mono {σ:List SV} {m:List Res} {K K':SV→Prop} (h:∀ x,K x→K' x):∀ {rs:List ResultVar},resK P σ m K rs→resK P σ m K' rs:=by
 have hpk:∀ {n:Nat} {ag:Bool} {K K':SV→Prop} (_:∀ x,K x→K' x) {x:SV},peek m n ag K x→peek m n ag K' x:=by
  intro n ag K K' h x hh
  cases x<;>simp only [peek] at hh ⊢ <;>first
   |exact hh
   |exact ⟨hh.1,h _ hh.2⟩
   |(split at hh<;>first|exact hh.elim|exact ⟨hh.1,h _ hh.2⟩)
 have hgo:∀ (l:List ResultVar) {K K':List SV→Prop} (_:∀ x,K x→K' x),resK.go P σ m l K→resK.go P σ m l K':=by
  intro l
  induction l with
  |nil=>intro K K' h hh;exact h _ hh
  |cons r l ih=>
   intro K K' h hh
   cases r with
   |tmp t=>exact ⟨hh.1,ih (fun x hx=>h _ hx) hh.2⟩
   |cell t T=>
    simp only [resK.go] at hh ⊢
    split at hh
    ·exact hpk (fun x hx=>⟨hx.1,ih (fun y hy=>h _ hy) hx.2⟩) hh
    ·exact hh.elim
 intro rs hh
 match rs,hh with
 |[],hh=>exact h _ hh
 |[.tmp t],hh=>exact h _ hh
 |[.cell t T],hh=>
  simp only [resK] at hh ⊢
  split at hh
  ·exact hpk h hh
  ·exact hh.elim
 | .tmp t::b::l,hh=>exact hgo (.tmp t::b::l) (K:=fun xs=>K (.tup xs)) (K':=fun xs=>K' (.tup xs)) (fun x hx=>h _ hx) (by simpa only [resK] using hh)
 | .cell t T::b::l,hh=>exact hgo (.cell t T::b::l) (K:=fun xs=>K (.tup xs)) (K':=fun xs=>K' (.tup xs)) (fun x hx=>h _ hx) (by simpa only [resK] using hh)
def Hook.ro (f:FuncId) {ι:Type} (A:ι→List SV) (R:ι→SV) (ok:ι→Prop) (Γ:Hook):Hook:=Γ.on f fun args m K=> ∃ i,ok i∧RoA m args (A i)∧K (R i) m
def Hook.fn (f:FuncId) (F:List SV→Option SV) (Γ:Hook):Hook:=Γ.on f fun args m K=>match F args with
 |some r=>K r m
 |none=>False
mutual
def lenB:SV→Prop
 | .lst _ _ f l=>l.length≤9223372036854775807∧∀ x∈l,lenB (f x)
 | .agg l=>lenBL l
 | .arr n _ f=> ∀ i,i<n→lenB (f i)
 | .ref c _ _=>lenB c
 |_=>True
def lenBL:List SV→Prop
 |[]=>True
 |x::r=>lenB x∧lenBL r
end
mutual
theorem lenB_ok:∀ (x:SV) {ε:Env} {cs:List Value},SatC x ε cs→lenB x
 | .lst w d f l,ε,cs,h=>by
  simp only [SatC] at h
  obtain ⟨ao,cap,h1,h2,h3,h4,h5⟩:=h
  simp only [lenB]
  refine ⟨by unfold maxLen at h3;omega,fun x hx=> ?_⟩
  obtain ⟨i,hi,hxi⟩:=List.getElem_of_mem hx
  obtain ⟨b,off,T,fz,cur,e1,e2,e3,e4⟩:=h5 i hi
  have e:l.getD i d=x:=by simp [List.getD,hi,hxi]
  rw [e] at e4
  exact lenB_ok (f x) e4
 | .agg l,ε,cs,h=>by simp only [SatC] at h;simp only [lenB];exact lenBL_ok l h
 | .arr n w f,ε,cs,h=>by simp only [SatC] at h;simp only [lenB];exact fun i hi=>lenB_ok (f i) (h.2 i hi)
 | .ref c p o,ε,cs,h=>by
  simp only [SatC] at h
  obtain ⟨b,T,fz,cur,h1,h2,h3,h4⟩:=h
  simp only [lenB]
  exact lenB_ok c h4
 | .int ..,_,_,_=>by simp only [lenB]
 | .bool ..,_,_,_=>by simp only [lenB]
 | .str ..,_,_,_=>by simp only [lenB]
 | .tup ..,_,_,_=>by simp only [lenB]
 | .lit ..,_,_,_=>by simp only [lenB]
 | .eptr ..,_,_,_=>by simp only [lenB]
 | .ptr ..,_,_,_=>by simp only [lenB]
 | .vec ..,_,_,_=>by simp only [lenB]
 | .vptr ..,_,_,_=>by simp only [lenB]
 | .pvec ..,_,_,_=>by simp only [lenB]
 | .map ..,_,_,_=>by simp only [lenB]
 | .fn ..,_,_,_=>by simp only [lenB]
 | .iface ..,_,_,_=>by simp only [lenB]
 | .nils,_,_,_=>by simp only [lenB]
 | .nili,_,_,_=>by simp only [lenB]
 | .nilf,_,_,_=>by simp only [lenB]
 | .nilp,_,_,_=>by simp only [lenB]
 | .nilm,_,_,_=>by simp only [lenB]
 | .anyb,_,_,_=>by simp only [lenB]
 | .raw ..,_,_,_=>by simp only [lenB]
 | .junk,_,_,_=>by simp only [lenB]
theorem lenBL_ok:∀ (l:List SV) {ε:Env} {cs:List Value},SatL l ε cs→lenBL l
 |[],_,_,_=>by simp only [lenBL]
 |x::l,ε,cs,h=>by
  simp only [SatL] at h
  obtain ⟨a,b,h1,h2,h3⟩:=h
  simp only [lenBL]
  exact ⟨lenB_ok x h2,lenBL_ok l h3⟩
end
theorem lenA_ok:∀ {l:List SV} {ε:Env} {vs:List Value},SatA l ε vs→lenBL l
 |[],_,_,_=>by simp only [lenBL]
 |x::l,ε,vs,h=>by
  simp only [SatA] at h
  obtain ⟨cs,t,h1,h2,h3⟩:=h
  simp only [lenBL]
  exact ⟨lenB_ok x h2,lenA_ok h3⟩
theorem fn_len {f:FuncId} {args:List SV} {m0 m1:List Res} {res:SV} (h:lenBL args→FnOK P main Fz f args m0 res m1):FnOK P main Fz f args m0 res m1:=fun ε w vs hg hs=>h (lenA_ok hs) ε w vs hg hs
open Go.RowKit Go.ChangeShapes
def ε0 (W:World):Env:=⟨0,fun _=>0,fun _=> .nilFunc,fun b=>W.heap[b]?⟩
theorem good_nil (W:World) (hg:Glob (ε0 W).H):Good (ε0 W) [] W:=
 ⟨rfl,fun i=>by rw [memAt_ge (Nat.zero_le _)];trivial,(fun i j b _ h=>by rw [memAt_ge (Nat.zero_le _)] at h;cases h),(fun i b h=>by rw [memAt_ge (Nat.zero_le _)] at h;cases h),fun _ _ h=>h,hg⟩
def readB (P:Program) (ts:List TypeId):Bool:=ts.all fun t=>P.readableRec t&&decide (t<P.types.size)
theorem trodAll_stays {H:Type} {enc:TypeId×Value→H} (hl:laidOutB P=true) {W W':World} {sp':Nat→Bool} (hb:Below W.heap.size W W'):∀ {ts:List TypeId} {vs:List Value} {ds:List (DataW H)} {ps:List MemPlace},
  readB P ts=true→DataW.TrodAll enc P W 0 (fun _=>true) true ts vs ds ps→(∀ p∈ps,p.block<W.heap.size)→(∀ p∈ps,sp' p.block=true)→DataW.TrodAll enc P W' 0 sp' true ts vs ds ps
 |[],[],[],_,_,h,_,_=>h
 |t::ts,v::vs,d::ds,ps,hr,h,hlt,hsp=>by
  simp only [readB,List.all_cons,Bool.and_eq_true,decide_eq_true_eq] at hr
  obtain ⟨p,q,h1,h2,rfl⟩:=h
  exact ⟨p,q,WideElems.Trod_stays hl hr.1.1 hr.1.2 h1 (fun x hx=>hb.same (hlt x (by simp [hx]))) (fun x hx=>hsp x (by simp [hx])),
   trodAll_stays hl hb hr.2 h2 (fun x hx=>hlt x (by simp [hx])) (fun x hx=>hsp x (by simp [hx])),rfl⟩
 |[],[],_::_,_,_,h,_,_=>h.elim
 |[],_::_,_,_,_,h,_,_=>h.elim
 |_::_,[],_,_,_,h,_,_=>h.elim
 |_::_,_::_,[],_,_,h,_,_=>h.elim
theorem row_close {H:Type} {enc:TypeId×Value→H} {f:Func} {s:ChangeSpec} {apart fresh handsOn again:Bool} {W W':World} {args:Array Value} {ds gs:List (DataW H)} {before:List MemPlace} {tb:TypeId}
  (hl:laidOutB P=true) (hr:readB P f.params.toList=true) (hrt:f.resultTypes= #[tb]) (htb:P.underlying tb=some .bool) (hv:s.vars=[])
  (hW:DataW.Whole enc P f.params.toList s.vars apart W args.toList ds gs before) (hb:Below W.heap.size W W')
  (hfn:s.fn H (ds++gs)= {results:=[.lit (.bool true)],args:=ds}):s.post enc P f apart fresh handsOn again W args (.bool true) W':=by
 have hlt:=hW.lt
 obtain ⟨pa,pv,hA,hV,rfl,hz,hn⟩:=hW
 rw [hv] at hV
 have hpv:pv=[]∧gs=[]:=by
  cases gs with
  |nil=>exact ⟨hV,rfl⟩
  |cons=>exact hV.elim
 obtain ⟨rfl,rfl⟩:=hpv
 have hres:∀ (b:Nat) (sp:Nat→Bool) (hd:Bool),DataW.TrodAll enc P W' b sp hd f.resultTypes.toList ((Value.bool true).resultList f.resultTypes.size) (s.fn H (ds++[])).results []:=by
  intro b sp hd
  rw [hrt,hfn]
  exact ⟨[],[],shut_bool htb true,rfl,rfl⟩
 have hargs:∀ sp:Nat→Bool,(∀ p∈pa++[],sp p.block=true)→DataW.TrodAll enc P W' 0 sp true f.params.toList args.toList (s.fn H (ds++[])).args pa:=by
  intro sp hsp
  rw [hfn]
  exact trodAll_stays hl hb hr hA (fun p hp=>hlt p (by simp [hp])) (fun p hp=>hsp p (by simp [hp]))
 have hvars:∀ sp:Nat→Bool,DataW.TrodVars enc P W' sp s.vars (s.fn H (ds++[])).vars []:=by
  intro sp
  rw [hv,hfn];rfl
 have hold:∀ p∈pa++[],(fun b=>decide (b<W.heap.size)) p.block=true:=fun p hp=>by simpa using hlt p hp
 refine ⟨ds,[],pa++[],[],pa,[],⟨pa,[],hA,by rw [hv];exact hV,rfl,hz,hn⟩,hres _ _ _,hargs _ hold,hvars _,World.keptBut_mono (fun p hp=>⟨hp,by simpa using hp⟩) (hb.frame _),fun _=> ?_⟩
 refine ⟨ok_one hrt rfl (okWide_bool_mk htb true),_,_,([]++pa)++[],⟨[]++pa,[],trodAll_append (hargs _ (fun _ _=>rfl)) (hres _ _ _),hvars _,rfl,?_,?_⟩,?_⟩
 ·intro b off hp
  have hp':MemPlace.cell b off∈pa++[]:=by simpa using hp
  rw [hb.frozen (hlt _ hp')]
  exact hz b off hp'
 ·intro ha
  simpa using hn ha
 ·intro p hp _
  simpa using hp
end Go.Sx
end
section
namespace Go.Sx
open Go Go.ChangeShapes
variable {P:Program}
inductive TT where
 |int (k:IntKind)
 |bool
 |str
 |st (l:List TT)
 |arr (n w:Nat) (T:TT)
 |sl (w:Nat) (T:TT)
 |ref (T:TT)
mutual
@[reducible] def Den:TT→Type
 | .int _=>Int
 | .bool=>Bool
 | .str=>List UInt8
 | .st l=>DenL l
 | .arr _ _ T=>Nat→Den T
 | .sl _ T=>List (Den T)
 | .ref T=>Den T
@[reducible] def DenL:List TT→Type
 |[]=>Unit
 |T::l=>Den T×DenL l
end
mutual
def dft:(T:TT)→Den T
 | .int _=>(0:Int)
 | .bool=>false
 | .str=>([]:List UInt8)
 | .st l=>dftL l
 | .arr _ _ T=>fun _:Nat=>dft T
 | .sl _ T=>([]:List (Den T))
 | .ref T=>dft T
def dftL:(l:List TT)→DenL l
 |[]=>()
 |T::l=>(dft T,dftL l)
end
mutual
def emb:(T:TT)→Den T→SV
 | .int k,n=> .int k n
 | .bool,b=> .bool b
 | .str,s=> .str s
 | .st l,x=> .agg (embL l x)
 | .arr n w T,f=> .arr n w fun i=>emb T (f i)
 | .sl w T,l=> .lst w (dft T) (emb T) l
 | .ref T,y=> .ref (emb T y) [] 0
def embL:(l:List TT)→DenL l→List SV
 |[],_=>[]
 |T::l,x=>emb T x.1::embL l x.2
end
mutual
def okD:(T:TT)→Den T→Prop
 | .int k,n=>(Lit.int k n).wf=true
 | .bool,_=>True
 | .str,s=>s.length≤9223372036854775807
 | .st l,x=>okDL l x
 | .arr n _ T,f=> ∀ i,i<n→okD T (f i)
 | .sl _ T,l=>l.length≤9223372036854775807∧∀ x∈l,okD T x
 | .ref T,y=>okD T y
def okDL:(l:List TT)→DenL l→Prop
 |[],_=>True
 |T::l,x=>okD T x.1∧okDL l x.2
end
mutual
def wT:TT→Nat
 | .st l=>wTL l
 | .arr n w _=>n*w
 |_=>1
def wTL:List TT→Nat
 |[]=>0
 |T::l=>wT T+wTL l
end
mutual
def ttB (P:Program):TypeId→TT→Bool
 |t, .int k=>match P.underlying t with
  |some (.int k')=>decide (k'=k)
  |_=>false
 |t, .bool=>match P.underlying t with
  |some .bool=>true
  |_=>false
 |t, .str=>match P.underlying t with
  |some .string=>true
  |_=>false
 |t, .st l=>match P.underlying t with
  |some (.struct fs)=>ttBL P fs.toList 0 l&&decide (P.cellsOf t=wTL l)
  |_=>false
 |t, .arr n w T=>match P.underlying t with
  |some (.array n' e)=>decide (n'=n)&&decide (P.cellsOf e=w)&&decide (P.cellsOf t=n*w)&&ttB P e T
  |_=>false
 |t, .sl w T=>match P.underlying t with
  |some (.slice e)=>decide (P.cellsOf e=w)&&decide (1≤w)&&ttB P e T
  |_=>false
 |_, .ref _=>false
def ttBL (P:Program):List Field→Nat→List TT→Bool
 |[],_,[]=>true
 |f::fs,off,T::l=>decide (f.offset=off)&&decide (P.cellsOf f.type=wT T)&&ttB P f.type T&&ttBL P fs (off+wT T) l
 |_,_,_=>false
end
theorem mapM_range {α:Type} {f:Nat→Option α}:∀ (n:Nat) (l:List α),(List.range n).mapM f=some l→l.length=n∧∀ i,i<n→f i=l[i]? :=by
 intro n l h
 have h1:=mapM_len h
 refine ⟨by simpa using h1,fun i hi=> ?_⟩
 have:=(mapM_at h i).1
 rw [List.getElem?_range hi] at this
 simpa using this
theorem cells_sub {W:World} {b off n:Nat} {sp:Option Nat} {cs:List Value} (hn:1≤n) (h:W.cells? 0 ⟨b,off,sp⟩ n=some cs):
  sp=none∧∃ cur T fz,W.heap[b]? =some (.cells cur T fz)∧off+n≤cur.size∧sub cur.toList off n=cs:=by
 unfold World.cells? at h
 rw [if_pos (Nat.zero_le _)] at h
 obtain ⟨h1,h2⟩:=mapM_range n cs h
 have h0:=h2 0 (by omega)
 have hlt:0<cs.length:=by omega
 rw [List.getElem?_eq_getElem hlt] at h0
 unfold World.cell? at h0
 simp only [Addr.add,if_true] at h0
 split at h0<;>try (cases h0;done)
 rename_i cur T fz hb
 split at h0<;>try (cases h0;done)
 rename_i hsp
 have hsp':sp=none:=by cases sp<;>simp_all
 subst hsp'
 have hcell:∀ i,i<n→cur[off+i]? =cs[i]? :=by
  intro i hi
  rw [← h2 i hi]
  unfold World.cell? Addr.add
  by_cases hi0:i=0
  ·subst hi0;simp [hb]
  ·simp [hi0,hb]
 refine ⟨rfl,cur,T,fz,hb,?_,?_⟩
 ·have:=hcell (n - 1) (by omega)
  have hl:n - 1<cs.length:=by omega
  rw [List.getElem?_eq_getElem hl] at this
  have:=(Array.getElem?_eq_some_iff.1 this).1
  omega
 ·apply List.ext_getElem?
  intro i
  unfold sub
  rw [List.getElem?_take]
  by_cases hi:i<n
  ·rw [if_pos hi,List.getElem?_drop,← hcell i hi];simp
  ·rw [if_neg hi,List.getElem?_eq_none (by omega)]
section
variable {H:Type} {enc:TypeId×Value→H} {W:World} {spare:Nat→Bool}
mutual
theorem open_T:∀ (T:TT) {t:TypeId} {fuel:Nat} {cs:List Value} {x:DataW H×List MemPlace},ttB P t T=true→DataW.trod enc P W 0 spare true fuel t cs=some x→∃ y:Den T,SatC (emb T y) (ε0 W) cs∧okD T y
 | .int k,t,fuel,cs,x,ht,h=>by
  simp only [ttB] at ht
  split at ht<;>try (cases ht;done)
  rename_i k' hu
  have:k'=k:=by simpa using ht
  subst this
  cases fuel with
  |zero=>simp [DataW.trod] at h
  |succ m=>
   unfold DataW.trod at h
   rw [hu] at h
   split at h<;>simp_all [emb,SatC,okD]
 | .bool,t,fuel,cs,x,ht,h=>by
  simp only [ttB] at ht
  split at ht<;>try (cases ht;done)
  rename_i hu
  obtain ⟨b,hc,_⟩:=DataW.trod_bool hu h
  exact ⟨b,by simp only [emb,SatC];exact hc,trivial⟩
 | .str,t,fuel,cs,x,ht,h=>by
  simp only [ttB] at ht
  split at ht<;>try (cases ht;done)
  rename_i hu
  cases fuel with
  |zero=>simp [DataW.trod] at h
  |succ m=>
   unfold DataW.trod at h
   rw [hu] at h
   split at h<;>try (simp_all;done)
   split at h<;>try (cases h;done)
   rename_i s _ hs
   refine ⟨s.data.toList,?_,?_⟩
   ·simp only [emb,SatC]
   ·simp only [okD]
    unfold maxLen at hs
    have e:s.data.toList.length=s.size:=Array.length_toList
    rw [e];omega
 | .st l,t,fuel,cs,x,ht,h=>by
  simp only [ttB] at ht
  split at ht<;>try (cases ht;done)
  rename_i fs hu
  simp only [Bool.and_eq_true,decide_eq_true_eq] at ht
  obtain ⟨xs,n,_,_,hlen,hxl,hf⟩:=DataW.trod_struct hu h
  obtain ⟨y,h1,h2⟩:=open_L l (fs:=fs.toList) (off:=0) (cs:=cs) (fuel:=n) ht.1 (by rw [hlen,ht.2];omega) (fun i f hi=>by
   have hi':fs[i]? =some f:=by simpa using hi
   have:=hf i f hi'
   have hlt:i<xs.length:=by rw [hxl];exact (Array.getElem?_eq_some_iff.1 hi').1
   rw [List.getElem?_eq_getElem hlt] at this
   exact ⟨_,this⟩)
  exact ⟨y,by simp only [emb,SatC];simpa using h1,by simp only [okD];exact h2⟩
 | .arr n w T,t,fuel,cs,x,ht,h=>by
  simp only [ttB] at ht
  split at ht<;>try (cases ht;done)
  rename_i n' e hu
  simp only [Bool.and_eq_true,decide_eq_true_eq] at ht
  obtain ⟨⟨⟨rfl,rfl⟩,h3⟩,h4⟩:=ht
  obtain ⟨xs,m,_,_,hlen,hxl,hf⟩:=DataW.trod_array hu h
  have key:∀ i,i<n'→∃ y:Den T,SatC (emb T y) (ε0 W) (sub cs (i*P.cellsOf e) (P.cellsOf e))∧okD T y:=by
   intro i hi
   have:=hf i hi
   rw [List.getElem?_eq_getElem (by omega)] at this
   exact open_T T h4 this
  classical
  refine ⟨fun i=>if hi:i<n' then Classical.choose (key i hi) else dft T,?_,?_⟩
  ·simp only [emb,SatC]
   refine ⟨by rw [hlen,h3],fun i hi=> ?_⟩
   simp only [hi,dite_true]
   exact (Classical.choose_spec (key i hi)).1
  ·simp only [okD]
   intro i hi
   simp only [hi,dite_true]
   exact (Classical.choose_spec (key i hi)).2
 | .sl w T,t,fuel,cs,x,ht,h=>by
  simp only [ttB] at ht
  split at ht<;>try (cases ht;done)
  rename_i e hu
  simp only [Bool.and_eq_true,decide_eq_true_eq] at ht
  obtain ⟨⟨rfl,hw⟩,h4⟩:=ht
  rcases DataW.trod_slice hu h with ⟨hc,_⟩|⟨a,len,cap,elems,rest,m,_,hc,_,_,hle,hcap,hel,hf,_,_⟩
  ·refine ⟨[],?_,?_⟩
   ·simp only [emb,SatC]
    exact ⟨none,0,by simpa using hc,Nat.le_refl _,Nat.zero_le _,fun _=>rfl,fun i hi=>absurd hi (Nat.not_lt_zero _)⟩
   ·simp only [okD];exact ⟨Nat.zero_le _,fun x hx=>by cases hx⟩
  ·obtain ⟨b,off,sp⟩:=a
   have key:∀ i,i<len→∃ (y:Den T) (cur:Array Value) (T':TypeId) (fz:Nat×Nat),(i=0→sp=none)∧W.heap[b]? =some (.cells cur T' fz)∧off+i*P.cellsOf e+P.cellsOf e≤cur.size∧SatC (emb T y) (ε0 W) (sub cur.toList (off+i*P.cellsOf e) (P.cellsOf e))∧okD T y:=by
    intro i hi
    have hfi:=hf i hi
    rw [List.getElem?_eq_getElem (by omega)] at hfi
    obtain ⟨cs',hcs,htr⟩:=Option.bind_eq_some_iff.1 hfi
    obtain ⟨y,k1,k2⟩:=open_T T h4 htr
    by_cases hi0:i=0
    ·subst hi0
     rw [Nat.zero_mul] at hcs ⊢
     simp only [Addr.add,if_true] at hcs
     obtain ⟨hsp,cur,T',fz,q1,q2,q3⟩:=cells_sub hw hcs
     exact ⟨y,cur,T',fz,fun _=>hsp,q1,q2,by rw [Nat.add_zero,q3];exact k1,k2⟩
    ·have hne:i*P.cellsOf e≠0:=Nat.mul_ne_zero hi0 (by omega)
     simp only [Addr.add,if_neg hne] at hcs
     obtain ⟨_,cur,T',fz,q1,q2,q3⟩:=cells_sub hw hcs
     exact ⟨y,cur,T',fz,fun h=>absurd h hi0,q1,q2,by rw [q3];exact k1,k2⟩
   classical
   let g:Nat→Den T:=fun i=>if hi:i<len then Classical.choose (key i hi) else dft T
   have hg:∀ i (hi:i<len),∃ (cur:Array Value) (T':TypeId) (fz:Nat×Nat),(i=0→sp=none)∧W.heap[b]? =some (.cells cur T' fz)∧off+i*P.cellsOf e+P.cellsOf e≤cur.size∧SatC (emb T (g i)) (ε0 W) (sub cur.toList (off+i*P.cellsOf e) (P.cellsOf e))∧okD T (g i):=by
    intro i hi
    have e:g i=Classical.choose (key i hi):=by simp [g,hi]
    rw [e]
    exact Classical.choose_spec (key i hi)
   refine ⟨(List.range len).map g,?_,?_⟩
   ·simp only [emb,SatC]
    refine ⟨some ⟨b,off,sp⟩,cap,by simpa using hc,by simpa using hle,hcap,(fun h=>by cases h),fun i hi=> ?_⟩
    have hi':i<len:=by simpa using hi
    obtain ⟨cur,T',fz,q0,q1,q2,q3,_⟩:=hg i hi'
    obtain ⟨_,_,_,p0,_⟩:=hg 0 (by omega)
    refine ⟨b,off,T',fz,cur,by rw [p0 rfl],q1,q2,?_⟩
    have e:((List.range len).map g).getD i (dft T)=g i:=by simp [List.getD,hi']
    rw [e];exact q3
   ·simp only [okD]
    refine ⟨by simp;unfold maxLen at hcap;omega,fun x hx=> ?_⟩
    obtain ⟨i,hi,rfl⟩:=List.mem_map.1 hx
    have hi':i<len:=by simpa using hi
    obtain ⟨_,_,_,_,_,_,_,q⟩:=hg i hi'
    exact q
 | .ref T,t,fuel,cs,x,ht,h=>by simp [ttB] at ht
theorem open_L:∀ (l:List TT) {fs:List Field} {off:Nat} {cs:List Value} {fuel:Nat},ttBL P fs off l=true→cs.length=off+wTL l→
  (∀ (i:Nat) (f:Field),fs[i]? =some f→∃ x,DataW.trod enc P W 0 spare true fuel f.type ((cs.drop f.offset).take (P.cellsOf f.type))=some x)→∃ y:DenL l,SatL (embL l y) (ε0 W) (cs.drop off)∧okDL l y
 |[],fs,off,cs,fuel,ht,hl,hf=>by
  refine ⟨(),?_,by simp only [okDL]⟩
  simp only [embL,SatL]
  simp only [wTL] at hl
  exact List.drop_eq_nil_of_le (by omega)
 |T::l,fs,off,cs,fuel,ht,hl,hf=>by
  cases fs with
  |nil=>simp [ttBL] at ht
  |cons f fs=>
   simp only [ttBL,Bool.and_eq_true,decide_eq_true_eq] at ht
   obtain ⟨⟨⟨h1,h2⟩,h3⟩,h4⟩:=ht
   simp only [wTL] at hl
   obtain ⟨x,hx⟩:=hf 0 f rfl
   obtain ⟨y,k1,k2⟩:=open_T T h3 hx
   obtain ⟨z,k3,k4⟩:=open_L l (fuel:=fuel) (cs:=cs) h4 (by omega) (fun i f' hi=>hf (i+1) f' (by simpa using hi))
   refine ⟨(y,z),?_,by simp only [okDL];exact ⟨k2,k4⟩⟩
   simp only [embL,SatL]
   rw [h1,h2] at k1
   refine ⟨_,_,?_,k1,k3⟩
   rw [← List.drop_drop,List.take_append_drop]
end
def ttA (P:Program):List TypeId→List TT→Bool
 |[],[]=>true
 |t::ts,T::l=>ttB P t T&&ttA P ts l
 |_,_=>false
theorem boxed_of {T:TT} {t:TypeId} {v:Value} {w:World} {base:Nat} (ht:ttB P t T=true) (h:Value.okWide P w .any base t v) {y:Den T}:v=boxed (emb T y).isAgg v.cells.toList:=by
 cases T with
 |st l=>
  simp only [ttB] at ht
  split at ht<;>try (cases ht;done)
  rename_i hu
  unfold Value.okWide at h
  rw [hu] at h
  obtain ⟨cs,rfl,_⟩:=h
  simp [emb,SV.isAgg,boxed,Value.cells]
 |arr n w' T=>
  simp only [ttB] at ht
  split at ht<;>try (cases ht;done)
  rename_i hu
  unfold Value.okWide at h
  rw [hu] at h
  obtain ⟨cs,rfl,_⟩:=h
  simp [emb,SV.isAgg,boxed,Value.cells]
 |ref T=>simp [ttB] at ht
 |int k=>
  simp only [ttB] at ht
  split at ht<;>try (cases ht;done)
  rename_i hu
  unfold Value.okWide Cell.okWide Cell.ok at h
  rw [hu] at h
  cases v<;>simp_all [emb,SV.isAgg,boxed,Value.cells]
 |bool=>
  simp only [ttB] at ht
  split at ht<;>try (cases ht;done)
  rename_i hu
  unfold Value.okWide Cell.okWide Cell.ok at h
  rw [hu] at h
  cases v<;>simp_all [emb,SV.isAgg,boxed,Value.cells]
 |str=>
  simp only [ttB] at ht
  split at ht<;>try (cases ht;done)
  rename_i hu
  unfold Value.okWide Cell.okWide Cell.ok at h
  rw [hu] at h
  cases v<;>simp_all [emb,SV.isAgg,boxed,Value.cells]
 |sl w' T=>
  simp only [ttB] at ht
  split at ht<;>try (cases ht;done)
  rename_i hu
  unfold Value.okWide Cell.okWide Cell.ok at h
  rw [hu] at h
  cases v<;>simp_all [emb,SV.isAgg,boxed,Value.cells]
theorem trod_len {base:Nat} {held:Bool}:∀ {ts:List TypeId} {vs:List Value} {ds:List (DataW H)} {ps:List MemPlace},DataW.TrodAll enc P W base spare held ts vs ds ps→ds.length=ts.length
 |[],[],[],_,_=>rfl
 |_::ts,_::vs,_::ds,_,⟨_,_,_,h,_⟩=>by simp [trod_len h]
 |[],[],_::_,_,h=>by cases h
 |[],_::_,_,_,h=>by cases h
 |_::_,[],_,_,h=>by cases h
 |_::_,_::_,[],_,h=>by cases h
theorem len_two {α:Type _} {l:List α} (h:l.length=2):∃ a b,l=[a,b]:=by
 match l,h with
 |[a,b],_=>exact ⟨a,b,rfl⟩
theorem open_args {base:Nat} {w':World}:∀ (l:List TT) {ts:List TypeId} {vs:List Value} {ds:List (DataW H)} {ps:List MemPlace},ttA P ts l=true→DataW.TrodAll enc P W 0 spare true ts vs ds ps→
  (∀ (j:Nat) t v,ts[j]? =some t→vs[j]? =some v→Value.okWide P w' .any base t v)→∃ y:DenL l,SatA (embL l y) (ε0 W) vs∧okDL l y
 |[],[],[],[],_,_,_,_=>⟨(),by simp only [embL,SatA],by simp only [okDL]⟩
 |T::l,t::ts,v::vs,d::ds,ps,ht,h,hv=>by
  simp only [ttA,Bool.and_eq_true] at ht
  obtain ⟨p,q,⟨fuel,h1⟩,h2,_⟩:=h
  obtain ⟨y,k1,k2⟩:=open_T T ht.1 h1
  obtain ⟨z,k3,k4⟩:=open_args l ht.2 h2 (fun j t v a b=>hv (j+1) t v (by simpa using a) (by simpa using b))
  refine ⟨(y,z),?_,by simp only [okDL];exact ⟨k2,k4⟩⟩
  simp only [embL,SatA]
  exact ⟨_,_,by rw [← boxed_of ht.1 (hv 0 t v rfl rfl)],k1,k3⟩
 |[],_::_,_,_,_,ht,_,_=>by simp [ttA] at ht
 |_::_,[],_,_,_,ht,_,_=>by simp [ttA] at ht
 |[],[],_::_,_,_,_,h,_=>by cases h
 |[],[],[],_::_,_,_,h,_=>by cases h
 |_::_,_::_,[],_,_,_,h,_=>by cases h
 |_::_,_::_,_::_,[],_,_,h,_=>by cases h
end
end Go.Sx
end
