/- A part of the proof of StripeRuns. Conditions: none. -/
import Derived.WalkKit
import Derived.Orders
import Derived.WalkSpells
import Derived.Conc.EventLaws2
set_option linter.unusedVariables false
set_option linter.unusedSimpArgs false
section
namespace Go.Sx
open Go
inductive Step where
 |fld (k:Nat)
 |idx (i n:Nat)
inductive SV:Type 1 where
 |int (k:IntKind) (n:Int)
 |bool (b:Bool)
 |str (s:List UInt8)
 |arr (n w:Nat) (f:Nat→SV)
 |agg (l:List SV)
 |tup (l:List SV)
 |lst {τ:Type} (w:Nat) (d:τ) (f:τ→SV) (l:List τ)
 |lit {τ:Type} (w:Nat) (d:τ) (f:τ→SV) (l:List τ)
 |eptr {τ:Type} (w:Nat) (d:τ) (f:τ→SV) (l:List τ) (i:Nat) (p:List Step) (off:Nat)
 |ref (c:SV) (p:List Step) (off:Nat)
 |ptr (i:Nat) (p:List Step) (off:Nat)
 |vec (i n:Nat)
 |vptr (i j:Nat) (p:List Step) (off:Nat)
 |pvec (i n:Nat)
 |map (i:Nat)
 |fn (f:FuncId) (cap:List SV)
 |iface (t:TypeId) (x:SV)
 |nils
 |nili
 |nilf
 |nilp
 |nilm
 |anyb
 |raw (v:Value)
 |junk
structure Env where
 n:Nat
 blk:Nat→Nat
 vv:Nat→Value
 H:Nat→Option Obj
def Env.cl (ε:Env):Env:= {ε with n:=0}
def SV.isAgg:SV→Bool
 | .arr .. | .agg _=>true
 |_=>false
def boxed (isAgg:Bool) (cs:List Value):Value:=if isAgg then .agg cs.toArray else cs.headD undef
def sub (cs:List Value) (a n:Nat):List Value:=(cs.drop a).take n
def pathOk:List Step→Prop
 |[]=>True
 | .fld _::p=>pathOk p
 | .idx i n::p=>i<n∧pathOk p
mutual
def SatC:SV→Env→List Value→Prop
 | .int k n,_,cs=>cs=[.int k n]
 | .bool b,_,cs=>cs=[.bool b]
 | .str s,_,cs=>cs=[.string ⟨s.toArray⟩]
 | .arr n w f,ε,cs=>cs.length=n*w∧∀ i,i<n→SatC (f i) ε (sub cs (i*w) w)
 | .agg l,ε,cs=>SatL l ε cs
 | .tup _,_,_=>False
 | .lst w d f l,ε,cs=> ∃ ao cap,cs=[.slice ao l.length cap]∧l.length≤cap∧cap≤maxLen∧(ao=none→cap=0)∧
   ∀ i,i<l.length→∃ b off T fz cur,ao=some ⟨b,off,none⟩∧ε.H b=some (.cells cur T fz)∧off+i*w+w≤cur.size∧
    SatC (f (l.getD i d)) ε.cl (sub cur.toList (off+i*w) w)
 | .lit w d f l,ε,cs=> ∃ ao,cs=[.slice ao l.length l.length]∧l.length≤maxLen∧(ao=none→l.length=0)∧
   ∀ i,i<l.length→∃ b off T fz cur,ao=some ⟨b,off,none⟩∧ε.H b=some (.cells cur T fz)∧off+i*w+w≤cur.size∧
    SatC (f (l.getD i d)) ε.cl (sub cur.toList (off+i*w) w)
 | .eptr w d f l i p o,ε,cs=> ∃ b off T fz cur,cs=[.pointer (some ⟨b,off+i*w+o,none⟩)]∧i<l.length∧ε.H b=some (.cells cur T fz)∧pathOk p∧
    off+i*w+w≤cur.size∧SatC (f (l.getD i d)) ε.cl (sub cur.toList (off+i*w) w)
 | .ref c p o,ε,cs=> ∃ b T fz cur,cs=[.pointer (some ⟨b,o,none⟩)]∧ε.H b=some (.cells cur T fz)∧pathOk p∧SatC c ε.cl cur.toList
 | .ptr i p o,ε,cs=>i<ε.n∧pathOk p∧cs=[.pointer (some ⟨ε.blk i,o,none⟩)]
 | .vec i n,ε,cs=>i<ε.n∧(ε.vv i= .slice none 0 0∧n=0∨∃ b cap,ε.vv i= .slice (some ⟨b,0,none⟩) n cap∧n≤cap)∧cs=[ε.vv i]
 | .pvec i n,ε,cs=>i<ε.n∧∃ ao n0 cap,ε.vv i= .slice ao n0 cap∧n≤n0∧cs=[.slice ao n cap]
 | .vptr i j p o,ε,cs=>i<ε.n∧pathOk p∧∃ b cap n,ε.vv i= .slice (some ⟨b,0,none⟩) n cap∧j<n∧cs=[.pointer (some ⟨b,o,none⟩)]
 | .map i,ε,cs=>i<ε.n∧cs=[.map (some (ε.blk i))]
 | .fn f cap,ε,cs=> ∃ vs,SatA cap ε vs∧cs=[.func (.func f) #[] vs.toArray]
 | .iface t x,ε,cs=> ∃ xs,SatC x ε xs∧cs=[.iface t (boxed x.isAgg xs)]
 | .nils,_,cs=>cs=[.slice none 0 0]
 | .nili,_,cs=>cs=[.nilIface]
 | .nilf,_,cs=>cs=[.nilFunc]
 | .nilp,_,cs=>cs=[.pointer none]
 | .nilm,_,cs=>cs=[.map none]
 | .anyb,_,cs=> ∃ b:Bool,cs=[.bool b]
 | .raw v,_,cs=>v.oneCell'=true∧cs=[v]
 | .junk,_,cs=> ∃ v:Value,v.oneCell'=true∧cs=[v]
def SatL:List SV→Env→List Value→Prop
 |[],_,cs=>cs=[]
 |x::r,ε,cs=> ∃ a b,cs=a++b∧SatC x ε a∧SatL r ε b
def SatA:List SV→Env→List Value→Prop
 |[],_,vs=>vs=[]
 |x::r,ε,vs=> ∃ cs t,vs=boxed x.isAgg cs::t∧SatC x ε cs∧SatA r ε t
end
def SatV (ε:Env) (x:SV) (v:Value):Prop:=
 match x with
 | .tup l=> ∃ vs,SatA l ε vs∧v= .tuple vs.toArray
 | .junk=>True
 |x=> ∃ cs,SatC x ε cs∧v=boxed x.isAgg cs
structure Env.Le (ε ε':Env):Prop where
 n:ε.n≤ε'.n
 blk:∀ i,i<ε.n→ε'.blk i=ε.blk i
 vv:∀ i,i<ε.n→ε'.vv i=ε.vv i
 H:∀ b o,ε.H b=some o→ε'.H b=some o
theorem Env.Le.refl (ε:Env):ε.Le ε:=⟨Nat.le_refl _,fun _ _=>rfl,fun _ _=>rfl,fun _ _ h=>h⟩
theorem Env.Le.trans {a b c:Env} (h:a.Le b) (k:b.Le c):a.Le c:=
 ⟨Nat.le_trans h.n k.n,fun i hi=>(k.blk i (Nat.lt_of_lt_of_le hi h.n)).trans (h.blk i hi),fun i hi=>(k.vv i (Nat.lt_of_lt_of_le hi h.n)).trans (h.vv i hi),fun b o h'=>k.H b o (h.H b o h')⟩
theorem Env.Le.cl {ε ε':Env} (h:ε.Le ε'):ε.cl.Le ε'.cl:=⟨Nat.le_refl _,fun _ hi=>absurd hi (Nat.not_lt_zero _),fun _ hi=>absurd hi (Nat.not_lt_zero _),h.H⟩
mutual
theorem SatC.mono:∀ (c:SV) {ε ε':Env} {cs:List Value},ε.Le ε'→SatC c ε cs→SatC c ε' cs
 | .int ..,_,_,_,_,h=>h
 | .bool ..,_,_,_,_,h=>h
 | .str ..,_,_,_,_,h=>h
 | .arr n w f,_,_,_,hl,h=>by
  simp only [SatC] at h ⊢
  exact ⟨h.1,fun i hi=>SatC.mono (f i) hl (h.2 i hi)⟩
 | .agg l,_,_,_,hl,h=>by simp only [SatC] at h ⊢;exact SatL.mono l hl h
 | .tup _,_,_,_,_,h=>h
 | .lst w d f l,_,_,_,hl,h=>by
  simp only [SatC] at h ⊢
  obtain ⟨ao,cap,h1,h2,h3,h4,h5⟩:=h
  refine ⟨ao,cap,h1,h2,h3,h4,fun i hi=> ?_⟩
  obtain ⟨b,off,T,fz,cur,e1,e2,e3,e4⟩:=h5 i hi
  exact ⟨b,off,T,fz,cur,e1,hl.H _ _ e2,e3,SatC.mono (f (l.getD i d)) hl.cl e4⟩
 | .lit w d f l,_,_,_,hl,h=>by
  simp only [SatC] at h ⊢
  obtain ⟨ao,h1,h3,h4,h5⟩:=h
  refine ⟨ao,h1,h3,h4,fun i hi=> ?_⟩
  obtain ⟨b,off,T,fz,cur,e1,e2,e3,e4⟩:=h5 i hi
  exact ⟨b,off,T,fz,cur,e1,hl.H _ _ e2,e3,SatC.mono (f (l.getD i d)) hl.cl e4⟩
 | .eptr w d f l i p o,_,_,_,hl,h=>by
  simp only [SatC] at h ⊢
  obtain ⟨b,off,T,fz,cur,h1,h2,h3,h4,h5,h6⟩:=h
  exact ⟨b,off,T,fz,cur,h1,h2,hl.H _ _ h3,h4,h5,SatC.mono (f (l.getD i d)) hl.cl h6⟩
 | .ref c p o,_,_,_,hl,h=>by
  simp only [SatC] at h ⊢
  obtain ⟨b,T,fz,cur,h1,h2,h3,h4⟩:=h
  exact ⟨b,T,fz,cur,h1,hl.H _ _ h2,h3,SatC.mono c hl.cl h4⟩
 | .ptr i p o,_,_,_,hl,h=>by
  simp only [SatC] at h ⊢
  exact ⟨Nat.lt_of_lt_of_le h.1 hl.n,h.2.1,by rw [hl.blk i h.1];exact h.2.2⟩
 | .vec i n,_,_,_,hl,h=>by
  simp only [SatC] at h ⊢
  exact ⟨Nat.lt_of_lt_of_le h.1 hl.n,by rw [hl.vv i h.1];exact h.2⟩
 | .pvec i n,_,_,_,hl,h=>by
  simp only [SatC] at h ⊢
  exact ⟨Nat.lt_of_lt_of_le h.1 hl.n,by rw [hl.vv i h.1];exact h.2⟩
 | .vptr i j p o,_,_,_,hl,h=>by
  simp only [SatC] at h ⊢
  exact ⟨Nat.lt_of_lt_of_le h.1 hl.n,h.2.1,by rw [hl.vv i h.1];exact h.2.2⟩
 | .map i,_,_,_,hl,h=>by
  simp only [SatC] at h ⊢
  exact ⟨Nat.lt_of_lt_of_le h.1 hl.n,by rw [hl.blk i h.1];exact h.2⟩
 | .fn f cap,_,_,_,hl,h=>by
  simp only [SatC] at h ⊢
  obtain ⟨vs,h1,h2⟩:=h
  exact ⟨vs,SatA.mono cap hl h1,h2⟩
 | .iface t x,_,_,_,hl,h=>by
  simp only [SatC] at h ⊢
  obtain ⟨xs,h1,h2⟩:=h
  exact ⟨xs,SatC.mono x hl h1,h2⟩
 | .nils,_,_,_,_,h=>h
 | .nili,_,_,_,_,h=>h
 | .nilf,_,_,_,_,h=>h
 | .nilp,_,_,_,_,h=>h
 | .nilm,_,_,_,_,h=>h
 | .anyb,_,_,_,_,h=>h
 | .raw _,_,_,_,_,h=>h
 | .junk,_,_,_,_,h=>h
theorem SatL.mono:∀ (l:List SV) {ε ε':Env} {cs:List Value},ε.Le ε'→SatL l ε cs→SatL l ε' cs
 |[],_,_,_,_,h=>h
 |x::r,_,_,_,hl,h=>by
  simp only [SatL] at h ⊢
  obtain ⟨a,b,h1,h2,h3⟩:=h
  exact ⟨a,b,h1,SatC.mono x hl h2,SatL.mono r hl h3⟩
theorem SatA.mono:∀ (l:List SV) {ε ε':Env} {vs:List Value},ε.Le ε'→SatA l ε vs→SatA l ε' vs
 |[],_,_,_,_,h=>h
 |x::r,_,_,_,hl,h=>by
  simp only [SatA] at h ⊢
  obtain ⟨cs,t,h1,h2,h3⟩:=h
  exact ⟨cs,t,h1,SatC.mono x hl h2,SatA.mono r hl h3⟩
end
theorem SatV.mono {x:SV} {ε ε':Env} {v:Value} (hl:ε.Le ε') (h:SatV ε x v):SatV ε' x v:=by
 cases x
 case tup l=>obtain ⟨vs,h1,h2⟩:=h;exact ⟨vs,SatA.mono l hl h1,h2⟩
 case junk=>trivial
 all_goals (obtain ⟨cs,h1,h2⟩:=h;exact ⟨cs,SatC.mono _ hl h1,h2⟩)
end Go.Sx
end
section
namespace Go.Sx
open Go
mutual
def wd:SV→Nat
 | .arr n w _=>n*w
 | .agg l=>wds l
 |_=>1
def wds:List SV→Nat
 |[]=>0
 |x::r=>wd x+wds r
end
theorem sub_length {cs:List Value} {a n:Nat} (h:a+n≤cs.length):(sub cs a n).length=n:=by
 simp [sub];omega
theorem mul_le_len {i n w:Nat} (h:i<n):i*w+w≤n*w:=by
 have:(i+1)*w≤n*w:=Nat.mul_le_mul_right _ h
 rw [Nat.add_mul] at this;omega
mutual
theorem SatC.length:∀ (c:SV) {ε:Env} {cs:List Value},SatC c ε cs→cs.length=wd c
 | .arr n w f,_,_,h=>by simp only [SatC] at h;simp only [wd];exact h.1
 | .agg l,_,_,h=>by simp only [SatC] at h;simp only [wd];exact SatL.length l h
 | .tup _,_,_,h=>by simp only [SatC] at h
 | .int ..,_,_,h=>by simp only [SatC] at h;subst h;rfl
 | .bool ..,_,_,h=>by simp only [SatC] at h;subst h;rfl
 | .str ..,_,_,h=>by simp only [SatC] at h;subst h;rfl
 | .lst ..,_,_,h=>by simp only [SatC] at h;obtain ⟨_,_,h,_⟩:=h;subst h;rfl
 | .lit ..,_,_,h=>by simp only [SatC] at h;obtain ⟨_,h,_⟩:=h;subst h;rfl
 | .eptr ..,_,_,h=>by simp only [SatC] at h;obtain ⟨_,_,_,_,_,h,_⟩:=h;subst h;rfl
 | .ref ..,_,_,h=>by simp only [SatC] at h;obtain ⟨_,_,_,_,h,_⟩:=h;subst h;rfl
 | .ptr ..,_,_,h=>by simp only [SatC] at h;obtain ⟨_,_,h⟩:=h;subst h;rfl
 | .vec ..,_,_,h=>by simp only [SatC] at h;obtain ⟨_,_,h⟩:=h;subst h;rfl
 | .vptr ..,_,_,h=>by simp only [SatC] at h;obtain ⟨_,_,_,_,_,_,_,h⟩:=h;subst h;rfl
 | .pvec ..,_,_,h=>by simp only [SatC] at h;obtain ⟨_,_,_,_,_,_,h⟩:=h;subst h;rfl
 | .map ..,_,_,h=>by simp only [SatC] at h;obtain ⟨_,h⟩:=h;subst h;rfl
 | .fn ..,_,_,h=>by simp only [SatC] at h;obtain ⟨_,_,h⟩:=h;subst h;rfl
 | .iface ..,_,_,h=>by simp only [SatC] at h;obtain ⟨_,_,h⟩:=h;subst h;rfl
 | .nils,_,_,h=>by simp only [SatC] at h;subst h;rfl
 | .nili,_,_,h=>by simp only [SatC] at h;subst h;rfl
 | .nilf,_,_,h=>by simp only [SatC] at h;subst h;rfl
 | .nilp,_,_,h=>by simp only [SatC] at h;subst h;rfl
 | .nilm,_,_,h=>by simp only [SatC] at h;subst h;rfl
 | .anyb,_,_,h=>by simp only [SatC] at h;obtain ⟨_,h⟩:=h;subst h;rfl
 | .raw ..,_,_,h=>by simp only [SatC] at h;obtain ⟨_,h⟩:=h;subst h;rfl
 | .junk,_,_,h=>by simp only [SatC] at h;obtain ⟨_,_,h⟩:=h;subst h;rfl
theorem SatL.length:∀ (l:List SV) {ε:Env} {cs:List Value},SatL l ε cs→cs.length=wds l
 |[],_,_,h=>by simp only [SatL] at h;subst h;rfl
 |x::r,_,_,h=>by
  simp only [SatL] at h
  obtain ⟨a,b,h1,h2,h3⟩:=h
  have e1:=SatC.length x h2
  have e2:=SatL.length r h3
  subst h1
  simp [wds,e1,e2]
end
theorem sub_get {cs:List Value} {a n j:Nat}:(sub cs a n)[j]? =if j<n then cs[a+j]? else none:=by
 unfold sub
 rw [List.getElem?_take]
 split
 ·rw [List.getElem?_drop]
 ·rfl
theorem mem_pieces {n w:Nat} {cs:List Value} (hl:cs.length=n*w) {u:Value} (hu:u∈cs):∃ i,i<n∧u∈sub cs (i*w) w:=by
 obtain ⟨j,hj,rfl⟩:=List.getElem_of_mem hu
 have hw:0<w:=by
  rcases Nat.eq_zero_or_pos w with h|h
  ·subst h;simp at hl;subst hl;simp at hj
  ·exact h
 refine ⟨j/w,?_,?_⟩
 ·rw [hl] at hj;exact Nat.div_lt_of_lt_mul (by rwa [Nat.mul_comm] at hj)
 ·apply List.mem_of_getElem? (i:=j%w)
  rw [sub_get,if_pos (Nat.mod_lt _ hw)]
  rw [Nat.mul_comm,Nat.div_add_mod]
  exact List.getElem?_eq_getElem hj
mutual
theorem SatC.one:∀ (c:SV) {ε:Env} {cs:List Value},SatC c ε cs→∀ u∈cs,u.oneCell'=true
 | .arr n w f,_,cs,h=>by
  simp only [SatC] at h
  intro u hu
  obtain ⟨i,hi,hm⟩:=mem_pieces h.1 hu
  exact SatC.one (f i) (h.2 i hi) u hm
 | .agg l,_,_,h=>by simp only [SatC] at h;exact SatL.one l h
 | .tup _,_,_,h=>by simp only [SatC] at h
 | .int ..,_,_,h=>by simp only [SatC] at h;subst h;simp [Value.oneCell']
 | .bool ..,_,_,h=>by simp only [SatC] at h;subst h;simp [Value.oneCell']
 | .str ..,_,_,h=>by simp only [SatC] at h;subst h;simp [Value.oneCell']
 | .lst ..,_,_,h=>by simp only [SatC] at h;obtain ⟨_,_,h,_⟩:=h;subst h;simp [Value.oneCell']
 | .lit ..,_,_,h=>by simp only [SatC] at h;obtain ⟨_,h,_⟩:=h;subst h;simp [Value.oneCell']
 | .eptr ..,_,_,h=>by simp only [SatC] at h;obtain ⟨_,_,_,_,_,h,_⟩:=h;subst h;simp [Value.oneCell']
 | .ref ..,_,_,h=>by simp only [SatC] at h;obtain ⟨_,_,_,_,h,_⟩:=h;subst h;simp [Value.oneCell']
 | .ptr ..,_,_,h=>by simp only [SatC] at h;obtain ⟨_,_,h⟩:=h;subst h;simp [Value.oneCell']
 | .vec ..,_,_,h=>by
  simp only [SatC] at h
  obtain ⟨_,e,h⟩:=h
  subst h
  rcases e with ⟨e,_⟩|⟨b,cap,e⟩<;>simp [e,Value.oneCell']
 | .vptr ..,_,_,h=>by simp only [SatC] at h;obtain ⟨_,_,_,_,_,_,_,h⟩:=h;subst h;simp [Value.oneCell']
 | .pvec ..,_,_,h=>by simp only [SatC] at h;obtain ⟨_,_,_,_,_,_,h⟩:=h;subst h;simp [Value.oneCell']
 | .map ..,_,_,h=>by simp only [SatC] at h;obtain ⟨_,h⟩:=h;subst h;simp [Value.oneCell']
 | .fn ..,_,_,h=>by simp only [SatC] at h;obtain ⟨_,_,h⟩:=h;subst h;simp [Value.oneCell']
 | .iface ..,_,_,h=>by simp only [SatC] at h;obtain ⟨_,_,h⟩:=h;subst h;simp [Value.oneCell']
 | .nils,_,_,h=>by simp only [SatC] at h;subst h;simp [Value.oneCell']
 | .nili,_,_,h=>by simp only [SatC] at h;subst h;simp [Value.oneCell']
 | .nilf,_,_,h=>by simp only [SatC] at h;subst h;simp [Value.oneCell']
 | .nilp,_,_,h=>by simp only [SatC] at h;subst h;simp [Value.oneCell']
 | .nilm,_,_,h=>by simp only [SatC] at h;subst h;simp [Value.oneCell']
 | .anyb,_,_,h=>by simp only [SatC] at h;obtain ⟨_,h⟩:=h;subst h;simp [Value.oneCell']
 | .raw ..,_,_,h=>by simp only [SatC] at h;obtain ⟨e,h⟩:=h;subst h;simpa using e
 | .junk,_,_,h=>by simp only [SatC] at h;obtain ⟨_,e,h⟩:=h;subst h;simpa using e
theorem SatL.one:∀ (l:List SV) {ε:Env} {cs:List Value},SatL l ε cs→∀ u∈cs,u.oneCell'=true
 |[],_,_,h=>by simp only [SatL] at h;subst h;simp
 |x::r,_,_,h=>by
  simp only [SatL] at h
  obtain ⟨a,b,h1,h2,h3⟩:=h
  subst h1
  intro u hu
  rcases List.mem_append.1 hu with hu|hu
  ·exact SatC.one x h2 u hu
  ·exact SatL.one r h3 u hu
end
def updS (f:Nat→SV) (i:Nat) (x:SV):Nat→SV:=fun j=>if j=i then x else f j
def getP:SV→List Step→SV
 |c,[]=>c
 | .agg l, .fld k::p=>getP (l.getD k .junk) p
 | .arr _ _ f, .idx i _::p=>getP (f i) p
 |_,_::_=> .junk
def setP:SV→List Step→SV→SV
 |_,[],x=>x
 | .agg l, .fld k::p,x=> .agg (l.set k (setP (l.getD k .junk) p x))
 | .arr n w f, .idx i _::p,x=> .arr n w (updS f i (setP (f i) p x))
 |c,_::_,_=>c
def atP:SV→List Step→Nat→Nat→Prop
 |_,[],acc,o=>o=acc
 | .agg l, .fld k::p,acc,o=>k<l.length∧atP (l.getD k .junk) p (acc+wds (l.take k)) o
 | .arr n w f, .idx i n'::p,acc,o=>n'=n∧atP (f i) p (acc+i*w) o
 |_,_::_,_,_=>False
theorem SatL.nth:∀ (l:List SV) (k:Nat) {ε:Env} {cs:List Value},SatL l ε cs→k<l.length→
  SatC (l.getD k .junk) ε (sub cs (wds (l.take k)) (wd (l.getD k .junk)))∧wds (l.take k)+wd (l.getD k .junk)≤cs.length
 |[],k,_,_,_,hk=>absurd hk (Nat.not_lt_zero _)
 |x::r,0,ε,cs,h,_=>by
  simp only [SatL] at h
  obtain ⟨a,b,h1,h2,h3⟩:=h
  have e1:=SatC.length x h2
  subst h1
  simp only [List.take_zero,wds,List.getD_cons_zero,sub,List.drop_zero,← e1,List.take_left]
  exact ⟨h2,by simp⟩
 |x::r,k+1,ε,cs,h,hk=>by
  simp only [SatL] at h
  obtain ⟨a,b,h1,h2,h3⟩:=h
  have e1:=SatC.length x h2
  obtain ⟨i1,i2⟩:=SatL.nth r k h3 (by simpa using hk)
  subst h1
  simp only [List.take_succ_cons,wds,List.getD_cons_succ]
  refine ⟨?_,by rw [List.length_append];omega⟩
  unfold sub at i1 ⊢
  rw [← e1,List.drop_append,List.drop_of_length_le (by omega)]
  simpa using i1
theorem sub_sub {cs:List Value} {a n b m:Nat} (h:b+m≤n):sub (sub cs a n) b m=sub cs (a+b) m:=by
 simp only [sub,List.drop_take,List.drop_drop,List.take_take]
 rw [Nat.min_eq_left (by omega)]
theorem SatC.get:∀ (p:List Step) (c:SV) {ε:Env} {cs:List Value} (acc o:Nat),SatC c ε cs→pathOk p→atP c p acc o→
  acc≤o∧SatC (getP c p) ε (sub cs (o - acc) (wd (getP c p)))∧(o - acc)+wd (getP c p)≤cs.length
 |[],c,ε,cs,acc,o,h,_,ho=>by
  have e:=SatC.length c h
  simp only [atP] at ho;subst ho
  cases c<;>simp only [getP]<;>refine ⟨Nat.le_refl _,?_,?_⟩<;>first
   |(simp only [Nat.sub_self,sub,List.drop_zero,← e,List.take_length];exact h)
   |(rw [← e];omega)
 | .fld k::p, .agg l,ε,cs,acc,o,h,hp,ho=>by
  simp only [atP] at ho
  obtain ⟨hk,ho⟩:=ho
  simp only [SatC] at h
  obtain ⟨h1,h2⟩:=SatL.nth l k h hk
  simp only [pathOk] at hp
  obtain ⟨i1,i2,i3⟩:=SatC.get p (l.getD k .junk) _ o h1 hp ho
  have hlen:=SatC.length _ h1
  simp only [getP]
  rw [hlen] at i3
  rw [sub_sub i3] at i2
  refine ⟨by omega,?_,by omega⟩
  have:wds (l.take k)+(o - (acc+wds (l.take k)))=o - acc:=by omega
  rw [this] at i2
  exact i2
 | .idx i n'::p, .arr n w f,ε,cs,acc,o,h,hp,ho=>by
  simp only [atP] at ho
  obtain ⟨hn,ho⟩:=ho
  subst hn
  simp only [SatC] at h
  simp only [pathOk] at hp
  obtain ⟨hl,hf⟩:=h
  have hw:=mul_le_len (w:=w) hp.1
  obtain ⟨i1,i2,i3⟩:=SatC.get p (f i) _ o (hf i hp.1) hp.2 ho
  have hs:(sub cs (i*w) w).length=w:=sub_length (by omega)
  rw [hs] at i3
  rw [sub_sub i3] at i2
  simp only [getP]
  refine ⟨by omega,?_,by omega⟩
  have:i*w+(o - (acc+i*w))=o - acc:=by omega
  rw [this] at i2
  exact i2
 | .fld k::p, .arr ..,_,_,_,_,_,_,ho=>by simp only [atP] at ho
 | .idx .. ::p, .agg ..,_,_,_,_,_,_,ho=>by simp only [atP] at ho
 |_::_, .int ..,_,_,_,_,_,_,ho=>by simp only [atP] at ho
 |_::_, .bool ..,_,_,_,_,_,_,ho=>by simp only [atP] at ho
 |_::_, .str ..,_,_,_,_,_,_,ho=>by simp only [atP] at ho
 |_::_, .tup ..,_,_,_,_,_,_,ho=>by simp only [atP] at ho
 |_::_, .lst ..,_,_,_,_,_,_,ho=>by simp only [atP] at ho
 |_::_, .lit ..,_,_,_,_,_,_,ho=>by simp only [atP] at ho
 |_::_, .eptr ..,_,_,_,_,_,_,ho=>by simp only [atP] at ho
 |_::_, .ref ..,_,_,_,_,_,_,ho=>by simp only [atP] at ho
 |_::_, .ptr ..,_,_,_,_,_,_,ho=>by simp only [atP] at ho
 |_::_, .vec ..,_,_,_,_,_,_,ho=>by simp only [atP] at ho
 |_::_, .vptr ..,_,_,_,_,_,_,ho=>by simp only [atP] at ho
 |_::_, .pvec ..,_,_,_,_,_,_,ho=>by simp only [atP] at ho
 |_::_, .map ..,_,_,_,_,_,_,ho=>by simp only [atP] at ho
 |_::_, .fn ..,_,_,_,_,_,_,ho=>by simp only [atP] at ho
 |_::_, .iface ..,_,_,_,_,_,_,ho=>by simp only [atP] at ho
 |_::_, .nils,_,_,_,_,_,_,ho=>by simp only [atP] at ho
 |_::_, .nili,_,_,_,_,_,_,ho=>by simp only [atP] at ho
 |_::_, .nilf,_,_,_,_,_,_,ho=>by simp only [atP] at ho
 |_::_, .nilp,_,_,_,_,_,_,ho=>by simp only [atP] at ho
 |_::_, .nilm,_,_,_,_,_,_,ho=>by simp only [atP] at ho
 |_::_, .anyb,_,_,_,_,_,_,ho=>by simp only [atP] at ho
 |_::_, .raw ..,_,_,_,_,_,_,ho=>by simp only [atP] at ho
 |_::_, .junk,_,_,_,_,_,_,ho=>by simp only [atP] at ho
theorem scalar_cells {c:SV} {ε:Env} {cs:List Value} (h:SatC c ε cs):(boxed c.isAgg cs).cells=cs.toArray:=by
 have h1:=SatC.one c h
 have h2:=SatC.length c h
 cases hc:c.isAgg with
 |true=>rfl
 |false=>
  have h3:wd c=1:=by cases c<;>first|rfl|cases hc
  match cs,h2,h1 with
  |[v],_,h1=>
   have:=h1 v (by simp)
   simp only [boxed,Bool.false_eq_true,if_false,List.headD_cons]
   cases v<;>first|rfl|(simp [Value.oneCell'] at this)
  |[],h2,_=>rw [h3] at h2;cases h2
  |_::_::_,h2,_=>rw [h3] at h2;simp at h2
def splice (cs:List Value) (a:Nat) (xs:List Value):List Value:=cs.take a++xs++cs.drop (a+xs.length)
theorem splice_length {cs xs:List Value} {a:Nat} (h:a+xs.length≤cs.length):(splice cs a xs).length=cs.length:=by
 simp [splice];omega
theorem splice_get {cs xs:List Value} {a j:Nat} (h:a+xs.length≤cs.length):
  (splice cs a xs)[j]? =if a≤j∧j<a+xs.length then xs[j - a]? else cs[j]? :=by
 unfold splice
 rw [List.append_assoc,List.getElem?_append]
 have hl:(cs.take a).length=a:=by simp;omega
 rw [hl]
 by_cases h1:j<a
 ·rw [if_pos h1,if_neg (by omega),List.getElem?_take,if_pos h1]
 ·rw [if_neg h1,List.getElem?_append]
  by_cases h2:j<a+xs.length
  ·rw [if_pos (by omega),if_pos ⟨by omega,h2⟩]
  ·rw [if_neg (by omega),if_neg (by omega),List.getElem?_drop]
   congr 1;omega
theorem sub_splice_in {cs xs:List Value} {a n b:Nat} (h1:a≤b) (h2:b+xs.length≤a+n) (h3:a+n≤cs.length):
  sub (splice cs b xs) a n=splice (sub cs a n) (b - a) xs:=by
 apply List.ext_getElem?
 intro j
 have hl:(sub cs a n).length=n:=sub_length h3
 rw [sub_get,splice_get (by omega),splice_get (by omega),sub_get]
 by_cases hj:j<n
 ·rw [if_pos hj,if_pos hj]
  by_cases hc:b≤a+j∧a+j<b+xs.length
  ·rw [if_pos hc,if_pos (by omega)];congr 1;omega
  ·rw [if_neg hc,if_neg (by omega)]
 ·rw [if_neg hj,if_neg hj,if_neg (by omega)]
theorem sub_splice_out {cs xs:List Value} {a n b:Nat} (h:b+xs.length≤a∨a+n≤b) (h3:b+xs.length≤cs.length):
  sub (splice cs b xs) a n=sub cs a n:=by
 apply List.ext_getElem?
 intro j
 rw [sub_get,splice_get (by omega),sub_get]
 by_cases hj:j<n
 ·rw [if_pos hj,if_pos hj,if_neg (by omega)]
 ·rw [if_neg hj,if_neg hj]
theorem splice_splice {cs xs:List Value} {a n b:Nat} (h1:a+n≤cs.length) (h2:b+xs.length≤n):
  splice cs a (splice (sub cs a n) b xs)=splice cs (a+b) xs:=by
 have hs:(sub cs a n).length=n:=sub_length h1
 have hl:(splice (sub cs a n) b xs).length=n:=by rw [splice_length (by omega),hs]
 apply List.ext_getElem?
 intro j
 rw [splice_get (xs:=splice (sub cs a n) b xs) (by omega),splice_get (cs:=cs) (xs:=xs) (by omega),hl]
 by_cases hj:a≤j∧j<a+n
 ·rw [if_pos hj,splice_get (by omega),sub_get]
  by_cases hj2:b≤j - a∧j - a<b+xs.length
  ·rw [if_pos hj2,if_pos (by omega)];congr 1;omega
  ·rw [if_neg hj2,if_pos (show j - a<n by omega),if_neg (show ¬ (a+b≤j∧j<a+b+xs.length) by omega)];congr 1;omega
 ·rw [if_neg hj,if_neg (by omega)]
theorem SatL.setNth:∀ (l:List SV) (k:Nat) {ε:Env} {cs xs:List Value} {x:SV} (_:SatL l ε cs) (_:k<l.length)
  (_:SatC x ε xs) (_:xs.length=wd (l.getD k .junk)),SatL (l.set k x) ε (splice cs (wds (l.take k)) xs)
 |[],k,_,_,_,_,_,hk,_,_=>absurd hk (Nat.not_lt_zero _)
 |y::r,0,ε,cs,xs,x,h,_,hx,hl=>by
  simp only [SatL] at h
  obtain ⟨a,b,h1,h2,h3⟩:=h
  have e1:=SatC.length y h2
  subst h1
  simp only [List.getD_cons_zero] at hl
  simp only [List.set_cons_zero,SatL,List.take_zero,wds,splice,List.nil_append,Nat.zero_add,hl,← e1,List.drop_left]
  exact ⟨xs,b,rfl,hx,h3⟩
 |y::r,k+1,ε,cs,xs,x,h,hk,hx,hl=>by
  simp only [SatL] at h
  obtain ⟨a,b,h1,h2,h3⟩:=h
  have e1:=SatC.length y h2
  have ih:=SatL.setNth r k h3 (by simpa using hk) hx (by simpa using hl)
  subst h1
  simp only [List.set_cons_succ,SatL,List.take_succ_cons,wds]
  refine ⟨a,_,?_,h2,ih⟩
  simp only [splice,← e1,List.take_append,List.drop_append,List.append_assoc]
  rw [List.take_of_length_le (by omega),List.drop_of_length_le (by omega)]
  simp [Nat.add_assoc]
theorem setP_wd:∀ (p:List Step) (c x:SV) (acc o:Nat),atP c p acc o→wd x=wd (getP c p)→wd (setP c p x)=wd c:=by
 intro p
 induction p with
 |nil=>intro c x acc o _ h;cases c<;>simpa [setP,getP] using h
 |cons s p ih=>
  intro c x acc o ho h
  cases c<;>cases s<;>simp only [atP] at ho
  ·simp [setP,wd]
  ·rename_i l k
   simp only [getP] at h
   have:=ih _ _ _ _ ho.2 h
   simp only [setP,wd]
   clear ih ho h
   revert k
   induction l with
   |nil=>intro k _;simp
   |cons y r ihl=>
    intro k hk
    cases k with
    |zero=>simp only [List.getD_cons_zero] at hk;simp [wds,hk]
    |succ k=>simp only [List.getD_cons_succ] at hk;simp only [List.getD_cons_succ,List.set_cons_succ,wds,ihl k hk]
theorem SatC.set:∀ (p:List Step) (c:SV) {ε:Env} {cs xs:List Value} {x:SV} (acc o:Nat),SatC c ε cs→pathOk p→atP c p acc o→
  SatC x ε xs→wd x=wd (getP c p)→SatC (setP c p x) ε (splice cs (o - acc) xs)
 |[],c,ε,cs,xs,x,acc,o,h,_,ho,hx,hw=>by
  have e:=SatC.length c h
  have e2:=SatC.length x hx
  have hw':wd x=wd c:=by cases c<;>simpa [getP] using hw
  simp only [atP] at ho;subst ho
  have:splice cs (o - o) xs=xs:=by
   simp only [Nat.sub_self,splice,List.take_zero,List.nil_append,Nat.zero_add]
   rw [List.drop_of_length_le (by omega)];simp
  rw [this]
  cases c<;>exact hx
 | .fld k::p, .agg l,ε,cs,xs,x,acc,o,h,hp,ho,hx,hw=>by
  simp only [atP] at ho
  obtain ⟨hk,ho⟩:=ho
  simp only [SatC] at h
  simp only [pathOk] at hp
  simp only [getP] at hw
  obtain ⟨h1,h2⟩:=SatL.nth l k h hk
  obtain ⟨i1,i2,i3⟩:=SatC.get p (l.getD k .junk) _ o h1 hp ho
  have ih:=SatC.set p (l.getD k .junk) _ o h1 hp ho hx hw
  have hl1:=SatC.length _ h1
  have hl2:=SatC.length _ ih
  have hx2:=SatC.length x hx
  have hwd:=setP_wd p (l.getD k .junk) x _ o ho hw
  have:=SatL.setNth l k h hk ih (by rw [hl2,hwd])
  simp only [setP,SatC]
  have key:=splice_splice (cs:=cs) (xs:=xs) (a:=wds (l.take k)) (n:=wd (l.getD k .junk)) (b:=o - (acc+wds (l.take k))) (by omega) (by omega)
  rw [show wds (l.take k)+(o - (acc+wds (l.take k)))=o - acc by omega] at key
  rw [key] at this
  exact this
 | .idx i n'::p, .arr n w f,ε,cs,xs,x,acc,o,h,hp,ho,hx,hw=>by
  simp only [atP] at ho
  obtain ⟨hn,ho⟩:=ho
  subst hn
  simp only [SatC] at h
  simp only [pathOk] at hp
  simp only [getP] at hw
  obtain ⟨hl,hf⟩:=h
  have hwl:=mul_le_len (w:=w) hp.1
  obtain ⟨i1,i2,i3⟩:=SatC.get p (f i) _ o (hf i hp.1) hp.2 ho
  have ih:=SatC.set p (f i) _ o (hf i hp.1) hp.2 ho hx hw
  have hs:(sub cs (i*w) w).length=w:=sub_length (by omega)
  have hx2:=SatC.length x hx
  rw [hs] at i3
  simp only [setP,SatC]
  refine ⟨by rw [splice_length (by omega)];exact hl,fun j hj=> ?_⟩
  unfold updS
  by_cases hji:j=i
  ·subst hji
   rw [if_pos rfl,sub_splice_in (by omega) (by omega) (by omega)]
   have:o - acc - j*w=o - (acc+j*w):=by omega
   rw [this]
   exact ih
  ·rw [if_neg hji,sub_splice_out ?_ (by omega)]
   ·exact hf j hj
   ·rcases Nat.lt_or_gt_of_ne hji with hlt|hgt
    ·right
     have:=mul_le_len (w:=w) hlt
     omega
    ·left
     have:=mul_le_len (w:=w) hgt
     omega
 | .fld k::p, .arr ..,_,_,_,_,_,_,_,_,ho,_,_=>by simp only [atP] at ho
 | .idx .. ::p, .agg ..,_,_,_,_,_,_,_,_,ho,_,_=>by simp only [atP] at ho
 |_::_, .int ..,_,_,_,_,_,_,_,_,ho,_,_=>by simp only [atP] at ho
 |_::_, .bool ..,_,_,_,_,_,_,_,_,ho,_,_=>by simp only [atP] at ho
 |_::_, .str ..,_,_,_,_,_,_,_,_,ho,_,_=>by simp only [atP] at ho
 |_::_, .tup ..,_,_,_,_,_,_,_,_,ho,_,_=>by simp only [atP] at ho
 |_::_, .lst ..,_,_,_,_,_,_,_,_,ho,_,_=>by simp only [atP] at ho
 |_::_, .lit ..,_,_,_,_,_,_,_,_,ho,_,_=>by simp only [atP] at ho
 |_::_, .eptr ..,_,_,_,_,_,_,_,_,ho,_,_=>by simp only [atP] at ho
 |_::_, .ref ..,_,_,_,_,_,_,_,_,ho,_,_=>by simp only [atP] at ho
 |_::_, .ptr ..,_,_,_,_,_,_,_,_,ho,_,_=>by simp only [atP] at ho
 |_::_, .vec ..,_,_,_,_,_,_,_,_,ho,_,_=>by simp only [atP] at ho
 |_::_, .vptr ..,_,_,_,_,_,_,_,_,ho,_,_=>by simp only [atP] at ho
 |_::_, .pvec ..,_,_,_,_,_,_,_,_,ho,_,_=>by simp only [atP] at ho
 |_::_, .map ..,_,_,_,_,_,_,_,_,ho,_,_=>by simp only [atP] at ho
 |_::_, .fn ..,_,_,_,_,_,_,_,_,ho,_,_=>by simp only [atP] at ho
 |_::_, .iface ..,_,_,_,_,_,_,_,_,ho,_,_=>by simp only [atP] at ho
 |_::_, .nils,_,_,_,_,_,_,_,_,ho,_,_=>by simp only [atP] at ho
 |_::_, .nili,_,_,_,_,_,_,_,_,ho,_,_=>by simp only [atP] at ho
 |_::_, .nilf,_,_,_,_,_,_,_,_,ho,_,_=>by simp only [atP] at ho
 |_::_, .nilp,_,_,_,_,_,_,_,_,ho,_,_=>by simp only [atP] at ho
 |_::_, .nilm,_,_,_,_,_,_,_,_,ho,_,_=>by simp only [atP] at ho
 |_::_, .anyb,_,_,_,_,_,_,_,_,ho,_,_=>by simp only [atP] at ho
 |_::_, .raw ..,_,_,_,_,_,_,_,_,ho,_,_=>by simp only [atP] at ho
 |_::_, .junk,_,_,_,_,_,_,_,_,ho,_,_=>by simp only [atP] at ho
end Go.Sx
end
section
namespace Go.Sx
open Go
inductive ES where
 |int (k:IntKind)
 |bool
 |str
 |st (l:List ES)
 |arr (n w:Nat) (e:ES)
mutual
def esP:ES→SV→Prop
 | .int k,x=>match x with
  | .int k' _=>k'=k
  |_=>False
 | .bool,x=>match x with
  | .bool _=>True
  |_=>False
 | .str,x=>match x with
  | .str _=>True
  |_=>False
 | .st l,x=>match x with
  | .agg xs=>esPL l xs
  |_=>False
 | .arr n w e,x=>match x with
  | .arr n' w' f=>n'=n∧w'=w∧∀ i,i<n→esP e (f i)
  |_=>False
def esPL:List ES→List SV→Prop
 |[],xs=>match xs with
  |[]=>True
  |_=>False
 |e::l,xs=>match xs with
  |x::xs=>esP e x∧esPL l xs
  |[]=>False
end
mutual
def datP:SV→Prop
 | .int .. =>True
 | .bool _=>True
 | .str _=>True
 | .agg l=>datPL l
 | .arr n _ f=> ∀ i,i<n→datP (f i)
 |_=>False
def datPL:List SV→Prop
 |[]=>True
 |x::r=>datP x∧datPL r
end
mutual
theorem dat_env:∀ (x:SV) {ε ε':Env} {cs:List Value},datP x→SatC x ε cs→SatC x ε' cs
 | .int ..,_,_,_,_,h=>h
 | .bool ..,_,_,_,_,h=>h
 | .str ..,_,_,_,_,h=>h
 | .agg l,_,_,_,hd,h=>by simp only [SatC] at h ⊢;exact datL_env l hd h
 | .arr n w f,_,_,_,hd,h=>by
  simp only [SatC] at h ⊢
  exact ⟨h.1,fun i hi=>dat_env (f i) (hd i hi) (h.2 i hi)⟩
 | .tup _,_,_,_,hd,_=>hd.elim
 | .lst ..,_,_,_,hd,_=>hd.elim
 | .lit ..,_,_,_,hd,_=>hd.elim
 | .eptr ..,_,_,_,hd,_=>hd.elim
 | .ref ..,_,_,_,hd,_=>hd.elim
 | .ptr ..,_,_,_,hd,_=>hd.elim
 | .vec ..,_,_,_,hd,_=>hd.elim
 | .vptr ..,_,_,_,hd,_=>hd.elim
 | .pvec ..,_,_,_,hd,_=>hd.elim
 | .map ..,_,_,_,hd,_=>hd.elim
 | .fn ..,_,_,_,hd,_=>hd.elim
 | .iface ..,_,_,_,hd,_=>hd.elim
 | .nils,_,_,_,hd,_=>hd.elim
 | .nili,_,_,_,hd,_=>hd.elim
 | .nilf,_,_,_,hd,_=>hd.elim
 | .nilp,_,_,_,hd,_=>hd.elim
 | .nilm,_,_,_,hd,_=>hd.elim
 | .anyb,_,_,_,hd,_=>hd.elim
 | .raw _,_,_,_,hd,_=>hd.elim
 | .junk,_,_,_,hd,_=>hd.elim
theorem datL_env:∀ (l:List SV) {ε ε':Env} {cs:List Value},datPL l→SatL l ε cs→SatL l ε' cs
 |[],_,_,_,_,h=>h
 |x::r,_,_,_,hd,h=>by
  simp only [SatL] at h ⊢
  obtain ⟨a,b,h1,h2,h3⟩:=h
  exact ⟨a,b,h1,dat_env x hd.1 h2,datL_env r hd.2 h3⟩
end
theorem datPL_at:∀ {l:List SV} {i:Nat},datPL l→i<l.length→datP (l.getD i .junk)
 |[],i,_,hi=>absurd hi (Nat.not_lt_zero _)
 |x::r,0,h,_=>h.1
 |x::r,i+1,h,hi=>by
  rw [List.getD_cons_succ]
  exact datPL_at h.2 (by simpa using hi)
def Env.nil:Env:=⟨0,fun _=>0,fun _=>undef,fun _=>none⟩
def evP:ES→SV→Prop
 | .arr 0 0 (.st []),x=>match x with
  | .agg [.int .i64 _, .fn _ []]=>True
  | .agg [.int .i64 _, .nilf]=>True
  |_=>False
 |e,x=>esP e x
structure EntOK (ek ev:ES) (p:SV×SV) (e:MapEntry):Prop where
 k:esP ek p.1
 v:evP ev p.2
 kc:∃ cs,SatC p.1 Env.nil cs∧e.key=boxed p.1.isAgg cs
 vc:∃ cs,SatC p.2 Env.nil cs∧e.val=boxed p.2.isAgg cs
def EntsOK (ek ev:ES):List (SV×SV)→List MapEntry→Prop
 |[],[]=>True
 |p::l,e::es=>EntOK ek ev p e∧EntsOK ek ev l es
 |_,_=>False
def Stamps (es:List MapEntry) (clock:Nat):Prop:=(es.map (·.born)).Nodup∧∀ e∈es,e.born<clock
inductive Res:Type 1 where
 |dead
 |blk (T:TypeId) (c:SV)
 |vec (T:TypeId) (w:Nat) (l:List SV)
 |mp (ek ev:ES) (l:List (SV×SV))
def Res.isVec:Res→Bool
 | .vec .. =>true
 |_=>false
def pinB:Nat:=1000000
def Res.isBlk:Res→Bool
 | .blk .. =>true
 | .mp .. =>true
 | .vec T _ _=>decide (pinB≤T)
 | .dead=>false
def VRow (w:World) (T wd:Nat) (v:Value) (n:Nat) (xs:List Value):Prop:= ∃ T0,(T0=T∨T0+pinB=T)∧w.ownsRow 0 T0 wd v n xs
theorem VRow.of {w:World} {T wd:Nat} {v:Value} {n:Nat} {xs:List Value} (h:w.ownsRow 0 T wd v n xs):VRow w T wd v n xs:=⟨T, .inl rfl,h⟩
theorem VRow.get {w:World} {T wd:Nat} {v:Value} {n:Nat} {xs:List Value} (h:VRow w T wd v n xs) (hT:T<pinB):w.ownsRow 0 T wd v n xs:=by
 obtain ⟨T0,rfl|e,h⟩:=h
 ·exact h
 ·omega
def ownR (ε:Env) (i:Nat):Res→Option Nat
 | .dead=>none
 | .blk .. =>some (ε.blk i)
 | .vec .. =>(ε.vv i).ownBlock
 | .mp .. =>some (ε.blk i)
def ResOK (ε:Env) (i:Nat) (w:World):Res→Prop
 | .dead=>True
 | .blk T c=> ∃ cs:List Value,w.heap[ε.blk i]? =some (.cells cs.toArray T (0,0))∧SatC c ε cs
 | .vec T wd l=> ∃ xs,VRow w T wd (ε.vv i) l.length xs∧∀ j,j<l.length→SatC (l.getD j .junk) ε (sub xs (j*wd) wd)
 | .mp ek ev l=> ∃ (es:Array MapEntry) (clock:Nat),w.heap[ε.blk i]? =some (.map es clock)∧EntsOK ek ev l es.toList∧Stamps es.toList clock
def memAt (m:List Res) (i:Nat):Res:=m.getD i .dead
def globT:List (Nat×List Value):=[]
def globE:List Nat:=[]
def Glob (H:Nat→Option Obj):Prop:=(∀ p∈globT,∃ T fz,H p.1=some (.cells p.2.toArray T fz))∧∀ b∈globE,∃ ev T fz,H b=some (.cells #[ev] T fz)∧(ev= .nilIface∨∃ t p,ev= .iface t p)
theorem Glob.mono {H H':Nat→Option Obj} (g:Glob H) (h:∀ b o,H b=some o→H' b=some o):Glob H':=
 ⟨fun p hp=>let ⟨T,fz,e⟩:=g.1 p hp;⟨T,fz,h _ _ e⟩,fun b hb=>let ⟨ev,T,fz,e,k⟩:=g.2 b hb;⟨ev,T,fz,h _ _ e,k⟩⟩
structure Good (ε:Env) (m:List Res) (w:World):Prop where
 n:ε.n=m.length
 res:∀ i,ResOK ε i w (memAt m i)
 disj:∀ i j b,i≠j→ownR ε i (memAt m i)=some b→ownR ε j (memAt m j)≠some b
 sep:∀ i b,ownR ε i (memAt m i)=some b→ε.H b=none
 hv:∀ b o,ε.H b=some o→w.heap[b]? =some o
 gl:Glob ε.H
def strict:Bool:=true
structure Kept (B:Nat→Prop) (ε:Env) (w:World) (ε':Env) (w':World):Prop where
 os:w'.os=w.os
 tape:w'.tape=w.tape
 output:w'.output=w.output
 size:w.heap.size≤w'.heap.size
 heap:∀ b,b<w.heap.size→¬ B b→w'.heap[b]? =w.heap[b]?
 H:∀ b o,ε.H b=some o→ε'.H b=some o
 fresh:∀ b o,ε'.H b=some o→ε.H b=some o∨w.heap.size≤b∨B b
 drawn:strict=true→w.drawn≤w'.drawn
theorem Kept.refl (B:Nat→Prop) (ε:Env) (w:World):Kept B ε w ε w:=⟨rfl,rfl,rfl,Nat.le_refl _,fun _ _ _=>rfl,fun _ _ h=>h,fun _ _ h=> .inl h,fun _=>Nat.le_refl _⟩
structure Base where
 w:World
 ε:Env
 B:Nat→Prop
structure Inv (β:Base) (ε:Env) (m:List Res) (w:World):Prop where
 good:Good ε m w
 kept:Kept β.B β.ε β.w ε w
 own:∀ i b,ownR ε i (memAt m i)=some b→β.B b∨β.w.heap.size≤b
 n:β.ε.n≤ε.n
 blk:∀ i,i<β.ε.n→ε.blk i=β.ε.blk i
 vv:∀ i,i<β.ε.n→(memAt m i).isBlk=true→ε.vv i=β.ε.vv i
theorem ownR_lt {ε:Env} {m:List Res} {w:World} (g:Good ε m w) {i b:Nat} (h:ownR ε i (memAt m i)=some b):b<w.heap.size:=by
 have hr:=g.res i
 cases hm:memAt m i with
 |dead=>rw [hm] at h;cases h
 |blk T c=>
  rw [hm] at h hr
  simp only [ownR,Option.some.injEq] at h
  obtain ⟨cs,hc,_⟩:=hr
  subst h
  exact (Array.getElem?_eq_some_iff.1 hc).1
 |vec T wd l=>
  rw [hm] at h hr
  obtain ⟨xs,⟨_,_,ho⟩,_⟩:=hr
  exact (ho.lt b h).2
 |mp ek ev l=>
  rw [hm] at h hr
  simp only [ownR,Option.some.injEq] at h
  obtain ⟨es,cl,hc,_⟩:=hr
  subst h
  exact (Array.getElem?_eq_some_iff.1 hc).1
theorem H_lt {ε:Env} {m:List Res} {w:World} (g:Good ε m w) {b:Nat} {o:Obj} (h:ε.H b=some o):b<w.heap.size:=
 (Array.getElem?_eq_some_iff.1 (g.hv b o h)).1
theorem Good.grow {ε ε':Env} {m:List Res} {w w':World} (g:Good ε m w) (hl:ε.Le ε') (hn:ε'.n=m.length)
  (hb:∀ i,i<ε.n→ε'.blk i=ε.blk i) (hvv:∀ i,i<ε.n→ε'.vv i=ε.vv i)
  (hw:∀ b,b<w.heap.size→w'.heap[b]? =w.heap[b]?) (hH:∀ b o,ε'.H b=some o→w'.heap[b]? =some o)
  (hsep:∀ i b,ownR ε i (memAt m i)=some b→ε'.H b=none):Good ε' m w':=by
 have hown:∀ i,ownR ε' i (memAt m i)=ownR ε i (memAt m i):=by
  intro i
  rcases Nat.lt_or_ge i m.length with hi|hi
  ·have hi':i<ε.n:=by rw [g.n];exact hi
   cases hm:memAt m i with
   |dead=>rfl
   |blk T c=>simp [ownR,hb i hi']
   |vec T wd l=>simp [ownR,hvv i hi']
   |mp ek ev l=>simp [ownR,hb i hi']
  ·have:memAt m i= .dead:=by simp [memAt,List.getD,List.getElem?_eq_none hi]
   rw [this];rfl
 refine ⟨hn,fun i=> ?_,fun i j b hij h1 h2=> ?_,fun i b h=> ?_,hH,g.gl.mono hl.H⟩
 ·have hr:=g.res i
  rcases Nat.lt_or_ge i m.length with hi|hi
  ·have hi':i<ε.n:=by rw [g.n];exact hi
   cases hm:memAt m i with
   |dead=>trivial
   |blk T c=>
    rw [hm] at hr
    obtain ⟨cs,h1,h2⟩:=hr
    have hlt:ε.blk i<w.heap.size:=(Array.getElem?_eq_some_iff.1 h1).1
    exact ⟨cs,by rw [hb i hi',hw _ hlt];exact h1,h2.mono c hl⟩
   |vec T wd l=>
    rw [hm] at hr
    obtain ⟨xs,⟨T0,hT,h1⟩,h2⟩:=hr
    refine ⟨xs,⟨T0,hT,?_⟩,fun j hj=>(h2 j hj).mono _ hl⟩
    rw [hvv i hi']
    refine ⟨h1.1,?_⟩
    rcases h1.2 with hx|⟨gg,cap,cur,e1,e2,e3,e4⟩
    ·exact .inl hx
    ·exact .inr ⟨gg,cap,cur,e1,e2,by rw [hw _ (Array.getElem?_eq_some_iff.1 e3).1];exact e3,e4⟩
   |mp ek ev l=>
    rw [hm] at hr
    obtain ⟨es,cl,h1,h2⟩:=hr
    exact ⟨es,cl,by rw [hb i hi',hw _ (Array.getElem?_eq_some_iff.1 h1).1];exact h1,h2⟩
  ·have:memAt m i= .dead:=by simp [memAt,List.getD,List.getElem?_eq_none hi]
   rw [this];trivial
 ·rw [hown] at h1 h2;exact g.disj i j b hij h1 h2
 ·rw [hown] at h;exact hsep i b h
theorem Inv.drew {β:Base} {ε:Env} {m:List Res} {w:World} (h:Inv β ε m w):Inv β ε m {w with drawn:=w.drawn+1}:=
 ⟨h.good.grow (Env.Le.refl _) h.good.n (fun _ _=>rfl) (fun _ _=>rfl) (fun _ _=>rfl) h.good.hv h.good.sep,
  ⟨h.kept.os,h.kept.tape,h.kept.output,h.kept.size,h.kept.heap,h.kept.H,h.kept.fresh,fun e=>Nat.le_succ_of_le (h.kept.drawn e)⟩,h.own,h.n,h.blk,h.vv⟩
def Env.more (ε:Env) (b:Nat) (v:Value):Env:= {ε with n:=ε.n+1,blk:=fun i=>if i=ε.n then b else ε.blk i,vv:=fun i=>if i=ε.n then v else ε.vv i}
theorem Env.le_more (ε:Env) (b:Nat) (v:Value):ε.Le (ε.more b v):=
 ⟨Nat.le_succ _,fun i hi=>by simp [Env.more,Nat.ne_of_lt hi],fun i hi=>by simp [Env.more,Nat.ne_of_lt hi],fun _ _ h=>h⟩
theorem memAt_append_lt {m:List Res} {r:List Res} {i:Nat} (h:i<m.length):memAt (m++r) i=memAt m i:=by
 simp [memAt,List.getD,List.getElem?_append_left h]
theorem memAt_snoc {m:List Res} {r:Res}:memAt (m++[r]) m.length=r:=by simp [memAt]
theorem memAt_ge {m:List Res} {i:Nat} (h:m.length≤i):memAt m i= .dead:=by simp [memAt,List.getD,List.getElem?_eq_none h]
theorem Inv.alloc {β:Base} {ε:Env} {m:List Res} {w:World} (h:Inv β ε m w) {T:TypeId} {c:SV} {cs:List Value} (hc:SatC c ε cs):
  Inv β (ε.more w.heap.size undef) (m++[.blk T c]) (w.alloc (.cells cs.toArray T)):=by
 have hn:=h.good.n
 have hw:∀ b,b<w.heap.size→(w.alloc (.cells cs.toArray T)).heap[b]? =w.heap[b]? :=fun b hb=>Go.RowKit.Below.heap_alloc w _ b hb
 have hle:=ε.le_more w.heap.size undef
 have hown:∀ i,i<m.length→ownR (ε.more w.heap.size undef) i (memAt (m++[.blk T c]) i)=ownR ε i (memAt m i):=by
  intro i hi
  rw [memAt_append_lt hi]
  have hi':i<ε.n:=by omega
  cases memAt m i<;>simp [ownR,Env.more,Nat.ne_of_lt hi']
 have hnew:ownR (ε.more w.heap.size undef) m.length (memAt (m++[.blk T c]) m.length)=some w.heap.size:=by
  rw [memAt_snoc];simp [ownR,Env.more,hn]
 have hcase:∀ i b,ownR (ε.more w.heap.size undef) i (memAt (m++[.blk T c]) i)=some b→(i<m.length∧ownR ε i (memAt m i)=some b)∨(i=m.length∧b=w.heap.size):=by
  intro i b hb
  rcases Nat.lt_trichotomy i m.length with hi|hi|hi
  ·rw [hown i hi] at hb;exact .inl ⟨hi,hb⟩
  ·subst hi;rw [hnew] at hb;exact .inr ⟨rfl,(Option.some.inj hb).symm⟩
  ·rw [memAt_ge (by simp;omega)] at hb;cases hb
 refine ⟨⟨by simp [Env.more,hn],fun i=> ?_,fun i j b hij h1 h2=> ?_,fun i b hb=> ?_,fun b o hb=> ?_,h.good.gl⟩,⟨h.kept.os,h.kept.tape,h.kept.output,?_,?_,h.kept.H,h.kept.fresh,h.kept.drawn⟩,fun i b hb=> ?_,?_,fun i hi=> ?_,fun i hi hv=> ?_⟩
 ·rcases Nat.lt_trichotomy i m.length with hi|hi|hi
  ·rw [memAt_append_lt hi]
   have hi':i<ε.n:=by omega
   have hr:=h.good.res i
   cases hm:memAt m i with
   |dead=>trivial
   |blk T' c'=>
    rw [hm] at hr
    obtain ⟨cs',h1,h2⟩:=hr
    have hb:(ε.more w.heap.size undef).blk i=ε.blk i:=by simp [Env.more,Nat.ne_of_lt hi']
    exact ⟨cs',by rw [hb,hw _ (Array.getElem?_eq_some_iff.1 h1).1];exact h1,h2.mono c' hle⟩
   |vec T' wd l=>
    rw [hm] at hr
    obtain ⟨xs,⟨T0,hT,h1⟩,h2⟩:=hr
    have hb:(ε.more w.heap.size undef).vv i=ε.vv i:=by simp [Env.more,Nat.ne_of_lt hi']
    refine ⟨xs,⟨T0,hT,?_⟩,fun j hj=>(h2 j hj).mono _ hle⟩
    rw [hb]
    exact h1.alloc _
   |mp ek ev l=>
    rw [hm] at hr
    obtain ⟨es,cl,h1,h2⟩:=hr
    have hb:(ε.more w.heap.size undef).blk i=ε.blk i:=by simp [Env.more,Nat.ne_of_lt hi']
    exact ⟨es,cl,by rw [hb,hw _ (Array.getElem?_eq_some_iff.1 h1).1];exact h1,h2⟩
  ·subst hi
   rw [memAt_snoc]
   refine ⟨cs,?_,hc.mono c hle⟩
   have:(ε.more w.heap.size undef).blk m.length=w.heap.size:=by simp [Env.more,hn]
   rw [this]
   exact heap_alloc_new w _
  ·rw [memAt_ge (by simp;omega)];trivial
 ·rcases hcase i b h1 with ⟨hi,h1'⟩|⟨hi,hb⟩<;>rcases hcase j b h2 with ⟨hj,h2'⟩|⟨hj,hb2⟩
  ·exact h.good.disj i j b hij h1' h2'
  ·have:=ownR_lt h.good h1';omega
  ·have:=ownR_lt h.good h2';omega
  ·omega
 ·rcases hcase i b hb with ⟨_,h1⟩|⟨_,h1⟩
  ·exact h.good.sep i b h1
  ·subst h1
   cases hh:ε.H w.heap.size with
   |none=>exact hh
   |some o=>have:=H_lt h.good hh;omega
 ·rw [hw b (H_lt h.good hb)];exact h.good.hv b o hb
 ·have:=h.kept.size;simp;omega
 ·intro b hb hB;rw [hw b (Nat.lt_of_lt_of_le hb h.kept.size)];exact h.kept.heap b hb hB
 ·rcases hcase i b hb with ⟨_,h1⟩|⟨_,h1⟩
  ·exact h.own i b h1
  ·right;have:=h.kept.size;omega
 ·have:=h.n;simp [Env.more];omega
 ·have:=h.n
  have e:=h.blk i hi
  simp [Env.more]
  rw [if_neg (by omega)];exact e
 ·have hn':=h.n
  rw [memAt_append_lt (by omega)] at hv
  have e:=h.vv i hi hv
  simp [Env.more]
  rw [if_neg (by omega)];exact e
theorem memAt_lt {m:List Res} {i:Nat} (h:memAt m i≠ .dead):i<m.length:=
 Nat.lt_of_not_le fun hi=>h (memAt_ge hi)
theorem memAt_set {m:List Res} {i:Nat} (r:Res) (hi:i<m.length) (j:Nat):memAt (m.set i r) j=if j=i then r else memAt m j:=by
 unfold memAt
 rw [List.getD,List.getElem?_set]
 by_cases hj:i=j
 ·subst hj;simp [hi]
 ·rw [if_neg hj,if_neg (fun e=>hj e.symm)];rfl
theorem ResOK.same {ε:Env} {i:Nat} {w w':World} {r:Res} (h:ResOK ε i w r) (ho:∀ b,ownR ε i r=some b→w'.heap[b]? =w.heap[b]?):ResOK ε i w' r:=by
 cases r with
 |dead=>trivial
 |blk T c=>exact h.imp fun _ x=>⟨(ho _ rfl).trans x.1,x.2⟩
 |vec T wd l=>
  obtain ⟨xs,⟨T0,hT,h1,h3⟩,h2⟩:=h
  refine ⟨xs,⟨T0,hT,h1,h3.imp id fun ⟨g,cap,cur,e1,e2,e3,e4⟩=>⟨g,cap,cur,e1,e2,?_,e4⟩⟩,h2⟩
  rw [ho g (by simp [ownR,e1,Value.ownBlock])];exact e3
 |mp ek ev l=>exact h.imp fun _ x=>x.imp fun _ y=>⟨(ho _ rfl).trans y.1,y.2⟩
theorem Inv.at1 {β:Base} {ε:Env} {m:List Res} {w:World} (h:Inv β ε m w) {i:Nat} {r:Res} {w':World} (hi:i<m.length) (hr:ResOK ε i w' r)
  (ho:∀ b,ownR ε i r=some b→ownR ε i (memAt m i)=some b) (hv:r.isBlk=true→(memAt m i).isBlk=true)
  (hw:∀ b,ownR ε i (memAt m i)≠some b→w'.heap[b]? =w.heap[b]?) (hs:w'.heap.size=w.heap.size) (hk:w'.os=w.os∧w'.tape=w.tape∧w'.output=w.output∧w'.drawn=w.drawn):Inv β ε (m.set i r) w':=by
 have hat:=memAt_set (m:=m) r hi
 have hown:∀ j b,ownR ε j (memAt (m.set i r) j)=some b→ownR ε j (memAt m j)=some b:=by
  intro j b hb
  rw [hat] at hb
  split at hb
  ·rename_i e;subst e;exact ho b hb
  ·exact hb
 refine ⟨⟨by simp [h.good.n],fun j=> ?_,fun a b x hab h1 h2=>h.good.disj a b x hab (hown _ _ h1) (hown _ _ h2),fun a b hb=>h.good.sep a b (hown _ _ hb),fun b o hb=> ?_,h.good.gl⟩,
  ⟨hk.1.trans h.kept.os,hk.2.1.trans h.kept.tape,hk.2.2.1.trans h.kept.output,by rw [hs];exact h.kept.size,fun b hb hB=> ?_,h.kept.H,h.kept.fresh,by rw [hk.2.2.2];exact h.kept.drawn⟩,fun a b hb=>h.own a b (hown _ _ hb),h.n,h.blk,fun j hj hx=>h.vv j hj ?_⟩
 ·rw [hat]
  split
  ·rename_i e;subst e;exact hr
  ·rename_i hj
   exact (h.good.res j).same fun b hb=>hw b (h.good.disj j i b hj hb)
 ·rw [hw b fun e=>by rw [h.good.sep i b e] at hb;cases hb];exact h.good.hv b o hb
 ·rw [hw b fun e=>(h.own i b e).elim hB fun x=>by omega];exact h.kept.heap b hb hB
 ·rw [hat] at hx
  split at hx
  ·rename_i e;subst e;exact hv hx
  ·exact hx
theorem Inv.setBlk {β:Base} {ε:Env} {m:List Res} {w:World} (h:Inv β ε m w) {i:Nat} {T:TypeId} {c c':SV} {cs':List Value}
  (hm:memAt m i= .blk T c) (hc:SatC c' ε cs'):
  Inv β ε (m.set i (.blk T c')) (w.setRow (ε.blk i) cs'.toArray):=by
 obtain ⟨cs,hcell,_⟩:ResOK ε i w (.blk T c):=hm▸h.good.res i
 refine h.at1 (memAt_lt (by rw [hm];nofun)) ⟨cs',setRow_heap w _ _ _ T _ hcell,hc⟩ (by rw [hm];exact fun _ e=>e) (by rw [hm];exact id) (fun b hb=>setRow_other w _ b _ fun e=>hb (by rw [hm,e];rfl)) (by simp [World.setRow]) ⟨rfl,rfl,rfl,rfl⟩
end Go.Sx
end
section
namespace Go.Sx
open Go
inductive Opd:Type 1 where
 |t (n:Nat)
 |c (x:SV)
def Opd.ev (σ:List SV):Opd→SV
 | .t n=>σ.getD n .junk
 | .c x=>x
def SlotsOK (ε:Env) (σ:List SV) (a:Act):Prop:=σ.length=a.tmps.size∧∀ k,SatV ε (σ.getD k .junk) (a.tmps.getD k undef)
def cstV:Value→Option SV
 | .bool b=>some (.bool b)
 | .int k n=>some (.int k n)
 | .string s=>some (.str s.data.toList)
 | .slice none 0 0=>some .nils
 | .pointer none=>some .nilp
 | .nilIface=>some .nili
 | .nilFunc=>some .nilf
 | .map none=>some .nilm
 |_=>none
def compO:Operand→Option Opd
 | .tmp t=>some (.t t)
 | .const v=>(cstV v).map .c
 | .func f=>some (.c (.fn f []))
 | .global _=>none
theorem cstV_ok {v:Value} {x:SV} (h:cstV v=some x) (ε:Env):SatV ε x v:=by
 unfold cstV at h
 split at h<;>cases h<;>first
  |exact ⟨_,rfl,rfl⟩
  |(refine ⟨_,rfl,?_⟩;simp [boxed,SV.isAgg])
theorem compO_ok {x:Operand} {y:Opd} (h:compO x=some y) {ε:Env} {σ:List SV} {a:Act} (hs:SlotsOK ε σ a):SatV ε (y.ev σ) (a.eval x):=by
 cases x with
 |tmp t=>simp only [compO,Option.some.injEq] at h;subst h;exact hs.2 t
 |const v=>
  simp only [compO,Option.map_eq_some_iff] at h
  obtain ⟨sv,h1,rfl⟩:=h
  exact cstV_ok h1 ε
 |global g=>simp [compO] at h
 |func f=>
  simp only [compO,Option.some.injEq] at h;subst h
  exact ⟨_,⟨[],rfl,rfl⟩,rfl⟩
section inv
variable {ε:Env} {v:Value}
theorem sat_int {k:IntKind} {n:Int} (h:SatV ε (.int k n) v):v= .int k n:=by obtain ⟨cs,h1,h2⟩:=h;simp only [SatC] at h1;subst h1;exact h2
theorem sat_bool {b:Bool} (h:SatV ε (.bool b) v):v= .bool b:=by obtain ⟨cs,h1,h2⟩:=h;simp only [SatC] at h1;subst h1;exact h2
theorem sat_str {s:List UInt8} (h:SatV ε (.str s) v):v= .string ⟨s.toArray⟩:=by obtain ⟨cs,h1,h2⟩:=h;simp only [SatC] at h1;subst h1;exact h2
theorem sat_nils (h:SatV ε .nils v):v= .slice none 0 0:=by obtain ⟨cs,h1,h2⟩:=h;simp only [SatC] at h1;subst h1;exact h2
theorem sat_nili (h:SatV ε .nili v):v= .nilIface:=by obtain ⟨cs,h1,h2⟩:=h;simp only [SatC] at h1;subst h1;exact h2
theorem sat_nilp (h:SatV ε .nilp v):v= .pointer none:=by obtain ⟨cs,h1,h2⟩:=h;simp only [SatC] at h1;subst h1;exact h2
theorem sat_ptr {i o:Nat} {p:List Step} (h:SatV ε (.ptr i p o) v):i<ε.n∧pathOk p∧v= .pointer (some ⟨ε.blk i,o,none⟩):=by
 obtain ⟨cs,h1,h2⟩:=h;simp only [SatC] at h1;obtain ⟨h1,hp,h3⟩:=h1;subst h3;exact ⟨h1,hp,h2⟩
theorem sat_vec {i n:Nat} (h:SatV ε (.vec i n) v):i<ε.n∧(ε.vv i= .slice none 0 0∧n=0∨∃ b cap,ε.vv i= .slice (some ⟨b,0,none⟩) n cap∧n≤cap)∧v=ε.vv i:=by
 obtain ⟨cs,h1,h2⟩:=h;simp only [SatC] at h1;obtain ⟨h1,hp,h3⟩:=h1;subst h3;exact ⟨h1,hp,h2⟩
theorem sat_vptr {i j o:Nat} {p:List Step} (h:SatV ε (.vptr i j p o) v):i<ε.n∧pathOk p∧∃ b cap n,ε.vv i= .slice (some ⟨b,0,none⟩) n cap∧j<n∧v= .pointer (some ⟨b,o,none⟩):=by
 obtain ⟨cs,h1,h2⟩:=h;simp only [SatC] at h1
 obtain ⟨h1,hp,b,cap,n,h3,h4,h5⟩:=h1;subst h5;exact ⟨h1,hp,b,cap,n,h3,h4,h2⟩
theorem sat_agg {l:List SV} (h:SatV ε (.agg l) v):∃ cs,SatL l ε cs∧v= .agg cs.toArray:=by
 obtain ⟨cs,h1,h2⟩:=h;simp only [SatC] at h1;exact ⟨cs,h1,h2⟩
theorem sat_arr {n w:Nat} {f:Nat→SV} (h:SatV ε (.arr n w f) v):∃ cs,SatC (.arr n w f) ε cs∧v= .agg cs.toArray:=by
 obtain ⟨cs,h1,h2⟩:=h;exact ⟨cs,h1,h2⟩
theorem sat_tup {l:List SV} (h:SatV ε (.tup l) v):∃ vs,SatA l ε vs∧v= .tuple vs.toArray:=h
theorem sat_fn {f:FuncId} {cap:List SV} (h:SatV ε (.fn f cap) v):∃ vs,SatA cap ε vs∧v= .func (.func f) #[] vs.toArray:=by
 obtain ⟨cs,h1,h2⟩:=h;simp only [SatC] at h1;obtain ⟨vs,h3,h4⟩:=h1;subst h4;exact ⟨vs,h3,h2⟩
end inv
theorem satC_sat {ε:Env} {x:SV} {cs:List Value} (h:SatC x ε cs):SatV ε x (boxed x.isAgg cs):=by
 cases x<;>first
  |trivial
  |exact ⟨cs,h,rfl⟩
  |(simp only [SatC] at h)
theorem mk_int {ε:Env} {k:IntKind} {n:Int}:SatV ε (.int k n) (.int k n):=⟨_,rfl,rfl⟩
theorem mk_bool {ε:Env} {b:Bool}:SatV ε (.bool b) (.bool b):=⟨_,rfl,rfl⟩
theorem mk_str {ε:Env} {s:List UInt8}:SatV ε (.str s) (.string ⟨s.toArray⟩):=⟨_,rfl,rfl⟩
theorem SatA.nth:∀ (l:List SV) (k:Nat) {ε:Env} {vs:List Value},SatA l ε vs→k<l.length→∃ v,vs[k]? =some v∧SatV ε (l.getD k .junk) v
 |[],k,_,_,_,hk=>absurd hk (Nat.not_lt_zero _)
 |x::r,0,ε,vs,h,_=>by
  simp only [SatA] at h
  obtain ⟨cs,t,h1,h2,h3⟩:=h
  subst h1
  exact ⟨_,rfl,satC_sat h2⟩
 |x::r,k+1,ε,vs,h,hk=>by
  simp only [SatA] at h
  obtain ⟨cs,t,h1,h2,h3⟩:=h
  subst h1
  obtain ⟨v,e1,e2⟩:=SatA.nth r k h3 (by simpa using hk)
  exact ⟨v,by simpa using e1,by simpa using e2⟩
inductive AOp where|add|sub|mul|quo|rem|and|or|xor|andNot|shl|shr
inductive COp where|eql|neq|lss|leq|gtr|geq
def AOp.of:BinOp→Option AOp
 | .add=>some .add| .sub=>some .sub| .mul=>some .mul| .quo=>some .quo| .rem=>some .rem| .and=>some .and| .or=>some .or
 | .xor=>some .xor| .andNot=>some .andNot| .shl=>some .shl| .shr=>some .shr|_=>none
def COp.of:BinOp→Option COp
 | .eql=>some .eql| .neq=>some .neq| .lss=>some .lss| .leq=>some .leq| .gtr=>some .gtr| .geq=>some .geq|_=>none
def bitAnd (k:IntKind) (x y:Int):Int:=k.wrap (BitVec.ofInt k.bits x&&&BitVec.ofInt k.bits y).toNat
def bitOr (k:IntKind) (x y:Int):Int:=k.wrap (BitVec.ofInt k.bits x|||BitVec.ofInt k.bits y).toNat
def bitXor (k:IntKind) (x y:Int):Int:=k.wrap (BitVec.ofInt k.bits x^^^BitVec.ofInt k.bits y).toNat
def bitAndNot (k:IntKind) (x y:Int):Int:=k.wrap (BitVec.ofInt k.bits x&&& ~~~ BitVec.ofInt k.bits y).toNat
def AOp.ev (k:IntKind) (a b:Int) (K:Int→Prop):AOp→Prop
 | .add=>K (k.wrap (a+b))
 | .sub=>K (k.wrap (a - b))
 | .mul=>K (k.wrap (a*b))
 | .quo=>b≠0∧K (k.wrap (a.tdiv b))
 | .rem=>b≠0∧K (a.tmod b)
 | .and=>K (bitAnd k a b)
 | .or=>K (bitOr k a b)
 | .xor=>K (bitXor k a b)
 | .andNot=>K (bitAndNot k a b)
 | .shl=>0≤b∧K (k.wrap (a*2^(min b.toNat k.bits)))
 | .shr=>0≤b∧K (a.fdiv (2^(min b.toNat k.bits)))
def COp.ev (a b:Int):COp→Bool
 | .eql=>decide (a=b)
 | .neq=> !decide (a=b)
 | .lss=>decide (a<b)
 | .leq=>decide (a≤b)
 | .gtr=>decide (b<a)
 | .geq=>decide (b≤a)
mutual
def eqV:ES→SV→SV→Bool
 | .int _,x,y=>match x,y with
  | .int _ a, .int _ b=>decide (a=b)
  |_,_=>false
 | .bool,x,y=>match x,y with
  | .bool a, .bool b=>a==b
  |_,_=>false
 | .str,x,y=>match x,y with
  | .str a, .str b=>decide (a=b)
  |_,_=>false
 | .st l,x,y=>match x,y with
  | .agg xs, .agg ys=>eqVL l xs ys
  |_,_=>false
 | .arr n _ e,x,y=>match x,y with
  | .arr _ _ f, .arr _ _ g=>(List.range n).all fun i=>eqV e (f i) (g i)
  |_,_=>false
def eqVL:List ES→List SV→List SV→Bool
 |[],_,_=>true
 |e::l,xs,ys=>match xs,ys with
  |x::xs,y::ys=>eqV e x y&&eqVL l xs ys
  |_,_=>false
end
inductive MK:Type 1 where
 |make (ek ev:ES)
 |put (ek ev:ES)
 |get (ek ev:ES) (z:SV) (ok:Bool)
 |strb
 |bstr
 |mlen
def MK.eff:MK→Bool
 | .make .. | .put .. =>true
 | .get .. =>false
 | .strb=>false
 | .bstr=>false
 | .mlen=>false
def mpFind (e:ES) (k:SV):List (SV×SV)→Option SV
 |[]=>none
 |p::r=>if eqV e k p.1 then some p.2 else mpFind e k r
def mpPut (e:ES) (k v:SV):List (SV×SV)→List (SV×SV)
 |[]=>[(k,v)]
 |p::r=>if eqV e k p.1 then (k,v)::r else p::mpPut e k v r
def obB:Option SV→Bool
 |some (.bool b)=>b
 |_=>false
def obI:Option SV→Int
 |some (.int _ n)=>n
 |_=>0
def mpRes (ev:ES) (z:SV) (o:Option SV):SV:=match ev with
 | .bool=> .bool (obB o)
 | .int k=> .int k (obI o)
 |_=>o.getD z
def tabES:List (TypeId×ES)→TypeId→Option ES
 |[],_=>none
 |(u,e)::r,t=>if u=t then some e else tabES r t
inductive PIO:Type 1 where
 |mv (x:Opd)
 |pick (c x y:Opd)
 |ar (op:AOp) (x y:Opd)
 |cmp (op:COp) (x y:Opd)
 |beq (neg:Bool) (x y:Opd)
 |seq (neg:Bool) (x y:Opd)
 |cat (x y:Opd)
 |nt (x:Opd)
 |neg (x:Opd)
 |conv (k:IntKind) (x:Opd)
 |fa (k off:Nat) (x:Opd)
 |fld (k off sz:Nat) (ag:Bool) (x:Opd)
 |ia (n w:Nat) (x i:Opd)
 |is (w:Nat) (x i:Opd)
 |ix (n w:Nat) (ag:Bool) (x i:Opd)
 |sx (x i:Opd)
 |ext (k:Nat) (x:Opd)
 |bld (z:SV) (parts:List (List Step×Nat×Nat×Opd))
 |len (x:Opd)
 |lens (x:Opd)
 |mkfn (f:FuncId) (caps:List Opd)
 |nck (x:Opd)
 |mkif (t:TypeId) (x:Opd)
 |mx (x y:Opd)
 |mn (x y:Opd)
 |ssl (x:Opd) (lo hi:Option Opd)
 |slc (w:Nat) (x:Opd) (lo hi mx:Option Opd)
 |aeq (neg:Bool) (e:ES) (x y:Opd)
 |tas (t:TypeId) (z:SV) (x:Opd)
 |ieq (neg:Bool) (tab:List (TypeId×ES)) (x y:Opd)
 |snil (neg:Bool) (x:Opd)
 |pnil (neg:Bool) (x:Opd)
 |asl (n w:Nat) (x:Opd)
def AOp.kinds (k k':IntKind):AOp→Prop
 | .shl| .shr=>True
 |_=>k'=k
def SV.isVal:SV→Bool
 | .tup _| .junk=>false
 |_=>true
def bldParts (σ:List SV):SV→List (List Step×Nat×Nat×Opd)→(SV→Prop)→Prop
 |z,[],K=>K z
 |z,(p,o,n,x)::r,K=>(pathOk p∧atP z p 0 o∧(x.ev σ).isVal=true∧wd (x.ev σ)=n∧wd (getP z p)=n)∧bldParts σ (setP z p (x.ev σ)) r K
def slLen:SV→Option Nat
 | .lst _ _ _ l=>some l.length
 | .lit _ _ _ l=>some l.length
 | .nils=>some 0
 | .vec _ n=>some n
 |_=>none
def stepTo (s:Step) (off:Nat) (K:SV→Prop):SV→Prop
 | .ptr i p o=>K (.ptr i (p++[s]) (o+off))
 | .eptr w d f l i p o=>K (.eptr w d f l i (p++[s]) (o+off))
 | .vptr i j p o=>K (.vptr i j (p++[s]) (o+off))
 | .ref c p o=>K (.ref c (p++[s]) (o+off))
 |_=>False
def rng (n:Nat):List Nat:=List.range n
theorem rng_len (n:Nat):(rng n).length=n:=List.length_range
theorem rng_at {n i:Nat} (h:i<n):(rng n).getD i 0=i:=by simp [rng,List.getD,h]
def popK (σ:List SV) (K:SV→Prop):PIO→Prop
 | .mv x=>K (x.ev σ)
 | .pick c x y=>match c.ev σ with
  | .bool b=>(b=true→K (x.ev σ))∧(b=false→K (y.ev σ))
  |_=>False
 | .ar op x y=>match x.ev σ,y.ev σ with
  | .int k a, .int k' b=>op.kinds k k'∧op.ev k a b fun n=>K (.int k n)
  |_,_=>False
 | .cmp op x y=>match x.ev σ,y.ev σ with
  | .int k a, .int k' b=>k'=k∧K (.bool (op.ev a b))
  |_,_=>False
 | .beq neg x y=>match x.ev σ,y.ev σ with
  | .bool a, .bool b=>K (.bool (if neg then a !=b else a==b))
  |_,_=>False
 | .seq neg x y=>match x.ev σ,y.ev σ with
  | .str a, .str b=>K (.bool (if neg then !decide (a=b) else decide (a=b)))
  |_,_=>False
 | .cat x y=>match x.ev σ,y.ev σ with
  | .str a, .str b=>a.length+b.length≤9223372036854775807∧K (.str (a++b))
  |_,_=>False
 | .nt x=>match x.ev σ with
  | .bool a=>K (.bool (!a))
  |_=>False
 | .neg x=>match x.ev σ with
  | .int k a=>K (.int k (k.wrap (0 - a)))
  |_=>False
 | .conv k x=>match x.ev σ with
  | .int _ a=>K (.int k (k.wrap a))
  |_=>False
 | .fa k off x=>stepTo (.fld k) off K (x.ev σ)
 | .fld k off sz ag x=>match x.ev σ with
  | .agg l=>(k<l.length∧wds (l.take k)=off∧wd (l.getD k .junk)=sz∧(l.getD k .junk).isAgg=ag)∧K (l.getD k .junk)
  |_=>False
 | .ia n w x i=>match i.ev σ with
  | .int _ j=>(0≤j∧j<n)∧stepTo (.idx j.toNat n) (j.toNat*w) K (x.ev σ)
  |_=>False
 | .is w x i=>match i.ev σ with
  | .int _ j=>match x.ev σ with
   | .lst w' d f l=>(0≤j∧j<l.length)∧w'=w∧K (.eptr w d f l j.toNat [] 0)
   | .vec v n=>(0≤j∧j<n)∧K (.vptr v j.toNat [] (j.toNat*w))
   |_=>False
  |_=>False
 | .ix n w ag x i=>match i.ev σ with
  | .int _ j=>match x.ev σ with
   | .arr n' w' f=>(0≤j∧j<n)∧(n'=n∧w'=w∧(f j.toNat).isAgg=ag)∧K (f j.toNat)
   |_=>False
  |_=>False
 | .sx x i=>match i.ev σ with
  | .int _ j=>match x.ev σ with
   | .str s=>(0≤j∧j<s.length)∧K (.int .u8 (s.getD j.toNat 0).toNat)
   |_=>False
  |_=>False
 | .ext k x=>match x.ev σ with
  | .tup l=>k<l.length∧K (l.getD k .junk)
  |_=>False
 | .bld z parts=>bldParts σ z parts fun z'=>z'.isAgg=true∧K z'
 | .lens x=>match x.ev σ with
  | .str s=>K (.int .i64 s.length)
  |_=>False
 | .len x=>match slLen (x.ev σ) with
  |some n=>K (.int .i64 n)
  |none=>False
 | .mkfn f caps=>(caps.map (·.ev σ)).all SV.isVal=true∧K (.fn f (caps.map (·.ev σ)))
 | .nck x=>match x.ev σ with
  | .ptr i p o=>K (.ptr i p o)
  | .eptr w d f l i p o=>K (.eptr w d f l i p o)
  | .vptr i j p o=>K (.vptr i j p o)
  | .ref c p o=>K (.ref c p o)
  | .fn f c=>K (.fn f c)
  |_=>False
 | .mkif t x=>(x.ev σ).isVal=true∧K (.iface t (x.ev σ))
 | .aeq neg e x y=>(esP e (x.ev σ)∧esP e (y.ev σ))∧K (.bool (if neg then !eqV e (x.ev σ) (y.ev σ) else eqV e (x.ev σ) (y.ev σ)))
 | .tas t z x=>match x.ev σ with
  | .iface t' y=>if t'=t then K (.tup [y, .bool true]) else K (.tup [z, .bool false])
  |_=>False
 | .ieq neg tab x y=>match x.ev σ with
  | .iface t a=>match y.ev σ with
   | .iface t' b=>if t'=t then (match tabES tab t with
    |some e=>(esP e a∧esP e b)∧K (.bool (if neg then !eqV e a b else eqV e a b))
    |none=>False) else K (.bool neg)
   | .nili=>K (.bool neg)
   |_=>False
  | .nili=>match y.ev σ with
   | .iface _ _=>K (.bool neg)
   | .nili=>match y with
    | .c _=>K (.bool (!neg))
    |_=>False
   |_=>False
  |_=>False
 | .snil neg x=>match slLen (x.ev σ) with
  |some n=>match x.ev σ with
   | .nils=>K (.bool (!neg))
   |_=>(decide (n=0)=true→K .anyb)∧(decide (n=0)=false→K (.bool neg))
  |none=>False
 | .pnil neg x=>match x.ev σ with
  | .nilp=>K (.bool (!neg))
  | .ptr .. =>K (.bool neg)
  | .eptr .. =>K (.bool neg)
  | .vptr .. =>K (.bool neg)
  | .ref .. =>K (.bool neg)
  |_=>False
 | .mx x y=>match x.ev σ,y.ev σ with
  | .int k a, .int k' b=>k'=k∧K (.int k (if a<b then b else a))
  |_,_=>False
 | .mn x y=>match x.ev σ,y.ev σ with
  | .int k a, .int k' b=>k'=k∧K (.int k (if b<a then b else a))
  |_,_=>False
 | .ssl x lo hi=>match x.ev σ with
  | .str s=>bound 0 lo fun l=>bound s.length hi fun h=>(l≤h∧h≤s.length)∧K (.str ((s.take h).drop l))
  |_=>False
 | .slc w x lo hi mx=>match mx,x.ev σ with
  |none, .lst w' d f l=>w'=w∧bound 0 lo fun a=>bound l.length hi fun b=>(a≤b∧b≤l.length)∧K (.lst w d f ((l.take b).drop a))
  |some c, .lst w' d f l=>(w'=w∧hi.isSome=true)∧bound 0 lo fun a=>bound l.length hi fun b=>bound 0 (some c) fun m=>(a≤b∧b=m∧m≤l.length)∧K (.lit w d f ((l.take b).drop a))
  |none, .vec i n=>bound 0 lo fun a=>bound n hi fun b=>(a=0∧b≤n)∧K (.pvec i b)
  |_,_=>False
 | .asl n w x=>match x.ev σ with
  | .ref c p o=>match getP c p with
   | .arr n' w' f=>(n'=n∧w'=w∧n≤1000000∧atP c p 0 o)∧K (.lst w (0:Nat) f (rng n))
   |_=>False
  | .eptr _ d f l i p o=>match f (l.getD i d) with
   | .arr n' w' g=>(n'=n∧w'=w∧n≤1000000∧p=[]∧o=0)∧K (.lst w (0:Nat) g (rng n))
   |_=>False
  |_=>False
where bound (d:Nat) (x:Option Opd) (K:Nat→Prop):Prop:=match x with
 |none=>K d
 |some x=>match x.ev σ with
  | .int _ j=>0≤j∧K j.toNat
  |_=>False
end Go.Sx
end
section
namespace Go.Sx
open Go
variable {P:Program}
def isAggD:TypeDesc→Bool
 | .struct _| .array _ _=>true
 |_=>false
def tsz (P:Program) (t:TypeId):Option (Nat×Bool):=
 match P.info? t,P.underlying t with
 |some i,some d=>some (i.size,isAggD d)
 |_,_=>none
theorem run_isAgg {t:TypeId} {n:Nat} {ag:Bool} (h:tsz P t=some (n,ag)) (w:World):(isAgg t).run P w= .ok ag w:=by
 unfold tsz at h
 split at h
 ·rename_i i d h1 h2
  simp only [Option.some.injEq,Prod.mk.injEq] at h
  obtain ⟨rfl,rfl⟩:=h
  simp only [isAgg,Sem.run_bind,run_underlying h2,Result.andThen_ok]
  cases d<;>rfl
 ·cases h
theorem run_sizeOf {t:TypeId} {n:Nat} {ag:Bool} (h:tsz P t=some (n,ag)) (w:World):(sizeOf t).run P w= .ok n w:=by
 unfold tsz at h
 split at h
 ·rename_i i d h1 h2
  simp only [Option.some.injEq,Prod.mk.injEq] at h
  obtain ⟨rfl,rfl⟩:=h
  simp [sizeOf,typeInfo,h1]
 ·cases h
def PureRun (P:Program) (o:Oper) (ε:Env) (a:Act) (sv:SV):Prop:=
 ∃ v,(∀ w,(execOp a.eval o).run P w= .ok (.value v) w∧(execOp a.eval o).events P w #[]= #[])∧SatV ε sv v
def PureOK (P:Program) (o:Oper) (σ:List SV) (sv:SV):Prop:= ∀ ε a,SlotsOK ε σ a→PureRun P o ε a sv
section vals
variable {ε:Env}
theorem run_part {t:TypeId} {n:Nat} {ag:Bool} (h:tsz P t=some (n,ag)) (w:World) (cs:List Value) (off:Nat) (hl:off+n≤cs.length) (h1:ag=false→n=1):
  (part t cs.toArray off).run P w= .ok (boxed ag (sub cs off n)) w:=by
 simp only [part,Sem.run_bind,run_isAgg h,Result.andThen_ok]
 cases ag with
 |true=>
  simp only [if_true,Sem.run_bind,run_sizeOf h,Result.andThen_ok,Sem.run_pure,boxed]
  congr 2
  simp [sub,List.extract_eq_take_drop]
 |false=>
  have hn:=h1 rfl
  subst hn
  have hlt:off<cs.length:=by omega
  simp only [Bool.false_eq_true,if_false]
  have:cs.toArray[off]? =some cs[off]:=by simp [hlt]
  rw [this]
  simp only [Sem.run_pure,boxed,Bool.false_eq_true,if_false]
  congr 1
  simp [sub,List.headD_eq_head?_getD,List.head?_take,List.head?_drop,hlt]
end vals
theorem wd_scalar {c:SV} (h:c.isAgg=false):wd c=1:=by cases c<;>first|rfl|cases h
theorem isAgg_wd {ε:Env} {c:SV} {cs:List Value} (h:SatC c ε cs):SatV ε c (boxed c.isAgg cs):=satC_sat h
mutual
def cellsOf:SV→Option (List Value)
 | .int k n=>some [.int k n]
 | .bool b=>some [.bool b]
 | .str s=>some [.string ⟨s.toArray⟩]
 | .nils=>some [.slice none 0 0]
 | .nili=>some [.nilIface]
 | .nilf=>some [.nilFunc]
 | .nilp=>some [.pointer none]
 | .nilm=>some [.map none]
 | .raw v=>match v with
  | .chan none=>some [.chan none]
  |_=>none
 | .arr n w f=>match (List.range n).mapM fun i=>cellsOf (f i) with
  |some css=>if css.all (·.length==w) then some css.flatten else none
  |none=>none
 | .agg l=>cellsOfL l
 |_=>none
def cellsOfL:List SV→Option (List Value)
 |[]=>some []
 |x::r=>match cellsOf x,cellsOfL r with
  |some a,some b=>some (a++b)
  |_,_=>none
end
theorem flatten_sub:∀ (css:List (List Value)) (w i:Nat),(∀ c∈css,c.length=w)→∀ (hi:i<css.length),sub css.flatten (i*w) w=css[i]
 |[],_,_,_,hi=>absurd hi (Nat.not_lt_zero _)
 |c::r,w,0,h,_=>by
  have hc:=h c (by simp)
  simp [sub,← hc]
 |c::r,w,i+1,h,hi=>by
  have hc:=h c (by simp)
  have ih:=flatten_sub r w i (fun c hc=>h c (by simp [hc])) (by simpa using hi)
  simp only [List.flatten_cons,List.getElem_cons_succ,← ih]
  simp only [sub,Nat.add_mul,Nat.one_mul,List.drop_append,hc]
  rw [List.drop_of_length_le (by omega)]
  simp
theorem flatten_len:∀ (css:List (List Value)) (w:Nat),(∀ c∈css,c.length=w)→css.flatten.length=css.length*w
 |[],_,_=>by simp
 |c::r,w,h=>by
  have hc:=h c (by simp)
  have ih:=flatten_len r w (fun c hc=>h c (by simp [hc]))
  simp [hc,ih,Nat.add_mul,Nat.add_comm]
theorem mapM_get {α β:Type _} {f:α→Option β}:∀ (l:List α) (r:List β),l.mapM f=some r→r.length=l.length∧∀ i (h:i<l.length) (h':i<r.length),f l[i]=some r[i]
 |[],r,h=>by simp at h;subst h;simp
 |x::l,r,h=>by
  simp only [List.mapM_cons,bind,Option.pure_def] at h
  cases hx:f x with
  |none=>rw [hx] at h;cases h
  |some y=>
   rw [hx] at h
   simp only [Option.bind] at h
   cases hl:l.mapM f with
   |none=>rw [hl] at h;cases h
   |some ys=>
    rw [hl] at h
    simp only [Option.some.injEq] at h
    subst h
    obtain ⟨i1,i2⟩:=mapM_get l ys hl
    refine ⟨by simp [i1],fun i h h'=> ?_⟩
    cases i with
    |zero=>simpa using hx
    |succ i=>simpa using i2 i (by simpa using h) (by simpa using h')
mutual
theorem cellsOf_ok:∀ (c:SV) (cs:List Value) (ε:Env),cellsOf c=some cs→SatC c ε cs
 | .int ..,_,_,h=>by simp only [cellsOf,Option.some.injEq] at h;subst h;rfl
 | .bool ..,_,_,h=>by simp only [cellsOf,Option.some.injEq] at h;subst h;rfl
 | .str ..,_,_,h=>by simp only [cellsOf,Option.some.injEq] at h;subst h;rfl
 | .nils,_,_,h=>by simp only [cellsOf,Option.some.injEq] at h;subst h;rfl
 | .nili,_,_,h=>by simp only [cellsOf,Option.some.injEq] at h;subst h;rfl
 | .nilf,_,_,h=>by simp only [cellsOf,Option.some.injEq] at h;subst h;rfl
 | .nilp,_,_,h=>by simp only [cellsOf,Option.some.injEq] at h;subst h;rfl
 | .nilm,_,_,h=>by simp only [cellsOf,Option.some.injEq] at h;subst h;rfl
 | .arr n w f,cs,ε,h=>by
  simp only [cellsOf] at h
  split at h
  ·rename_i css hm
   split at h
   ·rename_i hw
    simp only [Option.some.injEq] at h
    subst h
    have hw':∀ c∈css,c.length=w:=by simpa using hw
    obtain ⟨h1,h2⟩:=mapM_get _ _ hm
    simp only [List.length_range] at h1
    simp only [SatC]
    refine ⟨by rw [flatten_len css w hw',h1],fun i hi=> ?_⟩
    rw [flatten_sub css w i hw' (by omega)]
    have:=h2 i (by simpa using hi) (by omega)
    rw [List.getElem_range] at this
    exact cellsOf_ok (f i) _ ε this
   ·cases h
  ·cases h
 | .agg l,cs,ε,h=>by simp only [cellsOf] at h;simp only [SatC];exact cellsOfL_ok l cs ε h
 | .tup ..,_,_,h=>by simp only [cellsOf] at h;cases h
 | .anyb,_,_,h=>by simp only [cellsOf] at h;cases h
 | .lst ..,_,_,h=>by simp only [cellsOf] at h;cases h
 | .lit ..,_,_,h=>by simp only [cellsOf] at h;cases h
 | .eptr ..,_,_,h=>by simp only [cellsOf] at h;cases h
 | .ref ..,_,_,h=>by simp only [cellsOf] at h;cases h
 | .ptr ..,_,_,h=>by simp only [cellsOf] at h;cases h
 | .vec ..,_,_,h=>by simp only [cellsOf] at h;cases h
 | .vptr ..,_,_,h=>by simp only [cellsOf] at h;cases h
 | .pvec ..,_,_,h=>by simp only [cellsOf] at h;cases h
 | .map ..,_,_,h=>by simp only [cellsOf] at h;cases h
 | .fn ..,_,_,h=>by simp only [cellsOf] at h;cases h
 | .iface ..,_,_,h=>by simp only [cellsOf] at h;cases h
 | .raw v,_,_,h=>by
  simp only [cellsOf] at h
  split at h<;>cases h
  exact ⟨rfl,rfl⟩
 | .junk,_,_,h=>by simp only [cellsOf] at h;cases h
theorem cellsOfL_ok:∀ (l:List SV) (cs:List Value) (ε:Env),cellsOfL l=some cs→SatL l ε cs
 |[],cs,_,h=>by simp only [cellsOfL,Option.some.injEq] at h;subst h;rfl
 |x::r,cs,ε,h=>by
  simp only [cellsOfL] at h
  split at h
  ·rename_i a b h1 h2
   simp only [Option.some.injEq] at h
   subst h
   exact ⟨a,b,rfl,cellsOf_ok x a ε h1,cellsOfL_ok r b ε h2⟩
  ·cases h
end
def veq:Value→Value→Bool
 | .bool a, .bool b=>a==b
 | .int k a, .int j b=>k==j&&a==b
 | .string a, .string b=>a.data.toList==b.data.toList
 | .slice none 0 0, .slice none 0 0=>true
 | .nilIface, .nilIface=>true
 | .nilFunc, .nilFunc=>true
 | .pointer none, .pointer none=>true
 | .map none, .map none=>true
 | .chan none, .chan none=>true
 |_,_=>false
theorem veq_ok {a b:Value} (h:veq a b=true):a=b:=by
 unfold veq at h
 split at h<;>first
  |rfl
  |(simp at h;subst h;rfl)
  |(simp at h;obtain ⟨rfl,rfl⟩:=h;rfl)
  |(cases h;done)
  |(rename_i x y
    simp at h
    cases x;cases y
    simp at h
    subst h;rfl)
def vseq:List Value→List Value→Bool
 |[],[]=>true
 |a::x,b::y=>veq a b&&vseq x y
 |_,_=>false
theorem vseq_ok:∀ {x y:List Value},vseq x y=true→x=y
 |[],[],_=>rfl
 |a::x,b::y,h=>by
  simp only [vseq,Bool.and_eq_true] at h
  rw [veq_ok h.1,vseq_ok h.2]
 |[],_::_,h=>by cases h
 |_::_,[],h=>by cases h
def zeroSV (P:Program):Nat→TypeId→Option SV
 |0,_=>none
 |fuel+1,t=>match P.underlying t with
  |some .bool=>some (.bool false)
  |some (.int k)=>some (.int k 0)
  |some .string=>some (.str [])
  |some (.pointer _)=>some .nilp
  |some (.slice _)=>some .nils
  |some (.interface _)=>some .nili
  |some (.func ..)=>some .nilf
  |some (.map ..)=>some .nilm
  |some (.chan ..)=>some (.raw (.chan none))
  |some (.struct fs)=>(fs.toList.mapM fun f=>zeroSV P fuel f.type).map .agg
  |some (.array n e)=>(zeroSV P fuel e).map fun z=> .arr n (wd z) fun _=>z
  |_=>none
def zok (P:Program) (t:TypeId):Option SV:=
 match zeroSV P 8 t,P.info? t with
 |some z,some i=>match i.zero,cellsOf z with
  |some v,some cs=>if vseq cs v.cells.toList then some z else none
  |_,_=>none
 |_,_=>none
theorem zok_ok {t:TypeId} {z:SV} (h:zok P t=some z):∃ i v,P.info? t=some i∧i.zero=some v∧∀ ε,SatC z ε v.cells.toList:=by
 unfold zok at h
 split at h<;>try (cases h;done)
 rename_i z' i h1 h2
 split at h<;>try (cases h;done)
 rename_i v cs h3 h4
 split at h<;>try (cases h;done)
 rename_i hv
 simp only [Option.some.injEq] at h
 subst h
 refine ⟨i,v,h2,h3,fun ε=> ?_⟩
 rw [← vseq_ok hv]
 exact cellsOf_ok _ _ _ h4
def compParts (f:Nat→Option (List Step×Nat×Nat)):List (Nat×Operand)→Option (List (List Step×Nat×Nat×Opd))
 |[]=>some []
 |(k,x)::r=>match f k,compO x,compParts f r with
  |some (p,o,n),some y,some ys=>some ((p,o,n,y)::ys)
  |_,_,_=>none
def placeS (P:Program) (fs:Array Field) (k:Nat):Option (List Step×Nat×Nat):=
 match fs[k]? with
 |some f=>match P.info? f.type with
  |some i=>some ([.fld k],f.offset,i.size)
  |none=>none
 |none=>none
def compBld (P:Program) (t:TypeId) (parts:Array (Nat×Operand)):Option PIO:=
 match zok P t,P.underlying t with
 |some z,some (.struct fs)=>if fs.toList.all fun f=>(P.info? f.type).isSome then (compParts (placeS P fs) parts.toList).map (.bld z) else none
 |some z,some (.array n e)=>match P.info? e with
  |some i=>(compParts (fun k=>some ([.idx k n],k*i.size,i.size)) parts.toList).map (.bld z)
  |none=>none
 |_,_=>none
def compOO:Option Operand→Option (Option Opd)
 |none=>some none
 |some x=>(compO x).map some
def compB (P:Program) (c:Call):Option PIO:=
 match c.callee,c.args.toList,c.argTypes.toList with
 | .builtin .len,[x],[t]=>do
  let x ← compO x
  match P.underlying t with
  |some .string=>pure (.lens x)
  |some (.slice _)=>pure (.len x)
  |_=>none
 | .builtin .max,[x,y],[t,_]=>do
  match P.underlying t with
  |some (.int _)=>pure (.mx (← compO x) (← compO y))
  |_=>none
 | .builtin .min,[x,y],[t,_]=>do
  match P.underlying t with
  |some (.int _)=>pure (.mn (← compO x) (← compO y))
  |_=>none
 |_,_,_=>none
def esOf (P:Program):Nat→TypeId→Option ES
 |0,_=>none
 |fuel+1,t=>match P.underlying t with
  |some .bool=>some .bool
  |some (.int k)=>some (.int k)
  |some .string=>some .str
  |some (.struct fs)=>(fs.toList.mapM fun f=>esOf P fuel f.type).map .st
  |some (.array n e)=>match esOf P fuel e,P.info? e with
   |some z,some i=>some (.arr n i.size z)
   |_,_=>none
  |_=>none
mutual
def wE:ES→Nat
 | .st l=>wEL l
 | .arr n w _=>n*w
 |_=>1
def wEL:List ES→Nat
 |[]=>0
 |e::l=>wE e+wEL l
end
def aggE:ES→Bool
 | .st _=>true
 | .arr .. =>true
 |_=>false
mutual
def dE:ES→Nat
 | .st l=>dEL l+1
 | .arr _ _ e=>dE e+1
 |_=>1
def dEL:List ES→Nat
 |[]=>0
 |e::l=>max (dE e) (dEL l)
end
mutual
def esB (P:Program):TypeId→ES→Bool
 |t, .int k=>match P.underlying t with
  |some (.int k')=>decide (k'=k)
  |_=>false
 |t, .bool=>match P.underlying t with
  |some .bool=>true
  |_=>false
 |t, .str=>match P.underlying t with
  |some .string=>true
  |_=>false
 |t, .st l=>match P.underlying t with
  |some (.struct fs)=>esBL P fs.toList 0 l&& !P.stoodInHeld t
  |_=>false
 |t, .arr n w e=>match P.underlying t with
  |some (.array n' t')=>decide (n'=n)&&decide (P.cellsOf t'=w)&&decide (tsz P t'=some (w,aggE e))&&decide (wE e=w)&&esB P t' e
  |_=>false
def esBL (P:Program):List Field→Nat→List ES→Bool
 |[],_,[]=>true
 |f::fs,off,e::l=>decide (f.name≠ "_")&&decide (f.offset=off)&&decide (tsz P f.type=some (wE e,aggE e))&&esB P f.type e&&esBL P fs (off+wE e) l
 |_,_,_=>false
end
def isNilC:Operand→Bool
 | .const (.slice none 0 0)=>true
 |_=>false
def isNilP:Operand→Bool
 | .const (.pointer none)=>true
 |_=>false
def compEq (P:Program) (neg:Bool) (t:TypeId) (x y:Opd):Option PIO:=
 match esOf P 8 t with
 |some e=>if esB P t e&&aggE e&&decide (dE e≤100)&& !P.eqGuardType P.depth t then some (.aeq neg e x y) else none
 |none=>none
def ieqOf (P:Program) (t:TypeId):Option (TypeId×ES):=match P.info? t with
 |some i=>if i.methods.size=0|| !i.comparable then none else match esOf P 8 t with
  |some e=>if esB P t e&&decide (dE e≤100) then some (t,e) else none
  |none=>none
 |none=>none
def ieqTab (P:Program):List (TypeId×ES):=(List.range P.types.size).filterMap (ieqOf P)
theorem ieqOf_ok {t u:TypeId} {e:ES} (h:ieqOf P u=some (t,e)):esB P t e=true∧dE e≤100∧∃ i,P.info? t=some i∧i.comparable=true:=by
 unfold ieqOf at h
 split at h<;>try (cases h;done)
 rename_i i hi
 split at h<;>try (cases h;done)
 rename_i hc
 split at h<;>try (cases h;done)
 rename_i e' he
 split at h<;>try (cases h;done)
 rename_i hb
 simp only [Option.some.injEq,Prod.mk.injEq] at h
 obtain ⟨rfl,rfl⟩:=h
 simp only [Bool.and_eq_true,decide_eq_true_eq] at hb
 simp only [Bool.or_eq_true,not_or,Bool.not_eq_true,Bool.not_eq_false'] at hc
 exact ⟨hb.1,hb.2,i,hi,hc.2⟩
theorem tabES_mem {t:TypeId} {e:ES}:∀ {l:List (TypeId×ES)},tabES l t=some e→(t,e)∈l
 |[],h=>by cases h
 |(u,x)::r,h=>by
  simp only [tabES] at h
  split at h
  ·rename_i hu
   cases h;subst hu;exact List.mem_cons_self
  ·exact List.mem_cons_of_mem _ (tabES_mem h)
theorem ieqTab_ok {t:TypeId} {e:ES} (h:tabES (ieqTab P) t=some e):esB P t e=true∧dE e≤100∧∃ i,P.info? t=some i∧i.comparable=true:=by
 obtain ⟨u,_,hu⟩:=List.mem_filterMap.1 (tabES_mem h)
 exact ieqOf_ok hu
def zagg (P:Program) (t:TypeId):Option SV:=match zok P t,P.info? t with
 |some z,some i=>match i.zero with
  |some (.agg _)=>if z.isAgg then some z else none
  |_=>none
 |_,_=>none
theorem zagg_ok {t:TypeId} {z:SV} (h:zagg P t=some z):z.isAgg=true∧∃ i cs,P.info? t=some i∧i.zero=some (.agg cs)∧∀ ε,SatC z ε cs.toList:=by
 unfold zagg at h
 split at h<;>try (cases h;done)
 rename_i z' i h1 h2
 split at h<;>try (cases h;done)
 rename_i cs h3
 split at h<;>try (cases h;done)
 rename_i hz
 simp only [Option.some.injEq] at h
 subst h
 obtain ⟨i',v,e1,e2,e3⟩:=zok_ok h1
 rw [h2] at e1;cases e1
 rw [h3] at e2;cases e2
 exact ⟨hz,i,cs,h2,h3,e3⟩
def compP (P:Program):Op→Option PIO
 | .move x| .assign x=>(compO x).map .mv
 | .pick c x y=>do pure (.pick (← compO c) (← compO x) (← compO y))
 | .binOp op t xo yo _=>do
  let x ← compO xo
  let y ← compO yo
  match P.underlying t with
  |some (.int _)=>
   match AOp.of op with
   |some o=>pure (.ar o x y)
   |none=>match COp.of op with
    |some o=>pure (.cmp o x y)
    |none=>none
  |some .bool=>match op with
   | .eql=>pure (.beq false x y)
   | .neq=>pure (.beq true x y)
   |_=>none
  |some .string=>match op with
   | .add=>pure (.cat x y)
   | .eql=>pure (.seq false x y)
   | .neq=>pure (.seq true x y)
   |_=>none
  |some (.slice _)=>match op with
   | .eql=>if isNilC yo then pure (.snil false x) else none
   | .neq=>if isNilC yo then pure (.snil true x) else none
   |_=>none
  |some (.pointer _)=>match op with
   | .eql=>if isNilP yo then pure (.pnil false x) else none
   | .neq=>if isNilP yo then pure (.pnil true x) else none
   |_=>none
  |some (.struct _)|some (.array _ _)=>match op with
   | .eql=>compEq P false t x y
   | .neq=>compEq P true t x y
   |_=>none
  |some (.interface _)=>match op with
   | .eql=>pure (.ieq false (ieqTab P) x y)
   | .neq=>pure (.ieq true (ieqTab P) x y)
   |_=>none
  |_=>none
 | .unOp .not _ x=>(compO x).map .nt
 | .unOp .neg _ x=>(compO x).map .neg
 | .convert s d x=>do
  let x ← compO x
  match P.underlying s,P.underlying d with
  |some (.int _),some (.int k)=>pure (.conv k x)
  |_,_=>none
 | .fieldAddr s x k=>do
  let x ← compO x
  match P.underlying s with
  |some (.struct fs)=>match fs[k]? with
   |some f=>match tsz P f.type with
    |some (n,_)=>if n=0 then none else pure (.fa k f.offset x)
    |none=>none
   |none=>none
  |_=>none
 | .field s x k=>do
  let x ← compO x
  match P.underlying s with
  |some (.struct fs)=>match fs[k]? with
   |some f=>match tsz P f.type with
    |some (n,ag)=>if ag=false∧n≠1 then none else pure (.fld k f.offset n ag x)
    |none=>none
   |none=>none
  |_=>none
 | .indexAddr t x i=>do
  let x ← compO x
  let i ← compO i
  match P.underlying t with
  |some (.array n e)=>match tsz P e with
   |some (sz,_)=>pure (.ia n sz x i)
   |none=>none
  |some (.slice e)=>match tsz P e with
   |some (sz,_)=>pure (.is sz x i)
   |none=>none
  |_=>none
 | .index t x i=>do
  let x ← compO x
  let i ← compO i
  match P.underlying t with
  |some (.array n e)=>match tsz P e with
   |some (sz,ag)=>if ag=false∧sz≠1 then none else pure (.ix n sz ag x i)
   |none=>none
  |some .string=>pure (.sx x i)
  |_=>none
 | .extract x k=>(compO x).map (.ext k)
 | .makeFunc f first caps=>match f,first.toList with
  | .func f,[]=>(caps.toList.mapM compO).map (.mkfn f)
  |_,_=>none
 | .nilCheck x=>(compO x).map .nck
 | .makeInterface t x=>do
  let x ← compO x
  match P.underlying t with
  |some (.interface _)|none=>none
  |_=>pure (.mkif t x)
 | .typeAssert x _ t ok=>do
  let x ← compO x
  match P.underlying t with
  |some (.interface _)|none=>none
  |_=>if ok then match zagg P t with
   |some z=>pure (.tas t z x)
   |none=>none else none
 | .call c=>compB P c
 | .build t parts=>compBld P t parts
 | .slice t x lo hi mx=>do
  let x ← compO x
  let lo ← compOO lo
  let hi ← compOO hi
  let mx ← compOO mx
  match P.underlying t with
  |some .string=>match mx with
   |none=>pure (.ssl x lo hi)
   |some _=>none
  |some (.slice e)=>match tsz P e with
   |some (n,_)=>pure (.slc n x lo hi mx)
   |none=>none
  |some (.array n e)=>match lo,hi,mx with
   |none,none,none=>match tsz P e with
    |some (w,_)=>pure (.asl n w x)
    |none=>none
   |_,_,_=>none
  |_=>none
 |_=>none
theorem bind_some {α β:Type _} {x:Option α} {f:α→Option β} {b:β} (h:x.bind f=some b):∃ a,x=some a∧f a=some b:=by
 cases x with
 |none=>cases h
 |some a=>exact ⟨a,rfl,h⟩
theorem AOp.ev_run {k k':IntKind} {a b:Int} {op:BinOp} {ao:AOp} (h:AOp.of op=some ao) (hk:ao.kinds k k') {K:Int→Prop} (hev:ao.ev k a b K):
  ∃ n,K n∧∀ w,(binOp op 0 (.int k a) (.int k' b)).run P w= .ok (.int k n) w:=by
 cases op<;>simp only [AOp.of] at h<;>cases h<;>simp only [AOp.kinds] at hk<;>simp only [AOp.ev] at hev
 all_goals first
  |(subst hk;exact ⟨_,hev,fun w=>by simp [binOp,Op.intArith,Op.intBits,bitAnd,bitOr,bitXor,bitAndNot]⟩)
  |(subst hk;exact ⟨_,hev.2,fun w=>by simp [binOp,Op.intDiv,hev.1]⟩)
  |(exact ⟨_,hev.2,fun w=>by simp [binOp,Op.shift,Int.not_lt.2 hev.1]⟩)
theorem binOp_int_t {op:BinOp} {t t':TypeId} {k k':IntKind} {a b:Int}:binOp op t (.int k a) (.int k' b)=binOp op t' (.int k a) (.int k' b):=by
 cases op<;>rfl
theorem COp.ev_run {k:IntKind} {a b:Int} {op:BinOp} {co:COp} (h:COp.of op=some co) (w:World):
  (binOp op 0 (.int k a) (.int k b)).run P w= .ok (.bool (co.ev a b)) w:=by
 cases op<;>simp only [COp.of] at h<;>cases h<;>simp [binOp,Op.intCmp,COp.ev,GT.gt,GE.ge]<;>first
  |rfl
  |(by_cases hab:a=b<;>simp [hab])
end Go.Sx
end
