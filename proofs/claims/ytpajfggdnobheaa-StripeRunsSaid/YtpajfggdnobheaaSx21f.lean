/- A part of the proof of StripeRuns. Conditions: none. -/
import Derived.Test.YtpajfggdnobheaaSx19
set_option linter.unusedVariables false
set_option linter.unusedSimpArgs false
section
namespace Go.Sx
open Go
variable {P:Program}
theorem nr.{u} {α:Sort u} {a b:α} (h:a=b):a=b:=h
inductive Fr:Type 1 where
 |nil
 |put (k:Nat) (x:SV) (r:Fr)
 |pick (s d:Nat) (x:SV) (r:Fr)
def look (k:Nat):Fr→SV
 | .nil=> .junk
 | .put j x r=>if k=j then x else look k r
 | .pick s d x r=>if k=d then x else if s<k∧k<d then .junk else look k r
def Opd.fv (τ:Fr):Opd→SV
 | .t n=>look n τ
 | .c x=>x
def keepF:List Nat→Fr→Fr
 |[],_=> .nil
 |k::ks,τ=> .put k (look k τ) (keepF ks τ)
def killF (i:Nat):Fr→Fr
 | .nil=> .nil
 | .put k x r=> .put k (kill i x) (killF i r)
 | .pick s d x r=> .pick s d (kill i x) (killF i r)
def putF (d:Option Nat) (x:SV) (τ:Fr):Fr:=match d with
 |none=>τ
 |some d=> .put d x τ
def ofF:List Nat→List SV→Fr→Fr
 |k::ks,x::xs,τ=> .put k x (ofF ks xs τ)
 |_,_,τ=>τ
def atF:List Nat→List SV→Fr→Prop
 |k::ks,x::xs,τ=>look k τ=x∧atF ks xs τ
 |[],[],_=>True
 |_,_,_=>False
def Rep (n:Nat) (σ:List SV) (τ:Fr):Prop:=σ.length=n∧∀ k,look k τ= .junk∨(k<n∧look k τ=σ.getD k .junk)
def Le (x y:SV):Prop:=x= .junk∨x=y
theorem Le.refl (x:SV):Le x x:= .inr rfl
theorem Rep.le {n:Nat} {σ:List SV} {τ:Fr} (h:Rep n σ τ) (k:Nat):Le (look k τ) (σ.getD k .junk):=by
 rcases h.2 k with h|⟨_,h⟩
 ·exact .inl h
 ·exact .inr h
theorem Rep.fv {n:Nat} {σ:List SV} {τ:Fr} (h:Rep n σ τ) (x:Opd):Le (x.fv τ) (x.ev σ):=by
 cases x with
 |t k=>exact h.le k
 |c x=>exact .inr rfl
theorem Rep.put {n:Nat} {σ:List SV} {τ:Fr} (h:Rep n σ τ) {d:Nat} (hd:d<n) {x y:SV} (hx:Le x y):Rep n (σ.set d y) (.put d x τ):=by
 refine ⟨by simp [h.1],fun k=> ?_⟩
 simp only [look]
 by_cases hk:k=d
 ·subst hk
  rw [if_pos rfl]
  rcases hx with hx|hx
  ·exact .inl hx
  ·right;refine ⟨hd,?_⟩;rw [hx];simp [List.getD,h.1,hd]
 ·rw [if_neg hk]
  rcases h.2 k with h1|⟨h1,h2⟩
  ·exact .inl h1
  ·right;refine ⟨h1,?_⟩
   rw [h2,List.getD,List.getD,List.getElem?_set,if_neg (fun e=>hk e.symm)]
theorem Rep.putF {n:Nat} {σ:List SV} {τ:Fr} (h:Rep n σ τ) {d:Option Nat} (hd:∀ k,d=some k→k<n) {x y:SV} (hx:Le x y):Rep n (putS d y σ) (putF d x τ):=by
 cases d with
 |none=>exact h
 |some d=>exact h.put (hd d rfl) hx
theorem look_keep {k:Nat} {τ:Fr}:∀ ks:List Nat,Le (look k (keepF ks τ)) (look k τ)
 |[]=> .inl rfl
 |j::ks=>by
  simp only [keepF,look]
  by_cases h:k=j
  ·subst h;rw [if_pos rfl];exact .inr rfl
  ·rw [if_neg h];exact look_keep ks
theorem look_killF {i k:Nat}:∀ τ:Fr,look k (killF i τ)=kill i (look k τ)
 | .nil=>rfl
 | .put j x r=>by
  simp only [killF,look]
  split
  ·rfl
  ·exact look_killF r
 | .pick s d x r=>by
  simp only [killF,look]
  split
  ·rfl
  ·split
   ·rfl
   ·exact look_killF r
theorem Rep.kill {n i:Nat} {σ:List SV} {τ:Fr} (h:Rep n σ τ):Rep n (killL i σ) (killF i τ):=by
 refine ⟨by rw [killL_length];exact h.1,fun k=> ?_⟩
 rw [look_killF,killL_getD]
 rcases h.2 k with h1|⟨h1,h2⟩
 ·left;rw [h1];rfl
 ·exact .inr ⟨h1,by rw [h2]⟩
structure Ans (α:Type) where
 bad:α
 need:Prop→α→α
 spl:Bool→α→α→α
def AP:Ans Prop:=⟨False,And,fun b x y=>(b=true→x)∧(b=false→y)⟩
def AV:Ans (Prop×Bool):=⟨(False,false),fun p x=>(p∧x.1,x.2),fun b x y=>((b=true→x.1)∧(b=false→y.1),if b then x.2 else y.2)⟩
def AC:Ans (Prop→Prop):=⟨fun _=>False,fun p x acc=>x (acc∧p),fun b x y acc=>(b=true→x acc)∧(b=false→y acc)⟩
section
variable {α:Type} (A:Ans α)
def AOp.evG (k:IntKind) (a b:Int) (K:Int→α):AOp→α
 | .add=>K (k.wrap (a+b))
 | .sub=>K (k.wrap (a - b))
 | .mul=>K (k.wrap (a*b))
 | .quo=>A.need (b≠0) (K (k.wrap (a.tdiv b)))
 | .rem=>A.need (b≠0) (K (a.tmod b))
 | .and=>K (bitAnd k a b)
 | .or=>K (bitOr k a b)
 | .xor=>K (bitXor k a b)
 | .andNot=>K (bitAndNot k a b)
 | .shl=>A.need (0≤b) (K (k.wrap (a*2^(min b.toNat k.bits))))
 | .shr=>A.need (0≤b) (K (a.fdiv (2^(min b.toNat k.bits))))
def bldG (ev:Opd→SV):SV→List (List Step×Nat×Nat×Opd)→(SV→α)→α
 |z,[],K=>K z
 |z,(p,o,n,x)::r,K=>A.need (pathOk p∧atP z p 0 o∧(ev x).isVal=true∧wd (ev x)=n∧wd (getP z p)=n) (bldG ev (setP z p (ev x)) r K)
def stepG (s:Step) (off:Nat) (K:SV→α):SV→α
 | .ptr i p o=>K (.ptr i (p++[s]) (o+off))
 | .eptr w d f l i p o=>K (.eptr w d f l i (p++[s]) (o+off))
 | .vptr i j p o=>K (.vptr i j (p++[s]) (o+off))
 | .ref c p o=>K (.ref c (p++[s]) (o+off))
 |_=>A.bad
def boundG (ev:Opd→SV) (d:Nat) (x:Option Opd) (K:Nat→α):α:=match x with
 |none=>K d
 |some x=>match ev x with
  | .int _ j=>A.need (0≤j) (K j.toNat)
  |_=>A.bad
def popG (ev:Opd→SV) (K:SV→α):PIO→α
 | .mv x=>K (ev x)
 | .pick c x y=>match ev c with
  | .bool b=>A.spl b (K (ev x)) (K (ev y))
  |_=>A.bad
 | .ar op x y=>match ev x,ev y with
  | .int k a, .int k' b=>A.need (op.kinds k k') (op.evG A k a b fun n=>K (.int k n))
  |_,_=>A.bad
 | .cmp op x y=>match ev x,ev y with
  | .int k a, .int k' b=>A.need (k'=k) (K (.bool (op.ev a b)))
  |_,_=>A.bad
 | .beq neg x y=>match ev x,ev y with
  | .bool a, .bool b=>K (.bool (if neg then a !=b else a==b))
  |_,_=>A.bad
 | .seq neg x y=>match ev x,ev y with
  | .str a, .str b=>K (.bool (if neg then !decide (a=b) else decide (a=b)))
  |_,_=>A.bad
 | .cat x y=>match ev x,ev y with
  | .str a, .str b=>A.need (a.length+b.length≤9223372036854775807) (K (.str (a++b)))
  |_,_=>A.bad
 | .nt x=>match ev x with
  | .bool a=>K (.bool (!a))
  |_=>A.bad
 | .neg x=>match ev x with
  | .int k a=>K (.int k (k.wrap (0 - a)))
  |_=>A.bad
 | .conv k x=>match ev x with
  | .int _ a=>K (.int k (k.wrap a))
  |_=>A.bad
 | .fa k off x=>stepG A (.fld k) off K (ev x)
 | .fld k off sz ag x=>match ev x with
  | .agg l=>A.need (k<l.length∧wds (l.take k)=off∧wd (l.getD k .junk)=sz∧(l.getD k .junk).isAgg=ag) (K (l.getD k .junk))
  |_=>A.bad
 | .ia n w x i=>match ev i with
  | .int _ j=>A.need (0≤j∧j<n) (stepG A (.idx j.toNat n) (j.toNat*w) K (ev x))
  |_=>A.bad
 | .is w x i=>match ev i with
  | .int _ j=>match ev x with
   | .lst w' d f l=>A.need (0≤j∧j<l.length) (A.need (w'=w) (K (.eptr w d f l j.toNat [] 0)))
   | .vec v n=>A.need (0≤j∧j<n) (K (.vptr v j.toNat [] (j.toNat*w)))
   |_=>A.bad
  |_=>A.bad
 | .ix n w ag x i=>match ev i with
  | .int _ j=>match ev x with
   | .arr n' w' f=>A.need (0≤j∧j<n) (A.need (n'=n∧w'=w∧(f j.toNat).isAgg=ag) (K (f j.toNat)))
   |_=>A.bad
  |_=>A.bad
 | .sx x i=>match ev i with
  | .int _ j=>match ev x with
   | .str s=>A.need (0≤j∧j<s.length) (K (.int .u8 (s.getD j.toNat 0).toNat))
   |_=>A.bad
  |_=>A.bad
 | .ext k x=>match ev x with
  | .tup l=>A.need (k<l.length) (K (l.getD k .junk))
  |_=>A.bad
 | .bld z parts=>bldG A ev z parts fun z'=>A.need (z'.isAgg=true) (K z')
 | .lens x=>match ev x with
  | .str s=>K (.int .i64 s.length)
  |_=>A.bad
 | .len x=>match slLen (ev x) with
  |some n=>K (.int .i64 n)
  |none=>A.bad
 | .mkfn f caps=>A.need ((caps.map ev).all SV.isVal=true) (K (.fn f (caps.map ev)))
 | .nck x=>match ev x with
  | .ptr i p o=>K (.ptr i p o)
  | .eptr w d f l i p o=>K (.eptr w d f l i p o)
  | .vptr i j p o=>K (.vptr i j p o)
  | .ref c p o=>K (.ref c p o)
  | .fn f c=>K (.fn f c)
  |_=>A.bad
 | .mkif t x=>A.need ((ev x).isVal=true) (K (.iface t (ev x)))
 | .aeq neg e x y=>A.need (esP e (ev x)∧esP e (ev y)) (K (.bool (if neg then !eqV e (ev x) (ev y) else eqV e (ev x) (ev y))))
 | .tas t z x=>match ev x with
  | .iface t' y=>if t'=t then K (.tup [y, .bool true]) else K (.tup [z, .bool false])
  |_=>A.bad
 | .ieq neg tab x y=>match ev x with
  | .iface t a=>match ev y with
   | .iface t' b=>if t'=t then (match tabES tab t with
    |some e=>A.need (esP e a∧esP e b) (K (.bool (if neg then !eqV e a b else eqV e a b)))
    |none=>A.bad) else K (.bool neg)
   | .nili=>K (.bool neg)
   |_=>A.bad
  | .nili=>match ev y with
   | .iface _ _=>K (.bool neg)
   | .nili=>match y with
    | .c _=>K (.bool (!neg))
    |_=>A.bad
   |_=>A.bad
  |_=>A.bad
 | .snil neg x=>match slLen (ev x) with
  |some n=>match ev x with
   | .nils=>K (.bool (!neg))
   |_=>A.spl (decide (n=0)) (K .anyb) (K (.bool neg))
  |none=>A.bad
 | .pnil neg x=>match ev x with
  | .nilp=>K (.bool (!neg))
  | .ptr .. =>K (.bool neg)
  | .eptr .. =>K (.bool neg)
  | .vptr .. =>K (.bool neg)
  | .ref .. =>K (.bool neg)
  |_=>A.bad
 | .mx x y=>match ev x,ev y with
  | .int k a, .int k' b=>A.need (k'=k) (K (.int k (if a<b then b else a)))
  |_,_=>A.bad
 | .mn x y=>match ev x,ev y with
  | .int k a, .int k' b=>A.need (k'=k) (K (.int k (if b<a then b else a)))
  |_,_=>A.bad
 | .ssl x lo hi=>match ev x with
  | .str s=>boundG A ev 0 lo fun l=>boundG A ev s.length hi fun h=>A.need (l≤h∧h≤s.length) (K (.str ((s.take h).drop l)))
  |_=>A.bad
 | .slc w x lo hi mx=>match mx,ev x with
  |none, .lst w' d f l=>A.need (w'=w) (boundG A ev 0 lo fun a=>boundG A ev l.length hi fun b=>A.need (a≤b∧b≤l.length) (K (.lst w d f ((l.take b).drop a))))
  |some c, .lst w' d f l=>A.need (w'=w∧hi.isSome=true) (boundG A ev 0 lo fun a=>boundG A ev l.length hi fun b=>boundG A ev 0 (some c) fun m=>A.need (a≤b∧b=m∧m≤l.length) (K (.lit w d f ((l.take b).drop a))))
  |none, .vec i n=>boundG A ev 0 lo fun a=>boundG A ev n hi fun b=>A.need (a=0∧b≤n) (K (.pvec i b))
  |_,_=>A.bad
 | .asl n w x=>match ev x with
  | .ref c p o=>match getP c p with
   | .arr n' w' f=>A.need (n'=n∧w'=w∧n≤1000000∧atP c p 0 o) (K (.lst w (0:Nat) f (rng n)))
   |_=>A.bad
  | .eptr _ d f l i p o=>match f (l.getD i d) with
   | .arr n' w' g=>A.need (n'=n∧w'=w∧n≤1000000∧p=[]∧o=0) (K (.lst w (0:Nat) g (rng n)))
   |_=>A.bad
  |_=>A.bad
def peekG (m:List Res) (n:Nat) (ag:Bool) (K:SV→α):SV→α
 | .ptr i p o=>match memAt m i with
  | .blk _ c=>A.need (atP c p 0 o∧wd (getP c p)=n∧(getP c p).isAgg=ag) (K (getP c p))
  |_=>A.bad
 | .eptr _ d f l i p o=>A.need (atP (f (l.getD i d)) p 0 o∧wd (getP (f (l.getD i d)) p)=n∧(getP (f (l.getD i d)) p).isAgg=ag) (K (getP (f (l.getD i d)) p))
 | .vptr i j p o=>match memAt m i with
  | .vec _ w l=>A.need (j<l.length∧atP (l.getD j .junk) p (j*w) o∧wd (getP (l.getD j .junk) p)=n∧(getP (l.getD j .junk) p).isAgg=ag) (K (getP (l.getD j .junk) p))
  |_=>A.bad
 | .ref c p o=>A.need (atP c p 0 o∧wd (getP c p)=n∧(getP c p).isAgg=ag) (K (getP c p))
 |_=>A.bad
end
section
variable {α:Type} (A:Ans α)
def mopG (m:List Res) (k:MK) (xs:List SV) (K:SV→α):α:=match k with
 | .get ek ev z ok=>match xs with
  |[.map i,key]=>match memAt m i with
   | .mp ek' ev' l=>A.need (ek'=ek∧ev'=ev∧esP ek key) (K (if ok then .tup [mpRes ev z (mpFind ek key l), .bool (mpFind ek key l).isSome] else mpRes ev z (mpFind ek key l)))
   |_=>A.bad
  |_=>A.bad
 | .mlen=>match xs with
  |[.map i]=>match memAt m i with
   | .mp _ _ l=>K (.int .i64 l.length)
   |_=>A.bad
  |_=>A.bad
 |_=>A.bad
end
structure AnsOK {α:Type} (A:Ans α) (good:α→Prop) (val:α→Bool):Prop where
 bad:¬ good A.bad
 need:∀ p x,good (A.need p x)→p∧good x∧val (A.need p x)=val x
 spl:∀ b x y,good (A.spl b x y)→good (if b then x else y)∧val (A.spl b x y)=val (if b then x else y)
theorem okP:AnsOK AP (fun a=>a) (fun _=>false):=⟨fun h=>h,fun _ _ h=>⟨h.1,h.2,rfl⟩,fun b x y h=>by cases b<;>exact ⟨by first|exact h.1 rfl|exact h.2 rfl,rfl⟩⟩
theorem okV:AnsOK AV (fun a=>a.1) (fun a=>a.2):=⟨fun h=>h,fun _ _ h=>⟨h.1,h.2,rfl⟩,fun b x y h=>by cases b<;>exact ⟨by first|exact h.1 rfl|exact h.2 rfl,rfl⟩⟩
section
variable {α:Type} {A:Ans α} {good:α→Prop} {val:α→Bool}
def From (good:α→Prop) (val:α→Bool) (r:α) (K:SV→α) (σK:(SV→Prop)→Prop):Prop:=good r→∃ sv,good (K sv)∧val r=val (K sv)∧σK fun sv'=>Le sv sv'
theorem le_eq {x y c:SV} (h:Le x y) (e:x=c) (hc:c≠ .junk):y=c:=by
 rcases h with h|h
 ·exact absurd (e.symm.trans h) hc
 ·exact h▸e
theorem le_val {x y:SV} (h:Le x y) (hv:x.isVal=true):y=x:=by
 rcases h with h|h
 ·rw [h] at hv;cases hv
 ·exact h.symm
theorem evs_val {ev:Opd→SV} {σ:List SV} (hev:∀ x:Opd,Le (ev x) (x.ev σ)):∀ ys:List Opd,(ys.map ev).all SV.isVal=true→ys.map (·.ev σ)=ys.map ev
 |[],_=>rfl
 |y::ys,h=>by
  simp only [List.map_cons,List.all_cons,Bool.and_eq_true] at h ⊢
  rw [le_val (hev y) h.1,evs_val hev ys h.2]
theorem AOp.evG_ok (hA:AnsOK A good val) {k:IntKind} {a b:Int} {K:Int→α} (op:AOp) {r:α} (hr:op.evG A k a b K=r) (h:good r):∃ n,good (K n)∧val r=val (K n)∧op.ev k a b (· =n):=by
 subst hr
 cases op<;>simp only [AOp.evG,AOp.ev] at h ⊢ <;>first
  |exact ⟨_,h,rfl,rfl⟩
  |exact ⟨_,(hA.need _ _ h).2.1,(hA.need _ _ h).2.2,(hA.need _ _ h).1,rfl⟩
theorem AOp.ev_mono {k:IntKind} {a b:Int} {K K':Int→Prop} (op:AOp) (hK:∀ n,K n→K' n) (h:op.ev k a b K):op.ev k a b K':=by
 cases op<;>simp only [AOp.ev] at h ⊢ <;>first
  |exact hK _ h
  |exact ⟨h.1,hK _ h.2⟩
theorem stepG_ok (hA:AnsOK A good val) {s:Step} {off:Nat} {K:SV→α} {x:SV} {r:α} (hr:stepG A s off K x=r) (h:good r):x.isVal=true∧∃ sv,good (K sv)∧val r=val (K sv)∧stepTo s off (Le sv) x:=by
 subst hr
 cases x<;>simp only [stepG] at h ⊢ <;>first
  |exact absurd h hA.bad
  |exact ⟨rfl,_,h,rfl, .inr rfl⟩
theorem bldG_ok (hA:AnsOK A good val) {ev:Opd→SV} {σ:List SV} (hev:∀ x:Opd,Le (ev x) (x.ev σ)) {K:SV→α}:∀ (ps:List (List Step×Nat×Nat×Opd)) (z:SV) {r:α},bldG A ev z ps K=r→good r→∃ sv,good (K sv)∧val r=val (K sv)∧bldParts σ z ps (· =sv)
 |[],z,r,hr,h=>by subst hr;exact ⟨_,h,rfl,rfl⟩
 |(p,o,n,x)::ps,z,r,hr,h=>by
  subst hr
  simp only [bldG] at h ⊢
  obtain ⟨h1,h2,h3⟩:=hA.need _ _ h
  obtain ⟨sv,k1,k2,k3⟩:=bldG_ok hA hev ps _ rfl h2
  have e:=le_val (hev x) h1.2.2.1
  refine ⟨sv,k1,h3.trans k2,?_⟩
  simp only [bldParts,e]
  exact ⟨h1,k3⟩
theorem bldParts_mono {σ:List SV} {K K':SV→Prop} (hK:∀ x,K x→K' x):∀ (ps:List (List Step×Nat×Nat×Opd)) (z:SV),bldParts σ z ps K→bldParts σ z ps K'
 |[],_,h=>hK _ h
 |_::ps,_,h=>⟨h.1,bldParts_mono hK ps _ h.2⟩
theorem boundG_ok (hA:AnsOK A good val) {ev:Opd→SV} {σ:List SV} (hev:∀ x:Opd,Le (ev x) (x.ev σ)) {d:Nat} {x:Option Opd} {K:Nat→α} {r:α} (hr:boundG A ev d x K=r) (h:good r):∃ n,good (K n)∧val r=val (K n)∧∀ K':Nat→Prop,K' n→popK.bound σ d x K':=by
 subst hr
 cases x with
 |none=>exact ⟨_,h,rfl,fun _ h=>h⟩
 |some x=>
  simp only [boundG] at h ⊢
  split at h
  ·rename_i k j e
   have e':=le_eq (hev x) e (by intro h;cases h)
   obtain ⟨h1,h2,h3⟩:=hA.need _ _ h
   refine ⟨_,h2,h3,fun K' hK=> ?_⟩
   simp only [popK.bound,e']
   exact ⟨h1,hK⟩
  ·exact absurd h hA.bad
theorem popG_ok (hA:AnsOK A good val) {ev:Opd→SV} {σ:List SV} (hev:∀ x:Opd,Le (ev x) (x.ev σ)) {K:SV→α} (p:PIO) {r:α} (hr:popG A ev K p=r):From good val r K (fun K'=>popK σ K' p):=by
 intro h
 have bad:∀ {q:Prop},good A.bad→q:=fun h=>absurd h hA.bad
 have two:∀ {x y:Opd} {a b:SV},ev x=a→ev y=b→a≠ .junk→b≠ .junk→x.ev σ=a∧y.ev σ=b:=fun h1 h2 h3 h4=>⟨le_eq (hev _) h1 h3,le_eq (hev _) h2 h4⟩
 have nj:∀ {x c:SV},x=c→c≠ .junk→c≠ .junk:=fun _ h=>h
 subst hr
 cases p with
 |mv x=>exact ⟨_,h,rfl,hev x⟩
 |pick c x y=>
  simp only [popG] at h ⊢
  split at h
  ·rename_i b e
   have e':=le_eq (hev c) e (by intro h;cases h)
   obtain ⟨h1,h2⟩:=hA.spl _ _ _ h
   cases b
   ·exact ⟨_,h1,h2,by simpa [popK,e'] using hev y⟩
   ·exact ⟨_,h1,h2,by simpa [popK,e'] using hev x⟩
  ·exact bad h
 |ar op x y=>
  simp only [popG] at h ⊢
  split at h
  ·rename_i k a k' b e1 e2
   obtain ⟨f1,f2⟩:=two e1 e2 (by intro h;cases h) (by intro h;cases h)
   obtain ⟨h1,h2,h3⟩:=hA.need _ _ h
   obtain ⟨n,k1,k2,k3⟩:=AOp.evG_ok hA op rfl h2
   refine ⟨_,k1,h3.trans k2,?_⟩
   simp only [popK,f1,f2]
   exact ⟨h1,AOp.ev_mono op (fun m hm=>by subst hm;exact .inr rfl) k3⟩
  ·exact bad h
 |cmp op x y=>
  simp only [popG] at h ⊢
  split at h
  ·rename_i k a k' b e1 e2
   obtain ⟨f1,f2⟩:=two e1 e2 (by intro h;cases h) (by intro h;cases h)
   obtain ⟨h1,h2,h3⟩:=hA.need _ _ h
   exact ⟨_,h2,h3,by simp only [popK,f1,f2];exact ⟨h1, .inr rfl⟩⟩
  ·exact bad h
 |beq neg x y=>
  simp only [popG] at h ⊢
  split at h
  ·rename_i a b e1 e2
   obtain ⟨f1,f2⟩:=two e1 e2 (by intro h;cases h) (by intro h;cases h)
   exact ⟨_,h,rfl,by simp only [popK,f1,f2];exact .inr rfl⟩
  ·exact bad h
 |seq neg x y=>
  simp only [popG] at h ⊢
  split at h
  ·rename_i a b e1 e2
   obtain ⟨f1,f2⟩:=two e1 e2 (by intro h;cases h) (by intro h;cases h)
   exact ⟨_,h,rfl,by simp only [popK,f1,f2];exact .inr rfl⟩
  ·exact bad h
 |cat x y=>
  simp only [popG] at h ⊢
  split at h
  ·rename_i a b e1 e2
   obtain ⟨f1,f2⟩:=two e1 e2 (by intro h;cases h) (by intro h;cases h)
   obtain ⟨h1,h2,h3⟩:=hA.need _ _ h
   exact ⟨_,h2,h3,by simp only [popK,f1,f2];exact ⟨h1, .inr rfl⟩⟩
  ·exact bad h
 |nt x=>
  simp only [popG] at h ⊢
  split at h
  ·rename_i a e1
   have f1:=le_eq (hev x) e1 (by intro h;cases h)
   exact ⟨_,h,rfl,by simp only [popK,f1];exact .inr rfl⟩
  ·exact bad h
 |neg x=>
  simp only [popG] at h ⊢
  split at h
  ·rename_i k a e1
   have f1:=le_eq (hev x) e1 (by intro h;cases h)
   exact ⟨_,h,rfl,by simp only [popK,f1];exact .inr rfl⟩
  ·exact bad h
 |conv k x=>
  simp only [popG] at h ⊢
  split at h
  ·rename_i k a e1
   have f1:=le_eq (hev x) e1 (by intro h;cases h)
   exact ⟨_,h,rfl,by simp only [popK,f1];exact .inr rfl⟩
  ·exact bad h
 |fa k off x=>
  simp only [popG] at h ⊢
  obtain ⟨hv,sv,k1,k2,k3⟩:=stepG_ok hA rfl h
  exact ⟨sv,k1,k2,by simp only [popK,le_val (hev x) hv];exact k3⟩
 |fld k off sz ag x=>
  simp only [popG] at h ⊢
  split at h
  ·rename_i l e1
   have f1:=le_eq (hev x) e1 (by intro h;cases h)
   obtain ⟨h1,h2,h3⟩:=hA.need _ _ h
   exact ⟨_,h2,h3,by simp only [popK,f1];exact ⟨h1, .inr rfl⟩⟩
  ·exact bad h
 |ia n w x i=>
  simp only [popG] at h ⊢
  split at h
  ·rename_i k j e1
   have f1:=le_eq (hev i) e1 (by intro h;cases h)
   obtain ⟨h1,h2,h3⟩:=hA.need _ _ h
   obtain ⟨hv,sv,k1,k2,k3⟩:=stepG_ok hA rfl h2
   exact ⟨sv,k1,h3.trans k2,by simp only [popK,f1,le_val (hev x) hv];exact ⟨h1,k3⟩⟩
  ·exact bad h
 |«is» w x i=>
  simp only [popG] at h ⊢
  split at h
  ·rename_i k j e1
   have f1:=le_eq (hev i) e1 (by intro h;cases h)
   split at h
   ·rename_i e2
    have f2:=le_eq (hev x) e2 (by intro h;cases h)
    obtain ⟨h1,h2,h3⟩:=hA.need _ _ h
    obtain ⟨g1,g2,g3⟩:=hA.need _ _ h2
    exact ⟨_,g2,h3.trans g3,by simp only [popK,f1,f2];exact ⟨h1,g1, .inr rfl⟩⟩
   ·rename_i e2
    have f2:=le_eq (hev x) e2 (by intro h;cases h)
    obtain ⟨h1,h2,h3⟩:=hA.need _ _ h
    exact ⟨_,h2,h3,by simp only [popK,f1,f2];exact ⟨h1, .inr rfl⟩⟩
   ·exact bad h
  ·exact bad h
 |ix n w ag x i=>
  simp only [popG] at h ⊢
  split at h
  ·rename_i k j e1
   have f1:=le_eq (hev i) e1 (by intro h;cases h)
   split at h
   ·rename_i e2
    have f2:=le_eq (hev x) e2 (by intro h;cases h)
    obtain ⟨h1,h2,h3⟩:=hA.need _ _ h
    obtain ⟨g1,g2,g3⟩:=hA.need _ _ h2
    exact ⟨_,g2,h3.trans g3,by simp only [popK,f1,f2];exact ⟨h1,g1, .inr rfl⟩⟩
   ·exact bad h
  ·exact bad h
 |sx x i=>
  simp only [popG] at h ⊢
  split at h
  ·rename_i k j e1
   have f1:=le_eq (hev i) e1 (by intro h;cases h)
   split at h
   ·rename_i e2
    have f2:=le_eq (hev x) e2 (by intro h;cases h)
    obtain ⟨h1,h2,h3⟩:=hA.need _ _ h
    exact ⟨_,h2,h3,by simp only [popK,f1,f2];exact ⟨h1, .inr rfl⟩⟩
   ·exact bad h
  ·exact bad h
 |ext k x=>
  simp only [popG] at h ⊢
  split at h
  ·rename_i l e1
   have f1:=le_eq (hev x) e1 (by intro h;cases h)
   obtain ⟨h1,h2,h3⟩:=hA.need _ _ h
   exact ⟨_,h2,h3,by simp only [popK,f1];exact ⟨h1, .inr rfl⟩⟩
  ·exact bad h
 |bld z ps=>
  simp only [popG] at h ⊢
  obtain ⟨sv,k1,k2,k3⟩:=bldG_ok hA hev ps z rfl h
  obtain ⟨h1,h2,h3⟩:=hA.need _ _ k1
  exact ⟨_,h2,k2.trans h3,by simp only [popK];exact bldParts_mono (fun x hx=>by subst hx;exact ⟨h1, .inr rfl⟩) ps z k3⟩
 |lens x=>
  simp only [popG] at h ⊢
  split at h
  ·rename_i s e1
   have f1:=le_eq (hev x) e1 (by intro h;cases h)
   exact ⟨_,h,rfl,by simp only [popK,f1];exact .inr rfl⟩
  ·exact bad h
 |len x=>
  simp only [popG] at h ⊢
  split at h
  ·rename_i n e1
   have f1:x.ev σ=ev x:=by
    rcases hev x with e|e
    ·rw [e] at e1;cases e1
    ·exact e.symm
   exact ⟨_,h,rfl,by simp only [popK,f1,e1];exact .inr rfl⟩
  ·exact bad h
 |mkfn f caps=>
  simp only [popG] at h ⊢
  obtain ⟨h1,h2,h3⟩:=hA.need _ _ h
  exact ⟨_,h2,h3,by simp only [popK];rw [evs_val hev caps h1];exact ⟨h1, .inr rfl⟩⟩
 |nck x=>
  simp only [popG] at h ⊢
  split at h<;>first
   |exact bad h
   |(rename_i e1
     have f1:=le_eq (hev x) e1 (by intro h;cases h)
     exact ⟨_,h,rfl,by simp only [popK,f1];exact .inr rfl⟩)
 |pnil neg x=>
  simp only [popG] at h ⊢
  split at h<;>first
   |exact bad h
   |(rename_i e1
     have f1:=le_eq (hev x) e1 (by intro h;cases h)
     exact ⟨_,h,rfl,by simp only [popK,f1];exact .inr rfl⟩)
 |mkif t x=>
  simp only [popG] at h ⊢
  obtain ⟨h1,h2,h3⟩:=hA.need _ _ h
  exact ⟨_,h2,h3,by simp only [popK];rw [le_val (hev x) h1];exact ⟨h1, .inr rfl⟩⟩
 |aeq neg e x y=>
  simp only [popG] at h ⊢
  obtain ⟨h1,h2,h3⟩:=hA.need _ _ h
  have vv:∀ {z:SV},esP e z→z.isVal=true:=by
   intro z hz
   cases e<;>cases z<;>simp only [esP] at hz<;>rfl
  have f1:=le_val (hev x) (vv h1.1)
  have f2:=le_val (hev y) (vv h1.2)
  exact ⟨_,h2,h3,by simp only [popK,f1,f2];exact ⟨h1, .inr rfl⟩⟩
 |tas t z x=>
  simp only [popG] at h ⊢
  split at h
  ·rename_i t' y e1
   have f1:=le_eq (hev x) e1 (by intro h;cases h)
   by_cases he:t'=t
   ·rw [if_pos he] at h ⊢
    exact ⟨_,h,rfl,by simp only [popK,f1,if_pos he];exact .inr rfl⟩
   ·rw [if_neg he] at h ⊢
    exact ⟨_,h,rfl,by simp only [popK,f1,if_neg he];exact .inr rfl⟩
  ·exact bad h
 |ieq neg tab x y=>
  simp only [popG] at h ⊢
  split at h
  ·rename_i t a e1
   have f1:=le_eq (hev x) e1 (by intro h;cases h)
   split at h
   ·rename_i t' b e2
    have f2:=le_eq (hev y) e2 (by intro h;cases h)
    by_cases he:t'=t
    ·rw [if_pos he] at h ⊢
     cases hta:tabES tab t with
     |some e=>
      rw [hta] at h
      simp only at h ⊢
      obtain ⟨q1,q2,q3⟩:=hA.need _ _ h
      exact ⟨_,q2,q3,by simp only [popK,f1,f2,if_pos he,hta];exact ⟨q1, .inr rfl⟩⟩
     |none=>rw [hta] at h;exact bad h
    ·rw [if_neg he] at h ⊢
     exact ⟨_,h,rfl,by simp only [popK,f1,f2,if_neg he];exact .inr rfl⟩
   ·rename_i e2
    have f2:=le_eq (hev y) e2 (by intro h;cases h)
    exact ⟨_,h,rfl,by simp only [popK,f1,f2];exact .inr rfl⟩
   ·exact bad h
  ·rename_i e1
   have f1:=le_eq (hev x) e1 (by intro h;cases h)
   split at h
   ·rename_i e2
    have f2:=le_eq (hev y) e2 (by intro h;cases h)
    exact ⟨_,h,rfl,by simp only [popK,f1,f2];exact .inr rfl⟩
   ·rename_i e2
    have f2:=le_eq (hev y) e2 (by intro h;cases h)
    split at h
    ·exact ⟨_,h,rfl,by simp only [popK,f1,f2];exact .inr rfl⟩
    ·exact bad h
   ·exact bad h
  ·exact bad h
 |snil neg x=>
  simp only [popG] at h ⊢
  split at h
  ·rename_i n e1
   have f1:x.ev σ=ev x:=by
    rcases hev x with e|e
    ·rw [e] at e1;cases e1
    ·exact e.symm
   split at h
   ·rename_i e2
    refine ⟨_,h,rfl,?_⟩
    simp only [popK,f1,e1,e2]
    exact .inr rfl
   ·obtain ⟨h1,h2⟩:=hA.spl _ _ _ h
    rename_i hne
    have pk:∀ K':SV→Prop,((decide (n=0)=true→K' .anyb)∧(decide (n=0)=false→K' (.bool neg)))→popK σ K' (.snil neg x):=by
     intro K' hK
     simp only [popK,f1,e1]
     first
      |exact hK
      |(split
        ·rename_i e3;exact absurd e3 hne
        ·exact hK)
    by_cases hn:n=0
    ·simp only [hn,decide_true,if_true] at h1 h2
     exact ⟨_,h1,by simpa [hn] using h2,pk _ ⟨fun _=> .inr rfl,fun e=>by simp [hn] at e⟩⟩
    ·simp only [hn,decide_false,Bool.false_eq_true,if_false] at h1 h2
     exact ⟨_,h1,by simpa [hn] using h2,pk _ ⟨fun e=>by simp [hn] at e,fun _=> .inr rfl⟩⟩
  ·exact bad h
 |mx x y=>
  simp only [popG] at h ⊢
  split at h
  ·rename_i k a k' b e1 e2
   obtain ⟨f1,f2⟩:=two e1 e2 (by intro h;cases h) (by intro h;cases h)
   obtain ⟨h1,h2,h3⟩:=hA.need _ _ h
   exact ⟨_,h2,h3,by simp only [popK,f1,f2];exact ⟨h1, .inr rfl⟩⟩
  ·exact bad h
 |mn x y=>
  simp only [popG] at h ⊢
  split at h
  ·rename_i k a k' b e1 e2
   obtain ⟨f1,f2⟩:=two e1 e2 (by intro h;cases h) (by intro h;cases h)
   obtain ⟨h1,h2,h3⟩:=hA.need _ _ h
   exact ⟨_,h2,h3,by simp only [popK,f1,f2];exact ⟨h1, .inr rfl⟩⟩
  ·exact bad h
 |ssl x lo hi=>
  simp only [popG] at h ⊢
  split at h
  ·rename_i s e1
   have f1:=le_eq (hev x) e1 (by intro h;cases h)
   obtain ⟨a,h1,h2,h3⟩:=boundG_ok hA hev rfl h
   obtain ⟨b,g1,g2,g3⟩:=boundG_ok hA hev rfl h1
   obtain ⟨q1,q2,q3⟩:=hA.need _ _ g1
   exact ⟨_,q2,(h2.trans g2).trans q3,by simp only [popK,f1];exact h3 _ (g3 _ ⟨q1, .inr rfl⟩)⟩
  ·exact bad h
 |slc w x lo hi mx=>
  simp only [popG] at h ⊢
  split at h
  ·rename_i w' d f l e1
   have f1:=le_eq (hev x) e1 (by intro h;cases h)
   obtain ⟨r1,r2,r3⟩:=hA.need _ _ h
   obtain ⟨a,h1,h2,h3⟩:=boundG_ok hA hev rfl r2
   obtain ⟨b,g1,g2,g3⟩:=boundG_ok hA hev rfl h1
   obtain ⟨q1,q2,q3⟩:=hA.need _ _ g1
   exact ⟨_,q2,((r3.trans h2).trans g2).trans q3,by simp only [popK,f1];exact ⟨r1,h3 _ (g3 _ ⟨q1, .inr rfl⟩)⟩⟩
  ·rename_i c w' d f l e1
   have f1:=le_eq (hev x) e1 (by intro h;cases h)
   obtain ⟨r1,r2,r3⟩:=hA.need _ _ h
   obtain ⟨a,h1,h2,h3⟩:=boundG_ok hA hev rfl r2
   obtain ⟨b,g1,g2,g3⟩:=boundG_ok hA hev rfl h1
   obtain ⟨e,j1,j2,j3⟩:=boundG_ok hA hev rfl g1
   obtain ⟨q1,q2,q3⟩:=hA.need _ _ j1
   exact ⟨_,q2,(((r3.trans h2).trans g2).trans j2).trans q3,by simp only [popK,f1];exact ⟨r1,h3 _ (g3 _ (j3 _ ⟨q1, .inr rfl⟩))⟩⟩
  ·rename_i i n e1
   have f1:=le_eq (hev x) e1 (by intro h;cases h)
   obtain ⟨a,h1,h2,h3⟩:=boundG_ok hA hev rfl h
   obtain ⟨b,g1,g2,g3⟩:=boundG_ok hA hev rfl h1
   obtain ⟨q1,q2,q3⟩:=hA.need _ _ g1
   exact ⟨_,q2,(h2.trans g2).trans q3,by simp only [popK,f1];exact h3 _ (g3 _ ⟨q1, .inr rfl⟩)⟩
  ·exact bad h
 |asl n w x=>
  simp only [popG] at h ⊢
  split at h
  ·rename_i c p o e1
   have f1:=le_eq (hev x) e1 (by intro h;cases h)
   split at h
   ·rename_i n' w' f e2
    obtain ⟨q1,q2,q3⟩:=hA.need _ _ h
    exact ⟨_,q2,q3,by simp only [popK,f1,e2];exact ⟨q1, .inr rfl⟩⟩
   ·exact bad h
  ·rename_i w0 d f l i p o e1
   have f1:=le_eq (hev x) e1 (by intro h;cases h)
   split at h
   ·rename_i n' w' g e2
    obtain ⟨q1,q2,q3⟩:=hA.need _ _ h
    exact ⟨_,q2,q3,by simp only [popK,f1,e2];exact ⟨q1, .inr rfl⟩⟩
   ·exact bad h
  ·exact bad h
theorem peekG_ok (hA:AnsOK A good val) {m:List Res} {n:Nat} {ag:Bool} {K:SV→α} {x:SV} {r:α} (hr:peekG A m n ag K x=r) (h:good r):x.isVal=true∧∃ sv,good (K sv)∧val r=val (K sv)∧peek m n ag (Le sv) x:=by
 subst hr
 cases x<;>simp only [peekG,peek] at h ⊢ <;>first
  |exact absurd h hA.bad
  |exact ⟨rfl,_,(hA.need _ _ h).2.1,(hA.need _ _ h).2.2,(hA.need _ _ h).1, .inr rfl⟩
  |(split at h
    ·rename_i e
     simp only [e]
     exact ⟨rfl,_,(hA.need _ _ h).2.1,(hA.need _ _ h).2.2,(hA.need _ _ h).1, .inr rfl⟩
    ·exact absurd h hA.bad)
theorem mopG_ok (hA:AnsOK A good val) {m:List Res} {k:MK} {xs:List SV} {K:SV→α} {r:α} (hr:mopG A m k xs K=r) (h:good r):∃ sv,good (K sv)∧val r=val (K sv)∧∀ K':SV→List Res→Prop,K' sv m→mopK m k xs K':=by
 subst hr
 cases k<;>simp only [mopG,mopK] at h ⊢ <;>try (exact absurd h hA.bad)
 ·split at h
  ·rename_i i key
   simp only
   split at h
   ·rename_i e0
    obtain ⟨h1,h2,h3⟩:=hA.need _ _ h
    exact ⟨_,h2,h3,fun K' hK=>by simp only [e0];exact ⟨h1,hK⟩⟩
   ·exact absurd h hA.bad
  ·exact absurd h hA.bad
 ·split at h
  ·rename_i i
   simp only
   split at h
   ·rename_i e0
    exact ⟨_,h,rfl,fun K' hK=>by simp only [e0];exact hK⟩
   ·exact absurd h hA.bad
  ·exact absurd h hA.bad
end
theorem mopK_mono {m:List Res} {k:MK} {xs:List SV} {K K':SV→List Res→Prop} (hK:∀ x m,K x m→K' x m) (h:mopK m k xs K):mopK m k xs K':=by
 cases k<;>simp only [mopK] at h ⊢
 ·split at h<;>first|exact hK _ _ h|exact h.elim
 ·split at h
  ·try simp only
   split at h
   ·rename_i e0
    try rw [e0]
    exact ⟨h.1,hK _ _ h.2⟩
   ·exact h.elim
  ·exact h.elim
 ·split at h
  ·try simp only
   split at h
   ·rename_i e0
    try rw [e0]
    exact ⟨h.1,hK _ _ h.2⟩
   ·exact h.elim
  ·exact h.elim
 ·split at h
  ·split at h
   ·rename_i l hl
    try simp only [hl]
    split at h
    ·rename_i bs hb
     try simp only [hb]
     exact hK _ _ h
    ·exact h.elim
   ·exact h.elim
  ·exact h.elim
 ·split at h
  ·exact ⟨h.1,hK _ _ h.2⟩
  ·exact h.elim
 ·split at h
  ·try simp only
   split at h
   ·rename_i e0
    try rw [e0]
    exact hK _ _ h
   ·exact h.elim
  ·exact h.elim
def RelC (F:Bool→Prop→Prop) (x:Prop→Prop) (y:Prop×Bool):Prop:= ∀ acc,x acc→∃ g,F y.2 g∧(g→acc∧y.1)
section rel
variable {F:Bool→Prop→Prop}
theorem rel_bad {y:Prop×Bool}:RelC F AC.bad y:=fun _ h=>h.elim
theorem rel_need {p:Prop} {x:Prop→Prop} {y:Prop×Bool} (h:RelC F x y):RelC F (AC.need p x) (AV.need p y):=fun acc hx=>by
 obtain ⟨g,h1,h2⟩:=h _ hx
 exact ⟨g,h1,fun hg=>⟨(h2 hg).1.1,(h2 hg).1.2,(h2 hg).2⟩⟩
theorem rel_spl {b:Bool} {x x':Prop→Prop} {y y':Prop×Bool} (h:RelC F x y) (h':RelC F x' y'):RelC F (AC.spl b x x') (AV.spl b y y'):=fun acc hx=>by
 cases b with
 |true=>
  obtain ⟨g,h1,h2⟩:=h _ (hx.1 rfl)
  exact ⟨g,h1,fun hg=>⟨(h2 hg).1,(⟨fun _=>(h2 hg).2,fun e=>by cases e⟩:(true=true→y.1)∧(true=false→y'.1))⟩⟩
 |false=>
  obtain ⟨g,h1,h2⟩:=h' _ (hx.2 rfl)
  exact ⟨g,h1,fun hg=>⟨(h2 hg).1,(⟨fun e=>(by cases e),fun _=>(h2 hg).2⟩:(false=true→y.1)∧(false=false→y'.1))⟩⟩
theorem rel_bld {ev:Opd→SV} {K:SV→Prop→Prop} {K':SV→Prop×Bool} (hK:∀ sv,RelC F (K sv) (K' sv)):∀ (ps:List (List Step×Nat×Nat×Opd)) (z:SV),RelC F (bldG AC ev z ps K) (bldG AV ev z ps K')
 |[],z=>hK z
 |(p,o,n,x)::r,z=>rel_need (rel_bld hK r _)
theorem rel_bound {ev:Opd→SV} {d:Nat} {x:Option Opd} {K:Nat→Prop→Prop} {K':Nat→Prop×Bool} (hK:∀ n,RelC F (K n) (K' n)):RelC F (boundG AC ev d x K) (boundG AV ev d x K'):=by
 cases x with
 |none=>exact hK d
 |some x=>
  simp only [boundG]
  split
  ·exact rel_need (hK _)
  ·exact rel_bad
theorem rel_step {s:Step} {off:Nat} {K:SV→Prop→Prop} {K':SV→Prop×Bool} (hK:∀ sv,RelC F (K sv) (K' sv)) (x:SV):RelC F (stepG AC s off K x) (stepG AV s off K' x):=by
 cases x<;>simp only [stepG]<;>first|exact hK _|exact rel_bad
theorem rel_peek {m:List Res} {n:Nat} {ag:Bool} {K:SV→Prop→Prop} {K':SV→Prop×Bool} (hK:∀ sv,RelC F (K sv) (K' sv)) (x:SV):RelC F (peekG AC m n ag K x) (peekG AV m n ag K' x):=by
 cases x<;>simp only [peekG]<;>first
  |exact rel_bad
  |exact rel_need (hK _)
  |(split<;>first|exact rel_bad|exact rel_need (hK _))
theorem rel_mop {m:List Res} {k:MK} {xs:List SV} {K:SV→Prop→Prop} {K':SV→Prop×Bool} (hK:∀ sv,RelC F (K sv) (K' sv)):RelC F (mopG AC m k xs K) (mopG AV m k xs K'):=by
 cases k<;>simp only [mopG]<;>try (exact rel_bad)
 ·split
  ·split
   ·exact rel_need (hK _)
   ·exact rel_bad
  ·exact rel_bad
 ·split
  ·split
   ·exact hK _
   ·exact rel_bad
  ·exact rel_bad
theorem rel_ar {k:IntKind} {a b:Int} {K:Int→Prop→Prop} {K':Int→Prop×Bool} (hK:∀ n,RelC F (K n) (K' n)) (op:AOp):RelC F (op.evG AC k a b K) (op.evG AV k a b K'):=by
 cases op<;>simp only [AOp.evG]<;>first|exact hK _|exact rel_need (hK _)
theorem rel_pop {ev:Opd→SV} {K:SV→Prop→Prop} {K':SV→Prop×Bool} (hK:∀ sv,RelC F (K sv) (K' sv)) (p:PIO):RelC F (popG AC ev K p) (popG AV ev K' p):=by
 cases p with
 |ar op x y=>
  simp only [popG]
  split
  ·exact rel_need (rel_ar (fun n=>hK _) op)
  ·exact rel_bad
 |pick c x y=>
  simp only [popG]
  split
  ·exact rel_spl (hK _) (hK _)
  ·exact rel_bad
 |fa k off x=>exact rel_step hK _
 |ia n w x i=>
  simp only [popG]
  split
  ·exact rel_need (rel_step hK _)
  ·exact rel_bad
 |bld z ps=>exact rel_bld (fun sv=>rel_need (hK _)) ps z
 |ssl x lo hi=>
  simp only [popG]
  split
  ·exact rel_bound (fun l=>rel_bound (fun h=>rel_need (hK _)))
  ·exact rel_bad
 |slc w x lo hi mx=>
  simp only [popG]
  split
  ·exact rel_need (rel_bound (fun l=>rel_bound (fun h=>rel_need (hK _))))
  ·exact rel_need (rel_bound (fun l=>rel_bound (fun h=>rel_bound (fun c=>rel_need (hK _)))))
  ·exact rel_bound (fun l=>rel_bound (fun h=>rel_need (hK _)))
  ·exact rel_bad
 |asl n w x=>
  simp only [popG]
  split
  ·split
   ·exact rel_need (hK _)
   ·exact rel_bad
  ·split
   ·exact rel_need (hK _)
   ·exact rel_bad
  ·exact rel_bad
 |tas t z x=>
  simp only [popG]
  split
  ·split<;>exact hK _
  ·exact rel_bad
 |ieq neg tab x y=>
  simp only [popG]
  split
  ·split
   ·split
    ·split
     ·exact rel_need (hK _)
     ·exact rel_bad
    ·exact hK _
   ·exact hK _
   ·exact rel_bad
  ·split
   ·exact hK _
   ·split
    ·exact hK _
    ·exact rel_bad
   ·exact rel_bad
  ·exact rel_bad
 |snil neg x=>
  simp only [popG]
  split
  ·split
   ·exact hK _
   ·exact rel_spl (hK _) (hK _)
  ·exact rel_bad
 |_=>
  simp only [popG]
  first
   |exact hK _
   |exact rel_need (hK _)
   |(split<;>first|exact hK _|exact rel_need (hK _)|exact rel_bad|(split<;>first|exact rel_bad|exact rel_need (rel_need (hK _))|exact rel_need (hK _)))
end rel
theorem stepTo_mono {s:Step} {off:Nat} {K K':SV→Prop} (hK:∀ x,K x→K' x) {x:SV} (h:stepTo s off K x):stepTo s off K' x:=by
 cases x<;>simp only [stepTo] at h ⊢ <;>exact hK _ h
theorem bound_mono {σ:List SV} {d:Nat} {x:Option Opd} {K K':Nat→Prop} (hK:∀ x,K x→K' x) (h:popK.bound σ d x K):popK.bound σ d x K':=by
 cases x with
 |none=>exact hK _ h
 |some x=>
  simp only [popK.bound] at h ⊢
  split at h
  ·exact ⟨h.1,hK _ h.2⟩
  ·exact h.elim
theorem peek_mono {m:List Res} {n:Nat} {ag:Bool} {K K':SV→Prop} (hK:∀ x,K x→K' x) {x:SV} (hh:peek m n ag K x):peek m n ag K' x:=by
 cases x<;>simp only [peek] at hh ⊢ <;>first
  |exact hh
  |exact ⟨hh.1,hK _ hh.2⟩
  |(split at hh<;>first|exact hh.elim|exact ⟨hh.1,hK _ hh.2⟩)
theorem popK_mono {σ:List SV} {K K':SV→Prop} (hK:∀ x,K x→K' x) {p:PIO} (h:popK σ K p):popK σ K' p:=by
 cases p<;>simp only [popK] at h ⊢
 case ar=>split at h<;>first|exact h.elim|exact ⟨h.1,AOp.ev_mono _ (fun n hn=>hK _ hn) h.2⟩
 case fa=>exact stepTo_mono hK h
 case ia=>split at h<;>first|exact h.elim|exact ⟨h.1,stepTo_mono hK h.2⟩
 case bld=>exact bldParts_mono (fun x hx=>⟨hx.1,hK _ hx.2⟩) _ _ h
 case ssl=>split at h<;>first|exact h.elim|exact bound_mono (fun a ha=>bound_mono (fun b hb=>⟨hb.1,hK _ hb.2⟩) ha) h
 case asl=>
  split at h<;>try (exact h.elim)
  all_goals (split at h<;>first|exact h.elim|exact ⟨h.1,hK _ h.2⟩)
 case slc=>split at h<;>first|exact h.elim|exact bound_mono (fun a ha=>bound_mono (fun b hb=>⟨hb.1,hK _ hb.2⟩) ha) h|exact ⟨h.1,bound_mono (fun a ha=>bound_mono (fun b hb=>⟨hb.1,hK _ hb.2⟩) ha) h.2⟩|exact ⟨h.1,bound_mono (fun a ha=>bound_mono (fun b hb=>bound_mono (fun c hc=>⟨hc.1,hK _ hc.2⟩) hb) ha) h.2⟩
 case tas=>
  split at h<;>try (exact h.elim)
  split at h
  ·rename_i he;rw [if_pos he];exact hK _ h
  ·rename_i he;rw [if_neg he];exact hK _ h
 case ieq=>
  split at h<;>try (exact h.elim)
  ·split at h<;>try (exact h.elim)
   ·split at h
    ·rename_i he
     rw [if_pos he]
     split at h<;>try (exact h.elim)
     exact ⟨h.1,hK _ h.2⟩
    ·rename_i he
     rw [if_neg he]
     exact hK _ h
   ·exact hK _ h
  ·split at h<;>first|exact h.elim|exact hK _ h|(split at h<;>first|exact h.elim|exact hK _ h)
 case snil=>split at h<;>first|exact h.elim|(split at h<;>first|exact hK _ h|exact ⟨fun e=>hK _ (h.1 e),fun e=>hK _ (h.2 e)⟩)
 case pick=>split at h<;>first|exact h.elim|exact ⟨fun e=>hK _ (h.1 e),fun e=>hK _ (h.2 e)⟩
 all_goals first
  |exact hK _ h
  |exact ⟨h.1,hK _ h.2⟩
  |(split at h<;>first|exact h.elim|exact hK _ h|exact ⟨h.1,hK _ h.2⟩|(split at h<;>first|exact h.elim|exact ⟨h.1,hK _ h.2⟩|exact ⟨h.1,h.2.1,hK _ h.2.2⟩))
end Go.Sx
end
section
namespace Go.Sx
open Go
variable {P:Program} {main:Bool} {Fz:Nat→Prop}
inductive Call:Type 1 where
 |no
 |ro (p:Prop) (r:SV)
 |is (p:Prop) (r:SV) (m':List Res)
abbrev FH:=FuncId→List SV→List Res→Call
def Call.hook (c:Call) (m:List Res) (K:SV→List Res→Prop):Prop:=match c with
 | .no=>False
 | .ro p r=>p∧K r m
 | .is p r m'=>p∧K r m'
def FH.hook (Γ:FH):Hook:=fun f args m K=>(Γ f args m).hook m K
def Call.OK (P:Program) (main:Bool) (Fz:Nat→Prop) (f:FuncId) (args:List SV) (m:List Res):Call→Prop
 | .no=>True
 | .ro p r=>p→okFn P f=true∧CallStep P main Fz f args m r m
 | .is p r m'=>p→okFn P f=true∧CallStep P main Fz f args m r m'
def FHOK (P:Program) (main:Bool) (Fz:Nat→Prop) (Γ:FH):Prop:= ∀ f args m,(Γ f args m).OK P main Fz f args m
theorem FHOK.hook {Γ:FH} (h:FHOK P main Fz Γ):HookOK P main Fz Γ.hook:=by
 intro f args m K hh
 have:=h f args m
 unfold FH.hook at hh
 cases hc:Γ f args m with
 |no=>rw [hc] at hh;exact hh.elim
 |ro p r=>rw [hc] at hh this;obtain ⟨h1,h2⟩:=this hh.1;exact ⟨h1,r,m,hh.2,h2⟩
 |«is» p r m'=>rw [hc] at hh this;obtain ⟨h1,h2⟩:=this hh.1;exact ⟨h1,r,m',hh.2,h2⟩
def FH.none:FH:=fun _ _ _=> .no
theorem FH.none_ok:FHOK P main Fz FH.none:=fun _ _ _=>trivial
def FH.on (f:FuncId) (H:List SV→List Res→Call) (Γ:FH):FH:=fun g args m=>if g=f then H args m else Γ g args m
theorem FH.on_ok {f:FuncId} {H:List SV→List Res→Call} {Γ:FH} (hH:∀ args m,(H args m).OK P main Fz f args m) (hΓ:FHOK P main Fz Γ):FHOK P main Fz (FH.on f H Γ):=by
 intro g args m
 unfold FH.on
 split
 ·rename_i h;subst h;exact hH args m
 ·exact hΓ g args m
inductive SL:Type 1 where
 |nil
 |op (d:Option Nat) (x:IO1) (r:SL)
 |sc (or:Bool) (d s:Nat) (l:SL) (y:Opd) (r:SL)
 |scd (or:Bool) (d s:Nat) (l:SL) (y:Opd) (r:SL)
 |prune (ks:List Nat) (r:SL)
def SL.flat (g:Option (Nat×Bool)):SL→List IOp
 | .nil=>[]
 | .op d x r=>⟨d,g,x⟩::r.flat g
 | .sc or d s l y r=>l.flat (some (s,!or))++⟨some d,g, .p (.pick (.t s) (if or then .c (.bool true) else y) (if or then y else .c (.bool false)))⟩::r.flat g
 | .scd or d s l y r=>l.flat (some (s,!or))++⟨some d,g, .p (.pick (.t s) (if or then .c (.bool true) else y) (if or then y else .c (.bool false)))⟩::r.flat g
 | .prune _ r=>r.flat g
def SL.wfg (s d:Nat):SL→List Nat→Bool
 | .nil,_=>true
 | .op d' _ r,acc=>(match d' with
  |some k=>decide (s<k)&&decide (k<d)&&r.wfg s d (k::acc)
  |none=>false)
 | .sc _ d' s' l _ r,acc=>decide (s<d')&&decide (d'<d)&&decide (s<s')&&acc.contains s'&&acc.all (fun k=> !(decide (s'<k)&&decide (k<d')))&&l.wfg s' d' []&&r.wfg s d (d'::acc)
 | .scd ..,_=>false
 | .prune _ r,acc=>r.wfg s d acc
def SL.wf (n:Nat):SL→Bool
 | .nil=>true
 | .op d _ r=>(match d with
  |some k=>decide (k<n)
  |none=>true)&&r.wf n
 | .sc _ d s l _ r=>decide (d<n)&&l.wfg s d []&&r.wf n
 | .scd _ d _ l _ r=>decide (d<n)&&l.wf n&&r.wf n
 | .prune _ r=>r.wf n
def callG (c:Call) (K:SV→Prop×Bool):Prop×Bool:=match c with
 | .ro p r=>AV.need p (K r)
 |_=>AV.bad
def vop (Γ:FH) (m:List Res) (τ:Fr) (K:SV→Prop×Bool):IO1→Prop×Bool
 | .p p=>popG AV (Opd.fv τ) K p
 | .e (.load n ag x)=>peekG AV m n ag K (x.fv τ)
 | .e (.call f ys)=>AV.need ((ys.map (Opd.fv τ)).all SV.isVal=true) (callG (Γ f (ys.map (Opd.fv τ)) m) K)
 | .e (.qcall f ys)=>AV.need ((ys.map (Opd.fv τ)).all SV.isVal=true) (callG (Γ f (ys.map (Opd.fv τ)) m) K)
 | .e (.qtab l)=>K (.lst 1 (0:Int) (SV.int .i64) l)
 | .e (.mop k ys)=>AV.need ((ys.map (Opd.fv τ)).all SV.isVal=true) (mopG AV m k (ys.map (Opd.fv τ)) K)
 | .e (.callv x ys)=>match x.fv τ with
  | .fn f cap=>AV.need ((ys.map (Opd.fv τ)).all SV.isVal=true) (callG (Γ f (ys.map (Opd.fv τ)++cap) m) K)
  |_=>AV.bad
 |_=>AV.bad
def scG {α:Type} (A:Ans α) (or b:Bool) (K:Bool→α):Prop×Bool→α
 |(p,q)=>A.need (b=(!or)→p) (K (if or then b||q else b&&q))
def SL.vg (Γ:FH) (m:List Res):SL→Opd→Fr→Prop×Bool
 | .nil,y,τ=>match y.fv τ with
  | .bool b=>(True,b)
  |_=>AV.bad
 | .op d x r,y,τ=>vop Γ m τ (fun sv=>r.vg Γ m y (putF d sv τ)) x
 | .sc or d s l y' r,y,τ=>match look s τ with
  | .bool b=>scG AV or b (fun v=>r.vg Γ m y (.pick s d (.bool v) τ)) (l.vg Γ m y' τ)
  |_=>AV.bad
 | .scd ..,_,_=>AV.bad
 | .prune ks r,y,τ=>r.vg Γ m y (keepF ks τ)
def callC (c:Call) (K:SV→Prop→Prop):Prop→Prop:=match c with
 | .ro p r=>AC.need p (K r)
 |_=>AC.bad
def vopC (Γ:FH) (m:List Res) (τ:Fr) (K:SV→Prop→Prop):IO1→Prop→Prop
 | .p p=>popG AC (Opd.fv τ) K p
 | .e e=>match e with
  | .load n ag x=>peekG AC m n ag K (x.fv τ)
  | .call f ys=>AC.need ((ys.map (Opd.fv τ)).all SV.isVal=true) (callC (Γ f (ys.map (Opd.fv τ)) m) K)
  | .qcall f ys=>AC.need ((ys.map (Opd.fv τ)).all SV.isVal=true) (callC (Γ f (ys.map (Opd.fv τ)) m) K)
  | .qtab l=>K (.lst 1 (0:Int) (SV.int .i64) l)
  | .mop k ys=>AC.need ((ys.map (Opd.fv τ)).all SV.isVal=true) (mopG AC m k (ys.map (Opd.fv τ)) K)
  | .callv x ys=>match x.fv τ with
   | .fn f cap=>AC.need ((ys.map (Opd.fv τ)).all SV.isVal=true) (callC (Γ f (ys.map (Opd.fv τ)++cap) m) K)
   |_=>AC.bad
  |_=>AC.bad
def SL.vc (Γ:FH) (m:List Res):SL→Opd→Fr→(Bool→Prop→Prop)→Prop→Prop
 | .nil,y,τ,K,acc=>match y.fv τ with
  | .bool b=>K b acc
  |_=>False
 | .op d x r,y,τ,K,acc=>vopC Γ m τ (fun sv acc'=>r.vc Γ m y (putF d sv τ) K acc') x acc
 | .sc or d s l y' r,y,τ,K,acc=>match look s τ with
  | .bool b=>l.vc Γ m y' τ (fun q g=>r.vc Γ m y (.pick s d (.bool (if or then b||q else b&&q)) τ) K (acc∧(b=(!or)→g))) True
  |_=>False
 | .scd ..,_,_,_,_=>False
 | .prune ks r,y,τ,K,acc=>r.vc Γ m y (keepF ks τ) K acc
theorem rel_call {F:Bool→Prop→Prop} {K:SV→Prop→Prop} {K':SV→Prop×Bool} (hK:∀ sv,RelC F (K sv) (K' sv)) (c:Call):RelC F (callC c K) (callG c K'):=by
 cases c with
 |ro p r=>exact rel_need (hK _)
 |no=>exact rel_bad
 |«is» p r m=>exact rel_bad
theorem rel_vop {F:Bool→Prop→Prop} {Γ:FH} {m:List Res} {τ:Fr} {K:SV→Prop→Prop} {K':SV→Prop×Bool} (hK:∀ sv,RelC F (K sv) (K' sv)) (x:IO1):RelC F (vopC Γ m τ K x) (vop Γ m τ K' x):=by
 cases x with
 |p p=>exact rel_pop hK p
 |e e=>
  cases e<;>simp only [vopC,vop]<;>first
   |exact rel_bad
   |exact hK _
   |exact rel_peek hK _
   |exact rel_need (rel_call hK _)
   |exact rel_need (rel_mop hK)
   |(split<;>first|exact rel_bad|exact rel_need (rel_call hK _))
theorem rel_vc {Γ:FH} {m:List Res}:∀ (l:SL) (y:Opd) (τ:Fr) (F:Bool→Prop→Prop),RelC F (l.vc Γ m y τ F) (l.vg Γ m y τ)
 | .nil,y,τ,F=>by
  intro acc h
  simp only [SL.vc,SL.vg] at h ⊢
  split at h
  ·exact ⟨acc,h,fun g=>⟨g,trivial⟩⟩
  ·exact h.elim
 | .op d x r,y,τ,F=>rel_vop (fun sv=>rel_vc r y (putF d sv τ) F) x
 | .sc or d s l y' r,y,τ,F=>by
  intro acc h
  simp only [SL.vc,SL.vg] at h ⊢
  split at h
  ·rename_i b e
   obtain ⟨g,h1,h2⟩:=rel_vc l y' τ _ True h
   generalize l.vg Γ m y' τ=pq at h1 h2
   obtain ⟨p,q⟩:=pq
   obtain ⟨g2,h3,h4⟩:=rel_vc r y _ F _ h1
   exact ⟨g2,h3,fun hg=>⟨(h4 hg).1.1,fun hb=>(h2 ((h4 hg).1.2 hb)).2,(h4 hg).2⟩⟩
  ·exact h.elim
 | .scd ..,y,τ,F=>by intro acc h;exact h.elim
 | .prune ks r,y,τ,F=>rel_vc r y (keepF ks τ) F
theorem vc_use {Γ:FH} {m:List Res} {l:SL} {y:Opd} {τ:Fr} {B:Prop} {X:Bool→Prop} (h:l.vc Γ m y τ (fun q g=>(B→g)∧X q) True):(B→(l.vg Γ m y τ).1)∧X (l.vg Γ m y τ).2:=by
 obtain ⟨g,h1,h2⟩:=rel_vc l y τ _ True h
 exact ⟨fun hb=>(h2 (h1.1 hb)).2,h1.2⟩
def bslF (ev:Opd→SV) (w:Nat):List SV→List (Nat×Opd)→(List SV→Prop)→Prop
 |l,[],K=>K l
 |l,(k,x)::r,K=>(k<l.length∧(ev x).isVal=true∧wd (ev x)=w)∧bslF ev w (l.set k (ev x)) r K
def opF (Γ:FH) (dr:Bool) (τ:Fr) (m:List Res) (K:Fr→SV→List Res→Prop):IO1→Prop
 | .p p=>popG AP (Opd.fv τ) (fun sv=>K τ sv m) p
 | .e (.alloc T z)=>K τ (.ptr m.length [] 0) (m++[.blk T z])
 | .e (.box T x)=>(x.fv τ).isVal=true∧K τ (.ptr m.length [] 0) (m++[.blk T (x.fv τ)])
 | .e (.load n ag x)=>peekG AP m n ag (fun sv=>K τ sv m) (x.fv τ)
 | .e (.store n x v)=>poke m n (v.fv τ) (fun m'=>K τ .junk m') (x.fv τ)
 | .e (.bsl E w len z ys)=>bslF (Opd.fv τ) w (List.replicate len z) ys fun l=>K τ (.vec m.length len) (m++[.vec E w l])
 | .e (.mks E w by' z l c)=>match l.fv τ,c.fv τ with
  | .int _ a, .int _ b=>(0≤a∧a≤b∧b*by'≤140737488355328)∧K τ (.vec m.length a.toNat) (m++[.vec E w (List.replicate a.toNat z)])
  |_,_=>False
 | .e (.app E w by' s x)=>if dr then appM m E w by' (s.fv τ) (x.fv τ) (fun sv m'=>K τ sv m') else
  match srcL m w (x.fv τ) with
  |none=>False
  |some l2=>match s.fv τ with
   | .nils=>l2.length*by'≤140737488355328∧K τ (.vec m.length l2.length) (m++[.vec E w l2])
   | .vec i _=>match memAt m i with
    | .vec E' w' l=>((E'=E∧E<1000000)∧w'=w∧(l.length+l2.length)*by'≤140737488355328)∧
      K (killF i τ) (.vec i (l.length+l2.length)) ((m.map (killR i)).set i (.vec E w (killL i (l++l2))))
    |_=>False
   |_=>False
 | .e (.call f ys)=>(ys.map (Opd.fv τ)).all SV.isVal=true∧(Γ f (ys.map (Opd.fv τ)) m).hook m (fun sv m'=>K τ sv m')
 | .e (.qcall f ys)=>(ys.map (Opd.fv τ)).all SV.isVal=true∧(match Γ f (ys.map (Opd.fv τ)) m with
  | .ro p r=>p∧K τ r m
  |_=>False)
 | .e (.qtab l)=>K τ (.lst 1 (0:Int) (SV.int .i64) l) m
 | .e (.qbsl E w len z ys)=>bslF (Opd.fv τ) w (List.replicate len z) ys fun l=>datPL l∧K τ (qres w len l) m
 | .e (.mop k ys)=>(ys.map (Opd.fv τ)).all SV.isVal=true∧mopK m k (ys.map (Opd.fv τ)) (fun sv m'=>K τ sv m')
 | .e (.again n ag x d)=>(look d τ).isVal=true∧peekG AP m n ag (fun sv=>sv=look d τ∧K τ .junk m) (x.fv τ)
 | .e (.magain k ys d)=>(look d τ).isSet=true∧(ys.map (Opd.fv τ)).all SV.isVal=true∧mopK m k (ys.map (Opd.fv τ)) (fun sv m'=>(sv=look d τ∧m'=m)∧K τ .junk m)
 | .e (.icall tab x ys)=>match x.fv τ with
  | .iface t v=>match tabF tab t with
   |some f=>(ys.map (Opd.fv τ)).all SV.isVal=true∧(Γ f (v::ys.map (Opd.fv τ)) m).hook m (fun sv m'=>K τ sv m')
   |none=>False
  |_=>False
 | .e (.callv x ys)=>match x.fv τ with
  | .fn f cap=>(ys.map (Opd.fv τ)).all SV.isVal=true∧(Γ f (ys.map (Opd.fv τ)++cap) m).hook m (fun sv m'=>K τ sv m')
  |_=>False
def SL.wpg (Γ:FH) (dr:Bool) (s:Nat) (want:Bool):SL→(Fr→List Res→Prop)→Fr→List Res→Prop
 | .nil,K,τ,m=>look s τ= .bool want∧K τ m
 | .op d x r,K,τ,m=>look s τ= .bool want∧opF Γ dr τ m (fun τ' sv m'=>r.wpg Γ dr s want K (putF d sv τ') m') x
 | .sc ..,_,_,_=>False
 | .scd ..,_,_,_=>False
 | .prune ks r,K,τ,m=>r.wpg Γ dr s want K (keepF ks τ) m
def SL.wp (Γ:FH) (dr:Bool):SL→(Fr→List Res→Prop)→Fr→List Res→Prop
 | .nil,K,τ,m=>K τ m
 | .op d x r,K,τ,m=>opF Γ dr τ m (fun τ' sv m'=>r.wp Γ dr K (putF d sv τ') m') x
 | .sc or d s l y r,K,τ,m=>match look s τ with
  | .bool b=>l.vc Γ m y τ (fun q g=>(b=(!or)→g)∧r.wp Γ dr K (.pick s d (.bool (if or then b||q else b&&q)) τ) m) True
  |_=>False
 | .scd or d s l y r,K,τ,m=>match look s τ with
  | .bool b=>if b=or then l.wfg s d []=true∧r.wp Γ dr K (.pick s d (.bool or) τ) m else l.wpg Γ dr s (!or) (fun τ' m'=>match y.fv τ' with
   | .bool q=>r.wp Γ dr K (.pick s d (.bool q) τ') m'
   |_=>False) τ m
  |_=>False
 | .prune ks r,K,τ,m=>r.wp Γ dr K (keepF ks τ) m
theorem sops_append {Γ:Hook}:∀ (l1 l2:List IOp) (K:List SV→List Res→Prop) (σ:List SV) (m:List Res),sops Γ (l1++l2) K σ m=sops Γ l1 (fun σ' m'=>sops Γ l2 K σ' m') σ m
 |[],_,_,_,_=>rfl
 |o::l1,l2,K,σ,m=>by
  simp only [List.cons_append,sops,sops_append l1 l2]
theorem dsops_append {Γ:Hook}:∀ (l1 l2:List IOp) (K:List SV→List Res→Prop) (σ:List SV) (m:List Res),dsops Γ (l1++l2) K σ m=dsops Γ l1 (fun σ' m'=>dsops Γ l2 K σ' m') σ m
 |[],_,_,_,_=>rfl
 |o::l1,l2,K,σ,m=>by
  simp only [List.cons_append,dsops,dsops_append l1 l2]
def xops (dr:Bool) (Γ:Hook) (l:List IOp) (K:List SV→List Res→Prop) (σ:List SV) (m:List Res):Prop:=if dr then dsops Γ l K σ m else sops Γ l K σ m
theorem xops_append {dr:Bool} {Γ:Hook} (l1 l2:List IOp) (K:List SV→List Res→Prop) (σ:List SV) (m:List Res):xops dr Γ (l1++l2) K σ m=xops dr Γ l1 (fun σ' m'=>xops dr Γ l2 K σ' m') σ m:=by
 cases dr
 ·exact sops_append l1 l2 K σ m
 ·exact dsops_append l1 l2 K σ m
theorem xops_nil {dr:Bool} {Γ:Hook} {K:List SV→List Res→Prop} {σ:List SV} {m:List Res}:xops dr Γ [] K σ m=K σ m:=by cases dr<;>rfl
def xop (dr:Bool) (Γ:Hook) (σ:List SV) (m:List Res) (K:List SV→SV→List Res→Prop) (x:IO1):Prop:=if dr then dopK Γ σ m (fun sv m'=>K σ sv m') x else opK Γ σ m K x
theorem xops_cons {dr:Bool} {Γ:Hook} {o:IOp} {r:List IOp} {K:List SV→List Res→Prop} {σ:List SV} {m:List Res}:
  xops dr Γ (o::r) K σ m=guardK o.guard σ (fun σ1=>xop dr Γ σ1 m (fun σ' sv m'=>xops dr Γ r K (putS o.dst sv σ') m') o.op) (fun σ1=>xops dr Γ r K (putS o.dst (.tup []) σ1) m):=by
 cases dr<;>rfl
def Met (g:Option (Nat×Bool)) (σ:List SV):Prop:=match g with
 |none=>True
 |some (s,want)=>σ.getD s .junk= .bool want
def Unmet (g:Option (Nat×Bool)) (σ:List SV):Prop:=match g with
 |none=>False
 |some (s,want)=>σ.getD s .junk= .bool (!want)∨σ.getD s .junk= .tup []
theorem xops_met {dr:Bool} {Γ:Hook} {o:IOp} {r:List IOp} {K:List SV→List Res→Prop} {σ:List SV} {m:List Res} (hm:Met o.guard σ)
  (h:xop dr Γ σ m (fun σ' sv m'=>xops dr Γ r K (putS o.dst sv σ') m') o.op):xops dr Γ (o::r) K σ m:=by
 rw [xops_cons]
 cases hg:o.guard with
 |none=>exact h
 |some g=>
  obtain ⟨s,want⟩:=g
  rw [hg] at hm
  have hm:σ.getD s .junk= .bool want:=hm
  simp only [guardK,hm]
  exact ⟨fun _=>by rw [set_self hm];exact h,fun e=>absurd e (by cases want<;>simp)⟩
theorem xops_unmet {dr:Bool} {Γ:Hook} {o:IOp} {r:List IOp} {K:List SV→List Res→Prop} {σ:List SV} {m:List Res} (hm:Unmet o.guard σ)
  (h:xops dr Γ r K (putS o.dst (.tup []) σ) m):xops dr Γ (o::r) K σ m:=by
 rw [xops_cons]
 cases hg:o.guard with
 |none=>rw [hg] at hm;exact hm.elim
 |some g=>
  obtain ⟨s,want⟩:=g
  rw [hg] at hm
  rcases hm with hm|hm
  ·simp only [guardK,hm]
   exact ⟨fun e=>absurd e (by cases want<;>simp),fun _=>by rw [set_self hm];exact h⟩
  ·simp only [guardK,hm];exact h
def Out (s d:Nat) (σ σ':List SV):Prop:=σ'.length=σ.length∧∀ k,¬ (s<k∧k<d)→σ'.getD k .junk=σ.getD k .junk
theorem Out.refl (s d:Nat) (σ:List SV):Out s d σ σ:=⟨rfl,fun _ _=>rfl⟩
theorem Out.trans {s d:Nat} {σ σ' σ'':List SV} (h:Out s d σ σ') (k:Out s d σ' σ''):Out s d σ σ'':=⟨k.1.trans h.1,fun i hi=>(k.2 i hi).trans (h.2 i hi)⟩
theorem getD_set_ne {σ:List SV} {a b:Nat} {x:SV} (h:b≠a):(σ.set a x).getD b .junk=σ.getD b .junk:=by
 rw [List.getD,List.getD,List.getElem?_set,if_neg (fun e=>h e.symm)]
theorem getD_set_eq {σ:List SV} {a:Nat} {x:SV} (h:a<σ.length):(σ.set a x).getD a .junk=x:=by simp [List.getD,h]
theorem Out.set {s d:Nat} {σ:List SV} {k:Nat} {x:SV} (h:s<k∧k<d):Out s d σ (σ.set k x):=
 ⟨by simp,fun i hi=>getD_set_ne (fun e=>hi (e▸h))⟩
theorem Out.wider {s d s' d':Nat} {σ σ':List SV} (h:Out s' d' σ σ') (hs:s≤s') (hd:d'≤d):Out s d σ σ':=⟨h.1,fun k hk=>h.2 k (fun e=>hk ⟨by omega,by omega⟩)⟩
theorem skip_ok {dr:Bool} {Γ:Hook} {m:List Res}:∀ (l:SL) (s d:Nat) (want:Bool) (acc:List Nat) (σ:List SV) (K:List SV→List Res→Prop),l.wfg s d acc=true→d≤σ.length→Unmet (some (s,want)) σ→(∀ k∈acc,σ.getD k .junk= .tup [])→
  (∀ σ',Out s d σ σ'→K σ' m)→xops dr Γ (l.flat (some (s,want))) K σ m
 | .nil,s,d,want,acc,σ,K,_,_,_,_,hK=>by rw [SL.flat,xops_nil];exact hK σ (Out.refl ..)
 | .op d' x r,s,d,want,acc,σ,K,hw,hn,hu,ha,hK=>by
  cases d' with
  |none=>simp [SL.wfg] at hw
  |some k=>
   simp only [SL.wfg,Bool.and_eq_true,decide_eq_true_eq] at hw
   obtain ⟨⟨h1,h2⟩,h3⟩:=hw
   rw [SL.flat]
   refine xops_unmet hu ?_
   have hs:(σ.set k (.tup [])).getD s .junk=σ.getD s .junk:=getD_set_ne (by omega)
   refine skip_ok r s d want (k::acc) (σ.set k (.tup [])) K h3 (by simpa using hn) (by simp only [Unmet,hs];exact hu) (fun j hj=> ?_) fun σ' h=>hK σ' ((Out.set ⟨h1,h2⟩).trans h)
   by_cases e:j=k
   ·subst e;exact getD_set_eq (by omega)
   ·rw [getD_set_ne e];exact ha j (by simpa [e] using hj)
 | .sc or d' s' l y r,s,d,want,acc,σ,K,hw,hn,hu,ha,hK=>by
  simp only [SL.wfg,Bool.and_eq_true,decide_eq_true_eq] at hw
  obtain ⟨⟨⟨⟨⟨⟨h1,h2⟩,h0⟩,h3⟩,h6⟩,h4⟩,h5⟩:=hw
  rw [SL.flat,xops_append]
  have hs':σ.getD s' .junk= .tup []:=ha s' (by simpa using h3)
  refine skip_ok l s' d' (!or) [] σ _ h4 (by omega) (.inr hs') (fun k hk=>by cases hk) fun σ1 ho=> ?_
  have ho':Out s d σ σ1:=ho.wider (by omega) (by omega)
  have hu':Unmet (some (s,want)) σ1:=by simp only [Unmet];rw [ho'.2 s (by omega)];exact hu
  refine xops_unmet hu' ?_
  have hs:(σ1.set d' (.tup [])).getD s .junk=σ1.getD s .junk:=getD_set_ne (by omega)
  refine skip_ok r s d want (d'::acc) (σ1.set d' (.tup [])) K h5 (by simp [ho.1];omega) (by simp only [Unmet,hs];exact hu') (fun j hj=> ?_) fun σ' h=>hK σ' ((ho'.trans (Out.set ⟨h1,h2⟩)).trans h)
  by_cases e:j=d'
  ·subst e;exact getD_set_eq (by rw [ho.1];omega)
  ·rw [getD_set_ne e]
   have hj':j∈acc:=by simpa [e] using hj
   have:=List.all_eq_true.1 h6 j hj'
   simp only [Bool.not_eq_true',Bool.and_eq_false_iff,decide_eq_false_iff_not] at this
   rw [ho.2 j (by omega)]
   exact ha j hj'
 | .scd ..,s,d,want,acc,σ,K,hw,hn,hu,ha,hK=>by simp [SL.wfg] at hw
 | .prune _ r,s,d,want,acc,σ,K,hw,hn,hu,ha,hK=>skip_ok r s d want acc σ K hw hn hu ha hK
theorem Rep.prune {n:Nat} {σ:List SV} {τ:Fr} (h:Rep n σ τ) (ks:List Nat):Rep n σ (keepF ks τ):=by
 refine ⟨h.1,fun k=> ?_⟩
 rcases look_keep (k:=k) (τ:=τ) ks with e|e
 ·exact .inl e
 ·rw [e];exact h.2 k
theorem xop_pure {dr:Bool} {Γ:Hook} {σ:List SV} {m:List Res} {K:List SV→SV→List Res→Prop} {p:PIO} (h:popK σ (fun sv=>K σ sv m) p):xop dr Γ σ m K (.p p):=by cases dr<;>exact h
theorem xop_load {dr:Bool} {Γ:Hook} {σ:List SV} {m:List Res} {K:List SV→SV→List Res→Prop} {n:Nat} {ag:Bool} {x:Opd} (h:peek m n ag (fun sv=>K σ sv m) (x.ev σ)):xop dr Γ σ m K (.e (.load n ag x)):=by cases dr<;>exact h
theorem xop_call {dr:Bool} {Γ:Hook} {σ:List SV} {m:List Res} {K:List SV→SV→List Res→Prop} {f:FuncId} {ys:List Opd} (h1:(ys.map (·.ev σ)).all SV.isVal=true) (h:Γ f (ys.map (·.ev σ)) m fun sv m'=>K σ sv m'):xop dr Γ σ m K (.e (.call f ys)):=by cases dr<;>exact ⟨h1,h⟩
theorem xop_qcall {dr:Bool} {Γ:Hook} {σ:List SV} {m:List Res} {K:List SV→SV→List Res→Prop} {f:FuncId} {ys:List Opd} (h1:(ys.map (·.ev σ)).all SV.isVal=true) (h:Γ f (ys.map (·.ev σ)) m fun sv m'=>m'=m∧K σ sv m):xop dr Γ σ m K (.e (.qcall f ys)):=by cases dr<;>exact ⟨h1,h⟩
theorem callG_ok {Γ:FH} {f:FuncId} {args:List SV} {m:List Res} {K:SV→Prop×Bool} {r:Prop×Bool} (hr:callG (Γ f args m) K=r) (h:r.1):∃ sv,(K sv).1∧r.2=(K sv).2∧(∀ K':SV→List Res→Prop,K' sv m→Γ.hook f args m K'):=by
 subst hr
 cases hc:Γ f args m with
 |no=>rw [hc] at h;exact h.elim
 |ro p x=>
  rw [hc] at h
  refine ⟨x,h.2,rfl,fun K' hK=> ?_⟩
  unfold FH.hook;rw [hc];exact ⟨h.1,hK⟩
 |«is» p x m'=>rw [hc] at h;exact h.elim
theorem vop_ok {dr:Bool} {Γ:FH} {n:Nat} {m:List Res} {τ:Fr} {σ:List SV} (hr:Rep n σ τ) {K:SV→Prop×Bool} (x:IO1) (h:(vop Γ m τ K x).1):
  ∃ sv,(K sv).1∧(vop Γ m τ K x).2=(K sv).2∧∀ K':List SV→SV→List Res→Prop,(∀ sv',Le sv sv'→K' σ sv' m)→xop dr Γ.hook σ m K' x:=by
 have hev:∀ x:Opd,Le (x.fv τ) (x.ev σ):=hr.fv
 cases x with
 |p p=>
  obtain ⟨sv,h1,h2,h3⟩:=popG_ok okV hev p rfl h
  exact ⟨sv,h1,h2,fun K' hK=>xop_pure (popK_mono (fun x hx=>hK x hx) h3)⟩
 |e e=>
  cases e with
  |load n ag x=>
   obtain ⟨hv,sv,h1,h2,h3⟩:=peekG_ok okV rfl h
   refine ⟨sv,h1,h2,fun K' hK=>xop_load ?_⟩
   rw [le_val (hev x) hv]
   exact peek_mono (fun x hx=>hK x hx) h3
  |call f ys=>
   obtain ⟨h0,h1,h2⟩:=okV.need _ _ h
   obtain ⟨sv,k1,k2,k3⟩:=callG_ok rfl h1
   have he:=evs_val hev ys h0
   refine ⟨sv,k1,h2.trans k2,fun K' hK=>xop_call (by rw [he];exact h0) ?_⟩
   rw [he]
   exact k3 _ (hK sv (Le.refl _))
  |qcall f ys=>
   obtain ⟨h0,h1,h2⟩:=okV.need _ _ h
   obtain ⟨sv,k1,k2,k3⟩:=callG_ok rfl h1
   have he:=evs_val hev ys h0
   refine ⟨sv,k1,h2.trans k2,fun K' hK=>xop_qcall (by rw [he];exact h0) ?_⟩
   rw [he]
   exact k3 _ ⟨rfl,hK sv (Le.refl _)⟩
  |qtab l=>exact ⟨_,h,rfl,fun K' hK=>by cases dr<;>exact hK _ (Le.refl _)⟩
  |mop k ys=>
   obtain ⟨h0,h1,h2⟩:=okV.need _ _ h
   obtain ⟨sv,k1,k2,k3⟩:=mopG_ok okV rfl h1
   have he:=evs_val hev ys h0
   refine ⟨sv,k1,h2.trans k2,fun K' hK=> ?_⟩
   have k:=k3 (fun sv m'=>K' σ sv m') (hK sv (Le.refl _))
   rw [← he] at k h0
   cases dr<;>exact ⟨h0,k⟩
  |callv x ys=>
   simp only [vop] at h ⊢
   split at h
   ·rename_i f cap e1
    have f1:=le_eq (hev x) e1 (by intro h;cases h)
    obtain ⟨h0,h1,h2⟩:=okV.need _ _ h
    obtain ⟨sv,k1,k2,k3⟩:=callG_ok rfl h1
    have he:=evs_val hev ys h0
    refine ⟨sv,k1,h2.trans k2,fun K' hK=> ?_⟩
    have k:FH.hook Γ f (ys.map (·.ev σ)++cap) m fun sv m'=>K' σ sv m':=by
     rw [he]
     exact k3 _ (hK sv (Le.refl _))
    have h1:(ys.map (·.ev σ)).all SV.isVal=true:=by rw [he];exact h0
    cases dr<;>simp only [xop,opK,dopK,eopK,f1]<;>exact ⟨h1,k⟩
   ·exact h.elim
  |_=>exact h.elim
theorem Rep.pick {n:Nat} {σ σ':List SV} {τ:Fr} (h:Rep n σ τ) {s d:Nat} (hd:d<n) (ho:Out s d σ σ') {x:SV}:Rep n (σ'.set d x) (.pick s d x τ):=by
 refine ⟨by simp [ho.1,h.1],fun k=> ?_⟩
 simp only [look]
 by_cases hk:k=d
 ·subst hk
  rw [if_pos rfl]
  exact .inr ⟨hd,(getD_set_eq (by rw [ho.1,h.1];exact hd)).symm⟩
 ·rw [if_neg hk]
  by_cases hb:s<k∧k<d
  ·rw [if_pos hb];exact .inl rfl
  ·rw [if_neg hb,getD_set_ne hk,ho.2 k hb];exact h.2 k
theorem vg_ok {dr:Bool} {Γ:FH} {n:Nat} {m:List Res}:∀ (l:SL) (s d:Nat) (want:Bool) (acc:List Nat) (y:Opd) (τ:Fr) (σ:List SV) (K:List SV→List Res→Prop),l.wfg s d acc=true→d≤n→Rep n σ τ→σ.getD s .junk= .bool want→
  (l.vg Γ m y τ).1→(∀ σ',Out s d σ σ'→y.ev σ'= .bool (l.vg Γ m y τ).2→K σ' m)→xops dr Γ.hook (l.flat (some (s,want))) K σ m
 | .nil,s,d,want,acc,y,τ,σ,K,_,_,hr,_,h,hK=>by
  rw [SL.flat,xops_nil]
  simp only [SL.vg] at h hK
  split at h
  ·rename_i b e
   exact hK σ (Out.refl ..) (by rw [e];exact le_eq (hr.fv y) e (by intro h;cases h))
  ·exact h.elim
 | .op d' x r,s,d,want,acc,y,τ,σ,K,hw,hn,hr,hs,h,hK=>by
  cases d' with
  |none=>simp [SL.wfg] at hw
  |some k=>
   simp only [SL.wfg,Bool.and_eq_true,decide_eq_true_eq] at hw
   obtain ⟨⟨h1,h2⟩,h3⟩:=hw
   rw [SL.flat]
   simp only [SL.vg] at h hK
   obtain ⟨sv,g1,g2,g3⟩:=vop_ok (dr:=dr) hr x h
   refine xops_met hs (g3 _ fun sv' hle=> ?_)
   refine vg_ok r s d want (k::acc) y (putF (some k) sv τ) (σ.set k sv') K h3 hn (hr.put (by omega) hle) (by rw [getD_set_ne (by omega)];exact hs) g1 fun σ' ho e=> ?_
   exact hK σ' ((Out.set ⟨h1,h2⟩).trans ho) (by rw [e,g2])
 | .sc or d' s' l y' r,s,d,want,acc,y,τ,σ,K,hw,hn,hr,hs,h,hK=>by
  simp only [SL.wfg,Bool.and_eq_true,decide_eq_true_eq] at hw
  obtain ⟨⟨⟨⟨⟨⟨h1,h2⟩,h0⟩,h3⟩,h6⟩,h4⟩,h5⟩:=hw
  rw [SL.flat,xops_append]
  simp only [SL.vg] at h hK
  split at h
  ·rename_i b e
   simp only [e] at hK
   have hb:σ.getD s' .junk= .bool b:=le_eq (hr.le s') e (by intro h;cases h)
   generalize he:l.vg Γ m y' τ=pq at h hK
   obtain ⟨p,q⟩:=pq
   simp only [scG] at h hK
   obtain ⟨g1,g2⟩:(b=(!or)→p)∧(r.vg Γ m y (.pick s' d' (.bool (if or=true then b||q else b&&q)) τ)).1:=h
   have fin:∀ σ1,Out s' d' σ σ1→σ1.getD s' .junk= .bool b∧(b=(!or)→y'.ev σ1= .bool q)→
     xops dr Γ.hook (⟨some d',some (s,want), .p (.pick (.t s') (if or then .c (.bool true) else y') (if or then y' else .c (.bool false)))⟩::r.flat (some (s,want))) K σ1 m:=by
    rintro σ1 ho ⟨hs1,hy⟩
    have ho':Out s d σ σ1:=ho.wider (by omega) (by omega)
    refine xops_met (show σ1.getD s .junk= .bool want by rw [ho'.2 s (by omega)];exact hs) (xop_pure ?_)
    have key:K=K:=rfl
    have next:xops dr Γ.hook (r.flat (some (s,want))) K (σ1.set d' (.bool (if or=true then b||q else b&&q))) m:=by
     refine vg_ok r s d want (d'::acc) y (.pick s' d' (.bool (if or=true then b||q else b&&q)) τ) _ K h5 hn (hr.pick (by omega) ho) ?_ g2 fun σ' ho2 e2=> ?_
     ·rw [getD_set_ne (by omega),ho'.2 s (by omega)];exact hs
     ·exact hK σ' ((ho'.trans (Out.set ⟨h1,h2⟩)).trans ho2) e2
    have hs1':Opd.ev σ1 (.t s')= .bool b:=hs1
    simp only [popK,hs1']
    cases or<;>cases b
    ·simpa [putS,Opd.ev] using next
    ·simpa [putS,hy rfl] using next
    ·simpa [putS,hy rfl] using next
    ·simpa [putS,Opd.ev] using next
   by_cases hbo:b=(!or)
   ·refine vg_ok l s' d' (!or) [] y' τ σ _ h4 (by omega) hr (by rw [hb,hbo]) (by rw [he];exact g1 hbo) fun σ1 ho e1=> ?_
    rw [he] at e1
    exact fin σ1 ho ⟨by rw [ho.2 s' (by omega)];exact hb,fun _=>e1⟩
   ·have hbo':b=or:=by cases b<;>cases or<;>first|rfl|exact absurd rfl hbo
    refine skip_ok l s' d' (!or) [] σ _ h4 (by rw [hr.1];omega) (.inl (by rw [hb,hbo'];simp)) (fun k hk=>by cases hk) fun σ1 ho=> ?_
    exact fin σ1 ho ⟨by rw [ho.2 s' (by omega)];exact hb,fun e=>absurd e hbo⟩
  ·exact h.elim
 | .scd ..,s,d,want,acc,y,τ,σ,K,hw,hn,hr,hs,h,hK=>by simp [SL.wfg] at hw
 | .prune ks r,s,d,want,acc,y,τ,σ,K,hw,hn,hr,hs,h,hK=>vg_ok r s d want acc y _ σ K hw hn (hr.prune ks) hs h hK
theorem bslF_ok {ev:Opd→SV} {σ:List SV} (hev:∀ x:Opd,Le (ev x) (x.ev σ)) {w:Nat} {K:List SV→Prop}:∀ (ys:List (Nat×Opd)) (l:List SV),bslF ev w l ys K→bslParts σ w l ys K
 |[],_,h=>h
 |(k,x)::ys,l,h=>by
  simp only [bslF] at h
  have e:=le_val (hev x) h.1.2.1
  simp only [bslParts,e]
  exact ⟨h.1,bslF_ok hev ys _ h.2⟩
theorem poke_mono {m:List Res} {n:Nat} {v:SV} {K K':List Res→Prop} (hK:∀ x,K x→K' x) {x:SV} (hh:poke m n v K x):x.isVal=true∧v.isVal=true∧poke m n v K' x:=by
 cases x<;>simp only [poke] at hh ⊢ <;>first
  |exact hh.elim
  |(split at hh<;>first|exact hh.elim|exact ⟨rfl,hh.1.2.2.2,hh.1,hK _ hh.2⟩|exact ⟨rfl,hh.1.2.2.2.2,hh.1,hK _ hh.2⟩)
theorem hook_mono {c:Call} {m:List Res} {K K':SV→List Res→Prop} (hK:∀ x m,K x m→K' x m) (h:c.hook m K):c.hook m K':=by
 cases c<;>simp only [Call.hook] at h ⊢
 ·exact ⟨h.1,hK _ _ h.2⟩
 ·exact ⟨h.1,hK _ _ h.2⟩
theorem srcL_val {m:List Res} {w:Nat} {x:SV} {l:List SV} (h:srcL m w x=some l):x.isVal=true:=by
 cases x<;>simp [srcL] at h<;>rfl
theorem opF_ok {dr:Bool} {Γ:FH} {n:Nat} {m:List Res} {τ:Fr} {σ:List SV} (hr:Rep n σ τ) {K:Fr→SV→List Res→Prop} (x:IO1) (h:opF Γ dr τ m K x):
  ∀ K':List SV→SV→List Res→Prop,(∀ σ' τ' sv sv' m',Rep n σ' τ'→Le sv sv'→K τ' sv m'→K' σ' sv' m')→xop dr Γ.hook σ m K' x:=by
 intro K' hK
 have hev:∀ x:Opd,Le (x.fv τ) (x.ev σ):=hr.fv
 have two:∀ {x y:Opd} {a b:SV},x.fv τ=a→y.fv τ=b→a≠ .junk→b≠ .junk→x.ev σ=a∧y.ev σ=b:=fun h1 h2 h3 h4=>⟨le_eq (hev _) h1 h3,le_eq (hev _) h2 h4⟩
 cases x with
 |p p=>
  have h:popG AP (Opd.fv τ) (fun sv=>K τ sv m) p:=h
  obtain ⟨sv,h1,_,h3⟩:=popG_ok okP hev p rfl h
  exact xop_pure (popK_mono (fun x hx=>hK σ τ sv x m hr hx h1) h3)
 |e e=>
  cases e with
  |alloc T z=>
   have:=hK _ _ _ _ _ hr (Le.refl _) h
   cases dr<;>exact this
  |box T x=>
   have e:=le_val (hev x) h.1
   have k:K' σ (.ptr m.length [] 0) (m++[.blk T (x.fv τ)]):=hK _ _ _ _ _ hr (Le.refl _) h.2
   rw [← e] at k
   cases dr<;>exact ⟨by rw [e];exact h.1,k⟩
  |load n ag x=>
   have h:peekG AP m n ag (fun sv=>K τ sv m) (x.fv τ):=h
   obtain ⟨hv,sv,h1,_,h3⟩:=peekG_ok okP rfl h
   refine xop_load ?_
   rw [le_val (hev x) hv]
   exact peek_mono (fun x hx=>hK _ _ _ _ _ hr hx h1) h3
  |store n x v=>
   obtain ⟨h1,h2,h3⟩:=poke_mono (fun m' hm=>hK σ τ .junk .junk m' hr (Le.refl _) hm) h
   rw [← le_val (hev x) h1,← le_val (hev v) h2] at h3
   cases dr<;>exact h3
  |bsl E w len z ys=>
   have k:=bslF_ok hev ys _ h
   have:bslParts σ w (List.replicate len z) ys fun l=>K' σ (.vec m.length len) (m++[.vec E w l]):=by
    obtain ⟨k1,k2⟩:=bslParts_end ys _ k
    exact bsl_mk ys _ (hK _ _ _ _ _ hr (Le.refl _) k1) k2
   cases dr<;>exact this
  |mks E w by' z l c=>
   simp only [opF] at h
   split at h
   ·rename_i e1 e2
    obtain ⟨f1,f2⟩:=two e1 e2 (by intro h;cases h) (by intro h;cases h)
    have k:=hK _ _ _ _ _ hr (Le.refl _) h.2
    cases dr<;>simp only [xop,opK,dopK,eopK,f1,f2]<;>exact ⟨h.1,k⟩
   ·exact h.elim
  |app E w by' s x=>
   simp only [opF] at h
   cases dr with
   |true=>
    simp only [if_true,appM] at h
    show appM m E w by' (s.ev σ) (x.ev σ) (fun sv m'=>K' σ sv m')
    unfold appM
    split at h
    ·exact h.elim
    ·rename_i l2 e1
     have e1':=e1
     rw [← le_val (hev x) (srcL_val e1)] at e1'
     rw [e1']
     simp only
     split at h
     ·rename_i e2
      rw [le_eq (hev s) e2 (by intro h;cases h)]
      exact ⟨h.1,hK _ _ _ _ _ hr (Le.refl _) h.2⟩
     ·rename_i i k e2
      rw [le_eq (hev s) e2 (by intro h;cases h)]
      simp only
      split at h
      ·rename_i e3
       try rw [e3]
       exact ⟨h.1,hK _ _ _ _ _ hr (Le.refl _) h.2⟩
      ·exact h.elim
     ·rename_i e2
      rw [le_eq (hev s) e2 (by intro h;cases h)]
      simp only
      split at h
      ·rename_i hem
       rw [if_pos hem]
       exact ⟨h.1,hK _ _ _ _ _ hr (Le.refl _) h.2⟩
      ·rename_i hem
       rw [if_neg hem]
       exact ⟨h.1,hK _ _ _ _ _ hr (Le.refl _) h.2⟩
     ·exact h.elim
   |false=>
    simp only [Bool.false_eq_true,if_false] at h
    show appK σ m E w by' (s.ev σ) (x.ev σ) K'
    unfold appK
    split at h
    ·exact h.elim
    ·rename_i l2 e1
     have e1':=e1
     rw [← le_val (hev x) (srcL_val e1)] at e1'
     rw [e1']
     simp only
     split at h
     ·rename_i e2
      rw [le_eq (hev s) e2 (by intro h;cases h)]
      exact ⟨h.1,hK _ _ _ _ _ hr (Le.refl _) h.2⟩
     ·rename_i i k e2
      rw [le_eq (hev s) e2 (by intro h;cases h)]
      simp only
      split at h
      ·rename_i e3
       try rw [e3]
       exact ⟨h.1,hK _ _ _ _ _ hr.kill (Le.refl _) h.2⟩
      ·exact h.elim
     ·exact h.elim
  |call f ys=>
   have he:=evs_val hev ys h.1
   refine xop_call (by rw [he];exact h.1) ?_
   rw [he]
   exact hook_mono (fun x m' hx=>hK _ _ _ _ _ hr (Le.refl _) hx) h.2
  |qcall f ys=>
   have he:=evs_val hev ys h.1
   refine xop_qcall (by rw [he];exact h.1) ?_
   rw [he]
   have h2:=h.2
   split at h2
   ·rename_i p r e
    unfold FH.hook
    rw [e]
    exact ⟨h2.1,rfl,hK _ _ _ _ _ hr (Le.refl _) h2.2⟩
   ·exact h2.elim
  |qtab l=>
   have:=hK _ _ _ _ _ hr (Le.refl _) h
   cases dr<;>exact this
  |qbsl E w len z ys=>
   have k:=bslF_ok hev ys _ h
   have:bslParts σ w (List.replicate len z) ys fun l=>datPL l∧K' σ (qres w len l) m:=by
    obtain ⟨k1,k2⟩:=bslParts_end ys _ k
    exact bsl_mk ys _ ⟨k1.1,hK _ _ _ _ _ hr (Le.refl _) k1.2⟩ k2
   cases dr<;>exact this
  |mop k ys=>
   obtain ⟨h0,h⟩:=h
   have k:=mopK_mono (fun x m' hx=>hK _ _ _ _ _ hr (Le.refl _) hx) h
   rw [← evs_val hev ys h0] at k h0
   cases dr<;>exact ⟨h0,k⟩
  |callv x ys=>
   simp only [opF] at h
   split at h
   ·rename_i f cap e1
    have f1:=le_eq (hev x) e1 (by intro h;cases h)
    have he:=evs_val hev ys h.1
    have k:FH.hook Γ f (ys.map (·.ev σ)++cap) m fun sv m'=>K' σ sv m':=by
     rw [he]
     exact hook_mono (fun x m' hx=>hK _ _ _ _ _ hr (Le.refl _) hx) h.2
    have h1:(ys.map (·.ev σ)).all SV.isVal=true:=by rw [he];exact h.1
    cases dr<;>simp only [xop,opK,dopK,eopK,f1]<;>exact ⟨h1,k⟩
   ·exact h.elim
  |icall tab x ys=>
   simp only [opF] at h
   split at h
   ·rename_i t v e1
    split at h
    ·rename_i f hta
     have f1:=le_eq (hev x) e1 (by intro h;cases h)
     have he:=evs_val hev ys h.1
     have k:FH.hook Γ f (v::ys.map (·.ev σ)) m fun sv m'=>K' σ sv m':=by
      rw [he]
      exact hook_mono (fun x m' hx=>hK _ _ _ _ _ hr (Le.refl _) hx) h.2
     have h1:(ys.map (·.ev σ)).all SV.isVal=true:=by rw [he];exact h.1
     cases dr<;>simp only [xop,opK,dopK,eopK,f1,hta]<;>exact ⟨h1,k⟩
    ·exact h.elim
   ·exact h.elim
  |again n ag x d=>
   obtain ⟨hd,h⟩:=h
   have h:peekG AP m n ag (fun sv=>sv=look d τ∧K τ .junk m) (x.fv τ):=h
   have ed:σ.getD d .junk=look d τ:=le_val (hr.le d) hd
   obtain ⟨hv,sv,⟨e1,h1⟩,_,h3⟩:=peekG_ok okP rfl h
   have key:peek m n ag (fun y=>y=σ.getD d .junk∧K' σ .junk m) (x.ev σ):=by
    rw [le_val (hev x) hv]
    exact peek_mono (fun y hy=>⟨by rw [ed,← e1];exact le_val hy (by rw [e1];exact hd),hK _ _ _ _ _ hr (Le.refl _) h1⟩) h3
   cases dr<;>exact ⟨by rw [ed];exact hd,key⟩
  |magain k ys d=>
   obtain ⟨hd,h0,h⟩:=h
   have ed:σ.getD d .junk=look d τ:=le_eq (hr.le d) rfl (fun e=>by rw [e] at hd;cases hd)
   have k1:=mopK_mono (K':=fun sv m'=>(sv=σ.getD d .junk∧m'=m)∧K' σ .junk m) (fun x m' hx=>⟨⟨by rw [ed];exact hx.1.1,hx.1.2⟩,hK _ _ _ _ _ hr (Le.refl _) hx.2⟩) h
   rw [← evs_val hev ys h0] at k1 h0
   cases dr<;>exact ⟨by rw [ed];exact hd,h0,k1⟩
where bsl_mk {σ:List SV} {w:Nat} {K:List SV→Prop}:∀ (ys:List (Nat×Opd)) (l:List SV),K (bslEnd σ l ys)→bslParts σ w l ys (fun _=>True)→bslParts σ w l ys K
 |[],_,hk,_=>hk
 |(_,_)::ys,_,hk,h=>⟨h.1,bsl_mk ys _ hk h.2⟩
theorem wpg_ok {dr:Bool} {Γ:FH} {n s:Nat} {want:Bool}:∀ (l:SL) (τ:Fr) (σ:List SV) (m:List Res) (K:Fr→List Res→Prop) (K':List SV→List Res→Prop),l.wf n=true→Rep n σ τ→l.wpg Γ dr s want K τ m→
  (∀ σ' τ' m',Rep n σ' τ'→look s τ'= .bool want→K τ' m'→K' σ' m')→xops dr Γ.hook (l.flat (some (s,want))) K' σ m
 | .nil,τ,σ,m,K,K',_,hr,h,hK=>by rw [SL.flat,xops_nil];exact hK σ τ m hr h.1 h.2
 | .op d x r,τ,σ,m,K,K',hw,hr,h,hK=>by
  simp only [SL.wf,Bool.and_eq_true] at hw
  rw [SL.flat]
  simp only [SL.wpg] at h
  have hs:σ.getD s .junk= .bool want:=le_eq (hr.le s) h.1 (by intro h;cases h)
  refine xops_met (o:=⟨d,some (s,want),x⟩) hs (opF_ok hr x h.2 _ fun σ' τ' sv sv' m' hr' hle hk=> ?_)
  refine wpg_ok r (putF d sv τ') (putS d sv' σ') m' K K' hw.2 (hr'.putF ?_ hle) hk hK
  intro k hk
  have:=hw.1
  rw [hk] at this
  simpa using this
 | .sc ..,τ,σ,m,K,K',hw,hr,h,hK=>h.elim
 | .scd ..,τ,σ,m,K,K',hw,hr,h,hK=>h.elim
 | .prune ks r,τ,σ,m,K,K',hw,hr,h,hK=>wpg_ok r _ σ m K K' hw (hr.prune ks) h hK
theorem wp_ok {dr:Bool} {Γ:FH} {n:Nat}:∀ (l:SL) (τ:Fr) (σ:List SV) (m:List Res) (K:Fr→List Res→Prop) (K':List SV→List Res→Prop),l.wf n=true→Rep n σ τ→l.wp Γ dr K τ m→(∀ σ' τ' m',Rep n σ' τ'→K τ' m'→K' σ' m')→
  xops dr Γ.hook (l.flat none) K' σ m
 | .nil,τ,σ,m,K,K',_,hr,h,hK=>by rw [SL.flat,xops_nil];exact hK σ τ m hr h
 | .op d x r,τ,σ,m,K,K',hw,hr,h,hK=>by
  simp only [SL.wf,Bool.and_eq_true] at hw
  rw [SL.flat]
  simp only [SL.wp] at h
  refine xops_met (o:=⟨d,none,x⟩) trivial (opF_ok hr x h _ fun σ' τ' sv sv' m' hr' hle hk=> ?_)
  refine wp_ok r (putF d sv τ') (putS d sv' σ') m' K K' hw.2 (hr'.putF ?_ hle) hk hK
  intro k hk
  have:=hw.1
  rw [hk] at this
  simpa using this
 | .sc or d s l y r,τ,σ,m,K,K',hw,hr,h,hK=>by
  simp only [SL.wf,Bool.and_eq_true,decide_eq_true_eq] at hw
  obtain ⟨⟨hd,h4⟩,h5⟩:=hw
  rw [SL.flat,xops_append]
  simp only [SL.wp] at h
  split at h
  ·rename_i b e
   have hb:σ.getD s .junk= .bool b:=le_eq (hr.le s) e (by intro h;cases h)
   replace h:=vc_use h
   generalize he:l.vg Γ m y τ=pq at h
   obtain ⟨p,q⟩:=pq
   obtain ⟨g1,g2⟩:(b=(!or)→p)∧r.wp Γ dr K (.pick s d (.bool (if or=true then b||q else b&&q)) τ) m:=h
   have fin:∀ σ1,Out s d σ σ1→σ1.getD s .junk= .bool b∧(b=(!or)→y.ev σ1= .bool q)→
     xops dr Γ.hook (⟨some d,none, .p (.pick (.t s) (if or then .c (.bool true) else y) (if or then y else .c (.bool false)))⟩::r.flat none) K' σ1 m:=by
    rintro σ1 ho ⟨hs1,hy⟩
    refine xops_met (o:=⟨some d,none,_⟩) trivial (xop_pure ?_)
    have next:xops dr Γ.hook (r.flat none) K' (σ1.set d (.bool (if or=true then b||q else b&&q))) m:=
     wp_ok r (.pick s d (.bool (if or=true then b||q else b&&q)) τ) _ m K K' h5 (hr.pick hd ho) g2 hK
    have hs1':Opd.ev σ1 (.t s)= .bool b:=hs1
    simp only [popK,hs1']
    cases or<;>cases b
    ·simpa [putS,Opd.ev] using next
    ·simpa [putS,hy rfl] using next
    ·simpa [putS,hy rfl] using next
    ·simpa [putS,Opd.ev] using next
   by_cases hbo:b=(!or)
   ·refine vg_ok l s d (!or) [] y τ σ _ h4 (by omega) hr (by rw [hb,hbo]) (by rw [he];exact g1 hbo) fun σ1 ho e1=> ?_
    rw [he] at e1
    exact fin σ1 ho ⟨by rw [ho.2 s (by omega)];exact hb,fun _=>e1⟩
   ·have hbo':b=or:=by cases b<;>cases or<;>first|rfl|exact absurd rfl hbo
    refine skip_ok l s d (!or) [] σ _ h4 (by rw [hr.1];omega) (.inl (by rw [hb,hbo'];simp)) (fun k hk=>by cases hk) fun σ1 ho=> ?_
    exact fin σ1 ho ⟨by rw [ho.2 s (by omega)];exact hb,fun e=>absurd e hbo⟩
  ·exact h.elim
 | .scd or d s l y r,τ,σ,m,K,K',hw,hr,h,hK=>by
  simp only [SL.wf,Bool.and_eq_true,decide_eq_true_eq] at hw
  obtain ⟨⟨hd,h4⟩,h5⟩:=hw
  rw [SL.flat,xops_append]
  simp only [SL.wp] at h
  split at h<;>try exact h.elim
  rename_i b e
  have hb:σ.getD s .junk= .bool b:=le_eq (hr.le s) e (by intro h;cases h)
  split at h
  ·rename_i hbo
   subst hbo
   obtain ⟨hwg,h⟩:=h
   refine skip_ok l s d (!b) [] σ _ hwg (by rw [hr.1];omega) (.inl (by rw [hb];simp)) (fun k hk=>by cases hk) fun σ1 ho=> ?_
   have hs1:σ1.getD s .junk= .bool b:=by rw [ho.2 s (by omega)];exact hb
   refine xops_met (o:=⟨some d,none,_⟩) trivial (xop_pure ?_)
   have next:xops dr Γ.hook (r.flat none) K' (σ1.set d (.bool b)) m:=
    wp_ok r (.pick s d (.bool b) τ) _ m K K' h5 (hr.pick hd ho) h hK
   have hs1':Opd.ev σ1 (.t s)= .bool b:=hs1
   simp only [popK,hs1']
   cases b
   ·simpa [putS,Opd.ev] using next
   ·simpa [putS,Opd.ev] using next
  refine wpg_ok l τ σ m _ _ h4 hr h fun σ1 τ1 m1 hr1 hl1 hk=> ?_
  have hs1:σ1.getD s .junk= .bool (!or):=le_eq (hr1.le s) hl1 (by intro h;cases h)
  split at hk
  ·rename_i q e
   have hy:y.ev σ1= .bool q:=le_eq (hr1.fv y) e (by intro h;cases h)
   refine xops_met (o:=⟨some d,none,_⟩) trivial (xop_pure ?_)
   have next:xops dr Γ.hook (r.flat none) K' (σ1.set d (.bool q)) m1:=
    wp_ok r (.pick s d (.bool q) τ1) _ m1 K K' h5 (hr1.pick hd (Out.refl ..)) hk hK
   have hs1':Opd.ev σ1 (.t s)= .bool (!or):=hs1
   simp only [popK,hs1']
   cases or
   ·simpa [putS,hy] using next
   ·simpa [putS,hy] using next
  ·exact hk.elim
 | .prune ks r,τ,σ,m,K,K',hw,hr,h,hK=>wp_ok r _ σ m K K' hw (hr.prune ks) h hK
def SL.dsts:SL→List Nat
 | .nil=>[]
 | .op d _ r=>(match d with
  |some k=>[k]
  |none=>[])++r.dsts
 | .sc _ d _ l _ r=>l.dsts++d::r.dsts
 | .scd _ d _ l _ r=>l.dsts++d::r.dsts
 | .prune _ r=>r.dsts
def junkF:List Nat→Fr→Fr
 |[],τ=>τ
 |k::ks,τ=> .put k .junk (junkF ks τ)
def OutL (ks:List Nat) (σ σ':List SV):Prop:=σ'.length=σ.length∧∀ k,k∉ks→σ'.getD k .junk=σ.getD k .junk
theorem OutL.refl (ks:List Nat) (σ:List SV):OutL ks σ σ:=⟨rfl,fun _ _=>rfl⟩
theorem OutL.trans {ks ks':List Nat} {σ σ' σ'':List SV} (h:OutL ks σ σ') (k:OutL ks' σ' σ''):OutL (ks++ks') σ σ'':=
 ⟨k.1.trans h.1,fun i hi=>(k.2 i (fun e=>hi (List.mem_append.2 (.inr e)))).trans (h.2 i (fun e=>hi (List.mem_append.2 (.inl e))))⟩
theorem Rep.junk {n:Nat} {σ σ':List SV} {τ:Fr} (h:Rep n σ τ):∀ {ks:List Nat},OutL ks σ σ'→Rep n σ' (junkF ks τ):=by
 intro ks ho
 refine ⟨ho.1.trans h.1,fun k=> ?_⟩
 have key:∀ l:List Nat,look k (junkF l τ)=if k∈l then .junk else look k τ:=by
  intro l
  induction l with
  |nil=>simp [junkF]
  |cons j l ih=>
   simp only [junkF,look,ih,List.mem_cons]
   by_cases e:k=j
   ·subst e;simp
   ·simp [e]
 rw [key]
 split
 ·exact .inl rfl
 ·rename_i hk
  rw [ho.2 k hk];exact h.2 k
def SL.plain:SL→Bool
 | .nil=>true
 | .op d _ r=>d.isSome&&r.plain
 | .sc .. =>false
 | .scd .. =>false
 | .prune .. =>false
theorem vgn_ok {Γ:FH} {n:Nat} {m:List Res}:∀ (l:SL) (y:Opd) (τ:Fr) (σ:List SV) (K:List SV→List Res→Prop),l.plain=true→l.wf n=true→Rep n σ τ→
  (l.vg Γ m y τ).1→(∀ σ',OutL l.dsts σ σ'→y.ev σ'= .bool (l.vg Γ m y τ).2→K σ' m)→sops Γ.hook (l.flat none) K σ m
 | .nil,y,τ,σ,K,_,_,hr,h,hK=>by
  rw [SL.flat]
  simp only [SL.vg] at h hK
  split at h
  ·rename_i b e
   exact hK σ (OutL.refl ..) (by rw [e];exact le_eq (hr.fv y) e (by intro h;cases h))
  ·exact h.elim
 | .op d' x r,y,τ,σ,K,hp,hw,hr,h,hK=>by
  cases d' with
  |none=>simp [SL.plain] at hp
  |some k=>
   simp only [SL.wf,Bool.and_eq_true,decide_eq_true_eq] at hw
   simp only [SL.plain,Bool.and_eq_true] at hp
   rw [SL.flat]
   simp only [SL.vg] at h hK
   obtain ⟨sv,g1,g2,g3⟩:=vop_ok (dr:=false) hr x h
   refine xops_met (dr:=false) (o:=⟨some k,none,x⟩) trivial (g3 _ fun sv' hle=> ?_)
   refine vgn_ok r y (putF (some k) sv τ) (σ.set k sv') K hp.2 hw.2 (hr.put hw.1 hle) g1 fun σ' ho e=> ?_
   refine hK σ' ?_ (by rw [e,g2])
   have h1:OutL [k] σ (σ.set k sv'):=⟨by simp,fun i hi=>getD_set_ne (by simpa using hi)⟩
   exact h1.trans ho
 | .sc ..,_,_,_,_,hp,_,_,_,_=>by simp [SL.plain] at hp
 | .scd ..,_,_,_,_,hp,_,_,_,_=>by simp [SL.plain] at hp
 | .prune ..,_,_,_,_,hp,_,_,_,_=>by simp [SL.plain] at hp
end Go.Sx
end
section
namespace Go.Sx
open Go
variable {P:Program}
noncomputable def frzK (ε:Env) (m:List Res) (w:World) (ks:List Nat):Env:=
 {ε with H:=fun b=>open Classical in if ∃ i∈ks,ownR ε i (memAt m i)=some b then w.heap[b]? else ε.H b}
def killK:List Nat→List Res→List Res
 |[],m=>m
 |k::ks,m=>(killK ks m).set k .dead
theorem killK_len:∀ (ks:List Nat) (m:List Res),(killK ks m).length=m.length
 |[],_=>rfl
 |k::ks,m=>by rw [killK,List.length_set,killK_len ks m]
theorem killK_at:∀ (ks:List Nat) (m:List Res) (j:Nat),memAt (killK ks m) j=if j∈ks then .dead else memAt m j
 |[],m,j=>by simp [killK]
 |k::ks,m,j=>by
  have ih:=killK_at ks m j
  unfold memAt at ih ⊢
  rw [killK,List.getD,List.getElem?_set]
  by_cases h:k=j
  ·subst h
   rw [if_pos rfl,if_pos (List.mem_cons_self ..)]
   by_cases hl:k< (killK ks m).length<;>simp [hl]
  ·rw [if_neg h]
   have:j∈k::ks↔j∈ks:=by simp [Ne.symm h]
   simp only [this]
   exact ih
theorem frzK_H {ε:Env} {m:List Res} {w:World} (g:Good ε m w) (ks:List Nat):∀ b o,ε.H b=some o→(frzK ε m w ks).H b=some o:=by
 intro b o h
 unfold frzK;simp only
 split
 ·rename_i hh
  obtain ⟨i,_,hi⟩:=hh
  rw [g.sep i b hi] at h;cases h
 ·exact h
theorem frzK_le {ε:Env} {m:List Res} {w:World} (g:Good ε m w) (ks:List Nat):ε.Le (frzK ε m w ks):=⟨Nat.le_refl _,fun _ _=>rfl,fun _ _=>rfl,frzK_H g ks⟩
theorem frzK_sel {ε:Env} {m:List Res} {w:World} (g:Good ε m w) {ks:List Nat} (hn:ks.Nodup):(frz (selE ks ε) (selM ks m) w).cl.Le (frzK ε m w ks):=by
 refine ⟨Nat.zero_le _,fun _ h=>absurd h (Nat.not_lt_zero _),fun _ h=>absurd h (Nat.not_lt_zero _),fun b o hb=> ?_⟩
 have hb:(frz (selE ks ε) (selM ks m) w).H b=some o:=hb
 unfold frz at hb;simp only at hb
 split at hb
 ·rename_i hh
  obtain ⟨j,hj⟩:=hh
  have hlen:(selM ks m).length=ks.length:=by simp [selM]
  have hjl:j<ks.length:=by
   rcases Nat.lt_or_ge j ks.length with h|h
   ·exact h
   ·rw [memAt_ge (by omega)] at hj;cases hj
  rw [selM_at hjl,ownR_ren (ε:=ε) (ε':=selE ks ε) (i:=ks.getD j 0) (j:=j) rfl rfl] at hj
  unfold frzK;simp only
  rw [if_pos ⟨ks.getD j 0,by simp [List.getD,hjl],hj⟩]
  exact hb
 ·exact frzK_H g ks b o hb
theorem Inv.freezeK {β:Base} {ε:Env} {m:List Res} {w:World} (h:Inv β ε m w) (ks:List Nat):Inv β (frzK ε m w ks) (killK ks m) w:=by
 have g:=h.good
 have hown:∀ i b,ownR (frzK ε m w ks) i (memAt (killK ks m) i)=some b→i∉ks∧ownR ε i (memAt m i)=some b:=by
  intro i b hb
  rw [killK_at] at hb
  split at hb
  ·cases hb
  ·rename_i hi
   refine ⟨hi,?_⟩
   cases hm:memAt m i<;>rw [hm] at hb<;>exact hb
 refine ⟨⟨by rw [killK_len];exact g.n,fun i=> ?_,fun i j b hij h1 h2=>g.disj i j b hij (hown i b h1).2 (hown j b h2).2,fun i b h1=> ?_,fun b o hb=> ?_,g.gl.mono (frzK_H g ks)⟩,
  ⟨h.kept.os,h.kept.tape,h.kept.output,h.kept.size,h.kept.heap,fun b o hb=>frzK_H g ks b o (h.kept.H b o hb),fun b o hb=> ?_,h.kept.drawn⟩,fun i b h1=>h.own i b (hown i b h1).2,h.n,h.blk,fun i hi hv=>h.vv i hi ?_⟩
 ·rw [killK_at]
  split
  ·trivial
  ·have hr:=g.res i
   cases hm:memAt m i with
   |dead=>trivial
   |blk T c=>
    rw [hm] at hr
    obtain ⟨cs,h1,h2⟩:=hr
    exact ⟨cs,h1,h2.mono c (frzK_le g ks)⟩
   |vec T wd l=>
    rw [hm] at hr
    obtain ⟨xs,h1,h2⟩:=hr
    exact ⟨xs,h1,fun j hj=>(h2 j hj).mono _ (frzK_le g ks)⟩
   |mp ek ev l=>
    rw [hm] at hr
    exact hr
 ·obtain ⟨hi,ho⟩:=hown i b h1
  unfold frzK;simp only
  rw [if_neg]
  ·exact g.sep i b ho
  ·rintro ⟨j,hj,hjo⟩
   exact g.disj i j b (fun e=>hi (e▸hj)) ho hjo
 ·unfold frzK at hb;simp only at hb
  split at hb
  ·exact hb
  ·exact g.hv b o hb
 ·unfold frzK at hb;simp only at hb
  split at hb
  ·rename_i hh
   obtain ⟨i,_,hi⟩:=hh
   rcases h.own i b hi with h1|h1
   ·exact .inr (.inr h1)
   ·exact .inr (.inl h1)
  ·exact h.kept.fresh b o hb
 ·rw [killK_at] at hv
  split at hv
  ·cases hv
  ·exact hv
theorem Inv.retell {β:Base} {ε:Env} {m:List Res} {w:World} (h:Inv β ε m w) {i:Nat} {T:TypeId} {c c':SV} (hm:memAt m i= .blk T c) (hc:∀ cs,w.heap[ε.blk i]? =some (.cells cs.toArray T (0,0))→SatC c' ε cs):Inv β ε (m.set i (.blk T c')) w:=by
 obtain ⟨cs,h1,_⟩:ResOK ε i w (.blk T c):=hm▸h.good.res i
 exact h.at1 (memAt_lt (by rw [hm];nofun)) ⟨cs,h1,hc cs h1⟩ (by rw [hm];exact fun _ e=>e) (by rw [hm];exact id) (fun _ _=>rfl) rfl ⟨rfl,rfl,rfl,rfl⟩
end Go.Sx
end
