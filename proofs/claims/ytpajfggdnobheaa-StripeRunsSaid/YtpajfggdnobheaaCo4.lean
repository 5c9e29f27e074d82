/- A part of the proof of StripeRuns. Conditions: none. -/
import Derived.Test.YtpajfggdnobheaaCoS
import Derived.Test.YtpajfggdnobheaaSx13d
set_option linter.unusedVariables false
set_option linter.unusedSimpArgs false
namespace Go.Sx
open Go Go.Conc
abbrev Ses (ι:Type _):=ι→Goroutine→OW→Prop
section
variable {P:Program} {main:Bool} {F:Nat→Prop} {ι:Type _} {S:Ses ι}
def CodeT (P:Program) (main:Bool) (F:Nat→Prop) (S:Ses ι) (fn:FuncId) (c:Code) (Q:Exit→Act→ι→OW→Prop) (a:Act) (s:ι) (x:OW):Prop:=
 ∀ (b:Frame) (k:List Item) (cs:List Frame),b.fn=fn→b.kind≠ .early→(∀ e a' s' x',Q e a' s' x'→AfterQ P main F (S s') b k cs e a' x')→Co P main F (S s) (G (b.at a (.code c::k)) cs) x
def OpsT (P:Program) (main:Bool) (F:Nat→Prop) (S:Ses ι) (fn:FuncId) (ops:Array Oper) (todo:List Nat) (Q:Exit→Act→ι→OW→Prop) (a:Act) (s:ι) (x:OW):Prop:=
 ∀ (b:Frame) (k:List Item) (cs:List Frame),b.fn=fn→b.kind≠ .early→(∀ e a' s' x',Q e a' s' x'→AfterQ P main F (S s') b k cs e a' x')→Co P main F (S s) (G (b.at a (.inRegion ops todo::k)) cs) x
def OpT (P:Program) (main:Bool) (F:Nat→Prop) (S:Ses ι) (fn:FuncId) (o:Oper) (a:Act) (K:Act→ι→OW→Prop) (s:ι) (x:OW):Prop:=
 ∀ (ops:Array Oper) (b:Frame) (k:List Item) (cs:List Frame) (i:Nat) (rest:List Nat),b.fn=fn→b.kind≠ .early→ops[i]? =some o→Region.wanted o (yielded ops a.tmps)=true→
  (∀ a' s' x',K a' s' x'→Co P main F (S s') (G (b.at a' (.inRegion ops rest::k)) cs) x')→Co P main F (S s) (G (b.at a (.inRegion ops (i::rest)::k)) cs) x
end
section
variable {P:Program} {main:Bool} {F:Nat→Prop} {ι:Type _} {S:Ses ι} {fn:FuncId} {Q Q':Exit→Act→ι→OW→Prop} {a:Act} {s:ι} {x:OW}
theorem CodeT.mono {c:Code} (hq:∀ e a s x,Q e a s x→Q' e a s x) (h:CodeT P main F S fn c Q a s x):CodeT P main F S fn c Q' a s x:=
 fun b k cs hb hk hc=>h b k cs hb hk fun e a' s' x' q=>hc e a' s' x' (hq e a' s' x' q)
theorem OpT.mono {o:Oper} {K K':Act→ι→OW→Prop} (hk:∀ a s x,K a s x→K' a s x) (h:OpT P main F S fn o a K s x):OpT P main F S fn o a K' s x:=
 fun ops b k cs i rest hb hk' ho hw hc=>h ops b k cs i rest hb hk' ho hw fun a' s' x' q=>hc a' s' x' (hk a' s' x' q)
theorem CodeQ.t {c:Code} (h:CodeQ P main F fn c (fun e a' x'=>Q e a' s x') a x):CodeT P main F S fn c Q a s x:=
 fun b k cs hb hk hc=>h b k cs (S s) hb hk fun e a' x' q=>hc e a' s x' q
theorem OpQ.t {o:Oper} {K:Act→ι→OW→Prop} (h:OpQ P main F fn o a (fun a' x'=>K a' s x') x):OpT P main F S fn o a K s x:=
 fun ops b k cs i rest hb hk ho hw hc=>h ops o b k cs (S s) i rest ⟨o.after,o.guard,rfl⟩ hb hk ho hw fun a' x' q=>hc a' s x' q
theorem wt_seq {c d:Code} (h:CodeT P main F S fn c (fun e a' s' x'=>match e with
  | .normal=>CodeT P main F S fn d Q a' s' x'
  |e=>Q e a' s' x') a s x):CodeT P main F S fn (.seq c d) Q a s x:=fun b k cs hb hk hc=>by
 refine .idle rfl (fun _=>stepG_seq) (h b (.code d::k) cs hb hk fun e a' s' x' q=> ?_)
 cases e with
 |normal=>exact q b k cs hb hk hc
 |exit id=>exact (hc _ _ _ _ q).push rfl (by simp)
 |ret=>exact AfterQ.push (y:= .code d) rfl (by simp) (hc _ _ _ _ q)
 |goto l=>exact hc _ _ _ _ q
 |panic ch=>exact hc _ _ _ _ q
 |outgrown=>exact hc _ _ _ _ q
theorem wt_cond {c:Operand} {d e:Code} {t:Bool} (hc:a.eval c= .bool t) (h:CodeT P main F S fn (if t then d else e) Q a s x):CodeT P main F S fn (.cond c d e) Q a s x:=
 fun b k cs hb hk hq=> .idle rfl (fun _=>stepG_cond hc) (h b k cs hb hk hq)
theorem wt_block {id:Nat} {c:Code} (h:CodeT P main F S fn c (fun e a' s' x'=>match e with
  | .exit i=>if i=id then Q .normal a' s' x' else Q (.exit i) a' s' x'
  |e=>Q e a' s' x') a s x):CodeT P main F S fn (.block id c) Q a s x:=fun b k cs hb hk hc=>by
 refine .idle rfl (fun _=>stepG_block) (h b (.inBlock id::k) cs hb hk fun e a' s' x' q=> ?_)
 cases e with
 |normal=>exact .idle rfl (fun _=>stepG_inBlock) (hc _ _ _ _ q)
 |exit id'=>
  by_cases hid:id'=id
  ·simp only [hid,if_true] at q
   exact ⟨k,by simp [exitTo,hid],hc _ _ _ _ q⟩
  ·simp only [hid,if_false] at q
   obtain ⟨k',hk',hg⟩:=hc _ _ _ _ q
   have:(id==id')=false:=by simp;exact fun h=>hid h.symm
   exact ⟨k',by simp [exitTo,this,hk'],hg⟩
 |ret=>exact fun todo=>hc _ _ _ _ q todo
 |goto l=>exact hc _ _ _ _ q
 |panic ch=>exact hc _ _ _ _ q
 |outgrown=>exact hc _ _ _ _ q
theorem wt_loop {c:Code} (I:Nat→Act→ι→OW→Prop) (n:Nat) (h0:I n a s x)
  (round:∀ n a s x,I n a s x→CodeT P main F S fn c (fun e a' s' x'=>match e with
   | .normal=> ∃ n',n'<n∧I n' a' s' x'
   |e=>Q e a' s' x') a s x):CodeT P main F S fn (.loop c) Q a s x:=fun b k cs hb hk hc=>by
 have key:∀ n a s x,I n a s x→Co P main F (S s) (G (b.at a (.code c:: .inLoop c::k)) cs) x:=by
  intro n
  induction n using Nat.strongRecOn with
  |ind n ih=>
   intro a s x hI
   refine round n a s x hI b (.inLoop c::k) cs hb hk fun e a' s' x' q=> ?_
   cases e with
   |normal=>
    obtain ⟨n',hn',hI'⟩:=q
    exact .idle rfl (fun _=>stepG_inLoop) (ih n' hn' a' s' x' hI')
   |exit id=>exact (hc _ _ _ _ q).push rfl (by simp)
   |ret=>exact AfterQ.push (y:= .inLoop c) rfl (by simp) (hc _ _ _ _ q)
   |goto l=>exact hc _ _ _ _ q
   |panic ch=>exact hc _ _ _ _ q
   |outgrown=>exact hc _ _ _ _ q
 exact .idle rfl (fun _=>stepG_loop) (key n a s x h0)
theorem opst_nil {ops:Array Oper} (h:Q .normal a s x):OpsT P main F S fn ops [] Q a s x:=fun _ _ _ _ _ hc=> .idle rfl (fun _=>stepG_region_end) (hc _ _ _ _ h)
theorem opst_skip {ops:Array Oper} {i:Nat} {rest:List Nat} {o:Oper} (ho:ops[i]? =some o) (hw:Region.wanted o (yielded ops a.tmps)=false) (h:OpsT P main F S fn ops rest Q (a.put o.dst undef) s x):OpsT P main F S fn ops (i::rest) Q a s x:=
 fun b k cs hb hk hc=> .idle rfl (fun _=>stepG_unwanted ho hw) (h b k cs hb hk hc)
theorem opst_op {ops:Array Oper} {i:Nat} {rest:List Nat} {o:Oper} (ho:ops[i]? =some o) (hw:Region.wanted o (yielded ops a.tmps)=true) (h:OpT P main F S fn o a (fun a' s' x'=>OpsT P main F S fn ops rest Q a' s' x') s x):OpsT P main F S fn ops (i::rest) Q a s x:=
 fun b k cs hb hk hc=>h ops b k cs i rest hb hk ho hw fun _ _ _ q=>q b k cs hb hk hc
def wtList (P:Program) (main:Bool) (F:Nat→Prop) (S:Ses ι) (fn:FuncId) (ops:Array Oper) (Q:Exit→Act→ι→OW→Prop) (l:List Oper) (a:Act) (s:ι) (x:OW):Prop:= ∀ i,(∀ j,l[j]? =ops[i+j]?)→OpsT P main F S fn ops (List.range' i l.length) Q a s x
theorem wtList_nil {ops:Array Oper} (h:Q .normal a s x):wtList P main F S fn ops Q [] a s x:=fun _ _=>opst_nil h
theorem wtList_cons {ops:Array Oper} {o:Oper} {l:List Oper} (h:if Region.wanted o (yielded ops a.tmps) then OpT P main F S fn o a (wtList P main F S fn ops Q l) s x else wtList P main F S fn ops Q l (a.put o.dst undef) s x):wtList P main F S fn ops Q (o::l) a s x:=by
 intro i hi
 have ho:ops[i]? =some o:=by simpa using (hi 0).symm
 have hl:∀ j,l[j]? =ops[i+1+j]? :=fun j=>by
  have:=hi (j+1)
  rw [List.getElem?_cons_succ] at this
  rw [this];congr 1;omega
 rw [List.length_cons,List.range'_succ]
 split at h
 ·rename_i hw
  exact opst_op ho hw (h.mono fun a' s' x' q=>q (i+1) hl)
 ·rename_i hw
  exact opst_skip ho (by simpa using hw) (h (i+1) hl)
theorem wt_region_list {id:Nat} {ops:Array Oper} (h:wtList P main F S fn ops Q ops.toList a s x):CodeT P main F S fn (.region id ops false) Q a s x:=
 fun b k cs hb hk hc=> .idle rfl (fun _=>stepG_region) (by
  have:=h 0 (by simp)
  rw [Array.length_toList,← List.range_eq_range'] at this
  exact this b k cs hb hk hc)
theorem sops_t {Γ:Hook} (hΓ:HookOK P main F Γ) {ops:Array Oper} {ρ:Root} {d:List Deferred} {l2:List Oper}:∀ (l:List Oper) (ios:List IOp) (σ:List SV) (m:List Res) (K:List SV→List Res→Prop),
  l.mapM (compOp P ops)=some ios→sops Γ ios K σ m→(∀ σ' m' ε' a' x',K σ' m'→InvO F ρ ε' m' x'→SlotsOK ε' σ' a'→a'.defers=d→wtList P main F S fn ops Q l2 a' s x')→
  ∀ ε a x,InvO F ρ ε m x→SlotsOK ε σ a→a.defers=d→wtList P main F S fn ops Q (l++l2) a s x
 |[],ios,σ,m,K,hc,h,hK,ε,a,w,hi,hs,hd=>by
  simp at hc;subst hc
  exact hK σ m ε a w h hi hs hd
 |o::l,ios,σ,m,K,hc,h,hK,ε,a,w,hi,hs,hd=>by
  simp only [List.mapM_cons,bind,Option.pure_def] at hc
  obtain ⟨io,ho,hc⟩:=bind_some hc
  obtain ⟨ios',hc',hc⟩:=bind_some hc
  simp only [Option.some.injEq] at hc
  subst hc
  simp only [compOp] at ho
  split at ho<;>try (cases ho;done)
  rename_i g x hg hx
  simp only [Option.some.injEq] at ho;subst ho
  simp only [sops] at h
  have go:∀ σ1,SlotsOK ε σ1 a→opK Γ σ1 m (fun σ' sv m'=>sops Γ ios' K (putS o.dst sv σ') m') x→OpT P main F S fn o a (wtList P main F S fn ops Q (l++l2)) s w:=by
   intro σ1 hs1 h1
   obtain ⟨σ',sv,m',h2,hE⟩:=opK_sound hΓ hx h1
   refine OpQ.t (OpQ.mono ?_ (hE ρ ε a w fn hi hs1))
   rintro a' w' ⟨v,ε',rfl,hv,hs',hi'⟩
   exact sops_t hΓ l ios' _ _ K hc' h2 hK ε' _ w' hi' (hs'.put hv o.dst) (by rw [put_defers];exact hd)
  cases g with
  |none=>
   have hgn:o.guard=none:=by
    cases hog:o.guard with
    |none=>rfl
    |some g=>rw [hog] at hg;simp only [compG] at hg;split at hg<;>cases hg
   refine wtList_cons ?_
   rw [if_pos (by simp [Region.wanted,hgn])]
   exact go σ hs h
  |some g=>
   obtain ⟨s',want⟩:=g
   simp only [guardK] at h
   split at h
   ·rename_i b hb
    have hw:=wanted_ok hs hg hb
    refine wtList_cons ?_
    rw [hw]
    by_cases hbw:b=want
    ·subst hbw
     rw [if_pos (by simp)]
     exact go _ (hs.known hb) (h.1 rfl)
    ·have hbn:b= !want:=by cases b<;>cases want<;>first|rfl|exact absurd rfl hbw
     rw [if_neg (by simpa using hbw)]
     subst hbn
     have hs2:=hs.known hb
     exact sops_t hΓ l ios' _ _ K hc' (h.2 rfl) hK ε _ w hi (SlotsOK.put (sv:= .tup []) (v:=undef) hs2 sat_undef o.dst) (by rw [put_defers];exact hd)
   ·rename_i hb
    have hw:=wanted_undef hs hg hb
    refine wtList_cons ?_
    rw [hw]
    rw [if_neg (by simp)]
    exact sops_t hΓ l ios' _ _ K hc' h hK ε _ w hi (SlotsOK.put (sv:= .tup []) (v:=undef) hs sat_undef o.dst) (by rw [put_defers];exact hd)
   ·exact h.elim
end
end Go.Sx
