/- A part of the proof of StripeRuns. Conditions: none. -/
import Derived.Conc.CompanyCalls
import Derived.Conc.CompanyDraw
set_option linter.unusedVariables false
set_option linter.unusedSimpArgs false
namespace Go.Sx
open Go Go.Conc
structure Rel (O F:Nat→Prop) (w w1:World):Prop where
 os:w1.os=w.os
 tape:w1.tape=w.tape
 output:w1.output=w.output
 size:w.heap.size≤w1.heap.size
 heap:∀ b,O b∨F b→w1.heap[b]? =w.heap[b]?
theorem Rel.refl (O F:Nat→Prop) (w:World):Rel O F w w:=⟨rfl,rfl,rfl,Nat.le_refl _,fun _ _=>rfl⟩
theorem Rel.trans {O F:Nat→Prop} {w w1 w2:World} (h:Rel O F w w1) (k:Rel O F w1 w2):Rel O F w w2:=
 ⟨k.os.trans h.os,k.tape.trans h.tape,k.output.trans h.output,Nat.le_trans h.size k.size,fun b hb=>(k.heap b hb).trans (h.heap b hb)⟩
def EvOK (O F:Nat→Prop) (n n':Nat) (e:Event):Prop:=(e.sync=false∧match e.loc with
 | .cell a=>a.block<n'∧(O a.block∨n≤a.block∨(F a.block∧e.write=false))
 | .obj r=>r<n'∧(O r∨n≤r∨(F r∧e.write=false))
 |_=>False)∨∃ m,e=⟨.mark m,false,true⟩∧Neutral m
structure Gua (O F:Nat→Prop) (w w':World) (es:Array Event):Prop where
 os:w'.os=w.os
 tape:w'.tape=w.tape
 output:w'.output=w.output
 size:w.heap.size≤w'.heap.size
 heap:∀ b,b<w.heap.size→¬ O b→w'.heap[b]? =w.heap[b]?
 evs:∀ e∈es,EvOK O F w.heap.size w'.heap.size e
theorem Gua.idle (O F:Nat→Prop) (w:World):Gua O F w w #[]:=⟨rfl,rfl,rfl,Nat.le_refl _,fun _ _ _=>rfl,fun e h=>by simp at h⟩
structure OW where
 w:World
 O:Nat→Prop
def OW.next (O:Nat→Prop) (w w':World):OW:=⟨w',fun b=>O b∨(w.heap.size≤b∧b<w'.heap.size)⟩
theorem OW.next_idle (O:Nat→Prop) (w:World):OW.next O w w=⟨w,O⟩:=by
 unfold OW.next
 congr 1
 funext b
 exact propext ⟨fun h=>h.elim id fun h=>absurd h.1 (by omega), .inl⟩
inductive Co (P:Program) (main:Bool) (F:Nat→Prop) (Stop:Goroutine→OW→Prop):Goroutine→OW→Prop
 |stop {g:Goroutine} {x:OW} (h:∀ w1,Rel x.O F x.w w1→Stop g ⟨w1,x.O⟩):Co P main F Stop g x
 |step {g:Goroutine} {x:OW} (nx:World→Goroutine) (wx:World→World) (ex:World→Array Event) (hs:g.status= .running)
   (h1:∀ w1,Rel x.O F x.w w1→stepG P main g w1= .go (nx w1) (wx w1) (ex w1)∧Gua x.O F w1 (wx w1) (ex w1))
   (h2:∀ w1,Rel x.O F x.w w1→Co P main F Stop (nx w1) (OW.next x.O w1 (wx w1))):Co P main F Stop g x
section
variable {P:Program} {main:Bool} {F:Nat→Prop} {Stop Stop':Goroutine→OW→Prop}
theorem Co.go {g:Goroutine} {x:OW} (hs:g.status= .running)
  (h:∀ w1,Rel x.O F x.w w1→(stepG P main g w1).goes fun g' w' es=>Gua x.O F w1 w' es∧Co P main F Stop g' (OW.next x.O w1 w')):Co P main F Stop g x:=by
 refine .step (fun w1=>match stepG P main g w1 with| .go g' _ _=>g'|_=>g) (fun w1=>match stepG P main g w1 with| .go _ w' _=>w'|_=>w1) (fun w1=>match stepG P main g w1 with| .go _ _ es=>es|_=> #[]) hs (fun w1 h1=> ?_) (fun w1 h1=> ?_)
 all_goals
  have:=h w1 h1
  revert this
  cases stepG P main g w1<;>simp only [GStep.goes,false_imp_iff]
  rintro ⟨k1,k2⟩
  first|exact k2|exact ⟨rfl,k1⟩|exact ⟨trivial,k1⟩
theorem Co.rely {g:Goroutine} {x:OW} {w1:World} (h:Co P main F Stop g x) (hr:Rel x.O F x.w w1):Co P main F Stop g ⟨w1,x.O⟩:=by
 cases h with
 |stop h=>exact .stop fun w2 h2=>h w2 (hr.trans h2)
 |step nx wx ex hs h1 h2=>exact .step nx wx ex hs (fun w2 k=>h1 w2 (hr.trans k)) fun w2 k=>h2 w2 (hr.trans k)
theorem Co.bind {g:Goroutine} {x:OW} (h:Co P main F Stop g x) (k:∀ g x,Stop g x→Co P main F Stop' g x):Co P main F Stop' g x:=by
 induction h with
 |stop h=>exact k _ _ (h _ (Rel.refl ..))
 |step nx wx ex hs h1 h2 ih=>exact .step nx wx ex hs h1 ih
theorem Co.idle {g g':Goroutine} {x:OW} (hs:g.status= .running) (h:∀ w,stepG P main g w= .go g' w #[]) (k:Co P main F Stop g' x):Co P main F Stop g x:=
 .step (fun _=>g') id (fun _=> #[]) hs (fun w1 _=>⟨h w1,Gua.idle ..⟩) fun w1 h1=>by
  show Co P main F Stop g' (OW.next x.O w1 w1)
  rw [OW.next_idle];exact k.rely h1
def AfterQ (P:Program) (main:Bool) (F:Nat→Prop) (Stop:Goroutine→OW→Prop) (b:Frame) (k:List Item) (cs:List Frame):Exit→Act→OW→Prop
 | .normal,a,x=>Co P main F Stop (G (b.at a k) cs) x
 | .exit id,a,x=> ∃ k',exitTo id k=some k'∧Co P main F Stop (G (b.at a k') cs) x
 | .ret,a,x=> ∀ todo,Co P main F Stop (G {b.at a todo with mode:= .returning} cs) x
 |_,_,_=>False
theorem AfterQ.push {b:Frame} {y:Item} {k:List Item} {cs:List Frame} {e:Exit} {a:Act} {x:OW} (hy:y.plain=true) (he:e≠ .normal)
  (h:AfterQ P main F Stop b k cs e a x):AfterQ P main F Stop b (y::k) cs e a x:=by
 cases e with
 |normal=>exact absurd rfl he
 |exit id=>obtain ⟨k',hk,hg⟩:=h;exact ⟨k',by cases y<;>simp_all [exitTo,Item.plain],hg⟩
 |ret=>exact h
 |goto l=>exact h
 |panic ch=>exact h
 |outgrown=>exact h
end
def CodeQ (P:Program) (main:Bool) (F:Nat→Prop) (fn:FuncId) (c:Code) (Q:Exit→Act→OW→Prop) (a:Act) (x:OW):Prop:=
 ∀ (b:Frame) (k:List Item) (cs:List Frame) (Stop:Goroutine→OW→Prop),b.fn=fn→b.kind≠ .early→(∀ e a' x',Q e a' x'→AfterQ P main F Stop b k cs e a' x')→Co P main F Stop (G (b.at a (.code c::k)) cs) x
def OpsQ (P:Program) (main:Bool) (F:Nat→Prop) (fn:FuncId) (ops:Array Oper) (todo:List Nat) (Q:Exit→Act→OW→Prop) (a:Act) (x:OW):Prop:=
 ∀ (b:Frame) (k:List Item) (cs:List Frame) (Stop:Goroutine→OW→Prop),b.fn=fn→b.kind≠ .early→(∀ e a' x',Q e a' x'→AfterQ P main F Stop b k cs e a' x')→Co P main F Stop (G (b.at a (.inRegion ops todo::k)) cs) x
def OpQ (P:Program) (main:Bool) (F:Nat→Prop) (fn:FuncId) (o:Oper) (a:Act) (K:Act→OW→Prop) (x:OW):Prop:=
 ∀ (ops:Array Oper) (o':Oper) (b:Frame) (k:List Item) (cs:List Frame) (Stop:Goroutine→OW→Prop) (i:Nat) (rest:List Nat),(∃ af gd,o'= {o with after:=af,guard:=gd})→b.fn=fn→b.kind≠ .early→ops[i]? =some o'→Region.wanted o' (yielded ops a.tmps)=true→
  (∀ a' x',K a' x'→Co P main F Stop (G (b.at a' (.inRegion ops rest::k)) cs) x')→Co P main F Stop (G (b.at a (.inRegion ops (i::rest)::k)) cs) x
section
variable {P:Program} {main:Bool} {F:Nat→Prop} {fn:FuncId} {Q Q':Exit→Act→OW→Prop} {a:Act} {x:OW}
theorem CodeQ.mono {c:Code} (hq:∀ e a x,Q e a x→Q' e a x) (h:CodeQ P main F fn c Q a x):CodeQ P main F fn c Q' a x:=
 fun b k cs Stop hb hk hc=>h b k cs Stop hb hk fun e a' x' q=>hc e a' x' (hq e a' x' q)
theorem OpQ.mono {o:Oper} {K K':Act→OW→Prop} (hk:∀ a x,K a x→K' a x) (h:OpQ P main F fn o a K x):OpQ P main F fn o a K' x:=
 fun ops o' b k cs Stop i rest ho' hb hk' ho hw hc=>h ops o' b k cs Stop i rest ho' hb hk' ho hw fun a' x' q=>hc a' x' (hk a' x' q)
theorem OpQ.ren {o:Oper} {af:Array Edge} {gd:Option (Nat×Bool)} {K:Act→OW→Prop} (h:OpQ P main F fn {o with after:=af,guard:=gd} a K x):OpQ P main F fn o a K x:=
 fun ops o' b k cs Stop i rest ⟨af',gd',he⟩=>h ops o' b k cs Stop i rest ⟨af',gd',he⟩
theorem wq_skip (h:Q .normal a x):CodeQ P main F fn .skip Q a x:=fun _ _ _ _ _ _ hc=> .idle rfl (fun _=>stepG_skip) (hc _ _ _ h)
theorem wq_ret (h:Q .ret a x):CodeQ P main F fn .ret Q a x:=fun _ _ _ _ _ _ hc=> .idle rfl (fun _=>stepG_ret') (hc _ _ _ h _)
theorem wq_exit {id:Nat} (h:Q (.exit id) a x):CodeQ P main F fn (.exit id) Q a x:=fun _ _ _ _ _ _ hc=>by
 obtain ⟨k',hk',hg⟩:=hc _ _ _ h
 exact .idle rfl (fun _=>stepG_exit hk') hg
theorem wq_seq {c d:Code} (h:CodeQ P main F fn c (fun e a' x'=>match e with
  | .normal=>CodeQ P main F fn d Q a' x'
  |e=>Q e a' x') a x):CodeQ P main F fn (.seq c d) Q a x:=fun b k cs Stop hb hk hc=>by
 refine .idle rfl (fun _=>stepG_seq) (h b (.code d::k) cs Stop hb hk fun e a' x' q=> ?_)
 cases e with
 |normal=>exact q b k cs Stop hb hk hc
 |exit id=>exact (hc _ _ _ q).push rfl (by simp)
 |ret=>exact AfterQ.push (y:= .code d) rfl (by simp) (hc _ _ _ q)
 |goto l=>exact hc _ _ _ q
 |panic ch=>exact hc _ _ _ q
 |outgrown=>exact hc _ _ _ q
theorem wq_cond {c:Operand} {d e:Code} {t:Bool} (hc:a.eval c= .bool t) (h:CodeQ P main F fn (if t then d else e) Q a x):CodeQ P main F fn (.cond c d e) Q a x:=
 fun b k cs Stop hb hk hq=> .idle rfl (fun _=>stepG_cond hc) (h b k cs Stop hb hk hq)
theorem wq_cond_true {c:Operand} {d e:Code} (hc:a.eval c= .bool true) (h:CodeQ P main F fn d Q a x):CodeQ P main F fn (.cond c d e) Q a x:=wq_cond hc h
theorem wq_cond_false {c:Operand} {d e:Code} (hc:a.eval c= .bool false) (h:CodeQ P main F fn e Q a x):CodeQ P main F fn (.cond c d e) Q a x:=wq_cond hc h
theorem wq_block {id:Nat} {c:Code} (h:CodeQ P main F fn c (fun e a' x'=>match e with
  | .exit i=>if i=id then Q .normal a' x' else Q (.exit i) a' x'
  |e=>Q e a' x') a x):CodeQ P main F fn (.block id c) Q a x:=fun b k cs Stop hb hk hc=>by
 refine .idle rfl (fun _=>stepG_block) (h b (.inBlock id::k) cs Stop hb hk fun e a' x' q=> ?_)
 cases e with
 |normal=>exact .idle rfl (fun _=>stepG_inBlock) (hc _ _ _ q)
 |exit id'=>
  by_cases hid:id'=id
  ·simp only [hid,if_true] at q
   exact ⟨k,by simp [exitTo,hid],hc _ _ _ q⟩
  ·simp only [hid,if_false] at q
   obtain ⟨k',hk',hg⟩:=hc _ _ _ q
   have:(id==id')=false:=by simp;exact fun h=>hid h.symm
   exact ⟨k',by simp [exitTo,this,hk'],hg⟩
 |ret=>exact fun todo=>hc _ _ _ q todo
 |goto l=>exact hc _ _ _ q
 |panic ch=>exact hc _ _ _ q
 |outgrown=>exact hc _ _ _ q
theorem wq_loop {c:Code} (I:Nat→Act→OW→Prop) (n:Nat) (h0:I n a x)
  (round:∀ n a x,I n a x→CodeQ P main F fn c (fun e a' x'=>match e with
   | .normal=> ∃ n',n'<n∧I n' a' x'
   |e=>Q e a' x') a x):CodeQ P main F fn (.loop c) Q a x:=fun b k cs Stop hb hk hc=>by
 have key:∀ n a x,I n a x→Co P main F Stop (G (b.at a (.code c:: .inLoop c::k)) cs) x:=by
  intro n
  induction n using Nat.strongRecOn with
  |ind n ih=>
   intro a x hI
   refine round n a x hI b (.inLoop c::k) cs Stop hb hk fun e a' x' q=> ?_
   cases e with
   |normal=>
    obtain ⟨n',hn',hI'⟩:=q
    exact .idle rfl (fun _=>stepG_inLoop) (ih n' hn' a' x' hI')
   |exit id=>exact (hc _ _ _ q).push rfl (by simp)
   |ret=>exact AfterQ.push (y:= .inLoop c) rfl (by simp) (hc _ _ _ q)
   |goto l=>exact hc _ _ _ q
   |panic ch=>exact hc _ _ _ q
   |outgrown=>exact hc _ _ _ q
 exact .idle rfl (fun _=>stepG_loop) (key n a x h0)
theorem opsq_nil {ops:Array Oper} (h:Q .normal a x):OpsQ P main F fn ops [] Q a x:=fun _ _ _ _ _ _ hc=> .idle rfl (fun _=>stepG_region_end) (hc _ _ _ h)
theorem opsq_skip {ops:Array Oper} {i:Nat} {rest:List Nat} {o:Oper} (ho:ops[i]? =some o) (hw:Region.wanted o (yielded ops a.tmps)=false) (h:OpsQ P main F fn ops rest Q (a.put o.dst undef) x):OpsQ P main F fn ops (i::rest) Q a x:=
 fun b k cs Stop hb hk hc=> .idle rfl (fun _=>stepG_unwanted ho hw) (h b k cs Stop hb hk hc)
theorem opsq_op {ops:Array Oper} {i:Nat} {rest:List Nat} {o:Oper} (ho:ops[i]? =some o) (hw:Region.wanted o (yielded ops a.tmps)=true) (h:OpQ P main F fn o a (fun a' x'=>OpsQ P main F fn ops rest Q a' x') x):OpsQ P main F fn ops (i::rest) Q a x:=
 fun b k cs Stop hb hk hc=>h ops o b k cs Stop i rest ⟨o.after,o.guard,rfl⟩ hb hk ho hw fun _ _ q=>q b k cs Stop hb hk hc
theorem wq_region {id:Nat} {ops:Array Oper} (h:OpsQ P main F fn ops (List.range ops.size) Q a x):CodeQ P main F fn (.region id ops false) Q a x:=
 fun b k cs Stop hb hk hc=> .idle rfl (fun _=>stepG_region) (h b k cs Stop hb hk hc)
theorem wq_draw {id:Nat} {ops:Array Oper} (h:∀ w1,Rel x.O F x.w w1→∀ t,OpsQ P main F fn ops (Region.schedule (P.follows .mixedOrders) ops t) Q a ⟨{w1 with drawn:=w1.drawn+1},x.O⟩):CodeQ P main F fn (.region id ops true) Q a x:=by
 intro b k cs Stop hb hk hc
 refine .go rfl fun w1 h1=> ?_
 rw [stepG_region_draw]
 refine ⟨⟨rfl,rfl,rfl,Nat.le_refl _,fun _ _ _=>rfl,fun e h=>by simp at h⟩,?_⟩
 have e:OW.next x.O w1 {w1 with drawn:=w1.drawn+1}=⟨{w1 with drawn:=w1.drawn+1},x.O⟩:=by
  unfold OW.next
  congr 1
  funext b
  exact propext ⟨fun h=>h.elim (fun h=>h) fun h=>absurd h.1 (by show ¬ (w1.heap.size≤b);have:=h.2;simp at this;omega), .inl⟩
 rw [e]
 exact h w1 h1 _ b k cs Stop hb hk hc
def wqList (P:Program) (main:Bool) (F:Nat→Prop) (fn:FuncId) (ops:Array Oper) (Q:Exit→Act→OW→Prop) (l:List Oper) (a:Act) (x:OW):Prop:= ∀ i,(∀ j,l[j]? =ops[i+j]?)→OpsQ P main F fn ops (List.range' i l.length) Q a x
theorem wqList_nil {ops:Array Oper} (h:Q .normal a x):wqList P main F fn ops Q [] a x:=fun _ _=>opsq_nil h
theorem wqList_cons {ops:Array Oper} {o:Oper} {l:List Oper} (h:if Region.wanted o (yielded ops a.tmps) then OpQ P main F fn o a (wqList P main F fn ops Q l) x else wqList P main F fn ops Q l (a.put o.dst undef) x):wqList P main F fn ops Q (o::l) a x:=by
 intro i hi
 have ho:ops[i]? =some o:=by simpa using (hi 0).symm
 have hl:∀ j,l[j]? =ops[i+1+j]? :=fun j=>by
  have:=hi (j+1)
  rw [List.getElem?_cons_succ] at this
  rw [this];congr 1;omega
 rw [List.length_cons,List.range'_succ]
 split at h
 ·rename_i hw
  exact opsq_op ho hw (h.mono fun a' x' q=>q (i+1) hl)
 ·rename_i hw
  exact opsq_skip ho (by simpa using hw) (h (i+1) hl)
theorem wq_region_list {id:Nat} {ops:Array Oper} (h:wqList P main F fn ops Q ops.toList a x):CodeQ P main F fn (.region id ops false) Q a x:=
 wq_region (by
  have:=h 0 (by simp)
  rwa [Array.length_toList,← List.range_eq_range'] at this)
theorem opq_run {o:Oper} {K:Act→OW→Prop} (h:∀ w1,Rel x.O F x.w w1→∃ v w',((execOp a.eval o).run P w1= .ok (.value v) w'∨(v=undef∧(execOp a.eval o).run P w1= .ok .skip w'))∧
   Gua x.O F w1 w' ((execOp a.eval o).events P w1 #[])∧K (a.put o.dst v) (OW.next x.O w1 w')):OpQ P main F fn o a K x:=by
 intro ops o' b k cs Stop i rest ho' hb hk ho hw hc
 obtain ⟨af,gd,rfl⟩:=ho'
 refine .go rfl fun w1 h1=> ?_
 obtain ⟨v,w',hr,hg,hK⟩:=h w1 h1
 have hg':Gua x.O F w1 w' (listed P b.fn a o w1):=⟨hg.os,hg.tape,hg.output,hg.size,hg.heap,fun e he=>by
  unfold listed at he
  rw [seen_def] at he
  rcases seen_fold_sub _ _ _ _ _ he with h|h
  ·simp at h
  ·exact hg.evs e (by simpa using h)⟩
 rcases hr with hr|⟨rfl,hr⟩
 ·rw [stepG_value ho hw hk hr];exact ⟨hg',hc _ _ hK⟩
 ·rw [stepG_none ho hw hk hr];exact ⟨hg',hc _ _ hK⟩
end
def CallsQ (P:Program) (main:Bool) (F:Nat→Prop) (f:FuncId) (args:Array Value) (x:OW) (R:Value→OW→Prop):Prop:=
 ∀ (cs:List Frame) (Stop:Goroutine→OW→Prop),(∀ v x' fr,R v x'→fr.fn=f→fr.mode= .returning→fr.defers=[]→fr.kind= .normal→
   (∃ fn,P.funcs[f]? =some fn∧∀ w1,Rel x'.O F x'.w w1→(results fn fr.tmps).run P w1= .ok v w1∧∀ e∈(results fn fr.tmps).events P w1 #[],EvOK x'.O F w1.heap.size w1.heap.size e)→Co P main F Stop (G fr cs) x')→
  Co P main F Stop (G (Frame.enter P f args .normal) cs) x
theorem CallsQ.mono {P:Program} {main:Bool} {F:Nat→Prop} {f:FuncId} {args:Array Value} {x:OW} {R R':Value→OW→Prop} (h:CallsQ P main F f args x R) (hr:∀ v x',R v x'→R' v x'):CallsQ P main F f args x R':=
 fun cs Stop hc=>h cs Stop fun v x' fr hv=>hc v x' fr (hr v x' hv)
section
variable {P:Program} {main:Bool} {F:Nat→Prop} {fn:FuncId} {a:Act} {x:OW}
theorem stepG_leaveE {f:Func} {fr c:Frame} {cs:List Frame} {v:Value} {w:World} (hm:fr.mode= .returning) (hd:fr.defers=[]) (hn:fr.kind= .normal) (hf:P.funcs[fr.fn]? =some f) (hr:(results f fr.tmps).run P w= .ok v w):
  stepG P main (G fr (c::cs)) w= .go (G (c.finish v) cs) w (seen P fr.fn ((results f fr.tmps).events P w #[])):=by
 simp [G,stepG,unwind,doReturn,hm,hn,hd,hf,hr,GStep.after]
theorem opq_call {o:Oper} {K:Act→OW→Prop} {f:FuncId} {args:Array Value} (hr:∀ w,Rel x.O F x.w w→(execOp a.eval o).run P w= .ok (.enter f args) w∧(execOp a.eval o).events P w #[]= #[])
  (h:CallsQ P main F f args x fun v x'=>K (a.put o.dst v) x'):OpQ P main F fn o a K x:=by
 intro ops o' b k cs Stop i rest ho' hb hk ho hw hc
 obtain ⟨af,gd,rfl⟩:=ho'
 refine .go rfl fun w1 h1=> ?_
 rw [stepG_enter ho hw hk (hr w1 h1).1]
 have e0:listed P b.fn a {o with after:=af,guard:=gd} w1= #[]:=by
  have:(execOp a.eval {o with after:=af,guard:=gd}).events P w1 #[]= #[]:=(hr w1 h1).2
  unfold listed;rw [this];exact seen_none P _
 rw [e0]
 refine ⟨Gua.idle ..,?_⟩
 rw [OW.next_idle]
 refine Co.rely (x:=x) ?_ h1
 refine h _ _ fun v x' fr hK hfn hm hd hn ⟨fn',hf',hres⟩=> .go rfl fun w2 h2=> ?_
 rw [stepG_leaveE hm hd hn (hfn▸hf') (hres w2 h2).1]
 refine ⟨⟨rfl,rfl,rfl,Nat.le_refl _,fun _ _ _=>rfl,fun e he=> ?_⟩,?_⟩
 ·rw [seen_def] at he
  rcases seen_fold_sub _ _ _ _ _ he with h|h
  ·simp at h
  ·exact (hres w2 h2).2 e (by simpa using h)
 ·rw [OW.next_idle,Frame.finish_at,ho]
  exact (hc _ _ hK).rely h2
theorem callsq_of_wq {f:FuncId} {fn:Func} {c:Code} {args:Array Value} {R:Value→OW→Prop} (hf:P.funcs[f]? =some fn) (hb:fn.body=some c)
  (h:CodeQ P main F f c (fun e a' x'=>match e with
   | .normal| .ret=>a'.defers=[]∧∃ v,R v x'∧∀ w1,Rel x'.O F x'.w w1→(results fn a'.tmps).run P w1= .ok v w1∧∀ e∈(results fn a'.tmps).events P w1 #[],EvOK x'.O F w1.heap.size w1.heap.size e
   |_=>False) {tmps:=args++Array.replicate (fn.ntmps - args.size) undef,defers:=[]} x):CallsQ P main F f args x R:=by
 intro cs Stop hc
 rw [enter_at args hf hb]
 refine h (base f) [] cs Stop rfl (by simp [base]) fun e a' x' q=> ?_
 have key:∀ (todo:List Item),(a'.defers=[]∧∃ v,R v x'∧∀ w1,Rel x'.O F x'.w w1→(results fn a'.tmps).run P w1= .ok v w1∧∀ e∈(results fn a'.tmps).events P w1 #[],EvOK x'.O F w1.heap.size w1.heap.size e)→
   Co P main F Stop (G {(base f).at a' todo with mode:= .returning} cs) x':=by
  rintro todo ⟨hd,v,hR,hres⟩
  exact hc v x' _ hR rfl rfl hd rfl ⟨fn,hf,hres⟩
 cases e with
 |normal=>exact .idle rfl (fun _=>stepG_end) (key [] q)
 |ret=>exact fun todo=>key todo q
 |exit id=>exact q.elim
 |goto l=>exact q.elim
 |panic ch=>exact q.elim
 |outgrown=>exact q.elim
end
end Go.Sx
