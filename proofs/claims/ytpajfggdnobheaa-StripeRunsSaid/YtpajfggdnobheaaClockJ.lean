/- A part of the proof of StripeRuns. Conditions: none. -/
import Derived.Test.YtpajfggdnobheaaSx26
import Derived.Test.YtpajfggdnobheaaRows
import Derived.WalkKit
set_option linter.unusedVariables false
set_option linter.unusedSimpArgs false
section
namespace Go.Sx
open Go
namespace W
theorem wd_int (k:IntKind) (n:Int):wd (.int k n)=1:=nr rfl
theorem isAgg_int (k:IntKind) (n:Int):SV.isAgg (.int k n)=false:=nr rfl
theorem wd_bool (b:Bool):wd (.bool b)=1:=nr rfl
theorem isAgg_bool (b:Bool):SV.isAgg (.bool b)=false:=nr rfl
theorem wd_str (s:List UInt8):wd (.str s)=1:=nr rfl
theorem isAgg_str (s:List UInt8):SV.isAgg (.str s)=false:=nr rfl
theorem wd_lst {υ:Type} (w:Nat) (d:υ) (f:υ→SV) (l:List υ):wd (.lst w d f l)=1:=nr rfl
theorem isAgg_lst {υ:Type} (w:Nat) (d:υ) (f:υ→SV) (l:List υ):SV.isAgg (.lst w d f l)=false:=nr rfl
theorem wd_eptr {υ:Type} (w:Nat) (d:υ) (f:υ→SV) (l:List υ) (i:Nat) (p:List Step) (o:Nat):wd (.eptr w d f l i p o)=1:=nr rfl
theorem isAgg_eptr {υ:Type} (w:Nat) (d:υ) (f:υ→SV) (l:List υ) (i:Nat) (p:List Step) (o:Nat):SV.isAgg (.eptr w d f l i p o)=false:=nr rfl
theorem wd_ref (c:SV) (p:List Step) (o:Nat):wd (.ref c p o)=1:=nr rfl
theorem isAgg_ref (c:SV) (p:List Step) (o:Nat):SV.isAgg (.ref c p o)=false:=nr rfl
theorem wd_ptr (i:Nat) (p:List Step) (o:Nat):wd (.ptr i p o)=1:=nr rfl
theorem isAgg_ptr (i:Nat) (p:List Step) (o:Nat):SV.isAgg (.ptr i p o)=false:=nr rfl
theorem wd_vec (i n:Nat):wd (.vec i n)=1:=nr rfl
theorem isAgg_vec (i n:Nat):SV.isAgg (.vec i n)=false:=nr rfl
theorem wd_vptr (i j:Nat) (p:List Step) (o:Nat):wd (.vptr i j p o)=1:=nr rfl
theorem isAgg_vptr (i j:Nat) (p:List Step) (o:Nat):SV.isAgg (.vptr i j p o)=false:=nr rfl
theorem wd_pvec (i n:Nat):wd (.pvec i n)=1:=nr rfl
theorem isAgg_pvec (i n:Nat):SV.isAgg (.pvec i n)=false:=nr rfl
theorem wd_map (i:Nat):wd (.map i)=1:=nr rfl
theorem isAgg_map (i:Nat):SV.isAgg (.map i)=false:=nr rfl
theorem wd_fn (f:FuncId) (c:List SV):wd (.fn f c)=1:=nr rfl
theorem isAgg_fn (f:FuncId) (c:List SV):SV.isAgg (.fn f c)=false:=nr rfl
theorem wd_iface (t:TypeId) (x:SV):wd (.iface t x)=1:=nr rfl
theorem isAgg_iface (t:TypeId) (x:SV):SV.isAgg (.iface t x)=false:=nr rfl
theorem wd_nils:wd (.nils)=1:=nr rfl
theorem isAgg_nils:SV.isAgg (.nils)=false:=nr rfl
theorem wd_nili:wd (.nili)=1:=nr rfl
theorem isAgg_nili:SV.isAgg (.nili)=false:=nr rfl
theorem wd_nilf:wd (.nilf)=1:=nr rfl
theorem isAgg_nilf:SV.isAgg (.nilf)=false:=nr rfl
theorem wd_nilp:wd (.nilp)=1:=nr rfl
theorem isAgg_nilp:SV.isAgg (.nilp)=false:=nr rfl
theorem wd_nilm:wd (.nilm)=1:=nr rfl
theorem isAgg_nilm:SV.isAgg (.nilm)=false:=nr rfl
theorem wd_anyb:wd (.anyb)=1:=nr rfl
theorem isAgg_anyb:SV.isAgg (.anyb)=false:=nr rfl
theorem wd_junk:wd .junk=1:=nr rfl
theorem wd_arr (n w:Nat) (f:Nat→SV):wd (.arr n w f)=n*w:=nr rfl
theorem wd_agg (l:List SV):wd (.agg l)=wds l:=nr rfl
theorem wds_nil:wds []=0:=nr rfl
theorem wds_cons (x:SV) (r:List SV):wds (x::r)=wd x+wds r:=nr rfl
theorem isAgg_arr (n w:Nat) (f:Nat→SV):SV.isAgg (.arr n w f)=true:=nr rfl
theorem isAgg_agg (l:List SV):SV.isAgg (.agg l)=true:=nr rfl
theorem isAgg_junk:SV.isAgg .junk=false:=nr rfl
theorem isVal_int (k:IntKind) (n:Int):SV.isVal (.int k n)=true:=nr rfl
theorem isVal_bool (b:Bool):SV.isVal (.bool b)=true:=nr rfl
theorem isVal_str (s:List UInt8):SV.isVal (.str s)=true:=nr rfl
theorem isVal_lst {υ:Type} (w:Nat) (d:υ) (f:υ→SV) (l:List υ):SV.isVal (.lst w d f l)=true:=nr rfl
theorem isVal_eptr {υ:Type} (w:Nat) (d:υ) (f:υ→SV) (l:List υ) (i:Nat) (p:List Step) (o:Nat):SV.isVal (.eptr w d f l i p o)=true:=nr rfl
theorem isVal_ref (c:SV) (p:List Step) (o:Nat):SV.isVal (.ref c p o)=true:=nr rfl
theorem isVal_ptr (i:Nat) (p:List Step) (o:Nat):SV.isVal (.ptr i p o)=true:=nr rfl
theorem isVal_vec (i n:Nat):SV.isVal (.vec i n)=true:=nr rfl
theorem isVal_vptr (i j:Nat) (p:List Step) (o:Nat):SV.isVal (.vptr i j p o)=true:=nr rfl
theorem isVal_pvec (i n:Nat):SV.isVal (.pvec i n)=true:=nr rfl
theorem isVal_map (i:Nat):SV.isVal (.map i)=true:=nr rfl
theorem isVal_fn (f:FuncId) (c:List SV):SV.isVal (.fn f c)=true:=nr rfl
theorem isVal_iface (t:TypeId) (x:SV):SV.isVal (.iface t x)=true:=nr rfl
theorem isVal_nils:SV.isVal (.nils)=true:=nr rfl
theorem isVal_nili:SV.isVal (.nili)=true:=nr rfl
theorem isVal_nilf:SV.isVal (.nilf)=true:=nr rfl
theorem isVal_nilp:SV.isVal (.nilp)=true:=nr rfl
theorem isVal_nilm:SV.isVal (.nilm)=true:=nr rfl
theorem isVal_anyb:SV.isVal (.anyb)=true:=nr rfl
theorem isVal_arr (n w:Nat) (f:Nat→SV):SV.isVal (.arr n w f)=true:=nr rfl
theorem isVal_agg (l:List SV):SV.isVal (.agg l)=true:=nr rfl
theorem isVal_tup (l:List SV):SV.isVal (.tup l)=false:=nr rfl
theorem isSet_tup (l:List SV):SV.isSet (.tup l)=true:=nr rfl
theorem isSet_int (k:IntKind) (n:Int):SV.isSet (.int k n)=true:=nr rfl
theorem isSet_bool (b:Bool):SV.isSet (.bool b)=true:=nr rfl
theorem isSet_agg (l:List SV):SV.isSet (.agg l)=true:=nr rfl
theorem isSet_str (s:List UInt8):SV.isSet (.str s)=true:=nr rfl
theorem isVal_junk:SV.isVal .junk=false:=nr rfl
theorem getP_nil (c:SV):getP c []=c:=nr rfl
theorem getP_fld (l:List SV) (k:Nat) (p:List Step):getP (.agg l) (.fld k::p)=getP (l.getD k .junk) p:=nr rfl
theorem getP_idx (n w:Nat) (f:Nat→SV) (i n':Nat) (p:List Step):getP (.arr n w f) (.idx i n'::p)=getP (f i) p:=nr rfl
theorem setP_nil (c x:SV):setP c [] x=x:=nr rfl
theorem setP_fld (l:List SV) (k:Nat) (p:List Step) (x:SV):setP (.agg l) (.fld k::p) x= .agg (l.set k (setP (l.getD k .junk) p x)):=nr rfl
theorem setP_idx (n w:Nat) (f:Nat→SV) (i n':Nat) (p:List Step) (x:SV):setP (.arr n w f) (.idx i n'::p) x= .arr n w (updS f i (setP (f i) p x)):=nr rfl
theorem atP_nil (c:SV) (a o:Nat):atP c [] a o=(o=a):=propext Iff.rfl
theorem atP_fld (l:List SV) (k:Nat) (p:List Step) (a o:Nat):atP (.agg l) (.fld k::p) a o=(k<l.length∧atP (l.getD k .junk) p (a+wds (l.take k)) o):=propext Iff.rfl
theorem atP_idx (n w:Nat) (f:Nat→SV) (i n':Nat) (p:List Step) (a o:Nat):atP (.arr n w f) (.idx i n'::p) a o=(n'=n∧atP (f i) p (a+i*w) o):=propext Iff.rfl
theorem pathOk_nil:pathOk []=True:=propext Iff.rfl
theorem pathOk_fld (k:Nat) (p:List Step):pathOk (.fld k::p)=pathOk p:=propext Iff.rfl
theorem pathOk_idx (i n:Nat) (p:List Step):pathOk (.idx i n::p)=(i<n∧pathOk p):=propext Iff.rfl
theorem ren_int (r:Nat→Option Nat) (k:IntKind) (n:Int):ren r (.int k n)= .int k n:=nr rfl
theorem kill_int (i0:Nat) (k:IntKind) (n:Int):kill i0 (.int k n)= .int k n:=nr rfl
theorem ren_bool (r:Nat→Option Nat) (b:Bool):ren r (.bool b)= .bool b:=nr rfl
theorem kill_bool (i0:Nat) (b:Bool):kill i0 (.bool b)= .bool b:=nr rfl
theorem ren_str (r:Nat→Option Nat) (s:List UInt8):ren r (.str s)= .str s:=nr rfl
theorem kill_str (i0:Nat) (s:List UInt8):kill i0 (.str s)= .str s:=nr rfl
theorem ren_lst (r:Nat→Option Nat) {υ:Type} (w:Nat) (d:υ) (f:υ→SV) (l:List υ):ren r (.lst w d f l)= .lst w d f l:=nr rfl
theorem kill_lst (i0:Nat) {υ:Type} (w:Nat) (d:υ) (f:υ→SV) (l:List υ):kill i0 (.lst w d f l)= .lst w d f l:=nr rfl
theorem ren_eptr (r:Nat→Option Nat) {υ:Type} (w:Nat) (d:υ) (f:υ→SV) (l:List υ) (i:Nat) (p:List Step) (o:Nat):ren r (.eptr w d f l i p o)= .eptr w d f l i p o:=nr rfl
theorem kill_eptr (i0:Nat) {υ:Type} (w:Nat) (d:υ) (f:υ→SV) (l:List υ) (i:Nat) (p:List Step) (o:Nat):kill i0 (.eptr w d f l i p o)= .eptr w d f l i p o:=nr rfl
theorem ren_ref (r:Nat→Option Nat) (c:SV) (p:List Step) (o:Nat):ren r (.ref c p o)= .ref c p o:=nr rfl
theorem kill_ref (i0:Nat) (c:SV) (p:List Step) (o:Nat):kill i0 (.ref c p o)= .ref c p o:=nr rfl
theorem kill_ptr (i0:Nat) (i:Nat) (p:List Step) (o:Nat):kill i0 (.ptr i p o)= .ptr i p o:=nr rfl
theorem kill_map (i0:Nat) (i:Nat):kill i0 (.map i)= .map i:=nr rfl
theorem ren_nils (r:Nat→Option Nat):ren r (.nils)= .nils:=nr rfl
theorem kill_nils (i0:Nat):kill i0 (.nils)= .nils:=nr rfl
theorem ren_nili (r:Nat→Option Nat):ren r (.nili)= .nili:=nr rfl
theorem kill_nili (i0:Nat):kill i0 (.nili)= .nili:=nr rfl
theorem ren_nilf (r:Nat→Option Nat):ren r (.nilf)= .nilf:=nr rfl
theorem kill_nilf (i0:Nat):kill i0 (.nilf)= .nilf:=nr rfl
theorem ren_nilp (r:Nat→Option Nat):ren r (.nilp)= .nilp:=nr rfl
theorem kill_nilp (i0:Nat):kill i0 (.nilp)= .nilp:=nr rfl
theorem ren_nilm (r:Nat→Option Nat):ren r (.nilm)= .nilm:=nr rfl
theorem kill_nilm (i0:Nat):kill i0 (.nilm)= .nilm:=nr rfl
theorem ren_anyb (r:Nat→Option Nat):ren r (.anyb)= .anyb:=nr rfl
theorem kill_anyb (i0:Nat):kill i0 (.anyb)= .anyb:=nr rfl
theorem ren_junk (r:Nat→Option Nat):ren r .junk= .junk:=nr rfl
theorem kill_junk (i:Nat):kill i .junk= .junk:=nr rfl
theorem ren_vec (r:Nat→Option Nat) (j n:Nat):ren r (.vec j n)=renI r j fun k=> .vec k n:=nr rfl
theorem ren_vptr (r:Nat→Option Nat) (j a:Nat) (p:List Step) (o:Nat):ren r (.vptr j a p o)=renI r j fun k=> .vptr k a p o:=nr rfl
theorem ren_pvec (r:Nat→Option Nat) (j n:Nat):ren r (.pvec j n)=renI r j fun k=> .pvec k n:=nr rfl
theorem ren_ptr (r:Nat→Option Nat) (j:Nat) (p:List Step) (o:Nat):ren r (.ptr j p o)=renI r j fun k=> .ptr k p o:=nr rfl
theorem ren_map (r:Nat→Option Nat) (j:Nat):ren r (.map j)=renI r j .map:=nr rfl
theorem ren_arr (r:Nat→Option Nat) (n w:Nat) (f:Nat→SV):ren r (.arr n w f)= .arr n w fun k=>ren r (f k):=nr rfl
theorem ren_agg (r:Nat→Option Nat) (l:List SV):ren r (.agg l)= .agg (renL r l):=nr rfl
theorem ren_tup (r:Nat→Option Nat) (l:List SV):ren r (.tup l)= .tup (renL r l):=nr rfl
theorem ren_fn (r:Nat→Option Nat) (f:FuncId) (l:List SV):ren r (.fn f l)= .fn f (renL r l):=nr rfl
theorem ren_iface (r:Nat→Option Nat) (t:TypeId) (x:SV):ren r (.iface t x)= .iface t (ren r x):=nr rfl
theorem renL_nil (r:Nat→Option Nat):renL r []=[]:=nr rfl
theorem renL_cons (r:Nat→Option Nat) (x:SV) (l:List SV):renL r (x::l)=ren r x::renL r l:=nr rfl
theorem renI_eq (r:Nat→Option Nat) (i:Nat) (f:Nat→SV):renI r i f=(match r i with
  |some j=>f j
  |none=> .junk):=nr rfl
theorem renR_dead (r:Nat→Option Nat):renR r .dead= .dead:=nr rfl
theorem renR_blk (r:Nat→Option Nat) (T:TypeId) (c:SV):renR r (.blk T c)= .blk T (ren r c):=nr rfl
theorem renR_mp (r:Nat→Option Nat) (ek ev:ES) (l:List (SV×SV)):renR r (.mp ek ev l)= .mp ek ev l:=nr rfl
theorem killR_mp (i:Nat) (ek ev:ES) (l:List (SV×SV)):killR i (.mp ek ev l)= .mp ek ev l:=nr rfl
theorem renR_vec (r:Nat→Option Nat) (T:TypeId) (w:Nat) (l:List SV):renR r (.vec T w l)= .vec T w (renL r l):=nr rfl
theorem kill_vec (i j n:Nat):kill i (.vec j n)=if j=i then .junk else .vec j n:=nr rfl
theorem kill_vptr (i j a:Nat) (p:List Step) (o:Nat):kill i (.vptr j a p o)=if j=i then .junk else .vptr j a p o:=nr rfl
theorem kill_pvec (i j n:Nat):kill i (.pvec j n)=if j=i then .junk else .pvec j n:=nr rfl
theorem kill_arr (i n w:Nat) (f:Nat→SV):kill i (.arr n w f)= .arr n w fun k=>kill i (f k):=nr rfl
theorem kill_agg (i:Nat) (l:List SV):kill i (.agg l)= .agg (killL i l):=nr rfl
theorem kill_tup (i:Nat) (l:List SV):kill i (.tup l)= .tup (killL i l):=nr rfl
theorem kill_fn (i:Nat) (f:FuncId) (l:List SV):kill i (.fn f l)= .fn f (killL i l):=nr rfl
theorem kill_iface (i:Nat) (t:TypeId) (x:SV):kill i (.iface t x)= .iface t (kill i x):=nr rfl
theorem killL_nil (i:Nat):killL i []=[]:=nr rfl
theorem killL_cons (i:Nat) (x:SV) (l:List SV):killL i (x::l)=kill i x::killL i l:=nr rfl
theorem killR_dead (i:Nat):killR i .dead= .dead:=nr rfl
theorem killR_blk (i:Nat) (T:TypeId) (c:SV):killR i (.blk T c)= .blk T (kill i c):=nr rfl
theorem killR_vec (i:Nat) (T:TypeId) (w:Nat) (l:List SV):killR i (.vec T w l)= .vec T w (killL i l):=nr rfl
theorem slLen_lst {υ:Type} (w:Nat) (d:υ) (f:υ→SV) (l:List υ):slLen (.lst w d f l)=some l.length:=nr rfl
theorem slLen_nils:slLen .nils=some 0:=nr rfl
theorem slLen_vec (i n:Nat):slLen (.vec i n)=some n:=nr rfl
theorem srcL_vec (m:List Res) (w j n:Nat):srcL m w (.vec j n)=(match memAt m j with
  | .vec _ w' l=>if w'=w then some l else none
  |_=>none):=nr rfl
theorem srcL_lst {υ:Type} (m:List Res) (w w':Nat) (d:υ) (f:υ→SV) (l:List υ):srcL m w (.lst w' d f l)=if w'=w then some (l.map f) else none:=nr rfl
theorem srcL_lit {υ:Type} (m:List Res) (w w':Nat) (d:υ) (f:υ→SV) (l:List υ):srcL m w (.lit w' d f l)=if w'=w then some (l.map f) else none:=nr rfl
theorem srcL_nils (m:List Res) (w:Nat):srcL m w .nils=some []:=nr rfl
theorem memAt_zero (x:Res) (m:List Res):memAt (x::m) 0=x:=nr rfl
theorem memAt_succ (x:Res) (m:List Res) (i:Nat):memAt (x::m) (i+1)=memAt m i:=nr rfl
theorem goneAt_nil (m:List Res) (k:Nat):goneAt [] m k=none:=nr rfl
theorem goneAt_dead (m:List Res) (y:Res) (m':List Res) (k:Nat):goneAt (.dead::m) (y::m') k=goneAt m m' (k+1):=nr rfl
theorem goneAt_bb (T T':TypeId) (c c':SV) (m m':List Res) (k:Nat):goneAt (.blk T c::m) (.blk T' c'::m') k=goneAt m m' (k+1):=nr rfl
theorem goneAt_vv (T T':TypeId) (w w':Nat) (l l':List SV) (m m':List Res) (k:Nat):goneAt (.vec T w l::m) (.vec T' w' l'::m') k=goneAt m m' (k+1):=nr rfl
theorem goneAt_mm (e1 e2 e3 e4:ES) (l l':List (SV×SV)) (m m':List Res) (k:Nat):goneAt (.mp e1 e2 l::m) (.mp e3 e4 l'::m') k=goneAt m m' (k+1):=nr rfl
theorem goneAt_md (e1 e2:ES) (l:List (SV×SV)) (m m':List Res) (k:Nat):goneAt (.mp e1 e2 l::m) (.dead::m') k=some k:=nr rfl
theorem goneAt_vd (T:TypeId) (w:Nat) (l:List SV) (m m':List Res) (k:Nat):goneAt (.vec T w l::m) (.dead::m') k=some k:=nr rfl
theorem goneAt_bd (T:TypeId) (c:SV) (m m':List Res) (k:Nat):goneAt (.blk T c::m) (.dead::m') k=some k:=nr rfl
theorem look_nil (k:Nat):look k .nil= .junk:=nr rfl
theorem look_put (k j:Nat) (x:SV) (r:Fr):look k (.put j x r)=if k=j then x else look k r:=nr rfl
theorem look_pick (k s d:Nat) (x:SV) (r:Fr):look k (.pick s d x r)=if k=d then x else if s<k∧k<d then .junk else look k r:=nr rfl
theorem fv_t (τ:Fr) (n:Nat):Opd.fv τ (.t n)=look n τ:=nr rfl
theorem fv_c (τ:Fr) (x:SV):Opd.fv τ (.c x)=x:=nr rfl
theorem putF_none (x:SV) (τ:Fr):putF none x τ=τ:=nr rfl
theorem putF_some (d:Nat) (x:SV) (τ:Fr):putF (some d) x τ= .put d x τ:=nr rfl
theorem keepF_nil (τ:Fr):keepF [] τ= .nil:=nr rfl
theorem keepF_cons (k:Nat) (ks:List Nat) (τ:Fr):keepF (k::ks) τ= .put k (look k τ) (keepF ks τ):=nr rfl
theorem ofF_nil (τ:Fr):Sx.ofF [] [] τ=τ:=nr rfl
theorem ofF_cons (k:Nat) (ks:List Nat) (x:SV) (xs:List SV) (τ:Fr):Sx.ofF (k::ks) (x::xs) τ= .put k x (Sx.ofF ks xs τ):=nr rfl
theorem atF_nil (τ:Fr):atF [] [] τ=True:=propext Iff.rfl
theorem atF_cons (k:Nat) (ks:List Nat) (x:SV) (xs:List SV) (τ:Fr):atF (k::ks) (x::xs) τ=(look k τ=x∧atF ks xs τ):=propext Iff.rfl
theorem atR_nil (r:Nat→Option Nat) (τ:Fr):atR r [] [] τ=True:=propext Iff.rfl
theorem atR_cons (r:Nat→Option Nat) (k:Nat) (ks:List Nat) (x:SV) (xs:List SV) (τ:Fr):atR r (k::ks) (x::xs) τ=(ren r (look k τ)=x∧atR r ks xs τ):=propext Iff.rfl
theorem sameR_nil (r:Nat→Option Nat) (τ τ':Fr):sameR r τ τ' []=True:=propext Iff.rfl
theorem sameR_cons (r:Nat→Option Nat) (τ τ':Fr) (k:Nat) (ks:List Nat):sameR r τ τ' (k::ks)=(ren r (look k τ')=look k τ∧sameR r τ τ' ks):=propext Iff.rfl
theorem ltI_eq (n i:Nat):ltI n i=if i<n then some i else none:=nr rfl
theorem killF_nil (i:Nat):killF i .nil= .nil:=nr rfl
theorem killF_put (i k:Nat) (x:SV) (r:Fr):killF i (.put k x r)= .put k (kill i x) (killF i r):=nr rfl
theorem killF_pick (i s d:Nat) (x:SV) (r:Fr):killF i (.pick s d x r)= .pick s d (kill i x) (killF i r):=nr rfl
theorem renF_nil (r:Nat→Option Nat):renF r .nil= .nil:=nr rfl
theorem renF_put (r:Nat→Option Nat) (k:Nat) (x:SV) (t:Fr):renF r (.put k x t)= .put k (ren r x) (renF r t):=nr rfl
theorem renF_pick (r:Nat→Option Nat) (s d:Nat) (x:SV) (t:Fr):renF r (.pick s d x t)= .pick s d (ren r x) (renF r t):=nr rfl
theorem junkF_nil (τ:Fr):junkF [] τ=τ:=nr rfl
theorem junkF_cons (k:Nat) (ks:List Nat) (τ:Fr):junkF (k::ks) τ= .put k .junk (junkF ks τ):=nr rfl
theorem dsts_nil:SL.dsts .nil=[]:=nr rfl
theorem dsts_some (d:Nat) (x:IO1) (r:SL):SL.dsts (.op (some d) x r)=d::r.dsts:=nr rfl
theorem dsts_none (x:IO1) (r:SL):SL.dsts (.op none x r)=r.dsts:=nr rfl
theorem dsts_prune (ks:List Nat) (r:SL):SL.dsts (.prune ks r)=r.dsts:=nr rfl
theorem argF_nil (k:Nat):argF k []= .nil:=nr rfl
theorem argF_cons (k:Nat) (x:SV) (r:List SV):argF k (x::r)= .put k x (argF (k+1) r):=nr rfl
theorem peekG_ptr {α:Type} {A:Ans α} {m:List Res} {n:Nat} {ag:Bool} {K:SV→α} (i:Nat) (p:List Step) (o:Nat):peekG A m n ag K (.ptr i p o)=(match memAt m i with
  | .blk _ c=>A.need (atP c p 0 o∧wd (getP c p)=n∧(getP c p).isAgg=ag) (K (getP c p))
  |_=>A.bad):=nr rfl
theorem peekG_eptr {α:Type} {A:Ans α} {m:List Res} {n:Nat} {ag:Bool} {K:SV→α} {υ:Type} (w:Nat) (d:υ) (f:υ→SV) (l:List υ) (i:Nat) (p:List Step) (o:Nat):peekG A m n ag K (.eptr w d f l i p o)=A.need (atP (f (l.getD i d)) p 0 o∧wd (getP (f (l.getD i d)) p)=n∧(getP (f (l.getD i d)) p).isAgg=ag) (K (getP (f (l.getD i d)) p)):=nr rfl
theorem peekG_vptr {α:Type} {A:Ans α} {m:List Res} {n:Nat} {ag:Bool} {K:SV→α} (i j:Nat) (p:List Step) (o:Nat):peekG A m n ag K (.vptr i j p o)=(match memAt m i with
  | .vec _ w l=>A.need (j<l.length∧atP (l.getD j .junk) p (j*w) o∧wd (getP (l.getD j .junk) p)=n∧(getP (l.getD j .junk) p).isAgg=ag) (K (getP (l.getD j .junk) p))
  |_=>A.bad):=nr rfl
theorem peekG_ref {α:Type} {A:Ans α} {m:List Res} {n:Nat} {ag:Bool} {K:SV→α} (c:SV) (p:List Step) (o:Nat):peekG A m n ag K (.ref c p o)=A.need (atP c p 0 o∧wd (getP c p)=n∧(getP c p).isAgg=ag) (K (getP c p)):=nr rfl
theorem peek_ptr {m:List Res} {n:Nat} {ag:Bool} {K:SV→Prop} (i:Nat) (p:List Step) (o:Nat):peek m n ag K (.ptr i p o)=(match memAt m i with
  | .blk _ c=>(atP c p 0 o∧wd (getP c p)=n∧(getP c p).isAgg=ag)∧K (getP c p)
  |_=>False):=propext Iff.rfl
theorem peek_ref {m:List Res} {n:Nat} {ag:Bool} {K:SV→Prop} (c:SV) (p:List Step) (o:Nat):peek m n ag K (.ref c p o)=((atP c p 0 o∧wd (getP c p)=n∧(getP c p).isAgg=ag)∧K (getP c p)):=propext Iff.rfl
theorem poke_ptr {m:List Res} {n:Nat} {v:SV} {K:List Res→Prop} (i:Nat) (p:List Step) (o:Nat):poke m n v K (.ptr i p o)=(match memAt m i with
  | .blk T c=>(atP c p 0 o∧wd (getP c p)=n∧wd v=n∧v.isVal=true)∧K (m.set i (.blk T (setP c p v)))
  |_=>False):=propext Iff.rfl
theorem poke_vptr {m:List Res} {n:Nat} {v:SV} {K:List Res→Prop} (i j:Nat) (p:List Step) (o:Nat):poke m n v K (.vptr i j p o)=(match memAt m i with
  | .vec T w l=>(j<l.length∧atP (l.getD j .junk) p (j*w) o∧wd (getP (l.getD j .junk) p)=n∧wd v=n∧v.isVal=true)∧K (m.set i (.vec T w (l.set j (setP (l.getD j .junk) p v))))
  |_=>False):=propext Iff.rfl
theorem stepG_ptr {α:Type} {A:Ans α} {s:Step} {off:Nat} {K:SV→α} (i:Nat) (p:List Step) (o:Nat):stepG A s off K (.ptr i p o)=K (.ptr i (p++[s]) (o+off)):=nr rfl
theorem stepG_eptr {α:Type} {A:Ans α} {s:Step} {off:Nat} {K:SV→α} {υ:Type} (w:Nat) (d:υ) (f:υ→SV) (l:List υ) (i:Nat) (p:List Step) (o:Nat):stepG A s off K (.eptr w d f l i p o)=K (.eptr w d f l i (p++[s]) (o+off)):=nr rfl
theorem stepG_vptr {α:Type} {A:Ans α} {s:Step} {off:Nat} {K:SV→α} (i j:Nat) (p:List Step) (o:Nat):stepG A s off K (.vptr i j p o)=K (.vptr i j (p++[s]) (o+off)):=nr rfl
theorem stepG_ref {α:Type} {A:Ans α} {s:Step} {off:Nat} {K:SV→α} (c:SV) (p:List Step) (o:Nat):stepG A s off K (.ref c p o)=K (.ref c (p++[s]) (o+off)):=nr rfl
theorem kinds_add (k k':IntKind):AOp.kinds k k' .add=(k'=k):=propext Iff.rfl
theorem kinds_sub (k k':IntKind):AOp.kinds k k' .sub=(k'=k):=propext Iff.rfl
theorem kinds_mul (k k':IntKind):AOp.kinds k k' .mul=(k'=k):=propext Iff.rfl
theorem kinds_quo (k k':IntKind):AOp.kinds k k' .quo=(k'=k):=propext Iff.rfl
theorem kinds_rem (k k':IntKind):AOp.kinds k k' .rem=(k'=k):=propext Iff.rfl
theorem kinds_and (k k':IntKind):AOp.kinds k k' .and=(k'=k):=propext Iff.rfl
theorem kinds_or (k k':IntKind):AOp.kinds k k' .or=(k'=k):=propext Iff.rfl
theorem kinds_xor (k k':IntKind):AOp.kinds k k' .xor=(k'=k):=propext Iff.rfl
theorem kinds_andNot (k k':IntKind):AOp.kinds k k' .andNot=(k'=k):=propext Iff.rfl
theorem kinds_shl (k k':IntKind):AOp.kinds k k' .shl=True:=propext Iff.rfl
theorem kinds_shr (k k':IntKind):AOp.kinds k k' .shr=True:=propext Iff.rfl
theorem vopC_p {Γ:FH} {m:List Res} {τ:Fr} {K:SV→Prop→Prop} {acc:Prop} (p:PIO):vopC Γ m τ K (.p p) acc=popG AC (Opd.fv τ) K p acc:=nr rfl
theorem vopC_load {Γ:FH} {m:List Res} {τ:Fr} {K:SV→Prop→Prop} {acc:Prop} (n:Nat) (ag:Bool) (x:Opd):vopC Γ m τ K (.e (.load n ag x)) acc=peekG AC m n ag K (x.fv τ) acc:=nr rfl
theorem vopC_call {Γ:FH} {m:List Res} {τ:Fr} {K:SV→Prop→Prop} {acc:Prop} (f:FuncId) (ys:List Opd):vopC Γ m τ K (.e (.call f ys)) acc=callC (Γ f (ys.map (Opd.fv τ)) m) K (acc∧(ys.map (Opd.fv τ)).all SV.isVal=true):=nr rfl
theorem vopC_qcall {Γ:FH} {m:List Res} {τ:Fr} {K:SV→Prop→Prop} {acc:Prop} (f:FuncId) (ys:List Opd):vopC Γ m τ K (.e (.qcall f ys)) acc=callC (Γ f (ys.map (Opd.fv τ)) m) K (acc∧(ys.map (Opd.fv τ)).all SV.isVal=true):=nr rfl
theorem vopC_qtab {Γ:FH} {m:List Res} {τ:Fr} {K:SV→Prop→Prop} {acc:Prop} (l:List Int):vopC Γ m τ K (.e (.qtab l)) acc=K (.lst 1 (0:Int) (SV.int .i64) l) acc:=nr rfl
theorem vopC_mop {Γ:FH} {m:List Res} {τ:Fr} {K:SV→Prop→Prop} {acc:Prop} (k:MK) (ys:List Opd):vopC Γ m τ K (.e (.mop k ys)) acc=mopG AC m k (ys.map (Opd.fv τ)) K (acc∧(ys.map (Opd.fv τ)).all SV.isVal=true):=nr rfl
theorem mopG_get {α:Type} {A:Ans α} {m:List Res} {K:SV→α} (ek ev:ES) (z:SV) (ok:Bool) (i:Nat) (key:SV):mopG A m (.get ek ev z ok) [.map i,key] K=(match memAt m i with
  | .mp ek' ev' l=>A.need (ek'=ek∧ev'=ev∧esP ek key) (K (if ok then .tup [mpRes ev z (mpFind ek key l), .bool (mpFind ek key l).isSome] else mpRes ev z (mpFind ek key l)))
  |_=>A.bad):=nr rfl
theorem mopK_get {m:List Res} {K:SV→List Res→Prop} (ek ev:ES) (z:SV) (ok:Bool) (i:Nat) (key:SV):mopK m (.get ek ev z ok) [.map i,key] K=(match memAt m i with
  | .mp ek' ev' l=>(ek'=ek∧ev'=ev∧esP ek key)∧K (if ok then .tup [mpRes ev z (mpFind ek key l), .bool (mpFind ek key l).isSome] else mpRes ev z (mpFind ek key l)) m
  |_=>False):=nr rfl
theorem mopG_mlen {α:Type} {A:Ans α} {m:List Res} {K:SV→α} (i:Nat):mopG A m .mlen [.map i] K=(match memAt m i with
  | .mp _ _ l=>K (.int .i64 l.length)
  |_=>A.bad):=nr rfl
theorem mopK_mlen {m:List Res} {K:SV→List Res→Prop} (i:Nat):mopK m .mlen [.map i] K=(match memAt m i with
  | .mp _ _ l=>K (.int .i64 l.length) m
  |_=>False):=nr rfl
theorem mopK_put {m:List Res} {K:SV→List Res→Prop} (ek ev:ES) (i:Nat) (key v:SV):mopK m (.put ek ev) [.map i,key,v] K=(match memAt m i with
  | .mp ek' ev' l=>(ek'=ek∧ev'=ev∧esP ek key∧evP ev v)∧K .junk (m.set i (.mp ek ev (mpPut ek key v l)))
  |_=>False):=nr rfl
theorem mopK_strb {m:List Res} {K:SV→List Res→Prop} (x:SV):mopK m .strb [x] K=(match srcL m 1 x with
   |some l=>match bytesOf l with
    |some bs=>K (.str bs) m
    |none=>False
   |none=>False):=nr rfl
theorem mopK_bstr {m:List Res} {K:SV→List Res→Prop} (s:List UInt8):mopK m .bstr [.str s] K=(s.length≤140737488355328∧K (.lst 1 (0:UInt8) (fun b=>SV.int .u8 (b.toNat:Int)) s) m):=nr rfl
theorem slLen_lit {υ:Type} (w:Nat) (d:υ) (f:υ→SV) (l:List υ):slLen (.lit w d f l)=some l.length:=nr rfl
theorem wd_lit {υ:Type} (w:Nat) (d:υ) (f:υ→SV) (l:List υ):wd (.lit w d f l)=1:=nr rfl
theorem isAgg_lit {υ:Type} (w:Nat) (d:υ) (f:υ→SV) (l:List υ):(SV.lit w d f l).isAgg=false:=nr rfl
theorem isVal_lit {υ:Type} (w:Nat) (d:υ) (f:υ→SV) (l:List υ):(SV.lit w d f l).isVal=true:=nr rfl
theorem ren_lit {υ:Type} (r:Nat→Option Nat) (w:Nat) (d:υ) (f:υ→SV) (l:List υ):ren r (.lit w d f l)= .lit w d f l:=nr (by simp only [ren])
theorem kill_lit {υ:Type} (i:Nat) (w:Nat) (d:υ) (f:υ→SV) (l:List υ):kill i (.lit w d f l)= .lit w d f l:=nr (by simp only [kill])
theorem idsV_lit {υ:Type} (w:Nat) (d:υ) (f:υ→SV) (l:List υ):idsV (.lit w d f l)=[]:=nr (by simp only [idsV])
theorem bytesOf_u8 (s:List UInt8):bytesOf (s.map fun b=>SV.int .u8 (b.toNat:Int))=some s:=nr (by
 induction s with
 |nil=>rfl
 |cons n ns ih=>simp only [List.map_cons,bytesOf,ih,Option.map_some,Int.toNat_natCast,UInt8.ofNat_toNat])
theorem bytesOf_nil:bytesOf []=some []:=nr rfl
theorem bytesOf_map (ns:List Int):bytesOf (ns.map (SV.int .u8))=some (ns.map fun n=>UInt8.ofNat n.toNat):=nr (by
 induction ns with
 |nil=>rfl
 |cons n ns ih=>simp only [List.map_cons,bytesOf,ih,Option.map_some])
theorem bytesOf_emb (ns:List Int):bytesOf (ns.map DT.byte.emb)=some (ns.map fun n=>UInt8.ofNat n.toNat):=bytesOf_map ns
theorem bytesOf_cons (n:Int) (r:List SV):bytesOf (.int .u8 n::r)=(bytesOf r).map (UInt8.ofNat n.toNat:: ·):=nr rfl
theorem mopK_make {m:List Res} {K:SV→List Res→Prop} (ek ev:ES):mopK m (.make ek ev) [] K=K (.map m.length) (m++[.mp ek ev []]):=nr rfl
theorem mopK_makeN {m:List Res} {K:SV→List Res→Prop} (ek ev:ES) (k:IntKind) (n:Int):mopK m (.make ek ev) [.int k n] K=K (.map m.length) (m++[.mp ek ev []]):=nr rfl
theorem evP_bool (x:SV):evP .bool x=esP .bool x:=nr rfl
theorem evP_str (x:SV):evP .str x=esP .str x:=nr rfl
theorem evP_int (k:IntKind) (x:SV):evP (.int k) x=esP (.int k) x:=nr rfl
theorem evP_st (l:List ES) (x:SV):evP (.st l) x=esP (.st l) x:=nr rfl
theorem evP_fn (n:Int) (f:FuncId):evP (.arr 0 0 (.st [])) (.agg [.int .i64 n, .fn f []])=True:=eq_true trivial
theorem mpRes_fn (z:SV) (o:Option SV):mpRes (.arr 0 0 (.st [])) z o=o.getD z:=nr rfl
theorem mpRes_bool (z:SV) (o:Option SV):mpRes .bool z o= .bool (obB o):=nr rfl
theorem mpRes_st (l:List ES) (z:SV) (o:Option SV):mpRes (.st l) z o=o.getD z:=nr rfl
theorem mpRes_int (k:IntKind) (z:SV) (o:Option SV):mpRes (.int k) z o= .int k (obI o):=nr rfl
theorem vopC_callv {Γ:FH} {m:List Res} {τ:Fr} {K:SV→Prop→Prop} {acc:Prop} (x:Opd) (ys:List Opd):vopC Γ m τ K (.e (.callv x ys)) acc=(match x.fv τ with
  | .fn f cap=>AC.need ((ys.map (Opd.fv τ)).all SV.isVal=true) (callC (Γ f (ys.map (Opd.fv τ)++cap) m) K)
  |_=>AC.bad) acc:=nr rfl
theorem callC_ro (p:Prop) (r:SV) (K:SV→Prop→Prop) (acc:Prop):callC (.ro p r) K acc=K r (acc∧p):=nr rfl
theorem hook_ro (m:List Res) (p:Prop) (r:SV) (K:SV→List Res→Prop):Call.hook (.ro p r) m K=(p∧K r m):=propext Iff.rfl
theorem hook_is (m:List Res) (p:Prop) (r:SV) (m':List Res) (K:SV→List Res→Prop):Call.hook (.is p r m') m K=(p∧K r m'):=propext Iff.rfl
theorem ac_need (p:Prop) (x:Prop→Prop) (acc:Prop):AC.need p x acc=x (acc∧p):=nr rfl
theorem ac_bad (acc:Prop):AC.bad acc=False:=nr rfl
theorem ac_spl (b:Bool) (x y:Prop→Prop) (acc:Prop):AC.spl b x y acc=((b=true→x acc)∧(b=false→y acc)):=nr rfl
theorem vc_nil {Γ:FH} {m:List Res} {y:Opd} {τ:Fr} {K:Bool→Prop→Prop} {acc:Prop}:SL.vc Γ m .nil y τ K acc=(match y.fv τ with
  | .bool b=>K b acc
  |_=>False):=nr rfl
theorem vc_op {Γ:FH} {m:List Res} {y:Opd} {τ:Fr} {K:Bool→Prop→Prop} {acc:Prop} (d:Option Nat) (x:IO1) (r:SL):SL.vc Γ m (.op d x r) y τ K acc=vopC Γ m τ (fun sv acc'=>r.vc Γ m y (putF d sv τ) K acc') x acc:=nr rfl
theorem vc_sc {Γ:FH} {m:List Res} {y:Opd} {τ:Fr} {K:Bool→Prop→Prop} {acc:Prop} (or:Bool) (d s:Nat) (l:SL) (y':Opd) (r:SL):SL.vc Γ m (.sc or d s l y' r) y τ K acc=(match look s τ with
  | .bool b=>l.vc Γ m y' τ (fun q g=>r.vc Γ m y (.pick s d (.bool (if or then b||q else b&&q)) τ) K (acc∧(b=(!or)→g))) True
  |_=>False):=nr rfl
theorem vc_prune {Γ:FH} {m:List Res} {y:Opd} {τ:Fr} {K:Bool→Prop→Prop} {acc:Prop} (ks:List Nat) (r:SL):SL.vc Γ m (.prune ks r) y τ K acc=r.vc Γ m y (keepF ks τ) K acc:=nr rfl
theorem wp_nil {Γ:FH} {dr:Bool} {K:Fr→List Res→Prop} {τ:Fr} {m:List Res}:SL.wp Γ dr .nil K τ m=K τ m:=propext Iff.rfl
theorem wp_op {Γ:FH} {dr:Bool} {K:Fr→List Res→Prop} {τ:Fr} {m:List Res} (d:Option Nat) (x:IO1) (r:SL):SL.wp Γ dr (.op d x r) K τ m=opF Γ dr τ m (fun τ' sv m'=>r.wp Γ dr K (putF d sv τ') m') x:=propext Iff.rfl
theorem wp_sc {Γ:FH} {dr:Bool} {K:Fr→List Res→Prop} {τ:Fr} {m:List Res} (or:Bool) (d s:Nat) (l:SL) (y:Opd) (r:SL):SL.wp Γ dr (.sc or d s l y r) K τ m=(match look s τ with
  | .bool b=>l.vc Γ m y τ (fun q g=>(b=(!or)→g)∧r.wp Γ dr K (.pick s d (.bool (if or then b||q else b&&q)) τ) m) True
  |_=>False):=propext Iff.rfl
theorem wpg_nil {Γ:FH} {dr want:Bool} {s:Nat} {K:Fr→List Res→Prop} {τ:Fr} {m:List Res}:SL.wpg Γ dr s want .nil K τ m=(look s τ= .bool want∧K τ m):=propext Iff.rfl
theorem wpg_op {Γ:FH} {dr want:Bool} {s:Nat} {K:Fr→List Res→Prop} {τ:Fr} {m:List Res} (d:Option Nat) (x:IO1) (r:SL):SL.wpg Γ dr s want (.op d x r) K τ m=(look s τ= .bool want∧opF Γ dr τ m (fun τ' sv m'=>r.wpg Γ dr s want K (putF d sv τ') m') x):=propext Iff.rfl
theorem wpg_prune {Γ:FH} {dr want:Bool} {s:Nat} {K:Fr→List Res→Prop} {τ:Fr} {m:List Res} (ks:List Nat) (r:SL):SL.wpg Γ dr s want (.prune ks r) K τ m=r.wpg Γ dr s want K (keepF ks τ) m:=propext Iff.rfl
theorem wp_scd {Γ:FH} {dr:Bool} {K:Fr→List Res→Prop} {τ:Fr} {m:List Res} (or:Bool) (d s:Nat) (l:SL) (y:Opd) (r:SL):SL.wp Γ dr (.scd or d s l y r) K τ m=(match look s τ with
  | .bool b=>if b=or then l.wfg s d []=true∧r.wp Γ dr K (.pick s d (.bool or) τ) m else l.wpg Γ dr s (!or) (fun τ' m'=>match y.fv τ' with
   | .bool q=>r.wp Γ dr K (.pick s d (.bool q) τ') m'
   |_=>False) τ m
  |_=>False):=propext Iff.rfl
theorem wp_prune {Γ:FH} {dr:Bool} {K:Fr→List Res→Prop} {τ:Fr} {m:List Res} (ks:List Nat) (r:SL):SL.wp Γ dr (.prune ks r) K τ m=r.wp Γ dr K (keepF ks τ) m:=propext Iff.rfl
theorem vecsF_nils {k:Nat} {T:TypeId} {w:Nat} {K:Fr→List Res→Prop} {τ:Fr} {m:List Res}:vecsF k T w K τ m .nils=K (.put k (.vec m.length 0) τ) (m++[.vec T w []]):=propext Iff.rfl
theorem vecsF_vec {k:Nat} {T:TypeId} {w:Nat} {K:Fr→List Res→Prop} {τ:Fr} {m:List Res} (i n:Nat):vecsF k T w K τ m (.vec i n)=K τ m:=propext Iff.rfl
theorem vecsF_lst {υ:Type} {k:Nat} {T:TypeId} {w:Nat} {K:Fr→List Res→Prop} {τ:Fr} {m:List Res} (w':Nat) (d:υ) (f:υ→SV) (l:List υ):vecsF k T w K τ m (.lst w' d f l)=K τ m:=propext Iff.rfl
theorem endF_norm {rs:List ResultVar} {P:Program} {n0:Nat} {res:SV} {m1:List Res} {τ:Fr} {m:List Res}:endF rs P n0 res m1 .norm τ m=resF P τ m (fun x=>packJ (upto n0 0++newIds n0 (idsV x)) res m1 m x) rs:=propext Iff.rfl
theorem endF_ret {rs:List ResultVar} {P:Program} {n0:Nat} {res:SV} {m1:List Res} {τ:Fr} {m:List Res}:endF rs P n0 res m1 .ret τ m=resF P τ m (fun x=>packJ (upto n0 0++newIds n0 (idsV x)) res m1 m x) rs:=propext Iff.rfl
theorem endF_exit {rs:List ResultVar} {P:Program} {n0:Nat} {res:SV} {m1:List Res} {τ:Fr} {m:List Res} (i:Nat):endF rs P n0 res m1 (.exit i) τ m=False:=propext Iff.rfl
theorem resF_nil {P:Program} {τ:Fr} {m:List Res} {K:SV→Prop}:resF P τ m K []=K (.tup []):=propext Iff.rfl
theorem resF_tmp {P:Program} {τ:Fr} {m:List Res} {K:SV→Prop} (t:Nat):resF P τ m K [.tmp t]=((look t τ).isVal=true∧K (look t τ)):=propext Iff.rfl
theorem resF_cell {P:Program} {τ:Fr} {m:List Res} {K:SV→Prop} (t:Nat) (T:TypeId):resF P τ m K [.cell t T]=(match tsz P T with
  |some (n,ag)=>peek m n ag K (look t τ)
  |none=>False):=propext Iff.rfl
theorem resF_tt {P:Program} {τ:Fr} {m:List Res} {K:SV→Prop} (t:Nat) (r:ResultVar) (l:List ResultVar):resF P τ m K (.tmp t::r::l)=resF.go P τ m (.tmp t::r::l) fun xs=>K (.tup xs):=propext Iff.rfl
theorem resF_cc {P:Program} {τ:Fr} {m:List Res} {K:SV→Prop} (t:Nat) (T:TypeId) (r:ResultVar) (l:List ResultVar):resF P τ m K (.cell t T::r::l)=resF.go P τ m (.cell t T::r::l) fun xs=>K (.tup xs):=propext Iff.rfl
theorem resFgo_nil {P:Program} {τ:Fr} {m:List Res} {K:List SV→Prop}:resF.go P τ m [] K=K []:=propext Iff.rfl
theorem resFgo_tmp {P:Program} {τ:Fr} {m:List Res} {K:List SV→Prop} (t:Nat) (r:List ResultVar):resF.go P τ m (.tmp t::r) K=((look t τ).isVal=true∧resF.go P τ m r fun xs=>K (look t τ::xs)):=propext Iff.rfl
theorem resFgo_cell {P:Program} {τ:Fr} {m:List Res} {K:List SV→Prop} (t:Nat) (T:TypeId) (r:List ResultVar):resF.go P τ m (.cell t T::r) K=(match tsz P T with
  |some (n,ag)=>peek m n ag (fun x=>x.isVal=true∧resF.go P τ m r fun xs=>K (x::xs)) (look t τ)
  |none=>False):=propext Iff.rfl
theorem idsV_int (k:IntKind) (n:Int):idsV (.int k n)=[]:=nr rfl
theorem idsV_bool (b:Bool):idsV (.bool b)=[]:=nr rfl
theorem idsV_str (s:List UInt8):idsV (.str s)=[]:=nr rfl
theorem idsV_lst {υ:Type} (w:Nat) (d:υ) (f:υ→SV) (l:List υ):idsV (.lst w d f l)=[]:=nr rfl
theorem idsV_eptr {υ:Type} (w:Nat) (d:υ) (f:υ→SV) (l:List υ) (i:Nat) (p:List Step) (o:Nat):idsV (.eptr w d f l i p o)=[]:=nr rfl
theorem idsV_ref (c:SV) (p:List Step) (o:Nat):idsV (.ref c p o)=[]:=nr rfl
theorem idsV_ptr (i:Nat) (p:List Step) (o:Nat):idsV (.ptr i p o)=[i]:=nr rfl
theorem idsV_vec (i n:Nat):idsV (.vec i n)=[i]:=nr rfl
theorem idsV_vptr (i j:Nat) (p:List Step) (o:Nat):idsV (.vptr i j p o)=[i]:=nr rfl
theorem idsV_pvec (i n:Nat):idsV (.pvec i n)=[i]:=nr rfl
theorem idsV_map (i:Nat):idsV (.map i)=[i]:=nr rfl
theorem idsV_fn (f:FuncId) (c:List SV):idsV (.fn f c)=idsL c:=nr rfl
theorem idsV_iface (t:TypeId) (x:SV):idsV (.iface t x)=idsV x:=nr rfl
theorem idsV_nils:idsV (.nils)=[]:=nr rfl
theorem idsV_nili:idsV (.nili)=[]:=nr rfl
theorem idsV_nilf:idsV (.nilf)=[]:=nr rfl
theorem idsV_nilp:idsV (.nilp)=[]:=nr rfl
theorem idsV_nilm:idsV (.nilm)=[]:=nr rfl
theorem idsV_anyb:idsV (.anyb)=[]:=nr rfl
theorem idsV_arr (n w:Nat) (f:Nat→SV):idsV (.arr n w f)=[]:=nr rfl
theorem idsV_agg (l:List SV):idsV (.agg l)=idsL l:=nr rfl
theorem idsV_tup (l:List SV):idsV (.tup l)=idsL l:=nr rfl
theorem idsV_junk:idsV .junk=[]:=nr rfl
theorem idsL_nil:idsL []=[]:=nr rfl
theorem idsL_cons (x:SV) (r:List SV):idsL (x::r)=idsV x++idsL r:=nr rfl
theorem newIds_nil (n:Nat):newIds n []=[]:=nr rfl
theorem newIds_cons (n i:Nat) (r:List Nat):newIds n (i::r)=if i<n then newIds n r else i::newIds n r:=nr rfl
theorem upto_zero (k:Nat):upto 0 k=[]:=nr rfl
theorem upto_succ (n k:Nat):upto (n+1) k=k::upto n (k+1):=nr rfl
theorem nd_nil:nd []=True:=propext Iff.rfl
theorem nd_cons (k:Nat) (r:List Nat):nd (k::r)=(notIn k r∧nd r):=propext Iff.rfl
theorem notIn_nil (k:Nat):notIn k []=True:=propext Iff.rfl
theorem notIn_cons (k j:Nat) (r:List Nat):notIn k (j::r)=(k≠j∧notIn k r):=propext Iff.rfl
theorem selJ_nil (j i:Nat):selJ [] j i=none:=nr rfl
theorem selJ_cons (k:Nat) (r:List Nat) (j i:Nat):selJ (k::r) j i=if i=k then some j else selJ r (j+1) i:=nr rfl
theorem lenB_int (k:IntKind) (n:Int):lenB (.int k n)=True:=by simp only [lenB]
theorem lenB_bool (b:Bool):lenB (.bool b)=True:=by simp only [lenB]
theorem lenB_str (s:List UInt8):lenB (.str s)=True:=by simp only [lenB]
theorem lenB_eptr {υ:Type} (w:Nat) (d:υ) (f:υ→SV) (l:List υ) (i:Nat) (p:List Step) (o:Nat):lenB (.eptr w d f l i p o)=True:=by simp only [lenB]
theorem lenB_ptr (i:Nat) (p:List Step) (o:Nat):lenB (.ptr i p o)=True:=by simp only [lenB]
theorem lenB_vec (i n:Nat):lenB (.vec i n)=True:=by simp only [lenB]
theorem lenB_vptr (i j:Nat) (p:List Step) (o:Nat):lenB (.vptr i j p o)=True:=by simp only [lenB]
theorem lenB_pvec (i n:Nat):lenB (.pvec i n)=True:=by simp only [lenB]
theorem lenB_map (i:Nat):lenB (.map i)=True:=by simp only [lenB]
theorem lenB_fn (f:FuncId) (c:List SV):lenB (.fn f c)=True:=by simp only [lenB]
theorem lenB_iface (t:TypeId) (x:SV):lenB (.iface t x)=True:=by simp only [lenB]
theorem lenB_nils:lenB (.nils)=True:=by simp only [lenB]
theorem lenB_nili:lenB (.nili)=True:=by simp only [lenB]
theorem lenB_nilf:lenB (.nilf)=True:=by simp only [lenB]
theorem lenB_nilp:lenB (.nilp)=True:=by simp only [lenB]
theorem lenB_nilm:lenB (.nilm)=True:=by simp only [lenB]
theorem lenB_anyb:lenB (.anyb)=True:=by simp only [lenB]
theorem lenB_lst {υ:Type} (w:Nat) (d:υ) (f:υ→SV) (l:List υ):lenB (.lst w d f l)=(l.length≤9223372036854775807∧∀ x∈l,lenB (f x)):=by simp only [lenB]
theorem lenB_ref (c:SV) (p:List Step) (o:Nat):lenB (.ref c p o)=lenB c:=by simp only [lenB]
theorem lenB_agg (l:List SV):lenB (.agg l)=lenBL l:=by simp only [lenB]
theorem lenB_arr (n w:Nat) (f:Nat→SV):lenB (.arr n w f)= ∀ i,i<n→lenB (f i):=by simp only [lenB]
theorem lenBL_nil:lenBL []=True:=by simp only [lenBL]
theorem lenBL_cons (x:SV) (r:List SV):lenBL (x::r)=(lenB x∧lenBL r):=by simp only [lenBL]
theorem c_take_zero {α:Type _} (l:List α):l.take 0=[]:=nr rfl
theorem c_take_succ {α:Type _} (n:Nat) (x:α) (l:List α):(x::l).take (n+1)=x::l.take n:=nr rfl
theorem c_take_nil {α:Type _} (n:Nat):([]:List α).take n=[]:=by cases n<;>rfl
theorem c_drop_zero {α:Type _} (l:List α):l.drop 0=l:=nr rfl
theorem c_drop_succ {α:Type _} (n:Nat) (x:α) (l:List α):(x::l).drop (n+1)=l.drop n:=nr rfl
theorem c_zero_add (n:Nat):0+n=n:=nr (Nat.zero_add n)
theorem c_add_zero (n:Nat):n+0=n:=nr rfl
theorem c_toNat (n:Nat):(n:Int).toNat=n:=nr rfl
theorem c_replicate_zero {α:Type _} (x:α):List.replicate 0 x=[]:=nr rfl
theorem c_replicate_succ {α:Type _} (n:Nat) (x:α):List.replicate (n+1) x=x::List.replicate n x:=nr rfl
theorem c_length_nil {α:Type _}:([]:List α).length=0:=nr rfl
theorem c_length_cons {α:Type _} (x:α) (l:List α):(x::l).length=l.length+1:=nr rfl
theorem c_nil_append {α:Type _} (l:List α):[]++l=l:=nr rfl
theorem c_cons_append {α:Type _} (x:α) (a b:List α):(x::a)++b=x::(a++b):=nr rfl
theorem c_set_zero {α:Type _} (x y:α) (l:List α):(x::l).set 0 y=y::l:=nr rfl
theorem c_set_succ {α:Type _} (x y:α) (l:List α) (n:Nat):(x::l).set (n+1) y=x::l.set n y:=nr rfl
theorem c_getD_zero {α:Type _} (x d:α) (l:List α):(x::l).getD 0 d=x:=nr rfl
theorem c_getD_succ {α:Type _} (x d:α) (l:List α) (n:Nat):(x::l).getD (n+1) d=l.getD n d:=nr rfl
theorem c_map_nil {α β:Type _} (f:α→β):[].map f=[]:=nr rfl
theorem c_map_cons {α β:Type _} (f:α→β) (x:α) (l:List α):(x::l).map f=f x::l.map f:=nr rfl
theorem c_all_nil {α:Type _} (p:α→Bool):[].all p=true:=nr rfl
theorem c_all_cons {α:Type _} (p:α→Bool) (x:α) (l:List α):(x::l).all p=(p x&&l.all p):=nr rfl
theorem c_true_and (b:Bool):(true&&b)=b:=nr rfl
theorem c_and_true (b:Bool):(b&&true)=b:=by cases b<;>rfl
theorem c_false_and (b:Bool):(false&&b)=false:=nr rfl
theorem c_and_false (b:Bool):(b&&false)=false:=by cases b<;>rfl
theorem c_false_or (b:Bool):(false||b)=b:=nr rfl
theorem c_or_false (b:Bool):(b||false)=b:=by cases b<;>rfl
theorem c_true_or (b:Bool):(true||b)=true:=nr rfl
theorem c_or_true (b:Bool):(b||true)=true:=by cases b<;>rfl
theorem c_not_true:(!true)=false:=nr rfl
theorem c_not_false:(!false)=true:=nr rfl
theorem c_map_some {α β:Type _} (f:α→β) (x:α):(some x).map f=some (f x):=nr rfl
theorem c_map_none {α β:Type _} (f:α→β):(none:Option α).map f=none:=nr rfl
theorem c_length_map {α β:Type _} (f:α→β) (l:List α):(l.map f).length=l.length:=nr (List.length_map f)
theorem c_zero_lt (n:Nat):(0<n+1)=True:=eq_true (Nat.succ_pos n)
theorem c_ne_succ (n:Nat):(n=n+1)=False:=eq_false (by omega)
theorem c_shf (n j:Nat):shf n j=some (n+j):=nr rfl
theorem cop_eql (a b:Int):COp.ev a b .eql=decide (a=b):=nr rfl
theorem cop_neq (a b:Int):COp.ev a b .neq= !decide (a=b):=nr rfl
theorem cop_lss (a b:Int):COp.ev a b .lss=decide (a<b):=nr rfl
theorem cop_leq (a b:Int):COp.ev a b .leq=decide (a≤b):=nr rfl
theorem cop_gtr (a b:Int):COp.ev a b .gtr=decide (b<a):=nr rfl
theorem cop_geq (a b:Int):COp.ev a b .geq=decide (b≤a):=nr rfl
theorem eqV_int (k k1 k2:IntKind) (a b:Int):eqV (.int k) (.int k1 a) (.int k2 b)=decide (a=b):=nr rfl
theorem eqV_bool (a b:Bool):eqV .bool (.bool a) (.bool b)=(a==b):=nr rfl
theorem eqV_str (a b:List UInt8):eqV .str (.str a) (.str b)=decide (a=b):=nr rfl
theorem eqV_st (l:List ES) (xs ys:List SV):eqV (.st l) (.agg xs) (.agg ys)=eqVL l xs ys:=nr rfl
theorem eqV_arr (n w:Nat) (e:ES) (n1 w1 n2 w2:Nat) (f g:Nat→SV):eqV (.arr n w e) (.arr n1 w1 f) (.arr n2 w2 g)=(List.range n).all fun i=>eqV e (f i) (g i):=nr rfl
theorem eqVL_nil (xs ys:List SV):eqVL [] xs ys=true:=nr rfl
theorem eqVL_cons (e:ES) (l:List ES) (x y:SV) (xs ys:List SV):eqVL (e::l) (x::xs) (y::ys)=(eqV e x y&&eqVL l xs ys):=nr rfl
theorem fh_on (f:FuncId) (H:List SV→List Res→Call) (Γ:FH) (g:FuncId) (args:List SV) (m:List Res):FH.on f H Γ g args m=if g=f then H args m else Γ g args m:=nr rfl
theorem fh_none (g:FuncId) (args:List SV) (m:List Res):FH.none g args m= .no:=nr rfl
theorem fh_rd (f:FuncId) {α ρ:Type} (A:DA α) (R:DR ρ) (pre:α→Prop) (F:α→ρ) (Γ:FH) (g:FuncId) (args:List SV) (m:List Res):FH.rd f A R pre F Γ g args m=if g=f then .ro (A.decP m args∧pre (A.decV m args)) (R.emb (F (A.decV m args))) else Γ g args m:=nr rfl
theorem fh_pz (f:FuncId) {α ρ:Type} (A:DA α) (R:DP ρ) (pre:α→Prop) (F:α→ρ) (Γ:FH) (g:FuncId) (args:List SV) (m:List Res):FH.pz f A R pre F Γ g args m=if g=f then .ro (A.emb (A.decV [] args)=args∧pre (A.decV [] args)) (R.emb (F (A.decV [] args))) else Γ g args m:=nr rfl
theorem c_deads_nil:deads []=[]:=nr rfl
theorem c_deads_cons (x:Res) (m:List Res):deads (x::m)= .dead::deads m:=nr rfl
theorem fh_mk (f:FuncId) {α:Type} (A:DA α) (pre:α→Prop) (F:α→SV) (M:α→List Res) (Γ:FH) (g:FuncId) (args:List SV) (m:List Res):FH.mk f A pre F M Γ g args m=if g=f then .is (A.decP m args∧pre (A.decV m args)) (ren (shf m.length) (F (A.decV m args))) (m++(M (A.decV m args)).map (renR (shf m.length))) else Γ g args m:=nr rfl
theorem fh_mt (f:FuncId) {σ α ρ:Type} (T:TypeId) (d:DT σ) (A:DA α) (R:DR ρ) (pre:σ→α→Prop) (F:σ→α→ρ) (S:σ→α→σ) (Γ:FH) (g:FuncId) (i:Nat) (p:List Step) (o:Nat) (rest:List SV) (m:List Res):
  FH.mt f T d A R pre F S Γ g (.ptr i p o::rest) m=if g=f then (match memAt m i with
    | .blk T' c=> .is (T'=T∧p=[]∧o=0∧d.emb (d.decV [] c)=c∧A.emb (A.decV [] rest)=rest∧pre (d.decV [] c) (A.decV [] rest)) (R.emb (F (d.decV [] c) (A.decV [] rest))) (m.set i (.blk T (d.emb (S (d.decV [] c) (A.decV [] rest)))))
    |_=> .no) else Γ g (.ptr i p o::rest) m:=nr rfl
theorem fh_mt_not (f:FuncId) {σ α ρ:Type} (T:TypeId) (d:DT σ) (A:DA α) (R:DR ρ) (pre:σ→α→Prop) (F:σ→α→ρ) (S:σ→α→σ) (Γ:FH) (g:FuncId) (args:List SV) (m:List Res) (h:g≠f):
  FH.mt f T d A R pre F S Γ g args m=Γ g args m:=if_neg h
attribute [go_sem ↓] look_nil look_put look_pick fv_t fv_c putF_none putF_some keepF_nil keepF_cons ofF_nil ofF_cons atF_nil
attribute [go_sem ↓] atF_cons atR_nil atR_cons sameR_nil sameR_cons ltI_eq peekG_ptr peekG_eptr peekG_vptr peekG_ref peek_ptr peek_ref
attribute [go_sem ↓] poke_ptr poke_vptr stepG_ptr stepG_eptr stepG_vptr stepG_ref kinds_add kinds_sub kinds_mul kinds_quo kinds_rem kinds_and
attribute [go_sem ↓] kinds_or kinds_xor kinds_andNot kinds_shl kinds_shr vopC_p vopC_load vopC_call vopC_qcall vopC_qtab vopC_callv callC_ro
attribute [go_sem ↓] hook_ro hook_is ac_need ac_bad ac_spl vecsF_nils vecsF_vec vecsF_lst endF_norm endF_ret endF_exit resF_nil
attribute [go_sem ↓] resF_tmp resF_cell resF_tt resF_cc resFgo_nil resFgo_tmp resFgo_cell
attribute [go_sem] slLen_lit wd_lit isAgg_lit isVal_lit ren_lit kill_lit idsV_lit List.isEmpty_cons List.isEmpty_nil
attribute [go_sem] wd_int isAgg_int wd_bool isAgg_bool wd_str isAgg_str wd_lst isAgg_lst wd_eptr isAgg_eptr wd_ref isAgg_ref
attribute [go_sem] wd_ptr isAgg_ptr wd_vec isAgg_vec wd_vptr isAgg_vptr wd_pvec isAgg_pvec wd_map isAgg_map wd_fn isAgg_fn wd_iface isAgg_iface
attribute [go_sem] wd_nils isAgg_nils wd_nili isAgg_nili wd_nilf isAgg_nilf wd_nilp isAgg_nilp wd_nilm isAgg_nilm wd_anyb isAgg_anyb
attribute [go_sem] wd_junk wd_arr wd_agg wds_nil wds_cons isAgg_arr isAgg_agg isAgg_junk isVal_int isVal_bool isVal_str isVal_lst
attribute [go_sem] isVal_eptr isVal_ref isVal_ptr isVal_vec isVal_vptr isVal_pvec isVal_map isVal_fn isVal_iface isVal_nils isVal_nili isVal_nilf isVal_nilp
attribute [go_sem] isSet_tup isSet_int isSet_bool isSet_agg isSet_str mpRes_st isVal_nilm isVal_anyb isVal_arr isVal_agg isVal_tup isVal_junk getP_nil getP_fld getP_idx setP_nil setP_fld setP_idx
attribute [go_sem] atP_nil atP_fld atP_idx pathOk_nil pathOk_fld pathOk_idx ren_int kill_int ren_bool kill_bool ren_str kill_str
attribute [go_sem] ren_lst kill_lst ren_eptr kill_eptr ren_ref kill_ref kill_ptr kill_map ren_nils kill_nils ren_nili kill_nili
attribute [go_sem] ren_nilf kill_nilf ren_nilp kill_nilp ren_nilm kill_nilm ren_anyb kill_anyb ren_junk kill_junk ren_vec ren_vptr ren_pvec
attribute [go_sem] ren_ptr ren_map ren_arr ren_agg ren_tup ren_fn ren_iface renL_nil renL_cons renI_eq renR_dead renR_blk
attribute [go_sem] renR_mp killR_mp goneAt_mm goneAt_md mpRes_bool mpRes_int mpRes_fn
attribute [go_sem ↓] evP_bool evP_str evP_int evP_st evP_fn
attribute [go_sem ↓] vopC_mop mopG_mlen mopK_mlen mopG_get mopK_get mopK_put mopK_make mopK_makeN mopK_strb mopK_bstr bytesOf_u8 bytesOf_nil bytesOf_map bytesOf_emb bytesOf_cons
attribute [go_sem] renR_vec kill_vec kill_vptr kill_pvec kill_arr kill_agg kill_tup kill_fn kill_iface killL_nil killL_cons killR_dead killR_blk
attribute [go_sem] killR_vec slLen_lst slLen_nils slLen_vec srcL_vec srcL_lst srcL_lit srcL_nils memAt_zero memAt_succ goneAt_nil goneAt_dead goneAt_bb
attribute [go_sem] goneAt_vv goneAt_vd goneAt_bd killF_nil killF_put killF_pick renF_nil renF_put renF_pick junkF_nil junkF_cons dsts_nil
attribute [go_sem] dsts_some dsts_none dsts_prune argF_nil argF_cons vc_nil vc_op vc_sc vc_prune wp_nil wp_op wp_sc wp_scd wpg_nil wpg_op wpg_prune
attribute [go_sem] wp_prune idsV_int idsV_bool idsV_str idsV_lst idsV_eptr idsV_ref idsV_ptr idsV_vec idsV_vptr idsV_pvec idsV_map idsV_fn
attribute [go_sem] idsV_iface idsV_nils idsV_nili idsV_nilf idsV_nilp idsV_nilm idsV_anyb idsV_arr idsV_agg idsV_tup idsV_junk idsL_nil
attribute [go_sem] idsL_cons newIds_nil newIds_cons upto_zero upto_succ nd_nil nd_cons notIn_nil notIn_cons selJ_nil selJ_cons lenB_int
attribute [go_sem] lenB_bool lenB_str lenB_eptr lenB_ptr lenB_vec lenB_vptr lenB_pvec lenB_map lenB_fn lenB_iface lenB_nils lenB_nili lenB_nilf
attribute [go_sem] lenB_nilp lenB_nilm lenB_anyb lenB_lst lenB_ref lenB_agg lenB_arr lenBL_nil lenBL_cons
section waits
variable {α:Type} {Γ:FH} {n0:Nat}
def wrp.{u} {β:Sort u} (x:β):β:=x
theorem wrp_eq.{u} {β:Sort u} (x:β):wrp x=x:=Eq.trans (Eq.refl x) (Eq.refl x)
theorem jcwp_congr {c:JC} {Q:Ex→Fr→List Res→Prop} {τ τ':Fr} {m m':List Res} (h1:wrp τ=τ') (h2:wrp m=m'):JC.wp Γ n0 c Q τ m=JC.wp Γ n0 c Q τ' m':=by subst h1;subst h2;rfl
theorem jcwpL_congr {keep mod:List Nat} {c:JC} {Q:Ex→Fr→List Res→Prop} {hd:Hide Γ c Q} {τ τ':Fr} {m m':List Res} (h1:wrp τ=τ') (h2:wrp m=m'):JC.wpL Γ n0 keep mod c Q hd τ m=JC.wpL Γ n0 keep mod c Q hd τ' m':=by subst h1;subst h2;rfl
theorem slwpg_congr {dr want:Bool} {s:Nat} {l:SL} {K:Fr→List Res→Prop} {τ τ':Fr} {m m':List Res} (h1:wrp τ=τ') (h2:wrp m=m'):SL.wpg Γ dr s want l K τ m=SL.wpg Γ dr s want l K τ' m':=by subst h1;subst h2;rfl
theorem slwp_congr {dr:Bool} {l:SL} {K:Fr→List Res→Prop} {τ τ':Fr} {m m':List Res} (h1:wrp τ=τ') (h2:wrp m=m'):SL.wp Γ dr l K τ m=SL.wp Γ dr l K τ' m':=by subst h1;subst h2;rfl
theorem slvc_congr {m m':List Res} {l:SL} {y:Opd} {τ τ':Fr} {K:Bool→Prop→Prop} {acc acc':Prop} (h1:wrp τ=τ') (h2:wrp m=m') (h3:wrp acc=acc'):SL.vc Γ m l y τ K acc=SL.vc Γ m' l y τ' K acc':=by subst h1;subst h2;subst h3;rfl
theorem peekG_congr {A:Ans α} {m:List Res} {n:Nat} {ag:Bool} {K:SV→α} {x x':SV} (h:wrp x=x'):peekG A m n ag K x=peekG A m n ag K x':=by subst h;rfl
theorem peek_congr {m:List Res} {n:Nat} {ag:Bool} {K:SV→Prop} {x x':SV} (h:wrp x=x'):peek m n ag K x=peek m n ag K x':=by subst h;rfl
theorem poke_congr {m:List Res} {n:Nat} {v:SV} {K:List Res→Prop} {x x':SV} (h:wrp x=x'):poke m n v K x=poke m n v K x':=by subst h;rfl
theorem stepG_congr {A:Ans α} {s:Step} {off:Nat} {K:SV→α} {x x':SV} (h:wrp x=x'):stepG A s off K x=stepG A s off K x':=by subst h;rfl
theorem callC_congr {c c':Call} {K:SV→Prop→Prop} {acc:Prop} (h:wrp c=c'):callC c K acc=callC c' K acc:=by subst h;rfl
theorem callhook_congr {c c':Call} {m:List Res} {K:SV→List Res→Prop} (h:wrp c=c'):Call.hook c m K=Call.hook c' m K:=by subst h;rfl
theorem mopG_congr {A:Ans α} {m:List Res} {k:MK} {K:SV→α} {x x':List SV} (h:wrp x=x'):mopG A m k x K=mopG A m k x' K:=by subst h;rfl
theorem mopK_congr {m:List Res} {k:MK} {K:SV→List Res→Prop} {x x':List SV} (h:wrp x=x'):mopK m k x K=mopK m k x' K:=by subst h;rfl
theorem vecsF_congr {k:Nat} {T:TypeId} {w:Nat} {K:Fr→List Res→Prop} {τ:Fr} {m:List Res} {x x':SV} (h:wrp x=x'):vecsF k T w K τ m x=vecsF k T w K τ m x':=by subst h;rfl
theorem endF_congr {rs:List ResultVar} {P:Program} {n0:Nat} {res:SV} {m1:List Res} {e e':Ex} {τ:Fr} {m:List Res} (h:wrp e=e'):endF rs P n0 res m1 e τ m=endF rs P n0 res m1 e' τ m:=by subst h;rfl
attribute [congr] mopG_congr mopK_congr jcwp_congr jcwpL_congr slwp_congr slwpg_congr slvc_congr peekG_congr peek_congr poke_congr stepG_congr callC_congr callhook_congr vecsF_congr endF_congr
attribute [go_sem] wrp_eq
end waits
end W
attribute [go_sem ↓] W.fh_pz W.fh_on W.fh_none W.fh_rd W.fh_mk W.fh_mt W.fh_mt_not
attribute [go_sem] W.c_false_or W.c_or_false W.c_true_or W.c_or_true W.c_zero_lt W.c_ne_succ W.c_take_zero W.c_take_succ W.c_take_nil W.c_drop_zero W.c_drop_succ W.c_zero_add W.c_add_zero W.c_toNat W.c_replicate_zero W.c_replicate_succ W.c_length_nil W.c_length_cons W.c_nil_append W.c_cons_append W.c_set_zero W.c_set_succ W.c_getD_zero W.c_getD_succ W.c_map_nil W.c_map_cons W.c_all_nil W.c_all_cons W.c_true_and W.c_and_true W.c_false_and W.c_and_false W.c_not_true W.c_not_false W.c_map_some W.c_map_none W.c_length_map W.c_shf W.cop_eql W.cop_neq W.cop_lss W.cop_leq W.cop_gtr W.cop_geq W.eqV_int W.eqV_bool W.eqV_str W.eqV_st W.eqV_arr W.eqVL_nil W.eqVL_cons
attribute [go_sem] W.c_deads_nil W.c_deads_cons dp_one dp_two dp_three frz_P frz_dec jc_frz jc_frzv jc_pfz jc_frzb frzvF frzbF frzbG killK jc_sel jc_orc jc_skip jc_ops jc_dops jc_gops jc_seq jc_cond jc_block jc_exit jc_ret jc_prune jc_vecs jc_waits
attribute [go_sem ↓] tabES tabF qres qo eo qn en opF popG bldG boundG AOp.evG ap_need ap_bad ap_spl bslF tidyF selF packJ appM esP esPL datP datPL
attribute [go_sem] Int.cast_ofNat_Int Bool.false_eq_true true_implies false_implies not_true_eq_false not_false_eq_true forall_const implies_true SV.int.injEq SV.bool.injEq List.append_assoc List.append_nil Bool.not_eq_true' Bool.not_eq_false' decide_eq_true_eq decide_eq_false_iff_not Option.some.injEq and_true true_and and_self if_true if_false true_or or_true
attribute [go_sem] decide_true decide_false eta_unit eta_pair selI_eq ne_eq Prod.mk.injEq Nat.not_lt_zero
attribute [go_sem] renL_map_emb killL_map_emb killL_append renL_append List.map_id'
attribute [go_sem] allL_cons allL_nil allL_app allL_map allL_true dt_vE dt_pE dt_val dt_ren dt_kill dt_renL dt_killL
attribute [go_sem] da_vE da_pE da_ren da_kill clo_emb clo_decV clo_decP
attribute [go_sem] map_dec list_dft int_dft bool_dft fnc_emb fnc_decV fnc_decP int_emb byte_emb bool_emb str_emb int_decV byte_decV bool_decV str_decV int_decP byte_decP bool_decP str_decP arr_emb arr_decV arr_decP list_emb list_decV_lst list_decP_lst list_decV_nils list_decP_nils list_decV_vec list_decP_vec list_decV_pvec list_decP_pvec list_decV_lit list_decP_lit ref_emb ref_decV_ref ref_decP_ref ref_decV_ptr ref_decP_ptr da_nilV da_nilP da_consV da_consP da_consE da_nilE dr_unit dr_one dr_two dr_three List.map_append
end Go.Sx
end
section
namespace Go.Sx
open Go
def tb.{u} {α:Type u} (n:Nat) (f:Nat→α):List α:=(List.range n).map f
section
universe u v
variable {α:Type u} {β:Type v} {n:Nat} {f g:Nat→α}
theorem tb_len:(tb n f).length=n:=by simp [tb]
theorem tb_get? (i:Nat):(tb n f)[i]? =if i<n then some (f i) else none:=by
 unfold tb
 rw [List.getElem?_map]
 by_cases h:i<n
 ·rw [if_pos h,List.getElem?_range h];rfl
 ·rw [if_neg h,List.getElem?_eq_none (by simpa using h)];rfl
theorem tb_getD {i:Nat} {d:α} (h:i<n):(tb n f).getD i d=f i:=by
 rw [List.getD,tb_get?,if_pos h];rfl
theorem tb_set (i:Nat) (x:α):(tb n f).set i x=tb n fun k=>if k=i then x else f k:=by
 apply List.ext_getElem?
 intro j
 rw [List.getElem?_set,tb_get?,tb_get?,tb_len]
 by_cases hj:j<n
 ·by_cases e:i=j
  ·subst e;simp [hj]
  ·simp [e,hj,show ¬ j=i from fun h=>e h.symm]
 ·by_cases e:i=j
  ·subst e;simp [hj]
  ·simp [e,hj]
theorem tb_congr (h:∀ i,i<n→f i=g i):tb n f=tb n g:=by
 apply List.ext_getElem?
 intro j
 rw [tb_get?,tb_get?]
 split
 ·rename_i hj;rw [h j hj]
 ·rfl
theorem tb_map (h:α→β):(tb n f).map h=tb n fun k=>h (f k):=by simp [tb,Function.comp_def]
theorem tb_snoc:tb (n+1) f=tb n f++[f n]:=by simp [tb,List.range_succ]
theorem tb_zero:tb 0 f=[]:=rfl
theorem tb_replicate (x:α):List.replicate n x=tb n fun _=>x:=by
 apply List.ext_getElem?
 intro j
 rw [List.getElem?_replicate,tb_get?]
end
theorem tb_renL (r:Nat→Option Nat) {n:Nat} {f:Nat→SV}:renL r (tb n f)=tb n fun k=>ren r (f k):=by
 have:∀ l:List SV,renL r l=l.map (ren r):=by
  intro l
  induction l with
  |nil=>rfl
  |cons x l ih=>simp only [renL,List.map_cons,ih]
 rw [this,tb_map]
theorem memAt_tb {n i:Nat} {f:Nat→Res} (h:i<n):memAt (tb n f) i=f i:=tb_getD h
theorem tb_bools {n:Nat} {f:Nat→Bool}:(tb n fun b=>SV.bool (f b))=(tb n f).map DT.bool.emb:=by rw [tb_map];rfl
attribute [go_sem] tb_len
end Go.Sx
end
section
namespace Go.Sx
open Go
variable {P:Program} {main:Bool} {Fz:Nat→Prop}
def placeOf:List Step→Nat
 |[.idx k _]=>k
 |_=>0
theorem place_idx (k n:Nat):placeOf [.idx k n]=k:=nr rfl
attribute [go_sem] place_idx
def FH.mp (f:FuncId) {σ α ρ:Type} (T:TypeId) (n w:Nat) (d:DT σ) (A:DA α) (R:DR ρ) (pre:σ→Nat→α→Prop) (F:σ→Nat→α→ρ) (S:σ→Nat→α→σ) (Γ:FH):FH:=
 FH.on f (fun args m=>match args with
  |x::rest=>match x with
   | .ptr i p o=>match memAt m i with
    | .blk T' c=> .is (T'=T∧p=[.idx (placeOf p) n]∧o=placeOf p*w∧d.emb (d.decV [] c)=c∧A.emb (A.decV [] rest)=rest∧pre (d.decV [] c) (placeOf p) (A.decV [] rest)) (R.emb (F (d.decV [] c) (placeOf p) (A.decV [] rest))) (m.set i (.blk T (d.emb (S (d.decV [] c) (placeOf p) (A.decV [] rest)))))
    |_=> .no
   |_=> .no
  |[]=> .no) Γ
namespace W
theorem fh_mp (f:FuncId) {σ α ρ:Type} (T:TypeId) (n w:Nat) (d:DT σ) (A:DA α) (R:DR ρ) (pre:σ→Nat→α→Prop) (F:σ→Nat→α→ρ) (S:σ→Nat→α→σ) (Γ:FH) (g:FuncId) (i:Nat) (p:List Step) (o:Nat) (rest:List SV) (m:List Res):
  FH.mp f T n w d A R pre F S Γ g (.ptr i p o::rest) m=if g=f then (match memAt m i with
    | .blk T' c=> .is (T'=T∧p=[.idx (placeOf p) n]∧o=placeOf p*w∧d.emb (d.decV [] c)=c∧A.emb (A.decV [] rest)=rest∧pre (d.decV [] c) (placeOf p) (A.decV [] rest)) (R.emb (F (d.decV [] c) (placeOf p) (A.decV [] rest))) (m.set i (.blk T (d.emb (S (d.decV [] c) (placeOf p) (A.decV [] rest)))))
    |_=> .no) else Γ g (.ptr i p o::rest) m:=nr rfl
theorem fh_mp_not (f:FuncId) {σ α ρ:Type} (T:TypeId) (n w:Nat) (d:DT σ) (A:DA α) (R:DR ρ) (pre:σ→Nat→α→Prop) (F:σ→Nat→α→ρ) (S:σ→Nat→α→σ) (Γ:FH) (g:FuncId) (args:List SV) (m:List Res) (h:g≠f):
  FH.mp f T n w d A R pre F S Γ g args m=Γ g args m:=nr (if_neg h)
end W
attribute [go_sem ↓] W.fh_mp W.fh_mp_not
end Go.Sx
end
section
namespace Go.Sx
open Go
variable {P:Program} {main:Bool} {Fz:Nat→Prop}
namespace W
end W
structure DL (α:Type) where
 dft:α
 emb:α→List SV
 decV:List Res→List SV→α
 decP:List Res→List SV→Prop
 ok:∀ {ε:Env} {m:List Res} {w:World},Good ε m w→∀ {xs:List SV},decP m xs→∀ {cs:List Value},SatL xs ε cs→SatL (emb (decV m xs)) (frz ε m w).cl cs
 ren:∀ (r:Nat→Option Nat) (y:α),renL r (emb y)=emb y
 kill:∀ (i:Nat) (y:α),killL i (emb y)=emb y
 vE:∀ (m:List Res) (y:α),decV m (emb y)=y
 pE:∀ (m:List Res) (y:α),decP m (emb y)
def DL.nil:DL Unit:=⟨(),fun _=>[],fun _ _=>(),fun _ xs=>match xs with|[]=>True|_=>False,fun {ε m w} g {xs} h {cs} hs=>by
 cases xs with
 |nil=>exact hs
 |cons=>exact h.elim,fun _ _=>rfl,fun _ _=>rfl,fun _ _=>rfl,fun _ _=>trivial⟩
def DL.cons {α β:Type} (d:DT α) (r:DL β):DL (α×β) where
 dft:=(d.dft,r.dft)
 emb:=fun y=>d.emb y.1::r.emb y.2
 decV:=fun m xs=>match xs with
  |x::xs=>(d.decV m x,r.decV m xs)
  |[]=>(d.dft,r.dft)
 decP:=fun m xs=>match xs with
  |x::xs=>d.decP m x∧r.decP m xs
  |[]=>False
 ok:=fun {ε m w} g {xs} h {cs} hs=>by
  cases xs with
  |nil=>exact h.elim
  |cons x xs=>
   obtain ⟨h1,h2⟩:=h
   simp only [SatL] at hs ⊢
   obtain ⟨a,b,e1,e2,e3⟩:=hs
   exact ⟨a,b,e1,d.ok g h1 e2,r.ok g h2 e3⟩
 ren:=fun s y=>by simp only [renL,d.ren,r.ren]
 kill:=fun s y=>by simp only [killL,d.kill,r.kill]
 vE:=fun m y=>by simp only [d.vE,r.vE]
 pE:=fun m y=>⟨d.pE m y.1,r.pE m y.2⟩
def DT.st {α:Type} (L:DL α):DT α where
 dft:=L.dft
 emb:=fun y=> .agg (L.emb y)
 decV:=fun m x=>match x with
  | .agg xs=>L.decV m xs
  |_=>L.dft
 decP:=fun m x=>match x with
  | .agg xs=>L.decP m xs
  |_=>False
 ok:=fun {ε m w} g {x} h {cs} hs=>by
  cases x with
  |agg xs=>
   simp only [SatC] at hs ⊢
   exact L.ok g h hs
  |_=>exact h.elim
 agg:=fun {m x} h=>by cases x<;>first|exact h.elim|rfl
 vE:=fun m y=>L.vE m y
 pE:=fun m y=>L.pE m y
 ren:=fun r y=>by simp only [Sx.ren,L.ren]
 kill:=fun i y=>by simp only [Sx.kill,L.kill]
 val:=fun y=>rfl
end Go.Sx
end
section
open Go Go.Sx
namespace Go.Proofs.Ytpajfggdnobheaa.D
variable {main:Bool} {Fz:Nat→Prop}
structure Ev where
 kind:Int
 thr:Int
 obj:Int
def dEv:DT Ev:=(DT.ofTT (.st [.int .i64, .int .i64, .int .i64])).iso (fun x=>⟨x.1,x.2.1,x.2.2.1⟩) (fun e=>(e.kind,e.thr,e.obj,())) (fun _=>rfl) (fun _=>rfl)
instance:Flat dEv:=(Flat.ofTT rfl).iso
theorem ev_emb (e:Ev):dEv.emb e= .agg [.int .i64 e.kind, .int .i64 e.thr, .int .i64 e.obj]:=nr rfl
theorem ev_decV (m:List Res) (k t o:Int):dEv.decV m (.agg [.int .i64 k, .int .i64 t, .int .i64 o])=⟨k,t,o⟩:=nr rfl
theorem ev_decP (m:List Res) (k t o:Int):dEv.decP m (.agg [.int .i64 k, .int .i64 t, .int .i64 o])=True:=eq_true ⟨rfl,rfl,rfl,trivial⟩
theorem ev_eta (e:Ev):(⟨e.kind,e.thr,e.obj⟩:Ev)=e:=nr rfl
instance:DecidableEq Ev:=fun a b=>decidable_of_iff (a.kind=b.kind∧a.thr=b.thr∧a.obj=b.obj) ⟨fun h=>by cases a;cases b;obtain ⟨rfl,rfl,rfl⟩:=h;rfl,fun h=>by subst h;exact ⟨rfl,rfl,rfl⟩⟩
structure Pr where
 a:Int
 b:Int
def dPr:DT Pr:=(DT.ofTT (.st [.int .i64, .int .i64])).iso (fun x=>⟨x.1,x.2.1⟩) (fun e=>(e.a,e.b,())) (fun _=>rfl) (fun _=>rfl)
instance:Flat dPr:=(Flat.ofTT rfl).iso
theorem pr_emb (e:Pr):dPr.emb e= .agg [.int .i64 e.a, .int .i64 e.b]:=nr rfl
theorem pr_decV (m:List Res) (k t:Int):dPr.decV m (.agg [.int .i64 k, .int .i64 t])=⟨k,t⟩:=nr rfl
theorem pr_decP (m:List Res) (k t:Int):dPr.decP m (.agg [.int .i64 k, .int .i64 t])=True:=eq_true ⟨rfl,rfl,trivial⟩
theorem pr_eta (e:Pr):(⟨e.a,e.b⟩:Pr)=e:=nr rfl
instance:DecidableEq Pr:=fun a b=>decidable_of_iff (a.a=b.a∧a.b=b.b) ⟨fun h=>by cases a;cases b;obtain ⟨rfl,rfl⟩:=h;rfl,fun h=>by subst h;exact ⟨rfl,rfl⟩⟩
attribute [go_sem] ev_emb ev_decV ev_decP ev_eta pr_emb pr_decV pr_decP pr_eta
abbrev Clk:=Nat→Int
def dClk:DT Clk:=DT.arr 6 1 DT.int
instance:Flat dClk:=inferInstanceAs (Flat (DT.arr 6 1 DT.int))
theorem clk_emb (f:Clk):dClk.emb f= .arr 6 1 fun i=> .int .i64 (f i):=nr rfl
theorem clk_decV (m:List Res) (f:Nat→Int):dClk.decV m (.arr 6 1 fun i=> .int .i64 (f i))=f:=nr rfl
theorem clk_decP (m:List Res) (f:Nat→Int):dClk.decP m (.arr 6 1 fun i=> .int .i64 (f i))=True:=eq_true ⟨rfl,rfl,fun _ _=>rfl⟩
attribute [go_sem] clk_emb clk_decV clk_decP
theorem upd_int (f:Nat→Int) (i:Nat) (x:Int):updS (fun k=>SV.int .i64 (f k)) i (.int .i64 x)=fun k=>SV.int .i64 (if k=i then x else f k):=by
 funext k;unfold updS;split<;>rfl
theorem upd_bool (f:Nat→Bool) (i:Nat) (x:Bool):updS (fun k=>SV.bool (f k)) i (.bool x)=fun k=>SV.bool (if k=i then x else f k):=by
 funext k;unfold updS;split<;>rfl
theorem upd_clk (n w:Nat) (f:Nat→Nat→Int) (i:Nat) (g:Nat→Int):updS (fun k=>SV.arr n w fun j=> .int .i64 (f k j)) i (.arr n w fun j=> .int .i64 (g j))=fun k=>SV.arr n w fun j=> .int .i64 (if k=i then g j else f k j):=by
 funext k;unfold updS;split<;>rfl
attribute [go_sem] upd_int upd_bool upd_clk
structure Wd where
 begun:Nat→Bool
 over:Nat→Bool
 owner:Nat→Int
def dWd:DT Wd:=(DT.ofTT (.st [.arr 6 1 .bool, .arr 6 1 .bool, .arr 5 1 (.int .i64)])).iso (fun x=>⟨x.1,x.2.1,x.2.2.1⟩) (fun w=>(w.begun,w.over,w.owner,())) (fun _=>rfl) (fun _=>rfl)
instance:Flat dWd:=(Flat.ofTT rfl).iso
theorem wd_emb (w:Wd):dWd.emb w= .agg [.arr 6 1 fun i=> .bool (w.begun i), .arr 6 1 fun i=> .bool (w.over i), .arr 5 1 fun i=> .int .i64 (w.owner i)]:=nr rfl
theorem wd_decV (m:List Res) (f g:Nat→Bool) (h:Nat→Int):dWd.decV m (.agg [.arr 6 1 fun i=> .bool (f i), .arr 6 1 fun i=> .bool (g i), .arr 5 1 fun i=> .int .i64 (h i)])=⟨f,g,h⟩:=nr rfl
theorem wd_decP (m:List Res) (f g:Nat→Bool) (h:Nat→Int):dWd.decP m (.agg [.arr 6 1 fun i=> .bool (f i), .arr 6 1 fun i=> .bool (g i), .arr 5 1 fun i=> .int .i64 (h i)])=True:=eq_true ⟨⟨rfl,rfl,fun _ _=>trivial⟩,⟨rfl,rfl,fun _ _=>trivial⟩,⟨rfl,rfl,fun _ _=>rfl⟩,trivial⟩
theorem wd_eta (w:Wd):(⟨w.begun,w.over,w.owner⟩:Wd)=w:=nr rfl
attribute [go_sem] wd_emb wd_decV wd_decP wd_eta
theorem drop_getD {α:Type} {l:List α} {i:Nat} (d:α) (h:i<l.length):l.drop i=l.getD i d::l.drop (i+1):=by
 rw [List.drop_eq_getElem_cons h]
 simp [List.getD,h]
theorem take_getD {α:Type} {l:List α} {i:Nat} (d:α) (h:i<l.length):l.take (i+1)=l.take i++[l.getD i d]:=by
 rw [List.take_add_one]
 simp [List.getD,h]
theorem getD_mem {α:Type} {l:List α} {i:Nat} {d:α} (h:i<l.length):l.getD i d∈l:=by
 simp only [List.getD,List.getElem?_eq_getElem h,Option.getD_some]
 exact List.getElem_mem h
structure PO where
 kind:Int
 obj:Int
 n:Int
def dOp:DT PO:=(DT.ofTT (.st [.int .i64, .int .i64, .int .i64])).iso (fun x=>⟨x.1,x.2.1,x.2.2.1⟩) (fun e=>(e.kind,e.obj,e.n,())) (fun _=>rfl) (fun _=>rfl)
instance:Flat dOp:=(Flat.ofTT rfl).iso
theorem op_emb (e:PO):dOp.emb e= .agg [.int .i64 e.kind, .int .i64 e.obj, .int .i64 e.n]:=nr rfl
theorem op_decV (m:List Res) (k t o:Int):dOp.decV m (.agg [.int .i64 k, .int .i64 t, .int .i64 o])=⟨k,t,o⟩:=nr rfl
theorem op_decP (m:List Res) (k t o:Int):dOp.decP m (.agg [.int .i64 k, .int .i64 t, .int .i64 o])=True:=eq_true ⟨rfl,rfl,rfl,trivial⟩
theorem op_eta (e:PO):(⟨e.kind,e.obj,e.n⟩:PO)=e:=nr rfl
attribute [go_sem] op_emb op_decV op_decP op_eta
def eqBy {α:Type} (e:α→α→Bool):List α→List α→Bool
 |[],[]=>true
 |x::xs,y::ys=>e x y&&eqBy e xs ys
 |_,_=>false
theorem eqBy_len {α:Type} {e:α→α→Bool}:∀ {xs ys:List α},¬ ((xs.length:Int)=ys.length)→eqBy e xs ys=false
 |[],[],h=>absurd rfl h
 |[],_::_,_=>rfl
 |_::_,[],_=>rfl
 |x::xs,y::ys,h=>by
  rw [eqBy,eqBy_len (xs:=xs) (ys:=ys) (by simp only [List.length_cons] at h;omega),Bool.and_false]
theorem eqBy_drop {α:Type} {e:α→α→Bool} {xs ys:List α} {i:Nat} {d d':α} (h:i<xs.length) (h':i<ys.length):eqBy e (xs.drop i) (ys.drop i)=(e (xs.getD i d) (ys.getD i d')&&eqBy e (xs.drop (i+1)) (ys.drop (i+1))):=by
 rw [drop_getD d h,drop_getD d' h',eqBy]
theorem eqBy_done {α:Type} {e:α→α→Bool} {xs ys:List α} {i:Nat} (h:eqBy e xs ys=eqBy e (xs.drop i) (ys.drop i)) (h1:xs.length≤i) (h2:ys.length≤i):eqBy e xs ys=true:=by
 rw [h,List.drop_eq_nil_of_le h1,List.drop_eq_nil_of_le h2];rfl
theorem eqBy_refl {α:Type} {e:α→α→Bool} (he:∀ x,e x x=true):∀ (xs:List α),eqBy e xs xs=true
 |[]=>rfl
 |x::xs=>by simp [eqBy,he,eqBy_refl he]
structure Fl where
 at':Int
 var:Int
 kind:Int
def dFl:DT Fl:=(DT.ofTT (.st [.int .i64, .int .i64, .int .i64])).iso (fun x=>⟨x.1,x.2.1,x.2.2.1⟩) (fun e=>(e.at',e.var,e.kind,())) (fun _=>rfl) (fun _=>rfl)
instance:Flat dFl:=(Flat.ofTT rfl).iso
theorem fl_emb (e:Fl):dFl.emb e= .agg [.int .i64 e.at', .int .i64 e.var, .int .i64 e.kind]:=nr rfl
theorem fl_decV (m:List Res) (k t o:Int):dFl.decV m (.agg [.int .i64 k, .int .i64 t, .int .i64 o])=⟨k,t,o⟩:=nr rfl
theorem fl_decP (m:List Res) (k t o:Int):dFl.decP m (.agg [.int .i64 k, .int .i64 t, .int .i64 o])=True:=eq_true ⟨rfl,rfl,rfl,trivial⟩
theorem fl_eta (e:Fl):(⟨e.at',e.var,e.kind⟩:Fl)=e:=nr rfl
attribute [go_sem] fl_emb fl_decV fl_decP fl_eta
structure Rc where
 a:Int
 b:Int
 var:Int
 kind:Int
def dRc:DT Rc:=(DT.ofTT (.st [.int .i64, .int .i64, .int .i64, .int .i64])).iso (fun x=>⟨x.1,x.2.1,x.2.2.1,x.2.2.2.1⟩) (fun e=>(e.a,e.b,e.var,e.kind,())) (fun _=>rfl) (fun _=>rfl)
instance:Flat dRc:=(Flat.ofTT rfl).iso
theorem rc_emb (e:Rc):dRc.emb e= .agg [.int .i64 e.a, .int .i64 e.b, .int .i64 e.var, .int .i64 e.kind]:=nr rfl
theorem rc_decV (m:List Res) (k t o n:Int):dRc.decV m (.agg [.int .i64 k, .int .i64 t, .int .i64 o, .int .i64 n])=⟨k,t,o,n⟩:=nr rfl
theorem rc_decP (m:List Res) (k t o n:Int):dRc.decP m (.agg [.int .i64 k, .int .i64 t, .int .i64 o, .int .i64 n])=True:=eq_true ⟨rfl,rfl,rfl,rfl,trivial⟩
theorem rc_eta (e:Rc):(⟨e.a,e.b,e.var,e.kind⟩:Rc)=e:=nr rfl
attribute [go_sem] rc_emb rc_decV rc_decP rc_eta
abbrev dEs:DT (List Ev):=DT.list 3 dEv
abbrev dFls:DT (List Fl):=DT.list 3 dFl
abbrev dRows:DT (List (List Bool)):=DT.list 1 (DT.list 1 DT.bool)
structure Kp where
 thr:Nat→Clk
 lk:Nat→Clk
 vl:Nat→Clk
def dKp:DT Kp:=(DT.ofTT (.st [.arr 6 6 (.arr 6 1 (.int .i64)), .arr 5 6 (.arr 6 1 (.int .i64)), .arr 4 6 (.arr 6 1 (.int .i64))])).iso (fun x=>⟨x.1,x.2.1,x.2.2.1⟩) (fun e=>(e.thr,e.lk,e.vl,())) (fun _=>rfl) (fun _=>rfl)
instance:Flat dKp:=(Flat.ofTT rfl).iso
theorem kp_emb (e:Kp):dKp.emb e= .agg [.arr 6 6 fun i=> .arr 6 1 fun j=> .int .i64 (e.thr i j), .arr 5 6 fun i=> .arr 6 1 fun j=> .int .i64 (e.lk i j), .arr 4 6 fun i=> .arr 6 1 fun j=> .int .i64 (e.vl i j)]:=nr rfl
theorem kp_decV (m:List Res) (f g h:Nat→Nat→Int):dKp.decV m (.agg [.arr 6 6 fun i=> .arr 6 1 fun j=> .int .i64 (f i j), .arr 5 6 fun i=> .arr 6 1 fun j=> .int .i64 (g i j), .arr 4 6 fun i=> .arr 6 1 fun j=> .int .i64 (h i j)])=⟨f,g,h⟩:=nr rfl
theorem kp_decP (m:List Res) (f g h:Nat→Nat→Int):dKp.decP m (.agg [.arr 6 6 fun i=> .arr 6 1 fun j=> .int .i64 (f i j), .arr 5 6 fun i=> .arr 6 1 fun j=> .int .i64 (g i j), .arr 4 6 fun i=> .arr 6 1 fun j=> .int .i64 (h i j)])=True:=eq_true ⟨⟨rfl,rfl,fun _ _=>⟨rfl,rfl,fun _ _=>rfl⟩⟩,⟨rfl,rfl,fun _ _=>⟨rfl,rfl,fun _ _=>rfl⟩⟩,⟨rfl,rfl,fun _ _=>⟨rfl,rfl,fun _ _=>rfl⟩⟩,trivial⟩
theorem kp_eta (k:Kp):(⟨k.thr,k.lk,k.vl⟩:Kp)=k:=nr rfl
attribute [go_sem] kp_emb kp_decV kp_decP kp_eta
end Go.Proofs.Ytpajfggdnobheaa.D
end
section
set_option maxRecDepth 100000
open Go Go.Sx Go.Proofs
namespace Go.Proofs.Ytpajfggdnobheaa.C
variable {main:Bool} {Fz:Nat→Prop}
open Go.Proofs.Ytpajfggdnobheaa.D
def j78:JC:=
 (.seq (.ops<|
 qo 2 (.mv (I 0))<|
 .nil)
 (.seq (.dops<|
 qo 3 (.mv (.t 0))<|
 qo 4 (.is 1 (.t 3) (I 0))<|
 eo 5 (.load 1 false (.t 4))<|
 qo 6 (.mv (.t 0))<|
 qo 7 (.is 1 (.t 6) (I 1))<|
 eo 8 (.load 1 false (.t 7))<|
 qo 9 (.mx (.t 5) (.t 8))<|
 qo 2 (.mv (.t 9))<|
 .nil)
 .ret))
theorem c78:fnIs Try.prog qall 78=some (j78.flat,[.tmp 2],10):=by kernel_rfl
theorem w78:j78.wf 10=true:=by kernel_rfl
def j77_1:JC:=
 (.seq (.ops<|
 qo 11 (.cmp .lss (.t 10) (I 6))<|
 .nil)
 (.seq (.cond (.t 11)
 .skip
 (.exit 0))
 (.seq (.block 1 (.seq (.ops<|
 qo 12 (.mv (.t 10))<|
 qo 13 (.ix 6 1 false (.t 9) (.t 10))<|
 qo 7 (.mv (.t 12))<|
 qo 8 (.mv (.t 13))<|
 .nil)
 (.prune [7,2,3,8,10,9,6] (.ops<|
 qo 14 (.mv (.t 7))<|
 qo 15 (.mv (.t 2))<|
 qo 16 (.mv (.t 7))<|
 qo 17 (.ia 6 1 (.t 3) (.t 16))<|
 eo 18 (.load 1 false (.t 17))<|
 .prune [8,18,15,3,14,10,9,2,6]<|
 qo 19 (.mv (.t 8))<|
 eo 20 (.bsl 3 1 2 (.int .i64 0) [(0,(.t 18)),(1,(.t 19))])<|
 .prune [15,20,3,14,10,9,2,6]<|
 eo 21 (.callv (.t 15) [(.t 20)])<|
 qo 22 (.ia 6 1 (.t 3) (.t 14))<|
 en (.store 1 (.t 22) (.t 21))<|
 .nil))))
 (.prune [10,9,2,3,6] (.ops<|
 qo 23 (.ar .add (.t 10) (I 1))<|
 qo 10 (.mv (.t 23))<|
 .nil)))))
def j77_2:JC:=
 (.prune [3,6] (.seq (.ops<|
 eo 24 (.load 6 true (.t 3))<|
 en (.store 6 (.t 6) (.t 24))<|
 .nil)
 .ret))
def j77:JC:=
 (.seq (.ops<|
 eo 3 (.box 61 (.t 0))<|
 eo 4 (.box 61 (.t 1))<|
 eo 6 (.alloc 61 (.arr 6 1 fun _=>(.int .i64 0)))<|
 .nil)
 (.seq (.seq (.ops<|
 eo 9 (.load 6 true (.t 4))<|
 qo 10 (.mv (I 0))<|
 .nil)
 (.block 0 (.loop [9,2,3,6] [10] j77_1)))
 j77_2))
theorem c77:fnIs Try.prog qall 77=some (j77.flat,[.cell 6 61],25):=by kernel_rfl
theorem w77:j77.wf 25=true:=by kernel_rfl
def j45:JC:=
 (.seq (.ops<|
 eo 2 (.box 61 (.t 0))<|
 eo 3 (.box 61 (.t 1))<|
 eo 4 (.alloc 61 (.arr 6 1 fun _=>(.int .i64 0)))<|
 .nil)
 (.seq (.ops<|
 eo 5 (.load 6 true (.t 2))<|
 eo 6 (.load 6 true (.t 3))<|
 eo 7 (.call 77 [(.t 5),(.t 6),(.c (.fn 78 []))])<|
 en (.store 6 (.t 4) (.t 7))<|
 .nil)
 .ret))
theorem c45:fnIs Try.prog qall 45=some (j45.flat,[.cell 4 61],8):=by kernel_rfl
theorem w45:j45.wf 8=true:=by kernel_rfl
def mxI (a b:Int):Int:=if a<b then b else a
theorem f_greater (l:List Int) (h:2≤l.length):FnOK Try.prog main Fz 78 [(DT.list 1 DT.int).emb l] [] (.int .i64 (mxI (l.getD 0 0) (l.getD 1 0))) []:=by
 refine fn_walkF c78 w78 FH.none_ok rfl ?_
 unfold j78
 simp only [go_sem,seval]
 first|exact ⟨by omega,by omega,rfl⟩|exact ⟨by omega,by omega⟩|exact ⟨⟨by omega,by omega⟩,⟨by omega,by omega⟩,rfl⟩
def Gpick (f:FuncId) (a:List SV) (m:List Res):Sx.Call:=(FH.rd 78 (.one (DT.list 1 DT.int)) (.one .int) (fun y=>2≤y.1.length) (fun y=>mxI (y.1.getD 0 0) (y.1.getD 1 0)) FH.none) f a m
theorem Gpick_eq (f:FuncId) (a:List SV) (m:List Res):Gpick f a m=(FH.rd 78 (.one (DT.list 1 DT.int)) (.one .int) (fun y=>2≤y.1.length) (fun y=>mxI (y.1.getD 0 0) (y.1.getD 1 0)) FH.none) f a m:=nr rfl
theorem Gpick_ok:FHOK Try.prog main Fz Gpick:=FH.rd_ok (by kernel_rfl) (fun y h=>f_greater y.1 h) FH.none_ok
def mrg (g:Int→Int→Int) (a b:Clk) (n:Nat):Clk:=fun k=>if k<n then g (a k) (b k) else a k
theorem mrg_step (g:Int→Int→Int) (a b:Clk) (n k:Nat):(if k=n then g (a n) (b n) else mrg g a b n k)=mrg g a b (n+1) k:=by
 unfold mrg
 by_cases h:k=n
 ·subst h;simp
 ·by_cases h2:k<n
  ·simp [h,h2,Nat.lt_succ_of_lt h2]
  ·simp [h,h2,show ¬ k<n+1 by omega]
theorem mrg_at (g:Int→Int→Int) (a b:Clk) (n:Nat):mrg g a b n n=a n:=by simp [mrg]
theorem tszC:tsz Try.prog 61=some (6,true):=by kernel_rfl
theorem f_merge1 (a b:Clk):FnOK Try.prog main Fz 77 [dClk.emb a,dClk.emb b, .fn 78 []] [] (dClk.emb (mrg mxI a b 6)) []:=by
 refine fn_walkF c77 w77 Gpick_ok rfl ?_
 unfold j77
 simp only [go_sem,seval]
 refine loopF Nat (fun i=>[.int .i64 i]) (fun i=>[.blk 61 (dClk.emb (mrg mxI a b i)), .blk 61 (dClk.emb b), .blk 61 (dClk.emb fun _=>0)]) (fun i=>i≤6) (fun i=>6 - i) 0 (by omega) ?_ ?_ ?_
 ·simp only [go_sem,seval]
 ·rfl
 ·intro i hi
  unfold j77_1
  simp only [go_sem,seval,Gpick_eq,tszC]
  refine ⟨fun h=>⟨by omega,by omega,by omega,i+1,by omega,by omega,?_,?_⟩,fun h=> ?_⟩
  ·exact IntWalk.i64_in _ (by omega)
  ·simp only [mrg_at,mrg_step]
  ·rw [show i=6 by omega]
   unfold j77_2
   simp only [go_sem,seval,tszC]
def joinC (a b:Clk):Clk:=mrg mxI a b 6
def Gm (f:FuncId) (a:List SV) (m:List Res):Sx.Call:=(FH.rd 77 (.three dClk dClk DT.fnc) (.one dClk) (fun y=>y.2.2.1=78) (fun y=>joinC y.1 y.2.1) FH.none) f a m
theorem Gm_eq (f:FuncId) (a:List SV) (m:List Res):Gm f a m=(FH.rd 77 (.three dClk dClk DT.fnc) (.one dClk) (fun y=>y.2.2.1=78) (fun y=>joinC y.1 y.2.1) FH.none) f a m:=nr rfl
theorem Gm_ok:FHOK Try.prog main Fz Gm:=FH.rd_ok (by kernel_rfl) (fun y h=>by
 obtain ⟨a,b,f,u⟩:=y
 simp only at h;subst h;exact f_merge1 a b) FH.none_ok
theorem f_Join (a b:Clk):FnOK Try.prog main Fz 45 [dClk.emb a,dClk.emb b] [] (dClk.emb (joinC a b)) []:=by
 refine fn_walkF c45 w45 Gm_ok rfl ?_
 unfold j45
 simp only [go_sem,seval,Gm_eq,tszC]
end Go.Proofs.Ytpajfggdnobheaa.C
end
