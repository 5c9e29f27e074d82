/- The law DeskRuns: desk.Run hands back what the document's answer hands back, for all arguments. Conditions: none. -/
import Derived.Test.YtgnaipcjbmhihaaGreatDoorIa
import Derived.Test.YtgnaipcjbmhihaaGreatDoorCards
import Derived.Test.YtgnaipcjbmhihaaGreatDoorTie
import Derived.WalkKit
import Derived.ProofKit
import Derived.OpenShut
import Derived.Deep.DeepHandedRow
import Derived.Deep.DeepWitnessRowRef
import Derived.LaidMore
import Derived.LaidLaws
import Derived.Lay
import Derived.Lib.LaidU8
import Derived.Lib.LaidTab
set_option linter.unusedVariables false
set_option linter.unusedSimpArgs false
open Option renaming some.inj->z00,some.injEq->z03,bind_some->z06
open Bool renaming false_ne_true->z01
open Array renaming toArray_toList->z02
open List renaming getD_cons_zero->z04,getD_cons_succ->z05,not_mem_nil->z07,nil_append->z08,replicate->z09,mem_cons->z0a,map_cons->z0b
section
set_option maxRecDepth 100000
open Go Go.Sx Go.Proofs Go.ChangeShapes Go.WideShapes Go.ChangeAt Go.RowKit
namespace Go.Proofs.YtgnaipcjbmhihaaGreatDoor.DeskRuns
open Dk D Tx Tr Rc Fu Fa St Rg Sk Ah Ps Cp
def ayh:JC:=(qN (oO 15 14 13<|.nil) (.seq (qO 15 .skip (.exit 0)) (.seq (.block 1 (qN (o7 16 14<|oK 17 1 12 14<|o9 18 1 17<|o7 5 16<|o7 6 18<|.nil) (qM [6,1,5,14,13,12] (qN (o7 19 6<|o7 20 1<|o7 21 5<|oK 22 1 20 21<|o9 23 1 22<|qo 24 (.seq true (.t 19) (.t 23))<|.nil) (qM [24,14,13,12,1] (qO 24 (qN (qH 4 false<|.nil) .ret) .skip)))))) (qM [14,13,12,1] (.ops<|oJ 25 14 1<|o7 14 25<|.nil)))))
def ayi:JC:=(qM [] (qN (qH 4 true<|.nil) .ret))
def j6:JC:=(qN (qH 4 false<|.nil) (.seq (qN (o7 7 0<|oP 8 7<|o7 9 1<|oP 10 9<|qo 11 (.cmp .neq (.t 8) (.t 10))<|.nil) (qO 11 (qN (qH 4 false<|.nil) .ret) .skip)) (.seq (qN (qL [0,1]<|o7 12 0<|oP 13 12<|o8 14 0<|.nil) (qM [14,13,12,1] (.block 0 (.loop [13,12,1] [14] ayh)))) ayi)))
def pU(x y:By):Bool:=decide (x=y)
theorem ane(xs ys:List By):FnOK Tryz.prog 6 [Oh.aA xs,Oh.aA ys] [] (.bool (AB pU xs ys)) []:=by
 refine nO λhB=>fn_walkA j6 [.tmp 4] 26 FH.none_ok rfl ?_;simp only[go_sem,seval] at hB;unfold j6;simp only[go_sem,seval];refine⟨λh=> ?_,λh=> ?_⟩
 ·rw[RD h]
 ·refine aZ Nat (λi=>[.int .i64 i]) (λi=>[]) (λi=>i<=xs.length/\AB pU xs ys=AB pU (xs.drop i) (ys.drop i)) (λi=>xs.length - i) 0 ⟨by omega,rfl⟩ ?_ rfl ?_
  ·simp only[go_sem,seval]
  ·intro i hi;unfold ayh;simp only[go_sem,seval];refine⟨λh1=> ?_,λh1=> ?_⟩
   ·obtain⟨hi1,hi2⟩:=hi;rw[aa' (d:=([]:By)) (d':=([]:By)) (by omega) (by omega)] at hi2
    refine⟨⟨by omega,by omega⟩,⟨by omega,by omega⟩,λh2=> ?_,λh2=>⟨i+1,⟨by omega,?_⟩,by omega,aY⟩⟩
    ·rw[hi2,show pU (xs.getD i ([]:By)) (ys.getD i ([]:By))=false by first|exact h2|exact decide_eq_false h2];rfl
    ·rw[hi2,show pU (xs.getD i ([]:By)) (ys.getD i ([]:By))=true by first|exact h2|exact decide_eq_true h2];rfl
   ·rw[abb hi.2 (by omega) (by omega)]
    unfold ayi;simp only[go_sem,seval]
def RF(ls:List By):SV:=if AA ls=true then .bK [.bF, .int .i64 2] else .bK [.vec 0 (Fp ls).2.length, .int .i64 0]
def runM(ls:List By):List ay:=if AA ls=true then[] else[.vec 9 1 ((Fp ls).2.map DT.str.aA)]
theorem agj(ls:List By):FnOK Tryz.prog 4 [Oh.aA ls] [] (RF ls) (runM ls):=by
 unfold RF runM;by_cases h:AA ls=true
 ·rw[if_pos h,if_pos h];exact(agk ls h).ok
 ·rw[if_neg h,if_neg h];exact(anf ls (by simpa using h)).ok
theorem abd(ls:List By):EH (RF ls) (runM ls):=by
 unfold RF runM;split
 ·exact cZ (fU ⟨RH,fF _ _,trivial⟩) trivial
 ·exact cZ (fU ⟨fE _ _,fF _ _,trivial⟩) ⟨bY _ _ DT.str _,trivial⟩
def Glw(f:FuncId)(a:List SV)(m:List ay):Sx.Call:=(FH.mk 4 (.one Oh) (λ_=>True) (λy=>RF y.1) (λy=>runM y.1)<|
 FH.mk 5 (.one Oh) (λ_=>True) (λy=> .bK [.vec 0 (KW y.1).length, .int .i64 (if AA y.1=true then 2 else 0)]) (λy=>[.vec 9 1 ((KW y.1).map DT.str.aA)])<|
 FH.rd 6 (.two Oh Oh) (.one .bool) (λ_=>True) (λy=>AB pU y.1 y.2.1) FH.none) f a m
theorem agl:type_of% (nq Glw.eq_1):=nq Glw.eq_1
theorem auh:aW Tryz.prog Glw:=FH.eu (λy _=>abd y.1) (λy _=>agj y.1)<|FH.eu (λy _=>cZ (fU ⟨fE _ _,fF _ _,trivial⟩) ⟨bY _ _ DT.str _,trivial⟩) (λy _=>aaU y.1)<|FH.aT (λy _=>ane y.1 y.2.1) FH.none_ok
def j3:JC:=(qN (qH 2 false<|.nil) (qN (o7 10 0<|oM 11 4 10<|o7 9 11<|oN 12 0 9<|oN 13 1 9<|o7 3 12<|o7 4 13<|.nil) (qN (qL [0,3,4]<|o7 15 0<|oM 16 5 15<|o7 14 16<|oN 17 0 14<|qL [14,17,3,4]<|oN 18 1 14<|o7 5 17<|o7 6 18<|.nil) (qM [3,5,4,6] (qN (eo 20 (.mks 9 1 16 (.str []) (I 61) (I 61))<|oM 21 4 20<|o7 19 21<|oN 22 0 19<|oN 23 1 19<|o7 7 22<|o7 8 23<|.nil) (qM [3,5,4,6,8] (qN (o7 24 3<|o7 25 5<|qE 26 6 24 25<|qL [26,4,6,8]<|o7 27 26<|.sc false 31 27 (o7 28 4<|o7 29 6<|oZ 30 28 29<|.nil) (.t 30)<|o7 32 31<|qL [32,8]<|.sc false 35 32 (o7 33 8<|oH 34 33 2<|.nil) (.t 34)<|o7 2 35<|.nil) .ret)))))))
theorem ayj(ls:List By)(h:ls.length=61):RF ls= .bK [.bF, .int .i64 2]/\runM ls=[]:=by
 have hb:AA ls=true:=by rw[AA,decide_eq_true (by omega:60<ls.length)];rfl
 exact⟨if_pos hb,if_pos hb⟩
theorem ayk(ls:List By):FnOK Tryz.prog 3 [Oh.aA ls] [] (.bool true) []:=by
 refine fn_walkA j3 [.tmp 2] 36 auh rfl ?_;unfold j3;have b:=ayj (z09 61 ([]:By)) rfl;simp only[z09] at b;obtain⟨b1,b2⟩:=b;have eq (l:List By):AB pU l l=true:=MB (by simp[pU]) l
 cases hb:AA ls with
 |true=>
  have r1:RF ls= .bK [.bF, .int .i64 2]:=if_pos hb;have r2:runM ls=[]:=if_pos hb;have r3:KW ls=[]:=if_pos hb;simp only[go_sem,seval,agl,r1,r2,r3,hb,b1,b2,eq,z08,List.map_nil,dF,z0b,ah,z04,z05]
 |false=>
  have r1:RF ls= .bK [.vec 0 (Fp ls).2.length, .int .i64 0]:=if_neg (by rw[hb];exact z01)
  have r2:runM ls=[.vec 9 1 ((Fp ls).2.map DT.str.aA)]:=if_neg (by rw[hb];exact z01)
  have r3:KW ls=(Fp ls).2:=if_neg (by rw[hb];exact z01)
  simp only[go_sem,seval,agl,r1,r2,r3,hb,b1,b2,eq,z08,List.map_nil,dF,z0b,ah,z04,z05]
abbrev A:DA (List By×Unit):= .one Oh
abbrev Ts:List TT:=[.sl 1 .str]
theorem aAW(y:y7 Ts):A.decP [] (sG Ts y):=⟨⟨rfl,λ_ _=>by first|exact trivial|(trace_state;exact rfl)⟩,trivial⟩
theorem law(y:y7 Ts)(_:OO Ts y):FnOK Tryz.prog 3 (A.aA (A.aG [] (sG Ts y))) [] (.bool true) []:=ayk _
theorem agm:((Tryz.prog.underlying 51).any fun| .interface _=>true|_=>false)=true:=by kernel_rfl
theorem ang:∃ ms,Tryz.prog.underlying 51=some (.interface ms):=by
 have h:=agm;cases hu:Tryz.prog.underlying 51 with
 |none=>rw[hu] at h;cases h
 |some d=>rw[hu] at h;cases d<;>first|exact⟨_,rfl⟩|cases h
theorem agn{W:World}(hm:laidMet Tryz.prog Rows.deskRunsRow.laid W){nm:String}{b:Nat}{d:DataW Unit}{s:String}(hmem:(nm, .iface s d)∈Rows.deskRunsRow.laid)(hn:Tryz.prog.globalNamed nm=some b)(ht:(Tryz.prog.globals[b]?).map (·.type)=some 51):∃ ev T fz,W.heap[b]? =some (.cells #[ev] T fz)/\(ev= .nilIface\/∃ t p,ev= .iface t p):=by
 obtain⟨g,t,cs,fuel,q,hg,hty,hvar,hd⟩:=Lib.laidMet.reads hm hmem;obtain rfl:=z00 (hn.symm.trans hg);obtain rfl:=z00 (ht.symm.trans hty);obtain⟨ms,hu⟩:=ang;obtain⟨f',u,v,hcs,_,_⟩:=iface_of_trod hu hd;unfold World.var? at hvar;simp only[hg,z06] at hvar;split at hvar
 ·rename_i cs' T fz he;simp only[z03] at hvar;subst hvar;have:cs'= #[.iface u v]:=by rw[<- z02 (xs:=cs'),hcs]
  subst this;exact⟨_,_,_,he, .inr ⟨_,_,rfl⟩⟩
 ·cases hvar
theorem anh:Rows.laid_internal_strconv_uint64pow10 (H:=Unit)=Lib.tabData .u64 ((List.range 20).map λi=>((10^i:Nat):Int)):=by rfl
theorem ZA{W:World}(hL:laidMetH Tryz.prog Rows.deskRunsRow.laid W):Glob (J0 W).H:=by
 have hm:laidMet Tryz.prog Rows.deskRunsRow.laid W:=by rwa [MakeChecks.laidMetH_plain _ _ _ (by kernel_rfl)] at hL
 refine⟨λp hp=> ?_,λb hb=> ?_⟩
 ·obtain rfl:=List.mem_singleton.1 hp;obtain⟨g,t,cs,fuel,q,hg,hty,hvar,hd⟩:=Lib.laidMet.reads hm (n:= "internal/strconv.uint64pow10") (d:=Rows.laid_internal_strconv_uint64pow10) (by simp[Rows.deskRunsRow])
  obtain rfl:=z00 ((show Tryz.prog.globalNamed "internal/strconv.uint64pow10" =some 3 by kernel_rfl).symm.trans hg)
  obtain rfl:=z00 ((show(Tryz.prog.globals[3]?).map (·.type)=some 238 by kernel_rfl).symm.trans hty)
  rw[anh] at hd;have hcs:=Lib.cells_of_tab (n:=20) (e:=191) (by kernel_rfl) (by kernel_rfl) (by kernel_rfl) (by kernel_rfl) hd
  unfold World.var? at hvar;simp only[hg,z06] at hvar;split at hvar
  ·rename_i cs' T fz he;simp only[z03] at hvar;subst hvar;refine⟨T,fz,?_⟩;have:cs'=(((List.range 20).map λi=>((10^i:Nat):Int)).map λz=>Value.int .u64 z).toArray:=by rw[<- z02 (xs:=cs'),hcs]
   rw[this] at he;rw[List.map_map] at he;exact he
  ·cases hvar
 ·simp only[RI,z0a,z07,or_false] at hb;rcases hb with rfl|rfl
  ·exact agn hm (nm:= "strconv.ErrSyntax") (by simp[Rows.deskRunsRow,Rows.laid_strconv_ErrSyntax];exact⟨rfl,rfl⟩) (by kernel_rfl) (by kernel_rfl)
  ·exact agn hm (nm:= "strconv.ErrRange") (by simp[Rows.deskRunsRow,Rows.laid_strconv_ErrRange];exact⟨rfl,rfl⟩) (by kernel_rfl) (by kernel_rfl)
theorem own:ownKnob Tryz.prog.godebug=none:=by kernel_rfl
theorem laid:laidOutB Tryz.prog=true:=by kernel_rfl
noncomputable abbrev laidWorld(os:Os):World:=World.laidAll Tryz.prog os Rows.deskRunsRow.laid
theorem laid_met(os:Os):laidMet Tryz.prog Rows.deskRunsRow.laid ((laidWorld os).forCall (λ_ _=>0) ⟨#[],#[.slice none 0 0],[]⟩).memory:=
 laidMet_laidAll _ (by kernel_rfl) (by kernel_rfl)
theorem reads(os:Os){H:Type}(enc:TypeId×Value->H):∃ places,DataW.whole enc Tryz.prog ((laidWorld os).forCall (λ_ _=>0) ⟨#[],#[.slice none 0 0],[]⟩).memory Tryz.f3.params.toList Rows.deskRunsSpec.vars false (#[.slice none 0 0]:Array Value).toList 8=some ([.nil],[],places):=
 ⟨[],by kernel_rfl⟩
theorem lifted(os:Os)(started:os.Started)(H:Type)(enc:TypeId×Value->H)(F:Stop.Interp):
  ReturnsInHanded {} Tryz.checked os 3 .any ((OpenSpec.ofChange Rows.deskRunsSpec).preRow enc Tryz.prog Tryz.f3 Rows.deskRunsRow.domain false Rows.deskRunsRow.laid) (((OpenSpec.ofChange Rows.deskRunsSpec).at F).post enc Tryz.prog Tryz.f3 false true false false):=by
 obtain⟨places,hx⟩:=reads os enc;refine returnsInHanded_of_row (C:=Tryz.checked) (s:=OpenSpec.ofChange Rows.deskRunsSpec) own started (by kernel_rfl) Tryz.func3
  (witness_row_atRef (enc:=enc) (C:=Tryz.checked) false (laidWorld os) #[.slice none 0 0] (World.laidAll_os _ _ _) (by kernel_rfl) (by kernel_rfl) (by kernel_rfl)
   (OpenSpec.preRow_of_cond 8 hx (by kernel_rfl) (λk hk=>by cases hk) (by kernel_rfl) (laid_met os))) ?_
 intro W base args ds gs before hval0 hW _ hcnd _ hL _ _;have hW':=hW;obtain⟨p,q,hA,hV,rfl,hfz,hnd⟩:=hW;obtain⟨rfl,rfl⟩:=trodVars_none hV;obtain⟨y,hs,hok⟩:=MC Ts (by kernel_rfl) hA (λj t v h1 h2=>hval0 j t v (by simpa using h1) (by simpa using h2))
 obtain⟨d1,rfl⟩:=ani (RJ hA);refine(anj (law y hok) W (vs:=args.toList) (abe (A:=A) (aAW y) hs (ZA hL)) (ZA hL)).mono λe W' ⟨he,hb⟩=> ?_;subst he;exact⟨_,rfl,abf laid (by kernel_rfl) (by kernel_rfl) Tryz.underlying4 rfl hW' hb rfl⟩
theorem said:Rows.DeskRunsSaid:=
 OpenClaim.holds_of_cond 3 Tryz.f3 rfl rfl rfl rfl rfl rfl rfl ⟨rfl,rfl,rfl,rfl,rfl⟩ rfl rfl rfl rfl rfl (by kernel_rfl) Tryz.func3 (by kernel_rfl)
  (of_decide_eq_true (by kernel_rfl)) (by unfold Func.isWrapper;first|(rw[if_pos (by decide+kernel)];kernel_rfl)|(rw[if_neg (by decide+kernel)];exact⟨rfl,rfl⟩))
  (λos started H enc _ F=>by rw[OpenClaim.pre_eq_preRow];exact lifted os started H enc F)
theorem plain(f:FuncId)(fn:Func)(hf:Tryz.pinned.checked.prog.funcNamed "deadheat/deadheatlaw.DeskRuns" =some f)(hfn:Tryz.pinned.checked.prog.funcs[f]? =some fn):
  true=Tryz.pinned.checked.prog.looks []/\∀ (j:Nat) t,fn.params[j]? =some t->Tryz.pinned.checked.prog.wantsStandIn t=false:=by
 obtain rfl:f=3:=z00 ((show Tryz.prog.funcNamed "deadheat/deadheatlaw.DeskRuns" =some 3 by kernel_rfl).symm.trans hf)|>.symm
 obtain rfl:fn=Tryz.f3:=(z00 (Tryz.func3.symm.trans hfn)).symm;refine⟨by kernel_rfl,λj t ht=> ?_⟩
 rw[Tryz.params3] at ht;have hm:=Array.mem_of_getElem? ht;simp only[List.mem_toArray,z0a,z07,or_false] at hm;subst hm;exact(show Tryz.prog.wantsStandIn 22=false by kernel_rfl)
theorem holds:Rows.DeskRunsCardSaid:=
 Claim7.holds_tied_plain_at .later [] _ _ _ _ said (λ_ h=>by cases h) (by kernel_rfl) (λ_ h=>by cases h) deskRuns_row_tie rfl ⟨rfl,rfl⟩ (by kernel_rfl) rfl plain (by kernel_rfl)
#print axioms holds
end Go.Proofs.YtgnaipcjbmhihaaGreatDoor.DeskRuns
end
