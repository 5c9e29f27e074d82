/- A part of DeskRuns' proof. -/
import Derived.Test.YtgnaipcjbmhihaaGreatDoorRows
import Derived.Shelf.Strings.Split
import Derived.Shelf.Strconv.Itoa3
import Derived.Shelf.Strings.OnBuilder
import Derived.Shelf.Strings.FieldsFuncAny
import Derived.Shelf.Strconv.AtoiAll
import Derived.Test.YtgnaipcjbmhihaaGreatDoorDa
import Derived.Test.YtgnaipcjbmhihaaGreatDoorEa
import Derived.WalkKit
set_option linter.unusedVariables false
set_option linter.unusedSimpArgs false
open Bool renaming and_eq_true->z00,or_eq_true->z05,or_eq_false_iff->z0b,not_eq_true'->z0e,false_eq_true->z0p,eq_iff_iff->z0x,and_true->z1a,true_and->z1p,not_eq_true->z2c,not_eq_false->z2z
open Go.Lib renaming decDigits->z01,indexByte->z0m,count_one->z0n,nDigits->z0v,splitK->z16,atoiAll->z1l,split->z1o,goFieldsP->z1q,itoa_nonneg->z2i,splitB->z2k,closeSpans->z2l,index_one->z2o,countB->z2x,decDigits_one->z3d,splitB_data->z3l,parseUint10->z3m,splitB_all->z3o,spansFromP->z3p,join->z3q,itoa->z3r
open List renaming length_append->z02,length_map->z06,getElem?_eq_getElem->z07,map_append->z08,getD_cons_zero->z09,nil_append->z0a,getD->z0c,length_take->z0f,getElem?_eq_some_iff->z0i,take_succ_cons->z0j,getD_cons_succ->z0k,append_nil->z0l,mem_singleton->z0o,length_singleton->z0q,take_length->z0r,map_cons->z0s,all_cons->z0t,length_nil->z0w,set_cons_zero->z0y,set_cons_succ->z0z,drop_eq_getElem_cons->z18,foldl_append->z19,take_of_length_le->z1b,map_nil->z1c,drop_eq_nil_of_le->z1d,mem_append->z1e,headD_cons->z1f,take_zero->z1i,tail_cons->z1j,replicate->z1k,getElem_of_mem->z1m,map_map->z1s,all_nil->z1t,length_drop->z1w,length_cons->z1x,getElem_mem->z1y,cons_append->z1z,any_eq_true->z2a,length->z2d,foldl_cons->z2g,all_append->z2h,mem_range->z2j,length_eq_zero_iff->z2m,range->z2s,take_add_one->z2u,getElem_take->z2v,append_assoc->z2w,not_mem_nil->z3a,mem_flatMap->z3b,drop_length->z3c,find?_some->z3e,any_append->z3f,foldl_nil->z3i,drop_zero->z3j,drop_drop->z3k,mem_cons->z3n
open Nat renaming le_refl->z03,add_assoc->z0d,lt_succ_self->z0g,add_zero->z0h,pow_le_pow_right->z0u,mul_le_mul->z14,lt_of_lt_of_le->z15,not_lt_zero->z1h,le_of_lt->z1u,zero_le->z2e,mul_one->z2f,pow_succ->z2p,lt_or_ge->z2q,add_sub_cancel->z2t
open Go.IntKind renaming i64->z04,signed->z2y,wrap->z3g,bits->z3h,u8->z3s
open Int renaming reduceEq->z1g
open Go.Value renaming string->z1r
open Option renaming some.inj->z1v,getD_some->z2r
set_option maxRecDepth 100000
open Go Go.Sx Go.Proofs
namespace Go.Proofs.YtgnaipcjbmhihaaGreatDoor.Sh
open Go Go.Shelf Go.Proofs
def kW:Go.Shelf.Ren:=⟨fun|146=>8|221=>30|268=>71|138=>72|143=>73|195=>111|197=>112|218=>113|219=>114|260=>146|217=>147|225=>148|224=>149|267=>150|266=>174|314=>175|n=>n,fun|9=>9|31=>22|3=>3|4=>4|0=>0|105=>183|21=>21|5=>5|46=>230|119=>263|139=>266|138=>265|146=>267|51=>239|n=>n,fun|1=>2|3=>4|4=>5|n=>n⟩
theorem laysSplit:Go.Proofs.Lays.n146 Tryz.prog kW:= {
 mixed:=by kernel_rfl,
 f138:=Tryz.func72.trans (congrArg some (by kernel_rfl)),
 f143:=Tryz.func73.trans (congrArg some (by kernel_rfl)),
 f146:=Tryz.func8.trans (congrArg some (by kernel_rfl)),
 f195:=Tryz.func111.trans (congrArg some (by kernel_rfl)),
 f197:=Tryz.func112.trans (congrArg some (by kernel_rfl)),
 f217:=Tryz.func147.trans (congrArg some (by kernel_rfl)),
 f218:=Tryz.func113.trans (congrArg some (by kernel_rfl)),
 f219:=Tryz.func114.trans (congrArg some (by kernel_rfl)),
 f221:=Tryz.func30.trans (congrArg some (by kernel_rfl)),
 f224:=Tryz.func149.trans (congrArg some (by kernel_rfl)),
 f225:=Tryz.func148.trans (congrArg some (by kernel_rfl)),
 f260:=Tryz.func146.trans (congrArg some (by kernel_rfl)),
 f266:=Tryz.func174.trans (congrArg some (by kernel_rfl)),
 f267:=Tryz.func150.trans (congrArg some (by kernel_rfl)),
 f268:=Tryz.func71.trans (congrArg some (by kernel_rfl)),
 f314:=Tryz.func175.trans (congrArg some (by kernel_rfl)),
 t0:=Tryz.underlying0,
 a0:=Tryz.isAgg0,
 z0:=Tryz.sizeOf0,
 v0:=Tryz.zeroValue0,
 t3:=Tryz.underlying3,
 a3:=Tryz.isAgg3,
 z3:=Tryz.sizeOf3,
 v3:=Tryz.zeroValue3,
 t4:=Tryz.underlying4,
 a4:=Tryz.isAgg4,
 z4:=Tryz.sizeOf4,
 v4:=Tryz.zeroValue4,
 t5:=Tryz.underlying5,
 a5:=Tryz.isAgg5,
 z5:=Tryz.sizeOf5,
 v5:=Tryz.zeroValue5,
 t9:=Tryz.underlying9,
 a9:=Tryz.isAgg9,
 z9:=Tryz.sizeOf9,
 v9:=Tryz.zeroValue9,
 t21:=Tryz.underlying21,
 a21:=Tryz.isAgg21,
 z21:=Tryz.sizeOf21,
 v21:=Tryz.zeroValue21,
 t31:=Tryz.underlying22,
 a31:=Tryz.isAgg22,
 z31:=Tryz.sizeOf22,
 v31:=Tryz.zeroValue22,
 t46:=Tryz.underlying230,
 a46:=Tryz.isAgg230,
 z46:=Tryz.sizeOf230,
 v46:=Tryz.zeroValue230,
 t51:=Tryz.underlying239,
 a51:=Tryz.isAgg239,
 z51:=Tryz.sizeOf239,
 v51:=Tryz.zeroValue239,
 t105:=Tryz.underlying183,
 a105:=Tryz.isAgg183,
 z105:=Tryz.sizeOf183,
 v105:=Tryz.zeroValue183,
 t119:=Tryz.underlying263,
 a119:=Tryz.isAgg263,
 z119:=Tryz.sizeOf263,
 t138:=Tryz.underlying265,
 a138:=Tryz.isAgg265,
 z138:=Tryz.sizeOf265,
 v138:=Tryz.zeroValue265,
 t139:=Tryz.underlying266,
 a139:=Tryz.isAgg266,
 z139:=Tryz.sizeOf266,
 v139:=Tryz.zeroValue266,
 t146:=Tryz.underlying267,
 a146:=Tryz.isAgg267,
 z146:=Tryz.sizeOf267,
 v146:=Tryz.zeroValue267,
 g1:=by kernel_rfl,
 g3:=by kernel_rfl,
 g4:=by kernel_rfl}
def OX:Go.Shelf.Ren:=⟨fun|171=>12|243=>47|246=>86|283=>120|284=>121|285=>122|286=>123|129=>154|317=>153|318=>155|319=>156|320=>157|337=>176|338=>177|n=>n,fun|3=>3|9=>9|2=>2|4=>4|171=>190|0=>0|53=>191|37=>97|5=>5|173=>194|212=>238|51=>239|20=>20|213=>240|46=>230|232=>278|233=>279|n=>n,fun|17=>3|18=>6|19=>7|n=>n⟩
theorem laysItoa:Go.Proofs.LaysM.n171 Tryz.prog OX:= {
 mixed:=by kernel_rfl,
 f129:=Tryz.func154.trans (congrArg some (by kernel_rfl)),
 f171:=Tryz.func12.trans (congrArg some (by kernel_rfl)),
 f243:=Tryz.func47.trans (congrArg some (by kernel_rfl)),
 f246:=Tryz.func86.trans (congrArg some (by kernel_rfl)),
 f283:=Tryz.func120.trans (congrArg some (by kernel_rfl)),
 f284:=Tryz.func121.trans (congrArg some (by kernel_rfl)),
 f285:=Tryz.func122.trans (congrArg some (by kernel_rfl)),
 f286:=Tryz.func123.trans (congrArg some (by kernel_rfl)),
 f317:=Tryz.func153.trans (congrArg some (by kernel_rfl)),
 f318:=Tryz.func155.trans (congrArg some (by kernel_rfl)),
 f319:=Tryz.func156.trans (congrArg some (by kernel_rfl)),
 f320:=Tryz.func157.trans (congrArg some (by kernel_rfl)),
 f337:=Tryz.func176.trans (congrArg some (by kernel_rfl)),
 f338:=Tryz.func177.trans (congrArg some (by kernel_rfl)),
 t0:=Tryz.underlying0,
 a0:=Tryz.isAgg0,
 z0:=Tryz.sizeOf0,
 v0:=Tryz.zeroValue0,
 t2:=Tryz.underlying2,
 a2:=Tryz.isAgg2,
 z2:=Tryz.sizeOf2,
 v2:=Tryz.zeroValue2,
 t3:=Tryz.underlying3,
 a3:=Tryz.isAgg3,
 z3:=Tryz.sizeOf3,
 v3:=Tryz.zeroValue3,
 t4:=Tryz.underlying4,
 a4:=Tryz.isAgg4,
 z4:=Tryz.sizeOf4,
 v4:=Tryz.zeroValue4,
 t5:=Tryz.underlying5,
 a5:=Tryz.isAgg5,
 z5:=Tryz.sizeOf5,
 v5:=Tryz.zeroValue5,
 t9:=Tryz.underlying9,
 a9:=Tryz.isAgg9,
 z9:=Tryz.sizeOf9,
 v9:=Tryz.zeroValue9,
 t20:=Tryz.underlying20,
 a20:=Tryz.isAgg20,
 z20:=Tryz.sizeOf20,
 v20:=Tryz.zeroValue20,
 t37:=Tryz.underlying97,
 a37:=Tryz.isAgg97,
 z37:=Tryz.sizeOf97,
 v37:=Tryz.zeroValue97,
 t46:=Tryz.underlying230,
 a46:=Tryz.isAgg230,
 z46:=Tryz.sizeOf230,
 v46:=Tryz.zeroValue230,
 t51:=Tryz.underlying239,
 a51:=Tryz.isAgg239,
 z51:=Tryz.sizeOf239,
 v51:=Tryz.zeroValue239,
 t53:=Tryz.underlying191,
 a53:=Tryz.isAgg191,
 z53:=Tryz.sizeOf191,
 v53:=Tryz.zeroValue191,
 t171:=Tryz.underlying190,
 a171:=Tryz.isAgg190,
 z171:=Tryz.sizeOf190,
 v171:=Tryz.zeroValue190,
 t173:=Tryz.underlying194,
 a173:=Tryz.isAgg194,
 z173:=Tryz.sizeOf194,
 v173:=Tryz.zeroValue194,
 t212:=Tryz.underlying238,
 a212:=Tryz.isAgg238,
 z212:=Tryz.sizeOf238,
 v212:=Tryz.zeroValue238,
 t213:=Tryz.underlying240,
 a213:=Tryz.isAgg240,
 z213:=Tryz.sizeOf240,
 t232:=Tryz.underlying278,
 a232:=Tryz.isAgg278,
 z232:=Tryz.sizeOf278,
 v232:=Tryz.zeroValue278,
 t233:=Tryz.underlying279,
 a233:=Tryz.isAgg279,
 z233:=Tryz.sizeOf279,
 v233:=Tryz.zeroValue279,
 g17:=by kernel_rfl,
 g18:=by kernel_rfl,
 g19:=by kernel_rfl,
 i0:=by kernel_rfl,
 i2:=by kernel_rfl,
 i3:=by kernel_rfl,
 i4:=by kernel_rfl,
 i5:=by kernel_rfl,
 i9:=by kernel_rfl,
 i20:=by kernel_rfl,
 i37:=by kernel_rfl,
 i46:=by kernel_rfl,
 i51:=by kernel_rfl,
 i53:=by kernel_rfl,
 i171:=by kernel_rfl,
 i173:=by kernel_rfl,
 i212:=by kernel_rfl,
 i232:=by kernel_rfl,
 i233:=by kernel_rfl,
 m17:=by kernel_rfl,
 m18:=by kernel_rfl,
 m19:=by kernel_rfl}
def laysJoin_ren:Go.Shelf.Ren:=⟨fun|156=>16|165=>50|166=>51|169=>52|240=>90|241=>91|276=>127|277=>128|n=>n,fun|31=>22|9=>9|3=>3|4=>4|0=>0|20=>20|72=>99|76=>52|70=>96|37=>97|75=>51|127=>145|164=>198|5=>5|80=>101|n=>n,fun|n=>n⟩
theorem laysJoin:Go.Proofs.Lays.n156 Tryz.prog laysJoin_ren:= {
 mixed:=by kernel_rfl,
 f156:=Tryz.func16.trans (congrArg some (by kernel_rfl)),
 f165:=Tryz.func50.trans (congrArg some (by kernel_rfl)),
 f166:=Tryz.func51.trans (congrArg some (by kernel_rfl)),
 f169:=Tryz.func52.trans (congrArg some (by kernel_rfl)),
 f240:=Tryz.func90.trans (congrArg some (by kernel_rfl)),
 f241:=Tryz.func91.trans (congrArg some (by kernel_rfl)),
 f276:=Tryz.func127.trans (congrArg some (by kernel_rfl)),
 f277:=Tryz.func128.trans (congrArg some (by kernel_rfl)),
 t0:=Tryz.underlying0,
 a0:=Tryz.isAgg0,
 z0:=Tryz.sizeOf0,
 v0:=Tryz.zeroValue0,
 t3:=Tryz.underlying3,
 a3:=Tryz.isAgg3,
 z3:=Tryz.sizeOf3,
 v3:=Tryz.zeroValue3,
 t4:=Tryz.underlying4,
 a4:=Tryz.isAgg4,
 z4:=Tryz.sizeOf4,
 v4:=Tryz.zeroValue4,
 t9:=Tryz.underlying9,
 a9:=Tryz.isAgg9,
 z9:=Tryz.sizeOf9,
 v9:=Tryz.zeroValue9,
 t20:=Tryz.underlying20,
 a20:=Tryz.isAgg20,
 z20:=Tryz.sizeOf20,
 v20:=Tryz.zeroValue20,
 t31:=Tryz.underlying22,
 a31:=Tryz.isAgg22,
 z31:=Tryz.sizeOf22,
 v31:=Tryz.zeroValue22,
 t37:=Tryz.underlying97,
 a37:=Tryz.isAgg97,
 z37:=Tryz.sizeOf97,
 v37:=Tryz.zeroValue97,
 t70:=Tryz.underlying96,
 a70:=Tryz.isAgg96,
 z70:=Tryz.sizeOf96,
 v70:=Tryz.zeroValue96,
 t72:=Tryz.underlying99,
 a72:=Tryz.isAgg99,
 z72:=Tryz.sizeOf99,
 v72:=Tryz.zeroValue99,
 t75:=Tryz.underlying51,
 a75:=Tryz.isAgg51,
 z75:=Tryz.sizeOf51,
 v75:=Tryz.zeroValue51,
 t76:=Tryz.underlying52,
 a76:=Tryz.isAgg52,
 z76:=Tryz.sizeOf52,
 v76:=Tryz.zeroValue52,
 t127:=Tryz.underlying145,
 a127:=Tryz.isAgg145,
 z127:=Tryz.sizeOf145,
 v127:=Tryz.zeroValue145,
 t164:=Tryz.underlying198,
 a164:=Tryz.isAgg198,
 z164:=Tryz.sizeOf198,
 v164:=Tryz.zeroValue198}
def laysFields_ren:Go.Shelf.Ren:=⟨fun|229=>13|n=>n,fun|9=>9|40=>41|31=>22|152=>91|3=>3|0=>0|4=>4|21=>21|154=>93|n=>n,fun|n=>n⟩
theorem laysFields:Go.Proofs.Lays.n229 Tryz.prog laysFields_ren:= {
 mixed:=by kernel_rfl,
 f229:=Tryz.func13.trans (congrArg some (by kernel_rfl)),
 t0:=Tryz.underlying0,
 a0:=Tryz.isAgg0,
 z0:=Tryz.sizeOf0,
 v0:=Tryz.zeroValue0,
 t3:=Tryz.underlying3,
 a3:=Tryz.isAgg3,
 z3:=Tryz.sizeOf3,
 v3:=Tryz.zeroValue3,
 t4:=Tryz.underlying4,
 a4:=Tryz.isAgg4,
 z4:=Tryz.sizeOf4,
 v4:=Tryz.zeroValue4,
 t9:=Tryz.underlying9,
 a9:=Tryz.isAgg9,
 z9:=Tryz.sizeOf9,
 v9:=Tryz.zeroValue9,
 t21:=Tryz.underlying21,
 a21:=Tryz.isAgg21,
 z21:=Tryz.sizeOf21,
 v21:=Tryz.zeroValue21,
 t31:=Tryz.underlying22,
 a31:=Tryz.isAgg22,
 z31:=Tryz.sizeOf22,
 v31:=Tryz.zeroValue22,
 t40:=Tryz.underlying41,
 a40:=Tryz.isAgg41,
 z40:=Tryz.sizeOf41,
 v40:=Tryz.zeroValue41,
 t152:=Tryz.underlying91,
 a152:=Tryz.isAgg91,
 z152:=Tryz.sizeOf91,
 v152:=Tryz.zeroValue91,
 t154:=Tryz.underlying93,
 a154:=Tryz.isAgg93,
 z154:=Tryz.sizeOf93,
 v154:=Tryz.zeroValue93}
def OY:Go.Shelf.Ren:=⟨fun|172=>29|244=>69|245=>70|247=>106|279=>107|280=>108|281=>109|282=>110|287=>143|316=>144|171=>12|205=>145|321=>172|322=>173|243=>47|246=>86|283=>120|284=>121|285=>122|286=>123|129=>154|317=>153|318=>155|319=>156|320=>157|337=>176|338=>177|n=>n,fun|9=>9|3=>3|75=>51|76=>52|4=>4|5=>5|167=>176|37=>97|0=>0|85=>177|2=>2|168=>179|53=>191|175=>228|46=>230|210=>232|127=>145|145=>262|143=>260|21=>21|171=>190|173=>194|212=>238|51=>239|20=>20|213=>240|232=>278|233=>279|80=>101|n=>n,fun|15=>0|16=>1|17=>3|18=>6|19=>7|n=>n⟩
theorem laysAtoi:Go.Proofs.LaysC.n172 Tryz.prog OY:= {
 mixed:=by kernel_rfl,
 f129:=Tryz.func154.trans (congrArg some (by kernel_rfl)),
 f171:=Tryz.func12.trans (congrArg some (by kernel_rfl)),
 f172:=Tryz.func29.trans (congrArg some (by kernel_rfl)),
 f205:=Tryz.func145.trans (congrArg some (by kernel_rfl)),
 f243:=Tryz.func47.trans (congrArg some (by kernel_rfl)),
 f244:=Tryz.func69.trans (congrArg some (by kernel_rfl)),
 f245:=Tryz.func70.trans (congrArg some (by kernel_rfl)),
 f246:=Tryz.func86.trans (congrArg some (by kernel_rfl)),
 f247:=Tryz.func106.trans (congrArg some (by kernel_rfl)),
 f279:=Tryz.func107.trans (congrArg some (by kernel_rfl)),
 f280:=Tryz.func108.trans (congrArg some (by kernel_rfl)),
 f281:=Tryz.func109.trans (congrArg some (by kernel_rfl)),
 f282:=Tryz.func110.trans (congrArg some (by kernel_rfl)),
 f283:=Tryz.func120.trans (congrArg some (by kernel_rfl)),
 f284:=Tryz.func121.trans (congrArg some (by kernel_rfl)),
 f285:=Tryz.func122.trans (congrArg some (by kernel_rfl)),
 f286:=Tryz.func123.trans (congrArg some (by kernel_rfl)),
 f287:=Tryz.func143.trans (congrArg some (by kernel_rfl)),
 f316:=Tryz.func144.trans (congrArg some (by kernel_rfl)),
 f317:=Tryz.func153.trans (congrArg some (by kernel_rfl)),
 f318:=Tryz.func155.trans (congrArg some (by kernel_rfl)),
 f319:=Tryz.func156.trans (congrArg some (by kernel_rfl)),
 f320:=Tryz.func157.trans (congrArg some (by kernel_rfl)),
 f321:=Tryz.func172.trans (congrArg some (by kernel_rfl)),
 f322:=Tryz.func173.trans (congrArg some (by kernel_rfl)),
 f337:=Tryz.func176.trans (congrArg some (by kernel_rfl)),
 f338:=Tryz.func177.trans (congrArg some (by kernel_rfl)),
 t0:=Tryz.underlying0,
 a0:=Tryz.isAgg0,
 z0:=Tryz.sizeOf0,
 v0:=Tryz.zeroValue0,
 t2:=Tryz.underlying2,
 a2:=Tryz.isAgg2,
 z2:=Tryz.sizeOf2,
 v2:=Tryz.zeroValue2,
 t3:=Tryz.underlying3,
 a3:=Tryz.isAgg3,
 z3:=Tryz.sizeOf3,
 v3:=Tryz.zeroValue3,
 t4:=Tryz.underlying4,
 a4:=Tryz.isAgg4,
 z4:=Tryz.sizeOf4,
 v4:=Tryz.zeroValue4,
 t5:=Tryz.underlying5,
 a5:=Tryz.isAgg5,
 z5:=Tryz.sizeOf5,
 v5:=Tryz.zeroValue5,
 t9:=Tryz.underlying9,
 a9:=Tryz.isAgg9,
 z9:=Tryz.sizeOf9,
 v9:=Tryz.zeroValue9,
 t20:=Tryz.underlying20,
 a20:=Tryz.isAgg20,
 z20:=Tryz.sizeOf20,
 v20:=Tryz.zeroValue20,
 t21:=Tryz.underlying21,
 a21:=Tryz.isAgg21,
 z21:=Tryz.sizeOf21,
 v21:=Tryz.zeroValue21,
 t37:=Tryz.underlying97,
 a37:=Tryz.isAgg97,
 z37:=Tryz.sizeOf97,
 v37:=Tryz.zeroValue97,
 t46:=Tryz.underlying230,
 a46:=Tryz.isAgg230,
 z46:=Tryz.sizeOf230,
 v46:=Tryz.zeroValue230,
 t51:=Tryz.underlying239,
 a51:=Tryz.isAgg239,
 z51:=Tryz.sizeOf239,
 v51:=Tryz.zeroValue239,
 t53:=Tryz.underlying191,
 a53:=Tryz.isAgg191,
 z53:=Tryz.sizeOf191,
 v53:=Tryz.zeroValue191,
 t75:=Tryz.underlying51,
 a75:=Tryz.isAgg51,
 z75:=Tryz.sizeOf51,
 v75:=Tryz.zeroValue51,
 t76:=Tryz.underlying52,
 a76:=Tryz.isAgg52,
 z76:=Tryz.sizeOf52,
 v76:=Tryz.zeroValue52,
 t85:=Tryz.underlying177,
 a85:=Tryz.isAgg177,
 z85:=Tryz.sizeOf177,
 v85:=Tryz.zeroValue177,
 t127:=Tryz.underlying145,
 a127:=Tryz.isAgg145,
 z127:=Tryz.sizeOf145,
 v127:=Tryz.zeroValue145,
 t143:=Tryz.underlying260,
 a143:=Tryz.isAgg260,
 z143:=Tryz.sizeOf260,
 v143:=Tryz.zeroValue260,
 t145:=Tryz.underlying262,
 a145:=Tryz.isAgg262,
 z145:=Tryz.sizeOf262,
 v145:=Tryz.zeroValue262,
 t167:=Tryz.underlying176,
 a167:=Tryz.isAgg176,
 z167:=Tryz.sizeOf176,
 v167:=Tryz.zeroValue176,
 t168:=Tryz.underlying179,
 a168:=Tryz.isAgg179,
 z168:=Tryz.sizeOf179,
 v168:=Tryz.zeroValue179,
 t171:=Tryz.underlying190,
 a171:=Tryz.isAgg190,
 z171:=Tryz.sizeOf190,
 v171:=Tryz.zeroValue190,
 t173:=Tryz.underlying194,
 a173:=Tryz.isAgg194,
 z173:=Tryz.sizeOf194,
 v173:=Tryz.zeroValue194,
 t175:=Tryz.underlying228,
 a175:=Tryz.isAgg228,
 z175:=Tryz.sizeOf228,
 v175:=Tryz.zeroValue228,
 t210:=Tryz.underlying232,
 a210:=Tryz.isAgg232,
 z210:=Tryz.sizeOf232,
 v210:=Tryz.zeroValue232,
 t212:=Tryz.underlying238,
 a212:=Tryz.isAgg238,
 z212:=Tryz.sizeOf238,
 v212:=Tryz.zeroValue238,
 t213:=Tryz.underlying240,
 a213:=Tryz.isAgg240,
 z213:=Tryz.sizeOf240,
 t232:=Tryz.underlying278,
 a232:=Tryz.isAgg278,
 z232:=Tryz.sizeOf278,
 v232:=Tryz.zeroValue278,
 t233:=Tryz.underlying279,
 a233:=Tryz.isAgg279,
 z233:=Tryz.sizeOf279,
 v233:=Tryz.zeroValue279,
 g15:=by kernel_rfl,
 g16:=by kernel_rfl,
 g17:=by kernel_rfl,
 g18:=by kernel_rfl,
 g19:=by kernel_rfl,
 t80:=Tryz.underlying101,
 a80:=Tryz.isAgg101,
 z80:=Tryz.sizeOf101,
 v80:=Tryz.zeroValue101,
 i0:=by kernel_rfl,
 i2:=by kernel_rfl,
 i3:=by kernel_rfl,
 i4:=by kernel_rfl,
 i5:=by kernel_rfl,
 i9:=by kernel_rfl,
 i20:=by kernel_rfl,
 i21:=by kernel_rfl,
 i37:=by kernel_rfl,
 i46:=by kernel_rfl,
 i51:=by kernel_rfl,
 i53:=by kernel_rfl,
 i75:=by kernel_rfl,
 i76:=by kernel_rfl,
 i80:=by kernel_rfl,
 i85:=by kernel_rfl,
 i127:=by kernel_rfl,
 i143:=by kernel_rfl,
 i145:=by kernel_rfl,
 i167:=by kernel_rfl,
 i168:=by kernel_rfl,
 i171:=by kernel_rfl,
 i173:=by kernel_rfl,
 i175:=by kernel_rfl,
 i210:=by kernel_rfl,
 i212:=by kernel_rfl,
 i232:=by kernel_rfl,
 i233:=by kernel_rfl,
 m15:=by kernel_rfl,
 m16:=by kernel_rfl,
 m17:=by kernel_rfl,
 m18:=by kernel_rfl,
 m19:=by kernel_rfl,
 c0:=by kernel_rfl,
 c2:=by kernel_rfl,
 c3:=by kernel_rfl,
 c4:=by kernel_rfl,
 c5:=by kernel_rfl,
 c9:=by kernel_rfl,
 c20:=by kernel_rfl,
 c21:=by kernel_rfl,
 c37:=by kernel_rfl,
 c46:=by kernel_rfl,
 c51:=by kernel_rfl,
 c53:=by kernel_rfl,
 c75:=by kernel_rfl,
 c76:=by kernel_rfl,
 c80:=by kernel_rfl,
 c85:=by kernel_rfl,
 c127:=by kernel_rfl,
 c143:=by kernel_rfl,
 c145:=by kernel_rfl,
 c167:=by kernel_rfl,
 c168:=by kernel_rfl,
 c171:=by kernel_rfl,
 c173:=by kernel_rfl,
 c175:=by kernel_rfl,
 c210:=by kernel_rfl,
 c212:=by kernel_rfl,
 c213:=by kernel_rfl,
 c232:=by kernel_rfl,
 c233:=by kernel_rfl}
end Go.Proofs.YtgnaipcjbmhihaaGreatDoor.Sh
section
open Go Go.Sx
namespace Go.Proofs.YtgnaipcjbmhihaaGreatDoor.D
structure Ev where
 kind:Int
 aC:Int
 obj:Int
def aO:DT Ev:=(DT.nC (.st [.int .i64, .int .i64, .int .i64])).Fv (λx=>⟨x.1,x.2.1,x.2.2.1⟩) (λe=>(e.kind,e.aC,e.obj,())) (λ_=>rfl) (λ_=>rfl)
instance:Flat aO:=(Flat.nC rfl).Fv
theorem IE(e:Ev):aO.aA e= .agg [.int .i64 e.kind, .int .i64 e.aC, .int .i64 e.obj]:=nr rfl
theorem aql(m:List ay)(k t o:Int):aO.aG m (.agg [.int .i64 k, .int .i64 t, .int .i64 o])=⟨k,t,o⟩:=nr rfl
theorem aqm(m:List ay)(k t o:Int):aO.decP m (.agg [.int .i64 k, .int .i64 t, .int .i64 o])=True:=eq_true ⟨rfl,rfl,rfl,trivial⟩
theorem awC(e:Ev):(⟨e.kind,e.aC,e.obj⟩:Ev)=e:=nr rfl
instance:DecidableEq Ev:=λa b=>decidable_of_iff (a.kind=b.kind/\a.aC=b.aC/\a.obj=b.obj) ⟨λh=>by cases a;cases b;obtain⟨rfl,rfl,rfl⟩:=h;rfl,λh=>by subst h;exact⟨rfl,rfl,rfl⟩⟩
structure Pr where
 a:Int
 b:Int
def jo:DT Pr:=(DT.nC (.st [.int .i64, .int .i64])).Fv (λx=>⟨x.1,x.2.1⟩) (λe=>(e.a,e.b,())) (λ_=>rfl) (λ_=>rfl)
instance:Flat jo:=(Flat.nC rfl).Fv
theorem ED(e:Pr):jo.aA e= .agg [.int .i64 e.a, .int .i64 e.b]:=nr rfl
theorem aqn(m:List ay)(k t:Int):jo.aG m (.agg [.int .i64 k, .int .i64 t])=⟨k,t⟩:=nr rfl
theorem aqo(m:List ay)(k t:Int):jo.decP m (.agg [.int .i64 k, .int .i64 t])=True:=eq_true ⟨rfl,rfl,trivial⟩
theorem awD(e:Pr):(⟨e.a,e.b⟩:Pr)=e:=nr rfl
instance:DecidableEq Pr:=λa b=>decidable_of_iff (a.a=b.a/\a.b=b.b) ⟨λh=>by cases a;cases b;obtain⟨rfl,rfl⟩:=h;rfl,λh=>by subst h;exact⟨rfl,rfl⟩⟩
attribute [go_sem] IE aql aqm awC ED aqn aqo awD
abbrev ji:=Nat->Int
def bU:DT ji:=DT.arr 6 1 DT.int
instance:Flat bU:=inferInstanceAs (Flat (DT.arr 6 1 DT.int))
theorem DW(f:ji):bU.aA f= .arr 6 1 λi=> .int .i64 (f i):=nr rfl
theorem aln(m:List ay)(f:Nat->Int):bU.aG m (.arr 6 1 λi=> .int .i64 (f i))=f:=nr rfl
theorem alo(m:List ay)(f:Nat->Int):bU.decP m (.arr 6 1 λi=> .int .i64 (f i))=True:=eq_true ⟨rfl,rfl,λ_ _=>rfl⟩
attribute [go_sem] DW aln alo
theorem C9(f:Nat->Int)(i:Nat)(x:Int):wS (λk=>SV.int .i64 (f k)) i (.int .i64 x)=λk=>SV.int .i64 (if k=i then x else f k):=by
 funext k;unfold wS;split<;>rfl
theorem alp(f:Nat->Bool)(i:Nat)(x:Bool):wS (λk=>SV.bool (f k)) i (.bool x)=λk=>SV.bool (if k=i then x else f k):=by
 funext k;unfold wS;split<;>rfl
theorem aqp(n w:Nat)(f:Nat->Nat->Int)(i:Nat)(g:Nat->Int):wS (λk=>SV.arr n w λj=> .int .i64 (f k j)) i (.arr n w λj=> .int .i64 (g j))=λk=>SV.arr n w λj=> .int .i64 (if k=i then g j else f k j):=by
 funext k;unfold wS;split<;>rfl
attribute [go_sem] C9 alp aqp
structure Wd where
 begun:Nat->Bool
 over:Nat->Bool
 owner:Nat->Int
def dWd:DT Wd:=(DT.nC (.st [.arr 6 1 .bool, .arr 6 1 .bool, .arr 5 1 (.int .i64)])).Fv (λx=>⟨x.1,x.2.1,x.2.2.1⟩) (λw=>(w.begun,w.over,w.owner,())) (λ_=>rfl) (λ_=>rfl)
instance:Flat dWd:=(Flat.nC rfl).Fv
theorem awE(w:Wd):dWd.aA w= .agg [.arr 6 1 λi=> .bool (w.begun i), .arr 6 1 λi=> .bool (w.over i), .arr 5 1 λi=> .int .i64 (w.owner i)]:=nr rfl
theorem aqr(m:List ay)(f g:Nat->Bool)(h:Nat->Int):dWd.aG m (.agg [.arr 6 1 λi=> .bool (f i), .arr 6 1 λi=> .bool (g i), .arr 5 1 λi=> .int .i64 (h i)])=⟨f,g,h⟩:=nr rfl
theorem aqs(m:List ay)(f g:Nat->Bool)(h:Nat->Int):dWd.decP m (.agg [.arr 6 1 λi=> .bool (f i), .arr 6 1 λi=> .bool (g i), .arr 5 1 λi=> .int .i64 (h i)])=True:=eq_true ⟨⟨rfl,rfl,λ_ _=>trivial⟩,⟨rfl,rfl,λ_ _=>trivial⟩,⟨rfl,rfl,λ_ _=>rfl⟩,trivial⟩
theorem awF(w:Wd):(⟨w.begun,w.over,w.owner⟩:Wd)=w:=nr rfl
attribute [go_sem] awE aqr aqs awF
theorem nP{α:Type}{l:List α}{i:Nat}(d:α)(h:i<l.length):l.drop i=l.getD i d::l.drop (i+1):=by rw[z18 h];simp[z0c,h]
theorem bH{α:Type}{l:List α}{i:Nat}(d:α)(h:i<l.length):l.take (i+1)=l.take i++[l.getD i d]:=by rw[z2u];simp[z0c,h]
theorem getD_mem{α:Type}{l:List α}{i:Nat}{d:α}(h:i<l.length):l.getD i d∈l:=by simp only[z0c,z07 h,z2r];exact z1y h
structure PO where
 kind:Int
 obj:Int
 n:Int
def dOp:DT PO:=(DT.nC (.st [.int .i64, .int .i64, .int .i64])).Fv (λx=>⟨x.1,x.2.1,x.2.2.1⟩) (λe=>(e.kind,e.obj,e.n,())) (λ_=>rfl) (λ_=>rfl)
instance:Flat dOp:=(Flat.nC rfl).Fv
theorem awG(e:PO):dOp.aA e= .agg [.int .i64 e.kind, .int .i64 e.obj, .int .i64 e.n]:=nr rfl
theorem aqt(m:List ay)(k t o:Int):dOp.aG m (.agg [.int .i64 k, .int .i64 t, .int .i64 o])=⟨k,t,o⟩:=nr rfl
theorem aqu(m:List ay)(k t o:Int):dOp.decP m (.agg [.int .i64 k, .int .i64 t, .int .i64 o])=True:=eq_true ⟨rfl,rfl,rfl,trivial⟩
theorem awH(e:PO):(⟨e.kind,e.obj,e.n⟩:PO)=e:=nr rfl
attribute [go_sem] awG aqt aqu awH
theorem CW{α:Type}{l:List α}{i:Nat}(d:α)(p:α->Bool)(h:i<l.length)(hi:(l.take i).any p=false):(l.take (i+1)).any p=p (l.getD i d):=by rw[bH d h,z3f,hi];simp
theorem Om{α:Type}{l:List α}{i:Nat}{d:α}{p:α->Bool}(h:i<l.length)(hp:p (l.getD i d)=true):l.any p=true:=z2a.2 ⟨_,getD_mem h,hp⟩
theorem any_none{α:Type}{l:List α}{i:Nat}{p:α->Bool}(h:¬ (i:Int)<l.length)(hi:i<=l.length/\(l.take i).any p=false):l.any p=false:=by
 have:i=l.length:=by omega
 subst this;simpa using hi.2
def AB{α:Type}(e:α->α->Bool):List α->List α->Bool
 |[],[]=>true
 |x::xs,y::ys=>e x y&&AB e xs ys
 |_,_=>false
theorem RD{α:Type}{e:α->α->Bool}:∀ {xs ys:List α},¬ ((xs.length:Int)=ys.length)->AB e xs ys=false
 |[],[],h=>absurd rfl h
 |[],_::_,_=>rfl
 |_::_,[],_=>rfl
 |x::xs,y::ys,h=>by rw[AB,RD (xs:=xs) (ys:=ys) (by simp only[z1x] at h;omega),Bool.and_false]
theorem aa'{α:Type}{e:α->α->Bool}{xs ys:List α}{i:Nat}{d d':α}(h:i<xs.length)(h':i<ys.length):AB e (xs.drop i) (ys.drop i)=(e (xs.getD i d) (ys.getD i d')&&AB e (xs.drop (i+1)) (ys.drop (i+1))):=by rw[nP d h,nP d' h',AB]
theorem abb{α:Type}{e:α->α->Bool}{xs ys:List α}{i:Nat}(h:AB e xs ys=AB e (xs.drop i) (ys.drop i))(h1:xs.length<=i)(h2:ys.length<=i):AB e xs ys=true:=by rw[h,z1d h1,z1d h2];rfl
theorem MB{α:Type}{e:α->α->Bool}(he:∀ x,e x x=true):∀ (xs:List α),AB e xs xs=true
 |[]=>rfl
 |x::xs=>by simp[AB,he,MB he]
structure Fl where
 at':Int
 var:Int
 kind:Int
def jL:DT Fl:=(DT.nC (.st [.int .i64, .int .i64, .int .i64])).Fv (λx=>⟨x.1,x.2.1,x.2.2.1⟩) (λe=>(e.at',e.var,e.kind,())) (λ_=>rfl) (λ_=>rfl)
instance:Flat jL:=(Flat.nC rfl).Fv
theorem OW(e:Fl):jL.aA e= .agg [.int .i64 e.at', .int .i64 e.var, .int .i64 e.kind]:=nr rfl
theorem aqv(m:List ay)(k t o:Int):jL.aG m (.agg [.int .i64 k, .int .i64 t, .int .i64 o])=⟨k,t,o⟩:=nr rfl
theorem aqw(m:List ay)(k t o:Int):jL.decP m (.agg [.int .i64 k, .int .i64 t, .int .i64 o])=True:=eq_true ⟨rfl,rfl,rfl,trivial⟩
theorem awI(e:Fl):(⟨e.at',e.var,e.kind⟩:Fl)=e:=nr rfl
attribute [go_sem] OW aqv aqw awI
structure Rc where
 a:Int
 b:Int
 var:Int
 kind:Int
def kZ:DT Rc:=(DT.nC (.st [.int .i64, .int .i64, .int .i64, .int .i64])).Fv (λx=>⟨x.1,x.2.1,x.2.2.1,x.2.2.2.1⟩) (λe=>(e.a,e.b,e.var,e.kind,())) (λ_=>rfl) (λ_=>rfl)
instance:Flat kZ:=(Flat.nC rfl).Fv
theorem I9(e:Rc):kZ.aA e= .agg [.int .i64 e.a, .int .i64 e.b, .int .i64 e.var, .int .i64 e.kind]:=nr rfl
theorem aqx(m:List ay)(k t o n:Int):kZ.aG m (.agg [.int .i64 k, .int .i64 t, .int .i64 o, .int .i64 n])=⟨k,t,o,n⟩:=nr rfl
theorem aqy(m:List ay)(k t o n:Int):kZ.decP m (.agg [.int .i64 k, .int .i64 t, .int .i64 o, .int .i64 n])=True:=eq_true ⟨rfl,rfl,rfl,rfl,trivial⟩
theorem awJ(e:Rc):(⟨e.a,e.b,e.var,e.kind⟩:Rc)=e:=nr rfl
attribute [go_sem] I9 aqx aqy awJ
abbrev dw:DT (List Ev):=DT.list 3 aO
abbrev wM:DT (List Int):=DT.list 1 DT.int
abbrev Oj:DT (List Pr):=DT.list 2 jo
abbrev abj:DT (List Fl):=DT.list 3 jL
abbrev atq:DT (List Rc):=DT.list 4 kZ
abbrev ZU:DT (List ji):=DT.list 6 bU
abbrev kQ:DT (List (List Bool)):=DT.list 1 (DT.list 1 DT.bool)
theorem aoy(l:List ji)(i:Nat)(c:Nat->Int):(l.map bU.aA).set i (.arr 6 1 λj=> .int .i64 (c j))=(l.set i c).map bU.aA:=by rw[List.map_set];rfl
theorem ait{l:List ji}{i:Nat}(h:i<l.length):(l.map bU.aA).getD i .junk= .arr 6 1 λj=> .int .i64 ((l.getD i bU.aI) j):=by simp[z0c,h,DW]
structure Kp where
 aC:Nat->ji
 lk:Nat->ji
 vl:Nat->ji
def KZ:DT Kp:=(DT.nC (.st [.arr 6 6 (.arr 6 1 (.int .i64)), .arr 5 6 (.arr 6 1 (.int .i64)), .arr 4 6 (.arr 6 1 (.int .i64))])).Fv (λx=>⟨x.1,x.2.1,x.2.2.1⟩) (λe=>(e.aC,e.lk,e.vl,())) (λ_=>rfl) (λ_=>rfl)
instance:Flat KZ:=(Flat.nC rfl).Fv
theorem awK(e:Kp):KZ.aA e= .agg [.arr 6 6 λi=> .arr 6 1 λj=> .int .i64 (e.aC i j), .arr 5 6 λi=> .arr 6 1 λj=> .int .i64 (e.lk i j), .arr 4 6 λi=> .arr 6 1 λj=> .int .i64 (e.vl i j)]:=nr rfl
theorem aqz(m:List ay)(f g h:Nat->Nat->Int):KZ.aG m (.agg [.arr 6 6 λi=> .arr 6 1 λj=> .int .i64 (f i j), .arr 5 6 λi=> .arr 6 1 λj=> .int .i64 (g i j), .arr 4 6 λi=> .arr 6 1 λj=> .int .i64 (h i j)])=⟨f,g,h⟩:=nr rfl
theorem aqA(m:List ay)(f g h:Nat->Nat->Int):KZ.decP m (.agg [.arr 6 6 λi=> .arr 6 1 λj=> .int .i64 (f i j), .arr 5 6 λi=> .arr 6 1 λj=> .int .i64 (g i j), .arr 4 6 λi=> .arr 6 1 λj=> .int .i64 (h i j)])=True:=eq_true ⟨⟨rfl,rfl,λ_ _=>⟨rfl,rfl,λ_ _=>rfl⟩⟩,⟨rfl,rfl,λ_ _=>⟨rfl,rfl,λ_ _=>rfl⟩⟩,⟨rfl,rfl,λ_ _=>⟨rfl,rfl,λ_ _=>rfl⟩⟩,trivial⟩
theorem awL(k:Kp):(⟨k.aC,k.lk,k.vl⟩:Kp)=k:=nr rfl
attribute [go_sem] awK aqz aqA awL
end Go.Proofs.YtgnaipcjbmhihaaGreatDoor.D
end
namespace Go.Proofs.YtgnaipcjbmhihaaGreatDoor.Tx
open D
abbrev By:=List UInt8
theorem WG:Go.Proofs.Builder.Extra Tryz.prog Sh.laysJoin_ren where
 sizeBuilder:=by kernel_rfl
 liesBuilder:=by kernel_rfl
 t5:=Tryz.underlying5
 a5:=Tryz.isAgg5
 z5:=Tryz.sizeOf5
 v5:=Tryz.zeroValue5
 infoByte:=by kernel_rfl
 cellsByte:=by kernel_rfl
 sizeByte:=by kernel_rfl
 neB5:=by decide
theorem ahr(w:World)(k:Nat)(os:Array Obj):Go.RowKit.Below w.heap.size w (Go.Sort.grow (w.drewN k) os):=
 ⟨rfl,rfl,rfl,by show w.heap.size<=(w.heap++os).size;simp,λb hb=>by show(w.heap++os)[b]? =w.heap[b]?;rw[Array.getElem?_append_left hb]⟩
theorem ayp{J:Env}{m:List ay}{w:World}(g:Sx.Good J m w):Lib.TabIs Tryz.prog w "internal/strconv.uint64pow10" .u64 Lib.pow10Tab:=by
 obtain⟨T,fz,e⟩:=g.gl.1 _ (List.mem_cons_self);have h:=g.hv _ _ e;have hn:Tryz.prog.globalNamed "internal/strconv.uint64pow10" =some 3:=by kernel_rfl
 unfold Lib.TabIs World.var?;rw[hn];simp only[Option.bind_some,h,Lib.pow10Tab,z1s];rfl
theorem OT(n:Int)(h0: -9223372036854775808<=n)(h1:n<=9223372036854775807):FnOK Tryz.prog 12 [.int .i64 n] [] (.str (z3r n)) []:=by refine I4 λJ w vs g hs=> ?_;obtain⟨c1,t1,rfl,k1,k3⟩:=hs;simp only[au] at k1;subst k1;have k3:t1=[]:=k3;subst k3;refine(Any.strconv_Itoa Sh.laysItoa n h0 h1 w (ayp g)).mono λe w' ⟨he,k,os,hw⟩=> ?_;subst hw;exact⟨⟨_,he,_,rfl,rfl⟩,ahr w k os,λh=>absurd h (by decide)⟩
theorem auk(i:Int)(h0:0<=i)(h1:i<100):FnOK Tryz.prog 12 [.int .i64 i] [] (.str (z01 i.toNat)) []:=by
 have:=OT i (by omega) (by omega)
 rwa [show i=((i.toNat:Nat):Int) by omega,z2i,<- show i=((i.toNat:Nat):Int) by omega] at this
def mQ(s:By):Int:=match z1l s with
 | .ok v=>v
 | .range=>Lib.atoiSat s
 |_=>0
def nI(s:By):SV:=match z1l s with
 | .ok _=> .iP
 |_=> .iface 179 .junk
theorem ar7{J:Env}{m:List ay}{w:World}(g:Sx.Good J m w){b:Nat}(hb:b∈RI):∃ ev,w.cell? ⟨b,0,none⟩=some ev/\(ev= .nilIface\/∃ te pe,ev= .iface te pe):=by obtain⟨ev,T,fz,e,k⟩:=g.gl.2 b hb;exact⟨ev,by simp[World.cell?,g.hv _ _ e],k⟩
theorem auQ(s:By)(hs:s.length<=1000000):FnOK Tryz.prog 29 [.str s] [] (.bK [.int .i64 (mQ s),nI s]) []:=by
 refine I4 λJ w vs g hs'=> ?_;obtain⟨c1,t1,rfl,k1,k3⟩:=hs';simp only[au] at k1;subst k1;have k3:t1=[]:=k3;subst k3;have hz:(⟨s.toArray⟩:ByteArray).size=s.length:=rfl;have err:∀ (n:Int) (N:Nat),bM J (.bK [.int .i64 n, .iface 179 .junk]) (.tuple #[.int .i64 n, .iface 179 (.pointer (some ⟨N,0,none⟩))]):=by intro n N;refine⟨[.int .i64 n, .iface 179 (.pointer (some ⟨N,0,none⟩))],?_,rfl⟩;simp only[bg,au];exact⟨[_],_,rfl,rfl,[_],_,rfl,⟨[.pointer (some ⟨N,0,none⟩)],⟨_,rfl,rfl⟩,rfl⟩,rfl⟩
 cases h:z1l s with
 |ok v=>
  have e1:mQ s=v:=by simp only[mQ,h]
  have e2:nI s= .iP:=by simp only[nI,h]
  rw[e1,e2];refine(Any.strconv_Atoi_ok Sh.laysAtoi ⟨s.toArray⟩ (by rw[hz];omega) v h w).mono λe w' ⟨he,hw⟩=> ?_
  refine⟨⟨_,he,[.int .i64 v, .nilIface],?_,rfl⟩,?_,λh=>absurd h (by decide)⟩
  ·simp only[bg,au];exact⟨[_],_,rfl,rfl,[_],_,rfl,rfl,rfl⟩
  ·rcases hw with rfl|⟨t,rfl⟩
   ·exact Go.RowKit.Below.refl _ _
   ·exact Lib.bytesWorld_below w _ t
 |range=>
  have e1:mQ s=Lib.atoiSat s:=by simp only[mQ,h]
  have e2:nI s= .iface 179 .junk:=by simp only[nI,h]
  rw[e1,e2];obtain⟨ev,q1,q2⟩:=ar7 g (b:=1) (by decide)
  refine(Any.strconv_Atoi_range Sh.laysAtoi ⟨s.toArray⟩ (by rw[hz];omega) h ev w q1 q2).mono λe w' ⟨N,he,_,_,hb⟩=> ?_
  exact⟨⟨_,he,err _ N⟩,hb,λh=>absurd h (by decide)⟩
 |_=>
  have e1:mQ s=0:=by simp only[mQ,h]
  have e2:nI s= .iface 179 .junk:=by simp only[nI,h]
  rw[e1,e2];obtain⟨ev,q1,q2⟩:=ar7 g (b:=0) (by decide)
  refine(Any.strconv_Atoi_syntax Sh.laysAtoi ⟨s.toArray⟩ (by rw[hz];omega) h ev w q1 q2).mono λe w' ⟨N,he,_,_,hb⟩=> ?_
  exact⟨⟨_,he,err 0 N⟩,hb,λh=>absurd h (by decide)⟩
def bV(s:By):List By:=(z1q (λr=>r==32) ⟨s.toArray⟩).map (·.data.toList)
theorem SI(w:World):PredAtRunes Tryz.prog 14 #[] (λr=>r==32) w:=λW r _ _=>by
 unfold FnGives;have z1:((r:Int)=32)↔r=32:=by omega
 go_enter Tryz.func14,Tryz.ntmps14
 go_wp2
 go_ret
 refine⟨?_,0,rfl⟩;by_cases h:r=32
 ·subst h;rfl
 ·have h':¬ (r:Int)=32:=by omega
  rw[beq_eq_false_iff_ne.2 h];simp[h']
theorem ahs(s:By)(hs:s.length<=1000000)(hl:(bV s).length<=1000000):FnOK Tryz.prog 13 [.str s, .fn 14 []] [] ((DT.list 1 DT.str).aA (bV s)) []:=by
 refine anU rfl λJ w vs g hs'=> ?_;obtain⟨c1,t1,rfl,k1,c2,t2,rfl,k2,k3⟩:=hs';simp only[au,bg] at k1 k2;subst k1;obtain⟨vs0,rfl,rfl⟩:=k2;have k3:t2=[]:=k3;subst k3;refine(Any.strings_FieldsFunc_runes Sh.laysFields 14 #[] (enters_of Tryz.func14 (by kernel_rfl) rfl) (λr=>r==32) ⟨s.toArray⟩ w (show s.length<=_ by omega) (SI w) (by kernel_rfl) (by kernel_rfl)).mono λe w' ⟨A,he,hA,ho,hb⟩=> ?_
 have hlen:(bV s).length=(z1q (λr=>r==32) ⟨s.toArray⟩).length:=z06 _;rcases ho.2 with⟨h0,_⟩|⟨gg,cap,cur,e1,e2,e3,e4,e5,e6,e7⟩
 ·cases h0
 ·cases e1;rw[hlen] at hl ⊢;refine⟨A,_,cur,he,hA,e3,by unfold maxLen;omega,?_,hb⟩
  have hsz:cur.size=(z1q (λr=>r==32) ⟨s.toArray⟩).length:=by rw[e6,z2f]
  rw[z1b (by rw[Array.length_toList,hsz,z2f];exact z03 _)] at e7
  rw[e7,bV,z1s];rfl
def bf(s:By)(c:UInt8):List By:=z1o s [c]
theorem hi9:(Tryz.prog.info? 9).map (λi=>(i.zero,i.size,i.bytes))=some (some (.string ByteArray.empty),1,16):=by kernel_rfl
theorem LY(s:By)(c:UInt8):(bf s c).length=s.count c+1:=by
 have h:=z3o ⟨#[c]⟩ (z03 1) 0 _ ⟨s.toArray⟩ rfl;have e:=z3l ⟨#[c]⟩ 0 (z2x ⟨s.toArray⟩ ⟨#[c]⟩) ⟨s.toArray⟩;have hc:z2x ⟨s.toArray⟩ ⟨#[c]⟩=s.count c:=z0n c s;rw[hc] at h e;have:(z16 [c] 0 (s.count c) s).length=s.count c+1:=by rw[<- h];have:=congrArg z2d e;rw[z06] at this;exact this.symm
 rw[bf,z1o,z0n];exact this
theorem WH(s:By)(c:UInt8)(hs:s.length<4294967281):FnOK Tryz.prog 30 [.str s, .str [c], .int .i64 0, .int .i64 (-1)] [] (.vec 0 (bf s c).length) [.vec 9 1 ((bf s c).map DT.str.aA)]:=by
 have hl:((bf s c).map DT.str.aA).length=(bf s c).length:=z06 _;rw[<- hl];refine agp λJ w vs g hs'=> ?_;obtain⟨c1,t1,rfl,k1,c2,t2,rfl,k2,c3,t3,rfl,k3,c4,t4,rfl,k4,k5⟩:=hs';simp only[au] at k1 k2 k3 k4;subst k1;subst k2;subst k3;subst k4;have k5:t4=[]:=k5;subst k5;have hc:z2x ⟨s.toArray⟩ ⟨#[c]⟩=s.count c:=z0n c s;have hcl:s.count c<=s.length:=List.count_le_length;have core:=Any.strings_genSplit_core (P:=Tryz.prog) (ρ:=Sh.kW) {Sh.laysSplit with} hi9 ⟨s.toArray⟩ ⟨#[c]⟩ 0 (-1) (s.count c+1) w hs (z03 1) (z2e _)
  (λx cs _=>by have h:=Any.strings_Index_one (P:=Tryz.prog) (ρ:=Sh.kW) {Sh.laysSplit with} x c (w.alloc (.cells cs (Sh.kW.t 9)));have e:Lib.indexB x ⟨#[c]⟩=z0m x.data.toList c:=z2o _ _;rw[e];exact h)
  (by rw[hc];have h:=Any.strings_Count_one (P:=Tryz.prog) (ρ:=Sh.kW) {Sh.laysSplit with} ⟨s.toArray⟩ c w;exact h)
  (by decide) (by decide) (by
   rw[if_pos (by decide),hc]
   show((s.count c+1:Nat):Int)=min ((s.count c:Int)+1) ((s.length:Int)+1);omega)
 rw[z2t] at core;have hsp:=z3o ⟨#[c]⟩ (z03 1) 0 _ ⟨s.toArray⟩ rfl;rw[hc] at hsp;have e2:Lib.cellsOf (z2k ⟨#[c]⟩ 0 (s.count c) ⟨s.toArray⟩) (s.count c+1)=((z2k ⟨#[c]⟩ 0 (s.count c) ⟨s.toArray⟩).map z1r).toArray:=by rw[<- hsp];exact Lib.cellsOf_full _
 have hdat:=z3l ⟨#[c]⟩ 0 (s.count c) ⟨s.toArray⟩;have hS:bf s c=(z2k ⟨#[c]⟩ 0 (s.count c) ⟨s.toArray⟩).map (·.data.toList):=by rw[hdat,bf,z1o,z0n]
 rw[e2] at core;generalize z2k ⟨#[c]⟩ 0 (s.count c) ⟨s.toArray⟩=B at core hS hsp;refine⟨B.map z1r,⟨by rw[hl,hS];simp,by rw[hl,LY];unfold maxLen;omega,λj hj=> ?_⟩,core.mono λe w' ⟨he,hw⟩=>⟨?_,hw⟩⟩
 ·rw[hl,hS,z06] at hj;have e1:((bf s c).map DT.str.aA).getD j .junk= .str (B[j].data.toList):=by rw[hS];simp[z0c,hj,ZT]
  rw[e1];simp only[au,z2f];have:sub (B.map z1r) j 1=[z1r B[j]]:=by
   unfold sub;rw[z18 (by simpa using hj)]
   simp
  rw[this,Lib.mk_data]
 ·rw[he,hl,hS,z06,hsp]
def j8:JC:=(qN (oU 4<|.nil) (qN (o7 5 0<|o7 6 1<|eo 7 (.call 30 [(.t 5),(.t 6),(I 0),(I (-1))])<|o7 4 7<|.nil) .ret))
def Gsp(f:FuncId)(a:List SV)(m:List ay):Sx.Call:=(FH.mk 30 (.cons .str (.cons .str (.cons .int (.cons .int .nil)))) (λy=>y.1.length<4294967281/\y.2.1.length=1/\y.2.2.1=0/\y.2.2.2.1= -1) (λy=> .vec 0 (bf y.1 (y.2.1.getD 0 0)).length) (λy=>[.vec 9 1 ((bf y.1 (y.2.1.getD 0 0)).map DT.str.aA)]) FH.none) f a m
theorem auR:type_of% (nq Gsp.eq_1):=nq Gsp.eq_1
theorem auS:aW Tryz.prog Gsp:=FH.eu (λy _=>cZ (nM _ _) ⟨bY _ _ DT.str _,trivial⟩) (λy h=>by
 obtain⟨s,b,i,j,u⟩:=y;obtain⟨h1,h2,h3,h4⟩:=h;simp only at h1 h2 h3 h4;subst h3;subst h4
 match b,h2 with
 |[c],_=>exact WH s c h1) FH.none_ok
theorem Zh(s:By)(c:UInt8)(hs:s.length<4294967281):FnOK Tryz.prog 8 [.str s, .str [c]] [] (.vec 0 (bf s c).length) [.vec 9 1 ((bf s c).map DT.str.aA)]:=by refine fn_walkA j8 [.tmp 4] 8 auS rfl ?_;unfold j8;simp only[go_sem,seval,auR,z0q,z09,hs]
theorem wZ(xs:List By)(sep:By)(hl:(z3q xs sep).length<=140737488355328)(hx:xs.length<=1000000):FnOK Tryz.prog 16 [(DT.list 1 DT.str).aA xs, .str sep] [] (.str (z3q xs sep)) []:=by
 refine I4 λJ w vs g hs=> ?_;obtain⟨c1,t1,rfl,k1,c2,t2,rfl,k2,k3⟩:=hs;simp only[au] at k2;subst k2;have k3:t2=[]:=k3;subst k3;have k1:au (.lst 1 [] DT.str.aA xs) J c1:=k1;simp only[au] at k1;obtain⟨ao,cap,rfl,q1,q2,q3,q4⟩:=k1;have hmap:(xs.map λx=>(⟨x.toArray⟩:ByteArray)).map (·.data.toList)=xs:=by
  rw[z1s]
  conv=>rhs;rw[<- List.map_id xs]
  rfl
 have fin:∀ {b o c:Nat},Calls Tryz.prog 16 #[.slice (some ⟨b,o,none⟩) xs.length c, .string ⟨sep.toArray⟩] w (λe w'=>e= .returned (.string ⟨(z3q xs sep).toArray⟩)/\Go.RowKit.Below w.heap.size w w')->True:=λ_=>trivial;cases ao with
 |none=>
  have hz:xs=[]:=z2m.1 (by have:=q3 rfl;omega)
  subst hz;refine(Any.strings_Join_none (P:=Tryz.prog) (ρ:=Sh.laysJoin_ren) Sh.laysJoin WG none cap ⟨sep.toArray⟩ w).mono λe w' ⟨he,hw⟩=> ?_;subst hw;refine⟨⟨_,?_,_,rfl,rfl⟩,Go.RowKit.Below.refl _ _,λ_=>z03 _⟩;rw[he];rfl
 |some a=>
  cases xs with
  |nil=>
   refine(Any.strings_Join_none (P:=Tryz.prog) (ρ:=Sh.laysJoin_ren) Sh.laysJoin WG (some a) cap ⟨sep.toArray⟩ w).mono λe w' ⟨he,hw⟩=> ?_;subst hw;refine⟨⟨_,?_,_,rfl,rfl⟩,Go.RowKit.Below.refl _ _,λ_=>z03 _⟩;rw[he];rfl
  |cons x r=>
   obtain⟨b,off,T,fz,cur,e0,hH,hsz,_⟩:=q4 0 (by simp)
   cases e0;have hb:=g.hv b _ hH;have key:=Any.strings_Join (P:=Tryz.prog) (ρ:=Sh.laysJoin_ren) Sh.laysJoin WG b off cap ((x::r).map λx=>(⟨x.toArray⟩:ByteArray)) ⟨sep.toArray⟩ w (λj y hy=>by
    have hj:j< (x::r).length:=by have:=(z0i.1 hy).1;simpa using this
    obtain⟨b',off',T',fz',cur',e1,hH',hsz',hc⟩:=q4 j hj;cases e1;rw[hH] at hH';cases hH';have e2:(x::r).getD j []=(x::r)[j]:=by rw[z0c,z07 hj];rfl
    rw[e2] at hc;have hc:sub cur.toList (off+j*1) 1=[.string ⟨((x::r)[j]).toArray⟩]:=hc;have hy':(⟨((x::r)[j]).toArray⟩:ByteArray)=y:=by have:=z0i.1 hy;obtain⟨_,h⟩:=this;rw[<- h,List.getElem_map]
    rw[hy',z2f] at hc;have hcj:cur[off+j]? =some (.string y):=by have h2:=congrArg (λl=>l[0]?) hc;simp only[iK,Nat.lt_one_iff,if_true,z0h,List.getElem?_cons_zero] at h2;simpa using h2
    simp[World.cell?,hb,hcj]) (by have:=(Array.getElem?_eq_some_iff.1 hb).1;exact this) (by simpa using(show(x::r).length<=140737488355328 by omega)) (by simpa using q1) (by rw[hmap];exact hl)
   rw[hmap,z06] at key;exact key.mono λe w' ⟨he,hw⟩=>⟨⟨_,he,_,rfl,rfl⟩,hw,λh=>absurd h (by decide)⟩
end Go.Proofs.YtgnaipcjbmhihaaGreatDoor.Tx
namespace Go.Proofs.YtgnaipcjbmhihaaGreatDoor.Tr
open D
def awv:JC:=(qN (o8 2 0<|.nil) (.seq (qN (o7 3 0<|.nil) (.block 0 (.seq (qN (oH 5 3 1<|o7 4 5<|.nil) (.orc 4<|oH 6 3 2<|o7 4 6<|.nil)) (qO 4 (qN (o8 2 8<|.nil) .ret) (.seq (qN (oH 8 3 3<|o7 7 8<|.nil) (.orc 7<|oH 9 3 4<|o7 7 9<|.nil)) (qM [7,3] (qO 7 (qN (o8 2 5<|.nil) .ret) (.seq (qN (oH 11 3 5<|o7 10 11<|.nil) (.orc 10<|oH 12 3 6<|o7 10 12<|.nil)) (qO 10 (qN (o8 2 6<|.nil) .ret) (.seq (qN (oH 14 3 7<|o7 13 14<|.nil) (.orc 13<|oH 15 3 8<|o7 13 15<|.nil)) (qM [13] (qO 13 (qN (o8 2 4<|.nil) .ret) .skip)))))))))))) (qM [] (qN (o8 2 0<|.nil) .ret))))
def j124:JC:=(qN (oV 1 56 0<|qH 2 false<|.nil) (.seq (.bJ<|oD 3 1 1 1<|o9 4 1 3<|qo 5 (.cmp .geq (.t 4) (I 0))<|o7 6 5<|.sc false 10 6 (oD 7 1 1 1<|o9 8 1 7<|qA 9 8 6<|.nil) (.t 9)<|qL [10,1]<|o7 11 10<|.sc false 15 11 (oD 12 2 2 1<|o9 13 1 12<|qo 14 (.cmp .geq (.t 13) (I 0))<|.nil) (.t 14)<|o7 16 15<|.sc false 23 16 (oD 17 2 2 1<|o9 18 1 17<|oD 19 0 0 1<|o9 20 1 19<|eo 21 (.gW 158 [(.t 20)])<|oO 22 18 21<|.nil) (.t 22)<|o7 2 23<|.nil) .ret))
def j126:JC:=(qN (oV 3 56 1<|o8 4 0<|.nil) (.seq (.block 0 (qN (oC 6 3 3<|oM 7 124 6<|qF 8 7<|o7 5 8<|.nil) (qO 5 (qN (o8 4 1<|.nil) .ret) (.seq (.bJ<|o7 10 0<|qL [3,10,0]<|oD 11 1 1 3<|o9 12 1 11<|oQ 13 10<|oD 14 0 0 13<|qL [14,12,0,3]<|oL 15 6 1 14 12<|o9 16 1 15<|qF 17 16<|qL [17,0,3]<|o7 18 17<|.sc true 26 18 (o7 19 0<|oD 20 1 1 3<|o9 21 1 20<|oQ 22 19<|oD 23 1 6 22<|oL 24 6 1 23 21<|o9 25 1 24<|.nil) (.t 25)<|o7 9 26<|.nil) (qM [9,3,0] (qO 9 (qN (o8 4 11<|.nil) .ret) .skip)))))) (qM [3,0] (.seq (qN (oD 27 0 0 3<|o9 28 1 27<|.nil) (.block 1 (qN (oH 30 28 3<|o7 29 30<|.nil) (qO 29 (.seq (.seq (.bJ<|o7 31 0<|qL [3,31,0]<|oD 32 2 2 3<|o9 33 1 32<|oQ 34 31<|oD 35 2 12 34<|qL [35,33,0,3]<|oL 36 5 1 35 33<|o9 37 1 36<|qC 38 37 0<|.nil) (qM [38,0,3] (qO 38 (qN (o8 4 9<|.nil) .ret) .skip))) (qM [0,3] (.bJ<|o7 39 0<|oD 40 2 2 3<|o9 41 1 40<|oD 42 1 1 3<|o9 43 1 42<|qL [43,39,41]<|oJ 44 43 1<|oQ 45 39<|oD 46 2 12 45<|oL 47 5 1 46 41<|oG 1 47 44<|.nil))) (qN (oH 49 28 4<|o7 48 49<|.nil) (qO 48 (.seq (.seq (.bJ<|qL [0,3]<|o7 50 0<|oD 51 2 2 3<|o9 52 1 51<|oQ 53 50<|oD 54 2 12 53<|qL [54,52,3,0]<|oL 55 5 1 54 52<|o9 56 1 55<|oD 57 1 1 3<|qL [57,56,0,3]<|o9 58 1 57<|oJ 59 58 1<|qo 60 (.cmp .neq (.t 56) (.t 59))<|.nil) (qM [60,0,3] (qO 60 (qN (o8 4 10<|.nil) .ret) .skip))) (qM [0,3] (.bJ<|o7 61 0<|oD 62 2 2 3<|o9 63 1 62<|oQ 64 61<|oD 65 2 12 64<|oL 66 5 1 65 63<|en (.store 1 (.t 66) (I 0))<|.nil))) (qN (oH 68 28 5<|o7 67 68<|.nil) (qM [67,0,3,28] (qO 67 (.seq (.seq (.bJ<|o7 69 0<|oD 70 2 2 3<|o9 71 1 70<|qL [69,71,0,3]<|oQ 72 69<|oD 73 0 0 72<|oL 74 6 1 73 71<|o9 75 1 74<|.nil) (qM [75,0,3] (qO 75 (qN (o8 4 8<|.nil) .ret) .skip))) (qM [0,3] (.bJ<|o7 76 0<|oD 77 2 2 3<|o9 78 1 77<|oQ 79 76<|oD 80 0 0 79<|oL 81 6 1 80 78<|en (.store 1 (.t 81) (B true))<|.nil))) (qN (oH 83 28 6<|o7 82 83<|.nil) (qO 82 (.seq (.seq (.bJ<|o7 84 0<|qL [3,84,0]<|oD 85 2 2 3<|o9 86 1 85<|oQ 87 84<|oD 88 0 0 87<|qL [88,86,3,0]<|oL 89 6 1 88 86<|o9 90 1 89<|qF 91 90<|qL [91,3,0]<|o7 92 91<|.sc true 98 92 (oD 93 2 2 3<|o9 94 1 93<|oD 95 1 1 3<|o9 96 1 95<|oZ 97 94 96<|.nil) (.t 97)<|.nil) (qM [98,0,3] (qO 98 (qN (o8 4 7<|.nil) .ret) .skip))) (qM [0,3] (.bJ<|o7 99 0<|oD 100 2 2 3<|o9 101 1 100<|oQ 102 99<|oD 103 1 6 102<|oL 104 6 1 103 101<|en (.store 1 (.t 104) (B true))<|.nil))) .skip))))))))))) (qM [] (qN (o8 4 0<|.nil) .ret))))))
def j125:JC:=(qN (qo 0 (.mv (.c .jr))<|.nil) (qN (qo 2 (.lF (.agg [(.arr 6 1 λ_=>(.bool false)),(.arr 6 1 λ_=>(.bool false)),(.arr 5 1 λ_=>(.int .i64 0))]) [])<|oV 3 245 2<|o7 1 3<|.nil) (qN (o7 4 1<|oQ 5 4<|oD 6 0 0 5<|qo 7 (.ia 6 1 (.t 6) (I 0))<|en (.store 1 (.t 7) (B true))<|.nil) (qN (o7 8 1<|o7 0 8<|.nil) .ret))))
def asI:JC:=(qN (oO 17 16 15<|.nil) (.seq (qO 17 .skip (.exit 0)) (.seq (.block 1 (qN (o7 18 16<|oK 19 3 14 16<|oC 20 3 19<|qK 7 56<|o7 6 18<|oG 3 7 20<|.nil) (qM [5,7,6,16,15,14] (qN (o7 21 5<|oC 22 3 7<|qE 23 126 21 22<|o7 8 23<|.nil) (qM [8,5,6,16,15,14] (qN (o7 24 8<|qC 25 24 0<|.nil) (qO 25 (qN (qL [5,6,8]<|o7 26 5<|o7 27 6<|o7 28 8<|o7 2 26<|o7 3 27<|o7 4 28<|.nil) .ret) .skip))))))) (qM [16,15,14,5] (.ops<|oJ 29 16 1<|o7 16 29<|.nil)))))
def asJ:JC:=(qM [5] (qN (o7 30 5<|o7 2 30<|o8 3 0<|o8 4 0<|.nil) .ret))
def j89:JC:=(qN (qo 2 (.mv (.c .jr))<|o8 3 0<|o8 4 0<|.nil) (qN (eo 9 (.call 125 [])<|o7 5 9<|.nil) (.seq (qN (o7 10 0<|oP 11 10<|qJ 12 11 80<|.nil) (qO 12 (qN (qL [5]<|o7 13 5<|o7 2 13<|o8 3 0<|o8 4 2<|.nil) .ret) .skip)) (qM [0,5] (.seq (qN (o7 14 0<|oP 15 14<|o8 16 0<|.nil) (.block 0 (.loop [15,14,5] [16] asI))) asJ)))))
def j49:JC:=(qN (o8 2 0<|o8 3 0<|.nil) (qN (o7 8 0<|oM 9 89 8<|o7 7 9<|oN 10 0 7<|oN 11 1 7<|qL [7,10,11]<|oN 12 2 7<|o7 4 10<|o7 5 11<|o7 6 12<|.nil) (qM [5,6] (qN (o7 13 5<|o7 14 6<|o7 2 13<|o7 3 14<|.nil) .ret))))
def many(k:Int):Int:=if k=1\/k=2 then 8 else if k=3\/k=4 then 5 else if k=5\/k=6 then 6 else if k=7\/k=8 then 4 else 0
theorem aww(k:Int):FnOK Tryz.prog 158 [.int .i64 k] [] (.int .i64 (many k)) []:=by refine fn_walkA awv [.tmp 2] 16 FH.none_ok rfl ?_;unfold awv;simp only[go_sem,seval];unfold many;refine⟨λh=> ?_,λh=>⟨λh2=> ?_,λh2=>⟨λh3=> ?_,λh3=>⟨λh4=> ?_,λh4=> ?_⟩⟩⟩⟩<;>simp_all
def iI(e:Ev):Bool:=decide (0<=e.aC)&&decide (e.aC<6)&&decide (0<=e.obj)&&decide (e.obj<many e.kind)
def Gm(f:FuncId)(a:List SV)(m:List ay):Sx.Call:=(FH.rd 158 (.one .int) (.one .int) (λ_=>True) (λy=>many y.1) FH.none) f a m
theorem ai':type_of% (nq Gm.eq_1):=nq Gm.eq_1
theorem aja:aW Tryz.prog Gm:=FH.aT (λy _=>aww y.1) FH.none_ok
theorem MF(e:Ev):FnOK Tryz.prog 124 [aO.aA e] [] (.bool (iI e)) []:=by refine fn_walkA j124 [.tmp 2] 24 aja rfl ?_;unfold j124;simp only[go_sem,seval,ai'];rfl
def upd{α:Type}(f:Nat->α)(i:Nat)(x:α):Nat->α:=λk=>if k=i then x else f k
def je(w:Wd)(e:Ev):Wd×Int:=
 if iI e=false then(w,1) else
 if (!w.begun e.aC.toNat||w.over e.aC.toNat)=true then(w,11) else
 if e.kind=3 then(if w.owner e.obj.toNat≠0 then(w,9) else({w with owner:=upd w.owner e.obj.toNat (e.aC+1)},0)) else
 if e.kind=4 then(if w.owner e.obj.toNat≠e.aC+1 then(w,10) else({w with owner:=upd w.owner e.obj.toNat 0},0)) else
 if e.kind=5 then(if w.begun e.obj.toNat=true then(w,8) else({w with begun:=upd w.begun e.obj.toNat true},0)) else
 if e.kind=6 then(if (!w.begun e.obj.toNat||decide (e.obj=e.aC))=true then(w,7) else({w with over:=upd w.over e.obj.toNat true},0)) else(w,0)
def Gi(f:FuncId)(a:List SV)(m:List ay):Sx.Call:=(FH.rd 124 (.one aO) (.one .bool) (λ_=>True) (λy=>iI y.1) FH.none) f a m
theorem azg:type_of% (nq Gi.eq_1):=nq Gi.eq_1
theorem azh:aW Tryz.prog Gi:=FH.aT (λy _=>MF y.1) FH.none_ok
theorem bC(e:Ev):iI e=true↔0<=e.aC/\e.aC<6/\0<=e.obj/\e.obj<many e.kind:=by simp[iI,and_assoc]
theorem O8(w:Wd)(e:Ev):FnOK Tryz.prog 126 [.ptr 0 [] 0,aO.aA e] [.blk 245 (dWd.aA w)] (.int .i64 (je w e).2) [.blk 245 (dWd.aA (je w e).1)]:=by
 refine fn_walkA j126 [.tmp 4] 105 azh rfl ?_;unfold j126;simp only[go_sem,seval,azg];refine⟨λh1=>by simp[je,h1],λh1=> ?_⟩
 obtain⟨b1,b2,b3,b4⟩:=(bC e).1 h1;have hw:z04.wrap (e.aC+1)=e.aC+1:=aY;rw[hw];refine⟨⟨b1,b2⟩,λ_=>⟨b1,b2⟩,λh2=>by simp[je,h1,h2],λh2=>⟨λh3=> ?_,λh3=>⟨λh4=> ?_,λh4=>⟨λh5=> ?_,λh5=>⟨λh6=> ?_,λh6=> ?_⟩⟩⟩⟩⟩
 ·have b5:e.obj<5:=by simpa[many,h3] using b4
  exact⟨⟨b3,b5⟩,λh7=>by simp[je,h1,h2,h3,h7],λh7=>⟨⟨b3,b5⟩,by simp[je,h1,h2,h3,h7,upd]⟩⟩
 ·have b5:e.obj<5:=by simpa[many,h4] using b4
  exact⟨⟨b3,b5⟩,λh7=>by simp[je,h1,h2,h4,h7],λh7=>⟨⟨b3,b5⟩,by simp[je,h1,h2,h4,h7,upd]⟩⟩
 ·have b5:e.obj<6:=by simpa[many,h5] using b4
  exact⟨⟨b3,b5⟩,λh7=>by simp[je,h1,h2,h5,h7],λh7=>⟨⟨b3,b5⟩,by simp[je,h1,h2,h5,h7,upd]⟩⟩
 ·have b5:e.obj<6:=by simpa[many,h6] using b4
  exact⟨⟨b3,b5⟩,λh7=>by simp[je,h1,h2,h6,h7],λh7=>⟨⟨b3,b5⟩,by simp[je,h1,h2,h6,h7,upd]⟩⟩
 ·simp[je,h1,h2,h3,h4,h5,h6]
def sQ:Wd:=⟨upd (λ_=>false) 0 true,λ_=>false,λ_=>0⟩
theorem aqc:FnOK Tryz.prog 125 [] [] (.ptr 0 [] 0) [.blk 245 (dWd.aA sQ)]:=by refine fn_walkA j125 [.tmp 0] 9 FH.none_ok rfl ?_;unfold j125;simp only[go_sem,seval];simp[sQ,upd]
def DN:List Ev->Nat->Wd->Wd×Int×Int
 |[],_,w=>(w,0,0)
 |e::r,i,w=>if (je w e).2=0 then DN r (i+1) (je w e).1 else((je w e).1,i,(je w e).2)
def aK(l:List Ev):Wd×Int×Int:=if 80<l.length then(sQ,0,2) else DN l 0 sQ
def Gp(f:FuncId)(a:List SV)(m:List ay):Sx.Call:=(FH.mk 125 .nil (λ_=>True) (λ_=> .ptr 0 [] 0) (λ_=>[.blk 245 (dWd.aA sQ)])<|
 FH.mt 126 245 dWd (.one aO) (.one .int) (λ_ _=>True) (λw y=>(je w y.1).2) (λw y=>(je w y.1).1) FH.none) f a m
theorem asK:type_of% (nq Gp.eq_1):=nq Gp.eq_1
theorem Nv(d:DT Wd)[h:Flat d](w:Wd):EH (.ptr 0 [] 0) [.blk 245 (d.aA w)]:=λr=>by
 refine⟨?_,λy hy=> ?_⟩
 ·simp only[ren,kS];split
  ·exact(Hq _ _ _).val rfl
  ·exact EC
 ·simp only[z3n,z3a,or_false] at hy;subst hy;simp only[dM,d.ren];exact h.noH w
theorem azi:aW Tryz.prog Gp:=FH.eu (λ_ _=>Nv dWd sQ) (λ_ _=>aqc)<|FH.FB (by kernel_rfl) (λw y _=>O8 w y.1) FH.none_ok
def wAt(l:List Ev)(i:Nat):Wd:=(l.take i).foldl (λw e=>(je w e).1) sQ
theorem ald(l:List Ev):FnOK Tryz.prog 89 [(DT.list 3 aO).aA l] [] (.bK [.ptr 0 [] 0, .int .i64 (aK l).2.1, .int .i64 (aK l).2.2]) [.blk 245 (dWd.aA (aK l).1)]:=by
 refine nO λhB=>fn_walkA j89 [.tmp 2, .tmp 3, .tmp 4] 31 azi rfl ?_;simp only[go_sem,seval] at hB;unfold j89;simp only[go_sem,seval,asK];refine⟨λh=> ?_,λh=> ?_⟩
 ·have:aK l=(sQ,0,2):=if_pos (by omega)
  rw[this];exact⟨rfl,rfl⟩
 have h80:¬ 80<l.length:=by omega
 refine aZ Nat (λi=>[.int .i64 i]) (λi=>[.blk 245 (dWd.aA (wAt l i))]) (λi=>i<=l.length/\aK l=DN (l.drop i) i (wAt l i)) (λi=>l.length - i) 0 ⟨by omega,by simp[aK,h80,wAt]⟩ ?_ rfl ?_
 ·simp only[go_sem,seval]
 ·intro i hi;unfold asI;simp only[go_sem,seval,asK];refine⟨λh1=> ?_,λh1=> ?_⟩
  ·have hil:i<l.length:=by omega
   have hd:=nP aO.aI hil;have hw:wAt l (i+1)=(je (wAt l i) (l.getD i aO.aI)).1:=by simp only[wAt,bH aO.aI hil,z19,z2g,z3i]
   have hp:=hi.2;rw[hd] at hp;simp only[DN] at hp;refine⟨by omega,λh2=> ?_,λh2=>⟨i+1,⟨by omega,?_⟩,by omega,aY,?_⟩⟩
   ·rw[if_neg h2] at hp;rw[hp];exact⟨rfl,rfl⟩
   ·rw[if_pos h2] at hp;rw[hp,hw]
   ·rw[hw]
  ·have hil:i=l.length:=by omega
   subst hil;have hp:=hi.2;rw[z3c] at hp;simp only[DN] at hp;rw[hp];unfold asJ;simp only[go_sem,seval]
def Gc(f:FuncId)(a:List SV)(m:List ay):Sx.Call:=(FH.mk 89 (.one (DT.list 3 aO)) (λ_=>True) (λy=> .bK [.ptr 0 [] 0, .int .i64 (aK y.1).2.1, .int .i64 (aK y.1).2.2]) (λy=>[.blk 245 (dWd.aA (aK y.1).1)]) FH.none) f a m
theorem azj:type_of% (nq Gc.eq_1):=nq Gc.eq_1
theorem Ql(d:DT Wd)[h:Flat d](w:Wd)(a b:Int):EH (.bK [.ptr 0 [] 0, .int .i64 a, .int .i64 b]) [.blk 245 (d.aA w)]:=λr=>by
 refine⟨?_,(Nv d w r).2⟩;simp only[ren,dW];refine yP λx hx=> ?_;simp only[z3n,z3a,or_false] at hx;rcases hx with rfl|rfl|rfl
 ·simp only[kS];split
  ·exact Hq _ _ _
  ·exact JR
 ·exact kY _ _
 ·exact kY _ _
theorem azk:aW Tryz.prog Gc:=FH.eu (λy _=>Ql dWd _ _ _) (λy _=>ald y.1) FH.none_ok
theorem lY(l:List Ev):FnOK Tryz.prog 49 [(DT.list 3 aO).aA l] [] (.bK [.int .i64 (aK l).2.1, .int .i64 (aK l).2.2]) []:=by refine fn_walkA j49 [.tmp 2, .tmp 3] 15 azk rfl ?_;unfold j49;simp only[go_sem,seval,azj]
end Go.Proofs.YtgnaipcjbmhihaaGreatDoor.Tr
namespace Go.Proofs.YtgnaipcjbmhihaaGreatDoor.Tr
open D
def j80:JC:=(qN (qH 6 false<|.nil) (qN (o7 7 0<|o7 8 1<|oO 9 7 8<|o7 10 9<|.sc true 14 10 (o7 11 0<|o7 12 2<|qo 13 (.cmp .gtr (.t 11) (.t 12))<|.nil) (.t 13)<|o7 6 14<|.nil) .ret))
def j115:JC:=(qN (oV 1 56 0<|qH 2 false<|.nil) (.seq (qN (oD 3 0 0 1<|o9 4 1 3<|eo 5 (.call 80 [(.t 4),(I 1),(I 8)])<|o7 6 5<|.sc true 10 6 (oD 7 1 1 1<|o9 8 1 7<|eo 9 (.call 80 [(.t 8),(I 0),(I 5)])<|.nil) (.t 9)<|.nil) (qM [10,1] (qO 10 (qN (qH 2 false<|.nil) .ret) .skip))) (qM [1] (.seq (.bJ<|oD 11 2 2 1<|o9 12 1 11<|eo 13 (.DK [7,7,4,4,5,5,3,3])<|oD 14 0 0 1<|o9 15 1 14<|qo 16 (.ar .sub (.t 15) (I 1))<|qL [13,16,12]<|oK 17 1 13 16<|o9 18 1 17<|eo 19 (.gW 80 [(.t 12),(I 0),(.t 18)])<|qF 20 19<|o7 2 20<|.nil) .ret))))
def ahQ:JC:=(qN (oO 12 11 10<|.nil) (.seq (qO 12 .skip (.exit 0)) (.seq (.block 1 (qN (oK 13 3 9 11<|oC 14 3 13<|qK 8 56<|oG 3 8 14<|.nil) (qM [8,1,2,11,10,9] (qN (oD 15 0 0 8<|o9 16 1 15<|o7 17 1<|oZ 18 16 17<|qL [18,8,2,11,10,9,1]<|o7 19 18<|.sc false 24 19 (oD 20 2 2 8<|o9 21 1 20<|o7 22 2<|oZ 23 21 22<|.nil) (.t 23)<|.nil) (qM [24,11,10,9,1,2] (qO 24 (qN (qH 6 true<|.nil) .ret) .skip)))))) (qM [11,10,9,1,2] (.ops<|oJ 25 11 1<|o7 11 25<|.nil)))))
def ahR:JC:=(qM [] (qN (qH 6 false<|.nil) .ret))
def avd:JC:=(qN (qH 6 false<|.nil) (.seq (qN (o7 9 0<|oP 10 9<|o8 11 0<|.nil) (.block 0 (.loop [10,9,1,2] [11] ahQ))) ahR))
def ave:JC:=(qN (qH 4 false<|.nil) (qN (o7 5 1<|oH 6 5 0<|o7 7 6<|.sc true 11 7 (o7 8 0<|o7 9 1<|eo 10 (.call 152 [(.t 8),(I 5),(.t 9)])<|.nil) (.t 10)<|o7 4 11<|.nil) .ret))
def asa:JC:=(qN (oO 11 10 9<|.nil) (.seq (qO 11 .skip (.exit 0)) (.seq (.block 1 (qN (oK 12 3 8 10<|oC 13 3 12<|qK 7 56<|oG 3 7 13<|.nil) (qM [7,1,10,9,8,5] (.seq (qN (oD 14 2 2 7<|o9 15 1 14<|o7 16 1<|oZ 17 15 16<|qL [17,7,1,10,9,8,5]<|o7 18 17<|.sc false 22 18 (oD 19 0 0 7<|o9 20 1 19<|oH 21 20 3<|.nil) (.t 21)<|.nil) (qM [22,7,1,10,9,8,5] (qO 22 (.ops<|oD 23 1 1 7<|o9 24 1 23<|o7 5 24<|.nil) .skip))) (qM [7,1,10,9,8,5] (qN (oD 25 2 2 7<|o9 26 1 25<|o7 27 1<|oZ 28 26 27<|qL [28,7,10,9,8,1,5]<|o7 29 28<|.sc false 33 29 (oD 30 0 0 7<|o9 31 1 30<|oH 32 31 4<|.nil) (.t 32)<|.nil) (qM [33,10,9,8,1,5] (qO 33 (.ops<|o8 5 (-1)<|.nil) .skip)))))))) (qM [10,9,8,1,5] (.ops<|oJ 34 10 1<|o7 10 34<|.nil)))))
def asb:JC:=(qM [5] (qN (o7 35 5<|o7 4 35<|.nil) .ret))
def j85:JC:=(qN (o8 4 0<|.nil) (qN (o8 5 (-1)<|.nil) (.seq (qN (o7 8 0<|oP 9 8<|o8 10 0<|.nil) (.block 0 (.loop [9,8,1] [10,5] asa))) asb)))
def j117:JC:=(qN (oV 3 56 1<|o8 4 0<|.nil) (.seq (qN (oC 5 3 3<|oM 6 115 5<|qF 7 6<|.nil) (qO 7 (qN (o8 4 1<|.nil) .ret) .skip)) (.seq (qN (o7 8 0<|qL [3,8,0]<|oD 9 1 1 3<|o9 10 1 9<|qE 11 151 8 10<|qF 12 11<|qL [12,0,3]<|o7 13 12<|.sc true 18 13 (o7 14 0<|oD 15 1 1 3<|o9 16 1 15<|eo 17 (.call 152 [(.t 14),(I 6),(.t 16)])<|.nil) (.t 17)<|.nil) (qM [18,3,0] (qO 18 (qN (o8 4 11<|.nil) .ret) .skip))) (qM [3,0] (.seq (qN (oD 19 0 0 3<|o9 20 1 19<|.nil) (.block 0 (qN (oH 22 20 3<|o7 21 22<|.nil) (qO 21 (qN (o7 23 0<|qL [3,23]<|oD 24 2 2 3<|o9 25 1 24<|qE 26 85 23 25<|qo 27 (.cmp .geq (.t 26) (I 0))<|.nil) (qM [27] (qO 27 (qN (o8 4 9<|.nil) .ret) .skip))) (qN (oH 29 20 4<|o7 28 29<|.nil) (qO 28 (.seq (.bJ<|qL [0,3]<|o7 30 0<|oD 31 2 2 3<|o9 32 1 31<|qG 33 85 30 32<|oD 34 1 1 3<|o9 35 1 34<|qo 36 (.cmp .neq (.t 33) (.t 35))<|.nil) (qM [36] (qO 36 (qN (o8 4 10<|.nil) .ret) .skip))) (qN (oH 38 20 5<|o7 37 38<|.nil) (qM [37,0,3,20] (qO 37 (qN (o7 39 0<|oD 40 2 2 3<|o9 41 1 40<|qE 42 151 39 41<|.nil) (qO 42 (qN (o8 4 8<|.nil) .ret) .skip)) (qN (oH 44 20 6<|o7 43 44<|.nil) (qO 43 (qN (o7 45 0<|qL [3,45]<|oD 46 2 2 3<|o9 47 1 46<|qE 48 151 45 47<|qF 49 48<|o7 50 49<|qL [50,3]<|.sc true 56 50 (oD 51 2 2 3<|o9 52 1 51<|oD 53 1 1 3<|o9 54 1 53<|oZ 55 52 54<|.nil) (.t 55)<|.nil) (qM [56] (qO 56 (qN (o8 4 7<|.nil) .ret) .skip))) .skip))))))))))) (qM [] (qN (o8 4 0<|.nil) .ret)))))))
def asc:JC:=(qN (oO 13 12 11<|.nil) (.seq (qO 13 .skip (.exit 0)) (.seq (.block 1 (qN (o7 14 12<|oK 15 3 10 12<|oC 16 3 15<|qK 5 56<|o7 4 14<|oG 3 5 16<|.nil) (qM [0,4,5,12,11,10] (.seq (.bJ<|o7 17 0<|o7 18 4<|qo 19 (.slc 3 (.t 17) none (some (.t 18)) none)<|oC 20 3 5<|qG 21 117 19 20<|o7 6 21<|.nil) (qM [6,4,12,11,10,0] (qN (o7 22 6<|qC 23 22 0<|.nil) (qO 23 (qN (qL [4,6]<|o7 24 4<|o7 25 6<|o7 2 24<|o7 3 25<|.nil) .ret) .skip))))))) (qM [12,11,10,0] (.ops<|oJ 26 12 1<|o7 12 26<|.nil)))))
def ase:JC:=(qM [] (qN (o8 2 0<|o8 3 0<|.nil) .ret))
def j75:JC:=(qN (o8 2 0<|o8 3 0<|.nil) (.seq (qN (o7 7 0<|oP 8 7<|qJ 9 8 80<|.nil) (qO 9 (qN (o8 2 0<|o8 3 2<|.nil) .ret) .skip)) (.seq (qN (qL [0]<|o7 10 0<|oP 11 10<|o8 12 0<|.nil) (qM [12,11,10,0] (.block 0 (.loop [11,10,0] [12] asc)))) ase)))
def j33:JC:=(qN (o8 2 0<|.nil) (qN (o7 6 0<|oM 7 75 6<|o7 5 7<|oN 8 0 5<|oN 9 1 5<|o7 3 8<|o7 4 9<|.nil) (qN (o7 10 4<|o7 2 10<|.nil) .ret)))
def outB(n lo hi:Int):Bool:=decide (n<lo)||decide (hi<n)
theorem f_outside(n lo hi:Int):FnOK Tryz.prog 80 [.int .i64 n, .int .i64 lo, .int .i64 hi] [] (.bool (outB n lo hi)) []:=by refine fn_walkA j80 [.tmp 6] 15 FH.none_ok rfl ?_;unfold j80;simp only[go_sem,seval];rfl
def Go(f:FuncId)(a:List SV)(m:List ay):Sx.Call:=(FH.rd 80 (.three .int .int .int) (.one .bool) (λ_=>True) (λy=>outB y.1 y.2.1 y.2.2.1) FH.none) f a m
theorem ayz:type_of% (nq Go.eq_1):=nq Go.eq_1
theorem ayA:aW Tryz.prog Go:=FH.aT (λy _=>f_outside y.1 y.2.1 y.2.2.1) FH.none_ok
theorem I8(e:Ev):FnOK Tryz.prog 115 [aO.aA e] [] (.bool (iI e)) []:=by
 refine fn_walkA j115 [.tmp 2] 21 ayA rfl ?_;unfold j115;simp only[go_sem,seval,ayz];have k1:outB e.kind 1 8=false↔1<=e.kind/\e.kind<=8:=by simp[outB]
 have k2:outB e.aC 0 5=false↔0<=e.aC/\e.aC<=5:=by simp[outB]
 refine⟨λh=> ?_,λh=> ?_⟩
 ·symm
  rw[<- z2c,bC];rintro⟨b1,b2,b3,b4⟩;have h2:outB e.aC 0 5=false:=k2.2 (by omega)
  have h1:outB e.kind 1 8=false:=by
   refine k1.2 ?_;unfold many at b4;split at b4
   ·omega
   ·split at b4
    ·omega
    ·split at b4
     ·omega
     ·split at b4<;>omega
  rw[h1,h2] at h;cases h
 ·simp only[z0b] at h;obtain⟨c1,c2⟩:=k1.1 h.1;obtain⟨c3,c4⟩:=k2.1 h.2;have hw:z04.wrap (e.kind - 1)=e.kind - 1:=aY;rw[hw];refine⟨⟨by omega,by omega⟩,?_⟩
  have hm:many e.kind=([7,7,4,4,5,5,3,3]:List Int).getD (e.kind - 1).toNat 0+1:=by rcases(show e.kind=1\/e.kind=2\/e.kind=3\/e.kind=4\/e.kind=5\/e.kind=6\/e.kind=7\/e.kind=8 by omega) with h|h|h|h|h|h|h|h<;>rw[h]<;>rfl
  generalize ([7,7,4,4,5,5,3,3]:List Int).getD (e.kind - 1).toNat 0=b at hm ⊢;rw[z0x,bC];simp only[outB,z0e,z0b,decide_eq_false_iff_not];omega
def kN(l:List Ev)(k o:Int):Bool:=l.any λe=>decide (e.kind=k)&&decide (e.obj=o)
theorem asf(l:List Ev)(k o:Int):FnOK Tryz.prog 152 [(DT.list 3 aO).aA l, .int .i64 k, .int .i64 o] [] (.bool (kN l k o)) []:=by
 refine nO λhB=>fn_walkA avd [.tmp 6] 26 FH.none_ok rfl ?_;simp only[go_sem,seval] at hB;unfold avd;simp only[go_sem,seval];refine aZ Nat (λi=>[.int .i64 i]) (λi=>[]) (λi=>i<=l.length/\kN (l.take i) k o=false) (λi=>l.length - i) 0 ⟨by omega,by simp[kN]⟩ ?_ rfl ?_
 ·simp only[go_sem,seval]
 ·intro i hi;unfold ahQ;simp only[go_sem,seval];refine⟨λh1=> ?_,λh1=> ?_⟩
  ·have hil:i<l.length:=by omega
   have hd:kN (l.take (i+1)) k o=(kN (l.take i) k o||(decide ((l.getD i aO.aI).kind=k)&&decide ((l.getD i aO.aI).obj=o))):=by simp only[kN,bH aO.aI hil,z3f,List.any_cons,List.any_nil,Bool.or_false]
   refine⟨by omega,λh2=> ?_,λh2=>⟨i+1,⟨by omega,?_⟩,by omega,aY⟩⟩
   ·symm
    rw[kN,z2a];exact⟨l.getD i aO.aI,getD_mem hil,h2⟩
   ·rw[hd,hi.2,h2];rfl
  ·have hil:i=l.length:=by omega
   subst hil;have:=hi.2;rw[z0r] at this;rw[this];unfold ahR;simp only[go_sem,seval]
def xg(l:List Ev)(t:Int):Bool:=decide (t=0)||kN l 5 t
def Gd(f:FuncId)(a:List SV)(m:List ay):Sx.Call:=(FH.rd 152 (.three (DT.list 3 aO) .int .int) (.one .bool) (λ_=>True) (λy=>kN y.1 y.2.1 y.2.2.1) FH.none) f a m
theorem agy:type_of% (nq Gd.eq_1):=nq Gd.eq_1
theorem agz:aW Tryz.prog Gd:=FH.aT (λy _=>asf y.1 y.2.1 y.2.2.1) FH.none_ok
theorem aoi(l:List Ev)(t:Int):FnOK Tryz.prog 151 [(DT.list 3 aO).aA l, .int .i64 t] [] (.bool (xg l t)) []:=by refine fn_walkA ave [.tmp 4] 12 agz rfl ?_;unfold ave;simp only[go_sem,seval,agy];rfl
def tK(k:Int)(who:Int)(e:Ev):Int:=if e.obj=k/\e.kind=4 then -1 else if e.obj=k/\e.kind=3 then e.aC else who
def aN(l:List Ev)(k:Int):Int:=l.foldl (tK k) (-1)
theorem Ou(l:List Ev)(k:Int):FnOK Tryz.prog 85 [(DT.list 3 aO).aA l, .int .i64 k] [] (.int .i64 (Tr.aN l k)) []:=by
 refine nO λhB=>fn_walkA j85 [.tmp 4] 36 FH.none_ok rfl ?_;simp only[go_sem,seval] at hB;unfold j85;simp only[go_sem,seval];refine aZ Nat (λi=>[.int .i64 i, .int .i64 (Tr.aN (l.take i) k)]) (λi=>[]) (λi=>i<=l.length) (λi=>l.length - i) 0 (by omega) ?_ rfl ?_
 ·simp only[go_sem,seval];rfl
 ·intro i hi;unfold asa;simp only[go_sem,seval];refine⟨λh1=> ?_,λh1=> ?_⟩
  ·have hil:i<l.length:=by omega
   have ho:Tr.aN (l.take (i+1)) k=tK k (Tr.aN (l.take i) k) (l.getD i aO.aI):=by simp only[Tr.aN,bH aO.aI hil,z19,z2g,z3i]
   have hw:z04.wrap ((i:Int)+1)=((i+1:Nat):Int):=aY;simp only[z00,decide_eq_true_eq,Bool.and_eq_false_iff,decide_eq_false_iff_not];refine⟨by omega,λh2=>⟨λh3=> ?_,λh3=>⟨i+1,by omega,by omega,hw,?_⟩⟩,λh2=>⟨λh3=>⟨i+1,by omega,by omega,hw,?_⟩,λh3=>⟨i+1,by omega,by omega,hw,?_⟩⟩⟩
   ·omega
   ·rw[ho,tK,if_neg (by omega),if_pos (by omega)]
   ·rw[ho,tK,if_pos (by omega)]
   ·rw[ho,tK,if_neg (by omega),if_neg (by omega)]
  ·have hil:i=l.length:=by omega
   subst hil;rw[z0r];unfold asb;simp only[go_sem,seval]
def kP(l:List Ev)(e:Ev):Int:=
 if iI e=false then 1 else
 if (!xg l e.aC||kN l 6 e.aC)=true then 11 else
 if e.kind=3 then(if 0<=Tr.aN l e.obj then 9 else 0) else
 if e.kind=4 then(if Tr.aN l e.obj≠e.aC then 10 else 0) else
 if e.kind=5 then(if xg l e.obj=true then 8 else 0) else
 if e.kind=6 then(if (!xg l e.obj||decide (e.obj=e.aC))=true then 7 else 0) else 0
def Gw(f:FuncId)(a:List SV)(m:List ay):Sx.Call:=(FH.rd 115 (.one aO) (.one .bool) (λ_=>True) (λy=>iI y.1)<|FH.rd 151 (.two dw .int) (.one .bool) (λ_=>True) (λy=>xg y.1 y.2.1)<|
 FH.rd 152 (.three dw .int .int) (.one .bool) (λ_=>True) (λy=>kN y.1 y.2.1 y.2.2.1)<|FH.rd 85 (.two dw .int) (.one .int) (λ_=>True) (λy=>Tr.aN y.1 y.2.1) FH.none) f a m
theorem ayB:type_of% (nq Gw.eq_1):=nq Gw.eq_1
theorem ayC:aW Tryz.prog Gw:=FH.aT (λy _=>I8 y.1)<|FH.aT (λy _=>aoi y.1 y.2.1)<|
 FH.aT (λy _=>asf y.1 y.2.1 y.2.2.1)<|FH.aT (λy _=>Ou y.1 y.2.1) FH.none_ok
theorem aoj(l:List Ev)(e:Ev):FnOK Tryz.prog 117 [dw.aA l,aO.aA e] [] (.int .i64 (kP l e)) []:=by
 refine fn_walkA j117 [.tmp 4] 57 ayC rfl ?_;unfold j117;simp only[go_sem,seval,ayB];refine⟨λh1=> ?_,λh1=>⟨λh2=> ?_,λh2=>⟨λh3=>⟨λh=> ?_,λh=> ?_⟩,λh3=>⟨λh4=>⟨λh=> ?_,λh=> ?_⟩,λh4=>⟨λh5=>⟨λh=> ?_,λh=> ?_⟩,λh5=>⟨λh6=>⟨λh=> ?_,λh=> ?_⟩,λh6=> ?_⟩⟩⟩⟩⟩⟩
 all_goals (unfold kP;simp only[*,reduceIte,Bool.true_eq_false,z0p,ne_eq,not_true_eq_false,not_false_eq_true,z1g])
def qP(l:List Ev):List Ev->Nat->Int×Int
 |[],_=>(0,0)
 |e::r,i=>if kP (l.take i) e=0 then qP l r (i+1) else(i,kP (l.take i) e)
def aF(l:List Ev):Int×Int:=if 80<l.length then(0,2) else qP l l 0
def Gk(f:FuncId)(a:List SV)(m:List ay):Sx.Call:=(FH.rd 117 (.two dw aO) (.one .int) (λ_=>True) (λy=>kP y.1 y.2.1) FH.none) f a m
theorem Zx:type_of% (nq Gk.eq_1):=nq Gk.eq_1
theorem Zy:aW Tryz.prog Gk:=FH.aT (λy _=>aoj y.1 y.2.1) FH.none_ok
theorem ahS(l:List Ev):FnOK Tryz.prog 75 [dw.aA l] [] (.bK [.int .i64 (aF l).1, .int .i64 (aF l).2]) []:=by
 refine nO λhB=>fn_walkA j75 [.tmp 2, .tmp 3] 27 Zy rfl ?_;simp only[go_sem,seval] at hB;unfold j75;simp only[go_sem,seval];refine⟨λh=>by rw[aF,if_pos (by omega)],λh=> ?_⟩
 have h80:¬ 80<l.length:=by omega
 have hr:aF l=qP l l 0:=if_neg h80;refine aZ Nat (λi=>[.int .i64 i]) (λi=>[]) (λi=>i<=l.length/\aF l=qP l (l.drop i) i) (λi=>l.length - i) 0 ⟨by omega,by rw[hr,z3j]⟩ ?_ rfl ?_
 ·simp only[go_sem,seval]
 ·intro i hi;unfold asc;simp only[go_sem,seval,Zx];refine⟨λh1=> ?_,λh1=> ?_⟩
  ·have hil:i<l.length:=by omega
   have hp:=hi.2;rw[nP aO.aI hil] at hp;simp only[qP] at hp;refine⟨by omega,by omega,by omega,λh2=> ?_,λh2=>⟨i+1,⟨by omega,?_⟩,by omega,aY⟩⟩
   ·rw[if_neg h2] at hp;rw[hp]
   ·rw[if_pos h2] at hp;exact hp
  ·have hil:i=l.length:=by omega
   subst hil;have hp:=hi.2;rw[z3c] at hp;simp only[qP] at hp;rw[hp];unfold ase;simp only[go_sem,seval]
def GK(f:FuncId)(a:List SV)(m:List ay):Sx.Call:=(FH.rd 75 (.one dw) (.two .int .int) (λ_=>True) (λy=>aF y.1) FH.none) f a m
theorem ayD:type_of% (nq GK.eq_1):=nq GK.eq_1
theorem ayE:aW Tryz.prog GK:=FH.aT (λy _=>ahS y.1) FH.none_ok
theorem ark(l:List Ev):FnOK Tryz.prog 33 [dw.aA l] [] (.int .i64 (aF l).2) []:=by refine fn_walkA j33 [.tmp 2] 11 ayE rfl ?_;unfold j33;simp only[go_sem,seval,ayD]
theorem rQ(p:List Ev)(e:Ev)(k o:Int):kN (p++[e]) k o=(kN p k o||(decide (e.kind=k)&&decide (e.obj=o))):=by simp[kN]
theorem vX(p:List Ev)(e:Ev)(t:Int):xg (p++[e]) t=(xg p t||(decide (e.kind=5)&&decide (e.obj=t))):=by simp only[xg,rQ,Bool.or_assoc]
theorem iV(p:List Ev)(e:Ev)(k:Int):Tr.aN (p++[e]) k=tK k (Tr.aN p k) e:=by simp[Tr.aN]
structure Agr(w:Wd)(p:List Ev):Prop where
 beg:∀ k:Nat,k<6->w.begun k=xg p k
 ovr:∀ k:Nat,k<6->w.over k=kN p 6 k
 own:∀ k:Nat,k<5->w.owner k=Tr.aN p k+1/\ -1<=Tr.aN p k
theorem aby:Agr sQ []:=by
 refine⟨λk hk=> ?_,λk hk=>rfl,λk hk=>⟨rfl,by show(-1:Int)<= -1;decide⟩⟩
 by_cases h:k=0
 ·subst h;rfl
 ·simp[sQ,upd,xg,kN,h]
theorem ahT{w:Wd}{p:List Ev}(h:Agr w p)(e:Ev):(je w e).2=kP p e/\((je w e).2=0->Agr (je w e).1 (p++[e])):=by
 unfold je kP;by_cases h1:iI e=false
 ·simp[h1]
 rw[if_neg h1,if_neg h1];obtain⟨b1,b2,b3,b4⟩:=(bC e).1 (by simpa using h1)
 have et:((e.aC.toNat:Nat):Int)=e.aC:=by omega
 have eo:((e.obj.toNat:Nat):Int)=e.obj:=by omega
 rw[h.beg e.aC.toNat (by omega),h.ovr e.aC.toNat (by omega),et]
 by_cases h2:(!xg p e.aC||kN p 6 e.aC)=true
 ·simp[h2]
 rw[if_neg h2,if_neg h2];have oth:e.kind≠3->e.kind≠4->e.kind≠5->e.kind≠6->Agr w (p++[e]):=by
  intro k3 k4 k5 k6;refine⟨λk hk=> ?_,λk hk=> ?_,λk hk=> ?_⟩
  ·rw[vX,h.beg k hk];simp[k5]
  ·rw[rQ,h.ovr k hk];simp[k6]
  ·rw[iV];simp only[tK,k3,k4,and_false,if_false];exact h.own k hk
 by_cases k3:e.kind=3
 ·have b5:e.obj<5:=by simpa[many,k3] using b4
  have ho:=h.own e.obj.toNat (by omega)
  rw[eo] at ho;simp only[k3,if_true];by_cases h3:0<=Tr.aN p e.obj
  ·rw[if_pos (by omega),if_pos h3];simp
  ·rw[if_neg (by omega),if_neg h3]
   refine⟨rfl,λ_=>⟨λk hk=> ?_,λk hk=> ?_,λk hk=> ?_⟩⟩
   ·rw[vX,<- h.beg k hk];simp[k3]
   ·rw[rQ,<- h.ovr k hk];simp[k3]
   ·rw[iV];have hk':=h.own k hk;simp only[upd,tK,k3,and_true];by_cases hko:k=e.obj.toNat
    ·have:e.obj=(k:Int):=by omega
     simp[hko,eo];omega
    ·have:¬ e.obj=(k:Int):=by omega
     simp[hko,this];exact hk'
 by_cases k4:e.kind=4
 ·have b5:e.obj<5:=by simpa[many,k4] using b4
  have ho:=h.own e.obj.toNat (by omega)
  rw[eo] at ho;rw[if_neg k3,if_pos k4,if_neg k3,if_pos k4];by_cases h3:Tr.aN p e.obj=e.aC
  ·rw[if_neg (by omega),if_neg (by omega)]
   refine⟨rfl,λ_=>⟨λk hk=> ?_,λk hk=> ?_,λk hk=> ?_⟩⟩
   ·rw[vX,<- h.beg k hk];simp[k4]
   ·rw[rQ,<- h.ovr k hk];simp[k4]
   ·rw[iV];have hk':=h.own k hk;simp only[upd,tK,k4,and_true];by_cases hko:k=e.obj.toNat
    ·have:e.obj=(k:Int):=by omega
     simp[hko,eo]
    ·have:¬ e.obj=(k:Int):=by omega
     simp[hko,this];exact hk'
  ·rw[if_pos (by omega),if_pos h3];simp
 by_cases k5:e.kind=5
 ·have b5:e.obj<6:=by simpa[many,k5] using b4
  rw[if_neg k3,if_neg k4,if_pos k5,if_neg k3,if_neg k4,if_pos k5,h.beg e.obj.toNat (by omega),eo]
  by_cases h3:xg p e.obj=true
  ·rw[if_pos h3,if_pos h3];simp
  ·rw[if_neg h3,if_neg h3];refine⟨rfl,λ_=>⟨λk hk=> ?_,λk hk=> ?_,λk hk=> ?_⟩⟩
   ·rw[vX,<- h.beg k hk];simp only[upd,k5,decide_true,z1p];by_cases hko:k=e.obj.toNat
    ·have:e.obj=(k:Int):=by omega
     simp[hko,eo]
    ·have:¬ e.obj=(k:Int):=by omega
     simp[hko,this]
   ·rw[rQ,<- h.ovr k hk];simp[k5]
   ·rw[iV];simp only[tK,k5];simpa using h.own k hk
 by_cases k6:e.kind=6
 ·have b5:e.obj<6:=by simpa[many,k6] using b4
  rw[if_neg k3,if_neg k4,if_neg k5,if_pos k6,if_neg k3,if_neg k4,if_neg k5,if_pos k6,h.beg e.obj.toNat (by omega),eo]
  by_cases h3:(!xg p e.obj||decide (e.obj=e.aC))=true
  ·rw[if_pos h3,if_pos h3];simp
  ·rw[if_neg h3,if_neg h3];refine⟨rfl,λ_=>⟨λk hk=> ?_,λk hk=> ?_,λk hk=> ?_⟩⟩
   ·rw[vX,<- h.beg k hk];simp[k6]
   ·rw[rQ,<- h.ovr k hk];simp only[upd,k6,decide_true,z1p];by_cases hko:k=e.obj.toNat
    ·have:e.obj=(k:Int):=by omega
     simp[hko,eo]
    ·have:¬ e.obj=(k:Int):=by omega
     simp[hko,this]
   ·rw[iV];simp only[tK,k6];simpa using h.own k hk
 rw[if_neg k3,if_neg k4,if_neg k5,if_neg k6,if_neg k3,if_neg k4,if_neg k5,if_neg k6];exact⟨rfl,λ_=>oth k3 k4 k5 k6⟩
theorem Jr(l:List Ev):∀ (r p:List Ev) (w:Wd),l=p++r->Agr w p->(DN r p.length w).2=qP l r p.length/\((DN r p.length w).2.2=0->Agr (DN r p.length w).1 l)
 |[],p,w,hl,h=>by
  simp only[z0l] at hl;subst hl;exact⟨rfl,λ_=>h⟩
 |e::r,p,w,hl,h=>by
  obtain⟨h1,h2⟩:=ahT h e;have ht:l.take p.length=p:=by rw[hl];simp
  simp only[DN,qP];rw[ht,<- h1];by_cases h3:(je w e).2=0
  ·rw[if_pos h3,if_pos h3];have:=Jr l r (p++[e]) (je w e).1 (by rw[hl];simp) (h2 h3)
   simpa using this
  ·rw[if_neg h3,if_neg h3];exact⟨rfl,λh=>absurd h h3⟩
theorem iD(l:List Ev):(aK l).2=aF l:=by
 unfold aK aF;split
 ·rfl
 ·exact(Jr l l [] sQ rfl aby).1
theorem bP{l:List Ev}(h:(aF l).2=0):l.length<=80:=by
 rcases z2q 80 l.length with h1|h1
 ·rw[aF,if_pos h1] at h;cases h
 ·exact h1
theorem iE{l:List Ev}:(aK l).2.2=(aF l).2:=by rw[iD]
theorem ash{l:List Ev}:∀ (r:List Ev) (i:Nat),l.drop i=r->(qP l r i).2=0->∀ j,i<=j->j<l.length->kP (l.take j) (l.getD j aO.aI)=0
 |[],i,hr,_,j,h1,h2=>by
  have:=congrArg z2d hr;simp at this;omega
 |e::r,i,hr,h,j,h1,h2=>by
  have hd:=nP aO.aI (show i<l.length by omega)
  rw[hr] at hd;obtain⟨rfl,hr'⟩:=List.cons.inj hd;simp only[qP] at h;by_cases hw:kP (l.take i) (l.getD i aO.aI)=0
  ·rw[if_pos hw] at h;rcases Nat.eq_or_lt_of_le h1 with rfl|h3
   ·exact hw
   ·exact ash r (i+1) hr'.symm h j h3 h2
  ·rw[if_neg hw] at h;exact absurd h hw
theorem Wy{l:List Ev}(h:(aF l).2=0)(j:Nat)(hj:j<l.length):kP (l.take j) (l.getD j aO.aI)=0:=by
 have h8:=bP h;rw[aF,if_neg (by omega)] at h
 exact ash l 0 rfl h j (z2e _) hj
theorem jq{l:List Ev}(h:(aF l).2=0)(j:Nat)(hj:j<l.length):iI (l.getD j aO.aI)=true:=by
 have:=Wy h j hj;unfold kP at this;split at this
 ·cases this
 ·rename_i h;simpa using h
end Go.Proofs.YtgnaipcjbmhihaaGreatDoor.Tr
namespace Go.Proofs.YtgnaipcjbmhihaaGreatDoor.Tx
open D Tr
def j87:JC:=(qN (qo 0 (.mv (.c .qx))<|.nil) (qN (eo 1 (.mJ (.make (.int .i64) (.st [.str, .str])) [])<|qo 2 (.lF (.agg [(.str []),(.str [])]) [([.eG 0],0,1,(.c (.str [114,101,97,100]))),([.eG 1],1,1,(.c (.str [120])))])<|en (.mJ (.put (.int .i64) (.st [.str, .str])) [(.t 1),(I 1),(.t 2)])<|qo 3 (.lF (.agg [(.str []),(.str [])]) [([.eG 0],0,1,(.c (.str [119,114,105,116,101]))),([.eG 1],1,1,(.c (.str [120])))])<|en (.mJ (.put (.int .i64) (.st [.str, .str])) [(.t 1),(I 2),(.t 3)])<|qo 4 (.lF (.agg [(.str []),(.str [])]) [([.eG 0],0,1,(.c (.str [97,99,113,117,105,114,101]))),([.eG 1],1,1,(.c (.str [109])))])<|qL [1,4]<|en (.mJ (.put (.int .i64) (.st [.str, .str])) [(.t 1),(I 3),(.t 4)])<|qo 5 (.lF (.agg [(.str []),(.str [])]) [([.eG 0],0,1,(.c (.str [114,101,108,101,97,115,101]))),([.eG 1],1,1,(.c (.str [109])))])<|en (.mJ (.put (.int .i64) (.st [.str, .str])) [(.t 1),(I 4),(.t 5)])<|qo 6 (.lF (.agg [(.str []),(.str [])]) [([.eG 0],0,1,(.c (.str [102,111,114,107]))),([.eG 1],1,1,(.c (.str [116])))])<|en (.mJ (.put (.int .i64) (.st [.str, .str])) [(.t 1),(I 5),(.t 6)])<|qL [1]<|qo 7 (.lF (.agg [(.str []),(.str [])]) [([.eG 0],0,1,(.c (.str [106,111,105,110]))),([.eG 1],1,1,(.c (.str [116])))])<|en (.mJ (.put (.int .i64) (.st [.str, .str])) [(.t 1),(I 6),(.t 7)])<|qo 8 (.lF (.agg [(.str []),(.str [])]) [([.eG 0],0,1,(.c (.str [115,101,101]))),([.eG 1],1,1,(.c (.str [118])))])<|en (.mJ (.put (.int .i64) (.st [.str, .str])) [(.t 1),(I 7),(.t 8)])<|qo 9 (.lF (.agg [(.str []),(.str [])]) [([.eG 0],0,1,(.c (.str [115,104,111,119]))),([.eG 1],1,1,(.c (.str [118])))])<|en (.mJ (.put (.int .i64) (.st [.str, .str])) [(.t 1),(I 8),(.t 9)])<|o7 10 1<|o7 0 10<|.nil) .ret))
def RU:List (SV×SV):=[(.int .i64 1, .agg [.str [114,101,97,100], .str [120]]),(.int .i64 2, .agg [.str [119,114,105,116,101], .str [120]]),(.int .i64 3, .agg [.str [97,99,113,117,105,114,101], .str [109]]),(.int .i64 4, .agg [.str [114,101,108,101,97,115,101], .str [109]]),
 (.int .i64 5, .agg [.str [102,111,114,107], .str [116]]),(.int .i64 6, .agg [.str [106,111,105,110], .str [116]]),(.int .i64 7, .agg [.str [115,101,101], .str [118]]),(.int .i64 8, .agg [.str [115,104,111,119], .str [118]])]
theorem ZE:FnOK Tryz.prog 87 [] [] (.map 0) [.mp (.int .i64) (.st [.str, .str]) RU]:=by refine fn_walkA j87 [.tmp 0] 11 FH.none_ok rfl ?_;unfold j87;simp only[go_sem,seval];rfl
def vO(k:Int):By:=if k=1 then[114,101,97,100] else if k=2 then[119,114,105,116,101] else if k=3 then[97,99,113,117,105,114,101] else if k=4 then[114,101,108,101,97,115,101] else if k=5 then[102,111,114,107] else if k=6 then[106,111,105,110] else if k=7 then[115,101,101] else[115,104,111,119]
def xY(k:Int):By:=if k=1 then[120] else if k=2 then[120] else if k=3 then[109] else if k=4 then[109] else if k=5 then[116] else if k=6 then[116] else if k=7 then[118] else[118]
def qW(e:Ev):By:=((((([116]++z01 e.aC.toNat)++[32])++vO e.kind)++[32])++xY e.kind)++z01 e.obj.toNat
def nH(e:Ev):By×Int:=if iI e=true then(qW e,0) else([],1)
theorem kind_is{e:Ev}(h:iI e=true):e.kind=1\/e.kind=2\/e.kind=3\/e.kind=4\/e.kind=5\/e.kind=6\/e.kind=7\/e.kind=8:=by
 have:=((bC e).1 h).2.2;unfold many at this;by_cases h:1<=e.kind/\e.kind<=8
 ·omega
 ·rw[if_neg (by omega),if_neg (by omega),if_neg (by omega),if_neg (by omega)] at this;omega
def j88:JC:=(qN (oV 1 56 0<|qI 2 []<|o8 3 0<|.nil) (.seq (qN (oC 5 3 1<|oM 6 124 5<|qF 7 6<|.nil) (qO 7 (qN (qI 2 []<|o8 3 1<|.nil) .ret) .skip)) (.seq (.Dq (qL [1]<|oD 9 0 0 1<|o9 10 1 9<|eo 8 (.call 87 [])<|en (.again 1 false (.t 9) 10)<|eo 11 (.mJ (.get (.int .i64) (.st [.str, .str]) (.agg [(.str []),(.str [])]) false) [(.t 8),(.t 10)])<|.nil) 4 141 (.agg [(.str []),(.str [])]) (oG 2 4 11<|.nil)) (qM [1,4] (.seq (.bJ<|oD 12 1 1 1<|o9 13 1 12<|eo 14 (.gW 12 [(.t 13)])<|qo 15 (.cat (.c (.str [116])) (.t 14))<|qo 16 (.cat (.t 15) (.c (.str [32])))<|qL [4,16,1]<|oD 17 0 0 4<|o9 18 1 17<|qo 19 (.cat (.t 16) (.t 18))<|qo 20 (.cat (.t 19) (.c (.str [32])))<|qL [4,20,1]<|oD 21 1 1 4<|o9 22 1 21<|qo 23 (.cat (.t 20) (.t 22))<|oD 24 2 2 1<|qL [24,23]<|o9 25 1 24<|eo 26 (.gW 12 [(.t 25)])<|qo 27 (.cat (.t 23) (.t 26))<|o7 2 27<|o8 3 0<|.nil) .ret)))))
theorem c88:fnIs Tryz.prog (aaW [87]) 88=some (j88.flat,[.tmp 2, .tmp 3],28):=by kernel_rfl
theorem w88:j88.wf 28=true:=by kernel_rfl
def Gln(f:FuncId)(a:List SV)(m:List ay):Sx.Call:=(FH.rd 124 (.one aO) (.one .bool) (λ_=>True) (λy=>iI y.1)<|
 FH.mn 87 (.map 0) [.mp (.int .i64) (.st [.str, .str]) RU]<|
 FH.rd 12 (.one .int) (.one .str) (λy=>0<=y.1/\y.1<100) (λy=>z01 y.1.toNat) FH.none) f a m
theorem BF:type_of% (nq Gln.eq_1):=nq Gln.eq_1
theorem Wp:aW Tryz.prog Gln:=FH.aT (λy _=>MF y.1)<|FH.arH ZE<|FH.aT (λy h=>auk y.1 h.1 h.2) FH.none_ok
theorem abh{k:Int}(h:k=1\/k=2\/k=3\/k=4\/k=5\/k=6\/k=7\/k=8):dQ (.int .i64) (.int .i64 k) RU=some (.agg [.str (vO k), .str (xY k)]):=by rcases h with rfl|rfl|rfl|rfl|rfl|rfl|rfl|rfl<;>rfl
theorem Dt(k:Int):(vO k).length<=7/\(xY k).length=1:=by
 unfold vO xY
 repeat (first|(split<;>first|exact⟨by decide,by decide⟩|skip)|exact⟨by decide,by decide⟩)
theorem rD(k:Int):many k<=8:=by
 unfold many;split
 ·omega
 split
 ·omega
 split
 ·omega
 split<;>omega
theorem wY{n:Nat}(h:n<10):z01 n=[UInt8.ofNat (48+n)]:=by rw[z01,dif_pos h]
theorem aul(e:Ev):FnOK Tryz.prog 88 [aO.aA e] [] (.bK [.str (nH e).1, .int .i64 (nH e).2]) []:=by
 refine fn_walkF c88 w88 Wp rfl ?_;unfold j88;by_cases h:iI e=true
 ·obtain⟨h1,h2,h3,h4⟩:=(bC e).1 h;have hk:=kind_is h;have hm:=rD e.kind;have h5:e.aC<100:=by omega
  have h6:e.obj<100:=by omega
  have hf:=abh hk;have hw:=Dt e.kind;have d1:=wY (n:=e.aC.toNat) (by omega)
  have d2:=wY (n:=e.obj.toNat) (by omega)
  have l1:(z01 e.aC.toNat).length=1:=by rw[d1];rfl
  have l2:(z01 e.obj.toNat).length=1:=by rw[d2];rfl
  rw[nH,if_pos h];simp only[go_sem,seval,BF,h,h1,h3,h5,h6,hf,z2r,z0a,z1c,z0z,z0y,dF,z0s,z0j,z1i,ah,z09,z0k];simp only[z02,z1x,l1,l2,hw.2];refine⟨by omega,by omega,by simp only[z0w];omega,by omega,by simp only[z0w];omega,by omega,?_⟩
  simp[qW]
 ·have h':iI e=false:=by simpa using h
  rw[nH,if_neg h];simp only[go_sem,seval,BF,h',z0a,z1c,z0z,z0y,dF,z0s,z0j,z1i,ah,z09,z0k]
def j46:JC:=(qN (qI 2 []<|.nil) (qN (o7 3 0<|qo 4 (.conv .u8 (.t 3))<|eo 5 (.qj 5 1 1 (.int .u8 0) [(0,(.t 4))])<|eo 6 (.mJ .agH [(.t 5)])<|o7 2 6<|.nil) .ret))
def j10:JC:=(qN (qI 2 []<|.nil) (.seq (qN (o7 3 0<|qA 4 3 10<|.nil) (qO 4 (qN (o7 5 0<|qo 6 (.ar .add (I 48) (.t 5))<|oM 7 46 6<|o7 2 7<|.nil) .ret) .skip)) (qN (qL [0]<|o7 8 0<|qo 9 (.ar .quo (.t 8) (I 10))<|oM 10 10 9<|o7 11 0<|qo 12 (.ar .rem (.t 11) (I 10))<|qo 13 (.ar .add (I 48) (.t 12))<|qL [13,10]<|oM 14 46 13<|qo 15 (.cat (.t 10) (.t 14))<|o7 2 15<|.nil) .ret)))
def j116:JC:=(qN (oU 0<|.nil) (qN (eo 1 (.qj 9 1 8 (.str []) [(0,(.c (.str [114,101,97,100,32,120]))),(1,(.c (.str [119,114,105,116,101,32,120]))),(2,(.c (.str [97,99,113,117,105,114,101,32,109]))),(3,(.c (.str [114,101,108,101,97,115,101,32,109]))),(4,(.c (.str [102,111,114,107,32,116]))),(5,(.c (.str [106,111,105,110,32,116]))),(6,(.c (.str [115,101,101,32,118]))),(7,(.c (.str [115,104,111,119,32,118])))])<|o7 0 1<|.nil) (.bn 0 9 1 .ret)))
def j74:JC:=(qN (oV 1 56 0<|qI 2 []<|o8 3 0<|.nil) (.seq (qN (oC 4 3 1<|oM 5 115 4<|qF 6 5<|.nil) (qO 6 (qN (qI 2 []<|o8 3 1<|.nil) .ret) .skip)) (.seq (.bJ<|qL [1]<|oD 7 1 1 1<|o9 8 1 7<|eo 9 (.gW 10 [(.t 8)])<|qo 10 (.cat (.c (.str [116])) (.t 9))<|qo 11 (.cat (.t 10) (.c (.str [32])))<|eo 12 (.gW 116 [])<|qL [1,12,11]<|oD 13 0 0 1<|o9 14 1 13<|qo 15 (.ar .sub (.t 14) (I 1))<|oK 16 1 12 15<|qL [16,11,1]<|o9 17 1 16<|qo 18 (.cat (.t 11) (.t 17))<|oD 19 2 2 1<|o9 20 1 19<|qL [20,18]<|eo 21 (.gW 10 [(.t 20)])<|qo 22 (.cat (.t 18) (.t 21))<|o7 2 22<|o8 3 0<|.nil) .ret)))
theorem arI(n:Int)(h0:0<=n)(h1:n<256):FnOK Tryz.prog 46 [.int .i64 n] [] (.str [UInt8.ofNat n.toNat]) []:=by refine fn_walkA j46 [.tmp 2] 7 FH.none_ok rfl ?_;unfold j46;simp only[go_sem,seval];rw[show z3s.wrap n=n by simp only[z3g,z3h,z2y];simp;omega]
def Gdg(f:FuncId)(a:List SV)(m:List ay):Sx.Call:=(FH.rd 46 (.one .int) (.one .str) (λy=>0<=y.1/\y.1<256) (λy=>[UInt8.ofNat y.1.toNat]) FH.none) f a m
theorem aum:type_of% (nq Gdg.eq_1):=nq Gdg.eq_1
theorem aun:aW Tryz.prog Gdg:=FH.aT (λy h=>arI y.1 h.1 h.2) FH.none_ok
theorem agI(n:Int)(h0:0<=n)(h1:n<10):FnOK Tryz.prog 10 [.int .i64 n] [] (.str (z01 n.toNat)) []:=by
 refine fn_walkA j10 [.tmp 2] 16 aun rfl ?_;unfold j10;have d:=wY (n:=n.toNat) (by omega)
 have hw:z04.wrap (48+n)=48+n:=aY;simp only[go_sem,seval,aum,h1,hw];refine⟨by omega,?_⟩
 rw[d,show(48+n).toNat=48+n.toNat by omega]
def rwL:List By:=[[114,101,97,100,32,120],[119,114,105,116,101,32,120],[97,99,113,117,105,114,101,32,109],[114,101,108,101,97,115,101,32,109],[102,111,114,107,32,116],[106,111,105,110,32,116],[115,101,101,32,118],[115,104,111,119,32,118]]
theorem agJ:FnOK Tryz.prog 116 [] [] (.vec 0 rwL.length) [.vec 9 1 (rwL.map DT.str.aA)]:=by refine fn_walkA j116 [.tmp 0] 2 FH.none_ok rfl ?_;unfold j116;simp only[go_sem,seval];exact⟨rfl,rfl⟩
theorem ayl{k:Int}(h:k=1\/k=2\/k=3\/k=4\/k=5\/k=6\/k=7\/k=8):rwL.getD (k - 1).toNat []=vO k++32::xY k:=by rcases h with rfl|rfl|rfl|rfl|rfl|rfl|rfl|rfl<;>rfl
theorem anu:rwL.length=8:=rfl
def Grl(f:FuncId)(a:List SV)(m:List ay):Sx.Call:=(FH.rd 115 (.one aO) (.one .bool) (λ_=>True) (λy=>iI y.1)<|
 FH.rd 10 (.one .int) (.one .str) (λy=>0<=y.1/\y.1<10) (λy=>z01 y.1.toNat)<|
 FH.pz 116 .nil (DP.one (DT.list 1 DT.str)) (λ_=>True) (λ_=>rwL) FH.none) f a m
theorem agK:type_of% (nq Grl.eq_1):=nq Grl.eq_1
theorem auo:aW Tryz.prog Grl:=FH.aT (λy _=>I8 y.1)<|FH.aT (λy h=>agI y.1 h.1 h.2)<|FH.oq (λ_ _=>agJ.holdL) FH.none_ok
theorem anv(e:Ev):FnOK Tryz.prog 74 [aO.aA e] [] (.bK [.str (nH e).1, .int .i64 (nH e).2]) []:=by
 refine fn_walkA j74 [.tmp 2, .tmp 3] 23 auo rfl ?_;unfold j74;by_cases h:iI e=true
 ·obtain⟨h1,h2,h3,h4⟩:=(bC e).1 h;have hk:=kind_is h;have hm:=rD e.kind;have h5:e.aC<10:=by omega
  have h6:e.obj<10:=by omega
  have hw:=Dt e.kind;have d1:=wY (n:=e.aC.toNat) (by omega)
  have d2:=wY (n:=e.obj.toNat) (by omega)
  have l1:(z01 e.aC.toNat).length=1:=by rw[d1];rfl
  have l2:(z01 e.obj.toNat).length=1:=by rw[d2];rfl
  have hwr:z04.wrap (e.kind - 1)=e.kind - 1:=aY;have hat:=ayl hk;rw[nH,if_pos h];simp only[go_sem,seval,agK,h,h1,h3,h5,h6,hwr,anu,z0a,z1c,dF,z0s,z0j,z1i,ah,z09,z0k];have hat':rwL.getD (e.kind - 1).toNat DT.str.aI=vO e.kind++32::xY e.kind:=hat;rw[hat'];simp only[z02,z1x,l1,l2,hw.2];refine⟨by omega,by omega,by omega,by simp only[z0w];omega,by omega,?_⟩
  simp[qW]
 ·have h':iI e=false:=by simpa using h
  rw[nH,if_neg h];simp only[go_sem,seval,agK,h',z0a,z1c,dF,z0s,z0j,z1i,ah,z09,z0k]
end Go.Proofs.YtgnaipcjbmhihaaGreatDoor.Tx
namespace Go.Proofs.YtgnaipcjbmhihaaGreatDoor.Tx
open D Tr
theorem ZX{a b:Nat}(ha:a<10)(hb:b<10)(h:UInt8.ofNat (48+a)=UInt8.ofNat (48+b)):a=b:=by have:=congrArg UInt8.toNat h;simp only[UInt8.toNat_ofNat'] at this;omega
theorem Pm{e:Ev}(h:iI e=true):qW e=116::UInt8.ofNat (48+e.aC.toNat)::32::(vO e.kind++32::(xY e.kind++[UInt8.ofNat (48+e.obj.toNat)])):=by
 obtain⟨h1,h2,h3,h4⟩:=(bC e).1 h;have hm:=rD e.kind;have d1:=wY (n:=e.aC.toNat) (by omega)
 have d2:=wY (n:=e.obj.toNat) (by omega)
 rw[qW,d1,d2];simp
theorem ahU{e e':Ev}(h:iI e=true)(h':iI e'=true)(hl:qW e=qW e'):e=e':=by
 rw[Pm h,Pm h'] at hl;obtain⟨h1,h2,h3,h4⟩:=(bC e).1 h;obtain⟨g1,g2,g3,g4⟩:=(bC e').1 h';have hm:=rD e.kind;have hm':=rD e'.kind;have hk:=kind_is h;have hk':=kind_is h';simp only[List.cons.injEq,true_and] at hl;obtain⟨ht,hr⟩:=hl;have et:=ZX (by omega) (by omega) ht
 have ko:e.kind=e'.kind/\UInt8.ofNat (48+e.obj.toNat)=UInt8.ofNat (48+e'.obj.toNat):=by rcases hk with k|k|k|k|k|k|k|k<;>rcases hk' with k'|k'|k'|k'|k'|k'|k'|k'<;>rw[k,k'] at hr ⊢ <;>simp[vO,xY] at hr ⊢ <;>exact hr
 have eo:=ZX (by omega) (by omega) ko.2
 obtain⟨a,b,c⟩:=e;obtain⟨a',b',c'⟩:=e';simp only at et eo ko h1 h3 g1 g3;obtain⟨rfl,_⟩:=ko;obtain rfl:b=b':=by omega
 obtain rfl:c=c':=by omega
 rfl
def aok:List Ev:=(z2s 8).flatMap λ(k:Nat)=>(z2s 6).flatMap λ(t:Nat)=>(z2s 8).map λ(o:Nat)=>(⟨(k:Int)+1,t,o⟩:Ev)
def abz(s:By)(e:Ev):Bool:=iI e&&decide (qW e=s)
def jU(s:By):Ev×Int:=match aok.find? (abz s) with
 |some e=>(e,0)
 |none=>(⟨0,0,0⟩,3)
theorem ahV{e:Ev}(h:iI e=true):e∈aok:=by
 obtain⟨h1,h2,h3,h4⟩:=(bC e).1 h;have hm:=rD e.kind;have hk:=kind_is h;refine z3b.2 ⟨(e.kind - 1).toNat,z2j.2 (by omega),z3b.2 ⟨e.aC.toNat,z2j.2 (by omega),List.mem_map.2 ⟨e.obj.toNat,z2j.2 (by omega),?_⟩⟩⟩
 obtain⟨a,b,c⟩:=e;simp only at h1 h3 hk ⊢;rw[show(((a - 1).toNat:Nat):Int)+1=a by omega,show((b.toNat:Nat):Int)=b by omega,show((c.toNat:Nat):Int)=c by omega]
theorem MX{e:Ev}{s:By}(h:iI e=true)(hl:qW e=s):jU s=(e,0):=by
 unfold jU;cases hf:aok.find? (abz s) with
 |none=>
  have:=List.find?_eq_none.1 hf e (ahV h);simp[abz,h,hl] at this
 |some e'=>
  have:=z3e hf;simp only[abz,z00,decide_eq_true_eq] at this;rw[ahU this.1 h (this.2.trans hl.symm)]
theorem BL{s:By}(h:∀ e,iI e=true->qW e≠s):jU s=(⟨0,0,0⟩,3):=by
 unfold jU;cases hf:aok.find? (abz s) with
 |none=>rfl
 |some e'=>
  have:=z3e hf;simp only[abz,z00,decide_eq_true_eq] at this;exact absurd this.2 (h e' this.1)
def ahW:JC:=(qN (qA 18 17 8<|.nil) (.seq (qO 18 .skip (.exit 4)) (.seq (.block 5 (qN (o7 19 17<|o7 6 19<|.nil) (qN (o7 20 4<|o7 21 5<|o7 22 6<|qL [20,21,22,0,2,17,4,5,14]<|qo 23 (.lF (.agg [(.int .i64 0),(.int .i64 0),(.int .i64 0)]) [([.eG 0],0,1,(.t 20)),([.eG 1],1,1,(.t 21)),([.eG 2],2,1,(.t 22))])<|qK 7 56<|oG 3 7 23<|.nil) (qM [7,0,2,17,4,5,14] (qN (oC 25 3 7<|oM 26 74 25<|o7 24 26<|oN 27 0 24<|oN 28 1 24<|o7 8 27<|o7 9 28<|.nil) (qM [9,8,0,7,2,17,4,5,14] (qN (o7 29 9<|oH 30 29 0<|o7 31 30<|qL [31,8,0,7,2,17,4,5,14]<|.sc false 35 31 (o7 32 8<|o7 33 0<|qo 34 (.seq false (.t 32) (.t 33))<|.nil) (.t 34)<|.nil) (qM [35,7,2,17,4,5,0,14] (qO 35 (qN (qL [7,2]<|oC 36 3 7<|oG 3 2 36<|o8 3 0<|.nil) .ret) .skip))))))))) (qM [17,4,5,0,2,14] (.ops<|oJ 37 17 1<|o7 17 37<|.nil)))))
def asi:JC:=(qM [14,4,0,2] (.ops<|oJ 38 14 1<|o7 14 38<|.nil))
def ahX:JC:=(qN (qA 15 14 6<|.nil) (.seq (qO 15 .skip (.exit 2)) (.seq (.block 3 (qN (o7 16 14<|o7 5 16<|.nil) (qN (o8 17 0<|.nil) (.block 4 (.loop [4,5,0,2,14] [17] ahW))))) asi)))
def asj:JC:=(qM [4,0,2] (.ops<|o7 12 4<|oJ 13 12 1<|o7 4 13<|.nil))
def ahY:JC:=(.seq (qN (o7 10 4<|qo 11 (.cmp .leq (.t 10) (I 8))<|.nil) (qO 11 .skip (.exit 0))) (.seq (.block 1 (qN (o8 14 0<|.nil) (.block 2 (.loop [4,0,2] [14] ahX)))) asj))
def asn:JC:=(qM [2] (qN (qo 39 (.lF (.agg [(.int .i64 0),(.int .i64 0),(.int .i64 0)]) [])<|oG 3 2 39<|o8 3 3<|.nil) .ret))
def j31:JC:=(qN (qK 2 56<|o8 3 0<|.nil) (.seq (qN (o8 4 1<|.nil) (.block 0 (.loop [0,2] [4] ahY))) asn))
def Gev(f:FuncId)(a:List SV)(m:List ay):Sx.Call:=(FH.rd 74 (.one aO) (.two .str .int) (λ_=>True) (λy=>nH y.1) FH.none) f a m
theorem ahZ:type_of% (nq Gev.eq_1):=nq Gev.eq_1
theorem avf:aW Tryz.prog Gev:=FH.aT (λy _=>anv y.1) FH.none_ok
theorem Js:qm Tryz.prog 56=some (3,true):=by kernel_rfl
abbrev zE:Ev:=⟨0,0,0⟩
theorem Jt{e:Ev}{s:By}:(decide ((nH e).2=0)&&decide ((nH e).1=s))=true↔iI e=true/\qW e=s:=by unfold nH;cases h:iI e<;>simp
theorem abv(s:By):FnOK Tryz.prog 31 [.str s] [] (.bK [aO.aA (jU s).1, .int .i64 (jU s).2]) []:=by
 refine fn_walkA j31 [.cell 2 56, .tmp 3] 40 avf rfl ?_;unfold j31;simp only[go_sem,seval];refine aZ Nat (λk=>[.int .i64 k]) (λ_=>[.blk 56 (aO.aA zE)]) (λk=>1<=k/\k<=9/\∀ e,iI e=true->qW e=s->(k:Int)<=e.kind) (λk=>9 - k) 1 ⟨by omega,by omega,λe he _=>by have:=kind_is he;omega⟩ ?_ ?_ ?_
 ·simp only[go_sem,seval]
 ·rfl
 rintro k ⟨hk1,hk9,hk⟩;by_cases h8:k<=8
 ·have h8':(k:Int)<=8:=by omega
  unfold ahY;simp only[go_sem,seval,h8'];refine aZ Nat (λt=>[.int .i64 t]) (λ_=>[.blk 56 (aO.aA zE)]) (λt=>t<=6/\∀ e,iI e=true->qW e=s->e.kind=k->(t:Int)<=e.aC) (λt=>6 - t) 0 ⟨by omega,λe he _ _=>((bC e).1 he).1⟩ ?_ ?_ ?_
  ·simp only[go_sem,seval]
  ·rfl
  rintro t ⟨ht6,ht⟩;by_cases h6:t<6
  ·have h6':(t:Int)<6:=by omega
   unfold ahX;simp only[go_sem,seval,h6'];refine aZ Nat (λo=>[.int .i64 o]) (λ_=>[.blk 56 (aO.aA zE)]) (λo=>o<=8/\∀ e,iI e=true->qW e=s->e.kind=k->e.aC=t->(o:Int)<=e.obj) (λo=>8 - o) 0 ⟨by omega,λe he _ _ _=>((bC e).1 he).2.2.1⟩ ?_ ?_ ?_
   ·simp only[go_sem,seval]
   ·rfl
   rintro o ⟨ho8,ho⟩;by_cases h7:o<8
   ·have h7':(o:Int)<8:=by omega
    unfold ahW;simp only[go_sem,seval,ahZ,Js,h7'];refine⟨λhc=> ?_,λhc=> ?_⟩
    ·obtain⟨he,hl⟩:=Jt.1 hc;rw[MX he hl]
    ·refine⟨o+1,⟨by omega,λe he hl e1 e2=> ?_⟩,by omega,aY⟩
     have:=ho e he hl e1 e2;refine Decidable.byContradiction λhn=> ?_;obtain⟨a,b,c⟩:=e;simp only at e1 e2 this hn;obtain rfl:=e1;obtain rfl:=e2;obtain rfl:c=o:=by omega
     rw[Jt.2 ⟨he,hl⟩] at hc;cases hc
   ·have h7':¬ (o:Int)<8:=by omega
    unfold ahW;simp only[go_sem,seval,ahZ,h7'];unfold asi;simp only[go_sem,seval];refine⟨t+1,⟨by omega,λe he hl e1=> ?_⟩,by omega,aY⟩
    have a1:=ht e he hl e1;obtain⟨g1,g2,g3,g4⟩:=(bC e).1 he;have hm:=rD e.kind;refine Decidable.byContradiction λhn=> ?_;have:=ho e he hl e1 (by omega)
    omega
  ·have h6':¬ (t:Int)<6:=by omega
   unfold ahX;simp only[go_sem,seval,h6'];unfold asj;simp only[go_sem,seval];refine⟨k+1,⟨by omega,by omega,λe he hl=> ?_⟩,by omega,aY⟩
   have a1:=hk e he hl;obtain⟨g1,g2,g3,g4⟩:=(bC e).1 he;refine Decidable.byContradiction λhn=> ?_;have:=ht e he hl (by omega)
   omega
 ·have h8':¬ (k:Int)<=8:=by omega
  unfold ahY;simp only[go_sem,seval,h8'];unfold asn;simp only[go_sem,seval,Js];rw[BL λe he hl=>by have:=hk e he hl;have:=kind_is he;omega]
end Go.Proofs.YtgnaipcjbmhihaaGreatDoor.Tx
namespace Go.Proofs.YtgnaipcjbmhihaaGreatDoor.Tx
open D Tr
theorem FZ(b:UInt8)(l:By)(c:UInt8):∀ n:Nat,z16 [c] 0 (n+1) (b::l)=if b=c then[]::z16 [c] 0 n l else(b::(z16 [c] 0 (n+1) l).headD [])::(z16 [c] 0 (n+1) l).tail:=by
 intro n;rw[z16,z16,z2o,z2o,z0m];by_cases h:b=c
 ·subst h;simp
 ·have ge:=Lib.indexByte_ge l c;have hb:(b==c)=false:=by simpa using h
  rw[hb,if_neg h];simp only[z0p,if_false,z0h,z0q];by_cases h2:z0m l c= -1
  ·simp[h2]
  ·have h3:(z0m l c== -1)=false:=by simpa using h2
   have h4:(z0m l c+1== -1)=false:=by simp;omega
   rw[h3];simp only[z0p,if_false,h4,z1f,z1j];rw[show(z0m l c+1).toNat=(z0m l c).toNat+1 by omega,z0j,List.drop_succ_cons]
theorem BH(c:UInt8):bf [] c=[[]]:=by rw[bf,z1o,z0n];rfl
theorem zi(b:UInt8)(l:By)(c:UInt8):bf (b::l) c=if b=c then[]::bf l c else(b::(bf l c).headD [])::(bf l c).tail:=by
 rw[bf,bf,z1o,z1o,z0n,z0n,List.count_cons];by_cases h:b=c
 ·subst h;rw[beq_self_eq_true,if_pos rfl,if_pos rfl,FZ,if_pos rfl]
 ·have hb:(b==c)=false:=by simpa using h
  rw[hb,if_neg h];simp only[z0p,if_false,z0h];cases hc:l.count c with
  |zero=>rfl
  |succ n=>rw[FZ,if_neg h]
theorem Tz{n:Nat}(h:n<10):¬ UInt8.ofNat (48+n)=32:=λe=>by
 have:=congrArg UInt8.toNat e;simp only[UInt8.toNat_ofNat'] at this;rw[show UInt8.toNat 32=32 from rfl] at this
 omega
theorem JE{e:Ev}(h:iI e=true):bf (qW e) 32=[[116,UInt8.ofNat (48+e.aC.toNat)],vO e.kind,xY e.kind++[UInt8.ofNat (48+e.obj.toNat)]]:=by
 rw[Pm h];obtain⟨h1,h2,h3,h4⟩:=(bC e).1 h;have hm:=rD e.kind;have n1:=Tz (n:=e.aC.toNat) (by omega)
 have n2:=Tz (n:=e.obj.toNat) (by omega)
 generalize UInt8.ofNat (48+e.aC.toNat)=a at n1 ⊢;generalize UInt8.ofNat (48+e.obj.toNat)=b at n2 ⊢;rcases kind_is h with k|k|k|k|k|k|k|k<;>rw[k]<;>simp[vO,xY,zi,BH,n1,n2]
theorem aiE{q:Nat}(h:q<8):RU.getD q (.junk, .junk)=(.int .i64 ((q:Int)+1), .agg [.str (vO ((q:Int)+1)), .str (xY ((q:Int)+1))]):=by
 have:q=0\/q=1\/q=2\/q=3\/q=4\/q=5\/q=6\/q=7:=by omega
 rcases this with rfl|rfl|rfl|rfl|rfl|rfl|rfl|rfl<;>rfl
def evQ(s:By)(q:Nat):Ev:=⟨(q:Int)+1,((((bf s 32).getD 0 []).getD 1 0).toNat:Int) - 48,((((bf s 32).getD 2 []).getD 1 0).toNat:Int) - 48⟩
def aiF(s:By)(q:Nat):Bool:=decide (vO ((q:Int)+1)=(bf s 32).getD 1 [])&&decide ((nH (evQ s q)).2=0)&&decide ((nH (evQ s q)).1=s)
theorem aBU(b:UInt8):z04.wrap (z04.wrap (b.toNat:Int) - 48)=(b.toNat:Int) - 48:=by have:=b.toNat_lt;rw[IntWalk.i64_in (b.toNat:Int) (by omega),aY]
theorem TA{n:Int}(h0:0<=n)(h1:n<10):((UInt8.ofNat (48+n.toNat)).toNat:Int) - 48=n:=by simp only[UInt8.toNat_ofNat'];omega
theorem avA{e:Ev}{s:By}(h:iI e=true)(hl:qW e=s):aiF s (e.kind - 1).toNat=true:=by
 obtain⟨h1,h2,h3,h4⟩:=(bC e).1 h;have hm:=rD e.kind;have hk:=kind_is h;have hs:bf s 32=[[116,UInt8.ofNat (48+e.aC.toNat)],vO e.kind,xY e.kind++[UInt8.ofNat (48+e.obj.toNat)]]:=by rw[<- hl];exact JE h
 have hw:=(Dt e.kind).2;have ek:(((e.kind - 1).toNat:Nat):Int)+1=e.kind:=by omega
 have ee:evQ s (e.kind - 1).toNat=e:=by unfold evQ;rw[hs,ek];obtain⟨x,hx⟩:=List.length_eq_one_iff.1 hw;rw[hx];simp only[z09,z0k,List.singleton_append];rw[TA h1 (by omega),TA h3 (by omega)]
 have hl':(nH e).2=0/\(nH e).1=s:=by rw[nH,if_pos h];exact⟨rfl,hl⟩
 rw[aiF,ee,hl'.1,hl'.2,hs,ek];simp
def asx:JC:=(.ops<|o7 12 4<|oP 13 12<|qL [13,4,2,0]<|oH 14 13 3<|o7 15 14<|.sc false 21 15 (o7 16 4<|qB 17 1 16 0<|o9 18 1 17<|qo 19 (.lens (.t 18))<|oH 20 19 2<|.nil) (.t 20)<|qL [21,4,2,0]<|o7 22 21<|.sc false 28 22 (o7 23 4<|qB 24 1 23 2<|o9 25 1 24<|qo 26 (.lens (.t 25))<|oH 27 26 2<|.nil) (.t 27)<|.nil)
def asy:JC:=(.seq (.bJ<|qL [5,4,6,0,2,30]<|o7 36 5<|o7 37 4<|qB 38 1 37 0<|o9 39 1 38<|qo 40 (.sx (.t 39) (I 1))<|qo 41 (.conv .i64 (.t 40))<|qL [41,4,36,39,38,6,0,2,30]<|qo 42 (.ar .sub (.t 41) (I 48))<|o7 43 4<|qB 44 1 43 2<|o9 45 1 44<|qo 46 (.sx (.t 45) (I 1))<|qo 47 (.conv .i64 (.t 46))<|qL [47,36,42,39,38,45,44,6,4,0,2,30]<|qo 48 (.ar .sub (.t 47) (I 48))<|qo 49 (.lF (.agg [(.int .i64 0),(.int .i64 0),(.int .i64 0)]) [([.eG 0],0,1,(.t 36)),([.eG 1],1,1,(.t 42)),([.eG 2],2,1,(.t 48))])<|qL [39,38,45,44,49,6,4,0,2,30]<|qK 7 56<|en (.again 1 false (.t 38) 39)<|en (.again 1 false (.t 44) 45)<|oG 3 7 49<|.nil) (qM [7,6,4,0,2,30] (qN (oC 51 3 7<|oM 52 88 51<|o7 50 52<|oN 53 0 50<|oN 54 1 50<|o7 8 53<|o7 9 54<|.nil) (qM [6,4,9,8,0,7,2,30] (.seq (.bJ<|oD 55 0 0 6<|o9 56 1 55<|o7 57 4<|qB 58 1 57 1<|qL [58,56,9,8,0,7,2,4,30]<|o9 59 1 58<|qo 60 (.seq false (.t 56) (.t 59))<|qL [60,9,8,0,7,2,4,30]<|o7 61 60<|.sc false 64 61 (o7 62 9<|oH 63 62 0<|.nil) (.t 63)<|qL [64,8,0,7,2,4,30]<|o7 65 64<|.sc false 69 65 (o7 66 8<|o7 67 0<|qo 68 (.seq false (.t 66) (.t 67))<|.nil) (.t 68)<|.nil) (qM [69,7,2,4,0,30] (qO 69 (qN (oC 70 3 7<|oG 3 2 70<|o8 3 0<|.nil) .ret) .skip)))))))
def j48:ZC:=(.seq (.leaf (.ops<|qK 2 56<|o8 3 0<|.nil)) (.seq (.leaf (.ops<|o7 10 0<|eo 11 (.call 8 [(.t 10),(.c (.str [32]))])<|o7 4 11<|.nil)) (.seq (.seq (.leaf asx) (.prune [28,2,4,0] (.cond (.t 28) (.EN (eo 29 (.call 87 [])<|.nil) (.t 29) 30 0 31 32 1 33 (oN 34 0 33<|oN 35 1 33<|eo 6 (.alloc 141 (.agg [(.str []),(.str [])]))<|o7 5 34<|oG 2 6 35<|.nil) [2,4,0] [] asy) (.leaf .skip)))) (.prune [2] (.leaf (.seq (.ops<|qo 71 (.lF (.agg [(.int .i64 0),(.int .i64 0),(.int .i64 0)]) [])<|oG 3 2 71<|o8 3 3<|.nil) .ret))))))
theorem c48:fnZ Tryz.prog qall 48 j48=some (j48.flat,[.cell 2 56, .tmp 3],72):=by kernel_rfl
theorem w48:j48.wf 72=true:=by kernel_rfl
def Gve(f:FuncId)(a:List SV)(m:List ay):Sx.Call:=(FH.pz 8 (.two .str .str) (DP.one (DT.list 1 DT.str)) (λy=>y.1.length<4294967281/\y.2.1.length=1) (λy=>bf y.1 (y.2.1.getD 0 0))<|
 FH.mn 87 (.map 0) [.mp (.int .i64) (.st [.str, .str]) RU]<|
 FH.rd 88 (.one aO) (.two .str .int) (λ_=>True) (λy=>nH y.1) FH.none) f a m
theorem EO:type_of% (nq Gve.eq_1):=nq Gve.eq_1
theorem avC:aW Tryz.prog Gve:=FH.oq (λy h=>by
 obtain⟨s,b,u⟩:=y;obtain⟨h1,h2⟩:=h;simp only at h1 h2
 match b,h2 with
 |[c],_=>exact(Zh s c h1).holdL)<|FH.arH ZE<|FH.aT (λy _=>aul y.1) FH.none_ok
theorem aox(s:By)(hs:s.length<4294967281):FnOK Tryz.prog 48 [.str s] [] (.bK [aO.aA (jU s).1, .int .i64 (jU s).2]) []:=by
 refine aiG c48 w48 avC rfl ?_;unfold j48;simp only[go_sem,seval,EO,z0q,z09,hs];have hnone:((bf s 32).length≠3\/((bf s 32).getD 0 []).length≠2\/((bf s 32).getD 2 []).length≠2)->jU s=(zE,3):=λhc=>BL λe he hl=>by rw[<- hl,JE he] at hc;have:=Dt e.kind;simp[this.2] at hc
 unfold asx;by_cases h3:(bf s 32).length=3
 ·by_cases h1:((bf s 32).getD 0 []).length=2
  ·by_cases h2:((bf s 32).getD 2 []).length=2
   ·have h1':((bf s 32).getD 0 DT.str.aI).length=2:=h1;have h2':((bf s 32).getD 2 DT.str.aI).length=2:=h2;simp only[go_sem,seval,EO,h3,h1',h2'];refine ayK Unit (λ_=>[]) (λ_=>[.blk 56 (aO.aA zE), .dead]) (λds _=> ∀ d,d∈ds->aiF s d=false) () (λ_ h=>by cases h) trivial rfl ?_ ?_
    ·intro ds u q hd _ _ hq _ iv;rw[aiE hq];unfold asy;simp only[go_sem,seval,EO,h3,h1',h2',Js];simp only[aBU];refine⟨λhc=> ?_,λhc=>⟨(),λd hd'=> ?_⟩⟩
     ·have hc:aiF s q=true:=hc;simp only[aiF,z00,decide_eq_true_eq] at hc;obtain⟨⟨_,g2⟩,g3⟩:=hc;obtain⟨he,hl⟩:=(Jt (e:=evQ s q) (s:=s)).1 (by rw[g2,g3];simp)
      rw[MX he hl];rfl
     ·rcases z1e.1 hd' with g|g
      ·exact hd d g
      ·rw[z0o.1 g];exact hc
    ·intro ds u hd _ hdl hall;simp only[go_sem,seval,Js];rw[BL λe he hl=>by
      have hk:=kind_is he;have hq:(e.kind - 1).toNat<8:=by omega
      have:=hd _ (hall _ hq);rw[avA he hl] at this;cases this]
   ·have h1':((bf s 32).getD 0 DT.str.aI).length=2:=h1;have h2':¬ (((bf s 32).getD 2 DT.str.aI).length:Int)=2:=λe=>h2 (by have:((bf s 32).getD 2 []).length=2:=Int.ofNat_inj.1 e;exact this)
    have hn:=hnone (.inr (.inr h2));simp only[go_sem,seval,EO,h3,h1',h2',hn,Js]
  ·have h1':¬ (((bf s 32).getD 0 DT.str.aI).length:Int)=2:=λe=>h1 (by have:((bf s 32).getD 0 []).length=2:=Int.ofNat_inj.1 e;exact this)
   have hn:=hnone (.inr (.inl h1));simp only[go_sem,seval,EO,h3,h1',hn,Js]
 ·have hn:=hnone (.inl h3);have h3':¬ ((bf s 32).length:Int)=3:=by omega
  simp only[go_sem,seval,EO,h3',hn,Js]
end Go.Proofs.YtgnaipcjbmhihaaGreatDoor.Tx
namespace Go.Proofs.YtgnaipcjbmhihaaGreatDoor.Dk
open D Tx
def GX(cur:By):List By:=if cur=[] then[] else[cur]
def fieldsB:By->By->List By
 |[],cur=>GX cur
 |b::l,cur=>if b=32 then GX cur++fieldsB l [] else fieldsB l (cur++[b])
def WJ(s:By):List By:=(bf s 32).filter λw=>w≠[]
theorem FN(l:By):∃ h t,bf l 32=h::t:=by
 cases l with
 |nil=>exact⟨_,_,BH 32⟩
 |cons b l=>
  rw[zi];split
  ·exact⟨_,_,rfl⟩
  ·exact⟨_,_,rfl⟩
theorem sift:∀ (l cur:By),((cur++(bf l 32).headD [])::(bf l 32).tail).filter (λw=>w≠[])=fieldsB l cur
 |[],cur=>by
  rw[BH];simp only[z1f,z1j,z0l,fieldsB,GX];by_cases h:cur=[]
  ·simp[h]
  ·simp[h]
 |b::l,cur=>by
  rw[zi];simp only[fieldsB];by_cases h:b=32
  ·rw[if_pos h,if_pos h];have ih:=sift l [];obtain⟨hd,t,e⟩:=FN l;rw[e] at ih ⊢;simp only[z1f,z1j,z0a,z0l] at ih ⊢;rw[<- ih,List.filter_cons,GX];by_cases hc:cur=[]
   ·simp[hc]
   ·simp[hc]
  ·rw[if_neg h,if_neg h];have ih:=sift l (cur++[b]);simp only[z1f,z1j];rw[<- ih,z2w];rfl
theorem abr(s:By):WJ s=fieldsB s []:=by have h:=sift s [];obtain⟨hd,t,e⟩:=FN s;rw[<- h,WJ,e];rfl
theorem Dy:∀ (k:Nat) (l cur:By),k<=l.length->(∀ j,j<k->l[j]? ≠some 32)->fieldsB l cur=fieldsB (l.drop k) (cur++l.take k)
 |0,l,cur,_,_=>by simp
 |k+1,[],cur,h,_=>by simp at h
 |k+1,b::l,cur,h,hn=>by
  have hb:b≠32:=λe=>hn 0 (by omega) (by simp[e])
  rw[fieldsB,if_neg hb,Dy k l _ (by simpa using h) (λj hj=>by have:=hn (j+1) (by omega);simpa using this)]
  simp
theorem abt(s:ByteArray)(i:Nat)(hi:i<s.size):((Utf8.decode s i).1=32->s.data.toList[i]? =some 32/\(Utf8.decode s i).2=1)/\
  ((Utf8.decode s i).1≠32->∀ j,j< (Utf8.decode s i).2->s.data.toList[i+j]? ≠some 32)/\1<=(Utf8.decode s i).2/\i+(Utf8.decode s i).2<=s.size:=by
 have hat:∀ k,i+k<s.size->s.data.toList[i+k]? =some (s.get! (i+k)):=by
  intro k hk;have hk':i+k<s.data.size:=hk;rw[z07 (by simpa using hk')]
  simp[ByteArray.get!,Array.getElem!_eq_getD,Array.getD];intro h;omega
 have big:∀ k,i+k<s.size->128<=(s.get! (i+k)).toNat->s.data.toList[i+k]? ≠some 32:=by intro k hk h e;rw[hat k hk] at e;rw[z1v e] at h;exact absurd h (by decide)
 have h0:=hat 0 (by omega)
 rw[z0h] at h0;by_cases hb:(s.get! i).toNat<128
 ·have e:Utf8.decode s i=((s.get! i).toNat,1):=by unfold Utf8.decode;simp only[z0h];rw[if_pos hb]
  rw[e];refine⟨λh=>⟨?_,rfl⟩,λh j hj=> ?_,z03 _,by omega⟩
  ·rw[h0];have:s.get! i=32:=UInt8.toNat_inj.1 h;rw[this]
  ·obtain rfl:j=0:=by have:j<1:=hj;omega
   rw[z0h,h0];intro e2;exact h (by show(s.get! i).toNat=32;rw[z1v e2];rfl)
 ·have hb0:128<=(s.get! (i+0)).toNat:=by rw[z0h];omega
  have one:∀ r:Nat,r≠32->((r=32->s.data.toList[i]? =some 32/\1=1)/\(r≠32->∀ j,j<1->s.data.toList[i+j]? ≠some 32)/\1<=1/\i+1<=s.size):=by
   intro r hr;refine⟨λh=>absurd h hr,λ_ j hj=> ?_,z03 _,by omega⟩
   obtain rfl:j=0:=by omega
   exact big 0 (by omega) hb0
  have c2:∀ k,(decide (i+k<s.size)&&(s.get! (i+k)).toNat/64==2)=true->i+k<s.size/\128<=(s.get! (i+k)).toNat:=by intro k hk;simp only[z00,decide_eq_true_eq,beq_iff_eq] at hk;exact⟨hk.1,by omega⟩
  unfold Utf8.decode;simp only[z0h];rw[if_neg hb];split
  ·rename_i h1;simp only[z00] at h1;have q1:=c2 1 (by simpa using h1.2)
   split
   ·rename_i h2;refine⟨λh=>absurd h (by simp only at h2 ⊢;omega),λ_ j hj=> ?_,(by show 1<=2;omega),by show i+2<=s.size;omega⟩
    have hj:j<2:=hj
    match j,hj with
    |0,_=>exact big 0 (by omega) hb0
    |1,_=>exact big 1 q1.1 q1.2
   ·exact one _ (by decide)
  ·split
   ·rename_i h1;simp only[z00] at h1;have q1:=c2 1 (by simpa using h1.1.2)
    have q2:=c2 2 (by simpa using h1.2)
    split
    ·rename_i h2;simp only[z00,decide_eq_true_eq] at h2;refine⟨λh=>absurd h (by have:=h2.1;simp only at this ⊢;omega),λ_ j hj=> ?_,(by show 1<=3;omega),by show i+3<=s.size;omega⟩
     have hj:j<3:=hj
     match j,hj with
     |0,_=>exact big 0 (by omega) hb0
     |1,_=>exact big 1 q1.1 q1.2
     |2,_=>exact big 2 q2.1 q2.2
    ·exact one _ (by decide)
   ·split
    ·rename_i h1;simp only[z00] at h1;have q1:=c2 1 (by simpa using h1.1.1.2)
     have q2:=c2 2 (by simpa using h1.1.2)
     have q3:=c2 3 (by simpa using h1.2)
     split
     ·rename_i h2;simp only[z00,decide_eq_true_eq] at h2;refine⟨λh=>absurd h (by have:=h2.1;simp only at this ⊢;omega),λ_ j hj=> ?_,(by show 1<=4;omega),by show i+4<=s.size;omega⟩
      have hj:j<4:=hj
      match j,hj with
      |0,_=>exact big 0 (by omega) hb0
      |1,_=>exact big 1 q1.1 q1.2
      |2,_=>exact big 2 q2.1 q2.2
      |3,_=>exact big 3 q3.1 q3.2
     ·exact one _ (by decide)
    ·exact one _ (by decide)
def pc(s:ByteArray)(x:Nat×Nat):By:=(s.extract x.1 x.2).data.toList
def FP(s:ByteArray)(st:Option Nat)(pos:Nat):By:=match st with
 |some a=>pc s (a,pos)
 |none=>[]
theorem SQ(s:ByteArray)(a b:Nat):pc s (a,b)=(s.data.toList.drop a).take (b - a):=by simp only[pc,ByteArray.data_extract,Array.toList_extract,List.extract]
theorem anZ(s:ByteArray)(a p k:Nat)(h:a<=p)(hk:p+k<=s.size):pc s (a,p+k)=pc s (a,p)++(s.data.toList.drop p).take k:=by
 rw[SQ,SQ];have e:s.data.toList.drop p=(s.data.toList.drop a).drop (p - a):=by rw[z3k];congr 1;omega
 rw[e,show p+k - a=(p - a)+k by omega]
 exact List.take_add
theorem zk(s:ByteArray):∀ (f pos:Nat) (st:Option Nat) (acc:List (Nat×Nat)),s.size<=pos+f->pos<=s.size->(∀ a,st=some a->a<pos)->
  (z2l s (z3p (λr=>r==32) s f pos st acc)).map (pc s)=acc.map (pc s)++fieldsB (s.data.toList.drop pos) (FP s st pos)
 |f,pos,st,acc,hf,hp,hst=>by
  have hlen:s.data.toList.length=s.size:=by simp
  by_cases hlt:pos<s.size
  ·cases f with
   |zero=>omega
   |succ f=>
    obtain⟨d1,d2,d3,d4⟩:=abt s pos hlt;generalize hr:(Utf8.decode s pos).1=R at d1 d2;generalize hk:(Utf8.decode s pos).2=K at d1 d2 d3 d4;simp only[z3p,hlt,if_true,hr,hk];by_cases h32:R=32
    ·obtain⟨e1,e2⟩:=d1 h32;subst e2;have hd:s.data.toList.drop pos=32::s.data.toList.drop (pos+1):=by
      have hl:pos<s.data.toList.length:=by omega
      rw[z18 hl]
      congr 1
      rw[z07 hl] at e1;exact z1v e1
     rw[if_pos (by simpa using h32)]
     cases st with
     |none=>
      simp only;rw[zk s f (pos+1) none acc (by omega) (by omega) (λa h=>by cases h),hd,fieldsB,if_pos rfl]
      simp[FP,GX]
     |some a=>
      simp only;have ha:=hst a rfl;rw[zk s f (pos+1) none (acc++[(a,pos)]) (by omega) (by omega) (λa h=>by cases h),hd,fieldsB,if_pos rfl]
      have hne:pc s (a,pos)≠[]:=by intro h;have:=congrArg z2d h;rw[SQ,z0f,z1w,z0w] at this;omega
      simp[FP,GX,hne]
    ·have hn:=d2 h32;rw[if_neg (by simpa using h32)]
     have skip:∀ cur,fieldsB (s.data.toList.drop pos) cur=fieldsB (s.data.toList.drop (pos+K)) (cur++(s.data.toList.drop pos).take K):=by intro cur;rw[Dy K _ _ (by rw[z1w];omega) (λj hj=>by rw[List.getElem?_drop];exact hn j hj),z3k]
     rw[skip];cases st with
     |none=>
      simp only;rw[zk s f (pos+K) (some pos) acc (by omega) (by omega) (λa h=>by cases h;omega)]
      congr 2
      simp only[FP,z0a];rw[SQ,Nat.add_sub_cancel_left]
     |some a=>
      simp only;have ha:=hst a rfl;rw[zk s f (pos+K) (some a) acc (by omega) (by omega) (λb h=>by cases h;omega)]
      congr 2
      simp only[FP];exact anZ s a pos K (by omega) (by omega)
  ·obtain rfl:pos=s.size:=by omega
   rw[Lib.spansFromP_end _ s f _ _ _ hlt];have hd:s.data.toList.drop s.size=[]:=z1d (by rw[hlen];exact z03 _)
   rw[hd,fieldsB];cases st with
   |none=>simp[z2l,FP,GX]
   |some a=>
    have ha:=hst a rfl;have hne:pc s (a,s.size)≠[]:=by intro h;have:=congrArg z2d h;rw[SQ,z0f,z1w,z0w] at this;omega
    simp[z2l,FP,GX,hne]
 termination_by f=>f
theorem BI(s:By):bV s=fieldsB s []:=by
 have h:=zk ⟨s.toArray⟩ (⟨s.toArray⟩:ByteArray).size 0 none [] (by omega) (z2e _) (λa h=>by cases h)
 simp only[z1c,z0a,FP,z3j] at h;rw[<- show(⟨s.toArray⟩:ByteArray).data.toList=s from rfl,<- h,bV,z1q,z1s]
 rfl
theorem VL(s:By):bV s=WJ s:=by rw[BI,abr]
theorem zl:∀ (l cur:By),(fieldsB l cur).length<=l.length+1
 |[],cur=>by unfold fieldsB GX;split<;>simp
 |b::l,cur=>by
  unfold fieldsB;split
  ·have:=zl l [];unfold GX;split<;>simp<;>omega
  ·have:=zl l (cur++[b]);simp;omega
theorem zn:∀ (l cur:By) (w:By),w∈fieldsB l cur->w≠[]/\w.length<=cur.length+l.length
 |[],cur,w,h=>by
  unfold fieldsB GX at h;split at h
  ·cases h
  ·rename_i hc;obtain rfl:=z0o.1 h;exact⟨hc,by simp⟩
 |b::l,cur,w,h=>by
  unfold fieldsB at h;split at h
  ·rcases z1e.1 h with h|h
   ·unfold GX at h;split at h
    ·cases h
    ·rename_i hc;obtain rfl:=z0o.1 h;exact⟨hc,by simp⟩
   ·have:=zn l [] w h;exact⟨this.1,by simp at this ⊢;omega⟩
  ·have:=zn l _ w h;exact⟨this.1,by simp at this ⊢;omega⟩
theorem yK(s:By):(bV s).length<=s.length+1:=by rw[BI];exact zl s []
theorem uh{s w:By}(h:w∈bV s):w≠[]/\w.length<=s.length:=by rw[BI] at h;have:=zn s [] w h;exact⟨this.1,by simpa using this.2⟩
end Go.Proofs.YtgnaipcjbmhihaaGreatDoor.Dk
namespace Go.Proofs.YtgnaipcjbmhihaaGreatDoor.Dk
open D Tx
def j10:JC:=(qN (qI 2 []<|.nil) (.seq (qN (o7 3 0<|qA 4 3 10<|.nil) (qO 4 (qN (o7 5 0<|qo 6 (.ar .add (I 48) (.t 5))<|oM 7 46 6<|o7 2 7<|.nil) .ret) .skip)) (qN (qL [0]<|o7 8 0<|qo 9 (.ar .quo (.t 8) (I 10))<|oM 10 10 9<|o7 11 0<|qo 12 (.ar .rem (.t 11) (I 10))<|qo 13 (.ar .add (I 48) (.t 12))<|qL [13,10]<|oM 14 46 13<|qo 15 (.cat (.t 10) (.t 14))<|o7 2 15<|.nil) .ret)))
def Gdn(N:Nat):Sx.FH:=FH.rd 46 (.one .int) (.one .str) (λy=>0<=y.1/\y.1<256) (λy=>[UInt8.ofNat y.1.toNat])<|
 FH.rd 10 (.one .int) (.one .str) (λy=>0<=y.1/\y.1<N) (λy=>z01 y.1.toNat) FH.none
theorem awM(N:Nat)(f:FuncId)(a:List SV)(m:List ay):Gdn N f a m=(FH.rd 46 (.one .int) (.one .str) (λy=>0<=y.1/\y.1<256) (λy=>[UInt8.ofNat y.1.toNat])<|
 FH.rd 10 (.one .int) (.one .str) (λy=>0<=y.1/\y.1<N) (λy=>z01 y.1.toNat) FH.none) f a m:=nr rfl
theorem aap{n:Nat}(h:¬ n<10):z01 n=z01 (n/10)++[UInt8.ofNat (48+n%10)]:=by rw[z01,dif_neg h]
theorem OQ:∀ n:Nat,10^(z0v n - 1)<=n\/z0v n=1
 |n=>by
  by_cases h:n<10
  ·exact .inr (Lib.nDigits_small h)
  ·rw[Lib.nDigits_big h];left;rcases OQ (n/10) with ih|ih
   ·have hp:=Lib.nDigits_pos (n/10);obtain⟨k,hk⟩:∃ k,z0v (n/10)=k+1:=⟨z0v (n/10) - 1,by omega⟩
    rw[hk] at ih ⊢;simp only[z2t] at ih ⊢;rw[z2p];omega
   ·rw[ih];simp;omega
theorem aeB{n:Nat}(h:n<18446744073709551616):(z01 n).length<=9223372036854775806:=by
 rw[Lib.decDigits_length];have h1:10^(z0v n - 1)<=n\/z0v n=1:=OQ n;rcases h1 with h1|h1
 ·have:10^(z0v n - 1)<10^20:=Nat.lt_of_le_of_lt h1 (by omega)
  have:=(Nat.pow_lt_pow_iff_right (by decide:1<10)).1 this
  omega
 ·omega
theorem Nw:∀ (N:Nat) (n:Int),0<=n->n<N->n<4611686018427387904->FnOK Tryz.prog 10 [.int .i64 n] [] (.str (z01 n.toNat)) []
 |0,n,h0,h1,_=>by omega
 |N+1,n,h0,h1,h2=>by
  have ih:=Nw N;have hG:aW Tryz.prog (Gdn (if N<4611686018427387904 then N else 4611686018427387904)):=FH.aT (λy h=>arI y.1 h.1 h.2)<|FH.aT (λy h=>ih y.1 h.1 (by have:=h.2;split at this<;>omega) (by have:=h.2;split at this<;>omega)) FH.none_ok
  refine fn_walkA j10 [.tmp 2] 16 hG rfl ?_;unfold j10;simp only[go_sem,seval,awM];refine⟨λh=> ?_,λh=> ?_⟩
  ·have hw:z04.wrap (48+n)=48+n:=aY;rw[hw];have hd:z01 n.toNat=[UInt8.ofNat (48+n.toNat)]:=z3d (by omega)
   rw[hd];refine⟨⟨by omega,by omega⟩,?_⟩
   rw[show(48+n).toNat=48+n.toNat by omega]
  ·have e1:n.tdiv 10=n/10:=Int.tdiv_eq_ediv_of_nonneg h0;have e2:n.tmod 10=n%10:=Int.tmod_eq_emod_of_nonneg h0;have w1:z04.wrap (n/10)=n/10:=aY;have w2:z04.wrap (48+n%10)=48+n%10:=aY;rw[e1,e2,w1,w2];refine⟨⟨by omega,by split<;>omega⟩,⟨by omega,by omega⟩,aeB (by omega),?_⟩
   rw[aap (n:=n.toNat) (by omega),show(n/10).toNat=n.toNat/10 by omega,show(48+n%10).toNat=48+n.toNat%10 by omega]
theorem asA(n:Int)(h0:0<=n)(h1:n<4611686018427387904):FnOK Tryz.prog 10 [.int .i64 n] [] (.str (z01 n.toNat)) []:=Nw (n.toNat+1) n h0 (by omega) h1
def j36:JC:=(qN (qI 2 []<|.nil) (.seq (qN (o7 3 0<|qo 4 (.seq false (.t 3) (.c (.str [])))<|.nil) (qO 4 (qN (qI 2 [45]<|.nil) .ret) .skip)) (qN (o7 5 0<|qo 6 (.ssl (.t 5) (some (I 1)) none)<|o7 2 6<|.nil) .ret)))
def trimB(s:By):By:=if s=[] then[45] else s.drop 1
theorem MS(s:By):FnOK Tryz.prog 36 [.str s] [] (.str (trimB s)) []:=by
 refine fn_walkA j36 [.tmp 2] 7 FH.none_ok rfl ?_;unfold j36;simp only[go_sem,seval];refine⟨λh=>by rw[trimB,if_pos h],λh=> ?_⟩
 have:1<=s.length:=by
  cases s with
  |nil=>exact absurd rfl h
  |cons=>simp
 rw[z0r,trimB,if_neg h];exact⟨⟨this,z03 _⟩,rfl⟩
def asN:JC:=(qN (oO 18 17 16<|.nil) (.seq (qO 18 .skip (.exit 0)) (.seq (.block 1 (qN (oK 19 1 15 17<|o9 20 1 19<|o7 6 20<|.nil) (.seq (qN (qL [6,4,17,16,15,0]<|o7 21 6<|qo 22 (.cmp .lss (.t 21) (.c (.int .u8 48)))<|o7 23 22<|.sc true 26 23 (o7 24 6<|qo 25 (.cmp .gtr (.t 24) (.c (.int .u8 57)))<|.nil) (.t 25)<|.nil) (qM [26,4,6,17,16,15,0] (qO 26 (qN (o8 2 0<|qH 3 false<|.nil) .ret) .skip))) (qM [4,6,17,16,15,0] (.ops<|o7 27 4<|qo 28 (.ar .mul (I 10) (.t 27))<|o7 29 6<|qL [29,28,17,16,15,0]<|qo 30 (.ar .sub (.t 29) (.c (.int .u8 48)))<|qo 31 (.conv .i64 (.t 30))<|qo 32 (.ar .add (.t 28) (.t 31))<|o7 4 32<|.nil))))) (qM [17,16,15,4,0] (.ops<|oJ 33 17 1<|o7 17 33<|.nil)))))
def asO:JC:=(qM [4,0] (qN (o7 34 4<|o7 35 4<|oM 36 10 35<|o7 37 0<|qo 38 (.seq false (.t 36) (.t 37))<|o7 2 34<|o7 3 38<|.nil) .ret))
def j34:JC:=(qN (o8 2 0<|qH 3 false<|.nil) (qN (o8 4 0<|.nil) (.seq (qN (o7 7 0<|qo 8 (.seq false (.t 7) (.c (.str [])))<|o7 9 8<|.sc true 13 9 (o7 10 0<|qo 11 (.lens (.t 10))<|qJ 12 11 9<|.nil) (.t 12)<|.nil) (qM [13,0,4] (qO 13 (qN (o8 2 0<|qH 3 false<|.nil) .ret) .skip))) (qM [0,4] (.seq (qN (o7 14 0<|eo 15 (.mJ .aiw [(.t 14)])<|oP 16 15<|o8 17 0<|.nil) (.block 0 (.loop [16,15,0] [17,4] asN))) asO)))))
def BZ(b:UInt8):Bool:=decide (48<=b.toNat)&&decide (b.toNat<=57)
def sZ(s:By):Nat:=s.foldl (λn b=>10*n+(b.toNat - 48)) 0
theorem asP{a b:Bool}(h:(a||b)=true):a=true\/b=true:=by simpa using h
theorem Ny(l:By)(b:UInt8):sZ (l++[b])=10*sZ l+(b.toNat - 48):=by rw[sZ,z19];rfl
theorem Qo(l:By)(h:l.all BZ=true):sZ l<10^l.length:=by
 suffices H:∀ (k:Nat) (l:By),l.length=k->l.all BZ=true->sZ l<10^l.length from H _ l rfl h
 intro k
 induction k with
 |zero=>intro l hl _;rw[z2m.1 hl];decide
 |succ k ih=>
  intro l hl h;have hne:l≠[]:=by intro e;subst e;cases hl
  rw[<- List.dropLast_concat_getLast hne] at h ⊢;generalize l.getLast hne=b at*;have hk:l.dropLast.length=k:=by rw[List.length_dropLast];omega
  generalize l.dropLast=r at*;rw[z2h,z00] at h;have h1:=ih r hk h.1;have h2:b.toNat<=57:=by have:=h.2;simp only[z0t,z1t,z1a,BZ,z00,decide_eq_true_eq] at this;exact this.2
  rw[Ny,z02,z0q,z2p];omega
def xA(s:By):Int×Bool:=if s=[]\/9<s.length then(0,false) else if s.all BZ then(sZ s,decide (z01 (sZ s)=s)) else(0,false)
def Gnm(f:FuncId)(a:List SV)(m:List ay):Sx.Call:=(FH.rd 10 (.one .int) (.one .str) (λy=>0<=y.1/\y.1<4611686018427387904) (λy=>z01 y.1.toNat) FH.none) f a m
theorem awN:type_of% (nq Gnm.eq_1):=nq Gnm.eq_1
theorem awO:aW Tryz.prog Gnm:=FH.aT (λy h=>asA y.1 h.1 h.2) FH.none_ok
theorem abw(s:By)(hs:s.length<=1000):FnOK Tryz.prog 34 [.str s] [] (.bK [.int .i64 (xA s).1, .bool (xA s).2]) []:=by
 refine fn_walkA j34 [.tmp 2, .tmp 3] 39 awO rfl ?_;unfold j34;simp only[go_sem,seval];refine⟨λh=> ?_,λh=>⟨by omega,?_⟩⟩
 ·have h':s=[]\/9<s.length:=by
   rcases asP h with h|h
   ·exact .inl (of_decide_eq_true h)
   ·exact .inr (by have:=of_decide_eq_true h;omega)
  rw[xA,if_pos h']
 ·have hn:¬ (s=[]\/9<s.length):=by
   rintro(h'|h')
   ·subst h';cases h
   ·rw[decide_eq_true (show(9:Int)< (s.length:Int) by omega),Bool.or_true] at h;cases h
  refine aZ Nat (λi=>[.int .i64 i, .int .i64 (sZ (s.take i))]) (λ_=>[]) (λi=>i<=s.length/\(s.take i).all BZ=true) (λi=>s.length - i) 0 ⟨by omega,rfl⟩ ?_ rfl ?_
  ·simp only[go_sem,seval];rfl
  ·intro i hi;obtain⟨hi1,hi2⟩:=hi;have hv:=Qo (s.take i) hi2;have hl:(s.take i).length<=9:=by rw[z0f];omega
   have hv9:sZ (s.take i)<1000000000:=z15 hv (z0u (by decide) hl)
   unfold asN;simp only[go_sem,seval];refine⟨λh1=>⟨⟨by omega,by omega⟩,λh2=> ?_,λh2=> ?_⟩,λh1=> ?_⟩
   ·have hil:i<s.length:=by omega
    have:s.all BZ=false:=by
     rw[<- z2c,List.all_eq_true];intro hall;have:=hall (s.getD i 0) (by rw[z0c,z07 hil];exact z1y hil)
     rw[BZ,z00] at this;have a1:=of_decide_eq_true this.1;have a2:=of_decide_eq_true this.2;rcases asP h2 with h|h
     ·have:=of_decide_eq_true h;omega
     ·have:=of_decide_eq_true h;omega
    rw[xA,if_neg hn,this];rfl
   ·have hil:i<s.length:=by omega
    have hd:48<=(s.getD i 0).toNat/\(s.getD i 0).toNat<=57:=by simp only[z0b,decide_eq_false_iff_not] at h2;omega
    have ht:s.take (i+1)=s.take i++[s.getD i 0]:=by rw[z2u,z07 hil,z0c,z07 hil];rfl
    have hvs:sZ (s.take (i+1))=10*sZ (s.take i)+((s.getD i 0).toNat - 48):=by rw[ht,sZ,z19];rfl
    generalize hb:(s.getD i 0).toNat=b at*;have w1:z3s.wrap ((b:Int) - 48)=(b:Int) - 48:=by simp only[z3g,z3h,z2y];simp;omega
    have w2:z04.wrap ((b:Int) - 48)=(b:Int) - 48:=aY;have w3:z04.wrap (10*(sZ (s.take i):Int))=10*(sZ (s.take i):Int):=aY;have w4:z04.wrap (10*(sZ (s.take i):Int)+((b:Int) - 48))=10*(sZ (s.take i):Int)+((b:Int) - 48):=aY;refine⟨i+1,⟨by omega,?_⟩,by omega,aY,?_⟩
    ·rw[ht,z2h,hi2];simp only[z0t,z1t,z1a,z1p,BZ,hb];rw[decide_eq_true hd.1,decide_eq_true hd.2];rfl
    ·rw[w1,w2,w3,w4,hvs];omega
   ·obtain rfl:i=s.length:=by omega
    rw[z0r] at hi2 hv9 ⊢;unfold asO;simp only[go_sem,seval,awN];refine⟨by omega,?_⟩
    rw[xA,if_neg hn,if_pos hi2]
theorem Aw{n:Nat}(h:n<10):(UInt8.ofNat (48+n)).toNat=48+n:=by simp only[UInt8.toNat_ofNat'];omega
theorem aaq:∀ n:Nat,sZ (z01 n)=n/\(z01 n).all BZ=true/\z01 n≠[]
 |n=>by
  by_cases h:n<10
  ·rw[z3d h];refine⟨?_,?_,by simp⟩
   ·show 10*0+((UInt8.ofNat (48+n)).toNat - 48)=n;rw[Aw h];omega
   ·simp only[z0t,z1t,z1a,BZ,Aw h];rw[decide_eq_true (show 48<=48+n by omega),decide_eq_true (show 48+n<=57 by omega)];rfl
  ·obtain⟨h1,h2,h3⟩:=aaq (n/10);rw[aap h];have hm:n%10<10:=Nat.mod_lt _ (by decide)
   refine⟨?_,?_,by simp⟩
   ·rw[Ny,h1,Aw hm];omega
   ·rw[z2h,h2];simp only[z0t,z1t,z1a,z1p,BZ,Aw hm];rw[decide_eq_true (show 48<=48+n%10 by omega),decide_eq_true (show 48+n%10<=57 by omega)];rfl
theorem Nz:∀ (l:By) (acc k:Nat),l.all BZ=true->acc<10^k->k+l.length<=18->z3m acc l= .ok (l.foldl (λn b=>10*n+(b.toNat - 48)) acc)
 |[],acc,k,_,_,_=>rfl
 |c::r,acc,k,h,ha,hk=>by
  simp only[z0t,z00,BZ,decide_eq_true_eq] at h;obtain⟨⟨h1,h2⟩,h3⟩:=h;have hk':k+1+r.length<=18:=by simpa[z0d,Nat.add_comm 1] using hk
  have hb:10^(k+1)<=10^18:=z0u (by decide) (by omega)
  have hp:10^(k+1)=10^k*10:=z2p 10 k;have hacc:acc*10+(c.toNat - 48)<10^(k+1):=by omega
  simp only[z3m];rw[if_pos ⟨h1,h2⟩,if_neg (by omega),if_neg (by omega),Nz r _ (k+1) h3 hacc (by omega),z2g,Nat.mul_comm]
theorem alq{w:By}(h:w.all BZ=true)(hne:w≠[])(hl:w.length<=9):z1l w= .ok (sZ w:Int):=by
 have hv:=Qo w h;have hv9:sZ w<1000000000:=z15 hv (z0u (by decide) hl)
 cases w with
 |nil=>exact absurd rfl hne
 |cons c r=>
  have h':=h;simp only[z0t,z00,BZ,decide_eq_true_eq] at h';rw[Lib.atoiAll_plain c r (by omega) (by omega)]
  have hp:Lib.parseMag (c::r)= .ok (sZ (c::r)):=by
   unfold Lib.parseMag;rw[if_neg hne,Nz (c::r) 0 0 h (by decide) (by omega)]
   rfl
  rw[hp];simp only[Lib.signless];rw[if_neg (by omega)]
theorem Ho{w:By}(h:(xA w).2=true):mQ w=(xA w).1/\nI w= .iP/\z3r (xA w).1=w/\0<=(xA w).1/\(xA w).1<1000000000/\w.length<=9:=by
 unfold xA at h ⊢;split at h
 ·cases h
 ·rename_i hn;have hne:w≠[]:=λe=>hn (.inl e);have hl:w.length<=9:=by
   rcases z2q 9 w.length with h|h
   ·exact absurd (.inr h) hn
   ·exact h
  rw[if_neg hn];split at h
  ·rename_i ha;rw[if_pos ha];have hd:=of_decide_eq_true h;have hv9:sZ w<1000000000:=z15 (Qo w ha) (z0u (by decide) hl)
   have hat:=alq ha hne hl;refine⟨by simp only[mQ,hat],by simp only[nI,hat],?_,by show(0:Int)<=(sZ w:Int);omega,by show(sZ w:Int)<1000000000;omega,hl⟩
   rw[z2i];exact hd
  ·cases h
theorem awP{w:By}(h:(xA w).2=false)(hne:w≠[])(he:nI w= .iP)(hi:z3r (mQ w)=w)(h0:0<=mQ w):9<w.length:=by
 rcases z2q 9 w.length with hl|hl
 ·exact hl
 ·exfalso;have hk:mQ w=((mQ w).toNat:Nat):=by omega
  rw[hk,z2i] at hi;obtain⟨v1,v2,v3⟩:=aaq (mQ w).toNat;rw[hi] at v1 v2;unfold xA at h;rw[if_neg (by rintro(h|h);exact hne h;omega),if_pos v2] at h
  simp only[decide_eq_false_iff_not] at h;rw[v1] at h;exact h hi
theorem Qp{w:By}(he:nI w= .iP): -9223372036854775808<=mQ w/\mQ w<=9223372036854775807:=by
 cases h:z1l w with
 |ok v=>simp only[mQ,h];exact Lib.atoiAll_bounds h
 |range=>simp only[nI,h] at he;cases he
 |_=>simp only[nI,h] at he;cases he
theorem UJ(w:By):nI w= .iP\/nI w= .iface 179 .junk:=by
 unfold nI;split
 ·exact .inl rfl
 ·exact .inr rfl
end Go.Proofs.YtgnaipcjbmhihaaGreatDoor.Dk
namespace Go.Proofs.YtgnaipcjbmhihaaGreatDoor.Ps
open D
def rowP(p:Nat->Nat->Bool)(i:Nat):Nat->List Pr
 |0=>[]
 |j+1=>rowP p i j++if p i j then[⟨i,j⟩] else[]
def fD(p:Nat->Nat->Bool)(n:Nat):Nat->List Pr
 |0=>[]
 |i+1=>fD p n i++rowP p i n
theorem yS(p:Nat->Nat->Bool)(i:Nat):∀ j,(rowP p i j).length<=j
 |0=>z03 _
 |j+1=>by have:=yS p i j;simp only[rowP,z02];split<;>simp<;>omega
theorem yR(p:Nat->Nat->Bool)(n:Nat):∀ i,(fD p n i).length<=i*n
 |0=>by simp[fD]
 |i+1=>by have h1:=yR p n i;have h2:=yS p i n;simp only[fD,z02,Nat.add_mul];omega
theorem Ju{p q:Nat->Nat->Bool}{i:Nat}:∀ j,(∀ k,k<j->p i k=q i k)->rowP p i j=rowP q i j
 |0,_=>rfl
 |j+1,h=>by rw[rowP,rowP,Ju j (λk hk=>h k (by omega)),h j (by omega)]
theorem Il{p q:Nat->Nat->Bool}{n:Nat}:∀ i,(∀ a b,a<i->b<n->p a b=q a b)->fD p n i=fD q n i
 |0,_=>rfl
 |i+1,h=>by rw[fD,fD,Il i (λa b ha hb=>h a b (by omega) hb),Ju n (λk hk=>h i k (by omega) hk)]
def yD(p:Nat->Nat->Bool)(i j:Nat):Bool:=decide (i<j)&&p i j
theorem O7(p:Nat->Nat->Bool)(i:Nat):∀ j,j<=i+1->rowP (yD p) i j=[]
 |0,_=>rfl
 |j+1,h=>by
  rw[rowP,O7 p i j (by omega)]
  simp[yD,show ¬ i<j by omega]
def Gq(f:FuncId){κ:Type}(A:DA κ)(y:κ)(n:Nat)(p:Nat->Nat->Bool):FH:=FH.rd f (.cons DT.int (.cons DT.int A)) (.one .bool) (λz=>z.2.2=y/\0<=z.1/\z.1<n/\0<=z.2.1/\z.2.1<n) (λz=>p z.1.toNat z.2.1.toNat) FH.none
theorem ar5(f:FuncId){κ:Type}(A:DA κ)(y:κ)(n:Nat)(p:Nat->Nat->Bool)(hf:iF Tryz.prog f=true)
  (h:∀ i j:Nat,i<n->j<n->FnOK Tryz.prog f (.int .i64 i:: .int .i64 j::A.aA y) [] (.bool (p i j)) []):aW Tryz.prog (Gq f A y n p):=FH.aT (hf:=hf) (λz hz=>by
 obtain⟨a,b,k⟩:=z;obtain⟨h1,h2,h3,h4,h5⟩:=hz;simp only at h1 h2 h3 h4 h5;subst h1;have:=h a.toNat b.toNat (by omega) (by omega)
 have ea:((a.toNat:Nat):Int)=a:=by omega
 have eb:((b.toNat:Nat):Int)=b:=by omega
 rw[ea,eb] at this;exact this) FH.none_ok
theorem ar6(f:FuncId){κ:Type}(A:DA κ)(y:κ)(n:Nat)(p:Nat->Nat->Bool)(g:FuncId)(a:List SV)(m:List ay):Gq f A y n p g a m=(FH.rd f (.cons DT.int (.cons DT.int A)) (.one .bool) (λz=>z.2.2=y/\0<=z.1/\z.1<n/\0<=z.2.1/\z.2.1<n) (λz=>p z.1.toNat z.2.1.toNat) FH.none) g a m:=nr rfl
end Go.Proofs.YtgnaipcjbmhihaaGreatDoor.Ps
namespace Go.Proofs.YtgnaipcjbmhihaaGreatDoor.Od
open D Tr Ps
def j79:JC:=(qN (oV 2 56 0<|oV 3 56 1<|qH 4 false<|.nil) (qN (oD 5 1 1 2<|o9 6 1 5<|oD 7 1 1 3<|o9 8 1 7<|qL [6,8,2,3]<|oZ 9 6 8<|o7 10 9<|.sc true 26 10 (oD 11 0 0 2<|o9 12 1 11<|oH 13 12 4<|o7 14 13<|.sc false 18 14 (oD 15 0 0 3<|o9 16 1 15<|oH 17 16 3<|.nil) (.t 17)<|o7 19 18<|.sc false 25 19 (oD 20 2 2 2<|o9 21 1 20<|oD 22 2 2 3<|o9 23 1 22<|oZ 24 21 23<|.nil) (.t 24)<|.nil) (.t 25)<|qL [26,2,3]<|o7 27 26<|.sc true 38 27 (oD 28 0 0 2<|o9 29 1 28<|oH 30 29 5<|o7 31 30<|.sc false 37 31 (oD 32 1 1 3<|o9 33 1 32<|oD 34 2 2 2<|o9 35 1 34<|oZ 36 33 35<|.nil) (.t 36)<|.nil) (.t 37)<|o7 39 38<|.sc true 50 39 (oD 40 0 0 3<|o9 41 1 40<|oH 42 41 6<|o7 43 42<|.sc false 49 43 (oD 44 1 1 2<|o9 45 1 44<|oD 46 2 2 3<|o9 47 1 46<|oZ 48 45 47<|.nil) (.t 48)<|.nil) (.t 49)<|qL [50,2,3]<|o7 51 50<|.sc true 67 51 (oD 52 0 0 2<|o9 53 1 52<|oH 54 53 8<|o7 55 54<|.sc false 59 55 (oD 56 0 0 3<|o9 57 1 56<|oH 58 57 7<|.nil) (.t 58)<|o7 60 59<|.sc false 66 60 (oD 61 2 2 2<|o9 62 1 61<|oD 63 2 2 3<|o9 64 1 63<|oZ 65 62 64<|.nil) (.t 65)<|.nil) (.t 66)<|o7 68 67<|.sc true 84 68 (oD 69 0 0 2<|o9 70 1 69<|oH 71 70 5<|o7 72 71<|.sc false 76 72 (oD 73 0 0 3<|o9 74 1 73<|oH 75 74 6<|.nil) (.t 75)<|o7 77 76<|.sc false 83 77 (oD 78 2 2 2<|o9 79 1 78<|oD 80 2 2 3<|o9 81 1 80<|oZ 82 79 81<|.nil) (.t 82)<|.nil) (.t 83)<|o7 4 84<|.nil) .ret))
def KR(a b:Ev):Bool:=decide (a.aC=b.aC)||decide (a.kind=4)&&decide (b.kind=3)&&decide (a.obj=b.obj)||decide (a.kind=5)&&decide (a.obj=b.aC)||
 decide (b.kind=6)&&decide (b.obj=a.aC)||decide (a.kind=8)&&decide (b.kind=7)&&decide (a.obj=b.obj)||decide (a.kind=5)&&decide (b.kind=6)&&decide (a.obj=b.obj)
theorem QN(a b:Ev):FnOK Tryz.prog 79 [aO.aA a,aO.aA b] [] (.bool (KR a b)) []:=by refine fn_walkA j79 [.tmp 4] 85 FH.none_ok rfl ?_;unfold j79;simp only[go_sem,seval];unfold KR;rw[show decide (b.aC=a.obj)=decide (a.obj=b.aC) from decide_eq_decide.2 eq_comm,show decide (a.aC=b.obj)=decide (b.obj=a.aC) from decide_eq_decide.2 eq_comm]
def qZ(l:List Ev)(i j:Nat):Bool:=KR (l.getD i aO.aI) (l.getD j aO.aI)
end Go.Proofs.YtgnaipcjbmhihaaGreatDoor.Od
namespace Go.Proofs.YtgnaipcjbmhihaaGreatDoor.Ps
open D
def ahn:JC:=(.seq (qN (o7 15 7<|o7 16 0<|oP 17 16<|oO 18 15 17<|.nil) (qO 18 .skip (.exit 2))) (qM [1,6,7,5,0,10,9] (.seq (.block 3 (qN (o7 21 1<|o7 22 6<|o7 23 7<|eo 24 (.jm (.t 21) [(.t 22),(.t 23)])<|.nil) (qM [24,5,6,7,0,1,10,9] (qO 24 (.ops<|o7 25 5<|o7 26 6<|o7 27 7<|qo 28 (.lF (.agg [(.int .i64 0),(.int .i64 0)]) [([.eG 0],0,1,(.t 26)),([.eG 1],1,1,(.t 27))])<|qL [28,25,7,0,1,6,10,9]<|eo 29 (.qj 131 2 1 (.agg [(.int .i64 0),(.int .i64 0)]) [(0,(.t 28))])<|oW 30 131 2 16 25 29<|o7 5 30<|.nil) .skip)))) (qM [7,0,1,6,5,10,9] (.ops<|o7 19 7<|oJ 20 19 1<|o7 7 20<|.nil)))))
def aho:JC:=(qM [10,9,0,1,5] (.ops<|oJ 31 10 1<|o7 10 31<|.nil))
def ahp:JC:=(qN (oO 11 10 9<|.nil) (.seq (qO 11 .skip (.exit 0)) (.seq (.block 1 (qN (o7 12 10<|o7 6 12<|.nil) (qN (o7 13 6<|oJ 14 13 1<|o7 7 14<|.nil) (qM [7,0,1,6,5,10,9] (.block 2 (.bn 5 131 2 (.loop [0,1,6,10,9] [7,5] ahn))))))) aho)))
def ahq:JC:=(qM [5] (qN (o7 32 5<|o7 4 32<|.nil) (.bn 4 131 2 .ret)))
def j129:JC:=(qN (oU 4<|.nil) (qN (oU 5<|.nil) (.seq (qN (o7 8 0<|oP 9 8<|o8 10 0<|.nil) (.block 0 (.bn 5 131 2 (.loop [9,0,1] [10,5] ahp)))) ahq)))
theorem amJ(f:FuncId){κ:Type}(A:DA κ)(y:κ)(l:List Ev)(p:Nat->Nat->Bool)(hn:l.length<=100)(hf:iF Tryz.prog f=true)
  (h:∀ i j:Nat,i<l.length->j<l.length->FnOK Tryz.prog f (.int .i64 i:: .int .i64 j::A.aA y) [] (.bool (p i j)) []):
  FnOK Tryz.prog 129 [dw.aA l, .fn f (A.aA y)] [] (.vec 0 (fD (yD p) l.length l.length).length) [.vec 131 2 ((fD (yD p) l.length l.length).map jo.aA)]:=by
 refine fn_walkA j129 [.tmp 4] 33 (ar5 f A y l.length p hf h) rfl ?_;unfold j129;simp only[go_sem,seval];refine aZ Nat (λi=>[.int .i64 i, .vec 0 (fD (yD p) l.length i).length]) (λi=>[.vec 131 2 ((fD (yD p) l.length i).map jo.aA)]) (λi=>i<=l.length) (λi=>l.length - i) 0 (by omega) ?_ rfl ?_
 ·simp only[go_sem,seval];rfl
 intro i hi;unfold ahp;simp only[go_sem,seval];have hb1:=yR (yD p) l.length i;have hin:i*l.length<=100*100:=z14 (by omega) hn
 have hw:z04.wrap ((i:Int)+1)=((i+1:Nat):Int):=aY;rw[hw];refine⟨λh1=> ?_,λh1=> ?_⟩
 ·refine aZ Nat (λj=>[.int .i64 j, .vec 0 (fD (yD p) l.length i++rowP (yD p) i j).length]) (λj=>[.vec 131 2 ((fD (yD p) l.length i++rowP (yD p) i j).map jo.aA)]) (λj=>i+1<=j/\j<=l.length) (λj=>l.length - j) (i+1) (by omega) ?_ ?_ ?_
  ·simp only[go_sem,seval];simp[O7 p i (i+1) (z03 _)]
  ·simp[O7 p i (i+1) (z03 _)]
  intro j hj;unfold ahn;simp only[go_sem,seval,ar6];have hb2:=yS (yD p) i j;have hu:yD p i j=p i j:=by simp[yD,show i<j by omega]
  refine⟨λh2=>⟨by omega,λh3=>⟨by simp only[z02,z06];omega,j+1,by omega,by omega,⟨aY,?_⟩,?_⟩,λh3=>⟨j+1,by omega,by omega,⟨aY,?_⟩,?_⟩⟩,λh2=> ?_⟩
  ·simp[rowP,hu,h3,z0d]
  ·simp[rowP,hu,h3,ED]
  ·simp[rowP,hu,h3]
  ·simp[rowP,hu,h3]
  ·have e:j=l.length:=by omega
   subst e;unfold aho;simp only[go_sem,seval];exact⟨i+1,by omega,by omega,⟨hw,rfl⟩,by rw[fD,z08]⟩
 ·have e:i=l.length:=by omega
  subst e;unfold ahq;simp only[go_sem,seval]
end Go.Proofs.YtgnaipcjbmhihaaGreatDoor.Ps
namespace Go.Proofs.YtgnaipcjbmhihaaGreatDoor.Ps
open D
def ar0:JC:=(qN (oO 14 13 12<|.nil) (.seq (qO 14 .skip (.exit 2)) (.seq (.block 3 (qN (o7 15 13<|o7 7 15<|.nil) (qM [1,6,7,5,13,12,9,8,0] (qN (o7 16 1<|o7 17 6<|o7 18 7<|eo 19 (.jm (.t 16) [(.t 17),(.t 18)])<|.nil) (qM [19,5,6,7,13,12,1,9,8,0] (qO 19 (.ops<|o7 20 5<|o7 21 6<|o7 22 7<|qL [21,22,20,13,12,1,6,9,8,0]<|qo 23 (.lF (.agg [(.int .i64 0),(.int .i64 0)]) [([.eG 0],0,1,(.t 21)),([.eG 1],1,1,(.t 22))])<|eo 24 (.qj 131 2 1 (.agg [(.int .i64 0),(.int .i64 0)]) [(0,(.t 23))])<|oW 25 131 2 16 20 24<|o7 5 25<|.nil) .skip)))))) (qM [13,12,1,6,5,9,8,0] (.ops<|oJ 26 13 1<|o7 13 26<|.nil)))))
def ar1:JC:=(qM [9,8,0,1,5] (.ops<|oJ 27 9 1<|o7 9 27<|.nil))
def ar2:JC:=(qN (oO 10 9 8<|.nil) (.seq (qO 10 .skip (.exit 0)) (.seq (.block 1 (qN (o7 11 9<|o7 6 11<|.nil) (qN (o7 12 0<|o8 13 0<|.nil) (qM [13,12,1,6,5,9,8,0] (.block 2 (.bn 5 131 2 (.loop [12,1,6,9,8,0] [13,5] ar0))))))) ar1)))
def ar4:JC:=(qM [5] (qN (o7 28 5<|o7 4 28<|.nil) (.bn 4 131 2 .ret)))
def j83:JC:=(qN (oU 4<|.nil) (qN (oU 5<|.nil) (.seq (qN (o7 8 0<|o8 9 0<|.nil) (.block 0 (.bn 5 131 2 (.loop [8,0,1] [9,5] ar2)))) ar4)))
theorem aaY(f:FuncId){κ:Type}(A:DA κ)(y:κ)(n:Nat)(p:Nat->Nat->Bool)(hn:n<=100)(hf:iF Tryz.prog f=true)
  (h:∀ i j:Nat,i<n->j<n->FnOK Tryz.prog f (.int .i64 i:: .int .i64 j::A.aA y) [] (.bool (p i j)) []):
  FnOK Tryz.prog 83 [.int .i64 n, .fn f (A.aA y)] [] (.vec 0 (fD p n n).length) [.vec 131 2 ((fD p n n).map jo.aA)]:=by
 refine fn_walkA j83 [.tmp 4] 29 (ar5 f A y n p hf h) rfl ?_;unfold j83;simp only[go_sem,seval];refine aZ Nat (λi=>[.int .i64 i, .vec 0 (fD p n i).length]) (λi=>[.vec 131 2 ((fD p n i).map jo.aA)]) (λi=>i<=n) (λi=>n - i) 0 (by omega) ?_ rfl ?_
 ·simp only[go_sem,seval];rfl
 intro i hi;unfold ar2;simp only[go_sem,seval];have hb1:=yR p n i;have hin:i*n<=100*100:=z14 (by omega) hn
 refine⟨λh1=> ?_,λh1=> ?_⟩
 ·refine aZ Nat (λj=>[.int .i64 j, .vec 0 (fD p n i++rowP p i j).length]) (λj=>[.vec 131 2 ((fD p n i++rowP p i j).map jo.aA)]) (λj=>j<=n) (λj=>n - j) 0 (by omega) ?_ ?_ ?_
  ·simp only[go_sem,seval];simp[rowP]
  ·simp[rowP]
  intro j hj;unfold ar0;simp only[go_sem,seval,ar6];have hb2:=yS p i j;refine⟨λh2=>⟨by omega,λh3=>⟨by simp only[z02,z06];omega,j+1,by omega,by omega,⟨aY,?_⟩,?_⟩,λh3=>⟨j+1,by omega,by omega,⟨aY,?_⟩,?_⟩⟩,λh2=> ?_⟩
  ·simp[rowP,h3,z0d]
  ·simp[rowP,h3,ED]
  ·simp[rowP,h3]
  ·simp[rowP,h3]
  ·have e:j=n:=by omega
   subst e;unfold ar1;simp only[go_sem,seval];exact⟨i+1,by omega,by omega,⟨aY,rfl⟩,by rw[fD,z08]⟩
 ·have e:i=n:=by omega
  subst e;unfold ar4;simp only[go_sem,seval]
end Go.Proofs.YtgnaipcjbmhihaaGreatDoor.Ps
section
section
set_option maxRecDepth 100000
open Go Go.Sx Go.Proofs
namespace Go.Proofs.YtgnaipcjbmhihaaGreatDoor.Od
open D Tr Ps
def j138:JC:=(qN (oV 2 56 0<|oV 3 56 1<|qH 4 false<|.nil) (qN (oD 6 0 0 2<|o9 7 1 6<|oH 8 7 4<|o7 9 8<|qL [9,3,2]<|.sc false 13 9 (oD 10 0 0 3<|o9 11 1 10<|oH 12 11 3<|.nil) (.t 12)<|o7 14 13<|.sc true 23 14 (oD 15 0 0 2<|o9 16 1 15<|oH 17 16 8<|o7 18 17<|.sc false 22 18 (oD 19 0 0 3<|o9 20 1 19<|oH 21 20 7<|.nil) (.t 21)<|.nil) (.t 22)<|o7 24 23<|qL [24,2,3]<|.sc true 33 24 (oD 25 0 0 2<|o9 26 1 25<|oH 27 26 5<|o7 28 27<|.sc false 32 28 (oD 29 0 0 3<|o9 30 1 29<|oH 31 30 6<|.nil) (.t 31)<|.nil) (.t 32)<|o7 5 33<|.nil) (qM [2,3,5] (.seq (.block 0 (.seq (qN (oD 35 1 1 2<|o9 36 1 35<|oD 37 1 1 3<|o9 38 1 37<|oZ 39 36 38<|o7 34 39<|.nil) (qO 34 .skip (.ops<|qL [5,2,3]<|o7 40 5<|o7 41 40<|.sc false 47 41 (oD 42 2 2 2<|o9 43 1 42<|oD 44 2 2 3<|o9 45 1 44<|oZ 46 43 45<|.nil) (.t 46)<|o7 34 47<|.nil))) (qM [34,2,3] (qO 34 (qN (qH 4 true<|.nil) .ret) .skip)))) (qM [2,3] (qN (oD 48 0 0 2<|o9 49 1 48<|oH 50 49 5<|o7 51 50<|.sc false 57 51 (oD 52 2 2 2<|o9 53 1 52<|oD 54 1 1 3<|o9 55 1 54<|oZ 56 53 55<|.nil) (.t 56)<|qL [57,3,2]<|o7 58 57<|.sc true 69 58 (oD 59 0 0 3<|o9 60 1 59<|oH 61 60 6<|o7 62 61<|.sc false 68 62 (oD 63 2 2 3<|o9 64 1 63<|oD 65 1 1 2<|o9 66 1 65<|oZ 67 64 66<|.nil) (.t 67)<|.nil) (.t 68)<|o7 4 69<|.nil) .ret))))))
theorem amW:∀ t k4 k3 o k5 ot k6 ot' k8 k7:Bool,(t||k4&&k3&&o||k5&&ot||k6&&ot'||k8&&k7&&o||k5&&k6&&o)=
  (t||(k4&&k3||k8&&k7||k5&&k6)&&o||(k5&&ot||k6&&ot')):=by decide
theorem VP(a b:Ev):FnOK Tryz.prog 138 [aO.aA a,aO.aA b] [] (.bool (KR a b)) []:=by refine fn_walkA j138 [.tmp 4] 70 FH.none_ok rfl ?_;unfold j138;simp only[go_sem,seval];unfold KR;rw[amW];refine⟨λh1=>⟨λ_=>by simp[h1],λh=>absurd h1 h⟩,λh1=>⟨λh2=>by rw[h2];simp,λh2=>by rw[h2];simp[h1]⟩⟩
def Gd1(f:FuncId)(a:List SV)(m:List ay):Sx.Call:=(FH.rd 138 (.two aO aO) (.one .bool) (λ_=>True) (λy=>KR y.1 y.2.1) FH.none) f a m
theorem atf:type_of% (nq Gd1.eq_1):=nq Gd1.eq_1
theorem atg:aW Tryz.prog Gd1:=FH.aT (λy _=>VP y.1 y.2.1) FH.none_ok
def N9(l:List Ev)(p:Nat->Nat->Bool):List Pr:=fD (yD p) l.length l.length
def tZ(l:List Ev)(p:Nat->Nat->Bool):List Pr:=if (aK l).2.2=0 then N9 l p else[]
end Go.Proofs.YtgnaipcjbmhihaaGreatDoor.Od
end
section
set_option maxRecDepth 100000
open Go Go.Sx Go.Proofs
namespace Go.Proofs.YtgnaipcjbmhihaaGreatDoor.Od
open D Tr Ps
end Go.Proofs.YtgnaipcjbmhihaaGreatDoor.Od
end
end
section
section
set_option maxRecDepth 100000
open Go Go.Sx Go.Proofs
namespace Go.Proofs.YtgnaipcjbmhihaaGreatDoor.Ah
open D Tr Ps Od
def mm(T U:TypeId)(n r:Nat)(M:Nat->Nat->Bool):List ay:=
 .vec T 1 (tb n λk=>if k<r then .vec (k+1) n else .bF)::tb r λa=> .vec U 1 (tb n λb=> .bool (M a b))
def Dl(M:Nat->Nat->Bool)(a b:Nat)(v:Bool):Nat->Nat->Bool:=λa' b'=>if a'=a/\b'=b then v else M a' b'
section
variable {T U:TypeId} {n r:Nat} {M M':Nat->Nat->Bool}
theorem BA:(mm T U n r M).length=r+1:=by simp[mm,jI]
theorem V7:ah (mm T U n r M) 0= .vec T 1 (tb n λk=>if k<r then .vec (k+1) n else .bF):=rfl
theorem RN{a:Nat}(h:a<r):ah (mm T U n r M) (a+1)= .vec U 1 (tb n λb=> .bool (M a b)):=I5 (f:=λa=>ay.vec U 1 (tb n λb=> .bool (M a b))) h
theorem agq{a b:Nat}{v:Bool}:(mm T U n r M).set (a+1) (.vec U 1 ((tb n λb=> .bool (M a b)).set b (.bool v)))=mm T U n r (Dl M a b v):=by
 simp only[mm,z0z,I7]
 congr 1
 refine bZ λi hi=> ?_;by_cases e:i=a
 ·subst e;simp only[if_true]
  congr 1
  refine bZ λj hj=> ?_;by_cases e:j=b
  ·simp[Dl,e]
  ·simp[Dl,e]
 ·simp[Dl,e]
theorem Dn{k:Nat}(hk:k=r+1):(List.take k (mm T U n r M)).map (dM (ug k))=mm T U n r M:=by
 subst hk;have h1:(mm T U n r M).take (r+1)=mm T U n r M:=z1b (by rw[BA];exact z03 _)
 rw[h1];simp only[mm,z0s,uH,dM,Hl]
 congr 1
 ·congr 1
  refine bZ λi hi=> ?_;split
  ·rename_i h;simp[ren,kS,ug,h]
  ·rfl
theorem mO(h:∀ a b,a<r->b<n->M a b=M' a b):mm T U n r M=mm T U n r M':=by
 simp only[mm]
 congr 1
 refine bZ λi hi=> ?_
 congr 1
 exact bZ λj hj=>by rw[h i j hi hj]
theorem V8(x:List ay):ah (mm T U n r M++x) 0= .vec T 1 (tb n λk=>if k<r then .vec (k+1) n else .bF):=rfl
theorem V9{a:Nat}(h:a<n)(h2:a<r):(tb n λk=>if k<r then SV.vec (k+1) n else SV.bF).getD a .junk= .vec (a+1) n:=by rw[fO h,if_pos h2]
theorem ank{a:Nat}(h:a<n)(h2:r<=a):(tb n λk=>if k<r then SV.vec (k+1) n else SV.bF).getD a .junk= .bF:=by rw[fO h,if_neg (by omega)]
theorem anl:(mm T U n r M++[ay.vec U 1 (z1k n (SV.bool false))]).set 0 (.vec T 1 ((tb n λk=>if k<r then SV.vec (k+1) n else SV.bF).set r (.vec (r+1) n)))=mm T U n (r+1) (λa b=>if a<r then M a b else false):=by
 simp only[mm,z1z,z0y,I7,mP,CO,Nat.lt_irrefl,if_false]
 congr 1
 ·congr 1
  refine bZ λi hi=> ?_;by_cases e:i=r
  ·subst e;simp
  ·by_cases e2:i<r
   ·simp[e,e2,show i<r+1 by omega]
   ·simp[e,e2,show ¬ i<r+1 by omega]
 ·congr 1
  exact bZ λi hi=>by simp[hi]
theorem anm:allL (tb n λk=>if k<n then SV.vec (k+1) n else SV.bF) λy=>(DT.list 1 DT.bool).decP (mm T U n n M) y:=by
 intro y hy;obtain⟨i,hi,rfl⟩:=z1m hy;rw[jI] at hi;have e:(tb n λk=>if k<n then SV.vec (k+1) n else SV.bF)[i]'(by rw[jI];exact hi)= .vec (i+1) n:=by
  have:=nZ (f:=λk=>if k<n then SV.vec (k+1) n else SV.bF) (n:=n) i
  rw[if_pos hi,if_pos hi] at this;exact(z0i.1 this).2
 rw[e,kT,RN hi];refine⟨rfl,?_⟩;rw[RP,CP];intro y _;trivial
theorem ano:(tb n λk=>if k<n then SV.vec (k+1) n else SV.bF).map (λy=>(DT.list 1 DT.bool).aG (mm T U n n M) y)=tb n λa=>tb n λb=>M a b:=by rw[uH];refine bZ λi hi=> ?_;rw[if_pos hi,kU,RN hi];simp only[uH];exact bZ λj hj=>rfl
theorem agr:[ay.vec T 1 (z1k n .bF)]=mm T U n 0 M:=by simp[mm,mP,ZB]
end
def ags:JC:=(.seq (qN (o7 25 5<|o7 26 0<|oP 27 26<|oO 28 25 27<|.nil) (qO 28 .skip (.exit 2))) (qM [3,4,5,0,14,13] (.seq (.block 3 (.bJ<|o7 31 3<|o7 32 4<|oK 33 1 31 32<|o9 34 1 33<|qL [5,0,4,34,3,14,13]<|o7 35 5<|o7 36 0<|o7 37 4<|oK 38 3 36 37<|oC 39 3 38<|qL [0,5,39,34,35,3,4,14,13]<|o7 40 0<|o7 41 5<|oK 42 3 40 41<|oC 43 3 42<|qL [39,43,34,35,5,0,3,4,14,13]<|qG 44 79 39 43<|oK 45 1 34 35<|oG 1 45 44<|.nil)) (qM [5,0,3,4,14,13] (.ops<|o7 29 5<|oJ 30 29 1<|o7 5 30<|.nil)))))
def arB:JC:=(qM [14,13,3,0] (.ops<|oJ 46 14 1<|o7 14 46<|.nil))
def agt:JC:=(qN (oO 15 14 13<|.nil) (.seq (qO 15 .skip (.exit 0)) (.seq (.block 1 (qN (o7 16 14<|o7 4 16<|.nil) (qN (o7 17 3<|o7 18 4<|o7 19 0<|oP 20 19<|eo 21 (.mks 4 1 1 (.bool false) (.t 20) (.t 20))<|oK 22 1 17 18<|oG 1 22 21<|.nil) (qM [4,0,3,14,13] (qN (o7 23 4<|oJ 24 23 1<|o7 5 24<|.nil) (.block 2 (.loop [0,3,4,14,13] [5] ags))))))) arB)))
def agu:JC:=(qN (oO 60 59 58<|.nil) (qM [60,59,3,7,6,58,54,53,0,49,48] (.seq (qO 60 .skip (.exit 8)) (qM [59,3,7,6,58,54,53,0,49,48] (.seq (.block 9 (qN (o7 61 59<|o7 8 61<|.nil) (qM [3,7,8,6,59,58,54,53,0,49,48] (.bJ<|o7 62 3<|o7 63 7<|oK 64 1 62 63<|o9 65 1 64<|qL [8,3,7,6,65,59,58,54,53,0,49,48]<|o7 66 8<|o7 67 3<|o7 68 7<|oK 69 1 67 68<|o9 70 1 69<|qL [8,70,3,7,6,65,66,59,58,54,53,0,49,48]<|o7 71 8<|oK 72 1 70 71<|o9 73 1 72<|qL [73,3,7,6,8,65,66,59,58,54,53,0,49,48]<|o7 74 73<|.sc true 91 74 (o7 75 3<|o7 76 7<|oK 77 1 75 76<|o9 78 1 77<|o7 79 6<|oK 80 1 78 79<|o9 81 1 80<|o7 82 81<|.sc false 90 82 (o7 83 3<|o7 84 6<|oK 85 1 83 84<|o9 86 1 85<|o7 87 8<|oK 88 1 86 87<|o9 89 1 88<|.nil) (.t 89)<|.nil) (.t 90)<|oK 92 1 65 66<|oG 1 92 91<|.nil)))) (qM [59,58,3,7,6,54,53,0,49,48] (.ops<|oJ 93 59 1<|o7 59 93<|.nil)))))))
def arC:JC:=(qM [54,53,0,3,6,49,48] (.ops<|oJ 94 54 1<|o7 54 94<|.nil))
def agv:JC:=(qN (oO 55 54 53<|.nil) (.seq (qO 55 .skip (.exit 6)) (.seq (.block 7 (qN (o7 56 54<|o7 7 56<|.nil) (qM [0,3,7,6,54,53,49,48] (qN (o7 57 0<|oP 58 57<|o8 59 0<|.nil) (qM [59,58,3,7,6,54,53,0,49,48] (.block 8 (.loop [58,3,7,6,54,53,0,49,48] [59] agu))))))) arC)))
def arD:JC:=(qM [49,48,0,3] (.ops<|oJ 95 49 1<|o7 49 95<|.nil))
def agw:JC:=(qN (oO 50 49 48<|.nil) (.seq (qO 50 .skip (.exit 4)) (.seq (.block 5 (qN (o7 51 49<|o7 6 51<|.nil) (qN (o7 52 0<|oP 53 52<|o8 54 0<|.nil) (qM [54,53,0,3,6,49,48] (.block 6 (.loop [53,0,3,6,49,48] [54] agv)))))) arD)))
def arE:JC:=(qM [3] (qN (o7 96 3<|o7 2 96<|.nil) (.bn 2 82 1 (.gq 2 kQ.gq .ret))))
def agx:JC:=(qM [0,3] (.seq (qN (o7 47 0<|oP 48 47<|o8 49 0<|.nil) (.block 4 (.loop [48,0,3] [49] agw))) arE))
def j41:JC:=(qN (oU 2<|.nil) (qN (o7 9 0<|oP 10 9<|eo 11 (.mks 82 1 24 .bF (.t 10) (.t 10))<|o7 3 11<|.nil) (.seq (qN (o7 12 3<|oP 13 12<|o8 14 0<|.nil) (.block 0 (.loop [13,3,0] [14] agt))) agx)))
def Gd(f:FuncId)(a:List SV)(m:List ay):Sx.Call:=(FH.rd 79 (.two aO aO) (.one .bool) (λ_=>True) (λy=>KR y.1 y.2.1) FH.none) f a m
theorem agy:type_of% (nq Gd.eq_1):=nq Gd.eq_1
theorem agz:aW Tryz.prog Gd:=FH.aT (λy _=>QN y.1 y.2.1) FH.none_ok
def m0(l:List Ev)(i j:Nat):Nat->Nat->Bool:=λa b=>(decide (a<i)||decide (a=i)&&decide (b<j))&&yD (qZ l) a b
def clo(M:Nat->Nat->Bool)(k:Nat):Nat->Nat->Bool:=λa b=>M a b||M a k&&M k b
def jl(M:Nat->Nat->Bool)(k i j:Nat):Nat->Nat->Bool:=λa b=>if a<i\/a=i/\b<j then clo M k a b else M a b
theorem Wh(M:Nat->Nat->Bool)(k i j a b:Nat):Dl (jl M k i j) i j (jl M k i j i j||jl M k i j i k&&jl M k i j k j) a b=jl M k i (j+1) a b:=by
 have hik:jl M k i j i k=M i k:=by
  unfold jl clo;split
  ·cases M i k<;>simp
  ·rfl
 have hkj:jl M k i j k j=M k j:=by
  unfold jl clo;split
  ·cases M k j<;>simp
  ·rfl
 have hij:jl M k i j i j=M i j:=by unfold jl;rw[if_neg (by omega)]
 rw[hik,hkj,hij];unfold Dl;by_cases e:a=i/\b=j
 ·obtain⟨rfl,rfl⟩:=e;rw[if_pos ⟨rfl,rfl⟩,jl,if_pos (by omega)];rfl
 ·rw[if_neg e];unfold jl;have e2:(a<i\/a=i/\b<j)↔(a<i\/a=i/\b<j+1):=by omega
  simp only[e2]
def rounds(M:Nat->Nat->Bool):Nat->Nat->Nat->Bool
 |0=>M
 |k+1=>clo (rounds M k) k
def rowsOf(n:Nat)(M:Nat->Nat->Bool):List (List Bool):=tb n λa=>tb n λb=>M a b
def bI(l:List Ev):Nat->Nat->Bool:=rounds (yD (qZ l)) l.length
theorem Dp(l:List Ev)(hl:l.length<=1000):FnOK Tryz.prog 41 [dw.aA l] [] (kQ.aA (rowsOf l.length (bI l))) []:=by
 refine fn_walkA j41 [.tmp 2] 97 agz rfl ?_;unfold j41;simp only[go_sem,seval];refine⟨by omega,?_⟩
 rw[agr (U:=4) (M:=λ_ _=>false)];refine aZ Nat (λi=>[.int .i64 i]) (λi=>mm 82 4 l.length i (m0 l i 0)) (λi=>i<=l.length) (λi=>l.length - i) 0 (by omega) ?_ ?_ ?_
 ·simp only[go_sem,seval]
 ·exact mO λa b ha hb=>absurd ha (z1h _)
 intro i hi;by_cases h1:i<l.length
 ·have h1':(i:Int)<l.length:=by omega
  have hf:=ank (r:=i) h1 (z03 _);unfold agt;simp only[go_sem,seval,V8,BA,anl,hf,h1,h1'];have hw:z04.wrap ((i:Int)+1)=((i+1:Nat):Int):=aY;refine⟨⟨by omega,by omega,by omega⟩,by omega,?_⟩
  refine aZ Nat (λj=>[.int .i64 j]) (λj=>mm 82 4 l.length (i+1) (m0 l i j)) (λj=>i+1<=j/\j<=l.length) (λj=>l.length - j) (i+1) (by omega) ?_ ?_ ?_
  ·simp only[go_sem,seval];exact hw
  ·refine mO λa b ha hb=> ?_;by_cases e:a<i
   ·simp[m0,e]
   ·have e2:a=i:=by omega
    subst e2;by_cases e3:b<a+1
    ·simp[m0,yD,show ¬ a<b by omega]
    ·simp[m0,e3]
  intro j hj;have hr:=V9 (r:=i+1) h1 (z0g i);have ha:=RN (T:=82) (U:=4) (n:=l.length) (M:=m0 l i j) (z0g i);by_cases h2:j<l.length
  ·have h2':(j:Int)<l.length:=by omega
   unfold ags;have hg:(tb l.length λb=>SV.bool (m0 l i j i b)).getD j .junk= .bool (m0 l i j i j):=fO h2;simp only[go_sem,seval,agy,V7,BA,agq,hr,ha,hg,h1,h1',h2,h2'];refine⟨by omega,by omega,by omega,by omega,j+1,⟨by omega,by omega⟩,by omega,aY,?_⟩
   rw[Dn rfl];refine mO λa b ha hb=> ?_;have hd:KR (l.getD i aO.aI) (l.getD j aO.aI)=yD (qZ l) i j:=by simp[yD,qZ,show i<j by omega]
   rw[hd];unfold Dl;by_cases e:a=i/\b=j
   ·obtain⟨rfl,rfl⟩:=e;simp[m0]
   ·rw[if_neg e];simp only[m0]
    congr 1
    rw[z0x];simp only[z05,z00,decide_eq_true_eq];omega
  ·have h2':¬ (j:Int)<l.length:=by omega
   unfold ags;simp only[go_sem,seval,h2'];unfold arB;simp only[go_sem,seval,BA];refine⟨i+1,by omega,by omega,hw,?_⟩
   rw[Dn rfl];refine mO λa b ha hb=> ?_;simp only[m0]
   congr 1
   rw[z0x];simp only[z05,z00,decide_eq_true_eq];omega
 ·have h1':¬ (i:Int)<l.length:=by omega
  unfold agt;simp only[go_sem,seval,h1'];unfold agx;simp only[go_sem,seval];have ei:i=l.length:=by omega
  subst ei;refine aZ Nat (λk=>[.int .i64 k]) (λk=>mm 82 4 l.length l.length (rounds (yD (qZ l)) k)) (λk=>k<=l.length) (λk=>l.length - k) 0 (by omega) ?_ ?_ ?_
  ·simp only[go_sem,seval]
  ·exact mO λa b ha hb=>by simp[m0,rounds,ha]
  intro k hk;by_cases h2:k<l.length
  ·have h2':(k:Int)<l.length:=by omega
   unfold agw;simp only[go_sem,seval,h2'];refine aZ Nat (λi=>[.int .i64 i]) (λi=>mm 82 4 l.length l.length (jl (rounds (yD (qZ l)) k) k i 0)) (λi=>i<=l.length) (λi=>l.length - i) 0 (by omega) ?_ ?_ ?_
   ·simp only[go_sem,seval]
   ·exact mO λa b ha hb=>by simp[jl]
   intro i hi2;by_cases h3:i<l.length
   ·have h3':(i:Int)<l.length:=by omega
    unfold agv;simp only[go_sem,seval,h3'];refine aZ Nat (λj=>[.int .i64 j]) (λj=>mm 82 4 l.length l.length (jl (rounds (yD (qZ l)) k) k i j)) (λj=>j<=l.length) (λj=>l.length - j) 0 (by omega) ?_ ?_ ?_
    ·simp only[go_sem,seval]
    ·rfl
    intro j hj;generalize hR:rounds (yD (qZ l)) k=R;by_cases h4:j<l.length
    ·have h4':(j:Int)<l.length:=by omega
     have ri:=V9 (r:=l.length) h3 h3;have rk:=V9 (r:=l.length) h2 h2;have ai:=RN (T:=82) (U:=4) (n:=l.length) (M:=jl R k i j) h3;have ak:=RN (T:=82) (U:=4) (n:=l.length) (M:=jl R k i j) h2;have gij:(tb l.length λb=>SV.bool (jl R k i j i b)).getD j .junk= .bool (jl R k i j i j):=fO h4;have gik:(tb l.length λb=>SV.bool (jl R k i j i b)).getD k .junk= .bool (jl R k i j i k):=fO h2;have gkj:(tb l.length λb=>SV.bool (jl R k i j k b)).getD j .junk= .bool (jl R k i j k j):=fO h4;unfold agu;simp only[go_sem,seval,V7,BA,agq,ri,rk,ai,ak,gij,gik,gkj,h2,h2',h3,h3',h4,h4'];refine⟨by omega,by omega,by omega,λ_=>⟨⟨by omega,by omega⟩,λ_=>⟨by omega,by omega⟩⟩,by omega,j+1,by omega,by omega,aY,?_⟩
     rw[Dn rfl];exact mO λa b ha hb=>Wh R k i j a b
    ·have h4':¬ (j:Int)<l.length:=by omega
     unfold agu;simp only[go_sem,seval,h4'];unfold arC;simp only[go_sem,seval,BA];refine⟨i+1,by omega,by omega,aY,?_⟩
     rw[Dn rfl];refine mO λa b ha hb=> ?_;have e:(a<i\/a=i/\b<j)↔(a<i+1\/a=i+1/\b<0):=by omega
     simp only[jl,e]
   ·have h3':¬ (i:Int)<l.length:=by omega
    unfold agv;simp only[go_sem,seval,h3'];unfold arD;simp only[go_sem,seval,BA];refine⟨k+1,by omega,by omega,aY,?_⟩
    rw[Dn rfl];refine mO λa b ha hb=> ?_;rw[jl,if_pos (Or.inl (by omega))]
    rfl
  ·have h2':¬ (k:Int)<l.length:=by omega
   unfold agw;simp only[go_sem,seval,h2'];unfold arE;simp only[go_sem,seval,V7];have ek:k=l.length:=by omega
   subst ek;exact⟨anm,by rw[ano];rfl⟩
end Go.Proofs.YtgnaipcjbmhihaaGreatDoor.Ah
end
section
set_option maxRecDepth 100000
open Go Go.Sx Go.Proofs
namespace Go.Proofs.YtgnaipcjbmhihaaGreatDoor.Ah
open D Tr Ps Od
def mp(T U E:TypeId)(l:List Ev)(n r:Nat)(M:Nat->Nat->Bool):List ay:=
 .vec T 1 (tb n λk=>if k<r then .vec (2*k+2) n else .bF)::tb (2*r) λt=>if t%2=0 then .blk E (aO.aA (l.getD (t/2) aO.aI)) else .vec U 1 (tb n λb=> .bool (M (t/2) b))
section
variable {T U E:TypeId} {l:List Ev} {n r:Nat} {M M':Nat->Nat->Bool}
theorem sH:(mp T U E l n r M).length=2*r+1:=by simp[mp,jI]
theorem Wi:ah (mp T U E l n r M) 0= .vec T 1 (tb n λk=>if k<r then .vec (2*k+2) n else .bF):=rfl
theorem aui{a:Nat}(h:a<r):ah (mp T U E l n r M) (2*a+1)= .blk E (.agg [.int .i64 (l.getD a aO.aI).kind, .int .i64 (l.getD a aO.aI).aC, .int .i64 (l.getD a aO.aI).obj]):=by
 have:=I5 (n:=2*r) (i:=2*a) (f:=λt=>if t%2=0 then ay.blk E (aO.aA (l.getD (t/2) aO.aI)) else .vec U 1 (tb n λb=> .bool (M (t/2) b))) (by omega)
 rw[if_pos (by omega),show 2*a/2=a by omega] at this
 exact this
theorem RQ{a:Nat}(h:a<r):ah (mp T U E l n r M) (2*a+2)= .vec U 1 (tb n λb=> .bool (M a b)):=by
 have:=I5 (n:=2*r) (i:=2*a+1) (f:=λt=>if t%2=0 then ay.blk E (aO.aA (l.getD (t/2) aO.aI)) else .vec U 1 (tb n λb=> .bool (M (t/2) b))) (by omega)
 rw[if_neg (by omega),show(2*a+1)/2=a by omega] at this
 exact this
theorem agA{a b:Nat}{v:Bool}:(mp T U E l n r M).set (2*a+2) (.vec U 1 ((tb n λb=> .bool (M a b)).set b (.bool v)))=mp T U E l n r (Dl M a b v):=by
 simp only[mp,z0z,I7]
 congr 1
 refine bZ λi hi=> ?_;by_cases e:i=2*a+1
 ·subst e;simp only[if_true,show ¬ (2*a+1)%2=0 by omega,if_false,show(2*a+1)/2=a by omega]
  congr 1
  refine bZ λj hj=> ?_;by_cases e:j=b<;>simp[Dl,e]
 ·rw[if_neg e];split
  ·rfl
  ·congr 1
   refine bZ λj hj=> ?_;simp[Dl,show ¬ i/2=a by omega]
theorem Hw{k:Nat}(hk:k=2*r+1):(List.take k (mp T U E l n r M)).map (dM (ug k))=mp T U E l n r M:=by
 subst hk;have h1:(mp T U E l n r M).take (2*r+1)=mp T U E l n r M:=z1b (by rw[sH];exact z03 _)
 rw[h1];simp only[mp,z0s,uH,dM,Hl]
 congr 1
 ·congr 1
  refine bZ λi hi=> ?_;split
  ·rename_i h;simp only[ren,kS,ug,show 2*i+2<2*r+1 by omega,if_true]
  ·rfl
 ·refine bZ λi hi=> ?_;by_cases e:i%2=0
  ·simp only[e,if_true,aO.ren]
  ·simp only[e,if_false,Hl];rfl
theorem sJ(h:∀ a b,a<r->b<n->M a b=M' a b):mp T U E l n r M=mp T U E l n r M':=by
 simp only[mp]
 congr 1
 refine bZ λi hi=> ?_;split
 ·rfl
 ·congr 1
  exact bZ λj hj=>by rw[h (i/2) j (by omega) hj]
theorem Wj(x:List ay):ah (mp T U E l n r M++x) 0= .vec T 1 (tb n λk=>if k<r then .vec (2*k+2) n else .bF):=rfl
theorem abg(x:ay):ah (mp T U E l n r M++[x]) (2*r+1)=x:=by
 unfold ah;rw[z0c,List.getElem?_append_right (by rw[sH];exact z03 _),sH]
 simp
theorem Wn(x y:ay):(mp T U E l n r M++[x]).set (2*r+1) y=mp T U E l n r M++[y]:=by
 rw[List.set_append_right _ _ (by rw[sH];exact z03 _),sH]
 simp
theorem agB{a:Nat}(h:a<n)(h2:a<r):(tb n λk=>if k<r then SV.vec (2*k+2) n else SV.bF).getD a .junk= .vec (2*a+2) n:=by rw[fO h,if_pos h2]
theorem anp{a:Nat}(h:a<n)(h2:r<=a):(tb n λk=>if k<r then SV.vec (2*k+2) n else SV.bF).getD a .junk= .bF:=by rw[fO h,if_neg (by omega)]
theorem anq:(mp T U E l n r M++[ay.blk E (.agg [.int .i64 (l.getD r aO.aI).kind, .int .i64 (l.getD r aO.aI).aC, .int .i64 (l.getD r aO.aI).obj]),ay.vec U 1 (z1k n (SV.bool false))]).set 0 (.vec T 1 ((tb n λk=>if k<r then SV.vec (2*k+2) n else SV.bF).set r (.vec (2*r+1+1) n)))=mp T U E l n (r+1) (λa b=>if a<r then M a b else false):=by
 simp only[mp,z1z,z0y,I7,mP];rw[show 2*(r+1)=2*r+1+1 by omega,CO,CO]
 congr 1
 ·congr 1
  refine bZ λi hi=> ?_;by_cases e:i=r
  ·subst e;simp
  ·by_cases e2:i<r
   ·simp[e,e2,show i<r+1 by omega]
   ·simp[e,e2,show ¬ i<r+1 by omega]
 ·rw[z2w]
  congr 1
  ·exact bZ λi hi=>by simp[show i/2<r by omega]
  ·simp only[z1z,z0a];rw[if_pos (by omega),if_neg (by omega),show 2*r/2=r by omega,show(2*r+1)/2=r by omega]
   simp[IE]
theorem agC:[ay.vec T 1 (z1k n .bF)]=mp T U E l n 0 M:=by simp[mp,mP,ZB]
theorem anr:allL (tb n λk=>if k<n then SV.vec (2*k+2) n else SV.bF) λy=>(DT.list 1 DT.bool).decP (mp T U E l n n M) y:=by
 intro y hy;obtain⟨i,hi,rfl⟩:=z1m hy;rw[jI] at hi;have e:(tb n λk=>if k<n then SV.vec (2*k+2) n else SV.bF)[i]'(by rw[jI];exact hi)= .vec (2*i+2) n:=by
  have:=nZ (f:=λk=>if k<n then SV.vec (2*k+2) n else SV.bF) (n:=n) i
  rw[if_pos hi,if_pos hi] at this;exact(z0i.1 this).2
 rw[e,kT,RQ hi];refine⟨rfl,?_⟩;rw[RP,CP];intro y _;trivial
theorem ant:(tb n λk=>if k<n then SV.vec (2*k+2) n else SV.bF).map (λy=>(DT.list 1 DT.bool).aG (mp T U E l n n M) y)=tb n λa=>tb n λb=>M a b:=by rw[uH];refine bZ λi hi=> ?_;rw[if_pos hi,kU,RQ hi];simp only[uH];exact bZ λj hj=>rfl
end
def stepRow(l:List Ev)(R:Nat->Nat->Bool)(j i:Nat)(row:Nat->Bool):Nat->Bool:=if (!row i&&qZ l i j)=true then λk=>decide (k=i)||row k||R i k else row
def BD(l:List Ev)(R:Nat->Nat->Bool)(j:Nat):Nat->Nat->Bool
 |0=>λ_=>false
 |s+1=>stepRow l R j (j - 1 - s) (BD l R j s)
def uG(l:List Ev):Nat->Nat->Nat->Bool
 |0=>λ_ _=>false
 |j+1=>λa b=>if a=j then BD l (uG l j) j j b else uG l j a b
def eU(R:Nat->Nat->Bool)(j:Nat)(row:Nat->Bool):Nat->Nat->Bool:=λa b=>if a=j then row b else R a b
def agD:JC:=(qN (oO 59 58 57<|.nil) (qM [59,58,56,3,4,57,6,0,5,14,13,12] (.seq (qO 59 .skip (.exit 4)) (qM [58,56,3,4,57,6,0,5,14,13,12] (.seq (.block 5 (qN (o7 60 58<|oK 61 1 56 58<|o9 62 1 61<|o7 7 60<|o7 8 62<|.nil) (qM [3,4,7,8,58,57,56,6,0,5,14,13,12] (.bJ<|o7 63 3<|o7 64 4<|oK 65 1 63 64<|o9 66 1 65<|qL [7,3,4,8,66,58,57,56,6,0,5,14,13,12]<|o7 67 7<|o7 68 3<|o7 69 4<|oK 70 1 68 69<|o9 71 1 70<|qL [7,71,8,66,67,58,57,56,3,4,6,0,5,14,13,12]<|o7 72 7<|oK 73 1 71 72<|qL [73,8,66,67,58,57,56,3,4,6,0,5,14,13,12]<|o9 74 1 73<|o7 75 74<|.sc true 77 75 (o7 76 8<|.nil) (.t 76)<|oK 78 1 66 67<|oG 1 78 77<|.nil)))) (qM [58,57,56,3,4,6,0,5,14,13,12] (.ops<|oJ 79 58 1<|o7 58 79<|.nil)))))))
def agE:JC:=(qM [6,3,4,0,5,14,13,12] (.ops<|o7 29 6<|qo 30 (.ar .sub (.t 29) (I 1))<|o7 6 30<|.nil))
def agF:JC:=(.seq (qN (o7 27 6<|qo 28 (.cmp .geq (.t 27) (I 0))<|.nil) (qO 28 .skip (.exit 2))) (qM [3,4,6,0,5,14,13,12] (.seq (.block 3 (.seq (.bJ<|o7 31 3<|o7 32 4<|oK 33 1 31 32<|o9 34 1 33<|qL [6,34,0,5,3,4,14,13,12]<|o7 35 6<|oK 36 1 34 35<|o9 37 1 36<|qL [37,0,6,5,3,4,14,13,12]<|qF 38 37<|o7 39 38<|.sc false 46 39 (o7 40 0<|o7 41 6<|oK 42 3 40 41<|oC 43 3 42<|oC 44 3 5<|qG 45 138 43 44<|.nil) (.t 45)<|.nil) (qM [46,3,4,6,0,5,14,13,12] (qO 46 (qN (o7 47 3<|o7 48 4<|oK 49 1 47 48<|qL [49,6,3,4,0,5,14,13,12]<|o9 50 1 49<|o7 51 6<|oK 52 1 50 51<|en (.store 1 (.t 52) (B true))<|.nil) (qM [3,6,4,0,5,14,13,12] (qN (o7 53 3<|o7 54 6<|oK 55 1 53 54<|o9 56 1 55<|oP 57 56<|o8 58 0<|.nil) (qM [58,57,56,3,4,6,0,5,14,13,12] (.block 4 (.loop [57,56,3,4,6,0,5,14,13,12] [58] agD)))))) .skip)))) agE)))
def arF:JC:=(qM [14,13,12,3,0] (.ops<|oJ 80 14 1<|o7 14 80<|.nil))
def agG:JC:=(qN (oO 15 14 13<|.nil) (.seq (qO 15 .skip (.exit 0)) (.seq (.block 1 (qN (o7 16 14<|oK 17 3 12 14<|oC 18 3 17<|qK 5 56<|o7 4 16<|oG 3 5 18<|.nil) (qM [3,4,0,5,14,13,12] (qN (o7 19 3<|o7 20 4<|o7 21 0<|oP 22 21<|eo 23 (.mks 4 1 1 (.bool false) (.t 22) (.t 22))<|oK 24 1 19 20<|oG 1 24 23<|.nil) (qM [4,3,0,5,14,13,12] (qN (o7 25 4<|qo 26 (.ar .sub (.t 25) (I 1))<|o7 6 26<|.nil) (qM [6,3,4,0,5,14,13,12] (.block 2 (.loop [3,4,0,5,14,13,12] [6] agF))))))))) arF)))
def arG:JC:=(qM [3] (qN (o7 81 3<|o7 2 81<|.nil) (.bn 2 82 1 (.gq 2 kQ.gq .ret))))
def j98:JC:=(qN (oU 2<|.nil) (qN (o7 9 0<|oP 10 9<|eo 11 (.mks 82 1 24 .bF (.t 10) (.t 10))<|o7 3 11<|.nil) (.seq (qN (o7 12 0<|oP 13 12<|o8 14 0<|.nil) (.block 0 (.loop [13,12,3,0] [14] agG))) arG)))
theorem Y8(l:List Ev)(hl:l.length<=1000):FnOK Tryz.prog 98 [dw.aA l] [] (kQ.aA (rowsOf l.length (uG l l.length))) []:=by
 refine fn_walkA j98 [.tmp 2] 82 atg rfl ?_;unfold j98;simp only[go_sem,seval];refine⟨by omega,?_⟩
 rw[agC (U:=4) (E:=56) (l:=l) (M:=λ_ _=>false)];refine aZ Nat (λi=>[.int .i64 i]) (λi=>mp 82 4 56 l l.length i (uG l i)) (λi=>i<=l.length) (λi=>l.length - i) 0 (by omega) ?_ ?_ ?_
 ·simp only[go_sem,seval]
 ·exact sJ λa b ha hb=>absurd ha (z1h _)
 intro j hj;by_cases h1:j<l.length
 ·have h1':(j:Int)<l.length:=by omega
  have hf:=anp (r:=j) h1 (z03 _);unfold agG;simp only[go_sem,seval,Wj,sH,abg,Wn,z02,anq,hf,h1,h1'];have hw:z04.wrap ((j:Int) - 1)=(j:Int) - 1:=aY;refine⟨by omega,⟨by omega,by omega,by omega⟩,by omega,?_⟩
  generalize hR:uG l j=R;refine aZ Nat (λc=>[.int .i64 ((c:Int) - 1)]) (λc=>mp 82 4 56 l l.length (j+1) (eU R j (BD l R j (j - c)))) (λc=>c<=j) (λc=>c) j (z03 _) ?_ ?_ ?_
  ·simp only[go_sem,seval];exact hw
  ·refine sJ λa b ha hb=> ?_;by_cases e:a=j
   ·subst e;simp[eU,BD]
   ·simp[eU,e,show a<j by omega]
  intro c hc;cases c with
  |zero=>
   have hz:¬ (0:Int)<=0 - 1:=by decide
   unfold agF;simp only[go_sem,seval];unfold arF;simp only[go_sem,seval,sH];refine⟨j+1,by omega,by omega,aY,?_⟩
   rw[Hw rfl];refine sJ λa b ha hb=> ?_;simp only[eU,uG,hR,Nat.sub_zero]
  |succ i=>
   have hij:i<j:=by omega
   have hbx:2*j+1<2*(j+1)+1:=by omega
   have hin:i<l.length:=by omega
   have hc':((i+1:Nat):Int) - 1=(i:Int):=by omega
   have hp:(0:Int)<=(i:Int):=by omega
   have ei:j - i=(j - (i+1))+1:=by omega
   have es:j - 1 - (j - (i+1))=i:=by omega
   have hstep:BD l R j (j - i)=stepRow l R j i (BD l R j (j - (i+1))):=by rw[ei,BD,es]
   generalize hrow:BD l R j (j - (i+1))=row at hstep ⊢;have hMj:∀ b,eU R j row j b=row b:=λb=>by simp[eU]
   have rj:=agB (r:=j+1) h1 (z0g j);have ri:=agB (r:=j+1) hin (show i<j+1 by omega)
   have bj:=aui (T:=82) (U:=4) (E:=56) (l:=l) (n:=l.length) (M:=eU R j row) (z0g j);have aj:=RQ (T:=82) (U:=4) (E:=56) (l:=l) (n:=l.length) (M:=eU R j row) (z0g j);have gji:(tb l.length λb=>SV.bool (eU R j row j b)).getD i .junk= .bool (row i):=by rw[fO hin,hMj]
   have hwi:z04.wrap ((i:Int) - 1)=(i:Int) - 1:=aY;unfold agF;simp only[go_sem,seval,atf,Wi,sH,agA,hc',hp,rj,ri,bj,aj,gji,h1',hin];have hRj:∀ b,BD l R j (j - i) b=(if (!row i&&qZ l i j)=true then decide (b=i)||row b||R i b else row b):=λb=>by rw[hstep,stepRow];split<;>rfl
   refine⟨by omega,by omega,by omega,λ_=>by omega,λhT=>⟨by omega,by omega,by omega,by omega,?_⟩,λhF=> ?_⟩
   ·have hT:(!row i&&qZ l i j)=true:=hT;refine aZ Nat (λk=>[.int .i64 k]) (λk=>mp 82 4 56 l l.length (j+1) (eU R j λb=>decide (b=i)||row b||(decide (b<k)&&R i b))) (λk=>k<=l.length) (λk=>l.length - k) 0 (z2e _) ?_ ?_ ?_
    ·simp only[go_sem,seval]
    ·refine sJ λa b ha hb=> ?_;by_cases e:a=j
     ·subst e;by_cases e2:b=i
      ·subst e2;simp[eU,Dl]
      ·simp[eU,Dl,e2]
     ·simp[eU,Dl,e]
    intro k hk;by_cases h2:k<l.length
    ·have h2':(k:Int)<l.length:=by omega
     have aj:=RQ (T:=82) (U:=4) (E:=56) (l:=l) (n:=l.length) (M:=eU R j λb=>decide (b=i)||row b||(decide (b<k)&&R i b)) (z0g j);have ai:=RQ (T:=82) (U:=4) (E:=56) (l:=l) (n:=l.length) (M:=eU R j λb=>decide (b=i)||row b||(decide (b<k)&&R i b)) (show i<j+1 by omega)
     have gjk:(tb l.length λb=>SV.bool (eU R j (λb=>decide (b=i)||row b||(decide (b<k)&&R i b)) j b)).getD k .junk= .bool (decide (k=i)||row k):=by rw[fO h2];simp[eU]
     have gik:(tb l.length λb=>SV.bool (eU R j (λb=>decide (b=i)||row b||(decide (b<k)&&R i b)) i b)).getD k .junk= .bool (R i k):=by rw[fO h2];simp[eU,show ¬ i=j by omega]
     unfold agD;have hix:2*i+2<2*(j+1)+1:=by omega
     simp only[go_sem,seval,Wi,sH,agA,hbx,hix,h2',rj,ai,aj,gjk,gik,h1',h2];refine⟨by omega,by omega,by omega,by omega,by omega,by omega,by omega,k+1,by omega,by omega,aY,?_⟩
     rw[Hw rfl];refine sJ λa b ha hb=> ?_;unfold Dl eU;by_cases e:a=j
     ·subst e;by_cases e2:b=k
      ·subst e2;simp
      ·have e3:(b<k)↔(b<k+1):=by omega
       simp[e2,e3]
     ·simp[e]
    ·have h2':¬ (k:Int)<l.length:=by omega
     unfold agD;simp only[go_sem,seval,h2'];unfold agE;simp only[go_sem,seval,sH,hbx];refine⟨i,by omega,by omega,hwi,?_⟩
     rw[Hw rfl];refine sJ λa b ha hb=> ?_;simp only[eU,hRj,if_pos hT];have:b<k:=by omega
     simp[this]
   ·have hF:(!row i&&qZ l i j)=false:=hF;unfold agE;simp only[go_sem,seval,sH,hbx];refine⟨i,by omega,by omega,hwi,?_⟩
    rw[Hw rfl];refine sJ λa b ha hb=> ?_;simp[eU,hRj,hF]
 ·have h1':¬ (j:Int)<l.length:=by omega
  unfold agG;simp only[go_sem,seval,h1'];unfold arG;simp only[go_sem,seval,Wi];have ek:j=l.length:=by omega
  subst ek;exact⟨anr,by rw[ant];rfl⟩
end Go.Proofs.YtgnaipcjbmhihaaGreatDoor.Ah
end
end
namespace Go.Proofs.YtgnaipcjbmhihaaGreatDoor.Ah
open D Tr Ps Od
inductive Et(E:Nat->Nat->Bool):Nat->Nat->Prop
 |one {a b:Nat}:E a b=true->Et E a b
 |snoc {a c b:Nat}:Et E a c->E c b=true->Et E a b
inductive xq(E:Nat->Nat->Bool)(k:Nat):Nat->Nat->Prop
 |one {a b:Nat}:E a b=true->xq E k a b
 |snoc {a c b:Nat}:xq E k a c->c<k->E c b=true->xq E k a b
section
variable {E:Nat->Nat->Bool}
theorem Et.trans{a b c:Nat}(h:Et E a b)(k:Et E b c):Et E a c:=by
 induction k with
 |one e=>exact .snoc h e
 |snoc _ e ih=>exact .snoc ih e
theorem xq.mono{k k' a b:Nat}(hk:k<=k')(h:xq E k a b):xq E k' a b:=by
 induction h with
 |one e=>exact .one e
 |snoc _ hc e ih=>exact .snoc ih (by omega) e
theorem xq.path{k a b:Nat}(h:xq E k a b):Et E a b:=by
 induction h with
 |one e=>exact .one e
 |snoc _ hc e ih=>exact .snoc ih e
theorem xq.trans{k a b:Nat}(h:xq E (k+1) a k)(g:xq E (k+1) k b):xq E (k+1) a b:=by
 induction g with
 |one e=>exact .snoc h (by omega) e
 |snoc _ hc e ih=>exact .snoc ih hc e
theorem xq.split{k a b:Nat}(h:xq E (k+1) a b):xq E k a b\/xq E k a k/\xq E k k b:=by
 induction h with
 |one e=>exact .inl (.one e)
 | @snoc c b _ hc e ih=>
  by_cases hk:c<k
  ·rcases ih with h|⟨h1,h2⟩
   ·exact .inl (.snoc h hk e)
   ·exact .inr ⟨h1, .snoc h2 hk e⟩
  ·have:c=k:=by omega
   subst this;rcases ih with h|⟨h1,h2⟩
   ·exact .inr ⟨h, .one e⟩
   ·exact .inr ⟨h1, .one e⟩
theorem Jk:∀ (k a b:Nat),rounds E k a b=true↔xq E k a b
 |0,a,b=>⟨λh=> .one h,λh=>by
  cases h with
  |one e=>exact e
  |snoc _ hc _=>exact absurd hc (z1h _)⟩
 |k+1,a,b=>by
  simp only[rounds,clo,z05,z00,Jk k];constructor
  ·rintro(h|⟨h1,h2⟩)
   ·exact h.mono (by omega)
   ·exact(h1.mono (by omega)).trans (h2.mono (by omega))
  ·exact λh=>h.split
theorem Et.lt(hE:∀ a b,E a b=true->a<b){a b:Nat}(h:Et E a b):a<b:=by
 induction h with
 |one e=>exact hE _ _ e
 |snoc _ e ih=>exact Nat.lt_trans ih (hE _ _ e)
theorem Et.bounded(hE:∀ a b,E a b=true->a<b){a b:Nat}(h:Et E a b):∀ {n},b<=n->xq E n a b:=by
 induction h with
 |one e=>exact λ_=> .one e
 |snoc _ e ih=>exact λhb=> .snoc (ih (Nat.le_trans (z1u (hE _ _ e)) hb)) (z15 (hE _ _ e) hb) e
theorem SK(hE:∀ a b,E a b=true->a<b){n a b:Nat}(hb:b<=n):rounds E n a b=true↔Et E a b:=
 (Jk n a b).trans ⟨λh=>h.path,λh=>h.bounded hE hb⟩
theorem Et.last{a b:Nat}:Et E a b↔∃ i,E i b=true/\(a=i\/Et E a i):=by
 constructor
 ·intro h;cases h with
  |one e=>exact⟨a,e, .inl rfl⟩
  |snoc h e=>exact⟨_,e, .inr h⟩
 ·rintro⟨i,e,rfl|h⟩
  ·exact .one e
  ·exact .snoc h e
end
theorem WI{p:Nat->Nat->Bool}:∀ a b,yD p a b=true->a<b:=λa b h=>by simp only[yD,z00,decide_eq_true_eq] at h;exact h.1
def Ae(l:List Ev)(a b:Nat):Prop:=Et (yD (qZ l)) a b
theorem lC{l:List Ev}{a b:Nat}(hb:b<=l.length):bI l a b=true↔Ae l a b:=SK WI hb
theorem Ae.lt{l:List Ev}{a b:Nat}(h:Ae l a b):a<b:=Et.lt WI h
theorem vk{n:Nat}{M:Nat->Nat->Bool}:(rowsOf n M).length=n:=jI
theorem rows_row{n:Nat}{M:Nat->Nat->Bool}{i:Nat}(h:i<n):((rowsOf n M).getD i []).length=n:=by rw[rowsOf,fO h,jI]
theorem tY{n:Nat}{M:Nat->Nat->Bool}{i j:Nat}(hi:i<n)(hj:j<n):((rowsOf n M).getD i []).getD j false=M i j:=by rw[rowsOf,fO hi,fO hj]
end Go.Proofs.YtgnaipcjbmhihaaGreatDoor.Ah
namespace Go.Proofs.YtgnaipcjbmhihaaGreatDoor.Ah
open D Tr Ps Od
theorem Vj(l:List Ev)(R:Nat->Nat->Bool)(j:Nat)(hR:∀ a b,a<j->(R a b=true↔Ae l b a)):∀ s,s<=j->∀ b,BD l R j s b=true↔∃ i,j - s<=i/\yD (qZ l) i j=true/\(b=i\/Ae l b i)
 |0,_,b=>by
  simp only[BD,z0p,false_iff];rintro⟨i,h1,h2,_⟩;have:=WI _ _ h2;omega
 |s+1,hs,b=>by
  have ih:=Vj l R j hR s (by omega)
  have hi:j - 1 - s<j:=by omega
  have hu:yD (qZ l) (j - 1 - s) j=qZ l (j - 1 - s) j:=by simp[yD,hi]
  have e1:j - (s+1)=j - 1 - s:=by omega
  simp only[BD,stepRow];split
  ·rename_i h;simp only[z00,z0e] at h;simp only[z05,decide_eq_true_eq,ih b,hR _ b hi];constructor
   ·rintro((h1|⟨i,h1,h2,h3⟩)|h1)
    ·exact⟨j - 1 - s,by omega,by rw[hu];exact h.2, .inl h1⟩
    ·exact⟨i,by omega,h2,h3⟩
    ·exact⟨j - 1 - s,by omega,by rw[hu];exact h.2, .inr h1⟩
   ·rintro⟨i,h1,h2,h3⟩;by_cases e:i=j - 1 - s
    ·subst e;rcases h3 with h3|h3
     ·exact .inl (.inl h3)
     ·exact .inr h3
    ·exact .inl (.inr ⟨i,by omega,h2,h3⟩)
  ·rename_i h;rw[ih b];constructor
   ·rintro⟨i,h1,h2,h3⟩;exact⟨i,by omega,h2,h3⟩
   ·rintro⟨i,h1,h2,h3⟩;by_cases e:i=j - 1 - s
    ·subst e;rw[hu] at h2;have hr:BD l R j s (j - 1 - s)=true:=by
      cases hc:BD l R j s (j - 1 - s) with
      |true=>rfl
      |false=>exact absurd (show(!BD l R j s (j - 1 - s)&&qZ l (j - 1 - s) j)=true by rw[hc,h2];rfl) h
     obtain⟨i',k1,k2,k3⟩:=(ih _).1 hr;refine⟨i',k1,k2, .inr ?_⟩;have hp:Ae l (j - 1 - s) i':=by
      rcases k3 with k3|k3
      ·omega
      ·exact k3
     rcases h3 with h3|h3
     ·subst h3;exact hp
     ·exact Et.trans h3 hp
    ·exact⟨i,by omega,h2,h3⟩
theorem KA(l:List Ev):∀ n a b,a<n->(uG l n a b=true↔Ae l b a)
 |0,a,b,h=>absurd h (z1h _)
 |j+1,a,b,h=>by
  simp only[uG];by_cases e:a=j
  ·subst e;rw[if_pos rfl,Vj l _ a (λa' b' ha=>KA l a a' b' ha) a (z03 _) b];unfold Ae;rw[Et.last];constructor
   ·rintro⟨i,_,h2,h3⟩;exact⟨i,h2,h3⟩
   ·rintro⟨i,h2,h3⟩;exact⟨i,by omega,h2,h3⟩
  ·rw[if_neg e];exact KA l j a b (by omega)
theorem asZ(l:List Ev){a b:Nat}(ha:a<l.length):uG l l.length a b=bI l b a:=by rw[z0x,KA l l.length a b ha,lC (z1u ha)]
end Go.Proofs.YtgnaipcjbmhihaaGreatDoor.Ah
namespace Go.Proofs.YtgnaipcjbmhihaaGreatDoor.Ah
open D Tr Ps Od
abbrev aR:DA (List (List Bool)×Unit):= .one kQ.ref
def j130:JC:=(qN (qH 5 false<|.nil) (qN (o9 6 1 2<|o7 7 1<|oK 8 1 6 7<|o9 9 1 8<|o7 10 0<|oK 11 1 9 10<|o9 12 1 11<|o7 5 12<|.nil) .ret))
theorem aaF(n:Nat)(M:Nat->Nat->Bool)(i j:Nat)(hi:i<n)(hj:j<n):FnOK Tryz.prog 130 [.int .i64 i, .int .i64 j, .ref (kQ.aA (rowsOf n M)) [] 0] [] (.bool (M j i)) []:=by refine fn_walkA j130 [.tmp 5] 13 FH.none_ok rfl ?_;unfold j130;simp only[go_sem,seval,vk,rows_row hj,tY hj hi];exact⟨⟨by omega,by omega⟩,⟨by omega,by omega⟩⟩
def Ik(l:List Ev)(i j:Nat):Bool:=uG l l.length j i
def j92:JC:=(qN (oU 2<|o8 3 0<|.nil) (.seq (qN (o7 8 0<|oM 9 49 8<|o7 7 9<|oN 10 0 7<|oN 11 1 7<|o7 4 10<|o7 5 11<|.nil) (qN (o7 12 5<|qC 13 12 0<|.nil) (qM [13,5,0] (qO 13 (qN (o7 14 5<|oU 2<|o7 3 14<|.nil) (.bn 2 131 2 .ret)) .skip)))) (qM [0] (qN (o7 15 0<|oM 16 98 15<|eo 6 (.alloc 158 .bF)<|oG 1 6 16<|.nil) (qN (o7 17 0<|qo 18 (.GL 130 [(.t 6)])<|qL [17,18]<|qE 19 129 17 18<|o7 2 19<|o8 3 0<|.nil) (.bn 2 131 2 .ret))))))
def Gbf(f:FuncId)(a:List SV)(m:List ay):Sx.Call:=(FH.rd 49 (.one dw) (.two .int .int) (λ_=>True) (λy=>(aK y.1).2)<|
 FH.pz 98 (.one dw) (.one kQ) (λy=>y.1.length<=1000) (λy=>rowsOf y.1.length (uG y.1 y.1.length))<|
 FH.mk 129 (.two dw (DT.clo 130 aR)) (λy=>y.1.length<=100/\y.2.1.1=rowsOf y.1.length (uG y.1 y.1.length)) (λy=> .vec 0 (N9 y.1 (Ik y.1)).length) (λy=>[.vec 131 2 ((N9 y.1 (Ik y.1)).map jo.aA)]) FH.none) f a m
theorem asX:type_of% (nq Gbf.eq_1):=nq Gbf.eq_1
theorem asY:aW Tryz.prog Gbf:=FH.aT (λy _=>lY y.1)<|FH.oq (λy h=>Y8 y.1 h)<|
 FH.eu (λy _=>cZ (nM _ _) ⟨bY _ _ jo _,trivial⟩) (λy h=>by obtain⟨l,⟨r,u⟩,v⟩:=y;obtain⟨h1,h2⟩:=h;simp only at h1 h2;subst h2;exact amJ 130 aR (rowsOf l.length (uG l l.length),()) l (Ik l) h1 (by kernel_rfl) (λi j hi hj=>aaF l.length (uG l l.length) i j hi hj)) FH.none_ok
theorem ae'(l:List Ev):FnOK Tryz.prog 92 [dw.aA l] [] (.bK [.vec 0 (tZ l (Ik l)).length, .int .i64 (aK l).2.2]) [.vec 131 2 ((tZ l (Ik l)).map jo.aA)]:=by
 refine fn_walkA j92 [.tmp 2, .tmp 3] 20 asY rfl ?_;unfold j92;simp only[go_sem,seval,asX];refine⟨λh=>by simp[tZ,h],λh=> ?_⟩
 have:=bP (l:=l) (by rw[<- iD];exact h)
 exact⟨by omega,by omega,by simp[tZ,h]⟩
theorem Y9{l:List Ev}{a b:Nat}(hb:b<l.length):Ik l a b=bI l a b:=asZ l hb
theorem aaG(l:List Ev):N9 l (Ik l)=fD (bI l) l.length l.length:=Il _ λa b ha hb=>by
 rw[yD,Y9 hb];cases h:bI l a b with
 |false=>simp
 |true=>simp[((lC (z1u hb)).1 h).lt]
end Go.Proofs.YtgnaipcjbmhihaaGreatDoor.Ah
namespace Go.Proofs.YtgnaipcjbmhihaaGreatDoor.Tr
open D
def at'(l:List Ev)(i:Nat):Ev:=l.getD i aO.aI
theorem Jg{l:List Ev}{j:Nat}(hj:j<=l.length){k o:Int}:kN (l.take j) k o=true↔∃ c,c<j/\(at' l c).kind=k/\(at' l c).obj=o:=by
 unfold kN;rw[z2a];constructor
 ·rintro⟨e,he,h⟩;obtain⟨c,hc,rfl⟩:=z1m he;rw[z0f] at hc;refine⟨c,by omega,?_⟩
  have:at' l c=(l.take j)[c]'(by rw[z0f];exact hc):=by rw[z2v];simp[at',z0c,show c<l.length by omega]
  rw[this];simpa using h
 ·rintro⟨c,hc,h1,h2⟩;refine⟨at' l c,?_,by simp only[z00,decide_eq_true_eq];exact⟨h1,h2⟩⟩
  have hcl:c<l.length:=by omega
  have:at' l c=(l.take j)[c]'(by rw[z0f];omega):=by rw[z2v];simp[at',z0c,hcl]
  rw[this];exact z1y _
theorem vT{l:List Ev}(h:(aF l).2=0){j:Nat}(hj:j<l.length):
  iI (at' l j)=true/\xg (l.take j) (at' l j).aC=true/\kN (l.take j) 6 (at' l j).aC=false/\((at' l j).kind=3->Tr.aN (l.take j) (at' l j).obj<0)/\((at' l j).kind=4->Tr.aN (l.take j) (at' l j).obj=(at' l j).aC)/\
  ((at' l j).kind=5->xg (l.take j) (at' l j).obj=false)/\((at' l j).kind=6->xg (l.take j) (at' l j).obj=true/\(at' l j).obj≠(at' l j).aC):=by
 have hw:kP (l.take j) (at' l j)=0:=Wy h j hj;unfold kP at hw;by_cases h1:iI (at' l j)=false
 ·rw[if_pos h1] at hw;cases hw
 rw[if_neg h1] at hw;by_cases h2:(!xg (l.take j) (at' l j).aC||kN (l.take j) 6 (at' l j).aC)=true
 ·rw[if_pos h2] at hw;cases hw
 rw[if_neg h2] at hw;simp only[z05,z0e,not_or,z2c,z2z] at h2;refine⟨by simpa using h1,h2.1,h2.2,λk=> ?_,λk=> ?_,λk=> ?_,λk=> ?_⟩
 ·simp only[k,if_true,z1g,if_false] at hw;split at hw
  ·cases hw
  ·omega
 ·simp only[k,if_true,z1g,if_false] at hw;split at hw
  ·cases hw
  ·rename_i hh;simpa using hh
 ·simp only[k,if_true,z1g,if_false] at hw;split at hw
  ·cases hw
  ·rename_i hh;simpa using hh
 ·simp only[k,if_true,z1g,if_false] at hw;split at hw
  ·cases hw
  ·rename_i hh;simp only[z05,z0e,decide_eq_true_eq,not_or,z2z] at hh;exact hh
theorem WA{l:List Ev}(h:(aF l).2=0){j:Nat}(hj:j<l.length)(k5:(at' l j).kind=5){c:Nat}(hc:c<j):(at' l c).aC≠(at' l j).obj/\¬ ((at' l c).kind=5/\(at' l c).obj=(at' l j).obj):=by
 obtain⟨_,_,_,_,_,hf,_⟩:=vT h hj;have hb:=hf k5;simp only[xg,z0b,decide_eq_false_iff_not] at hb;have hno:∀ c',c'<j->¬ ((at' l c').kind=5/\(at' l c').obj=(at' l j).obj):=λc' hc' hh=>by have:kN (l.take j) 5 (at' l j).obj=true:=(Jg (z1u hj)).2 ⟨c',hc',hh⟩;rw[hb.2] at this;cases this
 refine⟨λe=> ?_,hno c hc⟩;obtain⟨_,hbc,_⟩:=vT h (show c<l.length by omega)
 simp only[xg,z05,decide_eq_true_eq] at hbc;rcases hbc with hbc|hbc
 ·exact hb.1 (by rw[<- e];exact hbc)
 ·obtain⟨c',hc',k1,k2⟩:=(Jg (show c<=l.length by omega)).1 hbc
  exact hno c' (by omega) ⟨k1,by rw[k2,e]⟩
end Go.Proofs.YtgnaipcjbmhihaaGreatDoor.Tr
section
section
open Go Go.Sx Go.Proofs
namespace Go.Proofs.YtgnaipcjbmhihaaGreatDoor.St
open D Tr Ah Ps Od
def DC(l:List Ev)(S:Nat->Prop):Prop:= ∀ i i',S i->i'<i->(at' l i').aC.toNat=(at' l i).aC.toNat->S i'
def MH(l:List Ev)(a b:Nat):Prop:=a=b\/Ae l a b
def TS(l:List Ev)(j t:Nat)(i:Nat):Prop:= ∃ c,c<j/\MH l i c/\((at' l c).aC.toNat=t\/(at' l c).kind=5/\(at' l c).obj.toNat=t)
def LS(l:List Ev)(j m:Nat)(i:Nat):Prop:= ∃ c,c<j/\MH l i c/\(at' l c).kind=4/\(at' l c).obj.toNat=m
def VS(l:List Ev)(j m:Nat)(i:Nat):Prop:= ∃ c,c<j/\MH l i c/\(at' l c).kind=8/\(at' l c).obj.toNat=m
section
variable {l:List Ev} (hok:(aF l).2=0)
include hok
theorem bnd{i:Nat}(hi:i<l.length):0<=(at' l i).aC/\(at' l i).aC<6/\0<=(at' l i).obj/\(at' l i).obj<many (at' l i).kind:=(bC _).1 (jq hok i hi)
theorem arR{c:Nat}(hc:c<l.length):DC l (λi=>MH l i c):=by
 intro i i' h hlt ht;have hi:i<l.length:=by
  rcases h with h|h
  ·omega
  ·have:=h.lt;omega
 have b:=bnd hok hi;have b':=bnd hok (show i'<l.length by omega)
 have hd:yD (qZ l) i' i=true:=by
  have:(at' l i').aC=(at' l i).aC:=by omega
  simp only[yD,z00,decide_eq_true_eq];refine⟨hlt,?_⟩;show qZ l i' i=true;unfold qZ KR;rw[z05,z05,z05,z05,z05];exact .inl (.inl (.inl (.inl (.inl (decide_eq_true this)))))
 rcases h with h|h
 ·exact .inr (h▸Et.one hd)
 ·exact .inr (Et.trans (Et.one hd) h)
theorem Sj{j:Nat}(hj:j<=l.length){Q:Nat->Prop}:DC l (λi=> ∃ c,c<j/\MH l i c/\Q c):=by rintro i i' ⟨c,hc,h1,h2⟩ hlt ht;exact⟨c,hc,arR hok (show c<l.length by omega) i i' h1 hlt ht,h2⟩
theorem Af{c j:Nat}(hc:c<j)(hj:j<l.length):qZ l c j=true↔
  ((at' l c).aC.toNat=(at' l j).aC.toNat\/(at' l c).kind=5/\(at' l c).obj.toNat=(at' l j).aC.toNat)\/((at' l j).kind=3/\(at' l c).kind=4/\(at' l c).obj.toNat=(at' l j).obj.toNat)\/
  ((at' l j).kind=7/\(at' l c).kind=8/\(at' l c).obj.toNat=(at' l j).obj.toNat)\/((at' l j).kind=6/\((at' l c).aC.toNat=(at' l j).obj.toNat\/(at' l c).kind=5/\(at' l c).obj.toNat=(at' l j).obj.toNat)):=by
 have b:=bnd hok (show c<l.length by omega)
 have b':=bnd hok hj;have e1:(at' l c).aC.toNat=(at' l j).aC.toNat↔(at' l c).aC=(at' l j).aC:=by omega
 have e2:(at' l c).obj.toNat=(at' l j).aC.toNat↔(at' l c).obj=(at' l j).aC:=by omega
 have e3:(at' l c).obj.toNat=(at' l j).obj.toNat↔(at' l c).obj=(at' l j).obj:=by omega
 have e4:(at' l c).aC.toNat=(at' l j).obj.toNat↔(at' l j).obj=(at' l c).aC:=by omega
 rw[e1,e2,e3,e4];simp only[qZ,KR,z05,z00,decide_eq_true_eq,at'];constructor
 ·rintro(((((h|⟨⟨h,g⟩,k⟩)|⟨h,g⟩)|⟨h,g⟩)|⟨⟨h,g⟩,k⟩)|⟨⟨h,g⟩,k⟩)
  ·exact .inl (.inl h)
  ·exact .inr (.inl ⟨g,h,k⟩)
  ·exact .inl (.inr ⟨h,g⟩)
  ·exact .inr (.inr (.inr ⟨h, .inl g⟩))
  ·exact .inr (.inr (.inl ⟨g,h,k⟩))
  ·exact .inr (.inr (.inr ⟨g, .inr ⟨h,k⟩⟩))
 ·rintro((h|⟨h,g⟩)|⟨g,h,k⟩|⟨g,h,k⟩|⟨g,h|⟨h,k⟩⟩)
  ·exact .inl (.inl (.inl (.inl (.inl h))))
  ·exact .inl (.inl (.inl (.inr ⟨h,g⟩)))
  ·exact .inl (.inl (.inl (.inl (.inr ⟨⟨h,g⟩,k⟩))))
  ·exact .inl (.inr ⟨⟨h,g⟩,k⟩)
  ·exact .inl (.inl (.inr ⟨g,h⟩))
  ·exact .inr ⟨⟨h,g⟩,k⟩
theorem pV{j:Nat}(hj:j<l.length)(i:Nat):Ae l i j↔TS l j (at' l j).aC.toNat i\/((at' l j).kind=3/\LS l j (at' l j).obj.toNat i)\/((at' l j).kind=7/\VS l j (at' l j).obj.toNat i)\/((at' l j).kind=6/\TS l j (at' l j).obj.toNat i):=by
 unfold Ae;rw[Et.last];have key:∀ c,yD (qZ l) c j=true↔c<j/\qZ l c j=true:=λc=>by simp[yD]
 constructor
 ·rintro⟨c,h1,h2⟩;obtain⟨hc,hd⟩:=(key c).1 h1;rcases(Af hok hc hj).1 hd with h|⟨k,h⟩|⟨k,h⟩|⟨k,h⟩
  ·exact .inl ⟨c,hc,h2,h⟩
  ·exact .inr (.inl ⟨k,c,hc,h2,h⟩)
  ·exact .inr (.inr (.inl ⟨k,c,hc,h2,h⟩))
  ·exact .inr (.inr (.inr ⟨k,c,hc,h2,h⟩))
 ·rintro(⟨c,hc,h2,h⟩|⟨k,c,hc,h2,h⟩|⟨k,c,hc,h2,h⟩|⟨k,c,hc,h2,h⟩)
  ·exact⟨c,(key c).2 ⟨hc,(Af hok hc hj).2 (.inl h)⟩,h2⟩
  ·exact⟨c,(key c).2 ⟨hc,(Af hok hc hj).2 (.inr (.inl ⟨k,h⟩))⟩,h2⟩
  ·exact⟨c,(key c).2 ⟨hc,(Af hok hc hj).2 (.inr (.inr (.inl ⟨k,h⟩)))⟩,h2⟩
  ·exact⟨c,(key c).2 ⟨hc,(Af hok hc hj).2 (.inr (.inr (.inr ⟨k,h⟩)))⟩,h2⟩
end
end Go.Proofs.YtgnaipcjbmhihaaGreatDoor.St
end
section
set_option maxRecDepth 100000
open Go Go.Sx Go.Proofs
namespace Go.Proofs.YtgnaipcjbmhihaaGreatDoor.Rc
open D Tr Ah Ps Od St
def noRace(l:List Ev)(i j:Nat)(a b:Ev):Bool:=decide ((j:Int)<=i)||decide (2<a.kind)||decide (2<b.kind)|| !decide (a.obj=b.obj)||decide (z04.wrap (a.kind+b.kind)<3)||bI l i j
def jQ(a b:Ev):Int:=if a.kind=1 then 3 else if b.kind=1 then 2 else 1
def jD(l:List Ev)(i:Nat):Nat->List Rc
 |0=>[]
 |j+1=>jD l i j++if noRace l i j (l.getD i aO.aI) (l.getD j aO.aI)=true then[] else[⟨i,j,(l.getD i aO.aI).obj,jQ (l.getD i aO.aI) (l.getD j aO.aI)⟩]
def nN(l:List Ev):Nat->List Rc
 |0=>[]
 |i+1=>nN l i++jD l i l.length
theorem yF{l:List Ev}{i:Nat}:∀ j,(jD l i j).length<=j
 |0=>z03 _
 |j+1=>by have:=yF (l:=l) (i:=i) j;rw[jD,z02];split<;>simp<;>omega
theorem y8{l:List Ev}:∀ i,(nN l i).length<=i*l.length
 |0=>by simp[nN]
 |i+1=>by have h1:=y8 (l:=l) i;have h2:=yF (l:=l) (i:=i) l.length;rw[nN,z02,Nat.add_mul];omega
def aU(l:List Ev):List Rc:=nN l l.length
def agX:JC:=(qN (oO 22 21 20<|.nil) (qM [22,21,19,5,6,3,20,4,14,13,12,0] (.seq (qO 22 .skip (.exit 2)) (qM [21,19,5,6,3,20,4,14,13,12,0] (.seq (.block 3 (qN (o7 23 21<|oK 24 3 19 21<|oC 25 3 24<|qK 8 56<|o7 7 23<|oG 3 8 25<|.nil) (qM [5,7,6,8,3,21,20,19,4,14,13,12,0] (.seq (qN (o7 26 5<|o7 27 7<|qo 28 (.cmp .geq (.t 26) (.t 27))<|o7 29 28<|qL [29,6,8,3,5,7,21,20,19,4,14,13,12,0]<|.sc true 33 29 (oD 30 0 0 6<|o9 31 1 30<|qJ 32 31 2<|.nil) (.t 32)<|o7 34 33<|.sc true 38 34 (oD 35 0 0 8<|o9 36 1 35<|qJ 37 36 2<|.nil) (.t 37)<|qL [38,6,8,3,5,7,21,20,19,4,14,13,12,0]<|o7 39 38<|.sc true 45 39 (oD 40 2 2 6<|o9 41 1 40<|oD 42 2 2 8<|o9 43 1 42<|qo 44 (.cmp .neq (.t 41) (.t 43))<|.nil) (.t 44)<|o7 46 45<|qL [46,6,8,3,5,7,21,20,19,4,14,13,12,0]<|.sc true 53 46 (oD 47 0 0 6<|o9 48 1 47<|oD 49 0 0 8<|o9 50 1 49<|qo 51 (.ar .add (.t 48) (.t 50))<|qA 52 51 3<|.nil) (.t 52)<|o7 54 53<|.sc true 62 54 (o7 55 3<|o7 56 5<|oK 57 1 55 56<|o9 58 1 57<|o7 59 7<|oK 60 1 58 59<|o9 61 1 60<|.nil) (.t 61)<|.nil) (qO 62 (.exit 3) .skip)) (qM [8,6,4,5,7,21,20,19,3,14,13,12,0] (qN (o8 9 1<|.nil) (qM [8,6,4,5,7,21,20,19,3,14,13,12,0,9] (.seq (qN (oD 63 0 0 8<|o9 64 1 63<|oH 65 64 1<|.nil) (qM [65,6,4,5,7,21,20,19,3,14,13,12,0,9] (qO 65 (.ops<|o8 9 2<|.nil) .skip))) (qM [6,4,5,7,21,20,19,3,14,13,12,0,9] (.seq (qN (oD 66 0 0 6<|o9 67 1 66<|oH 68 67 1<|.nil) (qM [68,4,5,7,6,21,20,19,3,14,13,12,0,9] (qO 68 (.ops<|o8 9 3<|.nil) .skip))) (qM [4,5,7,6,9,21,20,19,3,14,13,12,0] (.ops<|o7 69 4<|o7 70 5<|o7 71 7<|oD 72 2 2 6<|o9 73 1 72<|qL [9,70,71,73,69,21,20,19,5,6,3,14,13,12,0]<|o7 74 9<|qo 75 (.lF (.agg [(.int .i64 0),(.int .i64 0),(.int .i64 0),(.int .i64 0)]) [([.eG 0],0,1,(.t 70)),([.eG 1],1,1,(.t 71)),([.eG 2],2,1,(.t 73)),([.eG 3],3,1,(.t 74))])<|qL [75,69,21,20,19,5,6,3,14,13,12,0]<|eo 76 (.qj 67 4 1 (.agg [(.int .i64 0),(.int .i64 0),(.int .i64 0),(.int .i64 0)]) [(0,(.t 75))])<|oW 77 67 4 32 69 76<|o7 4 77<|.nil)))))))))))) (qM [21,20,19,5,6,3,4,14,13,12,0] (.ops<|oJ 78 21 1<|o7 21 78<|.nil)))))))
def arS:JC:=(qM [14,13,12,0,3,4] (.ops<|oJ 79 14 1<|o7 14 79<|.nil))
def agY:JC:=(qN (oO 15 14 13<|.nil) (.seq (qO 15 .skip (.exit 0)) (.seq (.block 1 (qN (o7 16 14<|oK 17 3 12 14<|oC 18 3 17<|qK 6 56<|o7 5 16<|oG 3 6 18<|.nil) (qM [0,5,6,3,4,14,13,12] (qN (o7 19 0<|oP 20 19<|o8 21 0<|.nil) (qM [21,20,19,5,6,3,4,14,13,12,0] (.block 2 (.bn 4 67 4 (.loop [20,19,5,6,3,14,13,12,0] [21,4] agX)))))))) arS)))
def arT:JC:=(qM [4] (qN (o7 80 4<|o7 2 80<|.nil) (.bn 2 67 4 .ret)))
def j35:JC:=(qN (oU 2<|.nil) (qN (o7 10 0<|oM 11 41 10<|o7 3 11<|.nil) (qN (oU 4<|.nil) (.seq (qN (o7 12 0<|oP 13 12<|o8 14 0<|.nil) (.block 0 (.bn 4 67 4 (.loop [13,12,0,3] [14,4] agY)))) arT))))
def Grc(f:FuncId)(a:List SV)(m:List ay):Sx.Call:=(FH.pz 41 (.one dw) (.one kQ) (λy=>y.1.length<=1000) (λy=>rowsOf y.1.length (bI y.1)) FH.none) f a m
theorem auw:type_of% (nq Grc.eq_1):=nq Grc.eq_1
theorem auy:aW Tryz.prog Grc:=FH.oq (λy h=>Dp y.1 h) FH.none_ok
theorem II(l:List Ev)(hok:(aF l).2=0):FnOK Tryz.prog 35 [dw.aA l] [] (.vec 0 (aU l).length) [.vec 67 4 ((aU l).map kZ.aA)]:=by
 have hl:=bP hok;refine fn_walkA j35 [.tmp 2] 81 auy rfl ?_;unfold j35;simp only[go_sem,seval,auw];refine⟨by omega,?_⟩
 refine aZ Nat (λi=>[.int .i64 i, .vec 0 (nN l i).length]) (λi=>[.vec 67 4 ((nN l i).map kZ.aA)]) (λi=>i<=l.length) (λi=>l.length - i) 0 (by omega) ?_ rfl ?_
 ·simp only[go_sem,seval];rfl
 intro i hi;by_cases h1:i<l.length
 ·have h1':(i:Int)<l.length:=by omega
  have hw:z04.wrap ((i:Int)+1)=((i+1:Nat):Int):=aY;have hl1:=y8 (l:=l) i;have hil:i*l.length<=80*80:=z14 (by omega) (by omega)
  unfold agY;simp only[go_sem,seval,h1'];refine⟨by omega,?_⟩
  refine aZ Nat (λj=>[.int .i64 j, .vec 0 (nN l i++jD l i j).length]) (λj=>[.vec 67 4 ((nN l i++jD l i j).map kZ.aA), .blk 56 (aO.aA (l.getD i aO.aI))]) (λj=>j<=l.length) (λj=>l.length - j) 0 (by omega) ?_ ?_ ?_
  ·simp only[go_sem,seval];simp[jD]
  ·simp[jD,IE]
  intro j hj;by_cases h2:j<l.length
  ·have h2':(j:Int)<l.length:=by omega
   have MG:z04.wrap ((j:Int)+1)=((j+1:Nat):Int):=aY;have hl2:=yF (l:=l) (i:=i) j;unfold agX;simp only[go_sem,seval,h1',h2',MG,vk,rows_row h1,tY h1 h2];have mk:∀ K:Int,noRace l i j (l.getD i aO.aI) (l.getD j aO.aI)=false->jQ (l.getD i aO.aI) (l.getD j aO.aI)=K->jD l i (j+1)=jD l i j++[⟨i,j,(l.getD i aO.aI).obj,K⟩]:=by intro K h hk;rw[jD,if_neg (by rw[h];simp),hk]
   have fit:((nN l i).length+(jD l i j).length+1)*32<=140737488355328:=by omega
   refine⟨by omega,λ_=>⟨by omega,by omega⟩,λh=> ?_,λh=>⟨λkb=>⟨λka=> ?_,λka=> ?_⟩,λkb=>⟨λka=> ?_,λka=> ?_⟩⟩⟩
   ·have h:noRace l i j (l.getD i aO.aI) (l.getD j aO.aI)=true:=h;have e:jD l i (j+1)=jD l i j:=by rw[jD,if_pos h,z0l]
    exact⟨j+1,by omega,by omega,⟨rfl,by rw[e]⟩,by rw[e]⟩
   ·have e:=mk 3 h (by rw[jQ,if_pos ka])
    exact⟨by simpa only[z02,z06] using fit,j+1,by omega,by omega,⟨rfl,by rw[e];simp[z0d]⟩,by rw[e,z08];rfl⟩
   ·have e:=mk 2 h (by rw[jQ,if_neg ka,if_pos kb])
    exact⟨by simpa only[z02,z06] using fit,j+1,by omega,by omega,⟨rfl,by rw[e];simp[z0d]⟩,by rw[e,z08];rfl⟩
   ·have e:=mk 3 h (by rw[jQ,if_pos ka])
    exact⟨by simpa only[z02,z06] using fit,j+1,by omega,by omega,⟨rfl,by rw[e];simp[z0d]⟩,by rw[e,z08];rfl⟩
   ·have e:=mk 1 h (by rw[jQ,if_neg ka,if_neg kb])
    exact⟨by simpa only[z02,z06] using fit,j+1,by omega,by omega,⟨rfl,by rw[e];simp[z0d]⟩,by rw[e,z08];rfl⟩
  ·have h2':¬ (j:Int)<l.length:=by omega
   have e:j=l.length:=by omega
   subst e;unfold agX;simp only[go_sem,seval,h2'];unfold arS;simp only[go_sem,seval,hw];exact⟨i+1,by omega,by omega,⟨rfl,rfl⟩,by rw[nN,z08]⟩
 ·have h1':¬ (i:Int)<l.length:=by omega
  have e:i=l.length:=by omega
  subst e;unfold agY;simp only[go_sem,seval,h1'];unfold arT;simp only[go_sem,seval];exact⟨rfl,rfl⟩
end Go.Proofs.YtgnaipcjbmhihaaGreatDoor.Rc
end
end
namespace Go.Proofs.YtgnaipcjbmhihaaGreatDoor.D
theorem ahC(x y:Pr):nJ (.st [.int .i64, .int .i64]) (jo.aA x) (jo.aA y)=decide (x=y):=by obtain⟨a,b⟩:=x;obtain⟨c,d⟩:=y;simp only[ED,nJ,GY,z1a,Pr.mk.injEq,Bool.decide_and]
theorem ahD(a b:Int)(l:List Pr):gG (.st [.int .i64, .int .i64]) (.agg [.int .i64 a, .int .i64 b]) (.bool true) (yB jo l)=yB jo (Ov ⟨a,b⟩ l):=SN ahC ⟨a,b⟩ l
theorem ahE(a b:Int)(l:List Pr):obB (dQ (.st [.int .i64, .int .i64]) (.agg [.int .i64 a, .int .i64 b]) (yB jo l))=decide ((⟨a,b⟩:Pr)∈l):=aht ahC ⟨a,b⟩ l
attribute [go_sem] ahD ahE
end Go.Proofs.YtgnaipcjbmhihaaGreatDoor.D
namespace Go.Proofs.YtgnaipcjbmhihaaGreatDoor.Rc
open D Tr Ah Ps Od
def j93:JC:=(qN (oV 1 56 0<|qH 2 false<|.nil) (qN (oD 3 0 0 1<|o9 4 1 3<|oH 5 4 1<|o7 6 5<|.sc true 10 6 (oD 7 0 0 1<|o9 8 1 7<|oH 9 8 2<|.nil) (.t 9)<|o7 2 10<|.nil) .ret))
def j94:JC:=(qN (oV 2 56 0<|oV 3 56 1<|o8 4 0<|.nil) (.seq (.block 0 (qN (oD 6 0 0 2<|o9 7 1 6<|oH 8 7 2<|o7 9 8<|qL [9,3,2]<|.sc false 13 9 (oD 10 0 0 3<|o9 11 1 10<|oH 12 11 2<|.nil) (.t 12)<|o7 5 13<|.nil) (qM [5,2,3] (qO 5 (qN (o8 4 1<|.nil) .ret) (qN (oD 15 0 0 2<|o9 16 1 15<|oH 17 16 2<|o7 14 17<|.nil) (qO 14 (qN (o8 4 2<|.nil) .ret) (qN (qL [3]<|oD 19 0 0 3<|o9 20 1 19<|oH 21 20 2<|o7 18 21<|.nil) (qM [18] (qO 18 (qN (o8 4 3<|.nil) .ret) .skip))))))))) (qM [] (qN (o8 4 0<|.nil) .ret))))
def agT:JC:=(qN (oO 27 26 25<|.nil) (.seq (qO 27 .skip (.exit 0)) (.seq (.block 1 (qN (oK 28 2 24 26<|oC 29 2 28<|eo 8 (.alloc 131 (.agg [(.int .i64 0),(.int .i64 0)]))<|oG 2 8 29<|.nil) (qM [6,8,26,25,24,0] (.ops<|o7 30 6<|oC 31 2 8<|en (.mJ (.put (.st [(.int .i64),(.int .i64)]) .bool) [(.t 30),(.t 31),(B true)])<|.nil)))) (qM [26,25,24,6,0] (.ops<|oJ 32 26 1<|o7 26 32<|.nil)))))
def agU:JC:=(.seq (qN (o7 42 12<|o7 43 0<|oP 44 43<|oO 45 42 44<|.nil) (qO 45 .skip (.exit 4))) (qM [0,12,11,6,10,9,35,34,33] (.seq (.block 5 (qN (o7 48 0<|o7 49 12<|oK 50 3 48 49<|oC 51 3 50<|qK 13 56<|oG 3 13 51<|.nil) (qM [11,13,6,10,12,0,9,35,34,33] (.seq (qN (oC 52 3 11<|oM 53 93 52<|qF 54 53<|o7 55 54<|qL [55,13,11,6,10,12,0,9,35,34,33]<|.sc true 59 55 (oC 56 3 13<|oM 57 93 56<|qF 58 57<|.nil) (.t 58)<|o7 60 59<|.sc true 66 60 (oD 61 2 2 11<|o9 62 1 61<|oD 63 2 2 13<|o9 64 1 63<|qo 65 (.cmp .neq (.t 62) (.t 64))<|.nil) (.t 65)<|qL [66,6,10,12,0,11,9,35,34,33,13]<|o7 67 66<|.sc true 73 67 (o7 68 6<|o7 69 10<|o7 70 12<|qo 71 (.lF (.agg [(.int .i64 0),(.int .i64 0)]) [([.eG 0],0,1,(.t 69)),([.eG 1],1,1,(.t 70))])<|eo 72 (.mJ (.get (.st [(.int .i64),(.int .i64)]) .bool (.bool false) false) [(.t 68),(.t 71)])<|.nil) (.t 72)<|.nil) (qO 73 (.exit 5) .skip)) (qM [11,13,9,10,12,0,6,35,34,33] (qN (oC 74 3 11<|oC 75 3 13<|qE 76 94 74 75<|o7 14 76<|.nil) (qM [14,9,10,12,11,0,6,35,34,33] (qN (o7 77 14<|qC 78 77 0<|.nil) (qM [78,9,10,12,11,14,0,6,35,34,33] (qO 78 (.ops<|o7 79 9<|o7 80 10<|o7 81 12<|oD 82 2 2 11<|o9 83 1 82<|qL [14,80,81,83,79,12,0,11,6,10,35,34,33]<|o7 84 14<|qo 85 (.lF (.agg [(.int .i64 0),(.int .i64 0),(.int .i64 0),(.int .i64 0)]) [([.eG 0],0,1,(.t 80)),([.eG 1],1,1,(.t 81)),([.eG 2],2,1,(.t 83)),([.eG 3],3,1,(.t 84))])<|qL [85,79,12,0,11,6,10,35,34,33]<|eo 86 (.qj 67 4 1 (.agg [(.int .i64 0),(.int .i64 0),(.int .i64 0),(.int .i64 0)]) [(0,(.t 85))])<|oW 87 67 4 32 79 86<|o7 9 87<|.nil) .skip)))))))))) (qM [12,0,11,6,10,9,35,34,33] (.ops<|o7 46 12<|oJ 47 46 1<|o7 12 47<|.nil)))))
def arN:JC:=(qM [35,34,33,0,6,9] (.ops<|oJ 88 35 1<|o7 35 88<|.nil))
def agV:JC:=(qN (oO 36 35 34<|.nil) (.seq (qO 36 .skip (.exit 2)) (.seq (.block 3 (qN (o7 37 35<|oK 38 3 33 35<|oC 39 3 38<|qK 11 56<|o7 10 37<|oG 3 11 39<|.nil) (qM [10,0,11,6,9,35,34,33] (qN (o7 40 10<|oJ 41 40 1<|o7 12 41<|.nil) (qM [12,0,11,6,10,9,35,34,33] (.block 4 (.bn 9 67 4 (.loop [0,11,6,10,35,34,33] [12,9] agU)))))))) arN)))
def arO:JC:=(qM [9] (qN (o7 89 9<|o7 2 89<|o8 3 0<|.nil) (.bn 2 67 4 .ret)))
def arP:JC:=(qM [0,6] (qN (oU 9<|.nil) (.seq (qN (o7 33 0<|oP 34 33<|o8 35 0<|.nil) (.block 2 (.bn 9 67 4 (.loop [34,33,0,6] [35,9] agV)))) arO)))
def j53:JC:=(qN (oU 2<|o8 3 0<|.nil) (qN (o7 16 0<|oM 17 92 16<|o7 15 17<|oN 18 0 15<|oN 19 1 15<|o7 4 18<|o7 5 19<|.nil) (.seq (qN (o7 20 5<|qC 21 20 0<|.nil) (qM [21,5,4,0] (qO 21 (qN (o7 22 5<|oU 2<|o7 3 22<|.nil) (.bn 2 67 4 .ret)) .skip))) (qM [4,0] (qN (eo 23 (.mJ (.make (.st [(.int .i64),(.int .i64)]) .bool) [])<|o7 6 23<|.nil) (.seq (qN (o7 24 4<|oP 25 24<|o8 26 0<|.nil) (.block 0 (.loop [25,24,6,0] [26] agT))) arP))))))
def RY(e:Ev):Bool:=decide (e.kind=1)||decide (e.kind=2)
theorem Wq(e:Ev):FnOK Tryz.prog 93 [aO.aA e] [] (.bool (RY e)) []:=by refine fn_walkA j93 [.tmp 2] 11 FH.none_ok rfl ?_;unfold j93;simp only[go_sem,seval];rfl
def FM(a b:Ev):Int:=if a.kind=2/\b.kind=2 then 1 else if a.kind=2 then 2 else if b.kind=2 then 3 else 0
theorem agW(a b:Ev):FnOK Tryz.prog 94 [aO.aA a,aO.aA b] [] (.int .i64 (FM a b)) []:=by refine fn_walkA j94 [.tmp 4] 22 FH.none_ok rfl ?_;unfold j94;simp only[go_sem,seval];unfold FM;refine⟨λh=> ?_,λh=>⟨λh2=> ?_,λh2=>⟨λh3=> ?_,λh3=> ?_⟩⟩⟩<;>simp_all
theorem vS{l:List Ev}(hok:(aF l).2=0){i j:Nat}(hij:i<j)(hj:j<l.length):
  (!RY (l.getD i aO.aI)|| !RY (l.getD j aO.aI)|| !decide ((l.getD i aO.aI).obj=(l.getD j aO.aI).obj)||bI l i j)=false->noRace l i j (l.getD i aO.aI) (l.getD j aO.aI)=decide (FM (l.getD i aO.aI) (l.getD j aO.aI)=0)/\(FM (l.getD i aO.aI) (l.getD j aO.aI)≠0->FM (l.getD i aO.aI) (l.getD j aO.aI)=jQ (l.getD i aO.aI) (l.getD j aO.aI)):=by
 intro h;simp only[z0b,Bool.not_eq_false',RY,z05,decide_eq_true_eq] at h;obtain⟨⟨⟨h1,h2⟩,h3⟩,h4⟩:=h;have hw:∀ x y:Int,(x=1\/x=2)->(y=1\/y=2)->z04.wrap (x+y)=x+y:=λx y hx hy=>aY;unfold noRace FM jQ;rw[hw _ _ h1 h2,h4,h3];generalize l.getD i aO.aI=a at h1 ⊢;generalize l.getD j aO.aI=b at h2 ⊢;rcases h1 with h1|h1<;>rcases h2 with h2|h2<;>simp[h1,h2,show ¬ (j:Int)<=i by omega]
theorem skipped{l:List Ev}(hok:(aF l).2=0){i j:Nat}(hij:i<j)(hj:j<l.length)(h:(!RY (l.getD i aO.aI)|| !RY (l.getD j aO.aI)|| !decide ((l.getD i aO.aI).obj=(l.getD j aO.aI).obj)||bI l i j)=true):
  noRace l i j (l.getD i aO.aI) (l.getD j aO.aI)=true:=by
 have k:∀ t,t<l.length->1<=(l.getD t aO.aI).kind:=λt ht=>by
  obtain⟨b1,b2,b3,b4⟩:=(bC _).1 (jq hok t ht);unfold many at b4;split at b4
  ·omega
  ·split at b4
   ·omega
   ·split at b4
    ·omega
    ·split at b4<;>omega
 have k1:=k i (by omega)
 have k2:=k j hj;simp only[RY,z05,z0e,z0b,decide_eq_false_iff_not] at h;unfold noRace;simp only[z05,decide_eq_true_eq,z0e,decide_eq_false_iff_not];rcases h with((h|h)|h)|h
 ·exact .inl (.inl (.inl (.inl (.inr (by omega)))))
 ·exact .inl (.inl (.inl (.inr (by omega))))
 ·exact .inl (.inl (.inr h))
 ·exact .inr h
theorem Ad{l:List Ev}{i j:Nat}:jD l i (j+1)=jD l i j++if noRace l i j (l.getD i aO.aI) (l.getD j aO.aI)=true then[] else[⟨i,j,(l.getD i aO.aI).obj,jQ (l.getD i aO.aI) (l.getD j aO.aI)⟩]:=rfl
theorem Ja{l:List Ev}{i:Nat}:∀ j,j<=i+1->jD l i j=[]
 |0,_=>rfl
 |j+1,h=>by
  rw[Ad,Ja j (by omega),if_pos]
  ·rfl
  ·simp only[noRace,show(j:Int)<=i by omega,decide_true,Bool.true_or]
theorem RZ{p:Nat->Nat->Bool}{i:Nat}{x:Pr}:∀ j,x∈rowP p i j↔∃ k,k<j/\p i k=true/\x=⟨i,k⟩
 |0=>by simp[rowP]
 |j+1=>by
  rw[rowP,z1e,RZ j];constructor
  ·rintro(⟨k,h1,h2⟩|h)
   ·exact⟨k,by omega,h2⟩
   ·split at h
    ·rename_i hp;exact⟨j,by omega,hp,z0o.1 h⟩
    ·cases h
  ·rintro⟨k,h1,h2,h3⟩;by_cases e:k=j
   ·subst e;right;rw[if_pos h2];exact z0o.2 h3
   ·exact .inl ⟨k,by omega,h2,h3⟩
theorem Si{p:Nat->Nat->Bool}{n:Nat}{x:Pr}:∀ i,x∈fD p n i↔∃ a b,a<i/\b<n/\p a b=true/\x=⟨a,b⟩
 |0=>by simp[fD]
 |i+1=>by
  rw[fD,z1e,Si i,RZ];constructor
  ·rintro(⟨a,b,h1,h2⟩|⟨k,h1,h2⟩)
   ·exact⟨a,b,by omega,h2⟩
   ·exact⟨i,k,by omega,h1,h2⟩
  ·rintro⟨a,b,h1,h2,h3,h4⟩;by_cases e:a=i
   ·subst e;exact .inr ⟨b,h2,h3,h4⟩
   ·exact .inl ⟨a,b,by omega,h2,h3,h4⟩
def Dv(l:List Ev):List Rc:=if (aK l).2.2=0 then aU l else[]
def Gra(f:FuncId)(a:List SV)(m:List ay):Sx.Call:=(FH.mk 92 (.one dw) (λ_=>True) (λy=> .bK [.vec 0 (tZ y.1 (Ik y.1)).length, .int .i64 (aK y.1).2.2]) (λy=>[.vec 131 2 ((tZ y.1 (Ik y.1)).map jo.aA)])<|
 FH.rd 93 (.one aO) (.one .bool) (λ_=>True) (λy=>RY y.1)<|FH.rd 94 (.two aO aO) (.one .int) (λ_=>True) (λy=>FM y.1 y.2.1) FH.none) f a m
theorem Ws:type_of% (nq Gra.eq_1):=nq Gra.eq_1
theorem auv:aW Tryz.prog Gra:=FH.eu (λy _=>cZ (fU ⟨fE _ _,fF _ _,trivial⟩) ⟨bY _ _ jo _,trivial⟩) (λy _=>ae' y.1)<|
 FH.aT (λy _=>Wq y.1)<|FH.aT (λy _=>agW y.1 y.2.1) FH.none_ok
theorem anE{l:List Pr}{i:Nat}(h:i<l.length):(l.map jo.aA).getD i .junk= .agg [.int .i64 (l.getD i jo.aI).a, .int .i64 (l.getD i jo.aI).b]:=by simp[z0c,h,ED]
theorem arQ(l:List Ev):FnOK Tryz.prog 53 [dw.aA l] [] (.bK [.vec 0 (Dv l).length, .int .i64 (aK l).2.2]) [.vec 67 4 ((Dv l).map kZ.aA)]:=by
 refine fn_walkA j53 [.tmp 2, .tmp 3] 90 auv rfl ?_;unfold j53;by_cases h:(aK l).2.2=0
 ·have hok:(aF l).2=0:=by rw[<- iE];exact h
  have hl:=bP hok;have hB:tZ l (Ik l)=fD (bI l) l.length l.length:=by rw[tZ,if_pos h];exact aaG l
  have hBl:=yR (bI l) l.length l.length;have hll:l.length*l.length<=80*80:=z14 (by omega) (by omega)
  have hmem:∀ a b:Nat,a<l.length->b<l.length->((⟨a,b⟩:Pr)∈fD (bI l) l.length l.length↔bI l a b=true):=λa b ha hb=>by
   rw[Si];constructor
   ·rintro⟨a',b',_,_,h3,h4⟩;injection h4 with e1 e2;rw[show a=a' by omega,show b=b' by omega];exact h3
   ·intro h3;exact⟨a,b,ha,hb,h3,rfl⟩
  rw[Dv,if_pos h];simp only[go_sem,seval,Ws,h,hB];generalize fD (bI l) l.length l.length=B at hBl hmem ⊢;refine aZ (Nat×List Pr) (λi=>[.int .i64 i.1]) (λi=>[.vec 131 2 (B.map jo.aA), .mp (.st [.int .i64, .int .i64]) .bool (yB jo i.2)])
   (λi=>i.1<=B.length/\∀ p,p∈i.2↔p∈B.take i.1) (λi=>B.length - i.1) (0,[]) ⟨by simp,λp=>by simp⟩ ?_ rfl ?_
  ·simp only[go_sem,seval]
  rintro⟨i,L⟩ ⟨hi,hinv⟩;simp only at hi hinv;by_cases h1:i<B.length
  ·have h1':(i:Int)<B.length:=by omega
   unfold agT;simp only[go_sem,seval,h1,h1',anE h1];refine⟨by omega,(i+1,Ov (B.getD i jo.aI) L),⟨by omega,λp=> ?_⟩,by omega,aY,rfl⟩
   rw[Rf,hinv,bH jo.aI h1];simp[or_comm]
  ·have h1':¬ (i:Int)<B.length:=by omega
   have e:i=B.length:=by omega
   subst e;rw[z0r] at hinv;unfold agT;simp only[go_sem,seval,h1'];unfold arP;simp only[go_sem,seval];have hq:∀ a b:Nat,a<l.length->b<l.length->decide ((⟨a,b⟩:Pr)∈L)=bI l a b:=λa b ha hb=>by rw[z0x,decide_eq_true_eq,hinv,hmem a b ha hb]
   refine aZ Nat (λi=>[.int .i64 i, .vec 2 (nN l i).length]) (λi=>[.vec 131 2 (B.map jo.aA), .mp (.st [.int .i64, .int .i64]) .bool (yB jo L), .vec 67 4 ((nN l i).map kZ.aA)]) (λi=>i<=l.length) (λi=>l.length - i) 0 (by omega) ?_ rfl ?_
   ·simp only[go_sem,seval];rfl
   intro i hi;by_cases h1:i<l.length
   ·have h1':(i:Int)<l.length:=by omega
    have hw:z04.wrap ((i:Int)+1)=((i+1:Nat):Int):=aY;have hl1:=y8 (l:=l) i;have hil:i*l.length<=80*80:=z14 (by omega) (by omega)
    unfold agV;simp only[go_sem,seval,h1',hw];refine⟨by omega,?_⟩
    refine aZ Nat (λj=>[.int .i64 j, .vec 2 (nN l i++jD l i j).length]) (λj=>[.vec 131 2 (B.map jo.aA), .mp (.st [.int .i64, .int .i64]) .bool (yB jo L), .vec 67 4 ((nN l i++jD l i j).map kZ.aA), .blk 56 (aO.aA (l.getD i aO.aI))]) (λj=>i+1<=j/\j<=l.length) (λj=>l.length - j) (i+1) (by omega) ?_ ?_ ?_
    ·simp only[go_sem,seval];simp[Ja (l:=l) (i+1) (z03 _)]
    ·simp[Ja (l:=l) (i+1) (z03 _),IE]
    intro j hj;by_cases h2:j<l.length
    ·have h2':(j:Int)<l.length:=by omega
     have MG:z04.wrap ((j:Int)+1)=((j+1:Nat):Int):=aY;have hl2:=yF (l:=l) (i:=i) j;unfold agU;simp only[go_sem,seval,Ws,h2',MG,hq i j h1 h2];have fit:((nN l i).length+(jD l i j).length+1)*32<=140737488355328:=by omega
     have hk:=vS hok (i:=i) (j:=j) (by omega) h2
     refine⟨by omega,λh3=> ?_,λh3=>⟨λh4=> ?_,λh4=> ?_⟩⟩
     ·have e:jD l i (j+1)=jD l i j:=by rw[Ad,if_pos (skipped hok (by omega) h2 h3),z0l]
      exact⟨j+1,by omega,by omega,⟨rfl,by rw[e]⟩,by rw[e]⟩
     ·obtain⟨k1,k2⟩:=hk h3;have e:jD l i (j+1)=jD l i j++[⟨i,j,(l.getD i aO.aI).obj,FM (l.getD i aO.aI) (l.getD j aO.aI)⟩]:=by rw[Ad,k1,if_neg (by simpa using h4),k2 h4]
      exact⟨by simpa only[z02,z06] using fit,j+1,by omega,by omega,⟨rfl,by rw[e];simp[z0d]⟩,by rw[e,z08];rfl⟩
     ·obtain⟨k1,k2⟩:=hk h3;have e:jD l i (j+1)=jD l i j:=by rw[Ad,k1,if_pos (by simpa using h4),z0l]
      exact⟨j+1,by omega,by omega,⟨rfl,by rw[e]⟩,by rw[e]⟩
    ·have h2':¬ (j:Int)<l.length:=by omega
     have e:j=l.length:=by omega
     subst e;unfold agU;simp only[go_sem,seval,h2'];unfold arN;simp only[go_sem,seval,hw];exact⟨i+1,by omega,by omega,⟨rfl,rfl⟩,by rw[nN,z08]⟩
   ·have h1':¬ (i:Int)<l.length:=by omega
    have e:i=l.length:=by omega
    subst e;unfold agV;simp only[go_sem,seval,h1'];unfold arO;simp only[go_sem,seval];rw[h];exact⟨rfl,rfl⟩
 ·simp only[go_sem,seval,Ws,h];simp[Dv,h]
end Go.Proofs.YtgnaipcjbmhihaaGreatDoor.Rc
namespace Go.Proofs.YtgnaipcjbmhihaaGreatDoor.C
open D
def avO:JC:=(qN (o8 2 0<|.nil) (.seq (.bJ<|o7 3 0<|qB 4 1 3 0<|o9 5 1 4<|o7 6 0<|qB 7 1 6 1<|o9 8 1 7<|qo 9 (.mx (.t 5) (.t 8))<|o7 2 9<|.nil) .ret))
def ai3:JC:=(qN (qA 11 10 6<|.nil) (.seq (qO 11 .skip (.exit 0)) (.seq (.block 1 (qN (o7 12 10<|qo 13 (.ix 6 1 false (.t 9) (.t 10))<|o7 7 12<|o7 8 13<|.nil) (qM [7,2,3,8,10,9,6] (.ops<|o7 14 7<|o7 15 2<|o7 16 7<|oL 17 6 1 3 16<|o9 18 1 17<|qL [8,18,15,3,14,10,9,2,6]<|o7 19 8<|eo 20 (.qj 3 1 2 (.int .i64 0) [(0,(.t 18)),(1,(.t 19))])<|qL [15,20,3,14,10,9,2,6]<|eo 21 (.jm (.t 15) [(.t 20)])<|oL 22 6 1 3 14<|oG 1 22 21<|.nil)))) (qM [10,9,2,3,6] (.ops<|oJ 23 10 1<|o7 10 23<|.nil)))))
def ai4:JC:=(qM [3,6] (qN (oC 24 6 3<|oG 6 6 24<|.nil) .ret))
def avP:JC:=(qN (oV 3 70 0<|oV 4 70 1<|eo 6 (.alloc 70 (.arr 6 1 λ_=>(.int .i64 0)))<|.nil) (.seq (qN (oC 9 6 4<|o8 10 0<|.nil) (.block 0 (.loop [9,2,3,6] [10] ai3))) ai4))
def avQ:JC:=(qN (oV 2 70 0<|oV 3 70 1<|eo 4 (.alloc 70 (.arr 6 1 λ_=>(.int .i64 0)))<|.nil) (qN (oC 5 6 2<|oC 6 6 3<|eo 7 (.call 166 [(.t 5),(.t 6),(.c (.fn 167 []))])<|oG 6 4 7<|.nil) .ret))
def mxI(a b:Int):Int:=if a<b then b else a
theorem ab1(l:List Int)(h:2<=l.length):FnOK Tryz.prog 167 [(DT.list 1 DT.int).aA l] [] (.int .i64 (mxI (l.getD 0 0) (l.getD 1 0))) []:=by
 refine fn_walkA avO [.tmp 2] 10 FH.none_ok rfl ?_;unfold avO;simp only[go_sem,seval]
 first|exact⟨by omega,by omega,rfl⟩|exact⟨by omega,by omega⟩|exact⟨⟨by omega,by omega⟩,⟨by omega,by omega⟩,rfl⟩
def ai5(f:FuncId)(a:List SV)(m:List ay):Sx.Call:=(FH.rd 167 (.one (DT.list 1 DT.int)) (.one .int) (λy=>2<=y.1.length) (λy=>mxI (y.1.getD 0 0) (y.1.getD 1 0)) FH.none) f a m
theorem ai6:type_of% (nq ai5.eq_1):=nq ai5.eq_1
theorem ai7:aW Tryz.prog ai5:=FH.aT (λy h=>ab1 y.1 h) FH.none_ok
def mrg(g:Int->Int->Int)(a b:ji)(n:Nat):ji:=λk=>if k<n then g (a k) (b k) else a k
theorem ai8(g:Int->Int->Int)(a b:ji)(n k:Nat):(if k=n then g (a n) (b n) else mrg g a b n k)=mrg g a b (n+1) k:=by
 unfold mrg;by_cases h:k=n
 ·subst h;simp
 ·by_cases h2:k<n
  ·simp[h,h2,Nat.lt_succ_of_lt h2]
  ·simp[h,h2,show ¬ k<n+1 by omega]
theorem avR(g:Int->Int->Int)(a b:ji)(n:Nat):mrg g a b n n=a n:=by simp[mrg]
theorem GZ:qm Tryz.prog 70=some (6,true):=by kernel_rfl
theorem ai9(a b:ji):FnOK Tryz.prog 166 [bU.aA a,bU.aA b, .fn 167 []] [] (bU.aA (mrg mxI a b 6)) []:=by
 refine fn_walkA avP [.cell 6 70] 25 ai7 rfl ?_;unfold avP;simp only[go_sem,seval];refine aZ Nat (λi=>[.int .i64 i]) (λi=>[.blk 70 (bU.aA (mrg mxI a b i)), .blk 70 (bU.aA b), .blk 70 (bU.aA λ_=>0)]) (λi=>i<=6) (λi=>6 - i) 0 (by omega) ?_ ?_ ?_
 ·simp only[go_sem,seval]
 ·rfl
 ·intro i hi;unfold ai3;simp only[go_sem,seval,ai6];refine⟨λh=>⟨by omega,by omega,by omega,i+1,by omega,by omega,?_,?_⟩,λh=> ?_⟩
  ·exact aY
  ·simp only[avR,ai8]
  ·rw[show i=6 by omega]
   unfold ai4;simp only[go_sem,seval,GZ]
def iT(a b:ji):ji:=mrg mxI a b 6
def Gm(f:FuncId)(a:List SV)(m:List ay):Sx.Call:=(FH.rd 166 (.three bU bU DT.fnc) (.one bU) (λy=>y.2.2.1=167) (λy=>iT y.1 y.2.1) FH.none) f a m
theorem ai':type_of% (nq Gm.eq_1):=nq Gm.eq_1
theorem aja:aW Tryz.prog Gm:=FH.aT (λy h=>by obtain⟨a,b,f,u⟩:=y;simp only at h;subst h;exact ai9 a b) FH.none_ok
theorem wZ(a b:ji):FnOK Tryz.prog 139 [bU.aA a,bU.aA b] [] (bU.aA (iT a b)) []:=by refine fn_walkA avQ [.cell 4 70] 8 aja rfl ?_;unfold avQ;simp only[go_sem,seval,ai',GZ]
end Go.Proofs.YtgnaipcjbmhihaaGreatDoor.C
