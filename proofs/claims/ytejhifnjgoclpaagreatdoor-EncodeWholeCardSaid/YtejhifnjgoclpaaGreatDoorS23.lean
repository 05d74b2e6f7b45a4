/- Parts of the proofs, put together by a program. -/
import Derived.Test.YtejhifnjgoclpaaGreatDoorS22
import Derived.Shelf.LaysM
import Derived.Shelf.Strconv.Itoa3
set_option linter.unusedVariables false
set_option linter.unusedSimpArgs false
namespace Go.Proofs
open Go.Shelf
def Tryz.ajO:Go.Shelf.Ren:=⟨fun|171=>444 |243=>454 |246=>457 |283=>460 |284=>461 |285=>462 |286=>463 |129=>215 |317=>464 |318=>465 |319=>466 |320=>467 |337=>468 |338=>469 |n=>n,fun|3=>3 |9=>9 |2=>2 |4=>4 |171=>557 |0=>0 |53=>146 |37=>472 |5=>5 |173=>559 |212=>562 |51=>102 |20=>20 |213=>563 |46=>260 |232=>564 |233=>565 |n=>n,fun|17=>4 |18=>5 |19=>6 |n=>n⟩
theorem Tryz.ao8:Go.Proofs.LaysM.n171 Tryz.prog Tryz.ajO:={
 mixed:=by kernel_rfl
 f129:=Tryz.func215.trans (congrArg some (by kernel_rfl))
 f171:=Tryz.func444.trans (congrArg some (by kernel_rfl))
 f243:=Tryz.func454.trans (congrArg some (by kernel_rfl))
 f246:=Tryz.func457.trans (congrArg some (by kernel_rfl))
 f283:=Tryz.func460.trans (congrArg some (by kernel_rfl))
 f284:=Tryz.func461.trans (congrArg some (by kernel_rfl))
 f285:=Tryz.func462.trans (congrArg some (by kernel_rfl))
 f286:=Tryz.func463.trans (congrArg some (by kernel_rfl))
 f317:=Tryz.func464.trans (congrArg some (by kernel_rfl))
 f318:=Tryz.func465.trans (congrArg some (by kernel_rfl))
 f319:=Tryz.func466.trans (congrArg some (by kernel_rfl))
 f320:=Tryz.func467.trans (congrArg some (by kernel_rfl))
 f337:=Tryz.func468.trans (congrArg some (by kernel_rfl))
 f338:=Tryz.func469.trans (congrArg some (by kernel_rfl))
 t0:=Tryz.underlying0
 a0:=Tryz.isAgg0
 z0:=Tryz.sizeOf0
 v0:=Tryz.zeroValue0
 t2:=Tryz.underlying2
 a2:=Tryz.isAgg2
 z2:=Tryz.sizeOf2
 v2:=Tryz.zeroValue2
 t3:=Tryz.underlying3
 a3:=Tryz.isAgg3
 z3:=Tryz.sizeOf3
 v3:=Tryz.zeroValue3
 t4:=Tryz.underlying4
 a4:=Tryz.isAgg4
 z4:=Tryz.sizeOf4
 v4:=Tryz.zeroValue4
 t5:=Tryz.underlying5
 a5:=Tryz.isAgg5
 z5:=Tryz.sizeOf5
 v5:=Tryz.zeroValue5
 t9:=Tryz.underlying9
 a9:=Tryz.isAgg9
 z9:=Tryz.sizeOf9
 v9:=Tryz.zeroValue9
 t20:=Tryz.underlying20
 a20:=Tryz.isAgg20
 z20:=Tryz.sizeOf20
 v20:=Tryz.zeroValue20
 t37:=Tryz.underlying472
 a37:=Tryz.isAgg472
 z37:=Tryz.sizeOf472
 v37:=Tryz.zeroValue472
 t46:=Tryz.underlying260
 a46:=Tryz.isAgg260
 z46:=Tryz.sizeOf260
 v46:=Tryz.zeroValue260
 t51:=Tryz.underlying102
 a51:=Tryz.isAgg102
 z51:=Tryz.sizeOf102
 v51:=Tryz.zeroValue102
 t53:=Tryz.underlying146
 a53:=Tryz.isAgg146
 z53:=Tryz.sizeOf146
 v53:=Tryz.zeroValue146
 t171:=Tryz.underlying557
 a171:=Tryz.isAgg557
 z171:=Tryz.sizeOf557
 v171:=Tryz.zeroValue557
 t173:=Tryz.underlying559
 a173:=Tryz.isAgg559
 z173:=Tryz.sizeOf559
 v173:=Tryz.zeroValue559
 t212:=Tryz.underlying562
 a212:=Tryz.isAgg562
 z212:=Tryz.sizeOf562
 v212:=Tryz.zeroValue562
 t213:=Tryz.underlying563
 a213:=Tryz.isAgg563
 z213:=Tryz.sizeOf563
 t232:=Tryz.underlying564
 a232:=Tryz.isAgg564
 z232:=Tryz.sizeOf564
 v232:=Tryz.zeroValue564
 t233:=Tryz.underlying565
 a233:=Tryz.isAgg565
 z233:=Tryz.sizeOf565
 v233:=Tryz.zeroValue565
 g17:=by kernel_rfl
 g18:=by kernel_rfl
 g19:=by kernel_rfl
 i0:=by kernel_rfl
 i2:=by kernel_rfl
 i3:=by kernel_rfl
 i4:=by kernel_rfl
 i5:=by kernel_rfl
 i9:=by kernel_rfl
 i20:=by kernel_rfl
 i37:=by kernel_rfl
 i46:=by kernel_rfl
 i51:=by kernel_rfl
 i53:=by kernel_rfl
 i171:=by kernel_rfl
 i173:=by kernel_rfl
 i212:=by kernel_rfl
 i232:=by kernel_rfl
 i233:=by kernel_rfl
 m17:=by kernel_rfl
 m18:=by kernel_rfl
 m19:=by kernel_rfl}
open Go.RowKit Go.Sort Go.Lib in
theorem Tryz.strconv_Itoa (n:Int) (h0: -9223372036854775808<=n) (h1:n<=9223372036854775807) (w:World) (D:Lib.TabIs Tryz.prog w "internal/strconv.uint64pow10" .u64 Lib.pow10Tab):
 Calls Tryz.prog 444 #[.int .i64 n] w fun e w'=>e=.returned (.string ⟨(Lib.itoa n).toArray⟩)/\ ∃k os,w'=grow (w.drewN k) os:=Any.strconv_Itoa Tryz.ao8 n h0 h1 w D
end Go.Proofs
