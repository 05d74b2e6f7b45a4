/- Parts of the proofs, put together by a program. -/
import Derived.Test.YtejhifnjgoclpaaGreatDoorE9
import Derived.Shelf.Strings.Builder1
import Derived.Shelf.LaysM
import Derived.Shelf.Strconv.Itoa3
import Derived.Lib.OwnBridge
import Derived.Lib.RowBridge
import Derived.Lib.SlicesCompact
import Derived.Conc.MuLone
import Derived.Defers
import Derived.Recover
import Derived.Laws.Pointers
set_option linter.unusedVariables false
set_option linter.unusedSimpArgs false
open Option renaming bind_some->aa7,bind_eq_some_iff->at8
open List renaming getElem_mem->ab7,length_cons->af2,append_nil->ag5,map_append->ag9,mem_singleton->ah3,drop_eq_getElem_cons->ak7,length_take->am9,take_length->as1,length_nil->as5,length_pos_iff->at0,all_cons->at1,length_drop->at6,length_eq_zero_iff->au1,drop_eq_nil_of_le->au2,foldl_cons->au9
open Nat renaming le_refl->ab8,zero_le->ae3,eq_of_beq_eq_true->al2
open Bool renaming and_eq_true->ad0,not_true->ae8,true_and->at4,and_true->av6,and_false->av7
open Int renaming toNat_natCast->ae9
namespace Go.Proofs
open Go.Shelf
def Tryz.Ff:Go.Shelf.Ren:=⟨λ|166=>422 |167=>421 |169=>424 |240=>443 |276=>453 |n=>n,λ|0=>0 |3=>3 |4=>4 |5=>5 |9=>9 |20=>20 |37=>472 |70=>526 |72=>528 |75=>530 |80=>232 |127=>543 |164=>552 |n=>n,λ|n=>n⟩
theorem Tryz.bm:Go.Proofs.Lays.n240 Tryz.prog Tryz.Ff:={
 mixed:=by kernel_rfl
 f240:=Tryz.func443.trans (congrArg some (by kernel_rfl))
 f276:=Tryz.func453.trans (congrArg some (by kernel_rfl))
 t0:=Tryz.underlying0
 a0:=Tryz.isAgg0
 z0:=Tryz.sizeOf0
 v0:=Tryz.zeroValue0
 t4:=Tryz.underlying4
 a4:=Tryz.isAgg4
 z4:=Tryz.sizeOf4
 v4:=Tryz.zeroValue4
 t9:=Tryz.underlying9
 a9:=Tryz.isAgg9
 z9:=Tryz.sizeOf9
 v9:=Tryz.zeroValue9
 t20:=Tryz.underlying20
 a20:=Tryz.isAgg20
 z20:=Tryz.sizeOf20
 v20:=Tryz.zeroValue20
 t70:=Tryz.underlying526
 a70:=Tryz.isAgg526
 z70:=Tryz.sizeOf526
 v70:=Tryz.zeroValue526
 t72:=Tryz.underlying528
 a72:=Tryz.isAgg528
 z72:=Tryz.sizeOf528
 v72:=Tryz.zeroValue528
 t164:=Tryz.underlying552
 a164:=Tryz.isAgg552
 z164:=Tryz.sizeOf552
 v164:=Tryz.zeroValue552
 }
theorem Tryz.mJ:Go.Proofs.Lays.n167 Tryz.prog Tryz.Ff:={
 mixed:=Tryz.bm.mixed
 f167:=Tryz.func421.trans (congrArg some (by kernel_rfl))
 f240:=Tryz.bm.f240
 f276:=Tryz.bm.f276
 t0:=Tryz.bm.t0
 a0:=Tryz.bm.a0
 z0:=Tryz.bm.z0
 v0:=Tryz.bm.v0
 t4:=Tryz.bm.t4
 a4:=Tryz.bm.a4
 z4:=Tryz.bm.z4
 v4:=Tryz.bm.v4
 t5:=Tryz.underlying5
 a5:=Tryz.isAgg5
 z5:=Tryz.sizeOf5
 v5:=Tryz.zeroValue5
 t9:=Tryz.bm.t9
 a9:=Tryz.bm.a9
 z9:=Tryz.bm.z9
 v9:=Tryz.bm.v9
 t20:=Tryz.bm.t20
 a20:=Tryz.bm.a20
 z20:=Tryz.bm.z20
 v20:=Tryz.bm.v20
 t37:=Tryz.underlying472
 a37:=Tryz.isAgg472
 z37:=Tryz.sizeOf472
 v37:=Tryz.zeroValue472
 t70:=Tryz.bm.t70
 a70:=Tryz.bm.a70
 z70:=Tryz.bm.z70
 v70:=Tryz.bm.v70
 t72:=Tryz.bm.t72
 a72:=Tryz.bm.a72
 z72:=Tryz.bm.z72
 v72:=Tryz.bm.v72
 t75:=Tryz.underlying530
 a75:=Tryz.isAgg530
 z75:=Tryz.sizeOf530
 v75:=Tryz.zeroValue530
 t164:=Tryz.bm.t164
 a164:=Tryz.bm.a164
 z164:=Tryz.bm.z164
 v164:=Tryz.bm.v164
 }
theorem Tryz.FJ:Go.Proofs.Lays.n166 Tryz.prog Tryz.Ff:={
 mixed:=Tryz.bm.mixed
 f166:=Tryz.func422.trans (congrArg some (by kernel_rfl))
 f240:=Tryz.bm.f240
 f276:=Tryz.bm.f276
 t0:=Tryz.bm.t0
 a0:=Tryz.bm.a0
 z0:=Tryz.bm.z0
 v0:=Tryz.bm.v0
 t3:=Tryz.underlying3
 a3:=Tryz.isAgg3
 z3:=Tryz.sizeOf3
 v3:=Tryz.zeroValue3
 t4:=Tryz.bm.t4
 a4:=Tryz.bm.a4
 z4:=Tryz.bm.z4
 v4:=Tryz.bm.v4
 t9:=Tryz.bm.t9
 a9:=Tryz.bm.a9
 z9:=Tryz.bm.z9
 v9:=Tryz.bm.v9
 t20:=Tryz.bm.t20
 a20:=Tryz.bm.a20
 z20:=Tryz.bm.z20
 v20:=Tryz.bm.v20
 t37:=Tryz.mJ.t37
 a37:=Tryz.mJ.a37
 z37:=Tryz.mJ.z37
 v37:=Tryz.mJ.v37
 t70:=Tryz.bm.t70
 a70:=Tryz.bm.a70
 z70:=Tryz.bm.z70
 v70:=Tryz.bm.v70
 t72:=Tryz.bm.t72
 a72:=Tryz.bm.a72
 z72:=Tryz.bm.z72
 v72:=Tryz.bm.v72
 t75:=Tryz.mJ.t75
 a75:=Tryz.mJ.a75
 z75:=Tryz.mJ.z75
 v75:=Tryz.mJ.v75
 t164:=Tryz.bm.t164
 a164:=Tryz.bm.a164
 z164:=Tryz.bm.z164
 v164:=Tryz.bm.v164
 }
theorem Tryz.ao9:Go.Proofs.Lays.n169 Tryz.prog Tryz.Ff:={
 mixed:=Tryz.bm.mixed
 f169:=Tryz.func424.trans (congrArg some (by kernel_rfl))
 t0:=Tryz.bm.t0
 a0:=Tryz.bm.a0
 z0:=Tryz.bm.z0
 v0:=Tryz.bm.v0
 t3:=Tryz.FJ.t3
 a3:=Tryz.FJ.a3
 z3:=Tryz.FJ.z3
 v3:=Tryz.FJ.v3
 t9:=Tryz.bm.t9
 a9:=Tryz.bm.a9
 z9:=Tryz.bm.z9
 v9:=Tryz.bm.v9
 t37:=Tryz.mJ.t37
 a37:=Tryz.mJ.a37
 z37:=Tryz.mJ.z37
 v37:=Tryz.mJ.v37
 t70:=Tryz.bm.t70
 a70:=Tryz.bm.a70
 z70:=Tryz.bm.z70
 v70:=Tryz.bm.v70
 t72:=Tryz.bm.t72
 a72:=Tryz.bm.a72
 z72:=Tryz.bm.z72
 v72:=Tryz.bm.v72
 t127:=Tryz.underlying543
 a127:=Tryz.isAgg543
 z127:=Tryz.sizeOf543
 v127:=Tryz.zeroValue543
 }
theorem Tryz.Qd:Builder.Extra Tryz.prog Tryz.Ff where
 sizeBuilder:=by kernel_rfl
 liesBuilder:=by kernel_rfl
 t5:=Tryz.underlying5
 a5:=Tryz.isAgg5
 z5:=Tryz.sizeOf5
 v5:=Tryz.zeroValue5
 infoByte:=by kernel_rfl
 cellsByte:=by kernel_rfl
 sizeByte:=by kernel_rfl
 neB5:=by decide
open Go.RowKit
end Go.Proofs
namespace Go.Proofs
open Go.Shelf
def Tryz.ajO:Go.Shelf.Ren:=⟨λ|171=>444 |243=>454 |246=>457 |283=>460 |284=>461 |285=>462 |286=>463 |129=>215 |317=>464 |318=>465 |319=>466 |320=>467 |337=>468 |338=>469 |n=>n,λ|3=>3 |9=>9 |2=>2 |4=>4 |171=>557 |0=>0 |53=>146 |37=>472 |5=>5 |173=>559 |212=>562 |51=>102 |20=>20 |213=>563 |46=>260 |232=>564 |233=>565 |n=>n,λ|17=>4 |18=>5 |19=>6 |n=>n⟩
theorem Tryz.ao8:Go.Proofs.LaysM.n171 Tryz.prog Tryz.ajO:={
 mixed:=by kernel_rfl
 f129:=Tryz.func215.trans (congrArg some (by kernel_rfl))
 f171:=Tryz.func444.trans (congrArg some (by kernel_rfl))
 f243:=Tryz.func454.trans (congrArg some (by kernel_rfl))
 f246:=Tryz.func457.trans (congrArg some (by kernel_rfl))
 f283:=Tryz.func460.trans (congrArg some (by kernel_rfl))
 f284:=Tryz.func461.trans (congrArg some (by kernel_rfl))
 f285:=Tryz.func462.trans (congrArg some (by kernel_rfl))
 f286:=Tryz.func463.trans (congrArg some (by kernel_rfl))
 f317:=Tryz.func464.trans (congrArg some (by kernel_rfl))
 f318:=Tryz.func465.trans (congrArg some (by kernel_rfl))
 f319:=Tryz.func466.trans (congrArg some (by kernel_rfl))
 f320:=Tryz.func467.trans (congrArg some (by kernel_rfl))
 f337:=Tryz.func468.trans (congrArg some (by kernel_rfl))
 f338:=Tryz.func469.trans (congrArg some (by kernel_rfl))
 t0:=Tryz.underlying0
 a0:=Tryz.isAgg0
 z0:=Tryz.sizeOf0
 v0:=Tryz.zeroValue0
 t2:=Tryz.underlying2
 a2:=Tryz.isAgg2
 z2:=Tryz.sizeOf2
 v2:=Tryz.zeroValue2
 t3:=Tryz.underlying3
 a3:=Tryz.isAgg3
 z3:=Tryz.sizeOf3
 v3:=Tryz.zeroValue3
 t4:=Tryz.underlying4
 a4:=Tryz.isAgg4
 z4:=Tryz.sizeOf4
 v4:=Tryz.zeroValue4
 t5:=Tryz.underlying5
 a5:=Tryz.isAgg5
 z5:=Tryz.sizeOf5
 v5:=Tryz.zeroValue5
 t9:=Tryz.underlying9
 a9:=Tryz.isAgg9
 z9:=Tryz.sizeOf9
 v9:=Tryz.zeroValue9
 t20:=Tryz.underlying20
 a20:=Tryz.isAgg20
 z20:=Tryz.sizeOf20
 v20:=Tryz.zeroValue20
 t37:=Tryz.underlying472
 a37:=Tryz.isAgg472
 z37:=Tryz.sizeOf472
 v37:=Tryz.zeroValue472
 t46:=Tryz.underlying260
 a46:=Tryz.isAgg260
 z46:=Tryz.sizeOf260
 v46:=Tryz.zeroValue260
 t51:=Tryz.underlying102
 a51:=Tryz.isAgg102
 z51:=Tryz.sizeOf102
 v51:=Tryz.zeroValue102
 t53:=Tryz.underlying146
 a53:=Tryz.isAgg146
 z53:=Tryz.sizeOf146
 v53:=Tryz.zeroValue146
 t171:=Tryz.underlying557
 a171:=Tryz.isAgg557
 z171:=Tryz.sizeOf557
 v171:=Tryz.zeroValue557
 t173:=Tryz.underlying559
 a173:=Tryz.isAgg559
 z173:=Tryz.sizeOf559
 v173:=Tryz.zeroValue559
 t212:=Tryz.underlying562
 a212:=Tryz.isAgg562
 z212:=Tryz.sizeOf562
 v212:=Tryz.zeroValue562
 t213:=Tryz.underlying563
 a213:=Tryz.isAgg563
 z213:=Tryz.sizeOf563
 t232:=Tryz.underlying564
 a232:=Tryz.isAgg564
 z232:=Tryz.sizeOf564
 v232:=Tryz.zeroValue564
 t233:=Tryz.underlying565
 a233:=Tryz.isAgg565
 z233:=Tryz.sizeOf565
 v233:=Tryz.zeroValue565
 g17:=by kernel_rfl
 g18:=by kernel_rfl
 g19:=by kernel_rfl
 i0:=by kernel_rfl
 i2:=by kernel_rfl
 i3:=by kernel_rfl
 i4:=by kernel_rfl
 i5:=by kernel_rfl
 i9:=by kernel_rfl
 i20:=by kernel_rfl
 i37:=by kernel_rfl
 i46:=by kernel_rfl
 i51:=by kernel_rfl
 i53:=by kernel_rfl
 i171:=by kernel_rfl
 i173:=by kernel_rfl
 i212:=by kernel_rfl
 i232:=by kernel_rfl
 i233:=by kernel_rfl
 m17:=by kernel_rfl
 m18:=by kernel_rfl
 m19:=by kernel_rfl}
open Go.RowKit Go.Sort Go.Lib in
theorem Tryz.strconv_Itoa (n:Int) (h0: -9223372036854775808<=n) (h1:n<=9223372036854775807) (w:World) (D:Lib.TabIs Tryz.prog w "internal/strconv.uint64pow10" .u64 Lib.pow10Tab):
 Calls Tryz.prog 444 #[.int .i64 n] w λe w'=>e=.returned (.string ⟨(Lib.itoa n).toArray⟩)/\ ∃k os,w'=grow (w.drewN k) os:=Any.strconv_Itoa Tryz.ao8 n h0 h1 w D
end Go.Proofs
namespace Go.Proofs.YtejhifnjgoclpaaGreatDoor.Fx
open Go.RowKit
set_option maxRecDepth 1000000
noncomputable section
section
open Go.Sort
def aqE (l:List Int):List Value:=l.map (Value.int .i64)
theorem z7 (x:Int) (w:World):Calls Tryz.prog 222 #[.int .i64 x] w λe w'=>e=.returned (.bool false)/\w=w':=by
 have hxx:(x !=x)=false:=by simp
 go_enter Tryz.func222,Tryz.ntmps222
 go_wp2_with fail
 go_ret
 exact⟨rfl,rfl⟩
def qY (a b:Int):Int:=if a<b then-1 else if b<a then 1 else 0
theorem Ep (a b:Int) (w:World) (v:Int) (hv:Hid (qY a b=v)):Calls Tryz.prog 129 #[.int .i64 a,.int .i64 b] w λe w'=>e=.returned (.int .i64 v)/\w=w':=by
 by_cases h1:a<b
 · have d1:decide (a<b)=true:=decide_eq_true h1;obtain rfl: -1=v:=by rw[<-hv.out];unfold qY;rw[if_pos h1]
   go_enter Tryz.func129,Tryz.ntmps129
   go_wp2_with fail
   refine(z7 a _).mono ?_;rintro e w1 ⟨rfl,rfl⟩
   go_wp2_with fail
   refine(z7 b _).mono ?_;rintro e w1 ⟨rfl,rfl⟩
   go_wp2_with fail
   go_ret
   exact⟨rfl,rfl⟩
 · have d1:decide (a<b)=false:=decide_eq_false h1;by_cases h2:b<a
   · have d2:decide (b<a)=true:=decide_eq_true h2;obtain rfl:1=v:=by rw[<-hv.out];unfold qY;rw[if_neg h1,if_pos h2]
     go_enter Tryz.func129,Tryz.ntmps129
     go_wp2_with fail
     refine(z7 a _).mono ?_;rintro e w1 ⟨rfl,rfl⟩
     go_wp2_with fail
     refine(z7 b _).mono ?_;rintro e w1 ⟨rfl,rfl⟩
     go_wp2_with fail
     go_ret
     exact⟨rfl,rfl⟩
   · have d2:decide (b<a)=false:=decide_eq_false h2;obtain rfl:0=v:=by rw[<-hv.out];unfold qY;rw[if_neg h1,if_neg h2]
     go_enter Tryz.func129,Tryz.ntmps129
     go_wp2_with fail
     refine(z7 a _).mono ?_;rintro e w1 ⟨rfl,rfl⟩
     go_wp2_with fail
     refine(z7 b _).mono ?_;rintro e w1 ⟨rfl,rfl⟩
     go_wp2_with fail
     go_ret
     exact⟨rfl,rfl⟩
def gv (x:Int):Int:=max x (IntKind.i64.wrap (-x))
theorem LL (x:Int) (w:World):Calls Tryz.prog 136 #[.int .i64 x] w λe w'=>e=.returned (.int .i64 (gv x))/\w=w':=by
 obtain⟨y,hy⟩: ∃y,IntKind.i64.wrap (-x)=y:=⟨_,rfl⟩;have hv:Hid (max x y=gv x):=Lib.hid (by unfold gv;rw[hy])
 go_enter Tryz.func136,Tryz.ntmps136
 go_wp2_with fail
 go_ret
 exact⟨mK hv.out,rfl⟩
def lG (a b:Int):Int:=if qY (gv a) (gv b)=0 then qY a b else qY (gv a) (gv b)
theorem aoT (a b:Int) (w:World):Calls Tryz.prog 133 #[.int .i64 a,.int .i64 b] w λe w'=>e=.returned (.int .i64 (lG a b))/\w=w':=by
 obtain⟨va,hva⟩: ∃y,gv a=y:=⟨_,rfl⟩;obtain⟨vb,hvb⟩: ∃y,gv b=y:=⟨_,rfl⟩;have HA:=Lib.hid hva;have HB:=Lib.hid hvb;obtain⟨c,hc⟩: ∃y,qY va vb=y:=⟨_,rfl⟩;obtain⟨d,hd⟩: ∃y,qY a b=y:=⟨_,rfl⟩;have HC:=Lib.hid hc;have HD:=Lib.hid hd;by_cases h0:c=0
 · have hv:Hid (d=lG a b):=Lib.hid (by unfold lG;rw[hva,hvb,hc,if_pos h0,hd])
   subst h0;clear hva hvb hc hd
   go_enter Tryz.func133,Tryz.ntmps133
   go_wp2_with fail
   refine(LL a _).mono ?_;rintro e w1 ⟨rfl,rfl⟩;rw[HA.out]
   go_wp2_with fail
   refine(LL b _).mono ?_;rintro e w1 ⟨rfl,rfl⟩;rw[HB.out]
   go_wp2_with fail
   refine(Ep va vb _ 0 HC).mono ?_;rintro e w1 ⟨rfl,rfl⟩
   go_wp2_with fail
   refine(Ep a b _ d HD).mono ?_;rintro e w1 ⟨rfl,rfl⟩
   go_wp2_with fail
   go_ret
   exact⟨mK hv.out,rfl⟩
 · have hv:Hid (c=lG a b):=Lib.hid (by unfold lG;rw[hva,hvb,hc,if_neg h0])
   have hne:(c !=0)=true:=by simp [h0]
   clear hva hvb hc hd
   go_enter Tryz.func133,Tryz.ntmps133
   go_wp2_with fail
   refine(LL a _).mono ?_;rintro e w1 ⟨rfl,rfl⟩;rw[HA.out]
   go_wp2_with fail
   refine(LL b _).mono ?_;rintro e w1 ⟨rfl,rfl⟩;rw[HB.out]
   go_wp2_with fail
   refine(Ep va vb _ c HC).mono ?_;rintro e w1 ⟨rfl,rfl⟩
   go_wp2_with fail
   go_ret
   exact⟨mK hv.out,rfl⟩
theorem uc (a b:Int):ltOf lG a b=decide (gv a<gv b\/(gv a=gv b/\a<b)):=by
 unfold ltOf lG qY;congr 1;apply propext
 repeat' split
 all_goals omega
theorem ap7:Go.Sort.SWO (ltOf lG) where
 irrefl:=λx=>by rw[uc];exact decide_eq_false (by omega)
 trans:=λx y z h1 h2=>by rw[uc,decide_eq_true_eq] at h1 h2⊢;omega
 ntrans:=λx y z h1 h2=>by rw[uc,decide_eq_false_iff_not] at h1 h2⊢;omega
theorem ap3 (x y:Int) (h1:ltOf lG x y=false) (h2:ltOf lG y x=false):x=y:=by rw[uc,decide_eq_false_iff_not] at h1 h2;omega
def pI (a b:Int):Prop:=gv a<gv b\/(gv a=gv b/\a<b)
theorem amt {x y:Int} (h1: ¬pI x y) (h2: ¬pI y x):x=y:=by unfold pI at*;omega
theorem aib (d:Array Int) (M: ∀i j,i<j->j<d.size-> ¬pI d[j]! d[i]!): ∀m,m<=d.size->
  (Go.Lib.compactUpTo d m).Pairwise pI/\(∀x,x∈Go.Lib.compactUpTo d m<-> ∃i,i<m/\d[i]! =x):=by
 intro m
 induction m with
 |zero=>intro _;exact⟨by simp [Go.Lib.compactUpTo],λx=>by simp [Go.Lib.compactUpTo]⟩
 |succ m Z=>
  intro hm;obtain⟨h1,h2⟩:=Z (by omega)
  rw[Go.Lib.compactUpTo_succ];by_cases hk:Go.Lib.keeps d m=true
  · rw[if_pos hk];refine⟨?_,λx=>?_⟩
    · rw[List.pairwise_append];refine⟨h1,List.pairwise_singleton _ _,λa U b L=>?_⟩;rw[ah3] at L;subst L;obtain⟨i,F,rfl⟩:=(h2 a).1 U;have J:m=0\/d[m]! ≠d[m - 1]! :=by simpa[Go.Lib.keeps] using hk
      have J:d[m]! ≠d[m - 1]! :=J.resolve_left (by omega)
      have n1:=M (m - 1) m (by omega) (by omega)
      have O:pI d[m - 1]! d[m]! :=Classical.byContradiction λY=>J (amt n1 Y);by_cases D:i=m - 1
      · rw[D];exact O
      · have n2:=M i (m - 1) (by omega) (by omega)
        unfold pI at*;omega
    · rw[List.mem_append,h2,ah3];constructor
      · rintro(⟨i,F,e⟩ |rfl)
        · exact⟨i,by omega,e⟩
        · exact⟨m,by omega,rfl⟩
      · rintro⟨i,F,e⟩;by_cases D:i=m
        · subst D;exact .inr e.symm
        · exact .inl ⟨i,by omega,e⟩
  · have N:Go.Lib.keeps d m=false:=by simpa using hk
    rw[N,if_neg (by simp),ag5]
    refine⟨h1,λx=>?_⟩;rw[h2];constructor
    · rintro⟨i,F,e⟩;exact⟨i,by omega,e⟩
    · rintro⟨i,F,e⟩;by_cases D:i=m
      · subst D;have: ¬(i=0\/d[i]! ≠d[i - 1]!):=by simpa[Go.Lib.keeps] using N
        rw[not_or,Classical.not_not] at this;exact⟨i - 1,by omega,by rw[<-this.2];exact e⟩
      · exact⟨i,by omega,e⟩
def lh (c:List Int):List Int:=c.mergeSort λx y=> !(ltOf lG) y x
theorem Qf (c:List Int):(lh c).length=c.length:=List.length_mergeSort _
theorem amY (c:List Int):(lh c).Pairwise λx y=> ¬pI y x:=by
 have:=List.pairwise_mergeSort (le:=λx y=> !(ltOf lG) y x)
  (λa b c h1 h2=>by simp only[Bool.not_eq_true'] at h1 h2⊢;rw[uc,decide_eq_false_iff_not] at h1 h2⊢;omega)
  (λa b=>by
   rw[uc,uc];by_cases h:gv b<gv a\/(gv b=gv a/\b<a)
   · rw[decide_eq_true h,decide_eq_false (by omega)];rfl
   · rw[decide_eq_false h];rfl) c
 refine this.imp (λ{x y} h=>?_);simp only[Bool.not_eq_true',uc,decide_eq_false_iff_not] at h;exact h
def ll (c:List Int):List Int:=Go.Lib.compact (lh c)
theorem alT (c:List Int):(ll c).Pairwise pI/\(∀x,x∈ll c<->x∈c):=by
 have J: ∀i j,i<j->j<(lh c).toArray.size-> ¬pI (lh c).toArray[j]! (lh c).toArray[i]! :=by
  intro i j L F;have M:j<(lh c).length:=by simpa using F
  have:=(List.pairwise_iff_getElem.1 (amY c)) i j (by omega) M L
  rw[getElem!_pos _ j F,getElem!_pos _ i (by omega)]
  simpa using this
 obtain⟨h1,h2⟩:=aib (lh c).toArray J (lh c).length (by simp)
 refine⟨h1,λx=>?_⟩;unfold ll Go.Lib.compact;rw[h2,<-(show x∈lh c<->x∈c from List.mem_mergeSort),List.mem_iff_getElem]
 constructor
 · rintro⟨i,D,e⟩;refine⟨i,D,?_⟩;rw[getElem!_pos _ i (by simpa using D)] at e
   simpa using e
 · rintro⟨i,D,e⟩;refine⟨i,D,?_⟩;rw[getElem!_pos _ i (by simpa using D)]
   simpa using e
structure mo (w:World) (base g cap:Nat) (l:List Int):Prop where
 own:w.ownsRow base 3 1 (.slice (some ⟨g,0,none⟩) l.length cap) l.length (aqE l)
 bg:base<=g
 lt:g<w.heap.size
 sx:l.length<=cap
 mx:cap<=maxLen
 holds:Go.Sort.Holds (Value.int .i64) w g 0 l.toArray
theorem Mk {w:World} {base n:Nat} {v:Value} {l:List Int} (h:w.ownsRow base 3 1 v n (l.map (Value.int .i64))) (M:v≠.slice none 0 0): ∃g cap,v=.slice (some ⟨g,0,none⟩) l.length cap/\mo w base g cap l:=by obtain⟨g,cap,rfl,h1,h2,D,F,J,L⟩:=Go.Lib.holds_of_ownsRow h M;subst J;exact⟨g,cap,rfl,h,h1,h2,D,F,L⟩
theorem mo.put {w:World} {base g cap:Nat} {l:List Int} (h:mo w base g cap l) (q k:Nat) (D:List Int) (L:D.length=l.length) (hk:k<=l.length):mo (Go.Sort.putRow (Value.int .i64) (Go.Sort.ahead w q) g 0 D.toArray) base g cap (D.take k):=by
 have J:=Go.Lib.ownsRow_putRow (q:=q) h.own L hk;obtain⟨N,M,F,hO⟩:=Mk (l:=D.take k) J (by simp)
 simp only[Value.slice.injEq,Option.some.injEq,Addr.mk.injEq] at F;obtain⟨⟨rfl,_⟩,_,rfl⟩:=F;exact hO
theorem mo.grown {w w':World} {base g cap:Nat} {l:List Int} (h:mo w base g cap l) (F:Below w.heap.size w w'):mo w' base g cap l:=by
 obtain⟨L,J,D,hO⟩:=Mk (ai0 h.own F) (by simp)
 simp only[Value.slice.injEq,Option.some.injEq,Addr.mk.injEq] at D;obtain⟨⟨rfl,_⟩,_,rfl⟩:=D;exact hO
theorem RH (w:World) (os:Array Obj):Below w.heap.size w (Go.Sort.grow w os):=
 ⟨rfl,rfl,rfl,by simp [Go.Sort.grow],λk hk=>by simp only[Go.Sort.grow];rw[Array.getElem?_append_left hk]⟩
theorem apv (args:Array Value) (w:World):(callFunc 133 args).run Tryz.prog w=.ok (.enter 133 args) w:=
 Go.MuLone.run_callFunc_enter Tryz.func133 (by kernel_rfl) rfl args w
theorem aos (base g cap:Nat) (c:List Int) (w:World) (h:mo w base g cap c) (hlen:c.length<=1000000) (D:World) (F:Below base D w):
  Calls Tryz.prog 132 #[.slice (some ⟨g,0,none⟩) c.length cap,.func (.func 133) #[] #[]] w λe w'=>e=.returned (.tuple #[])/\mo w' base g cap (lh c)/\Below base D w':=by
 have J:=h.mx;have M:=h.sx;unfold maxLen at J;refine(Any.slices_SortFunc_total Tryz.abX (Value.int .i64) (λ_=>rfl) lG ap7 133 #[] g 0 cap c.toArray w apv ?_ h.holds h.lt (by simp;omega) ap3).mono ?_
 · intro m os L _ x y;refine(aoT x y _).mono ?_;rintro e w' ⟨rfl,rfl⟩;exact⟨rfl,0,#[],by rw[World.drewN_zero,Go.Sort.grow_empty]⟩
 · rintro e w' ⟨rfl,n,os,rfl⟩;refine⟨rfl,?_,?_⟩
   · have h1:=h.put n c.length (lh c) (Qf c) (ab8 _);rw[<-Qf c,as1] at h1;have e:(c.toArray.toList.mergeSort λx y=> !(ltOf lG) y x)=lh c:=rfl;rw[e];exact h1.grown (RH _ os)
   · have h1:=Go.Lib.below_putRow (enc:=Value.int .i64) (q:=n) (d:=(c.toArray.toList.mergeSort λx y=> !(ltOf lG) y x).toArray) F h.bg;refine h1.trans ((RH _ os).mono ?_);rw[Go.Sort.size_putRow];exact Nat.le_trans h.bg (Nat.le_of_lt h.lt)
theorem akV (base g cap:Nat) (c:List Int) (w:World) (h:mo w base g cap c) (D:World) (F:Below base D w):
  Calls Tryz.prog 135 #[.slice (some ⟨g,0,none⟩) c.length cap] w λe w'=>e=.returned (.slice (some ⟨g,0,none⟩) (Go.Lib.compact c).length cap)/\mo w' base g cap (Go.Lib.compact c)/\Below base D w':=by
 have L:=h.mx;have J:=h.sx;unfold maxLen at L;have hle:=Go.Lib.compact_length_le c;refine(Tryz.slices_Compact_int g 0 cap c w h.holds (by omega) J).mono ?_
 rintro e w' ⟨rfl,q,rfl⟩;refine⟨rfl,?_,Go.Lib.below_putRow F h.bg⟩;have:=h.put q (Go.Lib.compact c).length (Go.Lib.compact c++List.replicate (c.length - (Go.Lib.compact c).length) 0) (by simp;omega) hle
 rwa [List.take_left] at this
theorem apI (g n cap:Nat) (w:World) (hn:n<=cap) (hm:cap<=maxLen):
  Calls Tryz.prog 134 #[.slice (some ⟨g,0,none⟩) n cap] w λe w'=>e=.returned (.slice (some ⟨g,0,none⟩) n n)/\w=w':=by
 unfold maxLen at hm
 go_enter Tryz.func134,Tryz.ntmps134
 go_wp2_with fail
 go_ret
 exact⟨rfl,rfl⟩
theorem apH (w:World):
  Calls Tryz.prog 134 #[.slice none 0 0] w λe w'=>e=.returned (.slice none 0 0)/\w=w':=by
 go_enter Tryz.func134,Tryz.ntmps134
 go_wp2_with fail
 go_ret
 exact⟨rfl,rfl⟩
end
theorem arj {w:World} (h:TabOk w.heap[tabB]?):Lib.TabIs Tryz.prog w "internal/strconv.uint64pow10" .u64 Lib.pow10Tab:=by
 obtain⟨e,F,h⟩:=h;have D:Tryz.prog.globalNamed "internal/strconv.uint64pow10" =some tabB:=by kernel_rfl
 unfold Lib.TabIs World.var?;rw[D,aa7,h]
theorem ape (n:Nat) (h1:n<=9223372036854775807) (w:World) (D:TabOk w.heap[tabB]?):
  Calls Tryz.prog 444 #[.int .i64 (n:Int)] w λe w'=>e=.returned (.string ⟨(Lib.decDigits n).toArray⟩)/\Below w.heap.size w w':=by
 refine(Tryz.strconv_Itoa (n:Int) (by omega) (by omega) w (arj D)).mono ?_
 rintro e w' ⟨rfl,k,os,rfl⟩;refine⟨?_,(below_drewN (Below.refl _ _) k).trans (show Below w.heap.size _ _ from RH (w.drewN k) os)⟩
 unfold Lib.itoa;rw[if_neg (by omega),ae9]
noncomputable def aii:dh Tryz.prog:=mkB 444 ⟨[(0,.c (.v (.int .i64)))],[]⟩ [(false,⟨[(2,.c (.v .str))],[]⟩)] (λr=>(r,())) (λx=>strconv_Itoa x.1) (by kernel_rfl) (λx o h0=>by
 obtain⟨n,u⟩:=x;have h:strconv_Itoa n=some o:=h0;clear h0;unfold strconv_Itoa at h;split at h
 · rename_i D;injection h with h;obtain⟨m,rfl⟩: ∃m:Nat,n=(m:Int):=⟨Int.toNat n,(Int.toNat_of_nonneg D.1).symm⟩;have F:o=Lib.decDigits m:=by rw[<-h,ae9,apz]
   subst F;exact abq [.int .i64 (m:Int)] (.string ⟨(Lib.decDigits m).toArray⟩) rfl rfl (λw J=>ape m (by omega) w J)
 · cases h)
end
end Go.Proofs.YtejhifnjgoclpaaGreatDoor.Fx
namespace Go.Proofs.YtejhifnjgoclpaaGreatDoor
open Go.RowKit
def wP (c l k:Int):Value:=.iface 295 (.agg #[.int .i64 c,.int .i64 l,.int .i64 k])
theorem ak1 (v:Value) (w:World):(Instr.typeAssert (.iface 295 v) 20 295 true).run Tryz.prog w=.ok (.tuple #[v,.bool true]) w:=by kernel_rfl
theorem alc {w:World} {b:Nat} {vs:List Value} {T:TypeId} (h:w.heap[b]? =some (.cells vs.toArray T (0,0))):kx w b vs:=by
 refine⟨(Array.getElem?_eq_some_iff.1 h).1,λi D=>?_,λi=>?_⟩
 · simp [World.cell?,h]
 · simp [World.frozen?,h]
def A4 (w:World) (H:Nat) (c l k:Int) (o:Obj):World:=(((w.setCell ⟨H,0,none⟩ (.int .i64 c)).setCell ⟨H,1,none⟩ (.int .i64 l)).setCell ⟨H,2,none⟩ (.int .i64 k)).alloc o
set_option maxRecDepth 100000 in
theorem anZ (H:Nat) (c l k:Int) (older:List PanicEntry) (w:World) (T:TypeId) (a b d:Value) (hh:w.heap[H]? =some (.cells #[a,b,d] T (0,0))):
  CallsD Tryz.prog 150 #[.pointer (some ⟨H,0,none⟩)] (.panicking ({v:=wP c l k,recovered:=false}::older)) w λe u' w'=>e=.returned (.tuple #[])/\u'=.panicking ({v:=wP c l k,recovered:=true}::older)/\ ∃o,w'=A4 w H c l k o:=by
 have hv:kx w H [a,b,d]:=alc hh;clear hh;have c0:=hv.get 0 rfl;have c1:=hv.get 1 rfl;have c2:=hv.get 2 rfl;have z:=hv.free;have hl:=hv.lt;refine callsD_of_wpS Tryz.func150 rfl λc₀ cs hu=>?_;apply wpS_seq;apply wpS_region;simp [wpOpsS,go_sem,recoverD,hu,Tryz.ntmps150,Exit.thenS];have hT: #[Value.pointer (some ⟨H,0,none⟩)]++(Array.replicate 11 undef).setIfInBounds 3 (wP c l k)= #[.pointer (some ⟨H,0,none⟩),undef,undef,undef,wP c l k,undef,undef,undef,undef,undef,undef,undef]:=by rfl
 rw[hT];clear hT;refine wpS_of_wp ?_;unfold wP;clear hu;have hta:=ak1 (.agg #[.int .i64 c,.int .i64 l,.int .i64 k]);have hn1: ¬H=w.heap.size:=by omega
 have HE:Hid (∃o,(((w.setCell ⟨H,0,none⟩ (.int .i64 c)).setCell ⟨H,1,none⟩ (.int .i64 l)).setCell ⟨H,2,none⟩ (.int .i64 k)).alloc (.cells #[.int .i64 c,.int .i64 l,.int .i64 k] 295)=A4 w H c l k o):=Lib.hid ⟨_,rfl⟩;clear hv
 go_wp2_with fail
 simp [bodyPostS,results,Tryz.results150];exact HE.out
set_option maxRecDepth 100000 in
theorem amf (H:Nat) (w:World):
  CallsD Tryz.prog 150 #[.pointer (some ⟨H,0,none⟩)] .returning w λe u' w'=>e=.returned (.tuple #[])/\u'=.returning/\w'=w:=by
 refine callsD_of_wpS Tryz.func150 rfl λc₀ cs hu=>?_;apply wpS_seq;apply wpS_region;simp [wpOpsS,go_sem,recoverD,hu,Tryz.ntmps150,Exit.thenS];have hT: #[Value.pointer (some ⟨H,0,none⟩)]++(Array.replicate 11 undef).setIfInBounds 3 (.nilIface)= #[.pointer (some ⟨H,0,none⟩),undef,undef,undef,.nilIface,undef,undef,undef,undef,undef,undef,undef]:=by rfl
 rw[hT];clear hT;refine wpS_of_wp ?_
 go_wp2_with fail
 cases c₀;simp_all [bodyPostS,results,Tryz.results150]
namespace Fx
theorem Ry {w:World} {b i:Nat} {cs:Array Value} {T:TypeId} (h:w.heap[b]? =some (.cells cs T (0,0))) (u:Value):(w.setCell ⟨b,i,none⟩ u).heap[b]? =some (.cells (cs.setIfInBounds i u) T (0,0)):=by simp only[World.setCell];rw[Array.getElem?_modify,if_pos rfl,h];simp
theorem anO {w:World} {b:Nat} {a0 L a2:Value} {T:TypeId} (h:w.heap[b]? =some (.cells #[a0,L,a2] T (0,0))) (D F J:Value):
  (((w.setCell ⟨b,0,none⟩ D).setCell ⟨b,1,none⟩ F).setCell ⟨b,2,none⟩ J).heap[b]? =some (.cells #[D,F,J] T (0,0)):=by
 have:=Ry (i:=2) (Ry (i:=1) (Ry (i:=0) h D) F) J;simpa using this
theorem amP {v:Value} {q:Int×Int×Int} (h:rZ v=some q):v=wP q.1 q.2.1 q.2.2:=by
 unfold rZ at h;split at h
 · split at h
   · rename_i e;injection h with h;subst h;subst e;rfl
   · cases h
 · cases h
def tQ (q:Int×Int×Int):List DC:=[.v (.int .i64) q.1,.v (.int .i64) q.2.1,.v (.int .i64) q.2.2]
def acg (s:aI):aI:=⟨oy s.sl 4 (.c (.ptr 2000 0)),oset s.hp 2000 (.var 89 (tQ (0,0,0)))⟩
def Nr:Option aX->Bool
 |some (.var t [_,_,_])=>Nat.beq t 89
 |_=>false
def Be:DS->Bool
 |.c (.ptr k i)=>Nat.beq k 2000&&Nat.beq i 0
 |_=>false
def Gm {R:Type} (k k2:aI->Option R) (e:dr) (s:aI):Option R:=
 match Nr (aj s.hp 2000)&&Be (bU s.sl 4) with
 |true=>match e with
  |.normal=>k s
  |.ret=>k s
  |.dK v=>(rZ v).bind λq=>k2 ⟨s.sl,oset s.hp 2000 (.var 89 (tQ q))⟩
  |.exit _=>none
 |false=>none
noncomputable def Tn:Option (Code×Code):=
 match Tryz.prog.funcs[83]? with
 |some fn=>match fn.body with
  |some (.seq _ (.seq a (.seq _ b)))=>some (a,b)
  |_=>none
 |none=>none
noncomputable def su {R A:Type} (o:Shape) (g:cv o->A) (K:A->R) (s:aI):Option R:=match AX 2000 Tryz.prog [.cell 4 89] o s with|some x=>some (K (g x)) |none=>none
noncomputable def Ua (G:List (dh Tryz.prog)) (M:List (Nat×bE)) (aF D F J:Shape) {A:Type} (g:cv F⊕cv J->A) (x:cv aF):Option A:=
 match Tn with
 |some (a,b)=>match od 0 aF.sl&&Nat.beq aF.sl.length 2&& !eC (D.sl.map (·.1)) 11&&(aj (mkD aF x).hp 2000).isNone with
  |true=>exec Tryz.prog 37 [] [] a 6 A (acg (mkD aF x)) λe s1=>match e with
   |.normal=>match qO D s1 with
    |some L=>match Be (bU (mkD D L).sl 4) with
     |true=>exec Tryz.prog 37 G M b 15 A (mkD D L) (Gm (su F .inl g) (su J .inr g))
     |false=>none
    |none=>none
   |_=>none
  |false=>none
 |none=>none
theorem L4 {R:Type} {k k2:aI->Option R} {e:dr} {s:aI} {y:R} (h:Gm k k2 e s=some y):Be (bU s.sl 4)=true/\Nr (aj s.hp 2000)=true/\((e=.normal\/e=.ret)/\k s=some y\/ ∃q,e=.dK (wP q.1 q.2.1 q.2.2)/\k2 ⟨s.sl,oset s.hp 2000 (.var 89 (tQ q))⟩=some y):=by
 unfold Gm at h;split at h
 · rename_i D;rw[ad0] at D;refine⟨D.2,D.1,?_⟩;cases e with
   |normal=>exact .inl ⟨.inl rfl,h⟩
   |ret=>exact .inl ⟨.inr rfl,h⟩
   |exit i=>cases h
   |dK v=>obtain⟨q,h1,h2⟩:=at8.1 h;exact .inr ⟨q,by rw[amP h1],h2⟩
 · cases h
theorem aqj {d:DS} (h:Be d=true):d=.c (.ptr 2000 0):=by
 unfold Be at h;split at h
 · rw[ad0] at h;rw[al2 h.1,al2 h.2]
 · cases h
theorem aqN {o:Option aX} (h:Nr o=true): ∃a b c,o=some (.var 89 [a,b,c]):=by
 unfold Nr at h;split at h
 · rename_i t a b c;exact⟨a,b,c,by rw[al2 h]⟩
 · cases h
def TS:List Oper:=[⟨some 11,.makeFunc (.func 150) #[] #[.tmp 4],1, "reader.go:19",#[],none⟩,⟨none,.defer {callee:=.value (.tmp 11),args:= #[],argTypes:= #[]},0, "reader.go:19",#[⟨0,.data⟩],none⟩]
def uA (v:Value):Deferred:=⟨.fn (.func 150) #[v],#[]⟩
theorem arN {id:Nat} {a:Act} {w:World} {Q:Exit->Act->World->Prop} (hs:a.tmps.size=37) (h:Q .normal {tmps:=a.tmps.setIfInBounds 11 (.func (.func 150) #[] #[a.tmps.getD 4 undef]),defers:=uA (a.tmps.getD 4 undef)::a.defers} w):(Code.region id TS.toArray false).wp Tryz.prog Q a w:=by
 refine wp_region ?_;obtain⟨F,df⟩:=a;simp only at hs h⊢;simp [wpOps,go_sem,TS,Act.put,Act.eval,Instr.makeFunc];refine .inl (.inl ?_);have D:11<F.size:=by omega
 simp only[if_pos D,Sem.run_pure,Result.andThen_ok];rw[Oper.upon_defer];simpa[uA,Act.put] using h
theorem anY {a b:Code} (h:Tn=some (a,b)): ∃fn D,Tryz.prog.funcs[83]? =some fn/\fn.body=some (.seq (.region 0 D false) (.seq a (.seq (.region 3 TS.toArray false) b)))/\D.toList=[⟨some 4,.alloc 89,0, "reader.go:15",#[],none⟩]/\fn.ntmps=37/\fn.results= #[.cell 4 89]:=by unfold Tn at h;rw[Tryz.func83] at h;injection h with h;injection h with h1 h2;subst h1;subst h2;exact⟨_,_,Tryz.func83,rfl,rfl,rfl,rfl⟩
set_option maxRecDepth 100000 in
theorem ame {E:cQ} {s:aI} {a:Act} {w:World} {id:Nat} {ops:Array Oper} (O:ops.toList=[⟨some 4,.alloc 89,0, "reader.go:15",#[],none⟩]) (N:(aj s.hp 2000).isNone=true) (U:gu 37 E s a w):
  (Code.region id ops false).wp Tryz.prog (λe L w'=>e=.normal/\gu 37 E (acg s) L w') a w:=by
 obtain⟨⟨c,h1,h2⟩,F,M⟩:=U;have Y:vf Tryz.prog 89=some [.int .i64 0,.int .i64 0,.int .i64 0]:=by kernel_rfl
 obtain⟨J,Z,ah,_⟩:=Tr Y w;have e:J.cells= #[.int .i64 0,.int .i64 0,.int .i64 0]:=by rw[<-Array.toArray_toList (xs:=J.cells),Z]
 obtain⟨c',g1,g2,g3⟩:=h1.newVar (k:=2000) (by simpa using N) rfl 89 rfl (AG (vs:=[.int .i64 0,.int .i64 0,.int .i64 0]) (l:=tQ (0,0,0)) (c:=c) (h:=aj s.hp) (w:=w) rfl)
 have he:ops= #[⟨some 4,.alloc 89,0, "reader.go:15",#[],none⟩]:=by rw[<-Array.toArray_toList (xs:=ops),O]
 subst he;refine wp_region ?_;show wpOps _ _ _ [0] a w;rw[wpOps_cons];unfold wpOp;simp only[List.getElem?_toArray,List.getElem?_cons_zero];split
 rotate_left
 · rename_i hw;exact(hw rfl).elim
 refine .inl (qE (val:=.pointer (some ⟨w.heap.size,0,none⟩)) (w':=w.alloc (.cells #[.int .i64 0,.int .i64 0,.int .i64 0] 89)) (by simp [execOp,Instr.alloc,ah,Go.newVar,newRow,newObj,Sem.run,e]) ⟨rfl,⟨⟨c',?_,?_⟩,by rw[LU];exact F,by rw[put_defers];exact M⟩⟩)
 · show Conc E c' (aj (oset s.hp 2000 _)) _;rw[jh];exact g1
 · show∀t,SR c' (aj (oset s.hp 2000 _)) _ _ (bU (mV s.sl (some 4) _) t);rw[jh,Fo];exact Mh (d:=some 4) F (λx D=>by injection D with D;rw[<-D];decide) (λt=>(h2 t).fL g2) g3
theorem akG {n:Nat} {E:cQ} {R:aI->Prop} {e:Exit} {a:Act} {w:World} (h:T6 n E (λe s=>e=.normal/\R s) e a w):e=.normal/\ ∃s,gu n E s a w/\R s:=by
 cases e<;>first |exact h.elim |skip
 · obtain⟨s,h1,_,h2⟩:=h;exact⟨rfl,s,h1,h2⟩
 · obtain⟨s,_,h,_⟩:=h;cases h
 · obtain⟨s,_,h,_⟩:=h;cases h
 · obtain⟨s,v,_,_,h,_⟩:=h;cases h
theorem Zd {E:cQ} {c:Cx} {h:Hp} {w:World} {k b:Nat} {T:TypeId} {x0 x1 x2:DC} (hC:Conc E c h w) (hk:h k=some (.var T [x0,x1,x2])) (hm:c.m k=.pointer (some ⟨b,0,none⟩)) (ah:a0c k=false) (h0:Nat.beq T a0i=false) (q:Int×Int×Int) (o:Obj):
  ∃a0 F a2,w.heap[b]? =some (.cells #[a0,F,a2] T (0,0))/\Conc E c (bY h k (some (.var T (tQ q)))) (A4 w b q.1 q.2.1 q.2.2 o)/\eN c h w c (bY h k (some (.var T (tQ q)))) (A4 w b q.1 q.2.1 q.2.2 o):=by
 obtain⟨O,cs,g1,g2,g3⟩:=hC.obj k _ hk;rw[a0G h0] at g2;rw[hm] at g1;injection g1 with g1;injection g1 with g1;injection g1 with g1;subst g1;obtain⟨J,rfl⟩: ∃J:List Value,cs=J.toArray:=⟨cs.toList,by simp⟩
 have Y:J.length=3:=by have:=g3.len;simpa using this
 obtain⟨a0,F,a2,rfl⟩: ∃a0 F a2,J=[a0,F,a2]:=by
  match J,Y with
  |[a0,F,a2],_=>exact⟨a0,F,a2,rfl⟩
 refine⟨a0,F,a2,g2,?_⟩;have Z:=vS g2;have M: ∀(w:World) (i:Nat) (u:Value) (j:Nat),j≠b->(w.setCell ⟨b,i,none⟩ u).heap[j]? =w.heap[j]? :=λw i u j D=>Below.heap_setCell _ _ _ _ D;have N: ∀j,j<w.heap.size->(A4 w b q.1 q.2.1 q.2.2 o).heap[j]? =(((w.setCell ⟨b,0,none⟩ (.int .i64 q.1)).setCell ⟨b,1,none⟩ (.int .i64 q.2.1)).setCell ⟨b,2,none⟩ (.int .i64 q.2.2)).heap[j]? :=λj D=>((Below.refl _ _).alloc (ab8 _) o).block j (by simpa[World.setCell] using D)
 refine hC.put k (o':=.var T (tQ q)) (gl _ _ _) (λj D=>⟨iG D,rfl⟩) rfl ⟨rfl,rfl,rfl,by simp [A4,World.alloc,World.setCell],λj h1 h2=>?_⟩ (λO U=>.inl ⟨⟨_,hk⟩,U⟩) (.inl ah) (s:=false) (λq=>by cases q) (λo L=>?_) λ_=>⟨b,#[.int .i64 q.1,.int .i64 q.2.1,.int .i64 q.2.2],hm,?_,.cons ⟨rfl,rfl⟩ (.cons ⟨rfl,rfl⟩ (.cons ⟨rfl,rfl⟩ .nil))⟩
 · have D:j≠b:=λe=>h2 ⟨⟨_,hk⟩,by rw[hm,e];rfl⟩
   rw[N j h1,M _ _ _ _ D,M _ _ _ _ D,M _ _ _ _ D]
 · rw[hk] at L;injection L with L;subst L;exact⟨⟨_,rfl⟩,rfl⟩
 · rw[a0G h0,N b Z];exact anO g2 _ _ _
theorem YM {R A:Type} {o:Shape} {g:cv o->A} {K:A->R} {s:aI} {y:R} (h:su o g K s=some y): ∃x,AX 2000 Tryz.prog [.cell 4 89] o s=some x/\K (g x)=y:=by
 unfold su at h;split at h
 · rename_i x D;injection h with h;exact⟨x,D,h⟩
 · cases h
set_option maxRecDepth 100000 in
theorem apM {G:List (dh Tryz.prog)} {an:List (Nat×bE)} {aF J M U:Shape} {A:Type} {g:cv M⊕cv U->A} {h:A->cv M⊕cv U} (a7: ∀o,h (g o)=o) (ea:M.sl.all (λp=>nX p.2)=true) (eb:U.sl.all (λp=>nX p.2)=true) {x:cv aF} {y:A} (hb:Ua G an aF J M U g x=some y):
  fo Tryz.prog 83 ((mkD aF x).sl.map (·.2)) (mkD aF x).hp (mQ [(false,M),(false,U)] (h y)):=by
 unfold Ua at hb;split at hb<;>try (cases hb;done)
 rename_i ca cb c3;split at hb<;>try (cases hb;done)
 rename_i hB;simp only[ad0,Bool.not_eq_true'] at hB;obtain⟨⟨⟨hk,cp⟩,b4⟩,bb⟩:=hB;obtain⟨fn,r0,hf,cc,dk,bp,ds⟩:=anY c3;intro c w vals hC hv;refine calls_of_wp_defers hf cc ?_;have b1:=aa3 hk hC hv fn.ntmps;rw[al2 cp,bp] at b1;rw[bp];refine wp_seq (Code.wp_mono (λe a1 w1 L=>?_) (ame dk bb b1));obtain⟨rfl,ed⟩:=L;show Code.wp _ _ _ _ _;refine wp_seq (Code.wp_mono (λe a2 w2 L=>?_) (Tl Tryz.prog 37 [] [] ca 6 A _ _ y hb (λe s1=>e=.normal/\ ∃F,qO J s1=some F/\Be (bU (mkD J F).sl 4)=true/\exec Tryz.prog 37 G an cb 15 A (mkD J F) (Gm (su M .inl g) (su U .inr g))=some y) (λe s1 hk=>?_) _ a1 w1 ed))
 rotate_left
 · split at hk<;>try (cases hk;done)
   split at hk<;>try (cases hk;done)
   rename_i F av;split at hk<;>try (cases hk;done)
   rename_i hp;exact⟨rfl,F,av,hp,hk⟩
 obtain⟨rfl,s1,eg,F,av,dd,b9⟩:=akG L;clear L hb;have eh:=(tN av).A9.told eg;show Code.wp _ _ _ _ _;obtain⟨⟨c1,az,aE⟩,b0,cd⟩:=eh;have h4:=aE 4;rw[aqj dd] at h4;obtain⟨_,_,c6,⟨ty,cells,rfl⟩,b,cx,ek⟩:=h4;refine wp_seq (arN b0 ?_);rw[ek,show a2.defers=[] from cd]
 show Code.wp _ _ _ _ _
 have ej:gu 37 {dW w2 c1 (aj (mkD J F).hp) with df:=[uA (.pointer (some ⟨b,0,none⟩))]} (mkD J F) {tmps:=a2.tmps.setIfInBounds 11 (.func (.func 150) #[] #[.pointer (some ⟨b,0,none⟩)]),defers:=[uA (.pointer (some ⟨b,0,none⟩))]} w2:=by
  refine⟨⟨c1,az.hand.df _,λt=>?_⟩,by simpa using b0,rfl⟩
  by_cases e:t=11
  · subst e;rw[L5 (l:=(mkD J F).sl) (by rw[show(mkD J F).sl.map (·.1)=J.sl.map (·.1) from mkSl_keys J.sl F,<-tS,b4];simp)]
    trivial
  · have e2:(a2.tmps.setIfInBounds 11 (.func (.func 150) #[] #[.pointer (some ⟨b,0,none⟩)])).getD t undef=a2.tmps.getD t undef:=by
      simp [Array.getD_eq_getD_getElem?,Array.getElem?_setIfInBounds,Ne.symm e]
    rw[e2];exact aE t
 have c5:(dW w c (aj (mkD aF x).hp)).H 2000=none:=by
  show(if 1000<=2000/\2000<3000 then aj (mkD aF x).hp 2000 else none)=none
  rw[if_pos (by decide)];simpa using bb
 have fin: ∀(ah:Shape),ah.sl.all (λp=>nX p.2)=true-> ∀(a4:Act) (N:World) (s2:aI) (o:cv ah),A8 37 {dW w2 c1 (aj (mkD J F).hp) with df:=[uA (.pointer (some ⟨b,0,none⟩))]} s2 a4 N->AX 2000 Tryz.prog [.cell 4 89] ah s2=some o->
   ∃v,(results fn a4.tmps).run Tryz.prog N=.ok v N/\ ∃c',ve (dW w c (aj (mkD aF x).hp)) (.returned v) c' N (.ret (sr (mkD ah o).sl) (mkD ah o).hp):=by
  intro ah c8 a4 N s2 o ht hr;obtain⟨⟨c4,h4,ar,g1,g2,g3⟩,g4,g5⟩:=ht;have b6:Conc {dW w c (aj (mkD aF x).hp) with df:=[uA (.pointer (some ⟨b,0,none⟩))]} c4 h4 N:=(Conc.leave az (ar.df [])).df _
  obtain⟨v,r1,c',b5,hV⟩:=S4 c8 hr 37 {dW w c (aj (mkD aF x).hp) with df:=[uA (.pointer (some ⟨b,0,none⟩))]} a4 N c5 ⟨⟨c4,h4,b6,g1,g2,g3⟩,g4,g5⟩
  exact⟨v,r1 fn ds,c',v,rfl,b5.df [],hV⟩
 have idle: ∀(a4:Act) (Y:World) (D:aI),gu 37 {dW w2 c1 (aj (mkD J F).hp) with df:=[uA (.pointer (some ⟨b,0,none⟩))]} D a4 Y->su M .inl g D=some y->Leaves Tryz.prog fn a4.tmps (λe w'=> ∃c',ve (dW w c (aj (mkD aF x).hp)) e c' w' (mQ [(false,M),(false,U)] (h y))) a4.defers .returning Y:=λa4 Y D O hk=>by
  rw[show a4.defers=_ from O.2.2]
  refine leaves_cons (f:=150) (args:= #[.pointer (some ⟨b,0,none⟩)]) (by simp) (by simp [go_sem]) ?_
  refine(amf b Y).mono ?_;rintro e u' N ⟨rfl,rfl,rfl⟩;obtain⟨o,ho,hy⟩:=YM hk;obtain⟨v,r1,hc⟩:=fin M ea a4 N D o O.p ho;rw[<-hy,a7];exact⟨v,r1,hc⟩
 refine Code.wp_mono (λe a4 Y L=>?_) (Tl Tryz.prog 37 G an cb 15 A _ _ y b9 (λe D=>Gm (su M .inl g) (su U .inr g) e D=some y) (λe D hk=>hk) _ _ w2 ej);cases e<;>first |exact L.elim |skip
 · obtain⟨D,O,hk⟩:=L;obtain⟨_,_,⟨_,hk⟩ |⟨q,e,_⟩⟩:=L4 hk
   · exact idle a4 Y D O hk
   · cases e
 · obtain⟨D,O,hk⟩:=L;obtain⟨_,_,⟨e,_⟩ |⟨q,e,_⟩⟩:=L4 hk
   · rcases e with e |e<;>cases e
   · cases e
 · obtain⟨D,O,hk⟩:=L;obtain⟨_,_,⟨_,hk⟩ |⟨q,e,_⟩⟩:=L4 hk
   · exact idle a4 Y D O hk
   · cases e
 · obtain⟨D,pv,rfl,O,hk⟩:=L;obtain⟨_,ch,⟨e,_⟩ |⟨q,e,cj⟩⟩:=L4 hk
   · rcases e with e |e<;>cases e
   · injection e with e;subst e;obtain⟨⟨c4,h4,ar,g1,g2,g3⟩,ec,a6⟩:=O;obtain⟨d0,d1,d2,bx⟩:=aqN ch
     have a8:c4.m 2000=.pointer (some ⟨b,0,none⟩):=by
      obtain⟨_,_,_,h2⟩:=ar.fV 2000 (.var ty cells) (by show(if 1000<=2000/\2000<3000 then aj (mkD J F).hp 2000 else none)=_;rw[if_pos (by decide)];exact c6)
      exact h2.2.trans cx
     show Leaves _ _ _ _ a4.defers _ Y;rw[show a4.defers=_ from a6]
     obtain⟨a0,b2,b3,hh,_,_⟩:=Zd ar (g1 _ _ bx) a8 rfl rfl q default;refine leaves_cons (f:=150) (args:= #[.pointer (some ⟨b,0,none⟩)]) (by simp) (by simp [go_sem]) ?_
     refine(anZ b q.1 q.2.1 q.2.2 [] Y _ a0 b2 b3 hh).mono ?_;rintro e u' N ⟨rfl,rfl,ob,rfl⟩;obtain⟨_,_,_,_,b7,b8⟩:=Zd ar (g1 _ _ bx) a8 rfl rfl q ob;obtain⟨o,ho,hy⟩:=YM cj;rw[<-hy,a7];refine fin U eb a4 _ ⟨D.sl,oset D.hp 2000 (.var 89 (tQ q))⟩ o ⟨⟨c4,_,b7,λk o e=>?_,λk e Z=>?_,λt=>(g3 t).fL b8⟩,ec,a6⟩ ho
     · have e:aj (oset D.hp 2000 _) k=some o:=e;rw[jh] at e;by_cases hk:k=2000
       · subst hk;rw[gl] at e⊢;exact e
       · rw[iG hk] at e⊢;exact g1 k o e
     · have Z:aj (oset D.hp 2000 _) k=none:=Z;rw[jh] at Z;by_cases hk:k=2000
       · subst hk;rw[gl] at Z;cases Z
       · rw[iG hk] at e Z;exact g2 k e Z
noncomputable def mkEach (G:List (dh Tryz.prog)) (M:List (Nat×bE)) (aF Y D J:Shape) {A:Type} (g:cv D⊕cv J->A) (h:A->cv D⊕cv J) (O: ∀o,h (g o)=o) (F:cv aF->Option A) (fm:pB aF [(false,D),(false,J)]=true) (N: ∀x,Ua G M aF Y D J g x=F x):dh Tryz.prog:=
 ⟨83,aF,[(false,D),(false,J)],λR x k=>(F x).bind λr=>k (h r),fm,λR x k y U=>by
  obtain⟨r,h1,h2⟩:=at8.1 U;have L:D.sl.all (λp=>nX p.2)=true/\J.sl.all (λp=>nX p.2)=true:=by unfold pB at fm;simp only[ad0,at1,List.all_nil] at fm;exact⟨fm.2.1.2,fm.2.2.1.2⟩
  exact⟨h r,h2,apM O L.1 L.2 (by rw[N];exact h1)⟩⟩
end Fx
end Go.Proofs.YtejhifnjgoclpaaGreatDoor
namespace Go.Proofs.YtejhifnjgoclpaaGreatDoor.Fx
open Go.RowKit
set_option maxRecDepth 1000000
noncomputable section
variable {α γ:Type} (call:α->α->γ->Option Int)
def tf:Int×Int×γ×Int×Int×(List α)×Unit->Option ((Int×Int×γ×Int×Int×(List α)×Unit)⊕((Int×Int×γ×Int×(List α)×Unit))):=λ(F,M,L,N,j,D,_)=>bif decide (F<j) then J (0<=j/\j<D.length)<|(D[j.toNat]?).bind λy=>J (aa .i64 (j - 1))<|J (0<=(j - 1)/\(j - 1)<D.length)<|(D[(j - 1).toNat]?).bind λY=>(call y Y L).bind λU=>bif decide (U<0) then J (aa .i64 (j - 1))<|J (aa .i64 (j - 1))<|J (0<=(j - 1)/\(j - 1)<D.length)<|(D[(j - 1).toNat]?).bind λO=>J (0<=j/\j<D.length)<|(D[j.toNat]?).bind λZ=>J (0<=j/\j<D.length)<|(D[j.toNat]?).bind λq=>J (0<=(j - 1)/\(j - 1)<(D.set j.toNat O).length)<|((D.set j.toNat O)[(j - 1).toNat]?).bind λah=>J (aa .i64 (j - 1))<|some (.inl (F,M,L,N,(j - 1),((D.set j.toNat O).set (j - 1).toNat Z),())) else some (.inr (F,M,L,N,D,())) else some (.inr (F,M,L,N,D,()))
def yk:Int×Int×γ×Int×(List α)×Unit->Option ((Int×Int×γ×Int×(List α)×Unit)⊕(((List α)×Unit))):=λ(M,D,U,i,L,_)=>bif decide (i<D) then(ab (tf call) (M,D,U,i,i,L,())).bind λ(N,O,Y,F,Z,_)=>J (aa .i64 (F+1))<|some (.inl (N,O,Y,(F+1),Z,())) else some (.inr (L,()))
def vx (a:Int) (b:Int) (cmp:γ) (l:List α):Option (List α):=J (aa .i64 (a+1))<|(ab (yk call) (a,b,cmp,(a+1),l,())).bind λ(D,_)=>some D
def CV:Int×Int×Int×Int×(List α)×Unit->Option ((Int×Int×Int×Int×(List α)×Unit)⊕(((List α)×Unit))):=λ(D,F,M,i,L,_)=>bif decide (i<M) then J (aa .i64 (D+i))<|J (aa .i64 (F+i))<|J (aa .i64 (F+i))<|J (0<=(F+i)/\(F+i)<L.length)<|(L[(F+i).toNat]?).bind λy=>J (aa .i64 (D+i))<|J (0<=(D+i)/\(D+i)<L.length)<|(L[(D+i).toNat]?).bind λN=>J (0<=(D+i)/\(D+i)<L.length)<|(L[(D+i).toNat]?).bind λq=>J (0<=(F+i)/\(F+i)<(L.set (D+i).toNat y).length)<|((L.set (D+i).toNat y)[(F+i).toNat]?).bind λO=>J (aa .i64 (i+1))<|some (.inl (D,F,M,(i+1),((L.set (D+i).toNat y).set (F+i).toNat N),())) else some (.inr (L,()))
def vB (a:Int) (b:Int) (n:Int) (cmp:γ) (l:List α):Option (List α):=(ab CV (a,b,n,0,l,())).bind λ(D,_)=>some D
def vF:Int×γ×Int×Int×(List α)×Unit->Option ((Int×γ×Int×Int×(List α)×Unit)⊕((Int×γ×Int×(List α)×Unit))):=λ(F,L,D,j,M,_)=>bif !decide (D=j) then bif decide (j<D) then J (aa .i64 (F - D))<|(vB (F - D) F j L M).bind λN=>J (aa .i64 (D - j))<|J (M.length=N.length)<|some (.inl (F,L,(D - j),j,N,())) else J (aa .i64 (F - D))<|J (aa .i64 (F+j))<|J (aa .i64 ((F+j) - D))<|(vB (F - D) ((F+j) - D) D L M).bind λO=>J (aa .i64 (j - D))<|J (M.length=O.length)<|some (.inl (F,L,D,(j - D),O,())) else some (.inr (F,L,D,M,()))
def vK (a:Int) (m:Int) (b:Int) (cmp:γ) (l:List α):Option (List α):=J (aa .i64 (m - a))<|J (aa .i64 (b - m))<|(ab vF (m,cmp,(m - a),(b - m),l,())).bind λ(F,L,D,M,_)=>J (aa .i64 (F - D))<|(vB (F - D) F D L M).bind λN=>some N
def tn (rc:(Int)->(Int)->(Int)->γ->(List α)->Option (List α)):Int×γ×Int×Int×(List α)×Unit->Option ((Int×γ×Int×Int×(List α)×Unit)⊕((Int×Int×(List α)×Unit))):=λ(M,N,D,F,L,_)=>bif decide (D<F) then J (aa .i64 (D+F))<|J (0<=(1:Int))<|J (0<=(hf (D+F))/\(hf (D+F))<L.length)<|(L[(hf (D+F)).toNat]?).bind λy=>J (0<=M/\M<L.length)<|(L[M.toNat]?).bind λU=>(call y U N).bind λO=>bif decide (O<0) then J (aa .i64 ((hf (D+F))+1))<|some (.inl (M,N,((hf (D+F))+1),F,L,())) else some (.inl (M,N,D,(hf (D+F)),L,())) else some (.inr (M,D,L,()))
def yt (rc:(Int)->(Int)->(Int)->γ->(List α)->Option (List α)):Int×Int×(List α)×Unit->Option ((Int×Int×(List α)×Unit)⊕(((List α)×Unit))):=λ(L,D,F,_)=>J (aa .i64 (L - 1))<|bif decide (D<(L - 1)) then J (aa .i64 (D+1))<|J (aa .i64 (D+1))<|J (0<=(D+1)/\(D+1)<F.length)<|(F[(D+1).toNat]?).bind λM=>J (0<=D/\D<F.length)<|(F[D.toNat]?).bind λN=>J (0<=D/\D<F.length)<|(F[D.toNat]?).bind λq=>J (0<=(D+1)/\(D+1)<(F.set D.toNat M).length)<|((F.set D.toNat M)[(D+1).toNat]?).bind λO=>J (aa .i64 (D+1))<|some (.inl (L,(D+1),((F.set D.toNat M).set (D+1).toNat N),())) else some (.inr (F,()))
def tl (rc:(Int)->(Int)->(Int)->γ->(List α)->Option (List α)):Int×γ×Int×Int×(List α)×Unit->Option ((Int×γ×Int×Int×(List α)×Unit)⊕((Int×Int×(List α)×Unit))):=λ(M,N,D,F,L,_)=>bif decide (D<F) then J (aa .i64 (D+F))<|J (0<=(1:Int))<|J (0<=M/\M<L.length)<|(L[M.toNat]?).bind λU=>J (0<=(hf (D+F))/\(hf (D+F))<L.length)<|(L[(hf (D+F)).toNat]?).bind λY=>(call U Y N).bind λO=>bif !(decide (O<0)) then J (aa .i64 ((hf (D+F))+1))<|some (.inl (M,N,((hf (D+F))+1),F,L,())) else some (.inl (M,N,D,(hf (D+F)),L,())) else some (.inr (M,D,L,()))
def yr (rc:(Int)->(Int)->(Int)->γ->(List α)->Option (List α)):Int×Int×(List α)×Unit->Option ((Int×Int×(List α)×Unit)⊕(((List α)×Unit))):=λ(M,D,F,_)=>bif decide (M<D) then J (aa .i64 (D - 1))<|J (aa .i64 (D - 1))<|J (0<=(D - 1)/\(D - 1)<F.length)<|(F[(D - 1).toNat]?).bind λL=>J (0<=D/\D<F.length)<|(F[D.toNat]?).bind λN=>J (0<=D/\D<F.length)<|(F[D.toNat]?).bind λO=>J (0<=(D - 1)/\(D - 1)<(F.set D.toNat L).length)<|((F.set D.toNat L)[(D - 1).toNat]?).bind λU=>J (aa .i64 (D - 1))<|some (.inl (M,(D - 1),((F.set D.toNat L).set (D - 1).toNat N),())) else some (.inr (F,()))
def oQ (rc:(Int)->(Int)->(Int)->γ->(List α)->Option (List α)):Int×Int×Int×γ×Int×Int×Int×Int×Int×(List α)×Unit->Option ((Int×Int×Int×γ×Int×Int×Int×Int×Int×(List α)×Unit)⊕((Int×Int×Int×γ×Int×Int×Int×(List α)×Unit))):=λ(Y,Z,ah,N,O,U,D,F,M,L,_)=>bif decide (D<F) then J (aa .i64 (D+F))<|J (0<=(1:Int))<|J (aa .i64 (M - (hf (D+F))))<|J (0<=(M - (hf (D+F)))/\(M - (hf (D+F)))<L.length)<|(L[(M - (hf (D+F))).toNat]?).bind λar=>J (0<=(hf (D+F))/\(hf (D+F))<L.length)<|(L[(hf (D+F)).toNat]?).bind λav=>(call ar av N).bind λan=>bif !(decide (an<0)) then J (aa .i64 ((hf (D+F))+1))<|some (.inl (Y,Z,ah,N,O,U,((hf (D+F))+1),F,M,L,())) else some (.inl (Y,Z,ah,N,O,U,D,(hf (D+F)),M,L,())) else some (.inr (Y,Z,ah,N,O,U,D,L,()))
def C0 (rc:Int->Int->Int->γ->List α->Option (List α)) (L F N:Int) (Y:γ) (l:List α):Option (List α):=J (aa .i64 (F - L))<|bif decide ((F - L)=1) then(ab (tn call rc) (L,Y,F,N,l,())).bind λ(a,b,q,_)=>(ab (yt rc) (b,a,q,())).bind λ(q,_)=>some q else J (aa .i64 (N - F))<|bif decide ((N - F)=1) then(ab (tl call rc) (F,Y,L,F,l,())).bind λ(a,b,q,_)=>(ab (yr rc) (b,a,q,())).bind λ(q,_)=>some q else J (aa .i64 (L+N))<|J (0<=(1:Int))<|let M:Int:=hf (L+N);let K:Int×Int×Int×γ×Int×Int×Int×List α×Unit->Option (List α):=λ(Z,y2,y3,U,O,z2,z3,o,_)=>J (aa .i64 (z2 - z3))<|let w:Int:=z2 - z3;let D0:List α->Option (List α):=λq=>bif decide (O<w) then(bif decide (w<y3) then(rc O w y3 U q).bind λs=>some s else some q) else some q;let D:List α->List α->Option (List α):=λp q=>bif decide (O<w) then(bif decide (w<y3) then J (p.length=q.length)<|(rc O w y3 U q).bind λs=>some s else some q) else some q;let E0:List α->Option (List α):=λq=>bif decide (Z<z3) then(bif decide (z3<O) then(rc Z z3 O U q).bind λs=>D q s else D0 q) else D0 q;let E:List α->List α->Option (List α):=λp q=>bif decide (Z<z3) then(bif decide (z3<O) then J (p.length=q.length)<|(rc Z z3 O U q).bind λs=>D q s else D p q) else D p q;bif decide (z3<y2) then(bif decide (y2<w) then(vK z3 y2 w U o).bind λr=>E o r else E0 o) else E0 o;J (aa .i64 (M+F))<|bif decide (M<F) then J (aa .i64 ((M+F) - N))<|J (aa .i64 ((M+F) - 1))<|(ab (oQ call rc) (L,F,N,Y,M,(M+F),((M+F) - N),M,((M+F) - 1),l,())).bind K else J (aa .i64 ((M+F) - 1))<|(ab (oQ call rc) (L,F,N,Y,M,(M+F),L,F,((M+F) - 1),l,())).bind K
def tk (rc:Int×Int×Int×γ×(List α)×Unit->Option (List α)):Int×Int×Int×γ×(List α)×Unit->Option (List α):=λx=>(C0 call) (λa0 D a2 a3 a4=>rc (a0,D,a2,a3,a4,())) x.1 x.2.1 x.2.2.1 x.2.2.2.1 x.2.2.2.2.1
def Jy (a0:Int) (D:Int) (a2:Int) (a3:γ) (a4:List α):Option (List α):=ou (tk call) (a0,D,a2,a3,a4,())
def vE:Int×γ×Int×Int×Int×(List α)×Unit->Option ((Int×γ×Int×Int×Int×(List α)×Unit)⊕((Int×γ×Int×Int×(List α)×Unit))):=λ(L,F,D,N,b,M,_)=>bif decide (b<=L) then((vx call) N b F M).bind λO=>J (aa .i64 (b+D))<|J (M.length=O.length)<|some (.inl (L,F,D,b,(b+D),O,())) else some (.inr (L,F,D,N,M,()))
def vC:Int×γ×Int×Int×Int×(List α)×Unit->Option ((Int×γ×Int×Int×Int×(List α)×Unit)⊕((Int×γ×Int×Int×(List α)×Unit))):=λ(N,M,D,L,F,O,_)=>bif decide (F<=N) then J (aa .i64 (L+D))<|((Jy call) L (L+D) F M O).bind λU=>J (aa .i64 (2*D))<|J (aa .i64 (F+(2*D)))<|J (O.length=U.length)<|some (.inl (N,M,D,F,(F+(2*D)),U,())) else some (.inr (N,M,D,L,O,()))
def tp:Int×γ×Int×(List α)×Unit->Option ((Int×γ×Int×(List α)×Unit)⊕(((List α)×Unit))):=λ(U,ah,L,Y,_)=>bif decide (L<U) then J (aa .i64 (2*L))<|(ab (vC call) (U,ah,L,0,(2*L),Y,())).bind λ(M,N,D,F,O,_)=>J (aa .i64 (F+D))<|bif decide ((F+D)<M) then((Jy call) F (F+D) M N O).bind λZ=>J (aa .i64 (D*2))<|J (O.length=Z.length)<|some (.inl (M,N,(D*2),Z,())) else J (aa .i64 (D*2))<|some (.inl (M,N,(D*2),O,())) else some (.inr (Y,()))
def DB (n:Int) (cmp:γ) (l:List α):Option (List α):=(ab (vE call) (n,cmp,20,0,20,l,())).bind λ(L,D,O,N,M,_)=>((vx call) N L D M).bind λF=>(J (M.length=F.length)<|ab (tp call) (L,D,O,F,())).bind λ(U,_)=>some U
def yH (cmp:γ) (l:List α):Option (List α):=((DB call) (l.length:Int) cmp l).bind λD=>some D
def gp:List UInt8:=[46]
def oa:List UInt8:=[45]
def acT:List UInt8:=[33,61]
def acC:List UInt8:=[60]
def acD:List UInt8:=[60,61]
def acA:List UInt8:=[62]
def abZ:List UInt8:=[62,61]
def abY:List UInt8:=[126]
def acz:List UInt8:=[94]
def kr:List UInt8:=[42]
def acB:List UInt8:=[61]
def nS:List UInt8:=[115,111,117,114,99,101]
def Wl:List UInt8:=[55,102,102,56,48,48,48,48,48,48,48,48,48,48,48,49]
def jJ:List UInt8:=[111,112,101,110]
def wa:List UInt8:=[99,108,111,115,101,100]
def qA:List UInt8:=[99,108,97,105,109]
def iF:List UInt8:=[97,108,108,111,119]
def pe:List UInt8:=[100,101,110,121]
def hW:List UInt8:=[102,105,114,115,116]
def ui:List UInt8:=[112,105,110]
def qG:List UInt8:=[104,97,115,104]
def tL:List UInt8:=[116,101,110,97,110,116]
def RT:List UInt8:=[112,111,108,105,99,121]
def SY:List UInt8:=[105,110,100,101,120]
def SZ:List UInt8:=[101,110,116,114,121]
def FA:List UInt8:=[121,97,110,107,101,100]
def uj:List UInt8:=[98,97,110]
def tW:List UInt8:=[110,101,101,100]
def oX:List UInt8:=[102,101,97,116,117,114,101]
def TZ:List UInt8:=[10]
def TY:List UInt8:=[35]
def AW:List UInt8:=[64]
def TW:List UInt8:=[47]
def TB:List UInt8:=[124]
def TX:List UInt8:=[44]
def QL:List UInt8:=[109,97,110,105,102,101,115,116]
def TA:List UInt8:=[114,111,111,116]
def agi:List UInt8:=[112,111,108,105,99,121,10,115,111,117,114,99,101,32,109,97,105,110,32,51,102,102,48,48,48,48,48,48,48,48,48,48,48,48,48,32,111,112,101,110,10,116,101,110,97,110,116,32,116,32,45,10]
def s_t:List UInt8:=[116]
def agA:List UInt8:=[109,97,110,105,102,101,115,116,10,114,111,111,116,32,97,32,42,10]
abbrev Lp (V R:Type):=V->Option (V⊕R)
abbrev ae:=List UInt8
abbrev aD:=List ae
abbrev jy:=Int×Int×Int
abbrev gC:=jy×ae
abbrev sF:=List (Int×gC)
abbrev jY:=List sF
abbrev pL:=ae×jY×aD
abbrev bF:=List pL
abbrev p6:=List (ae×bF)
abbrev oH:=ae×gC×Int×Int×Bool×bF×bF×p6
abbrev xm:=ae×ae×aD
abbrev aK:=List xm
abbrev oK:=List (ae×aK)
abbrev xR:=ae×ae×ae×ae×Bool×aK×aK×oK
abbrev Bw:=ae×Int
abbrev bK:=List (xR×Bw)
abbrev iC:=List Bw
abbrev aA:=List Int
abbrev fY:=List (ae×aA)
abbrev fX:=List (ae×gC)
abbrev NB:=ae×Int×aD
abbrev fM:=List NB
abbrev fx:=List (ae×Nat×Bool)
abbrev gU:=fx×fM×fX×fY×iC
abbrev kL:=Int×Int×jy
abbrev iw:=ae×ae
abbrev aS:=List iw
abbrev H8:=Int×aD×aA
abbrev NC:=(oH×ae)×Int
abbrev jf:=List NC
abbrev GC:=iC×Unit
abbrev OO:=fx×fM×fX×fY×GC
abbrev eE:=List (oH×ae)
abbrev eD:=Int×Unit
abbrev cS:=eE×bF×aS
abbrev je:=List (ae×iw)
abbrev GD:=bF×Unit
abbrev kE:=List oH
abbrev UF:=Bool×kE×bF×bF×Bool×p6×GD
abbrev adk:=bF×bF×Bool×p6×ae×GD
abbrev bP:=H8×Int
abbrev xQ:=Option (ae×Bool×kE×ae×Int×Int×Int×ae×Int×Int×Bool×bP×adk⊕Value×UF)
abbrev dq:=List kL
abbrev ng:=dq×Unit
abbrev nF:=Int×Int×ng
abbrev fW:=List (ae×aD)
abbrev cW:=H8×Int×jy
abbrev bz:=Option Bool
abbrev bH:=Option Int
abbrev pN:=Int×Int×Int×aD
abbrev Ia:=List (Int×pN)
abbrev gV:=aA×Unit
abbrev OQ:=Int×Int×Int×Int×Int×aD×gV
abbrev kM:=List Ia
abbrev iP:=Int×eD
abbrev jA:=Int×iP
abbrev pO:=Int×jA
abbrev UB:=Int×aD×aA×pO
abbrev rE:=ae×ae×ae×ae×Bool×ae×ae×ae×ae×aK×aK×Bool×oK×ae×aK×UB
abbrev rD:=List (iw×Bool)
abbrev lH:=je×aK×aS×fW×aS
abbrev jz:=aS×Unit
abbrev p5:=ae×Unit
abbrev td:=Int×Int×p5
abbrev OP:=je×aK×aS×fW×jz
abbrev NJ:=jf×Unit
abbrev Bv:=List xR
abbrev oJ:=List (ae×Bv)
abbrev jS:=aD×Unit
abbrev oI:=Int×Int×Int×jS
abbrev uI:=bP×Unit
abbrev H9:=Option (fx×fM×fX×fY×iC×uI⊕Value×OO)
abbrev VK:=ae×Bool×kE×ae×Int×Int×Int×ae×Int×Int×Bool×adk
abbrev uK:=Option jf
abbrev uL:=bK×aK×Int
abbrev Ib:=Option (aA×Bool×uL)
abbrev rF:=List (ae×kE)
abbrev sH:=Value×Unit
abbrev Cq:=Option (ae×uI⊕sH)
abbrev Cp:=ae×aD×je×aK×aS×fW×aS×UB
abbrev lr:=Option dq
abbrev Bx:=Int->Int->Int->dq->lr
abbrev gi:=List H8
abbrev q8:=Option (ae×Bool)
abbrev ada:=aK×aK×Bool×oK×ae×aK×Unit
abbrev NL:=ae×ae×ae×ae×ae×ae×Bool×Bv×ae×ae×ae×ae×Bool×Int×aD×aA×Int×Int×Int×Int×ada
abbrev jr:=Unit⊕eD
abbrev jq:=Unit⊕Unit
abbrev sG:=Option (Int×Bool)
abbrev sI:=aA×eD
abbrev NK:=fx×fM×fX×fY×iC×Int×aD×sI
abbrev pM:=bK×aK×eD
abbrev NI:=Int×Int×Int×gi×Unit
abbrev q7:=Int×nF
abbrev lu:=ae×eD
abbrev adr:=ae×oJ×bK×Int×Int×Int×je×aK×aS×fW×aS×ae×ae×ae×ae×Bool×aK×aK×oK×lu
abbrev BB:=ae×Int×Int×Int×ae×Bool×Bv×ae×ae×ae×ae×Bool×ada
abbrev NM:=eE×aA×aD×aS×bF×rD×Unit
abbrev nh:=Option aA
abbrev BA:=Int×Int×OQ
abbrev Bz:=aS×aK×Unit
abbrev adw:=Int×ae×fx×fM×fX×fY×iC×Int×je×aK×aS×fW×aS×ae×oJ×rF×Unit
abbrev adu:=fx×fM×fX×fY×iC×NJ
abbrev uJ:=Int×Int×Int×ae×Int×td
abbrev UI:=Int×je×aK×aS×fW×aS×bK×Unit
abbrev Uy:=bF×Int×Int×jz
abbrev adt:=Lp (bF×Int×Int×aD×Int×Int×ae×jY×aD×jz) Uy
abbrev UH:=Int×Int×adu
abbrev UG:=Option (je×aK×aS×fW×aS×cW)
abbrev By:=Option (ae×ae×ae×ae×Bool×aK×aK×Bool×oK×ae×aK×cW)
abbrev xl:=Int×gV
abbrev xn:=Int×xl
abbrev GF:=Option (Bool×ae)
abbrev sJ:=Option ae
abbrev NN:=Int×Int×Int×aD×oI
abbrev pP:=aK×jz
abbrev GI:=Option (Int×ae)
abbrev GH:=Int×ae×p5
abbrev GG:=Int×bF×nF
abbrev BC:=Int×Int×td
abbrev NG:=Int×Int×jY×Unit
abbrev sE:=Int×q7
abbrev Bs:=Option aS
abbrev GB:=p5⊕Int×p5
abbrev xk:=Option aD
abbrev NF:=Option (ae×cW)
abbrev ND:=Option (gi×jy)
abbrev adf:=Lp (bK×aA×Int×Bz) (bK×aA×Bz⊕eD)
abbrev UA:=Int×Int×aS×eE×GD
abbrev uH:=aA×iP
abbrev sD:=Bool×GD
abbrev sC:=Bool×OO
abbrev Uz:=Option (Int×uI⊕sH)
abbrev ade:=Lp (Int×je×aK×aS×fW×aS×jS) jS
abbrev xj:=xm×ae
abbrev adb:=Option (eE×aA×aD×aS×bF×rD)
abbrev NA:=Int×Int×BA
abbrev Nz:=Int×Int×pO
abbrev Ux:=eE×bF×bK×aK
abbrev adp:=Lp (Int×ae×Int×rE) (ae×rE)
abbrev UE:=Option (aA×Bool)
abbrev UD:=Int×Int×Int×NI
abbrev adn:=ae×ae×jY×aD×Int×aD×sI
abbrev Bu:=Int×OP
abbrev Bt:=eD⊕eD
abbrev adl:=Int×Int×Int×gU×NJ->uK
abbrev adj:=Lp (Int×aD×OP) (aD×OP)
abbrev UC:=aA->uL->Ib
abbrev adi:=eE×aD×aS×bF×rD×gV
abbrev adg:=cS×Int×Int×aS×Int×GG
abbrev NH:=ae×ae×ae×ae×aD×UB
def DD:Lp (ae×iP) (p5⊕Unit):=λ(F,L,D,_)=>let M:UInt8->Option (ae×iP⊕p5⊕Unit):=λb=>bif decide ((b.toNat:Int)<97) then bif !decide ((b.toNat:Int)=45) then some (.inr (.inr (()))) else J (aa .i64 (D+1))<|some (.inl (F,L,(D+1),())) else bif decide (122<(b.toNat:Int)) then bif !decide ((b.toNat:Int)=45) then some (.inr (.inr (()))) else J (aa .i64 (D+1))<|some (.inl (F,L,(D+1),())) else J (aa .i64 (D+1))<|some (.inl (F,L,(D+1),()));bif decide (D<L) then(ag F D).bind λb=>bif decide ((b.toNat:Int)<48) then M b else bif decide (57<(b.toNat:Int)) then M b else J (aa .i64 (D+1))<|some (.inl (F,L,(D+1),())) else some (.inr (.inl (F,())))
def Kd (s:ae):bz:=bif decide (s=[]) then some false else bif decide (8<(s.length:Int)) then some false else(ab DD (s,(s.length:Int),0,())).bind λo=>match o with|.inl (D,_)=>(tv D).bind λJ=>bif !J then some true else bif decide ((D.length:Int)=1) then some true else(ag D 0).bind λF=>some (!decide ((F.toNat:Int)=48))|.inr (_)=>some false
def DJ:Lp (aD×iP) jq:=λ(F,L,D,_)=>bif decide (D<L) then(ag F D).bind λN=>(Kd N).bind λM=>bif !M then some (.inr (.inr (()))) else J (aa .i64 (D+1))<|some (.inl (F,L,(D+1),())) else some (.inr (.inl (())))
def D6 (s:ae):bz:=(strings_Split s gp).bind λsplit=>bif decide (4<(split.length:Int)) then some false else(ab DJ (split,(split.length:Int),0,())).bind λo=>match o with|.inl (_)=>some true|.inr (_)=>some false
def tg:Lp (Int×Int×Int×BC) (Int×td⊕Unit):=λ(F,L,M,D,N,O,U,Y,_)=>bif decide (D<3) then if D=((2:Nat):Int) then bif decide (M<0) then some (.inr (.inr (()))) else bif decide (999999<M) then some (.inr (.inr (()))) else J (aa .i64 (D+1))<|some (.inl (F,L,M,(D+1),N,O,U,Y,())) else if D=((1:Nat):Int) then bif decide (L<0) then some (.inr (.inr (()))) else bif decide (999999<L) then some (.inr (.inr (()))) else J (aa .i64 (D+1))<|some (.inl (F,L,M,(D+1),N,O,U,Y,())) else if D=((0:Nat):Int) then bif decide (F<0) then some (.inr (.inr (()))) else bif decide (999999<F) then some (.inr (.inr (()))) else J (aa .i64 (D+1))<|some (.inl (F,L,M,(D+1),N,O,U,Y,())) else none else some (.inr (.inl (N,O,U,Y,())))
def ym (v:gC):bz:=(ab tg (v.1.1,v.1.2.1,v.1.2.2,0,v.1.1,v.1.2.1,v.1.2.2,v.2,())).bind λo=>match o with|.inl (M,J,L,D,_)=>bif decide (D=[]) then some true else(D6 D).bind λF=>some F|.inr (_)=>some false
def IY (v:gC):sJ:=(ym v).bind λM=>bif !M then some [] else(strconv_Itoa v.1.1).bind λD=>J (D.length+gp.length<=9223372036854775807)<|(strconv_Itoa v.1.2.1).bind λF=>J ((D++gp).length+F.length<=9223372036854775807)<|J (((D++gp)++F).length+gp.length<=9223372036854775807)<|(strconv_Itoa v.1.2.2).bind λL=>J ((((D++gp)++F)++gp).length+L.length<=9223372036854775807)<|bif !decide (v.2=[]) then J (oa.length+v.2.length<=9223372036854775807)<|J (((((D++gp)++F)++gp)++L).length+(oa++v.2).length<=9223372036854775807)<|some (((((D++gp)++F)++gp)++L)++(oa++v.2)) else some ((((D++gp)++F)++gp)++L)
def EX (op:Int):sJ:=bif decide (op=1) then some acT else bif decide (op=2) then some acC else bif decide (op=3) then some acD else bif decide (op=4) then some acA else bif decide (op=5) then some abZ else bif decide (op=6) then some abY else bif decide (op=7) then some acz else bif decide (op=8) then some kr else some acB
def Ej:Lp (ae×Int×Nz) (ae×Int×Nz):=λ(F,L,D,M)=>bif decide (D<(F.length:Int)) then(ag F D).bind λb=>bif !decide ((b.toNat:Int)=35) then J (aa .i64 (D+1))<|some (.inl (F,L,(D+1),M)) else some (.inr (F,L,D,M)) else some (.inr (F,L,D,M))
def zl:Lp (ae×NA) (ae×NA):=λ(F,M,L,O,D,N)=>bif decide (D<L) then(ag F D).bind λU=>bif !decide ((U.toNat:Int)=32) then(ag F D).bind λY=>bif !decide ((Y.toNat:Int)=9) then J (aa .i64 (D+1))<|some (.inl (F,M,L,O,(D+1),N)) else some (.inr (F,M,L,O,D,N)) else some (.inr (F,M,L,O,D,N)) else some (.inr (F,M,L,O,D,N))
def zk:Lp (ae×Int×NA) (ae×NA⊕pO):=λ(L,F,O,U,M,D,N)=>bif decide (D<M) then(ag L D).bind λY=>bif decide ((Y.toNat:Int)<33) then J (aa .i64 (D+1))<|some (.inr (.inr (0,1,F,(D+1),()))) else(ag L D).bind λZ=>bif decide (126<(Z.toNat:Int)) then J (aa .i64 (D+1))<|some (.inr (.inr (0,1,F,(D+1),()))) else J (aa .i64 (D+1))<|some (.inl (L,F,O,U,M,(D+1),N)) else some (.inr (.inl (L,F,O,U,M,N)))
def rL:Lp (ae×Int×BA) (OQ⊕pO):=λ(N,Z,U,D,O)=>bif decide (D<U) then(ag N D).bind λaE=>bif decide ((aE.toNat:Int)=32) then J (aa .i64 (D+1))<|some (.inl (N,Z,U,(D+1),O)) else(ag N D).bind λa1=>bif decide ((a1.toNat:Int)=9) then J (aa .i64 (D+1))<|some (.inl (N,Z,U,(D+1),O)) else(ab zl (N,Z,U,D,D,O)).bind λ(b9,ah,b7,F,an,bp,bx,b0,b1,b6,ar,a6)=>bif decide (20<=(ar.length:Int)) then J (aa .i64 (F+1))<|some (.inr (.inr (0,2,ah,(F+1),()))) else J (aa .i64 (an - F))<|bif decide (80<(an - F)) then J (aa .i64 (F+1))<|some (.inr (.inr (0,2,ah,(F+1),()))) else(ab zk (b9,ah,b7,F,an,F,bp,bx,b0,b1,b6,ar,a6)).bind λo=>match o with|.inl (Y,a7,b8,L,M,a8,b2,b3,b4,b5,av,az,_)=>J (0<=L/\L<=M/\M<=Y.length)<|J (av.length+([((Y.take M.toNat).drop L.toNat)]:aD).length<=1000000000)<|J (aa .i64 (L+1))<|J (az.length+([(L+1)]:aA).length<=1000000000)<|some (.inl (Y,a7,b8,M,a8,b2,b3,b4,b5,(av++([((Y.take M.toNat).drop L.toNat)]:aD)),(az++([(L+1)]:aA)),()))|.inr bb=>some (.inr (.inr bb)) else some (.inr (.inl (O)))
def zX (x:ae) (D:Int):Option (H8×jy):=(ab Ej (x,D,0,0,0,0,0,D,())).bind λ(a1,M,aE,O,ah,an,ar,az,_)=>(ab rL (a1,M,aE,0,O,ah,an,ar,az,[],[],())).bind λF=>match F with|.inl (a6,a7,a8,bb,av,J,L,_)=>some ((av,J,L),(0,0,0))|.inr (N,U,Y,Z,_)=>some ((N,[],[]),(U,Y,Z))
def DG:Lp (ae×Int×UD) (ae×Int×UD):=λ(F,M,N,L,D,U,Y,Z,O,_)=>bif decide (D<(F.length:Int)) then(ag F D).bind λb=>bif !decide ((b.toNat:Int)=10) then J (aa .i64 (D+1))<|some (.inl (F,M,N,L,(D+1),U,Y,Z,O,())) else some (.inr (F,M,N,L,D,U,Y,Z,O,())) else some (.inr (F,M,N,L,D,U,Y,Z,O,()))
def yQ:Lp (ae×UD) (NI⊕jA):=λ(Y,aE,no,at_,ar,av,az,U,_)=>bif decide (at_<(Y.length:Int)) then(ab DG (Y,aE,no,at_,at_,ar,av,az,U,())).bind λ(L,N,F,M,D,Z,ah,an,O,_)=>bif decide (N<F) then some (.inr (.inr (2,F,0,()))) else J (0<=M/\M<=D/\D<=L.length)<|(zX ((L.take D.toNat).drop M.toNat) F).bind λsplit=>bif !decide (split.2.1=0) then some (.inr (.inr (split.2.1,split.2.2.1,split.2.2.2,()))) else bif decide (0<(split.1.2.1.length:Int)) then J (O.length+([split.1]:gi).length<=1000000000)<|J (aa .i64 (D+1))<|J (aa .i64 (F+1))<|some (.inl (L,N,(F+1),(D+1),Z,ah,an,(O++([split.1]:gi)),())) else J (aa .i64 (D+1))<|J (aa .i64 (F+1))<|some (.inl (L,N,(F+1),(D+1),Z,ah,an,O,())) else some (.inr (.inl (ar,av,az,U,())))
def Qi (s:ae) (D:Int):ND:=(ab yQ (s,D,1,0,0,0,0,[],())).bind λo=>match o with|.inl (N,O,U,F,_)=>some (F,(0,0,0))|.inr (J,L,M,_)=>some ([],(J,L,M))
def Af (s:ae):ND:=bif decide (20000<(s.length:Int)) then some ([],(2,0,0)) else(Qi s 800).bind λD=>some (D.1,D.2)
def dF (o:cW):Option (Bool×cW):=some (decide (o.2.2.1=0),o)
def jg (o:cW):NF:=(dF o).bind λaJ=>bif !aJ.1 then some ([],aJ.2) else bif decide ((aJ.2.1.2.1.length:Int)<=aJ.2.2.1) then some ([],(aJ.2.1,aJ.2.2.1,1,aJ.2.1.1,0)) else J (aa .i64 (aJ.2.2.1+1))<|J (aa .i64 ((aJ.2.2.1+1) - 1))<|(ag aJ.2.1.2.1 ((aJ.2.2.1+1) - 1)).bind λD=>some (D,(aJ.2.1,(aJ.2.2.1+1),aJ.2.2.2))
def fi (code:Int) (o:cW):Option cW:=bif decide (o.2.2.1=0) then bif decide (0<o.2.1) then J (aa .i64 (o.2.1 - 1))<|(ag o.1.2.2 (o.2.1 - 1)).bind λD=>some (o.1,o.2.1,code,o.1.1,D) else some (o.1,o.2.1,code,o.1.1,0) else some o
def fA (n:Int) (F:Int) (o:cW):Option cW:=(dF o).bind λaJ=>bif aJ.1 then bif decide (F<=n) then(fi 2 aJ.2).bind λD=>some D else some aJ.2 else some aJ.2
def Jl:adj:=λ(i,F,D,L,M,N,O,_)=>bif decide (i<(D.length:Int)) then J (0<=i/\i<D.length)<|(D[i.toNat]?).bind λy=>J (F.length+([y.1]:aD).length<=1000000000)<|J (aa .i64 (i+1))<|some (.inl ((i+1),(F++([y.1]:aD)),D,L,M,N,O,())) else some (.inr (F,D,L,M,N,O,()))
def JD (l:je) (D:aK) (F:aS) (J:fW) (L:aS):Option (aD×lH):=(ab Jl (0,[],l,D,F,J,L,())).bind λ(Z,M,N,O,U,Y,_)=>some (Z,M,N,O,U,Y)
def yV:Lp lu jq:=λ(L,D,_)=>let M:UInt8->Option (lu⊕jq):=λF=>bif decide (48<=(F.toNat:Int)) then bif decide ((F.toNat:Int)<=57) then J (aa .i64 (D+1))<|some (.inl (L,(D+1),())) else bif !(decide ((F.toNat:Int)=45)) then some (.inr (.inr (()))) else J (aa .i64 (D+1))<|some (.inl (L,(D+1),())) else bif !(decide ((F.toNat:Int)=45)) then some (.inr (.inr (()))) else J (aa .i64 (D+1))<|some (.inl (L,(D+1),()));bif decide (D<(L.length:Int)) then(ag L D).bind λF=>bif decide (97<=(F.toNat:Int)) then bif decide ((F.toNat:Int)<=122) then J (aa .i64 (D+1))<|some (.inl (L,(D+1),())) else M F else M F else some (.inr (.inl (())))
def zj (s:ae):bz:=bif decide (20<(s.length:Int)) then some false else bif decide (0<(s.length:Int)) then(ag s 0).bind λb=>bif decide ((b.toNat:Int)<97) then some false else(ag s 0).bind λD=>bif decide (122<(D.toNat:Int)) then some false else(ab yV (s,0,())).bind λo=>match o with|.inl (_)=>some true|.inr (_)=>some false else(ab yV (s,0,())).bind λF=>match F with|.inl (_)=>some true|.inr (_)=>some false
def vY (s:ae):bz:=bif decide (0<(s.length:Int)) then(zj s).bind λD=>bif D then J (aa .i64 ((s.length:Int) - 1))<|(ag s ((s.length:Int) - 1)).bind λb=>some (!decide ((b.toNat:Int)=45)) else some false else some false
def DY:Lp lu (p5⊕eD):=λ(D,i,_)=>bif decide (i<(D.length:Int)) then(ag D i).bind λb=>bif decide ((b.toNat:Int)=47) then some (.inr (.inr (i,()))) else J (aa .i64 (i+1))<|some (.inl (D,(i+1),())) else some (.inr (.inl (D,())))
def zx (s:ae):bH:=(ab DY (s,0,())).bind λo=>match o with|.inl (D,_)=>some (D.length:Int)|.inr (F,_)=>some F
def EG (s:ae):bz:=(zx s).bind λD=>bif decide (D<(s.length:Int)) then(ag s 0).bind λb=>bif decide ((b.toNat:Int)=64) then J (0<=(1:Int)/\(1:Int)<=D/\D<=s.length)<|(vY ((s.take D.toNat).drop (1:Int).toNat)).bind λF=>some F else some false else some false
def vZ (s:ae):bz:=(EG s).bind λM=>bif M then(zx s).bind λD=>J (aa .i64 (D+1))<|J (0<=(D+1)/\(D+1)<=(s.length:Int)/\(s.length:Int)<=s.length)<|(vY ((s.take (s.length:Int).toNat).drop (D+1).toNat)).bind λF=>some F else(vY s).bind λL=>some L
def zW:Lp (ae×oI) (ae×Int×jS):=λ(D,M,F,i,L,_)=>bif decide (i<(D.length:Int)) then(ag D i).bind λb=>bif decide ((b.toNat:Int)=M) then J (0<=F/\F<=i/\i<=D.length)<|J (L.length+([((D.take i.toNat).drop F.toNat)]:aD).length<=1000000000)<|J (aa .i64 (i+1))<|J (aa .i64 (i+1))<|some (.inl (D,M,(i+1),(i+1),(L++([((D.take i.toNat).drop F.toNat)]:aD)),())) else J (aa .i64 (i+1))<|some (.inl (D,M,F,(i+1),L,())) else some (.inr (D,F,L,()))
def qB (s:ae) (c:Int):xk:=(ab zW (s,c,0,0,[],())).bind λ(D,F,L,_)=>J (0<=F/\F<=(D.length:Int)/\(D.length:Int)<=D.length)<|J (L.length+([((D.take (D.length:Int).toNat).drop F.toNat)]:aD).length<=1000000000)<|some (L++([((D.take (D.length:Int).toNat).drop F.toNat)]:aD))
def vN:Lp (ae×iP) Bt:=λ(L,F,D,_)=>bif decide (D<(L.length:Int)) then(ag L D).bind λN=>bif decide ((N.toNat:Int)<48) then some (.inr (.inr (0,()))) else(ag L D).bind λO=>bif decide (57<(O.toNat:Int)) then some (.inr (.inr (0,()))) else J (aa .i64 (10*F))<|(ag L D).bind λM=>J (aa .i64 ((10*F)+(IntKind.wrap .i64 (M.toNat:Int))))<|J (aa .i64 (((10*F)+(IntKind.wrap .i64 (M.toNat:Int))) - 48))<|J (aa .i64 (D+1))<|some (.inl (L,(((10*F)+(IntKind.wrap .i64 (M.toNat:Int))) - 48),(D+1),())) else some (.inr (.inl (F,())))
def zA (w:ae):sG:=bif decide ((w.length:Int)<1) then some (0,false) else bif decide (9<(w.length:Int)) then some (0,false) else bif decide (1<(w.length:Int)) then(ag w 0).bind λb=>bif decide ((b.toNat:Int)=48) then some (0,false) else(ab vN (w,0,0,())).bind λo=>match o with|.inl (D,_)=>some (D,true)|.inr (L,_)=>some (L,false) else(ab vN (w,0,0,())).bind λJ=>match J with|.inl (F,_)=>some (F,true)|.inr (M,_)=>some (M,false)
def zy (s:ae):sG:=(zA s).bind λD=>bif D.2 then some (D.1,decide ((s.length:Int)<=6)) else some (D.1,false)
def y9:Lp lu jq:=λ(D,i,_)=>bif decide (i<(D.length:Int)) then(ag D i).bind λb=>bif decide ((b.toNat:Int)<48) then some (.inr (.inr (()))) else(ag D i).bind λF=>bif decide (57<(F.toNat:Int)) then some (.inr (.inr (()))) else J (aa .i64 (i+1))<|some (.inl (D,(i+1),())) else some (.inr (.inl (())))
def zz (s:ae):bz:=(ab y9 (s,0,())).bind λo=>match o with|.inl (_)=>some true|.inr (_)=>some false
def EH:Lp lu jq:=λ(L,D,_)=>let M:UInt8->Option (lu⊕jq):=λF=>bif decide (97<=(F.toNat:Int)) then bif decide ((F.toNat:Int)<=122) then J (aa .i64 (D+1))<|some (.inl (L,(D+1),())) else bif !(decide ((F.toNat:Int)=45)) then some (.inr (.inr (()))) else J (aa .i64 (D+1))<|some (.inl (L,(D+1),())) else bif !(decide ((F.toNat:Int)=45)) then some (.inr (.inr (()))) else J (aa .i64 (D+1))<|some (.inl (L,(D+1),()));bif decide (D<(L.length:Int)) then(ag L D).bind λF=>bif decide (48<=(F.toNat:Int)) then bif decide ((F.toNat:Int)<=57) then J (aa .i64 (D+1))<|some (.inl (L,(D+1),())) else M F else M F else some (.inr (.inl (())))
def LS (s:ae):bz:=let D:bz:=(ab EH (s,0,())).bind λo=>match o with|.inl (_)=>some true|.inr (_)=>some false;bif decide (s=[]) then some false else bif decide (8<(s.length:Int)) then some false else bif decide (1<(s.length:Int)) then(ag s 0).bind λb=>bif decide ((b.toNat:Int)=48) then(zz s).bind λF=>bif F then some false else D else D else D
def Ei:Lp (ae×pO) (ae×pO):=λ(F,D,L,M,N,_)=>bif decide (D<(F.length:Int)) then(ag F D).bind λb=>bif !decide ((b.toNat:Int)=45) then J (aa .i64 (D+1))<|some (.inl (F,(D+1),L,M,N,())) else some (.inr (F,D,L,M,N,())) else some (.inr (F,D,L,M,N,()))
def vP:Lp (Int×Int×Int×Int×oI) (Int×Int×Int×oI⊕jA):=λ(D,L,M,N,O,U,Y,F,_)=>bif decide (D<(F.length:Int)) then(ag F D).bind λah=>(LS ah).bind λZ=>bif !Z then some (.inr (.inr (0,0,0,()))) else J (aa .i64 (D+1))<|some (.inl ((D+1),L,M,N,O,U,Y,F,())) else some (.inr (.inl (L,M,N,O,U,Y,F,())))
def qn (x:ae):Option (pN×Bool):=(ab Ei (x,0,0,0,0,())).bind λ(F,D,Y,Z,ah,_)=>J (0<=(0:Int)/\(0:Int)<=D/\D<=F.length)<|(qB ((F.take D.toNat).drop (0:Int).toNat) 46).bind λL=>bif !decide ((L.length:Int)=3) then some ((0,0,0,[]),false) else(ag L 0).bind λa7=>(zy a7).bind λM=>(ag L 1).bind λa8=>(zy a8).bind λN=>(ag L 2).bind λbb=>(zy bb).bind λO=>bif !M.2 then some ((0,0,0,[]),false) else bif !N.2 then some ((0,0,0,[]),false) else bif !O.2 then some ((0,0,0,[]),false) else bif decide (D<(F.length:Int)) then J (aa .i64 (D+1))<|J (0<=(D+1)/\(D+1)<=(F.length:Int)/\(F.length:Int)<=F.length)<|(qB ((F.take (F.length:Int).toNat).drop (D+1).toNat) 46).bind λU=>bif decide (4<(U.length:Int)) then some ((0,0,0,[]),false) else(ab vP (0,Y,Z,ah,M.1,N.1,O.1,U,())).bind λo=>match o with|.inl (b6,b7,b8,b4,b5,bp,bx,_)=>some ((b4,b5,bp,bx),true)|.inr (ar,av,az,_)=>some ((ar,av,az,[]),false) else bif decide (4<0) then some ((0,0,0,[]),false) else(ab vP (0,Y,Z,ah,M.1,N.1,O.1,[],())).bind λan=>match an with|.inl (b9,ca,cc,b0,b1,b2,b3,_)=>some ((b0,b1,b2,b3),true)|.inr (aE,a1,a6,_)=>some ((aE,a1,a6,[]),false)
def R0 (op:Int):sJ:=(ag ([acB,acT,acC,acD,acA,abZ,abY,acz,kr]:aD) op).bind λD=>some D
def zV:Lp (ae×Int×pO) (ae×Int×pO):=λ(F,D,L)=>bif decide (D<(F.length:Int)) then(ag F D).bind λb=>bif decide ((b.toNat:Int)<48) then J (aa .i64 (D+1))<|some (.inl (F,(D+1),L)) else(ag F D).bind λM=>bif decide (57<(M.toNat:Int)) then J (aa .i64 (D+1))<|some (.inl (F,(D+1),L)) else some (.inr (F,D,L)) else some (.inr (F,D,L))
def Fb:Lp (ae×Nz) (pO⊕Bool×Int×oI):=λ(D,F,op,M,N,O,U,_)=>bif decide (op<8) then J (0<=(0:Int)/\(0:Int)<=F/\F<=D.length)<|(R0 op).bind λY=>bif decide (((D.take F.toNat).drop (0:Int).toNat)=Y) then J (0<=F/\F<=(D.length:Int)/\(D.length:Int)<=D.length)<|(qn ((D.take (D.length:Int).toNat).drop F.toNat)).bind λL=>some (.inr (.inr (L.2,op,L.1.1,L.1.2.1,L.1.2.2.1,L.1.2.2.2,()))) else J (aa .i64 (op+1))<|some (.inl (D,F,(op+1),M,N,O,U,())) else some (.inr (.inl (M,N,O,U,())))
def Mf (s:ae):Option ((Int×pN)×Bool):=bif decide (s=kr) then some ((8,0,0,0,[]),true) else(ab zV (s,0,0,0,0,0,())).bind λ(F,D,Z,ah,J,L,_)=>(ab Fb (F,D,0,Z,ah,J,L,())).bind λo=>match o with|.inl (ar,av,az,aE,_)=>some ((0,0,0,0,[]),false)|.inr (an,M,N,O,U,Y,_)=>some ((M,N,O,U,Y),an)
def Eg:Lp (aD×Int×aD×Int×Ia×kM×Unit) (aD×Int×Ia×kM×Unit⊕Unit):=λ(M,L,m,k,F,N,_)=>bif decide (k<(m.length:Int)) then(ag m k).bind λO=>(Mf O).bind λD=>bif !D.2 then some (.inr (.inr (()))) else J (F.length+([D.1]:Ia).length<=1000000000)<|J (aa .i64 (k+1))<|some (.inl (M,L,m,(k+1),(F++([D.1]:Ia)),N,())) else some (.inr (.inl (M,L,F,N,())))
def Ef:Lp (aD×Int×kM×Unit) (kM×Unit⊕Unit):=λ(l,i,M,_)=>bif decide (i<(l.length:Int)) then(ag l i).bind λU=>(qB U 44).bind λD=>bif decide (4<(D.length:Int)) then some (.inr (.inr (()))) else(ab Eg (l,i,D,0,[],M,())).bind λo=>match o with|.inl (O,F,L,N,_)=>J (N.length+([L]:kM).length<=1000000000)<|J (aa .i64 (F+1))<|some (.inl (O,(F+1),(N++([L]:kM)),()))|.inr (_)=>some (.inr (.inr (()))) else some (.inr (.inl (M,())))
def zU (s:ae):Option (kM×Bool):=(qB s 124).bind λD=>bif decide (80<(s.length:Int)) then some ([],false) else bif decide (4<(D.length:Int)) then some ([],false) else(ab Ef (D,0,[],())).bind λF=>match F with|.inl (J,_)=>some (J,true)|.inr (_)=>some ([],false)
def oU:Lp (ae×xl) (ae×gV⊕Unit):=λ(D,i,L,_)=>let M:Option (ae×xl⊕ae×gV⊕Unit):=(ag D i).bind λF=>J (aa .u8 ((F.toNat:Int) - 97))<|J (0<=((F.toNat:Int) - 97)/\((F.toNat:Int) - 97)<L.length)<|(L[((F.toNat:Int) - 97).toNat]?).bind λq=>J (aa .i64 (i+1))<|some (.inl (D,(i+1),(L.set ((F.toNat:Int) - 97).toNat 1),()));bif decide (i<(D.length:Int)) then(ag D i).bind λb=>bif decide ((b.toNat:Int)<97) then some (.inr (.inr (()))) else(ag D i).bind λN=>bif decide (122<(N.toNat:Int)) then some (.inr (.inr (()))) else bif decide (0<i) then J (aa .i64 (i - 1))<|(ag D (i - 1)).bind λO=>(ag D i).bind λU=>bif decide ((U.toNat:Int)<=(O.toNat:Int)) then some (.inr (.inr (()))) else M else M else some (.inr (.inl (D,L,())))
def zw (s:ae):UE:=J ((26:Int)=(26:Int)/\0<=(26:Int)/\(26:Int)<=1000000000)<|bif decide (s=oa) then some ((List.replicate (26:Int).toNat 0),true) else(ab oU (s,0,(List.replicate (26:Int).toNat 0),())).bind λo=>match o with|.inl (F,D,_)=>some (D,decide (0<(F.length:Int)))|.inr (_)=>some ([],false)
def EI:Lp (ae×iP) Bt:=λ(F,D,i,_)=>let L:UInt8->Option (ae×iP⊕Bt):=λb=>bif decide (97<=(IntKind.wrap .u64 (b.toNat:Int))) then bif decide ((IntKind.wrap .u64 (b.toNat:Int))<=102) then J (aa .i64 (i+1))<|some (.inl (F,(IntKind.wrap .u64 ((IntKind.wrap .u64 ((IntKind.wrap .u64 (D*16))+(IntKind.wrap .u64 (b.toNat:Int)))) - 87)),(i+1),())) else some (.inr (.inr (0,()))) else some (.inr (.inr (0,())));bif decide (i<16) then(ag F i).bind λb=>bif decide (48<=(IntKind.wrap .u64 (b.toNat:Int))) then bif decide ((IntKind.wrap .u64 (b.toNat:Int))<=57) then J (aa .i64 (i+1))<|some (.inl (F,(IntKind.wrap .u64 ((IntKind.wrap .u64 ((IntKind.wrap .u64 (D*16))+(IntKind.wrap .u64 (b.toNat:Int)))) - 48)),(i+1),())) else L b else L b else some (.inr (.inl (D,())))
def nT (s:ae):sG:=bif !decide ((s.length:Int)=16) then some (0,false) else(ab EI (s,0,0,())).bind λo=>match o with|.inl (D,_)=>some (D,true)|.inr (F,_)=>some (F,false)
def Ac (s:ae):bz:=bif decide (0<(s.length:Int)) then J (aa .i64 ((s.length:Int) - 1))<|(ag s ((s.length:Int) - 1)).bind λb=>some (decide ((b.toNat:Int)=42)) else some false
def Ad (s:ae):bz:=(Ac s).bind λO=>bif !O then(vZ s).bind λF=>some F else J (aa .i64 ((s.length:Int) - 1))<|J (0<=(0:Int)/\(0:Int)<=((s.length:Int) - 1)/\((s.length:Int) - 1)<=s.length)<|(EG ((s.take ((s.length:Int) - 1).toNat).drop (0:Int).toNat)).bind λN=>bif N then(zx ((s.take ((s.length:Int) - 1).toNat).drop (0:Int).toNat)).bind λD=>J (aa .i64 (D+1))<|J (0<=(D+1)/\(D+1)<=(((s.take ((s.length:Int) - 1).toNat).drop (0:Int).toNat).length:Int)/\(((s.take ((s.length:Int) - 1).toNat).drop (0:Int).toNat).length:Int)<=((s.take ((s.length:Int) - 1).toNat).drop (0:Int).toNat).length)<|(zj ((((s.take ((s.length:Int) - 1).toNat).drop (0:Int).toNat).take (((s.take ((s.length:Int) - 1).toNat).drop (0:Int).toNat).length:Int).toNat).drop (D+1).toNat)).bind λL=>some L else(zj ((s.take ((s.length:Int) - 1).toNat).drop (0:Int).toNat)).bind λM=>some M
def ji (w:ae) (kind:Int):bz:=bif decide (kind=1) then(vY w).bind λN=>some N else bif decide (kind=2) then(vZ w).bind λD=>some D else bif decide (kind=3) then(qn w).bind λL=>some L.2 else bif decide (kind=4) then(zU w).bind λM=>some M.2 else bif decide (kind=5) then(zw w).bind λJ=>some J.2 else bif decide (kind=6) then(nT w).bind λbits=>some bits.2 else bif decide (kind=7) then(Ad w).bind λF=>some F else some false
def eW (kind:Int) (o:cW):NF:=(jg o).bind λD=>(dF D.2).bind λaJ=>bif aJ.1 then(ji D.1 kind).bind λis=>bif !is then(fi 1 aJ.2).bind λF=>some (D.1,F) else some (D.1,aJ.2) else some (D.1,aJ.2)
def wc:Lp (aD×lu) jq:=λ(D,F,i,_)=>bif decide (i<(D.length:Int)) then(ag D i).bind λL=>bif decide (L=F) then some (.inr (.inr (()))) else J (aa .i64 (i+1))<|some (.inl (D,F,(i+1),())) else some (.inr (.inl (())))
def mM (l:aD) (s:ae):bz:=(ab wc (l,s,0,())).bind λo=>match o with|.inl (_)=>some false|.inr (_)=>some true
def j8 (kind:Int) (l:aD) (o:cW):NF:=(eW kind o).bind λD=>(dF D.2).bind λaJ=>bif aJ.1 then(mM l D.1).bind λJ=>bif J then(fi 3 aJ.2).bind λF=>some (D.1,F) else some (D.1,aJ.2) else some (D.1,aJ.2)
def FF (b:Int):bH:=let D:bH:=bif decide ((bits .and .u64 (b.fdiv (2 ^(min (52:Int).toNat (IntKind.bits .u64)))) 2047)=2047) then some 6 else bif decide ((bits .and .u64 (b.fdiv (2 ^(min (52:Int).toNat (IntKind.bits .u64)))) 2047)=0) then bif decide ((bits .and .u64 b 4503599627370495)=0) then bif decide ((b.fdiv (2 ^(min (63:Int).toNat (IntKind.bits .u64))))=1) then some 3 else bif decide ((bits .and .u64 (b.fdiv (2 ^(min (52:Int).toNat (IntKind.bits .u64)))) 2047)=0) then bif decide ((bits .and .u64 b 4503599627370495)=0) then some 4 else bif decide ((b.fdiv (2 ^(min (63:Int).toNat (IntKind.bits .u64))))=1) then some 2 else some 5 else bif decide ((b.fdiv (2 ^(min (63:Int).toNat (IntKind.bits .u64))))=1) then some 2 else some 5 else bif decide ((bits .and .u64 (b.fdiv (2 ^(min (52:Int).toNat (IntKind.bits .u64)))) 2047)=0) then bif decide ((bits .and .u64 b 4503599627370495)=0) then some 4 else bif decide ((b.fdiv (2 ^(min (63:Int).toNat (IntKind.bits .u64))))=1) then some 2 else some 5 else bif decide ((b.fdiv (2 ^(min (63:Int).toNat (IntKind.bits .u64))))=1) then some 2 else some 5 else bif decide ((bits .and .u64 (b.fdiv (2 ^(min (52:Int).toNat (IntKind.bits .u64)))) 2047)=0) then bif decide ((bits .and .u64 b 4503599627370495)=0) then some 4 else bif decide ((b.fdiv (2 ^(min (63:Int).toNat (IntKind.bits .u64))))=1) then some 2 else some 5 else bif decide ((b.fdiv (2 ^(min (63:Int).toNat (IntKind.bits .u64))))=1) then some 2 else some 5;J (0<=(52:Int))<|J (0<=(63:Int))<|bif decide ((bits .and .u64 (b.fdiv (2 ^(min (52:Int).toNat (IntKind.bits .u64)))) 2047)=2047) then bif !decide ((bits .and .u64 b 4503599627370495)=0) then some 0 else bif decide ((bits .and .u64 (b.fdiv (2 ^(min (52:Int).toNat (IntKind.bits .u64)))) 2047)=2047) then bif decide ((b.fdiv (2 ^(min (63:Int).toNat (IntKind.bits .u64))))=1) then some 1 else D else D else bif decide ((bits .and .u64 (b.fdiv (2 ^(min (52:Int).toNat (IntKind.bits .u64)))) 2047)=2047) then bif decide ((b.fdiv (2 ^(min (63:Int).toNat (IntKind.bits .u64))))=1) then some 1 else D else D
def Ae (b:Int):sJ:=(FF b).bind λF=>bif decide (F=0) then some Wl else(Aw b).bind λD=>some D
def k6 (l:aD) (o:cW):NF:=(jg o).bind λD=>(dF D.2).bind λaJ=>bif aJ.1 then(mM l D.1).bind λJ=>bif !J then(fi 1 aJ.2).bind λF=>some (D.1,F) else some (D.1,aJ.2) else some (D.1,aJ.2)
def Jm:adj:=λ(i,F,L,D,M,N,O,_)=>bif decide (i<(D.length:Int)) then J (0<=i/\i<D.length)<|(D[i.toNat]?).bind λy=>J (F.length+([y.1]:aD).length<=1000000000)<|J (aa .i64 (i+1))<|some (.inl ((i+1),(F++([y.1]:aD)),L,D,M,N,O,())) else some (.inr (F,L,D,M,N,O,()))
def JE (l:je) (D:aK) (F:aS) (J:fW) (L:aS):Option (aD×lH):=(ab Jm (0,[],l,D,F,J,L,())).bind λ(Z,M,N,O,U,Y,_)=>some (Z,M,N,O,U,Y)
def j6 (o:cW):Option (Bool×cW):=(dF o).bind λaJ=>bif aJ.1 then some (decide (aJ.2.2.1<(aJ.2.1.2.1.length:Int)),aJ.2) else some (false,aJ.2)
def C4:Lp (ae×Bu) jr:=λ(F,i,D,L,M,N,O,_)=>bif decide (i<(D.length:Int)) then(ag D i).bind λU=>bif decide (U.1=F) then some (.inr (.inr (i,()))) else J (aa .i64 (i+1))<|some (.inl (F,(i+1),D,L,M,N,O,())) else some (.inr (.inl (())))
def vH (p:lH) (s:ae):bH:=(ab C4 (s,0,p.1,p.2.1,p.2.2.1,p.2.2.2.1,p.2.2.2.2,())).bind λo=>match o with|.inl (_)=>some (-1)|.inr (D,_)=>some D
def kT:Lp (ae×Cp) (ae×Cp):=λ(an,ar,M,O,U,Y,Z,ah,a7,a8,bb,bp,bx,b0,b1,_)=>let av:Bool×cW->ae×cW->Option (ae×Cp⊕ae×Cp):=λD F=>bif D.1 then(mM M F.1).bind λa6=>bif a6 then(fi 3 D.2).bind λN=>J (M.length+([F.1]:aD).length<=1000000000)<|some (.inl (an,ar,(M++([F.1]:aD)),O,U,Y,Z,ah,N.1.1,N.1.2.1,N.1.2.2,N.2.1,N.2.2.1,N.2.2.2.1,N.2.2.2.2,())) else J (M.length+([F.1]:aD).length<=1000000000)<|some (.inl (an,ar,(M++([F.1]:aD)),O,U,Y,Z,ah,D.2.1.1,D.2.1.2.1,D.2.1.2.2,D.2.2.1,D.2.2.2.1,D.2.2.2.2.1,D.2.2.2.2.2,())) else J (M.length+([F.1]:aD).length<=1000000000)<|some (.inl (an,ar,(M++([F.1]:aD)),O,U,Y,Z,ah,D.2.1.1,D.2.1.2.1,D.2.1.2.2,D.2.2.1,D.2.2.2.1,D.2.2.2.2.1,D.2.2.2.2.2,()));(j6 ((a7,a8,bb),bp,bx,b0,b1)).bind λL=>bif L.1 then(eW 1 L.2).bind λF=>(dF F.2).bind λaJ=>bif aJ.1 then(vH (O,U,Y,Z,ah) F.1).bind λb2=>bif decide (b2<0) then(fi 4 aJ.2).bind λaz=>(dF az).bind λD=>av D F else(dF aJ.2).bind λaE=>av aE F else(dF aJ.2).bind λa1=>av a1 F else some (.inr (an,ar,M,O,U,Y,Z,ah,L.2.1.1,L.2.1.2.1,L.2.1.2.2,L.2.2.1,L.2.2.2.1,L.2.2.2.2.1,L.2.2.2.2.2,()))
def Qz (l:je) (L:aK) (U:aS) (Y:fW) (Z:aS) (o:cW):UG:=(fA (L.length:Int) 16 o).bind λar=>(JE l L U Y Z).bind λD=>(j8 7 D.1 ar).bind λO=>(k6 ([iF,pe,hW]:aD) O.2).bind λF=>(J (l.length=D.2.1.length)<|J (L.length=D.2.2.1.length)<|J (U.length=D.2.2.2.1.length)<|J (Y.length=D.2.2.2.2.1.length)<|J (Z.length=D.2.2.2.2.2.length)<|ab kT (O.1,F.1,[],D.2.1,D.2.2.1,D.2.2.2.1,D.2.2.2.2.1,D.2.2.2.2.2,F.2.1.1,F.2.1.2.1,F.2.1.2.2,F.2.2.1,F.2.2.2.1,F.2.2.2.2.1,F.2.2.2.2.2,())).bind λ(M,N,an,av,ah,az,aE,a1,a6,a7,a8,bb,bp,bx,b0,_)=>J (ah.length+([(M,N,an)]:aK).length<=1000000000)<|some (av,(ah++([(M,N,an)]:aK)),az,aE,a1,((a6,a7,a8),bb,bp,bx,b0))
def Ki:Lp (Int×aD×jz) (aD×jz):=λ(i,F,D,_)=>bif decide (i<(D.length:Int)) then J (0<=i/\i<D.length)<|(D[i.toNat]?).bind λy=>J (F.length+([y.1]:aD).length<=1000000000)<|J (aa .i64 (i+1))<|some (.inl ((i+1),(F++([y.1]:aD)),D,())) else some (.inr (F,D,()))
def ED (l:aS):Option (aD×aS):=(ab Ki (0,[],l,())).bind λ(F,D,_)=>some (F,D)
def KB:Lp (Int×aD×fW×Unit) (aD×fW×Unit):=λ(i,F,D,_)=>bif decide (i<(D.length:Int)) then J (0<=i/\i<D.length)<|(D[i.toNat]?).bind λy=>J (F.length+([y.1]:aD).length<=1000000000)<|J (aa .i64 (i+1))<|some (.inl ((i+1),(F++([y.1]:aD)),D,())) else some (.inr (F,D,()))
def Lq (l:fW):Option (aD×fW):=(ab KB (0,[],l,())).bind λ(F,D,_)=>some (F,D)
def Lo (kind:Int) (o:cW) (l:aD):Option (ae×cW×aD):=(eW kind o).bind λD=>(dF D.2).bind λaJ=>bif aJ.1 then(mM l D.1).bind λJ=>bif J then(fi 3 aJ.2).bind λF=>some (D.1,F,l) else some (D.1,aJ.2,l) else some (D.1,aJ.2,l)
def kU:Lp Cp Cp:=λ(N,M,O,U,Y,Z,ah,an,ar,av,az,aE,a1,a6,_)=>(j6 ((an,ar,av),az,aE,a1,a6)).bind λD=>bif D.1 then(Lo 6 D.2 M).bind λF=>J (M.length=F.2.2.length)<|(fA (F.2.2.length:Int) 4 F.2.1).bind λL=>J (F.2.2.length+([F.1]:aD).length<=1000000000)<|some (.inl (N,(F.2.2++([F.1]:aD)),O,U,Y,Z,ah,L.1.1,L.1.2.1,L.1.2.2,L.2.1,L.2.2.1,L.2.2.2.1,L.2.2.2.2,())) else some (.inr (N,M,O,U,Y,Z,ah,D.2.1.1,D.2.1.2.1,D.2.1.2.2,D.2.2.1,D.2.2.2.1,D.2.2.2.2.1,D.2.2.2.2.2,()))
def QO (l:je) (Z:aK) (ah:aS) (F:fW) (an:aS) (o:cW):UG:=(fA (F.length:Int) 16 o).bind λY=>(Lq F).bind λL=>(j8 2 L.1 Y).bind λM=>(eW 6 M.2).bind λD=>J (([D.1]:aD).length<=1000000000)<|(J (F.length=L.2.length)<|ab kU (M.1,([D.1]:aD),l,Z,ah,L.2,an,D.2.1.1,D.2.1.2.1,D.2.1.2.2,D.2.2.1,D.2.2.2.1,D.2.2.2.2.1,D.2.2.2.2.2,())).bind λ(N,U,ar,av,az,O,aE,a1,a6,a7,a8,bb,bp,bx,_)=>J (O.length+([(N,U)]:fW).length<=1000000000)<|some (ar,av,az,(O++([(N,U)]:fW)),aE,((a1,a6,a7),a8,bb,bp,bx))
def mB (Y:ae) (l:je) (M:aK) (F:aS) (N:fW) (L:aS) (o:cW):UG:=bif decide (Y=nS) then(fA (l.length:Int) 8 o).bind λbb=>(JD l M F N L).bind λD=>(j8 1 D.1 bb).bind λan=>(eW 6 an.2).bind λa6=>(nT a6.1).bind λbits=>(Ae bits.1).bind λa7=>(k6 ([jJ,wa]:aD) a6.2).bind λaz=>J (l.length=D.2.1.length)<|J (D.2.1.length+([(an.1,a7,az.1)]:je).length<=1000000000)<|J (M.length=D.2.2.1.length)<|J (F.length=D.2.2.2.1.length)<|J (N.length=D.2.2.2.2.1.length)<|J (L.length=D.2.2.2.2.2.length)<|some ((D.2.1++([(an.1,a7,az.1)]:je)),D.2.2.1,D.2.2.2.1,D.2.2.2.2.1,D.2.2.2.2.2,az.2) else bif decide (Y=qA) then(Qz l M F N L o).bind λO=>some (O.1,O.2.1,O.2.2.1,O.2.2.2.1,O.2.2.2.2.1,O.2.2.2.2.2) else bif decide (Y=ui) then(fA (F.length:Int) 16 o).bind λbp=>(ED F).bind λZ=>(j8 2 Z.1 bp).bind λar=>J (F.length=Z.2.length)<|(eW 3 ar.2).bind λaE=>J (Z.2.length+([(ar.1,aE.1)]:aS).length<=1000000000)<|some (l,M,(Z.2++([(ar.1,aE.1)]:aS)),N,L,aE.2) else bif decide (Y=qG) then(QO l M F N L o).bind λU=>some (U.1,U.2.1,U.2.2.1,U.2.2.2.1,U.2.2.2.2.1,U.2.2.2.2.2) else bif decide (Y=tL) then(fA (L.length:Int) 8 o).bind λbx=>(ED L).bind λah=>(j8 1 ah.1 bx).bind λav=>J (L.length=ah.2.length)<|(eW 5 av.2).bind λa1=>J (ah.2.length+([(av.1,a1.1)]:aS).length<=1000000000)<|some (l,M,F,N,(ah.2++([(av.1,a1.1)]:aS)),a1.2) else(fi 1 o).bind λa8=>some (l,M,F,N,L,a8)
def gE (o:cW):Option cW:=(j6 o).bind λD=>bif D.1 then J (aa .i64 (D.2.2.1+1))<|(fi 1 (D.2.1,(D.2.2.1+1),D.2.2.2)).bind λF=>some F else some D.2
def j9:Lp (gi×Int×Int×Int×Bu) (gi×Int×Int×Bu⊕jA):=λ(D,i,an,ar,av,O,U,Y,Z,ah,_)=>bif decide (i<(D.length:Int)) then(ag D i).bind λa7=>(jg (a7,0,0,0,0)).bind λL=>bif decide (0<i) then(mB L.1 O U Y Z ah L.2).bind λF=>(gE F.2.2.2.2.2).bind λaz=>(dF az).bind λaJ=>bif !aJ.1 then some (.inr (.inr (aJ.2.2.2.1,aJ.2.2.2.2.1,aJ.2.2.2.2.2,()))) else J (aa .i64 (i+1))<|some (.inl (D,(i+1),an,ar,av,F.1,F.2.1,F.2.2.1,F.2.2.2.1,F.2.2.2.2.1,())) else bif !decide (L.1=RT) then(fi 1 L.2).bind λa6=>(gE a6).bind λaE=>(dF aE).bind λM=>bif !M.1 then some (.inr (.inr (M.2.2.2.1,M.2.2.2.2.1,M.2.2.2.2.2,()))) else J (aa .i64 (i+1))<|some (.inl (D,(i+1),an,ar,av,O,U,Y,Z,ah,())) else(gE L.2).bind λa1=>(dF a1).bind λN=>bif !N.1 then some (.inr (.inr (N.2.2.2.1,N.2.2.2.2.1,N.2.2.2.2.2,()))) else J (aa .i64 (i+1))<|some (.inl (D,(i+1),an,ar,av,O,U,Y,Z,ah,())) else some (.inr (.inl (D,an,ar,av,O,U,Y,Z,ah,())))
def zS (text:ae):Option (lH×jy):=(Af text).bind λD=>bif !decide (D.2.1=0) then some (([],[],[],[],[]),D.2) else(ab j9 (D.1,0,0,0,0,[],[],[],[],[],())).bind λo=>match o with|.inl (F,ar,ah,an,J,L,M,N,O,_)=>bif decide ((F.length:Int)=0) then some (([],[],[],[],[]),(1,0,0)) else some ((J,L,M,N,O),(0,0,0))|.inr (U,Y,Z,_)=>some (([],[],[],[],[]),(U,Y,Z))
def EC:Lp (aS×lu) (Unit⊕p5):=λ(D,F,i,_)=>bif decide (i<(D.length:Int)) then(ag D i).bind λL=>bif decide (L.1=F) then(ag D i).bind λM=>some (.inr (.inr (M.2,()))) else J (aa .i64 (i+1))<|some (.inl (D,F,(i+1),())) else some (.inr (.inl (())))
def wb (l:aS) (s:ae):q8:=(ab EC (l,s,0,())).bind λo=>match o with|.inl (_)=>some ([],false)|.inr (D,_)=>some (D,true)
def FE (x:xR) (name:ae) (version:ae):bz:=bif decide (x.1=name) then some (decide (x.2.1=version)) else some false
def nQ:Lp (Int×NL) NL:=λ(D,a7,a8,N,O,bb,bp,F,L,Y,Z,ah,an,ar,b1,b2,b3,b4,b5,b6,b7,av,az,U,aE,a1,a6,_)=>let b0:Bool->Bool×cW->Option (Int×NL⊕NL):=λbx aJ=>bif bx then(fi 3 aJ.2).bind λM=>J (aa .i64 (D+1))<|some (.inl ((D+1),a7,a8,N,O,bb,bp,F,L,Y,Z,ah,an,ar,M.1.1,M.1.2.1,M.1.2.2,M.2.1,M.2.2.1,M.2.2.2.1,M.2.2.2.2,av,az,U,aE,a1,a6,())) else J (aa .i64 (D+1))<|some (.inl ((D+1),a7,a8,N,O,bb,bp,F,L,Y,Z,ah,an,ar,aJ.2.1.1,aJ.2.1.2.1,aJ.2.1.2.2,aJ.2.2.1,aJ.2.2.2.1,aJ.2.2.2.2.1,aJ.2.2.2.2.2,av,az,U,aE,a1,a6,()));bif decide (D<(((bif F then 0 else L.length+1):Nat):Int)) then(dF ((b1,b2,b3),b4,b5,b6,b7)).bind λaJ=>bif aJ.1 then only (!F)<|J (0<=D/\D<=(L.length:Int))<|bif decide (D=(L.length:Int)) then only (!F)<|(FE (Y,Z,ah,an,ar,av,az,(bif U then[] else(aE++[(a1,a6)]))) N O).bind λbx=>b0 bx aJ else only (!F)<|(L[D.toNat]?).bind λy=>(FE y N O).bind λb8=>b0 b8 aJ else J (aa .i64 (D+1))<|some (.inl ((D+1),a7,a8,N,O,bb,bp,F,L,Y,Z,ah,an,ar,aJ.2.1.1,aJ.2.1.2.1,aJ.2.1.2.2,aJ.2.2.1,aJ.2.2.2.1,aJ.2.2.2.2.1,aJ.2.2.2.2.2,av,az,U,aE,a1,a6,())) else some (.inr (a7,a8,N,O,bb,bp,F,L,Y,Z,ah,an,ar,b1,b2,b3,b4,b5,b6,b7,av,az,U,aE,a1,a6,()))
def Fa (x:ae) (em:Bool) (l:Bv) (o:ae) (b5:ae) (b6:ae) (b7:ae) (b8:Bool) (ca:cW) (b1:aK) (b2:aK) (bx:Bool) (b3:oK) (c3:ae) (b4:aK):Option (ae×Bool×Bv×ae×ae×ae×ae×Bool×cW×aK×aK×Bool×oK×ae×aK):=(fA (((bif em then 0 else l.length+1):Nat):Int) 60 ca).bind λb0=>(eW 2 b0).bind λbp=>(eW 3 bp.2).bind λF=>(ab nQ (0,x,[],bp.1,F.1,[],[],em,l,o,b5,b6,b7,b8,F.2.1.1,F.2.1.2.1,F.2.1.2.2,F.2.2.1,F.2.2.2.1,F.2.2.2.2.1,F.2.2.2.2.2,b1,b2,bx,b3,c3,b4,())).bind λ(a7,c5,a8,bb,c6,c8,O,L,Y,Z,ah,an,ar,b9,cc,cd,ch,cj,cp,cx,av,az,U,aE,a1,a6,_)=>(eW 6 ((b9,cc,cd),ch,cj,cp,cx)).bind λM=>(eW 5 M.2).bind λN=>(j6 N.2).bind λD=>bif D.1 then(ag D.2.1.2.1 D.2.2.1).bind λc4=>bif decide (c4=FA) then J (aa .i64 (D.2.2.1+1))<|J (L.length+2<=1000000000)<|some (a7,false,(bif O then[] else(L++[(Y,Z,ah,an,ar,av,az,(bif U then[] else(aE++[(a1,a6)])))])),a8,bb,M.1,N.1,true,(D.2.1,(D.2.2.1+1),D.2.2.2),[],[],true,[],[],[]) else J (L.length+2<=1000000000)<|some (a7,false,(bif O then[] else(L++[(Y,Z,ah,an,ar,av,az,(bif U then[] else(aE++[(a1,a6)])))])),a8,bb,M.1,N.1,false,D.2,[],[],true,[],[],[]) else J (L.length+2<=1000000000)<|some (a7,false,(bif O then[] else(L++[(Y,Z,ah,an,ar,av,az,(bif U then[] else(aE++[(a1,a6)])))])),a8,bb,M.1,N.1,false,D.2,[],[],true,[],[],[])
def jE:Lp (Int×NH) NH:=λ(O,Z,ah,U,Y,L,a6,a7,ar,av,az,aE,a1,_)=>let an:Bool×cW->ae×cW->Option (Int×NH⊕NH):=λD F=>bif D.1 then bif decide (O<=(L.length:Int)) then(fi 2 D.2).bind λN=>J (L.length+([F.1]:aD).length<=1000000000)<|some (.inl (O,Z,ah,U,Y,(L++([F.1]:aD)),N.1.1,N.1.2.1,N.1.2.2,N.2.1,N.2.2.1,N.2.2.2.1,N.2.2.2.2,())) else J (L.length+([F.1]:aD).length<=1000000000)<|some (.inl (O,Z,ah,U,Y,(L++([F.1]:aD)),D.2.1.1,D.2.1.2.1,D.2.1.2.2,D.2.2.1,D.2.2.2.1,D.2.2.2.2.1,D.2.2.2.2.2,())) else J (L.length+([F.1]:aD).length<=1000000000)<|some (.inl (O,Z,ah,U,Y,(L++([F.1]:aD)),D.2.1.1,D.2.1.2.1,D.2.1.2.2,D.2.2.1,D.2.2.2.1,D.2.2.2.2.1,D.2.2.2.2.2,()));bif decide (0<O) then(j6 ((a6,a7,ar),av,az,aE,a1)).bind λM=>bif M.1 then(eW 1 M.2).bind λF=>(dF F.2).bind λaJ=>bif aJ.1 then(mM L F.1).bind λbx=>bif bx then(fi 3 aJ.2).bind λa8=>(dF a8).bind λD=>an D F else(dF aJ.2).bind λbb=>an bb F else(dF aJ.2).bind λbp=>an bp F else some (.inr (Z,ah,U,Y,L,M.2.1.1,M.2.1.2.1,M.2.1.2.2,M.2.2.1,M.2.2.2.1,M.2.2.2.2.1,M.2.2.2.2.2,())) else some (.inr (Z,ah,U,Y,L,a6,a7,ar,av,az,aE,a1,()))
def fy (J:Int) (o:cW):Option (xm×cW):=(eW 2 o).bind λF=>(eW 4 F.2).bind λD=>(ab jE (J,[],[],F.1,D.1,[],D.2.1.1,D.2.1.2.1,D.2.1.2.2,D.2.2.1,D.2.2.2.1,D.2.2.2.2.1,D.2.2.2.2.2,())).bind λ(av,az,L,M,ar,N,O,U,Y,Z,ah,an,_)=>some ((L,M,ar),((N,O,U),Y,Z,ah,an))
def nM:adp:=λ(x7,N,D,an,ar,av,az,aE,a1,a6,a7,a8,Y,Z,L,M,O,ah,bp,bx,b0,b1,b2,b3,b4,_)=>let U:Bool×cW->Option (Int×ae×Int×rE⊕ae×rE):=λaJ=>J (aa .i64 (D+1))<|some (.inl (x7,N,(D+1),an,ar,av,az,aE,a1,a6,a7,a8,Y,Z,L,M,O,ah,aJ.2.1.1,aJ.2.1.2.1,aJ.2.1.2.2,aJ.2.2.1,aJ.2.2.2.1,aJ.2.2.2.2.1,aJ.2.2.2.2.2,()));let bb:Bool×cW->Option (Int×ae×Int×rE⊕ae×rE):=λaJ=>(fi 3 aJ.2).bind λF=>J (aa .i64 (D+1))<|some (.inl (x7,N,(D+1),an,ar,av,az,aE,a1,a6,a7,a8,Y,Z,L,M,O,ah,F.1.1,F.1.2.1,F.1.2.2,F.2.1,F.2.2.1,F.2.2.2.1,F.2.2.2.2,()));bif decide (D<=x7) then(dF ((bp,bx,b0),b1,b2,b3,b4)).bind λaJ=>bif aJ.1 then only (!L)<|J (0<=D/\D<=(M.length:Int))<|bif decide (D=(M.length:Int)) then only (!L)<|bif decide (O=N) then bb aJ else U aJ else only (!L)<|(M[D.toNat]?).bind λb5=>bif decide (b5.1=N) then bb aJ else U aJ else U aJ else some (.inr (N,an,ar,av,az,aE,a1,a6,a7,a8,Y,Z,L,M,O,ah,bp,bx,b0,b1,b2,b3,b4,()))
def Kj (x:ae) (cj:ae) (cp:ae) (cx:ae) (c3:Bool) (Y:ae) (l:aK) (N:aK) (em:Bool) (D:oK) (o:ae) (ah:aK) (F:cW):By:=let Z:cW->By:=λM=>only (!em)<|J (0<=((((bif em then 0 else D.length+1):Nat):Int) - 1)/\((((bif em then 0 else D.length+1):Nat):Int) - 1)<=(D.length:Int))<|bif decide (((((bif em then 0 else D.length+1):Nat):Int) - 1)=(D.length:Int)) then only (!em)<|(fy 4 M).bind λc6=>none else only (!em)<|(D[((((bif em then 0 else D.length+1):Nat):Int) - 1).toNat]?).bind λy=>(fy 4 M).bind λc8=>none;let U:cW->By:=λO=>(fA (l.length:Int) 4 O).bind λaz=>(fy 0 az).bind λa7=>J (l.length+([a7.1]:aK).length<=1000000000)<|none;J (aa .i64 ((((bif em then 0 else D.length+1):Nat):Int) - 1))<|bif decide (Y=uj) then bif decide (0<(N.length:Int)) then(fi 1 F).bind λO=>U O else bif decide (0<(((bif em then 0 else D.length+1):Nat):Int)) then(fi 1 F).bind λav=>U av else U F else bif decide (Y=tW) then bif decide (((((bif em then 0 else D.length+1):Nat):Int) - 1)<0) then(fA (N.length:Int) 8 F).bind λaE=>(fy 4 aE).bind λa8=>J (N.length+([a8.1]:aK).length<=1000000000)<|none else only (!em)<|J (0<=((((bif em then 0 else D.length+1):Nat):Int) - 1)/\((((bif em then 0 else D.length+1):Nat):Int) - 1)<=(D.length:Int))<|bif decide (((((bif em then 0 else D.length+1):Nat):Int) - 1)=(D.length:Int)) then only (!em)<|(fA (ah.length:Int) 8 F).bind λM=>Z M else only (!em)<|(D[((((bif em then 0 else D.length+1):Nat):Int) - 1).toNat]?).bind λc4=>(fA (c4.2.length:Int) 8 F).bind λa1=>Z a1 else bif decide (Y=oX) then(fA (((bif em then 0 else D.length+1):Nat):Int) 4 F).bind λa6=>(eW 1 a6).bind λL=>(ab nM (((((bif em then 0 else D.length+1):Nat):Int) - 1),L.1,0,x,cj,cp,cx,c3,[],[],[],[],l,N,em,D,o,ah,L.2.1.1,L.2.1.2.1,L.2.1.2.2,L.2.2.1,L.2.2.2.1,L.2.2.2.2.1,L.2.2.2.2.2,())).bind λ(ch,b8,b9,ca,cc,cd,ds,ea,dd,dk,bb,bp,ar,an,bx,b0,b1,b2,b3,b4,b5,b6,b7,_)=>J (an.length+2<=1000000000)<|some (b8,b9,ca,cc,cd,bb,bp,false,(bif ar then[] else(an++[(bx,b0)])),ch,[],((b1,b2,b3),b4,b5,b6,b7)) else(fi 1 F).bind λc5=>none
def ail:adp:=λ(x7,N,D,an,ar,av,az,aE,a1,a6,a7,a8,Y,Z,L,M,O,ah,bp,bx,b0,b1,b2,b3,b4,_)=>let U:Bool×cW->Option (Int×ae×Int×rE⊕ae×rE):=λaJ=>J (aa .i64 (D+1))<|some (.inl (x7,N,(D+1),an,ar,av,az,aE,a1,a6,a7,a8,Y,Z,L,M,O,ah,aJ.2.1.1,aJ.2.1.2.1,aJ.2.1.2.2,aJ.2.2.1,aJ.2.2.2.1,aJ.2.2.2.2.1,aJ.2.2.2.2.2,()));let bb:Bool×cW->Option (Int×ae×Int×rE⊕ae×rE):=λaJ=>(fi 3 aJ.2).bind λF=>J (aa .i64 (D+1))<|some (.inl (x7,N,(D+1),an,ar,av,az,aE,a1,a6,a7,a8,Y,Z,L,M,O,ah,F.1.1,F.1.2.1,F.1.2.2,F.2.1,F.2.2.1,F.2.2.2.1,F.2.2.2.2,()));bif decide (D<=x7) then(dF ((bp,bx,b0),b1,b2,b3,b4)).bind λaJ=>bif aJ.1 then only (!L)<|J (0<=D/\D<=(M.length:Int))<|bif decide (D=(M.length:Int)) then only (!L)<|bif decide (O=N) then bb aJ else U aJ else only (!L)<|(M[D.toNat]?).bind λb5=>bif decide (b5.1=N) then bb aJ else U aJ else U aJ else some (.inr (N,an,ar,av,az,aE,a1,a6,a7,a8,Y,Z,L,M,O,ah,bp,bx,b0,b1,b2,b3,b4,()))
def y7 (x:ae) (O:ae) (U:ae) (Y:ae) (Z:Bool) (x2:ae) (l:aK) (F:aK) (em:Bool) (D:oK) (o:ae) (N:aK) (L:cW):By:=let a1:cW->By:=λah=>only (!em)<|J (0<=((((bif em then 0 else D.length+1):Nat):Int) - 1)/\((((bif em then 0 else D.length+1):Nat):Int) - 1)<=(D.length:Int))<|bif decide (((((bif em then 0 else D.length+1):Nat):Int) - 1)=(D.length:Int)) then only (!em)<|(fy 4 ah).bind λaE=>J (N.length+([aE.1]:aK).length<=1000000000)<|only (!em)<|J (0<=((((bif em then 0 else D.length+1):Nat):Int) - 1)/\((((bif em then 0 else D.length+1):Nat):Int) - 1)<=(D.length:Int))<|bif decide (((((bif em then 0 else D.length+1):Nat):Int) - 1)=(D.length:Int)) then only (!em)<|some (x,O,U,Y,Z,l,F,em,D,o,(N++([aE.1]:aK)),aE.2) else none else only (!em)<|(D[((((bif em then 0 else D.length+1):Nat):Int) - 1).toNat]?).bind λy=>(fy 4 ah).bind λb1=>none;let ar:cW->By:=λan=>(fA (l.length:Int) 4 an).bind λa8=>(fy 0 a8).bind λav=>J (l.length+([av.1]:aK).length<=1000000000)<|some (x,O,U,Y,Z,(l++([av.1]:aK)),F,em,D,o,N,av.2);J (aa .i64 ((((bif em then 0 else D.length+1):Nat):Int) - 1))<|bif decide (x2=uj) then bif decide (0<(F.length:Int)) then(fi 1 L).bind λan=>ar an else bif decide (0<(((bif em then 0 else D.length+1):Nat):Int)) then(fi 1 L).bind λa6=>ar a6 else ar L else bif decide (x2=tW) then bif decide (((((bif em then 0 else D.length+1):Nat):Int) - 1)<0) then(fA (F.length:Int) 8 L).bind λbb=>(fy 4 bb).bind λaz=>J (F.length+([az.1]:aK).length<=1000000000)<|some (x,O,U,Y,Z,l,(F++([az.1]:aK)),em,D,o,N,az.2) else only (!em)<|J (0<=((((bif em then 0 else D.length+1):Nat):Int) - 1)/\((((bif em then 0 else D.length+1):Nat):Int) - 1)<=(D.length:Int))<|bif decide (((((bif em then 0 else D.length+1):Nat):Int) - 1)=(D.length:Int)) then only (!em)<|(fA (N.length:Int) 8 L).bind λah=>a1 ah else only (!em)<|(D[((((bif em then 0 else D.length+1):Nat):Int) - 1).toNat]?).bind λb0=>(fA (b0.2.length:Int) 8 L).bind λbp=>a1 bp else bif decide (x2=oX) then(fA (((bif em then 0 else D.length+1):Nat):Int) 4 L).bind λbx=>(eW 1 bx).bind λM=>(ab ail (((((bif em then 0 else D.length+1):Nat):Int) - 1),M.1,0,x,O,U,Y,Z,[],[],[],[],l,F,em,D,o,N,M.2.1.1,M.2.1.2.1,M.2.1.2.2,M.2.2.1,M.2.2.2.1,M.2.2.2.2.1,M.2.2.2.2.2,())).bind λ_=>none else(fi 1 L).bind λa7=>some (x,O,U,Y,Z,l,F,em,D,o,N,a7)
def kW:Lp (gi×Int×BB) (gi×BB⊕ae×jA):=λ(U,O,a8,bb,bp,bx,b4,D,F,av,az,aE,a1,a6,Z,ah,Y,an,a7,ar,_)=>let b5:ae×ae×ae×ae×Bool×aK×aK×Bool×oK×ae×aK×cW->Option (gi×Int×BB⊕gi×BB⊕ae×jA):=λM=>only (!D)<|J (0<=((((bif D then 0 else F.length+1):Nat):Int) - 1)/\((((bif D then 0 else F.length+1):Nat):Int) - 1)<=(F.length:Int))<|bif decide (((((bif D then 0 else F.length+1):Nat):Int) - 1)=(F.length:Int)) then only (!D)<|(gE M.2.2.2.2.2.2.2.2.2.2.2).bind λca=>(dF ca).bind λb2=>bif !b2.1 then some (.inr (.inr ([],b2.2.2.2.1,b2.2.2.2.2.1,b2.2.2.2.2.2,()))) else J (aa .i64 (O+1))<|some (.inl (U,(O+1),a8,bb,bp,bx,b4,D,F,M.1,M.2.1,M.2.2.1,M.2.2.2.1,M.2.2.2.2.1,M.2.2.2.2.2.1,M.2.2.2.2.2.2.1,M.2.2.2.2.2.2.2.1,M.2.2.2.2.2.2.2.2.1,M.2.2.2.2.2.2.2.2.2.1,M.2.2.2.2.2.2.2.2.2.2.1,())) else none;let b6:ae×cW->Option (gi×Int×BB⊕gi×BB⊕ae×jA):=λb3=>(gE b3.2).bind λb7=>(dF b7).bind λaJ=>bif !aJ.1 then some (.inr (.inr ([],aJ.2.2.2.1,aJ.2.2.2.2.1,aJ.2.2.2.2.2,()))) else J (aa .i64 (O+1))<|some (.inl (U,(O+1),a8,bb,bp,bx,b3.1,D,F,av,az,aE,a1,a6,Z,ah,Y,an,a7,ar,()));bif decide (O<(U.length:Int)) then(ag U O).bind λcp=>(jg (cp,0,0,0,0)).bind λN=>bif decide (O=0) then bif !decide (N.1=SY) then(fi 1 N.2).bind λcc=>(eW 1 cc).bind λb3=>b6 b3 else(eW 1 N.2).bind λch=>b6 ch else bif decide (N.1=SZ) then(Fa b4 D F av az aE a1 a6 N.2 Z ah Y an a7 ar).bind λL=>(gE L.2.2.2.2.2.2.2.2.1).bind λb8=>(dF b8).bind λb0=>bif !b0.1 then some (.inr (.inr ([],b0.2.2.2.1,b0.2.2.2.2.1,b0.2.2.2.2.2,()))) else J (aa .i64 (O+1))<|some (.inl (U,(O+1),a8,bb,bp,bx,L.1,L.2.1,L.2.2.1,L.2.2.2.1,L.2.2.2.2.1,L.2.2.2.2.2.1,L.2.2.2.2.2.2.1,L.2.2.2.2.2.2.2.1,L.2.2.2.2.2.2.2.2.2.1,L.2.2.2.2.2.2.2.2.2.2.1,L.2.2.2.2.2.2.2.2.2.2.2.1,L.2.2.2.2.2.2.2.2.2.2.2.2.1,L.2.2.2.2.2.2.2.2.2.2.2.2.2.1,L.2.2.2.2.2.2.2.2.2.2.2.2.2.2,())) else bif decide ((((bif D then 0 else F.length+1):Nat):Int)=0) then(fi 1 N.2).bind λcd=>(gE cd).bind λb9=>(dF b9).bind λb1=>bif !b1.1 then some (.inr (.inr ([],b1.2.2.2.1,b1.2.2.2.2.1,b1.2.2.2.2.2,()))) else J (aa .i64 (O+1))<|some (.inl (U,(O+1),a8,bb,bp,bx,b4,D,F,av,az,aE,a1,a6,Z,ah,Y,an,a7,ar,())) else bif decide (N.1=oX) then J (aa .i64 ((((bif D then 0 else F.length+1):Nat):Int) - 1))<|J (aa .i64 ((((bif D then 0 else F.length+1):Nat):Int) - 1))<|only (!D)<|J (0<=((((bif D then 0 else F.length+1):Nat):Int) - 1)/\((((bif D then 0 else F.length+1):Nat):Int) - 1)<=(F.length:Int))<|bif decide (((((bif D then 0 else F.length+1):Nat):Int) - 1)=(F.length:Int)) then only (!D)<|(Kj av az aE a1 a6 N.1 Z ah Y an a7 ar N.2).bind λM=>b5 M else only (!D)<|(F[((((bif D then 0 else F.length+1):Nat):Int) - 1).toNat]?).bind λy=>none else J (aa .i64 ((((bif D then 0 else F.length+1):Nat):Int) - 1))<|J (aa .i64 ((((bif D then 0 else F.length+1):Nat):Int) - 1))<|only (!D)<|J (0<=((((bif D then 0 else F.length+1):Nat):Int) - 1)/\((((bif D then 0 else F.length+1):Nat):Int) - 1)<=(F.length:Int))<|bif decide (((((bif D then 0 else F.length+1):Nat):Int) - 1)=(F.length:Int)) then only (!D)<|(y7 av az aE a1 a6 N.1 Z ah Y an a7 ar N.2).bind λcj=>b5 cj else only (!D)<|(F[((((bif D then 0 else F.length+1):Nat):Int) - 1).toNat]?).bind λcx=>none else some (.inr (.inl (U,a8,bb,bp,bx,b4,D,F,av,az,aE,a1,a6,Z,ah,Y,an,a7,ar,())))
def zT (x:ae):Option ((ae×Bv)×jy):=(Af x).bind λD=>bif !decide (D.2.1=0) then some (([],[]),D.2) else(ab kW (D.1,0,[],0,0,0,[],true,[],[],[],[],[],false,[],[],true,[],[],[],())).bind λo=>match o with|.inl (ar,bb,b0,bp,bx,av,F,L,az,aE,a1,a6,a7,M,N,J,O,a8,U,_)=>bif decide ((ar.length:Int)=0) then some (([],[]),(1,0,0)) else some ((av,(bif F then[] else(L++[(az,aE,a1,a6,a7,M,N,(bif J then[] else(O++[(a8,U)])))]))),(0,0,0))|.inr (Y,Z,ah,an,_)=>some ((Y,[]),(Z,ah,an))
def qk:Lp (aD×Bool×Int×ae×je×aK×aS×fW×aS×ae×aD×oJ×Unit) (Bool×ae×je×aK×aS×fW×aS×ae×oJ×Unit⊕p5):=λ(N,O,F,av,Z,ah,an,ar,U,Y,L,M,_)=>bif decide (F<(N.length:Int)) then(ag N F).bind λaE=>(zT aE).bind λD=>bif !decide (D.2.1=0) then some (.inr (.inr ([],()))) else(mM L D.1.1).bind λaz=>bif az then some (.inr (.inr ([],()))) else J (L.length+([D.1.1]:aD).length<=1000000000)<|J (M.length+([D.1]:oJ).length<=1000000000)<|J (aa .i64 (F+1))<|some (.inl (N,O,(F+1),av,Z,ah,an,ar,U,Y,(L++([D.1.1]:aD)),(M++([D.1]:oJ)),())) else some (.inr (.inl (O,av,Z,ah,an,ar,U,Y,M,())))
def FC (x:ae) (M:ae) (J:aD):Option ((lH×ae×oJ)×Bool):=(zS x).bind λD=>bif !decide (D.2.1=0) then some ((([],[],[],[],[]),[],[]),false) else bif decide (6<(J.length:Int)) then some ((([],[],[],[],[]),[],[]),false) else(wb D.1.2.2.2.2 M).bind λF=>(ab qk (J,F.2,0,[],D.1.1,D.1.2.1,D.1.2.2.1,D.1.2.2.2.1,D.1.2.2.2.2,F.1,[],[],())).bind λo=>match o with|.inl (N,av,O,U,Y,Z,ah,an,L,_)=>some (((O,U,Y,Z,ah),an,L),N)|.inr (ar,_)=>some ((([],[],[],[],[]),ar,[]),false)
def En (c:Int):bz:=bif decide (c=32) then some true else some (decide (c=9))
def DP:Lp (Int×ae×BA) (Int×ae×BA):=λ(N,F,M,D,L)=>bif decide (D<(F.length:Int)) then(ag F D).bind λO=>(En (O.toNat:Int)).bind λU=>bif !U then J (aa .i64 (D+1))<|some (.inl (N,F,M,(D+1),L)) else some (.inr (N,F,M,D,L)) else some (.inr (N,F,M,D,L))
def yX:Lp (Int×ae×Int×BA) (Int×ae×BA⊕pO):=λ(L,F,O,M,D,N)=>bif decide (D<M) then(ag F D).bind λU=>bif decide ((U.toNat:Int)<33) then J (aa .i64 (D+1))<|some (.inr (.inr (0,1,L,(D+1),()))) else(ag F D).bind λY=>bif decide (126<(Y.toNat:Int)) then J (aa .i64 (D+1))<|some (.inr (.inr (0,1,L,(D+1),()))) else J (aa .i64 (D+1))<|some (.inl (L,F,O,M,(D+1),N)) else some (.inr (.inl (L,F,O,M,N)))
def vL:Lp (Int×ae×Int×OQ) (OQ⊕pO):=λ(av,N,L,U)=>bif decide (L<(N.length:Int)) then(ag N L).bind λb=>(En (b.toNat:Int)).bind λaz=>bif az then J (aa .i64 (L+1))<|some (.inl (av,N,(L+1),U)) else(ab DP (av,N,L,L,U)).bind λ(Z,a1,D,Y,a7,bb,bp,bx,b3,ah,aE)=>bif decide ((ah.length:Int)=20) then J (aa .i64 (D+1))<|some (.inr (.inr (0,2,Z,(D+1),()))) else J (aa .i64 (Y - D))<|bif decide (80<(Y - D)) then J (aa .i64 (D+1))<|some (.inr (.inr (0,2,Z,(D+1),()))) else(ab yX (Z,a1,D,Y,D,a7,bb,bp,bx,b3,ah,aE)).bind λo=>match o with|.inl (b5,O,F,M,a8,b0,b1,b2,b4,an,ar,_)=>J (0<=F/\F<=M/\M<=O.length)<|J (an.length+([((O.take M.toNat).drop F.toNat)]:aD).length<=1000000000)<|J (aa .i64 (F+1))<|J (ar.length+([(F+1)]:aA).length<=1000000000)<|some (.inl (b5,O,M,a8,b0,b1,b2,b4,(an++([((O.take M.toNat).drop F.toNat)]:aD)),(ar++([(F+1)]:aA)),()))|.inr a6=>some (.inr (.inr a6)) else some (.inr (.inl (U)))
def zn (x:Int) (M:ae):Option (H8×jy):=(kV M TY).bind λD=>(ab vL (x,D.1,0,0,0,0,0,x,[],[],())).bind λF=>match F with|.inl (ah,an,ar,av,Z,J,L,_)=>some ((Z,J,L),(0,0,0))|.inr (N,O,U,Y,_)=>some ((N,[],[]),(O,U,Y))
def zc:Lp (Int×Int×ae×NI) (NI⊕jA):=λ(L,no,rest,M,N,O,D,_)=>bif !decide (rest=[]) then bif decide (L<no) then some (.inr (.inr (2,no,0,()))) else(kV rest TZ).bind λF=>(zn no F.1).bind λsplit=>bif !((decide (split.2.1=0)&&(decide (split.2.2.1=0)&&decide (split.2.2.2=0)))) then some (.inr (.inr (split.2.1,split.2.2.1,split.2.2.2,()))) else bif decide (0<(split.1.2.1.length:Int)) then J (D.length+([split.1]:gi).length<=1000000000)<|J (aa .i64 (no+1))<|some (.inl (L,(no+1),F.2.1,M,N,O,(D++([split.1]:gi)),())) else J (aa .i64 (no+1))<|some (.inl (L,(no+1),F.2.1,M,N,O,D,())) else some (.inr (.inl (M,N,O,D,())))
def Q2 (s:ae) (D:Int):ND:=(ab zc (D,1,s,0,0,0,[],())).bind λo=>match o with|.inl (U,N,O,F,_)=>some (F,(0,0,0))|.inr (J,L,M,_)=>some ([],(J,L,M))
def zD (s:ae):ND:=bif decide (20000<(s.length:Int)) then some ([],(2,0,0)) else(Q2 s 800).bind λD=>some (D.1,D.2)
def jD (o:bP):Option (Bool×bP):=some (decide (o.2<(o.1.2.1.length:Int)),o)
def fh (o:bP):Cq:=(jD o).bind λD=>bif !D.1 then some (.inr ((.iface 295 (.agg #[(.int .i64 1),(.int .i64 D.2.1.1),(.int .i64 0)])),())) else J (aa .i64 (D.2.2+1))<|J (aa .i64 ((D.2.2+1) - 1))<|(ag D.2.1.2.1 ((D.2.2+1) - 1)).bind λF=>some (.inl (F,(D.2.1,(D.2.2+1)),()))
def cr (e:Int) (o:bP):Option sH:=bif decide (0<o.2) then bif decide (o.2<=(o.1.2.2.length:Int)) then J (aa .i64 (o.2 - 1))<|(ag o.1.2.2 (o.2 - 1)).bind λD=>some ((.iface 295 (.agg #[(.int .i64 e),(.int .i64 o.1.1),(.int .i64 D)])),()) else some ((.iface 295 (.agg #[(.int .i64 e),(.int .i64 o.1.1),(.int .i64 0)])),()) else some ((.iface 295 (.agg #[(.int .i64 e),(.int .i64 o.1.1),(.int .i64 0)])),())
def C6 (D:Int) (o:bP) (l:fx):Option (bP×fx×Unit⊕Value×fx×Unit):=bif decide ((l.length:Int)=D) then(cr 2 o).bind λ(F,_)=>some (.inr (F,l,())) else some (.inl (o,l,()))
def KJ (c:Int):bz:=bif decide (97<=c) then bif decide (c<=122) then some true else bif decide (48<=c) then bif decide (c<=57) then some true else some (decide (c=45)) else some (decide (c=45)) else bif decide (48<=c) then bif decide (c<=57) then some true else some (decide (c=45)) else some (decide (c=45))
def za:Lp (ae×iP) jq:=λ(F,L,D,_)=>bif decide (D<L) then(ag F D).bind λM=>(KJ (M.toNat:Int)).bind λN=>bif !N then some (.inr (.inr (()))) else J (aa .i64 (D+1))<|some (.inl (F,L,(D+1),())) else some (.inr (.inl (())))
def EM (s:ae):bz:=bif decide (20<(s.length:Int)) then some false else bif !decide (s=[]) then(ag s 0).bind λb=>bif decide ((b.toNat:Int)<97) then some false else(ag s 0).bind λD=>bif decide (122<(D.toNat:Int)) then some false else(ab za (s,(s.length:Int),0,())).bind λo=>match o with|.inl (_)=>some true|.inr (_)=>some false else(ab za (s,(s.length:Int),0,())).bind λF=>match F with|.inl (_)=>some true|.inr (_)=>some false
def ql (s:ae):bz:=bif !decide (s=[]) then(EM s).bind λD=>bif D then J (aa .i64 ((s.length:Int) - 1))<|(ag s ((s.length:Int) - 1)).bind λb=>some (!decide ((b.toNat:Int)=45)) else some false else some false
def D1 (s:ae):q8:=(ql s).bind λD=>some (s,D)
def CJ (o:bP):Cq:=(fh o).bind λJ=>match J with|.inl (word,F,_)=>(D1 word).bind λD=>bif !D.2 then(cr 1 F).bind λ(L,_)=>some (.inr (L,())) else some (.inl (D.1,F,()))|.inr (M,_)=>some (.inr (M,()))
def Jt (x:ae×Nat×Bool):sJ:=some x.1
def IM (x:ae×Nat×Bool) (o:ae):GF:=(Jt x).bind λD=>some (decide (D=o),o)
def CA:Lp (fx×td) GB:=λ(M,N,D,L,_)=>bif decide (D<N) then(ag M D).bind λO=>(IM O L).bind λF=>bif F.1 then some (.inr (.inr (D,F.2,()))) else J (aa .i64 (D+1))<|some (.inl (M,N,(D+1),F.2,())) else some (.inr (.inl (L,())))
def O1 (s:fx) (o:ae):GI:=(ab CA (s,(s.length:Int),0,o,())).bind λD=>match D with|.inl (F,_)=>some ((-1),F)|.inr (L,J,_)=>some (L,J)
def yd (l:fx) (s:ae):bH:=(O1 l s).bind λD=>some D.1
def Iw (s:ae) (o:bP) (l:fx):Option (ae×bP×fx×Unit⊕Value×fx×Unit):=(yd l s).bind λD=>bif decide (0<=D) then(cr 3 o).bind λ(F,_)=>some (.inr (F,l,())) else some (.inl (s,o,l,()))
def Po (o:bP):Option (Nat×uI⊕sH):=(fh o).bind λJ=>match J with|.inl (word,F,_)=>(zg word).bind λD=>bif !D.2 then(cr 1 F).bind λ(L,_)=>some (.inr (L,())) else some (.inl (D.1,F,()))|.inr (M,_)=>some (.inr (M,()))
def KH (s:ae):Option (Bool×Bool):=bif decide (s=jJ) then some (decide (s=jJ),true) else some (decide (s=jJ),decide (s=wa))
def Pu (o:bP):Option (Bool×uI⊕sH):=(fh o).bind λJ=>match J with|.inl (word,F,_)=>(KH word).bind λD=>bif !D.2 then(cr 1 F).bind λ(L,_)=>some (.inr (L,())) else some (.inl (D.1,F,()))|.inr (M,_)=>some (.inr (M,()))
def I2 (l:fx) (D:fM) (F:fX) (L:fY) (M:iC) (o:bP):H9:=(C6 8 o l).bind λZ=>match Z with|.inl (room,O,_)=>(J (l.length=O.length)<|(CJ room).bind λah=>match ah with|.inl (take,a8,_)=>((Iw take a8 O).bind λan=>match an with|.inl (unique,bx,N,_)=>(J (O.length=N.length)<|(Po bx).bind λar=>match ar with|.inl (U,bb,_)=>((Pu bb).bind λav=>match av with|.inl (Y,bp,_)=>J (N.length+([(unique,U,Y)]:fx).length<=1000000000)<|some (.inl ((N++([(unique,U,Y)]:fx)),D,F,L,M,bp,()))|.inr (pv,_)=>some (.inr (pv,N,D,F,L,M,())))|.inr (az,_)=>some (.inr (az,N,D,F,L,M,())))|.inr (aE,b0,_)=>some (.inr (aE,b0,D,F,L,M,())))|.inr (a1,_)=>some (.inr (a1,O,D,F,L,M,())))|.inr (a6,a7,_)=>some (.inr (a6,a7,D,F,L,M,()))
def Dh (D:Int) (o:bP) (l:fM):Option (bP×fM×Unit⊕Value×fM×Unit):=bif decide ((l.length:Int)=D) then(cr 2 o).bind λ(F,_)=>some (.inr (F,l,())) else some (.inl (o,l,()))
def IG (s:ae) (suffix:ae):bz:=bif decide ((suffix.length:Int)<=(s.length:Int)) then J (aa .i64 ((s.length:Int) - (suffix.length:Int)))<|J (0<=((s.length:Int) - (suffix.length:Int))/\((s.length:Int) - (suffix.length:Int))<=(s.length:Int)/\(s.length:Int)<=s.length)<|some (decide (((s.take (s.length:Int).toNat).drop ((s.length:Int) - (suffix.length:Int)).toNat)=suffix)) else some false
def Pr (s:ae) (suffix:ae):q8:=(IG s suffix).bind λD=>bif !D then some (s,false) else J (aa .i64 ((s.length:Int) - (suffix.length:Int)))<|J (0<=(0:Int)/\(0:Int)<=((s.length:Int) - (suffix.length:Int))/\((s.length:Int) - (suffix.length:Int))<=s.length)<|some (((s.take ((s.length:Int) - (suffix.length:Int)).toNat).drop (0:Int).toNat),true)
def yB (s:ae) (suffix:ae):q8:=(Pr s suffix).bind λD=>some (D.1,D.2)
def CL (s:ae) (D:ae):bz:=bif decide ((D.length:Int)<=(s.length:Int)) then J (0<=(0:Int)/\(0:Int)<=(D.length:Int)/\(D.length:Int)<=s.length)<|some (decide (((s.take (D.length:Int).toNat).drop (0:Int).toNat)=D)) else some false
def Pt (s:ae) (D:ae):q8:=(CL s D).bind λF=>bif !F then some (s,false) else J (0<=(D.length:Int)/\(D.length:Int)<=(s.length:Int)/\(s.length:Int)<=s.length)<|some (((s.take (s.length:Int).toNat).drop (D.length:Int).toNat),true)
def De (s:ae) (F:ae):q8:=(Pt s F).bind λD=>some (D.1,D.2)
def EN (s:ae):Option iw:=(De s AW).bind λF=>bif !F.2 then some ([],s) else(kV F.1 TW).bind λD=>bif !D.2.2 then some ([],s) else some (D.1,D.2.1)
def tB (s:ae):bz:=(EN s).bind λsplit=>(ql split.2).bind λD=>bif D then bif decide (split.1=[]) then bif decide (split.2=s) then some true else(ql split.1).bind λF=>some F else(ql split.1).bind λJ=>some J else some false
def zZ (s:ae):bz:=(yB s kr).bind λD=>bif !D.2 then(tB s).bind λF=>some F else(EN D.1).bind λsplit=>(EM split.2).bind λJ=>bif J then bif decide (split.1=[]) then bif decide (split.2=D.1) then some true else(ql split.1).bind λL=>some L else(ql split.1).bind λM=>some M else some false
def Ek (s:ae):q8:=(zZ s).bind λD=>some (s,D)
def Pp (o:bP):Cq:=(fh o).bind λJ=>match J with|.inl (word,F,_)=>(Ek word).bind λD=>bif !D.2 then(cr 1 F).bind λ(L,_)=>some (.inr (L,())) else some (.inl (D.1,F,()))|.inr (M,_)=>some (.inr (M,()))
def JG (x:NB):sJ:=some x.1
def IN (x:NB) (o:ae):GF:=(JG x).bind λD=>some (decide (D=o),o)
def CC:Lp (fM×td) GB:=λ(M,N,D,L,_)=>bif decide (D<N) then(ag M D).bind λO=>(IN O L).bind λF=>bif F.1 then some (.inr (.inr (D,F.2,()))) else J (aa .i64 (D+1))<|some (.inl (M,N,(D+1),F.2,())) else some (.inr (.inl (L,())))
def O3 (s:fM) (o:ae):GI:=(ab CC (s,(s.length:Int),0,o,())).bind λD=>match D with|.inl (F,_)=>some ((-1),F)|.inr (L,J,_)=>some (L,J)
def Iz (l:fM) (s:ae):bH:=(O3 l s).bind λD=>some D.1
def Ix (s:ae) (o:bP) (l:fM):Option (ae×bP×fM×Unit⊕Value×fM×Unit):=(Iz l s).bind λD=>bif decide (0<=D) then(cr 3 o).bind λ(F,_)=>some (.inr (F,l,())) else some (.inl (s,o,l,()))
def oP:Lp (aD×ae×iP) jr:=λ(F,L,M,D,_)=>bif decide (D<M) then(ag F D).bind λN=>bif decide (L=N) then some (.inr (.inr (D,()))) else J (aa .i64 (D+1))<|some (.inl (F,L,M,(D+1),())) else some (.inr (.inl (())))
def nJ (s:aD) (v:ae):bH:=(ab oP (s,v,(s.length:Int),0,())).bind λo=>match o with|.inl (_)=>some (-1)|.inr (D,_)=>some D
def KI (s:ae):sG:=(nJ ([iF,pe,hW]:aD) s).bind λD=>some ((if D>0 then D else 0),decide (0<=D))
def Py (o:bP):Uz:=(fh o).bind λJ=>match J with|.inl (word,F,_)=>(KI word).bind λD=>bif !D.2 then(cr 1 F).bind λ(L,_)=>some (.inr (L,())) else some (.inl (D.1,F,()))|.inr (M,_)=>some (.inr (M,()))
def ti (p:gU) (s:ae):bH:=(yd p.1 s).bind λD=>some D
def p8 (s:aD) (v:ae):bz:=(nJ s v).bind λD=>some (decide (0<=D))
def p9:Lp (ae×Int×aD×NK) (ae×Int×aD×NK⊕Value×OO):=λ(ah,an,Y,F,L,M,N,O,av,az,aE,a1,_)=>(jD ((av,az,aE),a1)).bind λD=>bif D.1 then(CJ D.2).bind λa6=>match a6 with|.inl (Z,U,_)=>(ti (F,L,M,N,O) Z).bind λbb=>bif decide (bb<0) then(cr 4 U).bind λ(pv,_)=>some (.inr (.inr (pv,F,L,M,N,O,()))) else(p8 Y Z).bind λar=>bif ar then(cr 3 U).bind λ(a7,_)=>some (.inr (.inr (a7,F,L,M,N,O,()))) else J (Y.length+([Z]:aD).length<=1000000000)<|some (.inl (ah,an,(Y++([Z]:aD)),F,L,M,N,O,U.1.1,U.1.2.1,U.1.2.2,U.2,()))|.inr (a8,_)=>some (.inr (.inr (a8,F,L,M,N,O,()))) else some (.inr (.inl (ah,an,Y,F,L,M,N,O,D.2.1.1,D.2.1.2.1,D.2.1.2.2,D.2.2,())))
def Jn (l:fx) (Z:fM) (D:fX) (F:fY) (L:iC) (o:bP):H9:=(Dh 16 o Z).bind λar=>match ar with|.inl (room,M,_)=>(J (Z.length=M.length)<|(Pp room).bind λav=>match av with|.inl (take,ch,_)=>((Ix take ch M).bind λaE=>match aE with|.inl (unique,cp,O,_)=>((Py cp).bind λb2=>match b2 with|.inl (cj,N,_)=>((J (M.length=O.length)<|ab p9 (unique,cj,[],l,O,D,F,L,N.1.1,N.1.2.1,N.1.2.2,N.2,())).bind λaz=>match az with|.inl (U,Y,an,a1,ah,a6,a7,a8,bb,bp,bx,b0,_)=>J (ah.length+([(U,Y,an)]:fM).length<=1000000000)<|some (.inl (a1,(ah++([(U,Y,an)]:fM)),a6,a7,a8,((bb,bp,bx),b0),()))|.inr (b7,b1,b3,b4,b5,b6,_)=>some (.inr (b7,b1,b3,b4,b5,b6,())))|.inr (b8,_)=>some (.inr (b8,l,O,D,F,L,())))|.inr (b9,cx,_)=>some (.inr (b9,l,cx,D,F,L,())))|.inr (ca,_)=>some (.inr (ca,l,M,D,F,L,())))|.inr (cc,cd,_)=>some (.inr (cc,l,cd,D,F,L,()))
def DA (D:Int) (o:bP) (l:fX):Option (bP×fX×Unit⊕Value×fX×Unit):=bif decide ((l.length:Int)=D) then(cr 2 o).bind λ(F,_)=>some (.inr (F,l,())) else some (.inl (o,l,()))
def El (s:ae):q8:=(tB s).bind λD=>some (s,D)
def IF (o:bP):Cq:=(fh o).bind λJ=>match J with|.inl (word,F,_)=>(El word).bind λD=>bif !D.2 then(cr 1 F).bind λ(L,_)=>some (.inr (L,())) else some (.inl (D.1,F,()))|.inr (M,_)=>some (.inr (M,()))
def J1 (x:ae×gC):sJ:=some x.1
def I0 (x:ae×gC) (o:ae):GF:=(J1 x).bind λD=>some (decide (D=o),o)
def CF:Lp (fX×td) GB:=λ(M,N,D,L,_)=>bif decide (D<N) then(ag M D).bind λO=>(I0 O L).bind λF=>bif F.1 then some (.inr (.inr (D,F.2,()))) else J (aa .i64 (D+1))<|some (.inl (M,N,(D+1),F.2,())) else some (.inr (.inl (L,())))
def Pg (s:fX) (o:ae):GI:=(ab CF (s,(s.length:Int),0,o,())).bind λD=>match D with|.inl (F,_)=>some ((-1),F)|.inr (L,J,_)=>some (L,J)
def yg (l:fX) (s:ae):bH:=(Pg l s).bind λD=>some D.1
def ID (s:ae) (o:bP) (l:fX):Option (ae×bP×fX×Unit⊕Value×fX×Unit):=(yg l s).bind λD=>bif decide (0<=D) then(cr 3 o).bind λ(F,_)=>some (.inr (F,l,())) else some (.inl (s,o,l,()))
def vG:Lp (ae×jA) Bt:=λ(L,F,N,D,_)=>bif decide (D<N) then(ag L D).bind λO=>bif decide ((O.toNat:Int)<48) then some (.inr (.inr (0,()))) else(ag L D).bind λU=>bif decide (57<(U.toNat:Int)) then some (.inr (.inr (0,()))) else J (aa .i64 (10*F))<|(ag L D).bind λM=>J (aa .u8 ((M.toNat:Int) - 48))<|J (aa .i64 ((10*F)+(IntKind.wrap .i64 ((M.toNat:Int) - 48))))<|J (aa .i64 (D+1))<|some (.inl (L,((10*F)+(IntKind.wrap .i64 ((M.toNat:Int) - 48))),N,(D+1),())) else some (.inr (.inl (F,())))
def JW (s:ae) (D:Int):sG:=bif decide ((s.length:Int)<1) then some (0,false) else bif decide (D<(s.length:Int)) then some (0,false) else bif decide (1<(s.length:Int)) then(ag s 0).bind λb=>bif decide ((b.toNat:Int)=48) then some (0,false) else(ab vG (s,0,(s.length:Int),0,())).bind λo=>match o with|.inl (F,_)=>some (F,true)|.inr (M,_)=>some (M,false) else(ab vG (s,0,(s.length:Int),0,())).bind λL=>match L with|.inl (J,_)=>some (J,true)|.inr (N,_)=>some (N,false)
def tt:Lp (aD×Int×Int×uJ) (uJ⊕Int×td):=λ(Y,Z,D,M,N,O,U,ah,an,ar,L,_)=>bif decide (D<Z) then(ag Y D).bind λav=>(JW av 6).bind λF=>bif !F.2 then some (.inr (.inr (0,0,0,[],()))) else if D=((2:Nat):Int) then J (aa .i64 (D+1))<|some (.inl (Y,Z,(D+1),M,N,O,U,ah,an,F.1,L,())) else if D=((1:Nat):Int) then J (aa .i64 (D+1))<|some (.inl (Y,Z,(D+1),M,N,O,U,ah,F.1,ar,L,())) else if D=((0:Nat):Int) then J (aa .i64 (D+1))<|some (.inl (Y,Z,(D+1),M,N,O,U,F.1,an,ar,L,())) else none else some (.inr (.inl (M,N,O,U,ah,an,ar,L,())))
def yT (s:ae):Option (gC×Bool):=let F:ae×ae×Bool->Option (gC×Bool):=λD=>(strings_Split D.1 gp).bind λsplit=>bif !decide ((split.length:Int)=3) then some (((0,0,0),[]),false) else(ab tt (split,(split.length:Int),0,0,0,0,[],0,0,0,D.2.1,())).bind λo=>match o with|.inl (an,ar,av,az,N,O,L,M,_)=>some (((N,O,L),M),true)|.inr (U,Y,Z,ah,_)=>some (((U,Y,Z),ah),false);(kV s oa).bind λD=>bif D.2.2 then(D6 D.2.1).bind λJ=>bif !J then some (((0,0,0),[]),false) else F D else F D
def IE (o:bP):Option (gC×uI⊕sH):=(fh o).bind λJ=>match J with|.inl (word,F,_)=>(yT word).bind λD=>bif !D.2 then(cr 1 F).bind λ(L,_)=>some (.inr (L,())) else some (.inl (D.1,F,()))|.inr (M,_)=>some (.inr (M,()))
def Ju (l:fx) (D:fM) (O:fX) (F:fY) (L:iC) (o:bP):H9:=(DA 16 o O).bind λY=>match Y with|.inl (room,M,_)=>(J (O.length=M.length)<|(IF room).bind λZ=>match Z with|.inl (take,a1,_)=>((ID take a1 M).bind λah=>match ah with|.inl (unique,a7,N,_)=>(J (M.length=N.length)<|(IE a7).bind λan=>match an with|.inl (U,a6,_)=>J (N.length+([(unique,U)]:fX).length<=1000000000)<|some (.inl (l,D,(N++([(unique,U)]:fX)),F,L,a6,()))|.inr (pv,_)=>some (.inr (pv,l,D,N,F,L,())))|.inr (ar,a8,_)=>some (.inr (ar,l,D,a8,F,L,())))|.inr (av,_)=>some (.inr (av,l,D,M,F,L,())))|.inr (az,aE,_)=>some (.inr (az,l,D,aE,F,L,()))
def Dr (D:Int) (o:bP) (l:fY):Option (bP×fY×Unit⊕Value×fY×Unit):=bif decide ((l.length:Int)=D) then(cr 2 o).bind λ(F,_)=>some (.inr (F,l,())) else some (.inl (o,l,()))
def JR (x:ae×aA):sJ:=some x.1
def IU (x:ae×aA) (o:ae):GF:=(JR x).bind λD=>some (decide (D=o),o)
def CD:Lp (fY×td) GB:=λ(M,N,D,L,_)=>bif decide (D<N) then(ag M D).bind λO=>(IU O L).bind λF=>bif F.1 then some (.inr (.inr (D,F.2,()))) else J (aa .i64 (D+1))<|some (.inl (M,N,(D+1),F.2,())) else some (.inr (.inl (L,())))
def O' (s:fY) (o:ae):GI:=(ab CD (s,(s.length:Int),0,o,())).bind λD=>match D with|.inl (F,_)=>some ((-1),F)|.inr (L,J,_)=>some (L,J)
def yf (l:fY) (s:ae):bH:=(O' l s).bind λD=>some D.1
def IB (s:ae) (o:bP) (l:fY):Option (ae×bP×fY×Unit⊕Value×fY×Unit):=(yf l s).bind λD=>bif decide (0<=D) then(cr 3 o).bind λ(F,_)=>some (.inr (F,l,())) else some (.inl (s,o,l,()))
def K7 (c:Int):bH:=bif decide (48<=c) then bif decide (c<=57) then J (aa .u8 (c - 48))<|some (c - 48) else bif decide (97<=c) then bif decide (c<=102) then J (aa .u8 (c - 97))<|J (aa .u8 ((c - 97)+10))<|some ((c - 97)+10) else some 16 else some 16 else bif decide (97<=c) then bif decide (c<=102) then J (aa .u8 (c - 97))<|J (aa .u8 ((c - 97)+10))<|some ((c - 97)+10) else some 16 else some 16
def C8:Lp (ae×jA) Bt:=λ(L,F,N,D,_)=>bif decide (D<N) then(ag L D).bind λb=>(K7 (b.toNat:Int)).bind λM=>bif decide (15<M) then some (.inr (.inr (0,()))) else J (0<=(4:Int))<|J (aa .i64 (D+1))<|some (.inl (L,(bits .or .u64 (IntKind.wrap .u64 (F*2 ^(min (4:Int).toNat (IntKind.bits .u64)))) (IntKind.wrap .u64 M)),N,(D+1),())) else some (.inr (.inl (F,())))
def Ds (s:ae):sG:=bif !decide ((s.length:Int)=16) then some (0,false) else(ab C8 (s,0,(s.length:Int),0,())).bind λo=>match o with|.inl (D,_)=>some (D,true)|.inr (F,_)=>some (F,false)
def ye (o:bP):Uz:=(fh o).bind λJ=>match J with|.inl (word,F,_)=>(Ds word).bind λD=>bif !D.2 then(cr 1 F).bind λ(L,_)=>some (.inr (L,())) else some (.inl (D.1,F,()))|.inr (M,_)=>some (.inr (M,()))
def CP:Lp (aA×jA) jr:=λ(F,L,M,D,_)=>bif decide (D<M) then(ag F D).bind λN=>bif decide (L=N) then some (.inr (.inr (D,()))) else J (aa .i64 (D+1))<|some (.inl (F,L,M,(D+1),())) else some (.inr (.inl (())))
def PH (s:aA) (v:Int):bH:=(ab CP (s,v,(s.length:Int),0,())).bind λo=>match o with|.inl (_)=>some (-1)|.inr (D,_)=>some D
def yl (s:aA) (v:Int):bz:=(PH s v).bind λD=>some (decide (0<=D))
def C7 (D:Int) (o:bP) (l:aA):Option (bP×gV⊕Value×gV):=bif decide ((l.length:Int)=D) then(cr 2 o).bind λ(F,_)=>some (.inr (F,l,())) else some (.inl (o,l,()))
def nI:Lp (ae×aA×NK) (ae×aA×NK⊕Value×OO):=λ(an,U,F,L,M,N,O,az,aE,a1,a6,_)=>(jD ((az,aE,a1),a6)).bind λD=>bif D.1 then(ye D.2).bind λa7=>match a7 with|.inl (ah,ar,_)=>((yl U ah).bind λav=>bif av then(cr 3 ar).bind λ(pv,_)=>some (.inr (.inr (pv,F,L,M,N,O,()))) else(C7 4 ar U).bind λa8=>match a8 with|.inl (Y,Z,_)=>J (U.length=Z.length)<|J (Z.length+([ah]:aA).length<=1000000000)<|some (.inl (an,(Z++([ah]:aA)),F,L,M,N,O,Y.1.1,Y.1.2.1,Y.1.2.2,Y.2,()))|.inr (bb,bx,_)=>some (.inr (.inr (bb,F,L,M,N,O,()))))|.inr (bp,_)=>some (.inr (.inr (bp,F,L,M,N,O,()))) else some (.inr (.inl (an,U,F,L,M,N,O,D.2.1.1,D.2.1.2.1,D.2.1.2.2,D.2.2,())))
def Jo (l:fx) (D:fM) (F:fX) (Y:fY) (L:iC) (o:bP):H9:=(Dr 16 o Y).bind λan=>match an with|.inl (room,M,_)=>(J (Y.length=M.length)<|(IF room).bind λar=>match ar with|.inl (take,cd,_)=>((IB take cd M).bind λav=>match av with|.inl (unique,cj,O,_)=>((ye cj).bind λb0=>match b0 with|.inl (ch,N,_)=>((J (M.length=O.length)<|ab nI (unique,([ch]:aA),l,D,F,O,L,N.1.1,N.1.2.1,N.1.2.2,N.2,())).bind λaz=>match az with|.inl (U,ah,aE,a1,a6,Z,a7,a8,bb,bp,bx,_)=>J (Z.length+([(U,ah)]:fY).length<=1000000000)<|some (.inl (aE,a1,a6,(Z++([(U,ah)]:fY)),a7,((a8,bb,bp),bx),()))|.inr (b6,b1,b2,b3,b4,b5,_)=>some (.inr (b6,b1,b2,b3,b4,b5,())))|.inr (b7,_)=>some (.inr (b7,l,D,F,O,L,())))|.inr (b8,cp,_)=>some (.inr (b8,l,D,F,cp,L,())))|.inr (b9,_)=>some (.inr (b9,l,D,F,M,L,())))|.inr (ca,cc,_)=>some (.inr (ca,l,D,F,cc,L,()))
def C5 (D:Int) (o:bP) (l:iC):Option (bP×GC⊕Value×GC):=bif decide ((l.length:Int)=D) then(cr 2 o).bind λ(F,_)=>some (.inr (F,l,())) else some (.inl (o,l,()))
def Js (x:Bw):sJ:=some x.1
def IL (x:Bw) (o:ae):GF:=(Js x).bind λD=>some (decide (D=o),o)
def Cz:Lp (iC×td) GB:=λ(M,N,D,L,_)=>bif decide (D<N) then(ag M D).bind λO=>(IL O L).bind λF=>bif F.1 then some (.inr (.inr (D,F.2,()))) else J (aa .i64 (D+1))<|some (.inl (M,N,(D+1),F.2,())) else some (.inr (.inl (L,())))
def O0 (s:iC) (o:ae):GI:=(ab Cz (s,(s.length:Int),0,o,())).bind λD=>match D with|.inl (F,_)=>some ((-1),F)|.inr (L,J,_)=>some (L,J)
def yc (l:iC) (s:ae):bH:=(O0 l s).bind λD=>some D.1
def Iv (s:ae) (o:bP) (l:iC):Option (ae×bP×GC⊕Value×GC):=(yc l s).bind λD=>bif decide (0<=D) then(cr 3 o).bind λ(F,_)=>some (.inr (F,l,())) else some (.inl (s,o,l,()))
def zb:Lp (ae×jA) (lu⊕eD):=λ(F,N,O,D,_)=>let M:Option (ae×jA⊕lu⊕eD):=(ag F D).bind λL=>J (aa .u8 ((L.toNat:Int) - 97))<|J (0<=((L.toNat:Int) - 97))<|J (aa .i64 (D+1))<|some (.inl (F,(bits .or .u32 N (IntKind.wrap .u32 (1*2 ^(min ((L.toNat:Int) - 97).toNat (IntKind.bits .u32))))),O,(D+1),()));bif decide (D<O) then(ag F D).bind λb=>bif decide ((b.toNat:Int)<97) then some (.inr (.inr (0,()))) else(ag F D).bind λU=>bif decide (122<(U.toNat:Int)) then some (.inr (.inr (0,()))) else bif decide (0<D) then(ag F D).bind λY=>J (aa .i64 (D - 1))<|(ag F (D - 1)).bind λZ=>bif decide ((Y.toNat:Int)<=(Z.toNat:Int)) then some (.inr (.inr (0,()))) else M else M else some (.inr (.inl (F,N,())))
def EO (s:ae):sG:=bif decide (s=oa) then some (0,true) else(ab zb (s,0,(s.length:Int),0,())).bind λo=>match o with|.inl (F,D,_)=>some (D,!decide (F=[]))|.inr (J,_)=>some (J,false)
def IJ (o:bP):Uz:=(fh o).bind λJ=>match J with|.inl (word,F,_)=>(EO word).bind λD=>bif !D.2 then(cr 1 F).bind λ(L,_)=>some (.inr (L,())) else some (.inl (D.1,F,()))|.inr (M,_)=>some (.inr (M,()))
def I1 (l:fx) (D:fM) (F:fX) (L:fY) (O:iC) (o:bP):H9:=(C5 8 o O).bind λY=>match Y with|.inl (room,M,_)=>(J (O.length=M.length)<|(CJ room).bind λZ=>match Z with|.inl (take,a1,_)=>((Iv take a1 M).bind λah=>match ah with|.inl (unique,a7,N,_)=>(J (M.length=N.length)<|(IJ a7).bind λan=>match an with|.inl (U,a6,_)=>J (N.length+([(unique,U)]:iC).length<=1000000000)<|some (.inl (l,D,F,L,(N++([(unique,U)]:iC)),a6,()))|.inr (pv,_)=>some (.inr (pv,l,D,F,L,N,())))|.inr (ar,a8,_)=>some (.inr (ar,l,D,F,L,a8,())))|.inr (av,_)=>some (.inr (av,l,D,F,L,M,())))|.inr (az,aE,_)=>some (.inr (az,l,D,F,L,aE,()))
def JF (o:bP) (D:Bool) (l:fx) (J:fM) (L:fX) (M:fY) (N:iC):Option (bP×sC⊕Value×sC):=let U:bP->ae->Option (bP×sC⊕Value×sC):=λF O=>bif !D then(cr 1 F).bind λ(pv,_)=>some (.inr (pv,D,l,J,L,M,N,())) else bif decide (O=nS) then(I2 l J L M N F).bind λaE=>match aE with|.inl (source,cx,c3,c4,c5,c6,_)=>some (.inl (c6,D,source,cx,c3,c4,c5,()))|.inr (b3,c8)=>some (.inr (b3,D,c8)) else bif decide (O=qA) then(Jn l J L M N F).bind λa1=>match a1 with|.inl (read,ca,cc,cd,ch,cj,_)=>some (.inl (cj,D,read,ca,cc,cd,ch,()))|.inr (b5,cp)=>some (.inr (b5,D,cp)) else bif decide (O=ui) then(Ju l J L M N F).bind λa6=>match a6 with|.inl (fV,bb,bp,bx,b0,b1,_)=>some (.inl (b1,D,fV,bb,bp,bx,b0,()))|.inr (b6,b2)=>some (.inr (b6,D,b2)) else bif decide (O=qG) then(Jo l J L M N F).bind λa7=>match a7 with|.inl (hash,Y,Z,ah,an,ar,_)=>some (.inl (ar,D,hash,Y,Z,ah,an,()))|.inr (b7,av)=>some (.inr (b7,D,av)) else bif decide (O=tL) then(I1 l J L M N F).bind λa8=>match a8 with|.inl (dd,dk,ds,ea,eb,ec,_)=>some (.inl (ec,D,dd,dk,ds,ea,eb,()))|.inr (b8,ed)=>some (.inr (b8,D,ed)) else(cr 1 F).bind λ(b9,_)=>some (.inr (b9,D,l,J,L,M,N,()));(fh o).bind λaz=>match az with|.inl (O,F,_)=>bif !D then bif decide (O=RT) then some (.inl (F,true,l,J,L,M,N,())) else U F O else U F O|.inr (b4,_)=>some (.inr (b4,D,l,J,L,M,N,()))
def j5:Lp (gi×Int×Int×sC) (sC⊕Value×sC):=λ(ah,an,F,L,M,N,O,U,Y,_)=>bif decide (F<an) then(ag ah F).bind λaz=>(JF (az,0) L M N O U Y).bind λar=>match ar with|.inl (parse,Z)=>(jD parse).bind λD=>bif D.1 then J (aa .i64 (D.2.2+1))<|(cr 1 (D.2.1,(D.2.2+1))).bind λ(pv,_)=>some (.inr (.inr (pv,Z))) else J (aa .i64 (F+1))<|some (.inl (ah,an,(F+1),Z))|.inr av=>some (.inr (.inr av)) else some (.inr (.inl (L,M,N,O,U,Y,())))
def Pw (l:gi) (o:Bool) (D:fx) (F:fM) (J:fX) (L:fY) (M:iC):Option (jy×sC⊕jy×sC):=(ab j5 (l,(l.length:Int),0,o,D,F,J,L,M,())).bind λN=>match N with|.inl O=>some (.inl ((0,0,0),O))|.inr (Y,U)=>(rZ Y).bind λq=>some (.inr (q,U))
def vO (text:ae):Option (gU×jy):=(zD text).bind λF=>bif !((decide (F.2.1=0)&&(decide (F.2.2.1=0)&&decide (F.2.2.2=0)))) then some (([],[],[],[],[]),F.2) else(Pw F.1 false [] [] [] [] []).bind λo=>match o with|.inl (each,U,J,L,M,N,O,_)=>bif (decide (each.1=0)&&(decide (each.2.1=0)&&decide (each.2.2=0))) then bif !U then bif !((decide (1=0)&&(decide (0=0)&&decide (0=0)))) then some (([],[],[],[],[]),(1,0,0)) else some ((J,L,M,N,O),(0,0,0)) else bif !((decide (each.1=0)&&(decide (each.2.1=0)&&decide (each.2.2=0)))) then some (([],[],[],[],[]),each) else some ((J,L,M,N,O),(0,0,0)) else bif !((decide (each.1=0)&&(decide (each.2.1=0)&&decide (each.2.2=0)))) then some (([],[],[],[],[]),each) else some ((J,L,M,N,O),(0,0,0))|.inr (D,Y,av,Z,ah,an,ar,_)=>bif (decide (D.1=0)&&(decide (D.2.1=0)&&decide (D.2.2=0))) then bif !Y then bif !((decide (1=0)&&(decide (0=0)&&decide (0=0)))) then some (([],[],[],[],[]),(1,0,0)) else none else bif !((decide (D.1=0)&&(decide (D.2.1=0)&&decide (D.2.2=0)))) then some (([],[],[],[],[]),D) else none else bif !((decide (D.1=0)&&(decide (D.2.1=0)&&decide (D.2.2=0)))) then some (([],[],[],[],[]),D) else none
def I3 (p:gU) (s:ae):sG:=(yc p.2.2.2.2 s).bind λD=>bif decide (D<0) then some (0,false) else(ag p.2.2.2.2 D).bind λF=>some (F.2,true)
def Eo (s:ae):q8:=(ql s).bind λD=>some (s,D)
def a1l (o:bP):Cq:=(fh o).bind λJ=>match J with|.inl (word,F,_)=>(Eo word).bind λD=>bif !D.2 then(cr 1 F).bind λ(L,_)=>some (.inr (L,())) else some (.inl (D.1,F,()))|.inr (M,_)=>some (.inr (M,()))
def EP (s:ae):q8:=(tB s).bind λD=>some (s,D)
def II (o:bP):Cq:=(fh o).bind λJ=>match J with|.inl (word,F,_)=>(EP word).bind λD=>bif !D.2 then(cr 1 F).bind λ(L,_)=>some (.inr (L,())) else some (.inl (D.1,F,()))|.inr (M,_)=>some (.inr (M,()))
def cmp_isNaN_string (x:ae):bz:=some (!decide (x=x))
def rI (x:ae) (y:ae):bH:=(cmp_isNaN_string x).bind λF=>(cmp_isNaN_string y).bind λD=>bif F then bif D then some 0 else some (-1) else bif D then some 1 else bif Op.bytesLess x y then some (-1) else bif !(Op.bytesLess x y||decide (x=y)) then some 1 else some 0
def cmp_isNaN_int (x:Int):bz:=some (!decide (x=x))
def my (x:Int) (y:Int):bH:=(cmp_isNaN_int x).bind λF=>(cmp_isNaN_int y).bind λD=>bif F then bif D then some 0 else some (-1) else bif D then some 1 else bif decide (x<y) then some (-1) else bif decide (y<x) then some 1 else some 0
def J4 (a:ae) (b:ae):bH:=let F:Bool->bH:=λD=>bif D then bif !decide ((a.length:Int)=(b.length:Int)) then(my (a.length:Int) (b.length:Int)).bind λL=>some L else(strings_Compare a b).bind λM=>some M else(strings_Compare a b).bind λN=>some N;(tv a).bind λD=>(tv b).bind λJ=>bif D then bif !J then some (-1) else bif J then bif !D then some 1 else F D else F D else bif J then bif !D then some 1 else F D else F D
def JV:Lp (aD×aD×eD) (aD×jS⊕eD):=λ(D,F,i,_)=>bif decide (i<(D.length:Int)) then bif decide (i<(F.length:Int)) then(ag D i).bind λM=>(ag F i).bind λN=>(J4 M N).bind λL=>bif !decide (L=0) then some (.inr (.inr (L,()))) else J (aa .i64 (i+1))<|some (.inl (D,F,(i+1),())) else some (.inr (.inl (D,F,()))) else some (.inr (.inl (D,F,())))
def Kc (a:aD) (b:aD):bH:=(ab JV (a,b,0,())).bind λo=>match o with|.inl (D,F,_)=>(my (D.length:Int) (F.length:Int)).bind λJ=>some J|.inr (L,_)=>some L
def yA:Lp (Int×uJ) (uJ⊕eD):=λ(D,M,N,F,an,O,U,Y,ar,_)=>let Z:Int->Option (Int×uJ⊕uJ⊕eD):=λL=>bif !decide (L=0) then some (.inr (.inr (L,()))) else J (aa .i64 (D+1))<|some (.inl ((D+1),M,N,F,an,O,U,Y,ar,()));let ah:Int->Option (Int×uJ⊕uJ⊕eD):=λF=>if D=((2:Nat):Int) then(my F Y).bind λL=>Z L else if D=((1:Nat):Int) then(my F U).bind λav=>Z av else if D=((0:Nat):Int) then(my F O).bind λaz=>Z az else none;bif decide (D<3) then if D=((2:Nat):Int) then ah F else if D=((1:Nat):Int) then ah N else if D=((0:Nat):Int) then ah M else none else some (.inr (.inl (M,N,F,an,O,U,Y,ar,())))
def tu (a:gC) (b:gC):bH:=(ab yA (0,a.1.1,a.1.2.1,a.1.2.2,a.2,b.1.1,b.1.2.1,b.1.2.2,b.2,())).bind λo=>match o with|.inl (U,N,O,D,ah,Y,Z,F,_)=>bif decide (D=F) then some 0 else bif decide (D=[]) then some 1 else bif decide (F=[]) then some (-1) else(strings_Split D gp).bind λsplit=>(strings_Split F gp).bind λL=>(Kc split L).bind λJ=>some J|.inr (M,_)=>some M
def KN (a:oH) (b:oH):bH:=(rI a.1 b.1).bind λD=>bif !decide (D=0) then some D else(tu a.2.1 b.2.1).bind λF=>some F
def IV (z:oH) (F:oH):bz:=(KN F z).bind λD=>some (decide (D=0))
def xY:Lp (kE×oH×iP) jr:=λ(L,F,M,D,_)=>bif decide (D<M) then(ag L D).bind λO=>(IV O F).bind λN=>bif N then some (.inr (.inr (D,()))) else J (aa .i64 (D+1))<|some (.inl (L,F,M,(D+1),())) else some (.inr (.inl (())))
def O8 (s:kE) (f:oH):bH:=(ab xY (s,f,(s.length:Int),0,())).bind λo=>match o with|.inl (_)=>some (-1)|.inr (D,_)=>some D
def Ik (s:kE) (f:oH):bz:=(O8 s f).bind λD=>some (decide (0<=D))
def yM (word:ae) (o:bP):Option (Bool×bP):=(jD o).bind λD=>bif !D.1 then some (false,D.2) else(ag D.2.1.2.1 D.2.2).bind λF=>bif !decide (F=word) then some (false,D.2) else J (aa .i64 (D.2.2+1))<|some (true,(D.2.1,(D.2.2+1)))
def Dj (o:ae) (em:Bool) (l:kE) (U:ae) (Z:Int) (ah:Int) (an:Int) (ar:ae) (av:Int) (az:Int) (aE:Bool) (a1:bP) (F:bF) (L:bF) (D:Bool) (M:p6) (Y:ae) (N:bF):xQ:=bif decide ((((bif em then 0 else l.length+1):Nat):Int)=60) then(cr 2 a1).bind λ(pv,_)=>some (.inr (pv,em,l,F,L,D,M,N,())) else(II a1).bind λa8=>match a8 with|.inl (take,b5,_)=>((IE b5).bind λbb=>match bb with|.inl (O,a6,_)=>((Ik (bif em then[] else(l++[(U,((Z,ah,an),ar),av,az,aE,F,L,(bif D then[] else(M++[(Y,N)])))])) (take,O,0,0,false,[],[],[])).bind λa7=>bif a7 then(cr 3 a6).bind λ(b0,_)=>some (.inr (b0,em,l,F,L,D,M,N,())) else(ye a6).bind λbp=>match bp with|.inl (b6,b7,_)=>((IJ b7).bind λbx=>match bx with|.inl (b8,b9,_)=>(yM FA b9).bind λis=>J (l.length+2<=1000000000)<|some (.inl (o,false,(bif em then[] else(l++[(U,((Z,ah,an),ar),av,az,aE,F,L,(bif D then[] else(M++[(Y,N)])))])),take,O.1.1,O.1.2.1,O.1.2.2,O.2,b6,b8,is.1,is.2,[],[],true,[],[],[],()))|.inr (b1,_)=>some (.inr (b1,em,l,F,L,D,M,N,())))|.inr (b2,_)=>some (.inr (b2,em,l,F,L,D,M,N,())))|.inr (b3,_)=>some (.inr (b3,em,l,F,L,D,M,N,())))|.inr (b4,_)=>some (.inr (b4,em,l,F,L,D,M,N,()))
def zf:Lp (ae×aA×Int×Int×BC) (BC⊕Bool×BC):=λ(M,N,O,F,Y,Z,ah,an,ar,_)=>bif decide (F<O) then(ag N F).bind λU=>(EX U).bind λav=>(De M av).bind λL=>bif L.2 then(yT L.1).bind λD=>some (.inr (.inr (D.2,U,D.1.1.1,D.1.1.2.1,D.1.1.2.2,D.1.2,()))) else J (aa .i64 (F+1))<|some (.inl (M,N,O,(F+1),Y,Z,ah,an,ar,())) else some (.inr (.inl (Y,Z,ah,an,ar,())))
def Lg (s:ae):Option ((Int×gC)×Bool):=bif decide (s=kr) then some ((8,(0,0,0),[]),true) else(ab zf (s,([1,3,5,2,4,6,7,0]:aA),(([1,3,5,2,4,6,7,0]:aA).length:Int),0,0,0,0,0,[],())).bind λo=>match o with|.inl (O,U,Y,Z,ah,_)=>some ((0,(0,0,0),[]),false)|.inr (N,D,F,J,L,M,_)=>some ((D,(F,J,L),M),N)
def Ev:Lp (aD×Int×Int×sF×Unit) (sF×Unit⊕Unit):=λ(M,N,D,L,_)=>bif decide (D<N) then(ag M D).bind λO=>(Lg O).bind λF=>bif !F.2 then some (.inr (.inr (()))) else J (L.length+([F.1]:sF).length<=1000000000)<|J (aa .i64 (D+1))<|some (.inl (M,N,(D+1),(L++([F.1]:sF)),())) else some (.inr (.inl (L,())))
def LO (s:ae):Option (sF×Bool):=(strings_Split s TX).bind λsplit=>bif decide (4<(split.length:Int)) then some ([],false) else(ab Ev (split,(split.length:Int),0,[],())).bind λo=>match o with|.inl (D,_)=>some (D,true)|.inr (_)=>some ([],false)
def DU:Lp (aD×NG) (jY×Unit⊕Unit):=λ(M,N,D,L,_)=>bif decide (D<N) then(ag M D).bind λO=>(LO O).bind λF=>bif !F.2 then some (.inr (.inr (()))) else J (L.length+([F.1]:jY).length<=1000000000)<|J (aa .i64 (D+1))<|some (.inl (M,N,(D+1),(L++([F.1]:jY)),())) else some (.inr (.inl (L,())))
def Ew (s:ae):Option (jY×Bool):=(strings_Split s TB).bind λsplit=>bif decide (80<(s.length:Int)) then some ([],false) else bif decide (4<(split.length:Int)) then some ([],false) else(ab DU (split,(split.length:Int),0,[],())).bind λo=>match o with|.inl (D,_)=>some (D,true)|.inr (_)=>some ([],false)
def Pv (o:bP):Option (jY×uI⊕sH):=(fh o).bind λJ=>match J with|.inl (word,F,_)=>(Ew word).bind λD=>bif !D.2 then(cr 1 F).bind λ(L,_)=>some (.inr (L,())) else some (.inl (D.1,F,()))|.inr (M,_)=>some (.inr (M,()))
def qa:Lp (Int×adn) (adn⊕sH):=λ(M,Y,N,O,F,ah,an,ar,Z,_)=>bif decide (0<M) then(jD ((ah,an,ar),Z)).bind λD=>bif D.1 then(a1l D.2).bind λaz=>match az with|.inl (U,L,_)=>(p8 F U).bind λav=>bif av then(cr 3 L).bind λ(pv,_)=>some (.inr (.inr (pv,()))) else bif decide ((F.length:Int)=M) then(cr 2 L).bind λ(aE,_)=>some (.inr (.inr (aE,()))) else J (F.length+([U]:aD).length<=1000000000)<|some (.inl (M,Y,N,O,(F++([U]:aD)),L.1.1,L.1.2.1,L.1.2.2,L.2,()))|.inr (a1,_)=>some (.inr (.inr (a1,()))) else some (.inr (.inl (Y,N,O,F,D.2.1.1,D.2.1.2.1,D.2.1.2.2,D.2.2,()))) else some (.inr (.inl (Y,N,O,F,ah,an,ar,Z,())))
def jF (F:Int) (o:bP):Option (pL×uI⊕sH):=(II o).bind λM=>match M with|.inl (take,aE,_)=>((Pv aE).bind λah=>match ah with|.inl (a1,D,_)=>((ab qa (F,[],take,a1,[],D.1.1,D.1.2.1,D.1.2.2,D.2,())).bind λN=>match N with|.inl (a6,J,L,az,O,U,Y,Z,_)=>some (.inl ((J,L,az),((O,U,Y),Z),()))|.inr (an,_)=>some (.inr (an,())))|.inr (ar,_)=>some (.inr (ar,())))|.inr (av,_)=>some (.inr (av,()))
def JS (o:ae) (em:Bool) (l:kE) (Y:ae) (an:Int) (ar:Int) (av:Int) (az:ae) (aE:Int) (a1:Int) (a6:Bool) (O:bP) (D:bF) (L:bF) (F:Bool) (M:p6) (Z:ae) (N:bF):xQ:=only (!em)<|bif decide (0<(L.length:Int)) then(cr 1 O).bind λ(pv,_)=>some (.inr (pv,em,l,D,L,F,M,N,())) else only (!em)<|bif decide (0<(((bif F then 0 else M.length+1):Nat):Int)) then(cr 1 O).bind λ(a7,_)=>some (.inr (a7,em,l,D,L,F,M,N,())) else only (!em)<|bif decide ((D.length:Int)=4) then(cr 2 O).bind λ(a8,_)=>some (.inr (a8,em,l,D,L,F,M,N,())) else only (!em)<|(jF 0 O).bind λah=>match ah with|.inl (U,bp,_)=>J (D.length+([U]:bF).length<=1000000000)<|only (!em)<|some (.inl (o,em,l,Y,an,ar,av,az,aE,a1,a6,bp,(D++([U]:bF)),L,F,M,Z,N,()))|.inr (bb,_)=>some (.inr (bb,em,l,D,L,F,M,N,()))
def JH (o:ae) (em:Bool) (l:kE) (U:ae) (Z:Int) (ah:Int) (an:Int) (ar:ae) (av:Int) (az:Int) (aE:Bool) (O:bP) (N:bF) (L:bF) (D:Bool) (F:p6) (Y:ae) (M:bF):xQ:=only (!em)<|bif decide (0<(((bif D then 0 else F.length+1):Nat):Int)) then only (!em)<|J (aa .i64 ((((bif D then 0 else F.length+1):Nat):Int) - 1))<|only (!D)<|J (0<=((((bif D then 0 else F.length+1):Nat):Int) - 1)/\((((bif D then 0 else F.length+1):Nat):Int) - 1)<=(F.length:Int))<|bif decide (((((bif D then 0 else F.length+1):Nat):Int) - 1)=(F.length:Int)) then only (!D)<|bif decide ((M.length:Int)=8) then(cr 2 O).bind λ(pv,_)=>some (.inr (pv,em,l,N,L,D,F,M,())) else only (!D)<|(jF 4 O).bind λa7=>match a7 with|.inl (a1,b3,_)=>J (M.length+([a1]:bF).length<=1000000000)<|only (!D)<|some (.inl (o,em,l,U,Z,ah,an,ar,av,az,aE,b3,N,L,D,F,Y,(M++([a1]:bF)),()))|.inr (bp,_)=>some (.inr (bp,em,l,N,L,D,F,M,())) else only (!D)<|(F[((((bif D then 0 else F.length+1):Nat):Int) - 1).toNat]?).bind λy=>bif decide ((y.2.length:Int)=8) then(cr 2 O).bind λ(bx,_)=>some (.inr (bx,em,l,N,L,D,F,M,())) else only (!D)<|(F[((((bif D then 0 else F.length+1):Nat):Int) - 1).toNat]?).bind λb7=>(jF 4 O).bind λa8=>match a8 with|.inl (b5,b6,_)=>none|.inr (b0,_)=>some (.inr (b0,em,l,N,L,D,F,M,())) else only (!em)<|bif decide ((L.length:Int)=8) then(cr 2 O).bind λ(b1,_)=>some (.inr (b1,em,l,N,L,D,F,M,())) else only (!em)<|(jF 4 O).bind λbb=>match bb with|.inl (a6,b4,_)=>J (L.length+([a6]:bF).length<=1000000000)<|only (!em)<|some (.inl (o,em,l,U,Z,ah,an,ar,av,az,aE,b4,N,(L++([a6]:bF)),D,F,Y,M,()))|.inr (b2,_)=>some (.inr (b2,em,l,N,L,D,F,M,()))
def C9:Lp (ae×p6×iP) jr:=λ(F,L,M,D,_)=>bif decide (D<M) then(ag L D).bind λN=>bif decide (N.1=F) then some (.inr (.inr (D,()))) else J (aa .i64 (D+1))<|some (.inl (F,L,M,(D+1),())) else some (.inr (.inl (())))
def qb (x:oH) (s:ae):bH:=(ab C9 (s,x.2.2.2.2.2.2.2,(x.2.2.2.2.2.2.2.length:Int),0,())).bind λo=>match o with|.inl (_)=>some (-1)|.inr (D,_)=>some D
def Ja (o:ae) (em:Bool) (l:kE) (O:ae) (Y:Int) (Z:Int) (ah:Int) (an:ae) (ar:Int) (av:Int) (az:Bool) (aE:bP) (L:bF) (M:bF) (F:Bool) (D:p6) (U:ae) (N:bF):xQ:=only (!em)<|bif decide ((((bif F then 0 else D.length+1):Nat):Int)=4) then(cr 2 aE).bind λ(pv,_)=>some (.inr (pv,em,l,L,M,F,D,N,())) else(a1l aE).bind λa7=>match a7 with|.inl (take,a1,_)=>only (!em)<|(qb (O,((Y,Z,ah),an),ar,av,az,L,M,(bif F then[] else(D++[(U,N)]))) take).bind λa6=>bif decide (0<=a6) then(cr 3 a1).bind λ(a8,_)=>some (.inr (a8,em,l,L,M,F,D,N,())) else only (!em)<|J (D.length+2<=1000000000)<|only (!em)<|some (.inl (o,em,l,O,Y,Z,ah,an,ar,av,az,a1,L,M,false,(bif F then[] else(D++[(U,N)])),take,[],()))|.inr (bb,_)=>some (.inr (bb,em,l,L,M,F,D,N,()))
def JI (o:ae) (em:Bool) (l:kE) (Y:ae) (ah:Int) (an:Int) (ar:Int) (av:ae) (az:Int) (aE:Int) (a1:Bool) (b5:bP) (M:bF) (N:bF) (L:Bool) (O:p6) (Z:ae) (U:bF):xQ:=let a6:bP->ae->xQ:=λF D=>bif decide ((((bif em then 0 else l.length+1):Nat):Int)=0) then(cr 1 F).bind λ(b7,_)=>some (.inr (b7,em,l,M,N,L,O,U,())) else J (aa .i64 ((((bif em then 0 else l.length+1):Nat):Int) - 1))<|only (!em)<|J (0<=((((bif em then 0 else l.length+1):Nat):Int) - 1)/\((((bif em then 0 else l.length+1):Nat):Int) - 1)<=(l.length:Int))<|bif decide (((((bif em then 0 else l.length+1):Nat):Int) - 1)=(l.length:Int)) then bif decide (D=uj) then(JS o em l Y ah an ar av az aE a1 F M N L O Z U).bind λb2=>match b2 with|.inl a8=>some (.inl a8)|.inr b9=>some (.inr b9) else bif decide (D=tW) then(JH o em l Y ah an ar av az aE a1 F M N L O Z U).bind λb3=>match b3 with|.inl bp=>some (.inl bp)|.inr ca=>some (.inr ca) else bif decide (D=oX) then(Ja o em l Y ah an ar av az aE a1 F M N L O Z U).bind λb4=>match b4 with|.inl bb=>some (.inl bb)|.inr cc=>some (.inr cc) else(cr 1 F).bind λ(cd,_)=>some (.inr (cd,em,l,M,N,L,O,U,())) else bif decide (D=uj) then none else bif decide (D=tW) then none else bif decide (D=oX) then none else(cr 1 F).bind λ(ch,_)=>some (.inr (ch,em,l,M,N,L,O,U,()));let a7:ae->bP->xQ:=λD F=>bif !decide (o=[]) then bif decide (D=SZ) then(Dj o em l Y ah an ar av az aE a1 F M N L O Z U).bind λb1=>match b1 with|.inl entry=>some (.inl entry)|.inr b6=>some (.inr b6) else a6 F D else a6 F D;(fh b5).bind λbx=>match bx with|.inl (D,F,_)=>(bif decide (o=[]) then bif decide (D=SY) then(a1l F).bind λb0=>match b0 with|.inl (take,cj,_)=>some (.inl (take,em,l,Y,ah,an,ar,av,az,aE,a1,cj,M,N,L,O,Z,U,()))|.inr (pv,_)=>some (.inr (pv,em,l,M,N,L,O,U,())) else a7 D F else a7 D F)|.inr (b8,_)=>some (.inr (b8,em,l,M,N,L,O,U,()))
def kP:Lp (gi×Int×Int×VK) (VK⊕Value×UF):=λ(b4,b5,F,ar,L,av,az,aE,a1,a6,a7,a8,bb,bp,bx,b0,M,b1,b2,b3,_)=>bif decide (F<b5) then(ag b4 F).bind λc4=>(JI ar L av az aE a1 a6 a7 a8 bb bp (c4,0) bx b0 M b1 b2 b3).bind λcx=>match cx with|.inl (line,N,an,b9,ca,cc,cd,ch,cj,cp,b6,b7,O,U,Y,Z,b8,ah)=>(jD b7).bind λD=>bif D.1 then J (aa .i64 (D.2.2+1))<|(cr 1 (D.2.1,(D.2.2+1))).bind λ(pv,_)=>some (.inr (.inr (pv,N,an,O,U,Y,Z,ah))) else J (aa .i64 (F+1))<|some (.inl (b4,b5,(F+1),line,N,an,b9,ca,cc,cd,ch,cj,cp,b6,O,U,Y,Z,b8,ah))|.inr c3=>some (.inr (.inr c3)) else some (.inr (.inl (ar,L,av,az,aE,a1,a6,a7,a8,bb,bp,bx,b0,M,b1,b2,b3,())))
def Px (l:gi) (o:ae) (em:Bool) (J:kE) (U:ae) (Y:Int) (Z:Int) (ah:Int) (av:ae) (az:Int) (aE:Int) (a1:Bool) (L:bF) (M:bF) (D:Bool) (N:p6) (a6:ae) (O:bF):Option (jy×VK⊕jy×UF):=(ab kP (l,(l.length:Int),0,o,em,J,U,Y,Z,ah,av,az,aE,a1,L,M,D,N,a6,O,())).bind λan=>match an with|.inl ar=>some (.inl ((0,0,0),ar))|.inr (a7,F)=>(rZ a7).bind λq=>some (.inr (q,F))
def rM (text:ae):Option ((ae×kE)×jy):=(zD text).bind λD=>bif !((decide (D.2.1=0)&&(decide (D.2.2.1=0)&&decide (D.2.2.2=0)))) then some (([],[]),D.2) else(Px D.1 [] true [] [] 0 0 0 [] 0 0 false [] [] true [] [] []).bind λo=>match o with|.inl (each,J,an,ar,av,az,aE,a1,a6,a7,L,M,N,O,U,Y,Z,ah,_)=>bif !((decide (each.1=0)&&(decide (each.2.1=0)&&decide (each.2.2=0)))) then some (([],[]),each) else bif decide (J=[]) then some (([],[]),(1,0,0)) else some ((J,(bif an then[] else(ar++[(av,((az,aE,a1),a6),a7,L,M,N,O,(bif U then[] else(Y++[(Z,ah)])))]))),(0,0,0))|.inr (F,a8,bb,bp,bx,b0,b1,b2,_)=>bif !((decide (F.1=0)&&(decide (F.2.1=0)&&decide (F.2.2=0)))) then some (([],[]),F) else none
def Jq:Lp (Bool×Int×ae×ae×aD×adw) (Bool×adw):=λ(bp,F,x1,bb,M,N,O,U,Y,Z,ah,an,ar,av,az,aE,a1,a6,a7,a8,L,_)=>bif decide (F<(M.length:Int)) then(ag M F).bind λbx=>(rM bx).bind λD=>bif bp then J (L.length+([D.1]:rF).length<=1000000000)<|J (aa .i64 (F+1))<|some (.inl ((decide (D.2.1=0)&&(decide (D.2.2.1=0)&&decide (D.2.2.2=0))),(F+1),x1,bb,M,N,O,U,Y,Z,ah,an,ar,av,az,aE,a1,a6,a7,a8,(L++([D.1]:rF)),())) else J (L.length+([D.1]:rF).length<=1000000000)<|J (aa .i64 (F+1))<|some (.inl (false,(F+1),x1,bb,M,N,O,U,Y,Z,ah,an,ar,av,az,aE,a1,a6,a7,a8,(L++([D.1]:rF)),())) else some (.inr (bp,N,O,U,Y,Z,ah,an,ar,av,az,aE,a1,a6,a7,a8,L,()))
def Dt (x:xm):Option ((gU×Int×rF×lH×ae×oJ)×Bool):=(FC x.1 x.2.1 x.2.2).bind λF=>bif !F.2 then some ((([],[],[],[],[]),0,[],([],[],[],[],[]),[],[]),false) else(vO x.1).bind λD=>bif !((decide (D.2.1=0)&&(decide (D.2.2.1=0)&&decide (D.2.2.2=0)))) then some ((([],[],[],[],[]),0,[],([],[],[],[],[]),[],[]),false) else(I3 D.1 x.2.1).bind λJ=>(ab Jq (J.2,0,x.1,x.2.1,x.2.2,0,[],D.1.1,D.1.2.1,D.1.2.2.1,D.1.2.2.2.1,D.1.2.2.2.2,J.1,F.1.1.1,F.1.1.2.1,F.1.1.2.2.1,F.1.1.2.2.2.1,F.1.1.2.2.2.2,F.1.2.1,F.1.2.2,[],())).bind λ(M,a7,a8,N,O,U,Y,Z,ah,an,ar,av,az,aE,a1,a6,L,_)=>some (((N,O,U,Y,Z),ah,L,(an,ar,av,az,aE),a1,a6),M)
def j7:Lp (gi×Int×Int×Int×Int×aK×Unit) (gi×Int×Int×Int×aK×Unit⊕jA):=λ(M,D,N,O,U,F,_)=>let bp:ae×cW->Option (gi×Int×Int×Int×Int×aK×Unit⊕gi×Int×Int×Int×aK×Unit⊕jA):=λL=>bif decide (0<D) then bif !decide (L.1=TA) then(fi 1 L.2).bind λbb=>bif decide (0<D) then(fA (F.length:Int) 8 bb).bind λb8=>(fy 4 b8).bind λa1=>J (F.length+([a1.1]:aK).length<=1000000000)<|(gE a1.2).bind λb1=>(dF b1).bind λZ=>bif !Z.1 then some (.inr (.inr (Z.2.2.2.1,Z.2.2.2.2.1,Z.2.2.2.2.2,()))) else J (aa .i64 (D+1))<|some (.inl (M,(D+1),N,O,U,(F++([a1.1]:aK)),())) else(gE bb).bind λb2=>(dF b2).bind λah=>bif !ah.1 then some (.inr (.inr (ah.2.2.2.1,ah.2.2.2.2.1,ah.2.2.2.2.2,()))) else J (aa .i64 (D+1))<|some (.inl (M,(D+1),N,O,U,F,())) else bif decide (0<D) then(fA (F.length:Int) 8 L.2).bind λb9=>(fy 4 b9).bind λa6=>J (F.length+([a6.1]:aK).length<=1000000000)<|(gE a6.2).bind λb3=>(dF b3).bind λan=>bif !an.1 then some (.inr (.inr (an.2.2.2.1,an.2.2.2.2.1,an.2.2.2.2.2,()))) else J (aa .i64 (D+1))<|some (.inl (M,(D+1),N,O,U,(F++([a6.1]:aK)),())) else(gE L.2).bind λb4=>(dF b4).bind λar=>bif !ar.1 then some (.inr (.inr (ar.2.2.2.1,ar.2.2.2.2.1,ar.2.2.2.2.2,()))) else J (aa .i64 (D+1))<|some (.inl (M,(D+1),N,O,U,F,())) else bif decide (0<D) then(fA (F.length:Int) 8 L.2).bind λca=>(fy 4 ca).bind λa7=>J (F.length+([a7.1]:aK).length<=1000000000)<|(gE a7.2).bind λb5=>(dF b5).bind λav=>bif !av.1 then some (.inr (.inr (av.2.2.2.1,av.2.2.2.2.1,av.2.2.2.2.2,()))) else J (aa .i64 (D+1))<|some (.inl (M,(D+1),N,O,U,(F++([a7.1]:aK)),())) else(gE L.2).bind λb6=>(dF b6).bind λaz=>bif !az.1 then some (.inr (.inr (az.2.2.2.1,az.2.2.2.2.1,az.2.2.2.2.2,()))) else J (aa .i64 (D+1))<|some (.inl (M,(D+1),N,O,U,F,()));bif decide (D<(M.length:Int)) then(ag M D).bind λcc=>(jg (cc,0,0,0,0)).bind λL=>bif decide (D=0) then bif !decide (L.1=QL) then(fi 1 L.2).bind λa8=>bif decide (0<D) then(fA (F.length:Int) 8 a8).bind λb7=>(fy 4 b7).bind λaE=>J (F.length+([aE.1]:aK).length<=1000000000)<|(gE aE.2).bind λbx=>(dF bx).bind λaJ=>bif !aJ.1 then some (.inr (.inr (aJ.2.2.2.1,aJ.2.2.2.2.1,aJ.2.2.2.2.2,()))) else J (aa .i64 (D+1))<|some (.inl (M,(D+1),N,O,U,(F++([aE.1]:aK)),())) else(gE a8).bind λb0=>(dF b0).bind λY=>bif !Y.1 then some (.inr (.inr (Y.2.2.2.1,Y.2.2.2.2.1,Y.2.2.2.2.2,()))) else J (aa .i64 (D+1))<|some (.inl (M,(D+1),N,O,U,F,())) else bp L else bp L else some (.inr (.inl (M,N,O,U,F,())))
def zR (x:ae):Option (aK×jy):=(Af x).bind λD=>bif !decide (D.2.1=0) then some ([],D.2) else(ab j7 (D.1,0,0,0,0,[],())).bind λo=>match o with|.inl (N,Y,O,U,F,_)=>bif decide ((N.length:Int)=0) then some ([],(1,0,0)) else some (F,(0,0,0))|.inr (J,L,M,_)=>some ([],(J,L,M))
def Jp (o:bP) (D:Bool) (l:bF):Option (bP×sD⊕Value×sD):=let M:bP->ae->Option (bP×sD⊕Value×sD):=λF L=>bif !D then(cr 1 F).bind λ(Y,_)=>some (.inr (Y,D,l,())) else bif !decide (L=TA) then(cr 1 F).bind λ(Z,_)=>some (.inr (Z,D,l,())) else bif decide ((l.length:Int)=8) then(cr 2 F).bind λ(ah,_)=>some (.inr (ah,D,l,())) else(jF 4 F).bind λU=>match U with|.inl (N,av,_)=>J (l.length+([N]:bF).length<=1000000000)<|some (.inl (av,D,(l++([N]:bF)),()))|.inr (an,_)=>some (.inr (an,D,l,()));(fh o).bind λO=>match O with|.inl (L,F,_)=>bif !D then bif decide (L=QL) then some (.inl (F,true,l,())) else M F L else M F L|.inr (ar,_)=>some (.inr (ar,D,l,()))
def j4:Lp (gi×Int×Int×sD) (sD⊕Value×sD):=λ(U,Y,F,L,M,_)=>bif decide (F<Y) then(ag U F).bind λav=>(Jp (av,0) L M).bind λZ=>match Z with|.inl (parse,N,O,_)=>(jD parse).bind λD=>bif D.1 then J (aa .i64 (D.2.2+1))<|(cr 1 (D.2.1,(D.2.2+1))).bind λ(pv,_)=>some (.inr (.inr (pv,N,O,()))) else J (aa .i64 (F+1))<|some (.inl (U,Y,(F+1),N,O,()))|.inr (ar,ah,an,_)=>some (.inr (.inr (ar,ah,an,()))) else some (.inr (.inl (L,M,())))
def Pq (l:gi) (o:Bool) (D:bF):Option (jy×sD⊕jy×sD):=(ab j4 (l,(l.length:Int),0,o,D,())).bind λM=>match M with|.inl (N,F,_)=>some (.inl ((0,0,0),N,F,()))|.inr (O,J,L,_)=>(rZ O).bind λq=>some (.inr (q,J,L,()))
def yS (text:ae):Option (bF×jy):=(zD text).bind λF=>bif !((decide (F.2.1=0)&&(decide (F.2.2.1=0)&&decide (F.2.2.2=0)))) then some ([],F.2) else(Pq F.1 false []).bind λo=>match o with|.inl (each,L,J,_)=>bif (decide (each.1=0)&&(decide (each.2.1=0)&&decide (each.2.2=0))) then bif !L then bif !((decide (1=0)&&(decide (0=0)&&decide (0=0)))) then some ([],(1,0,0)) else some (J,(0,0,0)) else bif !((decide (each.1=0)&&(decide (each.2.1=0)&&decide (each.2.2=0)))) then some ([],each) else some (J,(0,0,0)) else bif !((decide (each.1=0)&&(decide (each.2.1=0)&&decide (each.2.2=0)))) then some ([],each) else some (J,(0,0,0))|.inr (D,M,N,_)=>bif (decide (D.1=0)&&(decide (D.2.1=0)&&decide (D.2.2=0))) then bif !M then bif !((decide (1=0)&&(decide (0=0)&&decide (0=0)))) then some ([],(1,0,0)) else none else bif !((decide (D.1=0)&&(decide (D.2.1=0)&&decide (D.2.2=0)))) then some ([],D) else none else bif !((decide (D.1=0)&&(decide (D.2.1=0)&&decide (D.2.2=0)))) then some ([],D) else none
def Di (l:Int) (top:Int):bz:=some (decide ((bits .andNot .u32 l top)=0))
def KK (D:ae):bH:=(zZ D).bind λL=>bif !L then some (-1) else(yB D kr).bind λF=>bif !F.2 then J (aa .i64 (2*(D.length:Int)))<|J (aa .i64 ((2*(D.length:Int))+1))<|some ((2*(D.length:Int))+1) else J (aa .i64 (2*(F.1.length:Int)))<|some (2*(F.1.length:Int))
def PN (s:ae) (F:ae):bz:=(CL s F).bind λD=>some D
def K6 (D:ae) (s:ae):bz:=(zZ D).bind λL=>bif !L then some false else(tB s).bind λJ=>bif !J then some false else(yB D kr).bind λF=>bif !F.2 then some (decide (D=s)) else(PN s F.1).bind λM=>some M
def qf:Lp (ae×Int×Int×aD×iP) eD:=λ(F,N,O,L,M,D,_)=>bif decide (D<M) then(ag L D).bind λY=>(KK Y).bind λU=>bif decide (O<U) then(K6 Y F).bind λZ=>bif Z then J (aa .i64 (D+1))<|some (.inl (F,D,U,L,M,(D+1),())) else J (aa .i64 (D+1))<|some (.inl (F,N,O,L,M,(D+1),())) else J (aa .i64 (D+1))<|some (.inl (F,N,O,L,M,(D+1),())) else some (.inr (N,()))
def D2 (s:ae) (D:aD):bH:=(ab qf (s,(-1),(-1),D,(D.length:Int),0,())).bind λ(F,_)=>some F
def DK:Lp (ae×fM×Int×Int×jS) (ae×jS):=λ(L,O,M,D,F,_)=>bif decide (D<M) then(ag O D).bind λN=>J (F.length+([N.1]:aD).length<=1000000000)<|J (aa .i64 (D+1))<|some (.inl (L,O,M,(D+1),(F++([N.1]:aD)),())) else some (.inr (L,F,()))
def D8 (p:gU) (s:ae):bH:=(ab DK (s,p.2.1,(p.2.1.length:Int),0,[],())).bind λ(J,F,_)=>(D2 J F).bind λD=>some D
def Eu:Lp (fx×Int×Int×ae×Int×aD×jS) jS:=λ(N,O,D,Y,L,M,F,_)=>bif decide (D<O) then(ag N D).bind λU=>(p8 M U.1).bind λZ=>bif (Z==(decide (L=0))) then J (F.length+([U.1]:aD).length<=1000000000)<|J (aa .i64 (D+1))<|some (.inl (N,O,(D+1),Y,L,M,(F++([U.1]:aD)),())) else J (aa .i64 (D+1))<|some (.inl (N,O,(D+1),Y,L,M,F,())) else some (.inr (F,()))
def LM (p:gU) (c:NB):xk:=bif decide (c.2.1=2) then(Fq c.2.2).bind λD=>some D else(ab Eu (p.1,(p.1.length:Int),0,c.1,c.2.1,c.2.2,[],())).bind λ(F,_)=>some F
def Dv:Lp (fx×Int×Int×jS) jS:=λ(L,M,D,F,_)=>bif decide (D<M) then(ag L D).bind λN=>bif N.2.2 then J (F.length+([N.1]:aD).length<=1000000000)<|J (aa .i64 (D+1))<|some (.inl (L,M,(D+1),(F++([N.1]:aD)),())) else J (aa .i64 (D+1))<|some (.inl (L,M,(D+1),F,())) else some (.inr (F,()))
def yU (p:gU) (s:ae):xk:=(tB s).bind λJ=>bif !J then some [] else(D8 p s).bind λD=>bif decide (0<=D) then(ag p.2.1 D).bind λM=>(LM p M).bind λF=>some F else(ab Dv (p.1,(p.1.length:Int),0,[],())).bind λ(L,_)=>some L
def DT (p:gU) (s:ae) (source:ae):bz:=(yU p s).bind λF=>(p8 F source).bind λD=>some D
def PR (p:gU) (s:ae):Option (gC×Bool):=(yg p.2.2.1 s).bind λD=>bif decide (D<0) then some (((0,0,0),[]),false) else(ag p.2.2.1 D).bind λF=>some (F.2,true)
def yx (p:gU) (s:ae) (d:Int):bz:=(yf p.2.2.2.1 s).bind λD=>bif decide (D<0) then some true else(ag p.2.2.2.1 D).bind λJ=>(yl J.2 d).bind λF=>some F
def Ft (p:gU) (x:oH):bH:=(PR p x.1).bind λfV=>bif fV.2 then bif !((decide (fV.1.1.1=x.2.1.1.1)&&(decide (fV.1.1.2.1=x.2.1.1.2.1)&&(decide (fV.1.1.2.2=x.2.1.1.2.2)&&decide (fV.1.2=x.2.1.2))))) then some 1 else(yx p x.1 x.2.2.1).bind λD=>bif !D then some 2 else bif x.2.2.2.2.1 then bif !fV.2 then some 3 else some 0 else some 0 else(yx p x.1 x.2.2.1).bind λF=>bif !F then some 2 else bif x.2.2.2.2.1 then bif !fV.2 then some 3 else some 0 else some 0
def J5 (p:gU) (a:ae) (b:ae):bH:=let L:Int->Int->bH:=λD F=>bif decide (D<0) then some 1 else bif decide (F<0) then some (-1) else(ag p.1 F).bind λO=>(ag p.1 D).bind λU=>(DL O.2.1 U.2.1).bind λJ=>bif !decide (J=0) then some J else(rI a b).bind λN=>some N;(ti p a).bind λD=>(ti p b).bind λF=>bif decide (D<0) then bif decide (F<0) then(rI a b).bind λM=>some M else L D F else L D F
def qh (a:NC) (b:NC) (L:gU):bH:=(rI a.1.1.1 b.1.1.1).bind λD=>bif !decide (D=0) then some D else(tu b.1.1.2.1 a.1.1.2.1).bind λF=>bif !decide (F=0) then some F else(J5 L a.1.2 b.1.2).bind λJ=>some J
def afo (a:Int) (b:Int) (cmp:gU) (l:jf):uK:=vx qh a b cmp l
def afB (a:Int) (b:Int) (n:Int) (cmp:gU) (l:jf):uK:=vB a b n cmp l
def afJ (a:Int) (m:Int) (b:Int) (cmp:gU) (l:jf):uK:=vK a m b cmp l
def afy (rc:adl):adl:=tk qh rc
def afI (n:Int) (cmp:gU) (l:jf):uK:=DB qh n cmp l
def CI (cmp:gU) (l:jf):uK:=yH qh cmp l
def D7 (p:gU) (s:ae):bz:=(D8 p s).bind λD=>bif decide (0<=D) then(ag p.2.1 D).bind λF=>some (decide (F.2.1=2)) else some false
def JT (y:NC) (M:jf) (O:Int) (D:aD) (F:Int):bz:=(ag M O).bind λN=>bif decide (y.1.1.1=N.1.1.1) then bif decide (y.2=0) then(nJ D y.1.2).bind λJ=>some (decide (J<F)) else bif decide (y.2=4) then(nJ D y.1.2).bind λL=>some (decide (L<F)) else some false else some false
def yb:Lp (jf×jf×Int×aD×jA) jr:=λ(O,F,L,M,N,U,D,_)=>bif decide (D<U) then(ag O D).bind λZ=>(JT Z F L M N).bind λY=>bif Y then some (.inr (.inr (D,()))) else J (aa .i64 (D+1))<|some (.inl (O,F,L,M,N,U,(D+1),())) else some (.inr (.inl (())))
def Ph (s:jf) (f:jf) (D:Int) (F:aD) (J:Int):bH:=(ab yb (s,f,D,F,J,(s.length:Int),0,())).bind λo=>match o with|.inl (_)=>some (-1)|.inr (L,_)=>some L
def Iu (s:jf) (f:jf) (D:Int) (F:aD) (J:Int):bz:=(Ph s f D F J).bind λL=>some (decide (0<=L))
def oS:Lp UH NJ:=λ(Y,D,L,M,N,O,U,F,_)=>bif decide (D<Y) then J (0<=D/\D<F.length)<|(F[D.toNat]?).bind λy=>bif !decide (y.2=0) then J (aa .i64 (D+1))<|some (.inl (Y,(D+1),L,M,N,O,U,F,())) else J (0<=D/\D<F.length)<|(F[D.toNat]?).bind λav=>(D7 (L,M,N,O,U) av.1.1.1).bind λan=>bif !an then J (aa .i64 (D+1))<|some (.inl (Y,(D+1),L,M,N,O,U,F,())) else J (0<=D/\D<F.length)<|(F[D.toNat]?).bind λaz=>(yU (L,M,N,O,U) az.1.1.1).bind λZ=>J (0<=D/\D<F.length)<|(F[D.toNat]?).bind λaE=>(nJ Z aE.1.2).bind λar=>(Iu F F D Z ar).bind λah=>bif ah then J (0<=D/\D<F.length)<|(F[D.toNat]?).bind λq=>J (aa .i64 (D+1))<|some (.inl (Y,(D+1),L,M,N,O,U,(F.set D.toNat (q.1,4)),())) else J (aa .i64 (D+1))<|some (.inl (Y,(D+1),L,M,N,O,U,F,())) else some (.inr (F,()))
def Er (p:gU) (l:jf):uK:=(ab oS ((l.length:Int),0,p.1,p.2.1,p.2.2.1,p.2.2.2.1,p.2.2.2.2,l,())).bind λ(D,_)=>some D
def zr:Lp (Int×rF×Int×Int×kE×Int×Int×fx×fM×fX×fY×iC×ae×kE×NJ) (Int×rF×UH):=λ(U,ah,an,ar,av,az,D,F,L,M,N,O,x,aE,Y,_)=>bif decide (D<az) then(ag av D).bind λZ=>(Di Z.2.2.2.1 U).bind λa7=>bif a7 then(DT (F,L,M,N,O) Z.1 x).bind λa6=>bif a6 then(Ft (F,L,M,N,O) Z).bind λa1=>J (Y.length+([((Z,x),a1)]:jf).length<=1000000000)<|J (aa .i64 (D+1))<|some (.inl (U,ah,an,ar,av,az,(D+1),F,L,M,N,O,x,aE,(Y++([((Z,x),a1)]:jf)),())) else J (aa .i64 (D+1))<|some (.inl (U,ah,an,ar,av,az,(D+1),F,L,M,N,O,x,aE,Y,())) else J (aa .i64 (D+1))<|some (.inl (U,ah,an,ar,av,az,(D+1),F,L,M,N,O,x,aE,Y,())) else some (.inr (U,ah,an,ar,F,L,M,N,O,Y,()))
def zq:Lp (Int×rF×UH) adu:=λ(ar,Z,ah,F,M,N,O,U,L,Y,_)=>bif decide (F<ah) then(ag Z F).bind λD=>(ab zr (ar,Z,ah,F,D.2,(D.2.length:Int),0,M,N,O,U,L,D.1,D.2,Y,())).bind λ(av,bb,bp,an,az,aE,a1,a6,a7,a8,_)=>J (aa .i64 (an+1))<|some (.inl (av,bb,bp,(an+1),az,aE,a1,a6,a7,a8,())) else some (.inr (M,N,O,U,L,Y,()))
def LJ (p:gU) (Z:Int) (cat:rF):uK:=(ab zq (Z,cat,(cat.length:Int),0,p.1,p.2.1,p.2.2.1,p.2.2.2.1,p.2.2.2.2,[],())).bind λ(L,M,N,O,U,Y,_)=>(CI (L,M,N,O,U) Y).bind λD=>J (Y.length=D.length)<|(Er (L,M,N,O,U) D).bind λF=>J (D.length=F.length)<|some F
def KU:Lp (jf×Int×Int×eE×Unit) (eE×Unit):=λ(M,N,D,F,_)=>bif decide (D<N) then(ag M D).bind λL=>bif decide (L.2=0) then J (F.length+([L.1]:eE).length<=1000000000)<|J (aa .i64 (D+1))<|some (.inl (M,N,(D+1),(F++([L.1]:eE)),())) else J (aa .i64 (D+1))<|some (.inl (M,N,(D+1),F,())) else some (.inr (F,()))
def LK (l:jf):Option eE:=(ab KU (l,(l.length:Int),0,[],())).bind λ(D,_)=>some D
def DX:Lp uH eD:=λ(F,D,i,_)=>bif decide (0<=i) then J (aa .u32 (D*2))<|(ag F i).bind λL=>J (aa .u32 ((D*2)+(IntKind.wrap .u32 L)))<|J (aa .i64 (i - 1))<|some (.inl (F,((D*2)+(IntKind.wrap .u32 L)),(i - 1),())) else some (.inr (D,()))
def EE (l:aA):bH:=J (aa .i64 ((l.length:Int) - 1))<|(ab DX (l,0,((l.length:Int) - 1),())).bind λ(D,_)=>some D
def Ed:Lp jA jq:=λ(D,F,i,_)=>bif decide (i<32) then J (0<=i)<|J ((2:Int)≠0)<|bif decide (((D.fdiv (2 ^(min i.toNat (IntKind.bits .u32)))).tmod 2)=1) then J (0<=i)<|J ((2:Int)≠0)<|bif decide (((F.fdiv (2 ^(min i.toNat (IntKind.bits .u32)))).tmod 2)=0) then some (.inr (.inr (()))) else J (aa .i64 (i+1))<|some (.inl (D,F,(i+1),())) else J (aa .i64 (i+1))<|some (.inl (D,F,(i+1),())) else some (.inr (.inl (())))
def Lr (a:Int) (b:Int):bz:=(ab Ed (a,b,0,())).bind λo=>match o with|.inl (_)=>some true|.inr (_)=>some false
def Lm (labels:ae) (D:ae):bz:=(zw labels).bind λF=>(zw D).bind λJ=>(EE F.1).bind λL=>(EE J.1).bind λM=>(Lr L M).bind λN=>some N
def CU:ade:=λ(i,M,D,N,O,U,F,_)=>bif decide (i<(D.length:Int)) then(ag D i).bind λL=>J (F.length+([L.1]:aD).length<=1000000000)<|J (aa .i64 (i+1))<|some (.inl ((i+1),M,D,N,O,U,(F++([L.1]:aD)),())) else some (.inr (F,()))
def PJ (p:lH):xk:=(ab CU (0,p.1,p.2.1,p.2.2.1,p.2.2.2.1,p.2.2.2.2,[],())).bind λ(D,_)=>some D
def Ls (g:ae) (s:ae):bz:=(Ad g).bind λF=>bif !F then some false else(vZ s).bind λD=>bif !D then some false else(Ac g).bind λL=>bif !L then some (decide (g=s)) else J (aa .i64 ((g.length:Int) - 1))<|bif decide (((g.length:Int) - 1)<=(s.length:Int)) then J (0<=(0:Int)/\(0:Int)<=((g.length:Int) - 1)/\((g.length:Int) - 1)<=s.length)<|J (0<=(0:Int)/\(0:Int)<=((g.length:Int) - 1)/\((g.length:Int) - 1)<=g.length)<|some (decide (((s.take ((g.length:Int) - 1).toNat).drop (0:Int).toNat)=((g.take ((g.length:Int) - 1).toNat).drop (0:Int).toNat))) else some false
def EF (g:ae):bH:=(Ad g).bind λD=>bif !D then some (-1) else(Ac g).bind λF=>bif F then J (aa .i64 ((g.length:Int) - 1))<|J (aa .i64 (2*((g.length:Int) - 1)))<|some (2*((g.length:Int) - 1)) else J (aa .i64 (2*(g.length:Int)))<|J (aa .i64 ((2*(g.length:Int))+1))<|some ((2*(g.length:Int))+1)
def nO:Lp (ae×aD×iP) eD:=λ(L,D,F,i,_)=>bif decide (i<(D.length:Int)) then(ag D i).bind λU=>(Ls U L).bind λM=>bif M then bif decide (F<0) then J (aa .i64 (i+1))<|some (.inl (L,D,i,(i+1),())) else(ag D i).bind λY=>(EF Y).bind λN=>(ag D F).bind λZ=>(EF Z).bind λO=>bif decide (O<N) then J (aa .i64 (i+1))<|some (.inl (L,D,i,(i+1),())) else J (aa .i64 (i+1))<|some (.inl (L,D,F,(i+1),())) else J (aa .i64 (i+1))<|some (.inl (L,D,F,(i+1),())) else some (.inr (F,()))
def Ee (s:ae) (l:aD):bH:=(ab nO (s,l,(-1),0,())).bind λ(D,_)=>some D
def E9 (p:lH) (s:ae):bH:=(PJ p).bind λD=>(Ee s D).bind λF=>some F
def FD:Lp (Int×je×aK×aS×fW×aS×ae×ae×aD×jS) jS:=λ(i,M,Y,Z,ah,an,U,L,N,F,_)=>let ar:Bool->ae×iw->Option (Int×je×aK×aS×fW×aS×ae×ae×aD×jS⊕jS):=λO D=>bif decide (L=pe) then bif !O then J (F.length+([D.1]:aD).length<=1000000000)<|J (aa .i64 (i+1))<|some (.inl ((i+1),M,Y,Z,ah,an,U,L,N,(F++([D.1]:aD)),())) else J (aa .i64 (i+1))<|some (.inl ((i+1),M,Y,Z,ah,an,U,L,N,F,())) else J (aa .i64 (i+1))<|some (.inl ((i+1),M,Y,Z,ah,an,U,L,N,F,()));bif decide (i<(M.length:Int)) then(ag M i).bind λD=>(mM N D.1).bind λO=>bif decide (L=iF) then bif O then J (F.length+([D.1]:aD).length<=1000000000)<|J (aa .i64 (i+1))<|some (.inl ((i+1),M,Y,Z,ah,an,U,L,N,(F++([D.1]:aD)),())) else ar O D else ar O D else some (.inr (F,()))
def MD (p:lH) (c:xm):xk:=bif decide (c.2.1=hW) then J (c.2.2.length<=1000000000)<|some c.2.2 else(ab FD (0,p.1,p.2.1,p.2.2.1,p.2.2.2.1,p.2.2.2.2,c.1,c.2.1,c.2.2,[],())).bind λ(D,_)=>some D
def DM:ade:=λ(i,D,L,M,N,O,F,_)=>bif decide (i<(D.length:Int)) then(ag D i).bind λY=>bif decide (Y.2.2=jJ) then(ag D i).bind λU=>J (F.length+([U.1]:aD).length<=1000000000)<|J (aa .i64 (i+1))<|some (.inl ((i+1),D,L,M,N,O,(F++([U.1]:aD)),())) else J (aa .i64 (i+1))<|some (.inl ((i+1),D,L,M,N,O,F,())) else some (.inr (F,()))
def Eb (p:lH) (s:ae):xk:=(vZ s).bind λJ=>bif !J then some [] else(E9 p s).bind λD=>bif decide (0<=D) then(ag p.2.1 D).bind λM=>(MD p M).bind λF=>some F else(ab DM (0,p.1,p.2.1,p.2.2.1,p.2.2.2.1,p.2.2.2.2,[],())).bind λ(L,_)=>some L
def E':Lp (fW×ae×lu) (Unit⊕Bool×Unit):=λ(D,L,F,i,_)=>bif decide (i<(D.length:Int)) then(ag D i).bind λN=>bif decide (N.1=L) then(ag D i).bind λO=>(mM O.2 F).bind λM=>some (.inr (.inr (M,()))) else J (aa .i64 (i+1))<|some (.inl (D,L,F,(i+1),())) else some (.inr (.inl (())))
def Av (l:fW) (s:ae) (D:ae):bz:=(ab E' (l,s,D,0,())).bind λo=>match o with|.inl (_)=>some true|.inr (F,_)=>some F
def FU (p:lH) (x:xR):bH:=(wb p.2.2.1 x.1).bind λD=>bif D.2 then bif !decide (D.1=x.2.1) then some 1 else(Av p.2.2.2.1 x.1 x.2.2.1).bind λF=>bif !F then some 2 else bif x.2.2.2.2.1 then bif !D.2 then some 3 else some 0 else some 0 else(Av p.2.2.2.1 x.1 x.2.2.1).bind λJ=>bif !J then some 2 else bif x.2.2.2.2.1 then bif !D.2 then some 3 else some 0 else some 0
def rS (a:Int) (b:Int):bH:=bif decide (a<b) then some (-1) else bif decide (b<a) then some 1 else some 0
def KE:Lp (ae×lu) (ae×p5⊕eD):=λ(D,F,i,_)=>bif decide (i<(D.length:Int)) then bif decide (i<(F.length:Int)) then(ag D i).bind λL=>(ag F i).bind λM=>bif !decide ((L.toNat:Int)=(M.toNat:Int)) then(ag D i).bind λN=>(ag F i).bind λO=>(rS (IntKind.wrap .i64 (N.toNat:Int)) (IntKind.wrap .i64 (O.toNat:Int))).bind λU=>some (.inr (.inr (U,()))) else J (aa .i64 (i+1))<|some (.inl (D,F,(i+1),())) else some (.inr (.inl (D,F,()))) else some (.inr (.inl (D,F,())))
def qo (a:ae) (b:ae):bH:=(ab KE (a,b,0,())).bind λo=>match o with|.inl (D,F,_)=>(rS (D.length:Int) (F.length:Int)).bind λJ=>some J|.inr (L,_)=>some L
def Lv (a:ae) (b:ae):bH:=(zz a).bind λD=>(zz b).bind λF=>bif D then bif F then(zA a).bind λN=>(zA b).bind λO=>(rS N.1 O.1).bind λM=>some M else bif D then some (-1) else bif F then some 1 else(qo a b).bind λJ=>some J else bif D then some (-1) else bif F then some 1 else(qo a b).bind λL=>some L
def Kb:Lp (aA×aA×Int×NN) (NN⊕eD):=λ(F,L,D,M)=>bif decide (D<3) then(ag F D).bind λO=>(ag L D).bind λU=>bif !decide (O=U) then(ag F D).bind λY=>(ag L D).bind λZ=>(rS Y Z).bind λN=>some (.inr (.inr (N,()))) else J (aa .i64 (D+1))<|some (.inl (F,L,(D+1),M)) else some (.inr (.inl (M)))
def DN:Lp (Int×NN) (NN⊕eD):=λ(D,M,N,O,F,U,Y,Z,L,_)=>bif decide (D<(F.length:Int)) then bif decide (D<(L.length:Int)) then(ag F D).bind λan=>(ag L D).bind λar=>(Lv an ar).bind λah=>bif !decide (ah=0) then some (.inr (.inr (ah,()))) else J (aa .i64 (D+1))<|some (.inl ((D+1),M,N,O,F,U,Y,Z,L,())) else some (.inr (.inl (M,N,O,F,U,Y,Z,L,()))) else some (.inr (.inl (M,N,O,F,U,Y,Z,L,())))
def tA (x:pN) (L:pN):bH:=let N:aD->aD->bH:=λF D=>(rS (F.length:Int) (D.length:Int)).bind λM=>J (aa .i64 ((D.length:Int)+(F.length:Int)))<|J (aa .i64 (M*(if((D.length:Int)+(F.length:Int))<1 then((D.length:Int)+(F.length:Int)) else 1)))<|some (M*(if((D.length:Int)+(F.length:Int))<1 then((D.length:Int)+(F.length:Int)) else 1));(ab Kb (([x.1,x.2.1,x.2.2.1]:aA),([L.1,L.2.1,L.2.2.1]:aA),0,x.1,x.2.1,x.2.2.1,x.2.2.2,L.1,L.2.1,L.2.2.1,L.2.2.2,())).bind λo=>match o with|.inl (ah,an,Y,D,az,aE,ar,F,_)=>(bif decide ((D.length:Int)=0) then N F D else bif decide ((F.length:Int)=0) then N F D else(ab DN (0,ah,an,Y,D,az,aE,ar,F,())).bind λU=>match U with|.inl (a7,a8,bb,Z,bp,bx,b0,av,_)=>(rS (Z.length:Int) (av.length:Int)).bind λO=>some O|.inr (a1,_)=>some a1)|.inr (a6,_)=>some a6
def FW (b:Int):bH:=(FF b).bind λD=>bif decide (D=0) then some 0 else J (0<=(63:Int))<|bif decide ((b.fdiv (2 ^(min (63:Int).toNat (IntKind.bits .u64))))=1) then some (bits .xor .u64 (if(IntKind.signed .u64) then-1 else(IntKind.max .u64)) b) else some (bits .or .u64 b 9223372036854775808)
def KF (a:Int) (b:Int):bH:=(FW a).bind λD=>(FW b).bind λF=>bif decide (D<F) then some (-1) else bif decide (F<D) then some 1 else some 0
def Ec (p:lH) (a:ae) (b:ae):bH:=let J:Int->Int->bH:=λD F=>bif decide (0<=D) then(ag p.1 D).bind λU=>(nT U.2.1).bind λbits=>(ag p.1 F).bind λY=>(nT Y.2.1).bind λM=>(KF M.1 bits.1).bind λL=>bif !decide (L=0) then some L else(qo a b).bind λN=>some N else(qo a b).bind λO=>some O;(vH p a).bind λD=>(vH p b).bind λF=>bif decide (D<0) then bif decide (0<=F) then some 1 else bif decide (0<=D) then bif decide (F<0) then some (-1) else J D F else J D F else bif decide (0<=D) then bif decide (F<0) then some (-1) else J D F else J D F
def E8 (p:lH) (a:xR×Bw) (b:xR×Bw):bz:=(qo a.1.1 b.1.1).bind λD=>bif decide (D=0) then(qn a.1.2.1).bind λM=>(qn b.1.2.1).bind λN=>(tA N.1 M.1).bind λF=>bif decide (F=0) then(Ec p a.2.1 b.2.1).bind λJ=>some (decide (J<0)) else some (decide (F<0)) else bif decide (D=0) then(Ec p a.2.1 b.2.1).bind λL=>some (decide (L<0)) else some (decide (D<0))
def Ea:Lp (aD×lu) jr:=λ(D,F,i,_)=>bif decide (i<(D.length:Int)) then(ag D i).bind λL=>bif decide (L=F) then some (.inr (.inr (i,()))) else J (aa .i64 (i+1))<|some (.inl (D,F,(i+1),())) else some (.inr (.inl (())))
def E6 (l:aD) (s:ae):bH:=(ab Ea (l,s,0,())).bind λo=>match o with|.inl (_)=>some (-1)|.inr (D,_)=>some D
def zi:Lp (bK×Int×aD×UI) (bK×UI):=λ(F,L,N,D,O,U,Y,Z,ah,M,_)=>bif decide (D<(F.length:Int)) then(ag F D).bind λav=>(ag F L).bind λaz=>bif decide (av.1.1=az.1.1) then(ag F D).bind λaE=>bif decide (aE.2.2=0) then(ag F D).bind λa1=>(E6 N a1.2.1).bind λan=>(ag F L).bind λa6=>(E6 N a6.2.1).bind λar=>bif decide (an<ar) then J (0<=L/\L<M.length)<|(M[L.toNat]?).bind λq=>J (aa .i64 (D+1))<|some (.inl (F,L,N,(D+1),O,U,Y,Z,ah,(M.set L.toNat (q.1,q.2.1,4)),())) else J (aa .i64 (D+1))<|some (.inl (F,L,N,(D+1),O,U,Y,Z,ah,M,())) else J (aa .i64 (D+1))<|some (.inl (F,L,N,(D+1),O,U,Y,Z,ah,M,())) else J (aa .i64 (D+1))<|some (.inl (F,L,N,(D+1),O,U,Y,Z,ah,M,())) else some (.inr (F,L,O,U,Y,Z,ah,M,()))
def oV:Lp (bK×UI) (bK×Unit):=λ(F,D,N,L,O,U,Y,M)=>bif decide (D<(F.length:Int)) then(ag F D).bind λar=>(E9 (N,L,O,U,Y) ar.1.1).bind λZ=>(ag F D).bind λav=>bif !decide (av.2.2=0) then J (aa .i64 (D+1))<|some (.inl (F,(D+1),N,L,O,U,Y,M)) else bif decide (Z<0) then J (aa .i64 (D+1))<|some (.inl (F,(D+1),N,L,O,U,Y,M)) else(ag L Z).bind λaE=>bif !decide (aE.2.1=hW) then J (aa .i64 (D+1))<|some (.inl (F,(D+1),N,L,O,U,Y,M)) else(ag L Z).bind λa1=>(ab zi (F,D,a1.2.2,0,N,L,O,U,Y,M)).bind λ(an,ah,az)=>J (aa .i64 (ah+1))<|some (.inl (an,(ah+1),az)) else some (.inr (M))
def E7 (x:lH) (D:bK):Option bK:=J (D.length<=1000000000)<|(ab oV (D,0,x.1,x.2.1,x.2.2.1,x.2.2.2.1,x.2.2.2.2,D,())).bind λ(F,_)=>some F
def tG:Lp adr adr:=λ(a7,a8,a6,bb,bp,D,ar,av,az,aE,a1,F,L,M,N,O,U,Y,Z,ah,an,_)=>bif decide (0<D) then J (aa .i64 (D - 1))<|(ag a6 (D - 1)).bind λb0=>(E8 (ar,av,az,aE,a1) ((F,L,M,N,O,U,Y,Z),ah,an) b0).bind λbx=>bif bx then J (aa .i64 (D - 1))<|some (.inl (a7,a8,a6,bb,bp,(D - 1),ar,av,az,aE,a1,F,L,M,N,O,U,Y,Z,ah,an,())) else some (.inr (a7,a8,a6,bb,bp,D,ar,av,az,aE,a1,F,L,M,N,O,U,Y,Z,ah,an,())) else some (.inr (a7,a8,a6,bb,bp,D,ar,av,az,aE,a1,F,L,M,N,O,U,Y,Z,ah,an,()))
def rO:Lp (ae×oJ×bK×Int×Bu) (ae×oJ×bK×Bu):=λ(ar,M,av,N,O,U,Y,Z,ah,an,_)=>(ag M N).bind λb8=>bif decide (O<(b8.2.length:Int)) then(ag M N).bind λca=>(ag ca.2 O).bind λF=>(ag M N).bind λb1=>(Lm F.2.2.2.1 ar).bind λb5=>bif !b5 then J (aa .i64 (O+1))<|some (.inl (ar,M,av,N,(O+1),U,Y,Z,ah,an,())) else(Eb (U,Y,Z,ah,an) F.1).bind λb4=>(mM b4 b1.1).bind λb3=>bif !b3 then J (aa .i64 (O+1))<|some (.inl (ar,M,av,N,(O+1),U,Y,Z,ah,an,())) else(FU (U,Y,Z,ah,an) F).bind λb6=>(ab tG (ar,M,av,N,O,(av.length:Int),U,Y,Z,ah,an,F.1,F.2.1,F.2.2.1,F.2.2.2.1,F.2.2.2.2.1,F.2.2.2.2.2.1,F.2.2.2.2.2.2.1,F.2.2.2.2.2.2.2,b1.1,b6,())).bind λ(b7,b9,D,cx,b2,L,cc,cd,ch,cj,cp,az,aE,a1,a6,a7,a8,bb,bp,bx,b0,_)=>J (0<=(0:Int)/\(0:Int)<=L/\L<=D.length)<|J (((D.take L.toNat).drop (0:Int).toNat).length<=1000000000)<|J (((D.take L.toNat).drop (0:Int).toNat).length+([((az,aE,a1,a6,a7,a8,bb,bp),bx,b0)]:bK).length<=1000000000)<|J (0<=L/\L<=(D.length:Int)/\(D.length:Int)<=D.length)<|J ((((D.take L.toNat).drop (0:Int).toNat)++([((az,aE,a1,a6,a7,a8,bb,bp),bx,b0)]:bK)).length+((D.take (D.length:Int).toNat).drop L.toNat).length<=1000000000)<|J (aa .i64 (b2+1))<|some (.inl (b7,b9,((((D.take L.toNat).drop (0:Int).toNat)++([((az,aE,a1,a6,a7,a8,bb,bp),bx,b0)]:bK))++((D.take (D.length:Int).toNat).drop L.toNat)),cx,(b2+1),cc,cd,ch,cj,cp,())) else some (.inr (ar,M,av,N,U,Y,Z,ah,an,()))
def zQ:Lp (ae×oJ×bK×Bu) (bK×OP):=λ(O,D,L,M,F)=>bif decide (M<(D.length:Int)) then(ab rO (O,D,L,M,0,F)).bind λ(U,Y,ah,N,Z)=>J (aa .i64 (N+1))<|some (.inl (U,Y,ah,(N+1),Z)) else some (.inr (L,F))
def Md (x:lH) (F:ae) (J:oJ):Option bK:=(ab zQ (F,J,[],0,x.1,x.2.1,x.2.2.1,x.2.2.2.1,x.2.2.2.2,())).bind λ(Y,L,M,N,O,U,_)=>(E7 (L,M,N,O,U) Y).bind λD=>some D
def Ln:Lp (bK×Int×bK×Unit) (bK×Unit):=λ(D,i,F,_)=>bif decide (i<(D.length:Int)) then(ag D i).bind λM=>bif decide (M.2.2=0) then(ag D i).bind λL=>J (F.length+([L]:bK).length<=1000000000)<|J (aa .i64 (i+1))<|some (.inl (D,(i+1),(F++([L]:bK)),())) else J (aa .i64 (i+1))<|some (.inl (D,(i+1),F,())) else some (.inr (F,()))
def Me (l:bK):Option bK:=(ab Ln (l,0,[],())).bind λ(D,_)=>some D
def vJ (x:xj):Option (Ux×Bool):=(Dt x.1).bind λD=>(zR x.2).bind λM=>(yS x.2).bind λF=>bif !D.2 then some (([],[],[],[]),false) else bif !decide (M.2.1=0) then some (([],[],[],[]),false) else bif !((decide (F.2.1=0)&&(decide (F.2.2.1=0)&&decide (F.2.2.2=0)))) then some (([],[],[],[]),false) else(LJ D.1.1 D.1.2.1 D.1.2.2.1).bind λN=>(LK N).bind λJ=>(Md D.1.2.2.2.1 D.1.2.2.2.2.1 D.1.2.2.2.2.2).bind λO=>(Me O).bind λL=>some ((J,F.1,L,M.1),decide ((J.length:Int)=(L.length:Int)))
def Du:adt:=λ(U,Y,L,M,N,D,n,Z,ah,F,_)=>bif decide (D<N) then(ag M D).bind λO=>J (F.length+([(n,O)]:aS).length<=1000000000)<|J (aa .i64 (D+1))<|some (.inl (U,Y,L,M,N,(D+1),n,Z,ah,(F++([(n,O)]:aS)),())) else some (.inr (U,Y,L,F,()))
def PX:Lp Uy jz:=λ(N,O,F,L,_)=>bif decide (F<O) then(ag N F).bind λD=>(ab Du (N,O,F,D.2.2,(D.2.2.length:Int),0,D.1,D.2.1,D.2.2,L,())).bind λ(Y,Z,M,U,_)=>J (aa .i64 (M+1))<|some (.inl (Y,Z,(M+1),U,())) else some (.inr (L,()))
def DI (l:bF):Bs:=(ab PX (l,(l.length:Int),0,[],())).bind λ(D,_)=>some D
def J3:adt:=λ(U,Y,L,M,N,D,n,Z,ah,F,_)=>bif decide (D<N) then(ag M D).bind λO=>J (F.length+([(n,O)]:aS).length<=1000000000)<|J (aa .i64 (D+1))<|some (.inl (U,Y,L,M,N,(D+1),n,Z,ah,(F++([(n,O)]:aS)),())) else some (.inr (U,Y,L,F,()))
def P4:Lp Uy jz:=λ(N,O,F,L,_)=>bif decide (F<O) then(ag N F).bind λD=>(ab J3 (N,O,F,D.2.2,(D.2.2.length:Int),0,D.1,D.2.1,D.2.2,L,())).bind λ(Y,Z,M,U,_)=>J (aa .i64 (M+1))<|some (.inl (Y,Z,(M+1),U,())) else some (.inr (L,()))
def tz (l:bF):Bs:=(ab P4 (l,(l.length:Int),0,[],())).bind λ(D,_)=>some D
def th:Lp (Int×Nat×Int×jz) (Int×jz):=λ(F,s2,k2,D,_)=>bif decide (k2<((D.length - s2:Nat):Int)) then J (0<=k2/\k2<((D.length - s2:Nat):Int))<|(D[(s2+k2.toNat)]?).bind λL=>J (aa .i64 (k2 - 1))<|J (0<=(k2 - 1)/\(k2 - 1)<((D.length - s2:Nat):Int))<|(D[(s2+(k2 - 1).toNat)]?).bind λM=>bif !((decide (L.1=M.1)&&decide (L.2=M.2))) then J (0<=k2/\k2<((D.length - s2:Nat):Int))<|(D[(s2+k2.toNat)]?).bind λN=>J (0<=F/\F<D.length)<|(D[F.toNat]?).bind λq=>J (aa .i64 (F+1))<|J (aa .i64 (k2+1))<|some (.inl ((F+1),s2,(k2+1),(D.set F.toNat N),())) else J (aa .i64 (k2+1))<|some (.inl (F,s2,(k2+1),D,())) else some (.inr (F,D,()))
def vy:Lp (Int×jz) (jz⊕jz):=λ(k,F,_)=>bif decide (k<(F.length:Int)) then J (0<=k/\k<F.length)<|(F[k.toNat]?).bind λy=>J (aa .i64 (k - 1))<|J (0<=(k - 1)/\(k - 1)<F.length)<|(F[(k - 1).toNat]?).bind λM=>bif (decide (y.1=M.1)&&decide (y.2=M.2)) then J (0<=k/\k<=(F.length:Int)/\0<F.length)<|(ab th (k,k.toNat,1,F,())).bind λ(D,L,_)=>J (0<=D/\D<=(L.length:Int)/\0<L.length)<|J True<|J (0<=D/\D<=((L.take D.toNat++List.replicate (L.length - D.toNat) ([],[])).length:Int)/\0<(L.take D.toNat++List.replicate (L.length - D.toNat) ([],[])).length)<|some (.inr (.inr (((L.take D.toNat++List.replicate (L.length - D.toNat) ([],[])).take D.toNat),()))) else J (aa .i64 (k+1))<|some (.inl ((k+1),F,())) else some (.inr (.inl (F,())))
def CY (l:aS):Bs:=bif decide ((l.length:Int)<2) then some l else(ab vy (1,l,())).bind λD=>match D with|.inl (F,_)=>some F|.inr (J,_)=>some J
def oR (c:cS):bH:=J (aa .i64 ((c.1.length:Int)+(c.2.2.length:Int)))<|some ((c.1.length:Int)+(c.2.2.length:Int))
def I7:Lp (Int×Int×bF×sE) GG:=λ(F,k,M,N,O,U,D,L,_)=>bif decide (D<U) then J (L.length+([(5,F,k,D,0)]:dq).length<=1000000000)<|J (aa .i64 (D+1))<|some (.inl (F,k,M,N,O,U,(D+1),(L++([(5,F,k,D,0)]:dq)),())) else some (.inr (F,M,N,O,L,()))
def I6:Lp GG ng:=λ(F,M,N,D,L,_)=>bif decide (D<N) then(ag M D).bind λan=>J (L.length+([(4,F,D,0,0)]:dq).length<=1000000000)<|(ab I7 (F,D,M,N,D,(an.2.2.length:Int),0,(L++([(4,F,D,0,0)]:dq)),())).bind λ(U,Z,ah,O,Y,_)=>J (aa .i64 (O+1))<|some (.inl (U,Z,ah,(O+1),Y,())) else some (.inr (L,()))
def yy (c:cS) (i:Int):lr:=(ag c.1 i).bind λD=>(ab I6 (i,D.1.2.2.2.2.2.2.1,(D.1.2.2.2.2.2.2.1.length:Int),0,[],())).bind λ(F,_)=>some F
def Qt:Lp (ae×eE×xn) gV:=λ(L,M,N,D,F,_)=>bif decide (D<N) then(ag M D).bind λO=>bif decide (O.1.1=L) then J (F.length+([D]:aA).length<=1000000000)<|J (aa .i64 (D+1))<|some (.inl (L,M,N,(D+1),(F++([D]:aA)),())) else J (aa .i64 (D+1))<|some (.inl (L,M,N,(D+1),F,())) else some (.inr (F,()))
def EU (l:eE) (s:ae):nh:=(ab Qt (s,l,(l.length:Int),0,[],())).bind λ(D,_)=>some D
def JY (c:Int×gC):bz:=bif decide (c.1=8) then some (decide (c.2.1.1=0)&&(decide (c.2.1.2.1=0)&&(decide (c.2.1.2.2=0)&&decide (c.2.2=[])))) else bif decide (0<=c.1) then bif decide (c.1<8) then(ym c.2).bind λD=>some D else some false else some false
def Jj:Lp (jY×Int×Int×sF×NG) (jY×NG⊕Unit):=λ(L,M,N,O,U,D,F,_)=>bif decide (D<U) then(ag O D).bind λZ=>(JY Z).bind λY=>bif !Y then some (.inr (.inr (()))) else J (aa .i64 (D+1))<|some (.inl (L,M,N,O,U,(D+1),F,())) else some (.inr (.inl (L,M,N,F,())))
def PI:Lp (jY×NG) (jY×Unit⊕Unit):=λ(M,N,F,L,_)=>bif decide (F<N) then(ag M F).bind λD=>bif decide ((D.length:Int)<1) then some (.inr (.inr (()))) else bif decide (4<(D.length:Int)) then some (.inr (.inr (()))) else(ab Jj (M,N,F,D,(D.length:Int),0,L,())).bind λo=>match o with|.inl (Y,Z,O,U,_)=>J (aa .i64 (O+1))<|some (.inl (Y,Z,(O+1),U,()))|.inr (_)=>some (.inr (.inr (()))) else some (.inr (.inl (L,())))
def JB (r:jY):bz:=bif decide ((r.length:Int)<1) then some false else bif decide (4<(r.length:Int)) then some false else(ab PI (r,(r.length:Int),0,r,())).bind λD=>match D with|.inl (F,_)=>(yG F).bind λJ=>some (decide ((J.length:Int)<=80))|.inr (_)=>some false
def J8 (c:Int×gC):Option gC:=bif decide (c.1=6) then(mw c.2 1).bind λD=>some D else bif decide (0<c.2.1.1) then(mw c.2 0).bind λTE=>some TE else bif decide (0<c.2.1.2.1) then(mw c.2 1).bind λTD=>some TD else(mw c.2 2).bind λF=>some F
def JK (c:Int×gC) (v:gC):bz:=(tu v c.2).bind λD=>bif decide (c.1=0) then some (decide (D=0)) else bif decide (c.1=1) then some (!decide (D=0)) else bif decide (c.1=2) then some (decide (D<0)) else bif decide (c.1=3) then some (decide (D<=0)) else bif decide (c.1=4) then some (decide (0<D)) else bif decide (c.1=5) then some (decide (0<=D)) else bif decide (c.1=8) then some true else bif decide (0<=D) then(J8 c).bind λJ=>(tu v J).bind λF=>some (decide (F<0)) else some false
def WW (a:gC) (b:gC):bz:=some (decide (a.1.1=b.1.1)&&(decide (a.1.2.1=b.1.2.1)&&decide (a.1.2.2=b.1.2.2)))
def KX:Lp (Bool×sF×Int×BC) (Bool×Unit⊕Unit):=λ(Z,O,U,D,F,L,M,N,_)=>bif decide (D<U) then(ag O D).bind λY=>(JK Y ((F,L,M),N)).bind λah=>bif !ah then some (.inr (.inr (()))) else bif Z then J (aa .i64 (D+1))<|some (.inl (true,O,U,(D+1),F,L,M,N,())) else bif !decide (Y.2.2=[]) then(WW Y.2 ((F,L,M),N)).bind λan=>J (aa .i64 (D+1))<|some (.inl (an,O,U,(D+1),F,L,M,N,())) else J (aa .i64 (D+1))<|some (.inl (false,O,U,(D+1),F,L,M,N,())) else some (.inr (.inl (Z,())))
def LN (a:sF) (v:gC):bz:=(ab KX (decide (v.2=[]),a,(a.length:Int),0,v.1.1,v.1.2.1,v.1.2.2,v.2,())).bind λo=>match o with|.inl (D,_)=>some D|.inr (_)=>some false
def JA:Lp (jY×Int×BC) jq:=λ(O,U,D,F,L,M,N,_)=>bif decide (D<U) then(ag O D).bind λZ=>(LN Z ((F,L,M),N)).bind λY=>bif Y then some (.inr (.inr (()))) else J (aa .i64 (D+1))<|some (.inl (O,U,(D+1),F,L,M,N,())) else some (.inr (.inl (())))
def JX (r:jY) (v:gC):bz:=(JB r).bind λD=>bif !D then some false else(ym v).bind λF=>bif !F then some false else(ab JA (r,(r.length:Int),0,v.1.1,v.1.2.1,v.1.2.2,v.2,())).bind λo=>match o with|.inl (_)=>some false|.inr (_)=>some true
def ze (i:Int) (F:pL) (J:eE):bz:=(ag J i).bind λL=>(JX F.2.1 L.1.2.1).bind λD=>some (!D)
def IA:Lp (aA×pL×eE×iP) jr:=λ(M,F,L,N,D,_)=>bif decide (D<N) then(ag M D).bind λU=>(ze U F L).bind λO=>bif O then some (.inr (.inr (D,()))) else J (aa .i64 (D+1))<|some (.inl (M,F,L,N,(D+1),())) else some (.inr (.inl (())))
def Pj (s:aA) (f:pL) (D:eE):bH:=(ab IA (s,f,D,(s.length:Int),0,())).bind λo=>match o with|.inl (_)=>some (-1)|.inr (F,_)=>some F
def Iy:Lp (pL×eE×xn) xl:=λ(L,M,D,j,F,_)=>bif decide (j<(F.length:Int)) then J (0<=j/\j<F.length)<|(F[j.toNat]?).bind λy=>(ze y L M).bind λN=>bif !N then J (0<=D/\D<F.length)<|(F[D.toNat]?).bind λq=>J (aa .i64 (D+1))<|J (aa .i64 (j+1))<|some (.inl (L,M,(D+1),(j+1),(F.set D.toNat y),())) else J (aa .i64 (j+1))<|some (.inl (L,M,D,(j+1),F,())) else some (.inr (D,F,()))
def IC (del:pL) (M:eE) (l:aA):nh:=(Pj l del M).bind λL=>bif decide (L=(-1)) then some l else J (aa .i64 (L+1))<|(ab Iy (del,M,L,(L+1),l,())).bind λ(D,F,_)=>J (0<=D/\D<=(F.length:Int)/\0<F.length)<|J True<|J (0<=D/\D<=((F.take D.toNat++List.replicate (F.length - D.toNat) 0).length:Int)/\0<(F.take D.toNat++List.replicate (F.length - D.toNat) 0).length)<|some ((F.take D.toNat++List.replicate (F.length - D.toNat) 0).take D.toNat)
def zJ (l:eE) (n:pL):nh:=(EU l n.1).bind λof=>(IC n l of).bind λD=>some D
def Jd:Lp (cS×Int×Int×Int×aA×ng) (cS×Int×ng):=λ(O,F,N,D,L,M,_)=>bif decide (D<N) then J (0<=D/\D<L.length)<|(L[D.toNat]?).bind λy=>bif decide (F<y) then J (M.length+([(3,F,y,0,0)]:dq).length<=1000000000)<|J (aa .i64 (D+1))<|some (.inl (O,F,N,(D+1),L,(M++([(3,F,y,0,0)]:dq)),())) else J (aa .i64 (D+1))<|some (.inl (O,F,N,(D+1),L,M,())) else some (.inr (O,F,M,()))
def Jc:Lp (cS×Int×Int×bF×Int×Int×Int×Int×dq×gV) (cS×GG):=λ(ah,F,N,O,U,Y,Z,D,L,M,_)=>bif decide (D<Z) then J (0<=D/\D<M.length)<|(M[D.toNat]?).bind λan=>J (L.length+([(9,F,N,an,0)]:dq).length<=1000000000)<|J (aa .i64 (D+1))<|some (.inl (ah,F,N,O,U,Y,Z,(D+1),(L++([(9,F,N,an,0)]:dq)),M,())) else some (.inr (ah,F,O,U,Y,L,()))
def Jb:Lp (cS×GG) ng:=λ(U,Z,M,N,D,L,_)=>bif decide (D<N) then(ag M D).bind λav=>(zJ U.1 av).bind λF=>(ab Jc (U,Z,D,M,N,D,(F.length:Int),0,L,F,())).bind λ(az,ah,an,ar,O,Y,_)=>J (aa .i64 (O+1))<|some (.inl (az,ah,an,ar,(O+1),Y,())) else some (.inr (L,()))
def yF (x:cS) (D:Int):lr:=(ag x.1 D).bind λO=>(EU x.1 O.1.1).bind λof=>(ab Jd (x,D,(of.length:Int),0,of,[],())).bind λ(L,F,M,_)=>(ag L.1 F).bind λJ=>(ab Jb (L,F,J.1.2.2.2.2.2.1,(J.1.2.2.2.2.2.1.length:Int),0,M,())).bind λ(N,_)=>some N
def IS:Lp (cS×Int×Int×Int×aS×Int×Int×bF×sE) adg:=λ(av,F,L,N,O,U,Y,Z,ah,an,ar,D,M,_)=>bif decide (D<ar) then J (M.length+([(8,F,L,N,D)]:dq).length<=1000000000)<|J (aa .i64 (D+1))<|some (.inl (av,F,L,N,O,U,Y,Z,ah,an,ar,(D+1),(M++([(8,F,L,N,D)]:dq)),())) else some (.inr (av,F,L,O,U,Y,Z,ah,an,M,()))
def IQ:Lp adg (cS×Int×aS×nF):=λ(an,F,M,N,O,U,Y,Z,D,L,_)=>bif decide (D<Z) then(ag Y D).bind λbb=>J (L.length+([(7,F,M,D,0)]:dq).length<=1000000000)<|(ab IS (an,F,M,D,N,O,U,Y,Z,D,(bb.2.2.length:Int),0,(L++([(7,F,M,D,0)]:dq)),())).bind λ(bp,a1,a8,av,az,aE,a6,a7,ah,ar,_)=>J (aa .i64 (ah+1))<|some (.inl (bp,a1,a8,av,az,aE,a6,a7,(ah+1),ar,())) else some (.inr (an,F,N,O,U,L,()))
def PA:Lp (cS×Int×aS×nF) ng:=λ(L,F,N,O,D,M,_)=>bif decide (D<O) then(ag N D).bind λZ=>(ag L.1 F).bind λaE=>bif !decide (Z.1=aE.1.1) then J (aa .i64 (D+1))<|some (.inl (L,F,N,O,(D+1),M,())) else(ag L.1 F).bind λa1=>(qb a1.1 Z.2).bind λU=>bif decide (U<0) then J (M.length+([(6,F,D,0,0)]:dq).length<=1000000000)<|J (aa .i64 (D+1))<|some (.inl (L,F,N,O,(D+1),(M++([(6,F,D,0,0)]:dq)),())) else(ag L.1 F).bind λa6=>(ag a6.1.2.2.2.2.2.2.2 U).bind λah=>(ab IQ (L,F,D,N,O,D,ah.2,(ah.2.length:Int),0,M,())).bind λ(a7,az,ar,av,Y,an,_)=>J (aa .i64 (Y+1))<|some (.inl (a7,az,ar,av,(Y+1),an,())) else some (.inr (M,()))
def yp (x:cS) (F:Int):lr:=(ab PA (x,F,x.2.2,(x.2.2.length:Int),0,[],())).bind λ(D,_)=>some D
def D5:Lp (Int×uH) Bt:=λ(F,M,N,D,_)=>bif decide (D<N) then(ag M D).bind λL=>bif !decide (L=F) then some (.inr (.inr (L,()))) else J (aa .i64 (D+1))<|some (.inl (F,M,N,(D+1),())) else some (.inr (.inl (F,())))
def Lb (vals:aA):bH:=(ab D5 (0,vals,(vals.length:Int),0,())).bind λo=>match o with|.inl (F,_)=>some F|.inr (D,_)=>some D
def qg (a:kL) (b:kL):bH:=(my a.1 b.1).bind λD=>(my a.2.1 b.2.1).bind λF=>(my a.2.2.1 b.2.2.1).bind λJ=>(my a.2.2.2.1 b.2.2.2.1).bind λL=>(my a.2.2.2.2 b.2.2.2.2).bind λM=>(Lb ([D,F,J,L,M]:aA)).bind λor=>some or
def OY:Lp sE q7:=λ(F,L,M,j,D,_)=>bif decide (F<j) then J (0<=j/\j<D.length)<|(D[j.toNat]?).bind λy=>J (aa .i64 (j - 1))<|J (0<=(j - 1)/\(j - 1)<D.length)<|(D[(j - 1).toNat]?).bind λU=>(qg y U).bind λO=>bif decide (O<0) then J (aa .i64 (j - 1))<|J (aa .i64 (j - 1))<|J (0<=(j - 1)/\(j - 1)<D.length)<|(D[(j - 1).toNat]?).bind λN=>J (0<=j/\j<D.length)<|(D[j.toNat]?).bind λY=>J (0<=j/\j<D.length)<|(D[j.toNat]?).bind λq=>J (0<=(j - 1)/\(j - 1)<(D.set j.toNat N).length)<|((D.set j.toNat N)[(j - 1).toNat]?).bind λZ=>J (aa .i64 (j - 1))<|some (.inl (F,L,M,(j - 1),((D.set j.toNat N).set (j - 1).toNat Y),())) else some (.inr (F,L,M,D,())) else some (.inr (F,L,M,D,()))
def OX:Lp q7 ng:=λ(M,D,i,L,_)=>bif decide (i<D) then(ab OY (M,D,i,i,L,())).bind λ(N,O,F,U,_)=>J (aa .i64 (F+1))<|some (.inl (N,O,(F+1),U,())) else some (.inr (L,()))
def CB (a:Int) (b:Int) (l:dq):lr:=J (aa .i64 (a+1))<|(ab OX (a,b,(a+1),l,())).bind λ(D,_)=>some D
def afn:Lp sE ng:=λ(D,F,M,i,L,_)=>bif decide (i<M) then J (aa .i64 (D+i))<|J (aa .i64 (F+i))<|J (aa .i64 (F+i))<|J (0<=(F+i)/\(F+i)<L.length)<|(L[(F+i).toNat]?).bind λy=>J (aa .i64 (D+i))<|J (0<=(D+i)/\(D+i)<L.length)<|(L[(D+i).toNat]?).bind λN=>J (0<=(D+i)/\(D+i)<L.length)<|(L[(D+i).toNat]?).bind λq=>J (0<=(F+i)/\(F+i)<(L.set (D+i).toNat y).length)<|((L.set (D+i).toNat y)[(F+i).toNat]?).bind λO=>J (aa .i64 (i+1))<|some (.inl (D,F,M,(i+1),((L.set (D+i).toNat y).set (F+i).toNat N),())) else some (.inr (L,()))
def CE (a:Int) (b:Int) (n:Int) (l:dq):lr:=(ab afn (a,b,n,0,l,())).bind λ(D,_)=>some D
def Pe:Lp q7 nF:=λ(F,D,j,L,_)=>bif !decide (D=j) then bif decide (j<D) then J (aa .i64 (F - D))<|(CE (F - D) F j L).bind λM=>J (aa .i64 (D - j))<|J (L.length=M.length)<|some (.inl (F,(D - j),j,M,())) else J (aa .i64 (F - D))<|J (aa .i64 (F+j))<|J (aa .i64 ((F+j) - D))<|(CE (F - D) ((F+j) - D) D L).bind λN=>J (aa .i64 (j - D))<|J (L.length=N.length)<|some (.inl (F,D,(j - D),N,())) else some (.inr (F,D,L,()))
def It (a:Int) (m:Int) (b:Int) (l:dq):lr:=J (aa .i64 (m - a))<|J (aa .i64 (b - m))<|(ab Pe (m,(m - a),(b - m),l,())).bind λ(F,D,L,_)=>J (aa .i64 (F - D))<|(CE (F - D) F D L).bind λM=>some M
def O7 (rc:Bx):Lp q7 nF:=λ(M,D,F,L,_)=>bif decide (D<F) then J (aa .i64 (D+F))<|J (0<=(1:Int))<|J (0<=(hf (D+F))/\(hf (D+F))<L.length)<|(L[(hf (D+F)).toNat]?).bind λy=>J (0<=M/\M<L.length)<|(L[M.toNat]?).bind λO=>(qg y O).bind λN=>bif decide (N<0) then J (aa .i64 ((hf (D+F))+1))<|some (.inl (M,((hf (D+F))+1),F,L,())) else some (.inl (M,D,(hf (D+F)),L,())) else some (.inr (M,D,L,()))
def VP (rc:Bx):Lp nF ng:=λ(L,D,F,_)=>J (aa .i64 (L - 1))<|bif decide (D<(L - 1)) then J (aa .i64 (D+1))<|J (aa .i64 (D+1))<|J (0<=(D+1)/\(D+1)<F.length)<|(F[(D+1).toNat]?).bind λM=>J (0<=D/\D<F.length)<|(F[D.toNat]?).bind λN=>J (0<=D/\D<F.length)<|(F[D.toNat]?).bind λq=>J (0<=(D+1)/\(D+1)<(F.set D.toNat M).length)<|((F.set D.toNat M)[(D+1).toNat]?).bind λO=>J (aa .i64 (D+1))<|some (.inl (L,(D+1),((F.set D.toNat M).set (D+1).toNat N),())) else some (.inr (F,()))
def O6 (rc:Bx):Lp q7 nF:=λ(M,D,F,L,_)=>bif decide (D<F) then J (aa .i64 (D+F))<|J (0<=(1:Int))<|J (0<=M/\M<L.length)<|(L[M.toNat]?).bind λO=>J (0<=(hf (D+F))/\(hf (D+F))<L.length)<|(L[(hf (D+F)).toNat]?).bind λU=>(qg O U).bind λN=>bif !(decide (N<0)) then J (aa .i64 ((hf (D+F))+1))<|some (.inl (M,((hf (D+F))+1),F,L,())) else some (.inl (M,D,(hf (D+F)),L,())) else some (.inr (M,D,L,()))
def VN (rc:Bx):Lp nF ng:=λ(M,D,F,_)=>bif decide (M<D) then J (aa .i64 (D - 1))<|J (aa .i64 (D - 1))<|J (0<=(D - 1)/\(D - 1)<F.length)<|(F[(D - 1).toNat]?).bind λL=>J (0<=D/\D<F.length)<|(F[D.toNat]?).bind λN=>J (0<=D/\D<F.length)<|(F[D.toNat]?).bind λO=>J (0<=(D - 1)/\(D - 1)<(F.set D.toNat L).length)<|((F.set D.toNat L)[(D - 1).toNat]?).bind λU=>J (aa .i64 (D - 1))<|some (.inl (M,(D - 1),((F.set D.toNat L).set (D - 1).toNat N),())) else some (.inr (F,()))
def Ip (rc:Bx):Lp (Int×Int×Int×Int×sE) (Int×Int×sE):=λ(U,Y,Z,N,O,D,F,M,L,_)=>bif decide (D<F) then J (aa .i64 (D+F))<|J (0<=(1:Int))<|J (aa .i64 (M - (hf (D+F))))<|J (0<=(M - (hf (D+F)))/\(M - (hf (D+F)))<L.length)<|(L[(M - (hf (D+F))).toNat]?).bind λan=>J (0<=(hf (D+F))/\(hf (D+F))<L.length)<|(L[(hf (D+F)).toNat]?).bind λar=>(qg an ar).bind λah=>bif !(decide (ah<0)) then J (aa .i64 ((hf (D+F))+1))<|some (.inl (U,Y,Z,N,O,((hf (D+F))+1),F,M,L,())) else some (.inl (U,Y,Z,N,O,D,(hf (D+F)),M,L,())) else some (.inr (U,Y,Z,N,O,D,L,()))
def O5 (rc:Bx) (L:Int) (F:Int) (N:Int) (l:dq):lr:=J (aa .i64 (F - L))<|bif decide ((F - L)=1) then(ab (O7 rc) (L,F,N,l,())).bind λ(a,b,q,_)=>(ab (VP rc) (b,a,q,())).bind λ(q,_)=>some q else J (aa .i64 (N - F))<|bif decide ((N - F)=1) then(ab (O6 rc) (F,L,F,l,())).bind λ(a,b,q,_)=>(ab (VN rc) (b,a,q,())).bind λ(q,_)=>some q else J (aa .i64 (L+N))<|J (0<=(1:Int))<|let M:Int:=hf (L+N);let K:Int×Int×Int×Int×Int×Int×List (Int×Int×Int×Int×Int)×Unit->Option (List (Int×Int×Int×Int×Int)):=λ(U,Z,Y,O,z2,z3,o,_)=>J (aa .i64 (z2 - z3))<|let w:Int:=z2 - z3;let D0:List (Int×Int×Int×Int×Int)->Option (List (Int×Int×Int×Int×Int)):=λq=>bif decide (O<w) then(bif decide (w<Y) then(rc O w Y q).bind λs=>some s else some q) else some q;let D:List (Int×Int×Int×Int×Int)->List (Int×Int×Int×Int×Int)->Option (List (Int×Int×Int×Int×Int)):=λp q=>bif decide (O<w) then(bif decide (w<Y) then J (p.length=q.length)<|(rc O w Y q).bind λs=>some s else some q) else some q;let E0:List (Int×Int×Int×Int×Int)->Option (List (Int×Int×Int×Int×Int)):=λq=>bif decide (U<z3) then(bif decide (z3<O) then(rc U z3 O q).bind λs=>D q s else D0 q) else D0 q;let E:List (Int×Int×Int×Int×Int)->List (Int×Int×Int×Int×Int)->Option (List (Int×Int×Int×Int×Int)):=λp q=>bif decide (U<z3) then(bif decide (z3<O) then J (p.length=q.length)<|(rc U z3 O q).bind λs=>D q s else D p q) else D p q;bif decide (z3<Z) then(bif decide (Z<w) then(It z3 Z w o).bind λr=>E o r else E0 o) else E0 o;J (aa .i64 (M+F))<|bif decide (M<F) then J (aa .i64 ((M+F) - N))<|J (aa .i64 ((M+F) - 1))<|(ab (Ip rc) (L,F,N,M,(M+F),((M+F) - N),M,((M+F) - 1),l,())).bind K else J (aa .i64 ((M+F) - 1))<|(ab (Ip rc) (L,F,N,M,(M+F),L,F,((M+F) - 1),l,())).bind K
def Io (rc:q7->lr):q7->lr:=λx=>O5 (λa0 D a2 a3=>rc (a0,D,a2,a3,())) x.1 x.2.1 x.2.2.1 x.2.2.2.1
def Pa (a0:Int) (D:Int) (a2:Int) (a3:dq):lr:=ou Io (a0,D,a2,a3,())
def Pd:Lp sE q7:=λ(F,D,M,b,L,_)=>bif decide (b<=F) then(CB M b L).bind λN=>J (aa .i64 (b+D))<|J (L.length=N.length)<|some (.inl (F,D,b,(b+D),N,())) else some (.inr (F,D,M,L,()))
def Pc:Lp sE q7:=λ(M,D,L,F,N,_)=>bif decide (F<=M) then J (aa .i64 (L+D))<|(Pa L (L+D) F N).bind λO=>J (aa .i64 (2*D))<|J (aa .i64 (F+(2*D)))<|J (N.length=O.length)<|some (.inl (M,D,F,(F+(2*D)),O,())) else some (.inr (M,D,L,N,()))
def Pb:Lp nF ng:=λ(O,L,U,_)=>bif decide (L<O) then J (aa .i64 (2*L))<|(ab Pc (O,L,0,(2*L),U,())).bind λ(M,D,F,N,_)=>J (aa .i64 (F+D))<|bif decide ((F+D)<M) then(Pa F (F+D) M N).bind λY=>J (aa .i64 (D*2))<|J (N.length=Y.length)<|some (.inl (M,(D*2),Y,())) else J (aa .i64 (D*2))<|some (.inl (M,(D*2),N,())) else some (.inr (U,()))
def Is (n:Int) (l:dq):lr:=(ab Pd (n,20,0,20,l,())).bind λ(F,N,M,L,_)=>(CB M F L).bind λD=>(J (L.length=D.length)<|ab Pb (F,N,D,())).bind λ(O,_)=>some O
def ya (l:dq):lr:=(Is (l.length:Int) l).bind λD=>some D
def Jh:Lp (cS×Int×bF×sE) (cS×bF×nF):=λ(Y,L,M,N,O,U,D,F,_)=>bif decide (D<U) then J (F.length+([(2,L,D,0,0)]:dq).length<=1000000000)<|J (aa .i64 (D+1))<|some (.inl (Y,L,M,N,O,U,(D+1),(F++([(2,L,D,0,0)]:dq)),())) else some (.inr (Y,M,N,O,F,()))
def Jg:Lp (cS×bF×nF) (cS×ng):=λ(O,L,M,D,F,_)=>bif decide (D<M) then(ag L D).bind λah=>J (F.length+([(1,D,0,0,0)]:dq).length<=1000000000)<|(ab Jh (O,D,L,M,D,(ah.2.2.length:Int),0,(F++([(1,D,0,0,0)]:dq)),())).bind λ(an,Y,Z,N,U,_)=>J (aa .i64 (N+1))<|some (.inl (an,Y,Z,(N+1),U,())) else some (.inr (O,F,()))
def Jf:Lp (cS×nF) ng:=λ(M,O,D,F,_)=>bif decide (D<O) then(yy M D).bind λL=>J (F.length+L.length<=1000000000)<|(yF M D).bind λsg=>J ((F++L).length+sg.length<=1000000000)<|(yp M D).bind λN=>J (((F++L)++sg).length+N.length<=1000000000)<|J (aa .i64 (D+1))<|some (.inl (M,O,(D+1),(((F++L)++sg)++N),())) else some (.inr (F,()))
def nK (x:cS):lr:=(ab Jg (x,x.2.1,(x.2.1.length:Int),0,[],())).bind λ(L,M,_)=>(ab Jf (L,(L.1.length:Int),0,M,())).bind λ(D,_)=>(ya D).bind λF=>J (D.length=F.length)<|some F
def Kr:Lp (eE×Int×Int×p6×UA) (eE×UA):=λ(O,U,Y,Z,ah,D,F,M,N,_)=>bif decide (D<ah) then(ag Z D).bind λan=>(tz an.2).bind λL=>J (F.length+L.length<=1000000000)<|J (aa .i64 (D+1))<|some (.inl (O,U,Y,Z,ah,(D+1),(F++L),M,N,())) else some (.inr (O,U,Y,F,M,N,()))
def Kq:Lp (eE×UA) (aS×eE×GD):=λ(U,Y,F,D,N,O,_)=>bif decide (F<Y) then(ag U F).bind λL=>(tz L.1.2.2.2.2.2.2.1).bind λM=>J (D.length+M.length<=1000000000)<|(ab Kr (U,Y,F,L.1.2.2.2.2.2.2.2,(L.1.2.2.2.2.2.2.2.length:Int),0,(D++M),N,O,())).bind λ(av,az,Z,ah,an,ar,_)=>J (aa .i64 (Z+1))<|some (.inl (av,az,(Z+1),ah,an,ar,())) else some (.inr (D,N,O,()))
def zF (x:eE) (O:bF):Option (cS×eD⊕eD):=(DI O).bind λU=>(ab Kq (x,(x.length:Int),0,U,x,O,())).bind λ(M,F,L,_)=>(vV M).bind λN=>J (M.length=N.length)<|(CY N).bind λD=>(oR (F,L,D)).bind λZ=>bif decide (400<Z) then some (.inr (2,())) else(nK (F,L,D)).bind λY=>bif decide (8000<(Y.length:Int)) then some (.inr (2,())) else some (.inl ((F,L,D),0,()))
def CX:Lp (dq×Int×Nz) jr:=λ(L,Z,F,M,N,O,U,Y,_)=>bif decide (F<Z) then(ag L F).bind λD=>bif (decide (M=D.1)&&(decide (N=D.2.1)&&(decide (O=D.2.2.1)&&(decide (U=D.2.2.2.1)&&decide (Y=D.2.2.2.2))))) then some (.inr (.inr (F,()))) else J (aa .i64 (F+1))<|some (.inl (L,Z,(F+1),M,N,O,U,Y,())) else some (.inr (.inl (())))
def PQ (s:dq) (v:kL):bH:=(ab CX (s,(s.length:Int),0,v.1,v.2.1,v.2.2.1,v.2.2.2.1,v.2.2.2.2,())).bind λo=>match o with|.inl (_)=>some (-1)|.inr (D,_)=>some D
def nH (s:dq) (v:kL):bz:=(PQ s v).bind λD=>some (decide (0<=D))
def lK (x:cS) (D:kL):bz:=bif decide (D.1<1) then some false else bif decide (9<D.1) then some false else bif decide (D.1=1) then(nK x).bind λY=>(nH Y D).bind λF=>some F else bif decide (D.1=2) then(nK x).bind λZ=>(nH Z D).bind λJ=>some J else bif decide (D.2.1<0) then some false else bif decide ((x.1.length:Int)<=D.2.1) then some false else bif decide (D.1=4) then(yy x D.2.1).bind λar=>(nH ar D).bind λL=>some L else bif decide (D.1=5) then(yy x D.2.1).bind λav=>(nH av D).bind λM=>some M else bif decide (D.1=3) then(yF x D.2.1).bind λsg=>(nH sg D).bind λN=>some N else bif decide (D.1=9) then(yF x D.2.1).bind λan=>(nH an D).bind λO=>some O else(yp x D.2.1).bind λah=>(nH ah D).bind λU=>some U
def I5:Lp xn gV:=λ(L,D,F,_)=>bif decide (D<L) then J (0<=D/\D<F.length)<|(F[D.toNat]?).bind λy=>J (aa .i64 (y+1))<|J (0<=D/\D<F.length)<|(F[D.toNat]?).bind λq=>J (aa .i64 (D+1))<|some (.inl (L,(D+1),(F.set D.toNat (y+1)),())) else some (.inr (F,()))
def C' (c:cS) (n:pL):nh:=(zJ c.1 n).bind λD=>(ab I5 ((D.length:Int),0,D,())).bind λ(F,_)=>some F
def D4 (a:iw) (b:iw):bH:=(rI a.1 b.1).bind λD=>bif !decide (D=0) then some D else(rI a.2 b.2).bind λF=>some F
def CH:Lp (aS×Int×Int×GH) (aS×Int×GH):=λ(M,N,D,j,F,L,_)=>bif decide (D<j) then J (aa .i64 (D+j))<|J (0<=(1:Int))<|(ag M (hf (D+j))).bind λU=>(D4 U (F,L)).bind λO=>bif decide (O<0) then J (aa .i64 ((hf (D+j))+1))<|some (.inl (M,N,((hf (D+j))+1),j,F,L,())) else some (.inl (M,N,D,(hf (D+j)),F,L,())) else some (.inr (M,N,D,F,L,()))
def Ir (x:aS) (target:iw):sG:=(ab CH (x,(x.length:Int),0,(x.length:Int),target.1,target.2,())).bind λ(O,F,D,L,M,_)=>bif decide (D<F) then(ag O D).bind λN=>(D4 N (L,M)).bind λJ=>some (D,decide (J=0)) else some (D,false)
def qe (c:cS) (x:iw):bH:=(Ir c.2.2 x).bind λD=>bif !D.2 then some 0 else J (aa .i64 ((c.1.length:Int)+D.1))<|J (aa .i64 (((c.1.length:Int)+D.1)+1))<|some (((c.1.length:Int)+D.1)+1)
def yI (c:cS) (n:pL) (k:Int):bH:=(ag n.2.2 k).bind λF=>(qe c (n.1,F)).bind λD=>some D
def C1 (c:cS) (f:kL):Option (ae×bF):=(ag c.1 f.2.1).bind λD=>(ag c.2.2 f.2.2.1).bind λJ=>(qb D.1 J.2).bind λF=>(ag D.1.2.2.2.2.2.2.2 F).bind λL=>some L
def Da:Lp xn gV:=λ(L,D,F,_)=>bif decide (D<L) then J (0<=D/\D<F.length)<|(F[D.toNat]?).bind λy=>J (aa .i64 (y+1))<|J (0<=D/\D<F.length)<|(F[D.toNat]?).bind λq=>J (aa .i64 (D+1))<|some (.inl (L,(D+1),(F.set D.toNat (y+1)),())) else some (.inr (F,()))
def JJ (c:cS) (n:pL):nh:=(zJ c.1 n).bind λD=>(ab Da ((D.length:Int),0,D,())).bind λ(F,_)=>some F
def fg (x:cS) (D:kL):UE:=(lK x D).bind λa7=>bif !a7 then some ([],false) else J (aa .i64 (D.2.1+1))<|J (aa .i64 (0 - (D.2.1+1)))<|bif decide (D.1=1) then(ag x.2.1 D.2.1).bind λbp=>(C' x bp).bind λa6=>(mC a6).bind λZ=>some (Z.1,true) else bif decide (D.1=2) then(ag x.2.1 D.2.1).bind λbx=>(yI x bx D.2.2.1).bind λN=>some (([N]:aA),true) else bif decide (D.1=3) then J (aa .i64 (D.2.2.1+1))<|J (aa .i64 (0 - (D.2.2.1+1)))<|(mC ([(0 - (D.2.1+1)),(0 - (D.2.2.1+1))]:aA)).bind λah=>some (ah.1,true) else bif decide (D.1=4) then(ag x.1 D.2.1).bind λb0=>(ag b0.1.2.2.2.2.2.2.1 D.2.2.1).bind λb1=>(C' x b1).bind λL=>J (L.length+([(0 - (D.2.1+1))]:aA).length<=1000000000)<|(mC (L++([(0 - (D.2.1+1))]:aA))).bind λan=>some (an.1,true) else bif decide (D.1=5) then(ag x.1 D.2.1).bind λb2=>(ag b2.1.2.2.2.2.2.2.1 D.2.2.1).bind λb3=>(yI x b3 D.2.2.2.1).bind λO=>(mC ([(0 - (D.2.1+1)),O]:aA)).bind λar=>some (ar.1,true) else bif decide (D.1=9) then J (aa .i64 (D.2.2.2.1+1))<|J (aa .i64 (0 - (D.2.2.2.1+1)))<|(mC ([(0 - (D.2.1+1)),(0 - (D.2.2.2.1+1))]:aA)).bind λav=>some (av.1,true) else J (aa .i64 ((x.1.length:Int)+D.2.2.1))<|J (aa .i64 (((x.1.length:Int)+D.2.2.1)+1))<|J (aa .i64 (0 - (((x.1.length:Int)+D.2.2.1)+1)))<|bif decide (D.1=7) then(C1 x D).bind λU=>(ag U.2 D.2.2.2.1).bind λa8=>(JJ x a8).bind λM=>J (([(0 - (D.2.1+1)),(0 - (((x.1.length:Int)+D.2.2.1)+1))]:aA).length+M.length<=1000000000)<|(mC (([(0 - (D.2.1+1)),(0 - (((x.1.length:Int)+D.2.2.1)+1))]:aA)++M)).bind λaz=>some (az.1,true) else bif decide (D.1=8) then(C1 x D).bind λY=>(ag Y.2 D.2.2.2.1).bind λbb=>(yI x bb D.2.2.2.2).bind λF=>J (([(0 - (D.2.1+1)),(0 - (((x.1.length:Int)+D.2.2.1)+1))]:aA).length+([F]:aA).length<=1000000000)<|(mC (([(0 - (D.2.1+1)),(0 - (((x.1.length:Int)+D.2.2.1)+1))]:aA)++([F]:aA))).bind λaE=>some (aE.1,true) else(mC ([(0 - (D.2.1+1)),(0 - (((x.1.length:Int)+D.2.2.1)+1))]:aA)).bind λa1=>some (a1.1,true)
def Mg (op:Int) (v:pN):Option pN:=let D:Option pN:=bif decide (op=6) then J (aa .i64 (v.2.1+1))<|some (v.1,(v.2.1+1),0,[]) else bif decide (0<v.2.1) then J (aa .i64 (v.2.1+1))<|some (v.1,(v.2.1+1),0,[]) else J (aa .i64 (v.2.2.1+1))<|some (v.1,v.2.1,(v.2.2.1+1),[]);bif decide (op=7) then bif decide (0<v.1) then J (aa .i64 (v.1+1))<|some ((v.1+1),0,0,[]) else D else D
def Lt (c:Int×pN) (v:pN):bz:=(tA v c.2).bind λD=>bif decide (c.1=0) then some (decide (D=0)) else bif decide (c.1=1) then some (!decide (D=0)) else bif decide (c.1=2) then some (decide (D<0)) else bif decide (c.1=3) then some (decide (D<=0)) else bif decide (c.1=4) then some (decide (0<D)) else bif decide (c.1=5) then some (decide (0<=D)) else bif decide (c.1=8) then some true else bif decide (0<=D) then(Mg c.1 c.2).bind λJ=>(tA v J).bind λF=>some (decide (F<0)) else some false
def Fc:Lp (kM×Int×Bool×Bool×Int×oI) (kM×Int×Bool×Bool×oI):=λ(Y,U,av,ar,D,M,N,L,Z,_)=>let ah:Option (kM×Int×Bool×Bool×Int×oI⊕kM×Int×Bool×Bool×oI):=J (aa .i64 (D+1))<|some (.inl (Y,U,false,ar,(D+1),M,N,L,Z,()));let an:Bool->Option (kM×Int×Bool×Bool×Int×oI⊕kM×Int×Bool×Bool×oI):=λO=>J (aa .i64 (D+1))<|some (.inl (Y,U,O,ar,(D+1),M,N,L,Z,()));(ag Y U).bind λaz=>bif decide (D<(az.length:Int)) then(ag Y U).bind λaE=>(ag aE D).bind λF=>bif av then(Lt F (M,N,L,Z)).bind λO=>bif decide (0<(F.2.2.2.2.length:Int)) then bif decide (F.2.1=M) then bif decide (F.2.2.1=N) then bif decide (F.2.2.2.1=L) then J (aa .i64 (D+1))<|some (.inl (Y,U,O,true,(D+1),M,N,L,Z,())) else an O else an O else an O else an O else bif decide (0<(F.2.2.2.2.length:Int)) then bif decide (F.2.1=M) then bif decide (F.2.2.1=N) then bif decide (F.2.2.2.1=L) then J (aa .i64 (D+1))<|some (.inl (Y,U,false,true,(D+1),M,N,L,Z,())) else ah else ah else ah else ah else some (.inr (Y,U,av,ar,M,N,L,Z,()))
def Lu:Lp (kM×Int×oI) jq:=λ(Y,U,x3,ah,an,O,_)=>bif decide (U<(Y.length:Int)) then(ab Fc (Y,U,true,decide ((O.length:Int)=0),0,x3,ah,an,O,())).bind λ(Z,D,ar,av,F,L,M,N,_)=>bif ar then bif av then some (.inr (.inr (()))) else J (aa .i64 (D+1))<|some (.inl (Z,(D+1),F,L,M,N,())) else J (aa .i64 (D+1))<|some (.inl (Z,(D+1),F,L,M,N,())) else some (.inr (.inl (())))
def FV (x:kM) (D:pN):bz:=(ab Lu (x,0,D.1,D.2.1,D.2.2.1,D.2.2.2,())).bind λo=>match o with|.inl (_)=>some false|.inr (_)=>some true
def Ey:Lp (ae×Int×ae×ae×ae×ae×Bool×aK×aK×oK×Unit) jr:=λ(F,i,L,M,N,O,U,Y,Z,D,_)=>bif decide (i<(D.length:Int)) then(ag D i).bind λah=>bif decide (ah.1=F) then some (.inr (.inr (i,()))) else J (aa .i64 (i+1))<|some (.inl (F,(i+1),L,M,N,O,U,Y,Z,D,())) else some (.inr (.inl (())))
def tM (e:xR) (s:ae):bH:=(ab Ey (s,0,e.1,e.2.1,e.2.2.1,e.2.2.2.1,e.2.2.2.2.1,e.2.2.2.2.2.1,e.2.2.2.2.2.2.1,e.2.2.2.2.2.2.2,())).bind λo=>match o with|.inl (_)=>some (-1)|.inr (D,_)=>some D
def yq:Lp (aS×Int×GH) jr:=λ(F,O,D,L,M,_)=>bif decide (D<O) then(ag F D).bind λN=>bif (decide (L=N.1)&&decide (M=N.2)) then some (.inr (.inr (D,()))) else J (aa .i64 (D+1))<|some (.inl (F,O,(D+1),L,M,())) else some (.inr (.inl (())))
def PO (s:aS) (v:iw):bH:=(ab yq (s,(s.length:Int),0,v.1,v.2,())).bind λo=>match o with|.inl (_)=>some (-1)|.inr (D,_)=>some D
def IZ (s:aS) (v:iw):bz:=(PO s v).bind λD=>some (decide (0<=D))
def CN:Lp (bF×Int×Int×aD×Int×Int×ae×jY×aD×NM) (bF×Int×Int×NM):=λ(az,ah,an,ar,av,F,D,aE,a1,O,U,Y,L,Z,N,_)=>bif decide (F<av) then(ag ar F).bind λM=>(IZ L (D,M)).bind λa6=>bif !a6 then J (L.length+([(D,M)]:aS).length<=1000000000)<|J (N.length+([((D,M),false)]:rD).length<=1000000000)<|J (aa .i64 (F+1))<|some (.inl (az,ah,an,ar,av,(F+1),D,aE,a1,O,U,Y,(L++([(D,M)]:aS)),Z,(N++([((D,M),false)]:rD)),())) else J (aa .i64 (F+1))<|some (.inl (az,ah,an,ar,av,(F+1),D,aE,a1,O,U,Y,L,Z,N,())) else some (.inr (az,ah,an,O,U,Y,L,Z,N,()))
def IP:Lp (bF×Int×Int×NM) NM:=λ(x9,Z,N,U,Y,F,O,L,M,_)=>bif decide (N<Z) then(ag x9 N).bind λD=>J (L.length+([D]:bF).length<=1000000000)<|(p8 F D.1).bind λar=>bif !ar then J (F.length+([D.1]:aD).length<=1000000000)<|J (M.length+([((D.1,[]),true)]:rD).length<=1000000000)<|(ab CN (x9,Z,N,D.2.2,(D.2.2.length:Int),0,D.1,D.2.1,D.2.2,U,Y,(F++([D.1]:aD)),O,(L++([D]:bF)),(M++([((D.1,[]),true)]:rD)),())).bind λ(a6,aE,ah,av)=>J (aa .i64 (ah+1))<|some (.inl (a6,aE,(ah+1),av)) else(ab CN (x9,Z,N,D.2.2,(D.2.2.length:Int),0,D.1,D.2.1,D.2.2,U,Y,F,O,(L++([D]:bF)),M,())).bind λ(a7,a1,an,az)=>J (aa .i64 (an+1))<|some (.inl (a7,a1,(an+1),az)) else some (.inr (U,Y,F,O,L,M,()))
def vz (D:bF) (o:eE) (l:aA) (F:aD) (J:aS) (L:bF) (M:rD):adb:=(ab IP (D,(D.length:Int),0,o,l,F,J,L,M,())).bind λ(N,O,U,Y,Z,ah,_)=>some (N,O,U,Y,Z,ah)
def yR:Lp (eE×ae×uH) jr:=λ(F,L,O,M,D,_)=>bif decide (D<M) then(ag O D).bind λN=>bif decide (0<=N) then bif decide (N<(F.length:Int)) then(ag F N).bind λU=>bif decide (U.1.1=L) then some (.inr (.inr (N,()))) else J (aa .i64 (D+1))<|some (.inl (F,L,O,M,(D+1),())) else J (aa .i64 (D+1))<|some (.inl (F,L,O,M,(D+1),())) else J (aa .i64 (D+1))<|some (.inl (F,L,O,M,(D+1),())) else some (.inr (.inl (())))
def Ko (D:eE) (choice:aA) (s:ae):bH:=(ab yR (D,s,choice,(choice.length:Int),0,())).bind λo=>match o with|.inl (_)=>some (-1)|.inr (F,_)=>some F
def I4 (t:iw×Bool) (o:eE) (l:aA) (L:aD) (M:aS) (N:bF) (O:rD):adb:=(Ko o l t.1.1).bind λJ=>bif decide (J<0) then some (o,l,L,M,N,O) else bif t.2 then(ag o J).bind λan=>(vz an.1.2.2.2.2.2.2.1 o l L M N O).bind λD=>some (D.1,D.2.1,D.2.2.1,D.2.2.2.1,D.2.2.2.2.1,D.2.2.2.2.2) else(ag o J).bind λY=>(qb Y.1 t.1.2).bind λU=>bif decide (0<=U) then(ag o J).bind λZ=>(ag Z.1.2.2.2.2.2.2.2 U).bind λah=>(vz ah.2 o l L M N O).bind λF=>some (F.1,F.2.1,F.2.2.1,F.2.2.2.1,F.2.2.2.2.1,F.2.2.2.2.2) else some (o,l,L,M,N,O)
def DH:Lp (Int×adi) adi:=λ(at_,U,M,N,O,F,L,_)=>bif decide (at_<(F.length:Int)) then J (0<=at_/\at_<F.length)<|(F[at_.toNat]?).bind λy=>(I4 y U L M N O F).bind λD=>J (aa .i64 (at_+1))<|some (.inl ((at_+1),D.1,D.2.2.1,D.2.2.2.1,D.2.2.2.2.1,D.2.2.2.2.2,D.2.1,())) else some (.inr (U,M,N,O,F,L,()))
def zh:Lp (Int×ae×ae×jz) (ae×ae×jz⊕jz):=λ(i,F,L,D,_)=>bif decide (i<(D.length:Int)) then J (0<=i/\i<D.length)<|(D[i.toNat]?).bind λy=>bif (decide (y.1=F)&&decide (y.2=L)) then some (.inr (.inr (D,()))) else J (aa .i64 (i+1))<|some (.inl ((i+1),F,L,D,())) else some (.inr (.inl (F,L,D,())))
def vX (t:iw) (l:aS):Bs:=(ab zh (0,t.1,t.2,l,())).bind λM=>match M with|.inl (F,L,D,_)=>J (D.length+([(F,L)]:aS).length<=1000000000)<|some (D++([(F,L)]:aS))|.inr (N,_)=>some N
def PE:Lp (aK×Int×Int×pP) (aK×Int×pP):=λ(F,D,k,L,M,_)=>(ag F D).bind λO=>bif decide (k<(O.2.2.length:Int)) then(ag F D).bind λU=>(ag F D).bind λY=>(ag Y.2.2 k).bind λZ=>(vX (U.1,Z) M).bind λN=>J (aa .i64 (k+1))<|some (.inl (F,D,(k+1),L,N,())) else some (.inr (F,D,L,M,()))
def PD:Lp (aK×Int×pP) pP:=λ(D,i,F,M,_)=>bif decide (i<(D.length:Int)) then(ag D i).bind λN=>J (F.length+([N]:aK).length<=1000000000)<|(ag D i).bind λah=>(vX (ah.1,[]) M).bind λU=>(ab PE (D,i,0,(F++([N]:aK)),U,())).bind λ(O,L,Y,Z,_)=>J (aa .i64 (L+1))<|some (.inl (O,(L+1),Y,Z,())) else some (.inr (F,M,()))
def Jk (l:aK):Option (aK×aS):=(ab PD (l,0,[],[],())).bind λ(D,F,_)=>some (D,F)
def yZ:Lp (bK×aA×lu) jr:=λ(D,F,L,i,_)=>bif decide (i<(F.length:Int)) then(ag F i).bind λM=>bif decide (0<=M) then bif decide (M<(D.length:Int)) then(ag D M).bind λN=>bif decide (N.1.1=L) then some (.inr (.inr (M,()))) else J (aa .i64 (i+1))<|some (.inl (D,F,L,(i+1),())) else J (aa .i64 (i+1))<|some (.inl (D,F,L,(i+1),())) else J (aa .i64 (i+1))<|some (.inl (D,F,L,(i+1),())) else some (.inr (.inl (())))
def qj (D:bK) (choice:aA) (s:ae):bH:=(ab yZ (D,choice,s,0,())).bind λo=>match o with|.inl (_)=>some (-1)|.inr (F,_)=>some F
def LR (D:bK) (choice:aA) (t:iw):Option aK:=(qj D choice t.1).bind λF=>bif decide (F<0) then some [] else bif decide (t.2=[]) then(ag D F).bind λL=>some L.1.2.2.2.2.2.2.1 else(ag D F).bind λM=>(tM M.1 t.2).bind λJ=>bif decide (J<0) then some [] else(ag D F).bind λN=>(ag N.1.2.2.2.2.2.2.2 J).bind λO=>some O.2
def yE:Lp (aK×Int×Int×Bz) (aK×Int×Bz):=λ(F,D,k,L,M,_)=>(ag F D).bind λO=>bif decide (k<(O.2.2.length:Int)) then(ag F D).bind λU=>(ag F D).bind λY=>(ag Y.2.2 k).bind λZ=>(vX (U.1,Z) L).bind λN=>J (aa .i64 (k+1))<|some (.inl (F,D,(k+1),N,M,())) else some (.inr (F,D,L,M,()))
def yD:Lp (aK×Int×Bz) Bz:=λ(D,i,M,F,_)=>bif decide (i<(D.length:Int)) then(ag D i).bind λN=>J (F.length+([N]:aK).length<=1000000000)<|(ag D i).bind λah=>(vX (ah.1,[]) M).bind λU=>(ab yE (D,i,0,U,(F++([N]:aK)),())).bind λ(O,L,Y,Z,_)=>J (aa .i64 (L+1))<|some (.inl (O,(L+1),Y,Z,())) else some (.inr (M,F,()))
def yK (l:aK) (D:aS) (F:aK):Option (aS×aK):=(ab yD (l,0,D,F,())).bind λ(J,L,_)=>some (J,L)
def D':Lp (bK×aA×Int×pP) pP:=λ(F,L,at_,N,D,_)=>bif decide (at_<(D.length:Int)) then J (0<=at_/\at_<D.length)<|(D[at_.toNat]?).bind λy=>(LR F L y).bind λO=>(yK O D N).bind λM=>J (aa .i64 (at_+1))<|some (.inl (F,L,(at_+1),M.2,M.1,())) else some (.inr (N,D,()))
def tF (F:bK) (roots:aK) (choice:aA):Option (aS×aK):=(Jk roots).bind λD=>(ab D' (F,choice,0,D.1,D.2,())).bind λ(J,L,_)=>some (L,J)
def Dq:Lp (Int×aS×aK×jS) jS:=λ(i,D,L,F,_)=>bif decide (i<(D.length:Int)) then(ag D i).bind λN=>bif decide (N.2=[]) then(ag D i).bind λM=>J (F.length+([M.1]:aD).length<=1000000000)<|J (aa .i64 (i+1))<|some (.inl ((i+1),D,L,(F++([M.1]:aD)),())) else J (aa .i64 (i+1))<|some (.inl ((i+1),D,L,F,())) else some (.inr (F,()))
def yN (t:aS×aK):xk:=(ab Dq (0,t.1,t.2,[],())).bind λ(D,_)=>some D
def wq (span:ae) (v:ae):bz:=(zU span).bind λD=>(qn v).bind λF=>bif D.2 then bif F.2 then(FV D.1 F.1).bind λJ=>some J else some false else some false
def y5:Lp (bK×aA×Int×aK×eD) (bK×sI⊕Unit):=λ(D,F,L,l,k,_)=>bif decide (k<(l.length:Int)) then(ag l k).bind λO=>(qj D F O.1).bind λM=>bif decide (0<=M) then(ag l k).bind λU=>(ag D M).bind λY=>(wq U.2.1 Y.1.2.1).bind λN=>bif N then some (.inr (.inr (()))) else J (aa .i64 (k+1))<|some (.inl (D,F,L,l,(k+1),())) else J (aa .i64 (k+1))<|some (.inl (D,F,L,l,(k+1),())) else some (.inr (.inl (D,F,L,())))
def vM:Lp (bK×sI) jq:=λ(F,D,i,_)=>bif decide (i<(D.length:Int)) then(ag D i).bind λO=>(ag F O).bind λU=>(ab y5 (F,D,i,U.1.2.2.2.2.2.1,0,())).bind λo=>match o with|.inl (M,N,L,_)=>J (aa .i64 (L+1))<|some (.inl (M,N,(L+1),()))|.inr (_)=>some (.inr (.inr (()))) else some (.inr (.inl (())))
def Ez (D:bK) (choice:aA):bz:=(ab vM (D,choice,0,())).bind λF=>match F with|.inl (_)=>some false|.inr (_)=>some true
def yP:Lp (aA×Int×aS×aK×pM) (aA×aS×aK×pM⊕pM):=λ(O,D,U,L,F,M,N,_)=>bif decide (D<(L.length:Int)) then(ag L D).bind λah=>(qj F O ah.1).bind λY=>bif decide (0<=Y) then(ag L D).bind λan=>(ag F Y).bind λar=>(wq an.2.1 ar.1.2.1).bind λZ=>bif !Z then some (.inr (.inr (F,M,N,()))) else J (aa .i64 (D+1))<|some (.inl (O,(D+1),U,L,F,M,N,())) else J (aa .i64 (D+1))<|some (.inl (O,(D+1),U,L,F,M,N,())) else some (.inr (.inl (O,U,L,F,M,N,())))
def yO:Lp (aA×Int×aS×aK×pM) (aA×pM⊕pM):=λ(O,D,L,U,F,M,N,_)=>bif decide (D<(L.length:Int)) then(ag L D).bind λan=>(qj F O an.1).bind λY=>bif decide (0<=Y) then(ag L D).bind λar=>bif !decide (ar.2=[]) then(ag F Y).bind λav=>(ag L D).bind λah=>(tM av.1 ah.2).bind λZ=>bif decide (Z<0) then some (.inr (.inr (F,M,N,()))) else J (aa .i64 (D+1))<|some (.inl (O,(D+1),L,U,F,M,N,())) else J (aa .i64 (D+1))<|some (.inl (O,(D+1),L,U,F,M,N,())) else J (aa .i64 (D+1))<|some (.inl (O,(D+1),L,U,F,M,N,())) else some (.inr (.inl (O,F,M,N,())))
def Kh (J:aA) (o:uL):Option (Bool×uL):=(tF o.1 o.2.1 J).bind λF=>(ab yP (J,0,F.1,F.2,o.1,o.2.1,o.2.2,())).bind λM=>match M with|.inl (a6,a8,bb,N,O,U,_)=>((ab yO (a6,0,a8,bb,N,O,U,())).bind λY=>match Y with|.inl (a7,D,Z,ah,_)=>(Ez D a7).bind λL=>some (L,(D,Z,ah))|.inr (an,ar,av,_)=>some (true,(an,ar,av)))|.inr (az,aE,a1,_)=>some (true,(az,aE,a1))
def Kg:Lp (aA×uH) (aA×uH):=λ(L,M,F,D,_)=>bif decide (0<D) then J (aa .i64 (D - 1))<|(ag M (D - 1)).bind λN=>(ag L F).bind λO=>bif decide (O<N) then J (aa .i64 (D - 1))<|some (.inl (L,M,F,(D - 1),())) else some (.inr (L,M,F,D,())) else some (.inr (L,M,F,D,()))
def DV:Lp (aA×sI) gV:=λ(O,M,i,_)=>bif decide (i<(O.length:Int)) then(ab Kg (O,M,i,(M.length:Int),())).bind λ(U,D,L,F,_)=>J (0<=(0:Int)/\(0:Int)<=F/\F<=D.length)<|J (((D.take F.toNat).drop (0:Int).toNat).length<=1000000000)<|(ag U L).bind λN=>J (((D.take F.toNat).drop (0:Int).toNat).length+([N]:aA).length<=1000000000)<|J (0<=F/\F<=(D.length:Int)/\(D.length:Int)<=D.length)<|J ((((D.take F.toNat).drop (0:Int).toNat)++([N]:aA)).length+((D.take (D.length:Int).toNat).drop F.toNat).length<=1000000000)<|J (aa .i64 (L+1))<|some (.inl (U,((((D.take F.toNat).drop (0:Int).toNat)++([N]:aA))++((D.take (D.length:Int).toNat).drop F.toNat)),(L+1),())) else some (.inr (M,()))
def K2 (l:aA):nh:=(ab DV (l,[],0,())).bind λ(D,_)=>some D
def JQ (rc:UC):Lp (aA×aD×ae×Int×pM) (aA×ae×pM):=λ(L,M,U,D,F,N,O,_)=>bif decide (0<=D) then(ag M D).bind λZ=>(qj F L Z).bind λY=>bif decide (Y<0) then(ag M D).bind λah=>J (aa .i64 (D - 1))<|some (.inl (L,M,ah,(D - 1),F,N,O,())) else J (aa .i64 (D - 1))<|some (.inl (L,M,U,(D - 1),F,N,O,())) else some (.inr (L,U,F,N,O,()))
def qc (rc:UC):Lp (aA×ae×Int×pM) (pM⊕aA×pM):=λ(M,U,F,L,N,O,_)=>bif decide (F<(L.length:Int)) then(ag L F).bind λY=>bif !decide (Y.1.1=U) then J (aa .i64 (F+1))<|some (.inl (M,U,(F+1),L,N,O,())) else J (M.length<=1000000000)<|J (M.length+([F]:aA).length<=1000000000)<|(rc (M++([F]:aA)) (L,N,O)).bind λD=>bif D.2.1 then some (.inr (.inr (D.1,D.2.2.1,D.2.2.2.1,D.2.2.2.2,()))) else J (aa .i64 (F+1))<|some (.inl (M,U,(F+1),D.2.2.1,D.2.2.2.1,D.2.2.2.2,())) else some (.inr (.inl (L,N,O,())))
def yL (rc:UC) (L:aA) (o:uL):Ib:=J (aa .i64 (o.2.2 - 1))<|bif decide ((o.2.2 - 1)<0) then some ([],false,(o.1,o.2.1,(o.2.2 - 1))) else(Kh L (o.1,o.2.1,(o.2.2 - 1))).bind λD=>bif D.1 then some ([],false,D.2) else(tF D.2.1 D.2.2.1 L).bind λa1=>(yN a1).bind λF=>J (aa .i64 ((F.length:Int) - 1))<|(ab (JQ rc) (L,F,[],((F.length:Int) - 1),D.2.1,D.2.2.1,D.2.2.2,())).bind λ(U,Y,M,N,O,_)=>bif decide (Y=[]) then(K2 U).bind λa6=>some (a6,true,(M,N,O)) else(ab (qc rc) (U,Y,0,M,N,O,())).bind λZ=>match Z with|.inl (ah,an,ar,_)=>some ([],false,(ah,an,ar))|.inr (a7,av,az,aE,_)=>some (a7,true,(av,az,aE))
def nL (rc:aA×uL×Unit->Ib):aA×uL×Unit->Ib:=λx=>yL (λa0 D=>rc (a0,D,())) x.1 x.2.1
def WJ (a0:aA) (D:uL):Ib:=ou nL (a0,D,())
def Lk (F:bK) (roots:aK) (J:Int):Option (aA×Bool×Bool):=(WJ [] (F,roots,J)).bind λD=>some (D.1,D.2.1,decide (0<=D.2.2.2.2))
def zP:Lp (bK×aK×sI) (bK×aK×gV⊕eD):=λ(L,N,F,D,_)=>bif decide (D<(F.length:Int)) then(ag F D).bind λM=>bif decide (M<0) then some (.inr (.inr (1,()))) else bif decide ((L.length:Int)<=M) then some (.inr (.inr (1,()))) else bif decide (0<D) then J (aa .i64 (D - 1))<|(ag F (D - 1)).bind λO=>bif decide (M<=O) then some (.inr (.inr (1,()))) else(ag L M).bind λU=>J (aa .i64 (D - 1))<|(ag F (D - 1)).bind λY=>(ag L Y).bind λZ=>bif decide (U.1.1=Z.1.1) then some (.inr (.inr (1,()))) else J (aa .i64 (D+1))<|some (.inl (L,N,F,(D+1),())) else J (aa .i64 (D+1))<|some (.inl (L,N,F,(D+1),())) else some (.inr (.inl (L,N,F,())))
def zO:adf:=λ(L,M,D,O,F,_)=>bif decide (D<(F.length:Int)) then(ag F D).bind λY=>(qj L M Y.1).bind λN=>bif decide (N<0) then some (.inr (.inr (2,()))) else(ag F D).bind λZ=>(ag L N).bind λah=>(wq Z.2.1 ah.1.2.1).bind λU=>bif !U then some (.inr (.inr (2,()))) else J (aa .i64 (D+1))<|some (.inl (L,M,(D+1),O,F,())) else some (.inr (.inl (L,M,O,F,())))
def zN:adf:=λ(L,M,D,F,N,_)=>bif decide (D<(F.length:Int)) then(ag F D).bind λY=>(qj L M Y.1).bind λO=>(ag F D).bind λZ=>bif !decide (Z.2=[]) then(ag L O).bind λah=>(ag F D).bind λan=>(tM ah.1 an.2).bind λU=>bif decide (U<0) then some (.inr (.inr (3,()))) else J (aa .i64 (D+1))<|some (.inl (L,M,(D+1),F,N,())) else J (aa .i64 (D+1))<|some (.inl (L,M,(D+1),F,N,())) else some (.inr (.inl (L,M,F,N,())))
def zM:Lp (bK×aA×aD×eD) jr:=λ(M,F,L,D,_)=>bif decide (D<(F.length:Int)) then(ag F D).bind λO=>(ag M O).bind λU=>(mM L U.1.1).bind λN=>bif !N then some (.inr (.inr (5,()))) else J (aa .i64 (D+1))<|some (.inl (M,F,L,(D+1),())) else some (.inr (.inl (())))
def Mc (x:bK) (x1:aK) (x2:aA):bH:=(ab zP (x,x1,x2,0,())).bind λo=>match o with|.inl (L,ah,F,_)=>((tF L ah F).bind λD=>(ab zO (L,F,0,D.1,D.2,())).bind λU=>match U with|.inl (bb,an,a7,a8,_)=>((ab zN (bb,an,0,a7,a8,())).bind λY=>match Y with|.inl (M,J,a1,a6,_)=>((Ez M J).bind λN=>bif N then some 4 else(yN (a1,a6)).bind λO=>(ab zM (M,J,O,0,())).bind λZ=>match Z with|.inl (_)=>some 0|.inr (ar,_)=>some ar)|.inr (av,_)=>some av)|.inr (az,_)=>some az)|.inr (aE,_)=>some aE
theorem ai {c:Prop} {_:Decidable c} {R:Type} {k:Option R} (h:c):J c k=k:=if_pos h
theorem dY {p:Prop} (h:p) (i:Decidable p): @decide p i=true:=by grind
theorem dN {p:Prop} (h: ¬p) (i:Decidable p): @decide p i=false:=by grind
theorem Gi {R:Type} {k:Option R}:only true k=k:=rfl
theorem aw {n:Nat} {R:Type} {k:Option R} (h:n<=4611686018427387904):J (aa .i64 (n:Int)) k=k:=ai (aqH h)
theorem bd {n:Int} (h: -9223372036854775808<=n/\n<=9223372036854775807):aa .i64 n:=by rw[Ti];exact h
theorem rN {V R:Type} {f:V->Option (V⊕R)} (st:Nat->V) (out:Nat->R) (p:Nat->Bool) (x:List UInt8)
  (h1: ∀k,k<x.length->p (dE x k)=false->f (st k)=some (.inl (st (k+1))))
  (h2: ∀k,k<=x.length->(k<x.length->p (dE x k)=true)->f (st k)=some (.inr (out k))): ∀k,k<=x.length->ab f (st k)=some (out (ak p x k)):=by
 have: ∀n k,x.length - k=n->k<=x.length->ab f (st k)=some (out (ak p x k)):=by
  intro n
  induction n with
  |zero=>intro k F hk;rw[bJ,h2 k hk (λh=>by omega),RQ _ _ _ (by omega)]
  |succ n J=>
   intro k F hk;have D:k<x.length:=by omega
   rw[bJ];cases hp:p (dE x k) with
   |true=>rw[h2 k hk (λ_=>hp),Fu _ _ _ D hp]
   |false=>rw[h1 k D hp];show ab f (st (k+1))=_;rw[J (k+1) (by omega) (by omega),EV _ _ _ D hp]
 grind
theorem fC {l:List UInt8} {k:Nat} (h:k<l.length):(l[k]).toNat=dE l k:=(wE l k h).symm
theorem aH (k:Nat):((k:Int)+1)=((k+1:Nat):Int):=rfl
theorem A1 {l:List UInt8} {k:Nat} (h:k<l.length) {R:Type} (f:UInt8->Option R):(ag l (k:Int)).bind f=f l[k]:=by rw[abp h];rfl
theorem ais (x:List UInt8) (L:x.length<=20000) (D a b c d e:Int):ab Ej (x,D,0,a,b,c,d,e,())=some (x,D,(ak me x 0:Int),a,b,c,d,e,()):=by
 refine rN (λk=>(x,D,(k:Int),a,b,c,d,e,())) (λk=>(x,D,(k:Int),a,b,c,d,e,())) me x (λk hk hp=>?_) (λk hk hp=>?_) 0 (ae3 _)
 · have J: ¬(((x[k]).toNat)=35):=by
     rw[fC hk];unfold me at hp;grind
   simp (disch:=omega) only[K0,Ej]
 · by_cases F:k<x.length
   · have J:((x[k]).toNat)=35:=by
       have:=hp F;rw[fC F];unfold me at this;have:dE x k=35:=by grind
       omega
     simp (disch:=omega) only[K0,Ej]
   · grind[Ej]
theorem qV {x:List UInt8} {e:Nat} (he:e<=x.length):(x.take e).length=e:=by grind
theorem vg {x:List UInt8} {e k:Nat} (h:k<e):dE (x.take e) k=dE x k:=apK x e k h
theorem aaR {n:Nat} (h:bA n=false): ¬((n:Int)=32)/\ ¬((n:Int)=9):=by grind[bA]
theorem Zm {n:Nat} (h:bA n=true):(n:Int)=32\/(¬((n:Int)=32)/\(n:Int)=9):=by grind[bA]
theorem ack {n:Nat} (h:iO n=false): ¬((n:Int)<33)/\ ¬(126<(n:Int)):=by grind[iO]
theorem abJ {n:Nat} (h:iO n=true):(n:Int)<33\/(¬((n:Int)<33)/\126<(n:Int)):=by grind[iO]
theorem air (x:List UInt8) (M:x.length<=20000) (e:Nat) (he:e<=x.length) (no J a b c d F:Int) (ws:List (List UInt8)) (cs:List Int) (k:Nat) (hk:k<=e):
  ab zl (x,no,(e:Int),J,(k:Int),a,b,c,d,F,ws,cs,())=some (x,no,(e:Int),J,(ak bA (x.take e) k:Int),a,b,c,d,F,ws,cs,()):=by
 refine rN (λk=>(x,no,(e:Int),J,(k:Int),a,b,c,d,F,ws,cs,())) (λk=>(x,no,(e:Int),J,(k:Int),a,b,c,d,F,ws,cs,())) bA (x.take e) (λk hk hp=>?_) (λk hk hp=>?_) k (by grind)
 · rw[qV he] at hk;have D:k<x.length:=by omega
   rw[vg hk] at hp;obtain⟨h1,h2⟩:=aaR hp;rw[<-fC D] at h1 h2;simp (disch:=omega) only[K0,zl]
 · rw[qV he] at hk hp;by_cases D:k<e
   · have L:k<x.length:=by omega
     have hp:=hp D;rw[vg D] at hp;rcases Zm hp with h1 |⟨h1,h2⟩
     · rw[<-fC L] at h1;simp (disch:=omega) only[K0,zl]
     · rw[<-fC L] at h1 h2;simp (disch:=omega) only[K0,zl]
   · grind[zl]
theorem aiq (x:List UInt8) (N:x.length<=20000) (e:Nat) (he:e<=x.length) (no J L a b c d F:Int) (ws:List (List UInt8)) (cs:List Int) (k:Nat) (hk:k<=e):
  ab zk (x,no,J,L,(e:Int),(k:Int),a,b,c,d,F,ws,cs,())=some (if ak iO (x.take e) k<e then Sum.inr (0,1,no,((ak iO (x.take e) k+1:Nat):Int),()) else Sum.inl (x,no,J,L,(e:Int),a,b,c,d,F,ws,cs,())):=by
 refine rN (λk=>(x,no,J,L,(e:Int),(k:Int),a,b,c,d,F,ws,cs,())) (λk=>if k<e then Sum.inr (0,1,no,((k+1:Nat):Int),()) else Sum.inl (x,no,J,L,(e:Int),a,b,c,d,F,ws,cs,())) iO (x.take e) (λk hk hp=>?_) (λk hk hp=>?_) k (by grind)
 · rw[qV he] at hk;have D:k<x.length:=by omega
   rw[vg hk] at hp;obtain⟨h1,h2⟩:=ack hp;rw[<-fC D] at h1 h2;simp (disch:=omega) only[K0,zk]
 · rw[qV he] at hk hp;by_cases D:k<e
   · have M:k<x.length:=by omega
     have hp:=hp D;rw[vg D] at hp;rw[if_pos D];rcases abJ hp with h1 |⟨h1,h2⟩
     · rw[<-fC M] at h1;simp (disch:=omega) only[K0,zk]
     · rw[<-fC M] at h1 h2;simp (disch:=omega) only[K0,zk]
   · grind[zk]
def ig (cs:List Nat):List Int:=cs.map λ(c:Nat)=>(c:Int)
theorem Rc (cs:List Nat) (k:Nat):ig (cs++[k])=ig cs++[(k:Int)]:=by simp[ig]
theorem LG (cs:List Nat):(ig cs).length=cs.length:=by simp [ig]
def wR (no:Int):NP->(Int×Int×Int×Int×Int×List (List UInt8)×List Int×Unit)⊕(Int×Int×Int×Int×Unit)
 |.ok ws cs=>.inl (0,0,0,0,no,ws,ig cs,())
 |.bad c D=>.inr (0,(c:Int),no,(D:Int),())
theorem aip (x:List UInt8) (hx:x.length<=20000) (e:Nat) (he:e<=x.length) (no:Int): ∀(n k:Nat) (ws:List (List UInt8)) (cs:List Nat),e - k<=n->k<=e->ws.length=cs.length->ws.length<=20->
  ab rL (x,no,(e:Int),(k:Int),0,0,0,0,no,ws,ig cs,())=some (wR no (scan (x.take e) k ws cs)):=by
 intro n
 induction n with
 |zero=>
  intro k ws cs hn hk hw O;have an:k=e:=by omega
  rw[bJ,v8 _ _ _ _ (by rw[qV he];omega)]
  simp (disch:=omega) only[K0,rL,wR]
 |succ n ih=>
  intro k ws cs hn hk hw O;by_cases N:k<e
  · have J:k<x.length:=by omega
    have F:k<(x.take e).length:=by rw[qV he];exact N
    rw[bJ];cases D:bA (dE (x.take e) k) with
    |true=>
     have e1:rL (x,no,e,k,0,0,0,0,no,ws,ig cs,())=some (.inl (x,no,e,((k+1):Int),0,0,0,0,no,ws,ig cs,())):=by
      rw[vg N] at D;rcases Zm D with h1 |⟨h1,h2⟩
      · rw[<-fC J] at h1;simp (disch:=omega) only[K0,rL,A1 J]
      · rw[<-fC J] at h1 h2;simp (disch:=omega) only[K0,rL,A1 J]
     rw[e1,Ex _ _ _ _ F D];exact ih (k+1) ws cs (by omega) (by omega) hw O
    |false=>
     have U:=D;rw[vg N] at U;obtain⟨h1,h2⟩:=aaR U;rw[<-fC J] at h1 h2;have av:=Aa _ _ F D;have Z:=rV bA (x.take e) k (Nat.le_of_lt F);rw[qV he] at Z;simp only[rL,dY (show(k:Int)<e by omega),cond_true,cond_false,A1 J,dN h1,dN h2,air x hx e he no k 0 0 0 0 no ws (ig cs) k hk,aa7]
     by_cases az:20<=ws.length
     · simp (disch:=omega) only[K0];rw[vW _ _ _ _ F D (.inl (by omega))];rfl
     · simp only[dN (show¬20<=(ws.length:Int) by omega),cond_false]
       have ar:((ak bA (x.take e) k):Int) - k=((ak bA (x.take e) k - k:Nat):Int):=by omega
       rw[ar,aw (by omega)]
       by_cases ah:80<ak bA (x.take e) k - k
       · simp (disch:=omega) only[K0];rw[vW _ _ _ _ F D (.inr ah)];rfl
       · simp only[dN (show¬80<((ak bA (x.take e) k - k:Nat):Int) by omega),cond_false,aiq x hx (ak bA (x.take e) k) (by omega) no e k 0 0 0 0 no ws (ig cs) k (by omega),aa7]
         have Y: ¬(ws.length=20\/80<ak bA (x.take e) k - k):=by omega
         have L:(x.take e).take (ak bA (x.take e) k)=x.take (ak bA (x.take e) k):=by rw[List.take_take];congr 1;omega
         by_cases M:ak iO (x.take (ak bA (x.take e) k)) k<ak bA (x.take e) k
         · rw[if_pos M,Fy _ _ _ _ F D Y (L▸M),L];rfl
         · rw[if_neg M,E1 _ _ _ _ F D Y (L▸M),L];simp only[];rw[ai (show(0:Int)<=k/\k<=((ak bA (x.take e) k):Int)/\((ak bA (x.take e) k):Int)<=x.length by omega)]
           rw[ai (by simp (disch:=omega) only[K0];omega)]
           simp (disch:=omega) only[K0];rw[ai (by simp (disch:=omega) only[K0,LG];omega)]
           have:=ih (ak bA (x.take e) k) (ws++[(x.take (ak bA (x.take e) k)).drop k]) (cs++[k+1]) (by omega) Z (by simp;omega) (by simp;omega)
           rw[Rc] at this;exact this
  · have an:k=e:=by omega
    rw[bJ,v8 _ _ _ _ (by rw[qV he];omega)]
    simp only[rL,dN (show¬k<(e:Int) by omega),cond_false,wR]
def abW (no:Int):NP->(Int×List (List UInt8)×List Int)×Int×Int×Int
 |.ok ws cs=>((no,ws,ig cs),(0,0,0))
 |.bad c D=>((0,[],[]),((c:Int),no,(D:Int)))
theorem W5 (x:List UInt8) (D:x.length<=20000) (no:Int):zX x no=some (abW no (nW x)):=by
 have he:ak me x 0<=x.length:=rV _ _ _ (ae3 _);have F:ab rL (x,no,(ak me x 0),0,0,0,0,0,no,[],[],())=some (wR no (scan (x.take (ak me x 0)) 0 [] [])):=aip x D (ak me x 0) he no (ak me x 0) 0 [] [] (by simp) (ae3 _) rfl (by simp)
 simp[zX,ais x D no,F];unfold nW bare;cases scan (x.take (ak me x 0)) 0 [] []<;>rfl
theorem J2 (n:Nat):En (n:Int)=some (bA n):=by
 unfold En;by_cases h:n=32
 · subst h;rfl
 · simp (disch:=omega) only[K0];simp[Option.some.injEq];by_cases D:n=9
   · subst D;rfl
   · simp (disch:=omega) only[K0];simp[bA,h,D]
theorem ahQ (t:List UInt8) (L:t.length<=20000) (no F a b c d D:Int) (ws:List (List UInt8)) (cs:List Int) (k:Nat) (hk:k<=t.length):
  ab DP (no,t,F,(k:Int),a,b,c,d,D,ws,cs,())=some (no,t,F,(ak bA t k:Int),a,b,c,d,D,ws,cs,()):=by
 refine rN (λk=>(no,t,F,(k:Int),a,b,c,d,D,ws,cs,())) (λk=>(no,t,F,(k:Int),a,b,c,d,D,ws,cs,())) bA t (λk hk hp=>?_) (λk hk hp=>?_) k hk
 · simp (disch:=omega) only[K0,DP,fC hk,J2,hp]
 · by_cases J:k<t.length
   · simp (disch:=omega) only[K0,DP,fC J,J2,hp J]
   · grind[DP]
theorem ahP (t:List UInt8) (M:t.length<=20000) (e:Nat) (he:e<=t.length) (no J a b c d F:Int) (ws:List (List UInt8)) (cs:List Int) (k:Nat) (hk:k<=e):
  ab yX (no,t,J,(e:Int),(k:Int),a,b,c,d,F,ws,cs,())=some (if ak iO (t.take e) k<e then Sum.inr (0,1,no,((ak iO (t.take e) k+1:Nat):Int),()) else Sum.inl (no,t,J,(e:Int),a,b,c,d,F,ws,cs,())):=by
 refine rN (λk=>(no,t,J,(e:Int),(k:Int),a,b,c,d,F,ws,cs,())) (λk=>if k<e then Sum.inr (0,1,no,((k+1:Nat):Int),()) else Sum.inl (no,t,J,(e:Int),a,b,c,d,F,ws,cs,())) iO (t.take e) (λk hk hp=>?_) (λk hk hp=>?_) k (by grind)
 · rw[qV he] at hk;have D:k<t.length:=by omega
   rw[vg hk] at hp;obtain⟨h1,h2⟩:=ack hp;rw[<-fC D] at h1 h2;simp (disch:=omega) only[K0,yX]
 · rw[qV he] at hk hp;by_cases D:k<e
   · have L:k<t.length:=by omega
     have hp:=hp D;rw[vg D] at hp;rw[if_pos D];rcases abJ hp with h1 |⟨h1,h2⟩
     · rw[<-fC L] at h1;simp (disch:=omega) only[K0,yX]
     · rw[<-fC L] at h1 h2;simp (disch:=omega) only[K0,yX]
   · grind[yX]
theorem ahO (t:List UInt8) (M:t.length<=20000) (no:Int): ∀(n k:Nat) (ws:List (List UInt8)) (cs:List Nat),t.length - k<=n->k<=t.length->ws.length=cs.length->ws.length<=20->
  ab vL (no,t,(k:Int),0,0,0,0,no,ws,ig cs,())=some (wR no (scan t k ws cs)):=by
 intro n
 induction n with
 |zero=>
  intro k ws cs Z hk hw U;rw[bJ,v8 _ _ _ _ (by omega)]
  grind[vL,wR]
 |succ n ih=>
  intro k ws cs Z hk hw U;by_cases D:k<t.length
  · rw[bJ];cases F:bA (dE t k) with
    |true=>
     have O:vL (no,t,k,0,0,0,0,no,ws,ig cs,())=some (.inl (no,t,((k+1):Int),0,0,0,0,no,ws,ig cs,())):=by simp (disch:=omega) only[K0,vL,fC D,J2,F]
     rw[O,Ex _ _ _ _ D F];grind
    |false=>
     have ar:=Aa _ _ D F;have N:=rV bA t k hk;simp only[vL,dY (show(k:Int)<t.length by omega),cond_false,A1 D,fC D,J2,aa7,F,ahQ t M no k 0 0 0 0 no ws (ig cs) k hk]
     by_cases an:ws.length=20
     · simp (disch:=omega) only[K0];rw[vW _ _ _ _ D F (.inl an)];rfl
     · simp only[dN (show¬(ws.length:Int)=20 by omega)]
       have ah:((ak bA t k):Int) - k=((ak bA t k - k:Nat):Int):=by omega
       rw[ah,aw (by omega)]
       by_cases Y:80<ak bA t k - k
       · simp (disch:=omega) only[K0];rw[vW _ _ _ _ D F (.inr Y)];rfl
       · simp only[dN (show¬80<((ak bA t k - k:Nat):Int) by omega),cond_false,ahP t M (ak bA t k) N no k 0 0 0 0 no ws (ig cs) k (by omega),aa7]
         have L: ¬(ws.length=20\/80<ak bA t k - k):=by omega
         by_cases J:ak iO (t.take (ak bA t k)) k<ak bA t k
         · rw[if_pos J,Fy _ _ _ _ D F L J];rfl
         · rw[if_neg J,E1 _ _ _ _ D F L J];simp only[];rw[ai (show(0:Int)<=k/\k<=((ak bA t k):Int)/\((ak bA t k):Int)<=t.length by omega)]
           simp (disch:=omega) only[K0,LG,Rc];have:=ih (ak bA t k) (ws++[(t.take (ak bA t k)).drop k]) (cs++[k+1]) (by omega) N (by simp;omega) (by grind)
           grind[Rc]
  · grind
theorem asi:gA 35=me:=rfl
theorem asj:gA 10=dw:=rfl
theorem asq (l:List UInt8) (h:l.length<=20000):kV l TY=some (bare l,l.drop (ak me l 0+1),decide (ak me l 0<l.length)):=by unfold kV TY;simp only[];rw[if_pos (by omega)];unfold mW;rw[asi];rfl
theorem asr (l:List UInt8) (h:l.length<=20000):kV l TZ=some (l.take (ak dw l 0),l.drop (ak dw l 0+1),decide (ak dw l 0<l.length)):=by unfold kV TZ;simp only[];rw[if_pos (by omega)];unfold mW;rw[asj]
theorem WD (no:Int) (x:List UInt8) (J:x.length<=20000):zn no x=some (abW no (nW x)):=by
 have F:(bare x).length<=20000:=by grind[bare]
 have D:ab vL (no,bare x,0,0,0,0,0,no,[],[],())=some (wR no (scan (bare x) 0 [] [])):=ahO (bare x) F no (bare x).length 0 [] [] (by simp) (ae3 _) rfl (by simp)
 simp[zn,asq x J,D];unfold nW;cases scan (bare x) 0 [] []<;>rfl
theorem Rj (t:List UInt8) (n:Nat): ∀(k:Nat) (ws:List (List UInt8)) (cs:List Nat) (c J:Nat),t.length - k<=n->scan t k ws cs=.bad c J->c=1\/c=2:=by
 induction n with
 |zero=>intro k ws cs c J L h;rw[v8 _ _ _ _ (by omega)] at h;grind
 |succ n M=>
  intro k ws cs c J L h;by_cases F:k<t.length
  · cases D:bA (dE t k) with
    |true=>rw[Ex _ _ _ _ F D] at h;grind
    |false=>
     by_cases h1:ws.length=20\/80<ak bA t k - k
     · rw[vW _ _ _ _ F D h1] at h;grind
     · by_cases h2:ak iO (t.take (ak bA t k)) k<ak bA t k
       · rw[Fy _ _ _ _ F D h1 h2] at h;grind
       · rw[E1 _ _ _ _ F D h1 h2] at h;have:=Aa _ _ F D;grind
  · grind
def ur (d:po):Int×List (List UInt8)×List Int:=((d.no:Int),d.ws,ig d.cs)
def uk:UK->(Int×Int×Int×(List (Int×List (List UInt8)×List Int))×Unit)⊕(Int×Int×Int×Unit)
 |.ok ls=>.inl (0,0,0,ls.map ur,())
 |.bad c l D=>.inr ((c:Int),(l:Int),(D:Int),())
theorem aia (D:Nat) (ah:D<=100000): ∀(n:Nat) (rest:List UInt8) (no:Nat) (out:List po),rest.length<=n->rest.length<=20000->1<=no->no<=D+1->out.length<no->
  ab zc ((D:Int),(no:Int),rest,0,0,0,out.map ur,())=some (uk (gI D rest no out)):=by
 intro n
 induction n with
 |zero=>
  intro rest no out Z N h1 Y ho;have e:rest=[]:=au1.1 (by omega)
  subst e;rw[bJ,E2];simp[zc,ae8,uk]
 |succ n O=>
  intro rest no out Z N h1 Y ho;by_cases e:rest=[]
  · grind
  · rw[bJ];simp (disch:=omega) only[K0,zc];by_cases hm:D<no
    · rw[KZ _ _ _ _ e hm];simp (disch:=omega) only[K0];rfl
    · have M:(rest.take (ak dw rest 0)).length<=20000:=by rw[am9];omega
      simp (disch:=omega) only[K0,asr rest N];cases hs:nW (rest.take (ak dw rest 0)) with
      |bad c U=>
       rw[Li _ _ _ _ e hm hs];have hc: ¬(c=0):=by have:=Rj _ _ _ _ _ _ _ (ab8 _) hs;omega
       have F:zn no (rest.take (ak dw rest 0))=some ((0,[],[]),((c:Int),(no:Int),(U:Int))):=by rw[WD _ _ M,hs];rfl
       simp (disch:=omega) only[K0,F];rfl
      |ok ws cs=>
       rw[LQ _ _ _ _ e hm hs];have J:(rest.drop (ak dw rest 0+1)).length<=n:=by have:0<rest.length:=at0.2 e;rw[at6];omega
       have L:(rest.drop (ak dw rest 0+1)).length<=20000:=by rw[at6];omega
       have F:zn no (rest.take (ak dw rest 0))=some (((no:Int),ws,ig cs),(0,0,0)):=by rw[WD _ _ M,hs];rfl
       simp (disch:=omega) only[K0,F];by_cases hw:ws.length=0
       · simp only[dN (show¬0<(ws.length:Int) by omega),aH]
         rw[if_pos hw];exact O _ (no+1) out J L (by simp) (by omega) (by omega)
       · simp only[dY (show(0:Int)<ws.length by omega),aH]
         rw[ai (by grind),if_neg hw]
         have:=O (rest.drop (ak dw rest 0+1)) (no+1) (out++[⟨no,ws,cs⟩]) J L (by simp) (by omega) (by grind)
         rw[ag9] at this;exact this
def ar8:UK->(List (Int×List (List UInt8)×List Int))×Int×Int×Int
 |.ok ls=>(ls.map ur,(0,0,0))
 |.bad c l D=>([],((c:Int),(l:Int),(D:Int)))
def iI (s:List UInt8):(List (Int×List (List UInt8)×List Int))×Int×Int×Int:=if 20000<s.length then([],(2,0,0)) else ar8 (gI 800 s 1 [])
theorem yY (s:List UInt8):zD s=some (iI s):=by
 unfold zD iI;by_cases h:20000<s.length
 · grind
 · simp (disch:=omega) only[K0];have h1:ab zc (800,1,s,0,0,0,[],())=some (uk (gI 800 s 1 [])):=aia 800 (by simp) s.length s 1 [] (ab8 _) (by omega) (by simp) (by simp) (by simp)
   simp (disch:=omega) only[Q2,h1];cases gI 800 s 1 []<;>rfl
theorem amF (p:Nat->Bool) (l:List UInt8) (k:Nat):ak p l k=k+ak p (l.drop k) 0:=by simp[ak]
theorem ahx (x:List UInt8) (J:x.length<=20000) (m no at_ a b c:Int) (out:List (Int×List (List UInt8)×List Int)) (k:Nat) (hk:k<=x.length):
  ab DG (x,m,no,at_,(k:Int),a,b,c,out,())=some (x,m,no,at_,(ak dw x k:Int),a,b,c,out,()):=by
 refine rN (λk=>(x,m,no,at_,(k:Int),a,b,c,out,())) (λk=>(x,m,no,at_,(k:Int),a,b,c,out,())) dw x (λk hk hp=>?_) (λk hk hp=>?_) k hk
 · have F: ¬(((x[k]).toNat)=10):=by
     rw[fC hk];unfold dw at hp;grind
   simp (disch:=omega) only[K0,DG]
 · by_cases D:k<x.length
   · have F:((x[k]).toNat)=10:=by
       have:=hp D;rw[fC D];unfold dw at this;have:dE x k=10:=by grind
       omega
     simp (disch:=omega) only[K0,DG]
   · grind[DG]
theorem ahw (D:Nat) (ar:D<=100000) (x:List UInt8) (hx:x.length<=20000): ∀(n k:Nat) (no:Nat) (out:List po),x.length - k<=n->k<=x.length+1->1<=no->no<=D+1->out.length<no->
  ab yQ (x,(D:Int),(no:Int),(k:Int),0,0,0,out.map ur,())=some (uk (gI D (x.drop k) no out)):=by
 have fin: ∀(k no:Nat) out,¬k<x.length->ab yQ (x,D,no,k,0,0,0,out.map ur,())=some (uk (gI D (x.drop k) no out)):=λk no out h=>by
  rw[bJ,au2 (by omega),E2]
  simp (disch:=omega) only[K0,yQ,uk]
 intro n
 induction n with
 |zero=>intro k no out Y hk h1 N Z;exact fin k no out (by omega)
 |succ n L=>
  intro k no out Y hk h1 N Z;by_cases U:k<x.length
  · have e:x.drop k≠[]:=by intro h;have:=congrArg List.length h;rw[at6] at this;simp at this;omega
    have hle:=rV dw x k (by omega)
    have an:=FP dw x k;have hd:=amF dw x k;have ah:(x.take (ak dw x k)).drop k=(x.drop k).take (ak dw (x.drop k) 0):=by rw[List.drop_take];congr 1;omega
    have O:x.drop (ak dw x k+1)=(x.drop k).drop (ak dw (x.drop k) 0+1):=by rw[List.drop_drop];congr 1;omega
    rw[bJ];simp only[yQ,dY (show(k:Int)<x.length by omega),cond_true,ahx x hx _ _ _ _ _ _ _ k (by omega),aa7]
    by_cases hm:D<no
    · rw[KZ _ _ _ _ e hm];simp (disch:=omega) only[K0];rfl
    · simp only[dN (show¬D<no by omega),cond_false,ae9]
      simp (disch:=omega) only[K0];have F:((x.take (ak dw x k)).drop k).length<=20000:=by rw[at6,am9];omega
      rw[ah] at F⊢;cases hs:nW ((x.drop k).take (ak dw (x.drop k) 0)) with
      |bad c M=>
       rw[Li _ _ _ _ e hm hs];have hc: ¬(c=0):=by have:=Rj _ _ _ _ _ _ _ (ab8 _) hs;omega
       have J:zX ((x.drop k).take (ak dw (x.drop k) 0)) no=some ((0,[],[]),((c:Int),(no:Int),(M:Int))):=by rw[W5 _ F,hs];rfl
       simp (disch:=omega) only[K0,J];rfl
      |ok ws cs=>
       rw[LQ _ _ _ _ e hm hs,<-O];have J:zX ((x.drop k).take (ak dw (x.drop k) 0)) no=some (((no:Int),ws,ig cs),(0,0,0)):=by rw[W5 _ F,hs];rfl
       simp (disch:=omega) only[K0,J];by_cases hw:ws.length=0
       · simp only[dN (show¬0<(ws.length:Int) by omega),cond_false,aH,aw (show no+1<=4611686018427387904 by omega),aw (show ak dw x k+1<=4611686018427387904 by omega)]
         rw[if_pos hw];exact L (ak dw x k+1) (no+1) out (by omega) (by omega) (by simp) (by omega) (by omega)
       · simp only[dY (show(0:Int)<ws.length by omega),cond_true,aH,aw (show no+1<=4611686018427387904 by omega),aw (show ak dw x k+1<=4611686018427387904 by omega)]
         rw[ai (by simp (disch:=omega) only[K0,List.length_map];omega),if_neg hw]
         have:=L (ak dw x k+1) (no+1) (out++[⟨no,ws,cs⟩]) (by omega) (by omega) (by simp) (by omega) (by simp;omega)
         rw[ag9] at this;exact this
  · exact fin k no out U
theorem zm (s:List UInt8):Af s=some (iI s):=by
 unfold Af iI;by_cases h:20000<s.length
 · grind
 · simp (disch:=omega) only[K0];have h1:ab yQ (s,800,1,0,0,0,0,[],())=some (uk (gI 800 s 1 [])):=ahw 800 (by simp) s (by omega) s.length 0 1 [] (by simp) (by simp) (by simp) (by simp) (by simp)
   simp (disch:=omega) only[Qi,h1];cases gI 800 s 1 []<;>rfl
theorem kg {V R α:Type} {f:V->Option (V⊕R)} (l:List α) (p:α->Bool) (st:Nat->V) (a b:R)
  (h1: ∀k (h:k<l.length),p l[k]=true->f (st k)=some (.inl (st (k+1))))
  (h2: ∀k (h:k<l.length),p l[k]=false->f (st k)=some (.inr b))
  (F:f (st l.length)=some (.inr a)):ab f (st 0)=some (if l.all p=true then a else b):=by
 have: ∀n k,l.length - k=n->k<=l.length->ab f (st k)=some (if(l.drop k).all p=true then a else b):=by
  intro n
  induction n with
  |zero=>grind[bJ]
  |succ n L=>
   intro k J hk;have D:k<l.length:=by omega
   rw[bJ,ak7 D];cases hp:p l[k] with
   |true=>grind
   |false=>grind
 grind
theorem au {α R:Type} {l:List α} {k:Nat} (h:k<l.length) (f:α->Option R):(ag l (k:Int)).bind f=f l[k]:=by rw[abp h];rfl
theorem acG {α R:Type} {l:List α} (h:0<l.length) (f:α->Option R):(ag l 0).bind f=f l[0]:=au (k:=0) h f
def gq (c:UInt8):Bool:=bQ c||(decide (97<=c.toNat)&&decide (c.toNat<=122))||decide (c.toNat=45)
theorem YJ (c:UInt8):gq c=true<->((48<=c.toNat/\c.toNat<=57)\/(97<=c.toNat/\c.toNat<=122)\/c.toNat=45):=by grind[gq,bQ]
theorem aaF (c:UInt8):bQ c=true<->(48<=c.toNat/\c.toNat<=57):=by simp[bQ]
theorem LX {c:UInt8} (h:gq c=true):((48<=c.toNat/\c.toNat<=57)\/(97<=c.toNat/\c.toNat<=122)\/c.toNat=45):=(YJ c).1 h
theorem Mi {c:UInt8} (h:gq c=false): ¬((48<=c.toNat/\c.toNat<=57)\/(97<=c.toNat/\c.toNat<=122)\/c.toNat=45):=λg=>by rw[(YJ c).2 g] at h;cases h
theorem pa {c:UInt8} (h:bQ c=true):(48<=c.toNat/\c.toNat<=57):=(aaF c).1 h
theorem TQ {c:UInt8} (h:bQ c=false): ¬(48<=c.toNat/\c.toNat<=57):=λg=>by rw[(aaF c).2 g] at h;cases h
theorem ahq (s:List UInt8) (hs:s.length<=20000):ab DD (s,(s.length:Int),0,())=some (if s.all gq=true then .inl (s,()) else .inr ()):=by
 refine kg s gq (λk=>(s,(s.length:Int),(k:Int),())) _ _ (λk h hp=>?_) (λk h hp=>?_) ?_
 · have hp:=LX hp;simp (disch:=omega) only[K0,DD];grind
 · have hp:=Mi hp;simp (disch:=omega) only[K0,DD];grind
 · simp[DD]
theorem Wt (s:List UInt8) (hs:s.length<=20000):Kd s=some (gr s):=by
 unfold Kd;by_cases h0:s=[]
 · subst h0;rfl
 · have N:=at0.2 h0;have he:s.isEmpty=false:=by cases s with|nil=>exact absurd rfl h0 |cons=>rfl
   rw[dN h0];by_cases L:8<s.length
   · simp (disch:=omega) only[K0];unfold gr;simp (disch:=omega) only[K0]
   · simp (disch:=omega) only[K0,ahq s hs];have D:gr s=((s.all gq)&&(!(s.all bQ)||decide (s.length=1)||decide (s.head?≠some 48))):=by unfold gr;rw[he];simp (disch:=omega) only[K0];rfl
     rw[D];cases hp:s.all gq with
     |false=>rfl
     |true=>
      simp only[if_true,tv,if_pos (show s.length<=1000000000 by omega),at4]
      cases M:s.all bQ with
      |false=>rfl
      |true=>
       simp (disch:=omega) only[K0];by_cases h1:s.length=1
       · grind
       · rw[dN h1];simp (disch:=omega) only[K0];have F:s.head?=some s[0]:=by cases s with|nil=>exact absurd rfl h0 |cons a t=>rfl
         rw[F];by_cases J:s[0]=48
         · simp_all
         · have: ¬((s[0]).toNat:Int)=48:=λe=>J (by apply UInt8.toNat_inj.1;show(s[0]).toNat=48;omega)
           rw[dN this,dY (by grind)];rfl
theorem Qa (s:List UInt8) (hs:s.length<=20000):zz s=some (s.all bQ):=by
 have h:ab y9 (s,0,())=some (if s.all bQ=true then .inl () else .inr ()):=by
  refine kg s bQ (λk=>(s,(k:Int),())) _ _ (λk h hp=>?_) (λk h hp=>?_) ?_
  · have hp:=pa hp;simp (disch:=omega) only[K0,y9]
  · have hp:=TQ hp;by_cases c1:((s[k]).toNat)<48
    · simp (disch:=omega) only[K0,y9]
    · simp (disch:=omega) only[K0,y9]
  · simp[y9]
 grind[zz]
theorem aiT (s:List UInt8) (hs:s.length<=20000):ab EH (s,0,())=some (if s.all gq=true then .inl () else .inr ()):=by
 refine kg s gq (λk=>(s,(k:Int),())) _ _ (λk h hp=>?_) (λk h hp=>?_) ?_
 · have hp:=LX hp;simp (disch:=omega) only[K0,EH];grind
 · have hp:=Mi hp;simp (disch:=omega) only[K0,EH];grind
 · simp[EH]
theorem Xo (s:List UInt8) (hs:s.length<=20000):LS s=some (gr s):=by
 unfold LS;by_cases h0:s=[]
 · subst h0;rfl
 · have M:=at0.2 h0;have he:s.isEmpty=false:=by cases s with|nil=>exact absurd rfl h0 |cons=>rfl
   rw[dN h0];by_cases L:8<s.length
   · simp (disch:=omega) only[K0];unfold gr;simp (disch:=omega) only[K0]
   · have F:gr s=((s.all gq)&&(!(s.all bQ)||decide (s.length=1)||decide (s.head?≠some 48))):=by
       unfold gr;rw[he];simp (disch:=omega) only[K0];rfl
     have fin:(match(if s.all gq=true then(Sum.inl ()) else .inr ()) with|.inl _=>some true |.inr _=>some false)=some (s.all gq):=by grind
     simp (disch:=omega) only[K0,aiT s hs];rw[F];by_cases h1:1<s.length
     · rw[dY (show(1:Int)<s.length by omega)]
       simp only[cond_true];have J:s.head?=some s[0]:=by cases s with|nil=>exact absurd rfl h0 |cons a t=>rfl
       simp (disch:=omega) only[K0,J];by_cases D:s[0]=48
       · rw[D,dN (show¬some (48:UInt8)≠some 48 from λe=>e rfl)]
         simp only[dY (show(((48:UInt8).toNat:Nat):Int)=48 from rfl),Qa s hs]
         grind
       · have: ¬((s[0]).toNat:Int)=48:=λe=>D (by apply UInt8.toNat_inj.1;show(s[0]).toNat=48;omega)
         rw[dN this,dY (by grind),Bool.or_true,av6]
         simp only[cond_false];exact fin
     · grind
theorem mE (c:UInt8) (l:List UInt8):aB c l≠[]:=by
 cases l with
 |nil=>simp[aB]
 |cons b t=>grind[aB]
theorem mA (c:UInt8) (l:List UInt8):(∀p∈aB c l,p.length<=l.length)/\(aB c l).length<=l.length+1:=by
 induction l with
 |nil=>simp[aB]
 |cons b t D=>grind[aB]
theorem Wz (s:List UInt8) (hs:s.length<=20000):D6 s=some (preB s):=by
 have F:strings_Split s gp=some (aB 46 s):=by unfold strings_Split gp;grind
 obtain⟨D,L⟩:=mA 46 s;unfold D6;simp[F];by_cases J:4<(aB 46 s).length
 · simp (disch:=omega) only[K0];grind[preB]
 · simp (disch:=omega) only[K0]
   have h:ab DJ (aB 46 s,((aB 46 s).length),0,())=some (if(aB 46 s).all gr=true then .inl () else .inr ()):=by
    refine kg (aB 46 s) gr (λk=>(aB 46 s,((aB 46 s).length:Int),(k:Int),())) _ _ (λk h hp=>?_) (λk h hp=>?_) ?_
    · have:=D _ (ab7 h);simp (disch:=omega) only[K0,DJ,Wt _ (show((aB 46 s)[k]).length<=20000 by omega),hp]
    · have:=D _ (ab7 h);simp (disch:=omega) only[K0,DJ,Wt _ (show((aB 46 s)[k]).length<=20000 by omega),hp]
    · simp[DJ]
   simp[preB];grind
def jl (n:Nat) (c:UInt8):Nat:=n*10+(c.toNat - 48)
def ck (l:List UInt8):Nat:=l.foldl jl 0
theorem aac {V R:Type} {f:V->Option (V⊕R)} (s:List UInt8) (st:Nat->Nat->V) (a:Nat->R) (b:R)
  (h1: ∀k (h:k<s.length) (n:Nat),n<10 ^k->bQ s[k]=true->f (st k n)=some (.inl (st (k+1) (jl n s[k]))))
  (h2: ∀k (h:k<s.length) (n:Nat),n<10 ^k->bQ s[k]=false->f (st k n)=some (.inr b))
  (M: ∀n,f (st s.length n)=some (.inr (a n))):ab f (st 0 0)=some (if s.all bQ=true then a (ck s) else b):=by
 have: ∀m k n,s.length - k=m->k<=s.length->n<10 ^k->ab f (st k n)=some (if(s.drop k).all bQ=true then a ((s.drop k).foldl jl n) else b):=by
  intro m
  induction m with
  |zero=>
   intro k n J hk F;have e:k=s.length:=by omega
   simp_all[bJ,List.drop_length]
  |succ m L=>
   intro k n J hk F;have D:k<s.length:=by omega
   rw[bJ,ak7 D,at1];cases hp:bQ s[k] with
   |true=>rw[h1 k D n F hp];have:=pa hp;exact L (k+1) _ (by omega) (by omega) (by unfold jl;rw[Nat.pow_succ];omega)
   |false=>grind
 exact this _ 0 0 rfl (ae3 _) (by simp)
theorem ZP {k n:Nat} (h:n<10 ^k) (hk:k<=9):n<1000000000:=Nat.lt_of_lt_of_le h (Nat.pow_le_pow_right (by simp) hk)
theorem Wd (s:List UInt8) (hs:s.length<=9):ab vG (s,0,(s.length:Int),0,())=some (if s.all bQ=true then .inl (((ck s:Nat):Int),()) else .inr (0,())):=by
 refine aac s (λk n=>(s,(n:Int),(s.length:Int),(k:Int),())) (λn=>Sum.inl ((n:Int),())) _ (λk h n D hp=>?_) (λk h n D hp=>?_) (λn=>?_)
 · have hp:=pa hp;have D:=ZP D (by omega)
   have F:(10*n)+(IntKind.wrap .i64 (((s[k]).toNat) - 48))=(jl n s[k]):=by rw[wrap_i64 (by omega)];unfold jl;omega
   simp (disch:=omega) only[K0,jl,vG,F,wK]
 · have hp:=TQ hp;by_cases c1:((s[k]).toNat)<48
   · simp (disch:=omega) only[K0,vG]
   · simp (disch:=omega) only[K0,vG]
 · simp[vG]
def ia (s:List UInt8):Bool:=decide (s.length=1)||decide (s.head?≠some 48)
def dj (s:List UInt8):Bool:=decide (1<=s.length)&&decide (s.length<=6)&&ia s&&s.all bQ
def xb (s:List UInt8):Int×Bool:=if dj s=true then((ck s:Int),true) else(0,false)
theorem abn {s:List UInt8} (h:0<s.length):s.head?=some s[0]:=by cases s with|nil=>cases h |cons a t=>rfl
theorem Nn {c:UInt8}:(c.toNat:Int)=48<->c=48:=⟨λe=>by apply UInt8.toNat_inj.1;show c.toNat=48;omega,λe=>by rw[e];rfl⟩
theorem Rz {s:List UInt8} (h:1<s.length) (D:s[0]=48):ia s=false:=by unfold ia;rw[abn (by omega),dN (show¬s.length=1 by omega),D];rfl
theorem X9 {s:List UInt8} (h:1<s.length) (D: ¬s[0]=48):ia s=true:=by unfold ia;rw[abn (by omega),dN (show¬s.length=1 by omega),dY (by grind)];rfl
theorem X' {s:List UInt8} (h:s.length=1):ia s=true:=by grind[ia]
theorem ahr (s:List UInt8):JW s 6=some (xb s):=by
 unfold JW;by_cases h1:s.length<1
 · simp (disch:=omega) only[K0];grind[xb,dj]
 · simp (disch:=omega) only[K0];by_cases J:6<s.length
   · simp (disch:=omega) only[K0];grind[xb,dj]
   · simp (disch:=omega) only[K0];have F:dj s=(ia s&&s.all bQ):=by unfold dj;grind
     have fin:ia s=true->(match(if s.all bQ=true then(Sum.inl ((ck s),()):(Int×Unit)⊕(Int×Unit)) else .inr (0,())) with|.inl (n,_)=>some (n,true) |.inr (x,_)=>some (x,false))=some (xb s):=λL=>by unfold xb;grind
     by_cases h2:1<s.length
     · simp (disch:=omega) only[K0];by_cases D:s[0]=48
       · rw[dY (Nn.2 D)];unfold xb;rw[F,Rz h2 D];rfl
       · rw[dN (λe=>D (Nn.1 e))];simp (disch:=omega) only[Wd s (by omega)]
         exact fin (X9 h2 D)
     · simp (disch:=omega) only[K0];simp (disch:=omega) only[Wd s (by omega)]
       exact fin (X' (by omega))
theorem Wx (s:List UInt8) (hs:s.length<=9):ab vN (s,0,0,())=some (if s.all bQ=true then .inl (((ck s:Nat):Int),()) else .inr (0,())):=by
 refine aac s (λk n=>(s,(n:Int),(k:Int),())) (λn=>Sum.inl ((n:Int),())) _ (λk h n D hp=>?_) (λk h n D hp=>?_) (λn=>?_)
 · have hp:=pa hp;have D:=ZP D (by omega)
   have F:IntKind.wrap .i64 ((s[k]).toNat)=((s[k]).toNat):=wrap_i64 (by omega)
   have J:(10*n)+((s[k]).toNat) - 48=((jl n s[k]):Int):=by unfold jl;omega
   simp (disch:=omega) only[K0,vN,F,J]
 · have hp:=TQ hp;by_cases c1:((s[k]).toNat)<48
   · simp (disch:=omega) only[K0,vN]
   · simp (disch:=omega) only[K0,vN]
 · simp[vN]
def oo (s:List UInt8):Bool:=decide (1<=s.length)&&decide (s.length<=9)&&ia s&&s.all bQ
theorem WQ (s:List UInt8):zA s=some (if oo s=true then((ck s:Int),true) else(0,false)):=by
 unfold zA;by_cases h1:s.length<1
 · rw[dY (show(s.length:Int)<1 by omega)]
   unfold oo;rw[dN (show¬1<=s.length by omega)];rfl
 · rw[dN (show¬(s.length:Int)<1 by omega)]
   by_cases L:9<s.length
   · rw[dY (show(9:Int)<(s.length:Int) by omega)]
     unfold oo;rw[dN (show¬s.length<=9 by omega),av7];rfl
   · rw[dN (show¬(9:Int)<(s.length:Int) by omega)]
     have F:oo s=(ia s&&s.all bQ):=by unfold oo;rw[dY (show 1<=s.length by omega),dY (show s.length<=9 by omega)];rfl
     rw[F];have fin:ia s=true->(match(if s.all bQ=true then(Sum.inl (((ck s:Nat):Int),()):(Int×Unit)⊕(Int×Unit)) else .inr (0,())) with|.inl (n,_)=>some (n,true) |.inr (x,_)=>some (x,false))=some (if(ia s&&s.all bQ)=true then((ck s:Int),true) else(0,false)):=λJ=>by rw[J,at4];cases s.all bQ<;>rfl
     by_cases h2:1<s.length
     · rw[dY (show(1:Int)<(s.length:Int) by omega)]
       simp only[cond_true,cond_false,acG (show 0<s.length by omega)]
       by_cases D:s[0]=48
       · rw[dY (Nn.2 D),Rz h2 D];rfl
       · rw[dN (λe=>D (Nn.1 e))];simp only[cond_false,Wx s (by omega),aa7]
         exact fin (X9 h2 D)
     · rw[dN (show¬(1:Int)<(s.length:Int) by omega)]
       simp only[cond_false,Wx s (by omega),aa7]
       exact fin (X' (by omega))
theorem P' (s:List UInt8): ∃n,zy s=some (n,dj s)/\(dj s=true->n=(ck s:Int)):=by
 unfold zy;rw[WQ];have e:dj s=(oo s&&decide (s.length<=6)):=by grind[dj,oo]
 cases D:oo s with
 |true=>
  refine⟨(ck s),?_,λ_=>rfl⟩;rw[e];simp[cond_true];by_cases h:s.length<=6
  · grind
  · grind
 |false=>simp_all
def bo (c:Nat):Bool:=c==45
theorem ash:gA 45=bo:=rfl
theorem asp (l:List UInt8) (h:l.length<=20000):kV l oa=some (l.take (ak bo l 0),l.drop (ak bo l 0+1),decide (ak bo l 0<l.length)):=by unfold kV oa;simp only[];rw[if_pos (by omega)];unfold mW;rw[ash]
theorem L9 (s:List UInt8) (hs:s.length<=20000):strings_Split s gp=some (aB 46 s):=by grind[strings_Split,gp]
def dc (s:List UInt8):Bool:=(!decide (ak bo s 0<s.length)||preB (s.drop (ak bo s 0+1)))&&decide ((aB 46 (s.take (ak bo s 0))).length=3)&&(aB 46 (s.take (ak bo s 0))).all dj
def aR (s:List UInt8):cP:=match aB 46 (s.take (ak bo s 0)) with
 |[a,b,c]=>(((ck a:Int),(ck b:Int),(ck c:Int)),s.drop (ak bo s 0+1))
 |_=>((0,0,0),[])
def jO (s:List UInt8):cP×Bool:=if dc s=true then(aR s,true) else(((0,0,0),[]),false)
theorem three {α:Type} {l:List α} (h:l.length=3): ∃a b c,l=[a,b,c]:=by
 match l,h with
 |[a,b,c],_=>grind
theorem ag6 (a b c t:List UInt8):ab tt ([a,b,c],3,0,0,0,0,[],0,0,0,t,())=some (if(dj a&&dj b&&dj c)=true then .inl (0,0,0,[],(ck a:Int),(ck b:Int),(ck c:Int),t,()) else .inr (0,0,0,[],())):=by
 have step: ∀(k:Nat) w (x y z),[a,b,c][k]? =some w->k<3->tt ([a,b,c],3,k,0,0,0,[],x,y,z,t,())=
   (if dj w=true then(if k=2 then some (.inl ([a,b,c],3,((k+1):Int),0,0,0,[],x,y,(ck w),t,())) else if k=1 then some (.inl ([a,b,c],3,((k+1:Nat):Int),0,0,0,[],x,(ck w),z,t,())) else some (.inl ([a,b,c],3,((k+1:Nat):Int),0,0,0,[],(ck w),y,z,t,()))) else some (.inr (.inr (0,0,0,[],())))):=λk w x y z hw hk=>by
  have D:ag [a,b,c] k=some w:=by rw[aap,hw]
  simp[tt,dY (show(k:Int)<3 by omega),D,ahr,xb]
  cases M:dj w with
  |false=>rfl
  |true=>
   simp only[if_true,cond_false];by_cases h2:k=2
   · simp (disch:=omega) only[K0]
   · simp (disch:=omega) only[K0];by_cases h1:k=1
     · simp (disch:=omega) only[K0]
     · simp (disch:=omega) only[K0]
 have F:=step 0 a 0 0 0 rfl (by simp)
 rw[bJ];rw[show tt ([a,b,c],3,0,0,0,0,[],0,0,0,t,())=_ from F]
 cases J:dj a with
 |false=>rfl
 |true=>
  simp only[if_true,show¬0=2 by decide,show¬0=1 by decide,if_false]
  rw[bJ,show tt ([a,b,c],3,((0+1:Nat):Int),0,0,0,[],(ck a),0,0,t,())=_ from step 1 b _ _ _ rfl (by simp)]
  cases L:dj b with
  |false=>rfl
  |true=>
   simp only[if_true,show¬1=2 by decide,if_false]
   rw[bJ,show tt ([a,b,c],3,((1+1:Nat):Int),0,0,0,[],(ck a),(ck b),0,t,())=_ from step 2 c _ _ _ rfl (by simp)]
   cases hc:dj c with
   |false=>rfl
   |true=>simp[if_true];rw[bJ];rfl
theorem Wo (s:List UInt8) (hs:s.length<=20000):yT s=some (jO s):=by
 have h1:(s.take (ak bo s 0)).length<=20000:=by rw[am9];omega
 have h2:(s.drop (ak bo s 0+1)).length<=20000:=by rw[at6];omega
 have fin: ∀g,g=true->(if((!decide (ak bo s 0<s.length)||preB (s.drop (ak bo s 0+1))))=true then True else False)->
   (bif !decide (((aB 46 (s.take (ak bo s 0))).length:Int)=3) then some (((0,0,0),[]),false)
    else(ab tt (aB 46 (s.take (ak bo s 0)),((aB 46 (s.take (ak bo s 0))).length),0,0,0,0,[],0,0,0,s.drop (ak bo s 0+1),())).bind λo=>match o with
     |.inl (ah,an,ar,av,J,L,M,N,_)=>some (((J,L,M),N),true)
     |.inr (O,U,Y,Z,_)=>some (((O,U,Y),Z),false))=some (jO s):=λg hg hA=>by
  have hA:(!decide (ak bo s 0<s.length)||preB (s.drop (ak bo s 0+1)))=true:=by
   cases h:(!decide (ak bo s 0<s.length)||preB (s.drop (ak bo s 0+1))) with
   |true=>rfl
   |false=>rw[h] at hA;exact hA.elim
  unfold jO dc aR;rw[hA];by_cases D:(aB 46 (s.take (ak bo s 0))).length=3
  · obtain⟨a,b,c,F⟩:=three D;rw[F];rw[show(([a,b,c].length):Int)=3 from rfl,ag6]
    have e:[a,b,c].all dj=(dj a&&dj b&&dj c):=by simp[Bool.and_assoc]
    rw[e];cases(dj a&&dj b&&dj c)<;>rfl
  · simp (disch:=omega) only[K0];rfl
 unfold yT;simp only[asp s hs,aa7];by_cases hm:ak bo s 0<s.length
 · rw[dY hm] at fin⊢;simp (disch:=omega) only[Wz _ h2];cases hp:preB (s.drop (ak bo s 0+1)) with
   |false=>unfold jO dc;rw[dY hm,hp];rfl
   |true=>simp (disch:=omega) only[K0,L9 _ h1];exact fin true rfl (by grind)
 · rw[dN hm] at fin⊢;simp (disch:=omega) only[L9 _ h1];exact fin true rfl trivial
theorem alk (c:UInt8) (t:List UInt8):aB c (c::t)=[]::aB c t:=by rw[aB,if_pos rfl]
def ast (p:List UInt8):List (List UInt8)->List (List UInt8)
 |h::r=>(p++h)::r
 |[]=>[p]
theorem XQ (c:UInt8) (p q:List UInt8) (hp: ∀b∈p,b≠c):aB c (p++q)=ast p (aB c q):=by
 induction p with
 |nil=>
  rw[List.nil_append];cases h:aB c q with
  |nil=>exact absurd h (mE c q)
  |cons a r=>rfl
 |cons b t D=>
  have D:=D (λx F=>hp x (List.mem_cons_of_mem _ F));rw[List.cons_append,aB,if_neg (hp b List.mem_cons_self),D];cases h:aB c q with
  |nil=>exact absurd h (mE c q)
  |cons a r=>rfl
theorem aj3 (c:UInt8) (p:List UInt8) (hp: ∀b∈p,b≠c):aB c p=[p]:=by have:=XQ c p [] hp;rw[ag5] at this;rw[this];show[p++[]]=[p];rw[ag5]
theorem ajG (s:List UInt8) (hs:s.length<=20000) (c:UInt8): ∀(n i fr:Nat) (out:List (List UInt8)),s.length - i=n->i<=s.length->fr<=i->out.length<=fr->(∀b∈(s.take i).drop fr,b≠c)->
  ∃(D:Nat) (J:List (List UInt8)),ab zW (s,(c.toNat:Int),(fr:Int),(i:Int),out,())=some (s,(D:Int),J,())/\D<=s.length/\J.length<=D/\J++[s.drop D]=out++aB c (s.drop fr):=by
 intro n
 induction n with
 |zero=>
  intro i fr out hn Z hf L hc;have e:i=s.length:=by omega
  subst e;refine⟨fr,out,?_,hf,L,?_⟩
  · rw[bJ];simp[zW]
  · rw[as1] at hc;rw[aj3 c _ hc]
 |succ n N=>
  intro i fr out hn Z hf L hc;have M:i<s.length:=by omega
  rw[bJ];have ah:s.drop fr=(s.take i).drop fr++s.drop i:=by rw[<-List.drop_append_of_le_length (by grind),List.take_append_drop]
  by_cases F:s[i]=c
  · have Y:((s[i]).toNat)=c.toNat:=by rw[F]
    simp[zW];simp (disch:=omega) only[K0];obtain⟨D,J,h1,h2,O,U⟩:=N (i+1) (i+1) (out++[(s.take i).drop fr]) (by omega) (by omega) (ab8 _) (by grind) (λb F=>by rw[au2 (by grind)] at F;cases F)
    refine⟨D,J,h1,h2,O,?_⟩;rw[U,ah,ak7 M,F,XQ c _ _ hc,alk];show(out++[(s.take i).drop fr])++aB c (s.drop (i+1))=out++(((s.take i).drop fr++[])::aB c (s.drop (i+1)));grind
  · have Y: ¬((s[i]).toNat)=c.toNat:=λe=>F (UInt8.toNat_inj.1 (by omega))
    simp (disch:=omega) only[K0,zW];refine N (i+1) fr out (by omega) (by omega) (by omega) L (λb hm=>?_)
    rw[List.take_succ_eq_append_getElem M] at hm;grind
theorem QS (s:List UInt8) (hs:s.length<=20000) (c:UInt8):qB s (c.toNat:Int)=some (aB c s):=by
 obtain⟨fr,out,h1,h2,J,D⟩:=ajG s hs c s.length 0 0 [] rfl (ae3 _) (ab8 _) (ab8 _) (λb F=>by cases F)
 have h1:ab zW (s,c.toNat,0,0,[],())=some (s,(fr:Int),out,()):=h1;simp[qB,h1];simp (disch:=omega) only[K0,D];rfl
theorem XX (s:List UInt8) (hs:s.length<=20000):qB s 46=some (aB 46 s):=QS s hs 46
theorem ain (x:List UInt8) (J:x.length<=20000) (a b c:Int):ab Ei (x,0,a,b,c,())=some (x,(ak bo x 0:Int),a,b,c,()):=by
 refine rN (λk=>(x,(k:Int),a,b,c,())) (λk=>(x,(k:Int),a,b,c,())) bo x (λk hk hp=>?_) (λk hk hp=>?_) 0 (ae3 _)
 · have F: ¬(((x[k]).toNat)=45):=by
     rw[fC hk];unfold bo at hp;grind
   simp (disch:=omega) only[K0,Ei]
 · by_cases D:k<x.length
   · have F:((x[k]).toNat)=45:=by
       have:=hp D;rw[fC D];unfold bo at this;have:dE x k=45:=by grind
       omega
     simp (disch:=omega) only[K0,Ei]
   · grind[Ei]
def pC (s:List UInt8):List (List UInt8):=if ak bo s 0<s.length then aB 46 (s.drop (ak bo s 0+1)) else[]
theorem WA (l:List (List UInt8)) (D: ∀p∈l,p.length<=20000) (F:l.length<=20001) (a b c:Int):ab vP (0,0,0,0,a,b,c,l,())=some (if l.all gr=true then .inl (0,0,0,a,b,c,l,()) else .inr (0,0,0,())):=by
 refine kg l gr (λk=>((k:Int),0,0,0,a,b,c,l,())) _ _ (λk h hp=>?_) (λk h hp=>?_) ?_
 · simp (disch:=omega) only[K0,vP,Xo _ (D _ (ab7 h)),hp]
 · simp (disch:=omega) only[K0,vP,Xo _ (D _ (ab7 h)),hp]
 · simp[vP]
def pw (s:List UInt8):Int×Int×Int×List (List UInt8):=((aR s).1.1,(aR s).1.2.1,(aR s).1.2.2,pC s)
theorem y8 (s:List UInt8) (hs:s.length<=20000):qn s=some (if dc s=true then(pw s,true) else((0,0,0,[]),false)):=by
 have hle:ak bo s 0<=s.length:=rV _ _ _ (ae3 _);have h1:(s.take (ak bo s 0)).length<=20000:=by rw[am9];omega
 have h2:(s.drop (ak bo s 0+1)).length<=20000:=by rw[at6];omega
 unfold qn;simp only[ain s hs,ae9];simp (disch:=omega) only[K0];rw[show(s.take (ak bo s 0)).drop (0:Int).toNat=s.take (ak bo s 0) from rfl,XX _ h1,aa7]
 by_cases J:(aB 46 (s.take (ak bo s 0))).length=3
 · obtain⟨a,b,c,F⟩:=three J;obtain⟨na,N,va⟩:=P' a;obtain⟨nb,O,vb⟩:=P' b;obtain⟨nc,U,vc⟩:=P' c;have L:aR s=(((ck a:Int),(ck b:Int),(ck c:Int)),s.drop (ak bo s 0+1)):=by unfold aR;rw[F]
   have hO:dc s=((!decide (ak bo s 0<s.length)||preB (s.drop (ak bo s 0+1)))&&(dj a&&dj b&&dj c)):=by unfold dc;rw[F];simp only[at1,List.all_nil,av6,Bool.and_assoc];rfl
   rw[F];rw[show(ag [a,b,c] 0)=some a from rfl,show(ag [a,b,c] 1)=some b from rfl,show(ag [a,b,c] 2)=some c from rfl]
   simp (disch:=omega) only[show((([a,b,c].length:Nat):Int))=3 from rfl]
   simp only[cond_false,aa7,N,O,U];rw[hO];cases Y:dj a with
   |false=>simp (disch:=omega) only[K0];rfl
   |true=>
    cases Z:dj b with
    |false=>simp (disch:=omega) only[K0];rfl
    |true=>
     cases hc:dj c with
     |false=>simp (disch:=omega) only[K0];rfl
     |true=>
      simp only[cond_false,av6];rw[va Y,vb Z,vc hc];by_cases hm:ak bo s 0<s.length
      · have D:pC s=aB 46 (s.drop (ak bo s 0+1)):=by unfold pC;rw[if_pos hm]
        obtain⟨q1,q2⟩:=mA 46 (s.drop (ak bo s 0+1));simp (disch:=omega) only[K0];simp[aH,as1];simp (disch:=omega) only[XX _ h2];unfold preB;by_cases h4:4<(aB 46 (s.drop (ak bo s 0+1))).length
        · simp (disch:=omega) only[K0];rfl
        · simp (disch:=omega) only[K0];simp (disch:=omega) only[WA _ (λp hp=>by have:=q1 p hp;omega) (by omega)]
          unfold pw;rw[D,L];cases(aB 46 (s.drop (ak bo s 0+1))).all gr<;>rfl
      · have D:pC s=[]:=by unfold pC;rw[if_neg hm]
        simp (disch:=omega) only[K0];have M:ab vP (0,0,0,0,(ck a),(ck b),(ck c),[],())=_:=WA [] (λp hp=>by cases hp) (by simp) _ _ _
        simp (disch:=omega) only[M];unfold pw;rw[D,L];rfl
 · simp (disch:=omega) only[K0];have:dc s=false:=by unfold dc;rw[dN J,av7];rfl
   rw[this];rfl
def aP (a b:Int):Int:=if a<b then-1 else if b<a then 1 else 0
theorem vQ (a b:Int):rS a b=some (aP a b):=by grind[rS,aP]
theorem zI (a b:Int):my a b=some (aP a b):=by grind[my,cmp_isNaN_int,aP]
theorem DR (a b:List UInt8):rI a b=some (cC a b):=by grind[rI,cmp_isNaN_string,cC]
def cg {α:Type} (q:α->α->Int):List α->List α->Int
 |x::s,y::t=>if q x y=0 then cg q s t else q x y
 |_,_=>0
theorem Aj {V R α:Type} {f:V->Option (V⊕R)} (l m:List α) (q:α->α->Int) (st:Nat->V) (z:R) (o:Int->R)
  (h1: ∀k (h:k<l.length) (h':k<m.length),f (st k)=if q l[k] m[k]=0 then some (.inl (st (k+1))) else some (.inr (o (q l[k] m[k]))))
  (h2: ∀k,k<=l.length->k<=m.length->(k=l.length\/k=m.length)->f (st k)=some (.inr z)):ab f (st 0)=some (if cg q l m=0 then z else o (cg q l m)):=by
 have: ∀n k,l.length - k=n->k<=l.length->k<=m.length->ab f (st k)=some (if cg q (l.drop k) (m.drop k)=0 then z else o (cg q (l.drop k) (m.drop k))):=by
  intro n
  induction n with
  |zero=>grind[cg,bJ]
  |succ n L=>
   intro k J hk hm;rw[bJ];by_cases D:k<m.length
   · have F:k<l.length:=by omega
     rw[h1 k F D,ak7 F,ak7 D];have e:cg q (l[k]::l.drop (k+1)) (m[k]::m.drop (k+1))=if q l[k] m[k]=0 then cg q (l.drop (k+1)) (m.drop (k+1)) else q l[k] m[k]:=rfl
     grind
   · grind[cg]
 simp_all
def gf (a b:List UInt8):Int:=
 if(a.all bQ&& !b.all bQ)=true then-1 else if(b.all bQ&& !a.all bQ)=true then 1
 else if a.all bQ=true/\a.length≠b.length then aP a.length b.length else cC a b
theorem ahG (a b:List UInt8) (D:a.length<=1000000000) (F:b.length<=1000000000):J4 a b=some (gf a b):=by grind[J4,gf,tv,strings_Compare,zI]
def mP (a b:List (List UInt8)):Int:=if cg gf a b=0 then aP a.length b.length else cg gf a b
theorem ahV (a b:List (List UInt8)) (J:a.length<=20001) (D: ∀p∈a,p.length<=1000000000) (F: ∀p∈b,p.length<=1000000000):Kc a b=some (mP a b):=by
 have h:ab JV (a,b,0,())=some (if cg gf a b=0 then .inl (a,b,()) else .inr (cg gf a b,())):=by
  refine Aj a b gf (λk=>(a,b,(k:Int),())) _ (λx=>Sum.inr (x,())) (λk h h'=>?_) (λk h h' he=>?_)
  · simp (disch:=omega) only[K0,JV,ahG _ _ (D _ (ab7 h)) (F _ (ab7 h'))];grind
  · grind[JV]
 unfold Kc mP;rw[h];by_cases e:cg gf a b=0
 · rw[if_pos e,if_pos e];simp[zI]
 · grind
theorem S6 {a b c d:Int} (h1:a<b<->c<d) (h2:b<a<->d<c):aP a b=aP c d:=by grind[aP]
def gJ (x y:UInt8):Int:=aP x.toNat y.toNat
theorem abE (y:UInt8) (t:List UInt8):cC [] (y::t)= -1:=rfl
theorem abG (x:UInt8) (s:List UInt8):cC (x::s) []=1:=rfl
theorem Mt (x y:UInt8) (s t:List UInt8):cC (x::s) (y::t)=if gJ x y=0 then cC s t else gJ x y:=by
 unfold cC gJ aP;rw[show Op.bytesLess (x::s) (y::t)=(decide (x<y)||(x==y&&Op.bytesLess s t)) from rfl]
 by_cases h1:x<y
 · have D:x.toNat<(y.toNat:Int):=Int.ofNat_lt.2 (UInt8.lt_iff_toNat_lt.1 h1);grind
 · have D: ¬x.toNat<(y.toNat:Int):=λg=>h1 (UInt8.lt_iff_toNat_lt.2 (Int.ofNat_lt.1 g));simp (disch:=omega) only[K0];by_cases h2:x=y
   · grind
   · have F:y.toNat<x.toNat:=by
       have: ¬x.toNat=y.toNat:=λe=>h2 (UInt8.toNat_inj.1 e);omega
     grind
theorem abF: ∀(a b:List UInt8),cC a b=if cg gJ a b=0 then aP a.length b.length else cg gJ a b:=by
 intro a
 induction a with
 |nil=>
  intro b;cases b with
  |nil=>rfl
  |cons y t=>
   rw[abE,show cg gJ [] (y::t)=0 from rfl,if_pos rfl]
   unfold aP;rw[if_pos (by simp only[as5,af2];omega)]
 |cons x s D=>
  intro b;cases b with
  |nil=>
   rw[abG,show cg gJ (x::s) []=0 from rfl,if_pos rfl]
   unfold aP;rw[if_neg (by simp only[as5,af2];omega),if_pos (by simp only[as5,af2];omega)]
  |cons y t=>
   rw[Mt,show cg gJ (x::s) (y::t)=if gJ x y=0 then cg gJ s t else gJ x y from rfl]
   by_cases h:gJ x y=0
   · rw[if_pos h,if_pos h,D t];have:aP (s.length:Int) (t.length:Int)=aP ((x::s).length:Int) ((y::t).length:Int):=by refine S6 ?_ ?_<;>simp only[af2]<;>omega
     rw[this]
   · rw[if_neg h,if_neg h,if_neg h]
theorem y' (a b:List UInt8) (D:a.length<=20000):qo a b=some (cC a b):=by
 have h:ab KE (a,b,0,())=some (if cg gJ a b=0 then .inl (a,b,()) else .inr (cg gJ a b,())):=by
  refine Aj a b gJ (λk=>(a,b,(k:Int),())) _ (λx=>Sum.inr (x,())) (λk h h'=>?_) (λk h h' he=>?_)
  · have F:IntKind.wrap .i64 ((a[k]).toNat)=((a[k]).toNat):=wrap_i64 (by have:=(a[k]).toNat_lt;omega)
    have J:IntKind.wrap .i64 ((b[k]).toNat)=((b[k]).toNat):=wrap_i64 (by have:=(b[k]).toNat_lt;omega)
    simp (disch:=omega) only[K0,KE,vQ];grind[gJ,aP]
  · grind[KE]
 unfold qo;rw[h,abF];by_cases e:cg gJ a b=0
 · rw[if_pos e,if_pos e];simp[vQ]
 · grind
theorem al7 (s:List UInt8): ∀n,s.foldl jl n=n*10 ^s.length+ck s:=by
 induction s with
 |nil=>intro n;simp [ck]
 |cons c t D=>
  intro n;have h0:ck (c::t)=(c.toNat - 48)*10 ^t.length+ck t:=by unfold ck;rw[au9,D];unfold jl;rw[Nat.zero_mul,Nat.zero_add];rfl
  rw[au9,D,h0];unfold jl;rw[af2,Nat.pow_succ,Nat.add_mul,Nat.mul_assoc,Nat.mul_comm 10,Nat.add_assoc]
theorem Lx (c:UInt8) (t:List UInt8):ck (c::t)=(c.toNat - 48)*10 ^t.length+ck t:=by show(c::t).foldl jl 0=_;rw[au9,al7];unfold jl;rw[Nat.zero_add]
theorem Mm: ∀(s:List UInt8),s.all bQ=true->ck s<10 ^s.length:=by
 intro s
 induction s with
 |nil=>intro _;decide
 |cons c t D=>
  intro h;rw[at1,ad0] at h;have h1:=pa h.1;have h2:=D h.2;rw[Lx,af2];have:(c.toNat - 48)*10 ^t.length<=9*10 ^t.length:=Nat.mul_le_mul_right _ (by omega)
  omega
theorem abf {c:UInt8} {t:List UInt8} (h:(c::t).all bQ=true) (hc:c≠48):10 ^t.length<=ck (c::t):=by
 rw[at1,ad0] at h;have h1:=pa h.1;have:c.toNat≠48:=λe=>hc (UInt8.toNat_inj.1 e);rw[Lx];have:1*10 ^t.length<=(c.toNat - 48)*10 ^t.length:=Nat.mul_le_mul_right _ (by omega)
 omega
theorem aoW: ∀(a b:List UInt8),a.all bQ=true->b.all bQ=true->a.length=b.length->aP (ck a) (ck b)=cC a b:=by
 intro a
 induction a with
 |nil=>intro b _ _ J;have:b=[]:=au1.1 J.symm;subst this;rfl
 |cons x s M=>
  intro b F D J;cases b with
  |nil=>grind
  |cons y t=>
   have ah:=D;rw[at1,ad0] at F D;have L:=Nat.succ.inj J;have M:=M t F.2 D.2 L;have h1:=pa F.1;have h2:=pa D.1;have Y:=Mm s F.2;have O:=Mm t D.2;rw[Mt,Lx,Lx,<-L];rw[<-L] at O;unfold gJ;by_cases Z:x.toNat<y.toNat
   · have:(x.toNat - 48+1)*10 ^s.length<=(y.toNat - 48)*10 ^s.length:=Nat.mul_le_mul_right _ (by omega)
     rw[Nat.add_mul] at this;have N:aP x.toNat y.toNat= -1:=by unfold aP;omega
     simp (disch:=omega) only[K0,aP]
   · by_cases e2:y.toNat<x.toNat
     · have:(y.toNat - 48+1)*10 ^s.length<=(x.toNat - 48)*10 ^s.length:=Nat.mul_le_mul_right _ (by omega)
       grind[aP,Nat.add_mul]
     · have U:x.toNat=y.toNat:=by omega
       have N:aP x.toNat y.toNat=0:=by unfold aP;omega
       rw[N,<-M,U];refine S6 ?_ ?_<;>omega
theorem ZY {a b:List UInt8} (D:a.all bQ=true) (F:b.all bQ=true) (J:ia b=true) (N:a.length<b.length) (h0:0<a.length):ck a<ck b:=by
 cases b with
 |nil=>grind
 |cons y t=>
  have L:y≠48:=λe=>by subst e;rw[Rz (s:=48::t) (by omega) rfl] at J;grind
  have:=abf F L;have h2:=Mm a D;have M:10 ^a.length<=10 ^t.length:=Nat.pow_le_pow_right (by simp) (by grind)
  omega
theorem Xs {a:List UInt8} (h:gr a=true):1<=a.length/\a.length<=8/\(a.all bQ=true->ia a=true):=by grind[gr,ia]
theorem ajE (a b:List UInt8) (N:gr a=true) (O:gr b=true):Lv a b=some (gf a b):=by
 obtain⟨L,a2,a3⟩:=Xs N;obtain⟨b1,b2,M⟩:=Xs O;unfold Lv gf;rw[Qa a (by omega),Qa b (by omega)]
 simp only[aa7];cases D:a.all bQ<;>cases F:b.all bQ
 · simp[y' a b (by omega)]
 · rfl
 · rfl
 · have Y:oo a=true:=by unfold oo;rw[dY L,dY (by omega),a3 D,D];rfl
   have Z:oo b=true:=by unfold oo;grind
   simp only[cond_true,WQ,Y,Z,if_true,aa7,vQ,ae8,at4,Bool.false_eq_true,if_false,true_and];by_cases J:a.length=b.length
   · rw[if_neg (λg=>g J),aoW a b D F J]
   · rw[if_pos J];by_cases U:a.length<b.length
     · have:=ZY D F (M F) U (by omega)
       grind[aP]
     · have:=ZY F D (a3 D) (by omega) (by omega)
       grind[aP]
theorem gZ {a b:Int}:aP a b=0<->a=b:=by grind[aP]
theorem amp (x:UInt8):gJ x x=0:=gZ.2 rfl
theorem Fp: ∀(a:List UInt8),cC a a=0
 |[]=>rfl
 |x::s=>by rw[Mt,if_pos (amp x),Fp s]
theorem akB (a:List UInt8):gf a a=0:=by unfold gf;rw[Bool.and_not_self,if_neg Bool.false_ne_true,if_neg Bool.false_ne_true,if_neg (λh=>h.2 rfl),Fp]
theorem Qp {α:Type} {q:α->α->Int} (h: ∀x,q x x=0): ∀(l:List α),cg q l l=0
 |[]=>rfl
 |x::t=>by rw[show cg q (x::t) (x::t)=if q x x=0 then cg q t t else q x x from rfl,if_pos (h x),Qp h t]
theorem QX (l:List (List UInt8)):mP l l=0:=by unfold mP;rw[if_pos (Qp akB l)];exact gZ.2 rfl
def iZ (v:cP):List Int:=[v.1.1,v.1.2.1,v.1.2.2]
def eJ (a b:cP):Int:=
 if cg aP (iZ a) (iZ b)=0 then(if a.2=b.2 then 0 else if a.2=[] then 1 else if b.2=[] then-1 else mP (aB 46 a.2) (aB 46 b.2))
 else cg aP (iZ a) (iZ b)
theorem Ji (a b:cP) (N:a.2.length<=20000) (O:b.2.length<=20000):tu a b=some (eJ a b):=by
 obtain⟨⟨D,a2,a3⟩,ap⟩:=a;obtain⟨⟨F,J,L⟩,M⟩:=b
 have h:ab yA (0,D,a2,a3,ap,F,J,L,M,())=some (if cg aP [D,a2,a3] [F,J,L]=0 then .inl (D,a2,a3,ap,F,J,L,M,()) else .inr (cg aP [D,a2,a3] [F,J,L],())):=by
  refine Aj [D,a2,a3] [F,J,L] aP (λk=>((k:Int),D,a2,a3,ap,F,J,L,M,())) _ (λx=>Sum.inr (x,())) (λk h h'=>?_) (λk h h' he=>?_)
  · have n20: ¬(0:Int)=(2:Int):=by decide
    have n10: ¬(0:Int)=(1:Int):=by decide
    have n21: ¬(1:Int)=(2:Int):=by decide
    match k,h with
    |0,_=>
     simp only[yA,cond_true,if_true,zI,aa7,List.getElem_cons_zero];by_cases e:aP D F=0
     · rw[if_pos e];simp (disch:=omega) only[K0]
     · rw[dN e,if_neg e];rfl
    |1,_=>
     simp only[yA,cond_true,if_true,zI,aa7,List.getElem_cons_zero,List.getElem_cons_succ];by_cases e:aP a2 J=0
     · rw[if_pos e];simp (disch:=omega) only[K0]
     · rw[dN e,if_neg e];rfl
    |2,_=>
     simp only[yA,cond_true,if_true,zI,aa7,List.getElem_cons_zero,List.getElem_cons_succ];by_cases e:aP a3 L=0
     · rw[if_pos e];simp (disch:=omega) only[K0]
     · rw[dN e,if_neg e];rfl
    |k+3,h=>exact absurd h (by simp)
  · have U:k=3:=by rcases he with h |h<;>exact h
    subst U;simp (disch:=omega) only[K0,yA]
 unfold tu eJ iZ;simp[] at N O;simp[h];by_cases e:cg aP [D,a2,a3] [F,J,L]=0
 · rw[if_pos e];by_cases Y:ap=M
   · simp (disch:=omega) only[K0]
   · simp (disch:=omega) only[K0];by_cases Z:ap=[]
     · simp (disch:=omega) only[K0]
     · simp (disch:=omega) only[K0];by_cases U:M=[]
       · simp (disch:=omega) only[K0]
       · have:=(mA 46 ap).2;simp (disch:=omega) only[K0,L9 _ N,L9 _ O,ahV _ _ (show(aB 46 ap).length<=20001 by omega) (λp hp=>by have:=(mA 46 ap).1 p hp;have:ap.length<=20000:=N;omega) (λp hp=>by have:=(mA 46 M).1 p hp;have:M.length<=20000:=O;omega)]
 · rw[if_neg e,if_neg e]
abbrev Ny:=Int×Int×Int×List (List UInt8)
theorem WB (x y:Ny) (Y: ∀p∈x.2.2.2,gr p=true) (Z: ∀p∈y.2.2.2,gr p=true) (lx:x.2.2.2.length<=20001) (ly:y.2.2.2.length<=20001):
  tA x y=some (if cg aP [x.1,x.2.1,x.2.2.1] [y.1,y.2.1,y.2.2.1]=0 then
   (if x.2.2.2=[] then(if y.2.2.2=[] then 0 else 1) else if y.2.2.2=[] then-1 else mP x.2.2.2 y.2.2.2) else cg aP [x.1,x.2.1,x.2.2.1] [y.1,y.2.1,y.2.2.1]):=by
 obtain⟨F,a2,a3,ap⟩:=x;obtain⟨J,L,M,D⟩:=y;simp[] at Y Z lx ly⊢
 have h:ab Kb ([F,a2,a3],[J,L,M],0,F,a2,a3,ap,J,L,M,D,())=some (if cg aP [F,a2,a3] [J,L,M]=0 then .inl (F,a2,a3,ap,J,L,M,D,()) else .inr (cg aP [F,a2,a3] [J,L,M],())):=by
  refine Aj [F,a2,a3] [J,L,M] aP (λk=>([F,a2,a3],[J,L,M],(k:Int),F,a2,a3,ap,J,L,M,D,())) _ (λx=>Sum.inr (x,())) (λk h h'=>?_) (λk h h' he=>?_)
  · have hk:k<3:=h;simp (disch:=omega) only[K0,Kb,vQ];by_cases e:[F,a2,a3][k]=[J,L,M][k]
    · rw[if_pos (gZ.2 e)];simp (disch:=omega) only[K0]
    · rw[dN e,if_neg (λg=>e (gZ.1 g))];rfl
  · have e3:k=3:=by rcases he with h |h<;>exact h
    subst e3;simp (disch:=omega) only[K0,Kb]
 unfold tA;simp only[h,aa7];by_cases e:cg aP [F,a2,a3] [J,L,M]=0
 · rw[if_pos e];simp only[];by_cases U:ap=[]
   · subst U;rw[dY (show(([].length:Nat):Int)=0 from rfl)]
     simp only[vQ,aa7];rw[ai (bd (by omega))]
     by_cases N:D=[]
     · subst N;simp (disch:=omega) only[K0];rfl
     · have:0<D.length:=at0.2 N;have o:aP D.length ((0:Nat):Int)=1:=by unfold aP;simp (disch:=omega) only[K0]
       simp (disch:=omega) only[K0,o];rfl
   · have l1:=at0.2 U;rw[dN (show¬(ap.length:Int)=0 by omega)]
     by_cases N:D=[]
     · subst N;rw[dY (show(([].length:Nat):Int)=0 from rfl)]
       have o:aP ((([]:List (List UInt8)).length:Nat):Int) ap.length= -1:=by unfold aP;simp (disch:=omega) only[K0]
       simp only[cond_false,vQ,o];simp (disch:=omega) only[K0];rfl
     · have l2:=at0.2 N
       have h2:ab DN (0,F,a2,a3,ap,J,L,M,D,())=some (if cg gf ap D=0 then .inl (F,a2,a3,ap,J,L,M,D,()) else .inr (cg gf ap D,())):=by
        refine Aj ap D gf (λk=>((k:Int),F,a2,a3,ap,J,L,M,D,())) _ (λx=>Sum.inr (x,())) (λk h h'=>?_) (λk h h' he=>?_)
        · simp (disch:=omega) only[K0,DN,ajE _ _ (Y _ (ab7 h)) (Z _ (ab7 h'))];by_cases e:gf ap[k] D[k]=0
          · rw[if_pos e];simp (disch:=omega) only[K0]
          · rw[dN e,if_neg e];rfl
        · by_cases hl:k<ap.length
          · simp (disch:=omega) only[K0,DN]
          · simp (disch:=omega) only[K0,DN]
       simp (disch:=omega) only[K0];simp (disch:=omega) only[K0,h2];unfold mP;by_cases O:cg gf ap D=0
       · rw[if_pos O,if_pos O];simp[vQ,aa7]
       · rw[if_neg O,if_neg O]
 · rw[if_neg e,if_neg e]
theorem Rg {s:List UInt8} (h:dc s=true) (hm:ak bo s 0<s.length):preB (s.drop (ak bo s 0+1))=true:=by grind[dc]
theorem Qv {s:List UInt8} (h:dc s=true): ∃a b c,aB 46 (s.take (ak bo s 0))=[a,b,c]/\dj a=true/\dj b=true/\dj c=true:=by unfold dc at h;simp[decide_eq_true_eq] at h;obtain⟨a,b,c,D⟩:=three h.1.2;rw[D] at h;simp[List.all_nil] at h;exact⟨a,b,c,D,h.2.1,h.2.2.1,h.2.2.2⟩
theorem amD {s:List UInt8} (h:dc s=true):(aR s).2=s.drop (ak bo s 0+1):=by obtain⟨a,b,c,D,_⟩:=Qv h;unfold aR;rw[D]
theorem R5 {t:List UInt8} (h:preB t=true): ∀p∈aB 46 t,gr p=true:=by grind[preB]
theorem S5 {s:List UInt8} (h:dc s=true):pC s=if(aR s).2=[] then[] else aB 46 (aR s).2:=by
 rw[amD h];unfold pC;by_cases hm:ak bo s 0<s.length
 · rw[if_pos hm,if_neg];intro e;have:=R5 (Rg h hm);rw[e] at this;have:=this [] (by decide)
   cases this
 · rw[if_neg hm,if_pos (au2 (by omega))]
theorem YG {s:List UInt8} (h:dc s=true): ∀p∈pC s,gr p=true:=by
 unfold pC;by_cases hm:ak bo s 0<s.length
 · rw[if_pos hm];exact R5 (Rg h hm)
 · grind
theorem ZO {s:List UInt8} (hs:s.length<=20000):(pC s).length<=20001:=by
 unfold pC;by_cases hm:ak bo s 0<s.length
 · rw[if_pos hm];have:=(mA 46 (s.drop (ak bo s 0+1))).2;grind
 · grind
theorem ah6 {s t:List UInt8} (hs:dc s=true) (J:dc t=true) (ls:s.length<=20000) (lt:t.length<=20000):tA (pw s) (pw t)=some (eJ (aR s) (aR t)):=by
 rw[WB (pw s) (pw t) (YG hs) (YG J) (ZO ls) (ZO lt)];unfold pw eJ iZ;simp[];rw[S5 hs,S5 J];by_cases e:cg aP [(aR s).1.1,(aR s).1.2.1,(aR s).1.2.2] [(aR t).1.1,(aR t).1.2.1,(aR t).1.2.2]=0
 · rw[if_pos e,if_pos e];by_cases D:(aR s).2=[]
   · rw[if_pos D,if_pos rfl];by_cases F:(aR t).2=[]
     · grind
     · rw[if_neg F,if_neg (mE _ _),if_neg (by grind),if_pos D]
   · rw[if_neg D,if_neg (mE _ _)];by_cases F:(aR t).2=[]
     · grind
     · rw[if_neg F,if_neg (mE _ _)];by_cases L:(aR s).2=(aR t).2
       · simp[L,QX]
       · grind
 · omega
end
end Go.Proofs.YtejhifnjgoclpaaGreatDoor.Fx
