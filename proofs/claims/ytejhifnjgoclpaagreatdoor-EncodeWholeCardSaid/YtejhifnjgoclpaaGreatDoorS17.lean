/- Parts of the proofs, put together by a program. -/
import Derived.Test.YtejhifnjgoclpaaGreatDoorS16
import Derived.Shelf.Strings.SlTrimAscii
set_option linter.unusedVariables false
set_option linter.unusedSimpArgs false
open Nat renaming le_refl->ae5
open Bool renaming and_eq_true->ae7
namespace Go.Proofs
open Go.Shelf
def Tryz.akH:Go.Shelf.Ren:=⟨fun|160=>415 |232=>435 |231=>434 |227=>436 |234=>438 |233=>437 |236=>440 |235=>439 |228=>450 |271=>452 |151=>451 |197=>418 |120=>456 |152=>455 |260=>442 |137=>458 |119=>459 |224=>429 |225=>428 |217=>427 |266=>446 |n=>n,fun|9=>9 |4=>4 |3=>3 |5=>5 |117=>539 |116=>538 |0=>0 |124=>542 |21=>21 |105=>522 |46=>260 |119=>548 |139=>551 |138=>550 |n=>n,fun|3=>2 |4=>3 |n=>n⟩
theorem Tryz.aqC:Go.Proofs.Lays.n160 Tryz.prog Tryz.akH:={
 mixed:=by kernel_rfl
 f119:=Tryz.func459.trans (congrArg some (by kernel_rfl))
 f120:=Tryz.func456.trans (congrArg some (by kernel_rfl))
 f137:=Tryz.func458.trans (congrArg some (by kernel_rfl))
 f151:=Tryz.func451.trans (congrArg some (by kernel_rfl))
 f152:=Tryz.func455.trans (congrArg some (by kernel_rfl))
 f160:=Tryz.func415.trans (congrArg some (by kernel_rfl))
 f197:=Tryz.func418.trans (congrArg some (by kernel_rfl))
 f217:=Tryz.func427.trans (congrArg some (by kernel_rfl))
 f224:=Tryz.func429.trans (congrArg some (by kernel_rfl))
 f225:=Tryz.func428.trans (congrArg some (by kernel_rfl))
 f227:=Tryz.func436.trans (congrArg some (by kernel_rfl))
 f228:=Tryz.func450.trans (congrArg some (by kernel_rfl))
 f231:=Tryz.func434.trans (congrArg some (by kernel_rfl))
 f232:=Tryz.func435.trans (congrArg some (by kernel_rfl))
 f233:=Tryz.func437.trans (congrArg some (by kernel_rfl))
 f234:=Tryz.func438.trans (congrArg some (by kernel_rfl))
 f235:=Tryz.func439.trans (congrArg some (by kernel_rfl))
 f236:=Tryz.func440.trans (congrArg some (by kernel_rfl))
 f260:=Tryz.func442.trans (congrArg some (by kernel_rfl))
 f266:=Tryz.func446.trans (congrArg some (by kernel_rfl))
 f271:=Tryz.func452.trans (congrArg some (by kernel_rfl))
 t0:=Tryz.underlying0
 a0:=Tryz.isAgg0
 z0:=Tryz.sizeOf0
 v0:=Tryz.zeroValue0
 t3:=Tryz.underlying3
 a3:=Tryz.isAgg3
 z3:=Tryz.sizeOf3
 v3:=Tryz.zeroValue3
 t4:=Tryz.underlying4
 a4:=Tryz.isAgg4
 z4:=Tryz.sizeOf4
 v4:=Tryz.zeroValue4
 t5:=Tryz.underlying5
 a5:=Tryz.isAgg5
 z5:=Tryz.sizeOf5
 v5:=Tryz.zeroValue5
 t9:=Tryz.underlying9
 a9:=Tryz.isAgg9
 z9:=Tryz.sizeOf9
 v9:=Tryz.zeroValue9
 t21:=Tryz.underlying21
 a21:=Tryz.isAgg21
 z21:=Tryz.sizeOf21
 v21:=Tryz.zeroValue21
 t46:=Tryz.underlying260
 a46:=Tryz.isAgg260
 z46:=Tryz.sizeOf260
 v46:=Tryz.zeroValue260
 t105:=Tryz.underlying522
 a105:=Tryz.isAgg522
 z105:=Tryz.sizeOf522
 v105:=Tryz.zeroValue522
 t116:=Tryz.underlying538
 a116:=Tryz.isAgg538
 z116:=Tryz.sizeOf538
 t117:=Tryz.underlying539
 a117:=Tryz.isAgg539
 z117:=Tryz.sizeOf539
 v117:=Tryz.zeroValue539
 t119:=Tryz.underlying548
 a119:=Tryz.isAgg548
 z119:=Tryz.sizeOf548
 t124:=Tryz.underlying542
 a124:=Tryz.isAgg542
 z124:=Tryz.sizeOf542
 v124:=Tryz.zeroValue542
 t138:=Tryz.underlying550
 a138:=Tryz.isAgg550
 z138:=Tryz.sizeOf550
 v138:=Tryz.zeroValue550
 t139:=Tryz.underlying551
 a139:=Tryz.isAgg551
 z139:=Tryz.sizeOf551
 v139:=Tryz.zeroValue551
 g3:=by kernel_rfl
 g4:=by kernel_rfl}
end Go.Proofs
namespace Go.Proofs.YtejhifnjgoclpaaGreatDoor.Fx
open Go.RowKit
set_option maxRecDepth 1000000
noncomputable section
def uz:List UInt8:=[48,49,50,51,52,53,54,55,56,57]
theorem Zb (c:UInt8):uz.contains c=bQ c:=by
 unfold bQ uz;rw[Bool.eq_iff_iff];simp only[List.contains_cons,List.contains_nil,Bool.or_eq_true,beq_iff_eq,ae7,decide_eq_true_eq,Bool.false_eq_true,or_false];constructor
 · rintro(h |h |h |h |h |h |h |h |h |h)<;>(rw[h];decide)
 · rintro⟨h1,h2⟩;have h:c.toNat=48\/c.toNat=49\/c.toNat=50\/c.toNat=51\/c.toNat=52\/c.toNat=53\/c.toNat=54\/c.toNat=55\/c.toNat=56\/c.toNat=57:=by omega
   have e: ∀d:UInt8,c.toNat=d.toNat->c=d:=fun d q=>UInt8.toNat_inj.1 q;rcases h with h |h |h |h |h |h |h |h |h |h
   · exact .inl (e 48 h)
   · exact .inr (.inl (e 49 h))
   · exact .inr (.inr (.inl (e 50 h)))
   · exact .inr (.inr (.inr (.inl (e 51 h))))
   · exact .inr (.inr (.inr (.inr (.inl (e 52 h)))))
   · exact .inr (.inr (.inr (.inr (.inr (.inl (e 53 h))))))
   · exact .inr (.inr (.inr (.inr (.inr (.inr (.inl (e 54 h)))))))
   · exact .inr (.inr (.inr (.inr (.inr (.inr (.inr (.inl (e 55 h))))))))
   · exact .inr (.inr (.inr (.inr (.inr (.inr (.inr (.inr (.inl (e 56 h)))))))))
   · exact .inr (.inr (.inr (.inr (.inr (.inr (.inr (.inr (.inr (e 57 h)))))))))
theorem dropWhile_nil {α:Type} {p:α->Bool}: ∀{l:List α},l.dropWhile p=[]<->l.all p=true
 |[]=>⟨fun _=>rfl,fun _=>rfl⟩
 |x::t=>by
  rw[List.dropWhile_cons,List.all_cons];rcases Bool.eq_false_or_eq_true (p x) with h |h
  · rw[h,if_pos rfl,Bool.true_and];exact dropWhile_nil
  · rw[h,if_neg (by decide),Bool.false_and]
    exact⟨fun q=>absurd q (List.cons_ne_nil _ _),fun q=>by cases q⟩
theorem amI (l:List UInt8):Lib.trimS l uz=[]<->l.all bQ=true:=by
 have hf:(fun c=>uz.contains c)=bQ:=funext Zb;unfold Lib.trimS Lib.trimLeftS Lib.trimRightS;rw[hf];constructor
 · intro h;rw[dropWhile_nil,List.all_reverse] at h;rw[<-List.all_reverse];have e:=List.takeWhile_append_dropWhile (p:=bQ) (l:=l.reverse);rw[<-e,List.all_append,h,Bool.and_true];exact List.all_takeWhile
 · intro h;have:l.reverse.dropWhile bQ=[]:=dropWhile_nil.2 (by rw[List.all_reverse];exact h)
   rw[this];rfl
theorem ap0 (w:World):(zeroValue 538).run Tryz.prog w=.ok (.agg (Array.replicate 256 (.bool false))) w:=by kernel_rfl
theorem below_drewN {B:Nat} {w w':World} (h:Below B w w') (q:Nat):Below B w (w'.drewN q):=by obtain⟨a,b,c,d,e⟩:=h;exact⟨a,b,c,d,e⟩
theorem akP (w:World):Calls Tryz.prog 371 #[.string ⟨#[]⟩] w fun e w'=>e=.returned (.bool true)/\Below w.heap.size w w':=by
 go_enter Tryz.func371,Tryz.ntmps371
 go_wp2
 go_ret
 exact⟨rfl,Below.refl _ _⟩
theorem akO (l:List UInt8) (X:List UInt8) (hX:Hid (Lib.trimS l uz=X)) (h0:0<l.length) (hl:l.length<=1000000000) (w:World):Calls Tryz.prog 371 #[.string ⟨l.toArray⟩] w fun e w'=>e=.returned (.bool (decide (X=[])))/\Below w.heap.size w w':=by
 have ht:=Any.strings_Trim_set Tryz.aqC ap0 (by kernel_rfl) ⟨l.toArray⟩ ⟨uz.toArray⟩ w (by decide) h0 (show l.toArray.size<=_ by rw[List.size_toArray];omega) (by decide) (by
  intro j b hb;have:b∈uz:=List.mem_of_getElem? hb;have hd:bQ b=true:=by rw[<-Zb];exact List.contains_iff_mem.2 this
  unfold bQ at hd;simp only[ae7,decide_eq_true_eq] at hd;omega)
 have e1:Lib.trimS (⟨l.toArray⟩:ByteArray).data.toList (⟨uz.toArray⟩:ByteArray).data.toList=X:=hX.out;rw[e1] at ht
 go_enter Tryz.func371,Tryz.ntmps371
 go_wp2_with fail
 refine Calls.mono ht ?_;rintro e w' ⟨rfl,q,rfl⟩;cases X with
 |nil=>
  go_wp2_with fail
  go_ret
  exact⟨rfl,below_drewN (((Below.refl _ w).alloc (ae5 _) _).alloc (by simp) _) q⟩
 |cons x t=>
  go_wp2_with fail
  go_ret
  exact⟨rfl,below_drewN (((Below.refl _ w).alloc (ae5 _) _).alloc (by simp) _) q⟩
noncomputable def Wn:dh Tryz.prog:=mkB 371 ⟨[(0,.c (.v .str))],[]⟩ [(false,⟨[(2,.c (.v .bool))],[]⟩)] (fun r=>(r,())) (fun x=>tv x.1) (by kernel_rfl) (fun x o h0=>by
 obtain⟨l,u⟩:=x;have h:tv l=some o:=h0;clear h0;unfold tv at h;split at h
 · rename_i F;have J:o=l.all bQ:=(Option.some.inj h).symm;subst J;refine(wM [.string ⟨l.toArray⟩] (.bool (l.all bQ)) rfl rfl fun w=>?_);by_cases h0:l=[]
   · subst h0;exact akP w
   · refine(akO l _ (Lib.hid rfl) (List.length_pos_iff.2 h0) F w).mono ?_;rintro e w' ⟨rfl,D⟩;refine⟨?_,D⟩;congr 2;rw[Bool.eq_iff_iff,decide_eq_true_eq];exact amI l
 · cases h)
end
end Go.Proofs.YtejhifnjgoclpaaGreatDoor.Fx
