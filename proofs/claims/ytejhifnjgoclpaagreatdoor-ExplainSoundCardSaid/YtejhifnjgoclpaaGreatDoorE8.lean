/- Parts of the proofs, put together by a program. -/
import Derived.Test.YtejhifnjgoclpaaGreatDoorE7
import Derived.Lib.Bytealg
import Derived.Shelf.Strings.SlTrimAscii
import Derived.Shelf.Strings.Split
import Derived.Laws.CopyRow
import Derived.Deep.RegionLaw
set_option linter.unusedVariables false
set_option linter.unusedSimpArgs false
open Nat renaming le_refl->ab8
open Bool renaming and_eq_true->ad0,true_and->at4,false_and->av1
open List renaming length_cons->af2,mem_cons->ai3,mem_cons_self->am5,mem_cons_of_mem->as3,not_mem_nil->at9,drop_zero->au3
namespace Go.Proofs.YtejhifnjgoclpaaGreatDoor.Fx
open Go.RowKit
set_option maxRecDepth 1000000
noncomputable section
theorem amj (a b:ByteArray) (w:World):(callFunc 441 #[.string a,.string b]).run Tryz.prog w=.ok (.value (.int .i64 (Lib.compareBytes a.data.toList b.data.toList))) w:=by
 have h:=run_callFunc_extern (P:=Tryz.prog) (f:=441) Tryz.func441 (by kernel_rfl) (by kernel_rfl) (by kernel_rfl) (e:=Extern.BytealgCompare.compare) (by kernel_rfl) #[.string a,.string b] w
 rw[h,Lib.run_compareString];rfl
theorem ajj (a b:ByteArray) (w:World):Calls Tryz.prog 416 #[.string a,.string b] w λe w'=>e=.returned (.int .i64 (Lib.compareBytes a.data.toList b.data.toList))/\w=w':=by
 have hx:=amj a b
 go_enter Tryz.func416,Tryz.ntmps416
 go_wp2
 go_ret
 exact⟨rfl,rfl⟩
theorem alh (a b:ByteArray) (w:World):Calls Tryz.prog 372 #[.string a,.string b] w λe w'=>e=.returned (.int .i64 (Lib.compareBytes a.data.toList b.data.toList))/\w=w':=by
 go_enter Tryz.func372,Tryz.ntmps372
 go_wp2_with fail
 refine(ajj a b w).mono ?_;rintro e w' ⟨rfl,rfl⟩
 go_wp2_with fail
 go_ret
 exact⟨rfl,rfl⟩
theorem Dk: ∀(a b:List UInt8),Lib.compareBytes a b=cC a b
 |[],[]=>rfl
 |[],y::t=>rfl
 |x::s,[]=>rfl
 |x::s,y::t=>by
  show(if x<y then(-1:Int) else if y<x then 1 else Lib.compareBytes s t)=(if Op.bytesLess (x::s) (y::t) then(-1:Int) else if x::s=y::t then 0 else 1)
  rw[Dk s t];unfold cC;have J:Op.bytesLess (x::s) (y::t)=(decide (x<y)||(x==y&&Op.bytesLess s t)):=rfl;rw[J];by_cases h1:x<y
  · rw[if_pos h1,decide_eq_true h1,Bool.true_or,if_pos rfl]
  · rw[if_neg h1,decide_eq_false h1,Bool.false_or];by_cases h2:y<x
    · have F: ¬x=y:=λe=>by rw[<-e] at h2;exact h1 (by rw[<-e];exact h2)
      have L:(x==y)=false:=beq_eq_false_iff_ne.2 F;rw[if_pos h2,L,av1,if_neg (by decide),if_neg (λe=>F (List.cons.inj e).1)]
    · have he:x=y:=by
        apply UInt8.toNat_inj.1;rw[UInt8.lt_iff_toNat_lt] at h1 h2;omega
      subst he;rw[if_neg h2,beq_self_eq_true,at4];by_cases D:s=t
      · subst D;rw[if_pos rfl,if_pos rfl]
      · rw[if_neg D,if_neg (λe=>D (List.cons.inj e).2)]
noncomputable def ahs:dh Tryz.prog:=mkB 372 ⟨[(0,.c (.v .str)),(1,.c (.v .str))],[]⟩ [(false,⟨[(4,.c (.v (.int .i64)))],[]⟩)] (λr=>(r,())) (λx=>strings_Compare x.1 x.2.1) (by kernel_rfl) (λx o h0=>by
 obtain⟨a,b,u⟩:=x;have h:strings_Compare a b=some o:=h0;clear h0;have D:o=Lib.compareBytes a b:=by rw[Dk];exact(Option.some.inj h).symm
 subst D;exact(wM [.string ⟨a.toArray⟩,.string ⟨b.toArray⟩] (.int .i64 (Lib.compareBytes a b)) rfl rfl λw=>(alh ⟨a.toArray⟩ ⟨b.toArray⟩ w).mono λe w' ⟨h1,h2⟩=>⟨h1,QI h2⟩))
end
end Go.Proofs.YtejhifnjgoclpaaGreatDoor.Fx
namespace Go.Proofs
open Go.Shelf
def Tryz.akH:Go.Shelf.Ren:=⟨λ|160=>415 |232=>435 |231=>434 |227=>436 |234=>438 |233=>437 |236=>440 |235=>439 |228=>450 |271=>452 |151=>451 |197=>418 |120=>456 |152=>455 |260=>442 |137=>458 |119=>459 |224=>429 |225=>428 |217=>427 |266=>446 |n=>n,λ|9=>9 |4=>4 |3=>3 |5=>5 |117=>539 |116=>538 |0=>0 |124=>542 |21=>21 |105=>522 |46=>260 |119=>548 |139=>551 |138=>550 |n=>n,λ|3=>2 |4=>3 |n=>n⟩
theorem Tryz.aqC:Go.Proofs.Lays.n160 Tryz.prog Tryz.akH:={
 mixed:=by kernel_rfl
 f119:=Tryz.func459.trans (congrArg some (by kernel_rfl))
 f120:=Tryz.func456.trans (congrArg some (by kernel_rfl))
 f137:=Tryz.func458.trans (congrArg some (by kernel_rfl))
 f151:=Tryz.func451.trans (congrArg some (by kernel_rfl))
 f152:=Tryz.func455.trans (congrArg some (by kernel_rfl))
 f160:=Tryz.func415.trans (congrArg some (by kernel_rfl))
 f197:=Tryz.func418.trans (congrArg some (by kernel_rfl))
 f217:=Tryz.func427.trans (congrArg some (by kernel_rfl))
 f224:=Tryz.func429.trans (congrArg some (by kernel_rfl))
 f225:=Tryz.func428.trans (congrArg some (by kernel_rfl))
 f227:=Tryz.func436.trans (congrArg some (by kernel_rfl))
 f228:=Tryz.func450.trans (congrArg some (by kernel_rfl))
 f231:=Tryz.func434.trans (congrArg some (by kernel_rfl))
 f232:=Tryz.func435.trans (congrArg some (by kernel_rfl))
 f233:=Tryz.func437.trans (congrArg some (by kernel_rfl))
 f234:=Tryz.func438.trans (congrArg some (by kernel_rfl))
 f235:=Tryz.func439.trans (congrArg some (by kernel_rfl))
 f236:=Tryz.func440.trans (congrArg some (by kernel_rfl))
 f260:=Tryz.func442.trans (congrArg some (by kernel_rfl))
 f266:=Tryz.func446.trans (congrArg some (by kernel_rfl))
 f271:=Tryz.func452.trans (congrArg some (by kernel_rfl))
 t0:=Tryz.underlying0
 a0:=Tryz.isAgg0
 z0:=Tryz.sizeOf0
 v0:=Tryz.zeroValue0
 t3:=Tryz.underlying3
 a3:=Tryz.isAgg3
 z3:=Tryz.sizeOf3
 v3:=Tryz.zeroValue3
 t4:=Tryz.underlying4
 a4:=Tryz.isAgg4
 z4:=Tryz.sizeOf4
 v4:=Tryz.zeroValue4
 t5:=Tryz.underlying5
 a5:=Tryz.isAgg5
 z5:=Tryz.sizeOf5
 v5:=Tryz.zeroValue5
 t9:=Tryz.underlying9
 a9:=Tryz.isAgg9
 z9:=Tryz.sizeOf9
 v9:=Tryz.zeroValue9
 t21:=Tryz.underlying21
 a21:=Tryz.isAgg21
 z21:=Tryz.sizeOf21
 v21:=Tryz.zeroValue21
 t46:=Tryz.underlying260
 a46:=Tryz.isAgg260
 z46:=Tryz.sizeOf260
 v46:=Tryz.zeroValue260
 t105:=Tryz.underlying522
 a105:=Tryz.isAgg522
 z105:=Tryz.sizeOf522
 v105:=Tryz.zeroValue522
 t116:=Tryz.underlying538
 a116:=Tryz.isAgg538
 z116:=Tryz.sizeOf538
 t117:=Tryz.underlying539
 a117:=Tryz.isAgg539
 z117:=Tryz.sizeOf539
 v117:=Tryz.zeroValue539
 t119:=Tryz.underlying548
 a119:=Tryz.isAgg548
 z119:=Tryz.sizeOf548
 t124:=Tryz.underlying542
 a124:=Tryz.isAgg542
 z124:=Tryz.sizeOf542
 v124:=Tryz.zeroValue542
 t138:=Tryz.underlying550
 a138:=Tryz.isAgg550
 z138:=Tryz.sizeOf550
 v138:=Tryz.zeroValue550
 t139:=Tryz.underlying551
 a139:=Tryz.isAgg551
 z139:=Tryz.sizeOf551
 v139:=Tryz.zeroValue551
 g3:=by kernel_rfl
 g4:=by kernel_rfl}
end Go.Proofs
namespace Go.Proofs.YtejhifnjgoclpaaGreatDoor.Fx
open Go.RowKit
set_option maxRecDepth 1000000
noncomputable section
def uz:List UInt8:=[48,49,50,51,52,53,54,55,56,57]
theorem Zb (c:UInt8):uz.contains c=bQ c:=by
 unfold bQ uz;rw[Bool.eq_iff_iff];simp only[List.contains_cons,List.contains_nil,Bool.or_eq_true,beq_iff_eq,ad0,decide_eq_true_eq,Bool.false_eq_true,or_false];constructor
 · rintro(h |h |h |h |h |h |h |h |h |h)<;>(rw[h];decide)
 · rintro⟨h1,h2⟩;have h:c.toNat=48\/c.toNat=49\/c.toNat=50\/c.toNat=51\/c.toNat=52\/c.toNat=53\/c.toNat=54\/c.toNat=55\/c.toNat=56\/c.toNat=57:=by omega
   have e: ∀d:UInt8,c.toNat=d.toNat->c=d:=λd q=>UInt8.toNat_inj.1 q;rcases h with h |h |h |h |h |h |h |h |h |h
   · exact .inl (e 48 h)
   · exact .inr (.inl (e 49 h))
   · exact .inr (.inr (.inl (e 50 h)))
   · exact .inr (.inr (.inr (.inl (e 51 h))))
   · exact .inr (.inr (.inr (.inr (.inl (e 52 h)))))
   · exact .inr (.inr (.inr (.inr (.inr (.inl (e 53 h))))))
   · exact .inr (.inr (.inr (.inr (.inr (.inr (.inl (e 54 h)))))))
   · exact .inr (.inr (.inr (.inr (.inr (.inr (.inr (.inl (e 55 h))))))))
   · exact .inr (.inr (.inr (.inr (.inr (.inr (.inr (.inr (.inl (e 56 h)))))))))
   · exact .inr (.inr (.inr (.inr (.inr (.inr (.inr (.inr (.inr (e 57 h)))))))))
theorem dropWhile_nil {α:Type} {p:α->Bool}: ∀{l:List α},l.dropWhile p=[]<->l.all p=true
 |[]=>⟨λ_=>rfl,λ_=>rfl⟩
 |x::t=>by
  rw[List.dropWhile_cons,List.all_cons];rcases Bool.eq_false_or_eq_true (p x) with h |h
  · rw[h,if_pos rfl,at4];exact dropWhile_nil
  · rw[h,if_neg (by decide),av1]
    exact⟨λq=>absurd q (List.cons_ne_nil _ _),λq=>by cases q⟩
theorem amI (l:List UInt8):Lib.trimS l uz=[]<->l.all bQ=true:=by
 have hf:(λc=>uz.contains c)=bQ:=funext Zb;unfold Lib.trimS Lib.trimLeftS Lib.trimRightS;rw[hf];constructor
 · intro h;rw[dropWhile_nil,List.all_reverse] at h;rw[<-List.all_reverse];have e:=List.takeWhile_append_dropWhile (p:=bQ) (l:=l.reverse);rw[<-e,List.all_append,h,Bool.and_true];exact List.all_takeWhile
 · intro h;have:l.reverse.dropWhile bQ=[]:=dropWhile_nil.2 (by rw[List.all_reverse];exact h)
   rw[this];rfl
theorem ap0 (w:World):(zeroValue 538).run Tryz.prog w=.ok (.agg (Array.replicate 256 (.bool false))) w:=by kernel_rfl
theorem below_drewN {B:Nat} {w w':World} (h:Below B w w') (q:Nat):Below B w (w'.drewN q):=by obtain⟨a,b,c,d,e⟩:=h;exact⟨a,b,c,d,e⟩
theorem akP (w:World):Calls Tryz.prog 371 #[.string ⟨#[]⟩] w λe w'=>e=.returned (.bool true)/\Below w.heap.size w w':=by
 go_enter Tryz.func371,Tryz.ntmps371
 go_wp2
 go_ret
 exact⟨rfl,Below.refl _ _⟩
theorem akO (l:List UInt8) (X:List UInt8) (hX:Hid (Lib.trimS l uz=X)) (h0:0<l.length) (hl:l.length<=1000000000) (w:World):Calls Tryz.prog 371 #[.string ⟨l.toArray⟩] w λe w'=>e=.returned (.bool (decide (X=[])))/\Below w.heap.size w w':=by
 have ht:=Any.strings_Trim_set Tryz.aqC ap0 (by kernel_rfl) ⟨l.toArray⟩ ⟨uz.toArray⟩ w (by decide) h0 (show l.toArray.size<=_ by rw[List.size_toArray];omega) (by decide) (by
  intro j b hb;have:b∈uz:=List.mem_of_getElem? hb;have hd:bQ b=true:=by rw[<-Zb];exact List.contains_iff_mem.2 this
  unfold bQ at hd;simp only[ad0,decide_eq_true_eq] at hd;omega)
 have e1:Lib.trimS (⟨l.toArray⟩:ByteArray).data.toList (⟨uz.toArray⟩:ByteArray).data.toList=X:=hX.out;rw[e1] at ht
 go_enter Tryz.func371,Tryz.ntmps371
 go_wp2_with fail
 refine Calls.mono ht ?_;rintro e w' ⟨rfl,q,rfl⟩;cases X with
 |nil=>
  go_wp2_with fail
  go_ret
  exact⟨rfl,below_drewN (((Below.refl _ w).alloc (ab8 _) _).alloc (by simp) _) q⟩
 |cons x t=>
  go_wp2_with fail
  go_ret
  exact⟨rfl,below_drewN (((Below.refl _ w).alloc (ab8 _) _).alloc (by simp) _) q⟩
noncomputable def Wn:dh Tryz.prog:=mkB 371 ⟨[(0,.c (.v .str))],[]⟩ [(false,⟨[(2,.c (.v .bool))],[]⟩)] (λr=>(r,())) (λx=>tv x.1) (by kernel_rfl) (λx o h0=>by
 obtain⟨l,u⟩:=x;have h:tv l=some o:=h0;clear h0;unfold tv at h;split at h
 · rename_i F;have J:o=l.all bQ:=(Option.some.inj h).symm;subst J;refine(wM [.string ⟨l.toArray⟩] (.bool (l.all bQ)) rfl rfl λw=>?_);by_cases h0:l=[]
   · subst h0;exact akP w
   · refine(akO l _ (Lib.hid rfl) (List.length_pos_iff.2 h0) F w).mono ?_;rintro e w' ⟨rfl,D⟩;refine⟨?_,D⟩;congr 2;rw[Bool.eq_iff_iff,decide_eq_true_eq];exact amI l
 · cases h)
end
end Go.Proofs.YtejhifnjgoclpaaGreatDoor.Fx
namespace Go.Proofs
open Go.Shelf
def Tryz.akI:Go.Shelf.Ren:=⟨λ|146=>189 |221=>295 |268=>373 |138=>374 |143=>375 |195=>417 |197=>418 |218=>419 |219=>393 |260=>442 |217=>427 |225=>428 |224=>429 |267=>430 |266=>446 |314=>447 |n=>n,λ|9=>9 |31=>22 |3=>3 |4=>4 |0=>0 |105=>522 |21=>21 |5=>5 |46=>260 |119=>548 |139=>551 |138=>550 |146=>545 |51=>102 |n=>n,λ|1=>1 |3=>2 |4=>3 |n=>n⟩
theorem Tryz.Td:Go.Proofs.Lays.n146 Tryz.prog Tryz.akI:={
 mixed:=by kernel_rfl
 f138:=Tryz.func374.trans (congrArg some (by kernel_rfl))
 f143:=Tryz.func375.trans (congrArg some (by kernel_rfl))
 f146:=Tryz.func189.trans (congrArg some (by kernel_rfl))
 f195:=Tryz.func417.trans (congrArg some (by kernel_rfl))
 f197:=Tryz.func418.trans (congrArg some (by kernel_rfl))
 f217:=Tryz.func427.trans (congrArg some (by kernel_rfl))
 f218:=Tryz.func419.trans (congrArg some (by kernel_rfl))
 f219:=Tryz.func393.trans (congrArg some (by kernel_rfl))
 f221:=Tryz.func295.trans (congrArg some (by kernel_rfl))
 f224:=Tryz.func429.trans (congrArg some (by kernel_rfl))
 f225:=Tryz.func428.trans (congrArg some (by kernel_rfl))
 f260:=Tryz.func442.trans (congrArg some (by kernel_rfl))
 f266:=Tryz.func446.trans (congrArg some (by kernel_rfl))
 f267:=Tryz.func430.trans (congrArg some (by kernel_rfl))
 f268:=Tryz.func373.trans (congrArg some (by kernel_rfl))
 f314:=Tryz.func447.trans (congrArg some (by kernel_rfl))
 t0:=Tryz.underlying0
 a0:=Tryz.isAgg0
 z0:=Tryz.sizeOf0
 v0:=Tryz.zeroValue0
 t3:=Tryz.underlying3
 a3:=Tryz.isAgg3
 z3:=Tryz.sizeOf3
 v3:=Tryz.zeroValue3
 t4:=Tryz.underlying4
 a4:=Tryz.isAgg4
 z4:=Tryz.sizeOf4
 v4:=Tryz.zeroValue4
 t5:=Tryz.underlying5
 a5:=Tryz.isAgg5
 z5:=Tryz.sizeOf5
 v5:=Tryz.zeroValue5
 t9:=Tryz.underlying9
 a9:=Tryz.isAgg9
 z9:=Tryz.sizeOf9
 v9:=Tryz.zeroValue9
 t21:=Tryz.underlying21
 a21:=Tryz.isAgg21
 z21:=Tryz.sizeOf21
 v21:=Tryz.zeroValue21
 t31:=Tryz.underlying22
 a31:=Tryz.isAgg22
 z31:=Tryz.sizeOf22
 v31:=Tryz.zeroValue22
 t46:=Tryz.underlying260
 a46:=Tryz.isAgg260
 z46:=Tryz.sizeOf260
 v46:=Tryz.zeroValue260
 t51:=Tryz.underlying102
 a51:=Tryz.isAgg102
 z51:=Tryz.sizeOf102
 v51:=Tryz.zeroValue102
 t105:=Tryz.underlying522
 a105:=Tryz.isAgg522
 z105:=Tryz.sizeOf522
 v105:=Tryz.zeroValue522
 t119:=Tryz.underlying548
 a119:=Tryz.isAgg548
 z119:=Tryz.sizeOf548
 t138:=Tryz.underlying550
 a138:=Tryz.isAgg550
 z138:=Tryz.sizeOf550
 v138:=Tryz.zeroValue550
 t139:=Tryz.underlying551
 a139:=Tryz.isAgg551
 z139:=Tryz.sizeOf551
 v139:=Tryz.zeroValue551
 t146:=Tryz.underlying545
 a146:=Tryz.isAgg545
 z146:=Tryz.sizeOf545
 v146:=Tryz.zeroValue545
 g1:=by kernel_rfl
 g3:=by kernel_rfl
 g4:=by kernel_rfl}
end Go.Proofs
namespace Go.Proofs.YtejhifnjgoclpaaGreatDoor.Fx
open Go.RowKit
set_option maxRecDepth 1000000
noncomputable section
theorem index_hit (c:UInt8): ∀(a r:List UInt8),c∉a->Lib.indexByte (a++c::r) c=(a.length:Int)
 |[],r,_=>by
  show(if c==c then(0:Int) else _)=0
  rw[beq_self_eq_true,if_pos rfl]
 |b::a,r,h=>by
  have D:(b==c)=false:=beq_eq_false_iff_ne.2 λe=>h (by rw[e];exact am5)
  have F:=index_hit c a r (λq=>h (as3 _ q));show(if b==c then(0:Int) else if Lib.indexByte (a++c::r) c== -1 then-1 else Lib.indexByte (a++c::r) c+1)=_
  rw[D,if_neg (by decide),F,if_neg (by simp),af2]
  rfl
theorem Y7 (c:UInt8): ∀(l:List UInt8),c∈l-> ∃a r,l=a++c::r/\c∉a
 |[],h=>(at9 h).elim
 |x::t,h=>by
  by_cases e:x=c
  · exact⟨[],t,by rw[e];rfl,at9⟩
  · have:c∈t:=by
      rcases ai3.1 h with q |q
      · exact absurd q.symm e
      · exact q
    obtain⟨a,r,h1,h2⟩:=Y7 c t this;refine⟨x::a,r,by rw[h1];rfl,λq=>?_⟩
    rcases ai3.1 q with q |q
    · exact e q.symm
    · exact h2 q
theorem Ys (c:UInt8): ∀(a r:List UInt8),c∉a->aB c (a++c::r)=a::aB c r
 |[],r,_=>by show(if c=c then[]::aB c r else _)=_;rw[if_pos rfl]
 |b::a,r,h=>by
  have D: ¬b=c:=λe=>h (by rw[e];exact am5)
  have F:=Ys c a r (λq=>h (as3 _ q));show(if b=c then[]::aB c (a++c::r) else match aB c (a++c::r) with|h::r=>(b::h)::r |[]=>[[b]])=_
  rw[if_neg D,F]
theorem ZD (c:UInt8): ∀(l:List UInt8),c∉l->aB c l=[l]
 |[],_=>rfl
 |b::a,h=>by
  have D: ¬b=c:=λe=>h (by rw[e];exact am5)
  have F:=ZD c a (λq=>h (as3 _ q));show(if b=c then[]::aB c a else match aB c a with|h::r=>(b::h)::r |[]=>[[b]])=_
  rw[if_neg D,F]
theorem ZE (c:UInt8): ∀(k:Nat) (l:List UInt8),l.count c=k->Lib.splitB ⟨#[c]⟩ 0 k ⟨l.toArray⟩=(aB c l).map λp=>(⟨p.toArray⟩:ByteArray)
 |0,l,h=>by have:c∉l:=List.count_eq_zero.1 h;rw[ZD c l this];rfl
 |k+1,l,h=>by
  have hc:c∈l:=List.count_pos_iff.1 (by omega)
  obtain⟨a,r,rfl,D⟩:=Y7 c l hc;have M:r.count c=k:=by rw[List.count_append,List.count_cons_self,List.count_eq_zero.2 D] at h;omega
  have L:Lib.indexB ⟨(a++c::r).toArray⟩ ⟨#[c]⟩=(a.length:Int):=by show Lib.index (a++c::r) [c]=_;rw[Lib.index_one,index_hit c a r D]
  have O:=ZE c k r M;show(if Lib.indexB ⟨(a++c::r).toArray⟩ ⟨#[c]⟩== -1 then _ else _::Lib.splitB ⟨#[c]⟩ 0 k _)=_
  rw[L,if_neg (by simp),Ys c a r D,Int.toNat_natCast,Sw]
  have F:((a++c::r).take (a.length+0)).drop 0=a:=by rw[Nat.add_zero,au3,List.take_left]
  have J:(ByteArray.mk (a++c::r).toArray).extract (a.length+(⟨#[c]⟩:ByteArray).size) (ByteArray.mk (a++c::r).toArray).size=⟨r.toArray⟩:=by
   have N:(ByteArray.mk (a++c::r).toArray).size=(a++c::r).length:=by show(a++c::r).toArray.size=_;rw[List.size_toArray]
   rw[N,abv];have:(a++c::r).drop (a.length+(⟨#[c]⟩:ByteArray).size)=r:=by show(a++c::r).drop (a.length+1)=r;rw[<-List.drop_drop,List.drop_left,List.drop_succ_cons,au3]
   rw[this]
  rw[F,J,O];rfl
theorem amV (l:List UInt8) (c:UInt8) (w:World) (hl:l.length<4294967281):
  Calls Tryz.prog 189 #[.string ⟨l.toArray⟩,.string ⟨#[c]⟩] w λe w'=>e=.returned (.slice (some ⟨w.heap.size,0,none⟩) (aB c l).length (aB c l).length)/\w'=w.alloc (.cells ((aB c l).map λp=>Value.string ⟨p.toArray⟩).toArray 9):=by
 have hs:(⟨l.toArray⟩:ByteArray).size<4294967281:=by show l.toArray.size<_;rw[List.size_toArray];exact hl
 have h1:1<=(⟨#[c]⟩:ByteArray).size:=ab8 1;have hcb:Lib.countB ⟨l.toArray⟩ ⟨#[c]⟩=l.count c:=by show Lib.count l [c]=_;exact Lib.count_one c l
 have hle:=Lib.countB_le ⟨#[c]⟩ h1 (⟨l.toArray⟩:ByteArray).size ⟨l.toArray⟩ (ab8 _);have hlen:=Lib.splitB_all ⟨#[c]⟩ h1 0 _ ⟨l.toArray⟩ rfl
 have core:=Any.strings_genSplit_core {Tryz.Td with} (by kernel_rfl) ⟨l.toArray⟩ ⟨#[c]⟩ 0 (-1) (Lib.countB ⟨l.toArray⟩ ⟨#[c]⟩+1) w hs h1 (Nat.zero_le _)
  (λx cc hx=>(Any.strings_Index_one {Tryz.Td with} x c _).mono λe w' ⟨he,hw⟩=>⟨by rw[he];show _=Ending.returned (Value.int .i64 (Lib.index x.data.toList [c]));rw[Lib.index_one],hw⟩)
  ((Any.strings_Count_one {Tryz.Td with} ⟨l.toArray⟩ c w).mono λe w' ⟨he,hw⟩=>⟨by rw[he];show _=Ending.returned (Value.int .i64 ((Lib.count l [c]:Nat):Int));rw[Lib.count_one];rfl,hw⟩)
  (by decide) (by decide) (by rw[if_pos (by decide)];omega)
 rw[Nat.add_sub_cancel,hlen] at core;have e2:Lib.cellsOf (Lib.splitB ⟨#[c]⟩ 0 (Lib.countB ⟨l.toArray⟩ ⟨#[c]⟩) ⟨l.toArray⟩) (Lib.countB ⟨l.toArray⟩ ⟨#[c]⟩+1)=((Lib.splitB ⟨#[c]⟩ 0 (Lib.countB ⟨l.toArray⟩ ⟨#[c]⟩) ⟨l.toArray⟩).map Value.string).toArray:=by rw[<-hlen];exact Lib.cellsOf_full _
 have e3:Lib.splitB ⟨#[c]⟩ 0 (Lib.countB ⟨l.toArray⟩ ⟨#[c]⟩) ⟨l.toArray⟩=(aB c l).map λp=>(⟨p.toArray⟩:ByteArray):=by rw[hcb];exact ZE c _ l rfl
 rw[e2] at core;rw[e3,List.length_map] at hlen;rw[e3,<-hlen,List.map_map] at core;have core:Calls Tryz.prog 295 #[.string ⟨l.toArray⟩,.string ⟨#[c]⟩,.int .i64 0,.int .i64 (-1)] w λe w'=>e=.returned (.slice (some ⟨w.heap.size,0,none⟩) (aB c l).length (aB c l).length)/\w'=w.alloc (.cells ((aB c l).map λp=>Value.string ⟨p.toArray⟩).toArray 9):=core;clear e2 e3 hlen hcb hle hs h1
 go_enter Tryz.func189,Tryz.ntmps189
 go_wp2_with fail
 refine Calls.mono core ?_;rintro e w' ⟨rfl,rfl⟩
 go_wp2_with fail
 go_ret
 exact⟨rfl,rfl⟩
noncomputable def Dw:dh Tryz.prog:=mkB 189 ⟨[(0,.c (.v .str)),(1,.c (.v .str))],[]⟩ [(false,⟨[(4,.c (.v (.sl .str)))],[]⟩)] (λr=>(r,())) (λx=>strings_Split x.1 x.2.1) (by kernel_rfl) (λx o h0=>by
 obtain⟨l,s,u⟩:=x;have h:strings_Split l s=some o:=h0;clear h0;unfold strings_Split at h;split at h
 · rename_i c;split at h
   · rename_i J;have L:o=aB c l:=(Option.some.inj h).symm;subst L;refine fo.pure λA w vals U _ N=>?_;obtain rfl:=TP (vs:=[.string ⟨l.toArray⟩,.string ⟨#[c]⟩]) rfl N;refine(amV l c w J).mono ?_;rintro e w' ⟨rfl,rfl⟩;have F:Below w.heap.size w (w.alloc (.cells ((aB c l).map λp=>Value.string ⟨p.toArray⟩).toArray 9)):=(Below.refl _ w).alloc (ab8 _) _;have M:(w.alloc (.cells ((aB c l).map λp=>Value.string ⟨p.toArray⟩).toArray 9)).heap.size=w.heap.size+1:=by simp
     have Y:(aB c l).length<=4294967281:=by
      have: ∀l:List UInt8,(aB c l).length<=l.length+1:=by
       intro l
       induction l with
       |nil=>exact ab8 _
       |cons b t D=>
        show(if b=c then[]::aB c t else match aB c t with|h::r=>(b::h)::r |[]=>[[b]]).length<=_
        split
        · simp only[af2];omega
        · split
          · rename_i h r e;rw[e] at D;simp only[af2] at D⊢;omega
          · simp
      have:=this l;omega
     refine⟨_,λb i=>A b i\/(w.heap.size<=b/\b<w.heap.size+1),rfl,iB.tO F,λb i h=>.inl h,λb i h=>by rw[M];exact h,rfl,_,_,rfl,.inr ⟨ab8 _,by unfold maxLen;omega,w.heap.size,0,rfl,λi x O=>⟨.inr ⟨ab8 _,Nat.lt_succ_self _⟩,?_⟩⟩⟩
     simp [go_sem,wid,O]
   · cases h
 · cases h)
theorem heap_drew (w:World):w.drew.heap=w.heap:=rfl
theorem kh (w:World) (o:Obj) (k:Nat):(w.alloc o).heap[k]? =if k=w.heap.size then some o else w.heap[k]? :=by show(w.heap.push o)[k]? =_;rw[Array.getElem?_push]
theorem QK (w:World) (c cs:Array Value) (t:TypeId):((w.alloc (.cells c t)).drew).setRow w.heap.size cs=(w.alloc (.cells cs t)).drew:=by
 have D:((w.alloc (.cells c t)).drew).heap[w.heap.size]? =some (.cells c t (0,0)):=by rw[heap_drew,kh,if_pos rfl]
 have F:(((w.alloc (.cells c t)).drew).setRow w.heap.size cs).heap=((w.alloc (.cells cs t)).drew).heap:=by
  apply Array.ext_getElem?;intro k;by_cases h:k=w.heap.size
  · rw[h,setRow_heap _ _ _ _ _ _ D,heap_drew,kh,if_pos rfl]
  · rw[setRow_other _ _ _ _ h,heap_drew,heap_drew,kh,kh,if_neg h,if_neg h]
 have e:((w.alloc (.cells c t)).drew).setRow w.heap.size cs={(w.alloc (.cells c t)).drew with heap:=(((w.alloc (.cells c t)).drew).setRow w.heap.size cs).heap}:=rfl
 rw[e,F];rfl
set_option maxHeartbeats 1600000 in
theorem arx (a b c:Int) (s:ByteArray) (w:World) (h0:0<=a) (h1:a<9223372036854775807):
  Calls Tryz.prog 445 #[.agg #[.int .i64 a,.int .i64 b,.int .i64 c,.string s],.int .i64 0] w λe w'=>e=.returned (.agg #[.int .i64 (a+1),.int .i64 0,.int .i64 0,.string ⟨#[]⟩])/\Below w.heap.size w w':=by
 have hw1:IntKind.i64.wrap 1=1:=by decide
 have hw3:IntKind.i64.wrap (a+1)=a+1:=wrap_i64 (by omega)
 have hcp:(Builtin.copy_ #[55,55] 3 #[.slice (some ⟨w.heap.size+1+1,0,none⟩) 3 3,.slice (some ⟨w.heap.size,0,none⟩) 1 3]).run Tryz.prog
   (((w.alloc (.cells #[.int .i64 a,.int .i64 b,.int .i64 c,.string s] 145)).alloc (.cells #[.int .i64 0,.int .i64 0,.int .i64 0,.string ⟨#[]⟩] 145)).alloc (.cells #[.int .i64 0,.int .i64 0,.int .i64 0,.string ⟨#[]⟩] 145)).drew=
   .ok (goInt 1) (((w.alloc (.cells #[.int .i64 a,.int .i64 b,.int .i64 c,.string s] 145)).alloc (.cells #[.int .i64 0,.int .i64 0,.int .i64 0,.string ⟨#[]⟩] 145)).alloc (.cells #[.int .i64 a,.int .i64 0,.int .i64 0,.string ⟨#[]⟩] 145)).drew:=by
  generalize hw2:(w.alloc (.cells #[.int .i64 a,.int .i64 b,.int .i64 c,.string s] 145)).alloc (.cells #[.int .i64 0,.int .i64 0,.int .i64 0,.string ⟨#[]⟩] 145)=w2;have hsz:w2.heap.size=w.heap.size+1+1:=by rw[<-hw2];simp
  have hat:w2.heap[w.heap.size]? =some (.cells #[.int .i64 a,.int .i64 b,.int .i64 c,.string s] 145 (0,0)):=by rw[<-hw2,kh,if_neg (by simp),kh,if_pos rfl]
  rw[<-hsz];refine(run_copy_row (P:=Tryz.prog) _ _ _ _ 3 w2.heap.size 0 3 3 ⟨w.heap.size,0,none⟩ 1 3 #[.int .i64 0,.int .i64 0,.int .i64 0,.string ⟨#[]⟩] 145 [.int .i64 a] (by kernel_rfl) (by kernel_rfl) (by rw[heap_drew,kh,if_pos rfl]) rfl (λj v hj=>?_) (by simp) (λv hv=>by rw[List.mem_singleton.1 hv];rfl)).trans ?_
  · have hx:((w2.alloc (.cells #[.int .i64 0,.int .i64 0,.int .i64 0,.string ⟨#[]⟩] 145)).drew).heap[w.heap.size]? =some (.cells #[.int .i64 a,.int .i64 b,.int .i64 c,.string s] 145 (0,0)):=by
      rw[heap_drew,kh,if_neg (by omega),hat]
    match j,hj with
    |0,hj=>have hv:v=.int .i64 a:=(Option.some.inj hj).symm;subst hv;show World.cell? _ ⟨w.heap.size,0+0,none⟩=_;unfold World.cell?;simp only[hx];rfl
    |(j+1),hj=>cases hj
  · rw[QK];rfl
 go_enter Tryz.func445,Tryz.ntmps445
 go_wp2_with fail
 go_region
 go_wp2_with fail
 refine bodyPost_ret (v:=.agg #[.int .i64 (a+1),.int .i64 0,.int .i64 0,.string ⟨#[]⟩]) (by simp [results,Tryz.results445,go_sem]) rfl ⟨rfl,?_⟩
 exact((((Below.refl _ w).alloc (ab8 _) _).alloc (by simp) _).alloc (by simp;omega) _).drew
set_option maxHeartbeats 1600000 in
theorem TE (a b c:Int) (s:ByteArray) (w:World) (h0:0<=b) (h1:b<9223372036854775807):
  Calls Tryz.prog 445 #[.agg #[.int .i64 a,.int .i64 b,.int .i64 c,.string s],.int .i64 1] w λe w'=>e=.returned (.agg #[.int .i64 a,.int .i64 (b+1),.int .i64 0,.string ⟨#[]⟩])/\Below w.heap.size w w':=by
 have hw1:IntKind.i64.wrap 2=2:=by decide
 have hw3:IntKind.i64.wrap (b+1)=b+1:=wrap_i64 (by omega)
 have hcp:(Builtin.copy_ #[55,55] 3 #[.slice (some ⟨w.heap.size+1+1,0,none⟩) 3 3,.slice (some ⟨w.heap.size,0,none⟩) 2 3]).run Tryz.prog
   (((w.alloc (.cells #[.int .i64 a,.int .i64 b,.int .i64 c,.string s] 145)).alloc (.cells #[.int .i64 0,.int .i64 0,.int .i64 0,.string ⟨#[]⟩] 145)).alloc (.cells #[.int .i64 0,.int .i64 0,.int .i64 0,.string ⟨#[]⟩] 145)).drew=
   .ok (goInt 2) (((w.alloc (.cells #[.int .i64 a,.int .i64 b,.int .i64 c,.string s] 145)).alloc (.cells #[.int .i64 0,.int .i64 0,.int .i64 0,.string ⟨#[]⟩] 145)).alloc (.cells #[.int .i64 a,.int .i64 b,.int .i64 0,.string ⟨#[]⟩] 145)).drew:=by
  generalize hw2:(w.alloc (.cells #[.int .i64 a,.int .i64 b,.int .i64 c,.string s] 145)).alloc (.cells #[.int .i64 0,.int .i64 0,.int .i64 0,.string ⟨#[]⟩] 145)=w2;have hsz:w2.heap.size=w.heap.size+1+1:=by rw[<-hw2];simp
  have hat:w2.heap[w.heap.size]? =some (.cells #[.int .i64 a,.int .i64 b,.int .i64 c,.string s] 145 (0,0)):=by rw[<-hw2,kh,if_neg (by simp),kh,if_pos rfl]
  rw[<-hsz];refine(run_copy_row (P:=Tryz.prog) _ _ _ _ 3 w2.heap.size 0 3 3 ⟨w.heap.size,0,none⟩ 2 3 #[.int .i64 0,.int .i64 0,.int .i64 0,.string ⟨#[]⟩] 145 [.int .i64 a,.int .i64 b] (by kernel_rfl) (by kernel_rfl) (by rw[heap_drew,kh,if_pos rfl]) rfl (λj v hj=>?_) (by simp) (λv hv=>by simp at hv;rcases hv with rfl |rfl<;>rfl)).trans ?_
  · have hx:((w2.alloc (.cells #[.int .i64 0,.int .i64 0,.int .i64 0,.string ⟨#[]⟩] 145)).drew).heap[w.heap.size]? =some (.cells #[.int .i64 a,.int .i64 b,.int .i64 c,.string s] 145 (0,0)):=by
      rw[heap_drew,kh,if_neg (by omega),hat]
    match j,hj with
    |0,hj=>have hv:v=.int .i64 a:=(Option.some.inj hj).symm;subst hv;show World.cell? _ ⟨w.heap.size,0+0,none⟩=_;unfold World.cell?;simp only[hx];rfl
    |1,hj=>have hv:v=.int .i64 b:=(Option.some.inj hj).symm;subst hv;show World.cell? _ ⟨w.heap.size,0+1,none⟩=_;unfold World.cell?;simp only[hx];rfl
    |(j+2),hj=>cases hj
  · rw[QK];rfl
 go_enter Tryz.func445,Tryz.ntmps445
 go_wp2_with fail
 go_region
 go_wp2_with fail
 refine bodyPost_ret (v:=.agg #[.int .i64 a,.int .i64 (b+1),.int .i64 0,.string ⟨#[]⟩]) (by simp [results,Tryz.results445,go_sem]) rfl ⟨rfl,?_⟩
 exact((((Below.refl _ w).alloc (ab8 _) _).alloc (by simp) _).alloc (by simp;omega) _).drew
set_option maxHeartbeats 1600000 in
theorem TD (a b c:Int) (s:ByteArray) (w:World) (h0:0<=c) (h1:c<9223372036854775807):
  Calls Tryz.prog 445 #[.agg #[.int .i64 a,.int .i64 b,.int .i64 c,.string s],.int .i64 2] w λe w'=>e=.returned (.agg #[.int .i64 a,.int .i64 b,.int .i64 (c+1),.string ⟨#[]⟩])/\Below w.heap.size w w':=by
 have hw1:IntKind.i64.wrap 3=3:=by decide
 have hw3:IntKind.i64.wrap (c+1)=c+1:=wrap_i64 (by omega)
 have hcp:(Builtin.copy_ #[55,55] 3 #[.slice (some ⟨w.heap.size+1+1,0,none⟩) 3 3,.slice (some ⟨w.heap.size,0,none⟩) 3 3]).run Tryz.prog
   (((w.alloc (.cells #[.int .i64 a,.int .i64 b,.int .i64 c,.string s] 145)).alloc (.cells #[.int .i64 0,.int .i64 0,.int .i64 0,.string ⟨#[]⟩] 145)).alloc (.cells #[.int .i64 0,.int .i64 0,.int .i64 0,.string ⟨#[]⟩] 145)).drew=
   .ok (goInt 3) (((w.alloc (.cells #[.int .i64 a,.int .i64 b,.int .i64 c,.string s] 145)).alloc (.cells #[.int .i64 0,.int .i64 0,.int .i64 0,.string ⟨#[]⟩] 145)).alloc (.cells #[.int .i64 a,.int .i64 b,.int .i64 c,.string ⟨#[]⟩] 145)).drew:=by
  generalize hw2:(w.alloc (.cells #[.int .i64 a,.int .i64 b,.int .i64 c,.string s] 145)).alloc (.cells #[.int .i64 0,.int .i64 0,.int .i64 0,.string ⟨#[]⟩] 145)=w2;have hsz:w2.heap.size=w.heap.size+1+1:=by rw[<-hw2];simp
  have hat:w2.heap[w.heap.size]? =some (.cells #[.int .i64 a,.int .i64 b,.int .i64 c,.string s] 145 (0,0)):=by rw[<-hw2,kh,if_neg (by simp),kh,if_pos rfl]
  rw[<-hsz];refine(run_copy_row (P:=Tryz.prog) _ _ _ _ 3 w2.heap.size 0 3 3 ⟨w.heap.size,0,none⟩ 3 3 #[.int .i64 0,.int .i64 0,.int .i64 0,.string ⟨#[]⟩] 145 [.int .i64 a,.int .i64 b,.int .i64 c] (by kernel_rfl) (by kernel_rfl) (by rw[heap_drew,kh,if_pos rfl]) rfl (λj v hj=>?_) (by simp) (λv hv=>by simp at hv;rcases hv with rfl |rfl |rfl<;>rfl)).trans ?_
  · have hx:((w2.alloc (.cells #[.int .i64 0,.int .i64 0,.int .i64 0,.string ⟨#[]⟩] 145)).drew).heap[w.heap.size]? =some (.cells #[.int .i64 a,.int .i64 b,.int .i64 c,.string s] 145 (0,0)):=by
      rw[heap_drew,kh,if_neg (by omega),hat]
    match j,hj with
    |0,hj=>have hv:v=.int .i64 a:=(Option.some.inj hj).symm;subst hv;show World.cell? _ ⟨w.heap.size,0+0,none⟩=_;unfold World.cell?;simp only[hx];rfl
    |1,hj=>have hv:v=.int .i64 b:=(Option.some.inj hj).symm;subst hv;show World.cell? _ ⟨w.heap.size,0+1,none⟩=_;unfold World.cell?;simp only[hx];rfl
    |2,hj=>have hv:v=.int .i64 c:=(Option.some.inj hj).symm;subst hv;show World.cell? _ ⟨w.heap.size,0+2,none⟩=_;unfold World.cell?;simp only[hx];rfl
    |(j+3),hj=>cases hj
  · rw[QK];rfl
 go_enter Tryz.func445,Tryz.ntmps445
 go_wp2_with fail
 go_region
 go_wp2_with fail
 refine bodyPost_ret (v:=.agg #[.int .i64 a,.int .i64 b,.int .i64 (c+1),.string ⟨#[]⟩]) (by simp [results,Tryz.results445,go_sem]) rfl ⟨rfl,?_⟩
 exact((((Below.refl _ w).alloc (ab8 _) _).alloc (by simp) _).alloc (by simp;omega) _).drew
theorem aoX (a b c:Int) (s:ByteArray) (p:Int) (h:p<0\/2<p) (w:World):
  Calls Tryz.prog 445 #[.agg #[.int .i64 a,.int .i64 b,.int .i64 c,.string s],.int .i64 p] w λe w'=>e=.returned (.agg #[.int .i64 0,.int .i64 0,.int .i64 0,.string ⟨#[]⟩])/\Below w.heap.size w w':=by
 rcases h with h |h
 · have h1:=decide_eq_true h
   go_enter Tryz.func445,Tryz.ntmps445
   go_wp2_with fail
   refine bodyPost_ret (v:=.agg #[.int .i64 0,.int .i64 0,.int .i64 0,.string ⟨#[]⟩]) (by simp [results,Tryz.results445,go_sem]) rfl ⟨rfl,?_⟩
   exact((Below.refl _ w).alloc (ab8 _) _).alloc (by simp) _
 · have h1: ¬p<0:=by omega
   go_enter Tryz.func445,Tryz.ntmps445
   go_wp2_with fail
   refine bodyPost_ret (v:=.agg #[.int .i64 0,.int .i64 0,.int .i64 0,.string ⟨#[]⟩]) (by simp [results,Tryz.results445,go_sem]) rfl ⟨rfl,?_⟩
   exact((Below.refl _ w).alloc (ab8 _) _).alloc (by simp) _
def Gt (v:cP):List Value:=[.int .i64 v.1.1,.int .i64 v.1.2.1,.int .i64 v.1.2.2,.string ⟨v.2.toArray⟩]
noncomputable def age:dh Tryz.prog:=mkB 445 ⟨[(0,.st (.pair (.pair (.int .i64) (.pair (.int .i64) (.int .i64))) .str)),(1,.c (.v (.int .i64)))],[]⟩ [(false,⟨[(3000004,.st (.pair (.pair (.int .i64) (.pair (.int .i64) (.int .i64))) .str))],[]⟩)] (λr=>(r,())) (λx=>mw x.1 x.2.1) (by kernel_rfl) (λx o h0=>by
 obtain⟨v,p,u⟩:=x;have h:mw v p=some o:=h0;clear h0;refine wM [.agg (Gt v).toArray,.int .i64 p] (.agg (Gt o).toArray) rfl rfl λw=>?_;unfold mw at h;split at h
 · rename_i e;subst e;split at h
   · rename_i q;have D:=(Option.some.inj h).symm;subst D;exact arx _ _ _ _ w q.1 q.2
   · cases h
 · rename_i F;split at h
   · rename_i e;subst e;split at h
     · rename_i q;have D:=(Option.some.inj h).symm;subst D;exact TE _ _ _ _ w q.1 q.2
     · cases h
   · rename_i J;split at h
     · rename_i e;subst e;split at h
       · rename_i q;have D:=(Option.some.inj h).symm;subst D;exact TD _ _ _ _ w q.1 q.2
       · cases h
     · rename_i L;have D:=(Option.some.inj h).symm;subst D;have F: ¬(p:Int)=0:=F;have J: ¬(p:Int)=1:=J;have L: ¬(p:Int)=2:=L;exact aoX _ _ _ _ p (by omega) w)
end
end Go.Proofs.YtejhifnjgoclpaaGreatDoor.Fx
