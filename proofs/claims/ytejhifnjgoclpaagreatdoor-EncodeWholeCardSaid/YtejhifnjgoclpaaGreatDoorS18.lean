/- Parts of the proofs, put together by a program. -/
import Derived.Test.YtejhifnjgoclpaaGreatDoorS17
import Derived.Shelf.Strings.Split
set_option linter.unusedVariables false
set_option linter.unusedSimpArgs false
open Nat renaming le_refl->ae5
open List renaming length_cons->as5,mem_cons->at3,mem_cons_self->at9,drop_zero->av0,mem_cons_of_mem->av1,not_mem_nil->av6
namespace Go.Proofs
open Go.Shelf
def Tryz.akI:Go.Shelf.Ren:=⟨fun|146=>189 |221=>295 |268=>373 |138=>374 |143=>375 |195=>417 |197=>418 |218=>419 |219=>393 |260=>442 |217=>427 |225=>428 |224=>429 |267=>430 |266=>446 |314=>447 |n=>n,fun|9=>9 |31=>22 |3=>3 |4=>4 |0=>0 |105=>522 |21=>21 |5=>5 |46=>260 |119=>548 |139=>551 |138=>550 |146=>545 |51=>102 |n=>n,fun|1=>1 |3=>2 |4=>3 |n=>n⟩
theorem Tryz.Td:Go.Proofs.Lays.n146 Tryz.prog Tryz.akI:={
 mixed:=by kernel_rfl
 f138:=Tryz.func374.trans (congrArg some (by kernel_rfl))
 f143:=Tryz.func375.trans (congrArg some (by kernel_rfl))
 f146:=Tryz.func189.trans (congrArg some (by kernel_rfl))
 f195:=Tryz.func417.trans (congrArg some (by kernel_rfl))
 f197:=Tryz.func418.trans (congrArg some (by kernel_rfl))
 f217:=Tryz.func427.trans (congrArg some (by kernel_rfl))
 f218:=Tryz.func419.trans (congrArg some (by kernel_rfl))
 f219:=Tryz.func393.trans (congrArg some (by kernel_rfl))
 f221:=Tryz.func295.trans (congrArg some (by kernel_rfl))
 f224:=Tryz.func429.trans (congrArg some (by kernel_rfl))
 f225:=Tryz.func428.trans (congrArg some (by kernel_rfl))
 f260:=Tryz.func442.trans (congrArg some (by kernel_rfl))
 f266:=Tryz.func446.trans (congrArg some (by kernel_rfl))
 f267:=Tryz.func430.trans (congrArg some (by kernel_rfl))
 f268:=Tryz.func373.trans (congrArg some (by kernel_rfl))
 f314:=Tryz.func447.trans (congrArg some (by kernel_rfl))
 t0:=Tryz.underlying0
 a0:=Tryz.isAgg0
 z0:=Tryz.sizeOf0
 v0:=Tryz.zeroValue0
 t3:=Tryz.underlying3
 a3:=Tryz.isAgg3
 z3:=Tryz.sizeOf3
 v3:=Tryz.zeroValue3
 t4:=Tryz.underlying4
 a4:=Tryz.isAgg4
 z4:=Tryz.sizeOf4
 v4:=Tryz.zeroValue4
 t5:=Tryz.underlying5
 a5:=Tryz.isAgg5
 z5:=Tryz.sizeOf5
 v5:=Tryz.zeroValue5
 t9:=Tryz.underlying9
 a9:=Tryz.isAgg9
 z9:=Tryz.sizeOf9
 v9:=Tryz.zeroValue9
 t21:=Tryz.underlying21
 a21:=Tryz.isAgg21
 z21:=Tryz.sizeOf21
 v21:=Tryz.zeroValue21
 t31:=Tryz.underlying22
 a31:=Tryz.isAgg22
 z31:=Tryz.sizeOf22
 v31:=Tryz.zeroValue22
 t46:=Tryz.underlying260
 a46:=Tryz.isAgg260
 z46:=Tryz.sizeOf260
 v46:=Tryz.zeroValue260
 t51:=Tryz.underlying102
 a51:=Tryz.isAgg102
 z51:=Tryz.sizeOf102
 v51:=Tryz.zeroValue102
 t105:=Tryz.underlying522
 a105:=Tryz.isAgg522
 z105:=Tryz.sizeOf522
 v105:=Tryz.zeroValue522
 t119:=Tryz.underlying548
 a119:=Tryz.isAgg548
 z119:=Tryz.sizeOf548
 t138:=Tryz.underlying550
 a138:=Tryz.isAgg550
 z138:=Tryz.sizeOf550
 v138:=Tryz.zeroValue550
 t139:=Tryz.underlying551
 a139:=Tryz.isAgg551
 z139:=Tryz.sizeOf551
 v139:=Tryz.zeroValue551
 t146:=Tryz.underlying545
 a146:=Tryz.isAgg545
 z146:=Tryz.sizeOf545
 v146:=Tryz.zeroValue545
 g1:=by kernel_rfl
 g3:=by kernel_rfl
 g4:=by kernel_rfl}
end Go.Proofs
namespace Go.Proofs.YtejhifnjgoclpaaGreatDoor.Fx
open Go.RowKit
set_option maxRecDepth 1000000
noncomputable section
theorem index_hit (c:UInt8): ∀(a r:List UInt8),c∉a->Lib.indexByte (a++c::r) c=(a.length:Int)
 |[],r,_=>by
  show(if c==c then(0:Int) else _)=0
  rw[beq_self_eq_true,if_pos rfl]
 |b::a,r,h=>by
  have D:(b==c)=false:=beq_eq_false_iff_ne.2 fun e=>h (by rw[e];exact at9)
  have F:=index_hit c a r (fun q=>h (av1 _ q));show(if b==c then(0:Int) else if Lib.indexByte (a++c::r) c== -1 then-1 else Lib.indexByte (a++c::r) c+1)=_
  rw[D,if_neg (by decide),F,if_neg (by simp),as5]
  rfl
theorem Y7 (c:UInt8): ∀(l:List UInt8),c∈l-> ∃a r,l=a++c::r/\c∉a
 |[],h=>(av6 h).elim
 |x::t,h=>by
  by_cases e:x=c
  · exact⟨[],t,by rw[e];rfl,av6⟩
  · have:c∈t:=by
      rcases at3.1 h with q |q
      · exact absurd q.symm e
      · exact q
    obtain⟨a,r,h1,h2⟩:=Y7 c t this;refine⟨x::a,r,by rw[h1];rfl,fun q=>?_⟩
    rcases at3.1 q with q |q
    · exact e q.symm
    · exact h2 q
theorem Ys (c:UInt8): ∀(a r:List UInt8),c∉a->aB c (a++c::r)=a::aB c r
 |[],r,_=>by show(if c=c then[]::aB c r else _)=_;rw[if_pos rfl]
 |b::a,r,h=>by
  have D: ¬b=c:=fun e=>h (by rw[e];exact at9)
  have F:=Ys c a r (fun q=>h (av1 _ q));show(if b=c then[]::aB c (a++c::r) else match aB c (a++c::r) with|h::r=>(b::h)::r |[]=>[[b]])=_
  rw[if_neg D,F]
theorem ZD (c:UInt8): ∀(l:List UInt8),c∉l->aB c l=[l]
 |[],_=>rfl
 |b::a,h=>by
  have D: ¬b=c:=fun e=>h (by rw[e];exact at9)
  have F:=ZD c a (fun q=>h (av1 _ q));show(if b=c then[]::aB c a else match aB c a with|h::r=>(b::h)::r |[]=>[[b]])=_
  rw[if_neg D,F]
theorem ZE (c:UInt8): ∀(k:Nat) (l:List UInt8),l.count c=k->Lib.splitB ⟨#[c]⟩ 0 k ⟨l.toArray⟩=(aB c l).map fun p=>(⟨p.toArray⟩:ByteArray)
 |0,l,h=>by have:c∉l:=List.count_eq_zero.1 h;rw[ZD c l this];rfl
 |k+1,l,h=>by
  have hc:c∈l:=List.count_pos_iff.1 (by omega)
  obtain⟨a,r,rfl,D⟩:=Y7 c l hc;have N:r.count c=k:=by rw[List.count_append,List.count_cons_self,List.count_eq_zero.2 D] at h;omega
  have M:Lib.indexB ⟨(a++c::r).toArray⟩ ⟨#[c]⟩=(a.length:Int):=by show Lib.index (a++c::r) [c]=_;rw[Lib.index_one,index_hit c a r D]
  have U:=ZE c k r N;show(if Lib.indexB ⟨(a++c::r).toArray⟩ ⟨#[c]⟩== -1 then _ else _::Lib.splitB ⟨#[c]⟩ 0 k _)=_
  rw[M,if_neg (by simp),Ys c a r D,Int.toNat_natCast,Sw]
  have F:((a++c::r).take (a.length+0)).drop 0=a:=by rw[Nat.add_zero,av0,List.take_left]
  have J:(ByteArray.mk (a++c::r).toArray).extract (a.length+(⟨#[c]⟩:ByteArray).size) (ByteArray.mk (a++c::r).toArray).size=⟨r.toArray⟩:=by
   have O:(ByteArray.mk (a++c::r).toArray).size=(a++c::r).length:=by show(a++c::r).toArray.size=_;rw[List.size_toArray]
   rw[O,abv];have:(a++c::r).drop (a.length+(⟨#[c]⟩:ByteArray).size)=r:=by show(a++c::r).drop (a.length+1)=r;rw[<-List.drop_drop,List.drop_left,List.drop_succ_cons,av0]
   rw[this]
  rw[F,J,U];rfl
theorem amV (l:List UInt8) (c:UInt8) (w:World) (hl:l.length<4294967281):
  Calls Tryz.prog 189 #[.string ⟨l.toArray⟩,.string ⟨#[c]⟩] w fun e w'=>e=.returned (.slice (some ⟨w.heap.size,0,none⟩) (aB c l).length (aB c l).length)/\w'=w.alloc (.cells ((aB c l).map fun p=>Value.string ⟨p.toArray⟩).toArray 9):=by
 have hs:(⟨l.toArray⟩:ByteArray).size<4294967281:=by show l.toArray.size<_;rw[List.size_toArray];exact hl
 have h1:1<=(⟨#[c]⟩:ByteArray).size:=ae5 1;have hcb:Lib.countB ⟨l.toArray⟩ ⟨#[c]⟩=l.count c:=by show Lib.count l [c]=_;exact Lib.count_one c l
 have hle:=Lib.countB_le ⟨#[c]⟩ h1 (⟨l.toArray⟩:ByteArray).size ⟨l.toArray⟩ (ae5 _);have hlen:=Lib.splitB_all ⟨#[c]⟩ h1 0 _ ⟨l.toArray⟩ rfl
 have core:=Any.strings_genSplit_core {Tryz.Td with} (by kernel_rfl) ⟨l.toArray⟩ ⟨#[c]⟩ 0 (-1) (Lib.countB ⟨l.toArray⟩ ⟨#[c]⟩+1) w hs h1 (Nat.zero_le _)
  (fun x cc hx=>(Any.strings_Index_one {Tryz.Td with} x c _).mono fun e w' ⟨he,hw⟩=>⟨by rw[he];show _=Ending.returned (Value.int .i64 (Lib.index x.data.toList [c]));rw[Lib.index_one],hw⟩)
  ((Any.strings_Count_one {Tryz.Td with} ⟨l.toArray⟩ c w).mono fun e w' ⟨he,hw⟩=>⟨by rw[he];show _=Ending.returned (Value.int .i64 ((Lib.count l [c]:Nat):Int));rw[Lib.count_one];rfl,hw⟩)
  (by decide) (by decide) (by rw[if_pos (by decide)];omega)
 rw[Nat.add_sub_cancel,hlen] at core;have e2:Lib.cellsOf (Lib.splitB ⟨#[c]⟩ 0 (Lib.countB ⟨l.toArray⟩ ⟨#[c]⟩) ⟨l.toArray⟩) (Lib.countB ⟨l.toArray⟩ ⟨#[c]⟩+1)=((Lib.splitB ⟨#[c]⟩ 0 (Lib.countB ⟨l.toArray⟩ ⟨#[c]⟩) ⟨l.toArray⟩).map Value.string).toArray:=by rw[<-hlen];exact Lib.cellsOf_full _
 have e3:Lib.splitB ⟨#[c]⟩ 0 (Lib.countB ⟨l.toArray⟩ ⟨#[c]⟩) ⟨l.toArray⟩=(aB c l).map fun p=>(⟨p.toArray⟩:ByteArray):=by rw[hcb];exact ZE c _ l rfl
 rw[e2] at core;rw[e3,List.length_map] at hlen;rw[e3,<-hlen,List.map_map] at core;have core:Calls Tryz.prog 295 #[.string ⟨l.toArray⟩,.string ⟨#[c]⟩,.int .i64 0,.int .i64 (-1)] w fun e w'=>e=.returned (.slice (some ⟨w.heap.size,0,none⟩) (aB c l).length (aB c l).length)/\w'=w.alloc (.cells ((aB c l).map fun p=>Value.string ⟨p.toArray⟩).toArray 9):=core;clear e2 e3 hlen hcb hle hs h1
 go_enter Tryz.func189,Tryz.ntmps189
 go_wp2_with fail
 refine Calls.mono core ?_;rintro e w' ⟨rfl,rfl⟩
 go_wp2_with fail
 go_ret
 exact⟨rfl,rfl⟩
noncomputable def Dw:dh Tryz.prog:=mkB 189 ⟨[(0,.c (.v .str)),(1,.c (.v .str))],[]⟩ [(false,⟨[(4,.c (.v (.sl .str)))],[]⟩)] (fun r=>(r,())) (fun x=>strings_Split x.1 x.2.1) (by kernel_rfl) (fun x o h0=>by
 obtain⟨l,s,u⟩:=x;have h:strings_Split l s=some o:=h0;clear h0;unfold strings_Split at h;split at h
 · rename_i c;split at h
   · rename_i J;have M:o=aB c l:=(Option.some.inj h).symm;subst M;refine fo.pure fun A w vals Y _ O=>?_;obtain rfl:=TP (vs:=[.string ⟨l.toArray⟩,.string ⟨#[c]⟩]) rfl O;refine(amV l c w J).mono ?_;rintro e w' ⟨rfl,rfl⟩;have F:Below w.heap.size w (w.alloc (.cells ((aB c l).map fun p=>Value.string ⟨p.toArray⟩).toArray 9)):=(Below.refl _ w).alloc (ae5 _) _;have N:(w.alloc (.cells ((aB c l).map fun p=>Value.string ⟨p.toArray⟩).toArray 9)).heap.size=w.heap.size+1:=by simp
     have Z:(aB c l).length<=4294967281:=by
      have: ∀l:List UInt8,(aB c l).length<=l.length+1:=by
       intro l
       induction l with
       |nil=>exact ae5 _
       |cons b t D=>
        show(if b=c then[]::aB c t else match aB c t with|h::r=>(b::h)::r |[]=>[[b]]).length<=_
        split
        · simp only[as5];omega
        · split
          · rename_i h r e;rw[e] at D;simp only[as5] at D⊢;omega
          · simp
      have:=this l;omega
     refine⟨_,fun b i=>A b i\/(w.heap.size<=b/\b<w.heap.size+1),rfl,iB.tO F,fun b i h=>.inl h,fun b i h=>by rw[N];exact h,rfl,_,_,rfl,.inr ⟨ae5 _,by unfold maxLen;omega,w.heap.size,0,rfl,fun i x U=>⟨.inr ⟨ae5 _,Nat.lt_succ_self _⟩,?_⟩⟩⟩
     simp [go_sem,wid,U]
   · cases h
 · cases h)
end
end Go.Proofs.YtejhifnjgoclpaaGreatDoor.Fx
