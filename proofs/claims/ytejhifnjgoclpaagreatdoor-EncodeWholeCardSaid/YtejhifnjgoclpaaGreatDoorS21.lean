/- Parts of the proofs, put together by a program. -/
import Derived.Test.YtejhifnjgoclpaaGreatDoorS20
import Derived.Shelf.Slices.Clone
import Derived.Shelf.Slices.CompactI
import Derived.Shelf.Slices.Cells
set_option linter.unusedVariables false
set_option linter.unusedSimpArgs false
namespace Go.Proofs
open Go.Shelf
def Tryz.ai9:Go.Shelf.Ren:=⟨fun|15=>131 |n=>n,fun|22=>55 |3=>3 |4=>4 |n=>n,fun|n=>n⟩
theorem Tryz.Ru:Go.Proofs.Lays2.n15 Tryz.prog Tryz.ai9:={
 mixed:=by kernel_rfl
 f15:=Tryz.func131.trans (congrArg some (by kernel_rfl))
 t3:=Tryz.underlying3
 a3:=Tryz.isAgg3
 z3:=Tryz.sizeOf3
 v3:=Tryz.zeroValue3
 t4:=Tryz.underlying4
 a4:=Tryz.isAgg4
 z4:=Tryz.sizeOf4
 v4:=Tryz.zeroValue4
 t22:=Tryz.underlying55
 a22:=Tryz.isAgg55
 z22:=Tryz.sizeOf55
 v22:=Tryz.zeroValue55
 i3:=by kernel_rfl}
open Go.RowKit Go.Lib in
theorem Tryz.slices_Clone_int (b off n c:Nat) (D:List Int) (w:World) (J:n<=D.length) (F:n*8<=140737488355328) (hc: ∀j,j<D.length->w.cell? ⟨b,off+j,none⟩=some (.int .i64 (D.getD j 0))):
 Calls Tryz.prog 131 #[.slice (some ⟨b,off,none⟩) n c] w fun e w'=> ∃v',e=.returned v'/\w'.ownsRow w.heap.size 3 1 v' n ((D.take n).map (Value.int .i64))/\v'≠.slice none 0 0/\Below w.heap.size w w':=Any.slices_Clone_int Tryz.Ru b off n c D w J F hc
open Go.RowKit Go.Lib in
theorem Tryz.slices_Clone_int_nil (n c:Nat) (w:World):
 Calls Tryz.prog 131 #[.slice none n c] w fun e w'=>e=.returned (.slice none 0 0)/\w'=w:=Any.slices_Clone_int_nil Tryz.Ru n c w
def Tryz.ai8:Go.Shelf.Ren:=⟨fun|16=>365 |n=>n,fun|24=>22 |9=>9 |4=>4 |n=>n,fun|n=>n⟩
theorem Tryz.Rt:Go.Proofs.Lays2.n16 Tryz.prog Tryz.ai8:={
 mixed:=by kernel_rfl
 f16:=Tryz.func365.trans (congrArg some (by kernel_rfl))
 t4:=Tryz.underlying4
 a4:=Tryz.isAgg4
 z4:=Tryz.sizeOf4
 v4:=Tryz.zeroValue4
 t9:=Tryz.underlying9
 a9:=Tryz.isAgg9
 z9:=Tryz.sizeOf9
 v9:=Tryz.zeroValue9
 t24:=Tryz.underlying22
 a24:=Tryz.isAgg22
 z24:=Tryz.sizeOf22
 v24:=Tryz.zeroValue22
 i9:=by kernel_rfl}
open Go.RowKit Go.Lib in
theorem Tryz.slices_Clone_string (b off n c:Nat) (D:List ByteArray) (w:World) (J:n<=D.length) (F:n*16<=140737488355328) (hc: ∀j,j<D.length->w.cell? ⟨b,off+j,none⟩=some (.string (D.getD j ByteArray.empty))):
 Calls Tryz.prog 365 #[.slice (some ⟨b,off,none⟩) n c] w fun e w'=> ∃v',e=.returned v'/\w'.ownsRow w.heap.size 9 1 v' n ((D.take n).map (Value.string))/\v'≠.slice none 0 0/\Below w.heap.size w w':=Any.slices_Clone_string Tryz.Rt b off n c D w J F hc
open Go.RowKit Go.Lib in
theorem Tryz.slices_Clone_string_nil (n c:Nat) (w:World):
 Calls Tryz.prog 365 #[.slice none n c] w fun e w'=>e=.returned (.slice none 0 0)/\w'=w:=Any.slices_Clone_string_nil Tryz.Rt n c w
open Go.RowKit Go.Lib in
theorem Tryz.slices_Clone_int_zero (a:Addr) (c:Nat) (w:World):
 Calls Tryz.prog 131 #[.slice (some a) 0 c] w fun e w'=> ∃v',e=.returned v'/\w'.ownsRow w.heap.size 3 1 v' 0 []/\v'≠.slice none 0 0/\Below w.heap.size w w':=Any.slices_Clone_int_zero Tryz.Ru a c w
open Go.RowKit Go.Lib in
theorem Tryz.slices_Clone_string_zero (a:Addr) (c:Nat) (w:World):
 Calls Tryz.prog 365 #[.slice (some a) 0 c] w fun e w'=> ∃v',e=.returned v'/\w'.ownsRow w.heap.size 9 1 v' 0 []/\v'≠.slice none 0 0/\Below w.heap.size w w':=Any.slices_Clone_string_zero Tryz.Rt a c w
def Tryz.ai7:Go.Shelf.Ren:=⟨fun|20=>135 |n=>n,fun|22=>55 |3=>3 |4=>4 |0=>0 |n=>n,fun|n=>n⟩
theorem Tryz.YX:Go.Proofs.Lays2.n20 Tryz.prog Tryz.ai7:={
 mixed:=by kernel_rfl
 f20:=Tryz.func135.trans (congrArg some (by kernel_rfl))
 t0:=Tryz.underlying0
 a0:=Tryz.isAgg0
 z0:=Tryz.sizeOf0
 v0:=Tryz.zeroValue0
 t3:=Tryz.underlying3
 a3:=Tryz.isAgg3
 z3:=Tryz.sizeOf3
 v3:=Tryz.zeroValue3
 t4:=Tryz.underlying4
 a4:=Tryz.isAgg4
 z4:=Tryz.sizeOf4
 v4:=Tryz.zeroValue4
 t22:=Tryz.underlying55
 a22:=Tryz.isAgg55
 z22:=Tryz.sizeOf55
 v22:=Tryz.zeroValue55
 i3:=by kernel_rfl}
open Go.RowKit Go.Lib Go.Sort in
theorem Tryz.slices_Compact_int (dS off cap:Nat) (D:List Int) (w:World) (hH:Holds (Value.int .i64) w dS off D.toArray) (F:D.length<=9223372036854775807) (sx:D.length<=cap):
 Calls Tryz.prog 135 #[.slice (some ⟨dS,off,none⟩) D.length cap] w fun e w'=>e=.returned (.slice (some ⟨dS,off,none⟩) (Lib.compact D).length cap)/\ ∃q,w'=putRow (Value.int .i64) (Sort.ahead w q) dS off (Lib.compact D++List.replicate (D.length - (Lib.compact D).length) 0).toArray:=Any.slices_Compact_int Tryz.YX dS off cap D w hH F sx
open Go.RowKit Go.Lib Go.Sort in
theorem Tryz.slices_Compact_int_empty (a:Option Addr) (cap:Nat) (w:World):
 Calls Tryz.prog 135 #[.slice a 0 cap] w fun e w'=>e=.returned (.slice a 0 cap)/\w'=w:=Any.slices_Compact_int_empty Tryz.YX a cap w
def Tryz.alu:Go.Shelf.Ren:=⟨fun|6=>132 |15=>119 |14=>224 |28=>214 |29=>215 |20=>319 |21=>320 |22=>321 |23=>322 |24=>323 |25=>324 |26=>325 |27=>326 |46=>389 |47=>310 |48=>311 |49=>390 |50=>391 |57=>426 |n=>n,fun|22=>55 |24=>3 |25=>269 |3=>3 |39=>260 |0=>0 |53=>102 |55=>146 |4=>4 |46=>355 |45=>354 |50=>198 |5=>5 |9=>9 |66=>453 |70=>457 |76=>507 |77=>91 |n=>n,fun|n=>n⟩
theorem Tryz.abX:Go.Proofs.SlLaysF.n6 Tryz.prog Tryz.alu:={
 mixed:=by kernel_rfl
 f6:=⟨Tryz.f132.name,by decide,Tryz.func132.trans (congrArg some (by kernel_rfl))⟩
 f14:=⟨Tryz.f224.name,by decide,Tryz.func224.trans (congrArg some (by kernel_rfl))⟩
 f15:=Tryz.func119.trans (congrArg some (by kernel_rfl))
 f20:=⟨Tryz.f319.name,by decide,Tryz.func319.trans (congrArg some (by kernel_rfl))⟩
 f21:=⟨Tryz.f320.name,by decide,Tryz.func320.trans (congrArg some (by kernel_rfl))⟩
 f22:=⟨Tryz.f321.name,by decide,Tryz.func321.trans (congrArg some (by kernel_rfl))⟩
 f23:=⟨Tryz.f322.name,by decide,Tryz.func322.trans (congrArg some (by kernel_rfl))⟩
 f24:=⟨Tryz.f323.name,by decide,Tryz.func323.trans (congrArg some (by kernel_rfl))⟩
 f25:=⟨Tryz.f324.name,by decide,Tryz.func324.trans (congrArg some (by kernel_rfl))⟩
 f26:=⟨Tryz.f325.name,by decide,Tryz.func325.trans (congrArg some (by kernel_rfl))⟩
 f27:=⟨Tryz.f326.name,by decide,Tryz.func326.trans (congrArg some (by kernel_rfl))⟩
 f28:=Tryz.func214.trans (congrArg some (by kernel_rfl))
 f29:=Tryz.func215.trans (congrArg some (by kernel_rfl))
 f46:=⟨Tryz.f389.name,by decide,Tryz.func389.trans (congrArg some (by kernel_rfl))⟩
 f47:=Tryz.func310.trans (congrArg some (by kernel_rfl))
 f48:=Tryz.func311.trans (congrArg some (by kernel_rfl))
 f49:=⟨Tryz.f390.name,by decide,Tryz.func390.trans (congrArg some (by kernel_rfl))⟩
 f50:=⟨Tryz.f391.name,by decide,Tryz.func391.trans (congrArg some (by kernel_rfl))⟩
 f57:=⟨Tryz.f426.name,by decide,Tryz.func426.trans (congrArg some (by kernel_rfl))⟩
 t0:=Tryz.underlying0
 a0:=Tryz.isAgg0
 z0:=Tryz.sizeOf0
 v0:=Tryz.zeroValue0
 t3:=Tryz.underlying3
 a3:=Tryz.isAgg3
 z3:=Tryz.sizeOf3
 v3:=Tryz.zeroValue3
 t4:=Tryz.underlying4
 a4:=Tryz.isAgg4
 z4:=Tryz.sizeOf4
 v4:=Tryz.zeroValue4
 t5:=Tryz.underlying5
 a5:=Tryz.isAgg5
 z5:=Tryz.sizeOf5
 v5:=Tryz.zeroValue5
 t9:=Tryz.underlying9
 a9:=Tryz.isAgg9
 z9:=Tryz.sizeOf9
 v9:=Tryz.zeroValue9
 t22:=Tryz.underlying55
 a22:=Tryz.isAgg55
 z22:=Tryz.sizeOf55
 v22:=Tryz.zeroValue55
 a24:=Tryz.isAgg3
 z24:=Tryz.sizeOf3
 t25:=Tryz.underlying269
 a25:=Tryz.isAgg269
 z25:=Tryz.sizeOf269
 v25:=Tryz.zeroValue269
 t39:=Tryz.underlying260
 a39:=Tryz.isAgg260
 z39:=Tryz.sizeOf260
 v39:=Tryz.zeroValue260
 t45:=Tryz.underlying354
 a45:=Tryz.isAgg354
 z45:=Tryz.sizeOf354
 v45:=Tryz.zeroValue354
 t46:=Tryz.underlying355
 a46:=Tryz.isAgg355
 z46:=Tryz.sizeOf355
 v46:=Tryz.zeroValue355
 t50:=Tryz.underlying198
 a50:=Tryz.isAgg198
 z50:=Tryz.sizeOf198
 v50:=Tryz.zeroValue198
 t53:=Tryz.underlying102
 a53:=Tryz.isAgg102
 z53:=Tryz.sizeOf102
 v53:=Tryz.zeroValue102
 t55:=Tryz.underlying146
 a55:=Tryz.isAgg146
 z55:=Tryz.sizeOf146
 v55:=Tryz.zeroValue146
 t66:=Tryz.underlying453
 a66:=Tryz.isAgg453
 z66:=Tryz.sizeOf453
 v66:=Tryz.zeroValue453
 t70:=Tryz.underlying457
 a70:=Tryz.isAgg457
 z70:=Tryz.sizeOf457
 v70:=Tryz.zeroValue457
 t76:=Tryz.underlying507
 a76:=Tryz.isAgg507
 z76:=Tryz.sizeOf507
 v76:=Tryz.zeroValue507
 t77:=Tryz.underlying91
 a77:=Tryz.isAgg91
 z77:=Tryz.sizeOf91
 v77:=Tryz.zeroValue91}
end Go.Proofs
namespace Go.Proofs.YtejhifnjgoclpaaGreatDoor.Fx
open Go.RowKit
set_option maxRecDepth 1000000
noncomputable section
theorem Conc.arq {E:cQ} {c:Cx} {h:Hp} {w w':World} (hC:Conc E c h w) (J:Below w.heap.size w w') {k:Nat} (hk:h k=none) {e:TypeId} {t:Ty} (M:0<wid t) {l:List (den t)} {v:Value} {xs:List Value} (F:w'.ownsRow w.heap.size e (wid t) v l.length xs) (N:ay (CR c h w) xs (aT t l)):
  ∃c',Conc E c' (bY h k (some (.row [] e t l))) w'/\SR c' (bY h k (some (.row [] e t l))) w' v (.c (.ow k 0 .all)):=by
 obtain⟨c',g1,_,g2⟩:=hC.newRow hk M (iB.tO J) (dZ.of F) (fun b D=>by
  rcases F.2 with⟨rfl,_⟩ |⟨g,cap,cur,rfl,h1,_⟩
  · cases D
  · rw[ue D];exact h1) N
 exact⟨c',g1,g2⟩
theorem aoq {c:Cx} {h:Hp} {w:World} (l:List (List UInt8)):ay (CR c h w) (l.map fun x=>Value.string ⟨x.toArray⟩) (aT .str l):=by
 induction l with
 |nil=>exact .nil
 |cons x l D=>exact .cons ⟨rfl,rfl⟩ D
theorem an7 (l:List (List UInt8)) (U:l.length<1000000):fo Tryz.prog 365 [.c (.v (.sl .str) l)] [] (.ret (.c (.ow 1 0 .all)) [(1,.row [] 9 .str l)]):=by
 intro c w vals hC O;obtain⟨v0,rfl,_,a,cap,rfl,F⟩:=As O
 have fin: ∀v' w',w'.ownsRow w.heap.size 9 1 v' l.length (l.map fun x=>Value.string ⟨x.toArray⟩)->Below w.heap.size w w'-> ∃c',ve (dW w c (aj [])) (.returned v') c' w' (.ret (.c (.ow 1 0 .all)) [(1,.row [] 9 .str l)]):=fun v' w' M J=>by
  obtain⟨c',g1,g2⟩:=hC.arq J (k:=1) rfl (e:=9) (t:=.str) (by decide) (l:=l) M (aoq l)
  have e:bY (aj []) 1 (some (aX.row [] 9 .str l))=aj [(1,.row [] 9 .str l)]:=(jh [] 1 _).symm;rw[e] at g1 g2;exact⟨c',v',rfl,g1,g2⟩
 by_cases h0:l=[]
 · subst h0;cases a with
   |none=>refine(Tryz.slices_Clone_string_nil 0 cap w).mono ?_;rintro e w' ⟨rfl,rfl⟩;exact fin _ _ ⟨rfl,.inl ⟨rfl,rfl⟩⟩ (Below.refl _ _)
   |some ad=>refine(Tryz.slices_Clone_string_zero ad cap w).mono ?_;rintro e w' ⟨v',rfl,h1,_,h2⟩;exact fin _ _ h1 h2
 · obtain⟨hle,_,b,off,rfl,N⟩:=F.resolve_left h0;refine(Tryz.slices_Clone_string b off l.length cap (l.map fun x=>⟨x.toArray⟩) w (by simp) (by omega) (fun j D=>?_)).mono ?_
   · rw[List.length_map] at D;have:=(N j l[j] (List.getElem?_eq_getElem D)).2;rw[show off+(j*wid .str+0)=off+j by simp [wid]] at this
     rw[this];simp [List.getD_eq_getElem?_getD,D]
   · rintro e w' ⟨v',rfl,g1,_,g2⟩;refine fin _ _ ?_ g2;have:((l.map fun x=>(⟨x.toArray⟩:ByteArray)).take l.length).map Value.string=l.map fun x=>Value.string ⟨x.toArray⟩:=by rw[List.take_of_length_le (by simp),List.map_map];rfl
     rw[<-this];exact g1
noncomputable def akY:dh Tryz.prog:=mkB 365 ⟨[(0,.c (.v (.sl .str)))],[]⟩ [(false,⟨[(2,.c (.own 1))],[(1,.row 9 .str)]⟩)] (fun r=>(r,())) (fun x=>Fq x.1) (by kernel_rfl) (fun x o h0=>by
 obtain⟨l,u⟩:=x;have h:Fq l=some o:=h0;unfold Fq at h;split at h
 · rename_i D;obtain rfl:l=o:=Option.some.inj h;exact an7 l D
 · cases h)
end
end Go.Proofs.YtejhifnjgoclpaaGreatDoor.Fx
