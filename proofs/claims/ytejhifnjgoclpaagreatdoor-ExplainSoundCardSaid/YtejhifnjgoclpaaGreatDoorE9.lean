/- Parts of the proofs, put together by a program. -/
import Derived.Test.YtejhifnjgoclpaaGreatDoorE8
import Derived.Shelf.SlSortCmp.NoneTotal
import Derived.Shelf.Slices.Clone
import Derived.Shelf.Slices.CompactI
import Derived.Shelf.Slices.Cells
set_option linter.unusedVariables false
set_option linter.unusedSimpArgs false
open List renaming getElem?_eq_getElem->ae6,getElem?_eq_some_iff->as4
namespace Go.Proofs.YtejhifnjgoclpaaGreatDoor.Fx
open Go.RowKit
set_option maxRecDepth 1000000
noncomputable section
section
open Go.Sort
theorem ab0 {i j n m:Nat} (D:i<m) (F:j<=n):i*n+j<=m*n:=by have h1:(i+1)*n<=m*n:=Nat.mul_le_mul_right _ D;rw[Nat.add_mul,Nat.one_mul] at h1;omega
def fG (t:Ty) (x:den t):List Value:=(fF (cA t x)).getD []
theorem apt {l q:List DC} {us vs:List Value} (h1:fF l=some us) (h2:fF q=some vs):fF (l++q)=some (us++vs):=by
 induction l generalizing us with
 |nil=>injection h1 with h1;subst h1;exact h2
 |cons x r J=>
  unfold fF at h1;split at h1<;>try (cases h1;done)
  rename_i F D;injection h1 with h1;subst h1;show fF (x::(r++q))=_;unfold fF;rw[F,J D];rfl
theorem LD: ∀{t:Ty} (x:den t),kv t=true->fF (cA t x)=some (fG t x)
 |.pair a b,x,h=>by have h:(kv a&&kv b)=true:=h;rw[Bool.and_eq_true] at h;have e:=apt (LD x.1 h.1) (LD x.2 h.2);have e:fF (cA (.pair a b) x)=some (fG a x.1++fG b x.2):=e;unfold fG at e⊢;rw[e];rfl
 |.unit,_,_=>rfl
 |.int k,_,_=>rfl
 |.bool,_,_=>rfl
 |.str,_,_=>rfl
 |.gB k,_,_=>rfl
 |.val,_,_=>rfl
 |.sl _,_,h=>by cases h
 |.ptr _,_,h=>by cases h
 |.opt _,_,h=>by cases h
section
variable {c:Cx} {h:Hp} {w:World} {t:Ty}
theorem Sy (D:kv t=true) (x:den t):ay (CR c h w) (fG t x) (cA t x):=Sx (LD x D)
theorem aaD (D:kv t=true) (x:den t):(fG t x).length=wid t:=by rw[(Sy (c:=⟨λ_=>undef,λ_ _=>True⟩) (h:=eU) (w:=default) D x).len,iR]
theorem apw (N:kv t=true) (x:den t): ∀v∈fG t x,v.oneCell'=true:=λv O=>by obtain⟨i,F⟩:=List.mem_iff_getElem?.1 O;have L:=Sy (c:=⟨λ_=>undef,λ_ _=>True⟩) (h:=eU) (w:=default) N x;have J:=(as4.1 F).1;rw[L.len] at J;obtain⟨u,D,M⟩:=L.get (ae6 J);rw[F] at D;injection D with D;subst D;exact M.one
theorem aqO (F:kv t=true) {l:List (den t)} {xs:List Value} (M:ay (CR c h w) xs (aT t l)) {i j:Nat} (J:i<l.length) (D:j<wid t):xs[i*wid t+j]? =some ((fG t l[i])[j]'(by rw[aaD F];exact D)):=by
 obtain⟨r,L⟩:=Fk (ae6 J);have h1:=M.drop (i*wid t);rw[L] at h1;have h2:=h1.take (cA t l[i]).length;rw[List.take_left] at h2;have e:=AD h2 (LD _ F);have:((xs.drop (i*wid t)).take (cA t l[i]).length)[j]? =xs[i*wid t+j]? :=by rw[List.getElem?_take_of_lt (by rw[iR];exact D),List.getElem?_drop]
 rw[<-this,e,ae6]
end
theorem Conc.asE {c:Cx} {w w':World} {k:Nat} {e:TypeId} {t:Ty} {l D:List (den t)} {xs':List Value} (hC:Conc (dW w c (aj [(k,.row [] e t l)])) c (aj [(k,.row [] e t l)]) w) (O:a0c k=false) (hlen:D.length=l.length) (U:Ext (Bl c (aj [(k,.row [] e t l)]) k) w w')
  (M:dZ w' e (wid t) (c.m k) D.length xs') (N:ay (CR c (aj [(k,.row [] e t D)]) w') xs' (aT t D)):Conc (dW w c (aj [(k,.row [] e t l)])) c (aj [(k,.row [] e t D)]) w':=by
 have F:aj [(k,aX.row [] e t l)] k=some (.row [] e t l):=if_pos rfl;refine(hC.put k (o':=.row [] e t D) (c':=c) (if_pos rfl) (λj J=>⟨?_,rfl⟩) rfl U (λb L=>.inl ⟨⟨_,F⟩,L⟩) (.inl O) (s:=false) (λq=>by cases q) (λo q=>?_) λ_=>⟨_,_,_,xs',rfl,((hC.obj k _ F).row rfl).1,M,N⟩).1
 · show(if k=j then _ else _)=if k=j then _ else _
   rw[if_neg (Ne.symm J),if_neg (Ne.symm J)]
 · rw[F] at q;injection q with q;subst q
   exact⟨[],rfl,.inl ⟨λg n q=>by
    have e:cD (.row [] e t D) g=cD (.row [] e t l) g:=by show([]++[some D.length])[g]? =([]++[some l.length])[g]?;rw[hlen]
    rw[e];exact q,.inl ⟨hlen,rfl⟩⟩⟩
theorem fn0 {c:Cx} {h:Hp} {w:World} {v:Value} {f:Fn} (D:SR c h w v (.fn f [] [])):v=.func f #[] #[]:=by obtain⟨vs,us,rfl,h1,h2⟩:=D;cases h1;cases h2;rfl
section
variable {P:Program} {ρ:Go.Shelf.Ren} {α:Type}
variable [Inhabited α]
theorem Y6 {enc:α->List Value} {l:List α} {i j n:Nat} (hk: ∀x,(enc x).length=n) (F:i<l.length) (D:j<n):(flatK enc n l.toArray)[i*n+j]! =(enc l[i])[j]'(by rw[hk];exact D):=by
 have M:i*n+j<l.toArray.size*n:=by have:=ab0 (i:=i) (n:=n) (m:=l.length) (j:=j+1) F D;simp;omega
 rw[get_flatK enc n _ _ M];have J:(i*n+j)/n=i:=by rw[Nat.add_comm,Nat.add_mul_div_right _ _ (by omega),Nat.div_eq_of_lt D,Nat.zero_add]
 have L:(i*n+j)%n=j:=by rw[Nat.add_comm,Nat.add_mul_mod_self_right];exact Nat.mod_eq_of_lt D
 rw[J,L];simp [F,hk,D]
end
theorem amX {P:Program} {ρ:Go.Shelf.Ren} {t:Ty} [Inhabited (den t)] (L:SlLaysF0.n6 P ρ) (ht:kv t=true) (hn:0<wid t) (aE: ∀w,(isAgg (ρ.t 24)).run P w=.ok true w) (zE: ∀w,(Go.sizeOf (ρ.t 24)).run P w=.ok (wid t) w) (cf:den t->den t->Int) (hO:SWO (ltOf cf)) (g:Nat)
  (eg: ∀args w,(callFunc g args).run P w=.ok (.enter g args) w) (a6: ∀dS off size w,CmpLays P g #[] (fG t) (wid t) cf dS off size w) (hT: ∀x y,(ltOf cf) x y=false->(ltOf cf) y x=false->x=y) (e:TypeId) (l:List (den t)) (hl:l.length<4611686018427387904):
  fo P (ρ.f 6) [.c (.ow 1000 0 .all),.fn (.func g) [] []] [(1000,.row [] e t l)] (.ret (.fk []) [(1000,.row [] e t (l.mergeSort λx y=> !(ltOf cf) y x))]):=by
 intro c w vals hC hv;have hk:=aaD ht;have h1:=apw ht;obtain⟨v0,v1,rfl,e0,e1⟩:=apV hv;have ho:aj [(1000,aX.row [] e t l)] 1000=some (.row [] e t l):=rfl;obtain⟨_,_,_,_,q0⟩:=iJ (w:=w) (H:=[(1000,aX.row [] e t l)]) (λ_ _ h=>h) (show rowAt [(1000,aX.row [] e t l)] 1000 0=some (.row [] e t l) from rfl) e0
 have q0:v0=c.m 1000:=q0;have q1:=fn0 e1;obtain⟨b3,xs,Z,ah⟩:=(hC.obj 1000 _ ho).row rfl;have Z:dZ w e (wid t) (c.m 1000) l.length xs:=Z;have ah:ay (CR c (aj [(1000,aX.row [] e t l)]) w) xs (aT t l):=ah;subst q0;subst q1;by_cases h0:l=[]
 · subst h0
   have hz: ∃p cap,c.m 1000=.slice p 0 cap:=by
    rcases Z with⟨a,r,_⟩ |⟨g',cap,cur,r,_⟩
    · exact⟨_,_,r⟩
    · exact⟨_,_,r⟩
   obtain⟨p,cap,hz⟩:=hz;have:=AnyF.slices_SortFunc_none (P:=P) (ρ:=ρ) {L with} p cap (.func (.func g) #[] #[]) w
   rw[<-hz] at this;refine this.mono ?_;rintro e' w' ⟨rfl,rfl⟩;rw[List.mergeSort_nil];exact⟨c,_,rfl,hC,SR.unit _ _ _⟩
 · have b4:0<l.length:=List.length_pos_iff.2 h0;rcases Z with⟨_,_,e0,_⟩ |⟨b,cap,cur,e2,U,e4,e5,e6,e7⟩
   · omega
   have ar:b<w.heap.size:=vS U;have a7:l.length*wid t<=cur.size:=by rw[e6];exact Nat.mul_le_mul_right _ e4
   have a1: ∀i j,(M:i<l.length)->(F:j<wid t)->cur[i*wid t+j]? =some ((fG t l[i])[j]'(by rw[hk];exact F)):=λi j M F=>by
    have b2:=ab0 (i:=i) (n:=wid t) (m:=l.length) (j:=j+1) M F;have:=aqO ht ah M F;rw[<-this,<-e7,List.getElem?_take_of_lt (by omega)]
    simp
   have hH:HoldsK (fG t) (wid t) w b 0 l.toArray:=λj F=>by
    rw[size_flatK] at F;have F:j<l.length*wid t:=by simpa using F
    have M:j/wid t<l.length:=Nat.div_lt_of_lt_mul (by rw[Nat.mul_comm];exact F)
    have N:j %wid t<wid t:=Nat.mod_lt _ hn;have ej:j=(j/wid t)*wid t+j %wid t:=by rw[Nat.mul_comm];exact(Nat.div_add_mod j (wid t)).symm
    refine⟨?_,by simp [World.frozen?,U]⟩
    rw[Nat.zero_add];generalize j/wid t=i at*;generalize j %wid t=r at*;subst ej;rw[Y6 hk M N];simp only[World.cell?,U,Option.isSome_none,Bool.false_eq_true,if_false];exact a1 i r M N
   have:=AnyQ.slices_SortFunc_total L (wid t) aE zE (fG t) hk h1 cf hO g #[] b 0 (cap+1) l.toArray w eg (a6 b 0 _ w) hH ar (by simpa using hl) hT
   have hs:l.toArray.size=l.length:=by simp
   rw[hs,<-e2] at this;refine this.mono ?_;rintro e' w' ⟨rfl,q,os,rfl⟩;generalize b0:(l.toArray.toList.mergeSort λx y=> !(ltOf cf) y x)=D;have b1:(l.mergeSort λx y=> !(ltOf cf) y x)=D:=b0;have an:D.length=l.length:=by rw[<-b1,List.length_mergeSort]
   have av: ∀J,J<w.heap.size->(sortWorldK (fG t) (wid t) w b 0 q D.toArray os).heap[J]? =(putRowK (fG t) (wid t) (Sort.ahead w q) b 0 D.toArray).heap[J]? :=λJ hb=>by
    have:J<(putRowK (fG t) (wid t) (Sort.ahead w q) b 0 D.toArray).heap.size:=by unfold putRowK;rw[size_putRow];exact hb
    show((putRowK (fG t) (wid t) (Sort.ahead w q) b 0 D.toArray).heap++os)[J]? =_;rw[Array.getElem?_append_left this]
   have a8:(sortWorldK (fG t) (wid t) w b 0 q D.toArray os).heap[b]? =some (.cells (putCells id 0 (flatK (fG t) (wid t) D.toArray) cur) e (0,0)):=by rw[av b ar];show((Sort.ahead w q).heap.modify b (onCells _))[b]? =_;rw[Array.getElem?_modify,if_pos rfl];show Option.map _ (w.heap[b]?)=_;rw[U];rfl
   refine⟨c,_,rfl,hC.asE rfl (xs':=(flatK (fG t) (wid t) D.toArray).toList) an ⟨rfl,rfl,rfl,?_,λJ hb bp=>?_⟩ ?_ (ay.of ?_ λi u d g1 g2=>?_),SR.unit _ _ _⟩
   · show w.heap.size<=((putRowK (fG t) (wid t) (Sort.ahead w q) b 0 D.toArray).heap++os).size;rw[Array.size_append];have:(putRowK (fG t) (wid t) (Sort.ahead w q) b 0 D.toArray).heap.size=w.heap.size:=by unfold putRowK;rw[size_putRow];rfl
     omega
   · rw[av J hb];show((Sort.ahead w q).heap.modify b (onCells _))[J]? =_;have az: ¬b=J:=λe9=>bp ⟨⟨_,ho⟩,by rw[e2,e9];rfl⟩
     rw[Array.getElem?_modify,if_neg az];rfl
   · rw[an];refine .inr ⟨b,cap,_,e2,a8,e4,e5,by simpa[putCells] using e6,?_⟩
     apply List.ext_getElem
     · simp [putCells,an,a7]
     · intro j g1 g2;have F:j<D.toArray.size*wid t:=by simpa using g2
       have O:j<(flatK (fG t) (wid t) D.toArray).size:=by rw[size_flatK];exact F
       simp only[putCells,List.getElem_take,Array.getElem_toList,Array.getElem_mapIdx,Nat.zero_le,Nat.zero_add,true_and,Nat.sub_zero,id];rw[if_pos O];exact getElem!_pos (flatK (fG t) (wid t) D.toArray) j O
   · rw[hJ];simp [size_flatK]
   · have F:i<D.length*wid t:=by rw[<-hJ];exact(as4.1 g2).1
     have M:i/wid t<D.length:=Nat.div_lt_of_lt_mul (by rw[Nat.mul_comm];exact F)
     have N:i %wid t<wid t:=Nat.mod_lt _ hn;have ej:i=(i/wid t)*wid t+i %wid t:=by rw[Nat.mul_comm];exact(Nat.div_add_mod i (wid t)).symm
     generalize i/wid t=a at*;generalize i %wid t=r at*;subst ej;have hf:=Y6 (l:=D) hk M N;have O:a*wid t+r<(flatK (fG t) (wid t) D.toArray).size:=by rw[size_flatK];simpa using F
     rw[getElem!_pos (flatK (fG t) (wid t) D.toArray) (a*wid t+r) O] at hf;rw[Array.getElem?_toList,Array.getElem?_eq_getElem O,hf] at g1;injection g1 with g1;subst g1;obtain⟨r2,bx⟩:=Fk (ae6 M)
     have hd:(cA t D[a])[r]? =some d:=by
      have h9:((aT t D).drop (a*wid t))[r]? =some d:=by rw[List.getElem?_drop];exact g2
      rwa [bx,List.getElem?_append_left (by rw[iR];exact N)] at h9
     obtain⟨u,Y,e9⟩:=(Sy (c:=c) (h:=aj [(1000,aX.row [] e t D)]) (w:=sortWorldK (fG t) (wid t) w b 0 q D.toArray os) ht D[a]).get hd;rw[ae6 (by rw[hk];exact N)] at Y
     injection Y with Y;rw[Y];exact e9
end
end
end Go.Proofs.YtejhifnjgoclpaaGreatDoor.Fx
namespace Go.Proofs
open Go.Shelf
def Tryz.als:Go.Shelf.Ren:=⟨λ|6=>46 |15=>119 |14=>118 |28=>214 |29=>215 |20=>206 |21=>207 |22=>208 |23=>209 |24=>210 |25=>211 |26=>212 |27=>213 |46=>309 |47=>310 |48=>311 |49=>312 |50=>313 |57=>383 |n=>n,λ|22=>139 |24=>81 |25=>156 |3=>3 |39=>260 |0=>0 |53=>102 |55=>146 |4=>4 |46=>355 |45=>354 |50=>198 |5=>5 |9=>9 |66=>453 |70=>457 |76=>507 |77=>91 |n=>n,λ|n=>n⟩
theorem Tryz.ark:Go.Proofs.SlLaysF0.n6 Tryz.prog Tryz.als:={
 mixed:=by kernel_rfl
 f6:=⟨Tryz.f46.name,by decide,Tryz.func46.trans (congrArg some (by kernel_rfl))⟩
 f14:=⟨Tryz.f118.name,by decide,Tryz.func118.trans (congrArg some (by kernel_rfl))⟩
 f15:=Tryz.func119.trans (congrArg some (by kernel_rfl))
 f20:=⟨Tryz.f206.name,by decide,Tryz.func206.trans (congrArg some (by kernel_rfl))⟩
 f21:=⟨Tryz.f207.name,by decide,Tryz.func207.trans (congrArg some (by kernel_rfl))⟩
 f22:=⟨Tryz.f208.name,by decide,Tryz.func208.trans (congrArg some (by kernel_rfl))⟩
 f23:=⟨Tryz.f209.name,by decide,Tryz.func209.trans (congrArg some (by kernel_rfl))⟩
 f24:=⟨Tryz.f210.name,by decide,Tryz.func210.trans (congrArg some (by kernel_rfl))⟩
 f25:=⟨Tryz.f211.name,by decide,Tryz.func211.trans (congrArg some (by kernel_rfl))⟩
 f26:=⟨Tryz.f212.name,by decide,Tryz.func212.trans (congrArg some (by kernel_rfl))⟩
 f27:=⟨Tryz.f213.name,by decide,Tryz.func213.trans (congrArg some (by kernel_rfl))⟩
 f28:=Tryz.func214.trans (congrArg some (by kernel_rfl))
 f29:=Tryz.func215.trans (congrArg some (by kernel_rfl))
 f46:=⟨Tryz.f309.name,by decide,Tryz.func309.trans (congrArg some (by kernel_rfl))⟩
 f47:=Tryz.func310.trans (congrArg some (by kernel_rfl))
 f48:=Tryz.func311.trans (congrArg some (by kernel_rfl))
 f49:=⟨Tryz.f312.name,by decide,Tryz.func312.trans (congrArg some (by kernel_rfl))⟩
 f50:=⟨Tryz.f313.name,by decide,Tryz.func313.trans (congrArg some (by kernel_rfl))⟩
 f57:=⟨Tryz.f383.name,by decide,Tryz.func383.trans (congrArg some (by kernel_rfl))⟩
 t0:=Tryz.underlying0
 a0:=Tryz.isAgg0
 z0:=Tryz.sizeOf0
 v0:=Tryz.zeroValue0
 t3:=Tryz.underlying3
 a3:=Tryz.isAgg3
 z3:=Tryz.sizeOf3
 v3:=Tryz.zeroValue3
 t4:=Tryz.underlying4
 a4:=Tryz.isAgg4
 z4:=Tryz.sizeOf4
 v4:=Tryz.zeroValue4
 t5:=Tryz.underlying5
 a5:=Tryz.isAgg5
 z5:=Tryz.sizeOf5
 v5:=Tryz.zeroValue5
 t9:=Tryz.underlying9
 a9:=Tryz.isAgg9
 z9:=Tryz.sizeOf9
 v9:=Tryz.zeroValue9
 t22:=Tryz.underlying139
 a22:=Tryz.isAgg139
 z22:=Tryz.sizeOf139
 v22:=Tryz.zeroValue139
 t25:=Tryz.underlying156
 a25:=Tryz.isAgg156
 z25:=Tryz.sizeOf156
 v25:=Tryz.zeroValue156
 t39:=Tryz.underlying260
 a39:=Tryz.isAgg260
 z39:=Tryz.sizeOf260
 v39:=Tryz.zeroValue260
 t45:=Tryz.underlying354
 a45:=Tryz.isAgg354
 z45:=Tryz.sizeOf354
 v45:=Tryz.zeroValue354
 t46:=Tryz.underlying355
 a46:=Tryz.isAgg355
 z46:=Tryz.sizeOf355
 v46:=Tryz.zeroValue355
 t50:=Tryz.underlying198
 a50:=Tryz.isAgg198
 z50:=Tryz.sizeOf198
 v50:=Tryz.zeroValue198
 t53:=Tryz.underlying102
 a53:=Tryz.isAgg102
 z53:=Tryz.sizeOf102
 v53:=Tryz.zeroValue102
 t55:=Tryz.underlying146
 a55:=Tryz.isAgg146
 z55:=Tryz.sizeOf146
 v55:=Tryz.zeroValue146
 t66:=Tryz.underlying453
 a66:=Tryz.isAgg453
 z66:=Tryz.sizeOf453
 v66:=Tryz.zeroValue453
 t70:=Tryz.underlying457
 a70:=Tryz.isAgg457
 z70:=Tryz.sizeOf457
 v70:=Tryz.zeroValue457
 t76:=Tryz.underlying507
 a76:=Tryz.isAgg507
 z76:=Tryz.sizeOf507
 v76:=Tryz.zeroValue507
 t77:=Tryz.underlying91
 a77:=Tryz.isAgg91
 z77:=Tryz.sizeOf91
 v77:=Tryz.zeroValue91}
end Go.Proofs
namespace Go.Proofs.YtejhifnjgoclpaaGreatDoor.Fx
open Go.RowKit
set_option maxRecDepth 1000000
noncomputable section
theorem Ai (a:ByteArray) (w:World):Calls Tryz.prog 187 #[.string a] w λe w'=>e=.returned (.bool false)/\w=w':=by
 go_enter Tryz.func187,Tryz.ntmps187
 go_wp2_with fail
 go_ret
 exact⟨by simp,rfl⟩
theorem SA (a b:List UInt8) (w:World):Calls Tryz.prog 108 #[.string ⟨a.toArray⟩,.string ⟨b.toArray⟩] w λe w'=>e=.returned (.int .i64 (Lib.compareBytes a b))/\w=w':=by
 have hc:=Dk a b;unfold cC at hc;by_cases h1:Op.bytesLess a b=true
 · rw[if_pos h1] at hc;rw[hc]
   go_enter Tryz.func108,Tryz.ntmps108
   go_wp2_with fail
   refine(Ai _ w).mono ?_;rintro e w' ⟨rfl,rfl⟩
   go_wp2_with fail
   refine(Ai _ _).mono ?_;rintro e w' ⟨rfl,rfl⟩
   go_wp2_with fail
   go_ret
   exact⟨rfl,rfl⟩
 · rw[if_neg h1] at hc;by_cases h2:a=b
   · rw[if_pos h2] at hc;rw[hc];subst h2
     go_enter Tryz.func108,Tryz.ntmps108
     go_wp2_with fail
     refine(Ai _ w).mono ?_;rintro e w' ⟨rfl,rfl⟩
     go_wp2_with fail
     refine(Ai _ _).mono ?_;rintro e w' ⟨rfl,rfl⟩
     go_wp2_with fail
     go_ret
     exact⟨rfl,rfl⟩
   · rw[if_neg h2] at hc;rw[hc]
     go_enter Tryz.func108,Tryz.ntmps108
     go_wp2_with fail
     refine(Ai _ w).mono ?_;rintro e w' ⟨rfl,rfl⟩
     go_wp2_with fail
     refine(Ai _ _).mono ?_;rintro e w' ⟨rfl,rfl⟩
     go_wp2_with fail
     · go_ret
       exact⟨rfl,rfl⟩
     · rename_i h;rw[Bool.not_eq_false'] at h;exact absurd (by simpa using h) h2
def Ge (x y:Want):Int:=if Lib.compareBytes x.1 y.1=0 then Lib.compareBytes x.2 y.2 else Lib.compareBytes x.1 y.1
def Gd (x:Want):List Value:=[.string ⟨x.1.toArray⟩,.string ⟨x.2.toArray⟩]
theorem acF (w:World) (D F:Obj): ∃q J,(w.alloc D).alloc F=Go.Sort.grow (w.drewN q) J:=⟨0,#[D]++ #[F],by rw[Go.Sort.alloc_eq_grow,Go.Sort.alloc_eq_grow,Go.Sort.grow_grow];rfl⟩
theorem aqo (a b c d:List UInt8) (r1 r2:Int) (h1:r1=Lib.compareBytes a c) (h2:r2=Lib.compareBytes b d) (w:World):Calls Tryz.prog 47 #[.agg (Gd (a,b)).toArray,.agg (Gd (c,d)).toArray] w λe w'=>e=.returned (.int .i64 (Ge (a,b) (c,d)))/\ ∃q os',w'=Go.Sort.grow (w.drewN q) os':=by
 unfold Gd Ge;simp only;rw[<-h1,<-h2];by_cases h0:r1=0
 · rw[if_pos h0]
   go_enter Tryz.func47,Tryz.ntmps47
   go_wp2_with fail
   refine(SA _ _ _).mono ?_;rintro e w' ⟨rfl,rfl⟩;rw[<-h1,h0]
   go_wp2_with fail
   refine(SA _ _ _).mono ?_;rintro e w' ⟨rfl,rfl⟩
   go_wp2_with fail
   go_ret
   exact⟨by rw[h2];rfl,acF _ _ _⟩
 · rw[if_neg h0]
   go_enter Tryz.func47,Tryz.ntmps47
   go_wp2_with fail
   refine(SA _ _ _).mono ?_;rintro e w' ⟨rfl,rfl⟩;rw[<-h1]
   go_wp2_with fail
   go_ret
   exact⟨by rw[h1];rfl,acF _ _ _⟩
theorem ann (x y:Want) (w:World):Calls Tryz.prog 47 #[.agg (Gd x).toArray,.agg (Gd y).toArray] w λe w'=>e=.returned (.int .i64 (Ge x y))/\ ∃q D,w'=Go.Sort.grow (w.drewN q) D:=aqo x.1 x.2 y.1 y.2 _ _ rfl rfl w
end
end Go.Proofs.YtejhifnjgoclpaaGreatDoor.Fx
namespace Go.Proofs
open Go.Shelf
def Tryz.ai9:Go.Shelf.Ren:=⟨λ|15=>131 |n=>n,λ|22=>55 |3=>3 |4=>4 |n=>n,λ|n=>n⟩
theorem Tryz.Ru:Go.Proofs.Lays2.n15 Tryz.prog Tryz.ai9:={
 mixed:=by kernel_rfl
 f15:=Tryz.func131.trans (congrArg some (by kernel_rfl))
 t3:=Tryz.underlying3
 a3:=Tryz.isAgg3
 z3:=Tryz.sizeOf3
 v3:=Tryz.zeroValue3
 t4:=Tryz.underlying4
 a4:=Tryz.isAgg4
 z4:=Tryz.sizeOf4
 v4:=Tryz.zeroValue4
 t22:=Tryz.underlying55
 a22:=Tryz.isAgg55
 z22:=Tryz.sizeOf55
 v22:=Tryz.zeroValue55
 i3:=by kernel_rfl}
open Go.RowKit Go.Lib in
theorem Tryz.slices_Clone_int (b off n c:Nat) (D:List Int) (w:World) (J:n<=D.length) (F:n*8<=140737488355328) (hc: ∀j,j<D.length->w.cell? ⟨b,off+j,none⟩=some (.int .i64 (D.getD j 0))):
 Calls Tryz.prog 131 #[.slice (some ⟨b,off,none⟩) n c] w λe w'=> ∃v',e=.returned v'/\w'.ownsRow w.heap.size 3 1 v' n ((D.take n).map (Value.int .i64))/\v'≠.slice none 0 0/\Below w.heap.size w w':=Any.slices_Clone_int Tryz.Ru b off n c D w J F hc
open Go.RowKit Go.Lib in
theorem Tryz.slices_Clone_int_nil (n c:Nat) (w:World):
 Calls Tryz.prog 131 #[.slice none n c] w λe w'=>e=.returned (.slice none 0 0)/\w'=w:=Any.slices_Clone_int_nil Tryz.Ru n c w
def Tryz.ai8:Go.Shelf.Ren:=⟨λ|16=>365 |n=>n,λ|24=>22 |9=>9 |4=>4 |n=>n,λ|n=>n⟩
theorem Tryz.Rt:Go.Proofs.Lays2.n16 Tryz.prog Tryz.ai8:={
 mixed:=by kernel_rfl
 f16:=Tryz.func365.trans (congrArg some (by kernel_rfl))
 t4:=Tryz.underlying4
 a4:=Tryz.isAgg4
 z4:=Tryz.sizeOf4
 v4:=Tryz.zeroValue4
 t9:=Tryz.underlying9
 a9:=Tryz.isAgg9
 z9:=Tryz.sizeOf9
 v9:=Tryz.zeroValue9
 t24:=Tryz.underlying22
 a24:=Tryz.isAgg22
 z24:=Tryz.sizeOf22
 v24:=Tryz.zeroValue22
 i9:=by kernel_rfl}
open Go.RowKit Go.Lib in
theorem Tryz.slices_Clone_string (b off n c:Nat) (D:List ByteArray) (w:World) (J:n<=D.length) (F:n*16<=140737488355328) (hc: ∀j,j<D.length->w.cell? ⟨b,off+j,none⟩=some (.string (D.getD j ByteArray.empty))):
 Calls Tryz.prog 365 #[.slice (some ⟨b,off,none⟩) n c] w λe w'=> ∃v',e=.returned v'/\w'.ownsRow w.heap.size 9 1 v' n ((D.take n).map (Value.string))/\v'≠.slice none 0 0/\Below w.heap.size w w':=Any.slices_Clone_string Tryz.Rt b off n c D w J F hc
open Go.RowKit Go.Lib in
theorem Tryz.slices_Clone_string_nil (n c:Nat) (w:World):
 Calls Tryz.prog 365 #[.slice none n c] w λe w'=>e=.returned (.slice none 0 0)/\w'=w:=Any.slices_Clone_string_nil Tryz.Rt n c w
open Go.RowKit Go.Lib in
theorem Tryz.slices_Clone_int_zero (a:Addr) (c:Nat) (w:World):
 Calls Tryz.prog 131 #[.slice (some a) 0 c] w λe w'=> ∃v',e=.returned v'/\w'.ownsRow w.heap.size 3 1 v' 0 []/\v'≠.slice none 0 0/\Below w.heap.size w w':=Any.slices_Clone_int_zero Tryz.Ru a c w
open Go.RowKit Go.Lib in
theorem Tryz.slices_Clone_string_zero (a:Addr) (c:Nat) (w:World):
 Calls Tryz.prog 365 #[.slice (some a) 0 c] w λe w'=> ∃v',e=.returned v'/\w'.ownsRow w.heap.size 9 1 v' 0 []/\v'≠.slice none 0 0/\Below w.heap.size w w':=Any.slices_Clone_string_zero Tryz.Rt a c w
def Tryz.ai7:Go.Shelf.Ren:=⟨λ|20=>135 |n=>n,λ|22=>55 |3=>3 |4=>4 |0=>0 |n=>n,λ|n=>n⟩
theorem Tryz.YX:Go.Proofs.Lays2.n20 Tryz.prog Tryz.ai7:={
 mixed:=by kernel_rfl
 f20:=Tryz.func135.trans (congrArg some (by kernel_rfl))
 t0:=Tryz.underlying0
 a0:=Tryz.isAgg0
 z0:=Tryz.sizeOf0
 v0:=Tryz.zeroValue0
 t3:=Tryz.underlying3
 a3:=Tryz.isAgg3
 z3:=Tryz.sizeOf3
 v3:=Tryz.zeroValue3
 t4:=Tryz.underlying4
 a4:=Tryz.isAgg4
 z4:=Tryz.sizeOf4
 v4:=Tryz.zeroValue4
 t22:=Tryz.underlying55
 a22:=Tryz.isAgg55
 z22:=Tryz.sizeOf55
 v22:=Tryz.zeroValue55
 i3:=by kernel_rfl}
open Go.RowKit Go.Lib Go.Sort in
theorem Tryz.slices_Compact_int (dS off cap:Nat) (D:List Int) (w:World) (hH:Holds (Value.int .i64) w dS off D.toArray) (F:D.length<=9223372036854775807) (sx:D.length<=cap):
 Calls Tryz.prog 135 #[.slice (some ⟨dS,off,none⟩) D.length cap] w λe w'=>e=.returned (.slice (some ⟨dS,off,none⟩) (Lib.compact D).length cap)/\ ∃q,w'=putRow (Value.int .i64) (Sort.ahead w q) dS off (Lib.compact D++List.replicate (D.length - (Lib.compact D).length) 0).toArray:=Any.slices_Compact_int Tryz.YX dS off cap D w hH F sx
open Go.RowKit Go.Lib Go.Sort in
theorem Tryz.slices_Compact_int_empty (a:Option Addr) (cap:Nat) (w:World):
 Calls Tryz.prog 135 #[.slice a 0 cap] w λe w'=>e=.returned (.slice a 0 cap)/\w'=w:=Any.slices_Compact_int_empty Tryz.YX a cap w
def Tryz.alu:Go.Shelf.Ren:=⟨λ|6=>132 |15=>119 |14=>224 |28=>214 |29=>215 |20=>319 |21=>320 |22=>321 |23=>322 |24=>323 |25=>324 |26=>325 |27=>326 |46=>389 |47=>310 |48=>311 |49=>390 |50=>391 |57=>426 |n=>n,λ|22=>55 |24=>3 |25=>269 |3=>3 |39=>260 |0=>0 |53=>102 |55=>146 |4=>4 |46=>355 |45=>354 |50=>198 |5=>5 |9=>9 |66=>453 |70=>457 |76=>507 |77=>91 |n=>n,λ|n=>n⟩
theorem Tryz.abX:Go.Proofs.SlLaysF.n6 Tryz.prog Tryz.alu:={
 mixed:=by kernel_rfl
 f6:=⟨Tryz.f132.name,by decide,Tryz.func132.trans (congrArg some (by kernel_rfl))⟩
 f14:=⟨Tryz.f224.name,by decide,Tryz.func224.trans (congrArg some (by kernel_rfl))⟩
 f15:=Tryz.func119.trans (congrArg some (by kernel_rfl))
 f20:=⟨Tryz.f319.name,by decide,Tryz.func319.trans (congrArg some (by kernel_rfl))⟩
 f21:=⟨Tryz.f320.name,by decide,Tryz.func320.trans (congrArg some (by kernel_rfl))⟩
 f22:=⟨Tryz.f321.name,by decide,Tryz.func321.trans (congrArg some (by kernel_rfl))⟩
 f23:=⟨Tryz.f322.name,by decide,Tryz.func322.trans (congrArg some (by kernel_rfl))⟩
 f24:=⟨Tryz.f323.name,by decide,Tryz.func323.trans (congrArg some (by kernel_rfl))⟩
 f25:=⟨Tryz.f324.name,by decide,Tryz.func324.trans (congrArg some (by kernel_rfl))⟩
 f26:=⟨Tryz.f325.name,by decide,Tryz.func325.trans (congrArg some (by kernel_rfl))⟩
 f27:=⟨Tryz.f326.name,by decide,Tryz.func326.trans (congrArg some (by kernel_rfl))⟩
 f28:=Tryz.func214.trans (congrArg some (by kernel_rfl))
 f29:=Tryz.func215.trans (congrArg some (by kernel_rfl))
 f46:=⟨Tryz.f389.name,by decide,Tryz.func389.trans (congrArg some (by kernel_rfl))⟩
 f47:=Tryz.func310.trans (congrArg some (by kernel_rfl))
 f48:=Tryz.func311.trans (congrArg some (by kernel_rfl))
 f49:=⟨Tryz.f390.name,by decide,Tryz.func390.trans (congrArg some (by kernel_rfl))⟩
 f50:=⟨Tryz.f391.name,by decide,Tryz.func391.trans (congrArg some (by kernel_rfl))⟩
 f57:=⟨Tryz.f426.name,by decide,Tryz.func426.trans (congrArg some (by kernel_rfl))⟩
 t0:=Tryz.underlying0
 a0:=Tryz.isAgg0
 z0:=Tryz.sizeOf0
 v0:=Tryz.zeroValue0
 t3:=Tryz.underlying3
 a3:=Tryz.isAgg3
 z3:=Tryz.sizeOf3
 v3:=Tryz.zeroValue3
 t4:=Tryz.underlying4
 a4:=Tryz.isAgg4
 z4:=Tryz.sizeOf4
 v4:=Tryz.zeroValue4
 t5:=Tryz.underlying5
 a5:=Tryz.isAgg5
 z5:=Tryz.sizeOf5
 v5:=Tryz.zeroValue5
 t9:=Tryz.underlying9
 a9:=Tryz.isAgg9
 z9:=Tryz.sizeOf9
 v9:=Tryz.zeroValue9
 t22:=Tryz.underlying55
 a22:=Tryz.isAgg55
 z22:=Tryz.sizeOf55
 v22:=Tryz.zeroValue55
 a24:=Tryz.isAgg3
 z24:=Tryz.sizeOf3
 t25:=Tryz.underlying269
 a25:=Tryz.isAgg269
 z25:=Tryz.sizeOf269
 v25:=Tryz.zeroValue269
 t39:=Tryz.underlying260
 a39:=Tryz.isAgg260
 z39:=Tryz.sizeOf260
 v39:=Tryz.zeroValue260
 t45:=Tryz.underlying354
 a45:=Tryz.isAgg354
 z45:=Tryz.sizeOf354
 v45:=Tryz.zeroValue354
 t46:=Tryz.underlying355
 a46:=Tryz.isAgg355
 z46:=Tryz.sizeOf355
 v46:=Tryz.zeroValue355
 t50:=Tryz.underlying198
 a50:=Tryz.isAgg198
 z50:=Tryz.sizeOf198
 v50:=Tryz.zeroValue198
 t53:=Tryz.underlying102
 a53:=Tryz.isAgg102
 z53:=Tryz.sizeOf102
 v53:=Tryz.zeroValue102
 t55:=Tryz.underlying146
 a55:=Tryz.isAgg146
 z55:=Tryz.sizeOf146
 v55:=Tryz.zeroValue146
 t66:=Tryz.underlying453
 a66:=Tryz.isAgg453
 z66:=Tryz.sizeOf453
 v66:=Tryz.zeroValue453
 t70:=Tryz.underlying457
 a70:=Tryz.isAgg457
 z70:=Tryz.sizeOf457
 v70:=Tryz.zeroValue457
 t76:=Tryz.underlying507
 a76:=Tryz.isAgg507
 z76:=Tryz.sizeOf507
 v76:=Tryz.zeroValue507
 t77:=Tryz.underlying91
 a77:=Tryz.isAgg91
 z77:=Tryz.sizeOf91
 v77:=Tryz.zeroValue91}
end Go.Proofs
namespace Go.Proofs.YtejhifnjgoclpaaGreatDoor.Fx
open Go.RowKit
set_option maxRecDepth 1000000
noncomputable section
theorem Conc.arq {E:cQ} {c:Cx} {h:Hp} {w w':World} (hC:Conc E c h w) (J:Below w.heap.size w w') {k:Nat} (hk:h k=none) (M:a0c k=false) {e:TypeId} {t:Ty} (L:0<wid t) {l:List (den t)} {v:Value} {xs:List Value} (F:w'.ownsRow w.heap.size e (wid t) v l.length xs) (N:ay (CR c h w) xs (aT t l)):
  ∃c',Conc E c' (bY h k (some (.row [] e t l))) w'/\SR c' (bY h k (some (.row [] e t l))) w' v (.c (.ow k 0 .all)):=by
 obtain⟨c',g1,_,g2⟩:=hC.newRow hk M L (iB.tO J) (dZ.of F) (λb D=>by
  rcases F.2 with⟨rfl,_⟩ |⟨g,cap,cur,rfl,h1,_⟩
  · cases D
  · rw[ue D];exact h1) N
 exact⟨c',g1,g2⟩
theorem aoq {c:Cx} {h:Hp} {w:World} (l:List (List UInt8)):ay (CR c h w) (l.map λx=>Value.string ⟨x.toArray⟩) (aT .str l):=by
 induction l with
 |nil=>exact .nil
 |cons x l D=>exact .cons ⟨rfl,rfl⟩ D
theorem an7 (l:List (List UInt8)) (O:l.length<1000000):fo Tryz.prog 365 [.c (.v (.sl .str) l)] [] (.ret (.c (.ow 1 0 .all)) [(1,.row [] 9 .str l)]):=by
 intro c w vals hC N;obtain⟨v0,rfl,_,a,cap,rfl,F⟩:=As N
 have fin: ∀v' w',w'.ownsRow w.heap.size 9 1 v' l.length (l.map λx=>Value.string ⟨x.toArray⟩)->Below w.heap.size w w'-> ∃c',ve (dW w c (aj [])) (.returned v') c' w' (.ret (.c (.ow 1 0 .all)) [(1,.row [] 9 .str l)]):=λv' w' L J=>by
  obtain⟨c',g1,g2⟩:=hC.arq J (k:=1) rfl rfl (e:=9) (t:=.str) (by decide) (l:=l) L (aoq l)
  have e:bY (aj []) 1 (some (aX.row [] 9 .str l))=aj [(1,.row [] 9 .str l)]:=(jh [] 1 _).symm;rw[e] at g1 g2;exact⟨c',v',rfl,g1,g2⟩
 by_cases h0:l=[]
 · subst h0;cases a with
   |none=>refine(Tryz.slices_Clone_string_nil 0 cap w).mono ?_;rintro e w' ⟨rfl,rfl⟩;exact fin _ _ ⟨rfl,.inl ⟨rfl,rfl⟩⟩ (Below.refl _ _)
   |some ad=>refine(Tryz.slices_Clone_string_zero ad cap w).mono ?_;rintro e w' ⟨v',rfl,h1,_,h2⟩;exact fin _ _ h1 h2
 · obtain⟨hle,_,b,off,rfl,M⟩:=F.resolve_left h0;refine(Tryz.slices_Clone_string b off l.length cap (l.map λx=>⟨x.toArray⟩) w (by simp) (by omega) (λj D=>?_)).mono ?_
   · rw[List.length_map] at D;have:=(M j l[j] (ae6 D)).2;rw[show off+(j*wid .str+0)=off+j by simp [wid]] at this
     rw[this];simp [List.getD_eq_getElem?_getD,D]
   · rintro e w' ⟨v',rfl,g1,_,g2⟩;refine fin _ _ ?_ g2;have:((l.map λx=>(⟨x.toArray⟩:ByteArray)).take l.length).map Value.string=l.map λx=>Value.string ⟨x.toArray⟩:=by rw[List.take_of_length_le (by simp),List.map_map];rfl
     rw[<-this];exact g1
noncomputable def akY:dh Tryz.prog:=mkB 365 ⟨[(0,.c (.v (.sl .str)))],[]⟩ [(false,⟨[(2,.c (.own 1))],[(1,.row 9 .str)]⟩)] (λr=>(r,())) (λx=>Fq x.1) (by kernel_rfl) (λx o h0=>by
 obtain⟨l,u⟩:=x;have h:Fq l=some o:=h0;unfold Fq at h;split at h
 · rename_i D;obtain rfl:l=o:=Option.some.inj h;exact an7 l D
 · cases h)
end
end Go.Proofs.YtejhifnjgoclpaaGreatDoor.Fx
