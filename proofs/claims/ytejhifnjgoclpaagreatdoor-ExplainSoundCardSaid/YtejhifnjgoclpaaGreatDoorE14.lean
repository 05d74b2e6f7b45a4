/- Parts of the proofs, put together by a program. -/
import Derived.Test.YtejhifnjgoclpaaGreatDoorE13
import Derived.Shelf.Strings.BuilderK
set_option linter.unusedVariables false
set_option linter.unusedSimpArgs false
open List renaming getElem_mem->ab7,length_map->ae2,getElem?_eq_getElem->ae6,length_append->ae7,length_cons->af2,append_nil->ag5,length_take->am9,mem_map->ar1,getElem_map->ar7,append_assoc->as2,length_nil->as5,take_of_length_le->av3,getD_eq_getElem?_getD->av4,take_succ_cons->aw3
open Nat renaming le_refl->ab8,zero_le->ae3,le_trans->an4,le_succ->av8
namespace Go.Proofs.YtejhifnjgoclpaaGreatDoor.Fx
open Go.RowKit
set_option maxRecDepth 1000000
noncomputable section
def BD {α:Type} (n:Nat) (R:World->List Value->α->Prop) (w:World) (v:Value) (l:List α):Prop:=
 ∃a cap,v=.slice a l.length cap/\ ∀(i:Nat) (h:i<l.length),∃b off cs,a=some ⟨b,off,none⟩/\b<w.heap.size/\Cells w b (off+i*n) n cs/\R w cs l[i]
theorem abV {t:Ty} {R:World->List Value->den t->Prop} {c:Cx} {h:Hp} {w:World} {v:Value} {l:List (den t)} (N:0<wid t) (hR: ∀x∈l,∀cs:List Value,ay (CR c h w) cs (cA t x)->R w cs x) (U:CR c h w v (.v (.sl t) l)):BD (wid t) R w v l:=by
 obtain⟨xs,⟨Z,a,cap,rfl,L⟩,Y⟩:=RS U;refine⟨a,cap,rfl,λi J=>?_⟩;rcases L with h0 |⟨b,o,rfl,hc⟩
 · omega
 · obtain⟨r,O⟩:=Fk (ae6 J);have h2:=Y.drop (i*wid t);rw[O] at h2;have F:=h2.take (cA t l[i]).length;rw[List.take_left,iR] at F;have hlen:((xs.drop (i*wid t)).take (wid t)).length=wid t:=by rw[F.len,iR]
   have key: ∀j,j<wid t->w.cell? ⟨b,o+i*wid t+j,none⟩=some (((xs.drop (i*wid t)).take (wid t)).getD j undef):=λj D=>by
    have M:j<((xs.drop (i*wid t)).take (wid t)).length:=by omega
    rw[Nat.add_assoc];refine hc _ _ ?_;rw[av4,List.getElem?_take_of_lt D,List.getElem?_drop];have:i*wid t+j<xs.length:=by simp only[am9,List.length_drop] at M;omega
    rw[ae6 this];rfl
   exact⟨b,o,_,rfl,World.block_lt_of_cell? w _ (key 0 N),⟨hlen,λj D=>by rw[key j D,av4,ae6 (by rw[hlen];exact D)];rfl⟩,hR _ (ab7 J) _ F⟩
def T' (c:cO):List Value:=.int .i64 c.1::Gt c.2
def Uc (w:World) (cs:List Value) (c:cO):Prop:=cs=T' c
def ae1 (w:World) (cs:List Value) (a:List cO):Prop:= ∃v,cs=[v]/\BD 5 Uc w v a
abbrev OM:Ty:=.pair (.int .i64) (.pair (.pair (.int .i64) (.pair (.int .i64) (.int .i64))) .str)
theorem am6 {c:Cx} {h:Hp} {w:World} {v:Value} {r:List (List cO)} (J:CR c h w v (.v (.sl (.sl OM)) r)):BD 1 ae1 w v r:=
 abV (t:=.sl OM) (by decide) (λa _ cs D=>by obtain⟨x,rfl,L⟩:=As D;exact⟨x,rfl,abV (t:=OM) (by decide) (λc _ cs F=>AD F rfl) L⟩) J
theorem amC (v:cP) (h:fP v) (w:World) (O:TabOk w.heap[tabB]?):
  Calls Tryz.prog 423 #[.agg (Gt v).toArray] w λe w'=>e=.returned (.string ⟨(ky v).toArray⟩)/\Below w.heap.size w w':=by
 have L:V4.F _ (v,()) some=some (ky v,()):=by show(IY v).bind _=_;rw[ap5 v h];rfl
 obtain⟨o,h1,h2⟩:=V4.ok _ _ _ _ L;have D:=(Option.some.inj h1);subst D;have J:fo Tryz.prog 423 [.agg (cA (.pair (.pair (.int .i64) (.pair (.int .i64) (.int .i64))) .str) v)] [] (.ret (.c (.v .str (ky v))) []):=h2;refine(J.run (A:=λ_ _=>False) (vals:=[.agg (Gt v).toArray]) (λ_ _ q=>q.elim) O (.cons (FZ rfl) .nil)).mono ?_;rintro e w' ⟨x,c',rfl,M,N⟩;exact⟨by rw[sc N rfl],M.below⟩
theorem aow (op:Int) (w:World) (O:TabOk w.heap[tabB]?):
  Calls Tryz.prog 410 #[.int .i64 op] w λe w'=>e=.returned (.string ⟨(bZ op).toArray⟩)/\Below w.heap.size w w':=by
 have L:Qy.F _ (op,()) some=some (bZ op,()):=by show(EX op).bind _=_;rw[Qe op];rfl
 obtain⟨o,h1,h2⟩:=Qy.ok _ _ _ _ L;have D:=(Option.some.inj h1);subst D;have J:fo Tryz.prog 410 [.c (.v (.int .i64) op)] [] (.ret (.c (.v .str (bZ op))) []):=h2;refine(J.run (A:=λ_ _=>False) (vals:=[.int .i64 op]) (λ_ _ q=>q.elim) O (.cons (FZ rfl) .nil)).mono ?_;rintro e w' ⟨x,c',rfl,M,N⟩;exact⟨by rw[sc N rfl],M.below⟩
theorem aa8 {α:Type} {n:Nat} {R:World->List Value->α->Prop} {w:World} {a:Option Addr} {len cap:Nat} {l:List α} (h:BD n R w (.slice a len cap) l) (i:Nat) (F:i<l.length):
  ∃b off cs,a=some ⟨b,off,none⟩/\b<w.heap.size/\Cells w b (off+i*n) n cs/\R w cs l[i]:=by
 obtain⟨J,L,e,h⟩:=h;injection e with D M N;subst D;exact h i F
theorem Yr {w w':World} (D:TabOk w.heap[tabB]?) (F:Below w.heap.size w w'):TabOk w'.heap[tabB]? :=by rw[F.block _ D.lt];exact D
theorem XL {T e:TypeId} {B b:Nat} {p:Value} {bs:List Value} {W J:World} (h:Lib.BuilderAtF T e B b p bs W) (D:Below W.heap.size W J):Lib.BuilderAtF T e B b p bs J:=by
 have M:b<W.heap.size:=by obtain⟨_,v,F,_⟩:=h;exact vS F
 obtain⟨L,v,F,O,N⟩:=h;exact⟨L,v,(D.block b M).trans F,O.kept (row:=none) ⟨D.os,D.tape,D.output,D.size,λk hk _=>D.block k hk⟩ (Classical.em _),N⟩
theorem RG {T e:TypeId} {B b:Nat} {bs:List Value} {W D:World} (h:Lib.IsBuilderF T e B b bs W) (F:Below W.heap.size W D):Lib.IsBuilderF T e B b bs D:=
 h.elim (λx=>.inl (XL x F)) (λx=>.inr (XL x F))
def Wr (B:Nat) (X:List UInt8) (w:World):Prop:=Lib.IsBuilderF 528 5 B B (Lib.byteCells X) w
theorem Yn (B:Nat) (X:List UInt8) (c:UInt8) (w:World) (h:Wr B X w) (hlen:X.length+1<=140737488355328) (F:B<=w.heap.size):
  Calls Tryz.prog 421 #[.pointer (some ⟨B,0,none⟩),.int .u8 (c.toNat:Int)] w λe w'=>e=.returned .nilIface/\Wr B (X++[c]) w'/\Below B w w'/\Lib.OthersKept 5 (some B) w w':=by
 refine(Any.Builder_WriteByte_k Tryz.mJ Tryz.Qd B B (Lib.byteCells X) (c.toNat:Int) w h (by rw[Lib.byteCells_length];exact hlen) F).mono ?_
 rintro e w' ⟨rfl,h1,h2,D⟩;refine⟨rfl,.inr ?_,h2,D⟩;rw[Lib.byteCells_append];exact h1
theorem Zu (B:Nat) (X s:List UInt8) (w:World) (h:Wr B X w) (hlen:X.length+s.length<=140737488355328) (F:B<=w.heap.size):
  Calls Tryz.prog 422 #[.pointer (some ⟨B,0,none⟩),.string ⟨s.toArray⟩] w λe w'=>e=.returned (.tuple #[.int .i64 s.length,.nilIface])/\Wr B (X++s) w'/\Below B w w'/\Lib.OthersKept 5 (some B) w w':=by
 refine(Any.Builder_WriteString_k Tryz.FJ Tryz.Qd B B (Lib.byteCells X) ⟨s.toArray⟩ w h (by rw[Lib.byteCells_length];exact hlen) F).mono ?_
 rintro e w' ⟨rfl,h1,h2,D⟩;refine⟨rfl,.inr ?_,h2,D⟩;rw[Lib.byteCells_append];exact h1
theorem apL (B:Nat) (X:List UInt8) (w:World) (h:Wr B X w) (D:B<=w.heap.size):
  Calls Tryz.prog 424 #[.pointer (some ⟨B,0,none⟩)] w λe w'=>e=.returned (.string ⟨X.toArray⟩)/\Below B w w':=
 (Any.Builder_String_any_k Tryz.ao9 Tryz.Qd B B X w h D).mono λe w' ⟨h1,_,h2,_⟩=>⟨h1,h2⟩
theorem Gc {B:Nat} {X:List UInt8} {w:World} (h:Wr B X w):B<w.heap.size:=by rcases h with⟨_,v,D,_⟩ |⟨_,v,D,_⟩<;>exact vS D
def pK (a:List cO):List UInt8:=c9 44 (a.map fN)
def gL (c:UInt8) (k:Nat):List UInt8:=if 0<k then[c] else[]
theorem Q5 (c:UInt8): ∀(l:List (List UInt8)) (k:Nat) (h:k<l.length),c9 c (l.take (k+1))=(c9 c (l.take k)++gL c k)++l[k]
 |x::t,0,_=>by simp [c9,gL]
 |x::y::t,k+1,h=>by
  have J:=Q5 c (y::t) k (by simpa using h)
  have D:c9 c ((x::y::t).take (k+1+1))=x++c::c9 c ((y::t).take (k+1)):=by rw[aw3,aw3];rfl
  rw[D,J];cases k with
  |zero=>simp [c9,gL]
  |succ k=>
   have F:c9 c ((x::y::t).take (k+1+1))=x++c::c9 c ((y::t).take (k+1)):=by rw[aw3,aw3];rfl
   rw[F];simp [gL]
 |[x],k+1,h=>by simp at h
 |[],k,h=>by simp at h
theorem Rx (c:UInt8) (M:Nat): ∀(l:List (List UInt8)),(∀x∈l,x.length<=M)->(c9 c l).length<=l.length*(M+1)
 |[],_=>ae3 _
 |[x],h=>by have:=h x (by simp);simp [c9];omega
 |x::y::t,h=>by
  have h1:=h x (by simp)
  have F:=Rx c M (y::t) (λz D=>h z (List.mem_cons_of_mem _ D));have e:c9 c (x::y::t)=x++c::c9 c (y::t):=rfl;rw[e,ae7,af2];have:(x::y::t).length=(y::t).length+1:=rfl;rw[this,Nat.add_mul];omega
theorem Ze (c:cO) (h:c.1=8\/fP c.2):(fN c).length<=30000:=by
 have hs:(bZ c.1).length<=2:=by unfold bZ;(repeat' split)<;>decide
 unfold fN;rw[ae7];by_cases e:c.1=8
 · rw[if_pos e];simp;omega
 · rw[if_neg e];rcases h with h |h
   · exact absurd h e
   · have h0:=h.1;obtain⟨⟨D,a2⟩,⟨F,J⟩,c1,c2⟩:=h.num;have L:=zG 5 c.2.1.1.toNat (by omega)
     have M:=zG 5 c.2.1.2.1.toNat (by omega)
     have N:=zG 5 c.2.1.2.2.toNat (by omega)
     have O:=h.2;have:(ky c.2).length<=20100:=by unfold ky;rw[if_pos h0];split<;>simp only[ae7,af2,as5]<;>omega
     omega
theorem Zq (a:List cO) (k:Nat) (J:a.length<=100) (h: ∀c∈a,c.1=8\/fP c.2):(c9 44 ((a.map fN).take k)).length<=3100000:=by
 have:=Rx 44 30000 ((a.map fN).take k) (λx D=>by obtain⟨c,hc,rfl⟩:=ar1.1 (List.mem_of_mem_take D);exact Ze c (h c hc))
 have h2:((a.map fN).take k).length<=100:=by rw[am9,ae2];omega
 have F:=Nat.mul_le_mul_right 30001 h2;omega
theorem alB (r:List (List cO)) (k:Nat) (L:r.length<=100) (D: ∀a∈r,a.length<=100) (h: ∀a∈r,∀c∈a,c.1=8\/fP c.2):(c9 124 ((r.map pK).take k)).length<=400000000:=by
 have:=Rx 124 3100000 ((r.map pK).take k) (λx F=>by obtain⟨a,hm,rfl⟩:=ar1.1 (List.mem_of_mem_take F);have:=Zq a (a.map fN).length (D a hm) (h a hm);rw[List.take_length] at this;exact this)
 have h2:((r.map pK).take k).length<=100:=by rw[am9,ae2];omega
 have J:=Nat.mul_le_mul_right 3100001 h2;omega
def rH (q:Nat) (c:cO) (w:World):Prop:=w.heap[q]? =some (.cells (T' c).toArray 494)
theorem rH.cell {q:Nat} {c:cO} {w:World} (h:rH q c w) (i:Nat) (D:i<5):w.cell? ⟨q,i,none⟩=(T' c)[i]? :=by
 unfold World.cell?;rw[show w.heap[(⟨q,i,none⟩:Addr).block]? =_ from h]
 simp
theorem rH.others {q B:Nat} {c:cO} {w w':World} (h:rH q c w) (J:q≠B) (F:Lib.OthersKept 5 (some B) w w'):rH q c w':=
 F q _ h (λe=>J (Option.some.inj e)) (λcs L e=>by injection e with _ D;exact absurd D (by decide))
theorem rH.below {q:Nat} {c:cO} {w w':World} (h:rH q c w) (D:Below w.heap.size w w'):rH q c w':=by unfold rH;rw[D.block _ (vS h)];exact h
set_option maxHeartbeats 4000000 in
theorem amz (r:List (List cO)) (a0:Option Addr) (cap0:Nat) (w:World) (ht:TabOk w.heap[tabB]?) (h:BD 1 ae1 w (.slice a0 r.length cap0) r) (hn:r.length<=100) (ha: ∀a∈r,a.length<=100) (hc: ∀a∈r,∀c∈a,c.1=8\/fP c.2) (s:List UInt8) (hs:Hid (c9 124 (r.map pK)=s)):
  Calls Tryz.prog 385 #[.agg #[.slice a0 r.length cap0]] w λe w'=>e=.returned (.string ⟨s.toArray⟩)/\Below w.heap.size w w':=by
 have H:=Lib.hid h;have HT:=Lib.hid ht;have HA:=Lib.hid ha;have HC:=Lib.hid hc
 have H0:Hid (Wr (w.heap.size+1) (c9 124 ((r.map pK).take 0)) ((w.alloc (.cells #[.slice a0 r.length cap0] 163)).alloc (.cells #[.pointer none,.slice none 0 0] 528))):=
  Lib.hid (by
   have:=Lib.IsBuilderF.of (Lib.fresh_isBuilder 528 5 (w.alloc (.cells #[.slice a0 r.length cap0] 163)));have e:(w.alloc (.cells #[.slice a0 r.length cap0] 163)).heap.size=w.heap.size+1:=by simp
   rw[e] at this;exact this)
 have HB0:Hid (Below w.heap.size w ((w.alloc (.cells #[.slice a0 r.length cap0] 163)).alloc (.cells #[.pointer none,.slice none 0 0] 528))):=
  Lib.hid (((Below.refl _ _).alloc (ab8 _) _).alloc (by simp) _)
 clear h ht ha hc
 go_enter Tryz.func385,Tryz.ntmps385
 go_wp2_with fail
 go_loopw [11] (λi wr=> ∃k:Nat,i=.int .i64 k/\k<=r.length/\Wr (w.heap.size+1) (c9 124 ((r.map pK).take k)) wr/\Below w.heap.size w wr) (λi _=>r.length - (intOf i).toNat)
 case atStart=>exact⟨0,rfl,ae3 _,H0.out,HB0.out⟩
 case round=>
  obtain⟨k,rfl,hk,hwr,hbe⟩:=hrel;have HWR:=Lib.hid hwr;have HBE:=Lib.hid hbe;have hzz:=hbe.size;clear hwr hbe H0 HB0;have k0:(0:Int)<=(k:Int):=by omega
  by_cases hlt:k<r.length
  · have k1:(k:Int)<(r.length:Int):=by omega
    have hdk:decide (k<r.length)=true:=decide_eq_true hlt;obtain⟨b,off,cs,rfl,hb,hcs,x,rfl,va,vc,rfl,hin⟩:=aa8 H.out k hlt
    have c0:wr.cell? ⟨b,off+k,none⟩=some (.slice va (r[k]).length vc):=by
     rw[HBE.out.cell (p:=⟨b,off+k,none⟩) hb];have:=hcs.2 0 (by omega)
     simpa using this
    have hin:BD 5 Uc w (.slice va (r[k]).length vc) (r[k]):=⟨va,vc,rfl,hin⟩;have HLT:=Gc HWR.out;have hal:=HA.out (r[k]) (ab7 hlt);have HCL:=Lib.hid (HC.out (r[k]) (ab7 hlt));have HTK:=Lib.hid (Q5 124 (r.map pK) k (by rw[ae2];exact hlt))
    have HPT:=Lib.hid (alB r k hn HA.out HC.out);rw[ar7] at HTK;obtain⟨A,hA⟩: ∃A,r[k]=A:=⟨_,rfl⟩;rw[hA] at c0 hin hal HCL HTK;obtain⟨X,hX⟩: ∃X,c9 124 ((r.map pK).take k)=X:=⟨_,rfl⟩;rw[hX] at HWR HTK HPT;have HIN:=Lib.hid hin;clear hcs hA hX hin;by_cases h0:0<k
    case' neg=>
     have hd0:decide ((0:Int)<(k:Int))=false:=decide_eq_false (by omega)
     have hd0':decide (0<k)=false:=decide_eq_false (by omega)
     have HW2:Hid (Wr (w.heap.size+1) (X++gL 124 k) wr):=Lib.hid (by unfold gL;rw[if_neg h0,ag5];exact HWR.out)
     obtain⟨wx,hwx⟩: ∃wx,wx=wr:=⟨_,rfl⟩;subst hwx;clear h0
     go_wp2_with fail
    case' pos=>
     have hd0:decide ((0:Int)<(k:Int))=true:=decide_eq_true (by omega)
     have hd0':decide (0<k)=true:=decide_eq_true h0;have HS:=Lib.hid (show gL 124 k=[124] from by unfold gL;rw[if_pos h0])
     clear h0
     go_wp2_with fail
     refine(Yn (w.heap.size+1) X 124 _ HWR.out (by have:=HPT.out;omega) (by omega)).mono ?_
     rintro e wx ⟨rfl,g1,g2,g3⟩;have HW2:=Lib.hid g1;rw[<-HS.out] at HW2;have HBE:=Lib.hid (HBE.out.trans (g2.mono (av8 _)));clear g1 g2 g3
     go_wp2_with fail
    all_goals
     have HS0:Hid (Wr (w.heap.size+1) ((X++gL 124 k)++c9 44 ((A.map fN).take 0)) wx):=Lib.hid (by rw[List.take_zero];show Wr _ (_++[]) _;rw[ag5];exact HW2.out)
     have HXL:Hid ((X++gL 124 k).length<=400000001):=Lib.hid (by have:=HPT.out;rw[ae7];unfold gL;split<;>simp only[af2,as5]<;>omega)
     obtain⟨Y,hY⟩: ∃Y,X++gL 124 k=Y:=⟨_,rfl⟩;rw[hY] at HS0 HXL HTK;have HB0:=Lib.hid HBE.out;clear hY HW2 HWR c0
     try clear HS
     go_loopw [21] (λi wr=> ∃j:Nat,i=.int .i64 j/\j<=A.length/\Wr (w.heap.size+1) (Y++c9 44 ((A.map fN).take j)) wr/\Below w.heap.size w wr) (λi _=>A.length - (intOf i).toNat)
     case atStart=>exact⟨0,rfl,ae3 _,HS0.out,HB0.out⟩
     case round=>
      obtain⟨j,rfl,hj,hwj,hbj⟩:=hrel;have HWJ:=Lib.hid hwj;have HBJ:=Lib.hid hbj;have hlj:=Gc hwj;have hbj0:=hbj.size;clear hwj hbj HS0 HB0 HBE hd0 hd0';have j0:(0:Int)<=(j:Int):=by omega
      by_cases hjl:j<A.length
      · have j1:(j:Int)<(A.length:Int):=by omega
        have hdj:decide (j<A.length)=true:=decide_eq_true hjl;obtain⟨b2,off2,cs2,rfl,hb2,hcs2,hcomp⟩:=aa8 HIN.out j hjl;unfold Uc at hcomp;subst hcomp;have HCM:=HCL.out (A[j]) (ab7 hjl);have HTJ:=Lib.hid (Q5 44 (A.map fN) j (by rw[ae2];exact hjl))
        have HPJ:=Lib.hid (Zq A j hal HCL.out);rw[ar7] at HTJ;obtain⟨⟨op,⟨n0,n1,n2⟩,pre⟩,hcm⟩: ∃c,A[j]=c:=⟨_,rfl⟩;rw[hcm] at hcs2 HTJ HCM;have e0:wr.cell? ⟨b2,off2+j*5,none⟩=some (.int .i64 op):=by rw[HBJ.out.cell (p:=⟨b2,off2+j*5,none⟩) hb2];exact hcs2.2 0 (by omega)
        have e1:wr.cell? ⟨b2,off2+j*5+1,none⟩=some (.int .i64 n0):=by rw[HBJ.out.cell (p:=⟨b2,off2+j*5+1,none⟩) hb2];exact hcs2.2 1 (by omega)
        have e2:wr.cell? ⟨b2,off2+j*5+2,none⟩=some (.int .i64 n1):=by rw[HBJ.out.cell (p:=⟨b2,off2+j*5+2,none⟩) hb2];exact hcs2.2 2 (by omega)
        have e3:wr.cell? ⟨b2,off2+j*5+3,none⟩=some (.int .i64 n2):=by rw[HBJ.out.cell (p:=⟨b2,off2+j*5+3,none⟩) hb2];exact hcs2.2 3 (by omega)
        have e4:wr.cell? ⟨b2,off2+j*5+4,none⟩=some (.string ⟨pre.toArray⟩):=by rw[HBJ.out.cell (p:=⟨b2,off2+j*5+4,none⟩) hb2];exact hcs2.2 4 (by omega)
        obtain⟨Z,hZ⟩: ∃Z,c9 44 ((A.map fN).take j)=Z:=⟨_,rfl⟩;rw[hZ] at HWJ HTJ HPJ;have HCV:Hid (op=8\/fP ((n0,n1,n2),pre)):=Lib.hid HCM;clear hcs2 hcm hZ HCM;have HAL:Hid (Below wr.heap.size wr (wr.alloc (.cells #[.int .i64 op,.int .i64 n0,.int .i64 n1,.int .i64 n2,.string ⟨pre.toArray⟩] 494))):=Lib.hid ((Below.refl _ _).alloc (ab8 _) _);have HCA:Hid (rH wr.heap.size (op,(n0,n1,n2),pre) (wr.alloc (.cells #[.int .i64 op,.int .i64 n0,.int .i64 n1,.int .i64 n2,.string ⟨pre.toArray⟩] 494))):=Lib.hid (heap_alloc_new _ _);have HWA:=Lib.hid (RG HWJ.out HAL.out);have HBA:=Lib.hid (HBJ.out.trans (HAL.out.mono hbj0));have HSZ:Hid (wr.heap.size+1=(wr.alloc (.cells #[.int .i64 op,.int .i64 n0,.int .i64 n1,.int .i64 n2,.string ⟨pre.toArray⟩] 494)).heap.size):=Lib.hid (by simp)
        by_cases hj0:0<j
        case' neg=>
         have hdz:decide ((0:Int)<(j:Int))=false:=decide_eq_false (by omega)
         have hdz':decide (0<j)=false:=decide_eq_false (by omega)
         have HSP:=Lib.hid (show gL 44 j=[] from by unfold gL;rw[if_neg hj0])
         clear hj0
         go_wp2_with fail
         obtain⟨wy,hwy⟩: ∃wy,wy=wr.alloc (.cells #[.int .i64 op,.int .i64 n0,.int .i64 n1,.int .i64 n2,.string ⟨pre.toArray⟩] 494):=⟨_,rfl⟩;rw[<-hwy] at HCA HWA HBA⊢;have HWY:Hid (Wr (w.heap.size+1) (Y++(Z++gL 44 j)) wy):=Lib.hid (by rw[HSP.out,ag5];exact HWA.out)
         have HZY:Hid (w.heap.size+1<=wy.heap.size):=Lib.hid (by rw[hwy,<-HSZ.out];omega)
         clear HAL hwy HWA
        case' pos=>
         have hdz:decide ((0:Int)<(j:Int))=true:=decide_eq_true (by omega)
         have hdz':decide (0<j)=true:=decide_eq_true hj0;have HSP:=Lib.hid (show gL 44 j=[44] from by unfold gL;rw[if_pos hj0])
         clear hj0
         go_wp2_with fail
         refine(Yn (w.heap.size+1) _ 44 _ HWA.out (by have:=HPJ.out;have:=HXL.out;rw[ae7];omega) (by rw[<-HSZ.out];omega)).mono ?_
         rintro e wy ⟨rfl,g1,g2,g3⟩;have HWY:Hid (Wr (w.heap.size+1) (Y++(Z++gL 44 j)) wy):=Lib.hid (by rw[HSP.out,<-as2];exact g1)
         have HZY:Hid (w.heap.size+1<=wy.heap.size):=Lib.hid (Nat.le_of_lt (Gc g1));have HCA:=Lib.hid (HCA.out.others (by omega) g3)
         have HBA:=Lib.hid (HBA.out.trans (g2.mono (av8 _)));have q0:wy.cell? ⟨wr.heap.size,0,none⟩=some (.int .i64 op):=HCA.out.cell 0 (by omega)
         clear g1 g2 g3 HAL HWA
         go_wp2_with fail
         clear q0
        all_goals
         refine(aow op wy (Yr HT.out HBA.out)).mono ?_;rintro e wz ⟨rfl,g1⟩;have HWZ:=Lib.hid (RG HWY.out g1);have HCZ:=Lib.hid (HCA.out.below g1);have HZZ:Hid (w.heap.size+1<=wz.heap.size):=Lib.hid (an4 HZY.out g1.size);have HBZ:=Lib.hid (HBA.out.trans (g1.mono (an4 (av8 _) HZY.out)));clear g1
         go_wp2_with fail
         refine(Zu (w.heap.size+1) _ (bZ op) wz HWZ.out (by
          have:=HPJ.out;have:=HXL.out;have:(bZ op).length<=2:=by unfold bZ;(repeat' split)<;>decide
          have h2:(gL 44 j).length<=1:=by rw[HSP.out];decide
          rw[ae7,ae7];omega) HZZ.out).mono ?_
         rintro e wu ⟨rfl,g1,g2,g3⟩;have HWU:=Lib.hid g1;have HCU:=Lib.hid (HCZ.out.others (by omega) g3)
         have HZU:Hid (w.heap.size+1<=wu.heap.size):=Lib.hid (Nat.le_of_lt (Gc g1));have HBU:=Lib.hid (HBZ.out.trans (g2.mono (av8 _)));have q0:wu.cell? ⟨wr.heap.size,0,none⟩=some (.int .i64 op):=HCU.out.cell 0 (by omega)
         have q1:wu.cell? ⟨wr.heap.size,1,none⟩=some (.int .i64 n0):=HCU.out.cell 1 (by omega)
         have q2:wu.cell? ⟨wr.heap.size,1+1,none⟩=some (.int .i64 n1):=HCU.out.cell 2 (by omega)
         have q3:wu.cell? ⟨wr.heap.size,1+2,none⟩=some (.int .i64 n2):=HCU.out.cell 3 (by omega)
         have q4:wu.cell? ⟨wr.heap.size,1+3,none⟩=some (.string ⟨pre.toArray⟩):=HCU.out.cell 4 (by omega)
         clear g1 g2 g3 HWY HZY HCA HBA HWZ HCZ HZZ HBZ;by_cases h8:op=8
         case' pos=>
          have HJT:Hid (Y++c9 44 ((A.map fN).take (j+1))=Y++(Z++gL 44 j)++bZ op):=Lib.hid (by rw[HTJ.out];unfold fN;rw[if_pos h8,ag5];simp only[as2])
          subst h8
          go_wp2_with fail
          go_roundw
          case rel=>exact⟨j+1,by go_num,by omega,by rw[HJT.out];exact HWU.out,HBU.out⟩
          case measure=>simp [intOf];omega
         case' neg=>
          have hd8:(op !=8)=true:=by simp [h8]
          have HJT:Hid (Y++c9 44 ((A.map fN).take (j+1))=Y++(Z++gL 44 j)++bZ op++ky ((n0,n1,n2),pre)):=Lib.hid (by rw[HTJ.out];unfold fN;rw[if_neg h8];simp only[as2])
          have HVO:Hid (fP ((n0,n1,n2),pre)):=Lib.hid (HCV.out.resolve_left h8);have HLN:=Lib.hid (Ze (op,(n0,n1,n2),pre) HCV.out);have HVL:Hid ((ky ((n0,n1,n2),pre)).length<=30000):=Lib.hid (by have:=HLN.out;unfold fN at this;rw[if_neg h8,ae7] at this;have:(bZ op).length+(ky ((n0,n1,n2),pre)).length<=30000:=this;omega)
          clear h8
          go_wp2_with fail
          refine(amC ((n0,n1,n2),pre) HVO.out wu (Yr HT.out HBU.out)).mono ?_;rintro e wt ⟨rfl,g1⟩;have HWT:=Lib.hid (RG HWU.out g1);have HZT:Hid (w.heap.size+1<=wt.heap.size):=Lib.hid (an4 HZU.out g1.size);have HBT:=Lib.hid (HBU.out.trans (g1.mono (an4 (av8 _) HZU.out)));clear g1 q0 q1 q2 q3 q4
          go_wp2_with fail
          refine(Zu (w.heap.size+1) _ (ky ((n0,n1,n2),pre)) wt HWT.out (by
           have:=HPJ.out;have:=HXL.out;have:(bZ op).length<=2:=by unfold bZ;(repeat' split)<;>decide
           have h2:(gL 44 j).length<=1:=by rw[HSP.out];decide
           have:=HVL.out;rw[ae7,ae7,ae7];omega) HZT.out).mono ?_
          rintro e wv ⟨rfl,g1,g2,g3⟩;have HWV:=Lib.hid g1;have HBV:=Lib.hid (HBT.out.trans (g2.mono (av8 _)));clear g1 g2 g3
          go_wp2_with fail
          go_roundw
          case rel=>exact⟨j+1,by go_num,by omega,by rw[HJT.out];exact HWV.out,HBV.out⟩
          case measure=>simp [intOf];omega
      · have hdj:decide (j<A.length)=false:=decide_eq_false hjl;have HJT:Hid (Y++c9 44 ((A.map fN).take j)=Y++pK A):=Lib.hid (by rw[av3 (by rw[ae2];omega)];rfl)
        rw[HJT.out] at HWJ;have HJN:=Lib.hid hjl;clear hjl
        go_wp2_with fail
        go_roundw
        case rel=>exact⟨k+1,by go_num,by omega,by rw[HTK.out];exact HWJ.out,HBJ.out⟩
        case measure=>simp [intOf];omega
  · have hdk:decide (k<r.length)=false:=decide_eq_false hlt;have HK:Hid (c9 124 ((r.map pK).take k)=s):=Lib.hid (by rw[av3 (by rw[ae2];omega),hs.out])
    rw[HK.out] at HWR;have HLT:=Lib.hid hlt;have HZR:Hid (w.heap.size+1<=wr.heap.size):=Lib.hid (Nat.le_of_lt (Gc HWR.out));clear hlt
    go_wp2_with fail
    refine(apL (w.heap.size+1) s _ HWR.out HZR.out).mono ?_;rintro e w4 ⟨rfl,hb4⟩
    go_wp2_with fail
    go_ret
    exact⟨rfl,HBE.out.trans (hb4.mono (av8 _))⟩
theorem aom (r:List (List cO)) (J:r.length<=100) (D: ∀a∈r,a.length<=100) (hc: ∀a∈r,∀c∈a,c.1=8\/fP c.2) (s:List UInt8) (hs:c9 124 (r.map pK)=s):
  fo Tryz.prog 385 [.agg [.v (.sl (.sl OM)) r]] [] (.ret (.c (.v .str s)) []):=by
 refine fo.pure λA w vals U M N=>?_;obtain⟨v0,rfl,cs,rfl,h1⟩:=As N;obtain⟨x,rfl,O⟩:=As h1;obtain⟨a,cap,e,L⟩:=am6 O;rw[e];refine(amz r a cap w M ⟨a,cap,rfl,L⟩ J D hc s (Lib.hid hs)).mono ?_;rintro e w' ⟨rfl,F⟩;exact⟨_,A,rfl,iB.tO F,λ_ _ h=>h,λ_ _ h=>.inl h,FZ rfl⟩
noncomputable def ag7:dh Tryz.prog:=mkB 385 ⟨[(0,.st (.sl (.sl (.pair (.int .i64) (.pair (.pair (.int .i64) (.pair (.int .i64) (.int .i64))) .str)))))],[]⟩ [(false,⟨[(2,.c (.v .str))],[]⟩)] (λr=>(r,())) (λx=>yG x.1) (by kernel_rfl) (λx o h0=>by
 obtain⟨r,u⟩:=x;have h:yG r=some o:=h0;clear h0;unfold yG at h;split at h
 · rename_i D;injection h with h;exact aom r D.1 D.2.1 D.2.2 o h
 · cases h)
def Qm:FS:=mkQ [ajN] [] 98 cJ [(false,⟨((2,jV)::uV),[]⟩)] (k1 zD)
def tj:FS:=mkQ [] [] 151 ⟨[cm],fc⟩ [(false,⟨[(2,gX)],fc⟩)] (k1 jD)
def kQ:FS:=mkHh [tj] [(12,{ow:=[4],ps:=[(4,cF)]})] 100 ⟨[cm],fc⟩ ((false,⟨js,fc⟩)::pW) (id) (id) (λ_=>rfl) (k1 fh)
def dB:FS:=mkHh [] [] 101 ⟨[cm,bW],fc⟩ pW (id) (id) (λ_=>rfl) (k2 cr)
def agE:FS:=mkHh [dB] Cd 248 ⟨BQ,(fZ::BM)⟩ [(false,⟨[],(fZ::BM)⟩),(true,⟨[],(lJ::BM)⟩)] (id) (id) (λ_=>rfl) (k3 C6)
def ai1:FS:=mkG [] [] 411 ⟨[(0,BZ)],[]⟩ gD (k1 KJ)
def W8:FS:=mkG [ai1] [(29,Ca),(58,{loop:=some ⟨[dH,(22,aW),(23,aW)],[]⟩})] 363 cJ gD (k1 EM)
def Km:FS:=mkG [W8] [] 287 cJ gD (k1 ql)
def aiu:FS:=mkQ [Km] [] 251 cJ Hj (k1 D1)
def Pk:FS:=mkHh [dB,kQ,aiu] oM 178 ⟨[cm,(1,.fn 251 [] [])],fc⟩ He (id) (id) (λ_=>rfl) (k1 CJ)
def agU:FS:=mkG [] [] 250 ⟨[(0,.st vq)],[]⟩ sV (k1 Jt)
def af6:FS:=mkQ [agU] [] 377 ⟨((0,.st vq)::xE),((1020,UM)::rr)⟩ [(false,⟨ra,((1020,UM)::rr)⟩)] (k2 IM)
def afe:FS:=mkQ [af6] ((13,{cut:=[(.normal,⟨[],G6⟩),(.ret,⟨fe,G6⟩)]})::(26,{loop:=some ⟨((0,G0)::(1,.fn 377 [] rp)::gR),G6⟩})::HJ) 376 ⟨[(0,G0),(1,.fn 377 [] rp)],G6⟩ [(false,⟨fe,G6⟩)] (k2 O1)
def VR:FS:=mkG [afe] Hs 296 ⟨((0,G0)::(1,.fn 250 [] [])::js),[]⟩ pT (k2 yd)
def afH:FS:=mkHh [dB,VR] Hn 249 ⟨[cm,jv,(2,.fn 250 [] []),(3,dT)],(fZ::BM)⟩ [(false,⟨[(8,dT)],(fZ::BM)⟩),(true,⟨[],(lJ::BM)⟩)] (id) (id) (λ_=>rfl) (k3 Iw)
def afR:FS:=mkHh [dB,kQ,aiM] oM 252 ⟨[cm,(1,.fn 253 [] [])],fc⟩ ((false,⟨[(4,.c (.v (.gB .f64)))],fc⟩)::pW) (id) (id) (λ_=>rfl) (k1 Po)
def aiV:FS:=mkQ [] [] 255 cJ [(false,⟨((2,gX)::iA),[]⟩)] (k1 KH)
def afX:FS:=mkHh [dB,kQ,aiV] oM 254 ⟨[cm,(1,.fn 255 [] [])],fc⟩ ((false,⟨ra,fc⟩)::pW) (id) (id) (λ_=>rfl) (k1 Pu)
def agm:FS:=mkHh [afX,afR,Pk,agE,afH] [(2,{ow:=[10],ps:=[(10,[nu,(1020,1001)])]}),(6,{un:=[.v 1000 0],ow:=[17,18],kf:=[(3,ff),(4,ff),(6,nw),(7,.u [1020,1001] true)],ps:=[(17,bq),(18,[nu,(1020,1001)])]}),(7,{un:=[.v 1000 0],ow:=[26,28],kf:=[(3,ff),(4,ff),(7,nw),(9,nw),(12,GX),(14,ff),(15,GW)],ps:=[(26,bq),(28,bq)]})] 168 G4 Hz (id) (id) (λ_=>rfl) (λx=>I2 x.1 x.2.1 x.2.2.1 x.2.2.2.1 x.2.2.2.2.1 x.2.2.2.2.2.1)
def agS:FS:=mkHh [dB] Cd 256 ⟨BQ,(fZ::BH)⟩ [(false,⟨[],(fZ::BH)⟩),(true,⟨[],(lJ::BH)⟩)] (id) (id) (λ_=>rfl) (k3 Dh)
def afU:FS:=mkG [] [] 448 kH di (k2 IG)
def afV:FS:=mkQ [afU] [] 431 kH Hc (k2 Pr)
def PG:FS:=mkQ [afV] [] 406 kH Hc (k2 yB)
def VY:FS:=mkG [] [] 449 kH di (k2 CL)
def afW:FS:=mkQ [VY] [] 432 kH Hc (k2 Pt)
def We:FS:=mkQ [afW] [] 409 kH Hc (k2 De)
def W9:FS:=mkQ [J6,We] [] 361 cJ [(false,⟨[(2,dT),(3,dT)],[]⟩)] (k1 EN)
def D3:FS:=mkG [Km,W9] [] 285 cJ gD (k1 tB)
def QF:FS:=mkG [D3,Km,W9,W8,PG] [] 352 cJ gD (k1 zZ)
def aiX:FS:=mkQ [QF] [] 259 cJ Hj (k1 Ek)
def afS:FS:=mkHh [dB,kQ,aiX] oM 178 ⟨[cm,(1,.fn 259 [] [])],fc⟩ He (id) (id) (λ_=>rfl) (k1 Pp)
def ahe:FS:=mkG [] [] 258 ⟨[(0,.st xV)],[]⟩ sV (k1 JG)
def af8:FS:=mkQ [ahe] [] 405 ⟨((0,.st xV)::xE),((1020,UN)::rr)⟩ [(false,⟨ra,((1020,UN)::rr)⟩)] (k2 IN)
def afi:FS:=mkQ [af8] ((13,{cut:=[(.normal,⟨[],G7⟩),(.ret,⟨fe,G7⟩)]})::(26,{loop:=some ⟨((0,.c BS)::(1,.fn 405 [] rp)::gR),G7⟩})::HJ) 404 ⟨[(0,.c BS),(1,.fn 405 [] rp)],G7⟩ [(false,⟨fe,G7⟩)] (k2 O3)
def afM:FS:=mkG [afi] Hs 351 ⟨((0,.c BS)::(1,.fn 258 [] [])::js),[]⟩ pT (k2 Iz)
def afL:FS:=mkHh [dB,afM] Hn 257 ⟨[cm,jv,(2,.fn 258 [] []),(3,dT)],(fZ::BH)⟩ [(false,⟨[(8,dT)],(fZ::BH)⟩),(true,⟨[],(lJ::BH)⟩)] (id) (id) (λ_=>rfl) (k3 Ix)
def IT:FS:=mkG [] [lI,(26,{loop:=some ⟨((0,eu)::dy::gR),[]⟩})] 139 N7 dA (k2 nJ)
def aiW:FS:=mkQ [IT] [] 261 cJ [U0] (k1 KI)
def af1:FS:=mkHh [dB,kQ,aiW] oM 260 ⟨[cm,(1,.fn 261 [] [])],fc⟩ ((false,⟨fe,fc⟩)::pW) (id) (id) (λ_=>rfl) (k1 Py)
def V5:FS:=mkG [VR] [] 190 B3 dA (k2 ti)
def yh:FS:=mkG [IT] [] 66 N7 di (k2 p8)
def agG:FS:=mkHh [dB,tj,af1,afS,Pk,agS,afL,V5,yh] [(2,{ow:=[11],ps:=[(11,[nu,(1020,1002)])]}),(6,{un:=[.v 1000 1],ow:=[18,19,21],kf:=[(3,ff),(4,ff),(6,nw),(7,.u [1020,1002] true),(9,nw),(11,.n 4),(12,.u [4] false)],ps:=[(18,bq),(19,[nu,(1020,1002)]),(21,bq)]}),(14,{cut:=[(.normal,⟨[cm,ga],adI⟩),(.dK,⟨[],(N1::VM)⟩)]}),(15,{pre:=[.ba 45]}),(28,{un:=[.v 1000 1],pre:=[.da 4 2 45 (.row [] 9 .str [])],loop:=some ⟨[cm,jc,ga],adI⟩}),(224,{ow:=[24],ps:=[(24,bq)]}),(452,{ow:=[26],ps:=[(26,bq)]}),(1812,{rd:=[31]}),(3626,{ow:=[34],ps:=[(34,bq)]}),(3628,{rd:=[38]}),(7258,{ow:=[40],ps:=[(40,bq)]})] 169 G4 Hz (id) (id) (λ_=>rfl) (λx=>Jn x.1 x.2.1 x.2.2.1 x.2.2.2.1 x.2.2.2.2.1 x.2.2.2.2.2.1)
def ahy:FS:=mkHh [dB] Cd 262 ⟨BQ,(fZ::BI)⟩ [(false,⟨[],(fZ::BI)⟩),(true,⟨[],(lJ::BI)⟩)] (id) (id) (λ_=>rfl) (k3 DA)
def aiY:FS:=mkQ [D3] [] 265 cJ Hj (k1 El)
def VX:FS:=mkHh [dB,kQ,aiY] oM 178 ⟨[cm,(1,.fn 265 [] [])],fc⟩ He (id) (id) (λ_=>rfl) (k1 IF)
def ahM:FS:=mkG [] [] 264 ⟨[(0,.st B7)],[]⟩ sV (k1 J1)
def agk:FS:=mkQ [ahM] [] 367 ⟨((0,.st B7)::xE),((1020,UO)::rr)⟩ [(false,⟨ra,((1020,UO)::rr)⟩)] (k2 I0)
def afv:FS:=mkQ [agk] ((13,{cut:=[(.normal,⟨[],G8⟩),(.ret,⟨fe,G8⟩)]})::(26,{loop:=some ⟨((0,.c GL)::(1,.fn 367 [] rp)::gR),G8⟩})::HJ) 366 ⟨[(0,.c GL),(1,.fn 367 [] rp)],G8⟩ [(false,⟨fe,G8⟩)] (k2 Pg)
def VW:FS:=mkG [afv] Hs 290 ⟨((0,.c GL)::(1,.fn 264 [] [])::js),[]⟩ pT (k2 yg)
def afQ:FS:=mkHh [dB,VW] Hn 263 ⟨[cm,jv,(2,.fn 264 [] []),(3,dT)],(fZ::BI)⟩ [(false,⟨[(8,dT)],(fZ::BI)⟩),(true,⟨[],(lJ::BI)⟩)] (id) (id) (λ_=>rfl) (k3 ID)
def ahH:FS:=mkQ [] [(61,{cut:=[(.normal,Hx),(.ret,⟨[(4,aW),(5,nx)],[]⟩)]}),(122,{loop:=some ⟨[dH,jU,(28,aW),(29,aW)],[]⟩})] 354 G3 [(false,⟨[(4,aW),ni],[]⟩)] (k2 JW)
def Wu:FS:=mkQ [J6,Dw,ahH,WH] [(509,{cut:=[(.normal,⟨[bR,N4],[(2,ny),(8,ny)]⟩),(.ret,⟨[bR,(3,nx)],[(2,ny)]⟩)]}),(1018,{loop:=some ⟨[bR,N4,(34,eu),(35,aW),(36,aW)],[(2,ny),(8,ny)]⟩})] 267 cJ [(false,⟨((3000002,nj)::iA),[]⟩)] (k1 yT)
def VV:FS:=mkHh [dB,kQ,Wu] oM 266 ⟨[cm,(1,.fn 267 [] [])],fc⟩ ((false,⟨[(3000004,nj)],fc⟩)::pW) (id) (id) (λ_=>rfl) (k1 IE)
def agV:FS:=mkHh [VV,VX,ahy,afQ] [(2,{ow:=[10],ps:=[(10,[nu,(1020,1003)])]}),(6,{un:=[.v 1000 2],ow:=[17,18],kf:=[(3,ff),(4,ff),(6,nw),(7,.u [1020,1003] true)],ps:=[(17,bq),(18,[nu,(1020,1003)])]}),(7,{un:=[.v 1000 2],ow:=[26],kf:=[(3,ff),(4,ff),(7,nw),(10,.u [1003] false),(12,ff),(13,GW)],ps:=[(26,bq)]})] 170 G4 Hz (id) (id) (λ_=>rfl) (λx=>Ju x.1 x.2.1 x.2.2.1 x.2.2.2.1 x.2.2.2.2.1 x.2.2.2.2.2.1)
def ahc:FS:=mkHh [dB] Cd 268 ⟨BQ,(fZ::BJ)⟩ [(false,⟨[],(fZ::BJ)⟩),(true,⟨[],(lJ::BJ)⟩)] (id) (id) (λ_=>rfl) (k3 Dr)
def ahz:FS:=mkG [] [] 270 ⟨[(0,.st Cy)],[]⟩ sV (k1 JR)
def af9:FS:=mkQ [ahz] [] 369 ⟨((0,.st Cy)::xE),((1020,UP)::rr)⟩ [(false,⟨ra,((1020,UP)::rr)⟩)] (k2 IU)
def afq:FS:=mkQ [af9] ((13,{cut:=[(.normal,⟨[],G9⟩),(.ret,⟨fe,G9⟩)]})::(26,{loop:=some ⟨((0,.c GO)::(1,.fn 369 [] rp)::gR),G9⟩})::HJ) 368 ⟨[(0,.c GO),(1,.fn 369 [] rp)],G9⟩ [(false,⟨fe,G9⟩)] (k2 O')
def VU:FS:=mkG [afq] Hs 291 ⟨((0,.c GO)::(1,.fn 270 [] [])::js),[]⟩ pT (k2 yf)
def afN:FS:=mkHh [dB,VU] Hn 269 ⟨[cm,jv,(2,.fn 270 [] []),(3,dT)],(fZ::BJ)⟩ [(false,⟨[(8,dT)],(fZ::BJ)⟩),(true,⟨[],(lJ::BJ)⟩)] (id) (id) (λ_=>rfl) (k3 IB)
def ajL:FS:=mkG [] [] 355 ⟨[(0,BZ)],[]⟩ [(false,⟨[(2,BZ)],[]⟩)] (k1 K7)
def ahf:FS:=mkQ [ajL] [aeC,(122,{loop:=some ⟨[dH,(4,jW),sK,sL],[]⟩})] 272 cJ [(false,⟨((2,jW)::iA),[]⟩)] (k1 Ds)
def VT:FS:=mkHh [dB,kQ,ahf] oM 271 ⟨[cm,(1,.fn 272 [] [])],fc⟩ ((false,⟨[(4,jW)],fc⟩)::pW) (id) (id) (λ_=>rfl) (k1 ye)
def agp:FS:=mkG [] [lI,(26,{loop:=some ⟨((0,U7)::(1,jW)::gR),[]⟩})] 356 ⟨[(0,U7),(1,jW)],[]⟩ dA (k2 PH)
def V1:FS:=mkG [agp] [] 273 ⟨[(0,U7),(1,jW)],[]⟩ di (k2 yl)
def agF:FS:=mkHh [dB] Cd 274 ⟨BQ,[fZ,(1020,GM)]⟩ [(false,⟨[],[fZ,(1020,GM)]⟩),(true,⟨[],[lJ,(1020,GM)]⟩)] (id) (id) (λ_=>rfl) (k3 C7)
def agH:FS:=mkHh [dB,tj,VT,VX,agF,ahc,afN,V1] [(2,{ow:=[11],ps:=[(11,[nu,(1020,1004)])]}),(6,{un:=[.v 1000 3],ow:=[18,19,21,22],kf:=[(3,ff),(4,ff),(6,nw),(7,.u [1020,1004] true),(9,nw),(10,.u [22] false),(12,.n 4),(13,.u [4] false)],ps:=[(18,bq),(19,[nu,(1020,1004)]),(21,bq)]}),(14,{cut:=[(.normal,⟨[cm,ga],((4,.var 418 [bj,.own 22])::(22,GM)::Vv)⟩),(.dK,⟨[],(N1::VM)⟩)]}),(15,{pre:=[.ba 22]}),(28,{un:=[.v 1000 3],loop:=some ⟨[cm,jc,ga],((4,.var 418 [bj,.own 22])::(22,GM)::Vv)⟩}),(224,{ow:=[25],ps:=[(25,bq)]}),(452,{ow:=[27],ps:=[(27,bq)]}),(1812,{rd:=[31]}),(1814,{ow:=[37],ps:=[(37,[nu,(1020,22)])]}),(1815,{un:=[.v 4 1]}),(3626,{ow:=[33],ps:=[(33,bq)]})] 171 G4 Hz (id) (id) (λ_=>rfl) (λx=>Jo x.1 x.2.1 x.2.2.1 x.2.2.2.1 x.2.2.2.2.1 x.2.2.2.2.2.1)
def agD:FS:=mkHh [dB] Cd 275 ⟨BQ,(fZ::BK)⟩ [(false,⟨[],(fZ::BK)⟩),(true,⟨[],(lJ::BK)⟩)] (id) (id) (λ_=>rfl) (k3 C5)
def agT:FS:=mkG [] [] 174 ⟨[(0,.st Cu)],[]⟩ sV (k1 Js)
def af5:FS:=mkQ [agT] [] 280 ⟨((0,.st Cu)::xE),((1020,UQ)::rr)⟩ [(false,⟨ra,((1020,UQ)::rr)⟩)] (k2 IL)
def afd:FS:=mkQ [af5] ((13,{cut:=[(.normal,⟨[],Ha⟩),(.ret,⟨fe,Ha⟩)]})::(26,{loop:=some ⟨((0,.c GP)::(1,.fn 280 [] rp)::gR),Ha⟩})::HJ) 279 ⟨[(0,.c GP),(1,.fn 280 [] rp)],Ha⟩ [(false,⟨fe,Ha⟩)] (k2 O0)
def VQ:FS:=mkG [afd] Hs 173 ⟨((0,.c GP)::(1,.fn 174 [] [])::js),[]⟩ pT (k2 yc)
def afG:FS:=mkHh [dB,VQ] Hn 276 ⟨[cm,jv,(2,.fn 174 [] []),(3,dT)],(fZ::BK)⟩ [(false,⟨[(8,dT)],(fZ::BK)⟩),(true,⟨[],(lJ::BK)⟩)] (id) (id) (λ_=>rfl) (k3 Iv)
def ajM:FS:=mkQ [] [(61,{cut:=[(.normal,⟨[dH,(4,jt)],[]⟩),(.ret,⟨[(2,jt),(3,nx)],[]⟩)]}),(122,{loop:=some ⟨(dH::(4,jt)::xr),[]⟩})] 278 cJ [(false,⟨((2,jt)::iA),[]⟩)] (k1 EO)
def V0:FS:=mkHh [dB,kQ,ajM] oM 277 ⟨[cm,(1,.fn 278 [] [])],fc⟩ ((false,⟨[(4,jt)],fc⟩)::pW) (id) (id) (λ_=>rfl) (k1 IJ)
def agl:FS:=mkHh [V0,Pk,agD,afG] [(2,{ow:=[10],ps:=[(10,[nu,(1020,1005)])]}),(6,{un:=[.v 1000 4],ow:=[17,18],kf:=[(3,ff),(4,ff),(6,nw),(7,.u [1020,1005] true)],ps:=[(17,bq),(18,[nu,(1020,1005)])]}),(7,{un:=[.v 1000 4],ow:=[26],kf:=[(3,ff),(4,ff),(7,nw),(10,.u [1005] false),(12,ff),(13,GW)],ps:=[(26,bq)]})] 172 G4 Hz (id) (id) (λ_=>rfl) (λx=>I1 x.1 x.2.1 x.2.2.1 x.2.2.2.1 x.2.2.2.2.1 x.2.2.2.2.2.1)
def ahd:FS:=mkHh [dB,kQ,agH,agV,agG,agm,agl] [(2,{ow:=[6],ps:=[(6,cF)]}),(110,{ow:=[20],ps:=[(20,cF)]}),(446,{ow:=[25],ps:=[(25,HI)]}),(1790,{ow:=[30],ps:=[(30,HI)]}),(7166,{ow:=[35],ps:=[(35,HI)]}),(28670,{ow:=[40],ps:=[(40,HI)]}),(114686,{ow:=[45],ps:=[(45,HI)]}),(114687,UZ)] 167 ⟨(cm::xE),aeq⟩ [(false,⟨[],aeq⟩),(true,⟨[],(lJ::(1020,Hy)::(1040,Oa)::aeR)⟩)] (id) (id) (λ_=>rfl) (λx=>JF x.1 x.2.1 x.2.2.1 x.2.2.2.1 x.2.2.2.2.1 x.2.2.2.2.2.1 x.2.2.2.2.2.2.1)
def afZ:FS:=mkEach [dB,tj,ahd] ((61,{cut:=[(.normal,⟨[rn],(oC::Vk::Vx)⟩),(.dK,⟨[rn],(oC::(1200,Oa)::Vx)⟩)]})::(122,{loop:=some ⟨((1,.fn 167 [] B5)::US),(oC::Vk::Vx)⟩})::(31334,{ow:=[23],ps:=[(23,[(1000,20),(1020,1100),(1040,1200),(1041,1201),(1042,1202),(1043,1203),(1044,1204),(1045,1205)])]})::Vq) ⟨[(0,jV),(1,.fn 167 [] B5)],Vt⟩ ⟨[(0,jV),(1,.fn 167 [] B5),rn],(sS::Vt)⟩ ⟨BU,Vt⟩ ⟨BU,(oC::(1200,Oa)::aen)⟩ (id) (id) (λ_=>rfl) (λx=>Pw x.1 x.2.1 x.2.2.1 x.2.2.2.1 x.2.2.2.2.1 x.2.2.2.2.2.1 x.2.2.2.2.2.2.1) (by kernel_rfl) (λx=>by kernel_rfl)
def aix:FS:=mkQ [afZ,Qm] [(116,u9),(126,{pre:=[.da 6 0 606 (.row [] 337 vq []),.da 6 1 607 (.row [] 405 xV []),.da 6 2 608 (.row [] 411 B7 []),.da 6 3 609 (.row [] 418 Cy []),.da 6 4 610 (.row [] 317 Cu [])],ow:=[20],ps:=[(20,[(1100,7),(1200,6),(1201,606),(1202,607),(1203,608),(1204,609),(1205,610)])]}),(1023,{pre:=[.ba 606,.ba 607,.ba 608,.ba 609,.ba 610]}),(4084,u9)] 88 cJ [(false,⟨((3000002,.st Cs)::uV),[]⟩)] (k1 vO)
def agn:FS:=mkQ [VQ] [] 89 B3 [(false,⟨[(4,jt),ni],[]⟩)] (k2 I3)
def aja:FS:=mkQ [Km] [] 182 cJ Hj (k1 Eo)
def Pm:FS:=mkHh [dB,kQ,aja] oM 178 ⟨[cm,(1,.fn 182 [] [])],fc⟩ He (id) (id) (λ_=>rfl) (k1 a1l)
def ajQ:FS:=mkQ [D3] [] 179 cJ Hj (k1 EP)
def VZ:FS:=mkHh [dB,kQ,ajQ] oM 178 ⟨[cm,(1,.fn 179 [] [])],fc⟩ He (id) (id) (λ_=>rfl) (k1 II)
def ahp:FS:=mkG [] [] 187 cJ gD (k1 cmp_isNaN_string)
def I8:FS:=mkG [ahp] [] 108 kH dA (k2 rI)
def aic:FS:=mkG [] [] 222 GJ gD (k1 cmp_isNaN_int)
def Jz:FS:=mkG [aic] [] 129 ⟨[nr,bW],[]⟩ dA (k2 my)
def ahW:FS:=mkG [Jz,ahs,Wn] [] 294 kH dA (k2 J4)
def aid:FS:=mkG [Jz,ahW] [(13,{cut:=((.normal,⟨[(0,eu),(1,eu)],[]⟩)::Hk)}),(26,{loop:=some ⟨((0,eu)::(1,eu)::eB),[]⟩})] 188 ⟨[(0,eu),(1,eu)],[]⟩ dA (k2 Kc)
def PM:FS:=mkG [Jz,Dw,aid] [(13,{cut:=((.normal,⟨[bR,cK],[(2,ny),(3,ny)]⟩)::Hk)}),(26,{loop:=some ⟨(bR::cK::iz),[(2,ny),(3,ny)]⟩})] 109 ⟨[(0,nj),(1,nj)],[]⟩ dA (k2 tu)
def ajb:FS:=mkG [I8,PM] [] 359 ⟨[(0,.st jZ),(1,.st jZ)],[]⟩ dA (k2 KN)
def aga:FS:=mkG [ajb] [] 358 ⟨[(0,.st jZ),(1,.c (.v (.ptr jZ)))],[]⟩ [(false,⟨iA,[]⟩)] (k2 IV)
def afk:FS:=mkG [aga] [lI,(26,{loop:=some ⟨((0,.c (.v (.sl jZ)))::(1,.fn 358 [] [.v (.ptr jZ)])::gR),[]⟩})] 408 ad4 dA (k2 O8)
def aff:FS:=mkG [afk] [] 357 ad4 di (k2 Ik)
def ahA:FS:=mkQ [tj] [(12,{ow:=[6],kf:=[(1,GW),(6,ff),(7,ff),(8,ff),(11,ff),(12,ff),(13,bh),(14,bh)],ps:=[(6,cF)]})] 360 ⟨[cm,dy],fc⟩ [(false,⟨ra,fc⟩)] (k2 yM)
def agZ:FS:=mkHh [dB,ahA,VT,V0,VV,VZ,aff] [(6,{ow:=[15,17],ps:=[(15,bq),(17,bq)]}),(10,{ow:=[13],ps:=[(13,bq)]}),(28,{rd:=[25]}),(30,U9),(58,{ow:=[27],ps:=[(27,bq)]}),(62,{ow:=[32],ps:=[(32,bq)]}),(126,Vb),(127,{pre:=adE,post:=[.oG 5005 (.row [] 165 (.pair .str (.pair (.sl (.sl (.pair (.int .i64) (.pair (.pair (.int .i64) (.pair (.int .i64) (.int .i64))) .str)))) (.sl .str))) []),.da 1001 8 5002 (.row [] 165 (.pair .str (.pair (.sl (.sl (.pair (.int .i64) (.pair (.pair (.int .i64) (.pair (.int .i64) (.int .i64))) .str)))) (.sl .str))) []),.da 1001 9 5003 (.row [] 165 (.pair .str (.pair (.sl (.sl (.pair (.int .i64) (.pair (.pair (.int .i64) (.pair (.int .i64) (.int .i64))) .str)))) (.sl .str))) []),.da 1001 10 5004 (.bI [] 154 (.pair .str (.sl (.pair .str (.pair (.sl (.sl (.pair (.int .i64) (.pair (.pair (.int .i64) (.pair (.int .i64) (.int .i64))) .str)))) (.sl .str))))) true [] [.v .str [],.ow 5005 0 .all])],rd:=[44]})] 281 ⟨[cm,jc],OS⟩ Ig (id) (id) (λ_=>rfl) (λx=>Dj x.1 x.2.1 x.2.2.1 x.2.2.2.1 x.2.2.2.2.1 x.2.2.2.2.2.1 x.2.2.2.2.2.2.1 x.2.2.2.2.2.2.2.1 x.2.2.2.2.2.2.2.2.1 x.2.2.2.2.2.2.2.2.2.1 x.2.2.2.2.2.2.2.2.2.2.1 x.2.2.2.2.2.2.2.2.2.2.2.1 x.2.2.2.2.2.2.2.2.2.2.2.2.1 x.2.2.2.2.2.2.2.2.2.2.2.2.2.1 x.2.2.2.2.2.2.2.2.2.2.2.2.2.2.1 x.2.2.2.2.2.2.2.2.2.2.2.2.2.2.2.1 x.2.2.2.2.2.2.2.2.2.2.2.2.2.2.2.2.1 x.2.2.2.2.2.2.2.2.2.2.2.2.2.2.2.2.2.1)
def aj5:FS:=mkQ [Qy,We,Wu] [(29,{cut:=[(.normal,⟨[bR],[Vj]⟩),(.ret,⟨(bR::iA),[Vj]⟩)]}),(58,{loop:=some ⟨(dH::bR::(13,eV)::BW),[Vj]⟩})] 362 cJ [(false,⟨((3000002,.st uW)::iA),[]⟩)] (k1 Lg)
def alo:FS:=mkQ [aj5,Dw] [(125,{cut:=[(.normal,⟨[NR],[(31,.row 494 uW)]⟩),Og]}),(127,{pre:=[.ba 31]}),(250,{pre:=[.dz 5 31 (.row [] 494 uW [])],loop:=some ⟨(NR::(15,eu)::NU),[(31,.row 494 uW)]⟩})] 286 cJ [(false,⟨((2,.c (.v s6))::iA),[]⟩)] (k1 LO)
def ajp:FS:=mkQ [alo,Dw] [(125,{cut:=[(.normal,⟨[bR,eM],aef⟩),(.ret,⟨[bR,(3,nx)],[(2,.var 163 [.nil])]⟩)]}),(127,{pre:=[.ba 39]}),(250,{pre:=[.da 5 0 39 (.row [] 434 s6 [])],loop:=some ⟨[bR,eM,(21,eu),(22,aW),(23,aW)],aef⟩})] 181 cJ [(false,⟨((3000002,NV)::iA),[]⟩)] (k1 Ew)
def afY:FS:=mkHh [dB,kQ,ajp] oM 180 ⟨[cm,(1,.fn 181 [] [])],fc⟩ ((false,⟨[(3000004,NV)],fc⟩)::pW) (id) (id) (λ_=>rfl) (k1 Pv)
def PW:FS:=mkHh [dB,tj,afY,VZ,Pm,yh] [adF,(14,{cut:=[(.normal,⟨nq,aeK⟩),(.dK,⟨[],[lJ]⟩)]}),(28,{pre:=[.da 5 2 37 (.row [] 9 .str [])],loop:=some ⟨(cm::bW::nq),aeK⟩}),(31,{pre:=[.ba 37]}),(224,{ow:=[16],ps:=[(16,cF)]}),(452,Oc),(1812,{rd:=[23]}),(3626,{ow:=[25],ps:=[(25,cF)]}),(7258,{ow:=[32],ps:=[(32,cF)]})] 102 ⟨[cm,bW],fc⟩ ((false,⟨[(3000004,.st oL)],fc⟩)::pW) (id) (id) (λ_=>rfl) (k2 jF)
def ahB:FS:=mkHh [PW,dB] [(7,{ow:=[36],kf:=[(2,.q [1001]),(3,.q [1001]),(4,.q [1001]),(6,nw),(8,.u [5002] false),(9,.q [1001]),(10,.q [1001]),(11,GX)],ps:=[(36,bq)]}),(10,Od),(26,U9)] 282 Ve Ig (id) (id) (λ_=>rfl) (λx=>JS x.1 x.2.1 x.2.2.1 x.2.2.2.1 x.2.2.2.2.1 x.2.2.2.2.2.1 x.2.2.2.2.2.2.1 x.2.2.2.2.2.2.2.1 x.2.2.2.2.2.2.2.2.1 x.2.2.2.2.2.2.2.2.2.1 x.2.2.2.2.2.2.2.2.2.2.1 x.2.2.2.2.2.2.2.2.2.2.2.1 x.2.2.2.2.2.2.2.2.2.2.2.2.1 x.2.2.2.2.2.2.2.2.2.2.2.2.2.1 x.2.2.2.2.2.2.2.2.2.2.2.2.2.2.1 x.2.2.2.2.2.2.2.2.2.2.2.2.2.2.2.1 x.2.2.2.2.2.2.2.2.2.2.2.2.2.2.2.2.1 x.2.2.2.2.2.2.2.2.2.2.2.2.2.2.2.2.2.1)
def ahh:FS:=mkHh [PW,dB] [(15,{ow:=[38],kf:=[(2,.q [1001,5004]),(3,.q [1001,5004]),(5,nw),(7,.u [5003,5005] false),(8,.q [1001,5004]),(9,.u [1001,5004] false)],ps:=[(38,bq)]}),(58,{ow:=[32],ps:=[(32,bq)]})] 283 Ve Ig (id) (id) (λ_=>rfl) (λx=>JH x.1 x.2.1 x.2.2.1 x.2.2.2.1 x.2.2.2.2.1 x.2.2.2.2.2.1 x.2.2.2.2.2.2.1 x.2.2.2.2.2.2.2.1 x.2.2.2.2.2.2.2.2.1 x.2.2.2.2.2.2.2.2.2.1 x.2.2.2.2.2.2.2.2.2.2.1 x.2.2.2.2.2.2.2.2.2.2.2.1 x.2.2.2.2.2.2.2.2.2.2.2.2.1 x.2.2.2.2.2.2.2.2.2.2.2.2.2.1 x.2.2.2.2.2.2.2.2.2.2.2.2.2.2.1 x.2.2.2.2.2.2.2.2.2.2.2.2.2.2.2.1 x.2.2.2.2.2.2.2.2.2.2.2.2.2.2.2.2.1 x.2.2.2.2.2.2.2.2.2.2.2.2.2.2.2.2.2.1)
def Jr:FS:=mkG [] [lI,(26,{loop:=some ⟨(dy::(8,.c (.v (.sl u6)))::xr),[]⟩})] 126 ⟨[(0,.st jZ),dy],[]⟩ dA (k2 qb)
def agr:FS:=mkHh [dB,Pm,Jr] [(6,Va),(10,{ow:=[14],ps:=[(14,bq)]}),(15,{pre:=[.ba 5005],post:=[.da 5004 1 5005 (.row [] 165 (.pair .str (.pair (.sl (.sl (.pair (.int .i64) (.pair (.pair (.int .i64) (.pair (.int .i64) (.int .i64))) .str)))) (.sl .str))) [])],rd:=[32]}),(28,{rd:=[21]}),(58,{ow:=[24],ps:=[(24,bq)]})] 284 Ve Ig (id) (id) (λ_=>rfl) (λx=>Ja x.1 x.2.1 x.2.2.1 x.2.2.2.1 x.2.2.2.2.1 x.2.2.2.2.2.1 x.2.2.2.2.2.2.1 x.2.2.2.2.2.2.2.1 x.2.2.2.2.2.2.2.2.1 x.2.2.2.2.2.2.2.2.2.1 x.2.2.2.2.2.2.2.2.2.2.1 x.2.2.2.2.2.2.2.2.2.2.2.1 x.2.2.2.2.2.2.2.2.2.2.2.2.1 x.2.2.2.2.2.2.2.2.2.2.2.2.2.1 x.2.2.2.2.2.2.2.2.2.2.2.2.2.2.1 x.2.2.2.2.2.2.2.2.2.2.2.2.2.2.2.1 x.2.2.2.2.2.2.2.2.2.2.2.2.2.2.2.2.1 x.2.2.2.2.2.2.2.2.2.2.2.2.2.2.2.2.2.1)
def ahi:FS:=mkHh [ahB,agZ,agr,ahh,dB,kQ,Pm] [(2,{ow:=[7],ps:=[(7,bq)]}),(100,Od),(250,{cn:=[(3,N9)],ps:=[(70,Ow)]}),(412,{cn:=[(2,N9)],ps:=[(38,Ow)]}),(830,{ow:=[48],ps:=[(48,bq)]}),(1006,{cn:=[(3,N9)],ps:=[(76,Ow)]}),(4030,{cn:=[(3,N9)],ps:=[(82,Ow)]}),(4031,{ow:=[64],ps:=[(64,bq)]})] 175 ⟨[cm,jc],OS⟩ Ig (id) (id) (λ_=>rfl) (λx=>JI x.1 x.2.1 x.2.2.1 x.2.2.2.1 x.2.2.2.2.1 x.2.2.2.2.2.1 x.2.2.2.2.2.2.1 x.2.2.2.2.2.2.2.1 x.2.2.2.2.2.2.2.2.1 x.2.2.2.2.2.2.2.2.2.1 x.2.2.2.2.2.2.2.2.2.2.1 x.2.2.2.2.2.2.2.2.2.2.2.1 x.2.2.2.2.2.2.2.2.2.2.2.2.1 x.2.2.2.2.2.2.2.2.2.2.2.2.2.1 x.2.2.2.2.2.2.2.2.2.2.2.2.2.2.1 x.2.2.2.2.2.2.2.2.2.2.2.2.2.2.2.1 x.2.2.2.2.2.2.2.2.2.2.2.2.2.2.2.2.1 x.2.2.2.2.2.2.2.2.2.2.2.2.2.2.2.2.2.1)
def af0:FS:=mkEach [ahi,dB,tj] ((61,{cut:=[(.normal,⟨[rn],aeX⟩),(.dK,⟨[rn],((1100,.var 320 BG)::(1101,Vs)::sS::ad9)⟩)]})::(122,{loop:=some ⟨(U2::US),aeX⟩})::(31334,{cn:=[(2,[5102,5103,5104,5105])],ps:=[(23,[(1000,1100),(1001,1101),(1020,20),(5002,5102),(5003,5103),(5004,5104),(5005,5105)])]})::Vq) ⟨[(0,jV),U2],Vu⟩ ⟨[(0,jV),U2,rn],(sS::Vu)⟩ ⟨BU,Vu⟩ ⟨BU,((1100,.var 320 BG)::(1101,Vs)::ad9)⟩ (id) (id) (λ_=>rfl) (λx=>Px x.1 x.2.1 x.2.2.1 x.2.2.2.1 x.2.2.2.2.1 x.2.2.2.2.2.1 x.2.2.2.2.2.2.1 x.2.2.2.2.2.2.2.1 x.2.2.2.2.2.2.2.2.1 x.2.2.2.2.2.2.2.2.2.1 x.2.2.2.2.2.2.2.2.2.2.1 x.2.2.2.2.2.2.2.2.2.2.2.1 x.2.2.2.2.2.2.2.2.2.2.2.2.1 x.2.2.2.2.2.2.2.2.2.2.2.2.2.1 x.2.2.2.2.2.2.2.2.2.2.2.2.2.2.1 x.2.2.2.2.2.2.2.2.2.2.2.2.2.2.2.1 x.2.2.2.2.2.2.2.2.2.2.2.2.2.2.2.2.1 x.2.2.2.2.2.2.2.2.2.2.2.2.2.2.2.2.2.1) (by kernel_rfl) (λx=>by kernel_rfl)
def ajd:FS:=mkQ [af0,Qm] [(116,u9),(124,{pre:=[.oG 702 (.row [] 165 (.pair .str (.pair (.sl (.sl (.pair (.int .i64) (.pair (.pair (.int .i64) (.pair (.int .i64) (.int .i64))) .str)))) (.sl .str))) []),.oG 703 (.row [] 165 (.pair .str (.pair (.sl (.sl (.pair (.int .i64) (.pair (.pair (.int .i64) (.pair (.int .i64) (.int .i64))) .str)))) (.sl .str))) []),.oG 705 (.row [] 165 (.pair .str (.pair (.sl (.sl (.pair (.int .i64) (.pair (.pair (.int .i64) (.pair (.int .i64) (.int .i64))) .str)))) (.sl .str))) []),.oG 704 (.bI [] 154 (.pair .str (.sl (.pair .str (.pair (.sl (.sl (.pair (.int .i64) (.pair (.pair (.int .i64) (.pair (.int .i64) (.int .i64))) .str)))) (.sl .str))))) true [] [.v .str [],.ow 705 0 .all]),.da 6 1 701 (.bI [] 150 (.pair .str (.pair (.pair (.pair (.int .i64) (.pair (.int .i64) (.int .i64))) .str) (.pair (.int .u64) (.pair (.int .u32) (.pair .bool (.pair (.sl (.pair .str (.pair (.sl (.sl (.pair (.int .i64) (.pair (.pair (.int .i64) (.pair (.int .i64) (.int .i64))) .str)))) (.sl .str)))) (.pair (.sl (.pair .str (.pair (.sl (.sl (.pair (.int .i64) (.pair (.pair (.int .i64) (.pair (.int .i64) (.int .i64))) .str)))) (.sl .str)))) (.sl (.pair .str (.sl (.pair .str (.pair (.sl (.sl (.pair (.int .i64) (.pair (.pair (.int .i64) (.pair (.int .i64) (.int .i64))) .str)))) (.sl .str))))))))))))) true [] [.v .str [],.v (.int .i64) 0,.v (.int .i64) 0,.v (.int .i64) 0,.v .str [],.v (.int .u64) 0,.v (.int .u32) 0,.v .bool false,.ow 702 0 .all,.ow 703 0 .all,.ow 704 0 .all])],cn:=[(2,[702,703,704,705])],ps:=[(19,[(1100,6),(1101,701),(5102,702),(5103,703),(5104,704),(5105,705)])]}),aei,(1004,u9)] 90 cJ [(false,⟨((3000002,.st Hf)::uV),[]⟩)] (k1 rM)
def ahg:FS:=mkQ [ajd,aix,agn,alE] [(2045,{cut:=[(.normal,⟨[bR,ni,fI],aeY⟩)]}),(2047,{pre:=[.ba 73]}),(4090,{pre:=[.da 6 6 73 (.row [] 225 Hf [])],loop:=some ⟨[ru,bR,ni,fI,nk],((1,.var 24 [bj,bj,oN])::aeY)⟩})] 37 ⟨[(0,.st kN)],[]⟩ [(false,⟨((3000002,.st (.pair Cs (.pair (.int .u32) (.pair (.sl Hf) (.pair OR (.pair .str (.sl u4)))))))::iA),[]⟩)] (k1 Dt)
def akm:FS:=mkQ [P3,kS,vI,kR,P1,Dy,QU] [(125,{cut:=[(.normal,⟨[cK,(4,jV),(6,BR)],[(3,nv),(59,jC)]⟩),(.ret,⟨[(2,xt),cK],[(3,nv)]⟩)]}),(250,{pre:=[.dz 6 59 (.row [] 191 kN [])],loop:=some ⟨(cK::(4,jV)::(6,BR)::iz),[(3,nv),(59,jC)]⟩}),(255,{pre:=[.ba 59]}),(16018,{ow:=[32],ps:=[(32,uN)]}),(128154,{ow:=[48],ps:=[(48,uN)]}),(128158,{ow:=[61],ps:=[(61,uN)]}),(256318,{ow:=[63],ps:=[(63,uN)]}),(512628,{ow:=[54],ps:=[(54,uN)]}),(512629,{ow:=[57],ps:=[(57,uN)]})] 38 cJ [(false,⟨((2,.c iD)::uV),[]⟩)] (k1 zR)
def agJ:FS:=mkHh [PW,dB,kQ] [(4,{ow:=[6],ps:=[(6,cF)]}),(7,{ow:=[30],kf:=[(0,.q [1040]),(1,.q [1040]),(3,.u [1000] true),(5,.u [1041] false),(6,.q [1040]),(7,.u [1040] false)],ps:=[(30,cF)]}),(26,{ow:=[26],ps:=[(26,cF)]}),(94,{ow:=[20],ps:=[(20,cF)]})] 99 ⟨(cm::xE),adK⟩ [(false,⟨[],adK⟩),(true,⟨[],[lJ,(1020,Hy),(1040,.var 123 [.dead]),(1041,jw)]⟩)] (id) (id) (λ_=>rfl) (k3 Jp)
def afT:FS:=mkEach [dB,tj,agJ] ((61,{cut:=[(.normal,⟨[rn],[oC,Hg,xq,sS]⟩),(.dK,⟨[rn],[oC,(1200,.var 123 [.dead]),xq,sS]⟩)]})::(122,{loop:=some ⟨((1,.fn 99 [] B5)::US),[oC,Hg,xq,sS]⟩})::(31334,{ow:=[23],ps:=[(23,[(1000,20),(1020,1100),(1040,1200),(1041,1201)])]})::Vq) ⟨[(0,jV),(1,.fn 99 [] B5)],[oC,Hg,xq]⟩ ⟨[(0,jV),(1,.fn 99 [] B5),rn],[sS,oC,Hg,xq]⟩ ⟨BU,[oC,Hg,xq]⟩ ⟨BU,[oC,(1200,.var 123 [.dead]),xq]⟩ (id) (id) (λ_=>rfl) (λx=>Pq x.1 x.2.1 x.2.2.1) (by kernel_rfl) (λx=>by kernel_rfl)
def ahN:FS:=mkQ [afT,Qm] [(116,u9),(126,{pre:=[.da 6 0 606 (.row [] 165 oL [])],ow:=[20],ps:=[(20,[(1100,7),(1200,6),(1201,606)])]}),(1023,{pre:=[.ba 606]}),(4084,u9)] 39 cJ [(false,⟨((3000002,.st pS)::uV),[]⟩)] (k1 yS)
def agY:FS:=mkG [] [] 103 ⟨[(0,jt),(1,jt)],[]⟩ di (k2 Di)
def ai2:FS:=mkG [QF,PG] [] 412 cJ rm (k1 KK)
def agN:FS:=mkG [VY] [] 433 kH di (k2 PN)
def ajJ:FS:=mkG [D3,QF,PG,agN] [] 413 kH di (k2 K6)
def aiy:FS:=mkG [ajJ,ai2] [(29,{cut:=[(.normal,⟨eB,[]⟩)]}),(58,{loop:=some ⟨[dH,(5,aW),jU,(10,eu),sK,sL],[]⟩})] 364 ⟨[dH,(1,eu)],[]⟩ dA (k2 D2)
def WI:FS:=mkG [aiy] [(29,{cut:=[(.normal,⟨[dy,(5,.c (.own 19))],[(19,dJ)]⟩)]}),(30,{rd:=[23]}),(58,{pre:=[.dz 5 19 (.row [] 9 .str [])],loop:=some ⟨(dy::(5,.c (.own 19))::(9,.c BS)::sT),[(19,dJ)]⟩})] 288 B3 dA (k2 D8)
def ale:FS:=mkG [akY,yh] [(52,{ow:=[13],ps:=[(13,[(1,13)])]}),(53,{pre:=[.ba 13]}),(61,{cut:=[(.normal,⟨[(5,.c (.own 34))],[(34,dJ)]⟩)]}),(63,{pre:=[.ba 34]}),(122,{pre:=[.dz 5 34 (.row [] 9 .str [])],loop:=some ⟨(cK::(5,.c (.own 34))::(15,G0)::NU),[(3,.var 405 [bj,cI,oN]),(34,dJ)]⟩})] 289 ⟨[uR,(1,.st xV)],[]⟩ Hl (k2 LM)
def Wv:FS:=mkG [D3,WI,ale] [(125,{cut:=[(.normal,⟨[(6,.c (.own 37))],[(37,dJ)]⟩)]}),(127,{pre:=[.ba 37]}),(250,{pre:=[.dz 6 37 (.row [] 9 .str [])],loop:=some ⟨[(6,.c (.own 37)),(25,G0),(26,aW),(27,aW)],[(37,dJ)]⟩})] 183 B3 Hl (k2 yU)
def aih:FS:=mkG [yh,Wv] [] 104 ⟨(uR::dy::js),[]⟩ B8 (k3 DT)
def agW:FS:=mkQ [VW] [] 184 B3 [(false,⟨[(3000004,nj),ni],[]⟩)] (k2 PR)
def agI:FS:=mkG [VU,V1] [] 185 ⟨[uR,dy,(2,jW)],[]⟩ B8 (k3 yx)
def ak9:FS:=mkG [agI,agW] [] 105 ⟨[uR,(1,.st jZ)],[]⟩ dA (k2 Ft)
def ahX:FS:=mkG [I8,V5,ah2] [] 110 ⟨(uR::dy::js),[]⟩ pT (k3 J5)
def Wy:FS:=mkG [I8,ahX,PM] [] 107 ⟨[(0,.st uS),(1,.st uS),(2,.c (.v (.ptr Cs)))],[]⟩ [(false,⟨eB,[]⟩)] (k3 qh)
def afh:FS:=mkG [Wy] [(3,Hd),(6,{loop:=some adB}),(201,{cut:=[(.normal,adB)]}),(402,{loop:=some ⟨(cE::bW::dp::(3,lD)::u7),gQ⟩})] 292 ⟨[cE,bW,dp,(3,lD)],gQ⟩ BY (k4 afo)
def aft:FS:=mkG [] [(3,Hd),(6,{loop:=some ⟨[cE,bW,dp,mh,lA],gQ⟩})] 414 Vh BY λx=>afB x.1 x.2.1 x.2.2.1 x.2.2.2.1 x.2.2.2.2.1
def afF:FS:=mkG [aft] ((14,{cut:=[(.normal,⟨[cE,dp,(4,lD),lA],gQ⟩)]})::(15,{ow:=[57],ps:=[(57,cF)]})::(28,{loop:=some ⟨(cE::dp::(4,lD)::sT),gQ⟩})::aep) 370 Vh BY λx=>afJ x.1 x.2.1 x.2.2.1 x.2.2.2.1 x.2.2.2.2.1
def afx:FS:=mkRec [afF,Wy] ((86,{cut:=[(.normal,⟨[cE,bW,lA],gQ⟩)]})::(172,{loop:=some ⟨(cE::bW::(4,lD)::sT),gQ⟩})::(214,{cut:=[(.normal,⟨[cE,dp,mn],gQ⟩)]})::(349,Hd)::(428,{loop:=some ⟨(cE::dp::(4,lD)::BW),gQ⟩})::(510,{cut:=[(.normal,⟨[cE,bW,dp,mh,(4,lD),sM,rh,(20,aW)],gQ⟩)]})::(698,{loop:=some ⟨[cE,lA,pR],gQ⟩})::(861,Hd)::(1020,{loop:=some ⟨[cE,bW,dp,mh,(4,lD),sM,rh,(20,aW),(21,aW),(22,aW)],gQ⟩})::(1722,{loop:=some ⟨[cE,mn,(17,aW)],gQ⟩})::aeG) 293 Vh BY (λo=>o.1) (λr=>(r,())) (λ_=>rfl) afy (by kernel_rfl) (λrc ok x=>by kernel_rfl)
def afE:FS:=mkG [afh,afx] ((14,ad1)::(28,aeh)::(30,Vc)::(31,Hd)::(56,BV)::(62,{un:=[.s 0],loop:=some ⟨(cE::bW::(2,lD)::mg),gQ⟩})::(124,BV)::(452,{ow:=[18],ps:=[(18,cF)]})::(1994,ad1)::(3988,aeh)::aeu) 186 ⟨[cE,bW,(2,lD)],gQ⟩ BY (k3 afI)
def afC:FS:=mkG [afE] [(1,UZ)] 106 ⟨[cE,(1,lD)],gQ⟩ BY (k2 CI)
def aiK:FS:=mkG [WI] [] 192 B3 di (k2 D7)
def ahF:FS:=mkG [IT] [] 194 ⟨[(0,.st uS),(1,.c (.v (.ptr (.sl uS)))),(2,.c N0),(3,.c NW),(4,.c N0)],[]⟩ B8 λx=>JT x.1 x.2.1 x.2.2.1 x.2.2.2.1 x.2.2.2.2.1
def afK:FS:=mkG [ahF] [lI,(26,{loop:=some ⟨((0,Cb)::Vm::gR),[]⟩})] 298 ⟨[(0,Cb),Vm],[]⟩ dA λx=>Ph x.1 x.2.1 x.2.2.1 x.2.2.2.1 x.2.2.2.2.1
def afD:FS:=mkG [afK] [] 193 ⟨[(0,Cb),Vm],[]⟩ di λx=>Iu x.1 x.2.1 x.2.2.1 x.2.2.2.1 x.2.2.2.2.1
def ajm:FS:=mkG [afD,IT,aiK,Wv] [(7,{cut:=[(.normal,⟨[],[(1020,vp)]⟩)]}),(14,{loop:=some ⟨(bR::cK::u7),[(2,Oq),(3,.var 127 [.own 1020]),(1020,vp)]⟩}),(14750,{rd:=[49]})] 111 ⟨[uR,jv],[(1020,vp)]⟩ [(false,⟨[],[(1020,vp)]⟩)] (k2 Er)
def ala:FS:=mkG [afC,ajm,agY,aih,ak9] [(29,{cut:=[(.normal,⟨[cK,(7,GN)],[(3,Oq),(47,vp)]⟩)]}),(30,{pre:=[.vk 3 Cs],ow:=[52],ps:=[(52,[(1000,47)])]}),(58,{pre:=[.dz 7 47 (.row [] 240 uS [])],loop:=some aeH}),(62,{un:=[.s 7],ow:=[55],ps:=[(55,[(1020,47)])]}),(127,{un:=[.s 6],pre:=[.ba 47]}),(7475,{cut:=[(.normal,aeH)]}),(14950,{loop:=some ⟨[(1,jt),cK,(7,GN),N5,(12,UW),pR,mn,(19,.c (.v (.sl jZ))),(20,aW),(21,aW)],[(3,Oq),(9,.var 225 [bj,.v (.sl jZ)]),(47,vp)]⟩})] 41 ⟨[uR,(1,jt),(2,UW)],[]⟩ [(false,⟨[(6,Cb)],[]⟩)] (k3 LJ)
def alb:FS:=mkG [] [(29,{cut:=[(.normal,⟨[(3,.c (.own 19))],[(19,.row 152 p7)]⟩)]}),(31,{pre:=[.ba 19]}),(58,{pre:=[.dz 3 19 (.row [] 152 p7 [])],loop:=some ⟨((3,.c (.own 19))::(6,Cb)::gR),[(19,.row 152 p7)]⟩})] 40 ⟨[(0,Cb)],[]⟩ [(false,⟨[(2,re)],[]⟩)] (k1 LK)
def ajB:FS:=mkG [] [(29,{cut:=[(.normal,⟨[(3,jt)],[]⟩)]}),(58,{loop:=some ⟨(kF::(3,jt)::fe),[]⟩})] 197 NX [(false,⟨[(2,jt)],[]⟩)] (k1 EE)
def aks:FS:=mkG [] [(13,Hr),(26,{loop:=some ⟨((0,jt)::(1,jt)::eB),[]⟩})] 196 ⟨[(0,jt),(1,jt)],[]⟩ di (k2 Lr)
def aki:FS:=mkG [W2,ajB,aks] [] 112 kH di (k2 Lm)
def agC:FS:=mkG [] [(29,{cut:=[(.normal,⟨[NQ],[(20,dJ)]⟩)]}),(31,{pre:=[.ba 20]}),(58,{pre:=[.dz 3 20 (.row [] 9 .str [])],loop:=some ⟨(ru::NQ::fe),[(1,rG),(20,dJ)]⟩})] 303 ⟨[rj],[]⟩ [(false,⟨uO,[]⟩)] (k1 PJ)
def akt:FS:=mkG [KC,QQ,QP] [] 380 kH di (k2 Ls)
def ajC:FS:=mkG [QQ,QP] [] 381 cJ rm (k1 EF)
def aiS:FS:=mkG [akt,ajC] [(29,{cut:=[(.normal,⟨eB,[]⟩)]}),(58,{loop:=some ⟨(dH::(1,eu)::BF),[]⟩})] 302 ⟨[dH,(1,eu)],[]⟩ dA (k2 Ee)
def Xm:FS:=mkG [aiS,agC] [] 199 ⟨[rj,dy],[]⟩ dA (k2 E9)
def aoI:FS:=mkG [qy] [(53,{pre:=[.ba 15]}),(61,{cut:=[(.normal,⟨[(5,.c (.own 51))],[(51,dJ)]⟩)]}),(63,{pre:=[.ba 51]}),(122,{pre:=[.dz 5 51 (.row [] 9 .str [])],loop:=some ⟨(bR::cK::(5,.c (.own 51))::mg),[(2,rG),(3,.var 347 [bj,bj,oN]),(51,dJ)]⟩})] 200 ⟨[rj,(1,.st kN)],[]⟩ Hl (k2 MD)
def aiP:FS:=mkG [KC,aoI,Xm] [(125,{cut:=[(.normal,⟨[(6,.c (.own 45))],[(45,dJ)]⟩)]}),(127,{pre:=[.ba 45]}),(250,{pre:=[.dz 6 45 (.row [] 9 .str [])],loop:=some ⟨(bR::(6,.c (.own 45))::iz),[(2,rG),(45,dJ)]⟩})] 113 ⟨[rj,dy],[]⟩ Hl (k2 Eb)
def ane:FS:=mkG [qy] [(13,{cut:=[vd,(.ret,⟨[(6,gX)],[]⟩)]}),(26,{loop:=some ⟨((0,.c GK)::dy::(2,dT)::iz),[]⟩})] 201 ⟨((0,.c GK)::dy::js),[]⟩ B8 (k3 Av)
def ana:FS:=mkG [ane,XV] [] 114 ⟨[rj,(1,.st xU)],[]⟩ dA (k2 FU)
def QR:FS:=mkG [] [] 304 ⟨[nr,bW],[]⟩ dA (k2 rS)
def KD:FS:=mkG [QR] [(13,{cut:=((.normal,kH)::Hk)}),(26,{loop:=some ⟨(dH::dy::eB),[]⟩})] 202 kH dA (k2 qo)
def akv:FS:=mkG [W6,KD,W4,QR] [] 305 kH dA (k2 Lv)
def WO:FS:=mkG [QR,akv] [(29,ad5),(58,{loop:=some ⟨(bR::cK::(5,eV)::(6,eV)::iz),[(2,pX),(3,pX)]⟩}),(125,ad5),(250,{loop:=some ⟨(bR::cK::nn),[(2,pX),(3,pX)]⟩})] 203 ⟨[(0,.st vv),(1,.st vv)],[]⟩ dA (k2 tA)
def anh:FS:=mkG [X0] [] 382 ⟨[(0,jW)],[]⟩ [(false,⟨[(2,jW)],[]⟩)] (k1 FW)
def aiU:FS:=mkG [anh] [] 308 ⟨[(0,jW),(1,jW)],[]⟩ dA (k2 KF)
def aiQ:FS:=mkG [QT,aiU,KD,Wm] [] 204 ⟨(rj::dy::js),[]⟩ pT (k3 Ec)
def akl:FS:=mkG [KD,WO,Eh,aiQ] [] 115 ⟨[rj,(1,.st Hq),(2,.st Hq)],[]⟩ B8 (k3 E8)
def akh:FS:=mkG [] [lI,adQ] 205 N7 dA (k2 E6)
def akk:FS:=mkG [Xm,akh] [(29,{cut:=[(.normal,⟨[sX],[(12,GS)]⟩)]}),(31,{pre:=[.ba 12]}),(58,{loop:=some adS}),(14927,{cut:=[(.normal,adS)]}),(29854,{loop:=some ⟨[(1,pV),bR,sX,jU,(8,eu),nk],[(2,rG),(12,GS)]⟩})] 116 ⟨[rj,(1,pV)],[]⟩ [(false,⟨[(4,pV)],[]⟩)] (k2 E7)
def anb:FS:=mkG [qy,aiP,akl,akk,aki,ana] [(29,{cut:=[(.normal,⟨[cK,(7,pV)],[(3,rG)]⟩)]}),(58,{loop:=some adW}),(1865,{cut:=[(.normal,adW)]}),(3730,{loop:=some ⟨(dy::N'::cK::(7,pV)::u7),[(3,rG)]⟩}),(7460,{post:=[.ba 85]}),(1909918,{cut:=[(.normal,aeQ)]}),(3819836,{loop:=some aeQ})] 43 ⟨[rj,dy,N'],[]⟩ [(false,⟨[(6,pV)],[]⟩)] (k3 Md)
def anc:FS:=mkG [] [(29,{cut:=[(.normal,⟨[(3,GQ)],[(23,GS)]⟩)]}),(31,{pre:=[.ba 23]}),(58,{pre:=[.dz 3 23 (.row [] 136 Hq [])],loop:=some ⟨(gy::(3,GQ)::fe),[(23,GS)]⟩})] 42 ⟨[gy],[]⟩ [(false,⟨[(2,pV)],[]⟩)] (k1 Me)
def PS:FS:=mkQ [ahg,ahN,akm,anc,anb,alb,ala] [(1022,{kf:=[(0,.q [10]),(1,.q [10]),(2,.q [10]),(3,bh),(4,.q [10]),(5,.q [10]),(6,bh),(8,rl)]})] 10 ⟨[B4],[]⟩ [(false,⟨(Vr::iA),[]⟩)] (k1 vJ)
def ahR:FS:=mkG [] (adR::aeU) 45 ⟨[(0,jx)],[]⟩ [(false,⟨[(2,.c (.own 27))],[(27,sU)]⟩)] (k1 DI)
def aiF:FS:=mkG [] (adR::(31,{pre:=[.ba 27]})::aeU) 45 ⟨[(0,jx)],[]⟩ [(false,⟨[(2,uY)],[]⟩)] (k1 tz)
def agq:FS:=mkG [] [(29,{cut:=[(.normal,⟨[rf],xv⟩),(.ret,⟨[(2,Hm)],xv⟩)]}),(58,{loop:=some ⟨[rf,mh],xv⟩}),(29845,{cut:=[(.normal,⟨[rf,mh],xv⟩)]}),(59690,{loop:=some ⟨(rf::mh::(4,.c (.nC 5000))::eB),xv⟩}),(59694,{cn:=[(2,[5000])]})] 48 ⟨[rf],xv⟩ [(false,⟨[(2,Hm)],xv⟩)] (k1 CY)
def yz:FS:=mkG [] [] 16 ⟨[gP],[]⟩ rm (k1 oR)
def Wb:FS:=mkG [] [(29,{cut:=[(.normal,⟨[(5,.c (.own 29))],[(29,ju)]⟩)]}),(31,{pre:=[.ba 29]}),(58,{pre:=[.dz 5 29 (.row [] 59 vu [])],loop:=some aed}),(14951,{cut:=[(.normal,aed)]}),(29902,{loop:=some ⟨[bW,(5,.c (.own 29)),jU,(17,jx),sM,rh,(32,aW),(33,aW)],[(29,ju)]⟩})] 52 N8 [U3] (k2 yy)
def Xf:FS:=mkG [] [(29,{cut:=[(.normal,⟨[(5,GQ)],[(23,dI)]⟩)]}),(58,{pre:=[.dz 5 23 (.row [] 3 eF [])],loop:=some ⟨(dy::(5,GQ)::(8,re)::xr),[(23,dI)]⟩})] 124 ⟨[(0,re),dy],[]⟩ [(false,⟨[(4,GQ)],[(23,dI)]⟩)] (k2 EU)
def ahJ:FS:=mkG [Pz] [] 384 ⟨[(0,.st uW)],[]⟩ gD (k1 JY)
def ag8:FS:=mkG [ahJ,ag7] [(29,{cut:=((.normal,⟨[ru],[(1,.var 163 [sR])]⟩)::Hw)}),(58,{loop:=some aea}),(14951,{cut:=((.normal,aea)::Hw)}),(29902,{loop:=some ⟨[ru,(18,.c sR),rh,(20,aW),(32,.c (.v s6)),(33,aW),(34,aW)],[(1,.var 163 [sR])]⟩})] 315 ⟨[(0,NV)],[]⟩ gD (k1 JB)
def ahY:FS:=mkG [age] [] 425 ⟨[(0,.st uW)],[]⟩ [(false,⟨[(3000002,nj)],[]⟩)] (k1 J8)
def aht:FS:=mkG [ahY,PM] [] 386 ⟨[(0,.st uW),(1,nj)],[]⟩ di (k2 JK)
def aif:FS:=mkG [] [] 387 ⟨[(0,nj),(1,nj)],[]⟩ di (k2 WW)
def aln:FS:=mkG [aht,aif] [(29,{cut:=[(.normal,⟨[ni],[]⟩),(.ret,⟨[(4,nx)],[]⟩)]}),(58,{loop:=some ⟨[cK,ni,(11,.c (.v s6)),sL,pR],[(3,ny)]⟩})] 317 ⟨[(0,.c (.v s6)),(1,nj)],[]⟩ di (k2 LN)
def ahI:FS:=mkG [ag8,aln,Pz] [(29,Ho),(58,{loop:=some ⟨[cK,(16,.c sR),(17,aW),sM],[(3,ny)]⟩})] 219 ⟨[(0,NV),(1,nj)],[]⟩ di (k2 JX)
def WG:FS:=mkG [ahI] [] 218 ⟨[nr,(1,.c (.v (.ptr oL))),(2,.c (.v (.ptr (.sl p7))))],[]⟩ di (k3 ze)
def afP:FS:=mkG [WG] [lI,(26,{loop:=some ⟨(kF::Ol::gR),[]⟩})] 138 ⟨[kF,Ol],[]⟩ dA (k3 Pj)
def afO:FS:=mkG [afP,WG] [(6,{rd:=[10]}),adO,(122,{loop:=some ⟨(rf::Ol::BF),xy⟩}),(126,{cn:=[(2,[5000])]})] 64 ⟨[rf,Ol],xy⟩ [(false,⟨[(4,Hm)],xy⟩)] (k3 IC)
def Qu:FS:=mkG [afO,Xf] [(6,{pre:=[.vk 3 oL,.vk 2 (.sl p7)],ow:=[8],cn:=[(5,[8])],ps:=[(8,[(23,8)]),(10,[(5000,8)])]})] 125 ⟨[(0,re),(1,.st oL)],[]⟩ [(false,⟨[(4,.c (.own 8))],[(8,dI)]⟩)] (k2 zJ)
def Wj:FS:=mkG [Qu,Xf] [(28,{ow:=[25],kf:=[(2,bh),(3,bh),(6,bh),(7,bh),ri,(10,bh),(11,bh),(12,bh),(13,.u [25] false),(14,.q [25])],ps:=[(25,[(23,25)])]}),(29,{cut:=[(.normal,⟨[gP,bW,G1],[(39,ju)]⟩)]}),(58,{pre:=[.dz 5 39 (.row [] 59 vu [])],loop:=some ⟨[gP,bW,G1,(25,.c (.own 25)),(26,aW),(27,aW)],[(25,dI),(39,ju)]⟩}),(61,{cut:=[(.normal,⟨[G1],[(39,ju)]⟩)]}),(63,{pre:=[.ba 39]}),(122,{loop:=some aek}),(15666,{ow:=[61],kf:=[(2,bh),(3,bh),(4,.q [9]),(5,.u [61] false),(6,.q [61])],ps:=[(61,[(8,61)])]}),(15667,{cut:=[(.normal,aek)]}),(31334,{loop:=some ⟨[gP,bW,G1,(8,aW),(49,jx),(50,aW),(51,aW),(61,GR),(62,aW),(63,aW)],[(39,ju),(61,dI)]⟩})] 53 N8 [U3] (k2 yF)
def V7:FS:=mkG [Jr] [(29,{cut:=[(.normal,⟨[NS],[(52,ju)]⟩)]}),(31,{pre:=[.ba 52]}),(58,{pre:=[.dz 5 52 (.row [] 59 vu [])],loop:=some aee}),(59807,{cut:=[(.normal,aee)]}),(119614,{loop:=some aeL}),(30621287,{cut:=[(.normal,aeL)]}),(61242574,{loop:=some ⟨[gP,bW,NS,jU,nk,(15,uY),(16,aW),(17,aW),(65,jx),(66,aW),(67,aW),(81,aW),(82,aW)],[(52,ju)]⟩})] 54 N8 [U3] (k2 yp)
def ajY:FS:=mkG [] [(29,{cut:=[(.normal,⟨[mh],[]⟩),(.ret,⟨[dp],[]⟩)]}),(58,{loop:=some ⟨(mh::(6,eV)::gR),[]⟩})] 128 NX rm (k1 Lb)
def Wq:FS:=mkG [Jz,ajY] [] 56 ⟨((0,xw)::BL),[]⟩ dA (k2 qg)
def afc:FS:=mkG [Wq] [(3,Hb),(6,{loop:=some ady}),(201,{cut:=[(.normal,ady)]}),(402,{loop:=some ⟨(cE::bW::dp::(3,lz)::u7),gY⟩})] 220 ⟨[cE,bW,dp,(3,lz)],gY⟩ BX (k3 CB)
def afm:FS:=mkG [] [(3,Hb),(6,{loop:=some ⟨[cE,bW,dp,mh,lA],gY⟩})] 388 Vf BX (k4 CE)
def afA:FS:=mkG [afm] ((14,{cut:=[(.normal,⟨[cE,dp,(4,lz),lA],gY⟩)]})::(15,{ow:=[57],ps:=[(57,cF)]})::(28,{loop:=some ⟨(cE::dp::(4,lz)::sT),gY⟩})::aep) 318 Vf BX (k4 It)
def afr:FS:=mkRec [afA,Wq] ((86,{cut:=[(.normal,⟨[cE,bW,lA],gY⟩)]})::(172,{loop:=some ⟨(cE::bW::(4,lz)::sT),gY⟩})::(214,{cut:=[(.normal,⟨[cE,dp,mn],gY⟩)]})::(349,Hb)::(428,{loop:=some ⟨(cE::dp::(4,lz)::BW),gY⟩})::(510,{cut:=[(.normal,⟨[cE,bW,dp,mh,(4,lz),sM,rh,(20,aW)],gY⟩)]})::(698,{loop:=some ⟨[cE,lA,pR],gY⟩})::(861,Hb)::(1020,{loop:=some ⟨[cE,bW,dp,mh,(4,lz),sM,rh,(20,aW),(21,aW),(22,aW)],gY⟩})::(1722,{loop:=some ⟨[cE,mn,(17,aW)],gY⟩})::aeG) 221 Vf BX (λo=>o.1) (λr=>(r,())) (λ_=>rfl) Io (by kernel_rfl) (λrc ok x=>by kernel_rfl)
def afz:FS:=mkG [afc,afr] ((14,adZ)::(28,aeg)::(30,Vc)::(31,Hb)::(56,BV)::(62,{un:=[.s 0],loop:=some ⟨(cE::bW::(2,lz)::mg),gY⟩})::(124,BV)::(452,{ow:=[18],ps:=[(18,cF)]})::(1994,adZ)::(3988,aeg)::aeu) 127 ⟨[cE,bW,(2,lz)],gY⟩ BX (k2 Is)
def afu:FS:=mkG [afz] [(1,UZ)] 55 ⟨[cE,(1,lz)],gY⟩ BX (k1 ya)
def Je:FS:=mkG [afu,V7,Wj,Wb] [(61,{cut:=[(.normal,⟨[gP,G2],[(24,ju)]⟩)]}),(122,{pre:=[.dz 3 24 (.row [] 59 vu [])],loop:=some adV}),(125,{cut:=[(.normal,⟨[G2],[(24,ju)]⟩)]}),(126,{ow:=[64],ps:=[(64,[(1000,24)])]}),(250,{loop:=some ⟨[gP,G2,(43,aW),(44,aW)],[(24,ju)]⟩}),(255,{un:=[.s 2],pre:=[.ba 24]}),(31335,{cut:=[(.normal,adV)]}),(62670,{loop:=some ⟨[gP,G2,(4,aW),(13,jx),mn,(15,aW),(27,aW),(28,aW)],[(24,ju)]⟩})] 17 ⟨[gP],[]⟩ [(false,⟨[(2,oE)],[]⟩)] (k1 nK)
def Qq:FS:=mkHh [ahR,agq,aj6,Je,yz,aiF] [(6,{ow:=[14],ps:=[(14,[(27,14)])]}),(29,{cut:=[(.normal,⟨[(6,.c (.ptr 16 0))],Vo⟩)]}),(30,{ow:=[60],ps:=[(60,[(1000,14)])]}),(58,{loop:=some ad2}),(62,{un:=[.v 16 2],gx:=[(5,[.VD 16 [Cg,.v pS,.dead]])],cn:=[(5,[14])],ps:=[(66,[(5000,14)])]}),(252,{pre:=[.ba 14,.vk 16 (.pair (.sl p7) (.pair pS sO))],rd:=[70]}),(7474,{kf:=[(3,.q [16]),(4,.q [16]),(5,.q [8]),(6,.q [8]),(7,.q [8]),(9,.u [14] false),(11,.q [16]),(12,.u [16] false)]}),(14951,{cut:=[(.normal,ad2)]}),(29902,{loop:=some ⟨[(6,.c (.ptr 16 0)),(17,re),sM,rh,(37,.c (.v (.sl u6))),(38,aW),(39,aW)],Vo⟩}),(1913753,{kf:=[(3,.q [16]),(4,.q [16]),(5,.q [10]),(6,.q [10]),(8,.u [14] false),(10,.q [16]),(11,.u [16] false)]})] 13 ⟨[(0,re),(1,jx)],[]⟩ [(false,⟨((4,uP)::eB),[]⟩),(false,⟨((4,.c .np)::eB),[]⟩)] (id) (id) (λ_=>rfl) (k2 zF)
def agP:FS:=mkG [] [lI,(26,{loop:=some ⟨((0,oE)::cK::gR),[(3,.var 59 (cI::cI::Cf))]⟩})] 223 ⟨((0,oE)::BL),[]⟩ dA (k2 PQ)
def agh:FS:=mkG [agP] [] 130 ⟨((0,oE)::BL),[]⟩ di (k2 nH)
def ag4:FS:=mkG [Je,V7,Wj,Wb,agh] [] 57 UX di (k2 lK)
def agK:FS:=mkG [Qu] [aev,adU,adT] 59 ⟨[gP,(1,.st oL)],[]⟩ [(false,⟨[(4,.c (.own 12))],[(12,dI)]⟩)] (k2 C')
def aiE:FS:=mkG [I8] [] 47 ⟨((0,.st jB)::B0),[]⟩ dA (k2 D4)
def afw:FS:=mkQ [aiE] [(30,{cut:=[(.normal,⟨(mm::(2,.fn 47 [] [])::ga::u7),[(4,.var 81 [bj,bj])]⟩)]}),(60,{loop:=some ⟨(mm::(2,.fn 47 [] [])::ga::(8,aW)::xr),[(4,.var 81 [bj,bj])]⟩})] 79 ⟨[mm,(1,.st jB),(2,.fn 47 [] [])],[]⟩ [(false,⟨[jU,(7,gX)],[]⟩)] (k2 Ir)
def PT:FS:=mkG [afw] [] 32 ⟨(gP::B0),[]⟩ dA (k2 qe)
def ahl:FS:=mkG [PT] [] 60 ⟨[gP,(1,.st oL),dp],[]⟩ pT (k3 yI)
def agx:FS:=mkG [Jr] [] 61 UX [(false,⟨[(3000004,.st u6)],[]⟩)] (k2 C1)
def ahk:FS:=mkG [Qu] [aev,adU,(31,{pre:=[.ba 12]}),adT] 59 ⟨[gP,(1,.st oL)],[]⟩ B9 (k2 JJ)
def PF:FS:=mkQ [ajX,agK,ahl,agx,ahk,ag4] [(62,{ow:=[124]}),(254,{ow:=[159],ps:=[(159,[(1000,124)])]}),(980,{ow:=[33,34],kf:=[(3,bh),(4,bh),(5,dx),(6,dx),(7,bh),(8,bh),(9,.u [33] false),(10,.u [33] false)],ps:=[(33,[(12,33)]),(34,[(1000,33)])]}),(2026,{kf:=[(3,dx),(6,dx),(7,dx),(8,bh),ri,(11,.u [124] false)]}),(3932,{ow:=[49]}),(3933,{pre:=[.ba 49]}),(15740,{ow:=[57,58],ps:=[(58,[(1000,57)])]}),(62972,{ow:=[76,80],kf:=[(3,bh),(4,bh),(5,dx),(6,dx),(7,bh),(8,bh),ri,(10,bh),(11,dx),(12,dx),(13,bh),(14,bh),(15,.u [76] false),(18,.u [76] false),(19,.u [76] false)],ps:=[(76,[(12,76)]),(80,[(1000,76)])]}),(251900,{ow:=[102,103],kf:=[(4,bh),(5,bh),(6,dx),(7,dx),(8,bh),ri,(10,bh),(11,bh),(12,dx),(13,dx),(14,bh),(15,bh),(16,dx),(17,dx),(19,.u [102] false),(20,.u [102] false)],ps:=[(103,[(1000,102)])]}),(1007612,{ow:=[111,112],ps:=[(112,[(1000,111)])]})] 21 UX [(false,⟨[(4,eV),ni],[]⟩)] (k2 fg)
def ang:FS:=mkG [] [] 331 ⟨[nr,(1,.st vv)],[]⟩ [(false,⟨[(3000004,.st vv)],[]⟩)] (k2 Mg)
def aku:FS:=mkG [WO,ang] [] 232 ⟨[(0,.st BN),(1,.st vv)],[]⟩ di (k2 Lt)
def YD:FS:=mkG [aku] [(13,Ho),(26,{loop:=some ⟨((0,B')::cK::eB),[(3,pX)]⟩}),(3365,{cut:=[(.normal,⟨[(0,B'),cK,(5,aW),(6,gX),(7,gX)],[(3,pX)]⟩)]}),(6730,{loop:=some ⟨((0,B')::cK::(5,aW)::(6,gX)::(7,gX)::nn),[(3,pX)]⟩})] 146 ⟨[(0,B'),(1,.st vv)],[]⟩ di (k2 FV)
def K3:FS:=mkG [] [lI,(26,{loop:=some ⟨(dy::bR::eB),[(2,ad3)]⟩})] 72 ⟨[(0,.st xU),dy],[]⟩ dA (k2 tM)
def Xl:FS:=mkG [] [(13,{cut:=[(.normal,⟨[cE,cK],[Hh,(1000,rk)]⟩),(.ret,adz)]}),(26,{loop:=some ⟨(cE::cK::eB),[Hh,(1000,rk)]⟩})] 227 ⟨(cE::B0),[(1000,rk)]⟩ [(false,adz)] (k2 vX)
def agB:FS:=mkQ [Xl] [(13,{cut:=[(.normal,⟨[bR,ga],Ox⟩)]}),(26,{pre:=[.da 2 0 30 (.row [] 84 jB []),.da 2 1 20 (.row [] 191 kN [])],loop:=some ⟨N2,Ox⟩}),(1682,{ow:=[30],kf:=[(0,kG),(1,kG),(4,bh),(5,bh),(6,bh),(8,.u [30] false),(9,kG),(10,rl)],ps:=[(30,uN)]}),(3367,{cut:=[(.normal,⟨N2,Ox⟩)]}),(6734,{loop:=some ⟨(nt::bR::ga::BF),Ox⟩}),(107748,{ow:=[58],kf:=[(0,kG),(1,kG),(4,bh),(5,bh),(6,bh),ri,(10,bh),(11,bh),(13,bh),(14,bh),(16,.u [30] false),(17,kG),(18,rl)],ps:=[(58,uN)]})] 140 ⟨[(0,.agg pY),nt],[]⟩ [(false,⟨[(3000004,.agg [.own 30,.own 20])],[(20,jC),(30,rk)]⟩)] (k1 Jk)
def DW:FS:=mkG [] [(13,U1),(26,{loop:=some ⟨(gy::gz::(2,dT)::iz),[]⟩})] 70 ⟨(gy::gz::js),[]⟩ pT (k3 qj)
def alD:FS:=mkG [DW,K3] [] 141 ⟨[gy,gz,(2,.st jB)],[]⟩ [(false,⟨[(6,.c iD)],[]⟩)] (k3 LR)
def ahv:FS:=mkQ [Xl] [(13,{cut:=[(.normal,⟨[bR,ga],Ov⟩)]}),(26,{loop:=some ⟨N2,Ov⟩}),(1682,{ow:=[30],kf:=[(0,kG),(1,kG),(4,bh),(5,bh),(6,bh),(8,GX),(9,kG),(10,rl)],ps:=[(30,[(1000,1001)])]}),(3367,{cut:=[(.normal,⟨N2,Ov⟩)]}),(6734,{loop:=some ⟨(nt::bR::ga::BF),Ov⟩}),(107748,{ow:=[58],kf:=[(0,kG),(1,kG),(4,bh),(5,bh),(6,bh),ri,(10,bh),(11,bh),(13,bh),(14,bh),(16,GX),(17,kG),(18,rl)],ps:=[(58,[(1000,1001)])]})] 140 ⟨[(0,.agg [.own 1001,BE]),nt],[(1001,rk),xu]⟩ [(false,⟨[(3000004,.agg [.own 1001,BE])],[(1001,rk),xu]⟩)] (k3 yK)
def D9:FS:=mkG [agB,ahv,alD] [(6,{ow:=[11],ps:=[(11,[(20,11),(30,211)])]}),(29,{cut:=[(.normal,⟨[fI,rq],ad6⟩)]}),(31,{pre:=[.ba 211,.ba 11]}),(58,{loop:=some ⟨(gy::pQ::fI::rq::nn),ad6⟩}),(932,{ow:=[28],kf:=[(0,.q [7]),(3,.q [7]),(4,.q [7]),(6,.q [211]),(7,.q [211]),(9,.u [211,11] false),(10,.u [7] false)],ps:=[(28,[(1001,211),(1002,11)])]})] 67 Vd [(false,⟨[(3000006,.st (.pair sO rb))],[]⟩)] (k3 tF)
def PU:FS:=mkG [] [(29,{cut:=[(.normal,⟨[GZ],[(27,dJ)]⟩)]}),(31,{pre:=[.ba 27]}),(58,{pre:=[.dz 3 27 (.row [] 9 .str [])],loop:=some ⟨(ru::GZ::fe),[(1,u5),(27,dJ)]⟩})] 68 ⟨[(0,.st (.pair sO rb))],[]⟩ [(false,⟨uO,[]⟩)] (k1 yN)
def Rm:FS:=mkG [Eh,YD,QE] [] 71 kH di (k2 wq)
def W0:FS:=mkG [DW,Rm] [(13,Ho),(26,{loop:=some ⟨(gy::gz::eB),[]⟩}),(1683,{cut:=[(.normal,⟨(gy::gz::eB),[]⟩),(.ret,⟨[(4,xx)],[]⟩)]}),(3366,{loop:=some ⟨(gy::gz::(5,aW)::(6,.c iD)::iz),[]⟩})] 73 ⟨[gy,gz],[]⟩ di (k2 Ez)
def aij:FS:=mkQ [W0,DW,K3,Rm,D9] [(29,{cut:=[(.normal,⟨[cm,gz,eM],((5,u5)::pZ)⟩),(.ret,⟨[(4,xx)],pZ⟩)]}),(58,{loop:=some ⟨(cm::gz::eM::mg),((5,u5)::pZ)⟩}),(61,{cut:=[(.normal,⟨[cm,gz],pZ⟩),(.ret,⟨[(4,xx)],pZ⟩)]}),(122,{loop:=some ⟨(cm::gz::eM::nn),((5,u5)::pZ)⟩})] 142 ⟨[cm,gz],[Oo]⟩ [(false,⟨ra,[Oo]⟩)] (k2 Kh)
def ajt:FS:=mkG [] [adC,adP,(116,{post:=[.ba 35]}),(3730,{cut:=[(.normal,Oi)]}),(7460,{loop:=some Oi})] 143 NX [(false,⟨[pQ],[]⟩)] (k1 K2)
def ah4:FS:=mkRec [aij,DW,D9,ajt,PU] [(28,Vc),(253,{cut:=[(.normal,⟨[cm,gz,(7,dT)],pZ⟩)]}),(506,{loop:=some ⟨(cm::gz::(6,eu)::(7,dT)::nn),pZ⟩}),(1021,{cut:=[(.normal,⟨[],pZ⟩),(.ret,⟨[(4,eV),(5,xx)],pZ⟩)]}),(2042,{loop:=some ⟨[cm,gz,(7,dT),nk],pZ⟩}),(130706,{ow:=[94],gx:=[(7,[.ba 90])],ps:=[(94,cF)]})] 69 ⟨[cm,gz],[Oo]⟩ [(false,⟨[(4,eV),ni],[Oo]⟩)] (λo=>(o.1,o.2.1,o.2.2.1)) (λr=>(r.1,r.2.1,r.2.2,())) (λ_=>rfl) nL (by kernel_rfl) (λrc ok x=>by kernel_rfl)
def akf:FS:=mkHh [ah4] [(14,{ow:=[19],ps:=[(19,[(1000,16)])]})] 27 ⟨[gy,nt,dp],[]⟩ [(false,⟨[(6,eV),(7,gX),(8,gX)],[]⟩)] (λo=>(o.1,o.2.1,o.2.2.1)) (λr=>(r.1,r.2.1,r.2.2,())) (λ_=>rfl) (k3 Lk)
def am8:FS:=mkG [qy,W0,DW,K3,Rm,D9,PU] [(13,{cut:=[(.normal,Vd),(.ret,Hx)]}),(26,{loop:=some ⟨(gy::nt::pQ::iz),[]⟩}),(61,aer),(122,{loop:=some ⟨[gy,pQ,N5,lA],[(9,u5)]⟩}),(125,aer),(250,{loop:=some ⟨[gy,pQ,N5,sL],[(9,u5)]⟩}),(1021,U1),(2042,{loop:=some ⟨[gy,pQ,(14,eu),(15,aW)],[]⟩})] 28 Vd pT (k3 Mc)
end
end Go.Proofs.YtejhifnjgoclpaaGreatDoor.Fx
