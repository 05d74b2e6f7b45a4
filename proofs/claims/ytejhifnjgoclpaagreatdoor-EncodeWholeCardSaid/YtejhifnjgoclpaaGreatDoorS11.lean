/- Parts of the proofs, put together by a program. -/
import Derived.Test.YtejhifnjgoclpaaGreatDoorS10
import Derived.Test.YtejhifnjgoclpaaGreatDoorRows
import Derived.Outline
import Derived.Below
import Derived.Handy
import Derived.WalkLawsBesides
import Derived.WalkSpells
import Derived.Deep.QuietTactic
import Derived.BigQuiet
import Derived.Deep.RegionHeld3
import Derived.Laws.Externs
set_option linter.unusedVariables false
set_option linter.unusedSimpArgs false
open Nat renaming zero_le->ae6,le_trans->au2
open Int renaming toNat_natCast->as1
open Option renaming bind_eq_some_iff->aw5
namespace Go.Proofs.YtejhifnjgoclpaaGreatDoor
open Go.RowKit
theorem mK {k:IntKind} {a b:Int} (h:a=b):Ending.returned (.int k a)=.returned (.int k b):=by rw[h]
theorem aoF {a b:Bool} (h:a=b):Ending.returned (.bool a)=.returned (.bool b):=by rw[h]
theorem Sn (l:List UInt8) (i:Nat) (h:i<l.length):(ByteArray.mk l.toArray)[i]! =l[i]:=by
 have hs:i<(ByteArray.mk l.toArray).size:=by simpa[ByteArray.size] using h
 rw[getElem!_pos (ByteArray.mk l.toArray) i hs,ByteArray.getElem_eq_getElem_data];simp
theorem TI (c d:UInt8):(d==c)=gA c d.toNat:=by unfold gA;rw[Bool.eq_iff_iff];simp only[beq_iff_eq];exact⟨fun h=>by rw[h],fun h=>UInt8.toNat_inj.1 h⟩
theorem akL (l:List UInt8) (c:UInt8):firstIdx ⟨l.toArray⟩ c=if ak (gA c) l 0<l.length then(ak (gA c) l 0:Int) else-1:=by
 have hs:(ByteArray.mk l.toArray).size=l.length:=by simp [ByteArray.size]
 unfold firstIdx;rw[hs];by_cases h:ak (gA c) l 0<l.length
 · rw[if_pos h]
   have:(List.range l.length).find? (fun i=>(ByteArray.mk l.toArray)[i]! ==c)=some (ak (gA c) l 0):=by
    rw[List.find?_range_eq_some];refine⟨?_,List.mem_range.2 h,fun j D=>?_⟩
    · rw[Sn l _ h,TI,<-wE l _ h,aa0 (gA c) l _ 0 rfl h]
    · rw[Sn l j (by omega),TI,<-wE l j (by omega),Xg (gA c) l _ 0 j rfl (ae6 _) D];rfl
   rw[this]
 · rw[if_neg h]
   have:(List.range l.length).find? (fun i=>(ByteArray.mk l.toArray)[i]! ==c)=none:=by
    rw[List.find?_eq_none];intro j D;have D:=List.mem_range.1 D;rw[Sn l j D,TI,<-wE l j D,Xg (gA c) l _ 0 j rfl (ae6 _) (by have:=rV (gA c) l 0 (by omega);omega)]
    simp
   rw[this]
theorem WU (l:List UInt8) (c:UInt8) (w:World):(callFunc 446 #[.string ⟨l.toArray⟩,.int .u8 c.toNat]).run Tryz.prog w=.ok (.value (.int .i64 (if ak (gA c) l 0<l.length then(ak (gA c) l 0:Int) else-1))) w:=by
 have h:=run_callFunc_extern (P:=Tryz.prog) (f:=446) Tryz.func446 (by kernel_rfl) (by kernel_rfl) (by kernel_rfl) (e:=Extern.BytealgIndexByte.indexByte) (by kernel_rfl) #[.string ⟨l.toArray⟩,.int .u8 c.toNat] w
 rw[h,run_indexByte_string];show Result.ok (Next.value (Value.int .i64 (firstIdx ⟨l.toArray⟩ _))) w=_;have e:(c.toNat:Int).toNat.toUInt8=c:=by simp
 rw[e,akL]
theorem amG {a b c d:ByteArray} {x y:Bool} (h1:a=c) (h2:b=d) (D:x=y):Ending.returned (.tuple #[.string a,.string b,.bool x])=.returned (.tuple #[.string c,.string d,.bool y]):=by rw[h1,h2,D]
set_option maxHeartbeats 400000 in
theorem arQ (l:List UInt8) (c:UInt8) (w:World) (hl:l.length<=9223372036854775807) (h:Hid (¬ak (gA c) l 0<l.length)):
  Calls Tryz.prog 233 #[.string ⟨l.toArray⟩,.string ⟨#[c]⟩] w fun e w'=>e=.returned (.tuple #[.string ⟨l.toArray⟩,.string ⟨#[]⟩,.bool false])/\w=w':=by
 have hne:([c]==l)=false:=by rw[beq_eq_false_iff_ne];rintro rfl;refine h.out ?_;rw[Fu _ _ _ (by simp) (by unfold gA dE;simp)];simp
 have hix: ∀w:World,(callFunc 446 #[.string ⟨l.toArray⟩,.int .u8 (((ByteArray.mk #[c])[0]'(by simp [ByteArray.size])).toNat:Int)]).run Tryz.prog w=_:=WU l c
 rw[if_neg h.out] at hix
 go_enter Tryz.func233,Tryz.ntmps233
 go_wp2
 go_ret3
 exact⟨rfl,rfl⟩
set_option maxHeartbeats 400000 in
theorem aqY (l:List UInt8) (c:UInt8) (k:Nat) (w:World) (hl:l.length<=9223372036854775807) (hk:Hid (ak (gA c) l 0=k)) (h:k<l.length):
  Calls Tryz.prog 233 #[.string ⟨l.toArray⟩,.string ⟨#[c]⟩] w fun e w'=>e=.returned (.tuple #[.string ⟨(l.take k).toArray⟩,.string ⟨(l.drop (k+1)).toArray⟩,.bool true])/\ ∃m,w'=w.drewN m:=by
 have hix: ∀w:World,(callFunc 446 #[.string ⟨l.toArray⟩,.int .u8 (((ByteArray.mk #[c])[0]'(by simp [ByteArray.size])).toNat:Int)]).run Tryz.prog w=_:=WU l c
 rw[hk.out,if_pos h] at hix;have HX1:=Lib.hid (Sw l 0 k);have HX2:=Lib.hid (abv l (k+1));have f1:(0:Int)<=(k:Int):=by omega
 have f2:(k:Int)<=(l.length:Int):=by omega
 have f3:(k:Int)+1<=(l.length:Int):=by omega
 have f4:(0:Int)<=(k:Int)+1:=by omega
 have f5:((k:Int)+1).toNat=k+1:=by omega
 by_cases he:[c]=l
 · subst he;have hk0:k=0:=by simp at h;omega
   subst hk0
   go_enter Tryz.func233,Tryz.ntmps233
   go_wp2
   go_quiet (fail)
   go_wp2
   go_ret3
   exact⟨rfl,_,rfl⟩
 · have hne:([c]==l)=false:=beq_eq_false_iff_ne.2 he
   go_enter Tryz.func233,Tryz.ntmps233
   go_wp2
   go_quiet (fail)
   go_wp2
   go_ret3
   exact⟨amG HX1.out HX2.out rfl,_,rfl⟩
end Go.Proofs.YtejhifnjgoclpaaGreatDoor
namespace Go.Proofs.YtejhifnjgoclpaaGreatDoor.Fx
open Go.RowKit
set_option maxRecDepth 1000000
noncomputable section
def mkRec {P:Program} (G:List (dh P)) (F:List (Nat×bE)) (f:FuncId) (aF:Shape) (outs:List (Bool×Shape)) {A:Type} (g:JU outs->A) (h:A->JU outs) (M: ∀o,h (g o)=o) (B:(cv aF->Option A)->cv aF->Option A) (fm:pB aF outs=true)
  (J: ∀(rc:cv aF->Option A) (ok: ∀(R:Type) (x:cv aF) (k:JU outs->Option R) (y:R),((rc x).bind fun r=>k (h r))=some y-> ∃o,k o=some y/\fo P f ((mkD aF x).sl.map (·.2)) (mkD aF x).hp (mQ outs o)) (x:cv aF),
   A7 P (⟨f,aF,outs,fun R x k=>(rc x).bind fun r=>k (h r),fm,ok⟩::G) F f aF outs g x=B rc x):dh P:=
 ⟨f,aF,outs,fun R x k=>(ou B x).bind fun r=>k (h r),fm,fun R x k y D=>by
  have main: ∀n (x:cv aF) r,fa B n x=some r->fo P f ((mkD aF x).sl.map (·.2)) (mkD aF x).hp (mQ outs (h r)):=by
   intro n
   induction n with
   |zero=>intro x r h;cases h
   |succ n U=>
    intro x r O;have ok: ∀(R:Type) (x:cv aF) (k:JU outs->Option R) (y:R),((fa B n x).bind fun r=>k (h r))=some y-> ∃o,k o=some y/\fo P f ((mkD aF x).sl.map (·.2)) (mkD aF x).hp (mQ outs o):=fun R x k y D=>by obtain⟨r,h1,h2⟩:=aw5.1 D;exact⟨h r,h2,U x r h1⟩
    exact aaQ fm M ((J (fa B n) ok x).trans O)
  obtain⟨r,h1,h2⟩:=aw5.1 D;obtain⟨n,N⟩:=anT h1;exact⟨h r,h2,main n x r N⟩⟩
def mkB {P:Program} (f:FuncId) (aF:Shape) (outs:List (Bool×Shape)) {A:Type} (g:A->JU outs) (D:cv aF->Option A) (fm:pB aF outs=true) (h: ∀x r,D x=some r->fo P f ((mkD aF x).sl.map (·.2)) (mkD aF x).hp (mQ outs (g r))):dh P:=
 ⟨f,aF,outs,fun R x k=>(D x).bind fun r=>k (g r),fm,fun R x k y F=>by obtain⟨r,h1,h2⟩:=aw5.1 F;exact⟨g r,h2,h x r h1⟩⟩
theorem Conc.hand {E:cQ} {c:Cx} {h:Hp} {w:World} (hC:Conc E c h w):Conc (dW w c h) c h w:=
 ⟨hC.obj,hC.inj,hC.jX,hC.lt,⟨fun b i hA=>⟨fun⟨k,hk⟩=>hC.jX k b i hk hA,hC.lt b i hA⟩,fun⟨k,hk⟩=>by
  rcases hC.own k _ hk with q |q
  · exact hC.nE.2.1 q
  · have:=hC.nE.2.2.lt;omega,hC.Oz⟩,fun _ _ h=>h,fun _ _ h=>.inl h,fun k b e=>.inl ⟨k,e⟩,Ext.refl _ _,fun k o e=>by
  have e:(if 1000<=k/\k<5000 then h k else none)=some o:=e
  split at e<;>try (cases e;done)
  rename_i D;exact⟨D,o,e,(OL.refl false _ _).pl⟩⟩
theorem Conc.leave {E:cQ} {c c':Cx} {h h':Hp} {w w':World} (hC:Conc E c h w) (D:Conc (dW w c h) c' h' w'):Conc E c' h' w':=by
 have J: ∀b,(dW w c h).F b->E.F b\/E.w.heap.size<=b:=fun b ⟨k,hk⟩=>hC.own k b hk;refine⟨D.obj,D.inj,D.jX,D.lt,hC.nE,fun b i h=>D.le b i (hC.le b i h),fun b i h=>?_,fun k b h1=>?_,hC.ext.trans D.ext fun b h1 h2=>?_,fun k o e=>?_⟩
 · rcases D.new b i h with h |h |h
   · exact hC.new b i h
   · exact .inr (.inl (au2 hC.ext.size h))
   · exact .inr (J b h).symm
 · rcases D.own k b h1 with h |h
   · exact J b h
   · exact .inr (au2 hC.ext.size h)
 · rcases J b h2 with h |h
   · exact h
   · omega
 · obtain⟨M,N,h1,h2⟩:=hC.fV k o e;obtain⟨_,Y,O,U⟩:=D.fV k N (by show(if 1000<=k/\k<5000 then h k else none)=some N;rw[if_pos M];exact h1)
   exact⟨M,Y,O,h2.trans U⟩
theorem Conc.df {E:cQ} {c:Cx} {h:Hp} {w:World} (d:List Deferred) (q:Conc E c h w):Conc {E with df:=d} c h w:=
 ⟨q.obj,q.inj,q.jX,q.lt,q.nE,q.le,q.new,q.own,q.ext,q.fV⟩
theorem fo.pure {P:Program} {f:FuncId} {args:List DS} {r:DS} (h: ∀(A:Nat->Nat->Prop) (w:World) (vals:List Value),(∀b i,A b i->b<w.heap.size)->TabOk w.heap[tabB]? ->ay (SR ⟨fun _=>undef,A⟩ eU w) vals args->
  Calls P f vals.toArray w fun e w'=> ∃v D,e=.returned v/\iB w w'/\(∀b i,A b i->D b i)/\(∀b i,D b i->A b i\/(w.heap.size<=b/\b<w'.heap.size))/\SR ⟨fun _=>undef,D⟩ eU w' v r):fo P f args [] (.ret r []):=by
 intro c w vals hC N
 have F: ∀{c c':Cx} {w:World},c.A=c'.A-> ∀u x,CR c eU w u x->CR c' eU w u x:=fun{c c' w} e u x hu=>by
  cases x with
  |ow k g p=>obtain⟨_,_,e,_⟩:=hu;cases e
  |ptr k i=>obtain⟨_,_,e,_⟩:=hu;cases e
  |_=>unfold CR at hu⊢;rw[<-e];exact hu
 refine(h c.A w vals hC.lt hC.Oz (N.mono fun u x q=>SR.imp (F (c:=c) (c':=⟨fun _=>undef,c.A⟩) rfl) q)).mono ?_;rintro e w' ⟨v,D,rfl,J,h1,h2,M⟩;obtain⟨O,_⟩:=hC.Gw J D h1 h2;exact⟨⟨c.m,D⟩,v,rfl,O,SR.imp (F (c:=⟨fun _=>undef,D⟩) (c':=⟨c.m,D⟩) rfl) M⟩
theorem fo.run {P:Program} {f:FuncId} {args:List DS} {r:DS} (hf:fo P f args [] (.ret r [])) {A:Nat->Nat->Prop} {w:World} {vals:List Value} (F: ∀b i,A b i->b<w.heap.size) (J:TabOk w.heap[tabB]?) (M:ay (SR ⟨fun _=>undef,A⟩ eU w) vals args):
  Calls P f vals.toArray w fun e w'=> ∃v c',e=.returned v/\iB w w'/\SR c' eU w' v r:=by
 have D: ∀k b,¬Bl (⟨fun _=>undef,A⟩:Cx) eU k b:=fun k b ⟨⟨o,e⟩,_⟩=>by cases e
 have hC:Conc (dW w ⟨fun _=>undef,A⟩ eU) ⟨fun _=>undef,A⟩ eU w:=⟨fun k o e=>(by cases e),fun k N b e=>(D _ _ e).elim,fun k b i e=>(D _ _ e).elim,F,⟨fun b i e=>⟨fun⟨k,q⟩=>D _ _ q,F b i e⟩,fun⟨k,q⟩=>D _ _ q,J⟩,fun _ _ q=>q,fun _ _ q=>.inl q,fun k b e=>(D _ _ e).elim,Ext.refl _ _,fun k o e=>by
  have e:(if 1000<=k/\k<5000 then none else none)=some o:=e
  split at e<;>cases e⟩
 refine(hf ⟨fun _=>undef,A⟩ w vals hC M).mono ?_;rintro e w' ⟨c',v,rfl,g1,g2⟩;exact⟨v,c',rfl,g1.ext.mono fun b ⟨k,q⟩=>D _ _ q,g2⟩
theorem jH {c:Cx} {h:Hp} {w:World} (p:ByteArray):CR c h w (.string p) (.v .str p.data.toList):=⟨rfl,by show Value.string ⟨p.data.toList.toArray⟩=.string p;simp⟩
def OH:List (Sum DC (List DC))->Option (List Value)
 |[]=>some []
 |x::r=>match vl (VA x),OH r with|some v,some l=>some (v::l) |_,_=>none
def OI:DS->Option Value
 |.fk l=>match OH l with|some l=>some (.tuple l.toArray) |none=>none
 |x=>vl x
def H3:List DS->Option (List Value)
 |[]=>some []
 |x::r=>match vl x,H3 r with|some v,some l=>some (v::l) |_,_=>none
section
variable {c:Cx} {h:Hp} {w:World}
theorem aaA {x:DC} {v:Value} (e:sy x=some v):CR c h w v x:=by unfold sy at e;split at e<;>first |(cases e;done) |(injection e with e;subst e;first |exact rfl |exact⟨rfl,rfl⟩)
theorem Sx: ∀{l:List DC} {vs:List Value},fF l=some vs->ay (CR c h w) vs l
 |[],_,e=>by injection e with e;subst e;exact .nil
 |x::r,_,e=>by
  unfold fF at e;split at e<;>try (cases e;done)
  injection e with e;subst e;exact .cons (aaA (by assumption)) (Sx (by assumption))
theorem FZ {x:DS} {v:Value} (e:vl x=some v):SR c h w v x:=by
 unfold vl at e;split at e
 · exact aaA e
 · split at e<;>try (cases e;done)
   injection e with e;subst e;exact⟨_,rfl,Sx (by assumption)⟩
 · cases e
theorem aqS {x:DS} {v:Value} (e:OI x=some v):SR c h w v x:=by
 have key: ∀{l:List (Sum DC (List DC))} {vs:List Value},OH l=some vs->ay (UR c h w) vs l:=by
  intro l
  induction l with
  |nil=>intro vs e;injection e with e;subst e;exact .nil
  |cons x r J=>
   intro vs e;unfold OH at e;split at e<;>try (cases e;done)
   rename_i F D;injection e with e;subst e;have:=FZ (c:=c) (h:=h) (w:=w) F;exact .cons (by cases x<;>exact this) (J D)
 unfold OI at e;split at e
 · split at e<;>try (cases e;done)
   injection e with e;subst e;exact⟨_,rfl,key (by assumption)⟩
 · exact FZ e
theorem TP: ∀{l:List DS} {vs us:List Value},H3 l=some vs->ay (SR c h w) us l->us=vs
 |[],_,_,e,.nil=>Option.some.inj e
 |x::r,_,_,e,.cons h1 h2=>by
  unfold H3 at e;split at e<;>try (cases e;done)
  rename_i F D;injection e with e;rw[<-e,sc h1 F,TP D h2]
end
theorem abq {P:Program} {f:FuncId} {args:List DS} {d:DS} (xs:List Value) (r:Value) (D:H3 args=some xs) (J:OI d=some r) (h: ∀w,TabOk w.heap[tabB]? ->Calls P f xs.toArray w fun e w'=>e=.returned r/\Below w.heap.size w w'):fo P f args [] (.ret d []):=
 fo.pure fun A w vals _ M N=>by obtain rfl:=TP D N;exact(h w M).mono (by rintro e w' ⟨rfl,F⟩;exact⟨_,A,rfl,iB.tO F,fun _ _ h=>h,fun _ _ h=>.inl h,aqS J⟩)
theorem wM {P:Program} {f:FuncId} {args:List DS} {d:DS} (xs:List Value) (r:Value) (D:H3 args=some xs) (F:OI d=some r) (h: ∀w,Calls P f xs.toArray w fun e w'=>e=.returned r/\Below w.heap.size w w'):fo P f args [] (.ret d []):=abq xs r D F fun w _=>h w
theorem QI {w w':World} (h:w=w'):Below w.heap.size w w':=by subst h;exact Below.refl _ _
theorem As {α β:Type} {R:α->β->Prop} {l:List α} {a:β} (h:ay R l [a]): ∃x,l=[x]/\R x a:=by
 cases h with
 |cons h t=>cases t;exact⟨_,rfl,h⟩
theorem apV {α β:Type} {R:α->β->Prop} {l:List α} {a b:β} (h:ay R l [a,b]): ∃x y,l=[x,y]/\R x a/\R y b:=by
 cases h with
 |cons h t=>obtain⟨y,rfl,h2⟩:=As t;exact⟨_,y,rfl,h,h2⟩
end
end Go.Proofs.YtejhifnjgoclpaaGreatDoor.Fx
namespace Go.Proofs.YtejhifnjgoclpaaGreatDoor
open Go.RowKit
open Go.PlainAid (bt)
theorem aov {α:Type} {P:List α->Prop} (h0:P []) (hs: ∀l c,P l->P (l++[c])) (l:List α):P l:=by
 have h: ∀r:List α,P r.reverse:=by
  intro r
  induction r with
  |nil=>exact h0
  |cons c r D=>rw[List.reverse_cons];exact hs _ c D
 have:=h l.reverse
 rwa [List.reverse_reverse] at this
def dv (c:Nat):Nat:=if 48<=c/\c<=57 then c - 48 else if 97<=c/\c<=102 then c - 87 else 16
def nZ (l:List UInt8):Nat:=l.foldl (fun n c=>n*16+dv c.toNat) 0
def mN (l:List UInt8):Bool:=l.all fun c=>dv c.toNat<16
def ku (s:ByteArray):Bool:=s.size==16&&mN s.data.toList
def r9 (s:ByteArray):Nat:=if ku s then nZ s.data.toList else 0
def wL (d:Nat):UInt8:=if d<10 then UInt8.ofNat (48+d) else UInt8.ofNat (87+d)
def qR (n k:Nat):List UInt8:=(List.range k).map fun i=>wL (n/16 ^(15 - i)%16)
def T9 (n:Nat):List UInt8:=qR n 16
theorem amK (s:ByteArray) (k:Nat) (h:k<s.size):s.data.toList.take (k+1)=s.data.toList.take k++[s[k]]:=by rw[List.take_succ_eq_append_getElem (by simpa using h)];rfl
theorem aci (s:ByteArray) (k:Nat) (h:k<s.size):bt s k=(s[k].toNat:Int):=by unfold bt;rw[dif_pos h]
theorem XB (l:List UInt8) (c:UInt8):nZ (l++[c])=nZ l*16+dv c.toNat:=by simp [nZ]
theorem XC (l:List UInt8) (c:UInt8):mN (l++[c])=(mN l&&decide (dv c.toNat<16)):=by simp [mN]
theorem al5 (n k:Nat):qR n (k+1)=qR n k++[wL (n/16 ^(15 - k)%16)]:=by simp [qR,List.range_succ]
theorem anK (l:List UInt8) (h:mN l=true):nZ l<16 ^l.length:=by
 revert h;refine aov (P:=fun l=>mN l=true->nZ l<16 ^l.length) (by simp [nZ]) ?_ l
 intro l c D h;rw[XC] at h;simp at h;have:=D h.1;rw[XB];simp only[List.length_append,List.length_singleton,Nat.pow_succ];omega
theorem akJ (s:ByteArray) (k:Nat) (h:k<s.size) (F: ¬dv s[k].toNat<16):ku s=false:=by
 have:mN s.data.toList=false:=by
  rw[Bool.eq_false_iff];intro D;have:=(List.all_eq_true.1 D) s[k] (by simp [ByteArray.getElem_eq_getElem_data])
  simp at this;omega
 simp [ku,this]
theorem ajR (n k:Nat):(qR n k).length=k:=by simp [qR]
theorem aiD (s:ByteArray) (k:Nat) (hk:k<=15) (D:mN (s.data.toList.take k)=true):nZ (s.data.toList.take k)<1152921504606846976:=by
 have h1:=anK _ D;have h2:(s.data.toList.take k).length<=15:=au2 (List.length_take_le _ _) hk;have F:16 ^(s.data.toList.take k).length<=16 ^15:=Nat.pow_le_pow_right (by decide) h2
 have J:(16:Nat) ^15=1152921504606846976:=by decide
 omega
theorem aal (s:ByteArray) (k:Nat) (hk:k<s.size) (D:mN (s.data.toList.take k)=true) (h:dv (bt s k).toNat<16):
  mN (s.data.toList.take (k+1))=true/\nZ (s.data.toList.take (k+1))=nZ (s.data.toList.take k)*16+dv (bt s k).toNat:=by
 rw[aci s k hk,as1] at h⊢;rw[amK s k hk,XC,XB,D];simp [h]
theorem apj (s:ByteArray) (k:Nat) (hk:k<s.size) (h: ¬dv (bt s k).toNat<16):r9 s=0/\ku s=false:=by rw[aci s k hk,as1] at h;have:=akJ s k hk h;simp [r9,this]
theorem apk (s:ByteArray) (D:s.size=16) (F:mN (s.data.toList.take 16)=true):r9 s=nZ (s.data.toList.take 16)/\ku s=true:=by
 have J:s.data.toList.length=16:=D;rw[List.take_of_length_le (by omega)] at F⊢
 have:ku s=true:=by simp [ku,D,F]
 simp [r9,this]
theorem arL (c:Int) (h1:48<=c) (h2:c<=57):dv c.toNat=(c - 48).toNat:=by unfold dv;rw[if_pos (by omega)];omega
theorem arK (c:Int) (h1:97<=c) (h2:c<=102):dv c.toNat=(c - 87).toNat:=by unfold dv;rw[if_neg (by omega),if_pos (by omega)];omega
theorem aqW (c:Int) (h1:c<48\/57<c) (h2:c<97\/102<c):dv c.toNat=16:=by unfold dv;rw[if_neg (by omega),if_neg (by omega)]
theorem al6 (d:Nat) (h:d<10):48+UInt8.ofNat d=wL d:=by unfold wL;rw[if_pos h,UInt8.ofNat_add];rfl
theorem akK (d:Nat) (h: ¬d<10):87+UInt8.ofNat d=wL d:=by unfold wL;rw[if_neg h,UInt8.ofNat_add];rfl
end Go.Proofs.YtejhifnjgoclpaaGreatDoor
