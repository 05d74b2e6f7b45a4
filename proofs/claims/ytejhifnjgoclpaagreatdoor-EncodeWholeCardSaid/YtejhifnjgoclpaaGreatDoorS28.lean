/- Parts of the proofs, put together by a program. -/
import Derived.Test.YtejhifnjgoclpaaGreatDoorS27
set_option linter.unusedVariables false
set_option linter.unusedSimpArgs false
open Option renaming bind_some->ae2
open List renaming getElem_mem->ae3,length_map->ae4,length_append->as0,mem_append->as3,length_cons->as5,append_nil->at0,mem_cons->at3,getElem_map->au5,length_singleton->au7,getElem_of_mem->au8,getElem?_eq_some_iff->av7
open Nat renaming le_refl->ae5,le_trans->au2
open Bool renaming and_eq_true->ae7,not_true->ae8,not_false->as4,or_eq_true->aw1
open Int renaming lt_irrefl->as2
namespace Go.Proofs.YtejhifnjgoclpaaGreatDoor.Fx
open Go.RowKit
set_option maxRecDepth 1000000
noncomputable section
abbrev aY:=Int×Int×Int×Int×Int
def r6 (D:Nat->aY) (F:Nat->Nat->aY) (ns:List al):List aY:=aN (fun i (n:al)=>D i::aN (fun k (_:List UInt8)=>[F i k]) n.2.2 0) ns 0
theorem rP {α β:Type} (l:List α) (g:Nat->α->β) (j:Nat):(aN (fun k x=>[g k x]) l j).length=l.length:=by
 induction l generalizing j with
 |nil=>rfl
 |cons x t D=>show([g j x]++aN _ t (j+1)).length=_;grind
theorem K5 (D:Nat->aY) (F:Nat->Nat->aY) (ns:List al) (h:bM ns):(r6 D F ns).length<=40:=by
 have:=iU (e:=fun i n=>D i::aN (fun k _=>[F i k]) n.2.2 0) (m:=5) ns 0 (fun j J=>by have:=(h.dO _ (ae3 J)).2.2.1;rw[as5,rP];omega)
 have h2:=h.many;show(aN _ ns 0).length<=40;omega
theorem aoC (x:pt) (ns:List al) (h:bM ns):ab Jg (x,ns.map aO,((ns.map aO).length:Int),0,[],())=some (x,r6 (fun i=>(1,(i:Int),0,0,0)) (fun i k=>(2,(i:Int),(k:Int),0,0)) ns,()):=by
 have hm:=h.many;refine eX ns (fun i n=>(1,(i:Int),0,0,0)::aN (fun k _=>[(2,i,(k:Int),0,0)]) n.2.2 0) 5 0 (fun k acc=>(x,ns.map aO,((ns.map aO).length:Int),(k:Int),acc,())) (fun acc=>(x,acc,())) (fun k hk=>?_) ?_ ?_ [] (ae5 _) rfl
 · have:=(h.dO _ (ae3 hk)).2.2.1;rw[as5,rP];omega
 · intro k hk acc M;have D:=aH k;have F: ∀{R:Type} (q:Option R),J (aa .i64 (k+1:Nat)) q=q:=fun q=>aw (by omega)
   have U:k<(ns.map aO).length:=by grind
   have N:=(h.dO _ (ae3 hk)).2.2.1;have hf:(aO ns[k]).2.2=(ns[k]).2.2:=rfl;have inner:=eX (f:=Jh) (v0:=(x,k,ns.map aO,ns.length,k,((ns[k]).2.2.length),0,acc++[(1,(k:Int),0,0,0)],())) (ns[k]).2.2 (fun j _=>[(2,(k:Int),(j:Int),0,0)]) 1 100 (fun j acc=>(x,k,ns.map aO,ns.length,k,((ns[k]).2.2.length),j,acc,())) (fun acc=>(x,ns.map aO,ns.length,k,acc,())) (by simp) ?_ ?_ (acc++[(1,(k:Int),0,0,0)]) (by grind) rfl
   · simp (disch:=omega) only[K0,Jg,ae4,au5,hf,inner];grind
   · intro j O acc M;have D:=aH j;have F: ∀{R:Type} (q:Option R),J (aa .i64 (j+1:Nat)) q=q:=fun q=>aw (by omega)
     simp (disch:=omega) only[K0,Jh,D,F]
   · simp[Jh]
 · simp[Jg]
def o7 (i:Nat) (e:bO):List aY:=r6 (fun k=>(4,(i:Int),(k:Int),0,0)) (fun k j=>(5,(i:Int),(k:Int),(j:Int),0)) e.2.2.2.2.2.2.1
theorem Yv (A:List aq) (hA:bu A) (c:pt) (hc:c.1=A.map bN) (i:Nat) (M:i<A.length):yy c (i:Int)=some (o7 i (A[i]).1):=by
 have h:=(hA.cV _ (ae3 M)).rY;unfold yy;rw[hc,kC M];show(ab I6 ((i:Int),(A[i]).1.2.2.2.2.2.2.1.map aO,(((A[i]).1.2.2.2.2.2.2.1.map aO).length:Int),0,[],())).bind _=_;unfold o7;generalize(A[i]).1.2.2.2.2.2.2.1=ns at h;have hm:=h.many;have U: ∀k (hk:k<ns.length),(((4,(i:Int),(k:Int),0,0):aY)::aN (fun j (_:List UInt8)=>[(5,(i:Int),(k:Int),(j:Int),0)]) (ns[k]).2.2 0).length<=5:=by intro k hk;have:=(h.dO _ (ae3 hk)).2.2.1;rw[as5,rP];omega
 rw[eX ns (fun k (n:al)=>((4,(i:Int),(k:Int),0,0):aY)::aN (fun j (_:List UInt8)=>[(5,(i:Int),(k:Int),(j:Int),0)]) n.2.2 0) 5 0 (fun k acc=>((i:Int),ns.map aO,((ns.map aO).length:Int),(k:Int),acc,())) (fun acc=>(acc,())) U ?_ ?_ [] (ae5 _) ?st]
 case st=>rfl
 · rfl
 · intro k hk acc N;have D:=aH k;have F: ∀{R:Type} (q:Option R),J (aa .i64 ((k+1:Nat):Int)) q=q:=fun q=>aw (show k+1<=4611686018427387904 by omega)
   have Z:k<(ns.map aO).length:=by grind
   have Y:=(h.dO _ (ae3 hk)).2.2.1;have hf:(aO ns[k]).2.2=(ns[k]).2.2:=rfl;have inner:=eX (f:=I7) (v0:=((i:Int),(k:Int),ns.map aO,(ns.length:Int),(k:Int),((ns[k]).2.2.length:Int),0,acc++[(4,(i:Int),(k:Int),0,0)],())) (ns[k]).2.2 (fun j (_:List UInt8)=>[((5,(i:Int),(k:Int),(j:Int),0):aY)]) 1 100 (fun j acc=>((i:Int),(k:Int),ns.map aO,(ns.length:Int),(k:Int),((ns[k]).2.2.length:Int),(j:Int),acc,())) (fun acc=>((i:Int),ns.map aO,(ns.length:Int),(k:Int),acc,())) (fun j O=>ae5 _) ?_ ?_ (acc++[(4,(i:Int),(k:Int),0,0)]) (by rw[as0,au7];omega) rfl
   · simp (disch:=omega) only[K0,I6,ae4,au5,hf,inner];grind
   · intro j O acc N;have D:=aH j;have F: ∀{R:Type} (q:Option R),J (aa .i64 ((j+1:Nat):Int)) q=q:=fun q=>aw (show j+1<=4611686018427387904 by omega)
     simp (disch:=omega) only[K0,I7,D,F]
   · simp[I7]
 · simp[I6]
def AY (A:List aq) (i:Nat) (s:List UInt8):List aY:=aN (fun _ y=>if decide ((i:Int)<y)=true then[(3,(i:Int),y,0,0)] else[]) (kJ A s) 0
def Nw (A:List aq) (i:Nat) (bs:List al):List aY:=aN (fun k (n:al)=>aN (fun _ y=>[(9,(i:Int),(k:Int),y,0)]) (eT A n) 0) bs 0
def pf (A:List aq) (i:Nat) (e:bO):List aY:=AY A i e.1++Nw A i e.2.2.2.2.2.1
theorem abe (A:List aq) (s:List UInt8):(kJ A s).length<=A.length:=by
 have:=iU (e:=fun i y=>if decide (y.1.1=s)=true then[(i:Int)] else[]) (m:=1) A 0 (by grind)
 rw[Nat.one_mul] at this;exact this
theorem YL (A:List aq) (i:Nat) (s:List UInt8):(AY A i s).length<=A.length:=by
 have:=iU (e:=fun _ y=>if decide ((i:Int)<y)=true then[((3,i,y,0,0):aY)] else[]) (m:=1) (kJ A s) 0 (by grind)
 have h2:=abe A s;show(aN _ _ 0).length<=_;omega
theorem apP (A:List aq) (i:Nat) (bs:List al):(Nw A i bs).length<=A.length*bs.length:=
 iU bs 0 (fun j h=>by rw[rP];exact qC _ _)
theorem ZT (A:List aq) (hA:bu A) (c:pt) (hc:c.1=A.map bN) (i:Nat) (M:i<A.length):yF c (i:Int)=some (pf A i (A[i]).1):=by
 have hs:=hA.many;have he:=hA.cV _ (ae3 M);have U:=he.sn;have ho:=abe A (A[i]).1.1;have hp:=YL A i (A[i]).1.1;unfold yF;rw[hc,kC M];rw[show(bN A[i]).1.1=(A[i]).1.1 from rfl,of_eq A hs,ae2]
 have l1:=eX (f:=Jd) (v0:=(c,(i:Int),((kJ A (A[i]).1.1).length:Int),0,kJ A (A[i]).1.1,[],())) (kJ A (A[i]).1.1) (fun _ y=>if decide ((i:Int)<y)=true then[((3,(i:Int),y,0,0):aY)] else[]) 1 0 (fun k acc=>(c,(i:Int),((kJ A (A[i]).1.1).length:Int),(k:Int),kJ A (A[i]).1.1,acc,())) (fun acc=>(c,(i:Int),acc,())) (fun k h=>rR _ _) ?_ ?_ [] (ae5 _) rfl
 · rw[l1,ae2];simp only[hc,kC M];show(ab Jb (c,(i:Int),(A[i]).1.2.2.2.2.2.1.map aO,(((A[i]).1.2.2.2.2.2.1.map aO).length:Int),0,AY A i (A[i]).1.1,())).bind _=_;unfold pf;have O:=he.pJ;generalize(A[i]).1.2.2.2.2.2.1=bs at O U;rw[eX bs (fun k (n:al)=>aN (fun _ y=>[((9,(i:Int),(k:Int),y,0):aY)]) (eT A n) 0) 360 400 (fun k acc=>(c,(i:Int),bs.map aO,((bs.map aO).length:Int),(k:Int),acc,())) (fun acc=>(acc,())) (fun k hk=>by rw[rP];have:=qC A bs[k];omega) ?_ ?_ (AY A i (A[i]).1.1) (by omega) ?st]
   case st=>rfl
   · rfl
   · intro k hk acc N;have D:=aH k;have F: ∀{R:Type} (q:Option R),J (aa .i64 ((k+1:Nat):Int)) q=q:=fun q=>aw (show k+1<=4611686018427387904 by omega)
     have ah:k<(bs.map aO).length:=by grind
     have Y:=T8 A hA bs[k] (O _ (ae3 hk)).2.1;have an:=qC A bs[k];have inner:=eX (f:=Jc) (v0:=(c,(i:Int),(k:Int),bs.map aO,(bs.length:Int),(k:Int),((eT A bs[k]).length:Int),0,acc,eT A bs[k],())) (eT A bs[k]) (fun _ y=>[((9,(i:Int),(k:Int),y,0):aY)]) 1 10000 (fun j acc=>(c,(i:Int),(k:Int),bs.map aO,(bs.length:Int),(k:Int),((eT A bs[k]).length:Int),(j:Int),acc,eT A bs[k],())) (fun acc=>(c,(i:Int),bs.map aO,(bs.length:Int),(k:Int),acc,())) (fun j Z=>ae5 _) ?_ ?_ acc (by omega) rfl
     · simp only[Jb,ae4,dY (show((k:Nat):Int)<(bs.length:Int) by omega),cond_true,au ah,au5,hc,Y,ae2,inner,D,F]
     · intro j Z acc N;have D:=aH j;have F: ∀{R:Type} (q:Option R),J (aa .i64 ((j+1:Nat):Int)) q=q:=fun q=>aw (show j+1<=4611686018427387904 by omega)
       simp (disch:=omega) only[K0,Jc,D,F]
     · intro acc;simp only[Jc,as2,decide_false,cond_false]
   · intro acc;simp only[Jb,ae4,as2,decide_false,cond_false]
 · intro k hk acc N;have D:=aH k;have F: ∀{R:Type} (q:Option R),J (aa .i64 ((k+1:Nat):Int)) q=q:=fun q=>aw (show k+1<=4611686018427387904 by omega)
   have c1:(0:Int)<=(k:Int)/\(k:Int)<((kJ A (A[i]).1.1).length:Int):=by omega
   simp (disch:=omega) only[K0,Jd,D,F,at0];by_cases e:(i:Int)<(kJ A (A[i]).1.1)[k]
   · rw[dY e,cond_true,if_pos rfl]
   · rw[dN e,cond_false,if_neg (by decide),at0]
 · intro acc;simp only[Jd,as2,decide_false,cond_false]
def eP (e:bO) (s:List UInt8):Option fv:=if bG e.2.2.2.2.2.2.2 (fun f=>decide (f.1=s))<0 then none else e.2.2.2.2.2.2.2[(bG e.2.2.2.2.2.2.2 (fun f=>decide (f.1=s))).toNat]?
theorem ES {e:bO} {s:List UInt8} {f:fv} (h:eP e s=some f):f∈e.2.2.2.2.2.2.2:=by grind[eP]
def wU (i t:Nat) (e:bO) (w:Want):List aY:=if decide (w.1=e.1)=true then(match eP e w.2 with
 |none=>[(6,(i:Int),(t:Int),0,0)]
 |some f=>r6 (fun k=>(7,(i:Int),(t:Int),(k:Int),0)) (fun k j=>(8,(i:Int),(t:Int),(k:Int),(j:Int))) f.2) else[]
def n4 (T:bf) (i:Nat) (e:bO):List aY:=aN (fun t w=>wU i t e w) T 0
theorem Za (i t:Nat) (e:bO) (he:dD e) (w:Want):(wU i t e w).length<=40:=by
 unfold wU;split
 · cases h:eP e w.2 with
   |none=>grind
   |some f=>exact K5 _ _ _ (he.qK (ES h))
 · grind
theorem Sm {α β:Type} (l:List α) (g:α->β) (p:β->Bool):bG (l.map g) p=bG l (fun x=>p (g x)):=by unfold bG;rw[List.findIdx?_map];rfl
theorem aax (A:List aq) (hA:bu A) (c:pt) (hc:c.1=A.map bN) (hT:c.2.2.length<=60000) (i:Nat) (Z:i<A.length):yp c (i:Int)=some (n4 c.2.2 i (A[i]).1):=by
 have hs:=hA.many;have he:=hA.cV _ (ae3 Z);have h4:=he.iW;unfold yp n4;generalize aE:c.2.2=T at hT;rw[eX T (fun t w=>wU i t (A[i]).1 w) 40 0 (fun k acc=>(c,(i:Int),T,(T.length:Int),(k:Int),acc,())) (fun acc=>(acc,())) (fun k hk=>Za i k _ he _) ?_ ?_ [] (ae5 _) ?st]
 case st=>rfl
 · rfl
 · intro k hk acc Y;have D:=aH k;have F: ∀{R:Type} (q:Option R),J (aa .i64 ((k+1:Nat):Int)) q=q:=fun q=>aw (show k+1<=4611686018427387904 by omega)
   have hn:(bN A[i]).1.1=(A[i]).1.1:=rfl
   have ah: ∀s,qb (bN A[i]).1 s=some (bG (A[i]).1.2.2.2.2.2.2.2 (fun f=>decide (f.1=s))):=by
    intro s;rw[My _ _ (by show(((A[i]).1.2.2.2.2.2.2.2.map ee).length)<=1000;rw[ae4];omega)]
    show some (bG ((A[i]).1.2.2.2.2.2.2.2.map ee) _)=_;rw[Sm];rfl
   have an:(bN A[i]).1.2.2.2.2.2.2.2=(A[i]).1.2.2.2.2.2.2.2.map ee:=rfl;simp only[PA,dY (show((k:Nat):Int)<(T.length:Int) by omega),cond_true,au hk,hc,kC Z,hn,ah,an,ae2,D,F]
   unfold wU;by_cases U:(T[k]).1=(A[i]).1.1
   · rw[dY U,ae8,cond_false,if_pos rfl];unfold eP;rcases kX (A[i]).1.2.2.2.2.2.2.2 (fun f=>decide (f.1=(T[k]).2)) with⟨_,q⟩ |⟨j,M,_,q,_,_⟩
     · rw[q,dY (show(-1:Int)<0 by decide),cond_true,ib (by omega)]
       rfl
     · rw[q,dN (show¬(((j:Nat):Int)<0) by omega),cond_false,if_neg (by omega),Int.toNat_natCast,List.getElem?_eq_getElem M]
       simp only[];have ar:j<((A[i]).1.2.2.2.2.2.2.2.map ee).length:=by rw[ae4];exact M
       rw[au ar,au5];have N:=he.qK (ae3 M);show(ab IQ (c,(i:Int),(k:Int),T,(T.length:Int),(k:Int),((A[i]).1.2.2.2.2.2.2.2[j]).2.map aO,((((A[i]).1.2.2.2.2.2.2.2[j]).2.map aO).length:Int),0,acc,())).bind _=_;generalize((A[i]).1.2.2.2.2.2.2.2[j]).2=ns at N;have hm:=N.many;have az: ∀k1 (hk:k1<ns.length),(((7,(i:Int),(k:Int),(k1:Int),0):aY)::aN (fun j (_:List UInt8)=>[(8,(i:Int),(k:Int),(k1:Int),(j:Int))]) (ns[k1]).2.2 0).length<=5:=by intro k1 O;have:=(N.dO _ (ae3 O)).2.2.1;rw[as5,rP];omega
       rw[eX ns (fun k1 (n:al)=>((7,(i:Int),(k:Int),(k1:Int),0):aY)::aN (fun j (_:List UInt8)=>[(8,(i:Int),(k:Int),(k1:Int),(j:Int))]) n.2.2 0) 5 10000000 (fun k1 acc=>(c,(i:Int),(k:Int),T,(T.length:Int),(k:Int),ns.map aO,((ns.map aO).length:Int),(k1:Int),acc,())) (fun acc=>(c,(i:Int),T,(T.length:Int),(k:Int),acc,())) az ?_ ?_ acc (by omega) ?st]
       case st=>rfl
       · simp only[ae2,D,F];rfl
       · intro k1 O acc Y;have D:=aH k1;have F: ∀{R:Type} (q:Option R),J (aa .i64 ((k1+1:Nat):Int)) q=q:=fun q=>aw (show k1+1<=4611686018427387904 by omega)
         have av:k1<(ns.map aO).length:=by grind
         have h4:=(N.dO _ (ae3 O)).2.2.1;have hf:(aO ns[k1]).2.2=(ns[k1]).2.2:=rfl;have inner:=eX (f:=IS) (v0:=(c,(i:Int),(k:Int),(k1:Int),T,(T.length:Int),(k:Int),ns.map aO,(ns.length:Int),(k1:Int),((ns[k1]).2.2.length:Int),0,acc++[(7,(i:Int),(k:Int),(k1:Int),0)],())) (ns[k1]).2.2 (fun j (_:List UInt8)=>[((8,(i:Int),(k:Int),(k1:Int),(j:Int)):aY)]) 1 100000000 (fun j acc=>(c,(i:Int),(k:Int),(k1:Int),T,(T.length:Int),(k:Int),ns.map aO,(ns.length:Int),(k1:Int),((ns[k1]).2.2.length:Int),(j:Int),acc,())) (fun acc=>(c,(i:Int),(k:Int),T,(T.length:Int),(k:Int),ns.map aO,(ns.length:Int),(k1:Int),acc,())) (fun j M=>ae5 _) ?_ ?_ (acc++[(7,(i:Int),(k:Int),(k1:Int),0)]) (by rw[as0,au7];omega) rfl
         · simp only[IQ,ae4,dY (show((k1:Nat):Int)<(ns.length:Int) by omega),cond_true,au av,au5,hf,ib (x:=((7,(i:Int),(k:Int),(k1:Int),0):aY)) (show acc.length<=999999999 by omega),inner,ae2,D,F]
           rw[List.append_assoc];rfl
         · intro j M acc Y;have D:=aH j;have F: ∀{R:Type} (q:Option R),J (aa .i64 ((j+1:Nat):Int)) q=q:=fun q=>aw (show j+1<=4611686018427387904 by omega)
           simp only[IS,dY (show((j:Nat):Int)<((ns[k1]).2.2.length:Int) by omega),cond_true,ib (x:=((8,(i:Int),(k:Int),(k1:Int),(j:Int)):aY)) (show acc.length<=999999999 by omega),D,F]
         · intro acc;simp only[IS,as2,decide_false,cond_false]
       · intro acc;simp only[IQ,ae4,as2,decide_false,cond_false]
   · rw[dN U,as4,cond_true,if_neg (by decide),at0]
 · intro acc;simp only[PA,as2,decide_false,cond_false]
def mU (A:List aq) (T:bf) (i:Nat) (e:bO):List aY:=(o7 i e++pf A i e)++n4 T i e
def iY (A:List aq) (R:List al) (T:bf):List aY:=r6 (fun i=>(1,(i:Int),0,0,0)) (fun i k=>(2,(i:Int),(k:Int),0,0)) R++aN (fun i (y:aq)=>mU A T i y.1) A 0
theorem L3 (A:List aq) (hA:A.length<=360) (T:bf) (hT:T.length<=60000) (i:Nat) (e:bO) (he:dD e):(mU A T i e).length<=2000+40*T.length:=by have h1:(o7 i e).length<=40:=K5 _ _ _ he.rY;have h2:=YL A i e.1;have F:=apP A i e.2.2.2.2.2.1;have D:=he.sn;have J:(n4 T i e).length<=40*T.length:=iU T 0 (fun j N=>Za i _ e he _);have M:=Nat.mul_le_mul hA D;unfold mU pf;simp[as0];omega
theorem RY (A:List aq) (hA:bu A) (R:List al) (hR:bM R) (T:bf) (hT:T.length<=60000):(iY A R T).length<=40+(2000+40*T.length)*A.length:=by have h1:=K5 (fun i=>(1,i,0,0,0)) (fun i k=>(2,i,k,0,0)) R hR;have h2:=iU (e:=fun i y=>mU A T i y.1) (m:=2000+40*T.length) A 0 (fun j D=>L3 A hA.many T hT _ _ (hA.cV _ (ae3 D)));unfold iY;rw[as0];omega
theorem anV (A:List aq) (hA:bu A) (c:pt) (hc:c.1=A.map bN) (hT:c.2.2.length<=400) (acc:List aY) (D:acc.length<=40):
  ab Jf (c,(c.1.length:Int),0,acc,())=some (acc++aN (fun i (y:aq)=>mU A c.2.2 i y.1) A 0,()):=by
 have hs:=hA.many;have hlen:c.1.length=A.length:=by grind
 refine eX A (fun i y=>mU A c.2.2 i y.1) 18000 40 (fun k acc=>(c,(c.1.length:Int),(k:Int),acc,())) (fun acc=>(acc,())) (fun k hk=>?_) ?_ ?_ acc D rfl
 · have:=L3 A hs c.2.2 (by omega) k _ (hA.cV _ (ae3 hk));omega
 · intro k hk acc D;have N:=aH k;have O: ∀{R:Type} (q:Option R),J (aa .i64 (k+1)) q=q:=fun q=>aw (by grind)
   have F:=L3 A hs c.2.2 (by omega) k _ (hA.cV _ (ae3 hk))
   unfold mU at F;simp_all;have c2:(acc++o7 k (A[k]).1).length+(pf A k (A[k]).1).length<=1000000000:=by grind
   have M:((acc++o7 k (A[k]).1)++pf A k (A[k]).1).length+(n4 c.2.2 k (A[k]).1).length<=1000000000:=by grind
   simp (disch:=omega) only[K0,Jf,Yv A hA c hc k hk,ZT A hA c hc k hk,aax A hA c hc (by omega) k hk]
   simp[mU]
 · simp[Jf,hlen]
def pG:aY->aY->Int:=fE (fun x y=>aP x.1 y.1) (fE (fun x y=>aP x.2.1 y.2.1) (fE (fun x y=>aP x.2.2.1 y.2.2.1) (fE (fun x y=>aP x.2.2.2.1 y.2.2.2.1) (fun x y=>aP x.2.2.2.2 y.2.2.2.2))))
theorem Ap:et pG:=(lL.on (fun x:aY=>x.1)).lex ((lL.on (fun x:aY=>x.2.1)).lex ((lL.on (fun x:aY=>x.2.2.1)).lex ((lL.on (fun x:aY=>x.2.2.2.1)).lex (lL.on (fun x:aY=>x.2.2.2.2)))))
theorem an6 {a b:aY} (h:pG a b=0):a=b:=by obtain⟨h1,h⟩:=oY h;obtain⟨h2,h⟩:=oY h;obtain⟨D,h⟩:=oY h;obtain⟨F,J⟩:=oY h;exact Prod.ext (gZ.1 h1) (Prod.ext (gZ.1 h2) (Prod.ext (gZ.1 D) (Prod.ext (gZ.1 F) (gZ.1 J))))
def MJ (a b c d e:Int):Int:=if a=0 then(if b=0 then(if c=0 then(if d=0 then e else d) else c) else b) else a
theorem or_eq (l:List Int) (D:l.length<=1000):Lb l=some ((l.find? fun x=> !decide (x=0)).getD 0):=by
 unfold Lb;have main:=tI (f:=D5) l (fun x=> !decide (x=0)) (fun k=>(0,l,l.length,k,())) (fun x=>.inr (x,())) (.inl (0,())) ?_ ?_ ?_
 · rw[kj main ?st]
   case st=>rfl
   cases(l.find? fun x=> !decide (x=0))<;>rfl
 · intro k hk hp;have hp:decide (l[k]=0)=true:=by rw[Bool.not_eq_false'] at hp;exact hp
   simp only[D5,dY (show(k)<(l.length:Int) by omega),cond_true,au hk,dY (of_decide_eq_true hp),ae8,cond_false,aw (show k+1<=4611686018427387904 by omega),aH]
 · intro k hk hp;have hp:decide (l[k]=0)=false:=by rw[Bool.not_eq_true'] at hp;exact hp
   simp only[D5,dY (show(k)<(l.length:Int) by omega),cond_true,au hk,dN (of_decide_eq_false hp),as4]
 · simp[D5]
theorem akM (a b c d e:Int):(([a,b,c,d,e].find? fun x=> !decide (x=0)).getD 0)=MJ a b c d e:=by
 unfold MJ;simp only[List.find?_cons];by_cases h1:a=0
 · grind
 · grind
theorem akT (a b:aY):qg a b=some (pG a b):=by unfold qg;simp only[zI,ae2];rw[or_eq _ (by simp),akM];rfl
theorem XG:il (fun _=>True) (fun x y=>qg x y) pG:=Ap.ok (fun x y _ _=>akT x y) (fun x y _ _ h=>an6 h)
def tV (l:List aY):Prop:=l.Pairwise fun x y=> ¬pG y x<0
theorem L2 (A:List aq) (hA:bu A) (R:List al) (hR:bM R) (hT:(ax A R).length<=400): ∃D,nK (bn A R)=some D/\D.Perm (iY A R (ax A R))/\tV D:=by
 have hs:=hA.many;have h1:(r6 (fun i=>(1,i,0,0,0)) (fun i k=>(2,i,k,0,0)) R).length<=40:=K5 _ _ R hR;have hlen:=RY A hA R hR (ax A R) (by omega)
 have hmul:(2000+40*(ax A R).length)*A.length<=18000*360:=Nat.mul_le_mul (by omega) hs
 obtain⟨o,N,F,O⟩:=ah1 XG (iY A R (ax A R)) (by simp) (by omega)
 refine⟨o,?_,F,O⟩;unfold nK;have J:=aoC (bn A R) R hR;rw[show(bn A R).2.1=R.map aO from rfl,J]
 have M:=anV A hA (bn A R) rfl hT _ h1;simp only[M,ae2];show(ya (iY A R (ax A R))).bind _=_;rw[N];exact ai F.length_eq.symm
def kA:Int->Int->Int:=fE (fun x y=>aP (x.natAbs:Int) (y.natAbs:Int)) aP
theorem Ak:et kA:=(lL.on (fun x:Int=>x.natAbs)).lex lL
theorem YU {a b:Int} (h:kA a b=0):a=b:=gZ.1 (oY h).2
theorem ZV {a b:Int}:aP a b<0<->a<b:=by grind[aP]
theorem Al {a b:Int}:ot a b=true<->kA a b<0:=by
 have hu:kA a b=if aP a.natAbs b.natAbs=0 then aP a b else aP a.natAbs b.natAbs:=rfl
 unfold ot;rw[hu,aw1,ae7,decide_eq_true_eq,decide_eq_true_eq,decide_eq_true_eq];by_cases e:a.natAbs=b.natAbs
 · rw[if_pos (gZ.2 (by omega)),ZV]
   omega
 · rw[if_neg (fun g=>e (by have:=gZ.1 g;omega)),ZV]
   omega
def oO (l:List Int):Prop:=l.Pairwise fun x y=>kA x y<0
theorem Sg {x z:Int}: ∀{l:List Int},z∈xd x l<->z=x\/z∈l
 |[]=>by show z∈[x]<->_;rw[List.mem_singleton];exact⟨.inl,fun h=>h.elim id (by simp)⟩
 |y::t=>by
  show z∈(if ot x y then x::y::t else if x=y then y::t else y::xd x t)<->_
  split
  · grind
  · split
    · grind
    · rw[at3,Sg];constructor
      · grind
      · grind
theorem Xz {x:Int}: ∀{l:List Int},oO l->oO (xd x l)
 |[],_=>List.pairwise_singleton _ _
 |y::t,h=>by
  obtain⟨h1,h2⟩:=List.pairwise_cons.1 h;show oO (if ot x y then x::y::t else if x=y then y::t else y::xd x t)
  by_cases e:ot x y=true
  · rw[if_pos e];have e:=Al.1 e;refine List.pairwise_cons.2 ⟨fun z D=>?_,h⟩;rcases at3.1 D with rfl |D
    · omega
    · have:=h1 z D;exact Ak.xN e (by omega)
  · rw[if_neg e];by_cases g:x=y
    · grind
    · rw[if_neg g];have F: ¬kA x y<0:=fun q=>e (Al.2 q);have J: ¬kA x y=0:=fun q=>g (YU q);have M:=Ak.neg x y;refine List.pairwise_cons.2 ⟨fun z D=>?_,Xz h2⟩;rcases Sg.1 D with rfl |D
      · omega
      · grind
theorem tC: ∀(l:List Int),oO (bV l)/\ ∀z,z∈bV l<->z∈l
 |[]=>⟨List.Pairwise.nil,fun z=>Iff.rfl⟩
 |x::t=>by obtain⟨h1,h2⟩:=tC t;refine⟨Xz h1,fun z=>?_⟩;show z∈xd x (bV t)<->_;rw[Sg,h2,at3]
theorem Mo {l m:List Int} (h1:oO m) (h2: ∀z,z∈m<->z∈l):m=bV l:=by obtain⟨a,b⟩:=tC l;exact J7 Ak h1 a fun z=>(h2 z).trans (b z).symm
theorem KV {α:Type} [DecidableEq α]: ∀{l m:List α},l.Nodup->(∀z∈l,z∈m)->l.length<=m.length
 |[],m,_,_=>Nat.zero_le _
 |x::t,m,J,h=>by
  obtain⟨h1,h2⟩:=List.nodup_cons.1 J;have D:=h x List.mem_cons_self;have e:=List.length_erase_of_mem D;have hp:=List.length_pos_of_mem D;have:=KV (m:=m.erase x) h2 (fun z F=>(List.mem_erase_of_ne (fun q=>h1 (by rw[<-q];exact F))).2 (h z (List.mem_cons_of_mem _ F)))
  rw[as5];omega
theorem nV (A:List aq) (R:List al):(bn A R).1=A.map bN:=rfl
section
variable (A:List aq) (hA:bu A) (R:List al) (hR:bM R) (hT:(ax A R).length<=400)
include hA
end
theorem ET:eO=some true:=by kernel_rfl
abbrev aV:=List UInt8×List UInt8
def eK (l:List aV) (t:aV):List aV:=if t∈l then l else l++[t]
def jk (s:List UInt8) (l:List aV) (D:List (List UInt8)):List aV:=D.foldl (fun l f=>eK l (s,f)) l
def eZ (l:List aV) (ns:List al):List aV:=ns.foldl (fun l n=>jk n.1 (eK l (n.1,[])) n.2.2) l
def cX (l:List aV):List (List UInt8):=(l.filter fun t=>decide (t.2=[])).map (·.1)
def ta (A:List aq) (s:List UInt8) (i:Int):Bool:=decide (0<=i)&&(match A[i.toNat]? with|some y=>decide (y.1.1=s) |none=>false)
def ei (A:List aq) (choice:List Int) (s:List UInt8):Int:=(choice.find? (ta A s)).getD (-1)
def mL (e:bO) (f:List UInt8):List al:=if f=[] then e.2.2.2.2.2.2.1 else((eP e f).map (·.2)).getD []
def eQ (A:List aq) (choice:List Int) (t:aV):List al:=match A[(ei A choice t.1).toNat]? with|some y=>if ei A choice t.1<0 then[] else mL y.1 t.2 |none=>[]
def k8 (A:List aq) (choice:List Int):Nat->Nat->List aV×List al->List aV×List al
 |0,_,s=>s
 |m+1,at_,s=>match s.1[at_]? with
  |none=>s
  |some t=>k8 A choice m (at_+1) (eZ s.1 (eQ A choice t),s.2++eQ A choice t)
def bS (A:List aq) (R:List al) (choice:List Int):List aV×List al:=k8 A choice 80000 0 (eZ [] R,R)
def Ck (x:aV) (n:al):Prop:=x.1=n.1/\(x.2=[]\/x.2∈n.2.2)
def qZ (A:List aq) (R:List al):List al:=R++A.flatMap fun y=>y.1.2.2.2.2.2.2.1++y.1.2.2.2.2.2.2.2.flatMap (·.2)
def Uw (A:List aq) (R:List al):List aV:=(qZ A R).flatMap fun n=>(n.1,[])::n.2.2.map fun f=>(n.1,f)
theorem apU {A:List aq} (hA:bu A) {R:List al} (hR:bM R):(qZ A R).length<=14408:=by
 have h1:=Fj A (fun(y:aq)=>y.1.2.2.2.2.2.2.1++y.1.2.2.2.2.2.2.2.flatMap (·.2)) 40 (fun y F=>by have he:=hA.cV y F;have h2:=Fj y.1.2.2.2.2.2.2.2 (fun(f:fv)=>f.2) 8 (fun f hf=>(he.lX f hf).2.1);have D:=he.iW;have J:=he.wJ;rw[as0];omega)
 have h2:=hA.many;have D:=hR.many;unfold qZ;rw[as0];omega
theorem F1 {A:List aq} (hA:bu A) {R:List al} (hR:bM R): ∀n∈qZ A R,nY 4 n:=by
 intro n D;rcases as3.1 D with h |h
 · exact hR.dO n h
 · obtain⟨y,F,h⟩:=List.mem_flatMap.1 h;have he:=hA.cV y F;rcases as3.1 h with h |h
   · exact he.dO n h
   · obtain⟨f,hf,h⟩:=List.mem_flatMap.1 h;exact(he.lX f hf).2.2 n h
theorem apT {A:List aq} (hA:bu A) {R:List al} (hR:bM R):(Uw A R).length<=72040:=by
 have h1:=Fj (qZ A R) (fun(n:al)=>((n.1,[]):aV)::n.2.2.map fun f=>(n.1,f)) 5 (fun n D=>by have:=(F1 hA hR n D).2.2.1;rw[as5,ae4];omega)
 have h2:=apU hA hR;unfold Uw;omega
theorem apS {A:List aq} {R:List al} {x:aV} {n:al} (D:n∈qZ A R) (h:Ck x n):x∈Uw A R:=by
 refine List.mem_flatMap.2 ⟨n,D,?_⟩;rcases h with⟨h1,h2 |h2⟩
 · rw[show x=(n.1,[]) from Prod.ext h1 h2];exact .head _
 · exact .tail _ (List.mem_map.2 ⟨x.2,h2,Prod.ext h1.symm rfl⟩)
theorem akD {A:List aq} {R:List al} {y:aq} (F:y∈A) (f:List UInt8): ∀n∈mL y.1 f,n∈qZ A R:=by
 intro n D;refine as3.2 (.inr (List.mem_flatMap.2 ⟨y,F,?_⟩));unfold mL at D;split at D
 · exact as3.2 (.inl D)
 · cases hf:eP y.1 f with
   |none=>rw[hf] at D;cases D
   |some k=>rw[hf] at D;exact as3.2 (.inr (List.mem_flatMap.2 ⟨_,ES hf,D⟩))
theorem anR {A:List aq} {R:List al} (choice:List Int) (t:aV): ∀n∈eQ A choice t,n∈qZ A R:=by
 intro n D;unfold eQ at D;split at D
 · rename_i y F;split at D
   · cases D
   · exact akD (List.mem_of_getElem? F) _ n D
 · cases D
structure lq (A:List aq) (R:List al) (choice:List Int) (at_:Nat) (s:List aV×List al):Prop where
 once:s.1.Nodup
 named: ∀x∈s.1,∃n∈s.2,Ck x n
 back: ∀n∈s.2,∀x,Ck x n->x∈s.1
 roots: ∀n∈R,n∈s.2
 src: ∀n∈s.2,n∈R\/ ∃t∈s.1,n∈eQ A choice t
 done: ∀j x,j<at_->s.1[j]? =some x-> ∀n∈eQ A choice x,n∈s.2
 ind: ∀P:aV->Prop,(∀n∈R,∀x,Ck x n->P x)->(∀t,P t-> ∀n∈eQ A choice t,∀x,Ck x n->P x)-> ∀x∈s.1,P x
 Cn:s.2.length<=8+8*at_
 place:at_<=s.1.length
variable {A:List aq} {R:List al} {choice:List Int} {at_:Nat} {s:List aV×List al}
theorem lq.all (h:lq A R choice at_ s): ∀n∈s.2,n∈qZ A R:=by
 intro n D;rcases h.src n D with q |⟨t,_,q⟩
 · exact as3.2 (.inl q)
 · exact anR choice t n q
theorem lq.len (hA:bu A) (hR:bM R) (h:lq A R choice at_ s):s.1.length<=72040:=
 au2 (KV h.once fun x F=>by obtain⟨n,D,e⟩:=h.named x F;exact apS (h.all n D) e) (apT hA hR)
end
end Go.Proofs.YtejhifnjgoclpaaGreatDoor.Fx
section
namespace Go.Proofs.YtejhifnjgoclpaaGreatDoor.Fx
open Go.RowKit
noncomputable section
variable {A:List aq} {R:List al} {c:List Int}
structure Good (A:List aq) (R:List al) (c:List Int):Prop where
 met: ∀n∈(bS A R c).2,∃k,∃h:k<A.length,ei A c n.1=(k:Int)/\gj (dU n.2.1) (aR (A[k]).1.2.1)=true
 lX: ∀t∈(bS A R c).1,t.2≠[]-> ∀k,∀h:k<A.length,ei A c t.1=(k:Int)->eP (A[k]).1 t.2≠none
 pJ: ∀k,∀h:k<A.length,(k:Int)∈c-> ∀b∈(A[k]).1.2.2.2.2.2.1,∀j,∀h:j<A.length,ei A c b.1=(j:Int)->gj (dU b.2.1) (aR (A[j]).1.2.1)=false
variable (hA:bu A) (hR:bM R) (hc:c.length<=1000000) (hG:Good A R c)
include hA hR hc
include hG
end
end Go.Proofs.YtejhifnjgoclpaaGreatDoor.Fx
end
namespace Go.Proofs.YtejhifnjgoclpaaGreatDoor.Fx
open Go.RowKit
set_option maxRecDepth 1000000
noncomputable section
variable {A:List aq} {R:List al} {c:List Int}
def vw (A:List aq) (c:List Int):Prop:= ∀i∈c,∃k,k<A.length/\i=(k:Int)
variable {A:List aq} {R:List al} {c:List Int}
structure l7 (A:List aq) (R:List al) (c:List Int):Prop where
 vi:vw A c
 acX: ∀i,∀h:i<c.length,0<i-> ∀k,∀hk:k<A.length,c[i]=(k:Int)-> ∀j,∀hj:j<A.length,c[i - 1]'(by omega)=(j:Int)->j<k/\(A[k]).1.1≠(A[j]).1.1
 aJ:Good A R c
 asked: ∀k,∀h:k<A.length,(k:Int)∈c->(A[k]).1.1∈cX (bS A R c).1
variable {A:List aq} {R:List al} {c:List Int}
theorem l7.lt (h:l7 A R c): ∀b,∀J:b<c.length,∀a,a<b-> ∀F:a<c.length,∀k,∀hk:k<A.length,c[a]=(k:Int)-> ∀j,∀N:j<A.length,c[b]=(j:Int)->k<j:=by
 intro b
 induction b with
 |zero=>intro _ a U;omega
 |succ b Y=>
  intro J a U F k hk e j N O;obtain⟨i,M,D⟩:=h.vi _ (ae3 (show b<c.length by omega))
  have h1:=(h.acX (b+1) J (by omega) j N O i M D).1
  by_cases q:a=b
  · subst q;omega
  · have:=Y (by omega) a (by omega) F k hk e i M D
    omega
theorem aa7 (hA:bu A) {i j:Nat} (F:i<=j) (D:j<A.length): ¬cC (A[j]).1.1 (A[i]'(by omega)).1.1<0:=by
 by_cases e:i=j
 · subst e;rw[Fp];decide
 · exact List.pairwise_iff_getElem.1 hA.rows i j (by omega) D (by omega)
theorem l7.name (hA:bu A) (h:l7 A R c) {i j:Nat} (U:i<A.length) (D:j<A.length) (Z:(i:Int)∈c) (mj:(j:Int)∈c) (e:(A[i]).1.1=(A[j]).1.1): ¬i<j:=by
 intro an;obtain⟨a,N,J⟩:=au8 Z;obtain⟨b,O,M⟩:=au8 mj
 have ah:a<b:=by
  rcases Nat.lt_trichotomy a b with q |q |q
  · exact q
  · subst q;omega
  · have:=h.lt a N b q O j D M i U J;omega
 obtain⟨k,hk,F⟩:=h.vi _ (ae3 (show b - 1<c.length by omega))
 obtain⟨h1,h2⟩:=h.acX b O (by omega) j D M k hk F
 have Y:i<=k:=by
  by_cases q:a=b - 1
  · subst q;omega
  · have:=h.lt (b - 1) (by omega) a (by omega) N i U J k hk F;omega
 have q1:=aa7 hA Y hk;have q2:=aa7 hA (show k<=j by omega) D
 rw[e] at q1;have n1:=Aq.neg (A[k]).1.1 (A[j]).1.1;exact h2 (qv (show cC (A[j]).1.1 (A[k]).1.1=0 by omega))
section
open Go.Sort
theorem ap2:Ge=cT:=by funext x y;unfold Ge;rw[Dk,Dk];exact(Lc x y).symm
theorem alZ (x y:Want):ltOf cT x y=uh x y:=by
 unfold ltOf;cases h:uh x y with
 |true=>exact decide_eq_true (Rf.1 h)
 |false=>exact decide_eq_false (fun g=>by rw[Rf.2 g] at h;cases h)
theorem et.swo {α:Type} {c:α->α->Int} (hc:et c):SWO (ltOf c):=by
 refine⟨fun x=>?_,fun x y z h1 h2=>?_,fun x y z h1 h2=>?_⟩
 · exact decide_eq_false (by rw[hc.self x];decide)
 · exact decide_eq_true (hc.xN (of_decide_eq_true h1) (by have:=of_decide_eq_true h2;omega))
 · have h1:=of_decide_eq_false h1;have h2:=of_decide_eq_false h2;have D:=hc.neg x y;have F:=hc.neg y z;have J:=hc.neg x z;have:=hc.tr z y x (by omega) (by omega)
   exact decide_eq_false (by omega)
theorem anX (args:Array Value) (w:World):(callFunc 47 args).run Tryz.prog w=.ok (.enter 47 args) w:=
 Go.MuLone.run_callFunc_enter Tryz.func47 (by kernel_rfl) rfl args w
noncomputable def aj6:dh Tryz.prog:=mkB 46 ⟨[(0,.c (.own 1000)),(1,.fn 47 [] [])],[(1000,.row 81 (.pair .str .str))]⟩ [(false,⟨[],[(1000,.row 81 (.pair .str .str))]⟩)] (fun r=>(r,())) (fun x=>vV x.1) (by kernel_rfl) (fun x o h0=>by
 obtain⟨l,u⟩:=x;have h:vV l=some o:=h0;unfold vV at h;split at h
 · rename_i F;obtain rfl:sf l=o:=Option.some.inj h;have:=amX Tryz.ark (t:=.pair .str .str) rfl (by decide) Tryz.isAgg81 Tryz.sizeOf81 cT ke.swo 47 anX (fun dS off size w m os D _ x y=>by rw[<-ap2];exact ann x y _) (fun x y h1 h2=>by have h1:=of_decide_eq_false h1;have h2:=of_decide_eq_false h2;have:=ke.neg x y;exact KT (by omega)) 81 l (by omega)
   rw[show(fun x y=> !(ltOf cT) y x)=fun x y=> !uh y x from by funext x y;rw[alZ]] at this
   exact this
 · cases h)
end
section
open Go.Sort
def Mz (w:World) (c:List Int) (e:Ending) (w':World):Prop:= ∃g D,e=.returned (.slice (some ⟨g,0,none⟩) c.length D)/\mo w' w.heap.size g D c/\Below w.heap.size w w'
theorem amk (ad:Addr) (cap:Nat) (w:World):Calls Tryz.prog 131 #[.slice (some ad) 0 cap] w (Mz w []):=by refine(Tryz.slices_Clone_int_zero ad cap w).mono ?_;rintro e w' ⟨v',rfl,M,J,F⟩;obtain⟨g,D,rfl,hO⟩:=Mk (l:=[]) M J;exact⟨g,D,rfl,hO,F⟩
theorem akZ (b off cap:Nat) (c:List Int) (w:World) (N:c.length<=1000000) (hc: ∀j,j<c.length->w.cell? ⟨b,off+j,none⟩=some (.int .i64 (c.getD j 0))):
  Calls Tryz.prog 131 #[.slice (some ⟨b,off,none⟩) c.length cap] w (Mz w c):=by
 refine(Tryz.slices_Clone_int b off c.length cap c w (ae5 _) (by omega) hc).mono ?_
 rintro e w' ⟨v',rfl,D,M,J⟩;rw[List.take_length] at D;obtain⟨g,F,rfl,hO⟩:=Mk D M;exact⟨g,F,rfl,hO,J⟩
theorem ans (w:World):Calls Tryz.prog 58 #[.slice none 0 0] w fun e w'=>e=.returned (.slice none 0 0)/\w=w':=by
 go_enter Tryz.func58,Tryz.ntmps58
 go_wp2_with fail
 refine(Tryz.slices_Clone_int_nil 0 0 _).mono ?_;rintro e w1 ⟨rfl,rfl⟩
 go_wp2_with fail
 refine(AnyF.slices_SortFunc_none {Tryz.abX with} none 0 _ _).mono ?_
 rintro e w1 ⟨rfl,rfl⟩
 go_wp2_with fail
 refine(Tryz.slices_Compact_int_empty none 0 _).mono ?_;rintro e w1 ⟨rfl,rfl⟩
 go_wp2_with fail
 refine(apH _).mono ?_;rintro e w1 ⟨rfl,rfl⟩
 go_wp2_with fail
 go_ret
 exact⟨rfl,rfl⟩
theorem alU (ad:Addr) (cap:Nat) (c:List Int) (w:World) (hcl:Calls Tryz.prog 131 #[.slice (some ad) c.length cap] w (Mz w c)) (hlen:c.length<=1000000):
  Calls Tryz.prog 58 #[.slice (some ad) c.length cap] w fun e w'=> ∃g cp,e=.returned (.slice (some ⟨g,0,none⟩) (ll c).length (ll c).length)/\mo w' w.heap.size g cp (ll c)/\Below w.heap.size w w':=by
 have HC:=Lib.hid hcl;clear hcl
 go_enter Tryz.func58,Tryz.ntmps58
 go_wp2_with fail
 refine HC.out.mono ?_;rintro e w1 ⟨g,cp,rfl,ho,hb⟩;have HO:=Lib.hid ho;have HB:=Lib.hid hb;clear ho hb
 go_wp2_with fail
 refine(aos w.heap.size g cp c _ HO.out hlen w HB.out).mono ?_;rintro e w2 ⟨rfl,ho,hb⟩;have HO2:=Lib.hid ho;have HB2:=Lib.hid hb;have e1:(lh c).length=c.length:=Qf c;clear ho hb
 go_wp2_with fail
 have hc:=akV w.heap.size g cp (lh c) _ HO2.out w HB2.out;rw[e1] at hc;refine hc.mono ?_;clear hc;rintro e w3 ⟨rfl,ho,hb⟩;have HO3:=Lib.hid ho;have HB3:=Lib.hid hb;clear ho hb
 go_wp2_with fail
 refine(apI g _ cp _ HO3.out.sx HO3.out.mx).mono ?_;rintro e w4 ⟨rfl,rfl⟩
 go_wp2_with fail
 go_ret
 exact⟨g,cp,rfl,HO3.out,HB3.out⟩
theorem QY {l:List Int} (h: ∀x∈l,-1000000<=x/\x<=1000000):ll l=bV l:=by
 obtain⟨h1,h2⟩:=alT l;refine Mo ?_ h2
 have F: ∀x∈ll l,gv x=(x.natAbs:Int):=fun x N=>by
  have:=h x ((h2 x).1 N);unfold gv;rw[IntWalk.i64_in _ (by omega)]
  omega
 refine List.Pairwise.imp_of_mem (fun{a b} J M D=>?_) h1;refine Al.1 ?_;unfold pI at D;rw[F a J,F b M] at D;unfold ot;rw[aw1,ae7,decide_eq_true_eq,decide_eq_true_eq,decide_eq_true_eq];omega
theorem apf {c:Cx} {h:Hp} {w:World} {xs:List Value} {l:List Int} (D:ay (CR c h w) xs (aT (.int .i64) l)):xs=l.map (Value.int .i64):=by
 refine AD D ?_;clear D
 induction l with
 |nil=>rfl
 |cons x l F=>show fF (.v (.int .i64) x::aT (.int .i64) l)=_;unfold fF;rw[show sy (.v (.int .i64) x)=some (.int .i64 x) from rfl,F];rfl
theorem aqr (l:List Int) (U:l.length<=1000000):fo Tryz.prog 58 [.c (.ow 1000 0 .all)] [(1000,.row [] 3 (.int .i64) l)] (.ret (.c (.v (.sl (.int .i64)) (ll l))) [(1000,.row [] 3 (.int .i64) l)]):=by
 intro c w vals hC hv;obtain⟨v0,rfl,e0⟩:=As hv;have ho:aj [(1000,aX.row [] 3 (.int .i64) l)] 1000=some (.row [] 3 (.int .i64) l):=rfl;obtain⟨_,_,_,_,M⟩:=iJ (w:=w) (H:=[(1000,aX.row [] 3 (.int .i64) l)]) (fun _ _ h=>h) (show rowAt [(1000,aX.row [] 3 (.int .i64) l)] 1000 0=some (.row [] 3 (.int .i64) l) from rfl) e0
 have M:v0=c.m 1000:=M;subst M;obtain⟨_,xs,J,ah⟩:=(hC.obj 1000 _ ho).row rfl;obtain rfl:=apf ah;have J:dZ w 3 1 (c.m 1000) l.length (l.map (Value.int .i64)):=J
 have fin: ∀w' g D,mo w' w.heap.size g D (ll l)->Below w.heap.size w w'-> ∃c',ve (dW w c (aj [(1000,.row [] 3 (.int .i64) l)])) (.returned (.slice (some ⟨g,0,none⟩) (ll l).length (ll l).length)) c' w' (.ret (.c (.v (.sl (.int .i64)) (ll l))) [(1000,.row [] 3 (.int .i64) l)]):=fun w' g D hO hB=>by
  obtain⟨g1,g2⟩:=hC.Gw (iB.tO hB) (fun b i=>c.A b i\/b=g) (fun b i h=>.inl h) (fun b i h=>h.elim .inl (fun h=>.inr (by rw[h];exact⟨hO.bg,hO.lt⟩)))
  refine⟨_,_,rfl,g1,rfl,_,_,rfl,.inr ⟨ae5 _,au2 hO.sx hO.mx,g,0,rfl,fun i x Y=>⟨.inr rfl,?_⟩⟩⟩;have N:=(av7.1 Y).1;have:=(hO.holds i (by simpa using N)).1
  rw[show 0+(i*wid (.int .i64)+0)=0+i by simp [wid],this]
  simp [N,(av7.1 Y).2]
 have Z: ∀ad cap,c.m 1000=.slice (some ad) l.length cap->Calls Tryz.prog 131 #[.slice (some ad) l.length cap] w (Mz w l)->Calls Tryz.prog 58 #[c.m 1000] w fun e w'=> ∃c',ve (dW w c (aj [(1000,.row [] 3 (.int .i64) l)])) e c' w' (.ret (.c (.v (.sl (.int .i64)) (ll l))) [(1000,.row [] 3 (.int .i64) l)]):=fun ad cap e h=>by rw[e];refine(alU ad cap l w h U).mono ?_;rintro e w' ⟨g,D,rfl,h1,h2⟩;exact fin w' g D h1 h2
 rcases J with⟨a,e,h0,_⟩ |⟨g,cap,cur,e,h1,h2,h3,h4,h5⟩
 · have F:l=[]:=List.length_eq_zero_iff.1 h0;cases a with
   |none=>
    show Calls Tryz.prog 58 #[c.m 1000] w _;rw[e];refine(ans w).mono ?_;rintro e w' ⟨rfl,rfl⟩;subst F;refine⟨c,_,rfl,hC,rfl,none,0,?_,.inl ?_⟩
    · rw[show ll []=[] from QY (l:=[]) (fun x h=>by cases h)];rfl
    · exact QY (l:=[]) (fun x h=>by cases h)
   |some ad=>
    refine Z ad 0 (by rw[e,F];rfl) ?_
    rw[F];exact amk ad 0 w
 · refine Z _ _ e (akZ g 0 (cap+1) l w U (fun j O=>?_));have an:j<cur.size:=by omega
   have g4:cur[j]? =some (.int .i64 l[j]):=by
    have:=congrArg (·[j]?) h5
    simpa[List.getElem?_take_of_lt,O] using this
   rw[Nat.zero_add];show(World.cell? w ⟨g,j,none⟩)=_;simp only[World.cell?,h1];rw[g4];simp [List.getD_eq_getElem?_getD,O]
noncomputable def ajX:dh Tryz.prog:=mkB 58 ⟨[(0,.c (.own 1000))],[(1000,.row 3 (.int .i64))]⟩ [(false,⟨[(2,.c (.v (.sl (.int .i64))))],[(1000,.row 3 (.int .i64))]⟩)] (fun r=>(r.1,r.2,())) (fun x=>mC x.1) (by kernel_rfl) (fun x o h0=>by
 obtain⟨l,u⟩:=x;have h:mC l=some o:=h0;unfold mC at h;split at h
 · rename_i D;obtain rfl:(bV l,l)=o:=Option.some.inj h;rw[ae7,decide_eq_true_eq] at D;have hk: ∀x∈l,-1000000<=x/\x<=1000000:=fun x F=>by have:=List.all_eq_true.1 D.1 x F;rw[ae7,decide_eq_true_eq,decide_eq_true_eq] at this;exact this
   have:=aqr l D.2;rw[QY hk] at this;exact this
 · cases h)
end
abbrev FS:=dh Tryz.prog
noncomputable def mkG (G:List FS) (D:List (Nat×bE)) (f:FuncId) (aF:Shape) (outs:List (Bool×Shape)) {A:Type} (F:cv aF->Option A) (g:JU outs->A:=by exact fun o=>o.1) (h:A->JU outs:=by exact fun r=>(r,())) (M: ∀o,h (g o)=o:=by exact fun _=>rfl) (fm:pB aF outs=true:=by kernel_rfl) (J: ∀x,A7 Tryz.prog G D f aF outs g x=F x:=by intro x;kernel_rfl):FS:=mkF G D f aF outs g h M F fm J
noncomputable def mkHh (G:List FS) (D:List (Nat×bE)) (f:FuncId) (aF:Shape) (outs:List (Bool×Shape)) {A:Type} (g:JU outs->A) (h:A->JU outs) (M: ∀o,h (g o)=o) (F:cv aF->Option A) (fm:pB aF outs=true:=by kernel_rfl) (J: ∀x,A7 Tryz.prog G D f aF outs g x=F x:=by intro x;kernel_rfl):FS:=mkF G D f aF outs g h M F fm J
abbrev sQ:Ty:=.sl .str
abbrev eF:Ty:=.int .i64
abbrev Ob:Ty:=.pair eF (.pair eF eF)
abbrev OT:Ty:=.pair Ob .str
abbrev uW:Ty:=.pair eF OT
abbrev s6:Ty:=.sl uW
abbrev oL:Ty:=.pair .str (.pair (.sl s6) sQ)
abbrev pS:Ty:=.sl oL
abbrev u6:Ty:=.pair .str pS
abbrev xD:Ty:=.int .u64
abbrev jZ:Ty:=.pair .str (.pair OT (.pair xD (.pair (.int .u32) (.pair .bool (.pair pS (.pair pS (.sl u6)))))))
abbrev Ht:Ty:=.pair .str sQ
abbrev kN:Ty:=.pair .str Ht
abbrev rb:Ty:=.sl kN
abbrev s8:Ty:=.pair .str rb
abbrev xU:Ty:=.pair .str (.pair .str (.pair .str (.pair .str (.pair .bool (.pair rb (.pair rb (.sl s8)))))))
abbrev Cu:Ty:=.pair .str (.int .u32)
abbrev Cy:Ty:=.pair .str (.sl xD)
abbrev B7:Ty:=.pair .str OT
abbrev xV:Ty:=.pair .str (.pair eF sQ)
abbrev vq:Ty:=.pair .str (.pair (.gB .f64) .bool)
abbrev Cs:Ty:=.pair (.sl vq) (.pair (.sl xV) (.pair (.sl B7) (.pair (.sl Cy) (.sl Cu))))
abbrev cI:Sh:=.v eF
abbrev aW:SS:=.c cI
abbrev vu:Ty:=.pair eF (.pair eF Ob)
abbrev ml:Ty:=.sl eF
abbrev te:Ty:=.pair eF (.pair sQ ml)
abbrev jB:Ty:=.pair .str .str
abbrev Hq:Ty:=.pair xU (.pair .str eF)
abbrev xT:Ty:=.sl Hq
abbrev bj:Sh:=.v .str
abbrev vr:SO:=.st 231 (.pair te (.pair eF Ob))
abbrev sO:Ty:=.sl jB
abbrev p7:Ty:=.pair jZ .str
abbrev Cr:Ty:=.ptr (.pair (.sl p7) (.pair pS sO))
abbrev jw:SO:=.row 165 oL
abbrev U5:SO:=.st 297 (.pair te eF)
abbrev sP:Sh:=.v .bool
abbrev HH:Sh:=.v (.int .u32)
abbrev NZ:List Sh:=[bj,.own 1001]
abbrev OS:List (Nat×SO):=[(1000,.var 320 NZ),(1001,.bI 150 jZ [bj,cI,cI,cI,bj,.v xD,HH,sP,.own 5002,.own 5003,.own 5004]),(1020,U5),(5002,jw),(5003,jw),(5004,.bI 154 u6 [bj,.own 5005]),(5005,jw)]
abbrev xA:SO:=.row 317 Cu
abbrev xB:SO:=.row 418 Cy
abbrev xG:SO:=.row 411 B7
abbrev xC:SO:=.row 405 xV
abbrev xz:SO:=.row 337 vq
abbrev BE:Sh:=.own 1002
abbrev Ie:List Sh:=[.own 1001,BE,.own 1003,.own 1004,.own 1005]
abbrev N1:Nat×SO:=(1000,.var 101 Ie)
abbrev Q_s:List (Nat×SO):=[N1,(1001,xz),(1002,xC),(1003,xG),(1004,xB),(1005,xA),(1020,U5)]
abbrev fZ:Nat×SO:=(1000,U5)
abbrev eV:SS:=.c (.v ml)
abbrev gX:SS:=.c sP
abbrev uS:Ty:=.pair p7 eF
abbrev vp:SO:=.row 240 uS
abbrev sU:SO:=.row 81 jB
abbrev dJ:SO:=.row 9 .str
abbrev dI:SO:=.row 3 eF
abbrev Cg:Sh:=.v (.sl p7)
abbrev BG:List Sh:=[.dead,.dead]
abbrev Ot:List Sh:=(.dead::BG)
abbrev U4:SO:=.var 297 (.dead::Ot)
abbrev VM:List (Nat×SO):=[(1001,xz),(1002,xC),(1003,xG),(1004,xB),(1005,xA),(1020,U4)]
abbrev B6:Ty:=.pair .str jB
abbrev OR:Ty:=.pair (.sl B6) (.pair rb (.pair sO (.pair (.sl Ht) sO)))
abbrev s7:Sh:=.v sO
abbrev GK:Sh:=.v (.sl Ht)
abbrev iD:Sh:=.v rb
abbrev rG:SO:=.var 110 [.v (.sl B6),iD,s7,GK,s7]
abbrev Vs:SO:=.bI 150 jZ (.dead::.dead::.dead::.dead::.dead::.dead::.dead::.dead::Ot)
abbrev Ig:List (Bool×Shape):=[(false,⟨[],OS⟩),(true,⟨[],[(1000,.var 320 BG),(1001,Vs),(1020,U4),(5002,jw),(5003,jw),(5004,.bI 154 u6 BG),(5005,jw)]⟩)]
abbrev cm:Nat×SS:=(0,.c (.ptr 1000 0))
abbrev lJ:Nat×SO:=(1000,U4)
abbrev kO:SO:=.var 38 [.v xT,iD,s7]
abbrev cF:List (Nat×Nat):=[(1000,1000)]
abbrev dT:SS:=.c bj
abbrev ra:List (Nat×SS):=[(4,gX)]
abbrev di:List (Bool×Shape):=[(false,⟨ra,[]⟩)]
abbrev oN:Sh:=.v sQ
abbrev bR:Nat×SS:=(2,.c (.ptr 2 0))
abbrev vv:Ty:=.pair eF (.pair eF (.pair eF sQ))
abbrev nu:Nat×Nat:=(1000,1020)
abbrev bq:List (Nat×Nat):=[nu]
abbrev oB:SO:=.row 392 jB
abbrev uT:SO:=.row 449 Ht
abbrev NY:SO:=.row 349 B6
abbrev Cw:List (Nat×SO):=[(1001,NY),(1002,.row 347 kN),(1003,oB),(1004,uT),(1005,oB)]
abbrev cE:Nat×SS:=(0,.c (.own 1000))
abbrev fe:List (Nat×SS):=[(4,aW)]
abbrev dA:List (Bool×Shape):=[(false,⟨fe,[]⟩)]
abbrev Hk:List (EK×Shape):=[(.ret,⟨fe,[]⟩)]
abbrev vd:EK×Shape:=(.normal,⟨[],[]⟩)
abbrev lI:Nat×bE:=(13,{cut:=(vd::Hk)})
abbrev cK:Nat×SS:=(3,.c (.ptr 3 0))
abbrev eM:Nat×SS:=(5,.c (.ptr 5 0))
abbrev dH:Nat×SS:=(0,dT)
abbrev cJ:Shape:=⟨[dH],[]⟩
abbrev Ct:List (Nat×SO):=[(1001,NY),(1002,.row 347 kN),(1003,oB),(1004,uT),(1005,oB),(1020,vr)]
abbrev oM:List (Nat×bE):=[(6,{ow:=[9],ps:=[(9,cF)]}),(250,{ow:=[23],ps:=[(23,cF)]})]
abbrev ga:Nat×SS:=(4,.c (.ptr 4 0))
abbrev Cf:List Sh:=[cI,cI,cI]
abbrev nv:SO:=.var 119 Cf
abbrev pY:List Sh:=[.nil,.nil]
abbrev Hi:SO:=.var 214 (cI::pY)
abbrev OW:List (Nat×SO):=[(4,Hi),(5,nv),(6,.var 214 [cI,.own 101,.own 108]),(101,dJ),(108,dI)]
abbrev G5:Nat×SO:=(5,.var 89 Cf)
abbrev OV:List (Nat×SO):=[(4,.var 291 (cI::pY)),G5,(6,.var 291 [cI,.own 85,.own 92]),(85,dJ),(92,dI)]
abbrev ju:SO:=.row 59 vu
abbrev gY:List (Nat×SO):=[(1000,ju)]
abbrev HF:SO:=.var 231 (cI::oN::.v ml::cI::Cf)
abbrev Q_6:List (Nat×SO):=[(1001,NY),(1002,.row 347 kN),(1003,oB),(1004,uT),(1005,oB),(1020,HF)]
abbrev gD:List (Bool×Shape):=[(false,⟨[(2,gX)],[]⟩)]
abbrev jC:SO:=.row 191 kN
abbrev Vv:List (Nat×SO):=[N1,(1001,xz),(1002,xC),(1003,xG),(1004,xB),(1005,xA),(1020,.var 297 [cI,oN,.v ml,cI])]
abbrev aec:List (Nat×SO):=[(5102,jw),(5103,jw),(5104,.bI 154 u6 [bj,.own 5105]),(5105,jw)]
abbrev aeI:Nat×SO:=(1101,.bI 150 jZ [bj,cI,cI,cI,bj,.v xD,HH,sP,.own 5102,.own 5103,.own 5104])
abbrev Vu:List (Nat×SO):=((1100,.var 320 [bj,.own 1101])::aeI::aec)
abbrev jc:Nat×SS:=(1,.c (.ptr 1020 0))
abbrev Hv:SS:=.st Ob
abbrev lD:SS:=.fn 107 [] [.v (.ptr Cs)]
abbrev Ou:SS:=.st (.pair xT (.pair rb sO))
abbrev Hu:List (Nat×SO):=[(1022,.var 9 [bj])]
abbrev sR:Sh:=.v (.sl s6)
abbrev NU:List (Nat×SS):=[(16,aW),(17,aW)]
abbrev eu:SS:=.c oN
abbrev lA:Nat×SS:=(10,aW)
abbrev nk:Nat×SS:=(9,aW)
abbrev jx:SS:=.c (.v pS)
abbrev GZ:Nat×SS:=(3,.c (.own 27))
abbrev xr:List (Nat×SS):=[nk,lA]
abbrev adG:Shape:=⟨(GZ::(8,jx)::xr),[(27,sU)]⟩
abbrev aeU:List (Nat×bE):=[(58,{pre:=[.dz 3 27 (.row [] 81 jB [])],loop:=some adG}),(7475,{cut:=[(.normal,adG)]}),(14950,{loop:=some ⟨(GZ::eM::(8,jx)::nk::lA::(15,eu)::NU),[(5,.var 165 [bj,sR,oN]),(27,sU)]⟩})]
abbrev fI:Nat×SS:=(6,.c (.ptr 6 0))
abbrev Ce:List Sh:=[bj,bj,bj,bj,sP,.own 1001,BE,.own 1003]
abbrev jv:Nat×SS:=(1,.c (.own 1020))
abbrev uP:SS:=.c (.v Cr)
abbrev gP:Nat×SS:=(0,uP)
abbrev uX:Ky:=.u [3] false
abbrev rl:Ky:=.u [2] false
abbrev oA:Ky:=.q [5]
abbrev u9:bE:={kf:=[(1,oA),(2,rl),(3,uX)]}
abbrev nx:SS:=.c (.kb false)
abbrev GP:Sh:=.v (.sl Cu)
abbrev GO:Sh:=.v (.sl Cy)
abbrev GL:Sh:=.v (.sl B7)
abbrev BS:Sh:=.v (.sl xV)
abbrev Oq:SO:=.var 101 [.v (.sl vq),BS,GL,GO,GP]
abbrev pV:SS:=.c (.v xT)
abbrev aen:List (Nat×SO):=[(1201,xz),(1202,xC),(1203,xG),(1204,xB),(1205,xA)]
abbrev Vk:Nat×SO:=(1200,.var 101 [.own 1201,.own 1202,.own 1203,.own 1204,.own 1205])
abbrev Hy:SO:=.var 4 [sP]
abbrev oC:Nat×SO:=(1100,Hy)
abbrev Vt:List (Nat×SO):=(oC::Vk::aen)
abbrev dy:Nat×SS:=(1,dT)
abbrev kH:Shape:=⟨[dH,dy],[]⟩
abbrev nn:List (Nat×SS):=[(8,aW)]
abbrev sZ:Nat×SS:=(7,aW)
abbrev gR:List (Nat×SS):=(sZ::nn)
abbrev bW:Nat×SS:=(1,aW)
abbrev HI:List (Nat×Nat):=[(1000,1040),(1001,1041),(1002,1042),(1003,1043),(1004,1044),(1005,1045),(1020,1000)]
abbrev jW:SS:=.c (.v xD)
abbrev Oa:SO:=.var 101 (.dead::.dead::Ot)
abbrev Hz:List (Bool×Shape):=[(false,⟨[],Q_s⟩),(true,⟨[],((1000,Oa)::VM)⟩)]
abbrev pX:SO:=.var 286 [cI,cI,cI,oN]
abbrev ny:SO:=.var 145 [cI,cI,cI,bj]
abbrev pW:List (Bool×Shape):=[(true,⟨[],[lJ]⟩)]
abbrev gQ:List (Nat×SO):=[(1000,vp)]
abbrev bh:Ky:=.q []
abbrev jV:SS:=.c (.v (.sl te))
abbrev jU:Nat×SS:=(6,aW)
abbrev mg:List (Nat×SS):=[jU]
abbrev Hx:Shape:=⟨mg,[]⟩
abbrev dp:Nat×SS:=(2,aW)
abbrev eB:List (Nat×SS):=[(5,aW)]
abbrev Ow:List (Nat×Nat):=[(1000,1000),(1001,1001),(1020,1020),(5002,5002),(5003,5003),(5004,5004),(5005,5005)]
abbrev xu:Nat×SO:=(1002,jC)
abbrev Vw:SO:=.var 134 (bj::bj::bj::bj::.kb false::.nil::pY)
abbrev Hw:List (EK×Shape):=[(.ret,⟨[(2,nx)],[]⟩)]
abbrev Hf:Ty:=.pair .str (.sl jZ)
abbrev u4:Ty:=.pair .str (.sl xU)
abbrev Of:List Sh:=[.nil,.nil,.nil,.nil,.nil,bj,.nil]
abbrev aeY:List (Nat×SO):=[(2,.var 115 (.nil::.nil::.nil::.nil::.nil::HH::.nil::Of)),(6,.var 115 [.v (.sl vq),BS,GL,GO,GP,HH,.own 73,.v (.sl B6),iD,s7,GK,s7,bj,.v (.sl u4)]),(73,.row 225 Hf)]
abbrev sS:Nat×SO:=(2000,.var 89 Ot)
abbrev aeX:List (Nat×SO):=((1100,.var 320 [bj,.own 1101])::aeI::sS::aec)
abbrev Vy:Nat×SO:=(1001,.bI 134 xU [bj,bj,bj,bj,sP,.own 5002,.own 5003,.own 5004])
abbrev On:SO:=.var 110 (.nil::.nil::.nil::pY)
abbrev aeW:List (Nat×SO):=[(2,On),(3,nv),(6,.var 110 [.own 700,.own 701,.own 702,.own 703,.own 704]),(700,NY),(701,.row 347 kN),(702,oB),(703,uT),(704,oB)]
abbrev Vx:List (Nat×SO):=[(1201,xz),(1202,xC),(1203,xG),(1204,xB),(1205,xA),sS]
abbrev HJ:List (Nat×bE):=[(3378,{ow:=[16],ps:=[(16,[(1020,1021),(1040,1022)])]})]
abbrev NQ:Nat×SS:=(3,.c (.own 20))
abbrev ru:Nat×SS:=(1,.c (.ptr 1 0))
abbrev aeV:List (Nat×bE):=[(29,{cut:=[(.normal,⟨[NQ],((20,dJ)::Cw)⟩)]}),(31,{pre:=[.ba 20]}),(58,{pre:=[.dz 3 20 (.row [] 9 .str [])],loop:=some ⟨(ru::NQ::fe),((1,.var 110 Ie)::(20,dJ)::Cw)⟩})]
abbrev UL:SO:=.var 252 [bj,.nil]
abbrev aeP:List (Nat×SO):=[(2,UL),(3,nv),(6,.var 252 [bj,.own 701]),(701,.bI 134 xU [bj,bj,bj,bj,sP,.own 702,.own 703,.own 704]),(702,jC),(703,jC),(704,.bI 138 s8 [bj,.own 705]),(705,jC)]
abbrev ff:Ky:=.q [1000]
abbrev oE:SS:=.c (.v (.sl vu))
abbrev Vn:List (Nat×SO):=[(5002,jC),(5003,jC),(5004,.bI 138 s8 [bj,.own 5005]),(5005,jC)]
abbrev rp:List Sh:=[.ptr 1021 0,.ptr 1022 0]
abbrev lz:SS:=.fn 56 [] []
abbrev xx:SS:=.c (.kb true)
abbrev Ho:bE:={cut:=[vd,(.ret,⟨[(4,xx)],[]⟩)]}
abbrev js:List (Nat×SS):=[(2,dT)]
abbrev sV:List (Bool×Shape):=[(false,⟨js,[]⟩)]
abbrev N0:Sh:=.v (.ptr eF)
abbrev NW:Sh:=.v (.ptr sQ)
abbrev Vm:Nat×SS:=(1,.fn 194 [] [.v (.ptr (.sl uS)),N0,NW,N0])
abbrev rn:Nat×SS:=(4,.c (.ptr 2000 0))
abbrev rm:List (Bool×Shape):=[(false,⟨[dp],[]⟩)]
abbrev Hn:List (Nat×bE):=[(12,{rd:=[12]}),(26,{ow:=[15],ps:=[(15,cF)]})]
abbrev dx:Ky:=.q [3]
abbrev BN:Ty:=.pair eF vv
abbrev Vl:Ty:=.sl BN
abbrev oD:Ky:=.u [1020] false
abbrev Hm:SS:=.c (.own 5000)
abbrev aeR:List (Nat×SO):=[(1041,xz),(1042,xC),(1043,xG),(1044,xB),(1045,xA)]
abbrev sK:Nat×SS:=(11,aW)
abbrev N':Nat×SS:=(2,.c (.v (.sl u4)))
abbrev aeQ:Shape:=⟨[dy,N',cK,(7,pV),(8,aW),nk,(10,.c (.ptr 10 0)),sK],[(3,rG),(10,.var 136 [bj,bj,bj,bj,sP,iD,iD,.v (.sl s8),bj,cI])]⟩
abbrev Cd:List (Nat×bE):=[(6,{ow:=[11],ps:=[(11,cF)]})]
abbrev Hs:List (Nat×bE):=[(6,{ow:=[9],ps:=[(9,[(1021,4),(1022,5)])]})]
abbrev Vq:List (Nat×bE):=[(62670,{ow:=[25],ps:=[(25,[(1000,20)])]}),(250685,{ow:=[34],ps:=[(34,[(1000,20)])]})]
abbrev lC:List (Nat×SO):=[(1000,vr)]
abbrev Hr:bE:={cut:=[vd,(.ret,⟨[(4,nx)],[]⟩)]}
abbrev rr:List (Nat×SO):=[(1040,.var 9 [bj])]
abbrev Vp:List (Nat×SO):=[(1001,jC),xu,(1003,.bI 138 s8 [bj,.own 1004]),(1004,jC),(1020,vr)]
abbrev nw:Ky:=.u [1020] true
abbrev iA:List (Nat×SS):=[(3,gX)]
abbrev Vo:List (Nat×SO):=[(14,sU),(16,.var 142 [Cg,.v pS,.own 14])]
abbrev sX:Nat×SS:=(5,.c (.own 12))
abbrev Ol:Nat×SS:=(1,.fn 218 [] [.v (.ptr oL),.v (.ptr (.sl p7))])
abbrev Cb:SS:=.c (.v (.sl uS))
abbrev N4:Nat×SS:=(8,.c (.ptr 8 0))
abbrev xE:List (Nat×SS):=[jc,(2,.c (.ptr 1040 0))]
abbrev Vr:Nat×SS:=(3000002,.st (.pair (.sl p7) (.pair pS (.pair xT rb))))
abbrev u7:List (Nat×SS):=[(8,aW),nk]
abbrev aeG:List (Nat×bE):=[(8186,{ow:=[191],ps:=[(191,cF)]}),(16378,{un:=[.s 0],ow:=[205],ps:=[(205,cF)]}),(16382,{un:=[.s 0],ow:=[219],ps:=[(219,cF)]})]
abbrev gy:Nat×SS:=(0,pV)
abbrev fc:List (Nat×SO):=[fZ]
abbrev He:List (Bool×Shape):=((false,⟨[(4,dT)],fc⟩)::pW)
abbrev uY:SS:=.c s7
abbrev Hd:bE:={cut:=[(.normal,⟨[],gQ⟩)]}
abbrev uR:Nat×SS:=(0,.st Cs)
abbrev B3:Shape:=⟨[uR,dy],[]⟩
abbrev ni:Nat×SS:=(5,gX)
abbrev Hc:List (Bool×Shape):=[(false,⟨[(4,dT),ni],[]⟩)]
abbrev mn:Nat×SS:=(14,aW)
abbrev nt:Nat×SS:=(1,.c iD)
abbrev Hb:bE:={cut:=[(.normal,⟨[],gY⟩)]}
abbrev aeF:List Sh:=[cI,cI,cI,.nil]
abbrev UQ:SO:=.var 318 [.mu 174]
abbrev Ha:List (Nat×SO):=((1021,UQ)::Hu)
abbrev UP:SO:=.var 420 [.mu 270]
abbrev G9:List (Nat×SO):=((1021,UP)::Hu)
abbrev UO:SO:=.var 413 [.mu 264]
abbrev G8:List (Nat×SO):=((1021,UO)::Hu)
abbrev UN:SO:=.var 407 [.mu 258]
abbrev G7:List (Nat×SO):=((1021,UN)::Hu)
abbrev UM:SO:=.var 398 [.mu 250]
abbrev G6:List (Nat×SO):=((1021,UM)::Hu)
abbrev B9:List (Bool×Shape):=[(false,⟨[(4,eV)],[]⟩)]
abbrev B8:List (Bool×Shape):=[(false,⟨[(6,gX)],[]⟩)]
abbrev Hj:List (Bool×Shape):=[(false,⟨((2,dT)::iA),[]⟩)]
abbrev kF:Nat×SS:=(0,eV)
abbrev aeN:Nat×bE:=(7541,{ow:=[55],kf:=[(0,dx),(1,dx),(3,oD),(5,.u [1002] false),(6,dx),(7,uX)],ps:=[(55,bq)]})
abbrev B5:List Sh:=[.ptr 1100 0,.ptr 1200 0]
abbrev GX:Ky:=.u [1001] false
abbrev aeM:Nat×bE:=(939,{ow:=[39],kf:=[(0,dx),(1,dx),(3,oD),(5,GX),(6,dx),(7,uX)],ps:=[(39,bq)]})
abbrev Hh:Nat×SO:=(3,.var 84 [bj,bj])
abbrev NS:Nat×SS:=(5,.c (.own 52))
abbrev aeL:Shape:=⟨[gP,bW,NS,jU,(15,uY),(16,aW),(17,aW),(65,jx),(66,aW),(67,aW)],[(52,ju)]⟩
abbrev B4:Nat×SS:=(0,.st (.pair kN .str))
abbrev mh:Nat×SS:=(3,aW)
abbrev Oh:bE:={loop:=some ⟨[dH,mh],[]⟩}
abbrev xt:SS:=.c .nil
abbrev Og:EK×Shape:=(.ret,⟨[(2,xt),(3,nx)],[]⟩)
abbrev aeK:List (Nat×SO):=[(4,.var 165 (bj::pY)),(5,.var 165 [bj,sR,.own 37]),(37,dJ),(1000,.var 297 [cI,oN,.v ml,cI])]
abbrev aeJ:List (Nat×SO):=[(3,.var 134 Ce),(6,Vw),(1001,jC),xu,(1003,.bI 138 s8 [bj,.own 1004]),(1004,jC),(1020,HF)]
abbrev pT:List (Bool×Shape):=[(false,Hx)]
abbrev pR:Nat×SS:=(13,aW)
abbrev UW:SS:=.c (.v (.sl Hf))
abbrev GN:SS:=.c (.own 47)
abbrev jt:SS:=.c HH
abbrev aeH:Shape:=⟨[(1,jt),cK,(7,GN),(12,UW),pR,mn],[(3,Oq),(47,vp)]⟩
abbrev Hg:Nat×SO:=(1200,.var 123 [.own 1201])
abbrev Hl:List (Bool×Shape):=[(false,⟨[(4,eu)],[]⟩)]
abbrev sT:List (Nat×SS):=[lA,sK]
abbrev gz:Nat×SS:=(1,eV)
abbrev Ca:bE:={cut:=(vd::Hw)}
abbrev Oj:List (Nat×SO):=[(4,.var 38 (.nil::pY)),(5,kO)]
abbrev B':SS:=.c (.v (.sl Vl))
abbrev BZ:SS:=.c (.v (.int .u8))
abbrev Vi:Shape:=⟨(dH::bW::ga::eM::fI::sZ::u7),OW⟩
abbrev BY:List (Bool×Shape):=[(false,⟨[],gQ⟩)]
abbrev aev:Nat×bE:=(6,{ow:=[12],kf:=[(2,bh),(3,bh),(4,dx),(5,.u [12] false)],ps:=[(12,[(8,12)])]})
abbrev BX:List (Bool×Shape):=[(false,⟨[],gY⟩)]
abbrev BV:bE:={unp:=[.s 0]}
abbrev aeu:List (Nat×bE):=[(7976,BV),(31926,{ow:=[60],ps:=[(60,cF)]}),(63812,{ow:=[43],ps:=[(43,cF)]})]
abbrev aet:List (Nat×SO):=[(3,.var 134 Ce),(6,Vw),(1001,jC),xu,(1003,.bI 138 s8 [bj,iD]),(1020,HF)]
abbrev aes:List (Nat×bE):=[(6,{ow:=[7],ps:=[(7,cF)]}),(28,{ow:=[9],ps:=[(9,cF)]}),(58,{ow:=[17],ps:=[(17,cF)]})]
abbrev uV:List (Nat×SS):=[(3000003,Hv)]
abbrev N5:Nat×SS:=(9,.c (.ptr 9 0))
abbrev pQ:Nat×SS:=(2,eV)
abbrev Vh:Shape:=⟨[cE,bW,dp,mh,(4,lD)],gQ⟩
abbrev aeq:List (Nat×SO):=(fZ::(1020,Hy)::(1040,.var 101 [.own 1041,.own 1042,.own 1043,.own 1044,.own 1045])::aeR)
abbrev aep:List (Nat×bE):=[(56,BV),(1812,{ow:=[31],ps:=[(31,cF)]}),(1814,{ow:=[46],ps:=[(46,cF)]})]
abbrev nr:Nat×SS:=(0,aW)
abbrev Vg:Shape:=⟨(nr::dy::ga::eM::fI::gR),OV⟩
abbrev Vf:Shape:=⟨[cE,bW,dp,mh,(4,lz)],gY⟩
abbrev Ve:Shape:=⟨[cm,jc,(2,.c (.OD 1001 0))],OS⟩
abbrev BW:List (Nat×SS):=[mn,(15,aW)]
abbrev aeo:List (Nat×SO):=((2,.var 252 NZ)::(4,UL)::(5,Vw)::Vy::(1020,HF)::Vn)
abbrev aeC:Nat×bE:=(61,{cut:=[(.normal,⟨[(4,jW)],[]⟩),(.ret,⟨[(2,jW),(3,nx)],[]⟩)]})
abbrev mm:Nat×SS:=(0,uY)
abbrev Od:bE:={ow:=[21],ps:=[(21,bq)]}
abbrev Oc:bE:={ow:=[19],ps:=[(19,cF)]}
abbrev U6:List (Nat×SO):=[(5,nv),(54,.row 214 te)]
abbrev aeB:Shape:=⟨(dH::bW::eM::(6,.c (.own 54))::sZ::u7),U6⟩
abbrev B0:List (Nat×SS):=[(1,.st jB)]
abbrev aeA:List (Nat×SO):=[(4,.var 191 [bj,bj,.nil]),(5,.var 191 [bj,bj,.own 45]),(45,dJ),(1000,HF)]
abbrev rj:Nat×SS:=(0,.st OR)
abbrev nq:List (Nat×SS):=[ga,eM]
abbrev xw:SS:=.st vu
abbrev G4:Shape:=⟨[cm,jc],Q_s⟩
abbrev G3:Shape:=⟨[dH,bW],[]⟩
abbrev aey:List (Nat×bE):=[(3865416,{ow:=[98],ps:=[(98,bq)]}),(7730834,{ow:=[110],ps:=[(110,bq)]})]
abbrev aex:SO:=.var 113 [.v (.sl B6),iD,s7,GK,s7,bj,.own 74]
abbrev G2:Nat×SS:=(3,.c (.own 24))
abbrev G1:Nat×SS:=(5,.c (.own 39))
abbrev G0:SS:=.c (.v (.sl vq))
abbrev kG:Ky:=.q [2]
abbrev B2:Nat×SS:=(3,.c (.own 18))
abbrev B1:Nat×SS:=(5,.c (.own 25))
abbrev xy:List (Nat×SO):=[(5000,dI)]
abbrev Oe:Nat×SO:=(2,.var 376 (cI::aeF))
abbrev Vj:Nat×SO:=(2,.var 494 [cI,cI,cI,cI,bj])
abbrev aeD:List (Nat×Nat):=[(1001,1001),(1002,1002),(1003,1003),(1004,1004),(1005,1005),(1020,1020)]
abbrev aee:Shape:=⟨(gP::bW::NS::(15,uY)::NU),[(52,ju)]⟩
abbrev rh:Nat×SS:=(19,aW)
abbrev sM:Nat×SS:=(18,aW)
abbrev aed:Shape:=⟨[bW,(5,.c (.own 29)),(17,jx),sM,rh],[(29,ju)]⟩
abbrev nj:SS:=.st OT
abbrev N7:Shape:=⟨[(0,eu),dy],[]⟩
abbrev aea:Shape:=⟨[ru,(18,.c sR),rh,(20,aW)],[(1,.var 163 [sR])]⟩
abbrev ad9:List (Nat×SO):=[(5102,jw),(5103,jw),(5104,.bI 154 u6 BG),(5105,jw)]
abbrev ad8:List (Nat×SO):=((2,.var 110 Ie)::(4,On)::(5,.var 347 [bj,bj,.own 48])::(48,dJ)::Q_6)
abbrev iz:List (Nat×SS):=[sZ]
abbrev ad7:Shape:=⟨(dH::bW::ga::eM::fI::iz),[(4,Hi),(5,nv),(6,Hi)]⟩
abbrev ad5:bE:={cut:=((.normal,⟨[bR,cK],[(2,pX),(3,pX)]⟩)::Hk)}
abbrev ad4:Shape:=⟨[(0,.c (.v (.sl jZ))),(1,.fn 358 [] [.v (.ptr jZ)])],[]⟩
abbrev re:SS:=.c Cg
abbrev ad2:Shape:=⟨[(6,.c (.ptr 16 0)),(17,re),sM,rh],Vo⟩
abbrev GS:SO:=.row 136 Hq
abbrev ad1:bE:={cut:=[(.normal,⟨(cE::bW::(2,lD)::jU::iz),gQ⟩)]}
abbrev adZ:bE:={cut:=[(.normal,⟨(cE::bW::(2,lz)::jU::iz),gY⟩)]}
abbrev adY:List (Nat×SO):=((2,.var 110 Ie)::(4,On)::(5,.var 449 [bj,.own 23])::(23,dJ)::Q_6)
abbrev adX:List (Nat×SO):=[(2,.var 51 [cI,.nil]),(3,.var 51 [cI,.own 28]),(28,.row 55 ml)]
abbrev BU:List (Nat×SS):=[(3000004,Hv)]
abbrev GR:SS:=.c (.own 61)
abbrev aek:Shape:=⟨[gP,bW,G1,(49,jx),(50,aW),(51,aW)],[(39,ju)]⟩
abbrev GW:Ky:=.u [1000] false
abbrev aei:Nat×bE:=(254,{pre:=[.ba 705,.ba 704,.ba 702,.ba 703,.ba 701]})
abbrev GV:Nat×SO:=(2,.var 286 aeF)
abbrev aeh:bE:={loop:=some ⟨(cE::bW::(2,lD)::jU::gR),gQ⟩}
abbrev U8:Nat×bE:=(6,{ow:=[11],ps:=[(11,bq)]})
abbrev BR:SS:=.c (.own 59)
abbrev aeg:bE:={loop:=some ⟨(cE::bW::(2,lz)::jU::gR),gY⟩}
abbrev uQ:Ky:=.q [1003]
abbrev xv:List (Nat×SO):=[(5000,sU)]
abbrev aef:List (Nat×SO):=[(2,.var 163 [.nil]),(5,.var 163 [.own 39]),(39,.row 434 s6)]
abbrev U7:SS:=.c (.v (.sl xD))
abbrev BQ:List (Nat×SS):=[cm,jv,dp]
abbrev GU:SS:=.c (.ptr 12 0)
abbrev N9:List Nat:=[5002,5003,5004,5005]
abbrev Vc:bE:={ow:=[27],ps:=[(27,cF)]}
abbrev Vb:bE:={ow:=[35],ps:=[(35,bq)]}
abbrev Va:bE:={ow:=[16],ps:=[(16,bq)]}
abbrev U9:bE:={ow:=[29],ps:=[(29,bq)]}
abbrev N8:Shape:=⟨[gP,bW],[]⟩
abbrev rf:Nat×SS:=(0,Hm)
abbrev U2:Nat×SS:=(1,.fn 175 [.ptr 1100 0] [])
abbrev adL:List (Nat×Nat):=[(1001,1001),(1002,1002),(1003,1003),(1004,1004),(1005,1005)]
abbrev GM:SO:=.row 147 xD
abbrev GJ:Shape:=⟨[nr],[]⟩
abbrev BF:List (Nat×SS):=((5,aW)::mg)
abbrev xq:Nat×SO:=(1201,jw)
abbrev uN:List (Nat×Nat):=[(1000,30)]
abbrev U0:Bool×Shape:=(false,⟨(dp::iA),[]⟩)
abbrev adK:List (Nat×SO):=[fZ,(1020,Hy),(1040,.var 123 [.own 1041]),(1041,jw)]
abbrev UZ:bE:={ow:=[8],ps:=[(8,cF)]}
abbrev uM:SS:=.agg Ie
abbrev adU:Nat×bE:=(29,{cut:=[(.normal,⟨[sX],[(12,dI)]⟩)]})
abbrev adT:Nat×bE:=(58,{loop:=some ⟨(sX::BW),[(12,dI)]⟩})
abbrev adS:Shape:=⟨((1,pV)::bR::sX::mg),[(2,rG),(12,GS)]⟩
abbrev ri:Nat×Ky:=(9,bh)
abbrev adR:Nat×bE:=(29,{cut:=[(.normal,⟨[GZ],[(27,sU)]⟩)]})
abbrev GQ:SS:=.c (.own 23)
abbrev adQ:Nat×bE:=(26,{loop:=some ⟨((0,eu)::dy::eB),[]⟩})
abbrev N3:Nat×SO:=(59,.row 374 Vl)
abbrev adO:Nat×bE:=(61,{cut:=[(.normal,⟨(rf::eB),xy⟩)]})
abbrev U3:Bool×Shape:=(false,⟨[(4,oE)],[]⟩)
abbrev adN:EK×Shape:=(.ret,⟨nq,[(4,.var 291 (cI::pY)),G5]⟩)
abbrev adM:Bool×Shape:=(false,⟨[(3000004,.st te),(3000005,Hv)],[]⟩)
abbrev BK:List (Nat×SO):=[(1020,xA)]
abbrev BJ:List (Nat×SO):=[(1020,xB)]
abbrev BI:List (Nat×SO):=[(1020,xG)]
abbrev BH:List (Nat×SO):=[(1020,xC)]
abbrev BM:List (Nat×SO):=[(1020,xz)]
abbrev BL:List (Nat×SS):=[(1,xw)]
abbrev adW:Shape:=⟨(dy::N'::cK::(7,pV)::nn),[(3,rG)]⟩
abbrev adV:Shape:=⟨(gP::G2::(13,jx)::BW),[(24,ju)]⟩
abbrev uO:List (Nat×SS):=[(2,eu)]
abbrev NV:SS:=.st (.sl s6)
abbrev sN:Nat×SS:=(0,Ou)
abbrev NT:Shape:=⟨[cm],lC⟩
abbrev sL:Nat×SS:=(12,aW)
abbrev adB:Shape:=⟨(cE::bW::dp::(3,lD)::nn),gQ⟩
abbrev NR:Nat×SS:=(5,.c (.own 31))
abbrev US:List (Nat×SS):=[rn,(12,jV),pR,mn]
abbrev ady:Shape:=⟨(cE::bW::dp::(3,lz)::nn),gY⟩
abbrev adI:List (Nat×SO):=((4,.var 405 [bj,cI,.own 45])::(45,dJ)::Vv)
abbrev UY:Shape:=⟨(mm::B0),[]⟩
abbrev UX:Shape:=⟨(gP::BL),[]⟩
abbrev NX:Shape:=⟨[kF],[]⟩
abbrev adF:Nat×bE:=(6,{ow:=[8,10],ps:=[(8,cF),(10,cF)]})
abbrev adE:List Gh:=[.ba 5005,.ba 5004,.ba 5002,.ba 5003]
abbrev UU:Nat×bE:=(31,{pre:=[.ba 18]})
abbrev UT:Shape:=⟨[cm,bW],lC⟩
def aie:FS:=mkG [Wn] [(29,{cut:=((.normal,cJ)::Hw)}),(58,{loop:=some ⟨[dH,pR,mn],[]⟩})] 407 cJ gD fun x=>Kd x.1
def WH:FS:=mkG [Dw,aie] [(61,Ca),(122,{loop:=some ⟨[(11,eu),sL,pR],[]⟩})] 353 cJ gD fun x=>D6 x.1
def Pz:FS:=mkG [WH] [(13,{cut:=((.normal,⟨[ru],[(1,ny)]⟩)::Hw)}),(26,{loop:=some ⟨(ru::(6,.agg Cf)::iz),[(1,ny)]⟩})] 316 ⟨[(0,nj)],[]⟩ gD fun x=>ym x.1
def V4:FS:=mkG [aii,Pz] [] 423 ⟨[(0,nj)],[]⟩ sV fun x=>IY x.1
def Qy:FS:=mkG [] [] 410 GJ sV fun x=>EX x.1
def akx:FS:=mkHh [] [(30,{cut:=[(.normal,ad7)]}),(60,{loop:=some ad7}),(125,{cut:=[(.normal,⟨[ga,eM,fI],OW⟩),(.ret,⟨nq,[(4,Hi),(5,nv)]⟩)]}),(127,{pre:=[.ba 101,.ba 108]}),(250,{pre:=[.da 6 1 101 (.row [] 9 .str []),.da 6 2 108 (.row [] 3 eF [])],loop:=some ⟨(dH::bW::ga::eM::fI::gR),OW⟩}),(16022,{cut:=[(.normal,Vi)]}),(32044,{loop:=some Vi}),(128189,{cut:=[(.normal,Vi),(.ret,⟨nq,[(4,Hi),(5,nv)]⟩)]}),(256378,{loop:=some ⟨(dH::bW::ga::eM::fI::sZ::(8,aW)::xr),OW⟩})] 156 G3 [adM] (fun o=>(o.1,o.2.1)) (fun r=>(r.1,r.2,())) (fun _=>rfl) (fun x=>zX x.1 x.2.1)
def ait:FS:=mkHh [akx] [(61,{cut:=[(.normal,⟨[eM,(6,.c (.own 54))],U6⟩),(.ret,⟨[(4,xt),eM],[(5,nv)]⟩)]}),(63,{pre:=[.ba 54]}),(122,{pre:=[.dz 6 54 (.row [] 214 te [])],loop:=some ⟨(dH::bW::eM::(6,.c (.own 54))::gR),U6⟩}),(3914,{cut:=[(.normal,aeB)]}),(7828,{loop:=some aeB})] 85 G3 [(false,⟨[(4,jV),(3000005,Hv)],[]⟩)] (fun o=>(o.1,o.2.1)) (fun r=>(r.1,r.2,())) (fun _=>rfl) (fun x=>Qi x.1 x.2.1)
def QU:FS:=mkHh [ait] [] 91 cJ [(false,⟨((2,jV)::uV),[]⟩)] (fun o=>(o.1,o.2.1)) (fun r=>(r.1,r.2,())) (fun _=>rfl) (fun x=>Af x.1)
def kR:FS:=mkHh [] [] 97 NT [(false,⟨[(2,gX)],lC⟩)] (fun o=>(o.1,o.2.1)) (fun r=>(r.1,r.2,())) (fun _=>rfl) (fun x=>dF x.1)
def Dy:FS:=mkHh [kR] [(12,{ow:=[4],ps:=[(4,cF)]})] 92 NT [(false,⟨js,lC⟩)] (fun o=>(o.1,o.2.1)) (fun r=>(r.1,r.2,())) (fun _=>rfl) (fun x=>jg x.1)
def kS:FS:=mkG [] [] 93 UT [(false,⟨[],lC⟩)] fun x=>fi x.1 x.2.1
def vI:FS:=mkG [kS,kR] [(2,{ow:=[7],ps:=[(7,cF)]}),(6,{ow:=[14],ps:=[(14,cF)]})] 94 ⟨[cm,bW,dp],lC⟩ [(false,⟨[],lC⟩)] fun x=>fA x.1 x.2.1 x.2.2.1
def aha:FS:=mkHh [] aeV 343 ⟨[(0,uM)],Cw⟩ [(false,⟨uO,Cw⟩)] (fun o=>(o.1,o.2.1,o.2.2.1,o.2.2.2.1,o.2.2.2.2.1,o.2.2.2.2.2.1)) (fun r=>(r.1,r.2.1,r.2.2.1,r.2.2.2.1,r.2.2.2.2.1,r.2.2.2.2.2,())) (fun _=>rfl) (fun x=>JD x.1 x.2.1 x.2.2.1 x.2.2.2.1 x.2.2.2.2.1)
def WN:FS:=mkG [] [(29,Ca),(58,Oh)] 379 cJ gD fun x=>zj x.1
def QC:FS:=mkG [WN] [] 300 cJ gD fun x=>vY x.1
def Qg:FS:=mkG [] [(13,{cut:=[(.normal,cJ),(.ret,⟨[dp],[]⟩)]}),(26,Oh)] 301 cJ rm fun x=>zx x.1
def W3:FS:=mkG [QC,Qg] [] 299 cJ gD fun x=>EG x.1
def KC:FS:=mkG [QC,W3,Qg] [] 198 cJ gD fun x=>vZ x.1
def YE:FS:=mkG [] [(61,{cut:=[(.normal,⟨(dH::B1::mg),[(25,dJ)]⟩)]}),(63,{pre:=[.ba 25]}),(122,{pre:=[.dz 5 25 (.row [] 9 .str [])],loop:=some ⟨(dH::(1,BZ)::B1::jU::iz),[(25,dJ)]⟩})] 228 ⟨[dH,(1,BZ)],[]⟩ Hl fun x=>qB x.1 x.2.1
def W6:FS:=mkHh [] [(61,{cut:=[(.normal,⟨fe,[]⟩),(.ret,⟨[dp,(3,nx)],[]⟩)]}),(122,{loop:=some ⟨(dH::(4,aW)::eB),[]⟩})] 158 cJ [U0] (fun o=>(o.1,o.2.1)) (fun r=>(r.1,r.2,())) (fun _=>rfl) (fun x=>zA x.1)
def ajF:FS:=mkHh [W6] [] 230 cJ [U0] (fun o=>(o.1,o.2.1)) (fun r=>(r.1,r.2,())) (fun _=>rfl) (fun x=>zy x.1)
def W4:FS:=mkG [] [(13,Ca),(26,Oh)] 330 cJ gD fun x=>zz x.1
def alH:FS:=mkG [W4] [(29,Ca),(58,Oh)] 231 cJ gD fun x=>LS x.1
def Eh:FS:=mkHh [YE,ajF,alH] [(14,{cut:=[(.normal,⟨(dH::bR::fe),[GV]⟩)]}),(28,{loop:=some ⟨(dH::bR::fe),[GV]⟩}),(65533,{cut:=[(.normal,⟨[bR,fI],[GV,(6,pX)]⟩),(.ret,⟨[bR,(3,nx)],[GV]⟩)]}),(131066,{loop:=some ⟨[bR,fI,pR],[GV,(6,pX)]⟩})] 145 cJ [(false,⟨((3000002,.st vv)::iA),[]⟩)] (fun o=>(o.1,o.2.1)) (fun r=>(r.1,r.2,())) (fun _=>rfl) (fun x=>qn x.1)
def alG:FS:=mkG [] [] 329 GJ sV fun x=>R0 x.1
def anf:FS:=mkHh [Eh,alG] [(30,{cut:=[(.normal,⟨(dH::bR::fe),[Oe]⟩)]}),(60,{loop:=some ⟨(dH::bR::fe),[Oe]⟩}),(125,{cut:=[(.normal,⟨[bR],[Oe]⟩),(.ret,⟨(bR::iA),[(2,.var 376 [cI,cI,cI,cI,oN])]⟩)]}),(250,{loop:=some ⟨(dH::bR::(4,aW)::eB),[Oe]⟩})] 229 cJ [(false,⟨((3000002,.st BN)::iA),[]⟩)] (fun o=>(o.1,o.2.1)) (fun r=>(r.1,r.2,())) (fun _=>rfl) (fun x=>Mf x.1)
def QE:FS:=mkHh [YE,anf] [(125,{cut:=[(.normal,⟨[(5,BR)],[N3]⟩),Og]}),(127,{pre:=[.ba 59]}),(250,{pre:=[.dz 5 59 (.row [] 374 Vl [])],loop:=some ⟨((4,eu)::(5,BR)::mg),[N3]⟩}),(64079,{pre:=[.ba 55]}),(128157,{cut:=[(.normal,⟨[(4,eu),(5,BR),jU,(8,.c (.own 55))],[(55,.row 376 BN),N3]⟩),Og]}),(256314,{pre:=[.dz 8 55 (.row [] 376 BN [])],loop:=some ⟨[(4,eu),(5,BR),jU,(7,eu),(8,.c (.own 55)),nk],[(55,.row 376 BN),N3]⟩})] 144 cJ [(false,⟨((2,B')::iA),[]⟩)] (fun o=>(o.1,o.2.1)) (fun r=>(r.1,r.2,())) (fun _=>rfl) (fun x=>zU x.1)
def W2:FS:=mkHh [] [(61,{cut:=[(.normal,⟨[dH,(4,.c (.own 6))],[(6,dI)]⟩),Og]}),(63,{pre:=[.ba 6]}),(117,{pre:=[.ba 6]}),(122,{loop:=some ⟨(dH::(4,.c (.own 6))::eB),[(6,dI)]⟩})] 195 cJ [(false,⟨(pQ::iA),[]⟩)] (fun o=>(o.1,o.2.1)) (fun r=>(r.1,r.2,())) (fun _=>rfl) (fun x=>zw x.1)
def QT:FS:=mkHh [] [aeC,(122,{loop:=some ⟨(dH::(4,jW)::eB),[]⟩})] 307 cJ [(false,⟨((2,jW)::iA),[]⟩)] (fun o=>(o.1,o.2.1)) (fun r=>(r.1,r.2,())) (fun _=>rfl) (fun x=>nT x.1)
def QP:FS:=mkG [] [] 400 cJ gD fun x=>Ac x.1
def QQ:FS:=mkG [KC,WN,W3,QP,Qg] [] 341 cJ gD fun x=>Ad x.1
def aoJ:FS:=mkG [QT,Eh,QE,KC,QQ,QC,W2] [] 243 G3 di fun x=>ji x.1 x.2.1
def qd:FS:=mkHh [kS,kR,Dy,aoJ] aes 176 UT [(false,⟨[(4,dT)],lC⟩)] (fun o=>(o.1,o.2.1)) (fun r=>(r.1,r.2,())) (fun _=>rfl) (fun x=>eW x.1 x.2.1)
def qy:FS:=mkG [] [(13,Ho),adQ] 74 N7 di fun x=>mM x.1 x.2.1
def P8:FS:=mkHh [kS,kR,qd,qy] [(6,{ow:=[10],ps:=[(10,cF)]}),(28,{ow:=[12],ps:=[(12,cF)]}),(58,Oc)] 342 ⟨(cm::bW::uO),lC⟩ [(false,⟨[(6,dT)],lC⟩)] (fun o=>(o.1,o.2.1)) (fun r=>(r.1,r.2,())) (fun _=>rfl) (fun x=>j8 x.1 x.2.1 x.2.2.1)
def X0:FS:=mkG [] [] 401 ⟨[(0,jW)],[]⟩ rm fun x=>FF x.1
def alI:FS:=mkG [ani,X0] [] 344 ⟨[(0,jW)],[]⟩ sV fun x=>Ae x.1
def YC:FS:=mkHh [kS,kR,Dy,qy] aes 345 ⟨[cm,(1,eu)],lC⟩ [(false,⟨[(4,dT)],lC⟩)] (fun o=>(o.1,o.2.1)) (fun r=>(r.1,r.2,())) (fun _=>rfl) (fun x=>k6 x.1 x.2.1)
def ahb:FS:=mkHh [] aeV 303 ⟨[(0,uM)],Cw⟩ [(false,⟨uO,Cw⟩)] (fun o=>(o.1,o.2.1,o.2.2.1,o.2.2.2.1,o.2.2.2.2.1,o.2.2.2.2.2.1)) (fun r=>(r.1,r.2.1,r.2.2.1,r.2.2.2.1,r.2.2.2.2.1,r.2.2.2.2.2,())) (fun _=>rfl) (fun x=>JE x.1 x.2.1 x.2.2.1 x.2.2.2.1 x.2.2.2.2.1)
def Dz:FS:=mkHh [kR] [(6,{ow:=[4],kf:=[(1,GW),(5,ff),(6,ff),(9,ff),(10,ff),(11,ff),(12,bh)],ps:=[(4,cF)]})] 177 NT [(false,⟨[(2,gX)],lC⟩)] (fun o=>(o.1,o.2.1)) (fun r=>(r.1,r.2,())) (fun _=>rfl) (fun x=>j6 x.1)
def Wm:FS:=mkG [] [lI,(26,{loop:=some ⟨(dy::bR::eB),[(2,rG)]⟩})] 306 ⟨[rj,dy],[]⟩ dA fun x=>vH x.1 x.2.1
def aiR:FS:=mkHh [kS,vI,kR,Dz,qd,ahb,P8,YC,qy,Wm] [U8,(14,{ow:=[14,15,18],ps:=[(14,adL),(15,bq),(18,bq)]}),(30,{cut:=[(.normal,⟨(bR::nq),ad8⟩)]}),(60,{un:=[.v 2 0,.v 2 1,.v 2 2,.v 2 3,.v 2 4],pre:=[.da 5 2 48 (.row [] 9 .str [])],loop:=some ⟨(jc::bR::nq),ad8⟩}),(62,{pre:=[.ba 48]}),(480,Od),(964,{ow:=[23],ps:=[(23,bq)]}),(3860,{ow:=[25],rd:=[29],ps:=[(25,bq)]}),(7722,{ow:=[33],ps:=[(33,bq)]}),(7724,{ow:=[35],rd:=[40],ps:=[(35,bq)]}),(15450,{ow:=[43],ps:=[(43,bq)]})] 346 ⟨[(0,uM),jc],Ct⟩ [(false,⟨[(3000004,uM)],Ct⟩)] (fun o=>(o.1,o.2.1,o.2.2.1,o.2.2.2.1,o.2.2.2.2.1,o.2.2.2.2.2.1)) (fun r=>(r.1,r.2.1,r.2.2.1,r.2.2.2.1,r.2.2.2.2.1,r.2.2.2.2.2,())) (fun _=>rfl) (fun x=>Qz x.1 x.2.1 x.2.2.1 x.2.2.2.1 x.2.2.2.2.1 x.2.2.2.2.2.1)
def ajz:FS:=mkHh [] [(29,{cut:=[(.normal,⟨[B2],[(18,dJ),(1000,oB)]⟩)]}),UU,(58,{pre:=[.dz 3 18 (.row [] 9 .str [])],loop:=some ⟨(cE::B2::fe),[(18,dJ),(1000,oB)]⟩})] 347 ⟨[cE],[(1000,oB)]⟩ [(false,⟨uO,[(1000,oB)]⟩)] (fun o=>(o.1,o.2.1)) (fun r=>(r.1,r.2,())) (fun _=>rfl) (fun x=>ED x.1)
def akp:FS:=mkHh [] [(29,{cut:=[(.normal,⟨[B2],[(18,dJ),(1000,uT)]⟩)]}),UU,(58,{pre:=[.dz 3 18 (.row [] 9 .str [])],loop:=some ⟨(cE::B2::fe),[(18,dJ),(1000,uT)]⟩})] 403 ⟨[cE],[(1000,uT)]⟩ [(false,⟨uO,[(1000,uT)]⟩)] (fun o=>(o.1,o.2.1)) (fun r=>(r.1,r.2,())) (fun _=>rfl) (fun x=>Lq x.1)
def akn:FS:=mkHh [kS,kR,qd,qy] [(6,{ow:=[10],ps:=[(10,cF)]}),(28,{ow:=[12],rd:=[16],ps:=[(12,cF)]}),(58,Oc)] 342 ⟨[cm,bW,(2,.c (.own 1040))],[(1000,vr),(1040,dJ)]⟩ [(false,⟨[(6,dT)],[(1000,vr),(1040,dJ)]⟩)] (fun o=>(o.1,o.2.1,o.2.2.1)) (fun r=>(r.1,r.2.1,r.2.2,())) (fun _=>rfl) (fun x=>Lo x.1 x.2.1 x.2.2.1)
def ajx:FS:=mkHh [vI,Dz,qd,akp,akn,P8] [U8,(14,{ow:=[15,16],ps:=[(15,[(1000,1004)]),(16,bq)]}),(30,{ow:=[21],kf:=[(0,oA),(1,oA),(3,oD),(5,.u [23] false),(6,oA),(7,.u [5] false)],ps:=[(21,bq)]}),(62,{cut:=[(.normal,⟨(bR::nq),adY⟩)]}),(124,{un:=[.v 2 3],loop:=some ⟨(jc::bR::nq),adY⟩}),(126,{pre:=[.ba 23]}),(992,{ow:=[26],ps:=[(26,bq)]}),(1988,{ow:=[30],ps:=[(30,[nu,(1040,23)])]}),(3978,{un:=[.v 5 1],ow:=[35],ps:=[(35,bq)]})] 348 ⟨[(0,uM),jc],Ct⟩ [(false,⟨[(3000004,uM)],Ct⟩)] (fun o=>(o.1,o.2.1,o.2.2.1,o.2.2.2.1,o.2.2.2.2.1,o.2.2.2.2.2.1)) (fun r=>(r.1,r.2.1,r.2.2.1,r.2.2.2.1,r.2.2.2.2.1,r.2.2.2.2.2,())) (fun _=>rfl) (fun x=>QO x.1 x.2.1 x.2.2.1 x.2.2.2.1 x.2.2.2.2.1 x.2.2.2.2.2.1)
def ajw:FS:=mkHh [kS,vI,qd,ajz,aha,aiR,P8,ajx,YC,QT,alI] [(15,{un:=[.v 6 1,.v 6 2,.v 6 3,.v 6 4]}),(212,Od),(426,{ow:=[24,25],ps:=[(24,adL),(25,bq)]}),(430,{ow:=[50],ps:=[(50,aeD)]}),(854,U9),(3422,{ow:=[38],ps:=[(38,bq)]}),(3423,{un:=[.v 3 0]}),(3452,{ow:=[57],ps:=[(57,bq)]}),(6906,{ow:=[61,62],ps:=[(61,[(1000,1003)]),(62,bq)]}),(6907,{un:=[.v 3 2],ow:=[67],kf:=[(0,dx),(1,dx),(4,oD),(7,.u [1003] false),(8,dx),(9,uX)],ps:=[(67,bq)]}),(6910,{ow:=[76],ps:=[(76,aeD)]}),(27647,{ow:=[14],ps:=[(14,bq)]}),(55292,{ow:=[83],ps:=[(83,bq)]}),(110586,{ow:=[87,88],ps:=[(87,[(1000,1005)]),(88,bq)]}),(110587,{un:=[.v 3 4],ow:=[93],kf:=[(0,dx),(1,dx),(4,oD),(7,.u [1005] false),(8,dx),(9,uX)],ps:=[(93,bq)]})] 245 ⟨((0,uM)::jc::js),Ct⟩ [(false,⟨[(3000006,uM)],Ct⟩)] (fun o=>(o.1,o.2.1,o.2.2.1,o.2.2.2.1,o.2.2.2.2.1,o.2.2.2.2.2.1)) (fun r=>(r.1,r.2.1,r.2.2.1,r.2.2.2.1,r.2.2.2.2.1,r.2.2.2.2.2,())) (fun _=>rfl) (fun x=>mB x.1 x.2.1 x.2.2.1 x.2.2.2.1 x.2.2.2.2.1 x.2.2.2.2.2.1 x.2.2.2.2.2.2.1)
def P3:FS:=mkG [kS,Dz] [(2,{ow:=[3],ps:=[(3,cF)]}),(13,{ow:=[12],ps:=[(12,cF)]})] 96 NT [(false,⟨[],lC⟩)] fun x=>gE x.1
def ako:FS:=mkHh [P3,kS,kR,Dy,ajw,QU] [(116,u9),(125,{cut:=[(.normal,⟨[bR,cK,(4,jV),fI],aeW⟩),(.ret,⟨[bR,cK],[(2,On),(3,nv)]⟩)]}),(250,{pre:=[.da 6 0 700 (.row [] 349 B6 []),.da 6 1 701 (.row [] 347 kN []),.da 6 2 702 (.row [] 392 jB []),.da 6 3 703 (.row [] 449 Ht []),.da 6 4 704 (.row [] 392 jB [])],loop:=some ⟨(bR::cK::(4,jV)::fI::iz),aeW⟩}),(255,{pre:=[.ba 700,.ba 701,.ba 702,.ba 703,.ba 704]}),(16018,{ow:=[33],ps:=[(33,[(1000,31)])]}),(64078,{ow:=[45],ps:=[(45,[(1000,31)])]}),(128154,{ow:=[39],ps:=[(39,[(1001,700),(1002,701),(1003,702),(1004,703),(1005,704),(1020,31)])]}),(128158,{ow:=[47],ps:=[(47,[(1000,31)])]}),(512622,{ow:=[43],ps:=[(43,[(1000,31)])]}),(512636,{kf:=[(3,.q [31]),(4,.q [31]),(5,rl),(6,uX)]})] 164 cJ [(false,⟨((3000002,.st OR)::uV),[]⟩)] (fun o=>(o.1,o.2.1)) (fun r=>(r.1,r.2,())) (fun _=>rfl) (fun x=>zS x.1)
def XV:FS:=mkHh [] [(13,{cut:=[vd,(.ret,⟨[(4,dT),(5,xx)],[]⟩)]}),(26,{loop:=some ⟨(mm::dy::mg),[]⟩})] 165 ⟨[mm,dy],[]⟩ Hc (fun o=>(o.1,o.2.1)) (fun r=>(r.1,r.2,())) (fun _=>rfl) (fun x=>wb x.1 x.2.1)
def alF:FS:=mkG [] [] 349 ⟨((0,.st xU)::dy::js),[]⟩ B8 fun x=>FE x.1 x.2.1 x.2.2.1
def akq:FS:=mkHh [kS,vI,kR,Dz,qd,alF] [U8,(14,{ow:=[13,15],ps:=[(13,bq),(15,bq)]}),(61,{cut:=[(.normal,⟨(jc::bR::nq),aeo⟩)]}),(62,{ow:=[41],ps:=[(41,bq)]}),(122,{loop:=some ⟨(jc::bR::ga::eM::mg),aeo⟩}),(126,{ow:=[44],ps:=[(44,bq)]}),(508,{ow:=[47],kf:=[(1,oD),(5,.q [1020]),(6,.q [1020]),(7,.q [1020]),(10,.q [1020]),(11,.q [1020]),(12,bh),(13,bh)],ps:=[(47,bq)]}),(510,{pre:=adE,post:=[.oG 5005 (.row [] 191 (.pair .str (.pair .str (.sl .str))) []),.da 1001 5 5002 (.row [] 191 (.pair .str (.pair .str (.sl .str))) []),.da 1001 6 5003 (.row [] 191 (.pair .str (.pair .str (.sl .str))) []),.da 1001 7 5004 (.bI [] 138 (.pair .str (.sl (.pair .str (.pair .str (.sl .str))))) true [] [.v .str [],.ow 5005 0 .all])],rd:=[73]}),(3912,{ow:=[25],rd:=[36],kf:=[(1,oD),(3,kG),(4,kG),(6,.q [1001]),(7,.q [1001]),(8,oA),(9,oA),(10,oA),(11,oA),(12,.w)],ps:=[(25,bq)]}),(7826,{ow:=[39],ps:=[(39,bq)]})] 246 ⟨[(0,.agg NZ),jc],(Vy::(1020,vr)::Vn)⟩ [(false,⟨[(3000004,.agg NZ)],(Vy::(1020,vr)::Vn)⟩)] (fun o=>(o.1,o.2.1,o.2.2.1,o.2.2.2.1,o.2.2.2.2.1,o.2.2.2.2.2.1,o.2.2.2.2.2.2.1,o.2.2.2.2.2.2.2.1,o.2.2.2.2.2.2.2.2.1,o.2.2.2.2.2.2.2.2.2.1,o.2.2.2.2.2.2.2.2.2.2.1,o.2.2.2.2.2.2.2.2.2.2.2.1,o.2.2.2.2.2.2.2.2.2.2.2.2.1,o.2.2.2.2.2.2.2.2.2.2.2.2.2.1,o.2.2.2.2.2.2.2.2.2.2.2.2.2.2.1)) (fun r=>(r.1,r.2.1,r.2.2.1,r.2.2.2.1,r.2.2.2.2.1,r.2.2.2.2.2.1,r.2.2.2.2.2.2.1,r.2.2.2.2.2.2.2.1,r.2.2.2.2.2.2.2.2.1,r.2.2.2.2.2.2.2.2.2.1,r.2.2.2.2.2.2.2.2.2.2.1,r.2.2.2.2.2.2.2.2.2.2.2.1,r.2.2.2.2.2.2.2.2.2.2.2.2.1,r.2.2.2.2.2.2.2.2.2.2.2.2.2.1,r.2.2.2.2.2.2.2.2.2.2.2.2.2.2,())) (fun _=>rfl) (fun x=>Fa x.1 x.2.1 x.2.2.1 x.2.2.2.1 x.2.2.2.2.1 x.2.2.2.2.2.1 x.2.2.2.2.2.2.1 x.2.2.2.2.2.2.2.1 x.2.2.2.2.2.2.2.2.1 x.2.2.2.2.2.2.2.2.2.1 x.2.2.2.2.2.2.2.2.2.2.1 x.2.2.2.2.2.2.2.2.2.2.2.1 x.2.2.2.2.2.2.2.2.2.2.2.2.1 x.2.2.2.2.2.2.2.2.2.2.2.2.2.1 x.2.2.2.2.2.2.2.2.2.2.2.2.2.2.1)
def P1:FS:=mkHh [kS,kR,Dz,qd,qy] [adF,(14,{cut:=[(.normal,⟨nq,aeA⟩)]}),(28,{pre:=[.da 5 2 45 (.row [] 9 .str [])],loop:=some ⟨(cm::bW::nq),aeA⟩}),(31,{pre:=[.ba 45]}),(224,{ow:=[16],ps:=[(16,cF)]}),(452,Oc),(1812,{ow:=[21],rd:=[26],ps:=[(21,cF)]}),(3626,{ow:=[29],ps:=[(29,cF)]}),(3628,{ow:=[31],ps:=[(31,cF)]}),(7258,{ow:=[40],ps:=[(40,cF)]})] 95 UT [(false,⟨[(3000004,.st kN)],lC⟩)] (fun o=>(o.1,o.2.1)) (fun r=>(r.1,r.2,())) (fun _=>rfl) (fun x=>fy x.1 x.2.1)
def aim:FS:=mkHh [kS,vI,kR,P1,qd] ((938,Vb)::aeM::(1874,{ow:=[30],ps:=[(30,bq)]})::(3775,Va)::(7540,{ow:=[51],ps:=[(51,bq)]})::aeN::(7542,{ow:=[67],ps:=[(67,bq)]})::(7543,{ow:=[78],kf:=[(0,dx),(1,dx),(3,dx),(4,dx),(6,uQ),(7,uQ),(8,uQ),(10,oD),(12,.u [80] false)],ps:=[(78,bq)]})::(7548,{ow:=[89],ps:=[(89,bq)]})::(15098,{ow:=[91],ps:=[(91,bq)]})::(30199,{post:=[.da 1003 1 1004 (.row [] 191 (.pair .str (.pair .str (.sl .str))) [])],rd:=[115]})::(60397,{cut:=[(.normal,⟨[cK,fI,(8,dT)],aet⟩)]})::(120794,{loop:=some ⟨[jc,cK,fI,sZ,(8,dT),nk],aet⟩})::aey) 247 ⟨((0,.agg Ce)::jc::js),[(1001,jC),xu,(1003,.bI 138 s8 [bj,iD]),(1020,vr)]⟩ [(false,⟨[(3000006,.agg Ce)],Vp⟩)] (fun o=>(o.1,o.2.1,o.2.2.1,o.2.2.2.1,o.2.2.2.2.1,o.2.2.2.2.2.1,o.2.2.2.2.2.2.1,o.2.2.2.2.2.2.2.1,o.2.2.2.2.2.2.2.2.1,o.2.2.2.2.2.2.2.2.2.1,o.2.2.2.2.2.2.2.2.2.2.1,o.2.2.2.2.2.2.2.2.2.2.2.1)) (fun r=>(r.1,r.2.1,r.2.2.1,r.2.2.2.1,r.2.2.2.2.1,r.2.2.2.2.2.1,r.2.2.2.2.2.2.1,r.2.2.2.2.2.2.2.1,r.2.2.2.2.2.2.2.2.1,r.2.2.2.2.2.2.2.2.2.1,r.2.2.2.2.2.2.2.2.2.2.1,r.2.2.2.2.2.2.2.2.2.2.2,())) (fun _=>rfl) (fun x=>Kj x.1 x.2.1 x.2.2.1 x.2.2.2.1 x.2.2.2.2.1 x.2.2.2.2.2.1 x.2.2.2.2.2.2.1 x.2.2.2.2.2.2.2.1 x.2.2.2.2.2.2.2.2.1 x.2.2.2.2.2.2.2.2.2.1 x.2.2.2.2.2.2.2.2.2.2.1 x.2.2.2.2.2.2.2.2.2.2.2.1 x.2.2.2.2.2.2.2.2.2.2.2.2.1)
def aik:FS:=mkHh [kS,vI,kR,P1,qd] ((938,Vb)::aeM::(1874,{ow:=[30],ps:=[(30,bq)]})::(3775,Va)::(7540,{ow:=[51],ps:=[(51,bq)]})::aeN::(7542,{ow:=[67],ps:=[(67,bq)]})::(7543,{ow:=[78],kf:=[(0,dx),(1,dx),(3,dx),(4,dx),(6,uQ),(7,uQ),(8,uQ),(10,oD),(12,.u [1004] false),(13,uQ),(14,uQ),(15,.u [1003] false)],ps:=[(78,bq)]})::(7548,{ow:=[89],ps:=[(89,bq)]})::(15098,{ow:=[91],ps:=[(91,bq)]})::(30199,{rd:=[115]})::(60397,{cut:=[(.normal,⟨[cK,fI,(8,dT)],aeJ⟩)]})::(120794,{loop:=some ⟨[jc,cK,fI,sZ,(8,dT),nk],aeJ⟩})::aey) 247 ⟨((0,.agg Ce)::jc::js),Vp⟩ [(false,⟨[(3000006,.agg Ce)],Vp⟩)] (fun o=>(o.1,o.2.1,o.2.2.1,o.2.2.2.1,o.2.2.2.2.1,o.2.2.2.2.2.1,o.2.2.2.2.2.2.1,o.2.2.2.2.2.2.2.1,o.2.2.2.2.2.2.2.2.1,o.2.2.2.2.2.2.2.2.2.1,o.2.2.2.2.2.2.2.2.2.2.1,o.2.2.2.2.2.2.2.2.2.2.2.1)) (fun r=>(r.1,r.2.1,r.2.2.1,r.2.2.2.1,r.2.2.2.2.1,r.2.2.2.2.2.1,r.2.2.2.2.2.2.1,r.2.2.2.2.2.2.2.1,r.2.2.2.2.2.2.2.2.1,r.2.2.2.2.2.2.2.2.2.1,r.2.2.2.2.2.2.2.2.2.2.1,r.2.2.2.2.2.2.2.2.2.2.2,())) (fun _=>rfl) (fun x=>y7 x.1 x.2.1 x.2.2.1 x.2.2.2.1 x.2.2.2.2.1 x.2.2.2.2.2.1 x.2.2.2.2.2.2.1 x.2.2.2.2.2.2.2.1 x.2.2.2.2.2.2.2.2.1 x.2.2.2.2.2.2.2.2.2.1 x.2.2.2.2.2.2.2.2.2.2.1 x.2.2.2.2.2.2.2.2.2.2.2.1 x.2.2.2.2.2.2.2.2.2.2.2.2.1)
def akr:FS:=mkHh [P3,kS,kR,qd,Dy,akq,aim,aik,QU] [(30,{post:=[.oG 702 (.row [] 191 (.pair .str (.pair .str (.sl .str))) []),.oG 703 (.row [] 191 (.pair .str (.pair .str (.sl .str))) []),.oG 705 (.row [] 191 (.pair .str (.pair .str (.sl .str))) []),.oG 704 (.bI [] 138 (.pair .str (.sl (.pair .str (.pair .str (.sl .str))))) true [] [.v .str [],.ow 705 0 .all]),.da 6 1 701 (.bI [] 134 (.pair .str (.pair .str (.pair .str (.pair .str (.pair .bool (.pair (.sl (.pair .str (.pair .str (.sl .str)))) (.pair (.sl (.pair .str (.pair .str (.sl .str)))) (.sl (.pair .str (.sl (.pair .str (.pair .str (.sl .str))))))))))))) true [] [.v .str [],.v .str [],.v .str [],.v .str [],.v .bool false,.ow 702 0 .all,.ow 703 0 .all,.ow 704 0 .all])]}),(116,u9),(125,{cut:=[(.normal,⟨[bR,cK,(4,jV),fI],aeP⟩),(.ret,⟨[bR,cK],[(2,UL),(3,nv)]⟩)]}),(250,{loop:=some ⟨(bR::cK::(4,jV)::fI::iz),aeP⟩}),aei,(16018,{ow:=[34],ps:=[(34,[(1000,32)])]}),(128158,{ow:=[74],ps:=[(74,[(1000,32)])]}),(256318,{ow:=[76],ps:=[(76,[(1000,32)])]}),(1025253,{ow:=[60],ps:=[(60,[(1000,32)])]}),(1025276,{kf:=[(3,.q [32]),(4,.q [32]),(5,rl),(6,uX)]}),(2050510,{cn:=[(2,[702,703,704,705])],ps:=[(67,[(1001,701),(1020,32),(5002,702),(5003,703),(5004,704),(5005,705)])]}),(4101010,{ow:=[58],ps:=[(58,[(1000,32)])]}),(8202046,{ow:=[72],ps:=[(72,[(1000,32)])]}),(8202047,{ow:=[50],kf:=[(0,.q [6]),(1,.q [6]),(4,.q [6]),(5,.q [6]),(8,.q [701]),(9,.q [701]),(12,.u [702,703,704,705,32] false),(13,.q [701]),(14,.u [701] false)],cs:=some (9,[102,101,97,116,117,114,101],[.ba 705]),ps:=[(50,[(1001,702),(1002,703),(1003,704),(1004,705),(1020,32)])]})] 166 cJ [(false,⟨((3000002,.st u4)::uV),[]⟩)] (fun o=>(o.1,o.2.1)) (fun r=>(r.1,r.2,())) (fun _=>rfl) (fun x=>zT x.1)
def alE:FS:=mkHh [qy,akr,XV,ako] [(509,{cut:=[(.normal,⟨[fI,(11,gX),(12,GU)],[(6,.var 113 Of),(12,aex),(74,.row 252 u4)]⟩),(.ret,⟨[fI,(7,nx)],[(6,.var 113 Of)]⟩)]}),(511,{pre:=[.ba 74]}),(1018,{pre:=[.dz 13 69 (.row [] 9 .str []),.da 12 6 74 (.row [] 252 u4 [])],loop:=some ⟨[(2,eu),fI,(11,gX),(12,GU),(13,.c (.own 69)),mn],[(6,.var 113 Of),(12,aex),(69,dJ),(74,.row 252 u4)]⟩}),(130340,{rd:=[62]})] 87 ⟨(dH::dy::uO),[]⟩ [(false,⟨[(3000006,.st (.pair OR (.pair .str (.sl u4)))),(7,gX)],[]⟩)] (fun o=>(o.1,o.2.1)) (fun r=>(r.1,r.2,())) (fun _=>rfl) (fun x=>FC x.1 x.2.1 x.2.2.1)
def ai6:FS:=mkG [] [] 333 ⟨[(0,BZ)],[]⟩ gD fun x=>En x.1
def ai5:FS:=mkHh [ai6,J6] [(61,{cut:=[(.normal,⟨[ga,eM,fI],OV⟩),adN]}),(63,{pre:=[.ba 85,.ba 92]}),(122,{pre:=[.da 6 1 85 (.row [] 9 .str []),.da 6 2 92 (.row [] 3 eF [])],loop:=some ⟨(nr::dy::ga::eM::fI::iz),OV⟩}),(7830,{cut:=[(.normal,Vg)]}),(15660,{loop:=some Vg}),(62653,{cut:=[(.normal,Vg),adN]}),(125306,{loop:=some ⟨(nr::dy::ga::eM::fI::sZ::u7),OV⟩})] 234 ⟨[nr,dy],[]⟩ [adM] (fun o=>(o.1,o.2.1)) (fun r=>(r.1,r.2,())) (fun _=>rfl) (fun x=>zn x.1 x.2.1)
def ajN:FS:=mkHh [ai5,J6] [(29,{cut:=[(.normal,⟨[eM,(6,GN)],[G5,(47,.row 291 te)]⟩),(.ret,⟨[(4,xt),eM],[G5]⟩)]}),(31,{pre:=[.ba 47]}),(58,{pre:=[.dz 6 47 (.row [] 291 te [])],loop:=some ⟨[bW,eM,(6,GN),sZ,(8,dT)],[G5,(47,.row 291 te)]⟩})] 149 G3 [(false,⟨[(4,jV),(3000005,Hv)],[]⟩)] (fun o=>(o.1,o.2.1)) (fun r=>(r.1,r.2,())) (fun _=>rfl) (fun x=>Q2 x.1 x.2.1)
end
end Go.Proofs.YtejhifnjgoclpaaGreatDoor.Fx
