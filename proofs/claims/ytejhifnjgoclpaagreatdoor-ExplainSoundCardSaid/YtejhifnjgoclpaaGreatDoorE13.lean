/- Parts of the proofs, put together by a program. -/
import Derived.Test.YtejhifnjgoclpaaGreatDoorE12
set_option linter.unusedVariables false
set_option linter.unusedSimpArgs false
set_option linter.unusedSectionVars false
open Option renaming bind_some->aa7,map_some->at5
open List renaming getElem_mem->ab7,length_map->ae2,mem_append->ae5,getElem?_eq_getElem->ae6,length_append->ae7,length_cons->af2,append_nil->ag5,map_append->ag9,mem_singleton->ah3,mem_cons->ai3,length_take->am9,all_eq_true->ao3,mem_map->ar1,getElem_map->ar7,take_length->as1,append_assoc->as2,getElem?_eq_some_iff->as4,getElem_of_mem->at2,length_drop->at6,not_mem_nil->at9,length_singleton->au6,foldl_cons->au9,any_eq_true->aw9
open Nat renaming le_refl->ab8,zero_le->ae3,le_trans->an4,lt_trichotomy->ax0,not_lt_zero->ax6
open Bool renaming and_eq_true->ad0,not_true->ae8,not_false->am7,or_eq_true->at3
open Int renaming toNat_natCast->ae9,lt_irrefl->ak0
namespace Go.Proofs.YtejhifnjgoclpaaGreatDoor.Fx
open Go.RowKit
set_option maxRecDepth 1000000
noncomputable section
abbrev aY:=Int×Int×Int×Int×Int
def r6 (D:Nat->aY) (F:Nat->Nat->aY) (ns:List al):List aY:=aN (λi (n:al)=>D i::aN (λk (_:List UInt8)=>[F i k]) n.2.2 0) ns 0
theorem rP {α β:Type} (l:List α) (g:Nat->α->β) (j:Nat):(aN (λk x=>[g k x]) l j).length=l.length:=by
 induction l generalizing j with
 |nil=>rfl
 |cons x t D=>show([g j x]++aN _ t (j+1)).length=_;grind
theorem K5 (D:Nat->aY) (F:Nat->Nat->aY) (ns:List al) (h:bM ns):(r6 D F ns).length<=40:=by
 have:=iU (e:=λi n=>D i::aN (λk _=>[F i k]) n.2.2 0) (m:=5) ns 0 (λj J=>by have:=(h.dO _ (ab7 J)).2.2.1;rw[af2,rP];omega)
 have h2:=h.many;show(aN _ ns 0).length<=40;omega
theorem aoC (x:pt) (ns:List al) (h:bM ns):ab Jg (x,ns.map aO,((ns.map aO).length:Int),0,[],())=some (x,r6 (λi=>(1,(i:Int),0,0,0)) (λi k=>(2,(i:Int),(k:Int),0,0)) ns,()):=by
 have hm:=h.many;refine eX ns (λi n=>(1,(i:Int),0,0,0)::aN (λk _=>[(2,i,(k:Int),0,0)]) n.2.2 0) 5 0 (λk acc=>(x,ns.map aO,((ns.map aO).length:Int),(k:Int),acc,())) (λacc=>(x,acc,())) (λk hk=>?_) ?_ ?_ [] (ab8 _) rfl
 · have:=(h.dO _ (ab7 hk)).2.2.1;rw[af2,rP];omega
 · intro k hk acc L;have D:=aH k;have F: ∀{R:Type} (q:Option R),J (aa .i64 (k+1:Nat)) q=q:=λq=>aw (by omega)
   have O:k<(ns.map aO).length:=by grind
   have M:=(h.dO _ (ab7 hk)).2.2.1;have hf:(aO ns[k]).2.2=(ns[k]).2.2:=rfl;have inner:=eX (f:=Jh) (v0:=(x,k,ns.map aO,ns.length,k,((ns[k]).2.2.length),0,acc++[(1,(k:Int),0,0,0)],())) (ns[k]).2.2 (λj _=>[(2,(k:Int),(j:Int),0,0)]) 1 100 (λj acc=>(x,k,ns.map aO,ns.length,k,((ns[k]).2.2.length),j,acc,())) (λacc=>(x,ns.map aO,ns.length,k,acc,())) (by simp) ?_ ?_ (acc++[(1,(k:Int),0,0,0)]) (by grind) rfl
   · simp (disch:=omega) only[K0,Jg,ae2,ar7,hf,inner];grind
   · intro j N acc L;have D:=aH j;have F: ∀{R:Type} (q:Option R),J (aa .i64 (j+1:Nat)) q=q:=λq=>aw (by omega)
     simp (disch:=omega) only[K0,Jh,D,F]
   · simp[Jh]
 · simp[Jg]
def o7 (i:Nat) (e:bO):List aY:=r6 (λk=>(4,(i:Int),(k:Int),0,0)) (λk j=>(5,(i:Int),(k:Int),(j:Int),0)) e.2.2.2.2.2.2.1
theorem Yv (A:List aq) (hA:bu A) (c:pt) (hc:c.1=A.map bN) (i:Nat) (L:i<A.length):yy c (i:Int)=some (o7 i (A[i]).1):=by
 have h:=(hA.cV _ (ab7 L)).rY;unfold yy;rw[hc,kC L];show(ab I6 ((i:Int),(A[i]).1.2.2.2.2.2.2.1.map aO,(((A[i]).1.2.2.2.2.2.2.1.map aO).length:Int),0,[],())).bind _=_;unfold o7;generalize(A[i]).1.2.2.2.2.2.2.1=ns at h;have hm:=h.many;have O: ∀k (hk:k<ns.length),(((4,(i:Int),(k:Int),0,0):aY)::aN (λj (_:List UInt8)=>[(5,(i:Int),(k:Int),(j:Int),0)]) (ns[k]).2.2 0).length<=5:=by intro k hk;have:=(h.dO _ (ab7 hk)).2.2.1;rw[af2,rP];omega
 rw[eX ns (λk (n:al)=>((4,(i:Int),(k:Int),0,0):aY)::aN (λj (_:List UInt8)=>[(5,(i:Int),(k:Int),(j:Int),0)]) n.2.2 0) 5 0 (λk acc=>((i:Int),ns.map aO,((ns.map aO).length:Int),(k:Int),acc,())) (λacc=>(acc,())) O ?_ ?_ [] (ab8 _) ?st]
 case st=>rfl
 · rfl
 · intro k hk acc M;have D:=aH k;have F: ∀{R:Type} (q:Option R),J (aa .i64 ((k+1:Nat):Int)) q=q:=λq=>aw (show k+1<=4611686018427387904 by omega)
   have Y:k<(ns.map aO).length:=by grind
   have U:=(h.dO _ (ab7 hk)).2.2.1;have hf:(aO ns[k]).2.2=(ns[k]).2.2:=rfl;have inner:=eX (f:=I7) (v0:=((i:Int),(k:Int),ns.map aO,(ns.length:Int),(k:Int),((ns[k]).2.2.length:Int),0,acc++[(4,(i:Int),(k:Int),0,0)],())) (ns[k]).2.2 (λj (_:List UInt8)=>[((5,(i:Int),(k:Int),(j:Int),0):aY)]) 1 100 (λj acc=>((i:Int),(k:Int),ns.map aO,(ns.length:Int),(k:Int),((ns[k]).2.2.length:Int),(j:Int),acc,())) (λacc=>((i:Int),ns.map aO,(ns.length:Int),(k:Int),acc,())) (λj N=>ab8 _) ?_ ?_ (acc++[(4,(i:Int),(k:Int),0,0)]) (by rw[ae7,au6];omega) rfl
   · simp (disch:=omega) only[K0,I6,ae2,ar7,hf,inner];grind
   · intro j N acc M;have D:=aH j;have F: ∀{R:Type} (q:Option R),J (aa .i64 ((j+1:Nat):Int)) q=q:=λq=>aw (show j+1<=4611686018427387904 by omega)
     simp (disch:=omega) only[K0,I7,D,F]
   · simp[I7]
 · simp[I6]
def AY (A:List aq) (i:Nat) (s:List UInt8):List aY:=aN (λ_ y=>if decide ((i:Int)<y)=true then[(3,(i:Int),y,0,0)] else[]) (kJ A s) 0
def Nw (A:List aq) (i:Nat) (bs:List al):List aY:=aN (λk (n:al)=>aN (λ_ y=>[(9,(i:Int),(k:Int),y,0)]) (eT A n) 0) bs 0
def pf (A:List aq) (i:Nat) (e:bO):List aY:=AY A i e.1++Nw A i e.2.2.2.2.2.1
theorem abe (A:List aq) (s:List UInt8):(kJ A s).length<=A.length:=by
 have:=iU (e:=λi y=>if decide (y.1.1=s)=true then[(i:Int)] else[]) (m:=1) A 0 (by grind)
 rw[Nat.one_mul] at this;exact this
theorem YL (A:List aq) (i:Nat) (s:List UInt8):(AY A i s).length<=A.length:=by
 have:=iU (e:=λ_ y=>if decide ((i:Int)<y)=true then[((3,i,y,0,0):aY)] else[]) (m:=1) (kJ A s) 0 (by grind)
 have h2:=abe A s;show(aN _ _ 0).length<=_;omega
theorem apP (A:List aq) (i:Nat) (bs:List al):(Nw A i bs).length<=A.length*bs.length:=
 iU bs 0 (λj h=>by rw[rP];exact qC _ _)
theorem ZT (A:List aq) (hA:bu A) (c:pt) (hc:c.1=A.map bN) (i:Nat) (L:i<A.length):yF c (i:Int)=some (pf A i (A[i]).1):=by
 have hs:=hA.many;have he:=hA.cV _ (ab7 L);have O:=he.sn;have ho:=abe A (A[i]).1.1;have hp:=YL A i (A[i]).1.1;unfold yF;rw[hc,kC L];rw[show(bN A[i]).1.1=(A[i]).1.1 from rfl,of_eq A hs,aa7]
 have l1:=eX (f:=Jd) (v0:=(c,(i:Int),((kJ A (A[i]).1.1).length:Int),0,kJ A (A[i]).1.1,[],())) (kJ A (A[i]).1.1) (λ_ y=>if decide ((i:Int)<y)=true then[((3,(i:Int),y,0,0):aY)] else[]) 1 0 (λk acc=>(c,(i:Int),((kJ A (A[i]).1.1).length:Int),(k:Int),kJ A (A[i]).1.1,acc,())) (λacc=>(c,(i:Int),acc,())) (λk h=>rR _ _) ?_ ?_ [] (ab8 _) rfl
 · rw[l1,aa7];simp only[hc,kC L];show(ab Jb (c,(i:Int),(A[i]).1.2.2.2.2.2.1.map aO,(((A[i]).1.2.2.2.2.2.1.map aO).length:Int),0,AY A i (A[i]).1.1,())).bind _=_;unfold pf;have N:=he.pJ;generalize(A[i]).1.2.2.2.2.2.1=bs at N O;rw[eX bs (λk (n:al)=>aN (λ_ y=>[((9,(i:Int),(k:Int),y,0):aY)]) (eT A n) 0) 360 400 (λk acc=>(c,(i:Int),bs.map aO,((bs.map aO).length:Int),(k:Int),acc,())) (λacc=>(acc,())) (λk hk=>by rw[rP];have:=qC A bs[k];omega) ?_ ?_ (AY A i (A[i]).1.1) (by omega) ?st]
   case st=>rfl
   · rfl
   · intro k hk acc M;have D:=aH k;have F: ∀{R:Type} (q:Option R),J (aa .i64 ((k+1:Nat):Int)) q=q:=λq=>aw (show k+1<=4611686018427387904 by omega)
     have Z:k<(bs.map aO).length:=by grind
     have U:=T8 A hA bs[k] (N _ (ab7 hk)).2.1;have ah:=qC A bs[k];have inner:=eX (f:=Jc) (v0:=(c,(i:Int),(k:Int),bs.map aO,(bs.length:Int),(k:Int),((eT A bs[k]).length:Int),0,acc,eT A bs[k],())) (eT A bs[k]) (λ_ y=>[((9,(i:Int),(k:Int),y,0):aY)]) 1 10000 (λj acc=>(c,(i:Int),(k:Int),bs.map aO,(bs.length:Int),(k:Int),((eT A bs[k]).length:Int),(j:Int),acc,eT A bs[k],())) (λacc=>(c,(i:Int),bs.map aO,(bs.length:Int),(k:Int),acc,())) (λj Y=>ab8 _) ?_ ?_ acc (by omega) rfl
     · simp only[Jb,ae2,dY (show((k:Nat):Int)<(bs.length:Int) by omega),cond_true,au Z,ar7,hc,U,aa7,inner,D,F]
     · intro j Y acc M;have D:=aH j;have F: ∀{R:Type} (q:Option R),J (aa .i64 ((j+1:Nat):Int)) q=q:=λq=>aw (show j+1<=4611686018427387904 by omega)
       simp (disch:=omega) only[K0,Jc,D,F]
     · intro acc;simp only[Jc,ak0,decide_false,cond_false]
   · intro acc;simp only[Jb,ae2,ak0,decide_false,cond_false]
 · intro k hk acc M;have D:=aH k;have F: ∀{R:Type} (q:Option R),J (aa .i64 ((k+1:Nat):Int)) q=q:=λq=>aw (show k+1<=4611686018427387904 by omega)
   have c1:(0:Int)<=(k:Int)/\(k:Int)<((kJ A (A[i]).1.1).length:Int):=by omega
   simp (disch:=omega) only[K0,Jd,D,F,ag5];by_cases e:(i:Int)<(kJ A (A[i]).1.1)[k]
   · rw[dY e,cond_true,if_pos rfl]
   · rw[dN e,cond_false,if_neg (by decide),ag5]
 · intro acc;simp only[Jd,ak0,decide_false,cond_false]
def eP (e:bO) (s:List UInt8):Option fv:=if bG e.2.2.2.2.2.2.2 (λf=>decide (f.1=s))<0 then none else e.2.2.2.2.2.2.2[(bG e.2.2.2.2.2.2.2 (λf=>decide (f.1=s))).toNat]?
theorem ES {e:bO} {s:List UInt8} {f:fv} (h:eP e s=some f):f∈e.2.2.2.2.2.2.2:=by grind[eP]
def wU (i t:Nat) (e:bO) (w:Want):List aY:=if decide (w.1=e.1)=true then(match eP e w.2 with
 |none=>[(6,(i:Int),(t:Int),0,0)]
 |some f=>r6 (λk=>(7,(i:Int),(t:Int),(k:Int),0)) (λk j=>(8,(i:Int),(t:Int),(k:Int),(j:Int))) f.2) else[]
def n4 (T:bf) (i:Nat) (e:bO):List aY:=aN (λt w=>wU i t e w) T 0
theorem Za (i t:Nat) (e:bO) (he:dD e) (w:Want):(wU i t e w).length<=40:=by
 unfold wU;split
 · cases h:eP e w.2 with
   |none=>grind
   |some f=>exact K5 _ _ _ (he.qK (ES h))
 · grind
theorem Sm {α β:Type} (l:List α) (g:α->β) (p:β->Bool):bG (l.map g) p=bG l (λx=>p (g x)):=by unfold bG;rw[List.findIdx?_map];rfl
theorem aax (A:List aq) (hA:bu A) (c:pt) (hc:c.1=A.map bN) (hT:c.2.2.length<=60000) (i:Nat) (Y:i<A.length):yp c (i:Int)=some (n4 c.2.2 i (A[i]).1):=by
 have hs:=hA.many;have he:=hA.cV _ (ab7 Y);have Z:=he.iW;unfold yp n4;generalize aE:c.2.2=T at hT;rw[eX T (λt w=>wU i t (A[i]).1 w) 40 0 (λk acc=>(c,(i:Int),T,(T.length:Int),(k:Int),acc,())) (λacc=>(acc,())) (λk hk=>Za i k _ he _) ?_ ?_ [] (ab8 _) ?st]
 case st=>rfl
 · rfl
 · intro k hk acc U;have D:=aH k;have F: ∀{R:Type} (q:Option R),J (aa .i64 ((k+1:Nat):Int)) q=q:=λq=>aw (show k+1<=4611686018427387904 by omega)
   have hn:(bN A[i]).1.1=(A[i]).1.1:=rfl
   have ah: ∀s,qb (bN A[i]).1 s=some (bG (A[i]).1.2.2.2.2.2.2.2 (λf=>decide (f.1=s))):=by
    intro s;rw[My _ _ (by show(((A[i]).1.2.2.2.2.2.2.2.map ee).length)<=1000;rw[ae2];omega)]
    show some (bG ((A[i]).1.2.2.2.2.2.2.2.map ee) _)=_;rw[Sm];rfl
   have an:(bN A[i]).1.2.2.2.2.2.2.2=(A[i]).1.2.2.2.2.2.2.2.map ee:=rfl;simp only[PA,dY (show((k:Nat):Int)<(T.length:Int) by omega),cond_true,au hk,hc,kC Y,hn,ah,an,aa7,D,F]
   unfold wU;by_cases O:(T[k]).1=(A[i]).1.1
   · rw[dY O,ae8,cond_false,if_pos rfl];unfold eP;rcases kX (A[i]).1.2.2.2.2.2.2.2 (λf=>decide (f.1=(T[k]).2)) with⟨_,q⟩ |⟨j,L,_,q,_,_⟩
     · rw[q,dY (show(-1:Int)<0 by decide),cond_true,ib (by omega)]
       rfl
     · rw[q,dN (show¬(((j:Nat):Int)<0) by omega),cond_false,if_neg (by omega),ae9,ae6 L]
       simp only[];have ar:j<((A[i]).1.2.2.2.2.2.2.2.map ee).length:=by rw[ae2];exact L
       rw[au ar,ar7];have M:=he.qK (ab7 L);show(ab IQ (c,(i:Int),(k:Int),T,(T.length:Int),(k:Int),((A[i]).1.2.2.2.2.2.2.2[j]).2.map aO,((((A[i]).1.2.2.2.2.2.2.2[j]).2.map aO).length:Int),0,acc,())).bind _=_;generalize((A[i]).1.2.2.2.2.2.2.2[j]).2=ns at M;have hm:=M.many;have az: ∀k1 (hk:k1<ns.length),(((7,(i:Int),(k:Int),(k1:Int),0):aY)::aN (λj (_:List UInt8)=>[(8,(i:Int),(k:Int),(k1:Int),(j:Int))]) (ns[k1]).2.2 0).length<=5:=by intro k1 N;have:=(M.dO _ (ab7 N)).2.2.1;rw[af2,rP];omega
       rw[eX ns (λk1 (n:al)=>((7,(i:Int),(k:Int),(k1:Int),0):aY)::aN (λj (_:List UInt8)=>[(8,(i:Int),(k:Int),(k1:Int),(j:Int))]) n.2.2 0) 5 10000000 (λk1 acc=>(c,(i:Int),(k:Int),T,(T.length:Int),(k:Int),ns.map aO,((ns.map aO).length:Int),(k1:Int),acc,())) (λacc=>(c,(i:Int),T,(T.length:Int),(k:Int),acc,())) az ?_ ?_ acc (by omega) ?st]
       case st=>rfl
       · simp only[aa7,D,F];rfl
       · intro k1 N acc U;have D:=aH k1;have F: ∀{R:Type} (q:Option R),J (aa .i64 ((k1+1:Nat):Int)) q=q:=λq=>aw (show k1+1<=4611686018427387904 by omega)
         have av:k1<(ns.map aO).length:=by grind
         have Z:=(M.dO _ (ab7 N)).2.2.1;have hf:(aO ns[k1]).2.2=(ns[k1]).2.2:=rfl;have inner:=eX (f:=IS) (v0:=(c,(i:Int),(k:Int),(k1:Int),T,(T.length:Int),(k:Int),ns.map aO,(ns.length:Int),(k1:Int),((ns[k1]).2.2.length:Int),0,acc++[(7,(i:Int),(k:Int),(k1:Int),0)],())) (ns[k1]).2.2 (λj (_:List UInt8)=>[((8,(i:Int),(k:Int),(k1:Int),(j:Int)):aY)]) 1 100000000 (λj acc=>(c,(i:Int),(k:Int),(k1:Int),T,(T.length:Int),(k:Int),ns.map aO,(ns.length:Int),(k1:Int),((ns[k1]).2.2.length:Int),(j:Int),acc,())) (λacc=>(c,(i:Int),(k:Int),T,(T.length:Int),(k:Int),ns.map aO,(ns.length:Int),(k1:Int),acc,())) (λj L=>ab8 _) ?_ ?_ (acc++[(7,(i:Int),(k:Int),(k1:Int),0)]) (by rw[ae7,au6];omega) rfl
         · simp only[IQ,ae2,dY (show((k1:Nat):Int)<(ns.length:Int) by omega),cond_true,au av,ar7,hf,ib (x:=((7,(i:Int),(k:Int),(k1:Int),0):aY)) (show acc.length<=999999999 by omega),inner,aa7,D,F]
           rw[as2];rfl
         · intro j L acc U;have D:=aH j;have F: ∀{R:Type} (q:Option R),J (aa .i64 ((j+1:Nat):Int)) q=q:=λq=>aw (show j+1<=4611686018427387904 by omega)
           simp only[IS,dY (show((j:Nat):Int)<((ns[k1]).2.2.length:Int) by omega),cond_true,ib (x:=((8,(i:Int),(k:Int),(k1:Int),(j:Int)):aY)) (show acc.length<=999999999 by omega),D,F]
         · intro acc;simp only[IS,ak0,decide_false,cond_false]
       · intro acc;simp only[IQ,ae2,ak0,decide_false,cond_false]
   · rw[dN O,am7,cond_true,if_neg (by decide),ag5]
 · intro acc;simp only[PA,ak0,decide_false,cond_false]
def mU (A:List aq) (T:bf) (i:Nat) (e:bO):List aY:=(o7 i e++pf A i e)++n4 T i e
def iY (A:List aq) (R:List al) (T:bf):List aY:=r6 (λi=>(1,(i:Int),0,0,0)) (λi k=>(2,(i:Int),(k:Int),0,0)) R++aN (λi (y:aq)=>mU A T i y.1) A 0
theorem L3 (A:List aq) (hA:A.length<=360) (T:bf) (hT:T.length<=60000) (i:Nat) (e:bO) (he:dD e):(mU A T i e).length<=2000+40*T.length:=by have h1:(o7 i e).length<=40:=K5 _ _ _ he.rY;have h2:=YL A i e.1;have F:=apP A i e.2.2.2.2.2.1;have D:=he.sn;have J:(n4 T i e).length<=40*T.length:=iU T 0 (λj M=>Za i _ e he _);have L:=Nat.mul_le_mul hA D;unfold mU pf;simp[ae7];omega
theorem RY (A:List aq) (hA:bu A) (R:List al) (hR:bM R) (T:bf) (hT:T.length<=60000):(iY A R T).length<=40+(2000+40*T.length)*A.length:=by have h1:=K5 (λi=>(1,i,0,0,0)) (λi k=>(2,i,k,0,0)) R hR;have h2:=iU (e:=λi y=>mU A T i y.1) (m:=2000+40*T.length) A 0 (λj D=>L3 A hA.many T hT _ _ (hA.cV _ (ab7 D)));unfold iY;rw[ae7];omega
theorem anV (A:List aq) (hA:bu A) (c:pt) (hc:c.1=A.map bN) (hT:c.2.2.length<=400) (acc:List aY) (D:acc.length<=40):
  ab Jf (c,(c.1.length:Int),0,acc,())=some (acc++aN (λi (y:aq)=>mU A c.2.2 i y.1) A 0,()):=by
 have hs:=hA.many;have hlen:c.1.length=A.length:=by grind
 refine eX A (λi y=>mU A c.2.2 i y.1) 18000 40 (λk acc=>(c,(c.1.length:Int),(k:Int),acc,())) (λacc=>(acc,())) (λk hk=>?_) ?_ ?_ acc D rfl
 · have:=L3 A hs c.2.2 (by omega) k _ (hA.cV _ (ab7 hk));omega
 · intro k hk acc D;have M:=aH k;have N: ∀{R:Type} (q:Option R),J (aa .i64 (k+1)) q=q:=λq=>aw (by grind)
   have F:=L3 A hs c.2.2 (by omega) k _ (hA.cV _ (ab7 hk))
   unfold mU at F;simp_all;have c2:(acc++o7 k (A[k]).1).length+(pf A k (A[k]).1).length<=1000000000:=by grind
   have L:((acc++o7 k (A[k]).1)++pf A k (A[k]).1).length+(n4 c.2.2 k (A[k]).1).length<=1000000000:=by grind
   simp (disch:=omega) only[K0,Jf,Yv A hA c hc k hk,ZT A hA c hc k hk,aax A hA c hc (by omega) k hk]
   simp[mU]
 · simp[Jf,hlen]
def pG:aY->aY->Int:=fE (λx y=>aP x.1 y.1) (fE (λx y=>aP x.2.1 y.2.1) (fE (λx y=>aP x.2.2.1 y.2.2.1) (fE (λx y=>aP x.2.2.2.1 y.2.2.2.1) (λx y=>aP x.2.2.2.2 y.2.2.2.2))))
theorem Ap:et pG:=(lL.on (λx:aY=>x.1)).lex ((lL.on (λx:aY=>x.2.1)).lex ((lL.on (λx:aY=>x.2.2.1)).lex ((lL.on (λx:aY=>x.2.2.2.1)).lex (lL.on (λx:aY=>x.2.2.2.2)))))
theorem an6 {a b:aY} (h:pG a b=0):a=b:=by obtain⟨h1,h⟩:=oY h;obtain⟨h2,h⟩:=oY h;obtain⟨D,h⟩:=oY h;obtain⟨F,J⟩:=oY h;exact Prod.ext (gZ.1 h1) (Prod.ext (gZ.1 h2) (Prod.ext (gZ.1 D) (Prod.ext (gZ.1 F) (gZ.1 J))))
def MJ (a b c d e:Int):Int:=if a=0 then(if b=0 then(if c=0 then(if d=0 then e else d) else c) else b) else a
theorem or_eq (l:List Int) (D:l.length<=1000):Lb l=some ((l.find? λx=> !decide (x=0)).getD 0):=by
 unfold Lb;have main:=tI (f:=D5) l (λx=> !decide (x=0)) (λk=>(0,l,l.length,k,())) (λx=>.inr (x,())) (.inl (0,())) ?_ ?_ ?_
 · rw[kj main ?st]
   case st=>rfl
   cases(l.find? λx=> !decide (x=0))<;>rfl
 · intro k hk hp;have hp:decide (l[k]=0)=true:=by rw[Bool.not_eq_false'] at hp;exact hp
   simp only[D5,dY (show(k)<(l.length:Int) by omega),cond_true,au hk,dY (of_decide_eq_true hp),ae8,cond_false,aw (show k+1<=4611686018427387904 by omega),aH]
 · intro k hk hp;have hp:decide (l[k]=0)=false:=by rw[Bool.not_eq_true'] at hp;exact hp
   simp only[D5,dY (show(k)<(l.length:Int) by omega),cond_true,au hk,dN (of_decide_eq_false hp),am7]
 · simp[D5]
theorem akM (a b c d e:Int):(([a,b,c,d,e].find? λx=> !decide (x=0)).getD 0)=MJ a b c d e:=by
 unfold MJ;simp only[List.find?_cons];by_cases h1:a=0
 · grind
 · grind
theorem akT (a b:aY):qg a b=some (pG a b):=by unfold qg;simp only[zI,aa7];rw[or_eq _ (by simp),akM];rfl
theorem XG:il (λ_=>True) (λx y=>qg x y) pG:=Ap.ok (λx y _ _=>akT x y) (λx y _ _ h=>an6 h)
def tV (l:List aY):Prop:=l.Pairwise λx y=> ¬pG y x<0
theorem L2 (A:List aq) (hA:bu A) (R:List al) (hR:bM R) (hT:(ax A R).length<=400): ∃D,nK (bn A R)=some D/\D.Perm (iY A R (ax A R))/\tV D:=by
 have hs:=hA.many;have h1:(r6 (λi=>(1,i,0,0,0)) (λi k=>(2,i,k,0,0)) R).length<=40:=K5 _ _ R hR;have hlen:=RY A hA R hR (ax A R) (by omega)
 have hmul:(2000+40*(ax A R).length)*A.length<=18000*360:=Nat.mul_le_mul (by omega) hs
 obtain⟨o,M,F,N⟩:=ah1 XG (iY A R (ax A R)) (by simp) (by omega)
 refine⟨o,?_,F,N⟩;unfold nK;have J:=aoC (bn A R) R hR;rw[show(bn A R).2.1=R.map aO from rfl,J]
 have L:=anV A hA (bn A R) rfl hT _ h1;simp only[L,aa7];show(ya (iY A R (ax A R))).bind _=_;rw[M];exact ai F.length_eq.symm
abbrev bT:=aY×List Int
def kA:Int->Int->Int:=fE (λx y=>aP (x.natAbs:Int) (y.natAbs:Int)) aP
theorem Ak:et kA:=(lL.on (λx:Int=>x.natAbs)).lex lL
theorem YU {a b:Int} (h:kA a b=0):a=b:=gZ.1 (oY h).2
theorem ZV {a b:Int}:aP a b<0<->a<b:=by grind[aP]
theorem Al {a b:Int}:ot a b=true<->kA a b<0:=by
 have hu:kA a b=if aP a.natAbs b.natAbs=0 then aP a b else aP a.natAbs b.natAbs:=rfl
 unfold ot;rw[hu,at3,ad0,decide_eq_true_eq,decide_eq_true_eq,decide_eq_true_eq];by_cases e:a.natAbs=b.natAbs
 · rw[if_pos (gZ.2 (by omega)),ZV]
   omega
 · rw[if_neg (λg=>e (by have:=gZ.1 g;omega)),ZV]
   omega
def oO (l:List Int):Prop:=l.Pairwise λx y=>kA x y<0
theorem Sg {x z:Int}: ∀{l:List Int},z∈xd x l<->z=x\/z∈l
 |[]=>by show z∈[x]<->_;rw[ah3];exact⟨.inl,λh=>h.elim id (by simp)⟩
 |y::t=>by
  show z∈(if ot x y then x::y::t else if x=y then y::t else y::xd x t)<->_
  split
  · grind
  · split
    · grind
    · rw[ai3,Sg];constructor
      · grind
      · grind
theorem Xz {x:Int}: ∀{l:List Int},oO l->oO (xd x l)
 |[],_=>List.pairwise_singleton _ _
 |y::t,h=>by
  obtain⟨h1,h2⟩:=List.pairwise_cons.1 h;show oO (if ot x y then x::y::t else if x=y then y::t else y::xd x t)
  by_cases e:ot x y=true
  · rw[if_pos e];have e:=Al.1 e;refine List.pairwise_cons.2 ⟨λz D=>?_,h⟩;rcases ai3.1 D with rfl |D
    · omega
    · have:=h1 z D;exact Ak.xN e (by omega)
  · rw[if_neg e];by_cases g:x=y
    · grind
    · rw[if_neg g];have F: ¬kA x y<0:=λq=>e (Al.2 q);have J: ¬kA x y=0:=λq=>g (YU q);have L:=Ak.neg x y;refine List.pairwise_cons.2 ⟨λz D=>?_,Xz h2⟩;rcases Sg.1 D with rfl |D
      · omega
      · grind
theorem tC: ∀(l:List Int),oO (bV l)/\ ∀z,z∈bV l<->z∈l
 |[]=>⟨List.Pairwise.nil,λz=>Iff.rfl⟩
 |x::t=>by obtain⟨h1,h2⟩:=tC t;refine⟨Xz h1,λz=>?_⟩;show z∈xd x (bV t)<->_;rw[Sg,h2,ai3]
theorem Mo {l m:List Int} (h1:oO m) (h2: ∀z,z∈m<->z∈l):m=bV l:=by obtain⟨a,b⟩:=tC l;exact J7 Ak h1 a λz=>(h2 z).trans (b z).symm
theorem al1 {l m:List Int} (h: ∀z,z∈l<->z∈m):bV l=bV m:=Mo (tC l).1 λz=>((tC l).2 z).trans (h z)
theorem oO.nodup {l:List Int} (h:oO l):l.Nodup:=h.imp λ{a b} q e=>by rw[e,Ak.self] at q;exact absurd q (by simp)
theorem KV {α:Type} [DecidableEq α]: ∀{l m:List α},l.Nodup->(∀z∈l,z∈m)->l.length<=m.length
 |[],m,_,_=>ae3 _
 |x::t,m,J,h=>by
  obtain⟨h1,h2⟩:=List.nodup_cons.1 J;have D:=h x List.mem_cons_self;have e:=List.length_erase_of_mem D;have hp:=List.length_pos_of_mem D;have:=KV (m:=m.erase x) h2 (λz F=>(List.mem_erase_of_ne (λq=>h1 (by rw[<-q];exact F))).2 (h z (List.mem_cons_of_mem _ F)))
  rw[af2];omega
theorem L0 (l:List Int):(bV l).length<=l.length:=KV (tC l).1.nodup λz D=>((tC l).2 z).1 D
def dV (l:List Int):Prop:= ∀x∈l,-1000000<=x/\x<=1000000
def cN (n:Nat) (T:bf) (w:Want):Int:=if bG T (λx=>decide (x=w))<0 then 0 else(n:Int)+bG T (λx=>decide (x=w))+1
theorem Et (n:Nat) (T:bf) (w:Want):0<=cN n T w/\cN n T w<=(n:Int)+(T.length:Int):=by
 unfold cN;rcases kX T (λx=>decide (x=w)) with⟨_,q⟩ |⟨j,D,_,q,_,_⟩
 · omega
 · omega
def lR (A:List aq) (T:bf) (F:Nat->aY) (J:Nat->Nat->aY) (D:List Int) (ns:List al):List bT:=
 aN (λi (n:al)=>(F i,bV (D++fq A n))::aN (λk f=>[(J i k,bV (D++[cN A.length T (n.1,f)]))]) n.2.2 0) ns 0
def mkNA (b:aY) (i:Nat):aY:=if b.1=4 then(b.1,b.2.1,(i:Int),b.2.2.2.1,b.2.2.2.2) else if b.1=7 then(b.1,b.2.1,b.2.2.1,(i:Int),b.2.2.2.2) else(b.1,(i:Int),b.2.2.1,b.2.2.2.1,b.2.2.2.2)
def mkNS (b:aY) (i:Nat):aY:=if b.1=4 then(b.1+1,b.2.1,(i:Int),b.2.2.2.1,b.2.2.2.2) else if b.1=7 then(b.1+1,b.2.1,b.2.2.1,(i:Int),b.2.2.2.2) else(b.1+1,(i:Int),b.2.2.1,b.2.2.2.1,b.2.2.2.2)
def mkNB (b:aY) (i k:Nat):aY:=if b.1=4 then((mkNS b i).1,(mkNS b i).2.1,(mkNS b i).2.2.1,(k:Int),(mkNS b i).2.2.2.2) else if b.1=7 then((mkNS b i).1,(mkNS b i).2.1,(mkNS b i).2.2.1,(mkNS b i).2.2.2.1,(k:Int)) else((mkNS b i).1,(mkNS b i).2.1,(k:Int),(mkNS b i).2.2.2.1,(mkNS b i).2.2.2.2)
theorem tP {a b:List Int} (D:dV a) (F:dV b):dV (a++b):=λx J=>(ae5.1 J).elim (D x) (F x)
theorem Fe (A:List aq) (hA:A.length<=360) (n:al):dV (fq A n):=λx D=>by have:=amZ D;omega
theorem wj {x:Int} (h: -1000000<=x/\x<=1000000):dV [x]:=λy D=>by rw[ah3.1 D];exact h
def neg (i:Int):Int:=0 - (i+1)
theorem o6 {x y:Int} (h: -1000000<=x/\x<=1000000) (h': -1000000<=y/\y<=1000000):dV [x,y]:=λz D=>by grind
theorem Sv (e:bO) (s:List UInt8) (D:e.2.2.2.2.2.2.2.length<=1000):tM e s=some (bG e.2.2.2.2.2.2.2 λf=>decide (f.1=s)):=by
 unfold tM bG;have main:=iT (f:=Ey) e.2.2.2.2.2.2.2 (λf=>decide (f.1=s)) (λk=>(s,k,e.1,e.2.1,e.2.2.1,e.2.2.2.1,e.2.2.2.2.1,e.2.2.2.2.2.1,e.2.2.2.2.2.2.1,e.2.2.2.2.2.2.2,())) (λk=>.inr (k,())) (.inl ()) ?_ ?_ ?_
 · grind
 · intro k hk hp;have hp:=of_decide_eq_false hp;simp (disch:=omega) only[K0,Ey]
 · intro k hk hp;have hp:=of_decide_eq_true hp;simp (disch:=omega) only[K0,Ey]
 · simp[Ey]
def uu (A:List aq) (i:Nat) (s:List UInt8):List bT:=aN (λk (y:aq)=>if decide (y.1.1=s)=true then[((3,(i:Int),((i+1+k:Nat):Int),0,0),bV [neg i,neg ((i+1+k:Nat):Int)])] else[]) (A.drop (i+1)) 0
def sj (A:List aq) (T:bf) (i t:Nat) (e:bO) (w:Want):List bT:=if decide (w.1=e.1)=true then(match eP e w.2 with
 |none=>[((6,(i:Int),(t:Int),0,0),[neg i,neg ((A.length:Int)+(t:Int))])]
 |some f=>lR A T (mkNA (7,(i:Int),(t:Int),0,0)) (mkNB (7,(i:Int),(t:Int),0,0)) [neg i,neg ((A.length:Int)+(t:Int))] f.2) else[]
def AR (A:List aq) (T:bf) (i:Nat) (e:bO):List bT:=aN (λt w=>sj A T i t e w) T 0
def Gz (A:List aq) (i:Nat) (bs:List al):List bT:=aN (λk (n:al)=>aN (λ_ y=>[((9,(i:Int),(k:Int),y,0),bV [neg i,neg y])]) (eT A n) 0) bs 0
def mR (A:List aq) (T:bf) (i:Nat) (e:bO):List bT:=((uu A i e.1++lR A T (mkNA (4,(i:Int),0,0,0)) (mkNB (4,(i:Int),0,0,0)) [neg i] e.2.2.2.2.2.2.1)++AR A T i e)++Gz A i e.2.2.2.2.2.1
def lp (A:List aq) (R:List al) (T:bf):List bT:=lR A T (mkNA (1,0,0,0,0)) (mkNB (1,0,0,0,0)) [] R++aN (λi (y:aq)=>mR A T i y.1) A 0
theorem Q0 (A:List aq) (T:bf) (D:Nat->aY) (F:Nat->Nat->aY) (J:List Int) (ns:List al):(lR A T D F J ns).map (·.1)=r6 D F ns:=by unfold lR r6;rw[tR];congr 1;funext i n;rw[List.map_cons,tR];rfl
theorem mk_1:mkNA (1,0,0,0,0)=(λ(i:Nat)=>((1,(i:Int),0,0,0):aY))/\mkNB (1,0,0,0,0)=(λ(i k:Nat)=>((2,(i:Int),(k:Int),0,0):aY)):=by grind[mkNA,mkNB,mkNS]
theorem mk_4 (i:Int):mkNA (4,i,0,0,0)=(λ(k:Nat)=>((4,i,(k:Int),0,0):aY))/\mkNB (4,i,0,0,0)=(λ(k j:Nat)=>((5,i,(k:Int),(j:Int),0):aY)):=by grind[mkNA,mkNB,mkNS]
theorem mk_7 (i t:Int):mkNA (7,i,t,0,0)=(λ(k:Nat)=>((7,i,t,(k:Int),0):aY))/\mkNB (7,i,t,0,0)=(λ(k j:Nat)=>((8,i,t,(k:Int),(j:Int)):aY)):=by
 refine⟨funext λk=>?_,funext λk=>funext λj=>?_⟩
 · rfl
 · rfl
theorem SD {α β:Type} {e:Nat->α->List β}: ∀(l m:List α) (k:Nat),aN e (l++m) k=aN e l k++aN e m (k+l.length)
 |[],m,k=>rfl
 |x::t,m,k=>by show e k x++aN e (t++m) (k+1)=(e k x++aN e t (k+1))++_;rw[SD t m (k+1),as2,af2,show k+(t.length+1)=k+1+t.length by omega]
theorem Yi {α β:Type} {e:Nat->α->List β} (d:Nat): ∀(l:List α) (k:Nat),aN e l (d+k)=aN (λj x=>e (d+j) x) l k
 |[],k=>rfl
 |x::t,k=>by show e (d+k) x++aN e t (d+k+1)=_;rw[show d+k+1=d+(k+1) by omega,Yi d t (k+1)];rfl
theorem apJ {α β γ:Type} {e:Nat->α->List β} {g:β->List γ}: ∀(l:List α) (k j:Nat),aN (λ_ y=>g y) (aN e l k) j=aN (λk x=>aN (λ_ y=>g y) (e k x) 0) l k:=by
 have F: ∀l (k j),aN (λ_ y=>g y) l k=aN (λ_ y=>g y) l j:=by
  intro l
  induction l with
  |nil=>intro k j;rfl
  |cons x t D=>intro k j;show g x++aN _ t (k+1)=g x++aN _ t (j+1);rw[D (k+1) (j+1)]
 intro l
 induction l with
 |nil=>intro k j;rfl
 |cons x t D=>intro k j;show aN (λ_ y=>g y) (e k x++aN e t (k+1)) j=aN (λ_ y=>g y) (e k x) 0++aN _ t (k+1);rw[SD,D,F (e k x) j 0]
theorem SC {α β:Type} {e:Nat->α->List β}: ∀(l:List α) (k:Nat),(∀j (h:j<l.length),e (k+j) l[j]=[])->aN e l k=[]
 |[],k,_=>rfl
 |x::t,k,h=>by show e k x++aN e t (k+1)=[];rw[show e k x=[] from h 0 (Nat.zero_lt_succ _),SC t (k+1) (λj D=>by have:=h (j+1) (Nat.succ_lt_succ D);rw[show k+1+j=k+(j+1) by omega];exact this)];rfl
theorem anC (A:List aq) (i:Nat) (J:i<A.length) (s:List UInt8):(uu A i s).map (·.1)=AY A i s:=by
 have h0:A=A.take (i+1)++A.drop (i+1):=(List.take_append_drop _ _).symm;unfold uu AY kJ;rw[tR,apJ]
 conv=>rhs;rw[h0,SD]
 have D:(A.take (i+1)).length=i+1:=by grind
 rw[SC (A.take (i+1)) 0,D,Nat.zero_add,Yi (i+1) (A.drop (i+1+0)) 0]
 · congr 1;funext k y;by_cases q:y.1.1=s
   · simp (disch:=omega) only[K0];show _=(if decide (i<((i+1+k):Int))=true then _ else _)++[]
     simp (disch:=omega) only[K0];rfl
   · simp (disch:=omega) only[K0];rfl
 · intro j F;rw[D] at F;by_cases q:((A.take (i+1))[j]'(by omega)).1.1=s
   · rw[dY q];show(if decide (i<((0+j):Int))=true then _ else _)++[]=[]
     grind
   · rw[dN q];rfl
theorem anB (A:List aq) (T:bf) (i:Nat) (D:i<A.length) (e:bO):((mR A T i e).map (·.1)).Perm (mU A T i e):=by
 unfold mR;simp only[ag9];rw[anC A i D,Q0,(mk_4 i).1,(mk_4 i).2]
 have h1:(AR A T i e).map (·.1)=n4 T i e:=by
  unfold AR n4;rw[tR];congr 1;funext t w;unfold sj wU;by_cases q:w.1=e.1
  · rw[dY q,if_pos rfl,if_pos rfl];cases eP e w.2 with
    |none=>rfl
    |some f=>simp only[];rw[Q0,(mk_7 i t).1,(mk_7 i t).2]
  · grind
 have h2:(Gz A i e.2.2.2.2.2.1).map (·.1)=Nw A i e.2.2.2.2.2.1:=by unfold Gz Nw;rw[tR];congr 1;funext k n;rw[tR];rfl
 rw[h1,h2];unfold mU pf o7;rw[List.perm_iff_count];intro z;simp only[List.count_append];omega
theorem RX (A:List aq) (R:List al) (T:bf):((lp A R T).map (·.1)).Perm (iY A R T):=by unfold lp iY;rw[ag9,Q0,tR];refine(List.Perm.refl _).append (Zj A 0 λj D=>?_);rw[Nat.zero_add];exact anB A T j D _
theorem Sa (a b:Want):D4 a b=some (cT a b):=by grind[D4,DR,Lc]
theorem mv.nth {T:bf} (h:mv T) {i j:Nat} (D:i<j) (F:j<T.length):cT (T[i]'(by omega)) T[j]<0:=List.pairwise_iff_getElem.1 h i j (by omega) F D
theorem am3 (T:bf) (hs:mv T) (hT:T.length<=60000) (w:Want): ∃i:Int,Ir T w=some (i,T.any λx=>decide (x=w))/\(T.any (λx=>decide (x=w))=true->i=bG T λx=>decide (x=w)):=by
 have main:=mF (f:=CH)
  (λv=> ∃i j:Nat,v=(T,(T.length:Int),(i:Int),(j:Int),w.1,w.2,())/\i<=j/\j<=T.length/\(∀t (h:t<T.length),t<i->cT T[t] w<0)/\(∀t (h:t<T.length),j<=t-> ¬cT T[t] w<0))
  (λv=>(v.2.2.2.1 - v.2.2.1).toNat)
  (λr=> ∃i:Nat,r=(T,(T.length:Int),(i:Int),w.1,w.2,())/\i<=T.length/\(∀t (h:t<T.length),t<i->cT T[t] w<0)/\(∀t (h:t<T.length),i<=t-> ¬cT T[t] w<0)) ?_
  (T,(T.length:Int),0,(T.length:Int),w.1,w.2,()) ⟨0,T.length,rfl,ae3 _,ab8 _,λt h q=>absurd q (by omega),λt h q=>absurd q (by omega)⟩
 · obtain⟨r,Y,i,rfl,Z,M,up⟩:=main;unfold Ir;rw[Y,aa7];by_cases h:i<T.length
   · simp only[dY (show((i:Nat):Int)<(T.length:Int) by omega),cond_true,au h,Sa,aa7]
     by_cases e:cT T[i] w=0
     · have L:=KT e;have F:(T.any λx=>decide (x=w))=true:=aw9.2 ⟨T[i],ab7 h,decide_eq_true L⟩;refine⟨(i:Int),by rw[F];show some ((i:Int),decide (cT T[i] w=0))=_;rw[dY e],λ_=>?_⟩
       rcases kX T (λx=>decide (x=w)) with⟨q,_⟩ |⟨j,D,_,q,p,_⟩
       · rw[F] at q;cases q
       · rw[q];have p:=of_decide_eq_true p;have O:cT T[j] w=0:=by rw[p];exact ke.self w
         rcases ax0 i j with d |d |d
         · have:=hs.nth d D;rw[p] at this;omega
         · rw[d]
         · have:=hs.nth d h;rw[L] at this;omega
     · have F:(T.any λx=>decide (x=w))=false:=by
         rw[List.any_eq_false];intro x N q;obtain⟨j,D,rfl⟩:=at2 N;have q:=of_decide_eq_true q;have O:cT T[j] w=0:=by rw[q];exact ke.self w
         rcases ax0 i j with d |d |d
         · have:=hs.nth d D;rw[q] at this;exact up i h (ab8 _) this
         · subst d;exact e O
         · have:=M j D d;omega
       refine⟨(i:Int),by rw[F];show some ((i:Int),decide (cT T[i] w=0))=_;rw[dN e],λq=>by rw[F] at q;cases q⟩
   · have F:(T.any λx=>decide (x=w))=false:=by
       rw[List.any_eq_false];intro x N q;obtain⟨j,D,rfl⟩:=at2 N;have q:=of_decide_eq_true q;have O:cT T[j] w=0:=by rw[q];exact ke.self w
       have:=M j D (by omega)
       omega
     refine⟨(i:Int),?_,λq=>by rw[F] at q;cases q⟩
     simp only[dN (show¬((i:Nat):Int)<(T.length:Int) by omega),cond_false]
     rw[F]
 · rintro v ⟨i,j,rfl,ah,D,M,up⟩;by_cases d:i<j
   · have c1:aa .i64 ((i:Int)+(j:Int)):=bd (by omega)
     have hm:(i+j)/2<T.length:=by omega
     have U: ∀{R:Type} (q:Option R),J (aa .i64 (((i+j)/2+1:Nat):Int)) q=q:=λq=>aw (show(i+j)/2+1<=4611686018427387904 by omega)
     have hc:=aH ((i+j)/2);have L:(w.1,w.2)=w:=rfl;by_cases g:cT T[(i+j)/2] w<0
     · refine .inl ⟨(T,(T.length:Int),(((i+j)/2+1:Nat):Int),(j:Int),w.1,w.2,()),?_,⟨(i+j)/2+1,j,rfl,by omega,D,λt h q=>?_,up⟩,?_⟩
       · simp only[CH,dY (show(i:Int)<(j:Int) by omega),cond_true,ai c1,ai (show(0:Int)<=1 by decide),AA i j (by omega),au hm,L,Sa,aa7,dY g,hc,U]
       · by_cases e:t=(i+j)/2
         · subst e;exact g
         · exact ke.xN (hs.nth (show t<(i+j)/2 by omega) hm) (by omega)
       · show((j:Int) - (((i+j)/2+1:Nat):Int)).toNat<((j:Int) - (i:Int)).toNat;omega
     · refine .inl ⟨(T,(T.length:Int),(i:Int),(((i+j)/2:Nat):Int),w.1,w.2,()),?_,⟨i,(i+j)/2,rfl,by omega,by omega,M,λt h q=>?_⟩,?_⟩
       · simp only[CH,dY (show(i:Int)<(j:Int) by omega),cond_true,ai c1,ai (show(0:Int)<=1 by decide),AA i j (by omega),au hm,L,Sa,aa7,dN g,cond_false]
       · by_cases e:t=(i+j)/2
         · subst e;exact g
         · intro z;have:=hs.nth (show(i+j)/2<t by omega) h
           exact g (ke.xN this (by omega))
       · show((((i+j)/2:Nat):Int) - (i:Int)).toNat<((j:Int) - (i:Int)).toNat;omega
   · have e:i=j:=by omega
     subst e;refine .inr ⟨(T,(T.length:Int),(i:Int),w.1,w.2,()),?_,i,rfl,D,M,up⟩;simp only[CH,ak0,decide_false,cond_false]
theorem var_eq (c:pt) (hs:mv c.2.2) (hT:c.2.2.length<=60000) (L:c.1.length<=360) (w:Want):qe c w=some (cN c.1.length c.2.2 w):=by
 unfold qe cN;obtain⟨i,F,D⟩:=am3 c.2.2 hs hT w;rw[F];rcases kX c.2.2 (λx=>decide (x=w)) with⟨q,p⟩ |⟨j,J,_,p,_,q⟩
 · grind
 · have D:=D q;rw[p] at D;rw[p];subst D;have c1:aa .i64 (c.1.length+j):=bd (by omega)
   simp (disch:=omega) only[K0,q]
theorem aqx {l:List Int} (h:dV l):Uk l=true:=by unfold Uk;rw[ao3];intro x D;obtain⟨a,b⟩:=h x D;rw[dY a,dY b];rfl
theorem ua (l:List Int) (h:dV l) (D:l.length<=1000000):mC l=some (bV l,l):=by unfold mC;rw[aqx h,dY D];rfl
theorem Y0 (s:List aY) (hs:s.length<=100000000) (v:aY):nH s v=some (s.any λx=>decide (x=v)):=by
 unfold nH PQ;have main:=iT (f:=CX) s (λx=>decide (x=v)) (λk=>(s,s.length,k,v.1,v.2.1,v.2.2.1,v.2.2.2.1,v.2.2.2.2,())) (λk=>.inr (k,())) (.inl ()) ?_ ?_ ?_
 · rw[kj main ?st]
   case st=>rfl
   have F:=o9 s (λx=>decide (x=v)) inferInstance;rw[<-F];unfold bG;cases s.findIdx? (λx=>decide (x=v))<;>rfl
 · intro k hk hp;have hp:=of_decide_eq_false hp;have D:(decide (v.1=(s[k]).1)&&(decide (v.2.1=(s[k]).2.1)&&(decide (v.2.2.1=(s[k]).2.2.1)&&(decide (v.2.2.2.1=(s[k]).2.2.2.1)&&decide (v.2.2.2.2=(s[k]).2.2.2.2)))))=false:=by grind
   simp (disch:=omega) only[K0,CX,D]
 · intro k hk hp;have hp:=of_decide_eq_true hp;have D:(decide (v.1=(s[k]).1)&&(decide (v.2.1=(s[k]).2.1)&&(decide (v.2.2.1=(s[k]).2.2.1)&&(decide (v.2.2.2.1=(s[k]).2.2.2.1)&&decide (v.2.2.2.2=(s[k]).2.2.2.2)))))=true:=by grind
   simp (disch:=omega) only[K0,CX,D]
 · simp[CX]
theorem abO (s:List aY) (v:aY):(s.any λx=>decide (x=v))=decide (v∈s):=by grind
theorem Q1 {D:Nat->aY} {F:Nat->Nat->aY} {ns:List al} {f:aY} (h:f∈r6 D F ns):(∃i,f=D i)\/ ∃i k,f=F i k:=by
 obtain⟨i,J,h⟩:=dG.1 h;rcases ai3.1 h with h |h
 · grind
 · obtain⟨k,hk,h⟩:=dG.1 h;exact .inr ⟨i,k,ah3.1 h⟩
theorem Xj {i:Nat} {e:bO} {f:aY} (h:f∈o7 i e):(f.1=4\/f.1=5)/\f.2.1=(i:Int):=by
 rcases Q1 h with⟨k,rfl⟩ |⟨k,j,rfl⟩
 · grind
 · grind
theorem X2 {A:List aq} {i:Nat} {e:bO} {f:aY} (h:f∈pf A i e):(f.1=3\/f.1=9)/\f.2.1=(i:Int):=by
 rcases ae5.1 h with h |h
 · obtain⟨k,hk,h⟩:=dG.1 h;split at h
   · grind
   · grind
 · obtain⟨k,hk,h⟩:=dG.1 h;obtain⟨j,D,h⟩:=dG.1 h;rw[ah3.1 h];exact⟨.inr rfl,rfl⟩
theorem Yd {T:bf} {i:Nat} {e:bO} {f:aY} (h:f∈n4 T i e):(f.1=6\/f.1=7\/f.1=8)/\f.2.1=(i:Int):=by
 obtain⟨t,D,h⟩:=dG.1 h;unfold wU at h;split at h
 · cases g:eP e (T[t]).2 with
   |none=>grind
   |some x=>
    rw[g] at h;rcases Q1 h with⟨k,rfl⟩ |⟨k,j,rfl⟩
    · grind
    · grind
 · grind
theorem FB {A:List aq} {R:List al} {T:bf} {f:aY} (h:f∈iY A R T):(f.1=1\/f.1=2)\/ ∃i,∃D:i<A.length,f.2.1=(i:Int)/\(((f.1=4\/f.1=5)/\f∈o7 i (A[i]).1)\/((f.1=3\/f.1=9)/\f∈pf A i (A[i]).1)\/((f.1=6\/f.1=7\/f.1=8)/\f∈n4 T i (A[i]).1)):=by
 rcases ae5.1 h with h |h
 · rcases Q1 h with⟨k,rfl⟩ |⟨k,j,rfl⟩
   · omega
   · omega
 · obtain⟨i,D,h⟩:=dG.1 h;refine .inr ⟨i,D,?_⟩;rcases ae5.1 h with h |h
   · rcases ae5.1 h with h |h
     · exact⟨(Xj h).2,.inl ⟨(Xj h).1,h⟩⟩
     · exact⟨(X2 h).2,.inr (.inl ⟨(X2 h).1,h⟩)⟩
   · exact⟨(Yd h).2,.inr (.inr ⟨(Yd h).1,h⟩)⟩
theorem aoG {A:List aq} {R:List al} {T:bf} {f:aY} {i:Nat} (D:i<A.length) (h:f∈mU A T i (A[i]).1):f∈iY A R T:=ae5.2 (.inr (dG.2 ⟨i,D,h⟩))
theorem ZA (A:List aq) (hA:bu A) (R:List al) (hR:bM R) (hT:(ax A R).length<=400) (f:aY):lK (bn A R) f=some (decide (f∈iY A R (ax A R))):=by
 have hs:=hA.many;obtain⟨M,g1,g2,_⟩:=L2 A hA R hR hT;have hlen:=RY A hA R hR (ax A R) (by omega)
 have hmul:(2000+40*(ax A R).length)*A.length<=18000*360:=Nat.mul_le_mul (by omega) hs
 have an:=g2.length_eq
 have ah:nH M f=some (decide (f∈iY A R (ax A R))):=by
  rw[Y0 M (by omega),abO]
  congr 1;by_cases h:f∈iY A R (ax A R)
  · rw[dY h,dY (g2.mem_iff.2 h)]
  · rw[dN h,dN (λq=>h (g2.mem_iff.1 q))]
 have N:(bn A R).1.length=A.length:=by show(A.map bN).length=_;rw[ae2]
 have L:(∀q:f∈iY A R (ax A R),False)->decide (f∈iY A R (ax A R))=false:=λq=>dN (λh=>q h) _;unfold lK;by_cases U:f.1<1
 · rw[dY U,cond_true,L];intro h;rcases FB h with h |⟨i,F,_,h⟩<;>omega
 rw[dN U,cond_false];by_cases Z:9<f.1
 · rw[dY Z,cond_true,L];intro h;rcases FB h with h |⟨i,F,_,h⟩<;>omega
 rw[dN Z,cond_false];by_cases k1:f.1=1
 · grind
 rw[dN k1,cond_false];by_cases k2:f.1=2
 · rw[dY k2,cond_true,g1,aa7,ah];rfl
 rw[dN k2,cond_false];by_cases n0:f.2.1<0
 · rw[dY n0,cond_true,L];intro h;rcases FB h with h |⟨i,F,_,h⟩<;>omega
 rw[dN n0,cond_false];by_cases n1:(A.length:Int)<=f.2.1
 · rw[dY (by rw[N];exact n1),cond_true,L]
   intro h;rcases FB h with h |⟨i,F,_,h⟩<;>omega
 rw[dN (by rw[N];exact n1),cond_false]
 obtain⟨i,F⟩: ∃i:Nat,f.2.1=(i:Int):=⟨f.2.1.toNat,by omega⟩
 have J:i<A.length:=by omega
 have he:=hA.cV _ (ab7 J);have O:=L3 A hs (ax A R) (by omega) i (A[i]).1 he
 unfold mU at O;simp only[ae7] at O
 have same: ∀{P:Prop} (s:List aY),s.length<=100000000->(f∈s->f∈mU A (ax A R) i (A[i]).1)->(f∈iY A R (ax A R)->f∈s)->nH s f=some (decide (f∈iY A R (ax A R))):=by
  intro P s h1 h2 h3;rw[Y0 s h1,abO];congr 1;by_cases h:f∈iY A R (ax A R)
  · rw[dY h,dY (h3 h)]
  · rw[dN h,dN (λq=>h (aoG J (h2 q)))]
 have D:f∈iY A R (ax A R)->(((f.1=4\/f.1=5)/\f∈o7 i (A[i]).1)\/((f.1=3\/f.1=9)/\f∈pf A i (A[i]).1)\/((f.1=6\/f.1=7\/f.1=8)/\f∈n4 (ax A R) i (A[i]).1)):=by
  intro h;rcases FB h with h |⟨j,hj,e,h⟩
  · omega
  · have:j=i:=by omega
    subst this;exact h
 have s1:=same (P:=True) (o7 i (A[i]).1) (by omega) (λq=>ae5.2 (.inl (ae5.2 (.inl q))))
 have s2:=same (P:=True) (pf A i (A[i]).1) (by omega) (λq=>ae5.2 (.inl (ae5.2 (.inr q))))
 have s3:=same (P:=True) (n4 (ax A R) i (A[i]).1) (by omega) (λq=>ae5.2 (.inr q))
 have q1:=Yv A hA (bn A R) rfl i J;have q2:=ZT A hA (bn A R) rfl i J;have q3:yp (bn A R) (i:Int)=some (n4 (ax A R) i (A[i]).1):=aax A hA (bn A R) rfl (show(ax A R).length<=60000 by omega) i J
 rw[F];by_cases k4:f.1=4
 · rw[dY k4,cond_true,q1,aa7,s1 (λh=>by rcases D h with h |h |h<;>first |exact h.2 |(exfalso;omega))];rfl
 rw[dN k4,cond_false];by_cases Y:f.1=5
 · rw[dY Y,cond_true,q1,aa7,s1 (λh=>by rcases D h with h |h |h<;>first |exact h.2 |(exfalso;omega))];rfl
 rw[dN Y,cond_false];by_cases k3:f.1=3
 · rw[dY k3,cond_true,q2,aa7,s2 (λh=>by rcases D h with h |h |h<;>first |(exfalso;omega) |exact h.2)];rfl
 rw[dN k3,cond_false];by_cases kk:f.1=9
 · rw[dY kk,cond_true,q2,aa7,s2 (λh=>by rcases D h with h |h |h<;>first |(exfalso;omega) |exact h.2)];rfl
 rw[dN kk,cond_false,q3,aa7,s3 (λh=>by rcases D h with h |h |h<;>first |(exfalso;omega) |exact h.2)];rfl
theorem EJ {A:List aq} {T:bf} {J:Nat->aY} {L:Nat->Nat->aY} {D:List Int} {ns:List al} {l:bT} (h:l∈lR A T J L D ns):
  ∃i,∃F:i<ns.length,l=(J i,bV (D++fq A ns[i]))\/ ∃k,∃hk:k<(ns[i]).2.2.length,l=(L i k,bV (D++[cN A.length T ((ns[i]).1,(ns[i]).2.2[k])])):=by
 obtain⟨i,F,h⟩:=dG.1 h;refine⟨i,F,?_⟩;rcases ai3.1 h with h |h
 · grind
 · obtain⟨k,hk,h⟩:=dG.1 h;exact .inr ⟨k,hk,ah3.1 h⟩
theorem nV (A:List aq) (R:List al):(bn A R).1=A.map bN:=rfl
theorem Tp (A:List aq) (R:List al):(bn A R).2.1=R.map aO:=rfl
theorem aq0 (A:List aq) (R:List al):(bn A R).2.2=ax A R:=rfl
theorem wT {ns:List al} {k:Nat} (h:k<ns.length) {R:Type} (f:dC->Option R):(ag (ns.map aO) (k:Int)).bind f=f (aO ns[k]):=by rw[au (l:=ns.map aO) (by grind),ar7]
theorem aaZ (A:List aq) (hA:bu A) (R:List al) (hT:(ax A R).length<=400) (w:Want):qe (bn A R) w=some (cN A.length (ax A R) w):=by
 have hs:=hA.many;have:=var_eq (bn A R) (Kl _) (show(ax A R).length<=60000 by omega) (by rw[nV,ae2];exact hs) w
 rw[nV,ae2] at this;exact this
theorem Tq (A:List aq) (hA:bu A) (R:List al) (hT:(ax A R).length<=400) (n:al) (k:Nat) (hk:k<n.2.2.length):yI (bn A R) (aO n) (k:Int)=some (cN A.length (ax A R) (n.1,n.2.2[k])):=by unfold yI;show(ag n.2.2 k).bind _=_;rw[au hk];show(qe (bn A R) (n.1,n.2.2[k])).bind _=_;rw[aaZ A hA R hT];rfl
theorem aaz (A:List aq) (hA:bu A) (R:List al) (i t:Nat) (D:i<A.length) (L:t<(ax A R).length) (fd:fv) (hf:eP (A[i]).1 ((ax A R)[t]).2=some fd) (q a b:Int):C1 (bn A R) (q,(i:Int),(t:Int),a,b)=some (ee fd):=by
 have he:=hA.cV _ (ab7 D);have M:=he.iW;unfold C1;simp only[nV,kC D];show(ag (ax A R) t).bind _=_;rw[au L]
 have F:qb (bN A[i]).1 ((ax A R)[t]).2=some (bG (A[i]).1.2.2.2.2.2.2.2 (λf=>decide (f.1=((ax A R)[t]).2))):=by
  rw[My _ _ (by show(((A[i]).1.2.2.2.2.2.2.2.map ee).length)<=1000;rw[ae2];omega)]
  show some (bG ((A[i]).1.2.2.2.2.2.2.2.map ee) _)=_;rw[Sm];rfl
 rw[F];unfold eP at hf;rcases kX (A[i]).1.2.2.2.2.2.2.2 (λf=>decide (f.1=((ax A R)[t]).2)) with⟨_,p⟩ |⟨j,J,_,p,_,_⟩
 · grind
 · simp (disch:=omega) only[K0,p,ae6 J] at hf;rw[p];show(ag ((A[i]).1.2.2.2.2.2.2.2.map ee) j).bind _=_;rw[au (by grind),ar7,Option.some.inj hf]
theorem aae (A:List aq) (hA:A.length<=360) (i:Nat) (D:i<A.length):dV [neg i]:=wj (by unfold neg;omega)
theorem ao7 {x y:Int} (h:x.natAbs<y.natAbs):bV [x,y]=[x,y]:=by refine(Mo (l:=[x,y]) ?_ λz=>Iff.rfl).symm;refine List.pairwise_cons.2 ⟨λz D=>?_,List.pairwise_singleton _ _⟩;rw[ah3.1 D];exact Al.1 (by unfold ot;rw[dY h];rfl)
theorem apR {a b:List Int}: ∀z,z∈a++b<->z∈b++a:=by grind
section
variable (A:List aq) (hA:bu A) (R:List al) (hR:bM R) (hT:(ax A R).length<=400)
include hA
theorem cl1 (hR:bM R) (i:Nat) (D:i<R.length) (L:lK (bn A R) (1,(i:Int),0,0,0)=some true):fg (bn A R) (1,(i:Int),0,0,0)=some (bV ([]++fq A R[i]),true):=by
 have hs:=hA.many;have hm:=hR.many;have F:=hR.dO _ (ab7 D);have c1:aa .i64 (i+1):=bd (by omega)
 have c2:aa .i64 (0 - (i+1)):=bd (by omega)
 have J:=Yt A hA (bn A R) rfl R[i] F.2.1;have M:=EY A R[i];unfold fg;rw[L,aa7,ae8,cond_false,List.nil_append];dsimp only;rw[ai c1,ai c2,dY (show(1:Int)=1 from rfl),cond_true,Tp,wT D,J,aa7,ua _ (Fe A hs R[i]) (by omega),aa7]
theorem cl2 (hR:bM R) (hT:(ax A R).length<=400) (i:Nat) (D:i<R.length) (k:Nat) (hk:k<(R[i]).2.2.length) (J:lK (bn A R) (2,(i:Int),(k:Int),0,0)=some true):fg (bn A R) (2,(i:Int),(k:Int),0,0)=some (bV ([]++[cN A.length (ax A R) ((R[i]).1,(R[i]).2.2[k])]),true):=by
 have hm:=hR.many;have c1:aa .i64 (i+1):=bd (by omega)
 have c2:aa .i64 (0 - (i+1)):=bd (by omega)
 have F:bV ([]++[cN A.length (ax A R) ((R[i]).1,(R[i]).2.2[k])])=[cN A.length (ax A R) ((R[i]).1,(R[i]).2.2[k])]:=rfl;rw[F];unfold fg;rw[J,aa7,ae8,cond_false];dsimp only;rw[ai c1,ai c2,dN (show¬(2:Int)=1 by decide),cond_false,dY (show(2:Int)=2 from rfl),cond_true,Tp,wT D,Tq A hA R hT R[i] k hk,aa7]
theorem cl3 (i:Nat) (M:i<A.length) (j:Nat) (N:j<A.length) (L:lK (bn A R) (3,(i:Int),(j:Int),0,0)=some true):fg (bn A R) (3,(i:Int),(j:Int),0,0)=some (bV [neg i,neg j],true):=by
 have hs:=hA.many;have c1:aa .i64 (i+1):=bd (by omega)
 have c2:aa .i64 (neg i):=bd (by unfold neg;omega)
 have D:aa .i64 (j+1):=bd (by omega)
 have F:aa .i64 (neg j):=bd (by unfold neg;omega)
 have J: ∀x:Int,0 - (x+1)=neg x:=λx=>by unfold neg;rfl
 unfold fg;rw[L,aa7,ae8,cond_false];simp only[J];rw[ai c1,ai c2,dN (show¬(3:Int)=1 by decide),cond_false,dN (show¬(3:Int)=2 by decide),cond_false,decide_true,cond_true,ai D,ai F,ua [neg i,neg j] (o6 (by grind) (by grind)) (by simp),aa7]
theorem cl9 (i:Nat) (M:i<A.length) (k:Nat) (y:Int) (N:0<=y/\y<360) (L:lK (bn A R) (9,(i:Int),(k:Int),y,0)=some true):fg (bn A R) (9,(i:Int),(k:Int),y,0)=some (bV [neg i,neg y],true):=by
 have hs:=hA.many;have c1:aa .i64 (i+1):=bd (by omega)
 have c2:aa .i64 (neg i):=bd (by unfold neg;omega)
 have D:aa .i64 (y+1):=bd (by omega)
 have F:aa .i64 (neg y):=bd (by unfold neg;omega)
 have J: ∀x:Int,0 - (x+1)=neg x:=λx=>by unfold neg;rfl
 unfold fg;rw[L,aa7,ae8,cond_false];simp only[J];rw[ai c1,ai c2,dN (show¬(9:Int)=1 by decide),cond_false,dN (show¬(9:Int)=2 by decide),cond_false,dN (show¬(9:Int)=3 by decide),cond_false,dN (show¬(9:Int)=4 by decide),cond_false,dN (show¬(9:Int)=5 by decide),cond_false,decide_true,cond_true,ai D,ai F,ua [neg i,neg y] (o6 (by grind) (by grind)) (by simp),aa7]
theorem cl4 (i:Nat) (D:i<A.length) (k:Nat) (hk:k<(A[i]).1.2.2.2.2.2.2.1.length) (O:lK (bn A R) (4,(i:Int),(k:Int),0,0)=some true):fg (bn A R) (4,(i:Int),(k:Int),0,0)=some (bV ([neg i]++fq A (A[i]).1.2.2.2.2.2.2.1[k]),true):=by
 have hs:=hA.many;have he:=hA.cV _ (ab7 D);have c1:aa .i64 (i+1):=bd (by omega)
 have c2:aa .i64 (neg i):=bd (by unfold neg;omega)
 have F: ∀x:Int,0 - (x+1)=neg x:=λx=>by unfold neg;rfl
 have M:=he.dO _ (ab7 hk);have N:=Yt A hA (bn A R) rfl (A[i]).1.2.2.2.2.2.2.1[k] M.2.1;have U:=EY A (A[i]).1.2.2.2.2.2.2.1[k];have L:(bN A[i]).1.2.2.2.2.2.2.1=(A[i]).1.2.2.2.2.2.2.1.map aO:=Eq.trans rfl rfl;have k1:(fq A (A[i]).1.2.2.2.2.2.2.1[k]).length+[neg i].length<=1000000000:=by grind
 have J:=ua (fq A (A[i]).1.2.2.2.2.2.2.1[k]++[neg i]) (tP (Fe A hs _) (aae A hs i D)) (by grind)
 rw[al1 apR];unfold fg;rw[O,aa7,ae8,cond_false];simp only[F];rw[ai c1,ai c2,dN (show¬(4:Int)=1 by decide),cond_false,dN (show¬(4:Int)=2 by decide),cond_false,dN (show¬(4:Int)=3 by decide),cond_false,decide_true,cond_true,nV,kC D,L,wT hk,N,aa7,ai k1,J,aa7]
theorem cl5 (hT:(ax A R).length<=400) (i:Nat) (D:i<A.length) (k:Nat) (hk:k<(A[i]).1.2.2.2.2.2.2.1.length) (j:Nat) (L:j<((A[i]).1.2.2.2.2.2.2.1[k]).2.2.length) (N:lK (bn A R) (5,(i:Int),(k:Int),(j:Int),0)=some true):
  fg (bn A R) (5,(i:Int),(k:Int),(j:Int),0)=some (bV ([neg i]++[cN A.length (ax A R) (((A[i]).1.2.2.2.2.2.2.1[k]).1,((A[i]).1.2.2.2.2.2.2.1[k]).2.2[j])]),true):=by
 have hs:=hA.many;have he:=hA.cV _ (ab7 D);have c1:aa .i64 (i+1):=bd (by omega)
 have c2:aa .i64 (neg i):=bd (by unfold neg;omega)
 have J: ∀x:Int,0 - (x+1)=neg x:=λx=>by unfold neg;rfl
 have M:(bN A[i]).1.2.2.2.2.2.2.1=(A[i]).1.2.2.2.2.2.2.1.map aO:=Eq.trans rfl rfl;have O: ∀w,dV [cN A.length (ax A R) w]:=λw=>wj (by have:=Et A.length (ax A R) w;omega)
 have F:=ua ([neg i]++[cN A.length (ax A R) (((A[i]).1.2.2.2.2.2.2.1[k]).1,((A[i]).1.2.2.2.2.2.2.1[k]).2.2[j])]) (tP (aae A hs i D) (O _)) (by simp)
 rw[List.singleton_append] at F⊢;unfold fg;rw[N,aa7,ae8,cond_false];simp only[J];rw[ai c1,ai c2,dN (show¬(5:Int)=1 by decide),cond_false,dN (show¬(5:Int)=2 by decide),cond_false,dN (show¬(5:Int)=3 by decide),cond_false,dN (show¬(5:Int)=4 by decide),cond_false,decide_true,cond_true,nV,kC D,M,wT hk,Tq A hA R hT _ j L,aa7,F,aa7]
theorem cl6 (hT:(ax A R).length<=400) (i:Nat) (U:i<A.length) (t:Nat) (Y:t<(ax A R).length) (O:lK (bn A R) (6,(i:Int),(t:Int),0,0)=some true):
  fg (bn A R) (6,(i:Int),(t:Int),0,0)=some ([neg i,neg ((A.length:Int)+(t:Int))],true):=by
 have hs:=hA.many;have c1:aa .i64 (i+1):=bd (by omega)
 have c2:aa .i64 (neg i):=bd (by unfold neg;omega)
 have L: ∀x:Int,0 - (x+1)=neg x:=λx=>by unfold neg;rfl
 have D:aa .i64 (A.length+t):=bd (by omega)
 have F:aa .i64 (A.length+t+1):=bd (by omega)
 have J:aa .i64 (neg (A.length+t)):=bd (by grind)
 have M:dV [neg i,neg (A.length+t)]:=o6 (by grind) (by grind)
 have N:bV [neg i,neg (A.length+t)]=[neg i,neg (A.length+t)]:=ao7 (by grind)
 unfold fg;rw[O,aa7,ae8,cond_false];simp only[L];rw[ai c1,ai c2,dN (show¬(6:Int)=1 by decide),cond_false,dN (show¬(6:Int)=2 by decide),cond_false,dN (show¬(6:Int)=3 by decide),cond_false,dN (show¬(6:Int)=4 by decide),cond_false,dN (show¬(6:Int)=5 by decide),cond_false,dN (show¬(6:Int)=9 by decide),cond_false,nV,ae2,ai D,ai F,ai J,dN (show¬(6:Int)=7 by decide),cond_false,dN (show¬(6:Int)=8 by decide),cond_false,ua _ M (by simp),aa7,N]
theorem cl7 (hT:(ax A R).length<=400) (i:Nat) (D:i<A.length) (t:Nat) (ht:t<(ax A R).length) (fd:fv) (hf:eP (A[i]).1 ((ax A R)[t]).2=some fd) (k:Nat) (hk:k<fd.2.length) (ah:lK (bn A R) (7,(i:Int),(t:Int),(k:Int),0)=some true):
  fg (bn A R) (7,(i:Int),(t:Int),(k:Int),0)=some (bV ([neg i,neg ((A.length:Int)+(t:Int))]++fq A fd.2[k]),true):=by
 have hs:=hA.many;have he:=hA.cV _ (ab7 D);have c1:aa .i64 (i+1):=bd (by omega)
 have c2:aa .i64 (neg i):=bd (by unfold neg;omega)
 have M: ∀x:Int,0 - (x+1)=neg x:=λx=>by unfold neg;rfl
 have F:aa .i64 (A.length+t):=bd (by omega)
 have J:aa .i64 (A.length+t+1):=bd (by omega)
 have L:aa .i64 (neg (A.length+t)):=bd (by grind)
 have N:dV [neg i,neg (A.length+t)]:=o6 (by grind) (by grind)
 have Y:=(he.qK (ES hf)).dO _ (ab7 hk);have Z:=aqc A hA (bn A R) rfl (fd.2[k]) Y.2.1;have an:=EY A (fd.2[k]);have U:(ee fd).2=fd.2.map aO:=Eq.trans rfl rfl;have k1:[neg i,neg (A.length+t)].length+(fq A fd.2[k]).length<=1000000000:=by grind
 have O:=ua ([neg i,neg (A.length+t)]++fq A fd.2[k]) (tP N (Fe A hs _)) (by grind)
 unfold fg;rw[ah,aa7,ae8,cond_false];simp only[M];rw[ai c1,ai c2,dN (show¬(7:Int)=1 by decide),cond_false,dN (show¬(7:Int)=2 by decide),cond_false,dN (show¬(7:Int)=3 by decide),cond_false,dN (show¬(7:Int)=4 by decide),cond_false,dN (show¬(7:Int)=5 by decide),cond_false,dN (show¬(7:Int)=9 by decide),cond_false,nV,ae2,ai F,ai J,ai L,decide_true,cond_true,aaz A hA R i t D ht fd hf,aa7,U,wT hk,Z,aa7,ai k1,O,aa7]
theorem cl8 (hT:(ax A R).length<=400) (i:Nat) (O:i<A.length) (t:Nat) (Z:t<(ax A R).length) (fd:fv) (hf:eP (A[i]).1 ((ax A R)[t]).2=some fd) (k:Nat) (hk:k<fd.2.length) (j:Nat) (U:j<(fd.2[k]).2.2.length) (ah:lK (bn A R) (8,(i:Int),(t:Int),(k:Int),(j:Int))=some true):
  fg (bn A R) (8,(i:Int),(t:Int),(k:Int),(j:Int))=some (bV ([neg i,neg ((A.length:Int)+(t:Int))]++[cN A.length (ax A R) ((fd.2[k]).1,(fd.2[k]).2.2[j])]),true):=by
 have hs:=hA.many;have c1:aa .i64 (i+1):=bd (by omega)
 have c2:aa .i64 (neg i):=bd (by unfold neg;omega)
 have L: ∀x:Int,0 - (x+1)=neg x:=λx=>by unfold neg;rfl
 have D:aa .i64 (A.length+t):=bd (by omega)
 have F:aa .i64 (A.length+t+1):=bd (by omega)
 have J:aa .i64 (neg (A.length+t)):=bd (by grind)
 have M:dV [neg i,neg (A.length+t)]:=o6 (by grind) (by grind)
 have Y:(ee fd).2=fd.2.map aO:=Eq.trans rfl rfl;have an: ∀w,dV [cN A.length (ax A R) w]:=λw=>wj (by have:=Et A.length (ax A R) w;omega)
 have k1: ∀y:Int,[neg i,neg (A.length+t)].length+[y].length<=1000000000:=λy=>by simp (disch:=omega) only[K0];omega
 have N:=ua ([neg i,neg (A.length+t)]++[cN A.length (ax A R) ((fd.2[k]).1,(fd.2[k]).2.2[j])]) (tP M (an _)) (by simp)
 unfold fg;rw[ah,aa7,ae8,cond_false];simp only[L];rw[ai c1,ai c2,dN (show¬(8:Int)=1 by decide),cond_false,dN (show¬(8:Int)=2 by decide),cond_false,dN (show¬(8:Int)=3 by decide),cond_false,dN (show¬(8:Int)=4 by decide),cond_false,dN (show¬(8:Int)=5 by decide),cond_false,dN (show¬(8:Int)=9 by decide),cond_false,nV,ae2,ai D,ai F,ai J,dN (show¬(8:Int)=7 by decide),cond_false,decide_true,cond_true,aaz A hA R i t O Z fd hf,aa7,Y,wT hk,Tq A hA R hT _ j U,aa7,ai (k1 _),N,aa7]
end
theorem XH (A:List aq) (hA:bu A) (R:List al) (hR:bM R) (hT:(ax A R).length<=400) (l:bT) (h:l∈lp A R (ax A R)):fg (bn A R) l.1=some (l.2,true):=by
 have F:lK (bn A R) l.1=some true:=by rw[ZA A hA R hR hT,dY];exact(RX A R (ax A R)).mem_iff.1 (ar1.2 ⟨l,h,rfl⟩)
 unfold lp at h;rcases ae5.1 h with h |h
 · rw[mk_1.1,mk_1.2] at h;obtain⟨i,D,h⟩:=EJ h;rcases h with rfl |⟨k,hk,rfl⟩
   · exact cl1 A hA R hR i D F
   · exact cl2 A hA R hR hT i D k hk F
 · obtain⟨i,D,h⟩:=dG.1 h;unfold mR at h;rcases ae5.1 h with h |h
   · rcases ae5.1 h with h |h
     · rcases ae5.1 h with h |h
       · obtain⟨k,hk,h⟩:=dG.1 h;rw[at6] at hk;split at h
         · have h:=ah3.1 h;subst h;exact cl3 A hA R i D (i+1+k) (by omega) F
         · grind
       · rw[(mk_4 i).1,(mk_4 i).2] at h;obtain⟨k,hk,h⟩:=EJ h;rcases h with rfl |⟨j,J,rfl⟩
         · exact cl4 A hA R i D k hk F
         · exact cl5 A hA R hT i D k hk j J F
     · obtain⟨t,L,h⟩:=dG.1 h;unfold sj at h;split at h
       · cases hf:eP (A[i]).1 ((ax A R)[t]).2 with
         |none=>rw[hf] at h;have h:=ah3.1 h;subst h;exact cl6 A hA R hT i D t L F
         |some fd=>
          rw[hf] at h;simp only[] at h;rw[(mk_7 i t).1,(mk_7 i t).2] at h;obtain⟨k,hk,h⟩:=EJ h;rcases h with rfl |⟨j,J,rfl⟩
          · exact cl7 A hA R hT i D t L fd hf k hk F
          · exact cl8 A hA R hT i D t L fd hf k hk j J F
       · cases h
   · obtain⟨k,hk,h⟩:=dG.1 h;obtain⟨j,J,h⟩:=dG.1 h;have h:=ah3.1 h;have M:0<=(eT A (A[i]).1.2.2.2.2.2.1[k])[j]/\(eT A (A[i]).1.2.2.2.2.2.1[k])[j]<360:=by have hs:=hA.many;obtain⟨z,N,q,_⟩:=wC.1 (ab7 J);rw[q];omega
     subst h;exact cl9 A hA R i D k _ M F
theorem an9 (A:List aq) (hA:bu A) (R:List al) (hR:bM R) (hT:(ax A R).length<=400) (f:aY) (h:f∉iY A R (ax A R)):fg (bn A R) f=some ([],false):=by unfold fg;rw[ZA A hA R hR hT,dN h];rfl
theorem ZI (A:List aq) (hA:A.length<=360) (R:List al) (hT:(ax A R).length<=400) (l:bT) (N:l∈lp A R (ax A R)):l.2.length<=1000/\dV l.2:=by
 have lN: ∀{m:List Int},dV m->dV (bV m):=λ{m} h x J=>h x (((tC m).2 x).1 J);have an: ∀i:Nat,i<=1000->dV [neg i]:=λi h=>wj (by unfold neg;omega)
 have F: ∀(O:Nat->aY) (U:Nat->Nat->aY) (D:List Int) (ns:List al),D.length<=10->dV D->l∈lR A (ax A R) O U D ns->l.2.length<=1000/\dV l.2:=by
  intro O U D ns ar L hq;obtain⟨i,Y,q⟩:=EJ hq;rcases q with rfl |⟨k,hk,rfl⟩
  · have:=L0 (D++fq A ns[i]);have h2:=EY A ns[i];rw[ae7] at this;exact⟨by show(bV (D++fq A ns[i])).length<=_;omega,lN (tP L (Fe A hA _))⟩
  · have:=L0 (D++[cN A.length (ax A R) ((ns[i]).1,(ns[i]).2.2[k])]);have hr:=Et A.length (ax A R) ((ns[i]).1,(ns[i]).2.2[k]);rw[ae7,au6] at this;exact⟨by show(bV _).length<=_;omega,lN (tP L (wj (by omega)))⟩
 unfold lp at N;rcases ae5.1 N with q |q
 · exact F _ _ _ _ (ae3 _) (λx J=>(at9 J).elim) q
 · obtain⟨i,Y,q⟩:=dG.1 q;unfold mR at q;rcases ae5.1 q with q |q
   · rcases ae5.1 q with q |q
     · rcases ae5.1 q with q |q
       · obtain⟨k,hk,q⟩:=dG.1 q;rw[at6] at hk;split at q
         · rw[ah3.1 q];exact⟨an4 (L0 _) (by simp),lN (o6 (by unfold neg;omega) (by unfold neg;omega))⟩
         · cases q
       · exact F _ _ _ _ (by simp) (an i (by omega)) q
     · obtain⟨t,ht,q⟩:=dG.1 q;have M:dV [neg i,neg ((A.length:Int)+(t:Int))]:=o6 (by unfold neg;omega) (by unfold neg;omega)
       unfold sj at q;split at q
       · cases hf:eP (A[i]).1 ((ax A R)[t]).2 with
         |none=>rw[hf] at q;rw[ah3.1 q];exact⟨(by decide:2<=1000),M⟩
         |some fd=>rw[hf] at q;exact F _ _ _ _ (by simp) M q
       · cases q
   · obtain⟨k,hk,q⟩:=dG.1 q;obtain⟨j,Z,q⟩:=dG.1 q;obtain⟨z,hz,e,_⟩:=wC.1 (ab7 Z);rw[ah3.1 q];exact⟨an4 (L0 _) (by simp),lN (o6 (by unfold neg;omega) (by rw[e];unfold neg;omega))⟩
theorem SJ (A:List aq) (R:List al) (j:Nat) (F:j<(ax A R).length):cN A.length (ax A R) (ax A R)[j]=(A.length:Int)+(j:Int)+1:=by
 have hs:mv (ax A R):=Kl _;unfold cN;rcases kX (ax A R) (λx=>decide (x=(ax A R)[j])) with⟨q,_⟩ |⟨i,D,_,q,p,_⟩
 · grind
 · have p:=of_decide_eq_true p
   have:i=j:=by
    rcases ax0 i j with d |d |d
    · have:=hs.nth d F;rw[p,ke.self] at this;omega
    · omega
    · have:=hs.nth d D;rw[p,ke.self] at this;omega
   omega
theorem K8 {V R α S:Type} {f:V->Option (V⊕R)} {v0:V} (l:List α) (g:S->α->S) (st:Nat->S->V) (out:S->R) (I:Nat->S->Prop) (D:S) (F:st 0 D=v0) (h0:I 0 D)
 (h1: ∀k (hk:k<l.length) s,I k s->f (st k s)=some (.inl (st (k+1) (g s l[k])))/\I (k+1) (g s l[k]))
 (h2: ∀s,I l.length s->f (st l.length s)=some (.inr (out s))):ab f v0=some (out (l.foldl g D)):=(wh l g I st out h1 h2 D h0 F).1
abbrev aV:=List UInt8×List UInt8
def eK (l:List aV) (t:aV):List aV:=if t∈l then l else l++[t]
def jk (s:List UInt8) (l:List aV) (D:List (List UInt8)):List aV:=D.foldl (λl f=>eK l (s,f)) l
def eZ (l:List aV) (ns:List al):List aV:=ns.foldl (λl n=>jk n.1 (eK l (n.1,[])) n.2.2) l
theorem wg (l:List aV) (t:aV):(eK l t).length<=l.length+1:=by unfold eK;split<;>simp
theorem Z8 (l:List aV) (t x:aV):x∈eK l t<->x∈l\/x=t:=by
 unfold eK;split
 · exact⟨.inl,λh=>h.elim id λe=>e▸ ‹t∈l›⟩
 · rw[ae5,ah3]
theorem X5 {l:List aV} {t:aV} (h:l.Nodup):(eK l t).Nodup:=by
 unfold eK;split
 · exact h
 · exact nR h ‹_›
theorem Lf (x t:aV):(decide (x.1=t.1)&&decide (x.2=t.2))=decide (x=t):=by
 by_cases e:x=t
 · subst e;simp
 · rw[decide_eq_false e,Bool.and_eq_false_iff];by_cases a:x.1=t.1
   · exact .inr (decide_eq_false λb=>e (Prod.ext a b))
   · exact .inl (decide_eq_false a)
theorem ab3 (t:aV) (l:List aV) (F:l.length<=1000000):vX t l=some (eK l t):=by
 unfold vX eK;have c: ∀{k:Nat} {R:Type} (q:Option R),k<l.length->J (0<=((k:Nat):Int)/\((k:Nat):Int)<(l.length:Int)) q=q:=λq _=>ai ⟨by omega,by omega⟩
 have h:=iT (f:=zh) l (λy=>decide (y=t)) (λk=>((k:Int),t.1,t.2,l,())) (λ_=>Sum.inr (l,())) (Sum.inl (t.1,t.2,l,())) (λk h hp=>by
  simp only[zh,dY (show(k:Int)<(l.length:Int) by omega),cond_true,c _ h,ae9,ae6 h,aa7,Lf,hp,cond_false,aH,aw (show k+1<=4611686018427387904 by omega)]) (λk h hp=>by
  simp only[zh,dY (show(k:Int)<(l.length:Int) by omega),cond_true,c _ h,ae9,ae6 h,aa7,Lf,hp]) (by
  simp only[zh,dN (show¬(l.length:Int)<(l.length:Int) by omega),cond_false])
 rw[show ab zh (0,t.1,t.2,l,())=_ from h]
 by_cases e:t∈l
 · rw[if_pos e];have:(l.findIdx? λy=>decide (y=t)).isSome:=by rw[List.findIdx?_isSome];exact aw9.2 ⟨t,e,decide_eq_true rfl⟩
   obtain⟨k,hk⟩:=Option.isSome_iff_exists.1 this;rw[hk];rfl
 · rw[if_neg e];have:l.findIdx? (λy=>decide (y=t))=none:=List.findIdx?_eq_none_iff.2 λx D=>decide_eq_false λq=>e (q▸D);rw[this];simp only[aa7];rw[ib (by omega)]
theorem ajV (l:List aV) (t:aV) (F:l.length<=1000000):IZ l t=some (decide (t∈l)):=by
 have h:=iT (f:=yq) l (λy=>decide (y=t)) (λk=>(l,(l.length:Int),(k:Int),t.1,t.2,())) (λk=>Sum.inr ((k:Int),())) (Sum.inl ()) (λk h hp=>by
  have D:(decide (t.1=(l[k]).1)&&decide (t.2=(l[k]).2))=false:=by rw[Lf];exact decide_eq_false λe=>of_decide_eq_false hp e.symm
  simp only[yq,dY (show(k:Int)<(l.length:Int) by omega),cond_true,cond_false,au h,D,aH,aw (show k+1<=4611686018427387904 by omega)]) (λk h hp=>by
  have D:(decide (t.1=(l[k]).1)&&decide (t.2=(l[k]).2))=true:=by rw[Lf];exact decide_eq_true (of_decide_eq_true hp).symm
  simp only[yq,dY (show(k:Int)<(l.length:Int) by omega),cond_true,au h,D]) (by
  simp only[yq,dN (show¬(l.length:Int)<(l.length:Int) by omega),cond_false])
 unfold IZ PO;rw[show ab yq (l,(l.length:Int),0,t.1,t.2,())=_ from h,aa7]
 have e:decide (t∈l)=l.any λy=>decide (y=t):=by rw[Bool.eq_iff_iff,decide_eq_true_eq,aw9];exact⟨λh=>⟨t,h,decide_eq_true rfl⟩,λ⟨x,h,q⟩=>of_decide_eq_true q▸h⟩
 rw[e,<-o9 l (λy=>decide (y=t)) inferInstance];unfold bG;cases l.findIdx? (λy=>decide (y=t))<;>rfl
def Ns (n:al):Prop:=n.2.2.length<=4/\ ∀f∈n.2.2,f≠[]
theorem FG {n:al} (h:nY 4 n):Ns n:=⟨h.2.2.1,λf hf e=>by have:=h.2.2.2.1 f hf;rw[e] at this;exact absurd this (by decide)⟩
theorem RA (s:List UInt8): ∀(D:List (List UInt8)) (l:List aV),(jk s l D).length<=l.length+D.length
 |[],l=>ab8 _
 |f::t,l=>by have h1:=wg l (s,f);have h2:=RA s t (eK l (s,f));show(jk s (eK l (s,f)) t).length<=l.length+(t.length+1);omega
theorem akE (ns:List al) (k:Nat) (hk:k<ns.length) (F:Ns ns[k]) (l:List aV) (D:List al) (M:l.length<=900000):
  ab yE (ns,(k:Int),0,l,D,())=some (ns,(k:Int),jk (ns[k]).1 l (ns[k]).2.2,D,()):=by
 have F:=F.1;refine K8 (ns[k]).2.2 (λl f=>eK l ((ns[k]).1,f)) (λj l=>(ns,(k:Int),(j:Int),l,D,())) (λl=>(ns,(k:Int),l,D,())) (λj L=>L.length<=l.length+j) l rfl (ab8 _) (λj J s hs=>⟨?_,?_⟩) (λs hs=>?_)
 · simp only[yE,au hk,dY (show((j:Nat):Int)<((ns[k]).2.2.length:Int) by omega),cond_true,au J,ab3 ((ns[k]).1,(ns[k]).2.2[j]) s (by omega),aa7,aH,aw (show j+1<=4611686018427387904 by omega)]
 · have:=wg s ((ns[k]).1,(ns[k]).2.2[j]);show(eK s _).length<=_;omega
 · simp only[yE,au hk,ak0,decide_false,cond_false]
theorem aab (ns:List al) (F: ∀n∈ns,Ns n) (l:List aV) (D:List al) (U:ns.length<=1000) (O:l.length<=800000) (N:D.length<=900000):
  yK ns l D=some (eZ l ns,D++ns):=by
 unfold yK;have e:=K8 (f:=yD) (v0:=(ns,0,l,D,())) ns (λ(s:List aV×List al) n=>(jk n.1 (eK s.1 (n.1,[])) n.2.2,s.2++[n])) (λk s=>(ns,(k:Int),s.1,s.2,())) (λs=>(s.1,s.2,())) (λk s=>s.1.length<=l.length+5*k/\s.2.length<=D.length+k) (l,D) rfl ⟨ab8 _,ab8 _⟩ (λk hk s hs=>⟨?_,?_⟩) (λs hs=>?_)
 · rw[e]
   have: ∀(ns:List al) (l:List aV) (D:List al),ns.foldl (λ(s:List aV×List al) n=>(jk n.1 (eK s.1 (n.1,[])) n.2.2,s.2++[n])) (l,D)=(eZ l ns,D++ns):=by
    intro ns
    induction ns with
    |nil=>intro l D;rw[ag5];rfl
    |cons n t L=>intro l D;rw[au9,L,as2];rfl
   rw[this];rfl
 · have hm:=wg s.1 ((ns[k]).1,[]);have h1:=hs.1;have h2:=hs.2;have c: ∀{R:Type} (q:Option R),J (s.2.length+([ns[k]]:List al).length<=1000000000) q=q:=λq=>ib (by omega)
   simp only[yD,dY (show((k:Nat):Int)<(ns.length:Int) by omega),cond_true,au hk,c,ab3 ((ns[k]).1,[]) s.1 (by omega),aa7,akE ns k hk (F _ (ab7 hk)) _ (s.2++[ns[k]]) (show(eK s.1 ((ns[k]).1,[])).length<=900000 by omega),aH,aw (show k+1<=4611686018427387904 by omega)]
 · have hm:=wg s.1 ((ns[k]).1,[]);have hf:=RA (ns[k]).1 (ns[k]).2.2 (eK s.1 ((ns[k]).1,[]));have M:=(F _ (ab7 hk)).1;have h1:=hs.1;have h2:=hs.2;refine⟨?_,?_⟩
   · show(jk _ _ _).length<=_;omega
   · show(s.2++[ns[k]]).length<=_;rw[ae7];show s.2.length+1<=_;omega
 · simp only[yD,ak0,decide_false,cond_false]
def cX (l:List aV):List (List UInt8):=(l.filter λt=>decide (t.2=[])).map (·.1)
def fw (l:List aV):List aV:=l.filter λt=> !decide (t.2=[])
def fQ (l:List aV):List (aV×Bool):=l.map λt=>(t,decide (t.2=[]))
theorem FH {l:List aV} {s:List UInt8}:s∈cX l<->(s,[])∈l:=by simp[cX]
theorem Zw {l:List aV} {s f:List UInt8} (hf:f≠[]):(s,f)∈fw l<->(s,f)∈l:=by grind[fw]
theorem anu (l:List aV) (s:List UInt8):cX (l++[(s,[])])=cX l++[s]:=by simp[cX]
theorem anv (l:List aV) (s:List UInt8) {f:List UInt8} (hf:f≠[]):cX (l++[(s,f)])=cX l:=by grind[cX]
theorem amA (l:List aV) (s:List UInt8):fw (l++[(s,[])])=fw l:=by simp[fw]
theorem amB (l:List aV) (s:List UInt8) {f:List UInt8} (hf:f≠[]):fw (l++[(s,f)])=fw l++[(s,f)]:=by grind[fw]
theorem Yq (l:List aV) (t:aV):fQ (l++[t])=fQ l++[(t,decide (t.2=[]))]:=by simp[fQ]
theorem FI (l:List aV):(cX l).length<=l.length:=by grind[cX]
theorem aon (l:List aV):(fw l).length<=l.length:=List.length_filter_le _ _
theorem RR (l:List aV):(fQ l).length=l.length:=ae2 _
theorem Xy (F:List sq) (choice:List Int) (U:List dC) (N O:Int) (s:List UInt8) (Y:List (List cO)) (D:List (List UInt8)) (h4:D.length<=4) (hf: ∀f∈D,f≠[]) (l:List aV) (M:List dC) (hl:l.length<=900000):
  ab CN (U,N,O,D,(D.length:Int),0,s,Y,D,F,choice,cX l,fw l,M,fQ l,())=some (U,N,O,F,choice,cX (jk s l D),fw (jk s l D),M,fQ (jk s l D),()):=by
 refine K8 D (λl f=>eK l (s,f)) (λj l=>(U,N,O,D,(D.length:Int),(j:Int),s,Y,D,F,choice,cX l,fw l,M,fQ l,())) (λl=>(U,N,O,F,choice,cX l,fw l,M,fQ l,())) (λj l'=>l'.length<=l.length+j) l rfl (ab8 _) (λj Z q hq=>⟨?_,?_⟩) (λq hq=>?_)
 · have L:=hf _ (ab7 Z);have hw:=aon q;have ht:=RR q;simp (disch:=omega) only[K0,CN,ajV (fw q) (s,D[j]) (by omega)]
   by_cases e:(s,D[j])∈q
   · rw[dY ((Zw L).2 e)];have hm:eK q (s,D[j])=q:=if_pos e;grind
   · rw[dN (λh=>e ((Zw L).1 h))];have hm:eK q (s,D[j])=q++[(s,D[j])]:=if_neg e;have c1: ∀{R:Type} (r:Option R),J ((fw q).length+[(s,D[j])].length<=1000000000) r=r:=λr=>ib (by omega)
     simp (disch:=omega) only[K0,hm,anv q s L,amB q s L,Yq]
 · have:=wg q (s,D[j]);omega
 · simp[CN]
theorem aaa (F:List sq) (choice:List Int) (ns:List al) (N: ∀n∈ns,Ns n) (l:List aV) (D:List al) (hn:ns.length<=1000) (hl:l.length<=800000) (hd:D.length<=900000):
  vz (ns.map aO) F choice (cX l) (fw l) (D.map aO) (fQ l)=some (F,choice,cX (eZ l ns),fw (eZ l ns),(D++ns).map aO,fQ (eZ l ns)):=by
 unfold vz;have e:=K8 (f:=IP) (v0:=(ns.map aO,ns.length,0,F,choice,cX l,fw l,D.map aO,fQ l,())) ns (λ(s:List aV×List al) n=>(jk n.1 (eK s.1 (n.1,[])) n.2.2,s.2++[n])) (λk s=>(ns.map aO,ns.length,k,F,choice,cX s.1,fw s.1,s.2.map aO,fQ s.1,())) (λs=>(F,choice,cX s.1,fw s.1,s.2.map aO,fQ s.1,())) (λk s=>s.1.length<=l.length+5*k/\s.2.length<=D.length+k) (l,D) rfl ⟨ab8 _,ab8 _⟩ (λk hk s hs=>⟨?_,?_⟩) (λs hs=>?_)
 · rw[show((ns.map aO).length)=ns.length by rw[ae2],e]
   have: ∀ns l D,ns.foldl (λ(s:List aV×List al) n=>(jk n.1 (eK s.1 (n.1,[])) n.2.2,s.2++[n])) (l,D)=(eZ l ns,D++ns):=by
    intro ns
    induction ns with
    |nil=>intro l D;rw[ag5];rfl
    |cons n t ih=>intro l D;rw[au9,ih,as2];rfl
   rw[this];rfl
 · have hm:=wg s.1 ((ns[k]).1,[]);have h1:=hs.1;have h2:=FI s.1;have hT:=RR s.1;have L:=N _ (ab7 hk);have c: ∀{R:Type} (q:Option R),J ((s.2.map aO).length+[aO ns[k]].length<=1000000000) q=q:=λq=>ib (by grind)
   have Z:(aO ns[k]).1=(ns[k]).1:=rfl;have a2:(aO ns[k]).2.1=dU (ns[k]).2.1:=rfl;have a3:(aO ns[k]).2.2=(ns[k]).2.2:=rfl;have Y:s.2.map aO++[aO ns[k]]=(s.2++[ns[k]]).map aO:=by rw[ag9];rfl
   have O:=aH k;have ah: ∀{R:Type} (q:Option R),J (aa .i64 ((k+1):Int)) q=q:=λq=>aw (by grind)
   simp[IP,cond_true,wT hk,Z,a2,a3,zo (cX s.1) (ns[k]).1 (by omega)]
   by_cases e:((ns[k]).1,[])∈s.1
   · rw[(qD _ _).2 (FH.2 e)];have M:eK s.1 ((ns[k]).1,[])=s.1:=if_pos e;rw[M];simp (disch:=omega) only[K0,Xy F choice _ _ _ _ _ _ L.1 L.2 s.1 _ (by omega),O,Y]
   · rw[show cw (cX s.1) (ns[k]).1=false from by rw[Bool.eq_false_iff];exact λh=>e (FH.1 ((qD _ _).1 h))]
     have M:eK s.1 ((ns[k]).1,[])=s.1++[((ns[k]).1,[])]:=if_neg e;rw[M] at hm⊢;have c1: ∀{R:Type} (r:Option R),J ((cX s.1).length+[(ns[k]).1].length<=1000000000) r=r:=λr=>ib (by omega)
     have c2: ∀{R:Type} (r:Option R),J ((fQ s.1).length+[(((ns[k]).1,[]),true)].length<=1000000000) r=r:=λr=>ib (by omega)
     have U:=Xy F choice (ns.map aO) ns.length k (ns[k]).1 (dU (ns[k]).2.1) (ns[k]).2.2 L.1 L.2 (s.1++[((ns[k]).1,[])]) ((s.2++[ns[k]]).map aO) (by omega)
     rw[anu,amA,Yq,dY (show((ns[k]).1,[]).2=[] from rfl)] at U
     simp (disch:=omega) only[K0,c1,c2,Y,U,O]
 · have hm:=wg s.1 ((ns[k]).1,[]);have hf:=RA (ns[k]).1 (ns[k]).2.2 (eK s.1 ((ns[k]).1,[]));have h3:=(N _ (ab7 hk)).1;have h1:=hs.1;have h2:=hs.2;refine⟨?_,?_⟩
   · show(jk _ _ _).length<=_;omega
   · show(s.2++[ns[k]]).length<=_;rw[ae7];show s.2.length+1<=_;omega
 · simp[IP,ak0,decide_false]
def ta (A:List aq) (s:List UInt8) (i:Int):Bool:=decide (0<=i)&&(match A[i.toNat]? with|some y=>decide (y.1.1=s) |none=>false)
theorem Az {A:List aq} {s:List UInt8} {i:Int}:ta A s i=true<-> ∃k,∃h:k<A.length,i=(k:Int)/\(A[k]).1.1=s:=by
 unfold ta;rw[ad0];constructor
 · grind
 · grind
def ei (A:List aq) (choice:List Int) (s:List UInt8):Int:=(choice.find? (ta A s)).getD (-1)
theorem nP (A:List aq) (choice:List Int) (s:List UInt8):(choice.find? (ta A s)=none/\ei A choice s= -1)\/ ∃k,∃h:k<A.length,ei A choice s=(k:Int)/\(A[k]).1.1=s/\(k:Int)∈choice:=by
 unfold ei;cases h:choice.find? (ta A s) with
 |none=>grind
 |some i=>obtain⟨k,hk,rfl,e⟩:=Az.1 (List.find?_some h);grind
theorem tD (A:List aq) (choice:List Int) (s:List UInt8) (hc:choice.length<=1000000):qj A choice s=some (ei A choice s):=by
 unfold qj ei;have h:=tI (f:=yZ) choice (ta A s) (λk=>(A,choice,s,k,())) (λi=>.inr (i,())) (.inl ()) (λk hk hp=>?_) (λk hk hp=>?_) ?_
 · rw[show ab yZ (A,choice,s,0,())=_ from h]
   cases choice.find? (ta A s)<;>rfl
 · simp (disch:=omega) only[K0,yZ];by_cases a:0<=choice[k]
   · by_cases b:choice[k]<A.length
     · obtain⟨j,D⟩: ∃j:Nat,choice[k]=j:=⟨(choice[k]).toNat,by omega⟩
       have F:j<A.length:=by omega
       have e: ¬(A[j]).1.1=s:=λe=>by rw[D,Az.2 ⟨j,F,rfl,e⟩] at hp;grind
       simp (disch:=omega) only[K0,D]
     · grind
   · grind
 · obtain⟨j,D,e,J⟩:=Az.1 hp;simp (disch:=omega) only[K0,yZ,e]
 · simp[yZ]
theorem amm (A:List aq) (choice:List Int) (s:List UInt8) (hc:choice.length<=1000000):Ko (A.map bN) choice s=some (ei A choice s):=by
 unfold Ko ei;have J: ∀{j:Nat} h,(bN A[j]).1.1=(A[j]).1.1:=λ_=>rfl;have h:=tI (f:=yR) choice (ta A s) (λk=>(A.map bN,s,choice,choice.length,k,())) (λi=>.inr (i,())) (.inl ()) (λk hk hp=>?_) (λk hk hp=>?_) ?_
 · rw[show ab yR (A.map bN,s,choice,choice.length,0,())=_ from h]
   cases choice.find? (ta A s)<;>rfl
 · simp (disch:=omega) only[K0,yR,ae2];by_cases a:0<=choice[k]
   · by_cases b:choice[k]<A.length
     · obtain⟨j,D⟩: ∃j:Nat,choice[k]=j:=⟨(choice[k]).toNat,by omega⟩
       have F:j<A.length:=by omega
       have e: ¬(A[j]).1.1=s:=λe=>by rw[D,Az.2 ⟨j,F,rfl,e⟩] at hp;grind
       simp (disch:=omega) only[K0,D,kC F,J F]
     · grind
   · grind
 · obtain⟨j,D,e,L⟩:=Az.1 hp;simp (disch:=omega) only[K0,yR,e,kC D,J D,ae2]
 · simp[yR]
def mL (e:bO) (f:List UInt8):List al:=if f=[] then e.2.2.2.2.2.2.1 else((eP e f).map (·.2)).getD []
def eQ (A:List aq) (choice:List Int) (t:aV):List al:=match A[(ei A choice t.1).toNat]? with|some y=>if ei A choice t.1<0 then[] else mL y.1 t.2 |none=>[]
theorem alV {e:bO} (h:dD e) (f:List UInt8):(mL e f).length<=8/\ ∀n∈mL e f,nY 4 n:=by
 unfold mL;split
 · exact⟨h.wJ,h.dO⟩
 · cases hf:eP e f with
   |none=>grind
   |some k=>have:=h.lX _ (ES hf);grind
theorem Sp {A:List aq} (hA:bu A) (choice:List Int) (t:aV):(eQ A choice t).length<=8/\ ∀n∈eQ A choice t,nY 4 n:=by
 unfold eQ;split
 · rename_i y D;split
   · grind
   · exact alV (hA.cV _ (List.mem_of_getElem? D)) _
 · grind
theorem aar {A:List aq} {choice:List Int} {t:aV} (h:ei A choice t.1= -1):eQ A choice t=[]:=by grind[eQ]
theorem LB {A:List aq} {choice:List Int} {t:aV} {k:Nat} (hk:k<A.length) (h:ei A choice t.1=(k:Int)):eQ A choice t=mL (A[k]).1 t.2:=by grind[eQ]
theorem Qk (e:bO):mL e []=e.2.2.2.2.2.2.1:=rfl
theorem X4 {e:bO} {f:List UInt8} (hf:f≠[]) (h:bG e.2.2.2.2.2.2.2 (λx=>decide (x.1=f))= -1):mL e f=[]:=by grind[mL,eP]
theorem Xv {e:bO} {f:List UInt8} (hf:f≠[]) {k:Nat} (hk:k<e.2.2.2.2.2.2.2.length) (h:bG e.2.2.2.2.2.2.2 (λx=>decide (x.1=f))=(k:Int)):mL e f=((e.2.2.2.2.2.2.2)[k]).2:=by grind[mL,eP]
theorem apq (A:List aq) (hA:bu A) (choice:List Int) (hc:choice.length<=1000000) (t:aV):LR A choice t=some (eQ A choice t):=by
 unfold LR;rw[tD A choice t.1 hc,aa7];rcases nP A choice t.1 with⟨_,h⟩ |⟨k,hk,h,_,_⟩
 · rw[aar h,h];rfl
 · have he:=hA.cV _ (ab7 hk);have F:=he.iW;rw[LB hk h,h,dN (show¬(k:Int)<0 by omega),cond_false]
   by_cases e:t.2=[]
   · rw[dY e,cond_true,au hk,e,Qk]
   · rw[dN e,cond_false,au hk,Sv _ _ (by omega)]
     rcases kX (A[k]).1.2.2.2.2.2.2.2 (λx=>decide (x.1=t.2)) with⟨_,g⟩ |⟨j,D,g,g2,_⟩
     · rw[X4 e g,g];rfl
     · simp (disch:=omega) only[K0,Xv e D g2,g2]
theorem aoY (A:List aq) (hA:bu A) (choice:List Int) (hc:choice.length<=1000000) (t:aV) (l:List aV) (F:List al) (N:l.length<=800000) (J:F.length<=900000):
  I4 (t,decide (t.2=[])) (A.map bN) choice (cX l) (fw l) (F.map aO) (fQ l)=some (A.map bN,choice,cX (eZ l (eQ A choice t)),fw (eZ l (eQ A choice t)),(F++eQ A choice t).map aO,fQ (eZ l (eQ A choice t))):=by
 unfold I4;have U:=Sp hA choice t;have D:=aaa (A.map bN) choice (eQ A choice t) (λn O=>FG (U.2 n O)) l F (by omega) N J
 simp only[amm A choice t.1 hc,aa7];rcases nP A choice t.1 with⟨_,h⟩ |⟨k,hk,h,_,_⟩
 · rw[aar h,h,ag5];rfl
 · have he:=hA.cV _ (ab7 hk);have Y:=he.iW;rw[LB hk h] at D⊢;simp (disch:=omega) only[h];by_cases e:t.2=[]
   · rw[kC hk,show(bN A[k]).1.2.2.2.2.2.2.1=(A[k]).1.2.2.2.2.2.2.1.map aO from rfl]
     rw[e,Qk] at D⊢;grind
   · have L:qb (bN A[k]).1 t.2=some (bG (A[k]).1.2.2.2.2.2.2.2 (λf=>decide (f.1=t.2))):=by
       rw[My _ _ (by show((A[k]).1.2.2.2.2.2.2.2.map ee).length<=1000;rw[ae2];omega)]
       show some (bG ((A[k]).1.2.2.2.2.2.2.2.map ee) _)=_;rw[Sm];rfl
     rw[dN e,cond_false,kC hk,L,aa7];rcases kX (A[k]).1.2.2.2.2.2.2.2 (λx=>decide (x.1=t.2)) with⟨_,g⟩ |⟨j,M,g,g2,_⟩
     · rw[X4 e g,g,ag5];rfl
     · rw[Xv e M g2] at D⊢;rw[g2,dY (show(0:Int)<=j by omega),kC hk,show(bN A[k]).1.2.2.2.2.2.2.2=(A[k]).1.2.2.2.2.2.2.2.map ee from rfl,au (l:=(A[k]).1.2.2.2.2.2.2.2.map ee) (by grind),ar7,show(ee (A[k]).1.2.2.2.2.2.2.2[j]).2=((A[k]).1.2.2.2.2.2.2.2[j]).2.map aO from rfl,D];rfl
def k8 (A:List aq) (choice:List Int):Nat->Nat->List aV×List al->List aV×List al
 |0,_,s=>s
 |m+1,at_,s=>match s.1[at_]? with
  |none=>s
  |some t=>k8 A choice m (at_+1) (eZ s.1 (eQ A choice t),s.2++eQ A choice t)
def bS (A:List aq) (R:List al) (choice:List Int):List aV×List al:=k8 A choice 80000 0 (eZ [] R,R)
theorem Y9 (s:List UInt8) (x:aV): ∀(D:List (List UInt8)) (l:List aV),x∈jk s l D<->x∈l\/ ∃f∈D,x=(s,f)
 |[],l=>⟨.inl,λh=>h.elim id λ⟨_,h,_⟩=>(at9 h).elim⟩
 |f::t,l=>by
  show x∈jk s (eK l (s,f)) t<->_;rw[Y9 s x t,Z8];constructor
  · grind
  · grind
def Ck (x:aV) (n:al):Prop:=x.1=n.1/\(x.2=[]\/x.2∈n.2.2)
theorem qq (x:aV): ∀(ns:List al) (l:List aV),x∈eZ l ns<->x∈l\/ ∃n∈ns,Ck x n
 |[],l=>⟨.inl,λh=>h.elim id λ⟨_,h,_⟩=>(at9 h).elim⟩
 |n::t,l=>by
  show x∈eZ (jk n.1 (eK l (n.1,[])) n.2.2) t<->_;rw[qq x t,Y9,Z8];constructor
  · rintro(((h |h) |⟨g,h,e⟩) |⟨g,h,e⟩)
    · grind
    · exact .inr ⟨n,.head _,by rw[h];exact⟨rfl,.inl rfl⟩⟩
    · exact .inr ⟨n,.head _,by rw[e];exact⟨rfl,.inr h⟩⟩
    · grind
  · rintro(h |⟨g,h,e⟩)
    · grind
    · rcases ai3.1 h with q |q
      · subst q;rcases e with⟨F,D |D⟩
        · grind
        · grind
      · grind
theorem XF (s:List UInt8): ∀(D:List (List UInt8)) (l:List aV),l.Nodup->(jk s l D).Nodup
 |[],l,h=>h
 |f::t,l,h=>XF s t _ (X5 h)
theorem QG: ∀(ns:List al) (l:List aV),l.Nodup->(eZ l ns).Nodup
 |[],l,h=>h
 |n::t,l,h=>QG t _ (XF _ _ _ (X5 h))
def qZ (A:List aq) (R:List al):List al:=R++A.flatMap λy=>y.1.2.2.2.2.2.2.1++y.1.2.2.2.2.2.2.2.flatMap (·.2)
def Uw (A:List aq) (R:List al):List aV:=(qZ A R).flatMap λn=>(n.1,[])::n.2.2.map λf=>(n.1,f)
theorem apU {A:List aq} (hA:bu A) {R:List al} (hR:bM R):(qZ A R).length<=14408:=by
 have h1:=Fj A (λ(y:aq)=>y.1.2.2.2.2.2.2.1++y.1.2.2.2.2.2.2.2.flatMap (·.2)) 40 (λy F=>by have he:=hA.cV y F;have h2:=Fj y.1.2.2.2.2.2.2.2 (λ(f:fv)=>f.2) 8 (λf hf=>(he.lX f hf).2.1);have D:=he.iW;have J:=he.wJ;rw[ae7];omega)
 have h2:=hA.many;have D:=hR.many;unfold qZ;grind
theorem F1 {A:List aq} (hA:bu A) {R:List al} (hR:bM R): ∀n∈qZ A R,nY 4 n:=by
 intro n D;rcases ae5.1 D with h |h
 · exact hR.dO n h
 · obtain⟨y,F,h⟩:=List.mem_flatMap.1 h;have he:=hA.cV y F;rcases ae5.1 h with h |h
   · exact he.dO n h
   · obtain⟨f,hf,h⟩:=List.mem_flatMap.1 h;exact(he.lX f hf).2.2 n h
theorem apT {A:List aq} (hA:bu A) {R:List al} (hR:bM R):(Uw A R).length<=72040:=by
 have h1:=Fj (qZ A R) (λ(n:al)=>(n.1,[])::n.2.2.map λf=>(n.1,f)) 5 (λn D=>by have:=(F1 hA hR n D).2.2.1;rw[af2,ae2];omega)
 have h2:=apU hA hR;unfold Uw;omega
theorem apS {A:List aq} {R:List al} {x:aV} {n:al} (D:n∈qZ A R) (h:Ck x n):x∈Uw A R:=by
 refine List.mem_flatMap.2 ⟨n,D,?_⟩;rcases h with⟨h1,h2 |h2⟩
 · grind
 · grind
theorem akD {A:List aq} {R:List al} {y:aq} (F:y∈A) (f:List UInt8): ∀n∈mL y.1 f,n∈qZ A R:=by
 intro n D;refine ae5.2 (.inr (List.mem_flatMap.2 ⟨y,F,?_⟩));unfold mL at D;split at D
 · grind
 · cases hf:eP y.1 f with
   |none=>grind
   |some k=>rw[hf] at D;exact ae5.2 (.inr (List.mem_flatMap.2 ⟨_,ES hf,D⟩))
theorem anR {A:List aq} {R:List al} (choice:List Int) (t:aV): ∀n∈eQ A choice t,n∈qZ A R:=by
 intro n D;unfold eQ at D;split at D
 · rename_i y F;split at D
   · grind
   · exact akD (List.mem_of_getElem? F) _ n D
 · grind
theorem Z7 (l:List aV) (x:aV):l<+:eK l x:=by grind[eK]
theorem Y8 (s:List UInt8): ∀(D:List (List UInt8)) (l:List aV),l<+:jk s l D
 |[],l=>List.prefix_refl _
 |f::t,l=>(Z7 l (s,f)).trans (Y8 s t _)
theorem Rs: ∀(ns:List al) (l:List aV),l<+:eZ l ns
 |[],l=>List.prefix_refl _
 |n::t,l=>((Z7 l _).trans (Y8 n.1 n.2.2 _)).trans (Rs t _)
theorem aqk {α:Type} {l F:List α} (h:l<+:F) {j:Nat} (D:j<l.length):F[j]? =some l[j]:=by obtain⟨t,rfl⟩:=h;rw[List.getElem?_append_left D,ae6 D]
structure lq (A:List aq) (R:List al) (choice:List Int) (at_:Nat) (s:List aV×List al):Prop where
 once:s.1.Nodup
 named: ∀x∈s.1,∃n∈s.2,Ck x n
 back: ∀n∈s.2,∀x,Ck x n->x∈s.1
 roots: ∀n∈R,n∈s.2
 src: ∀n∈s.2,n∈R\/ ∃t∈s.1,n∈eQ A choice t
 done: ∀j x,j<at_->s.1[j]? =some x-> ∀n∈eQ A choice x,n∈s.2
 ind: ∀P:aV->Prop,(∀n∈R,∀x,Ck x n->P x)->(∀t,P t-> ∀n∈eQ A choice t,∀x,Ck x n->P x)-> ∀x∈s.1,P x
 Cn:s.2.length<=8+8*at_
 place:at_<=s.1.length
variable {A:List aq} {R:List al} {choice:List Int} {at_:Nat} {s:List aV×List al}
theorem lq.all (h:lq A R choice at_ s): ∀n∈s.2,n∈qZ A R:=by
 intro n D;rcases h.src n D with q |⟨t,_,q⟩
 · exact ae5.2 (.inl q)
 · exact anR choice t n q
theorem lq.len (hA:bu A) (hR:bM R) (h:lq A R choice at_ s):s.1.length<=72040:=
 an4 (KV h.once λx F=>by obtain⟨n,D,e⟩:=h.named x F;exact apS (h.all n D) e) (apT hA hR)
theorem lq.first (hR:bM R):lq A R choice 0 (eZ [] R,R) where
 once:=QG R [] List.nodup_nil
 named:=λx F=>((qq x R []).1 F).elim (λh=>(at9 h).elim) id
 back:=λn D x F=>(qq x R []).2 (.inr ⟨n,D,F⟩)
 roots:=λn D=>D
 src:=λn D=>.inl D
 done:=λj x h=>absurd h (ax6 j)
 ind:=λP h1 h2 x F=>((qq x R []).1 F).elim (λh=>(at9 h).elim) (λ⟨n,D,e⟩=>h1 n D x e)
 Cn:=hR.many
 place:=ae3 _
theorem lq.next (hA:bu A) (h:lq A R choice at_ s) (J:at_<s.1.length):lq A R choice (at_+1) (eZ s.1 (eQ A choice s.1[at_]),s.2++eQ A choice s.1[at_]) where
 once:=QG _ _ h.once
 named:=λx F=>by
  rcases(qq x _ _).1 F with q |⟨n,D,e⟩
  · obtain⟨n,D,e⟩:=h.named x q;grind
  · exact⟨n,ae5.2 (.inr D),e⟩
 back:=λn D x F=>by
  rcases ae5.1 D with q |q
  · exact(qq x _ _).2 (.inl (h.back n q x F))
  · exact(qq x _ _).2 (.inr ⟨n,q,F⟩)
 roots:=λn D=>ae5.2 (.inl (h.roots n D))
 src:=λn D=>by
  rcases ae5.1 D with q |q
  · rcases h.src n q with a |⟨t,L,a⟩
    · grind
    · exact .inr ⟨t,(qq t _ _).2 (.inl L),a⟩
  · exact .inr ⟨_,(qq _ _ _).2 (.inl (ab7 J)),q⟩
 done:=λj x M F n D=>by
  have hp:=aqk (Rs (eQ A choice s.1[at_]) s.1) (j:=j) (by omega)
  have F:=F;rw[hp] at F;have F:=Option.some.inj F;by_cases e:j=at_
  · grind
  · exact ae5.2 (.inl (h.done j x (by omega) (by grind) n D))
 ind:=λP h1 h2 x F=>by
  have h0:=h.ind P h1 h2;rcases(qq x _ _).1 F with q |⟨n,D,e⟩
  · exact h0 x q
  · exact h2 _ (h0 _ (ab7 J)) n D x e
 Cn:=by have h1:=h.Cn;have h2:=(Sp hA choice s.1[at_]).1;grind
 place:=by have:s.1.length<=(eZ s.1 (eQ A choice s.1[at_])).length:=(Rs _ _).length_le;grind
theorem QM (hA:bu A) (hR:bM R) (hc:choice.length<=1000000): ∀m at_ (s:List aV×List al),at_+m=80000->lq A R choice at_ s->
  ab D' (A,choice,(at_:Int),s.2,s.1,())=some ((k8 A choice m at_ s).2,(k8 A choice m at_ s).1,())/\
  ab DH ((at_:Int),A.map bN,cX s.1,fw s.1,s.2.map aO,fQ s.1,choice,())=some (A.map bN,cX (k8 A choice m at_ s).1,fw (k8 A choice m at_ s).1,(k8 A choice m at_ s).2.map aO,fQ (k8 A choice m at_ s).1,choice,())/\
  lq A R choice (k8 A choice m at_ s).1.length (k8 A choice m at_ s):=by
 intro m
 induction m with
 |zero=>intro at_ s hm h;have:=h.len hA hR;have:=h.place;omega
 |succ m N=>
  intro at_ s hm h;have hlen:=h.len hA hR;have U:=h.place;have O:=h.Cn;have M:=RR s.1;by_cases D:at_<s.1.length
  · have e:k8 A choice (m+1) at_ s=k8 A choice m (at_+1) (eZ s.1 (eQ A choice s.1[at_]),s.2++eQ A choice s.1[at_]):=by
      rw[k8,ae6 D]
    rw[e];obtain⟨i1,i2,i3⟩:=N (at_+1) _ (by omega) (h.next hA D)
    have L:=Sp hA choice s.1[at_];refine⟨?_,?_,i3⟩
    · rw[<-i1];refine aZ ?_;simp (disch:=omega) only[K0,D',apq A hA choice hc,aab (eQ A choice s.1[at_]) (λn J=>FG (L.2 n J)) s.1 s.2 (by omega) (by omega) (by omega)]
    · rw[<-i2];refine aZ ?_;have F:(fQ s.1)[at_]? =some (s.1[at_],decide ((s.1[at_]).2=[])):=by unfold fQ;rw[List.getElem?_map,ae6 D];rfl
      simp (disch:=omega) only[K0,DH,F,aoY A hA choice hc s.1[at_] s.1 s.2 (by omega) (by omega)]
  · have e:k8 A choice (m+1) at_ s=s:=by rw[k8,List.getElem?_eq_none (by omega)]
    have:at_=s.1.length:=by omega
    subst this;rw[e];refine⟨bk ?_,bk ?_,h⟩
    · simp[D',decide_false]
    · simp[DH,M,cond_false]
theorem aqv (a b c d e):ab yE (a,b,c,e,d,())=(ab PE (a,b,c,d,e,())).map λr:List al×Int×List al×List aV×Unit=>(r.1,r.2.1,r.2.2.2.1,r.2.2.1,()):=
 o5 (φ:=λv:List al×Int×Int×List al×List aV×Unit=>(v.1,v.2.1,v.2.2.1,v.2.2.2.2.1,v.2.2.2.1,())) (ψ:=λr:List al×Int×List al×List aV×Unit=>(r.1,r.2.1,r.2.2.2.1,r.2.2.1,())) (λv=>by simp only[yE,PE,o0,o8,nU,at5,Sum.map_inl,Sum.map_inr]) (a,b,c,d,e,())
theorem aqu (a b d e):ab yD (a,b,e,d,())=(ab PD (a,b,d,e,())).map λr:List al×List aV×Unit=>(r.2.1,r.1,()):=
 o5 (φ:=λv:List al×Int×List al×List aV×Unit=>(v.1,v.2.1,v.2.2.2.1,v.2.2.1,())) (ψ:=λr:List al×List aV×Unit=>(r.2.1,r.1,())) (λv=>by simp only[yD,PD,o0,o8,nU,at5,Sum.map_inl,Sum.map_inr,tU,aqv]) (a,b,d,e,())
theorem ao4 (R:List al):yK R [] []=(Jk R).map λr=>(r.2,r.1):=by unfold yK Jk;rw[aqu,tU,nU];rfl
theorem E3 (hA:bu A) (hR:bM R) (hc:choice.length<=1000000):tF A R choice=some (bS A R choice):=by
 have h:=(QM hA hR hc 80000 0 (eZ [] R,R) rfl (lq.first hR)).1;have hm:=hR.many;have h2:=aab R (λn J=>FG (hR.dO n J)) [] [] (by omega) (ae3 _) (ae3 _)
 rw[ao4,Option.map_eq_some_iff] at h2;obtain⟨r,F,D⟩:=h2;have e:r=(R,eZ [] R):=Prod.ext (congrArg (·.2) D) (congrArg (·.1) D)
 unfold tF;rw[F,e,aa7];rw[show ab D' (A,choice,0,R,eZ [] R,())=_ from h];rfl
theorem qi (hA:bu A) (hR:bM R) (hc:choice.length<=1000000):lq A R choice (bS A R choice).1.length (bS A R choice):=(QM hA hR hc 80000 0 (eZ [] R,R) rfl (lq.first hR)).2.2
variable {A:List aq} {R:List al} {choice:List Int}
theorem aaM: ∀(l:List aV) (k:Nat),aN (λ_ (t:aV)=>if decide (t.2=[])=true then[t.1] else[]) l k=cX l
 |[],_=>rfl
 |t::l,k=>by
  show(if decide (t.2=[])=true then[t.1] else[])++aN _ l (k+1)=_
  rw[aaM l (k+1)];unfold cX;rw[List.filter_cons];split<;>rfl
theorem Se (s:List aV×List al) (hs:s.1.length<=100000):yN s=some (cX s.1):=by
 unfold yN;have:=eX (f:=Dq) s.1 (λ_ (t:aV)=>if decide (t.2=[])=true then[t.1] else[]) 1 0 (λk acc=>((k:Int),s.1,s.2,acc,())) (λacc=>(acc,())) (λk h=>rR _ _) (λk hk acc L=>?_) (λacc=>?_) [] (ae3 _) rfl
 · rw[show ab Dq (0,s.1,s.2,[],())=_ from this,aaM];rfl
 · have D:=aH k;have F: ∀{R:Type} (q:Option R),J (aa .i64 ((k+1:Nat):Int)) q=q:=λq=>aw (show k+1<=4611686018427387904 by omega)
   simp only[Dq,dY (show((k:Nat):Int)<(s.1.length:Int) by omega),cond_true,au hk,D,F]
   rcases Bool.eq_false_or_eq_true (decide ((s.1[k]).2=[])) with e |e
   · rw[e,if_pos rfl,cond_true,ib (by omega)]
   · rw[e,if_neg (by decide),cond_false,ag5]
 · simp only[Dq,ak0,decide_false,cond_false]
end
end Go.Proofs.YtejhifnjgoclpaaGreatDoor.Fx
section
namespace Go.Proofs.YtejhifnjgoclpaaGreatDoor.Fx
open Go.RowKit
noncomputable section
variable {A:List aq} {R:List al} {c:List Int}
theorem aaS {w:Want}:w∈ax A R<-> ∃n∈qZ A R,w.1=n.1/\w.2∈n.2.2:=by
 refine YF.trans ⟨λh=>?_,λ⟨n,D,e⟩=>ae5.2 ?_⟩
 · rcases ae5.1 h with h |h
   · obtain⟨n,D,e⟩:=zp.1 h;exact⟨n,ae5.2 (.inl D),e⟩
   · obtain⟨i,F,h⟩:=dG.1 h;rcases ae5.1 h with h |h
     · obtain⟨n,D,e⟩:=zp.1 h;exact⟨n,ae5.2 (.inr (List.mem_flatMap.2 ⟨_,ab7 F,ae5.2 (.inl D)⟩)),e⟩
     · obtain⟨j,J,h⟩:=dG.1 h;obtain⟨n,D,e⟩:=zp.1 h;exact⟨n,ae5.2 (.inr (List.mem_flatMap.2 ⟨_,ab7 F,ae5.2 (.inr (List.mem_flatMap.2 ⟨_,ab7 J,D⟩))⟩)),e⟩
 · rcases ae5.1 D with h |h
   · exact .inl (zp.2 ⟨n,h,e⟩)
   · obtain⟨y,M,h⟩:=List.mem_flatMap.1 h;obtain⟨i,F,rfl⟩:=at2 M;refine .inr (dG.2 ⟨i,F,ae5.2 ?_⟩);rcases ae5.1 h with h |h
     · exact .inl (zp.2 ⟨n,h,e⟩)
     · obtain⟨g,L,h⟩:=List.mem_flatMap.1 h;obtain⟨j,J,rfl⟩:=at2 L;exact .inr (dG.2 ⟨j,J,zp.2 ⟨n,h,e⟩⟩)
theorem aq9 (hA:bu A) (hR:bM R) {w:Want} (hw:w∈ax A R):w.2≠[]:=by obtain⟨n,D,_,h⟩:=aaS.1 hw;exact(FG (F1 hA hR n D)).2 _ h
structure Good (A:List aq) (R:List al) (c:List Int):Prop where
 met: ∀n∈(bS A R c).2,∃k,∃h:k<A.length,ei A c n.1=(k:Int)/\gj (dU n.2.1) (aR (A[k]).1.2.1)=true
 lX: ∀t∈(bS A R c).1,t.2≠[]-> ∀k,∀h:k<A.length,ei A c t.1=(k:Int)->eP (A[k]).1 t.2≠none
 pJ: ∀k,∀h:k<A.length,(k:Int)∈c-> ∀b∈(A[k]).1.2.2.2.2.2.1,∀j,∀h:j<A.length,ei A c b.1=(j:Int)->gj (dU b.2.1) (aR (A[j]).1.2.1)=false
def taken (A:List aq) (R:List al) (c:List Int) (i:Nat):Prop:= ∃h:i<A.length,ei A c (A[i]).1.1=(i:Int)/\((A[i]).1.1,[])∈(bS A R c).1
def mS (A:List aq) (R:List al) (c:List Int) (v:Nat):Prop:=taken A R c v\/ ∃j,∃h:j<(ax A R).length,v=A.length+j/\(ax A R)[j]∈(bS A R c).1
def Nl (A:List aq) (R:List al) (c:List Int) (x:Int):Prop:=(0<x/\mS A R c (x - 1).toNat)\/(x<0/\ ¬mS A R c (-x - 1).toNat)
theorem aaf {v:Nat} (h:mS A R c v):Nl A R c ((v:Int)+1):=.inl ⟨by omega,by rw[show((v:Int)+1 - 1).toNat=v by omega];exact h⟩
theorem Sf {v:Nat} (h: ¬mS A R c v):Nl A R c (neg v):=by unfold neg;exact .inr ⟨by omega,by rw[show(-(0 - ((v:Int)+1)) - 1).toNat=v by omega];exact h⟩
theorem tE {i:Nat} (D:i<A.length):mS A R c i<->taken A R c i:=
 ⟨λh=>h.elim id λ⟨j,F,e,_⟩=>absurd e (by omega),.inl⟩
theorem Rh {j:Nat} (D:j<(ax A R).length):mS A R c (A.length+j)<->(ax A R)[j]∈(bS A R c).1:=by
 refine⟨λh=>?_,λh=>.inr ⟨j,D,rfl,h⟩⟩;rcases h with⟨h,_⟩ |⟨k,hk,e,h⟩
 · omega
 · grind
def pq (A:List aq) (R:List al) (c:List Int) (l:List Int):Prop:= ∃x∈l,Nl A R c x
theorem Q8 {l:List Int} (h:pq A R c l):pq A R c (bV l):=by obtain⟨x,D,h⟩:=h;exact⟨x,((tC l).2 x).2 D,h⟩
theorem LA {i j:Nat} (h: ¬(mS A R c i/\mS A R c j)):pq A R c [neg i,neg j]:=by
 by_cases e:mS A R c i
 · exact⟨_,.tail _ (.head _),Sf λq=>h ⟨e,q⟩⟩
 · exact⟨_,.head _,Sf e⟩
variable (hA:bu A) (hR:bM R) (hc:c.length<=1000000) (hG:Good A R c)
include hA hR hc
theorem alA: ∀x∈(bS A R c).1,∀n∈eQ A c x,n∈(bS A R c).2:=by intro x F;obtain⟨j,D,e⟩:=at2 F;exact(qi hA hR hc).done j x D (by grind)
include hG
theorem alW {n:al} (D:n∈(bS A R c).2):pq A R c (fq A n):=by
 obtain⟨k,hk,h1,h2⟩:=hG.met n D;have J:=(qi hA hR hc).back n D (n.1,[]) ⟨rfl,.inl rfl⟩
 have F:(A[k]).1.1=n.1:=by
  rcases nP A c n.1 with⟨_,q⟩ |⟨j,L,q,M,_⟩
  · omega
  · grind
 refine⟨k+1,ar1.2 ⟨k,wC.2 ⟨k,hk,rfl,?_⟩,rfl⟩,aaf (.inl ⟨hk,by rw[F];exact h1,by rw[F];exact J⟩)⟩
 simp_all[uq]
theorem al9 {n:al} (F:n∈(bS A R c).2) {f:List UInt8} (hf:f∈n.2.2):pq A R c [cN A.length (ax A R) (n.1,f)]:=by have J:=qi hA hR hc;obtain⟨j,D,e⟩:=at2 (aaS.2 ⟨n,J.all n F,rfl,hf⟩:(n.1,f)∈ax A R);refine⟨_,.head _,?_⟩;rw[<-e,SJ A R j D];exact aaf ((Rh D).2 (by rw[e];exact J.back n F _ ⟨rfl,.inr hf⟩))
theorem QZ {M:Nat->aY} {N:Nat->Nat->aY} {D:List Int} {ns:List al} (h:pq A R c D\/ ∀n∈ns,n∈(bS A R c).2) {l:bT} (L:l∈lR A (ax A R) M N D ns):pq A R c l.2:=by
 have app: ∀{m:List Int},(pq A R c D\/pq A R c m)->pq A R c (bV (D++m)):=λh=>Q8 (h.elim (λ⟨x,F,h⟩=>⟨x,ae5.2 (.inl F),h⟩) λ⟨x,F,h⟩=>⟨x,ae5.2 (.inr F),h⟩);obtain⟨i,J,h1 |⟨k,hk,h1⟩⟩:=EJ L
 · rw[h1];exact app (h.imp id λh=>alW hA hR hc hG (h _ (ab7 J)))
 · rw[h1];exact app (h.imp id λh=>al9 hA hR hc hG (h _ (ab7 J)) (ab7 hk))
theorem ajZ {l:bT} (h:l∈lp A R (ax A R)):pq A R c l.2:=by
 have F:=qi hA hR hc;have M:=alA hA hR hc;unfold lp at h;rcases ae5.1 h with h |h
 · exact QZ hA hR hc hG (.inr F.roots) h
 · obtain⟨i,D,h⟩:=dG.1 h;unfold mR at h;rcases ae5.1 h with h |h
   · rcases ae5.1 h with h |h
     · rcases ae5.1 h with h |h
       · obtain⟨k,hk,h⟩:=dG.1 h;rw[at6] at hk;split at h
         · rename_i e;rw[List.getElem_drop] at e;have e:=of_decide_eq_true e;rw[ah3.1 h];refine Q8 (LA λ⟨a,b⟩=>?_);obtain⟨_,a,_⟩:=(tE D).1 a;obtain⟨J,b,_⟩:=(tE (by omega)).1 b
           rw[e] at b;omega
         · cases h
       · refine QZ hA hR hc hG ?_ h;by_cases e:mS A R c i
         · obtain⟨_,a,b⟩:=(tE D).1 e;refine .inr λn L=>M _ b n ?_;rw[LB D a];exact L
         · exact .inl ⟨_,.head _,Sf e⟩
     · obtain⟨t,F,h⟩:=dG.1 h;unfold sj at h;split at h
       · rename_i e;have e:=of_decide_eq_true e;have N:=aq9 hA hR (ab7 F);cases hf:eP (A[i]).1 ((ax A R)[t]).2 with
         |none=>rw[hf] at h;rw[ah3.1 h];refine LA (i:=i) (j:=A.length+t) λ⟨a,b⟩=>?_;obtain⟨_,a,_⟩:=(tE D).1 a;exact hG.lX _ ((Rh F).1 b) N i D (e▸a) hf
         |some fd=>
          rw[hf] at h;refine QZ hA hR hc hG ?_ h;by_cases g:mS A R c i/\mS A R c (A.length+t)
          · obtain⟨_,a,b⟩:=(tE D).1 g.1;refine .inr λn L=>M _ ((Rh F).1 g.2) n ?_;rw[LB D (e▸a)];unfold mL;rw[if_neg N,hf];exact L
          · exact .inl (LA (i:=i) (j:=A.length+t) g)
       · cases h
   · obtain⟨k,hk,h⟩:=dG.1 h;obtain⟨j,J,h⟩:=dG.1 h;obtain⟨z,O,q,hm⟩:=wC.1 (ab7 J);rw[ah3.1 h,q];refine Q8 (LA λ⟨a,b⟩=>?_);obtain⟨_,a,_⟩:=(tE D).1 a;obtain⟨_,b,_⟩:=(tE O).1 b;unfold uq at hm;rw[ad0,decide_eq_true_eq] at hm
     have U:(i:Int)∈c:=by
      rcases nP A c (A[i]).1.1 with⟨_,q⟩ |⟨j,J,q,_,Y⟩
      · omega
      · rw[a] at q;rw[q];exact Y
     rw[hm.1] at b;have:=hG.pJ i D U _ (ab7 hk) z O b;grind
end
end Go.Proofs.YtejhifnjgoclpaaGreatDoor.Fx
end
namespace Go.Proofs.YtejhifnjgoclpaaGreatDoor.Fx
open Go.RowKit
set_option maxRecDepth 1000000
noncomputable section
theorem rQ {V R:Type} {f:V->Option (V⊕R)} {v0:V} (n:Nat) (st:Nat->V) (P:Nat->Prop) (Q:R->Prop) {out:R} (L:st 0=v0)
  (h1: ∀k,k<n->(∀j,j<k->P j)->(P k/\f (st k)=some (.inl (st (k+1))))\/ ∃r,Q r/\f (st k)=some (.inr r))
  (h2:f (st n)=some (.inr out)):((∀k,k<n->P k)/\ab f v0=some out)\/ ∃r,Q r/\ab f v0=some r:=by
 have: ∀m k,n - k=m->k<=n->(∀j,j<k->P j)->((∀k,k<n->P k)/\ab f (st k)=some out)\/ ∃r,Q r/\ab f (st k)=some r:=by
  intro m
  induction m with
  |zero=>
   intro k hm hk D;obtain rfl:k=n:=by omega
   exact .inl ⟨D,bk h2⟩
  |succ m F=>
   intro k hm hk D;rcases h1 k (by omega) D with⟨a,b⟩ |⟨r,a,b⟩
   · rw[aZ b];refine F (k+1) (by omega) (by omega) λj J=>?_
     grind
   · exact .inr ⟨r,a,bk b⟩
 grind
theorem aqK {s v:List UInt8} (hs:iH s=true) (D:dc v=true) (F:v.length<=80):wq s v=some (gj (dU s) (aR v)):=by
 have h1:=XT hs;unfold wq;rw[Qh _ (by omega),if_pos hs,aa7,y8 _ (by omega),if_pos D,SV D,aa7]
 simp only[cond_true];rw[Ya _ (Rl hs) _ (L8 D (by omega))];rfl
variable {A:List aq} {R:List al} {c:List Int}
theorem Up (hA:bu A) {s:List UInt8} (hs:iH s=true) {k:Nat} (hk:k<A.length):wq s (A[k]).1.2.1=some (gj (dU s) (aR (A[k]).1.2.1)):=by have he:=hA.cV _ (ab7 hk);exact aqK hs he.cD he.short.2.1
def vw (A:List aq) (c:List Int):Prop:= ∀i∈c,∃k,k<A.length/\i=(k:Int)
def acj (A:List aq) (c:List Int):Prop:= ∀k,∀h:k<A.length,(k:Int)∈c-> ∀b∈(A[k]).1.2.2.2.2.2.1,∀j,∀h:j<A.length,ei A c b.1=(j:Int)->gj (dU b.2.1) (aR (A[j]).1.2.1)=false
theorem Zp (hA:bu A) (O:vw A c) (hc:c.length<=1000000): ∃b,Ez A c=some b/\(b=false->acj A c):=by
 unfold Ez;have main:=rQ (f:=vM) c.length (λi=>(A,c,i,())) (λi=> ∀h:i<c.length,∀k,∀h:k<A.length,c[i]=k-> ∀b∈(A[k]).1.2.2.2.2.2.1,∀j,∀h:j<A.length,ei A c b.1=j->gj (dU b.2.1) (aR (A[j]).1.2.1)=false) (λr=>r=.inr ()) (out:=.inl ()) rfl (λi h _=>?_) ?_
 · rcases main with⟨h,e⟩ |⟨r,rfl,e⟩
   · have e:ab vM (A,c,0,())=_:=e;rw[e];refine⟨false,rfl,λ_ k hk hm=>?_⟩;obtain⟨i,L,e⟩:=at2 hm;exact h i L L k hk e
   · have e:ab vM (A,c,0,())=_:=e;rw[e];exact⟨true,rfl,λh=>by cases h⟩
 · obtain⟨k,hk,e⟩:=O _ (ab7 h);have he:=hA.cV _ (ab7 hk);have ah:=he.sn;have U:=rQ (f:=y5) (A[k]).1.2.2.2.2.2.1.length (λt=>(A,c,i,(A[k]).1.2.2.2.2.2.1,t,())) (λt=> ∀h:t<(A[k]).1.2.2.2.2.2.1.length,∀j,∀F:j<A.length,ei A c ((A[k]).1.2.2.2.2.2.1[t]).1=j->gj (dU ((A[k]).1.2.2.2.2.2.1[t]).2.1) (aR (A[j]).1.2.1)=false) (λr=>r=.inr ()) (out:=.inl (A,c,i,())) rfl (λt J _=>?_) ?_
   · rcases U with⟨q,D⟩ |⟨r,rfl,D⟩
     · have D:ab y5 (A,c,i,(A[k]).1.2.2.2.2.2.1,0,())=_:=D;refine .inl ⟨λ_ k' ar e' b M j F N=>?_,?_⟩
       · obtain rfl:k=k':=by omega
         obtain⟨t,J,rfl⟩:=at2 M;exact q t J J j F N
       · simp (disch:=omega) only[K0,vM,e,D]
     · have D:ab y5 (A,c,i,(A[k]).1.2.2.2.2.2.1,0,())=_:=D;refine .inr ⟨_,rfl,?_⟩;simp (disch:=omega) only[K0,vM,e,D]
   · have Y:=he.pJ _ (ab7 J);simp (disch:=omega) only[K0,y5,tD A c _ hc];rcases nP A c ((A[k]).1.2.2.2.2.2.1[t]).1 with⟨_,q⟩ |⟨j,F,q,_,_⟩
     · grind
     · simp (disch:=omega) only[K0,q,Up hA Y.2.1 F];cases Z:gj (dU ((A[k]).1.2.2.2.2.2.1[t]).2.1) (aR (A[j]).1.2.1) with
       |true=>simp
       |false=>exact .inl ⟨fun _ j' an q2=>by obtain rfl:j=j':=by omega
                                              exact Z,rfl⟩
   · simp[y5,decide_false]
 · simp[vM,decide_false]
variable {A:List aq} {R:List al} {c:List Int}
structure l7 (A:List aq) (R:List al) (c:List Int):Prop where
 ina:vw A c
 acX: ∀i,∀h:i<c.length,0<i-> ∀k,∀hk:k<A.length,c[i]=(k:Int)-> ∀j,∀hj:j<A.length,c[i - 1]'(by omega)=(j:Int)->j<k/\(A[k]).1.1≠(A[j]).1.1
 aJ:Good A R c
 asked: ∀k,∀h:k<A.length,(k:Int)∈c->(A[k]).1.1∈cX (bS A R c).1
abbrev QW {B:Type} (r:B⊕(Int×Unit)):Prop:= ∃w:Int,w≠0/\r=.inr (w,())
theorem asC (hc:c.length<=1000000):(vw A c/\(∀i,∀h:i<c.length,0<i-> ∀k,∀hk:k<A.length,c[i]=(k:Int)-> ∀j,∀L:j<A.length,c[i - 1]'(by omega)=(j:Int)->j<k/\(A[k]).1.1≠(A[j]).1.1)/\ab zP (A,R,c,0,())=some (.inl (A,R,c,())))\/ ∃r,QW r/\ab zP (A,R,c,0,())=some r:=by
 have main:=rQ (f:=zP) c.length (λi=>(A,R,c,i,())) (λi=> ∀h:i<c.length,(∃k,k<A.length/\c[i]=k)/\(0<i-> ∀k,∀hk:k<A.length,c[i]=k-> ∀j,∀L:j<A.length,c[i - 1]'(by omega)=j->j<k/\(A[k]).1.1≠(A[j]).1.1)) QW (out:=.inl (A,R,c,())) rfl (λi h O=>?_) ?_
 · rcases main with⟨h,e⟩ |main
   · exact .inl ⟨λx U=>by obtain⟨i,D,rfl⟩:=at2 U;exact(h i D D).1,λi D=>(h i D D).2,e⟩
   · exact .inr main
 · have one:QW (B:=List aq×List al×List Int×Unit) (.inr (1,())):=⟨1,by decide,rfl⟩
   simp only[zP,dY (show(i:Int)<c.length by omega),au h,aH,aw (show i+1<=4611686018427387904 by omega)]
   by_cases M:c[i]<0
   · grind
   · rw[dN M];by_cases J:A.length<=c[i]
     · rw[dY J];exact .inr ⟨_,one,rfl⟩
     · rw[dN J];obtain⟨k,e⟩: ∃k:Nat,c[i]=k:=⟨(c[i]).toNat,by omega⟩
       have hk:k<A.length:=by omega
       by_cases h0:0<i
       · obtain⟨⟨j,L,q⟩,_⟩:=O (i - 1) (by omega) (by omega)
         rw[dY (show(0:Int)<i by omega),show(i:Int) - 1=((i - 1:Nat):Int) by omega,aw (by omega),au (l:=c) (by omega),q,e]
         by_cases N:k<=(j:Int)
         · rw[dY N];exact .inr ⟨_,one,rfl⟩
         · simp (disch:=omega) only[K0,q];by_cases F:(A[k]).1.1=(A[j]).1.1
           · rw[dY F];exact .inr ⟨_,one,rfl⟩
           · rw[dN F];refine .inl ⟨λ_=>⟨⟨k,hk,e⟩,λ_ Z an g Y ah g2=>?_⟩,rfl⟩;obtain rfl:k=Z:=by omega
             obtain rfl:j=Y:=by omega
             exact⟨by omega,F⟩
       · rw[dN (show¬0<(i:Int) by omega)]
         exact .inl ⟨λ_=>⟨⟨k,hk,e⟩,λg=>absurd g h0⟩,rfl⟩
 · simp[zP,decide_false]
theorem asB (hA:bu A) (hc:c.length<=1000000) (ts:List aV) (ns:List al) (J:ns.length<=1000000) (M: ∀n∈ns,nY 4 n):
  ((∀n∈ns,∃k,∃h:k<A.length,ei A c n.1=(k:Int)/\gj (dU n.2.1) (aR (A[k]).1.2.1)=true)/\ab zO (A,c,0,ts,ns,())=some (.inl (A,c,ts,ns,())))\/ ∃r,QW r/\ab zO (A,c,0,ts,ns,())=some r:=by
 have main:=rQ (f:=zO) ns.length (λi=>(A,c,i,ts,ns,())) (λi=> ∀h:i<ns.length,∃k,∃h:k<A.length,ei A c (ns[i]).1=k/\gj (dU (ns[i]).2.1) (aR (A[k]).1.2.1)=true) QW (out:=.inl (A,c,ts,ns,())) rfl (λi h _=>?_) ?_
 · rcases main with⟨h,e⟩ |main
   · exact .inl ⟨λn J=>by obtain⟨i,F,rfl⟩:=at2 J;exact h i F F,e⟩
   · grind
 · have L:=M _ (ab7 h);simp (disch:=omega) only[K0,zO,tD A c _ hc];rcases nP A c (ns[i]).1 with⟨_,q⟩ |⟨j,D,q,_,_⟩
   · grind
   · rw[q,au D,Up hA L.2.1 D];cases N:gj (dU (ns[i]).2.1) (aR (A[j]).1.2.1) with
     |true=>exact .inl ⟨λ_=>⟨j,D,q,N⟩,rfl⟩
     |false=>exact .inr ⟨_,⟨2,by decide,rfl⟩,rfl⟩
 · simp[zO]
theorem aay {e:bO} (he:dD e) (s:List UInt8): ∃k:Int,tM e s=some k/\(k<0<->eP e s=none):=by
 have D:=he.iW;refine⟨_,Sv e s (by omega),?_⟩
 unfold eP;rcases kX e.2.2.2.2.2.2.2 (λf=>decide (f.1=s)) with⟨_,q⟩ |⟨j,F,_,q,_⟩
 · grind
 · grind
theorem asA (hA:bu A) (hc:c.length<=1000000) (ts:List aV) (ns:List al) (F:ts.length<=1000000) (J: ∀t∈ts,∃k,k<A.length/\ei A c t.1=(k:Int)):
  ((∀t∈ts,t.2≠[]-> ∀k,∀h:k<A.length,ei A c t.1=(k:Int)->eP (A[k]).1 t.2≠none)/\ab zN (A,c,0,ts,ns,())=some (.inl (A,c,ts,ns,())))\/ ∃r,QW r/\ab zN (A,c,0,ts,ns,())=some r:=by
 have main:=rQ (f:=zN) ts.length (λi=>(A,c,i,ts,ns,())) (λi=> ∀h:i<ts.length,(ts[i]).2≠[]-> ∀k,∀h:k<A.length,ei A c (ts[i]).1=k->eP (A[k]).1 (ts[i]).2≠none) QW (out:=.inl (A,c,ts,ns,())) rfl (λi h _=>?_) ?_
 · rcases main with⟨h,e⟩ |main
   · exact .inl ⟨λn F=>by obtain⟨i,D,rfl⟩:=at2 F;exact h i D D,e⟩
   · exact .inr main
 · obtain⟨j,L,q⟩:=J _ (ab7 h);simp (disch:=omega) only[K0,zN,tD A c _ hc,q];by_cases e:(ts[i]).2=[]
   · rw[dY e];exact .inl ⟨λ_ q=>absurd e q,rfl⟩
   · obtain⟨k,hk,M⟩:=aay (hA.cV _ (ab7 L)) (ts[i]).2;rw[hk];simp (disch:=omega) only[K0];by_cases g:k<0
     · rw[dY g];exact .inr ⟨_,⟨3,by decide,rfl⟩,rfl⟩
     · rw[dN g];refine .inl ⟨λ_ _ N O U=>?_,rfl⟩;obtain rfl:j=N:=by omega
       exact λz=>g (M.2 z)
 · simp[zN]
theorem asz (D:vw A c) (hc:c.length<=1000000) (l:List (List UInt8)) (F:l.length<=1000000):
  ((∀k,∀h:k<A.length,(k:Int)∈c->(A[k]).1.1∈l)/\ab zM (A,c,l,0,())=some (.inl ()))\/ ∃r,QW r/\ab zM (A,c,l,0,())=some r:=by
 have main:=rQ (f:=zM) c.length (λi=>(A,c,l,i,())) (λi=> ∀h:i<c.length,∀k,∀h:k<A.length,c[i]=k->(A[k]).1.1∈l) QW (out:=.inl ()) rfl (λi h _=>?_) ?_
 · rcases main with⟨h,e⟩ |main
   · exact .inl ⟨λk hk hm=>by obtain⟨i,D,q⟩:=at2 hm;exact h i D D k hk q,e⟩
   · grind
 · obtain⟨k,hk,e⟩:=D _ (ab7 h);simp (disch:=omega) only[K0,zM,e,qp l _ F];cases J:cw l (A[k]).1.1 with
   |true=>exact .inl ⟨fun _ L M q=>by obtain rfl:k=L:=by omega
                                      exact(qD _ _).1 J,rfl⟩
   |false=>grind
 · simp[zM]
theorem aoE (hA:bu A) (hR:bM R) (hc:c.length<=1000000): ∃w,Mc A R c=some w/\(w=0->l7 A R c):=by
 have F:=qi (choice:=c) hA hR hc;have Y:=F.len hA hR;have U:=F.Cn;unfold Mc;rcases asC (A:=A) (R:=R) hc with⟨J,h1,e⟩ |⟨r,⟨w,hw,rfl⟩,e⟩
 · rw[e];simp[E3 hA hR hc];rcases asB hA hc (bS A R c).1 (bS A R c).2 (by omega) (λn D=>F1 hA hR n (F.all n D)) with⟨h2,e⟩ |⟨r,⟨w,hw,rfl⟩,e⟩
   · rw[e];simp[aa7];rcases asA hA hc (bS A R c).1 (bS A R c).2 (by omega) (λt q=>by obtain⟨n,D,e⟩:=F.named t q;obtain⟨k,hk,g,_⟩:=h2 n D;exact⟨k,hk,by rw[e.1];exact g⟩) with⟨L,e⟩ |⟨r,⟨w,hw,rfl⟩,e⟩
     · rw[e];simp[aa7];obtain⟨b,N,O⟩:=Zp hA J hc;rw[N];cases b with
       |true=>simp
       |false=>
        have D:=FI (bS A R c).1;simp (disch:=omega) only[K0,Se ((bS A R c).1,(bS A R c).2) (show(bS A R c).1.length<=100000 by omega)]
        rcases asz J hc (cX (bS A R c).1) (by omega) with⟨M,e⟩ |⟨r,⟨w,hw,rfl⟩,e⟩
        · rw[e];exact⟨0,rfl,λ_=>⟨J,h1,⟨h2,L,O rfl⟩,M⟩⟩
        · rw[e];exact⟨w,rfl,λh=>absurd h hw⟩
     · rw[e];exact⟨w,rfl,λh=>absurd h hw⟩
   · simp_all
 · simp_all
theorem br.iter {V R:Type} {f g:V->Option (V⊕R)} (h: ∀v,br (f v) (g v)): ∀n v,br (ie n f v) (ie n g v)
 |0,_=>br.refl _
 |n+1,v=>by
  intro r;unfold ie;cases e:f v with
  |none=>grind
  |some x=>
   rw[h v x e];cases x with
   |inl v'=>exact br.iter h n v' r
   |inr r=>grind
theorem br.asf {V R:Type} {f g:V->Option (V⊕R)} (h: ∀v,br (f v) (g v)) (v:V):br (ab f v) (ab g v):=λr q=>by obtain⟨n,D⟩:=mG.1 q;exact mG.2 ⟨n,br.iter h n v r D⟩
variable {A:List aq} {R:List al} {c:List Int}
theorem aqb (l out:List Int) (i:Nat) (L:i<l.length): ∀a,a<=out.length->out.length<=1000000-> ∃b,b<=a/\ab Kg (l,out,(i:Int),(a:Int),())=some (l,out,(i:Int),(b:Int),()):=by
 intro a
 induction a with
 |zero=>intro _ _;exact⟨0,ab8 _,bk rfl⟩
 |succ a F=>
  intro h D;by_cases e:l[i]<out[a]
  · obtain⟨b,J,h2⟩:=F (by omega) D
    refine⟨b,by omega,?_⟩
    rw[<-h2];refine aZ ?_;simp (disch:=omega) only[K0,Kg,show((a+1:Nat):Int) - 1=a by omega]
  · refine⟨a+1,ab8 _,bk ?_⟩;simp (disch:=omega) only[K0,Kg,show((a+1:Nat):Int) - 1=a by omega]
theorem amW (l:List Int) (N:l.length<=1000): ∃r,K2 l=some r/\r.length=l.length:=by
 have: ∀n k out,l.length - k=n->k<=l.length->out.length=k-> ∃r,ab DV (l,out,k,())=some (r,())/\r.length=l.length:=by
  intro n
  induction n with
  |zero=>
   intro k out J hk D;obtain rfl:k=l.length:=by omega
   exact⟨out,bk (by simp[DV,decide_false]),D⟩
  |succ n L=>
   intro k out J hk D;have h:k<l.length:=by omega
   obtain⟨b,M,h1⟩:=aqb l out k h out.length (ab8 _) (by omega)
   obtain⟨r,h2,F⟩:=L (k+1) (((out.take b)++[l[k]])++out.drop b) (by omega) h (by grind)
   refine⟨r,?_,F⟩;rw[<-h2];refine aZ ?_;simp only[DV,dY (show(k:Int)<l.length by omega),cond_true,h1,aa7,ae9,Int.toNat_zero,List.drop_zero,au h,as1]
   rw[ai ⟨by omega,by omega,by omega⟩,ai (by grind),ai (by rw[am9,au6];omega),ai ⟨by omega,by omega,Int.le_refl _⟩,ai (by simp[am9,at6];omega),aH,aw (by omega)]
 obtain⟨r,h1,h2⟩:=this _ 0 [] rfl (ae3 _) rfl;unfold K2;rw[show ab DV (l,[],0,())=_ from h1]
 exact⟨r,rfl,h2⟩
structure asQ (A:List aq) (R:List al) (c:List Int):Prop where
 met: ∀n∈(bS A R c).2,∀k,∀h:k<A.length,ei A c n.1=(k:Int)->gj (dU n.2.1) (aR (A[k]).1.2.1)=true
 lX: ∀t∈(bS A R c).1,t.2≠[]-> ∀k,∀h:k<A.length,ei A c t.1=(k:Int)->eP (A[k]).1 t.2≠none
 pJ:acj A c
theorem asO (hA:bu A) (hc:c.length<=1000000) (L:Int) (ts:List aV) (ns:List al) (F:ns.length<=1000000) (N: ∀n∈ns,nY 4 n):
  ((∀n∈ns,∀k,∀h:k<A.length,ei A c n.1=(k:Int)->gj (dU n.2.1) (aR (A[k]).1.2.1)=true)/\ab yP (c,0,ts,ns,A,R,L,())=some (.inl (c,ts,ns,A,R,L,())))\/ ∃r,r=.inr (A,R,L,())/\ab yP (c,0,ts,ns,A,R,L,())=some r:=by
 have main:=rQ (f:=yP) ns.length (λi=>(c,i,ts,ns,A,R,L,())) (λi=> ∀h:i<ns.length,∀k,∀h:k<A.length,ei A c (ns[i]).1=k->gj (dU (ns[i]).2.1) (aR (A[k]).1.2.1)=true) (λr=>r=.inr (A,R,L,())) (out:=.inl (c,ts,ns,A,R,L,())) rfl (λi h _=>?_) ?_
 · rcases main with⟨h,e⟩ |main
   · exact .inl ⟨λn F=>by obtain⟨i,D,rfl⟩:=at2 F;exact h i D D,e⟩
   · exact .inr main
 · have M:=N _ (ab7 h);simp (disch:=omega) only[K0,yP,tD A c _ hc];rcases nP A c (ns[i]).1 with⟨_,q⟩ |⟨j,J,q,_,_⟩
   · grind
   · simp (disch:=omega) only[K0,q,Up hA M.2.1 J];cases O:gj (dU (ns[i]).2.1) (aR (A[j]).1.2.1) with
     |true=>exact .inl ⟨fun _ k hk U=>by obtain rfl:j=k:=by omega
                                         exact O,rfl⟩
     |false=>grind
 · simp[yP]
theorem asN (hA:bu A) (hc:c.length<=1000000) (L:Int) (ts:List aV) (ns:List al) (F:ts.length<=1000000):
  ((∀t∈ts,t.2≠[]-> ∀k,∀h:k<A.length,ei A c t.1=(k:Int)->eP (A[k]).1 t.2≠none)/\ab yO (c,0,ts,ns,A,R,L,())=some (.inl (c,A,R,L,())))\/ ∃r,r=.inr (A,R,L,())/\ab yO (c,0,ts,ns,A,R,L,())=some r:=by
 have main:=rQ (f:=yO) ts.length (λi=>(c,i,ts,ns,A,R,L,())) (λi=> ∀h:i<ts.length,(ts[i]).2≠[]-> ∀k,∀h:k<A.length,ei A c (ts[i]).1=k->eP (A[k]).1 (ts[i]).2≠none) (λr=>r=.inr (A,R,L,())) (out:=.inl (c,A,R,L,())) rfl (λi h _=>?_) ?_
 · rcases main with⟨h,e⟩ |main
   · exact .inl ⟨λn F=>by obtain⟨i,D,rfl⟩:=at2 F;exact h i D D,e⟩
   · exact .inr main
 · simp (disch:=omega) only[K0,yO,tD A c _ hc];rcases nP A c (ts[i]).1 with⟨_,q⟩ |⟨j,M,q,_,_⟩
   · rw[q];exact .inl ⟨λ_ _ k hk J=>absurd J (by omega),rfl⟩
   · simp (disch:=omega) only[q];by_cases e:(ts[i]).2=[]
     · rw[dY e];exact .inl ⟨λ_ q=>absurd e q,rfl⟩
     · obtain⟨k,hk,N⟩:=aay (hA.cV _ (ab7 M)) (ts[i]).2;simp (disch:=omega) only[K0,hk];by_cases g:k<0
       · rw[dY g];simp
       · rw[dN g];refine .inl ⟨λ_ _ O U J=>?_,rfl⟩;obtain rfl:j=O:=by omega
         exact λz=>g (N.2 z)
 · simp[yO]
theorem arU (hA:bu A) (hR:bM R) (M:vw A c) (hc:c.length<=1000000) (L:Int): ∃b,Kh c (A,R,L)=some (b,(A,R,L))/\(b=false->asQ A R c):=by
 have D:=qi (choice:=c) hA hR hc;have U:=D.len hA hR;have O:=D.Cn;unfold Kh;simp only[E3 hA hR hc,aa7];rcases asO (R:=R) hA hc L (bS A R c).1 (bS A R c).2 (by omega) (λn N=>F1 hA hR n (D.all n N)) with⟨h1,e⟩ |⟨r,rfl,e⟩
 · rw[e];simp only[aa7];rcases asN (R:=R) hA hc L (bS A R c).1 (bS A R c).2 (by omega) with⟨h2,e⟩ |⟨r,rfl,e⟩
   · rw[e];obtain⟨b,F,J⟩:=Zp hA M hc;simp only[aa7,F];exact⟨b,rfl,λh=>⟨h1,h2,J h⟩⟩
   · simp_all
 · simp_all
variable {A:List aq} {R:List al} {c:List Int}
abbrev asx:=Option (List Int×Bool×List aq×List al×Int)
theorem apN (f g:List Int×(List aq×List al×Int)×Unit->asx) (h: ∀x,br (f x) (g x)) (x:List Int×(List aq×List al×Int)×Unit):br (nL f x) (nL g x):=by unfold nL yL;refine br.J (br.cond (br.refl _) (br.bind (br.refl _) λb=>br.cond (br.refl _) (br.bind (br.refl _) λr=>br.bind (br.refl _) λn=>br.J (br.bind (br.loop rfl _) λv=>br.cond (br.refl _) (br.bind (br.asf (λv=>?_) _) λo=>br.refl _)))));unfold qc;exact br.cond (br.bind (br.refl _) λy=>br.cond (br.refl _) (br.J (br.J (br.bind (h _) λb=>br.refl _)))) (br.refl _)
theorem asc (rc) (hc:c.length<=1000000) (l:List (List UInt8)) (M:l.length<=1000000) (L:Int): ∀n,n<=l.length-> ∀o:List UInt8,
  ∃o',ab (JQ rc) (c,l,o,(n:Int) - 1,A,R,L,())=some (c,o',A,R,L,())/\(o'=o/\(∀j,∀h:j<l.length,j<n-> ∃k,k<A.length/\ei A c l[j]=(k:Int))\/o'∈l/\ei A c o'= -1):=by
 intro n
 induction n with
 |zero=>intro _ o;exact⟨o,bk rfl,.inl ⟨rfl,λj _ h=>absurd h (ax6 j)⟩⟩
 |succ n D=>
  intro N o;have h:n<l.length:=by omega
  simp;have c1: ∀{R:Type} (q:Option R),J (aa .i64 (n - 1)) q=q:=λq=>ai (bd (by omega))
  rcases nP A c l[n] with⟨_,q⟩ |⟨j,F,q,_,_⟩
  · obtain⟨o',h1,h2⟩:=D (by omega) l[n]
    refine⟨o',?_,?_⟩
    · rw[<-h1];refine aZ ?_;simp (disch:=omega) only[K0,JQ,tD A c _ hc]
    · grind
  · obtain⟨o',h1,h2⟩:=D (by omega) o
    refine⟨o',?_,?_⟩
    · rw[<-h1];refine aZ ?_;simp (disch:=omega) only[K0,JQ,tD A c _ hc]
    · grind
structure Found (A:List aq) (R:List al) (L:Int) (r:List Int) (ok:Bool) (L':Int):Prop where
 low:(L<=0->L'=L - 1)/\(0<L-> -361*L<=L'/\L'<=L - 1)
 short:r.length<=1000
 aJ:ok=true-> ∃c',c'.length<=1000/\Good A R c'
theorem aod (hA:bu A) (hR:bM R): ∀(n:Nat) (L:Int) (c:List Int),vw A c->(c.length:Int)+L<=300-> -120000<=L->L<=(n:Int)->
  ∃r ok Z,fa nL (n+1) (c,(A,R,L),())=some (r,ok,A,R,Z)/\Found A R L r ok Z:=by
 have hs:=hA.many;intro n
 induction n with
 |zero=>
  intro L c hi av aE hL;refine⟨[],false,L - 1,?_,⟨λ_=>rfl,λh=>by omega⟩,ae3 _,λh=>by cases h⟩
  show yL _ c (A,R,L)=_;unfold yL;rw[ai (bd (by dsimp only;omega)),dY (show L - 1<0 by omega)];rfl
 |succ n ih=>
  intro L c hi av aE hL;show∃r ok Z,yL (λa0 F=>fa nL (n+1) (a0,F,())) c (A,R,L)=_/\_;unfold yL;rw[ai (bd (by dsimp only;omega))]
  by_cases h0:L - 1<0
  · rw[dY h0];exact⟨[],false,L - 1,rfl,⟨λ_=>rfl,λh=>by omega⟩,ae3 _,λh=>by cases h⟩
  · have hc:c.length<=1000000:=by omega
    have U:=qi (choice:=c) hA hR hc;have hl:=U.len hA hR;have a8:=FI (bS A R c).1;obtain⟨b,hb,J⟩:=arU hA hR hi hc (L - 1);rw[dN h0];simp only[cond_false,hb,aa7];cases b with
    |true=>exact⟨[],false,L - 1,rfl,⟨λ_=>by omega,λh=>⟨by omega,by omega⟩⟩,ae3 _,λh=>by cases h⟩
    |false=>
     have J:=J rfl;obtain⟨o,ho,N⟩:=asc (A:=A) (R:=R) (c:=c) (λa0 F=>fa nL (n+1) (a0,F,())) hc (cX (bS A R c).1) (by omega) (L - 1) (cX (bS A R c).1).length (ab8 _) []
     simp only[cond_false,E3 hA hR hc,Se (bS A R c) (by omega),aa7]
     rw[ai (bd (by omega)),ho]
     simp only[aa7]
     have a7: ∀s∈cX (bS A R c).1,s≠[]:=λs h e=>by
      obtain⟨m,hm,e2⟩:=U.named _ (FH.1 h);have:=(F1 hA hR m (U.all m hm)).1;rw[<-e2.1,show(s,[]).1=s from rfl,e] at this
      cases this
     by_cases e:o=[]
     · obtain⟨r,hr,bb⟩:=amW c (by omega)
       rw[dY e,cond_true,hr];refine⟨r,true,L - 1,rfl,⟨λ_=>by omega,λh=>⟨by omega,by omega⟩⟩,by omega,λ_=>⟨c,by omega,⟨λm hm=>?_,J.lX,J.pJ⟩⟩⟩
       rcases N with⟨_,N⟩ |⟨N,_⟩
       · have a6:=FH.2 (U.back m hm (m.1,[]) ⟨rfl,.inl rfl⟩);obtain⟨j,hj,e⟩:=at2 a6;obtain⟨k,hk,q⟩:=N j hj hj;rw[e] at q;exact⟨k,hk,q,J.met m hm k hk q⟩
       · exact absurd e (a7 _ N)
     · rw[dN e,cond_false]
       have main: ∀m k l,A.length - k=m->k<=A.length->l<=L - 1-> -361*(L - 1) - k<=l->
         (∃D,ab (qc (λa0 F=>fa nL (n+1) (a0,F,()))) (c,o,k,A,R,l,())=some (.inl (A,R,D,()))/\D<=L - 1/\ -361*(L - 1) - 360<=D)\/
         (∃r D,ab (qc (λa0 F=>fa nL (n+1) (a0,F,()))) (c,o,k,A,R,l,())=some (.inr (r,A,R,D,()))/\D<=L - 1/\ -361*(L - 1) - 360<=D/\r.length<=1000/\ ∃c',c'.length<=1000/\Good A R c'):=by
        intro m
        induction m with
        |zero=>
         intro k l hm hk h1 h2;obtain rfl:k=A.length:=by omega
         refine .inl ⟨l,bk ?_,h1,by omega⟩
         simp[qc,ak0,decide_false,cond_false]
        |succ m ar=>
         intro k l hm hk h1 h2;have M:k<A.length:=by omega
         by_cases g:(A[k]).1.1=o
         · have az:vw A (c++[(k:Int)]):=λx hx=>(ae5.1 hx).elim (hi x) λh=>⟨k,M,ah3.1 h⟩;have hlen:(c++[(k:Int)]).length=c.length+1:=ae7;obtain⟨r,ok,D,Y,O⟩:=ih l (c++[(k:Int)]) az (by omega) (by omega) (by omega)
           have an:=O.low
           have ah:D<=L - 1/\ -361*(L - 1) - ((k+1):Int)<=D:=by
            by_cases p:l<=0
            · have:=an.1 p;omega
            · have:=an.2 (by omega);omega
           cases ok with
           |true=>
            refine .inr ⟨r,D,bk ?_,ah.1,by omega,O.short,O.aJ rfl⟩
            simp only[qc,dY (show(k:Int)<A.length by omega),cond_true,au M,dY g,ae8,cond_false]
            rw[ai (by omega),ai (by rw[au6];omega),Y];rfl
           |false=>
            rw[aZ (v':=(c,o,((k+1):Int),A,R,D,())) ?_]
            · exact ar (k+1) D (by omega) M ah.1 ah.2
            · simp only[qc,dY (show(k:Int)<A.length by omega),cond_true,au M,dY g,ae8,cond_false]
              rw[ai (by omega),ai (by rw[au6];omega),Y]
              simp (disch:=omega) only[K0]
         · rw[aZ (v':=(c,o,((k+1):Int),A,R,l,())) ?_]
           · exact ar (k+1) l (by omega) M h1 (by omega)
           · simp (disch:=omega) only[K0,qc]
       rcases main A.length 0 (L - 1) rfl (ae3 _) (Int.le_refl _) (by omega) with⟨D,q,Y,O⟩ |⟨r,D,q,Y,O,q3,q4⟩
       · have q:ab (qc (λa0 F=>fa nL (n+1) (a0,F,()))) (c,o,0,A,R,L - 1,())=_:=q;rw[q];exact⟨[],false,D,rfl,⟨λ_=>by omega,λh=>⟨by omega,by omega⟩⟩,ae3 _,λh=>by cases h⟩
       · have q:ab (qc (λa0 F=>fa nL (n+1) (a0,F,()))) (c,o,0,A,R,L - 1,())=_:=q;rw[q];exact⟨r,true,D,rfl,⟨λ_=>by omega,λh=>⟨by omega,by omega⟩⟩,q3,λ_=>q4⟩
theorem aou (hA:bu A) (hR:bM R): ∃r ok k,Lk A R 300=some (r,ok,k)/\r.length<=1000/\(ok=true-> ∃c',c'.length<=1000/\Good A R c'):=by
 obtain⟨r,ok,J,h1,h2⟩:=aod hA hR 300 300 [] (λx F=>(at9 F).elim) (by simp) (by simp) (by simp)
 unfold Lk WJ;rw[Tk (λf g D x r=>apN f g (λx r=>D x r) x r) h1];exact⟨r,ok,_,rfl,h2.short,h2.aJ⟩
section
open Go.Sort
theorem ap2:Ge=cT:=by funext x y;unfold Ge;rw[Dk,Dk];exact(Lc x y).symm
theorem alZ (x y:Want):ltOf cT x y=uh x y:=by
 unfold ltOf;cases h:uh x y with
 |true=>exact decide_eq_true (Rf.1 h)
 |false=>exact decide_eq_false (λg=>by rw[Rf.2 g] at h;cases h)
theorem et.swo {α:Type} {c:α->α->Int} (hc:et c):SWO (ltOf c):=by
 refine⟨λx=>?_,λx y z h1 h2=>?_,λx y z h1 h2=>?_⟩
 · exact decide_eq_false (by rw[hc.self x];decide)
 · exact decide_eq_true (hc.xN (of_decide_eq_true h1) (by have:=of_decide_eq_true h2;omega))
 · have h1:=of_decide_eq_false h1;have h2:=of_decide_eq_false h2;have D:=hc.neg x y;have F:=hc.neg y z;have J:=hc.neg x z;have:=hc.tr z y x (by omega) (by omega)
   exact decide_eq_false (by omega)
theorem anX (args:Array Value) (w:World):(callFunc 47 args).run Tryz.prog w=.ok (.enter 47 args) w:=
 Go.MuLone.run_callFunc_enter Tryz.func47 (by kernel_rfl) rfl args w
noncomputable def aj6:dh Tryz.prog:=mkB 46 ⟨[(0,.c (.own 1000)),(1,.fn 47 [] [])],[(1000,.row 81 (.pair .str .str))]⟩ [(false,⟨[],[(1000,.row 81 (.pair .str .str))]⟩)] (λr=>(r,())) (λx=>vV x.1) (by kernel_rfl) (λx o h0=>by
 obtain⟨l,u⟩:=x;have h:vV l=some o:=h0;unfold vV at h;split at h
 · rename_i F;obtain rfl:sf l=o:=Option.some.inj h;have:=amX Tryz.ark (t:=.pair .str .str) rfl (by decide) Tryz.isAgg81 Tryz.sizeOf81 cT ke.swo 47 anX (λdS off size w m os D _ x y=>by rw[<-ap2];exact ann x y _) (λx y h1 h2=>by have h1:=of_decide_eq_false h1;have h2:=of_decide_eq_false h2;have:=ke.neg x y;exact KT (by omega)) 81 l (by omega)
   rw[show(λx y=> !(ltOf cT) y x)=λx y=> !uh y x from by funext x y;rw[alZ]] at this
   exact this
 · cases h)
end
section
open Go.Sort
def Mz (w:World) (c:List Int) (e:Ending) (w':World):Prop:= ∃g D,e=.returned (.slice (some ⟨g,0,none⟩) c.length D)/\mo w' w.heap.size g D c/\Below w.heap.size w w'
theorem amk (ad:Addr) (cap:Nat) (w:World):Calls Tryz.prog 131 #[.slice (some ad) 0 cap] w (Mz w []):=by refine(Tryz.slices_Clone_int_zero ad cap w).mono ?_;rintro e w' ⟨v',rfl,L,J,F⟩;obtain⟨g,D,rfl,hO⟩:=Mk (l:=[]) L J;exact⟨g,D,rfl,hO,F⟩
theorem akZ (b off cap:Nat) (c:List Int) (w:World) (M:c.length<=1000000) (hc: ∀j,j<c.length->w.cell? ⟨b,off+j,none⟩=some (.int .i64 (c.getD j 0))):
  Calls Tryz.prog 131 #[.slice (some ⟨b,off,none⟩) c.length cap] w (Mz w c):=by
 refine(Tryz.slices_Clone_int b off c.length cap c w (ab8 _) (by omega) hc).mono ?_
 rintro e w' ⟨v',rfl,D,L,J⟩;rw[as1] at D;obtain⟨g,F,rfl,hO⟩:=Mk D L;exact⟨g,F,rfl,hO,J⟩
theorem ans (w:World):Calls Tryz.prog 58 #[.slice none 0 0] w λe w'=>e=.returned (.slice none 0 0)/\w=w':=by
 go_enter Tryz.func58,Tryz.ntmps58
 go_wp2_with fail
 refine(Tryz.slices_Clone_int_nil 0 0 _).mono ?_;rintro e w1 ⟨rfl,rfl⟩
 go_wp2_with fail
 refine(AnyF.slices_SortFunc_none {Tryz.abX with} none 0 _ _).mono ?_
 rintro e w1 ⟨rfl,rfl⟩
 go_wp2_with fail
 refine(Tryz.slices_Compact_int_empty none 0 _).mono ?_;rintro e w1 ⟨rfl,rfl⟩
 go_wp2_with fail
 refine(apH _).mono ?_;rintro e w1 ⟨rfl,rfl⟩
 go_wp2_with fail
 go_ret
 exact⟨rfl,rfl⟩
theorem alU (ad:Addr) (cap:Nat) (c:List Int) (w:World) (hcl:Calls Tryz.prog 131 #[.slice (some ad) c.length cap] w (Mz w c)) (hlen:c.length<=1000000):
  Calls Tryz.prog 58 #[.slice (some ad) c.length cap] w λe w'=> ∃g cp,e=.returned (.slice (some ⟨g,0,none⟩) (ll c).length (ll c).length)/\mo w' w.heap.size g cp (ll c)/\Below w.heap.size w w':=by
 have HC:=Lib.hid hcl;clear hcl
 go_enter Tryz.func58,Tryz.ntmps58
 go_wp2_with fail
 refine HC.out.mono ?_;rintro e w1 ⟨g,cp,rfl,ho,hb⟩;have HO:=Lib.hid ho;have HB:=Lib.hid hb;clear ho hb
 go_wp2_with fail
 refine(aos w.heap.size g cp c _ HO.out hlen w HB.out).mono ?_;rintro e w2 ⟨rfl,ho,hb⟩;have HO2:=Lib.hid ho;have HB2:=Lib.hid hb;have e1:(lh c).length=c.length:=Qf c;clear ho hb
 go_wp2_with fail
 have hc:=akV w.heap.size g cp (lh c) _ HO2.out w HB2.out;rw[e1] at hc;refine hc.mono ?_;clear hc;rintro e w3 ⟨rfl,ho,hb⟩;have HO3:=Lib.hid ho;have HB3:=Lib.hid hb;clear ho hb
 go_wp2_with fail
 refine(apI g _ cp _ HO3.out.sx HO3.out.mx).mono ?_;rintro e w4 ⟨rfl,rfl⟩
 go_wp2_with fail
 go_ret
 exact⟨g,cp,rfl,HO3.out,HB3.out⟩
theorem QY {l:List Int} (h: ∀x∈l,-1000000<=x/\x<=1000000):ll l=bV l:=by
 obtain⟨h1,h2⟩:=alT l;refine Mo ?_ h2
 have F: ∀x∈ll l,gv x=(x.natAbs:Int):=λx M=>by
  have:=h x ((h2 x).1 M);unfold gv;rw[IntWalk.i64_in _ (by omega)]
  omega
 refine List.Pairwise.imp_of_mem (λ{a b} J L D=>?_) h1;refine Al.1 ?_;unfold pI at D;rw[F a J,F b L] at D;unfold ot;rw[at3,ad0,decide_eq_true_eq,decide_eq_true_eq,decide_eq_true_eq];omega
theorem apf {c:Cx} {h:Hp} {w:World} {xs:List Value} {l:List Int} (D:ay (CR c h w) xs (aT (.int .i64) l)):xs=l.map (Value.int .i64):=by
 refine AD D ?_;clear D
 induction l with
 |nil=>rfl
 |cons x l F=>show fF (.v (.int .i64) x::aT (.int .i64) l)=_;unfold fF;rw[show sy (.v (.int .i64) x)=some (.int .i64 x) from rfl,F];rfl
theorem aqr (l:List Int) (O:l.length<=1000000):fo Tryz.prog 58 [.c (.ow 1000 0 .all)] [(1000,.row [] 3 (.int .i64) l)] (.ret (.c (.v (.sl (.int .i64)) (ll l))) [(1000,.row [] 3 (.int .i64) l)]):=by
 intro c w vals hC hv;obtain⟨v0,rfl,Z⟩:=As hv;have ho:aj [(1000,aX.row [] 3 (.int .i64) l)] 1000=some (.row [] 3 (.int .i64) l):=rfl;obtain⟨_,_,_,_,L⟩:=iJ (w:=w) (H:=[(1000,aX.row [] 3 (.int .i64) l)]) (λ_ _ h=>h) (show rowAt [(1000,aX.row [] 3 (.int .i64) l)] 1000 0=some (.row [] 3 (.int .i64) l) from rfl) Z
 have L:v0=c.m 1000:=L;subst L;obtain⟨_,xs,J,ah⟩:=(hC.obj 1000 _ ho).row rfl;obtain rfl:=apf ah;have J:dZ w 3 1 (c.m 1000) l.length (l.map (Value.int .i64)):=J
 have fin: ∀w' g D,mo w' w.heap.size g D (ll l)->Below w.heap.size w w'-> ∃c',ve (dW w c (aj [(1000,.row [] 3 (.int .i64) l)])) (.returned (.slice (some ⟨g,0,none⟩) (ll l).length (ll l).length)) c' w' (.ret (.c (.v (.sl (.int .i64)) (ll l))) [(1000,.row [] 3 (.int .i64) l)]):=λw' g D hO hB=>by
  obtain⟨g1,g2⟩:=hC.Gw (iB.tO hB) (λb i=>c.A b i\/b=g) (λb i h=>.inl h) (λb i h=>h.elim .inl (λh=>.inr (by rw[h];exact⟨hO.bg,hO.lt⟩)))
  refine⟨_,_,rfl,g1,rfl,_,_,rfl,.inr ⟨ab8 _,an4 hO.sx hO.mx,g,0,rfl,λi x U=>⟨.inr rfl,?_⟩⟩⟩;have M:=(as4.1 U).1;have:=(hO.holds i (by simpa using M)).1
  rw[show 0+(i*wid (.int .i64)+0)=0+i by simp [wid],this]
  simp [M,(as4.1 U).2]
 have Y: ∀ad cap,c.m 1000=.slice (some ad) l.length cap->Calls Tryz.prog 131 #[.slice (some ad) l.length cap] w (Mz w l)->Calls Tryz.prog 58 #[c.m 1000] w λe w'=> ∃c',ve (dW w c (aj [(1000,.row [] 3 (.int .i64) l)])) e c' w' (.ret (.c (.v (.sl (.int .i64)) (ll l))) [(1000,.row [] 3 (.int .i64) l)]):=λad cap e h=>by rw[e];refine(alU ad cap l w h O).mono ?_;rintro e w' ⟨g,D,rfl,h1,h2⟩;exact fin w' g D h1 h2
 rcases J with⟨a,e,h0,_⟩ |⟨g,cap,cur,e,h1,h2,h3,h4,h5⟩
 · have F:l=[]:=List.length_eq_zero_iff.1 h0;cases a with
   |none=>
    show Calls Tryz.prog 58 #[c.m 1000] w _;rw[e];refine(ans w).mono ?_;rintro e w' ⟨rfl,rfl⟩;subst F;refine⟨c,_,rfl,hC,rfl,none,0,?_,.inl ?_⟩
    · rw[show ll []=[] from QY (l:=[]) (λx h=>by cases h)];rfl
    · exact QY (l:=[]) (λx h=>by cases h)
   |some ad=>
    refine Y ad 0 (by rw[e,F];rfl) ?_
    rw[F];exact amk ad 0 w
 · refine Y _ _ e (akZ g 0 (cap+1) l w O (λj N=>?_));have an:j<cur.size:=by omega
   have g4:cur[j]? =some (.int .i64 l[j]):=by
    have:=congrArg (·[j]?) h5
    simpa[List.getElem?_take_of_lt,N] using this
   rw[Nat.zero_add];show(World.cell? w ⟨g,j,none⟩)=_;simp only[World.cell?,h1];rw[g4];simp [List.getD_eq_getElem?_getD,N]
noncomputable def ajX:dh Tryz.prog:=mkB 58 ⟨[(0,.c (.own 1000))],[(1000,.row 3 (.int .i64))]⟩ [(false,⟨[(2,.c (.v (.sl (.int .i64))))],[(1000,.row 3 (.int .i64))]⟩)] (λr=>(r.1,r.2,())) (λx=>mC x.1) (by kernel_rfl) (λx o h0=>by
 obtain⟨l,u⟩:=x;have h:mC l=some o:=h0;unfold mC at h;split at h
 · rename_i D;obtain rfl:(bV l,l)=o:=Option.some.inj h;rw[ad0,decide_eq_true_eq] at D;have hk: ∀x∈l,-1000000<=x/\x<=1000000:=λx F=>by have:=ao3.1 D.1 x F;rw[ad0,decide_eq_true_eq,decide_eq_true_eq] at this;exact this
   have:=aqr l D.2;rw[QY hk] at this;exact this
 · cases h)
end
abbrev FS:=dh Tryz.prog
noncomputable def mkG (G:List FS) (D:List (Nat×bE)) (f:FuncId) (aF:Shape) (outs:List (Bool×Shape)) {A:Type} (F:cv aF->Option A) (g:JU outs->A:=by exact λo=>o.1) (h:A->JU outs:=by exact λr=>(r,())) (L: ∀o,h (g o)=o:=by exact λ_=>rfl) (fm:pB aF outs=true:=by kernel_rfl) (J: ∀x,A7 Tryz.prog G D f aF outs g x=F x:=by intro x;kernel_rfl):FS:=mkF G D f aF outs g h L F fm J
noncomputable def mkQ (G:List FS) (D:List (Nat×bE)) (f:FuncId) (aF:Shape) (outs:List (Bool×Shape)) {A:Type} (F:cv aF->Option A) (g:JU outs->A:=by exact λo=>(o.1,o.2.1)) (h:A->JU outs:=by exact λr=>(r.1,r.2,())) (L: ∀o,h (g o)=o:=by exact λ_=>rfl) (fm:pB aF outs=true:=by kernel_rfl) (J: ∀x,A7 Tryz.prog G D f aF outs g x=F x:=by intro x;kernel_rfl):FS:=mkF G D f aF outs g h L F fm J
abbrev k1 {A B C:Type} (f:A->C) (x:A×B):C:=f x.1
abbrev k2 {A B D C:Type} (f:A->B->C) (x:A×B×D):C:=f x.1 x.2.1
abbrev k3 {A B D E C:Type} (f:A->B->D->C) (x:A×B×D×E):C:=f x.1 x.2.1 x.2.2.1
abbrev k4 {A B D E G C:Type} (f:A->B->D->E->C) (x:A×B×D×E×G):C:=f x.1 x.2.1 x.2.2.1 x.2.2.2.1
noncomputable def mkHh (G:List FS) (D:List (Nat×bE)) (f:FuncId) (aF:Shape) (outs:List (Bool×Shape)) {A:Type} (g:JU outs->A) (h:A->JU outs) (L: ∀o,h (g o)=o) (F:cv aF->Option A) (fm:pB aF outs=true:=by kernel_rfl) (J: ∀x,A7 Tryz.prog G D f aF outs g x=F x:=by intro x;kernel_rfl):FS:=mkF G D f aF outs g h L F fm J
abbrev sQ:Ty:=.sl .str
abbrev eF:Ty:=.int .i64
abbrev Ob:Ty:=.pair eF (.pair eF eF)
abbrev OT:Ty:=.pair Ob .str
abbrev uW:Ty:=.pair eF OT
abbrev s6:Ty:=.sl uW
abbrev oL:Ty:=.pair .str (.pair (.sl s6) sQ)
abbrev pS:Ty:=.sl oL
abbrev u6:Ty:=.pair .str pS
abbrev xD:Ty:=.int .u64
abbrev jZ:Ty:=.pair .str (.pair OT (.pair xD (.pair (.int .u32) (.pair .bool (.pair pS (.pair pS (.sl u6)))))))
abbrev Ht:Ty:=.pair .str sQ
abbrev kN:Ty:=.pair .str Ht
abbrev rb:Ty:=.sl kN
abbrev s8:Ty:=.pair .str rb
abbrev xU:Ty:=.pair .str (.pair .str (.pair .str (.pair .str (.pair .bool (.pair rb (.pair rb (.sl s8)))))))
abbrev Cu:Ty:=.pair .str (.int .u32)
abbrev Cy:Ty:=.pair .str (.sl xD)
abbrev B7:Ty:=.pair .str OT
abbrev xV:Ty:=.pair .str (.pair eF sQ)
abbrev vq:Ty:=.pair .str (.pair (.gB .f64) .bool)
abbrev Cs:Ty:=.pair (.sl vq) (.pair (.sl xV) (.pair (.sl B7) (.pair (.sl Cy) (.sl Cu))))
abbrev cI:Sh:=.v eF
abbrev aW:SS:=.c cI
abbrev vu:Ty:=.pair eF (.pair eF Ob)
abbrev ml:Ty:=.sl eF
abbrev te:Ty:=.pair eF (.pair sQ ml)
abbrev jB:Ty:=.pair .str .str
abbrev Hq:Ty:=.pair xU (.pair .str eF)
abbrev xT:Ty:=.sl Hq
abbrev bj:Sh:=.v .str
abbrev vr:SO:=.st 231 (.pair te (.pair eF Ob))
abbrev sO:Ty:=.sl jB
abbrev p7:Ty:=.pair jZ .str
abbrev Q_q:Ty:=.ptr (.pair (.sl p7) (.pair pS sO))
abbrev jw:SO:=.row 165 oL
abbrev U5:SO:=.st 297 (.pair te eF)
abbrev sP:Sh:=.v .bool
abbrev HH:Sh:=.v (.int .u32)
abbrev NZ:List Sh:=[bj,.own 1001]
abbrev OS:List (Nat×SO):=[(1000,.var 320 NZ),(1001,.bI 150 jZ [bj,cI,cI,cI,bj,.v xD,HH,sP,.own 5002,.own 5003,.own 5004]),(1020,U5),(5002,jw),(5003,jw),(5004,.bI 154 u6 [bj,.own 5005]),(5005,jw)]
abbrev xA:SO:=.row 317 Cu
abbrev xB:SO:=.row 418 Cy
abbrev xG:SO:=.row 411 B7
abbrev xC:SO:=.row 405 xV
abbrev xz:SO:=.row 337 vq
abbrev BE:Sh:=.own 1002
abbrev Ie:List Sh:=[.own 1001,BE,.own 1003,.own 1004,.own 1005]
abbrev N1:Nat×SO:=(1000,.var 101 Ie)
abbrev Q_s:List (Nat×SO):=[N1,(1001,xz),(1002,xC),(1003,xG),(1004,xB),(1005,xA),(1020,U5)]
abbrev fZ:Nat×SO:=(1000,U5)
abbrev eV:SS:=.c (.v ml)
abbrev gX:SS:=.c sP
abbrev uS:Ty:=.pair p7 eF
abbrev vp:SO:=.row 240 uS
abbrev sU:SO:=.row 81 jB
abbrev dJ:SO:=.row 9 .str
abbrev dI:SO:=.row 3 eF
abbrev Cg:Sh:=.v (.sl p7)
abbrev BG:List Sh:=[.dead,.dead]
abbrev Ot:List Sh:=(.dead::BG)
abbrev U4:SO:=.var 297 (.dead::Ot)
abbrev VM:List (Nat×SO):=[(1001,xz),(1002,xC),(1003,xG),(1004,xB),(1005,xA),(1020,U4)]
abbrev B6:Ty:=.pair .str jB
abbrev OR:Ty:=.pair (.sl B6) (.pair rb (.pair sO (.pair (.sl Ht) sO)))
abbrev s7:Sh:=.v sO
abbrev GK:Sh:=.v (.sl Ht)
abbrev iD:Sh:=.v rb
abbrev rG:SO:=.var 110 [.v (.sl B6),iD,s7,GK,s7]
abbrev Vs:SO:=.bI 150 jZ (.dead::.dead::.dead::.dead::.dead::.dead::.dead::.dead::Ot)
abbrev Ig:List (Bool×Shape):=[(false,⟨[],OS⟩),(true,⟨[],[(1000,.var 320 BG),(1001,Vs),(1020,U4),(5002,jw),(5003,jw),(5004,.bI 154 u6 BG),(5005,jw)]⟩)]
abbrev cm:Nat×SS:=(0,.c (.ptr 1000 0))
abbrev lJ:Nat×SO:=(1000,U4)
abbrev cF:List (Nat×Nat):=[(1000,1000)]
abbrev dT:SS:=.c bj
abbrev ra:List (Nat×SS):=[(4,gX)]
abbrev di:List (Bool×Shape):=[(false,⟨ra,[]⟩)]
abbrev oN:Sh:=.v sQ
abbrev bR:Nat×SS:=(2,.c (.ptr 2 0))
abbrev vv:Ty:=.pair eF (.pair eF (.pair eF sQ))
abbrev nu:Nat×Nat:=(1000,1020)
abbrev bq:List (Nat×Nat):=[nu]
abbrev oB:SO:=.row 392 jB
abbrev uT:SO:=.row 449 Ht
abbrev NY:SO:=.row 349 B6
abbrev Cw:List (Nat×SO):=[(1001,NY),(1002,.row 347 kN),(1003,oB),(1004,uT),(1005,oB)]
abbrev cE:Nat×SS:=(0,.c (.own 1000))
abbrev fe:List (Nat×SS):=[(4,aW)]
abbrev dA:List (Bool×Shape):=[(false,⟨fe,[]⟩)]
abbrev ad3:SO:=.var 134 [bj,bj,bj,bj,sP,iD,iD,.v (.sl s8)]
abbrev Hk:List (EK×Shape):=[(.ret,⟨fe,[]⟩)]
abbrev vd:EK×Shape:=(.normal,⟨[],[]⟩)
abbrev lI:Nat×bE:=(13,{cut:=(vd::Hk)})
abbrev cK:Nat×SS:=(3,.c (.ptr 3 0))
abbrev eM:Nat×SS:=(5,.c (.ptr 5 0))
abbrev dH:Nat×SS:=(0,dT)
abbrev cJ:Shape:=⟨[dH],[]⟩
abbrev Ct:List (Nat×SO):=[(1001,NY),(1002,.row 347 kN),(1003,oB),(1004,uT),(1005,oB),(1020,vr)]
abbrev oM:List (Nat×bE):=[(6,{ow:=[9],ps:=[(9,cF)]}),(250,{ow:=[23],ps:=[(23,cF)]})]
abbrev ga:Nat×SS:=(4,.c (.ptr 4 0))
abbrev Cf:List Sh:=[cI,cI,cI]
abbrev nv:SO:=.var 119 Cf
abbrev pY:List Sh:=[.nil,.nil]
abbrev Hi:SO:=.var 214 (cI::pY)
abbrev OW:List (Nat×SO):=[(4,Hi),(5,nv),(6,.var 214 [cI,.own 101,.own 108]),(101,dJ),(108,dI)]
abbrev G5:Nat×SO:=(5,.var 89 Cf)
abbrev OV:List (Nat×SO):=[(4,.var 291 (cI::pY)),G5,(6,.var 291 [cI,.own 85,.own 92]),(85,dJ),(92,dI)]
abbrev ju:SO:=.row 59 vu
abbrev gY:List (Nat×SO):=[(1000,ju)]
abbrev HF:SO:=.var 231 (cI::oN::.v ml::cI::Cf)
abbrev Q_6:List (Nat×SO):=[(1001,NY),(1002,.row 347 kN),(1003,oB),(1004,uT),(1005,oB),(1020,HF)]
abbrev gD:List (Bool×Shape):=[(false,⟨[(2,gX)],[]⟩)]
abbrev jC:SO:=.row 191 kN
abbrev Vv:List (Nat×SO):=[N1,(1001,xz),(1002,xC),(1003,xG),(1004,xB),(1005,xA),(1020,.var 297 [cI,oN,.v ml,cI])]
abbrev aec:List (Nat×SO):=[(5102,jw),(5103,jw),(5104,.bI 154 u6 [bj,.own 5105]),(5105,jw)]
abbrev aeI:Nat×SO:=(1101,.bI 150 jZ [bj,cI,cI,cI,bj,.v xD,HH,sP,.own 5102,.own 5103,.own 5104])
abbrev Vu:List (Nat×SO):=((1100,.var 320 [bj,.own 1101])::aeI::aec)
abbrev jc:Nat×SS:=(1,.c (.ptr 1020 0))
abbrev Hv:SS:=.st Ob
abbrev lD:SS:=.fn 107 [] [.v (.ptr Cs)]
abbrev Hu:List (Nat×SO):=[(1022,.var 9 [bj])]
abbrev sR:Sh:=.v (.sl s6)
abbrev NU:List (Nat×SS):=[(16,aW),(17,aW)]
abbrev eu:SS:=.c oN
abbrev lA:Nat×SS:=(10,aW)
abbrev nk:Nat×SS:=(9,aW)
abbrev jx:SS:=.c (.v pS)
abbrev GZ:Nat×SS:=(3,.c (.own 27))
abbrev xr:List (Nat×SS):=[nk,lA]
abbrev adG:Shape:=⟨(GZ::(8,jx)::xr),[(27,sU)]⟩
abbrev aeU:List (Nat×bE):=[(58,{pre:=[.dz 3 27 (.row [] 81 jB [])],loop:=some adG}),(7475,{cut:=[(.normal,adG)]}),(14950,{loop:=some ⟨(GZ::eM::(8,jx)::nk::lA::(15,eu)::NU),[(5,.var 165 [bj,sR,oN]),(27,sU)]⟩})]
abbrev fI:Nat×SS:=(6,.c (.ptr 6 0))
abbrev Ce:List Sh:=[bj,bj,bj,bj,sP,.own 1001,BE,.own 1003]
abbrev jv:Nat×SS:=(1,.c (.own 1020))
abbrev uP:SS:=.c (.v Q_q)
abbrev gP:Nat×SS:=(0,uP)
abbrev uX:Ky:=.u [3] false
abbrev rl:Ky:=.u [2] false
abbrev oA:Ky:=.q [5]
abbrev u9:bE:={kf:=[(1,oA),(2,rl),(3,uX)]}
abbrev nx:SS:=.c (.kb false)
abbrev GP:Sh:=.v (.sl Cu)
abbrev GO:Sh:=.v (.sl Cy)
abbrev GL:Sh:=.v (.sl B7)
abbrev BS:Sh:=.v (.sl xV)
abbrev Oq:SO:=.var 101 [.v (.sl vq),BS,GL,GO,GP]
abbrev pV:SS:=.c (.v xT)
abbrev aen:List (Nat×SO):=[(1201,xz),(1202,xC),(1203,xG),(1204,xB),(1205,xA)]
abbrev Vk:Nat×SO:=(1200,.var 101 [.own 1201,.own 1202,.own 1203,.own 1204,.own 1205])
abbrev Hy:SO:=.var 4 [sP]
abbrev oC:Nat×SO:=(1100,Hy)
abbrev Vt:List (Nat×SO):=(oC::Vk::aen)
abbrev dy:Nat×SS:=(1,dT)
abbrev kH:Shape:=⟨[dH,dy],[]⟩
abbrev nn:List (Nat×SS):=[(8,aW)]
abbrev sZ:Nat×SS:=(7,aW)
abbrev gR:List (Nat×SS):=(sZ::nn)
abbrev bW:Nat×SS:=(1,aW)
abbrev HI:List (Nat×Nat):=[(1000,1040),(1001,1041),(1002,1042),(1003,1043),(1004,1044),(1005,1045),(1020,1000)]
abbrev jW:SS:=.c (.v xD)
abbrev Oa:SO:=.var 101 (.dead::.dead::Ot)
abbrev Hz:List (Bool×Shape):=[(false,⟨[],Q_s⟩),(true,⟨[],((1000,Oa)::VM)⟩)]
abbrev pX:SO:=.var 286 [cI,cI,cI,oN]
abbrev ny:SO:=.var 145 [cI,cI,cI,bj]
abbrev pW:List (Bool×Shape):=[(true,⟨[],[lJ]⟩)]
abbrev gQ:List (Nat×SO):=[(1000,vp)]
abbrev bh:Ky:=.q []
abbrev jV:SS:=.c (.v (.sl te))
abbrev jU:Nat×SS:=(6,aW)
abbrev mg:List (Nat×SS):=[jU]
abbrev Hx:Shape:=⟨mg,[]⟩
abbrev dp:Nat×SS:=(2,aW)
abbrev eB:List (Nat×SS):=[(5,aW)]
abbrev Ow:List (Nat×Nat):=[(1000,1000),(1001,1001),(1020,1020),(5002,5002),(5003,5003),(5004,5004),(5005,5005)]
abbrev xu:Nat×SO:=(1002,jC)
abbrev rk:SO:=.row 84 jB
abbrev Ov:List (Nat×SO):=[(2,.var 182 [.own 1001,BE]),(4,.var 182 pY),(1001,rk),xu]
abbrev Vw:SO:=.var 134 (bj::bj::bj::bj::.kb false::.nil::pY)
abbrev Hw:List (EK×Shape):=[(.ret,⟨[(2,nx)],[]⟩)]
abbrev Hf:Ty:=.pair .str (.sl jZ)
abbrev u4:Ty:=.pair .str (.sl xU)
abbrev Of:List Sh:=[.nil,.nil,.nil,.nil,.nil,bj,.nil]
abbrev aeY:List (Nat×SO):=[(2,.var 115 (.nil::.nil::.nil::.nil::.nil::HH::.nil::Of)),(6,.var 115 [.v (.sl vq),BS,GL,GO,GP,HH,.own 73,.v (.sl B6),iD,s7,GK,s7,bj,.v (.sl u4)]),(73,.row 225 Hf)]
abbrev pZ:List (Nat×SO):=[(1000,.var 187 [.v xT,iD,cI])]
abbrev sS:Nat×SO:=(2000,.var 89 Ot)
abbrev aeX:List (Nat×SO):=((1100,.var 320 [bj,.own 1101])::aeI::sS::aec)
abbrev Vy:Nat×SO:=(1001,.bI 134 xU [bj,bj,bj,bj,sP,.own 5002,.own 5003,.own 5004])
abbrev On:SO:=.var 110 (.nil::.nil::.nil::pY)
abbrev aeW:List (Nat×SO):=[(2,On),(3,nv),(6,.var 110 [.own 700,.own 701,.own 702,.own 703,.own 704]),(700,NY),(701,.row 347 kN),(702,oB),(703,uT),(704,oB)]
abbrev Vx:List (Nat×SO):=[(1201,xz),(1202,xC),(1203,xG),(1204,xB),(1205,xA),sS]
abbrev Ox:List (Nat×SO):=[(2,.var 182 [.own 30,.own 20]),(4,.var 182 pY),(20,jC),(30,rk)]
abbrev HJ:List (Nat×bE):=[(3378,{ow:=[16],ps:=[(16,[(1020,1021),(1040,1022)])]})]
abbrev NQ:Nat×SS:=(3,.c (.own 20))
abbrev ru:Nat×SS:=(1,.c (.ptr 1 0))
abbrev aeV:List (Nat×bE):=[(29,{cut:=[(.normal,⟨[NQ],((20,dJ)::Cw)⟩)]}),(31,{pre:=[.ba 20]}),(58,{pre:=[.dz 3 20 (.row [] 9 .str [])],loop:=some ⟨(ru::NQ::fe),((1,.var 110 Ie)::(20,dJ)::Cw)⟩})]
abbrev UL:SO:=.var 252 [bj,.nil]
abbrev aeP:List (Nat×SO):=[(2,UL),(3,nv),(6,.var 252 [bj,.own 701]),(701,.bI 134 xU [bj,bj,bj,bj,sP,.own 702,.own 703,.own 704]),(702,jC),(703,jC),(704,.bI 138 s8 [bj,.own 705]),(705,jC)]
abbrev ff:Ky:=.q [1000]
abbrev oE:SS:=.c (.v (.sl vu))
abbrev Vn:List (Nat×SO):=[(5002,jC),(5003,jC),(5004,.bI 138 s8 [bj,.own 5005]),(5005,jC)]
abbrev rp:List Sh:=[.ptr 1021 0,.ptr 1022 0]
abbrev lz:SS:=.fn 56 [] []
abbrev xx:SS:=.c (.kb true)
abbrev Ho:bE:={cut:=[vd,(.ret,⟨[(4,xx)],[]⟩)]}
abbrev js:List (Nat×SS):=[(2,dT)]
abbrev sV:List (Bool×Shape):=[(false,⟨js,[]⟩)]
abbrev N0:Sh:=.v (.ptr eF)
abbrev NW:Sh:=.v (.ptr sQ)
abbrev Vm:Nat×SS:=(1,.fn 194 [] [.v (.ptr (.sl uS)),N0,NW,N0])
abbrev rn:Nat×SS:=(4,.c (.ptr 2000 0))
abbrev rm:List (Bool×Shape):=[(false,⟨[dp],[]⟩)]
abbrev Hn:List (Nat×bE):=[(12,{rd:=[12]}),(26,{ow:=[15],ps:=[(15,cF)]})]
abbrev dx:Ky:=.q [3]
abbrev BN:Ty:=.pair eF vv
abbrev Vl:Ty:=.sl BN
abbrev oD:Ky:=.u [1020] false
abbrev Hm:SS:=.c (.own 5000)
abbrev aeR:List (Nat×SO):=[(1041,xz),(1042,xC),(1043,xG),(1044,xB),(1045,xA)]
abbrev sK:Nat×SS:=(11,aW)
abbrev N':Nat×SS:=(2,.c (.v (.sl u4)))
abbrev aeQ:Shape:=⟨[dy,N',cK,(7,pV),(8,aW),nk,(10,.c (.ptr 10 0)),sK],[(3,rG),(10,.var 136 [bj,bj,bj,bj,sP,iD,iD,.v (.sl s8),bj,cI])]⟩
abbrev Cd:List (Nat×bE):=[(6,{ow:=[11],ps:=[(11,cF)]})]
abbrev Hs:List (Nat×bE):=[(6,{ow:=[9],ps:=[(9,[(1021,4),(1022,5)])]})]
abbrev Vq:List (Nat×bE):=[(62670,{ow:=[25],ps:=[(25,[(1000,20)])]}),(250685,{ow:=[34],ps:=[(34,[(1000,20)])]})]
abbrev lC:List (Nat×SO):=[(1000,vr)]
abbrev Hr:bE:={cut:=[vd,(.ret,⟨[(4,nx)],[]⟩)]}
abbrev rr:List (Nat×SO):=[(1040,.var 9 [bj])]
abbrev Vp:List (Nat×SO):=[(1001,jC),xu,(1003,.bI 138 s8 [bj,.own 1004]),(1004,jC),(1020,vr)]
abbrev nw:Ky:=.u [1020] true
abbrev iA:List (Nat×SS):=[(3,gX)]
abbrev Vo:List (Nat×SO):=[(14,sU),(16,.var 142 [Cg,.v pS,.own 14])]
abbrev sX:Nat×SS:=(5,.c (.own 12))
abbrev u5:SO:=.var 182 [s7,iD]
abbrev Ol:Nat×SS:=(1,.fn 218 [] [.v (.ptr oL),.v (.ptr (.sl p7))])
abbrev rq:Nat×SS:=(7,.c (.ptr 7 0))
abbrev Cb:SS:=.c (.v (.sl uS))
abbrev N4:Nat×SS:=(8,.c (.ptr 8 0))
abbrev xE:List (Nat×SS):=[jc,(2,.c (.ptr 1040 0))]
abbrev Vr:Nat×SS:=(3000002,.st (.pair (.sl p7) (.pair pS (.pair xT rb))))
abbrev Oo:Nat×SO:=(1000,.st 187 (.pair xT (.pair rb eF)))
abbrev u7:List (Nat×SS):=[(8,aW),nk]
abbrev aeG:List (Nat×bE):=[(8186,{ow:=[191],ps:=[(191,cF)]}),(16378,{un:=[.s 0],ow:=[205],ps:=[(205,cF)]}),(16382,{un:=[.s 0],ow:=[219],ps:=[(219,cF)]})]
abbrev gy:Nat×SS:=(0,pV)
abbrev fc:List (Nat×SO):=[fZ]
abbrev He:List (Bool×Shape):=((false,⟨[(4,dT)],fc⟩)::pW)
abbrev uY:SS:=.c s7
abbrev Hd:bE:={cut:=[(.normal,⟨[],gQ⟩)]}
abbrev uR:Nat×SS:=(0,.st Cs)
abbrev B3:Shape:=⟨[uR,dy],[]⟩
abbrev ni:Nat×SS:=(5,gX)
abbrev Hc:List (Bool×Shape):=[(false,⟨[(4,dT),ni],[]⟩)]
abbrev mn:Nat×SS:=(14,aW)
abbrev nt:Nat×SS:=(1,.c iD)
abbrev Hb:bE:={cut:=[(.normal,⟨[],gY⟩)]}
abbrev aeF:List Sh:=[cI,cI,cI,.nil]
abbrev UQ:SO:=.var 318 [.mu 174]
abbrev Ha:List (Nat×SO):=((1021,UQ)::Hu)
abbrev UP:SO:=.var 420 [.mu 270]
abbrev G9:List (Nat×SO):=((1021,UP)::Hu)
abbrev UO:SO:=.var 413 [.mu 264]
abbrev G8:List (Nat×SO):=((1021,UO)::Hu)
abbrev UN:SO:=.var 407 [.mu 258]
abbrev G7:List (Nat×SO):=((1021,UN)::Hu)
abbrev UM:SO:=.var 398 [.mu 250]
abbrev G6:List (Nat×SO):=((1021,UM)::Hu)
abbrev B9:List (Bool×Shape):=[(false,⟨[(4,eV)],[]⟩)]
abbrev B8:List (Bool×Shape):=[(false,⟨[(6,gX)],[]⟩)]
abbrev Hj:List (Bool×Shape):=[(false,⟨((2,dT)::iA),[]⟩)]
abbrev kF:Nat×SS:=(0,eV)
abbrev Oi:Shape:=⟨(kF::(3,eV)::(4,aW)::eB),[]⟩
abbrev aeN:Nat×bE:=(7541,{ow:=[55],kf:=[(0,dx),(1,dx),(3,oD),(5,.u [1002] false),(6,dx),(7,uX)],ps:=[(55,bq)]})
abbrev B5:List Sh:=[.ptr 1100 0,.ptr 1200 0]
abbrev GX:Ky:=.u [1001] false
abbrev aeM:Nat×bE:=(939,{ow:=[39],kf:=[(0,dx),(1,dx),(3,oD),(5,GX),(6,dx),(7,uX)],ps:=[(39,bq)]})
abbrev Hh:Nat×SO:=(3,.var 84 [bj,bj])
abbrev NS:Nat×SS:=(5,.c (.own 52))
abbrev aeL:Shape:=⟨[gP,bW,NS,jU,(15,uY),(16,aW),(17,aW),(65,jx),(66,aW),(67,aW)],[(52,ju)]⟩
abbrev B4:Nat×SS:=(0,.st (.pair kN .str))
abbrev mh:Nat×SS:=(3,aW)
abbrev Oh:bE:={loop:=some ⟨[dH,mh],[]⟩}
abbrev xt:SS:=.c .nil
abbrev Og:EK×Shape:=(.ret,⟨[(2,xt),(3,nx)],[]⟩)
abbrev aeK:List (Nat×SO):=[(4,.var 165 (bj::pY)),(5,.var 165 [bj,sR,.own 37]),(37,dJ),(1000,.var 297 [cI,oN,.v ml,cI])]
abbrev aeJ:List (Nat×SO):=[(3,.var 134 Ce),(6,Vw),(1001,jC),xu,(1003,.bI 138 s8 [bj,.own 1004]),(1004,jC),(1020,HF)]
abbrev pT:List (Bool×Shape):=[(false,Hx)]
abbrev pR:Nat×SS:=(13,aW)
abbrev UW:SS:=.c (.v (.sl Hf))
abbrev GN:SS:=.c (.own 47)
abbrev jt:SS:=.c HH
abbrev aeH:Shape:=⟨[(1,jt),cK,(7,GN),(12,UW),pR,mn],[(3,Oq),(47,vp)]⟩
abbrev Hg:Nat×SO:=(1200,.var 123 [.own 1201])
abbrev Hl:List (Bool×Shape):=[(false,⟨[(4,eu)],[]⟩)]
abbrev sT:List (Nat×SS):=[lA,sK]
abbrev gz:Nat×SS:=(1,eV)
abbrev Ca:bE:={cut:=(vd::Hw)}
abbrev B':SS:=.c (.v (.sl Vl))
abbrev BZ:SS:=.c (.v (.int .u8))
abbrev Vi:Shape:=⟨(dH::bW::ga::eM::fI::sZ::u7),OW⟩
abbrev BY:List (Bool×Shape):=[(false,⟨[],gQ⟩)]
abbrev aev:Nat×bE:=(6,{ow:=[12],kf:=[(2,bh),(3,bh),(4,dx),(5,.u [12] false)],ps:=[(12,[(8,12)])]})
abbrev BX:List (Bool×Shape):=[(false,⟨[],gY⟩)]
abbrev BV:bE:={unp:=[.s 0]}
abbrev aeu:List (Nat×bE):=[(7976,BV),(31926,{ow:=[60],ps:=[(60,cF)]}),(63812,{ow:=[43],ps:=[(43,cF)]})]
abbrev aet:List (Nat×SO):=[(3,.var 134 Ce),(6,Vw),(1001,jC),xu,(1003,.bI 138 s8 [bj,iD]),(1020,HF)]
abbrev aes:List (Nat×bE):=[(6,{ow:=[7],ps:=[(7,cF)]}),(28,{ow:=[9],ps:=[(9,cF)]}),(58,{ow:=[17],ps:=[(17,cF)]})]
abbrev uV:List (Nat×SS):=[(3000003,Hv)]
abbrev N5:Nat×SS:=(9,.c (.ptr 9 0))
abbrev pQ:Nat×SS:=(2,eV)
abbrev aer:bE:={cut:=[(.normal,⟨[gy,pQ,N5],[(9,u5)]⟩),(.ret,Hx)]}
abbrev Vh:Shape:=⟨[cE,bW,dp,mh,(4,lD)],gQ⟩
abbrev aeq:List (Nat×SO):=(fZ::(1020,Hy)::(1040,.var 101 [.own 1041,.own 1042,.own 1043,.own 1044,.own 1045])::aeR)
abbrev aep:List (Nat×bE):=[(56,BV),(1812,{ow:=[31],ps:=[(31,cF)]}),(1814,{ow:=[46],ps:=[(46,cF)]})]
abbrev nr:Nat×SS:=(0,aW)
abbrev Vg:Shape:=⟨(nr::dy::ga::eM::fI::gR),OV⟩
abbrev Vf:Shape:=⟨[cE,bW,dp,mh,(4,lz)],gY⟩
abbrev Ve:Shape:=⟨[cm,jc,(2,.c (.OD 1001 0))],OS⟩
abbrev BW:List (Nat×SS):=[mn,(15,aW)]
abbrev aeo:List (Nat×SO):=((2,.var 252 NZ)::(4,UL)::(5,Vw)::Vy::(1020,HF)::Vn)
abbrev aeC:Nat×bE:=(61,{cut:=[(.normal,⟨[(4,jW)],[]⟩),(.ret,⟨[(2,jW),(3,nx)],[]⟩)]})
abbrev mm:Nat×SS:=(0,uY)
abbrev Od:bE:={ow:=[21],ps:=[(21,bq)]}
abbrev Oc:bE:={ow:=[19],ps:=[(19,cF)]}
abbrev U6:List (Nat×SO):=[(5,nv),(54,.row 214 te)]
abbrev aeB:Shape:=⟨(dH::bW::eM::(6,.c (.own 54))::sZ::u7),U6⟩
abbrev B0:List (Nat×SS):=[(1,.st jB)]
abbrev aeA:List (Nat×SO):=[(4,.var 191 [bj,bj,.nil]),(5,.var 191 [bj,bj,.own 45]),(45,dJ),(1000,HF)]
abbrev rj:Nat×SS:=(0,.st OR)
abbrev nq:List (Nat×SS):=[ga,eM]
abbrev xw:SS:=.st vu
abbrev G4:Shape:=⟨[cm,jc],Q_s⟩
abbrev G3:Shape:=⟨[dH,bW],[]⟩
abbrev aey:List (Nat×bE):=[(3865416,{ow:=[98],ps:=[(98,bq)]}),(7730834,{ow:=[110],ps:=[(110,bq)]})]
abbrev aex:SO:=.var 113 [.v (.sl B6),iD,s7,GK,s7,bj,.own 74]
abbrev G2:Nat×SS:=(3,.c (.own 24))
abbrev G1:Nat×SS:=(5,.c (.own 39))
abbrev G0:SS:=.c (.v (.sl vq))
abbrev kG:Ky:=.q [2]
abbrev B2:Nat×SS:=(3,.c (.own 18))
abbrev B1:Nat×SS:=(5,.c (.own 25))
abbrev xy:List (Nat×SO):=[(5000,dI)]
abbrev Oe:Nat×SO:=(2,.var 376 (cI::aeF))
abbrev Vj:Nat×SO:=(2,.var 494 [cI,cI,cI,cI,bj])
abbrev aeD:List (Nat×Nat):=[(1001,1001),(1002,1002),(1003,1003),(1004,1004),(1005,1005),(1020,1020)]
abbrev aee:Shape:=⟨(gP::bW::NS::(15,uY)::NU),[(52,ju)]⟩
abbrev rh:Nat×SS:=(19,aW)
abbrev sM:Nat×SS:=(18,aW)
abbrev aed:Shape:=⟨[bW,(5,.c (.own 29)),(17,jx),sM,rh],[(29,ju)]⟩
abbrev nj:SS:=.st OT
abbrev N7:Shape:=⟨[(0,eu),dy],[]⟩
abbrev aea:Shape:=⟨[ru,(18,.c sR),rh,(20,aW)],[(1,.var 163 [sR])]⟩
abbrev ad9:List (Nat×SO):=[(5102,jw),(5103,jw),(5104,.bI 154 u6 BG),(5105,jw)]
abbrev ad8:List (Nat×SO):=((2,.var 110 Ie)::(4,On)::(5,.var 347 [bj,bj,.own 48])::(48,dJ)::Q_6)
abbrev iz:List (Nat×SS):=[sZ]
abbrev ad7:Shape:=⟨(dH::bW::ga::eM::fI::iz),[(4,Hi),(5,nv),(6,Hi)]⟩
abbrev ad6:List (Nat×SO):=[(6,.var 182 pY),(7,.var 182 [.own 211,.own 11]),(11,jC),(211,rk)]
abbrev ad5:bE:={cut:=((.normal,⟨[bR,cK],[(2,pX),(3,pX)]⟩)::Hk)}
abbrev ad4:Shape:=⟨[(0,.c (.v (.sl jZ))),(1,.fn 358 [] [.v (.ptr jZ)])],[]⟩
abbrev re:SS:=.c Cg
abbrev ad2:Shape:=⟨[(6,.c (.ptr 16 0)),(17,re),sM,rh],Vo⟩
abbrev GS:SO:=.row 136 Hq
abbrev ad1:bE:={cut:=[(.normal,⟨(cE::bW::(2,lD)::jU::iz),gQ⟩)]}
abbrev adZ:bE:={cut:=[(.normal,⟨(cE::bW::(2,lz)::jU::iz),gY⟩)]}
abbrev adY:List (Nat×SO):=((2,.var 110 Ie)::(4,On)::(5,.var 449 [bj,.own 23])::(23,dJ)::Q_6)
abbrev BU:List (Nat×SS):=[(3000004,Hv)]
abbrev GR:SS:=.c (.own 61)
abbrev aek:Shape:=⟨[gP,bW,G1,(49,jx),(50,aW),(51,aW)],[(39,ju)]⟩
abbrev GW:Ky:=.u [1000] false
abbrev aei:Nat×bE:=(254,{pre:=[.ba 705,.ba 704,.ba 702,.ba 703,.ba 701]})
abbrev GV:Nat×SO:=(2,.var 286 aeF)
abbrev aeh:bE:={loop:=some ⟨(cE::bW::(2,lD)::jU::gR),gQ⟩}
abbrev U8:Nat×bE:=(6,{ow:=[11],ps:=[(11,bq)]})
abbrev BR:SS:=.c (.own 59)
abbrev aeg:bE:={loop:=some ⟨(cE::bW::(2,lz)::jU::gR),gY⟩}
abbrev uQ:Ky:=.q [1003]
abbrev xv:List (Nat×SO):=[(5000,sU)]
abbrev aef:List (Nat×SO):=[(2,.var 163 [.nil]),(5,.var 163 [.own 39]),(39,.row 434 s6)]
abbrev U7:SS:=.c (.v (.sl xD))
abbrev BQ:List (Nat×SS):=[cm,jv,dp]
abbrev GU:SS:=.c (.ptr 12 0)
abbrev N9:List Nat:=[5002,5003,5004,5005]
abbrev Vd:Shape:=⟨[gy,nt,pQ],[]⟩
abbrev Vc:bE:={ow:=[27],ps:=[(27,cF)]}
abbrev Vb:bE:={ow:=[35],ps:=[(35,bq)]}
abbrev Va:bE:={ow:=[16],ps:=[(16,bq)]}
abbrev U9:bE:={ow:=[29],ps:=[(29,bq)]}
abbrev N8:Shape:=⟨[gP,bW],[]⟩
abbrev rf:Nat×SS:=(0,Hm)
abbrev U2:Nat×SS:=(1,.fn 175 [.ptr 1100 0] [])
abbrev adL:List (Nat×Nat):=[(1001,1001),(1002,1002),(1003,1003),(1004,1004),(1005,1005)]
abbrev GM:SO:=.row 147 xD
abbrev GJ:Shape:=⟨[nr],[]⟩
abbrev BF:List (Nat×SS):=((5,aW)::mg)
abbrev U1:bE:={cut:=[vd,(.ret,Hx)]}
abbrev xq:Nat×SO:=(1201,jw)
abbrev uN:List (Nat×Nat):=[(1000,30)]
abbrev U0:Bool×Shape:=(false,⟨(dp::iA),[]⟩)
abbrev adK:List (Nat×SO):=[fZ,(1020,Hy),(1040,.var 123 [.own 1041]),(1041,jw)]
abbrev UZ:bE:={ow:=[8],ps:=[(8,cF)]}
abbrev uM:SS:=.agg Ie
abbrev adU:Nat×bE:=(29,{cut:=[(.normal,⟨[sX],[(12,dI)]⟩)]})
abbrev adT:Nat×bE:=(58,{loop:=some ⟨(sX::BW),[(12,dI)]⟩})
abbrev adS:Shape:=⟨((1,pV)::bR::sX::mg),[(2,rG),(12,GS)]⟩
abbrev ri:Nat×Ky:=(9,bh)
abbrev adR:Nat×bE:=(29,{cut:=[(.normal,⟨[GZ],[(27,sU)]⟩)]})
abbrev GQ:SS:=.c (.own 23)
abbrev adQ:Nat×bE:=(26,{loop:=some ⟨((0,eu)::dy::eB),[]⟩})
abbrev N3:Nat×SO:=(59,.row 374 Vl)
abbrev N2:List (Nat×SS):=(nt::bR::ga::eB)
abbrev adP:Nat×bE:=(58,{loop:=some ⟨(kF::(3,eV)::fe),[]⟩})
abbrev adO:Nat×bE:=(61,{cut:=[(.normal,⟨(rf::eB),xy⟩)]})
abbrev U3:Bool×Shape:=(false,⟨[(4,oE)],[]⟩)
abbrev adN:EK×Shape:=(.ret,⟨nq,[(4,.var 291 (cI::pY)),G5]⟩)
abbrev adM:Bool×Shape:=(false,⟨[(3000004,.st te),(3000005,Hv)],[]⟩)
abbrev BK:List (Nat×SO):=[(1020,xA)]
abbrev BJ:List (Nat×SO):=[(1020,xB)]
abbrev BI:List (Nat×SO):=[(1020,xG)]
abbrev BH:List (Nat×SO):=[(1020,xC)]
abbrev BM:List (Nat×SO):=[(1020,xz)]
abbrev BL:List (Nat×SS):=[(1,xw)]
abbrev adW:Shape:=⟨(dy::N'::cK::(7,pV)::nn),[(3,rG)]⟩
abbrev adV:Shape:=⟨(gP::G2::(13,jx)::BW),[(24,ju)]⟩
abbrev uO:List (Nat×SS):=[(2,eu)]
abbrev NV:SS:=.st (.sl s6)
abbrev NT:Shape:=⟨[cm],lC⟩
abbrev sL:Nat×SS:=(12,aW)
abbrev adC:Nat×bE:=(29,{cut:=[(.normal,⟨[(3,eV)],[]⟩)]})
abbrev adB:Shape:=⟨(cE::bW::dp::(3,lD)::nn),gQ⟩
abbrev NR:Nat×SS:=(5,.c (.own 31))
abbrev US:List (Nat×SS):=[rn,(12,jV),pR,mn]
abbrev adz:Shape:=⟨[(4,.c (.own 1000))],[(1000,rk)]⟩
abbrev ady:Shape:=⟨(cE::bW::dp::(3,lz)::nn),gY⟩
abbrev adI:List (Nat×SO):=((4,.var 405 [bj,cI,.own 45])::(45,dJ)::Vv)
abbrev UX:Shape:=⟨(gP::BL),[]⟩
abbrev NX:Shape:=⟨[kF],[]⟩
abbrev adF:Nat×bE:=(6,{ow:=[8,10],ps:=[(8,cF),(10,cF)]})
abbrev adE:List Gh:=[.ba 5005,.ba 5004,.ba 5002,.ba 5003]
abbrev UU:Nat×bE:=(31,{pre:=[.ba 18]})
abbrev UT:Shape:=⟨[cm,bW],lC⟩
def aie:FS:=mkG [Wn] [(29,{cut:=((.normal,cJ)::Hw)}),(58,{loop:=some ⟨[dH,pR,mn],[]⟩})] 407 cJ gD (k1 Kd)
def WH:FS:=mkG [Dw,aie] [(61,Ca),(122,{loop:=some ⟨[(11,eu),sL,pR],[]⟩})] 353 cJ gD (k1 D6)
def Pz:FS:=mkG [WH] [(13,{cut:=((.normal,⟨[ru],[(1,ny)]⟩)::Hw)}),(26,{loop:=some ⟨(ru::(6,.agg Cf)::iz),[(1,ny)]⟩})] 316 ⟨[(0,nj)],[]⟩ gD (k1 ym)
def V4:FS:=mkG [aii,Pz] [] 423 ⟨[(0,nj)],[]⟩ sV (k1 IY)
def Qy:FS:=mkG [] [] 410 GJ sV (k1 EX)
def akx:FS:=mkQ [] [(30,{cut:=[(.normal,ad7)]}),(60,{loop:=some ad7}),(125,{cut:=[(.normal,⟨[ga,eM,fI],OW⟩),(.ret,⟨nq,[(4,Hi),(5,nv)]⟩)]}),(127,{pre:=[.ba 101,.ba 108]}),(250,{pre:=[.da 6 1 101 (.row [] 9 .str []),.da 6 2 108 (.row [] 3 eF [])],loop:=some ⟨(dH::bW::ga::eM::fI::gR),OW⟩}),(16022,{cut:=[(.normal,Vi)]}),(32044,{loop:=some Vi}),(128189,{cut:=[(.normal,Vi),(.ret,⟨nq,[(4,Hi),(5,nv)]⟩)]}),(256378,{loop:=some ⟨(dH::bW::ga::eM::fI::sZ::(8,aW)::xr),OW⟩})] 156 G3 [adM] (k2 zX)
def ait:FS:=mkQ [akx] [(61,{cut:=[(.normal,⟨[eM,(6,.c (.own 54))],U6⟩),(.ret,⟨[(4,xt),eM],[(5,nv)]⟩)]}),(63,{pre:=[.ba 54]}),(122,{pre:=[.dz 6 54 (.row [] 214 te [])],loop:=some ⟨(dH::bW::eM::(6,.c (.own 54))::gR),U6⟩}),(3914,{cut:=[(.normal,aeB)]}),(7828,{loop:=some aeB})] 85 G3 [(false,⟨[(4,jV),(3000005,Hv)],[]⟩)] (k2 Qi)
def QU:FS:=mkQ [ait] [] 91 cJ [(false,⟨((2,jV)::uV),[]⟩)] (k1 Af)
def kR:FS:=mkQ [] [] 97 NT [(false,⟨[(2,gX)],lC⟩)] (k1 dF)
def Dy:FS:=mkQ [kR] [(12,{ow:=[4],ps:=[(4,cF)]})] 92 NT [(false,⟨js,lC⟩)] (k1 jg)
def kS:FS:=mkG [] [] 93 UT [(false,⟨[],lC⟩)] (k2 fi)
def vI:FS:=mkG [kS,kR] [(2,{ow:=[7],ps:=[(7,cF)]}),(6,{ow:=[14],ps:=[(14,cF)]})] 94 ⟨[cm,bW,dp],lC⟩ [(false,⟨[],lC⟩)] (k3 fA)
def aha:FS:=mkHh [] aeV 343 ⟨[(0,uM)],Cw⟩ [(false,⟨uO,Cw⟩)] (λo=>(o.1,o.2.1,o.2.2.1,o.2.2.2.1,o.2.2.2.2.1,o.2.2.2.2.2.1)) (λr=>(r.1,r.2.1,r.2.2.1,r.2.2.2.1,r.2.2.2.2.1,r.2.2.2.2.2,())) (λ_=>rfl) (λx=>JD x.1 x.2.1 x.2.2.1 x.2.2.2.1 x.2.2.2.2.1)
def WN:FS:=mkG [] [(29,Ca),(58,Oh)] 379 cJ gD (k1 zj)
def QC:FS:=mkG [WN] [] 300 cJ gD (k1 vY)
def Qg:FS:=mkG [] [(13,{cut:=[(.normal,cJ),(.ret,⟨[dp],[]⟩)]}),(26,Oh)] 301 cJ rm (k1 zx)
def W3:FS:=mkG [QC,Qg] [] 299 cJ gD (k1 EG)
def KC:FS:=mkG [QC,W3,Qg] [] 198 cJ gD (k1 vZ)
def YE:FS:=mkG [] [(61,{cut:=[(.normal,⟨(dH::B1::mg),[(25,dJ)]⟩)]}),(63,{pre:=[.ba 25]}),(122,{pre:=[.dz 5 25 (.row [] 9 .str [])],loop:=some ⟨(dH::(1,BZ)::B1::jU::iz),[(25,dJ)]⟩})] 228 ⟨[dH,(1,BZ)],[]⟩ Hl (k2 qB)
def W6:FS:=mkQ [] [(61,{cut:=[(.normal,⟨fe,[]⟩),(.ret,⟨[dp,(3,nx)],[]⟩)]}),(122,{loop:=some ⟨(dH::(4,aW)::eB),[]⟩})] 158 cJ [U0] (k1 zA)
def ajF:FS:=mkQ [W6] [] 230 cJ [U0] (k1 zy)
def W4:FS:=mkG [] [(13,Ca),(26,Oh)] 330 cJ gD (k1 zz)
def alH:FS:=mkG [W4] [(29,Ca),(58,Oh)] 231 cJ gD (k1 LS)
def Eh:FS:=mkQ [YE,ajF,alH] [(14,{cut:=[(.normal,⟨(dH::bR::fe),[GV]⟩)]}),(28,{loop:=some ⟨(dH::bR::fe),[GV]⟩}),(65533,{cut:=[(.normal,⟨[bR,fI],[GV,(6,pX)]⟩),(.ret,⟨[bR,(3,nx)],[GV]⟩)]}),(131066,{loop:=some ⟨[bR,fI,pR],[GV,(6,pX)]⟩})] 145 cJ [(false,⟨((3000002,.st vv)::iA),[]⟩)] (k1 qn)
def alG:FS:=mkG [] [] 329 GJ sV (k1 R0)
def anf:FS:=mkQ [Eh,alG] [(30,{cut:=[(.normal,⟨(dH::bR::fe),[Oe]⟩)]}),(60,{loop:=some ⟨(dH::bR::fe),[Oe]⟩}),(125,{cut:=[(.normal,⟨[bR],[Oe]⟩),(.ret,⟨(bR::iA),[(2,.var 376 [cI,cI,cI,cI,oN])]⟩)]}),(250,{loop:=some ⟨(dH::bR::(4,aW)::eB),[Oe]⟩})] 229 cJ [(false,⟨((3000002,.st BN)::iA),[]⟩)] (k1 Mf)
def QE:FS:=mkQ [YE,anf] [(125,{cut:=[(.normal,⟨[(5,BR)],[N3]⟩),Og]}),(127,{pre:=[.ba 59]}),(250,{pre:=[.dz 5 59 (.row [] 374 Vl [])],loop:=some ⟨((4,eu)::(5,BR)::mg),[N3]⟩}),(64079,{pre:=[.ba 55]}),(128157,{cut:=[(.normal,⟨[(4,eu),(5,BR),jU,(8,.c (.own 55))],[(55,.row 376 BN),N3]⟩),Og]}),(256314,{pre:=[.dz 8 55 (.row [] 376 BN [])],loop:=some ⟨[(4,eu),(5,BR),jU,(7,eu),(8,.c (.own 55)),nk],[(55,.row 376 BN),N3]⟩})] 144 cJ [(false,⟨((2,B')::iA),[]⟩)] (k1 zU)
def W2:FS:=mkQ [] [(61,{cut:=[(.normal,⟨[dH,(4,.c (.own 6))],[(6,dI)]⟩),Og]}),(63,{pre:=[.ba 6]}),(117,{pre:=[.ba 6]}),(122,{loop:=some ⟨(dH::(4,.c (.own 6))::eB),[(6,dI)]⟩})] 195 cJ [(false,⟨(pQ::iA),[]⟩)] (k1 zw)
def QT:FS:=mkQ [] [aeC,(122,{loop:=some ⟨(dH::(4,jW)::eB),[]⟩})] 307 cJ [(false,⟨((2,jW)::iA),[]⟩)] (k1 nT)
def QP:FS:=mkG [] [] 400 cJ gD (k1 Ac)
def QQ:FS:=mkG [KC,WN,W3,QP,Qg] [] 341 cJ gD (k1 Ad)
def aoJ:FS:=mkG [QT,Eh,QE,KC,QQ,QC,W2] [] 243 G3 di (k2 ji)
def qd:FS:=mkQ [kS,kR,Dy,aoJ] aes 176 UT [(false,⟨[(4,dT)],lC⟩)] (k2 eW)
def qy:FS:=mkG [] [(13,Ho),adQ] 74 N7 di (k2 mM)
def P8:FS:=mkQ [kS,kR,qd,qy] [(6,{ow:=[10],ps:=[(10,cF)]}),(28,{ow:=[12],ps:=[(12,cF)]}),(58,Oc)] 342 ⟨(cm::bW::uO),lC⟩ [(false,⟨[(6,dT)],lC⟩)] (k3 j8)
def X0:FS:=mkG [] [] 401 ⟨[(0,jW)],[]⟩ rm (k1 FF)
def alI:FS:=mkG [ani,X0] [] 344 ⟨[(0,jW)],[]⟩ sV (k1 Ae)
def YC:FS:=mkQ [kS,kR,Dy,qy] aes 345 ⟨[cm,(1,eu)],lC⟩ [(false,⟨[(4,dT)],lC⟩)] (k2 k6)
def ahb:FS:=mkHh [] aeV 303 ⟨[(0,uM)],Cw⟩ [(false,⟨uO,Cw⟩)] (λo=>(o.1,o.2.1,o.2.2.1,o.2.2.2.1,o.2.2.2.2.1,o.2.2.2.2.2.1)) (λr=>(r.1,r.2.1,r.2.2.1,r.2.2.2.1,r.2.2.2.2.1,r.2.2.2.2.2,())) (λ_=>rfl) (λx=>JE x.1 x.2.1 x.2.2.1 x.2.2.2.1 x.2.2.2.2.1)
def Dz:FS:=mkQ [kR] [(6,{ow:=[4],kf:=[(1,GW),(5,ff),(6,ff),(9,ff),(10,ff),(11,ff),(12,bh)],ps:=[(4,cF)]})] 177 NT [(false,⟨[(2,gX)],lC⟩)] (k1 j6)
def Wm:FS:=mkG [] [lI,(26,{loop:=some ⟨(dy::bR::eB),[(2,rG)]⟩})] 306 ⟨[rj,dy],[]⟩ dA (k2 vH)
def aiR:FS:=mkHh [kS,vI,kR,Dz,qd,ahb,P8,YC,qy,Wm] [U8,(14,{ow:=[14,15,18],ps:=[(14,adL),(15,bq),(18,bq)]}),(30,{cut:=[(.normal,⟨(bR::nq),ad8⟩)]}),(60,{un:=[.v 2 0,.v 2 1,.v 2 2,.v 2 3,.v 2 4],pre:=[.da 5 2 48 (.row [] 9 .str [])],loop:=some ⟨(jc::bR::nq),ad8⟩}),(62,{pre:=[.ba 48]}),(480,Od),(964,{ow:=[23],ps:=[(23,bq)]}),(3860,{ow:=[25],rd:=[29],ps:=[(25,bq)]}),(7722,{ow:=[33],ps:=[(33,bq)]}),(7724,{ow:=[35],rd:=[40],ps:=[(35,bq)]}),(15450,{ow:=[43],ps:=[(43,bq)]})] 346 ⟨[(0,uM),jc],Ct⟩ [(false,⟨[(3000004,uM)],Ct⟩)] (λo=>(o.1,o.2.1,o.2.2.1,o.2.2.2.1,o.2.2.2.2.1,o.2.2.2.2.2.1)) (λr=>(r.1,r.2.1,r.2.2.1,r.2.2.2.1,r.2.2.2.2.1,r.2.2.2.2.2,())) (λ_=>rfl) (λx=>Qz x.1 x.2.1 x.2.2.1 x.2.2.2.1 x.2.2.2.2.1 x.2.2.2.2.2.1)
def ajz:FS:=mkQ [] [(29,{cut:=[(.normal,⟨[B2],[(18,dJ),(1000,oB)]⟩)]}),UU,(58,{pre:=[.dz 3 18 (.row [] 9 .str [])],loop:=some ⟨(cE::B2::fe),[(18,dJ),(1000,oB)]⟩})] 347 ⟨[cE],[(1000,oB)]⟩ [(false,⟨uO,[(1000,oB)]⟩)] (k1 ED)
def akp:FS:=mkQ [] [(29,{cut:=[(.normal,⟨[B2],[(18,dJ),(1000,uT)]⟩)]}),UU,(58,{pre:=[.dz 3 18 (.row [] 9 .str [])],loop:=some ⟨(cE::B2::fe),[(18,dJ),(1000,uT)]⟩})] 403 ⟨[cE],[(1000,uT)]⟩ [(false,⟨uO,[(1000,uT)]⟩)] (k1 Lq)
def akn:FS:=mkHh [kS,kR,qd,qy] [(6,{ow:=[10],ps:=[(10,cF)]}),(28,{ow:=[12],rd:=[16],ps:=[(12,cF)]}),(58,Oc)] 342 ⟨[cm,bW,(2,.c (.own 1040))],[(1000,vr),(1040,dJ)]⟩ [(false,⟨[(6,dT)],[(1000,vr),(1040,dJ)]⟩)] (λo=>(o.1,o.2.1,o.2.2.1)) (λr=>(r.1,r.2.1,r.2.2,())) (λ_=>rfl) (k3 Lo)
def ajx:FS:=mkHh [vI,Dz,qd,akp,akn,P8] [U8,(14,{ow:=[15,16],ps:=[(15,[(1000,1004)]),(16,bq)]}),(30,{ow:=[21],kf:=[(0,oA),(1,oA),(3,oD),(5,.u [23] false),(6,oA),(7,.u [5] false)],ps:=[(21,bq)]}),(62,{cut:=[(.normal,⟨(bR::nq),adY⟩)]}),(124,{un:=[.v 2 3],loop:=some ⟨(jc::bR::nq),adY⟩}),(126,{pre:=[.ba 23]}),(992,{ow:=[26],ps:=[(26,bq)]}),(1988,{ow:=[30],ps:=[(30,[nu,(1040,23)])]}),(3978,{un:=[.v 5 1],ow:=[35],ps:=[(35,bq)]})] 348 ⟨[(0,uM),jc],Ct⟩ [(false,⟨[(3000004,uM)],Ct⟩)] (λo=>(o.1,o.2.1,o.2.2.1,o.2.2.2.1,o.2.2.2.2.1,o.2.2.2.2.2.1)) (λr=>(r.1,r.2.1,r.2.2.1,r.2.2.2.1,r.2.2.2.2.1,r.2.2.2.2.2,())) (λ_=>rfl) (λx=>QO x.1 x.2.1 x.2.2.1 x.2.2.2.1 x.2.2.2.2.1 x.2.2.2.2.2.1)
def ajw:FS:=mkHh [kS,vI,qd,ajz,aha,aiR,P8,ajx,YC,QT,alI] [(15,{un:=[.v 6 1,.v 6 2,.v 6 3,.v 6 4]}),(212,Od),(426,{ow:=[24,25],ps:=[(24,adL),(25,bq)]}),(430,{ow:=[50],ps:=[(50,aeD)]}),(854,U9),(3422,{ow:=[38],ps:=[(38,bq)]}),(3423,{un:=[.v 3 0]}),(3452,{ow:=[57],ps:=[(57,bq)]}),(6906,{ow:=[61,62],ps:=[(61,[(1000,1003)]),(62,bq)]}),(6907,{un:=[.v 3 2],ow:=[67],kf:=[(0,dx),(1,dx),(4,oD),(7,.u [1003] false),(8,dx),(9,uX)],ps:=[(67,bq)]}),(6910,{ow:=[76],ps:=[(76,aeD)]}),(27647,{ow:=[14],ps:=[(14,bq)]}),(55292,{ow:=[83],ps:=[(83,bq)]}),(110586,{ow:=[87,88],ps:=[(87,[(1000,1005)]),(88,bq)]}),(110587,{un:=[.v 3 4],ow:=[93],kf:=[(0,dx),(1,dx),(4,oD),(7,.u [1005] false),(8,dx),(9,uX)],ps:=[(93,bq)]})] 245 ⟨((0,uM)::jc::js),Ct⟩ [(false,⟨[(3000006,uM)],Ct⟩)] (λo=>(o.1,o.2.1,o.2.2.1,o.2.2.2.1,o.2.2.2.2.1,o.2.2.2.2.2.1)) (λr=>(r.1,r.2.1,r.2.2.1,r.2.2.2.1,r.2.2.2.2.1,r.2.2.2.2.2,())) (λ_=>rfl) (λx=>mB x.1 x.2.1 x.2.2.1 x.2.2.2.1 x.2.2.2.2.1 x.2.2.2.2.2.1 x.2.2.2.2.2.2.1)
def P3:FS:=mkG [kS,Dz] [(2,{ow:=[3],ps:=[(3,cF)]}),(13,{ow:=[12],ps:=[(12,cF)]})] 96 NT [(false,⟨[],lC⟩)] (k1 gE)
def ako:FS:=mkQ [P3,kS,kR,Dy,ajw,QU] [(116,u9),(125,{cut:=[(.normal,⟨[bR,cK,(4,jV),fI],aeW⟩),(.ret,⟨[bR,cK],[(2,On),(3,nv)]⟩)]}),(250,{pre:=[.da 6 0 700 (.row [] 349 B6 []),.da 6 1 701 (.row [] 347 kN []),.da 6 2 702 (.row [] 392 jB []),.da 6 3 703 (.row [] 449 Ht []),.da 6 4 704 (.row [] 392 jB [])],loop:=some ⟨(bR::cK::(4,jV)::fI::iz),aeW⟩}),(255,{pre:=[.ba 700,.ba 701,.ba 702,.ba 703,.ba 704]}),(16018,{ow:=[33],ps:=[(33,[(1000,31)])]}),(64078,{ow:=[45],ps:=[(45,[(1000,31)])]}),(128154,{ow:=[39],ps:=[(39,[(1001,700),(1002,701),(1003,702),(1004,703),(1005,704),(1020,31)])]}),(128158,{ow:=[47],ps:=[(47,[(1000,31)])]}),(512622,{ow:=[43],ps:=[(43,[(1000,31)])]}),(512636,{kf:=[(3,.q [31]),(4,.q [31]),(5,rl),(6,uX)]})] 164 cJ [(false,⟨((3000002,.st OR)::uV),[]⟩)] (k1 zS)
def XV:FS:=mkQ [] [(13,{cut:=[vd,(.ret,⟨[(4,dT),(5,xx)],[]⟩)]}),(26,{loop:=some ⟨(mm::dy::mg),[]⟩})] 165 ⟨[mm,dy],[]⟩ Hc (k2 wb)
def alF:FS:=mkG [] [] 349 ⟨((0,.st xU)::dy::js),[]⟩ B8 (k3 FE)
def akq:FS:=mkHh [kS,vI,kR,Dz,qd,alF] [U8,(14,{ow:=[13,15],ps:=[(13,bq),(15,bq)]}),(61,{cut:=[(.normal,⟨(jc::bR::nq),aeo⟩)]}),(62,{ow:=[41],ps:=[(41,bq)]}),(122,{loop:=some ⟨(jc::bR::ga::eM::mg),aeo⟩}),(126,{ow:=[44],ps:=[(44,bq)]}),(508,{ow:=[47],kf:=[(1,oD),(5,.q [1020]),(6,.q [1020]),(7,.q [1020]),(10,.q [1020]),(11,.q [1020]),(12,bh),(13,bh)],ps:=[(47,bq)]}),(510,{pre:=adE,post:=[.oG 5005 (.row [] 191 (.pair .str (.pair .str (.sl .str))) []),.da 1001 5 5002 (.row [] 191 (.pair .str (.pair .str (.sl .str))) []),.da 1001 6 5003 (.row [] 191 (.pair .str (.pair .str (.sl .str))) []),.da 1001 7 5004 (.bI [] 138 (.pair .str (.sl (.pair .str (.pair .str (.sl .str))))) true [] [.v .str [],.ow 5005 0 .all])],rd:=[73]}),(3912,{ow:=[25],rd:=[36],kf:=[(1,oD),(3,kG),(4,kG),(6,.q [1001]),(7,.q [1001]),(8,oA),(9,oA),(10,oA),(11,oA),(12,.w)],ps:=[(25,bq)]}),(7826,{ow:=[39],ps:=[(39,bq)]})] 246 ⟨[(0,.agg NZ),jc],(Vy::(1020,vr)::Vn)⟩ [(false,⟨[(3000004,.agg NZ)],(Vy::(1020,vr)::Vn)⟩)] (λo=>(o.1,o.2.1,o.2.2.1,o.2.2.2.1,o.2.2.2.2.1,o.2.2.2.2.2.1,o.2.2.2.2.2.2.1,o.2.2.2.2.2.2.2.1,o.2.2.2.2.2.2.2.2.1,o.2.2.2.2.2.2.2.2.2.1,o.2.2.2.2.2.2.2.2.2.2.1,o.2.2.2.2.2.2.2.2.2.2.2.1,o.2.2.2.2.2.2.2.2.2.2.2.2.1,o.2.2.2.2.2.2.2.2.2.2.2.2.2.1,o.2.2.2.2.2.2.2.2.2.2.2.2.2.2.1)) (λr=>(r.1,r.2.1,r.2.2.1,r.2.2.2.1,r.2.2.2.2.1,r.2.2.2.2.2.1,r.2.2.2.2.2.2.1,r.2.2.2.2.2.2.2.1,r.2.2.2.2.2.2.2.2.1,r.2.2.2.2.2.2.2.2.2.1,r.2.2.2.2.2.2.2.2.2.2.1,r.2.2.2.2.2.2.2.2.2.2.2.1,r.2.2.2.2.2.2.2.2.2.2.2.2.1,r.2.2.2.2.2.2.2.2.2.2.2.2.2.1,r.2.2.2.2.2.2.2.2.2.2.2.2.2.2,())) (λ_=>rfl) (λx=>Fa x.1 x.2.1 x.2.2.1 x.2.2.2.1 x.2.2.2.2.1 x.2.2.2.2.2.1 x.2.2.2.2.2.2.1 x.2.2.2.2.2.2.2.1 x.2.2.2.2.2.2.2.2.1 x.2.2.2.2.2.2.2.2.2.1 x.2.2.2.2.2.2.2.2.2.2.1 x.2.2.2.2.2.2.2.2.2.2.2.1 x.2.2.2.2.2.2.2.2.2.2.2.2.1 x.2.2.2.2.2.2.2.2.2.2.2.2.2.1 x.2.2.2.2.2.2.2.2.2.2.2.2.2.2.1)
def P1:FS:=mkQ [kS,kR,Dz,qd,qy] [adF,(14,{cut:=[(.normal,⟨nq,aeA⟩)]}),(28,{pre:=[.da 5 2 45 (.row [] 9 .str [])],loop:=some ⟨(cm::bW::nq),aeA⟩}),(31,{pre:=[.ba 45]}),(224,{ow:=[16],ps:=[(16,cF)]}),(452,Oc),(1812,{ow:=[21],rd:=[26],ps:=[(21,cF)]}),(3626,{ow:=[29],ps:=[(29,cF)]}),(3628,{ow:=[31],ps:=[(31,cF)]}),(7258,{ow:=[40],ps:=[(40,cF)]})] 95 UT [(false,⟨[(3000004,.st kN)],lC⟩)] (k2 fy)
def aim:FS:=mkHh [kS,vI,kR,P1,qd] ((938,Vb)::aeM::(1874,{ow:=[30],ps:=[(30,bq)]})::(3775,Va)::(7540,{ow:=[51],ps:=[(51,bq)]})::aeN::(7542,{ow:=[67],ps:=[(67,bq)]})::(7543,{ow:=[78],kf:=[(0,dx),(1,dx),(3,dx),(4,dx),(6,uQ),(7,uQ),(8,uQ),(10,oD),(12,.u [80] false)],ps:=[(78,bq)]})::(7548,{ow:=[89],ps:=[(89,bq)]})::(15098,{ow:=[91],ps:=[(91,bq)]})::(30199,{post:=[.da 1003 1 1004 (.row [] 191 (.pair .str (.pair .str (.sl .str))) [])],rd:=[115]})::(60397,{cut:=[(.normal,⟨[cK,fI,(8,dT)],aet⟩)]})::(120794,{loop:=some ⟨[jc,cK,fI,sZ,(8,dT),nk],aet⟩})::aey) 247 ⟨((0,.agg Ce)::jc::js),[(1001,jC),xu,(1003,.bI 138 s8 [bj,iD]),(1020,vr)]⟩ [(false,⟨[(3000006,.agg Ce)],Vp⟩)] (λo=>(o.1,o.2.1,o.2.2.1,o.2.2.2.1,o.2.2.2.2.1,o.2.2.2.2.2.1,o.2.2.2.2.2.2.1,o.2.2.2.2.2.2.2.1,o.2.2.2.2.2.2.2.2.1,o.2.2.2.2.2.2.2.2.2.1,o.2.2.2.2.2.2.2.2.2.2.1,o.2.2.2.2.2.2.2.2.2.2.2.1)) (λr=>(r.1,r.2.1,r.2.2.1,r.2.2.2.1,r.2.2.2.2.1,r.2.2.2.2.2.1,r.2.2.2.2.2.2.1,r.2.2.2.2.2.2.2.1,r.2.2.2.2.2.2.2.2.1,r.2.2.2.2.2.2.2.2.2.1,r.2.2.2.2.2.2.2.2.2.2.1,r.2.2.2.2.2.2.2.2.2.2.2,())) (λ_=>rfl) (λx=>Kj x.1 x.2.1 x.2.2.1 x.2.2.2.1 x.2.2.2.2.1 x.2.2.2.2.2.1 x.2.2.2.2.2.2.1 x.2.2.2.2.2.2.2.1 x.2.2.2.2.2.2.2.2.1 x.2.2.2.2.2.2.2.2.2.1 x.2.2.2.2.2.2.2.2.2.2.1 x.2.2.2.2.2.2.2.2.2.2.2.1 x.2.2.2.2.2.2.2.2.2.2.2.2.1)
def aik:FS:=mkHh [kS,vI,kR,P1,qd] ((938,Vb)::aeM::(1874,{ow:=[30],ps:=[(30,bq)]})::(3775,Va)::(7540,{ow:=[51],ps:=[(51,bq)]})::aeN::(7542,{ow:=[67],ps:=[(67,bq)]})::(7543,{ow:=[78],kf:=[(0,dx),(1,dx),(3,dx),(4,dx),(6,uQ),(7,uQ),(8,uQ),(10,oD),(12,.u [1004] false),(13,uQ),(14,uQ),(15,.u [1003] false)],ps:=[(78,bq)]})::(7548,{ow:=[89],ps:=[(89,bq)]})::(15098,{ow:=[91],ps:=[(91,bq)]})::(30199,{rd:=[115]})::(60397,{cut:=[(.normal,⟨[cK,fI,(8,dT)],aeJ⟩)]})::(120794,{loop:=some ⟨[jc,cK,fI,sZ,(8,dT),nk],aeJ⟩})::aey) 247 ⟨((0,.agg Ce)::jc::js),Vp⟩ [(false,⟨[(3000006,.agg Ce)],Vp⟩)] (λo=>(o.1,o.2.1,o.2.2.1,o.2.2.2.1,o.2.2.2.2.1,o.2.2.2.2.2.1,o.2.2.2.2.2.2.1,o.2.2.2.2.2.2.2.1,o.2.2.2.2.2.2.2.2.1,o.2.2.2.2.2.2.2.2.2.1,o.2.2.2.2.2.2.2.2.2.2.1,o.2.2.2.2.2.2.2.2.2.2.2.1)) (λr=>(r.1,r.2.1,r.2.2.1,r.2.2.2.1,r.2.2.2.2.1,r.2.2.2.2.2.1,r.2.2.2.2.2.2.1,r.2.2.2.2.2.2.2.1,r.2.2.2.2.2.2.2.2.1,r.2.2.2.2.2.2.2.2.2.1,r.2.2.2.2.2.2.2.2.2.2.1,r.2.2.2.2.2.2.2.2.2.2.2,())) (λ_=>rfl) (λx=>y7 x.1 x.2.1 x.2.2.1 x.2.2.2.1 x.2.2.2.2.1 x.2.2.2.2.2.1 x.2.2.2.2.2.2.1 x.2.2.2.2.2.2.2.1 x.2.2.2.2.2.2.2.2.1 x.2.2.2.2.2.2.2.2.2.1 x.2.2.2.2.2.2.2.2.2.2.1 x.2.2.2.2.2.2.2.2.2.2.2.1 x.2.2.2.2.2.2.2.2.2.2.2.2.1)
def akr:FS:=mkQ [P3,kS,kR,qd,Dy,akq,aim,aik,QU] [(30,{post:=[.oG 702 (.row [] 191 (.pair .str (.pair .str (.sl .str))) []),.oG 703 (.row [] 191 (.pair .str (.pair .str (.sl .str))) []),.oG 705 (.row [] 191 (.pair .str (.pair .str (.sl .str))) []),.oG 704 (.bI [] 138 (.pair .str (.sl (.pair .str (.pair .str (.sl .str))))) true [] [.v .str [],.ow 705 0 .all]),.da 6 1 701 (.bI [] 134 (.pair .str (.pair .str (.pair .str (.pair .str (.pair .bool (.pair (.sl (.pair .str (.pair .str (.sl .str)))) (.pair (.sl (.pair .str (.pair .str (.sl .str)))) (.sl (.pair .str (.sl (.pair .str (.pair .str (.sl .str))))))))))))) true [] [.v .str [],.v .str [],.v .str [],.v .str [],.v .bool false,.ow 702 0 .all,.ow 703 0 .all,.ow 704 0 .all])]}),(116,u9),(125,{cut:=[(.normal,⟨[bR,cK,(4,jV),fI],aeP⟩),(.ret,⟨[bR,cK],[(2,UL),(3,nv)]⟩)]}),(250,{loop:=some ⟨(bR::cK::(4,jV)::fI::iz),aeP⟩}),aei,(16018,{ow:=[34],ps:=[(34,[(1000,32)])]}),(128158,{ow:=[74],ps:=[(74,[(1000,32)])]}),(256318,{ow:=[76],ps:=[(76,[(1000,32)])]}),(1025253,{ow:=[60],ps:=[(60,[(1000,32)])]}),(1025276,{kf:=[(3,.q [32]),(4,.q [32]),(5,rl),(6,uX)]}),(2050510,{cn:=[(2,[702,703,704,705])],ps:=[(67,[(1001,701),(1020,32),(5002,702),(5003,703),(5004,704),(5005,705)])]}),(4101010,{ow:=[58],ps:=[(58,[(1000,32)])]}),(8202046,{ow:=[72],ps:=[(72,[(1000,32)])]}),(8202047,{ow:=[50],kf:=[(0,.q [6]),(1,.q [6]),(4,.q [6]),(5,.q [6]),(8,.q [701]),(9,.q [701]),(12,.u [702,703,704,705,32] false),(13,.q [701]),(14,.u [701] false)],cs:=some (9,[102,101,97,116,117,114,101],[.ba 705]),ps:=[(50,[(1001,702),(1002,703),(1003,704),(1004,705),(1020,32)])]})] 166 cJ [(false,⟨((3000002,.st u4)::uV),[]⟩)] (k1 zT)
def alE:FS:=mkQ [qy,akr,XV,ako] [(509,{cut:=[(.normal,⟨[fI,(11,gX),(12,GU)],[(6,.var 113 Of),(12,aex),(74,.row 252 u4)]⟩),(.ret,⟨[fI,(7,nx)],[(6,.var 113 Of)]⟩)]}),(511,{pre:=[.ba 74]}),(1018,{pre:=[.dz 13 69 (.row [] 9 .str []),.da 12 6 74 (.row [] 252 u4 [])],loop:=some ⟨[(2,eu),fI,(11,gX),(12,GU),(13,.c (.own 69)),mn],[(6,.var 113 Of),(12,aex),(69,dJ),(74,.row 252 u4)]⟩}),(130340,{rd:=[62]})] 87 ⟨(dH::dy::uO),[]⟩ [(false,⟨[(3000006,.st (.pair OR (.pair .str (.sl u4)))),(7,gX)],[]⟩)] (k3 FC)
def ai6:FS:=mkG [] [] 333 ⟨[(0,BZ)],[]⟩ gD (k1 En)
def ai5:FS:=mkQ [ai6,J6] [(61,{cut:=[(.normal,⟨[ga,eM,fI],OV⟩),adN]}),(63,{pre:=[.ba 85,.ba 92]}),(122,{pre:=[.da 6 1 85 (.row [] 9 .str []),.da 6 2 92 (.row [] 3 eF [])],loop:=some ⟨(nr::dy::ga::eM::fI::iz),OV⟩}),(7830,{cut:=[(.normal,Vg)]}),(15660,{loop:=some Vg}),(62653,{cut:=[(.normal,Vg),adN]}),(125306,{loop:=some ⟨(nr::dy::ga::eM::fI::sZ::u7),OV⟩})] 234 ⟨[nr,dy],[]⟩ [adM] (k2 zn)
def ajN:FS:=mkQ [ai5,J6] [(29,{cut:=[(.normal,⟨[eM,(6,GN)],[G5,(47,.row 291 te)]⟩),(.ret,⟨[(4,xt),eM],[G5]⟩)]}),(31,{pre:=[.ba 47]}),(58,{pre:=[.dz 6 47 (.row [] 291 te [])],loop:=some ⟨[bW,eM,(6,GN),sZ,(8,dT)],[G5,(47,.row 291 te)]⟩})] 149 G3 [(false,⟨[(4,jV),(3000005,Hv)],[]⟩)] (k2 Q2)
end
end Go.Proofs.YtejhifnjgoclpaaGreatDoor.Fx
