/- Parts of the proofs, put together by a program. -/
import Derived.Test.YtejhifnjgoclpaaGreatDoorS30
set_option linter.unusedVariables false
set_option linter.unusedSimpArgs false
open Option renaming bind_some->ae2
open List renaming length_map->ae4,getElem_of_mem->au8,length_nil->av2,any_eq_false->aA1
open Nat renaming le_refl->ae5,lt_trichotomy->ay7
open Bool renaming not_true->ae8,not_false->as4,and_self->ax1
namespace Go.Proofs.YtejhifnjgoclpaaGreatDoor.Fx
open Go.RowKit
set_option maxRecDepth 1000000
noncomputable section
abbrev gW:=List Bool
def DE:Lp (Int×bK×aK×aS×ae×p5) jr:=fun(i,D,U,F,M,N,_)=>bif decide (i<(F.length:Int)) then(ag F i).bind fun O=>bif (decide (O.1=M)&&decide (O.2=N)) then J (aa .i64 ((D.length:Int)+i))<|J (aa .i64 (((D.length:Int)+i)+1))<|some (.inr (.inr ((((D.length:Int)+i)+1),()))) else J (aa .i64 (i+1))<|some (.inl ((i+1),D,U,F,M,N,())) else some (.inr (.inl (())))
def mz (c:mY) (t:iw):bH:=(ab DE (0,c.1,c.2.1,c.2.2,t.1,t.2,())).bind fun o=>match o with|.inl (_)=>some 0|.inr (D,_)=>some D
def nN (c:mY):bH:=J (aa .i64 ((c.1.length:Int)+(c.2.2.length:Int)))<|some ((c.1.length:Int)+(c.2.2.length:Int))
def oW (c:xj):Option (Ux×cS×mY×Unit⊕Ux×mY×Unit):=(vJ c).bind fun read=>bif !read.2 then some (.inr (read.1,([],[],[]),())) else(FR read.1.2.2.1 read.1.2.2.2).bind fun new=>(zF read.1.1 read.1.2.1).bind fun o=>match o with|.inl (D,F,_)=>bif !decide (F=0) then some (.inr (read.1,new,())) else some (.inl (read.1,D,new,()))|.inr (J,_)=>bif !decide (J=0) then some (.inr (read.1,new,())) else some (.inr (read.1,new,()))
def tq (c:cS) (v:Int):Option (iw×Bool):=bif decide (v<=(c.1.length:Int)) then some (([],[]),false) else(oR c).bind fun vars=>bif decide (vars<v) then some (([],[]),false) else J (aa .i64 (v - (c.1.length:Int)))<|J (aa .i64 ((v - (c.1.length:Int)) - 1))<|(ag c.2.2 ((v - (c.1.length:Int)) - 1)).bind fun D=>some (D,true)
def CS (D:kL):UE:=some ([],false)
def C2 (v:Int):Option (iw×Bool):=some (([],[]),false)
def Db:bH:=some 0
def Dc (x:iw):bH:=some 0
def C3:lr:=some []
def CT (values:gW):nh:=some []
def Jw (x:xj×Int×iw):bz:=let M:cS->mY->iw×Bool->bz:=fun F D want=>(CS (1,0,0,0,0)).bind fun clause=>(C2 x.2.1).bind fun az=>(qe F x.2.2).bind fun ah=>(mz D x.2.2).bind fun an=>bif decide (ah=an) then Db.bind fun av=>bif decide (av=0) then(Dc want.1).bind fun ar=>bif decide (ar=0) then C3.bind fun facts=>bif decide ((facts.length:Int)=0) then bif !clause.2 then bif !az.2 then(CT ([true]:gW)).bind fun choice=>some (decide ((choice.length:Int)=0)) else some false else some false else some false else some false else some false else some false;(oW x.1).bind fun o=>match o with|.inl (both,F,D,_)=>eO.bind fun N=>bif !N then eO.bind fun O=>some O else(tq F x.2.1).bind fun want=>bif decide ((D.1.length:Int)<x.2.1) then(nN D).bind fun vars=>bif !(want.2==(decide (x.2.1<=vars))) then some false else bif decide (x.2.1<=vars) then J (aa .i64 (x.2.1 - (D.1.length:Int)))<|J (aa .i64 ((x.2.1 - (D.1.length:Int)) - 1))<|(ag D.2.2 ((x.2.1 - (D.1.length:Int)) - 1)).bind fun aE=>bif !decide (want.1.1=aE.1) then some false else J (aa .i64 (x.2.1 - (D.1.length:Int)))<|J (aa .i64 ((x.2.1 - (D.1.length:Int)) - 1))<|(ag D.2.2 ((x.2.1 - (D.1.length:Int)) - 1)).bind fun a1=>bif !decide (want.1.2=a1.2) then some false else(qe F want.1).bind fun var=>bif !decide (var=x.2.1) then some false else bif !(decide (x.2.1<=vars)) then bif !((decide (want.1.1=[])&&decide (want.1.2=[]))) then some false else M F D want else M F D want else bif !(decide (x.2.1<=vars)) then bif !((decide (want.1.1=[])&&decide (want.1.2=[]))) then some false else M F D want else M F D want else bif !(want.2==false) then some false else bif !((decide (want.1.1=[])&&decide (want.1.2=[]))) then some false else M F D want|.inr (a6,a7,_)=>eO.bind fun U=>bif !U then eO.bind fun Y=>some Y else eO.bind fun Z=>some Z
theorem FO (A:List aq) (hA:bu A) (R:List al) (hR:bM R):oR (bn A R)=some ((A.length+(ax A R).length:Nat):Int)/\nN (ij A R)=some ((A.length+(ax A R).length:Nat):Int):=by
 have hs:=hA.many;have D:=Ar A hA R hR;refine⟨?_,?_⟩
 · unfold oR bn;show J (aa .i64 (((A.map bN).length)+((ax A R).length))) _=_;rw[ae4,ai (bd (by omega))]
   rfl
 · unfold nN ij;show J (aa .i64 (A.length+((ax A R).length))) _=_;rw[ai (bd (by omega))];rfl
def cN (n:Nat) (T:bf) (w:Want):Int:=if bG T (fun x=>decide (x=w))<0 then 0 else(n:Int)+bG T (fun x=>decide (x=w))+1
theorem SX (A:List aq) (R:List al) (T:bf) (hA:A.length<=360) (hT:T.length<=60000) (w:Want):mz (A,R,T) w=some (cN A.length T w):=by
 unfold mz;have main:=iT (f:=DE) T (fun x=>decide (x=w)) (fun k=>(k,A,R,T,w.1,w.2,())) (fun k=>.inr (A.length+k+1,())) (.inl ()) ?_ ?_ ?_
 · rw[kj main ?st]
   case st=>rfl
   unfold cN;rcases kX T (fun x=>decide (x=w)) with⟨_,q⟩ |⟨j,F,f,q,_,_⟩
   · grind
   · grind
 · intro k hk hp;have hp:=of_decide_eq_false hp;have D:(decide ((T[k]).1=w.1)&&decide ((T[k]).2=w.2))=false:=by grind
   simp (disch:=omega) only[K0,DE,D]
 · intro k hk hp;have hp:=of_decide_eq_true hp;have D:(decide ((T[k]).1=w.1)&&decide ((T[k]).2=w.2))=true:=by rw[hp,dY rfl,dY rfl];rfl
   simp (disch:=omega) only[K0,DE,D]
 · simp[DE]
theorem Sa (a b:Want):D4 a b=some (cT a b):=by grind[D4,DR,Lc]
theorem mv.nth {T:bf} (h:mv T) {i j:Nat} (D:i<j) (F:j<T.length):cT (T[i]'(by omega)) T[j]<0:=List.pairwise_iff_getElem.1 h i j (by omega) F D
theorem am3 (T:bf) (hs:mv T) (hT:T.length<=60000) (w:Want): ∃i:Int,Ir T w=some (i,T.any fun x=>decide (x=w))/\(T.any (fun x=>decide (x=w))=true->i=bG T fun x=>decide (x=w)):=by
 have main:=mF (f:=CH)
  (fun v=> ∃i j:Nat,v=(T,(T.length:Int),(i:Int),(j:Int),w.1,w.2,())/\i<=j/\j<=T.length/\(∀t (h:t<T.length),t<i->cT T[t] w<0)/\(∀t (h:t<T.length),j<=t-> ¬cT T[t] w<0))
  (fun v=>(v.2.2.2.1 - v.2.2.1).toNat)
  (fun r=> ∃i:Nat,r=(T,(T.length:Int),(i:Int),w.1,w.2,())/\i<=T.length/\(∀t (h:t<T.length),t<i->cT T[t] w<0)/\(∀t (h:t<T.length),i<=t-> ¬cT T[t] w<0)) ?_
  (T,(T.length:Int),0,(T.length:Int),w.1,w.2,()) ⟨0,T.length,rfl,Nat.zero_le _,ae5 _,fun t h q=>absurd q (by omega),fun t h q=>absurd q (by omega)⟩
 · obtain⟨r,Z,i,rfl,hi,N,up⟩:=main;unfold Ir;rw[Z,ae2];by_cases h:i<T.length
   · simp only[dY (show((i:Nat):Int)<(T.length:Int) by omega),cond_true,au h,Sa,ae2]
     by_cases e:cT T[i] w=0
     · have M:=KT e;have F:(T.any fun x=>decide (x=w))=true:=List.any_eq_true.2 ⟨T[i],List.getElem_mem h,decide_eq_true M⟩;refine⟨(i:Int),by rw[F];show some ((i:Int),decide (cT T[i] w=0))=_;rw[dY e],fun _=>?_⟩
       rcases kX T (fun x=>decide (x=w)) with⟨q,_⟩ |⟨j,D,_,q,p,_⟩
       · rw[F] at q;cases q
       · rw[q];have p:=of_decide_eq_true p;have U:cT T[j] w=0:=by rw[p];exact ke.self w
         rcases ay7 i j with d |d |d
         · have:=hs.nth d D;rw[p] at this;omega
         · rw[d]
         · have:=hs.nth d h;rw[M] at this;omega
     · have F:(T.any fun x=>decide (x=w))=false:=by
         rw[aA1];intro x O q;obtain⟨j,D,rfl⟩:=au8 O;have q:=of_decide_eq_true q;have U:cT T[j] w=0:=by rw[q];exact ke.self w
         rcases ay7 i j with d |d |d
         · have:=hs.nth d D;rw[q] at this;exact up i h (ae5 _) this
         · subst d;exact e U
         · have:=N j D d;omega
       refine⟨(i:Int),by rw[F];show some ((i:Int),decide (cT T[i] w=0))=_;rw[dN e],fun q=>by rw[F] at q;cases q⟩
   · have F:(T.any fun x=>decide (x=w))=false:=by
       rw[aA1];intro x O q;obtain⟨j,D,rfl⟩:=au8 O;have q:=of_decide_eq_true q;have U:cT T[j] w=0:=by rw[q];exact ke.self w
       have:=N j D (by omega)
       omega
     refine⟨(i:Int),?_,fun q=>by rw[F] at q;cases q⟩
     simp only[dN (show¬((i:Nat):Int)<(T.length:Int) by omega),cond_false]
     rw[F]
 · rintro v ⟨i,j,rfl,ah,D,N,up⟩;by_cases d:i<j
   · have c1:aa .i64 ((i:Int)+(j:Int)):=bd (by omega)
     have hm:(i+j)/2<T.length:=by omega
     have Y: ∀{R:Type} (q:Option R),J (aa .i64 (((i+j)/2+1:Nat):Int)) q=q:=fun q=>aw (show(i+j)/2+1<=4611686018427387904 by omega)
     have hc:=aH ((i+j)/2);have M:(w.1,w.2)=w:=rfl;by_cases g:cT T[(i+j)/2] w<0
     · refine .inl ⟨(T,(T.length:Int),(((i+j)/2+1:Nat):Int),(j:Int),w.1,w.2,()),?_,⟨(i+j)/2+1,j,rfl,by omega,D,fun t h q=>?_,up⟩,?_⟩
       · simp only[CH,dY (show(i:Int)<(j:Int) by omega),cond_true,ai c1,ai (show(0:Int)<=1 by decide),AA i j (by omega),au hm,M,Sa,ae2,dY g,hc,Y]
       · by_cases e:t=(i+j)/2
         · subst e;exact g
         · exact ke.xN (hs.nth (show t<(i+j)/2 by omega) hm) (by omega)
       · show((j:Int) - (((i+j)/2+1:Nat):Int)).toNat<((j:Int) - (i:Int)).toNat;omega
     · refine .inl ⟨(T,(T.length:Int),(i:Int),(((i+j)/2:Nat):Int),w.1,w.2,()),?_,⟨i,(i+j)/2,rfl,by omega,by omega,N,fun t h q=>?_⟩,?_⟩
       · simp only[CH,dY (show(i:Int)<(j:Int) by omega),cond_true,ai c1,ai (show(0:Int)<=1 by decide),AA i j (by omega),au hm,M,Sa,ae2,dN g,cond_false]
       · by_cases e:t=(i+j)/2
         · subst e;exact g
         · intro z;have:=hs.nth (show(i+j)/2<t by omega) h
           exact g (ke.xN this (by omega))
       · show((((i+j)/2:Nat):Int) - (i:Int)).toNat<((j:Int) - (i:Int)).toNat;omega
   · have e:i=j:=by omega
     subst e;refine .inr ⟨(T,(T.length:Int),(i:Int),w.1,w.2,()),?_,i,rfl,D,N,up⟩;simp only[CH,Int.lt_irrefl,decide_false,cond_false]
theorem var_eq (c:pt) (hs:mv c.2.2) (hT:c.2.2.length<=60000) (M:c.1.length<=360) (w:Want):qe c w=some (cN c.1.length c.2.2 w):=by
 unfold qe cN;obtain⟨i,F,D⟩:=am3 c.2.2 hs hT w;rw[F];rcases kX c.2.2 (fun x=>decide (x=w)) with⟨q,p⟩ |⟨j,J,_,p,_,q⟩
 · grind
 · have D:=D q;rw[p] at D;rw[p];subst D;have c1:aa .i64 (c.1.length+j):=bd (by omega)
   simp (disch:=omega) only[K0,q]
theorem aq0 (A:List aq) (R:List al):(bn A R).2.2=ax A R:=rfl
theorem aaZ (A:List aq) (hA:bu A) (R:List al) (hT:(ax A R).length<=400) (w:Want):qe (bn A R) w=some (cN A.length (ax A R) w):=by
 have hs:=hA.many;have:=var_eq (bn A R) (Kl _) (show(ax A R).length<=60000 by omega) (by rw[nV,ae4];exact hs) w
 rw[nV,ae4] at this;exact this
section
variable (A:List aq) (hA:bu A) (R:List al) (hR:bM R) (hT:(ax A R).length<=400)
include hA
end
theorem SJ (A:List aq) (R:List al) (j:Nat) (F:j<(ax A R).length):cN A.length (ax A R) (ax A R)[j]=(A.length:Int)+(j:Int)+1:=by
 have hs:mv (ax A R):=Kl _;unfold cN;rcases kX (ax A R) (fun x=>decide (x=(ax A R)[j])) with⟨q,_⟩ |⟨i,D,_,q,p,_⟩
 · grind
 · have p:=of_decide_eq_true p
   have:i=j:=by
    rcases ay7 i j with d |d |d
    · have:=hs.nth d F;rw[p,ke.self] at this;omega
    · omega
    · have:=hs.nth d D;rw[p,ke.self] at this;omega
   omega
theorem RF (p t:List UInt8) (J:List (List UInt8)) (m:List UInt8):
  (∃A R,bu A/\bM R/\(ax A R).length<=400/\A.length+(ax A R).length<=400/\oW ((p,t,J),m)=some (.inl ((A.map bN,R.map aO,A,R),bn A R,ij A R,())))\/
  pn (oW ((p,t,J),m)) (fun o=> ∃b,o=.inr b):=by
 unfold oW;rcases RE p t J m with⟨A,R,hA,hR,F⟩ |F
 · have hs:=hA.many;have N:=S8 A hA R hR;have M:=TF A hA R hR;simp only[F,ae2,ae8,cond_false,N,M];by_cases e:400<A.length+(ax A R).length
   · rw[if_pos e];refine .inr ?_;simp only[ae2];rw[dN (show¬(2:Int)=0 by decide)]
     exact⟨_,rfl⟩
   · rw[if_neg e];obtain⟨D,f1,_,_⟩:=L2 A hA R hR (by omega)
     rw[f1,ae2];by_cases Y:8000<D.length
     · rw[dY (show(8000:Int)<(D.length:Int) by omega),cond_true]
       refine .inr ?_;simp only[ae2];rw[dN (show¬(2:Int)=0 by decide)]
       exact⟨_,rfl⟩
     · rw[dN (show¬(8000:Int)<(D.length:Int) by omega),cond_false]
       refine .inl ⟨A,R,hA,hR,by omega,by omega,?_⟩
       simp only[ae2,decide_true,ae8,cond_false];rfl
 · obtain⟨x,O,U⟩:=jj F;refine .inr ?_;simp only[O,ae2,U,as4,cond_true];exact⟨_,rfl⟩
theorem ahT (x):Jw x=some true:=by
 obtain⟨⟨⟨⟨p,t,av⟩,m⟩,v,w⟩,rfl⟩: ∃y,y=x:=⟨x,rfl⟩;have J:=ET;unfold Jw;rcases RF p t av m with⟨A,R,hA,hR,hT,_,D⟩ |D
 · have hs:=hA.many;have M:=FO A hA R hR;have F:(bn A R).1.length=A.length:=by rw[nV,ae4]
   have Y: ∀w,mz (ij A R) w=some (cN A.length (ax A R) w):=fun w=>SX A R (ax A R) hs (by omega) w
   have Z: ∀w,qe (bn A R) w=some (cN A.length (ax A R) w):=fun w=>aaZ A hA R hT w;have d1:(ij A R).1.length=A.length:=rfl;have d3:(ij A R).2.2=ax A R:=rfl;by_cases N:v<=(A.length:Int)
   · have hw:tq (bn A R) v=some (([],[]),false):=by
       unfold tq;rw[dY (show v<=((bn A R).1.length:Int) by rw[F];exact N)];rfl
     simp only[D,ae2,J,ae8,cond_false,hw,d1,dN (show¬(A.length:Int)<v by omega),BEq.rfl,decide_true,ax1,CS,C2,Db,Dc,C3,CT,Z,Y,cond_true,as4,av2,Int.ofNat_zero]
   · by_cases e2:v<=((A.length+(ax A R).length:Nat):Int)
     · obtain⟨j,hj⟩: ∃j:Nat,v - (A.length:Int) - 1=(j:Int):=⟨(v - (A.length:Int) - 1).toNat,by omega⟩
       have U:j<(ax A R).length:=by omega
       have c1:aa .i64 (v - (A.length:Int)):=bd (by omega)
       have c2:aa .i64 (v - (A.length:Int) - 1):=bd (by omega)
       have hw:tq (bn A R) v=some ((ax A R)[j],true):=by unfold tq;rw[dN (show¬v<=((bn A R).1.length:Int) by rw[F];exact N),cond_false,M.1,ae2,dN (show¬((A.length+(ax A R).length:Nat):Int)<v by omega),cond_false,F,ai c1,ai c2,hj,aq0,au U]
       have ah:aa .i64 ((j:Nat):Int):=bd (by omega)
       have an:=SJ A R j U;have ar:cN A.length (ax A R) (ax A R)[j]=v:=by rw[an];omega
       have O:decide (v<=((A.length+(ax A R).length:Nat):Int))=true:=dY e2 _;simp only[D,ae2,J,ae8,cond_false,hw,d1,d3,dY (show(A.length:Int)<v by omega),M.2,O,BEq.rfl,ai c1,hj,ai ah,au U,decide_true,ax1,Z,ar,CS,C2,Db,Dc,C3,CT,Y,cond_true,as4,av2,Int.ofNat_zero]
     · have hw:tq (bn A R) v=some (([],[]),false):=by
         unfold tq;rw[dN (show¬v<=((bn A R).1.length:Int) by rw[F];exact N),cond_false,M.1,ae2,dY (show((A.length+(ax A R).length:Nat):Int)<v by omega)];rfl
       have O:decide (v<=((A.length+(ax A R).length:Nat):Int))=false:=dN e2 _;simp only[D,ae2,J,ae8,cond_false,hw,d1,d3,dY (show(A.length:Int)<v by omega),M.2,O,BEq.rfl,decide_true,ax1,CS,C2,Db,Dc,C3,CT,Z,Y,cond_true,as4,av2,Int.ofNat_zero]
 · obtain⟨o,ho,b,rfl⟩:=jj D;obtain⟨b1,b2,b3⟩:=b;simp only[ho,ae2,J,ae8,cond_false]
abbrev sW:SS:=.c (.v (.sl .bool))
def JZ:FS:=mkG [] [lI,(26,{loop:=some ⟨(bR::cK::eB),[(2,kO),Hh]⟩})] 33 ⟨(sN::B0),[]⟩ dA fun x=>mz x.1 x.2.1
def PZ:FS:=mkG [] [] 15 ⟨[sN],[]⟩ rm fun x=>nN x.1
def Kp:FS:=mkHh [Qq,PS,YA] [(254,{kf:=[(0,.q [6]),(2,.q [8]),(3,rl),(5,.u [4] false)]}),(1012,{kf:=[(0,.q [6]),(1,.q [8]),(2,rl),(4,.u [4] false)]})] 24 ⟨[B4],[]⟩ [(false,⟨[Vr,(3,uP),(3000004,Ou),(5,xx)],[]⟩),(false,⟨[Vr,(3,.c .np),(3000004,Ou),(5,nx)],[]⟩)] (id) (id) (fun _=>rfl) (fun x=>oW x.1)
def ahm:FS:=mkHh [yz] [] 31 N8 [(false,⟨[(3000004,.st jB),ni],[]⟩)] (fun o=>(o.1,o.2.1)) (fun r=>(r.1,r.2,())) (fun _=>rfl) (fun x=>tq x.1 x.2.1)
def agb:FS:=mkHh [] [] 21 ⟨((0,.c .np)::BL),[]⟩ [(false,⟨[(4,eV),ni],[]⟩)] (fun o=>(o.1,o.2.1)) (fun r=>(r.1,r.2,())) (fun _=>rfl) (fun x=>CS x.1)
def agy:FS:=mkHh [] [] 31 ⟨[(0,.c .np),bW],[]⟩ [(false,⟨[(3000004,.st jB),ni],[]⟩)] (fun o=>(o.1,o.2.1)) (fun r=>(r.1,r.2,())) (fun _=>rfl) (fun x=>C2 x.1)
def agL:FS:=mkG [] [] 16 ⟨[(0,.c .np)],[]⟩ rm fun x=>Db
def agM:FS:=mkG [] [] 32 ⟨((0,.c .np)::B0),[]⟩ dA fun x=>Dc x.1
def agz:FS:=mkG [] [] 17 ⟨[(0,.c .np)],[]⟩ [(false,⟨[(2,oE)],[]⟩)] fun x=>C3
def agc:FS:=mkG [] [] 25 ⟨[(0,.c .np),(1,sW)],[]⟩ B9 fun x=>CT x.1
def Wg:FS:=mkG [agc,agb,agz,PT,agM,agL,ahm,agy,Kp,DQ,JZ,PZ] [(6,{kf:=[(0,.q [1]),(1,.q [1]),(2,.q [1]),(3,.q [1]),(4,.q [1]),(5,.q [1]),(6,.q [1]),(7,.q [1]),(8,.n 3),(9,uX)]})] 7 ⟨[(0,.st (.pair (.pair kN .str) (.pair eF jB)))],[]⟩ gD fun x=>Jw x.1
section
open Go.WideShapes
section
variable {H:Type} {enc:TypeId×Value->H} {W:World} {base:Nat} {sp:Nat->Bool} {held:Bool}
theorem An {n:Nat} {v:Value} {y:DataW H×List MemPlace} (h:DataW.trod enc Tryz.prog W base sp held n 3 [v]=some y): ∃s:Int,v=.int .i64 s:=by obtain⟨s,e,_⟩:=DataW.trod_int Tryz.underlying3 h;simp only[List.cons.injEq,and_true] at e;exact⟨s,e⟩
theorem A6:Tryz.prog.cellsOf 3=1:=by kernel_rfl
end
end
section
open Go.WideShapes
theorem encodeNames_walk (p t m J D:ByteArray) (N:List (List UInt8)) (M:Value) (v:Int) (w:World) (hr:RowOf 1 StrC w M N) (ht:TabOk w.heap[tabB]?):
  Calls Tryz.prog 7 #[.agg #[.string p,.string t,M,.string m,.int .i64 v,.string J,.string D]] w fun e w'=>e=.returned (.bool true)/\Below w.heap.size w w':=by
 have Y:Wg.F _ ((((p.data.toList,t.data.toList,N),m.data.toList),v,J.data.toList,D.data.toList),()) some=some (true,()):=by show(Jw _).bind _=_;rw[ahT];rfl
 obtain⟨o,h1,h2⟩:=Wg.ok _ _ _ _ Y;have O:=(Option.some.inj h1);subst O;have U:fo Tryz.prog 7 [.agg [.v .str p.data.toList,.v .str t.data.toList,.v (.sl .str) N,.v .str m.data.toList,.v (.int .i64) v,.v .str J.data.toList,.v .str D.data.toList]] [] (.ret (.c (.v .bool true)) []):=h2;refine(U.run (A:=fun b _=>b<w.heap.size) (w:=w) (vals:=[.agg #[.string p,.string t,M,.string m,.int .i64 v,.string J,.string D]]) (fun _ _ q=>q) ht (.cons ⟨[.string p,.string t,M,.string m,.int .i64 v,.string J,.string D],rfl,.cons (jH p) (.cons (jH t) (.cons (EW hr) (.cons (jH m) (.cons ⟨rfl,rfl⟩ (.cons (jH J) (.cons (jH D) .nil))))))⟩ .nil)).mono ?_;rintro e w' ⟨x,c',rfl,Z,hx⟩;exact⟨by rw[sc hx (v:=.bool true) rfl],Z.below⟩
theorem names_open {H:Type} {enc:TypeId×Value->H} {W:World} {base:Nat} {sp:Nat->Bool} {held:Bool} {cs:Array Value} {d:DataW H} {ps:List MemPlace} (h:DataW.Trod enc Tryz.prog W base sp held 79 (.agg cs) d ps):
  ∃(p t m F D:ByteArray) (O:Value) (ah:List (List UInt8)) (v:Int),cs= #[.string p,.string t,O,.string m,.int .i64 v,.string F,.string D]/\RowOf 1 StrC W O ah:=by
 obtain⟨m,hm⟩:=h;obtain⟨xs,n,_,N,M,Y,hf⟩:=DataW.trod_struct Tryz.underlying79 hm;have hc:Tryz.prog.cellsOf 79=7:=by kernel_rfl
 obtain⟨l⟩:=cs;have U:l.length=7:=(show l.length=_ from M).trans hc
 have J:(Value.agg ⟨l⟩).cells.toList=l:=rfl;rw[J] at hf;have f0:=lU hf 0 rfl (t:=26) (o:=0) rfl rfl ach;have f1:=lU hf 1 rfl (t:=3) (o:=4) rfl rfl A6;have f2:=lU hf 2 rfl (t:=9) (o:=5) rfl rfl A5;have f3:=lU hf 3 rfl (t:=9) (o:=6) rfl rfl A5;clear hf hm M hc J
 match l,U,xs,Y,N with
 |[a0,a1,a2,a3,a4,a5,a6],_,[x0,x1,x2,x3],_,N=>simp only[List.drop_succ_cons,List.drop_zero,List.take_succ_cons,List.take_zero,List.getElem?_cons_zero,List.getElem?_cons_succ] at f0 f1 f2 f3;obtain⟨p,t,m,l,rfl,rfl,rfl,Z⟩:=Yj f0;obtain⟨v,rfl⟩:=An f1;obtain⟨F,rfl⟩:=Fw f2;obtain⟨D,rfl⟩:=Fw f3;exact⟨p,t,m,F,D,a2,l,v,rfl,Z⟩
end
end
end Go.Proofs.YtejhifnjgoclpaaGreatDoor.Fx
